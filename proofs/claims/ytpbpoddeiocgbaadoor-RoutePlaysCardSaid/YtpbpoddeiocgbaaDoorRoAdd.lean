/- Add and Drop: what they answer, and the table behind them. -/
import Derived.Test.YtpbpoddeiocgbaaDoorRoFind
import Derived.Deep.RegionWith
import Derived.Deep.RegionHeld3
set_option linter.unusedVariables false
set_option linter.unusedSimpArgs false
namespace Go.Proofs.YtpbpoddeiocgbaaDoor
open Go.RowKit Go.Maps Go.ChangeMaps Go.Sort Go.Shelf

/-- All bytes are digits. -/
def digB (p : ByteArray) : Bool := (Lib.trimLeftS p.data.toList tenS.data.toList).isEmpty
/-- What Add answers. -/
def addE (mem : Int) (T : List Ent) (p : ByteArray) (xs : List Int) : Int :=
  if p.size = 0 ∨ 8 < p.size ∨ digB p = false then 110
  else if mayB mem xs = false then 112
  else if hasP T p = true then 111
  else if T.length = 32 then 3
  else 0

def Added (g b : Nat) (mem : Int) (T : List Ent) (p : ByteArray) (xs : List Int) (w w' : World) (e : Ending) : Prop :=
  e = .returned (.int .i64 (addE mem T p xs)) ∧ w.grownBy w' (some b) ∧
    if addE mem T p xs = 0 then ∃ v, Tab w' g b mem (T ++ [(p, v, xs)]) ∧ (∀ k, v.ownBlock = some k → w.heap.size ≤ k) else Tab w' g b mem T ∧ Below w.heap.size w w'

theorem Tab.put {w w' : World} {g b : Nat} {mem : Int} {T : List Ent} (h : Tab w g b mem T) {D : DataW Value} (hD : TabIs D (ents T)) {p : ByteArray} {v : Value} {xs : List Int} (hp : hasP T p = false)
    (hm : w'.ownsMap Tryd.prog 9 rawE b (T.length + 1) (D.put (.string p.data.toList) (.held v))) (hg : w.grownBy w' (some b)) (hr : MemRow w' v xs) : Tab w' g b mem (T ++ [(p, v, xs)]) := by
  refine ⟨(hg.block g h.glt (by intro e; injection e with e; exact h.ne e)).trans h.1, ⟨_, by rw [List.length_append]; exact hm, ?_⟩, fun t ht => ?_⟩
  · have := hD.put (s := p) (by simpa [hasP, ents, List.any_map, Function.comp_def] using hp) v
    simpa [ents, keyL] using this
  · rcases List.mem_append.1 ht with h1 | h1
    · exact (h.2.2 t h1).kept hg (fun k e => by injection e with e; subst e; exact h.rowNe (h.2.2 t h1))
    · obtain rfl : t = (p, v, xs) := by simpa using h1
      exact hr

theorem below_drewN0' {B : Nat} (w : World) (n : Nat) : Below B w (w.drewN n) := ⟨rfl, rfl, rfl, Nat.le_refl _, fun _ _ => rfl⟩
theorem toList_size {p : ByteArray} : p.toList.isEmpty = decide (p.size = 0) := by
  rw [ByteArray.toList_eq, Bool.eq_iff_iff, List.isEmpty_iff, decide_eq_true_eq]
  constructor
  · intro h
    have := congrArg List.length h
    simpa using this
  · intro h
    exact List.eq_nil_of_length_eq_zero (by simpa using h)
theorem e110 {mem : Int} {T : List Ent} {p : ByteArray} {xs : List Int} (h : (p.toList.isEmpty = true ∨ 8 < (p.size : Int)) ∨ (!(Lib.trimLeftS p.data.toList tenS.data.toList).isEmpty) = true) : addE mem T p xs = 110 := by
  unfold addE
  rw [if_pos]
  rcases h with (h | h) | h
  · rw [toList_size] at h
    exact .inl (of_decide_eq_true h)
  · exact .inr (.inl (by omega))
  · exact .inr (.inr (by simpa [digB] using h))
theorem okP {p : ByteArray} (h : (p.toList.isEmpty = false ∧ (p.size : Int) ≤ 8) ∧ (!(Lib.trimLeftS p.data.toList tenS.data.toList).isEmpty) = false) : ¬ (p.size = 0 ∨ 8 < p.size ∨ digB p = false) := by
  obtain ⟨⟨h1, h2⟩, h3⟩ := h
  rw [toList_size] at h1
  have h1' := of_decide_eq_false h1
  have h3' : digB p = true := by simpa [digB] using h3
  rintro (h | h | h)
  · exact h1' h
  · omega
  · rw [h3'] at h; cases h
theorem added_no {g b : Nat} {mem : Int} {T : List Ent} {p : ByteArray} {xs : List Int} {w w' : World} {r : Int} (hE : addE mem T p xs = r) (hr : r ≠ 0) (hT : Tab w g b mem T) (hb : Below w.heap.size w w') : Added g b mem T p xs w w' (.returned (.int .i64 r)) := by
  refine ⟨by rw [hE], grown_below hb _, ?_⟩
  rw [if_neg (by rw [hE]; exact hr)]
  exact ⟨hT.below hb, hb⟩
theorem ownLow {w : World} {base : Nat} {e : TypeId} {size n : Nat} {v : Value} {xs : List Value} (h : w.ownsRow base e size v n xs) : w.ownsRow 0 e size v n xs :=
  ⟨h.1, h.2.imp id fun ⟨g, cap, cur, a, hb, r⟩ => ⟨g, cap, cur, a, Nat.zero_le _, r⟩⟩
theorem ownBase {w : World} {base : Nat} {e : TypeId} {size n : Nat} {v : Value} {xs : List Value} (h : w.ownsRow base e size v n xs) (k : Nat) (hk : v.ownBlock = some k) : base ≤ k := by
  rcases h.2 with ⟨rfl, _⟩ | ⟨g, cap, cur, rfl, hb, _⟩
  · simp [Value.ownBlock] at hk
  · have : g = k := by simpa [Value.ownBlock] using hk
    omega
theorem added_yes {g b n : Nat} {mem : Int} {T : List Ent} {p : ByteArray} {xs : List Int} {w w1 w2 w3 : World} {D : DataW Value} {v : Value} {B : Nat} (hE : addE mem T p xs = 0) (hT : Tab w1 g b mem T) (hD : TabIs D (ents T)) (hP : hasP T p = false)
    (hn : xs.length = n) (hn8 : n * 8 ≤ 140737488355328) (hn0 : 0 < n) (hB : Below w.heap.size w w1) (hb1 : Below w1.heap.size w1 w2) (hrow : w2.ownsRow B 3 1 v n (xs.map (Value.int .i64))) (hBB : w.heap.size ≤ B)
    (hm : w3.ownsMap Tryd.prog 9 rawE b (T.length + 1) (D.put (.string p.data.toList) (.held v))) (hg : w2.grownBy w3 (some b)) : Added g b mem T p xs w w3 (.returned (.int .i64 0)) := by
  have hT2 := hT.below hb1
  have hr2 : MemRow w2 v xs := ⟨by rw [hn]; exact ownLow hrow, by omega, by rw [hn]; exact hn8⟩
  have hr3 := hr2.kept hg (fun k e => by injection e with e; subst e; exact hT2.rowNe hr2)
  have hall : Below w.heap.size w w2 := hB.trans (hb1.mono hB.size)
  refine ⟨by rw [hE], (grown_below hall (some b)).trans hg, ?_⟩
  rw [if_pos hE]
  exact ⟨v, hT2.put hD hP hm hg hr3, fun k hk => Nat.le_trans hBB (ownBase hrow k hk)⟩
set_option maxHeartbeats 1000000 in
set_option maxRecDepth 100000 in
theorem add_any (g b n c : Nat) (mem : Int) (T : List Ent) (p : ByteArray) (A : Option Addr) (xs : List Int) (w : World) (h : Tab w g b mem T) (hp : p.size ≤ maxLen) (hx : IntsAt w A n xs) (hnc : n ≤ c) (hn8 : n * 8 ≤ 140737488355328) (hT32 : T.length ≤ 32) :
    Calls Tryd.prog 15 #[.pointer (some ⟨g, 0, none⟩), .agg #[.string p, .slice A n c]] w fun e w' => Added g b mem T p xs w w' e := by
  have hT := Lib.hid h
  clear h
  unfold maxLen at hp
  go_enter Tryd.func15, Tryd.ntmps15
  go_wp2_with (go_at_call 25; refine (trim_any p _).mono ?_; rintro e w1 ⟨rfl, hb1⟩)
  have hT1 := Lib.hid ((hT.out.alloc (.cells #[.string p, .slice A n c] 32)).below hb1)
  have r0 : w1.cell? ⟨w.heap.size, 0, none⟩ = some (.string p) := by rw [hb1.cell (by simp)]; simp
  have r1 : w1.cell? ⟨w.heap.size, 1, none⟩ = some (.slice A n c) := by rw [hb1.cell (by simp)]; simp
  have hc0 := hT1.out.c0
  have hc1 := hT1.out.c1
  have hL := fun n => (hT1.out.drewN n).look p hp
  have hx1 : IntsAt w1 A n xs := ⟨hx.1, fun hn => by
    obtain ⟨kb, off, e, hc⟩ := hx.2 hn
    refine ⟨kb, off, e, fun j hj => ?_⟩
    have hc2 := hc j hj
    have hlt : kb < w.heap.size := World.block_lt_of_cell? w ⟨kb, off + j, none⟩ hc2
    rw [hb1.cell (by simp; omega), World.cell?_alloc_lt w _ _ hlt]
    exact hc2⟩
  have HX := Lib.hid hx1
  clear hx1 hx
  generalize hv : findV T p = fv at hL
  clear hv
  go_quiet (fail)
  have hb2' : ∀ q, Below w.heap.size w (w1.drewN q) := fun q => (((Below.refl _ _).alloc (Nat.le_refl _) _).trans (hb1.mono (by simp))).trans (below_drewN0' w1 q)
  have HB2 := Lib.hid hb2'
  clear hb2'
  obtain ⟨D, hmap, hTD⟩ := hT1.out.2.1
  have HM := Lib.hid hmap
  clear hmap
  go_wp2_with (first | (at_len; refine wpList_len_own _ rfl _ 52 rfl 9 28 Tryd.underlying52 rawE b T.length D rfl HM.out ?_) | (go_at_call 26; refine (may_any g n c mem A xs _ (by exact hc0) (by exact HX.out) hnc (by omega)).mono ?_; rintro e w' ⟨rfl, rfl⟩))
  · rename_i h1
    go_ret
    exact added_no (r := 110) (e110 (.inl (.inl (by simp [h1])))) (by decide) hT.out (HB2.out _)
  · rename_i h1
    go_ret
    exact added_no (r := 110) (e110 h1) (by decide) hT.out (HB2.out _)
  · have h1 : ((p.toList.isEmpty = false ∧ (p.size : Int) ≤ 8) ∧ (!(Lib.trimLeftS p.data.toList tenS.data.toList).isEmpty) = false) := by assumption
    have h2 : (!mayB mem xs) = true := by assumption
    go_ret
    exact added_no (r := 112) (by unfold addE; rw [if_neg (okP h1), if_pos (by simpa using h2)]) (by decide) hT.out (HB2.out _)
  · have h1 : ((p.toList.isEmpty = false ∧ (p.size : Int) ≤ 8) ∧ (!(Lib.trimLeftS p.data.toList tenS.data.toList).isEmpty) = false) := by assumption
    have h2 : (!mayB mem xs) = false := by assumption
    have h3 : hasP T p = true := by assumption
    go_ret
    exact added_no (r := 111) (by unfold addE; rw [if_neg (okP h1), if_neg (by simpa using h2), if_pos h3]) (by decide) hT.out (HB2.out _)
  · have h1 : ((p.toList.isEmpty = false ∧ (p.size : Int) ≤ 8) ∧ (!(Lib.trimLeftS p.data.toList tenS.data.toList).isEmpty) = false) := by assumption
    have h2 : (!mayB mem xs) = false := by assumption
    have h3 : hasP T p = false := by assumption
    have h4 : ((Maps.size D : Int) == 32) = true := by assumption
    go_ret
    exact added_no (r := 3) (by unfold addE; rw [if_neg (okP h1), if_neg (by simpa using h2), if_neg (by simp [h3]), if_pos]; have := hTD.size; simp [ents] at this; simp at h4; omega) (by decide) hT.out (HB2.out _)
  · have h1 : ((p.toList.isEmpty = false ∧ (p.size : Int) ≤ 8) ∧ (!(Lib.trimLeftS p.data.toList tenS.data.toList).isEmpty) = false) := by assumption
    have h2 : (!mayB mem xs) = false := by assumption
    have h3 : hasP T p = false := by assumption
    have h4 : ((Maps.size D : Int) == 32) = false := by assumption
    have h0 : addE mem T p xs = 0 := by
      unfold addE; rw [if_neg (okP h1), if_neg (by simpa using h2), if_neg (by simp [h3]), if_neg]; have := hTD.size; simp [ents] at this; simp at h4; omega
    have hn0 : 0 < n := by
      have h5 : mayB mem xs = true := by simpa using h2
      have h6 : 0 < xs.length := by unfold mayB at h5; simp at h5; exact h5.1
      have := HX.out.1
      omega
    obtain ⟨kb, off, rfl, hcs⟩ := HX.out.2 hn0
    have HC := Lib.hid hcs
    have hxn := HX.out.1
    have HN := Lib.hid hxn
    clear hcs hxn
    have HP := Lib.hid h3
    clear h1 h2 h3 h4
    have hput : ∀ (W2 : World) (v : Value), Below w1.heap.size w1 W2 → ∃ W3, (Instr.mapUpdate 52 (.map (some b)) (.string p) v).run Tryd.prog W2 = .ok () W3 ∧ W3.ownsMap Tryd.prog 9 rawE b (T.length + 1) (D.put (.string p.data.toList) (.held v)) ∧ W2.grownBy W3 (some b) := fun W2 v hb =>
      (HM.out.kept (grown_below (w := w1) hb none) (by simp)).update law Tryd.underlying52 (by unfold maxLen; omega) (Go.WideMaps.keyOf_string_mk (s := p) Tryd.underlying9 hp) (d := .held v) (ps := []) rfl
    have HU := Lib.hid hput
    clear hput
    go_region_with (go_at_call 21; refine (clone_any kb off n c xs _ HN.out hn8 (by exact HC.out)).mono ?_; rintro e w2 ⟨v, rfl, hrow, hb2⟩; have r0' := (hb2.cell (World.block_lt_of_cell? w1 _ r0)).trans r0; have hc1' := (hb2.cell (World.block_lt_of_cell? w1 _ hc1)).trans hc1; have HROW := Lib.hid hrow; clear hrow; have hb1' : Below w1.heap.size w1 w2 := ⟨hb2.os, hb2.tape, hb2.output, hb2.size, hb2.block⟩; obtain ⟨w3, hrun, hm3, hg3⟩ := HU.out w2 v hb1'; have HM3 := Lib.hid hm3; clear hm3)
    all_goals go_wp2
    all_goals go_ret
    all_goals exact added_yes h0 hT1.out hTD HP HN.out hn8 hn0 (HB2.out 0) hb1' HROW.out (by exact (HB2.out (nq + 1)).size) HM3.out hg3
  · rename_i h1
    go_ret
    exact added_no (r := 110) (e110 (.inl (.inr h1))) (by decide) hT.out (HB2.out _)

end Go.Proofs.YtpbpoddeiocgbaaDoor
