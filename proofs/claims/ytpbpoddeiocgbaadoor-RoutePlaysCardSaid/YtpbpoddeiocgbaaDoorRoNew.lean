/- New: a table of routes, or the first error. -/
import Derived.Test.YtpbpoddeiocgbaaDoorRoAdd
import Derived.Deep.LoopGhost
set_option linter.unusedVariables false
set_option linter.unusedSimpArgs false
namespace Go.Proofs.YtpbpoddeiocgbaaDoor
open Go.RowKit Go.Maps Go.ChangeMaps Go.Sort Go.Shelf

/-- A route as it lies in memory: its prefix, its slice, what the slice holds. -/
structure Rt where
  p : ByteArray
  A : Option Addr
  n : Nat
  c : Nat
  xs : List Int
def RtOk (w : World) (r : Rt) : Prop := r.p.size ≤ maxLen ∧ IntsAt w r.A r.n r.xs ∧ r.n ≤ r.c ∧ r.n * 8 ≤ 140737488355328
def RoutesAt (w : World) (A : Option Addr) (n : Nat) (l : List Rt) : Prop :=
  l.length = n ∧ (∀ i r, l[i]? = some r → ∃ b off, A = some ⟨b, off, none⟩ ∧ w.cell? ⟨b, off + i * 2, none⟩ = some (.string r.p) ∧ w.cell? ⟨b, off + i * 2 + 1, none⟩ = some (.slice r.A r.n r.c)) ∧ ∀ r ∈ l, RtOk w r

theorem IntsAt.keep {w w' : World} {A : Option Addr} {n : Nat} {xs : List Int} (h : IntsAt w A n xs) (hb : Below w.heap.size w w') : IntsAt w' A n xs :=
  ⟨h.1, fun hn => by
    obtain ⟨b, off, e, hc⟩ := h.2 hn
    exact ⟨b, off, e, fun j hj => (hb.cell (World.block_lt_of_cell? w _ (hc j hj))).trans (hc j hj)⟩⟩
theorem RtOk.keep {w w' : World} {r : Rt} (h : RtOk w r) (hb : Below w.heap.size w w') : RtOk w' r := ⟨h.1, h.2.1.keep hb, h.2.2⟩
theorem RoutesAt.keep {w w' : World} {A : Option Addr} {n : Nat} {l : List Rt} (h : RoutesAt w A n l) (hb : Below w.heap.size w w') : RoutesAt w' A n l :=
  ⟨h.1, fun i r hi => by
    obtain ⟨b, off, e, h1, h2⟩ := h.2.1 i r hi
    exact ⟨b, off, e, (hb.cell (World.block_lt_of_cell? w _ h1)).trans h1, (hb.cell (World.block_lt_of_cell? w _ h2)).trans h2⟩, fun r hr => (h.2.2 r hr).keep hb⟩

/-- What a table tells of its entries. -/
abbrev Pr := ByteArray × List Int
def sh (T : List Ent) : List Pr := T.map fun t => (t.1, t.2.2)
def rts (l : List Rt) : List Pr := l.map fun r => (r.p, r.xs)
def addS (mem : Int) (S : List Pr) (p : ByteArray) (xs : List Int) : Int :=
  if p.size = 0 ∨ 8 < p.size ∨ digB p = false then 110
  else if mayB mem xs = false then 112
  else if (S.any fun t => decide (t.1 = p)) = true then 111
  else if S.length = 32 then 3
  else 0
theorem addE_sh (mem : Int) (T : List Ent) (p : ByteArray) (xs : List Int) : addE mem T p xs = addS mem (sh T) p xs := by
  have h1 : hasP T p = (sh T).any fun t => decide (t.1 = p) := by simp [hasP, sh, List.any_map, Function.comp_def]
  have h2 : (sh T).length = T.length := by simp [sh]
  unfold addE addS
  rw [h1, h2]
def newS (mem : Int) : List Pr → List Pr → Int
  | _, [] => 0
  | S, x :: r => if addS mem S x.1 x.2 = 0 then newS mem (S ++ [x]) r else addS mem S x.1 x.2
def newE (mem : Int) (l : List Pr) : Int := if mem < 1 ∨ 6 < mem then 130 else newS mem [] l

def NewTab (B : Nat) (w : World) (mem : Int) (S : List Pr) (g b : Nat) (T : List Ent) : Prop :=
  Tab w g b mem T ∧ sh T = S ∧ B ≤ g ∧ B ≤ b ∧ (∀ t ∈ T, ∀ k, t.2.1.ownBlock = some k → B ≤ k) ∧ T.length ≤ 32
def Made (mem : Int) (l : List Pr) (w w' : World) (e : Ending) : Prop :=
  Below w.heap.size w w' ∧ if newE mem l = 0 then ∃ g b T, e = .returned (.tuple #[.pointer (some ⟨g, 0, none⟩), .int .i64 0]) ∧ NewTab w.heap.size w' mem l g b T else e = .returned (.tuple #[.pointer none, .int .i64 (newE mem l)])

def NewRel (mem : Int) (l : List Pr) (w : World) (k : Nat) (wr : World) : Prop :=
  ∃ T, NewTab w.heap.size wr mem (l.take k) (w.heap.size + 1) w.heap.size T ∧ Below w.heap.size w wr ∧ newS mem [] l = newS mem (l.take k) (l.drop k)
theorem newRel_start (mem : Int) (l : List Pr) (w : World) : NewRel mem l w 0 ((w.alloc (.map #[] 0)).alloc (.cells #[.int .i64 mem, .map (some w.heap.size)] 54)) := by
  refine ⟨[], ⟨⟨by rw [show w.heap.size + 1 = (w.alloc (.map #[] 0)).heap.size by simp]; exact heap_alloc_new _ _, ⟨.map [], ?_, tabIs_nil⟩, by simp⟩, rfl, by omega, Nat.le_refl _, by simp, by simp⟩, ((Below.refl _ _).alloc (Nat.le_refl _) _).alloc (by simp) _, rfl⟩
  exact (World.ownsMap_made w Tryd.prog 9 rawE).alloc _

theorem rts_at {l : List Rt} {k : Nat} {r : Rt} (h : l[k]? = some r) : (rts l).take (k + 1) = (rts l).take k ++ [(r.p, r.xs)] ∧ (rts l).drop k = (r.p, r.xs) :: (rts l).drop (k + 1) := by
  have hk : k < l.length := (List.getElem?_eq_some_iff.1 h).1
  have hk2 : k < (rts l).length := by simpa [rts] using hk
  have he : (rts l)[k]'hk2 = (r.p, r.xs) := by
    have := (List.getElem?_eq_some_iff.1 h).2
    simp [rts, this]
  exact ⟨by rw [List.take_succ_eq_append_getElem hk2, he], by rw [List.drop_eq_getElem_cons hk2, he]⟩
theorem newRel_step {mem : Int} {l : List Rt} {w wr w2 : World} {k : Nat} {r : Rt} {T : List Ent} {o : Obj} (hr : l[k]? = some r) (hN : NewTab w.heap.size wr mem ((rts l).take k) (w.heap.size + 1) w.heap.size T) (hB : Below w.heap.size w wr)
    (hS : newS mem [] (rts l) = newS mem ((rts l).take k) ((rts l).drop k)) (hE : addE mem T r.p r.xs = 0) (hg : (wr.alloc o).grownBy w2 (some w.heap.size))
    (hif : ∃ v, Tab w2 (w.heap.size + 1) w.heap.size mem (T ++ [(r.p, v, r.xs)]) ∧ (∀ k, v.ownBlock = some k → (wr.alloc o).heap.size ≤ k)) : NewRel mem (rts l) w (k + 1) w2 := by
  obtain ⟨v, hT, hv⟩ := hif
  obtain ⟨e1, e2⟩ := rts_at hr
  have hlen : T.length ≠ 32 := by
    intro h
    unfold addE at hE
    split at hE; · cases hE
    split at hE; · cases hE
    split at hE; · cases hE
    cases hE
  have hb2 : Below w.heap.size w (wr.alloc o) := hB.alloc hB.size o
  refine ⟨_, ⟨hT, by rw [e1, ← hN.2.1]; simp [sh], hN.2.2.1, hN.2.2.2.1, fun t ht kk hk => ?_, by have := hN.2.2.2.2.2; simp; omega⟩, hb2.grown hg hb2.size (fun j hj => by injection hj with hj; omega), ?_⟩
  · rcases List.mem_append.1 ht with h | h
    · exact hN.2.2.2.2.1 t h kk hk
    · obtain rfl : t = (r.p, v, r.xs) := by simpa using h
      exact Nat.le_trans hb2.size (hv kk hk)
  · rw [hS, e2, newS, if_pos (by rw [← hN.2.1, ← addE_sh]; exact hE), e1]
theorem new_stop {mem : Int} {l : List Rt} {w wr : World} {k : Nat} {r : Rt} {T : List Ent} (hr : l[k]? = some r) (hN : NewTab w.heap.size wr mem ((rts l).take k) (w.heap.size + 1) w.heap.size T)
    (hS : newS mem [] (rts l) = newS mem ((rts l).take k) ((rts l).drop k)) {q : Int} (hE : addE mem T r.p r.xs = q) (hq : q ≠ 0) : newS mem [] (rts l) = q := by
  obtain ⟨e1, e2⟩ := rts_at hr
  have h : addS mem ((rts l).take k) r.p r.xs = q := by rw [← hN.2.1, ← addE_sh]; exact hE
  rw [hS, e2, newS, if_neg (by rw [h]; exact hq), h]

set_option maxHeartbeats 1000000 in
set_option maxRecDepth 100000 in
theorem new_any (n c : Nat) (mem : Int) (A : Option Addr) (l : List Rt) (w : World) (hl : RoutesAt w A n l) (hbig : n ≤ 9223372036854775807) :
    Calls Tryd.prog 6 #[.slice A n c, .int .i64 mem] w fun e w' => Made mem (rts l) w w' e := by
  have hL := Lib.hid hl
  clear hl
  have hmm := @run_makeMap Tryd.prog
  by_cases h1 : mem < 1
  · have hE : newE mem (rts l) = 130 := by unfold newE; rw [if_pos (.inl h1)]
    have HE := Lib.hid hE
    clear hE
    go_enter Tryd.func6, Tryd.ntmps6
    go_wp2
    go_ret2
    refine ⟨Below.refl _ _, ?_⟩
    rw [if_neg (by rw [HE.out]; decide), HE.out]
    rfl
  by_cases h2 : 6 < mem
  · have hE : newE mem (rts l) = 130 := by unfold newE; rw [if_pos (.inr h2)]
    have HE := Lib.hid hE
    clear hE
    go_enter Tryd.func6, Tryd.ntmps6
    go_wp2
    go_ret2
    refine ⟨Below.refl _ _, ?_⟩
    rw [if_neg (by rw [HE.out]; decide), HE.out]
    rfl
  have hE : newE mem (rts l) = newS mem [] (rts l) := by unfold newE; rw [if_neg (by omega)]
  have HE := Lib.hid hE
  clear hE
  go_enter Tryd.func6, Tryd.ntmps6
  go_wp2
  go_loopw [22] (fun i wr => ∃ k : Nat, k ≤ n ∧ i = .int .i64 k ∧ NewRel mem (rts l) w k wr) (fun i _ => n - (intOf i).toNat)
  case atStart => exact ⟨0, Nat.zero_le _, rfl, newRel_start mem _ w⟩
  case round =>
    obtain ⟨k, hk, rfl, hR⟩ := hrel
    by_cases hlt : k < n
    · obtain ⟨T, hN, hB, hS⟩ := hR
      obtain ⟨r, hr⟩ : ∃ r, l[k]? = some r := ⟨l[k]'(by have := hL.out.1; omega), List.getElem?_eq_getElem _⟩
      obtain ⟨b0, off, rfl, c0, c1⟩ := (hL.out.keep hB).2.1 k r hr
      have hok : RtOk wr r := (hL.out.keep hB).2.2 r (List.mem_of_getElem? hr)
      have HR := Lib.hid hr
      have HN := Lib.hid hN
      have HS := Lib.hid hS
      have HOK := Lib.hid hok
      clear hr hN hS hok
      go_wp2_with fail
      refine (add_any _ w.heap.size r.n r.c mem T r.p r.A r.xs _ ?hT ?hp ?hx ?hnc ?hn8 ?h32).mono ?_
      case hT => exact (HN.out.1.alloc _)
      case hp => exact HOK.out.1
      case hx => exact HOK.out.2.1.keep ((Below.refl _ _).alloc (Nat.le_refl _) _)
      case hnc => exact HOK.out.2.2.1
      case hn8 => exact HOK.out.2.2.2
      case h32 => exact HN.out.2.2.2.2.2
      rintro e w2 ⟨he, hg2, hif⟩
      generalize hq : addE mem T r.p r.xs = q at he hif
      subst he
      have HQ := Lib.hid hq
      have HIF := Lib.hid hif
      have HG := Lib.hid hg2
      clear hq hif hg2
      by_cases hz : q = 0
      · subst hz
        go_wp2
        go_round
        case rel => exact ⟨k + 1, by omega, by go_num, newRel_step HR.out HN.out hB HS.out HQ.out HG.out (by have h := HIF.out; rw [if_pos trivial] at h; exact h)⟩
        case measure => simp [intOf]; omega
      · have hz2 : (q != 0) = true := by simpa using hz
        have HZ := Lib.hid hz
        clear hz
        go_wp2
        go_ret2
        have hE := HE.out.trans (new_stop HR.out HN.out HS.out HQ.out HZ.out)
        have hb2 := hB.alloc hB.size (.cells #[.string r.p, .slice r.A r.n r.c] 32)
        refine ⟨hb2.grown HG.out hb2.size (fun j hj => by injection hj with hj; omega), ?_⟩
        rw [if_neg (by rw [hE]; exact HZ.out), hE]
        rfl
    · have e : k = n := by omega
      subst e
      obtain ⟨T, hN, hB, hS⟩ := hR
      have HN := Lib.hid hN
      have HS := Lib.hid hS
      clear hN hS
      go_wp2
      go_ret2
      have hlen : (rts l).length = k := by simp [rts, hL.out.1]
      have hE := HE.out.trans HS.out
      rw [List.drop_of_length_le (by omega), newS] at hE
      refine ⟨hB, ?_⟩
      rw [if_pos hE]
      have hN := HN.out
      rw [List.take_of_length_le (by omega)] at hN
      exact ⟨_, _, T, rfl, hN⟩

end Go.Proofs.YtpbpoddeiocgbaaDoor
