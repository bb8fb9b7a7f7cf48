/- What each call of a round does to both tables. -/
import Derived.Test.YtpbpoddeiocgbaaDoorRpTClone
set_option linter.unusedVariables false
set_option linter.unusedSimpArgs false
namespace Go.Proofs.YtpbpoddeiocgbaaDoor
open Go.RowKit Go.Maps Go.ChangeMaps Go.Sort Go.Shelf

theorem RTab.byMap {w w' : World} {g : Nat} {mem : Int} {v : Value} {l : List Ent} (h : RTab w g mem v l) {g' q : Nat} {mem' : Int} {T : List Ent} (hT : Tab w g' q mem' T) (hg : w.grownBy w' (some q)) : RTab w' g mem v l := by
  obtain ⟨D, ⟨es, cl, hq, _⟩, _⟩ := hT.2.1
  refine h.turn (Turn.of_grown hg) (fun e => ?_) ⟨fun k hk e => ?_, fun x hx k hk e => ?_⟩
  · injection e with e; have := h.1; rw [e, hq] at this; cases this
  · injection e with e; obtain ⟨cur, hc⟩ := own_typ h.2.1 hk; rw [e, hq] at hc; cases hc
  · injection e with e; obtain ⟨cur, hc⟩ := own_typ (h.2.2 x hx).2.1 hk; rw [e, hq] at hc; cases hc
theorem Tab.byRef {w w' : World} {g b : Nat} {mem : Int} {T : List Ent} (h : Tab w g b mem T) {q : Nat} {mem' : Int} {v : Value} {l : List Ent} (hR : RTab w q mem' v l) (hg : w.grownBy w' (some q)) : Tab w' g b mem T := by
  refine tab_turn h (Turn.of_grown hg) (fun e => ?_) (fun e => ?_) (fun x hx k hk e => ?_)
  · injection e with e; have := h.1; rw [e, hR.1] at this; exact absurd (cells_typ this) (by decide)
  · injection e with e; obtain ⟨D, ⟨es, cl, hb, _⟩, _⟩ := h.2.1; rw [e, hR.1] at hb; cases hb
  · injection e with e; obtain ⟨cur, hc⟩ := own_typ (h.2.2 x hx).1 hk; rw [e, hR.1] at hc; exact absurd (cells_typ hc) (by decide)

/-- The program's table has been turned, the reference's not yet. -/
def Mid (B : Nat) (w0 w : World) (mem : Int) (x : Tabs) (T' : List Ent) (z : Tabs) : Prop :=
  Tab w x.gx x.bx mem T' ∧ RTab w x.gy mem x.vy x.ly ∧ Srt (sh x.ly) ∧ (sh x.ly).Perm (sh x.T) ∧ Pair w mem z ∧ Below B w0 w ∧ x.bx ≠ z.bx ∧ x.gy ≠ z.gy ∧ B ≤ x.bx ∧ B ≤ x.gy
def Kept (n : Nat) (x : Tabs) (w w' : World) : Prop := ∀ q, q < n → q ≠ x.bx → q ≠ x.gy → w'.heap[q]? = w.heap[q]?
def addT (mem : Int) (T : List Ent) (p : ByteArray) (xs : List Int) (T' : List Ent) : Prop :=
  sh T' = (if addS mem (sh T) p xs = 0 then sh T ++ [(p, xs)] else sh T) ∧ Good (sh T') ∧ T'.length ≤ 32

theorem st_mid {B : Nat} {w0 w w2 w3 w4 : World} {mem : Int} {x z : Tabs} {p : ByteArray} {xs : List Int} {e : Ending} (hS : St B w0 w mem x z) (hB : B ≤ w.heap.size) (hb2 : Below w.heap.size w w2) (ha : Added x.gx x.bx mem x.T p xs w2 w3 e) (ht : Turn (fun i => ¬ (w.heap.size ≤ i ∧ i < w2.heap.size)) w3 w4) :
    e = .returned (.int .i64 (addS mem (sh x.T) p xs)) ∧ (∃ T', addT mem x.T p xs T' ∧ Mid B w0 w4 mem x T' z) ∧ Kept w.heap.size x w w4 := by
  have h2 := hS.below hB hb2
  obtain ⟨he, hg, hif⟩ := ha
  rw [addE_sh] at he hif
  have hT2 := h2.1.1
  have hz3 := h2.2.1.byMap hT2 h2.2.2.1 hg
  have hy3 := h2.1.2.1.byMap hT2 hg
  have lt : ∀ i, i < w.heap.size → ¬ (w.heap.size ≤ i ∧ i < w2.heap.size) := fun i hi h => by omega
  have hz4 : Pair w4 mem z := hz3.turn ht (lt _ hS.2.1.1.glt) (lt _ hS.2.1.1.blt) (fun e he k hk => lt _ (hS.2.1.1.rowLt e he k hk)) (lt _ hS.2.1.2.1.lt) (hS.2.1.2.1.2.lt.mono lt)
  have hy4 : RTab w4 x.gy mem x.vy x.ly := hy3.turn ht (lt _ hS.1.2.1.lt) (hS.1.2.1.2.lt.mono lt)
  have b2 := h2.2.2.2.2.2.2
  have b3 := b2.grown hg (Nat.le_trans hB hb2.size) (fun k hk => by injection hk with hk; rw [← hk]; exact hS.2.2.2.2.1)
  have b4 := b3.trans (ht.below (Nat.le_trans (Nat.le_trans hB hb2.size) hg.size) (fun i hi h => by omega))
  refine ⟨he, ?_, fun q hq h1 h2' => ?_⟩
  · by_cases hz : addS mem (sh x.T) p xs = 0
    · rw [if_pos hz] at hif
      obtain ⟨v, hT3, hv⟩ := hif
      refine ⟨x.T ++ [(p, v, xs)], ⟨?_, ?_, ?_⟩, tab_turn hT3 ht (lt _ hS.1.1.glt) (lt _ hS.1.1.blt) (fun t hm k hk => ?_), hy4, hS.1.2.2.1, hS.1.2.2.2.1, hz4, b4, hS.2.2.1, hS.2.2.2.1, hS.2.2.2.2.1, hS.2.2.2.2.2.1⟩
      · rw [if_pos hz]; simp [sh]
      · have := addS_good hz hS.1.2.2.2.2.1
        simpa [sh] using this
      · have h1 := addS_len hz
        have h3 := hS.1.2.2.2.2.2
        simp only [sh, List.length_map] at h1
        simp only [List.length_append, List.length_cons, List.length_nil]
        omega
      · rcases List.mem_append.1 hm with h | h
        · exact lt _ (hS.1.1.rowLt t h k hk)
        · obtain rfl : t = (p, v, xs) := by simpa using h
          have := hv k hk
          exact fun h => by omega
    · rw [if_neg hz] at hif
      exact ⟨x.T, ⟨by rw [if_neg hz], hS.1.2.2.2.2.1, hS.1.2.2.2.2.2⟩, tab_turn hif.1 ht (lt _ hS.1.1.glt) (lt _ hS.1.1.blt) (fun t hm k hk => lt _ (hS.1.1.rowLt t hm k hk)), hy4, hS.1.2.2.1, hS.1.2.2.2.1, hz4, b4, hS.2.2.1, hS.2.2.2.1, hS.2.2.2.2.1, hS.2.2.2.2.2.1⟩
  · have hs2 := hb2.size
    rw [ht.block q (by have := hg.size; omega) (lt _ hq), hg.block q (by omega) (by intro e; injection e with e; exact h1 e), hb2.block q hq]
theorem st_added {B : Nat} {w0 w4 w5 : World} {mem : Int} {x z : Tabs} {T' : List Ent} {p : ByteArray} {xs : List Int} {e : Ending} (hm : mem ≤ 6) (hM : Mid B w0 w4 mem x T' z) (hT : addT mem x.T p xs T') (hB : B ≤ w4.heap.size) (ha : RAdded x.gy mem x.vy x.ly p xs w4 w5 e) :
    e = .returned (.int .i64 (addS mem (sh x.T) p xs)) ∧ (∃ x', x'.gx = x.gx ∧ x'.gy = x.gy ∧ x'.bx = x.bx ∧ St B w0 w5 mem x' z) ∧ Kept w4.heap.size x w4 w5 := by
  obtain ⟨m1, m2, m3, m4, m5, m6, m7, m8, m9, m10⟩ := hM
  obtain ⟨t1, t2, t3⟩ := hT
  obtain ⟨he, hg, hif⟩ := ha
  rw [addR_addS hm m4] at he hif
  have hT5 := m1.byRef m2 hg
  have hz5 := m5.byRef m2 m8 hg
  have b5 := m6.grown hg hB (fun k hk => by injection hk with hk; rw [← hk]; exact m10)
  refine ⟨he, ?_, fun q hq _ h2 => hg.block q hq (by intro e; injection e with e; exact h2 e)⟩
  by_cases hz : addS mem (sh x.T) p xs = 0
  · rw [if_pos hz] at hif t1
    obtain ⟨v', l', hR, hs, hp, _, _⟩ := hif
    exact ⟨⟨x.gx, x.bx, T', x.gy, v', l'⟩, rfl, rfl, rfl, ⟨hT5, hR, hs, (hp.trans (m4.append_right _)).trans (by rw [t1]), t2, t3⟩, hz5, m7, m8, m9, m10, b5⟩
  · rw [if_neg hz] at hif t1
    exact ⟨⟨x.gx, x.bx, T', x.gy, x.vy, x.ly⟩, rfl, rfl, rfl, ⟨hT5, hif.1, m3, by rw [t1]; exact m4, t2, t3⟩, hz5, m7, m8, m9, m10, b5⟩
theorem st_dropped {B : Nat} {w0 w w1 : World} {mem : Int} {x z : Tabs} {p : ByteArray} {e : Ending} (hS : St B w0 w mem x z) (hB : B ≤ w.heap.size) (hd : Dropped x.gx x.bx mem x.T p w w1 e) :
    ∃ r : Int, e = .returned (.int .i64 r) ∧ RTab w1 x.gy mem x.vy x.ly ∧ ∀ w2 e', RDropped x.gy mem x.vy x.ly p w1 w2 e' → e' = .returned (.int .i64 r) ∧ (∃ x', x'.gx = x.gx ∧ x'.gy = x.gy ∧ x'.bx = x.bx ∧ St B w0 w2 mem x' z) ∧ Kept w.heap.size x w w2 := by
  obtain ⟨he, hg, hT⟩ := hd
  have hy1 := hS.1.2.1.byMap hS.1.1 hg
  refine ⟨_, he, hy1, fun w2 e' ⟨he', hg', v', l', hR, hs, hl, _, _⟩ => ?_⟩
  have hz1 := hS.2.1.byMap hS.1.1 hS.2.2.1 hg
  have hT2 := hT.byRef hy1 hg'
  have hz2 := hz1.byRef hy1 hS.2.2.2.1 hg'
  have b1 := hS.2.2.2.2.2.2.grown hg hB (fun k hk => by injection hk with hk; rw [← hk]; exact hS.2.2.2.2.1)
  have b2 := b1.grown hg' (Nat.le_trans hB hg.size) (fun k hk => by injection hk with hk; rw [← hk]; exact hS.2.2.2.2.2.1)
  have hp := hS.1.2.2.2.1
  have hany : ((sh x.ly).any fun t => decide (t.1 = p)) = (sh x.T).any fun t => decide (t.1 = p) := by
    rw [Bool.eq_iff_iff, List.any_eq_true, List.any_eq_true]
    exact ⟨fun ⟨t, ht, h⟩ => ⟨t, hp.mem_iff.1 ht, h⟩, fun ⟨t, ht, h⟩ => ⟨t, hp.mem_iff.2 ht, h⟩⟩
  rw [hany, ← hasP_sh] at he'
  refine ⟨he', ⟨⟨x.gx, x.bx, dropT x.T p, x.gy, v', l'⟩, rfl, rfl, rfl, ⟨hT2, hR, hs, ?_, ?_, ?_⟩, hz2, hS.2.2.1, hS.2.2.2.1, hS.2.2.2.2.1, hS.2.2.2.2.2.1, b2⟩, fun q hq h1 h2 => ?_⟩
  · show (sh l').Perm (sh (dropT x.T p))
    rw [hl, sh_drop]
    exact hp.filter _
  · show Good (sh (dropT x.T p))
    rw [sh_drop]
    exact good_filter hS.1.2.2.2.2.1 _
  · show (dropT x.T p).length ≤ 32
    have := List.length_filter_le (fun t : Ent => decide (t.1 ≠ p)) x.T
    have h3 := hS.1.2.2.2.2.2
    unfold dropT
    omega
  · rw [hg'.block q (by have := hg.size; omega) (by intro e; injection e with e; exact h2 e), hg.block q hq (by intro e; injection e with e; exact h1 e)]
theorem st_cloned {B : Nat} {w0 w w1 w2 : World} {mem : Int} {x z : Tabs} {e e' : Ending} (hS : St B w0 w mem x z) (hB : B ≤ w.heap.size) (hc : TCloned mem x.T w w1 e) (hc' : Cloned x.gy mem x.ly w1 w2 e') :
    ∃ x', e = .returned (.pointer (some ⟨x'.gx, 0, none⟩)) ∧ e' = .returned (.pointer (some ⟨x'.gy, 0, none⟩)) ∧ St B w0 w2 mem x' x ∧ Below w.heap.size w w2 := by
  obtain ⟨hb1, g', b', rfl, hT, hg', hb'⟩ := hc
  obtain ⟨hb2, g'', v'', rfl, hR, hg'', _⟩ := hc'
  have bb := hb1.trans (hb2.mono hb1.size)
  refine ⟨⟨g', b', x.T, g'', v'', x.ly⟩, rfl, rfl, ⟨⟨hT.below hb2, hR, hS.1.2.2⟩, hS.1.below bb, ?_, ?_, Nat.le_trans hB hb', Nat.le_trans (Nat.le_trans hB hb1.size) hg'', hS.2.2.2.2.2.2.trans (bb.mono hB)⟩, bb⟩
  · show b' ≠ x.bx
    have := hS.1.1.blt
    omega
  · show g'' ≠ x.gy
    have := hS.1.2.1.lt
    have := hb1.size
    omega
end Go.Proofs.YtpbpoddeiocgbaaDoor
