/- A table of the program in memory: its struct, its map, the rows of members that lie in it. -/
import Derived.Test.YtpbpoddeiocgbaaDoorRoMay
import Derived.Deep.QuietTactic
import Derived.BigQuiet
import Derived.Deep.AppendLies
import Derived.StringKeys
set_option linter.unusedVariables false
set_option linter.unusedSimpArgs false
namespace Go.Proofs.YtpbpoddeiocgbaaDoor
open Go.RowKit Go.Maps Go.ChangeMaps Go.Sort Go.Shelf

/-- A table's entry: its prefix, the slice in the map, what the slice holds. -/
abbrev Ent := ByteArray × Value × List Int
def ents (T : List Ent) : List (ByteArray × Value) := T.map fun t => (t.1, t.2.1)
/-- A row of members that lies in a table. -/
def MemRow (w : World) (v : Value) (xs : List Int) : Prop := w.ownsRow 0 3 1 v xs.length (xs.map (Value.int .i64)) ∧ 0 < xs.length ∧ xs.length * 8 ≤ 140737488355328
def Tab (w : World) (g b : Nat) (mem : Int) (T : List Ent) : Prop :=
  w.heap[g]? = some (.cells #[.int .i64 mem, .map (some b)] 54 (0, 0)) ∧ (∃ D, w.ownsMap Tryd.prog 9 rawE b T.length D ∧ TabIs D (ents T)) ∧ ∀ t ∈ T, MemRow w t.2.1 t.2.2

theorem MemRow.kept {w w' : World} {v : Value} {xs : List Int} (h : MemRow w v xs) {row : Option Nat} (hg : w.grownBy w' row) (hne : ∀ k, row = some k → v.ownBlock ≠ some k) : MemRow w' v xs := by
  refine ⟨h.1.kept hg ?_, h.2⟩
  cases row with
  | none =>
    cases e : v.ownBlock with
    | none => exact .inl rfl
    | some k => exact .inr (by simp)
  | some k => exact .inr (hne k rfl)
theorem MemRow.block {w : World} {v : Value} {xs : List Int} (h : MemRow w v xs) : ∃ k cap cur, v = .slice (some ⟨k, 0, none⟩) xs.length cap ∧ v.ownBlock = some k ∧ k < w.heap.size ∧ w.heap[k]? = some (.cells cur 3 (0, 0)) ∧ xs.length ≤ cap ∧ cap ≤ maxLen ∧ ∀ j, j < xs.length → w.cell? ⟨k, 0 + j, none⟩ = some (.int .i64 (xs.getD j 0)) := by
  obtain ⟨ho, h0, _⟩ := h
  obtain ⟨k, cap, hv, _, hlt⟩ := ho.form h0
  rcases ho.2 with ⟨e, _⟩ | ⟨g, cap', cur, e, _, hh, h1, h2, _⟩
  · rw [hv] at e; cases e
  · have hk : k = g := by rw [hv] at e; injection e with e; injection e with e; injection e
    subst hk
    have hc : cap = cap' := by rw [hv] at e; injection e
    subst hc
    refine ⟨k, cap, cur, hv, by rw [hv]; rfl, hlt, hh, h1, h2, fun j hj => ?_⟩
    have hcell := ho.cells (g := k) (by rw [hv]; rfl) j (.int .i64 (xs.getD j 0)) (by simp [List.getElem?_eq_getElem hj, List.getD_eq_getElem?_getD])
    have e2 : (⟨k, 0, none⟩ : Addr).add j = ⟨k, 0 + j, none⟩ := by unfold Addr.add; split <;> simp_all
    rwa [e2] at hcell

theorem Tab.glt {w : World} {g b : Nat} {mem : Int} {T : List Ent} (h : Tab w g b mem T) : g < w.heap.size := by
  rcases Nat.lt_or_ge g w.heap.size with hl | hl
  · exact hl
  · have := h.1; rw [Array.getElem?_eq_none hl] at this; cases this
theorem Tab.blt {w : World} {g b : Nat} {mem : Int} {T : List Ent} (h : Tab w g b mem T) : b < w.heap.size := by
  obtain ⟨D, hm, _⟩ := h.2.1
  exact hm.lt
theorem Tab.ne {w : World} {g b : Nat} {mem : Int} {T : List Ent} (h : Tab w g b mem T) : g ≠ b := by
  rintro rfl
  obtain ⟨D, ⟨es, cl, hb, _⟩, _⟩ := h.2.1
  rw [h.1] at hb
  cases hb
/-- A row of members is never the map's own block. -/
theorem Tab.rowNe {w : World} {g b : Nat} {mem : Int} {T : List Ent} (h : Tab w g b mem T) {v : Value} {xs : List Int} (hr : MemRow w v xs) : v.ownBlock ≠ some b := by
  obtain ⟨k, cap, cur, _, hk, _, hh, _⟩ := hr.block
  rw [hk]
  intro e
  injection e with e
  subst e
  obtain ⟨D, ⟨es, cl, hb, _⟩, _⟩ := h.2.1
  rw [hh] at hb
  cases hb
theorem Tab.kept {w w' : World} {g b : Nat} {mem : Int} {T : List Ent} (h : Tab w g b mem T) {row : Option Nat} (hg : w.grownBy w' row) (h1 : some g ≠ row) (h2 : some b ≠ row) (h3 : ∀ t ∈ T, ∀ k, row = some k → t.2.1.ownBlock ≠ some k) : Tab w' g b mem T := by
  obtain ⟨D, hm, hD⟩ := h.2.1
  exact ⟨(hg.block g h.glt h1).trans h.1, ⟨D, hm.kept hg h2, hD⟩, fun t ht => (h.2.2 t ht).kept hg (h3 t ht)⟩
theorem grown_below {w w' : World} (h : Below w.heap.size w w') (row : Option Nat) : w.grownBy w' row := ⟨h.os, h.tape, h.output, h.size, fun i hi _ => h.block i hi⟩
theorem Tab.below {w w' : World} {g b : Nat} {mem : Int} {T : List Ent} (h : Tab w g b mem T) (hb : Below w.heap.size w w') : Tab w' g b mem T :=
  h.kept (grown_below hb none) (by simp) (by simp) (fun _ _ _ e => by cases e)
theorem Tab.c0 {w : World} {g b : Nat} {mem : Int} {T : List Ent} (h : Tab w g b mem T) : w.cell? ⟨g, 0, none⟩ = some (.int .i64 mem) := by
  simp [World.cell?, h.1]
theorem Tab.c1 {w : World} {g b : Nat} {mem : Int} {T : List Ent} (h : Tab w g b mem T) : w.cell? ⟨g, 1, none⟩ = some (.map (some b)) := by
  simp [World.cell?, h.1]
theorem Tab.drewN {w : World} {g b : Nat} {mem : Int} {T : List Ent} (h : Tab w g b mem T) (n : Nat) : Tab (w.drewN n) g b mem T := h
theorem Tab.alloc {w : World} {g b : Nat} {mem : Int} {T : List Ent} (h : Tab w g b mem T) (o : Obj) : Tab (w.alloc o) g b mem T := h.below ((Below.refl _ _).alloc (Nat.le_refl _) o)

theorem law : Keyed Tryd.prog 9 := string_keyed Tryd.underlying9
theorem zeroRow (w : World) : (zeroValue 28).run Tryd.prog w = .ok (.slice none 0 0) w := by kernel_rfl

/-- What a look-up of a prefix in the table's map comes to. -/
def findV (T : List Ent) (p : ByteArray) : Value := ((T.find? fun t => decide (t.1 = p)).map (·.2.1)).getD (.slice none 0 0)
def hasP (T : List Ent) (p : ByteArray) : Bool := T.any fun t => decide (t.1 = p)
theorem Tab.look {w : World} {g b : Nat} {mem : Int} {T : List Ent} (h : Tab w g b mem T) (p : ByteArray) (hp : p.size ≤ maxLen) :
    (Instr.lookup 52 (.map (some b)) (.string p) true).run Tryd.prog w = .ok (.tuple #[findV T p, .bool (hasP T p)]) w := by
  obtain ⟨D, hm, hD⟩ := h.2.1
  obtain ⟨v, ps, hrun, hv⟩ := hm.look_ok law Tryd.underlying52 (zeroRow w) (zd := .held (.slice none 0 0)) (zp := []) rfl (Go.WideMaps.keyOf_string_mk (s := p) Tryd.underlying9 hp)
  have e1 : Maps.has D (.string p.data.toList) = hasP T p := by
    have := hD.has p
    unfold keyL at this
    rw [this]
    simp [hasP, ents, List.any_map, Function.comp_def]
  have e2 : v = findV T p := by
    have h2 := rawE_eq hv
    unfold findV
    cases hf : T.find? (fun t => decide (t.1 = p)) with
    | none =>
      have hno : Maps.has D (.string p.data.toList) = false := by
        rw [e1]
        unfold hasP
        rw [List.any_eq_false]
        intro t ht
        have := List.find?_eq_none.1 hf t ht
        simpa using this
      rw [atKey_of_not_has hno] at h2
      exact (DataW.held.inj h2).symm
    | some t =>
      have hm2 := List.mem_of_find?_eq_some hf
      have hp2 : t.1 = p := by simpa using List.find?_some hf
      have h3 := hD.at_ (s := p) (v := t.2.1) (by unfold ents; rw [← hp2]; exact List.mem_map.2 ⟨t, hm2, rfl⟩) (.held (.slice none 0 0))
      unfold keyL at h3
      rw [h3] at h2
      exact (DataW.held.inj h2).symm
  rw [hrun, e1, e2]

theorem findV_none {T : List Ent} {p : ByteArray} (h : T.find? (fun t => decide (t.1 = p)) = none) : findV T p = .slice none 0 0 ∧ hasP T p = false := by
  refine ⟨by simp [findV, h], ?_⟩
  unfold hasP
  rw [List.any_eq_false]
  intro t ht
  simpa using List.find?_eq_none.1 h t ht
theorem findV_some {T : List Ent} {p : ByteArray} {t : Ent} (h : T.find? (fun t => decide (t.1 = p)) = some t) : findV T p = t.2.1 ∧ hasP T p = true ∧ t ∈ T ∧ t.1 = p := by
  have hm := List.mem_of_find?_eq_some h
  have hp : t.1 = p := by simpa using List.find?_some h
  refine ⟨by simp [findV, h], ?_, hm, hp⟩
  unfold hasP
  rw [List.any_eq_true]
  exact ⟨t, hm, by simpa using hp⟩

end Go.Proofs.YtpbpoddeiocgbaaDoor
