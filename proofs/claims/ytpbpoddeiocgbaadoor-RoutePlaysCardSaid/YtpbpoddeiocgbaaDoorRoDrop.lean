/- Drop: a prefix taken out of a table. -/
import Derived.Test.YtpbpoddeiocgbaaDoorRoList
set_option linter.unusedVariables false
set_option linter.unusedSimpArgs false
namespace Go.Proofs.YtpbpoddeiocgbaaDoor
open Go.RowKit Go.Maps Go.ChangeMaps Go.Sort Go.Shelf

theorem own_tight {w : World} {P : Program} {k : TypeId} {R : Value → Option (DataW Value × List MemPlace)} {b n : Nat} {D : DataW Value} (h : w.ownsMap P k R b n D) : w.ownsMap P k R b (Maps.size D) D := by
  obtain ⟨es, clock, hb, F, hs, rfl⟩ := h
  exact ⟨es, clock, hb, F, by rw [Maps.size_eq, length_read]; exact Nat.le_refl _, rfl⟩

def dropT (T : List Ent) (p : ByteArray) : List Ent := T.filter fun t => decide (t.1 ≠ p)
theorem ents_drop (T : List Ent) (p : ByteArray) : ents (dropT T p) = (ents T).filter fun t => decide (t.1 ≠ p) := by
  unfold ents dropT
  rw [List.filter_map]
  rfl
theorem Tab.del {w w' : World} {g b : Nat} {mem : Int} {T : List Ent} (h : Tab w g b mem T) {D : DataW Value} (hD : TabIs D (ents T)) {p : ByteArray} {n : Nat} (hm : w'.ownsMap Tryd.prog 9 rawE b n (D.del (.string p.data.toList))) (hg : w.grownBy w' (some b)) : Tab w' g b mem (dropT T p) := by
  have hd := hD.del p
  rw [← ents_drop] at hd
  refine ⟨(hg.block g h.glt (by intro e; injection e with e; exact h.ne e)).trans h.1, ⟨_, ?_, hd⟩, fun t ht => (h.2.2 t (List.mem_filter.1 ht).1).kept hg (fun k e => by injection e with e; subst e; exact h.rowNe (h.2.2 t (List.mem_filter.1 ht).1))⟩
  have h2 := own_tight hm
  have h3 := hd.size
  unfold keyL at h3
  rw [h3] at h2
  have h4 : (ents (dropT T p)).length = (dropT T p).length := by simp [ents]
  rw [h4] at h2
  exact h2

def Dropped (g b : Nat) (mem : Int) (T : List Ent) (p : ByteArray) (w w' : World) (e : Ending) : Prop :=
  e = .returned (.int .i64 (if hasP T p = true then 0 else 113)) ∧ w.grownBy w' (some b) ∧ Tab w' g b mem (dropT T p)

theorem drop_same {T : List Ent} {p : ByteArray} (h : hasP T p = false) : dropT T p = T := by
  unfold dropT
  rw [List.filter_eq_self]
  intro t ht
  have := List.any_eq_false.1 h t ht
  simpa using this

set_option maxHeartbeats 1000000 in
set_option maxRecDepth 100000 in
theorem drop_any (g b : Nat) (mem : Int) (T : List Ent) (p : ByteArray) (w : World) (h : Tab w g b mem T) (hp : p.size ≤ maxLen) :
    Calls Tryd.prog 17 #[.pointer (some ⟨g, 0, none⟩), .string p] w fun e w' => Dropped g b mem T p w w' e := by
  have hc1 := h.c1
  have hL := fun n => (h.drewN n).look p hp
  have hL0 := h.look p hp
  obtain ⟨D, hm, hD⟩ := h.2.1
  have hT := Lib.hid h
  have HM := Lib.hid hm
  have HD := Lib.hid hD
  generalize findV T p = fv at hL hL0
  clear h hm hD
  unfold maxLen at hp
  cases hh : hasP T p with
  | false =>
    have HH := Lib.hid hh
    rw [hh] at hL hL0
    clear hh
    go_enter Tryd.func17, Tryd.ntmps17
    go_wp2
    go_ret
    exact ⟨by rw [HH.out]; rfl, grown_below (Below.refl _ _) _, by rw [drop_same HH.out]; exact hT.out⟩
  | true =>
    have HH := Lib.hid hh
    rw [hh] at hL hL0
    clear hh
    go_enter Tryd.func17, Tryd.ntmps17
    go_wp2_with (at_delete; refine wpList_delete_own _ rfl _ _ 52 9 rfl 28 law Tryd.underlying52 rawE b T.length D rfl HM.out (.string p) (.string p.data.toList) rfl (Go.WideMaps.keyOf_string_mk (s := p) Tryd.underlying9 hp) ?_; intro w1 hown1 hturn1; have HO1 := Lib.hid hown1; have HT1 := Lib.hid hturn1; clear hown1 hturn1)
    go_ret
    exact ⟨by rw [HH.out]; rfl, HT1.out.grown, hT.out.del HD.out HO1.out HT1.out.grown⟩

end Go.Proofs.YtpbpoddeiocgbaaDoor
