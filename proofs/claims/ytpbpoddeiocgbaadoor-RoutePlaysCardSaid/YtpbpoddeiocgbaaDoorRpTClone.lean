/- The program's Clone: its own struct and its own map, the rows shared. -/
import Derived.Test.YtpbpoddeiocgbaaDoorRpPair
set_option linter.unusedVariables false
set_option linter.unusedSimpArgs false
namespace Go.Proofs.YtpbpoddeiocgbaaDoor
open Go.RowKit Go.Maps Go.ChangeMaps Go.Sort Go.Shelf

def TCloned (mem : Int) (T : List Ent) (w w' : World) (e : Ending) : Prop :=
  Below w.heap.size w w' ∧ ∃ g' b', e = .returned (.pointer (some ⟨g', 0, none⟩)) ∧ Tab w' g' b' mem T ∧ w.heap.size ≤ g' ∧ w.heap.size ≤ b'
theorem tcloned_mk {g b : Nat} {mem : Int} {T : List Ent} {w w2 : World} {D : DataW Value} (hT : Tab w g b mem T) (hD : TabIs D (ents T)) (hm : w2.ownsMap Tryd.prog 9 rawE w.heap.size T.length D) (hb : Below w.heap.size w w2) :
    TCloned mem T w (w2.alloc (.cells #[.int .i64 mem, .map (some w.heap.size)] 54)) (.returned (.pointer (some ⟨w2.heap.size, 0, none⟩))) := by
  have hB := hb.alloc hb.size (.cells #[.int .i64 mem, .map (some w.heap.size)] 54)
  refine ⟨hB, _, _, rfl, ⟨heap_alloc_new _ _, ⟨D, ?_, hD⟩, fun t ht => ?_⟩, hb.size, Nat.le_refl _⟩
  · exact hm.kept (grown_below ((Below.refl w2.heap.size w2).alloc (Nat.le_refl _) _) none) (by simp)
  · exact (hT.below hB).2.2 t ht
set_option maxHeartbeats 2000000 in
set_option maxRecDepth 100000 in
theorem tclone_any (g b : Nat) (mem : Int) (T : List Ent) (w : World) (h : Tab w g b mem T) :
    Calls Tryd.prog 13 #[.pointer (some ⟨g, 0, none⟩)] w fun e w' => TCloned mem T w w' e := by
  obtain ⟨D, hm, hD⟩ := h.2.1
  have c0 := h.c0
  have c1 := h.c1
  have hT := Lib.hid h
  have HM := Lib.hid hm
  have HD := Lib.hid hD
  clear h hm hD
  go_enter Tryd.func13, Tryd.ntmps13
  go_wp2
  go_region_with (go_at_call 24; refine (mclone_any b T.length D _ (by exact HM.out)).mono ?_; rintro e w2 ⟨rfl, hm2, hm1, hb2⟩; have c0' := (hb2.cell (World.block_lt_of_cell? w _ c0)).trans c0; have HM2 := Lib.hid hm2; clear hm2 hm1)
  all_goals go_wp2
  all_goals go_ret
  all_goals exact tcloned_mk hT.out HD.out (by exact HM2.out) ⟨hb2.os, hb2.tape, hb2.output, hb2.size, hb2.block⟩
end Go.Proofs.YtpbpoddeiocgbaaDoor
