/- Find: the row of the longest prefix of a card that the table has. -/
import Derived.Test.YtpbpoddeiocgbaaDoorRoTab
set_option linter.unusedVariables false
set_option linter.unusedSimpArgs false
namespace Go.Proofs.YtpbpoddeiocgbaaDoor
open Go.RowKit Go.Maps Go.ChangeMaps Go.Sort Go.Shelf

/-- The longest prefix of at most n bytes that the table has. -/
def best (T : List Ent) (pan : ByteArray) : Nat → Option (List Int)
  | 0 => none
  | n + 1 => match T.find? fun t => decide (t.1 = pan.extract 0 (n + 1)) with
    | some t => some t.2.2
    | none => best T pan n

theorem best_none {T : List Ent} {pan : ByteArray} {m : Nat} (h : T.find? (fun t => decide (t.1 = pan.extract 0 (m + 1))) = none) : best T pan (m + 1) = best T pan m := by
  simp only [best, h]
theorem best_some {T : List Ent} {pan : ByteArray} {m : Nat} {t : Ent} (h : T.find? (fun t => decide (t.1 = pan.extract 0 (m + 1))) = some t) : best T pan (m + 1) = some t.2.2 := by
  simp only [best, h]
/-- A fact that the walk does not look into. -/
structure Aside0 (p : Prop) : Prop where mk :: (out : p)
def Found (w w' : World) (e : Ending) (r : Option (List Int)) : Prop :=
  match r with
  | none => e = .returned (.tuple #[.slice none 0 0, .bool false]) ∧ Below w.heap.size w w'
  | some xs => ∃ v, e = .returned (.tuple #[v, .bool true]) ∧ w'.ownsRow w.heap.size 3 1 v xs.length (xs.map (Value.int .i64)) ∧ Below w.heap.size w w'

theorem below_drewN0 (w : World) (n : Nat) : Below w.heap.size w (w.drewN n) := ⟨rfl, rfl, rfl, Nat.le_refl _, fun _ _ => rfl⟩
set_option maxHeartbeats 1000000 in
theorem find_any (g b : Nat) (mem : Int) (T : List Ent) (pan : ByteArray) (w : World) (h : Tab w g b mem T) (hp : pan.size ≤ maxLen) :
    Calls Tryd.prog 7 #[.pointer (some ⟨g, 0, none⟩), .string pan] w fun e w' => Found w w' e (best T pan (min 8 pan.size)) := by
  have hT := Lib.hid h
  clear h
  unfold maxLen at hp
  go_enter Tryd.func7, Tryd.ntmps7
  go_wp2
  have hm := Nat.min_le_right 8 pan.size
  have hm8 := Nat.min_le_left 8 pan.size
  go_loopw [6] (fun i wr => ∃ k : Nat, k ≤ pan.size ∧ i = .int .i64 k ∧ Aside0 (∃ n, wr = w.drewN n) ∧ Hid (best T pan (min 8 pan.size) = best T pan k)) (fun i wr => (intOf i).toNat)
  case atStart => exact ⟨min 8 pan.size, hm, by rw [show ((min 8 pan.size : Nat) : Int) = min 8 (pan.size : Int) by omega], ⟨⟨0, rfl⟩⟩, rfl⟩
  case round =>
    obtain ⟨k, hk, rfl, hw, hB⟩ := hrel
    obtain ⟨n, rfl⟩ := hw.out
    clear hw
    cases k with
    | zero =>
      go_wp2
      go_ret2
      show Found w _ _ _
      rw [hB]
      exact ⟨rfl, below_drewN0 w n⟩
    | succ m =>
      have hc1 := hT.out.c1
      have hL := fun n => (hT.out.drewN n).look (pan.extract 0 (m + 1)) (by unfold maxLen; simp; omega)
      cases hf : T.find? (fun t => decide (t.1 = pan.extract 0 (m + 1))) with
      | none =>
        obtain ⟨e1, e2⟩ := findV_none hf
        rw [e1, e2] at hL
        have HF := Lib.hid hf
        clear hf e1 e2
        go_wp2
        go_quiet (fail)
        go_wp2
        refine ⟨⟨m, by omega, rfl, ⟨⟨_, rfl⟩⟩, ?_⟩, by simp [intOf]⟩
        show best T pan (min 8 pan.size) = best T pan m
        rw [hB]
        exact best_none HF
      | some t =>
        obtain ⟨e1, e2, hm2, he⟩ := findV_some hf
        obtain ⟨kb, cap, cur, hv, hob, hlt, hh, hlc, hcm, hcs⟩ := (hT.out.2.2 t hm2).block
        rw [e1, e2, hv] at hL
        have HF := Lib.hid hf
        clear hf e1 e2
        have HCS := Lib.hid hcs
        clear hcs hv he hob hh
        go_wp2
        go_quiet (fail)
        go_wp2_with fail
        refine (clone_any kb 0 t.2.2.length cap t.2.2 _ rfl (hT.out.2.2 t hm2).2.2 (by exact fun j hj => HCS.out j hj)).mono ?_
        rintro e w1 ⟨v, rfl, hrow, hbel⟩
        have HR := Lib.hid hrow
        clear hrow
        go_wp2
        go_ret2
        show Found w _ _ _
        rw [hB, best_some HF]
        exact ⟨v, rfl, HR.out, (below_drewN0 w _).trans hbel⟩

end Go.Proofs.YtpbpoddeiocgbaaDoor
