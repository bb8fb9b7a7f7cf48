/- same: two rows of routes held against each other. -/
import Derived.Test.YtpbpoddeiocgbaaDoorRpMem
set_option linter.unusedVariables false
set_option linter.unusedSimpArgs false
namespace Go.Proofs.YtpbpoddeiocgbaaDoor
open Go.RowKit Go.Maps Go.ChangeMaps Go.Sort Go.Shelf

theorem pr_upto {l m : List Rt} (hl : l.length = m.length) (h : ∀ i r s, i < l.length → l[i]? = some r → m[i]? = some s → r.p = s.p ∧ r.xs = s.xs) : rts l = rts m := by
  refine List.ext_getElem (by simp [rts, hl]) fun i h1 h2 => ?_
  simp only [rts, List.length_map] at h1 h2
  obtain ⟨e1, e2⟩ := h i l[i] m[i] h1 (List.getElem?_eq_getElem h1) (List.getElem?_eq_getElem h2)
  simp only [rts, List.getElem_map]
  rw [e1, e2]
theorem pr_not {l m : List Rt} {i : Nat} {r s : Rt} (hr : l[i]? = some r) (hs : m[i]? = some s) (h : r.p ≠ s.p ∨ r.xs ≠ s.xs) : rts l ≠ rts m := by
  intro e
  have e1 : (rts l)[i]? = some (r.p, r.xs) := by simp [rts, hr]
  have e2 : (rts m)[i]? = some (s.p, s.xs) := by simp [rts, hs]
  rw [e, e2] at e1
  injection e1 with e1
  injection e1 with e3 e4
  rcases h with h | h
  · exact h e3.symm
  · exact h e4.symm

theorem rows_ne {l r : List Rt} {i : Nat} {a b : Rt} (ha : l[i]? = some a) (hb : r[i]? = some b) (h : (!(a.p.toList == b.p.toList)) = true ∨ decide (a.xs = b.xs) = false) : rts l ≠ rts r := by
  refine pr_not ha hb ?_
  rcases h with h | h
  · left
    intro e
    rw [e] at h
    simp at h
  · exact .inr (of_decide_eq_false h)
theorem rows_eq {a b : Rt} (h : (!(a.p.toList == b.p.toList)) = false) (h2 : decide (a.xs = b.xs) = true) : a.p = b.p ∧ a.xs = b.xs := by
  refine ⟨?_, of_decide_eq_true h2⟩
  have h3 : a.p.toList = b.p.toList := by simpa using h
  rw [ByteArray.toList_eq, ByteArray.toList_eq] at h3
  exact bytes_ext h3
theorem rows_next {l r : List Rt} {k : Nat} {a b : Rt} (hE : ∀ i a b, i < k → l[i]? = some a → r[i]? = some b → a.p = b.p ∧ a.xs = b.xs) (ha : l[k]? = some a) (hb : r[k]? = some b) (h : a.p = b.p ∧ a.xs = b.xs) :
    ∀ i a b, i < k + 1 → l[i]? = some a → r[i]? = some b → a.p = b.p ∧ a.xs = b.xs := by
  intro i a' b' hi ha' hb'
  by_cases e : i = k
  · subst e
    rw [ha] at ha'; rw [hb] at hb'
    obtain rfl := Option.some.inj ha'
    obtain rfl := Option.some.inj hb'
    exact h
  · exact hE i a' b' (by omega) ha' hb'

set_option maxHeartbeats 1000000 in
set_option maxRecDepth 100000 in
theorem same_any (n m c d : Nat) (A B : Option Addr) (l r : List Rt) (w : World) (hl : RoutesAt w A n l) (hr : RoutesAt w B m r) (hnb : n ≤ 9223372036854775807) (hmb : m ≤ 9223372036854775807) :
    Calls Tryd.prog 20 #[.slice A n c, .slice B m d] w fun e w' => e = .returned (.bool (decide (rts l = rts r))) ∧ Below w.heap.size w w' := by
  have HL := Lib.hid hl
  have HR := Lib.hid hr
  have hln := Lib.hid hl.1
  have hrn := Lib.hid hr.1
  clear hl hr
  by_cases hnm : n = m
  · subst hnm
    go_enter Tryd.func20, Tryd.ntmps20
    go_wp2
    go_loopw [5] (fun i wr => ∃ k : Nat, k ≤ n ∧ i = .int .i64 k ∧ Below w.heap.size w wr ∧ Hid (∀ i a b, i < k → l[i]? = some a → r[i]? = some b → a.p = b.p ∧ a.xs = b.xs)) (fun i _ => n - (intOf i).toNat)
    case atStart => exact ⟨0, Nat.zero_le _, rfl, Below.refl _ _, fun i a b hi => absurd hi (by omega)⟩
    case round =>
      obtain ⟨k, hk, rfl, hB, hE⟩ := hrel
      by_cases hlt : k < n
      · obtain ⟨a, ha⟩ : ∃ a, l[k]? = some a := ⟨l[k]'(by have := hln.out; omega), List.getElem?_eq_getElem _⟩
        obtain ⟨b, hb⟩ : ∃ b, r[k]? = some b := ⟨r[k]'(by have := hrn.out; omega), List.getElem?_eq_getElem _⟩
        obtain ⟨b1, o1, rfl, c0, c1⟩ := (HL.out.keep hB).2.1 k a ha
        obtain ⟨b2, o2, rfl, d0, d1⟩ := (HR.out.keep hB).2.1 k b hb
        have hoa := (HL.out.keep hB).2.2 a (List.mem_of_getElem? ha)
        have hob := (HR.out.keep hB).2.2 b (List.mem_of_getElem? hb)
        have HA := Lib.hid ha
        have HBB := Lib.hid hb
        have HOA := Lib.hid hoa
        have HOB := Lib.hid hob
        have l1 : b1 < wr.heap.size := World.block_lt_of_cell? wr _ c0
        have l2 : b2 < wr.heap.size := World.block_lt_of_cell? wr _ d0
        clear ha hb hoa hob
        rcases hdec : decide (a.xs = b.xs) with _ | _
        all_goals have HD := Lib.hid hdec
        all_goals clear hdec
        all_goals rcases htp : (!(a.p.toList == b.p.toList)) with _ | _
        all_goals have HTP := Lib.hid htp
        all_goals go_wp2
        all_goals go_region_with (go_at_call 8; refine (ints_any a.n b.n a.c b.c a.A b.A a.xs b.xs _ (by exact HOA.out.2.1) (by exact HOB.out.2.1) (by have := HOA.out.2.2.2; omega) (by have := HOB.out.2.2.2; omega)).mono ?_; rintro e w2 ⟨he, hb2⟩; rw [HD.out] at he; subst he; have c0' := (hb2.cell l1).trans c0; have d0' := (hb2.cell l2).trans d0)
        all_goals go_wp2
        all_goals go_quiet (fail)
        all_goals go_wp2
        all_goals have hb2' : Below wr.heap.size wr w2 := ⟨hb2.os, hb2.tape, hb2.output, hb2.size, hb2.block⟩
        all_goals have hbB := hB.trans (hb2'.mono hB.size)
        all_goals first
          | (go_ret; exact ⟨ret_bool (decide_eq_false (rows_ne HA.out HBB.out (by first | exact .inl HTP.out | exact .inr HD.out))).symm, hbB.trans (below_drewN0' _ _)⟩)
          | exact ⟨⟨k + 1, by omega, by go_num, hbB.trans (below_drewN0' _ _), rows_next hE HA.out HBB.out (rows_eq HTP.out HD.out)⟩, by simp [intOf]; omega⟩
      · have e : k = n := by omega
        subst e
        go_wp2
        go_ret
        refine ⟨ret_bool (decide_eq_true (pr_upto (by rw [hln.out, hrn.out]) fun i a b hi => hE i a b (by rw [← hln.out]; exact hi))).symm, hB⟩
  · have ht : ((n : Int) != (m : Int)) = true := by simp; omega
    have hne : rts l ≠ rts r := fun e => hnm (by have := congrArg List.length e; simp [rts] at this; rw [hln.out, hrn.out] at this; exact this)
    have HNE := Lib.hid hne
    clear hne
    go_enter Tryd.func20, Tryd.ntmps20
    go_wp2
    go_ret
    exact ⟨ret_bool (decide_eq_false HNE.out).symm, Below.refl _ _⟩
end Go.Proofs.YtpbpoddeiocgbaaDoor
