/- The reference's test of a prefix. -/
import Derived.Test.YtpbpoddeiocgbaaDoorRpMem
set_option linter.unusedVariables false
set_option linter.unusedSimpArgs false
namespace Go.Proofs.YtpbpoddeiocgbaaDoor
open Go.RowKit Go.Maps Go.ChangeMaps Go.Sort Go.Shelf

def okPre (p : ByteArray) : Bool := decide (¬ (p.size = 0 ∨ 8 < p.size ∨ digB p = false))

theorem ten_iff (b : UInt8) : tenS.data.toList.contains b = (decide (48 ≤ b.toNat) && decide (b.toNat ≤ 57)) := by
  have h : ∀ n, n < 256 → tenS.data.toList.contains (UInt8.ofNat n) = (decide (48 ≤ (UInt8.ofNat n).toNat) && decide ((UInt8.ofNat n).toNat ≤ 57)) := by decide +kernel
  have := h b.toNat b.toNat_lt
  rwa [UInt8.ofNat_toNat] at this
theorem digB_eq (p : ByteArray) : digB p = p.data.toList.all fun b => decide (48 ≤ b.toNat) && decide (b.toNat ≤ 57) := by
  unfold digB Lib.trimLeftS
  generalize p.data.toList = l
  induction l with
  | nil => rfl
  | cons a l ih =>
    rw [List.dropWhile_cons, List.all_cons, ten_iff]
    cases h : (decide (48 ≤ a.toNat) && decide (a.toNat ≤ 57)) with
    | true => rw [Bool.true_and]; exact ih
    | false => rw [Bool.false_and]; rfl
theorem digB_all {p : ByteArray} (h : ∀ i, i < p.size → 48 ≤ (p.data.toList.getD i 0).toNat ∧ (p.data.toList.getD i 0).toNat ≤ 57) : digB p = true := by
  rw [digB_eq, List.all_eq_true]
  intro b hb
  obtain ⟨i, hi, rfl⟩ := List.mem_iff_getElem.1 hb
  have := h i (by rw [Array.length_toList] at hi; exact hi)
  rw [List.getD_eq_getElem?_getD, List.getElem?_eq_getElem hi] at this
  simpa using this
theorem byte_at {p : ByteArray} {k : Nat} (h : k < p.size) : (p.data.toList.getD k 0).toNat = (p[k]'h).toNat := by
  rw [List.getD_eq_getElem?_getD, List.getElem?_eq_getElem (by rw [Array.length_toList]; exact h)]
  simp [ByteArray.getElem_eq_getElem_data]
theorem okPre_no {p : ByteArray} {k : Nat} (hk : k < p.size) (h : ¬ (48 ≤ (p.data.toList.getD k 0).toNat ∧ (p.data.toList.getD k 0).toNat ≤ 57)) : okPre p = false := by
  unfold okPre
  rw [decide_eq_false_iff_not]
  intro hn
  refine hn (.inr (.inr ?_))
  rw [digB_eq, List.all_eq_false]
  refine ⟨p.data.toList.getD k 0, ?_, by simpa using h⟩
  rw [List.getD_eq_getElem?_getD, List.getElem?_eq_getElem (by rw [Array.length_toList]; exact hk)]
  exact List.getElem_mem _
theorem decide_congr' {a b : Prop} [Decidable a] [Decidable b] (h : a ↔ b) : decide a = decide b := by
  by_cases ha : a
  · rw [decide_eq_true ha, decide_eq_true (h.1 ha)]
  · rw [decide_eq_false ha, decide_eq_false fun hb => ha (h.2 hb)]

set_option maxHeartbeats 1000000 in
theorem rprefix_any (p : ByteArray) (w : World) (hp : p.size ≤ 9223372036854775807) :
    Calls Tryd.prog 27 #[.string p] w fun e w' => e = .returned (.bool (okPre p)) ∧ w = w' := by
  go_enter Tryd.func27, Tryd.ntmps27
  go_wp2
  go_loop [3] (fun i => ∃ k : Nat, k ≤ p.size ∧ i = .int .i64 k ∧ Hid (∀ i, i < k → 48 ≤ (p.data.toList.getD i 0).toNat ∧ (p.data.toList.getD i 0).toNat ≤ 57)) (fun i => p.size - (intOf i).toNat)
  case atStart => exact ⟨0, Nat.zero_le _, rfl, fun i hi => absurd hi (by omega)⟩
  case round =>
    obtain ⟨k, hk, rfl, hM⟩ := hrel
    by_cases hlt : k < p.size
    · have hb := byte_at hlt
      generalize hbx : p[k].toNat = x at hb
      go_wp2
      · have h1 : (x : Int) < 48 ∨ 57 < (x : Int) := by assumption
        go_ret
        exact ⟨ret_bool (okPre_no (k := k) hlt (by rw [hb]; omega)).symm, rfl⟩
      · have h1 : 48 ≤ (x : Int) ∧ (x : Int) ≤ 57 := by assumption
        refine ⟨⟨k + 1, by omega, by go_num, fun i hi => ?_⟩, by simp [intOf]; omega⟩
        by_cases e : i = k
        · subst e; rw [hb]; omega
        · exact hM i (by omega)
      · have h1 : (x : Int) < 48 := by assumption
        go_ret
        exact ⟨ret_bool (okPre_no (k := k) hlt (by rw [hb]; omega)).symm, rfl⟩
    · have e : k = p.size := by omega
      have hall : Hid (digB p = true) := digB_all fun i hi => hM i (by omega)
      go_wp2
      · have h1 : (1 : Int) ≤ (p.size : Int) := by assumption
        go_ret
        refine ⟨ret_bool ?_, rfl⟩
        unfold okPre
        rw [hall.out]
        exact decide_congr' ⟨fun h => (by rintro (h' | h' | h') <;> first | omega | cases h'), fun h => by omega⟩
      · have h1 : (p.size : Int) < 1 := by assumption
        go_ret
        refine ⟨ret_bool ?_, rfl⟩
        unfold okPre
        rw [decide_eq_false]
        omega
end Go.Proofs.YtpbpoddeiocgbaaDoor
