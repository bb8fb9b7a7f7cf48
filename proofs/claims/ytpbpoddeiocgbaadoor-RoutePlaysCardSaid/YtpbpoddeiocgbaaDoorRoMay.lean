/- The program's check of a route's members, as a plain test on numbers. -/
import Derived.Test.YtpbpoddeiocgbaaDoorRoLib
import Derived.Outline
import Derived.Lib.Hide
import Derived.WalkSpells
import Derived.WalkLawsBesides
set_option linter.unusedVariables false
set_option linter.unusedSimpArgs false
namespace Go.Proofs.YtpbpoddeiocgbaaDoor
open Go.RowKit Go.Maps Go.ChangeMaps Go.Sort Go.Shelf

/-- Member number i of a list may be: it is one, and it does not stand ahead. -/
def mayAt (mem : Int) (xs : List Int) (i : Nat) : Bool := decide (0 ≤ xs.getD i 0) && (decide (xs.getD i 0 < mem) && !(xs.take i).contains (xs.getD i 0))
def mayB (mem : Int) (xs : List Int) : Bool := decide (0 < xs.length) && (List.range xs.length).all (mayAt mem xs)

theorem mayB_no {mem : Int} {xs : List Int} {k : Nat} (hk : k < xs.length) (h : mayAt mem xs k = false) : mayB mem xs = false := by
  unfold mayB
  rw [Bool.and_eq_false_iff]
  right
  rw [List.all_eq_false]
  exact ⟨k, List.mem_range.2 hk, by simp [h]⟩
theorem mayB_yes {mem : Int} {xs : List Int} (h0 : 0 < xs.length) (h : ∀ i, i < xs.length → mayAt mem xs i = true) : mayB mem xs = true := by
  unfold mayB
  simp only [h0, decide_true, Bool.true_and, List.all_eq_true, List.mem_range]
  exact h

theorem mayAt_neg {mem : Int} {xs : List Int} {k : Nat} (h : xs.getD k 0 < 0) : mayAt mem xs k = false := by
  have e : decide (0 ≤ xs.getD k 0) = false := decide_eq_false (by omega)
  simp only [mayAt, e, Bool.false_and]
theorem mayAt_big {mem : Int} {xs : List Int} {k : Nat} (h : mem ≤ xs.getD k 0) : mayAt mem xs k = false := by
  have e : decide (xs.getD k 0 < mem) = false := decide_eq_false (by omega)
  simp only [mayAt, e, Bool.false_and, Bool.and_false]
theorem mayAt_twice {mem : Int} {xs : List Int} {k : Nat} (h : (xs.take k).contains (xs.getD k 0) = true) : mayAt mem xs k = false := by
  simp only [mayAt, h, Bool.not_true, Bool.and_false]
theorem mayAt_yes {mem : Int} {xs : List Int} {k : Nat} (h0 : 0 ≤ xs.getD k 0) (h1 : xs.getD k 0 < mem) (h : (xs.take k).contains (xs.getD k 0) = false) : mayAt mem xs k = true := by
  simp only [mayAt, h, h0, h1, decide_true, Bool.not_false, Bool.and_true]

theorem ret_bool {a b : Bool} (h : a = b) : Ending.returned (.bool a) = .returned (.bool b) := by rw [h]
set_option maxHeartbeats 1000000 in
theorem may_any (g n c : Nat) (mem : Int) (A : Option Addr) (xs : List Int) (w : World) (hg : w.cell? ⟨g, 0, none⟩ = some (.int .i64 mem)) (hx : IntsAt w A n xs) (hnc : n ≤ c) (hbig : n ≤ 9223372036854775807) :
    Calls Tryd.prog 26 #[.pointer (some ⟨g, 0, none⟩), .slice A n c] w fun e w' => e = .returned (.bool (mayB mem xs)) ∧ w = w' := by
  obtain ⟨hn, hA⟩ := hx
  go_enter Tryd.func26, Tryd.ntmps26
  go_wp2
  go_loop [9] (fun i => ∃ k : Nat, k ≤ n ∧ i = .int .i64 k ∧ Hid (∀ i, i < k → mayAt mem xs i = true)) (fun i => n - (intOf i).toNat)
  case atStart => exact ⟨0, Nat.zero_le _, rfl, fun i hi => absurd hi (by omega)⟩
  case round =>
    obtain ⟨k, hk, rfl, hM⟩ := hrel
    by_cases hlt : k < n
    · obtain ⟨b, off, rfl, hc⟩ := hA (by omega)
      have hck := hc k hlt
      have hlen : Hid (xs.length = n) := hn
      have HC := Lib.hid hc
      clear hn hA hc
      obtain ⟨x, hxe⟩ : ∃ x, x = xs.getD k 0 := ⟨_, rfl⟩
      rw [← hxe] at hck
      have HX := Lib.hid hxe
      clear hxe
      by_cases h0 : x < 0
      · go_wp2
        go_ret
        exact ⟨ret_bool (mayB_no (k := k) (by rw [hlen]; exact hlt) (mayAt_neg (by rw [← HX.out]; exact h0))).symm, rfl⟩
      · by_cases h1 : mem ≤ x
        · go_wp2
          go_ret
          exact ⟨ret_bool (mayB_no (k := k) (by rw [hlen]; exact hlt) (mayAt_big (by rw [← HX.out]; exact h1))).symm, rfl⟩
        · go_wp2_with (go_at_call 37; refine (contains_any b off n c k xs x _ hlen hk hbig HC.out).mono ?_; rintro e w' ⟨rfl, rfl⟩)
          · rename_i hin
            go_ret
            exact ⟨ret_bool (mayB_no (k := k) (by rw [hlen]; exact hlt) (mayAt_twice (by rw [← HX.out]; simpa using hin))).symm, rfl⟩
          · rename_i hin
            go_round
            case rel =>
              refine ⟨k + 1, by omega, by go_num, fun i hi => ?_⟩
              by_cases e : i = k
              · subst e
                exact mayAt_yes (by rw [← HX.out]; omega) (by rw [← HX.out]; omega) (by rw [← HX.out]; simpa using hin)
              · exact hM i (by omega)
            case measure => simp [intOf]; omega
    · have e : k = n := by omega
      subst e
      go_wp2
      go_ret
      refine ⟨ret_bool ?_, rfl⟩
      by_cases h0 : 0 < k
      · rw [mayB_yes (by omega) (fun i hi => hM i (by omega))]
        exact decide_eq_true h0
      · have e : xs = [] := List.eq_nil_of_length_eq_zero (by omega)
        subst e
        simpa [mayB] using h0

end Go.Proofs.YtpbpoddeiocgbaaDoor
