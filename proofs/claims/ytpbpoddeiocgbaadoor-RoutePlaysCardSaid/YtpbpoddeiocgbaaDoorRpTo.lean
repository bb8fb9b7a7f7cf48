/- The reference's test of a route's members. -/
import Derived.Test.YtpbpoddeiocgbaaDoorRpMem
set_option linter.unusedVariables false
set_option linter.unusedSimpArgs false
namespace Go.Proofs.YtpbpoddeiocgbaaDoor
open Go.RowKit Go.Maps Go.ChangeMaps Go.Sort Go.Shelf

def rtoB (mem : Int) (xs : List Int) : Bool := decide (xs.length ≤ 6) && mayB mem xs

theorem twice_at {xs : List Int} {m k : Nat} (hm : m < k) (hk : k < xs.length) (h : xs.getD m 0 = xs.getD k 0) : (xs.take k).contains (xs.getD k 0) = true := by
  rw [List.contains_iff_mem, ← h]
  rw [List.getD_eq_getElem?_getD, List.getElem?_eq_getElem (by omega)]
  exact List.mem_take_iff_getElem.2 ⟨m, by omega, rfl⟩
theorem once_at {xs : List Int} {k : Nat} (h : ∀ j, j < k → xs.getD j 0 ≠ xs.getD k 0) : (xs.take k).contains (xs.getD k 0) = false := by
  rw [Bool.eq_false_iff]
  intro hc
  rw [List.contains_iff_mem] at hc
  obtain ⟨j, hj, e⟩ := List.mem_take_iff_getElem.1 hc
  refine h j (by omega) ?_
  rw [← e, List.getD_eq_getElem?_getD, List.getElem?_eq_getElem (by omega)]
  rfl
set_option maxHeartbeats 1000000 in
set_option maxRecDepth 100000 in
theorem rto_any (g n c : Nat) (mem : Int) (A : Option Addr) (xs : List Int) (w : World) (hg : w.cell? ⟨g, 0, none⟩ = some (.int .i64 mem)) (hx : IntsAt w A n xs) (hbig : n ≤ 9223372036854775807) :
    Calls Tryd.prog 28 #[.pointer (some ⟨g, 0, none⟩), .slice A n c] w fun e w' => e = .returned (.bool (rtoB mem xs)) ∧ Below w.heap.size w w' := by
  obtain ⟨hn, hA⟩ := hx
  by_cases hsz : n < 1 ∨ 6 < n
  · have hr : rtoB mem xs = false := by
      unfold rtoB mayB
      rcases hsz with h | h
      · have e : ¬ 0 < xs.length := by omega
        simp [e]
      · have e : ¬ xs.length ≤ 6 := by omega
        simp [e]
    rw [hr]
    clear hn hA hr
    by_cases h1 : n < 1
    · have t1 : (n : Int) < 1 := by omega
      clear hsz
      go_enter Tryd.func28, Tryd.ntmps28
      go_wp2
      go_ret
      exact ⟨rfl, Below.refl _ _⟩
    · have t1 : ¬ (n : Int) < 1 := by omega
      have t2 : 6 < (n : Int) := by omega
      clear hsz
      go_enter Tryd.func28, Tryd.ntmps28
      go_wp2
      go_ret
      exact ⟨rfl, Below.refl _ _⟩
  · have t1 : ¬ (n : Int) < 1 := by omega
    have t2 : ¬ 6 < (n : Int) := by omega
    have n1 : 0 < n := by omega
    have n6 : n ≤ 6 := by omega
    obtain ⟨b, off, rfl, hc⟩ := hA n1
    have HC := Lib.hid hc
    have hlen : Hid (xs.length = n) := hn
    clear hn hA hc hsz
    go_enter Tryd.func28, Tryd.ntmps28
    go_wp2
    go_loopw [5] (fun i wr => ∃ k : Nat, k ≤ n ∧ i = .int .i64 k ∧ Aside0 (∃ q, wr = w.drewN q) ∧ Hid (∀ i, i < k → mayAt mem xs i = true)) (fun i _ => n - (intOf i).toNat)
    case atStart => exact ⟨0, Nat.zero_le _, rfl, ⟨⟨0, rfl⟩⟩, fun i hi => absurd hi (by omega)⟩
    case round =>
      obtain ⟨k, hk, rfl, hw, hM⟩ := hrel
      obtain ⟨q, rfl⟩ := hw.out
      clear hw
      by_cases hlt : k < n
      · have hck := HC.out k hlt
        obtain ⟨x, hxe⟩ : ∃ x, x = xs.getD k 0 := ⟨_, rfl⟩
        rw [← hxe] at hck
        have HX := Lib.hid hxe
        clear hxe
        by_cases h0 : x < 0
        · have t3 : decide (x < 0) = true := decide_eq_true h0
          go_wp2
          go_quiet (fail)
          go_wp2
          go_ret
          exact ⟨ret_bool (by rw [show rtoB mem xs = false by unfold rtoB; rw [mayB_no (k := k) (by rw [hlen.out]; exact hlt) (mayAt_neg (by rw [← HX.out]; exact h0)), Bool.and_false]]), (below_drewN0' w _).trans (below_drewN0' _ _)⟩
        · have t3 : decide (x < 0) = false := decide_eq_false h0
          by_cases h1 : mem ≤ x
          · go_wp2
            go_quiet (fail)
            go_wp2
            go_ret
            exact ⟨ret_bool (by rw [show rtoB mem xs = false by unfold rtoB; rw [mayB_no (k := k) (by rw [hlen.out]; exact hlt) (mayAt_big (by rw [← HX.out]; exact h1)), Bool.and_false]]), (below_drewN0' w _).trans (below_drewN0' _ _)⟩
          · go_wp2
            go_quiet (fail)
            go_wp2
            go_loopw [6] (fun j wr => ∃ m : Nat, m ≤ k ∧ j = .int .i64 m ∧ Aside0 (∃ q, wr = w.drewN q) ∧ Hid (∀ i, i < m → xs.getD i 0 ≠ x)) (fun j _ => k - (intOf j).toNat)
            case atStart => exact ⟨0, Nat.zero_le _, rfl, ⟨⟨_, World.drewN_drewN _ _ _⟩⟩, fun i hi => absurd hi (by omega)⟩
            case round =>
              obtain ⟨m, hm, rfl, hw, hN⟩ := hrel
              obtain ⟨q2, rfl⟩ := hw.out
              clear hw
              by_cases hmk : m < k
              · have hcm := HC.out m (by omega)
                obtain ⟨y, hye⟩ : ∃ y, y = xs.getD m 0 := ⟨_, rfl⟩
                rw [← hye] at hcm
                have HY := Lib.hid hye
                clear hye
                by_cases hxy : y = x
                · have HXY := Lib.hid hxy
                  have t4 : (y == x) = true := by simpa using hxy
                  clear hxy
                  go_wp2
                  go_quiet (fail)
                  go_wp2
                  go_ret
                  refine ⟨ret_bool ?_, (below_drewN0' w _).trans (below_drewN0' _ _)⟩
                  rw [show rtoB mem xs = false by unfold rtoB; rw [mayB_no (k := k) (by rw [hlen.out]; exact hlt) (mayAt_twice (twice_at (m := m) hmk (by rw [hlen.out]; exact hlt) (by rw [← HX.out, ← HY.out]; exact HXY.out))), Bool.and_false]]
                · have HXY := Lib.hid hxy
                  have t4 : (y == x) = false := by simpa using hxy
                  clear hxy
                  go_wp2
                  go_quiet (fail)
                  go_wp2
                  refine ⟨⟨m + 1, by omega, by go_num, ⟨⟨_, rfl⟩⟩, fun i hi => ?_⟩, by simp [intOf]; omega⟩
                  by_cases e : i = m
                  · subst e; rw [← HY.out]; exact HXY.out
                  · exact hN i (by omega)
              · have e : m = k := by omega
                subst e
                go_wp2
                refine ⟨⟨m + 1, by omega, by go_num, ⟨⟨_, rfl⟩⟩, fun i hi => ?_⟩, by simp [intOf]; omega⟩
                by_cases e : i = m
                · subst e
                  exact mayAt_yes (by rw [← HX.out]; omega) (by rw [← HX.out]; omega) (once_at (fun j hj => by rw [← HX.out]; exact hN j hj))
                · exact hM i (by omega)
      · have e : k = n := by omega
        subst e
        go_wp2
        go_ret
        refine ⟨ret_bool ?_, below_drewN0' w _⟩
        rw [show rtoB mem xs = true by
          unfold rtoB
          rw [mayB_yes (by rw [hlen.out]; exact n1) (fun i hi => hM i (by rw [← hlen.out]; exact hi)), decide_eq_true (by rw [hlen.out]; exact n6)]
          rfl]
end Go.Proofs.YtpbpoddeiocgbaaDoor
