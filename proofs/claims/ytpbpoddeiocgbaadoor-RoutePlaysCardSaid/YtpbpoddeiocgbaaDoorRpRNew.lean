/- The reference's New. -/
import Derived.Test.YtpbpoddeiocgbaaDoorRpRef
set_option linter.unusedVariables false
set_option linter.unusedSimpArgs false
namespace Go.Proofs.YtpbpoddeiocgbaaDoor
open Go.RowKit Go.Maps Go.ChangeMaps Go.Sort Go.Shelf

/-- A table of the reference's own, that tells what S tells. -/
def RT (B : Nat) (w : World) (mem : Int) (S : List Pr) (g : Nat) (v : Value) (l : List Ent) : Prop :=
  RTab w g mem v l ∧ Srt (sh l) ∧ (sh l).Perm S ∧ B ≤ g ∧ InL (fun i => B ≤ i) v l ∧ l.length ≤ 32
def RMade (mem : Int) (S : List Pr) (w w' : World) (e : Ending) : Prop :=
  Below w.heap.size w w' ∧ if newE mem S = 0 then ∃ g v l, e = .returned (.tuple #[.pointer (some ⟨g, 0, none⟩), .int .i64 0]) ∧ RT w.heap.size w' mem S g v l else e = .returned (.tuple #[.pointer none, .int .i64 (newE mem S)])
theorem rt_len {B : Nat} {w : World} {mem : Int} {S : List Pr} {g : Nat} {v : Value} {l : List Ent} (h : RT B w mem S g v l) : l.length = S.length := by
  have := h.2.2.1.length_eq
  simpa [sh] using this
theorem radd_rt {B : Nat} {w w' : World} {mem : Int} {S : List Pr} {g : Nat} {v : Value} {l : List Ent} {p : ByteArray} {xs : List Int} {e : Ending} (hm : mem ≤ 6) (h : RT B w mem S g v l) (hB : B ≤ w.heap.size) (ha : RAdded g mem v l p xs w w' e) :
    e = .returned (.int .i64 (addS mem S p xs)) ∧ w.grownBy w' (some g) ∧ if addS mem S p xs = 0 then ∃ v' l', RT B w' mem (S ++ [(p, xs)]) g v' l' else RT B w' mem S g v l ∧ Below w.heap.size w w' := by
  have hE := addR_addS (xs := xs) (p := p) hm h.2.2.1
  obtain ⟨he, hg, hif⟩ := ha
  rw [hE] at he hif
  refine ⟨he, hg, ?_⟩
  by_cases hz : addS mem S p xs = 0
  · rw [if_pos hz] at hif ⊢
    obtain ⟨v', l', hT, hs, hp, hv, hl⟩ := hif
    refine ⟨v', l', hT, hs, hp.trans (h.2.2.1.append_right _), h.2.2.2.1, ⟨fun k hk => Nat.le_trans hB (hv k hk), fun t ht => ?_⟩, ?_⟩
    · rcases hl t ht with h1 | h1
      · exact h.2.2.2.2.1.2 t h1
      · exact fun k hk => Nat.le_trans hB (h1 k hk)
    · have h1 := hp.length_eq
      simp only [sh, List.length_map, List.length_append, List.length_cons, List.length_nil] at h1
      have h2 := rt_len h
      have h3 : S.length ≠ 32 := by
        unfold addS at hz
        split at hz; · cases hz
        split at hz; · cases hz
        split at hz; · cases hz
        split at hz; · cases hz
        assumption
      have := h.2.2.2.2.2
      omega
  · rw [if_neg hz] at hif ⊢
    exact ⟨⟨hif.1, h.2⟩, hif.2⟩

def RNewRel (mem : Int) (S : List Pr) (w : World) (k : Nat) (wr : World) : Prop :=
  ∃ v l, RT w.heap.size wr mem (S.take k) w.heap.size v l ∧ Below w.heap.size w wr ∧ newS mem [] S = newS mem (S.take k) (S.drop k)
theorem rNew_start (mem : Int) (S : List Pr) (w : World) : RNewRel mem S w 0 (w.alloc (.cells #[.int .i64 mem, .slice none 0 0] 50)) :=
  ⟨_, [], ⟨⟨heap_alloc_new w _, Ls.nil _⟩, List.Pairwise.nil, by simp [sh], Nat.le_refl _, ⟨fun k hk => (by cases hk), fun t ht => (by cases ht)⟩, by simp⟩, (Below.refl _ _).alloc (Nat.le_refl _) _, by simp⟩
theorem rts_at' {l : List Rt} {k : Nat} {r : Rt} (h : l[k]? = some r) : (rts l).take (k + 1) = (rts l).take k ++ [(r.p, r.xs)] ∧ (rts l).drop k = (r.p, r.xs) :: (rts l).drop (k + 1) := by
  have e1 : (rts l)[k]? = some (r.p, r.xs) := by simp [rts, h]
  obtain ⟨hk, e2⟩ := List.getElem?_eq_some_iff.1 e1
  refine ⟨by rw [List.take_add_one, e1]; rfl, ?_⟩
  rw [← e2, List.getElem_cons_drop]

set_option maxHeartbeats 1000000 in
set_option maxRecDepth 100000 in
theorem rnew_any (n c : Nat) (mem : Int) (A : Option Addr) (l : List Rt) (w : World) (hl : RoutesAt w A n l) (hbig : n ≤ 9223372036854775807) :
    Calls Tryd.prog 12 #[.slice A n c, .int .i64 mem] w fun e w' => RMade mem (rts l) w w' e := by
  have hL := Lib.hid hl
  clear hl
  by_cases h1 : mem < 1
  · have hE : newE mem (rts l) = 130 := by unfold newE; rw [if_pos (.inl h1)]
    have HE := Lib.hid hE
    clear hE
    go_enter Tryd.func12, Tryd.ntmps12
    go_wp2
    go_ret2
    refine ⟨Below.refl _ _, ?_⟩
    rw [if_neg (by rw [HE.out]; decide), HE.out]
    rfl
  by_cases h2 : 6 < mem
  · have hE : newE mem (rts l) = 130 := by unfold newE; rw [if_pos (.inr h2)]
    have HE := Lib.hid hE
    clear hE
    go_enter Tryd.func12, Tryd.ntmps12
    go_wp2
    go_ret2
    refine ⟨Below.refl _ _, ?_⟩
    rw [if_neg (by rw [HE.out]; decide), HE.out]
    rfl
  have hE : newE mem (rts l) = newS mem [] (rts l) := by unfold newE; rw [if_neg (by omega)]
  have HE := Lib.hid hE
  clear hE
  go_enter Tryd.func12, Tryd.ntmps12
  go_wp2
  go_loopw [7] (fun i wr => ∃ k : Nat, k ≤ n ∧ i = .int .i64 k ∧ RNewRel mem (rts l) w k wr) (fun i _ => n - (intOf i).toNat)
  case atStart => exact ⟨0, Nat.zero_le _, rfl, rNew_start mem _ w⟩
  case round =>
    obtain ⟨k, hk, rfl, hR⟩ := hrel
    by_cases hlt : k < n
    · obtain ⟨v, L, hN, hB, hS⟩ := hR
      obtain ⟨r, hr⟩ : ∃ r, l[k]? = some r := ⟨l[k]'(by have := hL.out.1; omega), List.getElem?_eq_getElem _⟩
      obtain ⟨b0, off, rfl, c0, c1⟩ := (hL.out.keep hB).2.1 k r hr
      have hok : RtOk wr r := (hL.out.keep hB).2.2 r (List.mem_of_getElem? hr)
      have HR := Lib.hid hr
      have HN := Lib.hid hN
      have HS := Lib.hid hS
      have HOK := Lib.hid hok
      clear hr hN hS hok
      go_wp2_with fail
      refine (radd_any _ r.n r.c mem v L r.p r.A r.xs _ HN.out.1 HN.out.2.1 HOK.out.1 HOK.out.2.1 HOK.out.2.2.2 HN.out.2.2.2.2.2).mono ?_
      rintro e w2 ha
      obtain ⟨he, hg2, hif⟩ := radd_rt (by omega) HN.out hB.size ha
      clear ha
      generalize hq : addS mem ((rts l).take k) r.p r.xs = q at he hif
      subst he
      have HQ := Lib.hid hq
      have HIF := Lib.hid hif
      have HG := Lib.hid hg2
      clear hq hif hg2
      have hb2 : Below w.heap.size w w2 := hB.grown HG.out hB.size (fun j hj => by injection hj with hj; omega)
      by_cases hz : q = 0
      · subst hz
        go_wp2
        go_round
        case rel =>
          refine ⟨k + 1, by omega, by go_num, ?_⟩
          have h := HIF.out
          rw [if_pos trivial] at h
          obtain ⟨v', l', hN'⟩ := h
          obtain ⟨e1, e2⟩ := rts_at' HR.out
          refine ⟨v', l', by rw [e1]; exact hN', hb2, ?_⟩
          rw [HS.out, e2, newS, if_pos HQ.out, e1]
        case measure => simp [intOf]; omega
      · have hz2 : (q != 0) = true := by simpa using hz
        have HZ := Lib.hid hz
        clear hz
        go_wp2
        go_ret2
        obtain ⟨e1, e2⟩ := rts_at' HR.out
        have hE : newE mem (rts l) = q := by rw [HE.out, HS.out, e2, newS, if_neg (by rw [HQ.out]; exact HZ.out), HQ.out]
        refine ⟨hb2, ?_⟩
        rw [if_neg (by rw [hE]; exact HZ.out), hE]
        rfl
    · have e : k = n := by omega
      subst e
      obtain ⟨v, L, hN, hB, hS⟩ := hR
      have HN := Lib.hid hN
      have HS := Lib.hid hS
      clear hN hS
      go_wp2
      go_ret2
      have hlen : (rts l).length = k := by simp [rts, hL.out.1]
      have hE := HE.out.trans HS.out
      rw [List.drop_of_length_le (by omega), newS] at hE
      refine ⟨hB, ?_⟩
      rw [if_pos hE]
      have hN := HN.out
      rw [List.take_of_length_le (by omega)] at hN
      exact ⟨_, _, L, rfl, hN⟩
end Go.Proofs.YtpbpoddeiocgbaaDoor
