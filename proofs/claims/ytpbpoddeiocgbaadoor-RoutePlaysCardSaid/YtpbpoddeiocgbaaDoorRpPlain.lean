/- Plain laws of rows of routes: sorted, put in, taken out. -/
import Derived.Test.YtpbpoddeiocgbaaDoorRpTo
import Derived.Test.YtpbpoddeiocgbaaDoorRpPre
set_option linter.unusedVariables false
set_option linter.unusedSimpArgs false
namespace Go.Proofs.YtpbpoddeiocgbaaDoor
open Go.RowKit Go.Maps Go.ChangeMaps Go.Sort Go.Shelf

/-- The list is by rising prefixes. -/
def Srt (S : List Pr) : Prop := S.Pairwise fun a b => a.1.data.toList < b.1.data.toList
def AtRel (S : List Pr) (p : ByteArray) (k a : Nat) : Prop :=
  a ≤ k ∧ ∀ (i : Nat) (t : Pr), i < k → S[i]? = some t → t.1 ≠ p ∧ (i < a → t.1.data.toList < p.data.toList) ∧ (a ≤ i → ¬ t.1.data.toList < p.data.toList)
theorem Srt.at {S : List Pr} (h : Srt S) {i j : Nat} {a b : Pr} (hi : S[i]? = some a) (hj : S[j]? = some b) (hij : i < j) : a.1.data.toList < b.1.data.toList := by
  obtain ⟨h1, rfl⟩ := List.getElem?_eq_some_iff.1 hi
  obtain ⟨h2, rfl⟩ := List.getElem?_eq_some_iff.1 hj
  exact List.pairwise_iff_getElem.1 h i j h1 h2 hij
theorem atRel_less {S : List Pr} {p : ByteArray} {k a : Nat} {t : Pr} (h : AtRel S p k a) (hs : Srt S) (ht : S[k]? = some t) (hne : t.1 ≠ p) (hl : t.1.data.toList < p.data.toList) : AtRel S p (k + 1) (k + 1) := by
  refine ⟨Nat.le_refl _, fun i u hi hu => ?_⟩
  by_cases e : i = k
  · subst e
    rw [ht] at hu
    obtain rfl := Option.some.inj hu
    exact ⟨hne, fun _ => hl, fun h => absurd h (by omega)⟩
  · exact ⟨(h.2 i u (by omega) hu).1, fun _ => List.lt_trans (hs.at hu ht (by omega)) hl, fun h => absurd h (by omega)⟩
theorem atRel_not {S : List Pr} {p : ByteArray} {k a : Nat} {t : Pr} (h : AtRel S p k a) (ht : S[k]? = some t) (hne : t.1 ≠ p) (hl : ¬ t.1.data.toList < p.data.toList) : AtRel S p (k + 1) a := by
  refine ⟨by have := h.1; omega, fun i u hi hu => ?_⟩
  by_cases e : i = k
  · subst e
    rw [ht] at hu
    obtain rfl := Option.some.inj hu
    exact ⟨hne, fun h2 => absurd h2 (by have := h.1; omega), fun _ => hl⟩
  · exact h.2 i u (by omega) hu
theorem lt_of_not {a b : ByteArray} (h : ¬ a.data.toList < b.data.toList) (hne : a ≠ b) : b.data.toList < a.data.toList := by
  rcases Classical.em (b.data.toList < a.data.toList) with h2 | h2
  · exact h2
  · exact absurd (bytes_ext (List.le_antisymm (List.not_lt.1 h2) (List.not_lt.1 h))) hne
/-- Put in where it belongs. -/
def putIn (S : List Pr) (a : Nat) (x : Pr) : List Pr := S.take a ++ [x] ++ S.drop a
theorem putIn_perm (S : List Pr) (a : Nat) (x : Pr) : (putIn S a x).Perm (S ++ [x]) := by
  unfold putIn
  have e : S.take a ++ S.drop a = S := List.take_append_drop a S
  refine (List.Perm.append_right _ List.perm_append_comm).trans ?_
  rw [List.append_assoc, e]
  exact List.perm_append_comm
theorem putIn_srt {S : List Pr} {p : ByteArray} {xs : List Int} {a : Nat} (h : AtRel S p S.length a) (hs : Srt S) : Srt (putIn S a (p, xs)) := by
  unfold putIn Srt
  rw [List.append_assoc, List.pairwise_append]
  refine ⟨hs.sublist (List.take_sublist _ _), ?_, fun x hx y hy => ?_⟩
  · rw [List.singleton_append, List.pairwise_cons]
    refine ⟨fun y hy => ?_, hs.sublist (List.drop_sublist _ _)⟩
    obtain ⟨i, hi, e⟩ := List.mem_drop_iff_getElem.1 hy
    obtain ⟨h1, _, h3⟩ := h.2 (a + i) y (by omega) (by rw [List.getElem?_eq_getElem (by omega), e])
    exact lt_of_not (h3 (by omega)) h1
  · obtain ⟨i, hi, e⟩ := List.mem_take_iff_getElem.1 hx
    have hxi : S[i]? = some x := by rw [List.getElem?_eq_getElem (by omega), e]
    obtain ⟨_, h2, _⟩ := h.2 i x (by omega) hxi
    rcases List.mem_append.1 hy with hy | hy
    · obtain rfl : y = (p, xs) := by simpa using hy
      exact h2 (by omega)
    · obtain ⟨j, hj, e2⟩ := List.mem_drop_iff_getElem.1 hy
      exact hs.at hxi (j := a + j) (by rw [List.getElem?_eq_getElem (by omega), e2]) (by omega)
theorem atRel_none {S : List Pr} {p : ByteArray} {a : Nat} (h : AtRel S p S.length a) : (S.any fun t => decide (t.1 = p)) = false := by
  rw [List.any_eq_false]
  intro t ht
  obtain ⟨i, hi, e⟩ := List.mem_iff_getElem.1 ht
  have := (h.2 i t hi (by rw [List.getElem?_eq_getElem hi, e])).1
  simpa using this
theorem atRel_some {S : List Pr} {p : ByteArray} {k : Nat} {t : Pr} (ht : S[k]? = some t) (h : t.1 = p) : (S.any fun t => decide (t.1 = p)) = true := by
  rw [List.any_eq_true]
  exact ⟨t, List.mem_of_getElem? ht, by simpa using h⟩

/-- What the reference's Add answers: as the program's, where there are at most six members. -/
def addR (mem : Int) (S : List Pr) (p : ByteArray) (xs : List Int) : Int :=
  if okPre p = false then 110
  else if rtoB mem xs = false then 112
  else if (S.any fun t => decide (t.1 = p)) = true then 111
  else if S.length = 32 then 3
  else 0
theorem nodup_of_may {mem : Int} {xs : List Int} (h : mayB mem xs = true) : xs.Nodup ∧ ∀ x ∈ xs, 0 ≤ x ∧ x < mem := by
  unfold mayB at h
  simp only [Bool.and_eq_true, decide_eq_true_eq, List.all_eq_true, List.mem_range] at h
  have hat : ∀ i (hi : i < xs.length), 0 ≤ xs[i] ∧ xs[i] < mem ∧ xs[i] ∉ xs.take i := by
    intro i hi
    have := h.2 i hi
    unfold mayAt at this
    rw [List.getD_eq_getElem?_getD, List.getElem?_eq_getElem hi] at this
    simpa using this
  refine ⟨List.pairwise_iff_getElem.2 fun i j hi hj hij e => ?_, fun x hx => ?_⟩
  · refine (hat j hj).2.2 ?_
    rw [← e]
    exact List.mem_take_iff_getElem.2 ⟨i, by omega, rfl⟩
  · obtain ⟨i, hi, rfl⟩ := List.mem_iff_getElem.1 hx
    exact ⟨(hat i hi).1, (hat i hi).2.1⟩
theorem nodup_le : ∀ (n : Nat) (xs : List Nat), xs.Nodup → (∀ x ∈ xs, x < n) → xs.length ≤ n
  | 0, xs, _, h => by
    cases xs with
    | nil => simp
    | cons x r => exact absurd (h x List.mem_cons_self) (by omega)
  | n + 1, xs, hn, h => by
    have h1 := nodup_le n (xs.erase n) (hn.erase n) (fun x hx => by
      have hx2 := List.mem_of_mem_erase hx
      have := h x hx2
      have hne : x ≠ n := fun e => by subst e; exact (List.Nodup.not_mem_erase hn) hx
      omega)
    rw [List.length_erase] at h1
    split at h1 <;> omega
theorem may_six {mem : Int} {xs : List Int} (hm : mem ≤ 6) (h : mayB mem xs = true) : xs.length ≤ 6 := by
  obtain ⟨h1, h2⟩ := nodup_of_may h
  have := nodup_le 6 (xs.map Int.toNat) (List.pairwise_map.2 (List.Pairwise.imp_of_mem (fun {a b} ha hb hne e => hne (by have := h2 a ha; have := h2 b hb; omega)) h1)) (fun x hx => by
    obtain ⟨y, hy, rfl⟩ := List.mem_map.1 hx
    have := h2 y hy
    omega)
  simpa using this
theorem rtoB_may {mem : Int} {xs : List Int} (hm : mem ≤ 6) : rtoB mem xs = mayB mem xs := by
  unfold rtoB
  cases h : mayB mem xs with
  | false => rw [Bool.and_false]
  | true => rw [decide_eq_true (may_six hm h)]; rfl
theorem addR_addS {mem : Int} {S S' : List Pr} {p : ByteArray} {xs : List Int} (hm : mem ≤ 6) (hp : S.Perm S') : addR mem S p xs = addS mem S' p xs := by
  unfold addR addS
  rw [rtoB_may hm, hp.length_eq]
  have e : (S.any fun t => decide (t.1 = p)) = S'.any fun t => decide (t.1 = p) := by
    rw [Bool.eq_iff_iff, List.any_eq_true, List.any_eq_true]
    exact ⟨fun ⟨t, ht, h⟩ => ⟨t, hp.mem_iff.1 ht, h⟩, fun ⟨t, ht, h⟩ => ⟨t, hp.mem_iff.2 ht, h⟩⟩
  rw [e]
  by_cases h : p.size = 0 ∨ 8 < p.size ∨ digB p = false
  · have h1 : okPre p = false := decide_eq_false fun h' => h' h
    rw [if_pos h1, if_pos h]
  · have h1 : ¬ okPre p = false := by
      have : okPre p = true := decide_eq_true h
      rw [this]; decide
    rw [if_neg h1, if_neg h]
end Go.Proofs.YtpbpoddeiocgbaaDoor
