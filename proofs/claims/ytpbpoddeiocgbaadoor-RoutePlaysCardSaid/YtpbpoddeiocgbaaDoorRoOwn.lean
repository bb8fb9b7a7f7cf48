/- RouteOwn: each route is found by its own prefix, a card that begins with none by none. -/
import Derived.Test.YtpbpoddeiocgbaaDoorRoShown
set_option linter.unusedVariables false
set_option linter.unusedSimpArgs false
namespace Go.Proofs.YtpbpoddeiocgbaaDoor
open Go.RowKit Go.Maps Go.ChangeMaps Go.Sort Go.Shelf

/-! ### plain -/
theorem addS_zero {mem : Int} {S : List Pr} {p : ByteArray} {xs : List Int} (h : addS mem S p xs = 0) : 1 ≤ p.size ∧ p.size ≤ 8 ∧ (S.any fun t => decide (t.1 = p)) = false ∧ mayB mem xs = true ∧ digB p = true ∧ S.length ≠ 32 := by
  unfold addS at h
  split at h; · cases h
  split at h; · cases h
  split at h; · cases h
  split at h; · cases h
  rename_i h1 h2 h3 h4
  refine ⟨?_, ?_, eq_false_of_ne_true h3, by simpa using h2, ?_, h4⟩
  · rcases Nat.eq_zero_or_pos p.size with e | e
    · exact absurd (.inl e) h1
    · exact e
  · rcases Nat.lt_or_ge 8 p.size with e | e
    · exact absurd (.inr (.inl e)) h1
    · exact e
  · cases e : digB p with
    | true => rfl
    | false => exact absurd (.inr (.inr e)) h1
/-- Routes that make a table: each prefix has one to eight digits, no two are alike. -/
def Good (l : List Pr) : Prop := (∀ x ∈ l, 1 ≤ x.1.size ∧ x.1.size ≤ 8) ∧ (l.map (·.1)).Nodup
theorem newS_good {mem : Int} : ∀ (l S : List Pr), Good S → newS mem S l = 0 → Good (S ++ l)
  | [], S, h, _ => by simpa using h
  | x :: r, S, h, h0 => by
    unfold newS at h0
    by_cases hz : addS mem S x.1 x.2 = 0
    · rw [if_pos hz] at h0
      obtain ⟨h1, h2, h3, _⟩ := addS_zero hz
      have := newS_good r (S ++ [x]) ⟨fun y hy => ?_, ?_⟩ h0
      · simpa using this
      · rcases List.mem_append.1 hy with e | e
        · exact h.1 y e
        · obtain rfl : y = x := by simpa using e
          exact ⟨h1, h2⟩
      · rw [List.map_append, List.nodup_append]
        refine ⟨h.2, by simp, fun a ha b hb => ?_⟩
        obtain ⟨y, hy, rfl⟩ := List.mem_map.1 ha
        obtain rfl : b = x.1 := by simpa using hb
        intro e
        have := List.any_eq_false.1 h3 y hy
        simp [e] at this
    · rw [if_neg hz] at h0
      exact absurd h0 hz
theorem newE_good {mem : Int} {l : List Pr} (h : newE mem l = 0) : Good l := by
  unfold newE at h
  split at h
  · cases h
  · simpa using newS_good l [] ⟨by simp, by simp⟩ h
theorem find_pr {l : List Pr} (h : (l.map (·.1)).Nodup) {x : Pr} (hx : x ∈ l) : l.find? (fun t => decide (t.1 = x.1)) = some x := by
  induction l with
  | nil => cases hx
  | cons y r ih =>
    rw [List.map_cons, List.nodup_cons] at h
    rcases List.mem_cons.1 hx with rfl | hx
    · simp
    · have hne : y.1 ≠ x.1 := fun e => h.1 (List.mem_map.2 ⟨x, hx, e.symm⟩)
      rw [List.find?_cons_of_neg (by simpa using hne)]
      exact ih h.2 hx
theorem extract_all (p : ByteArray) : p.extract 0 p.size = p := by
  apply bytes_ext
  simp
theorem best_own {l : List Pr} (h : Good l) {x : Pr} (hx : x ∈ l) : bestS l x.1 (min 8 x.1.size) = some x.2 := by
  obtain ⟨h1, h8⟩ := h.1 x hx
  rw [Nat.min_eq_right h8]
  obtain ⟨m, hm⟩ : ∃ m, x.1.size = m + 1 := ⟨x.1.size - 1, by omega⟩
  rw [hm]
  have he : x.1.extract 0 (m + 1) = x.1 := by rw [← hm]; exact extract_all _
  unfold bestS
  rw [he, find_pr h.2 hx]
/-- A card begins with a prefix. -/
def begins (pan p : ByteArray) : Bool := decide (p.size ≤ pan.size) && decide (pan.extract 0 p.size = p)
theorem best_some_iff {l : List Pr} (pan : ByteArray) : ∀ n, n ≤ pan.size → ((bestS l pan n).isSome = true ↔ ∃ x ∈ l, 1 ≤ x.1.size ∧ x.1.size ≤ n ∧ begins pan x.1 = true)
  | 0, _ => by
    constructor
    · intro h; cases h
    · rintro ⟨x, _, h1, h2, _⟩; omega
  | n + 1, hn => by
    unfold bestS
    have hs : (pan.extract 0 (n + 1)).size = n + 1 := by simp; omega
    cases hf : l.find? (fun t => decide (t.1 = pan.extract 0 (n + 1))) with
    | some t =>
      have hm := List.mem_of_find?_eq_some hf
      have hp : t.1 = pan.extract 0 (n + 1) := by simpa using List.find?_some hf
      simp only [Option.isSome_some, true_iff]
      refine ⟨t, hm, by rw [hp, hs]; omega, by rw [hp, hs]; exact Nat.le_refl _, ?_⟩
      unfold begins
      rw [hp, hs]
      simp
      omega
    | none =>
      show (bestS l pan n).isSome = true ↔ _
      rw [best_some_iff pan n (by omega)]
      constructor
      · rintro ⟨x, hx, h1, h2, h3⟩
        exact ⟨x, hx, h1, by omega, h3⟩
      · rintro ⟨x, hx, h1, h2, h3⟩
        refine ⟨x, hx, h1, ?_, h3⟩
        rcases Nat.lt_or_ge n x.1.size with e | e
        · have e2 : x.1.size = n + 1 := by omega
          unfold begins at h3
          rw [e2] at h3
          simp only [Bool.and_eq_true, decide_eq_true_eq] at h3
          have := List.find?_eq_none.1 hf x hx
          exact absurd (decide_eq_true h3.2.symm) this
        · exact e
theorem best_any {l : List Pr} (h : Good l) (pan : ByteArray) : (bestS l pan (min 8 pan.size)).isSome = l.any fun x => begins pan x.1 := by
  rw [Bool.eq_iff_iff, best_some_iff pan _ (Nat.min_le_right _ _), List.any_eq_true]
  constructor
  · rintro ⟨x, hx, _, _, h3⟩
    exact ⟨x, hx, h3⟩
  · rintro ⟨x, hx, h3⟩
    obtain ⟨h1, h8⟩ := h.1 x hx
    refine ⟨x, hx, h1, ?_, h3⟩
    unfold begins at h3
    simp only [Bool.and_eq_true, decide_eq_true_eq] at h3
    omega

theorem begins_le {pan p : ByteArray} (h : p.size ≤ pan.size) : ((pan.extract 0 p.size).toList == p.toList) = begins pan p := by
  unfold begins
  rw [decide_eq_true h, Bool.true_and, Bool.eq_iff_iff, beq_iff_eq, decide_eq_true_eq, ByteArray.toList_eq, ByteArray.toList_eq]
  exact ⟨bytes_ext, fun e => by rw [e]⟩
theorem begins_gt {pan p : ByteArray} (h : ¬ p.size ≤ pan.size) : begins pan p = false := by
  unfold begins
  rw [decide_eq_false h, Bool.false_and]
theorem listed_len {w w' : World} {T : List Ent} {v : Value} {l : List Ent} (h : Listed w w' T v l) : ∃ A c, v = .slice A T.length c ∧ Below w.heap.size w w' := by
  have hl : l.length = T.length := by
    have := congrArg List.length h.2.2.2.1
    simpa using this
  rcases h.1.2 with ⟨rfl, h0⟩ | ⟨g, cap, cur, rfl, _⟩
  · exact ⟨none, 0, by rw [← hl, h0], h.2.2.2.2⟩
  · exact ⟨_, cap, by rw [← hl], h.2.2.2.2⟩
theorem new_row {B : Nat} {w : World} {mem : Int} {l : List Rt} {g b : Nat} {T : List Ent} (hN : NewTab B w mem (rts l) g b T) {k : Nat} {r : Rt} (hr : l[k]? = some r) : 0 < r.xs.length ∧ r.xs.length * 8 ≤ 140737488355328 := by
  have hmem : (r.p, r.xs) ∈ sh T := by rw [hN.2.1]; exact List.mem_map.2 ⟨r, List.mem_of_getElem? hr, rfl⟩
  obtain ⟨t, ht, he⟩ := List.mem_map.1 hmem
  injection he with _ h2
  rw [← h2]
  exact (hN.1.2.2 t ht).2
/-! ### the walk -/
set_option maxHeartbeats 2000000 in
set_option maxRecDepth 100000 in
theorem own_any (n c : Nat) (A : Option Addr) (l : List Rt) (pan : ByteArray) (w : World) (hl : RoutesAt w A n l) (hbig : n ≤ 9223372036854775807) (hp : pan.size ≤ maxLen) :
    Calls Tryd.prog 3 #[.slice A n c, .string pan] w fun e w' => e = .returned (.bool true) ∧ Below w.heap.size w w' := by
  have hL := Lib.hid hl
  clear hl
  unfold maxLen at hp
  go_enter Tryd.func3, Tryd.ntmps3
  go_wp2_with fail
  refine (shown_any _).mono ?_
  rintro e w1 ⟨rfl, hb1⟩
  have HB1 := Lib.hid hb1
  clear hb1
  go_wp2_with fail
  refine (new_any n c 6 A l _ (hL.out.keep HB1.out) hbig).mono ?_
  rintro e w2 hM
  by_cases hE : newE 6 (rts l) = 0
  · obtain ⟨g, b, T, rfl, hN, hb2⟩ := made_ok hM hE
    have HN := Lib.hid hN
    have HE := Lib.hid hE
    have HB2 : Hid (Below w.heap.size w w2) := HB1.out.trans (hb2.mono HB1.out.size)
    clear hN hE hM hb2
    go_wp2
    go_loopw [8, 9] (fun s i wr => ∃ k : Nat, k ≤ n ∧ i = .int .i64 k ∧ Aside0 (s = .bool (((rts l).take k).any fun x => begins pan x.1)) ∧ Below w2.heap.size w2 wr) (fun _ i _ => n - (intOf i).toNat)
    case atStart => exact ⟨0, Nat.zero_le _, rfl, ⟨rfl⟩, Below.refl _ _⟩
    case round =>
      obtain ⟨k, hk, rfl, hs, hB⟩ := hrel
      have hs2 := hs.out
      subst hs2
      clear hs
      have hT := HN.out.1.below hB
      by_cases hlt : k < n
      · obtain ⟨r, hr⟩ : ∃ r, l[k]? = some r := ⟨l[k]'(by have := hL.out.1; omega), List.getElem?_eq_getElem _⟩
        have hLr := (hL.out.keep HB2.out).keep hB
        obtain ⟨b0, off, rfl, c0, c1⟩ := hLr.2.1 k r hr
        have hok := hLr.2.2 r (List.mem_of_getElem? hr)
        have hmem : (r.p, r.xs) ∈ rts l := List.mem_map.2 ⟨r, List.mem_of_getElem? hr, rfl⟩
        have hbest : best T r.p (min 8 r.p.size) = some r.xs := by rw [best_sh, HN.out.2.1]; exact best_own (newE_good HE.out) hmem
        have htk := (rts_at hr).1
        have i0 : (0 : Int) ≤ (k : Int) := by omega
        have i1 : (k : Int) < (n : Int) := by omega
        have HR := Lib.hid hr
        have HT := Lib.hid hT
        have HOK := Lib.hid hok
        have HBE := Lib.hid hbest
        have HTK := Lib.hid htk
        clear hr hT hok hLr hbest htk hmem
        go_wp2_with fail
        refine (find_any g b 6 T r.p _ HT.out HOK.out.1).mono ?_
        rintro e w3 hF
        obtain ⟨A2, c2, rfl, hr2, hk2, hb3⟩ := found_some hF HBE.out (new_row HN.out HR.out).1 (new_row HN.out HR.out).2
        have c0' := (hb3.cell (World.block_lt_of_cell? wr _ c0)).trans c0
        have c1' := (hb3.cell (World.block_lt_of_cell? wr _ c1)).trans c1
        have hi2 : IntsAt w3 A2 r.xs.length r.xs := ⟨rfl, fun _ => by
          obtain ⟨kk, e, hc⟩ := row_cells hr2
          exact ⟨kk, 0, e, hc⟩⟩
        have HI2 := Lib.hid hi2
        have HI3 := Lib.hid (HOK.out.2.1.keep hb3)
        have HB3 := Lib.hid hb3
        have hx8 := Lib.hid (new_row HN.out HR.out).2
        have hn8 := Lib.hid HOK.out.2.2.2
        clear hF hr2 hk2 hb3 hi2
        go_wp2_with fail
        refine (ints_any _ _ _ _ _ _ r.xs r.xs _ HI2.out HI3.out (by have := hx8.out; omega) (by have := hn8.out; omega)).mono ?_
        rintro e w4 ⟨he, hb4⟩
        rw [decide_eq_true rfl] at he
        subst he
        have c0'' := (hb4.cell (World.block_lt_of_cell? w3 _ c0')).trans c0'
        have HB4 := Lib.hid hb4
        clear hb4 c0 c1 c0' c1'
        generalize hsv : (((rts l).take k).any fun x => begins pan x.1) = sv
        have HSV := Lib.hid hsv
        clear hsv
        cases sv
        · go_wp2
          · go_round
            case rel => exact ⟨k + 1, by omega, by go_num, ⟨by rw [HTK.out, List.any_append, HSV.out]; rw [begins_le (by assumption)]; simp⟩, hB.trans ((HB3.out.trans (HB4.out.mono HB3.out.size)).mono hB.size)⟩
            case measure => simp [intOf]; omega
          · go_round
            case rel => exact ⟨k + 1, by omega, by go_num, ⟨by rw [HTK.out, List.any_append, HSV.out]; rw [List.any_cons, begins_gt (by assumption)]; rfl⟩, hB.trans ((HB3.out.trans (HB4.out.mono HB3.out.size)).mono hB.size)⟩
            case measure => simp [intOf]; omega
        · go_wp2
          go_round
          case rel => exact ⟨k + 1, by omega, by go_num, ⟨by rw [HTK.out, List.any_append, HSV.out]; rfl⟩, hB.trans ((HB3.out.trans (HB4.out.mono HB3.out.size)).mono hB.size)⟩
          case measure => simp [intOf]; omega
      · have e : k = n := by omega
        subst e
        rw [List.take_of_length_le (by simp [rts, hL.out.1])]
        have hbe : (best T pan (min 8 pan.size)).isSome = (rts l).any fun x => begins pan x.1 := by rw [best_sh, HN.out.2.1]; exact best_any (newE_good HE.out) pan
        have HBE := Lib.hid hbe
        have HT := Lib.hid hT
        clear hbe hT
        go_wp2_with fail
        refine (find_any g b 6 T pan _ HT.out (by unfold maxLen; omega)).mono ?_
        rintro e w3 hF
        have hTl : T.length = k := by
          have := congrArg List.length HN.out.2.1
          simpa [sh, rts, hL.out.1] using this
        have HTL := Lib.hid hTl
        clear hTl
        cases hbb : best T pan (min 8 pan.size) with
        | none =>
          obtain ⟨rfl, hb3⟩ := found_none hF hbb
          have hs : ((rts l).any fun x => begins pan x.1) = false := by rw [← HBE.out, hbb]; rfl
          have HT3 := Lib.hid (HT.out.below hb3)
          have HB3 := Lib.hid hb3
          rw [hs]
          clear hs hbb hF hb3
          go_wp2_with fail
          refine (list_any g b 6 T _ HT3.out HN.out.2.2.2.2.2).mono ?_
          rintro e w4 ⟨v, l', rfl, hli⟩
          obtain ⟨A4, c4, rfl, hb4⟩ := listed_len hli
          rw [HTL.out]
          have HB4 := Lib.hid hb4
          clear hli hb4
          go_wp2
          go_ret
          exact ⟨rfl, HB2.out.trans ((hB.trans ((HB3.out.trans (HB4.out.mono HB3.out.size)).mono hB.size)).mono HB2.out.size)⟩
        | some xs =>
          obtain ⟨v, rfl, _, hb3⟩ : ∃ v, e = .returned (.tuple #[v, .bool true]) ∧ True ∧ Below wr.heap.size wr w3 := by
            rw [hbb] at hF
            obtain ⟨v, he, _, hb⟩ := hF
            exact ⟨v, he, trivial, hb⟩
          have hs : ((rts l).any fun x => begins pan x.1) = true := by rw [← HBE.out, hbb]; rfl
          have HT3 := Lib.hid (HT.out.below hb3)
          have HB3 := Lib.hid hb3
          rw [hs]
          clear hs hbb hF hb3
          go_wp2_with fail
          refine (list_any g b 6 T _ HT3.out HN.out.2.2.2.2.2).mono ?_
          rintro e w4 ⟨v, l', rfl, hli⟩
          obtain ⟨A4, c4, rfl, hb4⟩ := listed_len hli
          rw [HTL.out]
          have HB4 := Lib.hid hb4
          clear hli hb4
          go_wp2
          go_ret
          exact ⟨rfl, HB2.out.trans ((hB.trans ((HB3.out.trans (HB4.out.mono HB3.out.size)).mono hB.size)).mono HB2.out.size)⟩
  · obtain ⟨hb2, hif⟩ := hM
    rw [if_neg hE] at hif
    subst hif
    have hne : (newE 6 (rts l) != 0) = true := by simpa using hE
    have HB2 : Hid (Below w.heap.size w w2) := HB1.out.trans (hb2.mono HB1.out.size)
    generalize newE 6 (rts l) = q at *
    clear hb2 hE
    go_wp2
    go_ret
    exact ⟨rfl, HB2.out⟩

end Go.Proofs.YtpbpoddeiocgbaaDoor
