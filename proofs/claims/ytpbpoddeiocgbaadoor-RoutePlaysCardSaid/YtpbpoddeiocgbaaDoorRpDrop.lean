/- The reference's Drop. -/
import Derived.Test.YtpbpoddeiocgbaaDoorRpClone
set_option linter.unusedVariables false
set_option linter.unusedSimpArgs false
namespace Go.Proofs.YtpbpoddeiocgbaaDoor
open Go.RowKit Go.Maps Go.ChangeMaps Go.Sort Go.Shelf

def NoneYet (S : List Pr) (p : ByteArray) (k : Nat) : Prop := ∀ (i : Nat) (x : Pr), i < k → S[i]? = some x → x.1 ≠ p
def RDropped (g : Nat) (mem : Int) (v : Value) (l : List Ent) (p : ByteArray) (w w' : World) (e : Ending) : Prop :=
  e = .returned (.int .i64 (if ((sh l).any fun t => decide (t.1 = p)) = true then 0 else 113)) ∧ w.grownBy w' (some g) ∧
    ∃ v' l', RTab w' g mem v' l' ∧ Srt (sh l') ∧ sh l' = ((sh l).filter fun t => decide (t.1 ≠ p)) ∧ (v' = v ∨ ∀ k, v'.ownBlock = some k → w.heap.size ≤ k) ∧ ∀ t ∈ l', t ∈ l
theorem srt_nodup {S : List Pr} (h : Srt S) {i j : Nat} {x y : Pr} (hx : S[i]? = some x) (hy : S[j]? = some y) (e : x.1 = y.1) : i = j := by
  rcases Nat.lt_trichotomy i j with h1 | h1 | h1
  · have := h.at hx hy h1; rw [e] at this; exact absurd this (List.lt_irrefl _)
  · exact h1
  · have := h.at hy hx h1; rw [e] at this; exact absurd this (List.lt_irrefl _)
theorem filter_at {S : List Pr} (h : Srt S) {k : Nat} {x : Pr} (hx : S[k]? = some x) : (S.filter fun t => decide (t.1 ≠ x.1)) = S.take k ++ S.drop (k + 1) := by
  have hk := (List.getElem?_eq_some_iff.1 hx).1
  have e : S = S.take k ++ [x] ++ S.drop (k + 1) := by
    rw [List.append_assoc, List.singleton_append]
    have := (List.getElem?_eq_some_iff.1 hx).2
    rw [← this, List.getElem_cons_drop, List.take_append_drop]
  have h1 : (S.take k).filter (fun t => decide (t.1 ≠ x.1)) = S.take k := List.filter_eq_self.2 fun y hy => by
    obtain ⟨i, hi, e2⟩ := List.mem_take_iff_getElem.1 hy
    have : y.1 ≠ x.1 := fun e3 => by
      have := srt_nodup h (i := i) (j := k) (by rw [List.getElem?_eq_getElem (by omega), e2]) hx e3
      omega
    simpa using this
  have h2 : (S.drop (k + 1)).filter (fun t => decide (t.1 ≠ x.1)) = S.drop (k + 1) := List.filter_eq_self.2 fun y hy => by
    obtain ⟨i, hi, e2⟩ := List.mem_drop_iff_getElem.1 hy
    have : y.1 ≠ x.1 := fun e3 => by
      have := srt_nodup h (i := k + 1 + i) (j := k) (by rw [List.getElem?_eq_getElem (by omega), e2]) hx e3
      omega
    simpa using this
  conv => lhs; rw [e]
  rw [List.filter_append, List.filter_append, h1, h2]
  simp
theorem none_filter {S : List Pr} {p : ByteArray} (h : NoneYet S p S.length) : (S.any fun t => decide (t.1 = p)) = false ∧ (S.filter fun t => decide (t.1 ≠ p)) = S := by
  have hm : ∀ x ∈ S, x.1 ≠ p := fun x hx => by
    obtain ⟨i, hi, e⟩ := List.mem_iff_getElem.1 hx
    exact h i x hi (by rw [List.getElem?_eq_getElem hi, e])
  refine ⟨List.any_eq_false.2 fun x hx => by simpa using hm x hx, List.filter_eq_self.2 fun x hx => by simpa using hm x hx⟩
theorem sh_cut (l : List Ent) (k : Nat) : sh (l.take k ++ l.drop (k + 1)) = (sh l).take k ++ (sh l).drop (k + 1) := by
  unfold sh
  rw [List.map_append, List.map_take, List.map_drop]
theorem rdrop_yes {g : Nat} {mem : Int} {v u6 v5 : Value} {l : List Ent} {p : ByteArray} {x : Pr} {w wc w5 : World} {k : Nat} (hT : RTab w g mem v l) (hs : Srt (sh l)) (hx : (sh l)[k]? = some x) (hxp : x.1 = p) (hv4 : ∀ k, u6.ownBlock = some k → w.heap.size ≤ k) (hb4 : Below w.heap.size w wc)
    (ha : AppendTo wc w.heap.size 32 2 u6 (l.take k ++ l.drop (k + 1)).length (flat (l.take k ++ l.drop (k + 1))) v5 w5) : RDropped g mem v l p w (w5.setCell ⟨g, 1, none⟩ v5) (.returned (.int .i64 0)) := by
  have hb5 : Below w.heap.size w w5 := hb4.grown ha.2.1 hb4.size hv4
  have hT5 := hT.below hb5
  have hg1 := hT.lt
  have hv5 : ∀ k, v5.ownBlock = some k → w.heap.size ≤ k := fun k hk => by
    rcases ha.2.2 with e | e
    · exact hv4 k (by rw [← e]; exact hk)
    · rw [e] at hk
      have hs := hb4.size
      injection hk with hk
      omega
  have hmem : ∀ t ∈ l.take k ++ l.drop (k + 1), t ∈ l := fun t ht => by
    rcases List.mem_append.1 ht with h | h
    · exact List.mem_of_mem_take h
    · exact List.mem_of_mem_drop h
  have hL5 : Ls w5 v5 (l.take k ++ l.drop (k + 1)) := ⟨ownLow ha.1, fun t ht => hT5.2.2 t (hmem t ht)⟩
  have hI5 : InL (fun i => i ≠ g) v5 (l.take k ++ l.drop (k + 1)) := ⟨fun k hk e => by have := hv5 k hk; omega, fun t ht => hT5.ne.2 t (hmem t ht)⟩
  subst hxp
  refine ⟨by rw [if_pos (atRel_some hx rfl)], ?_, v5, _, rtab_store hT5 hL5 hI5, ?_, ?_, .inr hv5, hmem⟩
  · exact ⟨hb5.os, hb5.tape, hb5.output, by simpa [World.setCell] using hb5.size, fun i hi hne => (Below.heap_setCell _ _ _ _ (fun e => hne (by rw [e]))).trans (hb5.block i hi)⟩
  · rw [sh_cut, ← filter_at hs hx]
    exact hs.sublist List.filter_sublist
  · rw [sh_cut, filter_at hs hx]

set_option maxHeartbeats 2000000 in
set_option maxRecDepth 100000 in
theorem rdrop_any (g : Nat) (mem : Int) (v : Value) (l : List Ent) (p : ByteArray) (w : World) (h : RTab w g mem v l) (hs : Srt (sh l)) (hp : p.size ≤ 9223372036854775807) (hl32 : l.length ≤ 32) :
    Calls Tryd.prog 18 #[.pointer (some ⟨g, 0, none⟩), .string p] w fun e w' => RDropped g mem v l p w w' e := by
  obtain ⟨A0, c0, rs, rfl, hrs, hrr, hlc, hcm⟩ := h.2.routes
  have hsl : Hid ((sh l).length = l.length) := by show _ = _; simp [sh]
  obtain ⟨N, hN⟩ : ∃ N, N = l.length := ⟨_, rfl⟩
  rw [← hN] at h hrs hlc hl32 hsl ⊢
  have HN := Lib.hid hN
  have hT := Lib.hid h
  have HRS := Lib.hid hrs
  have HRR := Lib.hid hrr
  have HS := Lib.hid hs
  have g1 := h.c1
  clear h hrs hrr hN hs
  unfold maxLen at hcm
  go_enter Tryd.func18, Tryd.ntmps18
  go_wp2
  go_loop [5] (fun i => ∃ k : Nat, k ≤ N ∧ i = .int .i64 k ∧ Hid (NoneYet (sh l) p k)) (fun i => N - (intOf i).toNat)
  case atStart => exact ⟨0, Nat.zero_le _, rfl, fun i x hi => absurd hi (by omega)⟩
  case round =>
    obtain ⟨k, hk, rfl, hF⟩ := hrel
    by_cases hlt : k < N
    · obtain ⟨r, hr⟩ : ∃ r, rs[k]? = some r := ⟨rs[k]'(by have := HRS.out.1; omega), List.getElem?_eq_getElem _⟩
      obtain ⟨b0, off, e0, d0, d1⟩ := HRS.out.2.1 _ r hr
      subst e0
      have hat : Hid ((sh l)[k]? = some (r.p, r.xs)) := shAt (w := w) (A0 := none) (N := 0) HRR.out hr
      clear hr d1
      rcases htp : (r.p.toList == p.toList) with _ | _
      · have hne : Hid (r.p ≠ p) := toL_no htp
        go_wp2
        refine ⟨⟨k + 1, by omega, by go_num, fun i x hi hx => ?_⟩, by simp [intOf]; omega⟩
        by_cases e : i = k
        · subst e; have h2 := hat.out; rw [h2] at hx; obtain rfl := Option.some.inj hx; exact hne.out
        · exact hF i x (by omega) hx
      · have he : Hid (r.p = p) := toL_yes htp
        rcases hT.out.2.1.2 with ⟨e, hk0⟩ | ⟨bb, cap, cur, e, _, _, _⟩
        · simp at e
        simp only [Value.slice.injEq, Option.some.injEq, Addr.mk.injEq, and_true] at e
        obtain ⟨⟨e4, e5⟩, -, e3⟩ := e
        subst e3; subst e4; subst e5
        rw [Nat.zero_add] at d0
        have gg := fun (o : Obj) => (cell_old (w := w) (i := 1) (o := o) (b := g) hT.out.lt).trans g1
        have hta : Hid ((l.take k).length = k) := by
          show _ = _
          rw [List.length_take, ← HN.out]; omega
        have HDL : Hid ((l.drop (k + 1)).length = N - (k + 1)) := by show _ = _; rw [List.length_drop, ← HN.out]
        have HOC := Lib.hid hT.out.2.oneCell
        have HSRC1 : Hid (_) := ((hT.out.below ((Below.refl _ _).alloc (Nat.le_refl _) (.cells #[] 32))).2.src HN.out 0 k (l.take k) (take_src l k))
        clear HRS HRR
        by_cases hca : c0 = k + 1
        · go_wp2_with (first | (at_builtin; go_loud (refine wpList_append_rts w.heap.size rfl (.tmp 26) (.tmp 32) rfl (.slice (some ⟨w.heap.size, 0, none⟩) 0 0) [] rfl (by exact empty_own w _ _ (Nat.le_refl _)) (some ⟨b0, 0, none⟩) k _ (l.take k) rfl hta.out (by exact HSRC1.out) (fun t ht => HOC.out t (List.mem_of_mem_take ht)) (by simp; omega) (by exact ((Below.refl w.heap.size w).alloc (Nat.le_refl _) (.cells #[] 32)).size) ?_); intro v2 w2 ha2; have hb2 : Below w.heap.size w w2 := (by exact below_append (wr := w) ha2 rfl rfl rfl ((Below.refl w.heap.size w).alloc (Nat.le_refl _) (.cells #[] 32)) (by simp) (fun k hk => by simp [Value.ownBlock] at hk; omega)); have HV2 := Lib.hid (append_base ha2 (B := w.heap.size) (fun k hk => by simp [Value.ownBlock] at hk; omega) (by simp)); have HO2 : Hid (w2.ownsRow w.heap.size 32 2 v2 (l.take k).length (flat (l.take k))) := (by have h := ha2.1; rw [List.nil_append] at h; exact h); have HB2 := Lib.hid hb2; have g1' := (hT.out.below hb2).c1; clear ha2 hb2) | (at_builtin; go_loud (refine wpList_append_rts w.heap.size rfl (.tmp 35) (.tmp 42) rfl v2 (l.take k) rfl HO2.out (some ⟨b0, 0, none⟩) (N - (k + 1)) (0) (l.drop (k + 1)) rfl HDL.out (src_nil (W := w2) (A := some ⟨b0, 0, none⟩) (m := N - (k + 1)) (l2 := l.drop (k + 1)) (by rw [List.drop_eq_nil_iff, ← HN.out]; omega) (by omega)) (fun t ht => HOC.out t (List.mem_of_mem_drop ht)) (by rw [hta.out]; omega) HB2.out.size ?_); intro v5 w5 ha5; obtain ⟨A5, m5, c5, rfl⟩ := own_slice ha5.1; have hT5 : Hid (RTab w5 g mem (.slice (some ⟨b0, 0, none⟩) N c0) l) := (by exact hT.out.below (HB2.out.grown ha5.2.1 HB2.out.size HV2.out)); have g1d := hT5.out.c1; have f1d := hT5.out.f1; have HA5 := Lib.hid ha5; clear ha5))
          subst hca
          go_ret
          exact rdrop_yes hT.out HS.out hat.out he.out HV2.out HB2.out HA5.out
        · go_wp2_with (first | (at_builtin; go_loud (refine wpList_append_rts w.heap.size rfl (.tmp 26) (.tmp 32) rfl (.slice (some ⟨w.heap.size, 0, none⟩) 0 0) [] rfl (by exact empty_own w _ _ (Nat.le_refl _)) (some ⟨b0, 0, none⟩) k _ (l.take k) rfl hta.out (by exact HSRC1.out) (fun t ht => HOC.out t (List.mem_of_mem_take ht)) (by simp; omega) (by exact ((Below.refl w.heap.size w).alloc (Nat.le_refl _) (.cells #[] 32)).size) ?_); intro v2 w2 ha2; have hb2 : Below w.heap.size w w2 := (by exact below_append (wr := w) ha2 rfl rfl rfl ((Below.refl w.heap.size w).alloc (Nat.le_refl _) (.cells #[] 32)) (by simp) (fun k hk => by simp [Value.ownBlock] at hk; omega)); have HV2 := Lib.hid (append_base ha2 (B := w.heap.size) (fun k hk => by simp [Value.ownBlock] at hk; omega) (by simp)); have HO2 : Hid (w2.ownsRow w.heap.size 32 2 v2 (l.take k).length (flat (l.take k))) := (by have h := ha2.1; rw [List.nil_append] at h; exact h); have HB2 := Lib.hid hb2; have g1' := (hT.out.below hb2).c1; clear ha2 hb2) | (at_builtin; go_loud (refine wpList_append_rts w.heap.size rfl (.tmp 35) (.tmp 42) rfl v2 (l.take k) rfl HO2.out (some ⟨b0, (k + 1) * 2, none⟩) (N - (k + 1)) (c0 - (k + 1)) (l.drop (k + 1)) rfl HDL.out ((hT.out.below HB2.out).2.src HN.out ((k + 1) * 2) (N - (k + 1)) (l.drop (k + 1)) (drop_src l (k + 1))) (fun t ht => HOC.out t (List.mem_of_mem_drop ht)) (by rw [hta.out]; omega) HB2.out.size ?_); intro v5 w5 ha5; obtain ⟨A5, m5, c5, rfl⟩ := own_slice ha5.1; have hT5 : Hid (RTab w5 g mem (.slice (some ⟨b0, 0, none⟩) N c0) l) := (by exact hT.out.below (HB2.out.grown ha5.2.1 HB2.out.size HV2.out)); have g1d := hT5.out.c1; have f1d := hT5.out.f1; have HA5 := Lib.hid ha5; clear ha5))
          go_ret
          exact rdrop_yes hT.out HS.out hat.out he.out HV2.out HB2.out HA5.out
    · have e : k = N := by omega
      subst e
      obtain ⟨hn1, hn2⟩ := none_filter (S := sh l) (p := p) (by rw [hsl.out]; exact hF)
      have HN1 := Lib.hid hn1
      have HN2 := Lib.hid hn2
      clear hn1 hn2
      go_wp2
      go_ret
      exact ⟨by rw [HN1.out]; rfl, grown_below (Below.refl _ _) _, _, l, hT.out, HS.out, HN2.out.symm, .inl rfl, fun t h => h⟩
end Go.Proofs.YtpbpoddeiocgbaaDoor
