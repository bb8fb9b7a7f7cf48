/- The reference's table: how it lies in memory; its Add. -/
import Derived.Test.YtpbpoddeiocgbaaDoorRpLent
import Derived.Test.YtpbpoddeiocgbaaDoorRpPlain
import Derived.Deep.CutRange
import Derived.Sort.Walk0
set_option linter.unusedVariables false
set_option linter.unusedSimpArgs false
namespace Go.Proofs.YtpbpoddeiocgbaaDoor
open Go.RowKit Go.Maps Go.ChangeMaps Go.Sort Go.Shelf

def RTab (w : World) (g : Nat) (mem : Int) (v : Value) (l : List Ent) : Prop :=
  w.heap[g]? = some (.cells #[.int .i64 mem, v] 50 (0, 0)) ∧ Ls w v l
theorem RTab.lt {w : World} {g : Nat} {mem : Int} {v : Value} {l : List Ent} (h : RTab w g mem v l) : g < w.heap.size := (Array.getElem?_eq_some_iff.1 h.1).1
theorem RTab.turn {P : Nat → Prop} {w w' : World} {g : Nat} {mem : Int} {v : Value} {l : List Ent} (h : RTab w g mem v l) (ht : Turn P w w') (hg : P g) (hi : InL P v l) : RTab w' g mem v l :=
  ⟨(ht.block g h.lt hg).trans h.1, h.2.turn ht hi⟩
theorem RTab.below {w w' : World} {g : Nat} {mem : Int} {v : Value} {l : List Ent} (h : RTab w g mem v l) (hb : Below w.heap.size w w') : RTab w' g mem v l :=
  h.turn (Turn.of_below hb) h.lt h.2.lt
theorem RTab.c0 {w : World} {g : Nat} {mem : Int} {v : Value} {l : List Ent} (h : RTab w g mem v l) : w.cell? ⟨g, 0, none⟩ = some (.int .i64 mem) := by simp [World.cell?, h.1]
theorem RTab.c1 {w : World} {g : Nat} {mem : Int} {v : Value} {l : List Ent} (h : RTab w g mem v l) : w.cell? ⟨g, 1, none⟩ = some v := by simp [World.cell?, h.1]
theorem RTab.f1 {w : World} {g : Nat} {mem : Int} {v : Value} {l : List Ent} (h : RTab w g mem v l) : w.frozen? ⟨g, 1, none⟩ = false := frozen_of_row w g 1 _ _ h.1
/-- No block of the table's rows is the table itself. -/
theorem RTab.ne {w : World} {g : Nat} {mem : Int} {v : Value} {l : List Ent} (h : RTab w g mem v l) : InL (fun i => i ≠ g) v l := by
  constructor
  · intro k hk e
    rcases h.2.1.2 with ⟨rfl, _⟩ | ⟨g', cap, cur, rfl, _, hh, _⟩
    · cases hk
    · have e1 : g' = k := by simpa [Value.ownBlock] using hk
      subst e1; subst e
      rw [h.1] at hh
      injection hh with hh
      injection hh with _ ht
      cases ht
  · intro t ht k hk e
    rcases (h.2.2 t ht).2.1.2 with ⟨e0, _⟩ | ⟨g', cap, cur, e0, _, hh, _⟩
    · rw [e0] at hk; cases hk
    · rw [e0] at hk
      have e1 : g' = k := by simpa [Value.ownBlock] using hk
      subst e1; subst e
      rw [h.1] at hh
      injection hh with hh
      injection hh with _ ht
      cases ht

def RAdded (g : Nat) (mem : Int) (v : Value) (l : List Ent) (p : ByteArray) (xs : List Int) (w w' : World) (e : Ending) : Prop :=
  e = .returned (.int .i64 (addR mem (sh l) p xs)) ∧ w.grownBy w' (some g) ∧
    if addR mem (sh l) p xs = 0 then ∃ v' l', RTab w' g mem v' l' ∧ Srt (sh l') ∧ (sh l').Perm (sh l ++ [(p, xs)]) ∧ (∀ k, v'.ownBlock = some k → w.heap.size ≤ k) ∧ ∀ t ∈ l', t ∈ l ∨ ∀ k, t.2.1.ownBlock = some k → w.heap.size ≤ k
    else RTab w' g mem v l ∧ Below w.heap.size w w'
theorem radded_no {g : Nat} {mem : Int} {v : Value} {l : List Ent} {p : ByteArray} {xs : List Int} {w w' : World} {r : Int} (hE : addR mem (sh l) p xs = r) (hr : r ≠ 0) (hT : RTab w g mem v l) (hb : Below w.heap.size w w') : RAdded g mem v l p xs w w' (.returned (.int .i64 r)) := by
  refine ⟨by rw [hE], grown_below hb _, ?_⟩
  rw [if_neg (by rw [hE]; exact hr)]
  exact ⟨hT.below hb, hb⟩
theorem shAt {w : World} {A0 : Option Addr} {N : Nat} {rs : List Rt} {l : List Ent} (hr : rts rs = sh l) {k : Nat} {r : Rt} (h : rs[k]? = some r) : (sh l)[k]? = some (r.p, r.xs) := by
  rw [← hr]; simp [rts, h]
theorem less_iff {a b : ByteArray} : Op.bytesLess a.toList b.toList = decide (a.data.toList < b.data.toList) := by
  rw [bytesLess_eq, ByteArray.toList_eq, ByteArray.toList_eq]
theorem toL_eq {a b : ByteArray} : (a.toList == b.toList) = decide (a = b) := by
  rw [Bool.eq_iff_iff, beq_iff_eq, decide_eq_true_eq, ByteArray.toList_eq, ByteArray.toList_eq]
  exact ⟨bytes_ext, fun e => by rw [e]⟩
theorem less_yes {a b : ByteArray} (h : Op.bytesLess a.toList b.toList = true) : a.data.toList < b.data.toList := by rw [less_iff] at h; exact of_decide_eq_true h
theorem less_no {a b : ByteArray} (h : Op.bytesLess a.toList b.toList = false) : ¬ a.data.toList < b.data.toList := by rw [less_iff] at h; exact of_decide_eq_false h
theorem toL_yes {a b : ByteArray} (h : (a.toList == b.toList) = true) : a = b := by rw [toL_eq] at h; exact of_decide_eq_true h
theorem toL_no {a b : ByteArray} (h : (a.toList == b.toList) = false) : a ≠ b := by rw [toL_eq] at h; exact of_decide_eq_false h

/-- 'append(v, l...)' of routes, at a plain region's operation. -/
theorem wpList_append_rts {W : World} {ops : Array Oper} {rest : List Oper} {o : Oper} {a : Act} {Q : Exit → Act → World → Prop} (base : Nat) (hgd : o.guard = none) (s x : Operand)
    (ho : o.op = .call { callee := .builtin .append, args := #[s, x], argTypes := #[22, 22] })
    (v : Value) (l1 : List Ent) (hs : a.eval s = v) (HO : W.ownsRow base 32 2 v l1.length (flat l1)) (A : Option Addr) (m c : Nat) (l2 : List Ent) (hx : a.eval x = .slice A m c) (hl2 : l2.length = m)
    (hsrc : (A = none → m = 0) ∧ ∀ ad, A = some ad → ∀ j u, (flat l2)[j]? = some u → W.cell? (ad.add j) = some u) (h1 : ∀ t ∈ l2, t.2.1.oneCell' = true) (hl : (l1.length + m) * 40 ≤ 140737488355328) (hbase : base ≤ W.heap.size)
    (h : ∀ v1 w1, AppendTo W base 32 2 v (l1 ++ l2).length (flat (l1 ++ l2)) v1 w1 → wpList Tryd.prog ops Q rest (a.put o.dst v1) w1) : wpList Tryd.prog ops Q (o :: rest) a W := by
  obtain ⟨i0, hi, hzz⟩ := Option.map_eq_some_iff.1 infoRoute
  simp only [Prod.mk.injEq] at hzz
  obtain ⟨hz0, hz1, hz2⟩ := hzz
  refine wpList_append_row hgd s x 22 ho base 32 i0 _ 2 40 Tryd.underlying22 hi hz0 hz1 hz2 rfl (by omega) v l1.length (flat l1) hs HO A m c (flat l2) hx (by rw [flat_len, hl2]) hsrc.1 hsrc.2 ?_ (by simp only [maxLen]; omega) hl hbase ?_
  · intro u hu
    obtain ⟨t, ht, hu⟩ := List.mem_flatMap.1 hu
    simp only [cellsE, List.mem_cons, List.not_mem_nil, or_false] at hu
    rcases hu with rfl | rfl
    · rfl
    · exact h1 t ht
  · intro v' w' h'
    refine h v' w' ?_
    have e1 : (l1 ++ l2).length = l1.length + m := by simp [hl2]
    have e2 : flat (l1 ++ l2) = flat l1 ++ flat l2 := by simp [flat]
    rw [e1, e2]
    exact h'
theorem flat_take (l : List Ent) (a : Nat) : flat (l.take a) = (flat l).take (a * 2) := by
  induction l generalizing a with
  | nil => simp [flat]
  | cons x r ih =>
    cases a with
    | zero => simp [flat]
    | succ a =>
      have e : ∀ y : List Ent, flat (x :: y) = .string x.1 :: x.2.1 :: flat y := fun _ => rfl
      rw [List.take_succ_cons, e, e, ih, show (a + 1) * 2 = a * 2 + 1 + 1 by omega, List.take_succ_cons, List.take_succ_cons]
theorem flat_drop (l : List Ent) (a : Nat) : flat (l.drop a) = (flat l).drop (a * 2) := by
  induction l generalizing a with
  | nil => simp [flat]
  | cons x r ih =>
    cases a with
    | zero => simp [flat]
    | succ a =>
      have e : flat (x :: r) = .string x.1 :: x.2.1 :: flat r := rfl
      rw [List.drop_succ_cons, e, ih, show (a + 1) * 2 = a * 2 + 1 + 1 by omega, List.drop_succ_cons, List.drop_succ_cons]
theorem Ls.oneCell {W : World} {v : Value} {l : List Ent} (h : Ls W v l) : ∀ t ∈ l, t.2.1.oneCell' = true := fun t ht => one_of_row (h.2 t ht).2.1
/-- The cells of a part of a row of routes. -/
theorem Ls.src {W : World} {b n c : Nat} {l : List Ent} (h : Ls W (.slice (some ⟨b, 0, none⟩) n c) l) (hn : n = l.length) (k m : Nat) (l2 : List Ent) (hl : ∀ j u, (flat l2)[j]? = some u → (flat l)[k + j]? = some u) :
    (some (⟨b, k, none⟩ : Addr) = none → m = 0) ∧ ∀ ad, some (⟨b, k, none⟩ : Addr) = some ad → ∀ j u, (flat l2)[j]? = some u → W.cell? (ad.add j) = some u := by
  subst hn
  refine ⟨fun e => by (cases e), fun ad e j u hu => ?_⟩
  obtain rfl : ad = ⟨b, k, none⟩ := (Option.some.inj e).symm
  have e3 : (⟨b, k, none⟩ : Addr).add j = ⟨b, k + j, none⟩ := by unfold Addr.add; split <;> simp_all
  have h2 := hl j u hu
  have hlt := (List.getElem?_eq_some_iff.1 h2).1
  rw [flat_len] at hlt
  rw [e3, h.1.cellAt _ hlt, h2]
theorem src_nil {W : World} {A : Option Addr} {m : Nat} {l2 : List Ent} (h : l2 = []) (hm : m = 0) : (A = none → m = 0) ∧ ∀ ad, A = some ad → ∀ j u, (flat l2)[j]? = some u → W.cell? (ad.add j) = some u := by
  subst h
  exact ⟨fun _ => hm, fun ad _ j u hu => by simp [flat] at hu⟩
theorem take_src (l : List Ent) (a : Nat) : ∀ j u, (flat (l.take a))[j]? = some u → (flat l)[0 + j]? = some u := fun j u h => by
  rw [flat_take, List.getElem?_take] at h
  split at h
  · rw [Nat.zero_add]; exact h
  · cases h
theorem drop_src (l : List Ent) (a : Nat) : ∀ j u, (flat (l.drop a))[j]? = some u → (flat l)[a * 2 + j]? = some u := fun j u h => by
  rw [flat_drop, List.getElem?_drop] at h
  exact h
theorem below_append {W wr w2 : World} {v v' : Value} {n : Nat} {base : Nat} {e : TypeId} {size : Nat} {xs : List Value} {B : Nat} (h : AppendTo W base e size v n xs v' w2) (h1 : W.os = wr.os) (h2 : W.tape = wr.tape) (h3 : W.output = wr.output) (hB : Below B wr W) (hs : B ≤ W.heap.size) (hv : ∀ k, v.ownBlock = some k → B ≤ k) : Below B wr w2 :=
  hB.grown h.2.1 hs hv

/-- Behind the new route's copy: the head of the list with the new one behind it, all in blocks of the call's own. -/
def R16 (B0 : Nat) (w1 : World) (l : List Ent) (p : ByteArray) (xs : List Int) (v4 : Value) (w4 : World) : Prop :=
  ∃ vt, w4.ownsRow B0 32 2 v4 (l ++ [(p, vt, xs)]).length (flat (l ++ [(p, vt, xs)])) ∧ Row w4 vt xs ∧ (∀ k, vt.ownBlock = some k → w1.heap.size ≤ k) ∧ (∀ k, v4.ownBlock = some k → w1.heap.size ≤ k) ∧ Below w1.heap.size w1 w4
theorem r16_mk {B0 : Nat} {w1 w2 w3 w4 : World} {l : List Ent} {p : ByteArray} {xs : List Int} {v2 v4 : Value} {B : Option Addr} {n d : Nat} (hb2 : Below w1.heap.size w1 w2) (hb3 : Below w2.heap.size w2 w3) (hO2 : w2.ownsRow B0 32 2 v2 l.length (flat l)) (h2 : ∀ k, v2.ownBlock = some k → w1.heap.size ≤ k)
    (hr3 : w3.ownsRow w2.heap.size 3 1 (.slice B n d) n (xs.map (Value.int .i64))) (hn : xs.length = n) (hn8 : n * 8 ≤ 140737488355328)
    (ha : AppendTo (w3.alloc (.cells #[.string p, .slice B n d] 32)) B0 32 2 v2 (l ++ [(p, Value.slice B n d, xs)]).length (flat (l ++ [(p, Value.slice B n d, xs)])) v4 w4) : R16 B0 w1 l p xs v4 w4 := by
  have hO3 := (own_turn hO2 (Turn.of_below hb3) (own_lt hO2)).alloc (.cells #[.string p, .slice B n d] 32)
  have hr3' := hr3.alloc (.cells #[.string p, .slice B n d] 32)
  have hB3 := (hb2.trans (hb3.mono hb2.size)).alloc (Nat.le_trans hb2.size hb3.size) (.cells #[.string p, .slice B n d] 32)
  refine ⟨.slice B n d, ha.1, ⟨?_, by rw [hn]; exact hn8⟩, fun k hk => Nat.le_trans hb2.size (ownBase hr3 k hk), fun k hk => ?_, hB3.grown ha.2.1 hB3.size h2⟩
  · rw [hn]
    exact own_turn (ownLow hr3') (Turn.of_grown ha.2.1) (fun k hk e => rowNeRoute hr3' hO3 k e.symm hk)
  · rcases ha.2.2 with e | e
    · exact h2 k (by rw [← e]; exact hk)
    · rw [e] at hk
      have hs := hB3.size
      have : k = (w3.alloc (.cells #[.string p, .slice B n d] 32)).heap.size := by injection hk with hk; exact hk.symm
      omega

theorem own_slice {w : World} {base n : Nat} {e : TypeId} {size : Nat} {v : Value} {xs : List Value} (h : w.ownsRow base e size v n xs) : ∃ A m c, v = .slice A m c := by
  rcases h.2 with ⟨rfl, _⟩ | ⟨g, cap, cur, rfl, _⟩
  · exact ⟨none, 0, 0, rfl⟩
  · exact ⟨_, _, cap, rfl⟩
theorem setCell_turn {w : World} {g j : Nat} {u : Value} : Turn (fun i => i ≠ g) w (w.setCell ⟨g, j, none⟩ u) :=
  ⟨rfl, rfl, rfl, by simp [World.setCell], fun i hi hp => Below.heap_setCell _ _ _ _ hp⟩
theorem sh_put (l : List Ent) (a : Nat) (p : ByteArray) (vt : Value) (xs : List Int) : sh (l.take a ++ [(p, vt, xs)] ++ l.drop a) = putIn (sh l) a (p, xs) := by
  unfold sh putIn
  rw [List.map_append, List.map_append, List.map_take, List.map_drop]
  rfl
theorem rtab_store {w5 : World} {g : Nat} {mem : Int} {v v5 : Value} {l l' : List Ent} (h : RTab w5 g mem v l) (hl : Ls w5 v5 l') (hi : InL (fun i => i ≠ g) v5 l') : RTab (w5.setCell ⟨g, 1, none⟩ v5) g mem v5 l' :=
  ⟨heap_setCell_same w5 g 1 _ _ v5 h.1, hl.turn setCell_turn hi⟩
theorem radd_yes {g : Nat} {mem : Int} {v u7 v5 vt : Value} {l : List Ent} {p : ByteArray} {xs : List Int} {w w1 wc w5 : World} {a : Nat} (hE : addR mem (sh l) p xs = 0) (hT : RTab w1 g mem v l) (hgw : g < w.heap.size) (hB : Below w.heap.size w w1) (hp : p.size ≤ maxLen) (hs : Srt (sh l)) (hA : AtRel (sh l) p (sh l).length a)
    (hrow : Row wc vt xs) (hvt : ∀ k, vt.ownBlock = some k → w1.heap.size ≤ k) (hO : wc.ownsRow w.heap.size 32 2 u7 (l.take a ++ [(p, vt, xs)]).length (flat (l.take a ++ [(p, vt, xs)]))) (hv4 : ∀ k, u7.ownBlock = some k → w1.heap.size ≤ k) (hb4 : Below w1.heap.size w1 wc)
    (ha : AppendTo wc w.heap.size 32 2 u7 (l.take a ++ [(p, vt, xs)] ++ l.drop a).length (flat (l.take a ++ [(p, vt, xs)] ++ l.drop a)) v5 w5) : RAdded g mem v l p xs w (w5.setCell ⟨g, 1, none⟩ v5) (.returned (.int .i64 0)) := by
  have hb5 : Below w1.heap.size w1 w5 := hb4.grown ha.2.1 hb4.size hv4
  have hT5 := hT.below hb5
  have hg1 := hT.lt
  have hr5 : Row w5 vt xs := ⟨own_turn hrow.1 (Turn.of_grown ha.2.1) (fun k hk e => rowNeRoute hrow.1 hO k e.symm hk), hrow.2⟩
  have hv5 : ∀ k, v5.ownBlock = some k → w1.heap.size ≤ k := fun k hk => by
    rcases ha.2.2 with e | e
    · exact hv4 k (by rw [← e]; exact hk)
    · rw [e] at hk
      have hs := hb4.size
      injection hk with hk
      omega
  have hmem : ∀ t ∈ l.take a ++ [(p, vt, xs)] ++ l.drop a, t ∈ l ∨ t = (p, vt, xs) := fun t ht => by
    rcases List.mem_append.1 ht with h | h
    · rcases List.mem_append.1 h with h | h
      · exact .inl (List.mem_of_mem_take h)
      · exact .inr (by simpa using h)
    · exact .inl (List.mem_of_mem_drop h)
  have hL5 : Ls w5 v5 (l.take a ++ [(p, vt, xs)] ++ l.drop a) := ⟨ownLow ha.1, fun t ht => by
    rcases hmem t ht with h | rfl
    · exact hT5.2.2 t h
    · exact ⟨hp, hr5⟩⟩
  have hI5 : InL (fun i => i ≠ g) v5 (l.take a ++ [(p, vt, xs)] ++ l.drop a) := ⟨fun k hk e => by have := hv5 k hk; omega, fun t ht => by
    rcases hmem t ht with h | rfl
    · exact hT5.ne.2 t h
    · exact fun k hk e => by have := hvt k hk; omega⟩
  have hB5 := hB.trans (hb5.mono hB.size)
  refine ⟨by rw [hE], ?_, ?_⟩
  · exact ⟨hB5.os, hB5.tape, hB5.output, by simpa [World.setCell] using hB5.size, fun i hi hne => (Below.heap_setCell _ _ _ _ (fun e => hne (by rw [e]))).trans (hB5.block i hi)⟩
  · rw [if_pos hE]
    refine ⟨v5, _, rtab_store hT5 hL5 hI5, ?_, ?_, fun k hk => Nat.le_trans hB.size (hv5 k hk), fun t ht => ?_⟩
    · rw [sh_put]; exact putIn_srt hA hs
    · rw [sh_put]; exact putIn_perm _ _ _
    · rcases hmem t ht with h | rfl
      · exact .inl h
      · exact .inr fun k hk => Nat.le_trans hB.size (hvt k hk)

set_option maxHeartbeats 2000000 in
set_option maxRecDepth 100000 in
theorem radd_any (g n c : Nat) (mem : Int) (v : Value) (l : List Ent) (p : ByteArray) (A : Option Addr) (xs : List Int) (w : World) (h : RTab w g mem v l) (hs : Srt (sh l)) (hp : p.size ≤ 9223372036854775807) (hx : IntsAt w A n xs) (hn8 : n * 8 ≤ 140737488355328) (hl32 : l.length ≤ 32) :
    Calls Tryd.prog 16 #[.pointer (some ⟨g, 0, none⟩), .agg #[.string p, .slice A n c]] w fun e w' => RAdded g mem (v) l p xs w w' e := by
  obtain ⟨A0, c0, rs, rfl, hrs, hrr, hlc, hcm⟩ := h.2.routes
  have hsl : Hid ((sh l).length = l.length) := by show _ = _; simp [sh]
  obtain ⟨N, hN⟩ : ∃ N, N = l.length := ⟨_, rfl⟩
  rw [← hN] at h hrs hlc hl32 hsl ⊢
  have HN := Lib.hid hN
  clear hN
  have hT := Lib.hid h
  have HRS := Lib.hid hrs
  have HRR := Lib.hid hrr
  have HS := Lib.hid hs
  have HX := Lib.hid hx
  unfold maxLen at hcm
  clear h hrs hrr hs hx
  go_enter Tryd.func16, Tryd.ntmps16
  have hg1 := hT.out.lt
  have hT1 : Hid (RTab (w.alloc (.cells #[.string p, .slice A n c] 32)) g mem (.slice A0 N c0) l) := hT.out.below ((Below.refl _ _).alloc (Nat.le_refl _) _)
  have HX1 : Hid (IntsAt (w.alloc (.cells #[.string p, .slice A n c] 32)) A n xs) := HX.out.keep ((Below.refl _ _).alloc (Nat.le_refl _) _)
  cases hpre : okPre p with
  | false =>
    go_wp2_with (go_at_call 27; refine (rprefix_any p _ hp).mono ?_; rintro e w' ⟨he, rfl⟩; rw [hpre] at he; subst he)
    go_ret
    exact radded_no (r := 110) (by unfold addR; rw [if_pos hpre]) (by decide) hT.out ((Below.refl _ _).alloc (Nat.le_refl _) _)
  | true =>
  cases hto : rtoB mem xs with
  | false =>
    go_wp2_with (first | (go_at_call 27; refine (rprefix_any p _ hp).mono ?_; rintro e w' ⟨he, rfl⟩; rw [hpre] at he; subst he) | (go_at_call 28; refine (rto_any g n c mem A xs _ (by exact hT1.out.c0) (by exact HX1.out) (by omega)).mono ?_; rintro e w1 ⟨he, hb1⟩; rw [hto] at he; subst he))
    go_ret
    exact radded_no (r := 112) (by unfold addR; rw [if_neg (by rw [hpre]; decide), if_pos hto]) (by decide) hT.out (((Below.refl _ _).alloc (Nat.le_refl _) _).trans (hb1.mono (by simp)))
  | true =>
    go_wp2_with (first | (go_at_call 27; refine (rprefix_any p _ hp).mono ?_; rintro e w' ⟨he, rfl⟩; rw [hpre] at he; subst he) | (go_at_call 28; refine (rto_any g n c mem A xs _ (by exact hT1.out.c0) (by exact HX1.out) (by omega)).mono ?_; rintro e w1 ⟨he, hb1⟩; rw [hto] at he; subst he))
    have HPRE := Lib.hid hpre
    have HTO := Lib.hid hto
    clear hpre hto
    have hB1 : Hid (Below w.heap.size w w1) := ((Below.refl _ _).alloc (Nat.le_refl _) _).trans (hb1.mono (by simp))
    have hT2 : Hid (RTab w1 g mem (.slice A0 N c0) l) := hT1.out.below hb1
    have HX2 : Hid (IntsAt w1 A n xs) := HX1.out.keep hb1
    have hRS2 : Hid (RoutesAt w1 A0 N rs) := (HRS.out.keep ((Below.refl _ _).alloc (Nat.le_refl _) _)).keep hb1
    have r0 : w1.cell? ⟨w.heap.size, 0, none⟩ = some (.string p) := by rw [hb1.cell (by simp)]; simp
    have r1 : w1.cell? ⟨w.heap.size, 1, none⟩ = some (.slice A n c) := by rw [hb1.cell (by simp)]; simp
    have g1 := hT2.out.c1
    go_loopw [5, 6] (fun a i wr => ∃ k at' : Nat, k ≤ N ∧ i = .int .i64 k ∧ a = .int .i64 at' ∧ Aside0 (∃ q, wr = w1.drewN q) ∧ Hid (AtRel (sh l) p k at')) (fun _ i _ => N - (intOf i).toNat)
    case atStart => exact ⟨0, 0, Nat.zero_le _, rfl, rfl, ⟨⟨0, rfl⟩⟩, Nat.le_refl _, fun i t hi => absurd hi (by omega)⟩
    case round =>
      obtain ⟨k, a, hk, rfl, rfl, hw, hA⟩ := hrel
      obtain ⟨q, rfl⟩ := hw.out
      clear hw
      by_cases hlt : k < N
      · obtain ⟨r, hr⟩ : ∃ r, rs[k]? = some r := ⟨rs[k]'(by have := hRS2.out.1; omega), List.getElem?_eq_getElem _⟩
        obtain ⟨b0, off, rfl, d0, d1⟩ := hRS2.out.2.1 _ r hr
        have hat : Hid ((sh l)[k]? = some (r.p, r.xs)) := shAt (w := w) (A0 := none) (N := 0) HRR.out hr
        clear hr
        rcases htp : (r.p.toList == p.toList) with _ | _
        · have hne : Hid (r.p ≠ p) := toL_no htp
          rcases hls : Op.bytesLess r.p.toList p.toList with _ | _
          · have hl2 : Hid (¬ r.p.data.toList < p.data.toList) := less_no hls
            go_wp2
            go_quiet (fail)
            go_wp2
            go_quiet (fail)
            go_wp2
            exact ⟨⟨k + 1, a, by omega, by go_num, rfl, ⟨⟨_, rfl⟩⟩, atRel_not hA hat.out hne.out hl2.out⟩, by simp [intOf]; omega⟩
          · have hl2 : Hid (r.p.data.toList < p.data.toList) := less_yes hls
            go_wp2
            go_quiet (fail)
            go_wp2
            go_quiet (fail)
            go_wp2
            exact ⟨⟨k + 1, k + 1, by omega, by go_num, by go_num, ⟨⟨_, rfl⟩⟩, atRel_less hA HS.out hat.out hne.out hl2.out⟩, by simp [intOf]; omega⟩
        · have he : Hid (r.p = p) := toL_yes htp
          go_wp2
          go_quiet (fail)
          go_wp2
          go_ret
          exact radded_no (r := 111) (by unfold addR; rw [if_neg (by rw [HPRE.out]; decide), if_neg (by rw [HTO.out]; decide), if_pos (atRel_some hat.out he.out)]) (by decide) hT.out ((hB1.out.trans (below_drewN0' _ _)).trans (below_drewN0' _ _))
      · have e : k = N := by omega
        subst e
        have hnone : Hid (((sh l).any fun t => decide (t.1 = p)) = false) := atRel_none (a := a) (by rw [hsl.out]; exact hA)
        by_cases h32 : k = 32
        · have t1 : ((k : Int) == 32) = true := by rw [h32]; rfl
          have HE : Hid (addR mem (sh l) p xs = 3) := by
            show _ = _
            unfold addR; rw [if_neg (by rw [HPRE.out]; decide), if_neg (by rw [HTO.out]; decide), if_neg (by rw [hnone.out]; decide), if_pos (by rw [hsl.out]; exact h32)]
          clear h32
          go_wp2
          go_ret
          exact radded_no (r := 3) HE.out (by decide) hT.out (hB1.out.trans (below_drewN0' _ _))
        · have t1 : ((k : Int) == 32) = false := by simp; omega
          have HE : Hid (addR mem (sh l) p xs = 0) := by
            show _ = _
            unfold addR; rw [if_neg (by rw [HPRE.out]; decide), if_neg (by rw [HTO.out]; decide), if_neg (by rw [hnone.out]; decide), if_neg (by rw [hsl.out]; exact h32)]
          clear h32
          have hak : a ≤ k := hA.out.1
          have gg := fun (q : Nat) (o : Obj) => (cell_old (w := w1.drewN q) (i := 1) (o := o) (b := g) hT2.out.lt).trans g1
          rcases hT2.out.2.1.2 with ⟨e, hk0⟩ | ⟨bb, cap, cur, e, _, _, _⟩
          · injection e with e1 e2 e3
            subst e1; subst e3
            clear hk0
            subst e2
            obtain rfl : a = 0 := by omega
            have hta : Hid ((l.take 0).length = 0) := by
              show _ = _
              simp
            clear hT1 HRS hRS2 HRR
            go_wp2
            have hb2 : Below w1.heap.size w1 ((w1.drewN q).alloc (.cells #[] 32)) := (below_drewN0' w1 q).alloc (by simp) _
            have HO2 : Hid ((World.alloc (w1.drewN q) (.cells #[] 32)).ownsRow w.heap.size 32 2 (.slice (some ⟨w1.heap.size, 0, none⟩) 0 0) (l.take 0).length (flat (l.take 0))) := by
              show World.ownsRow _ _ _ _ _ _ _
              rw [List.take_zero]
              exact empty_own (w1.drewN q) _ _ hB1.out.size
            have HB2 : Hid (Below w.heap.size w ((w1.drewN q).alloc (.cells #[] 32))) := hB1.out.trans (hb2.mono hB1.out.size)
            have hT3 : Hid (RTab ((w1.drewN q).alloc (.cells #[] 32)) g mem (.slice none 0 0) l) := hT2.out.below hb2
            have HX3 : Hid (IntsAt ((w1.drewN q).alloc (.cells #[] 32)) A n xs) := HX2.out.keep hb2
            have r0' := (cell_old (o := .cells #[] 3) (World.block_lt_of_cell? ((w1.drewN q).alloc (.cells #[] 32)) _ ((hb2.cell (World.block_lt_of_cell? w1 _ r0)).trans r0))).trans ((hb2.cell (World.block_lt_of_cell? w1 _ r0)).trans r0)
            have r1' := (cell_old (o := .cells #[] 3) (World.block_lt_of_cell? ((w1.drewN q).alloc (.cells #[] 32)) _ ((hb2.cell (World.block_lt_of_cell? w1 _ r1)).trans r1))).trans ((hb2.cell (World.block_lt_of_cell? w1 _ r1)).trans r1)
            have r0n := ((hb2.cell (World.block_lt_of_cell? w1 _ r0)).trans r0)
            have r1n := ((hb2.cell (World.block_lt_of_cell? w1 _ r1)).trans r1)
            have hbne : Hid (∀ k, (Value.slice (some ⟨w1.heap.size, 0, none⟩) 0 0).ownBlock = some k → w1.heap.size ≤ k) := fun k hk => by simp [Value.ownBlock] at hk; omega
            clear r0 r1 g1 gg
            go_cut [7] from 64 to 73 (fun s7 wz => R16 w.heap.size w1 (l.take 0) p xs s7 wz)
            case first =>
              go_region_law (first | (refine step_copy_ints ((w1.drewN q).alloc (.cells #[] 32)).heap.size rfl (.tmp 67) (.tmp 69) rfl ((w1.drewN q).alloc (.cells #[] 32)).heap.size (by simp [Act.eval, Act.put]) (by exact heap_alloc_new ((w1.drewN q).alloc (.cells #[] 32)) _) (Nat.le_refl _) A n c xs (by simp [Act.eval, Act.put]) (by exact IntsAt.keep (w' := ((w1.drewN q).alloc (.cells #[] 32)).alloc (.cells #[] 3)) HX3.out ((Below.refl _ _).alloc (Nat.le_refl _) _)) hn8 ?_; intro B d w3 hrow3 hgr3; have hb3 : Below ((w1.drewN q).alloc (.cells #[] 32)).heap.size ((w1.drewN q).alloc (.cells #[] 32)) w3 := (by exact below_copy hgr3 rfl rfl rfl rfl); have r0'' := (hb3.cell (World.block_lt_of_cell? ((w1.drewN q).alloc (.cells #[] 32)) _ r0n)).trans r0n; have HR3 := Lib.hid hrow3; clear hrow3 hgr3) | (refine step_append_ent w.heap.size rfl (.tmp 64) (.tmp 72) rfl (.slice (some ⟨w1.heap.size, 0, none⟩) 0 0) (l.take 0) (p, .slice B n d, xs) w3.heap.size (by simp [Act.eval, Act.put]) (by simp [Act.eval, Act.put]) (by exact heap_alloc_new w3 _) rfl (by exact (own_turn HO2.out (Turn.of_below hb3) (own_lt HO2.out)).alloc _) (Nat.le_trans HB2.out.size hb3.size) (by rw [hta.out]; omega) ?_; intro v4 w4 ha4; have HA4 := Lib.hid ha4; clear ha4))
              all_goals go_wp2_with fail
              all_goals go_meet
              all_goals exact r16_mk hb2 hb3 HO2.out hbne.out HR3.out HX3.out.1 hn8 (by exact HA4.out)
            case rest =>
              obtain ⟨vt, hO4, hrow4, hvt, hv4, hb4⟩ := hcut
              have HO4 := Lib.hid hO4
              have HROW4 := Lib.hid hrow4
              have HVT := Lib.hid hvt
              have HV4 := Lib.hid hv4
              have HB4 := Lib.hid hb4
              clear hO4 hrow4 hvt hv4 hb4
              have hT4 : Hid (RTab wc g mem (.slice none 0 0) l) := hT2.out.below HB4.out
              have g1c := hT4.out.c1
              have HL8 : Hid (((l.take 0 ++ [(p, vt, xs)]).length + 0) * 40 ≤ 140737488355328) := by
                have hx : (l.take 0 ++ [(p, vt, xs)]).length = 0 + 1 := by rw [List.length_append, hta.out]; rfl
                show ((l.take 0 ++ [(p, vt, xs)]).length + 0) * 40 ≤ 140737488355328
                rw [hx]
                omega
              have HOC := Lib.hid hT2.out.2.oneCell
              have HDL : Hid ((l.drop 0).length = 0) := by show _ = _; rw [List.length_drop, ← HN.out]
              have HSRC : Hid (_) := (src_nil (W := wc) (A := none) (m := 0) (l2 := l.drop 0) (by rw [List.drop_eq_nil_iff, ← HN.out]; omega) rfl)
              go_wp2_with (at_builtin; go_loud (refine wpList_append_rts w.heap.size rfl (.tmp 75) (.tmp 81) rfl u7 (l.take 0 ++ [(p, vt, xs)]) rfl HO4.out none 0 0 (l.drop 0) rfl HDL.out HSRC.out (fun t ht => HOC.out t (List.mem_of_mem_drop ht)) HL8.out (Nat.le_trans hB1.out.size HB4.out.size) ?_); intro v5 w5 ha5; obtain ⟨A5, m5, c5, rfl⟩ := own_slice ha5.1; have hT5 : Hid (RTab w5 g mem (.slice none 0 0) l) := hT2.out.below (HB4.out.grown ha5.2.1 HB4.out.size HV4.out); have g1d := hT5.out.c1; have f1d := hT5.out.f1; have HA5 := Lib.hid ha5; clear ha5 HSRC)
              go_ret
              exact radd_yes HE.out hT2.out hT.out.lt hB1.out hp HS.out (by rw [hsl.out]; exact hA) HROW4.out HVT.out HO4.out HV4.out HB4.out HA5.out
          · injection e with e1 e2 e3
            subst e1; subst e3
            clear e2
            have hta : Hid ((l.take a).length = a) := by
              show _ = _
              rw [List.length_take, ← HN.out]; omega
            have hk2 : k ≤ 32 := hl32
            clear hT1 HRS hRS2 HRR
            go_wp2_with (at_builtin; go_loud (refine wpList_append_rts w.heap.size rfl (.tmp 56) (.tmp 62) rfl (.slice (some ⟨w1.heap.size, 0, none⟩) 0 0) [] rfl (by exact empty_own (w1.drewN q) _ _ hB1.out.size) (some ⟨bb, 0, none⟩) a c0 (l.take a) rfl hta.out (by exact ((hT2.out.below ((Below.refl _ _).alloc (Nat.le_refl _) (.cells #[] 32))).2.src HN.out 0 a (l.take a) (take_src l a))) (fun t ht => hT2.out.2.oneCell t (List.mem_of_mem_take ht)) (by simp; omega) (by exact Nat.le_trans hB1.out.size (by simp)) ?_); intro v2 w2 ha2; have HA2 := Lib.hid ha2; clear ha2)
            have hb2 : Below w1.heap.size w1 w2 := below_append (W := (w1.drewN q).alloc (.cells #[] 32)) HA2.out rfl rfl rfl ((below_drewN0' w1 q).alloc (by simp) _) (by simp) (fun k hk => by simp [Value.ownBlock] at hk; omega)
            have HO2 : Hid (w2.ownsRow w.heap.size 32 2 v2 (l.take a).length (flat (l.take a))) := by have h := HA2.out.1; rw [List.nil_append] at h; exact h
            have HB2 : Hid (Below w.heap.size w w2) := hB1.out.trans (hb2.mono hB1.out.size)
            have hT3 : Hid (RTab w2 g mem (.slice (some ⟨bb, 0, none⟩) k c0) l) := hT2.out.below hb2
            have HX3 : Hid (IntsAt w2 A n xs) := HX2.out.keep hb2
            have r0' := (cell_old (o := .cells #[] 3) (World.block_lt_of_cell? w2 _ ((hb2.cell (World.block_lt_of_cell? w1 _ r0)).trans r0))).trans ((hb2.cell (World.block_lt_of_cell? w1 _ r0)).trans r0)
            have r1' := (cell_old (o := .cells #[] 3) (World.block_lt_of_cell? w2 _ ((hb2.cell (World.block_lt_of_cell? w1 _ r1)).trans r1))).trans ((hb2.cell (World.block_lt_of_cell? w1 _ r1)).trans r1)
            have r0n := ((hb2.cell (World.block_lt_of_cell? w1 _ r0)).trans r0)
            have r1n := ((hb2.cell (World.block_lt_of_cell? w1 _ r1)).trans r1)
            have hbne : Hid (∀ k, v2.ownBlock = some k → w1.heap.size ≤ k) := fun k hk => by
              rcases HA2.out.2.2 with e | e
              · rw [e] at hk; simp [Value.ownBlock] at hk; omega
              · rw [e] at hk; simp at hk; omega
            clear HA2 r0 r1 g1 gg
            go_cut [7] from 64 to 73 (fun s7 wz => R16 w.heap.size w1 (l.take a) p xs s7 wz)
            case first =>
              go_region_law (first | (refine step_copy_ints w2.heap.size rfl (.tmp 67) (.tmp 69) rfl w2.heap.size (by simp [Act.eval, Act.put]) (by exact heap_alloc_new w2 _) (Nat.le_refl _) A n c xs (by simp [Act.eval, Act.put]) (by exact IntsAt.keep (w' := w2.alloc (.cells #[] 3)) HX3.out ((Below.refl _ _).alloc (Nat.le_refl _) _)) hn8 ?_; intro B d w3 hrow3 hgr3; have hb3 : Below w2.heap.size w2 w3 := (by exact below_copy hgr3 rfl rfl rfl rfl); have r0'' := (hb3.cell (World.block_lt_of_cell? w2 _ r0n)).trans r0n; have HR3 := Lib.hid hrow3; clear hrow3 hgr3) | (refine step_append_ent w.heap.size rfl (.tmp 64) (.tmp 72) rfl v2 (l.take a) (p, .slice B n d, xs) w3.heap.size (by simp [Act.eval, Act.put]) (by simp [Act.eval, Act.put]) (by exact heap_alloc_new w3 _) rfl (by exact (own_turn HO2.out (Turn.of_below hb3) (own_lt HO2.out)).alloc _) (Nat.le_trans HB2.out.size hb3.size) (by rw [hta.out]; omega) ?_; intro v4 w4 ha4; have HA4 := Lib.hid ha4; clear ha4))
              all_goals go_wp2_with fail
              all_goals go_meet
              all_goals exact r16_mk hb2 hb3 HO2.out hbne.out HR3.out HX3.out.1 hn8 (by exact HA4.out)
            case rest =>
              obtain ⟨vt, hO4, hrow4, hvt, hv4, hb4⟩ := hcut
              have HO4 := Lib.hid hO4
              have HROW4 := Lib.hid hrow4
              have HVT := Lib.hid hvt
              have HV4 := Lib.hid hv4
              have HB4 := Lib.hid hb4
              clear hO4 hrow4 hvt hv4 hb4
              have hT4 : Hid (RTab wc g mem (.slice (some ⟨bb, 0, none⟩) k c0) l) := hT2.out.below HB4.out
              have g1c := hT4.out.c1
              have HL8 : Hid (((l.take a ++ [(p, vt, xs)]).length + (k - a)) * 40 ≤ 140737488355328) := by
                have hx : (l.take a ++ [(p, vt, xs)]).length = a + 1 := by rw [List.length_append, hta.out]; rfl
                show ((l.take a ++ [(p, vt, xs)]).length + (k - a)) * 40 ≤ 140737488355328
                rw [hx]
                omega
              have HOC := Lib.hid hT2.out.2.oneCell
              have HDL : Hid ((l.drop a).length = k - a) := by show _ = _; rw [List.length_drop, ← HN.out]
              by_cases hca : c0 = a
              · have HSRC : Hid (_) := (src_nil (W := wc) (A := some ⟨bb, 0, none⟩) (m := k - a) (l2 := l.drop a) (by rw [List.drop_eq_nil_iff, ← HN.out]; omega) (by omega))
                go_wp2_with (at_builtin; go_loud (refine wpList_append_rts w.heap.size rfl (.tmp 75) (.tmp 81) rfl u7 (l.take a ++ [(p, vt, xs)]) rfl HO4.out (some ⟨bb, 0, none⟩) (k - a) 0 (l.drop a) rfl HDL.out HSRC.out (fun t ht => HOC.out t (List.mem_of_mem_drop ht)) HL8.out (Nat.le_trans hB1.out.size HB4.out.size) ?_); intro v5 w5 ha5; obtain ⟨A5, m5, c5, rfl⟩ := own_slice ha5.1; have hT5 : Hid (RTab w5 g mem (.slice (some ⟨bb, 0, none⟩) k c0) l) := hT2.out.below (HB4.out.grown ha5.2.1 HB4.out.size HV4.out); have g1d := hT5.out.c1; have f1d := hT5.out.f1; have HA5 := Lib.hid ha5; clear ha5 HSRC)
                go_ret
                subst hca
                exact radd_yes HE.out hT2.out hT.out.lt hB1.out hp HS.out (by rw [hsl.out]; exact hA) HROW4.out HVT.out HO4.out HV4.out HB4.out HA5.out
              · have HSRC : Hid (_) := (hT4.out.2.src HN.out (a * 2) (k - a) (l.drop a) (drop_src l a))
                go_wp2_with (at_builtin; go_loud (refine wpList_append_rts w.heap.size rfl (.tmp 75) (.tmp 81) rfl u7 (l.take a ++ [(p, vt, xs)]) rfl HO4.out (some ⟨bb, a * 2, none⟩) (k - a) (c0 - a) (l.drop a) rfl HDL.out HSRC.out (fun t ht => HOC.out t (List.mem_of_mem_drop ht)) HL8.out (Nat.le_trans hB1.out.size HB4.out.size) ?_); intro v5 w5 ha5; obtain ⟨A5, m5, c5, rfl⟩ := own_slice ha5.1; have hT5 : Hid (RTab w5 g mem (.slice (some ⟨bb, 0, none⟩) k c0) l) := hT2.out.below (HB4.out.grown ha5.2.1 HB4.out.size HV4.out); have g1d := hT5.out.c1; have f1d := hT5.out.f1; have HA5 := Lib.hid ha5; clear ha5 HSRC)
                go_ret
                exact radd_yes HE.out hT2.out hT.out.lt hB1.out hp HS.out (by rw [hsl.out]; exact hA) HROW4.out HVT.out HO4.out HV4.out HB4.out HA5.out
end Go.Proofs.YtpbpoddeiocgbaaDoor
