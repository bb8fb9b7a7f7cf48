/- The reference's Find. -/
import Derived.Test.YtpbpoddeiocgbaaDoorRpRef
set_option linter.unusedVariables false
set_option linter.unusedSimpArgs false
namespace Go.Proofs.YtpbpoddeiocgbaaDoor
open Go.RowKit Go.Maps Go.ChangeMaps Go.Sort Go.Shelf

/-- The longest that the card begins with, among the first k. -/
def FindRel (S : List Pr) (pan : ByteArray) (k : Nat) : Option Nat → Prop
  | none => ∀ (i : Nat) (x : Pr), i < k → S[i]? = some x → begins pan x.1 = false
  | some m => m < k ∧ ∃ y, S[m]? = some y ∧ begins pan y.1 = true ∧ ∀ (i : Nat) (x : Pr), i < k → S[i]? = some x → begins pan x.1 = true → x.1.size ≤ y.1.size
def biV : Option Nat → Int
  | none => -1
  | some m => m
theorem findRel_not {S : List Pr} {pan : ByteArray} {k : Nat} {b : Option Nat} {x : Pr} (h : FindRel S pan k b) (hx : S[k]? = some x) (hb : begins pan x.1 = false) : FindRel S pan (k + 1) b := by
  cases b with
  | none =>
    intro i y hi hy
    by_cases e : i = k
    · subst e; rw [hx] at hy; obtain rfl := Option.some.inj hy; exact hb
    · exact h i y (by omega) hy
  | some m =>
    obtain ⟨hm, y, hy, hby, hall⟩ := h
    refine ⟨by omega, y, hy, hby, fun i z hi hz hbz => ?_⟩
    by_cases e : i = k
    · subst e; rw [hx] at hz; obtain rfl := Option.some.inj hz; rw [hb] at hbz; cases hbz
    · exact hall i z (by omega) hz hbz
theorem findRel_first {S : List Pr} {pan : ByteArray} {k : Nat} {x : Pr} (h : FindRel S pan k none) (hx : S[k]? = some x) (hb : begins pan x.1 = true) : FindRel S pan (k + 1) (some k) := by
  refine ⟨by omega, x, hx, hb, fun i z hi hz hbz => ?_⟩
  by_cases e : i = k
  · subst e; rw [hx] at hz; obtain rfl := Option.some.inj hz; exact Nat.le_refl _
  · have := h i z (by omega) hz
    rw [hbz] at this; cases this
theorem findRel_longer {S : List Pr} {pan : ByteArray} {k m : Nat} {x y : Pr} (h : FindRel S pan k (some m)) (hx : S[k]? = some x) (hy : S[m]? = some y) (hb : begins pan x.1 = true) (hl : y.1.size < x.1.size) : FindRel S pan (k + 1) (some k) := by
  obtain ⟨hm, y', hy', hby, hall⟩ := h
  rw [hy] at hy'; obtain rfl := Option.some.inj hy'
  refine ⟨by omega, x, hx, hb, fun i z hi hz hbz => ?_⟩
  by_cases e : i = k
  · subst e; rw [hx] at hz; obtain rfl := Option.some.inj hz; exact Nat.le_refl _
  · exact Nat.le_of_lt (Nat.lt_of_le_of_lt (hall i z (by omega) hz hbz) hl)
theorem findRel_shorter {S : List Pr} {pan : ByteArray} {k m : Nat} {x y : Pr} (h : FindRel S pan k (some m)) (hx : S[k]? = some x) (hy : S[m]? = some y) (hl : ¬ y.1.size < x.1.size) : FindRel S pan (k + 1) (some m) := by
  obtain ⟨hm, y', hy', hby, hall⟩ := h
  rw [hy] at hy'; obtain rfl := Option.some.inj hy'
  refine ⟨by omega, y, hy, hby, fun i z hi hz hbz => ?_⟩
  by_cases e : i = k
  · subst e; rw [hx] at hz; obtain rfl := Option.some.inj hz; omega
  · exact hall i z (by omega) hz hbz
theorem begins_extract {pan p : ByteArray} (h : begins pan p = true) : p.size ≤ pan.size ∧ pan.extract 0 p.size = p := by
  unfold begins at h
  simpa using h
theorem bestS_up {S : List Pr} {pan : ByteArray} {n : Nat} : ∀ d, (∀ x ∈ S, begins pan x.1 = true → x.1.size ≤ n) → n + d ≤ pan.size → bestS S pan (n + d) = bestS S pan n
  | 0, _, _ => rfl
  | d + 1, h, hp => by
    rw [show n + (d + 1) = (n + d) + 1 by omega, bestS]
    have hf : S.find? (fun t => decide (t.1 = pan.extract 0 (n + d + 1))) = none := by
      rw [List.find?_eq_none]
      intro x hx he
      have he := of_decide_eq_true he
      have hs : x.1.size = n + d + 1 := by rw [he]; simp; omega
      have hb : begins pan x.1 = true := by unfold begins; rw [hs, ← he]; simp; omega
      have := h x hx hb
      omega
    rw [hf]
    exact bestS_up d h (by omega)
theorem find_best {S S' : List Pr} {pan : ByteArray} (hg : Good S') (hp : S.Perm S') {b : Option Nat} (h : FindRel S pan S.length b) :
    bestS S' pan (min 8 pan.size) = b.bind fun m => (S[m]?).map (·.2) := by
  cases b with
  | none =>
    have hn := best_any hg pan
    have : (S'.any fun x => begins pan x.1) = false := by
      rw [List.any_eq_false]
      intro x hx
      obtain ⟨i, hi, e⟩ := List.mem_iff_getElem.1 (hp.mem_iff.2 hx)
      have := h i x hi (by rw [List.getElem?_eq_getElem hi, e])
      simp [this]
    rw [this] at hn
    cases hb : bestS S' pan (min 8 pan.size) with
    | none => rfl
    | some z => rw [hb] at hn; cases hn
  | some m =>
    obtain ⟨hm, y, hy, hby, hall⟩ := h
    have hyS : y ∈ S' := hp.mem_iff.1 (List.mem_of_getElem? hy)
    obtain ⟨h1, h8⟩ := hg.1 y hyS
    obtain ⟨hl, he⟩ := begins_extract hby
    obtain ⟨d, hd⟩ : ∃ d, min 8 pan.size = y.1.size + d := ⟨min 8 pan.size - y.1.size, by omega⟩
    rw [hd, bestS_up d (fun x hx hb => by
      obtain ⟨i, hi, e⟩ := List.mem_iff_getElem.1 (hp.mem_iff.2 hx)
      exact hall i x hi (by rw [List.getElem?_eq_getElem hi, e]) hb) (by omega)]
    obtain ⟨q, hq⟩ : ∃ q, y.1.size = q + 1 := ⟨y.1.size - 1, by omega⟩
    rw [hq, bestS, ← hq, he, find_pr hg.2 hyS]
    simp [hy]

/-- 'append([]int{}, x...)' at a plain region's operation: the copy lies in a block of its own. -/
theorem wpList_copy_ints {W : World} {ops : Array Oper} {rest : List Oper} {o : Oper} {a : Act} {Q : Exit → Act → World → Prop} (base : Nat) (hgd : o.guard = none) (s x : Operand)
    (ho : o.op = .call { callee := .builtin .append, args := #[s, x], argTypes := #[28, 28] })
    (g : Nat) (hs : a.eval s = .slice (some ⟨g, 0, none⟩) 0 0) (hg : W.heap[g]? = some (.cells #[] 3 (0, 0))) (hbg : base ≤ g) (A : Option Addr) (m c : Nat) (xs : List Int) (hx : a.eval x = .slice A m c) (hi : IntsAt W A m xs) (h8 : m * 8 ≤ 140737488355328)
    (h : ∀ B d w', w'.ownsRow base 3 1 (.slice B m d) m (xs.map (Value.int .i64)) → W.grownBy w' (some g) → wpList Tryd.prog ops Q rest (a.put o.dst (.slice B m d)) w') : wpList Tryd.prog ops Q (o :: rest) a W := by
  obtain ⟨i0, hi0, hzz⟩ := Option.map_eq_some_iff.1 infoInt
  simp only [Prod.mk.injEq] at hzz
  obtain ⟨hz0, hz1, hz2⟩ := hzz
  have hlt : g < W.heap.size := (Array.getElem?_eq_some_iff.1 hg).1
  refine wpList_append_row hgd s x 28 ho base 3 i0 _ 1 8 Tryd.underlying28 hi0 hz0 hz1 hz2 rfl (by omega) _ 0 [] hs ⟨rfl, .inr ⟨g, 0, #[], rfl, hbg, hg, Nat.le_refl _, Nat.zero_le _, rfl, rfl⟩⟩ A m c (xs.map (Value.int .i64)) hx (by simp [hi.1]) (ints_news hi).1 (ints_news hi).2 (by simp; intros; rfl) (by simp only [maxLen]; omega) (by omega) (by omega) ?_
  rintro v' w' ⟨ho, hgr, _⟩
  rw [Nat.zero_add, List.nil_append] at ho
  obtain ⟨B, d, rfl, _⟩ := own_shape ho
  exact h B d w' ho hgr
theorem begins_yes {pan p : ByteArray} (h1 : p.size ≤ pan.size) (h2 : (pan.extract 0 p.size).toList = p.toList) : begins pan p = true := by
  rw [← begins_le h1]
  simpa using h2
theorem begins_no {pan p : ByteArray} (h1 : p.size ≤ pan.size) (h2 : ¬ (pan.extract 0 p.size).toList = p.toList) : begins pan p = false := by
  rw [← begins_le h1]
  simpa using h2

def RFound (w w' : World) (e : Ending) (S : List Pr) (pan : ByteArray) : Prop :=
  Below w.heap.size w w' ∧ ∃ b, FindRel S pan S.length b ∧ match b with
  | none => e = .returned (.tuple #[.slice none 0 0, .bool false])
  | some m => ∃ (y : Pr) (v : Value), S[m]? = some y ∧ e = .returned (.tuple #[v, .bool true]) ∧ w'.ownsRow w.heap.size 3 1 v y.2.length (y.2.map (Value.int .i64))

set_option maxHeartbeats 2000000 in
set_option maxRecDepth 100000 in
theorem rfind_any (g : Nat) (mem : Int) (v : Value) (l : List Ent) (pan : ByteArray) (w : World) (h : RTab w g mem v l) (hp : pan.size ≤ 9223372036854775807) (hl32 : l.length ≤ 32) :
    Calls Tryd.prog 19 #[.pointer (some ⟨g, 0, none⟩), .string pan] w fun e w' => RFound w w' e (sh l) pan := by
  obtain ⟨A0, c0, rs, rfl, hrs, hrr, hlc, hcm⟩ := h.2.routes
  have hsl : Hid ((sh l).length = l.length) := by show _ = _; simp [sh]
  obtain ⟨N, hN⟩ : ∃ N, N = l.length := ⟨_, rfl⟩
  rw [← hN] at h hrs hlc hl32 hsl
  have hT := Lib.hid h
  have HRS := Lib.hid hrs
  have HRR := Lib.hid hrr
  have g1 := h.c1
  clear h hrs hrr hN
  unfold maxLen at hcm
  go_enter Tryd.func19, Tryd.ntmps19
  go_wp2
  go_loop [6, 7] (fun bi i => ∃ (k : Nat) (b : Option Nat) (z : Int), k ≤ N ∧ i = .int .i64 k ∧ bi = .int .i64 z ∧ Hid (z = biV b) ∧ Hid (FindRel (sh l) pan k b)) (fun _ i => N - (intOf i).toNat)
  case atStart => exact ⟨0, none, -1, Nat.zero_le _, rfl, rfl, rfl, fun i x hi => absurd hi (by omega)⟩
  case round =>
    obtain ⟨k, b, z, hk, rfl, rfl, hz, hF⟩ := hrel
    by_cases hlt : k < N
    · obtain ⟨r, hr⟩ : ∃ r, rs[k]? = some r := ⟨rs[k]'(by have := HRS.out.1; omega), List.getElem?_eq_getElem _⟩
      obtain ⟨b0, off, rfl, d0, d1⟩ := HRS.out.2.1 _ r hr
      have hrp : r.p.size ≤ maxLen := (HRS.out.2.2 r (List.mem_of_getElem? hr)).1
      unfold maxLen at hrp
      have hat : Hid ((sh l)[k]? = some (r.p, r.xs)) := shAt (w := w) (A0 := none) (N := 0) HRR.out hr
      clear hr d1
      cases b with
      | none =>
        obtain rfl : z = -1 := hz
        go_wp2
        · have h1 : r.p.size ≤ pan.size := by assumption
          have h2 : (pan.extract 0 r.p.size).toList = r.p.toList := by assumption
          exact ⟨⟨k + 1, some k, k, by omega, by go_num, rfl, rfl, findRel_first hF hat.out (begins_yes h1 h2)⟩, by simp [intOf]; omega⟩
        · have h1 : r.p.size ≤ pan.size := by assumption
          have h2 : ¬ (pan.extract 0 r.p.size).toList = r.p.toList := by assumption
          exact ⟨⟨k + 1, none, -1, by omega, by go_num, rfl, rfl, findRel_not hF hat.out (begins_no h1 h2)⟩, by simp [intOf]; omega⟩
        · have h1 : ¬ r.p.size ≤ pan.size := by assumption
          exact ⟨⟨k + 1, none, -1, by omega, by go_num, rfl, rfl, findRel_not hF hat.out (begins_gt h1)⟩, by simp [intOf]; omega⟩
      | some m =>
        obtain rfl : z = (m : Int) := hz
        have hmk : m < N := by have := hF.out.1; omega
        obtain ⟨r2, hr2⟩ : ∃ r2, rs[m]? = some r2 := ⟨rs[m]'(by have := HRS.out.1; omega), List.getElem?_eq_getElem _⟩
        obtain ⟨b2, off2, e2, d2, _⟩ := HRS.out.2.1 _ r2 hr2
        injection e2 with e2
        injection e2 with e3 e4
        subst e3; subst e4
        have hrp2 : r2.p.size ≤ maxLen := (HRS.out.2.2 r2 (List.mem_of_getElem? hr2)).1
        unfold maxLen at hrp2
        have hat2 : Hid ((sh l)[m]? = some (r2.p, r2.xs)) := shAt (w := w) (A0 := none) (N := 0) HRR.out hr2
        clear hr2
        go_wp2
        · have h1 : r.p.size ≤ pan.size := by assumption
          have h2 : (pan.extract 0 r.p.size).toList = r.p.toList := by assumption
          have h3 : (m : Int) < 0 ∨ r2.p.size < r.p.size := by assumption
          exact ⟨⟨k + 1, some k, k, by omega, by go_num, rfl, rfl, findRel_longer hF hat.out hat2.out (begins_yes h1 h2) (show r2.p.size < r.p.size by omega)⟩, by simp [intOf]; omega⟩
        · have h3 : 0 ≤ (m : Int) ∧ ¬ r2.p.size < r.p.size := by assumption
          exact ⟨⟨k + 1, some m, m, by omega, by go_num, rfl, rfl, findRel_shorter hF hat.out hat2.out h3.2⟩, by simp [intOf]; omega⟩
        · have h1 : r.p.size ≤ pan.size := by assumption
          have h2 : ¬ (pan.extract 0 r.p.size).toList = r.p.toList := by assumption
          exact ⟨⟨k + 1, some m, m, by omega, by go_num, rfl, rfl, findRel_not hF hat.out (begins_no h1 h2)⟩, by simp [intOf]; omega⟩
        · have h1 : ¬ r.p.size ≤ pan.size := by assumption
          exact ⟨⟨k + 1, some m, m, by omega, by go_num, rfl, rfl, findRel_not hF hat.out (begins_gt h1)⟩, by simp [intOf]; omega⟩
    · have e : k = N := by omega
      subst e
      cases b with
      | none =>
        obtain rfl : z = -1 := hz
        go_wp2
        go_ret2
        exact ⟨Below.refl _ _, none, by rw [hsl.out]; exact hF, rfl⟩
      | some m =>
        obtain rfl : z = (m : Int) := hz
        have hmk : m < k := hF.out.1
        obtain ⟨r2, hr2⟩ : ∃ r2, rs[m]? = some r2 := ⟨rs[m]'(by have := HRS.out.1; omega), List.getElem?_eq_getElem _⟩
        obtain ⟨b2, off2, rfl, d2, d3⟩ := HRS.out.2.1 _ r2 hr2
        have HOK : Hid (RtOk w r2) := HRS.out.2.2 r2 (List.mem_of_getElem? hr2)
        have hat2 : Hid ((sh l)[m]? = some (r2.p, r2.xs)) := shAt (w := w) (A0 := none) (N := 0) HRR.out hr2
        have gg := fun (o : Obj) => (cell_old (w := w) (i := 1) (o := o) (b := g) hT.out.lt).trans g1
        have dd := fun (o : Obj) => (cell_old (w := w) (o := o) (World.block_lt_of_cell? w _ d3)).trans d3
        clear hr2
        go_wp2_with (at_builtin; go_loud (refine wpList_copy_ints w.heap.size rfl (.tmp 60) (.tmp 68) rfl w.heap.size rfl (by exact heap_alloc_new w _) (Nat.le_refl _) r2.A r2.n r2.c r2.xs rfl (by exact HOK.out.2.1.keep ((Below.refl _ _).alloc (Nat.le_refl _) _)) HOK.out.2.2.2 ?_); intro B d w2 hrow hgr; have HR := Lib.hid hrow; have HG := Lib.hid hgr; clear hrow hgr)
        go_ret2
        refine ⟨below_copy HG.out rfl rfl rfl rfl, some m, by rw [hsl.out]; exact hF, _, _, hat2.out, rfl, ?_⟩
        have hn := HOK.out.2.1.1
        show World.ownsRow _ _ _ _ _ _ _
        rw [hn]
        exact HR.out
end Go.Proofs.YtpbpoddeiocgbaaDoor
