/- RoutePlays: rows of routes that lie in memory of the calls' own, what a call may turn, and an append of any row. -/
import Derived.Test.YtpbpoddeiocgbaaDoorRoOwn
import Derived.Deep.RegionLaw
import Derived.Laws.OwnMore
set_option linter.unusedVariables false
set_option linter.unusedSimpArgs false
namespace Go.Proofs.YtpbpoddeiocgbaaDoor
open Go.RowKit Go.Maps Go.ChangeMaps Go.Sort Go.Shelf

/-- What a call may turn: the blocks in P stand. -/
structure Turn (P : Nat → Prop) (w w' : World) : Prop where
  os : w'.os = w.os
  tape : w'.tape = w.tape
  output : w'.output = w.output
  size : w.heap.size ≤ w'.heap.size
  block : ∀ i, i < w.heap.size → P i → w'.heap[i]? = w.heap[i]?

theorem Turn.refl (P : Nat → Prop) (w : World) : Turn P w w := ⟨rfl, rfl, rfl, Nat.le_refl _, fun _ _ _ => rfl⟩
theorem Turn.trans {P : Nat → Prop} {a b c : World} (h : Turn P a b) (h2 : Turn P b c) : Turn P a c :=
  ⟨h2.os.trans h.os, h2.tape.trans h.tape, h2.output.trans h.output, Nat.le_trans h.size h2.size, fun i hi hp => (h2.block i (Nat.lt_of_lt_of_le hi h.size) hp).trans (h.block i hi hp)⟩
theorem Turn.mono {P Q : Nat → Prop} {a b : World} (h : Turn P a b) (hq : ∀ i, i < a.heap.size → Q i → P i) : Turn Q a b :=
  ⟨h.os, h.tape, h.output, h.size, fun i hi hp => h.block i hi (hq i hi hp)⟩
theorem Turn.of_below {B : Nat} {a b : World} (h : Below B a b) : Turn (fun i => i < B) a b := ⟨h.os, h.tape, h.output, h.size, fun i _ hp => h.block i hp⟩
theorem Turn.of_grown {r : Option Nat} {a b : World} (h : a.grownBy b r) : Turn (fun i => some i ≠ r) a b := ⟨h.os, h.tape, h.output, h.size, fun i hi hp => h.block i hi hp⟩
theorem Turn.below {P : Nat → Prop} {B : Nat} {a b : World} (h : Turn P a b) (hB : B ≤ a.heap.size) (hP : ∀ i, i < B → P i) : Below B a b := ⟨h.os, h.tape, h.output, h.size, fun i hi => h.block i (Nat.lt_of_lt_of_le hi hB) (hP i hi)⟩

theorem own_turn {P : Nat → Prop} {w w' : World} {base : Nat} {e : TypeId} {size n : Nat} {v : Value} {xs : List Value} (h : w.ownsRow base e size v n xs) (ht : Turn P w w') (hp : ∀ k, v.ownBlock = some k → P k) : w'.ownsRow base e size v n xs :=
  ⟨h.1, h.2.imp id fun ⟨g, cap, cur, a, hb, hh, r⟩ => ⟨g, cap, cur, a, hb, (ht.block g (Array.getElem?_eq_some_iff.1 hh).1 (hp g (by rw [a]; rfl))).trans hh, r⟩⟩
theorem own_lt {w : World} {base : Nat} {e : TypeId} {size n : Nat} {v : Value} {xs : List Value} (h : w.ownsRow base e size v n xs) (k : Nat) (hk : v.ownBlock = some k) : k < w.heap.size := by
  rcases h.2 with ⟨rfl, _⟩ | ⟨g, cap, cur, rfl, _, hh, _⟩
  · cases hk
  · have : g = k := by simpa [Value.ownBlock] using hk
    subst this
    exact (Array.getElem?_eq_some_iff.1 hh).1

/-- A row of numbers, a row of routes. -/
def Row (w : World) (v : Value) (xs : List Int) : Prop := w.ownsRow 0 3 1 v xs.length (xs.map (Value.int .i64)) ∧ xs.length * 8 ≤ 140737488355328
def Ls (w : World) (v : Value) (l : List Ent) : Prop := w.ownsRow 0 32 2 v l.length (flat l) ∧ ∀ t ∈ l, t.1.size ≤ maxLen ∧ Row w t.2.1 t.2.2
/-- All blocks of a row of routes are in P. -/
def InL (P : Nat → Prop) (v : Value) (l : List Ent) : Prop := (∀ k, v.ownBlock = some k → P k) ∧ ∀ t ∈ l, ∀ k, t.2.1.ownBlock = some k → P k
theorem InL.mono {P Q : Nat → Prop} {v : Value} {l : List Ent} (h : InL P v l) (hq : ∀ i, P i → Q i) : InL Q v l := ⟨fun k hk => hq k (h.1 k hk), fun t ht k hk => hq k (h.2 t ht k hk)⟩
theorem Ls.lt {w : World} {v : Value} {l : List Ent} (h : Ls w v l) : InL (fun i => i < w.heap.size) v l := ⟨own_lt h.1, fun t ht => own_lt (h.2 t ht).2.1⟩
theorem Ls.turn {P : Nat → Prop} {w w' : World} {v : Value} {l : List Ent} (h : Ls w v l) (ht : Turn P w w') (hi : InL P v l) : Ls w' v l :=
  ⟨own_turn h.1 ht hi.1, fun t hm => ⟨(h.2 t hm).1, own_turn (h.2 t hm).2.1 ht (hi.2 t hm), (h.2 t hm).2.2⟩⟩
theorem Ls.below {w w' : World} {v : Value} {l : List Ent} (h : Ls w v l) (hb : Below w.heap.size w w') : Ls w' v l := h.turn (Turn.of_below hb) h.lt
theorem Ls.nil (w : World) : Ls w (.slice none 0 0) [] := ⟨World.ownsRow_nil _ _ _ _, fun t ht => by cases ht⟩
theorem MemRow.row {w : World} {v : Value} {xs : List Int} (h : MemRow w v xs) : Row w v xs := ⟨h.1, h.2.2⟩
theorem Row.ints {w : World} {v : Value} {xs : List Int} (h : Row w v xs) : ∃ A c, v = .slice A xs.length c ∧ IntsAt w A xs.length xs ∧ xs.length ≤ c := by
  obtain ⟨⟨hl, hv⟩, _⟩ := h
  rcases hv with ⟨rfl, h0⟩ | ⟨g, cap, cur, rfl, hb, hh, hnc, hr⟩
  · exact ⟨none, 0, by rw [h0], ⟨rfl, fun h => absurd h (by omega)⟩, by omega⟩
  · refine ⟨_, cap, rfl, ⟨rfl, fun _ => ⟨g, 0, rfl, fun j hj => ?_⟩⟩, hnc⟩
    have ho : w.ownsRow 0 3 1 (.slice (some ⟨g, 0, none⟩) xs.length cap) xs.length (xs.map (Value.int .i64)) := ⟨hl, .inr ⟨g, cap, cur, rfl, hb, hh, hnc, hr⟩⟩
    have := ho.cellAt j (by omega)
    rw [Nat.zero_add, this]
    simp [List.getElem?_eq_getElem hj, List.getD_eq_getElem?_getD]
theorem flat_at {l : List Ent} {i : Nat} {t : Ent} (h : l[i]? = some t) : (flat l)[i * 2]? = some (.string t.1) ∧ (flat l)[i * 2 + 1]? = some t.2.1 := by
  induction l generalizing i with
  | nil => cases h
  | cons x r ih =>
    have e : flat (x :: r) = .string x.1 :: x.2.1 :: flat r := rfl
    rw [e]
    cases i with
    | zero => obtain rfl := Option.some.inj h; exact ⟨rfl, rfl⟩
    | succ j =>
      have h2 := ih (i := j) h
      rw [show (j + 1) * 2 = j * 2 + 1 + 1 by omega]
      exact h2
theorem flat_len (l : List Ent) : (flat l).length = l.length * 2 := by
  induction l with
  | nil => rfl
  | cons x r ih =>
    have e : flat (x :: r) = .string x.1 :: x.2.1 :: flat r := rfl
    rw [e, List.length_cons, List.length_cons, ih, List.length_cons]
    omega

/-- A row of routes of the call's own, as a list that came in. -/
theorem Ls.routes {w : World} {v : Value} {l : List Ent} (h : Ls w v l) : ∃ A c rs, v = .slice A l.length c ∧ RoutesAt w A l.length rs ∧ rts rs = sh l ∧ l.length ≤ c ∧ c ≤ maxLen := by
  have hr : ∀ t ∈ l, ∃ r : Rt, r.p = t.1 ∧ r.xs = t.2.2 ∧ t.2.1 = .slice r.A r.n r.c ∧ RtOk w r := by
    intro t ht
    obtain ⟨A, c, e, hi, hc⟩ := (h.2 t ht).2.ints
    exact ⟨⟨t.1, A, t.2.2.length, c, t.2.2⟩, rfl, rfl, e, (h.2 t ht).1, hi, hc, (h.2 t ht).2.2⟩
  have hrs : ∀ l' : List Ent, (∀ t ∈ l', t ∈ l) → ∃ rs : List Rt, rs.length = l'.length ∧ rts rs = sh l' ∧ (∀ (i : Nat) (r : Rt), rs[i]? = some r → ∃ t : Ent, l'[i]? = some t ∧ r.p = t.1 ∧ t.2.1 = .slice r.A r.n r.c) ∧ ∀ r ∈ rs, RtOk w r := by
    intro l'
    induction l' with
    | nil => exact fun _ => ⟨[], rfl, rfl, fun i r hi => by simp at hi, by simp⟩
    | cons t l' ih =>
      intro hm
      obtain ⟨rs, h1, h2, h3, h4⟩ := ih fun t ht => hm t (List.mem_cons_of_mem _ ht)
      obtain ⟨r, e1, e2, e3, hok⟩ := hr t (hm t List.mem_cons_self)
      refine ⟨r :: rs, by simp [h1], ?_, fun i r' hi => ?_, fun r' hr' => ?_⟩
      · show (r.p, r.xs) :: rts rs = (t.1, t.2.2) :: sh l'
        rw [e1, e2, h2]
      · cases i with
        | zero => obtain rfl := Option.some.inj hi; exact ⟨t, rfl, e1, e3⟩
        | succ j => exact h3 j r' hi
      · rcases List.mem_cons.1 hr' with rfl | h
        · exact hok
        · exact h4 r' h
  obtain ⟨rs, h1, h2, h3, h4⟩ := hrs l fun t ht => ht
  rcases h.1.2 with ⟨rfl, h0⟩ | ⟨g, cap, cur, rfl, hb, hh, hnc, hcm, hr⟩
  · have e0 : rs = [] := List.eq_nil_of_length_eq_zero (by omega)
    subst e0
    exact ⟨none, 0, [], by rw [h0], ⟨by rw [h0]; rfl, fun i r hi => by simp at hi, by simp⟩, h2, by omega, by omega⟩
  · refine ⟨_, cap, rs, rfl, ⟨h1, fun i r hi => ?_, h4⟩, h2, hnc, hcm⟩
    obtain ⟨t, ht, e1, e2⟩ := h3 i r hi
    have hil : i < l.length := (List.getElem?_eq_some_iff.1 ht).1
    have ho : w.ownsRow 0 32 2 (.slice (some ⟨g, 0, none⟩) l.length cap) l.length (flat l) := ⟨h.1.1, .inr ⟨g, cap, cur, rfl, hb, hh, hnc, hcm, hr⟩⟩
    obtain ⟨f0, f1⟩ := flat_at ht
    refine ⟨g, 0, rfl, ?_, ?_⟩
    · rw [Nat.zero_add, ho.cellAt _ (by omega), f0, e1]
    · rw [Nat.zero_add, ho.cellAt _ (by omega), f1, e2]

/-! ### an append of any row -/
theorem run_append_row (W : World) {P : Program} (base : Nat) (t ty e : TypeId) (i : TypeInfo) (z : Value) (size bytes : Nat) (ht : P.underlying t = some (.slice e)) (hi : P.info? e = some i) (hz : i.zero = some z)
    (hsize : i.size = size) (hby : i.bytes = bytes) (hzs : z.cells.size = size) (hsz : 0 < size)
    (v : Value) (n : Nat) (xs : List Value) (hown : W.ownsRow base e size v n xs) (A : Option Addr) (m c : Nat) (news : List Value) (hl : news.length = m * size)
    (hnews : A = none → m = 0) (hnews2 : ∀ ad, A = some ad → ∀ j u, news[j]? = some u → W.cell? (ad.add j) = some u) (h1 : ∀ u ∈ news, u.oneCell' = true)
    (h63 : n + m ≤ maxLen) (hbytes : (n + m) * bytes ≤ 140737488355328) (hbase : base ≤ W.heap.size) :
    ∃ v' w', (Builtin.append_ #[t, t] ty #[v, .slice A m c]).run P W = .ok v' w' ∧ w'.ownsRow base e size v' (n + m) (xs ++ news) ∧ W.grownBy w' v.ownBlock ∧ (v'.ownBlock = v.ownBlock ∨ v'.ownBlock = some W.heap.size) := by
  cases A with
  | some ad =>
    obtain ⟨v', w', hr, h2, h3, _, h5⟩ := run_append_own_at (P := P) W base t ty e i z size bytes ht hi hz hsize hby hzs hsz v n xs hown ad m c news hl (hnews2 ad rfl) h1 h63 hbytes hbase
    exact ⟨v', w', hr, h2, h3, h5⟩
  | none =>
    have hm0 : m = 0 := hnews rfl
    subst hm0
    obtain rfl : news = [] := List.eq_nil_of_length_eq_zero (by simpa using hl)
    refine ⟨v, W, ?_, by simpa using hown, ⟨rfl, rfl, rfl, Nat.le_refl _, fun _ _ _ => rfl⟩, .inl rfl⟩
    rcases hown.2 with ⟨rfl, rfl⟩ | ⟨g, cap, cur, rfl, _, _, hnc, _⟩
    · simp [Builtin.append_, run_underlying ht, sizeOf, typeInfo, hi, Builtin.lenOf, Builtin.firstCells]
    · simp [Builtin.append_, run_underlying ht, sizeOf, typeInfo, hi, Builtin.lenOf, Builtin.firstCells, hnc, storeCells]

def AppendTo (W : World) (base : Nat) (e : TypeId) (size : Nat) (v : Value) (n : Nat) (xs : List Value) (v' : Value) (w' : World) : Prop :=
  w'.ownsRow base e size v' n xs ∧ W.grownBy w' v.ownBlock ∧ (v'.ownBlock = v.ownBlock ∨ v'.ownBlock = some W.heap.size)

theorem wpList_append_row {W : World} {P : Program} {ops : Array Oper} {rest : List Oper} {o : Oper} {a : Act} {Q : Exit → Act → World → Prop} (hgd : o.guard = none) (s x : Operand) (t : TypeId)
    (ho : o.op = .call { callee := .builtin .append, args := #[s, x], argTypes := #[t, t] })
    (base : Nat) (e : TypeId) (i : TypeInfo) (z : Value) (size bytes : Nat) (ht : P.underlying t = some (.slice e)) (hi : P.info? e = some i) (hz : i.zero = some z)
    (hsize : i.size = size) (hby : i.bytes = bytes) (hzs : z.cells.size = size) (hsz : 0 < size)
    (v : Value) (n : Nat) (xs : List Value) (hs : a.eval s = v) (hown : W.ownsRow base e size v n xs) (A : Option Addr) (m c : Nat) (news : List Value) (hx : a.eval x = .slice A m c) (hl : news.length = m * size)
    (hnews : A = none → m = 0) (hnews2 : ∀ ad, A = some ad → ∀ j u, news[j]? = some u → W.cell? (ad.add j) = some u) (h1 : ∀ u ∈ news, u.oneCell' = true)
    (h63 : n + m ≤ maxLen) (hbytes : (n + m) * bytes ≤ 140737488355328) (hbase : base ≤ W.heap.size)
    (h : ∀ v' w', AppendTo W base e size v (n + m) (xs ++ news) v' w' → wpList P ops Q rest (a.put o.dst v') w') : wpList P ops Q (o :: rest) a W := by
  refine wpList_plain hgd fun K hK => ?_
  obtain ⟨v', w', hr, h2, h3, h4⟩ := run_append_row W (P := P) base t o.type e i z size bytes ht hi hz hsize hby hzs hsz v n xs hown A m c news hl hnews hnews2 h1 h63 hbytes hbase
  unfold Oper.wp execOp
  simp only [ho, resolve, invoke, builtin, Sem.run_bind, Sem.run_pure, Result.andThen_ok, List.map_toArray, List.map_cons, List.map_nil, hs, hx, hr]
  exact hK _ _ (h v' w' ⟨h2, h3, h4⟩)
theorem step_append_row {W : World} {P : Program} {ops : Array Oper} {o : Oper} {a : Act} {K : Act → World → Prop} {Q : Exit → Act → World → Prop} {E : Prop} (hgd : o.guard = none) (s x : Operand) (t : TypeId)
    (ho : o.op = .call { callee := .builtin .append, args := #[s, x], argTypes := #[t, t] })
    (base : Nat) (e : TypeId) (i : TypeInfo) (z : Value) (size bytes : Nat) (ht : P.underlying t = some (.slice e)) (hi : P.info? e = some i) (hz : i.zero = some z)
    (hsize : i.size = size) (hby : i.bytes = bytes) (hzs : z.cells.size = size) (hsz : 0 < size)
    (v : Value) (n : Nat) (xs : List Value) (hs : a.eval s = v) (hown : W.ownsRow base e size v n xs) (A : Option Addr) (m c : Nat) (news : List Value) (hx : a.eval x = .slice A m c) (hl : news.length = m * size)
    (hnews : A = none → m = 0) (hnews2 : ∀ ad, A = some ad → ∀ j u, news[j]? = some u → W.cell? (ad.add j) = some u) (h1 : ∀ u ∈ news, u.oneCell' = true)
    (h63 : n + m ≤ maxLen) (hbytes : (n + m) * bytes ≤ 140737488355328) (hbase : base ≤ W.heap.size)
    (h : ∀ v' w', AppendTo W base e size v (n + m) (xs ++ news) v' w' → K (a.put o.dst v') w') : if Region.wanted o (yielded ops a.tmps) = true then Oper.wp P o a W K Q else E := by
  have hw : Region.wanted o (yielded ops a.tmps) = true := by simp [Region.wanted, hgd]
  rw [if_pos hw]
  obtain ⟨v', w', hr, h2, h3, h4⟩ := run_append_row W (P := P) base t o.type e i z size bytes ht hi hz hsize hby hzs hsz v n xs hown A m c news hl hnews hnews2 h1 h63 hbytes hbase
  unfold Oper.wp execOp
  simp only [ho, resolve, invoke, builtin, Sem.run_bind, Sem.run_pure, Result.andThen_ok, List.map_toArray, List.map_cons, List.map_nil, hs, hx, hr]
  exact h v' w' ⟨h2, h3, h4⟩

theorem infoInt : (Tryd.prog.info? 3).map (fun i => (i.zero, i.size, i.bytes)) = some (some (.int .i64 0), 1, 8) := by kernel_rfl
theorem ints_news {w : World} {A : Option Addr} {n : Nat} {xs : List Int} (h : IntsAt w A n xs) : (A = none → n = 0) ∧ ∀ ad, A = some ad → ∀ j u, (xs.map (Value.int .i64))[j]? = some u → w.cell? (ad.add j) = some u := by
  constructor
  · intro e
    rcases Nat.eq_zero_or_pos n with h0 | h0
    · exact h0
    · obtain ⟨b, off, e2, _⟩ := h.2 h0
      rw [e] at e2; cases e2
  · intro ad e j u hu
    have hj : j < xs.length := by
      have := (List.getElem?_eq_some_iff.1 hu).1
      simpa using this
    obtain ⟨b, off, e2, hc⟩ := h.2 (by rw [← h.1]; omega)
    rw [e] at e2
    injection e2 with e2
    subst e2
    have e3 : (⟨b, off, none⟩ : Addr).add j = ⟨b, off + j, none⟩ := by unfold Addr.add; split <;> simp_all
    rw [e3, hc j (by rw [← h.1]; exact hj)]
    rw [List.getElem?_map, List.getElem?_eq_getElem hj] at hu
    rw [← hu, List.getD_eq_getElem?_getD, List.getElem?_eq_getElem hj]
    rfl
theorem empty_own {base : Nat} (w : World) (e : TypeId) (size : Nat) (hb : base ≤ w.heap.size) : (w.alloc (.cells #[] e)).ownsRow base e size (.slice (some ⟨w.heap.size, 0, none⟩) 0 0) 0 [] :=
  World.ownsRow_lit w #[] 0 hb (by decide) (by simp)

/-- 'append([]int{}, x...)' at a region's step: the copy lies in a block of its own. -/
theorem step_copy_ints {W : World} {ops : Array Oper} {o : Oper} {a : Act} {K : Act → World → Prop} {Q : Exit → Act → World → Prop} {E : Prop} (base : Nat) (hgd : o.guard = none) (s x : Operand)
    (ho : o.op = .call { callee := .builtin .append, args := #[s, x], argTypes := #[28, 28] })
    (g : Nat) (hs : a.eval s = .slice (some ⟨g, 0, none⟩) 0 0) (hg : W.heap[g]? = some (.cells #[] 3 (0, 0))) (hbg : base ≤ g) (A : Option Addr) (m c : Nat) (xs : List Int) (hx : a.eval x = .slice A m c) (hi : IntsAt W A m xs) (h8 : m * 8 ≤ 140737488355328)
    (h : ∀ B d w', w'.ownsRow base 3 1 (.slice B m d) m (xs.map (Value.int .i64)) → W.grownBy w' (some g) → K (a.put o.dst (.slice B m d)) w') : if Region.wanted o (yielded ops a.tmps) = true then Oper.wp Tryd.prog o a W K Q else E := by
  obtain ⟨i0, hi0, hzz⟩ := Option.map_eq_some_iff.1 infoInt
  simp only [Prod.mk.injEq] at hzz
  obtain ⟨hz0, hz1, hz2⟩ := hzz
  have hlt : g < W.heap.size := (Array.getElem?_eq_some_iff.1 hg).1
  refine step_append_row hgd s x 28 ho base 3 i0 _ 1 8 Tryd.underlying28 hi0 hz0 hz1 hz2 rfl (by omega) _ 0 [] hs ⟨rfl, .inr ⟨g, 0, #[], rfl, hbg, hg, Nat.le_refl _, Nat.zero_le _, rfl, rfl⟩⟩ A m c (xs.map (Value.int .i64)) hx (by simp [hi.1]) (ints_news hi).1 (ints_news hi).2 (by simp; intros; rfl) (by simp only [maxLen]; omega) (by omega) (by omega) ?_
  rintro v' w' ⟨ho, hgr, _⟩
  rw [Nat.zero_add, List.nil_append] at ho
  obtain ⟨B, d, rfl, _⟩ := own_shape ho
  exact h B d w' ho hgr
end Go.Proofs.YtpbpoddeiocgbaaDoor
