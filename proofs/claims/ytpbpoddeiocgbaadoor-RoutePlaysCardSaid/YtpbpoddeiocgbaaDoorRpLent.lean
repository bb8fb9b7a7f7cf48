/- lent: routes of the call's own. -/
import Derived.Test.YtpbpoddeiocgbaaDoorRpMem
import Derived.Deep.RegionHeldLaw
set_option linter.unusedVariables false
set_option linter.unusedSimpArgs false
namespace Go.Proofs.YtpbpoddeiocgbaaDoor
open Go.RowKit Go.Maps Go.ChangeMaps Go.Sort Go.Shelf

/-- A world that differs by draws alone. -/
theorem grown_drawn {W V w2 : World} {r : Option Nat} (h : W.grownBy w2 r) (h1 : W.os = V.os) (h2 : W.tape = V.tape) (h3 : W.output = V.output) (h4 : W.heap = V.heap) : V.grownBy w2 r :=
  ⟨h.os.trans h1, h.tape.trans h2, h.output.trans h3, by rw [← h4]; exact h.size, fun i hi hp => by rw [← h4]; exact h.block i (by rw [h4]; exact hi) hp⟩
theorem below_copy {W wr w2 : World} (h : W.grownBy w2 (some wr.heap.size)) (h1 : W.os = wr.os) (h2 : W.tape = wr.tape) (h3 : W.output = wr.output) (h4 : W.heap = (wr.alloc (.cells #[] 3)).heap) : Below wr.heap.size wr w2 :=
  ((Below.refl wr.heap.size wr).alloc (Nat.le_refl _) (.cells #[] 3)).grown (grown_drawn (V := wr.alloc (.cells #[] 3)) h h1 h2 h3 h4) (by simp) (fun k e => by injection e with e; omega)
/-- 'append(out, Route{..})' at a region's step. -/
theorem step_append_ent {W : World} {ops : Array Oper} {o : Oper} {a : Act} {K : Act → World → Prop} {Q : Exit → Act → World → Prop} {E : Prop} (base : Nat) (hgd : o.guard = none) (s x : Operand)
    (ho : o.op = .call { callee := .builtin .append, args := #[s, x], argTypes := #[22, 22] })
    (v : Value) (l : List Ent) (t : Ent) (g : Nat) (hs : a.eval s = v) (hx : a.eval x = .slice (some ⟨g, 0, none⟩) 1 1) (hg : W.heap[g]? = some (.cells #[.string t.1, t.2.1] 32 (0, 0))) (h1 : t.2.1.oneCell' = true)
    (HO : W.ownsRow base 32 2 v l.length (flat l)) (hbase : base ≤ g) (hl : (l.length + 1) * 40 ≤ 140737488355328)
    (h : ∀ v1 w1, AppendTo W base 32 2 v (l ++ [t]).length (flat (l ++ [t])) v1 w1 → K (a.put o.dst v1) w1) : if Region.wanted o (yielded ops a.tmps) = true then Oper.wp Tryd.prog o a W K Q else E := by
  obtain ⟨i0, hi, hzz⟩ := Option.map_eq_some_iff.1 infoRoute
  simp only [Prod.mk.injEq] at hzz
  obtain ⟨hz0, hz1, hz2⟩ := hzz
  have hlt : g < W.heap.size := (Array.getElem?_eq_some_iff.1 hg).1
  refine step_append_row hgd s x 22 ho base 32 i0 _ 2 40 Tryd.underlying22 hi hz0 hz1 hz2 rfl (by omega) v l.length (flat l) hs HO (some ⟨g, 0, none⟩) 1 1 (cellsE t) hx rfl (by simp) ?_ ?_ (by simp only [maxLen]; omega) hl (by omega) ?_
  · intro ad e j u hu
    obtain rfl : ad = ⟨g, 0, none⟩ := (Option.some.inj e).symm
    exact World.news_of_block hg j u (by simpa [cellsE] using hu)
  · intro u hu
    simp only [cellsE, List.mem_cons, List.not_mem_nil, or_false] at hu
    rcases hu with rfl | rfl
    · rfl
    · exact h1
  · intro v' w' h'
    refine h v' w' ?_
    have e1 : (l ++ [t]).length = l.length + 1 := by simp
    have e2 : flat (l ++ [t]) = flat l ++ cellsE t := by simp [flat]
    rw [e1, e2]
    exact h'

/-- A row of routes with one more: what was behind the routes lies there too. -/
theorem Ls.more {W : World} {v v1 : Value} {w1 : World} {l : List Ent} {t : Ent} {base : Nat} (h : Ls W v l) (ha : AppendTo W base 32 2 v (l ++ [t]).length (flat (l ++ [t])) v1 w1) (hp : t.1.size ≤ maxLen) (hr : Row W t.2.1 t.2.2) : Ls w1 v1 (l ++ [t]) := by
  refine ⟨ownLow ha.1, fun x hx => ?_⟩
  have hk : ∀ {u : Value} {xs : List Int}, Row W u xs → Row w1 u xs := fun {u xs} hu => ⟨own_turn hu.1 (Turn.of_grown ha.2.1) (fun k hk e => rowNeRoute hu.1 h.1 k e.symm hk), hu.2⟩
  rcases List.mem_append.1 hx with h2 | h2
  · exact ⟨(h.2 x h2).1, hk (h.2 x h2).2⟩
  · obtain rfl : x = t := by simpa using h2
    exact ⟨hp, hk hr⟩

/-- What lent has made of the first k routes. -/
def LentRel (w : World) (rs : List Rt) (k : Nat) (v : Value) (wr : World) : Prop :=
  ∃ l : List Ent, l.length = k ∧ Ls wr v l ∧ sh l = (rts rs).take k ∧ InL (fun i => w.heap.size ≤ i) v l ∧ wr.ownsRow w.heap.size 32 2 v l.length (flat l) ∧ Below w.heap.size w wr
theorem lent_start (w : World) (rs : List Rt) (n : Nat) : LentRel w rs 0 (.slice (some ⟨w.heap.size, 0, none⟩) 0 0) (w.alloc (.cells #[] 32)) :=
  ⟨[], rfl, ⟨empty_own w _ _ (Nat.zero_le _), fun t ht => by cases ht⟩, by simp [sh], ⟨fun k hk => by simp [Value.ownBlock] at hk; omega, fun t ht => by cases ht⟩, empty_own w _ _ (Nat.le_refl _), (Below.refl _ _).alloc (Nat.le_refl _) _⟩

theorem lent_step {w wr w2 w1 : World} {rs : List Rt} {r : Rt} {l : List Ent} {u v1 : Value} {B : Option Addr} {d : Nat} (hr : rs[l.length]? = some r) (hok : RtOk wr r) (hLs : Ls wr u l) (hsh : sh l = (rts rs).take l.length) (hin : InL (fun i => w.heap.size ≤ i) u l)
    (hown : wr.ownsRow w.heap.size 32 2 u l.length (flat l)) (hB : Below w.heap.size w wr) (hb2 : Below wr.heap.size wr w2) (hrow : w2.ownsRow wr.heap.size 3 1 (.slice B r.n d) r.n (r.xs.map (Value.int .i64)))
    (ha : AppendTo (w2.alloc (.cells #[.string r.p, .slice B r.n d] 32)) w.heap.size 32 2 u (l ++ [(r.p, Value.slice B r.n d, r.xs)]).length (flat (l ++ [(r.p, Value.slice B r.n d, r.xs)])) v1 w1) : LentRel w rs (l.length + 1) v1 w1 := by
  have h2 : Ls w2 u l := hLs.below hb2
  have h3 := h2.below ((Below.refl w2.heap.size w2).alloc (Nat.le_refl _) (.cells #[.string r.p, .slice B r.n d] 32))
  have hrl := hok.2.1.1
  have hrow2 : Row (w2.alloc (.cells #[.string r.p, .slice B r.n d] 32)) (.slice B r.n d) r.xs := ⟨(by rw [hrl]; exact ownLow (hrow.alloc _)), by rw [hrl]; exact hok.2.2.2⟩
  have hB3 := (hB.trans (hb2.mono hB.size)).alloc (Nat.le_trans hB.size hb2.size) (.cells #[.string r.p, .slice B r.n d] 32)
  refine ⟨_, by simp, h3.more ha hok.1 hrow2, ?_, ⟨ownBase ha.1, fun t ht => ?_⟩, ha.1, hB3.grown ha.2.1 hB3.size (ownBase hown)⟩
  · have e1 : (rts rs)[l.length]? = some (r.p, r.xs) := by simp [rts, hr]
    rw [List.take_add_one, e1, ← hsh]
    simp [sh]
  · rcases List.mem_append.1 ht with h | h
    · exact hin.2 t h
    · obtain rfl : t = (r.p, Value.slice B r.n d, r.xs) := by simpa using h
      exact fun k hk => Nat.le_trans hB.size (ownBase hrow k hk)

def Lent (w w' : World) (rs : List Pr) (v : Value) : Prop := ∃ l : List Ent, Ls w' v l ∧ sh l = rs ∧ InL (fun i => w.heap.size ≤ i) v l ∧ Below w.heap.size w w'

set_option maxHeartbeats 1000000 in
set_option maxRecDepth 100000 in
theorem lent_any (n c : Nat) (A : Option Addr) (rs : List Rt) (w : World) (hl : RoutesAt w A n rs) (hbig : n * 40 ≤ 140737488355328) :
    Calls Tryd.prog 10 #[.slice A n c] w fun e w' => ∃ v, e = .returned v ∧ Lent w w' (rts rs) v := by
  have hL := Lib.hid hl
  clear hl
  go_enter Tryd.func10, Tryd.ntmps10
  go_wp2
  go_loopw [3, 4] (fun v i wr => ∃ k : Nat, k ≤ n ∧ i = .int .i64 k ∧ LentRel w rs k v wr) (fun _ i _ => n - (intOf i).toNat)
  case atStart => exact ⟨0, Nat.zero_le _, rfl, lent_start w rs n⟩
  case round =>
    obtain ⟨k, hk, rfl, hR⟩ := hrel
    by_cases hlt : k < n
    · obtain ⟨l, rfl, hLs, hsh, hin, hown, hB⟩ := hR
      obtain ⟨r, hr⟩ : ∃ r, rs[l.length]? = some r := ⟨rs[l.length]'(by have := hL.out.1; omega), List.getElem?_eq_getElem _⟩
      obtain ⟨b0, off, rfl, c0, c1⟩ := (hL.out.keep hB).2.1 _ r hr
      have hok : RtOk wr r := (hL.out.keep hB).2.2 r (List.mem_of_getElem? hr)
      have HR := Lib.hid hr
      have HOK := Lib.hid hok
      have HLS := Lib.hid hLs
      have HSH := Lib.hid hsh
      have HIN := Lib.hid hin
      have HOWN := Lib.hid hown
      clear hr hok hLs hsh hin hown
      have hb0 : b0 < wr.heap.size := World.block_lt_of_cell? wr _ c0
      have c0' := (World.cell?_alloc_lt wr (.cells #[] 3) ⟨b0, off + l.length * 2, none⟩ hb0).trans c0
      have c1' := (World.cell?_alloc_lt wr (.cells #[] 3) ⟨b0, off + l.length * 2 + 1, none⟩ hb0).trans c1
      go_wp2
      go_region_law (first | (refine step_copy_ints wr.heap.size rfl (.tmp 18) (.tmp 23) rfl wr.heap.size (by simp [Act.eval, Act.put]) (by exact heap_alloc_new wr _) (Nat.le_refl _) r.A r.n r.c r.xs (by simp [Act.eval, Act.put]) (by exact IntsAt.keep (w' := wr.alloc (.cells #[] 3)) HOK.out.2.1 ((Below.refl _ _).alloc (Nat.le_refl _) _)) HOK.out.2.2.2 ?_; intro B d w2 hrow2 hgr2; have c0'' := (hgr2.cell_far ⟨b0, off + l.length * 2, none⟩ (by simp; omega) (by simp; omega)).trans c0'; have hb2 : Below wr.heap.size wr w2 := (by exact below_copy hgr2 rfl rfl rfl rfl); have HR2 := Lib.hid hrow2; clear hrow2 hgr2) | (refine step_append_ent w.heap.size rfl (.tmp 12) (.tmp 26) rfl u3 l (r.p, .slice B r.n d, r.xs) w2.heap.size (by simp [Act.eval, Act.put]) (by simp [Act.eval, Act.put]) (by exact heap_alloc_new w2 _) rfl (by exact (own_turn HOWN.out (Turn.of_below hb2) HLS.out.lt.1).alloc _) (Nat.le_trans hB.size hb2.size) (by omega) ?_; intro v1 w1 ha; have HA := Lib.hid ha; clear ha))
      all_goals go_wp2
      all_goals go_round
      all_goals first | exact ⟨l.length + 1, by omega, by go_num, lent_step HR.out HOK.out HLS.out HSH.out HIN.out HOWN.out hB hb2 HR2.out (by exact HA.out)⟩ | (simp [intOf]; omega)
    · have e : k = n := by omega
      subst e
      obtain ⟨l, hlen, hLs, hsh, hin, hown, hB⟩ := hR
      have HLS := Lib.hid hLs
      have HSH := Lib.hid hsh
      have HIN := Lib.hid hin
      clear hLs hsh hin hown
      go_wp2
      go_ret
      refine ⟨_, rfl, l, HLS.out, ?_, HIN.out, hB⟩
      rw [HSH.out, List.take_of_length_le (by simp [rts, hL.out.1])]
end Go.Proofs.YtpbpoddeiocgbaaDoor
