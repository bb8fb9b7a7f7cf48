/- The reference's Clone. -/
import Derived.Test.YtpbpoddeiocgbaaDoorRpRef
set_option linter.unusedVariables false
set_option linter.unusedSimpArgs false
namespace Go.Proofs.YtpbpoddeiocgbaaDoor
open Go.RowKit Go.Maps Go.ChangeMaps Go.Sort Go.Shelf

theorem step_append_rts {W : World} {ops : Array Oper} {o : Oper} {a : Act} {K : Act → World → Prop} {Q : Exit → Act → World → Prop} {E : Prop} (base : Nat) (hgd : o.guard = none) (s x : Operand)
    (ho : o.op = .call { callee := .builtin .append, args := #[s, x], argTypes := #[22, 22] })
    (v : Value) (l1 : List Ent) (hs : a.eval s = v) (HO : W.ownsRow base 32 2 v l1.length (flat l1)) (A : Option Addr) (m c : Nat) (l2 : List Ent) (hx : a.eval x = .slice A m c) (hl2 : l2.length = m)
    (hsrc : (A = none → m = 0) ∧ ∀ ad, A = some ad → ∀ j u, (flat l2)[j]? = some u → W.cell? (ad.add j) = some u) (h1 : ∀ t ∈ l2, t.2.1.oneCell' = true) (hl : (l1.length + m) * 40 ≤ 140737488355328) (hbase : base ≤ W.heap.size)
    (h : ∀ v1 w1, AppendTo W base 32 2 v (l1 ++ l2).length (flat (l1 ++ l2)) v1 w1 → K (a.put o.dst v1) w1) : if Region.wanted o (yielded ops a.tmps) = true then Oper.wp Tryd.prog o a W K Q else E := by
  obtain ⟨i0, hi, hzz⟩ := Option.map_eq_some_iff.1 infoRoute
  simp only [Prod.mk.injEq] at hzz
  obtain ⟨hz0, hz1, hz2⟩ := hzz
  refine step_append_row hgd s x 22 ho base 32 i0 _ 2 40 Tryd.underlying22 hi hz0 hz1 hz2 rfl (by omega) v l1.length (flat l1) hs HO A m c (flat l2) hx (by rw [flat_len, hl2]) hsrc.1 hsrc.2 ?_ (by simp only [maxLen]; omega) hl hbase ?_
  · intro u hu
    obtain ⟨t, ht, hu⟩ := List.mem_flatMap.1 hu
    simp only [cellsE, List.mem_cons, List.not_mem_nil, or_false] at hu
    rcases hu with rfl | rfl
    · rfl
    · exact h1 t ht
  · intro v' w' h'
    refine h v' w' ?_
    have e1 : (l1 ++ l2).length = l1.length + m := by simp [hl2]
    have e2 : flat (l1 ++ l2) = flat l1 ++ flat l2 := by simp [flat]
    rw [e1, e2]
    exact h'
/-- The cells of a whole row of routes. -/
theorem Ls.srcAll {W : World} {A : Option Addr} {n c : Nat} {l : List Ent} (h : Ls W (.slice A n c) l) : l.length = n ∧ (A = none → n = 0) ∧ ∀ ad, A = some ad → ∀ j u, (flat l)[j]? = some u → W.cell? (ad.add j) = some u := by
  rcases h.1.2 with ⟨e, h0⟩ | ⟨b, cap, cur, e, _⟩
  · injection e with e1 e2 e3
    subst e1
    exact ⟨by omega, fun _ => e2, fun ad e => by cases e⟩
  · injection e with e1 e2 e3
    subst e1; subst e3
    have := h.src e2 0 n l (fun j u h => by rw [Nat.zero_add]; exact h)
    exact ⟨e2.symm, fun e => (by cases e), this.2⟩
theorem append_base {W w' : World} {base : Nat} {e : TypeId} {size n : Nat} {v v' : Value} {xs : List Value} {B : Nat} (h : AppendTo W base e size v n xs v' w') (hv : ∀ k, v.ownBlock = some k → B ≤ k) (hB : B ≤ W.heap.size) (k : Nat) (hk : v'.ownBlock = some k) : B ≤ k := by
  rcases h.2.2 with e | e
  · exact hv k (by rw [← e]; exact hk)
  · rw [e] at hk
    injection hk with hk
    omega
def Cloned (g : Nat) (mem : Int) (l : List Ent) (w w' : World) (e : Ending) : Prop :=
  Below w.heap.size w w' ∧ ∃ g' v', e = .returned (.pointer (some ⟨g', 0, none⟩)) ∧ RTab w' g' mem v' l ∧ w.heap.size ≤ g' ∧ ∀ k, v'.ownBlock = some k → w.heap.size ≤ k
theorem cloned_mk {g : Nat} {mem : Int} {v v2 : Value} {l : List Ent} {w w2 : World} {b : Nat} (hT : RTab w g mem v l) (hb2 : Below w.heap.size w w2) (hv2 : ∀ k, v2.ownBlock = some k → w.heap.size ≤ k) (hO : w2.ownsRow w.heap.size 32 2 v2 l.length (flat l)) (hb : b = w2.heap.size) :
    Cloned g mem l w (w2.alloc (.cells #[.int .i64 mem, v2] 50)) (.returned (.pointer (some ⟨b, 0, none⟩))) := by
  subst hb
  have hB := hb2.alloc hb2.size (.cells #[.int .i64 mem, v2] 50)
  refine ⟨hB, _, v2, rfl, ⟨heap_alloc_new _ _, (ownLow hO).alloc _, fun t ht => ?_⟩, hb2.size, hv2⟩
  exact (hT.2.below hB).2 t ht

set_option maxHeartbeats 2000000 in
set_option maxRecDepth 100000 in
theorem rclone_any (g : Nat) (mem : Int) (v : Value) (l : List Ent) (w : World) (h : RTab w g mem v l) (hl32 : l.length ≤ 32) :
    Calls Tryd.prog 14 #[.pointer (some ⟨g, 0, none⟩)] w fun e w' => Cloned g mem l w w' e := by
  obtain ⟨A0, N, c0, rfl⟩ := own_slice h.2.1
  have hT := Lib.hid h
  clear h
  go_enter Tryd.func14, Tryd.ntmps14
  have g0 := hT.out.c0
  have g1 := hT.out.c1
  have gg0 := (cell_old (w := w) (i := 0) (o := .cells #[] 32) (b := g) hT.out.lt).trans g0
  have gg1 := (cell_old (w := w) (i := 1) (o := .cells #[] 32) (b := g) hT.out.lt).trans g1
  go_wp2
  go_region_law (refine step_append_rts w.heap.size rfl (.tmp 7) (.tmp 11) rfl (.slice (some ⟨w.heap.size, 0, none⟩) 0 0) [] (by simp [Act.eval, Act.put]) (by exact empty_own w _ _ (Nat.le_refl _)) A0 N c0 l (by simp [Act.eval, Act.put]) hT.out.2.srcAll.1 (by exact (hT.out.2.below ((Below.refl _ _).alloc (Nat.le_refl _) (.cells #[] 32))).srcAll.2) hT.out.2.oneCell (by have := hT.out.2.srcAll.1; simp only [List.length_nil]; omega) (by exact ((Below.refl w.heap.size w).alloc (Nat.le_refl _) (.cells #[] 32)).size) ?_; intro v2 w2 ha2; have hb2 : Below w.heap.size w w2 := (by exact below_append (wr := w) ha2 rfl rfl rfl (show Below w.heap.size w (World.drew _) from (((Below.refl w.heap.size w).alloc (Nat.le_refl _) (.cells #[] 32)).trans (below_drewN0' _ 1))) (by simp) (fun k hk => by simp [Value.ownBlock] at hk; omega)); obtain ⟨A2, m2, c2, rfl⟩ := own_slice ha2.1; have gg0' := (hT.out.below hb2).c0; have HA2 := Lib.hid ha2; clear ha2)
  all_goals go_wp2
  all_goals go_ret
  all_goals exact cloned_mk hT.out hb2 (append_base HA2.out (fun k hk => by simp [Value.ownBlock] at hk; omega) (by simp [World.drew])) (by have := HA2.out.1; rw [List.nil_append] at this; exact this) rfl
end Go.Proofs.YtpbpoddeiocgbaaDoor
