/- An argument that is a list of calls, opened. -/
import Derived.Test.YtpbpoddeiocgbaaDoorRpPlays
import Derived.Test.YtpbpoddeiocgbaaDoorRoOpen
set_option linter.unusedVariables false
set_option linter.unusedSimpArgs false
namespace Go.Proofs.YtpbpoddeiocgbaaDoor
open Go.RowKit Go.ChangeShapes Go.WideShapes Go.Deep

theorem cells_two {cs : List Value} {a b : Value} {n : Nat} (h : cs.length = n) {i : Nat} (ha : cs[i]? = some a) (hb : cs[i + 1]? = some b) : (cs.drop i).take 2 = [a, b] := by
  obtain ⟨h1, rfl⟩ := List.getElem?_eq_some_iff.1 ha
  obtain ⟨h2, rfl⟩ := List.getElem?_eq_some_iff.1 hb
  rw [List.drop_eq_getElem_cons h1, List.drop_eq_getElem_cons h2]
  rfl
theorem cells_one {cs : List Value} {a : Value} {i : Nat} (ha : cs[i]? = some a) : (cs.drop i).take 1 = [a] := by
  obtain ⟨h1, rfl⟩ := List.getElem?_eq_some_iff.1 ha
  rw [List.drop_eq_getElem_cons h1]
  rfl

theorem open_ops {H : Type} {enc : TypeId × Value → H} {W : World} {base : Nat} {spare : Nat → Bool} {held : Bool} {fuel : Nat} {v : Value} {y : DataW H × List MemPlace} (h : DataW.trod enc Tryd.prog W base spare held fuel 36 [v] = some y)
    (hw : ∀ n ∈ y.1.weights Tryd.prog 36, n ≤ reachBytes) : ∃ A n c os, v = .slice A n c ∧ OpsAt W A n os ∧ n ≤ 9223372036854775807 := by
  rcases open_slice Tryd.underlying36 h with ⟨hcs, rfl⟩ | ⟨a, len, cap, m, n, D, Pl, hcs, _, hl, hmx, hm, rfl, hi⟩
  · obtain rfl : v = .slice none 0 0 := by simpa using hcs
    exact ⟨none, 0, 0, [], rfl, ⟨rfl, fun i r hi => by simp at hi, by simp⟩, by omega⟩
  · obtain rfl : v = .slice (some a) len cap := by simpa using hcs
    have hlm : len ≤ m := by rw [hm]; split <;> omega
    have hC : Tryd.prog.cellsOf 45 = 4 := by kernel_rfl
    have hR : Tryd.prog.cellsOf 32 = 2 := by kernel_rfl
    have hS : Tryd.prog.cellsOf 9 = 1 := by kernel_rfl
    have hI : Tryd.prog.cellsOf 3 = 1 := by kernel_rfl
    have hL : Tryd.prog.cellsOf 28 = 1 := by kernel_rfl
    have hel : ∀ i, i < len → ∃ o : OpR, W.cell? (a.add (i * 4)) = some (.int .i64 o.kind) ∧ W.cell? (a.add (i * 4 + 1)) = some (.string o.r.p) ∧ W.cell? (a.add (i * 4 + 2)) = some (.slice o.r.A o.r.n o.r.c) ∧ W.cell? (a.add (i * 4 + 3)) = some (.string o.pan) ∧ OpOk W o := by
      intro i hilt
      obtain ⟨cs', hc, ht'⟩ := hi i (by omega)
      rw [hC] at hc
      obtain ⟨ys, n', hn', hy, hlen, hyl, hf⟩ := DataW.trod_struct Tryd.underlying45 ht'
      rw [hC] at hlen
      obtain ⟨_, hcl, hat⟩ := World.cells?_some hc
      simp only [Prod.mk.injEq] at hy
      have hcell : ∀ j, j < 4 → W.cell? (a.add (i * 4 + j)) = cs'[j]? := fun j hj => by rw [← Go.Deep.add_add, hat j hj]
      have hv : ∀ j (hj : j < 4), cs'[j]? = some (cs'[j]'(by omega)) := fun j hj => List.getElem?_eq_getElem (by omega)
      have f0 : DataW.trod enc Tryd.prog W base spare held n' 3 ((cs'.drop 0).take (Tryd.prog.cellsOf 3)) = ys[0]? := hf 0 _ rfl
      have f1 : DataW.trod enc Tryd.prog W base spare held n' 32 ((cs'.drop 1).take (Tryd.prog.cellsOf 32)) = ys[1]? := hf 1 _ rfl
      have f2 : DataW.trod enc Tryd.prog W base spare held n' 9 ((cs'.drop 3).take (Tryd.prog.cellsOf 9)) = ys[2]? := hf 2 _ rfl
      have hyl3 : ys.length = 3 := hyl
      have y0 : ys[0]? = some (ys[0]'(by omega)) := List.getElem?_eq_getElem (by omega)
      have y1 : ys[1]? = some (ys[1]'(by omega)) := List.getElem?_eq_getElem (by omega)
      have y2 : ys[2]? = some (ys[2]'(by omega)) := List.getElem?_eq_getElem (by omega)
      rw [hI, cells_one (hv 0 (by omega)), y0] at f0
      rw [hR, cells_two hlen (hv 1 (by omega)) (hv 2 (by omega)), y1] at f1
      rw [hS, cells_one (hv 3 (by omega)), y2] at f2
      obtain ⟨k, e0, _, hk⟩ := DataW.trod_int Tryd.underlying3 f0
      obtain ⟨s, e3, _, hs⟩ := DataW.trod_string Tryd.underlying9 f2
      obtain ⟨zs, n2, hn2, hz, hlen2, hzl, hg⟩ := DataW.trod_struct Tryd.underlying32 f1
      have g0 : DataW.trod enc Tryd.prog W base spare held n2 9 (([cs'[1]'(by omega), cs'[2]'(by omega)].drop 0).take (Tryd.prog.cellsOf 9)) = zs[0]? := hg 0 _ rfl
      have g1 : DataW.trod enc Tryd.prog W base spare held n2 28 (([cs'[1]'(by omega), cs'[2]'(by omega)].drop 1).take (Tryd.prog.cellsOf 28)) = zs[1]? := hg 1 _ rfl
      have hzl2 : zs.length = 2 := hzl
      have z0 : zs[0]? = some (zs[0]'(by omega)) := List.getElem?_eq_getElem (by omega)
      have z1 : zs[1]? = some (zs[1]'(by omega)) := List.getElem?_eq_getElem (by omega)
      rw [hS, z0] at g0
      rw [hL, z1] at g1
      obtain ⟨r, e1, e2, hok⟩ := open_route g0 g1 (fun q hq => hw q (by
        simp only [DataW.weights, Tryd.underlying36, List.mem_cons, List.mem_append]
        refine .inr (.inl (mem_weightsAll (List.mem_map.2 ⟨i, List.mem_range.2 hilt, rfl⟩) ?_))
        rw [hy.1]
        simp only [DataW.weights, Tryd.underlying45]
        refine DataW.weights_mem_each (j := 1) (t := 32) (d := (ys[1]'(by omega)).1) rfl (by rw [List.getElem?_map, y1]; rfl) q ?_
        rw [hz]
        simp only [DataW.weights, Tryd.underlying32]
        exact DataW.weights_mem_each (j := 1) rfl (by rw [List.getElem?_map, z1]; rfl) q hq))
      have hkb : -9223372036854775808 ≤ k ∧ k ≤ 9223372036854775807 := by
        have h2 : decide (IntKind.min .i64 ≤ k) = true ∧ decide (k ≤ IntKind.max .i64) = true := by simpa [Lit.wf] using hk
        have m1 : IntKind.min .i64 = -9223372036854775808 := by decide
        have m2 : IntKind.max .i64 = 9223372036854775807 := by decide
        rw [m1, m2] at h2
        exact ⟨of_decide_eq_true h2.1, of_decide_eq_true h2.2⟩
      refine ⟨⟨k, r, s⟩, ?_, ?_, ?_, ?_, hkb.1, hkb.2, hok, hs⟩
      · have := hcell 0 (by omega); rw [hv 0 (by omega)] at this; simpa using this.trans (congrArg some (by simpa using e0))
      · rw [hcell 1 (by omega), hv 1 (by omega), e1]
      · rw [hcell 2 (by omega), hv 2 (by omega), e2]
      · rw [hcell 3 (by omega), hv 3 (by omega)]; exact congrArg some (by simpa using e3)
    let f : Nat → OpR := fun i => if h : i < len then Classical.choose (hel i h) else ⟨0, ⟨default, none, 0, 0, []⟩, default⟩
    have hf : ∀ i, i < len → W.cell? (a.add (i * 4)) = some (.int .i64 (f i).kind) ∧ W.cell? (a.add (i * 4 + 1)) = some (.string (f i).r.p) ∧ W.cell? (a.add (i * 4 + 2)) = some (.slice (f i).r.A (f i).r.n (f i).r.c) ∧ W.cell? (a.add (i * 4 + 3)) = some (.string (f i).pan) ∧ OpOk W (f i) := by
      intro i hilt
      have := Classical.choose_spec (hel i hilt)
      simp only [f, dif_pos hilt]
      exact this
    have hat : ∀ i, i < len → ∃ b off, a = ⟨b, off, none⟩ := by
      intro i hilt
      rcases a with ⟨b, off, s⟩
      have hspot : s = none := by simpa [Addr.add] using World.cell?_spot (hf 0 (by omega)).1
      subst hspot
      exact ⟨b, off, rfl⟩
    refine ⟨some a, len, cap, (List.range len).map f, rfl, ⟨by simp, fun i o hir => ?_, fun o ho => ?_⟩, by unfold maxLen at hmx; omega⟩
    · rw [List.getElem?_map] at hir
      obtain ⟨i', hi', rfl⟩ := Option.map_eq_some_iff.1 hir
      have hilt : i < len := by
        have := (List.getElem?_eq_some_iff.1 hi').1
        simpa using this
      obtain rfl : i' = i := by
        have := (List.getElem?_eq_some_iff.1 hi').2
        simpa using this.symm
      obtain ⟨b, off, rfl⟩ := hat i' hilt
      obtain ⟨c0, c1, c2, c3, _⟩ := hf i' hilt
      have ea : ∀ k, (⟨b, off, none⟩ : Addr).add k = ⟨b, off + k, none⟩ := fun k => by unfold Addr.add; split <;> simp_all
      rw [ea] at c0 c1 c2 c3
      exact ⟨b, off, rfl, c0, c1, c2, c3⟩
    · obtain ⟨i, hi', rfl⟩ := List.mem_map.1 ho
      exact (hf i (List.mem_range.1 hi')).2.2.2.2
end Go.Proofs.YtpbpoddeiocgbaaDoor
