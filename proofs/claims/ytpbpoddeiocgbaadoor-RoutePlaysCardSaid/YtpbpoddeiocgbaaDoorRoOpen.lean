/- An argument that is a list of routes, opened: its routes as they lie in memory. -/
import Derived.Test.YtpbpoddeiocgbaaDoorRoNew
import Derived.ProofKit
import Derived.OpenShut
import Derived.SizedLaws
import Derived.Deep.Slices
import Derived.Deep.Fields
import Derived.ChangeSame
set_option linter.unusedVariables false
set_option linter.unusedSimpArgs false
namespace Go.Proofs.YtpbpoddeiocgbaaDoor
open Go.RowKit Go.ChangeShapes Go.WideShapes Go.Deep

section
variable {H : Type} {enc : TypeId × Value → H} {P : Program} {w : World} {base : Nat} {spare : Nat → Bool} {held : Bool}
theorem open_slice_fields {t e : TypeId} {fs : Array Field} {fuel : Nat} {cs : List Value} {x : DataW H × List MemPlace} (ht : P.underlying t = some (.slice e)) (he : P.underlying e = some (.struct fs))
    (hone : oneCellFields P fs = true) (hC : P.cellsOf e = fs.size) (h : DataW.trod enc P w base spare held fuel t cs = some x) :
    (cs = [.slice none 0 0] ∧ x = (.nil, [])) ∨
    ∃ (a : Addr) (len cap m : Nat) (D : Nat → DataW H) (Pl : Nat → List MemPlace), cs = [.slice (some a) len cap] ∧ base ≤ a.block ∧ len ≤ cap ∧ cap ≤ maxLen ∧ m = (if spare a.block then cap else len) ∧
      x = (.slice ((List.range len).map D) ((List.range (m - len)).map fun j => D (len + j)), MemPlace.row a (m * fs.size) ++ (List.range m).flatMap Pl) ∧
      ∀ i, i < m → ∃ (ys : List (DataW H × List MemPlace)) (n : Nat), D i = .agg (ys.map (·.1)) ∧ Pl i = ys.flatMap (·.2) ∧ ys.length = fs.size ∧
        ∀ (j : Nat) (f : Field), fs[j]? = some f → ∃ (v : Value) (y : DataW H × List MemPlace), w.cell? (a.add (i * fs.size + j)) = some v ∧ ys[j]? = some y ∧ DataW.trod enc P w base spare held n f.type [v] = some y := by
  rcases open_slice ht h with h0 | ⟨a, len, cap, m, n, D, Pl, hcs, hb, hl, hm, hmm, hx, hi⟩
  · exact .inl h0
  · refine .inr ⟨a, len, cap, m, D, Pl, hcs, hb, hl, hm, hmm, by rw [hC] at hx; exact hx, fun i him => ?_⟩
    obtain ⟨cs', hc, ht'⟩ := hi i him
    rw [hC] at hc
    obtain ⟨ys, n', hn', hy, hlen, hyl, hf⟩ := DataW.trod_struct he ht'
    obtain ⟨_, hcl, hat⟩ := World.cells?_some hc
    simp only [Prod.mk.injEq] at hy
    refine ⟨ys, n', hy.1, hy.2, hyl, fun j f hj => ?_⟩
    obtain ⟨ho, hk⟩ := hone_of hone j f hj
    have hjl : j < fs.size := (Array.getElem?_eq_some_iff.1 hj).1
    have hcell := hat j hjl
    have hv : cs'[j]? = some (cs'[j]'(by omega)) := List.getElem?_eq_getElem (by omega)
    have h1 := hf j f hj
    rw [ho, hk] at h1
    have hone' : (cs'.drop j).take 1 = [cs'[j]'(by omega)] := by
      rw [List.drop_eq_getElem_cons (by omega)]
      rfl
    rw [hone'] at h1
    have hys : ys[j]? = some (ys[j]'(by omega)) := List.getElem?_eq_getElem (by omega)
    refine ⟨_, _, ?_, hys, h1.trans hys⟩
    rw [← Go.Deep.add_add, hcell, hv]
end

theorem mem_weightsAll {H : Type} {P : Program} {e : TypeId} {d : DataW H} {n : Nat} : ∀ {l : List (DataW H)}, d ∈ l → n ∈ d.weights P e → n ∈ DataW.weightsAll P e l
  | x :: r, hm, hn => by
    simp only [DataW.weightsAll, List.mem_append]
    rcases List.mem_cons.1 hm with rfl | hm
    · exact .inl hn
    · exact .inr (mem_weightsAll hm hn)

/-- A row of whole numbers that came in. -/
theorem open_intsAt {H : Type} {enc : TypeId × Value → H} {W : World} {base : Nat} {spare : Nat → Bool} {held : Bool} {fuel : Nat} {v : Value} {y : DataW H × List MemPlace} (h : DataW.trod enc Tryd.prog W base spare held fuel 28 [v] = some y)
    (hw : ∀ n ∈ y.1.weights Tryd.prog 28, n ≤ reachBytes) : ∃ A n c xs, v = .slice A n c ∧ IntsAt W A n xs ∧ n ≤ c ∧ n * 8 ≤ 140737488351232 := by
  rcases open_ints Tryd.underlying28 Tryd.underlying3 (by kernel_rfl) h with ⟨hcs, rfl⟩ | ⟨a, len, cap, zs, hcs, _, hl, _, hz, rfl, hcell, _⟩
  · obtain rfl : v = .slice none 0 0 := by simpa using hcs
    exact ⟨none, 0, 0, [], rfl, ⟨rfl, fun h => absurd h (by omega)⟩, Nat.le_refl _, by omega⟩
  · obtain rfl : v = .slice (some a) len cap := by simpa using hcs
    have hlz : len ≤ zs.length := by rw [hz]; split <;> omega
    refine ⟨some a, len, cap, zs.take len, rfl, ⟨by simp; omega, fun h0 => ?_⟩, hl, ?_⟩
    · obtain ⟨b, off, rfl, hc⟩ := ints_at hcell (by omega)
      refine ⟨b, off, rfl, fun j hj => ?_⟩
      rw [hc j (by omega)]
      simp [List.getD_eq_getElem?_getD, List.getElem?_take, hj]
    · have h8 := hw ((((lits (H := H) .i64 (zs.take len)).length + (lits (H := H) .i64 (zs.drop len)).length)) * Tryd.prog.bytesOf 3) (by simp [DataW.weights, Tryd.underlying28])
      have hb : Tryd.prog.bytesOf 3 = 8 := by kernel_rfl
      have hr : reachBytes = 140737488351232 := by decide
      rw [hb, hr] at h8
      simp [lits] at h8
      omega

theorem open_route {H : Type} {enc : TypeId × Value → H} {W : World} {base : Nat} {spare : Nat → Bool} {held : Bool} {n0 n1 : Nat} {v0 v1 : Value} {y0 y1 : DataW H × List MemPlace} (h0 : DataW.trod enc Tryd.prog W base spare held n0 9 [v0] = some y0) (h1 : DataW.trod enc Tryd.prog W base spare held n1 28 [v1] = some y1)
    (hw : ∀ n ∈ y1.1.weights Tryd.prog 28, n ≤ reachBytes) : ∃ r : Rt, v0 = .string r.p ∧ v1 = .slice r.A r.n r.c ∧ RtOk W r := by
  obtain ⟨s, hs, _, hm⟩ := DataW.trod_string Tryd.underlying9 h0
  obtain ⟨A, n, c, xs, rfl, hi, hc, h8⟩ := open_intsAt h1 hw
  obtain rfl : v0 = .string s := by simpa using hs
  exact ⟨⟨s, A, n, c, xs⟩, rfl, rfl, hm, hi, hc, show n * 8 ≤ 140737488355328 by omega⟩

/-- A list of routes that came in. -/
theorem open_routes {H : Type} {enc : TypeId × Value → H} {W : World} {base : Nat} {spare : Nat → Bool} {held : Bool} {fuel : Nat} {v : Value} {y : DataW H × List MemPlace} (h : DataW.trod enc Tryd.prog W base spare held fuel 22 [v] = some y)
    (hw : ∀ n ∈ y.1.weights Tryd.prog 22, n ≤ reachBytes) : ∃ A n c l, v = .slice A n c ∧ RoutesAt W A n l ∧ n * 40 ≤ 140737488351232 := by
  rcases open_slice_fields Tryd.underlying22 Tryd.underlying32 (by kernel_rfl) (by kernel_rfl) h with ⟨hcs, rfl⟩ | ⟨a, len, cap, m, D, Pl, hcs, _, hl, _, hm, rfl, hi⟩
  · obtain rfl : v = .slice none 0 0 := by simpa using hcs
    exact ⟨none, 0, 0, [], rfl, ⟨rfl, fun i r hi => by simp at hi, by simp⟩, by omega⟩
  · obtain rfl : v = .slice (some a) len cap := by simpa using hcs
    have hlm : len ≤ m := by rw [hm]; split <;> omega
    have hbig := hw ((((List.range len).map D).length + ((List.range (m - len)).map fun j => D (len + j)).length) * Tryd.prog.bytesOf 32) (by simp [DataW.weights, Tryd.underlying22])
    have hel : ∀ i, i < len → ∃ r : Rt, W.cell? (a.add (i * 2)) = some (.string r.p) ∧ W.cell? (a.add (i * 2 + 1)) = some (.slice r.A r.n r.c) ∧ RtOk W r := by
      intro i hilt
      obtain ⟨ys, n, hD, _, hyl, hf⟩ := hi i (by omega)
      obtain ⟨v0, y0, c0, e0, t0⟩ := hf 0 _ rfl
      obtain ⟨v1, y1, c1, e1, t1⟩ := hf 1 _ rfl
      obtain ⟨r, rfl, rfl, hok⟩ := open_route t0 t1 (fun k hk => hw k (by
        simp only [DataW.weights, Tryd.underlying22, List.mem_cons, List.mem_append]
        refine .inr (.inl (mem_weightsAll (List.mem_map.2 ⟨i, List.mem_range.2 hilt, rfl⟩) ?_))
        rw [hD]
        simp only [DataW.weights, Tryd.underlying32]
        exact DataW.weights_mem_each (j := 1) rfl (by rw [List.getElem?_map, e1]; rfl) k hk))
      exact ⟨r, c0, c1, hok⟩
    let f : Nat → Rt := fun i => if h : i < len then Classical.choose (hel i h) else ⟨default, none, 0, 0, []⟩
    have hf : ∀ i, i < len → W.cell? (a.add (i * 2)) = some (.string (f i).p) ∧ W.cell? (a.add (i * 2 + 1)) = some (.slice (f i).A (f i).n (f i).c) ∧ RtOk W (f i) := by
      intro i hilt
      have := Classical.choose_spec (hel i hilt)
      simp only [f, dif_pos hilt]
      exact this
    have hat : ∀ i, i < len → ∃ b off, a = ⟨b, off, none⟩ := by
      intro i hilt
      rcases a with ⟨b, off, s⟩
      have hspot : s = none := by simpa [Addr.add] using World.cell?_spot (hf 0 (by omega)).1
      subst hspot
      exact ⟨b, off, rfl⟩
    refine ⟨some a, len, cap, (List.range len).map f, rfl, ⟨by simp, fun i r hir => ?_, fun r hr => ?_⟩, ?_⟩
    · rw [List.getElem?_map] at hir
      obtain ⟨i', hi', rfl⟩ := Option.map_eq_some_iff.1 hir
      have hilt : i < len := by
        have := (List.getElem?_eq_some_iff.1 hi').1
        simpa using this
      obtain rfl : i' = i := by
        have := (List.getElem?_eq_some_iff.1 hi').2
        simpa using this.symm
      obtain ⟨b, off, rfl⟩ := hat i' hilt
      obtain ⟨c0, c1, _⟩ := hf i' hilt
      refine ⟨b, off, rfl, ?_, ?_⟩
      · rw [← c0]; congr 1; unfold Addr.add; split <;> simp_all
      · rw [← c1]; congr 1
    · obtain ⟨i, hi', rfl⟩ := List.mem_map.1 hr
      exact (hf i (List.mem_range.1 hi')).2.2
    · have hb : Tryd.prog.bytesOf 32 = 40 := by kernel_rfl
      have hr : reachBytes = 140737488351232 := by decide
      rw [hb, hr] at hbig
      simp at hbig
      omega
end Go.Proofs.YtpbpoddeiocgbaaDoor
