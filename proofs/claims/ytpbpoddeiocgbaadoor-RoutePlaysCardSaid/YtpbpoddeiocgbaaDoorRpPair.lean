/- The program's table and the reference's, side by side. -/
import Derived.Test.YtpbpoddeiocgbaaDoorRpDrop
import Derived.Test.YtpbpoddeiocgbaaDoorRpFind
import Derived.Test.YtpbpoddeiocgbaaDoorRpRNew
import Derived.Test.YtpbpoddeiocgbaaDoorRpSpoil
import Derived.Test.YtpbpoddeiocgbaaDoorRpSame
set_option linter.unusedVariables false
set_option linter.unusedSimpArgs false
namespace Go.Proofs.YtpbpoddeiocgbaaDoor
open Go.RowKit Go.Maps Go.ChangeMaps Go.Sort Go.Shelf

structure Tabs where
  gx : Nat
  bx : Nat
  T : List Ent
  gy : Nat
  vy : Value
  ly : List Ent
/-- Both tables tell the same. -/
def Pair (w : World) (mem : Int) (t : Tabs) : Prop :=
  Tab w t.gx t.bx mem t.T ∧ RTab w t.gy mem t.vy t.ly ∧ Srt (sh t.ly) ∧ (sh t.ly).Perm (sh t.T) ∧ Good (sh t.T) ∧ t.T.length ≤ 32
theorem Pair.len {w : World} {mem : Int} {t : Tabs} (h : Pair w mem t) : t.ly.length ≤ 32 := by
  have h1 := h.2.2.2.1.length_eq
  simp only [sh, List.length_map] at h1
  have := h.2.2.2.2.2
  omega
theorem own_typ {w : World} {base n : Nat} {e : TypeId} {size : Nat} {v : Value} {xs : List Value} (h : w.ownsRow base e size v n xs) {k : Nat} (hk : v.ownBlock = some k) : ∃ cur, w.heap[k]? = some (.cells cur e (0, 0)) := by
  rcases h.2 with ⟨rfl, _⟩ | ⟨g, cap, cur, rfl, _, hh, _⟩
  · cases hk
  · have : g = k := by simpa [Value.ownBlock] using hk
    subst this
    exact ⟨cur, hh⟩
theorem tab_turn {P : Nat → Prop} {w w' : World} {g b : Nat} {mem : Int} {T : List Ent} (h : Tab w g b mem T) (ht : Turn P w w') (hg : P g) (hb : P b) (hr : ∀ t ∈ T, ∀ k, t.2.1.ownBlock = some k → P k) : Tab w' g b mem T := by
  obtain ⟨D, ⟨es, clock, hbk, rest⟩, hD⟩ := h.2.1
  have hbl := h.blt
  exact ⟨(ht.block g h.glt hg).trans h.1, ⟨D, ⟨es, clock, (ht.block b hbl hb).trans hbk, rest⟩, hD⟩, fun t hm => ⟨own_turn (h.2.2 t hm).1 ht (hr t hm), (h.2.2 t hm).2⟩⟩
theorem Pair.turn {P : Nat → Prop} {w w' : World} {mem : Int} {t : Tabs} (h : Pair w mem t) (ht : Turn P w w') (h1 : P t.gx) (h2 : P t.bx) (h3 : ∀ e ∈ t.T, ∀ k, e.2.1.ownBlock = some k → P k) (h4 : P t.gy) (h5 : InL P t.vy t.ly) : Pair w' mem t :=
  ⟨tab_turn h.1 ht h1 h2 h3, h.2.1.turn ht h4 h5, h.2.2⟩
theorem Tab.rowLt {w : World} {g b : Nat} {mem : Int} {T : List Ent} (h : Tab w g b mem T) : ∀ t ∈ T, ∀ k, t.2.1.ownBlock = some k → k < w.heap.size := fun t ht k hk => own_lt (h.2.2 t ht).1 k hk
theorem Pair.below {w w' : World} {mem : Int} {t : Tabs} (h : Pair w mem t) (hb : Below w.heap.size w w') : Pair w' mem t :=
  h.turn (Turn.of_below hb) h.1.glt h.1.blt h.1.rowLt h.2.1.lt h.2.1.2.lt
/-- A block of another kind, or of another pair, is none of the pair's. -/
theorem Pair.notMap {w : World} {mem : Int} {t : Tabs} (h : Pair w mem t) {q : Nat} {es : Array MapEntry} {c : Nat} (hq : w.heap[q]? = some (.map es c)) (hne : q ≠ t.bx) :
    t.gx ≠ q ∧ t.bx ≠ q ∧ (∀ e ∈ t.T, ∀ k, e.2.1.ownBlock = some k → k ≠ q) ∧ t.gy ≠ q ∧ InL (fun i => i ≠ q) t.vy t.ly := by
  refine ⟨fun e => ?_, fun e => hne e.symm, fun x hx k hk e => ?_, fun e => ?_, fun k hk e => ?_, fun x hx k hk e => ?_⟩
  · have := h.1.1; rw [e, hq] at this; cases this
  · obtain ⟨cur, hc⟩ := own_typ (h.1.2.2 x hx).1 hk; rw [e, hq] at hc; cases hc
  · have := h.2.1.1; rw [e, hq] at this; cases this
  · obtain ⟨cur, hc⟩ := own_typ h.2.1.2.1 hk; rw [e, hq] at hc; cases hc
  · obtain ⟨cur, hc⟩ := own_typ (h.2.1.2.2 x hx).2.1 hk; rw [e, hq] at hc; cases hc
theorem cells_typ {cs cs' : Array Value} {a b : TypeId} {f f' : Nat × Nat} (h : some (Obj.cells cs a f) = some (Obj.cells cs' b f')) : a = b := by
  injection h with h
  injection h
theorem Pair.notRef {w : World} {mem : Int} {t : Tabs} (h : Pair w mem t) {q : Nat} {cs : Array Value} (hq : w.heap[q]? = some (.cells cs 50 (0, 0))) (hne : q ≠ t.gy) :
    t.gx ≠ q ∧ t.bx ≠ q ∧ (∀ e ∈ t.T, ∀ k, e.2.1.ownBlock = some k → k ≠ q) ∧ t.gy ≠ q ∧ InL (fun i => i ≠ q) t.vy t.ly := by
  refine ⟨fun e => ?_, fun e => ?_, fun x hx k hk e => ?_, fun e => hne e.symm, fun k hk e => ?_, fun x hx k hk e => ?_⟩
  · have := h.1.1; rw [e, hq] at this; exact absurd (cells_typ this) (by decide)
  · obtain ⟨D, ⟨es, cl, hb, _⟩, _⟩ := h.1.2.1; rw [e, hq] at hb; cases hb
  · obtain ⟨cur, hc⟩ := own_typ (h.1.2.2 x hx).1 hk; rw [e, hq] at hc; exact absurd (cells_typ hc) (by decide)
  · obtain ⟨cur, hc⟩ := own_typ h.2.1.2.1 hk; rw [e, hq] at hc; exact absurd (cells_typ hc) (by decide)
  · obtain ⟨cur, hc⟩ := own_typ (h.2.1.2.2 x hx).2.1 hk; rw [e, hq] at hc; exact absurd (cells_typ hc) (by decide)
theorem Pair.byMap {w w' : World} {mem : Int} {t : Tabs} (h : Pair w mem t) {g q : Nat} {mem' : Int} {T' : List Ent} (hT : Tab w g q mem' T') (hne : q ≠ t.bx) (hg : w.grownBy w' (some q)) : Pair w' mem t := by
  obtain ⟨D, ⟨es, cl, hb, _⟩, _⟩ := hT.2.1
  obtain ⟨h1, h2, h3, h4, h5⟩ := h.notMap hb hne
  exact h.turn (Turn.of_grown hg) (by simpa using h1) (by simpa using h2) (fun e he k hk => by simpa using h3 e he k hk) (by simpa using h4) (h5.mono fun i hi => by simpa using hi)
theorem Pair.byRef {w w' : World} {mem : Int} {t : Tabs} (h : Pair w mem t) {q : Nat} {mem' : Int} {v : Value} {l : List Ent} (hT : RTab w q mem' v l) (hne : q ≠ t.gy) (hg : w.grownBy w' (some q)) : Pair w' mem t := by
  obtain ⟨h1, h2, h3, h4, h5⟩ := h.notRef hT.1 hne
  exact h.turn (Turn.of_grown hg) (by simpa using h1) (by simpa using h2) (fun e he k hk => by simpa using h3 e he k hk) (by simpa using h4) (h5.mono fun i hi => by simpa using hi)

/-- What holds between the rounds: the tables in use (x, y), those that went on beside (z, w). -/
def St (B : Nat) (w0 w : World) (mem : Int) (x z : Tabs) : Prop :=
  Pair w mem x ∧ Pair w mem z ∧ x.bx ≠ z.bx ∧ x.gy ≠ z.gy ∧ B ≤ x.bx ∧ B ≤ x.gy ∧ Below B w0 w
theorem St.below {B : Nat} {w0 w w' : World} {mem : Int} {x z : Tabs} (h : St B w0 w mem x z) (hs : B ≤ w.heap.size) (hb : Below w.heap.size w w') : St B w0 w' mem x z :=
  ⟨h.1.below hb, h.2.1.below hb, h.2.2.1, h.2.2.2.1, h.2.2.2.2.1, h.2.2.2.2.2.1, h.2.2.2.2.2.2.trans (hb.mono hs)⟩

theorem addS_good {mem : Int} {S : List Pr} {p : ByteArray} {xs : List Int} (h : addS mem S p xs = 0) (hg : Good S) : Good (S ++ [(p, xs)]) := by
  obtain ⟨h1, h2, h3, _⟩ := addS_zero h
  refine ⟨fun y hy => ?_, ?_⟩
  · rcases List.mem_append.1 hy with e | e
    · exact hg.1 y e
    · obtain rfl : y = (p, xs) := by simpa using e
      exact ⟨h1, h2⟩
  · rw [List.map_append, List.nodup_append]
    refine ⟨hg.2, by simp, fun a ha b hb => ?_⟩
    obtain ⟨y, hy, rfl⟩ := List.mem_map.1 ha
    obtain rfl : b = p := by simpa using hb
    intro e
    have := List.any_eq_false.1 h3 y hy
    simp [e] at this
theorem good_filter {S : List Pr} (h : Good S) (f : Pr → Bool) : Good (S.filter f) :=
  ⟨fun x hx => h.1 x (List.mem_filter.1 hx).1, h.2.sublist (List.filter_sublist.map _)⟩
theorem addS_len {mem : Int} {S : List Pr} {p : ByteArray} {xs : List Int} (h : addS mem S p xs = 0) : S.length ≠ 32 := by
  unfold addS at h
  split at h; · cases h
  split at h; · cases h
  split at h; · cases h
  split at h; · cases h
  assumption

/-- What List tells is what the reference's table tells. -/
theorem listed_same {w w' : World} {T : List Ent} {v : Value} {l ly : List Ent} (h : Listed w w' T v l) (hs : Srt (sh ly)) (hp : (sh ly).Perm (sh T)) (hg : Good (sh T)) : sh l = sh ly := by
  have hk : (sh ly).map (fun x => x.1.data.toList) = (T.map fun t => t.1.data.toList).mergeSort fun x y => decide (x ≤ y) := by
    have e1 : ((sh ly).map fun x => x.1.data.toList).mergeSort (fun x y => decide (x ≤ y)) = (sh ly).map fun x => x.1.data.toList := by
      refine List.mergeSort_of_pairwise (List.pairwise_map.2 (List.Pairwise.imp (fun {a b} h => ?_) hs))
      exact decide_eq_true (List.le_of_lt h)
    rw [← e1]
    refine mergeSort_of_perm ?_
    have e2 : (T.map fun t => t.1.data.toList) = (sh T).map fun x => x.1.data.toList := by simp [sh, Function.comp_def]
    rw [e2]
    exact hp.map _
  have hk2 : (sh l).map (fun x => x.1.data.toList) = (sh ly).map fun x => x.1.data.toList := by
    rw [hk, ← h.2.2.2.1]
    simp [sh, Function.comp_def]
  have hlen : (sh l).length = (sh ly).length := by simpa using congrArg List.length hk2
  refine List.ext_getElem hlen fun i h1 h2 => ?_
  have hf : ((sh l)[i]).1 = ((sh ly)[i]).1 := by
    have := congrArg (fun x => x[i]?) hk2
    simp only [List.getElem?_map, List.getElem?_eq_getElem h1, List.getElem?_eq_getElem h2, Option.map_some, Option.some.injEq] at this
    exact bytes_ext this
  have m1 : (sh l)[i] ∈ sh T := by
    have hm : (sh l)[i] ∈ sh l := List.getElem_mem h1
    obtain ⟨t, ht, e⟩ := List.mem_map.1 hm
    rw [← e]
    exact h.2.2.1 t ht
  have m2 : (sh ly)[i] ∈ sh T := hp.mem_iff.1 (List.getElem_mem h2)
  have f1 := find_pr hg.2 m1
  have f2 := find_pr hg.2 m2
  rw [hf, f2] at f1
  exact (Option.some.inj f1).symm
theorem Listed.ls {w w' : World} {T : List Ent} {v : Value} {l : List Ent} (h : Listed w w' T v l) (hT : ∀ t ∈ T, t.1.size ≤ maxLen) : Ls w' v l ∧ InL (fun i => w.heap.size ≤ i) v l := by
  refine ⟨⟨ownLow h.1, fun t ht => ⟨?_, (h.2.1 t ht).1.row⟩⟩, ownBase h.1, fun t ht => (h.2.1 t ht).2⟩
  obtain ⟨t', ht', e⟩ := List.mem_map.1 (h.2.2.1 t ht)
  injection e with e1 e2
  rw [← e1]
  exact hT t' ht'
end Go.Proofs.YtpbpoddeiocgbaaDoor
