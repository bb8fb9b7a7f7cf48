/- Route's table as a map of prefixes: a plain list of prefixes with the slices that lie in the map, and what looking up, putting and taking away do to it. -/
import Derived.Maps.OwnSet
import Derived.Maps.Ext
import Derived.Maps.Range
import Derived.Sort.KeysCollected
import Derived.WalkKit
import Derived.Below
set_option linter.unusedVariables false
set_option linter.unusedSimpArgs false
namespace Go.Proofs.YtpbpoddeiocgbaaDoor
open Go.RowKit Go.Maps Go.ChangeMaps Go.Sort

/-- An element of the map reads as itself. -/
def rawE (v : Value) : Option (DataW Value × List MemPlace) := some (.held v, [])
theorem rawE_eq {v : Value} {d : DataW Value} {ps : List MemPlace} (h : rawE v = some (d, ps)) : d = .held v := by
  simp only [rawE, Option.some.injEq, Prod.mk.injEq] at h
  exact h.1.symm

/-- A prefix as a map's key. -/
def keyL (s : ByteArray) : Lit := .string s.data.toList
theorem bytes_ext {a b : ByteArray} (h : a.data.toList = b.data.toList) : a = b := by
  cases a; cases b
  simp only at h
  congr 1
  exact Array.toList_inj.1 h
theorem keyL_inj {a b : ByteArray} (h : keyL a = keyL b) : a = b := by
  unfold keyL at h
  injection h with h
  exact bytes_ext h
theorem keyL_key (s : ByteArray) : WideAt.IsKeyLit (keyL s) := by simp [keyL, WideAt.IsKeyLit]
theorem keyL_same (a b : ByteArray) : (keyL a).sameKey (keyL b) = decide (a = b) := by
  rw [Bool.eq_iff_iff, WideAt.sameKey_iff (keyL_key b), decide_eq_true_eq]
  exact ⟨keyL_inj, fun h => by rw [h]⟩

/-- What a map of the entries l reads as. -/
def TabIs (D : DataW Value) (l : List (ByteArray × Value)) : Prop :=
  ∃ es, D = .map es ∧ es.Perm (l.map fun p => (keyL p.1, .held p.2)) ∧ (l.map (·.1)).Nodup

theorem insert_perm (x : Lit × DataW Value) : ∀ l : List (Lit × DataW Value), (DataW.insert x l).Perm (x :: l)
  | [] => .refl _
  | y :: r => by
    unfold DataW.insert
    split
    · exact .refl _
    · exact ((insert_perm x r).cons y).trans (.swap x y r)

theorem tabIs_nil : TabIs (.map []) [] := ⟨[], rfl, .refl _, .nil⟩

theorem TabIs.isMap {D : DataW Value} {l : List (ByteArray × Value)} (h : TabIs D l) : IsMap D := by
  obtain ⟨es, rfl, _⟩ := h
  exact ⟨es, rfl⟩

theorem TabIs.has {D : DataW Value} {l : List (ByteArray × Value)} (h : TabIs D l) (s : ByteArray) : Maps.has D (keyL s) = l.any fun p => decide (p.1 = s) := by
  obtain ⟨es, rfl, hp, _⟩ := h
  rw [Maps.has_eq, Bool.eq_iff_iff, List.any_eq_true, List.any_eq_true]
  constructor
  · rintro ⟨x, hx, hk⟩
    obtain ⟨p, hpl, rfl⟩ := List.mem_map.1 (hp.mem_iff.1 hx)
    rw [keyL_same] at hk
    exact ⟨p, hpl, hk⟩
  · rintro ⟨p, hpl, hk⟩
    exact ⟨_, hp.mem_iff.2 (List.mem_map.2 ⟨p, hpl, rfl⟩), by rw [keyL_same]; exact hk⟩

theorem TabIs.apart {es : List (Lit × DataW Value)} {l : List (ByteArray × Value)} (hp : es.Perm (l.map fun p => (keyL p.1, .held p.2))) (hn : (l.map (·.1)).Nodup) : es.Pairwise fun p q => p.1 ≠ q.1 := by
  have h2 : (es.map (·.1)).Nodup := by
    refine (hp.map _).nodup_iff.2 ?_
    rw [List.map_map]
    have e : (l.map ((fun x : Lit × DataW Value => x.1) ∘ fun p : ByteArray × Value => (keyL p.1, DataW.held p.2))) = (l.map (·.1)).map keyL := by rw [List.map_map]; rfl
    rw [e]
    exact List.pairwise_map.2 (List.Pairwise.imp (fun hne he => hne (keyL_inj he)) hn)
  exact List.pairwise_map.1 h2

theorem TabIs.at_ {D : DataW Value} {l : List (ByteArray × Value)} (h : TabIs D l) {s : ByteArray} {v : Value} (hm : (s, v) ∈ l) (z : DataW Value) : D.atKey (keyL s) z = .held v := by
  obtain ⟨es, rfl, hp, hn⟩ := h
  exact WideAt.atKey_mem z (keyL_key s) (TabIs.apart hp hn) (hp.mem_iff.2 (List.mem_map.2 ⟨(s, v), hm, rfl⟩))

theorem TabIs.size {D : DataW Value} {l : List (ByteArray × Value)} (h : TabIs D l) : Maps.size D = l.length := by
  obtain ⟨es, rfl, hp, _⟩ := h
  rw [Maps.size_eq, hp.length_eq, List.length_map]

theorem filter_none {es : List (Lit × DataW Value)} {l : List (ByteArray × Value)} (hp : es.Perm (l.map fun p => (keyL p.1, .held p.2))) (s : ByteArray) :
    (es.filter fun p => !p.1.sameKey (keyL s)).Perm ((l.filter fun p => decide (p.1 ≠ s)).map fun p => (keyL p.1, .held p.2)) := by
  refine (hp.filter _).trans ?_
  rw [List.filter_map]
  refine List.Perm.of_eq ?_
  congr 1
  refine List.filter_congr fun p _ => ?_
  simp [keyL_same]

theorem TabIs.del {D : DataW Value} {l : List (ByteArray × Value)} (h : TabIs D l) (s : ByteArray) : TabIs (D.del (keyL s)) (l.filter fun p => decide (p.1 ≠ s)) := by
  obtain ⟨es, rfl, hp, hn⟩ := h
  exact ⟨_, rfl, filter_none hp s, hn.sublist (List.filter_sublist.map _)⟩

theorem TabIs.put {D : DataW Value} {l : List (ByteArray × Value)} (h : TabIs D l) {s : ByteArray} (hs : l.any (fun p => decide (p.1 = s)) = false) (v : Value) : TabIs (D.put (keyL s) (.held v)) (l ++ [(s, v)]) := by
  obtain ⟨es, rfl, hp, hn⟩ := h
  have hne : ∀ p ∈ l, p.1 ≠ s := fun p hm he => by
    have := List.any_eq_false.1 hs p hm
    simp [he] at this
  have hf : (l.filter fun p => decide (p.1 ≠ s)) = l := List.filter_eq_self.2 fun p hm => by simpa using hne p hm
  refine ⟨_, rfl, ?_, ?_⟩
  · refine (insert_perm _ _).trans ?_
    have h2 := filter_none hp s
    rw [hf] at h2
    rw [List.map_append]
    exact (h2.cons _).trans (List.perm_append_comm (l₁ := [_]))
  · rw [List.map_append, List.nodup_append]
    refine ⟨hn, by simp, ?_⟩
    intro a ha b hb
    obtain ⟨p, hm, rfl⟩ := List.mem_map.1 ha
    have : b = s := by simpa using hb
    rw [this]
    exact hne p hm

end Go.Proofs.YtpbpoddeiocgbaaDoor
