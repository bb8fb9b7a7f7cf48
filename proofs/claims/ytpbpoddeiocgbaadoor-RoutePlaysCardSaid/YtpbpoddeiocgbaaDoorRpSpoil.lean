/- spoil: writes over routes, and over nothing else. -/
import Derived.Test.YtpbpoddeiocgbaaDoorRpMem
import Derived.OneCell
set_option linter.unusedVariables false
set_option linter.unusedSimpArgs false
namespace Go.Proofs.YtpbpoddeiocgbaaDoor
open Go.RowKit Go.Maps Go.ChangeMaps Go.Sort Go.Shelf

def SpRel (Q : Nat → Prop) (w : World) (g : Nat) (l : List Ent) (wr : World) : Prop :=
  Turn (fun i => ¬ Q i) w wr ∧ (∀ a, (w.cell? a).isSome = true → (wr.cell? a).isSome = true) ∧ (∀ a, w.frozen? a = false → wr.frozen? a = false) ∧ ∀ (i : Nat) (t : Ent), l[i]? = some t → wr.cell? ⟨g, i * 2 + 1, none⟩ = some t.2.1
theorem isSome_set {w : World} {p q : Addr} {x : Value} (h : (w.cell? q).isSome = true) : ((w.setCell p x).cell? q).isSome = true := by
  by_cases e : p = q
  · subst e
    rw [World.cell?_setCell_same' w p x h]; rfl
  · rw [World.cell?_setCell_other _ _ _ _ e]; exact h
theorem SpRel.set {Q : Nat → Prop} {w wr : World} {g : Nat} {l : List Ent} (h : SpRel Q w g l wr) {b j : Nat} (hq : Q b) (hne : ∀ i : Nat, b = g → j = i * 2 + 1 → False) (x : Value) : SpRel Q w g l (wr.setCell ⟨b, j, none⟩ x) := by
  obtain ⟨h1, h2, h3, h4⟩ := h
  refine ⟨h1.trans ⟨rfl, rfl, rfl, by simp [World.setCell], fun i hi hp => Below.heap_setCell _ _ _ _ (fun e => hp (by subst e; exact hq))⟩, fun a ha => isSome_set (h2 a ha), fun a ha => by rw [World.frozen?_setCell]; exact h3 a ha, fun i t hi => ?_⟩
  rw [World.cell?_setCell_other _ _ _ _ (fun e => by injection e with e1 e2; exact hne i e1 e2)]
  exact h4 i t hi
theorem spRel_start {Q : Nat → Prop} {w : World} {g cap : Nat} {l : List Ent} (h : Ls w (.slice (some ⟨g, 0, none⟩) l.length cap) l) : SpRel Q w g l w :=
  ⟨Turn.refl _ _, fun _ h => h, fun _ h => h, fun i t hi => by
    have hil : i < l.length := (List.getElem?_eq_some_iff.1 hi).1
    rw [h.1.cellAt _ (by omega), (flat_at hi).2]⟩
theorem str_cell {w : World} {g cap : Nat} {l : List Ent} (h : Ls w (.slice (some ⟨g, 0, none⟩) l.length cap) l) {i : Nat} {t : Ent} (hi : l[i]? = some t) : (w.cell? ⟨g, i * 2, none⟩).isSome = true ∧ w.frozen? ⟨g, i * 2, none⟩ = false := by
  have hil : i < l.length := (List.getElem?_eq_some_iff.1 hi).1
  exact ⟨by rw [h.1.cellAt _ (by omega), (flat_at hi).1]; rfl, h.1.frozenAt _⟩
theorem row_parts {w : World} {v : Value} {xs : List Int} (h : Row w v xs) : ∃ A c, v = .slice A xs.length c ∧ (0 < xs.length → ∃ b, A = some ⟨b, 0, none⟩ ∧ v.ownBlock = some b ∧ ∀ j, j < xs.length → (w.cell? ⟨b, j, none⟩).isSome = true ∧ w.frozen? ⟨b, j, none⟩ = false) := by
  obtain ⟨⟨hl, hv⟩, _⟩ := h
  rcases hv with ⟨rfl, h0⟩ | ⟨g, cap, cur, rfl, hb, hh, hnc, hr⟩
  · exact ⟨none, 0, by rw [h0], fun h => absurd h (by omega)⟩
  · have ho : w.ownsRow 0 3 1 (.slice (some ⟨g, 0, none⟩) xs.length cap) xs.length (xs.map (Value.int .i64)) := ⟨hl, .inr ⟨g, cap, cur, rfl, hb, hh, hnc, hr⟩⟩
    refine ⟨_, cap, rfl, fun _ => ⟨g, rfl, rfl, fun j hj => ⟨?_, ho.frozenAt j⟩⟩⟩
    rw [ho.cellAt j (by omega)]
    simp [List.getElem?_eq_getElem hj]

set_option maxHeartbeats 1000000 in
set_option maxRecDepth 100000 in
theorem spoil_any (Q : Nat → Prop) (v : Value) (l : List Ent) (w : World) (hl : Ls w v l) (hq : InL Q v l) :
    Calls Tryd.prog 11 #[v] w fun e w' => e = .returned (.tuple #[]) ∧ Turn (fun i => ¬ Q i) w w' := by
  obtain ⟨A, c, rs, rfl, _, _, _, hcm⟩ := hl.routes
  unfold maxLen at hcm
  obtain ⟨n, hn⟩ : ∃ n, n = l.length := ⟨_, rfl⟩
  have hL := Lib.hid hl
  have hQ := Lib.hid hq
  have hg : ∃ g, (0 < n → A = some ⟨g, 0, none⟩ ∧ Q g) ∧ SpRel Q w g l w := by
    by_cases hz : 0 < l.length
    · obtain ⟨g, cap, hv, _, hgl⟩ := hl.1.form hz
      injection hv with e1 e2 e3
      subst e1
      exact ⟨g, fun _ => ⟨rfl, hq.1 g rfl⟩, spRel_start hl⟩
    · have e : l = [] := List.eq_nil_of_length_eq_zero (by omega)
      subst e
      exact ⟨0, fun h => absurd h (by rw [hn]; simp), Turn.refl _ _, fun _ h => h, fun _ h => h, fun i t h => by cases h⟩
  obtain ⟨g, hga, hg0⟩ := hg
  have HGA := Lib.hid hga
  have HG0 := Lib.hid hg0
  have hn63 : n ≤ 9223372036854775807 := by omega
  rw [← hn]
  have HN := Lib.hid hn
  clear hl hq hga hg0 hn
  go_enter Tryd.func11, Tryd.ntmps11
  go_wp2
  go_loopw [2] (fun i wr => ∃ k : Nat, k ≤ n ∧ i = .int .i64 k ∧ Hid (SpRel Q w g l wr)) (fun i _ => n - (intOf i).toNat)
  case atStart => exact ⟨0, Nat.zero_le _, rfl, HG0⟩
  case round =>
    obtain ⟨k, hk, rfl, hR⟩ := hrel
    by_cases hlt : k < n
    · obtain ⟨t, ht⟩ : ∃ t, l[k]? = some t := ⟨l[k]'(by have := HN.out; omega), List.getElem?_eq_getElem _⟩
      obtain ⟨rfl, hqg⟩ := HGA.out (by omega)
      have hL2 := hL.out
      obtain ⟨hc0, hf0⟩ := str_cell hL2 ht
      obtain ⟨u0, hu0⟩ := Option.isSome_iff_exists.1 (hR.out.2.1 _ hc0)
      have hfr := hR.out.2.2.1 _ hf0
      have hS1 : Hid (SpRel Q w g l (wr.setCell ⟨g, k * 2, none⟩ (.string ⟨#[115, 112, 111, 105, 108, 116]⟩))) := hR.out.set hqg (fun i _ e => by omega) _
      obtain ⟨A2, c2, hv2, hrow⟩ := row_parts (hL.out.2 t (List.mem_of_getElem? ht)).2
      have hqr : Hid (∀ b, t.2.1.ownBlock = some b → Q b) := hQ.out.2 t (List.mem_of_getElem? ht)
      have hne : Hid (∀ b, t.2.1.ownBlock = some b → b ≠ g) := fun b hb e => rowNeRoute (hL.out.2 t (List.mem_of_getElem? ht)).2.1 hL.out.1 g rfl (by rw [hb, e])
      obtain ⟨m, hm⟩ : ∃ m, m = t.2.2.length := ⟨_, rfl⟩
      have hc1 := fun (W : World) (h : SpRel Q w g l W) => (h.2.2.2 k t ht).trans (congrArg some hv2)
      rw [← hm] at hrow hv2 hc1
      have H8 : m * 8 ≤ 140737488355328 := by rw [hm]; exact (hL.out.2 t (List.mem_of_getElem? ht)).2.2
      have HC1 := Lib.hid hc1
      have HROW := Lib.hid hrow
      have HM := Lib.hid hm
      clear hc0 hf0 hc1 hrow hm hv2 ht hL2 hqg
      go_wp2
      go_loopw [3] (fun j wq => ∃ q : Nat, q ≤ m ∧ j = .int .i64 q ∧ Hid (SpRel Q w g l wq)) (fun j _ => m - (intOf j).toNat)
      case atStart => exact ⟨0, Nat.zero_le _, rfl, hS1⟩
      case round =>
        obtain ⟨q, hq, rfl, hS⟩ := hrel
        have hcc := HC1.out _ hS.out
        by_cases hqm : q < m
        · obtain ⟨b, rfl, hob, hcs⟩ := HROW.out (by omega)
          obtain ⟨hcj, hfj⟩ := hcs q hqm
          obtain ⟨u1, hu1⟩ := Option.isSome_iff_exists.1 (hS.out.2.1 _ hcj)
          have hfr1 := hS.out.2.2.1 _ hfj
          have hS2 : ∀ x, Hid (SpRel Q w g l (_root_.Go.World.setCell _ ⟨b, q, none⟩ x)) := fun x => hS.out.set (hqr.out b hob) (fun i e _ => hne.out b hob e) x
          clear hcj hfj hcs hob
          go_wp2
          go_round
          case rel => exact ⟨q + 1, by omega, by go_num, hS2 _⟩
          case measure => simp [intOf]; omega
        · go_wp2
          go_round
          case rel => exact ⟨k + 1, by omega, by go_num, hS⟩
          case measure => simp [intOf]; omega
    · go_wp2
      go_end0
      exact ⟨rfl, hR.out.1⟩
end Go.Proofs.YtpbpoddeiocgbaaDoor
