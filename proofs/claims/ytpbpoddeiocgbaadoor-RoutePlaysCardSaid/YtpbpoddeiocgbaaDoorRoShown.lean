/- The law's own examples. -/
import Derived.Test.YtpbpoddeiocgbaaDoorRoDrop
import Derived.Test.YtpbpoddeiocgbaaDoorRoLaw
set_option linter.unusedVariables false
set_option linter.unusedSimpArgs false
namespace Go.Proofs.YtpbpoddeiocgbaaDoor
open Go.RowKit Go.Maps Go.ChangeMaps Go.Sort Go.Shelf

def bestS (S : List Pr) (pan : ByteArray) : Nat → Option (List Int)
  | 0 => none
  | n + 1 => match S.find? fun t => decide (t.1 = pan.extract 0 (n + 1)) with
    | some t => some t.2
    | none => bestS S pan n
theorem best_sh (T : List Ent) (pan : ByteArray) : ∀ n, best T pan n = bestS (sh T) pan n
  | 0 => rfl
  | n + 1 => by
    have h : (sh T).find? (fun t => decide (t.1 = pan.extract 0 (n + 1))) = (T.find? fun t => decide (t.1 = pan.extract 0 (n + 1))).map fun t => (t.1, t.2.2) := by
      unfold sh
      rw [List.find?_map]
      rfl
    unfold best bestS
    rw [h]
    cases T.find? (fun t => decide (t.1 = pan.extract 0 (n + 1))) with
    | none => exact best_sh T pan n
    | some t => rfl
theorem hasP_sh (T : List Ent) (p : ByteArray) : hasP T p = (sh T).any fun t => decide (t.1 = p) := by simp [hasP, sh, List.any_map, Function.comp_def]
theorem sh_drop (T : List Ent) (p : ByteArray) : sh (dropT T p) = (sh T).filter fun t => decide (t.1 ≠ p) := by
  unfold sh dropT
  rw [List.filter_map]
  rfl

def s4 : ByteArray := ⟨#[52]⟩
def s45 : ByteArray := ⟨#[52, 53]⟩
def s4512 : ByteArray := ⟨#[52, 53, 49, 50]⟩
def s4612 : ByteArray := ⟨#[52, 54, 49, 50]⟩
def s5 : ByteArray := ⟨#[53]⟩
def S0 : List Pr := [(s4, [1]), (s45, [2, 1])]
theorem x_new : newE 3 S0 = 0 := by decide +kernel
theorem x_f1 : bestS S0 s4512 4 = some [2, 1] := by decide +kernel
theorem x_f2 : bestS S0 s4612 4 = some [1] := by decide +kernel
theorem x_f3 : bestS S0 s5 1 = none := by decide +kernel
theorem x_a1 : addS 3 S0 s45 [0] = 111 := by decide +kernel
theorem x_a2 : addS 3 S0 s5 [3] = 112 := by decide +kernel
theorem x_d1 : (S0.any fun t => decide (t.1 = s45)) = true := by decide +kernel
theorem x_d2 : ((S0.filter fun t => decide (t.1 ≠ s45)).any fun t => decide (t.1 = s45)) = false := by decide +kernel

theorem cell_new {w : World} {b i : Nat} {cs : Array Value} {t : TypeId} (hb : b = w.heap.size) : (w.alloc (.cells cs t)).cell? ⟨b, i, none⟩ = cs[i]? := by
  subst hb
  exact cell_of_row _ _ i cs t (0, 0) (heap_alloc_new w _)
theorem cell_old {w : World} {b i : Nat} {o : Obj} (hb : b < w.heap.size) : (w.alloc o).cell? ⟨b, i, none⟩ = w.cell? ⟨b, i, none⟩ := World.cell?_alloc_lt w o _ hb
theorem shown_routes (w : World) (o1 o2 : Obj) (h1 : o1 = .cells #[.int .i64 1] 3) (h2 : o2 = .cells #[.int .i64 2, .int .i64 1] 3) :
    RoutesAt (((w.alloc o1).alloc o2).alloc (.cells #[.string s4, .slice (some ⟨w.heap.size, 0, none⟩) 1 1, .string s45, .slice (some ⟨w.heap.size + 1, 0, none⟩) 2 2] 32)) (some ⟨w.heap.size + 1 + 1, 0, none⟩) 2
      [⟨s4, some ⟨w.heap.size, 0, none⟩, 1, 1, [1]⟩, ⟨s45, some ⟨w.heap.size + 1, 0, none⟩, 2, 2, [2, 1]⟩] := by
  subst h1; subst h2
  refine ⟨rfl, fun i r hi => ⟨_, 0, rfl, ?_⟩, fun r hr => ?_⟩
  · match i, hi with
    | 0, hi => obtain rfl := Option.some.inj hi; exact ⟨by rw [cell_new (by simp)]; rfl, by rw [cell_new (by simp)]; rfl⟩
    | 1, hi => obtain rfl := Option.some.inj hi; exact ⟨by rw [cell_new (by simp)]; rfl, by rw [cell_new (by simp)]; rfl⟩
  · simp only [List.mem_cons, List.not_mem_nil, or_false] at hr
    rcases hr with rfl | rfl
    · refine ⟨show (1 : Nat) ≤ maxLen by decide, ⟨rfl, fun _ => ⟨_, 0, rfl, fun j hj => ?_⟩⟩, show (1 : Nat) ≤ 1 by omega, show 1 * 8 ≤ 140737488355328 by omega⟩
      have hj2 : j < 1 := hj
      obtain rfl : j = 0 := by omega
      rw [cell_old (by simp; omega), cell_old (by simp), cell_new rfl]
      rfl
    · refine ⟨show (2 : Nat) ≤ maxLen by decide, ⟨rfl, fun _ => ⟨_, 0, rfl, fun j hj => ?_⟩⟩, show (2 : Nat) ≤ 2 by omega, show 2 * 8 ≤ 140737488355328 by omega⟩
      have hj2 : j < 2 := hj
      match j, hj2 with
      | 0, _ => rw [cell_old (by simp), cell_new (by simp)]; rfl
      | 1, _ => rw [cell_old (by simp), cell_new (by simp)]; rfl

theorem made_ok {mem : Int} {l : List Pr} {w w' : World} {e : Ending} (h : Made mem l w w' e) (hE : newE mem l = 0) : ∃ g b T, e = .returned (.tuple #[.pointer (some ⟨g, 0, none⟩), .int .i64 0]) ∧ NewTab w.heap.size w' mem l g b T ∧ Below w.heap.size w w' := by
  obtain ⟨hb, hif⟩ := h
  rw [if_pos hE] at hif
  obtain ⟨g, b, T, e, hN⟩ := hif
  exact ⟨g, b, T, e, hN, hb⟩
theorem found_some {w w' : World} {e : Ending} {r : Option (List Int)} {xs : List Int} (h : Found w w' e r) (hr : r = some xs) (h0 : 0 < xs.length) (h8 : xs.length * 8 ≤ 140737488355328) : ∃ A c, e = .returned (.tuple #[.slice A xs.length c, .bool true]) ∧ MemRow w' (.slice A xs.length c) xs ∧ (∀ k, (Value.slice A xs.length c).ownBlock = some k → w.heap.size ≤ k) ∧ Below w.heap.size w w' := by
  subst hr
  obtain ⟨v, he, ho, hb⟩ := h
  obtain ⟨A, c, rfl, _⟩ := own_shape ho
  exact ⟨A, c, he, ⟨ownLow ho, h0, h8⟩, ownBase ho, hb⟩
theorem found_none {w w' : World} {e : Ending} {r : Option (List Int)} (h : Found w w' e r) (hr : r = none) : e = .returned (.tuple #[.slice none 0 0, .bool false]) ∧ Below w.heap.size w w' := by
  subst hr
  exact h
theorem added_err {g b : Nat} {mem : Int} {T : List Ent} {p : ByteArray} {xs : List Int} {w w' : World} {e : Ending} (h : Added g b mem T p xs w w' e) {r : Int} (hE : addE mem T p xs = r) (hr : r ≠ 0) : e = .returned (.int .i64 r) ∧ Tab w' g b mem T ∧ Below w.heap.size w w' := by
  obtain ⟨he, hg, hif⟩ := h
  rw [if_neg (by rw [hE]; exact hr)] at hif
  exact ⟨by rw [he, hE], hif⟩
theorem ints_lit (w : World) (x : Int) : IntsAt (w.alloc (.cells #[.int .i64 x] 3)) (some ⟨w.heap.size, 0, none⟩) 1 [x] :=
  ⟨rfl, fun _ => ⟨_, 0, rfl, fun j hj => by
    obtain rfl : j = 0 := by omega
    rw [cell_new rfl]
    rfl⟩⟩

theorem row_cells {w : World} {A : Option Addr} {n c : Nat} {xs : List Int} (h : MemRow w (.slice A n c) xs) : ∃ k, A = some ⟨k, 0, none⟩ ∧ ∀ j, j < xs.length → w.cell? ⟨k, 0 + j, none⟩ = some (.int .i64 (xs.getD j 0)) := by
  obtain ⟨k, cap, _, hv, _, _, _, _, _, hc⟩ := h.block
  injection hv with e1
  exact ⟨k, e1, hc⟩
set_option maxHeartbeats 2000000 in
set_option maxRecDepth 100000 in
theorem shown_any (w : World) : Calls Tryd.prog 5 #[] w fun e w' => e = .returned (.bool true) ∧ Below w.heap.size w w' := by
  go_enter Tryd.func5, Tryd.ntmps5
  go_wp2_with fail
  refine (new_any 2 2 3 _ _ _ (shown_routes w _ _ rfl rfl) (by decide)).mono ?_
  rintro e w1 hM
  obtain ⟨g, b, T, rfl, hN, hb1⟩ := made_ok (l := S0) hM x_new
  have HN := Lib.hid hN
  have HB1 := Lib.hid hb1
  clear hN hb1 hM
  go_wp2_with fail
  refine (find_any g b 3 T s4512 _ HN.out.1 (by decide)).mono ?_
  rintro e w2 hF
  obtain ⟨A2, c2, rfl, hr2, hk2, hb2⟩ := found_some hF (by rw [best_sh, HN.out.2.1]; exact x_f1) (by decide) (by decide)
  have HR2 := Lib.hid hr2
  have HK2 := Lib.hid hk2
  have HB2 := Lib.hid hb2
  clear hr2 hk2 hb2 hF
  go_wp2_with fail
  refine (find_any g b 3 T s4612 _ (HN.out.1.below HB2.out) (by decide)).mono ?_
  rintro e w3 hF
  obtain ⟨A3, c3, rfl, hr3, hk3, hb3⟩ := found_some hF (by rw [best_sh, HN.out.2.1]; exact x_f2) (by decide) (by decide)
  have HR3 := Lib.hid hr3
  have HK3 := Lib.hid hk3
  have HB3 := Lib.hid hb3
  clear hr3 hk3 hb3 hF
  go_wp2_with fail
  refine (find_any g b 3 T s5 _ ((HN.out.1.below HB2.out).below HB3.out) (by decide)).mono ?_
  rintro e w4 hF
  obtain ⟨rfl, hb4⟩ := found_none hF (by rw [best_sh, HN.out.2.1]; exact x_f3)
  have HB4 := Lib.hid hb4
  have HT4 := Lib.hid (((HN.out.1.below HB2.out).below HB3.out).below HB4.out)
  clear hb4 hF
  go_wp2_with fail
  refine (add_any g b 1 1 3 T s45 _ [0] _ (HT4.out.alloc _) (by decide) (ints_lit _ _) (by decide) (by decide) HN.out.2.2.2.2.2).mono ?_
  rintro e w5 hA
  obtain ⟨rfl, hT5, hb5⟩ := added_err hA (r := 111) (by rw [addE_sh, HN.out.2.1]; exact x_a1) (by decide)
  have HB5 := Lib.hid hb5
  have HT5 := Lib.hid hT5
  clear hb5 hA hT5
  go_wp2_with fail
  refine (add_any g b 1 1 3 T s5 _ [3] _ (HT5.out.alloc _) (by decide) (ints_lit _ _) (by decide) (by decide) HN.out.2.2.2.2.2).mono ?_
  rintro e w6 hA
  obtain ⟨rfl, hT6, hb6⟩ := added_err hA (r := 112) (by rw [addE_sh, HN.out.2.1]; exact x_a2) (by decide)
  have HB6 := Lib.hid hb6
  have HT6 := Lib.hid hT6
  clear hb6 hA hT6
  go_wp2_with fail
  refine (drop_any g b 3 T s45 _ HT6.out (by decide)).mono ?_
  rintro e w7 ⟨he, hg7, hT7⟩
  rw [if_pos (by rw [hasP_sh, HN.out.2.1]; exact x_d1)] at he
  subst he
  have HG7 := Lib.hid hg7
  have HT7 := Lib.hid hT7
  clear hg7 hT7
  go_wp2_with fail
  refine (drop_any g b 3 _ s45 _ HT7.out (by decide)).mono ?_
  rintro e w8 ⟨he, hg8, hT8⟩
  rw [if_neg (by rw [hasP_sh, sh_drop, HN.out.2.1, x_d2]; decide)] at he
  subst he
  have HG8 := Lib.hid hg8
  clear hg8 hT8
  have h46 : ∀ {v : Value} {xs : List Int}, MemRow w4 v xs → MemRow w8 v xs := fun {v xs} hr => by
    have a1 := hr.kept (grown_below ((Below.refl _ _).alloc (Nat.le_refl _) (.cells #[.int .i64 0] 3)) none) (fun k e => by cases e)
    have a2 := a1.kept (grown_below HB5.out none) (fun k e => by cases e)
    have a3 := a2.kept (grown_below ((Below.refl _ _).alloc (Nat.le_refl _) (.cells #[.int .i64 3] 3)) none) (fun k e => by cases e)
    have a4 := a3.kept (grown_below HB6.out none) (fun k e => by cases e)
    have a5 := a4.kept HG7.out (fun k e => by injection e with e; subst e; exact HT6.out.rowNe a4)
    exact a5.kept HG8.out (fun k e => by injection e with e; subst e; exact HT7.out.rowNe a5)
  have r2 : MemRow w8 (.slice A2 2 c2) [2, 1] := h46 ((HR2.out.kept (grown_below HB3.out none) (fun k e => by cases e)).kept (grown_below HB4.out none) (fun k e => by cases e))
  have r3 : MemRow w8 (.slice A3 1 c3) [1] := h46 (HR3.out.kept (grown_below HB4.out none) (fun k e => by cases e))
  obtain ⟨k2, rfl, hc2⟩ := row_cells r2
  obtain ⟨k3, rfl, hc3⟩ := row_cells r3
  have c20 : w8.cell? ⟨k2, 0, none⟩ = some (.int .i64 2) := hc2 0 (by decide)
  have c21 : w8.cell? ⟨k2, 1, none⟩ = some (.int .i64 1) := hc2 1 (by decide)
  have c30 : w8.cell? ⟨k3, 0, none⟩ = some (.int .i64 1) := hc3 0 (by decide)
  have hbb : w.heap.size ≤ b := Nat.le_trans (by simp; omega) HN.out.2.2.2.1
  have B0 : Below w.heap.size w w1 := ((((Below.refl _ _).alloc (Nat.le_refl _) _).alloc (by simp) _).alloc (by simp; omega) _).trans (HB1.out.mono (by simp; omega))
  have B1 := B0.trans (HB2.out.mono B0.size)
  have B2 := B1.trans (HB3.out.mono B1.size)
  have B3 := B2.trans (HB4.out.mono B2.size)
  have B4 := B3.alloc B3.size (.cells #[.int .i64 0] 3)
  have B5 := B4.trans (HB5.out.mono B4.size)
  have B6 := B5.alloc B5.size (.cells #[.int .i64 3] 3)
  have B7 := B6.trans (HB6.out.mono B6.size)
  have B8 := B7.grown HG7.out B7.size (fun k e => by injection e with e; omega)
  have B9 := Lib.hid (B8.grown HG8.out B8.size (fun k e => by injection e with e; omega))
  clear B0 B1 B2 B3 B4 B5 B6 B7 B8 hc2 hc3 r2 r3 h46
  go_wp2
  go_ret
  exact ⟨rfl, B9.out⟩

end Go.Proofs.YtpbpoddeiocgbaaDoor
