/- RoutePlays: a table is made, and does any calls, as the document says. -/
import Derived.Test.YtpbpoddeiocgbaaDoorRpSteps
import Derived.Deep.DeepCutAuto
import Derived.Deep.LoopGhost
set_option linter.unusedVariables false
set_option linter.unusedSimpArgs false
namespace Go.Proofs.YtpbpoddeiocgbaaDoor
open Go.RowKit Go.Maps Go.ChangeMaps Go.Sort Go.Shelf

/-- A call as it came in. -/
structure OpR where
  kind : Int
  r : Rt
  pan : ByteArray
def OpOk (w : World) (o : OpR) : Prop := -9223372036854775808 ≤ o.kind ∧ o.kind ≤ 9223372036854775807 ∧ RtOk w o.r ∧ o.pan.size ≤ maxLen
def OpsAt (w : World) (A : Option Addr) (n : Nat) (l : List OpR) : Prop :=
  l.length = n ∧ (∀ i o, l[i]? = some o → ∃ b off, A = some ⟨b, off, none⟩ ∧ w.cell? ⟨b, off + i * 4, none⟩ = some (.int .i64 o.kind) ∧ w.cell? ⟨b, off + i * 4 + 1, none⟩ = some (.string o.r.p) ∧ w.cell? ⟨b, off + i * 4 + 2, none⟩ = some (.slice o.r.A o.r.n o.r.c) ∧ w.cell? ⟨b, off + i * 4 + 3, none⟩ = some (.string o.pan)) ∧ ∀ o ∈ l, OpOk w o

theorem rmade_ok {mem : Int} {l : List Pr} {w w' : World} {e : Ending} (h : RMade mem l w w' e) (hE : newE mem l = 0) : ∃ g v L, e = .returned (.tuple #[.pointer (some ⟨g, 0, none⟩), .int .i64 0]) ∧ RT w.heap.size w' mem l g v L ∧ Below w.heap.size w w' := by
  obtain ⟨hb, hif⟩ := h
  rw [if_pos hE] at hif
  obtain ⟨g, v, L, e, hN⟩ := hif
  exact ⟨g, v, L, e, hN, hb⟩

theorem newE_mem {mem : Int} {l : List Pr} (h : newE mem l = 0) : mem ≤ 6 := by
  unfold newE at h
  split at h
  · cases h
  · omega
theorem pair_start {L M : Nat} {w3 w4 w5 : World} {mem : Int} {S : List Pr} {gx bx gy : Nat} {Tx ly : List Ent} {vy : Value} (hN : NewTab M w3 mem S gx bx Tx) (ht : Turn (fun i => ¬ (L ≤ i ∧ i < M)) w3 w4) (hR : RT w4.heap.size w5 mem S gy vy ly) (hb5 : Below w4.heap.size w4 w5) (hg : Good S) :
    Pair w5 mem ⟨gx, bx, Tx, gy, vy, ly⟩ := by
  have h4 : Tab w4 gx bx mem Tx := tab_turn hN.1 ht (fun h => by have := hN.2.2.1; omega) (fun h => by have := hN.2.2.2.1; omega) (fun t ht k hk h => by have := hN.2.2.2.2.1 t ht k hk; omega)
  exact ⟨h4.below hb5, hR.1, hR.2.1, by rw [hN.2.1]; exact hR.2.2.1, by rw [hN.2.1]; exact hg, hN.2.2.2.2.2⟩
theorem st_start {w w1 w2 w4 w5 w6 w7 w3 : World} {mem : Int} {S : List Pr} {gx bx gy gz bz gw : Nat} {Tx ly : List Ent} {vy vw : Value} (hP : Pair w5 mem ⟨gx, bx, Tx, gy, vy, ly⟩) (hb6 : Below w5.heap.size w5 w6) (hTz : Tab w6 gz bz mem Tx) (hbz : w5.heap.size ≤ bz)
    (hb7 : Below w6.heap.size w6 w7) (hTw : RTab w7 gw mem vw ly) (hgw : w6.heap.size ≤ gw) (hN : NewTab w2.heap.size w3 mem S gx bx Tx) (hR : RT w4.heap.size w5 mem S gy vy ly) (hB1 : Below w.heap.size w w1) (hB2 : Below w1.heap.size w1 w2) (hB4 : Below w.heap.size w w4) (hB5 : Below w4.heap.size w4 w5) :
    St w.heap.size w w7 mem ⟨gx, bx, Tx, gy, vy, ly⟩ ⟨gz, bz, Tx, gw, vw, ly⟩ := by
  have h6 := hP.below hb6
  have h7 := h6.below hb7
  have b5 := hB4.trans (hB5.mono hB4.size)
  have b6 := b5.trans (hb6.mono b5.size)
  refine ⟨h7, ⟨hTz.below hb7, hTw, hP.2.2⟩, ?_, ?_, ?_, ?_, b6.trans (hb7.mono b6.size)⟩
  · show bx ≠ bz
    have : bx < w5.heap.size := hP.1.blt
    omega
  · show gy ≠ gw
    have : gy < w6.heap.size := h6.2.1.lt
    omega
  · exact Nat.le_trans (Nat.le_trans hB1.size hB2.size) hN.2.2.2.1
  · exact Nat.le_trans hB4.size hR.2.2.2.1

theorem found_both {w w' : World} {T : List Ent} {pan : ByteArray} {e : Ending} (h : Found w w' e (best T pan (min 8 pan.size))) :
    ∃ v, e = .returned (.tuple #[v, .bool (bestS (sh T) pan (min 8 pan.size)).isSome]) ∧ w'.ownsRow w.heap.size 3 1 v ((bestS (sh T) pan (min 8 pan.size)).getD []).length (((bestS (sh T) pan (min 8 pan.size)).getD []).map (Value.int .i64)) ∧ Below w.heap.size w w' := by
  rw [best_sh] at h
  cases hb : bestS (sh T) pan (min 8 pan.size) with
  | none =>
    rw [hb] at h
    exact ⟨_, h.1, World.ownsRow_nil _ _ _ _, h.2⟩
  | some xs =>
    rw [hb] at h
    obtain ⟨v, he, ho, hbl⟩ := h
    exact ⟨v, he, ho, hbl⟩
theorem rfound_both {w w' : World} {T ly : List Ent} {pan : ByteArray} {e : Ending} (h : RFound w w' e (sh ly) pan) (hg : Good (sh T)) (hp : (sh ly).Perm (sh T)) :
    ∃ v, e = .returned (.tuple #[v, .bool (bestS (sh T) pan (min 8 pan.size)).isSome]) ∧ w'.ownsRow w.heap.size 3 1 v ((bestS (sh T) pan (min 8 pan.size)).getD []).length (((bestS (sh T) pan (min 8 pan.size)).getD []).map (Value.int .i64)) ∧ Below w.heap.size w w' := by
  obtain ⟨hbl, b, hF, hm⟩ := h
  rw [find_best hg hp hF]
  cases b with
  | none => exact ⟨_, hm, World.ownsRow_nil _ _ _ _, hbl⟩
  | some m =>
    obtain ⟨y, v, hy, he, ho⟩ := hm
    refine ⟨v, ?_, ?_, hbl⟩
    · simpa [hy] using he
    · simpa [hy] using ho
/-- The row that Find handed out is written over. -/
def Spoilt (B : Nat) (w0 : World) (v : Value) (n : Nat) (wr : World) : Prop := ∃ ys : List Value, wr.ownsRow B 3 1 v n ys ∧ Below B w0 wr
theorem Spoilt.at {B : Nat} {w0 wr : World} {v : Value} {n k : Nat} (h : Spoilt B w0 v n wr) (hk : k < n) : ∃ g c u, v = .slice (some ⟨g, 0, none⟩) n c ∧ wr.cell? ⟨g, k, none⟩ = some u ∧ wr.frozen? ⟨g, k, none⟩ = false ∧ ∀ x, Spoilt B w0 v n (wr.setCell ⟨g, k, none⟩ x) := by
  obtain ⟨ys, ho, hb⟩ := h
  obtain ⟨g, c, rfl, hbg, hlt⟩ := ho.form (by omega)
  have hl := ho.1
  refine ⟨g, c, ys[k]'(by omega), rfl, ?_, ho.frozenAt k, fun x => ⟨_, (ho.stored k x).1, hb.setCell (by exact hbg) x⟩⟩
  rw [ho.cellAt k (by omega), List.getElem?_eq_getElem]
theorem own_ints {w : World} {base : Nat} {A : Option Addr} {n c : Nat} {xs : List Int} (h : w.ownsRow base 3 1 (.slice A n c) xs.length (xs.map (Value.int .i64))) : n = xs.length ∧ IntsAt w A n xs ∧ n ≤ 9223372036854775807 := by
  have h2 := h
  rcases h.2 with ⟨e, h0⟩ | ⟨g, cap, cur, e, _, _, hnc, hcm, _⟩
  · simp only [Value.slice.injEq] at e
    obtain ⟨rfl, rfl, rfl⟩ := e
    exact ⟨h0.symm, ⟨h0, fun h => absurd h (by omega)⟩, by omega⟩
  · simp only [Value.slice.injEq] at e
    obtain ⟨rfl, rfl, rfl⟩ := e
    unfold maxLen at hcm
    refine ⟨rfl, ⟨rfl, fun _ => ⟨g, 0, rfl, fun j hj => ?_⟩⟩, by omega⟩
    rw [Nat.zero_add, h2.cellAt j (by omega)]
    simp [List.getElem?_eq_getElem hj, List.getD_eq_getElem?_getD]
theorem routes_le {w : World} {A : Option Addr} {n c : Nat} {l : List Ent} (h : Ls w (.slice A n c) l) : ∃ rs, RoutesAt w A n rs ∧ rts rs = sh l ∧ n ≤ 9223372036854775807 := by
  obtain ⟨A', c', rs, e, hr, hs, hl, hc⟩ := h.routes
  injection e with e1 e2 e3
  subst e1; subst e2
  unfold maxLen at hc
  exact ⟨rs, hr, hs, by omega⟩
theorem good_size {T : List Ent} (h : Good (sh T)) : ∀ t ∈ T, t.1.size ≤ maxLen := fun t ht => by
  have h8 : t.1.size ≤ 8 := (h.1 (t.1, t.2.2) (List.mem_map.2 ⟨t, ht, rfl⟩)).2
  unfold maxLen
  omega
theorem below_drawn {B : Nat} {W w w' : World} (h : Below B W w') (h1 : W.os = w.os) (h2 : W.tape = w.tape) (h3 : W.output = w.output) (h4 : W.heap = w.heap) : Below B w w' :=
  ⟨h.os.trans h1, h.tape.trans h2, h.output.trans h3, by rw [← h4]; exact h.size, fun i hi => by rw [← h4]; exact h.block i hi⟩
theorem ls_map {B : Nat} {w0 w w2 : World} {mem : Int} {x z : Tabs} {v : Value} {L : List Ent} (hS : St B w0 w mem x z) (hb : Below w.heap.size w w2) (h : Ls w2 v L) : InL (fun i => some i ≠ some x.bx) v L := by
  have hT := hS.1.1.below hb
  obtain ⟨D, ⟨es, cl, hq, _⟩, _⟩ := hT.2.1
  refine ⟨fun k hk e => ?_, fun t ht k hk e => ?_⟩
  · injection e with e; obtain ⟨cur, hc⟩ := own_typ h.1 hk; rw [e, hq] at hc; cases hc
  · injection e with e; obtain ⟨cur, hc⟩ := own_typ (h.2 t ht).2.1 hk; rw [e, hq] at hc; cases hc
theorem one_route {W : World} {p : ByteArray} {A : Option Addr} {n c : Nat} {xs : List Int} (h : RtOk W ⟨p, A, n, c, xs⟩) : RoutesAt (W.alloc (.cells #[.string p, .slice A n c] 32)) (some ⟨W.heap.size, 0, none⟩) 1 [⟨p, A, n, c, xs⟩] := by
  refine ⟨rfl, fun i r hi => ⟨_, 0, rfl, ?_⟩, fun r hr => ?_⟩
  · match i, hi with
    | 0, hi => obtain rfl := Option.some.inj hi; exact ⟨by rw [cell_new rfl]; rfl, by rw [cell_new rfl]; rfl⟩
  · obtain rfl : r = ⟨p, A, n, c, xs⟩ := by simpa using hr
    exact h.keep ((Below.refl _ _).alloc (Nat.le_refl _) _)
theorem one_ls {w : World} {v : Value} {L : List Ent} {p : ByteArray} {xs : List Int} (h : Ls w v L) (hs : sh L = [(p, xs)]) : ∃ b c vt A m d, v = .slice (some ⟨b, 0, none⟩) 1 c ∧ 1 ≤ c ∧ L = [(p, vt, xs)] ∧ vt = .slice A m d ∧ w.cell? ⟨b, 0, none⟩ = some (.string p) ∧ w.cell? ⟨b, 1, none⟩ = some (.slice A m d) ∧ IntsAt w A m xs ∧ m ≤ d ∧ m * 8 ≤ 140737488355328 := by
  have hl : L.length = 1 := by have := congrArg List.length hs; simpa [sh] using this
  obtain ⟨t, rfl⟩ : ∃ t, L = [t] := List.length_eq_one_iff.1 hl
  obtain ⟨tp, tv, tx⟩ := t
  have e : tp = p ∧ tx = xs := by simpa [sh] using hs
  obtain ⟨rfl, rfl⟩ := e
  obtain ⟨A, d, e1, hi, hd⟩ := (h.2 _ List.mem_cons_self).2.ints
  rcases h.1.2 with ⟨_, h0⟩ | ⟨g, cap, cur, rfl, hb, hh, hnc, hr⟩
  · cases h0
  · have ho : w.ownsRow 0 32 2 (.slice (some ⟨g, 0, none⟩) 1 cap) 1 (flat [(tp, tv, tx)]) := h.1
    have e1' : tv = .slice A tx.length d := e1
    refine ⟨g, cap, tv, A, tx.length, d, rfl, hnc, rfl, e1', ?_, ?_, hi, hd, (h.2 _ List.mem_cons_self).2.2⟩
    · rw [ho.cellAt 0 (by omega)]; rfl
    · rw [ho.cellAt 1 (by omega), ← e1']; rfl

set_option maxHeartbeats 4000000 in
set_option maxRecDepth 100000 in
theorem plays_any (n c m d : Nat) (A C : Option Addr) (l : List Rt) (os : List OpR) (mem : Int) (w : World) (hl : RoutesAt w A n l) (ho : OpsAt w C m os) (hbig : n * 40 ≤ 140737488355328) (hm : m ≤ 9223372036854775807) :
    Calls Tryd.prog 4 #[.slice A n c, .int .i64 mem, .slice C m d] w fun e w' => e = .returned (.bool true) ∧ Below w.heap.size w w' := by
  have hL := Lib.hid hl
  have hO := Lib.hid ho
  clear hl ho
  go_enter Tryd.func4, Tryd.ntmps4
  go_wp2_with (first
    | (go_at_call 5; refine (shown_any _).mono ?_; rintro e w1 ⟨rfl, hb1⟩; have HB1 := Lib.hid hb1; clear hb1)
    | fail)
  refine (lent_any n c A l _ (hL.out.keep HB1.out) hbig).mono ?_
  rintro e w2 ⟨v, rfl, L, hLs, hsh, hin, hb2⟩
  obtain ⟨A1, c1, rs, rfl, hrs, hrr, hc1, hcm1⟩ := hLs.routes
  rw [hsh] at hrr
  have HLS := Lib.hid hLs
  have HIN := Lib.hid hin
  have HRS := Lib.hid hrs
  have HRR := Lib.hid hrr
  have HB2 := Lib.hid hb2
  have hlen : L.length = n := by
    have := congrArg List.length hsh
    simpa [sh, rts, hL.out.1] using this
  rw [hlen] at HRS HLS HIN hc1 ⊢
  have HLEN := Lib.hid hlen
  clear hLs hin hrs hrr hsh hb2 hlen
  go_wp2_with fail
  refine (new_any n c1 mem A1 rs _ HRS.out (by omega)).mono ?_
  rintro e w3 hmade
  rw [HRR.out] at hmade
  by_cases hE : newE mem (rts l) = 0
  · obtain ⟨gx, bx, Tx, rfl, hN, hb3⟩ := made_ok hmade hE
    have HN := Lib.hid hN
    have HB3 := Lib.hid hb3
    have HE := Lib.hid hE
    clear hmade hN hb3 hE
    go_wp2_with fail
    refine (spoil_any (fun i => w1.heap.size ≤ i ∧ i < w2.heap.size) _ L _ (HLS.out.below HB3.out) ⟨fun k hk => ⟨HIN.out.1 k hk, HLS.out.lt.1 k hk⟩, fun t ht k hk => ⟨HIN.out.2 t ht k hk, HLS.out.lt.2 t ht k hk⟩⟩).mono ?_
    rintro e w4 ⟨rfl, ht4⟩
    have HT4 := Lib.hid ht4
    clear ht4
    have HB4 : Hid (Below w.heap.size w w4) := by
      have b3 := HB1.out.trans ((HB2.out.trans (HB3.out.mono HB2.out.size)).mono HB1.out.size)
      exact b3.trans (HT4.out.below b3.size (fun i hi h => by have := HB1.out.size; omega))
    go_wp2_with fail
    refine (rnew_any n c mem A l _ (hL.out.keep HB4.out) (by omega)).mono ?_
    rintro e w5 hrm
    obtain ⟨gy, vy, ly, rfl, hR, hb5⟩ := rmade_ok hrm HE.out
    have HR := Lib.hid hR
    have HB5 := Lib.hid hb5
    clear hrm hR hb5
    have hP5 : Hid (Pair w5 mem ⟨gx, bx, Tx, gy, vy, ly⟩) := pair_start HN.out HT4.out HR.out HB5.out (newE_good HE.out)
    go_wp2_with fail
    refine (tclone_any gx bx mem Tx _ hP5.out.1).mono ?_
    rintro e w6 ⟨hb6, gz, bz, rfl, hTz, hgz, hbz⟩
    have HB6 := Lib.hid hb6
    have HTZ := Lib.hid hTz
    have HBZ := Lib.hid hbz
    clear hb6 hTz hbz hgz
    go_wp2_with fail
    refine (rclone_any gy mem vy ly _ (hP5.out.below HB6.out).2.1 hP5.out.len).mono ?_
    rintro e w7 ⟨hb7, gw, vw, rfl, hTw, hgw, hvw⟩
    have hSt : Hid (St w.heap.size w w7 mem ⟨gx, bx, Tx, gy, vy, ly⟩ ⟨gz, bz, Tx, gw, vw, ly⟩) := st_start hP5.out HB6.out HTZ.out HBZ.out hb7 hTw hgw HN.out HR.out HB1.out HB2.out HB4.out HB5.out
    have hmem : Hid (mem ≤ 6) := newE_mem HE.out
    clear hb7 hTw hgw hvw
    clear HN HT4 HR HLS HIN HRS HRR HB3 HB5 HTZ HBZ HB6 hP5 HB1 HB2 HB4 HLEN
    go_wp2_with fail
    go_loopg [9, 11, 13, 14, 15] m (fun G x y z q i wr => ∃ (X Z : Tabs) (k : Nat), k ≤ m ∧ G = m - k ∧ i = .int .i64 k ∧ x = .pointer (some ⟨X.gx, 0, none⟩) ∧ y = .pointer (some ⟨X.gy, 0, none⟩) ∧ z = .pointer (some ⟨Z.gx, 0, none⟩) ∧ q = .pointer (some ⟨Z.gy, 0, none⟩) ∧ Hid (St w.heap.size w wr mem X Z))
    case atStart => exact ⟨⟨gx, bx, Tx, gy, vy, ly⟩, ⟨gz, bz, Tx, gw, vw, ly⟩, 0, Nat.zero_le _, rfl, rfl, rfl, rfl, rfl, rfl, hSt⟩
    case round =>
      obtain ⟨X, Z, k, hk, rfl, rfl, rfl, rfl, rfl, rfl, hS⟩ := hrel
      obtain ⟨gx, bx, Tx, gy, vy, ly⟩ := X
      obtain ⟨gz, bz, Tz, gw, vw, lw⟩ := Z
      by_cases hlt : k < m
      · by_cases h100 : k < 100
        · obtain ⟨o, ho⟩ : ∃ o, os[k]? = some o := ⟨os[k]'(by have := hO.out.1; omega), List.getElem?_eq_getElem _⟩
          have hBel : Hid (Below w.heap.size w wr) := hS.out.2.2.2.2.2.2
          obtain ⟨b0, off, rfl, c0, c1, c2, c3⟩ := hO.out.2.1 k o ho
          have hok : Hid (OpOk w o) := hO.out.2.2 o (List.mem_of_getElem? ho)
          have d0 := (hBel.out.cell (World.block_lt_of_cell? w _ c0)).trans c0
          have d1 := (hBel.out.cell (World.block_lt_of_cell? w _ c1)).trans c1
          have d2 := (hBel.out.cell (World.block_lt_of_cell? w _ c2)).trans c2
          have d3 := (hBel.out.cell (World.block_lt_of_cell? w _ c3)).trans c3
          clear c0 c1 c2 c3 ho
          have k0 : -9223372036854775808 ≤ o.kind := hok.out.1
          have k1 : o.kind ≤ 9223372036854775807 := hok.out.2.1
          go_upto_if 88 with fail
          go_cut [17] (fun s17 wz => (wr.alloc (.cells #[.int .i64 o.kind, .string o.r.p, .slice o.r.A o.r.n o.r.c, .string o.pan] 45)) = wz ∧ ∃ kk : Int, s17 = .int .i64 kk ∧ 0 ≤ kk ∧ kk ≤ 9223372036854775807)
          case first =>
            by_cases hneg : o.kind < 0
            · go_wp2
              go_meet
              exact ⟨rfl, _, rfl, by omega, by omega⟩
            · go_wp2
              go_meet
              exact ⟨rfl, _, rfl, by omega, by omega⟩
          case rest =>
            obtain ⟨rfl, kk, rfl, hk0, hk1⟩ := hcut
            go_upto_region 21 with fail
            go_cut [93] (fun s93 wz => (wr.alloc (.cells #[.int .i64 o.kind, .string o.r.p, .slice o.r.A o.r.n o.r.c, .string o.pan] 45)) = wz ∧ ∃ rr : Int, s93 = .int .i64 rr ∧ 0 ≤ rr ∧ rr < 5)
            case first =>
              go_wp2
              go_meet
              exact ⟨rfl, _, rfl, by omega, by omega⟩
            case rest =>
              obtain ⟨rfl, rr, rfl, hr0, hr1⟩ := hcut
              apply_assumption
              generalize hwa : wr.alloc (.cells #[.int .i64 o.kind, .string o.r.p, .slice o.r.A o.r.n o.r.c, .string o.pan] 45) = wa
              have hal : Below wr.heap.size wr wa := by rw [← hwa]; exact (Below.refl _ _).alloc (Nat.le_refl _) _
              have hSz : Hid (w.heap.size ≤ wr.heap.size) := hS.out.2.2.2.2.2.2.size
              have hSa : Hid (St w.heap.size w wa mem ⟨gx, bx, Tx, gy, vy, ly⟩ ⟨gz, bz, Tz, gw, vw, lw⟩) := hS.out.below hSz.out hal
              have hBa : Hid (w.heap.size ≤ wa.heap.size) := Nat.le_trans hSz.out hal.size
              have hwh : Hid (wa.heap[wr.heap.size]? = some (.cells #[.int .i64 o.kind, .string o.r.p, .slice o.r.A o.r.n o.r.c, .string o.pan] 45 (0, 0))) := by show _ = _; rw [← hwa]; exact heap_alloc_new wr _
              have hlta : Hid (wr.heap.size < wa.heap.size) := (Array.getElem?_eq_some_iff.1 hwh.out).1
              have hltx : Hid (bx < wr.heap.size ∧ gy < wr.heap.size) := ⟨hS.out.1.1.blt, hS.out.1.2.1.lt⟩
              have q0 : wa.cell? ⟨wr.heap.size, 0, none⟩ = some (.int .i64 o.kind) := by rw [cell_of_row _ _ 0 _ _ _ hwh.out]; rfl
              have q1 : wa.cell? ⟨wr.heap.size, 1, none⟩ = some (.string o.r.p) := by rw [cell_of_row _ _ 1 _ _ _ hwh.out]; rfl
              have q2 : wa.cell? ⟨wr.heap.size, 2, none⟩ = some (.slice o.r.A o.r.n o.r.c) := by rw [cell_of_row _ _ 2 _ _ _ hwh.out]; rfl
              have q3 : wa.cell? ⟨wr.heap.size, 3, none⟩ = some (.string o.pan) := by rw [cell_of_row _ _ 3 _ _ _ hwh.out]; rfl
              have hra : Hid (RtOk wa o.r) := hok.out.2.2.1.keep (hSa.out.2.2.2.2.2.2)
              clear hal hwa d0 d1 d2 d3 hS
              go_cut [9, 11, 13, 14, 18, 19, 20, 21, 22] (fun x y z q s18 s19 s20 s21 s22 wz => ∃ X Z : Tabs, x = .pointer (some ⟨X.gx, 0, none⟩) ∧ y = .pointer (some ⟨X.gy, 0, none⟩) ∧ z = .pointer (some ⟨Z.gx, 0, none⟩) ∧ q = .pointer (some ⟨Z.gy, 0, none⟩) ∧ Hid (St w.heap.size w wz mem X Z) ∧ wz.cell? ⟨wr.heap.size, 3, none⟩ = some (.string o.pan))
              case first =>
                have hr : rr = 0 ∨ rr = 1 ∨ rr = 2 ∨ rr = 3 ∨ rr = 4 := by omega
                rcases hr with rfl | rfl | rfl | rfl | rfl
                · go_wp2_with fail
                  refine (lent_any 1 1 _ [⟨o.r.p, o.r.A, o.r.n, o.r.c, o.r.xs⟩] _ (one_route hra.out) (by decide)).mono ?_
                  rintro e wb ⟨v, rfl, L, hLs, hsh, hin, hb2⟩
                  obtain ⟨b1, cc, vt, A2, m2, d2, rfl, hcc, rfl, rfl, e0, e1, hi2, hmd, hm8⟩ := one_ls hLs hsh
                  have hal : Below wa.heap.size wa (wa.alloc (.cells #[.string o.r.p, .slice o.r.A o.r.n o.r.c] 32)) := (Below.refl _ _).alloc (Nat.le_refl _) _
                  have hSb : Hid (St w.heap.size w (wa.alloc (.cells #[.string o.r.p, .slice o.r.A o.r.n o.r.c] 32)) mem ⟨gx, bx, Tx, gy, vy, ly⟩ ⟨gz, bz, Tz, gw, vw, lw⟩) := hSa.out.below hBa.out hal
                  have hBb : Hid (w.heap.size ≤ (wa.alloc (.cells #[.string o.r.p, .slice o.r.A o.r.n o.r.c] 32)).heap.size) := Nat.le_trans hBa.out hal.size
                  have HLS := Lib.hid hLs
                  have HIN := Lib.hid hin
                  have HB2 := Lib.hid hb2
                  have HI2 := Lib.hid hi2
                  clear hLs hsh hin hb2 hi2 hal
                  go_wp2_with fail
                  refine (add_any gx bx m2 d2 mem Tx o.r.p A2 o.r.xs _ (hSb.out.below hBb.out HB2.out).1.1 hok.out.2.2.1.1 HI2.out hmd hm8 hSb.out.1.2.2.2.2.2).mono ?_
                  rintro e wc hadd
                  have HADD := Lib.hid hadd
                  have he := hadd.1
                  have hgr := Lib.hid hadd.2.1
                  rw [addE_sh] at he
                  generalize hr0 : addS mem (sh Tx) o.r.p o.r.xs = r0 at he
                  have HR0 := Lib.hid hr0
                  subst he
                  clear hadd hr0
                  go_wp2_with fail
                  refine (spoil_any (fun i => (wa.alloc (.cells #[.string o.r.p, .slice o.r.A o.r.n o.r.c] 32)).heap.size ≤ i ∧ i < wb.heap.size) _ _ _ (HLS.out.turn (Turn.of_grown hgr.out) (ls_map hSb.out HB2.out HLS.out)) ⟨fun k hk => ⟨HIN.out.1 k hk, HLS.out.lt.1 k hk⟩, fun t ht k hk => ⟨HIN.out.2 t ht k hk, HLS.out.lt.2 t ht k hk⟩⟩).mono ?_
                  rintro e wd ⟨rfl, ht4⟩
                  obtain ⟨_, ⟨T', hTT, hM⟩, hk1⟩ := st_mid hSb.out hBb.out HB2.out HADD.out ht4
                  have hbx : wr.heap.size ≠ bx := by have := hltx.out.1; omega
                  have hby : wr.heap.size ≠ gy := by have := hltx.out.2; omega
                  have hqd : wd.heap[wr.heap.size]? = _ := (hk1 _ (by have := hlta.out; simp; omega) hbx hby).trans ((Below.heap_alloc _ _ _ hlta.out).trans hwh.out)
                  have q1d : wd.cell? ⟨wr.heap.size, 1, none⟩ = some (.string o.r.p) := by rw [cell_of_row _ _ 1 _ _ _ hqd]; rfl
                  have q2d : wd.cell? ⟨wr.heap.size, 2, none⟩ = some (.slice o.r.A o.r.n o.r.c) := by rw [cell_of_row _ _ 2 _ _ _ hqd]; rfl
                  have hrd : Hid (RtOk wd o.r) := hok.out.2.2.1.keep hM.2.2.2.2.2.1
                  have hBd : Hid (w.heap.size ≤ wd.heap.size) := hM.2.2.2.2.2.1.size
                  have HTT := Lib.hid hTT
                  have HM := Lib.hid hM
                  have HQD := Lib.hid hqd
                  have HBX := Lib.hid hbx
                  have HBY := Lib.hid hby
                  have HLQ : Hid (wr.heap.size < wd.heap.size) := (Array.getElem?_eq_some_iff.1 hqd).1
                  clear hTT hM hqd hk1 ht4 hbx hby e0 e1 hcc hmd hm8
                  go_wp2_with fail
                  refine (radd_any gy o.r.n o.r.c mem vy ly o.r.p o.r.A o.r.xs _ HM.out.2.1 HM.out.2.2.1 hrd.out.1 hrd.out.2.1 hrd.out.2.2.2 hSb.out.1.len).mono ?_
                  rintro e we hra2
                  obtain ⟨he, ⟨X', ex, ey, eb, hS'⟩, hk2⟩ := st_added hmem.out HM.out HTT.out hBd.out hra2
                  rw [HR0.out] at he
                  subst he
                  have HS' := Lib.hid hS'
                  have hqe := (hk2 _ HLQ.out HBX.out HBY.out).trans HQD.out
                  have q3e : Hid (we.cell? ⟨wr.heap.size, 3, none⟩ = some (.string o.pan)) := by show _ = _; rw [cell_of_row _ _ 3 _ _ _ hqe]; rfl
                  have HEX := Lib.hid ex
                  have HEY := Lib.hid ey
                  clear hra2 hS' hk2 hqe ex ey eb
                  go_wp2_with fail
                  go_meet
                  exact ⟨X', ⟨gz, bz, Tz, gw, vw, lw⟩, by rw [HEX.out], by rw [HEY.out], rfl, rfl, HS', q3e.out⟩
                · go_wp2_with fail
                  refine (lent_any 1 1 _ [⟨o.r.p, o.r.A, o.r.n, o.r.c, o.r.xs⟩] _ (one_route hra.out) (by decide)).mono ?_
                  rintro e wb ⟨v, rfl, L, hLs, hsh, hin, hb2⟩
                  obtain ⟨b1, cc, vt, A2, m2, d2, rfl, hcc, rfl, rfl, e0, e1, hi2, hmd, hm8⟩ := one_ls hLs hsh
                  have hal : Below wa.heap.size wa (wa.alloc (.cells #[.string o.r.p, .slice o.r.A o.r.n o.r.c] 32)) := (Below.refl _ _).alloc (Nat.le_refl _) _
                  have hSb : Hid (St w.heap.size w (wa.alloc (.cells #[.string o.r.p, .slice o.r.A o.r.n o.r.c] 32)) mem ⟨gx, bx, Tx, gy, vy, ly⟩ ⟨gz, bz, Tz, gw, vw, lw⟩) := hSa.out.below hBa.out hal
                  have hBb : Hid (w.heap.size ≤ (wa.alloc (.cells #[.string o.r.p, .slice o.r.A o.r.n o.r.c] 32)).heap.size) := Nat.le_trans hBa.out hal.size
                  have HLS := Lib.hid hLs
                  have HIN := Lib.hid hin
                  have HB2 := Lib.hid hb2
                  have HI2 := Lib.hid hi2
                  clear hLs hsh hin hb2 hi2 hal
                  go_wp2_with fail
                  refine (add_any gx bx m2 d2 mem Tx o.r.p A2 o.r.xs _ (hSb.out.below hBb.out HB2.out).1.1 hok.out.2.2.1.1 HI2.out hmd hm8 hSb.out.1.2.2.2.2.2).mono ?_
                  rintro e wc hadd
                  have HADD := Lib.hid hadd
                  have he := hadd.1
                  have hgr := Lib.hid hadd.2.1
                  rw [addE_sh] at he
                  generalize hr0 : addS mem (sh Tx) o.r.p o.r.xs = r0 at he
                  have HR0 := Lib.hid hr0
                  subst he
                  clear hadd hr0
                  go_wp2_with fail
                  refine (spoil_any (fun i => (wa.alloc (.cells #[.string o.r.p, .slice o.r.A o.r.n o.r.c] 32)).heap.size ≤ i ∧ i < wb.heap.size) _ _ _ (HLS.out.turn (Turn.of_grown hgr.out) (ls_map hSb.out HB2.out HLS.out)) ⟨fun k hk => ⟨HIN.out.1 k hk, HLS.out.lt.1 k hk⟩, fun t ht k hk => ⟨HIN.out.2 t ht k hk, HLS.out.lt.2 t ht k hk⟩⟩).mono ?_
                  rintro e wd ⟨rfl, ht4⟩
                  obtain ⟨_, ⟨T', hTT, hM⟩, hk1⟩ := st_mid hSb.out hBb.out HB2.out HADD.out ht4
                  have hbx : wr.heap.size ≠ bx := by have := hltx.out.1; omega
                  have hby : wr.heap.size ≠ gy := by have := hltx.out.2; omega
                  have hqd : wd.heap[wr.heap.size]? = _ := (hk1 _ (by have := hlta.out; simp; omega) hbx hby).trans ((Below.heap_alloc _ _ _ hlta.out).trans hwh.out)
                  have q1d : wd.cell? ⟨wr.heap.size, 1, none⟩ = some (.string o.r.p) := by rw [cell_of_row _ _ 1 _ _ _ hqd]; rfl
                  have q2d : wd.cell? ⟨wr.heap.size, 2, none⟩ = some (.slice o.r.A o.r.n o.r.c) := by rw [cell_of_row _ _ 2 _ _ _ hqd]; rfl
                  have hrd : Hid (RtOk wd o.r) := hok.out.2.2.1.keep hM.2.2.2.2.2.1
                  have hBd : Hid (w.heap.size ≤ wd.heap.size) := hM.2.2.2.2.2.1.size
                  have HTT := Lib.hid hTT
                  have HM := Lib.hid hM
                  have HQD := Lib.hid hqd
                  have HBX := Lib.hid hbx
                  have HBY := Lib.hid hby
                  have HLQ : Hid (wr.heap.size < wd.heap.size) := (Array.getElem?_eq_some_iff.1 hqd).1
                  clear hTT hM hqd hk1 ht4 hbx hby e0 e1 hcc hmd hm8
                  go_wp2_with fail
                  refine (radd_any gy o.r.n o.r.c mem vy ly o.r.p o.r.A o.r.xs _ HM.out.2.1 HM.out.2.2.1 hrd.out.1 hrd.out.2.1 hrd.out.2.2.2 hSb.out.1.len).mono ?_
                  rintro e we hra2
                  obtain ⟨he, ⟨X', ex, ey, eb, hS'⟩, hk2⟩ := st_added hmem.out HM.out HTT.out hBd.out hra2
                  rw [HR0.out] at he
                  subst he
                  have HS' := Lib.hid hS'
                  have hqe := (hk2 _ HLQ.out HBX.out HBY.out).trans HQD.out
                  have q3e : Hid (we.cell? ⟨wr.heap.size, 3, none⟩ = some (.string o.pan)) := by show _ = _; rw [cell_of_row _ _ 3 _ _ _ hqe]; rfl
                  have HEX := Lib.hid ex
                  have HEY := Lib.hid ey
                  clear hra2 hS' hk2 hqe ex ey eb
                  go_wp2_with fail
                  go_meet
                  exact ⟨X', ⟨gz, bz, Tz, gw, vw, lw⟩, by rw [HEX.out], by rw [HEY.out], rfl, rfl, HS', q3e.out⟩
                · go_wp2_with fail
                  refine (drop_any gx bx mem Tx o.r.p _ hSa.out.1.1 hok.out.2.2.1.1).mono ?_
                  rintro e wb hd
                  have hq : wb.heap[wr.heap.size]? = _ := (hd.2.1.block _ hlta.out (by intro e; injection e with e; have := hltx.out.1; omega)).trans hwh.out
                  have q1b : wb.cell? ⟨wr.heap.size, 1, none⟩ = some (.string o.r.p) := by rw [cell_of_row _ _ 1 _ _ _ hq]; rfl
                  obtain ⟨r0, rfl, hy, hD⟩ := st_dropped hSa.out hBa.out hd
                  have HY := Lib.hid hy
                  have HD := Lib.hid hD
                  clear hD hq hd hy
                  go_wp2_with fail
                  refine (rdrop_any gy mem vy ly o.r.p _ HY.out hSa.out.1.2.2.1 hok.out.2.2.1.1 hSa.out.1.len).mono ?_
                  rintro e wc hrd
                  obtain ⟨rfl, ⟨X', ex, ey, eb, hS'⟩, hkept⟩ := HD.out wc e hrd
                  have HS' := Lib.hid hS'
                  have hq := (hkept _ hlta.out (by have := hltx.out.1; intro e; subst e; exact absurd this (Nat.lt_irrefl _)) (by have := hltx.out.2; intro e; subst e; exact absurd this (Nat.lt_irrefl _))).trans hwh.out
                  have q3c : Hid (wc.cell? ⟨wr.heap.size, 3, none⟩ = some (.string o.pan)) := by show _ = _; rw [cell_of_row _ _ 3 _ _ _ hq]; rfl
                  have HEX := Lib.hid ex
                  have HEY := Lib.hid ey
                  clear hrd hS' hkept hq ex ey eb
                  go_wp2_with fail
                  go_meet
                  exact ⟨X', ⟨gz, bz, Tz, gw, vw, lw⟩, by rw [HEX.out], by rw [HEY.out], rfl, rfl, HS', q3c.out⟩
                · go_wp2_with fail
                  go_meet
                  exact ⟨⟨gx, bx, Tx, gy, vy, ly⟩, ⟨gz, bz, Tz, gw, vw, lw⟩, rfl, rfl, rfl, rfl, hSa, q3⟩
                · go_wp2_with fail
                  refine (tclone_any gx bx mem Tx _ hSa.out.1.1).mono ?_
                  rintro e wb hc
                  have hc1 := hc
                  obtain ⟨hb1, g', b', rfl, hT', _, _⟩ := hc1
                  have HC := Lib.hid hc
                  have HB1 := Lib.hid hb1
                  clear hc hb1 hT'
                  go_wp2_with fail
                  refine (rclone_any gy mem vy ly _ (hSa.out.1.below HB1.out).2.1 hSa.out.1.len).mono ?_
                  rintro e wc hc'
                  obtain ⟨X', e1, e2, hS', hbb⟩ := st_cloned hSa.out hBa.out HC.out hc'
                  have HS' := Lib.hid hS'
                  have HBB := Lib.hid hbb
                  injection e1 with e1
                  injection e1 with e1
                  injection e1 with e1
                  injection e1 with e1
                  subst e1
                  subst e2
                  clear hc' hS' hbb HC
                  go_wp2_with fail
                  go_meet
                  exact ⟨X', ⟨gx, bx, Tx, gy, vy, ly⟩, rfl, rfl, rfl, rfl, HS', (HBB.out.cell (World.block_lt_of_cell? wa _ q3)).trans q3⟩
              case rest =>
                obtain ⟨X, Z, rfl, rfl, rfl, rfl, hSc, q3c⟩ := hcut
                obtain ⟨gx', bx', Tx', gy', vy', ly'⟩ := X
                obtain ⟨gz', bz', Tz', gw', vw', lw'⟩ := Z
                have hBc : Hid (w.heap.size ≤ wc.heap.size) := hSc.out.2.2.2.2.2.2.size
                have hpan := hok.out.2.2.2
                clear hSa hBa hwh hlta hltx q0 q1 q2 q3 hra hSz
                go_wp2_with fail
                refine (find_any gx' bx' mem Tx' o.pan _ hSc.out.1.1 hpan).mono ?_
                rintro e wd hf
                obtain ⟨va, rfl, hoa, hbd⟩ := found_both hf
                obtain ⟨Aa, na, ca, rfl, hsa⟩ : ∃ A n c, va = .slice A n c ∧ n = ((bestS (sh Tx') o.pan (min 8 o.pan.size)).getD []).length := by
                  obtain ⟨A, c, e, _⟩ := own_shape hoa
                  exact ⟨A, _, c, e, rfl⟩
                generalize hbs : (bestS (sh Tx') o.pan (min 8 o.pan.size)).isSome = bs at *
                generalize hxs : (bestS (sh Tx') o.pan (min 8 o.pan.size)).getD [] = xs at *
                have HOA := Lib.hid hoa
                have HBD := Lib.hid hbd
                have HNA := Lib.hid hsa
                clear hf hoa hbd hsa
                have hSd : Hid (St w.heap.size w wd mem ⟨gx', bx', Tx', gy', vy', ly'⟩ ⟨gz', bz', Tz', gw', vw', lw'⟩) := hSc.out.below hBc.out HBD.out
                have q3d : wd.cell? ⟨wr.heap.size, 3, none⟩ = some (.string o.pan) := (HBD.out.cell (World.block_lt_of_cell? wc _ q3c)).trans q3c
                have HBS := Lib.hid hbs
                have HXS := Lib.hid hxs
                clear hbs hxs q3c
                go_wp2_with fail
                refine (rfind_any gy' mem vy' ly' o.pan _ hSd.out.1.2.1 hpan hSd.out.1.len).mono ?_
                rintro e we hf
                obtain ⟨vb, rfl, hob, hbe⟩ := rfound_both hf hSd.out.1.2.2.2.2.1 hSd.out.1.2.2.2.1
                rw [HBS.out, HXS.out] at *
                obtain ⟨Ab, cb, rfl, _⟩ := own_shape hob
                have HOB := Lib.hid hob
                have HBE := Lib.hid hbe
                clear hf hob hbe
                obtain ⟨hna, hia, hla⟩ := own_ints (HOA.out)
                obtain ⟨hnb, hib, hlb⟩ := own_ints (HOB.out)
                have HIA := Lib.hid hia
                have HIB := Lib.hid hib
                have HNA2 := Lib.hid hna
                clear hia hib hna hnb
                go_wp2_with fail
                refine (ints_any na xs.length ca cb Aa Ab xs xs _ (HIA.out.keep HBE.out) HIB.out hla hlb).mono ?_
                rintro e wf ⟨he, hbf⟩
                rw [decide_eq_true rfl] at he
                subst he
                have hbE := HBD.out.trans (HBE.out.mono HBD.out.size)
                have HBF : Hid (Below wc.heap.size wc wf) := hbE.trans (hbf.mono hbE.size)
                have hsp : Hid (Spoilt wc.heap.size wc (.slice Aa na ca) na wf) := ⟨_, (by rw [HNA2.out] at HOA ⊢; exact own_turn HOA.out (Turn.of_below (HBE.out.trans (hbf.mono HBE.out.size))) (own_lt HOA.out)), HBF.out⟩
                have t9 : (bs != bs) = false := by cases bs <;> rfl
                clear hbf hbE
                go_wp2_with fail
                go_loopg [28] na (fun G s wz => ∃ j : Nat, j ≤ na ∧ G = na - j ∧ s = .int .i64 j ∧ Hid (Spoilt wc.heap.size wc (.slice Aa na ca) na wz))
                case atStart => exact ⟨0, Nat.zero_le _, rfl, rfl, hsp⟩
                case round =>
                  obtain ⟨j, hj, rfl, rfl, hsz⟩ := hrel
                  clear hsp
                  by_cases hjn : j < na
                  · obtain ⟨g9, c9, u9, e9, hc9, hf9, hset⟩ := hsz.out.at hjn
                    simp only [Value.slice.injEq] at e9
                    obtain ⟨rfl, -, -⟩ := e9
                    have HSET := Lib.hid hset
                    clear hset hsz
                    go_wp2_with fail
                    go_roundg (na - (j + 1))
                    case measure => omega
                    case rel => exact ⟨j + 1, by omega, rfl, by go_num, HSET.out _⟩
                  · have hSz : Hid (St w.heap.size w wr mem ⟨gx', bx', Tx', gy', vy', ly'⟩ ⟨gz', bz', Tz', gw', vw', lw'⟩) := by
                      obtain ⟨ys, _, hb⟩ := hsz.out
                      exact hSc.out.below hBc.out hb
                    have hBz : Hid (w.heap.size ≤ wr.heap.size) := hSz.out.2.2.2.2.2.2.size
                    clear hsz HOA HOB HIA HIB HNA HNA2 HBD HBE HBF hSd hSc q3d
                    go_wp2_with fail
                    refine (list_any gx' bx' mem Tx' _ hSz.out.1.1 hSz.out.1.2.2.2.2.2).mono ?_
                    rintro e wg ⟨v1, l1, rfl, hl1⟩
                    obtain ⟨hls1, hin1⟩ := hl1.ls (good_size hSz.out.1.2.2.2.2.1)
                    have hsame1 : Hid (sh l1 = sh ly') := listed_same hl1 hSz.out.1.2.2.1 hSz.out.1.2.2.2.1 hSz.out.1.2.2.2.2.1
                    have HBG : Hid (Below wr.heap.size wr wg) := hl1.2.2.2.2
                    obtain ⟨A1', n1', c1', rfl⟩ := own_slice hls1.1
                    obtain ⟨rs1, hr1, hs1, hn1⟩ := routes_le hls1
                    have HLS1 := Lib.hid hls1
                    have HIN1 := Lib.hid hin1
                    have HR1 := Lib.hid hr1
                    have HS1 := Lib.hid hs1
                    have HL1 := Lib.hid hl1
                    clear hl1 hls1 hin1 hr1 hs1
                    have hSg : Hid (St w.heap.size w wg mem ⟨gx', bx', Tx', gy', vy', ly'⟩ ⟨gz', bz', Tz', gw', vw', lw'⟩) := hSz.out.below hBz.out HBG.out
                    have hBg : Hid (w.heap.size ≤ wg.heap.size) := hSg.out.2.2.2.2.2.2.size
                    have hy := hSg.out.1.2.1
                    obtain ⟨Ay, ny, cy, ey⟩ := own_slice hy.2.1
                    have gy1 := hy.c1
                    have hy2 := hy.2
                    simp only at ey gy1 hy2
                    rw [ey] at gy1 hy2
                    obtain ⟨rsy, hry, hsy, hny⟩ := routes_le hy2
                    have HRY := Lib.hid hry
                    have HSY := Lib.hid hsy
                    have HEY := Lib.hid ey
                    clear hy hy2 hry hsy ey
                    go_wp2_with fail
                    refine (same_any n1' ny c1' cy A1' Ay rs1 rsy _ HR1.out HRY.out hn1 hny).mono ?_
                    rintro e wh ⟨he, hbh⟩
                    rw [decide_eq_true (by rw [HS1.out, HSY.out, hsame1.out])] at he
                    subst he
                    have HBH := Lib.hid hbh
                    have hSh : Hid (St w.heap.size w wh mem ⟨gx', bx', Tx', gy', vy', ly'⟩ ⟨gz', bz', Tz', gw', vw', lw'⟩) := hSg.out.below hBg.out HBH.out
                    have hy := hSh.out.2.1.2.1
                    obtain ⟨Aw, nw, cw, ew⟩ := own_slice hy.2.1
                    have gw1 := hy.c1
                    have hy2 := hy.2
                    simp only at ew gw1 hy2
                    rw [ew] at gw1 hy2
                    obtain ⟨rsw, hrw, hsw, hnw⟩ := routes_le hy2
                    have HRW := Lib.hid hrw
                    have HSW := Lib.hid hsw
                    clear hy hy2 hrw hsw ew gy1 hbh
                    go_wp2_with fail
                    go_region_with (first
                      | (go_at_call 9; refine (list_any gz' bz' mem Tz' _ (by exact hSh.out.2.1.1) hSh.out.2.1.2.2.2.2.2).mono ?_; rintro e wi ⟨v2, l2, rfl, hl2⟩; have hls2 := (hl2.ls (good_size hSh.out.2.1.2.2.2.2.1)).1; have HSAME2 : Hid (sh l2 = sh lw') := listed_same hl2 hSh.out.2.1.2.2.1 hSh.out.2.1.2.2.2.1 hSh.out.2.1.2.2.2.2.1; have HBI : Hid (Below wh.heap.size wh wi) := (by exact below_drawn hl2.2.2.2.2 rfl rfl rfl rfl); obtain ⟨A2', n2', c2', rfl⟩ := own_slice hls2.1; obtain ⟨rs2, hr2, hs2, hn2⟩ := routes_le hls2; have HR2 := Lib.hid hr2; have HS2 := Lib.hid hs2; have gw1i := (HBI.out.cell (World.block_lt_of_cell? wh _ gw1)).trans gw1; clear hl2 hls2 hr2 hs2)
                      | (go_at_call 20; refine (same_any n2' nw c2' cw A2' Aw rs2 rsw _ (by exact HR2.out) (by exact HRW.out.keep HBI.out) hn2 hnw).mono ?_; rintro e wj ⟨he, hbj⟩; rw [decide_eq_true (by rw [HS2.out, HSW.out, HSAME2.out])] at he; subst he; have HBJ : Hid (Below wi.heap.size wi wj) := (by exact below_drawn hbj rfl rfl rfl rfl); clear hbj))
                    all_goals go_wp2_with fail
                    all_goals have hgj : Below wg.heap.size wg wj := (HBH.out.trans (HBI.out.mono HBH.out.size)).trans (HBJ.out.mono (Nat.le_trans HBH.out.size HBI.out.size))
                    all_goals have hlsj : Ls wj (.slice A1' n1' c1') l1 := HLS1.out.below hgj
                    all_goals have HGJ := Lib.hid hgj
                    all_goals clear hgj gw1
                    all_goals refine (spoil_any (fun i => wr.heap.size ≤ i) _ l1 _ (by exact hlsj) HIN1.out).mono ?_
                    all_goals rintro e wk ⟨rfl, htk⟩
                    all_goals have hgk : Below wr.heap.size wj wk := (by exact below_drawn (htk.below (by exact Nat.le_trans HBG.out.size HGJ.out.size) (fun i hi h => absurd hi (by omega))) rfl rfl rfl rfl)
                    all_goals have hSk : Hid (St w.heap.size w wk mem ⟨gx', bx', Tx', gy', vy', ly'⟩ ⟨gz', bz', Tz', gw', vw', lw'⟩) := hSz.out.below hBz.out ((HBG.out.trans (HGJ.out.mono HBG.out.size)).trans hgk)
                    all_goals clear htk hgk hlsj
                    all_goals go_wp2_with fail
                    all_goals go_roundg (m - (k + 1))
                    all_goals first | omega | exact ⟨_, _, k + 1, by omega, rfl, by go_num, rfl, rfl, rfl, rfl, hSk⟩
        · go_wp2_with fail
          go_ret
          exact ⟨rfl, hS.out.2.2.2.2.2.2⟩
      · have e : k = m := by omega
        subst e
        go_wp2_with fail
        go_ret
        exact ⟨rfl, hS.out.2.2.2.2.2.2⟩
  · have he3 : e = .returned (.tuple #[.pointer none, .int .i64 (newE mem (rts l))]) := by
      have := hmade.2
      rw [if_neg hE] at this
      exact this
    have HB3 := Lib.hid hmade.1
    generalize hq : newE mem (rts l) = q at he3 hE
    subst he3
    have HQ := Lib.hid hq
    have HE := Lib.hid hE
    clear hmade hq hE
    go_wp2_with fail
    refine (spoil_any (fun i => w1.heap.size ≤ i) _ L _ (HLS.out.below HB3.out) HIN.out).mono ?_
    rintro e w4 ⟨rfl, ht4⟩
    have HB4 : Hid (Below w.heap.size w w4) := by
      have b3 := HB1.out.trans ((HB2.out.trans (HB3.out.mono HB2.out.size)).mono HB1.out.size)
      exact b3.trans (ht4.below b3.size (fun i hi h => by have := HB1.out.size; omega))
    clear ht4
    go_wp2_with fail
    refine (rnew_any n c mem A l _ (hL.out.keep HB4.out) (by omega)).mono ?_
    rintro e w5 hrm
    have he5 : e = .returned (.tuple #[.pointer none, .int .i64 q]) := by
      have := hrm.2
      rw [HQ.out, if_neg HE.out] at this
      exact this
    subst he5
    have HB5 := Lib.hid hrm.1
    clear hrm
    have t0 : (q != q) = false := by simp
    go_wp2_with fail
    go_ret
    exact ⟨rfl, HB4.out.trans (HB5.out.mono HB4.out.size)⟩
end Go.Proofs.YtpbpoddeiocgbaaDoor
