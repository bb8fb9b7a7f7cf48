/- List: a table's entries by rising prefixes, in memory of the call's own; Drop. -/
import Derived.Test.YtpbpoddeiocgbaaDoorRoNew
import Derived.Test.YtpbpoddeiocgbaaDoorRoLibI
set_option linter.unusedVariables false
set_option linter.unusedSimpArgs false
namespace Go.Proofs.YtpbpoddeiocgbaaDoor
open Go.RowKit Go.Maps Go.ChangeMaps Go.Sort Go.Shelf

theorem infoRoute : (Tryd.prog.info? 32).map (fun i => (i.zero, i.size, i.bytes)) = some (some (.agg #[.string ⟨#[]⟩, .slice none 0 0]), 2, 40) := by kernel_rfl
def cellsE (t : Ent) : List Value := [.string t.1, t.2.1]
def flat (l : List Ent) : List Value := l.flatMap cellsE

theorem append_ent {ops : Array Oper} {rest : List Oper} {o : Oper} {a : Act} {Q : Exit → Act → World → Prop} {W : World} (base : Nat) (hgd : o.guard = none) (s x : Operand)
    (ho : o.op = .call { callee := .builtin .append, args := #[s, x], argTypes := #[22, 22] })
    (v : Value) (l : List Ent) (t : Ent) (hs : a.eval s = v) (hx : a.eval x = .slice (some ⟨W.heap.size, 0, none⟩) 1 1) (h1 : t.2.1.oneCell' = true)
    (HO : W.ownsRow base 32 2 v l.length (flat l)) (hbase : base ≤ W.heap.size) (hl : (l.length + 1) * 40 ≤ 140737488355328)
    (h : ∀ v1 w1, w1.ownsRow base 32 2 v1 (l ++ [t]).length (flat (l ++ [t])) → W.grownBy w1 v.ownBlock → (v1.ownBlock = v.ownBlock ∨ ∃ b, v1.ownBlock = some b ∧ W.heap.size ≤ b) → wpList Tryd.prog ops Q rest (a.put o.dst v1) w1) :
    wpList Tryd.prog ops Q (o :: rest) a (W.alloc (.cells #[.string t.1, t.2.1] 32)) := by
  obtain ⟨i0, hi, hzz⟩ := Option.map_eq_some_iff.1 infoRoute
  simp only [Prod.mk.injEq] at hzz
  obtain ⟨hz0, hz1, hz2⟩ := hzz
  refine wpList_append_own_at (W.alloc (.cells #[.string t.1, t.2.1] 32)) hgd s x 22 ho base 32 i0 _ 2 40 Tryd.underlying22 hi hz0 hz1 hz2 rfl (by omega) v l.length (flat l) hs (HO.alloc _) ⟨W.heap.size, 0, none⟩ 1 1 (cellsE t) hx rfl
    (by simpa [cellsE] using World.news_of_block (cs := #[.string t.1, t.2.1]) (t := 32) (fr := (0, 0)) (heap_alloc_new W _)) ?_ (by simp only [maxLen]; omega) hl (by simp; omega) ?_
  · intro u hu
    simp only [cellsE, List.mem_cons, List.not_mem_nil, or_false] at hu
    rcases hu with rfl | rfl
    · rfl
    · exact h1
  intro v1 w1 hown hg _ hat
  refine h v1 w1 (by simpa [flat] using hown) (World.grownBy.trans (World.grownBy_alloc W _ _) hg) ?_
  rcases hat with hat | hat
  · exact .inl hat
  · exact .inr ⟨_, hat, by simp⟩

theorem at_findV {D : DataW Value} {T : List Ent} (hD : TabIs D (ents T)) (p : ByteArray) : D.atKey (.string p.data.toList) (.held (.slice none 0 0)) = .held (findV T p) := by
  unfold findV
  cases hf : T.find? (fun t => decide (t.1 = p)) with
  | none =>
    have hno : Maps.has D (.string p.data.toList) = false := by
      have := hD.has p
      unfold keyL at this
      rw [this, List.any_eq_false]
      intro x hx
      obtain ⟨t, ht, rfl⟩ := List.mem_map.1 hx
      simpa using List.find?_eq_none.1 hf t ht
    exact atKey_of_not_has hno _
  | some t =>
    have hm2 := List.mem_of_find?_eq_some hf
    have hp2 : t.1 = p := by simpa using List.find?_some hf
    have h3 := hD.at_ (s := p) (v := t.2.1) (by unfold ents; rw [← hp2]; exact List.mem_map.2 ⟨t, hm2, rfl⟩) (.held (.slice none 0 0))
    exact h3
theorem Tab.look1 {w : World} {g b : Nat} {mem : Int} {T : List Ent} (h : Tab w g b mem T) (p : ByteArray) (hp : p.size ≤ maxLen) :
    (Instr.lookup 52 (.map (some b)) (.string p) false).run Tryd.prog w = .ok (findV T p) w := by
  obtain ⟨D, hm, hD⟩ := h.2.1
  obtain ⟨v, ps, hrun, hv⟩ := hm.lookup law Tryd.underlying52 (zeroRow w) (zd := .held (.slice none 0 0)) (zp := []) rfl (Go.WideMaps.keyOf_string_mk (s := p) Tryd.underlying9 hp)
  have e2 := (rawE_eq hv).symm.trans (at_findV hD p)
  rw [hrun, DataW.held.inj e2]

/-- A slice of the call's own is at an address where it has an element. -/
theorem own_shape {w : World} {base n : Nat} {e : TypeId} {v : Value} {xs : List Value} (h : w.ownsRow base e 1 v n xs) : ∃ A c, v = .slice A n c ∧ (0 < n → ∃ g, A = some ⟨g, 0, none⟩ ∧ g < w.heap.size ∧ ∀ j u, xs[j]? = some u → w.cell? ⟨g, 0 + j, none⟩ = some u) := by
  rcases h.2 with ⟨rfl, rfl⟩ | ⟨g, cap, cur, rfl, _, hh, _⟩
  · exact ⟨none, 0, rfl, fun h => absurd h (by omega)⟩
  · refine ⟨_, cap, rfl, fun _ => ⟨g, rfl, (Array.getElem?_eq_some_iff.1 hh).1, fun j u hu => ?_⟩⟩
    have hcell := h.cells (g := g) rfl j u hu
    have e2 : (⟨g, 0, none⟩ : Addr).add j = ⟨g, 0 + j, none⟩ := by unfold Addr.add; split <;> simp_all
    rwa [e2] at hcell

/-- What List hands back: entries of its own that tell what the table tells, by rising keys. -/
def Listed (w w' : World) (T : List Ent) (v : Value) (l : List Ent) : Prop :=
  w'.ownsRow w.heap.size 32 2 v l.length (flat l) ∧ (∀ t ∈ l, MemRow w' t.2.1 t.2.2 ∧ ∀ k, t.2.1.ownBlock = some k → w.heap.size ≤ k) ∧ (∀ t ∈ l, (t.1, t.2.2) ∈ sh T) ∧ l.map (fun t => t.1.data.toList) = ((T.map fun t => t.1.data.toList).mergeSort fun x y => decide (x ≤ y)) ∧ Below w.heap.size w w'

/-- Key number k is a prefix that the table has. -/
theorem key_at {D : DataW Value} {T : List Ent} {ss K : List (List UInt8)} (hD : TabIs D (ents T)) (hp : ss.Perm (strKeys D)) (hK : (ss.mergeSort fun x y => decide (x ≤ y)) = K) {k : Nat} (hk : k < K.length) :
    ∃ t, T.find? (fun t => decide (t.1 = ⟨(K.getD k []).toArray⟩)) = some t := by
  have h1 : K.getD k [] ∈ K := by rw [List.getD_eq_getElem?_getD, List.getElem?_eq_getElem hk]; exact List.getElem_mem hk
  have h2 : K.getD k [] ∈ T.map fun t => t.1.data.toList := by
    refine ((Tab.keys hD).mem_iff).1 (hp.mem_iff.1 ?_)
    rw [← hK] at h1
    exact (List.mergeSort_perm _ _).mem_iff.1 (by rw [hK] at h1 ⊢; exact h1)
  obtain ⟨t, ht, he⟩ := List.mem_map.1 h2
  cases hf : T.find? (fun t => decide (t.1 = ⟨(K.getD k []).toArray⟩)) with
  | some t' => exact ⟨t', rfl⟩
  | none =>
    have := List.find?_eq_none.1 hf t ht
    exact absurd (decide_eq_true (bytes_ext (a := t.1) (b := ⟨(K.getD k []).toArray⟩) (by rw [he]))) this
theorem sorted_keys {D : DataW Value} {T : List Ent} {ss K : List (List UInt8)} (hD : TabIs D (ents T)) (hp : ss.Perm (strKeys D)) (hK : (ss.mergeSort fun x y => decide (x ≤ y)) = K) : K = (T.map fun t => t.1.data.toList).mergeSort fun x y => decide (x ≤ y) := by
  rw [← hK]
  exact mergeSort_of_perm (hp.trans (Tab.keys hD))

def ListRel (w w1 : World) (T : List Ent) (K : List (List UInt8)) (k : Nat) (v : Value) (wr : World) : Prop :=
  ∃ l : List Ent, l.length = k ∧ wr.ownsRow w1.heap.size 32 2 v l.length (flat l) ∧ (∀ t ∈ l, MemRow wr t.2.1 t.2.2 ∧ ∀ j, t.2.1.ownBlock = some j → w1.heap.size ≤ j) ∧ ((∀ t ∈ l, (t.1, t.2.2) ∈ sh T) ∧ l.map (fun t => t.1.data.toList) = K.take k) ∧ Below w1.heap.size w1 wr
theorem own_none (v : Value) : v.ownBlock = none ∨ v.ownBlock ≠ none := by
  cases v.ownBlock with
  | none => exact .inl rfl
  | some k => exact .inr (by simp)
theorem one_of_row {w : World} {base n : Nat} {e : TypeId} {v : Value} {xs : List Value} (h : w.ownsRow base e 1 v n xs) : v.oneCell' = true := by
  obtain ⟨A, c, rfl, _⟩ := own_shape h
  rfl
theorem ownMono {w : World} {base base' : Nat} {e : TypeId} {size n : Nat} {v : Value} {xs : List Value} (h : w.ownsRow base e size v n xs) (hb : base' ≤ base) : w.ownsRow base' e size v n xs :=
  ⟨h.1, h.2.imp id fun ⟨g, cap, cur, a, hb2, r⟩ => ⟨g, cap, cur, a, Nat.le_trans hb hb2, r⟩⟩
/-- A row of numbers is never the block of a row of routes. -/
theorem rowNeRoute {w : World} {base base' n m : Nat} {v v' : Value} {xs ys : List Value} (h : w.ownsRow base 3 1 v n xs) (h' : w.ownsRow base' 32 2 v' m ys) : ∀ k, v'.ownBlock = some k → v.ownBlock ≠ some k := by
  intro k hk hk2
  rcases h.2 with ⟨rfl, _⟩ | ⟨g, cap, cur, rfl, _, hh, _⟩
  · simp [Value.ownBlock] at hk2
  · rcases h'.2 with ⟨rfl, _⟩ | ⟨g', cap', cur', rfl, _, hh', _⟩
    · simp [Value.ownBlock] at hk
    · have e1 : g = k := by simpa [Value.ownBlock] using hk2
      have e2 : g' = k := by simpa [Value.ownBlock] using hk
      subst e1; subst e2
      rw [hh] at hh'
      injection hh' with hh'
      injection hh' with _ ht
      cases ht
theorem listRel_step {w w1 wr w2 w3 : World} {T : List Ent} {D : DataW Value} {ss K : List (List UInt8)} {l : List Ent} {t : Ent} {pp : ByteArray} {u v2 v3 : Value} (hD : TabIs D (ents T)) (hp : ss.Perm (strKeys D)) (hK : (ss.mergeSort fun x y => decide (x ≤ y)) = K)
    (hk : l.length < K.length) (hkey : pp.data.toList = K.getD l.length []) (htp : t.1 = pp) (htm : t ∈ T) (hrows : ∀ t ∈ l, MemRow wr t.2.1 t.2.2 ∧ ∀ j, t.2.1.ownBlock = some j → w1.heap.size ≤ j)
    (hcont : (∀ t ∈ l, (t.1, t.2.2) ∈ sh T) ∧ l.map (fun t => t.1.data.toList) = K.take l.length) (hB : Below w1.heap.size w1 wr) (h8 : 0 < t.2.2.length ∧ t.2.2.length * 8 ≤ 140737488355328) (hu : wr.ownsRow w1.heap.size 32 2 u l.length (flat l))
    (hr2 : w2.ownsRow wr.heap.size 3 1 v2 t.2.2.length (t.2.2.map (Value.int .i64))) (hb2 : Below wr.heap.size wr w2) (ho3 : w3.ownsRow w1.heap.size 32 2 v3 (l ++ [(pp, v2, t.2.2)]).length (flat (l ++ [(pp, v2, t.2.2)]))) (hg3 : w2.grownBy w3 u.ownBlock) :
    ListRel w w1 T K (l.length + 1) v3 w3 := by
  have hu2 := hu.kept (grown_below hb2 none) (own_none _)
  have hub : ∀ k, u.ownBlock = some k → w1.heap.size ≤ k := ownBase hu
  have hB2 : Below w1.heap.size w1 w2 := hB.trans (hb2.mono hB.size)
  refine ⟨l ++ [(pp, v2, t.2.2)], by simp, ho3, fun x hx => ?_, ⟨fun x hx => ?_, ?_⟩, hB2.grown hg3 hB2.size hub⟩
  · rcases List.mem_append.1 hx with h | h
    · have hm := (hrows x h).1.kept (grown_below hb2 none) (fun k e => by cases e)
      exact ⟨hm.kept hg3 (fun k hk => rowNeRoute hm.1 hu2 k hk), (hrows x h).2⟩
    · obtain rfl : x = (pp, v2, t.2.2) := by simpa using h
      have hm : MemRow w2 v2 t.2.2 := ⟨ownLow hr2, h8⟩
      exact ⟨hm.kept hg3 (fun k hk => rowNeRoute hm.1 hu2 k hk), fun j hj => Nat.le_trans hB.size (ownBase hr2 j hj)⟩
  · rcases List.mem_append.1 hx with h | h
    · exact hcont.1 x h
    · obtain rfl : x = (pp, v2, t.2.2) := by simpa using h
      exact List.mem_map.2 ⟨t, htm, by rw [htp]⟩
  · rw [List.map_append, hcont.2, List.take_succ_eq_append_getElem hk]
    simp [hkey, List.getD_eq_getElem?_getD, List.getElem?_eq_getElem hk]
set_option maxHeartbeats 1000000 in
set_option maxRecDepth 100000 in
theorem list_any (g b : Nat) (mem : Int) (T : List Ent) (w : World) (h : Tab w g b mem T) (hT32 : T.length ≤ 32) :
    Calls Tryd.prog 9 #[.pointer (some ⟨g, 0, none⟩)] w fun e w' => ∃ v l, e = .returned v ∧ Listed w w' T v l := by
  have hT := Lib.hid h
  clear h
  have hc1 := hT.out.c1
  obtain ⟨D, hmap, hTD⟩ := hT.out.2.1
  have HLE := Lib.hid (strKeys_le hmap Tryd.underlying9)
  have hsz : Maps.size D = T.length := by rw [hTD.size]; simp [ents]
  have hS := sorted_any b T.length D w hmap (by rw [hsz]; unfold maxLen; omega) (by rw [hsz]; omega)
  have HS := Lib.hid hS
  have HD := Lib.hid hTD
  clear hmap hS hTD hsz
  go_enter Tryd.func9, Tryd.ntmps9
  go_wp2_with (first | (go_at_call 23; refine (keys_any b _).mono ?_; rintro e w' ⟨rfl, rfl⟩) | (go_at_call 22; refine HS.out.mono ?_; rintro e w1 ⟨v, ss, rfl, hp, hrow, hbel⟩; obtain ⟨A, c, rfl, hsh⟩ := own_shape hrow))
  have HP := Lib.hid hp
  have HSH := Lib.hid hsh
  have HB1 : Hid (Below w.heap.size w w1) := ((Below.refl _ _).alloc (Nat.le_refl _) _).trans (hbel.mono (by simp))
  clear hp hsh hrow hbel
  generalize hK : (ss.mergeSort fun x y => decide (x ≤ y)) = K at HSH
  have HK := Lib.hid hK
  clear hK
  have hKl : Hid (K.length = ss.length) := by show _ = _; rw [← HK.out]; exact List.length_mergeSort _
  have hss : ss.length ≤ 32 := by rw [(HP.out.trans (Tab.keys HD.out)).length_eq, List.length_map]; exact hT32
  go_loopw [3, 13] (fun v i wr => ∃ k : Nat, k ≤ ss.length ∧ i = .int .i64 k ∧ ListRel w w1 T K k v wr) (fun _ i _ => ss.length - (intOf i).toNat)
  case atStart => exact ⟨0, Nat.zero_le _, rfl, [], rfl, World.ownsRow_nil _ _ _ _, by simp, ⟨by simp, by simp⟩, Below.refl _ _⟩
  case round =>
    obtain ⟨k, hk, rfl, hR⟩ := hrel
    by_cases hlt : k < ss.length
    · obtain ⟨kg, rfl, hkl, hkc⟩ := HSH.out (by omega)
      obtain ⟨l, rfl, hown, hrows, hcont, hB⟩ := hR
      have hkK : l.length < K.length := by rw [hKl]; exact hlt
      have hkc1 := hkc l.length (encStr (K.getD l.length [])) (by simp [List.getElem?_eq_getElem hkK, List.getD_eq_getElem?_getD])
      have hcell := (hB.cell (World.block_lt_of_cell? w1 _ hkc1)).trans hkc1
      unfold encStr at hcell
      rw [Nat.zero_add] at hcell
      have hT1 := (hT.out.below HB1.out).below hB
      obtain ⟨t, ht⟩ := key_at HD.out HP.out HK.out hkK
      obtain ⟨e1, e2, htm, hte⟩ := findV_some ht
      have hple : (⟨(K.getD l.length []).toArray⟩ : ByteArray).size ≤ maxLen := by
        have := HLE.out (K.getD l.length []) (HP.out.mem_iff.1 (by
          have h1 : K.getD l.length [] ∈ K := by rw [List.getD_eq_getElem?_getD, List.getElem?_eq_getElem hkK]; exact List.getElem_mem hkK
          have h2 := HK.out
          rw [← h2] at h1
          exact (List.mergeSort_perm _ _).mem_iff.1 (by rw [h2] at h1 ⊢; exact h1)))
        simpa [ByteArray.size] using this
      have hL1 := hT1.look1 ⟨(K.getD l.length []).toArray⟩ hple
      rw [e1] at hL1
      obtain ⟨kb, cap, cur, hv, hob, hltb, hh, hlc, hcm, hcs⟩ := (hT1.2.2 t htm).block
      rw [hv] at hL1
      generalize hpp : (⟨(K.getD l.length []).toArray⟩ : ByteArray) = pp at hL1 hcell
      have hkey : pp.data.toList = K.getD l.length [] := by rw [← hpp]
      have htp : t.1 = pp := by rw [hte, hpp]
      have hc1' := hT1.c1
      have HKEY := Lib.hid hkey
      have HTP := Lib.hid htp
      have HTM := Lib.hid htm
      have HCS := Lib.hid hcs
      have HT1 := Lib.hid hT1
      have HOWN := Lib.hid hown
      have HROWS := Lib.hid hrows
      have HCONT := Lib.hid hcont
      have H8 := Lib.hid (hT1.2.2 t htm).2
      clear hkey htp htm hcs hT1 hown hrows hcont hkc1 hkc hv hob hh hple ht e1 e2 hte hpp hkK
      go_wp2_with (first
        | (go_at_call 21; refine (clone_any kb 0 t.2.2.length cap t.2.2 _ rfl H8.out.2 (by exact HCS.out)).mono ?_; rintro e w2 ⟨v2, rfl, hrow2, hb2⟩; obtain ⟨A2, c2, rfl, hs2⟩ := own_shape hrow2; clear hs2; have HR2 := Lib.hid hrow2; clear hrow2)
        | (at_builtin; go_loud (refine append_ent w1.heap.size rfl (.tmp 17) (.tmp 27) rfl u3 l (pp, .slice A2 t.2.2.length c2, t.2.2) rfl rfl (one_of_row HR2.out) (HOWN.out.kept (grown_below hb2 none) (own_none _)) (Nat.le_trans hB.size hb2.size) (by omega) ?_); intro v3 w3 hown3 hg3 hloc; have HO3 := Lib.hid hown3; have HG3 := Lib.hid hg3; have HLOC := Lib.hid hloc; clear hown3 hg3 hloc))
      go_round
      case rel => exact ⟨l.length + 1, by omega, by go_num, listRel_step HD.out HP.out HK.out (by rw [hKl]; exact hlt) HKEY.out HTP.out HTM.out HROWS.out HCONT.out hB H8.out HOWN.out HR2.out hb2 HO3.out HG3.out⟩
      case measure => simp [intOf]; omega
    · have e : k = ss.length := by omega
      subst e
      obtain ⟨l, hl, hown, hrows, hcont, hB⟩ := hR
      have HOWN := Lib.hid hown
      have HROWS := Lib.hid hrows
      have HCONT := Lib.hid hcont
      have HL := Lib.hid hl
      clear hown hrows hcont hl
      go_wp2
      go_ret
      refine ⟨_, l, rfl, ownMono HOWN.out HB1.out.size, fun t ht => ⟨(HROWS.out t ht).1, fun j hj => Nat.le_trans HB1.out.size ((HROWS.out t ht).2 j hj)⟩, HCONT.out.1, ?_, HB1.out.trans (hB.mono HB1.out.size)⟩
      rw [HCONT.out.2, List.take_of_length_le (by rw [hKl]; exact Nat.le_refl _)]
      exact sorted_keys HD.out HP.out HK.out

end Go.Proofs.YtpbpoddeiocgbaaDoor
