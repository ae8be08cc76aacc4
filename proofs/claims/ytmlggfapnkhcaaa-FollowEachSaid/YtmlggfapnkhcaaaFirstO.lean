/-
  The tokens with which items begin, as far as is known (first's known.of).
-/
import Derived.Test.YtmlggfapnkhcaaaFirstF
import Derived.Test.YtmlggfapnkhcaaaFirstU
import Derived.Test.YtmlggfapnkhcaaaNullR
namespace Go.Proofs.Ytmlggfapnkhcaaa
open Go.RowKit Go.Shelf
attribute [local simp] wide_fn

/-- Rising numbers below N. -/
def Bd (N : Nat) (l : List Int) : Prop := Asc l ∧ ∀ z ∈ l, 0 ≤ z ∧ z < N
theorem asc_count : ∀ (l : List Int) (lo hi : Int), Asc l → (∀ z ∈ l, lo ≤ z ∧ z < hi) → (l.length : Int) ≤ max 0 (hi - lo) := by
  intro l
  induction l with
  | nil => intro lo hi _ _; simp; omega
  | cons x l ih =>
    intro lo hi ha h
    have ha' := List.pairwise_cons.1 ha
    have hx := h x (by simp)
    have := ih (x + 1) hi ha'.2 (fun z hz => ⟨by have := ha'.1 z hz; omega, (h z (by simp [hz])).2⟩)
    simp only [List.length_cons]
    omega
theorem rd_litI {w : World} {b size n : Nat} {t : TypeId} {T : Nat → Prop} {cs : Array Value} {ds : List Value} (h : Holds w b t cs) (hT : T b) (he : cs.toList = ds) (hl : ds.length = n * size) (hn : n ≤ maxLen) : Rd w T size (.slice (some ⟨b, 0, none⟩) n n) n ds := by
  subst he
  exact ⟨hl, _, n, rfl, Nat.le_refl _, hn, fun _ => ⟨b, 0, rfl, hT, fun j u hu => by rw [Nat.zero_add, h.cell j]; simpa using hu⟩⟩
theorem Bd.len {N : Nat} {l : List Int} (h : Bd N l) : l.length ≤ N := by
  have := asc_count l 0 N h.1 h.2
  omega
theorem Bd.union {N : Nat} {a b : List Int} (ha : Bd N a) (hb : Bd N b) : Bd N (mergeU a b) := ⟨asc_union ha.1 hb.1, fun z hz => by
  rcases mem_union.1 hz with h | h
  · exact ha.2 z h
  · exact hb.2 z h⟩
theorem Bd.nil (N : Nat) : Bd N [] := ⟨List.Pairwise.nil, fun z h => by cases h⟩
theorem Bd.one {N : Nat} {x : Int} (h : 0 ≤ x ∧ x < N) : Bd N [x] := ⟨List.pairwise_singleton _ _, fun z hz => by rw [List.mem_singleton] at hz; subst hz; exact h⟩

/-- What is known, where it lies: the rows' row in the block q. -/
structure KnowAt (w : World) (K q : Nat) (ve : Value) (em : List Bool) (F : List (List Int)) : Prop where
  at_ : Holds w K 88 #[ve, .slice (some ⟨q, 0, none⟩) F.length F.length]
  ne : K ≠ q
  bools : Bools w (fun k => k < w.heap.size ∧ k ≠ q) ve em
  rows : ∃ cs, Holds w q 34 cs ∧ cs.size = F.length ∧ ∀ (r : Nat) (l : List Int), F[r]? = some l → ∃ u, cs[r]? = some u ∧ Ints w (fun k => k < w.heap.size ∧ q < k) u l
theorem rd_laterq {w w' : World} {q size n : Nat} {v : Value} {cs : List Value} (h : Rd w (fun k => k < w.heap.size ∧ q < k) size v n cs) (hb : Below w.heap.size w w') : Rd w' (fun k => k < w'.heap.size ∧ q < k) size v n cs :=
  (h.below hb (fun _ hk => hk.1)).mono (fun _ hk => ⟨Nat.lt_of_lt_of_le hk.1 hb.size, hk.2⟩)
theorem rd_later {w w' : World} {q size n : Nat} {v : Value} {cs : List Value} (h : Rd w (fun k => k < w.heap.size ∧ k ≠ q) size v n cs) (hb : Below w.heap.size w w') : Rd w' (fun k => k < w'.heap.size ∧ k ≠ q) size v n cs :=
  (h.below hb (fun _ hk => hk.1)).mono (fun _ hk => ⟨Nat.lt_of_lt_of_le hk.1 hb.size, hk.2⟩)
theorem KnowAt.later {w w' : World} {K q : Nat} {ve : Value} {em : List Bool} {F : List (List Int)} (h : KnowAt w K q ve em F) (hb : Below w.heap.size w w') : KnowAt w' K q ve em F := by
  obtain ⟨cs, h1, h2, h3⟩ := h.rows
  exact ⟨h.at_.below hb h.at_.lt, h.ne, rd_later h.bools hb, cs, h1.below hb h1.lt, h2, fun r l hl => by obtain ⟨u, a, b⟩ := h3 r l hl; exact ⟨u, a, rd_laterq b hb⟩⟩
theorem KnowAt.row {w : World} {K q : Nat} {ve : Value} {em : List Bool} {F : List (List Int)} (h : KnowAt w K q ve em F) {r : Nat} {l : List Int} (hl : F[r]? = some l) : ∃ u, w.cell? ⟨q, r, none⟩ = some u ∧ Ints w (Old w) u l := by
  obtain ⟨cs, h1, h2, h3⟩ := h.rows
  obtain ⟨u, a, b⟩ := h3 r l hl
  exact ⟨u, (h1.cell r).trans a, b.mono (fun _ hk => hk.1)⟩
/-- A row is another one. -/
theorem KnowAt.put {w : World} {K q : Nat} {ve : Value} {em : List Bool} {F : List (List Int)} (h : KnowAt w K q ve em F) {r : Nat} {u : Value} {l : List Int} (hr : r < F.length) (hu : Ints w (fun k => k < w.heap.size ∧ q < k) u l) : KnowAt (w.setCell ⟨q, r, none⟩ u) K q ve em (F.set r l) := by
  obtain ⟨cs, h1, h2, h3⟩ := h.rows
  have hk : ∀ {size n : Nat} {v : Value} {ds : List Value}, Rd w (fun k => k < w.heap.size ∧ k ≠ q) size v n ds → Rd (w.setCell ⟨q, r, none⟩ u) (fun k => k < (w.setCell ⟨q, r, none⟩ u).heap.size ∧ k ≠ q) size v n ds := fun hd => by
    have := Rd.set hd (p := ⟨q, r, none⟩) (fun hk => hk.2 rfl) u
    rwa [World.size_setCell]
  have hkq : ∀ {size n : Nat} {v : Value} {ds : List Value}, Rd w (fun k => k < w.heap.size ∧ q < k) size v n ds → Rd (w.setCell ⟨q, r, none⟩ u) (fun k => k < (w.setCell ⟨q, r, none⟩ u).heap.size ∧ q < k) size v n ds := fun hd => by
    have := Rd.set hd (p := ⟨q, r, none⟩) (fun hk => Nat.lt_irrefl _ hk.2) u
    rwa [World.size_setCell]
  refine ⟨?_, h.ne, hk h.bools, _, h1.set r u, by simp [h2], fun i m hm => ?_⟩
  · rw [List.length_set]
    exact h.at_.far (p := ⟨q, r, none⟩) h.ne u
  · rw [List.getElem?_set] at hm
    by_cases e : r = i
    · subst e
      rw [if_pos rfl, if_pos hr] at hm
      cases hm
      exact ⟨u, Array.getElem?_setIfInBounds_self_of_lt (by omega), hkq hu⟩
    · rw [if_neg e] at hm
      obtain ⟨u', a, b⟩ := h3 i m hm
      exact ⟨u', by rw [Array.getElem?_setIfInBounds_ne e]; exact a, hkq b⟩
theorem ofF_step {em : List Bool} {F : List (List Int)} {l : List Item} {k : Nat} {x : Item} (hx : l[k]? = some x) (out : List Int) : ofF em F (l.drop k) out = if x.rule = false then mergeU out [x.n] else if atB em x.n = true then ofF em F (l.drop (k + 1)) (mergeU out (F.getD x.n.toNat [])) else mergeU out (F.getD x.n.toNat []) := by
  obtain ⟨hk, e⟩ := List.getElem?_eq_some_iff.1 hx
  rw [List.drop_eq_getElem_cons hk, e]
  rw [ofF]
/-- What items may name. -/
structure ItemsOk (N n : Nat) (l : List Item) : Prop where
  tok : ∀ x ∈ l, x.rule = false → 0 ≤ x.n ∧ x.n < N
  rule : ∀ x ∈ l, x.rule = true → 0 ≤ x.n ∧ x.n < n

set_option maxRecDepth 20000 in
set_option maxHeartbeats 8000000 in
theorem known_of (w : World) (K q N : Nat) (ve vl : Value) (em : List Bool) (F : List (List Int)) (l : List Item) (HK : KnowAt w K q ve em F) (hF : ∀ r ∈ F, Bd N r) (hN : N ≤ 100000) (hem : em.length = F.length) (hl : ItemsOk N F.length l) (hR : Rd w (Old w) 4 vl l.length (l.flatMap itCells)) :
    Calls Try.prog 65 #[.pointer (some ⟨K, 0, none⟩), vl] w fun r w' => (∃ u, r = .returned u ∧ Hid (IntsM w' w.heap.size u (ofF em F l [])) ∧ Bd N (ofF em F l [])) ∧ Below w.heap.size w w' := by
  have HKn := hidden (fun (w' : World) (hb : Below w.heap.size w w') => HK.later hb)
  have HRd := hidden (fun (w' : World) (hb : Below w.heap.size w w') => Rd.old hR hb)
  have HUn := hidden (fun (w' : World) va vb a b h1 h2 h3 => many_Union w' va vb a b h1 h2 h3)
  have HSt := hidden (fun k x (hx : l[k]? = some x) out => ofF_step (em := em) (F := F) hx out)
  have HTk := hidden (fun k x (hx : l[k]? = some x) => hl.tok x (List.mem_of_getElem? hx))
  have HRu := hidden (fun k x (hx : l[k]? = some x) => hl.rule x (List.mem_of_getElem? hx))
  have HFr := hidden (fun (z : Int) (h : 0 ≤ z ∧ z < F.length) => (by
    have hz : z.toNat < F.length := by omega
    rw [List.getD_eq_getElem?_getD, List.getElem?_eq_getElem hz]
    exact hF _ (List.getElem_mem hz) : Bd N (F.getD z.toNat [])))
  have HFg := hidden (fun (z : Int) (h : 0 ≤ z ∧ z < F.length) => (by
    have hz : z.toNat < F.length := by omega
    rw [List.getD_eq_getElem?_getD, List.getElem?_eq_getElem hz]
    rfl : F[z.toNat]? = some (F.getD z.toNat [])))
  have HEm := hidden (fun (z : Int) (h : 0 ≤ z ∧ z < F.length) => (by
    have hz : z.toNat < em.length := by omega
    unfold atB
    rw [List.getD_eq_getElem?_getD, List.getElem?_eq_getElem hz]
    rfl : em[z.toNat]? = some (atB em z)))
  obtain ⟨Ae, ce, rfl, _, he2⟩ := HK.bools.val
  obtain ⟨Al, cl, rfl, hl1, hl2⟩ := hR.val
  unfold maxLen at hl2 he2
  have hD0 : l.drop 0 = l := rfl
  clear HK hF hl hR
  generalize hofF : ofF em F l [] = R
  have HR0 : Hid (ofF em F (l.drop 0) [] = R) := hidden hofF
  clear hofF hD0
  have hBN := Bd.nil N
  have HBN := hidden hBN
  clear hBN
  go_enter Try.func65, Try.ntmps65
  go_wp2
  go_loopg [5, 10] l.length (fun gh oo kk wr => ∃ (k : Nat) (out : List Int), k ≤ l.length ∧ gh = l.length - k ∧ kk = .int .i64 k ∧ Hid (IntsM wr w.heap.size oo out) ∧ Hid (Bd N out) ∧ Hid (ofF em F (l.drop k) out = R) ∧ Below w.heap.size w wr)
  case atStart => exact ⟨0, [], by omega, by omega, by go_num, hidden (Mine.nil _ _ _ _), HBN, HR0, Below.refl _ _⟩
  case round =>
    clear HR0 HBN
    obtain ⟨k, out, hk, rfl, rfl, HM, HBo, HE, hb⟩ := hrel
    have hbz := hb.size
    by_cases hlt : k < l.length
    · have hx := List.getElem?_eq_getElem hlt
      have HSx := hidden (HSt.out k _ hx out)
      have HTx := hidden (HTk.out k _ hx)
      have HRx := hidden (HRu.out k _ hx)
      obtain ⟨b4, o4, rfl, hT4, hat⟩ := (HRd.out wr hb).flat_at (fun _ => rfl) (by decide) hx
      generalize l[k] = x at *
      have i0 := hat 0 _ rfl; have i1 := hat 1 _ rfl; have i2 := hat 2 _ rfl; have i3 := hat 3 _ rfl
      rw [Nat.add_zero] at i0
      have hT4 : b4 < wr.heap.size := hT4
      have hbl := HBo.out.len
      clear hat hx
      obtain ⟨A5, c5, rfl⟩ := HM.out.value
      have hal := (Below.refl wr.heap.size wr).alloc (Nat.le_refl _) (.cells #[.bool x.rule, .int .i64 x.n, .int .i64 x.gap, .int .i64 x.in_] 49)
      have hbx := hb.alloc hbz (.cells #[.bool x.rule, .int .i64 x.n, .int .i64 x.gap, .int .i64 x.in_] 49)
      have HXb := hidden (Holds.new wr 49 #[.bool x.rule, .int .i64 x.n, .int .i64 x.gap, .int .i64 x.in_])
      cases hr : x.rule with
      | false =>
        obtain ⟨t1, t2⟩ := HTx.out hr
        have hRe : Hid (mergeU out [x.n] = R) := hidden (by rw [← HE.out, HSx.out, if_pos hr])
        have hBe : Hid (Bd N (mergeU out [x.n])) := hidden (HBo.out.union (Bd.one ⟨t1, t2⟩))
        rw [hr] at i0 hal hbx
        have hal2 := hal.alloc hal.size (.cells #[.int .i64 x.n] 3)
        have hbx2 := hbx.alloc (by simp; omega) (.cells #[.int .i64 x.n] 3)
        have hA9 := hidden (Rd.old (RowM.rd HM.out) hal2)
        have hB9 : Hid (Ints ((wr.alloc (.cells #[.bool false, .int .i64 x.n, .int .i64 x.gap, .int .i64 x.in_] 49)).alloc (.cells #[.int .i64 x.n] 3)) (Old ((wr.alloc (.cells #[.bool false, .int .i64 x.n, .int .i64 x.gap, .int .i64 x.in_] 49)).alloc (.cells #[.int .i64 x.n] 3))) (.slice (some ⟨wr.heap.size + 1, 0, none⟩) 1 1) [x.n]) := hidden (rd_litI (Holds.new_at (by simp)) (by simp [Old]) rfl rfl (by decide))
        have HC := hidden (HUn.out _ _ _ _ _ hA9.out hB9.out (by simp; omega))
        clear hA9 hB9
        go_wp2_with fail
        refine HC.out.mono ?_
        rintro r w2 ⟨⟨u, rfl, hu⟩, hb2⟩
        have hbe := hbx2.trans (hb2.mono hbx2.size)
        have hue : IntsM w2 w.heap.size u (mergeU out [x.n]) := Mine.base hu.out hbx2.size
        clear hb2 hu HC i0 i1 i2 i3
        go_wp2
        go_ret
        exact ⟨⟨_, rfl, hidden (by rw [← hRe.out]; exact hue), by rw [← hRe.out]; exact hBe.out⟩, hbe⟩
      | true =>
        have hz := HRx.out hr
        obtain ⟨nx, hnx⟩ := Int.eq_ofNat_of_zero_le hz.1
        have hFb := hidden (HFr.out _ hz)
        have hEm := HEm.out _ hz
        have HKw := HKn.out wr hb
        obtain ⟨u, hu, hRow⟩ := HKw.row (HFg.out _ hz)
        have hnt : x.n.toNat = nx := by omega
        rw [hnt] at hEm
        rw [hnx] at hz i1 hal hbx hu
        rw [Int.toNat_natCast] at hu
        rw [hr] at i0 hal hbx HXb
        have hRb := HKw.bools
        obtain ⟨Au, cu, rfl, hcu1, hcu2⟩ := hRow.val
        unfold maxLen at hcu2
        obtain ⟨be, oe, rfl, _, hem⟩ := row_at hRb hEm
        have k0 : wr.cell? ⟨K, 0, none⟩ = some (.slice (some ⟨be, oe, none⟩) em.length ce) := HKw.at_.cell 0
        have k1 : wr.cell? ⟨K, 1, none⟩ = some (.slice (some ⟨q, 0, none⟩) F.length F.length) := HKw.at_.cell 1
        have HNx : Hid (x.n = (nx : Int)) := hidden hnx
        have hfl := hFb.out.len
        have HSy : Hid (ofF em F (l.drop k) out = if atB em x.n = true then ofF em F (l.drop (k + 1)) (mergeU out (F.getD x.n.toNat [])) else mergeU out (F.getD x.n.toNat [])) := hidden (by rw [HSx.out, if_neg (by rw [hr]; decide)])
        have HRw := hidden hRow
        have hBU := hidden (HBo.out.union hFb.out)
        clear HKw hRow hRb hEm HSx
        generalize F.getD x.n.toNat [] = fr at *
        generalize atB em x.n = eb at *
        clear hnt
        rw [hnx] at *
        clear hnx hr
        have e1 := cell_onI k1 hal; have e0 := cell_onI k0 hal; have e2 := cell_onI hu hal; have e3 := cell_onI hem hal
        have hz7 : nx < F.length := by omega
        have hz8 : nx < em.length := by omega
        have hKl : K < wr.heap.size := World.block_lt_of_cell? _ _ k0
        have HXb := hidden (Holds.new wr 49 #[.bool true, .int .i64 (nx : Int), .int .i64 x.gap, .int .i64 x.in_])
        have x1 : (wr.alloc (.cells #[.bool true, .int .i64 (nx : Int), .int .i64 x.gap, .int .i64 x.in_] 49)).cell? ⟨wr.heap.size, 1, none⟩ = some (.int .i64 (nx : Int)) := HXb.out.cell 1
        have t0 := Ext.cell e0; have t1 := Ext.cell e1; have t2 := Ext.cell e2; have t3 := Ext.cell e3; have t4 := Ext.cell x1
        have HMo := hidden (Rd.old (RowM.rd HM.out) hal)
        have HRo := hidden (Rd.old HRw.out hal)
        have hlx := HXb.out.lt
        clear HRw
        go_wp2_with fail
        refine (wpIn_wide (n := 5)).1 ?_
        refine wpIn_region_ext_tail 9 (by kernel_rfl) (by kernel_rfl) rfl ?_
        simp only [List.take_succ_cons, List.take_zero, List.drop_succ_cons, List.drop_zero]
        repeat (gi_big_quiet_step (fail))
        refine wpQuietIn_nil ?_
        intro w5 hb5
        have HC := hidden (HUn.out w5 _ _ _ _ (Rd.old HMo.out hb5) (Rd.old HRo.out hb5) (by omega))
        have hbx5 := hbx.trans (hb5.mono hbx.size)
        have s0 := cell_onI e0 hb5; have s3 := cell_onI e3 hb5; have s4 := cell_onI x1 hb5
        clear t0 t1 t2 t3 t4 HMo HRo hb5 i0 i1 i2 i3 e0 e1 e2 e3 x1 k0 k1 hu hem
        gi_wp2_with fail
        refine CallsIn.mono (F := Fence.wide) (callsIn_wide.2 HC.out) ?_
        rintro r w6 ⟨⟨u6, rfl, hu6⟩, hb6⟩
        have hbx6 := hbx5.trans (hb6.mono hbx5.size)
        have hMn : IntsM w6 w.heap.size u6 (mergeU out fr) := Mine.base hu6.out hbx5.size
        have HMn := hidden hMn
        have y0 := Ext.cell (cell_onI s0 hb6); have y3 := Ext.cell (cell_onI s3 hb6); have y4 := Ext.cell (cell_onI s4 hb6)
        clear hu6 hb6 s0 s3 s4 HC hMn
        gi_wp2_with fail
        obtain ⟨A6, c6, rfl⟩ := HMn.out.value
        cases eb with
        | true =>
          have HE2 : Hid (ofF em F (l.drop (k + 1)) (mergeU out fr) = R) := hidden (by rw [← HE.out, HSy.out, if_pos rfl])
          clear HSy HE
          go_wp2_with fail
          refine wp_region_ext (by kernel_rfl) (by kernel_rfl) ?_
          repeat (go_big_quiet_step (fail))
          refine wpQuiet_nil ?_
          intro w7 hb7
          have HMz := hidden (Mine.below HMn.out hb7)
          have hbz7 := hbx6.trans (hb7.mono hbx6.size)
          clear hb7 y0 y3 y4 HMn
          go_wp2
          go_roundg (l.length - (k + 1))
          case measure => omega
          case rel => exact ⟨k + 1, mergeU out fr, by omega, rfl, by go_num, HMz, hBU, HE2, hbz7⟩
        | false =>
          have HE2 : Hid (mergeU out fr = R) := hidden (by rw [← HE.out, HSy.out, if_neg (by decide)])
          clear HSy HE
          go_wp2_with fail
          refine wp_region_ext (by kernel_rfl) (by kernel_rfl) ?_
          repeat (go_big_quiet_step (fail))
          refine wpQuiet_nil ?_
          intro w7 hb7
          have HMz := hidden (Mine.below HMn.out hb7)
          have hbz7 := hbx6.trans (hb7.mono hbx6.size)
          clear hb7 y0 y3 y4 HMn
          go_wp2
          go_ret
          exact ⟨⟨_, rfl, hidden (by rw [← HE2.out]; exact HMz.out), by rw [← HE2.out]; exact hBU.out⟩, hbz7⟩
    · obtain rfl : k = l.length := by omega
      have HRe : Hid (out = R) := hidden (by have := HE.out; rw [List.drop_length] at this; exact this)
      go_wp2
      go_ret
      exact ⟨⟨_, rfl, hidden (by rw [← HRe.out]; exact HM.out), by rw [← HRe.out]; exact HBo.out⟩, hb⟩
end Go.Proofs.Ytmlggfapnkhcaaa
