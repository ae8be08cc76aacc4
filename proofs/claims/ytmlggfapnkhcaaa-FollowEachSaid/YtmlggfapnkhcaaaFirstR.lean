/-
  The document's search through the rules (facsimileref22's begins and starts).
-/
import Derived.Test.YtmlggfapnkhcaaaFirstP
import Derived.Test.YtmlggfapnkhcaaaFirstU
import Derived.Test.YtmlggfapnkhcaaaNullR
namespace Go.Proofs.Ytmlggfapnkhcaaa
open Go.RowKit Go.Shelf
attribute [local simp] wide_fn

/-- What is known of a call of begins, with so much left to be gone through. -/
def BegOk (w0 : World) (a b c ve : Value) (g : Gram) (em : List Bool) (t : Int) (f : Nat) : Prop := ∀ (W : World) (qb : Nat) (s : List Bool) (r : Int), Below w0.heap.size w0 W → w0.heap.size ≤ qb → BoolsAt W qb s → s.length = g.rules.length → falses s ≤ f → 0 ≤ r → r < g.rules.length →
  Calls Try.prog 103 #[.agg (gramCells a b c g), ve, .int .i64 r, .int .i64 t, .slice (some ⟨qb, 0, none⟩) g.rules.length g.rules.length] W fun rr W' => rr = .returned (.bool (begN g em t f s r).1) ∧ Hid (BoolsAt W' qb (begN g em t f s r).2) ∧ Hid (But qb W W')
theorem startN_step {bg : List Bool → Int → Bool × List Bool} {em : List Bool} {t : Int} {l : List Item} {k : Nat} {x : Item} (hx : l[k]? = some x) (s : List Bool) :
    startN bg em t (l.drop k) s = if x.rule = false then (decide (x.n = t), s) else if (bg s x.n).1 = true then (true, (bg s x.n).2) else if atB em x.n = true then startN bg em t (l.drop (k + 1)) (bg s x.n).2 else (false, (bg s x.n).2) := by
  obtain ⟨hk, e⟩ := List.getElem?_eq_some_iff.1 hx
  rw [List.drop_eq_getElem_cons hk, e]
  rw [startN]

set_option maxRecDepth 20000 in
set_option maxHeartbeats 8000000 in
theorem ref_starts (w0 : World) (a b c ve vl : Value) (g : Gram) (em : List Bool) (t : Int) (f : Nat) (l : List Item) (hg : InRange g) (HG : GramIs w0 (Old w0) a b c g) (hE : Bools w0 (Old w0) ve em) (hem : em.length = g.rules.length) (hl : ∀ x ∈ l, x.rule = true → 0 ≤ x.n ∧ x.n < g.rules.length) (hR : Rd w0 (Old w0) 4 vl l.length (l.flatMap itCells)) (hB : BegOk w0 a b c ve g em t f)
    (W : World) (qb : Nat) (s : List Bool) (hbW : Below w0.heap.size w0 W) (hq : w0.heap.size ≤ qb) (hS : BoolsAt W qb s) (hsl : s.length = g.rules.length) (hf : falses s ≤ f) :
    Calls Try.prog 67 #[.agg (gramCells a b c g), ve, vl, .int .i64 t, .slice (some ⟨qb, 0, none⟩) g.rules.length g.rules.length] W fun rr W' => rr = .returned (.bool (startN (begN g em t f) em t l s).1) ∧ Hid (BoolsAt W' qb (startN (begN g em t f) em t l s).2) ∧ Hid (But qb W W') := by
  have HRd := hidden (fun (w' : World) (hb : Below w0.heap.size w0 w') => Rd.old hR hb)
  have HEd := hidden (fun (w' : World) (hb : Below w0.heap.size w0 w') => Rd.old hE hb)
  have HSt := hidden (fun k x (hx : l[k]? = some x) s => startN_step (bg := begN g em t f) (em := em) (t := t) hx s)
  have HRu := hidden (fun k x (hx : l[k]? = some x) => hl x (List.mem_of_getElem? hx))
  have HSy := hidden (fun (s : List Bool) (r : Int) h1 h2 h3 h4 => begN_says hg (em := em) (t := t) f s r h1 h2 h3 h4)
  have HEm := hidden (fun (z : Int) (h : 0 ≤ z ∧ z < g.rules.length) => (by
    have hz : z.toNat < em.length := by omega
    unfold atB
    rw [List.getD_eq_getElem?_getD, List.getElem?_eq_getElem hz]
    rfl : em[z.toNat]? = some (atB em z)))
  have HBg := hidden hB
  obtain ⟨⟨A1, k1, rfl, v1, m1⟩, ⟨A2, k2, rfl, v2, m2⟩, ⟨A3, k3, rfl, v3, m3⟩⟩ := HG.vals
  obtain ⟨Ae, ce, rfl, he1, he2⟩ := hE.val
  obtain ⟨Al, cl, rfl, hl1, hl2⟩ := hR.val
  unfold maxLen at hl2 he2
  have HS := hidden hS
  have hql := hS.lt
  have HR0 : Hid (startN (begN g em t f) em t (l.drop 0) s = startN (begN g em t f) em t l s) := hidden rfl
  generalize startN (begN g em t f) em t l s = R at *
  have HEM := hidden hem
  clear HG hE hR hB hS hl hg hem
  unfold BegOk at HBg
  unfold gramCells at *
  have HGb := hidden (Holds.new W 26 #[.slice A1 g.toks.length k1, .slice A2 g.rules.length k2, .slice A3 g.prods.length k3, .int .i64 g.start, .int .i64 g.states, .int .i64 g.text, .int .i64 g.nodes, .int .i64 g.pairs])
  have HS0 : Hid (BoolsAt (W.alloc (.cells #[.slice A1 g.toks.length k1, .slice A2 g.rules.length k2, .slice A3 g.prods.length k3, .int .i64 g.start, .int .i64 g.states, .int .i64 g.text, .int .i64 g.nodes, .int .i64 g.pairs] 26)) qb s) := hidden (Holds.alloc HS.out _)
  have HB0 := hidden (But.of_below (p := qb) ((Below.refl W.heap.size W).alloc (Nat.le_refl _) (.cells #[.slice A1 g.toks.length k1, .slice A2 g.rules.length k2, .slice A3 g.prods.length k3, .int .i64 g.start, .int .i64 g.states, .int .i64 g.text, .int .i64 g.nodes, .int .i64 g.pairs] 26)))
  have hbz := hbW.size
  go_enter Try.func67, Try.ntmps67
  go_wp2
  go_loopg [11] l.length (fun gh kk wr => ∃ (k : Nat) (s' : List Bool), k ≤ l.length ∧ gh = l.length - k ∧ kk = .int .i64 k ∧ s'.length = g.rules.length ∧ Hid (falses s' ≤ f) ∧ Hid (startN (begN g em t f) em t (l.drop k) s' = R) ∧ Hid (BoolsAt wr qb s') ∧ Hid (But qb W wr) ∧ Hid (Holds wr W.heap.size 26 #[.slice A1 g.toks.length k1, .slice A2 g.rules.length k2, .slice A3 g.prods.length k3, .int .i64 g.start, .int .i64 g.states, .int .i64 g.text, .int .i64 g.nodes, .int .i64 g.pairs]))
  case atStart => exact ⟨0, s, by omega, by omega, by go_num, hsl, hidden hf, HR0, HS0, HB0, HGb⟩
  case round =>
    clear HR0 HS0 HB0 HGb HS
    obtain ⟨k, s', hk, rfl, rfl, hsl', HF, HE, HS, HB, HGb⟩ := hrel
    have hbr : Below w0.heap.size w0 wr := hbW.trans (HB.out.below hq hbz)
    by_cases hlt : k < l.length
    · have hx := List.getElem?_eq_getElem hlt
      have HSx := hidden (HSt.out k _ hx s')
      have HRx := hidden (HRu.out k _ hx)
      obtain ⟨b4, o4, rfl, hT4, hat⟩ := (HRd.out w0 (Below.refl _ _)).flat_at (fun _ => rfl) (by decide) hx
      generalize l[k] = x at *
      have j0 := hat 0 _ rfl; have j1 := hat 1 _ rfl
      rw [Nat.add_zero] at j0
      have i0 := cell_onI j0 hbr; have i1 := cell_onI j1 hbr
      have HJ1 := hidden j1
      clear j0 j1
      clear hat hx
      cases hr : x.rule with
      | false =>
        have HRe : Hid (R = (decide (x.n = t), s')) := hidden (by rw [← HE.out, HSx.out, if_pos hr])
        have he : (x.n == t) = decide (x.n = t) := by rw [Bool.eq_iff_iff, beq_iff_eq, decide_eq_true_iff]
        rw [hr] at i0
        go_wp2
        go_ret
        exact ⟨by rw [HRe.out]; rfl, by rw [HRe.out]; exact HS, HB⟩
      | true =>
        have hz := HRx.out hr
        rw [hr] at i0
        have HSy2 : Hid (startN (begN g em t f) em t (l.drop k) s' = if (begN g em t f s' x.n).1 = true then (true, (begN g em t f s' x.n).2) else if atB em x.n = true then startN (begN g em t f) em t (l.drop (k + 1)) (begN g em t f s' x.n).2 else (false, (begN g em t f s' x.n).2)) := hidden (by rw [HSx.out, if_neg (by rw [hr]; decide)])
        have hsy := HSy.out s' x.n hsl' HF.out hz.1 hz.2
        have HLe := hidden hsy.1
        have HCb := hidden (fun (w' : World) (hb : Below wr.heap.size wr w') => HBg.out w' qb s' x.n (hbr.trans (hb.mono hbr.size)) hq (Holds.below HS.out hb HS.out.lt) hsl' HF.out hz.1 hz.2)
        clear HSx hr HRx HSt HRu
        generalize x.n = z at *
        obtain ⟨nx, rfl⟩ := Int.eq_ofNat_of_zero_le hz.1
        have hEm := HEm.out _ hz
        rw [Int.toNat_natCast] at hEm
        have hn1 : nx < g.rules.length := by omega
        have hn2 : nx < em.length := by rw [HEM.out]; exact hn1
        obtain ⟨be, oe, rfl, hTe, hem0⟩ := row_at (HEd.out w0 (Below.refl _ _)) hEm
        have hem9 := cell_onI hem0 hbr
        have HE0 := hidden hem0
        clear hem0
        have g0 := HGb.out.cell 0; have g1 := HGb.out.cell 1; have g2 := HGb.out.cell 2; have g3 := HGb.out.cell 3; have g4 := HGb.out.cell 4; have g5 := HGb.out.cell 5; have g6 := HGb.out.cell 6; have g7 := HGb.out.cell 7
        have t0 := Ext.cell (show wr.cell? ⟨W.heap.size, 0, none⟩ = some (.slice A1 g.toks.length k1) from g0)
        have t1 := Ext.cell (show wr.cell? ⟨W.heap.size, 1, none⟩ = some (.slice A2 g.rules.length k2) from g1)
        have t2 := Ext.cell (show wr.cell? ⟨W.heap.size, 2, none⟩ = some (.slice A3 g.prods.length k3) from g2)
        have t3 := Ext.cell (show wr.cell? ⟨W.heap.size, 3, none⟩ = some (.int .i64 g.start) from g3)
        have t4 := Ext.cell (show wr.cell? ⟨W.heap.size, 4, none⟩ = some (.int .i64 g.states) from g4)
        have t5 := Ext.cell (show wr.cell? ⟨W.heap.size, 5, none⟩ = some (.int .i64 g.text) from g5)
        have t6 := Ext.cell (show wr.cell? ⟨W.heap.size, 6, none⟩ = some (.int .i64 g.nodes) from g6)
        have t7 := Ext.cell (show wr.cell? ⟨W.heap.size, 7, none⟩ = some (.int .i64 g.pairs) from g7)
        have t8 := Ext.cell i1
        have HMz := hidden hz
        clear g0 g1 g2 g3 g4 g5 g6 g7 hEm hsy hz
        go_wp2_with fail
        refine (wpIn_wide (n := 5)).1 ?_
        refine wpIn_region_ext_tail 9 (by kernel_rfl) (by kernel_rfl) rfl ?_
        simp only [List.take_succ_cons, List.take_zero, List.drop_succ_cons, List.drop_zero]
        repeat (gi_big_quiet_step (fail))
        refine wpQuietIn_nil ?_
        intro w5 hb5
        have HC := hidden (HCb.out w5 hb5)
        have HG5 := hidden (HGb.out.below hb5 HGb.out.lt)
        have HB5 := hidden (HB.out.next hb5)
        have s1 := cell_onI i1 hb5; have s2 := cell_onI hem9 hb5
        have hb4z : b4 < w5.heap.size := World.block_lt_of_cell? _ _ s1
        clear t0 t1 t2 t3 t4 t5 t6 t7 t8 i0 i1 hem9 hb5 HCb HGb HB HS
        gi_wp2_with fail
        refine CallsIn.mono (F := Fence.wide) (callsIn_wide.2 HC.out) ?_
        rintro rr w6 ⟨rfl, hs6, hb6⟩
        have HB6 := hidden (HB5.out.trans hb6.out)
        have hnq : W.heap.size ≠ qb := by omega
        have HG6 := hidden (HG5.out.but hb6.out hnq)
        have hb6w : Below w0.heap.size w0 w6 := hbW.trans (HB6.out.below hq hbz)
        have c1 := cell_onI HJ1.out hb6w; have c2 := cell_onI HE0.out hb6w
        have HS6 := hs6
        have HSy3 := HSy2
        clear hs6 hb6 HC HG5 HB5 s1 s2 HSy2
        generalize begN g em t f s' (nx : Int) = o at *
        obtain ⟨ob, s2'⟩ := o
        cases ob with
        | true =>
          have HRe : Hid (R = (true, s2')) := hidden (by rw [← HE.out, HSy3.out, if_pos rfl])
          clear HSy3 HE
          go_wp2_with fail
          refine wpListIn_nil ?_
          go_wp2
          go_ret
          exact ⟨by rw [HRe.out]; rfl, by rw [HRe.out]; exact HS6, HB6⟩
        | false =>
          have hle : leB s' s2' := HLe.out
          cases he : atB em (nx : Int) with
          | true =>
            rw [he] at c2
            have HRe : Hid (startN (begN g em t f) em t (l.drop (k + 1)) s2' = R) := hidden (by rw [← HE.out, HSy3.out, if_neg (show ¬ (false = true) by decide), if_pos he])
            have hs2 : s2'.length = g.rules.length := by rw [← hle.1]; exact hsl'
            have HF2 : Hid (falses s2' ≤ f) := hidden (Nat.le_trans (falses_mono hle) HF.out)
            clear HSy3 HE HLe hle he
            go_wp2_with fail
            refine wpListIn_nil ?_
            go_wp2
            go_roundg (l.length - (k + 1))
            case measure => omega
            case rel => exact ⟨k + 1, s2', by omega, rfl, by go_num, hs2, HF2, HRe, HS6, HB6, HG6⟩
          | false =>
            rw [he] at c2
            have HRe : Hid (R = (false, s2')) := hidden (by rw [← HE.out, HSy3.out, if_neg (show ¬ (false = true) by decide), if_neg (by rw [he]; decide)])
            clear HSy3 HE HLe hle he
            go_wp2_with fail
            refine wpListIn_nil ?_
            go_wp2
            go_ret
            exact ⟨by rw [HRe.out]; rfl, by rw [HRe.out]; exact HS6, HB6⟩
    · obtain rfl : k = l.length := by omega
      have HRe : Hid (R = (false, s')) := hidden (by rw [← HE.out, List.drop_length]; rfl)
      go_wp2
      go_ret
      exact ⟨by rw [HRe.out]; rfl, by rw [HRe.out]; exact HS, HB⟩
end Go.Proofs.Ytmlggfapnkhcaaa
