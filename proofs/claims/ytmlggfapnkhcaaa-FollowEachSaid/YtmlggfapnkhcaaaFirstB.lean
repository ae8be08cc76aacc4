/-
  The document's search through the rules (facsimileref22's begins), by what is left to be gone through.
-/
import Derived.Test.YtmlggfapnkhcaaaFirstR
namespace Go.Proofs.Ytmlggfapnkhcaaa
open Go.RowKit Go.Shelf
attribute [local simp] wide_fn

theorem prodN_step {st : List Item → List Bool → Bool × List Bool} {r : Int} {l : List Prod} {k : Nat} {p : Prod} (hx : l[k]? = some p) (s : List Bool) :
    prodN st r (l.drop k) s = if p.left = r then (if (st p.right s).1 = true then (true, (st p.right s).2) else prodN st r (l.drop (k + 1)) (st p.right s).2) else prodN st r (l.drop (k + 1)) s := by
  obtain ⟨hk, e⟩ := List.getElem?_eq_some_iff.1 hx
  rw [List.drop_eq_getElem_cons hk, e]
  rw [prodN]

set_option maxRecDepth 20000 in
set_option maxHeartbeats 4000000 in
/-- A rule that was gone through. -/
theorem begins_been (w0 : World) (a b c ve : Value) (g : Gram) (em : List Bool) (t : Int) (HG : GramIs w0 (Old w0) a b c g) (hE : Bools w0 (Old w0) ve em) (W : World) (qb rn : Nat) (s : List Bool) (hS : BoolsAt W qb s) (hrn : rn < g.rules.length) (hb : s[rn]? = some true) :
    Calls Try.prog 103 #[.agg (gramCells a b c g), ve, .int .i64 (rn : Int), .int .i64 t, .slice (some ⟨qb, 0, none⟩) g.rules.length g.rules.length] W fun rr W' => rr = .returned (.bool false) ∧ Hid (BoolsAt W' qb s) ∧ Hid (But qb W W') := by
  have b0 : W.cell? ⟨qb, rn, none⟩ = some (.bool true) := hS.at_ hb
  have hql := hS.lt
  obtain ⟨⟨A1, k1, rfl, v1, m1⟩, ⟨A2, k2, rfl, v2, m2⟩, ⟨A3, k3, rfl, v3, m3⟩⟩ := HG.vals
  obtain ⟨Ae, ce, rfl, he1, he2⟩ := hE.val
  have HS1 := hidden (Holds.alloc hS (.cells #[.slice A1 g.toks.length k1, .slice A2 g.rules.length k2, .slice A3 g.prods.length k3, .int .i64 g.start, .int .i64 g.states, .int .i64 g.text, .int .i64 g.nodes, .int .i64 g.pairs] 26))
  have HB1 := hidden (But.of_below (p := qb) ((Below.refl W.heap.size W).alloc (Nat.le_refl _) (.cells #[.slice A1 g.toks.length k1, .slice A2 g.rules.length k2, .slice A3 g.prods.length k3, .int .i64 g.start, .int .i64 g.states, .int .i64 g.text, .int .i64 g.nodes, .int .i64 g.pairs] 26)))
  clear HG hE hS hb
  unfold gramCells
  go_enter Try.func103, Try.ntmps103
  go_wp2
  go_ret
  exact ⟨rfl, HS1, HB1⟩

set_option maxRecDepth 20000 in
set_option maxHeartbeats 16000000 in
theorem ref_begins (w0 : World) (a b c ve : Value) (g : Gram) (em : List Bool) (t : Int) (hg : InRange g) (HG : GramIs w0 (Old w0) a b c g) (hE : Bools w0 (Old w0) ve em) (hem : em.length = g.rules.length) : ∀ f, BegOk w0 a b c ve g em t f := by
  intro f
  induction f with
  | zero =>
    intro W qb s r hbW hq hS hsl hf h0 h1
    have hb : atB s r = true := ((begN_says hg (em := em) (t := t) 0 s r hsl hf h0 h1).2 rfl).2
    obtain ⟨rn, rfl⟩ := Int.eq_ofNat_of_zero_le h0
    have hb2 := atB_iff.1 hb
    rw [Int.toNat_natCast] at hb2
    exact begins_been w0 a b c ve g em t HG hE W qb rn s hS (by omega) hb2
  | succ f ih =>
    intro W qb s r hbW hq hS hsl hf h0 h1
    have HSt := hidden (fun (W' : World) (s' : List Bool) (l : List Item) vl hl hR hb hS h2 h3 => ref_starts w0 a b c ve vl g em t f l hg HG hE hem hl hR ih W' qb s' hb hq hS h2 h3)
    have HPs := hidden (fun k p (hp : g.prods[k]? = some p) s => prodN_step (st := startN (begN g em t f) em t) (r := r) hp s)
    have HSy := hidden (fun (s' : List Bool) (l : List Item) h2 h3 h4 => startN_says (g := g) (em := em) (t := t) (f := f) (fun b r' a1 a2 a3 a4 => begN_says hg f b r' a1 a2 a3 a4) l s' h2 h3 h4)
    obtain ⟨rn, rfl⟩ := Int.eq_ofNat_of_zero_le h0
    have hrn : rn < g.rules.length := by omega
    have hrs : rn < s.length := by omega
    have hsr : s[rn]? = some s[rn] := List.getElem?_eq_getElem hrs
    have hat : atB s (rn : Int) = s[rn] := by
      unfold atB
      rw [Int.toNat_natCast, List.getD_eq_getElem?_getD, hsr]
      rfl
    have b0 : W.cell? ⟨qb, rn, none⟩ = some (.bool s[rn]) := hS.at_ hsr
    have b1 : W.frozen? ⟨qb, rn, none⟩ = false := Holds.frozen hS rn
    have hql := hS.lt
    have hbz := hbW.size
    obtain ⟨R, hR⟩ : ∃ R, R = begN g em t (f + 1) s (rn : Int) := ⟨_, rfl⟩
    rw [← hR]
    unfold begN at hR
    rw [hat] at hR
    have HRr := hidden hR
    clear hR
    have HG2 := hidden HG.2.2
    have HIt := hidden hg.item
    obtain ⟨⟨A1, k1, rfl, v1, m1⟩, ⟨A2, k2, rfl, v2, m2⟩, ⟨A3, k3, rfl, v3, m3⟩⟩ := HG.vals
    obtain ⟨Ae, ce, rfl, he1, he2⟩ := hE.val
    unfold maxLen at he2 m3
    have HS := hidden hS
    have hfs : s[rn] = false → falses (s.set rn true) ≤ f := fun hh => by
      have hle : leB s (s.set rn true) := set_le s rn
      have hne : s ≠ s.set rn true := fun e => by
        have h9 : (s.set rn true)[rn]? = some true := by rw [List.getElem?_set, if_pos rfl, if_pos hrs]
        rw [← e, hsr, hh] at h9
        cases h9
      have h2 := trues_mono hle
      have h3 : trues s ≠ trues (s.set rn true) := fun e => hne (h2.2 e)
      have h4 := h2.1
      have h5 := trues_le (s.set rn true)
      have h6 : (s.set rn true).length = s.length := by simp
      unfold falses at *
      omega
    have HFs := hidden hfs
    clear HG hE hS hg ih hat hfs hf hsr h0 h1 hem
    unfold gramCells at *
    have HGb := hidden (Holds.new W 26 #[.slice A1 g.toks.length k1, .slice A2 g.rules.length k2, .slice A3 g.prods.length k3, .int .i64 g.start, .int .i64 g.states, .int .i64 g.text, .int .i64 g.nodes, .int .i64 g.pairs])
    have hal := (Below.refl W.heap.size W).alloc (Nat.le_refl _) (.cells #[.slice A1 g.toks.length k1, .slice A2 g.rules.length k2, .slice A3 g.prods.length k3, .int .i64 g.start, .int .i64 g.states, .int .i64 g.text, .int .i64 g.nodes, .int .i64 g.pairs] 26)
    cases hsv : s[rn] with
    | true =>
      rw [hsv] at b0
      have HRe : Hid (R = (false, s)) := hidden (by rw [HRr.out, hsv, if_pos rfl])
      have HS1 := hidden (Holds.alloc HS.out (.cells #[.slice A1 g.toks.length k1, .slice A2 g.rules.length k2, .slice A3 g.prods.length k3, .int .i64 g.start, .int .i64 g.states, .int .i64 g.text, .int .i64 g.nodes, .int .i64 g.pairs] 26))
      have HB1 := hidden (But.of_below (p := qb) hal)
      clear HRr HSt HPs HSy HIt HG2 HFs HS
      go_enter Try.func103, Try.ntmps103
      go_wp2
      go_ret
      exact ⟨by rw [HRe.out]; rfl, by rw [HRe.out]; exact HS1, HB1⟩
    | false =>
      rw [hsv] at b0
      have HRe : Hid (R = prodN (startN (begN g em t f) em t) (rn : Int) (g.prods.drop 0) (s.set rn true)) := hidden (by rw [HRr.out, hsv, if_neg (by decide), Int.toNat_natCast]; rfl)
      have hne : W.heap.size ≠ qb := by omega
      have HS1 : Hid (BoolsAt ((W.setCell ⟨qb, rn, none⟩ (.bool true)).alloc (.cells #[.slice A1 g.toks.length k1, .slice A2 g.rules.length k2, .slice A3 g.prods.length k3, .int .i64 g.start, .int .i64 g.states, .int .i64 g.text, .int .i64 g.nodes, .int .i64 g.pairs] 26)) qb (s.set rn true)) := hidden (Holds.alloc (BoolsAt.set HS.out rn true) _)
      have HB1 : Hid (But qb W ((W.setCell ⟨qb, rn, none⟩ (.bool true)).alloc (.cells #[.slice A1 g.toks.length k1, .slice A2 g.rules.length k2, .slice A3 g.prods.length k3, .int .i64 g.start, .int .i64 g.states, .int .i64 g.text, .int .i64 g.nodes, .int .i64 g.pairs] 26))) := hidden (((But.refl qb W).set rn (.bool true)).next ((Below.refl _ _).alloc (Nat.le_refl _) _))
      have HG1 : Hid (Holds ((W.setCell ⟨qb, rn, none⟩ (.bool true)).alloc (.cells #[.slice A1 g.toks.length k1, .slice A2 g.rules.length k2, .slice A3 g.prods.length k3, .int .i64 g.start, .int .i64 g.states, .int .i64 g.text, .int .i64 g.nodes, .int .i64 g.pairs] 26)) W.heap.size 26 #[.slice A1 g.toks.length k1, .slice A2 g.rules.length k2, .slice A3 g.prods.length k3, .int .i64 g.start, .int .i64 g.states, .int .i64 g.text, .int .i64 g.nodes, .int .i64 g.pairs]) := hidden (Holds.new_at (by simp))
      have HF1 := hidden (HFs.out hsv)
      have hs1 : (s.set rn true).length = g.rules.length := by rw [List.length_set]; exact hsl
      clear HRr HFs HS hsv HGb hal
      go_enter Try.func103, Try.ntmps103
      go_wp2
      go_loopg [11] g.prods.length (fun gh kk wr => ∃ (k : Nat) (s' : List Bool), k ≤ g.prods.length ∧ gh = g.prods.length - k ∧ kk = .int .i64 k ∧ s'.length = g.rules.length ∧ Hid (falses s' ≤ f) ∧ Hid (R = prodN (startN (begN g em t f) em t) (rn : Int) (g.prods.drop k) s') ∧ Hid (BoolsAt wr qb s') ∧ Hid (But qb W wr) ∧ Hid (Holds wr W.heap.size 26 #[.slice A1 g.toks.length k1, .slice A2 g.rules.length k2, .slice A3 g.prods.length k3, .int .i64 g.start, .int .i64 g.states, .int .i64 g.text, .int .i64 g.nodes, .int .i64 g.pairs]))
      case atStart => exact ⟨0, _, by omega, by omega, by go_num, hs1, HF1, HRe, HS1, HB1, HG1⟩
      case round =>
        clear HF1 HRe HS1 HB1 HG1 b0 b1
        obtain ⟨k, s', hk, rfl, rfl, hsl', HF, HE, HS, HB, HGb⟩ := hrel
        have hbr : Below w0.heap.size w0 wr := hbW.trans (HB.out.below hq hbz)
        have g2 : wr.cell? ⟨W.heap.size, 2, none⟩ = some (.slice A3 g.prods.length k3) := HGb.out.cell 2
        have hgl := HGb.out.lt
        by_cases hlt : k < g.prods.length
        · have hx := List.getElem?_eq_getElem hlt
          have HPx := hidden (HPs.out k _ hx s')
          have HIx := hidden (HIt.out _ (List.getElem_mem hlt))
          obtain ⟨b6, o6, l6, rfl, hT6, hat6, hrt⟩ := HG2.out.at_ hx
          generalize g.prods[k] = p at *
          have j0 : w0.cell? ⟨b6, o6 + k * 2, none⟩ = some (.int .i64 p.left) := hat6 0 _ rfl
          have j1 : w0.cell? ⟨b6, o6 + k * 2 + 1, none⟩ = some l6 := hat6 1 _ rfl
          have hrt : Rd w0 (Old w0) 4 l6 p.right.length (p.right.flatMap itCells) := hrt
          obtain ⟨A9, c9, rfl, v9, m9⟩ := hrt.val
          have HRt := hidden hrt
          have e8 := Ext.cell (cell_onI j0 hbr); have e9 := Ext.cell (cell_onI j1 hbr)
          have t0 := Ext.cell (show wr.cell? ⟨W.heap.size, 0, none⟩ = some (.slice A1 g.toks.length k1) from HGb.out.cell 0)
          have t1 := Ext.cell (show wr.cell? ⟨W.heap.size, 1, none⟩ = some (.slice A2 g.rules.length k2) from HGb.out.cell 1)
          have t2 := Ext.cell (show wr.cell? ⟨W.heap.size, 2, none⟩ = some (.slice (some ⟨b6, o6, none⟩) g.prods.length k3) from HGb.out.cell 2)
          have t3 := Ext.cell (show wr.cell? ⟨W.heap.size, 3, none⟩ = some (.int .i64 g.start) from HGb.out.cell 3)
          have t4 := Ext.cell (show wr.cell? ⟨W.heap.size, 4, none⟩ = some (.int .i64 g.states) from HGb.out.cell 4)
          have t5 := Ext.cell (show wr.cell? ⟨W.heap.size, 5, none⟩ = some (.int .i64 g.text) from HGb.out.cell 5)
          have t6 := Ext.cell (show wr.cell? ⟨W.heap.size, 6, none⟩ = some (.int .i64 g.nodes) from HGb.out.cell 6)
          have t7 := Ext.cell (show wr.cell? ⟨W.heap.size, 7, none⟩ = some (.int .i64 g.pairs) from HGb.out.cell 7)
          clear hat6 hrt hx j0 j1
          by_cases hlr : p.left = (rn : Int)
          · have q1 : (p.left == (rn : Int)) = true := by rw [beq_iff_eq]; exact hlr
            have HP2 : Hid (R = if (startN (begN g em t f) em t p.right s').1 = true then (true, (startN (begN g em t f) em t p.right s').2) else prodN (startN (begN g em t f) em t) (rn : Int) (g.prods.drop (k + 1)) (startN (begN g em t f) em t p.right s').2) := hidden (by rw [HE.out, HPx.out, if_pos hlr])
            have hsy := hidden (HSy.out s' p.right hsl' HF.out HIx.out).1
            have HCb := hidden (fun (w' : World) (hb : Below wr.heap.size wr w') => HSt.out w' s' p.right _ HIx.out HRt.out (hbr.trans (hb.mono hbr.size)) (Holds.below HS.out hb HS.out.lt) hsl' HF.out)
            clear HPx HE hlr
            generalize startN (begN g em t f) em t p.right s' = o at *
            go_wp2_with fail
            refine (wpIn_wide (n := 5)).1 ?_
            refine wpIn_region_ext_tail 19 (by kernel_rfl) (by kernel_rfl) rfl ?_
            simp only [List.take_succ_cons, List.take_zero, List.drop_succ_cons, List.drop_zero]
            repeat (gi_big_quiet_step (fail))
            refine wpQuietIn_nil ?_
            intro w5 hb5
            have HC := hidden (HCb.out w5 hb5)
            have HG5 := hidden (HGb.out.below hb5 HGb.out.lt)
            have HB5 := hidden (HB.out.next hb5)
            clear e8 e9 t0 t1 t2 t3 t4 t5 t6 t7 q1 g2 hb5 HCb HGb HB HS
            gi_wp2_with fail
            refine CallsIn.mono (F := Fence.wide) (callsIn_wide.2 HC.out) ?_
            rintro rr w6 ⟨rfl, hs6, hb6⟩
            have HB6 := hidden (HB5.out.trans hb6.out)
            have HG6 := hidden (HG5.out.but hb6.out hne)
            have HS6 := hs6
            clear hs6 hb6 HC HG5 HB5
            obtain ⟨ob, s2'⟩ := o
            cases ob with
            | true =>
              have HRe : Hid (R = (true, s2')) := hidden (by rw [HP2.out, if_pos rfl])
              clear HP2
              gi_wp2_with fail
              go_wp2
              go_ret
              exact ⟨by rw [HRe.out]; rfl, by rw [HRe.out]; exact HS6, HB6⟩
            | false =>
              have hle : leB s' s2' := hsy.out
              have HRe : Hid (R = prodN (startN (begN g em t f) em t) (rn : Int) (g.prods.drop (k + 1)) s2') := hidden (by rw [HP2.out, if_neg (show ¬ (false = true) by decide)])
              have hs2 : s2'.length = g.rules.length := by rw [← hle.1]; exact hsl'
              have HF2 : Hid (falses s2' ≤ f) := hidden (Nat.le_trans (falses_mono hle) HF.out)
              clear HP2 hsy hle
              gi_wp2_with fail
              go_wp2
              go_roundg (g.prods.length - (k + 1))
              case measure => omega
              case rel => exact ⟨k + 1, s2', by omega, rfl, by go_num, hs2, HF2, HRe, HS6, HB6, HG6⟩
          · have q1 : (p.left == (rn : Int)) = false := by rw [beq_eq_false_iff_ne]; exact hlr
            have HE2 : Hid (R = prodN (startN (begN g em t f) em t) (rn : Int) (g.prods.drop (k + 1)) s') := hidden (by rw [HE.out, HPx.out, if_neg hlr])
            clear HPx HE hlr
            go_wp2_with fail
            refine wp_region_ext (by kernel_rfl) (by kernel_rfl) ?_
            repeat (go_big_quiet_step (fail))
            refine wpQuiet_nil ?_
            intro w5 hb5
            have HS5 : Hid (BoolsAt w5 qb s') := hidden (Holds.below HS.out hb5 HS.out.lt)
            have HG5 := hidden (HGb.out.below hb5 HGb.out.lt)
            have HB5 := hidden (HB.out.next hb5)
            clear hb5 e8 e9 t0 t1 t2 t3 t4 t5 t6 t7 q1 g2
            go_wp2
            go_roundg (g.prods.length - (k + 1))
            case measure => omega
            case rel => exact ⟨k + 1, s', by omega, rfl, by go_num, hsl', HF, HE2, HS5, HB5, HG5⟩
        · obtain rfl : k = g.prods.length := by omega
          have HRe : Hid (R = (false, s')) := hidden (by rw [HE.out, List.drop_length]; rfl)
          go_wp2
          go_ret
          exact ⟨by rw [HRe.out]; rfl, by rw [HRe.out]; exact HS, HB⟩
end Go.Proofs.Ytmlggfapnkhcaaa
