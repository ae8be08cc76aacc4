/-
  law22: FirstEach.
-/
import Derived.Test.YtmlggfapnkhcaaaFirstE
import Derived.StillTailTactics
import Derived.Deep.RegionWith
namespace Go.Proofs.Ytmlggfapnkhcaaa
open Go.RowKit Go.Shelf
attribute [local simp] wide_fn

theorem keep_cell {wr w1 w2 : World} {b o : Nat} {v : Value} (h : wr.cell? ⟨b, o, none⟩ = some v) (hb : Below wr.heap.size wr w1) (hb2 : Below w1.heap.size w1 w2) : w2.cell? ⟨b, o, none⟩ = some v ∧ Below wr.heap.size wr w2 :=
  ⟨cell_onI h (hb.trans (hb2.mono hb.size)), hb.trans (hb2.mono hb.size)⟩
theorem keep_each {wr w2 : World} {p B b o : Nat} {t : TypeId} {a0 a1 a2 a3 a4 a5 a6 a7 v : Value} (H : Holds wr p t #[a0, a1, a2, a3, a4, a5, a6, a7]) (hp : p < B) (hc : wr.cell? ⟨b, o, none⟩ = some v) (hb : b < B) (hB : Below B wr w2) :
    w2.cell? ⟨p, 0, none⟩ = some a0 ∧ w2.cell? ⟨p, 1, none⟩ = some a1 ∧ w2.cell? ⟨p, 2, none⟩ = some a2 ∧ w2.cell? ⟨p, 3, none⟩ = some a3 ∧ w2.cell? ⟨p, 4, none⟩ = some a4 ∧ w2.cell? ⟨p, 5, none⟩ = some a5 ∧ w2.cell? ⟨p, 6, none⟩ = some a6 ∧ w2.cell? ⟨p, 7, none⟩ = some a7 ∧ w2.cell? ⟨b, o, none⟩ = some v ∧ Below B wr w2 := by
  obtain ⟨x0, x1, x2, x3, x4, x5, x6, x7⟩ := eight (H.below hB hp)
  exact ⟨x0, x1, x2, x3, x4, x5, x6, x7, (hB.cell (p := ⟨b, o, none⟩) hb).trans hc, hB⟩
theorem one_ints (l : List Int) : Hid (∀ u ∈ l.flatMap (one1 intV), u.oneCell' = true) := hidden (fun u hu => by
  rw [List.mem_flatMap] at hu
  obtain ⟨x, _, hu⟩ := hu
  simp [one1] at hu; subst hu; rfl)
theorem ints_app {w w' : World} {base : Nat} {v v' : Value} {l m : List Int} (hA : Appended w base 3 1 v (l.length + m.length) (l.flatMap (one1 intV) ++ m.flatMap (one1 intV)) v' w') : IntsM w' base v' (l ++ m) := by
  have := hA.mine
  unfold IntsM RowM
  rw [List.length_append, List.flatMap_append]
  exact this

set_option maxRecDepth 20000 in
set_option maxHeartbeats 16000000 in
theorem law_firstEach (a b c : Value) (g : Gram) (w : World) (HG : GramIs w (Old w) a b c g) (hz : Named g) :
    Calls Try.prog 4 #[.agg (gramCells a b c g)] w fun r w' => r = .returned (.bool true) ∧ Below w.heap.size w w' := by
  have F1 := hidden (fun (w' : World) (hb : Below w.heap.size w w') => law_Few a b c g w' (HG.old hb) hz)
  have C1 := hidden (fun (hs : fewB g = true) (w' : World) (hb : Below w.heap.size w w') => ref_Check a b c g w' (HG.old hb) (few_is hs hz).toks (few_is hs hz).rules (few_is hs hz).prods hz)
  have N1 := hidden (fun (hs : fewB g = true) (w' : World) (hb : Below w.heap.size w w') => first_All a b c g w' (HG.old hb) (few_is hs hz))
  have N2 := hidden (fun (hs : fewB g = true) (w' : World) (hb : Below w.heap.size w w') => ref_Empty21 a b c g w' (HG.old hb) (few_is hs hz))
  have N3 := hidden (fun (hs : fewB g = true) (w' : World) (hb : Below w.heap.size w w') v (l : List Item) hR => first_Of a b c v g l w' (HG.old hb) (few_is hs hz) hR)
  have HGo := hidden HG.2.2
  have HSm := hidden (fun (h : fewB g = true) => few_small h)
  have HEr := hidden (fun (h : rightB g = true) (r : Nat) (hl : r < g.rules.length) => each_rows h hl)
  have HEt := hidden (fun (h : rightB g = true) (p : Prod) (hp : p ∈ g.prods) (x : Item) (hx : p.right[0]? = some x) (hr : x.rule = false) => each_tok h hp hx hr)
  have HEu := hidden (fun (h : rightB g = true) (p : Prod) (hp : p ∈ g.prods) (x : Item) (hx : p.right[0]? = some x) (hr : x.rule = true) => each_rule h hp hx hr)
  have HWh := hidden (fun (h : rightB g = true) => whole22 h)
  have HFl := hidden (fun (h : rightB g = true) => all22_len h)
  have HBd := hidden (bd_all22 g)
  have HLn := hidden (firsts_len g)
  have HCl := hidden (concatOf_len g)
  have HCs := hidden (fun (r k : Nat) (p : Prod) (hx : g.prods[k]? = some p) => concatOf_succ (r := r) hx)
  obtain ⟨⟨A1, k1, rfl, v1, m1⟩, ⟨A2, k2, rfl, v2, m2⟩, ⟨A3, k3, rfl, v3, m3⟩⟩ := HG.vals
  have hq1 : Hid (∀ w, (Op.equalIn 10000 40 (.agg #[.int .i64 (checkOf g).kind, .int .i64 (checkOf g).at_, .int .i64 (checkOf g).more]) (.agg #[.int .i64 0, .int .i64 0, .int .i64 0])).run Try.prog w = .ok (rightB g) w) := hidden (fun w => by
    have := def_eq_run w (checkOf g) D0
    rw [right_eq] at this
    exact this)
  clear HG
  unfold gramCells defC maxLen at *
  have hstop : fewB g = false ∨ (fewB g = true ∧ rightB g = false) ∨ (fewB g = true ∧ rightB g = true) := by
    cases fewB g <;> cases rightB g <;> simp
  have hb := Below.refl w.heap.size w
  rcases hstop with hf | ⟨hf, hr⟩ | ⟨hf, hr⟩
  · rw [hf] at F1
    clear hf
    go_enter Try.func4, Try.ntmps4
    go_wp2_with fail
    refine (F1.out _ ?_).mono ?_
    · exact (by repeat (first | (with_reducible exact Below.refl _ _) | (with_reducible assumption) | (with_reducible refine Below.drew ?_) | (with_reducible refine below_drewN ?_ _) | ((with_reducible refine below_alloc ?_ ?_); (focus (first | omega | (simp; done) | (simp; omega)))) | ((with_reducible refine below_set ?_ ?_); (focus (first | omega | (simp; done) | (simp; omega))))))
    rintro r w2 ⟨rfl, hb2⟩
    have hbw : Below w.heap.size w w2 := Below.trans (by repeat (first | (with_reducible exact Below.refl _ _) | (with_reducible assumption) | (with_reducible refine Below.drew ?_) | (with_reducible refine below_drewN ?_ _) | ((with_reducible refine below_alloc ?_ ?_); (focus (first | omega | (simp; done) | (simp; omega)))) | ((with_reducible refine below_set ?_ ?_); (focus (first | omega | (simp; done) | (simp; omega)))))) (hb2.mono (by simp))
    have HB1 := hidden (Holds.below (show Holds _ w.heap.size 26 #[.slice A1 g.toks.length k1, .slice A2 g.rules.length k2, .slice A3 g.prods.length k3, .int .i64 g.start, .int .i64 g.states, .int .i64 g.text, .int .i64 g.nodes, .int .i64 g.pairs] from (by repeat (first | (with_reducible assumption) | ((with_reducible refine holds_new ?_); (focus (first | rfl | (simp; done)))) | (with_reducible refine Holds.alloc ?_ _) | (with_reducible refine Holds.drew ?_)))) hb2 (by simp))
    obtain ⟨s0, s1, s2, s3, s4, s5, s6, s7⟩ := eight HB1.out
    clear hb2
    go_wp2_with fail
    refine (knows22 _).mono ?_
    rintro r w3 ⟨rfl, hb3⟩
    replace hbw := hbw.more hb3
    clear hb3
    go_wp2
    go_ret
    exact ⟨rfl, hbw⟩
  · rw [hf] at F1
    replace C1 := hidden (C1.out hf)
    rw [hr] at hq1
    clear hf hr
    go_enter Try.func4, Try.ntmps4
    go_wp2_with fail
    refine (F1.out _ ?_).mono ?_
    · exact (by repeat (first | (with_reducible exact Below.refl _ _) | (with_reducible assumption) | (with_reducible refine Below.drew ?_) | (with_reducible refine below_drewN ?_ _) | ((with_reducible refine below_alloc ?_ ?_); (focus (first | omega | (simp; done) | (simp; omega)))) | ((with_reducible refine below_set ?_ ?_); (focus (first | omega | (simp; done) | (simp; omega))))))
    rintro r w2 ⟨rfl, hb2⟩
    have hbw : Below w.heap.size w w2 := Below.trans (by repeat (first | (with_reducible exact Below.refl _ _) | (with_reducible assumption) | (with_reducible refine Below.drew ?_) | (with_reducible refine below_drewN ?_ _) | ((with_reducible refine below_alloc ?_ ?_); (focus (first | omega | (simp; done) | (simp; omega)))) | ((with_reducible refine below_set ?_ ?_); (focus (first | omega | (simp; done) | (simp; omega)))))) (hb2.mono (by simp))
    have HB1 := hidden (Holds.below (show Holds _ w.heap.size 26 #[.slice A1 g.toks.length k1, .slice A2 g.rules.length k2, .slice A3 g.prods.length k3, .int .i64 g.start, .int .i64 g.states, .int .i64 g.text, .int .i64 g.nodes, .int .i64 g.pairs] from (by repeat (first | (with_reducible assumption) | ((with_reducible refine holds_new ?_); (focus (first | rfl | (simp; done)))) | (with_reducible refine Holds.alloc ?_ _) | (with_reducible refine Holds.drew ?_)))) hb2 (by simp))
    obtain ⟨s0, s1, s2, s3, s4, s5, s6, s7⟩ := eight HB1.out
    clear hb2
    go_wp2_with fail
    refine (C1.out _ hbw).mono ?_
    rintro r w3 ⟨rfl, hb3⟩
    replace HB1 := hidden (HB1.out.below hb3 (by have := HB1.out.lt; omega))
    replace hbw := hbw.more hb3
    have hq := hq1.out
    clear hb3 s0 s1 s2 s3 s4 s5 s6 s7 C1 F1
    go_wp2_with fail
    refine (knows22 _).mono ?_
    rintro r w3 ⟨rfl, hb3⟩
    replace hbw := hbw.more hb3
    clear hb3
    go_wp2
    go_ret
    exact ⟨rfl, hbw⟩
  · rw [hf] at F1
    replace C1 := hidden (C1.out hf)
    replace N1 := hidden (N1.out hf)
    replace N2 := hidden (N2.out hf)
    replace N3 := hidden (N3.out hf)
    replace HEr := hidden (HEr.out hr)
    replace HEt := hidden (HEt.out hr)
    replace HEu := hidden (HEu.out hr)
    replace HWh := hidden (HWh.out hr)
    have HFL := hidden (HFl.out hr)
    have hsm := HSm.out hf
    have HEL : Hid ((growsB g false).length = g.rules.length) := hidden (growsB_len g false)
    have hgo : growsOr g false = growsB g false := by unfold growsOr; rw [if_pos hr]
    rw [hr] at hq1
    rw [hgo] at N2
    clear hf hr HSm HFl hgo
    generalize all22 g = F at *
    generalize growsB g false = E at *
    go_enter Try.func4, Try.ntmps4
    go_wp2_with fail
    refine (F1.out _ ?_).mono ?_
    · exact (by repeat (first | (with_reducible exact Below.refl _ _) | (with_reducible assumption) | (with_reducible refine Below.drew ?_) | (with_reducible refine below_drewN ?_ _) | ((with_reducible refine below_alloc ?_ ?_); (focus (first | omega | (simp; done) | (simp; omega)))) | ((with_reducible refine below_set ?_ ?_); (focus (first | omega | (simp; done) | (simp; omega))))))
    rintro r w2 ⟨rfl, hb2⟩
    have hbw : Below w.heap.size w w2 := Below.trans (by repeat (first | (with_reducible exact Below.refl _ _) | (with_reducible assumption) | (with_reducible refine Below.drew ?_) | (with_reducible refine below_drewN ?_ _) | ((with_reducible refine below_alloc ?_ ?_); (focus (first | omega | (simp; done) | (simp; omega)))) | ((with_reducible refine below_set ?_ ?_); (focus (first | omega | (simp; done) | (simp; omega)))))) (hb2.mono (by simp))
    have HB1 := hidden (Holds.below (show Holds _ w.heap.size 26 #[.slice A1 g.toks.length k1, .slice A2 g.rules.length k2, .slice A3 g.prods.length k3, .int .i64 g.start, .int .i64 g.states, .int .i64 g.text, .int .i64 g.nodes, .int .i64 g.pairs] from (by repeat (first | (with_reducible assumption) | ((with_reducible refine holds_new ?_); (focus (first | rfl | (simp; done)))) | (with_reducible refine Holds.alloc ?_ _) | (with_reducible refine Holds.drew ?_)))) hb2 (by simp))
    obtain ⟨s0, s1, s2, s3, s4, s5, s6, s7⟩ := eight HB1.out
    clear hb2
    go_wp2_with fail
    refine (C1.out _ hbw).mono ?_
    rintro r w3 ⟨rfl, hb3⟩
    replace HB1 := hidden (HB1.out.below hb3 (by have := HB1.out.lt; omega))
    replace hbw := hbw.more hb3
    have hq := hq1.out
    clear hb3 s0 s1 s2 s3 s4 s5 s6 s7 C1 F1
    obtain ⟨s0, s1, s2, s3, s4, s5, s6, s7⟩ := eight HB1.out
    go_wp2_with fail
    refine (N1.out _ hbw).mono ?_
    rintro r w4 ⟨⟨u4, rfl, hu4⟩, hb4⟩
    replace HB1 := hidden (HB1.out.below hb4 HB1.out.lt)
    replace hbw := hbw.more hb4
    clear hb4 s0 s1 s2 s3 s4 s5 s6 s7
    obtain ⟨s0, s1, s2, s3, s4, s5, s6, s7⟩ := eight HB1.out
    go_wp2_with fail
    refine (N2.out _ hbw).mono ?_
    rintro r w5 ⟨⟨u5, rfl, hu5⟩, hb5⟩
    replace HB1 := hidden (HB1.out.below hb5 HB1.out.lt)
    replace hbw := hbw.more hb5
    have HAl := hidden (Recs.old hu4.out hb5)
    have HEm := hidden hu5.out
    clear hb5 s0 s1 s2 s3 s4 s5 s6 s7 hu4 hu5 N1 N2 hq hq1
    obtain ⟨Af, cf, hvf, hcf1, hcf2⟩ := HAl.out.value
    obtain ⟨Ae, ce, hve, hce1, hce2⟩ := HEm.out.val
    rw [HFL.out] at hvf hcf1
    rw [HEL.out] at hve hce1
    subst hvf hve
    unfold maxLen at hcf2 hce2
    have HAo := hidden (fun (wx : World) (hb : Below w5.heap.size w5 wx) => Recs.old HAl.out hb)
    have HEo := hidden (fun (wx : World) (hb : Below w5.heap.size w5 wx) => Rd.old HEm.out hb)
    have HBo := hidden (fun (wx : World) (hb : Below w5.heap.size w5 wx) => HB1.out.below hb HB1.out.lt)
    have HWo := hidden (fun (wx : World) (hb : Below w5.heap.size w5 wx) => hbw.trans (hb.mono hbw.size))
    obtain ⟨s0, s1, s2, s3, s4, s5, s6, s7⟩ := eight HB1.out
    have h00 : w.heap.size < w5.heap.size := HB1.out.lt
    clear HAl HEm HB1
    go_wp2
    clear s0 s1 s2 s3 s4 s5 s6 s7
    have hb5 := hidden (Below.refl w5.heap.size w5)
    go_loopg [5] g.rules.length (fun gh rr wr => ∃ r : Nat, r ≤ g.rules.length ∧ gh = g.rules.length - r ∧ rr = .int .i64 r ∧ Hid (Below w5.heap.size w5 wr))
    case atStart => exact ⟨0, by omega, rfl, rfl, hb5⟩
    case round =>
      clear hb5
      obtain ⟨r, hrl, rfl, rfl, hbr⟩ := hrel
      obtain ⟨s0, s1, s2, s3, s4, s5, s6, s7⟩ := eight (HBo.out _ hbr.out)
      have hgl : w.heap.size < wr.heap.size := Nat.lt_of_lt_of_le h00 hbr.out.size
      by_cases hlr : r < g.rules.length
      · have HFr := hidden (HEr.out r hlr)
        have hal := (Below.refl wr.heap.size wr).alloc (Nat.le_refl _) (.cells #[] 3)
        have hb6 := hidden (hbr.out.trans (hal.mono hbr.out.size))
        have HM6 : Hid (IntsM (wr.alloc (.cells #[] 3)) wr.heap.size (.slice (some ⟨wr.heap.size, 0, none⟩) 0 0) (concatOf g r 0)) := hidden (Mine.fresh_nil _ _ _ _ _)
        have hBz : wr.heap.size ≤ (wr.alloc (.cells #[] 3)).heap.size := by simp
        clear hal
        generalize hwb : wr.heap.size = B0 at *
        have hB0 : w5.heap.size ≤ B0 := by have := hbr.out.size; omega
        go_wp2
        clear s0 s1 s2 s3 s4 s5 s6 s7 hbr
        generalize wr.alloc (.cells #[] 3) = w6 at *
        go_loopg [6, 7] g.prods.length (fun gh ll ii wx => ∃ k : Nat, k ≤ g.prods.length ∧ gh = g.prods.length - k ∧ ii = .int .i64 k ∧ Hid (IntsM wx B0 ll (concatOf g r k)) ∧ Hid (Below w5.heap.size w5 wx) ∧ B0 ≤ wx.heap.size)
        case atStart => exact ⟨0, by omega, rfl, rfl, HM6, hb6, hBz⟩
        case round =>
          clear HM6 hb6 hBz
          obtain ⟨k, hk, rfl, rfl, HM, hbx, hBz⟩ := hrel
          obtain ⟨s0, s1, s2, s3, s4, s5, s6, s7⟩ := eight (HBo.out _ hbx.out)
          have hgx : w.heap.size < wr.heap.size := Nat.lt_of_lt_of_le h00 hbx.out.size
          by_cases hkl : k < g.prods.length
          · have hx := List.getElem?_eq_getElem hkl
            have HPm := hidden (List.getElem_mem hkl)
            generalize g.prods[k] = p at *
            have HCk := hidden (HCs.out r k p hx)
            have hcl := HCl.out r k
            have hfp := HLn.out p.right
            obtain ⟨b1, o1, l1, rfl, hT, hat, hin⟩ := HGo.out.at_ hx
            have hin : Rd w (Old w) 4 l1 p.right.length (p.right.flatMap itCells) := hin
            have hT2 : b1 < w.heap.size := hT
            have hbwx := HWo.out _ hbx.out
            have hT' : b1 < wr.heap.size := Nat.lt_of_lt_of_le hT2 hbwx.size
            have y0 : wr.cell? ⟨b1, o1 + k * 2, none⟩ = some (.int .i64 p.left) := (hbwx.cell (p := ⟨b1, o1 + k * 2, none⟩) hT2).trans (hat 0 _ rfl)
            have y1' := (hbwx.cell (p := ⟨b1, o1 + k * 2 + 1, none⟩) hT2).trans (hat 1 _ rfl)
            obtain ⟨A4, k4, rfl, hk4, hm4⟩ := hin.val
            have y1 : wr.cell? ⟨b1, o1 + k * 2 + 1, none⟩ = some (.slice A4 p.right.length k4) := y1'
            have HIn := hidden (fun (wx : World) (hb : Below w.heap.size w wx) => Rd.old hin hb)
            unfold maxLen at hm4
            have hbw7 := hidden hbwx
            have hb10 : b1 < B0 := by omega
            have hcl2 : (concatOf g r k).length ≤ 18200 := Nat.le_trans hcl (Nat.le_trans (Nat.mul_le_mul hk hsm.1) (by have := hsm.2.2; omega))
            clear hat hx y1' hT hT2 hin hbwx hcl
            obtain ⟨Al, cl, rfl⟩ := HM.out.value
            by_cases hpl : p.left = (r : Int)
            · have hd : decide (p.left = (r : Int)) = true := decide_eq_true hpl
              rw [hd, if_pos rfl] at HCk
              rw [hpl] at y0
              clear hpl hd
              generalize concatOf g r k = cc at *
              generalize hfs : firsts22 g p.right = fs at *
              have HO1 := one_ints fs
              have hG0 : w.heap.size < B0 := by omega
              have HBr := hidden (HBo.out _ hbx.out)
              have HY1 := hidden y1
              go_wp2_with fail
              go_region_held3 (fun w' => w'.cell? ⟨w.heap.size, 0, none⟩ = some (.slice A1 g.toks.length k1) ∧ w'.cell? ⟨w.heap.size, 1, none⟩ = some (.slice A2 g.rules.length k2) ∧ w'.cell? ⟨w.heap.size, 2, none⟩ = some (.slice (some ⟨b1, o1, none⟩) g.prods.length k3) ∧ w'.cell? ⟨w.heap.size, 3, none⟩ = some (.int .i64 g.start) ∧ w'.cell? ⟨w.heap.size, 4, none⟩ = some (.int .i64 g.states) ∧ w'.cell? ⟨w.heap.size, 5, none⟩ = some (.int .i64 g.text) ∧ w'.cell? ⟨w.heap.size, 6, none⟩ = some (.int .i64 g.nodes) ∧ w'.cell? ⟨w.heap.size, 7, none⟩ = some (.int .i64 g.pairs) ∧ w'.cell? ⟨b1, o1 + k * 2 + 1, none⟩ = some (.slice A4 p.right.length k4) ∧ Below B0 wr w')
                (first | exact ⟨s0, s1, s2, s3, s4, s5, s6, s7, y1, (Below.refl _ _).drew⟩ | (go_split_ands; exact keep_each HBr.out hG0 HY1.out hb10 L9.out) | (go_split_ands; exact keep_each HBr.out hG0 HY1.out hb10 L8.out))
                (first | (go_at_call 19; go_split_ands; refine (N3.out _ hbw7.out.drew _ p.right (HIn.out _ hbw7.out.drew)).mono ?_; rw [hfs]; rintro e w8 ⟨⟨u8, rfl, hu8⟩, hb8⟩; have L8 := hidden (((Below.refl B0 wr).drew).trans (hb8.mono hBz)); have HM8 := hidden (Mine.below (w := wr.drew) HM.out hb8); have hz8 := hb8.size) | (go_split_ands; refine step_append_rd rfl _ _ 34 3 rfl (by kernel_rfl) int_info rfl (by decide) B0 _ cc.length _ HM8 _ fs.length _ hu8 HO1 rfl rfl (by omega) (by decide) (Nat.le_trans hBz hz8) ?_; intro v9 w9 hA; have L9 := hidden (L8.out.trans hA.out.below)))
              have HMn := hidden (ints_app hA.out)
              have hbn := hidden (hbx.out.trans (L9.out.mono hB0))
              have hBn : B0 ≤ w9.heap.size := Nat.le_trans hBz L9.out.size
              clear hA HM8 L8 L9 hu8 hb8 HBr HY1
              rw [← HCk.out] at HMn
              go_wp2
              go_roundg (g.prods.length - (k + 1))
              case measure => omega
              case rel => exact ⟨k + 1, by omega, rfl, by go_num, HMn, hbn, hBn⟩
            · have hd : decide (p.left = (r : Int)) = false := decide_eq_false hpl
              have hd2 : (p.left == (r : Int)) = false := by simpa using hpl
              rw [hd, if_neg (by decide), List.append_nil] at HCk
              have HMk : Hid (IntsM wr B0 (.slice Al (concatOf g r k).length cl) (concatOf g r (k + 1))) := hidden (by rw [HCk.out]; exact HM.out)
              clear HM
              go_wp2
              go_roundg (g.prods.length - (k + 1))
              case measure => omega
              case rel => exact ⟨k + 1, by omega, rfl, by go_num, HMk, hbx, hBz⟩
          · obtain rfl : k = g.prods.length := by omega
            have hcl2 : (concatOf g r g.prods.length).length ≤ 100000 := Nat.le_trans (HCl.out r _) (Nat.le_trans (Nat.mul_le_mul hk hsm.1) (by have := hsm.2.2; omega))
            obtain ⟨bu, ou, ur, rfl, hTu, hcu, hru⟩ := Rows2.row (HAo.out _ hbx.out) HFr.out
            obtain ⟨Ar, cr, rfl, _, _⟩ := hru.val
            have hTu' : bu < wr.heap.size := hTu
            have HRu := hidden hru
            have HOf := hidden (fun (wx : World) (hb : Below wr.heap.size wr wx) => ref11_OfT _ _ wx (Rd.old (RowM.rd HM.out) hb) hcl2)
            obtain ⟨Al, cl, rfl⟩ := HM.out.value
            clear HM hru hTu
            generalize concatOf g r g.prods.length = cc at *
            generalize setOf cc = sc at *
            go_wp2_with fail
            clear s0 s1 s2 s3 s4 s5 s6 s7
            go_region_held3 (fun w' => w'.cell? ⟨bu, ou + r, none⟩ = some (.slice Ar sc.length cr) ∧ Below wr.heap.size wr w')
              (first | exact ⟨hcu, Below.drew (Below.refl _ _)⟩ | (go_split_ands; exact keep_cell hcu (by (first | assumption | exact Below.drew (Below.refl _ _) | exact Below.refl _ _)) (by assumption)))
              (first | (go_at_call 25; go_split_ands; refine (HOf.out _ (by (first | assumption | exact Below.drew (Below.refl _ _) | exact Below.refl _ _))).mono ?_; rintro e w7 ⟨⟨u7, rfl, hu7⟩, hb7⟩) | (go_at_call 18; go_split_ands; refine (ints_self (hu7.out.mono (fun _ h => h.2)) (Rd.old (w := wr.drew) HRu.out hb7)).mono ?_; rintro e w8 ⟨rfl, hb8⟩))
            have hbe := hidden ((hbx.out.drew.more hb7).more hb8)
            clear hb7 hb8 hu7
            go_wp2
            go_roundg (g.rules.length - (r + 1))
            case measure => omega
            case rel => exact ⟨r + 1, by omega, rfl, by go_num, hbe⟩
      · obtain rfl : r = g.rules.length := by omega
        clear HEr HCl HCs
        go_wp2
        clear s0 s1 s2 s3 s4 s5 s6 s7
        go_loopg [8] g.prods.length (fun gh ii wx => ∃ k : Nat, k ≤ g.prods.length ∧ gh = g.prods.length - k ∧ ii = .int .i64 k ∧ Hid (Below w5.heap.size w5 wx))
        case atStart => exact ⟨0, by omega, rfl, rfl, hbr⟩
        case round =>
          clear hbr hgl
          obtain ⟨k, hk, rfl, rfl, hbx⟩ := hrel
          obtain ⟨s0, s1, s2, s3, s4, s5, s6, s7⟩ := eight (HBo.out _ hbx.out)
          have hgx : w.heap.size < wr.heap.size := Nat.lt_of_lt_of_le h00 hbx.out.size
          have hbwr := hidden (HWo.out _ hbx.out)
          by_cases hkl : k < g.prods.length
          · have hx := List.getElem?_eq_getElem hkl
            have HPm := hidden (List.getElem_mem hkl)
            generalize g.prods[k] = p at *
            obtain ⟨b1, o1, l1, rfl, hT, hat, hin⟩ := HGo.out.at_ hx
            have hin : Rd w (Old w) 4 l1 p.right.length (p.right.flatMap itCells) := hin
            have hT2 : b1 < w.heap.size := hT
            have hT' : b1 < wr.heap.size := Nat.lt_of_lt_of_le hT2 hbwr.out.size
            have y1' := (hbwr.out.cell (p := ⟨b1, o1 + k * 2 + 1, none⟩) hT2).trans (hat 1 _ rfl)
            obtain ⟨A4, k4, rfl, hk4, hm4⟩ := hin.val
            have y1 : wr.cell? ⟨b1, o1 + k * 2 + 1, none⟩ = some (.slice A4 p.right.length k4) := y1'
            have HIn := hidden (fun (wx : World) (hb : Below w.heap.size w wx) => Rd.old hin hb)
            unfold maxLen at hm4
            clear hat hx y1' hT hT2 hin
            by_cases hp0 : p.right.length = 0
            · rw [hp0] at y1
              clear HIn
              go_wp2
              go_roundg (g.prods.length - (k + 1))
              case measure => omega
              case rel => exact ⟨k + 1, by omega, rfl, by go_num, hbx⟩
            · have hx0 := List.getElem?_eq_getElem (show 0 < p.right.length by omega)
              generalize hx1 : p.right[0]'(by omega) = x at *
              have HX0 := hidden hx0
              obtain ⟨b2, o2, rfl, hT3, hat⟩ := (HIn.out _ hbwr.out).flat_at (fun _ => rfl) (by decide) hx0
              have i0 : wr.cell? ⟨b2, o2, none⟩ = some (.bool x.rule) := by have := hat 0 _ rfl; rwa [Nat.zero_mul, Nat.add_zero] at this
              have i1 : wr.cell? ⟨b2, o2 + 1, none⟩ = some (.int .i64 x.n) := by have := hat 1 _ rfl; rwa [Nat.zero_mul, Nat.add_zero] at this
              have hT4 : b2 < wr.heap.size := hT3
              have hlen : ((p.right.length : Int) == 0) = false := by rw [beq_eq_false_iff_ne]; omega
              have hlen2 : (0 : Nat) < p.right.length := by omega
              have HEt' := hidden (HEt.out p HPm.out x hx0)
              have HEu' := hidden (HEu.out p HPm.out x hx0)
              have HXr := hidden (HWh.out.rule p HPm.out x (List.mem_of_getElem? hx0))
              have hal1 := hidden ((Below.refl wr.heap.size wr).alloc (Nat.le_refl _) (.cells #[.int .i64 x.n] 3))
              have hal2 := hidden (hal1.out.alloc hal1.out.size (.cells #[] 3))
              clear hat hT3 hx0 hx1 HEt HEu HPm
              obtain ⟨xr, xn, xg, xi⟩ := x
              dsimp only at *
              cases xr
              · have HEq : Hid (firsts22 g p.right = unionOf (setOf [xn]) []) := hidden (HEt'.out rfl)
                have hbc := hal2
                have HOne : Hid (Ints ((wr.alloc (.cells #[.int .i64 xn] 3)).alloc (.cells #[] 3)) (Old ((wr.alloc (.cells #[.int .i64 xn] 3)).alloc (.cells #[] 3))) (.slice (some ⟨wr.heap.size, 0, none⟩) 1 1) [xn]) := hidden (rd_litI (show Holds ((wr.alloc (.cells #[.int .i64 xn] 3)).alloc (.cells #[] 3)) wr.heap.size 3 #[.int .i64 xn] from (by repeat (first | (with_reducible assumption) | ((with_reducible refine holds_new ?_); (focus (first | rfl | (simp; done)))) | (with_reducible refine Holds.alloc ?_ _) | (with_reducible refine Holds.drew ?_)))) (by simp [Old] <;> omega) rfl rfl (by decide))
                have HRest : Hid (Ints ((wr.alloc (.cells #[.int .i64 xn] 3)).alloc (.cells #[] 3)) (Old ((wr.alloc (.cells #[.int .i64 xn] 3)).alloc (.cells #[] 3))) (.slice (some ⟨wr.heap.size + 1, 0, none⟩) 0 0) []) := hidden (rd_none _)
                have hn1 : [xn].length ≤ 100000 := by simp
                have hn2 : ([] : List Int).length ≤ 100000 := by simp
                go_upto_region 29 with fail
                obtain ⟨wc, hwc⟩ : ∃ wc, wc = (wr.alloc (.cells #[.int .i64 xn] 3)).alloc (.cells #[] 3) := ⟨_, rfl⟩
                simp only [← hwc] at *
                clear hwc
                have hbwc := hidden (hbwr.out.more hbc.out)
                have hgc : w.heap.size < wc.heap.size := Nat.lt_of_lt_of_le hgx hbc.out.size
                have HBc := hidden (HBo.out _ (hbx.out.more hbc.out))
                obtain ⟨s0, s1, s2, s3, s4, s5, s6, s7⟩ := eight HBc.out
                have HC1 := hidden (N3.out wc hbwc.out _ p.right (HIn.out _ hbwc.out))
                have hbcx := hidden (hbx.out.more hbc.out)
                generalize firsts22 g p.right = fp at *
                clear hbc hbwc HBc HIn i0 i1 y1 hal1 hal2
                go_wp2_with fail
                refine HC1.out.mono ?_
                rintro e wd ⟨⟨ud, rfl, hud⟩, hbd⟩
                have HC2 := hidden (ref11_OfT _ _ wd (Rd.old HOne.out hbd) (by omega))
                have HRd := hidden (Rd.old HRest.out hbd)
                have hbxd := hidden (hbcx.out.more hbd)
                obtain ⟨Ad, cd, rfl, _, _⟩ := hud.out.val
                have HUd := hidden hud.out
                clear HC1 hbd hbcx HOne HRest s0 s1 s2 s3 s4 s5 s6 s7 hud
                go_wp2_with fail
                refine HC2.out.mono ?_
                rintro e wf ⟨⟨uf, rfl, huf⟩, hbf⟩
                have HC3 := hidden (ref11_Union _ _ _ _ wf (huf.out.mono (fun _ h => h.2)) (Rd.old HRd.out hbf) (by have := setOf_len [xn]; omega) (by omega))
                have HUf := hidden (Rd.old HUd.out hbf)
                have hbxf := hidden (hbxd.out.more hbf)
                obtain ⟨Af2, cf2, rfl, _, _⟩ := huf.out.val
                clear HC2 hbf hbxd HRd HUd huf
                rw [← HEq.out] at HC3
                generalize setOf [xn] = so at *
                go_wp2_with fail
                refine HC3.out.mono ?_
                rintro e wh ⟨⟨uh, rfl, huh⟩, hbh⟩
                have HC4 := hidden (ints_self (Rd.old HUf.out hbh) (huh.out.mono (fun _ h => h.2)))
                have hbxh := hidden (hbxf.out.more hbh)
                obtain ⟨Ah, ch, rfl, _, _⟩ := huh.out.val
                clear HC3 hbh hbxf HUf huh
                go_wp2_with fail
                refine HC4.out.mono ?_
                rintro e wi ⟨rfl, hbi⟩
                have hbxi := hidden (hbxh.out.more hbi)
                clear HC4 hbi hbxh
                go_wp2
                go_roundg (g.prods.length - (k + 1))
                case measure => omega
                case rel => exact ⟨k + 1, by omega, rfl, by go_num, hbxi⟩
              · obtain ⟨n1, n2⟩ := HXr.out rfl
                obtain ⟨m, rfl⟩ : ∃ m : Nat, xn = (m : Int) := ⟨xn.toNat, by omega⟩
                have hm : m < F.length := by rw [HFL.out]; omega
                have gF := List.getElem?_eq_getElem hm
                have gE := List.getElem?_eq_getElem (show m < E.length by rw [HEL.out]; omega)
                have hFD : F.getD (m : Int).toNat [] = F[m] := by rw [Int.toNat_natCast, List.getD_eq_getElem?_getD, gF]; rfl
                have hED : atB E (m : Int) = E[m]'(by rw [HEL.out]; omega) := by unfold atB; rw [Int.toNat_natCast, List.getD_eq_getElem?_getD, gE]; rfl
                have HEq0 := hidden (HEu'.out rfl)
                rw [hFD, hED] at HEq0
                have hbm := HBd.out _ (List.getElem_mem hm)
                have hn1 : (F[m]).length ≤ 100000 := by have := hbm.len; omega
                generalize F[m] = fm at *
                generalize E[m]'(by rw [HEL.out]; omega) = em at *
                obtain ⟨bu, ou, ur, rfl, hTu, hcu, hru⟩ := Rows2.row (HAo.out _ hbx.out) gF
                obtain ⟨Ar, cr, rfl, _, _⟩ := hru.val
                have hTu' : bu < wr.heap.size := hTu
                obtain ⟨be, oe, rfl, hTe, hce⟩ := row_at (show Rd wr (Old wr) 1 (.slice Ae g.rules.length ce) g.rules.length (E.flatMap (one1 Value.bool)) from by have := HEo.out _ hbx.out; rw [HEL.out] at this; exact this) gE
                have hTe' : be < wr.heap.size := hTe
                have HRu := hidden hru
                clear hFD hED hru hTu hTe gF gE HEu' HEt' HXr hbm
                cases em
                · have HEq : Hid (firsts22 g p.right = unionOf (setOf fm) []) := hidden (by rw [HEq0.out]; rfl)
                  have hbc := hal2
                  have HOne := hidden (Rd.old HRu.out hal2.out)
                  have HRest : Hid (Ints ((wr.alloc (.cells #[.int .i64 (m : Int)] 3)).alloc (.cells #[] 3)) (Old ((wr.alloc (.cells #[.int .i64 (m : Int)] 3)).alloc (.cells #[] 3))) (.slice (some ⟨wr.heap.size + 1, 0, none⟩) 0 0) []) := hidden (rd_none _)
                  have hn2 : ([] : List Int).length ≤ 100000 := by simp
                  clear HEq0 HRu
                  go_upto_region 29 with fail
                  obtain ⟨wc, hwc⟩ : ∃ wc, wc = (wr.alloc (.cells #[.int .i64 (m : Int)] 3)).alloc (.cells #[] 3) := ⟨_, rfl⟩
                  simp only [← hwc] at *
                  clear hwc
                  have hbwc := hidden (hbwr.out.more hbc.out)
                  have hgc : w.heap.size < wc.heap.size := Nat.lt_of_lt_of_le hgx hbc.out.size
                  have HBc := hidden (HBo.out _ (hbx.out.more hbc.out))
                  obtain ⟨s0, s1, s2, s3, s4, s5, s6, s7⟩ := eight HBc.out
                  have HC1 := hidden (N3.out wc hbwc.out _ p.right (HIn.out _ hbwc.out))
                  have hbcx := hidden (hbx.out.more hbc.out)
                  generalize firsts22 g p.right = fp at *
                  clear hbc hbwc HBc HIn i0 i1 y1 hal1 hal2
                  go_wp2_with fail
                  refine HC1.out.mono ?_
                  rintro e wd ⟨⟨ud, rfl, hud⟩, hbd⟩
                  have HC2 := hidden (ref11_OfT _ _ wd (Rd.old HOne.out hbd) (by omega))
                  have HRd := hidden (Rd.old HRest.out hbd)
                  have hbxd := hidden (hbcx.out.more hbd)
                  obtain ⟨Ad, cd, rfl, _, _⟩ := hud.out.val
                  have HUd := hidden hud.out
                  clear HC1 hbd hbcx HOne HRest s0 s1 s2 s3 s4 s5 s6 s7 hud
                  go_wp2_with fail
                  refine HC2.out.mono ?_
                  rintro e wf ⟨⟨uf, rfl, huf⟩, hbf⟩
                  have HC3 := hidden (ref11_Union _ _ _ _ wf (huf.out.mono (fun _ h => h.2)) (Rd.old HRd.out hbf) (by have := setOf_len fm; omega) (by omega))
                  have HUf := hidden (Rd.old HUd.out hbf)
                  have hbxf := hidden (hbxd.out.more hbf)
                  obtain ⟨Af2, cf2, rfl, _, _⟩ := huf.out.val
                  clear HC2 hbf hbxd HRd HUd huf
                  rw [← HEq.out] at HC3
                  generalize setOf fm = so at *
                  go_wp2_with fail
                  refine HC3.out.mono ?_
                  rintro e wh ⟨⟨uh, rfl, huh⟩, hbh⟩
                  have HC4 := hidden (ints_self (Rd.old HUf.out hbh) (huh.out.mono (fun _ h => h.2)))
                  have hbxh := hidden (hbxf.out.more hbh)
                  obtain ⟨Ah, ch, rfl, _, _⟩ := huh.out.val
                  clear HC3 hbh hbxf HUf huh
                  go_wp2_with fail
                  refine HC4.out.mono ?_
                  rintro e wi ⟨rfl, hbi⟩
                  have hbxi := hidden (hbxh.out.more hbi)
                  clear HC4 hbi hbxh
                  go_wp2
                  go_roundg (g.prods.length - (k + 1))
                  case measure => omega
                  case rel => exact ⟨k + 1, by omega, rfl, by go_num, hbxi⟩
                · by_cases hk1 : k4 = 1
                  · subst hk1
                    have HP1 : Hid (p.right.length - 1 = 0 ∧ p.right.drop 1 = []) := hidden ⟨by omega, List.drop_of_length_le (by omega)⟩
                    have HEq : Hid (firsts22 g p.right = unionOf (setOf fm) (firsts22 g (p.right.drop 1))) := hidden (by rw [HEq0.out]; rfl)
                    have hn2 : (firsts22 g (p.right.drop 1)).length ≤ 100000 := by have := HLn.out (p.right.drop 1); omega
                    have hbw2 := hidden (hbwr.out.more hal2.out)
                    have HRo := hidden (Rd.old HRu.out hal2.out)
                    have HDr : Hid (Rd ((wr.alloc (.cells #[.int .i64 (m : Int)] 3)).alloc (.cells #[] 3)) (Old ((wr.alloc (.cells #[.int .i64 (m : Int)] 3)).alloc (.cells #[] 3))) 4 (.slice (some ⟨b2, o2, none⟩) 0 0) (p.right.drop 1).length ((p.right.drop 1).flatMap itCells)) := hidden (by
                      rw [HP1.out.2]; exact rd_none _)
                    have HBc0 := hidden (HBo.out _ (hbx.out.more hal2.out))
                    obtain ⟨s0, s1, s2, s3, s4, s5, s6, s7⟩ := eight HBc0.out
                    clear HEq0 HRu
                    go_upto_region 28 with fail
                    obtain ⟨wb, hwb⟩ : ∃ wb, wb = (wr.alloc (.cells #[.int .i64 (m : Int)] 3)).alloc (.cells #[] 3) := ⟨_, rfl⟩
                    simp only [← hwb] at *
                    clear hwb
                    have z0 := Ext.cell s0; have z1 := Ext.cell s1; have z2 := Ext.cell s2; have z3 := Ext.cell s3; have z4 := Ext.cell s4; have z5 := Ext.cell s5; have z6 := Ext.cell s6; have z7 := Ext.cell s7
                    go_wp2_with fail
                    refine (wpIn_wide (n := 5)).1 ?_
                    refine wpIn_region_ext_tail 3 (by kernel_rfl) (by kernel_rfl) rfl ?_
                    simp only [List.take_succ_cons, List.take_zero, List.drop_succ_cons, List.drop_zero]
                    repeat (gi_big_quiet_step (fail))
                    refine wpQuietIn_nil ?_
                    intro w7 hb7
                    have HC := hidden (N3.out w7 (hbw2.out.more hb7) _ (p.right.drop 1) (Rd.old HDr.out hb7))
                    have hb7h := hidden hb7
                    clear z0 z1 z2 z3 z4 z5 z6 z7 s0 s1 s2 s3 s4 s5 s6 s7 hb7 HDr
                    gi_wp2_with fail
                    refine CallsIn.mono (F := Fence.wide) (callsIn_wide.2 HC.out) ?_
                    rintro rr wc ⟨⟨u8, rfl, HRest⟩, hb8⟩
                    have hb78 := hidden (hb7h.out.more hb8)
                    have HOne := hidden (Rd.old HRo.out hb78.out)
                    have hbc := hidden (hal2.out.more hb78.out)
                    clear hb8 HC hb7h hb78 HRo hbw2 hal2
                    generalize firsts22 g (p.right.drop 1) = fd at *
                    obtain ⟨A8, c8, rfl, _, _⟩ := HRest.out.val
                    gi_wp2_with fail
                    have hbwc := hidden (hbwr.out.more hbc.out)
                    have hgc : w.heap.size < wc.heap.size := Nat.lt_of_lt_of_le hgx hbc.out.size
                    have HBc := hidden (HBo.out _ (hbx.out.more hbc.out))
                    obtain ⟨s0, s1, s2, s3, s4, s5, s6, s7⟩ := eight HBc.out
                    have HC1 := hidden (N3.out wc hbwc.out _ p.right (HIn.out _ hbwc.out))
                    have hbcx := hidden (hbx.out.more hbc.out)
                    generalize firsts22 g p.right = fp at *
                    clear hbc hbwc HBc HIn i0 i1 y1
                    go_wp2_with fail
                    refine HC1.out.mono ?_
                    rintro e wd ⟨⟨ud, rfl, hud⟩, hbd⟩
                    have HC2 := hidden (ref11_OfT _ _ wd (Rd.old HOne.out hbd) (by omega))
                    have HRd := hidden (Rd.old HRest.out hbd)
                    have hbxd := hidden (hbcx.out.more hbd)
                    obtain ⟨Ad, cd, rfl, _, _⟩ := hud.out.val
                    have HUd := hidden hud.out
                    clear HC1 hbd hbcx HOne HRest s0 s1 s2 s3 s4 s5 s6 s7 hud
                    go_wp2_with fail
                    refine HC2.out.mono ?_
                    rintro e wf ⟨⟨uf, rfl, huf⟩, hbf⟩
                    have HC3 := hidden (ref11_Union _ _ _ _ wf (huf.out.mono (fun _ h => h.2)) (Rd.old HRd.out hbf) (by have := setOf_len fm; omega) (by omega))
                    have HUf := hidden (Rd.old HUd.out hbf)
                    have hbxf := hidden (hbxd.out.more hbf)
                    obtain ⟨Af2, cf2, rfl, _, _⟩ := huf.out.val
                    clear HC2 hbf hbxd HRd HUd huf
                    rw [← HEq.out] at HC3
                    generalize setOf fm = so at *
                    go_wp2_with fail
                    refine HC3.out.mono ?_
                    rintro e wh ⟨⟨uh, rfl, huh⟩, hbh⟩
                    have HC4 := hidden (ints_self (Rd.old HUf.out hbh) (huh.out.mono (fun _ h => h.2)))
                    have hbxh := hidden (hbxf.out.more hbh)
                    obtain ⟨Ah, ch, rfl, _, _⟩ := huh.out.val
                    clear HC3 hbh hbxf HUf huh
                    go_wp2_with fail
                    refine HC4.out.mono ?_
                    rintro e wi ⟨rfl, hbi⟩
                    have hbxi := hidden (hbxh.out.more hbi)
                    clear HC4 hbi hbxh
                    go_wp2
                    go_roundg (g.prods.length - (k + 1))
                    case measure => omega
                    case rel => exact ⟨k + 1, by omega, rfl, by go_num, hbxi⟩
                  · have HEq : Hid (firsts22 g p.right = unionOf (setOf fm) (firsts22 g (p.right.drop 1))) := hidden (by rw [HEq0.out]; rfl)
                    have hn2 : (firsts22 g (p.right.drop 1)).length ≤ 100000 := by have := HLn.out (p.right.drop 1); omega
                    have hbw2 := hidden (hbwr.out.more hal2.out)
                    have HRo := hidden (Rd.old HRu.out hal2.out)
                    have HDr : Hid (Rd ((wr.alloc (.cells #[.int .i64 (m : Int)] 3)).alloc (.cells #[] 3)) (Old ((wr.alloc (.cells #[.int .i64 (m : Int)] 3)).alloc (.cells #[] 3))) 4 (.slice (some ⟨b2, o2 + 4, none⟩) (p.right.length - 1) (k4 - 1)) (p.right.drop 1).length ((p.right.drop 1).flatMap itCells)) := hidden (by
                      have hd := rd_drop (HIn.out _ hbw2.out) (i := 1) (by omega)
                      rw [List.length_drop]
                      have hf : (p.right.flatMap itCells).drop (1 * 4) = (p.right.drop 1).flatMap itCells := by
                        rw [right_cons HX0.out]; rfl
                      rw [hf] at hd
                      exact hd)
                    have HBc0 := hidden (HBo.out _ (hbx.out.more hal2.out))
                    obtain ⟨s0, s1, s2, s3, s4, s5, s6, s7⟩ := eight HBc0.out
                    clear HEq0 HRu
                    go_upto_region 28 with fail
                    obtain ⟨wb, hwb⟩ : ∃ wb, wb = (wr.alloc (.cells #[.int .i64 (m : Int)] 3)).alloc (.cells #[] 3) := ⟨_, rfl⟩
                    simp only [← hwb] at *
                    clear hwb
                    have z0 := Ext.cell s0; have z1 := Ext.cell s1; have z2 := Ext.cell s2; have z3 := Ext.cell s3; have z4 := Ext.cell s4; have z5 := Ext.cell s5; have z6 := Ext.cell s6; have z7 := Ext.cell s7
                    go_wp2_with fail
                    refine (wpIn_wide (n := 5)).1 ?_
                    refine wpIn_region_ext_tail 3 (by kernel_rfl) (by kernel_rfl) rfl ?_
                    simp only [List.take_succ_cons, List.take_zero, List.drop_succ_cons, List.drop_zero]
                    repeat (gi_big_quiet_step (fail))
                    refine wpQuietIn_nil ?_
                    intro w7 hb7
                    have HC := hidden (N3.out w7 (hbw2.out.more hb7) _ (p.right.drop 1) (Rd.old HDr.out hb7))
                    have hb7h := hidden hb7
                    clear z0 z1 z2 z3 z4 z5 z6 z7 s0 s1 s2 s3 s4 s5 s6 s7 hb7 HDr
                    gi_wp2_with fail
                    refine CallsIn.mono (F := Fence.wide) (callsIn_wide.2 HC.out) ?_
                    rintro rr wc ⟨⟨u8, rfl, HRest⟩, hb8⟩
                    have hb78 := hidden (hb7h.out.more hb8)
                    have HOne := hidden (Rd.old HRo.out hb78.out)
                    have hbc := hidden (hal2.out.more hb78.out)
                    clear hb8 HC hb7h hb78 HRo hbw2 hal2
                    generalize firsts22 g (p.right.drop 1) = fd at *
                    obtain ⟨A8, c8, rfl, _, _⟩ := HRest.out.val
                    gi_wp2_with fail
                    have hbwc := hidden (hbwr.out.more hbc.out)
                    have hgc : w.heap.size < wc.heap.size := Nat.lt_of_lt_of_le hgx hbc.out.size
                    have HBc := hidden (HBo.out _ (hbx.out.more hbc.out))
                    obtain ⟨s0, s1, s2, s3, s4, s5, s6, s7⟩ := eight HBc.out
                    have HC1 := hidden (N3.out wc hbwc.out _ p.right (HIn.out _ hbwc.out))
                    have hbcx := hidden (hbx.out.more hbc.out)
                    generalize firsts22 g p.right = fp at *
                    clear hbc hbwc HBc HIn i0 i1 y1
                    go_wp2_with fail
                    refine HC1.out.mono ?_
                    rintro e wd ⟨⟨ud, rfl, hud⟩, hbd⟩
                    have HC2 := hidden (ref11_OfT _ _ wd (Rd.old HOne.out hbd) (by omega))
                    have HRd := hidden (Rd.old HRest.out hbd)
                    have hbxd := hidden (hbcx.out.more hbd)
                    obtain ⟨Ad, cd, rfl, _, _⟩ := hud.out.val
                    have HUd := hidden hud.out
                    clear HC1 hbd hbcx HOne HRest s0 s1 s2 s3 s4 s5 s6 s7 hud
                    go_wp2_with fail
                    refine HC2.out.mono ?_
                    rintro e wf ⟨⟨uf, rfl, huf⟩, hbf⟩
                    have HC3 := hidden (ref11_Union _ _ _ _ wf (huf.out.mono (fun _ h => h.2)) (Rd.old HRd.out hbf) (by have := setOf_len fm; omega) (by omega))
                    have HUf := hidden (Rd.old HUd.out hbf)
                    have hbxf := hidden (hbxd.out.more hbf)
                    obtain ⟨Af2, cf2, rfl, _, _⟩ := huf.out.val
                    clear HC2 hbf hbxd HRd HUd huf
                    rw [← HEq.out] at HC3
                    generalize setOf fm = so at *
                    go_wp2_with fail
                    refine HC3.out.mono ?_
                    rintro e wh ⟨⟨uh, rfl, huh⟩, hbh⟩
                    have HC4 := hidden (ints_self (Rd.old HUf.out hbh) (huh.out.mono (fun _ h => h.2)))
                    have hbxh := hidden (hbxf.out.more hbh)
                    obtain ⟨Ah, ch, rfl, _, _⟩ := huh.out.val
                    clear HC3 hbh hbxf HUf huh
                    go_wp2_with fail
                    refine HC4.out.mono ?_
                    rintro e wi ⟨rfl, hbi⟩
                    have hbxi := hidden (hbxh.out.more hbi)
                    clear HC4 hbi hbxh
                    go_wp2
                    go_roundg (g.prods.length - (k + 1))
                    case measure => omega
                    case rel => exact ⟨k + 1, by omega, rfl, by go_num, hbxi⟩
          · obtain rfl : k = g.prods.length := by omega
            go_wp2_with fail
            refine (knows22 _).mono ?_
            rintro r w3 ⟨rfl, hb3⟩
            replace hbwr := hidden (hbwr.out.more hb3)
            clear hb3
            go_wp2
            go_ret
            exact ⟨rfl, hbwr.out⟩
end Go.Proofs.Ytmlggfapnkhcaaa
