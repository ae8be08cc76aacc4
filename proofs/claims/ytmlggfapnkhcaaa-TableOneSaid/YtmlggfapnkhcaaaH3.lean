/-
  The document's Clash of layer 24. A table of the call's own: rows of one length, each in a block of its own. table.Build. The document's Build of layer 24. law24.knows; TableTakes. An argument of rows of whole numbers, opened.
-/
import Derived.Test.YtmlggfapnkhcaaaH1
import Derived.Test.YtmlggfapnkhcaaaH2
import Derived.Test.YtmlggfapnkhcaaaFirstD
import Derived.Test.YtmlggfapnkhcaaaG4
import Derived.Test.YtmlggfapnkhcaaaRows2
import Derived.Deep.Slices
import Derived.ChangeArms
namespace Go.Proofs.Ytmlggfapnkhcaaa
open Go.RowKit Go.Shelf
attribute [local simp] wide_fn

theorem clash_found {g : Gram} (hr : rightB g = true) {r t : Nat} (h : two24 g ((r : Int), (t : Int)) = true) (h1 : ∀ a b : Nat, a < r → b < g.toks.length + 1 → two24 g ((a : Int), (b : Int)) = false) (h2 : ∀ b : Nat, b < t → two24 g ((r : Int), (b : Int)) = false) : clash24 g = some ((r : Int), (t : Int)) := by
  refine clash_is hr h (fun q' h' hb => ?_)
  have hin := mem_pairs.1 (two_in hr h')
  obtain ⟨q1, q2⟩ := q'
  dsimp only at hin
  obtain ⟨a, rfl⟩ : ∃ a : Nat, q1 = (a : Int) := ⟨q1.toNat, by omega⟩
  obtain ⟨b, rfl⟩ : ∃ b : Nat, q2 = (b : Int) := ⟨q2.toNat, by omega⟩
  rcases hb with hb | ⟨hb, hb2⟩
  · have := h1 a b (by simpa using hb) (by omega)
    rw [this] at h'; cases h'
  · have e : a = r := by
      have : (a : Int) = (r : Int) := hb
      omega
    subst e
    have := h2 b (by simpa using hb2)
    rw [this] at h'; cases h'
theorem clash_never {g : Gram} (hr : rightB g = true) (h1 : ∀ a b : Nat, a < g.rules.length → b < g.toks.length + 1 → two24 g ((a : Int), (b : Int)) = false) : clash24 g = none := by
  refine clash_no (fun q' => ?_)
  cases e : two24 g q'
  · rfl
  · have hin := mem_pairs.1 (two_in hr e)
    obtain ⟨q1, q2⟩ := q'
    dsimp only at hin
    obtain ⟨a, rfl⟩ : ∃ a : Nat, q1 = (a : Int) := ⟨q1.toNat, by omega⟩
    obtain ⟨b, rfl⟩ : ∃ b : Nat, q2 = (b : Int) := ⟨q2.toNat, by omega⟩
    rw [h1 a b (by omega) (by omega)] at e
    cases e

set_option maxRecDepth 20000 in
set_option maxHeartbeats 16000000 in
theorem ref_Clash24 (a b c : Value) (g : Gram) (w : World) (HG : GramIs w (Old w) a b c g) (hsm : Small g) (ht : g.toks.length ≤ 12) (hru : g.rules.length ≤ 12) (hp30 : g.prods.length ≤ 30) :
    Calls Try.prog 58 #[.agg (gramCells a b c g)] w fun r w' => r = .returned (.tuple #[defC (atD24 g), .int .i64 (second24 g)]) ∧ Below w.heap.size w w' := by
  have HRt := hidden (fun (w' : World) (hb : Below w.heap.size w w') => ref_Right21 a b c g w' (HG.old hb) hsm.toks hsm.rules hsm.prods hsm.names)
  have HPd := hidden (fun (hr : rightB g = true) (w' : World) (hb : Below w.heap.size w w') => ref_predicted a b c g w' (HG.old hb) hsm (by omega) hr)
  have HPs := hidden (fun (w' : World) (hb : Below w.heap.size w w') (va : Value) (r t : Int) hA => ref_predicts a b c va g r t w' (HG.old hb) (by omega) hA)
  have HAt : Hid (atD24 g = match clash24 g with | some q => ⟨15, q.1, q.2⟩ | none => D0) := hidden rfl
  have HSe : Hid (second24 g = match clash24 g with | some q => (cell24 g q.1 q.2).getD 1 0 | none => -1) := hidden rfl
  have HNo := hidden (fun (hr : rightB g = false) => (show clash24 g = none from by unfold clash24; rw [hr]; rfl))
  have HFn := hidden (fun (hr : rightB g = true) (r t : Nat) h h1 h2 => clash_found (r := r) (t := t) hr h h1 h2)
  have HNv := hidden (fun (hr : rightB g = true) h1 => clash_never hr h1)
  have HLn := hidden (fun (r t : Int) => (show (cell24 g r t).length ≤ 30 from Nat.le_trans (cellTo_len g r t g.prods.length) hp30))
  obtain ⟨⟨A1, k1, rfl, v1, m1⟩, ⟨A2, k2, rfl, v2, m2⟩, ⟨A3, k3, rfl, v3, m3⟩⟩ := HG.vals
  have hb1 : Below w.heap.size w ((w.alloc (.cells #[.slice A1 g.toks.length k1, .slice A2 g.rules.length k2, .slice A3 g.prods.length k3, .int .i64 g.start, .int .i64 g.states, .int .i64 g.text, .int .i64 g.nodes, .int .i64 g.pairs] 26)).alloc (.cells #[.int .i64 0, .int .i64 0, .int .i64 0] 40)) := (by repeat (first | (with_reducible exact Below.refl _ _) | (with_reducible assumption) | (with_reducible refine Below.drew ?_) | (with_reducible refine below_drewN ?_ _) | ((with_reducible refine below_alloc ?_ ?_); (focus (first | omega | (simp; done) | (simp; omega)))) | ((with_reducible refine below_set ?_ ?_); (focus (first | omega | (simp; done) | (simp; omega))))))
  have HG1 : Hid (Holds ((w.alloc (.cells #[.slice A1 g.toks.length k1, .slice A2 g.rules.length k2, .slice A3 g.prods.length k3, .int .i64 g.start, .int .i64 g.states, .int .i64 g.text, .int .i64 g.nodes, .int .i64 g.pairs] 26)).alloc (.cells #[.int .i64 0, .int .i64 0, .int .i64 0] 40)) w.heap.size 26 #[.slice A1 g.toks.length k1, .slice A2 g.rules.length k2, .slice A3 g.prods.length k3, .int .i64 g.start, .int .i64 g.states, .int .i64 g.text, .int .i64 g.nodes, .int .i64 g.pairs]) := hidden (by repeat (first | (with_reducible assumption) | ((with_reducible refine holds_new ?_); (focus (first | rfl | (simp; done)))) | (with_reducible refine Holds.alloc ?_ _) | (with_reducible refine Holds.drew ?_)))
  have HD1 : Hid (Holds ((w.alloc (.cells #[.slice A1 g.toks.length k1, .slice A2 g.rules.length k2, .slice A3 g.prods.length k3, .int .i64 g.start, .int .i64 g.states, .int .i64 g.text, .int .i64 g.nodes, .int .i64 g.pairs] 26)).alloc (.cells #[.int .i64 0, .int .i64 0, .int .i64 0] 40)) (w.heap.size + 1) 40 #[.int .i64 0, .int .i64 0, .int .i64 0]) := hidden (by repeat (first | (with_reducible assumption) | ((with_reducible refine holds_new ?_); (focus (first | rfl | (simp; done)))) | (with_reducible refine Holds.alloc ?_ _) | (with_reducible refine Holds.drew ?_)))
  obtain ⟨s0, s1, s2, s3, s4, s5, s6, s7⟩ := eight22 HG1.out
  clear HG hsm hp30
  unfold gramCells defC at *
  generalize atD24 g = ad at *
  generalize second24 g = se at *
  go_enter Try.func58, Try.ntmps58
  go_wp2_with fail
  refine (HRt.out _ hb1).mono ?_
  rintro e w2 ⟨rfl, hb2⟩
  replace HG1 := hidden (HG1.out.below hb2 HG1.out.lt)
  replace HD1 := hidden (HD1.out.below hb2 HD1.out.lt)
  replace hb1 := hb1.trans (hb2.mono hb1.size)
  clear hb2 s0 s1 s2 s3 s4 s5 s6 s7 HRt
  cases hr : rightB g
  · rw [HNo.out hr] at HAt HSe
    have HE : Hid (ad = D0 ∧ se = -1) := hidden ⟨HAt.out, HSe.out⟩
    obtain ⟨rfl, rfl⟩ := HE.out
    have d0 : w2.cell? ⟨w.heap.size + 1, 0, none⟩ = some (.int .i64 0) := HD1.out.cell 0
    have d1 : w2.cell? ⟨w.heap.size + 1, 1, none⟩ = some (.int .i64 0) := HD1.out.cell 1
    have d2 : w2.cell? ⟨w.heap.size + 1, 2, none⟩ = some (.int .i64 0) := HD1.out.cell 2
    have f0 := HD1.out.frozen 0
    have f1 := HD1.out.frozen 1
    have f2 := HD1.out.frozen 2
    have hl := HD1.out.lt
    have hlw : w.heap.size < w2.heap.size := HG1.out.lt
    go_wp2
    have HN : Holds (((w2.setCell ⟨w.heap.size + 1, 0, none⟩ (.int .i64 0)).setCell ⟨w.heap.size + 1, 1, none⟩ (.int .i64 0)).setCell ⟨w.heap.size + 1, 2, none⟩ (.int .i64 0)) (w.heap.size + 1) 40 #[.int .i64 0, .int .i64 0, .int .i64 0] := holds_set (holds_set (holds_set HD1.out))
    have n0 := HN.cell 0
    have n1 := HN.cell 1
    have n2 := HN.cell 2
    simp at n0 n1 n2
    exact bodyPost_ret (v := .tuple #[.agg #[.int .i64 0, .int .i64 0, .int .i64 0], .int .i64 (-1)]) (by simp only [results, Try.results58, go_sem]; simp [n0, n1, n2, go_sem]) rfl ⟨rfl, ((hb1.setCell (p := ⟨w.heap.size + 1, 0, none⟩) (by simp) _).setCell (p := ⟨w.heap.size + 1, 1, none⟩) (by simp) _).setCell (p := ⟨w.heap.size + 1, 2, none⟩) (by simp) _⟩
  · obtain ⟨s0, s1, s2, s3, s4, s5, s6, s7⟩ := eight22 HG1.out
    go_wp2_with fail
    refine (HPd.out hr _ hb1).mono ?_
    rintro e w3 ⟨⟨up, rfl, hup⟩, hb3⟩
    replace HG1 := hidden (HG1.out.below hb3 HG1.out.lt)
    replace HD1 := hidden (HD1.out.below hb3 HD1.out.lt)
    replace hb1 := hb1.trans (hb3.mono hb1.size)
    have HPl := hidden (fun (wx : World) (hb : Below w3.heap.size w3 wx) => Recs.old hup.out hb)
    obtain ⟨Ap, cp, rfl, _, _⟩ := hup.out.value
    have HBo := hidden (fun (wx : World) (hb : Below w3.heap.size w3 wx) => And.intro (HG1.out.below hb HG1.out.lt) (And.intro (HD1.out.below hb HD1.out.lt) (hb1.trans (hb.mono hb1.size))))
    have hgl3 := HD1.out.lt
    have HFq := hidden (HFn.out hr)
    have HNq := hidden (HNv.out hr)
    have hb3r := hidden (Below.refl w3.heap.size w3)
    clear s0 s1 s2 s3 s4 s5 s6 s7 HPd hb3 hup HNo HFn HNv hr HG1 HD1 hb1
    have hB3 := (HBo.out _ hb3r.out).2.2
    go_wp2
    go_loopg [5] g.rules.length (fun gh ii wx => ∃ r : Nat, r ≤ g.rules.length ∧ gh = g.rules.length - r ∧ ii = .int .i64 r ∧ Hid (∀ a b : Nat, a < r → b < g.toks.length + 1 → two24 g ((a : Int), (b : Int)) = false) ∧ Hid (Below w3.heap.size w3 wx))
    case atStart => exact ⟨0, by omega, by omega, rfl, hidden (fun a b h => by omega), hb3r⟩
    case round =>
      clear hb3r
      obtain ⟨r, hrl, rfl, rfl, HNr, hbx⟩ := hrel
      obtain ⟨HGx, HDx, hbw⟩ := HBo.out _ hbx.out
      obtain ⟨s0, s1, s2, s3, s4, s5, s6, s7⟩ := eight22 HGx
      have hgl := HGx.lt
      have hdl := HDx.lt
      by_cases hlr : r < g.rules.length
      · clear HGx HDx hbw
        go_wp2
        clear s0 s1 s2 s3 s4 s5 s6 s7 hgl hdl
        go_loopg [6] (g.toks.length + 1) (fun gh ii wx => ∃ t : Nat, t ≤ g.toks.length + 1 ∧ gh = g.toks.length + 1 - t ∧ ii = .int .i64 t ∧ Hid (∀ b : Nat, b < t → two24 g ((r : Int), (b : Int)) = false) ∧ Hid (Below w3.heap.size w3 wx))
        case atStart => exact ⟨0, by omega, by omega, rfl, hidden (fun b h => by omega), hbx⟩
        case round =>
          clear hbx
          obtain ⟨t, htl, rfl, rfl, HNt, hbx⟩ := hrel
          obtain ⟨HGx, HDx, hbw⟩ := HBo.out _ hbx.out
          obtain ⟨s0, s1, s2, s3, s4, s5, s6, s7⟩ := eight22 HGx
          have hgl := HGx.lt
          by_cases htt : t < g.toks.length + 1
          · have dt : decide ((t : Int) ≤ (g.toks.length : Int)) = true := decide_eq_true (by omega)
            have HC := hidden (HPs.out _ hbw _ (r : Int) (t : Int) (HPl.out _ hbx.out))
            have hl30 := HLn.out (r : Int) (t : Int)
            have H2 : Hid (two24 g ((r : Int), (t : Int)) = decide (2 ≤ (cell24 g (r : Int) (t : Int)).length)) := hidden rfl
            have HFq' := hidden (HFq.out r t)
            have HDx0 := hidden HDx.lt
            clear HGx HDx hbw
            go_wp2_with fail
            refine HC.out.mono ?_
            rintro e w4 ⟨⟨u4, rfl, hu4⟩, hb4⟩
            have hbx4 := hidden (hbx.out.more hb4)
            have HU : Hid (Ints w4 (fun k => wr.heap.size ≤ k ∧ k < w4.heap.size) u4 (cell24 g (r : Int) (t : Int))) := hidden (Mine.rd hu4.out (fun _ _ h1 h2 => ⟨h1, h2⟩))
            have hdl1 := HDx0.out
            clear hb4 hu4 HC hbx s0 s1 s2 s3 s4 s5 s6 s7 hgl
            obtain ⟨A5, c5, rfl, _, _⟩ := HU.out.val
            by_cases h2 : 2 ≤ (cell24 g (r : Int) (t : Int)).length
            · have HE := hidden (HFq'.out (by rw [H2.out]; exact decide_eq_true h2) HNr.out HNt.out)
              rw [HE.out] at HAt HSe
              have HE2 : Hid (ad = ⟨15, (r : Int), (t : Int)⟩) := hidden HAt.out
              obtain rfl := HE2.out
              have hz1 := List.getElem?_eq_getElem (show 1 < (cell24 g (r : Int) (t : Int)).length by omega)
              have HSy : Hid ((cell24 g (r : Int) (t : Int))[1]? = some se) := hidden (by
                have e : se = (cell24 g (r : Int) (t : Int)).getD 1 0 := HSe.out
                rw [e, List.getD_eq_getElem?_getD, hz1]; rfl)
              obtain ⟨gb, go_, rfl, hgT, x1⟩ := row_at HU.out HSy.out
              have hgT' : gb < w4.heap.size := hgT.2
              have hne : gb ≠ w.heap.size + 1 := by have := hgT.1; omega
              obtain ⟨HGx, HDx, hbw⟩ := HBo.out _ hbx4.out
              have HDh := hidden HDx
              have HBw := hidden hbw
              have hdl := HDx.lt
              have d0 : w4.cell? ⟨w.heap.size + 1, 0, none⟩ = some (.int .i64 0) := HDx.cell 0
              have d1 : w4.cell? ⟨w.heap.size + 1, 1, none⟩ = some (.int .i64 0) := HDx.cell 1
              have d2 : w4.cell? ⟨w.heap.size + 1, 2, none⟩ = some (.int .i64 0) := HDx.cell 2
              have f0 := HDx.frozen 0
              have f1 := HDx.frozen 1
              have f2 := HDx.frozen 2
              have e1 : decide ((1 : Int) < ((cell24 g (r : Int) (t : Int)).length : Int)) = true := decide_eq_true (by omega)
              have e2 : (1 : Int) < ((cell24 g (r : Int) (t : Int)).length : Int) := by omega
              have e3 : 1 < (cell24 g (r : Int) (t : Int)).length := by omega
              clear HGx HDx hbw HU HSy hz1 HNt HNr HFq' H2 HAt HSe HE hgT h2
              generalize (cell24 g (r : Int) (t : Int)).length = nl at *
              go_wp2_with fail
              go_region_held3 (fun w' => w'.cell? ⟨gb, go_ + 1, none⟩ = some (.int .i64 se) ∧ Below w.heap.size w w')
                (first | exact ⟨x1, HBw.out.drew⟩ | (go_split_ands; exact ⟨(keep_store x1 x1 x1 HBw.out (by omega) hne hne).1, (keep_store x1 x1 x1 HBw.out (by omega) hne hne).2.2.2⟩))
                (first | fail)
              all_goals
                have HN : Hid (Holds (((w4.setCell ⟨w.heap.size + 1, 0, none⟩ (.int .i64 15)).setCell ⟨w.heap.size + 1, 1, none⟩ (.int .i64 (r : Int))).setCell ⟨w.heap.size + 1, 2, none⟩ (.int .i64 (t : Int))) (w.heap.size + 1) 40 #[.int .i64 15, .int .i64 (r : Int), .int .i64 (t : Int)]) := hidden (holds_set (holds_set (holds_set HDh.out)))
                go_wp2
                have n0 := HN.out.cell 0
                have n1 := HN.out.cell 1
                have n2 := HN.out.cell 2
                simp at n0 n1 n2
                exact bodyPost_ret (v := .tuple #[.agg #[.int .i64 15, .int .i64 (r : Int), .int .i64 (t : Int)], .int .i64 se]) (by simp only [results, Try.results58, go_sem]; simp [n0, n1, n2, go_sem]) rfl ⟨rfl, (keep_store x1 x1 x1 HBw.out (by omega) hne hne).2.2.2⟩
            · have HNt2 : Hid (∀ b : Nat, b < t + 1 → two24 g ((r : Int), (b : Int)) = false) := hidden (fun b hb => by
                by_cases e : b = t
                · rw [e, H2.out]; exact decide_eq_false h2
                · exact HNt.out b (by omega))
              have d1 : decide ((1 : Int) < ((cell24 g (r : Int) (t : Int)).length : Int)) = false := decide_eq_false (by omega)
              clear HNt HFq' HU H2 h2
              go_wp2
              go_roundg (g.toks.length + 1 - (t + 1))
              case measure => omega
              case rel => exact ⟨t + 1, by omega, rfl, by go_num, HNt2, hbx4⟩
          · obtain rfl : t = g.toks.length + 1 := by omega
            have dt : decide (((g.toks.length + 1 : Nat) : Int) ≤ (g.toks.length : Int)) = false := decide_eq_false (by omega)
            have dt2 : decide ((g.toks.length : Int) + 1 ≤ (g.toks.length : Int)) = false := decide_eq_false (by omega)
            have HNr2 : Hid (∀ a b : Nat, a < r + 1 → b < g.toks.length + 1 → two24 g ((a : Int), (b : Int)) = false) := hidden (fun a b ha hb => by
              by_cases e : a = r
              · rw [e]; exact HNt.out b hb
              · exact HNr.out a b (by omega) hb)
            clear HGx HDx hbw HNt HNr
            go_wp2
            go_roundg (g.rules.length - (r + 1))
            case measure => omega
            case rel => exact ⟨r + 1, by omega, rfl, by go_num, HNr2, hbx⟩
      · obtain rfl : r = g.rules.length := by omega
        have HE := hidden (HNq.out HNr.out)
        rw [HE.out] at HAt HSe
        have HE2 : Hid (ad = D0 ∧ se = -1) := hidden ⟨HAt.out, HSe.out⟩
        obtain ⟨rfl, rfl⟩ := HE2.out
        have HDh := hidden HDx
        have HBw := hidden hbw
        have d0 : wr.cell? ⟨w.heap.size + 1, 0, none⟩ = some (.int .i64 0) := HDx.cell 0
        have d1 : wr.cell? ⟨w.heap.size + 1, 1, none⟩ = some (.int .i64 0) := HDx.cell 1
        have d2 : wr.cell? ⟨w.heap.size + 1, 2, none⟩ = some (.int .i64 0) := HDx.cell 2
        have f0 := HDx.frozen 0
        have f1 := HDx.frozen 1
        have f2 := HDx.frozen 2
        clear HGx HDx hbw HNr
        go_wp2
        have HD1 := HDh
        have hb1 := HBw.out
        have HN : Holds (((wr.setCell ⟨w.heap.size + 1, 0, none⟩ (.int .i64 0)).setCell ⟨w.heap.size + 1, 1, none⟩ (.int .i64 0)).setCell ⟨w.heap.size + 1, 2, none⟩ (.int .i64 0)) (w.heap.size + 1) 40 #[.int .i64 0, .int .i64 0, .int .i64 0] := holds_set (holds_set (holds_set HD1.out))
        have n0 := HN.cell 0
        have n1 := HN.cell 1
        have n2 := HN.cell 2
        simp at n0 n1 n2
        exact bodyPost_ret (v := .tuple #[.agg #[.int .i64 0, .int .i64 0, .int .i64 0], .int .i64 (-1)]) (by simp only [results, Try.results58, go_sem]; simp [n0, n1, n2, go_sem]) rfl ⟨rfl, ((hb1.setCell (p := ⟨w.heap.size + 1, 0, none⟩) (by simp) _).setCell (p := ⟨w.heap.size + 1, 1, none⟩) (by simp) _).setCell (p := ⟨w.heap.size + 1, 2, none⟩) (by simp) _⟩
end Go.Proofs.Ytmlggfapnkhcaaa

namespace Go.Proofs.Ytmlggfapnkhcaaa
open Go.RowKit Go.Shelf

def topCells (n L k : Nat) (Q : Nat → Nat) : Array Value := ((List.range n).map fun r => if r < k then .slice (some ⟨Q r, 0, none⟩) L L else .slice none 0 0).toArray
def rowCells (L : Nat) (M : Nat → Int) : Array Value := ((List.range L).map fun t => Value.int .i64 (M t)).toArray
/-- The rows below k are made. -/
structure MatAt (lo q : Nat) (Q : Nat → Nat) (n L k : Nat) (M : Nat → Nat → Int) (w : World) : Prop where
  top : Holds w q 34 (topCells n L k Q)
  row : ∀ r, r < k → Holds w (Q r) 3 (rowCells L (M r))
  inj : ∀ r s, r < k → s < k → Q r = Q s → r = s
  ne : ∀ r, r < k → Q r ≠ q ∧ lo ≤ Q r
  lo_ : lo ≤ q
section
variable {lo q n L k : Nat} {Q : Nat → Nat} {M : Nat → Nat → Int} {w w' : World}
theorem MatAt.below (h : MatAt lo q Q n L k M w) (hb : Below w.heap.size w w') : MatAt lo q Q n L k M w' :=
  ⟨h.top.below hb h.top.lt, fun r hr => (h.row r hr).below hb (h.row r hr).lt, h.inj, h.ne, h.lo_⟩
theorem MatAt.topCell (h : MatAt lo q Q n L k M w) {r : Nat} (hr : r < k) (hn : r < n) : w.cell? ⟨q, r, none⟩ = some (.slice (some ⟨Q r, 0, none⟩) L L) := by
  rw [h.top.cell r]
  simp [topCells, hr, hn]
theorem MatAt.topNil (h : MatAt lo q Q n L k M w) {r : Nat} (hr : k ≤ r) (hn : r < n) : w.cell? ⟨q, r, none⟩ = some (.slice none 0 0) := by
  rw [h.top.cell r]
  simp [topCells, hn]
  omega
theorem MatAt.cell (h : MatAt lo q Q n L k M w) {r t : Nat} (hr : r < k) (ht : t < L) : w.cell? ⟨Q r, t, none⟩ = some (.int .i64 (M r t)) := by
  rw [(h.row r hr).cell t]
  simp [rowCells, ht]
/-- A number more. -/
theorem MatAt.put (h : MatAt lo q Q n L k M w) {r t : Nat} (hr : r < k) (ht : t < L) (z : Int) : MatAt lo q Q n L k (fun a b => if a = r ∧ b = t then z else M a b) (w.setCell ⟨Q r, t, none⟩ (.int .i64 z)) := by
  refine ⟨h.top.far (p := ⟨Q r, t, none⟩) (fun e => (h.ne r hr).1 e.symm) _, fun a ha => ?_, h.inj, h.ne, h.lo_⟩
  by_cases e : a = r
  · subst e
    have := (h.row a hr).set t (.int .i64 z)
    refine Holds.of_eq this ?_
    apply Array.ext'
    simp only [rowCells, Array.toList_setIfInBounds]
    apply List.ext_getElem?
    intro i
    rw [List.getElem?_set]
    by_cases e2 : t = i
    · subst e2
      simp [ht]
    · rw [if_neg e2]
      simp only [List.getElem?_map]
      cases hi : (List.range L)[i]? with
      | none => rfl
      | some j =>
        have : j = i := by
          have := List.getElem?_eq_some_iff.1 hi
          obtain ⟨h1, h2⟩ := this
          simpa using h2.symm
        subst this
        simp only [Option.map_some]
        rw [if_neg (fun h => e2 h.2.symm)]
  · have := (h.row a ha).far (p := ⟨Q r, t, none⟩) (fun e2 => e (h.inj a r ha hr e2)) (.int .i64 z)
    refine Holds.of_eq this ?_
    unfold rowCells
    congr 1
    refine List.map_congr_left (fun b _ => ?_)
    dsimp only
    rw [if_neg (fun h => e h.1)]
/-- A row more, of noughts. -/
theorem MatAt.add (h : MatAt lo q Q n L k M w) (hk : k < n) (hlo : lo ≤ w.heap.size) : MatAt lo q (fun r => if r = k then w.heap.size else Q r) n L (k + 1) (fun a b => if a = k then 0 else M a b) ((w.alloc (.cells (rowCells L fun _ => 0) 3)).setCell ⟨q, k, none⟩ (.slice (some ⟨w.heap.size, 0, none⟩) L L)) := by
  have hq := h.top.lt
  refine ⟨?_, fun a ha => ?_, fun a b ha hb e => ?_, fun a ha => ?_, h.lo_⟩
  · have := (h.top.alloc (.cells (rowCells L fun _ => 0) 3)).set k (.slice (some ⟨w.heap.size, 0, none⟩) L L)
    refine Holds.of_eq this ?_
    apply Array.ext'
    simp only [topCells, Array.toList_setIfInBounds]
    apply List.ext_getElem?
    intro i
    rw [List.getElem?_set]
    by_cases e2 : k = i
    · subst e2
      simp [hk]
    · rw [if_neg e2]
      simp only [List.getElem?_map]
      cases hi : (List.range n)[i]? with
      | none => rfl
      | some j =>
        have : j = i := by
          obtain ⟨h1, h2⟩ := List.getElem?_eq_some_iff.1 hi
          simpa using h2.symm
        subst this
        simp only [Option.map_some]
        by_cases e3 : j < k
        · rw [if_pos e3, if_pos (by omega), if_neg (by omega)]
        · rw [if_neg e3, if_neg (by omega)]
  · by_cases e : a = k
    · subst e
      have : Holds (w.alloc (.cells (rowCells L fun _ => 0) 3)) w.heap.size 3 (rowCells L fun _ => 0) := Holds.new _ _ _
      have h2 := this.far (p := ⟨q, a, none⟩) (by simp; omega) (.slice (some ⟨w.heap.size, 0, none⟩) L L)
      simpa using h2
    · have h1 := h.row a (by omega)
      have h2 := (h1.alloc (.cells (rowCells L fun _ => 0) 3)).far (p := ⟨q, k, none⟩) (h.ne a (by omega)).1 (.slice (some ⟨w.heap.size, 0, none⟩) L L)
      simp only [e, if_false]
      exact h2
  · by_cases e1 : a = k
    · by_cases e2 : b = k
      · rw [e1, e2]
      · rw [if_pos e1, if_neg e2] at e
        have := (h.row b (by omega)).lt
        omega
    · by_cases e2 : b = k
      · rw [if_neg e1, if_pos e2] at e
        have := (h.row a (by omega)).lt
        omega
      · rw [if_neg e1, if_neg e2] at e
        exact h.inj a b (by omega) (by omega) e
  · by_cases e1 : a = k
    · rw [if_pos e1]; exact ⟨by omega, hlo⟩
    · rw [if_neg e1]; exact h.ne a (by omega)
theorem MatAt.congr (h : MatAt lo q Q n L k M w) {M' : Nat → Nat → Int} (e : ∀ r t, r < k → t < L → M r t = M' r t) : MatAt lo q Q n L k M' w := by
  refine ⟨h.top, fun r hr => ?_, h.inj, h.ne, h.lo_⟩
  refine Holds.of_eq (h.row r hr) ?_
  unfold rowCells
  congr 1
  refine List.map_congr_left (fun t ht => ?_)
  rw [e r t hr (List.mem_range.1 ht)]
theorem MatAt.grown (h : MatAt lo q Q n L k M w) {row : Option Nat} (hg : w.grownBy w' row) (hr : ∀ g, row = some g → g ≠ q ∧ ∀ r, r < k → g ≠ Q r) : MatAt lo q Q n L k M w' :=
  ⟨holds_grown h.top hg (fun e => (hr q e).1 rfl), fun r hk => holds_grown (h.row r hk) hg (fun e => (hr (Q r) e).2 r hk rfl), h.inj, h.ne, h.lo_⟩
/-- What it reads as, when all its rows are made. -/
theorem MatAt.rows (h : MatAt lo q Q n L n M w) (hn : n ≤ maxLen) (hL : L ≤ maxLen) : Rows2 w (Old w) (.slice (some ⟨q, 0, none⟩) n n) ((List.range n).map fun r => (List.range L).map fun t => M r t) := by
  have hl : ((List.range n).map fun r => (List.range L).map fun t => M r t).length = n := by simp
  refine Rows2.mk' ((List.range n).map fun r => .slice (some ⟨Q r, 0, none⟩) L L) (by simp) ?_ (fun i x l hx hl' => ?_)
  · rw [hl]
    refine ⟨by simp, _, _, rfl, Nat.le_refl _, hn, fun h0 => ⟨q, 0, rfl, h.top.lt, fun j u hu => ?_⟩⟩
    rw [List.getElem?_map] at hu
    have hj : j < n := by
      cases hr : (List.range n)[j]? with
      | none => rw [hr] at hu; cases hu
      | some z => have := (List.getElem?_eq_some_iff.1 hr).1; simpa using this
    rw [List.getElem?_range hj] at hu
    simp only [Option.map_some, Option.some.injEq] at hu
    subst hu
    rw [Nat.zero_add]
    exact h.topCell hj hj
  · have hi : i < n := by have := (List.getElem?_eq_some_iff.1 hx).1; simpa using this
    rw [List.getElem?_map, List.getElem?_range hi] at hx hl'
    simp only [Option.map_some, Option.some.injEq] at hx hl'
    subst hx hl'
    have he : ((List.range L).map fun t => M i t).length = L := by simp
    have hfl : (((List.range L).map fun t => M i t).flatMap (one1 intV)) = (List.range L).map fun t => Value.int .i64 (M i t) := by
      rw [List.flatMap_def, List.map_map]
      simp [one1, Function.comp_def]
      induction (List.range L) with
      | nil => rfl
      | cons a l ih => simp [ih]
    refine ⟨by rw [hfl]; simp, _, _, by rw [he], Nat.le_refl _, by rw [he]; exact hL, fun h0 => ⟨Q i, 0, rfl, (h.row i hi).lt, fun j u hu => ?_⟩⟩
    rw [hfl, List.getElem?_map] at hu
    have hj : j < L := by
      cases hr : (List.range L)[j]? with
      | none => rw [hr] at hu; cases hu
      | some z => have := (List.getElem?_eq_some_iff.1 hr).1; simpa using this
    rw [List.getElem?_range hj] at hu
    simp only [Option.map_some, Option.some.injEq] at hu
    subst hu
    rw [Nat.zero_add]
    exact h.cell hi hj
end
end Go.Proofs.Ytmlggfapnkhcaaa

namespace Go.Proofs.Ytmlggfapnkhcaaa
open Go.RowKit Go.Shelf Go.ChangeMaps Go.ChangeShapes Go.MapKept
attribute [local simp] wide_fn

noncomputable def doneM (F : Int → Int → List Int) (left : Int → Int → Prop) (r t : Nat) : Int := if holdsB (F r t ≠ [] ∧ ¬ left r t) = true then headOr (F r t) else -1
theorem doneM_start (F : Int → Int → List Int) (r t : Nat) : doneM F (fun r t => F r t ≠ []) r t = -1 := by
  unfold doneM
  rw [holdsB_false (fun h => h.2 h.1)]
  rfl
theorem doneM_end {F : Int → Int → List Int} {left : Int → Int → Prop} {r t : Nat} (h : ¬ left r t) : doneM F left r t = headOr (F r t) := by
  unfold doneM
  by_cases e : F r t = []
  · rw [holdsB_false (fun h => h.1 e), e]; rfl
  · rw [holdsB_true ⟨e, h⟩]; rfl
theorem doneM_step {F : Int → Int → List Int} {left : Int → Int → Prop} {m k : Nat} (hne : F m k ≠ []) (r t : Nat) : doneM F (fun r' t' => left r' t' ∧ (r' = (m : Int) → ¬ t' = (k : Int))) r t = if r = m ∧ t = k then headOr (F m k) else doneM F left r t := by
  unfold doneM
  by_cases e : r = m ∧ t = k
  · obtain ⟨rfl, rfl⟩ := e
    rw [holdsB_true (show F r t ≠ [] ∧ ¬ (left r t ∧ ((r : Int) = (r : Int) → ¬ (t : Int) = (t : Int))) from ⟨hne, fun h => h.2 rfl rfl⟩), if_pos rfl, if_pos (show r = r ∧ t = t from ⟨rfl, rfl⟩)]
  · rw [if_neg e]
    have : (F r t ≠ [] ∧ ¬ (left r t ∧ ((r : Int) = (m : Int) → ¬ (t : Int) = (k : Int)))) ↔ (F r t ≠ [] ∧ ¬ left r t) := by
      refine and_congr_right fun _ => not_congr ⟨fun h => h.1, fun h => ⟨h, fun h1 h2 => e ⟨by omega, by omega⟩⟩⟩
    by_cases h : F r t ≠ [] ∧ ¬ left r t
    · rw [holdsB_true h, holdsB_true (this.2 h)]
    · rw [holdsB_false h, holdsB_false (fun k => h (this.1 k))]
theorem grown_drew (w : World) : w.grownBy w.drew none := ⟨rfl, rfl, rfl, Nat.le_refl _, fun _ _ _ => rfl⟩
theorem headOr_at {l : List Int} (h : l ≠ []) : l[0]? = some (headOr l) := by
  cases l with
  | nil => exact absurd rfl h
  | cons z l => rfl
theorem made_rows (n L : Nat) : ∀ Q, (topCells n L 0 Q) = nilRows n := by
  intro Q
  unfold topCells nilRows
  apply Array.ext'
  simp
  apply List.ext_getElem?
  intro i
  rw [List.getElem?_map]
  by_cases hi : i < n
  · rw [List.getElem?_range hi]; simp [hi]
  · rw [List.getElem?_eq_none (by simp; omega), List.getElem?_eq_none (by simp; omega)]; rfl
theorem made_ints (L : Nat) : madeCells #[Value.int .i64 0] L = rowCells L (fun _ => 0) := by
  unfold rowCells
  apply Array.ext'
  simp [madeCells, Nat.mod_one, List.map_const']
theorem keep_build {w5 : World} {p qb t0 gb i j m k x0 : Nat} {a x y z v : Value} (h0 : w5.cell? ⟨qb, i, none⟩ = some x) (h1 : w5.cell? ⟨qb, j, none⟩ = some y) (h2 : w5.cell? ⟨t0, m, none⟩ = some z) (h3 : w5.cell? ⟨gb, k, none⟩ = some v) (hq : qb ≠ p) (ht : t0 ≠ p) (hg : gb ≠ p) :
    (w5.drew.setCell ⟨p, x0, none⟩ a).cell? ⟨qb, i, none⟩ = some x ∧ (w5.drew.setCell ⟨p, x0, none⟩ a).cell? ⟨qb, j, none⟩ = some y ∧ (w5.drew.setCell ⟨p, x0, none⟩ a).cell? ⟨t0, m, none⟩ = some z ∧ (w5.drew.setCell ⟨p, x0, none⟩ a).cell? ⟨gb, k, none⟩ = some v := by
  have key : ∀ (v : World) (u : Value) (m l : Nat) (q : Nat), q ≠ p → (v.setCell ⟨p, m, none⟩ u).cell? ⟨q, l, none⟩ = v.cell? ⟨q, l, none⟩ := fun v u m l q hne => World.cell?_of_block (a := ⟨q, l, none⟩) (Below.heap_setCell v ⟨p, m, none⟩ u q hne)
  refine ⟨?_, ?_, ?_, ?_⟩
  · rw [key _ _ _ _ _ hq]; exact h0
  · rw [key _ _ _ _ _ hq]; exact h1
  · rw [key _ _ _ _ _ ht]; exact h2
  · rw [key _ _ _ _ _ hg]; exact h3

set_option maxRecDepth 20000 in
set_option maxHeartbeats 16000000 in
theorem table_Build (a b c : Value) (g : Gram) (w : World) (HG : GramIs w (Old w) a b c g) (hsm : Small g) (ht : g.toks.length ≤ 12) (hru : g.rules.length ≤ 12) (hp30 : g.prods.length ≤ 30) :
    Calls Try.prog 55 #[.agg (gramCells a b c g)] w fun r w' => (∃ u, r = .returned (.tuple #[u, .int .i64 (err24 g)]) ∧ Hid (Rows2 w' (Old w') u (table24 g))) ∧ Below w.heap.size w w' := by
  have HRt := hidden (fun (w' : World) (hb : Below w.heap.size w w') => gram_Right a b c g w' (HG.old hb) hsm.toks hsm.rules hsm.prods hsm.names)
  have HFi := hidden (fun (hr : rightB g = true) (w' : World) (hb : Below w.heap.size w w') => table_fill a b c g w' (HG.old hb) hsm hr ht hru hp30)
  have HEnd := hidden (fun (hr : rightB g = true) (q : Int × Int) (is_ : Bool) h1 h2 => clash_end hr ht hru (q := q) (is_ := is_) h1 h2)
  have HEr : Hid (err24 g = if rightB g = true then (if clash24 g = none then 0 else 15) else 3) := hidden rfl
  have HTb : Hid (table24 g = if rightB g = true ∧ clash24 g = none then (List.range g.rules.length).map fun (r : Nat) => row24 g (r : Int) else []) := hidden rfl
  have HRw : Hid (∀ r : Nat, row24 g (r : Int) = (List.range (g.toks.length + 1)).map fun (t : Nat) => headOr (cell24 g r t)) := hidden (fun _ => rfl)
  have HLn := hidden (fun (r t : Int) => (show (cell24 g r t).length ≤ 30 from Nat.le_trans (cellTo_len g r t g.prods.length) hp30))
  have HIn := hidden (fun (hr : rightB g = true) (r t : Int) (h : cell24 g r t ≠ []) => cell_in hr (n := g.prods.length) h)
  obtain ⟨⟨A1, k1, rfl, v1, m1⟩, ⟨A2, k2, rfl, v2, m2⟩, ⟨A3, k3, rfl, v3, m3⟩⟩ := HG.vals
  have hb1 := below_new w (.cells #[.slice A1 g.toks.length k1, .slice A2 g.rules.length k2, .slice A3 g.prods.length k3, .int .i64 g.start, .int .i64 g.states, .int .i64 g.text, .int .i64 g.nodes, .int .i64 g.pairs] 26)
  have HG1 := hidden (Holds.new w 26 #[.slice A1 g.toks.length k1, .slice A2 g.rules.length k2, .slice A3 g.prods.length k3, .int .i64 g.start, .int .i64 g.states, .int .i64 g.text, .int .i64 g.nodes, .int .i64 g.pairs])
  obtain ⟨s0, s1, s2, s3, s4, s5, s6, s7⟩ := eight22 HG1.out
  clear HG hsm
  unfold gramCells at *
  generalize err24 g = er at *
  generalize table24 g = tb at *
  go_enter Try.func55, Try.ntmps55
  go_wp2_with fail
  refine (HRt.out _ hb1).mono ?_
  rintro e w2 ⟨rfl, hb2⟩
  replace HG1 := hidden (HG1.out.below hb2 HG1.out.lt)
  replace hb1 := hb1.trans (hb2.mono hb1.size)
  clear hb2 s0 s1 s2 s3 s4 s5 s6 s7 HRt
  cases hr : rightB g
  · rw [hr, if_neg (by decide)] at HEr
    rw [hr, if_neg (by simp)] at HTb
    have HE : Hid (er = 3 ∧ tb = []) := hidden ⟨HEr.out, HTb.out⟩
    obtain ⟨rfl, rfl⟩ := HE.out
    go_wp2
    exact bodyPost_ret (v := .tuple #[.slice none 0 0, .int .i64 3]) (by simp [results, Try.results55, go_sem]) rfl ⟨⟨_, rfl, hidden (Rows2.mk' [] rfl (Rd.nil _ _ _) (fun i x l h => by simp at h))⟩, hb1⟩
  · rw [hr, if_pos rfl] at HEr
    obtain ⟨s0, s1, s2, s3, s4, s5, s6, s7⟩ := eight22 HG1.out
    go_wp2_with fail
    refine (HFi.out hr _ hb1).mono ?_
    rintro e w3 ⟨⟨B, base, n, rfl, HM, hn, hwB, hBb, hbs⟩, hb3⟩
    replace HG1 := hidden (HG1.out.below hb3 HG1.out.lt)
    replace hb1 := hb1.trans (hb3.mono hb1.size)
    clear s0 s1 s2 s3 s4 s5 s6 s7 HFi hb3
    have HCl := hidden (table_clash w3 B base n _ HM (fun r t => Nat.le_trans (HLn.out r t) (by omega)))
    go_wp2_with fail
    refine HCl.out.mono ?_
    rintro e w4 ⟨⟨q, is_, rfl, hq1, hq2⟩, hb4⟩
    have HE := hidden (HEnd.out hr q is_ (fun e => (hq1 e).2) hq2)
    replace HG1 := hidden (HG1.out.below hb4 HG1.out.lt)
    have HM4 := hidden (HM.out.kept hb4)
    replace hb1 := hb1.trans (hb4.mono hb1.size)
    clear hb4 HCl HM hq2 hq1
    cases is_
    · rw [if_neg (by decide)] at HE
      rw [HE.out, if_pos rfl] at HEr
      rw [hr, HE.out, if_pos ⟨rfl, rfl⟩] at HTb
      have HE2 : Hid (er = 0) := HEr
      obtain rfl := HE2.out
      have hne := HIn.out hr
      clear HEr HIn hr HE HEnd HLn
      have HG5 := hidden (HG1.out.alloc (.cells #[.int .i64 q.1, .int .i64 q.2] 122))
      have HM5 := hidden (HM4.out.kept (below_new w4 (.cells #[.int .i64 q.1, .int .i64 q.2] 122)))
      have hb5 := hidden (hb1.alloc hb1.size (.cells #[.int .i64 q.1, .int .i64 q.2] 122))
      clear HG1 HM4 hb1
      go_upto_region 7 with fail
      generalize w4.alloc (.cells #[.int .i64 q.1, .int .i64 q.2] 122) = w5 at *
      obtain ⟨s0, s1, s2, s3, s4, s5, s6, s7⟩ := eight22 HG5.out
      clear s1
      have s1 : w5.cell? ⟨w.heap.size, 1, none⟩ = some (.slice A2 g.rules.length k2) := HG5.out.cell 1
      have hmk : ∀ w : World, (Instr.makeSlice 31 (.int .i64 (g.rules.length : Int)) (.int .i64 (g.rules.length : Int))).run Try.prog w = .ok (.slice (some ⟨w.heap.size, 0, none⟩) g.rules.length g.rules.length) (w.alloc (.cells (nilRows g.rules.length) 34)) := fun w => by
        rw [← made_nils]
        exact run_make_row' (P := Try.prog) 31 34 (.slice none 0 0) 24 (by kernel_rfl) (by kernel_rfl) rfl .i64 .i64 g.rules.length (by omega) (by omega) w
      have hmk2 : ∀ w : World, (Instr.makeSlice 34 (.int .i64 ((g.toks.length : Int) + 1)) (.int .i64 ((g.toks.length : Int) + 1))).run Try.prog w = .ok (.slice (some ⟨w.heap.size, 0, none⟩) (g.toks.length + 1) (g.toks.length + 1)) (w.alloc (.cells (rowCells (g.toks.length + 1) fun _ => 0) 3)) := fun w => by
        rw [← made_ints, show ((g.toks.length : Int) + 1) = ((g.toks.length + 1 : Nat) : Int) by omega]
        exact run_make_row' (P := Try.prog) 34 3 (.int .i64 0) 8 (by kernel_rfl) (by kernel_rfl) rfl .i64 .i64 (g.toks.length + 1) (by omega) (by omega) w
      have hw1 : IntKind.i64.wrap ((g.toks.length : Int) + 1) = (g.toks.length : Int) + 1 := IntWalk.i64_in _ (by omega)
      have HMat0 : Hid (MatAt w5.heap.size w5.heap.size (fun _ => 0) g.rules.length (g.toks.length + 1) 0 (fun _ _ => 0) (w5.alloc (.cells (nilRows g.rules.length) 34))) := hidden ⟨Holds.of_eq (Holds.new _ _ _) (made_rows _ _ _).symm, fun r h => by omega, fun r s h => by omega, fun r h => by omega, Nat.le_refl _⟩
      have HB6 := hidden (below_new w5 (.cells (nilRows g.rules.length) 34))
      have HBo := hidden (fun (wx : World) (hb : Below w5.heap.size w5 wx) => HG5.out.below hb HG5.out.lt)
      have hgl5 := HG5.out.lt
      have hBl5 : B < w5.heap.size := HM5.out.lt
      have HTk : Hid (g.toks.length + 1 ≤ 13) := hidden (by omega)
      go_wp2
      clear s0 s1 s2 s3 s4 s5 s6 s7 hmk
      go_loopg [29] g.rules.length (fun gh ii wx => ∃ (r : Nat) (Q : Nat → Nat) (M : Nat → Nat → Int), r ≤ g.rules.length ∧ gh = g.rules.length - r ∧ ii = .int .i64 r ∧ Hid (MatAt w5.heap.size w5.heap.size Q g.rules.length (g.toks.length + 1) r M wx) ∧ Hid (∀ x y, x < r → y < g.toks.length + 1 → M x y = -1) ∧ Hid (Below w5.heap.size w5 wx))
      case atStart => exact ⟨0, _, _, by omega, by omega, rfl, HMat0, hidden (fun x y h => by omega), HB6⟩
      case round =>
        clear HMat0 HB6
        obtain ⟨r, Q, M, hrl, rfl, rfl, HMat, HMv, HBx⟩ := hrel
        obtain ⟨s0, s1, s2, s3, s4, s5, s6, s7⟩ := eight22 (HBo.out _ HBx.out)
        have hql := HMat.out.top.lt
        have hgx : w.heap.size < wr.heap.size := Nat.lt_of_lt_of_le hgl5 HBx.out.size
        by_cases hlr : r < g.rules.length
        · have x0 := HMat.out.topNil (Nat.le_refl r) hlr
          have f0 := HMat.out.top.frozen r
          have HAdd := HMat.out.add hlr (by have := HBx.out.size; omega)
          rw [setCell_alloc wr _ (p := ⟨w5.heap.size, r, none⟩) hql] at HAdd
          have HMat2 := hidden HAdd
          have HB7 : Hid (Below w5.heap.size w5 ((wr.setCell ⟨w5.heap.size, r, none⟩ (.slice (some ⟨wr.heap.size, 0, none⟩) (g.toks.length + 1) (g.toks.length + 1))).alloc (.cells (rowCells (g.toks.length + 1) fun _ => 0) 3))) := hidden ((HBx.out.setCell (p := ⟨w5.heap.size, r, none⟩) (Nat.le_refl _) _).alloc (by have := HBx.out.size; simp; omega) _)
          have HMv2 : Hid (∀ x y, x < r → y < g.toks.length + 1 → (fun a b => if a = r then 0 else M a b) x y = -1) := hidden (fun x y h1 h2 => by dsimp only; rw [if_neg (by omega)]; exact HMv.out x y h1 h2)
          clear HAdd HMat HMv HBx
          go_upto_region 12 with fail
          generalize (wr.setCell ⟨w5.heap.size, r, none⟩ (.slice (some ⟨wr.heap.size, 0, none⟩) (g.toks.length + 1) (g.toks.length + 1))).alloc (.cells (rowCells (g.toks.length + 1) fun _ => 0) 3) = w7 at *
          generalize (fun x => if x = r then wr.heap.size else Q x) = Q2 at *
          generalize (fun a b => if a = r then (0 : Int) else M a b) = M2 at *
          clear s0 s1 s2 s3 s4 s5 s6 s7 x0 f0 hql hgx
          have z0 := HMat2.out.topCell (r := r) (by omega) hlr
          have hq7 := HMat2.out.top.lt
          go_wp2
          clear z0 hq7
          go_loopg [45] (g.toks.length + 1) (fun gh ii wx => ∃ (t : Nat) (M : Nat → Nat → Int), t ≤ g.toks.length + 1 ∧ gh = g.toks.length + 1 - t ∧ ii = .int .i64 t ∧ Hid (MatAt w5.heap.size w5.heap.size Q2 g.rules.length (g.toks.length + 1) (r + 1) M wx) ∧ Hid (∀ x y, x < r → y < g.toks.length + 1 → M x y = -1) ∧ Hid (∀ y, y < t → M r y = -1) ∧ Hid (Below w5.heap.size w5 wx))
          case atStart => exact ⟨0, _, by omega, by omega, rfl, HMat2, HMv2, hidden (fun y h => by omega), HB7⟩
          case round =>
            clear HMat2 HMv2 HB7
            obtain ⟨t, M3, htl, rfl, rfl, HMat, HMv, HMr, HBx⟩ := hrel
            by_cases htt : t < g.toks.length + 1
            · have z0 := HMat.out.topCell (r := r) (by omega) hlr
              have z1 := HMat.out.cell (r := r) (by omega) htt
              have f1 := (HMat.out.row r (by omega)).frozen t
              have hq7 := HMat.out.top.lt
              have hq8 := (HMat.out.row r (by omega)).lt
              have HMat3 := hidden (HMat.out.put (r := r) (t := t) (by omega) htt (-1))
              have hlo := (HMat.out.ne r (by omega)).2
              have HB8 := hidden (HBx.out.setCell (p := ⟨Q2 r, t, none⟩) hlo (.int .i64 (-1)))
              have HMv3 : Hid (∀ x y, x < r → y < g.toks.length + 1 → (fun a b => if a = r ∧ b = t then -1 else M3 a b) x y = -1) := hidden (fun x y h1 h2 => by dsimp only; rw [if_neg (by omega)]; exact HMv.out x y h1 h2)
              have HMr3 : Hid (∀ y, y < t + 1 → (fun a b => if a = r ∧ b = t then -1 else M3 a b) r y = -1) := hidden (fun y h1 => by
                dsimp only
                by_cases e : y = t
                · rw [if_pos ⟨rfl, e⟩]
                · rw [if_neg (fun h => e h.2)]; exact HMr.out y (by omega))
              have htI : (t : Int) < ((g.toks.length + 1 : Nat) : Int) := by omega
              clear HMat HMv HMr HBx
              go_wp2
              go_roundg (g.toks.length + 1 - (t + 1))
              case measure => omega
              case rel => exact ⟨t + 1, _, by omega, rfl, by go_num, HMat3, HMv3, hidden (fun y h => by have := HMr3.out y h; simpa using this), HB8⟩
            · obtain rfl : t = g.toks.length + 1 := by omega
              have HMv3 : Hid (∀ x y, x < r + 1 → y < g.toks.length + 1 → M3 x y = -1) := hidden (fun x y h1 h2 => by
                by_cases e : x = r
                · rw [e]; exact HMr.out y h2
                · exact HMv.out x y (by omega) h2)
              clear HMv HMr
              go_wp2
              go_roundg (g.rules.length - (r + 1))
              case measure => omega
              case rel => exact ⟨r + 1, _, _, by omega, rfl, by go_num, HMat, HMv3, HBx⟩
        · obtain rfl : r = g.rules.length := by omega
          clear s0 s1 s2 s3 s4 s5 s6 s7
          have HMx : Hid (MatAt w5.heap.size w5.heap.size Q g.rules.length (g.toks.length + 1) g.rules.length (doneM (cellTo g g.prods.length) (fun r t => cellTo g g.prods.length r t ≠ [])) wr) := hidden (HMat.out.congr (fun x y h1 h2 => by rw [doneM_start]; exact HMv.out x y h1 h2))
          have HQl := hidden (fun (x : Nat) (h : x < g.rules.length) => (HMat.out.row x h).lt)
          have hB5 := HBx.out.block B hBl5
          have HNe := hidden hne
          have HL0 : Hid (∀ x y, cellTo g g.prods.length x y ≠ [] → cellTo g g.prods.length x y ≠ []) := hidden (fun x y h => h)
          clear HMat HMv hne hmk2 hw1 HBo
          generalize hFF : cellTo g g.prods.length = F at *
          go_wp2_with (first | (refine wpList_range_at rfl _ rfl B base n _ F rfl HM5 hB5 ?_; intro w6 cnt0 HR hg6 hz6) | fail)
          have hrb : w5.heap.size ≤ wr.heap.size := HBx.out.size
          have HMat6 := hidden (HMx.out.grown hg6.out (fun q hq => by cases hq))
          have HB6 : Hid (Below w5.heap.size w5 w6) := hidden (HBx.out.trans (below_grown (B := w5.heap.size) (b := wr.heap.size) (hg6.out.but _) hrb hrb))
          have hq0 : w5.heap.size < wr.heap.size := HMx.out.top.lt
          generalize hwz : wr.heap.size = rb at *
          clear HMx hg6 HBx hB5 hwz HTk
          go_frame
          go_loopg [] (2 * cnt0) (fun gh wx => ∃ (left : Int → Int → Prop) (cnt : Nat), gh = 2 * cnt ∧ Hid (RangeAt w5 B base rb n F left cnt wx) ∧ Hid (MatAt w5.heap.size w5.heap.size Q g.rules.length (g.toks.length + 1) g.rules.length (doneM F left) wx) ∧ Hid (∀ x y, left x y → F x y ≠ []) ∧ Hid (Below w5.heap.size w5 wx))
          case atStart => exact ⟨_, _, rfl, HR, HMat6, HL0, HB6⟩
          case round =>
            clear HR HMat6 HL0 HB6
            obtain ⟨left, cnt, rfl, HR, HMat, HL, HBx⟩ := hrel
            go_wp2_with (at_next; refine wpList_next_at rfl _ rfl B base rb n cnt F left rfl HR ?_ ?_)
            · intro hdone
              have HMat7 : Hid (MatAt w5.heap.size w5.heap.size Q g.rules.length (g.toks.length + 1) g.rules.length (fun r t => headOr (F r t)) wr) := hidden (HMat.out.congr (fun x y h1 h2 => doneM_end (hdone x y (wf_small (by omega) (by omega)) (wf_small (by omega) (by omega)))))
              have HRs := hidden (HMat7.out.rows (by unfold maxLen; omega) (by unfold maxLen; omega))
              have hbe := hb5.out.more HBx.out
              have HTe : Hid (tb = (List.range g.rules.length).map fun (r : Nat) => (List.range (g.toks.length + 1)).map fun (t : Nat) => headOr (F r t)) := hidden (by
                rw [HTb.out]
                refine List.map_congr_left (fun r _ => ?_)
                rw [HRw.out r]
                refine List.map_congr_left (fun t _ => ?_)
                unfold cell24
                rw [hFF])
              rw [← HTe.out] at HRs
              clear HMat HMat7 HL HBx HR hdone HTe
              go_wp2
              exact bodyPost_ret (v := .tuple #[.slice (some ⟨w5.heap.size, 0, none⟩) g.rules.length g.rules.length, .int .i64 0]) (by simp [results, Try.results55, go_sem]) rfl ⟨⟨_, rfl, HRs⟩, hbe⟩
            · intro r t A c w7 cnt7 hwr hwt hleft hown HR7 hlt hg7 hz7 hen
              have hFne := HL.out r t hleft
              have hin := HNe.out r t (by unfold cell24; rw [hFF]; exact hFne)
              obtain ⟨m, rfl⟩ : ∃ m : Nat, r = (m : Int) := ⟨r.toNat, by omega⟩
              obtain ⟨k, rfl⟩ : ∃ k : Nat, t = (k : Int) := ⟨t.toNat, by omega⟩
              have hm : m < g.rules.length := by omega
              have hk : k < g.toks.length + 1 := by omega
              have hz1 := headOr_at hFne
              have hpos : 0 < (F (m : Int) (k : Int)).length := (List.getElem?_eq_some_iff.1 hz1).1
              obtain ⟨gb, rfl, hgb1, hgb2, x1⟩ := owns_at hown.out hz1
              have HMat7 := hidden (HMat.out.grown hg7.out (fun q hq => by cases hq; exact ⟨by omega, fun r hr => by have := HQl.out r hr; omega⟩))
              have HB7 : Hid (Below w5.heap.size w5 w7) := hidden (HBx.out.trans (below_grown (B := w5.heap.size) hg7.out HBx.out.size (by omega)))
              have hrl7 : rb < w7.heap.size := by
                obtain ⟨_, _, h1, _⟩ := HR7.out
                exact h1.lt
              have HR8 := hidden (HR7.out.kept (World.grownBy_alloc w7 (.cells #[.int .i64 (m : Int), .int .i64 (k : Int)] 122) none) (by simp) (by simp))
              have HMat8 := hidden (HMat7.out.below (below_new w7 (.cells #[.int .i64 (m : Int), .int .i64 (k : Int)] 122)))
              have HB8 := hidden (HB7.out.alloc HB7.out.size (.cells #[.int .i64 (m : Int), .int .i64 (k : Int)] 122))
              have HQ8 := hidden (Holds.new w7 122 #[.int .i64 (m : Int), .int .i64 (k : Int)])
              have hgb5 : gb < w5.heap.size := hgb2
              have HStp := hidden (fun (x y : Nat) => doneM_step (left := left) hFne x y)
              have HLs := HL
              clear HR HMat HL HBx HR7 HMat7 HB7 hg7 hz7 hown hin hz1
              go_upto_region 21 with fail
              clear hen
              obtain ⟨w8, hw8⟩ : ∃ w8, w8 = w7.alloc (.cells #[.int .i64 (m : Int), .int .i64 (k : Int)] 122) := ⟨_, rfl⟩
              rw [← hw8] at HR8 HMat8 HB8 HQ8 ⊢
              clear hw8
              have hqb : rb < w7.heap.size := hrl7
              generalize w7.heap.size = qb at *
              have y0 : w8.cell? ⟨qb, 0, none⟩ = some (.int .i64 (m : Int)) := HQ8.out.cell 0
              have y1 : w8.cell? ⟨qb, 1, none⟩ = some (.int .i64 (k : Int)) := HQ8.out.cell 1
              have z0 := HMat8.out.topCell (r := m) hm hm
              have z1 := HMat8.out.cell (r := m) hm hk
              have f1 := (HMat8.out.row m hm).frozen k
              have x8 : w8.cell? ⟨gb, 0, none⟩ = some (.int .i64 (headOr (F (m : Int) (k : Int)))) := (HB8.out.cell (p := ⟨gb, 0, none⟩) hgb5).trans x1
              have hlo := (HMat8.out.ne m hm).2
              have hneq := (HMat8.out.ne m hm).1
              have hQm := HQl.out m hm
              have hlq8 := HMat8.out.top.lt
              have hlr8 := (HMat8.out.row m hm).lt
              have hlp8 := HQ8.out.lt
              have i1 : (m : Int) < (g.rules.length : Int) := by omega
              have i2 : (k : Int) < ((g.toks.length + 1 : Nat) : Int) := by omega
              have i3 : (k : Int) < (g.toks.length : Int) + 1 := by omega
              have i4 : (0 : Int) < ((F (m : Int) (k : Int)).length : Int) := by omega
              have hgl8 : gb < w8.heap.size := Nat.lt_of_lt_of_le hgb5 HB8.out.size
              have HMat9 := hidden (HMat8.out.put (r := m) (t := k) hm hk (headOr (F (m : Int) (k : Int))))
              have HMat10 : Hid (MatAt w5.heap.size w5.heap.size Q g.rules.length (g.toks.length + 1) g.rules.length (doneM F (fun r' t' => left r' t' ∧ (r' = (m : Int) → ¬ t' = (k : Int)))) (w8.setCell ⟨Q m, k, none⟩ (.int .i64 (headOr (F (m : Int) (k : Int)))))) := hidden (HMat9.out.congr (fun x y _ _ => (HStp.out x y).symm))
              have HR9 := hidden (HR8.out.kept (grown_cell w8 (Q m) k (.int .i64 (headOr (F (m : Int) (k : Int))))) (by simp; omega) (by simp; omega))
              have HB9 := hidden (HB8.out.setCell (p := ⟨Q m, k, none⟩) hlo (.int .i64 (headOr (F (m : Int) (k : Int)))))
              have HL9 : Hid (∀ x y, (left x y ∧ (x = (m : Int) → ¬ y = (k : Int))) → F x y ≠ []) := hidden (fun x y h => HLs.out x y h.1)
              have hn1 : qb ≠ Q m := by omega
              have hn2 : w5.heap.size ≠ Q m := fun e => hneq e.symm
              have hn3 : gb ≠ Q m := by omega
              clear HMat8 HMat9 HR8 HB8 HQ8 HStp HLs
              generalize (F (m : Int) (k : Int)).length = nl at *
              generalize headOr (F (m : Int) (k : Int)) = hd at *
              go_wp2_with fail
              go_region_held3 (fun w' => w'.cell? ⟨qb, 0, none⟩ = some (.int .i64 (m : Int)) ∧ w'.cell? ⟨qb, 1, none⟩ = some (.int .i64 (k : Int)) ∧ w'.cell? ⟨w5.heap.size, m, none⟩ = some (.slice (some ⟨Q m, 0, none⟩) (g.toks.length + 1) (g.toks.length + 1)) ∧ w'.cell? ⟨gb, 0, none⟩ = some (.int .i64 hd))
                (first | exact ⟨y0, y1, z0, x8⟩ | (go_split_ands; exact keep_build y0 y1 z0 x8 hn1 hn2 hn3))
                (first | fail)
              all_goals
                go_wp2
                go_roundg (2 * cnt7)
                case measure => omega
                case rel => exact ⟨_, cnt7, rfl, hidden (HR9.out.kept (grown_drew _) (by simp) (by simp)), hidden (HMat10.out.grown (grown_drew _) (fun q hq => by cases hq)), HL9, hidden HB9.out.drew⟩
    · rw [if_pos rfl] at HE
      rw [HE.out, if_neg (by simp)] at HEr
      rw [HE.out, if_neg (by simp)] at HTb
      have HE2 : Hid (er = 15 ∧ tb = []) := hidden ⟨HEr.out, HTb.out⟩
      obtain ⟨rfl, rfl⟩ := HE2.out
      go_wp2
      exact bodyPost_ret (v := .tuple #[.slice none 0 0, .int .i64 15]) (by simp [results, Try.results55, go_sem]) rfl ⟨⟨_, rfl, hidden (Rows2.mk' [] rfl (Rd.nil _ _ _) (fun i x l h => by simp at h))⟩, hb1.alloc hb1.size _⟩
end Go.Proofs.Ytmlggfapnkhcaaa

namespace Go.Proofs.Ytmlggfapnkhcaaa
open Go.RowKit Go.Shelf
attribute [local simp] wide_fn

noncomputable def rowTo (g : Gram) (r : Int) (t : Nat) : List Int := (List.range t).map fun (k : Nat) => headOr (cell24 g r (k : Int))
theorem rowTo_succ (g : Gram) (r : Int) (t : Nat) : rowTo g r (t + 1) = rowTo g r t ++ [headOr (cell24 g r (t : Int))] := by
  unfold rowTo
  rw [List.range_succ, List.map_append]
  rfl
theorem rowTo_len (g : Gram) (r : Int) (t : Nat) : (rowTo g r t).length = t := by simp [rowTo]
noncomputable def rowsTo (g : Gram) (r : Nat) : List (List Int) := (List.range r).map fun (k : Nat) => row24 g (k : Int)
theorem rowsTo_succ (g : Gram) (r : Nat) : rowsTo g (r + 1) = rowsTo g r ++ [rowTo g (r : Int) (g.toks.length + 1)] := by
  unfold rowsTo
  rw [List.range_succ, List.map_append]
  rfl
theorem rowsTo_len (g : Gram) (r : Nat) : (rowsTo g r).length = r := by simp [rowsTo]

theorem rows2_apart {w : World} {z : Nat} {ty : TypeId} {v : Value} {F : List (List Int)} (h : Rows2 w (Old w) v F) (hz : Holds w z ty #[]) : Rows2 w (fun j => j < w.heap.size ∧ j ≠ z) v F := by
  obtain ⟨ls, h1, h2, h3⟩ := h
  exact ⟨ls, h1, rd_apart h2 hz, fun i x l a b => rd_apart (h3 i x l a b) hz⟩

set_option maxRecDepth 20000 in
set_option maxHeartbeats 16000000 in
theorem ref_Build24 (a b c : Value) (g : Gram) (w : World) (HG : GramIs w (Old w) a b c g) (hsm : Small g) (ht : g.toks.length ≤ 12) (hru : g.rules.length ≤ 12) (hp30 : g.prods.length ≤ 30) :
    Calls Try.prog 59 #[.agg (gramCells a b c g)] w fun r w' => (∃ u, r = .returned (.tuple #[u, .int .i64 (err24 g)]) ∧ Hid (Rows2 w' (Old w') u (table24 g))) ∧ Below w.heap.size w w' := by
  have HRt := hidden (fun (w' : World) (hb : Below w.heap.size w w') => ref_Right21 a b c g w' (HG.old hb) hsm.toks hsm.rules hsm.prods hsm.names)
  have HCl := hidden (fun (w' : World) (hb : Below w.heap.size w w') => ref_Clash24 a b c g w' (HG.old hb) hsm ht hru hp30)
  have HPd := hidden (fun (hr : rightB g = true) (w' : World) (hb : Below w.heap.size w w') => ref_predicted a b c g w' (HG.old hb) hsm (by omega) hr)
  have HPs := hidden (fun (w' : World) (hb : Below w.heap.size w w') (va : Value) (r t : Int) hA => ref_predicts a b c va g r t w' (HG.old hb) (by omega) hA)
  have HEr : Hid (err24 g = if rightB g = true then (if clash24 g = none then 0 else 15) else 3) := hidden rfl
  have HTb : Hid (table24 g = if rightB g = true ∧ clash24 g = none then rowsTo g g.rules.length else []) := hidden rfl
  have HAk : Hid ((atD24 g).kind = if clash24 g = none then 0 else 15) := hidden (by unfold atD24; cases clash24 g <;> rfl)
  have HLn := hidden (fun (r t : Int) => (show (cell24 g r t).length ≤ 30 from Nat.le_trans (cellTo_len g r t g.prods.length) hp30))
  have HR0 := hidden (fun (r : Int) (t : Nat) => rowTo_succ g r t)
  have HRl := hidden (fun (r : Int) (t : Nat) => rowTo_len g r t)
  have HS0 := hidden (fun (r : Nat) => rowsTo_succ g r)
  have HSl := hidden (fun (r : Nat) => rowsTo_len g r)
  obtain ⟨⟨A1, k1, rfl, v1, m1⟩, ⟨A2, k2, rfl, v2, m2⟩, ⟨A3, k3, rfl, v3, m3⟩⟩ := HG.vals
  have hb1 : Below w.heap.size w ((w.alloc (.cells #[.slice A1 g.toks.length k1, .slice A2 g.rules.length k2, .slice A3 g.prods.length k3, .int .i64 g.start, .int .i64 g.states, .int .i64 g.text, .int .i64 g.nodes, .int .i64 g.pairs] 26)).alloc (.cells #[] 34)) := (by repeat (first | (with_reducible exact Below.refl _ _) | (with_reducible assumption) | (with_reducible refine Below.drew ?_) | (with_reducible refine below_drewN ?_ _) | ((with_reducible refine below_alloc ?_ ?_); (focus (first | omega | (simp; done) | (simp; omega)))) | ((with_reducible refine below_set ?_ ?_); (focus (first | omega | (simp; done) | (simp; omega))))))
  have HG1 : Hid (Holds ((w.alloc (.cells #[.slice A1 g.toks.length k1, .slice A2 g.rules.length k2, .slice A3 g.prods.length k3, .int .i64 g.start, .int .i64 g.states, .int .i64 g.text, .int .i64 g.nodes, .int .i64 g.pairs] 26)).alloc (.cells #[] 34)) w.heap.size 26 #[.slice A1 g.toks.length k1, .slice A2 g.rules.length k2, .slice A3 g.prods.length k3, .int .i64 g.start, .int .i64 g.states, .int .i64 g.text, .int .i64 g.nodes, .int .i64 g.pairs]) := hidden (by repeat (first | (with_reducible assumption) | ((with_reducible refine holds_new ?_); (focus (first | rfl | (simp; done)))) | (with_reducible refine Holds.alloc ?_ _) | (with_reducible refine Holds.drew ?_)))
  have hz1 : w.heap.size + 1 < ((w.alloc (.cells #[.slice A1 g.toks.length k1, .slice A2 g.rules.length k2, .slice A3 g.prods.length k3, .int .i64 g.start, .int .i64 g.states, .int .i64 g.text, .int .i64 g.nodes, .int .i64 g.pairs] 26)).alloc (.cells #[] 34)).heap.size := by simp
  have HM1 : Hid (Rows2M (fun _ => False) ((w.alloc (.cells #[.slice A1 g.toks.length k1, .slice A2 g.rules.length k2, .slice A3 g.prods.length k3, .int .i64 g.start, .int .i64 g.states, .int .i64 g.text, .int .i64 g.nodes, .int .i64 g.pairs] 26)).alloc (.cells #[] 34)) (w.heap.size + 1) (.slice (some ⟨w.heap.size + 1, 0, none⟩) 0 0) []) := hidden (Rows2M.empty _ _ _ (fun q hq => by simp [Value.ownBlock] at hq; subst hq; exact ⟨id, hz1⟩))
  have HZ1 : Hid (Holds ((w.alloc (.cells #[.slice A1 g.toks.length k1, .slice A2 g.rules.length k2, .slice A3 g.prods.length k3, .int .i64 g.start, .int .i64 g.states, .int .i64 g.text, .int .i64 g.nodes, .int .i64 g.pairs] 26)).alloc (.cells #[] 34)) (w.heap.size + 1) 34 #[]) := hidden (Holds.new_at (by simp))
  clear HG hsm hp30
  unfold gramCells defC at *
  generalize err24 g = er at *
  generalize table24 g = tb at *
  go_enter Try.func59, Try.ntmps59
  go_upto_region 2 with fail
  generalize (w.alloc (.cells #[.slice A1 g.toks.length k1, .slice A2 g.rules.length k2, .slice A3 g.prods.length k3, .int .i64 g.start, .int .i64 g.states, .int .i64 g.text, .int .i64 g.nodes, .int .i64 g.pairs] 26)).alloc (.cells #[] 34) = w1 at *
  obtain ⟨s0, s1, s2, s3, s4, s5, s6, s7⟩ := eight22 HG1.out
  go_wp2_with fail
  refine (HRt.out _ hb1).mono ?_
  rintro e w2 ⟨rfl, hb2⟩
  replace HG1 := hidden (HG1.out.below hb2 HG1.out.lt)
  replace HM1 := hidden (HM1.out.below hb2)
  replace HZ1 := hidden (HZ1.out.below hb2 HZ1.out.lt)
  replace hb1 := hb1.trans (hb2.mono hb1.size)
  have hz2 : w.heap.size + 1 < w2.heap.size := Nat.lt_of_lt_of_le hz1 hb2.size
  clear hb2 s0 s1 s2 s3 s4 s5 s6 s7 HRt hz1
  cases hr : rightB g
  · rw [hr, if_neg (by decide)] at HEr
    rw [hr, if_neg (by simp)] at HTb
    have HE : Hid (er = 3 ∧ tb = []) := hidden ⟨HEr.out, HTb.out⟩
    obtain ⟨rfl, rfl⟩ := HE.out
    have HF := hidden HM1.out.old
    go_wp2
    exact bodyPost_ret (v := .tuple #[.slice (some ⟨w.heap.size + 1, 0, none⟩) 0 0, .int .i64 3]) (by simp [results, Try.results59, go_sem]) rfl ⟨⟨_, rfl, HF⟩, hb1⟩
  · rw [hr, if_pos rfl] at HEr
    rw [hr] at HTb
    obtain ⟨s0, s1, s2, s3, s4, s5, s6, s7⟩ := eight22 HG1.out
    go_wp2_with fail
    refine (HCl.out _ hb1).mono ?_
    rintro e w3 ⟨rfl, hb3⟩
    replace HG1 := hidden (HG1.out.below hb3 HG1.out.lt)
    replace HM1 := hidden (HM1.out.below hb3)
    replace HZ1 := hidden (HZ1.out.below hb3 HZ1.out.lt)
    replace hb1 := hb1.trans (hb3.mono hb1.size)
    have hz3 : w.heap.size + 1 < w3.heap.size := Nat.lt_of_lt_of_le hz2 hb3.size
    clear hb3 s0 s1 s2 s3 s4 s5 s6 s7 HCl hz2
    by_cases hc : clash24 g = none
    · rw [if_pos hc] at HAk HEr
      rw [if_pos ⟨trivial, hc⟩] at HTb
      have HE : Hid (er = 0) := HEr
      obtain rfl := HE.out
      have HG4 := hidden (HG1.out.alloc (.cells #[.int .i64 (atD24 g).kind, .int .i64 (atD24 g).at_, .int .i64 (atD24 g).more] 40))
      have HZ4 := hidden (HZ1.out.alloc (.cells #[.int .i64 (atD24 g).kind, .int .i64 (atD24 g).at_, .int .i64 (atD24 g).more] 40))
      have hb4 := hb1.alloc hb1.size (.cells #[.int .i64 (atD24 g).kind, .int .i64 (atD24 g).at_, .int .i64 (atD24 g).more] 40)
      rw [HAk.out] at HG4 HZ4 hb4 ⊢
      clear HAk HEr hc HG1 HM1 HZ1 hb1
      go_upto_region 7 with fail
      generalize w3.alloc (.cells #[.int .i64 0, .int .i64 (atD24 g).at_, .int .i64 (atD24 g).more] 40) = w4 at *
      obtain ⟨s0, s1, s2, s3, s4, s5, s6, s7⟩ := eight22 HG4.out
      have hz4 : w.heap.size + 1 < w4.heap.size := HZ4.out.lt
      go_wp2_with fail
      refine (HPd.out hr _ hb4).mono ?_
      rintro e w5 ⟨⟨up, rfl, hup⟩, hb5⟩
      have HG5 := hidden (HG4.out.below hb5 HG4.out.lt)
      have HZ5 := hidden (HZ4.out.below hb5 HZ4.out.lt)
      have hb15 := hb4.trans (hb5.mono hb4.size)
      have hz5 : w.heap.size + 1 < w5.heap.size := HZ5.out.lt
      have HPq := hidden (rows2_apart hup.out HZ5.out)
      obtain ⟨Ap, cp, rfl, _, _⟩ := hup.out.value
      have HM5 : Hid (Rows2M (fun k => k < w5.heap.size ∧ k ≠ w.heap.size + 1) w5 (w.heap.size + 1) (.slice (some ⟨w.heap.size + 1, 0, none⟩) 0 0) (rowsTo g 0)) := hidden (Rows2M.empty _ _ _ (fun q hq => by simp [Value.ownBlock] at hq; subst hq; exact ⟨fun h => h.2 rfl, hz5⟩))
      have HK5 := hidden (Keeps.refl (fun k => k < w5.heap.size ∧ k ≠ w.heap.size + 1) w5)
      have hb5' := hidden hb15
      have HGX : w.heap.size < w5.heap.size ∧ w.heap.size ≠ w.heap.size + 1 := ⟨by omega, by omega⟩
      clear s0 s1 s2 s3 s4 s5 s6 s7 hb5 hup HPd HG4 HZ4 hb4 hz4 HZ5 hb15 hr hz3
      obtain ⟨s0, s1, s2, s3, s4, s5, s6, s7⟩ := eight22 HG5.out
      go_wp2
      clear s0 s1 s2 s3 s4 s5 s6 s7
      go_loopg [4, 8] g.rules.length (fun gh oo ii wx => ∃ r : Nat, r ≤ g.rules.length ∧ gh = g.rules.length - r ∧ ii = .int .i64 r ∧ Hid (Rows2M (fun k => k < w5.heap.size ∧ k ≠ w.heap.size + 1) wx (w.heap.size + 1) oo (rowsTo g r)) ∧ Hid (Keeps (fun k => k < w5.heap.size ∧ k ≠ w.heap.size + 1) w5 wx) ∧ Hid (Below w.heap.size w wx))
      case atStart => exact ⟨0, by omega, by omega, rfl, HM5, HK5, hb5'⟩
      case round =>
        clear HM5 HK5 hb5'
        obtain ⟨r, hrl, rfl, rfl, HM, HK, hbx⟩ := hrel
        have HGx := hidden (HK.out.holds HGX HG5.out)
        obtain ⟨s0, s1, s2, s3, s4, s5, s6, s7⟩ := eight22 HGx.out
        have hgl := HGx.out.lt
        have hzk := HK.out.size
        by_cases hlr : r < g.rules.length
        · obtain ⟨Ao, co, hov⟩ := HM.out.value
          rw [HSl.out] at hov
          subst hov
          have hal := below_new wr (.cells #[] 3)
          have HR1 : Hid (IntsM (wr.alloc (.cells #[] 3)) wr.heap.size (.slice (some ⟨wr.heap.size, 0, none⟩) 0 0) (rowTo g (r : Int) 0)) := hidden (Mine.fresh_nil _ _ _ _ _)
          have HB1 := hidden hal
          have HPw := hidden (Recs.keeps HPq.out HK.out)
          clear hal
          obtain ⟨W, hW⟩ : ∃ W, W = wr := ⟨_, rfl⟩
          rw [← hW] at HM HK hbx HGx hgl hzk HR1 HB1 HPw s0 s1 s2 s3 s4 s5 s6 s7 ⊢
          clear hW
          obtain ⟨B0, hB0⟩ : ∃ B0, B0 = W.heap.size := ⟨_, rfl⟩
          have HB0 := hidden hB0
          rw [← hB0] at hgl hzk HR1 HB1
          clear hB0
          have hW5 : w5.heap.size ≤ B0 := hzk
          go_upto_region 12 with fail
          rw [← HB0.out]
          clear s0 s1 s2 s3 s4 s5 s6 s7
          generalize W.alloc (.cells #[] 3) = w6 at *
          have hz6 : B0 ≤ w6.heap.size := by have := HB1.out.size; have := HB0.out; omega
          go_wp2
          go_loopg [9, 10] (g.toks.length + 1) (fun gh vv ii wx => ∃ t : Nat, t ≤ g.toks.length + 1 ∧ gh = g.toks.length + 1 - t ∧ ii = .int .i64 t ∧ Hid (IntsM wx B0 vv (rowTo g (r : Int) t)) ∧ Hid (Below B0 W wx) ∧ B0 ≤ wx.heap.size)
          case atStart => exact ⟨0, by omega, by omega, rfl, HR1, HB1, hz6⟩
          case round =>
            clear HR1 HB1 hz6
            obtain ⟨t, htl, rfl, rfl, HR, HB, hzx⟩ := hrel
            have HGy := hidden (HGx.out.below HB.out (by omega))
            obtain ⟨s0, s1, s2, s3, s4, s5, s6, s7⟩ := eight22 HGy.out
            have hgly := HGy.out.lt
            have HW0 : Hid (Below W.heap.size W wr) := hidden (by have := HB.out; rwa [HB0.out] at this)
            have hbw := hbx.out.more HW0.out
            obtain ⟨Al, cl, hvl⟩ := HR.out.value
            rw [HRl.out] at hvl
            subst hvl
            by_cases htt : t < g.toks.length + 1
            · have dt : decide ((t : Int) ≤ (g.toks.length : Int)) = true := decide_eq_true (by omega)
              have HPy : Hid (Rows2 wr (Old wr) (.slice Ap (predL g).length cp) (predL g)) := hidden ((Recs.keeps HPw.out (Keeps.of_below HW0.out)).mono (fun k hk => by have := hk.1; show k < wr.heap.size; omega))
              have HC := hidden (HPs.out _ hbw _ (r : Int) (t : Int) HPy.out)
              have hl30 := HLn.out (r : Int) (t : Int)
              have HRs := hidden (HR0.out (r : Int) t)
              clear HPy HGy hbw
              go_wp2_with fail
              refine HC.out.mono ?_
              rintro e w7 ⟨⟨u7, rfl, hu7⟩, hb7⟩
              have HR7 := hidden (Mine.below HR.out hb7)
              have HB7 := hidden (HB.out.trans (hb7.mono hzx))
              have hz7 := Nat.le_trans hzx hb7.size
              have HU := hidden (RowM.rd hu7.out)
              have hRl : (rowTo g (r : Int) t).length ≤ 1000000000000 := by rw [HRl.out]; omega
              clear hb7 hu7 HC HR HB HW0 s0 s1 s2 s3 s4 s5 s6 s7 hgly
              obtain ⟨A5, c5, rfl, _, _⟩ := HU.out.val
              by_cases h0 : cell24 g (r : Int) (t : Int) = []
              · have hl0 : (cell24 g (r : Int) (t : Int)).length = 0 := by rw [h0]; rfl
                rw [h0] at HRs
                have HRt : Hid (rowTo g (r : Int) (t + 1) = rowTo g (r : Int) t ++ [-1]) := HRs
                have e0 : (((cell24 g (r : Int) (t : Int)).length : Int) == 0) = true := by rw [hl0]; rfl
                clear h0 hl0 HRs HU
                have hvl7 : (Value.slice Al t cl) = (Value.slice Al t cl) := rfl
                go_wp2_with (at_builtin; refine wpList_append_i rfl _ _ rfl B0 _ _ HR7 (-1) rfl rfl rfl (by first | rfl | simp) hRl hz7 ?_; intro v' w' hA hb8 hK)
                rw [← HRt.out] at hA
                have hB8 := hidden (HB7.out.trans hb8)
                have hz8 := Nat.le_trans hz7 hb8.size
                clear HR7 HB7 hb8 hK
                go_roundg (g.toks.length + 1 - (t + 1))
                case measure => omega
                case rel => exact ⟨t + 1, by omega, rfl, by go_num, hA, hB8, hz8⟩
              · have hz1 := headOr_at h0
                have hpos := (List.getElem?_eq_some_iff.1 hz1).1
                have e0 : (((cell24 g (r : Int) (t : Int)).length : Int) == 0) = false := by rw [beq_eq_false_iff_ne]; omega
                have e1 : (0 : Int) < ((cell24 g (r : Int) (t : Int)).length : Int) := by omega
                obtain ⟨gb, go_, rfl, hgT, x1'⟩ := row_at HU.out hz1
                have x1 : w7.cell? ⟨gb, go_, none⟩ = some (.int .i64 (headOr (cell24 g (r : Int) (t : Int)))) := by rw [Nat.add_zero] at x1'; exact x1'
                clear x1'
                have hgT' : gb < w7.heap.size := hgT
                clear h0 HU hz1 hgT
                generalize headOr (cell24 g (r : Int) (t : Int)) = hd at *
                generalize (cell24 g (r : Int) (t : Int)).length = nl at *
                go_wp2_with (at_builtin; refine wpList_append_i rfl _ _ rfl B0 _ _ HR7 hd rfl rfl rfl (by first | rfl | simp) hRl hz7 ?_; intro v' w' hA hb8 hK)
                rw [← HRs.out] at hA
                have hB8 := hidden (HB7.out.trans hb8)
                have hz8 := Nat.le_trans hz7 hb8.size
                clear HR7 HB7 hb8 hK
                go_roundg (g.toks.length + 1 - (t + 1))
                case measure => omega
                case rel => exact ⟨t + 1, by omega, rfl, by go_num, hA, hB8, hz8⟩
            · obtain rfl : t = g.toks.length + 1 := by omega
              have dt : decide (((g.toks.length + 1 : Nat) : Int) ≤ (g.toks.length : Int)) = false := decide_eq_false (by omega)
              have dt2 : decide ((g.toks.length : Int) + 1 ≤ (g.toks.length : Int)) = false := decide_eq_false (by omega)
              have HM7 := hidden (HM.out.below HW0.out)
              have HK7 := hidden (HK.out.below HW0.out)
              have hb7 := hidden hbw
              have HTs := hidden (HS0.out r)
              have HRg : Hid (Ints wr (fun k => k < wr.heap.size ∧ (Value.slice Ao r co).ownBlock ≠ some k ∧ ¬ (k < w5.heap.size ∧ k ≠ w.heap.size + 1)) (.slice Al (g.toks.length + 1) cl) (rowTo g (r : Int) (g.toks.length + 1))) := hidden (Mine.rd HR.out (fun q _ h1 h2 => ⟨h2, fun e => by
                obtain ⟨_, _, _, h3, _⟩ := HM.out
                have := (h3 q e).2
                have := HB0.out
                omega, fun h => by have := h.1; omega⟩))
              have hrl2 : (rowsTo g r).length ≤ 1000000000 := by rw [HSl.out]; omega
              clear HR HM HK HW0 HB hbw HGx HPw
              go_wp2_with (at_builtin; refine wpList_append_ii rfl _ _ rfl (w.heap.size + 1) _ (rowsTo g r) HM7 _ (rowTo g (r : Int) (g.toks.length + 1)) HRg rfl rfl rfl (by first | rfl | simp) hrl2 (by omega) (by intro k hk; have := hk.1; omega) ?_; intro v' w' hA hb9 hK)
              rw [← HTs.out] at hA
              have hNo := hidden (fun (q : Nat) (h : (Value.slice Ao r co).ownBlock = some q) => (by obtain ⟨_, _, _, h3, _⟩ := HM7.out; exact (h3 q h).1 : ¬ (q < w5.heap.size ∧ q ≠ w.heap.size + 1)))
              have HKn : Hid (Keeps (fun k => k < w5.heap.size ∧ k ≠ w.heap.size + 1) w5 w') := hidden (HK7.out.trans ⟨hK.out.size, fun k hk hl => hK.out.block k (fun e => hNo.out k e hk) hl⟩)
              have hbn := hidden (hb7.out.trans (hb9.mono (Nat.le_succ _)))
              clear hK hb9 HM7 HK7 hb7 HRg hNo
              go_roundg (g.rules.length - (r + 1))
              case measure => omega
              case rel => exact ⟨r + 1, by omega, rfl, by go_num, hA, HKn, hbn⟩
        · obtain rfl : r = g.rules.length := by omega
          have HF : Hid (Rows2 wr (Old wr) _ tb) := hidden (by rw [HTb.out]; exact HM.out.old)
          obtain ⟨Ao, co, hov⟩ := HM.out.value
          subst hov
          clear HM
          go_wp2
          exact bodyPost_ret (v := .tuple #[.slice Ao (rowsTo g g.rules.length).length co, .int .i64 0]) (by simp [results, Try.results59, go_sem]) rfl ⟨⟨_, rfl, HF⟩, hbx.out⟩
    · rw [if_neg hc] at HAk HEr
      rw [if_neg (fun h => hc h.2)] at HTb
      have HE : Hid (er = 15 ∧ tb = []) := hidden ⟨HEr.out, HTb.out⟩
      obtain ⟨rfl, rfl⟩ := HE.out
      have HF := hidden (HM1.out.below (below_new w3 (.cells #[.int .i64 15, .int .i64 (atD24 g).at_, .int .i64 (atD24 g).more] 40))).old
      rw [HAk.out]
      clear HM1
      go_wp2
      exact bodyPost_ret (v := .tuple #[.slice (some ⟨w.heap.size + 1, 0, none⟩) 0 0, .int .i64 15]) (by simp [results, Try.results59, go_sem]) rfl ⟨⟨_, rfl, HF⟩, hb1.alloc hb1.size _⟩
end Go.Proofs.Ytmlggfapnkhcaaa

namespace Go.Proofs.Ytmlggfapnkhcaaa
open Go.RowKit Go.Shelf

def p50 : Prod := ⟨0, [⟨false, 0, 0, 0⟩, ⟨true, 0, 0, 0⟩]⟩
def p51 : Prod := ⟨0, []⟩
def g5 : Gram := ⟨[⟨sA, [rxE], 0⟩], [sS], [p50, p51], 0, 1, 1, 1, 1⟩
theorem g5_right : rightB g5 = true := rightC_right (by kernel_rfl)
theorem g5_empty : growsB g5 false = [true] := by rw [← grown_all (rightB_sound g5_right)]; kernel_rfl
theorem g5_reach : reachB g5 = [true] := by rw [← reached_all (rightB_sound g5_right)]; kernel_rfl
theorem g5_small : Small g5 := ⟨by decide, by decide, by decide, by intro s h; simp [allNames, tokNames, g5] at h; rcases h with rfl | rfl <;> decide⟩
theorem g5_fol : fol23 g5 = [[1]] := by
  unfold fol23
  rw [if_pos g5_right, g5_empty, g5_reach]
  have h0 := KnownB.first_ (g := g5) (by decide) [true] [true]
  have e0 : (List.replicate g5.rules.length ([] : List Int)).set g5.start.toNat [(g5.toks.length : Int)] = [[1]] := rfl
  rw [e0] at h0
  refine (h0.all ?_).symm
  intro p hp _ k x hx hr z hz
  simp [g5] at hp
  rcases hp with rfl | rfl
  · match k, hx with
    | 0, hx => simp [p50] at hx; subst hx; cases hr
    | 1, hx =>
      simp [p50] at hx; subst hx
      rcases hz with hz | ⟨_, hz⟩
      · exact absurd hz mem_firstL_nil
      · exact hz
    | k + 2, hx => simp [p50] at hx
  · simp [p51] at hx
theorem g5_m0 : p50 ∈ g5.prods := List.mem_of_getElem? (i := 0) rfl
theorem g5_m1 : p51 ∈ g5.prods := List.mem_of_getElem? (i := 1) rfl
theorem g5_p0 (z : Int) : z ∈ predP g5 p50 ↔ z = 0 := by
  have hv : voidOf g5 p50.right = false := by
    rw [voidOf_right g5_right g5_m0]
    simp [p50, itemSo]
  have hf := firsts_prod g5_right g5_m0 (n := 0)
  rw [List.drop_zero] at hf
  unfold predP
  rw [if_neg (by rw [hv]; decide), hf]
  exact mem_firstL_tok (x := ⟨false, 0, 0, 0⟩) (l := [⟨true, 0, 0, 0⟩]) rfl (by decide)
theorem g5_p1 (z : Int) : z ∈ predP g5 p51 ↔ z = 1 := by
  have hv : voidOf g5 p51.right = true := by
    rw [voidOf_right g5_right g5_m1]
    rfl
  have hf := firsts_prod g5_right g5_m1 (n := 0)
  rw [List.drop_zero] at hf
  unfold predP
  rw [if_pos hv, hf, g5_fol, mem_unionOf]
  constructor
  · rintro (h | h)
    · exact absurd h mem_firstL_nil
    · exact List.mem_singleton.1 h
  · exact fun h => .inr (List.mem_singleton.2 h)
theorem g5_cell (t : Int) : cell24 g5 0 t = (if t = 0 then [0] else []) ++ (if t = 1 then [1] else []) := by
  show cellTo g5 2 0 t = _
  rw [cellTo_succ (i := 1) (p := p51) rfl, cellTo_succ (i := 0) (p := p50) rfl, cellTo_zero, List.nil_append]
  congr 1
  · by_cases h : t = 0
    · rw [if_pos ⟨rfl, (g5_p0 t).2 h⟩, if_pos h]; rfl
    · rw [if_neg (fun k => h ((g5_p0 t).1 k.2)), if_neg h]
  · by_cases h : t = 1
    · rw [if_pos ⟨rfl, (g5_p1 t).2 h⟩, if_pos h]; rfl
    · rw [if_neg (fun k => h ((g5_p1 t).1 k.2)), if_neg h]
theorem g5_noclash : clash24 g5 = none := by
  refine clash_never g5_right (fun a b ha hb => ?_)
  have ha : a < 1 := ha
  obtain rfl : a = 0 := by omega
  unfold two24
  show decide (2 ≤ (cell24 g5 0 (b : Int)).length) = false
  rw [g5_cell]
  refine decide_eq_false ?_
  split <;> split <;> simp <;> omega
theorem g5_table : table24 g5 = [[0, 1]] := by
  unfold table24
  rw [if_pos ⟨g5_right, g5_noclash⟩]
  show [[headOr (cell24 g5 0 0), headOr (cell24 g5 0 1)]] = [[0, 1]]
  rw [g5_cell, g5_cell]
  rfl
theorem g5_err : err24 g5 = 0 := by unfold err24; rw [if_pos g5_right, if_pos g5_noclash]
theorem g5_at : atD24 g5 = D0 := by unfold atD24; rw [g5_noclash]
theorem g5_se : second24 g5 = -1 := by unfold second24; rw [g5_noclash]
/-- Where g5 lies. -/
structure G5At (b0 b1 b2 b3 b4 b5 : Nat) (w : World) : Prop where
  h0 : Holds w b0 84 #[.int .i64 2, .int .u64 0, .int .u64 0, .int .u64 0, .int .u64 0]
  h1 : Holds w b1 78 #[.string sA, .slice (some ⟨b0, 0, none⟩) 1 1, .int .i64 0]
  h2 : Holds w b2 9 #[.string sS]
  h3 : Holds w b3 49 #[.bool false, .int .i64 0, .int .i64 0, .int .i64 0, .bool true, .int .i64 0, .int .i64 0, .int .i64 0]
  h4 : Holds w b4 45 #[.int .i64 0, .slice (some ⟨b3, 0, none⟩) 2 2, .int .i64 0, .slice none 0 0]
  h5 : Holds w b5 26 #[.slice (some ⟨b1, 0, none⟩) 1 1, .slice (some ⟨b2, 0, none⟩) 1 1, .slice (some ⟨b4, 0, none⟩) 2 2, .int .i64 0, .int .i64 1, .int .i64 1, .int .i64 1, .int .i64 1]
section
variable {b0 b1 b2 b3 b4 b5 : Nat} {w w' : World}
theorem G5At.is_ (h : G5At b0 b1 b2 b3 b4 b5 w) : GramIs w (Old w) (.slice (some ⟨b1, 0, none⟩) 1 1) (.slice (some ⟨b2, 0, none⟩) 1 1) (.slice (some ⟨b4, 0, none⟩) 2 2) g5 :=
  ⟨recs_lit [_] h.h1 h.h1.lt rfl rfl rfl rfl (by decide) ⟨rd_lit' h.h0 h.h0.lt rfl rfl (by decide), trivial⟩, rd_lit' h.h2 h.h2.lt rfl rfl (by decide),
    recs_lit [_, _] h.h4 h.h4.lt rfl rfl rfl rfl (by decide) ⟨rd_lit' h.h3 h.h3.lt rfl rfl (by decide), Rd.nil _ _ _, trivial⟩⟩
theorem G5At.next (h : G5At b0 b1 b2 b3 b4 b5 w) (hb : Below w.heap.size w w') : G5At b0 b1 b2 b3 b4 b5 w' :=
  ⟨h.h0.below hb h.h0.lt, h.h1.below hb h.h1.lt, h.h2.below hb h.h2.lt, h.h3.below hb h.h3.lt, h.h4.below hb h.h4.lt, h.h5.below hb h.h5.lt⟩
end
set_option maxRecDepth 20000 in
set_option maxHeartbeats 8000000 in
theorem knows24 (w : World) : Calls Try.prog 52 #[] w fun r w' => r = .returned (.bool true) ∧ Below w.heap.size w w' := by
  have hb := Below.refl w.heap.size w
  go_enter Try.func52, Try.ntmps52
  go_wp2_with fail
  have HG : Hid (G5At w.heap.size (w.heap.size + 1) (w.heap.size + 1 + 1) (w.heap.size + 1 + 1 + 1) (w.heap.size + 1 + 1 + 1 + 1) (w.heap.size + 1 + 1 + 1 + 1 + 1) ((((((w.alloc (.cells #[.int .i64 2, .int .u64 0, .int .u64 0, .int .u64 0, .int .u64 0] 84)).alloc (.cells #[.string sA, .slice (some ⟨w.heap.size, 0, none⟩) 1 1, .int .i64 0] 78)).alloc (.cells #[.string sS] 9)).alloc (.cells #[.bool false, .int .i64 0, .int .i64 0, .int .i64 0, .bool true, .int .i64 0, .int .i64 0, .int .i64 0] 49)).alloc (.cells #[.int .i64 0, .slice (some ⟨w.heap.size + 1 + 1 + 1, 0, none⟩) 2 2, .int .i64 0, .slice none 0 0] 45)).alloc (.cells #[.slice (some ⟨w.heap.size + 1, 0, none⟩) 1 1, .slice (some ⟨w.heap.size + 1 + 1, 0, none⟩) 1 1, .slice (some ⟨w.heap.size + 1 + 1 + 1 + 1, 0, none⟩) 2 2, .int .i64 0, .int .i64 1, .int .i64 1, .int .i64 1, .int .i64 1] 26))) := hidden ⟨(by repeat (first | (with_reducible assumption) | ((with_reducible refine holds_new ?_); (focus (first | rfl | (simp; done)))) | (with_reducible refine Holds.alloc ?_ _) | (with_reducible refine Holds.drew ?_))), (by repeat (first | (with_reducible assumption) | ((with_reducible refine holds_new ?_); (focus (first | rfl | (simp; done)))) | (with_reducible refine Holds.alloc ?_ _) | (with_reducible refine Holds.drew ?_))), (by repeat (first | (with_reducible assumption) | ((with_reducible refine holds_new ?_); (focus (first | rfl | (simp; done)))) | (with_reducible refine Holds.alloc ?_ _) | (with_reducible refine Holds.drew ?_))), (by repeat (first | (with_reducible assumption) | ((with_reducible refine holds_new ?_); (focus (first | rfl | (simp; done)))) | (with_reducible refine Holds.alloc ?_ _) | (with_reducible refine Holds.drew ?_))), (by repeat (first | (with_reducible assumption) | ((with_reducible refine holds_new ?_); (focus (first | rfl | (simp; done)))) | (with_reducible refine Holds.alloc ?_ _) | (with_reducible refine Holds.drew ?_))), (by repeat (first | (with_reducible assumption) | ((with_reducible refine holds_new ?_); (focus (first | rfl | (simp; done)))) | (with_reducible refine Holds.alloc ?_ _) | (with_reducible refine Holds.drew ?_)))⟩
  have HC := hidden (table_Build _ _ _ g5 _ HG.out.is_ g5_small (by decide) (by decide) (by decide))
  rw [g5_err, g5_table] at HC
  refine HC.out.mono ?_
  rintro r w2 ⟨⟨u, rfl, hu⟩, hb2⟩
  have hbw : Below w.heap.size w w2 := Below.trans (by repeat (first | (with_reducible exact Below.refl _ _) | (with_reducible assumption) | (with_reducible refine Below.drew ?_) | (with_reducible refine below_drewN ?_ _) | ((with_reducible refine below_alloc ?_ ?_); (focus (first | omega | (simp; done) | (simp; omega)))) | ((with_reducible refine below_set ?_ ?_); (focus (first | omega | (simp; done) | (simp; omega)))))) (hb2.mono (by simp; omega))
  have hz : w.heap.size + 6 ≤ w2.heap.size := by have := hb2.size; simp at this; omega
  replace HG := hidden (HG.out.next hb2)
  clear hb2 HC
  have HC := hidden (table_Clash _ _ _ g5 w2 HG.out.is_ g5_small (by decide) (by decide) (by decide))
  rw [g5_at, g5_se] at HC
  obtain ⟨Au, cu, rfl, _, _⟩ := hu.out.value
  obtain ⟨s0, s1, s2, s3, s4, s5, s6, s7⟩ := eight HG.out.h5
  go_wp2_with fail
  refine HC.out.mono ?_
  rintro r w3 ⟨rfl, hb3⟩
  have HU3 := hidden (Recs.old hu.out hb3)
  replace hbw := hbw.trans (hb3.mono hbw.size)
  clear hb3 hu HC s0 s1 s2 s3 s4 s5 s6 s7 HG
  unfold defC
  have hal := hidden ((((Below.refl w3.heap.size w3).alloc (Nat.le_refl _) (.cells #[.int .i64 0, .int .i64 0, .int .i64 0] 40)).alloc (by simp) (.cells #[.int .i64 0, .int .i64 1] 3)).alloc (by simp; omega) (.cells #[.slice (some ⟨w3.heap.size + 1, 0, none⟩) 2 2] 34))
  have HB : Hid (Rows2 (((w3.alloc (.cells #[.int .i64 0, .int .i64 0, .int .i64 0] 40)).alloc (.cells #[.int .i64 0, .int .i64 1] 3)).alloc (.cells #[.slice (some ⟨w3.heap.size + 1, 0, none⟩) 2 2] 34)) (Old (((w3.alloc (.cells #[.int .i64 0, .int .i64 0, .int .i64 0] 40)).alloc (.cells #[.int .i64 0, .int .i64 1] 3)).alloc (.cells #[.slice (some ⟨w3.heap.size + 1, 0, none⟩) 2 2] 34))) (.slice (some ⟨w3.heap.size + 1 + 1, 0, none⟩) 1 1) [[0, 1]]) := hidden (by
    have x0 : Holds (((w3.alloc (.cells #[.int .i64 0, .int .i64 0, .int .i64 0] 40)).alloc (.cells #[.int .i64 0, .int .i64 1] 3)).alloc (.cells #[.slice (some ⟨w3.heap.size + 1, 0, none⟩) 2 2] 34)) (w3.heap.size + 1) 3 #[.int .i64 0, .int .i64 1] := (by repeat (first | (with_reducible assumption) | ((with_reducible refine holds_new ?_); (focus (first | rfl | (simp; done)))) | (with_reducible refine Holds.alloc ?_ _) | (with_reducible refine Holds.drew ?_)))
    have x1 : Holds (((w3.alloc (.cells #[.int .i64 0, .int .i64 0, .int .i64 0] 40)).alloc (.cells #[.int .i64 0, .int .i64 1] 3)).alloc (.cells #[.slice (some ⟨w3.heap.size + 1, 0, none⟩) 2 2] 34)) (w3.heap.size + 1 + 1) 34 #[.slice (some ⟨w3.heap.size + 1, 0, none⟩) 2 2] := (by repeat (first | (with_reducible assumption) | ((with_reducible refine holds_new ?_); (focus (first | rfl | (simp; done)))) | (with_reducible refine Holds.alloc ?_ _) | (with_reducible refine Holds.drew ?_)))
    exact recs_lit (R := rowI) [_] x1 x1.lt rfl rfl rfl rfl (by decide) ⟨rd_lit' x0 x0.lt rfl rfl (by decide), trivial⟩)
  have HuA := hidden (Recs.old HU3.out hal.out)
  clear HU3
  go_wp2_with fail
  refine (lists_self HuA.out HB.out).mono ?_
  rintro r w4 ⟨rfl, hb4⟩
  have hb5 := hal.out.more hb4
  replace hbw := hbw.trans (hb5.mono hbw.size)
  have HT := hidden (table_Take _ [[0, 1]] 0 1 (Old w4) w4 (Recs.old HuA.out hb4))
  have hT : take24 [[0, 1]] 0 1 = 1 := rfl
  rw [hT] at HT
  clear hb4 hb5 hal HB HuA hT
  go_wp2_with fail
  refine HT.out.mono ?_
  rintro r w5 ⟨rfl, rfl⟩
  go_wp2
  go_ret
  exact ⟨rfl, hbw⟩

set_option maxRecDepth 20000 in
set_option maxHeartbeats 8000000 in
theorem law_tableTakes (v : Value) (F : List (List Int)) (r t : Int) (w : World) (hF : Rows2 w (Old w) v F) :
    Calls Try.prog 9 #[v, .int .i64 r, .int .i64 t] w fun e w' => e = .returned (.bool true) ∧ Below w.heap.size w w' := by
  have H1 := hidden (table_Take v F r t (Old w) w hF)
  have H2 := hidden (ref_Take24 v F r t (Old w) w hF)
  obtain ⟨A, c, rfl, hc1, hc2⟩ := hF.value
  clear hF
  generalize take24 F r t = z at *
  by_cases h : 100 < F.length
  · have d0 : decide ((100 : Int) < (F.length : Int)) = true := decide_eq_true (by omega)
    clear h
    go_enter Try.func9, Try.ntmps9
    go_wp2_with fail
    refine (knows24 _).mono ?_
    rintro e w2 ⟨rfl, hb2⟩
    go_wp2
    go_ret
    exact ⟨rfl, hb2⟩
  · have d0 : decide ((100 : Int) < (F.length : Int)) = false := decide_eq_false (by omega)
    have t1 : (z == z) = true := by simp
    clear h
    go_enter Try.func9, Try.ntmps9
    go_wp2_with fail
    refine H1.out.mono ?_
    rintro e w2 ⟨rfl, rfl⟩
    go_wp2_with fail
    refine H2.out.mono ?_
    rintro e w2 ⟨rfl, rfl⟩
    go_wp2_with fail
    refine (knows24 _).mono ?_
    rintro e w2 ⟨rfl, hb2⟩
    go_wp2
    go_ret
    exact ⟨rfl, hb2⟩
end Go.Proofs.Ytmlggfapnkhcaaa

namespace Go.Proofs.Ytmlggfapnkhcaaa
open Go.RowKit Go.Shelf Go.ChangeShapes Go.WideShapes

section
variable {H : Type} {enc : TypeId × Value → H} {w : World} {base : Nat} {spare : Nat → Bool} {held : Bool}
theorem open_ints {fuel : Nat} {v : Value} {x : DataW H × List MemPlace} (h : DataW.trod enc Try.prog w base spare held fuel 34 [v] = some x) : ∃ l : List Int, Ints w (Old w) v l := by
  rcases Go.Deep.open_slice (e := 3) (by kernel_rfl) h with ⟨e, hx⟩ | ⟨a, len, cap, m, n, D, Pl, e, hb, hl, hm, hmm, hxd, hx⟩
  · cases e
    exact ⟨[], Rd.nil _ _ _⟩
  · cases e
    have hlm : len ≤ m := by rw [hmm]; split <;> omega
    obtain ⟨ps, hps, hq⟩ := list_of (fun i (p : Int) => ∀ j u, (one1 intV p)[j]? = some u → w.cell? (a.add (i * 1 + j)) = some u) len (fun i hi => by
      obtain ⟨cs', h1, h2⟩ := hx i (by omega)
      rw [show Try.prog.cellsOf 3 = 1 by kernel_rfl] at h1
      obtain ⟨_, hlen, hcell⟩ := World.cells?_some h1
      match cs', hlen with
      | [y0], _ =>
        have hu : Try.prog.underlying 3 = some (.int .i64) := by kernel_rfl
        obtain ⟨z, e1, _⟩ := DataW.trod_int hu h2
        cases e1
        refine ⟨z, fun j u hj => ?_⟩
        have hj2 : j < 1 := (List.getElem?_eq_some_iff.1 hj).1
        have := hcell j hj2
        rw [Go.Deep.add_add] at this
        rw [this]
        exact hj)
    refine ⟨ps, ?_⟩
    have := rd_of_flat (w := w) (a := a) (c := cap) (one1 intV) (by decide) (fun _ => rfl) ps hps hl hm (fun i x hi => hq i x hi)
    show Rd w (Old w) 1 _ ps.length _
    rw [hps]
    exact this
theorem fst_flat : ∀ ps : List (Value × List Int), ps.flatMap (fun p : Value × List Int => [p.1]) = ps.map Prod.fst := by
  intro ps
  induction ps with
  | nil => rfl
  | cons p ps ih => rw [List.flatMap_cons, ih]; rfl
theorem open_lists {fuel : Nat} {v : Value} {x : DataW H × List MemPlace} (h : DataW.trod enc Try.prog w base spare held fuel 31 [v] = some x) : ∃ F : List (List Int), Rows2 w (Old w) v F := by
  rcases Go.Deep.open_slice (e := 34) (by kernel_rfl) h with ⟨e, hx⟩ | ⟨a, len, cap, m, n, D, Pl, e, hb, hl, hm, hmm, hxd, hx⟩
  · cases e
    exact ⟨[], Rows2.mk' [] rfl (Rd.nil _ _ _) (fun i x l h => by simp at h)⟩
  · cases e
    have hlm : len ≤ m := by rw [hmm]; split <;> omega
    obtain ⟨ps, hps, hq⟩ := list_of (fun i (p : Value × List Int) => (∀ j u, [p.1][j]? = some u → w.cell? (a.add (i * 1 + j)) = some u) ∧ Ints w (Old w) p.1 p.2) len (fun i hi => by
      obtain ⟨cs', h1, h2⟩ := hx i (by omega)
      rw [show Try.prog.cellsOf 34 = 1 by kernel_rfl] at h1
      obtain ⟨_, hlen, hcell⟩ := World.cells?_some h1
      match cs', hlen with
      | [y0], _ =>
        obtain ⟨l, hl⟩ := open_ints h2
        refine ⟨(y0, l), fun j u hj => ?_, hl⟩
        have hj2 : j < 1 := (List.getElem?_eq_some_iff.1 hj).1
        have := hcell j hj2
        rw [Go.Deep.add_add] at this
        rw [this]
        exact hj)
    refine ⟨ps.map Prod.snd, Rows2.mk' (ps.map Prod.fst) (by simp) ?_ (fun i x l hx hl' => ?_)⟩
    · have := rd_of_flat (w := w) (a := a) (c := cap) (fun p : Value × List Int => [p.1]) (by decide) (fun _ => rfl) ps hps hl hm (fun i x hi => (hq i x hi).1)
      have e1 := fst_flat ps
      rw [e1] at this
      rw [List.length_map, hps]
      exact this
    · rw [List.getElem?_map] at hx hl'
      cases hp : ps[i]? with
      | none => rw [hp] at hx; cases hx
      | some p =>
        rw [hp] at hx hl'
        simp only [Option.map_some, Option.some.injEq] at hx hl'
        subst hx hl'
        exact (hq i p hp).2
end
end Go.Proofs.Ytmlggfapnkhcaaa
