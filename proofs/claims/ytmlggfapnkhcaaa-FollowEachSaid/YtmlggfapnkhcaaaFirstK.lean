/-
  first's know: what a production brings.
-/
import Derived.Test.YtmlggfapnkhcaaaFirstO
import Derived.Test.YtmlggfapnkhcaaaNullQ
namespace Go.Proofs.Ytmlggfapnkhcaaa
open Go.RowKit Go.Shelf
attribute [local simp] wide_fn

theorem keep_five {W1 w1 w2 : World} {a0 b0 a1 b1 a2 b2 a3 b3 a4 b4 : Nat} {v0 v1 v2 v3 v4 : Value} (H : W1.cell? ⟨a0, b0, none⟩ = some v0 ∧ W1.cell? ⟨a1, b1, none⟩ = some v1 ∧ W1.cell? ⟨a2, b2, none⟩ = some v2 ∧ W1.cell? ⟨a3, b3, none⟩ = some v3 ∧ W1.cell? ⟨a4, b4, none⟩ = some v4) (hb : Below W1.heap.size W1 w1) (hb2 : Below w1.heap.size w1 w2) :
    w2.cell? ⟨a0, b0, none⟩ = some v0 ∧ w2.cell? ⟨a1, b1, none⟩ = some v1 ∧ w2.cell? ⟨a2, b2, none⟩ = some v2 ∧ w2.cell? ⟨a3, b3, none⟩ = some v3 ∧ w2.cell? ⟨a4, b4, none⟩ = some v4 ∧ Below W1.heap.size W1 w2 := by
  have h := hb.trans (hb2.mono hb.size)
  exact ⟨cell_onI H.1 h, cell_onI H.2.1 h, cell_onI H.2.2.1 h, cell_onI H.2.2.2.1 h, cell_onI H.2.2.2.2 h, h⟩

set_option maxRecDepth 20000 in
set_option maxHeartbeats 8000000 in
theorem first_news (W : World) (B K q N : Nat) (ve l1 : Value) (em : List Bool) (F : List (List Int)) (p : Prod) (HB : Holds W B 85 #[.pointer (some ⟨K, 0, none⟩)]) (hBq : B ≠ q) (HK : KnowAt W K q ve em F) (hF : ∀ r ∈ F, Bd N r) (hN : N ≤ 100000) (hem : em.length = F.length) (hl : ItemsOk N F.length p.right) (hleft : 0 ≤ p.left ∧ p.left < F.length)
    (hR : Rd W (fun k => k < W.heap.size ∧ k ≠ q) 4 l1 p.right.length (p.right.flatMap itCells)) :
    Calls Try.prog 101 #[.agg #[.int .i64 p.left, l1], .pointer (some ⟨B, 0, none⟩)] W fun r W' => r = .returned (.bool (decide ((F.getD p.left.toNat []).length < (mergeU (F.getD p.left.toNat []) (ofF em F p.right [])).length))) ∧ Hid (KnowAt W' K q ve em (stepF em F p)) ∧ Hid (Holds W' B 85 #[.pointer (some ⟨K, 0, none⟩)]) ∧ Hid (But q W W') := by
  obtain ⟨r, hr⟩ := Int.eq_ofNat_of_zero_le hleft.1
  have hrl : r < F.length := by omega
  unfold stepF
  rw [hr, Int.toNat_natCast]
  have hFr : F[r]? = some (F.getD r []) := by rw [List.getD_eq_getElem?_getD, List.getElem?_eq_getElem hrl]; rfl
  have hBr : Bd N (F.getD r []) := by rw [List.getD_eq_getElem?_getD, List.getElem?_eq_getElem hrl]; exact hF _ (List.getElem_mem hrl)
  have hRo : Rd W (Old W) 4 l1 p.right.length (p.right.flatMap itCells) := hR.mono (fun _ hk => hk.1)
  have HOf := hidden (fun (w' : World) (hb : Below W.heap.size W w') => known_of w' K q N ve l1 em F p.right (HK.later hb) hF hN hem hl (Rd.old hRo hb))
  obtain ⟨u, hu, hRow⟩ := HK.row hFr
  have HRow := hidden (fun (w' : World) (hb : Below W.heap.size W w') => Rd.old hRow hb)
  have HKl := hidden (fun (w' : World) (hb : Below W.heap.size W w') => HK.later hb)
  have HBl := hidden (fun (w' : World) (hb : Below W.heap.size W w') => HB.below hb HB.lt)
  have HUn := hidden (fun (w' : World) va vb a b h1 h2 h3 => many_Union w' va vb a b h1 h2 h3)
  have b0 : W.cell? ⟨B, 0, none⟩ = some (.pointer (some ⟨K, 0, none⟩)) := HB.cell 0
  have k1 : W.cell? ⟨K, 1, none⟩ = some (.slice (some ⟨q, 0, none⟩) F.length F.length) := HK.at_.cell 1
  have hKl := HK.at_.lt; have hBl := HB.lt
  obtain ⟨Au, cu, rfl, hu1, hu2⟩ := hRow.val
  unfold maxLen at hu2
  obtain ⟨Al, cl, rfl, hl1, hl2⟩ := hRo.val
  unfold maxLen at hl2
  have hql : q < W.heap.size := by obtain ⟨cs, h, _⟩ := HK.rows; exact h.lt
  have hlr := hBr.len
  have hbd := Below.refl W.heap.size W
  have hal := hbd.alloc (Nat.le_refl _) (.cells #[.int .i64 (r : Int), .slice Al p.right.length cl] 45)
  have HPb := hidden (Holds.new W 45 #[.int .i64 (r : Int), .slice Al p.right.length cl])
  have e0 := cell_onI b0 hal; have e1 := cell_onI k1 hal; have e2 := cell_onI hu hal
  have e3 : (W.alloc (.cells #[.int .i64 (r : Int), .slice Al p.right.length cl] 45)).cell? ⟨W.heap.size, 0, none⟩ = some (.int .i64 (r : Int)) := HPb.out.cell 0
  have e4 : (W.alloc (.cells #[.int .i64 (r : Int), .slice Al p.right.length cl] 45)).cell? ⟨W.heap.size, 1, none⟩ = some (.slice Al p.right.length cl) := HPb.out.cell 1
  have HBU := hidden (fun b (h : Bd N b) => hBr.union h)
  have HBR := hidden hBr
  have HKe := hidden (fun (w' : World) {a b : Nat} {v : Value} (h : (W.alloc (.cells #[.int .i64 (r : Int), .slice Al p.right.length cl] 45)).cell? ⟨a, b, none⟩ = some v) (hb : Below (W.alloc (.cells #[.int .i64 (r : Int), .slice Al p.right.length cl] 45)).heap.size (W.alloc (.cells #[.int .i64 (r : Int), .slice Al p.right.length cl] 45)) w') => cell_onI h hb)
  clear hF hl hR hRo hRow HK HB hFr hBr b0 k1 hu hbd hleft hr
  generalize F.getD r [] = fr at *
  generalize hof : ofF em F p.right [] = fo at *
  clear hof
  go_enter Try.func101, Try.ntmps101
  go_wp2_with fail
  have HB1 := hidden hal
  generalize W.alloc (.cells #[.int .i64 (r : Int), .slice Al p.right.length cl] 45) = W1 at *
  have HOf1 := hidden (fun (w' : World) (hb : Below W1.heap.size W1 w') => HOf.out w' (HB1.out.trans (hb.mono HB1.out.size)))
  have HRow1 := hidden (fun (w' : World) (hb : Below W1.heap.size W1 w') => HRow.out w' (HB1.out.trans (hb.mono HB1.out.size)))
  have HC5 := hidden (And.intro e0 (And.intro e1 (And.intro e2 (And.intro e3 e4))))
  clear hal HOf HRow
  go_region_held3 (fun w' => w'.cell? ⟨B, 0, none⟩ = some (.pointer (some ⟨K, 0, none⟩)) ∧ w'.cell? ⟨K, 1, none⟩ = some (.slice (some ⟨q, 0, none⟩) F.length F.length) ∧ w'.cell? ⟨q, r, none⟩ = some (.slice Au fr.length cu) ∧ w'.cell? ⟨W.heap.size, 0, none⟩ = some (.int .i64 (r : Int)) ∧ w'.cell? ⟨W.heap.size, 1, none⟩ = some (.slice Al p.right.length cl) ∧ Below W1.heap.size W1 w')
    (first | exact ⟨e0, e1, e2, e3, e4, Below.drew (Below.refl _ _)⟩ | (go_split_ands; exact keep_five HC5.out (by (first | assumption | exact Below.drew (Below.refl _ _) | exact Below.refl _ _)) (by assumption)))
    (first | (go_at_call 65; go_split_ands; refine (HOf1.out _ (by (first | assumption | exact Below.drew (Below.refl _ _) | exact Below.refl _ _))).mono ?_; rintro e w5 ⟨⟨u5, rfl, hu5, hbd5⟩, hb5⟩; obtain ⟨A5, c5, rfl⟩ := hu5.out.value) | (go_at_call 102; go_split_ands; refine (HUn.out _ _ _ fr fo (HRow1.out _ (by (first | assumption | exact Below.drew (Below.refl _ _) | exact Below.refl _ _))) (RowM.rd hu5.out) (by have := hbd5.len; omega)).mono ?_; rintro e w6 ⟨⟨u6, rfl, hu6⟩, hb6⟩; obtain ⟨A6, c6, rfl⟩ := hu6.out.value))
  have hb1d : Below W1.heap.size W1 W1.drew := Below.drew (Below.refl _ _)
  have hb15 := hb1d.trans hb5
  have hb16 := hb15.trans (hb6.mono hb15.size)
  have hbW6 := HB1.out.trans (hb16.mono HB1.out.size)
  have hz5 : W.heap.size ≤ w5.heap.size := Nat.le_trans HB1.out.size hb15.size
  have HI6 : Hid (Ints w6 (fun k => k < w6.heap.size ∧ q < k) (.slice A6 (mergeU fr fo).length c6) (mergeU fr fo)) := hidden (Mine.rd hu6.out (fun g _ h1 h2 => ⟨h2, by omega⟩))
  have y0 := Ext.cell (cell_onI e0 hb16); have y1 := Ext.cell (cell_onI e1 hb16); have y2 := Ext.cell (cell_onI e2 hb16); have y3 := Ext.cell (cell_onI e3 hb16)
  clear hb1d hb15 hb5 hb6 hu5 hu6 hb16 e0 e1 e2 e3 e4 HC5 HOf1 HRow1 HUn
  go_wp2_with fail
  refine wp_region_ext (by kernel_rfl) (by kernel_rfl) ?_
  repeat (go_big_quiet_step (fail))
  refine wpQuiet_nil ?_
  intro w7 hb7
  have z0 := cell_onI (y0 ⟨w6, Below.refl _ _⟩) hb7; have z1 := cell_onI (y1 ⟨w6, Below.refl _ _⟩) hb7; have z2 := cell_onI (y2 ⟨w6, Below.refl _ _⟩) hb7; have z3 := cell_onI (y3 ⟨w6, Below.refl _ _⟩) hb7
  have z0 : w7.cell? ⟨B, 0, none⟩ = some (.pointer (some ⟨K, 0, none⟩)) := z0
  have z1 : w7.cell? ⟨K, 1, none⟩ = some (.slice (some ⟨q, 0, none⟩) F.length F.length) := z1
  have z2 : w7.cell? ⟨q, r, none⟩ = some (.slice Au fr.length cu) := z2
  have z3 : w7.cell? ⟨W.heap.size, 0, none⟩ = some (.int .i64 (r : Int)) := z3
  have hbW7 := hbW6.trans (hb7.mono hbW6.size)
  have HI7 := hidden (rd_laterq HI6.out hb7)
  have hK7 := HKl.out w7 hbW7
  have f2 : w7.frozen? ⟨q, r, none⟩ = false := by obtain ⟨cs, h, _⟩ := hK7.rows; exact h.frozen r
  have HK7 := hidden hK7
  have HB7 := hidden (HBl.out w7 hbW7)
  clear hb7 y0 y1 y2 y3 HI6 hK7 HKl HBl
  go_wp2_with fail
  go_still_tail 8, (by kernel_rfl)
  change wpList _ _ _ _ _ w7.drew
  have HKd : Hid (KnowAt w7.drew K q ve em F) := hidden (HK7.out.later (Below.drew (Below.refl _ _)))
  have HBd : Hid (Holds w7.drew B 85 #[.pointer (some ⟨K, 0, none⟩)]) := hidden HB7.out
  have HId : Hid (Ints w7.drew (fun k => k < w7.drew.heap.size ∧ q < k) (.slice A6 (mergeU fr fo).length c6) (mergeU fr fo)) := hidden HI7.out
  have hbd : Below W.heap.size W w7.drew := hbW7.drew
  have g2 : w7.drew.cell? ⟨q, r, none⟩ = some (.slice Au fr.length cu) := z2
  have gf : w7.drew.frozen? ⟨q, r, none⟩ = false := f2
  clear z0 z1 z2 z3 f2 HK7 HB7 HI7 hbW7
  generalize w7.drew = w8 at *
  have HKn := hidden (HKd.out.put (r := r) hrl HId.out)
  have HBn := hidden (HBd.out.far (p := ⟨q, r, none⟩) (by dsimp only; exact hBq) (.slice A6 (mergeU fr fo).length c6))
  have HBt := hidden ((But.of_below (p := q) hbd).set r (.slice A6 (mergeU fr fo).length c6))
  clear HKd HBd HId
  go_wp2
  go_ret
  exact ⟨rfl, HKn, HBn, HBt⟩
end Go.Proofs.Ytmlggfapnkhcaaa
