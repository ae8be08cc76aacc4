/-
  law22.knows; FirstTells.
-/
import Derived.Test.YtmlggfapnkhcaaaFirstC
import Derived.Test.YtmlggfapnkhcaaaNullU
import Derived.Test.YtmlggfapnkhcaaaLits
import Derived.Test.YtmlggfapnkhcaaaGramC
namespace Go.Proofs.Ytmlggfapnkhcaaa
open Go.RowKit Go.Shelf

abbrev sB : ByteArray := ⟨#[98]⟩
def g3 : Gram := ⟨[⟨sA, [rxE], 0⟩, ⟨sB, [rxE], 0⟩], [sS, sT], [⟨0, [⟨true, 1, 0, 0⟩, ⟨false, 0, 0, 0⟩]⟩, ⟨1, []⟩, ⟨1, [⟨false, 1, 0, 0⟩]⟩], 0, 1, 1, 1, 1⟩
theorem g3_right : rightB g3 = true := rightC_right (by kernel_rfl)
theorem g3_empty : growsB g3 false = [false, true] := by rw [← grown_all (rightB_sound g3_right)]; kernel_rfl
theorem g3_small : Small g3 := ⟨by decide, by decide, by decide, by intro s h; simp [allNames, tokNames, g3] at h; rcases h with rfl | rfl | rfl | rfl <;> decide⟩
theorem g3_p (k : Nat) (p : Prod) (h : g3.prods[k]? = some p) : p ∈ g3.prods := List.mem_of_getElem? h
theorem g3_all : all22 g3 = [[0, 1], [1]] := by
  unfold all22
  rw [if_pos g3_right, g3_empty]
  have hw := whole22 g3_right
  have h0 := KnownF.start g3 [false, true]
  have h1 := h0.step hw (g3_p 2 _ rfl)
  have h2 := h1.step hw (g3_p 0 _ rfl)
  have e : stepF [false, true] (stepF [false, true] (List.replicate g3.rules.length []) ⟨1, [⟨false, 1, 0, 0⟩]⟩) ⟨0, [⟨true, 1, 0, 0⟩, ⟨false, 0, 0, 0⟩]⟩ = [[0, 1], [1]] := by
    simp [stepF, ofF, mergeU, atB, g3, List.replicate]
  rw [e] at h2
  refine (h2.all ?_).symm
  intro p hp z hz
  simp [g3] at hp
  rcases hp with rfl | rfl | rfl
  · simp [ofF, mergeU, atB] at hz ⊢; exact hz
  · simp [ofF] at hz
  · simp [ofF, mergeU] at hz ⊢; exact hz
theorem firsts_getD {g : Gram} (hg : rightB g = true) {i : Nat} (hi : i < g.rules.length) : firsts22 g [itR i] = (all22 g).getD i [] := by
  rw [firsts_one hg hi, List.getD_eq_getElem?_getD]
  unfold all22
  rw [if_pos hg, allF_at hi]
  rfl
theorem g3_s : firsts22 g3 [itR 0] = [0, 1] := by
  have := firsts_getD g3_right (i := 0) (by decide)
  rw [g3_all] at this
  exact this
theorem g3_t : firsts22 g3 [itR 1] = [1] := by
  have := firsts_getD g3_right (i := 1) (by decide)
  rw [g3_all] at this
  exact this
/-- Where g3 lies. -/
structure G3At (b0 b1 b2 b3 b4 b5 b6 : Nat) (w : World) : Prop where
  h0 : Holds w b0 84 #[.int .i64 2, .int .u64 0, .int .u64 0, .int .u64 0, .int .u64 0]
  h1 : Holds w b1 78 #[.string sA, .slice (some ⟨b0, 0, none⟩) 1 1, .int .i64 0, .string sB, .slice (some ⟨b0, 0, none⟩) 1 1, .int .i64 0]
  h2 : Holds w b2 9 #[.string sS, .string sT]
  h3 : Holds w b3 49 #[.bool true, .int .i64 1, .int .i64 0, .int .i64 0, .bool false, .int .i64 0, .int .i64 0, .int .i64 0]
  h4 : Holds w b4 49 #[.bool false, .int .i64 1, .int .i64 0, .int .i64 0]
  h5 : Holds w b5 45 #[.int .i64 0, .slice (some ⟨b3, 0, none⟩) 2 2, .int .i64 1, .slice none 0 0, .int .i64 1, .slice (some ⟨b4, 0, none⟩) 1 1]
  h6 : Holds w b6 26 #[.slice (some ⟨b1, 0, none⟩) 2 2, .slice (some ⟨b2, 0, none⟩) 2 2, .slice (some ⟨b5, 0, none⟩) 3 3, .int .i64 0, .int .i64 1, .int .i64 1, .int .i64 1, .int .i64 1]
section
variable {b0 b1 b2 b3 b4 b5 b6 : Nat} {w w' : World}
theorem G3At.is_ (h : G3At b0 b1 b2 b3 b4 b5 b6 w) : GramIs w (Old w) (.slice (some ⟨b1, 0, none⟩) 2 2) (.slice (some ⟨b2, 0, none⟩) 2 2) (.slice (some ⟨b5, 0, none⟩) 3 3) g3 :=
  ⟨recs_lit [_, _] h.h1 h.h1.lt rfl rfl rfl rfl (by decide) ⟨rd_lit' h.h0 h.h0.lt rfl rfl (by decide), rd_lit' h.h0 h.h0.lt rfl rfl (by decide), trivial⟩, rd_lit' h.h2 h.h2.lt rfl rfl (by decide),
    recs_lit [_, _, _] h.h5 h.h5.lt rfl rfl rfl rfl (by decide) ⟨rd_lit' h.h3 h.h3.lt rfl rfl (by decide), Rd.nil _ _ _, rd_lit' h.h4 h.h4.lt rfl rfl (by decide), trivial⟩⟩
theorem G3At.next (h : G3At b0 b1 b2 b3 b4 b5 b6 w) (hb : Below w.heap.size w w') : G3At b0 b1 b2 b3 b4 b5 b6 w' :=
  ⟨h.h0.below hb h.h0.lt, h.h1.below hb h.h1.lt, h.h2.below hb h.h2.lt, h.h3.below hb h.h3.lt, h.h4.below hb h.h4.lt, h.h5.below hb h.h5.lt, h.h6.below hb h.h6.lt⟩
end
theorem lists_self {a b : Value} {F : List (List Int)} {w : World} (hA : Rows2 w (Old w) a F) (hB : Rows2 w (Old w) b F) :
    Calls Try.prog 15 #[a, b] w fun r w' => r = .returned (.bool true) ∧ Below w.heap.size w w' := by
  have := same_lists a b F F w hA hB
  rwa [eqB_self] at this
theorem ints_self {a b : Value} {L : List Int} {w : World} (hA : Ints w (Old w) a L) (hB : Ints w (Old w) b L) :
    Calls Try.prog 18 #[a, b] w fun r w' => r = .returned (.bool true) ∧ Below w.heap.size w w' := by
  have := same_ints a b L L w hA hB
  rwa [eqB_self] at this
abbrev g3v (b1 b2 b5 : Nat) : Value := .agg #[.slice (some ⟨b1, 0, none⟩) 2 2, .slice (some ⟨b2, 0, none⟩) 2 2, .slice (some ⟨b5, 0, none⟩) 3 3, .int .i64 0, .int .i64 1, .int .i64 1, .int .i64 1, .int .i64 1]

set_option maxRecDepth 20000 in
set_option maxHeartbeats 8000000 in
theorem knows22 (w : World) : Calls Try.prog 14 #[] w fun r w' => r = .returned (.bool true) ∧ Below w.heap.size w w' := by
  have hb := Below.refl w.heap.size w
  go_enter Try.func14, Try.ntmps14
  go_wp2_with fail
  have HG : Hid (G3At w.heap.size (w.heap.size + 1) (w.heap.size + 1 + 1) (w.heap.size + 1 + 1 + 1) (w.heap.size + 1 + 1 + 1 + 1) (w.heap.size + 1 + 1 + 1 + 1 + 1) (w.heap.size + 1 + 1 + 1 + 1 + 1 + 1) (((((((w.alloc (.cells #[.int .i64 2, .int .u64 0, .int .u64 0, .int .u64 0, .int .u64 0] 84)).alloc (.cells #[.string sA, .slice (some ⟨w.heap.size, 0, none⟩) 1 1, .int .i64 0, .string sB, .slice (some ⟨w.heap.size, 0, none⟩) 1 1, .int .i64 0] 78)).alloc (.cells #[.string sS, .string sT] 9)).alloc (.cells #[.bool true, .int .i64 1, .int .i64 0, .int .i64 0, .bool false, .int .i64 0, .int .i64 0, .int .i64 0] 49)).alloc (.cells #[.bool false, .int .i64 1, .int .i64 0, .int .i64 0] 49)).alloc (.cells #[.int .i64 0, .slice (some ⟨w.heap.size + 1 + 1 + 1, 0, none⟩) 2 2, .int .i64 1, .slice none 0 0, .int .i64 1, .slice (some ⟨w.heap.size + 1 + 1 + 1 + 1, 0, none⟩) 1 1] 45)).alloc (.cells #[.slice (some ⟨w.heap.size + 1, 0, none⟩) 2 2, .slice (some ⟨w.heap.size + 1 + 1, 0, none⟩) 2 2, .slice (some ⟨w.heap.size + 1 + 1 + 1 + 1 + 1, 0, none⟩) 3 3, .int .i64 0, .int .i64 1, .int .i64 1, .int .i64 1, .int .i64 1] 26))) := hidden ⟨(by repeat (first | (with_reducible assumption) | ((with_reducible refine holds_new ?_); (focus (first | rfl | (simp; done)))) | (with_reducible refine Holds.alloc ?_ _) | (with_reducible refine Holds.drew ?_))), (by repeat (first | (with_reducible assumption) | ((with_reducible refine holds_new ?_); (focus (first | rfl | (simp; done)))) | (with_reducible refine Holds.alloc ?_ _) | (with_reducible refine Holds.drew ?_))), (by repeat (first | (with_reducible assumption) | ((with_reducible refine holds_new ?_); (focus (first | rfl | (simp; done)))) | (with_reducible refine Holds.alloc ?_ _) | (with_reducible refine Holds.drew ?_))), (by repeat (first | (with_reducible assumption) | ((with_reducible refine holds_new ?_); (focus (first | rfl | (simp; done)))) | (with_reducible refine Holds.alloc ?_ _) | (with_reducible refine Holds.drew ?_))), (by repeat (first | (with_reducible assumption) | ((with_reducible refine holds_new ?_); (focus (first | rfl | (simp; done)))) | (with_reducible refine Holds.alloc ?_ _) | (with_reducible refine Holds.drew ?_))), (by repeat (first | (with_reducible assumption) | ((with_reducible refine holds_new ?_); (focus (first | rfl | (simp; done)))) | (with_reducible refine Holds.alloc ?_ _) | (with_reducible refine Holds.drew ?_))), (by repeat (first | (with_reducible assumption) | ((with_reducible refine holds_new ?_); (focus (first | rfl | (simp; done)))) | (with_reducible refine Holds.alloc ?_ _) | (with_reducible refine Holds.drew ?_)))⟩
  refine (first_All _ _ _ g3 _ HG.out.is_ g3_small).mono ?_
  rintro r w2 ⟨⟨u, rfl, hu⟩, hb2⟩
  rw [g3_all] at hu
  have hbw : Below w.heap.size w w2 := Below.trans (by repeat (first | (with_reducible exact Below.refl _ _) | (with_reducible assumption) | (with_reducible refine Below.drew ?_) | (with_reducible refine below_drewN ?_ _) | ((with_reducible refine below_alloc ?_ ?_); (focus (first | omega | (simp; done) | (simp; omega)))) | ((with_reducible refine below_set ?_ ?_); (focus (first | omega | (simp; done) | (simp; omega)))))) (hb2.mono (by simp; omega))
  have hz : w.heap.size + 7 ≤ w2.heap.size := by have := hb2.size; simp at this; omega
  replace HG := hidden (HG.out.next hb2)
  clear hb2
  have hal := hidden ((((Below.refl w2.heap.size w2).alloc (Nat.le_refl _) (.cells #[.int .i64 0, .int .i64 1] 3)).alloc (by simp) (.cells #[.int .i64 1] 3)).alloc (by simp; omega) (.cells #[.slice (some ⟨w2.heap.size, 0, none⟩) 2 2, .slice (some ⟨w2.heap.size + 1, 0, none⟩) 1 1] 34))
  have HB : Hid (Rows2 (((w2.alloc (.cells #[.int .i64 0, .int .i64 1] 3)).alloc (.cells #[.int .i64 1] 3)).alloc (.cells #[.slice (some ⟨w2.heap.size, 0, none⟩) 2 2, .slice (some ⟨w2.heap.size + 1, 0, none⟩) 1 1] 34)) (Old (((w2.alloc (.cells #[.int .i64 0, .int .i64 1] 3)).alloc (.cells #[.int .i64 1] 3)).alloc (.cells #[.slice (some ⟨w2.heap.size, 0, none⟩) 2 2, .slice (some ⟨w2.heap.size + 1, 0, none⟩) 1 1] 34))) (.slice (some ⟨w2.heap.size + 1 + 1, 0, none⟩) 2 2) [[0, 1], [1]]) := hidden (by
    have x0 : Holds (((w2.alloc (.cells #[.int .i64 0, .int .i64 1] 3)).alloc (.cells #[.int .i64 1] 3)).alloc (.cells #[.slice (some ⟨w2.heap.size, 0, none⟩) 2 2, .slice (some ⟨w2.heap.size + 1, 0, none⟩) 1 1] 34)) w2.heap.size 3 #[.int .i64 0, .int .i64 1] := (by repeat (first | (with_reducible assumption) | ((with_reducible refine holds_new ?_); (focus (first | rfl | (simp; done)))) | (with_reducible refine Holds.alloc ?_ _) | (with_reducible refine Holds.drew ?_)))
    have x1 : Holds (((w2.alloc (.cells #[.int .i64 0, .int .i64 1] 3)).alloc (.cells #[.int .i64 1] 3)).alloc (.cells #[.slice (some ⟨w2.heap.size, 0, none⟩) 2 2, .slice (some ⟨w2.heap.size + 1, 0, none⟩) 1 1] 34)) (w2.heap.size + 1) 3 #[.int .i64 1] := (by repeat (first | (with_reducible assumption) | ((with_reducible refine holds_new ?_); (focus (first | rfl | (simp; done)))) | (with_reducible refine Holds.alloc ?_ _) | (with_reducible refine Holds.drew ?_)))
    have x2 : Holds (((w2.alloc (.cells #[.int .i64 0, .int .i64 1] 3)).alloc (.cells #[.int .i64 1] 3)).alloc (.cells #[.slice (some ⟨w2.heap.size, 0, none⟩) 2 2, .slice (some ⟨w2.heap.size + 1, 0, none⟩) 1 1] 34)) (w2.heap.size + 1 + 1) 34 #[.slice (some ⟨w2.heap.size, 0, none⟩) 2 2, .slice (some ⟨w2.heap.size + 1, 0, none⟩) 1 1] := (by repeat (first | (with_reducible assumption) | ((with_reducible refine holds_new ?_); (focus (first | rfl | (simp; done)))) | (with_reducible refine Holds.alloc ?_ _) | (with_reducible refine Holds.drew ?_)))
    exact recs_lit (R := rowI) [_, _] x2 x2.lt rfl rfl rfl rfl (by decide) ⟨rd_lit' x0 x0.lt rfl rfl (by decide), rd_lit' x1 x1.lt rfl rfl (by decide), trivial⟩)
  have HuA := hidden (Recs.old hu.out hal.out)
  obtain ⟨Au, cu, rfl, _, _⟩ := hu.out.value
  clear hu
  go_wp2_with fail
  refine (lists_self HuA.out HB.out).mono ?_
  rintro r w3 ⟨rfl, hb3⟩
  have hb4 := hal.out.more hb3
  replace hbw := hbw.trans (hb4.mono hbw.size)
  replace hz := Nat.le_trans hz hb4.size
  replace HG := hidden (HG.out.next hb4)
  clear hb3 hb4 hal HB HuA
  obtain ⟨s0, s1, s2, s3, s4, s5, s6, s7⟩ := eight HG.out.h6
  have HS1 := hidden (first_Starts _ _ _ g3 0 1 w3 HG.out.is_ g3_small)
  rw [g3_s, holdsB_true (by simp : (1 : Int) ∈ [0, 1])] at HS1
  go_wp2_with fail
  refine HS1.out.mono ?_
  rintro r w4 ⟨rfl, hb4⟩
  replace hbw := hbw.trans (hb4.mono hbw.size)
  replace hz := Nat.le_trans hz hb4.size
  replace HG := hidden (HG.out.next hb4)
  clear hb4 HS1 s0 s1 s2 s3 s4 s5 s6 s7
  obtain ⟨s0, s1, s2, s3, s4, s5, s6, s7⟩ := eight HG.out.h6
  have HS1 := hidden (first_Starts _ _ _ g3 1 0 w4 HG.out.is_ g3_small)
  rw [g3_t, holdsB_false (by simp : ¬ (0 : Int) ∈ [1])] at HS1
  go_wp2_with fail
  refine HS1.out.mono ?_
  rintro r w5 ⟨rfl, hb4⟩
  replace hbw := hbw.trans (hb4.mono hbw.size)
  clear hb4 HS1 s0 s1 s2 s3 s4 s5 s6 s7
  go_wp2
  go_ret
  exact ⟨rfl, hbw⟩

set_option maxRecDepth 20000 in
set_option maxHeartbeats 8000000 in
theorem law_firstTells (a b c v : Value) (g : Gram) (l : List Item) (ru tk : Int) (w : World) (HG : GramIs w (Old w) a b c g) (hz : Named g) (hR : Rd w (Old w) 4 v l.length (l.flatMap itCells)) :
    Calls Try.prog 3 #[.agg (gramCells a b c g), v, .int .i64 ru, .int .i64 tk] w fun r w' => r = .returned (.bool true) ∧ Below w.heap.size w w' := by
  have F1 := hidden (fun (w' : World) (hb : Below w.heap.size w w') => law_Few a b c g w' (HG.old hb) hz)
  have HSm := hidden (fun (h : fewB g = true) => few_small h)
  have N1 := hidden (fun (hs : fewB g = true) (w' : World) (hb : Below w.heap.size w w') => first_All a b c g w' (HG.old hb) (few_is hs hz))
  have R1 := hidden (fun (hs : fewB g = true) (w' : World) (hb : Below w.heap.size w w') => ref_All22 a b c g w' (HG.old hb) (few_is hs hz))
  have N2 := hidden (fun (hs : fewB g = true) (w' : World) (hb : Below w.heap.size w w') => first_Of a b c v g l w' (HG.old hb) (few_is hs hz) (Rd.old hR hb))
  have R2 := hidden (fun (hs : fewB g = true) (w' : World) (hb : Below w.heap.size w w') => ref_Of22 a b c v g l w' (HG.old hb) (few_is hs hz) (Rd.old hR hb))
  have N3 := hidden (fun (hs : fewB g = true) (w' : World) (hb : Below w.heap.size w w') => first_Starts a b c g ru tk w' (HG.old hb) (few_is hs hz))
  have R3 := hidden (fun (hs : fewB g = true) (w' : World) (hb : Below w.heap.size w w') => ref_Starts22 a b c g ru tk w' (HG.old hb) (few_is hs hz))
  obtain ⟨⟨A1, k1, rfl, v1, m1⟩, ⟨A2, k2, rfl, v2, m2⟩, ⟨A3, k3, rfl, v3, m3⟩⟩ := HG.vals
  obtain ⟨A4, k4, rfl, v4, m4⟩ := hR.val
  clear HG hR
  unfold gramCells maxLen at *
  generalize fewB g = fg at *
  generalize holdsB (tk ∈ firsts22 g [itR ru]) = so at *
  generalize firsts22 g l = q1 at *
  generalize all22 g = q2 at *
  have hb := Below.refl w.heap.size w
  have hstop : (fg = false) ∨ (fg = true ∧ 60 < l.length) ∨ (fg = true ∧ ¬ 60 < l.length ∧ 800 < g.rules.length * g.toks.length) ∨ (fg = true ∧ ¬ 60 < l.length ∧ ¬ 800 < g.rules.length * g.toks.length) := by
    cases fg
    · exact .inl rfl
    · rcases Nat.lt_or_ge 60 l.length with h | h
      · exact .inr (.inl ⟨rfl, h⟩)
      · rcases Nat.lt_or_ge 800 (g.rules.length * g.toks.length) with h2 | h2
        · exact .inr (.inr (.inl ⟨rfl, by omega, h2⟩))
        · exact .inr (.inr (.inr ⟨rfl, by omega, by omega⟩))
  have hmul : fg = true → IntKind.i64.wrap ((g.rules.length : Int) * (g.toks.length : Int)) = ((g.rules.length * g.toks.length : Nat) : Int) := fun h => by
    have h1 := (HSm.out h).1
    have h2 := (HSm.out h).2.1
    have h3 : g.rules.length * g.toks.length ≤ 70 * 70 := Nat.mul_le_mul h2 h1
    rw [← Int.natCast_mul]
    exact IntWalk.i64_in _ (by omega)
  rcases hstop with rfl | ⟨rfl, hl⟩ | ⟨rfl, hl, hl2⟩ | ⟨rfl, hl, hl2⟩
  · go_enter Try.func3, Try.ntmps3
    go_wp2_with fail
    refine (F1.out _ ?_).mono ?_
    · exact (by repeat (first | (with_reducible exact Below.refl _ _) | (with_reducible assumption) | (with_reducible refine Below.drew ?_) | (with_reducible refine below_drewN ?_ _) | ((with_reducible refine below_alloc ?_ ?_); (focus (first | omega | (simp; done) | (simp; omega)))) | ((with_reducible refine below_set ?_ ?_); (focus (first | omega | (simp; done) | (simp; omega))))))
    rintro r w2 ⟨rfl, hb2⟩
    have hbw : Below w.heap.size w w2 := Below.trans (by repeat (first | (with_reducible exact Below.refl _ _) | (with_reducible assumption) | (with_reducible refine Below.drew ?_) | (with_reducible refine below_drewN ?_ _) | ((with_reducible refine below_alloc ?_ ?_); (focus (first | omega | (simp; done) | (simp; omega)))) | ((with_reducible refine below_set ?_ ?_); (focus (first | omega | (simp; done) | (simp; omega)))))) (hb2.mono (by simp))
    have HB1 := hidden (Holds.below (show Holds _ w.heap.size 26 #[.slice A1 g.toks.length k1, .slice A2 g.rules.length k2, .slice A3 g.prods.length k3, .int .i64 g.start, .int .i64 g.states, .int .i64 g.text, .int .i64 g.nodes, .int .i64 g.pairs] from (by repeat (first | (with_reducible assumption) | ((with_reducible refine holds_new ?_); (focus (first | rfl | (simp; done)))) | (with_reducible refine Holds.alloc ?_ _) | (with_reducible refine Holds.drew ?_)))) hb2 (by simp))
    obtain ⟨s0, s1, s2, s3, s4, s5, s6, s7⟩ := eight HB1.out
    clear hb2
    go_wp2_with fail
    refine (knows22 _).mono ?_
    rintro r w3 ⟨rfl, hb3⟩
    replace hbw := hbw.trans (hb3.mono hbw.size)
    clear hb3
    go_wp2
    go_ret
    exact ⟨rfl, hbw⟩
  · go_enter Try.func3, Try.ntmps3
    go_wp2_with fail
    refine (F1.out _ ?_).mono ?_
    · exact (by repeat (first | (with_reducible exact Below.refl _ _) | (with_reducible assumption) | (with_reducible refine Below.drew ?_) | (with_reducible refine below_drewN ?_ _) | ((with_reducible refine below_alloc ?_ ?_); (focus (first | omega | (simp; done) | (simp; omega)))) | ((with_reducible refine below_set ?_ ?_); (focus (first | omega | (simp; done) | (simp; omega))))))
    rintro r w2 ⟨rfl, hb2⟩
    have hbw : Below w.heap.size w w2 := Below.trans (by repeat (first | (with_reducible exact Below.refl _ _) | (with_reducible assumption) | (with_reducible refine Below.drew ?_) | (with_reducible refine below_drewN ?_ _) | ((with_reducible refine below_alloc ?_ ?_); (focus (first | omega | (simp; done) | (simp; omega)))) | ((with_reducible refine below_set ?_ ?_); (focus (first | omega | (simp; done) | (simp; omega)))))) (hb2.mono (by simp))
    have HB1 := hidden (Holds.below (show Holds _ w.heap.size 26 #[.slice A1 g.toks.length k1, .slice A2 g.rules.length k2, .slice A3 g.prods.length k3, .int .i64 g.start, .int .i64 g.states, .int .i64 g.text, .int .i64 g.nodes, .int .i64 g.pairs] from (by repeat (first | (with_reducible assumption) | ((with_reducible refine holds_new ?_); (focus (first | rfl | (simp; done)))) | (with_reducible refine Holds.alloc ?_ _) | (with_reducible refine Holds.drew ?_)))) hb2 (by simp))
    obtain ⟨s0, s1, s2, s3, s4, s5, s6, s7⟩ := eight HB1.out
    clear hb2
    go_wp2_with fail
    refine (knows22 _).mono ?_
    rintro r w3 ⟨rfl, hb3⟩
    replace hbw := hbw.trans (hb3.mono hbw.size)
    clear hb3
    go_wp2
    go_ret
    exact ⟨rfl, hbw⟩
  · go_enter Try.func3, Try.ntmps3
    go_wp2_with fail
    refine (F1.out _ ?_).mono ?_
    · exact (by repeat (first | (with_reducible exact Below.refl _ _) | (with_reducible assumption) | (with_reducible refine Below.drew ?_) | (with_reducible refine below_drewN ?_ _) | ((with_reducible refine below_alloc ?_ ?_); (focus (first | omega | (simp; done) | (simp; omega)))) | ((with_reducible refine below_set ?_ ?_); (focus (first | omega | (simp; done) | (simp; omega))))))
    rintro r w2 ⟨rfl, hb2⟩
    have hbw : Below w.heap.size w w2 := Below.trans (by repeat (first | (with_reducible exact Below.refl _ _) | (with_reducible assumption) | (with_reducible refine Below.drew ?_) | (with_reducible refine below_drewN ?_ _) | ((with_reducible refine below_alloc ?_ ?_); (focus (first | omega | (simp; done) | (simp; omega)))) | ((with_reducible refine below_set ?_ ?_); (focus (first | omega | (simp; done) | (simp; omega)))))) (hb2.mono (by simp))
    have HB1 := hidden (Holds.below (show Holds _ w.heap.size 26 #[.slice A1 g.toks.length k1, .slice A2 g.rules.length k2, .slice A3 g.prods.length k3, .int .i64 g.start, .int .i64 g.states, .int .i64 g.text, .int .i64 g.nodes, .int .i64 g.pairs] from (by repeat (first | (with_reducible assumption) | ((with_reducible refine holds_new ?_); (focus (first | rfl | (simp; done)))) | (with_reducible refine Holds.alloc ?_ _) | (with_reducible refine Holds.drew ?_)))) hb2 (by simp))
    obtain ⟨s0, s1, s2, s3, s4, s5, s6, s7⟩ := eight HB1.out
    clear hb2
    have hw := hmul (by trivial)
    have d0 : decide ((800 : Int) < ((g.rules.length * g.toks.length : Nat) : Int)) = true := decide_eq_true (by omega)
    have d1 : decide ((60 : Int) < (l.length : Int)) = false := decide_eq_false (by omega)
    generalize g.rules.length * g.toks.length = mm at *
    clear hmul HSm hl hl2
    go_wp2_with fail
    refine (knows22 _).mono ?_
    rintro r w3 ⟨rfl, hb3⟩
    replace hbw := hbw.trans (hb3.mono hbw.size)
    clear hb3
    go_wp2
    go_ret
    exact ⟨rfl, hbw⟩
  · go_enter Try.func3, Try.ntmps3
    go_wp2_with fail
    refine (F1.out _ ?_).mono ?_
    · exact (by repeat (first | (with_reducible exact Below.refl _ _) | (with_reducible assumption) | (with_reducible refine Below.drew ?_) | (with_reducible refine below_drewN ?_ _) | ((with_reducible refine below_alloc ?_ ?_); (focus (first | omega | (simp; done) | (simp; omega)))) | ((with_reducible refine below_set ?_ ?_); (focus (first | omega | (simp; done) | (simp; omega))))))
    rintro r w2 ⟨rfl, hb2⟩
    have hbw : Below w.heap.size w w2 := Below.trans (by repeat (first | (with_reducible exact Below.refl _ _) | (with_reducible assumption) | (with_reducible refine Below.drew ?_) | (with_reducible refine below_drewN ?_ _) | ((with_reducible refine below_alloc ?_ ?_); (focus (first | omega | (simp; done) | (simp; omega)))) | ((with_reducible refine below_set ?_ ?_); (focus (first | omega | (simp; done) | (simp; omega)))))) (hb2.mono (by simp))
    have HB1 := hidden (Holds.below (show Holds _ w.heap.size 26 #[.slice A1 g.toks.length k1, .slice A2 g.rules.length k2, .slice A3 g.prods.length k3, .int .i64 g.start, .int .i64 g.states, .int .i64 g.text, .int .i64 g.nodes, .int .i64 g.pairs] from (by repeat (first | (with_reducible assumption) | ((with_reducible refine holds_new ?_); (focus (first | rfl | (simp; done)))) | (with_reducible refine Holds.alloc ?_ _) | (with_reducible refine Holds.drew ?_)))) hb2 (by simp))
    obtain ⟨s0, s1, s2, s3, s4, s5, s6, s7⟩ := eight HB1.out
    clear hb2
    have hw := hmul (by trivial)
    have d0 : decide ((800 : Int) < ((g.rules.length * g.toks.length : Nat) : Int)) = false := decide_eq_false (by omega)
    have d1 : decide ((60 : Int) < (l.length : Int)) = false := decide_eq_false (by omega)
    generalize g.rules.length * g.toks.length = mm at *
    clear hmul HSm hl hl2
    have t1 : (so == so) = true := by simp
    go_wp2_with fail
    go_region_held3 (fun w' => w'.cell? ⟨w.heap.size, 0, none⟩ = some (.slice A1 g.toks.length k1) ∧ w'.cell? ⟨w.heap.size, 1, none⟩ = some (.slice A2 g.rules.length k2) ∧ w'.cell? ⟨w.heap.size, 2, none⟩ = some (.slice A3 g.prods.length k3) ∧ w'.cell? ⟨w.heap.size, 3, none⟩ = some (.int .i64 g.start) ∧ w'.cell? ⟨w.heap.size, 4, none⟩ = some (.int .i64 g.states) ∧ w'.cell? ⟨w.heap.size, 5, none⟩ = some (.int .i64 g.text) ∧ w'.cell? ⟨w.heap.size, 6, none⟩ = some (.int .i64 g.nodes) ∧ w'.cell? ⟨w.heap.size, 7, none⟩ = some (.int .i64 g.pairs) ∧ Below w2.heap.size w2 w')
      (first | exact ⟨s0, s1, s2, s3, s4, s5, s6, s7, Below.drew (Below.refl _ _)⟩ | (go_split_ands; exact keep_one HB1.out (by (first | assumption | exact Below.drew (Below.refl _ _) | exact Below.refl _ _)) (by assumption)))
      (first | (go_at_call 16; go_split_ands; refine (N1.out (by trivial) _ (hbw.trans (Below.mono (by (first | assumption | exact Below.drew (Below.refl _ _) | exact Below.refl _ _)) hbw.size))).mono ?_; rintro e w4 ⟨⟨u4, rfl, hu4⟩, hb4⟩) | (go_at_call 17; go_split_ands; refine (R1.out (by trivial) _ (hbw.trans (Below.mono (by (first | assumption | exact Below.drew (Below.refl _ _) | exact Below.refl _ _)) hbw.size))).mono ?_; rintro e w5 ⟨⟨u5, rfl, hu5⟩, hb5⟩) | (go_at_call 15; go_split_ands; refine (lists_self (Recs.old hu4.out hb5) hu5.out).mono ?_; rintro e w6 ⟨rfl, hb6⟩) | (go_at_call 19; go_split_ands; refine (N2.out (by trivial) _ (hbw.trans (Below.mono (by (first | assumption | exact Below.drew (Below.refl _ _) | exact Below.refl _ _)) hbw.size))).mono ?_; rintro e w7 ⟨⟨u7, rfl, hu7⟩, hb7⟩) | (go_at_call 20; go_split_ands; refine (R2.out (by trivial) _ (hbw.trans (Below.mono (by (first | assumption | exact Below.drew (Below.refl _ _) | exact Below.refl _ _)) hbw.size))).mono ?_; rintro e w8 ⟨⟨u8, rfl, hu8⟩, hb8⟩) | (go_at_call 18; go_split_ands; refine (ints_self (Rd.old hu7.out hb8) (RowM.rd hu8.out)).mono ?_; rintro e w9 ⟨rfl, hb9⟩) | (go_at_call 21; go_split_ands; refine (N3.out (by trivial) _ (hbw.trans (Below.mono (by (first | assumption | exact Below.drew (Below.refl _ _) | exact Below.refl _ _)) hbw.size))).mono ?_; rintro e w10 ⟨rfl, hb10⟩) | (go_at_call 22; go_split_ands; refine (R3.out (by trivial) _ (hbw.trans (Below.mono (by (first | assumption | exact Below.drew (Below.refl _ _) | exact Below.refl _ _)) hbw.size))).mono ?_; rintro e w11 ⟨rfl, hb11⟩) | (go_at_call 14; go_split_ands; refine (knows22 _).mono ?_; rintro e w12 ⟨rfl, hb12⟩))
    have hbe := hidden (((((((((hbw.drew.more hb4).more hb5).more hb6).more hb7).more hb8).more hb9).more hb10).more hb11).more hb12)
    clear hb4 hb5 hb6 hb7 hb8 hb9 hb10 hb11 hb12
    go_wp2
    go_ret
    exact ⟨rfl, hbe.out⟩
end Go.Proofs.Ytmlggfapnkhcaaa
