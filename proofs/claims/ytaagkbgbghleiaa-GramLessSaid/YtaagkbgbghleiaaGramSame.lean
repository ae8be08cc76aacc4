/-
  facsimileref18.sameToken.
-/
import Derived.Test.YtaagkbgbghleiaaGram
namespace Go.Proofs.Ytaagkbgbghleiaa
open Go.RowKit Go.Shelf

set_option maxRecDepth 20000 in
set_option maxHeartbeats 2000000 in
theorem ref_sameToken (x y : Token) (l1 l2 : Value) (w : World) (h1 : Rd w (Old w) 5 l1 x.rex.length (x.rex.flatMap rxCells)) (h2 : Rd w (Old w) 5 l2 y.rex.length (y.rex.flatMap rxCells)) :
    Calls Try.prog 86 #[.agg #[.string x.name, l1, .int .i64 x.cls], .agg #[.string y.name, l2, .int .i64 y.cls]] w fun r w' => r = .returned (.bool (eqB x y)) ∧ Below w.heap.size w w' := by
  obtain ⟨n1, r1, c1⟩ := x
  obtain ⟨n2, r2, c2⟩ := y
  dsimp only at h1 h2 ⊢
  have hal : Below w.heap.size w ((w.alloc (.cells #[.string n1, l1, .int .i64 c1] 47)).alloc (.cells #[.string n2, l2, .int .i64 c2] 47)) := ((Below.refl _ _).alloc (Nat.le_refl _) _).alloc (by simp) _
  have HS := hidden (ref07_same l1 l2 r1 r2 _ (h1.old hal) (h2.old hal))
  have HE : Hid (eqB (⟨n1, r1, c1⟩ : Token) ⟨n2, r2, c2⟩ = (eqB n1 n2 && (c1 == c2 && eqB r1 r2))) := hidden (by
    rw [Bool.eq_iff_iff, eqB_iff]
    simp only [Token.mk.injEq, Bool.and_eq_true, beq_iff_eq, eqB_iff]
    exact ⟨fun h => ⟨h.1, h.2.2, h.2.1⟩, fun h => ⟨h.1, h.2.2, h.2.1⟩⟩)
  obtain ⟨A1, k1, rfl, _, _⟩ := h1.val
  obtain ⟨A2, k2, rfl, _, _⟩ := h2.val
  have hsq := strs_eql n1 n2
  generalize eqB r1 r2 = er at *
  generalize eqB n1 n2 = en at *
  clear h1 h2
  cases en
  · go_enter Try.func86, Try.ntmps86
    go_wp2
    go_ret
    exact ⟨by rw [HE.out]; rfl, hal⟩
  · cases hc : (c1 == c2)
    · rw [hc] at HE
      go_enter Try.func86, Try.ntmps86
      go_wp2
      go_ret
      exact ⟨by rw [HE.out]; rfl, hal⟩
    · rw [hc] at HE
      go_enter Try.func86, Try.ntmps86
      go_wp2_with fail
      refine HS.out.mono ?_
      rintro r w1 ⟨rfl, hb⟩
      go_wp2
      go_ret
      exact ⟨by rw [HE.out]; simp, hal.trans (hb.mono hal.size)⟩
end Go.Proofs.Ytaagkbgbghleiaa
