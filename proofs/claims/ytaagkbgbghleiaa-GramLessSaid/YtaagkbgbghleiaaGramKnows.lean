/-
  law18.knows.
-/
import Derived.Test.YtaagkbgbghleiaaGramFew
import Derived.Test.YtaagkbgbghleiaaGramCheck2
import Derived.Test.YtaagkbgbghleiaaGramSame3
namespace Go.Proofs.Ytaagkbgbghleiaa
open Go.RowKit Go.Shelf

theorem Recs.nil {α : Type} (R : Rec α) (w : World) (T : Nat → Prop) : Recs R w T (.slice none 0 0) [] := ⟨[], rfl, Rd.nil _ _ _, fun i x l h => by simp at h⟩
def g0 : Gram := ⟨[], [], [], 0, 0, 0, 0, 0⟩
theorem g0_is (w : World) (T : Nat → Prop) : GramIs w T (.slice none 0 0) (.slice none 0 0) (.slice none 0 0) g0 := ⟨Recs.nil _ _ _, Rd.nil _ _ _, Recs.nil _ _ _⟩
theorem g0_check : checkOf g0 = ⟨2, 0, 0⟩ := by
  unfold checkOf sizesOf g0
  simp [orD]
abbrev sS : ByteArray := ⟨#[115]⟩
def g1 : Gram := ⟨[], [sS], [⟨0, []⟩], 0, 1, 1, 1, 1⟩
theorem sS_name : nameB sS = true := holdsB_true ⟨by decide, by decide, fun i h => by
  have h' : i < 1 := h
  have : i = 0 := by omega
  subst this
  left; exact (by decide : partOf (115 : Int) = 2)⟩
theorem g1_check : checkOf g1 = D0 := by
  have e1 : sizesOf g1 = D0 := by simp [sizesOf, g1]
  have e2 : firstD (tokD g1) 0 g1.toks.length = D0 := rfl
  have e3 : ruleD g1 0 = D0 := by
    have h0 : g1.rules[0]? = some sS := rfl
    have ht : (allNames g1).take (g1.toks.length + 0) = [] := rfl
    have e : nameErr sS [] = 0 := by
      unfold nameErr
      rw [sS_name, if_neg (by decide), if_neg (by rw [holdsB_false (by simp)]; decide)]
    unfold ruleD
    rw [h0]
    dsimp only
    rw [ht, e, if_neg (by simp)]
  have e3' : firstD (ruleD g1) 0 g1.rules.length = D0 := first0_miss (fun m hm => by
    have hm' : m < 1 := hm
    obtain rfl : m = 0 := by omega
    rw [e3]; rfl)
  have e4 : firstD (prodD g1) 0 g1.prods.length = D0 := by kernel_rfl
  have e5 : wholeD g1 = D0 := by kernel_rfl
  unfold checkOf
  rw [e1, e2, e3', e4, e5]
  rfl
theorem g1_right : rightB g1 = true := by unfold rightB; rw [g1_check]; rfl
theorem g1_rule : isRule g1 sS = true ∧ findNo g1 sS = 0 := by
  have e1 : findOf (tokNames g1) sS = -1 := find_miss (fun m hm => by simp [tokNames, g1] at hm)
  have e2 : findOf g1.rules sS = ((0 : Nat) : Int) := find_hit rfl (fun m hm => by omega)
  unfold isRule findNo
  rw [e1, e2]
  exact ⟨rfl, rfl⟩
theorem g1_is {w : World} {T : Nat → Prop} {b1 b2 : Nat} (h1 : Holds w b1 9 #[.string sS]) (h2 : Holds w b2 56 #[.int .i64 0, .slice none 0 0]) (t1 : T b1) (t2 : T b2) :
    GramIs w T (.slice none 0 0) (.slice (some ⟨b1, 0, none⟩) 1 1) (.slice (some ⟨b2, 0, none⟩) 1 1) g1 := by
  refine ⟨Recs.nil _ _ _, ⟨rfl, _, 1, rfl, Nat.le_refl _, by decide, fun _ => ⟨b1, 0, rfl, t1, fun j u hu => ?_⟩⟩, ⟨[.slice none 0 0], rfl, ⟨rfl, _, 1, rfl, Nat.le_refl _, by decide, fun _ => ⟨b2, 0, rfl, t2, fun j u hu => ?_⟩⟩, fun i x l hx hl => ?_⟩⟩
  · rw [Nat.zero_add, h1.cell j]
    simpa [g1, strC] using hu
  · rw [Nat.zero_add, h2.cell j]
    simpa [g1, Rec.all, prodR] using hu
  · match i with
    | 0 =>
      simp [g1] at hx hl
      subst hx hl
      exact Rd.nil _ _ _
    | i + 1 => simp [g1] at hx

set_option maxRecDepth 20000 in
set_option maxHeartbeats 4000000 in
theorem knows18 (w : World) : Calls Try.prog 31 #[] w fun r w' => r = .returned (.bool true) ∧ Below w.heap.size w w' := by
  have hb := Below.refl w.heap.size w
  have H0 := hidden (fun w' => gram_Check _ _ _ g0 w' (g0_is w' (Old w')) (by decide) (by decide) (by decide) (by intro s h; simp [allNames, tokNames, g0] at h))
  have HF := hidden (fun b1 b2 w' h1 h2 t1 t2 => gram_Find _ _ _ g1 sS w' (@g1_is w' (Old w') b1 b2 h1 h2 t1 t2) (by decide))
  have HR := hidden (fun b1 b2 w' h1 h2 t1 t2 => gram_Right _ _ _ g1 w' (@g1_is w' (Old w') b1 b2 h1 h2 t1 t2) (by decide) (by decide) (by decide) (by intro s h; simp [allNames, tokNames, g1] at h; subst h; decide))
  rw [g0_check] at H0
  rw [g1_right] at HR
  rw [g1_rule.1, g1_rule.2] at HF
  have hf : ∀ (a b c : Int) (w : World), (Instr.field 40 (.agg #[.int .i64 a, .int .i64 b, .int .i64 c]) 0).run Try.prog w = .ok (.int .i64 a) w := fun _ _ _ _ => by kernel_rfl
  unfold gramCells g1 g0 defC at *
  dsimp only at *
  go_enter Try.func31, Try.ntmps31
  go_wp2_with fail
  refine (HF.out w.heap.size (w.heap.size + 1) _ ?_ ?_ ?_ ?_).mono ?_
  · exact (by repeat (first | (with_reducible assumption) | ((with_reducible refine holds_new ?_); (focus (first | rfl | (simp; done)))) | (with_reducible refine Holds.alloc ?_ _) | (with_reducible refine Holds.drew ?_)))
  · exact (by repeat (first | (with_reducible assumption) | ((with_reducible refine holds_new ?_); (focus (first | rfl | (simp; done)))) | (with_reducible refine Holds.alloc ?_ _) | (with_reducible refine Holds.drew ?_)))
  · unfold Old; simp; omega
  · unfold Old; simp
  rintro r w2 ⟨rfl, hb2⟩
  have P1 : Holds w2 w.heap.size 9 #[.string sS] := Holds.below (by repeat (first | (with_reducible assumption) | ((with_reducible refine holds_new ?_); (focus (first | rfl | (simp; done)))) | (with_reducible refine Holds.alloc ?_ _) | (with_reducible refine Holds.drew ?_))) hb2 (by first | (simp; done) | (simp; omega))
  have P2 : Holds w2 (w.heap.size + 1) 56 #[.int .i64 0, .slice none 0 0] := Holds.below (by repeat (first | (with_reducible assumption) | ((with_reducible refine holds_new ?_); (focus (first | rfl | (simp; done)))) | (with_reducible refine Holds.alloc ?_ _) | (with_reducible refine Holds.drew ?_))) hb2 (by first | (simp; done) | (simp; omega))
  have P3 : Holds w2 (w.heap.size + 1 + 1) 36 #[.slice none 0 0, .slice (some ⟨w.heap.size, 0, none⟩) 1 1, .slice (some ⟨w.heap.size + 1, 0, none⟩) 1 1, .int .i64 0, .int .i64 1, .int .i64 1, .int .i64 1, .int .i64 1] := Holds.below (by repeat (first | (with_reducible assumption) | ((with_reducible refine holds_new ?_); (focus (first | rfl | (simp; done)))) | (with_reducible refine Holds.alloc ?_ _) | (with_reducible refine Holds.drew ?_))) hb2 (by first | (simp; done) | (simp; omega))
  have hbw : Below w.heap.size w w2 := Below.trans (by repeat (first | (with_reducible exact Below.refl _ _) | (with_reducible assumption) | (with_reducible refine Below.drew ?_) | (with_reducible refine below_drewN ?_ _) | ((with_reducible refine below_alloc ?_ ?_); (focus (first | omega | (simp; done) | (simp; omega)))) | ((with_reducible refine below_set ?_ ?_); (focus (first | omega | (simp; done) | (simp; omega)))))) (hb2.mono (by simp; omega))
  have hz2 : w.heap.size + 3 ≤ w2.heap.size := by have := hb2.size; simp at this; omega
  obtain ⟨s0, s1, s2, s3, s4, s5, s6, s7⟩ := eight P3
  clear P3 hb2 HF
  have HR2 := hidden (HR.out _ _ _ P1 P2 (by unfold Old; omega) (by unfold Old; omega))
  clear P1 P2 HR hb
  go_wp2_with fail
  refine HR2.out.mono ?_
  rintro r w3 ⟨rfl, hb3⟩
  replace hbw := hbw.trans (hb3.mono hbw.size)
  clear hb3 HR2 s0 s1 s2 s3 s4 s5 s6 s7
  go_wp2_with fail
  refine (H0.out _).mono ?_
  rintro r w4 ⟨rfl, hb4⟩
  replace hbw := hbw.trans (hb4.mono hbw.size)
  clear hb4
  go_wp2
  go_ret
  exact ⟨rfl, hbw⟩
end Go.Proofs.Ytaagkbgbghleiaa
