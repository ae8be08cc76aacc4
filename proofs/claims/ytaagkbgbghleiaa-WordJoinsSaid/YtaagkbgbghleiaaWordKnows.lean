/-
  law06.few, law06.knows.
-/
import Derived.Test.YtaagkbgbghleiaaWordRef
import Derived.Test.YtaagkbgbghleiaaWordLines3
namespace Go.Proofs.Ytaagkbgbghleiaa
open Go.RowKit Go.Shelf

def FewL (l : List ByteArray) : Prop := l.length ≤ 60 ∧ ∀ (i : Nat) (x : ByteArray), l[i]? = some x → x.size ≤ 100
noncomputable def fewL (l : List ByteArray) : Bool := holdsB (FewL l)

set_option maxRecDepth 20000 in
set_option maxHeartbeats 2000000 in
theorem few_strs (v : Value) (l : List ByteArray) (T : Nat → Prop) (w : World) (hR : Strs w T v l) (hsz : ∀ x ∈ l, x.size ≤ maxLen) :
    Calls Try.prog 23 #[v] w fun r w' => r = .returned (.bool (fewL l)) ∧ w = w' := by
  obtain ⟨A, c, rfl, hc1, hc2⟩ := hR.val
  unfold maxLen at hc2 hsz
  have HR := hidden hR
  have HS := hidden hsz
  have HBad : Hid (∀ (i : Nat) (x : ByteArray), l[i]? = some x → 100 < x.size → fewL l = false) := hidden (fun i x h h1 => holdsB_false (fun hf => by have := hf.2 i x h; omega))
  have HG : Hid ((∀ (i : Nat), i < l.length → ∀ x : ByteArray, l[i]? = some x → x.size ≤ 100) → fewL l = decide ((l.length : Int) ≤ 60)) := hidden (fun h => by
    rw [Bool.eq_iff_iff, decide_eq_true_iff]
    unfold fewL
    rw [holdsB_iff]
    exact ⟨fun hf => by have := hf.1; omega, fun h1 => ⟨by omega, fun i x hx => h i (List.getElem?_eq_some_iff.1 hx).1 x hx⟩⟩)
  generalize fewL l = r at *
  clear hR hsz
  go_enter Try.func23, Try.ntmps23
  go_wp2
  go_loop [3] (fun ii => ∃ k : Nat, k ≤ l.length ∧ ii = .int .i64 k ∧ Hid (∀ (i : Nat), i < k → ∀ x : ByteArray, l[i]? = some x → x.size ≤ 100)) (fun ii => l.length - (intOf ii).toNat)
  case atStart => exact ⟨0, by omega, rfl, hidden (fun m h => by omega)⟩
  case round =>
    obtain ⟨k, hk, rfl, HN⟩ := hrel
    by_cases hlt : k < l.length
    · have hx := List.getElem?_eq_getElem hlt
      have hm := HS.out _ (List.getElem_mem hlt)
      generalize l[k] = x at *
      obtain ⟨b, off, rfl, _, x0⟩ := strs_at HR.out hx
      have HX := hidden hx
      clear hx
      by_cases e : 100 < x.size
      · have HE := hidden (HBad.out k x HX.out e)
        go_wp2
        go_ret
        exact ⟨by rw [HE.out]; rfl, rfl⟩
      · have HN2 : Hid (∀ (i : Nat), i < k + 1 → ∀ x : ByteArray, l[i]? = some x → x.size ≤ 100) := hidden (fun i hi y hy => by
          by_cases em : i = k
          · subst em; rw [HX.out] at hy; cases hy; omega
          · exact HN.out i (by omega) y hy)
        have q : decide ((100 : Int) < (x.size : Int)) = false := by simp; omega
        clear HX
        go_wp2
        go_round
        case rel => exact ⟨k + 1, by omega, by go_num, HN2⟩
        case measure => simp [intOf]; omega
    · obtain rfl : k = l.length := by omega
      have HE := hidden (HG.out HN.out)
      go_wp2
      go_ret
      exact ⟨by rw [HE.out]; rfl, rfl⟩

theorem all_below {n : Nat} {p : Nat → Prop} (h : ∀ j : Fin n, p j.1) : ∀ j, j < n → p j := fun j hj => h ⟨j, hj⟩
abbrev ex1 : ByteArray := ⟨#[32, 32, 114, 117, 108, 101, 32, 32, 120]⟩
abbrev ex2 : ByteArray := ⟨#[97, 10, 10, 98]⟩
theorem ex1_words : ∃ r, wordsAt ex1 0 = (2, 6) :: r := by
  refine ⟨wordsAt ex1 7, ?_⟩
  rw [wordsAt_blank (s := ex1) (k := 0) (by decide) (by decide), wordsAt_blank (s := ex1) (k := 0 + 1) (by decide) (by decide)]
  exact wordsAt_step (s := ex1) (b := 2) (e := 6) (by decide) (by decide) (fun j hj h1 h2 => by
    have : j = 2 ∨ j = 3 ∨ j = 4 ∨ j = 5 := by omega
    rcases this with rfl | rfl | rfl | rfl
    · exact (by decide : ex1[2]'(by decide) ≠ 32)
    · exact (by decide : ex1[3]'(by decide) ≠ 32)
    · exact (by decide : ex1[4]'(by decide) ≠ 32)
    · exact (by decide : ex1[5]'(by decide) ≠ 32)) (fun _ => (by decide : ex1[6]'(by decide) = 32))
theorem ex1_cut : cutOf ex1 = (⟨#[114, 117, 108, 101]⟩, ⟨#[32, 120]⟩) := by
  obtain ⟨r, hr⟩ := ex1_words
  unfold cutOf
  rw [hr]
  rfl
theorem ex2_lines : linesOf ex2 = [⟨#[97]⟩, ⟨#[]⟩, ⟨#[98]⟩] := by
  have h1 : linesAt ex2 0 = (0, 1) :: linesAt ex2 (1 + 1) := linesAt_step (by decide) (by decide) (by decide) (fun j hj h1 h2 => by
    obtain rfl : j = 0 := by omega
    exact (by decide : ex2[0]'(by decide) ≠ 10)) (fun _ => (by decide : ex2[1]'(by decide) = 10))
  have h2 : linesAt ex2 (1 + 1) = (2, 2) :: linesAt ex2 (2 + 1) := linesAt_step (by decide) (by decide) (by decide) (fun j hj h1 h2 => by omega) (fun _ => (by decide : ex2[2]'(by decide) = 10))
  have h3 : linesAt ex2 (2 + 1) = (3, 4) :: linesAt ex2 (4 + 1) := linesAt_step (by decide) (by decide) (by decide) (fun j hj h1 h2 => by
    obtain rfl : j = 3 := by omega
    exact (by decide : ex2[3]'(by decide) ≠ 10)) (fun h => absurd h (by decide))
  have h4 : linesAt ex2 (4 + 1) = [] := linesAt_past (by decide)
  unfold linesOf
  rw [h1, h2, h3, h4]
  rfl
theorem ex_name : nameB ⟨#[97, 49]⟩ = true := holdsB_true ⟨by decide, by decide, fun i h => by
  have h' : i < 2 := h
  have : i = 0 ∨ i = 1 := by omega
  rcases this with rfl | rfl
  · left; exact (by decide : partOf (97 : Int) = 2)
  · right; exact ⟨(by decide : partOf (49 : Int) = 1), by decide⟩⟩
theorem ex_name2 : nameB ⟨#[49, 97]⟩ = false := holdsB_false (fun h => by
  have := h.2.2 0 (by decide)
  rcases this with h | h
  · exact absurd h (by decide)
  · exact absurd rfl h.2)

set_option maxRecDepth 20000 in
set_option maxHeartbeats 4000000 in
theorem knows06 (w : World) : Calls Try.prog 15 #[] w fun r w' => r = .returned (.bool true) ∧ Below w.heap.size w w' := by
  have hb := Below.refl w.heap.size w
  have H1 := hidden (fun w' => word_cut ex1 w' (by decide))
  have H2 := hidden (fun w' => word_lines ex2 w' (by decide))
  have H3 := hidden (fun w' => word_name ⟨#[97, 49]⟩ w' (by decide))
  have H4 := hidden (fun w' => word_name ⟨#[49, 97]⟩ w' (by decide))
  rw [ex1_cut] at H1
  rw [ex2_lines] at H2
  rw [ex_name] at H3
  rw [ex_name2] at H4
  go_enter Try.func15, Try.ntmps15
  go_wp2_with fail
  refine (H1.out w).mono ?_
  rintro r wg ⟨rfl, hbg⟩
  replace hb := hb.trans (hbg.mono hb.size)
  clear hbg
  go_wp2_with fail
  refine (H2.out _).mono ?_
  rintro r wg ⟨⟨u, rfl, HM⟩, hbg⟩
  replace hb := hb.trans (hbg.mono hb.size)
  obtain ⟨A, c, rfl⟩ := Mine.value HM.out
  clear hbg
  have hR := Rd.mono ((StrsM.rd HM.out).alloc (.cells #[.string ⟨#[97]⟩, .string ⟨#[]⟩, .string ⟨#[98]⟩] 9)) (T' := Old (wg.alloc (.cells #[.string ⟨#[97]⟩, .string ⟨#[]⟩, .string ⟨#[98]⟩] 9))) (fun k hk => by have : k < wg.heap.size := hk; unfold Old; simp; omega)
  have hR2 : Strs (wg.alloc (.cells #[.string ⟨#[97]⟩, .string ⟨#[]⟩, .string ⟨#[98]⟩] 9)) (Old (wg.alloc (.cells #[.string ⟨#[97]⟩, .string ⟨#[]⟩, .string ⟨#[98]⟩] 9))) (.slice (some ⟨wg.heap.size, 0, none⟩) 3 3) [⟨#[97]⟩, ⟨#[]⟩, ⟨#[98]⟩] :=
    Rd.fresh (cs := [.string ⟨#[97]⟩, .string ⟨#[]⟩, .string ⟨#[98]⟩]) (n := 3) (size := 1) rfl (Nat.le_refl _) (by decide) (by simp [Old]) rfl
  have HS := hidden (same_strs _ _ _ _ _ hR hR2)
  rw [eqB_self] at HS
  replace hb := hb.alloc hb.size (.cells #[.string ⟨#[97]⟩, .string ⟨#[]⟩, .string ⟨#[98]⟩] 9)
  clear hR hR2 HM
  go_wp2_with fail
  refine (HS.out).mono ?_
  rintro r wg ⟨rfl, hbg⟩
  replace hb := hb.trans (hbg.mono hb.size)
  clear hbg
  go_wp2_with fail
  refine (H3.out _).mono ?_
  rintro r wg ⟨rfl, hbg⟩
  replace hb := hb.trans (hbg.mono hb.size)
  clear hbg
  go_wp2_with fail
  refine (H4.out _).mono ?_
  rintro r wg ⟨rfl, hbg⟩
  replace hb := hb.trans (hbg.mono hb.size)
  clear hbg
  go_wp2
  go_ret
  exact ⟨rfl, hb⟩
end Go.Proofs.Ytaagkbgbghleiaa
