/-
  The reference's node at a node with kids, and Right.
-/
import Derived.Test.YtihblifkbljgaaaTreeRef
namespace Go.Proofs.Ytihblifkbljgaaa
open Go.RowKit Go.Shelf

theorem Nds.old {w w' : World} {v : Value} {t : List Node} (h : Nds w (Old w) v t) (hb : Below w.heap.size w w') : Nds w' (Old w') v t :=
  (h.below hb (fun _ h => h)).mono (fun _ hk => Nat.lt_of_lt_of_le hk hb.size)

/-- What is read of the next kid that was found good. -/
theorem kid_step {t : List Node} {i k S : Nat} (hs : sz t i = S) (h2 : k < i + S) (hl : i + S ≤ t.length) (hg : goodB t k (i + S) = true) {w : World} {b off c : Nat} {T : Nat → Prop}
    (hN : Nds w T (.slice (some ⟨b, off, none⟩) t.length c) t) : ∃ z : Nat, w.cell? ⟨b, off + k * 5 + 2, none⟩ = some (.int .i64 z) ∧ 1 ≤ z ∧ k + z ≤ i + S ∧ (Hid (KidsTo t i k) → Hid (KidsTo t i (k + z))) := by
  have hg := goodB_iff.1 hg
  have hx := List.getElem?_eq_getElem (show k < t.length by omega)
  have hloc := hg.local hx
  obtain ⟨b', off', c', hv, _, _, _, hat⟩ := hN.open_ (by intro e; subst e; simp at hl; omega)
  simp only [Value.slice.injEq, Option.some.injEq, Addr.mk.injEq] at hv
  obtain ⟨⟨rfl, rfl, _⟩, _, rfl⟩ := hv
  obtain ⟨l, x0, x1, x2, _⟩ := hat k _ hx
  obtain ⟨z, hz⟩ := Int.eq_ofNat_of_zero_le (show 0 ≤ t[k].size by have := hloc.2.2.1; omega)
  have hzz : sz t k = z := by rw [sz_of hx, hz]; simp
  refine ⟨z, by rw [x2, hz], by have := hloc.2.2.1; omega, by have := hg.2.1; omega, fun h => hidden ?_⟩
  rw [← hzz]
  exact h.out.next (by rw [hs]; exact hg)

set_option maxHeartbeats 4000000 in
theorem ref_node_any (f : Nat) : ∀ (v : Value) (t : List Node) (i e : Nat) (w : World), e - i ≤ f → i < e → e ≤ t.length → t.length ≤ 140737488355328 → Nds w (Old w) v t →
    Calls Try.prog 52 #[v, .int .i64 i, .int .i64 e] w fun r w' => r = .returned (.bool (goodB t i e)) ∧ Below w.heap.size w w' := by
  induction f with
  | zero => intro v t i e w h1 h2; omega
  | succ f ih =>
    intro v t i e w h1 h2 h3 h4 hN
    have hlt : i < t.length := by omega
    have hx := List.getElem?_eq_getElem hlt
    generalize t[i] = x at hx
    refine (Decidable.em (openK x.kind ∧ 1 ≤ x.size ∧ (i : Int) + x.size ≤ e ∧ x.lead = [] ∧ x.text = ⟨#[]⟩)).elim (fun hc => ?_) (fun hc => ref_node_plain v t i e w h2 h3 h4 hN x hx hc)
    obtain ⟨b, off, c, rfl, hc1, hc2, hb, hat⟩ := hN.open_ (by intro e; subst e; simp at h3; omega)
    obtain ⟨l, x0, x1, x2, x3, x4, hp⟩ := hat i _ hx
    obtain ⟨A', c'', rfl, g1, g2⟩ := hp.value
    unfold maxLen at hc2 g2
    have hsz := sz_of hx
    have hloc : openK x.kind → 1 ≤ x.size → x.lead = [] → x.text = ⟨#[]⟩ → Local x := fun h1 h2 h3 h4 => ⟨by unfold openK at h1; omega, by unfold openK at h1; omega, h2, fun h => absurd h1 h, fun _ => ⟨h3, h4⟩⟩
    obtain ⟨kd, nn, sd, ld, tx⟩ := x
    dsimp only at *
    obtain ⟨hk, hs1, hse, rfl, rfl⟩ := hc
    have hL := hloc hk hs1 rfl rfl
    obtain ⟨S, rfl⟩ := Int.eq_ofNat_of_zero_le (show 0 ≤ sd by omega)
    simp only [Int.toNat_natCast] at hsz
    have HG : Hid (KidsTo t i (i + S) → goodB t i e = true) := hidden (fun h => goodB_iff.2 (KidsTo.good hx hL (by rw [hsz]; omega) (by rw [hsz]; exact h)))
    have HB : Hid (∀ k, i < k → k < i + S → goodB t k (i + S) = false → goodB t i e = false) := hidden (fun k a b hf => goodB_false (fun hg => by
      have := hg.inner a (by rw [hsz]; exact b)
      rw [hsz] at this
      rw [goodB_iff.2 this] at hf
      cases hf))
    have HS := hidden hsz
    have IH := hidden ih
    have HN := hidden hN
    obtain ⟨r, hr⟩ : ∃ r, goodB t i e = r := ⟨_, rfl⟩
    rw [hr] at HG HB ⊢
    clear hr ih hat hp hloc hL hsz hN hx
    have hkd : kd = 1 ∨ kd = 2 := hk
    have q1 : decide (kd < 1) = false := by simp; omega
    have q2 : decide (6 < kd) = false := by simp; omega
    have q5 : (kd == 3) = false := by rw [beq_eq_false_iff_ne]; omega
    have q6 : (kd == 4) = false := by rw [beq_eq_false_iff_ne]; omega
    have q7 : (kd != 1 && kd != 2) = false := by rcases hkd with rfl | rfl <;> rfl
    clear hk
    simp only [List.length_nil] at x3 g1
    obtain ⟨KD, hKD⟩ : ∃ K : Int, K = kd := ⟨_, rfl⟩
    rcases hkd with rfl | rfl
    all_goals
      go_enter Try.func52, Try.ntmps52
      go_wp2
      go_loopw [8] (fun kk wr => ∃ k : Nat, i < k ∧ k ≤ i + S ∧ kk = .int .i64 k ∧ Holds wr w.heap.size 29 #[.int .i64 KD, .int .i64 nn, .int .i64 S, .slice A' 0 c'', .string ⟨#[]⟩] ∧ Below w.heap.size w wr ∧ Hid (KidsTo t i k))
        (fun kk _ => i + S - (intOf kk).toNat)
      case atStart => exact ⟨i + 1, by omega, by omega, by go_num, by rw [hKD]; exact Holds.new w _ _, (by repeat (first | (with_reducible exact Below.refl _ _) | (with_reducible assumption) | (with_reducible refine Below.drew ?_) | ((with_reducible refine below_alloc ?_ ?_); (focus (first | omega | (simp; done) | (simp; omega)))) | ((with_reducible refine below_set ?_ ?_); (focus (first | omega | (simp; done) | (simp; omega)))))), hidden (KidsTo.start t i)⟩
      case round =>
        clear x0 x1 x2 x3 x4 hKD
        obtain ⟨k, hk1, hk2, rfl, q0, hb, HK⟩ := hrel
        have hbz := hb.size
        have n2 : wr.cell? ⟨w.heap.size, 2, none⟩ = some (.int .i64 S) := q0.cell 2
        have l0 := q0.lt
        by_cases hlt : k < i + S
        · have HI := hidden (IH.out _ t k (i + S) wr (by omega) hlt (by omega) h4 (HN.out.old hb))
          have HY := hidden (fun hg w' (hw : Below w.heap.size w w') => kid_step HS.out hlt (show i + S ≤ t.length by omega) hg (HN.out.old hw))
          have HZ := hidden (HB.out k hk1 hlt)
          obtain ⟨B, hB⟩ : ∃ B, goodB t k (i + S) = B := ⟨_, rfl⟩
          rw [hB] at HI HY HZ
          rw [Int.natCast_add] at HI
          clear hB IH HN HB HG HS
          go_wp2_with fail
          refine (HI.out).mono ?_
          rintro r2 w2 ⟨rfl, hb2⟩
          replace hb := hb.trans (hb2.mono hb.size)
          replace q0 := q0.below hb2 q0.lt
          have n2 : w2.cell? ⟨w.heap.size, 2, none⟩ = some (.int .i64 S) := q0.cell 2
          cases B with
          | false =>
            obtain rfl := HZ.out rfl
            clear HI HY HZ
            go_wp2
            go_ret
            exact ⟨rfl, hb⟩
          | true =>
            obtain ⟨z, y2, z1, z2, HK2⟩ := HY.out rfl w2 hb
            have HQ := HK2 HK
            clear HI HY HZ HK HK2
            go_wp2
            go_roundw
            case rel =>
              iterate 23 apply Exists.intro
              refine And.intro ?_ rfl
              exact ⟨k + z, by omega, z2, by go_num, q0, hb, HQ⟩
            case measure => simp [intOf]; omega
        · obtain rfl : k = i + S := by omega
          obtain rfl := HG.out HK.out
          clear IH HN HB HG HS HK
          go_wp2
          go_ret
          exact ⟨rfl, hb⟩
end Go.Proofs.Ytihblifkbljgaaa
