/-
  Deep, of both.
-/
import Derived.Test.YtihblifkbljgaaaTreeUp3
namespace Go.Proofs.Ytihblifkbljgaaa
open Go.RowKit Go.Shelf

theorem upN_lt {t : List Node} {i k : Nat} : ∀ j, upN t i j = (k : Int) → k < j := by
  intro j
  induction j with
  | zero => intro h; simp [upN] at h
  | succ j ih =>
    intro h
    unfold upN at h
    split at h
    · omega
    · have := ih h; omega
theorem upN_cases (t : List Node) (i j : Nat) : upN t i j = -1 ∨ ∃ k : Nat, upN t i j = (k : Int) := by
  induction j with
  | zero => exact .inl rfl
  | succ j ih =>
    unfold upN
    split
    · exact .inr ⟨j, rfl⟩
    · exact ih
/-- How many nodes the one at i lies beneath. -/
def depth (t : List Node) (i : Nat) : Nat := if h : 0 ≤ upN t i i ∧ (upN t i i).toNat < i then depth t (upN t i i).toNat + 1 else 0
termination_by i
decreasing_by exact h.2
theorem depth_none {t : List Node} {i : Nat} (h : upN t i i = -1) : depth t i = 0 := by rw [depth, dif_neg (by omega)]
theorem depth_some {t : List Node} {i k : Nat} (h : upN t i i = (k : Int)) : depth t i = depth t k + 1 := by
  have := upN_lt i h
  rw [depth, dif_pos (by rw [h]; simp; omega), h]
  simp
theorem depth_le (t : List Node) (i : Nat) : depth t i ≤ i := by
  induction i using Nat.strongRecOn with
  | _ i ih =>
    rcases upN_cases t i i with h | ⟨k, h⟩
    · rw [depth_none h]; exact Nat.zero_le _
    · have hk := upN_lt i h
      have := ih k hk
      rw [depth_some h]
      omega
noncomputable def deepOf (t : List Node) (i : Int) : Int := if placeB t i then depth t i.toNat else -1

theorem upOf_in {t : List Node} (ht : Tree t) {k : Nat} (hk : k < t.length) : upOf t k = upN t k k := by
  unfold upOf
  rw [if_pos (placeB_iff.2 ⟨by omega, by omega, ht⟩)]
  simp

set_option maxRecDepth 20000 in
set_option maxHeartbeats 4000000 in
theorem ref_deep (v : Value) (t : List Node) (i : Int) (w : World) (h4 : t.length ≤ 140737488355) (hN : Nds w (Old w) v t) :
    Calls Try.prog 50 #[v, .int .i64 i] w fun r w' => r = .returned (.int .i64 (deepOf t i)) ∧ Below w.heap.size w w' := by
  have HR := hidden (ref_place v t i w h4 hN)
  have HN := hidden hN
  unfold deepOf
  cases hp : placeB t i with
  | false =>
    obtain ⟨A, c, rfl, hc1, hc2⟩ := hN.value
    unfold maxLen at hc2
    clear hN HN
    rw [hp] at HR
    clear hp
    go_enter Try.func50, Try.ntmps50
    go_wp2_with fail
    refine (HR.out).mono ?_
    rintro r2 w2 ⟨rfl, hb2⟩
    go_wp2
    go_ret
    exact ⟨rfl, hb2⟩
  | true =>
    rw [hp] at HR
    obtain ⟨p1, p2, p3⟩ := placeB_iff.1 hp
    obtain ⟨I, rfl⟩ := Int.eq_ofNat_of_zero_le p1
    obtain ⟨A, c, rfl, hc1, hc2⟩ := hN.value
    unfold maxLen at hc2
    have HT := hidden p3
    have p2 : I < t.length := by omega
    simp only [Int.toNat_natCast, if_true]
    clear hN p3 hp p1
    have HU := hidden (fun (w' : World) (hw : Below w.heap.size w w') (k : Nat) (hk : k < t.length) => by
      have := ref_up (.slice A t.length c) t (k : Int) w' h4 (HN.out.old hw)
      rw [upOf_in HT.out hk] at this
      exact this)
    go_enter Try.func50, Try.ntmps50
    go_wp2_with fail
    refine (HR.out).mono ?_
    rintro r2 w2 ⟨rfl, hb⟩
    clear HR
    go_wp2_with fail
    refine (HU.out _ hb I p2).mono ?_
    rintro r2 w3 ⟨rfl, hb3⟩
    replace hb := hb.trans (hb3.mono hb.size)
    clear hb3
    go_wp2
    go_loopw [5, 6] (fun nn kk wr => ∃ j N : Nat, N + j ≤ I ∧ nn = .int .i64 N ∧ kk = .int .i64 (upN t j j) ∧ Hid (N + depth t j = depth t I) ∧ Below w.heap.size w wr) (fun _ kk _ => (intOf kk + 1).toNat)
    case atStart => exact ⟨I, 0, by omega, rfl, rfl, hidden (by omega), hb⟩
    case round =>
      clear hb
      obtain ⟨j, N, hj, rfl, rfl, HD, hb⟩ := hrel
      rcases upN_cases t j j with hu | ⟨k, hu⟩
      · have hd := depth_none hu
        rw [hu]
        have HE : Hid (depth t I = N) := hidden (by have := HD.out; omega)
        go_wp2
        go_ret
        exact ⟨by rw [HE.out]; rfl, hb⟩
      · have hd := depth_some hu
        have hlt := upN_lt j hu
        rw [hu]
        have HE : Hid ((N + 1) + depth t k = depth t I) := hidden (by have := HD.out; omega)
        have hcases := upN_cases t k k
        have hkk : ∀ m : Nat, upN t k k = (m : Int) → m < k := fun m h => upN_lt k h
        clear hd HD hu
        generalize hq : upN t k k = q at *
        have hq2 : -1 ≤ q ∧ q < k := by
          rcases hcases with h | ⟨m, h⟩
          · omega
          · have := hkk m h; omega
        clear hkk hcases
        have HK := HU.out
        go_wp2_with fail
        refine (HU.out _ hb k (by omega)).mono ?_
        rintro r2 w4 ⟨rfl, hb4⟩
        replace hb := hb.trans (hb4.mono hb.size)
        rw [hq]
        go_wp2
        go_roundw
        case rel => exact ⟨k, N + 1, by omega, by go_num, by rw [hq], HE, hb⟩
        case measure => simp [intOf]; omega
end Go.Proofs.Ytihblifkbljgaaa
