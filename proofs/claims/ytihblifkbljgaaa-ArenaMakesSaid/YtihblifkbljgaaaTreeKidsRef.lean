/-
  Kids, of the document.
-/
import Derived.Test.YtihblifkbljgaaaTreeStep
namespace Go.Proofs.Ytihblifkbljgaaa
open Go.RowKit Go.Shelf

noncomputable def kidsOf (t : List Node) (i : Int) : List Nat := if placeB t i then kidsL t i.toNat else []

set_option maxRecDepth 20000 in
set_option maxHeartbeats 4000000 in
theorem ref_kids (v : Value) (t : List Node) (i : Int) (w : World) (h4 : t.length ≤ 140737488355) (hN : Nds w (Old w) v t) :
    Calls Try.prog 45 #[v, .int .i64 i] w fun r w' => (∃ u, r = .returned u ∧ Hid (Mine w' w.heap.size 3 1 u (kidsOf t i).length (ints (kidsOf t i)))) ∧ Below w.heap.size w w' := by
  have HN := hidden hN
  have HR := hidden (fun (w' : World) (hw : Below w.heap.size w w') => ref_place v t i w' h4 (hN.old hw))
  unfold kidsOf
  have HI := int_info
  have hb := (Below.refl w.heap.size w).alloc (Nat.le_refl _) (.cells #[] 3)
  have HM0 : Hid (Mine (w.alloc (.cells #[] 3)) w.heap.size 3 1 (.slice (some ⟨w.heap.size, 0, none⟩) 0 0) 0 []) := hidden (.inr ⟨rfl, rfl, _, rfl⟩)
  cases hp : placeB t i with
  | false =>
    obtain ⟨A, c, rfl, hc1, hc2⟩ := hN.value
    unfold maxLen at hc2
    clear hN HN
    rw [hp] at HR
    clear hp
    go_enter Try.func45, Try.ntmps45
    go_wp2_with fail
    refine (HR.out _ hb).mono ?_
    rintro r2 w2 ⟨rfl, hb2⟩
    replace HM0 := hidden (HM0.out.below hb2)
    replace hb := hb.trans (hb2.mono hb.size)
    go_wp2
    go_ret
    exact ⟨⟨_, rfl, HM0⟩, hb⟩
  | true =>
    rw [hp] at HR
    obtain ⟨p1, p2, p3⟩ := placeB_iff.1 hp
    obtain ⟨I, rfl⟩ := Int.eq_ofNat_of_zero_le p1
    obtain ⟨b, off, c, rfl, hc1, hc2, _, _⟩ := hN.open_ (by intro e; subst e; simp at p2; omega)
    unfold maxLen at hc2
    have HT := hidden p3
    have p2 : I < t.length := by omega
    simp only [Int.toNat_natCast, if_true]
    clear hN p3 hp p1
    have hS := (tree_node HT.out p2).2.1
    have HK : Hid (∀ k, I < k → k < I + sz t I → k < t.length ∧ 1 ≤ sz t k ∧ k + sz t k ≤ I + sz t I) := hidden (fun k a b => tree_step HT.out p2 a b)
    have HC : Hid (∀ (w' : World), Below w.heap.size w w' → ∀ k, k < t.length → w'.cell? ⟨b, off + k * 5 + 2, none⟩ = some (.int .i64 (sz t k))) := hidden (fun w' hw k hk => (HN.out.old hw).size_cell HT.out hk)
    have HL0 : Hid (kidsL t I = [] ++ kidsFrom t (I + sz t I) (I + 1)) := hidden (by simp [kidsL])
    have hle0 : I + 1 ≤ I + sz t I := by have := (tree_node HT.out p2).1; omega
    go_enter Try.func45, Try.ntmps45
    go_wp2_with fail
    refine (HR.out _ hb).mono ?_
    rintro r2 w2 ⟨rfl, hb2⟩
    replace HM0 := hidden (HM0.out.below hb2)
    replace hb := hb.trans (hb2.mono hb.size)
    clear hb2 HR
    go_wp2
    go_loopw [5, 6] (fun l kk wr => ∃ (k : Nat) (pre : List Nat), I < k ∧ k ≤ I + sz t I ∧ kk = .int .i64 k ∧ pre.length ≤ k ∧ Hid (kidsL t I = pre ++ kidsFrom t (I + sz t I) k) ∧ Hid (Mine wr w.heap.size 3 1 l pre.length (ints pre)) ∧ Below w.heap.size w wr) (fun _ kk _ => I + sz t I - (intOf kk).toNat)
    case atStart => exact ⟨I + 1, [], by omega, hle0, by go_num, by simp, HL0, HM0, hb⟩
    case round =>
      clear hb HM0 HL0
      obtain ⟨k, pre, hk1, hk2, rfl, hpl, HL, HM, hb⟩ := hrel
      have hbz := hb.size
      have yi := HC.out _ hb I p2
      by_cases hlt : k < I + sz t I
      · obtain ⟨g1, g2, g3⟩ := HK.out k hk1 hlt
        have yk := HC.out _ hb k g1
        have HL2 : Hid (kidsL t I = (pre ++ [k]) ++ kidsFrom t (I + sz t I) (k + sz t k)) := hidden (by
          rw [HL.out, kidsFrom_lt hlt g2]; simp)
        have HYK := hidden (fun w' (hw : Below w.heap.size w w') => HC.out w' hw k g1)
        clear HL yk
        go_wp2_with (at_builtin; refine wpList_append_int rfl _ _ 30 3 3 rfl (by kernel_rfl) HI w.heap.size _ _ _ HM _ rfl rfl rfl (by first | rfl | simp) (by omega) hbz ?_; intro v' w' hA; have hbb := (hb.alloc hbz _).trans hA.out.below; have yk := HYK.out _ hbb)
        go_roundw
        case rel =>
          refine ⟨k + sz t k, pre ++ [k], by omega, by omega, by go_num, by simp; omega, HL2, ?_, (hb.alloc hbz _).trans hA.out.below⟩
          rw [ints_snoc, List.length_append]
          exact hidden hA.out.mine
        case measure => simp [intOf]; omega
      · have HL2 : Hid (kidsL t I = pre) := hidden (by rw [HL.out, kidsFrom_ge hlt]; simp)
        clear HL
        go_wp2
        go_ret
        exact ⟨⟨_, rfl, by rw [HL2.out]; exact HM⟩, hb⟩
end Go.Proofs.Ytihblifkbljgaaa
