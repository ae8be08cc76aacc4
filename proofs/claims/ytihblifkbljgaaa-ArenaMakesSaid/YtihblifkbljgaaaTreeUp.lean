/-
  Up, of the document.
-/
import Derived.Test.YtihblifkbljgaaaTreeLeaves2
namespace Go.Proofs.Ytihblifkbljgaaa
open Go.RowKit Go.Shelf

/-- The last place ahead of k whose stretch goes past i. -/
def upN (t : List Node) (i : Nat) : Nat → Int
  | 0 => -1
  | k + 1 => if i < k + sz t k then (k : Int) else upN t i k
noncomputable def upOf (t : List Node) (i : Int) : Int := if placeB t i then upN t i.toNat i.toNat else -1

theorem placeB_iff {t : List Node} {i : Int} : placeB t i = true ↔ 0 ≤ i ∧ i < t.length ∧ Tree t := by
  unfold placeB
  rw [Bool.and_eq_true, Bool.and_eq_true, treeB_iff, decide_eq_true_iff, decide_eq_true_iff, and_assoc]
theorem tree_node {t : List Node} (h : Tree t) {k : Nat} (hk : k < t.length) : 1 ≤ sz t k ∧ k + sz t k ≤ t.length ∧ t[k].size = (sz t k : Int) := by
  have h0 := tree_sz0 h
  obtain ⟨⟨⟨x, hx, hl⟩, _⟩, hle⟩ := h.good.2.2 k (Nat.zero_le _) (by omega)
  have e : t[k] = x := by rw [List.getElem?_eq_getElem hk] at hx; exact Option.some.inj hx
  have := sz_of hx
  have := hl.2.2.1
  rw [e]
  exact ⟨by omega, by omega, by omega⟩
/-- What is read as the size of a node of a tree. -/
theorem Nds.size_cell {w : World} {T : Nat → Prop} {b off c : Nat} {t : List Node} (hN : Nds w T (.slice (some ⟨b, off, none⟩) t.length c) t) (ht : Tree t) {k : Nat} (hk : k < t.length) : w.cell? ⟨b, off + k * 5 + 2, none⟩ = some (.int .i64 (sz t k)) := by
  obtain ⟨b', off', c', hv, _, _, _, hat⟩ := hN.open_ (by intro e; subst e; simp at hk)
  simp only [Value.slice.injEq, Option.some.injEq, Addr.mk.injEq] at hv
  obtain ⟨⟨rfl, rfl, _⟩, _, rfl⟩ := hv
  obtain ⟨l, x0, x1, x2, _⟩ := hat k _ (List.getElem?_eq_getElem hk)
  rw [x2, (tree_node ht hk).2.2]

set_option maxRecDepth 20000 in
set_option maxHeartbeats 4000000 in
theorem ref_up (v : Value) (t : List Node) (i : Int) (w : World) (h4 : t.length ≤ 140737488355) (hN : Nds w (Old w) v t) :
    Calls Try.prog 28 #[v, .int .i64 i] w fun r w' => r = .returned (.int .i64 (upOf t i)) ∧ Below w.heap.size w w' := by
  have HR := hidden (ref_place v t i w h4 hN)
  have HN := hidden hN
  unfold upOf
  cases hp : placeB t i with
  | false =>
    obtain ⟨A, c, rfl, hc1, hc2⟩ := hN.value
    unfold maxLen at hc2
    clear hN HN
    rw [hp] at HR
    clear hp
    go_enter Try.func28, Try.ntmps28
    go_wp2_with fail
    refine (HR.out).mono ?_
    rintro r2 w2 ⟨rfl, hb2⟩
    go_wp2
    go_ret
    exact ⟨rfl, hb2⟩
  | true =>
    rw [hp] at HR
    obtain ⟨p1, p2, p3⟩ := placeB_iff.1 hp
    obtain ⟨I, rfl⟩ := Int.eq_ofNat_of_zero_le p1
    obtain ⟨b, off, c, rfl, hc1, hc2, _, _⟩ := hN.open_ (by intro e; subst e; simp at p2; omega)
    unfold maxLen at hc2
    have HT := hidden p3
    have p2 : I < t.length := by omega
    simp only [Int.toNat_natCast, if_true]
    clear hN p3 hp p1
    go_enter Try.func28, Try.ntmps28
    go_wp2_with fail
    refine (HR.out).mono ?_
    rintro r2 w2 ⟨rfl, hb2⟩
    clear HR
    have HN2 := hidden (HN.out.old hb2)
    go_wp2
    go_loopw [5] (fun kk wr => ∃ j : Nat, j ≤ I ∧ kk = .int .i64 ((j : Int) - 1) ∧ w2 = wr ∧ Hid (upN t I I = upN t I j)) (fun kk _ => (intOf kk + 1).toNat)
    case atStart => exact ⟨I, Nat.le_refl _, rfl, rfl, hidden rfl⟩
    case round =>
      obtain ⟨j, hj, rfl, rfl, HU⟩ := hrel
      cases j with
      | zero =>
        go_wp2
        go_ret
        exact ⟨by rw [HU.out]; rfl, hb2⟩
      | succ k =>
        have y2 := HN2.out.size_cell HT.out (show k < t.length by omega)
        have hs := tree_node HT.out (show k < t.length by omega)
        obtain ⟨s1, s2, _⟩ := hs
        have HV : Hid (upN t I (k + 1) = if I < k + sz t k then (k : Int) else upN t I k) := hidden rfl
        generalize sz t k = z at *
        have e1 : ((k + 1 : Nat) : Int) - 1 = (k : Int) := by omega
        rw [e1]
        by_cases hlt : I < k + z
        · go_wp2
          go_ret
          exact ⟨by rw [HU.out, HV.out, if_pos hlt]; rfl, hb2⟩
        · have HW : Hid (upN t I I = upN t I k) := hidden (by rw [HU.out, HV.out, if_neg hlt])
          go_wp2
          go_roundw
          case rel => exact ⟨k, by omega, by go_num, by trivial, HW⟩
          case measure => simp [intOf]
end Go.Proofs.Ytihblifkbljgaaa
