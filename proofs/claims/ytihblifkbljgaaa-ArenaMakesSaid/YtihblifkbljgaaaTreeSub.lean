/-
  A part of nodes, as a slice of the slice.
-/
import Derived.Test.YtihblifkbljgaaaTreeKnows
namespace Go.Proofs.Ytihblifkbljgaaa
open Go.RowKit Go.Shelf

theorem Nds.part {w : World} {T : Nat → Prop} {b off c c' : Nat} {t : List Node} (h : Nds w T (.slice (some ⟨b, off, none⟩) t.length c) t) (i n : Nat) (hin : i + n ≤ t.length) (hc1 : n ≤ c') (hc2 : c' ≤ maxLen) (h0 : t ≠ []) :
    Nds w T (.slice (some ⟨b, off + i * 5, none⟩) n c') ((t.drop i).take n) := by
  obtain ⟨ls, h1, ⟨hl, A, c2, hv, _, _, h4⟩, h5⟩ := h
  simp only [Value.slice.injEq] at hv
  obtain ⟨rfl, _, rfl⟩ := hv
  have hp : 0 < t.length := List.length_pos_iff.2 h0
  obtain ⟨b', off', e, hT, hc⟩ := h4 (by rw [hl]; omega)
  simp only [Option.some.injEq, Addr.mk.injEq] at e
  obtain ⟨rfl, rfl, _⟩ := e
  have hlen : ((t.drop i).take n).length = n := by simp; omega
  have hlen2 : ((ls.drop i).take n).length = n := by simp; omega
  have hcells : allCells ((t.drop i).take n) ((ls.drop i).take n) = ((allCells t ls).drop (i * 5)).take (n * 5) := by
    apply List.ext_getElem?
    intro m
    have hal := allCells_len ((t.drop i).take n) ((ls.drop i).take n) (by omega)
    have hal2 := allCells_len t ls h1
    by_cases hm : m < n * 5
    · obtain ⟨k, j, hj, rfl⟩ : ∃ k j, j < 5 ∧ m = k * 5 + j := ⟨m / 5, m % 5, Nat.mod_lt _ (by decide), by omega⟩
      have hk : k < n := by omega
      have hat : ∀ (t : List Node) (ls : List Value) (i : Nat) (x : Node) (l : Value), t[i]? = some x → ls[i]? = some l → (allCells t ls)[i * 5 + j]? = (ndCells x l)[j]? := by
        intro t ls i x l hx hl
        exact flat_at (fun x : Node × Value => ndCells x.1 x.2) 5 (fun _ => rfl) (t.zip ls) i j (x, l) (by rw [List.getElem?_zip_eq_some]; exact ⟨hx, hl⟩) hj
      have hx := List.getElem?_eq_getElem (show i + k < t.length by omega)
      have hy := List.getElem?_eq_getElem (show i + k < ls.length by omega)
      rw [hat _ _ k _ _ (by rw [List.getElem?_take_of_lt hk, List.getElem?_drop]; exact hx) (by rw [List.getElem?_take_of_lt hk, List.getElem?_drop]; exact hy)]
      rw [List.getElem?_take_of_lt hm, List.getElem?_drop, show i * 5 + (k * 5 + j) = (i + k) * 5 + j by omega, hat _ _ _ _ _ hx hy]
    · rw [List.getElem?_eq_none (by omega), List.getElem?_eq_none (by simp; omega)]
  refine ⟨(ls.drop i).take n, by omega, ?_, fun k x l hx hl => ?_⟩
  · rw [hcells, hlen]
    refine ⟨by simp; omega, _, c', rfl, hc1, hc2, fun _ => ⟨b, _, rfl, hT, fun j u hu => ?_⟩⟩
    have hj : j < n * 5 := by
      have := (List.getElem?_eq_some_iff.1 hu).1
      simp at this; omega
    rw [List.getElem?_take_of_lt hj, List.getElem?_drop] at hu
    have := hc _ u hu
    rwa [show off + i * 5 + j = off + (i * 5 + j) by omega]
  · have hk : k < n := by
      have := (List.getElem?_eq_some_iff.1 hx).1
      omega
    rw [List.getElem?_take_of_lt hk, List.getElem?_drop] at hx hl
    exact h5 _ x l hx hl

noncomputable def subOf (t : List Node) (i : Int) : List Node := if placeB t i then (t.drop i.toNat).take (sz t i.toNat) else []

set_option maxRecDepth 20000 in
set_option maxHeartbeats 4000000 in
theorem ref_sub (v : Value) (t : List Node) (i : Int) (w : World) (h4 : t.length ≤ 140737488355) (hN : Nds w (Old w) v t) :
    Calls Try.prog 30 #[v, .int .i64 i] w fun r w' => (∃ u, r = .returned u ∧ Hid (Nds w' (Old w') u (subOf t i))) ∧ Below w.heap.size w w' := by
  have HN := hidden hN
  have HR := hidden (ref_place v t i w h4 hN)
  unfold subOf
  cases hp : placeB t i with
  | false =>
    obtain ⟨A, c, rfl, hc1, hc2⟩ := hN.value
    unfold maxLen at hc2
    clear hN HN
    rw [hp] at HR
    clear hp
    go_enter Try.func30, Try.ntmps30
    go_wp2_with fail
    refine (HR.out).mono ?_
    rintro r2 w2 ⟨rfl, hb⟩
    go_wp2
    go_ret
    exact ⟨⟨_, rfl, hidden ⟨[], rfl, ⟨rfl, _, 0, rfl, Nat.le_refl _, by decide, fun h => absurd h (Nat.lt_irrefl 0)⟩, fun i x l h => by simp at h⟩⟩, hb.alloc hb.size _⟩
  | true =>
    rw [hp] at HR
    obtain ⟨p1, p2, p3⟩ := placeB_iff.1 hp
    obtain ⟨I, rfl⟩ := Int.eq_ofNat_of_zero_le p1
    have hne : t ≠ [] := by intro e; subst e; simp at p2; omega
    obtain ⟨b, off, c, rfl, hc1, hc2, _, _⟩ := hN.open_ hne
    have HT := hidden p3
    have p2 : I < t.length := by omega
    simp only [Int.toNat_natCast, if_true]
    obtain ⟨s1, s2, _⟩ := tree_node p3 p2
    have HP := hidden (fun (w' : World) (hw : Below w.heap.size w w') => (HN.out.old hw).part I (sz t I) s2 (c' := c - I) (by omega) (by omega) hne)
    have HC := hidden (fun (w' : World) (hw : Below w.heap.size w w') => (HN.out.old hw).size_cell HT.out p2)
    unfold maxLen at hc2
    clear hN p3 hp p1 HN
    generalize sz t I = S at *
    go_enter Try.func30, Try.ntmps30
    go_wp2_with fail
    refine (HR.out).mono ?_
    rintro r2 w2 ⟨rfl, hb⟩
    have x2 := HC.out w2 hb
    have HP2 := hidden (HP.out w2 hb)
    clear HC HP HR
    go_wp2
    go_ret
    rw [show I + S - I = S by omega]
    exact ⟨⟨_, rfl, HP2⟩, hb⟩
end Go.Proofs.Ytihblifkbljgaaa
