/-
  What must come (facsimilelaw28.knows).
-/
import Derived.Test.YtihblifkbljgaaaYieldRef2
import Derived.Test.YtihblifkbljgaaaTreeRefOne
import Derived.Test.YtihblifkbljgaaaTreeKnows
namespace Go.Proofs.Ytihblifkbljgaaa
open Go.RowKit Go.Shelf

def twoT : List Node := [⟨2, 0, 3, [], ⟨#[]⟩⟩, ⟨3, 0, 1, [], ⟨#[97]⟩⟩, ⟨3, 0, 1, [⟨0, ⟨#[32]⟩⟩], ⟨#[98]⟩⟩]
theorem twoT_one : oneOf ⟨2, 0, 0, [], ⟨#[]⟩⟩ [[⟨3, 0, 1, [], ⟨#[97]⟩⟩], [⟨3, 0, 1, [⟨0, ⟨#[32]⟩⟩], ⟨#[98]⟩⟩]] = twoT := rfl
theorem twoT_sz : sz twoT 0 = 3 ∧ sz twoT 1 = 1 ∧ sz twoT 2 = 1 := ⟨rfl, rfl, rfl⟩
theorem twoT_tree : Tree twoT := by
  obtain ⟨s0, s1, s2⟩ := twoT_sz
  refine ⟨⟨_, rfl, rfl⟩, by omega, by rw [s0]; exact Nat.le_refl 3, fun m _ hm => ?_⟩
  rw [s0] at hm ⊢
  have hl : ∀ (p : List Piece) (s : ByteArray), Local ⟨3, 0, 1, p, s⟩ := fun p s => by
    unfold Local openK textedK
    dsimp only
    refine ⟨by omega, by omega, by omega, fun _ => rfl, fun h => absurd (.inl rfl) h⟩
  obtain rfl | rfl | rfl : m = 0 ∨ m = 1 ∨ m = 2 := by omega
  · refine ⟨⟨⟨_, rfl, ?_⟩, fun k h1 h2 => ?_⟩, by omega⟩
    · unfold Local openK
      dsimp only
      exact ⟨by omega, by omega, by omega, fun h => absurd (.inr rfl) h, fun _ => ⟨rfl, rfl⟩⟩
    · rw [s0] at h2 ⊢
      obtain rfl | rfl : k = 1 ∨ k = 2 := by omega
      · omega
      · omega
  · exact ⟨⟨⟨_, rfl, hl _ _⟩, fun k h1 h2 => by rw [s1] at h2; omega⟩, by omega⟩
  · exact ⟨⟨⟨_, rfl, hl _ _⟩, fun k h1 h2 => by rw [s2] at h2; omega⟩, by omega⟩
theorem twoT_leaves : leavesOf twoT = [1, 2] := by
  unfold leavesOf leavesTo
  rw [if_pos (treeB_iff.2 twoT_tree)]
  rfl
theorem twoT_nodes : nodeY twoT 0 = 1 ∧ nodeY twoT 1 = 2 := by unfold nodeY; rw [twoT_leaves]; exact ⟨rfl, rfl⟩
theorem twoT_from : fromY twoT (leavesOf twoT) 0 = 0 ∧ fromY twoT (leavesOf twoT) 1 = 1 ∧ fromY twoT (leavesOf twoT) 2 = 3 := by rw [twoT_leaves]; exact ⟨rfl, rfl, rfl⟩
theorem twoT_range : List.range (leavesOf twoT).length = [0, 1] := by rw [twoT_leaves]; rfl
theorem twoT_place : placeB twoT ((2 : Nat) : Int) = true := placeB_iff.2 ⟨by decide, by decide, twoT_tree⟩
theorem twoT_span : spanOf twoT ((2 : Nat) : Int) = (2, 3, true) := by
  obtain ⟨n0, n1⟩ := twoT_nodes
  obtain ⟨f0, f1, f2⟩ := twoT_from
  have o1 : ownY twoT 1 = 2 := by unfold ownY; rw [f1, n1]; rfl
  unfold spanOf
  rw [twoT_place, twoT_range, if_pos rfl]
  have hz : sz twoT ((2 : Nat) : Int).toNat = 1 := rfl
  have e : spanP twoT ((2 : Nat) : Int).toNat (sz twoT ((2 : Nat) : Int).toNat) [0, 1] = (2, 3, true) := by
    rw [hz]
    show stepP twoT 2 1 (stepP twoT 2 1 (0, 0, false) 0) 1 = _
    unfold stepP
    rw [n0, n1, f1, f2, o1]
    rfl
  rw [e]
theorem twoT_find : findOf twoT 1 = 2 := by
  obtain ⟨n0, n1⟩ := twoT_nodes
  obtain ⟨f0, f1, f2⟩ := twoT_from
  unfold findOf
  rw [twoT_range]
  have h0 : ¬ hitY twoT 1 0 := by unfold hitY; rw [f0, f1]; decide
  have h1 : hitY twoT 1 1 := by unfold hitY; rw [f1, f2]; decide
  unfold findY
  rw [if_neg h0]
  unfold findY
  rw [if_pos h1, n1]
  rfl
theorem twoT_text : catB (textOf twoT) = ⟨#[97, 32, 98]⟩ := by
  obtain ⟨n0, n1⟩ := twoT_nodes
  unfold textOf
  rw [twoT_range]
  unfold textL
  simp only [List.flatMap_cons, List.flatMap_nil]
  rw [n0, n1]
  rfl

abbrev tw1 (w : World) : World := w.alloc (.cells #[.int .i64 3, .int .i64 0, .int .i64 1, .slice none 0 0, .string ⟨#[97]⟩] 29)
abbrev tw2 (w : World) : World := (tw1 w).alloc (.cells #[.int .i64 0, .string ⟨#[32]⟩] 59)
abbrev tw3 (w : World) : World := (tw2 w).alloc (.cells #[.int .i64 3, .int .i64 0, .int .i64 1, .slice (some ⟨w.heap.size + 1, 0, none⟩) 1 1, .string ⟨#[98]⟩] 29)
abbrev tw4 (w : World) : World := (tw3 w).alloc (.cells #[.slice (some ⟨w.heap.size, 0, none⟩) 1 1, .slice (some ⟨w.heap.size + 1 + 1, 0, none⟩) 1 1] 22)
theorem two_parts (w : World) : Parts (tw4 w) (fun k => k < (tw4 w).heap.size) (.slice (some ⟨w.heap.size + 1 + 1 + 1, 0, none⟩) 2 2) [[⟨3, 0, 1, [], ⟨#[97]⟩⟩], [⟨3, 0, 1, [⟨0, ⟨#[32]⟩⟩], ⟨#[98]⟩⟩]] := by
  refine ⟨[.slice (some ⟨w.heap.size, 0, none⟩) 1 1, .slice (some ⟨w.heap.size + 1 + 1, 0, none⟩) 1 1], rfl, ?_, fun i t u a b => ?_⟩
  · exact Rd.fresh (cs := [.slice (some ⟨w.heap.size, 0, none⟩) 1 1, .slice (some ⟨w.heap.size + 1 + 1, 0, none⟩) 1 1]) (n := 2) (size := 1) rfl (Nat.le_refl _) (by decide) (by simp) (by simp)
  · obtain rfl | rfl | h : i = 0 ∨ i = 1 ∨ 2 ≤ i := by omega
    · simp at a b; subst a b
      exact ((((leaf_nds w ⟨#[97]⟩ _ rfl).alloc _).alloc _).alloc _).mono (fun k hk => by subst hk; simp; omega)
    · simp at a b; subst a b
      refine Nds.alloc (w := tw3 w) ?_ _
      refine ⟨[.slice (some ⟨w.heap.size + 1, 0, none⟩) 1 1], rfl, ?_, fun i y l a b => ?_⟩
      · exact Rd.fresh (w := tw2 w) (cs := [.int .i64 3, .int .i64 0, .int .i64 1, .slice (some ⟨w.heap.size + 1, 0, none⟩) 1 1, .string ⟨#[98]⟩]) (n := 1) (size := 5) rfl (Nat.le_refl _) (by decide) (by simp) (by simp)
      · cases i with
        | zero =>
          simp at a b; subst a b
          refine Rd.alloc ?_ _
          exact Rd.fresh (w := tw1 w) (cs := [.int .i64 0, .string ⟨#[32]⟩]) (n := 1) (size := 2) rfl (Nat.le_refl _) (by decide) (by simp) (by simp)
        | succ i => simp at a
    · rw [List.getElem?_eq_none (by simpa using h)] at a; cases a

set_option maxRecDepth 20000 in
set_option maxHeartbeats 4000000 in
theorem two_law (w : World) : Calls Try.prog 61 #[] w fun r w' => (∃ u, r = .returned u ∧ Hid (Nds w' (Old w') u twoT)) ∧ Below w.heap.size w w' := by
  have hb : Below w.heap.size w (tw4 w) := (by repeat (first | (with_reducible exact Below.refl _ _) | (with_reducible assumption) | (with_reducible refine Below.drew ?_) | ((with_reducible refine below_alloc ?_ ?_); (focus (first | omega | (simp; done) | (simp; omega)))) | ((with_reducible refine below_set ?_ ?_); (focus (first | omega | (simp; done) | (simp; omega))))))
  have HO := hidden (ref_one ⟨2, 0, 0, [], ⟨#[]⟩⟩ (.slice none 0 0) (.slice (some ⟨w.heap.size + 1 + 1 + 1, 0, none⟩) 2 2) _ (tw4 w) (by decide) (by decide) (two_parts w) (Rd.nil _ _ _))
  rw [twoT_one] at HO
  go_enter Try.func61, Try.ntmps61
  go_wp2_with fail
  refine HO.out.mono ?_
  rintro r w2 ⟨⟨u, rfl, HU⟩, hb2⟩
  have HN := hidden (HU.out.nds (fun k (hk : k < (tw4 w).heap.size) => Nat.lt_of_lt_of_le hk hb2.size))
  have hb3 := hb.trans (hb2.mono hb.size)
  clear HO HU hb2 hb
  go_wp2
  go_ret
  exact ⟨⟨_, rfl, HN⟩, hb3⟩

set_option maxRecDepth 20000 in
set_option maxHeartbeats 4000000 in
theorem knows28 (w : World) : Calls Try.prog 21 #[] w fun r w' => r = .returned (.bool true) ∧ Below w.heap.size w w' := by
  have hbk : bulkT twoT ≤ 1048576 := by decide
  have HS := hidden (fun v W (h : Nds W (Old W) v twoT) => yield_span_yes v twoT 2 W (by omega) h twoT_place)
  have HF := hidden (fun v W (h : Nds W (Old W) v twoT) => yield_find v twoT 1 W (by omega) h)
  have HT := hidden (fun v W (h : Nds W (Old W) v twoT) => yield_text v twoT W hbk h)
  rw [twoT_span] at HS
  rw [twoT_find] at HF
  rw [show (⟨(textOf twoT).toArray⟩ : ByteArray) = ⟨#[97, 32, 98]⟩ from twoT_text] at HT
  clear hbk
  go_enter Try.func21, Try.ntmps21
  go_wp2_with fail
  refine (two_law _).mono ?_
  rintro r w1 ⟨⟨u1, rfl, H1⟩, hb⟩
  obtain ⟨A1, c1, rfl, _⟩ := H1.out.value
  go_wp2_with fail
  refine (HS.out _ _ H1.out).mono ?_
  rintro r w2 ⟨rfl, hb2⟩
  replace hb := hb.trans (hb2.mono hb.size)
  have hbz := hb.size
  clear hb2 H1 HS
  go_wp2_with fail
  refine (two_law _).mono ?_
  rintro r w3 ⟨⟨u3, rfl, H3⟩, hb3⟩
  obtain ⟨A3, c3, rfl, _⟩ := H3.out.value
  have k0 := (old_cells hb3).1 w2.heap.size 0 (by simp)
  have k1 := (old_cells hb3).1 w2.heap.size 1 (by simp)
  have e0 : w3.cell? ⟨w2.heap.size, 0, none⟩ = some (.int .i64 2) := k0.trans (by go_simp)
  have e1 : w3.cell? ⟨w2.heap.size, 1, none⟩ = some (.int .i64 3) := k1.trans (by go_simp)
  have hl := hb3.size
  simp at hl
  replace hb := (below_alloc (o := .cells #[.int .i64 2, .int .i64 3] 37) hbz hb).trans (hb3.mono (by simp; omega))
  have hbz3 := hb.size
  clear hb3 k0 k1
  go_wp2_with fail
  refine (HT.out _ _ H3.out).mono ?_
  rintro r w4 ⟨rfl, hb4⟩
  have m0 := ((old_cells hb4).1 w2.heap.size 0 (by omega)).trans e0
  have m1 := ((old_cells hb4).1 w2.heap.size 1 (by omega)).trans e1
  replace hb := hb.trans (hb4.mono hbz3)
  have hbz4 := hb.size
  clear hb4 H3 HT e0 e1
  go_wp2_with fail
  refine (two_law _).mono ?_
  rintro r w5 ⟨⟨u5, rfl, H5⟩, hb5⟩
  obtain ⟨A5, c5, rfl, _⟩ := H5.out.value
  replace hb := hb.trans (hb5.mono hbz4)
  have hbz5 := hb.size
  clear hb5
  go_wp2_with fail
  refine (HF.out _ _ H5.out).mono ?_
  rintro r w6 ⟨rfl, hb6⟩
  replace hb := hb.trans (hb6.mono hbz5)
  clear hb6 H5 HF
  go_wp2
  go_ret
  exact ⟨rfl, hb⟩
end Go.Proofs.Ytihblifkbljgaaa
