/-
  law27.knows: the chapter's example.
-/
import Derived.Test.YtihblifkbljgaaaTreeSame11
namespace Go.Proofs.Ytihblifkbljgaaa
open Go.RowKit Go.Shelf

def leafOf (s : ByteArray) : Node := ⟨3, 0, 1, [], s⟩
def exT (a b : ByteArray) : List Node := [⟨2, 0, 3, [], ⟨#[]⟩⟩, leafOf a, leafOf b]
theorem exT_one (a b : ByteArray) : oneOf ⟨2, 0, 0, [], ⟨#[]⟩⟩ [[leafOf a], [leafOf b]] = exT a b := rfl
theorem exT_sz (a b : ByteArray) : sz (exT a b) 0 = 3 ∧ sz (exT a b) 1 = 1 ∧ sz (exT a b) 2 = 1 := ⟨rfl, rfl, rfl⟩
theorem exT_tree (a b : ByteArray) : Tree (exT a b) := by
  obtain ⟨s0, s1, s2⟩ := exT_sz a b
  refine ⟨⟨_, rfl, rfl⟩, by omega, by rw [s0]; exact Nat.le_refl 3, fun m _ hm => ?_⟩
  rw [s0] at hm ⊢
  have hl : ∀ s : ByteArray, Local (leafOf s) := fun s => by
    unfold Local leafOf openK textedK
    dsimp only
    refine ⟨by omega, by omega, by omega, fun _ => rfl, fun h => absurd (.inl rfl) h⟩
  obtain rfl | rfl | rfl : m = 0 ∨ m = 1 ∨ m = 2 := by omega
  · refine ⟨⟨⟨_, rfl, ?_⟩, fun k h1 h2 => ?_⟩, by omega⟩
    · unfold Local openK
      dsimp only
      exact ⟨by omega, by omega, by omega, fun h => absurd (.inr rfl) h, fun _ => ⟨rfl, rfl⟩⟩
    · rw [s0] at h2 ⊢
      obtain rfl | rfl : k = 1 ∨ k = 2 := by omega
      · omega
      · omega
  · exact ⟨⟨⟨_, rfl, hl a⟩, fun k h1 h2 => by rw [s1] at h2; omega⟩, by omega⟩
  · exact ⟨⟨⟨_, rfl, hl b⟩, fun k h1 h2 => by rw [s2] at h2; omega⟩, by omega⟩
theorem exT_treeB (a b : ByteArray) : treeB (exT a b) = true := treeB_iff.2 (exT_tree a b)
theorem exT_place (a b : ByteArray) (i : Int) (h0 : 0 ≤ i) (h : i < 3) : placeB (exT a b) i = true := placeB_iff.2 ⟨h0, h, exT_tree a b⟩
theorem exT_kids (a b : ByteArray) : kidsOf (exT a b) 0 = [1, 2] := by
  obtain ⟨s0, s1, s2⟩ := exT_sz a b
  unfold kidsOf
  rw [exT_place a b 0 (by omega) (by omega)]
  simp only [if_true, Int.toNat_zero]
  unfold kidsL
  rw [s0]
  rw [kidsFrom_lt (t := exT a b) (e := 0 + 3) (k := 0 + 1) (by decide) (by rw [show sz (exT a b) (0 + 1) = 1 from s1]; decide), show sz (exT a b) (0 + 1) = 1 from s1,
    kidsFrom_lt (t := exT a b) (e := 0 + 3) (k := 0 + 1 + 1) (by decide) (by rw [show sz (exT a b) (0 + 1 + 1) = 1 from s2]; decide), show sz (exT a b) (0 + 1 + 1) = 1 from s2, kidsFrom_ge (by decide)]
theorem exT_up (a b : ByteArray) : upOf (exT a b) 2 = 0 ∧ upOf (exT a b) 0 = -1 := by
  obtain ⟨s0, s1, s2⟩ := exT_sz a b
  unfold upOf
  rw [exT_place a b 0 (by omega) (by omega), exT_place a b 2 (by omega) (by omega)]
  simp only [if_true]
  refine ⟨?_, rfl⟩
  show upN (exT a b) 2 2 = 0
  unfold upN
  rw [s1, if_neg (show ¬ 2 < 1 + 1 by decide)]
  unfold upN
  rw [s0, if_pos (show 2 < 0 + 3 by decide)]
  rfl

theorem leaf_law (s : ByteArray) (w : World) : Calls Try.prog 53 #[.string s] w fun r w' => r = .returned (.slice (some ⟨w.heap.size, 0, none⟩) 1 1) ∧
    w.alloc (.cells #[.int .i64 3, .int .i64 0, .int .i64 1, .slice none 0 0, .string s] 29) = w' := by
  go_enter Try.func53, Try.ntmps53
  go_wp2
  go_ret
  exact ⟨rfl, rfl⟩

theorem leaf_nds (W : World) (s : ByteArray) (o : Nat) (ho : o = W.heap.size) : Nds (W.alloc (.cells #[.int .i64 3, .int .i64 0, .int .i64 1, .slice none 0 0, .string s] 29)) (fun k => k = o) (.slice (some ⟨o, 0, none⟩) 1 1) [leafOf s] := by
  subst ho
  refine ⟨[.slice none 0 0], rfl, ?_, fun i y l a b => ?_⟩
  · exact Rd.fresh (cs := [.int .i64 3, .int .i64 0, .int .i64 1, .slice none 0 0, .string s]) (n := 1) (size := 5) rfl (Nat.le_refl _) (by decide) rfl rfl
  · cases i with
    | zero => simp at a b; subst a b; exact Rd.nil _ _ _
    | succ i => simp at a
theorem leaf_parts (w : World) : Parts (((w.alloc (.cells #[.int .i64 3, .int .i64 0, .int .i64 1, .slice none 0 0, .string ⟨#[97]⟩] 29)).alloc (.cells #[.int .i64 3, .int .i64 0, .int .i64 1, .slice none 0 0, .string ⟨#[98]⟩] 29)).alloc (.cells #[.slice (some ⟨w.heap.size, 0, none⟩) 1 1, .slice (some ⟨w.heap.size + 1, 0, none⟩) 1 1] 22)) (fun k => k < (((w.alloc (.cells #[.int .i64 3, .int .i64 0, .int .i64 1, .slice none 0 0, .string ⟨#[97]⟩] 29)).alloc (.cells #[.int .i64 3, .int .i64 0, .int .i64 1, .slice none 0 0, .string ⟨#[98]⟩] 29)).alloc (.cells #[.slice (some ⟨w.heap.size, 0, none⟩) 1 1, .slice (some ⟨w.heap.size + 1, 0, none⟩) 1 1] 22)).heap.size) (.slice (some ⟨w.heap.size + 1 + 1, 0, none⟩) 2 2) [[leafOf ⟨#[97]⟩], [leafOf ⟨#[98]⟩]] := by
  refine ⟨[.slice (some ⟨w.heap.size, 0, none⟩) 1 1, .slice (some ⟨w.heap.size + 1, 0, none⟩) 1 1], rfl, ?_, fun i t u a b => ?_⟩
  · exact Rd.fresh (cs := [.slice (some ⟨w.heap.size, 0, none⟩) 1 1, .slice (some ⟨w.heap.size + 1, 0, none⟩) 1 1]) (n := 2) (size := 1) rfl (Nat.le_refl _) (by decide) (by simp) (by simp)
  · obtain rfl | rfl | h : i = 0 ∨ i = 1 ∨ 2 ≤ i := by omega
    · simp at a b; subst a b
      exact (((leaf_nds w ⟨#[97]⟩ _ rfl).alloc _).alloc _).mono (fun k hk => by subst hk; simp; omega)
    · simp at a b; subst a b
      exact ((leaf_nds (w.alloc (.cells #[.int .i64 3, .int .i64 0, .int .i64 1, .slice none 0 0, .string ⟨#[97]⟩] 29)) ⟨#[98]⟩ (w.heap.size + 1) (by simp)).alloc _).mono (fun k hk => by subst hk; simp)
    · rw [List.getElem?_eq_none (by simpa using h)] at a; cases a

set_option maxRecDepth 20000 in
set_option maxHeartbeats 4000000 in
theorem knows27 (w : World) : Calls Try.prog 14 #[] w fun r w' => r = .returned (.bool true) ∧ Below w.heap.size w w' := by
  go_enter Try.func14, Try.ntmps14
  go_wp2_with (first | (go_at_call 53; refine (leaf_law _ _).mono ?_; rintro e w' ⟨rfl, rfl⟩) | fail)
  have hb : Below w.heap.size w (((w.alloc (.cells #[.int .i64 3, .int .i64 0, .int .i64 1, .slice none 0 0, .string ⟨#[97]⟩] 29)).alloc (.cells #[.int .i64 3, .int .i64 0, .int .i64 1, .slice none 0 0, .string ⟨#[98]⟩] 29)).alloc (.cells #[.slice (some ⟨w.heap.size, 0, none⟩) 1 1, .slice (some ⟨w.heap.size + 1, 0, none⟩) 1 1] 22)) := (by repeat (first | (with_reducible exact Below.refl _ _) | (with_reducible assumption) | (with_reducible refine Below.drew ?_) | ((with_reducible refine below_alloc ?_ ?_); (focus (first | omega | (simp; done) | (simp; omega)))) | ((with_reducible refine below_set ?_ ?_); (focus (first | omega | (simp; done) | (simp; omega))))))
  have HO := hidden (arena_one ⟨2, 0, 0, [], ⟨#[]⟩⟩ (.slice none 0 0) (.slice (some ⟨w.heap.size + 1 + 1, 0, none⟩) 2 2) _ (((w.alloc (.cells #[.int .i64 3, .int .i64 0, .int .i64 1, .slice none 0 0, .string ⟨#[97]⟩] 29)).alloc (.cells #[.int .i64 3, .int .i64 0, .int .i64 1, .slice none 0 0, .string ⟨#[98]⟩] 29)).alloc (.cells #[.slice (some ⟨w.heap.size, 0, none⟩) 1 1, .slice (some ⟨w.heap.size + 1, 0, none⟩) 1 1] 22)) (by decide) (by decide) (by
    intro t ht y hy
    simp at ht
    rcases ht with rfl | rfl <;> (simp at hy; subst hy; decide)) (by decide) (leaf_parts w) (Rd.nil _ _ _))
  rw [exT_one] at HO
  have hbz := hb.size
  generalize (((w.alloc (.cells #[.int .i64 3, .int .i64 0, .int .i64 1, .slice none 0 0, .string ⟨#[97]⟩] 29)).alloc (.cells #[.int .i64 3, .int .i64 0, .int .i64 1, .slice none 0 0, .string ⟨#[98]⟩] 29)).alloc (.cells #[.slice (some ⟨w.heap.size, 0, none⟩) 1 1, .slice (some ⟨w.heap.size + 1, 0, none⟩) 1 1] 22)) = W3 at *
  refine HO.out.mono ?_
  rintro r w4 ⟨⟨u, rfl, HU⟩, hb4⟩
  replace hb := hb.trans (hb4.mono hbz)
  clear HO hb4 hbz
  have hN := HU.out.nds
  generalize ht : exT ⟨#[97]⟩ ⟨#[98]⟩ = t at *
  obtain ⟨A, c, rfl, hc1, hc2⟩ := hN.value
  have hlen : t.length = 3 := by rw [← ht]; rfl
  have hT : Tree t := by rw [← ht]; exact exT_tree _ _
  have hs0 : sz t 0 = 3 := by rw [← ht]; rfl
  have htB : treeB t = true := treeB_iff.2 hT
  have hK : kidsOf t 0 = [1, 2] := by rw [← ht]; exact exT_kids _ _
  have hU := exT_up ⟨#[97]⟩ ⟨#[98]⟩
  rw [ht] at hU
  have hne : t ≠ [] := by intro e; rw [e] at hlen; cases hlen
  obtain ⟨b, off, c', hv, _, _, _, _⟩ := hN.open_ hne
  simp only [Value.slice.injEq] at hv
  obtain ⟨rfl, _, rfl⟩ := hv
  have x2 := hN.size_cell hT (show 0 < t.length by omega)
  rw [hs0] at x2
  simp only [Nat.zero_mul, Nat.add_zero] at x2
  unfold maxLen at hc2
  have HN := hidden (fun (w' : World) (hw : Below w4.heap.size w4 w') => hN.old hw)
  have h4 : t.length ≤ 140737488355 := by omega
  have HR := hidden (fun (w' : World) (hw : Below w4.heap.size w4 w') => arena_right _ t w' h4 (HN.out w' hw))
  have HK := hidden (fun (w' : World) (hw : Below w4.heap.size w4 w') => arena_Kids _ t 0 w' h4 (HN.out w' hw))
  have HU2 := hidden (fun (w' : World) (hw : Below w4.heap.size w4 w') => arena_up _ t 2 w' h4 (HN.out w' hw))
  have HU0 := hidden (fun (w' : World) (hw : Below w4.heap.size w4 w') => arena_up _ t 0 w' h4 (HN.out w' hw))
  rw [htB] at HR
  rw [hK] at HK
  rw [hU.1] at HU2
  rw [hU.2] at HU0
  rw [hlen] at *
  have hbz := hb.size
  clear hU hK htB hs0 hT ht HU hN hne HN h4 hlen
  go_wp2_with fail
  refine (HR.out w4 (Below.refl _ _)).mono ?_
  rintro r w5 ⟨rfl, hb5⟩
  clear HR
  go_wp2_with fail
  refine (HK.out w5 hb5).mono ?_
  rintro r w6 ⟨⟨u, rfl, HM⟩, hb6⟩
  replace hb6 := hb5.trans (hb6.mono hb5.size)
  clear HK hb5
  obtain ⟨A1, c1, rfl⟩ := HM.out.value
  go_wp2_with fail
  have hr1 := (HM.out.rd (T := Old w6) (fun g _ _ h => h)).alloc (.cells #[.int .i64 1, .int .i64 2] 3)
  have HSm := hidden (same_ints _ _ [1, 2] [1, 2] (w6.alloc (.cells #[.int .i64 1, .int .i64 2] 3)) (by decide) (hr1.mono (fun k hk => by have : k < w6.heap.size := hk; unfold Old; simp; omega))
    (Rd.fresh (cs := ints [1, 2]) (n := 2) (size := 1) (c := 2) (o := w6.heap.size) rfl (Nat.le_refl _) (by decide) (by unfold Old; simp) rfl))
  replace hb6 := hb6.alloc hb6.size (.cells #[.int .i64 1, .int .i64 2] 3)
  clear hr1 HM
  refine (HSm.out).mono ?_
  rintro r w7 ⟨rfl, hb7⟩
  replace hb6 := hb6.trans (hb7.mono hb6.size)
  clear HSm hb7
  go_wp2_with fail
  refine (HU2.out w7 hb6).mono ?_
  rintro r w8 ⟨rfl, hb8⟩
  replace hb6 := hb6.trans (hb8.mono hb6.size)
  clear HU2 hb8
  go_wp2_with fail
  refine (HU0.out w8 hb6).mono ?_
  rintro r w9 ⟨rfl, hb9⟩
  replace hb6 := hb6.trans (hb9.mono hb6.size)
  go_wp2
  go_ret
  exact ⟨rfl, hb.trans (hb6.mono hbz)⟩
end Go.Proofs.Ytihblifkbljgaaa
