/-
  arena.Sub.
-/
import Derived.Test.YtihblifkbljgaaaTreeSub
namespace Go.Proofs.Ytihblifkbljgaaa
open Go.RowKit Go.Shelf

set_option maxRecDepth 20000 in
set_option maxHeartbeats 4000000 in
theorem arena_sub (v : Value) (t : List Node) (i : Int) (w : World) (h4 : t.length ≤ 140737488355) (hF : Fit t) (hN : Nds w (Old w) v t) :
    Calls Try.prog 15 #[v, .int .i64 i] w fun r w' => (∃ u, r = .returned u ∧ Hid (Own w' w.heap.size u (subOf t i))) ∧ Below w.heap.size w w' := by
  have HN := hidden hN
  have HR := hidden (arena_place v t i w h4 hN)
  unfold subOf
  cases hp : placeB t i with
  | false =>
    obtain ⟨A, c, rfl, hc1, hc2⟩ := hN.value
    unfold maxLen at hc2
    clear hN HN
    rw [hp] at HR
    clear hp
    go_enter Try.func15, Try.ntmps15
    go_wp2_with fail
    refine (HR.out).mono ?_
    rintro r2 w2 ⟨rfl, hb⟩
    go_wp2
    go_ret
    exact ⟨⟨_, rfl, hidden (Own.nil _ _)⟩, hb⟩
  | true =>
    rw [hp] at HR
    obtain ⟨p1, p2, p3⟩ := placeB_iff.1 hp
    obtain ⟨I, rfl⟩ := Int.eq_ofNat_of_zero_le p1
    have hne : t ≠ [] := by intro e; subst e; simp at p2; omega
    obtain ⟨b, off, c, rfl, hc1, hc2, _, _⟩ := hN.open_ hne
    have HT := hidden p3
    have p2 : I < t.length := by omega
    simp only [Int.toNat_natCast, if_true]
    obtain ⟨s1, s2, _⟩ := tree_node p3 p2
    have hlen : ((t.drop I).take (sz t I)).length = sz t I := by simp; omega
    have HP := hidden (fun (w' : World) (hw : Below w.heap.size w w') => arena_owned _ _ w' (by omega) (fun x hx => hF x (List.mem_of_mem_drop (List.mem_of_mem_take hx))) ((HN.out.old hw).part I (sz t I) s2 (c' := sz t I) (by omega) (by omega) hne))
    have HC := hidden (fun (w' : World) (hw : Below w.heap.size w w') => (HN.out.old hw).size_cell HT.out p2)
    unfold maxLen at hc2
    clear hN p3 hp p1 HN hlen
    generalize sz t I = S at *
    go_enter Try.func15, Try.ntmps15
    go_wp2_with fail
    refine (HR.out).mono ?_
    rintro r2 w2 ⟨rfl, hb⟩
    have x2 := HC.out w2 hb
    have HP2 := HP.out w2 hb
    clear HC HP HR
    have e9 : I + S - I = S := by omega
    go_wp2_with fail
    rw [e9]
    refine HP2.mono ?_
    rintro r w3 ⟨⟨u, rfl, HO⟩, hb3⟩
    go_wp2
    go_ret
    exact ⟨⟨_, rfl, hidden (HO.out.base hb.size)⟩, hb.trans (hb3.mono hb.size)⟩
end Go.Proofs.Ytihblifkbljgaaa
