/-
  The document's behind, of layer 23.
-/
import Derived.Test.YtmlggfapnkhcaaaFirstC
import Derived.Test.YtmlggfapnkhcaaaNullU
import Derived.Test.YtmlggfapnkhcaaaFollowR
namespace Go.Proofs.Ytmlggfapnkhcaaa
open Go.RowKit Go.Shelf
attribute [local simp] wide_fn

theorem flat_drop (l : List Item) (n : Nat) : (l.flatMap itCells).drop (n * 4) = (l.drop n).flatMap itCells := by
  induction n generalizing l with
  | zero => simp
  | succ n ih =>
    cases l with
    | nil => simp
    | cons x l =>
      rw [List.drop_succ_cons, ← ih, List.flatMap_cons, Nat.add_mul, List.drop_append, show (itCells x).length = 4 from rfl, List.drop_of_length_le (by rw [show (itCells x).length = 4 from rfl]; omega), List.nil_append]
      congr 1
set_option maxRecDepth 20000 in
set_option maxHeartbeats 8000000 in
theorem ref_behind (a b c l1 : Value) (g : Gram) (p : Prod) (k : Nat) (w : World) (HG : GramIs w (Old w) a b c g) (hsm : Small g) (hk : k < p.right.length) (hR : Rd w (Old w) 4 l1 p.right.length (p.right.flatMap itCells)) :
    Calls Try.prog 81 #[.agg (gramCells a b c g), .agg #[.int .i64 p.left, l1], .int .i64 k] w fun r w' => (∃ u, r = .returned (.tuple #[u, .bool (voidOf g (p.right.drop (k + 1)))]) ∧ Hid (IntsM w' w.heap.size u (firsts22 g (p.right.drop (k + 1))))) ∧ Below w.heap.size w w' := by
  have HOf := hidden (fun (w' : World) v (hb : Below w.heap.size w w') hr => ref_Of22 a b c v g (p.right.drop (k + 1)) w' (HG.old hb) hsm hr)
  have HVo := hidden (fun (w' : World) v (hb : Below w.heap.size w w') hr => ref_Void21 a b c v g (p.right.drop (k + 1)) w' (HG.old hb) hsm hr)
  obtain ⟨A4, k4, rfl, hk4, hm4⟩ := hR.val
  obtain ⟨b4, o4, rfl, _, _⟩ := Rd.flat_at hR (fun _ => rfl) (by decide) (List.getElem?_eq_getElem hk)
  obtain ⟨⟨A1, k1, rfl, v1, m1⟩, ⟨A2, k2, rfl, v2, m2⟩, ⟨A3, k3, rfl, v3, m3⟩⟩ := HG.vals
  unfold maxLen at hm4
  have hb1 : Below w.heap.size w ((w.alloc (.cells #[.slice A1 g.toks.length k1, .slice A2 g.rules.length k2, .slice A3 g.prods.length k3, .int .i64 g.start, .int .i64 g.states, .int .i64 g.text, .int .i64 g.nodes, .int .i64 g.pairs] 26)).alloc (.cells #[.int .i64 p.left, .slice (some ⟨b4, o4, none⟩) p.right.length k4] 45)) := (by repeat (first | (with_reducible exact Below.refl _ _) | (with_reducible assumption) | (with_reducible refine Below.drew ?_) | (with_reducible refine below_drewN ?_ _) | ((with_reducible refine below_alloc ?_ ?_); (focus (first | omega | (simp; done) | (simp; omega)))) | ((with_reducible refine below_set ?_ ?_); (focus (first | omega | (simp; done) | (simp; omega))))))
  have HG1 : Hid (Holds ((w.alloc (.cells #[.slice A1 g.toks.length k1, .slice A2 g.rules.length k2, .slice A3 g.prods.length k3, .int .i64 g.start, .int .i64 g.states, .int .i64 g.text, .int .i64 g.nodes, .int .i64 g.pairs] 26)).alloc (.cells #[.int .i64 p.left, .slice (some ⟨b4, o4, none⟩) p.right.length k4] 45)) w.heap.size 26 #[.slice A1 g.toks.length k1, .slice A2 g.rules.length k2, .slice A3 g.prods.length k3, .int .i64 g.start, .int .i64 g.states, .int .i64 g.text, .int .i64 g.nodes, .int .i64 g.pairs]) := hidden (by repeat (first | (with_reducible assumption) | ((with_reducible refine holds_new ?_); (focus (first | rfl | (simp; done)))) | (with_reducible refine Holds.alloc ?_ _) | (with_reducible refine Holds.drew ?_)))
  have hR1 := Rd.old hR hb1
  have hw : IntKind.i64.wrap ((k : Int) + 1) = (k : Int) + 1 := IntWalk.i64_in _ (by omega)
  obtain ⟨s0, s1, s2, s3, s4, s5, s6, s7⟩ := eight22 HG1.out
  clear HG hsm hR
  unfold gramCells at *
  by_cases hc : k4 = k + 1
  · subst hc
    have hd : p.right.drop (k + 1) = [] := List.drop_of_length_le (by omega)
    have HDr : Hid (Rd ((w.alloc (.cells #[.slice A1 g.toks.length k1, .slice A2 g.rules.length k2, .slice A3 g.prods.length k3, .int .i64 g.start, .int .i64 g.states, .int .i64 g.text, .int .i64 g.nodes, .int .i64 g.pairs] 26)).alloc (.cells #[.int .i64 p.left, .slice (some ⟨b4, o4, none⟩) p.right.length (k + 1)] 45)) (Old ((w.alloc (.cells #[.slice A1 g.toks.length k1, .slice A2 g.rules.length k2, .slice A3 g.prods.length k3, .int .i64 g.start, .int .i64 g.states, .int .i64 g.text, .int .i64 g.nodes, .int .i64 g.pairs] 26)).alloc (.cells #[.int .i64 p.left, .slice (some ⟨b4, o4, none⟩) p.right.length (k + 1)] 45))) 4 (.slice (some ⟨b4, o4, none⟩) 0 0) (p.right.drop (k + 1)).length ((p.right.drop (k + 1)).flatMap itCells)) := hidden (by
      rw [hd]; exact rd_none _)
    generalize firsts22 g (p.right.drop (k + 1)) = fs at *
    generalize voidOf g (p.right.drop (k + 1)) = vo at *
    generalize (p.right.drop (k + 1)).length = dl at *
    generalize (p.right.drop (k + 1)).flatMap itCells = dc at *
    go_enter Try.func81, Try.ntmps81
    go_upto_region 2 with fail
    obtain ⟨W2, hW2⟩ : ∃ W2 : World, W2 = ((w.alloc (.cells #[.slice A1 g.toks.length k1, .slice A2 g.rules.length k2, .slice A3 g.prods.length k3, .int .i64 g.start, .int .i64 g.states, .int .i64 g.text, .int .i64 g.nodes, .int .i64 g.pairs] 26)).alloc (.cells #[.int .i64 p.left, .slice (some ⟨b4, o4, none⟩) p.right.length (k + 1)] 45)) := ⟨_, rfl⟩
    simp only [← hW2] at *
    clear hW2
    go_wp2_with fail
    go_region_held3 (fun w' => w'.cell? ⟨w.heap.size, 0, none⟩ = some (.slice A1 g.toks.length k1) ∧ w'.cell? ⟨w.heap.size, 1, none⟩ = some (.slice A2 g.rules.length k2) ∧ w'.cell? ⟨w.heap.size, 2, none⟩ = some (.slice A3 g.prods.length k3) ∧ w'.cell? ⟨w.heap.size, 3, none⟩ = some (.int .i64 g.start) ∧ w'.cell? ⟨w.heap.size, 4, none⟩ = some (.int .i64 g.states) ∧ w'.cell? ⟨w.heap.size, 5, none⟩ = some (.int .i64 g.text) ∧ w'.cell? ⟨w.heap.size, 6, none⟩ = some (.int .i64 g.nodes) ∧ w'.cell? ⟨w.heap.size, 7, none⟩ = some (.int .i64 g.pairs) ∧ Below W2.heap.size W2 w')
      (first | exact ⟨s0, s1, s2, s3, s4, s5, s6, s7, Below.drew (Below.refl _ _)⟩ | (go_split_ands; exact keep_one HG1.out (by (first | assumption | exact Below.drew (Below.refl _ _) | exact Below.refl _ _)) (by assumption)))
      (first | (go_at_call 20; go_split_ands; refine (HOf.out _ _ hb1.drew HDr.out).mono ?_; rintro e w5 ⟨⟨u5, rfl, hu5⟩, hb5⟩; obtain ⟨A5, c5, rfl⟩ := hu5.out.value) | (go_at_call 36; go_split_ands; refine (HVo.out _ _ (hb1.drew.trans (hb5.mono hb1.size)) (Rd.old (w := W2.drew) HDr.out hb5)).mono ?_; rintro e w6 ⟨rfl, hb6⟩))
    have hz1 := hb1.size
    have hbe := (hb1.drew.trans (hb5.mono hz1)).trans (hb6.mono (Nat.le_trans hz1 hb5.size))
    have HFin : Hid (IntsM w6 w.heap.size (.slice A5 fs.length c5) fs) := hidden (Mine.base (Mine.below hu5.out hb6) hz1)
    clear hb5 hb6 hu5 HDr HG1 s0 s1 s2 s3 s4 s5 s6 s7
    go_wp2
    exact bodyPost_ret (v := .tuple #[.slice A5 fs.length c5, .bool vo]) (by simp [results, Try.results81, go_sem]) rfl ⟨⟨_, rfl, HFin⟩, hbe⟩
  · have HDr : Hid (Rd ((w.alloc (.cells #[.slice A1 g.toks.length k1, .slice A2 g.rules.length k2, .slice A3 g.prods.length k3, .int .i64 g.start, .int .i64 g.states, .int .i64 g.text, .int .i64 g.nodes, .int .i64 g.pairs] 26)).alloc (.cells #[.int .i64 p.left, .slice (some ⟨b4, o4, none⟩) p.right.length k4] 45)) (Old ((w.alloc (.cells #[.slice A1 g.toks.length k1, .slice A2 g.rules.length k2, .slice A3 g.prods.length k3, .int .i64 g.start, .int .i64 g.states, .int .i64 g.text, .int .i64 g.nodes, .int .i64 g.pairs] 26)).alloc (.cells #[.int .i64 p.left, .slice (some ⟨b4, o4, none⟩) p.right.length k4] 45))) 4 (.slice (some ⟨b4, o4 + (k + 1) * 4, none⟩) (p.right.length - (k + 1)) (k4 - (k + 1))) (p.right.drop (k + 1)).length ((p.right.drop (k + 1)).flatMap itCells)) := hidden (by
      have hd := rd_drop hR1 (i := k + 1) (by omega)
      rw [List.length_drop]
      rw [flat_drop] at hd
      exact hd)
    generalize firsts22 g (p.right.drop (k + 1)) = fs at *
    generalize voidOf g (p.right.drop (k + 1)) = vo at *
    generalize (p.right.drop (k + 1)).length = dl at *
    generalize (p.right.drop (k + 1)).flatMap itCells = dc at *
    go_enter Try.func81, Try.ntmps81
    go_upto_region 2 with fail
    obtain ⟨W2, hW2⟩ : ∃ W2 : World, W2 = ((w.alloc (.cells #[.slice A1 g.toks.length k1, .slice A2 g.rules.length k2, .slice A3 g.prods.length k3, .int .i64 g.start, .int .i64 g.states, .int .i64 g.text, .int .i64 g.nodes, .int .i64 g.pairs] 26)).alloc (.cells #[.int .i64 p.left, .slice (some ⟨b4, o4, none⟩) p.right.length k4] 45)) := ⟨_, rfl⟩
    simp only [← hW2] at *
    clear hW2
    go_wp2_with fail
    go_region_held3 (fun w' => w'.cell? ⟨w.heap.size, 0, none⟩ = some (.slice A1 g.toks.length k1) ∧ w'.cell? ⟨w.heap.size, 1, none⟩ = some (.slice A2 g.rules.length k2) ∧ w'.cell? ⟨w.heap.size, 2, none⟩ = some (.slice A3 g.prods.length k3) ∧ w'.cell? ⟨w.heap.size, 3, none⟩ = some (.int .i64 g.start) ∧ w'.cell? ⟨w.heap.size, 4, none⟩ = some (.int .i64 g.states) ∧ w'.cell? ⟨w.heap.size, 5, none⟩ = some (.int .i64 g.text) ∧ w'.cell? ⟨w.heap.size, 6, none⟩ = some (.int .i64 g.nodes) ∧ w'.cell? ⟨w.heap.size, 7, none⟩ = some (.int .i64 g.pairs) ∧ Below W2.heap.size W2 w')
      (first | exact ⟨s0, s1, s2, s3, s4, s5, s6, s7, Below.drew (Below.refl _ _)⟩ | (go_split_ands; exact keep_one HG1.out (by (first | assumption | exact Below.drew (Below.refl _ _) | exact Below.refl _ _)) (by assumption)))
      (first | (go_at_call 20; go_split_ands; refine (HOf.out _ _ hb1.drew HDr.out).mono ?_; rintro e w5 ⟨⟨u5, rfl, hu5⟩, hb5⟩; obtain ⟨A5, c5, rfl⟩ := hu5.out.value) | (go_at_call 36; go_split_ands; refine (HVo.out _ _ (hb1.drew.trans (hb5.mono hb1.size)) (Rd.old (w := W2.drew) HDr.out hb5)).mono ?_; rintro e w6 ⟨rfl, hb6⟩))
    have hz1 := hb1.size
    have hbe := (hb1.drew.trans (hb5.mono hz1)).trans (hb6.mono (Nat.le_trans hz1 hb5.size))
    have HFin : Hid (IntsM w6 w.heap.size (.slice A5 fs.length c5) fs) := hidden (Mine.base (Mine.below hu5.out hb6) hz1)
    clear hb5 hb6 hu5 HDr HG1 s0 s1 s2 s3 s4 s5 s6 s7
    go_wp2
    exact bodyPost_ret (v := .tuple #[.slice A5 fs.length c5, .bool vo]) (by simp [results, Try.results81, go_sem]) rfl ⟨⟨_, rfl, HFin⟩, hbe⟩
end Go.Proofs.Ytmlggfapnkhcaaa
