/-
  law30.knows: the chapter's example.
-/
import Derived.Test.YtmmhkjdnejeooaaDeriveM
import Derived.Test.YtmmhkjdnejeooaaLawSmallF
import Derived.Deep.RegionHeld3
namespace Go.Proofs.Ytmmhkjdnejeooaa.T
open Go.RowKit Go.Shelf

theorem own_one {w : World} {B : Nat} {v : Value} (h : Own w B v t30) : ∃ q c l, v = .slice (some ⟨q, 0, none⟩) 1 c ∧ 1 ≤ c ∧ B ≤ q ∧ q < w.heap.size ∧ w.cell? ⟨q, 0, none⟩ = some (.int .i64 2) ∧ w.cell? ⟨q, 1, none⟩ = some (.int .i64 1) ∧ w.cell? ⟨q, 2, none⟩ = some (.int .i64 1) ∧ w.cell? ⟨q, 3, none⟩ = some l ∧ w.cell? ⟨q, 4, none⟩ = some (.string ⟨#[]⟩) := by
  obtain ⟨ls, h1, h2, h3⟩ := h
  obtain ⟨l, rfl⟩ : ∃ l, ls = [l] := by
    match ls, h1 with
    | [l], _ => exact ⟨l, rfl⟩
  obtain ⟨q, cap, rfl, c1, c2, c3, c4, c5⟩ := h2.open_ (by decide)
  exact ⟨q, cap, l, rfl, c1, c3, Mine.at_lt h2 (by decide) q rfl, c5 0 _ rfl, c5 1 _ rfl, c5 2 _ rfl, c5 3 _ rfl, c5 4 _ rfl⟩

set_option maxRecDepth 20000 in
set_option maxHeartbeats 16000000 in
theorem knows30 (w : World) : Calls Try.prog 7 #[] w fun r w' => r = .returned (.bool true) ∧ Below w.heap.size w w' := by
  have HS := hidden some30
  have HSh := hidden (fun (a b c : Value) (w' : World) (HG : GramIs w' (Old w') a b c g30) => (show Calls Try.prog 17 #[.agg (gramCells a b c g30), .int .i64 0] w' fun r w'' => (∃ u, r = .returned u ∧ Hid (Own w'' w'.heap.size u t30)) ∧ Below w'.heap.size w' w'' from by
    have := derive_Short a b c g30 0 [1] 1 w' HG small30 prods30 reach30 settled30 (fun _ _ _ _ _ => ok30)
    rwa [short30] at this))
  have HPa := hidden (fun (a b c v : Value) (w' : World) (HG : GramIs w' (Old w') a b c g30) (HN : Nds w' (Old w') v t30) => (show Calls Try.prog 10 #[.agg (gramCells a b c g30), v, .agg #[.bool true, .int .i64 0, .int .i64 0, .int .i64 0]] w' fun r w'' => r = .returned (.bool true) ∧ Below w'.heap.size w' w'' from by
    have := derive_Part a b c v g30 t30 (itR 0) w' HG small30 HN (by decide)
    rw [part30] at this
    exact this))
  have HFi := hidden (fun (a b c v : Value) (w' : World) (HG : GramIs w' (Old w') a b c g30) (HN : Nds w' (Old w') v t30) => (show Calls Try.prog 8 #[.agg (gramCells a b c g30), v] w' fun r w'' => r = .returned (.bool false) ∧ Below w'.heap.size w' w'' from by
    have := derive_Fits a b c v g30 t30 w' HG small30 HN (by decide)
    rwa [fits30] at this))
  have HRu := hidden (fun (a b c l : Value) (w' : World) (HG : GramIs w' (Old w') a b c g30) => (show Calls Try.prog 14 #[.agg (gramCells a b c g30), .agg #[.int .i64 2, .int .i64 1, .int .i64 1, l, .string ⟨#[]⟩]] w' fun r w'' => r = .returned (.int .i64 0) ∧ Below w'.heap.size w' w'' from by
    have := derive_Rule a b c l g30 ⟨2, 1, 1, [], ⟨#[]⟩⟩ w' HG small30
    rw [rule30] at this
    exact this))
  unfold gramCells at HPa HFi HRu
  go_enter Try.func7, Try.ntmps7
  go_wp2_with fail
  refine (HS.out w).mono ?_
  rintro r w2 ⟨⟨a1, b1, c1, rfl, HG1⟩, hb⟩
  have HX := hidden (HSh.out a1 b1 c1 w2 HG1.out)
  obtain ⟨A11, k11, rfl, _, _⟩ := HG1.out.1.value
  obtain ⟨A12, k12, rfl, _, _⟩ := HG1.out.2.1.val
  obtain ⟨A13, k13, rfl, _, _⟩ := HG1.out.2.2.value
  clear HG1 HSh
  unfold gramCells at HX
  go_wp2_with fail
  refine HX.out.mono ?_
  rintro r w3 ⟨⟨u, rfl, HO⟩, hb3⟩
  have hbw := below_l hb hb3 hb.size
  clear HX hb hb3
  have HN3 := hidden HO.out.nds
  obtain ⟨q, cq, l, rfl, hcq, _, hql, z0, z1, z2, z3, z4⟩ := own_one HO.out
  have tok1 : True := trivial
  have tok2 : True := trivial
  have tok3 : True := trivial
  clear HO
  go_wp2_with fail
  go_region_held3 (fun w' => w'.cell? ⟨q, 0, none⟩ = some (.int .i64 2) ∧ w'.cell? ⟨q, 1, none⟩ = some (.int .i64 1) ∧ w'.cell? ⟨q, 2, none⟩ = some (.int .i64 1) ∧ w'.cell? ⟨q, 3, none⟩ = some l ∧ w'.cell? ⟨q, 4, none⟩ = some (.string ⟨#[]⟩) ∧ Below w3.heap.size w3 w')
    (first | exact ⟨z0, z1, z2, z3, z4, Below.drew (Below.refl _ _)⟩ | (go_split_ands; exact ⟨cell_more z0 (by (first | assumption | exact Below.drew (Below.refl _ _) | exact Below.refl _ _)) (by assumption), cell_more z1 (by (first | assumption | exact Below.drew (Below.refl _ _) | exact Below.refl _ _)) (by assumption), cell_more z2 (by (first | assumption | exact Below.drew (Below.refl _ _) | exact Below.refl _ _)) (by assumption), cell_more z3 (by (first | assumption | exact Below.drew (Below.refl _ _) | exact Below.refl _ _)) (by assumption), cell_more z4 (by (first | assumption | exact Below.drew (Below.refl _ _) | exact Below.refl _ _)) (by assumption), below_more (by (first | assumption | exact Below.drew (Below.refl _ _) | exact Below.refl _ _)) (by assumption)⟩))
    (first
      | (go_at_call 22; have _t := tok1; go_split_ands; refine (HS.out _).mono ?_; rintro e w5 ⟨⟨a5, b5, c5, rfl, HG5⟩, hb5⟩; obtain ⟨A51, k51, rfl, _, _⟩ := HG5.out.1.value; obtain ⟨A52, k52, rfl, _, _⟩ := HG5.out.2.1.val; obtain ⟨A53, k53, rfl, _, _⟩ := HG5.out.2.2.value; unfold gramCells; clear tok1 _t)
      | (go_at_call 22; have _t := tok2; go_split_ands; refine (HS.out _).mono ?_; rintro e w6 ⟨⟨a6, b6, c6, rfl, HG6⟩, hb6⟩; obtain ⟨A61, k61, rfl, _, _⟩ := HG6.out.1.value; obtain ⟨A62, k62, rfl, _, _⟩ := HG6.out.2.1.val; obtain ⟨A63, k63, rfl, _, _⟩ := HG6.out.2.2.value; unfold gramCells; (try replace HG5 := hidden (HG5.out.old hb6)); (try replace HG6 := hidden (HG6.out.old hb6)); (try replace HG7 := hidden (HG7.out.old hb6)); clear tok2 _t)
      | (go_at_call 22; have _t := tok3; go_split_ands; refine (HS.out _).mono ?_; rintro e w7 ⟨⟨a7, b7, c7, rfl, HG7⟩, hb7⟩; obtain ⟨A71, k71, rfl, _, _⟩ := HG7.out.1.value; obtain ⟨A72, k72, rfl, _, _⟩ := HG7.out.2.1.val; obtain ⟨A73, k73, rfl, _, _⟩ := HG7.out.2.2.value; unfold gramCells; (try replace HG5 := hidden (HG5.out.old hb7)); (try replace HG6 := hidden (HG6.out.old hb7)); (try replace HG7 := hidden (HG7.out.old hb7)); clear tok3 _t)
      | (go_at_call 10; go_split_ands; refine (HPa.out _ _ _ _ _ (by first | exact HG5.out | exact HG6.out | exact HG7.out) (Nds.old HN3.out (by (first | assumption | exact Below.drew (Below.refl _ _) | exact Below.refl _ _)))).mono ?_; rintro e w8 ⟨rfl, hb8⟩; (try replace HG5 := hidden (HG5.out.old hb8)); (try replace HG6 := hidden (HG6.out.old hb8)); (try replace HG7 := hidden (HG7.out.old hb8)))
      | (go_at_call 8; go_split_ands; refine (HFi.out _ _ _ _ _ (by first | exact HG5.out | exact HG6.out | exact HG7.out) (Nds.old HN3.out (by (first | assumption | exact Below.drew (Below.refl _ _) | exact Below.refl _ _)))).mono ?_; rintro e w9 ⟨rfl, hb9⟩; (try replace HG5 := hidden (HG5.out.old hb9)); (try replace HG6 := hidden (HG6.out.old hb9)); (try replace HG7 := hidden (HG7.out.old hb9)))
      | (go_at_call 14; go_split_ands; refine (HRu.out _ _ _ _ _ (by first | exact HG5.out | exact HG6.out | exact HG7.out)).mono ?_; rintro e w10 ⟨rfl, hb10⟩; (try replace HG5 := hidden (HG5.out.old hb10)); (try replace HG6 := hidden (HG6.out.old hb10)); (try replace HG7 := hidden (HG7.out.old hb10))))
  all_goals
    have hb11 : Below w3.heap.size w3 w10 := by go_split_ands; assumption
    clear HS HPa HFi HRu HN3 z0 z1 z2 z3 z4
    go_wp2
    go_ret
    exact ⟨rfl, hbw.trans (hb11.mono hbw.size)⟩
end Go.Proofs.Ytmmhkjdnejeooaa.T
