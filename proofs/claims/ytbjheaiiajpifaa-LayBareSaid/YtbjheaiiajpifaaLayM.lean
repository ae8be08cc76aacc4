/-
  lay.Of: the places of the leaves of any nodes, by any grammar.
-/
import Derived.Test.YtbjheaiiajpifaaLayL
import Derived.Test.YtbjheaiiajpifaaLayG
namespace Go.Proofs.Ytbjheaiiajpifaa.T
open Go.RowKit Go.Shelf

theorem walk_any (vt a' b' c' : Value) (g : Gram) (t : List Node) (w : World) (m : Nat) (h4 : t.length ≤ 100000) (hg : rightB g = true) (hT : Tree t) (hN : Nds w (Old w) vt t) (HG : GramIs w (Old w) a' b' c' g) : ∀ (n i : Nat), sz t i ≤ n → i < t.length → WalkOk w m vt (gramCells a' b' c' g) g t i := by
  intro n
  induction n with
  | zero => intro i h hi; have := (tree_node hT hi).1; omega
  | succ n ih =>
    intro i h hi
    cases hl : isText t i with
    | true => exact walk_leaf vt a' b' c' g t w m h4 hT i hi hl hN
    | false =>
      have ih' : ∀ q, q < t.length → sz t q < sz t i → WalkOk w m vt (gramCells a' b' c' g) g t q := fun q hq hs => ih q (by omega) hq
      by_cases hcs : t[i].kind = 2 ∧ 0 ≤ t[i].n ∧ t[i].n < g.prods.length
      · exact walk_made vt a' b' c' g t w m h4 hg hT i hi hl hN HG ih' hcs
      · exact walk_other vt a' b' c' g t w m h4 hg hT i hi hl hN HG ih' (by omega)
theorem style_top (g : Gram) (t : List Node) : gapUp g t 0 0 = 0 ∧ inUp g t 0 = 0 := by
  have e : itemOf g t 0 = none := by
    unfold itemOf
    rw [if_pos (Or.inl (show upN t 0 0 < 0 by rw [up_zero]; decide))]
  refine ⟨?_, ?_⟩
  · rw [gapUp_none (up_zero t)]
    unfold gapIt
    rw [e]
    simp [itemD, zeroIt]
  · rw [inUp_none (up_zero t)]
    unfold inIt
    rw [e]
    rfl

set_option maxRecDepth 20000 in
set_option maxHeartbeats 8000000 in
theorem lay_Of (v a' b' c' : Value) (g : Gram) (t : List Node) (w : World) (s1 : g.toks.length ≤ 100000) (s2 : g.rules.length ≤ 100000) (s3 : g.prods.length ≤ 100000) (s4 : t.length ≤ 100000) (hz : Named g) (HG : GramIs w (Old w) a' b' c' g) (hN : Nds w (Old w) v t) :
    Calls Try.prog 30 #[.agg (gramCells a' b' c' g), v] w fun r w' => (∃ u, r = .returned u ∧ Hid (FlatM plCells 3 82 w' w.heap.size u (placesOf g t))) ∧ Below w.heap.size w w' := by
  have HR := hidden (fun (w' : World) (hb : Below w.heap.size w w') => gram_Right a' b' c' g w' (HG.later hb) s1 s2 s3 hz)
  have HA := hidden (fun (w' : World) (hb : Below w.heap.size w w') => arena_right v t w' (by omega) (hN.old hb))
  have HWk := hidden (fun m hg hT i hi => walk_any v a' b' c' g t w m s4 hg hT hN HG _ i (Nat.le_refl _) hi)
  have HPo := hidden (fun h => placesOf_out (g := g) (t := t) h)
  have HPi := hidden (fun hg hT => placesOf_in (g := g) (t := t) hg hT)
  have HTr := hidden (@tree_len t)
  have HS0 := hidden (fun hT => tree_sz0 (t := t) hT)
  have HSt := hidden (style_top g t)
  obtain ⟨A1, k1, rfl, _, _⟩ := HG.1.value
  obtain ⟨A2, k2, rfl, _, _⟩ := HG.2.1.val
  obtain ⟨A3, k3, rfl, _, _⟩ := HG.2.2.value
  obtain ⟨A, c, rfl, hc1, hc2⟩ := hN.value
  unfold maxLen at hc2
  clear HG hN
  have hb0 : Below w.heap.size w ((w.alloc (.cells #[.slice A1 g.toks.length k1, .slice A2 g.rules.length k2, .slice A3 g.prods.length k3, .int .i64 g.start, .int .i64 g.states, .int .i64 g.text, .int .i64 g.nodes, .int .i64 g.pairs] 26)).alloc (.cells #[.slice A t.length c] 27)) := (by repeat (first | (with_reducible exact Below.refl _ _) | (with_reducible assumption) | (with_reducible refine Below.drew ?_) | (with_reducible refine below_drewN ?_ _) | ((with_reducible refine below_alloc ?_ ?_); (focus (first | omega | (simp; done) | (simp; omega)))) | ((with_reducible refine below_set ?_ ?_); (focus (first | omega | (simp; done) | (simp; omega))))))
  have HB0 : Hid (Holds ((w.alloc (.cells #[.slice A1 g.toks.length k1, .slice A2 g.rules.length k2, .slice A3 g.prods.length k3, .int .i64 g.start, .int .i64 g.states, .int .i64 g.text, .int .i64 g.nodes, .int .i64 g.pairs] 26)).alloc (.cells #[.slice A t.length c] 27)) w.heap.size 26 #[.slice A1 g.toks.length k1, .slice A2 g.rules.length k2, .slice A3 g.prods.length k3, .int .i64 g.start, .int .i64 g.states, .int .i64 g.text, .int .i64 g.nodes, .int .i64 g.pairs]) := hidden ((Holds.new w _ _).alloc _)
  have HB1 : Hid (Holds ((w.alloc (.cells #[.slice A1 g.toks.length k1, .slice A2 g.rules.length k2, .slice A3 g.prods.length k3, .int .i64 g.start, .int .i64 g.states, .int .i64 g.text, .int .i64 g.nodes, .int .i64 g.pairs] 26)).alloc (.cells #[.slice A t.length c] 27)) (w.heap.size + 1) 27 #[.slice A t.length c]) := hidden (Holds.new_at (by simp))
  unfold gramCells at *
  go_enter Try.func30, Try.ntmps30
  go_wp2_with fail
  refine (HR.out _ hb0).mono ?_
  rintro r w2 ⟨rfl, hb2⟩
  have hz2 := hb2.size
  simp only [World.size_alloc] at hz2
  replace HB0 := hidden (HB0.out.below hb2 HB0.out.lt)
  replace HB1 := hidden (HB1.out.below hb2 HB1.out.lt)
  replace hb0 := below_more hb0 hb2
  clear hb2 HR
  have t0 : w2.cell? ⟨w.heap.size + 1, 0, none⟩ = some (.slice A t.length c) := HB1.out.cell 0
  cases hg : rightB g with
  | false =>
    have HE := hidden (HPo.out (fun h => by rw [hg] at h; cases h.1))
    go_wp2
    go_ret
    exact ⟨⟨_, rfl, by rw [HE.out]; exact hidden (Mine.nil _ _ _ _)⟩, hb0⟩
  | true =>
    go_wp2_with fail
    refine (HA.out _ hb0).mono ?_
    rintro r w3 ⟨rfl, hb3⟩
    have hz3 := hb3.size
    replace HB0 := hidden (HB0.out.below hb3 HB0.out.lt)
    replace HB1 := hidden (HB1.out.below hb3 HB1.out.lt)
    replace hb0 := below_more hb0 hb3
    clear hb3 HA t0
    cases hT : treeB t with
    | false =>
      have HE := hidden (HPo.out (fun h => by rw [hT] at h; cases h.2))
      go_wp2
      go_ret
      exact ⟨⟨_, rfl, by rw [HE.out]; exact hidden (Mine.nil _ _ _ _)⟩, hb0⟩
    | true =>
      have HT := hidden (treeB_iff.1 hT)
      have HE := hidden (HPi.out hg HT.out)
      go_wp2_with fail
      have hW : WalkAt w w3.heap.size (.slice A t.length c) #[.slice A1 g.toks.length k1, .slice A2 g.rules.length k2, .slice A3 g.prods.length k3, .int .i64 g.start, .int .i64 g.states, .int .i64 g.text, .int .i64 g.nodes, .int .i64 g.pairs] g t ((w3.alloc (.cells #[.slice none 0 0] 61)).alloc (.cells #[.func (.func 59) #[] #[.pointer (some ⟨w.heap.size + 1, 0, none⟩), .pointer (some ⟨w3.heap.size, 0, none⟩), .pointer (some ⟨w.heap.size, 0, none⟩), .pointer (some ⟨w3.heap.size + 1, 0, none⟩)]] 137)) (.slice none 0 0) 0 := by
        refine ⟨(hb0.alloc hb0.size _).alloc (by simp; have := hb0.size; omega) _, by omega, by simp, (HB0.out.alloc _).alloc _, (HB1.out.alloc _).alloc _, (Holds.new _ _ _).alloc _, Holds.new_at (by simp), ?_, fun q hq => by cases hq⟩
        rw [placesIn_nil]
        exact Mine.nil _ _ _ _
      have hC := HWk.out w3.heap.size hg HT.out 0 (HTr.out HT.out) _ _ hW
      unfold walkArgs at hC
      rw [HSt.out.1, HSt.out.2, HS0.out HT.out] at hC
      have HC := hidden hC
      clear hC hW HWk
      refine HC.out.mono ?_
      rintro r w5 ⟨rfl, vo, HW5, _, _⟩
      have h5 := HW5.out.le
      have y0 : w5.cell? ⟨w3.heap.size, 0, none⟩ = some vo := HW5.out.ho.cell 0
      obtain ⟨A9, c9, rfl⟩ := HW5.out.mine.value
      go_wp2
      go_ret
      refine ⟨⟨_, rfl, ?_⟩, HW5.out.below⟩
      rw [HE.out]
      have := Mine.base HW5.out.mine (b' := w.heap.size) (by omega)
      rw [Nat.zero_add] at this
      refine hidden ?_
      unfold FlatM
      simpa using this
end Go.Proofs.Ytbjheaiiajpifaa.T
