/-
  The document's least parts: facsimileref30.Short; derive.Short of a grammar that is not right.
-/
import Derived.Test.YtmmhkjdnejeooaaDeriveW
import Derived.Test.YtmmhkjdnejeooaaDeriveL
import Derived.Test.YtmmhkjdnejeooaaDeriveU
import Derived.Deep.RegionHeld3
namespace Go.Proofs.Ytmmhkjdnejeooaa.T
open Go.RowKit Go.Shelf

theorem keep_eight {wr w1 w2 : World} {p : Nat} {t : TypeId} {a b c d e f g h : Value} (H : Holds wr p t #[a, b, c, d, e, f, g, h])
    (hb : Below wr.heap.size wr w1) (hb2 : Below w1.heap.size w1 w2) :
    w2.cell? ⟨p, 0, none⟩ = some a ∧ w2.cell? ⟨p, 1, none⟩ = some b ∧ w2.cell? ⟨p, 2, none⟩ = some c ∧ w2.cell? ⟨p, 3, none⟩ = some d ∧ w2.cell? ⟨p, 4, none⟩ = some e ∧ w2.cell? ⟨p, 5, none⟩ = some f ∧ w2.cell? ⟨p, 6, none⟩ = some g ∧ w2.cell? ⟨p, 7, none⟩ = some h ∧ Below wr.heap.size wr w2 := by
  have hb3 := hb.trans (hb2.mono hb.size)
  obtain ⟨x0, x1, x2, x3, x4, x5, x6, x7⟩ := eightR (H.below hb3 H.lt)
  exact ⟨x0, x1, x2, x3, x4, x5, x6, x7, hb3⟩
theorem right_toks {g : Gram} (h : rightB g = true) : ∀ p ∈ g.prods, ∀ x ∈ p.right, x.rule = false → 0 ≤ x.n ∧ x.n < g.toks.length := by
  intro p hpm x hx hxr
  obtain ⟨i, hi, ei⟩ := List.mem_iff_getElem.1 hpm
  have hp : g.prods[i]? = some p := by rw [List.getElem?_eq_getElem hi, ei]
  unfold rightB at h
  rw [decide_eq_true_iff] at h
  have h1 := (right_iff g).1 h
  have h2 := h1.prod i hi
  unfold prodD at h2
  rw [hp] at h2
  dsimp only at h2
  unfold prodErr at h2
  split at h2
  · cases h2
  split at h2
  · cases h2
  obtain ⟨k, hk, e⟩ := List.mem_iff_getElem.1 hx
  have h3 := first0_kind.1 h2 k hk
  unfold Go.Proofs.Ytmmhkjdnejeooaa.itemD at h3
  rw [List.getElem?_eq_getElem hk, e] at h3
  dsimp only at h3
  split at h3
  · rename_i hne
    exact absurd h3 hne
  · rename_i hne
    have hz : itemErr g x = 0 := by omega
    unfold itemErr at hz
    rw [hxr] at hz
    simp only [Bool.false_eq_true, ↓reduceIte] at hz
    split at hz
    · cases hz
    · rename_i h9
      omega

/-! ### The passes end (plain) -/
theorem pass_k (ps : List Prod) (S0 : List Int) (hl : ∀ p ∈ ps, 0 ≤ p.left ∧ p.left < S0.length) (hpr : ∀ p ∈ ps, p.right.length ≤ 4398046511104) : ∀ k, k ≤ ps.length → ∃ b, PassS ps S0 k b (passK' ps S0 k) := by
  intro k
  induction k with
  | zero => intro _; exact ⟨false, PassS.start ps S0⟩
  | succ k ih =>
    intro hk
    obtain ⟨b, h⟩ := ih (by omega)
    have hp := List.getElem?_eq_getElem (show k < ps.length by omega)
    have hm := List.getElem_mem (show k < ps.length by omega)
    generalize ps[k] = p at *
    by_cases hb : betterB (passK' ps S0 k) p = true
    · have h2 := h.yes hp (hpr p hm) (by rw [passK'_len]; exact hl p hm) hb
      refine ⟨true, ?_⟩
      rw [passK'_succ hp]
      unfold stepS
      rw [if_pos hb]
      exact h2
    · have hb2 : betterB (passK' ps S0 k) p = false := by simpa using hb
      refine ⟨b, ?_⟩
      rw [passK'_succ hp, stepS_same hb2]
      exact h.no hp hb2
theorem ex_settled {ps : List Prod} {n : Nat} (hl : ∀ p ∈ ps, 0 ≤ p.left ∧ p.left < (n : Int)) (hpr : ∀ p ∈ ps, p.right.length ≤ 4398046511104) : ∃ T, ReachS ps n T ∧ Settled ps T := by
  have main : ∀ m S, ReachS ps n S → costS S = m → ∃ T, ReachS ps n T ∧ Settled ps T := by
    intro m
    induction m using Nat.strongRecOn with
    | _ m ih =>
      intro S hS hm
      obtain ⟨b, h⟩ := pass_k ps S (by rw [reachS_len hS]; exact hl) hpr ps.length (Nat.le_refl _)
      have e := h.done.1
      rcases h.done.2 with ⟨_, h2, h3⟩ | ⟨_, h2⟩
      · exact ⟨S, hS, by rw [h2] at h3; exact h3⟩
      · rw [e] at h2
        exact ih _ (by omega) (passS ps S) (reachS_next hS) rfl
  exact main _ (startS n) ⟨0, rfl⟩ rfl
theorem docS_reach (g : Gram) : ReachS g.prods g.rules.length (docS g) := ⟨_, rfl⟩
theorem docS_settled {g : Gram} (hsd : Sound g) (hpr : ∀ p ∈ g.prods, p.right.length ≤ 4398046511104) : Settled g.prods (docS g) := by
  obtain ⟨T, h1, h2⟩ := ex_settled (n := g.rules.length) (fun p hp => hsd.left p hp) hpr
  exact doc_settled (fun p hp => hsd.left p hp) (fun p hp y hy h => hsd.rule p hp y hy h) h1 h2
theorem docS_ok {g : Gram} (hpr : ∀ p ∈ g.prods, p.right.length ≤ 4398046511104) : OkS (docS g) := iter_ok hpr _ _ (start_ok _)
noncomputable def shortG (g : Gram) (r : Int) : List Node := if rightB g = true ∧ 0 ≤ sizeG g r ∧ sizeG g r ≤ 65536 then partL g.prods (byD g.prods (docS g)) 65537 (itR r) else []
theorem partok_in {g : Gram} (hsd : Sound g) (hT : Settled g.prods (docS g)) (f : Nat) (y : Item) (hy : y.rule = true) (h : PartOk g.prods (byD g.prods (docS g)) f y) : 0 ≤ y.n ∧ y.n < g.rules.length ∧ 0 ≤ szI (docS g) y.n := by
  cases f with
  | zero => cases h
  | succ f =>
    rcases h with h0 | ⟨r, j, p, _, h1, h2, _⟩
    · rw [hy] at h0; cases h0
    · have hl : (byD g.prods (docS g)).length = g.rules.length := (byK_len _).trans (docS_len g)
      have hr := (List.getElem?_eq_some_iff.1 h2).1
      have hs : 0 ≤ szI (byD g.prods (docS g)) r := by rw [szI_at h2]; omega
      have := (by_neg (fun p hp => hsd.left p hp) (docS_reach g) hT (r := r) (by omega)).1 hs
      rw [h1]
      exact ⟨by omega, by omega, this⟩
theorem sizeG_at {g : Gram} {r : Int} (h : 0 ≤ sizeG g r) : rightB g = true ∧ 0 ≤ r ∧ r < g.rules.length ∧ sizeG g r = szI (docS g) r := by
  unfold sizeG at h ⊢
  split at h
  · rename_i h1
    rw [if_pos h1]
    exact ⟨h1.1, h1.2.1, h1.2.2, rfl⟩
  · omega
theorem shortG_ok {g : Gram} {r : Int} (hsd : Sound g) (hpr : ∀ p ∈ g.prods, p.right.length ≤ 4398046511104) (h0 : 0 ≤ r) (h1 : r < g.rules.length) (h2 : 0 ≤ szI (docS g) r) (h3 : szI (docS g) r ≤ 65536) :
    PartOk g.prods (byD g.prods (docS g)) 65537 (itR r) ∧ ((partL g.prods (byD g.prods (docS g)) 65537 (itR r)).length : Int) = szI (docS g) r := by
  have := part_ok (fun p hp => hsd.left p hp) (fun p hp y hy h => hsd.rule p hp y hy h) (docS_reach g) (docS_settled hsd hpr) (szI (docS g) r).toNat (itR r) rfl h0 h1 (by show szI (docS g) r = _; omega) (by omega) 65537 (by omega)
  exact ⟨this.1, by rw [this.2]; omega⟩
theorem short_same {g : Gram} (hsd : Sound g) (hpr : ∀ p ∈ g.prods, p.right.length ≤ 4398046511104) (r : Int) : shortF g (docS g) 65537 r = shortG g r := by
  unfold shortF shortG
  have hn : ∀ k : Nat, k < g.rules.length → (0 ≤ szI (byD g.prods (docS g)) k ↔ 0 ≤ szI (docS g) k) := fun k hk => by_neg (fun p hp => hsd.left p hp) (docS_reach g) (docS_settled hsd hpr) hk
  by_cases hr : rightB g = true ∧ 0 ≤ r ∧ r < g.rules.length
  · obtain ⟨hr1, hr2, hr3⟩ := hr
    have e : sizeG g r = szI (docS g) r := by unfold sizeG; rw [if_pos ⟨hr1, hr2, hr3⟩]
    have h9 := hn r.toNat (by omega)
    rw [show ((r.toNat : Nat) : Int) = r by omega] at h9
    rw [e]
    by_cases h8 : 0 ≤ szI (docS g) r ∧ szI (docS g) r ≤ 65536
    · rw [if_pos ⟨hr1, hr2, hr3, h9.2 h8.1, h8.2⟩, if_pos ⟨hr1, h8⟩]
    · rw [if_neg (fun h => h8 ⟨h9.1 h.2.2.2.1, h.2.2.2.2⟩), if_neg (fun h => h8 h.2)]
  · rw [if_neg (fun h => hr ⟨h.1, h.2.1, h.2.2.1⟩), if_neg (fun h => hr ⟨h.1, (sizeG_at h.2.1).2.1, (sizeG_at h.2.1).2.2.1⟩)]
theorem nds_none (w : World) (T : Nat → Prop) (q : Nat) : Nds w T (.slice (some ⟨q, 0, none⟩) 0 0) [] :=
  ⟨[], rfl, ⟨rfl, some ⟨q, 0, none⟩, 0, rfl, Nat.le_refl _, by unfold maxLen; omega, fun h => by simp [allCells] at h⟩, fun i x l h => by simp at h⟩

set_option maxRecDepth 20000 in
set_option maxHeartbeats 16000000 in
theorem ref_Short30 (a b c : Value) (g : Gram) (rule : Int) (w : World) (HG : GramIs w (Old w) a b c g) (hsm : Small g) (hpr : ∀ p ∈ g.prods, p.right.length ≤ 4398046511104) :
    Calls Try.prog 19 #[.agg (gramCells a b c g), .int .i64 rule] w fun r w' => (∃ u, r = .returned u ∧ Hid (Nds w' (fun k => w.heap.size ≤ k ∧ k < w'.heap.size) u (shortG g rule))) ∧ Below w.heap.size w w' := by
  have HSz := hidden (fun (w' : World) (hb : Below w.heap.size w w') => ref_Size30 a b c g rule w' (HG.old hb) hsm hpr)
  have HSs := hidden (fun (hr : rightB g = true) (w' : World) (hb : Below w.heap.size w w') => ref_sizes30 a b c g w' (HG.old hb) (rightB_sound hr) hsm hpr)
  have HSh := hidden (fun (hr : rightB g = true) (rn : Nat) (hrn : rn < g.rules.length) (h0 : 0 ≤ szI (docS g) (rn : Int)) (h1 : szI (docS g) (rn : Int) ≤ 65536) (q : Nat) (w0 : World) (hb : Below w.heap.size w w0) (HQ : IntsAt w0 q (docS g)) =>
    ref_short30 a b c g w0 (HG.old hb) (rightB_sound hr) hsm hpr q (docS g) HQ (docS_reach g) (docS_settled (rightB_sound hr) hpr) (docS_ok hpr) 65537 rn hrn h0 (shortG_ok (rightB_sound hr) hpr (by omega) (by omega) h0 h1).1 (fun f' y _ hy h => partok_in (rightB_sound hr) (docS_settled (rightB_sound hr) hpr) f' y hy h) w0 (Below.refl _ _))
  have hE : Hid (shortG g rule = if rightB g = true ∧ 0 ≤ sizeG g rule ∧ sizeG g rule ≤ 65536 then partL g.prods (byD g.prods (docS g)) 65537 (itR rule) else []) := hidden rfl
  have hAt := hidden (@sizeG_at g rule)
  obtain ⟨⟨A1, k1, rfl, v1, m1⟩, ⟨A2, k2, rfl, v2, m2⟩, ⟨A3, k3, rfl, v3, m3⟩⟩ := HG.vals
  generalize shortG g rule = res at *
  unfold gramCells at *
  have hb1 : Below w.heap.size w (w.alloc (.cells #[.slice A1 g.toks.length k1, .slice A2 g.rules.length k2, .slice A3 g.prods.length k3, .int .i64 g.start, .int .i64 g.states, .int .i64 g.text, .int .i64 g.nodes, .int .i64 g.pairs] 26)) := (Below.refl _ _).alloc (Nat.le_refl _) _
  have HB1 : Hid (Holds (w.alloc (.cells #[.slice A1 g.toks.length k1, .slice A2 g.rules.length k2, .slice A3 g.prods.length k3, .int .i64 g.start, .int .i64 g.states, .int .i64 g.text, .int .i64 g.nodes, .int .i64 g.pairs] 26)) w.heap.size 26 #[.slice A1 g.toks.length k1, .slice A2 g.rules.length k2, .slice A3 g.prods.length k3, .int .i64 g.start, .int .i64 g.states, .int .i64 g.text, .int .i64 g.nodes, .int .i64 g.pairs]) := hidden (Holds.new w _ _)
  clear HG hsm hpr
  generalize hsv : sizeG g rule = sv at *
  go_enter Try.func19, Try.ntmps19
  go_upto_region 1 with fail
  generalize (w.alloc (.cells #[.slice A1 g.toks.length k1, .slice A2 g.rules.length k2, .slice A3 g.prods.length k3, .int .i64 g.start, .int .i64 g.states, .int .i64 g.text, .int .i64 g.nodes, .int .i64 g.pairs] 26)) = w1 at *
  obtain ⟨x0, x1, x2, x3, x4, x5, x6, x7⟩ := eightR HB1.out
  have HX := hidden (HSz.out _ hb1)
  go_wp2_with fail
  refine HX.out.mono ?_
  rintro r w2 ⟨rfl, hb2⟩
  replace HB1 := hidden (HB1.out.below hb2 HB1.out.lt)
  replace hb1 := hb1.trans (hb2.mono hb1.size)
  clear x0 x1 x2 x3 x4 x5 x6 x7 hb2 HX
  obtain ⟨x0, x1, x2, x3, x4, x5, x6, x7⟩ := eightR HB1.out
  by_cases h0 : sv < 0
  · have q0 : decide (sv < 0) = true := decide_eq_true h0
    have he : Hid (res = []) := hidden (by rw [hE.out, if_neg (fun h => by omega)])
    clear hE HSz HSs HSh hAt
    have hbf := hb1.alloc hb1.size (.cells #[] 37)
    have hwz := hb1.size
    go_wp2
    go_ret
    exact ⟨⟨_, rfl, hidden (by rw [he.out]; exact nds_none _ _ _)⟩, hbf⟩
  · have q0 : decide (sv < 0) = false := decide_eq_false h0
    have HX := hidden (HSz.out _ hb1)
    go_wp2_with fail
    refine HX.out.mono ?_
    rintro r w3 ⟨rfl, hb3⟩
    replace HB1 := hidden (HB1.out.below hb3 HB1.out.lt)
    replace hb1 := hb1.trans (hb3.mono hb1.size)
    clear x0 x1 x2 x3 x4 x5 x6 x7 hb3 HX HSz
    obtain ⟨x0, x1, x2, x3, x4, x5, x6, x7⟩ := eightR HB1.out
    by_cases h1 : 65536 < sv
    · have q1 : decide (65536 < sv) = true := decide_eq_true h1
      have he : Hid (res = []) := hidden (by rw [hE.out, if_neg (fun h => by omega)])
      clear hE HSs HSh hAt
      have hbf := hb1.alloc hb1.size (.cells #[] 37)
      have hwz := hb1.size
      go_wp2
      go_ret
      exact ⟨⟨_, rfl, hidden (by rw [he.out]; exact nds_none _ _ _)⟩, hbf⟩
    · have q1 : decide (65536 < sv) = false := decide_eq_false h1
      have hgo : Hid (rightB g = true ∧ 0 ≤ rule ∧ rule < g.rules.length ∧ sv = szI (docS g) rule) := hidden (hAt.out (by omega))
      obtain ⟨rn, rfl⟩ : ∃ rn : Nat, rule = (rn : Int) := ⟨rule.toNat, by have := hgo.out.2.1; omega⟩
      have he : Hid (res = partL g.prods (byD g.prods (docS g)) 65537 (itR (rn : Int))) := hidden (by rw [hE.out, if_pos ⟨hgo.out.1, by omega, by omega⟩])
      have HSs2 := hidden (HSs.out hgo.out.1)
      have HSh2 := hidden (HSh.out hgo.out.1 rn (by have := hgo.out.2.2.1; omega) (by have := hgo.out.2.2.2; omega) (by have := hgo.out.2.2.2; omega))
      have hdd : Hid (RowS g.prods g.rules.length (g.rules.length + 1) = docS g) := hidden rfl
      clear hE HSs HSh hAt hgo hsv
      go_wp2_with fail
      go_region_held3 (fun w' => w'.cell? ⟨w.heap.size, 0, none⟩ = some (.slice A1 g.toks.length k1) ∧ w'.cell? ⟨w.heap.size, 1, none⟩ = some (.slice A2 g.rules.length k2) ∧ w'.cell? ⟨w.heap.size, 2, none⟩ = some (.slice A3 g.prods.length k3) ∧ w'.cell? ⟨w.heap.size, 3, none⟩ = some (.int .i64 g.start) ∧ w'.cell? ⟨w.heap.size, 4, none⟩ = some (.int .i64 g.states) ∧ w'.cell? ⟨w.heap.size, 5, none⟩ = some (.int .i64 g.text) ∧ w'.cell? ⟨w.heap.size, 6, none⟩ = some (.int .i64 g.nodes) ∧ w'.cell? ⟨w.heap.size, 7, none⟩ = some (.int .i64 g.pairs) ∧ Below w3.heap.size w3 w')
        (first | exact ⟨x0, x1, x2, x3, x4, x5, x6, x7, Below.drew (Below.refl _ _)⟩ | (go_split_ands; exact keep_eight HB1.out (by (first | assumption | exact Below.drew (Below.refl _ _) | exact Below.refl _ _)) (by assumption)))
        (first | (go_at_call 31; go_split_ands; refine (HSs2.out _ (hb1.trans (Below.mono (by (first | assumption | exact Below.drew (Below.refl _ _) | exact Below.refl _ _)) hb1.size))).mono ?_; rintro e w4 ⟨⟨q4, rfl, hq4, HQ4⟩, hb4⟩) | (go_at_call 36; go_split_ands; refine (HSh2.out _ _ (hb1.drew.trans (hb4.mono hb1.size)) (hdd.out ▸ HQ4.out)).mono ?_; rintro e w5 ⟨⟨u5, rfl, HU5⟩, hb5⟩))
      have hz1 := hb1.size
      have hbf := (hb1.drew.trans (hb4.mono hz1)).trans (hb5.mono (Nat.le_trans hz1 hb4.size))
      have HUf : Hid (Nds w5 (fun k => w.heap.size ≤ k ∧ k < w5.heap.size) u5 res) := hidden (by
        rw [he.out]
        exact HU5.out.mono (fun k hk => ⟨Nat.le_trans (Nat.le_trans hz1 hb4.size) hk.1, hk.2⟩))
      clear hb4 hb5 HU5 HQ4 hq4 HSs2 HSh2 x0 x1 x2 x3 x4 x5 x6 x7
      go_wp2
      go_ret
      exact ⟨⟨_, rfl, HUf⟩, hbf⟩

set_option maxRecDepth 20000 in
set_option maxHeartbeats 16000000 in
theorem derive_Short_not (a b c : Value) (g : Gram) (rule : Int) (w : World) (HG : GramIs w (Old w) a b c g) (hsm : Small g) (hr : rightB g = false) :
    Calls Try.prog 17 #[.agg (gramCells a b c g), .int .i64 rule] w fun r w' => (∃ u, r = .returned u ∧ Hid (Own w' w.heap.size u [])) ∧ Below w.heap.size w w' := by
  have HRt := hidden (fun (w' : World) (hb : Below w.heap.size w w') => gram_Right a b c g w' (HG.old hb) hsm.toks hsm.rules hsm.prods hsm.names)
  rw [hr] at HRt
  obtain ⟨⟨A1, k1, rfl, v1, m1⟩, ⟨A2, k2, rfl, v2, m2⟩, ⟨A3, k3, rfl, v3, m3⟩⟩ := HG.vals
  unfold gramCells at *
  have hb1 : Below w.heap.size w (w.alloc (.cells #[.slice A1 g.toks.length k1, .slice A2 g.rules.length k2, .slice A3 g.prods.length k3, .int .i64 g.start, .int .i64 g.states, .int .i64 g.text, .int .i64 g.nodes, .int .i64 g.pairs] 26)) := (Below.refl _ _).alloc (Nat.le_refl _) _
  have HB1 : Hid (Holds (w.alloc (.cells #[.slice A1 g.toks.length k1, .slice A2 g.rules.length k2, .slice A3 g.prods.length k3, .int .i64 g.start, .int .i64 g.states, .int .i64 g.text, .int .i64 g.nodes, .int .i64 g.pairs] 26)) w.heap.size 26 #[.slice A1 g.toks.length k1, .slice A2 g.rules.length k2, .slice A3 g.prods.length k3, .int .i64 g.start, .int .i64 g.states, .int .i64 g.text, .int .i64 g.nodes, .int .i64 g.pairs]) := hidden (Holds.new w _ _)
  clear HG hsm hr
  go_enter Try.func17, Try.ntmps17
  go_upto_region 1 with fail
  generalize (w.alloc (.cells #[.slice A1 g.toks.length k1, .slice A2 g.rules.length k2, .slice A3 g.prods.length k3, .int .i64 g.start, .int .i64 g.states, .int .i64 g.text, .int .i64 g.nodes, .int .i64 g.pairs] 26)) = w1 at *
  obtain ⟨x0, x1, x2, x3, x4, x5, x6, x7⟩ := eightR HB1.out
  have HX := hidden (HRt.out _ hb1)
  go_wp2_with fail
  refine HX.out.mono ?_
  rintro r w2 ⟨rfl, hb2⟩
  replace hb1 := hb1.trans (hb2.mono hb1.size)
  clear x0 x1 x2 x3 x4 x5 x6 x7 hb2 HX HRt HB1
  go_wp2
  go_ret
  exact ⟨⟨_, rfl, hidden (Own.nil _ _)⟩, hb1⟩
end Go.Proofs.Ytmmhkjdnejeooaa.T
