/-
  The document's behind, of layer 23. The document's All of layer 23. Follows, of the program and of the document; the document's End. Layer 23. law23.Small.
-/
import Derived.Test.YtmlggfapnkhcaaaFirstC
import Derived.Test.YtmlggfapnkhcaaaNullU
import Derived.Test.YtmlggfapnkhcaaaFollowR
import Derived.Test.YtmlggfapnkhcaaaFollowC
namespace Go.Proofs.Ytmlggfapnkhcaaa
open Go.RowKit Go.Shelf
attribute [local simp] wide_fn

theorem flat_drop (l : List Item) (n : Nat) : (l.flatMap itCells).drop (n * 4) = (l.drop n).flatMap itCells := by
  induction n generalizing l with
  | zero => simp
  | succ n ih =>
    cases l with
    | nil => simp
    | cons x l =>
      rw [List.drop_succ_cons, ← ih, List.flatMap_cons, Nat.add_mul, List.drop_append, show (itCells x).length = 4 from rfl, List.drop_of_length_le (by rw [show (itCells x).length = 4 from rfl]; omega), List.nil_append]
      congr 1
set_option maxRecDepth 20000 in
set_option maxHeartbeats 8000000 in
theorem ref_behind (a b c l1 : Value) (g : Gram) (p : Prod) (k : Nat) (w : World) (HG : GramIs w (Old w) a b c g) (hsm : Small g) (hk : k < p.right.length) (hR : Rd w (Old w) 4 l1 p.right.length (p.right.flatMap itCells)) :
    Calls Try.prog 81 #[.agg (gramCells a b c g), .agg #[.int .i64 p.left, l1], .int .i64 k] w fun r w' => (∃ u, r = .returned (.tuple #[u, .bool (voidOf g (p.right.drop (k + 1)))]) ∧ Hid (IntsM w' w.heap.size u (firsts22 g (p.right.drop (k + 1))))) ∧ Below w.heap.size w w' := by
  have HOf := hidden (fun (w' : World) v (hb : Below w.heap.size w w') hr => ref_Of22 a b c v g (p.right.drop (k + 1)) w' (HG.old hb) hsm hr)
  have HVo := hidden (fun (w' : World) v (hb : Below w.heap.size w w') hr => ref_Void21 a b c v g (p.right.drop (k + 1)) w' (HG.old hb) hsm hr)
  obtain ⟨A4, k4, rfl, hk4, hm4⟩ := hR.val
  obtain ⟨b4, o4, rfl, _, _⟩ := Rd.flat_at hR (fun _ => rfl) (by decide) (List.getElem?_eq_getElem hk)
  obtain ⟨⟨A1, k1, rfl, v1, m1⟩, ⟨A2, k2, rfl, v2, m2⟩, ⟨A3, k3, rfl, v3, m3⟩⟩ := HG.vals
  unfold maxLen at hm4
  have hb1 : Below w.heap.size w ((w.alloc (.cells #[.slice A1 g.toks.length k1, .slice A2 g.rules.length k2, .slice A3 g.prods.length k3, .int .i64 g.start, .int .i64 g.states, .int .i64 g.text, .int .i64 g.nodes, .int .i64 g.pairs] 26)).alloc (.cells #[.int .i64 p.left, .slice (some ⟨b4, o4, none⟩) p.right.length k4] 45)) := (by repeat (first | (with_reducible exact Below.refl _ _) | (with_reducible assumption) | (with_reducible refine Below.drew ?_) | (with_reducible refine below_drewN ?_ _) | ((with_reducible refine below_alloc ?_ ?_); (focus (first | omega | (simp; done) | (simp; omega)))) | ((with_reducible refine below_set ?_ ?_); (focus (first | omega | (simp; done) | (simp; omega))))))
  have HG1 : Hid (Holds ((w.alloc (.cells #[.slice A1 g.toks.length k1, .slice A2 g.rules.length k2, .slice A3 g.prods.length k3, .int .i64 g.start, .int .i64 g.states, .int .i64 g.text, .int .i64 g.nodes, .int .i64 g.pairs] 26)).alloc (.cells #[.int .i64 p.left, .slice (some ⟨b4, o4, none⟩) p.right.length k4] 45)) w.heap.size 26 #[.slice A1 g.toks.length k1, .slice A2 g.rules.length k2, .slice A3 g.prods.length k3, .int .i64 g.start, .int .i64 g.states, .int .i64 g.text, .int .i64 g.nodes, .int .i64 g.pairs]) := hidden (by repeat (first | (with_reducible assumption) | ((with_reducible refine holds_new ?_); (focus (first | rfl | (simp; done)))) | (with_reducible refine Holds.alloc ?_ _) | (with_reducible refine Holds.drew ?_)))
  have hR1 := Rd.old hR hb1
  have hw : IntKind.i64.wrap ((k : Int) + 1) = (k : Int) + 1 := IntWalk.i64_in _ (by omega)
  obtain ⟨s0, s1, s2, s3, s4, s5, s6, s7⟩ := eight22 HG1.out
  clear HG hsm hR
  unfold gramCells at *
  by_cases hc : k4 = k + 1
  · subst hc
    have hd : p.right.drop (k + 1) = [] := List.drop_of_length_le (by omega)
    have HDr : Hid (Rd ((w.alloc (.cells #[.slice A1 g.toks.length k1, .slice A2 g.rules.length k2, .slice A3 g.prods.length k3, .int .i64 g.start, .int .i64 g.states, .int .i64 g.text, .int .i64 g.nodes, .int .i64 g.pairs] 26)).alloc (.cells #[.int .i64 p.left, .slice (some ⟨b4, o4, none⟩) p.right.length (k + 1)] 45)) (Old ((w.alloc (.cells #[.slice A1 g.toks.length k1, .slice A2 g.rules.length k2, .slice A3 g.prods.length k3, .int .i64 g.start, .int .i64 g.states, .int .i64 g.text, .int .i64 g.nodes, .int .i64 g.pairs] 26)).alloc (.cells #[.int .i64 p.left, .slice (some ⟨b4, o4, none⟩) p.right.length (k + 1)] 45))) 4 (.slice (some ⟨b4, o4, none⟩) 0 0) (p.right.drop (k + 1)).length ((p.right.drop (k + 1)).flatMap itCells)) := hidden (by
      rw [hd]; exact rd_none _)
    generalize firsts22 g (p.right.drop (k + 1)) = fs at *
    generalize voidOf g (p.right.drop (k + 1)) = vo at *
    generalize (p.right.drop (k + 1)).length = dl at *
    generalize (p.right.drop (k + 1)).flatMap itCells = dc at *
    go_enter Try.func81, Try.ntmps81
    go_upto_region 2 with fail
    obtain ⟨W2, hW2⟩ : ∃ W2 : World, W2 = ((w.alloc (.cells #[.slice A1 g.toks.length k1, .slice A2 g.rules.length k2, .slice A3 g.prods.length k3, .int .i64 g.start, .int .i64 g.states, .int .i64 g.text, .int .i64 g.nodes, .int .i64 g.pairs] 26)).alloc (.cells #[.int .i64 p.left, .slice (some ⟨b4, o4, none⟩) p.right.length (k + 1)] 45)) := ⟨_, rfl⟩
    simp only [← hW2] at *
    clear hW2
    go_wp2_with fail
    go_region_held3 (fun w' => w'.cell? ⟨w.heap.size, 0, none⟩ = some (.slice A1 g.toks.length k1) ∧ w'.cell? ⟨w.heap.size, 1, none⟩ = some (.slice A2 g.rules.length k2) ∧ w'.cell? ⟨w.heap.size, 2, none⟩ = some (.slice A3 g.prods.length k3) ∧ w'.cell? ⟨w.heap.size, 3, none⟩ = some (.int .i64 g.start) ∧ w'.cell? ⟨w.heap.size, 4, none⟩ = some (.int .i64 g.states) ∧ w'.cell? ⟨w.heap.size, 5, none⟩ = some (.int .i64 g.text) ∧ w'.cell? ⟨w.heap.size, 6, none⟩ = some (.int .i64 g.nodes) ∧ w'.cell? ⟨w.heap.size, 7, none⟩ = some (.int .i64 g.pairs) ∧ Below W2.heap.size W2 w')
      (first | exact ⟨s0, s1, s2, s3, s4, s5, s6, s7, Below.drew (Below.refl _ _)⟩ | (go_split_ands; exact keep_one HG1.out (by (first | assumption | exact Below.drew (Below.refl _ _) | exact Below.refl _ _)) (by assumption)))
      (first | (go_at_call 20; go_split_ands; refine (HOf.out _ _ hb1.drew HDr.out).mono ?_; rintro e w5 ⟨⟨u5, rfl, hu5⟩, hb5⟩; obtain ⟨A5, c5, rfl⟩ := hu5.out.value) | (go_at_call 36; go_split_ands; refine (HVo.out _ _ (hb1.drew.trans (hb5.mono hb1.size)) (Rd.old (w := W2.drew) HDr.out hb5)).mono ?_; rintro e w6 ⟨rfl, hb6⟩))
    have hz1 := hb1.size
    have hbe := (hb1.drew.trans (hb5.mono hz1)).trans (hb6.mono (Nat.le_trans hz1 hb5.size))
    have HFin : Hid (IntsM w6 w.heap.size (.slice A5 fs.length c5) fs) := hidden (Mine.base (Mine.below hu5.out hb6) hz1)
    clear hb5 hb6 hu5 HDr HG1 s0 s1 s2 s3 s4 s5 s6 s7
    go_wp2
    exact bodyPost_ret (v := .tuple #[.slice A5 fs.length c5, .bool vo]) (by simp [results, Try.results81, go_sem]) rfl ⟨⟨_, rfl, HFin⟩, hbe⟩
  · have HDr : Hid (Rd ((w.alloc (.cells #[.slice A1 g.toks.length k1, .slice A2 g.rules.length k2, .slice A3 g.prods.length k3, .int .i64 g.start, .int .i64 g.states, .int .i64 g.text, .int .i64 g.nodes, .int .i64 g.pairs] 26)).alloc (.cells #[.int .i64 p.left, .slice (some ⟨b4, o4, none⟩) p.right.length k4] 45)) (Old ((w.alloc (.cells #[.slice A1 g.toks.length k1, .slice A2 g.rules.length k2, .slice A3 g.prods.length k3, .int .i64 g.start, .int .i64 g.states, .int .i64 g.text, .int .i64 g.nodes, .int .i64 g.pairs] 26)).alloc (.cells #[.int .i64 p.left, .slice (some ⟨b4, o4, none⟩) p.right.length k4] 45))) 4 (.slice (some ⟨b4, o4 + (k + 1) * 4, none⟩) (p.right.length - (k + 1)) (k4 - (k + 1))) (p.right.drop (k + 1)).length ((p.right.drop (k + 1)).flatMap itCells)) := hidden (by
      have hd := rd_drop hR1 (i := k + 1) (by omega)
      rw [List.length_drop]
      rw [flat_drop] at hd
      exact hd)
    generalize firsts22 g (p.right.drop (k + 1)) = fs at *
    generalize voidOf g (p.right.drop (k + 1)) = vo at *
    generalize (p.right.drop (k + 1)).length = dl at *
    generalize (p.right.drop (k + 1)).flatMap itCells = dc at *
    go_enter Try.func81, Try.ntmps81
    go_upto_region 2 with fail
    obtain ⟨W2, hW2⟩ : ∃ W2 : World, W2 = ((w.alloc (.cells #[.slice A1 g.toks.length k1, .slice A2 g.rules.length k2, .slice A3 g.prods.length k3, .int .i64 g.start, .int .i64 g.states, .int .i64 g.text, .int .i64 g.nodes, .int .i64 g.pairs] 26)).alloc (.cells #[.int .i64 p.left, .slice (some ⟨b4, o4, none⟩) p.right.length k4] 45)) := ⟨_, rfl⟩
    simp only [← hW2] at *
    clear hW2
    go_wp2_with fail
    go_region_held3 (fun w' => w'.cell? ⟨w.heap.size, 0, none⟩ = some (.slice A1 g.toks.length k1) ∧ w'.cell? ⟨w.heap.size, 1, none⟩ = some (.slice A2 g.rules.length k2) ∧ w'.cell? ⟨w.heap.size, 2, none⟩ = some (.slice A3 g.prods.length k3) ∧ w'.cell? ⟨w.heap.size, 3, none⟩ = some (.int .i64 g.start) ∧ w'.cell? ⟨w.heap.size, 4, none⟩ = some (.int .i64 g.states) ∧ w'.cell? ⟨w.heap.size, 5, none⟩ = some (.int .i64 g.text) ∧ w'.cell? ⟨w.heap.size, 6, none⟩ = some (.int .i64 g.nodes) ∧ w'.cell? ⟨w.heap.size, 7, none⟩ = some (.int .i64 g.pairs) ∧ Below W2.heap.size W2 w')
      (first | exact ⟨s0, s1, s2, s3, s4, s5, s6, s7, Below.drew (Below.refl _ _)⟩ | (go_split_ands; exact keep_one HG1.out (by (first | assumption | exact Below.drew (Below.refl _ _) | exact Below.refl _ _)) (by assumption)))
      (first | (go_at_call 20; go_split_ands; refine (HOf.out _ _ hb1.drew HDr.out).mono ?_; rintro e w5 ⟨⟨u5, rfl, hu5⟩, hb5⟩; obtain ⟨A5, c5, rfl⟩ := hu5.out.value) | (go_at_call 36; go_split_ands; refine (HVo.out _ _ (hb1.drew.trans (hb5.mono hb1.size)) (Rd.old (w := W2.drew) HDr.out hb5)).mono ?_; rintro e w6 ⟨rfl, hb6⟩))
    have hz1 := hb1.size
    have hbe := (hb1.drew.trans (hb5.mono hz1)).trans (hb6.mono (Nat.le_trans hz1 hb5.size))
    have HFin : Hid (IntsM w6 w.heap.size (.slice A5 fs.length c5) fs) := hidden (Mine.base (Mine.below hu5.out hb6) hz1)
    clear hb5 hb6 hu5 HDr HG1 s0 s1 s2 s3 s4 s5 s6 s7
    go_wp2
    exact bodyPost_ret (v := .tuple #[.slice A5 fs.length c5, .bool vo]) (by simp [results, Try.results81, go_sem]) rfl ⟨⟨_, rfl, HFin⟩, hbe⟩
end Go.Proofs.Ytmlggfapnkhcaaa

namespace Go.Proofs.Ytmlggfapnkhcaaa
open Go.RowKit Go.Shelf
attribute [local simp] wide_fn

theorem void_drop {g : Gram} (hr : rightB g = true) {p : Prod} (hp : p ∈ g.prods) (n : Nat) : voidOf g (p.right.drop n) = (p.right.drop n).all (itemSo (growsB g false) false) := by
  have hi : itemsIn g (p.right.drop n) = true := by
    have := (rightB_RightG hr).itemIn hp
    unfold itemsIn at this ⊢
    rw [List.all_eq_true] at this ⊢
    exact fun x hx => this x (List.mem_of_mem_drop hx)
  unfold voidOf
  rw [hr, hi, Bool.true_and, Bool.true_and]
theorem firsts_drop {g : Gram} (hr : rightB g = true) {p : Prod} (hp : p ∈ g.prods) {n : Nat} : firsts22 g (p.right.drop n) = firstL g (growsB g false) g.toks.length (p.right.drop n) := by
  have hi : itemsIn g (p.right.drop n) = true := by
    have := (rightB_RightG hr).itemIn hp
    unfold itemsIn at this ⊢
    rw [List.all_eq_true] at this ⊢
    exact fun x hx => this x (List.mem_of_mem_drop hx)
  unfold firsts22
  rw [hr, hi, if_pos (by rfl)]
/-- What was looked at: the first i productions, and of one more the first k items. -/
def Seen (g : Gram) (rb : List Bool) (i : Nat) (p : Prod) (k : Nat) (p' : Prod) (k' : Nat) : Prop := (p' ∈ g.prods.take i ∧ atB rb p'.left = true) ∨ p' = p ∧ k' < k
section
variable {g : Gram} {rb : List Bool} {i : Nat} {p : Prod}
theorem seen_start {p' : Prod} {k' : Nat} (h : Seen g rb i p 0 p' k') : p' ∈ g.prods.take i ∧ atB rb p'.left = true := by
  rcases h with h | ⟨_, h⟩
  · exact h
  · omega
theorem seen_step {k k' : Nat} {p' : Prod} (h : Seen g rb i p (k + 1) p' k') : Seen g rb i p k p' k' ∨ p' = p ∧ k' = k := by
  rcases h with h | ⟨e, h⟩
  · exact .inl (.inl h)
  · by_cases e2 : k' = k
    · exact .inr ⟨e, e2⟩
    · exact .inl (.inr ⟨e, by omega⟩)
theorem seen_end {n k' : Nat} {p' : Prod} (hx : g.prods[i]? = some p) (hn : n = p.right.length) (h : p' ∈ g.prods.take (i + 1) ∧ atB rb p'.left = true) : Seen g rb i p n p' k' ∨ ∀ x, p'.right[k']? = some x → x.rule = false := by
  rw [List.take_add_one, hx] at h
  rcases List.mem_append.1 h.1 with h1 | h1
  · exact .inl (.inl ⟨h1, h.2⟩)
  · have e : p' = p := by simpa using h1
    subst e
    by_cases hk : k' < n
    · exact .inl (.inr ⟨rfl, hk⟩)
    · exact .inr (fun x hx => by rw [List.getElem?_eq_none (by omega)] at hx; cases hx)
theorem seen_skip {k' : Nat} {p' : Prod} (hx : g.prods[i]? = some p) (hn : atB rb p.left = false) (h : p' ∈ g.prods.take (i + 1) ∧ atB rb p'.left = true) : Seen g rb i p 0 p' k' := by
  rw [List.take_add_one, hx] at h
  rcases List.mem_append.1 h.1 with h1 | h1
  · exact .inl ⟨h1, h.2⟩
  · have e : p' = p := by simpa using h1
    subst e
    rw [hn] at h
    cases h.2
end

set_option maxRecDepth 20000 in
set_option maxHeartbeats 16000000 in
theorem ref_All23 (a b c : Value) (g : Gram) (w : World) (HG : GramIs w (Old w) a b c g) (hsm : Small g) (hT9 : g.toks.length ≤ 90000) :
    Calls Try.prog 30 #[.agg (gramCells a b c g)] w fun r w' => (∃ u, r = .returned u ∧ Hid (Rows2 w' (Old w') u (fol23 g))) ∧ Below w.heap.size w w' := by
  have HRi := hidden (fun (w' : World) (hb : Below w.heap.size w w') => ref_Right21 a b c g w' (HG.old hb) hsm.toks hsm.rules hsm.prods hsm.names)
  have HRe := hidden (fun (w' : World) (hb : Below w.heap.size w w') => ref_Reached a b c g w' (HG.old hb) hsm)
  have HBh := hidden (fun (w' : World) (hb : Below w.heap.size w w') (p : Prod) (k : Nat) (l1 : Value) hk hr => ref_behind a b c l1 g p k w' (HG.old hb) hsm hk hr)
  have HPr := hidden HG.2.2
  have hN := hsm.toks
  have hgr := hsm.rules
  have hpr := hsm.prods
  obtain ⟨⟨A1, k1, rfl, v1, m1⟩, ⟨A2, k2, rfl, v2, m2⟩, ⟨A3, k3, rfl, v3, m3⟩⟩ := HG.vals
  have HGk := hidden (Holds.alloc (Holds.new w 26 #[.slice A1 g.toks.length k1, .slice A2 g.rules.length k2, .slice A3 g.prods.length k3, .int .i64 g.start, .int .i64 g.states, .int .i64 g.text, .int .i64 g.nodes, .int .i64 g.pairs]) (.cells #[] 34))
  have hb0 : Below w.heap.size w ((w.alloc (.cells #[.slice A1 g.toks.length k1, .slice A2 g.rules.length k2, .slice A3 g.prods.length k3, .int .i64 g.start, .int .i64 g.states, .int .i64 g.text, .int .i64 g.nodes, .int .i64 g.pairs] 26)).alloc (.cells #[] 34)) := (by repeat (first | (with_reducible exact Below.refl _ _) | (with_reducible assumption) | (with_reducible refine Below.drew ?_) | (with_reducible refine below_drewN ?_ _) | ((with_reducible refine below_alloc ?_ ?_); (focus (first | omega | (simp; done) | (simp; omega)))) | ((with_reducible refine below_set ?_ ?_); (focus (first | omega | (simp; done) | (simp; omega))))))
  have HZ : Hid (Holds ((w.alloc (.cells #[.slice A1 g.toks.length k1, .slice A2 g.rules.length k2, .slice A3 g.prods.length k3, .int .i64 g.start, .int .i64 g.states, .int .i64 g.text, .int .i64 g.nodes, .int .i64 g.pairs] 26)).alloc (.cells #[] 34)) (w.heap.size + 1) 34 #[]) := hidden (Holds.new_at (by simp))
  generalize hP : fol23 g = P
  have HP := hidden hP
  clear HG hsm hP
  unfold gramCells at *
  go_enter Try.func30, Try.ntmps30
  obtain ⟨s0, s1, s2, s3, s4, s5, s6, s7⟩ := eight22 HGk.out
  go_wp2_with fail
  refine (HRi.out _ hb0).mono ?_
  rintro r w2 ⟨rfl, hb2⟩
  replace HGk := hidden (HGk.out.below hb2 HGk.out.lt)
  replace HZ := hidden (HZ.out.below hb2 HZ.out.lt)
  replace hb0 := hb0.trans (hb2.mono hb0.size)
  clear hb2 s0 s1 s2 s3 s4 s5 s6 s7
  cases hg : rightB g with
  | false =>
    have HE : Hid (P = []) := hidden (by rw [← HP.out]; unfold fol23; rw [hg]; rfl)
    obtain ⟨s0, s1, s2, s3, s4, s5, s6, s7⟩ := eight22 HGk.out
    go_wp2
    go_ret
    exact ⟨⟨_, rfl, hidden (by rw [HE.out]; exact Rows2.mk' [] rfl (rd_none _) (fun i x l h => by simp at h))⟩, hb0⟩
  | true =>
    have HE : Hid (P = folF g (growsB g false) (reachB g)) := hidden (by rw [← HP.out]; unfold fol23; rw [if_pos hg])
    rw [hg, if_pos rfl] at HRe
    have HWh := hidden (whole22 hg)
    have hst := (rightB_sound hg).start
    have HKF := hidden (KnownB.first_ hst (growsB g false) (reachB g))
    have HSt := hidden hst
    clear hst
    have HRl := hidden (reachB_len g)
    have HVd := hidden (fun (p : Prod) (hp : p ∈ g.prods) (n : Nat) => void_drop hg hp n)
    have HFd := hidden (fun (p : Prod) (hp : p ∈ g.prods) (n : Nat) => firsts_drop hg hp (n := n))
    obtain ⟨s0, s1, s2, s3, s4, s5, s6, s7⟩ := eight22 HGk.out
    go_wp2_with fail
    refine (HRe.out _ hb0).mono ?_
    rintro r w4 ⟨⟨ur, rfl, hur⟩, hb4⟩
    replace HGk := hidden (HGk.out.below hb4 HGk.out.lt)
    replace HZ := hidden (HZ.out.below hb4 HZ.out.lt)
    replace hb0 := hb0.trans (hb4.mono hb0.size)
    have HRr := hidden (rd_apart hur.out HZ.out)
    obtain ⟨Ar, cr, rfl, _, _⟩ := hur.out.val
    have hzl := HZ.out.lt
    have hw1 : IntKind.i64.wrap ((g.toks.length : Int) + 1) = (g.toks.length : Int) + 1 := IntWalk.i64_in _ (by omega)
    have hprod : g.rules.length * (g.toks.length + 1) ≤ 100000 * 100001 := Nat.mul_le_mul hgr (by omega)
    have hw2 : IntKind.i64.wrap ((g.rules.length : Int) * ((g.toks.length : Int) + 1)) = ((g.rules.length * (g.toks.length + 1) : Nat) : Int) := by
      rw [show (g.rules.length : Int) * ((g.toks.length : Int) + 1) = ((g.rules.length * (g.toks.length + 1) : Nat) : Int) by rw [Int.natCast_mul, Int.natCast_add]; rfl]
      exact IntWalk.i64_in _ (by omega)
    have HM1 : Hid (Rows2M (fun k => k < w4.heap.size ∧ k ≠ w.heap.size + 1) w4 w.heap.size (.slice (some ⟨w.heap.size + 1, 0, none⟩) 0 0) (List.replicate 0 [])) := hidden (Rows2M.empty _ _ _ (fun q hq => by simp [Value.ownBlock] at hq; subst hq; exact ⟨fun h => h.2 rfl, hzl⟩))
    have HKp := hidden (Keeps.refl (fun k => k < w4.heap.size ∧ k ≠ w.heap.size + 1) w4)
    have HRs := hidden (fun (i : Nat) => (by rw [List.replicate_succ'] : List.replicate (i + 1) ([] : List Int) = List.replicate i [] ++ [[]]))
    have hGX : w.heap.size < w4.heap.size ∧ w.heap.size ≠ w.heap.size + 1 := ⟨HGk.out.lt, by omega⟩
    clear hb4 hur s0 s1 s2 s3 s4 s5 s6 s7 HZ HRi HRe
    go_wp2
    go_loopg [3, 5] g.rules.length (fun gh oo ii wr => ∃ i : Nat, i ≤ g.rules.length ∧ gh = g.rules.length - i ∧ ii = .int .i64 i ∧ Hid (Rows2M (fun k => k < w4.heap.size ∧ k ≠ w.heap.size + 1) wr w.heap.size oo (List.replicate i [])) ∧ Hid (Keeps (fun k => k < w4.heap.size ∧ k ≠ w.heap.size + 1) w4 wr) ∧ Hid (Below w.heap.size w wr))
    case atStart => exact ⟨0, by omega, by omega, rfl, HM1, HKp, hidden hb0⟩
    case round =>
      clear HM1 hb0 HKp
      obtain ⟨i, hi, rfl, rfl, HM, HK, hbr⟩ := hrel
      have HGr := hidden (HK.out.holds hGX HGk.out)
      obtain ⟨s0, s1, s2, s3, s4, s5, s6, s7⟩ := eight22 HGr.out
      have hgl := HGr.out.lt
      have hzr := HK.out.size
      by_cases hlt : i < g.rules.length
      · obtain ⟨Ao, co, hv⟩ := HM.out.value
        rw [List.length_replicate] at hv
        subst hv
        have hbA := below_new wr (.cells #[] 3)
        have HMA := hidden (HM.out.below hbA)
        have HKA := hidden (HK.out.below hbA)
        have hbrA := hidden (hbr.out.trans (hbA.mono hbr.out.size))
        have HU : Hid (Ints (wr.alloc (.cells #[] 3)) (fun k => k < (wr.alloc (.cells #[] 3)).heap.size ∧ (Value.slice Ao i co).ownBlock ≠ some k ∧ ¬ (k < w4.heap.size ∧ k ≠ w.heap.size + 1)) (.slice (some ⟨wr.heap.size, 0, none⟩) 0 0) []) := hidden (rd_none _)
        have HRi := hidden (HRs.out i)
        have hlr : (List.replicate i ([] : List Int)).length = i := List.length_replicate
        have HNo := hidden (fun (q : Nat) (h : (Value.slice Ao i co).ownBlock = some q) => (by obtain ⟨_, _, _, h3, _⟩ := HM.out; exact (h3 q h).1 : ¬ (q < w4.heap.size ∧ q ≠ w.heap.size + 1)))
        clear HM HK hbr HRs hbA
        generalize List.replicate i ([] : List Int) = L at *
        go_wp2_with (at_builtin; refine wpList_append_ii rfl _ _ rfl w.heap.size _ L HMA _ [] HU rfl rfl rfl (by first | rfl | simp) (by omega) (by have := hbrA.out.size; omega) (by intro k hk; have := hk.1; simp; omega) ?_; intro v' w' hA hb9 hK)
        have HKn : Hid (Keeps (fun k => k < w4.heap.size ∧ k ≠ w.heap.size + 1) w4 w') := hidden (HKA.out.trans ⟨hK.out.size, fun k hk hl => hK.out.block k (fun e => HNo.out k e hk) hl⟩)
        have hbn := hidden (hbrA.out.trans hb9)
        rw [← HRi.out] at hA
        clear hK hb9 HMA HKA HU HNo
        go_roundg (g.rules.length - (i + 1))
        case measure => omega
        case rel => exact ⟨i + 1, by omega, rfl, by go_num, hA, HKn, hbn⟩
      · obtain rfl : i = g.rules.length := by omega
        clear HRs
        have hst1 := HSt.out.1
        have hst2 := HSt.out.2
        have hsl : g.start.toNat < (List.replicate g.rules.length ([] : List Int)).length := by rw [List.length_replicate]; omega
        have hbA := below_new wr (.cells #[.int .i64 (g.toks.length : Int)] 3)
        have HMA := hidden (HM.out.below hbA)
        have HKA := hidden (HK.out.below hbA)
        have hbrA := hidden (hbr.out.trans (hbA.mono hbr.out.size))
        have HUA : Hid (Ints (wr.alloc (.cells #[.int .i64 (g.toks.length : Int)] 3)) (fun k => wr.heap.size ≤ k ∧ k < (wr.alloc (.cells #[.int .i64 (g.toks.length : Int)] 3)).heap.size) (.slice (some ⟨wr.heap.size, 0, none⟩) 1 1) [(g.toks.length : Int)]) := hidden (rd_litI (Holds.new _ _ _) ⟨Nat.le_refl _, by simp⟩ rfl rfl (by decide))
        obtain ⟨q, co, u0, hv, hco1, hco2, hwq, hqw, hqX, hcq, hfq, -⟩ := HM.out.put hsl (u := .slice none 0 0) (l := []) (Rd.nil _ _ _)
        rw [List.length_replicate] at hv
        subst hv
        obtain ⟨q2, co2, u2, hv2, -, -, -, -, -, -, -, hall⟩ := HMA.out.put hsl (u := .slice (some ⟨wr.heap.size, 0, none⟩) 1 1) (l := [(g.toks.length : Int)]) (HUA.out.mono (fun k hk => ⟨hk.2, fun e => by simp [Value.ownBlock] at e; have := hk.1; omega, fun h => by have := hk.1; have := h.1; omega⟩))
        simp only [Value.slice.injEq, Option.some.injEq, Addr.mk.injEq] at hv2
        obtain ⟨⟨rfl, -, -⟩, -, -⟩ := hv2
        have HMB := hidden hall
        have HKB : Hid (Keeps (fun k => k < w4.heap.size ∧ k ≠ w.heap.size + 1) w4 ((wr.alloc (.cells #[.int .i64 (g.toks.length : Int)] 3)).setCell ⟨q, g.start.toNat, none⟩ (.slice (some ⟨wr.heap.size, 0, none⟩) 1 1))) := hidden (HKA.out.setCell (p := ⟨q, g.start.toNat, none⟩) hqX _)
        have HBB : Hid (Below w.heap.size w ((wr.alloc (.cells #[.int .i64 (g.toks.length : Int)] 3)).setCell ⟨q, g.start.toNat, none⟩ (.slice (some ⟨wr.heap.size, 0, none⟩) 1 1))) := hidden (hbrA.out.setCell (p := ⟨q, g.start.toNat, none⟩) hwq _)
        have hSC := setCell_alloc wr (.cells #[.int .i64 (g.toks.length : Int)] 3) (p := ⟨q, g.start.toNat, none⟩) hqw (.slice (some ⟨wr.heap.size, 0, none⟩) 1 1)
        rw [hSC] at HMB HKB HBB
        have HQX := hidden hqX
        clear hSC hall HM HK hbr HMA HKA hbrA HUA hbA hqX hsl hco1
        go_upto_region 10 with fail
        have HKF1 : Hid (KnownB g (growsB g false) (reachB g) ((List.replicate g.rules.length []).set g.start.toNat [(g.toks.length : Int)])) := HKF
        have HTot : Hid (∀ F, KnownB g (growsB g false) (reachB g) F → tot F ≤ g.rules.length * (g.toks.length + 1)) := hidden (fun F h => by have := h.tot_le; rwa [Nat.mul_comm] at this)
        clear HKF
        generalize (List.replicate g.rules.length ([] : List Int)).set g.start.toNat [(g.toks.length : Int)] = F1 at *
        generalize (wr.setCell ⟨q, g.start.toNat, none⟩ (.slice (some ⟨wr.heap.size, 0, none⟩) 1 1)).alloc (.cells #[.int .i64 (g.toks.length : Int)] 3) = wb at *
        generalize g.rules.length * (g.toks.length + 1) = M at *
        clear s0 s1 s2 s3 s4 s5 s6 s7 hcq hfq hqw HGr hgl hzr hst1 hst2 hi hlt
        go_wp2
        go_loopg [6] (M + 1) (fun gh nn wr => ∃ (n : Nat) (F : List (List Int)), gh = M + 1 - n ∧ nn = .int .i64 n ∧ n ≤ tot F ∧ Hid (KnownB g (growsB g false) (reachB g) F) ∧ Hid (Rows2M (fun k => k < w4.heap.size ∧ k ≠ w.heap.size + 1) wr w.heap.size (.slice (some ⟨q, 0, none⟩) g.rules.length co) F) ∧ Hid (Keeps (fun k => k < w4.heap.size ∧ k ≠ w.heap.size + 1) w4 wr) ∧ Hid (Below w.heap.size w wr))
        case atStart => exact ⟨0, F1, by omega, rfl, Nat.zero_le _, HKF1, HMB, HKB, HBB⟩
        case round =>
          clear HKF1 HMB HKB HBB
          obtain ⟨n, F, rfl, rfl, hnt, HKn, HM, HK, HB⟩ := hrel
          have HGr := hidden (HK.out.holds hGX HGk.out)
          obtain ⟨s0, s1, s2, s3, s4, s5, s6, s7⟩ := eight22 HGr.out
          have hgl := HGr.out.lt
          have hnM := Nat.le_trans hnt (HTot.out F HKn.out)
          have d0 : decide ((n : Int) ≤ (M : Int)) = true := decide_eq_true (by omega)
          have HPs := hidden (PassAt.start (done := fun p k => p ∈ g.prods.take 0 ∧ atB (reachB g) p.left = true) HKn.out (fun p k h => by cases h.1))
          go_wp2
          clear s0 s1 s2 s3 s4 s5 s6 s7 hgl HGr d0
          go_loopg [7, 8] g.prods.length (fun gh ff ii wr => ∃ (i : Nat) (F' : List (List Int)) (nb : Bool), i ≤ g.prods.length ∧ gh = g.prods.length - i ∧ ii = .int .i64 i ∧ ff = .bool nb ∧ Hid (PassAt g (growsB g false) (reachB g) F (fun p k => p ∈ g.prods.take i ∧ atB (reachB g) p.left = true) F' nb) ∧ Hid (Rows2M (fun k => k < w4.heap.size ∧ k ≠ w.heap.size + 1) wr w.heap.size (.slice (some ⟨q, 0, none⟩) g.rules.length co) F') ∧ Hid (Keeps (fun k => k < w4.heap.size ∧ k ≠ w.heap.size + 1) w4 wr) ∧ Hid (Below w.heap.size w wr))
          case atStart => exact ⟨0, F, false, by omega, rfl, rfl, rfl, HPs, HM, HK, HB⟩
          case round =>
            clear HPs HM HK HB
            obtain ⟨i, F', nb, hi, rfl, rfl, rfl, HPa, HM, HK, HB⟩ := hrel
            have HGr := hidden (HK.out.holds hGX HGk.out)
            obtain ⟨s0, s1, s2, s3, s4, s5, s6, s7⟩ := eight22 HGr.out
            have hgl := HGr.out.lt
            by_cases hlt : i < g.prods.length
            · have hx := List.getElem?_eq_getElem hlt
              have HPm := hidden (List.getElem_mem hlt)
              generalize g.prods[i] = p at *
              have HPx := hidden hx
              obtain ⟨b1, o1, l1, rfl, hT, hat, hin⟩ := HPr.out.at_ hx
              have hin : Rd w (Old w) 4 l1 p.right.length (p.right.flatMap itCells) := hin
              have hT2 : b1 < w.heap.size := hT
              have hT' : b1 < wr.heap.size := Nat.lt_of_lt_of_le hT2 HB.out.size
              have y0 : wr.cell? ⟨b1, o1 + i * 2, none⟩ = some (.int .i64 p.left) := (HB.out.cell (p := ⟨b1, o1 + i * 2, none⟩) hT2).trans (hat 0 _ rfl)
              have y1' := (HB.out.cell (p := ⟨b1, o1 + i * 2 + 1, none⟩) hT2).trans (hat 1 _ rfl)
              obtain ⟨A4, k4, rfl, hk4, hm4⟩ := hin.val
              have y1 : wr.cell? ⟨b1, o1 + i * 2 + 1, none⟩ = some (.slice A4 p.right.length k4) := y1'
              have HIn := hidden (fun (wx : World) (hb : Below w.heap.size w wx) => Rd.old hin hb)
              have hpl := HWh.out.left p HPm.out
              unfold maxLen at hm4
              clear hat hx y1' hT hT2 hin
              go_wp2
              obtain ⟨w7, hw7⟩ : ∃ w7, w7 = wr.alloc (.cells #[.int .i64 p.left, .slice A4 p.right.length k4] 45) := ⟨_, rfl⟩
              rw [← hw7]
              have hal : Hid (Below wr.heap.size wr w7) := hidden (by rw [hw7]; exact below_new _ _)
              have HP7 : Hid (Holds w7 wr.heap.size 45 #[.int .i64 p.left, .slice A4 p.right.length k4]) := hidden (by rw [hw7]; exact Holds.new _ _ _)
              have HM7 := hidden (HM.out.below hal.out)
              have HK7 := hidden (HK.out.below hal.out)
              have HB7 := hidden (HB.out.trans (hal.out.mono HB.out.size))
              have HPb := hidden (PassAt.idle (done' := Seen g (reachB g) i p 0) HPa.out (fun p' k' h => .inl (seen_start h)))
              have hqr : q < wr.heap.size := by obtain ⟨_, _, _, h3, _⟩ := HM.out; exact (h3 q rfl).2
              have hidx : p.left.toNat < (reachB g).length := by rw [HRl.out]; omega
              have hrn := List.getElem?_eq_getElem hidx
              have hrv : atB (reachB g) p.left = (reachB g)[p.left.toNat]'hidx := by unfold atB; rw [List.getD_eq_getElem?_getD, hrn]; rfl
              have hpl1 := hpl.1
              have hpl2 := hpl.2
              clear hw7 hal HPa HM HK HB s0 s1 s2 s3 s4 s5 s6 s7 y0 y1 hT' hgl HGr hpl
              generalize (reachB g)[p.left.toNat]'hidx = bv at *
              have HRv := hidden hrv
              have HRn := hidden hrn
              clear hrv hrn
              generalize wr.heap.size = pb at *
              go_loopg [7, 10] p.right.length (fun gh ff kk wx => ∃ (k : Nat) (F2 : List (List Int)) (nb : Bool), k ≤ p.right.length ∧ gh = p.right.length - k ∧ kk = .int .i64 k ∧ ff = .bool nb ∧ Hid (PassAt g (growsB g false) (reachB g) F (Seen g (reachB g) i p k) F2 nb) ∧ Hid (Rows2M (fun k => k < w4.heap.size ∧ k ≠ w.heap.size + 1) wx w.heap.size (.slice (some ⟨q, 0, none⟩) g.rules.length co) F2) ∧ Hid (Holds wx pb 45 #[.int .i64 p.left, .slice A4 p.right.length k4]) ∧ Hid (Keeps (fun k => k < w4.heap.size ∧ k ≠ w.heap.size + 1) w4 wx) ∧ Hid (Below w.heap.size w wx))
              case atStart => exact ⟨0, F', nb, Nat.zero_le _, rfl, rfl, rfl, HPb, HM7, HP7, HK7, HB7⟩
              case round =>
                clear HPb HM7 HP7 HK7 HB7
                obtain ⟨k, F2, nb, hk, rfl, rfl, rfl, HPa, HM, HPp, HK, HB⟩ := hrel
                have hzr := HK.out.size
                have hpbl := HPp.out.lt
                have HGr := hidden (HK.out.holds hGX HGk.out)
                have hgl := HGr.out.lt
                have c0 : wr.cell? ⟨pb, 0, none⟩ = some (.int .i64 p.left) := HPp.out.cell 0
                have c1 : wr.cell? ⟨pb, 1, none⟩ = some (.slice A4 p.right.length k4) := HPp.out.cell 1
                obtain ⟨br, or_, rfl, hTr, hcr⟩ := row_at (HRr.out.keeps HK.out) HRn.out
                have hTr2 : br < wr.heap.size := Nat.lt_of_lt_of_le hTr.1 hzr
                clear hTr
                cases bv with
                | false =>
                  have HPq := hidden (HPa.out.idle (done' := fun p' _ => p' ∈ g.prods.take (i + 1) ∧ atB (reachB g) p'.left = true) (fun p' k' h => .inl (by
                    rcases seen_skip (k' := k') HPx.out HRv.out h with h1 | ⟨_, h1⟩
                    · exact .inl h1
                    · omega)))
                  clear HPa HPp HRv HRn
                  go_wp2
                  go_roundg (g.prods.length - (i + 1))
                  case measure => omega
                  case rel => exact ⟨i + 1, F2, nb, by omega, rfl, by go_num, rfl, HPq, HM, HK, HB⟩
                | true =>
                  by_cases hkl : k < p.right.length
                  · have hx0 := List.getElem?_eq_getElem hkl
                    generalize p.right[k] = x at *
                    have HKx0 := hidden hx0
                    obtain ⟨b4, o4, rfl, hT4, hat⟩ := (HIn.out wr HB.out).flat_at (fun _ => rfl) (by decide) hx0
                    have i0 := hat 0 _ rfl; have i1 := hat 1 _ rfl; have i2 := hat 2 _ rfl; have i3 := hat 3 _ rfl
                    rw [Nat.add_zero] at i0
                    have hT4 : b4 < wr.heap.size := hT4
                    clear hat hx0
                    obtain ⟨xr, xn, xg, xi⟩ := x
                    dsimp only at *
                    have hal := below_new wr (.cells #[.bool xr, .int .i64 xn, .int .i64 xg, .int .i64 xi] 49)
                    have HMA := hidden (HM.out.below hal)
                    have HPA := hidden (HPp.out.below hal HPp.out.lt)
                    have HKA := hidden (HK.out.below hal)
                    have HBA := hidden (HB.out.trans (hal.mono HB.out.size))
                    have HXA := hidden (Holds.new wr 49 #[.bool xr, .int .i64 xn, .int .i64 xg, .int .i64 xi])
                    have hxq0 : wr.heap.size ≠ q := by have : q < wr.heap.size := (by obtain ⟨_, _, _, h3, _⟩ := HM.out; exact (h3 q rfl).2); omega
                    cases xr with
                    | false =>
                      have HPq := hidden (HPa.out.idle (done' := Seen g (reachB g) i p (k + 1)) (fun p' k' h => by
                        rcases seen_step h with h1 | ⟨rfl, rfl⟩
                        · exact .inl h1
                        · exact .inr (fun y hy => by rw [HKx0.out] at hy; cases hy; rfl)))
                      clear HPa HM HPp HK HB hal HRv HRn HXA
                      go_wp2
                      go_roundg (p.right.length - (k + 1))
                      case measure => omega
                      case rel => exact ⟨k + 1, F2, nb, by omega, rfl, by go_num, rfl, HPq, HMA, HPA, HKA, HBA⟩
                    | true =>
                      have hxn := HWh.out.rule p HPm.out _ (List.mem_of_getElem? HKx0.out) rfl
                      dsimp only at hxn
                      obtain ⟨m, rfl⟩ : ∃ m : Nat, xn = (m : Int) := ⟨xn.toNat, by omega⟩
                      have HXn := hidden hxn
                      have HKx := HKx0
                      have hmF : m < F2.length := by rw [HPa.out.known.len]; have := hxn.2; omega
                      have hlF : p.left.toNat < F2.length := by rw [HPa.out.known.len]; omega
                      clear hxn
                      have HRb : Hid (atB (reachB g) p.left = true) := HRv
                      have HCb := hidden (HBh.out _ HBA.out p k _ hkl (HIn.out _ HBA.out))
                      rw [HVd.out p HPm.out (k + 1), HFd.out p HPm.out (k + 1)] at HCb
                      have HTd := hidden (TailIs.doc (g := g) (em := growsB g false) (post := p.right.drop (k + 1)) (getD_bd HPa.out.known.bd p.left.toNat))
                      have hbl := (getD_bd HPa.out.known.bd p.left.toNat).len
                      have hbL := (bd_firstL g (growsB g false) (p.right.drop (k + 1))).len
                      obtain ⟨s0, s1, s2, s3, s4, s5, s6, s7⟩ := eight22 HGr.out
                      clear HM HPp HK HB hal HGr HRv HRn
                      generalize hvv : (p.right.drop (k + 1)).all (itemSo (growsB g false) false) = vv at *
                      clear hvv
                      go_wp2_with fail
                      refine HCb.out.mono ?_
                      rintro e W8 ⟨⟨u8, rfl, hu8⟩, hb8⟩
                      have HM8 := hidden (HMA.out.below hb8)
                      have HX8 := hidden (HXA.out.below hb8 HXA.out.lt)
                      have HP8 := hidden (HPA.out.below hb8 HPA.out.lt)
                      have HK8 := hidden (HKA.out.below hb8)
                      have HB8 := hidden (HBA.out.trans (hb8.mono HBA.out.size))
                      have HL8 := hidden (RowM.rd hu8.out)
                      have hqp8 : q < pb := by omega
                      clear HCb HMA HXA HPA HKA HBA hb8 hu8 s0 s1 s2 s3 s4 s5 s6 s7 c0 c1 i0 i1 i2 i3 hcr hTr2 hgl hpbl hzr hT4
                      generalize wr.heap.size = xb at *
                      cases vv with
                      | true =>
                        rw [if_pos rfl] at HTd
                        have HFl : Hid (F2[p.left.toNat]? = some (F2.getD p.left.toNat [])) := hidden (by rw [List.getD_eq_getElem?_getD, List.getElem?_eq_getElem hlF]; rfl)
                        obtain ⟨bl, ol, ul, hle, _, hcl, hrl⟩ := Rows2.row HM8.out.rows HFl.out
                        simp only [Option.some.injEq, Addr.mk.injEq] at hle
                        obtain ⟨rfl, rfl, -⟩ := hle
                        rw [Nat.zero_add] at hcl
                        obtain ⟨Al, cl, rfl, _, _⟩ := hrl.val
                        obtain ⟨A8, c8, rfl, _, _⟩ := HL8.out.val
                        have HC2 := hidden (ref11_Union _ _ _ _ W8 HL8.out (hrl.mono (fun _ h => h.1)) (by omega) (by omega))
                        have hp0 : W8.cell? ⟨pb, 0, none⟩ = some (.int .i64 p.left) := HP8.out.cell 0
                        have hqW8 : q < W8.heap.size := by obtain ⟨_, _, _, h3, _⟩ := HM8.out; exact (h3 q rfl).2
                        have hlR : p.left.toNat < g.rules.length := by omega
                        clear hrl HFl HL8
                        generalize hfl : F2.getD p.left.toNat [] = fl at *
                        have HFe := hidden hfl
                        clear hfl
                        generalize firstL g (growsB g false) g.toks.length (p.right.drop (k + 1)) = fL at *
                        go_wp2_with fail
                        refine HC2.out.mono ?_
                        rintro e W9 ⟨⟨uL, rfl, hL9⟩, hb9⟩
                        have HM9 := hidden (HM8.out.below hb9)
                        have HX9 := hidden (HX8.out.below hb9 HX8.out.lt)
                        have HP9 := hidden (HP8.out.below hb9 HP8.out.lt)
                        have HK9 := hidden (HK8.out.below hb9)
                        have HB9 := hidden (HB8.out.trans (hb9.mono HB8.out.size))
                        have HL := hidden (hL9.out.mono (T' := Old W9) (fun _ h => h.2))
                        have HTl : Hid (TailIs g (growsB g false) (p.right.drop (k + 1)) (F2.getD p.left.toNat []) (unionOf fL fl)) := hidden (by rw [HFe.out]; exact HTd.out)
                        clear HFe
                        clear HC2 HM8 HX8 HP8 HK8 HB8 hb9 hL9 hcl hp0 hqW8 HTd
                        generalize unionOf fL fl = t at *
                        have HFm : Hid (F2[m]? = some (F2.getD m [])) := hidden (by rw [List.getD_eq_getElem?_getD, List.getElem?_eq_getElem hmF]; rfl)
                        obtain ⟨bq, oq, uq, hqe, _, hcq, hrq⟩ := Rows2.row HM9.out.rows HFm.out
                        simp only [Option.some.injEq, Addr.mk.injEq] at hqe
                        obtain ⟨rfl, rfl, -⟩ := hqe
                        rw [Nat.zero_add] at hcq
                        obtain ⟨Aq, cq, rfl, _, _⟩ := hrq.val
                        have HTb := hidden HTl.out.1
                        have hbf := (getD_bd HPa.out.known.bd m).len
                        have hbt := HTb.out.len
                        have HC := hidden (ref11_Union _ _ _ _ W9 HL.out (hrq.mono (fun _ h => h.1)) (by omega) (by omega))
                        rw [union_bring HPa.out.known.bd HTb.out m] at HC
                        have hd1 : W9.cell? ⟨xb, 1, none⟩ = some (.int .i64 (m : Int)) := HX9.out.cell 1
                        have hqW : q < W9.heap.size := by obtain ⟨_, _, _, h3, _⟩ := HM9.out; exact (h3 q rfl).2
                        have hmR : m < g.rules.length := by have := HXn.out.2; omega
                        have HPI : Hid (PassAt g (growsB g false) (reachB g) F (Seen g (reachB g) i p (k + 1)) (F2.set m (mergeU (F2.getD m []) t)) (nb || decide ((F2.getD m []).length < (mergeU (F2.getD m []) t).length))) := hidden (PassAt.item HWh.out HPa.out HPm.out HRb.out HKx.out rfl HTl.out (fun p' k' h => seen_step h))
                        obtain ⟨AL, cL, rfl, _, _⟩ := HL.out.val
                        have HLd := hidden (longer_dec (F2.getD m []) (mergeU (F2.getD m []) t))
                        clear hrq HPa HTl HTb HFm
                        obtain ⟨mg, hmg⟩ : ∃ mg, mg = mergeU (F2.getD m []) t := ⟨_, rfl⟩
                        rw [← hmg] at HPI HC HLd
                        clear hmg
                        obtain ⟨fr, hfr⟩ : ∃ fr, fr = F2.getD m [] := ⟨_, rfl⟩
                        rw [← hfr] at HPI HC HLd hcq hbf
                        clear hfr
                        go_wp2_with fail
                        refine HC.out.mono ?_
                        rintro e W10 ⟨⟨u10, rfl, hu10⟩, hb10⟩
                        have HM10 := hidden (HM9.out.below hb10)
                        have HX10 := hidden (HX9.out.below hb10 HX9.out.lt)
                        have HP10 := hidden (HP9.out.below hb10 HP9.out.lt)
                        have HK10 := hidden (HK9.out.below hb10)
                        have HB10 := hidden (HB9.out.trans (hb10.mono HB9.out.size))
                        have hz10 := hb10.size
                        have hw49 := HK9.out.size
                        have hcq2 := cell_onI hcq hb10
                        obtain ⟨g9, c9, u9, hv9, hc91, hc92, hwq9, hqW9, hqX9, hcq9, hfq9, hall9⟩ := HM10.out.put hmF (u := u10) (l := mg) (hu10.out.mono (fun j hj => ⟨hj.2, fun e => by simp [Value.ownBlock] at e; have := hj.1; omega, fun h => by have := hj.1; have := h.1; omega⟩))
                        simp only [Value.slice.injEq, Option.some.injEq, Addr.mk.injEq] at hv9
                        obtain ⟨⟨rfl, -, -⟩, -, -⟩ := hv9
                        obtain ⟨A10, c10, rfl, _, _⟩ := hu10.out.val
                        have HMn := hidden hall9
                        have hqp : pb ≠ q := by omega
                        have hxq : xb ≠ q := hxq0
                        have HPn := hidden (HP10.out.far (p := ⟨q, m, none⟩) hqp (.slice A10 mg.length c10))
                        have HKn9 := hidden (HK10.out.setCell (p := ⟨q, m, none⟩) hqX9 (.slice A10 mg.length c10))
                        have HBn := hidden (HB10.out.setCell (p := ⟨q, m, none⟩) hwq9 (.slice A10 mg.length c10))
                        have hd2 : W10.cell? ⟨xb, 1, none⟩ = some (.int .i64 (m : Int)) := HX10.out.cell 1
                        clear hall9 hqX9 hc91 hc92 hcq9 HM9 HX9 HP9 HK9 HB9 HM10 HX10 HP10 HK10 HB10 hb10 hu10 HC hcq hd1 HL
                        cases nb with
                        | true =>
                          go_wp2
                          go_roundg (p.right.length - (k + 1))
                          case measure => omega
                          case rel => exact ⟨k + 1, _, true, by omega, rfl, by go_num, rfl, HPI, HMn, HPn, HKn9, HBn⟩
                        | false =>
                          go_wp2
                          go_roundg (p.right.length - (k + 1))
                          case measure => omega
                          case rel => exact ⟨k + 1, _, _, by omega, rfl, by go_num, rfl, HPI, HMn, HPn, HKn9, HBn⟩
                      | false =>
                        rw [if_neg (by decide)] at HTd
                        obtain ⟨W9, rfl⟩ : ∃ W9 : World, W9 = W8 := ⟨_, rfl⟩
                        have HM9 := HM8
                        have HX9 := HX8
                        have HP9 := HP8
                        have HK9 := HK8
                        have HB9 := HB8
                        have HL := HL8
                        have HTl := HTd
                        clear HM8 HX8 HP8 HK8 HB8 HL8 HTd
                        generalize firstL g (growsB g false) g.toks.length (p.right.drop (k + 1)) = t at *
                        have HFm : Hid (F2[m]? = some (F2.getD m [])) := hidden (by rw [List.getD_eq_getElem?_getD, List.getElem?_eq_getElem hmF]; rfl)
                        obtain ⟨bq, oq, uq, hqe, _, hcq, hrq⟩ := Rows2.row HM9.out.rows HFm.out
                        simp only [Option.some.injEq, Addr.mk.injEq] at hqe
                        obtain ⟨rfl, rfl, -⟩ := hqe
                        rw [Nat.zero_add] at hcq
                        obtain ⟨Aq, cq, rfl, _, _⟩ := hrq.val
                        have HTb := hidden HTl.out.1
                        have hbf := (getD_bd HPa.out.known.bd m).len
                        have hbt := HTb.out.len
                        have HC := hidden (ref11_Union _ _ _ _ W9 HL.out (hrq.mono (fun _ h => h.1)) (by omega) (by omega))
                        rw [union_bring HPa.out.known.bd HTb.out m] at HC
                        have hd1 : W9.cell? ⟨xb, 1, none⟩ = some (.int .i64 (m : Int)) := HX9.out.cell 1
                        have hqW : q < W9.heap.size := by obtain ⟨_, _, _, h3, _⟩ := HM9.out; exact (h3 q rfl).2
                        have hmR : m < g.rules.length := by have := HXn.out.2; omega
                        have HPI : Hid (PassAt g (growsB g false) (reachB g) F (Seen g (reachB g) i p (k + 1)) (F2.set m (mergeU (F2.getD m []) t)) (nb || decide ((F2.getD m []).length < (mergeU (F2.getD m []) t).length))) := hidden (PassAt.item HWh.out HPa.out HPm.out HRb.out HKx.out rfl HTl.out (fun p' k' h => seen_step h))
                        obtain ⟨AL, cL, rfl, _, _⟩ := HL.out.val
                        have HLd := hidden (longer_dec (F2.getD m []) (mergeU (F2.getD m []) t))
                        clear hrq HPa HTl HTb HFm
                        obtain ⟨mg, hmg⟩ : ∃ mg, mg = mergeU (F2.getD m []) t := ⟨_, rfl⟩
                        rw [← hmg] at HPI HC HLd
                        clear hmg
                        obtain ⟨fr, hfr⟩ : ∃ fr, fr = F2.getD m [] := ⟨_, rfl⟩
                        rw [← hfr] at HPI HC HLd hcq hbf
                        clear hfr
                        go_wp2_with fail
                        refine HC.out.mono ?_
                        rintro e W10 ⟨⟨u10, rfl, hu10⟩, hb10⟩
                        have HM10 := hidden (HM9.out.below hb10)
                        have HX10 := hidden (HX9.out.below hb10 HX9.out.lt)
                        have HP10 := hidden (HP9.out.below hb10 HP9.out.lt)
                        have HK10 := hidden (HK9.out.below hb10)
                        have HB10 := hidden (HB9.out.trans (hb10.mono HB9.out.size))
                        have hz10 := hb10.size
                        have hw49 := HK9.out.size
                        have hcq2 := cell_onI hcq hb10
                        obtain ⟨g9, c9, u9, hv9, hc91, hc92, hwq9, hqW9, hqX9, hcq9, hfq9, hall9⟩ := HM10.out.put hmF (u := u10) (l := mg) (hu10.out.mono (fun j hj => ⟨hj.2, fun e => by simp [Value.ownBlock] at e; have := hj.1; omega, fun h => by have := hj.1; have := h.1; omega⟩))
                        simp only [Value.slice.injEq, Option.some.injEq, Addr.mk.injEq] at hv9
                        obtain ⟨⟨rfl, -, -⟩, -, -⟩ := hv9
                        obtain ⟨A10, c10, rfl, _, _⟩ := hu10.out.val
                        have HMn := hidden hall9
                        have hqp : pb ≠ q := by omega
                        have hxq : xb ≠ q := hxq0
                        have HPn := hidden (HP10.out.far (p := ⟨q, m, none⟩) hqp (.slice A10 mg.length c10))
                        have HKn9 := hidden (HK10.out.setCell (p := ⟨q, m, none⟩) hqX9 (.slice A10 mg.length c10))
                        have HBn := hidden (HB10.out.setCell (p := ⟨q, m, none⟩) hwq9 (.slice A10 mg.length c10))
                        have hd2 : W10.cell? ⟨xb, 1, none⟩ = some (.int .i64 (m : Int)) := HX10.out.cell 1
                        clear hall9 hqX9 hc91 hc92 hcq9 HM9 HX9 HP9 HK9 HB9 HM10 HX10 HP10 HK10 HB10 hb10 hu10 HC hcq hd1 HL
                        cases nb with
                        | true =>
                          go_wp2
                          go_roundg (p.right.length - (k + 1))
                          case measure => omega
                          case rel => exact ⟨k + 1, _, true, by omega, rfl, by go_num, rfl, HPI, HMn, HPn, HKn9, HBn⟩
                        | false =>
                          go_wp2
                          go_roundg (p.right.length - (k + 1))
                          case measure => omega
                          case rel => exact ⟨k + 1, _, _, by omega, rfl, by go_num, rfl, HPI, HMn, HPn, HKn9, HBn⟩
                  · obtain rfl : k = p.right.length := by omega
                    have HPq := hidden (HPa.out.idle (done' := fun p' _ => p' ∈ g.prods.take (i + 1) ∧ atB (reachB g) p'.left = true) (fun p' k' h => seen_end HPx.out rfl h))
                    clear HPa HPp HRv HRn
                    go_wp2
                    go_roundg (g.prods.length - (i + 1))
                    case measure => omega
                    case rel => exact ⟨i + 1, F2, nb, by omega, rfl, by go_num, rfl, HPq, HM, HK, HB⟩
            · obtain rfl : i = g.prods.length := by omega
              cases nb
              · have HFe := hidden (HPa.out.end_ (fun p hp hrb k => ⟨by rw [List.take_of_length_le (Nat.le_refl _)]; exact hp, hrb⟩))
                have HFin : Hid (Rows2 wr (Old wr) (.slice (some ⟨q, 0, none⟩) g.rules.length co) P) := hidden (by rw [HE.out, ← HFe.out]; exact HM.out.old)
                clear HPa HFe HM HK
                go_wp2
                go_ret
                exact ⟨⟨_, rfl, HFin⟩, HB.out⟩
              · have hlt2 := HPa.out.yes rfl
                have HKn2 := hidden HPa.out.known
                clear HPa
                go_wp2
                go_roundg (M + 1 - (n + 1))
                case measure => omega
                case rel => exact ⟨n + 1, F', rfl, by go_num, by omega, HKn2, HM, HK, HB⟩
end Go.Proofs.Ytmlggfapnkhcaaa

namespace Go.Proofs.Ytmlggfapnkhcaaa
open Go.RowKit Go.Shelf

/-- Does a token stand behind a rule? -/
noncomputable def folHas (g : Gram) (r t : Int) : Bool := if 0 ≤ r ∧ r < (fol23 g).length then holdsB (t ∈ (fol23 g).getD r.toNat []) else false

set_option maxRecDepth 20000 in
set_option maxHeartbeats 8000000 in
theorem follow_Follows (a b c : Value) (g : Gram) (r t : Int) (w : World) (HG : GramIs w (Old w) a b c g) (hsm : Small g) :
    Calls Try.prog 33 #[.agg (gramCells a b c g), .int .i64 r, .int .i64 t] w fun e w' => e = .returned (.bool (folHas g r t)) ∧ Below w.heap.size w w' := by
  have HAl := hidden (fun (w' : World) (hb : Below w.heap.size w w') => follow_All a b c g w' (HG.old hb) hsm)
  have hN := hsm.toks
  have HBd := hidden (fun (n : Nat) => getD_bd (bd_fol23 g) n)
  have HFo : Hid (folHas g r t = if 0 ≤ r ∧ r < (fol23 g).length then holdsB (t ∈ (fol23 g).getD r.toNat []) else false) := hidden rfl
  obtain ⟨⟨A1, k1, rfl, v1, m1⟩, ⟨A2, k2, rfl, v2, m2⟩, ⟨A3, k3, rfl, v3, m3⟩⟩ := HG.vals
  clear HG hsm
  generalize folHas g r t = fo at *
  generalize fol23 g = F at *
  unfold gramCells at *
  have hbA := below_new w (.cells #[.slice A1 g.toks.length k1, .slice A2 g.rules.length k2, .slice A3 g.prods.length k3, .int .i64 g.start, .int .i64 g.states, .int .i64 g.text, .int .i64 g.nodes, .int .i64 g.pairs] 26)
  go_enter Try.func33, Try.ntmps33
  go_wp2_with fail
  refine (HAl.out _ hbA).mono ?_
  rintro e w2 ⟨⟨u, rfl, hu⟩, hb2⟩
  have hb := hbA.trans (hb2.mono hbA.size)
  obtain ⟨Au, cu, rfl, _, hcu⟩ := hu.out.value
  unfold maxLen at hcu
  clear hb2 HAl hbA
  rcases Int.lt_or_le r 0 with h0 | h0
  · have HE : Hid (fo = false) := hidden (by rw [HFo.out, if_neg (by omega)])
    have d0 : decide ((0 : Int) ≤ r) = false := decide_eq_false (by omega)
    clear hu h0
    go_wp2
    go_ret
    exact ⟨by rw [HE.out]; rfl, hb⟩
  · rcases Int.lt_or_le r F.length with h1 | h1
    · obtain ⟨m, rfl⟩ : ∃ m : Nat, r = (m : Int) := ⟨r.toNat, by omega⟩
      have hm : m < F.length := by omega
      have HE : Hid (fo = holdsB (t ∈ F.getD m [])) := hidden (by rw [HFo.out, if_pos ⟨h0, h1⟩, Int.toNat_natCast])
      have hF : F[m]? = some (F.getD m []) := by rw [List.getD_eq_getElem?_getD, List.getElem?_eq_getElem hm]; rfl
      obtain ⟨b4, o4, u4, rfl, hT4, hc4, hr4⟩ := Rows2.row hu.out hF
      have hT4 : b4 < w2.heap.size := hT4
      have HC := hidden (many_Has u4 (F.getD m []) t w2 hr4 (HBd.out m).1 (by have := (HBd.out m).len; omega))
      rw [contains_holds] at HC
      obtain ⟨A5, c5, rfl, _, _⟩ := hr4.val
      have d0 : decide ((0 : Int) ≤ (m : Int)) = true := decide_eq_true (by omega)
      have d1 : decide ((m : Int) < (F.length : Int)) = true := decide_eq_true (by omega)
      clear hu hF hr4 h0 h1
      generalize F.getD m [] = fr at *
      go_wp2_with fail
      refine HC.out.mono ?_
      rintro e w3 ⟨rfl, hb3⟩
      replace hb := hb.trans (hb3.mono hb.size)
      clear hb3
      go_wp2
      go_ret
      exact ⟨by rw [HE.out]; rfl, hb⟩
    · have HE : Hid (fo = false) := hidden (by rw [HFo.out, if_neg (by omega)])
      have d0 : decide ((0 : Int) ≤ r) = true := decide_eq_true h0
      have d1 : decide (r < (F.length : Int)) = false := decide_eq_false (by omega)
      clear hu h0 h1
      go_wp2
      go_ret
      exact ⟨by rw [HE.out]; rfl, hb⟩

set_option maxRecDepth 20000 in
set_option maxHeartbeats 8000000 in
theorem ref_Follows23 (a b c : Value) (g : Gram) (r t : Int) (w : World) (HG : GramIs w (Old w) a b c g) (hsm : Small g) (hT9 : g.toks.length ≤ 90000) :
    Calls Try.prog 34 #[.agg (gramCells a b c g), .int .i64 r, .int .i64 t] w fun e w' => e = .returned (.bool (folHas g r t)) ∧ Below w.heap.size w w' := by
  have HAl := hidden (fun (w' : World) (hb : Below w.heap.size w w') => ref_All23 a b c g w' (HG.old hb) hsm hT9)
  have hN := hsm.toks
  have HBd := hidden (fun (n : Nat) => getD_bd (bd_fol23 g) n)
  have HFo : Hid (folHas g r t = if 0 ≤ r ∧ r < (fol23 g).length then holdsB (t ∈ (fol23 g).getD r.toNat []) else false) := hidden rfl
  obtain ⟨⟨A1, k1, rfl, v1, m1⟩, ⟨A2, k2, rfl, v2, m2⟩, ⟨A3, k3, rfl, v3, m3⟩⟩ := HG.vals
  clear HG hsm
  generalize folHas g r t = fo at *
  generalize fol23 g = F at *
  unfold gramCells at *
  have hbA := below_new w (.cells #[.slice A1 g.toks.length k1, .slice A2 g.rules.length k2, .slice A3 g.prods.length k3, .int .i64 g.start, .int .i64 g.states, .int .i64 g.text, .int .i64 g.nodes, .int .i64 g.pairs] 26)
  go_enter Try.func34, Try.ntmps34
  go_wp2_with fail
  refine (HAl.out _ hbA).mono ?_
  rintro e w2 ⟨⟨u, rfl, hu⟩, hb2⟩
  have hb := hbA.trans (hb2.mono hbA.size)
  obtain ⟨Au, cu, rfl, _, hcu⟩ := hu.out.value
  unfold maxLen at hcu
  clear hb2 HAl hbA
  rcases Int.lt_or_le r 0 with h0 | h0
  · have HE : Hid (fo = false) := hidden (by rw [HFo.out, if_neg (by omega)])
    have d0 : decide ((0 : Int) ≤ r) = false := decide_eq_false (by omega)
    clear hu h0
    go_wp2
    go_ret
    exact ⟨by rw [HE.out]; rfl, hb⟩
  · rcases Int.lt_or_le r F.length with h1 | h1
    · obtain ⟨m, rfl⟩ : ∃ m : Nat, r = (m : Int) := ⟨r.toNat, by omega⟩
      have hm : m < F.length := by omega
      have HE : Hid (fo = holdsB (t ∈ F.getD m [])) := hidden (by rw [HFo.out, if_pos ⟨h0, h1⟩, Int.toNat_natCast])
      have hF : F[m]? = some (F.getD m []) := by rw [List.getD_eq_getElem?_getD, List.getElem?_eq_getElem hm]; rfl
      obtain ⟨b4, o4, u4, rfl, hT4, hc4, hr4⟩ := Rows2.row hu.out hF
      have hT4 : b4 < w2.heap.size := hT4
      have HC := hidden (ref11_has u4 (F.getD m []) t (Old w2) w2 hr4)
      skip
      obtain ⟨A5, c5, rfl, _, _⟩ := hr4.val
      have d0 : decide ((0 : Int) ≤ (m : Int)) = true := decide_eq_true (by omega)
      have d1 : decide ((m : Int) < (F.length : Int)) = true := decide_eq_true (by omega)
      clear hu hF hr4 h0 h1
      generalize F.getD m [] = fr at *
      go_wp2_with fail
      refine HC.out.mono ?_
      rintro e w3 ⟨rfl, rfl⟩
      go_wp2
      go_ret
      exact ⟨by rw [HE.out]; rfl, hb⟩
    · have HE : Hid (fo = false) := hidden (by rw [HFo.out, if_neg (by omega)])
      have d0 : decide ((0 : Int) ≤ r) = true := decide_eq_true h0
      have d1 : decide (r < (F.length : Int)) = false := decide_eq_false (by omega)
      clear hu h0 h1
      go_wp2
      go_ret
      exact ⟨by rw [HE.out]; rfl, hb⟩

set_option maxRecDepth 20000 in
set_option maxHeartbeats 8000000 in
theorem ref_End23 (a b c : Value) (g : Gram) (w : World) (HG : GramIs w (Old w) a b c g) (hsm : Small g) :
    Calls Try.prog 32 #[.agg (gramCells a b c g)] w fun r w' => r = .returned (.int .i64 (if rightB g = true then (g.toks.length : Int) else -1)) ∧ Below w.heap.size w w' := by
  have HR := hidden (fun (w' : World) (hb : Below w.heap.size w w') => ref_Right21 a b c g w' (HG.old hb) hsm.toks hsm.rules hsm.prods hsm.names)
  obtain ⟨⟨A1, k1, rfl, v1, m1⟩, ⟨A2, k2, rfl, v2, m2⟩, ⟨A3, k3, rfl, v3, m3⟩⟩ := HG.vals
  have hb0 : Below w.heap.size w (w.alloc (.cells #[.slice A1 g.toks.length k1, .slice A2 g.rules.length k2, .slice A3 g.prods.length k3, .int .i64 g.start, .int .i64 g.states, .int .i64 g.text, .int .i64 g.nodes, .int .i64 g.pairs] 26)) := (by repeat (first | (with_reducible exact Below.refl _ _) | (with_reducible assumption) | (with_reducible refine Below.drew ?_) | (with_reducible refine below_drewN ?_ _) | ((with_reducible refine below_alloc ?_ ?_); (focus (first | omega | (simp; done) | (simp; omega)))) | ((with_reducible refine below_set ?_ ?_); (focus (first | omega | (simp; done) | (simp; omega))))))
  have HB0 := hidden (Holds.new w 26 #[.slice A1 g.toks.length k1, .slice A2 g.rules.length k2, .slice A3 g.prods.length k3, .int .i64 g.start, .int .i64 g.states, .int .i64 g.text, .int .i64 g.nodes, .int .i64 g.pairs])
  clear HG hsm
  unfold gramCells at *
  generalize rightB g = rg at *
  cases rg
  all_goals
    go_enter Try.func32, Try.ntmps32
    obtain ⟨s0, s1, s2, s3, s4, s5, s6, s7⟩ := eight22 HB0.out
    go_wp2_with fail
    refine (HR.out _ hb0).mono ?_
    rintro r w2 ⟨rfl, hb2⟩
    replace HB0 := hidden (HB0.out.below hb2 HB0.out.lt)
    replace hb0 := hb0.trans (hb2.mono hb0.size)
    clear s0 s1 s2 s3 s4 s5 s6 s7 hb2
    obtain ⟨s0, s1, s2, s3, s4, s5, s6, s7⟩ := eight22 HB0.out
    go_wp2
    go_ret
    exact ⟨rfl, hb0⟩

end Go.Proofs.Ytmlggfapnkhcaaa

namespace Go.Proofs.Ytmlggfapnkhcaaa
open Go.RowKit Go.Shelf

/-- Is there so little in a grammar that all its tokens may be asked of all rules? -/
noncomputable def smallB (g : Gram) : Bool := fewB g && (decide (g.rules.length ≤ 12) && (decide (g.toks.length ≤ 12) && decide (g.prods.length ≤ 30)))
theorem smallB_iff {g : Gram} : smallB g = true ↔ fewB g = true ∧ g.rules.length ≤ 12 ∧ g.toks.length ≤ 12 ∧ g.prods.length ≤ 30 := by
  unfold smallB
  simp [Bool.and_eq_true]
theorem small_is {g : Gram} (h : smallB g = true) (hz : Named g) : Small g ∧ g.toks.length ≤ 90000 := ⟨few_is (smallB_iff.1 h).1 hz, by have := (smallB_iff.1 h).2.2.1; omega⟩
set_option maxRecDepth 20000 in
set_option maxHeartbeats 8000000 in
theorem law_Small (a b c : Value) (g : Gram) (w : World) (HG : GramIs w (Old w) a b c g) (hz : Named g) :
    Calls Try.prog 27 #[.agg (gramCells a b c g)] w fun r w' => r = .returned (.bool (smallB g)) ∧ Below w.heap.size w w' := by
  have F1 := hidden (fun (w' : World) (hb : Below w.heap.size w w') => law_Few a b c g w' (HG.old hb) hz)
  have HS := hidden (@smallB_iff g)
  obtain ⟨⟨A1, k1, rfl, v1, m1⟩, ⟨A2, k2, rfl, v2, m2⟩, ⟨A3, k3, rfl, v3, m3⟩⟩ := HG.vals
  have hb0 : Below w.heap.size w (w.alloc (.cells #[.slice A1 g.toks.length k1, .slice A2 g.rules.length k2, .slice A3 g.prods.length k3, .int .i64 g.start, .int .i64 g.states, .int .i64 g.text, .int .i64 g.nodes, .int .i64 g.pairs] 26)) := (by repeat (first | (with_reducible exact Below.refl _ _) | (with_reducible assumption) | (with_reducible refine Below.drew ?_) | (with_reducible refine below_drewN ?_ _) | ((with_reducible refine below_alloc ?_ ?_); (focus (first | omega | (simp; done) | (simp; omega)))) | ((with_reducible refine below_set ?_ ?_); (focus (first | omega | (simp; done) | (simp; omega))))))
  have HB0 := hidden (Holds.new w 26 #[.slice A1 g.toks.length k1, .slice A2 g.rules.length k2, .slice A3 g.prods.length k3, .int .i64 g.start, .int .i64 g.states, .int .i64 g.text, .int .i64 g.nodes, .int .i64 g.pairs])
  clear HG hz
  unfold gramCells at *
  generalize smallB g = sm at *
  generalize fewB g = fw at *
  have hcs : (fw = false ∧ sm = false) ∨ (fw = true ∧ ¬ g.rules.length ≤ 12 ∧ sm = false) ∨ (fw = true ∧ g.rules.length ≤ 12 ∧ ¬ g.toks.length ≤ 12 ∧ sm = false) ∨ (fw = true ∧ g.rules.length ≤ 12 ∧ g.toks.length ≤ 12 ∧ ¬ g.prods.length ≤ 30 ∧ sm = false) ∨ (fw = true ∧ g.rules.length ≤ 12 ∧ g.toks.length ≤ 12 ∧ g.prods.length ≤ 30 ∧ sm = true) := by
    have h := HS.out
    cases fw
    · left; refine ⟨rfl, ?_⟩
      cases sm
      · rfl
      · have := (h.1 rfl).1; cases this
    · right
      by_cases h1 : g.rules.length ≤ 12
      · right
        by_cases h2 : g.toks.length ≤ 12
        · right
          by_cases h3 : g.prods.length ≤ 30
          · right; exact ⟨rfl, h1, h2, h3, h.2 ⟨rfl, h1, h2, h3⟩⟩
          · left; refine ⟨rfl, h1, h2, h3, ?_⟩
            cases sm
            · rfl
            · exact absurd (h.1 rfl).2.2.2 h3
        · left; refine ⟨rfl, h1, h2, ?_⟩
          cases sm
          · rfl
          · exact absurd (h.1 rfl).2.2.1 h2
      · left; refine ⟨rfl, h1, ?_⟩
        cases sm
        · rfl
        · exact absurd (h.1 rfl).2.1 h1
  clear HS
  rcases hcs with ⟨rfl, rfl⟩ | ⟨rfl, h1, rfl⟩ | ⟨rfl, h1, h2, rfl⟩ | ⟨rfl, h1, h2, h3, rfl⟩ | ⟨rfl, h1, h2, h3, rfl⟩
  all_goals
    go_enter Try.func27, Try.ntmps27
    obtain ⟨s0, s1, s2, s3, s4, s5, s6, s7⟩ := eight22 HB0.out
    go_wp2_with fail
    refine (F1.out _ hb0).mono ?_
    rintro r w2 ⟨rfl, hb2⟩
    replace HB0 := hidden (HB0.out.below hb2 HB0.out.lt)
    replace hb0 := hb0.trans (hb2.mono hb0.size)
    clear s0 s1 s2 s3 s4 s5 s6 s7 hb2 F1
    obtain ⟨s0, s1, s2, s3, s4, s5, s6, s7⟩ := eight22 HB0.out
    (try have d1 : decide ((g.rules.length : Int) ≤ 12) = true := decide_eq_true (by omega))
    (try have d1 : decide ((g.rules.length : Int) ≤ 12) = false := decide_eq_false (by omega))
    (try have d2 : decide ((g.toks.length : Int) ≤ 12) = true := decide_eq_true (by omega))
    (try have d2 : decide ((g.toks.length : Int) ≤ 12) = false := decide_eq_false (by omega))
    (try have d3 : decide ((g.prods.length : Int) ≤ 30) = true := decide_eq_true (by omega))
    (try have d3 : decide ((g.prods.length : Int) ≤ 30) = false := decide_eq_false (by omega))
    go_wp2
    go_ret
    exact ⟨rfl, hb0⟩
end Go.Proofs.Ytmlggfapnkhcaaa
