/-
  yield.Find.
-/
import Derived.Test.YtihblifkbljgaaaYieldIter
import Derived.Test.YtihblifkbljgaaaHead
namespace Go.Proofs.Ytihblifkbljgaaa
open Go.RowKit Go.Shelf
attribute [local go_sem] Oper.semAt_some
attribute [local simp] wide_round_fn

def hitY (t : List Node) (at_ : Int) (k : Nat) : Prop := (fromY t (leavesOf t) k : Int) ≤ at_ ∧ at_ < (fromY t (leavesOf t) (k + 1) : Int)
noncomputable instance (t : List Node) (at_ : Int) (k : Nat) : Decidable (hitY t at_ k) := by unfold hitY; exact inferInstance
noncomputable def findY (t : List Node) (at_ : Int) : List Nat → Int
  | [] => -1
  | k :: r => if hitY t at_ k then (nodeY t k : Int) else findY t at_ r
noncomputable def findOf (t : List Node) (at_ : Int) : Int := findY t at_ (List.range (leavesOf t).length)
theorem findY_miss {t : List Node} {at_ : Int} : ∀ l : List Nat, (∀ k ∈ l, ¬ hitY t at_ k) → findY t at_ l = -1 := by
  intro l
  induction l with
  | nil => intro _; rfl
  | cons x l ih => intro h; unfold findY; rw [if_neg (h x (by simp))]; exact ih (fun k hk => h k (by simp [hk]))
theorem findY_hit {t : List Node} {at_ : Int} {x : Nat} (hx : hitY t at_ x) : ∀ l r : List Nat, (∀ k ∈ l, ¬ hitY t at_ k) → findY t at_ (l ++ x :: r) = (nodeY t x : Int) := by
  intro l r
  induction l with
  | nil => intro _; unfold findY; rw [List.nil_append]; exact if_pos hx
  | cons y l ih => intro h; rw [List.cons_append]; unfold findY; rw [if_neg (h y (by simp))]; exact ih (fun k hk => h k (by simp [hk]))

theorem wd_facts {w : World} {T : Nat → Prop} {t : List Node} (x : Wd w T t) : x.1.1 < (leavesOf t).length ∧ nodeY t x.1.1 < t.length ∧ ((ownY t x.1.1 : Nat) : Int) + (leafAt t (nodeY t x.1.1)).text.size = (fromY t (leavesOf t) (x.1.1 + 1) : Nat) ∧ fromY t (leavesOf t) (x.1.1 + 1) ≤ bulkT t ∧ fromY t (leavesOf t) x.1.1 ≤ ownY t x.1.1 := by
  obtain ⟨⟨k, A, c⟩, i, hi, hit, hp⟩ := x
  have hk := (List.getElem?_eq_some_iff.1 hi).1
  have h1 : nodeY t k = i := by unfold nodeY; rw [hi]; rfl
  have h2 := fromY_succ (t := t) hi
  have h3 := fromY_le t (k := k + 1) (by omega)
  unfold ownY
  dsimp only at *
  rw [h1]
  unfold wordLen at h2
  exact ⟨hk, hit, by rw [h2]; omega, h3, by omega⟩

def FdI (w : World) {w1 : World} {T : Nat → Prop} {t : List Node} (at_ : Int) (pre : List (Wd w1 T t)) (W : World) : Prop :=
  Holds W w.heap.size 3 #[.int .i64 at_] ∧ Holds W (w.heap.size + 1) 3 #[.int .i64 0] ∧ (∀ k ∈ pre.map (·.1.1), ¬ hitY t at_ k) ∧ Below w.heap.size w W ∧ w.heap.size + 1 + 1 < W.heap.size
def FdX (w : World) {w1 : World} {T : Nat → Prop} {t : List Node} (at_ : Int) (c : Code) (pre : List (Wd w1 T t)) (W : World) : Prop :=
  c = .ret ∧ ∃ pre' x, pre = pre' ++ [x] ∧ (∀ k ∈ pre'.map (·.1.1), ¬ hitY t at_ k) ∧ hitY t at_ x.1.1 ∧ Holds W (w.heap.size + 1) 3 #[.int .i64 (nodeY t x.1.1 : Int)] ∧ Below w.heap.size w W

set_option maxRecDepth 20000 in
set_option maxHeartbeats 4000000 in
theorem yield_find (v : Value) (t : List Node) (at_ : Int) (w : World) (h4 : bulkT t ≤ 1000000000) (hN : Nds w (Old w) v t) :
    Calls Try.prog 24 #[v, .int .i64 at_] w fun r w' => r = .returned (.int .i64 (findOf t at_)) ∧ Below w.heap.size w w' := by
  have HN := hidden hN
  obtain ⟨A, c, rfl, hc1, hc2⟩ := hN.value
  unfold maxLen at hc2
  clear hN
  (refine (callsIn_wide (n := 5)).1 ?_; refine callsIn_of_wp_marks Try.func24 rfl trivial ?_ rfl; simp only [Try.ntmps24, List.size_toArray, List.length_cons, List.length_nil, Nat.reduceAdd, Nat.reduceSub, Array.replicate_succ, Array.replicate_zero, List.push_toArray, List.append_toArray, List.nil_append, List.cons_append])
  gi_wp2_with (refine ⟨trivial, ?_⟩; gi_at_call 62; refine (callsIn_wide.2 (yield_words _ _ _ _ rfl _)).mono ?_; rintro e w' ⟨rfl, rfl⟩)
  refine range_lawK (by omega) rfl (enters_of Try.func77 (by kernel_rfl) rfl)
    (ywords1_stops 4 (by omega) (w.heap.size + 1 + 1) _ (fun k => k < w.heap.size ∨ k = w.heap.size + 1 + 1) (by intro k hk; simp; omega) t (.slice A t.length c) h4 (((HN.out.alloc _).alloc _).alloc _ |>.mono (fun k hk => .inl hk)) (.inr rfl) (by go_simp))
    KeepsT.trans (fun W l o o' hl ho hc _ => KeepsT.loop (by intro k hk; simp at hl; omega) ho hc) (Below.refl _ _) (fun _ => rfl)
    (FdI w at_) (FdX w at_) ?i0 ?ix ?start ?round ?done ?stop
  case i0 =>
    rintro pre W W' ⟨h0, h1, h2, hb, hz⟩ hc
    exact ⟨hc.holds h0, hc.holds h1, h2, hb.trans (hc.below (by simp; omega) hb.size), Nat.lt_of_lt_of_le hz hc.size⟩
  case ix =>
    rintro c pre W W' ⟨h, pre', x, h0, h1, h2, h3, hb⟩ hc
    exact ⟨h, pre', x, h0, h1, h2, hc.holds h3, hb.trans (hc.below (by simp; omega) hb.size)⟩
  case start => exact ⟨(by repeat (first | (with_reducible assumption) | ((with_reducible refine holds_new ?_); (focus (first | rfl | (simp; done)))) | (with_reducible refine Holds.alloc ?_ _) | (with_reducible refine Holds.drew ?_))), (by repeat (first | (with_reducible assumption) | ((with_reducible refine holds_new ?_); (focus (first | rfl | (simp; done)))) | (with_reducible refine Holds.alloc ?_ _) | (with_reducible refine Holds.drew ?_))), by simp, (by repeat (first | (with_reducible exact Below.refl _ _) | (with_reducible assumption) | (with_reducible refine Below.drew ?_) | ((with_reducible refine below_alloc ?_ ?_); (focus (first | omega | (simp; done) | (simp; omega)))) | ((with_reducible refine below_set ?_ ?_); (focus (first | omega | (simp; done) | (simp; omega)))))), by simp⟩
  case round =>
    rintro l pre x W ⟨h0, h1, h2, hb, hz⟩
    obtain ⟨f1, f2, f3, f4, f5⟩ := wd_facts x
    dsimp only [encY, valY]
    gi_wp2
    refine ⟨KeepsOthers.alloc _ _, KeepsT.below (B := W.heap.size) (by omega) (Nat.le_refl _) (by repeat (first | (with_reducible exact Below.refl _ _) | (with_reducible assumption) | (with_reducible refine Below.drew ?_) | ((with_reducible refine below_alloc ?_ ?_); (focus (first | omega | (simp; done) | (simp; omega)))) | ((with_reducible refine below_set ?_ ?_); (focus (first | omega | (simp; done) | (simp; omega)))))), ⟨h0.alloc _, h1.alloc _, h2, (by repeat (first | (with_reducible exact Below.refl _ _) | (with_reducible assumption) | (with_reducible refine Below.drew ?_) | ((with_reducible refine below_alloc ?_ ?_); (focus (first | omega | (simp; done) | (simp; omega)))) | ((with_reducible refine below_set ?_ ?_); (focus (first | omega | (simp; done) | (simp; omega)))))), by simp; omega⟩, ?_⟩
    rintro W2 l2 pre2 hc2 ⟨g0, g1, g2, gb, gz⟩ hlen2 hl2 hr2
    have g5 := hc2.holds (Holds.new W _ _)
    clear h0 h1 h2 hb hz hc2
    have HE : Hid (∃ y, y = x) := hidden ⟨x, rfl⟩
    have HH := hidden (show hitY t at_ x.1.1 ↔ ((fromY t (leavesOf t) x.1.1 : Nat) : Int) ≤ at_ ∧ at_ < ((fromY t (leavesOf t) (x.1.1 + 1) : Nat) : Int) from Iff.rfl)
    generalize hnd : nodeY t x.1.1 = nd at *
    generalize fromY t (leavesOf t) x.1.1 = f0 at *
    generalize fromY t (leavesOf t) (x.1.1 + 1) = fe at *
    generalize ownY t x.1.1 = ow at *
    generalize (leafAt t nd).text = tx at *
    generalize (leafAt t nd).lead.length = ln at *
    generalize (leafAt t nd).n = tk at *
    have HND := hidden hnd
    have HW := hidden (word_end (nd : Int) f0 ow x.1.2.1 ln x.1.2.2 tk tx)
    have c0 : W2.cell? ⟨w.heap.size, 0, none⟩ = some (.int .i64 at_) := g0.cell 0
    have c1 : W2.cell? ⟨W.heap.size, 0, none⟩ = some (.int .i64 nd) := g5.cell 0
    have c2 : W2.cell? ⟨W.heap.size, 1, none⟩ = some (.int .i64 f0) := g5.cell 1
    have c3 : W2.cell? ⟨W.heap.size, 2, none⟩ = some (.int .i64 ow) := g5.cell 2
    have c4 : W2.cell? ⟨W.heap.size, 3, none⟩ = some (.slice x.1.2.1 ln x.1.2.2) := g5.cell 3
    have c5 : W2.cell? ⟨W.heap.size, 4, none⟩ = some (.int .i64 tk) := g5.cell 4
    have c6 : W2.cell? ⟨W.heap.size, 5, none⟩ = some (.string tx) := g5.cell 5
    have y0 := Ext.cell c0; have y1 := Ext.cell c1; have y2 := Ext.cell c2; have y3 := Ext.cell c3; have y4 := Ext.cell c4; have y5 := Ext.cell c5; have y6 := Ext.cell c6
    clear hnd hlen2 hl2 hr2
    have e1 : 0 ≤ (ow : Int) ∧ (ow : Int) ≤ 1000000000000 := by omega
    have e2 : tx.size ≤ 1000000000000 := by omega
    clear c0 c1 c2 c3 c4 c5 c6
    have HM : Hid (∀ w', Below W2.heap.size W2 w' → ¬ hitY t at_ x.1.1 → roundEndK (KeepsT (fun k => k < w.heap.size ∨ k = w.heap.size + 1 + 1) 3) (FdI w at_) (FdX w at_) (pre2 ++ [x]) W2 .normal { tmps := #[], defers := [] } w') := hidden (fun w' hb' hn => by
      refine ⟨KeepsOthers.of_below hb', KeepsT.below (B := W2.heap.size) (by omega) (Nat.le_refl _) hb', g0.below hb' g0.lt, g1.below hb' g1.lt, ?_, gb.trans (hb'.mono gb.size), Nat.lt_of_lt_of_le gz hb'.size⟩
      intro k hk
      rw [List.map_append, List.mem_append] at hk
      rcases hk with hk | hk
      · exact g2 k hk
      · simp at hk; subst hk; exact hn)
    by_cases a1 : (f0 : Int) ≤ at_
    · by_cases a2 : at_ < (fe : Int)
      · have f1' := hidden (HH.out.2 ⟨a1, a2⟩)
        gi_wp2
        refine wpIn_region_ext (by kernel_rfl) (by kernel_rfl) rfl ?_
        repeat (gi_big_quiet_step ((gi_at_call 63; exact Ext.callIn (callsIn_wide.2 (HW.out _ e1 e2)))))
        refine wpQuietIn_nil ?_
        intro w' hb'
        obtain ⟨q0, qf⟩ := old_cells hb'
        have r1 := (q0 _ 0 g5.lt).trans (g5.cell 0)
        have r2 := (qf _ 0 g1.lt).trans (g1.frozen 0)
        have r3 := (q0 _ 0 g1.lt).trans (g1.cell 0)
        clear q0 qf y0 y1 y2 y3 y4 y5 y6
        have hz := hb'.size
        gi_wp2
        refine ⟨(KeepsOthers.of_below hb').trans (KeepsOthers.setCell _ _ _), rfl, pre2, x, rfl, g2, f1'.out, ?_, (gb.trans (hb'.mono gb.size)).setCell (p := ⟨_, _, none⟩) (by dsimp only; omega) _⟩
        rw [HND.out]
        exact (g1.below hb' g1.lt).set 0 _
      · have f1' := hidden (fun h => a2 (HH.out.1 h).2)
        have a3 : decide (at_ < (ow : Int) + tx.size) = false := decide_eq_false (by omega)
        gi_wp2
        refine wpIn_region_ext (by kernel_rfl) (by kernel_rfl) rfl ?_
        repeat (gi_big_quiet_step ((gi_at_call 63; exact Ext.callIn (callsIn_wide.2 (HW.out _ e1 e2)))))
        refine wpQuietIn_nil ?_
        intro w' hb'
        gi_wp2
        exact HM.out w' hb' f1'.out
    · have f1' := hidden (fun h => a1 (HH.out.1 h).1)
      have a3 : decide ((f0 : Int) ≤ at_) = false := decide_eq_false a1
      gi_wp2
      refine wpIn_region_ext (by kernel_rfl) (by kernel_rfl) rfl ?_
      repeat (gi_big_quiet_step (fail))
      refine wpQuietIn_nil ?_
      intro w' hb'
      gi_wp2
      exact HM.out w' hb' f1'.out
  case done =>
    rintro D xs W hD hS ⟨h0, h1, h2, hb, hz⟩ hK
    have r1 := h1.c0; have r2 := h1.frozen 0; have r3 := h1.lt
    have HE : Hid (findOf t at_ = -1) := hidden (findY_miss _ (by rw [← hS]; exact h2))
    clear h2
    gi_wp2
    refine leaves_marks (B := w.heap.size) [D] _ ⟨by simp, ?_⟩ ?_
    · intro D' hD'
      simp at hD'
      subst hD'
      exact ⟨by simp at hD; omega, (Below.heap_setCell _ _ _ _ (by simp at hD; dsimp only; omega)).trans hK⟩
    · intro W' hc
      have q1 := hc.holds (h1.set 0 (.int .i64 (-1)))
      have e1 : W'.cell? ⟨w.heap.size + 1, 0, none⟩ = some (.int .i64 (-1)) := q1.cell 0
      refine ⟨.int .i64 (-1), ?_, ?_, ?_⟩
      · simp [results, Try.f24, go_sem, e1]
      · rw [HE.out]
      · exact Below.trans (b := W.setCell _ _) (hb.setCell (p := ⟨_, _, none⟩) (by dsimp only; omega) _) (hc.below (Nat.le_refl _) (by have := hb.size; simp; omega))
  case stop =>
    rintro D c pre W hD hS ⟨rfl, pre', x, rfl, h1, h2, h3, hb⟩ hK
    have HE : Hid (findOf t at_ = (nodeY t x.1.1 : Int)) := hidden (by
      obtain ⟨r, hr⟩ := hS
      unfold findOf
      rw [← hr]
      simp only [List.map_append, List.map_cons, List.map_nil, List.append_assoc, List.cons_append, List.nil_append]
      exact findY_hit h2 _ _ h1)
    clear h1 h2
    gi_wp2
    refine leaves_marks (B := w.heap.size) [D] _ ⟨by simp, ?_⟩ ?_
    · intro D' hD'
      simp at hD'
      subst hD'
      exact ⟨by simp at hD; omega, hK⟩
    · intro W' hc
      have e1 : W'.cell? ⟨w.heap.size + 1, 0, none⟩ = _ := (hc.holds h3).cell 0
      refine ⟨.int .i64 (nodeY t x.1.1 : Int), ?_, ?_, ?_⟩
      · simp [results, Try.f24, go_sem, e1]
      · rw [HE.out]
      · exact hb.trans (hc.below (Nat.le_refl _) hb.size)
end Go.Proofs.Ytihblifkbljgaaa
