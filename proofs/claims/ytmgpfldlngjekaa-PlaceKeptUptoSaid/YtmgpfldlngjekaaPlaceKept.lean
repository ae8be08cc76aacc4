/-
  PlaceKept: for every text, stretches and text put, of together at most 1048576 letters and values, the law returns true.
-/
import Derived.Test.YtmgpfldlngjekaaPlaceKnows
import Derived.Test.YtmgpfldlngjekaaPlaceMove
namespace Go.Proofs.Ytmgpfldlngjekaa
open Go.RowKit Go.Shelf

theorem place_RightB (f t n : Int) (w : World) :
    Calls Try.prog 11 #[.agg #[.int .i64 f, .int .i64 t], .int .i64 n] w fun e w' => e = .returned (.bool (rightB f t n)) ∧ Below w.heap.size w w' :=
  (place_Right f t n w).mono fun _ _ ⟨h, e⟩ => ⟨h, e ▸ (Below.refl _ _).alloc (Nat.le_refl _) _⟩
theorem rightB_true {f t n : Int} (h : 0 ≤ f ∧ f ≤ t ∧ t ≤ n) : rightB f t n = true := by simp [rightB]; omega
theorem rightB_false {f t n : Int} (h : ¬ (0 ≤ f ∧ f ≤ t ∧ t ≤ n)) : rightB f t n = false := by
  rw [Bool.eq_false_iff]; simp [rightB]; omega
theorem right_yes (f t n : Int) (h : 0 ≤ f ∧ f ≤ t ∧ t ≤ n) (w : World) :
    Calls Try.prog 11 #[.agg #[.int .i64 f, .int .i64 t], .int .i64 n] w fun e w' => e = .returned (.bool true) ∧ w.alloc (.cells #[.int .i64 f, .int .i64 t] 23) = w' := by
  have := place_Right f t n w; rwa [rightB_true h] at this
theorem right_no (f t n : Int) (h : ¬ (0 ≤ f ∧ f ≤ t ∧ t ≤ n)) (w : World) :
    Calls Try.prog 11 #[.agg #[.int .i64 f, .int .i64 t], .int .i64 n] w fun e w' => e = .returned (.bool false) ∧ w.alloc (.cells #[.int .i64 f, .int .i64 t] 23) = w' := by
  have := place_Right f t n w; rwa [rightB_false h] at this

set_option maxHeartbeats 1000000 in
theorem kept_out1 (s p : ByteArray) (f t g u : Int) (w : World) (h : ¬ (0 ≤ f ∧ f ≤ t ∧ t ≤ (s.size : Int))) :
    Calls Try.prog 4 #[.string s, .agg #[.int .i64 f, .int .i64 t], .agg #[.int .i64 g, .int .i64 u], .string p] w fun e w' => e = .returned (.bool true) ∧ Below w.heap.size w w' := by
  have H1 := hidden (right_no f t s.size h)
  clear h
  go_enter Try.func4, Try.ntmps4
  go_wp2_with (first
    | (go_at_call 11; refine (H1.out _).mono ?_; rintro e w' ⟨rfl, rfl⟩)
    | (go_at_call 10; refine (knows _).mono ?_; rintro e w3 ⟨rfl, hb3⟩))
  go_ret
  exact ⟨rfl, Below.trans (by exact (by repeat (first | (with_reducible exact Below.refl _ _) | (with_reducible assumption) | (with_reducible refine Below.drew ?_) | ((with_reducible refine below_alloc ?_ ?_); (focus (first | omega | (simp; done) | (simp; omega)))) | ((with_reducible refine below_set ?_ ?_); (focus (first | omega | (simp; done) | (simp; omega))))))) (hb3.mono (by simp; omega))⟩

set_option maxHeartbeats 1000000 in
theorem kept_out2 (s p : ByteArray) (f t g u : Int) (w : World) (h0 : 0 ≤ f ∧ f ≤ t ∧ t ≤ (s.size : Int)) (h : ¬ (0 ≤ g ∧ g ≤ u ∧ u ≤ (s.size : Int))) :
    Calls Try.prog 4 #[.string s, .agg #[.int .i64 f, .int .i64 t], .agg #[.int .i64 g, .int .i64 u], .string p] w fun e w' => e = .returned (.bool true) ∧ Below w.heap.size w w' := by
  have H1 := hidden (right_yes f t s.size h0)
  have H2 := hidden (right_no g u s.size h)
  clear h h0
  go_enter Try.func4, Try.ntmps4
  go_wp2_with fail
  refine (H1.out _).mono ?_
  rintro e w1 ⟨rfl, rfl⟩
  go_wp2_with fail
  refine (H2.out _).mono ?_
  rintro e w1 ⟨rfl, rfl⟩
  go_wp2_with (go_at_call 10; refine (knows _).mono ?_; rintro e w3 ⟨rfl, hb3⟩)
  go_ret
  exact ⟨rfl, Below.trans (by exact (by repeat (first | (with_reducible exact Below.refl _ _) | (with_reducible assumption) | (with_reducible refine Below.drew ?_) | ((with_reducible refine below_alloc ?_ ?_); (focus (first | omega | (simp; done) | (simp; omega)))) | ((with_reducible refine below_set ?_ ?_); (focus (first | omega | (simp; done) | (simp; omega))))))) (hb3.mono (by simp; omega))⟩

/-- What the rest of the walk is told of the first move's and the second move's answers. -/
def KeptEnd (F T G B1 B2 C1 C2 : Nat) (bk : Bool) : Prop := F = T ∨ (F < T ∧ T ≤ G ∧ B1 = F ∧ B2 = T) ∨ (F < T ∧ G < T ∧ bk = true ∧ C1 = F ∧ C2 = T)

theorem len_is (f t : Nat) (h : f ≤ t) (ht : t ≤ 1048576) (L : Int) (hL : (t : Int) - f = L) (w : World) :
    Calls Try.prog 12 #[.agg #[.int .i64 f, .int .i64 t]] w fun e w' => e = .returned (.int .i64 L) ∧ Below w.heap.size w w' := by
  have := place_Len f t w (by omega) (by omega)
  unfold lenR at this
  rwa [if_pos (by omega), hL] at this

set_option maxHeartbeats 4000000 in
theorem kept_main (s p : ByteArray) (F T G U B1 B2 C1 C2 : Nat) (bk : Bool) (w : World) (h1 : F ≤ T) (h2 : T ≤ s.size) (h3 : G ≤ U) (h4 : U ≤ s.size) (h5 : s.size + p.size ≤ 1048576)
    (hm1 : ∀ w, Calls Try.prog 8 #[.agg #[.int .i64 F, .int .i64 T], .int .i64 G, .int .i64 (U - G), .int .i64 p.size] w fun e w' => e = .returned (.tuple #[.agg #[.int .i64 B1, .int .i64 B2], .bool true]) ∧ Below w.heap.size w w')
    (hm2 : ∀ w, Calls Try.prog 8 #[.agg #[.int .i64 B1, .int .i64 B2], .int .i64 G, .int .i64 p.size, .int .i64 (U - G)] w fun e w' => e = .returned (.tuple #[.agg #[.int .i64 C1, .int .i64 C2], .bool bk]) ∧ Below w.heap.size w w')
    (hB : B1 ≤ B2) (hX : B2 ≤ (s.extract 0 G ++ p ++ s.extract U s.size).size) (hB2 : B2 ≤ 1048576) (hE : (s.extract 0 G ++ p ++ s.extract U s.size).extract B1 B2 = s.extract F T) (hl : B2 - B1 = T - F)
    (hfin : KeptEnd F T G B1 B2 C1 C2 bk) :
    Calls Try.prog 4 #[.string s, .agg #[.int .i64 F, .int .i64 T], .agg #[.int .i64 G, .int .i64 U], .string p] w fun e w' => e = .returned (.bool true) ∧ Below w.heap.size w w' := by
  have H1 := hidden (right_yes F T s.size (by omega))
  have H2 := hidden (right_yes G U s.size (by omega))
  have H3 := hidden (fun w => (right_yes B1 B2 (s.extract 0 G ++ p ++ s.extract U s.size).size (by omega) w).mono fun _ _ ⟨h, e⟩ => (⟨h, e ▸ (Below.refl _ _).alloc (Nat.le_refl _) _⟩ : _ ∧ Below w.heap.size w _))
  obtain ⟨L, hL⟩ : ∃ L : Int, (T : Int) - F = L := ⟨_, rfl⟩
  have HL1 := hidden (len_is F T h1 (by omega) L hL)
  have HL2 := hidden (len_is B1 B2 hB hB2 L (by omega))
  have HM1 := hidden hm1
  have HM2 := hidden hm2
  clear hm1 hm2
  go_enter Try.func4, Try.ntmps4
  go_wp2_with fail
  refine (H1.out _).mono ?_
  rintro e w1 ⟨rfl, rfl⟩
  go_wp2_with fail
  refine (H2.out _).mono ?_
  rintro e w1 ⟨rfl, rfl⟩
  go_wp2_with fail
  have q0 : Holds ((((w.alloc (.cells #[.int .i64 F, .int .i64 T] 23)).alloc (.cells #[.int .i64 G, .int .i64 U] 23)).alloc (.cells #[.int .i64 F, .int .i64 T] 23)).alloc (.cells #[.int .i64 G, .int .i64 U] 23)) w.heap.size 23 #[.int .i64 F, .int .i64 T] := (by repeat (first | (with_reducible assumption) | ((with_reducible refine holds_new ?_); (focus (first | rfl | (simp; done)))) | (with_reducible refine Holds.alloc ?_ _) | (with_reducible refine Holds.drew ?_)))
  have q1 : Holds ((((w.alloc (.cells #[.int .i64 F, .int .i64 T] 23)).alloc (.cells #[.int .i64 G, .int .i64 U] 23)).alloc (.cells #[.int .i64 F, .int .i64 T] 23)).alloc (.cells #[.int .i64 G, .int .i64 U] 23)) (w.heap.size + 1) 23 #[.int .i64 G, .int .i64 U] := (by repeat (first | (with_reducible assumption) | ((with_reducible refine holds_new ?_); (focus (first | rfl | (simp; done)))) | (with_reducible refine Holds.alloc ?_ _) | (with_reducible refine Holds.drew ?_)))
  have hb : Below w.heap.size w ((((w.alloc (.cells #[.int .i64 F, .int .i64 T] 23)).alloc (.cells #[.int .i64 G, .int .i64 U] 23)).alloc (.cells #[.int .i64 F, .int .i64 T] 23)).alloc (.cells #[.int .i64 G, .int .i64 U] 23)) := (by repeat (first | (with_reducible exact Below.refl _ _) | (with_reducible assumption) | (with_reducible refine Below.drew ?_) | ((with_reducible refine below_alloc ?_ ?_); (focus (first | omega | (simp; done) | (simp; omega)))) | ((with_reducible refine below_set ?_ ?_); (focus (first | omega | (simp; done) | (simp; omega))))))
  generalize ((((w.alloc (.cells #[.int .i64 F, .int .i64 T] 23)).alloc (.cells #[.int .i64 G, .int .i64 U] 23)).alloc (.cells #[.int .i64 F, .int .i64 T] 23)).alloc (.cells #[.int .i64 G, .int .i64 U] 23)) = W0 at *
  have x0 := Ext.cell q0.c20; have x1 := Ext.cell q0.c21; have x2 := Ext.cell q1.c20; have x3 := Ext.cell q1.c21
  have HE := hidden hE; clear hE
  refine wp_region_ext (by kernel_rfl) (by kernel_rfl) ?_
  repeat (go_big_quiet_step (fail))
  refine wpQuiet_nil ?_
  intro w2 hb2
  clear x0 x1 x2 x3
  replace hb := hb.trans (hb2.mono hb.size)
  have p0 := q0.below hb2 q0.lt; have p1 := q1.below hb2 q1.lt
  clear q0 q1 hb2
  have c00 := p0.c20; have c01 := p0.c21; have c10 := p1.c20; have c11 := p1.c21
  go_wp2_with fail
  refine (HM1.out _).mono ?_
  rintro e w3 ⟨rfl, hb3⟩
  replace hb := hb.trans (hb3.mono hb.size)
  replace p0 := p0.below hb3 p0.lt; replace p1 := p1.below hb3 p1.lt
  clear hb3 c00 c01 c10 c11
  have c00 := p0.c20; have c01 := p0.c21; have c10 := p1.c20; have c11 := p1.c21
  go_wp2_with fail
  have hE := HE.out; clear HE
  generalize s.extract 0 G ++ p ++ s.extract U s.size = X at *
  have hX' : (B2 : Int) ≤ (X.size : Int) := by omega
  have hB' : (B1 : Int) ≤ (B2 : Int) := by omega
  have hT' : (T : Int) ≤ (s.size : Int) := by omega
  have hF' : (F : Int) ≤ (T : Int) := by omega
  have p2 := Holds.new w3 23 #[.int .i64 B1, .int .i64 B2]
  replace p0 := p0.alloc (.cells #[.int .i64 B1, .int .i64 B2] 23); replace p1 := p1.alloc (.cells #[.int .i64 B1, .int .i64 B2] 23)
  replace hb := hb.alloc hb.size (.cells #[.int .i64 B1, .int .i64 B2] 23)
  clear c00 c01 c10 c11
  generalize hw4 : w3.alloc (.cells #[.int .i64 B1, .int .i64 B2] 23) = w4 at *
  clear hw4
  have x0 := Ext.cell p0.c20; have x1 := Ext.cell p0.c21; have x2 := Ext.cell p1.c20; have x3 := Ext.cell p1.c21; have x4 := Ext.cell p2.c20; have x5 := Ext.cell p2.c21
  refine wp_region_ext (by kernel_rfl) (by kernel_rfl) ?_
  repeat (go_big_quiet_step ((go_at_call 11; exact Ext.call (H3.out _))))
  refine wpQuiet_nil ?_
  intro w5 hb5
  clear x0 x1 x2 x3 x4 x5 hE
  replace hb := hb.trans (hb5.mono hb.size)
  replace p0 := p0.below hb5 p0.lt; replace p1 := p1.below hb5 p1.lt; replace p2 := p2.below hb5 p2.lt
  clear hb5
  have c00 := p0.c20; have c01 := p0.c21; have c10 := p1.c20; have c11 := p1.c21; have c20 := p2.c20; have c21 := p2.c21
  go_wp2_with fail
  refine (HM2.out _).mono ?_
  rintro e w6 ⟨rfl, hb6⟩
  replace hb := hb.trans (hb6.mono hb.size)
  replace p0 := p0.below hb6 p0.lt; replace p1 := p1.below hb6 p1.lt; replace p2 := p2.below hb6 p2.lt
  clear hb6 c00 c01 c10 c11 c20 c21
  go_wp2_with fail
  have p3 := Holds.new w6 23 #[.int .i64 C1, .int .i64 C2]
  replace p0 := p0.alloc (.cells #[.int .i64 C1, .int .i64 C2] 23); replace p1 := p1.alloc (.cells #[.int .i64 C1, .int .i64 C2] 23); replace p2 := p2.alloc (.cells #[.int .i64 C1, .int .i64 C2] 23)
  replace hb := hb.alloc hb.size (.cells #[.int .i64 C1, .int .i64 C2] 23)
  generalize hw7 : w6.alloc (.cells #[.int .i64 C1, .int .i64 C2] 23) = w7 at *
  clear hw7
  have x0 := Ext.cell p0.c20; have x1 := Ext.cell p0.c21; have x2 := Ext.cell p1.c20; have x3 := Ext.cell p1.c21; have x4 := Ext.cell p2.c20; have x5 := Ext.cell p2.c21; have x6 := Ext.cell p3.c20; have x7 := Ext.cell p3.c21
  clear p0 p1 p2 p3 hX hB hB2 hl h1 h2 h3 h4 h5 hX' hB' hT' hF'
  have fin : ∀ w2, Below w7.heap.size w7 w2 → Below w.heap.size w w2 := fun w2 h => hb.trans (h.mono hb.size)
  have HF := hidden fin
  clear fin hb
  rcases hfin with h | ⟨h, k1, k2, k3⟩ | ⟨h, k1, k2, k3, k4⟩
  · have e0 : (L == 0) = true := by simp; omega
    clear hL h
    refine wp_region_ext (by kernel_rfl) (by kernel_rfl) ?_
    repeat (go_big_quiet_step ((first
      | (go_at_call 12; with_reducible exact Ext.call (HL1.out _))
      | (go_at_call 12; with_reducible exact Ext.call (HL2.out _))
      | (go_at_call 10; exact Ext.call (knows _)))))
    refine wpQuiet_nil ?_
    intro w8 hb8
    go_wp2
    go_ret
    exact ⟨rfl, HF.out _ hb8⟩
  · have e0 : (L == 0) = false := by simp; omega
    have e1 : decide (G < T) = false := by simp; omega
    have e2 : decide (T ≤ G) = true := by simp; omega
    subst k2 k3
    clear hL h k1
    refine wp_region_ext (by kernel_rfl) (by kernel_rfl) ?_
    repeat (go_big_quiet_step ((first
      | (go_at_call 12; with_reducible exact Ext.call (HL1.out _))
      | (go_at_call 12; with_reducible exact Ext.call (HL2.out _))
      | (go_at_call 10; exact Ext.call (knows _)))))
    refine wpQuiet_nil ?_
    intro w8 hb8
    go_wp2
    go_ret
    exact ⟨rfl, HF.out _ hb8⟩
  · have e0 : (L == 0) = false := by simp; omega
    have e1 : decide (G < T) = true := by simp; omega
    subst k2 k3 k4
    clear hL h k1
    refine wp_region_ext (by kernel_rfl) (by kernel_rfl) ?_
    repeat (go_big_quiet_step ((first
      | (go_at_call 12; with_reducible exact Ext.call (HL1.out _))
      | (go_at_call 12; with_reducible exact Ext.call (HL2.out _))
      | (go_at_call 10; exact Ext.call (knows _)))))
    refine wpQuiet_nil ?_
    intro w8 hb8
    go_wp2
    go_ret
    exact ⟨rfl, HF.out _ hb8⟩
end Go.Proofs.Ytmgpfldlngjekaa
