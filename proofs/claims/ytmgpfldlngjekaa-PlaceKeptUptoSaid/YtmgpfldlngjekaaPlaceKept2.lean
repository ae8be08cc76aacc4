/-
  PlaceKept: the last cases, and the law as a whole.
-/
import Derived.Test.YtmgpfldlngjekaaPlaceKept
import Derived.Lib.IndexBytes
namespace Go.Proofs.Ytmgpfldlngjekaa
open Go.RowKit Go.Shelf

theorem list_of_append (a b : ByteArray) : (a ++ b).data.toList = a.data.toList ++ b.data.toList := by
  rw [ByteArray.data_append, Array.toList_append]
theorem eq_of_list {a b : ByteArray} (h : a.data.toList = b.data.toList) : a = b := by
  obtain ⟨⟨la⟩⟩ := a; obtain ⟨⟨lb⟩⟩ := b
  simp at h; subst h; rfl
theorem changed_list (s p : ByteArray) (G U : Nat) (_ : G ≤ s.size) :
    (s.extract 0 G ++ p ++ s.extract U s.size).data.toList = s.data.toList.take G ++ p.data.toList ++ s.data.toList.drop U := by
  rw [list_of_append, list_of_append, Lib.extract_to_end, Lib.extract_data, List.drop_zero, Nat.sub_zero]
theorem changed_size (s p : ByteArray) (G U : Nat) (h1 : G ≤ U) (h2 : U ≤ s.size) : (s.extract 0 G ++ p ++ s.extract U s.size).size = G + p.size + (s.size - U) := by
  rw [Lib.size_eq, changed_list s p G U (by omega), Lib.size_eq s, Lib.size_eq p]
  rw [Lib.size_eq s] at h2
  rw [List.length_append, List.length_append, List.length_take, List.length_drop, Nat.min_eq_left (by omega)]
theorem changed_before (s p : ByteArray) (F T G U : Nat) (h0 : F ≤ T) (h : T ≤ G) (h1 : G ≤ s.size) : (s.extract 0 G ++ p ++ s.extract U s.size).extract F T = s.extract F T := by
  apply eq_of_list
  rw [Lib.extract_data, Lib.extract_data, changed_list s p G U h1]
  rw [Lib.size_eq s] at h1
  rw [List.append_assoc, List.drop_append_of_le_length (by rw [List.length_take]; omega), List.take_append_of_le_length (by rw [List.length_drop, List.length_take]; omega), List.drop_take, List.take_take, Nat.min_eq_left (by omega)]
theorem changed_behind (s p : ByteArray) (F T G U : Nat) (h1 : G ≤ U) (h : U ≤ F) (h2 : U ≤ s.size) :
    (s.extract 0 G ++ p ++ s.extract U s.size).extract (F - (U - G) + p.size) (T - (U - G) + p.size) = s.extract F T := by
  apply eq_of_list
  rw [Lib.extract_data, Lib.extract_data, changed_list s p G U (by omega)]
  rw [Lib.size_eq s] at h2
  rw [show F - (U - G) + p.size = (s.data.toList.take G ++ p.data.toList).length + (F - U) by rw [List.length_append, List.length_take, Nat.min_eq_left (by omega), ← Lib.size_eq p]; omega]
  rw [List.drop_append, List.drop_drop, List.drop_of_length_le (by omega), List.nil_append]
  congr 1
  · rw [List.length_append, List.length_take, Nat.min_eq_left (by omega), ← Lib.size_eq p]
    omega
  · congr 1
    omega

theorem span_some {m : Option (Int × Int)} {u v : Int} (h : m = some (u, v)) : spanOkV m = .tuple #[.agg #[.int .i64 u, .int .i64 v], .bool true] := by rw [h]; rfl

theorem move_calls (f t a c p u v : Int) (w : World) (h : moveR f t a c p = some (u, v)) :
    Calls Try.prog 8 #[.agg #[.int .i64 f, .int .i64 t], .int .i64 a, .int .i64 c, .int .i64 p] w fun e w' => e = .returned (.tuple #[.agg #[.int .i64 u, .int .i64 v], .bool true]) ∧ Below w.heap.size w w' := by
  have := place_Move f t a c p w
  rwa [span_some h] at this

theorem moveR_at {f t a c p : Int} (h : 0 ≤ f ∧ f ≤ t ∧ t ≤ 1099511627776 ∧ 0 ≤ a ∧ a ≤ 1099511627776 ∧ 0 ≤ c ∧ c ≤ 1099511627776 ∧ 0 ≤ p ∧ p ≤ 1099511627776) (h1 : t ≤ a) : moveR f t a c p = some (f, t) := by
  unfold moveR; rw [if_pos h, if_pos h1]
theorem moveR_far {f t a c p u v : Int} (h : 0 ≤ f ∧ f ≤ t ∧ t ≤ 1099511627776 ∧ 0 ≤ a ∧ a ≤ 1099511627776 ∧ 0 ≤ c ∧ c ≤ 1099511627776 ∧ 0 ≤ p ∧ p ≤ 1099511627776) (h1 : a < t) (h2 : a + c ≤ f)
    (hu : f - c + p = u) (hv : t - c + p = v) : moveR f t a c p = some (u, v) := by
  unfold moveR; rw [if_pos h, if_neg (by omega), if_pos h2, hu, hv]

/-- A stretch that meets what is taken out. -/
theorem kept_C (s p : ByteArray) (F T G U : Nat) (w : World) (h1 : F ≤ T) (h2 : T ≤ s.size) (h3 : G ≤ U) (h4 : U ≤ s.size) (h5 : s.size + p.size ≤ 1048576) (hTG : G < T) (hUF : F < U) :
    Calls Try.prog 4 #[.string s, .agg #[.int .i64 F, .int .i64 T], .agg #[.int .i64 G, .int .i64 U], .string p] w fun e w' => e = .returned (.bool true) ∧ Below w.heap.size w w' := by
  have H1 := hidden (right_yes F T s.size (by omega))
  have H2 := hidden (right_yes G U s.size (by omega))
  have hm : ∀ w, Calls Try.prog 8 #[.agg #[.int .i64 F, .int .i64 T], .int .i64 G, .int .i64 (U - G), .int .i64 p.size] w fun e w' => e = .returned (.tuple #[.agg #[.int .i64 0, .int .i64 0], .bool false]) ∧ Below w.heap.size w w' := by
    intro w
    have h := place_Move F T G (U - G) p.size w
    rw [Ending.returned.inj (move_not (.inr (by omega)))] at h
    exact h
  have HM := hidden hm
  clear hm
  go_enter Try.func4, Try.ntmps4
  go_wp2_with fail
  refine (H1.out _).mono ?_
  rintro e w1 ⟨rfl, rfl⟩
  go_wp2_with fail
  refine (H2.out _).mono ?_
  rintro e w1 ⟨rfl, rfl⟩
  go_wp2_with fail
  have q0 : Holds ((((w.alloc (.cells #[.int .i64 F, .int .i64 T] 23)).alloc (.cells #[.int .i64 G, .int .i64 U] 23)).alloc (.cells #[.int .i64 F, .int .i64 T] 23)).alloc (.cells #[.int .i64 G, .int .i64 U] 23)) w.heap.size 23 #[.int .i64 F, .int .i64 T] := (by repeat (first | (with_reducible assumption) | ((with_reducible refine holds_new ?_); (focus (first | rfl | (simp; done)))) | (with_reducible refine Holds.alloc ?_ _) | (with_reducible refine Holds.drew ?_)))
  have q1 : Holds ((((w.alloc (.cells #[.int .i64 F, .int .i64 T] 23)).alloc (.cells #[.int .i64 G, .int .i64 U] 23)).alloc (.cells #[.int .i64 F, .int .i64 T] 23)).alloc (.cells #[.int .i64 G, .int .i64 U] 23)) (w.heap.size + 1) 23 #[.int .i64 G, .int .i64 U] := (by repeat (first | (with_reducible assumption) | ((with_reducible refine holds_new ?_); (focus (first | rfl | (simp; done)))) | (with_reducible refine Holds.alloc ?_ _) | (with_reducible refine Holds.drew ?_)))
  have hb : Below w.heap.size w ((((w.alloc (.cells #[.int .i64 F, .int .i64 T] 23)).alloc (.cells #[.int .i64 G, .int .i64 U] 23)).alloc (.cells #[.int .i64 F, .int .i64 T] 23)).alloc (.cells #[.int .i64 G, .int .i64 U] 23)) := (by repeat (first | (with_reducible exact Below.refl _ _) | (with_reducible assumption) | (with_reducible refine Below.drew ?_) | ((with_reducible refine below_alloc ?_ ?_); (focus (first | omega | (simp; done) | (simp; omega)))) | ((with_reducible refine below_set ?_ ?_); (focus (first | omega | (simp; done) | (simp; omega))))))
  generalize ((((w.alloc (.cells #[.int .i64 F, .int .i64 T] 23)).alloc (.cells #[.int .i64 G, .int .i64 U] 23)).alloc (.cells #[.int .i64 F, .int .i64 T] 23)).alloc (.cells #[.int .i64 G, .int .i64 U] 23)) = W0 at *
  have x0 := Ext.cell q0.c20; have x1 := Ext.cell q0.c21; have x2 := Ext.cell q1.c20; have x3 := Ext.cell q1.c21
  refine wp_region_ext (by kernel_rfl) (by kernel_rfl) ?_
  repeat (go_big_quiet_step (fail))
  refine wpQuiet_nil ?_
  intro w2 hb2
  clear x0 x1 x2 x3
  replace hb := hb.trans (hb2.mono hb.size)
  have p0 := q0.below hb2 q0.lt; have p1 := q1.below hb2 q1.lt
  clear q0 q1 hb2
  have c00 := p0.c20; have c01 := p0.c21; have c10 := p1.c20; have c11 := p1.c21
  go_wp2_with fail
  refine (HM.out _).mono ?_
  rintro e w3 ⟨rfl, hb3⟩
  replace hb := hb.trans (hb3.mono hb.size)
  have l0 := p0.below hb3 p0.lt; have l1 := p1.below hb3 p1.lt
  clear hb3 c00 c01 c10 c11 p0 p1
  have c00 := l0.c20; have c01 := l0.c21; have c10 := l1.c20; have c11 := l1.c21
  have hlt0 := l0.lt; have hlt1 := l1.lt
  have hbz := hb.size
  clear l0 l1
  go_wp2_with (go_at_call 10; refine (knows _).mono ?_; rintro e w4 ⟨rfl, hb4⟩)
  go_ret
  exact ⟨rfl, Below.trans (by exact (by repeat (first | (with_reducible exact Below.refl _ _) | (with_reducible assumption) | (with_reducible refine Below.drew ?_) | ((with_reducible refine below_alloc ?_ ?_); (focus (first | omega | (simp; done) | (simp; omega)))) | ((with_reducible refine below_set ?_ ?_); (focus (first | omega | (simp; done) | (simp; omega))))))) (hb4.mono (by simp; omega))⟩

theorem law_kept (s p : ByteArray) (f t g u : Int) (w : World) (h5 : s.size + p.size ≤ 1048576) :
    Calls Try.prog 4 #[.string s, .agg #[.int .i64 f, .int .i64 t], .agg #[.int .i64 g, .int .i64 u], .string p] w fun e w' => e = .returned (.bool true) ∧ Below w.heap.size w w' := by
  refine (Decidable.em (0 ≤ f ∧ f ≤ t ∧ t ≤ (s.size : Int))).elim (fun h => ?_) (fun h => kept_out1 s p f t g u w h)
  refine (Decidable.em (0 ≤ g ∧ g ≤ u ∧ u ≤ (s.size : Int))).elim (fun h' => ?_) (fun h' => kept_out2 s p f t g u w h h')
  obtain ⟨F, rfl⟩ := Int.eq_ofNat_of_zero_le (show 0 ≤ f by omega)
  obtain ⟨T, rfl⟩ := Int.eq_ofNat_of_zero_le (show 0 ≤ t by omega)
  obtain ⟨G, rfl⟩ := Int.eq_ofNat_of_zero_le (show 0 ≤ g by omega)
  obtain ⟨U, rfl⟩ := Int.eq_ofNat_of_zero_le (show 0 ≤ u by omega)
  have h1 : F ≤ T := by omega
  have h2 : T ≤ s.size := by omega
  have h3 : G ≤ U := by omega
  have h4 : U ≤ s.size := by omega
  have hsz := changed_size s p G U h3 h4
  by_cases hA : T ≤ G
  · exact kept_main s p F T G U F T F T true w h1 h2 h3 h4 h5 (fun w => move_calls _ _ _ _ _ _ _ w (moveR_at (by omega) (by omega))) (fun w => move_calls _ _ _ _ _ _ _ w (moveR_at (by omega) (by omega)))
      h1 (by omega) (by omega) (changed_before s p F T G U h1 hA (by omega)) rfl (by
        by_cases e : F = T
        · exact .inl e
        · exact .inr (.inl ⟨by omega, hA, rfl, rfl⟩))
  by_cases hC : F < U
  · exact kept_C s p F T G U w h1 h2 h3 h4 h5 (by omega) hC
  have hm1 : ∀ w, _ := fun w => move_calls F T G (U - G) p.size ((F - (U - G) + p.size : Nat) : Int) ((T - (U - G) + p.size : Nat) : Int) w (moveR_far (by omega) (by omega) (by omega) (by omega) (by omega))
  have hE := changed_behind s p F T G U h3 (by omega) h4
  by_cases hB : T - (U - G) + p.size ≤ G
  · exact kept_main s p F T G U _ _ _ _ true w h1 h2 h3 h4 h5 hm1 (fun w => move_calls _ _ _ _ _ _ _ w (moveR_at (by omega) (by omega))) (by omega) (by omega) (by omega) hE (by omega) (.inl (by omega))
  · exact kept_main s p F T G U _ _ F T true w h1 h2 h3 h4 h5 hm1 (fun w => move_calls _ _ _ _ _ _ _ w (moveR_far (by omega) (by omega) (by omega) (by omega) (by omega))) (by omega) (by omega) (by omega) hE (by omega) (by
        by_cases e : F = T
        · exact .inl e
        · exact .inr (.inr ⟨by omega, by omega, rfl, rfl, rfl⟩))
end Go.Proofs.Ytmgpfldlngjekaa
