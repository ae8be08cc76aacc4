/-
  arena.Deep, walked.
-/
import Derived.Test.YtihblifkbljgaaaTreeDeep
namespace Go.Proofs.Ytihblifkbljgaaa
open Go.RowKit Go.Shelf
attribute [local go_sem] Oper.semAt_some

/-- Between two turns. -/
structure DeepI (w : World) (v : Value) (I at_ Ba : Nat) (Ds : List Nat) (W : World) : Prop where
  b0 : Holds W w.heap.size 22 #[v]
  b1 : Holds W (w.heap.size + 1) 3 #[.int .i64 I]
  ba : Holds W Ba 3 #[.int .i64 at_]
  hBa : w.heap.size + 1 < Ba
  below : Below w.heap.size w W
  marks : Marks w.heap.size W Ds

theorem DeepI.calm {w W W' : World} {v : Value} {I at_ Ba B' : Nat} {Ds : List Nat} (h : DeepI w v I at_ Ba Ds W) (hB : w.heap.size ≤ B') (hD : ∀ D ∈ Ds, D < B') (hc : Calm B' W W') : DeepI w v I at_ Ba Ds W' :=
  ⟨hc.holds h.b0, hc.holds h.b1, hc.holds h.ba, h.hBa, h.below.trans (hc.below hB h.below.size), h.marks.calm hD hc⟩
theorem DeepI.alloc {w W : World} {v : Value} {I at_ Ba : Nat} {Ds : List Nat} (h : DeepI w v I at_ Ba Ds W) (o : Obj) : DeepI w v I at_ Ba Ds (W.alloc o) :=
  ⟨h.b0.alloc o, h.b1.alloc o, h.ba.alloc o, h.hBa, h.below.alloc h.below.size o, ⟨h.marks.1, fun D hd => ⟨(h.marks.2 D hd).1, (Below.heap_alloc W o D (h.marks.lt D hd)).trans (h.marks.2 D hd).2⟩⟩⟩

/-- Between two kids. -/
def DeepP (w : World) (v : Value) (t : List Node) (I at_ Ba : Nat) (Ds : List Nat) (pre : List (Kid t at_)) (W : World) : Prop := DeepI w v I at_ Ba Ds W ∧ Hid (∀ y ∈ pre.map (·.1), y + sz t y ≤ I)
def DeepX (w : World) (v : Value) (t : List Node) (I at_ Ba : Nat) (Ds : List Nat) (c : Code) (pre : List (Kid t at_)) (W : World) : Prop :=
  c = .exit 2 ∧ ∃ pre' x, pre = pre' ++ [x] ∧ I < x.1 + sz t x.1 ∧ Hid (∀ y ∈ pre'.map (·.1), y + sz t y ≤ I) ∧ DeepI w v I x.1 Ba Ds W

set_option maxRecDepth 20000 in
set_option maxHeartbeats 4000000 in
theorem arena_deep (v : Value) (t : List Node) (i : Int) (w : World) (h4 : t.length ≤ 140737488355) (hN : Nds w (Old w) v t) :
    Calls Try.prog 49 #[v, .int .i64 i] w fun r w' => r = .returned (.int .i64 (deepOf t i)) ∧ Below w.heap.size w w' := by
  have HN := hidden hN
  unfold deepOf
  have HR := hidden (fun (w' : World) (hw : Below w.heap.size w w') => arena_place v t i w' h4 (hN.old hw))
  cases hp : placeB t i with
  | false =>
    obtain ⟨A, c, rfl, hc1, hc2⟩ := hN.value
    unfold maxLen at hc2
    rw [hp] at HR
    clear hp hN
    (refine (callsIn_wide (n := 5)).1 ?_; refine callsIn_of_wp_marks Try.func49 rfl trivial ?_ rfl; simp only [Try.ntmps49, List.size_toArray, List.length_cons, List.length_nil, Nat.reduceAdd, Nat.reduceSub, Array.replicate_succ, Array.replicate_zero, List.push_toArray, List.append_toArray, List.nil_append, List.cons_append])
    gi_wp2_with fail
    have hb : Below w.heap.size w ((w.alloc (.cells #[.slice A t.length c] 22)).alloc (.cells #[.int .i64 i] 3)) := (by repeat (first | (with_reducible exact Below.refl _ _) | (with_reducible assumption) | (with_reducible refine Below.drew ?_) | ((with_reducible refine below_alloc ?_ ?_); (focus (first | omega | (simp; done) | (simp; omega)))) | ((with_reducible refine below_set ?_ ?_); (focus (first | omega | (simp; done) | (simp; omega))))))
    have p0 : Holds ((w.alloc (.cells #[.slice A t.length c] 22)).alloc (.cells #[.int .i64 i] 3)) w.heap.size 22 #[.slice A t.length c] := (by repeat (first | (with_reducible assumption) | ((with_reducible refine holds_new ?_); (focus (first | rfl | (simp; done)))) | (with_reducible refine Holds.alloc ?_ _) | (with_reducible refine Holds.drew ?_)))
    have p1 : Holds ((w.alloc (.cells #[.slice A t.length c] 22)).alloc (.cells #[.int .i64 i] 3)) (w.heap.size + 1) 3 #[.int .i64 i] := (by repeat (first | (with_reducible assumption) | ((with_reducible refine holds_new ?_); (focus (first | rfl | (simp; done)))) | (with_reducible refine Holds.alloc ?_ _) | (with_reducible refine Holds.drew ?_)))
    generalize ((w.alloc (.cells #[.slice A t.length c] 22)).alloc (.cells #[.int .i64 i] 3)) = W3 at *
    refine ⟨trivial, (callsIn_wide.2 (HR.out _ hb)).mono ?_⟩
    rintro e w2 ⟨rfl, hb2⟩
    replace p0 := p0.below hb2 p0.lt; replace p1 := p1.below hb2 p1.lt
    replace hb := hb.trans (hb2.mono hb.size)
    have hbz := hb.size
    have c1 := p1.c0; have l1 := p1.lt
    clear HR hb2
    gi_wp2
    refine leaves_marks (B := w.heap.size) [] _ ⟨by simp, by simp⟩ ?_
    intro W' hc
    refine ⟨.int .i64 (-1), ?_, ?_, ?_⟩
    · simp [results, Try.f49, go_sem]
    · rfl
    · exact hb.trans (hc.below (Nat.le_refl _) hb.size)
  | true =>
    rw [hp] at HR
    obtain ⟨p1, p2, p3⟩ := placeB_iff.1 hp
    obtain ⟨I, rfl⟩ := Int.eq_ofNat_of_zero_le p1
    obtain ⟨b, off, c, rfl, hc1, hc2, _, _⟩ := hN.open_ (by intro e; subst e; simp at p2; omega)
    unfold maxLen at hc2
    have HT := hidden p3
    have p2 : I < t.length := by omega
    simp only [Int.toNat_natCast, if_true]
    clear hN p3 hp p1
    have h00 := tree_sz0 HT.out
    have d0 : depth t 0 = 0 := depth_none rfl
    have HDp := hidden (fun k (hk : k < t.length) => depth_le t k)
    (refine (callsIn_wide (n := 5)).1 ?_; refine callsIn_of_wp_marks Try.func49 rfl trivial ?_ rfl; simp only [Try.ntmps49, List.size_toArray, List.length_cons, List.length_nil, Nat.reduceAdd, Nat.reduceSub, Array.replicate_succ, Array.replicate_zero, List.push_toArray, List.append_toArray, List.nil_append, List.cons_append])
    gi_wp2_with fail
    have hb : Below w.heap.size w ((w.alloc (.cells #[.slice (some ⟨b, off, none⟩) t.length c] 22)).alloc (.cells #[.int .i64 (I : Int)] 3)) := (by repeat (first | (with_reducible exact Below.refl _ _) | (with_reducible assumption) | (with_reducible refine Below.drew ?_) | ((with_reducible refine below_alloc ?_ ?_); (focus (first | omega | (simp; done) | (simp; omega)))) | ((with_reducible refine below_set ?_ ?_); (focus (first | omega | (simp; done) | (simp; omega))))))
    have p0 : Holds ((w.alloc (.cells #[.slice (some ⟨b, off, none⟩) t.length c] 22)).alloc (.cells #[.int .i64 (I : Int)] 3)) w.heap.size 22 #[.slice (some ⟨b, off, none⟩) t.length c] := (by repeat (first | (with_reducible assumption) | ((with_reducible refine holds_new ?_); (focus (first | rfl | (simp; done)))) | (with_reducible refine Holds.alloc ?_ _) | (with_reducible refine Holds.drew ?_)))
    have p1 : Holds ((w.alloc (.cells #[.slice (some ⟨b, off, none⟩) t.length c] 22)).alloc (.cells #[.int .i64 (I : Int)] 3)) (w.heap.size + 1) 3 #[.int .i64 (I : Int)] := (by repeat (first | (with_reducible assumption) | ((with_reducible refine holds_new ?_); (focus (first | rfl | (simp; done)))) | (with_reducible refine Holds.alloc ?_ _) | (with_reducible refine Holds.drew ?_)))
    generalize ((w.alloc (.cells #[.slice (some ⟨b, off, none⟩) t.length c] 22)).alloc (.cells #[.int .i64 (I : Int)] 3)) = W3 at *
    refine ⟨trivial, (callsIn_wide.2 (HR.out _ hb)).mono ?_⟩
    rintro e w2 ⟨rfl, hb2⟩
    replace p0 := p0.below hb2 p0.lt; replace p1 := p1.below hb2 p1.lt
    replace hb := hb.trans (hb2.mono hb.size)
    have hbz := hb.size
    have c1 := p1.c0; have l1 := p1.lt
    clear HR hb2
    gi_wp2
    generalize hBa : w2.heap.size = Ba at *
    refine wpIn_loop_ghost (fun n a W => ∃ (at_ : Nat) (Ds : List Nat) (u4 u7 u12 u13 u14 u15 u16 u17 u18 u19 u20 u21 u22 u23 u24 u25 u26 u27 u28 u29 u30 u31 : Value), n = t.length - at_ ∧ a = { tmps := #[(.slice (some ⟨b, off, none⟩) t.length c), .int .i64 (I : Int), .pointer (some ⟨w.heap.size, 0, none⟩), .pointer (some ⟨w.heap.size + 1, 0, none⟩), u4, .int .i64 ((depth t at_ : Nat) : Int), .pointer (some ⟨Ba, 0, none⟩), u7, (.slice (some ⟨b, off, none⟩) t.length c), .int .i64 (I : Int), .bool true, .bool false, u12, u13, u14, u15, u16, u17, u18, u19, u20, u21, u22, u23, u24, u25, u26, u27, u28, u29, u30, u31], defers := Ds.map markOf } ∧ at_ ≤ I ∧ I < at_ + sz t at_ ∧ DeepI w (.slice (some ⟨b, off, none⟩) t.length c) I at_ Ba Ds W) t.length ?start ?round
    case start =>
      refine ⟨0, [], _, _, _, _, _, _, _, _, _, _, _, _, _, _, _, _, _, _, _, _, _, _, rfl, by rw [d0]; rfl, by omega, by omega, p0.alloc _, p1.alloc _, ?_, by omega, (by repeat (first | (with_reducible exact Below.refl _ _) | (with_reducible assumption) | (with_reducible refine Below.drew ?_) | ((with_reducible refine below_alloc ?_ ?_); (focus (first | omega | (simp; done) | (simp; omega)))) | ((with_reducible refine below_set ?_ ?_); (focus (first | omega | (simp; done) | (simp; omega)))))), by simp, by simp⟩
      exact Holds.new_at hBa.symm
    case round =>
      clear p0 p1 hb hbz c1 l1 hBa
      rintro n a W ⟨at_, Ds, u4, u7, u12, u13, u14, u15, u16, u17, u18, u19, u20, u21, u22, u23, u24, u25, u26, u27, u28, u29, u30, u31, rfl, rfl, hat, hin, hU⟩
      have hbz := hU.below.size
      have e0 := hU.b0.c0; have e1 := hU.b1.c0; have ea := hU.ba.c0
      have hdl := hU.marks.lt
      by_cases hend : at_ = I
      · subst hend
        gi_wp2
        refine leaves_marks (B := w.heap.size) Ds _ hU.marks ?_
        intro W' hc
        refine ⟨.int .i64 ((depth t at_ : Nat) : Int), ?_, ?_, ?_⟩
        · simp [results, Try.f49, go_sem]
        · rfl
        · exact hU.below.trans (hc.below (Nat.le_refl _) hU.below.size)
      · have hat : at_ < I := by omega
        have q9 : (((at_ : Nat) : Int) != (I : Int)) = true := by rw [bne_iff_ne]; omega
        have hal : at_ < t.length := by omega
        have hdp := HDp.out at_ hal
        gi_wp2_with (refine ⟨trivial, ?_⟩; gi_at_call 59; refine (callsIn_wide.2 (arena_kids _ _ _ _ _ rfl _)).mono ?_; rintro e w' ⟨rfl, rfl⟩)
        have hN4 := (HN.out.below hU.below (fun _ h => h))
        refine range_law (by omega) rfl (enters_of Try.func76 (by kernel_rfl) rfl)
          (kids1_stops 4 (by omega) (W.heap.size + 1) W.heap.size (fun k => k < W.heap.size + 1 + 1) t at_ (.slice (some ⟨b, off, none⟩) t.length c) h4 HT.out hal _ (by intro k hk; simpa using hk) (by omega) (by omega) (by go_simp) (by go_simp) (((hN4.alloc _).alloc _).mono (fun k hk => by have : k < w.heap.size := hk; omega))) (Below.refl _ _) (by intro k hk; simpa using hk) (fun _ => rfl)
          (DeepP w (.slice (some ⟨b, off, none⟩) t.length c) t I at_ Ba Ds) (DeepX w (.slice (some ⟨b, off, none⟩) t.length c) t I at_ Ba Ds) ?i0 ?ix ?start ?round ?done ?stop
        case i0 =>
          rintro pre W1 W2 ⟨h, hp⟩ hc
          exact ⟨h.calm (by simp; omega) (fun D hD => by have := hdl D hD; simp; omega) hc, hp⟩
        case ix =>
          rintro c' pre W1 W2 ⟨rfl, pre', x, h1, h2, h3, h5⟩ hc
          exact ⟨rfl, pre', x, h1, h2, h3, h5.calm (by simp; omega) (fun D hD => by have := hdl D hD; simp; omega) hc⟩
        case start => exact ⟨(hU.alloc _).alloc _, hidden (by simp)⟩
        case round =>
          rintro l pre x Wr ⟨hU1, hp⟩
          dsimp only [encK]
          gi_wp2
          refine ⟨KeepsOthers.refl _, Keeps.refl _ _, ⟨hU1, hp⟩, ?_⟩
          clear hU1 hp e0 e1 ea
          rintro W2 l2 pre2 hc2 ⟨hU2, hp2⟩ hlen hl2 hr2
          have HX := hidden (tree_step HT.out hal x.2.1 x.2.2)
          obtain ⟨xk, hx1, hx2⟩ := x
          have g0 := hU2.b0.c0; have g1 := hU2.b1.c0; have ga := hU2.ba.c0
          have fa := hU2.ba.frozen 0
          have la := hU2.ba.lt
          have hBa := hU2.hBa
          have hb2 := hU2.below
          have hbz2 := hb2.size
          obtain ⟨x1, x2, x3⟩ := HX.out
          dsimp only at *
          have gs := (HN.out.below hb2 (fun _ h => h)).size_cell HT.out x1
          have ha2 := (tree_node HT.out hal).2.1
          clear hc2 hl2 hr2 hN4
          gi_wp2
          refine wpIn_region_round (by kernel_rfl) (by kernel_rfl) rfl ?_
          repeat (gi_big_quiet_step (fail))
          refine wpQuietIn_nil ?_
          intro w' hw'
          obtain ⟨nq, rfl⟩ := hw'
          have kd : KeepsOthers W2 (W2.drewN nq) := ⟨Nat.le_refl _, fun _ _ h _ => h⟩
          have kb : Below w.heap.size w (W2.drewN nq) := ⟨hb2.os, hb2.tape, hb2.output, hb2.size, hb2.block⟩
          gi_wp2
          · have kd2 := KeepsOthers.trans kd (KeepsOthers.setCell (W2.drewN nq) ⟨Ba, 0, none⟩ (.int .i64 xk))
            refine ⟨kd2, ⟨rfl, pre2, _, rfl, by dsimp only; omega, hp2, ?_⟩⟩
            exact ⟨hU2.b0.far (p := ⟨Ba, 0, none⟩) (by dsimp only; omega) _, hU2.b1.far (p := ⟨Ba, 0, none⟩) (by dsimp only; omega) _, hU2.ba.set 0 _, hBa, kb.setCell (p := ⟨Ba, 0, none⟩) (by dsimp only; omega) _, hU2.marks.others kd2⟩
          · refine ⟨kd, ⟨Nat.le_refl _, fun _ _ _ => rfl⟩, ⟨hU2.b0, hU2.b1, hU2.ba, hBa, kb, hU2.marks.1, hU2.marks.2⟩, hidden ?_⟩
            intro y hy
            rw [List.map_append, List.mem_append] at hy
            rcases hy with hy | hy
            · exact hp2.out y hy
            · simp at hy; subst hy; omega
        case done =>
          rintro D xs W1 hD hS ⟨hU1, hp⟩ hK
          exact absurd (by rw [show kidsFrom t (at_ + sz t at_) (at_ + 1) = kidsL t at_ from rfl, ← hS]; exact hp.out) (kids_hit HT.out hal hin _ (at_ + 1) (Nat.le_refl _) (by omega) (by omega))
        case stop =>
          rintro D c' pre W1 hD hS ⟨rfl, pre', x, rfl, h2, h3, h4⟩ hK
          have hD2 : W.heap.size ≤ D := by simp at hD; omega
          have hx := x.2
          have hs2 := tree_step HT.out hal hx.1 hx.2
          rw [List.map_append, List.map_cons, List.map_nil] at hS
          have hdep : depth t x.1 = depth t at_ + 1 := depth_some (up_found HT.out hal hS)
          gi_wp2
          refine ⟨t.length - x.1, by omega, x.1, D :: Ds, _, _, _, _, _, _, _, _, _, _, _, _, _, _, _, _, _, _, _, _, _, _, rfl, by rw [hdep]; rfl, ?_, h2, ?_⟩
          · obtain ⟨r, hr⟩ := hS
            exact kids_next HT.out (i := I) hal (pre'.map (·.1)) x.1 (at_ + 1) ⟨r, by rw [show kidsFrom t (at_ + sz t at_) (at_ + 1) = kidsL t at_ from rfl, ← hr]; simp⟩ (by omega) (by omega) h3.out
          · exact ⟨h4.b0, h4.b1, h4.ba, h4.hBa, h4.below, h4.marks.cons (by omega) (fun E hE => by have := hdl E hE; omega) hK⟩
end Go.Proofs.Ytihblifkbljgaaa
