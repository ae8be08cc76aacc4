/-
  arena.Up, walked.
-/
import Derived.Test.YtihblifkbljgaaaTreeUp2
namespace Go.Proofs.Ytihblifkbljgaaa
open Go.RowKit Go.Shelf
attribute [local go_sem] Oper.semAt_some

/-- Between two kids. -/
def UpP (w : World) (v : Value) (t : List Node) (I at_ Ba : Nat) (Ds : List Nat) (pre : List (Kid t at_)) (W : World) : Prop := UpI w v I at_ Ba Ds W ∧ Hid (∀ y ∈ pre.map (·.1), y + sz t y ≤ I)
def UpX (w : World) (v : Value) (t : List Node) (I at_ Ba : Nat) (Ds : List Nat) (c : Code) (pre : List (Kid t at_)) (W : World) : Prop :=
  (c = .ret ∧ ∃ pre' x, pre = pre' ++ [x] ∧ x.1 = I ∧ Holds W (w.heap.size + 1 + 1) 3 #[.int .i64 at_] ∧ Below w.heap.size w W ∧ Marks w.heap.size W Ds) ∨
  (c = .exit 2 ∧ ∃ pre' x, pre = pre' ++ [x] ∧ x.1 ≠ I ∧ I < x.1 + sz t x.1 ∧ Hid (∀ y ∈ pre'.map (·.1), y + sz t y ≤ I) ∧ UpI w v I x.1 Ba Ds W)

set_option maxRecDepth 20000 in
set_option maxHeartbeats 4000000 in
theorem arena_up (v : Value) (t : List Node) (i : Int) (w : World) (h4 : t.length ≤ 140737488355) (hN : Nds w (Old w) v t) :
    Calls Try.prog 18 #[v, .int .i64 i] w fun r w' => r = .returned (.int .i64 (upOf t i)) ∧ Below w.heap.size w w' := by
  have HN := hidden hN
  unfold upOf
  have HR := hidden (fun (w' : World) (hw : Below w.heap.size w w') => arena_place v t i w' h4 (hN.old hw))
  cases hp : placeB t i with
  | false =>
    obtain ⟨A, c, rfl, hc1, hc2⟩ := hN.value
    unfold maxLen at hc2
    rw [hp] at HR
    clear hp hN
    (refine (callsIn_wide (n := 5)).1 ?_; refine callsIn_of_wp_marks Try.func18 rfl trivial ?_ rfl; simp only [Try.ntmps18, List.size_toArray, List.length_cons, List.length_nil, Nat.reduceAdd, Nat.reduceSub, Array.replicate_succ, Array.replicate_zero, List.push_toArray, List.append_toArray, List.nil_append, List.cons_append])
    gi_wp2_with fail
    have hb : Below w.heap.size w (((w.alloc (.cells #[.slice A t.length c] 22)).alloc (.cells #[.int .i64 i] 3)).alloc (.cells #[.int .i64 0] 3)) := (by repeat (first | (with_reducible exact Below.refl _ _) | (with_reducible assumption) | (with_reducible refine Below.drew ?_) | ((with_reducible refine below_alloc ?_ ?_); (focus (first | omega | (simp; done) | (simp; omega)))) | ((with_reducible refine below_set ?_ ?_); (focus (first | omega | (simp; done) | (simp; omega))))))
    have p0 : Holds (((w.alloc (.cells #[.slice A t.length c] 22)).alloc (.cells #[.int .i64 i] 3)).alloc (.cells #[.int .i64 0] 3)) w.heap.size 22 #[.slice A t.length c] := (by repeat (first | (with_reducible assumption) | ((with_reducible refine holds_new ?_); (focus (first | rfl | (simp; done)))) | (with_reducible refine Holds.alloc ?_ _) | (with_reducible refine Holds.drew ?_)))
    have p1 : Holds (((w.alloc (.cells #[.slice A t.length c] 22)).alloc (.cells #[.int .i64 i] 3)).alloc (.cells #[.int .i64 0] 3)) (w.heap.size + 1) 3 #[.int .i64 i] := (by repeat (first | (with_reducible assumption) | ((with_reducible refine holds_new ?_); (focus (first | rfl | (simp; done)))) | (with_reducible refine Holds.alloc ?_ _) | (with_reducible refine Holds.drew ?_)))
    have p2 : Holds (((w.alloc (.cells #[.slice A t.length c] 22)).alloc (.cells #[.int .i64 i] 3)).alloc (.cells #[.int .i64 0] 3)) (w.heap.size + 1 + 1) 3 #[.int .i64 0] := (by repeat (first | (with_reducible assumption) | ((with_reducible refine holds_new ?_); (focus (first | rfl | (simp; done)))) | (with_reducible refine Holds.alloc ?_ _) | (with_reducible refine Holds.drew ?_)))
    generalize (((w.alloc (.cells #[.slice A t.length c] 22)).alloc (.cells #[.int .i64 i] 3)).alloc (.cells #[.int .i64 0] 3)) = W3 at *
    refine ⟨trivial, (callsIn_wide.2 (HR.out _ hb)).mono ?_⟩
    rintro e w2 ⟨rfl, hb2⟩
    replace p0 := p0.below hb2 p0.lt; replace p1 := p1.below hb2 p1.lt; replace p2 := p2.below hb2 p2.lt
    replace hb := hb.trans (hb2.mono hb.size)
    have hbz := hb.size
    have c1 := p1.c0; have c2 := p2.c0; have f2 := p2.frozen 0; have l2 := p2.lt
    clear HR hb2
    gi_wp2
    refine leaves_marks (B := w.heap.size) [] _ ⟨by simp, by simp⟩ ?_
    intro W' hc
    have q2 := hc.holds (g := w.heap.size + 1 + 1) (t := 3) (cs := #[.int .i64 (-1)]) (by (apply Holds.of_eq; focus (repeat (first | (with_reducible assumption) | ((with_reducible apply holds_new); (focus (first | rfl | (simp; done)))) | (with_reducible apply holds_set) | ((with_reducible apply holds_far); (focus (first | omega | (simp; done) | (simp; omega)))) | (with_reducible apply Holds.alloc) | (with_reducible apply Holds.drew)))); rfl)
    have e2 := q2.c0
    refine ⟨.int .i64 (-1), ?_, ?_, ?_⟩
    · simp [results, Try.f18, go_sem, e2]
    · rfl
    · exact Below.trans (b := w2.setCell _ _) (by repeat (first | (with_reducible exact Below.refl _ _) | (with_reducible assumption) | (with_reducible refine Below.drew ?_) | ((with_reducible refine below_alloc ?_ ?_); (focus (first | omega | (simp; done) | (simp; omega)))) | ((with_reducible refine below_set ?_ ?_); (focus (first | omega | (simp; done) | (simp; omega)))))) (hc.below (Nat.le_refl _) (by simp; omega))
  | true =>
    rw [hp] at HR
    obtain ⟨p1, p2, p3⟩ := placeB_iff.1 hp
    obtain ⟨I, rfl⟩ := Int.eq_ofNat_of_zero_le p1
    obtain ⟨b, off, c, rfl, hc1, hc2, _, _⟩ := hN.open_ (by intro e; subst e; simp at p2; omega)
    unfold maxLen at hc2
    have HT := hidden p3
    have p2 : I < t.length := by omega
    simp only [Int.toNat_natCast, if_true]
    clear hN p3 hp p1
    (refine (callsIn_wide (n := 5)).1 ?_; refine callsIn_of_wp_marks Try.func18 rfl trivial ?_ rfl; simp only [Try.ntmps18, List.size_toArray, List.length_cons, List.length_nil, Nat.reduceAdd, Nat.reduceSub, Array.replicate_succ, Array.replicate_zero, List.push_toArray, List.append_toArray, List.nil_append, List.cons_append])
    gi_wp2_with fail
    have hb : Below w.heap.size w (((w.alloc (.cells #[.slice (some ⟨b, off, none⟩) t.length c] 22)).alloc (.cells #[.int .i64 (I : Int)] 3)).alloc (.cells #[.int .i64 0] 3)) := (by repeat (first | (with_reducible exact Below.refl _ _) | (with_reducible assumption) | (with_reducible refine Below.drew ?_) | ((with_reducible refine below_alloc ?_ ?_); (focus (first | omega | (simp; done) | (simp; omega)))) | ((with_reducible refine below_set ?_ ?_); (focus (first | omega | (simp; done) | (simp; omega))))))
    have p0 : Holds (((w.alloc (.cells #[.slice (some ⟨b, off, none⟩) t.length c] 22)).alloc (.cells #[.int .i64 (I : Int)] 3)).alloc (.cells #[.int .i64 0] 3)) w.heap.size 22 #[.slice (some ⟨b, off, none⟩) t.length c] := (by repeat (first | (with_reducible assumption) | ((with_reducible refine holds_new ?_); (focus (first | rfl | (simp; done)))) | (with_reducible refine Holds.alloc ?_ _) | (with_reducible refine Holds.drew ?_)))
    have p1 : Holds (((w.alloc (.cells #[.slice (some ⟨b, off, none⟩) t.length c] 22)).alloc (.cells #[.int .i64 (I : Int)] 3)).alloc (.cells #[.int .i64 0] 3)) (w.heap.size + 1) 3 #[.int .i64 (I : Int)] := (by repeat (first | (with_reducible assumption) | ((with_reducible refine holds_new ?_); (focus (first | rfl | (simp; done)))) | (with_reducible refine Holds.alloc ?_ _) | (with_reducible refine Holds.drew ?_)))
    have p2 : Holds (((w.alloc (.cells #[.slice (some ⟨b, off, none⟩) t.length c] 22)).alloc (.cells #[.int .i64 (I : Int)] 3)).alloc (.cells #[.int .i64 0] 3)) (w.heap.size + 1 + 1) 3 #[.int .i64 0] := (by repeat (first | (with_reducible assumption) | ((with_reducible refine holds_new ?_); (focus (first | rfl | (simp; done)))) | (with_reducible refine Holds.alloc ?_ _) | (with_reducible refine Holds.drew ?_)))
    generalize (((w.alloc (.cells #[.slice (some ⟨b, off, none⟩) t.length c] 22)).alloc (.cells #[.int .i64 (I : Int)] 3)).alloc (.cells #[.int .i64 0] 3)) = W3 at *
    refine ⟨trivial, (callsIn_wide.2 (HR.out _ hb)).mono ?_⟩
    rintro e w2 ⟨rfl, hb2⟩
    replace p0 := p0.below hb2 p0.lt; replace p1 := p1.below hb2 p1.lt; replace p2 := p2.below hb2 p2.lt
    replace hb := hb.trans (hb2.mono hb.size)
    have hbz := hb.size
    have c1 := p1.c0; have c2 := p2.c0; have f2 := p2.frozen 0; have l2 := p2.lt
    clear HR hb2
    by_cases hI : I = 0
    · subst hI
      gi_wp2
      refine leaves_marks (B := w.heap.size) [] _ ⟨by simp, by simp⟩ ?_
      intro W' hc
      have q2 := hc.holds (g := w.heap.size + 1 + 1) (t := 3) (cs := #[.int .i64 (-1)]) (by (apply Holds.of_eq; focus (repeat (first | (with_reducible assumption) | ((with_reducible apply holds_new); (focus (first | rfl | (simp; done)))) | (with_reducible apply holds_set) | ((with_reducible apply holds_far); (focus (first | omega | (simp; done) | (simp; omega)))) | (with_reducible apply Holds.alloc) | (with_reducible apply Holds.drew)))); rfl)
      have e2 := q2.c0
      refine ⟨.int .i64 (-1), ?_, ?_, ?_⟩
      · simp [results, Try.f18, go_sem, e2]
      · rfl
      · exact Below.trans (b := w2.setCell _ _) (by repeat (first | (with_reducible exact Below.refl _ _) | (with_reducible assumption) | (with_reducible refine Below.drew ?_) | ((with_reducible refine below_alloc ?_ ?_); (focus (first | omega | (simp; done) | (simp; omega)))) | ((with_reducible refine below_set ?_ ?_); (focus (first | omega | (simp; done) | (simp; omega)))))) (hc.below (Nat.le_refl _) (by simp; omega))
    · have q9 : ((I : Int) == 0) = false := by rw [beq_eq_false_iff_ne]; omega
      have h00 := tree_sz0 HT.out
      gi_wp2
      generalize hBa : w2.heap.size = Ba at *
      refine wpIn_loop_ghost (fun n a W => ∃ (at_ : Nat) (Ds : List Nat) (u6 u15 u16 u17 u18 u19 u20 u21 u22 u23 u24 u25 u26 u27 u28 u29 u30 u31 u32 : Value), n = t.length - at_ ∧ a = { tmps := #[(.slice (some ⟨b, off, none⟩) t.length c), .int .i64 (I : Int), .pointer (some ⟨w.heap.size, 0, none⟩), .pointer (some ⟨w.heap.size + 1, 0, none⟩), .pointer (some ⟨w.heap.size + 1 + 1, 0, none⟩), .pointer (some ⟨Ba, 0, none⟩), u6, (.slice (some ⟨b, off, none⟩) t.length c), .int .i64 (I : Int), .bool true, .bool false, .bool false, .int .i64 (I : Int), .bool false, .bool false, u15, u16, u17, u18, u19, u20, u21, u22, u23, u24, u25, u26, u27, u28, u29, u30, u31, u32], defers := Ds.map markOf } ∧ at_ < I ∧ I < at_ + sz t at_ ∧ UpI w (.slice (some ⟨b, off, none⟩) t.length c) I at_ Ba Ds W) t.length ?start ?round
      case start =>
        refine ⟨0, [], _, _, _, _, _, _, _, _, _, _, _, _, _, _, _, _, _, _, _, rfl, rfl, by omega, by omega, p0.alloc _, p1.alloc _, p2.alloc _, ?_, by omega, (by repeat (first | (with_reducible exact Below.refl _ _) | (with_reducible assumption) | (with_reducible refine Below.drew ?_) | ((with_reducible refine below_alloc ?_ ?_); (focus (first | omega | (simp; done) | (simp; omega)))) | ((with_reducible refine below_set ?_ ?_); (focus (first | omega | (simp; done) | (simp; omega)))))), by simp, by simp⟩
        exact Holds.new_at hBa.symm
      case round =>
        clear p0 p1 p2 hb hbz c1 c2 f2 l2 hBa q9
        rintro n a W ⟨at_, Ds, u6, u15, u16, u17, u18, u19, u20, u21, u22, u23, u24, u25, u26, u27, u28, u29, u30, u31, u32, rfl, rfl, hat, hin, hU⟩
        have hbz := hU.below.size
        have e0 := hU.b0.c0; have e1 := hU.b1.c0; have ea := hU.ba.c0
        gi_wp2_with (refine ⟨trivial, ?_⟩; gi_at_call 59; refine (callsIn_wide.2 (arena_kids _ _ _ _ _ rfl _)).mono ?_; rintro e w' ⟨rfl, rfl⟩)
        have hN4 := (HN.out.below hU.below (fun _ h => h))
        have hdl := hU.marks.lt
        have hal : at_ < t.length := by omega
        refine range_law (by omega) rfl (enters_of Try.func76 (by kernel_rfl) rfl)
          (kids1_stops 4 (by omega) (W.heap.size + 1) W.heap.size (fun k => k < W.heap.size + 1 + 1) t at_ (.slice (some ⟨b, off, none⟩) t.length c) h4 HT.out hal _ (by intro k hk; simpa using hk) (by omega) (by omega) (by go_simp) (by go_simp) (((hN4.alloc _).alloc _).mono (fun k hk => by have : k < w.heap.size := hk; omega))) (Below.refl _ _) (by intro k hk; simpa using hk) (fun _ => rfl)
          (UpP w (.slice (some ⟨b, off, none⟩) t.length c) t I at_ Ba Ds) (UpX w (.slice (some ⟨b, off, none⟩) t.length c) t I at_ Ba Ds) ?i0 ?ix ?start ?round ?done ?stop
        case i0 =>
          rintro pre W1 W2 ⟨h, hp⟩ hc
          exact ⟨h.calm (by simp; omega) (fun D hD => by have := hdl D hD; simp; omega) hc, hp⟩
        case ix =>
          rintro c' pre W1 W2 h hc
          rcases h with ⟨rfl, pre', x, h1, h2, h3, h4, h5⟩ | ⟨rfl, pre', x, h1, h2, h3, h4, h5⟩
          · exact .inl ⟨rfl, pre', x, h1, h2, hc.holds h3, h4.trans (hc.below (by simp; omega) h4.size), h5.calm (fun D hD => by have := hdl D hD; simp; omega) hc⟩
          · exact .inr ⟨rfl, pre', x, h1, h2, h3, h4, h5.calm (by simp; omega) (fun D hD => by have := hdl D hD; simp; omega) hc⟩
        case start => exact ⟨(hU.alloc _).alloc _, hidden (by simp)⟩
        case round =>
          rintro l pre x Wr ⟨hU1, hp⟩
          dsimp only [encK]
          gi_wp2
          refine ⟨KeepsOthers.refl _, Keeps.refl _ _, ⟨hU1, hp⟩, ?_⟩
          clear hU1 hp e0 e1 ea
          rintro W2 l2 pre2 hc2 ⟨hU2, hp2⟩ hlen hl2 hr2
          have HX := hidden (tree_step HT.out hal x.2.1 x.2.2)
          have HE : Hid (∃ y : Kid t at_, y = x) := hidden ⟨x, rfl⟩
          obtain ⟨xk, hx1, hx2⟩ := x
          have g0 := hU2.b0.c0; have g1 := hU2.b1.c0; have ga := hU2.ba.c0; have g2 := hU2.b2.c0
          have f2 := hU2.b2.frozen 0; have fa := hU2.ba.frozen 0
          have la := hU2.ba.lt
          have hBa := hU2.hBa
          have hb2 := hU2.below
          have hbz2 := hb2.size
          obtain ⟨x1, x2, x3⟩ := HX.out
          dsimp only at *
          have gs := (HN.out.below hb2 (fun _ h => h)).size_cell HT.out x1
          clear hc2 hl2 hr2 hN4
          by_cases hxi : xk = I
          · subst hxi
            gi_wp2
            exact ⟨(by repeat (first | (with_reducible exact KeepsOthers.refl _) | (with_reducible refine KeepsOthers.trans ?_ (KeepsOthers.setCell _ _ _)) | (with_reducible refine KeepsOthers.trans ?_ (KeepsOthers.alloc _ _)) | (with_reducible refine KeepsOthers.trans ?_ (KeepsOthers.drew _)))), .inl ⟨rfl, pre2, _, rfl, rfl, hU2.b2.set 0 _, hb2.setCell (p := ⟨_, _, none⟩) (by dsimp only; omega) _, hU2.marks.others (by repeat (first | (with_reducible exact KeepsOthers.refl _) | (with_reducible refine KeepsOthers.trans ?_ (KeepsOthers.setCell _ _ _)) | (with_reducible refine KeepsOthers.trans ?_ (KeepsOthers.alloc _ _)) | (with_reducible refine KeepsOthers.trans ?_ (KeepsOthers.drew _))))⟩⟩
          · gi_wp2
            refine wpIn_region_round (by kernel_rfl) (by kernel_rfl) rfl ?_
            repeat (gi_big_quiet_step (fail))
            refine wpQuietIn_nil ?_
            intro w' hw'
            obtain ⟨nq, rfl⟩ := hw'
            have kd : KeepsOthers W2 (W2.drewN nq) := ⟨Nat.le_refl _, fun _ _ h _ => h⟩
            have kb : Below w.heap.size w (W2.drewN nq) := ⟨hb2.os, hb2.tape, hb2.output, hb2.size, hb2.block⟩
            gi_wp2
            · have ha2 := (tree_node HT.out hal).2.1
              rw [show wrap64 ((xk : Int) + sz t xk) = xk + sz t xk from IntWalk.wrap64_in _ (by omega)] at *
              have kd2 := KeepsOthers.trans kd (KeepsOthers.setCell (W2.drewN nq) ⟨Ba, 0, none⟩ (.int .i64 xk))
              refine ⟨kd2, .inr ⟨rfl, pre2, _, rfl, hxi, by dsimp only; omega, hp2, ?_⟩⟩
              exact ⟨hU2.b0.far (p := ⟨Ba, 0, none⟩) (by dsimp only; omega) _, hU2.b1.far (p := ⟨Ba, 0, none⟩) (by dsimp only; omega) _, hU2.b2.far (p := ⟨Ba, 0, none⟩) (by dsimp only; omega) _, hU2.ba.set 0 _, hBa, kb.setCell (p := ⟨Ba, 0, none⟩) (by dsimp only; omega) _, hU2.marks.others kd2⟩
            · have ha2 := (tree_node HT.out hal).2.1
              rw [show wrap64 ((xk : Int) + sz t xk) = xk + sz t xk from IntWalk.wrap64_in _ (by omega)] at *
              refine ⟨kd, ⟨Nat.le_refl _, fun _ _ _ => rfl⟩, ⟨hU2.b0, hU2.b1, hU2.b2, hU2.ba, hBa, kb, hU2.marks.1, hU2.marks.2⟩, hidden ?_⟩
              intro y hy
              rw [List.map_append, List.mem_append] at hy
              rcases hy with hy | hy
              · exact hp2.out y hy
              · simp at hy; subst hy; omega
        case done =>
          rintro D xs W1 hD hS ⟨hU1, hp⟩ hK
          exact absurd (by rw [show kidsFrom t (at_ + sz t at_) (at_ + 1) = kidsL t at_ from rfl, ← hS]; exact hp.out) (kids_hit HT.out hal hin _ (at_ + 1) (Nat.le_refl _) (by omega) (by omega))
        case stop =>
          rintro D c' pre W1 hD hS hX hK
          have hD2 : W.heap.size ≤ D := by simp at hD; omega
          rcases hX with ⟨rfl, pre', x, rfl, h1, h2, h3, h4⟩ | ⟨rfl, pre', x, rfl, h1, h2, h3, h4⟩
          · gi_wp2
            refine leaves_marks (B := w.heap.size) (D :: Ds) _ (h4.cons (by omega) (fun E hE => by have := hdl E hE; omega) hK) ?_
            intro W' hc
            have q2 := hc.holds h2
            have e2 := q2.c0
            refine ⟨.int .i64 at_, ?_, ?_, ?_⟩
            · simp [results, Try.f18, go_sem, e2]
            · rw [List.map_append, List.map_cons, List.map_nil, h1] at hS
              rw [up_found HT.out hal hS]
            · exact h3.trans (hc.below (Nat.le_refl _) h3.size)
          · have hx := x.2
            have hs2 := tree_step HT.out hal hx.1 hx.2
            gi_wp2
            refine ⟨t.length - x.1, by omega, x.1, D :: Ds, _, _, _, _, _, _, _, _, _, _, _, _, _, _, _, _, _, _, _, rfl, rfl, ?_, h2, ?_⟩
            · rw [List.map_append, List.map_cons, List.map_nil] at hS
              obtain ⟨r, hr⟩ := hS
              have := kids_next HT.out (i := I) hal (pre'.map (·.1)) x.1 (at_ + 1) ⟨r, by rw [show kidsFrom t (at_ + sz t at_) (at_ + 1) = kidsL t at_ from rfl, ← hr]; simp⟩ (by omega) (by omega) h3.out
              omega
            · exact ⟨h4.b0, h4.b1, h4.b2, h4.ba, h4.hBa, h4.below, h4.marks.cons (by omega) (fun E hE => by have := hdl E hE; omega) hK⟩
end Go.Proofs.Ytihblifkbljgaaa
