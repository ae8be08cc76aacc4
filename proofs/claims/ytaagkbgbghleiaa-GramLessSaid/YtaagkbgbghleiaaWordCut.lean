/-
  word.Cut.
-/
import Derived.Test.YtaagkbgbghleiaaWordWords2
import Derived.IntWalk
namespace Go.Proofs.Ytaagkbgbghleiaa
open Go.RowKit Go.Shelf
attribute [local go_sem] Oper.semAt_some

/-- What stands behind the byte behind a stretch. -/
def behind (s : ByteArray) (p : Nat × Nat) : ByteArray := s.extract (min (p.2 + 1) s.size) s.size
def cutOf (s : ByteArray) : ByteArray × ByteArray := match wordsAt s 0 with
  | [] => (⟨#[]⟩, ⟨#[]⟩)
  | p :: _ => (cutTo s p, behind s p)

def CtI (w : World) (s : ByteArray) (pre : List (Sw s)) (W : World) : Prop :=
  pre = [] ∧ Holds W w.heap.size 9 #[.string s] ∧ Holds W (w.heap.size + 1) 9 #[.string ⟨#[]⟩] ∧ Holds W (w.heap.size + 1 + 1) 9 #[.string ⟨#[]⟩] ∧ Below w.heap.size w W
def CtX (w : World) (s : ByteArray) (c : Code) (pre : List (Sw s)) (W : World) : Prop :=
  c = .ret ∧ ∃ p, pre = [p] ∧ Holds W (w.heap.size + 1) 9 #[.string (cutTo s p.1)] ∧ Holds W (w.heap.size + 1 + 1) 9 #[.string (behind s p.1)] ∧ Below w.heap.size w W

set_option maxRecDepth 20000 in
set_option maxHeartbeats 8000000 in
theorem word_cut (s : ByteArray) (w : World) (hs : s.size ≤ 1000000) :
    Calls Try.prog 16 #[.string s] w fun r w' => r = .returned (.tuple #[.string (cutOf s).1, .string (cutOf s).2]) ∧ Below w.heap.size w w' := by
  have HCo : Hid (wordsAt s 0 = [] → cutOf s = (⟨#[]⟩, ⟨#[]⟩)) := hidden (fun h => by unfold cutOf; rw [h])
  have HCo2 : Hid (∀ p r, wordsAt s 0 = p :: r → cutOf s = (cutTo s p, behind s p)) := hidden (fun p r h => by unfold cutOf; rw [h])
  generalize cutOf s = co at *
  (refine (callsIn_wide (n := 5)).1 ?_; refine callsIn_of_wp_marks Try.func16 rfl trivial ?_ rfl; simp only [Try.ntmps16, List.size_toArray, List.length_cons, List.length_nil, Nat.reduceAdd, Nat.reduceSub, Array.replicate_succ, Array.replicate_zero, List.push_toArray, List.append_toArray, List.nil_append, List.cons_append])
  gi_wp2_with (refine ⟨trivial, ?_⟩; gi_at_call 62; refine (callsIn_wide.2 (word_stretches _ _)).mono ?_; rintro e w' ⟨rfl, rfl⟩)
  refine range_law (by omega) rfl (enters_of Try.func103 (by kernel_rfl) rfl) (words1_stops 4 (by omega) (w.heap.size + 1 + 1 + 1) (fun k => k = w.heap.size + 1 + 1 + 1) s hs _ (by intro k hk; simp; omega) rfl (by go_simp)) (Below.refl _ _) (by intro k hk; simp; omega) (fun _ => rfl)
    (CtI w s) (CtX w s) ?i0 ?ix ?start ?round ?done ?stop
  case i0 =>
    rintro pre W W' ⟨h, h0, h1, h2, hb⟩ hc
    exact ⟨h, hc.holds h0, hc.holds h1, hc.holds h2, hb.trans (hc.below (by simp; omega) hb.size)⟩
  case ix =>
    rintro c pre W W' ⟨h, p, h0, h1, h2, hb⟩ hc
    exact ⟨h, p, h0, hc.holds h1, hc.holds h2, hb.trans (hc.below (by simp; omega) hb.size)⟩
  case start => exact ⟨rfl, (by repeat (first | (with_reducible assumption) | ((with_reducible refine holds_new ?_); (focus (first | rfl | (simp; done)))) | (with_reducible refine Holds.alloc ?_ _) | (with_reducible refine Holds.drew ?_))), (by repeat (first | (with_reducible assumption) | ((with_reducible refine holds_new ?_); (focus (first | rfl | (simp; done)))) | (with_reducible refine Holds.alloc ?_ _) | (with_reducible refine Holds.drew ?_))), (by repeat (first | (with_reducible assumption) | ((with_reducible refine holds_new ?_); (focus (first | rfl | (simp; done)))) | (with_reducible refine Holds.alloc ?_ _) | (with_reducible refine Holds.drew ?_))), (by repeat (first | (with_reducible exact Below.refl _ _) | (with_reducible assumption) | (with_reducible refine Below.drew ?_) | ((with_reducible refine below_alloc ?_ ?_); (focus (first | omega | (simp; done) | (simp; omega)))) | ((with_reducible refine below_set ?_ ?_); (focus (first | omega | (simp; done) | (simp; omega))))))⟩
  case round =>
    rintro l pre x W ⟨h, h0, h1, h2, hb⟩
    dsimp only [encW]
    gi_wp2
    refine ⟨KeepsOthers.refl _, Keeps.refl _ _, ⟨h, h0, h1, h2, hb⟩, ?_⟩
    clear h h0 h1 h2 hb
    rintro W2 l2 pre2 hc2 ⟨rfl, h0, h1, h2, hb⟩ hlen2 hl2 hr2
    obtain ⟨⟨a, b⟩, hx1, hx2⟩ := x
    have hbz := hb.size
    have c0 := h0.c0; have c1 := h1.c0; have c2 := h2.c0; have f1 := h1.frozen 0; have f2 := h2.frozen 0; have l1 := h1.lt; have l2' := h2.lt
    dsimp only at *
    have i1 : (0 : Int) ≤ (a : Int) := by omega
    have i2 : (a : Int) ≤ (b : Int) := by omega
    have i3 : (b : Int) ≤ (s.size : Int) := by omega
    have HFin : Hid (∀ v, v = behind s (a, b) → roundEnd (fun k => k = w.heap.size + 1 + 1 + 1) (CtI w s) (CtX w s) ([] ++ [⟨(a, b), hx1, hx2⟩]) W2 .ret { tmps := #[], defers := [] } ((W2.drew.setCell ⟨w.heap.size + 1, 0, none⟩ (.string (s.extract a b))).setCell ⟨w.heap.size + 1 + 1, 0, none⟩ (.string v))) := hidden (fun v hv => by
      subst hv
      refine ⟨((KeepsOthers.drew _).trans (KeepsOthers.setCell _ _ _)).trans (KeepsOthers.setCell _ _ _), rfl, _, rfl, ?_, ?_, ?_⟩
      · exact (Holds.set (Holds.drew h1) 0 _).far (p := ⟨w.heap.size + 1 + 1, 0, none⟩) (by dsimp only; omega) _
      · exact ((Holds.drew h2).far (p := ⟨w.heap.size + 1, 0, none⟩) (by dsimp only; omega) _).set 0 _
      · exact (hb.drew.setCell (p := ⟨w.heap.size + 1, 0, none⟩) (by dsimp only; omega) _).setCell (p := ⟨w.heap.size + 1 + 1, 0, none⟩) (by dsimp only; omega) _)
    obtain ⟨m, hm⟩ : ∃ m, m = min (b + 1) s.size := ⟨_, rfl⟩
    have e1 : IntKind.i64.wrap ((b : Int) + 1) = (b : Int) + 1 := IntWalk.i64_in _ (by omega)
    have e2 : (if (s.size : Int) < (b : Int) + 1 then (s.size : Int) else (b : Int) + 1) = (m : Int) := by split <;> omega
    have e3 : (0 : Int) ≤ (m : Int) := by omega
    have e4 : (m : Int) ≤ (s.size : Int) := by omega
    have hfin := hidden (HFin.out (s.extract m s.size) (by unfold behind; dsimp only; rw [hm]))
    clear hm HFin
    gi_wp2
    refine wpIn_region_any (by kernel_rfl) ?_
    change wpAnyIn _ _ _ _ _ _ _ _ _ (World.drew _)
    refine anyR_take (i := 1) (v := ?_) (by rfl) rfl (by kernel_rfl) (by kernel_rfl) (by kernel_rfl) (fun _ _ _ h => h) ⟨Or.inl ⟨by rfl, fun w => ?_⟩, fun _ => rfl⟩ ?_
    rotate_left
    · go_simp
      try rfl
    refine anyR_take (i := 2) (v := ?_) (by rfl) rfl (by kernel_rfl) (by kernel_rfl) (by kernel_rfl) (fun _ _ _ h => h) ⟨Or.inl ⟨by rfl, fun w => ?_⟩, fun _ => rfl⟩ ?_
    rotate_left
    · go_simp
      try rfl
    refine anyR_take (i := 5) (v := ?_) (by rfl) rfl (by kernel_rfl) (by kernel_rfl) (by kernel_rfl) (fun _ _ _ h => h) ⟨Or.inl ⟨by rfl, fun w => ?_⟩, fun _ => rfl⟩ ?_
    rotate_left
    · go_simp
      try rfl
    refine anyR_take (i := 6) (v := ?_) (by rfl) rfl (by kernel_rfl) (by kernel_rfl) (by kernel_rfl) (fun _ _ _ h => h) ⟨Or.inl ⟨by rfl, fun w => ?_⟩, fun _ => rfl⟩ ?_
    rotate_left
    · go_simp
      try rfl
    refine wpAnyIn_ready (rs := [0, 4, 7]) (by kernel_rfl) (by simp) ?_
    refine readyR rfl rfl (fun K hK => ?_) (readyR rfl rfl (fun K hK => ?_) (readyR rfl rfl (fun K hK => ?_) AllReadyIn.nil))
    · go_simp
      refine hK _ _ ?_
      clear hK K
      refine anyR_take (i := 3) (v := ?_) (by rfl) rfl (by kernel_rfl) (by kernel_rfl) (by kernel_rfl) (fun _ _ _ h => h) ⟨Or.inl ⟨by rfl, fun w => ?_⟩, fun _ => rfl⟩ ?_
      rotate_left
      · go_simp
        try rfl
      refine wpAnyIn_ready (rs := [4, 7, 11]) (by kernel_rfl) (by simp) ?_
      refine readyR rfl rfl (fun K hK => ?_) (readyR rfl rfl (fun K hK => ?_) (readyR rfl rfl (fun K hK => ?_) AllReadyIn.nil))
      · go_simp
        refine hK _ _ ?_
        clear hK K
        refine wpAnyIn_ready (rs := [7, 11]) (by kernel_rfl) (by simp) ?_
        refine readyR rfl rfl (fun K hK => ?_) (readyR rfl rfl (fun K hK => ?_) AllReadyIn.nil)
        · go_simp
          refine hK _ _ ?_
          clear hK K
          refine anyR_take (i := 8) (v := ?_) (by rfl) rfl (by kernel_rfl) (by kernel_rfl) (by kernel_rfl) (fun _ _ _ h => h) ⟨Or.inl ⟨by rfl, fun w => ?_⟩, fun _ => rfl⟩ ?_
          rotate_left
          · go_simp
            try rfl
          refine anyR_take (i := 9) (v := ?_) (by rfl) rfl (by kernel_rfl) (by kernel_rfl) (by kernel_rfl) (fun _ _ _ h => h) ⟨Or.inl ⟨by rfl, fun w => ?_⟩, fun _ => rfl⟩ ?_
          rotate_left
          · go_simp
            try rfl
          refine anyR_take (i := 10) (v := ?_) (by rfl) rfl (by kernel_rfl) (by kernel_rfl) (by kernel_rfl) (fun _ _ _ h => h) ⟨Or.inl ⟨by rfl, fun w => ?_⟩, fun _ => rfl⟩ ?_
          rotate_left
          · go_simp
            try rfl
          refine wpAnyIn_ready (rs := [11]) (by kernel_rfl) (by simp) ?_
          refine readyR rfl rfl (fun K hK => ?_) AllReadyIn.nil
          go_simp
          refine hK _ _ ?_
          clear hK K
          refine wpAnyIn_ready (rs := [12]) (by kernel_rfl) (by simp) ?_
          refine readyR rfl rfl (fun K hK => ?_) AllReadyIn.nil
          go_simp
          refine hK _ _ ?_
          clear hK K
          refine wpAnyIn_done (by kernel_rfl) ?_ _
          gi_wp2
          exact hfin.out
        · go_simp
          refine hK _ _ ?_
          clear hK K
          refine wpAnyIn_ready (rs := [7]) (by kernel_rfl) (by simp) ?_
          refine readyR rfl rfl (fun K hK => ?_) AllReadyIn.nil
          go_simp
          refine hK _ _ ?_
          clear hK K
          refine anyR_take (i := 8) (v := ?_) (by rfl) rfl (by kernel_rfl) (by kernel_rfl) (by kernel_rfl) (fun _ _ _ h => h) ⟨Or.inl ⟨by rfl, fun w => ?_⟩, fun _ => rfl⟩ ?_
          rotate_left
          · go_simp
            try rfl
          refine anyR_take (i := 9) (v := ?_) (by rfl) rfl (by kernel_rfl) (by kernel_rfl) (by kernel_rfl) (fun _ _ _ h => h) ⟨Or.inl ⟨by rfl, fun w => ?_⟩, fun _ => rfl⟩ ?_
          rotate_left
          · go_simp
            try rfl
          refine anyR_take (i := 10) (v := ?_) (by rfl) rfl (by kernel_rfl) (by kernel_rfl) (by kernel_rfl) (fun _ _ _ h => h) ⟨Or.inl ⟨by rfl, fun w => ?_⟩, fun _ => rfl⟩ ?_
          rotate_left
          · go_simp
            try rfl
          refine wpAnyIn_ready (rs := [12]) (by kernel_rfl) (by simp) ?_
          refine readyR rfl rfl (fun K hK => ?_) AllReadyIn.nil
          go_simp
          refine hK _ _ ?_
          clear hK K
          refine wpAnyIn_done (by kernel_rfl) ?_ _
          gi_wp2
          exact hfin.out
      · go_simp
        refine hK _ _ ?_
        clear hK K
        refine anyR_take (i := 8) (v := ?_) (by rfl) rfl (by kernel_rfl) (by kernel_rfl) (by kernel_rfl) (fun _ _ _ h => h) ⟨Or.inl ⟨by rfl, fun w => ?_⟩, fun _ => rfl⟩ ?_
        rotate_left
        · go_simp
          try rfl
        refine anyR_take (i := 9) (v := ?_) (by rfl) rfl (by kernel_rfl) (by kernel_rfl) (by kernel_rfl) (fun _ _ _ h => h) ⟨Or.inl ⟨by rfl, fun w => ?_⟩, fun _ => rfl⟩ ?_
        rotate_left
        · go_simp
          try rfl
        refine wpAnyIn_ready (rs := [4, 11]) (by kernel_rfl) (by simp) ?_
        refine readyR rfl rfl (fun K hK => ?_) (readyR rfl rfl (fun K hK => ?_) AllReadyIn.nil)
        · go_simp
          refine hK _ _ ?_
          clear hK K
          refine anyR_take (i := 10) (v := ?_) (by rfl) rfl (by kernel_rfl) (by kernel_rfl) (by kernel_rfl) (fun _ _ _ h => h) ⟨Or.inl ⟨by rfl, fun w => ?_⟩, fun _ => rfl⟩ ?_
          rotate_left
          · go_simp
            try rfl
          refine wpAnyIn_ready (rs := [11]) (by kernel_rfl) (by simp) ?_
          refine readyR rfl rfl (fun K hK => ?_) AllReadyIn.nil
          go_simp
          refine hK _ _ ?_
          clear hK K
          refine wpAnyIn_ready (rs := [12]) (by kernel_rfl) (by simp) ?_
          refine readyR rfl rfl (fun K hK => ?_) AllReadyIn.nil
          go_simp
          refine hK _ _ ?_
          clear hK K
          refine wpAnyIn_done (by kernel_rfl) ?_ _
          gi_wp2
          exact hfin.out
        · go_simp
          refine hK _ _ ?_
          clear hK K
          refine wpAnyIn_ready (rs := [4]) (by kernel_rfl) (by simp) ?_
          refine readyR rfl rfl (fun K hK => ?_) AllReadyIn.nil
          go_simp
          refine hK _ _ ?_
          clear hK K
          refine anyR_take (i := 10) (v := ?_) (by rfl) rfl (by kernel_rfl) (by kernel_rfl) (by kernel_rfl) (fun _ _ _ h => h) ⟨Or.inl ⟨by rfl, fun w => ?_⟩, fun _ => rfl⟩ ?_
          rotate_left
          · go_simp
            try rfl
          refine wpAnyIn_ready (rs := [12]) (by kernel_rfl) (by simp) ?_
          refine readyR rfl rfl (fun K hK => ?_) AllReadyIn.nil
          go_simp
          refine hK _ _ ?_
          clear hK K
          refine wpAnyIn_done (by kernel_rfl) ?_ _
          gi_wp2
          exact hfin.out
      · go_simp
        refine hK _ _ ?_
        clear hK K
        refine wpAnyIn_ready (rs := [4, 7]) (by kernel_rfl) (by simp) ?_
        refine readyR rfl rfl (fun K hK => ?_) (readyR rfl rfl (fun K hK => ?_) AllReadyIn.nil)
        · go_simp
          refine hK _ _ ?_
          clear hK K
          refine wpAnyIn_ready (rs := [7]) (by kernel_rfl) (by simp) ?_
          refine readyR rfl rfl (fun K hK => ?_) AllReadyIn.nil
          go_simp
          refine hK _ _ ?_
          clear hK K
          refine anyR_take (i := 8) (v := ?_) (by rfl) rfl (by kernel_rfl) (by kernel_rfl) (by kernel_rfl) (fun _ _ _ h => h) ⟨Or.inl ⟨by rfl, fun w => ?_⟩, fun _ => rfl⟩ ?_
          rotate_left
          · go_simp
            try rfl
          refine anyR_take (i := 9) (v := ?_) (by rfl) rfl (by kernel_rfl) (by kernel_rfl) (by kernel_rfl) (fun _ _ _ h => h) ⟨Or.inl ⟨by rfl, fun w => ?_⟩, fun _ => rfl⟩ ?_
          rotate_left
          · go_simp
            try rfl
          refine anyR_take (i := 10) (v := ?_) (by rfl) rfl (by kernel_rfl) (by kernel_rfl) (by kernel_rfl) (fun _ _ _ h => h) ⟨Or.inl ⟨by rfl, fun w => ?_⟩, fun _ => rfl⟩ ?_
          rotate_left
          · go_simp
            try rfl
          refine wpAnyIn_ready (rs := [12]) (by kernel_rfl) (by simp) ?_
          refine readyR rfl rfl (fun K hK => ?_) AllReadyIn.nil
          go_simp
          refine hK _ _ ?_
          clear hK K
          refine wpAnyIn_done (by kernel_rfl) ?_ _
          gi_wp2
          exact hfin.out
        · go_simp
          refine hK _ _ ?_
          clear hK K
          refine anyR_take (i := 8) (v := ?_) (by rfl) rfl (by kernel_rfl) (by kernel_rfl) (by kernel_rfl) (fun _ _ _ h => h) ⟨Or.inl ⟨by rfl, fun w => ?_⟩, fun _ => rfl⟩ ?_
          rotate_left
          · go_simp
            try rfl
          refine anyR_take (i := 9) (v := ?_) (by rfl) rfl (by kernel_rfl) (by kernel_rfl) (by kernel_rfl) (fun _ _ _ h => h) ⟨Or.inl ⟨by rfl, fun w => ?_⟩, fun _ => rfl⟩ ?_
          rotate_left
          · go_simp
            try rfl
          refine wpAnyIn_ready (rs := [4]) (by kernel_rfl) (by simp) ?_
          refine readyR rfl rfl (fun K hK => ?_) AllReadyIn.nil
          go_simp
          refine hK _ _ ?_
          clear hK K
          refine anyR_take (i := 10) (v := ?_) (by rfl) rfl (by kernel_rfl) (by kernel_rfl) (by kernel_rfl) (fun _ _ _ h => h) ⟨Or.inl ⟨by rfl, fun w => ?_⟩, fun _ => rfl⟩ ?_
          rotate_left
          · go_simp
            try rfl
          refine wpAnyIn_ready (rs := [12]) (by kernel_rfl) (by simp) ?_
          refine readyR rfl rfl (fun K hK => ?_) AllReadyIn.nil
          go_simp
          refine hK _ _ ?_
          clear hK K
          refine wpAnyIn_done (by kernel_rfl) ?_ _
          gi_wp2
          exact hfin.out
    · go_simp
      refine hK _ _ ?_
      clear hK K
      refine wpAnyIn_ready (rs := [0, 7]) (by kernel_rfl) (by simp) ?_
      refine readyR rfl rfl (fun K hK => ?_) (readyR rfl rfl (fun K hK => ?_) AllReadyIn.nil)
      · go_simp
        refine hK _ _ ?_
        clear hK K
        refine anyR_take (i := 3) (v := ?_) (by rfl) rfl (by kernel_rfl) (by kernel_rfl) (by kernel_rfl) (fun _ _ _ h => h) ⟨Or.inl ⟨by rfl, fun w => ?_⟩, fun _ => rfl⟩ ?_
        rotate_left
        · go_simp
          try rfl
        refine wpAnyIn_ready (rs := [7, 11]) (by kernel_rfl) (by simp) ?_
        refine readyR rfl rfl (fun K hK => ?_) (readyR rfl rfl (fun K hK => ?_) AllReadyIn.nil)
        · go_simp
          refine hK _ _ ?_
          clear hK K
          refine anyR_take (i := 8) (v := ?_) (by rfl) rfl (by kernel_rfl) (by kernel_rfl) (by kernel_rfl) (fun _ _ _ h => h) ⟨Or.inl ⟨by rfl, fun w => ?_⟩, fun _ => rfl⟩ ?_
          rotate_left
          · go_simp
            try rfl
          refine anyR_take (i := 9) (v := ?_) (by rfl) rfl (by kernel_rfl) (by kernel_rfl) (by kernel_rfl) (fun _ _ _ h => h) ⟨Or.inl ⟨by rfl, fun w => ?_⟩, fun _ => rfl⟩ ?_
          rotate_left
          · go_simp
            try rfl
          refine anyR_take (i := 10) (v := ?_) (by rfl) rfl (by kernel_rfl) (by kernel_rfl) (by kernel_rfl) (fun _ _ _ h => h) ⟨Or.inl ⟨by rfl, fun w => ?_⟩, fun _ => rfl⟩ ?_
          rotate_left
          · go_simp
            try rfl
          refine wpAnyIn_ready (rs := [11]) (by kernel_rfl) (by simp) ?_
          refine readyR rfl rfl (fun K hK => ?_) AllReadyIn.nil
          go_simp
          refine hK _ _ ?_
          clear hK K
          refine wpAnyIn_ready (rs := [12]) (by kernel_rfl) (by simp) ?_
          refine readyR rfl rfl (fun K hK => ?_) AllReadyIn.nil
          go_simp
          refine hK _ _ ?_
          clear hK K
          refine wpAnyIn_done (by kernel_rfl) ?_ _
          gi_wp2
          exact hfin.out
        · go_simp
          refine hK _ _ ?_
          clear hK K
          refine wpAnyIn_ready (rs := [7]) (by kernel_rfl) (by simp) ?_
          refine readyR rfl rfl (fun K hK => ?_) AllReadyIn.nil
          go_simp
          refine hK _ _ ?_
          clear hK K
          refine anyR_take (i := 8) (v := ?_) (by rfl) rfl (by kernel_rfl) (by kernel_rfl) (by kernel_rfl) (fun _ _ _ h => h) ⟨Or.inl ⟨by rfl, fun w => ?_⟩, fun _ => rfl⟩ ?_
          rotate_left
          · go_simp
            try rfl
          refine anyR_take (i := 9) (v := ?_) (by rfl) rfl (by kernel_rfl) (by kernel_rfl) (by kernel_rfl) (fun _ _ _ h => h) ⟨Or.inl ⟨by rfl, fun w => ?_⟩, fun _ => rfl⟩ ?_
          rotate_left
          · go_simp
            try rfl
          refine anyR_take (i := 10) (v := ?_) (by rfl) rfl (by kernel_rfl) (by kernel_rfl) (by kernel_rfl) (fun _ _ _ h => h) ⟨Or.inl ⟨by rfl, fun w => ?_⟩, fun _ => rfl⟩ ?_
          rotate_left
          · go_simp
            try rfl
          refine wpAnyIn_ready (rs := [12]) (by kernel_rfl) (by simp) ?_
          refine readyR rfl rfl (fun K hK => ?_) AllReadyIn.nil
          go_simp
          refine hK _ _ ?_
          clear hK K
          refine wpAnyIn_done (by kernel_rfl) ?_ _
          gi_wp2
          exact hfin.out
      · go_simp
        refine hK _ _ ?_
        clear hK K
        refine anyR_take (i := 8) (v := ?_) (by rfl) rfl (by kernel_rfl) (by kernel_rfl) (by kernel_rfl) (fun _ _ _ h => h) ⟨Or.inl ⟨by rfl, fun w => ?_⟩, fun _ => rfl⟩ ?_
        rotate_left
        · go_simp
          try rfl
        refine anyR_take (i := 9) (v := ?_) (by rfl) rfl (by kernel_rfl) (by kernel_rfl) (by kernel_rfl) (fun _ _ _ h => h) ⟨Or.inl ⟨by rfl, fun w => ?_⟩, fun _ => rfl⟩ ?_
        rotate_left
        · go_simp
          try rfl
        refine anyR_take (i := 10) (v := ?_) (by rfl) rfl (by kernel_rfl) (by kernel_rfl) (by kernel_rfl) (fun _ _ _ h => h) ⟨Or.inl ⟨by rfl, fun w => ?_⟩, fun _ => rfl⟩ ?_
        rotate_left
        · go_simp
          try rfl
        refine wpAnyIn_ready (rs := [0]) (by kernel_rfl) (by simp) ?_
        refine readyR rfl rfl (fun K hK => ?_) AllReadyIn.nil
        go_simp
        refine hK _ _ ?_
        clear hK K
        refine anyR_take (i := 3) (v := ?_) (by rfl) rfl (by kernel_rfl) (by kernel_rfl) (by kernel_rfl) (fun _ _ _ h => h) ⟨Or.inl ⟨by rfl, fun w => ?_⟩, fun _ => rfl⟩ ?_
        rotate_left
        · go_simp
          try rfl
        refine wpAnyIn_ready (rs := [11]) (by kernel_rfl) (by simp) ?_
        refine readyR rfl rfl (fun K hK => ?_) AllReadyIn.nil
        go_simp
        refine hK _ _ ?_
        clear hK K
        refine wpAnyIn_ready (rs := [12]) (by kernel_rfl) (by simp) ?_
        refine readyR rfl rfl (fun K hK => ?_) AllReadyIn.nil
        go_simp
        refine hK _ _ ?_
        clear hK K
        refine wpAnyIn_done (by kernel_rfl) ?_ _
        gi_wp2
        exact hfin.out
    · go_simp
      refine hK _ _ ?_
      clear hK K
      refine anyR_take (i := 8) (v := ?_) (by rfl) rfl (by kernel_rfl) (by kernel_rfl) (by kernel_rfl) (fun _ _ _ h => h) ⟨Or.inl ⟨by rfl, fun w => ?_⟩, fun _ => rfl⟩ ?_
      rotate_left
      · go_simp
        try rfl
      refine anyR_take (i := 9) (v := ?_) (by rfl) rfl (by kernel_rfl) (by kernel_rfl) (by kernel_rfl) (fun _ _ _ h => h) ⟨Or.inl ⟨by rfl, fun w => ?_⟩, fun _ => rfl⟩ ?_
      rotate_left
      · go_simp
        try rfl
      refine wpAnyIn_ready (rs := [0, 4]) (by kernel_rfl) (by simp) ?_
      refine readyR rfl rfl (fun K hK => ?_) (readyR rfl rfl (fun K hK => ?_) AllReadyIn.nil)
      · go_simp
        refine hK _ _ ?_
        clear hK K
        refine anyR_take (i := 3) (v := ?_) (by rfl) rfl (by kernel_rfl) (by kernel_rfl) (by kernel_rfl) (fun _ _ _ h => h) ⟨Or.inl ⟨by rfl, fun w => ?_⟩, fun _ => rfl⟩ ?_
        rotate_left
        · go_simp
          try rfl
        refine wpAnyIn_ready (rs := [4, 11]) (by kernel_rfl) (by simp) ?_
        refine readyR rfl rfl (fun K hK => ?_) (readyR rfl rfl (fun K hK => ?_) AllReadyIn.nil)
        · go_simp
          refine hK _ _ ?_
          clear hK K
          refine anyR_take (i := 10) (v := ?_) (by rfl) rfl (by kernel_rfl) (by kernel_rfl) (by kernel_rfl) (fun _ _ _ h => h) ⟨Or.inl ⟨by rfl, fun w => ?_⟩, fun _ => rfl⟩ ?_
          rotate_left
          · go_simp
            try rfl
          refine wpAnyIn_ready (rs := [11]) (by kernel_rfl) (by simp) ?_
          refine readyR rfl rfl (fun K hK => ?_) AllReadyIn.nil
          go_simp
          refine hK _ _ ?_
          clear hK K
          refine wpAnyIn_ready (rs := [12]) (by kernel_rfl) (by simp) ?_
          refine readyR rfl rfl (fun K hK => ?_) AllReadyIn.nil
          go_simp
          refine hK _ _ ?_
          clear hK K
          refine wpAnyIn_done (by kernel_rfl) ?_ _
          gi_wp2
          exact hfin.out
        · go_simp
          refine hK _ _ ?_
          clear hK K
          refine wpAnyIn_ready (rs := [4]) (by kernel_rfl) (by simp) ?_
          refine readyR rfl rfl (fun K hK => ?_) AllReadyIn.nil
          go_simp
          refine hK _ _ ?_
          clear hK K
          refine anyR_take (i := 10) (v := ?_) (by rfl) rfl (by kernel_rfl) (by kernel_rfl) (by kernel_rfl) (fun _ _ _ h => h) ⟨Or.inl ⟨by rfl, fun w => ?_⟩, fun _ => rfl⟩ ?_
          rotate_left
          · go_simp
            try rfl
          refine wpAnyIn_ready (rs := [12]) (by kernel_rfl) (by simp) ?_
          refine readyR rfl rfl (fun K hK => ?_) AllReadyIn.nil
          go_simp
          refine hK _ _ ?_
          clear hK K
          refine wpAnyIn_done (by kernel_rfl) ?_ _
          gi_wp2
          exact hfin.out
      · go_simp
        refine hK _ _ ?_
        clear hK K
        refine anyR_take (i := 10) (v := ?_) (by rfl) rfl (by kernel_rfl) (by kernel_rfl) (by kernel_rfl) (fun _ _ _ h => h) ⟨Or.inl ⟨by rfl, fun w => ?_⟩, fun _ => rfl⟩ ?_
        rotate_left
        · go_simp
          try rfl
        refine wpAnyIn_ready (rs := [0]) (by kernel_rfl) (by simp) ?_
        refine readyR rfl rfl (fun K hK => ?_) AllReadyIn.nil
        go_simp
        refine hK _ _ ?_
        clear hK K
        refine anyR_take (i := 3) (v := ?_) (by rfl) rfl (by kernel_rfl) (by kernel_rfl) (by kernel_rfl) (fun _ _ _ h => h) ⟨Or.inl ⟨by rfl, fun w => ?_⟩, fun _ => rfl⟩ ?_
        rotate_left
        · go_simp
          try rfl
        refine wpAnyIn_ready (rs := [11]) (by kernel_rfl) (by simp) ?_
        refine readyR rfl rfl (fun K hK => ?_) AllReadyIn.nil
        go_simp
        refine hK _ _ ?_
        clear hK K
        refine wpAnyIn_ready (rs := [12]) (by kernel_rfl) (by simp) ?_
        refine readyR rfl rfl (fun K hK => ?_) AllReadyIn.nil
        go_simp
        refine hK _ _ ?_
        clear hK K
        refine wpAnyIn_done (by kernel_rfl) ?_ _
        gi_wp2
        exact hfin.out
  case done =>
    rintro D xs W hD hS ⟨rfl, h0, h1, h2, hb⟩ hK
    have hbz := hb.size
    have HE := hidden (HCo.out hS.symm)
    have c1 := h1.c0; have c2 := h2.c0; have f1 := h1.frozen 0; have f2 := h2.frozen 0
    gi_wp2
    refine leaves_marks (B := w.heap.size) [D] _ ⟨by simp, ?_⟩ ?_
    · intro D' hD'
      simp at hD'
      subst hD'
      exact ⟨by simp at hD; omega, keeps_deferred (by repeat (first | (with_reducible exact KeepsOthers.refl _) | (with_reducible refine KeepsOthers.trans ?_ (KeepsOthers.setCell _ _ _)) | (with_reducible refine KeepsOthers.trans ?_ (KeepsOthers.alloc _ _)) | (with_reducible refine KeepsOthers.trans ?_ (KeepsOthers.drew _)))) hK⟩
    · intro W' hc
      have q1 := hc.holds (g := w.heap.size + 1) (t := 9) (cs := #[.string ⟨#[]⟩]) (by (apply Holds.of_eq; focus (repeat (first | (with_reducible assumption) | ((with_reducible apply holds_new); (focus (first | rfl | (simp; done)))) | (with_reducible apply holds_set) | ((with_reducible apply holds_far); (focus (first | omega | (simp; done) | (simp; omega)))) | (with_reducible apply Holds.alloc) | (with_reducible apply Holds.drew)))); rfl)
      have q2 := hc.holds (g := w.heap.size + 1 + 1) (t := 9) (cs := #[.string ⟨#[]⟩]) (by (apply Holds.of_eq; focus (repeat (first | (with_reducible assumption) | ((with_reducible apply holds_new); (focus (first | rfl | (simp; done)))) | (with_reducible apply holds_set) | ((with_reducible apply holds_far); (focus (first | omega | (simp; done) | (simp; omega)))) | (with_reducible apply Holds.alloc) | (with_reducible apply Holds.drew)))); rfl)
      have e1 := q1.c0; have e2 := q2.c0
      refine ⟨.tuple #[.string ⟨#[]⟩, .string ⟨#[]⟩], ?_, ?_, ?_⟩
      · simp [results, Try.f16, go_sem, e1, e2]
      · rw [HE.out]
      · refine Below.trans ?_ (hc.below (Nat.le_refl _) (by simp; omega))
        exact (by repeat (first | (with_reducible exact Below.refl _ _) | (with_reducible assumption) | (with_reducible refine Below.drew ?_) | ((with_reducible refine below_alloc ?_ ?_); (focus (first | omega | (simp; done) | (simp; omega)))) | ((with_reducible refine below_set ?_ ?_); (focus (first | omega | (simp; done) | (simp; omega))))))
  case stop =>
    rintro D c pre W hD hS ⟨rfl, p, rfl, h1, h2, hb⟩ hK
    have hbz := hb.size
    obtain ⟨r, hr⟩ := hS
    have HE := hidden (HCo2.out p.1 r hr.symm)
    gi_wp2
    refine leaves_marks (B := w.heap.size) [D] _ ⟨by simp, ?_⟩ ?_
    · intro D' hD'
      simp at hD'
      subst hD'
      exact ⟨by simp at hD; omega, hK⟩
    · intro W' hc
      have q1 := hc.holds h1
      have q2 := hc.holds h2
      have e1 := q1.c0; have e2 := q2.c0
      refine ⟨.tuple #[.string (cutTo s p.1), .string (behind s p.1)], ?_, ?_, ?_⟩
      · simp [results, Try.f16, go_sem, e1, e2]
      · rw [HE.out]
      · exact hb.trans (hc.below (Nat.le_refl _) hbz)
end Go.Proofs.Ytaagkbgbghleiaa
