/-
  word.Words.
-/
import Derived.Test.YtaagkbgbghleiaaWordIter
namespace Go.Proofs.Ytaagkbgbghleiaa
open Go.RowKit Go.Shelf
attribute [local go_sem] Oper.semAt_some

theorem Mine.own_ge {w : World} {b : Nat} {e : TypeId} {size n : Nat} {v : Value} {xs : List Value} (h : Mine w b e size v n xs) (hn : 0 < n) : ∀ g, v.ownBlock = some g → b ≤ g := by
  intro g hg
  rcases (h.own hn).2 with ⟨rfl, _⟩ | ⟨g', cap, cur, rfl, hb, _⟩
  · cases hg
  · cases hg; exact hb
theorem Keeps.mono {T T' : Nat → Prop} {W W' : World} (h : Keeps T W W') (hT : ∀ k, T' k → T k) : Keeps T' W W' := ⟨h.size, fun k hk => h.block k (hT k hk)⟩

theorem words1_stops (n : Nat) (hn : 1 ≤ n) (Bs : Nat) (T : Nat → Prop) (s : ByteArray) (hs : s.size ≤ 1000000) (w : World) (hT : ∀ k, T k → k < w.heap.size) (hTb : T Bs) (hc : w.cell? ⟨Bs, 0, none⟩ = some (.string s)) :
    SeqStopsK Fence.wide n Try.prog 103 #[.pointer (some ⟨Bs, 0, none⟩)] encW (Keeps T) (fun ys : List (Sw s) => ys.map (·.1) = wordsAt s 0) (fun pre => pre.map (·.1) <+: wordsAt s 0) (wordsAt s 0).length w :=
  fun l J Jx W hW _ _ hY h0 => words1_in n hn l Bs T s hs J Jx hY W hTb ((hW.cell (p := ⟨Bs, 0, none⟩) (hT _ hTb)).trans hc) h0

theorem word_stretches (s : ByteArray) (w : World) :
    Calls Try.prog 62 #[.string s] w fun e w' => e = .returned (.func (.func 103) #[] #[.pointer (some ⟨w.heap.size, 0, none⟩)]) ∧ w.alloc (.cells #[.string s] 9) = w' := by
  go_enter Try.func62, Try.ntmps62
  go_wp2
  go_ret
  exact ⟨rfl, rfl⟩

theorem spans_len (s : ByteArray) : ∀ n k, s.size - k ≤ n → (wordsAt s k).length ≤ s.size - k := by
  intro n
  induction n with
  | zero => intro k h; rw [wordsAt_past (by omega)]; simp
  | succ n ih =>
    intro k h
    by_cases hk : k < s.size
    · by_cases hc : s[k] = 32
      · rw [wordsAt_blank hk hc]
        have := ih (k + 1) (by omega)
        omega
      · cases hw : wordsAt s k with
        | nil => simp
        | cons p r =>
          have hb := span_bounds_w s _ k (Nat.le_refl _)
          rw [hw] at hb
          have hp := hb p (List.mem_cons_self ..)
          have hr : r = wordsAt s (p.2 + 1) := by
            have hl : upTo 32 ((bytes s).drop k) ≤ s.size - k := by
              have := upTo_le 32 ((bytes s).drop k)
              rwa [List.length_drop, bytes_len] at this
            have hpos : 0 < upTo 32 ((bytes s).drop k) := by
              rcases Nat.eq_zero_or_pos (upTo 32 ((bytes s).drop k)) with h0 | h0
              · exfalso
                have := upTo_at (c := 32) (l := (bytes s).drop k) (by rw [h0, List.length_drop, bytes_len]; omega)
                rw [h0, List.getElem?_drop, Nat.add_zero, bytes_at hk] at this
                exact hc (Option.some.inj this)
              · exact h0
            have hst := wordsAt_step (s := s) (b := k) (e := k + upTo 32 ((bytes s).drop k)) (by omega) (by omega) (fun j hj h1 h2 => by
              obtain ⟨x, hx, hne⟩ := upTo_lt (c := 32) (l := (bytes s).drop k) (i := j - k) (by omega)
              rw [List.getElem?_drop, show k + (j - k) = j by omega, bytes_at hj] at hx
              cases hx; exact hne) (fun h => by
              have := upTo_at (c := 32) (l := (bytes s).drop k) (by rw [List.length_drop, bytes_len]; omega)
              rw [List.getElem?_drop, bytes_at h] at this
              exact Option.some.inj this)
            rw [hst] at hw
            cases hw; rfl
          have := ih (p.2 + 1) (by omega)
          rw [← hr] at this
          simp; omega
    · rw [wordsAt_past (by omega)]; simp

def WdI (w : World) (s : ByteArray) (pre : List (Sw s)) (W : World) : Prop :=
  ∃ l, Holds W w.heap.size 9 #[.string s] ∧ Holds W (w.heap.size + 1) 26 #[l] ∧ Hid (Mine W (w.heap.size + 1 + 1 + 1) 9 1 l pre.length ((pre.map fun p => cutTo s p.1).flatMap strC)) ∧ Hid (∀ g, l.ownBlock = some g → w.heap.size + 1 + 1 + 1 ≤ g) ∧ (∃ A c, l = .slice A pre.length c) ∧ Below w.heap.size w W ∧ w.heap.size + 1 + 1 < W.heap.size
def WdX (s : ByteArray) (_ : Code) (_ : List (Sw s)) (_ : World) : Prop := False

set_option maxRecDepth 20000 in
set_option maxHeartbeats 8000000 in
theorem word_words (s : ByteArray) (w : World) (hs : s.size ≤ 1000000) :
    Calls Try.prog 21 #[.string s] w fun r w' => (∃ u, r = .returned u ∧ Hid (StrsM w' w.heap.size u (wordsOf s))) ∧ Below w.heap.size w w' := by
  have HI := str_info
  have hlen := spans_len s s.size 0 (by omega)
  (refine (callsIn_wide (n := 5)).1 ?_; refine callsIn_of_wp_marks Try.func21 rfl trivial ?_ rfl; simp only [Try.ntmps21, List.size_toArray, List.length_cons, List.length_nil, Nat.reduceAdd, Nat.reduceSub, Array.replicate_succ, Array.replicate_zero, List.push_toArray, List.append_toArray, List.nil_append, List.cons_append])
  gi_wp2_with (refine ⟨trivial, ?_⟩; gi_at_call 62; refine (callsIn_wide.2 (word_stretches _ _)).mono ?_; rintro e w' ⟨rfl, rfl⟩)
  refine range_law (by omega) rfl (enters_of Try.func103 (by kernel_rfl) rfl) (words1_stops 4 (by omega) (w.heap.size + 1 + 1) (fun k => k = w.heap.size + 1 + 1) s hs _ (by intro k hk; simp; omega) rfl (by go_simp)) (Below.refl _ _) (by intro k hk; simp; omega) (fun _ => rfl)
    (WdI w s) (WdX s) ?i0 ?ix ?start ?round ?done ?stop
  case i0 =>
    rintro pre W W' ⟨l, h0, h1, h2, h3, h4, hb, hz⟩ hc
    exact ⟨l, hc.holds h0, hc.holds h1, hidden (h2.out.calm hc), h3, h4, hb.trans (hc.below (by simp; omega) hb.size), Nat.lt_of_lt_of_le hz hc.size⟩
  case ix => exact fun c s W W' h => h.elim
  case start => exact ⟨_, (by repeat (first | (with_reducible assumption) | ((with_reducible refine holds_new ?_); (focus (first | rfl | (simp; done)))) | (with_reducible refine Holds.alloc ?_ _) | (with_reducible refine Holds.drew ?_))), (by repeat (first | (with_reducible assumption) | ((with_reducible refine holds_new ?_); (focus (first | rfl | (simp; done)))) | (with_reducible refine Holds.alloc ?_ _) | (with_reducible refine Holds.drew ?_))), hidden (Mine.nil _ _ _ _), hidden (fun g hg => by cases hg), ⟨none, 0, rfl⟩, (by repeat (first | (with_reducible exact Below.refl _ _) | (with_reducible assumption) | (with_reducible refine Below.drew ?_) | ((with_reducible refine below_alloc ?_ ?_); (focus (first | omega | (simp; done) | (simp; omega)))) | ((with_reducible refine below_set ?_ ?_); (focus (first | omega | (simp; done) | (simp; omega)))))), by simp⟩
  case round =>
    rintro l pre x W ⟨u, h0, h1, h2, h3, h4, hb, hz⟩
    dsimp only [encW]
    gi_wp2
    refine ⟨KeepsOthers.refl _, Keeps.refl _ _, ⟨u, h0, h1, h2, h3, h4, hb, hz⟩, ?_⟩
    clear h0 h1 h2 h3 h4 hb hz
    rintro W2 l2 pre2 hc2 ⟨u, h0, h1, HM, h3, h4, hb, hz⟩ hlen2 hl2 hr2
    obtain ⟨⟨a, b⟩, hx1, hx2⟩ := x
    have hbz := hb.size
    have c0 := h0.c0; have c1 := h1.c0; have f1 := h1.frozen 0; have l1 := h1.lt
    dsimp only at *
    obtain ⟨A, c, rfl⟩ := h4
    have i1 : (0 : Int) ≤ (a : Int) := by omega
    have i2 : (a : Int) ≤ (b : Int) := by omega
    have i3 : (b : Int) ≤ (s.size : Int) := by omega
    gi_wp2
    have HM2 := hidden (Mine.drew (Mine.alloc HM.out (.cells #[.string (s.extract a b)] 9)))
    have HX : Hid (Rd (W2.alloc (.cells #[.string (s.extract a b)] 9)).drew (Old (W2.alloc (.cells #[.string (s.extract a b)] 9)).drew) 1 (.slice (some ⟨W2.heap.size, 0, none⟩) 1 1) 1 [.string (s.extract a b)]) := hidden (Rd.single W2 9 (.string (s.extract a b)) W2.heap.size rfl)
    have H1 := one_str (s.extract a b)
    have hbz2 : w.heap.size + 1 + 1 + 1 ≤ (W2.alloc (.cells #[.string (s.extract a b)] 9)).drew.heap.size := by
      show w.heap.size + 1 + 1 + 1 ≤ (W2.alloc (.cells #[.string (s.extract a b)] 9)).heap.size
      simp; omega
    have HFin : Hid (∀ v' w', Appended (W2.alloc (.cells #[.string (s.extract a b)] 9)).drew (w.heap.size + 1 + 1 + 1) 9 1 (.slice A pre2.length c) (pre2.length + 1) ((pre2.map fun p => cutTo s p.1).flatMap strC ++ [.string (s.extract a b)]) v' w' →
        ∀ A' c', v' = .slice A' (pre2.length + 1) c' → roundEnd (fun k => k = w.heap.size + 1 + 1) (WdI w s) (WdX s) (pre2 ++ [⟨(a, b), hx1, hx2⟩]) W2 .normal { tmps := #[], defers := [] } (w'.setCell ⟨w.heap.size + 1, 0, none⟩ (.slice A' (pre2.length + 1) c'))) := hidden (fun v' w' hA A' c' hv => by
      subst hv
      have kk : KeepsOthers W2 w' := ((KeepsOthers.alloc W2 _).trans (KeepsOthers.drew _)).trans hA.others
      have hT : ∀ k, k < w.heap.size + 1 + 1 + 1 → (Value.slice A pre2.length c).ownBlock ≠ some k := fun k hk e => by have := h3.out k e; omega
      have hge := hA.mine.own_ge (by omega)
      have hb1 : Below w.heap.size w w' := ((hb.alloc hbz _).drew).trans (hA.below.mono (by omega))
      have h0' := hA.keeps.holds (g := w.heap.size) (hT _ (by omega)) (Holds.drew (h0.alloc _))
      have h1' := hA.keeps.holds (g := w.heap.size + 1) (hT _ (by omega)) (Holds.drew (h1.alloc _))
      have hsz := hA.keeps.size
      refine ⟨kk.trans (KeepsOthers.setCell _ _ _), ?_, ⟨_, h0'.far (p := ⟨w.heap.size + 1, 0, none⟩) (by dsimp only; omega) _, h1'.set 0 _, hidden ?_, hidden hge, ⟨A', c', by simp⟩, hb1.setCell (p := ⟨_, _, none⟩) (by dsimp only; omega) _, ?_⟩⟩
      · refine Keeps.setCell (p := ⟨w.heap.size + 1, 0, none⟩) ?_ (by show ¬ (w.heap.size + 1 = w.heap.size + 1 + 1); omega) _
        exact (((Keeps.refl _ _).alloc _).drew).trans (hA.keeps.mono (fun k hk => by subst hk; exact hT _ (by omega)))
      · have := hA.mine.set (p := ⟨w.heap.size + 1, 0, none⟩) (fun e => by have := hge _ e; dsimp only at this; omega) (.slice A' (pre2.length + 1) c')
        simpa [strC, cutTo] using this
      · have : W2.heap.size + 1 ≤ w'.heap.size := by simpa using hsz
        show _ < (w'.setCell _ _).heap.size
        simp [World.setCell]; omega)
    refine wpIn_region_any (by kernel_rfl) ?_
    change wpAnyIn _ _ _ _ _ _ _ _ _ (World.drew _)
    refine anyR_take (i := 2) (v := ?_) (by rfl) rfl (by kernel_rfl) (by kernel_rfl) (by kernel_rfl) (fun _ _ _ h => h) ⟨Or.inl ⟨by rfl, fun w => ?_⟩, fun _ => rfl⟩ ?_
    rotate_left
    · go_simp
      try rfl
    refine anyR_take (i := 3) (v := ?_) (by rfl) rfl (by kernel_rfl) (by kernel_rfl) (by kernel_rfl) (fun _ _ _ h => h) ⟨Or.inl ⟨by rfl, fun w => ?_⟩, fun _ => rfl⟩ ?_
    rotate_left
    · go_simp
      try rfl
    refine wpAnyIn_ready (rs := [0, 1]) (by kernel_rfl) (by simp) ?_
    refine readyR rfl rfl (fun K hK => ?_) (readyR rfl rfl (fun K hK => ?_) AllReadyIn.nil)
    · go_simp
      refine hK _ _ ?_
      clear hK K
      refine wpAnyIn_ready (rs := [1]) (by kernel_rfl) (by simp) ?_
      refine readyR rfl rfl (fun K hK => ?_) AllReadyIn.nil
      go_simp
      refine hK _ _ ?_
      clear hK K
      refine anyR_take (i := 4) (v := ?_) (by rfl) rfl (by kernel_rfl) (by kernel_rfl) (by kernel_rfl) (fun _ _ _ h => h) ⟨Or.inl ⟨by rfl, fun w => ?_⟩, fun _ => rfl⟩ ?_
      rotate_left
      · go_simp
        try rfl
      refine wpAnyIn_ready (rs := [5]) (by kernel_rfl) (by simp) ?_
      refine readyR rfl rfl (fun K hK => ?_) AllReadyIn.nil
      go_simp
      refine hK _ _ ?_
      clear hK K
      refine wpAnyIn_ready (rs := [6]) (by kernel_rfl) (by simp) ?_
      refine readyR rfl rfl (fun K hK => ?_) AllReadyIn.nil
      refine wpIn_append_all _ _ 26 9 rfl (by kernel_rfl) HI rfl (by decide) (w.heap.size + 1 + 1 + 1) _ _ _ HM2 _ _ _ HX H1 rfl rfl (by omega) (by decide) hbz2 ?_
      intro v' w' hA
      have h1' := hA.out.keeps.holds (g := w.heap.size + 1) (fun e => by have := h3.out _ e; omega) (Holds.drew (h1.alloc _))
      have d1 := h1'.c0; have g1 := h1'.frozen 0
      have hfin := HFin.out v' w' hA.out
      obtain ⟨A', c', rfl⟩ := hA.out.mine.value
      have HFin2 := hidden (hfin A' c' rfl)
      refine hK _ _ ?_
      clear hK K hfin
      refine wpAnyIn_ready (rs := [7]) (by kernel_rfl) (by simp) ?_
      refine readyR rfl rfl (fun K hK => ?_) AllReadyIn.nil
      go_simp
      refine hK _ _ ?_
      clear hK K
      refine wpAnyIn_done (by kernel_rfl) ?_ _
      exact HFin2.out
    · go_simp
      refine hK _ _ ?_
      clear hK K
      refine anyR_take (i := 4) (v := ?_) (by rfl) rfl (by kernel_rfl) (by kernel_rfl) (by kernel_rfl) (fun _ _ _ h => h) ⟨Or.inl ⟨by rfl, fun w => ?_⟩, fun _ => rfl⟩ ?_
      rotate_left
      · go_simp
        try rfl
      refine wpAnyIn_ready (rs := [0, 5]) (by kernel_rfl) (by simp) ?_
      refine readyR rfl rfl (fun K hK => ?_) (readyR rfl rfl (fun K hK => ?_) AllReadyIn.nil)
      · go_simp
        refine hK _ _ ?_
        clear hK K
        refine wpAnyIn_ready (rs := [5]) (by kernel_rfl) (by simp) ?_
        refine readyR rfl rfl (fun K hK => ?_) AllReadyIn.nil
        go_simp
        refine hK _ _ ?_
        clear hK K
        refine wpAnyIn_ready (rs := [6]) (by kernel_rfl) (by simp) ?_
        refine readyR rfl rfl (fun K hK => ?_) AllReadyIn.nil
        refine wpIn_append_all _ _ 26 9 rfl (by kernel_rfl) HI rfl (by decide) (w.heap.size + 1 + 1 + 1) _ _ _ HM2 _ _ _ HX H1 rfl rfl (by omega) (by decide) hbz2 ?_
        intro v' w' hA
        have h1' := hA.out.keeps.holds (g := w.heap.size + 1) (fun e => by have := h3.out _ e; omega) (Holds.drew (h1.alloc _))
        have d1 := h1'.c0; have g1 := h1'.frozen 0
        have hfin := HFin.out v' w' hA.out
        obtain ⟨A', c', rfl⟩ := hA.out.mine.value
        have HFin2 := hidden (hfin A' c' rfl)
        refine hK _ _ ?_
        clear hK K hfin
        refine wpAnyIn_ready (rs := [7]) (by kernel_rfl) (by simp) ?_
        refine readyR rfl rfl (fun K hK => ?_) AllReadyIn.nil
        go_simp
        refine hK _ _ ?_
        clear hK K
        refine wpAnyIn_done (by kernel_rfl) ?_ _
        exact HFin2.out
      · go_simp
        refine hK _ _ ?_
        clear hK K
        refine wpAnyIn_ready (rs := [0]) (by kernel_rfl) (by simp) ?_
        refine readyR rfl rfl (fun K hK => ?_) AllReadyIn.nil
        go_simp
        refine hK _ _ ?_
        clear hK K
        refine wpAnyIn_ready (rs := [6]) (by kernel_rfl) (by simp) ?_
        refine readyR rfl rfl (fun K hK => ?_) AllReadyIn.nil
        refine wpIn_append_all _ _ 26 9 rfl (by kernel_rfl) HI rfl (by decide) (w.heap.size + 1 + 1 + 1) _ _ _ HM2 _ _ _ HX H1 rfl rfl (by omega) (by decide) hbz2 ?_
        intro v' w' hA
        have h1' := hA.out.keeps.holds (g := w.heap.size + 1) (fun e => by have := h3.out _ e; omega) (Holds.drew (h1.alloc _))
        have d1 := h1'.c0; have g1 := h1'.frozen 0
        have hfin := HFin.out v' w' hA.out
        obtain ⟨A', c', rfl⟩ := hA.out.mine.value
        have HFin2 := hidden (hfin A' c' rfl)
        refine hK _ _ ?_
        clear hK K hfin
        refine wpAnyIn_ready (rs := [7]) (by kernel_rfl) (by simp) ?_
        refine readyR rfl rfl (fun K hK => ?_) AllReadyIn.nil
        go_simp
        refine hK _ _ ?_
        clear hK K
        refine wpAnyIn_done (by kernel_rfl) ?_ _
        exact HFin2.out
  case done =>
    rintro D xs W hD hS ⟨u, h0, h1, HM, h3, h4, hb, hz⟩ hK
    have c1 := h1.c0
    obtain ⟨A, c, rfl⟩ := h4
    have HR : Hid ((xs.map fun p => cutTo s p.1) = wordsOf s ∧ xs.length = (wordsOf s).length) := hidden (by
      have e : (xs.map fun p => cutTo s p.1) = wordsOf s := by
        unfold wordsOf
        rw [← hS, List.map_map]
        rfl
      exact ⟨e, by rw [← e]; simp⟩)
    gi_wp2
    refine leaves_marks (B := w.heap.size) [D] _ ⟨by simp, ?_⟩ ?_
    · intro D' hD'
      simp at hD'
      subst hD'
      exact ⟨by simp at hD; omega, hK⟩
    · intro W' hc
      refine ⟨.slice A xs.length c, ?_, ⟨_, rfl, ?_⟩, hb.trans (hc.below (Nat.le_refl _) hb.size)⟩
      · simp [results, Try.f21, go_sem]
      · have := (HM.out.calm hc).base (b' := w.heap.size) (by omega)
        rw [HR.out.1, HR.out.2] at this
        rw [HR.out.2]
        exact hidden this
  case stop => exact fun D c pre W hD hS hX hK => hX.elim
end Go.Proofs.Ytaagkbgbghleiaa
