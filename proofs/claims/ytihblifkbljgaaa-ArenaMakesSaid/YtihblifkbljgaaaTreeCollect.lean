/-
  slices.Collect over the kids, and arena.Kids.
-/
import Derived.Test.YtihblifkbljgaaaTreeKidsRef
namespace Go.Proofs.Ytihblifkbljgaaa
open Go.RowKit Go.Shelf
attribute [local go_sem] Oper.semAt_some

theorem Mine.base {w : World} {b b' : Nat} {e : TypeId} {size n : Nat} {v : Value} {xs : List Value} (h : Mine w b e size v n xs) (hb : b' ≤ b) : Mine w b' e size v n xs := by
  rcases h with ⟨h1, h2⟩ | h
  · refine .inl ⟨h1, ?_⟩
    rcases h2 with h2 | ⟨g, cap, cur, hv, hg, r⟩
    · exact .inl h2
    · exact .inr ⟨g, cap, cur, hv, Nat.le_trans hb hg, r⟩
  · exact .inr h
theorem Mine.own_ge {w : World} {b : Nat} {e : TypeId} {size n : Nat} {v : Value} {xs : List Value} (h : Mine w b e size v n xs) (hn : 0 < n) : ∀ g, v.ownBlock = some g → b ≤ g := by
  intro g hg
  rcases (h.own hn).2 with ⟨rfl, _⟩ | ⟨g', cap, cur, rfl, hb, _⟩
  · cases hg
  · cases hg; exact hb
theorem Keeps.mono {T T' : Nat → Prop} {W W' : World} (h : Keeps T W W') (hT : ∀ k, T' k → T k) : Keeps T' W W' := ⟨h.size, fun k hk => h.block k (hT k hk)⟩

def ColI (w : World) (t : List Node) (i : Nat) (pre : List (Kid t i)) (W : World) : Prop :=
  ∃ l, Holds W w.heap.size 30 #[l] ∧ Hid (Mine W (w.heap.size + 1) 3 1 l pre.length (ints (pre.map (·.1)))) ∧ Hid (∀ g, l.ownBlock = some g → w.heap.size + 1 ≤ g) ∧ (∃ A c, l = .slice A pre.length c) ∧ Below w.heap.size w W
def ColX (t : List Node) (i : Nat) (_ : Code) (_ : List (Kid t i)) (_ : World) : Prop := False

/-- APPEND, inside a fence: one number, behind the call's own. -/
theorem wpListIn_append_int {F : Fence} {q : Nat} {P : Program} {w W0 : World} {ops : Array Oper} {rest : List Oper} {o : Oper} {a : Act} {Q : Exit → Act → World → Prop} (hgd : o.guard = none) (s x : Operand) (t e : TypeId) (e' : TypeId)
    (ho : o.op = .call { callee := .builtin .append, args := #[s, x], argTypes := #[t, t] }) (ht : P.underlying t = some (.slice e)) (HI : Hid (IntInfo P e)) (base : Nat) (v : Value) (n : Nat) (xs : List Value) (HM : Hid (Mine W0 base e 1 v n xs))
    (u : Int) (hw : w = W0.alloc (.cells #[.int .i64 u] e')) (hs : a.eval s = v) {g : Nat} (hx : a.eval x = .slice (some ⟨g, 0, none⟩) 1 1) (hg : g = W0.heap.size) (hn : n ≤ 1000000000000) (hb : base ≤ W0.heap.size)
    (h : ∀ v' w', Hid (Appended w base e 1 v (n + 1) (xs ++ [.int .i64 u]) v' w') → wpListIn F q P ops Q rest (a.put o.dst v') w') : wpListIn F q P ops Q (o :: rest) a w := by
  obtain ⟨i, hi, hz, hsz, hby⟩ := HI.out
  subst hw hg
  refine wpListIn_append_rd hgd s x t ho base e i (.int .i64 0) 1 8 ht hi hz hsz hby rfl (by decide) v n xs hs (HM.out.alloc _) (T := fun _ => True) _ 1 [.int .i64 u] hx ?_ ?_ (by omega) (by decide) (Nat.le_trans hb (by simp)) (fun v' w' hA => h v' w' (hidden hA))
  · exact Rd.fresh (cs := [.int .i64 u]) (n := 1) (size := 1) rfl (Nat.le_refl _) (by decide) trivial rfl
  · intro u hu; simp at hu; subst hu; rfl

set_option maxRecDepth 20000 in
set_option maxHeartbeats 4000000 in
theorem append_seq_kids (t : List Node) (i : Nat) (hlen : (kidsL t i).length ≤ 140737488355) (Bi Bt : Nat) (w : World)
    (hseq : SeqStopsK Fence.wide 4 Try.prog 76 #[.pointer (some ⟨Bi, 0, none⟩), .pointer (some ⟨Bt, 0, none⟩)] encK (Keeps (fun k => k < w.heap.size)) (fun ys : List (Kid t i) => ys.map (·.1) = kidsL t i) (fun pre => pre.map (·.1) <+: kidsL t i) (kidsL t i).length w) :
    Calls Try.prog 75 #[.slice none 0 0, .func (.func 76) #[] #[.pointer (some ⟨Bi, 0, none⟩), .pointer (some ⟨Bt, 0, none⟩)]] w
      fun r w' => (∃ u, r = .returned u ∧ Hid (Mine w' w.heap.size 3 1 u (kidsL t i).length (ints (kidsL t i)))) ∧ Below w.heap.size w w' := by
  have HI := int_info
  (refine (callsIn_wide (n := 5)).1 ?_; refine callsIn_of_wp_marks Try.func75 rfl trivial ?_ rfl; simp only [Try.ntmps75, List.size_toArray, List.length_cons, List.length_nil, Nat.reduceAdd, Nat.reduceSub, Array.replicate_succ, Array.replicate_zero, List.push_toArray, List.append_toArray, List.nil_append, List.cons_append])
  gi_wp2
  refine range_law (by omega) rfl (enters_of Try.func76 (by kernel_rfl) rfl) hseq ((Below.refl _ w).alloc (Nat.le_refl _) _) (by intro k hk; simp; omega) (fun _ => rfl)
    (ColI w t i) (ColX t i) ?i0 ?ix ?start ?round ?done ?stop
  case i0 =>
    rintro pre W W' ⟨l, h0, h1, h2, h3, hb⟩ hc
    exact ⟨l, hc.holds h0, hidden (h1.out.calm hc), h2, h3, hb.trans (hc.below (by simp) hb.size)⟩
  case ix => exact fun c s W W' h => h.elim
  case start => exact ⟨_, Holds.new w _ _, hidden (Mine.nil _ _ _ _), hidden (fun g hg => by cases hg), ⟨none, 0, rfl⟩, (by repeat (first | (with_reducible exact Below.refl _ _) | (with_reducible assumption) | (with_reducible refine Below.drew ?_) | ((with_reducible refine below_alloc ?_ ?_); (focus (first | omega | (simp; done) | (simp; omega)))) | ((with_reducible refine below_set ?_ ?_); (focus (first | omega | (simp; done) | (simp; omega))))))⟩
  case round =>
    rintro l pre x W ⟨u, h0, h1, h2, h3, hb⟩
    dsimp only [encK]
    gi_wp2
    refine ⟨KeepsOthers.refl _, Keeps.refl _ _, ⟨u, h0, h1, h2, h3, hb⟩, ?_⟩
    clear h0 h1 h2 h3 hb
    rintro W2 l2 pre2 hc2 ⟨u, h0, HM, h2, h3, hb⟩ hlen2 hl2 hr2
    obtain ⟨xk, hx1, hx2⟩ := x
    have hbz := hb.size
    have c0 := h0.c0; have f0 := h0.frozen 0; have l0 := h0.lt
    dsimp only at *
    obtain ⟨A, c, rfl⟩ := h3
    gi_wp2_with (gi_at_builtin; refine wpListIn_append_int rfl _ _ 30 3 3 rfl (by kernel_rfl) HI (w.heap.size + 1) _ _ _ HM _ rfl rfl rfl (by first | rfl | simp) (by omega) (by omega) ?_; intro v' w' hA; have h0' := hA.out.keeps.holds (g := w.heap.size) (fun e => by have := h2.out _ e; omega) (h0.alloc _); have c1 := h0'.c0; have f1 := h0'.frozen 0; obtain ⟨A', c', rfl⟩ := hA.out.mine.value)
    have hAm := hA.out
    have hT : ∀ k, k < w.heap.size → (Value.slice A pre2.length c).ownBlock ≠ some k := fun k hk e => by have := h2.out k e; omega
    have kk : KeepsOthers W2 w' := (KeepsOthers.alloc W2 _).trans hAm.others
    have hge := hAm.mine.own_ge (by omega)
    have hb1 : Below w.heap.size w w' := (hb.alloc hbz _).trans (hAm.below.mono (by omega))
    refine ⟨kk.trans (KeepsOthers.setCell _ _ _), ?_, ⟨_, h0'.set 0 _, hidden ?_, hidden hge, ⟨A', c', by simp⟩, hb1.setCell (p := ⟨_, _, none⟩) (Nat.le_refl _) _⟩⟩
    · refine Keeps.setCell (p := ⟨_, _, none⟩) ?_ (by dsimp only; omega) _
      exact ((Keeps.refl _ _).alloc _).trans (hAm.keeps.mono hT)
    · have := hAm.mine.set (p := ⟨w.heap.size, 0, none⟩) (fun e => by have := hge _ e; dsimp only at this; omega) (.slice A' (pre2.length + 1) c')
      simpa [ints] using this
  case done =>
    rintro D xs W hD hS ⟨u, h0, HM, h2, h3, hb⟩ hK
    have c0 := h0.c0
    obtain ⟨A, c, rfl⟩ := h3
    gi_wp2
    refine leaves_marks (B := w.heap.size) [D] _ ⟨by simp, ?_⟩ ?_
    · intro D' hD'
      simp at hD'
      subst hD'
      exact ⟨by simp at hD; omega, hK⟩
    · intro W' hc
      refine ⟨.slice A xs.length c, ?_, ⟨_, rfl, ?_⟩, hb.trans (hc.below (Nat.le_refl _) hb.size)⟩
      · simp [results, Try.f75, go_sem]
      · rw [← hS, List.length_map]
        exact hidden ((HM.out.calm hc).base (by omega))
  case stop => exact fun D c pre W hD hS hX hK => hX.elim

def SeqAt (t : List Node) (i Bi Bt : Nat) (w : World) : Prop :=
  SeqStopsK Fence.wide 4 Try.prog 76 #[.pointer (some ⟨Bi, 0, none⟩), .pointer (some ⟨Bt, 0, none⟩)] encK (Keeps (fun k => k < w.heap.size)) (fun ys : List (Kid t i) => ys.map (·.1) = kidsL t i) (fun pre => pre.map (·.1) <+: kidsL t i) (kidsL t i).length w

theorem collect_kids (t : List Node) (i : Nat) (hlen : (kidsL t i).length ≤ 140737488355) (Bi Bt : Nat) (w : World) (hseq : SeqAt t i Bi Bt w) :
    Calls Try.prog 58 #[.func (.func 76) #[] #[.pointer (some ⟨Bi, 0, none⟩), .pointer (some ⟨Bt, 0, none⟩)]] w
      fun r w' => (∃ u, r = .returned u ∧ Hid (Mine w' w.heap.size 3 1 u (kidsL t i).length (ints (kidsL t i)))) ∧ Below w.heap.size w w' := by
  have HA := hidden (append_seq_kids t i hlen Bi Bt w hseq)
  clear hseq
  go_enter Try.func58, Try.ntmps58
  go_wp2_with fail
  refine HA.out.mono ?_
  rintro r w2 ⟨⟨u, rfl, HM⟩, hb⟩
  go_wp2
  go_ret
  exact ⟨⟨_, rfl, HM⟩, hb⟩

theorem kidsL_len {t : List Node} (i : Nat) : (kidsL t i).length ≤ sz t i := by
  unfold kidsL
  have := kidsFrom_len t (i + sz t i) _ (i + 1) (Nat.le_refl _)
  omega

set_option maxRecDepth 20000 in
set_option maxHeartbeats 4000000 in
theorem arena_Kids (v : Value) (t : List Node) (i : Int) (w : World) (h4 : t.length ≤ 140737488355) (hN : Nds w (Old w) v t) :
    Calls Try.prog 17 #[v, .int .i64 i] w fun r w' => (∃ u, r = .returned u ∧ Hid (Mine w' w.heap.size 3 1 u (kidsOf t i).length (ints (kidsOf t i)))) ∧ Below w.heap.size w w' := by
  have HN := hidden hN
  have HR := hidden (arena_place v t i w h4 hN)
  unfold kidsOf
  obtain ⟨A, c, rfl, hc1, hc2⟩ := hN.value
  unfold maxLen at hc2
  cases hp : placeB t i with
  | false =>
    clear hN HN
    rw [hp] at HR
    clear hp
    go_enter Try.func17, Try.ntmps17
    go_wp2_with fail
    refine (HR.out).mono ?_
    rintro r2 w2 ⟨rfl, hb⟩
    go_wp2
    go_ret
    exact ⟨⟨_, rfl, hidden (Mine.nil _ _ _ _)⟩, hb⟩
  | true =>
    rw [hp] at HR
    obtain ⟨p1, p2, p3⟩ := placeB_iff.1 hp
    obtain ⟨I, rfl⟩ := Int.eq_ofNat_of_zero_le p1
    have HT := hidden p3
    have p2 : I < t.length := by omega
    simp only [Int.toNat_natCast, if_true]
    clear hN p3 hp p1
    go_enter Try.func17, Try.ntmps17
    go_wp2_with fail
    refine (HR.out).mono ?_
    rintro r2 w2 ⟨rfl, hb⟩
    have hbz := hb.size
    have HN2 := hidden (HN.out.old hb)
    have HQ := hidden (kids1_stops 4 (by omega) (w2.heap.size + 1) w2.heap.size (fun k => k < ((w2.alloc (.cells #[.slice A t.length c] 22)).alloc (.cells #[.int .i64 (I : Int)] 3)).heap.size) t I (.slice A t.length c) h4 HT.out p2
      ((w2.alloc (.cells #[.slice A t.length c] 22)).alloc (.cells #[.int .i64 (I : Int)] 3)) (fun k h => h) (by simp) (by simp; omega) (by go_simp) (by go_simp) (((HN2.out.alloc _).alloc _).mono (fun k hk => by have : k < w2.heap.size := hk; simp; omega)))
    have hlen : (kidsL t I).length ≤ 140737488355 := by have := kidsL_len (t := t) I; have := (tree_node HT.out p2).2.1; omega
    go_wp2_with (go_at_call 59; refine (arena_kids _ _ _ _ _ rfl _).mono ?_; rintro e w' ⟨rfl, rfl⟩)
    refine (collect_kids t I hlen _ _ _ HQ.out).mono ?_
    rintro r w3 ⟨⟨u, rfl, HM⟩, hb3⟩
    go_wp2
    go_ret
    refine ⟨⟨_, rfl, hidden (HM.out.base (by simp; omega))⟩, ?_⟩
    exact ((hb.alloc hbz _).alloc (by simp; omega) _).trans (hb3.mono (by simp; omega))
end Go.Proofs.Ytihblifkbljgaaa
