/-
  yield.Words.
-/
import Derived.Test.YtihblifkbljgaaaYieldRef2
import Derived.Test.YtihblifkbljgaaaTake
import Derived.Test.YtihblifkbljgaaaTreeOwn
namespace Go.Proofs.Ytihblifkbljgaaa
open Go.RowKit Go.Shelf
attribute [local go_sem] Oper.semAt_some
attribute [local simp] wide_round_fn

theorem wpListIn_append_all {F : Fence} {q : Nat} {P : Program} {w : World} {ops : Array Oper} {rest : List Oper} {o : Oper} {a : Act} {Q : Exit → Act → World → Prop} (hgd : o.guard = none) (s x : Operand) (t e : TypeId)
    (ho : o.op = .call { callee := .builtin .append, args := #[s, x], argTypes := #[t, t] }) (ht : P.underlying t = some (.slice e)) {z : Value} {size bytes : Nat} (HI : Hid (TyInfo P e z size bytes)) (hzs : z.cells.size = size) (hsz : 0 < size)
    (base : Nat) (v : Value) (n : Nat) (xs : List Value) (HM : Hid (Mine w base e size v n xs)) {T : Nat → Prop} (y : Value) (m : Nat) (news : List Value) (HX : Hid (Rd w T size y m news)) (H1 : Hid (∀ u ∈ news, u.oneCell' = true))
    (hs : a.eval s = v) (hx : a.eval x = y) (hbytes : (n + m) * bytes ≤ 140737488355328) (hb1 : 0 < bytes) (hb : base ≤ w.heap.size)
    (h : ∀ v' w', Hid (Appended w base e size v (n + m) (xs ++ news) v' w') → wpListIn F q P ops Q rest (a.put o.dst v') w') : wpListIn F q P ops Q (o :: rest) a w := by
  obtain ⟨i, hi, hz, hs', hby⟩ := HI.out
  exact wpListIn_append_rd hgd s x t ho base e i z size bytes ht hi hz hs' hby hzs hsz v n xs hs HM.out (T := T) y m news hx HX.out H1.out hbytes hb1 hb (fun v' w' hA => h v' w' (hidden hA))

/-- Words, and their leads, of the call's own, each apart from the row. -/
def WdOwn (w : World) (B : Nat) (v : Value) (ws : List Node) : Prop :=
  (∃ ls : List Value, ls.length = ws.length ∧ Mine w B 57 3 v ws.length (wordR.all ws ls) ∧ ∀ (i : Nat) (x : Node) (l : Value), ws[i]? = some x → ls[i]? = some l →
    Mine w B 59 2 l x.lead.length (x.lead.flatMap pcCells) ∧ ∀ g, l.ownBlock = some g → v.ownBlock ≠ some g ∧ B ≤ g ∧ g < w.heap.size) ∧
  ∀ g, v.ownBlock = some g → B ≤ g ∧ g < w.heap.size ∧ ∃ cs, w.heap[g]? = some (.cells cs 57 (0, 0))
theorem WdOwn.keep {w w' : World} {B : Nat} {v : Value} {ws : List Node} (h : WdOwn w B v ws) (hs : w.heap.size ≤ w'.heap.size) (hk : ∀ (k : Nat) (o : Obj), B ≤ k → w.heap[k]? = some o → o.isCells = true → w'.heap[k]? = some o) : WdOwn w' B v ws := by
  have keep : ∀ {e : TypeId} {size n : Nat} {v : Value} {xs : List Value}, Mine w B e size v n xs → Mine w' B e size v n xs := by
    intro e size n v xs h
    rcases h with ⟨h1, h2⟩ | h
    · refine .inl ⟨h1, ?_⟩
      rcases h2 with h2 | ⟨g, cap, cur, rfl, hb, hg, r⟩
      · exact .inl h2
      · exact .inr ⟨g, cap, cur, rfl, hb, hk g _ hb hg rfl, r⟩
    · exact .inr h
  obtain ⟨⟨ls, h1, h2, h3⟩, h4⟩ := h
  refine ⟨⟨ls, h1, keep h2, fun i x l a b => ⟨keep (h3 i x l a b).1, fun g hg => ?_⟩⟩, fun g hg => ?_⟩
  · obtain ⟨q1, q2, q3⟩ := (h3 i x l a b).2 g hg
    exact ⟨q1, q2, by omega⟩
  · obtain ⟨q1, q2, cs, q3⟩ := h4 g hg
    exact ⟨q1, by omega, cs, hk g _ q1 q3 rfl⟩
theorem WdOwn.below {w w' : World} {B : Nat} {v : Value} {ws : List Node} (h : WdOwn w B v ws) (hb : Below w.heap.size w w') : WdOwn w' B v ws :=
  h.keep hb.size fun k _ _ h1 _ => (hb.block k (Array.getElem?_eq_some_iff.1 h1).1).trans h1
theorem WdOwn.calm {w w' : World} {B C : Nat} {v : Value} {ws : List Node} (h : WdOwn w B v ws) (hc : Calm C w w') : WdOwn w' B v ws :=
  h.keep hc.size fun k o _ h1 h2 => hc.block k o h1 (.inr h2)
theorem WdOwn.nil (w : World) (B : Nat) : WdOwn w B (.slice none 0 0) [] := ⟨⟨[], rfl, Mine.nil _ _ _ _, fun i x l a _ => by simp at a⟩, fun g hg => by cases hg⟩
theorem WdOwn.recs {w : World} {B : Nat} {v : Value} {ws : List Node} (h : WdOwn w B v ws) : Recs wordR w (Old w) v ws := by
  obtain ⟨⟨ls, h1, h2, h3⟩, _⟩ := h
  exact ⟨ls, h1, h2.rd (fun g _ _ h => h), fun i x l a b => (h3 i x l a b).1.rd (fun g _ _ h => h)⟩
theorem WdOwn.base {w : World} {B B' : Nat} {v : Value} {ws : List Node} (h : WdOwn w B v ws) (hB : B' ≤ B) : WdOwn w B' v ws := by
  obtain ⟨⟨ls, h1, h2, h3⟩, h4⟩ := h
  exact ⟨⟨ls, h1, h2.base hB, fun i x l a b => ⟨(h3 i x l a b).1.base hB, fun g hg => by obtain ⟨q1, q2, q3⟩ := (h3 i x l a b).2 g hg; exact ⟨q1, by omega, q3⟩⟩⟩, fun g hg => by obtain ⟨q1, q2, q3⟩ := h4 g hg; exact ⟨by omega, q2, q3⟩⟩

theorem WdOwn.set {w : World} {B b i : Nat} {v : Value} {ws : List Node} (h : WdOwn w B v ws) (hb : b < B) (u : Value) : WdOwn (w.setCell ⟨b, i, none⟩ u) B v ws :=
  h.keep (by simp [World.setCell]) fun k _ hk h1 _ => (Below.heap_setCell w ⟨b, i, none⟩ u k (by dsimp only; omega)).trans h1
theorem Mine.typed_at {w : World} {B : Nat} {e : TypeId} {size n : Nat} {v : Value} {xs : List Value} (h : Mine w B e size v n xs) (hn : 0 < n) : ∀ g, v.ownBlock = some g → B ≤ g ∧ g < w.heap.size ∧ ∃ cs, w.heap[g]? = some (.cells cs e (0, 0)) := by
  intro g hg
  rcases (h.own hn).2 with ⟨rfl, _⟩ | ⟨g', cap, cur, rfl, hb, hgg, _⟩
  · cases hg
  · cases hg; exact ⟨hb, (Array.getElem?_eq_some_iff.1 hgg).1, _, hgg⟩
theorem WdOwn.append {w : World} {B : Nat} {v u : Value} {ws : List Node} {x : Node} (h : WdOwn w B v ws) (hu : Mine w B 59 2 u x.lead.length (x.lead.flatMap pcCells)) (hg : ∀ g, u.ownBlock = some g → v.ownBlock ≠ some g ∧ B ≤ g ∧ g < w.heap.size) :
    ∃ xs, Mine w B 57 3 v ws.length xs ∧ ∀ v' w', Appended w B 57 3 v (ws.length + 1) (xs ++ [u, .int .i64 x.n, .string x.text]) v' w' → WdOwn w' B v' (ws ++ [x]) := by
  obtain ⟨⟨ls, h1, h2, h3⟩, h4⟩ := h
  refine ⟨_, h2, fun v' w' hA => ⟨⟨ls ++ [u], by simp [h1], ?_, fun i y l a b => ?_⟩, hA.mine.typed_at (by omega)⟩⟩
  · rw [wordR_all_snoc _ _ _ _ h1, List.length_append]
    exact hA.mine
  · have hs := hA.keeps.size
    have go : ∀ {l : Value} {n : Nat} {cs : List Value}, Mine w B 59 2 l n cs → (∀ g, l.ownBlock = some g → v.ownBlock ≠ some g ∧ B ≤ g ∧ g < w.heap.size) → Mine w' B 59 2 l n cs ∧ ∀ g, l.ownBlock = some g → v'.ownBlock ≠ some g ∧ B ≤ g ∧ g < w'.heap.size := by
      intro l n cs hm hl
      refine ⟨hm.keep (fun g e _ hlt => hA.keeps.block g (hl g e).1 hlt), fun g e => ?_⟩
      obtain ⟨q1, q2, q3⟩ := hl g e
      refine ⟨fun e2 => ?_, q2, by omega⟩
      rcases hA.at_ with e3 | ⟨g', e3, q4, _⟩
      · rw [e3] at e2; exact q1 e2
      · rw [e3] at e2; cases e2; omega
    rcases Nat.lt_or_ge i ws.length with h | h
    · rw [List.getElem?_append_left h] at a
      rw [List.getElem?_append_left (by omega)] at b
      exact go (h3 i y l a b).1 (h3 i y l a b).2
    · rw [List.getElem?_append_right h] at a
      rw [List.getElem?_append_right (by omega), h1] at b
      obtain ⟨hi0, rfl⟩ : i - ws.length = 0 ∧ x = y := by
        have := (List.getElem?_eq_some_iff.1 a).1
        simp at this
        rw [this] at a
        simp at a
        exact ⟨this, a⟩
      rw [hi0] at b
      simp at b
      subst b
      exact go hu hg
theorem KeepsT.appended {w w' : World} {T : Nat → Prop} {e f : TypeId} {B size n : Nat} {v v' : Value} {xs : List Value} (hA : Appended w B e size v n xs v' w') (hT : ∀ k, T k → v.ownBlock ≠ some k) (hv : ∀ g, v.ownBlock = some g → ∃ cs, w.heap[g]? = some (.cells cs e (0, 0))) (hef : e ≠ f) : KeepsT T f w w' :=
  ⟨hA.keeps.mono hT, fun k cs hk => (hA.keeps.block k (fun h => by
    obtain ⟨cs', h2⟩ := hv k h
    rw [hk] at h2
    cases h2
    exact hef rfl) (Array.getElem?_eq_some_iff.1 hk).1).trans hk⟩

/-- The words of a row, by their numbers. -/
noncomputable def wordsL (t : List Node) (ks : List Nat) : List Node := ks.map fun k => leafAt t (nodeY t k)
theorem wordsL_all (t : List Node) : wordsL t (List.range (leavesOf t).length) = wordsOf t := by
  apply List.ext_getElem?
  intro k
  unfold wordsL wordsOf
  rw [List.getElem?_map, List.getElem?_map]
  by_cases hk : k < (leavesOf t).length
  · rw [List.getElem?_range hk, (nodeY_at hk).2.2.2.2]; rfl
  · rw [List.getElem?_eq_none (by simp; omega), List.getElem?_eq_none (by omega)]; rfl

def WsI (w : World) (v : Value) {w1 : World} {T : Nat → Prop} {t : List Node} (pre : List (Wd w1 T t)) (W : World) : Prop :=
  ∃ l, Holds W w.heap.size 52 #[l] ∧ Holds W (w.heap.size + 1) 22 #[v] ∧ Hid (WdOwn W (w.heap.size + 1 + 1) l (wordsL t (pre.map (·.1.1)))) ∧ (∃ A c, l = .slice A pre.length c) ∧ Keeps T w1 W ∧ Below w.heap.size w W
def WsX {w1 : World} {T : Nat → Prop} {t : List Node} (_ : Code) (_ : List (Wd w1 T t)) (_ : World) : Prop := False

set_option maxRecDepth 100000 in
set_option maxHeartbeats 8000000 in
theorem yield_Words (v : Value) (t : List Node) (w : World) (h4 : bulkT t ≤ 1048576) (hN : Nds w (Old w) v t) :
    Calls Try.prog 37 #[v] w fun r w' => (∃ u, r = .returned u ∧ Hid (WdOwn w' w.heap.size u (wordsOf t))) ∧ Below w.heap.size w w' := by
  have HN := hidden hN
  have h5 := bulk_len t
  have HWi := word_info
  obtain ⟨A, c, rfl, hc1, hc2⟩ := hN.value
  unfold maxLen at hc2
  clear hN
  (refine (callsIn_wide (n := 5)).1 ?_; refine callsIn_of_wp_marks Try.func37 rfl trivial ?_ rfl; simp only [Try.ntmps37, List.size_toArray, List.length_cons, List.length_nil, Nat.reduceAdd, Nat.reduceSub, Array.replicate_succ, Array.replicate_zero, List.push_toArray, List.append_toArray, List.nil_append, List.cons_append])
  gi_wp2_with (refine ⟨trivial, ?_⟩; gi_at_call 62; refine (callsIn_wide.2 (yield_words _ _ _ _ rfl _)).mono ?_; rintro e w' ⟨rfl, rfl⟩)
  refine range_lawK (by omega) rfl (enters_of Try.func77 (by kernel_rfl) rfl)
    (ywords1_stops 4 (by omega) (w.heap.size + 1) _ (TxT w) (by intro k hk; unfold TxT at hk; simp; omega) t (.slice A t.length c) (by omega) ((HN.out.alloc _).alloc _ |>.mono (fun k hk => .inl hk)) (.inr rfl) (by go_simp))
    KeepsT.trans (fun W l o o' hl ho hc _ => KeepsT.loop (by intro k hk; unfold TxT at hk; simp at hl; omega) ho hc) (Below.refl _ _) (fun _ => rfl)
    (WsI w (.slice A t.length c)) WsX ?i0 ?ix ?start ?round ?done ?stop
  case i0 =>
    rintro pre W W' ⟨l, h0, h1, h2, h3, h4, hb⟩ hc
    exact ⟨l, hc.holds h0, hc.holds h1, hidden (h2.out.calm hc), h3, h4.trans ⟨hc.size, fun k hk hl => by
      have hb1 := hc.below (B' := w.heap.size + 1 + 1) (by simp) (by have := h1.lt; omega)
      exact hb1.block k (by unfold TxT at hk; omega)⟩, hb.trans (hc.below (by simp; omega) hb.size)⟩
  case ix => exact fun c pre W W' h => h.elim
  case start => exact ⟨_, (by repeat (first | (with_reducible assumption) | ((with_reducible refine holds_new ?_); (focus (first | rfl | (simp; done)))) | (with_reducible refine Holds.alloc ?_ _) | (with_reducible refine Holds.drew ?_))), (by repeat (first | (with_reducible assumption) | ((with_reducible refine holds_new ?_); (focus (first | rfl | (simp; done)))) | (with_reducible refine Holds.alloc ?_ _) | (with_reducible refine Holds.drew ?_))), hidden (WdOwn.nil _ _), ⟨none, 0, rfl⟩, Keeps.refl _ _, (by repeat (first | (with_reducible exact Below.refl _ _) | (with_reducible assumption) | (with_reducible refine Below.drew ?_) | ((with_reducible refine below_alloc ?_ ?_); (focus (first | omega | (simp; done) | (simp; omega)))) | ((with_reducible refine below_set ?_ ?_); (focus (first | omega | (simp; done) | (simp; omega))))))⟩
  case round =>
    rintro l pre x W ⟨u, h0, h1, h2, h3, hk0, hb⟩
    obtain ⟨f1, f2, f3, f4, f5⟩ := wd_facts x
    have hz := h1.lt
    dsimp only [encY, valY]
    gi_wp2
    refine ⟨KeepsOthers.alloc _ _, KeepsT.below (B := W.heap.size) (by intro k hk; unfold TxT at hk; omega) (Nat.le_refl _) (by repeat (first | (with_reducible exact Below.refl _ _) | (with_reducible assumption) | (with_reducible refine Below.drew ?_) | ((with_reducible refine below_alloc ?_ ?_); (focus (first | omega | (simp; done) | (simp; omega)))) | ((with_reducible refine below_set ?_ ?_); (focus (first | omega | (simp; done) | (simp; omega)))))), ⟨u, h0.alloc _, h1.alloc _, hidden (h2.out.below (by repeat (first | (with_reducible exact Below.refl _ _) | (with_reducible assumption) | (with_reducible refine Below.drew ?_) | ((with_reducible refine below_alloc ?_ ?_); (focus (first | omega | (simp; done) | (simp; omega)))) | ((with_reducible refine below_set ?_ ?_); (focus (first | omega | (simp; done) | (simp; omega))))))), h3, hk0.alloc _, (by repeat (first | (with_reducible exact Below.refl _ _) | (with_reducible assumption) | (with_reducible refine Below.drew ?_) | ((with_reducible refine below_alloc ?_ ?_); (focus (first | omega | (simp; done) | (simp; omega)))) | ((with_reducible refine below_set ?_ ?_); (focus (first | omega | (simp; done) | (simp; omega))))))⟩, ?_⟩
    clear h0 h1 h2 h3 hb u hk0
    rintro W2 l2 pre2 hc2 ⟨u, m0, m1, m2, ⟨A2, c2, rfl⟩, mk, mb⟩ hlen2 hl2 hr2
    have m5 := hc2.holds (Holds.new W _ _)
    have hzB := hc2.size
    simp at hzB
    have hll : (leavesOf t).length ≤ t.length := leavesTo_len t t.length
    have HPc := hidden ((wd_lead x).keeps mk)
    have hnl := bulk_at (List.getElem?_eq_getElem f2)
    have hnw := wordLen_bulk t[nodeY t x.1.1]
    rw [← leafAt_of (List.getElem?_eq_getElem f2)] at hnl hnw
    have HL : Hid (wordsL t ((pre2 ++ [x]).map (·.1.1)) = wordsL t (pre2.map (·.1.1)) ++ [leafAt t (nodeY t x.1.1)]) := hidden (by unfold wordsL; rw [List.map_append, List.map_append]; rfl)
    have hwl : (wordsL t (pre2.map (·.1.1))).length = pre2.length := by unfold wordsL; simp
    clear hc2 hl2 hr2
    have HFin : Hid (∀ w' A' c', KeepsOthers W2 w' → KeepsT (TxT w) 3 W2 w' → Holds w' w.heap.size 52 #[.slice A' (pre2.length + 1) c'] → Holds w' (w.heap.size + 1) 22 #[.slice A t.length c] → WdOwn w' (w.heap.size + 1 + 1) (.slice A' (pre2.length + 1) c') (wordsL t (pre2.map (·.1.1)) ++ [leafAt t (nodeY t x.1.1)]) → Below w.heap.size w w' →
        roundEndK (KeepsT (TxT w) 3) (WsI w (.slice A t.length c)) WsX (pre2 ++ [x]) W2 .normal { tmps := #[], defers := [] } w') := hidden (fun w' A' c' a1 a2 a3 a4 a5 a6 =>
      ⟨a1, a2, _, a3, a4, hidden (by rw [HL.out]; exact a5), ⟨A', c', by simp⟩, mk.trans a2.keeps, a6⟩)
    have HXI : Hid (∃ y, y = x) := hidden ⟨x, rfl⟩
    generalize leafAt t (nodeY t x.1.1) = nx at *
    generalize wordsL t (pre2.map (·.1.1)) = L0 at *
    generalize nodeY t x.1.1 = nd at *
    generalize fromY t (leavesOf t) x.1.1 = f0 at *
    generalize ownY t x.1.1 = ow at *
    generalize x.1.2.1 = xA at *
    generalize x.1.2.2 = xc at *
    have HCl := hidden (fun (w' : World) (h : Below W2.heap.size W2 w') => clone_pieces (.slice xA nx.lead.length xc) nx.lead.length (nx.lead.flatMap pcCells) (TxT w) w' (HPc.out.keeps (Keeps.of_below h)) (pc_oneCell _) (by omega))
    have y0 : ∀ w', Below W2.heap.size W2 w' → w'.cell? ⟨w.heap.size, 0, none⟩ = some (.slice A2 pre2.length c2) := fun w' h => (h.cell (p := ⟨w.heap.size, 0, none⟩) m0.lt).trans (m0.cell 0)
    have y1 : ∀ w', Below W2.heap.size W2 w' → w'.cell? ⟨W.heap.size, 3, none⟩ = some (.slice xA nx.lead.length xc) := fun w' h => (h.cell (p := ⟨W.heap.size, 3, none⟩) m5.lt).trans (m5.cell 3)
    have y2 : ∀ w', Below W2.heap.size W2 w' → w'.cell? ⟨W.heap.size, 4, none⟩ = some (.int .i64 nx.n) := fun w' h => (h.cell (p := ⟨W.heap.size, 4, none⟩) m5.lt).trans (m5.cell 4)
    have y3 : ∀ w', Below W2.heap.size W2 w' → w'.cell? ⟨W.heap.size, 5, none⟩ = some (.string nx.text) := fun w' h => (h.cell (p := ⟨W.heap.size, 5, none⟩) m5.lt).trans (m5.cell 5)
    gi_wp2
    refine wpIn_region_take (fun w' => Below W2.heap.size W2 w') 10 (by kernel_rfl) ?_
    have hCd : Below W2.heap.size W2 W2.drew := (Below.refl _ _).drew
    refine take_read (i := 0) (v := ?_) (by kernel_rfl) (by rfl) rfl (by rfl) (by kernel_rfl) (by kernel_rfl) (fun _ _ _ h => h) hCd ⟨Or.inl ⟨by rfl, fun w hw => ?_⟩, fun _ => rfl⟩ ?_
    rotate_left
    · have q := y0 w hw
      go_simp
      try rfl
    refine take_read (i := 1) (v := ?_) (by kernel_rfl) (by rfl) rfl (by rfl) (by kernel_rfl) (by kernel_rfl) (fun _ _ _ h => h) hCd ⟨Or.inl ⟨by rfl, fun w hw => ?_⟩, fun _ => rfl⟩ ?_
    rotate_left
    · clear hw
      go_simp
      try rfl
    refine take_read (i := 2) (v := ?_) (by kernel_rfl) (by rfl) rfl (by rfl) (by kernel_rfl) (by kernel_rfl) (fun _ _ _ h => h) hCd ⟨Or.inl ⟨by rfl, fun w hw => ?_⟩, fun _ => rfl⟩ ?_
    rotate_left
    · have q := y1 w hw
      go_simp
      try rfl
    refine take_read (i := 4) (v := ?_) (by kernel_rfl) (by rfl) rfl (by rfl) (by kernel_rfl) (by kernel_rfl) (fun _ _ _ h => h) hCd ⟨Or.inl ⟨by rfl, fun w hw => ?_⟩, fun _ => rfl⟩ ?_
    rotate_left
    · clear hw
      go_simp
      try rfl
    refine take_read (i := 5) (v := ?_) (by kernel_rfl) (by rfl) rfl (by rfl) (by kernel_rfl) (by kernel_rfl) (fun _ _ _ h => h) hCd ⟨Or.inl ⟨by rfl, fun w hw => ?_⟩, fun _ => rfl⟩ ?_
    rotate_left
    · have q := y2 w hw
      go_simp
      try rfl
    refine take_read (i := 6) (v := ?_) (by kernel_rfl) (by rfl) rfl (by rfl) (by kernel_rfl) (by kernel_rfl) (fun _ _ _ h => h) hCd ⟨Or.inl ⟨by rfl, fun w hw => ?_⟩, fun _ => rfl⟩ ?_
    rotate_left
    · clear hw
      go_simp
      try rfl
    refine take_read (i := 7) (v := ?_) (by kernel_rfl) (by rfl) rfl (by rfl) (by kernel_rfl) (by kernel_rfl) (fun _ _ _ h => h) hCd ⟨Or.inl ⟨by rfl, fun w hw => ?_⟩, fun _ => rfl⟩ ?_
    rotate_left
    · have q := y3 w hw
      go_simp
      try rfl
    clear y0 y1 y2 y3
    refine take_only (i := 3) (by kernel_rfl) rfl rfl (by rfl) (fun K hK => ?_)
    go_simp
    refine CallsIn.mono (F := Fence.wide.inRound l2) (callsIn_wide.2 (HCl.out _ hCd)) ?_
    rintro e w4 ⟨⟨uu, rfl, HU, HG⟩, hb4⟩
    have hC4 : Below W2.heap.size W2 w4 := hCd.trans hb4
    obtain ⟨A4, c4, rfl⟩ := HU.out.value
    refine hK _ _ hC4 ?_
    clear hK K HCl hb4
    refine take_only (i := 8) (by kernel_rfl) rfl rfl (by rfl) (fun K hK => ?_)
    go_simp
    refine hK _ _ hC4 ?_
    clear hK K
    refine take_only (i := 9) (by kernel_rfl) rfl rfl (by rfl) (fun K hK => ?_)
    go_simp
    have hC5 : Below W2.heap.size W2 (w4.alloc (.cells #[.slice A4 nx.lead.length c4, .int .i64 nx.n, .string nx.text] 57)) := hC4.alloc hC4.size _
    refine hK _ _ hC5 ?_
    clear hK K
    refine take_tail (by kernel_rfl) (by kernel_rfl) ?_
    simp only [List.drop_succ_cons, List.drop_zero]
    have hW5 := m2.out.below hC5
    have hs4 := hC4.size
    have hmu : Mine (w4.alloc (.cells #[.slice A4 nx.lead.length c4, .int .i64 nx.n, .string nx.text] 57)) (w.heap.size + 1 + 1) 59 2 (.slice A4 nx.lead.length c4) nx.lead.length (nx.lead.flatMap pcCells) := (HU.out.base (b' := w.heap.size + 1 + 1) (by have := m1.lt; show _ ≤ W2.heap.size; omega)).alloc _
    obtain ⟨xs, hM, hnext⟩ := hW5.append hmu (fun g e => by
      obtain ⟨q1, q2⟩ := HG.out g e
      have q1 : W2.heap.size ≤ g := q1
      refine ⟨fun e2 => ?_, by have := m1.lt; omega, by simp; omega⟩
      have := (m2.out.2 g e2).2.1
      omega)
    have HM := hidden hM; have HNx := hidden hnext; have HW5 := hidden hW5; have HC5 := hidden hC5
    rw [hwl] at HM HNx
    have HX : Hid (Rd (w4.alloc (.cells #[.slice A4 nx.lead.length c4, .int .i64 nx.n, .string nx.text] 57)) (fun _ => True) 3 (.slice (some ⟨w4.heap.size, 0, none⟩) 1 1) 1 [.slice A4 nx.lead.length c4, .int .i64 nx.n, .string nx.text]) :=
      hidden (Rd.fresh (cs := [.slice A4 nx.lead.length c4, .int .i64 nx.n, .string nx.text]) (n := 1) (size := 3) rfl (Nat.le_refl _) (by decide) trivial rfl)
    have H1 : Hid (∀ u ∈ [Value.slice A4 nx.lead.length c4, .int .i64 nx.n, .string nx.text], u.oneCell' = true) := hidden (wordR.one nx _ rfl)
    have h9 : (pre2.length + 1) * 48 ≤ 140737488355328 := by omega
    have h10 : w.heap.size + 1 + 1 ≤ (w4.alloc (.cells #[.slice A4 nx.lead.length c4, .int .i64 nx.n, .string nx.text] 57)).heap.size := by have := m1.lt; simp; omega
    have M0 := hidden (m0.below hC5 m0.lt); have M1 := hidden (m1.below hC5 m1.lt); have MB := hidden (mb.trans (hC5.mono mb.size))
    have hlt := m1.lt
    have HT2 : Hid (∀ k, TxT w k → k < W2.heap.size) := hidden (fun k hk => by unfold TxT at hk; omega)
    have HN0 : Hid (∀ k, k < w.heap.size + 1 + 1 → (Value.slice A2 pre2.length c2).ownBlock ≠ some k) := hidden (fun k hk e => by have := (hW5.2 k e).1; omega)
    clear hM hnext hW5 hC5 hC4 m0 m1 m2 mb hmu m5
    refine wpListIn_append_all rfl _ _ 52 57 rfl (by kernel_rfl) HWi rfl (by decide) (w.heap.size + 1 + 1) _ _ _ HM _ _ _ HX H1 rfl rfl h9 (by decide) h10 ?_
    intro v' w6 hA
    have hWd := hidden (HNx.out v' w6 hA.out)
    have n0 := hA.out.keeps.holds (g := w.heap.size) (HN0.out _ (by omega)) M0.out
    have n1 := hA.out.keeps.holds (g := w.heap.size + 1) (HN0.out _ (by omega)) M1.out
    have hKo := hidden ((KeepsOthers.of_below HC5.out).trans hA.out.others)
    have hKt : Hid (KeepsT (TxT w) 3 W2 w6) := hidden ((KeepsT.below HT2.out (Nat.le_refl _) HC5.out).trans (KeepsT.appended hA.out (fun k hk => HN0.out k (by unfold TxT at hk; omega)) (fun g e => (HW5.out.2 g e).2.2) (by decide)))
    have hBw := hidden (MB.out.trans (hA.out.below.mono (by omega)))
    obtain ⟨A6, c6, rfl⟩ := hA.out.mine.value
    have d0 := n0.c0; have fz := n0.frozen 0; have ln := n0.lt
    clear hA HM HNx HX H1 M0 M1 MB HC5 HW5 HN0
    gi_wp2
    refine HFin.out _ A6 c6 (hKo.out.trans (KeepsOthers.setCell _ _ _)) (hKt.out.setCell (by unfold TxT; omega) n0 (by decide)) (n0.set 0 _) (n1.far (p := ⟨w.heap.size, 0, none⟩) (by dsimp only; omega) _) (hWd.out.set (by omega) _) (hBw.out.setCell (p := ⟨w.heap.size, 0, none⟩) (Nat.le_refl _) _)
  case done =>
    rintro D xs W hD hS ⟨u, h0, h1, h2, ⟨A6, c6, rfl⟩, hk, hb⟩ hK
    rw [hS, wordsL_all] at h2
    have d0 := h0.c0
    have HWd := hidden (h2.out.base (B' := w.heap.size) (by omega))
    clear h2
    gi_wp2
    refine leaves_marks (B := w.heap.size) [D] _ ⟨by simp, ?_⟩ ?_
    · intro D' hD'
      simp at hD'
      subst hD'
      simp at hD
      exact ⟨by omega, hK⟩
    · intro W' hc
      refine ⟨.slice A6 xs.length c6, ?_, ⟨_, rfl, hidden (HWd.out.calm hc)⟩, hb.trans (hc.below (Nat.le_refl _) hb.size)⟩
      simp [results, Try.f37, go_sem]
  case stop => exact fun D c pre W hD hS hX hK => hX.elim
end Go.Proofs.Ytihblifkbljgaaa
