/-
  yield.Pieces.
-/
import Derived.Test.YtihblifkbljgaaaYieldWords
namespace Go.Proofs.Ytihblifkbljgaaa
open Go.RowKit Go.Shelf
attribute [local go_sem] Oper.semAt_some
attribute [local simp] wide_round_fn

/-- A word's pieces. -/
def wordPcs (x : Node) : List Piece := x.lead ++ if x.n = -2 then [] else [⟨x.n, x.text⟩]
noncomputable def piecesL (t : List Node) (ks : List Nat) : List Piece := ks.flatMap fun k => wordPcs (leafAt t (nodeY t k))
noncomputable def piecesOf (t : List Node) : List Piece := (wordsOf t).flatMap wordPcs
theorem piecesL_all (t : List Node) : piecesL t (List.range (leavesOf t).length) = piecesOf t := by
  unfold piecesOf piecesL
  rw [← wordsL_all]
  unfold wordsL
  rw [List.flatMap_map]
theorem piecesL_snoc (t : List Node) (l : List Nat) (k : Nat) : piecesL t (l ++ [k]) = piecesL t l ++ wordPcs (leafAt t (nodeY t k)) := by unfold piecesL; rw [List.flatMap_append]; simp
theorem wordPcs_len (x : Node) : (wordPcs x).length ≤ bulkN x := by
  have := wordLen_bulk x
  unfold wordPcs
  rw [List.length_append]
  unfold bulkN wordLen at *
  have := leadSum_bulk x.lead
  split <;> simp <;> omega
theorem piecesL_len (t : List Node) (l : List Nat) (h : ∀ k ∈ l, nodeY t k < t.length) : (piecesL t l).length ≤ l.length * bulkT t := by
  unfold piecesL
  induction l with
  | nil => simp
  | cons k l ih =>
    rw [List.flatMap_cons, List.length_append, List.length_cons, Nat.add_mul]
    have h1 := ih (fun j hj => h j (by simp [hj]))
    have h2 := bulk_at (List.getElem?_eq_getElem (h k (by simp)))
    have h3 := wordPcs_len (t[nodeY t k]'(h k (by simp)))
    rw [leafAt_of (List.getElem?_eq_getElem (h k (by simp)))]
    omega
theorem pcCells_app (a b : List Piece) : (a ++ b).flatMap pcCells = a.flatMap pcCells ++ b.flatMap pcCells := List.flatMap_append ..
/-- Nothing is put behind a slice: all is as it was. -/
theorem wpListIn_append_none {F : Fence} {q : Nat} {P : Program} {w : World} {ops : Array Oper} {rest : List Oper} {o : Oper} {a : Act} {Q : Exit → Act → World → Prop} (hgd : o.guard = none) (s x : Operand) (t e : TypeId)
    (ho : o.op = .call { callee := .builtin .append, args := #[s, x], argTypes := #[t, t] }) (ht : P.underlying t = some (.slice e)) {z : Value} {size bytes : Nat} (HI : Hid (TyInfo P e z size bytes))
    (base : Nat) (v : Value) (n : Nat) (xs : List Value) (HM : Hid (Mine w base e size v n xs)) (A : Option Addr) (c : Nat)
    (hs : a.eval s = v) (hx : a.eval x = .slice A 0 c) (h : wpListIn F q P ops Q rest (a.put o.dst v) w) : wpListIn F q P ops Q (o :: rest) a w := by
  obtain ⟨i, hi, hz, hs', hby⟩ := HI.out
  have hrun : (Builtin.append_ #[t, t] o.type #[v, .slice A 0 c]).run P w = .ok v w := by
    have hf : ∀ A : Option Addr, (Builtin.firstCells i.size 0 (.slice A 0 c)).run P w = .ok #[] w := by
      intro A
      cases A with
      | none => simp [Builtin.firstCells]
      | some a => exact run_firstCells_some (P := P) w i.size 0 a 0 c [] (by simp) (by simp)
    rcases HM.out with h | ⟨rfl, rfl, S, rfl⟩
    · rcases h.2 with ⟨rfl, rfl⟩ | ⟨g, cap, cur, rfl, _, _, hnc, _⟩
      · simp [Builtin.append_, run_underlying ht, sizeOf, typeInfo, hi, Builtin.lenOf, hf]
      · simp [Builtin.append_, run_underlying ht, sizeOf, typeInfo, hi, Builtin.lenOf, hnc, hf, storeCells]
    · cases S with
      | none => simp [Builtin.append_, run_underlying ht, sizeOf, typeInfo, hi, Builtin.lenOf, hf]
      | some a => simp [Builtin.append_, run_underlying ht, sizeOf, typeInfo, hi, Builtin.lenOf, hf, storeCells]
  refine wpListIn_plain hgd fun K hK' => ?_
  unfold Oper.wpIn
  refine ⟨?_, ?_⟩
  · simp [Oper.about, ho, resolve, Target.leads, Sem.run_pure]
  · rw [Oper.semAt_plain F _ _ (by rw [ho]; intro c hc'; cases hc')]
    simp [execOp, ho, resolve, invoke, builtin, hs, hx, hrun, Result.andThen]
    exact hK' _ _ h

/-- The state of a round that puts pieces. -/
structure PcS (w : World) (v : Value) (l : Value) (L : List Piece) (Wi : World) : Prop where
  h0 : Holds Wi w.heap.size 27 #[l]
  h1 : Holds Wi (w.heap.size + 1) 22 #[v]
  hm : Mine Wi (w.heap.size + 1 + 1) 59 2 l L.length (L.flatMap pcCells)
  nil : L = [] → l = .slice none 0 0
  below : Below w.heap.size w Wi
section
variable {w W Wi Wa : World} {v l : Value} {L : List Piece}
theorem PcS.hg (h : PcS w v l L W) : ∀ g, l.ownBlock = some g → w.heap.size + 1 + 1 ≤ g ∧ g < W.heap.size ∧ ∃ cs, W.heap[g]? = some (.cells cs 59 (0, 0)) := by
  intro g e
  by_cases hz : L = []
  · rw [h.nil hz] at e; cases e
  · exact h.hm.typed_at (List.length_pos_iff.2 hz) g e
theorem PcS.calm {B : Nat} (h : PcS w v l L W) (hB : w.heap.size ≤ B) (hc : Calm B W Wi) : PcS w v l L Wi :=
  ⟨hc.holds h.h0, hc.holds h.h1, h.hm.calm hc, h.nil, h.below.trans (hc.below hB h.below.size)⟩
theorem PcS.later (h : PcS w v l L W) (hb : Below W.heap.size W Wi) : PcS w v l L Wi :=
  ⟨h.h0.below hb h.h0.lt, h.h1.below hb h.h1.lt, h.hm.below hb, h.nil, h.below.trans (hb.mono h.below.size)⟩
theorem PcS.not_own (h : PcS w v l L W) {k : Nat} (hk : k < w.heap.size + 1 + 1) : l.ownBlock ≠ some k := fun e => by have := (h.hg k e).1; omega
theorem PcS.same (h : PcS w v l L W) : PcS w v l L (W.setCell ⟨w.heap.size, 0, none⟩ l) ∧ KeepsOthers W (W.setCell ⟨w.heap.size, 0, none⟩ l) ∧ KeepsT (TxT w) 3 W (W.setCell ⟨w.heap.size, 0, none⟩ l) :=
  ⟨⟨h.h0.set 0 _, h.h1.far (p := ⟨w.heap.size, 0, none⟩) (by dsimp only; omega) _, h.hm.set (p := ⟨w.heap.size, 0, none⟩) (fun e => h.not_own (by dsimp only; omega) e) _, h.nil, h.below.setCell (p := ⟨w.heap.size, 0, none⟩) (Nat.le_refl _) _⟩,
    KeepsOthers.setCell _ _ _, (KeepsT.refl W).setCell (by unfold TxT; omega) h.h0 (by decide)⟩
/-- What an append, and the store of its result, leave. -/
theorem PcS.put (h : PcS w v l L W) {news : List Piece} {v' : Value} {w' : World} (hne : news ≠ []) (hA : Appended W (w.heap.size + 1 + 1) 59 2 l (L.length + news.length) (L.flatMap pcCells ++ news.flatMap pcCells) v' w') :
    PcS w v v' (L ++ news) (w'.setCell ⟨w.heap.size, 0, none⟩ v') ∧ KeepsOthers W (w'.setCell ⟨w.heap.size, 0, none⟩ v') ∧ KeepsT (TxT w) 3 W (w'.setCell ⟨w.heap.size, 0, none⟩ v') ∧
      (∀ (g : Nat) (ty : TypeId) (cs : Array Value), Holds W g ty cs → g ≠ w.heap.size → ty ≠ 59 → Holds (w'.setCell ⟨w.heap.size, 0, none⟩ v') g ty cs) ∧ Holds w' w.heap.size 27 #[l] ∧ (∀ (g : Nat) (ty : TypeId) (cs : Array Value), Holds W g ty cs → ty ≠ 59 → Holds w' g ty cs) := by
  have n0 := hA.keeps.holds (h.not_own (by omega)) h.h0
  have n1 := hA.keeps.holds (h.not_own (by omega)) h.h1
  have hm : Mine w' (w.heap.size + 1 + 1) 59 2 v' (L ++ news).length ((L ++ news).flatMap pcCells) := by
    rw [List.length_append, pcCells_app]; exact hA.mine
  have hz : 0 < (L ++ news).length := by rw [List.length_append]; have := List.length_pos_iff.2 hne; omega
  have hg := hm.typed_at hz
  refine ⟨⟨n0.set 0 _, n1.far (p := ⟨w.heap.size, 0, none⟩) (by dsimp only; omega) _, hm.set (p := ⟨w.heap.size, 0, none⟩) (fun e => by have := (hg _ e).1; dsimp only at this; omega) _, fun e => by rw [e] at hz; simp at hz, ?_⟩, ?_, ?_, ?_, n0, fun g ty cs hh hty => hA.keeps.holds (fun e => by
    obtain ⟨_, _, cs', hc⟩ := h.hg g e
    rw [hh] at hc
    cases hc
    exact hty rfl) hh⟩
  · exact (h.below.trans (hA.below.mono (by omega))).setCell (p := ⟨w.heap.size, 0, none⟩) (Nat.le_refl _) _
  · exact hA.others.trans (KeepsOthers.setCell _ _ _)
  · exact (KeepsT.appended hA (fun k hk => h.not_own (by unfold TxT at hk; omega)) (fun g e => (h.hg g e).2.2) (by decide)).setCell (by unfold TxT; omega) n0 (by decide)
  · intro g ty cs hh hgn hty
    refine (hA.keeps.holds (fun e => ?_) hh).far (p := ⟨w.heap.size, 0, none⟩) (by dsimp only; omega) _
    obtain ⟨_, _, cs', hc⟩ := h.hg g e
    rw [hh] at hc
    cases hc
    exact hty rfl
end

def PcI (w : World) (v : Value) {w1 : World} {T : Nat → Prop} {t : List Node} (pre : List (Wd w1 T t)) (W : World) : Prop :=
  ∃ A c, Hid (PcS w v (.slice A (piecesL t (pre.map (·.1.1))).length c) (piecesL t (pre.map (·.1.1))) W) ∧ Keeps T w1 W
def PcX {w1 : World} {T : Nat → Prop} {t : List Node} (_ : Code) (_ : List (Wd w1 T t)) (_ : World) : Prop := False

set_option maxRecDepth 100000 in
set_option maxHeartbeats 8000000 in
theorem yield_Pieces (v : Value) (t : List Node) (w : World) (h4 : bulkT t ≤ 1048576) (hN : Nds w (Old w) v t) :
    Calls Try.prog 40 #[v] w fun r w' => (∃ u, r = .returned u ∧ Hid (Mine w' w.heap.size 59 2 u (piecesOf t).length ((piecesOf t).flatMap pcCells))) ∧ Below w.heap.size w w' := by
  have HN := hidden hN
  have h5 := bulk_len t
  have HPi := piece_info
  obtain ⟨A, c, rfl, hc1, hc2⟩ := hN.value
  unfold maxLen at hc2
  clear hN
  (refine (callsIn_wide (n := 5)).1 ?_; refine callsIn_of_wp_marks Try.func40 rfl trivial ?_ rfl; simp only [Try.ntmps40, List.size_toArray, List.length_cons, List.length_nil, Nat.reduceAdd, Nat.reduceSub, Array.replicate_succ, Array.replicate_zero, List.push_toArray, List.append_toArray, List.nil_append, List.cons_append])
  gi_wp2_with (refine ⟨trivial, ?_⟩; gi_at_call 62; refine (callsIn_wide.2 (yield_words _ _ _ _ rfl _)).mono ?_; rintro e w' ⟨rfl, rfl⟩)
  refine range_lawK (by omega) rfl (enters_of Try.func77 (by kernel_rfl) rfl)
    (ywords1_stops 4 (by omega) (w.heap.size + 1) _ (TxT w) (by intro k hk; unfold TxT at hk; simp; omega) t (.slice A t.length c) (by omega) ((HN.out.alloc _).alloc _ |>.mono (fun k hk => .inl hk)) (.inr rfl) (by go_simp))
    KeepsT.trans (fun W l o o' hl ho hc _ => KeepsT.loop (by intro k hk; unfold TxT at hk; simp at hl; omega) ho hc) (Below.refl _ _) (fun _ => rfl)
    (PcI w (.slice A t.length c)) PcX ?i0 ?ix ?start ?round ?done ?stop
  case i0 =>
    rintro pre W W' ⟨A2, c2, h0, h4⟩ hc
    have h1 := h0.out.h1.lt
    exact ⟨A2, c2, hidden (h0.out.calm (by simp; omega) hc), h4.trans ⟨hc.size, fun k hk hl => by
      have hb1 := hc.below (B' := w.heap.size + 1 + 1) (by simp) (by omega)
      exact hb1.block k (by unfold TxT at hk; omega)⟩⟩
  case ix => exact fun c pre W W' h => h.elim
  case start => exact ⟨none, 0, hidden ⟨Holds.of_eq (cs := #[.slice none 0 0]) (by repeat (first | (with_reducible assumption) | ((with_reducible refine holds_new ?_); (focus (first | rfl | (simp; done)))) | (with_reducible refine Holds.alloc ?_ _) | (with_reducible refine Holds.drew ?_))) rfl, (by repeat (first | (with_reducible assumption) | ((with_reducible refine holds_new ?_); (focus (first | rfl | (simp; done)))) | (with_reducible refine Holds.alloc ?_ _) | (with_reducible refine Holds.drew ?_))), Mine.nil _ _ _ _, fun _ => rfl, (by repeat (first | (with_reducible exact Below.refl _ _) | (with_reducible assumption) | (with_reducible refine Below.drew ?_) | ((with_reducible refine below_alloc ?_ ?_); (focus (first | omega | (simp; done) | (simp; omega)))) | ((with_reducible refine below_set ?_ ?_); (focus (first | omega | (simp; done) | (simp; omega))))))⟩, Keeps.refl _ _⟩
  case round =>
    rintro l pre x W ⟨A0, c0, h0, hk0⟩
    obtain ⟨f1, f2, f3, f4, f5⟩ := wd_facts x
    have hz := h0.out.h1.lt
    dsimp only [encY, valY]
    gi_wp2
    refine ⟨KeepsOthers.alloc _ _, KeepsT.below (B := W.heap.size) (by intro k hk; unfold TxT at hk; omega) (Nat.le_refl _) (by repeat (first | (with_reducible exact Below.refl _ _) | (with_reducible assumption) | (with_reducible refine Below.drew ?_) | ((with_reducible refine below_alloc ?_ ?_); (focus (first | omega | (simp; done) | (simp; omega)))) | ((with_reducible refine below_set ?_ ?_); (focus (first | omega | (simp; done) | (simp; omega)))))), ⟨A0, c0, hidden (h0.out.later (by repeat (first | (with_reducible exact Below.refl _ _) | (with_reducible assumption) | (with_reducible refine Below.drew ?_) | ((with_reducible refine below_alloc ?_ ?_); (focus (first | omega | (simp; done) | (simp; omega)))) | ((with_reducible refine below_set ?_ ?_); (focus (first | omega | (simp; done) | (simp; omega))))))), hk0.alloc _⟩, ?_⟩
    clear h0 hk0
    rintro W2 l2 pre2 hc2 ⟨A2, c2, m0, mk⟩ hlen2 hl2 hr2
    have m5 := hc2.holds (Holds.new W _ _)
    have hzB := hc2.size
    simp at hzB
    have hll : (leavesOf t).length ≤ t.length := leavesTo_len t t.length
    have HPc := hidden ((wd_lead x).keeps mk)
    have hlen := piecesL_len t (pre2.map (·.1.1)) (by
      intro k hk
      obtain ⟨y, _, rfl⟩ := List.mem_map.1 hk
      exact (wd_facts y).2.1)
    rw [List.length_map] at hlen
    have hmul : pre2.length * bulkT t ≤ 1048576 * 1048576 := Nat.mul_le_mul (by omega) h4
    have hnl := bulk_at (List.getElem?_eq_getElem f2)
    have hnw := wordLen_bulk t[nodeY t x.1.1]
    rw [← leafAt_of (List.getElem?_eq_getElem f2)] at hnl hnw
    have HL : Hid (piecesL t ((pre2 ++ [x]).map (·.1.1)) = piecesL t (pre2.map (·.1.1)) ++ wordPcs (leafAt t (nodeY t x.1.1))) := hidden (by rw [List.map_append, List.map_cons, List.map_nil, piecesL_snoc])
    clear hc2 hl2 hr2
    have HFin : Hid (∀ w' A' c', KeepsOthers W2 w' → KeepsT (TxT w) 3 W2 w' → PcS w (.slice A t.length c) (.slice A' (piecesL t (pre2.map (·.1.1)) ++ wordPcs (leafAt t (nodeY t x.1.1))).length c') (piecesL t (pre2.map (·.1.1)) ++ wordPcs (leafAt t (nodeY t x.1.1))) w' →
        roundEndK (KeepsT (TxT w) 3) (PcI w (.slice A t.length c)) PcX (pre2 ++ [x]) W2 .normal { tmps := #[], defers := [] } w') := hidden (fun w' A' c' a1 a2 a3 =>
      ⟨a1, a2, A', c', hidden (by rw [HL.out]; exact a3), mk.trans a2.keeps⟩)
    have HXI : Hid (∃ y, y = x) := hidden ⟨x, rfl⟩
    generalize leafAt t (nodeY t x.1.1) = nx at *
    generalize piecesL t (pre2.map (·.1.1)) = L0 at *
    generalize nodeY t x.1.1 = nd at *
    generalize fromY t (leavesOf t) x.1.1 = f0 at *
    generalize ownY t x.1.1 = ow at *
    generalize x.1.2.1 = xA at *
    generalize x.1.2.2 = xc at *
    have hbl : nx.lead.length ≤ 1048576 := by omega
    have hpl : L0.length + nx.lead.length + 1 ≤ 1099512676400 := by omega
    have H5 := hidden m5
    have M0 := m0
    clear m0 m5 hlen hmul
    obtain ⟨A3, c3, hvv, d1, d2⟩ := HPc.out.value
    simp only [Value.slice.injEq] at hvv
    obtain ⟨rfl, _, rfl⟩ := hvv
    unfold maxLen at d2
    have hne5 : W.heap.size ≠ w.heap.size := by omega
    have k0 := M0.out.h0.c0; have kf := M0.out.h0.frozen 0; have kl := M0.out.h0.lt
    have k3 : W2.cell? ⟨W.heap.size, 3, none⟩ = some (.slice xA nx.lead.length xc) := H5.out.cell 3
    have k4 : W2.cell? ⟨W.heap.size, 4, none⟩ = some (.int .i64 nx.n) := H5.out.cell 4
    have k5 : W2.cell? ⟨W.heap.size, 5, none⟩ = some (.string nx.text) := H5.out.cell 5
    by_cases hle : nx.lead = []
    · by_cases hn2 : nx.n = -2
      · have hl0 : nx.lead.length = 0 := by rw [hle]; rfl
        rw [hl0] at k3
        have HM := hidden M0.out.hm
        have hSm := M0.out.same
        have HP1 : Hid (PcS w (.slice A t.length c) (.slice A2 L0.length c2) L0 (W2.setCell ⟨w.heap.size, 0, none⟩ (.slice A2 L0.length c2))) := hidden hSm.1
        have HK1 := hidden hSm.2
        clear hSm
        have qn : (nx.n != -2) = false := by rw [hn2]; rfl
        have HWp : Hid (wordPcs nx = []) := hidden (by unfold wordPcs; rw [hle, if_pos hn2]; rfl)
        gi_wp2_with (gi_at_builtin; refine wpListIn_append_none rfl (.tmp 8) (.tmp 10) 27 59 rfl (by kernel_rfl) HPi (w.heap.size + 1 + 1) _ _ _ HM xA xc rfl rfl ?_)
        refine HFin.out _ A2 c2 HK1.out.1 HK1.out.2 ?_
        rw [HWp.out, List.append_nil]
        exact HP1.out
      · have hl0 : nx.lead.length = 0 := by rw [hle]; rfl
        rw [hl0] at k3
        have HM := hidden M0.out.hm
        have hSm := M0.out.same
        have HP1 : Hid (PcS w (.slice A t.length c) (.slice A2 L0.length c2) L0 (W2.setCell ⟨w.heap.size, 0, none⟩ (.slice A2 L0.length c2))) := hidden hSm.1
        have HK1 := hidden hSm.2
        clear hSm
        have qn : (nx.n != -2) = true := by simpa using hn2
        have HWp : Hid (wordPcs nx = [⟨nx.n, nx.text⟩]) := hidden (by unfold wordPcs; rw [hle, if_neg hn2]; rfl)
        have HP2 : Hid (PcS w (.slice A t.length c) ((.slice A2 L0.length c2)) (L0) ((W2.setCell ⟨w.heap.size, 0, none⟩ (.slice A2 L0.length c2)).alloc (.cells #[.int .i64 nx.n, .string nx.text] 59))) := hidden (PcS.later HP1.out ((Below.refl _ _).alloc (Nat.le_refl _) _))
        have HM2 := hidden HP2.out.hm
        have HX2 : Hid (Rd ((W2.setCell ⟨w.heap.size, 0, none⟩ (.slice A2 L0.length c2)).alloc (.cells #[.int .i64 nx.n, .string nx.text] 59)) (fun _ => True) 2 (.slice (some ⟨W2.heap.size, 0, none⟩) 1 1) 1 [.int .i64 nx.n, .string nx.text]) := hidden (Rd.fresh (cs := [.int .i64 nx.n, .string nx.text]) (n := 1) (size := 2) rfl (Nat.le_refl _) (by decide) trivial (by simp [World.setCell]))
        have H12 : Hid (∀ u ∈ [Value.int .i64 nx.n, .string nx.text], u.oneCell' = true) := hidden (by intro u hu; simp at hu; rcases hu with rfl | rfl <;> rfl)
        have h20 : w.heap.size + 1 + 1 ≤ ((W2.setCell ⟨w.heap.size, 0, none⟩ (.slice A2 L0.length c2)).alloc (.cells #[.int .i64 nx.n, .string nx.text] 59)).heap.size := (by have := HP2.out.h1.lt; omega)
        have h19 : (L0.length + 1) * 24 ≤ 140737488355328 := by omega
        gi_wp2_with (first | (gi_at_builtin; refine wpListIn_append_none rfl (.tmp 8) (.tmp 10) 27 59 rfl (by kernel_rfl) HPi (w.heap.size + 1 + 1) _ _ _ HM xA xc rfl rfl ?_) | (gi_at_builtin; refine wpListIn_append_all rfl (.tmp 15) (.tmp 21) 27 59 rfl (by kernel_rfl) HPi rfl (by decide) (w.heap.size + 1 + 1) _ _ _ HM2 _ _ _ HX2 H12 rfl rfl h19 (by decide) h20 ?_; intro v7 w7 hA7; obtain ⟨A7, c7, rfl⟩ := hA7.out.mine.value; have hPut7 := hidden (HP2.out.put (news := [⟨nx.n, nx.text⟩]) (by simp) (by first | exact hA7.out | (rw [List.length_append]; exact hA7.out))); have g0 := hPut7.out.2.2.2.2.1.c0; have gf := hPut7.out.2.2.2.2.1.frozen 0; have gl := hPut7.out.2.2.2.2.1.lt))
        refine HFin.out _ A7 c7 ((HK1.out.1.trans (KeepsOthers.alloc _ _)).trans hPut7.out.2.1) ((HK1.out.2.trans (KeepsT.below (B := (W2.setCell ⟨w.heap.size, 0, none⟩ (.slice A2 L0.length c2)).heap.size) (fun k hk => by have := HP1.out.h1.lt; unfold TxT at hk; omega) (Nat.le_refl _) ((Below.refl _ _).alloc (Nat.le_refl _) _))).trans hPut7.out.2.2.1) ?_
        rw [HWp.out]
        have := hPut7.out.1
        simpa using this
    · by_cases hn2 : nx.n = -2
      · have HM := hidden M0.out.hm
        have HX := hidden (show Rd W2 (TxT w) 2 (.slice xA nx.lead.length xc) nx.lead.length (nx.lead.flatMap pcCells) from HPc.out)
        have H1 := hidden (pc_oneCell nx.lead)
        have h9 : (L0.length + nx.lead.length) * 24 ≤ 140737488355328 := by omega
        have h10 : w.heap.size + 1 + 1 ≤ W2.heap.size := by have := M0.out.h1.lt; omega
        have qn : (nx.n != -2) = false := by rw [hn2]; rfl
        have HWp : Hid (wordPcs nx = nx.lead) := hidden (by unfold wordPcs; rw [if_pos hn2, List.append_nil])
        gi_wp2_with (gi_at_builtin; refine wpListIn_append_all rfl (.tmp 8) (.tmp 10) 27 59 rfl (by kernel_rfl) HPi rfl (by decide) (w.heap.size + 1 + 1) _ _ _ HM _ _ _ HX H1 rfl rfl h9 (by decide) h10 ?_; intro v' w6 hA; obtain ⟨A6, c6, rfl⟩ := hA.out.mine.value; have hPut := hidden (M0.out.put hle hA.out); have q6 := hPut.out.2.2.2.2.2 _ _ _ H5.out (by decide); have e0 := hPut.out.2.2.2.2.1.c0; have ef := hPut.out.2.2.2.2.1.frozen 0; have el := hPut.out.2.2.2.2.1.lt; have j4 : w6.cell? ⟨W.heap.size, 4, none⟩ = some (.int .i64 nx.n) := q6.cell 4; have j5 : w6.cell? ⟨W.heap.size, 5, none⟩ = some (.string nx.text) := q6.cell 5)
        refine HFin.out _ A6 c6 hPut.out.2.1 hPut.out.2.2.1 ?_
        rw [HWp.out, List.length_append]
        exact hPut.out.1
      · have HM := hidden M0.out.hm
        have HX := hidden (show Rd W2 (TxT w) 2 (.slice xA nx.lead.length xc) nx.lead.length (nx.lead.flatMap pcCells) from HPc.out)
        have H1 := hidden (pc_oneCell nx.lead)
        have h9 : (L0.length + nx.lead.length) * 24 ≤ 140737488355328 := by omega
        have h10 : w.heap.size + 1 + 1 ≤ W2.heap.size := by have := M0.out.h1.lt; omega
        have qn : (nx.n != -2) = true := by simpa using hn2
        have HWp : Hid (wordPcs nx = nx.lead ++ [⟨nx.n, nx.text⟩]) := hidden (by unfold wordPcs; rw [if_neg hn2])
        have h19 : (L0.length + nx.lead.length + 1) * 24 ≤ 140737488355328 := by omega
        gi_wp2_with (first | (gi_at_builtin; refine wpListIn_append_all rfl (.tmp 8) (.tmp 10) 27 59 rfl (by kernel_rfl) HPi rfl (by decide) (w.heap.size + 1 + 1) _ _ _ HM _ _ _ HX H1 rfl rfl h9 (by decide) h10 ?_; intro v' w6 hA; obtain ⟨A6, c6, rfl⟩ := hA.out.mine.value; have hPut := hidden (M0.out.put hle hA.out); have q6 := hPut.out.2.2.2.2.2 _ _ _ H5.out (by decide); have e0 := hPut.out.2.2.2.2.1.c0; have ef := hPut.out.2.2.2.2.1.frozen 0; have el := hPut.out.2.2.2.2.1.lt; have j4 : w6.cell? ⟨W.heap.size, 4, none⟩ = some (.int .i64 nx.n) := q6.cell 4; have j5 : w6.cell? ⟨W.heap.size, 5, none⟩ = some (.string nx.text) := q6.cell 5; have HP1 : Hid (PcS w (.slice A t.length c) (.slice A6 (L0.length + nx.lead.length) c6) (L0 ++ nx.lead) (w6.setCell ⟨w.heap.size, 0, none⟩ (.slice A6 (L0.length + nx.lead.length) c6))) := hidden hPut.out.1; have HP2 : Hid (PcS w (.slice A t.length c) ((.slice A6 (L0.length + nx.lead.length) c6)) (L0 ++ nx.lead) ((w6.setCell ⟨w.heap.size, 0, none⟩ (.slice A6 (L0.length + nx.lead.length) c6)).alloc (.cells #[.int .i64 nx.n, .string nx.text] 59))) := hidden (PcS.later HP1.out ((Below.refl _ _).alloc (Nat.le_refl _) _)); have HM2 := hidden HP2.out.hm; have HX2 : Hid (Rd ((w6.setCell ⟨w.heap.size, 0, none⟩ (.slice A6 (L0.length + nx.lead.length) c6)).alloc (.cells #[.int .i64 nx.n, .string nx.text] 59)) (fun _ => True) 2 (.slice (some ⟨w6.heap.size, 0, none⟩) 1 1) 1 [.int .i64 nx.n, .string nx.text]) := hidden (Rd.fresh (cs := [.int .i64 nx.n, .string nx.text]) (n := 1) (size := 2) rfl (Nat.le_refl _) (by decide) trivial (by simp [World.setCell])); have H12 : Hid (∀ u ∈ [Value.int .i64 nx.n, .string nx.text], u.oneCell' = true) := hidden (by intro u hu; simp at hu; rcases hu with rfl | rfl <;> rfl); have h20 : w.heap.size + 1 + 1 ≤ ((w6.setCell ⟨w.heap.size, 0, none⟩ (.slice A6 (L0.length + nx.lead.length) c6)).alloc (.cells #[.int .i64 nx.n, .string nx.text] 59)).heap.size := (by have := HP2.out.h1.lt; omega); rw [List.length_append] at HM2) | (gi_at_builtin; refine wpListIn_append_all rfl (.tmp 15) (.tmp 21) 27 59 rfl (by kernel_rfl) HPi rfl (by decide) (w.heap.size + 1 + 1) _ _ _ HM2 _ _ _ HX2 H12 rfl rfl h19 (by decide) h20 ?_; intro v7 w7 hA7; obtain ⟨A7, c7, rfl⟩ := hA7.out.mine.value; have hPut7 := hidden (HP2.out.put (news := [⟨nx.n, nx.text⟩]) (by simp) (by first | exact hA7.out | (rw [List.length_append]; exact hA7.out))); have g0 := hPut7.out.2.2.2.2.1.c0; have gf := hPut7.out.2.2.2.2.1.frozen 0; have gl := hPut7.out.2.2.2.2.1.lt))
        refine HFin.out _ A7 c7 ((hPut.out.2.1.trans (KeepsOthers.alloc _ _)).trans hPut7.out.2.1) ((hPut.out.2.2.1.trans (KeepsT.below (B := (w6.setCell ⟨w.heap.size, 0, none⟩ (.slice A6 (L0.length + nx.lead.length) c6)).heap.size) (fun k hk => by have := HP1.out.h1.lt; unfold TxT at hk; omega) (Nat.le_refl _) ((Below.refl _ _).alloc (Nat.le_refl _) _))).trans hPut7.out.2.2.1) ?_
        rw [HWp.out]
        have := hPut7.out.1
        simpa [Nat.add_assoc] using this
  case done =>
    rintro D xs W hD hS ⟨A6, c6, h0, hk⟩ hK
    rw [hS, piecesL_all] at h0
    have d0 := h0.out.h0.c0
    have hb := h0.out.below
    have HWd := hidden (h0.out.hm.base (b' := w.heap.size) (by omega))
    clear h0
    gi_wp2
    refine leaves_marks (B := w.heap.size) [D] _ ⟨by simp, ?_⟩ ?_
    · intro D' hD'
      simp at hD'
      subst hD'
      simp at hD
      exact ⟨by omega, hK⟩
    · intro W' hc
      refine ⟨.slice A6 (piecesOf t).length c6, ?_, ⟨_, rfl, hidden (HWd.out.calm hc)⟩, hb.trans (hc.below (Nat.le_refl _) hb.size)⟩
      simp [results, Try.f40, go_sem]
  case stop => exact fun D c pre W hD hS hX hK => hX.elim
end Go.Proofs.Ytihblifkbljgaaa
