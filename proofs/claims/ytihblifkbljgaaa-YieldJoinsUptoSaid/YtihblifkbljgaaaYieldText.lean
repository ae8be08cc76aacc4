/-
  yield.Text.
-/
import Derived.Test.YtihblifkbljgaaaYieldSpan
import Derived.Test.YtihblifkbljgaaaBuilder
namespace Go.Proofs.Ytihblifkbljgaaa
open Go.RowKit Go.Shelf
attribute [local go_sem] Oper.semAt_some
attribute [local simp] wide_round_fn

def pcBytes (ps : List Piece) : List UInt8 := ps.flatMap fun p => p.text.data.toList
def wordBytes (x : Node) : List UInt8 := pcBytes x.lead ++ x.text.data.toList
noncomputable def textL (t : List Node) (ks : List Nat) : List UInt8 := ks.flatMap fun k => wordBytes (leafAt t (nodeY t k))
noncomputable def textOf (t : List Node) : List UInt8 := textL t (List.range (leavesOf t).length)
theorem bytes_size (s : ByteArray) : s.data.toList.length = s.size := by rw [Array.length_toList]; rfl
theorem pcBytes_len (ps : List Piece) : (pcBytes ps).length = leadSum ps := by
  unfold pcBytes leadSum
  induction ps with
  | nil => rfl
  | cons p ps ih => rw [List.flatMap_cons, List.length_append, ih, bytes_size]; simp
theorem pcBytes_take {ps : List Piece} {j : Nat} {p : Piece} (h : ps[j]? = some p) : pcBytes (ps.take (j + 1)) = pcBytes (ps.take j) ++ p.text.data.toList := by
  obtain ⟨hj, e⟩ := List.getElem?_eq_some_iff.1 h
  unfold pcBytes
  rw [List.take_succ_eq_append_getElem hj, e, List.flatMap_append]
  simp
theorem wordBytes_len (x : Node) : (wordBytes x).length = wordLen x := by unfold wordBytes wordLen; rw [List.length_append, pcBytes_len, bytes_size]
theorem textL_snoc (t : List Node) (l : List Nat) (k : Nat) : textL t (l ++ [k]) = textL t l ++ wordBytes (leafAt t (nodeY t k)) := by unfold textL; rw [List.flatMap_append]; simp
theorem textL_len (t : List Node) (l : List Nat) (h : ∀ k ∈ l, nodeY t k < t.length) : (textL t l).length ≤ l.length * bulkT t := by
  unfold textL
  induction l with
  | nil => simp
  | cons k l ih =>
    rw [List.flatMap_cons, List.length_append, wordBytes_len, List.length_cons, Nat.add_mul]
    have h1 := ih (fun j hj => h j (by simp [hj]))
    have h2 := bulk_at (List.getElem?_eq_getElem (h k (by simp)))
    have h3 := wordLen_bulk (t[nodeY t k]'(h k (by simp)))
    rw [leafAt_of (List.getElem?_eq_getElem (h k (by simp)))]
    omega

theorem Bd.keep {B b : Nat} {l : List UInt8} {w w' : World} (h : Bd B b l w) (hk : ∀ (k : Nat) (o : Obj), w.heap[k]? = some o → o.isCells = true → w'.heap[k]? = some o) : Bd B b l w' := by
  have go : ∀ p, Lib.BuilderAtF 84 5 B b p (Lib.byteCells l) w → Lib.BuilderAtF 84 5 B b p (Lib.byteCells l) w' := by
    rintro p ⟨h1, v, h2, ⟨h3, h4⟩, h5⟩
    refine ⟨h1, v, hk _ _ h2 rfl, ⟨h3, ?_⟩, h5⟩
    rcases h4 with h4 | ⟨g, cap, cur, fz, e1, e2, e3, e4⟩
    · exact .inl h4
    · exact .inr ⟨g, cap, cur, fz, e1, e2, hk _ _ e3 rfl, e4⟩
  exact h.imp (go _) (go _)
theorem Bd.calm {B b B' : Nat} {l : List UInt8} {w w' : World} (h : Bd B b l w) (hc : Calm B' w w') : Bd B b l w' := h.keep fun k o h1 h2 => hc.block k o h1 (.inr h2)
theorem Bd.later {B b : Nat} {l : List UInt8} {w w' : World} (h : Bd B b l w) (hb : Below w.heap.size w w') : Bd B b l w' := h.keep fun k _ h1 _ => (hb.block k (Array.getElem?_eq_some_iff.1 h1).1).trans h1
theorem Bd.typed {B b : Nat} {l : List UInt8} {w : World} (h : Bd B b l w) : ∃ cs, Holds w b 84 cs := by
  rcases h with ⟨_, v, h2, _⟩ | ⟨_, v, h2, _⟩
  · exact ⟨_, h2⟩
  · exact ⟨_, h2⟩

/-- What a round that writes into the builder keeps. -/
structure TxS (w : World) (T : Nat → Prop) (W2 wi : World) : Prop where
  ko : KeepsOthers W2 wi
  kt : KeepsT T 3 W2 wi
  below : Below w.heap.size w wi
  sz : W2.heap.size ≤ wi.heap.size
theorem TxS.refl {w W : World} {T : Nat → Prop} (hb : Below w.heap.size w W) : TxS w T W W := ⟨KeepsOthers.refl _, KeepsT.refl _, hb, Nat.le_refl _⟩
theorem TxS.alloc {w W2 wi : World} {T : Nat → Prop} (h : TxS w T W2 wi) (hT : ∀ k, T k → k < W2.heap.size) (o : Obj) : TxS w T W2 (wi.alloc o) :=
  ⟨h.ko.trans (KeepsOthers.alloc _ _), h.kt.trans (KeepsT.below (B := wi.heap.size) (fun k hk => Nat.lt_of_lt_of_le (hT k hk) h.sz) (Nat.le_refl _) ((Below.refl _ _).alloc (Nat.le_refl _) _)), h.below.alloc h.below.size _, Nat.le_trans h.sz (by simp)⟩
theorem TxS.write {w W2 wi wi' : World} {T : Nat → Prop} {l : List UInt8} (h : TxS w T W2 wi) (hB : Bd w.heap.size w.heap.size l wi) (hb : Below w.heap.size wi wi') (hk : Lib.OthersKept 5 (some w.heap.size) wi wi')
    (hT : ∀ k, T k → k < w.heap.size ∨ (k ≠ w.heap.size ∧ ∃ cs, Holds wi k 22 cs)) : TxS w T W2 wi' := by
  obtain ⟨cs0, h0⟩ := hB.typed
  refine ⟨h.ko.trans ⟨hb.size, fun k o ho hc => hk k o ho (fun e => ?_) (fun c fz e => by subst e; cases hc)⟩, h.kt.trans ⟨⟨hb.size, fun k hTk hlt => ?_⟩, fun k cs hc => ?_⟩, h.below.trans hb, Nat.le_trans h.sz hb.size⟩
  · cases e
    rw [h0] at ho; cases ho; cases hc
  · rcases hT k hTk with h1 | ⟨h1, cs, h2⟩
    · exact hb.block k h1
    · rw [show wi.heap[k]? = _ from h2]
      exact hk k _ h2 (fun e => h1 (Option.some.inj e)) (fun c fz e => by cases e)
  · refine hk k _ hc (fun e => ?_) (fun c fz e => by cases e)
    cases e
    rw [h0] at hc; cases hc
theorem Holds.written {w wi wi' : World} {g : Nat} {ty : TypeId} {cs : Array Value} (h : Holds wi g ty cs) (hk : Lib.OthersKept 5 (some w.heap.size) wi wi') (hg : g ≠ w.heap.size) (ht : ty ≠ 5) : Holds wi' g ty cs :=
  hk g _ h (fun e => hg (Option.some.inj e)) (fun c fz e => by cases e; exact ht rfl)

theorem wd_lead {w : World} {T : Nat → Prop} {t : List Node} (x : Wd w T t) : Pcs w T (.slice x.1.2.1 (leafAt t (nodeY t x.1.1)).lead.length x.1.2.2) (leafAt t (nodeY t x.1.1)).lead := by
  obtain ⟨⟨k, A, c⟩, i, hi, hit, hp⟩ := x
  have h1 : nodeY t k = i := by unfold nodeY; rw [hi]; rfl
  dsimp only
  rw [h1]
  exact hp
def TxT (w : World) : Nat → Prop := fun k => k < w.heap.size ∨ k = w.heap.size + 1
def TxI (w : World) (v : Value) {w1 : World} {T : Nat → Prop} {t : List Node} (pre : List (Wd w1 T t)) (W : World) : Prop :=
  Bd w.heap.size w.heap.size (textL t (pre.map (·.1.1))) W ∧ Holds W (w.heap.size + 1) 22 #[v] ∧ Keeps T w1 W ∧ Below w.heap.size w W
def TxX {w1 : World} {T : Nat → Prop} {t : List Node} (_ : Code) (_ : List (Wd w1 T t)) (_ : World) : Prop := False

set_option maxRecDepth 100000 in
set_option maxHeartbeats 8000000 in
theorem yield_text (v : Value) (t : List Node) (w : World) (h4 : bulkT t ≤ 1048576) (hN : Nds w (Old w) v t) :
    Calls Try.prog 26 #[v] w fun r w' => r = .returned (.string ⟨(textOf t).toArray⟩) ∧ Below w.heap.size w w' := by
  have HN := hidden hN
  have h5 := bulk_len t
  obtain ⟨A, c, rfl, hc1, hc2⟩ := hN.value
  unfold maxLen at hc2
  clear hN
  (refine (callsIn_wide (n := 5)).1 ?_; refine callsIn_of_wp_marks Try.func26 rfl trivial ?_ rfl; simp only [Try.ntmps26, List.size_toArray, List.length_cons, List.length_nil, Nat.reduceAdd, Nat.reduceSub, Array.replicate_succ, Array.replicate_zero, List.push_toArray, List.append_toArray, List.nil_append, List.cons_append])
  gi_wp2_with (refine ⟨trivial, ?_⟩; gi_at_call 62; refine (callsIn_wide.2 (yield_words _ _ _ _ rfl _)).mono ?_; rintro e w' ⟨rfl, rfl⟩)
  refine range_lawK (by omega) rfl (enters_of Try.func77 (by kernel_rfl) rfl)
    (ywords1_stops 4 (by omega) (w.heap.size + 1) _ (TxT w) (by intro k hk; unfold TxT at hk; simp; omega) t (.slice A t.length c) (by omega) ((HN.out.alloc _).alloc _ |>.mono (fun k hk => .inl hk)) (.inr rfl) (by go_simp))
    KeepsT.trans (fun W l o o' hl ho hc _ => KeepsT.loop (by intro k hk; unfold TxT at hk; simp at hl; omega) ho hc) (Below.refl _ _) (fun _ => rfl)
    (TxI w (.slice A t.length c)) TxX ?i0 ?ix ?start ?round ?done ?stop
  case i0 =>
    rintro pre W W' ⟨h0, h1, h2, hb⟩ hc
    exact ⟨h0.calm hc, hc.holds h1, h2.trans ⟨hc.size, fun k hk hl => by
      have hb1 := hc.below (B' := w.heap.size + 1 + 1) (by simp) (by have := h1.lt; omega)
      exact hb1.block k (by unfold TxT at hk; omega)⟩, hb.trans (hc.below (by simp; omega) hb.size)⟩
  case ix => exact fun c pre W W' h => h.elim
  case start => exact ⟨(bd_new w).later (by repeat (first | (with_reducible exact Below.refl _ _) | (with_reducible assumption) | (with_reducible refine Below.drew ?_) | ((with_reducible refine below_alloc ?_ ?_); (focus (first | omega | (simp; done) | (simp; omega)))) | ((with_reducible refine below_set ?_ ?_); (focus (first | omega | (simp; done) | (simp; omega)))))), (by repeat (first | (with_reducible assumption) | ((with_reducible refine holds_new ?_); (focus (first | rfl | (simp; done)))) | (with_reducible refine Holds.alloc ?_ _) | (with_reducible refine Holds.drew ?_))), Keeps.refl _ _, (by repeat (first | (with_reducible exact Below.refl _ _) | (with_reducible assumption) | (with_reducible refine Below.drew ?_) | ((with_reducible refine below_alloc ?_ ?_); (focus (first | omega | (simp; done) | (simp; omega)))) | ((with_reducible refine below_set ?_ ?_); (focus (first | omega | (simp; done) | (simp; omega))))))⟩
  case round =>
    rintro l pre x W ⟨h0, h1, h2, hb⟩
    obtain ⟨f1, f2, f3, f4, f5⟩ := wd_facts x
    have hz := h1.lt
    dsimp only [encY, valY]
    gi_wp2
    refine ⟨KeepsOthers.alloc _ _, KeepsT.below (B := W.heap.size) (by intro k hk; unfold TxT at hk; omega) (Nat.le_refl _) (by repeat (first | (with_reducible exact Below.refl _ _) | (with_reducible assumption) | (with_reducible refine Below.drew ?_) | ((with_reducible refine below_alloc ?_ ?_); (focus (first | omega | (simp; done) | (simp; omega)))) | ((with_reducible refine below_set ?_ ?_); (focus (first | omega | (simp; done) | (simp; omega)))))), ⟨h0.later (by repeat (first | (with_reducible exact Below.refl _ _) | (with_reducible assumption) | (with_reducible refine Below.drew ?_) | ((with_reducible refine below_alloc ?_ ?_); (focus (first | omega | (simp; done) | (simp; omega)))) | ((with_reducible refine below_set ?_ ?_); (focus (first | omega | (simp; done) | (simp; omega)))))), h1.alloc _, h2.alloc _, (by repeat (first | (with_reducible exact Below.refl _ _) | (with_reducible assumption) | (with_reducible refine Below.drew ?_) | ((with_reducible refine below_alloc ?_ ?_); (focus (first | omega | (simp; done) | (simp; omega)))) | ((with_reducible refine below_set ?_ ?_); (focus (first | omega | (simp; done) | (simp; omega))))))⟩, ?_⟩
    rintro W2 l2 pre2 hc2 ⟨m0, m1, m2, mb⟩ hlen2 hl2 hr2
    have m5 := hc2.holds (Holds.new W _ _)
    have hzB := hc2.size
    simp at hzB
    clear h0 h1 h2 hb hc2 hl2 hr2
    have HPc := hidden ((wd_lead x).keeps m2)
    have HT2 := hidden (textL_snoc t (pre2.map (·.1.1)) x.1.1)
    have hlen := textL_len t (pre2.map (·.1.1)) (by
      intro k hk
      obtain ⟨y, _, rfl⟩ := List.mem_map.1 hk
      exact (wd_facts y).2.1)
    rw [List.length_map] at hlen
    have hll : (leavesOf t).length ≤ t.length := leavesTo_len t t.length
    have hmul : pre2.length * bulkT t ≤ 1048576 * 1048576 := Nat.mul_le_mul (by omega) h4
    have hnl := bulk_at (List.getElem?_eq_getElem f2)
    have hnw := wordLen_bulk t[nodeY t x.1.1]
    have hnx := leafAt_of (List.getElem?_eq_getElem f2)
    have HFin : Hid (∀ wi, TxS w (TxT w) W2 wi → Bd w.heap.size w.heap.size (textL t (pre2.map (·.1.1)) ++ wordBytes (leafAt t (nodeY t x.1.1))) wi → Holds wi (w.heap.size + 1) 22 #[.slice A t.length c] →
        roundEndK (KeepsT (TxT w) 3) (TxI w (.slice A t.length c)) TxX (pre2 ++ [x]) W2 .normal { tmps := #[], defers := [] } wi) := hidden (fun wi hs hbd hv => by
      refine ⟨hs.ko, hs.kt, ?_, hv, m2.trans hs.kt.keeps, hs.below⟩
      rw [List.map_append, List.map_cons, List.map_nil, HT2.out]
      exact hbd)
    rw [← hnx] at hnl hnw
    generalize leafAt t (nodeY t x.1.1) = nx at *
    generalize textL t (pre2.map (·.1.1)) = L0 at *
    generalize nodeY t x.1.1 = nd at *
    generalize fromY t (leavesOf t) x.1.1 = f0 at *
    generalize ownY t x.1.1 = ow at *
    have HXI : Hid (∃ y, y = x) := hidden ⟨x, rfl⟩
    generalize x.1.2.1 = xA at *
    generalize x.1.2.2 = xc at *
    unfold wordLen at hnw
    have HS := hidden (TxS.refl (T := TxT w) mb)
    have HBd := hidden m0
    have HB0 : Hid (Below w.heap.size w W2) := hidden mb
    have hbz := mb.size
    have hls := fun j => leadSum_le nx.lead j
    have HLs := hidden hls
    clear hnx m0 m2 mb hls f1 f3 f4 f5
    obtain ⟨A3, c3, hvv, d1, d2⟩ := HPc.out.value
    simp only [Value.slice.injEq] at hvv
    obtain ⟨rfl, _, rfl⟩ := hvv
    unfold maxLen at d2
    have z3 : W2.cell? ⟨W.heap.size, 3, none⟩ = some (.slice xA nx.lead.length xc) := m5.cell 3
    gi_wp2
    clear z3
    gi_loopw [13] (fun jj wi => ∃ j : Nat, jj = .int .i64 j ∧ j ≤ nx.lead.length ∧ Hid (Bd w.heap.size w.heap.size (L0 ++ pcBytes (nx.lead.take j)) wi) ∧ Hid (TxS w (TxT w) W2 wi) ∧ Holds wi (w.heap.size + 1) 22 #[.slice A t.length c] ∧ Holds wi W.heap.size 78 #[.int .i64 (nd : Int), .int .i64 (f0 : Int), .int .i64 (ow : Int), .slice xA nx.lead.length xc, .int .i64 nx.n, .string nx.text])
      (fun jj _ => nx.lead.length - (intOf jj).toNat)
    case atStart => exact ⟨0, rfl, by omega, hidden (by simpa [pcBytes] using HBd.out), HS, m1, m5⟩
    case round =>
      clear HBd HS m1 m5
      obtain ⟨j, rfl, hj, HBd, HS, m1, m5⟩ := hrel
      have g1 := HS.out.sz
      by_cases hjl : j < nx.lead.length
      · have hp := List.getElem?_eq_getElem hjl
        have HP := HPc.out.keeps HS.out.kt.keeps
        obtain ⟨b3, o3, c3', hv, _, _, hT3, hat3⟩ := HP.open_ (by intro e; rw [e] at hjl; simp at hjl)
        simp only [Value.slice.injEq] at hv
        obtain ⟨rfl, _, rfl⟩ := hv
        obtain ⟨p0, p1⟩ := hat3 j _ hp
        have HTk := hidden (pcBytes_take hp)
        have hpl := pcBytes_len (nx.lead.take (j + 1))
        have hst := leadSum_take hp
        have hsl := HLs.out (j + 1)
        have hsz : (pcBytes (nx.lead.take j)).length = leadSum (nx.lead.take j) := pcBytes_len _
        generalize nx.lead[j] = p at *
        have hle : (L0 ++ pcBytes (nx.lead.take j)).length + p.text.size ≤ 140737488355328 := by
          rw [List.length_append, hsz]; omega
        have HLe := hidden hle
        clear hp hat3 HP hpl hst hsl hsz hle
        gi_wp2_with fail
        have g2 : w.heap.size ≤ (wr.alloc (.cells #[.int .i64 p.tok, .string p.text] 59)).heap.size := by simp; omega
        have HBa := hidden (Bd.later HBd.out (w' := wr.alloc (.cells #[.int .i64 p.tok, .string p.text] 59)) ((Below.refl _ _).alloc (Nat.le_refl _) _))
        have HSa := hidden (HS.out.alloc (fun k hk => by unfold TxT at hk; omega) (.cells #[.int .i64 p.tok, .string p.text] 59))
        have n1 := m1.alloc (.cells #[.int .i64 p.tok, .string p.text] 59)
        have n5 := m5.alloc (.cells #[.int .i64 p.tok, .string p.text] 59)
        refine CallsIn.mono (F := Fence.wide.inRound l2) (callsIn_wide.2 (bd_write w.heap.size w.heap.size _ p.text _ HBa.out HLe.out g2)) ?_
        rintro e w4 ⟨rfl, hB4, hb4, hk4⟩
        have HB4 : Hid (Bd w.heap.size w.heap.size (L0 ++ pcBytes (nx.lead.take (j + 1))) w4) := hidden (by rw [HTk.out, ← List.append_assoc]; exact hB4)
        have HS4 := hidden (HSa.out.write HBa.out hb4 hk4 (fun k hk => by
          unfold TxT at hk
          rcases hk with hk | rfl
          · exact .inl hk
          · exact .inr ⟨by omega, _, n1⟩))
        have q1 := n1.written hk4 (by omega) (by decide)
        have q5 := n5.written hk4 (by omega) (by decide)
        clear m1 m5 n1 n5 hB4 hb4 hk4 HBa HSa g2
        gi_wp2
        go_roundw
        case rel => exact ⟨j + 1, by go_num, by omega, HB4, HS4, q1, q5⟩
        case measure => simp [intOf]; omega
      · obtain rfl : j = nx.lead.length := by omega
        rw [List.take_length] at *
        have z5 : wr.cell? ⟨W.heap.size, 5, none⟩ = some (.string nx.text) := m5.cell 5
        have hle : (L0 ++ pcBytes nx.lead).length + nx.text.size ≤ 140737488355328 := by
          rw [List.length_append, pcBytes_len]; omega
        have HLe := hidden hle
        clear hle
        have g2 : w.heap.size ≤ wr.heap.size := by omega
        gi_wp2_with fail
        refine CallsIn.mono (F := Fence.wide.inRound l2) (callsIn_wide.2 (bd_write w.heap.size w.heap.size _ nx.text _ HBd.out HLe.out g2)) ?_
        rintro e w4 ⟨rfl, hB4, hb4, hk4⟩
        have HS4 := hidden (HS.out.write HBd.out hb4 hk4 (fun k hk => by
          unfold TxT at hk
          rcases hk with hk | rfl
          · exact .inl hk
          · exact .inr ⟨by omega, _, m1⟩))
        have q1 := m1.written hk4 (by omega) (by decide)
        have HB4 : Hid (Bd w.heap.size w.heap.size (L0 ++ wordBytes nx) w4) := hidden (by unfold wordBytes; rw [← List.append_assoc]; exact hB4)
        clear m1 m5 z5 hB4 hb4 hk4
        gi_wp2
        exact HFin.out _ HS4.out HB4.out q1
  case done =>
    rintro D xs W hD hS ⟨h0, h1, h2, hb⟩ hK
    rw [hS] at h0
    have HE : Hid (textL t (List.range (leavesOf t).length) = textOf t) := hidden rfl
    rw [HE.out] at h0
    have HB := hidden (bd_string w.heap.size w.heap.size _ W h0 hb.size)
    clear h0 h2
    gi_wp2_with fail
    refine ⟨trivial, (callsIn_wide.2 HB.out).mono ?_⟩
    rintro e w4 ⟨rfl, hb4, hk4⟩
    have hK4 : w4.heap[D]? = some (.deferred (some [])) := hk4 D _ hK (fun e => by simp at hD; have := Option.some.inj e; omega) (fun c fz e => by cases e)
    clear hk4
    gi_wp2
    refine leaves_marks (B := w.heap.size) [D] _ ⟨by simp, ?_⟩ ?_
    · intro D' hD'
      simp at hD'
      subst hD'
      simp at hD
      exact ⟨by omega, hK4⟩
    · intro W' hc
      refine ⟨.string ⟨(textOf t).toArray⟩, ?_, rfl, (hb.trans hb4).trans (hc.below (Nat.le_refl _) (hb.trans hb4).size)⟩
      simp [results, Try.f26, go_sem]
  case stop => exact fun D c pre W hD hS hX hK => hX.elim
end Go.Proofs.Ytihblifkbljgaaa
