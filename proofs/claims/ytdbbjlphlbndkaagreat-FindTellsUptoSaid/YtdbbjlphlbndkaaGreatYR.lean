/-
  Slices that read as records of which one cell is a slice of flat elements; words. The document's words, their bytes and texts: facsimileref28. The document's text of a tree, and the node of a byte. Where parts are: a kid's within its node's; a leaf's own text. Plain.
-/
import Derived.Test.YtdbbjlphlbndkaaGreatB1
import Derived.Test.YtdbbjlphlbndkaaGreatT1
import Derived.Test.YtdbbjlphlbndkaaGreatT9
import Derived.Test.YtdbbjlphlbndkaaGreatT3
namespace Go.Proofs.YtdbbjlphlbndkaaGreat.T
open Go.RowKit Go.Shelf

theorem flatN_len {α : Type} (f : α → List Value) (k : Nat) (hf : ∀ x, (f x).length = k) (l : List α) : (l.flatMap f).length = l.length * k := by
  induction l with
  | nil => simp
  | cons y l ih => rw [List.flatMap_cons, List.length_append, hf, ih, List.length_cons, Nat.add_mul]; omega
theorem _root_.Go.Proofs.YtdbbjlphlbndkaaGreat.Rd.valR {w : World} {T : Nat → Prop} {size n : Nat} {v : Value} {cs : List Value} (h : Rd w T size v n cs) : ∃ A c, v = .slice A n c ∧ n ≤ c ∧ c ≤ maxLen := by
  obtain ⟨_, A, c, hv, h1, h2, _⟩ := h
  exact ⟨A, c, hv, h1, h2⟩
section
variable {α : Type} (R : Rec α)
end

section
variable {α : Type} {R : Rec α} {w w' : World} {T T' : Nat → Prop} {v : Value} {xs : List α}
end

/-- Words: what a leaf is as one. -/
def wordR : Rec Node where
  k := 3
  cells x l := [l, .int .i64 x.n, .string x.text]
  len _ _ := rfl
  pos := by decide
  kin := 2
  m x := x.lead.length
  inner x := x.lead.flatMap pcCells
  one x l h := by
    intro u hu
    simp only [List.mem_cons, List.not_mem_nil, or_false] at hu
    rcases hu with rfl | rfl | rfl <;> first | rfl | exact h
end Go.Proofs.YtdbbjlphlbndkaaGreat.T

namespace Go.Proofs.YtdbbjlphlbndkaaGreat.T
open Go.RowKit Go.Shelf

def catB (l : List UInt8) : ByteArray := ⟨l.toArray⟩
theorem catB_size (l : List UInt8) : (catB l).size = l.length := by unfold catB; show l.toArray.size = _; simp
theorem catB_app (l : List UInt8) (s : ByteArray) : catB (l ++ s.data.toList) = catB l ++ s := by
  apply ByteArray.ext
  rw [ByteArray.data_append]
  simp [catB]
theorem catB_cat (l m : List UInt8) : catB (l ++ m) = catB l ++ catB m := by
  apply ByteArray.ext
  rw [ByteArray.data_append]
  simp [catB]

set_option maxHeartbeats 1000000 in
theorem ref_join (v : Value) (ps : List Piece) (w : World) (hP : Pcs w (Old w) v ps) (hl : leadSum ps ≤ 1000000000000) :
    Calls Tryz.prog 78 #[v] w fun r w' => r = .returned (.string (catB (pcBytes ps))) ∧ w = w' := by
  obtain ⟨A, c, rfl, hc1, hc2⟩ := hP.value
  unfold maxLen at hc2
  have HP := hidden hP
  clear hP
  go_enter Tryz.func78, Tryz.ntmps78
  go_wp2
  go_loop [3, 4] (fun s i => ∃ k : Nat, k ≤ ps.length ∧ i = .int .i64 k ∧ s = .string (catB (pcBytes (ps.take k)))) (fun _ i => ps.length - (intOf i).toNat)
  case atStart => exact ⟨0, by omega, rfl, rfl⟩
  case round =>
    obtain ⟨k, hk, rfl, rfl⟩ := hrel
    by_cases hlt : k < ps.length
    · have hp := List.getElem?_eq_getElem hlt
      obtain ⟨b3, o3, c3', hv, _, _, hT3, hat3⟩ := HP.out.open_ (by intro e; rw [e] at hlt; simp at hlt)
      simp only [Value.slice.injEq] at hv
      obtain ⟨rfl, _, rfl⟩ := hv
      obtain ⟨p0, p1⟩ := hat3 k _ hp
      have HTk := hidden (pcBytes_take hp)
      have hst := leadSum_take hp
      have hsl := leadSum_le ps (k + 1)
      have hsz : (catB (pcBytes (ps.take k))).size = leadSum (ps.take k) := by rw [catB_size, pcBytes_len]
      generalize ps[k] = p at *
      have h1 : (catB (pcBytes (ps.take k))).size ≤ 1000000000000 := by omega
      have h2 : (catB (pcBytes (ps.take k))).size + p.text.size ≤ 1000000000000 := by omega
      have HC : Hid (catB (pcBytes (ps.take (k + 1))) = catB (pcBytes (ps.take k)) ++ p.text) := hidden (by rw [HTk.out, catB_app])
      clear hp hat3 hst hsl hsz HTk
      generalize catB (pcBytes (ps.take k)) = s at *
      go_wp2
      go_round
      case rel => exact ⟨k + 1, by omega, by go_num, by rw [HC.out]⟩
      case measure => simp [intOf]; omega
    · obtain rfl : k = ps.length := by omega
      rw [List.take_length]
      go_wp2
      go_ret
      exact ⟨rfl, rfl⟩

set_option maxHeartbeats 1000000 in
theorem ref_bytes (x : Node) (l : Value) (w : World) (hP : Pcs w (Old w) l x.lead) (hl : wordLen x ≤ 1000000000000) :
    Calls Tryz.prog 56 #[.agg #[l, .int .i64 x.n, .string x.text]] w fun r w' => r = .returned (.string (catB (wordBytes x))) ∧ Below w.heap.size w w' := by
  obtain ⟨A, c, rfl, hc1, hc2⟩ := hP.value
  unfold maxLen at hc2
  unfold wordLen at hl
  have HP := hidden (fun (w' : World) (hb : Below w.heap.size w w') => ref_join _ x.lead w' (Rd.mono (hP.keeps (Keeps.of_below hb)) (fun k hk => Nat.lt_of_lt_of_le hk hb.size)) (by omega))
  have hsz : (catB (pcBytes x.lead)).size = leadSum x.lead := by rw [catB_size, pcBytes_len]
  have h1 : (catB (pcBytes x.lead)).size + x.text.size ≤ 1000000000000 := by omega
  have HE : Hid (catB (wordBytes x) = catB (pcBytes x.lead) ++ x.text) := hidden (by unfold wordBytes; rw [catB_app])
  generalize catB (pcBytes x.lead) = s at *
  clear hP hsz
  go_enter Tryz.func56, Tryz.ntmps56
  go_wp2
  have z0 := Ext.cell (show (w.alloc (.cells #[.slice A x.lead.length c, .int .i64 x.n, .string x.text] 113)).cell? ⟨w.heap.size, 0, none⟩ = some (.slice A x.lead.length c) by go_simp)
  have z2 := Ext.cell (show (w.alloc (.cells #[.slice A x.lead.length c, .int .i64 x.n, .string x.text] 113)).cell? ⟨w.heap.size, 2, none⟩ = some (.string x.text) by go_simp)
  have HB : Hid (Below w.heap.size w (w.alloc (.cells #[.slice A x.lead.length c, .int .i64 x.n, .string x.text] 113))) := hidden (by repeat (first | (with_reducible exact Below.refl _ _) | (with_reducible assumption) | (with_reducible refine Below.drew ?_) | (with_reducible refine below_drewN ?_ _) | ((with_reducible refine below_alloc ?_ ?_); (focus (first | omega | (simp; done) | (simp; omega)))) | ((with_reducible refine below_set ?_ ?_); (focus (first | omega | (simp; done) | (simp; omega))))))
  refine wp_region_ext (by kernel_rfl) (by kernel_rfl) ?_
  repeat (go_big_quiet_step ((go_at_call 78; exact Ext.call ((HP.out _ (HB.out.trans (Ext.below _ |>.mono (by simp)))).mono fun _ _ h => ⟨h.1, h.2 ▸ Below.refl _ _⟩))))
  refine wpQuiet_nil ?_
  intro w2 hb2
  go_wp2
  go_ret
  exact ⟨by rw [HE.out]; rfl, HB.out.trans (hb2.mono (by simp))⟩

/-- The leaves, as words. -/
noncomputable def wordsTo (t : List Node) (k : Nat) : List Node := ((leavesOf t).take k).map (leafAt t)
noncomputable def wordsOf (t : List Node) : List Node := (leavesOf t).map (leafAt t)
theorem wordsTo_succ {t : List Node} {k i : Nat} (h : (leavesOf t)[k]? = some i) : wordsTo t (k + 1) = wordsTo t k ++ [leafAt t i] := by
  obtain ⟨hk, e⟩ := List.getElem?_eq_some_iff.1 h
  unfold wordsTo
  rw [List.take_succ_eq_append_getElem hk, e, List.map_append]
  rfl
theorem wordsTo_len {t : List Node} {k : Nat} (h : k ≤ (leavesOf t).length) : (wordsTo t k).length = k := by unfold wordsTo; rw [List.length_map, List.length_take]; omega
theorem wordsOf_at {t : List Node} {k i : Nat} (h : (leavesOf t)[k]? = some i) : (wordsOf t)[k]? = some (leafAt t i) := by unfold wordsOf; rw [List.getElem?_map, h]; rfl
theorem word_info : Hid (TyInfo Tryz.prog 113 (.agg #[.slice none 0 0, .int .i64 0, .string ⟨#[]⟩]) 3 48) :=
  hidden (info_parts (show (Tryz.prog.info? 113).map (fun i => (i.zero, i.size, i.bytes)) = some (some (.agg #[.slice none 0 0, .int .i64 0, .string ⟨#[]⟩]), 3, 48) by kernel_rfl))

/-- Words in a row of the call's own; their leads lie in T. -/
def WOwn (w : World) (B : Nat) (T : Nat → Prop) (v : Value) (ws : List Node) : Prop :=
  ∃ ls : List Value, ls.length = ws.length ∧ Mine w B 113 3 v ws.length (wordR.all ws ls) ∧ ∀ (i : Nat) (x : Node) (l : Value), ws[i]? = some x → ls[i]? = some l → Pcs w T l x.lead
theorem WOwn.below {w w' : World} {B : Nat} {T : Nat → Prop} {v : Value} {ws : List Node} (h : WOwn w B T v ws) (hb : Below w.heap.size w w') : WOwn w' B T v ws := by
  obtain ⟨ls, h1, h2, h3⟩ := h
  exact ⟨ls, h1, h2.below hb, fun i x l a b => (h3 i x l a b).keeps (Keeps.of_below hb)⟩
theorem WOwn.recs {w : World} {B : Nat} {T : Nat → Prop} {v : Value} {ws : List Node} (h : WOwn w B T v ws) (hT : ∀ k, T k → k < w.heap.size) : Recs wordR w (Old w) v ws := by
  obtain ⟨ls, h1, h2, h3⟩ := h
  exact ⟨ls, h1, h2.rd (fun g _ _ h => h), fun i x l a b => Rd.mono (h3 i x l a b) (fun k hk => hT k hk)⟩

theorem wordR_all_snoc (ws : List Node) (ls : List Value) (x : Node) (l : Value) (h : ls.length = ws.length) : wordR.all (ws ++ [x]) (ls ++ [l]) = wordR.all ws ls ++ [l, .int .i64 x.n, .string x.text] := by
  unfold Rec.all
  rw [List.zip_append (by omega), List.flatMap_append]
  rfl

set_option maxRecDepth 20000 in
set_option maxHeartbeats 4000000 in
theorem ref_words (v : Value) (t : List Node) (w : World) (h4 : t.length ≤ 1000000000) (hN : Nds w (Old w) v t) :
    Calls Tryz.prog 55 #[v] w fun r w' => (∃ u, r = .returned u ∧ Hid (WOwn w' w.heap.size (Old w) u (wordsOf t))) ∧ Below w.heap.size w w' := by
  have HN := hidden hN
  have HL := hidden (fun (w' : World) (hb : Below w.heap.size w w') => ref_leaves v t w' (by omega) (hN.old hb))
  have HW := word_info
  have HWE : Hid (wordsTo t (leavesOf t).length = wordsOf t) := hidden (by unfold wordsTo wordsOf; rw [List.take_length])
  have HLt := hidden (leavesOf_lt t)
  have hll : (leavesOf t).length ≤ t.length := leavesTo_len t t.length
  obtain ⟨A, c, rfl, hc1, hc2⟩ := hN.value
  unfold maxLen at hc2
  clear hN
  go_enter Tryz.func55, Tryz.ntmps55
  go_wp2_with fail
  refine (HL.out _ (by repeat (first | (with_reducible exact Below.refl _ _) | (with_reducible assumption) | (with_reducible refine Below.drew ?_) | (with_reducible refine below_drewN ?_ _) | ((with_reducible refine below_alloc ?_ ?_); (focus (first | omega | (simp; done) | (simp; omega)))) | ((with_reducible refine below_set ?_ ?_); (focus (first | omega | (simp; done) | (simp; omega))))))).mono ?_
  rintro r w2 ⟨⟨u, rfl, HM⟩, hb2⟩
  obtain ⟨A2, c2, rfl⟩ := HM.out.value
  have hz2 := hb2.size
  have HR : Hid (Rd w2 (fun k => w.heap.size + 1 ≤ k ∧ k < w2.heap.size) 1 (.slice A2 (leavesOf t).length c2) (leavesOf t).length (ints (leavesOf t))) := hidden (HM.out.rd (fun g _ h1 h2 => ⟨by simpa using h1, h2⟩))
  have hb : Below w.heap.size w w2 := Below.trans (B := w.heap.size) (a := w) (by repeat (first | (with_reducible exact Below.refl _ _) | (with_reducible assumption) | (with_reducible refine Below.drew ?_) | (with_reducible refine below_drewN ?_ _) | ((with_reducible refine below_alloc ?_ ?_); (focus (first | omega | (simp; done) | (simp; omega)))) | ((with_reducible refine below_set ?_ ?_); (focus (first | omega | (simp; done) | (simp; omega)))))) (hb2.mono (by simp))
  simp at hz2
  clear HM hb2 HL
  go_wp2
  go_loopw [3, 5] (fun o i wr => ∃ k : Nat, k ≤ (leavesOf t).length ∧ i = .int .i64 k ∧ Hid (WOwn wr w.heap.size (Old w) o (wordsTo t k)) ∧ Hid (∀ g, o.ownBlock = some g → g = w.heap.size ∨ w2.heap.size ≤ g) ∧
      Hid (Rd wr (fun k => w.heap.size + 1 ≤ k ∧ k < w2.heap.size) 1 (.slice A2 (leavesOf t).length c2) (leavesOf t).length (ints (leavesOf t))) ∧ Below w.heap.size w wr ∧ w2.heap.size ≤ wr.heap.size) (fun _ i _ => (leavesOf t).length - (intOf i).toNat)
  case atStart => exact ⟨0, by omega, rfl, hidden ⟨[], rfl, .inr ⟨rfl, rfl, _, rfl⟩, fun i x l a _ => by simp [wordsTo] at a⟩, hidden (fun g hg => by cases hg; exact .inl rfl), HR, hb, Nat.le_refl _⟩
  case round =>
    clear HR hb
    obtain ⟨k, hk, rfl, HM, HG, HR, hb, hz⟩ := hrel
    have hbz := hb.size
    by_cases hlt : k < (leavesOf t).length
    · have hi := List.getElem?_eq_getElem hlt
      have HS := hidden (wordsTo_succ hi)
      have hit := HLt.out _ (List.mem_of_getElem? hi)
      have hwl := wordsTo_len (t := t) hk
      obtain ⟨b2, o2, rfl, _, z0⟩ := HR.out.ints_at hi
      generalize (leavesOf t)[k] = i at *
      have hx := List.getElem?_eq_getElem hit
      obtain ⟨b, off, c', hv, _, _, hTb, hat⟩ := (HN.out.below hb old_lt).open_ (by intro e; rw [e] at hit; simp at hit)
      simp only [Value.slice.injEq] at hv
      obtain ⟨rfl, _, rfl⟩ := hv
      obtain ⟨lv, x0, x1, x2, x3, x4, hpc⟩ := hat i _ hx
      rw [leafAt_of hx] at HS
      generalize t[i] = x at *
      obtain ⟨A3, c3, rfl, d1, d2⟩ := hpc.value
      unfold maxLen at d2
      have HPc := hidden hpc
      clear hi hat hx hpc
      obtain ⟨ls, hls, hM, hps⟩ := HM.out
      have HB := hidden hb
      have hnew : Below wr.heap.size wr ((wr.alloc (.cells #[.int .i64 x.kind, .int .i64 x.n, .int .i64 x.size, .slice A3 x.lead.length c3, .string x.text] 31)).alloc (.cells #[.slice A3 x.lead.length c3, .int .i64 x.n, .string x.text] 113)) := ((Below.refl _ _).alloc (Nat.le_refl _) _).alloc (by simp) _
      have HMa : Hid (Mine ((wr.alloc (.cells #[.int .i64 x.kind, .int .i64 x.n, .int .i64 x.size, .slice A3 x.lead.length c3, .string x.text] 31)).alloc (.cells #[.slice A3 x.lead.length c3, .int .i64 x.n, .string x.text] 113)) w.heap.size 113 3 u3 (wordsTo t k).length (wordR.all (wordsTo t k) ls)) := hidden (hM.below hnew)
      have HX : Hid (Rd ((wr.alloc (.cells #[.int .i64 x.kind, .int .i64 x.n, .int .i64 x.size, .slice A3 x.lead.length c3, .string x.text] 31)).alloc (.cells #[.slice A3 x.lead.length c3, .int .i64 x.n, .string x.text] 113)) (fun _ => True) 3 (.slice (some ⟨wr.heap.size + 1, 0, none⟩) 1 1) 1 [.slice A3 x.lead.length c3, .int .i64 x.n, .string x.text]) :=
        hidden (Rd.fresh (cs := [.slice A3 x.lead.length c3, .int .i64 x.n, .string x.text]) (n := 1) (size := 3) rfl (Nat.le_refl _) (by decide) trivial (by simp))
      have H1 : Hid (∀ u ∈ [Value.slice A3 x.lead.length c3, .int .i64 x.n, .string x.text], u.oneCell' = true) := hidden (wordR.one x _ rfl)
      have hbn : w.heap.size ≤ ((wr.alloc (.cells #[.int .i64 x.kind, .int .i64 x.n, .int .i64 x.size, .slice A3 x.lead.length c3, .string x.text] 31)).alloc (.cells #[.slice A3 x.lead.length c3, .int .i64 x.n, .string x.text] 113)).heap.size := by simp; omega
      have HFin : Hid (∀ v' w', Appended ((wr.alloc (.cells #[.int .i64 x.kind, .int .i64 x.n, .int .i64 x.size, .slice A3 x.lead.length c3, .string x.text] 31)).alloc (.cells #[.slice A3 x.lead.length c3, .int .i64 x.n, .string x.text] 113)) w.heap.size 113 3 u3 ((wordsTo t k).length + 1) (wordR.all (wordsTo t k) ls ++ [.slice A3 x.lead.length c3, .int .i64 x.n, .string x.text]) v' w' →
          Hid (WOwn w' w.heap.size (Old w) v' (wordsTo t (k + 1))) ∧ Hid (∀ g, v'.ownBlock = some g → g = w.heap.size ∨ w2.heap.size ≤ g) ∧ Hid (Rd w' (fun k => w.heap.size + 1 ≤ k ∧ k < w2.heap.size) 1 (.slice (some ⟨b2, o2, none⟩) (leavesOf t).length c2) (leavesOf t).length (ints (leavesOf t))) ∧ Below w.heap.size w w' ∧ w2.heap.size ≤ w'.heap.size) := hidden (fun v' w' hA => by
        have hs := hA.keeps.size
        simp at hs
        have hkn : ∀ j, j < w2.heap.size → j ≠ w.heap.size → u3.ownBlock ≠ some j := fun j hj hne e => by have := HG.out j e; omega
        have hkk : Keeps (fun j => j < w2.heap.size ∧ j ≠ w.heap.size) wr w' := (Keeps.of_below hnew).trans (hA.keeps.mono (fun j hj => hkn j hj.1 hj.2))
        refine ⟨hidden ⟨ls ++ [.slice A3 x.lead.length c3], ?_, ?_, fun i y l a b => ?_⟩, hidden (fun g hg => ?_), hidden (Rd.keeps HR.out (hkk.mono (fun j hj => ⟨hj.2, by omega⟩))), (HB.out.trans (hnew.mono HB.out.size)).trans hA.below, by omega⟩
        · rw [HS.out]; simp [hls]
        · rw [HS.out, List.length_append, wordR_all_snoc _ _ _ _ hls]
          exact hA.mine
        · rw [HS.out] at a
          rcases Nat.lt_or_ge i (wordsTo t k).length with h | h
          · rw [List.getElem?_append_left h] at a
            rw [List.getElem?_append_left (by omega)] at b
            exact (hps i y l a b).keeps (hkk.mono (fun j hj => by have : j < w.heap.size := hj; exact ⟨by omega, by omega⟩))
          · rw [List.getElem?_append_right h] at a
            rw [List.getElem?_append_right (by omega), hls] at b
            obtain ⟨hi0, rfl⟩ : i - (wordsTo t k).length = 0 ∧ x = y := by
              have := (List.getElem?_eq_some_iff.1 a).1
              simp at this
              rw [this] at a
              simp at a
              exact ⟨this, a⟩
            rw [hi0] at b
            simp at b
            subst b
            exact HPc.out.keeps (hkk.mono (fun j hj => by have : j < w.heap.size := hj; exact ⟨by omega, by omega⟩))
        · rcases hA.at_ with e | ⟨g', e, h1, _⟩
          · rw [e] at hg; exact HG.out g hg
          · rw [e] at hg; cases hg
            simp at h1
            exact .inr (by omega))
      clear hM hps HR HPc HM hb hnew HS HG HB
      have h5 : ((wordsTo t k).length + 1) * 48 ≤ 140737488355328 := by omega
      go_wp2_with (at_builtin; refine wpList_append_all rfl _ _ 109 113 rfl (by kernel_rfl) HW rfl (by decide) w.heap.size _ _ _ HMa _ _ _ HX H1 rfl rfl h5 (by decide) hbn ?_; intro v' w' hA)
      obtain ⟨q1, q2, q3, q4, q5⟩ := HFin.out v' w' hA.out
      clear HFin hA HMa HX H1 hbn
      go_roundw
      case rel => exact ⟨k + 1, by omega, by go_num, q1, q2, q3, q4, q5⟩
      case measure => simp [intOf]; omega
    · obtain rfl : k = (leavesOf t).length := by omega
      rw [HWE.out] at HM
      go_wp2
      go_ret
      exact ⟨⟨_, rfl, HM⟩, hb⟩
end Go.Proofs.YtdbbjlphlbndkaaGreat.T

namespace Go.Proofs.YtdbbjlphlbndkaaGreat.T
open Go.RowKit Go.Shelf

theorem wordsOf_len (t : List Node) : (wordsOf t).length = (leavesOf t).length := by unfold wordsOf; rw [List.length_map]
theorem nodeY_at {t : List Node} {k : Nat} (h : k < (leavesOf t).length) : (wordsOf t)[k]? = some (leafAt t (nodeY t k)) ∧ nodeY t k < t.length ∧ fromY t (leavesOf t) (k + 1) = fromY t (leavesOf t) k + wordLen (leafAt t (nodeY t k)) ∧ fromY t (leavesOf t) (k + 1) ≤ bulkT t ∧ (leavesOf t)[k]? = some (nodeY t k) := by
  have hi := List.getElem?_eq_getElem h
  have e := nodeY_of hi
  rw [← e] at hi
  exact ⟨wordsOf_at hi, leavesOf_lt t _ (List.mem_of_getElem? hi), fromY_succ hi, fromY_le t h, hi⟩
theorem textL_range_len (t : List Node) : ∀ k, k ≤ (leavesOf t).length → (textL t (List.range k)).length = fromY t (leavesOf t) k := by
  intro k
  induction k with
  | zero => intro _; rfl
  | succ k ih =>
    intro h
    rw [List.range_succ, textL_snoc, List.length_append, wordBytes_len, ih (by omega), (nodeY_at (by omega)).2.2.1]

/-- A word of words that are read. -/
theorem word_cells {w : World} {T : Nat → Prop} {A : Option Addr} {n c : Nat} {t : List Node} (h : Recs wordR w T (.slice A n c) (wordsOf t)) {k : Nat} (hk : k < (leavesOf t).length) :
    ∃ b off l, A = some ⟨b, off, none⟩ ∧ w.cell? ⟨b, off + k * 3, none⟩ = some l ∧ w.cell? ⟨b, off + k * 3 + 1, none⟩ = some (.int .i64 (leafAt t (nodeY t k)).n) ∧ w.cell? ⟨b, off + k * 3 + 2, none⟩ = some (.string (leafAt t (nodeY t k)).text) ∧ Pcs w T l (leafAt t (nodeY t k)).lead ∧ T b := by
  obtain ⟨b, off, l, rfl, hT, hc, hP⟩ := h.at_ (nodeY_at hk).1
  exact ⟨b, off, l, rfl, hc 0 _ rfl, hc 1 _ rfl, hc 2 _ rfl, hP, hT⟩

set_option maxRecDepth 20000 in
set_option maxHeartbeats 4000000 in
theorem ref_text (v : Value) (t : List Node) (w : World) (h4 : bulkT t ≤ 1000000000) (hN : Nds w (Old w) v t) :
    Calls Tryz.prog 30 #[v] w fun r w' => r = .returned (.string (catB (textOf t))) ∧ Below w.heap.size w w' := by
  have h5 := bulk_len t
  have HW := hidden (ref_words v t w (by omega) hN)
  have hll : (leavesOf t).length ≤ t.length := leavesTo_len t t.length
  have HLen := hidden (fun k (h : k ≤ (leavesOf t).length) => textL_range_len t k h)
  have HNY := hidden (fun k (h : k < (leavesOf t).length) => nodeY_at (t := t) h)
  have HB := hidden (fun k (h : k < t.length) => bulk_at (List.getElem?_eq_getElem h))
  obtain ⟨A, c, rfl, hc1, hc2⟩ := hN.value
  unfold maxLen at hc2
  clear hN
  go_enter Tryz.func30, Tryz.ntmps30
  go_wp2_with fail
  refine HW.out.mono ?_
  rintro r w2 ⟨⟨u, rfl, HO⟩, hb⟩
  have HR := hidden (HO.out.recs (fun k (hk : k < w.heap.size) => Nat.lt_of_lt_of_le hk hb.size))
  obtain ⟨A2, c2, rfl, hd1, hd2⟩ := HR.out.value
  rw [wordsOf_len] at *
  unfold maxLen at hd2
  have hz := hb.size
  clear HO HW
  go_wp2
  go_loopw [3, 5] (fun s i wr => ∃ k : Nat, k ≤ (leavesOf t).length ∧ i = .int .i64 k ∧ s = .string (catB (textL t (List.range k))) ∧ Hid (Recs wordR wr (Old w2) (.slice A2 (leavesOf t).length c2) (wordsOf t)) ∧ Below w.heap.size w wr ∧ w2.heap.size ≤ wr.heap.size) (fun _ i _ => (leavesOf t).length - (intOf i).toNat)
  case atStart => exact ⟨0, by omega, rfl, rfl, HR, hb, Nat.le_refl _⟩
  case round =>
    clear HR hb
    obtain ⟨k, hk, rfl, rfl, HR, hb, hzr⟩ := hrel
    have hbz := hb.size
    by_cases hlt : k < (leavesOf t).length
    · obtain ⟨b, off, l, rfl, z0, z1, z2, hP, hTb⟩ := word_cells HR.out hlt
      obtain ⟨n1, n2, n3, n4, n5⟩ := HNY.out k hlt
      have hx : (catB (textL t (List.range k))).size = fromY t (leavesOf t) k := by rw [catB_size]; exact HLen.out k hk
      have HTx : Hid (catB (textL t (List.range (k + 1))) = catB (textL t (List.range k)) ++ catB (wordBytes (leafAt t (nodeY t k)))) := hidden (by rw [List.range_succ, textL_snoc, catB_cat])
      have hwl : (catB (wordBytes (leafAt t (nodeY t k)))).size = wordLen (leafAt t (nodeY t k)) := by rw [catB_size, wordBytes_len]
      have HBy := hidden (ref_bytes (leafAt t (nodeY t k)) l wr (Rd.mono hP (fun j hj => Nat.lt_of_lt_of_le (show j < w2.heap.size from hj) hzr)) (by omega))
      obtain ⟨A3, c3, rfl, _, _⟩ := hP.value
      have HRb := hidden (fun w' (h : Below wr.heap.size wr w') => HR.out.keeps (Keeps.of_below h))
      have hq : (catB (textL t (List.range k))).size + (catB (wordBytes (leafAt t (nodeY t k)))).size ≤ 1000000000000 := by omega
      clear n1 n5 hP HR hwl hx
      generalize catB (textL t (List.range k)) = s at *
      generalize catB (wordBytes (leafAt t (nodeY t k))) = s2 at *
      generalize leafAt t (nodeY t k) = x at *
      go_wp2_with fail
      refine HBy.out.mono ?_
      rintro r w3 ⟨rfl, hb3⟩
      have HR3 := hidden (HRb.out _ hb3)
      replace hb := hb.trans (hb3.mono hbz)
      have hz3 := hb3.size
      clear hb3 HRb HBy z0 z1 z2
      go_wp2
      go_roundw
      case rel => exact ⟨k + 1, by omega, by go_num, by rw [HTx.out], HR3, hb, by omega⟩
      case measure => simp [intOf]; omega
    · obtain rfl : k = (leavesOf t).length := by omega
      go_wp2
      go_ret
      exact ⟨rfl, hb⟩

end Go.Proofs.YtdbbjlphlbndkaaGreat.T

namespace Go.Proofs.YtdbbjlphlbndkaaGreat.T
open Go.RowKit Go.Shelf
attribute [local go_sem] Oper.semAt_some
attribute [local simp] wide_fn

theorem spanP_none (t : List Node) (i z : Nat) : ∀ k, (spanP t i z (List.range k)).2.2 = true → ∃ j, j < k ∧ i ≤ nodeY t j := by
  intro k
  induction k with
  | zero => intro h; cases h
  | succ k ih =>
    intro h
    rw [List.range_succ, spanP_snoc] at h
    unfold stepP at h
    split at h
    · obtain ⟨j, h1, h2⟩ := ih h; exact ⟨j, by omega, h2⟩
    · split at h
      · obtain ⟨j, h1, h2⟩ := ih h; exact ⟨j, by omega, h2⟩
      · exact ⟨k, by omega, by omega⟩

theorem ownY_of (t : List Node) (k : Nat) : ((ownY t k : Nat) : Int) = (fromY t (leavesOf t) k : Nat) + (wordLen (leafAt t (nodeY t k)) : Nat) - ((leafAt t (nodeY t k)).text.size : Nat) := by
  unfold ownY wordLen; omega

set_option maxRecDepth 20000 in
set_option maxHeartbeats 8000000 in
theorem ref_span_yes (v : Value) (t : List Node) (I : Nat) (w : World) (h4 : bulkT t ≤ 1000000000) (hN : Nds w (Old w) v t) (hp : placeB t I = true) :
    Calls Tryz.prog 31 #[v, .int .i64 I] w fun r w' => r = .returned (.tuple #[.agg #[.int .i64 (spanOf t I).1, .int .i64 (spanOf t I).2.1], .bool true]) ∧ Below w.heap.size w w' := by
  have h5 := bulk_len t
  have HR0 := hidden (fun (w' : World) (hb : Below w.heap.size w w') => ref_right v t w' (by omega) (hN.old hb))
  rw [treeB_of_place hp] at HR0
  have HS : Hid (spanOf t I = ((spanP t I (sz t I) (List.range (leavesOf t).length)).1, (spanP t I (sz t I) (List.range (leavesOf t).length)).2.1, true)) := hidden (by unfold spanOf; rw [hp]; rfl)
  generalize spanOf t I = so at *
  have HL := hidden (fun (w' : World) (hb : Below w.heap.size w w') => ref_leaves v t w' (by omega) (hN.old hb))
  have HW := hidden (fun (w' : World) (hb : Below w.heap.size w w') => ref_words v t w' (by omega) (hN.old hb))
  have hll : (leavesOf t).length ≤ t.length := leavesTo_len t t.length
  have HNY := hidden (fun k (h : k < (leavesOf t).length) => nodeY_at (t := t) h)
  have HN := hidden hN
  obtain ⟨p1, p2, p3⟩ := placeB_iff.1 hp
  have HT := hidden p3
  have hI : I < t.length := by omega
  obtain ⟨b, off, c, rfl, hc1, hc2, hTb, _⟩ := hN.open_ (by intro e; subst e; simp at hI)
  unfold maxLen at hc2
  obtain ⟨q1, q2, _⟩ := tree_node HT.out hI
  have q3 : decide ((I : Int) < 0) = false := decide_eq_false (by omega)
  have q4 : decide (t.length ≤ I) = false := decide_eq_false (by omega)
  clear hN p1 p2 p3 hp
  refine (callsIn_wide (n := 5)).1 ?_
  refine callsIn_of_wp Tryz.func31 rfl trivial ?_ rfl
  simp only [Tryz.ntmps31, List.size_toArray, List.length_cons, List.length_nil, Nat.reduceAdd, Nat.reduceSub, Array.replicate_succ, Array.replicate_zero, List.push_toArray, List.append_toArray, List.nil_append, List.cons_append]
  gi_wp2_with fail
  refine CallsIn.mono (F := Fence.wide) (callsIn_wide.2 (HR0.out _ (by repeat (first | (with_reducible exact Below.refl _ _) | (with_reducible assumption) | (with_reducible refine Below.drew ?_) | (with_reducible refine below_drewN ?_ _) | ((with_reducible refine below_alloc ?_ ?_); (focus (first | omega | (simp; done) | (simp; omega)))) | ((with_reducible refine below_set ?_ ?_); (focus (first | omega | (simp; done) | (simp; omega)))))))) ?_
  rintro e w1 ⟨rfl, hb1⟩
  have g0 := Holds.below (g := w.heap.size) (t := 60) (cs := #[.int .i64 0, .int .i64 0]) (by repeat (first | (with_reducible assumption) | ((with_reducible refine holds_new ?_); (focus (first | rfl | (simp; done)))) | (with_reducible refine Holds.alloc ?_ _) | (with_reducible refine Holds.drew ?_))) hb1 (by simp)
  have hb := Below.trans (B := w.heap.size) (a := w) (by repeat (first | (with_reducible exact Below.refl _ _) | (with_reducible assumption) | (with_reducible refine Below.drew ?_) | (with_reducible refine below_drewN ?_ _) | ((with_reducible refine below_alloc ?_ ?_); (focus (first | omega | (simp; done) | (simp; omega)))) | ((with_reducible refine below_set ?_ ?_); (focus (first | omega | (simp; done) | (simp; omega)))))) (hb1.mono (by simp))
  clear hb1 HR0
  gi_wp2_with fail
  refine CallsIn.mono (F := Fence.wide) (callsIn_wide.2 (HL.out _ hb)) ?_
  rintro e w2 ⟨⟨u1, rfl, HM⟩, hb2⟩
  obtain ⟨A1, c1, rfl⟩ := HM.out.value
  have HRL := HM.out.rd (T := Old w2) (fun _ _ _ h => h)
  obtain ⟨A1', c1', hvv, hl1, hl2⟩ := HRL.valR
  simp only [Value.slice.injEq] at hvv
  obtain ⟨rfl, _, rfl⟩ := hvv
  unfold maxLen at hl2
  replace g0 := g0.below hb2 g0.lt
  replace hb := hb.trans (hb2.mono hb.size)
  gi_wp2_with fail
  refine CallsIn.mono (F := Fence.wide) (callsIn_wide.2 (HW.out _ hb)) ?_
  rintro e w3 ⟨⟨u, rfl, HO⟩, hb3⟩
  have HR := hidden (HO.out.recs (fun k (hk : k < w2.heap.size) => Nat.lt_of_lt_of_le hk hb3.size))
  have HI := hidden ((Rd.keeps HRL (Keeps.of_below hb3)).mono (T' := Old w3) (fun k (hk : k < w2.heap.size) => Nat.lt_of_lt_of_le hk hb3.size))
  obtain ⟨A2, c2, rfl, hd1, hd2⟩ := HR.out.value
  rw [wordsOf_len] at *
  unfold maxLen at hd2
  replace g0 := g0.below hb3 g0.lt
  replace hb := hb.trans (hb3.mono hb.size)
  have HG0 := hidden g0
  have HB3 := hidden hb
  have hz := g0.lt
  have HSz := hidden ((HN.out.below hb old_lt).size_cell HT.out hI)
  clear HO HW HL HM HRL hb2 hb3 g0
  gi_wp2
  gi_loopw [8, 10, 11] (fun at_ is kk wr => ∃ (k : Nat), k ≤ (leavesOf t).length ∧ kk = .int .i64 k ∧ at_ = .int .i64 (fromY t (leavesOf t) k : Nat) ∧ is = .bool (spanP t I (sz t I) (List.range k)).2.2 ∧
      Holds wr w3.heap.size 60 #[.int .i64 ((spanP t I (sz t I) (List.range k)).1 : Nat), .int .i64 ((spanP t I (sz t I) (List.range k)).2.1 : Nat)] ∧ Hid (Keeps (fun j => j < w3.heap.size) w3 wr) ∧ Below w.heap.size w wr) (fun _ _ kk _ => (leavesOf t).length - (intOf kk).toNat)
  case atStart => exact ⟨0, by omega, rfl, rfl, rfl, Holds.of_eq (cs := #[.int .i64 0, .int .i64 0]) (by repeat (first | (with_reducible assumption) | ((with_reducible refine holds_new ?_); (focus (first | rfl | (simp; done)))) | (with_reducible refine Holds.alloc ?_ _) | (with_reducible refine Holds.drew ?_))) rfl, hidden ((Keeps.refl _ _).alloc _), (by repeat (first | (with_reducible exact Below.refl _ _) | (with_reducible assumption) | (with_reducible refine Below.drew ?_) | (with_reducible refine below_drewN ?_ _) | ((with_reducible refine below_alloc ?_ ?_); (focus (first | omega | (simp; done) | (simp; omega)))) | ((with_reducible refine below_set ?_ ?_); (focus (first | omega | (simp; done) | (simp; omega))))))⟩
  case round =>
    clear hb
    obtain ⟨k, hk, rfl, rfl, rfl, m9, HK, hb⟩ := hrel
    have hbz := hb.size
    by_cases hlt : k < (leavesOf t).length
    · have HAt : Hid (∃ (b2 o2 b1 o1 : Nat) (l : Value), A2 = some ⟨b2, o2, none⟩ ∧ A1 = some ⟨b1, o1, none⟩ ∧ (∃ a' c', l = .slice a' (leafAt t (nodeY t k)).lead.length c') ∧ b2 < w3.heap.size ∧ b1 < w3.heap.size ∧ ∀ W, Keeps (fun j => j < w3.heap.size) w3 W →
          W.cell? ⟨b1, o1 + k, none⟩ = some (.int .i64 (nodeY t k : Nat)) ∧ W.cell? ⟨b2, o2 + k * 3, none⟩ = some l ∧ W.cell? ⟨b2, o2 + k * 3 + 1, none⟩ = some (.int .i64 (leafAt t (nodeY t k)).n) ∧ W.cell? ⟨b2, o2 + k * 3 + 2, none⟩ = some (.string (leafAt t (nodeY t k)).text) ∧
          W.cell? ⟨b, off + I * 5 + 2, none⟩ = some (.int .i64 (sz t I)) ∧ Calls Tryz.prog 56 #[.agg #[l, .int .i64 (leafAt t (nodeY t k)).n, .string (leafAt t (nodeY t k)).text]] W fun r w' => r = .returned (.string (catB (wordBytes (leafAt t (nodeY t k))))) ∧ Below W.heap.size W w') := hidden (by
        obtain ⟨b2, o2, l, e2, z0, z1, z2, hP, hTb2⟩ := word_cells HR.out hlt
        obtain ⟨n1, n2, n3, n4, n5⟩ := HNY.out k hlt
        obtain ⟨b1, o1, e1, hTb1, y0⟩ := HI.out.ints_at n5
        obtain ⟨a', c', hl', _⟩ := hP.value
        refine ⟨b2, o2, b1, o1, l, e2, e1, ⟨a', c', hl'⟩, hTb2, hTb1, fun W hW => ⟨hW.cell (a := ⟨b1, _, none⟩) hTb1 y0, hW.cell (a := ⟨b2, _, none⟩) hTb2 z0, hW.cell (a := ⟨b2, _, none⟩) hTb2 z1, hW.cell (a := ⟨b2, _, none⟩) hTb2 z2, hW.cell (a := ⟨b, _, none⟩) (by have := HB3.out.size; have : b < w.heap.size := hTb; show b < _; omega) HSz.out, ?_⟩⟩
        exact ref_bytes _ l W (Rd.mono (Rd.keeps hP hW) (fun j hj => Nat.lt_of_lt_of_le (show j < w3.heap.size from hj) hW.size)) (by omega))
      obtain ⟨b2, o2, b1, o1, l, rfl, rfl, ⟨a', c', rfl⟩, hlt2, hlt1, hAt⟩ := HAt.out
      have HA := hidden hAt
      obtain ⟨n1, n2, n3, n4, n5⟩ := HNY.out k hlt
      have HSn : Hid (spanP t I (sz t I) (List.range (k + 1)) = stepP t I (sz t I) (spanP t I (sz t I) (List.range k)) k) := hidden (by rw [List.range_succ, spanP_snoc])
      have HNo : Hid ((spanP t I (sz t I) (List.range k)).2.2 = true → I ≤ nodeY t k) := hidden (fun h => by
        obtain ⟨j, j1, j2⟩ := spanP_none t I (sz t I) k h
        have := nodeY_mono (t := t) j1 hlt
        omega)
      have hwl : (catB (wordBytes (leafAt t (nodeY t k)))).size = wordLen (leafAt t (nodeY t k)) := by rw [catB_size, wordBytes_len]
      have how := ownY_of t k
      have hwt : (leafAt t (nodeY t k)).text.size ≤ wordLen (leafAt t (nodeY t k)) := by unfold wordLen; omega
      rw [← hwl] at n3 how hwt
      have HF1 : Hid (((fromY t (leavesOf t) (k + 1) : Nat) : Int) = (fromY t (leavesOf t) k : Nat) + ((catB (wordBytes (leafAt t (nodeY t k)))).size : Nat)) := hidden (by omega)
      have HOw := hidden how
      have HSt : Hid (stepP t I (sz t I) (spanP t I (sz t I) (List.range k)) k = if I + sz t I ≤ nodeY t k then spanP t I (sz t I) (List.range k) else if nodeY t k < I then (fromY t (leavesOf t) (k + 1), fromY t (leavesOf t) (k + 1), (spanP t I (sz t I) (List.range k)).2.2) else (if (spanP t I (sz t I) (List.range k)).2.2 then (spanP t I (sz t I) (List.range k)).1 else ownY t k, fromY t (leavesOf t) (k + 1), true)) := hidden rfl
      have hq2 : fromY t (leavesOf t) k + (catB (wordBytes (leafAt t (nodeY t k)))).size ≤ 1000000000000 := by omega
      clear hAt HAt n1 n4 n5 hwl how n3
      --BODY
      generalize hs2 : stepP t I (sz t I) (spanP t I (sz t I) (List.range k)) k = sn at HSn HSt
      clear hs2
      generalize spanP t I (sz t I) (List.range k) = s1 at *
      obtain ⟨sa, sb, sm⟩ := s1
      generalize catB (wordBytes (leafAt t (nodeY t k))) = sB at *
      generalize leafAt t (nodeY t k) = x at *
      generalize ownY t k = ow at *
      generalize nodeY t k = nd at *
      generalize fromY t (leavesOf t) k = f0 at *
      generalize sz t I = z at *
      dsimp only at m9 HNo HSt
      by_cases e1 : I + z ≤ nd
      · have d1 : decide (I ≤ nd) = true := decide_eq_true (by omega)
        have d2 : decide (nd < I + z) = false := decide_eq_false (by omega)
        have d3 : decide (nd < I) = false := decide_eq_false (by omega)
        have d4 : decide ((I : Int) ≤ nd) = true := decide_eq_true (by omega)
        have d5 : decide ((nd : Int) < I + z) = false := decide_eq_false (by omega)
        have hs : Hid (sn = (sa, sb, sm)) := hidden (by rw [HSt.out, if_pos e1])
        obtain ⟨y0, z0, z1, z2, y9, hby⟩ := HA.out wr HK.out
        have HBy := hidden hby
        clear hby
        have ya := Ext.cell y0; have yb := Ext.cell y9
        gi_wp2
        refine wpIn_region_ext (by kernel_rfl) (by kernel_rfl) rfl ?_
        repeat (gi_big_quiet_step (fail))
        refine wpQuietIn_nil ?_
        intro w4 hb4
        clear ya yb
        replace m9 := m9.below hb4 m9.lt
        replace HK := hidden (HK.out.below hb4)
        replace hb := hb.trans (hb4.mono hb.size)
        clear y0 z0 z1 z2 y9 HBy
        clear hb4
        obtain ⟨y0, z0, z1, z2, y9, hby⟩ := HA.out w4 HK.out
        have HBy := hidden hby
        clear hby
        gi_wp2_with fail
        refine CallsIn.mono (F := Fence.wide) (callsIn_wide.2 HBy.out) ?_
        rintro e w5 ⟨rfl, hb5⟩
        replace m9 := m9.below hb5 m9.lt
        replace HK := hidden (HK.out.below hb5)
        replace hb := hb.trans (hb5.mono hb.size)
        clear y0 z0 z1 z2 y9 HBy
        clear hb5
        gi_wp2
        go_roundw
        case rel => exact ⟨k + 1, by omega, by go_num, by rw [HF1.out], by rw [HSn.out, hs.out], by rw [HSn.out, hs.out]; exact m9, HK, hb⟩
        case measure => simp [intOf]; omega
      · by_cases e2 : nd < I
        · have hsm : sm = false := by
            cases sm with
            | false => rfl
            | true => have := HNo.out rfl; omega
          subst hsm
          have d1 : decide (I ≤ nd) = false := decide_eq_false (by omega)
          have d3 : decide (nd < I) = true := decide_eq_true (by omega)
          have d4 : decide ((I : Int) ≤ nd) = false := decide_eq_false (by omega)
          have hs : Hid (sn = (fromY t (leavesOf t) (k + 1), fromY t (leavesOf t) (k + 1), false)) := hidden (by rw [HSt.out, if_neg e1, if_pos e2])
          obtain ⟨y0, z0, z1, z2, y9, hby⟩ := HA.out wr HK.out
          have HBy := hidden hby
          clear hby
          have ya := Ext.cell y0; have yb := Ext.cell y9
          gi_wp2
          refine wpIn_region_ext (by kernel_rfl) (by kernel_rfl) rfl ?_
          repeat (gi_big_quiet_step (fail))
          refine wpQuietIn_nil ?_
          intro w4 hb4
          clear ya yb
          replace m9 := m9.below hb4 m9.lt
          replace HK := hidden (HK.out.below hb4)
          replace hb := hb.trans (hb4.mono hb.size)
          clear y0 z0 z1 z2 y9 HBy
          clear hb4
          obtain ⟨y0, z0, z1, z2, y9, hby⟩ := HA.out w4 HK.out
          have HBy := hidden hby
          clear hby
          have HA4 := hidden (fun W (h : Below w4.heap.size w4 W) => HA.out W (HK.out.below h))
          have ya := Ext.cell z0; have yb := Ext.cell z1; have yc := Ext.cell z2
          gi_wp2
          refine wpIn_region_ext_tail 17 (by kernel_rfl) (by kernel_rfl) rfl ?_
          simp only [List.take_succ_cons, List.take_zero, List.drop_succ_cons, List.drop_zero]
          repeat (gi_big_quiet_step ((gi_at_call 56; exact Ext.callIn (callsIn_wide.2 (HA4.out _ (Ext.below _)).2.2.2.2.2))))
          refine wpQuietIn_nil ?_
          intro w5 hb5
          clear ya yb yc HA4
          replace m9 := m9.below hb5 m9.lt
          replace HK := hidden (HK.out.below hb5)
          replace hb := hb.trans (hb5.mono hb.size)
          clear y0 z0 z1 z2 y9 HBy
          clear hb5
          have k0 : w5.cell? ⟨w3.heap.size, 0, none⟩ = some (.int .i64 sa) := m9.cell 0
          have k1 : w5.cell? ⟨w3.heap.size, 1, none⟩ = some (.int .i64 sb) := m9.cell 1
          have fz0 := m9.frozen 0; have fz1 := m9.frozen 1; have lz := m9.lt
          obtain ⟨y0, z0, z1, z2, y9, hby⟩ := HA.out w5 HK.out
          have HBy := hidden hby
          clear hby
          gi_wp2_with fail
          have m6 := (m9.set 0 (.int .i64 ((f0 : Int) + sB.size))).set 1 (.int .i64 ((f0 : Int) + sB.size))
          have HK6 := hidden (keeps_set (b := w3.heap.size) (i := 1) (s := none) (u := .int .i64 ((f0 : Int) + sB.size)) (by omega) (keeps_set (b := w3.heap.size) (i := 0) (s := none) (u := .int .i64 ((f0 : Int) + sB.size)) (by omega) HK.out))
          have hb6 := below_set (b := w3.heap.size) (i := 1) (s := none) (u := .int .i64 ((f0 : Int) + sB.size)) (by omega) (below_set (b := w3.heap.size) (i := 0) (s := none) (u := .int .i64 ((f0 : Int) + sB.size)) (by omega) hb)
          clear y0 z0 z1 z2 y9 HBy k0 k1 fz0 fz1 lz m9 HK hb
          refine CallsIn.mono (F := Fence.wide) (callsIn_wide.2 (HA.out _ HK6.out).2.2.2.2.2) ?_
          rintro e w6 ⟨rfl, hb7⟩
          have m7 := m6.below hb7 m6.lt
          have HK7 := hidden (HK6.out.below hb7)
          have hb8 := hb6.trans (hb7.mono hb6.size)
          clear m6 HK6 hb6 hb7
          gi_wp2
          go_roundw
          case rel => exact ⟨k + 1, by omega, by go_num, by rw [HF1.out], by rw [HSn.out, hs.out], by rw [HSn.out, hs.out]; exact m7.of_eq (by dsimp only; rw [HF1.out]; rfl), HK7, hb8⟩
          case measure => simp [intOf]; omega
        · cases sm with
          | false =>
            have d1 : decide (I ≤ nd) = true := decide_eq_true (by omega)
            have d2 : decide (nd < I + z) = true := decide_eq_true (by omega)
            have d3 : decide (nd < I) = false := decide_eq_false (by omega)
            have d4 : decide ((I : Int) ≤ nd) = true := decide_eq_true (by omega)
            have d5 : decide ((nd : Int) < I + z) = true := decide_eq_true (by omega)
            have hs : Hid (sn = (ow, fromY t (leavesOf t) (k + 1), true)) := hidden (by rw [HSt.out, if_neg e1, if_neg e2]; rfl)
            obtain ⟨y0, z0, z1, z2, y9, hby⟩ := HA.out wr HK.out
            have HBy := hidden hby
            clear hby
            have ya := Ext.cell y0; have yb := Ext.cell y9
            gi_wp2
            refine wpIn_region_ext (by kernel_rfl) (by kernel_rfl) rfl ?_
            repeat (gi_big_quiet_step (fail))
            refine wpQuietIn_nil ?_
            intro w4 hb4
            clear ya yb
            replace m9 := m9.below hb4 m9.lt
            replace HK := hidden (HK.out.below hb4)
            replace hb := hb.trans (hb4.mono hb.size)
            clear y0 z0 z1 z2 y9 HBy
            clear hb4
            obtain ⟨y0, z0, z1, z2, y9, hby⟩ := HA.out w4 HK.out
            have HBy := hidden hby
            clear hby
            have HA4 := hidden (fun W (h : Below w4.heap.size w4 W) => HA.out W (HK.out.below h))
            have ya := Ext.cell z0; have yb := Ext.cell z1; have yc := Ext.cell z2
            gi_wp2
            refine wpIn_region_ext_tail 16 (by kernel_rfl) (by kernel_rfl) rfl ?_
            simp only [List.take_succ_cons, List.take_zero, List.drop_succ_cons, List.drop_zero]
            repeat (gi_big_quiet_step ((gi_at_call 56; exact Ext.callIn (callsIn_wide.2 (HA4.out _ (Ext.below _)).2.2.2.2.2))))
            refine wpQuietIn_nil ?_
            intro w5 hb5
            clear ya yb yc HA4
            replace m9 := m9.below hb5 m9.lt
            replace HK := hidden (HK.out.below hb5)
            replace hb := hb.trans (hb5.mono hb.size)
            clear y0 z0 z1 z2 y9 HBy
            clear hb5
            have k0 : w5.cell? ⟨w3.heap.size, 0, none⟩ = some (.int .i64 sa) := m9.cell 0
            have k1 : w5.cell? ⟨w3.heap.size, 1, none⟩ = some (.int .i64 sb) := m9.cell 1
            have fz0 := m9.frozen 0; have fz1 := m9.frozen 1; have lz := m9.lt
            obtain ⟨y0, z0, z1, z2, y9, hby⟩ := HA.out w5 HK.out
            have HBy := hidden hby
            clear hby
            gi_wp2_with fail
            have m6 := m9.set 0 (.int .i64 ((f0 : Int) + sB.size - x.text.size))
            have HK6 := hidden (keeps_set (b := w3.heap.size) (i := 0) (s := none) (u := .int .i64 ((f0 : Int) + sB.size - x.text.size)) (by omega) HK.out)
            have hb6 := below_set (b := w3.heap.size) (i := 0) (s := none) (u := .int .i64 ((f0 : Int) + sB.size - x.text.size)) (by omega) hb
            clear y0 z0 z1 z2 y9 HBy k0 k1 fz0 fz1 lz m9 HK hb
            refine CallsIn.mono (F := Fence.wide) (callsIn_wide.2 (HA.out _ HK6.out).2.2.2.2.2) ?_
            rintro e w6 ⟨rfl, hb7⟩
            have m9 := m6.below hb7 m6.lt
            have HK := hidden (HK6.out.below hb7)
            have hb := hb6.trans (hb7.mono hb6.size)
            clear m6 HK6 hb6 hb7
            have k0 : w6.cell? ⟨w3.heap.size, 0, none⟩ = some (.int .i64 ((f0 : Int) + sB.size - x.text.size)) := m9.cell 0
            have k1 : w6.cell? ⟨w3.heap.size, 1, none⟩ = some (.int .i64 sb) := m9.cell 1
            have fz0 := m9.frozen 0; have fz1 := m9.frozen 1; have lz := m9.lt
            obtain ⟨y0, z0, z1, z2, y9, hby⟩ := HA.out w6 HK.out
            have HBy := hidden hby
            clear hby
            gi_wp2_with fail
            have m6 := m9.set 1 (.int .i64 ((f0 : Int) + sB.size))
            have HK6 := hidden (keeps_set (b := w3.heap.size) (i := 1) (s := none) (u := .int .i64 ((f0 : Int) + sB.size)) (by omega) HK.out)
            have hb6 := below_set (b := w3.heap.size) (i := 1) (s := none) (u := .int .i64 ((f0 : Int) + sB.size)) (by omega) hb
            clear y0 z0 z1 z2 y9 HBy k0 k1 fz0 fz1 lz m9 HK hb
            refine CallsIn.mono (F := Fence.wide) (callsIn_wide.2 (HA.out _ HK6.out).2.2.2.2.2) ?_
            rintro e w7 ⟨rfl, hb7⟩
            have m7 := m6.below hb7 m6.lt
            have HK7 := hidden (HK6.out.below hb7)
            have hb8 := hb6.trans (hb7.mono hb6.size)
            clear m6 HK6 hb6 hb7
            gi_wp2
            go_roundw
            case rel => exact ⟨k + 1, by omega, by go_num, by rw [HF1.out], by rw [HSn.out, hs.out], by rw [HSn.out, hs.out]; exact m7.of_eq (by dsimp only; rw [HF1.out, HOw.out]; rfl), HK7, hb8⟩
            case measure => simp [intOf]; omega
          | true =>
            have d1 : decide (I ≤ nd) = true := decide_eq_true (by omega)
            have d2 : decide (nd < I + z) = true := decide_eq_true (by omega)
            have d3 : decide (nd < I) = false := decide_eq_false (by omega)
            have d4 : decide ((I : Int) ≤ nd) = true := decide_eq_true (by omega)
            have d5 : decide ((nd : Int) < I + z) = true := decide_eq_true (by omega)
            have hs : Hid (sn = (sa, fromY t (leavesOf t) (k + 1), true)) := hidden (by rw [HSt.out, if_neg e1, if_neg e2]; rfl)
            obtain ⟨y0, z0, z1, z2, y9, hby⟩ := HA.out wr HK.out
            have HBy := hidden hby
            clear hby
            have ya := Ext.cell y0; have yb := Ext.cell y9
            gi_wp2
            refine wpIn_region_ext (by kernel_rfl) (by kernel_rfl) rfl ?_
            repeat (gi_big_quiet_step (fail))
            refine wpQuietIn_nil ?_
            intro w4 hb4
            clear ya yb
            replace m9 := m9.below hb4 m9.lt
            replace HK := hidden (HK.out.below hb4)
            replace hb := hb.trans (hb4.mono hb.size)
            clear y0 z0 z1 z2 y9 HBy
            clear hb4
            obtain ⟨y0, z0, z1, z2, y9, hby⟩ := HA.out w4 HK.out
            have HBy := hidden hby
            clear hby
            gi_wp2_with fail
            refine CallsIn.mono (F := Fence.wide) (callsIn_wide.2 HBy.out) ?_
            rintro e w5 ⟨rfl, hb5⟩
            replace m9 := m9.below hb5 m9.lt
            replace HK := hidden (HK.out.below hb5)
            replace hb := hb.trans (hb5.mono hb.size)
            clear y0 z0 z1 z2 y9 HBy
            clear hb5
            have k0 : w5.cell? ⟨w3.heap.size, 0, none⟩ = some (.int .i64 sa) := m9.cell 0
            have k1 : w5.cell? ⟨w3.heap.size, 1, none⟩ = some (.int .i64 sb) := m9.cell 1
            have fz0 := m9.frozen 0; have fz1 := m9.frozen 1; have lz := m9.lt
            obtain ⟨y0, z0, z1, z2, y9, hby⟩ := HA.out w5 HK.out
            have HBy := hidden hby
            clear hby
            gi_wp2_with fail
            have m6 := m9.set 1 (.int .i64 ((f0 : Int) + sB.size))
            have HK6 := hidden (keeps_set (b := w3.heap.size) (i := 1) (s := none) (u := .int .i64 ((f0 : Int) + sB.size)) (by omega) HK.out)
            have hb6 := below_set (b := w3.heap.size) (i := 1) (s := none) (u := .int .i64 ((f0 : Int) + sB.size)) (by omega) hb
            clear y0 z0 z1 z2 y9 HBy k0 k1 fz0 fz1 lz m9 HK hb
            refine CallsIn.mono (F := Fence.wide) (callsIn_wide.2 (HA.out _ HK6.out).2.2.2.2.2) ?_
            rintro e w7 ⟨rfl, hb7⟩
            have m7 := m6.below hb7 m6.lt
            have HK7 := hidden (HK6.out.below hb7)
            have hb8 := hb6.trans (hb7.mono hb6.size)
            clear m6 HK6 hb6 hb7
            gi_wp2
            go_roundw
            case rel => exact ⟨k + 1, by omega, by go_num, by rw [HF1.out], by rw [HSn.out, hs.out], by rw [HSn.out, hs.out]; exact m7.of_eq (by dsimp only; rw [HF1.out]; rfl), HK7, hb8⟩
            case measure => simp [intOf]; omega
    · obtain rfl : k = (leavesOf t).length := by omega
      generalize spanP t I (sz t I) (List.range (leavesOf t).length) = s1 at *
      obtain ⟨sa, sb, sm⟩ := s1
      dsimp only at m9 HS
      have k0 : wr.cell? ⟨w3.heap.size, 0, none⟩ = some (.int .i64 sa) := m9.cell 0
      have k1 : wr.cell? ⟨w3.heap.size, 1, none⟩ = some (.int .i64 sb) := m9.cell 1
      have r0 := HK.out.holds (g := w.heap.size) hz HG0.out
      have j0 : wr.cell? ⟨w.heap.size, 0, none⟩ = some (.int .i64 0) := r0.cell 0
      have j1 : wr.cell? ⟨w.heap.size, 1, none⟩ = some (.int .i64 0) := r0.cell 1
      have fz0 := r0.frozen 0; have fz1 := r0.frozen 1; have lz := r0.lt
      gi_wp2
      have r1 := (r0.set 0 (.int .i64 sa)).set 1 (.int .i64 sb)
      have e0 : ((wr.setCell ⟨w.heap.size, 0, none⟩ (.int .i64 sa)).setCell ⟨w.heap.size, 1, none⟩ (.int .i64 sb)).cell? ⟨w.heap.size, 0, none⟩ = some (.int .i64 sa) := r1.cell 0
      have e1 : ((wr.setCell ⟨w.heap.size, 0, none⟩ (.int .i64 sa)).setCell ⟨w.heap.size, 1, none⟩ (.int .i64 sb)).cell? ⟨w.heap.size, 1, none⟩ = some (.int .i64 sb) := r1.cell 1
      exact bodyPost_ret (v := .tuple #[.agg #[.int .i64 sa, .int .i64 sb], .bool true]) (by simp [results, Tryz.f31, go_sem, e0, e1]) rfl ⟨by rw [HS.out], (hb.setCell (p := ⟨_, _, none⟩) (Nat.le_refl _) _).setCell (p := ⟨_, _, none⟩) (Nat.le_refl _) _⟩

set_option maxRecDepth 20000 in
set_option maxHeartbeats 4000000 in
theorem ref_span_no (v : Value) (t : List Node) (i : Int) (w : World) (h4 : bulkT t ≤ 1000000000) (hN : Nds w (Old w) v t) (hp : placeB t i = false) :
    Calls Tryz.prog 31 #[v, .int .i64 i] w fun r w' => r = .returned (.tuple #[.agg #[.int .i64 0, .int .i64 0], .bool false]) ∧ Below w.heap.size w w' := by
  have h5 := bulk_len t
  have HR := hidden (fun (w' : World) (hb : Below w.heap.size w w') => ref_right v t w' (by omega) (hN.old hb))
  obtain ⟨A, c, rfl, hc1, hc2⟩ := hN.value
  unfold maxLen at hc2
  have HC : treeB t = false ∨ (treeB t = true ∧ i < 0) ∨ (treeB t = true ∧ 0 ≤ i ∧ (t.length : Int) ≤ i) := by
    cases ht : treeB t with
    | false => exact .inl rfl
    | true =>
      by_cases a : i < 0
      · exact .inr (.inl ⟨rfl, a⟩)
      · by_cases b : (t.length : Int) ≤ i
        · exact .inr (.inr ⟨rfl, by omega, b⟩)
        · rw [placeB_iff.2 ⟨by omega, by omega, treeB_iff.1 ht⟩] at hp; cases hp
  clear hp hN
  rcases HC with a | ⟨ht, a⟩ | ⟨ht, a, b⟩
  all_goals
    first | rw [a] at HR | rw [ht] at HR
    first | clear ht | skip
  · clear a
    refine (callsIn_wide (n := 5)).1 ?_
    refine callsIn_of_wp Tryz.func31 rfl trivial ?_ rfl
    simp only [Tryz.ntmps31, List.size_toArray, List.length_cons, List.length_nil, Nat.reduceAdd, Nat.reduceSub, Array.replicate_succ, Array.replicate_zero, List.push_toArray, List.append_toArray, List.nil_append, List.cons_append]
    gi_wp2_with fail
    refine CallsIn.mono (F := Fence.wide) (callsIn_wide.2 (HR.out _ (by repeat (first | (with_reducible exact Below.refl _ _) | (with_reducible assumption) | (with_reducible refine Below.drew ?_) | (with_reducible refine below_drewN ?_ _) | ((with_reducible refine below_alloc ?_ ?_); (focus (first | omega | (simp; done) | (simp; omega)))) | ((with_reducible refine below_set ?_ ?_); (focus (first | omega | (simp; done) | (simp; omega)))))))) ?_
    rintro e w1 ⟨rfl, hb1⟩
    have r0 := Holds.below (g := w.heap.size) (t := 60) (cs := #[.int .i64 0, .int .i64 0]) (by repeat (first | (with_reducible assumption) | ((with_reducible refine holds_new ?_); (focus (first | rfl | (simp; done)))) | (with_reducible refine Holds.alloc ?_ _) | (with_reducible refine Holds.drew ?_))) hb1 (by simp)
    have hb := Below.trans (B := w.heap.size) (a := w) (by repeat (first | (with_reducible exact Below.refl _ _) | (with_reducible assumption) | (with_reducible refine Below.drew ?_) | (with_reducible refine below_drewN ?_ _) | ((with_reducible refine below_alloc ?_ ?_); (focus (first | omega | (simp; done) | (simp; omega)))) | ((with_reducible refine below_set ?_ ?_); (focus (first | omega | (simp; done) | (simp; omega)))))) (hb1.mono (by simp))
    have j0 : w1.cell? ⟨w.heap.size, 0, none⟩ = some (.int .i64 0) := r0.cell 0
    have j1 : w1.cell? ⟨w.heap.size, 1, none⟩ = some (.int .i64 0) := r0.cell 1
    have fz0 := r0.frozen 0; have fz1 := r0.frozen 1; have lz := r0.lt
    clear hb1 HR
    gi_wp2
    have r1 := (r0.set 0 (.int .i64 0)).set 1 (.int .i64 0)
    have e0 : ((w1.setCell ⟨w.heap.size, 0, none⟩ (.int .i64 0)).setCell ⟨w.heap.size, 1, none⟩ (.int .i64 0)).cell? ⟨w.heap.size, 0, none⟩ = some (.int .i64 0) := r1.cell 0
    have e1 : ((w1.setCell ⟨w.heap.size, 0, none⟩ (.int .i64 0)).setCell ⟨w.heap.size, 1, none⟩ (.int .i64 0)).cell? ⟨w.heap.size, 1, none⟩ = some (.int .i64 0) := r1.cell 1
    exact bodyPost_ret (v := .tuple #[.agg #[.int .i64 0, .int .i64 0], .bool false]) (by simp [results, Tryz.f31, go_sem, e0, e1]) rfl ⟨rfl, (hb.setCell (p := ⟨_, _, none⟩) (Nat.le_refl _) _).setCell (p := ⟨_, _, none⟩) (Nat.le_refl _) _⟩
  · refine (callsIn_wide (n := 5)).1 ?_
    refine callsIn_of_wp Tryz.func31 rfl trivial ?_ rfl
    simp only [Tryz.ntmps31, List.size_toArray, List.length_cons, List.length_nil, Nat.reduceAdd, Nat.reduceSub, Array.replicate_succ, Array.replicate_zero, List.push_toArray, List.append_toArray, List.nil_append, List.cons_append]
    gi_wp2_with fail
    refine CallsIn.mono (F := Fence.wide) (callsIn_wide.2 (HR.out _ (by repeat (first | (with_reducible exact Below.refl _ _) | (with_reducible assumption) | (with_reducible refine Below.drew ?_) | (with_reducible refine below_drewN ?_ _) | ((with_reducible refine below_alloc ?_ ?_); (focus (first | omega | (simp; done) | (simp; omega)))) | ((with_reducible refine below_set ?_ ?_); (focus (first | omega | (simp; done) | (simp; omega)))))))) ?_
    rintro e w1 ⟨rfl, hb1⟩
    have r0 := Holds.below (g := w.heap.size) (t := 60) (cs := #[.int .i64 0, .int .i64 0]) (by repeat (first | (with_reducible assumption) | ((with_reducible refine holds_new ?_); (focus (first | rfl | (simp; done)))) | (with_reducible refine Holds.alloc ?_ _) | (with_reducible refine Holds.drew ?_))) hb1 (by simp)
    have hb := Below.trans (B := w.heap.size) (a := w) (by repeat (first | (with_reducible exact Below.refl _ _) | (with_reducible assumption) | (with_reducible refine Below.drew ?_) | (with_reducible refine below_drewN ?_ _) | ((with_reducible refine below_alloc ?_ ?_); (focus (first | omega | (simp; done) | (simp; omega)))) | ((with_reducible refine below_set ?_ ?_); (focus (first | omega | (simp; done) | (simp; omega)))))) (hb1.mono (by simp))
    have j0 : w1.cell? ⟨w.heap.size, 0, none⟩ = some (.int .i64 0) := r0.cell 0
    have j1 : w1.cell? ⟨w.heap.size, 1, none⟩ = some (.int .i64 0) := r0.cell 1
    have fz0 := r0.frozen 0; have fz1 := r0.frozen 1; have lz := r0.lt
    clear hb1 HR
    gi_wp2
    have r1 := (r0.set 0 (.int .i64 0)).set 1 (.int .i64 0)
    have e0 : ((w1.setCell ⟨w.heap.size, 0, none⟩ (.int .i64 0)).setCell ⟨w.heap.size, 1, none⟩ (.int .i64 0)).cell? ⟨w.heap.size, 0, none⟩ = some (.int .i64 0) := r1.cell 0
    have e1 : ((w1.setCell ⟨w.heap.size, 0, none⟩ (.int .i64 0)).setCell ⟨w.heap.size, 1, none⟩ (.int .i64 0)).cell? ⟨w.heap.size, 1, none⟩ = some (.int .i64 0) := r1.cell 1
    exact bodyPost_ret (v := .tuple #[.agg #[.int .i64 0, .int .i64 0], .bool false]) (by simp [results, Tryz.f31, go_sem, e0, e1]) rfl ⟨rfl, (hb.setCell (p := ⟨_, _, none⟩) (Nat.le_refl _) _).setCell (p := ⟨_, _, none⟩) (Nat.le_refl _) _⟩
  · have b2 : decide (i < (t.length : Int)) = false := decide_eq_false (by omega)
    refine (callsIn_wide (n := 5)).1 ?_
    refine callsIn_of_wp Tryz.func31 rfl trivial ?_ rfl
    simp only [Tryz.ntmps31, List.size_toArray, List.length_cons, List.length_nil, Nat.reduceAdd, Nat.reduceSub, Array.replicate_succ, Array.replicate_zero, List.push_toArray, List.append_toArray, List.nil_append, List.cons_append]
    gi_wp2_with fail
    refine CallsIn.mono (F := Fence.wide) (callsIn_wide.2 (HR.out _ (by repeat (first | (with_reducible exact Below.refl _ _) | (with_reducible assumption) | (with_reducible refine Below.drew ?_) | (with_reducible refine below_drewN ?_ _) | ((with_reducible refine below_alloc ?_ ?_); (focus (first | omega | (simp; done) | (simp; omega)))) | ((with_reducible refine below_set ?_ ?_); (focus (first | omega | (simp; done) | (simp; omega)))))))) ?_
    rintro e w1 ⟨rfl, hb1⟩
    have r0 := Holds.below (g := w.heap.size) (t := 60) (cs := #[.int .i64 0, .int .i64 0]) (by repeat (first | (with_reducible assumption) | ((with_reducible refine holds_new ?_); (focus (first | rfl | (simp; done)))) | (with_reducible refine Holds.alloc ?_ _) | (with_reducible refine Holds.drew ?_))) hb1 (by simp)
    have hb := Below.trans (B := w.heap.size) (a := w) (by repeat (first | (with_reducible exact Below.refl _ _) | (with_reducible assumption) | (with_reducible refine Below.drew ?_) | (with_reducible refine below_drewN ?_ _) | ((with_reducible refine below_alloc ?_ ?_); (focus (first | omega | (simp; done) | (simp; omega)))) | ((with_reducible refine below_set ?_ ?_); (focus (first | omega | (simp; done) | (simp; omega)))))) (hb1.mono (by simp))
    have j0 : w1.cell? ⟨w.heap.size, 0, none⟩ = some (.int .i64 0) := r0.cell 0
    have j1 : w1.cell? ⟨w.heap.size, 1, none⟩ = some (.int .i64 0) := r0.cell 1
    have fz0 := r0.frozen 0; have fz1 := r0.frozen 1; have lz := r0.lt
    clear hb1 HR
    gi_wp2
    have r1 := (r0.set 0 (.int .i64 0)).set 1 (.int .i64 0)
    have e0 : ((w1.setCell ⟨w.heap.size, 0, none⟩ (.int .i64 0)).setCell ⟨w.heap.size, 1, none⟩ (.int .i64 0)).cell? ⟨w.heap.size, 0, none⟩ = some (.int .i64 0) := r1.cell 0
    have e1 : ((w1.setCell ⟨w.heap.size, 0, none⟩ (.int .i64 0)).setCell ⟨w.heap.size, 1, none⟩ (.int .i64 0)).cell? ⟨w.heap.size, 1, none⟩ = some (.int .i64 0) := r1.cell 1
    exact bodyPost_ret (v := .tuple #[.agg #[.int .i64 0, .int .i64 0], .bool false]) (by simp [results, Tryz.f31, go_sem, e0, e1]) rfl ⟨rfl, (hb.setCell (p := ⟨_, _, none⟩) (Nat.le_refl _) _).setCell (p := ⟨_, _, none⟩) (Nat.le_refl _) _⟩
end Go.Proofs.YtdbbjlphlbndkaaGreat.T

namespace Go.Proofs.YtdbbjlphlbndkaaGreat.T
open Go.RowKit Go.Shelf

/-- How many words stand ahead of a node. -/
theorem cut_at (t : List Node) (x : Nat) : ∃ c, c ≤ (leavesOf t).length ∧ ∀ k, k < (leavesOf t).length → (nodeY t k < x ↔ k < c) := by
  have : ∀ n, n ≤ (leavesOf t).length → ∃ c, c ≤ n ∧ ∀ k, k < n → (nodeY t k < x ↔ k < c) := by
    intro n
    induction n with
    | zero => exact fun _ => ⟨0, Nat.le_refl _, fun k h => by omega⟩
    | succ n ih =>
      intro hn
      obtain ⟨c, h1, h2⟩ := ih (by omega)
      by_cases hx : nodeY t n < x
      · refine ⟨n + 1, Nat.le_refl _, fun k hk => ⟨fun _ => hk, fun _ => ?_⟩⟩
        by_cases e : k = n
        · rw [e]; exact hx
        · have := nodeY_mono (t := t) (j := k) (k := n) (by omega) (by omega)
          omega
      · refine ⟨c, by omega, fun k hk => ?_⟩
        by_cases e : k = n
        · rw [e]
          constructor
          · intro h; exact absurd h hx
          · intro h; omega
        · exact h2 k (by omega)
  exact this _ (Nat.le_refl _)

theorem own_bounds {t : List Node} {k : Nat} (h : k < (leavesOf t).length) : fromY t (leavesOf t) k ≤ ownY t k ∧ ownY t k ≤ fromY t (leavesOf t) (k + 1) := by
  have h2 := (nodeY_at h).2.2.1
  unfold ownY
  unfold wordLen at h2
  omega

/-- Ahead of its words nothing is of the part. -/
theorem spanP_ahead {t : List Node} {i z : Nat} : ∀ k, k ≤ (leavesOf t).length → (∀ j, j < k → nodeY t j < i) → spanP t i z (List.range k) = (fromY t (leavesOf t) k, fromY t (leavesOf t) k, false) := by
  intro k
  induction k with
  | zero => intro _ _; rfl
  | succ k ih =>
    intro hk h
    rw [List.range_succ, spanP_snoc, ih (by omega) (fun j hj => h j (by omega))]
    have hn := h k (by omega)
    unfold stepP
    rw [if_neg (by omega), if_pos hn]
/-- Within its words it begins with the first one's own, and ends with the last one. -/
theorem spanP_in {t : List Node} {i z c : Nat} (hc : c < (leavesOf t).length) (ha : ∀ j, j < c → nodeY t j < i) (hi : i ≤ nodeY t c) : ∀ k, c < k → k ≤ (leavesOf t).length → (∀ j, j < k → nodeY t j < i + z) →
    spanP t i z (List.range k) = (ownY t c, fromY t (leavesOf t) k, true) := by
  intro k
  induction k with
  | zero => intro h; omega
  | succ k ih =>
    intro h1 h2 h3
    rw [List.range_succ, spanP_snoc]
    have h4 := h3 k (by omega)
    by_cases e : k = c
    · subst e
      rw [spanP_ahead k (by omega) ha]
      unfold stepP
      rw [if_neg (by omega), if_neg (by omega)]
      rfl
    · rw [ih (by omega) (by omega) (fun j hj => h3 j (by omega))]
      have := nodeY_mono (t := t) (j := c) (k := k) (by omega) (by omega)
      unfold stepP
      rw [if_neg (by omega), if_neg (by omega)]
      rfl
theorem spanP_behind {t : List Node} {i z c : Nat} (hc : c ≤ (leavesOf t).length) (h : ∀ j, c ≤ j → j < (leavesOf t).length → i + z ≤ nodeY t j) : spanP t i z (List.range (leavesOf t).length) = spanP t i z (List.range c) := by
  have e : List.range (leavesOf t).length = List.range c ++ (List.range ((leavesOf t).length - c)).map (c + ·) := by
    conv => lhs; rw [show (leavesOf t).length = c + ((leavesOf t).length - c) by omega, List.range_add]
  rw [e]
  unfold spanP
  rw [List.foldl_append]
  refine spanP_idle _ _ (fun k hk => ?_)
  obtain ⟨m, hm, rfl⟩ := List.mem_map.1 hk
  have := List.mem_range.1 hm
  exact h _ (by omega) (by omega)

/-- Where a part is: by how many words stand ahead of it, and of its end. -/
theorem span_cut {t : List Node} {i z c d : Nat} (hc : c ≤ (leavesOf t).length) (hd : d ≤ (leavesOf t).length) (h1 : ∀ k, k < (leavesOf t).length → (nodeY t k < i ↔ k < c)) (h2 : ∀ k, k < (leavesOf t).length → (nodeY t k < i + z ↔ k < d)) :
    (c < d → spanP t i z (List.range (leavesOf t).length) = (ownY t c, fromY t (leavesOf t) d, true)) ∧ (d ≤ c → spanP t i z (List.range (leavesOf t).length) = (fromY t (leavesOf t) d, fromY t (leavesOf t) d, false)) := by
  have hb : spanP t i z (List.range (leavesOf t).length) = spanP t i z (List.range d) := spanP_behind hd (fun j a b => by have := h2 j b; omega)
  rw [hb]
  constructor
  · intro h
    exact spanP_in (by omega) (fun j hj => (h1 j (by omega)).2 hj) (by have := h1 c (by omega); omega) d h hd (fun j hj => (h2 j (by omega)).2 hj)
  · intro h
    exact spanP_ahead d hd (fun j hj => (h1 j (by omega)).2 (by omega))

theorem span_in {t : List Node} (hT : Tree t) {i : Nat} (hi : i < t.length) : spanOf t (i : Int) = ((spanP t i (sz t i) (List.range (leavesOf t).length)).1, (spanP t i (sz t i) (List.range (leavesOf t).length)).2.1, true) := by
  have hp : placeB t (i : Int) = true := placeB_iff.2 ⟨by omega, by omega, hT⟩
  unfold spanOf
  rw [hp]
  rfl
theorem text_len (t : List Node) : (textOf t).length = fromY t (leavesOf t) (leavesOf t).length := textL_range_len t _ (Nat.le_refl _)

theorem span_bounds {t : List Node} (hT : Tree t) {i : Nat} (hi : i < t.length) : (spanOf t (i : Int)).1 ≤ (spanOf t (i : Int)).2.1 ∧ (spanOf t (i : Int)).2.1 ≤ (textOf t).length := by
  rw [span_in hT hi, text_len]
  obtain ⟨c, hc, h1⟩ := cut_at t i
  obtain ⟨d, hd, h2⟩ := cut_at t (i + sz t i)
  obtain ⟨a, b⟩ := span_cut hc hd h1 h2
  rcases Nat.lt_or_ge c d with h | h
  · rw [a h]
    dsimp only
    exact ⟨Nat.le_trans (own_bounds (by omega)).2 (fromY_mono t _ h), fromY_mono t _ hd⟩
  · rw [b h]
    exact ⟨Nat.le_refl _, fromY_mono t _ hd⟩

/-- A leaf: its word. -/
theorem leaf_word {t : List Node} (hT : Tree t) {i : Nat} (hi : i < t.length) (hk : textedK (leafAt t i).kind) : ∃ k, k < (leavesOf t).length ∧ nodeY t k = i ∧ spanOf t (i : Int) = (ownY t k, fromY t (leavesOf t) (k + 1), true) := by
  have hx := List.getElem?_eq_getElem hi
  have hm : i ∈ leavesOf t := by
    unfold leavesOf leavesTo texts
    rw [if_pos (treeB_iff.2 hT), List.mem_filter]
    refine ⟨List.mem_range.2 hi, ?_⟩
    unfold isText
    rw [hx]
    rw [leafAt_of hx] at hk
    simpa using hk
  obtain ⟨k, hkk⟩ := List.getElem?_of_mem hm
  have hlt := (List.getElem?_eq_some_iff.1 hkk).1
  have hn := nodeY_of hkk
  have hz : sz t i = 1 := by
    have h0 := tree_sz0 hT
    obtain ⟨⟨⟨x, hx', hl⟩, _⟩, _⟩ := hT.2.2.2 i (Nat.zero_le _) (by rw [h0]; omega)
    rw [leafAt_of hx'] at hk
    unfold Local at hl
    have : x.size = 1 := hl.2.2.2.1 (by
      intro ho
      unfold openK at ho
      unfold textedK at hk
      omega)
    rw [sz_of hx', this]
    rfl
  refine ⟨k, hlt, hn, ?_⟩
  rw [span_in hT hi, hz]
  have := (span_cut (t := t) (i := i) (z := 1) (c := k) (d := k + 1) (by omega) (by omega) (fun j hj => ?_) (fun j hj => ?_)).1 (by omega)
  · rw [this]
  · constructor
    · intro h
      rcases Nat.lt_trichotomy j k with h' | h' | h'
      · exact h'
      · subst h'; omega
      · have := nodeY_mono (t := t) h' hj; omega
    · intro h
      have := nodeY_mono (t := t) h hlt; omega
  · constructor
    · intro h
      rcases Nat.lt_trichotomy j k with h' | h' | h'
      · omega
      · omega
      · have := nodeY_mono (t := t) h' hj; omega
    · intro h
      by_cases e : j = k
      · subst e; omega
      · have := nodeY_mono (t := t) (show j < k by omega) hlt; omega

theorem find_in {t : List Node} {k : Nat} (hk : k < (leavesOf t).length) {at_ : Nat} (h1 : ownY t k ≤ at_) (h2 : at_ < fromY t (leavesOf t) (k + 1)) : findOf t (at_ : Int) = (nodeY t k : Int) := by
  have e : List.range (leavesOf t).length = List.range k ++ k :: (List.range ((leavesOf t).length - (k + 1))).map (k + 1 + ·) := by
    conv => lhs; rw [show (leavesOf t).length = (k + 1) + ((leavesOf t).length - (k + 1)) by omega, List.range_add, List.range_succ]
    rw [List.append_assoc, List.singleton_append]
  unfold findOf
  rw [e]
  refine findY_hit ?_ _ _ (fun j hj => ?_)
  · have := (own_bounds hk).1
    unfold hitY; omega
  · have := List.mem_range.1 hj
    have h3 := fromY_mono t (leavesOf t) (j := j + 1) (k := k) (by omega)
    have := (own_bounds hk).1
    unfold hitY; omega
theorem find_out {t : List Node} {at_ : Int} (h : at_ < 0 ∨ ((textOf t).length : Int) ≤ at_) : findOf t at_ = -1 := by
  rw [text_len] at h
  refine findY_miss _ (fun j hj => ?_)
  have := List.mem_range.1 hj
  have h3 := fromY_mono t (leavesOf t) (j := j + 1) (k := (leavesOf t).length) (by omega)
  unfold hitY; omega
theorem textL_split (t : List Node) : ∀ k, k ≤ (leavesOf t).length → (textOf t).take (fromY t (leavesOf t) k) = textL t (List.range k) := by
  intro k hk
  have e : List.range (leavesOf t).length = List.range k ++ (List.range ((leavesOf t).length - k)).map (k + ·) := by
    conv => lhs; rw [show (leavesOf t).length = k + ((leavesOf t).length - k) by omega, List.range_add]
  unfold textOf
  rw [e]
  unfold textL
  rw [List.flatMap_append, ← textL_range_len t k hk]
  exact List.take_left' rfl
/-- The bytes of a leaf's own text are its part. -/
theorem leaf_bytes {t : List Node} {k : Nat} (hk : k < (leavesOf t).length) : (catB (textOf t)).extract (ownY t k) (fromY t (leavesOf t) (k + 1)) = (leafAt t (nodeY t k)).text := by
  have h1 := textL_split t (k + 1) hk
  have h2 := textL_range_len t k (by omega)
  have h3 := (nodeY_at hk).2.2.1
  rw [List.range_succ, textL_snoc] at h1
  apply ByteArray.ext
  apply Array.ext'
  have hd : ((catB (textOf t)).extract (ownY t k) (fromY t (leavesOf t) (k + 1))).data.toList = ((textOf t).take (fromY t (leavesOf t) (k + 1))).drop (ownY t k) := by
    rw [ByteArray.data_extract, Array.toList_extract]
    unfold catB
    rw [List.extract_eq_take_drop, List.drop_take]
  rw [hd, h1]
  unfold wordBytes
  rw [← List.append_assoc]
  have h4 : (textL t (List.range k) ++ pcBytes (leafAt t (nodeY t k)).lead).length = ownY t k := by
    rw [List.length_append, h2, pcBytes_len]; rfl
  rw [← h4]
  exact List.drop_left' rfl

theorem up_cases {t : List Node} {i : Nat} : ∀ k, (upN t i k = -1 ∨ ∃ p : Nat, upN t i k = (p : Int) ∧ p < k ∧ i < p + sz t p) := by
  intro k
  induction k with
  | zero => exact .inl rfl
  | succ k ih =>
    unfold upN
    split
    · exact .inr ⟨k, rfl, by omega, ‹_›⟩
    · rcases ih with h | ⟨p, h1, h2, h3⟩
      · exact .inl h
      · exact .inr ⟨p, h1, by omega, h3⟩
theorem up_of {t : List Node} (hT : Tree t) {i : Nat} (hi : i < t.length) : upOf t (i : Int) = -1 ∨ ∃ p : Nat, upOf t (i : Int) = (p : Int) ∧ p < i ∧ i < p + sz t p := by
  have hp : placeB t (i : Int) = true := placeB_iff.2 ⟨by omega, by omega, hT⟩
  unfold upOf
  rw [hp]
  exact up_cases i
/-- A part that has a leaf: a word of it. -/
theorem sub_word {t : List Node} (hT : Tree t) {i : Nat} (hi : i < t.length) (h : (leavesOf (subOf t (i : Int))).length ≠ 0) : ∃ k, k < (leavesOf t).length ∧ i ≤ nodeY t k ∧ nodeY t k < i + sz t i := by
  rw [subOf_in hT hi] at h
  obtain ⟨m, hm⟩ := List.exists_mem_of_length_pos (Nat.pos_of_ne_zero h)
  unfold leavesOf leavesTo at hm
  split at hm
  · unfold texts at hm
    rw [List.mem_filter] at hm
    have hml := List.mem_range.1 hm.1
    rw [subL_len hT hi] at hml
    have hmt := hm.2
    have hin : i + m < t.length := by have := (tree_node hT hi).2.1; omega
    have : i + m ∈ leavesOf t := by
      unfold leavesOf leavesTo texts
      rw [if_pos (treeB_iff.2 hT), List.mem_filter]
      refine ⟨List.mem_range.2 hin, ?_⟩
      unfold isText at hmt ⊢
      rw [subL_at hml] at hmt
      exact hmt
    obtain ⟨k, hk⟩ := List.getElem?_of_mem this
    exact ⟨k, (List.getElem?_eq_some_iff.1 hk).1, by rw [nodeY_of hk]; omega, by rw [nodeY_of hk]; omega⟩
  · cases hm
/-- A kid that has a word lies within its node. -/
theorem kid_within {t : List Node} (hT : Tree t) {i p : Nat} (hi : i < t.length) (hp : p < i) (hin : i < p + sz t p) {k : Nat} (hk : k < (leavesOf t).length) (h1 : i ≤ nodeY t k) (h2 : nodeY t k < i + sz t i) :
    (spanOf t (p : Int)).1 ≤ (spanOf t (i : Int)).1 ∧ (spanOf t (i : Int)).2.1 ≤ (spanOf t (p : Int)).2.1 := by
  have hpl : p < t.length := by omega
  obtain ⟨_, _, hle⟩ := tree_step hT hpl hp hin
  obtain ⟨c, hc, c1⟩ := cut_at t i
  obtain ⟨d, hd, d1⟩ := cut_at t (i + sz t i)
  obtain ⟨c', hc', c2⟩ := cut_at t p
  obtain ⟨d', hd', d2⟩ := cut_at t (p + sz t p)
  have hcd : c < d := by have := c1 k hk; have := (d1 k hk); omega
  have hcc : c' ≤ c := by
    rcases Nat.lt_or_ge c c' with h | h
    · have := (c2 c (by omega)).2 h
      have := (c1 c (by omega)).1 (by omega)
      omega
    · exact h
  have hdd : d ≤ d' := by
    rcases Nat.lt_or_ge d' d with h | h
    · have := (d1 d' (by omega)).2 h
      have := (d2 d' (by omega)).1 (by omega)
      omega
    · exact h
  rw [span_in hT hi, span_in hT hpl, (span_cut hc hd c1 d1).1 hcd, (span_cut hc' hd' c2 d2).1 (by omega)]
  dsimp only
  refine ⟨?_, fromY_mono t _ hdd⟩
  by_cases e : c' = c
  · rw [e]; exact Nat.le_refl _
  · exact Nat.le_trans (own_bounds (by omega)).2 (Nat.le_trans (fromY_mono t _ (show c' + 1 ≤ c by omega)) (own_bounds (by omega)).1)
end Go.Proofs.YtdbbjlphlbndkaaGreat.T
