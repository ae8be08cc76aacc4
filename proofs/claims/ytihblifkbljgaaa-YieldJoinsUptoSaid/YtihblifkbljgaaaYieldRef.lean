/-
  The document's words, their bytes and texts: facsimileref28.
-/
import Derived.Test.YtihblifkbljgaaaYieldText
import Derived.Test.YtihblifkbljgaaaRecs
import Derived.Test.YtihblifkbljgaaaTreeClone
namespace Go.Proofs.Ytihblifkbljgaaa
open Go.RowKit Go.Shelf

def catB (l : List UInt8) : ByteArray := ⟨l.toArray⟩
theorem catB_size (l : List UInt8) : (catB l).size = l.length := by unfold catB; show l.toArray.size = _; simp
theorem catB_app (l : List UInt8) (s : ByteArray) : catB (l ++ s.data.toList) = catB l ++ s := by
  apply ByteArray.ext
  rw [ByteArray.data_append]
  simp [catB]
theorem catB_cat (l m : List UInt8) : catB (l ++ m) = catB l ++ catB m := by
  apply ByteArray.ext
  rw [ByteArray.data_append]
  simp [catB]

set_option maxHeartbeats 1000000 in
theorem ref_join (v : Value) (ps : List Piece) (w : World) (hP : Pcs w (Old w) v ps) (hl : leadSum ps ≤ 1000000000000) :
    Calls Try.prog 43 #[v] w fun r w' => r = .returned (.string (catB (pcBytes ps))) ∧ w = w' := by
  obtain ⟨A, c, rfl, hc1, hc2⟩ := hP.value
  unfold maxLen at hc2
  have HP := hidden hP
  clear hP
  go_enter Try.func43, Try.ntmps43
  go_wp2
  go_loop [3, 4] (fun s i => ∃ k : Nat, k ≤ ps.length ∧ i = .int .i64 k ∧ s = .string (catB (pcBytes (ps.take k)))) (fun _ i => ps.length - (intOf i).toNat)
  case atStart => exact ⟨0, by omega, rfl, rfl⟩
  case round =>
    obtain ⟨k, hk, rfl, rfl⟩ := hrel
    by_cases hlt : k < ps.length
    · have hp := List.getElem?_eq_getElem hlt
      obtain ⟨b3, o3, c3', hv, _, _, hT3, hat3⟩ := HP.out.open_ (by intro e; rw [e] at hlt; simp at hlt)
      simp only [Value.slice.injEq] at hv
      obtain ⟨rfl, _, rfl⟩ := hv
      obtain ⟨p0, p1⟩ := hat3 k _ hp
      have HTk := hidden (pcBytes_take hp)
      have hst := leadSum_take hp
      have hsl := leadSum_le ps (k + 1)
      have hsz : (catB (pcBytes (ps.take k))).size = leadSum (ps.take k) := by rw [catB_size, pcBytes_len]
      generalize ps[k] = p at *
      have h1 : (catB (pcBytes (ps.take k))).size ≤ 1000000000000 := by omega
      have h2 : (catB (pcBytes (ps.take k))).size + p.text.size ≤ 1000000000000 := by omega
      have HC : Hid (catB (pcBytes (ps.take (k + 1))) = catB (pcBytes (ps.take k)) ++ p.text) := hidden (by rw [HTk.out, catB_app])
      clear hp hat3 hst hsl hsz HTk
      generalize catB (pcBytes (ps.take k)) = s at *
      go_wp2
      go_round
      case rel => exact ⟨k + 1, by omega, by go_num, by rw [HC.out]⟩
      case measure => simp [intOf]; omega
    · obtain rfl : k = ps.length := by omega
      rw [List.take_length]
      go_wp2
      go_ret
      exact ⟨rfl, rfl⟩

set_option maxHeartbeats 1000000 in
theorem ref_bytes (x : Node) (l : Value) (w : World) (hP : Pcs w (Old w) l x.lead) (hl : wordLen x ≤ 1000000000000) :
    Calls Try.prog 64 #[.agg #[l, .int .i64 x.n, .string x.text]] w fun r w' => r = .returned (.string (catB (wordBytes x))) ∧ Below w.heap.size w w' := by
  obtain ⟨A, c, rfl, hc1, hc2⟩ := hP.value
  unfold maxLen at hc2
  unfold wordLen at hl
  have HP := hidden (fun (w' : World) (hb : Below w.heap.size w w') => ref_join _ x.lead w' (Rd.mono (hP.keeps (Keeps.of_below hb)) (fun k hk => Nat.lt_of_lt_of_le hk hb.size)) (by omega))
  have hsz : (catB (pcBytes x.lead)).size = leadSum x.lead := by rw [catB_size, pcBytes_len]
  have h1 : (catB (pcBytes x.lead)).size + x.text.size ≤ 1000000000000 := by omega
  have HE : Hid (catB (wordBytes x) = catB (pcBytes x.lead) ++ x.text) := hidden (by unfold wordBytes; rw [catB_app])
  generalize catB (pcBytes x.lead) = s at *
  clear hP hsz
  go_enter Try.func64, Try.ntmps64
  go_wp2
  have z0 := Ext.cell (show (w.alloc (.cells #[.slice A x.lead.length c, .int .i64 x.n, .string x.text] 57)).cell? ⟨w.heap.size, 0, none⟩ = some (.slice A x.lead.length c) by go_simp)
  have z2 := Ext.cell (show (w.alloc (.cells #[.slice A x.lead.length c, .int .i64 x.n, .string x.text] 57)).cell? ⟨w.heap.size, 2, none⟩ = some (.string x.text) by go_simp)
  have HB : Hid (Below w.heap.size w (w.alloc (.cells #[.slice A x.lead.length c, .int .i64 x.n, .string x.text] 57))) := hidden (by repeat (first | (with_reducible exact Below.refl _ _) | (with_reducible assumption) | (with_reducible refine Below.drew ?_) | ((with_reducible refine below_alloc ?_ ?_); (focus (first | omega | (simp; done) | (simp; omega)))) | ((with_reducible refine below_set ?_ ?_); (focus (first | omega | (simp; done) | (simp; omega))))))
  refine wp_region_ext (by kernel_rfl) (by kernel_rfl) ?_
  repeat (go_big_quiet_step ((go_at_call 43; exact Ext.call ((HP.out _ (HB.out.trans (Ext.below _ |>.mono (by simp)))).mono fun _ _ h => ⟨h.1, h.2 ▸ Below.refl _ _⟩))))
  refine wpQuiet_nil ?_
  intro w2 hb2
  go_wp2
  go_ret
  exact ⟨by rw [HE.out]; rfl, HB.out.trans (hb2.mono (by simp))⟩

/-- The leaves, as words. -/
noncomputable def wordsTo (t : List Node) (k : Nat) : List Node := ((leavesOf t).take k).map (leafAt t)
noncomputable def wordsOf (t : List Node) : List Node := (leavesOf t).map (leafAt t)
theorem wordsTo_succ {t : List Node} {k i : Nat} (h : (leavesOf t)[k]? = some i) : wordsTo t (k + 1) = wordsTo t k ++ [leafAt t i] := by
  obtain ⟨hk, e⟩ := List.getElem?_eq_some_iff.1 h
  unfold wordsTo
  rw [List.take_succ_eq_append_getElem hk, e, List.map_append]
  rfl
theorem wordsTo_len {t : List Node} {k : Nat} (h : k ≤ (leavesOf t).length) : (wordsTo t k).length = k := by unfold wordsTo; rw [List.length_map, List.length_take]; omega
theorem wordsOf_at {t : List Node} {k i : Nat} (h : (leavesOf t)[k]? = some i) : (wordsOf t)[k]? = some (leafAt t i) := by unfold wordsOf; rw [List.getElem?_map, h]; rfl
theorem word_info : Hid (TyInfo Try.prog 57 (.agg #[.slice none 0 0, .int .i64 0, .string ⟨#[]⟩]) 3 48) :=
  hidden (info_parts (show (Try.prog.info? 57).map (fun i => (i.zero, i.size, i.bytes)) = some (some (.agg #[.slice none 0 0, .int .i64 0, .string ⟨#[]⟩]), 3, 48) by kernel_rfl))

/-- Words in a row of the call's own; their leads lie in T. -/
def WOwn (w : World) (B : Nat) (T : Nat → Prop) (v : Value) (ws : List Node) : Prop :=
  ∃ ls : List Value, ls.length = ws.length ∧ Mine w B 57 3 v ws.length (wordR.all ws ls) ∧ ∀ (i : Nat) (x : Node) (l : Value), ws[i]? = some x → ls[i]? = some l → Pcs w T l x.lead
theorem WOwn.below {w w' : World} {B : Nat} {T : Nat → Prop} {v : Value} {ws : List Node} (h : WOwn w B T v ws) (hb : Below w.heap.size w w') : WOwn w' B T v ws := by
  obtain ⟨ls, h1, h2, h3⟩ := h
  exact ⟨ls, h1, h2.below hb, fun i x l a b => (h3 i x l a b).keeps (Keeps.of_below hb)⟩
theorem WOwn.recs {w : World} {B : Nat} {T : Nat → Prop} {v : Value} {ws : List Node} (h : WOwn w B T v ws) (hT : ∀ k, T k → k < w.heap.size) : Recs wordR w (Old w) v ws := by
  obtain ⟨ls, h1, h2, h3⟩ := h
  exact ⟨ls, h1, h2.rd (fun g _ _ h => h), fun i x l a b => Rd.mono (h3 i x l a b) (fun k hk => hT k hk)⟩

theorem wordR_all_snoc (ws : List Node) (ls : List Value) (x : Node) (l : Value) (h : ls.length = ws.length) : wordR.all (ws ++ [x]) (ls ++ [l]) = wordR.all ws ls ++ [l, .int .i64 x.n, .string x.text] := by
  unfold Rec.all
  rw [List.zip_append (by omega), List.flatMap_append]
  rfl

set_option maxRecDepth 20000 in
set_option maxHeartbeats 4000000 in
theorem ref_words (v : Value) (t : List Node) (w : World) (h4 : t.length ≤ 1000000000) (hN : Nds w (Old w) v t) :
    Calls Try.prog 38 #[v] w fun r w' => (∃ u, r = .returned u ∧ Hid (WOwn w' w.heap.size (Old w) u (wordsOf t))) ∧ Below w.heap.size w w' := by
  have HN := hidden hN
  have HL := hidden (fun (w' : World) (hb : Below w.heap.size w w') => ref_leaves v t w' (by omega) (hN.old hb))
  have HW := word_info
  have HWE : Hid (wordsTo t (leavesOf t).length = wordsOf t) := hidden (by unfold wordsTo wordsOf; rw [List.take_length])
  have HLt := hidden (leavesOf_lt t)
  have hll : (leavesOf t).length ≤ t.length := leavesTo_len t t.length
  obtain ⟨A, c, rfl, hc1, hc2⟩ := hN.value
  unfold maxLen at hc2
  clear hN
  go_enter Try.func38, Try.ntmps38
  go_wp2_with fail
  refine (HL.out _ (by repeat (first | (with_reducible exact Below.refl _ _) | (with_reducible assumption) | (with_reducible refine Below.drew ?_) | ((with_reducible refine below_alloc ?_ ?_); (focus (first | omega | (simp; done) | (simp; omega)))) | ((with_reducible refine below_set ?_ ?_); (focus (first | omega | (simp; done) | (simp; omega))))))).mono ?_
  rintro r w2 ⟨⟨u, rfl, HM⟩, hb2⟩
  obtain ⟨A2, c2, rfl⟩ := HM.out.value
  have hz2 := hb2.size
  have HR : Hid (Rd w2 (fun k => w.heap.size + 1 ≤ k ∧ k < w2.heap.size) 1 (.slice A2 (leavesOf t).length c2) (leavesOf t).length (ints (leavesOf t))) := hidden (HM.out.rd (fun g _ h1 h2 => ⟨by simpa using h1, h2⟩))
  have hb : Below w.heap.size w w2 := Below.trans (B := w.heap.size) (a := w) (by repeat (first | (with_reducible exact Below.refl _ _) | (with_reducible assumption) | (with_reducible refine Below.drew ?_) | ((with_reducible refine below_alloc ?_ ?_); (focus (first | omega | (simp; done) | (simp; omega)))) | ((with_reducible refine below_set ?_ ?_); (focus (first | omega | (simp; done) | (simp; omega)))))) (hb2.mono (by simp))
  simp at hz2
  clear HM hb2 HL
  go_wp2
  go_loopw [3, 5] (fun o i wr => ∃ k : Nat, k ≤ (leavesOf t).length ∧ i = .int .i64 k ∧ Hid (WOwn wr w.heap.size (Old w) o (wordsTo t k)) ∧ Hid (∀ g, o.ownBlock = some g → g = w.heap.size ∨ w2.heap.size ≤ g) ∧
      Hid (Rd wr (fun k => w.heap.size + 1 ≤ k ∧ k < w2.heap.size) 1 (.slice A2 (leavesOf t).length c2) (leavesOf t).length (ints (leavesOf t))) ∧ Below w.heap.size w wr ∧ w2.heap.size ≤ wr.heap.size) (fun _ i _ => (leavesOf t).length - (intOf i).toNat)
  case atStart => exact ⟨0, by omega, rfl, hidden ⟨[], rfl, .inr ⟨rfl, rfl, _, rfl⟩, fun i x l a _ => by simp [wordsTo] at a⟩, hidden (fun g hg => by cases hg; exact .inl rfl), HR, hb, Nat.le_refl _⟩
  case round =>
    clear HR hb
    obtain ⟨k, hk, rfl, HM, HG, HR, hb, hz⟩ := hrel
    have hbz := hb.size
    by_cases hlt : k < (leavesOf t).length
    · have hi := List.getElem?_eq_getElem hlt
      have HS := hidden (wordsTo_succ hi)
      have hit := HLt.out _ (List.mem_of_getElem? hi)
      have hwl := wordsTo_len (t := t) hk
      obtain ⟨b2, o2, rfl, _, z0⟩ := HR.out.ints_at hi
      generalize (leavesOf t)[k] = i at *
      have hx := List.getElem?_eq_getElem hit
      obtain ⟨b, off, c', hv, _, _, hTb, hat⟩ := (HN.out.below hb old_lt).open_ (by intro e; rw [e] at hit; simp at hit)
      simp only [Value.slice.injEq] at hv
      obtain ⟨rfl, _, rfl⟩ := hv
      obtain ⟨lv, x0, x1, x2, x3, x4, hpc⟩ := hat i _ hx
      rw [leafAt_of hx] at HS
      generalize t[i] = x at *
      obtain ⟨A3, c3, rfl, d1, d2⟩ := hpc.value
      unfold maxLen at d2
      have HPc := hidden hpc
      clear hi hat hx hpc
      obtain ⟨ls, hls, hM, hps⟩ := HM.out
      have HB := hidden hb
      have hnew : Below wr.heap.size wr ((wr.alloc (.cells #[.int .i64 x.kind, .int .i64 x.n, .int .i64 x.size, .slice A3 x.lead.length c3, .string x.text] 29)).alloc (.cells #[.slice A3 x.lead.length c3, .int .i64 x.n, .string x.text] 57)) := ((Below.refl _ _).alloc (Nat.le_refl _) _).alloc (by simp) _
      have HMa : Hid (Mine ((wr.alloc (.cells #[.int .i64 x.kind, .int .i64 x.n, .int .i64 x.size, .slice A3 x.lead.length c3, .string x.text] 29)).alloc (.cells #[.slice A3 x.lead.length c3, .int .i64 x.n, .string x.text] 57)) w.heap.size 57 3 u3 (wordsTo t k).length (wordR.all (wordsTo t k) ls)) := hidden (hM.below hnew)
      have HX : Hid (Rd ((wr.alloc (.cells #[.int .i64 x.kind, .int .i64 x.n, .int .i64 x.size, .slice A3 x.lead.length c3, .string x.text] 29)).alloc (.cells #[.slice A3 x.lead.length c3, .int .i64 x.n, .string x.text] 57)) (fun _ => True) 3 (.slice (some ⟨wr.heap.size + 1, 0, none⟩) 1 1) 1 [.slice A3 x.lead.length c3, .int .i64 x.n, .string x.text]) :=
        hidden (Rd.fresh (cs := [.slice A3 x.lead.length c3, .int .i64 x.n, .string x.text]) (n := 1) (size := 3) rfl (Nat.le_refl _) (by decide) trivial (by simp))
      have H1 : Hid (∀ u ∈ [Value.slice A3 x.lead.length c3, .int .i64 x.n, .string x.text], u.oneCell' = true) := hidden (wordR.one x _ rfl)
      have hbn : w.heap.size ≤ ((wr.alloc (.cells #[.int .i64 x.kind, .int .i64 x.n, .int .i64 x.size, .slice A3 x.lead.length c3, .string x.text] 29)).alloc (.cells #[.slice A3 x.lead.length c3, .int .i64 x.n, .string x.text] 57)).heap.size := by simp; omega
      have HFin : Hid (∀ v' w', Appended ((wr.alloc (.cells #[.int .i64 x.kind, .int .i64 x.n, .int .i64 x.size, .slice A3 x.lead.length c3, .string x.text] 29)).alloc (.cells #[.slice A3 x.lead.length c3, .int .i64 x.n, .string x.text] 57)) w.heap.size 57 3 u3 ((wordsTo t k).length + 1) (wordR.all (wordsTo t k) ls ++ [.slice A3 x.lead.length c3, .int .i64 x.n, .string x.text]) v' w' →
          Hid (WOwn w' w.heap.size (Old w) v' (wordsTo t (k + 1))) ∧ Hid (∀ g, v'.ownBlock = some g → g = w.heap.size ∨ w2.heap.size ≤ g) ∧ Hid (Rd w' (fun k => w.heap.size + 1 ≤ k ∧ k < w2.heap.size) 1 (.slice (some ⟨b2, o2, none⟩) (leavesOf t).length c2) (leavesOf t).length (ints (leavesOf t))) ∧ Below w.heap.size w w' ∧ w2.heap.size ≤ w'.heap.size) := hidden (fun v' w' hA => by
        have hs := hA.keeps.size
        simp at hs
        have hkn : ∀ j, j < w2.heap.size → j ≠ w.heap.size → u3.ownBlock ≠ some j := fun j hj hne e => by have := HG.out j e; omega
        have hkk : Keeps (fun j => j < w2.heap.size ∧ j ≠ w.heap.size) wr w' := (Keeps.of_below hnew).trans (hA.keeps.mono (fun j hj => hkn j hj.1 hj.2))
        refine ⟨hidden ⟨ls ++ [.slice A3 x.lead.length c3], ?_, ?_, fun i y l a b => ?_⟩, hidden (fun g hg => ?_), hidden (Rd.keeps HR.out (hkk.mono (fun j hj => ⟨hj.2, by omega⟩))), (HB.out.trans (hnew.mono HB.out.size)).trans hA.below, by omega⟩
        · rw [HS.out]; simp [hls]
        · rw [HS.out, List.length_append, wordR_all_snoc _ _ _ _ hls]
          exact hA.mine
        · rw [HS.out] at a
          rcases Nat.lt_or_ge i (wordsTo t k).length with h | h
          · rw [List.getElem?_append_left h] at a
            rw [List.getElem?_append_left (by omega)] at b
            exact (hps i y l a b).keeps (hkk.mono (fun j hj => by have : j < w.heap.size := hj; exact ⟨by omega, by omega⟩))
          · rw [List.getElem?_append_right h] at a
            rw [List.getElem?_append_right (by omega), hls] at b
            obtain ⟨hi0, rfl⟩ : i - (wordsTo t k).length = 0 ∧ x = y := by
              have := (List.getElem?_eq_some_iff.1 a).1
              simp at this
              rw [this] at a
              simp at a
              exact ⟨this, a⟩
            rw [hi0] at b
            simp at b
            subst b
            exact HPc.out.keeps (hkk.mono (fun j hj => by have : j < w.heap.size := hj; exact ⟨by omega, by omega⟩))
        · rcases hA.at_ with e | ⟨g', e, h1, _⟩
          · rw [e] at hg; exact HG.out g hg
          · rw [e] at hg; cases hg
            simp at h1
            exact .inr (by omega))
      clear hM hps HR HPc HM hb hnew HS HG HB
      have h5 : ((wordsTo t k).length + 1) * 48 ≤ 140737488355328 := by omega
      go_wp2_with (at_builtin; refine wpList_append_all rfl _ _ 52 57 rfl (by kernel_rfl) HW rfl (by decide) w.heap.size _ _ _ HMa _ _ _ HX H1 rfl rfl h5 (by decide) hbn ?_; intro v' w' hA)
      obtain ⟨q1, q2, q3, q4, q5⟩ := HFin.out v' w' hA.out
      clear HFin hA HMa HX H1 hbn
      go_roundw
      case rel => exact ⟨k + 1, by omega, by go_num, q1, q2, q3, q4, q5⟩
      case measure => simp [intOf]; omega
    · obtain rfl : k = (leavesOf t).length := by omega
      rw [HWE.out] at HM
      go_wp2
      go_ret
      exact ⟨⟨_, rfl, HM⟩, hb⟩
end Go.Proofs.Ytihblifkbljgaaa
