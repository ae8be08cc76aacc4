/-
  For the laws of layer 8, plainly: what is shown are bytes; what is read and shown again. The laws of layer 8: the examples; any steps and any set as a text. The laws of layer 8: what is told is read again; what is read is an expression.
-/
import Derived.Test.YtfmdmeokbbpmlaaDoorC5
import Derived.Test.YtfmdmeokbbpmlaaDoorC3
import Derived.Test.YtfmdmeokbbpmlaaDoorC6
namespace Go.Proofs.YtfmdmeokbbpmlaaDoor
open Go.RowKit Go.Shelf

theorem hexC_small {d : Nat} (h : d < 16) : hexC d < 256 := hexC_lt h
theorem chrT_lt (L : List Nat) {b : Nat} (hb : b < 256) : ∀ c ∈ chrT L b, c < 256 := by
  intro c hc
  unfold chrT at hc
  have h1 := hexC_small (d := b / 16) (by omega)
  have h2 := hexC_small (d := b % 16) (by omega)
  split at hc
  · simp at hc; omega
  · split at hc
    · simp at hc; omega
    · split at hc
      · simp at hc; omega
      · split at hc
        · simp at hc; omega
        · split at hc
          · simp at hc; omega
          · simp at hc; omega
theorem runT_lt {r : Nat × Nat} (h : r.1 < 256 ∧ r.2 < 256) : ∀ c ∈ runT r, c < 256 := by
  intro c hc
  unfold runT at hc
  have h1 := chrT_lt edgeL h.1
  have h2 := chrT_lt edgeL h.2
  split at hc
  · exact h1 c hc
  · split at hc
    · rcases List.mem_append.1 hc with h | h
      · exact h1 c h
      · exact h2 c h
    · rcases List.mem_append.1 hc with h | h
      · exact h1 c h
      · rcases List.mem_cons.1 h with rfl | h
        · decide
        · exact h2 c h
theorem runsT_lt (f : Nat → Bool) : ∀ c ∈ runsT f, c < 256 := by
  intro c hc
  unfold runsT at hc
  obtain ⟨m, hm, hc⟩ := List.mem_flatten.1 hc
  obtain ⟨r, hr, rfl⟩ := List.mem_map.1 hm
  exact runT_lt (runs_lt hr) c hc
theorem bytesS_head_lt (f : Nat → Bool) : (bytesS f).headD 0 < 256 := by
  cases hb : bytesS f with
  | nil => decide
  | cons b l => exact (bytes_mem.1 (by rw [hb]; exact List.mem_cons_self)).1
theorem setT_lt (f : Nat → Bool) : ∀ c ∈ setT f, c < 256 := by
  intro c hc
  unfold setT at hc
  split at hc
  · exact chrT_lt _ (bytesS_head_lt f) c hc
  · split at hc
    · simp at hc; omega
    · split at hc
      · rcases List.mem_cons.1 hc with rfl | hc
        · decide
        · rcases List.mem_cons.1 hc with rfl | hc
          · decide
          · rcases List.mem_append.1 hc with h | h
            · exact runsT_lt _ c h
            · simp at h; omega
      · rcases List.mem_cons.1 hc with rfl | hc
        · decide
        · rcases List.mem_append.1 hc with h | h
          · exact runsT_lt _ c h
          · simp at h; omega
theorem par_lt {b : Bool} {l : List Nat} (h : ∀ c ∈ l, c < 256) : ∀ c ∈ par b l, c < 256 := by
  intro c hc
  unfold par at hc
  split at hc
  · rcases List.mem_cons.1 hc with rfl | hc
    · decide
    · rcases List.mem_append.1 hc with h' | h'
      · exact h c h'
      · simp at h'; omega
  · exact h c hc
theorem tex_lt (t : RxT) : ∀ c ∈ tex t, c < 256 := by
  induction t with
  | set f => rw [tex]; exact setT_lt f
  | empty => rw [tex]; intro c hc; simp at hc; omega
  | cat a b iha ihb =>
    rw [tex]
    intro c hc
    rcases List.mem_append.1 hc with h | h
    · exact par_lt iha c h
    · exact par_lt ihb c h
  | alt a b iha ihb =>
    rw [tex]
    intro c hc
    rcases List.mem_append.1 hc with h | h
    · exact iha c h
    · rcases List.mem_cons.1 h with rfl | h
      · decide
      · exact par_lt ihb c h
  | rep k a iha =>
    rw [tex]
    intro c hc
    rcases List.mem_append.1 hc with h | h
    · exact par_lt iha c h
    · cases k <;> simp [Rep.sign] at h <;> omega
theorem nb_tex (t : RxT) : nb (bs (tex t)) = tex t := nb_bs _ (tex_lt t)
theorem nb_app (a b : ByteArray) : nb (a ++ b) = nb a ++ nb b := by
  unfold nb
  rw [← List.map_append]
  obtain ⟨⟨a⟩⟩ := a
  obtain ⟨⟨b⟩⟩ := b
  exact congrArg (fun x : ByteArray => x.data.toList.map UInt8.toNat) (bytes_app a b)
/-- Where a text is none nothing is read of it. -/
theorem readM_none {cs : List Nat} {l : List Rx} {n : Nat} {e : Int} (h : readM cs = (l, n, e)) (he : e ≠ 0) : l = [] ∧ n ≤ cs.length := by
  unfold readM at h
  split at h
  · cases h; exact ⟨rfl, Nat.zero_le _⟩
  · split at h
    · cases h; exact ⟨rfl, Nat.sub_le _ _⟩
    · split at h
      · cases h; exact ⟨rfl, Nat.zero_le _⟩
      · cases h; exact absurd rfl he
theorem rx_Show_t (v : Value) (t : RxT) (w : World) (h : Rd w (Old w) 5 v (post t).length ((post t).flatMap rxCells)) (HT : TabW w) (hl : (post t).length ≤ 512) :
    Calls Tryd.prog 10 #[v] w fun r w' => r = .returned (.string (bs (tex t))) ∧ Below w.heap.size w w' := by
  refine (rx_Show v (post t) w h (wordy_post t) HT).mono ?_
  rintro r w' ⟨hb, h2⟩
  rcases h2 with ⟨h3, _⟩ | ⟨_, u, hu, rfl⟩
  · exact absurd (tree_right t hl) h3
  · exact ⟨by rw [tex_post t u hu], hb⟩
theorem rx_Show_bad (v : Value) (l : List Rx) (w : World) (h : Rd w (Old w) 5 v l.length (l.flatMap rxCells)) (hw : ∀ x ∈ l, Wordy x) (HT : TabW w) (he : rxErr l ≠ 0) :
    Calls Tryd.prog 10 #[v] w fun r w' => r = .returned (.string (bs [])) ∧ Below w.heap.size w w' := by
  refine (rx_Show v l w h hw HT).mono ?_
  rintro r w' ⟨hb, h2⟩
  rcases h2 with ⟨_, rfl⟩ | ⟨h3, _⟩
  · exact ⟨rfl, hb⟩
  · exact absurd h3 he
/-- Read, where what comes of it is known. -/
theorem rx_Read_is {s : ByteArray} {l : List Rx} {n : Nat} {e : Int} (hr : readM (nb s) = (l, n, e)) (w : World) (hz : s.size ≤ maxLen) :
    Calls Tryd.prog 15 #[.string s] w fun r w' => ∃ v, r = .returned (.tuple #[v, .int .i64 (n : Int), .int .i64 e]) ∧ Below w.heap.size w w' ∧ Rd w' (Old w') 5 v l.length (l.flatMap rxCells) := by
  refine (rx_Read s w hz).mono ?_
  intro r w' h
  rw [hr] at h
  obtain ⟨v, h1, h2, h3⟩ := h.out
  exact ⟨v, h1, h2, h3.mono (fun _ h => h.2)⟩
end Go.Proofs.YtfmdmeokbbpmlaaDoor

namespace Go.Proofs.YtfmdmeokbbpmlaaDoor
open Go.RowKit Go.Shelf

set_option maxRecDepth 20000 in
set_option maxHeartbeats 8000000 in
theorem knows08 (w : World) (HT : TabW w) : Calls Tryd.prog 9 #[] w fun r w' => r = .returned (.bool true) ∧ Below w.heap.size w w' := by
  have HR1 := hidden (rx_Read_is (s := ⟨#[97, 40, 98, 124, 99, 41, 42]⟩) ex_read w (by decide))
  have HR2 := hidden (fun w' => rx_Read_is (s := ⟨#[91, 98, 45, 97, 93]⟩) ex_bad w' (by decide))
  have HTl := hidden (fun w' (hb : Below w.heap.size w w') => HT.old hb)
  clear HT
  go_enter Tryd.func9, Tryd.ntmps9
  go_wp2_with fail
  refine HR1.out.mono ?_
  rintro r w1 ⟨v, rfl, hb1, h1⟩
  have H1 := hidden h1
  clear h1 HR1
  go_wp2_with fail
  refine (HR2.out _).mono ?_
  rintro r w2 ⟨v2, rfl, hb2, h2⟩
  obtain ⟨A2, c2, rfl, -, -⟩ := h2.val
  have H3 := hidden (H1.out.old hb2)
  have hb3 := hb1.trans (hb2.mono hb1.size)
  have HSh := hidden (rx_Show_t v exT w2 H3.out (HTl.out _ hb3) (by decide))
  rw [ex_tex, show bs [97, 40, 98, 124, 99, 41, 42] = (⟨#[97, 40, 98, 124, 99, 41, 42]⟩ : ByteArray) from rfl] at HSh
  have hv := H3.out
  clear h2 HR2 H1 H3 HTl hb1 hb2
  obtain ⟨_, A, cp, rfl, hc1, hc2, hcell⟩ := hv
  obtain ⟨b, off, rfl, -, hat⟩ := hcell (by decide)
  have k3 := hat 15 (.int .i64 4) rfl
  have k4 := hat 20 (.int .i64 5) rfl
  have k5 := hat 25 (.int .i64 3) rfl
  have hl6 : (post exT).length = 6 := rfl
  rw [hl6] at HSh ⊢
  clear hat hcell hl6 hc1 hc2
  go_wp2_with fail
  refine HSh.out.mono ?_
  rintro r w3 ⟨rfl, hb4⟩
  go_wp2
  go_ret
  exact ⟨by first | rfl | simp, hb3.trans (hb4.mono hb3.size)⟩

set_option maxRecDepth 20000 in
set_option maxHeartbeats 8000000 in
theorem law_rxShows (v : Value) (l : List Rx) (f : Nat → Bool) (W : World) (HR : Rd W (Old W) 5 v l.length (l.flatMap rxCells)) (hw : ∀ x ∈ l, Wordy x) (HT : TabW W) :
    Calls Tryd.prog 3 #[v, .agg (setC f)] W fun r w' => r = .returned (.bool true) ∧ Below W.heap.size W w' := by
  have HK := hidden (fun w' (hb : Below W.heap.size W w') => knows08 w' (HT.old hb))
  obtain ⟨A, cp, rfl, hc1, hc2⟩ := HR.val
  unfold maxLen at hc2
  by_cases hl : 600 < l.length
  · have q1 : (600 : Int) < (l.length : Int) := by omega
    have hb0 := (Below.refl W.heap.size W).alloc (Nat.le_refl _) (.cells (setC f) 25)
    have HX := hidden (HK.out _ hb0)
    unfold setC at HX hb0 ⊢
    clear HR HT HK hw
    go_enter Tryd.func3, Tryd.ntmps3
    go_wp2_with fail
    refine HX.out.mono ?_
    rintro r w2 ⟨rfl, hb2⟩
    go_wp2
    go_ret
    exact ⟨rfl, hb0.trans (hb2.mono hb0.size)⟩
  · have q1 : ¬ (600 : Int) < (l.length : Int) := by omega
    have hb0 := (Below.refl W.heap.size W).alloc (Nat.le_refl _) (.cells (setC f) 25)
    obtain ⟨tx, HS1, HS2⟩ : ∃ tx, Hid (∀ w', Below W.heap.size W w' → Calls Tryd.prog 10 #[.slice A l.length cp] w' fun r w'' => r = .returned (.string tx) ∧ Below w'.heap.size w' w'') ∧ Hid (∀ w', Below W.heap.size W w' → Calls Tryd.prog 11 #[.slice A l.length cp] w' fun r w'' => r = .returned (.string tx) ∧ Below w'.heap.size w' w'') := by
      by_cases he : rxErr l = 0
      · obtain ⟨h5, t, rfl⟩ := right_tree hw he
        exact ⟨_, hidden (fun w' hb => rx_Show_t _ t w' (HR.old hb) (HT.old hb) h5), hidden (fun w' hb => ref_Show08 _ t w' (HR.old hb) he h5)⟩
      · exact ⟨_, hidden (fun w' hb => rx_Show_bad _ l w' (HR.old hb) hw (HT.old hb) he), hidden (fun w' hb => ref_Show08_bad _ l w' (HR.old hb) he)⟩
    have HT1 := hidden (fun w' (hb : Below W.heap.size W w') => rx_ShowSet f w' (HT.old hb))
    have HT2 := hidden (fun w' => ref_ShowSet08 f w')
    have HB := Holds.new W 25 (setC f)
    unfold setC at HB hb0 HT1 HT2 ⊢
    obtain ⟨y0, y1, y2, y3⟩ := four HB
    generalize bs (setT f) = ts at *
    clear HR HT hw HB hl
    go_enter Tryd.func3, Tryd.ntmps3
    go_wp2_with fail
    generalize (W.alloc (.cells #[.int .u64 (wd f 0 : Nat), .int .u64 (wd f 1 : Nat), .int .u64 (wd f 2 : Nat), .int .u64 (wd f 3 : Nat)] 25)) = w1 at *
    have HbA := hidden (fun x : Ext w1 => hb0.trans (x.below.mono hb0.size))
    have c0 := fun x : Ext w1 => Ext.cell y0 x
    have c1 := fun x : Ext w1 => Ext.cell y1 x
    have c2 := fun x : Ext w1 => Ext.cell y2 x
    have c3 := fun x : Ext w1 => Ext.cell y3 x
    refine wp_region_ext (by kernel_rfl) (by kernel_rfl) ?_
    repeat (go_big_quiet_step ((first | (go_at_call 10; exact Ext.call (HS1.out _ (HbA.out _))) | (go_at_call 11; exact Ext.call (HS2.out _ (HbA.out _))) | (go_at_call 12; exact Ext.call (HT1.out _ (HbA.out _))) | (go_at_call 13; exact Ext.call (HT2.out _)) | (go_at_call 9; exact Ext.call (HK.out _ (HbA.out _))))))
    refine wpQuiet_nil ?_
    intro w2 hb2
    go_wp2
    go_ret
    exact ⟨by first | rfl | simp, hb0.trans (hb2.mono hb0.size)⟩
end Go.Proofs.YtfmdmeokbbpmlaaDoor

namespace Go.Proofs.YtfmdmeokbbpmlaaDoor
open Go.RowKit Go.Shelf

set_option maxRecDepth 20000 in
set_option maxHeartbeats 8000000 in
theorem law_rxBack (v : Value) (l : List Rx) (W : World) (HR : Rd W (Old W) 5 v l.length (l.flatMap rxCells)) (hw : ∀ x ∈ l, Wordy x) (HT : TabW W) :
    Calls Tryd.prog 4 #[v] W fun r w' => r = .returned (.bool true) ∧ Below W.heap.size W w' := by
  have HK := hidden (fun w' (hb : Below W.heap.size W w') => knows08 w' (HT.old hb))
  have HC := hidden (ref07_check v l W HR)
  obtain ⟨A, cp, rfl, hc1, hc2⟩ := HR.val
  unfold maxLen at hc2
  have hX := HK.out _ (Below.refl _ _)
  have HX := hidden hX
  by_cases hl : 200 < l.length
  · have q1 : (200 : Int) < (l.length : Int) := by omega
    clear HR HT HK hw HC hl hX
    go_enter Tryd.func4, Tryd.ntmps4
    go_wp2_with fail
    refine HX.out.mono ?_
    rintro r w2 ⟨rfl, hb2⟩
    go_wp2
    go_ret
    exact ⟨rfl, hb2⟩
  · have q1 : ¬ (200 : Int) < (l.length : Int) := by omega
    by_cases he : rxErr l = 0
    · obtain ⟨h5, t, rfl⟩ := right_tree hw he
      rw [he] at HC
      have HS := hidden (fun w' (hb : Below W.heap.size W w') => rx_Show_t _ t w' (HR.old hb) (HT.old hb) h5)
      have hts : (bs (tex t)).size = (tex t).length := bs_size _
      have htl := tex_len t
      have hrb := read_back t h5
      have HRo := hidden (fun w' (hb : Below W.heap.size W w') => HR.old hb)
      have HT2 := hidden (fun w' (hb : Below W.heap.size W w') => HT.old hb)
      have hz : (bs (tex t)).size ≤ maxLen := by rw [hts]; unfold maxLen; omega
      by_cases hlong : 4096 < (tex t).length
      · have q2 : (4096 : Int) < ((bs (tex t)).size : Int) := by omega
        rw [if_pos hlong] at hrb
        have HRd := hidden (fun w' => rx_Read_is (s := bs (tex t)) ((congrArg readM (nb_tex t)).trans hrb) w' hz)
        clear HR HT hw he htl hrb hts hlong HT2 HRo hX
        generalize bs (tex t) = s at *
        go_enter Tryd.func4, Tryd.ntmps4
        go_wp2_with fail
        refine HC.out.mono ?_
        rintro r w1 ⟨rfl, rfl⟩
        go_wp2_with fail
        refine (HS.out _ (Below.refl _ _)).mono ?_
        rintro r w2 ⟨rfl, hb2⟩
        go_wp2_with fail
        refine (HRd.out _).mono ?_
        rintro r w3 ⟨v3, rfl, hb3, h3⟩
        obtain ⟨A3, c3, rfl, -, -⟩ := h3.val
        clear h3
        go_wp2
        go_ret
        exact ⟨by first | rfl | simp, hb2.trans (hb3.mono hb2.size)⟩
      · have q2 : ¬ (4096 : Int) < ((bs (tex t)).size : Int) := by omega
        rw [if_neg hlong] at hrb
        have HRd := hidden (fun w' => rx_Read_is (s := bs (tex t)) ((congrArg readM (nb_tex t)).trans hrb) w' hz)
        rw [← hts] at HRd
        have HSm := hidden (fun (w' : World) (v' : Value) (hb : Below W.heap.size W w') (h : Rd w' (Old w') 5 v' (post t).length ((post t).flatMap rxCells)) => ref07_same _ _ (post t) (post t) w' (HRo.out w' hb) h)
        rw [show eqB (post t) (post t) = true by unfold eqB; simp] at HSm
        clear HR HT hw he htl hrb hts hlong HRo hX
        generalize bs (tex t) = s at *
        go_enter Tryd.func4, Tryd.ntmps4
        go_wp2_with fail
        refine HC.out.mono ?_
        rintro r w1 ⟨rfl, rfl⟩
        go_wp2_with fail
        refine (HS.out _ (Below.refl _ _)).mono ?_
        rintro r w2 ⟨rfl, hb2⟩
        go_wp2_with fail
        refine (HRd.out _).mono ?_
        rintro r w3 ⟨v3, rfl, hb3, h3⟩
        have hb4 := hb2.trans (hb3.mono hb2.size)
        have HM := hidden (HSm.out _ _ hb4 h3)
        obtain ⟨A3, c3, rfl, -, -⟩ := h3.val
        clear h3 hb2 hb3 HSm
        go_wp2_with fail
        refine HM.out.mono ?_
        rintro r w5 ⟨rfl, hb5⟩
        have hb6 := hb4.trans (hb5.mono hb4.size)
        have HK2 := hidden (HK.out _ hb6)
        go_wp2_with fail
        refine HK2.out.mono ?_
        rintro r w7 ⟨rfl, hb7⟩
        go_wp2
        go_ret
        exact ⟨by first | rfl | simp, hb6.trans (hb7.mono hb6.size)⟩
    · have q2 : (rxErr l == 0) = false := by simpa using he
      have q3 : (rxErr l != 0) = true := by simpa using he
      clear HR HT HK hw hl hX
      go_enter Tryd.func4, Tryd.ntmps4
      go_wp2_with fail
      refine HC.out.mono ?_
      rintro r w1 ⟨rfl, rfl⟩
      go_wp2_with fail
      refine HX.out.mono ?_
      rintro r w2 ⟨rfl, hb2⟩
      go_wp2
      go_ret
      exact ⟨rfl, hb2⟩

set_option maxRecDepth 20000 in
set_option maxHeartbeats 8000000 in
theorem law_rxAgain (s : ByteArray) (W : World) (HT : TabW W) (hz : s.size ≤ maxLen) :
    Calls Tryd.prog 5 #[.string s] W fun r w' => r = .returned (.bool true) ∧ Below W.heap.size W w' := by
  have HK := hidden (fun w' (hb : Below W.heap.size W w') => knows08 w' (HT.old hb))
  have hX := HK.out _ (Below.refl _ _)
  have HX := hidden hX
  unfold maxLen at hz
  by_cases hl : 600 < s.size
  · have q1 : (600 : Int) < (s.size : Int) := by omega
    clear HT HK hl hX
    go_enter Tryd.func5, Tryd.ntmps5
    go_wp2_with fail
    refine HX.out.mono ?_
    rintro r w2 ⟨rfl, hb2⟩
    go_wp2
    go_ret
    exact ⟨rfl, hb2⟩
  · have q1 : ¬ (600 : Int) < (s.size : Int) := by omega
    have hstar : readM (nb ((⟨#[42]⟩ : ByteArray) ++ s)) = ([], 0, 3) := by
      rw [nb_app]
      exact read_star (nb s) (by rw [nb_len]; omega)
    have HR1 := hidden (fun w' => rx_Read_is hstar w' (by rw [ByteArray.size_append]; unfold maxLen; show 1 + s.size ≤ _; omega))
    obtain ⟨l, n, e, hr⟩ : ∃ l n e, readM (nb s) = (l, n, e) := ⟨_, _, _, rfl⟩
    have HR2 := hidden (fun w' => rx_Read_is hr w' (by unfold maxLen; omega))
    have hsum1 : ¬ (9223372036854775807 < 1 + s.size) := by omega
    have hsum2 : 1 + s.size ≤ 9223372036854775807 := by omega
    clear hX HX hstar
    by_cases he : e = 0
    · subst he
      obtain ⟨hn, h5, t, rfl, htl⟩ := read_tree hr
      rw [nb_len] at hn htl
      subst hn
      have hts : (bs (tex t)).size = (tex t).length := bs_size _
      have hrb := read_back t h5
      rw [if_neg (by omega)] at hrb
      have HS := hidden (fun (v : Value) (w' : World) (hb : Below W.heap.size W w') (h : Rd w' (Old w') 5 v (post t).length ((post t).flatMap rxCells)) => rx_Show_t v t w' h (HT.old hb) h5)
      have HR3 := hidden (fun w' => rx_Read_is (s := bs (tex t)) ((congrArg readM (nb_tex t)).trans hrb) w' (by rw [hts]; unfold maxLen; omega))
      have HCk := hidden (fun (v : Value) (w' : World) (h : Rd w' (Old w') 5 v (post t).length ((post t).flatMap rxCells)) => ref07_check v (post t) w' h)
      rw [tree_right t h5] at HCk
      have HSm := hidden (fun (v v' : Value) (w' : World) (h : Rd w' (Old w') 5 v (post t).length ((post t).flatMap rxCells)) (h' : Rd w' (Old w') 5 v' (post t).length ((post t).flatMap rxCells)) => ref07_same v v' (post t) (post t) w' h h')
      rw [show eqB (post t) (post t) = true by unfold eqB; simp] at HSm
      clear HT hr hl htl hrb hts h5
      generalize bs (tex t) = ts at *
      go_enter Tryd.func5, Tryd.ntmps5
      go_wp2_with fail
      refine (HR1.out _).mono ?_
      rintro r w1 ⟨v1, rfl, hb1, h1⟩
      obtain ⟨A1, c1, rfl, -, -⟩ := h1.val
      clear h1 HR1
      go_wp2_with fail
      refine (HR2.out _).mono ?_
      rintro r w2 ⟨v2, rfl, hb2, h2⟩
      have hb2 := hb1.trans (hb2.mono hb1.size)
      have H2 := hidden h2
      obtain ⟨A2, c2, rfl, -, -⟩ := h2.val
      clear h2 HR2
      have HX := hidden (HS.out _ _ hb2 H2.out)
      go_wp2_with fail
      refine HX.out.mono ?_
      rintro r w3 ⟨rfl, hb3⟩
      replace H2 := hidden (H2.out.old hb3)
      have hb3 := hb2.trans (hb3.mono hb2.size)
      clear HX HS
      go_wp2_with fail
      refine (HR3.out _).mono ?_
      rintro r w4 ⟨v4, rfl, hb4, h4⟩
      replace H2 := hidden (H2.out.old hb4)
      have H4 := hidden h4
      have hb4 := hb3.trans (hb4.mono hb3.size)
      obtain ⟨A4, c4, rfl, -, -⟩ := h4.val
      clear h4 HR3
      have HX := hidden (HCk.out _ _ H2.out)
      go_wp2_with fail
      refine HX.out.mono ?_
      rintro r w5 ⟨rfl, rfl⟩
      have HX2 := hidden (HSm.out _ _ _ H2.out H4.out)
      clear HX HSm HCk
      go_wp2_with fail
      refine HX2.out.mono ?_
      rintro r w6 ⟨rfl, hb6⟩
      have hb6 := hb4.trans (hb6.mono hb4.size)
      have HX3 := hidden (HK.out _ hb6)
      clear HX2
      go_wp2_with fail
      refine HX3.out.mono ?_
      rintro r w7 ⟨rfl, hb7⟩
      go_wp2
      go_ret
      exact ⟨by first | rfl | simp, hb6.trans (hb7.mono hb6.size)⟩
    · obtain ⟨rfl, hn⟩ := readM_none hr he
      rw [nb_len] at hn
      have p1 : (e == 0) = false := by simpa using he
      have p2 : (e != 0) = true := by simpa using he
      have p3 : (0 : Int) ≤ (n : Int) := by omega
      have p4 : (n : Int) ≤ (s.size : Int) := by omega
      clear HT hr hl hn he
      go_enter Tryd.func5, Tryd.ntmps5
      go_wp2_with fail
      refine (HR1.out _).mono ?_
      rintro r w1 ⟨v1, rfl, hb1, h1⟩
      obtain ⟨A1, c1, rfl, -, -⟩ := h1.val
      clear h1 HR1
      go_wp2_with fail
      refine (HR2.out _).mono ?_
      rintro r w2 ⟨v2, rfl, hb2, h2⟩
      have hb2 := hb1.trans (hb2.mono hb1.size)
      obtain ⟨A2, c2, rfl, -, -⟩ := h2.val
      clear h2 HR2
      have HX := hidden (HK.out _ hb2)
      go_wp2_with fail
      refine HX.out.mono ?_
      rintro r w3 ⟨rfl, hb3⟩
      go_wp2
      go_ret
      exact ⟨by first | rfl | simp, hb2.trans (hb3.mono hb2.size)⟩
end Go.Proofs.YtfmdmeokbbpmlaaDoor
