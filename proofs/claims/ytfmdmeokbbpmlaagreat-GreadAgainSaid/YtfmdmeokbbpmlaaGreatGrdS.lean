/-
  law20.knows.
-/
import Derived.Test.YtfmdmeokbbpmlaaGreatGrdJ
import Derived.Test.YtfmdmeokbbpmlaaGreatGrdR
import Derived.Test.YtfmdmeokbbpmlaaGreatGprO
import Derived.Test.YtfmdmeokbbpmlaaGreatGramC
namespace Go.Proofs.YtfmdmeokbbpmlaaGreat
open Go.RowKit Go.Shelf

def t20 : RxT := .alt (.set (oneS 97)) (.set (oneS 98))
def tok20 : Token := ⟨⟨#[120]⟩, post t20, 0⟩
def it20 : Item := ⟨false, 0, 1, 2⟩
def g20 : Gram := ⟨[tok20], [sS], [⟨0, [it20]⟩], 0, 9, 9, 9, 9⟩
theorem g20_right : rightB g20 = true := rightC_right (by kernel_rfl)
theorem tok20_ok : tokOk tok20 = true := right_tok (right_is g20_right) (List.mem_singleton.2 rfl)
theorem tex20 : tex t20 = [97, 124, 98] := by kernel_rfl
theorem tok20_line : tokT tok20 = ⟨#[116, 111, 107, 101, 110, 32, 120, 32, 97, 124, 98]⟩ := by
  rw [tok_line tok20_ok]
  show lineB (clsW 0) [⟨#[120]⟩, showR (post t20)] = _
  rw [showR_post t20 (by decide), tex20]
  rfl
theorem show9 : numT 9 = ⟨#[57]⟩ := by
  have e : showI 9 = [57] := by
    unfold showI
    rw [if_neg (by decide), show (9 : Int).toNat = 9 from rfl, digs_lt (by decide)]
    rfl
  unfold numT
  rw [e]
theorem item20 : itemT g20 it20 = ⟨#[126, 120, 43, 50]⟩ := by
  have e : showI 2 = [50] := by
    unfold showI
    rw [if_neg (by decide), show (2 : Int).toNat = 2 from rfl, digs_lt (by decide)]
    rfl
  have hk : itemOk g20 it20 = true := by kernel_rfl
  unfold itemT
  rw [if_pos hk]
  unfold inW
  rw [if_pos (show (0 : Int) < it20.in_ by decide), show it20.in_ = 2 from rfl, e]
  rfl
theorem prod20 : prodT g20 ⟨0, [it20]⟩ = ⟨#[114, 117, 108, 101, 32, 115, 32, 126, 120, 43, 50]⟩ := by
  have hk : prodOk g20 ⟨0, [it20]⟩ = true := by kernel_rfl
  unfold prodT
  rw [if_pos hk]
  show lineB ruleW [sS, itemT g20 it20] = _
  rw [item20]
  rfl
theorem small20 : gramT g20 = ⟨#[98, 111, 117, 110, 100, 32, 115, 116, 97, 116, 101, 115, 32, 57, 10, 98, 111, 117, 110, 100, 32, 116, 101, 120, 116, 32, 57, 10, 98, 111, 117, 110, 100, 32, 110, 111, 100, 101, 115, 32, 57, 10, 98, 111, 117, 110, 100, 32, 112, 97, 105, 114, 115, 32, 57, 10, 116, 111, 107, 101, 110, 32, 120, 32, 97, 124, 98, 10, 114, 117, 108, 101, 115, 32, 115, 10, 115, 116, 97, 114, 116, 32, 115, 10, 114, 117, 108, 101, 32, 115, 32, 126, 120, 43, 50, 10]⟩ := by
  unfold gramT
  rw [if_pos g20_right]
  unfold linesG bndsL
  show textB [lineB (bndW 0) [numT 9], lineB (bndW 1) [numT 9], lineB (bndW 2) [numT 9], lineB (bndW 3) [numT 9], tokT tok20, ruleL g20, startL g20, prodT g20 ⟨0, [it20]⟩] = _
  rw [show9, tok20_line, prod20]
  rfl
theorem g20_back : readG ⟨#[98, 111, 117, 110, 100, 32, 115, 116, 97, 116, 101, 115, 32, 57, 10, 98, 111, 117, 110, 100, 32, 116, 101, 120, 116, 32, 57, 10, 98, 111, 117, 110, 100, 32, 110, 111, 100, 101, 115, 32, 57, 10, 98, 111, 117, 110, 100, 32, 112, 97, 105, 114, 115, 32, 57, 10, 116, 111, 107, 101, 110, 32, 120, 32, 97, 124, 98, 10, 114, 117, 108, 101, 115, 32, 115, 10, 115, 116, 97, 114, 116, 32, 115, 10, 114, 117, 108, 101, 32, 115, 32, 126, 120, 43, 50, 10]⟩ = (g20, 0, 0) := by
  have h := gram_back g20_right (fun t ht y hy => by
    rw [List.mem_singleton.1 ht] at hy
    exact wordy_post t20 y hy) (fun t ht => by
    rw [List.mem_singleton.1 ht]
    show (showR (post t20)).size ≤ 4096
    rw [showR_post t20 (by decide), tex20]
    decide) (lines_of g20_right)
  rw [small20] at h
  rw [h]
  rfl
theorem line_single {s : ByteArray} (h0 : 0 < s.size) (hn : (10 : UInt8) ∉ s.data.toList) : linesOf s = [s] := by
  unfold linesOf
  rw [linesAt_step h0 (Nat.zero_le _) (Nat.le_refl _) (fun j h _ _ e => hn (by
    have := bytes_at h
    exact e ▸ List.mem_of_getElem? this)) (fun h => absurd h (Nat.lt_irrefl _)), linesAt_past (by omega)]
  show [cutTo s (0, s.size)] = [s]
  congr 1
  apply ba_ext
  unfold cutTo
  rw [Lib.extract_data, List.drop_zero, Nat.sub_zero, List.take_of_length_le]
  exact Nat.le_of_eq (bytes_len s)
theorem read_rules : readG ⟨#[114, 117, 108, 101, 115, 32, 115]⟩ = (g0, 0, 5) := by
  unfold readG
  rw [if_neg (by decide), line_single (by decide) (by decide)]
  have hl : (⟨#[114, 117, 108, 101, 115, 32, 115]⟩ : ByteArray) = lineB rulesW [sS] := by rfl
  have hs : stepG ⟨g0, []⟩ ⟨#[114, 117, 108, 101, 115, 32, 115]⟩ = .inr ⟨{ g0 with rules := [sS] }, []⟩ := by
    rw [hl, step_of ⟨by decide, by decide⟩ (fun y hy => by rw [List.mem_singleton.1 hy]; exact name_wd sS_name) (by decide)]
    unfold lineG
    rw [if_neg (by decide), if_neg (by decide), if_pos (by decide)]
    rw [rulesG, fresh_ok sS_name (by simp [tokNames, g0]) (by simp [g0]), if_neg (by decide), rulesG]
    rfl
  rw [linesR, hs]
  rfl
theorem read_tok : readG ⟨#[116, 111, 107]⟩ = (g0, 1, 23) := by
  unfold readG
  rw [if_neg (by decide), line_single (by decide) (by decide)]
  have hl : (⟨#[116, 111, 107]⟩ : ByteArray) = lineB ⟨#[116, 111, 107]⟩ [] := by rfl
  have hs : stepG ⟨g0, []⟩ ⟨#[116, 111, 107]⟩ = .inl 23 := by
    rw [hl, step_of ⟨by decide, by decide⟩ (fun y hy => by cases hy) (by decide)]
    unfold lineG
    rw [if_neg (by decide), if_neg (by decide), if_neg (by decide), if_neg (by decide), if_neg (by decide)]
  rw [linesR, hs]
set_option maxRecDepth 20000 in
set_option maxHeartbeats 8000000 in
theorem small_is (w : World) : Calls Tryz.prog 16 #[] w fun r w' => r = .returned (.string ⟨#[98, 111, 117, 110, 100, 32, 115, 116, 97, 116, 101, 115, 32, 57, 10, 98, 111, 117, 110, 100, 32, 116, 101, 120, 116, 32, 57, 10, 98, 111, 117, 110, 100, 32, 110, 111, 100, 101, 115, 32, 57, 10, 98, 111, 117, 110, 100, 32, 112, 97, 105, 114, 115, 32, 57, 10, 116, 111, 107, 101, 110, 32, 120, 32, 97, 124, 98, 10, 114, 117, 108, 101, 115, 32, 115, 10, 115, 116, 97, 114, 116, 32, 115, 10, 114, 117, 108, 101, 32, 115, 32, 126, 120, 43, 50, 10]⟩) ∧ w = w' := by
  go_enter Tryz.func16, Tryz.ntmps16
  go_wp2
  go_ret
  exact ⟨rfl, rfl⟩
set_option maxRecDepth 20000 in
set_option maxHeartbeats 16000000 in
theorem knows20 (W : World) : Calls Tryz.prog 6 #[] W fun r w' => r = .returned (.bool true) ∧ Below W.heap.size W w' := by
  have H1 := hidden (gr_Read ⟨#[114, 117, 108, 101, 115, 32, 115]⟩ W)
  rw [read_rules] at H1
  have H2 := hidden (fun w' => gr_Read ⟨#[116, 111, 107]⟩ w')
  rw [read_tok] at H2
  have H3 := hidden (fun w' => gr_Read ⟨#[98, 111, 117, 110, 100, 32, 115, 116, 97, 116, 101, 115, 32, 57, 10, 98, 111, 117, 110, 100, 32, 116, 101, 120, 116, 32, 57, 10, 98, 111, 117, 110, 100, 32, 110, 111, 100, 101, 115, 32, 57, 10, 98, 111, 117, 110, 100, 32, 112, 97, 105, 114, 115, 32, 57, 10, 116, 111, 107, 101, 110, 32, 120, 32, 97, 124, 98, 10, 114, 117, 108, 101, 115, 32, 115, 10, 115, 116, 97, 114, 116, 32, 115, 10, 114, 117, 108, 101, 32, 115, 32, 126, 120, 43, 50, 10]⟩ w')
  rw [g20_back] at H3
  have H4 := hidden (fun w' => small_is w')
  obtain ⟨sm, hsm⟩ : ∃ sm : ByteArray, Hid (⟨#[98, 111, 117, 110, 100, 32, 115, 116, 97, 116, 101, 115, 32, 57, 10, 98, 111, 117, 110, 100, 32, 116, 101, 120, 116, 32, 57, 10, 98, 111, 117, 110, 100, 32, 110, 111, 100, 101, 115, 32, 57, 10, 98, 111, 117, 110, 100, 32, 112, 97, 105, 114, 115, 32, 57, 10, 116, 111, 107, 101, 110, 32, 120, 32, 97, 124, 98, 10, 114, 117, 108, 101, 115, 32, 115, 10, 115, 116, 97, 114, 116, 32, 115, 10, 114, 117, 108, 101, 32, 115, 32, 126, 120, 43, 50, 10]⟩ = sm) := ⟨_, hidden rfl⟩
  rw [hsm.out] at H3 H4
  clear hsm
  go_enter Tryz.func6, Tryz.ntmps6
  go_wp2_with fail
  refine H1.out.mono ?_
  intro r w1 h
  obtain ⟨a, b, c, rfl, hG, hb1⟩ := h.out
  obtain ⟨A1, k1, rfl, -, -⟩ := hG.1.value
  obtain ⟨A2, k2, rfl, -, -⟩ := hG.2.1.val
  obtain ⟨A3, k3, rfl, -, -⟩ := hG.2.2.value
  clear h hG H1
  unfold gramCells g0
  dsimp only
  go_wp2_with fail
  refine (H2.out _).mono ?_
  intro r w2 h
  obtain ⟨a, b, c, rfl, hG, hb2⟩ := h.out
  obtain ⟨B1, j1, rfl, -, -⟩ := hG.1.value
  obtain ⟨B2, j2, rfl, -, -⟩ := hG.2.1.val
  obtain ⟨B3, j3, rfl, -, -⟩ := hG.2.2.value
  clear h hG H2
  unfold gramCells g0
  dsimp only
  go_wp2_with fail
  refine (H4.out _).mono ?_
  rintro r w9 ⟨rfl, hw9⟩
  subst hw9
  clear H4
  go_wp2_with fail
  refine (H3.out _).mono ?_
  intro r w3 h
  obtain ⟨a, b, c, rfl, hG, hb3⟩ := h.out
  obtain ⟨C1, l1, rfl, -, -⟩ := hG.1.value
  obtain ⟨C2, l2, rfl, -, -⟩ := hG.2.1.val
  obtain ⟨C3, l3, rfl, -, -⟩ := hG.2.2.value
  obtain ⟨pb, po, lv, rfl, hT, hat, hin⟩ := hG.2.2.at_ (i := 0) (x := ⟨0, [it20]⟩) rfl
  obtain ⟨I1, m1, rfl, -, -⟩ := hin.val
  have x1 : w3.cell? ⟨pb, po + 0 * 2 + 1, none⟩ = some (.slice I1 1 m1) := hat 1 _ rfl
  have hin2 : Rd w3 (Old w3) 4 (.slice I1 1 m1) 1 ([it20].flatMap itCells) := hin
  obtain ⟨ib, io, rfl, hT2, hat2⟩ := Rd.flat_at (i := 0) (x := it20) hin2 (fun _ => rfl) (by decide) rfl
  have y0 : w3.cell? ⟨ib, io + 0 * 4 + 0, none⟩ = some (.bool false) := hat2 0 _ rfl
  have y1 : w3.cell? ⟨ib, io + 0 * 4 + 1, none⟩ = some (.int .i64 0) := hat2 1 _ rfl
  have y2 : w3.cell? ⟨ib, io + 0 * 4 + 2, none⟩ = some (.int .i64 1) := hat2 2 _ rfl
  have y3 : w3.cell? ⟨ib, io + 0 * 4 + 3, none⟩ = some (.int .i64 2) := hat2 3 _ rfl
  rw [Nat.zero_mul, Nat.add_zero] at x1 y0 y1 y2 y3
  have hbp : pb < w3.heap.size := hT
  have hbi : ib < w3.heap.size := hT2
  have hq : ∀ w, (Op.equalIn 10000 47 (.agg #[.bool false, .int .i64 0, .int .i64 1, .int .i64 2]) (.agg #[.bool false, .int .i64 0, .int .i64 1, .int .i64 2])).run Tryz.prog w = .ok true w := fun w => by
    have := it_eq_run w it20 it20
    rw [eqB_self] at this
    exact this
  have hbb : Below W.heap.size W w3 := by
    have e1 := hb1.alloc hb1.size (.cells #[.slice A1 0 k1, .slice A2 0 k2, .slice A3 0 k3, .int .i64 0, .int .i64 0, .int .i64 0, .int .i64 0, .int .i64 0] 27)
    have e2 := e1.trans (hb2.mono e1.size)
    have e3 := e2.alloc e2.size (.cells #[.slice B1 0 j1, .slice B2 0 j2, .slice B3 0 j3, .int .i64 0, .int .i64 0, .int .i64 0, .int .i64 0, .int .i64 0] 27)
    exact e3.trans (hb3.mono e3.size)
  clear h hG H3 hin hin2 hat hat2 hT hT2 hb1 hb2 hb3
  unfold gramCells g20
  dsimp only
  rw [show ([tok20] : List Token).length = 1 from rfl, show ([sS] : List ByteArray).length = 1 from rfl, show ([⟨0, [it20]⟩] : List Prod).length = 1 from rfl]
  go_wp2
  go_ret
  exact ⟨rfl, hbb.alloc hbb.size _⟩
end Go.Proofs.YtfmdmeokbbpmlaaGreat
