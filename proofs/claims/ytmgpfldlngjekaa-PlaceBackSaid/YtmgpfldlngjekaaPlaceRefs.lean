/-
  place.Of, place.Line, place.Lines and the references' Lines, At, Of, Line: what each computes.
-/
import Derived.Test.YtmgpfldlngjekaaPlaceFind
import Derived.Outline
namespace Go.Proofs.Ytmgpfldlngjekaa
open Go.RowKit Go.Shelf

def intOkV : Option Int → Value
  | some n => .tuple #[.int .i64 n, .bool true]
  | none => .tuple #[.int .i64 0, .bool false]

set_option maxHeartbeats 1000000 in
theorem place_Of (s : ByteArray) (L C : Int) (w : World) (hs63 : s.size ≤ 140737488355328) (h1 : -9223372036854775808 ≤ L) (h2 : L ≤ 9223372036854775807) :
    Calls Try.prog 21 #[.string s, .agg #[.int .i64 L, .int .i64 C]] w fun e w' => e = .returned (intOkV (placeNo (lineSpans s) L C)) ∧ Below w.heap.size w w' := by
  have HF := hidden (fun w => place_find s L w hs63 h1 h2)
  unfold placeNo
  cases hx : spanNo (lineSpans s) L with
  | none =>
    rw [hx] at HF
    clear hx
    go_enter Try.func21, Try.ntmps21
    go_wp2_with fail
    refine (HF.out _).mono ?_
    rintro e w1 ⟨rfl, hb1⟩
    have q0 := (Holds.new w 35 #[.int .i64 L, .int .i64 C]).below hb1 (by simp)
    have hb := ((Below.refl w.heap.size w).alloc (Nat.le_refl _) (.cells #[.int .i64 L, .int .i64 C] 35)).trans (hb1.mono (by simp))
    have hbz := hb.size
    dsimp only [findV]
    go_wp2
    refine bodyPost_ret (v := .tuple #[.int .i64 0, .bool false]) ?_ rfl ⟨rfl, (by repeat (first | (with_reducible exact Below.refl _ _) | (with_reducible assumption) | (with_reducible refine Below.drew ?_) | ((with_reducible refine below_alloc ?_ ?_); (focus (first | omega | (simp; done) | (simp; omega)))) | ((with_reducible refine below_set ?_ ?_); (focus (first | omega | (simp; done) | (simp; omega))))))⟩
    simp [results, Try.f21, go_sem]
  | some x =>
    rw [hx] at HF
    have hb63 : x.1 ≤ x.2 ∧ x.2 ≤ s.size := by
      unfold spanNo at hx
      split at hx
      · exact ⟨(spansOf_ge _ _ _ x hx).2, span_end s _ x hx⟩
      · cases hx
    clear hx
    obtain ⟨f, t⟩ := x
    dsimp only at hb63
    simp only [findV] at HF
    by_cases hC : 1 ≤ C ∧ C ≤ (t : Int) - f + 1
    · simp only [if_pos hC]
      obtain ⟨hC1, hC2⟩ := hC
      go_enter Try.func21, Try.ntmps21
      go_wp2_with fail
      refine (HF.out _).mono ?_
      rintro e w1 ⟨rfl, hb1⟩
      have q0 := (Holds.new w 35 #[.int .i64 L, .int .i64 C]).below hb1 (by simp)
      have hb := ((Below.refl w.heap.size w).alloc (Nat.le_refl _) (.cells #[.int .i64 L, .int .i64 C] 35)).trans (hb1.mono (by simp))
      have hbz := hb.size
      have c0 := q0.c20; have c1 := q0.c21; have hlt := q0.lt
      clear hb1 q0
      go_wp2
      refine bodyPost_ret (v := .tuple #[.int .i64 (f + C - 1), .bool true]) ?_ rfl ⟨rfl, (by repeat (first | (with_reducible exact Below.refl _ _) | (with_reducible assumption) | (with_reducible refine Below.drew ?_) | ((with_reducible refine below_alloc ?_ ?_); (focus (first | omega | (simp; done) | (simp; omega)))) | ((with_reducible refine below_set ?_ ?_); (focus (first | omega | (simp; done) | (simp; omega))))))⟩
      simp [results, Try.f21, go_sem]
    · simp only [if_neg hC]
      go_enter Try.func21, Try.ntmps21
      go_wp2_with fail
      refine (HF.out _).mono ?_
      rintro e w1 ⟨rfl, hb1⟩
      have q0 := (Holds.new w 35 #[.int .i64 L, .int .i64 C]).below hb1 (by simp)
      have hb := ((Below.refl w.heap.size w).alloc (Nat.le_refl _) (.cells #[.int .i64 L, .int .i64 C] 35)).trans (hb1.mono (by simp))
      have hbz := hb.size
      have c0 := q0.c20; have c1 := q0.c21; have hlt := q0.lt
      clear hb1 q0
      go_wp2
      all_goals first
        | (exfalso; omega)
        | (refine bodyPost_ret (v := .tuple #[.int .i64 0, .bool false]) ?_ rfl ⟨rfl, (by repeat (first | (with_reducible exact Below.refl _ _) | (with_reducible assumption) | (with_reducible refine Below.drew ?_) | ((with_reducible refine below_alloc ?_ ?_); (focus (first | omega | (simp; done) | (simp; omega)))) | ((with_reducible refine below_set ?_ ?_); (focus (first | omega | (simp; done) | (simp; omega))))))⟩
           simp [results, Try.f21, go_sem])

def lineV (s : ByteArray) : Option (Nat × Nat) → Value
  | some x => .tuple #[.string (s.extract x.1 x.2), .bool true]
  | none => .tuple #[.string ByteArray.empty, .bool false]

set_option maxHeartbeats 1000000 in
theorem place_Line (s : ByteArray) (L : Int) (w : World) (hs63 : s.size ≤ 140737488355328) (h1 : -9223372036854775808 ≤ L) (h2 : L ≤ 9223372036854775807) :
    Calls Try.prog 23 #[.string s, .int .i64 L] w fun e w' => e = .returned (lineV s (spanNo (lineSpans s) L)) ∧ Below w.heap.size w w' := by
  have HF := hidden (fun w => place_find s L w hs63 h1 h2)
  cases hx : spanNo (lineSpans s) L with
  | none =>
    rw [hx] at HF
    clear hx
    have hz : (0 : Int) ≤ s.size := by omega
    go_enter Try.func23, Try.ntmps23
    go_wp2_with fail
    refine (HF.out _).mono ?_
    rintro e w1 ⟨rfl, hb1⟩
    have hbz := hb1.size
    dsimp only [findV]
    go_wp2
    refine bodyPost_ret (v := .tuple #[.string ByteArray.empty, .bool false]) ?_ rfl ⟨rfl, (by repeat (first | (with_reducible exact Below.refl _ _) | (with_reducible assumption) | (with_reducible refine Below.drew ?_) | ((with_reducible refine below_alloc ?_ ?_); (focus (first | omega | (simp; done) | (simp; omega)))) | ((with_reducible refine below_set ?_ ?_); (focus (first | omega | (simp; done) | (simp; omega))))))⟩
    simp [results, Try.f23, go_sem]
  | some x =>
    rw [hx] at HF
    have hb63 : x.1 ≤ x.2 ∧ x.2 ≤ s.size := by
      unfold spanNo at hx
      split at hx
      · exact ⟨(spansOf_ge _ _ _ x hx).2, span_end s _ x hx⟩
      · cases hx
    clear hx
    obtain ⟨f, t⟩ := x
    obtain ⟨k1, k2⟩ := hb63
    dsimp only at k1 k2
    simp only [findV] at HF
    have k3 : (f : Int) ≤ (t : Int) := by omega
    have k4 : (t : Int) ≤ (s.size : Int) := by omega
    go_enter Try.func23, Try.ntmps23
    go_wp2_with fail
    refine (HF.out _).mono ?_
    rintro e w1 ⟨rfl, hb1⟩
    have hbz := hb1.size
    go_wp2
    refine bodyPost_ret (v := .tuple #[.string (s.extract f t), .bool true]) ?_ rfl ⟨rfl, (by repeat (first | (with_reducible exact Below.refl _ _) | (with_reducible assumption) | (with_reducible refine Below.drew ?_) | ((with_reducible refine below_alloc ?_ ?_); (focus (first | omega | (simp; done) | (simp; omega)))) | ((with_reducible refine below_set ?_ ?_); (focus (first | omega | (simp; done) | (simp; omega))))))⟩
    simp [results, Try.f23, go_sem]

/-- How many bytes 10 there are. -/
def nls (l : List UInt8) : Nat := l.count 10
theorem nls_le (l : List UInt8) : nls l ≤ l.length := List.count_le_length

theorem count_string (s : ByteArray) (w : World) :
    Calls Try.prog 29 #[.string s, .string ⟨#[10]⟩] w fun e w' => e = .returned (.int .i64 (nls s.data.toList)) ∧ w = w' := by
  go_enter Try.func29, Try.ntmps29
  go_wp2
  rw [run_callFunc_extern Try.func33 (by kernel_rfl) (by kernel_rfl) (by kernel_rfl) (e := Extern.BytealgCount.count) (by kernel_rfl), Lib.run_countString]
  simp only [Result.andThen]
  rw [Oper.upon_value, show (Lib.countByte s.data.toList ((((⟨#[10]⟩ : ByteArray)[0]'(by decide)).toNat : Int)).toNat.toUInt8) = nls s.data.toList from rfl]
  go_wp2
  go_ret
  exact ⟨rfl, rfl⟩

theorem place_Lines (s : ByteArray) (w : World) (hs63 : s.size ≤ 140737488355328) :
    Calls Try.prog 25 #[.string s] w fun e w' => e = .returned (.int .i64 (nls s.data.toList + 1)) ∧ w = w' := by
  have hc : nls s.data.toList ≤ s.size := by rw [Lib.size_eq]; exact nls_le _
  go_enter Try.func25, Try.ntmps25
  go_wp2_with (go_at_call 29; refine (count_string _ _).mono ?_; rintro e w' ⟨rfl, rfl⟩)
  go_ret
  exact ⟨rfl, rfl⟩

theorem byte_is (c : UInt8) : (((c.toNat : Int) == 10) = true) ↔ c = 10 := by
  rw [beq_iff_eq]
  constructor
  · intro h; exact UInt8.toNat_inj.1 (by simpa using (by omega : c.toNat = 10))
  · intro h; subst h; rfl
theorem nls_take_succ (s : ByteArray) (k : Nat) (h : k < s.size) : nls (s.data.toList.take (k + 1)) = nls (s.data.toList.take k) + if ((s[k].toNat : Int) == 10) = true then 1 else 0 := by
  have e : s.data.toList.take (k + 1) = s.data.toList.take k ++ [s[k]] := by
    rw [List.take_succ_eq_append_getElem (by rw [← Lib.size_eq]; exact h)]; rfl
  unfold nls
  rw [e, List.count_append]
  simp only [byte_is]
  by_cases h10 : s[k] = 10 <;> simp [h10]

set_option maxHeartbeats 400000 in
theorem ref_Lines (s : ByteArray) (w : World) (hs63 : s.size ≤ 140737488355328) :
    Calls Try.prog 26 #[.string s] w fun e w' => e = .returned (.int .i64 (nls s.data.toList + 1)) ∧ w = w' := by
  go_enter Try.func26, Try.ntmps26
  go_wp2
  go_loop [3, 4] (fun n i => ∃ k : Nat, k ≤ s.size ∧ i = .int .i64 k ∧ n = .int .i64 (nls (s.data.toList.take k) + 1)) (fun _ i => s.size - (intOf i).toNat)
  case atStart => exact ⟨0, Nat.zero_le _, rfl, rfl⟩
  case round =>
    obtain ⟨k, hk, rfl, rfl⟩ := hrel
    have hc : nls (s.data.toList.take k) ≤ k := Nat.le_trans (nls_le _) (List.length_take_le _ _)
    by_cases hlt : k < s.size
    · have HS := hidden (nls_take_succ s k hlt)
      go_wp2
      · exact ⟨⟨k + 1, by omega, by go_num, by rw [HS.out, if_pos (by assumption)]; go_num⟩, by simp [intOf]; omega⟩
      · exact ⟨⟨k + 1, by omega, by go_num, by rw [HS.out, if_neg (ne_true_of_eq_false (by assumption))]; go_num⟩, by simp [intOf]; omega⟩
    · go_wp2
      go_ret
      exact ⟨ret_int (by rw [List.take_of_length_le (by rw [← Lib.size_eq]; omega)]), rfl⟩

theorem colN_of (s : ByteArray) (p b : Nat) (hp : p ≤ s.size) (hb : b ≤ p) (hno : ∀ i, b ≤ i → i < p → s.data.toList[i]? ≠ some 10) (hend : b = 0 ∨ (1 ≤ b ∧ s.data.toList[b - 1]? = some 10)) : colN s.data.toList p = p - b := by
  rw [Lib.size_eq] at hp
  generalize s.data.toList = l at *
  unfold colN
  have e : l.take p = l.take b ++ (l.take p).drop b := by
    conv => lhs; rw [← List.take_append_drop b (l.take p), List.take_take, Nat.min_eq_left hb]
  have hnot : ∀ c ∈ ((l.take p).drop b).reverse, (c != 10) = true := by
    intro c hc
    rw [List.mem_reverse, List.mem_iff_getElem?] at hc
    obtain ⟨i, hi⟩ := hc
    rw [List.getElem?_drop, List.getElem?_take] at hi
    split at hi
    · rw [bne_iff_ne]; intro e10; subst e10; exact hno (b + i) (by omega) (by assumption) hi
    · cases hi
  rw [e, List.reverse_append, List.takeWhile_append_of_pos hnot]
  have hrest : ((l.take b).reverse.takeWhile (· != 10)) = [] := by
    rcases hend with h0 | ⟨hb1, h10⟩
    · subst h0; rfl
    · obtain ⟨b', rfl⟩ : ∃ b', b = b' + 1 := ⟨b - 1, by omega⟩
      simp at h10
      obtain ⟨hl, hx⟩ := List.getElem?_eq_some_iff.1 h10
      rw [List.take_succ_eq_append_getElem hl, hx, List.reverse_append]
      rfl
  rw [hrest, List.append_nil, List.length_reverse, List.length_drop, List.length_take]
  omega

theorem byte_at (s : ByteArray) (i : Nat) (h : i < s.size) : s.data.toList[i]? = some s[i] := by
  rw [List.getElem?_eq_getElem (by rw [← Lib.size_eq]; exact h)]; rfl

/-- What the reference says of a place. -/
def refAt (s : ByteArray) (p : Int) : Option (Int × Int) :=
  if 0 ≤ p ∧ p ≤ s.size then some ((nls (s.data.toList.take p.toNat) + 1 : Nat), (colN s.data.toList p.toNat + 1 : Nat)) else none

set_option maxHeartbeats 1000000 in
theorem ref_At_yes (s : ByteArray) (p : Nat) (w : World) (hs63 : s.size ≤ 140737488355328) (hp : p ≤ s.size) :
    Calls Try.prog 20 #[.string s, .int .i64 p] w fun e w' => e = .returned (spotV (refAt s p)) ∧ Below w.heap.size w w' := by
  have k1 : decide (s.size < p) = false := by simp; omega
  have k2 : (p : Int) ≤ s.size := by omega
  have HR : ∀ w, Calls Try.prog 26 #[.string (s.extract 0 p)] w fun e w' => e = .returned (.int .i64 (nls (s.data.toList.take p) + 1)) ∧ w = w' := by
    intro w
    have h := ref_Lines (s.extract 0 p) w (by rw [Lib.size_eq, Lib.extract_data, List.length_take, List.length_drop, ← Lib.size_eq]; omega)
    rw [Lib.extract_data, List.drop_zero, Nat.sub_zero] at h
    exact h
  have HR' := hidden HR
  have hnl : nls (s.data.toList.take p) ≤ p := Nat.le_trans (nls_le _) (List.length_take_le _ _)
  have hres : ∀ b : Nat, b ≤ p → (∀ i, b ≤ i → i < p → s.data.toList[i]? ≠ some 10) → (b = 0 ∨ (1 ≤ b ∧ s.data.toList[b - 1]? = some 10)) →
      spotV (refAt s p) = .tuple #[.agg #[.int .i64 (nls (s.data.toList.take p) + 1), .int .i64 ((p : Int) - b + 1)], .bool true] := by
    intro b h1 h2 h3
    unfold refAt
    rw [if_pos (by omega), Int.toNat_natCast, colN_of s p b hp h1 h2 h3]
    simp [spotV]; omega
  have HRES := hidden hres
  clear HR hres
  generalize nls (s.data.toList.take p) = L at *
  go_enter Try.func20, Try.ntmps20
  go_wp2
  go_loop [6] (fun i => ∃ b : Nat, b ≤ p ∧ i = .int .i64 b ∧ Hid (∀ i, b ≤ i → i < p → s.data.toList[i]? ≠ some 10)) (fun i => (intOf i).toNat)
  case atStart => exact ⟨p, Nat.le_refl _, rfl, hidden (fun i h1 h2 => by omega)⟩
  case round =>
    obtain ⟨b, hb, rfl, hno⟩ := hrel
    by_cases hb0 : b = 0
    · subst hb0
      go_wp2_with (go_at_call 26; refine (HR'.out _).mono ?_; rintro e w' ⟨rfl, rfl⟩)
      refine bodyPost_ret (v := .tuple #[.agg #[.int .i64 (L + 1), .int .i64 (p + 1)], .bool true]) ?_ rfl ⟨?_, (by repeat (first | (with_reducible exact Below.refl _ _) | (with_reducible assumption) | (with_reducible refine Below.drew ?_) | ((with_reducible refine below_alloc ?_ ?_); (focus (first | omega | (simp; done) | (simp; omega)))) | ((with_reducible refine below_set ?_ ?_); (focus (first | omega | (simp; done) | (simp; omega))))))⟩
      · simp [results, Try.f20, go_sem]
      · rw [HRES.out 0 (by omega) hno.out (.inl rfl)]; simp
    · obtain ⟨b, rfl⟩ : ∃ c, b = c + 1 := ⟨b - 1, by omega⟩
      have hbs : b < s.size := by omega
      by_cases h10 : s[b] = 10
      · have hby : ((s[b].toNat : Int) != 10) = false := by rw [bne_eq_false_iff_eq, h10]; rfl
        have HB := hidden (byte_at s b hbs ▸ congrArg some h10)
        clear h10
        go_wp2_with (go_at_call 26; refine (HR'.out _).mono ?_; rintro e w' ⟨rfl, rfl⟩)
        refine bodyPost_ret (v := .tuple #[.agg #[.int .i64 (L + 1), .int .i64 ((p : Int) - (b + 1) + 1)], .bool true]) ?_ rfl ⟨?_, (by repeat (first | (with_reducible exact Below.refl _ _) | (with_reducible assumption) | (with_reducible refine Below.drew ?_) | ((with_reducible refine below_alloc ?_ ?_); (focus (first | omega | (simp; done) | (simp; omega)))) | ((with_reducible refine below_set ?_ ?_); (focus (first | omega | (simp; done) | (simp; omega))))))⟩
        · simp [results, Try.f20, go_sem]
        · rw [HRES.out (b + 1) hb hno.out (.inr ⟨by omega, HB.out⟩)]; simp
      · have hby : ((s[b].toNat : Int) != 10) = true := by rw [bne_iff_ne]; exact fun e => h10 ((byte_is _).1 (beq_iff_eq.2 e))
        have HB := hidden h10
        clear h10
        go_wp2_with (go_at_call 26; refine (HR'.out _).mono ?_; rintro e w' ⟨rfl, rfl⟩)
        refine ⟨⟨b, by omega, rfl, hidden (fun i h1 h2 => ?_)⟩, by simp [intOf]⟩
        by_cases e : i = b
        · subst e
          rw [byte_at s i hbs]
          exact fun e => HB.out (Option.some.inj e)
        · exact hno.out i (by omega) h2

theorem ref_At_no (s : ByteArray) (p : Int) (w : World) (h : ¬ (0 ≤ p ∧ p ≤ s.size)) :
    Calls Try.prog 20 #[.string s, .int .i64 p] w fun e w' => e = .returned (spotV (refAt s p)) ∧ Below w.heap.size w w' := by
  have E : spotV (refAt s p) = .tuple #[.agg #[.int .i64 0, .int .i64 0], .bool false] := by unfold refAt; rw [if_neg h]; rfl
  rw [E]
  go_enter Try.func20, Try.ntmps20
  go_wp2
  all_goals first
    | (exfalso; omega)
    | (refine bodyPost_ret (v := .tuple #[.agg #[.int .i64 0, .int .i64 0], .bool false]) ?_ rfl ⟨rfl, (by repeat (first | (with_reducible exact Below.refl _ _) | (with_reducible assumption) | (with_reducible refine Below.drew ?_) | ((with_reducible refine below_alloc ?_ ?_); (focus (first | omega | (simp; done) | (simp; omega)))) | ((with_reducible refine below_set ?_ ?_); (focus (first | omega | (simp; done) | (simp; omega))))))⟩
       simp [results, Try.f20, go_sem])

theorem ref_At (s : ByteArray) (p : Int) (w : World) (hs63 : s.size ≤ 140737488355328) :
    Calls Try.prog 20 #[.string s, .int .i64 p] w fun e w' => e = .returned (spotV (refAt s p)) ∧ Below w.heap.size w w' := by
  by_cases h : 0 ≤ p ∧ p ≤ s.size
  · obtain ⟨q, rfl⟩ := Int.eq_ofNat_of_zero_le h.1
    exact ref_At_yes s q w hs63 (by omega)
  · exact ref_At_no s p w h

/-- The reference's answer is the lines' own. -/
theorem refAt_eq (s : ByteArray) (p : Int) : refAt s p = atFrom 0 p (lineSpans s) := by
  unfold refAt
  split
  · rename_i h
    obtain ⟨q, rfl⟩ := Int.eq_ofNat_of_zero_le h.1
    have := at_spot s.data.toList 0 0 q (by rw [← Lib.size_eq]; omega)
    rw [Nat.zero_add] at this
    rw [lineSpans, this, Int.toNat_natCast]
    simp [nls]
  · rename_i h
    cases e : atFrom 0 p (lineSpans s) with
    | none => rfl
    | some x =>
      obtain ⟨L, C⟩ := x
      obtain ⟨i, x, h1, h2, h3, h4, h5⟩ := atFrom_inv _ 0 0 p L C e
      have := span_end s i x h1
      omega

theorem placeNo_some {s : ByteArray} {L C p : Int} (h : atFrom 0 p (lineSpans s) = some (L, C)) : placeNo (lineSpans s) L C = some p := (placeNo_iff _ L C p).2 h
theorem placeNo_none {s : ByteArray} {L C : Int} (h : ∀ j : Nat, j < s.size + 1 → atFrom 0 j (lineSpans s) ≠ some (L, C)) : placeNo (lineSpans s) L C = none := by
  cases e : placeNo (lineSpans s) L C with
  | none => rfl
  | some p =>
    have h1 := (placeNo_iff _ L C p).1 e
    have h2 := refAt_eq s p
    unfold refAt at h2
    split at h2
    · rename_i hp
      obtain ⟨q, rfl⟩ := Int.eq_ofNat_of_zero_le hp.1
      exact absurd h1 (h q (by omega))
    · rw [show lineSpans s = spansOf 0 (cutLines s.data.toList) from rfl, h1] at h2
      cases h2

set_option maxHeartbeats 1000000 in
theorem ref_Of (s : ByteArray) (L C : Int) (w : World) (hs63 : s.size ≤ 140737488355328) :
    Calls Try.prog 22 #[.string s, .agg #[.int .i64 L, .int .i64 C]] w fun e w' => e = .returned (intOkV (placeNo (lineSpans s) L C)) ∧ Below w.heap.size w w' := by
  have HA := hidden (fun p w => ref_At s p w hs63)
  go_enter Try.func22, Try.ntmps22
  go_wp2
  have hq := Holds.new w 35 #[.int .i64 L, .int .i64 C]
  have hb := (Below.refl w.heap.size w).alloc (Nat.le_refl _) (.cells #[.int .i64 L, .int .i64 C] 35)
  generalize w.alloc (.cells #[.int .i64 L, .int .i64 C] 35) = W0 at *
  go_loopw [6] (fun i wr => ∃ k : Nat, k ≤ s.size + 1 ∧ i = .int .i64 k ∧ Holds wr w.heap.size 35 #[.int .i64 L, .int .i64 C] ∧ Below w.heap.size w wr ∧ Hid (∀ j : Nat, j < k → atFrom 0 j (lineSpans s) ≠ some (L, C)))
    (fun i _ => s.size + 1 - (intOf i).toNat)
  case atStart => exact ⟨0, by omega, rfl, hq, hb, hidden (fun j hj => by omega)⟩
  case round =>
    clear hq hb
    obtain ⟨k, hk, rfl, hq, hb, hno⟩ := hrel
    have hbz := hb.size
    by_cases hlt : k ≤ s.size
    · cases hx : atFrom 0 (k : Int) (lineSpans s) with
      | none =>
        exfalso
        rw [← refAt_eq, refAt, if_pos (by omega)] at hx
        cases hx
      | some x =>
        obtain ⟨L', C'⟩ := x
        have HK : ∀ w, Calls Try.prog 20 #[.string s, .int .i64 k] w fun e w' => e = .returned (.tuple #[.agg #[.int .i64 L', .int .i64 C'], .bool true]) ∧ Below w.heap.size w w' := by
          intro w
          have h := HA.out k w
          rw [refAt_eq, hx] at h
          exact h
        have HK' := hidden HK
        have HX := hidden hx
        clear HK hx HA
        go_wp2_with fail
        refine (HK'.out _).mono ?_
        rintro e w1 ⟨rfl, hb1⟩
        replace hq := hq.below hb1 hq.lt
        have hbb := hb.trans (hb1.mono hb.size)
        have c0 := hq.c20; have c1 := hq.c21; have hlq := hq.lt
        have hbbz := hbb.size
        clear hb1 hb
        go_wp2
        · refine bodyPost_ret (v := .tuple #[.int .i64 k, .bool true]) ?_ rfl ⟨?_, (by repeat (first | (with_reducible exact Below.refl _ _) | (with_reducible assumption) | (with_reducible refine Below.drew ?_) | ((with_reducible refine below_alloc ?_ ?_); (focus (first | omega | (simp; done) | (simp; omega)))) | ((with_reducible refine below_set ?_ ?_); (focus (first | omega | (simp; done) | (simp; omega))))))⟩
          · simp [results, Try.f22, go_sem]
          · rename_i e1 e2
            subst e1; subst e2
            rw [placeNo_some HX.out]; rfl
        all_goals
          refine ⟨⟨k + 1, by omega, by go_num, (by repeat (first | (with_reducible assumption) | ((with_reducible refine holds_new ?_); (focus (first | rfl | (simp; done)))) | (with_reducible refine Holds.alloc ?_ _) | (with_reducible refine Holds.drew ?_))), (by repeat (first | (with_reducible exact Below.refl _ _) | (with_reducible assumption) | (with_reducible refine Below.drew ?_) | ((with_reducible refine below_alloc ?_ ?_); (focus (first | omega | (simp; done) | (simp; omega)))) | ((with_reducible refine below_set ?_ ?_); (focus (first | omega | (simp; done) | (simp; omega)))))), hidden (fun j hj => ?_)⟩, by simp [intOf]; omega⟩
          by_cases e : j = k
          · subst e
            intro e
            rw [HX.out] at e
            simp at e
            omega
          · exact hno.out j (by omega)
    · obtain rfl : k = s.size + 1 := by omega
      clear HA
      go_wp2
      refine bodyPost_ret (v := .tuple #[.int .i64 0, .bool false]) ?_ rfl ⟨by rw [placeNo_none hno.out]; rfl, (by repeat (first | (with_reducible exact Below.refl _ _) | (with_reducible assumption) | (with_reducible refine Below.drew ?_) | ((with_reducible refine below_alloc ?_ ?_); (focus (first | omega | (simp; done) | (simp; omega)))) | ((with_reducible refine below_set ?_ ?_); (focus (first | omega | (simp; done) | (simp; omega))))))⟩
      simp [results, Try.f22, go_sem]
end Go.Proofs.Ytmgpfldlngjekaa
