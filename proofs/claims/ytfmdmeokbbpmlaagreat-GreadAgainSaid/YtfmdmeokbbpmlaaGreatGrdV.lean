/-
  Remarks and empty lines ahead of each line, and blanks between words, make no difference but to a line's number. Plain.
-/
import Derived.Test.YtfmdmeokbbpmlaaGreatGrdR
import Derived.Test.YtfmdmeokbbpmlaaGreatGprO
namespace Go.Proofs.YtfmdmeokbbpmlaaGreat
open Go.RowKit Go.Shelf

theorem line_no_ten {s : ByteArray} : ∀ l ∈ linesOf s, (10 : UInt8) ∉ l.data.toList := by
  have h : ∀ (n : Nat) (m : List UInt8) (pre : List UInt8), m.length ≤ n → bytes s = pre ++ m → ∀ l ∈ (lineSpans pre.length m).map (cutTo s), (10 : UInt8) ∉ l.data.toList := by
    intro n
    induction n with
    | zero =>
      intro m pre hm _ l hl
      obtain rfl : m = [] := List.eq_nil_of_length_eq_zero (by omega)
      rw [lineSpans_nil] at hl
      cases hl
    | succ n ih =>
      intro m pre hm hb l hl
      by_cases hne : m = []
      · subst hne; rw [lineSpans_nil] at hl; cases hl
      · rw [lineSpans_step hne, List.map_cons] at hl
        have hu := upTo_le 10 m
        have hsp : m = m.take (upTo 10 m) ++ m.drop (upTo 10 m) := (List.take_append_drop _ _).symm
        have htl : (m.take (upTo 10 m)).length = upTo 10 m := by rw [List.length_take]; omega
        rcases List.mem_cons.1 hl with rfl | hl
        · unfold cutTo
          rw [Lib.extract_data]
          have hbs : s.data.toList = pre ++ m := hb
          rw [hbs, List.drop_left, Nat.add_sub_cancel_left]
          intro hmem
          obtain ⟨i, hi⟩ := List.getElem?_of_mem hmem
          have hil := (List.getElem?_eq_some_iff.1 hi).1
          rw [htl] at hil
          rw [List.getElem?_take_of_lt hil] at hi
          obtain ⟨y, hy, hne2⟩ := upTo_lt hil
          rw [hi] at hy
          exact hne2 (Option.some.inj hy).symm
        · by_cases hlt : upTo 10 m < m.length
          · have hat := upTo_at hlt
            have e1 : m = (m.take (upTo 10 m) ++ [10]) ++ m.drop (upTo 10 m + 1) := by
              have := List.take_append_drop (upTo 10 m + 1) m
              rw [List.take_add_one, hat] at this
              exact this.symm
            have e2 : bytes s = (pre ++ (m.take (upTo 10 m) ++ [10])) ++ m.drop (upTo 10 m + 1) := by rw [hb]; rw [List.append_assoc, ← e1]
            have := ih (m.drop (upTo 10 m + 1)) (pre ++ (m.take (upTo 10 m) ++ [10])) (by rw [List.length_drop]; omega) e2
            rw [List.length_append, List.length_append, htl, List.length_singleton, ← Nat.add_assoc] at this
            exact this l hl
          · rw [List.drop_of_length_le (by omega), lineSpans_nil] at hl
            cases hl
  intro l hl
  unfold linesOf linesAt at hl
  rw [List.drop_zero] at hl
  exact h (bytes s).length (bytes s) [] (Nat.le_refl _) rfl l hl
theorem word_good {s : ByteArray} : ∀ w ∈ wordsOf s, Wd w ∧ ∀ c ∈ w.data.toList, c ∈ s.data.toList := by
  have h : ∀ (n : Nat) (m : List UInt8) (pre : List UInt8), m.length ≤ n → bytes s = pre ++ m → ∀ l ∈ (wordSpans pre.length m).map (cutTo s), Wd l ∧ ∀ c ∈ l.data.toList, c ∈ s.data.toList := by
    intro n
    induction n with
    | zero =>
      intro m pre hm _ l hl
      obtain rfl : m = [] := List.eq_nil_of_length_eq_zero (by omega)
      rw [wordSpans_nil] at hl
      cases hl
    | succ n ih =>
      intro m pre hm hb l hl
      cases m with
      | nil => rw [wordSpans_nil] at hl; cases hl
      | cons c m =>
        have hbs : s.data.toList = pre ++ c :: m := hb
        rw [List.length_cons] at hm
        by_cases hc : c = 32
        · subst hc
          rw [words_blank] at hl
          have := ih m (pre ++ [32]) (by omega) (by rw [hb]; simp)
          rw [List.length_append, List.length_singleton] at this
          exact this l hl
        · rw [wordSpans, if_neg hc, List.map_cons] at hl
          have hu := upTo_le 32 m
          have htl : (m.take (upTo 32 m)).length = upTo 32 m := by rw [List.length_take]; omega
          rcases List.mem_cons.1 hl with rfl | hl
          · have e1 : (cutTo s (pre.length, pre.length + (upTo 32 m + 1))).data.toList = c :: m.take (upTo 32 m) := by
              unfold cutTo
              rw [Lib.extract_data, hbs, List.drop_left, Nat.add_sub_cancel_left, List.take_succ_cons]
            refine ⟨⟨by rw [e1]; simp, ?_⟩, ?_⟩
            · rw [e1]
              intro hmem
              rcases List.mem_cons.1 hmem with h0 | h0
              · exact hc h0.symm
              · obtain ⟨i, hi⟩ := List.getElem?_of_mem h0
                have hil := (List.getElem?_eq_some_iff.1 hi).1
                rw [htl] at hil
                rw [List.getElem?_take_of_lt hil] at hi
                obtain ⟨y, hy, hne2⟩ := upTo_lt hil
                rw [hi] at hy
                exact hne2 (Option.some.inj hy).symm
            · intro d hd
              rw [e1] at hd
              rw [hbs, List.mem_append]
              rcases List.mem_cons.1 hd with rfl | hd
              · exact .inr List.mem_cons_self
              · exact .inr (List.mem_cons_of_mem _ (List.mem_of_mem_take hd))
          · have e2 : bytes s = (pre ++ (c :: m.take (upTo 32 m))) ++ m.drop (upTo 32 m) := by rw [hb]; simp
            have := ih (m.drop (upTo 32 m)) (pre ++ (c :: m.take (upTo 32 m))) (by rw [List.length_drop]; omega) e2
            rw [List.length_append, List.length_cons, htl] at this
            exact this l hl
  intro w hw
  unfold wordsOf wordsAt at hw
  rw [List.drop_zero] at hw
  exact h (bytes s).length (bytes s) [] (Nat.le_refl _) rfl w hw

/-! ### The text with more in it -/
def hashL : ByteArray := ⟨#[35]⟩
def remL : ByteArray := ⟨#[35, 32, 114, 101, 109, 97, 114, 107]⟩
def twoB : ByteArray := ⟨#[32, 32]⟩
def threeB : ByteArray := ⟨#[32, 32, 32]⟩
/-- Words, three blanks ahead of each. -/
def wideB (ws : List ByteArray) : ByteArray := ws.foldl (fun t w => t ++ threeB ++ w) ByteArray.empty
def isNote (l : ByteArray) : Bool := decide (l.data.toList.head? = some 35)
def bodyL (l : ByteArray) : ByteArray := if isNote l = true then l else wideB (wordsOf l) ++ twoB
def threeL (l : ByteArray) : List ByteArray := [if isNote l = true then hashL else remL, twoB, bodyL l]
def moreT (s : ByteArray) : ByteArray := textB ((linesOf s).flatMap threeL)
theorem wide_snoc (ws : List ByteArray) (w : ByteArray) : wideB (ws ++ [w]) = wideB ws ++ threeB ++ w := by
  unfold wideB
  rw [List.foldl_append]
  rfl
/-- .. as bytes. -/
def jb : List ByteArray → List UInt8
  | [] => []
  | y :: r => 32 :: 32 :: 32 :: (y.data.toList ++ jb r)
theorem wideB_list (ws : List ByteArray) : (wideB ws).data.toList = jb ws := by
  have h : ∀ (ws : List ByteArray) (t : ByteArray), (ws.foldl (fun t w => t ++ threeB ++ w) t).data.toList = t.data.toList ++ jb ws := by
    intro ws
    induction ws with
    | nil => intro t; rw [List.foldl_nil, jb, List.append_nil]
    | cons w ws ih =>
      intro t
      rw [List.foldl_cons, ih, ba_list, ba_list, jb, List.append_assoc, List.append_assoc]
      rfl
  have := h ws ByteArray.empty
  rw [show ByteArray.empty.data.toList = [] from rfl, List.nil_append] at this
  exact this
theorem words_wide {s : ByteArray} : ∀ (r : List ByteArray) (pre : List UInt8), bytes s = pre ++ (jb r ++ [32, 32]) → (∀ y ∈ r, Wd y) → (wordSpans pre.length (jb r ++ [32, 32])).map (cutTo s) = r := by
  intro r
  induction r with
  | nil => intro pre _ _; rw [jb, List.nil_append, words_blank, words_blank, wordSpans_nil]; rfl
  | cons y r ih =>
    intro pre h hw
    have hy := hw y List.mem_cons_self
    have hX : Hd 32 (jb r ++ [32, 32]) := by
      cases r with
      | nil => exact .inr ⟨_, rfl⟩
      | cons z r => exact .inr ⟨_, rfl⟩
    have e0 : jb (y :: r) ++ [32, 32] = 32 :: 32 :: 32 :: (y.data.toList ++ (jb r ++ [32, 32])) := by rw [jb]; simp
    rw [e0, words_blank, words_blank, words_blank, words_one hy.1 hy.2 hX, List.map_cons]
    have h1 : bytes s = (pre ++ [32, 32, 32]) ++ (y.data.toList ++ (jb r ++ [32, 32])) := by rw [h, e0]; simp
    have e1 := cut_mid h1 (rfl : y.data.toList = y.data.toList)
    have e2 := ih (pre ++ [32, 32, 32] ++ y.data.toList) (by rw [h1]; simp) (fun z hz => hw z (List.mem_cons_of_mem _ hz))
    have l1 : (pre ++ [32, 32, 32]).length = pre.length + 1 + 1 + 1 := by rw [List.length_append]; rfl
    rw [l1] at e1
    rw [List.length_append, l1] at e2
    rw [e1, e2]
theorem words_body (l : ByteArray) (h : isNote l = false) : wordsOf (bodyL l) = wordsOf l := by
  unfold bodyL
  rw [h, if_neg Bool.false_ne_true]
  have hb : bytes (wideB (wordsOf l) ++ twoB) = jb (wordsOf l) ++ [32, 32] := by
    show (wideB (wordsOf l) ++ twoB).data.toList = _
    rw [ba_list, wideB_list]
    rfl
  have h2 := words_wide (s := wideB (wordsOf l) ++ twoB) (wordsOf l) [] hb (fun y hy => (word_good y hy).1)
  show (wordsAt (wideB (wordsOf l) ++ twoB) 0).map (cutTo _) = _
  unfold wordsAt
  rw [List.drop_zero, hb]
  exact h2
theorem bodyL_head (l : ByteArray) (h : isNote l = false) : (bodyL l).data.toList.head? = some 32 := by
  unfold bodyL
  rw [h, if_neg Bool.false_ne_true, ba_list, wideB_list]
  cases wordsOf l with
  | nil => rfl
  | cons y r => rfl
theorem step_nil2 {x : St} {l : ByteArray} (h : wordsOf l = []) : stepG x l = .inr x := by unfold stepG; rw [h]
theorem step_note2 {x : St} {l : ByteArray} (h : l.data.toList.head? = some 35) : stepG x l = .inr x := by
  unfold stepG
  cases wordsOf l with
  | nil => rfl
  | cons w0 r => rw [h]; rfl
theorem step_two (x : St) : stepG x twoB = .inr x := by
  refine step_nil2 ?_
  unfold wordsOf wordsAt
  rw [List.drop_zero]
  have : bytes twoB = [32, 32] := rfl
  rw [this, words_blank, words_blank, wordSpans_nil]
  rfl
theorem step_body (x : St) (l : ByteArray) : stepG x (bodyL l) = stepG x l := by
  cases h : isNote l with
  | true => unfold bodyL; rw [h, if_pos rfl]
  | false =>
    have h1 := words_body l h
    have h2 := bodyL_head l h
    have h3 : l.data.toList.head? ≠ some 35 := by unfold isNote at h; exact of_decide_eq_false h
    unfold stepG
    rw [h1]
    cases wordsOf l with
    | nil => rfl
    | cons w0 r =>
      dsimp only
      rw [h2, if_neg (by decide), if_neg h3]
theorem step_first (x : St) (l : ByteArray) : stepG x (if isNote l = true then hashL else remL) = .inr x := by
  refine step_note2 ?_
  split <;> rfl
theorem linesR_more : ∀ (L : List ByteArray) (i : Nat) (x : St), linesR (3 * i) x (L.flatMap threeL) = match linesR i x L with
  | .inl (n, e) => .inl (3 * n, e)
  | .inr y => .inr y := by
  intro L
  induction L with
  | nil => intro i x; rfl
  | cons l L ih =>
    intro i x
    rw [List.flatMap_cons]
    show linesR (3 * i) x ((if isNote l = true then hashL else remL) :: twoB :: bodyL l :: L.flatMap threeL) = _
    rw [linesR, step_first]
    dsimp only
    rw [linesR, step_two]
    dsimp only
    rw [linesR, step_body, linesR]
    cases stepG x l with
    | inl e => show Sum.inl (3 * i + 1 + 1 + 1, e) = Sum.inl (3 * (i + 1), e); rw [show 3 * i + 1 + 1 + 1 = 3 * (i + 1) by omega]
    | inr y =>
      dsimp only
      rw [show 3 * i + 1 + 1 + 1 = 3 * (i + 1) by omega]
      exact ih (i + 1) y

theorem three_free (s : ByteArray) : ∀ u ∈ (linesOf s).flatMap threeL, (10 : UInt8) ∉ u.data.toList := by
  intro u hu
  obtain ⟨l, hl, hu⟩ := List.mem_flatMap.1 hu
  have hn := line_no_ten l hl
  unfold threeL at hu
  simp only [List.mem_cons, List.not_mem_nil, or_false] at hu
  rcases hu with rfl | rfl | rfl
  · split <;> decide
  · decide
  · unfold bodyL
    split
    · exact hn
    · rw [ba_list, wideB_list]
      intro hm
      rcases List.mem_append.1 hm with hm | hm
      · have hall : ∀ ws : List ByteArray, (∀ w ∈ ws, (10 : UInt8) ∉ w.data.toList) → (10 : UInt8) ∉ jb ws := by
          intro ws
          induction ws with
          | nil => intro _ h; cases h
          | cons w ws ih =>
            intro hw h
            rw [jb] at h
            rcases List.mem_cons.1 h with h | h
            · exact absurd h (by decide)
            rcases List.mem_cons.1 h with h | h
            · exact absurd h (by decide)
            rcases List.mem_cons.1 h with h | h
            · exact absurd h (by decide)
            rcases List.mem_append.1 h with h | h
            · exact hw w List.mem_cons_self h
            · exact ih (fun z hz => hw z (List.mem_cons_of_mem _ hz)) h
        exact hall _ (fun w hw h10 => hn ((word_good w hw).2 10 h10)) hm
      · exact absurd hm (by decide)
theorem words_room (l : ByteArray) : (jb (wordsOf l)).length ≤ 4 * l.size := by
  have h : ∀ (n : Nat) (m : List UInt8) (pre : List UInt8), m.length ≤ n → bytes l = pre ++ m → (jb ((wordSpans pre.length m).map (cutTo l))).length ≤ 4 * m.length := by
    intro n
    induction n with
    | zero =>
      intro m pre hm _
      obtain rfl : m = [] := List.eq_nil_of_length_eq_zero (by omega)
      rw [wordSpans_nil]
      exact Nat.le_refl _
    | succ n ih =>
      intro m pre hm hb
      cases m with
      | nil => rw [wordSpans_nil]; exact Nat.le_refl _
      | cons c m =>
        rw [List.length_cons] at hm ⊢
        by_cases hc : c = 32
        · subst hc
          rw [words_blank]
          have := ih m (pre ++ [32]) (by omega) (by rw [hb]; simp)
          rw [List.length_append, List.length_singleton] at this
          omega
        · rw [wordSpans, if_neg hc, List.map_cons, jb]
          have hu := upTo_le 32 m
          have htl : (m.take (upTo 32 m)).length = upTo 32 m := by rw [List.length_take]; omega
          have e1 : (cutTo l (pre.length, pre.length + (upTo 32 m + 1))).data.toList.length = upTo 32 m + 1 := by
            unfold cutTo
            have hbs : l.data.toList = pre ++ c :: m := hb
            rw [Lib.extract_data, hbs, List.drop_left, Nat.add_sub_cancel_left, List.take_succ_cons, List.length_cons, htl]
          have e2 : bytes l = (pre ++ (c :: m.take (upTo 32 m))) ++ m.drop (upTo 32 m) := by rw [hb]; simp
          have := ih (m.drop (upTo 32 m)) (pre ++ (c :: m.take (upTo 32 m))) (by rw [List.length_drop]; omega) e2
          rw [List.length_append, List.length_cons, htl, List.length_drop] at this
          rw [List.length_cons, List.length_cons, List.length_cons, List.length_append, e1]
          omega
  unfold wordsOf wordsAt
  rw [List.drop_zero]
  have := h (bytes l).length (bytes l) [] (Nat.le_refl _) rfl
  rw [bytes_len] at this
  exact this
theorem tl_len (ls : List ByteArray) : (tl ls).length = tot ls := by
  induction ls with
  | nil => rfl
  | cons a ls ih =>
    unfold tot at ih ⊢
    rw [tl, List.length_append, List.length_cons, ih, List.map_cons, List.sum_cons]
    have : a.data.toList.length = a.size := data_len a
    omega
theorem tot_app (a b : List ByteArray) : tot (a ++ b) = tot a + tot b := by unfold tot; rw [List.map_append, List.sum_append]
theorem three_tot (l : ByteArray) : tot (threeL l) ≤ 15 + 4 * l.size := by
  unfold threeL tot
  simp only [List.map_cons, List.map_nil, List.sum_cons, List.sum_nil]
  have h1 : (if isNote l = true then hashL else remL).size ≤ 8 := by split <;> decide
  have h2 : twoB.size = 2 := rfl
  have h3 : (bodyL l).size ≤ 4 * l.size + 2 := by
    unfold bodyL
    split
    · omega
    · rw [ByteArray.size_append, h2, ← data_len (wideB (wordsOf l)), wideB_list]
      have := words_room l
      omega
  omega
theorem more_tot (L : List ByteArray) : tot (L.flatMap threeL) ≤ 15 * tot L := by
  induction L with
  | nil => exact Nat.le_refl _
  | cons l L ih =>
    rw [List.flatMap_cons, tot_app]
    have h1 := three_tot l
    have h2 : tot (l :: L) = l.size + 1 + tot L := by unfold tot; rw [List.map_cons, List.sum_cons]
    omega
theorem more_size (s : ByteArray) : (moreT s).size ≤ 15 * (s.size + 1) := by
  unfold moreT
  rw [← data_len, textB_list, tl_len]
  have h1 := more_tot (linesOf s)
  have h2 := tot_lines s
  omega
theorem more_read {s : ByteArray} (hs : s.size ≤ 3000) : readG (moreT s) = ((readG s).1, 3 * (readG s).2.1, (readG s).2.2) := by
  have hz := more_size s
  unfold readG
  rw [if_neg (by omega), if_neg (by omega)]
  have hl : linesOf (moreT s) = (linesOf s).flatMap threeL := lines_text (three_free s)
  rw [hl]
  have h := linesR_more (linesOf s) 0 ⟨g0, []⟩
  rw [Nat.mul_zero] at h
  rw [h]
  cases linesR 0 ⟨g0, []⟩ (linesOf s) with
  | inl p => obtain ⟨n, e⟩ := p; rfl
  | inr x =>
    dsimp only
    unfold endG
    split
    · rfl
    split
    · rfl
    · rfl
end Go.Proofs.YtfmdmeokbbpmlaaGreat
