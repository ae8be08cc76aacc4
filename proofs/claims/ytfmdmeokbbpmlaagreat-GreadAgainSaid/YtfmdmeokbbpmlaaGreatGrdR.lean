/-
  What is told of a grammar is read as it. Plain.
-/
import Derived.Test.YtfmdmeokbbpmlaaGreatGrdQ
import Derived.Test.YtfmdmeokbbpmlaaGreatGprM
import Derived.Test.YtfmdmeokbbpmlaaGreatGprN
namespace Go.Proofs.YtfmdmeokbbpmlaaGreat
open Go.RowKit Go.Shelf

/-- A word: some bytes, no blank. -/
def Wd (y : ByteArray) : Prop := y.data.toList ≠ [] ∧ (32 : UInt8) ∉ y.data.toList
theorem words_one {l X : List UInt8} {k : Nat} (h1 : l ≠ []) (h2 : (32 : UInt8) ∉ l) (hX : Hd 32 X) : wordSpans k (l ++ X) = (k, k + l.length) :: wordSpans (k + l.length) X := by
  cases l with
  | nil => exact absurd rfl h1
  | cons c l =>
    have hc : c ≠ 32 := fun e => h2 (e ▸ List.mem_cons_self)
    have hu : upTo 32 (l ++ X) = l.length := by
      refine upTo_eq (by simp) (fun i hi x hx => ?_) ?_
      · rw [List.getElem?_append_left hi] at hx
        exact fun e => h2 (List.mem_cons_of_mem _ (e ▸ List.mem_of_getElem? hx))
      · rcases hX with rfl | ⟨r, rfl⟩
        · left; simp
        · right; rw [List.getElem?_append_right (Nat.le_refl _), Nat.sub_self]; rfl
    rw [List.cons_append, wordSpans, if_neg hc, hu, List.drop_left]
    rfl
theorem words_blank {X : List UInt8} {k : Nat} : wordSpans k (32 :: X) = wordSpans (k + 1) X := by rw [wordSpans, if_pos rfl]
theorem cut_mid {s : ByteArray} {pre l X : List UInt8} (h : bytes s = pre ++ (l ++ X)) {y : ByteArray} (hy : y.data.toList = l) : cutTo s (pre.length, pre.length + l.length) = y := by
  apply ba_ext
  unfold cutTo
  rw [Lib.extract_data]
  have : s.data.toList = pre ++ (l ++ X) := h
  rw [this, List.drop_left, Nat.add_sub_cancel_left, List.take_left, hy]
theorem words_jl {s : ByteArray} : ∀ (r : List ByteArray) (pre : List UInt8), bytes s = pre ++ jl r → (∀ y ∈ r, Wd y) → (wordSpans pre.length (jl r)).map (cutTo s) = r := by
  intro r
  induction r with
  | nil => intro pre _ _; rw [jl, wordSpans_nil]; rfl
  | cons y r ih =>
    intro pre h hw
    have hy := hw y List.mem_cons_self
    rw [jl, words_blank, words_one hy.1 hy.2 (jl_hd r), List.map_cons]
    have h1 : bytes s = (pre ++ [32]) ++ (y.data.toList ++ jl r) := by rw [h, jl]; simp
    have e1 := cut_mid h1 (rfl : y.data.toList = y.data.toList)
    have e2 := ih (pre ++ [32] ++ y.data.toList) (by rw [h1]; simp) (fun z hz => hw z (List.mem_cons_of_mem _ hz))
    rw [List.length_append, List.length_singleton] at e1
    rw [List.length_append, List.length_append, List.length_singleton] at e2
    rw [e1, e2]
theorem words_line {x : ByteArray} {r : List ByteArray} (hx : Wd x) (hr : ∀ y ∈ r, Wd y) : wordsOf (lineB x r) = x :: r := by
  have h : bytes (lineB x r) = [] ++ (x.data.toList ++ jl r) := lineB_list x r
  unfold wordsOf wordsAt
  rw [List.drop_zero]
  have h0 : bytes (lineB x r) = x.data.toList ++ jl r := h
  have e1 := cut_mid h (rfl : x.data.toList = x.data.toList)
  have e2 := words_jl r x.data.toList h0 hr
  rw [h0, words_one hx.1 hx.2 (jl_hd r), List.map_cons]
  rw [List.length_nil] at e1
  rw [e1, Nat.zero_add, e2]
theorem step_of {x : St} {w0 : ByteArray} {r : List ByteArray} (hx : Wd w0) (hr : ∀ y ∈ r, Wd y) (hh : w0.data.toList.head? ≠ some 35) : stepG x (lineB w0 r) = lineG x w0 r := by
  unfold stepG
  rw [words_line hx hr]
  dsimp only
  rw [lineB_list, if_neg]
  cases hc : w0.data.toList with
  | nil => exact absurd hc hx.1
  | cons c l => rw [hc] at hh; exact hh
theorem name_wd {s : ByteArray} (h : nameB s = true) : Wd s := by
  obtain ⟨c, r, e, _, _⟩ := name_head h
  exact ⟨by rw [e]; simp, free_of (name_bytes h) (.inl (by decide))⟩
theorem digs_ne (n : Nat) : digs n ≠ [] := fun e => by have := digs_len_pos n; rw [e] at this; simp at this
theorem num_wd {n : Int} (h : 0 ≤ n) : Wd (numT n) := by
  refine ⟨?_, free_of (num_bytes n) (.inl (by decide))⟩
  unfold numT showI
  rw [if_neg (by omega)]
  exact digs_ne _

/-! ### All lines, one after another -/
noncomputable def runL : St → List ByteArray → Option St
  | x, [] => some x
  | x, l :: r => match stepG x l with
    | .inl _ => none
    | .inr y => runL y r
theorem runL_app : ∀ (a b : List ByteArray) (x y : St), runL x a = some y → runL x (a ++ b) = runL y b := by
  intro a
  induction a with
  | nil => intro b x y h; rw [runL] at h; cases h; rfl
  | cons l a ih =>
    intro b x y h
    rw [List.cons_append, runL]
    rw [runL] at h
    cases hs : stepG x l with
    | inl e => rw [hs] at h; cases h
    | inr z => rw [hs] at h; exact ih b z y h
theorem linesR_run : ∀ (l : List ByteArray) (i : Nat) (x y : St), runL x l = some y → linesR i x l = .inr y := by
  intro l
  induction l with
  | nil => intro i x y h; rw [runL] at h; cases h; rw [linesR]
  | cons a l ih =>
    intro i x y h
    rw [runL] at h
    rw [linesR]
    cases hs : stepG x a with
    | inl e => rw [hs] at h; cases h
    | inr z => rw [hs] at h; exact ih _ _ _ h
theorem runL_one {x y : St} {l : ByteArray} (h : stepG x l = .inr y) : runL x [l] = some y := by rw [runL, h]; rfl

/-! ### Bounds -/
theorem bnd_words (i : Nat) (hi : i < 4) (n : Int) : lineB (bndW i) [numT n] = lineB wBound [if i = 0 then wStates else if i = 1 then wText else if i = 2 then wNodes else wPairs, numT n] := by
  apply ba_ext
  rw [lineB_list, lineB_list]
  match i, hi with
  | 0, _ => rfl
  | 1, _ => rfl
  | 2, _ => rfl
  | 3, _ => rfl
theorem read_num {n most : Int} (h0 : 0 ≤ n) (h1 : n ≤ most) : readN (numT n).data.toList most = (n, 0) := by
  obtain ⟨k, rfl⟩ : ∃ k : Nat, n = (k : Int) := ⟨n.toNat, by omega⟩
  unfold numT
  rw [showI_nat]
  exact read_digs most k h1
theorem bnd_step {x : St} {i : Nat} (hi : i < 4) {w : ByteArray} (hw : (if i = 0 then wStates else if i = 1 then wText else if i = 2 then wNodes else wPairs) = w) {n : Int} (h0 : 0 ≤ n) (h1 : n ≤ mostI i) (hk : inK (wBoundS ++ w) x.giv = false) :
    stepG x (lineB (bndW i) [numT n]) = .inr ⟨setNum x.g i n, x.giv ++ [wBoundS ++ w]⟩ := by
  have hI : bndI w = i := by
    subst hw
    match i, hi with
    | 0, _ => decide
    | 1, _ => decide
    | 2, _ => decide
    | 3, _ => decide
  have hwd : Wd w := by
    subst hw
    match i, hi with
    | 0, _ => exact ⟨by decide, by decide⟩
    | 1, _ => exact ⟨by decide, by decide⟩
    | 2, _ => exact ⟨by decide, by decide⟩
    | 3, _ => exact ⟨by decide, by decide⟩
  rw [bnd_words i hi, hw, step_of ⟨by decide, by decide⟩ (fun y hy => by
    rcases List.mem_cons.1 hy with rfl | hy
    · exact hwd
    · rw [List.mem_singleton.1 hy]; exact num_wd h0) (by decide)]
  unfold lineG
  rw [if_pos (by decide)]
  show boundG x w (numT n) = _
  unfold boundG
  rw [hI, if_neg (by omega), hk, read_num h0 h1]
  rfl
theorem bnds_run (g : Gram) (h : RightG g) : runL ⟨g0, []⟩ (bndsL g) = some ⟨{ g0 with states := g.states, text := g.text, nodes := g.nodes, pairs := g.pairs }, [wBoundS ++ wStates, wBoundS ++ wText, wBoundS ++ wNodes, wBoundS ++ wPairs]⟩ := by
  have hs := h.sizes
  unfold sizesOf at hs
  split at hs; · cases hs
  split at hs; · cases hs
  split at hs; · cases hs
  split at hs; · cases hs
  split at hs; · cases hs
  split at hs; · cases hs
  split at hs; · cases hs
  unfold bndsL
  rw [runL, bnd_step (i := 0) (w := wStates) (by decide) rfl (by omega) (by unfold mostI; rw [if_pos rfl]; omega) rfl]
  dsimp only
  rw [runL, bnd_step (i := 1) (w := wText) (by decide) rfl (by omega) (by show g.text ≤ 65536; omega) (by show inK (wBoundS ++ wText) [wBoundS ++ wStates] = false; decide)]
  dsimp only
  rw [runL, bnd_step (i := 2) (w := wNodes) (by decide) rfl (by omega) (by show g.nodes ≤ 65536; omega) (by show inK (wBoundS ++ wNodes) [wBoundS ++ wStates, wBoundS ++ wText] = false; decide)]
  dsimp only
  rw [runL, bnd_step (i := 3) (w := wPairs) (by decide) rfl (by omega) (by show g.pairs ≤ 1048576; omega) (by show inK (wBoundS ++ wPairs) [wBoundS ++ wStates, wBoundS ++ wText, wBoundS ++ wNodes] = false; decide)]
  rfl

/-! ### Names -/
theorem find_neg {g : Gram} {s : ByteArray} (h1 : s ∉ tokNames g) (h2 : s ∉ g.rules) : findNo g s < 0 := by
  unfold findNo
  rw [find_not h1, find_not h2]
  decide
theorem fresh_ok {g : Gram} {s : ByteArray} (hn : nameB s = true) (h1 : s ∉ tokNames g) (h2 : s ∉ g.rules) : freshG g s = 0 := by
  unfold freshG
  rw [hn, if_neg (by decide), if_neg (by have := find_neg h1 h2; omega)]

/-! ### Tokens -/
theorem tok_line {t : Token} (h : tokOk t = true) : tokT t = lineB (clsW t.cls) [t.name, showR t.rex] := by
  apply ba_ext
  rw [tok_list h, lineB_list, jl, jl, jl, List.append_nil]
theorem tex_ne (t : RxT) : tex t ≠ [] := by
  obtain ⟨c, r, h, _⟩ := tex_head t
  rw [h]; simp
theorem showR_ne {l : List Rx} (hw : ∀ x ∈ l, Wordy x) (he : rxErr l = 0) : (showR l).data.toList ≠ [] := by
  obtain ⟨h5, t, rfl⟩ := right_tree hw he
  rw [showR_post t h5, bs_list]
  intro e
  exact tex_ne t (List.map_eq_nil_iff.1 e)
theorem not_mem_all {l : List ByteArray} {s : ByteArray} (h : inK s l = false) : s ∉ l := by
  intro hm
  unfold inK at h
  rw [List.any_eq_false] at h
  exact h s hm ((ba_beq s s).2 rfl)
theorem cls_word {c : Int} (h0 : 0 ≤ c) (h3 : c ≤ 3) : Wd (clsW c) ∧ (clsW c).data.toList.head? ≠ some 35 ∧ (clsW c == wBound) = false ∧ inK (clsW c) clsL = true ∧ findOf clsL (clsW c) = c := by
  have hf : ∀ (k : Nat) (s : ByteArray), clsL[k]? = some s → s ∉ clsL.take k → findOf clsL s = (k : Int) := fun k s h1 h2 => find_first h1 h2
  rcases cls_four h0 h3 with rfl | rfl | rfl | rfl
  · exact ⟨⟨by decide, by decide⟩, by decide, by decide, by decide, hf 0 _ rfl (not_mem_all (by decide))⟩
  · exact ⟨⟨by decide, by decide⟩, by decide, by decide, by decide, hf 1 _ rfl (not_mem_all (by decide))⟩
  · exact ⟨⟨by decide, by decide⟩, by decide, by decide, by decide, hf 2 _ rfl (not_mem_all (by decide))⟩
  · exact ⟨⟨by decide, by decide⟩, by decide, by decide, by decide, hf 3 _ rfl (not_mem_all (by decide))⟩
theorem rex_back {l : List Rx} (hw : ∀ x ∈ l, Wordy x) (he : rxErr l = 0) (hs : (showR l).size ≤ 4096) : (readM (nb (showR l))).1 = l ∧ (readM (nb (showR l))).2.2 = 0 := by
  obtain ⟨h5, t, rfl⟩ := right_tree hw he
  rw [showR_post t h5] at hs ⊢
  have hb : nb (bs (tex t)) = tex t := nb_bs _ (fun c hc => by
    have := tex_seen t c hc
    unfold seenB at this
    simp only [Bool.and_eq_true, decide_eq_true_eq] at this
    omega)
  rw [bs_size] at hs
  rw [hb, read_back t h5, if_neg (by omega)]
  exact ⟨rfl, rfl⟩
theorem tok_step {x : St} {t : Token} (h : tokOk t = true) (hw : ∀ y ∈ t.rex, Wordy y) (hs : (showR t.rex).size ≤ 4096) (h1 : t.name ∉ tokNames x.g) (h2 : t.name ∉ x.g.rules) :
    stepG x (tokT t) = .inr ⟨{ x.g with toks := x.g.toks ++ [t] }, x.giv⟩ := by
  obtain ⟨a1, a2, a3, a4⟩ := tok_parts h
  obtain ⟨c1, c2, c3, c4, c5⟩ := cls_word a3 a4
  obtain ⟨b1, b2⟩ := rex_back hw a2 hs
  rw [tok_line h, step_of c1 (fun y hy => by
    rcases List.mem_cons.1 hy with rfl | hy
    · exact name_wd a1
    · rw [List.mem_singleton.1 hy]; exact ⟨showR_ne hw a2, free_of (showR_bytes _) (.inl (by decide))⟩) c2]
  unfold lineG
  rw [c3, c4, if_neg Bool.false_ne_true, if_pos rfl]
  show tokenG x (clsW t.cls) t.name (showR t.rex) = _
  unfold tokenG
  rw [fresh_ok a1 h1 h2, b1, b2, c5]
  rfl
theorem toks_run {g : Gram} (h : RightG g) (hw : ∀ t ∈ g.toks, ∀ y ∈ t.rex, Wordy y) (hs : ∀ t ∈ g.toks, (showR t.rex).size ≤ 4096) :
    ∀ (l : List Token) (x : St), x.g.rules = [] → x.g.toks ++ l = g.toks → runL x (l.map tokT) = some ⟨{ x.g with toks := x.g.toks ++ l }, x.giv⟩ := by
  intro l
  induction l with
  | nil => intro x _ _; rw [List.map_nil, runL, List.append_nil]
  | cons t l ih =>
    intro x hr he
    have hm : t ∈ g.toks := by rw [← he]; simp
    have hat : g.toks[x.g.toks.length]? = some t := by rw [← he, List.getElem?_append_right (Nat.le_refl _), Nat.sub_self]; rfl
    have hn := (h.tokName hat).2
    have ht : (tokNames g).take x.g.toks.length = tokNames x.g := by
      unfold tokNames
      rw [← he, List.map_append, List.take_left' (by simp)]
    rw [ht] at hn
    rw [List.map_cons, runL, tok_step (right_tok h hm) (hw t hm) (hs t hm) hn (by rw [hr]; simp)]
    dsimp only
    have := ih ⟨{ x.g with toks := x.g.toks ++ [t] }, x.giv⟩ hr (by dsimp only; rw [List.append_assoc]; exact he)
    rw [this]
    dsimp only
    rw [List.append_assoc]
    rfl

/-! ### Rules, the start -/
theorem rules_run {g : Gram} (h : RightG g) : ∀ (l : List ByteArray) (x : St), tokNames x.g = tokNames g → x.g.rules ++ l = g.rules → rulesG x l = .inr ⟨{ x.g with rules := x.g.rules ++ l }, x.giv⟩ := by
  intro l
  induction l with
  | nil => intro x _ _; rw [rulesG, List.append_nil]
  | cons s l ih =>
    intro x ht he
    have hat : g.rules[x.g.rules.length]? = some s := by rw [← he, List.getElem?_append_right (Nat.le_refl _), Nat.sub_self]; rfl
    obtain ⟨hn, h1, h2⟩ := h.ruleName hat
    have hk : g.rules.take x.g.rules.length = x.g.rules := by rw [← he, List.take_left' rfl]
    rw [hk] at h2
    rw [← ht] at h1
    rw [rulesG, fresh_ok hn h1 h2, if_neg (by decide)]
    have := ih ⟨{ x.g with rules := x.g.rules ++ [s] }, x.giv⟩ ht (by dsimp only; rw [List.append_assoc]; exact he)
    rw [this]
    dsimp only
    rw [List.append_assoc]
    rfl
theorem find_same {g h : Gram} (h1 : tokNames g = tokNames h) (h2 : g.rules = h.rules) (s : ByteArray) : isRule g s = isRule h s ∧ findNo g s = findNo h s := by
  unfold isRule findNo
  rw [h1, h2]
  exact ⟨rfl, rfl⟩
theorem rule_step {g : Gram} (h : RightG g) {x : St} (ht : tokNames x.g = tokNames g) (hr : x.g.rules = []) : stepG x (ruleL g) = .inr ⟨{ x.g with rules := g.rules }, x.giv⟩ := by
  unfold ruleL
  rw [step_of ⟨by decide, by decide⟩ (fun y hy => name_wd (right_rule h hy)) (by decide)]
  unfold lineG
  rw [if_neg (by decide), if_neg (by decide), if_pos (by decide), rules_run h g.rules x ht (by rw [hr]; rfl), hr]
  rfl
theorem start_step {g : Gram} (hb : rightB g = true) {x : St} (ht : tokNames x.g = tokNames g) (hr : x.g.rules = g.rules) (hk : inK startW x.giv = false) : stepG x (startL g) = .inr ⟨{ x.g with start := g.start }, x.giv ++ [startW]⟩ := by
  have h := right_is hb
  obtain ⟨j, hj, hjl⟩ := right_start hb
  have e := List.getElem?_eq_getElem hjl
  have hf := h.findRule e
  unfold startL
  rw [hj, Int.toNat_natCast, e, Option.getD_some, step_of ⟨by decide, by decide⟩ (fun y hy => by rw [List.mem_singleton.1 hy]; exact name_wd (h.ruleName e).1) (by decide)]
  unfold lineG
  rw [if_neg (by decide), if_neg (by decide), if_neg (by decide), if_pos (by decide)]
  show startG x g.rules[j] = _
  unfold startG
  have hs := find_same ht hr g.rules[j]
  rw [hk, if_neg Bool.false_ne_true, hs.1, hs.2, hf.1, hf.2]
  rfl

/-! ### Productions -/
theorem up_name {n X : List UInt8} (hn : (43 : UInt8) ∉ n) (hX : Hd 43 X) : upTo 43 (n ++ X) = n.length := by
  refine upTo_eq (by simp) (fun i hi x hx => ?_) ?_
  · rw [List.getElem?_append_left hi] at hx
    exact fun e => hn (e ▸ List.mem_of_getElem? hx)
  · rcases hX with rfl | ⟨r, rfl⟩
    · left; simp
    · right; rw [List.getElem?_append_right (Nat.le_refl _), Nat.sub_self]; rfl
theorem ext_head {s : ByteArray} {c : UInt8} {r : List UInt8} (h : s.data.toList = c :: r) : (s.extract 1 s.size).data.toList = r := by
  have hs : s.size = r.length + 1 := by rw [← data_len s, h]; rfl
  rw [Lib.extract_data, h, hs]
  simp
theorem item_step {g : Gram} (h : RightG g) {x : Item} (hx : itemErr g x = 0) {g' : Gram} (ht : tokNames g' = tokNames g) (hr : g'.rules = g.rules) : itemG g' (itemT g x) = .inr x := by
  obtain ⟨⟨a1, a2, a3⟩, a4, a5, a6⟩ := item_parts h hx
  have hl := item_list (item_ok h hx)
  obtain ⟨c, r, n1, n2, n3⟩ := name_head a1
  have hc1 : c ≠ 126 := fun k => by rw [k] at n3; exact absurd n3 (by decide)
  have hc2 : c ≠ 33 := fun k => by rw [k] at n2; exact absurd n2 (by decide)
  have hg : gapOf (itemT g x) = x.gap ∧ (restOf (itemT g x)).data.toList = (nameOf g x).data.toList ++ (inW x).data.toList := by
    unfold restOf gapOf
    rcases gap_three a4.1 a4.2 with h1 | h1 | h1 <;> rw [h1] at hl ⊢
    · have hl2 : (itemT g x).data.toList = (nameOf g x).data.toList ++ (inW x).data.toList := hl
      have hh : (itemT g x).data.toList.head? = some c := by rw [hl2, n1]; rfl
      rw [hh, if_neg (fun e => hc1 (Option.some.inj e)), if_neg (fun e => hc2 (Option.some.inj e)), if_pos rfl]
      exact ⟨rfl, hl2⟩
    · have hl2 : (itemT g x).data.toList = 126 :: ((nameOf g x).data.toList ++ (inW x).data.toList) := hl
      rw [hl2]
      exact ⟨rfl, ext_head hl2⟩
    · have hl2 : (itemT g x).data.toList = 33 :: ((nameOf g x).data.toList ++ (inW x).data.toList) := hl
      rw [hl2]
      exact ⟨rfl, ext_head hl2⟩
  have hup : upTo 43 (bytes (restOf (itemT g x))) = (nameOf g x).data.toList.length := by
    show upTo 43 (restOf (itemT g x)).data.toList = _
    rw [hg.2]
    exact up_name (free_of (name_bytes a1) (.inl (by decide))) (inW_hd x)
  have hnm : nameIn (itemT g x) = nameOf g x := by
    unfold nameIn
    apply ba_ext
    rw [Lib.extract_data, hup, hg.2, List.drop_zero, Nat.sub_zero, List.take_left]
  have hs := find_same ht hr (nameOf g x)
  have hn0 : 0 ≤ x.n := by
    unfold itemErr at hx
    by_cases q1 : x.n < 0 ∨ (if x.rule then (g.rules.length : Int) else g.toks.length) ≤ x.n
    · rw [if_pos q1] at hx; cases hx
    · omega
  have hsz : (restOf (itemT g x)).size = (nameOf g x).data.toList.length + (inW x).data.toList.length := by
    rw [← data_len, hg.2, List.length_append]
  unfold itemG
  rw [hnm, hs.1, hs.2, a2, a3, if_neg (by omega), hup, hsz, hg.1]
  have hiw := inW_list x
  by_cases h0 : 0 < x.in_
  · rw [if_pos h0] at hiw
    have hrd : ((restOf (itemT g x)).extract ((nameOf g x).data.toList.length + 1) ((nameOf g x).data.toList.length + (inW x).data.toList.length)).data.toList = showI x.in_ := by
      rw [Lib.extract_data, hg.2, hiw, ← List.drop_drop, List.drop_left]
      show List.take _ (showI x.in_) = _
      exact List.take_of_length_le (by rw [List.length_cons]; omega)
    rw [if_neg (by rw [hiw]; simp), hrd]
    have hrn := read_num (n := x.in_) (most := 8) a5 a6
    unfold numT at hrn
    have hrn2 : readN (showI x.in_) 8 = (x.in_, 0) := hrn
    rw [hrn2, if_neg (fun q => q rfl), if_neg (by show ¬ x.in_ = 0; omega)]
  · rw [if_neg h0] at hiw
    rw [if_pos (by rw [hiw]; simp)]
    obtain ⟨x1, x2, x3, x4⟩ := x
    dsimp only at h0 a5 ⊢
    rw [show x4 = 0 by omega]
theorem items_step {g : Gram} (h : RightG g) {g' : Gram} (ht : tokNames g' = tokNames g) (hr : g'.rules = g.rules) : ∀ l : List Item, (∀ x ∈ l, itemErr g x = 0) → itemsG g' (l.map (itemT g)) = .inr l := by
  intro l
  induction l with
  | nil => intro _; rfl
  | cons y l ih =>
    intro hl
    rw [List.map_cons, itemsG, item_step h (hl y List.mem_cons_self) ht hr]
    dsimp only
    rw [ih (fun z hz => hl z (List.mem_cons_of_mem _ hz))]
theorem item_wd {g : Gram} (h : RightG g) {x : Item} (hx : itemErr g x = 0) : Wd (itemT g x) := by
  refine ⟨?_, free_of (item_bytes h hx) (.inl (by decide))⟩
  obtain ⟨⟨a1, -, -⟩, -⟩ := item_parts h hx
  obtain ⟨c, r, n1, -, -⟩ := name_head a1
  rw [item_list (item_ok h hx), n1]
  simp
theorem prod_step {g : Gram} (h : RightG g) {p : Prod} (hp : p ∈ g.prods) {x : St} (ht : tokNames x.g = tokNames g) (hr : x.g.rules = g.rules) : stepG x (prodT g p) = .inr ⟨{ x.g with prods := x.g.prods ++ [p] }, x.giv⟩ := by
  obtain ⟨h1, h2⟩ := right_one h hp
  obtain ⟨s, hs, hn, e⟩ := prod_line h hp
  have hf := h.findRule hs
  have hfs := find_same ht hr s
  rw [e, step_of ⟨by decide, by decide⟩ (fun y hy => by
    rcases List.mem_cons.1 hy with rfl | hy
    · exact name_wd hn
    · obtain ⟨z, hz, rfl⟩ := List.mem_map.1 hy
      exact item_wd h (h2 z hz)) (by decide)]
  unfold lineG
  rw [if_neg (by decide), if_neg (by decide), if_neg (by decide), if_neg (by decide), if_pos (by decide)]
  dsimp only
  unfold ruleG
  rw [hfs.1, hf.1, if_neg (by decide), items_step h ht hr p.right h2]
  dsimp only
  rw [hfs.2, hf.2, show ((p.left.toNat : Nat) : Int) = p.left by omega]
theorem prods_run {g : Gram} (h : RightG g) : ∀ (l : List Prod) (x : St), (∀ p ∈ l, p ∈ g.prods) → tokNames x.g = tokNames g → x.g.rules = g.rules → runL x (l.map (prodT g)) = some ⟨{ x.g with prods := x.g.prods ++ l }, x.giv⟩ := by
  intro l
  induction l with
  | nil => intro x _ _ _; rw [List.map_nil, runL, List.append_nil]
  | cons p l ih =>
    intro x hl ht hr
    rw [List.map_cons, runL, prod_step h (hl p List.mem_cons_self) ht hr]
    dsimp only
    rw [ih ⟨{ x.g with prods := x.g.prods ++ [p] }, x.giv⟩ (fun q hq => hl q (List.mem_cons_of_mem _ hq)) ht hr]
    dsimp only
    rw [List.append_assoc]
    rfl

/-! ### All -/
theorem gram_run {g : Gram} (hb : rightB g = true) (hw : ∀ t ∈ g.toks, ∀ y ∈ t.rex, Wordy y) (hs : ∀ t ∈ g.toks, (showR t.rex).size ≤ 4096) : ∃ K : List ByteArray, K.length = 5 ∧ runL ⟨g0, []⟩ (linesG g) = some ⟨g, K⟩ := by
  have h := right_is hb
  unfold linesG
  have e1 := bnds_run g h
  have e2 := toks_run h hw hs g.toks ⟨{ g0 with states := g.states, text := g.text, nodes := g.nodes, pairs := g.pairs }, [wBoundS ++ wStates, wBoundS ++ wText, wBoundS ++ wNodes, wBoundS ++ wPairs]⟩ rfl rfl
  have e3 := runL_app (bndsL g) (g.toks.map tokT) _ _ e1
  rw [e2] at e3
  dsimp only at e3
  have e4 := runL_app (bndsL g ++ g.toks.map tokT) [ruleL g, startL g] _ _ e3
  rw [runL, rule_step h (by rfl) (by rfl)] at e4
  dsimp only at e4
  rw [runL, start_step hb (by rfl) (by rfl) (by show inK startW [wBoundS ++ wStates, wBoundS ++ wText, wBoundS ++ wNodes, wBoundS ++ wPairs] = false; decide)] at e4
  dsimp only at e4
  rw [runL] at e4
  have e5 := runL_app (bndsL g ++ g.toks.map tokT ++ [ruleL g, startL g]) (g.prods.map (prodT g)) _ _ e4
  rw [prods_run h g.prods _ (fun p hp => hp) (by rfl) (by rfl)] at e5
  dsimp only at e5
  refine ⟨_, ?_, e5⟩
  rfl
/-- What is told of a grammar that is right is read as it. -/
theorem gram_back {g : Gram} (hb : rightB g = true) (hw : ∀ t ∈ g.toks, ∀ y ∈ t.rex, Wordy y) (hs : ∀ t ∈ g.toks, (showR t.rex).size ≤ 4096) (hl : linesOf (gramT g) = linesG g) : readG (gramT g) = if 65536 < (gramT g).size then (g0, 0, 4) else (g, 0, 0) := by
  unfold readG
  by_cases hz : 65536 < (gramT g).size
  · rw [if_pos hz, if_pos hz]
  · rw [if_neg hz, if_neg hz]
    obtain ⟨K, hK, e⟩ := gram_run hb hw hs
    rw [hl, linesR_run _ _ _ _ e]
    dsimp only
    unfold endG
    have hk0 : (checkOf g).kind = 0 := of_decide_eq_true hb
    rw [if_neg (fun q => q hK), if_neg (fun q => q hk0)]
end Go.Proofs.YtfmdmeokbbpmlaaGreat
