/-
  gprint: of two grammars that are right the texts are the same just if the grammars are. Plain.
-/
import Derived.Test.YtfmdmeokbbpmlaaGreatGprM
namespace Go.Proofs.YtfmdmeokbbpmlaaGreat
open Go.RowKit Go.Shelf

theorem free_of {c : UInt8} {l : List UInt8} {a b : Nat} (h : ∀ x ∈ l, a ≤ x.toNat ∧ x.toNat ≤ b) (hc : c.toNat < a ∨ b < c.toNat) : c ∉ l := fun hm => by have := h c hm; omega
theorem map_inj_on {α β γ : Type} {f : α → γ} {g : β → γ} {P : α → β → Prop} : ∀ {A : List α} {B : List β}, (∀ a ∈ A, ∀ b ∈ B, f a = g b → P a b) → A.map f = B.map g → A.length = B.length ∧ ∀ (k : Nat) (a : α) (b : β), A[k]? = some a → B[k]? = some b → P a b := by
  intro A
  induction A with
  | nil => intro B _ h; cases B with
    | nil => exact ⟨rfl, fun k a b h => by simp at h⟩
    | cons b B => cases h
  | cons x A ih => intro B hp h; cases B with
    | nil => cases h
    | cons y B =>
      rw [List.map_cons, List.map_cons] at h
      injection h with h1 h2
      obtain ⟨h3, h4⟩ := ih (fun a ha b hb => hp a (List.mem_cons_of_mem _ ha) b (List.mem_cons_of_mem _ hb)) h2
      refine ⟨by rw [List.length_cons, List.length_cons, h3], ?_⟩
      intro k a b ha hb
      cases k with
      | zero =>
        simp only [List.getElem?_cons_zero, Option.some.injEq] at ha hb
        subst ha; subst hb
        exact hp _ List.mem_cons_self _ List.mem_cons_self h1
      | succ k =>
        rw [List.getElem?_cons_succ] at ha hb
        exact h4 k a b ha hb
theorem map_inj_eq {α γ : Type} {f : α → γ} {g : α → γ} {A B : List α} (h : ∀ a ∈ A, ∀ b ∈ B, f a = g b → a = b) (he : A.map f = B.map g) : A = B := by
  obtain ⟨h1, h2⟩ := map_inj_on (P := fun a b => a = b) h he
  refine list_ext_of h1 (fun k hk => ?_)
  rw [List.getElem?_eq_getElem hk, List.getElem?_eq_getElem (h1 ▸ hk)]
  exact congrArg some (h2 k _ _ (List.getElem?_eq_getElem hk) (List.getElem?_eq_getElem (h1 ▸ hk)))
theorem split_eq {α : Type} {P : α → Prop} : ∀ {A A' : List α} {r r' : α} {X X' : List α}, (∀ a ∈ A, ¬ P a) → (∀ a ∈ A', ¬ P a) → P r → P r' → A ++ r :: X = A' ++ r' :: X' → A = A' ∧ r = r' ∧ X = X' := by
  intro A
  induction A with
  | nil => intro A' r r' X X' _ h2 h3 h4 h; cases A' with
    | nil => rw [List.nil_append, List.nil_append] at h; injection h with h5 h6; exact ⟨rfl, h5, h6⟩
    | cons y A' =>
      rw [List.nil_append, List.cons_append] at h
      injection h with h5 h6
      exact absurd (h5 ▸ h3) (h2 y List.mem_cons_self)
  | cons x A ih => intro A' r r' X X' h1 h2 h3 h4 h; cases A' with
    | nil =>
      rw [List.nil_append, List.cons_append] at h
      injection h with h5 h6
      exact absurd (h5 ▸ h4) (h1 x List.mem_cons_self)
    | cons y A' =>
      rw [List.cons_append, List.cons_append] at h
      injection h with h5 h6
      obtain ⟨h7, h8, h9⟩ := ih (fun a ha => h1 a (List.mem_cons_of_mem _ ha)) (fun a ha => h2 a (List.mem_cons_of_mem _ ha)) h3 h4 h6
      exact ⟨by rw [h5, h7], h8, h9⟩

/-! ### Tokens -/
theorem cls_four {c : Int} (h0 : 0 ≤ c) (h3 : c ≤ 3) : c = 0 ∨ c = 1 ∨ c = 2 ∨ c = 3 := by omega
theorem clsW_inj {c d : Int} (h0 : 0 ≤ c) (h3 : c ≤ 3) (k0 : 0 ≤ d) (k3 : d ≤ 3) (h : (clsW c).data.toList = (clsW d).data.toList) : c = d := by
  rcases cls_four h0 h3 with rfl | rfl | rfl | rfl <;> rcases cls_four k0 k3 with rfl | rfl | rfl | rfl <;> first | rfl | exact absurd h (by decide)
theorem clsW_free (c : Int) : (32 : UInt8) ∉ (clsW c).data.toList ∧ (10 : UInt8) ∉ (clsW c).data.toList ∧ (clsW c).data.toList.head? ≠ some 114 := by
  unfold clsW
  split
  · decide
  split
  · decide
  split
  · decide
  · decide
theorem tok_parts {t : Token} (h : tokOk t = true) : nameB t.name = true ∧ rxErr t.rex = 0 ∧ 0 ≤ t.cls ∧ t.cls ≤ 3 := by
  unfold tokOk at h
  simp only [Bool.and_eq_true, decide_eq_true_eq] at h
  exact h
theorem tok_list {t : Token} (h : tokOk t = true) : (tokT t).data.toList = (clsW t.cls).data.toList ++ 32 :: (t.name.data.toList ++ 32 :: (showR t.rex).data.toList) := by
  unfold tokT
  rw [if_pos h, ba_list, ba_list, ba_list, ba_list]
  rw [show spB.data.toList = [32] from rfl]
  simp only [List.append_assoc, List.cons_append, List.nil_append]
theorem tok_inj {t u : Token} (h1 : tokOk t = true) (h2 : tokOk u = true) (w1 : ∀ x ∈ t.rex, Wordy x) (w2 : ∀ x ∈ u.rex, Wordy x) (h : tokT t = tokT u) : t = u := by
  have e := congrArg (fun s : ByteArray => s.data.toList) h
  simp only [tok_list h1, tok_list h2] at e
  obtain ⟨a1, a2, a3, a4⟩ := tok_parts h1
  obtain ⟨b1, b2, b3, b4⟩ := tok_parts h2
  obtain ⟨e1, e2⟩ := cut_eq (clsW_free _).1 (clsW_free _).1 (.inr ⟨_, rfl⟩) (.inr ⟨_, rfl⟩) e
  injection e2 with _ e2
  obtain ⟨e3, e4⟩ := cut_eq (free_of (name_bytes a1) (.inl (by decide))) (free_of (name_bytes b1) (.inl (by decide))) (.inr ⟨_, rfl⟩) (.inr ⟨_, rfl⟩) e2
  injection e4 with _ e4
  have e5 := clsW_inj a3 a4 b3 b4 e1
  have e6 := ba_ext e3
  have e7 := showR_inj a2 b2 w1 w2 (ba_ext e4)
  obtain ⟨n1, r1, c1⟩ := t
  obtain ⟨n2, r2, c2⟩ := u
  dsimp only at e5 e6 e7
  rw [e5, e6, e7]
theorem tok_free {t : Token} (h : tokOk t = true) : (10 : UInt8) ∉ (tokT t).data.toList := by
  obtain ⟨a1, -, -, -⟩ := tok_parts h
  rw [tok_list h]
  intro hm
  rcases List.mem_append.1 hm with hm | hm
  · exact (clsW_free _).2.1 hm
  rcases List.mem_cons.1 hm with hm | hm
  · exact absurd hm (by decide)
  rcases List.mem_append.1 hm with hm | hm
  · exact free_of (name_bytes a1) (.inl (by decide)) hm
  rcases List.mem_cons.1 hm with hm | hm
  · exact absurd hm (by decide)
  · exact free_of (showR_bytes _) (.inl (by decide)) hm
theorem tok_head {t : Token} (h : tokOk t = true) : (tokT t).data.toList.head? ≠ some 114 := by
  rw [tok_list h]
  have h1 := (clsW_free t.cls).2.2
  cases hc : (clsW t.cls).data.toList with
  | nil => rw [List.nil_append]; show some (32 : UInt8) ≠ some 114; decide
  | cons x r => rw [hc] at h1; exact h1

/-! ### Grammars that are right -/
theorem right_is {g : Gram} (h : rightB g = true) : RightG g := (right_iff g).1 (of_decide_eq_true h)
theorem right_tok {g : Gram} (h : RightG g) {t : Token} (ht : t ∈ g.toks) : tokOk t = true := by
  obtain ⟨i, hi⟩ := List.getElem?_of_mem ht
  have h1 := h.tok i (List.getElem?_eq_some_iff.1 hi).1
  have h2 := (h.tokName hi).1
  unfold tokD at h1
  rw [hi] at h1
  dsimp only at h1
  unfold tokErr at h1
  dsimp only at h1
  split at h1
  · rename_i hne; exact absurd h1 hne
  split at h1
  · cases h1
  split at h1
  · cases h1
  · unfold tokOk
    simp only [Bool.and_eq_true, decide_eq_true_eq]
    exact ⟨h2, by omega, by omega, by omega⟩
theorem right_rule {g : Gram} (h : RightG g) {s : ByteArray} (hs : s ∈ g.rules) : nameB s = true := by
  obtain ⟨i, hi⟩ := List.getElem?_of_mem hs
  exact (h.ruleName hi).1
theorem right_one {g : Gram} (h : RightG g) {p : Prod} (hp : p ∈ g.prods) : (0 ≤ p.left ∧ p.left < (g.rules.length : Int)) ∧ ∀ x ∈ p.right, itemErr g x = 0 := by
  obtain ⟨i, hi⟩ := List.getElem?_of_mem hp
  have hs := h.prod i (List.getElem?_eq_some_iff.1 hi).1
  unfold prodD at hs
  rw [hi] at hs
  dsimp only at hs
  unfold prodErr at hs
  split at hs
  · cases hs
  split at hs
  · cases hs
  · refine ⟨by omega, ?_⟩
    intro x hx
    obtain ⟨k, hk⟩ := List.getElem?_of_mem hx
    have := first0_kind.1 hs k (List.getElem?_eq_some_iff.1 hk).1
    unfold itemD at this
    rw [hk] at this
    dsimp only at this
    split at this
    · rename_i hne; exact absurd this hne
    · rename_i hne; exact Classical.not_not.1 hne
theorem item_parts {g : Gram} (h : RightG g) {x : Item} (hx : itemErr g x = 0) : (nameB (nameOf g x) = true ∧ isRule g (nameOf g x) = x.rule ∧ findNo g (nameOf g x) = x.n) ∧ (0 ≤ x.gap ∧ x.gap ≤ 2) ∧ 0 ≤ x.in_ ∧ x.in_ ≤ 8 := by
  unfold itemErr at hx
  by_cases q1 : x.n < 0 ∨ (if x.rule then (g.rules.length : Int) else g.toks.length) ≤ x.n
  · rw [if_pos q1] at hx; cases hx
  rw [if_neg q1] at hx
  by_cases q3 : x.rule = false ∧ clsAt g x.n ≠ 0
  · rw [if_pos q3] at hx; cases hx
  rw [if_neg q3] at hx
  by_cases q2 : x.gap < 0 ∨ 2 < x.gap ∨ x.in_ < 0 ∨ 8 < x.in_
  · rw [if_pos q2] at hx; cases hx
  clear q3 hx
  refine ⟨?_, by omega, by omega, by omega⟩
  obtain ⟨r, n, gp, k⟩ := x
  dsimp only at q1 q2
  have hn : ¬ n < 0 := fun h => q1 (.inl h)
  have hn2 : ¬ (if r = true then (g.rules.length : Int) else g.toks.length) ≤ n := fun h => q1 (.inr h)
  obtain ⟨m, rfl⟩ : ∃ m : Nat, n = (m : Int) := ⟨n.toNat, by omega⟩
  unfold nameOf
  dsimp only
  rw [if_neg hn, Int.toNat_natCast]
  cases r with
  | true =>
    rw [if_pos rfl] at hn2 ⊢
    have hm : m < g.rules.length := by omega
    have e := List.getElem?_eq_getElem hm
    rw [e, Option.getD_some]
    have h2 := h.findRule e
    exact ⟨(h.ruleName e).1, h2.1, h2.2⟩
  | false =>
    rw [if_neg Bool.false_ne_true] at hn2 ⊢
    have hm : m < g.toks.length := by omega
    have e := List.getElem?_eq_getElem hm
    rw [e, Option.map_some, Option.getD_some]
    have h2 := h.findTok e
    exact ⟨(h.tokName e).1, h2.1, h2.2⟩
theorem name_head {s : ByteArray} (h : nameB s = true) : ∃ c r, s.data.toList = c :: r ∧ 48 ≤ c.toNat ∧ c.toNat ≤ 122 := by
  have hb := name_bytes h
  have hn := (holdsB_iff (p := IsName s)).1 h
  have hl := data_len s
  cases hc : s.data.toList with
  | nil => rw [hc] at hl; have := hn.1; simp at hl; omega
  | cons c r => rw [hc] at hb; exact ⟨c, r, rfl, hb c List.mem_cons_self⟩
theorem item_ok {g : Gram} (h : RightG g) {x : Item} (hx : itemErr g x = 0) : itemOk g x = true := by
  obtain ⟨⟨h1, -, -⟩, h2, h3⟩ := item_parts h hx
  unfold itemOk
  simp only [Bool.and_eq_true, decide_eq_true_eq, Bool.not_eq_true']
  refine ⟨?_, h2.1, h2.2, h3⟩
  cases hb : (nameOf g x == ByteArray.empty) with
  | false => rfl
  | true =>
    obtain ⟨c, r, e1, -, -⟩ := name_head h1
    rw [(ba_beq _ _).1 hb] at e1
    cases e1
theorem prod_ok {g : Gram} (h : RightG g) {p : Prod} (hp : p ∈ g.prods) : prodOk g p = true := by
  obtain ⟨h1, h2⟩ := right_one h hp
  unfold prodOk
  simp only [Bool.and_eq_true, decide_eq_true_eq, List.all_eq_true]
  exact ⟨h1.1, h1.2, fun x hx => item_ok h (h2 x hx)⟩

/-! ### Items -/
theorem inW_list (x : Item) : (inW x).data.toList = if 0 < x.in_ then 43 :: showI x.in_ else [] := by
  unfold inW
  split
  · rw [ba_list]; rfl
  · rfl
theorem inW_hd (x : Item) : Hd 43 (inW x).data.toList := by
  rw [inW_list]
  split
  · exact .inr ⟨_, rfl⟩
  · exact .inl rfl
theorem inW_inj {x y : Item} (h1 : 0 ≤ x.in_) (h2 : 0 ≤ y.in_) (h : (inW x).data.toList = (inW y).data.toList) : x.in_ = y.in_ := by
  rw [inW_list, inW_list] at h
  split at h
  · split at h
    · injection h with _ h
      exact num_inj h1 h2 (by unfold numT; rw [h])
    · cases h
  · split at h
    · cases h
    · omega
theorem item_list {g : Gram} {x : Item} (h : itemOk g x = true) : (itemT g x).data.toList = (gapW x.gap).data.toList ++ ((nameOf g x).data.toList ++ (inW x).data.toList) := by
  unfold itemT
  rw [if_pos h, ba_list, ba_list]
theorem gap_three {c : Int} (h0 : 0 ≤ c) (h3 : c ≤ 2) : c = 0 ∨ c = 1 ∨ c = 2 := by omega
theorem item_inj {g : Gram} (h : RightG g) {x y : Item} (hx : itemErr g x = 0) (hy : itemErr g y = 0) (e : itemT g x = itemT g y) : x = y := by
  have e1 := congrArg (fun s : ByteArray => s.data.toList) e
  simp only [item_list (item_ok h hx), item_list (item_ok h hy)] at e1
  obtain ⟨⟨a1, a2, a3⟩, a4, a5, a6⟩ := item_parts h hx
  obtain ⟨⟨b1, b2, b3⟩, b4, b5, b6⟩ := item_parts h hy
  obtain ⟨c, r, n1, n2, n3⟩ := name_head a1
  obtain ⟨d, s, m1, m2, m3⟩ := name_head b1
  have hc1 : c ≠ 126 := fun k => by rw [k] at n3; exact absurd n3 (by decide)
  have hc2 : c ≠ 33 := fun k => by rw [k] at n2; exact absurd n2 (by decide)
  have hd1 : d ≠ 126 := fun k => by rw [k] at m3; exact absurd m3 (by decide)
  have hd2 : d ≠ 33 := fun k => by rw [k] at m2; exact absurd m2 (by decide)
  have hg : x.gap = y.gap ∧ (nameOf g x).data.toList ++ (inW x).data.toList = (nameOf g y).data.toList ++ (inW y).data.toList := by
    rcases gap_three a4.1 a4.2 with h1 | h1 | h1 <;> rcases gap_three b4.1 b4.2 with h2 | h2 | h2 <;> rw [h1, h2] at e1 <;> rw [h1, h2]
    · exact ⟨rfl, e1⟩
    · rw [n1] at e1; injection e1 with e1 _; exact absurd e1 hc1
    · rw [n1] at e1; injection e1 with e1 _; exact absurd e1 hc2
    · rw [m1] at e1; injection e1 with e1 _; exact absurd e1.symm hd1
    · injection e1 with _ e1; exact ⟨rfl, e1⟩
    · injection e1 with e1 _; exact absurd e1 (by decide)
    · rw [m1] at e1; injection e1 with e1 _; exact absurd e1.symm hd2
    · injection e1 with e1 _; exact absurd e1 (by decide)
    · injection e1 with _ e1; exact ⟨rfl, e1⟩
  obtain ⟨h1, h2⟩ := cut_eq (free_of (name_bytes a1) (.inl (by decide))) (free_of (name_bytes b1) (.inl (by decide))) (inW_hd x) (inW_hd y) hg.2
  have h3 := inW_inj a5 b5 h2
  have h4 := ba_ext h1
  rw [h4, b2] at a2
  rw [h4, b3] at a3
  obtain ⟨x1, x2, x3, x4⟩ := x
  obtain ⟨y1, y2, y3, y4⟩ := y
  dsimp only at a2 a3 h3 hg
  rw [a2, a3, h3, hg.1]
theorem item_bytes {g : Gram} (h : RightG g) {x : Item} (hx : itemErr g x = 0) : ∀ c ∈ (itemT g x).data.toList, 33 ≤ c.toNat ∧ c.toNat ≤ 126 := by
  obtain ⟨⟨a1, -, -⟩, a4, a5, a6⟩ := item_parts h hx
  rw [item_list (item_ok h hx)]
  intro c hc
  rcases List.mem_append.1 hc with hc | hc
  · rcases gap_three a4.1 a4.2 with h1 | h1 | h1 <;> rw [h1] at hc
    · cases hc
    · rw [List.mem_singleton.1 (show c ∈ [126] from hc)]; decide
    · rw [List.mem_singleton.1 (show c ∈ [33] from hc)]; decide
  rcases List.mem_append.1 hc with hc | hc
  · have := name_bytes a1 c hc; omega
  · rw [inW_list] at hc
    split at hc
    · rcases List.mem_cons.1 hc with rfl | hc
      · decide
      · have := num_bytes x.in_ c hc; omega
    · cases hc

/-! ### Productions -/
theorem prod_line {g : Gram} (h : RightG g) {p : Prod} (hp : p ∈ g.prods) : ∃ s, g.rules[p.left.toNat]? = some s ∧ nameB s = true ∧ prodT g p = lineB ruleW (s :: p.right.map (itemT g)) := by
  obtain ⟨h1, h2⟩ := right_one h hp
  have hl : p.left.toNat < g.rules.length := by omega
  have e := List.getElem?_eq_getElem hl
  refine ⟨_, e, (h.ruleName e).1, ?_⟩
  unfold prodT
  rw [if_pos (prod_ok h hp), e, Option.getD_some]
theorem prod_inj {g : Gram} (h : RightG g) {p q : Prod} (hp : (0 ≤ p.left ∧ p.left < (g.rules.length : Int)) ∧ ∀ x ∈ p.right, itemErr g x = 0) (hq : (0 ≤ q.left ∧ q.left < (g.rules.length : Int)) ∧ ∀ x ∈ q.right, itemErr g x = 0) (e : prodT g p = prodT g q) : p = q := by
  obtain ⟨h1, h2⟩ := hp
  obtain ⟨k1, k2⟩ := hq
  have ok1 : prodOk g p = true := by
    unfold prodOk
    simp only [Bool.and_eq_true, decide_eq_true_eq, List.all_eq_true]
    exact ⟨h1.1, h1.2, fun x hx => item_ok h (h2 x hx)⟩
  have ok2 : prodOk g q = true := by
    unfold prodOk
    simp only [Bool.and_eq_true, decide_eq_true_eq, List.all_eq_true]
    exact ⟨k1.1, k1.2, fun x hx => item_ok h (k2 x hx)⟩
  have l1 : p.left.toNat < g.rules.length := by omega
  have l2 : q.left.toNat < g.rules.length := by omega
  have e1 := List.getElem?_eq_getElem l1
  have e2 := List.getElem?_eq_getElem l2
  unfold prodT at e
  rw [if_pos ok1, if_pos ok2, e1, e2, Option.getD_some, Option.getD_some] at e
  have free : ∀ (n : ByteArray) (l : List Item), nameB n = true → (∀ x ∈ l, itemErr g x = 0) → ∀ y ∈ n :: l.map (itemT g), (32 : UInt8) ∉ y.data.toList := by
    intro n l hn hl y hy
    rcases List.mem_cons.1 hy with rfl | hy
    · exact free_of (name_bytes hn) (.inl (by decide))
    · obtain ⟨x, hx, rfl⟩ := List.mem_map.1 hy
      exact free_of (item_bytes h (hl x hx)) (.inl (by decide))
  have e3 := lineB_inj (free _ _ (h.ruleName e1).1 h2) (free _ _ (h.ruleName e2).1 k2) e
  injection e3 with e4 e5
  have f1 := (h.findRule e1).2
  have f2 := (h.findRule e2).2
  rw [e4, f2] at f1
  have e6 := map_inj_eq (fun a ha b hb => item_inj h (h2 a ha) (k2 b hb)) e5
  obtain ⟨a, b⟩ := p
  obtain ⟨c, d⟩ := q
  dsimp only at f1 e6 h1 k1
  rw [e6, show a = c by omega]

/-! ### All -/
theorem ten_bnd (k : Nat) : (10 : UInt8) ∉ (bndW k).data.toList := by
  unfold bndW
  split
  · decide
  split
  · decide
  split
  · decide
  · decide
theorem ten_of {x : ByteArray} {r : List ByteArray} (h1 : (10 : UInt8) ∉ x.data.toList) (h2 : ∀ y ∈ r, (10 : UInt8) ∉ y.data.toList) : (10 : UInt8) ∉ (lineB x r).data.toList := fun hm =>
  lineB_all (P := fun c => c ≠ 10) (by decide) (fun c hc e => h1 (e ▸ hc)) (fun y hy c hc e => h2 y hy (e ▸ hc)) 10 hm rfl
theorem lines_free {g : Gram} (h : rightB g = true) : ∀ l ∈ linesG g, (10 : UInt8) ∉ l.data.toList := by
  have hr := right_is h
  have hn : ∀ k n, (10 : UInt8) ∉ (lineB (bndW k) [numT n]).data.toList := fun k n => ten_of (ten_bnd k) (fun y hy => by
    rw [List.mem_singleton.1 hy]; exact free_of (num_bytes n) (.inl (by decide)))
  have hru : ∀ s ∈ g.rules, (10 : UInt8) ∉ s.data.toList := fun s hs => free_of (name_bytes (right_rule hr hs)) (.inl (by decide))
  intro l hl
  unfold linesG at hl
  rcases List.mem_append.1 hl with hl | hl
  · rcases List.mem_append.1 hl with hl | hl
    · rcases List.mem_append.1 hl with hl | hl
      · unfold bndsL at hl
        simp only [List.mem_cons, List.not_mem_nil, or_false] at hl
        rcases hl with rfl | rfl | rfl | rfl <;> exact hn _ _
      · obtain ⟨t, ht, rfl⟩ := List.mem_map.1 hl
        exact tok_free (right_tok hr ht)
    · simp only [List.mem_cons, List.not_mem_nil, or_false] at hl
      rcases hl with rfl | rfl
      · exact ten_of (by decide) hru
      · refine ten_of (by decide) (fun y hy => ?_)
        rw [List.mem_singleton.1 hy]
        cases hc : g.rules[g.start.toNat]? with
        | none => exact fun hm => by cases hm
        | some s => exact hru s (List.mem_of_getElem? hc)
  · obtain ⟨p, hp, rfl⟩ := List.mem_map.1 hl
    obtain ⟨s, hs, hn2, e⟩ := prod_line hr hp
    rw [e]
    refine ten_of (by decide) (fun y hy => ?_)
    rcases List.mem_cons.1 hy with rfl | hy
    · exact free_of (name_bytes hn2) (.inl (by decide))
    · obtain ⟨x, hx, rfl⟩ := List.mem_map.1 hy
      exact free_of (item_bytes hr ((right_one hr hp).2 x hx)) (.inl (by decide))
theorem lines_flat (g : Gram) : linesG g = lineB (bndW 0) [numT g.states] :: lineB (bndW 1) [numT g.text] :: lineB (bndW 2) [numT g.nodes] :: lineB (bndW 3) [numT g.pairs] :: (g.toks.map tokT ++ ruleL g :: startL g :: g.prods.map (prodT g)) := by
  unfold linesG bndsL
  simp only [List.append_assoc, List.cons_append, List.nil_append]
theorem num_free (n : Int) : ∀ y ∈ [numT n], (32 : UInt8) ∉ y.data.toList := fun y hy => by
  rw [List.mem_singleton.1 hy]; exact free_of (num_bytes n) (.inl (by decide))
theorem bnd_inj {k : Nat} {n m : Int} (h1 : 0 ≤ n) (h2 : 0 ≤ m) (h : lineB (bndW k) [numT n] = lineB (bndW k) [numT m]) : n = m := by
  have := lineB_inj (num_free n) (num_free m) h
  injection this with this _
  exact num_inj h1 h2 this
theorem right_low {g : Gram} (h : RightG g) : 0 ≤ g.states ∧ 0 ≤ g.text ∧ 0 ≤ g.nodes ∧ 0 ≤ g.pairs := by
  have hs := h.sizes
  unfold sizesOf at hs
  split at hs; · cases hs
  split at hs; · cases hs
  split at hs; · cases hs
  split at hs; · cases hs
  split at hs; · cases hs
  split at hs; · cases hs
  split at hs; · cases hs
  omega
theorem lines_inj {g h : Gram} (hg : rightB g = true) (hh : rightB h = true) (wg : ∀ t ∈ g.toks, ∀ x ∈ t.rex, Wordy x) (wh : ∀ t ∈ h.toks, ∀ x ∈ t.rex, Wordy x) (e : linesG g = linesG h) : g = h := by
  have rg := right_is hg
  have rh := right_is hh
  rw [lines_flat, lines_flat] at e
  injection e with e1 e
  injection e with e2 e
  injection e with e3 e
  injection e with e4 e
  have lg := right_low rg
  have lh := right_low rh
  have i1 := bnd_inj lg.1 lh.1 e1
  have i2 := bnd_inj lg.2.1 lh.2.1 e2
  have i3 := bnd_inj lg.2.2.1 lh.2.2.1 e3
  have i4 := bnd_inj lg.2.2.2 lh.2.2.2 e4
  have hd : ∀ x : Gram, (ruleL x).data.toList.head? = some 114 := fun x => by unfold ruleL; rw [lineB_list]; rfl
  obtain ⟨t1, t2, t3⟩ := split_eq (P := fun l : ByteArray => l.data.toList.head? = some 114) (fun a ha => by
    obtain ⟨t, ht, rfl⟩ := List.mem_map.1 ha
    exact tok_head (right_tok rg ht)) (fun a ha => by
    obtain ⟨t, ht, rfl⟩ := List.mem_map.1 ha
    exact tok_head (right_tok rh ht)) (hd g) (hd h) e
  injection t3 with t3 t4
  have i5 : g.toks = h.toks := map_inj_eq (fun a ha b hb => tok_inj (right_tok rg ha) (right_tok rh hb) (wg a ha) (wh b hb)) t1
  have fr : ∀ {x : Gram}, RightG x → ∀ y ∈ x.rules, (32 : UInt8) ∉ y.data.toList := fun hx y hy => free_of (name_bytes (right_rule hx hy)) (.inl (by decide))
  have i6 : g.rules = h.rules := lineB_inj (fr rg) (fr rh) t2
  obtain ⟨j, j1, j2⟩ := right_start hg
  obtain ⟨k, k1, k2⟩ := right_start hh
  have i7 : g.start = h.start := by
    unfold startL at t3
    rw [j1, k1, Int.toNat_natCast, Int.toNat_natCast, List.getElem?_eq_getElem j2, List.getElem?_eq_getElem k2, Option.getD_some, Option.getD_some] at t3
    have hf := lineB_inj (r := [g.rules[j]]) (r' := [h.rules[k]]) (fun y hy => by rw [List.mem_singleton.1 hy]; exact fr rg _ (List.getElem_mem j2)) (fun y hy => by rw [List.mem_singleton.1 hy]; exact fr rh _ (List.getElem_mem k2)) t3
    injection hf with hf _
    have f1 := (rg.findRule (List.getElem?_eq_getElem j2)).2
    have k3 : k < g.rules.length := by rw [i6]; exact k2
    have f2 := (rg.findRule (List.getElem?_eq_getElem k3)).2
    have hk : g.rules[k] = h.rules[k] := by simp only [i6]
    rw [hf, ← hk, f2] at f1
    rw [j1, k1, f1]
  obtain ⟨gt, gr, gp, gs, ga, gb, gc, gd⟩ := g
  obtain ⟨ht, hr, hp, hs, ha, hb, hc, hd⟩ := h
  dsimp only at i1 i2 i3 i4 i5 i6 i7
  subst i1 i2 i3 i4 i5 i6 i7
  have nm : ∀ x : Item, nameOf ⟨gt, gr, hp, gs, ga, gb, gc, gd⟩ x = nameOf ⟨gt, gr, gp, gs, ga, gb, gc, gd⟩ x := fun x => rfl
  have i8 : gp = hp := map_inj_eq (fun a ha b hb hab => prod_inj rg (right_one rg ha) (by
    obtain ⟨q1, q2⟩ := right_one rh hb
    exact ⟨q1, fun x hx => q2 x hx⟩) hab) t4
  rw [i8]
/-- Two grammars that are right have the same text just if they are the same. -/
theorem gram_apart {g h : Gram} (hg : rightB g = true) (hh : rightB h = true) (wg : ∀ t ∈ g.toks, ∀ x ∈ t.rex, Wordy x) (wh : ∀ t ∈ h.toks, ∀ x ∈ t.rex, Wordy x) : gramT g = gramT h ↔ g = h := by
  constructor
  · intro e
    unfold gramT at e
    rw [if_pos hg, if_pos hh] at e
    exact lines_inj hg hh wg wh (textB_inj (lines_free hg) (lines_free hh) e)
  · intro e; rw [e]
end Go.Proofs.YtfmdmeokbbpmlaaGreat
