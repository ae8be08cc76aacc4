/-
  The reading of an expression's text, plainly, as the program does it: one sign after another, with the groups that are open. What is shown of a set is read as it. What is shown of a class that was read is not much longer than it. What is read is a tree's steps, and what is shown of it is not much longer than what was read. What is shown of a tree is read as it. An expression's steps are one tree's: of two trees with the same steps what is shown is the same.
-/
import Derived.Test.YtfmdmeokbbpmlaaGreatC1
namespace Go.Proofs.YtfmdmeokbbpmlaaGreat

/-- The signs behind a piece. -/
def signsM : List Rx → List Nat → List Rx × List Nat
  | l, [] => (l, [])
  | l, c :: r => match repOf c with
    | some k => signsM (l ++ [opRx k.num]) r
    | none => (l, c :: r)
/-- A piece is whole: pieces and branches of the group. -/
def pieceM (l : List Rx) (g : Nat × Nat) : List Rx × (Nat × Nat) := (if 1 ≤ g.1 then l ++ [opRx 3] else l, (g.1 + 1, g.2))
def emptyM (l : List Rx) (g : Nat × Nat) : List Rx := if g.1 = 0 then l ++ [opRx 2] else l
/-- A branch is whole. -/
def branchM (l : List Rx) (g : Nat × Nat) : List Rx × (Nat × Nat) := (if 1 ≤ g.2 then emptyM l g ++ [opRx 4] else emptyM l g, (0, g.2 + 1))
structure MS where
  cs : List Nat
  l : List Rx
  g : Nat × Nat
  gs : List (Nat × Nat)
def afterM (l : List Rx) (cs : List Nat) (g : Nat × Nat) (gs : List (Nat × Nat)) : MS := ⟨(signsM l cs).2, (pieceM (signsM l cs).1 g).1, (pieceM (signsM l cs).1 g).2, gs⟩
/-- One round, at a byte; or how much is left where there is no text. -/
def stepM (c : Nat) (r : List Nat) (l : List Rx) (g : Nat × Nat) (gs : List (Nat × Nat)) : Nat ⊕ MS :=
  if c = 40 then .inr ⟨r, l, (0, 0), g :: gs⟩
  else if c = 124 then .inr ⟨r, (branchM l g).1, (branchM l g).2, gs⟩
  else if c = 41 then (match gs with
    | [] => .inl (r.length + 1)
    | h :: gs' => .inr (afterM (branchM l g).1 r h gs'))
  else match rdSet (c :: r) with
    | .inl k => .inl k
    | .inr (f, r1) => .inr (afterM (l ++ [setRx f]) r1 g gs)
def runM : Nat → MS → Nat ⊕ List Rx
  | _, ⟨[], l, g, gs⟩ => if gs = [] then .inr (branchM l g).1 else .inl 0
  | 0, ⟨_ :: r, _, _, _⟩ => .inl (r.length + 1)
  | n + 1, ⟨c :: r, l, g, gs⟩ => match stepM c r l g gs with
    | .inl k => .inl k
    | .inr s => runM n s
/-- A text's steps, how far it was read, and what is wrong. -/
def readM (cs : List Nat) : List Rx × Nat × Int :=
  if 4096 < cs.length then ([], 0, 4) else match runM cs.length ⟨cs, [], (0, 0), []⟩ with
    | .inl p => ([], cs.length - p, 3)
    | .inr l => if 512 < l.length then ([], 0, 4) else (l, cs.length, 0)

/-! ### How much is read -/
theorem signs_le : ∀ (cs : List Nat) (l : List Rx), (signsM l cs).2.length ≤ cs.length := by
  intro cs
  induction cs with
  | nil => intro l; exact Nat.le_refl _
  | cons c r ih =>
    intro l
    rw [signsM]
    split
    · exact Nat.le_trans (ih _) (by simp)
    · exact Nat.le_refl _
theorem esc_le {cs r : List Nat} {b : Nat} (h : rdEsc cs = .inr (b, r)) : r.length + 1 ≤ cs.length := by
  cases cs with
  | nil => cases h
  | cons c cs =>
    rw [rdEsc.eq_def] at h
    dsimp only at h
    split at h
    · cases h; simp
    · split at h
      · cases h; simp
      · split at h
        · cases h; simp
        · split at h
          · split at h
            · cases h
            · split at h
              · cases h
              · split at h
                · cases h
                · split at h
                  · cases h
                  · cases h; simp
          · split at h
            · cases h
            · cases h; simp
theorem chr_le {but cs r : List Nat} {b : Nat} (h : rdChr but cs = .inr (b, r)) : r.length + 1 ≤ cs.length := by
  cases cs with
  | nil => cases h
  | cons c cs =>
    rw [rdChr] at h
    split at h
    · have := esc_le h; rw [List.length_cons]; omega
    · split at h
      · cases h
      · cases h; simp
theorem item_le {cs r : List Nat} {x : Nat × Nat} (h : rdItem cs = .inr (x, r)) : r.length + 1 ≤ cs.length := by
  rw [rdItem] at h
  split at h
  · cases h
  · rename_i lo r1 h1
    have a1 := chr_le h1
    split at h
    · rename_i r2
      split at h
      · cases h
      · rename_i hi r3 h3
        have a2 := chr_le h3
        split at h
        · cases h
        · cases h
          simp at a1
          omega
    · cases h; exact a1
theorem items_le : ∀ (n : Nat) (acc : List (Nat × Nat)) (cs r : List Nat) (l : List (Nat × Nat)), rdItems n acc cs = .inr (l, r) → r.length + 1 ≤ cs.length := by
  intro n
  induction n with
  | zero => intro acc cs r l h; cases h
  | succ n ih =>
    intro acc cs r l h
    rw [rdItems] at h
    split at h
    · rename_i hc
      cases h
      cases cs with
      | nil => simp at hc
      | cons c cs => simp
    · split at h
      · cases h
      · rename_i x r1 h1
        have := item_le h1
        have := ih _ _ _ _ h
        omega
theorem set_le {cs r : List Nat} {f : Nat → Bool} (h : rdSet cs = .inr (f, r)) : r.length + 1 ≤ cs.length := by
  rw [rdSet] at h
  split at h
  · rename_i hc
    cases h
    cases cs with
    | nil => cases hc
    | cons c cs => simp
  · split at h
    · rename_i hc
      cases cs with
      | nil => cases hc
      | cons c cs =>
        rw [rdClass] at h
        rw [List.tail_cons] at h
        have hlt : cs.tail.length ≤ cs.length := by simp
        split at h
        · split at h
          · cases h
          · rename_i h1
            cases h
            have := items_le _ _ _ _ _ h1
            simp; omega
        · split at h
          · cases h
          · rename_i h1
            cases h
            have := items_le _ _ _ _ _ h1
            simp; omega
    · split at h
      · cases h
      · rename_i h1
        cases h
        exact chr_le h1
theorem step_le {c : Nat} {r : List Nat} {l : List Rx} {g : Nat × Nat} {gs : List (Nat × Nat)} {s : MS} (h : stepM c r l g gs = .inr s) : s.cs.length ≤ r.length := by
  unfold stepM at h
  split at h
  · cases h; exact Nat.le_refl _
  · split at h
    · cases h; exact Nat.le_refl _
    · split at h
      · split at h
        · cases h
        · cases h; exact signs_le _ _
      · split at h
        · cases h
        · rename_i h1
          cases h
          have := set_le h1
          simp at this
          exact Nat.le_trans (signs_le _ _) this
/-- With enough rounds one more makes no difference. -/
theorem run_more : ∀ (n : Nat) (s : MS), s.cs.length ≤ n → runM (n + 1) s = runM n s := by
  intro n
  induction n with
  | zero =>
    intro s h
    obtain ⟨cs, l, g, gs⟩ := s
    cases cs with
    | nil => rw [runM, runM]
    | cons c r => simp at h
  | succ n ih =>
    intro s h
    obtain ⟨cs, l, g, gs⟩ := s
    cases cs with
    | nil => rw [runM, runM]
    | cons c r =>
      rw [runM, runM]
      cases hs : stepM c r l g gs with
      | inl k => rfl
      | inr s' =>
        have := step_le hs
        simp at h
        exact ih s' (by omega)
theorem run_enough {n m : Nat} {s : MS} (h1 : s.cs.length ≤ n) (h2 : n ≤ m) : runM m s = runM n s := by
  obtain ⟨d, rfl⟩ : ∃ d, m = n + d := ⟨m - n, by omega⟩
  clear h2
  induction d with
  | zero => rfl
  | succ d ih => rw [← Nat.add_assoc, run_more _ _ (by omega), ih]
/-- A run with as many rounds as bytes. -/
def runS (s : MS) : Nat ⊕ List Rx := runM s.cs.length s
theorem runS_nil (l : List Rx) (g : Nat × Nat) (gs : List (Nat × Nat)) : runS ⟨[], l, g, gs⟩ = if gs = [] then .inr (branchM l g).1 else .inl 0 := by
  unfold runS; rw [runM]
theorem runS_cons (c : Nat) (r : List Nat) (l : List Rx) (g : Nat × Nat) (gs : List (Nat × Nat)) : runS ⟨c :: r, l, g, gs⟩ = match stepM c r l g gs with
    | .inl k => .inl k
    | .inr s => runS s := by
  unfold runS
  dsimp only [List.length_cons]
  rw [runM]
  cases hs : stepM c r l g gs with
  | inl k => rfl
  | inr s' => exact run_enough (Nat.le_refl _) (step_le hs)
theorem runS_step {c : Nat} {r : List Nat} {l : List Rx} {g : Nat × Nat} {gs : List (Nat × Nat)} {s : MS} (h : stepM c r l g gs = .inr s) : runS ⟨c :: r, l, g, gs⟩ = runS s := by
  rw [runS_cons, h]
end Go.Proofs.YtfmdmeokbbpmlaaGreat

namespace Go.Proofs.YtfmdmeokbbpmlaaGreat

/-! ### Bytes -/
theorem hexC_ok : ∀ d, d < 16 → hexB (hexC d) = true ∧ hexV (hexC d) = d := by decide
def ButOk (but : List Nat) : Prop := 92 ∈ but ∧ ∀ x ∈ but, seenB x = true ∧ wordB x = false
theorem sign_ok : ButOk signL := by unfold ButOk; decide
theorem edge_ok : ButOk edgeL := by unfold ButOk; decide
theorem chr_reads {but : List Nat} (hb : ButOk but) {c : Nat} (hc : c < 256) (rest : List Nat) : rdChr but (chrT but c ++ rest) = .inr (c, rest) := by
  unfold chrT
  split
  · rename_i h; rw [h]; rfl
  · split
    · rename_i h; rw [h]; rfl
    · split
      · rename_i h; rw [h]; rfl
      · split
        · obtain ⟨a1, a2⟩ := hexC_ok (c / 16) (by omega)
          obtain ⟨b1, b2⟩ := hexC_ok (c % 16) (by omega)
          rw [show ([92, 120, hexC (c / 16), hexC (c % 16)] ++ rest : List Nat) = 92 :: 120 :: hexC (c / 16) :: hexC (c % 16) :: rest from rfl, rdChr, if_pos rfl, rdEsc.eq_def]
          dsimp only
          rw [if_neg (by decide), if_neg (by decide), if_neg (by decide), if_pos rfl, if_neg (by rw [a1]; decide), if_neg (by rw [b1]; decide), a2, b2]
          congr 2
          omega
        · rename_i hs
          split
          · rename_i hm
            obtain ⟨h1, h2⟩ := hb.2 c hm
            have hw : c ≠ 110 ∧ c ≠ 116 ∧ c ≠ 114 ∧ c ≠ 120 := by
              refine ⟨?_, ?_, ?_, ?_⟩ <;> (rintro rfl; exact absurd h2 (by decide))
            rw [show ([92, c] ++ rest : List Nat) = 92 :: c :: rest from rfl, rdChr, if_pos rfl, rdEsc.eq_def]
            dsimp only
            rw [if_neg hw.1, if_neg hw.2.1, if_neg hw.2.2.1, if_neg hw.2.2.2, if_neg (by rw [h1, h2]; decide)]
          · rename_i hm
            rw [show ([c] ++ rest : List Nat) = c :: rest from rfl, rdChr, if_neg (by rintro rfl; exact hm hb.1), if_neg (by
              rintro (h | h)
              · exact hs h
              · exact hm h)]
theorem chr_head (but : List Nat) (c : Nat) : ∃ x r, chrT but c = x :: r ∧ (x = 92 ∨ (x ∉ but ∧ seenB x = true)) := by
  unfold chrT
  split
  · exact ⟨_, _, rfl, .inl rfl⟩
  · split
    · exact ⟨_, _, rfl, .inl rfl⟩
    · split
      · exact ⟨_, _, rfl, .inl rfl⟩
      · split
        · exact ⟨_, _, rfl, .inl rfl⟩
        · rename_i hs
          split
          · exact ⟨_, _, rfl, .inl rfl⟩
          · rename_i hm
            exact ⟨_, _, rfl, .inr ⟨hm, by cases h : seenB c; exact absurd h hs; rfl⟩⟩
theorem edge_head (c : Nat) : ∃ x r, chrT edgeL c = x :: r ∧ x ≠ 93 ∧ x ≠ 94 ∧ x ≠ 45 := by
  obtain ⟨x, r, h, h2⟩ := chr_head edgeL c
  refine ⟨x, r, h, ?_⟩
  rcases h2 with rfl | ⟨h2, _⟩
  · decide
  · refine ⟨?_, ?_, ?_⟩ <;> (rintro rfl; exact h2 (by decide))
/-! ### Items -/
theorem item_one {c : Nat} (hc : c < 256) {rest : List Nat} (hr : rest.head? ≠ some 45) : rdItem (chrT edgeL c ++ rest) = .inr ((c, c), rest) := by
  rw [rdItem, chr_reads edge_ok hc]
  dsimp only
  split
  · exact absurd rfl hr
  · rfl
theorem item_two {a b : Nat} (ha : a < 256) (hb : b < 256) (hab : a ≤ b) (rest : List Nat) : rdItem (chrT edgeL a ++ 45 :: (chrT edgeL b ++ rest)) = .inr ((a, b), rest) := by
  rw [rdItem, chr_reads edge_ok ha]
  show ((match rdChr edgeL (chrT edgeL b ++ rest) with
    | .inl p => .inl p
    | .inr (hi, r2) => if hi < a then .inl (r2.length + 1) else .inr ((a, hi), r2) : Nat ⊕ ((Nat × Nat) × List Nat))) = _
  rw [chr_reads edge_ok hb]
  dsimp only
  rw [if_neg (by omega)]
theorem items_next {n : Nat} {acc : List (Nat × Nat)} {cs r : List Nat} {x : Nat × Nat} (h1 : cs.head? ≠ some 93) (h2 : rdItem cs = .inr (x, r)) : rdItems (n + 1) acc cs = rdItems n (acc ++ [x]) r := by
  rw [rdItems, if_neg (fun h => h1 h.2), h2]
theorem head_app {c : Nat} {p : Nat} (rest : List Nat) (h : ∃ x r, chrT edgeL c = x :: r ∧ x ≠ p) : (chrT edgeL c ++ rest).head? ≠ some p := by
  obtain ⟨x, r, e, hx⟩ := h
  rw [e]
  intro h
  exact hx (Option.some.inj h)
theorem edge93 (c : Nat) (rest : List Nat) : (chrT edgeL c ++ rest).head? ≠ some 93 := head_app rest (by obtain ⟨x, r, e, h, _, _⟩ := edge_head c; exact ⟨x, r, e, h⟩)
theorem edge94 (c : Nat) (rest : List Nat) : (chrT edgeL c ++ rest).head? ≠ some 94 := head_app rest (by obtain ⟨x, r, e, _, h, _⟩ := edge_head c; exact ⟨x, r, e, h⟩)
theorem edge45 (c : Nat) (rest : List Nat) : (chrT edgeL c ++ rest).head? ≠ some 45 := head_app rest (by obtain ⟨x, r, e, _, _, h⟩ := edge_head c; exact ⟨x, r, e, h⟩)
theorem chr_pos (but : List Nat) (c : Nat) : 1 ≤ (chrT but c).length := by
  obtain ⟨x, r, e, _⟩ := chr_head but c
  rw [e]; simp
/-- A run begins with an edge. -/
theorem run_begin (r : Nat × Nat) : ∃ t, runT r = chrT edgeL r.1 ++ t := by
  unfold runT
  split
  · exact ⟨[], by simp⟩
  · split
    · exact ⟨_, rfl⟩
    · exact ⟨_, rfl⟩
theorem body_head (p : Nat) (hp : p ≠ 93) (hq : ∀ c rest, (chrT edgeL c ++ rest).head? ≠ some p) (rs : List (Nat × Nat)) (rest : List Nat) : ((rs.map runT).flatten ++ 93 :: rest).head? ≠ some p := by
  cases rs with
  | nil => intro h; exact hp (Option.some.inj h).symm
  | cons r rs =>
    obtain ⟨t, ht⟩ := run_begin r
    rw [List.map_cons, List.flatten_cons, ht, List.append_assoc, List.append_assoc]
    exact hq _ _
theorem items_read : ∀ (rs : List (Nat × Nat)) (n : Nat) (acc : List (Nat × Nat)) (rest : List Nat), (∀ r ∈ rs, r.1 ≤ r.2 ∧ r.2 < 256) → ((rs.map runT).flatten).length < n → (acc ≠ [] ∨ rs ≠ []) →
    ∃ l, rdItems n acc ((rs.map runT).flatten ++ 93 :: rest) = .inr (acc ++ l, rest) ∧ ∀ b, spansS l b = rs.any (fun r => spanS r.1 r.2 b) := by
  intro rs
  induction rs with
  | nil =>
    intro n acc rest _ hn ha
    match n, hn with
    | n + 1, _ =>
      refine ⟨[], ?_, fun b => rfl⟩
      rw [List.map_nil, List.flatten_nil, List.nil_append, rdItems, if_pos ⟨ha.resolve_right (fun h => h rfl), rfl⟩, List.append_nil]
      rfl
  | cons r rs ih =>
    intro n acc rest hr hn _
    obtain ⟨h1, h2⟩ := hr r List.mem_cons_self
    have hrs := fun x hx => hr x (List.mem_cons_of_mem _ hx)
    rw [List.map_cons, List.flatten_cons, List.append_assoc] at *
    rw [List.length_append] at hn
    have p1 := chr_pos edgeL r.1
    have p2 := chr_pos edgeL r.2
    by_cases e1 : r.2 = r.1
    · have ht : runT r = chrT edgeL r.1 := by unfold runT; rw [if_pos e1]
      rw [ht] at hn ⊢
      obtain ⟨m, rfl⟩ : ∃ m, n = m + 1 := ⟨n - 1, by omega⟩
      rw [items_next (edge93 _ _) (item_one (by omega) (body_head 45 (by decide) edge45 rs rest))]
      obtain ⟨l, i1, i2⟩ := ih m (acc ++ [(r.1, r.1)]) rest hrs (by omega) (.inl (by simp))
      refine ⟨(r.1, r.1) :: l, by rw [i1]; simp, fun b => ?_⟩
      rw [List.any_cons, ← i2, e1]
      rfl
    · by_cases e2 : r.2 = r.1 + 1
      · have ht : runT r = chrT edgeL r.1 ++ chrT edgeL r.2 := by unfold runT; rw [if_neg e1, if_pos e2]
        rw [ht, List.length_append] at hn
        rw [ht, List.append_assoc]
        obtain ⟨m, rfl⟩ : ∃ m, n = m + 1 + 1 := ⟨n - 2, by omega⟩
        rw [items_next (edge93 _ _) (item_one (by omega) (edge45 _ _)), items_next (edge93 _ _) (item_one (by omega) (body_head 45 (by decide) edge45 rs rest))]
        obtain ⟨l, i1, i2⟩ := ih m (acc ++ [(r.1, r.1)] ++ [(r.2, r.2)]) rest hrs (by omega) (.inl (by simp))
        refine ⟨(r.1, r.1) :: (r.2, r.2) :: l, by rw [i1]; simp, fun b => ?_⟩
        rw [List.any_cons, ← i2]
        unfold spansS
        rw [List.any_cons, List.any_cons, ← Bool.or_assoc]
        congr 1
        unfold spanS
        rw [Bool.eq_iff_iff]
        simp
        omega
      · have ht : runT r = chrT edgeL r.1 ++ 45 :: chrT edgeL r.2 := by unfold runT; rw [if_neg e1, if_neg e2]
        rw [ht, List.length_append, List.length_cons] at hn
        rw [ht, List.append_assoc, List.cons_append]
        obtain ⟨m, rfl⟩ : ∃ m, n = m + 1 := ⟨n - 1, by omega⟩
        rw [items_next (edge93 _ _) (item_two (by omega) (by omega) h1 _)]
        obtain ⟨l, i1, i2⟩ := ih m (acc ++ [(r.1, r.2)]) rest hrs (by omega) (.inl (by simp))
        refine ⟨(r.1, r.2) :: l, by rw [i1]; simp, fun b => ?_⟩
        rw [List.any_cons, ← i2]
        rfl
/-! ### Runs -/
theorem endB_all (f : Nat → Bool) : ∀ k b, b + k = 255 → f b = true → (∀ j, b ≤ j → j ≤ endB f b → f j = true) ∧ (endB f b < 255 → f (endB f b + 1) = false) := by
  intro k
  induction k with
  | zero =>
    intro b h hb
    obtain rfl : b = 255 := by omega
    rw [endB_top]
    exact ⟨fun j h1 h2 => by obtain rfl : j = 255 := by omega
                             exact hb, fun h => absurd h (by omega)⟩
  | succ k ih =>
    intro b h hb
    rw [endB_next (by omega)]
    split
    · rename_i hn
      obtain ⟨i1, i2⟩ := ih (b + 1) (by omega) hn
      refine ⟨fun j h1 h2 => ?_, i2⟩
      by_cases e : j = b
      · rw [e]; exact hb
      · exact i1 j (by omega) h2
    · rename_i hn
      refine ⟨fun j h1 h2 => ?_, fun _ => by cases hq : f (b + 1); rfl; exact absurd hq hn⟩
      obtain rfl : j = b := by omega
      exact hb
theorem run_of (f : Nat → Bool) : ∀ b, b < 256 → f b = true → ∃ s, s < 256 ∧ startB f s = true ∧ s ≤ b ∧ b ≤ endB f s := by
  intro b
  induction b with
  | zero =>
    intro _ h
    exact ⟨0, by omega, by unfold startB; rw [h]; rfl, by omega, by omega⟩
  | succ b ih =>
    intro hb h
    by_cases hp : f b = true
    · obtain ⟨s, h1, h2, h3, h4⟩ := ih (by omega) hp
      refine ⟨s, h1, h2, by omega, ?_⟩
      have hs : f s = true := by unfold startB at h2; simp at h2; exact h2.1
      obtain ⟨_, e2⟩ := endB_all f (255 - s) s (by omega) hs
      apply Classical.byContradiction
      intro hc
      obtain he : endB f s = b := by omega
      have := e2 (by omega)
      rw [he, h] at this
      cases this
    · refine ⟨b + 1, hb, ?_, by omega, (endB_ge f (255 - (b + 1)) (b + 1) (by omega)).1⟩
      unfold startB
      rw [h, Nat.add_sub_cancel]
      simp [hp]
theorem runs_in {f : Nat → Bool} {r : Nat × Nat} (h : r ∈ runsS f) : startB f r.1 = true ∧ r.1 < 256 ∧ r.2 = endB f r.1 := by
  rw [runs_found] at h
  unfold foundR at h
  obtain ⟨b, hb, rfl⟩ := List.mem_map.1 h
  rw [List.mem_filter, List.mem_range] at hb
  exact ⟨hb.2, hb.1, rfl⟩
theorem runs_right (f : Nat → Bool) : ∀ r ∈ runsS f, r.1 ≤ r.2 ∧ r.2 < 256 := by
  intro r h
  obtain ⟨_, h2, h3⟩ := runs_in h
  have := endB_ge f (255 - r.1) r.1 (by omega)
  omega
theorem runs_all (f : Nat → Bool) (b : Nat) (hb : b < 256) : (runsS f).any (fun r => spanS r.1 r.2 b) = f b := by
  rw [Bool.eq_iff_iff, List.any_eq_true]
  constructor
  · rintro ⟨r, hr, h⟩
    obtain ⟨h1, h2, h3⟩ := runs_in hr
    have hs : f r.1 = true := by unfold startB at h1; simp at h1; exact h1.1
    unfold spanS at h
    simp at h
    exact (endB_all f (255 - r.1) r.1 (by omega) hs).1 b h.1 (by omega)
  · intro h
    obtain ⟨s, h1, h2, h3, h4⟩ := run_of f b hb h
    refine ⟨(s, endB f s), ?_, by unfold spanS; simp; omega⟩
    rw [runs_found]
    unfold foundR
    exact List.mem_map.2 ⟨s, List.mem_filter.2 ⟨List.mem_range.2 h1, h2⟩, rfl⟩
theorem runs_some {f : Nat → Bool} {b : Nat} (hb : b < 256) (h : f b = true) : runsS f ≠ [] := by
  intro he
  have := runs_all f b hb
  rw [he, h] at this
  cases this
/-! ### Sets -/
theorem setRx_ext {f g : Nat → Bool} (h : ∀ b, b < 256 → f b = g b) : setRx f = setRx g := by
  unfold setRx
  rw [wd_ext (k := 0) (f := f) (g := g) (fun j hj => h _ (by omega)), wd_ext (k := 1) (f := f) (g := g) (fun j hj => h _ (by omega)), wd_ext (k := 2) (f := f) (g := g) (fun j hj => h _ (by omega)), wd_ext (k := 3) (f := f) (g := g) (fun j hj => h _ (by omega))]
theorem class_read {f : Nat → Bool} (hne : runsS f ≠ []) (n : Nat) (rest : List Nat) (hn : (runsT f).length < n) : ∃ l, rdItems n [] (runsT f ++ 93 :: rest) = .inr (l, rest) ∧ ∀ b, b < 256 → spansS l b = f b := by
  obtain ⟨l, h1, h2⟩ := items_read (runsS f) n [] rest (runs_right f) hn (.inr hne)
  exact ⟨l, h1, fun b hb => by rw [h2, runs_all f b hb]⟩
theorem bytes_mem {f : Nat → Bool} {b : Nat} : b ∈ bytesS f ↔ b < 256 ∧ f b = true := by
  unfold bytesS
  rw [List.mem_filter, List.mem_range]
theorem bytes_not_all {f : Nat → Bool} (h : (bytesS f).length < 256) : ∃ b, b < 256 ∧ f b = false := by
  apply Classical.byContradiction
  intro hc
  have : bytesS f = List.range 256 := by
    unfold bytesS
    rw [List.filter_eq_self]
    intro a ha
    rw [List.mem_range] at ha
    cases hf : f a
    · exact absurd ⟨a, ha, hf⟩ hc
    · rfl
  rw [this, List.length_range] at h
  omega
theorem set_reads (f : Nat → Bool) (rest : List Nat) : ∃ f', rdSet (setT f ++ rest) = .inr (f', rest) ∧ setRx f' = setRx f := by
  unfold setT
  split
  · rename_i h1
    obtain ⟨c, hc⟩ : ∃ c, bytesS f = [c] := by
      match hb : bytesS f, h1 with
      | [c], _ => exact ⟨c, rfl⟩
    rw [hc, List.headD_cons]
    have hm : c < 256 := (bytes_mem.1 (show c ∈ bytesS f by rw [hc]; simp)).1
    refine ⟨oneS c, ?_, setRx_ext (fun b hb => ?_)⟩
    · obtain ⟨x, r, e, hx⟩ := chr_head signL c
      have hne : x ≠ 46 ∧ x ≠ 91 := by
        rcases hx with rfl | ⟨hx, _⟩
        · decide
        · exact ⟨by rintro rfl; exact hx (by decide), by rintro rfl; exact hx (by decide)⟩
      have hr := chr_reads sign_ok hm rest
      rw [rdSet, if_neg (by rw [e]; intro h; exact hne.1 (Option.some.inj h)), if_neg (by rw [e]; intro h; exact hne.2 (Option.some.inj h)), hr]
    · unfold oneS
      rw [Bool.eq_iff_iff, decide_eq_true_eq]
      have := bytes_mem (f := f) (b := b)
      rw [hc, List.mem_singleton] at this
      rw [this]
      exact ⟨fun h => h.2, fun h => ⟨hb, h⟩⟩
  · split
    · rename_i h2
      exact ⟨dotS, rfl, (setRx_ext h2).symm⟩
    · split
      · rename_i h3
        obtain ⟨b0, hb0, hf0⟩ := bytes_not_all (f := f) (by omega)
        have hne : runsS (notS f) ≠ [] := runs_some hb0 (by unfold notS; rw [hf0]; rfl)
        obtain ⟨l, e1, e2⟩ := class_read hne ((94 :: (runsT (notS f) ++ 93 :: rest)).length) rest (by simp; omega)
        refine ⟨notS (spansS l), ?_, setRx_ext (fun b hb => by unfold notS at *; rw [e2 b hb]; simp)⟩
        rw [show (91 :: 94 :: (runsT (notS f) ++ [93])) ++ rest = 91 :: 94 :: (runsT (notS f) ++ 93 :: rest) by simp, rdSet, if_neg (by simp), if_pos (by simp), List.tail_cons, rdClass, if_pos (by simp), List.tail_cons, e1]
      · rename_i h1 _ h3
        have hz : (bytesS f).length ≠ 0 := fun h => h3 (.inl h)
        obtain ⟨b0, hb0⟩ : ∃ b0, b0 ∈ bytesS f := by
          match hb : bytesS f, hz with
          | b :: _, _ => exact ⟨b, List.mem_cons_self⟩
        have hb0 := bytes_mem.1 hb0
        have hne : runsS f ≠ [] := runs_some hb0.1 hb0.2
        obtain ⟨l, e1, e2⟩ := class_read hne ((runsT f ++ 93 :: rest).length + 1) rest (by simp; omega)
        refine ⟨spansS l, ?_, setRx_ext (fun b hb => e2 b hb)⟩
        rw [show (91 :: (runsT f ++ [93])) ++ rest = 91 :: (runsT f ++ 93 :: rest) by simp, rdSet, if_neg (by simp), if_pos (by simp), List.tail_cons, rdClass, if_neg (show ¬ (runsT f ++ 93 :: rest).head? = some 94 from body_head 94 (by decide) edge94 (runsS f) rest), e1]
theorem setT_head (f : Nat → Bool) : ∃ c r, setT f = c :: r ∧ c ≠ 40 ∧ c ≠ 41 ∧ c ≠ 124 ∧ repOf c = none := by
  unfold setT
  split
  · obtain ⟨x, r, e, hx⟩ := chr_head signL ((bytesS f).headD 0)
    refine ⟨x, r, e, ?_⟩
    rcases hx with rfl | ⟨hx, _⟩
    · decide
    · refine ⟨by rintro rfl; exact hx (by decide), by rintro rfl; exact hx (by decide), by rintro rfl; exact hx (by decide), ?_⟩
      unfold repOf
      rw [if_neg (by rintro rfl; exact hx (by decide)), if_neg (by rintro rfl; exact hx (by decide)), if_neg (by rintro rfl; exact hx (by decide))]
  · split
    · exact ⟨_, _, rfl, by decide⟩
    · split
      · exact ⟨_, _, rfl, by decide⟩
      · exact ⟨_, _, rfl, by decide⟩
end Go.Proofs.YtfmdmeokbbpmlaaGreat

namespace Go.Proofs.YtfmdmeokbbpmlaaGreat

/-- How long a member is. -/
def eL (c : Nat) : Nat := (chrT edgeL c).length
theorem chr_le4 (but : List Nat) (c : Nat) : (chrT but c).length ≤ 4 := by
  unfold chrT
  (repeat' split) <;> simp
theorem eL_pos (c : Nat) : 1 ≤ eL c := chr_pos edgeL c
theorem hexV_lt {c : Nat} (h : ¬ hexB c = false) : hexV c < 16 := by
  have h : hexB c = true := by cases hq : hexB c; exact absurd hq h; rfl
  unfold hexB at h
  simp at h
  unfold hexV
  split <;> omega
/-- A byte that was read is shown in no more bytes. -/
theorem chr_cost {but cs r : List Nat} {c : Nat} (h : rdChr but cs = .inr (c, r)) : (chrT but c).length + r.length ≤ cs.length ∧ c < 256 := by
  cases cs with
  | nil => cases h
  | cons x cs =>
    rw [rdChr] at h
    split at h
    · cases cs with
      | nil => cases h
      | cons y cs =>
        rw [rdEsc.eq_def] at h
        dsimp only at h
        split at h
        · cases h; exact ⟨by show 2 + r.length ≤ _; simp; omega, by omega⟩
        · split at h
          · cases h; exact ⟨by show 2 + r.length ≤ _; simp; omega, by omega⟩
          · split at h
            · cases h; exact ⟨by show 2 + r.length ≤ _; simp; omega, by omega⟩
            · split at h
              · split at h
                · cases h
                · split at h
                  · cases h
                  · rename_i h1
                    split at h
                    · cases h
                    · split at h
                      · cases h
                      · rename_i h2
                        cases h
                        have a1 := hexV_lt h1
                        have a2 := hexV_lt h2
                        exact ⟨Nat.le_trans (Nat.add_le_add_right (chr_le4 but _) _) (by simp only [List.length_cons]; omega), by omega⟩
              · split at h
                · cases h
                · rename_i hs
                  cases h
                  have hsn : seenB c = true := by cases hq : seenB c; exact absurd (.inl hq) hs; rfl
                  have hc : 33 ≤ c ∧ c ≤ 126 := by unfold seenB at hsn; simpa using hsn
                  refine ⟨?_, by omega⟩
                  have : (chrT but c).length ≤ 2 := by
                    unfold chrT
                    rw [if_neg (by omega), if_neg (by omega), if_neg (by omega), if_neg (by rw [hsn]; decide)]
                    split <;> simp
                  simp only [List.length_cons]
                  omega
    · split at h
      · cases h
      · rename_i hs
        cases h
        have hsn : seenB c = true := by cases hq : seenB c; exact absurd (.inl hq) hs; rfl
        have hc : 33 ≤ c ∧ c ≤ 126 := by unfold seenB at hsn; simpa using hsn
        refine ⟨?_, by omega⟩
        have : (chrT but c).length = 1 := by
          unfold chrT
          rw [if_neg (by omega), if_neg (by omega), if_neg (by omega), if_neg (by rw [hsn]; decide), if_neg (fun hm => hs (.inr hm))]
          rfl
        simp only [List.length_cons]
        omega
def itemW (x : Nat × Nat) : Nat := if x.1 = x.2 then eL x.1 else eL x.1 + 1 + eL x.2
theorem item_cost {cs r : List Nat} {x : Nat × Nat} (h : rdItem cs = .inr (x, r)) : itemW x + r.length ≤ cs.length ∧ x.1 ≤ x.2 ∧ x.2 < 256 := by
  rw [rdItem] at h
  split at h
  · cases h
  · rename_i lo r1 h1
    obtain ⟨a1, a2⟩ := chr_cost h1
    split at h
    · rename_i r2
      split at h
      · cases h
      · rename_i hi r3 h3
        obtain ⟨b1, b2⟩ := chr_cost h3
        split at h
        · cases h
        · cases h
          rw [List.length_cons] at a1
          refine ⟨?_, by dsimp only; omega, b2⟩
          unfold itemW eL
          dsimp only
          split <;> omega
    · cases h
      refine ⟨?_, Nat.le_refl _, a2⟩
      unfold itemW eL
      rw [if_pos rfl]
      exact a1
def sumW (w : Nat × Nat → Nat) (l : List (Nat × Nat)) : Nat := (l.map w).sum
theorem items_cost : ∀ (n : Nat) (acc : List (Nat × Nat)) (cs r : List Nat) (l : List (Nat × Nat)), rdItems n acc cs = .inr (l, r) → ∃ l', l = acc ++ l' ∧ sumW itemW l' + 1 + r.length ≤ cs.length ∧ ∀ x ∈ l', x.1 ≤ x.2 ∧ x.2 < 256 := by
  intro n
  induction n with
  | zero => intro acc cs r l h; cases h
  | succ n ih =>
    intro acc cs r l h
    rw [rdItems] at h
    split at h
    · rename_i hc
      cases h
      refine ⟨[], by simp, ?_, fun x hx => by cases hx⟩
      cases cs with
      | nil => simp at hc
      | cons c cs => unfold sumW; simp; omega
    · split at h
      · cases h
      · rename_i x r1 h1
        obtain ⟨a1, a2⟩ := item_cost h1
        obtain ⟨l', b1, b2, b3⟩ := ih _ _ _ _ h
        refine ⟨x :: l', by rw [b1]; simp, ?_, ?_⟩
        · unfold sumW at *
          rw [List.map_cons, List.sum_cons]
          omega
        · intro y hy
          rcases List.mem_cons.1 hy with rfl | hy
          · exact a2
          · exact b3 y hy
/-! ### Sums -/
theorem sum_sub (w : Nat → Nat) : ∀ (l m : List Nat), l.Nodup → (∀ x ∈ l, x ∈ m) → (l.map w).sum ≤ (m.map w).sum := by
  intro l
  induction l with
  | nil => intro m _ _; exact Nat.zero_le _
  | cons a l ih =>
    intro m hn hs
    rw [List.nodup_cons] at hn
    have ha := hs a List.mem_cons_self
    have hp := (List.perm_cons_erase ha).map w
    have := hp.sum_nat
    rw [this, List.map_cons, List.map_cons, List.sum_cons, List.sum_cons]
    have hi := ih (m.erase a) hn.2 (fun x hx => (List.mem_erase_of_ne (by rintro rfl; exact hn.1 hx)).2 (hs x (List.mem_cons_of_mem _ hx)))
    omega
theorem runs_nodup (f : Nat → Bool) : ((runsS f).map (·.1)).Nodup ∧ ((runsS f).map (·.2)).Nodup := by
  rw [runs_found]
  unfold foundR
  rw [List.map_map, List.map_map]
  have hp : ((List.range 256).filter (startB f)).Pairwise (fun a b => a < b ∧ startB f a = true ∧ startB f b = true ∧ b < 256) := by
    have h1 : ((List.range 256).filter (startB f)).Pairwise (· < ·) := (List.pairwise_lt_range (n := 256)).filter _
    refine List.Pairwise.imp_of_mem ?_ h1
    intro a b ha hb hab
    rw [List.mem_filter, List.mem_range] at ha hb
    exact ⟨hab, ha.2, hb.2, hb.1⟩
  constructor
  · rw [show ((fun (x : Nat × Nat) => x.1) ∘ fun b => (b, endB f b)) = id from rfl, List.map_id]
    exact hp.imp (fun h => by omega)
  · rw [List.nodup_iff_pairwise_ne, List.pairwise_map]
    refine hp.imp ?_
    rintro a b ⟨h1, h2, h3, h4⟩
    show endB f a ≠ endB f b
    have hb := endB_ge f (255 - b) b (by omega)
    have hfa : f a = true := by unfold startB at h2; simp at h2; exact h2.1
    have hea := endB_all f (255 - a) a (by omega) hfa
    have : endB f a < b := by
      apply Classical.byContradiction
      intro hc
      have := hea.1 (b - 1) (by omega) (by omega)
      unfold startB at h3
      rw [this, decide_eq_true (show 0 < b by omega)] at h3
      simp at h3
    omega
theorem runsT_cost (f : Nat → Bool) : (runsT f).length ≤ (((runsS f).map (·.1)).map (fun c => eL c + 1)).sum + (((runsS f).map (·.2)).map eL).sum := by
  unfold runsT
  generalize runsS f = l
  induction l with
  | nil => exact Nat.le_refl _
  | cons r l ih =>
    simp only [List.map_cons, List.flatten_cons, List.length_append, List.sum_cons]
    have : (runT r).length ≤ eL r.1 + 1 + eL r.2 := by
      unfold runT eL
      split
      · omega
      · split
        · rw [List.length_append]; omega
        · rw [List.length_append, List.length_cons]; omega
    omega
/-- Where runs begin and end. -/
theorem run_edge {f : Nat → Bool} {r : Nat × Nat} (h : r ∈ runsS f) : f r.1 = true ∧ (r.1 = 0 ∨ f (r.1 - 1) = false) ∧ f r.2 = true ∧ (r.2 = 255 ∨ f (r.2 + 1) = false) ∧ r.1 < 256 ∧ r.2 < 256 := by
  obtain ⟨h1, h2, h3⟩ := runs_in h
  have hf : f r.1 = true := by unfold startB at h1; simp at h1; exact h1.1
  have hg := endB_ge f (255 - r.1) r.1 (by omega)
  obtain ⟨e1, e2⟩ := endB_all f (255 - r.1) r.1 (by omega) hf
  refine ⟨hf, ?_, ?_, ?_, h2, by omega⟩
  · unfold startB at h1
    rw [hf] at h1
    by_cases hz : r.1 = 0
    · exact .inl hz
    · rw [decide_eq_true (show 0 < r.1 by omega)] at h1
      simp at h1
      exact .inr h1
  · rw [h3]; exact e1 _ hg.1 (Nat.le_refl _)
  · rw [h3]
    by_cases hz : endB f r.1 = 255
    · exact .inl hz
    · exact .inr (e2 (by omega))
theorem in_span {L : List (Nat × Nat)} {b : Nat} : spansS L b = true ↔ ∃ x ∈ L, x.1 ≤ b ∧ b ≤ x.2 := by
  unfold spansS spanS
  rw [List.any_eq_true]
  simp
/-- The runs of what was read: they begin and end where items do. -/
theorem runs_items {L : List (Nat × Nat)} (hL : ∀ x ∈ L, x.1 ≤ x.2 ∧ x.2 < 256) : (runsT (spansS L)).length ≤ sumW (fun x => eL x.1 + 1 + eL x.2) L := by
  have h := runsT_cost (spansS L)
  obtain ⟨n1, n2⟩ := runs_nodup (spansS L)
  have a := sum_sub (fun c => eL c + 1) _ (L.map (·.1)) n1 (fun c hc => by
    obtain ⟨r, hr, rfl⟩ := List.mem_map.1 hc
    obtain ⟨h1, h2, _⟩ := run_edge hr
    obtain ⟨x, hx, b1, b2⟩ := in_span.1 h1
    refine List.mem_map.2 ⟨x, hx, ?_⟩
    apply Classical.byContradiction
    intro hne
    rcases h2 with h2 | h2
    · omega
    · rw [in_span.2 ⟨x, hx, by omega, by omega⟩] at h2; cases h2)
  have b := sum_sub eL _ (L.map (·.2)) n2 (fun c hc => by
    obtain ⟨r, hr, rfl⟩ := List.mem_map.1 hc
    obtain ⟨_, _, h1, h2, _, h5⟩ := run_edge hr
    obtain ⟨x, hx, b1, b2⟩ := in_span.1 h1
    refine List.mem_map.2 ⟨x, hx, ?_⟩
    apply Classical.byContradiction
    intro hne
    rcases h2 with h2 | h2
    · have := (hL x hx).2; omega
    · rw [in_span.2 ⟨x, hx, by omega, by omega⟩] at h2; cases h2)
  refine Nat.le_trans h (Nat.le_trans (Nat.add_le_add a b) ?_)
  clear h a b n1 n2 hL
  unfold sumW
  induction L with
  | nil => exact Nat.le_refl _
  | cons x L ih => simp only [List.map_cons, List.sum_cons]; omega
/-- The runs of what was not read. -/
theorem runs_items_not {L : List (Nat × Nat)} : (runsT (notS (spansS L))).length ≤ 9 + sumW (fun x => eL (x.2 + 1) + 1 + eL (x.1 - 1)) L := by
  have h := runsT_cost (notS (spansS L))
  obtain ⟨n1, n2⟩ := runs_nodup (notS (spansS L))
  have hn : ∀ b, notS (spansS L) b = false → spansS L b = true := fun b hb => by unfold notS at hb; simpa using hb
  have hp : ∀ b, notS (spansS L) b = true → ¬ spansS L b = true := fun b hb => by unfold notS at hb; simpa using hb
  have a := sum_sub (fun c => eL c + 1) _ (0 :: L.map (fun x => x.2 + 1)) n1 (fun c hc => by
    obtain ⟨r, hr, rfl⟩ := List.mem_map.1 hc
    obtain ⟨h1, h2, _⟩ := run_edge hr
    rcases h2 with h2 | h2
    · rw [h2]; exact List.mem_cons_self
    · by_cases hz : r.1 = 0
      · rw [hz]; exact List.mem_cons_self
      obtain ⟨x, hx, b1, b2⟩ := in_span.1 (hn _ h2)
      refine List.mem_cons_of_mem _ (List.mem_map.2 ⟨x, hx, ?_⟩)
      apply Classical.byContradiction
      intro hne
      exact hp _ h1 (in_span.2 ⟨x, hx, by omega, by omega⟩))
  have b := sum_sub eL _ (255 :: L.map (fun x => x.1 - 1)) n2 (fun c hc => by
    obtain ⟨r, hr, rfl⟩ := List.mem_map.1 hc
    obtain ⟨_, _, h1, h2, _, h5⟩ := run_edge hr
    rcases h2 with h2 | h2
    · rw [h2]; exact List.mem_cons_self
    · obtain ⟨x, hx, b1, b2⟩ := in_span.1 (hn _ h2)
      refine List.mem_cons_of_mem _ (List.mem_map.2 ⟨x, hx, ?_⟩)
      apply Classical.byContradiction
      intro hne
      exact hp _ h1 (in_span.2 ⟨x, hx, by omega, by omega⟩))
  refine Nat.le_trans h (Nat.le_trans (Nat.add_le_add a b) ?_)
  clear h a b n1 n2 hn hp
  have h0 : eL 0 = 4 ∧ eL 255 = 4 := ⟨rfl, rfl⟩
  unfold sumW
  rw [List.map_cons, List.map_cons, List.sum_cons, List.sum_cons, h0.1, h0.2]
  have : (List.map (fun c => eL c + 1) (List.map (fun x => x.2 + 1) L)).sum + (List.map eL (List.map (fun x => x.1 - 1) L)).sum ≤ (List.map (fun x : Nat × Nat => eL (x.2 + 1) + 1 + eL (x.1 - 1)) L).sum := by
    induction L with
    | nil => exact Nat.le_refl _
    | cons x L ih => simp only [List.map_cons, List.sum_cons]; omega
  omega
theorem sum_six {w : Nat × Nat → Nat} {L : List (Nat × Nat)} (h : ∀ x ∈ L, w x ≤ 6 * itemW x) : sumW w L ≤ 6 * sumW itemW L := by
  unfold sumW
  induction L with
  | nil => exact Nat.le_refl _
  | cons x L ih =>
    have h1 := h x List.mem_cons_self
    have h2 := ih (fun y hy => h y (List.mem_cons_of_mem _ hy))
    simp only [List.map_cons, List.sum_cons]
    omega
set_option maxRecDepth 100000 in
theorem near_six : ∀ c, c < 256 → eL (c + 1) + 1 + eL (c - 1) ≤ 6 * eL c := by decide
theorem class_cost {L : List (Nat × Nat)} (hL : ∀ x ∈ L, x.1 ≤ x.2 ∧ x.2 < 256) {f : Nat → Bool} (hf : f = spansS L ∨ f = notS (spansS L)) : (setT f).length ≤ 6 * sumW itemW L + 12 := by
  have h1 : (runsT (spansS L)).length ≤ 6 * sumW itemW L := Nat.le_trans (runs_items hL) (sum_six (fun x hx => by
    unfold itemW
    have a := eL_pos x.1
    have b := eL_pos x.2
    split
    · rename_i e; rw [← e]; omega
    · omega))
  have h2 : (runsT (notS (spansS L))).length ≤ 9 + 6 * sumW itemW L := Nat.le_trans runs_items_not (Nat.add_le_add_left (sum_six (fun x hx => by
    unfold itemW
    have a := eL_pos x.1
    have b := eL_pos x.2
    have c := chr_le4 edgeL (x.2 + 1)
    have d := chr_le4 edgeL (x.1 - 1)
    have e := near_six x.1 (by have := hL x hx; omega)
    split
    · rename_i e2; rw [← e2]; omega
    · unfold eL at *; omega)) _)
  have hnn : notS (notS (spansS L)) = spansS L := by funext b; unfold notS; simp
  have h3 : (runsT f).length ≤ 9 + 6 * sumW itemW L ∧ (runsT (notS f)).length ≤ 9 + 6 * sumW itemW L := by
    rcases hf with rfl | rfl
    · exact ⟨by omega, h2⟩
    · rw [hnn]; exact ⟨h2, by omega⟩
  unfold setT
  split
  · have := chr_le4 signL ((bytesS f).headD 0); omega
  · split
    · simp
    · split
      · simp; omega
      · simp; omega
theorem one_cost {c : Nat} (hc : c < 256) : setT (oneS c) = chrT signL c := by
  have hm : ∀ b, b ∈ bytesS (oneS c) ↔ b = c := fun b => by
    rw [bytes_mem]; unfold oneS; rw [decide_eq_true_eq]
    exact ⟨fun h => h.2, fun h => ⟨by omega, h⟩⟩
  have hp : (bytesS (oneS c)).Pairwise (· < ·) := (List.pairwise_lt_range (n := 256)).filter _
  have : bytesS (oneS c) = [c] := by
    match hb : bytesS (oneS c) with
    | [] => have := (hm c).2 rfl; rw [hb] at this; cases this
    | [x] => rw [(hm x).1 (by rw [hb]; simp)]
    | x :: y :: l =>
      rw [hb] at hp
      have h1 := (hm x).1 (by rw [hb]; simp)
      have h2 := (hm y).1 (by rw [hb]; simp)
      have := List.rel_of_pairwise_cons hp List.mem_cons_self
      omega
  unfold setT
  rw [this, if_pos (by simp)]
  rfl
theorem dot_cost : (setT dotS).length ≤ 4 := by
  unfold setT
  split
  · exact chr_le4 _ _
  · split
    · simp
    · rename_i h; exact absurd (fun _ _ => rfl) h
theorem set_cost {cs r : List Nat} {f : Nat → Bool} (h : rdSet cs = .inr (f, r)) : (setT f).length + 6 * r.length ≤ 6 * cs.length := by
  rw [rdSet] at h
  split at h
  · rename_i hc
    cases h
    have := dot_cost
    cases cs with
    | nil => cases hc
    | cons c cs => rw [List.tail_cons, List.length_cons]; omega
  · split at h
    · rename_i hc
      cases cs with
      | nil => cases hc
      | cons c cs =>
        rw [rdClass] at h
        rw [List.tail_cons] at h
        rw [List.length_cons]
        split at h
        · rename_i h94
          split at h
          · cases h
          · rename_i h1
            cases h
            obtain ⟨l', e, b2, b3⟩ := items_cost _ _ _ _ _ h1
            rw [List.nil_append] at e
            subst e
            have := class_cost b3 (.inr rfl)
            cases cs with
            | nil => cases h94
            | cons d cs => rw [List.tail_cons] at b2; rw [List.length_cons]; omega
        · split at h
          · cases h
          · rename_i h1
            cases h
            obtain ⟨l', e, b2, b3⟩ := items_cost _ _ _ _ _ h1
            rw [List.nil_append] at e
            subst e
            have := class_cost b3 (.inl rfl)
            omega
    · split at h
      · cases h
      · rename_i h1
        cases h
        obtain ⟨a1, a2⟩ := chr_cost h1
        rw [one_cost a2]
        omega
end Go.Proofs.YtfmdmeokbbpmlaaGreat

namespace Go.Proofs.YtfmdmeokbbpmlaaGreat

/-- A group's branches so far, and its last branch so far. -/
abbrev Fr := Option RxT × Option RxT
def flatK : List Fr → List RxT
  | [] => []
  | (A, C) :: ks => C.toList ++ (A.toList ++ flatK ks)
def FrOk (k : Fr) (g : Nat × Nat) : Prop := (g.1 = 0 ↔ k.2 = none) ∧ (g.2 = 0 ↔ k.1 = none)
def AllOk : List Fr → List (Nat × Nat) → Prop
  | [], [] => True
  | k :: ks, g :: gs => FrOk k g ∧ AllOk ks gs
  | _, _ => False
def texP (t : RxT) : Nat := (par (isSeq t) (tex t)).length
def texQ (t : RxT) : Nat := (par (isAlt t) (tex t)).length
def costO (f : RxT → Nat) : Option RxT → Nat
  | none => 0
  | some t => f t
def costF (k : Fr) : Nat := costO (fun t => (tex t).length) k.1 + costO texQ k.2
def costK : List Fr → Nat
  | [] => 0
  | k :: ks => costF k + costK ks
theorem par_ge (b : Bool) (l : List Nat) : l.length ≤ (par b l).length ∧ (par b l).length ≤ l.length + 2 ∧ (b = false → (par b l).length = l.length) := by
  unfold par
  split
  · rename_i h; exact ⟨by simp; omega, by simp, fun e => by rw [e] at h; cases h⟩
  · exact ⟨Nat.le_refl _, by omega, fun _ => rfl⟩
theorem q_p (t : RxT) : texQ t ≤ texP t := by
  unfold texQ texP
  cases h : isAlt t
  · rw [(par_ge false (tex t)).2.2 rfl]; exact (par_ge _ _).1
  · have : isSeq t = true := by unfold isAlt at h; unfold isSeq; rw [h]; rfl
    rw [this]
    exact Nat.le_refl _
/-- A branch is whole. -/
def closeT (k : Fr) : RxT := match k.1 with
  | none => k.2.getD .empty
  | some a => .alt a (k.2.getD .empty)
theorem branch_tree {l : List Rx} {k : Fr} {ks : List Fr} {g : Nat × Nat} (hl : l = postS (flatK (k :: ks))) (hg : FrOk k g) :
    (branchM l g).1 = postS (closeT k :: flatK ks) ∧ (tex (closeT k)).length ≤ costF k + 3 := by
  obtain ⟨A, C⟩ := k
  obtain ⟨h1, h2⟩ := hg
  dsimp only at h1 h2
  have he : emptyM l g = postS (C.getD .empty :: (A.toList ++ flatK ks)) := by
    unfold emptyM
    cases C with
    | none => rw [if_pos (h1.2 rfl), hl]; rfl
    | some c => rw [if_neg (fun h => by cases h1.1 h), hl]; rfl
  have hq : texQ (C.getD .empty) ≤ costO texQ C + 2 := by
    cases C with
    | none => exact Nat.le_refl _
    | some c => exact Nat.le_add_right _ _
  have hq2 : (tex (C.getD .empty)).length ≤ texQ (C.getD .empty) := (par_ge _ _).1
  unfold branchM
  dsimp only
  rw [he]
  cases A with
  | none =>
    rw [if_neg (by have := h2.2 rfl; omega)]
    refine ⟨rfl, ?_⟩
    unfold closeT costF costO
    dsimp only
    unfold costO at hq
    omega
  | some a =>
    rw [if_pos (by have : g.2 ≠ 0 := fun h => by cases h2.1 h
                   omega)]
    refine ⟨?_, ?_⟩
    · unfold closeT
      dsimp only
      rw [postS, postS, post]
      simp [postS]
    · unfold closeT costF costO
      dsimp only
      rw [tex, List.length_append, List.length_cons]
      unfold costO texQ at hq
      unfold texQ
      omega
theorem signs_tree : ∀ (cs : List Nat) (t : RxT) (us : List RxT), ∃ t', (signsM (postS (t :: us)) cs).1 = postS (t' :: us) ∧ texP t' + 6 * (signsM (postS (t :: us)) cs).2.length ≤ texP t + 6 * cs.length := by
  intro cs
  induction cs with
  | nil => intro t us; exact ⟨t, rfl, Nat.le_refl _⟩
  | cons c r ih =>
    intro t us
    rw [signsM]
    split
    · rename_i k hk
      have hp : postS (t :: us) ++ [opRx k.num] = postS (.rep k t :: us) := by rw [postS, postS, post, List.append_assoc]
      rw [hp]
      obtain ⟨t', h1, h2⟩ := ih (.rep k t) us
      refine ⟨t', h1, ?_⟩
      have hs : isSeq (.rep k t) = false := by cases k <;> rfl
      have : texP (.rep k t) = texP t + 1 := by
        unfold texP
        rw [(par_ge _ _).2.2 hs, tex, List.length_append, List.length_singleton]
      rw [List.length_cons]
      omega
    · exact ⟨t, rfl, Nat.le_refl _⟩
/-- What holds ahead of each round. -/
def InvM (N : Nat) (s : MS) : Prop := ∃ k ks, s.l = postS (flatK (k :: ks)) ∧ FrOk k s.g ∧ AllOk ks s.gs ∧ costF k + costK ks + 6 * s.cs.length ≤ 6 * N
theorem after_inv {N : Nat} {l : List Rx} {cs : List Nat} {k : Fr} {ks : List Fr} {g : Nat × Nat} {gs : List (Nat × Nat)} {t : RxT} (hl : l = postS (t :: flatK (k :: ks))) (hg : FrOk k g) (ha : AllOk ks gs)
    (hc : texP t + (costF k + costK ks) + 6 * cs.length ≤ 6 * N) : InvM N (afterM l cs g gs) := by
  subst hl
  obtain ⟨t', h1, h2⟩ := signs_tree cs t (flatK (k :: ks))
  obtain ⟨A, C⟩ := k
  obtain ⟨g1, g2⟩ := hg
  dsimp only at g1 g2
  refine ⟨(A, some (catO C t')), ks, ?_, ⟨?_, g2⟩, ha, ?_⟩
  · unfold afterM pieceM
    dsimp only
    rw [h1]
    cases C with
    | none => rw [if_neg (by have := g1.2 rfl; omega)]; rfl
    | some c =>
      rw [if_pos (by have : g.1 ≠ 0 := fun h => by cases g1.1 h
                     omega)]
      show postS (t' :: c :: (A.toList ++ flatK ks)) ++ [opRx 3] = postS (.cat c t' :: (A.toList ++ flatK ks))
      rw [postS, postS, postS, post]
      simp
  · exact ⟨fun h => (Nat.succ_ne_zero _ h).elim, fun h => by cases h⟩
  · have hq : texQ (catO C t') ≤ costO texQ C + texP t' := by
      cases C with
      | none => have := q_p t'; unfold costO catO; dsimp only; omega
      | some c =>
        unfold catO costO
        dsimp only
        show (par false (tex (.cat c t'))).length ≤ _
        rw [(par_ge _ _).2.2 rfl, tex, List.length_append]
        exact Nat.le_refl _
    unfold afterM
    dsimp only
    unfold costF costO at *
    dsimp only at *
    omega
theorem step_inv {N c : Nat} {r : List Nat} {l : List Rx} {g : Nat × Nat} {gs : List (Nat × Nat)} {s : MS} (H : InvM N ⟨c :: r, l, g, gs⟩) (h : stepM c r l g gs = .inr s) : InvM N s := by
  obtain ⟨k, ks, hl, hg, ha, hc⟩ := H
  dsimp only at hl hg ha hc
  rw [List.length_cons] at hc
  unfold stepM at h
  split at h
  · cases h
    refine ⟨(none, none), k :: ks, ?_, ⟨⟨fun _ => rfl, fun _ => rfl⟩, ⟨fun _ => rfl, fun _ => rfl⟩⟩, ⟨hg, ha⟩, ?_⟩
    · rw [hl]; rfl
    · dsimp only
      rw [costK]
      show 0 + 0 + (costF k + costK ks) + 6 * r.length ≤ 6 * N
      omega
  · split at h
    · cases h
      obtain ⟨h1, h2⟩ := branch_tree hl hg
      refine ⟨(some (closeT k), none), ks, ?_, ⟨⟨fun _ => rfl, fun _ => rfl⟩, ⟨fun h => (Nat.succ_ne_zero _ h).elim, fun h => by cases h⟩⟩, ha, ?_⟩
      · exact h1
      · show (tex (closeT k)).length + 0 + costK ks + 6 * r.length ≤ 6 * N
        omega
    · split at h
      · split at h
        · cases h
        · rename_i g1 gs'
          cases h
          obtain ⟨h1, h2⟩ := branch_tree hl hg
          cases ks with
          | nil => exact ha.elim
          | cons k1 ks =>
            obtain ⟨hg1, ha⟩ := ha
            refine after_inv h1 hg1 ha ?_
            have := (par_ge (isSeq (closeT k)) (tex (closeT k))).2.1
            rw [costK] at hc
            unfold texP
            omega
      · split at h
        · cases h
        · rename_i f r1 hr
          cases h
          have := set_cost hr
          rw [List.length_cons] at this
          refine after_inv (t := .set f) (k := k) (ks := ks) ?_ hg ha ?_
          · rw [hl, postS]; rfl
          · show (setT f).length + (costF k + costK ks) + 6 * r1.length ≤ 6 * N
            omega
theorem run_inv {N : Nat} : ∀ (n : Nat) (s : MS) (l : List Rx), InvM N s → runM n s = .inr l → ∃ t, l = post t ∧ (tex t).length ≤ 6 * N + 3 := by
  intro n
  induction n with
  | zero =>
    intro s l H h
    obtain ⟨cs, l0, g, gs⟩ := s
    cases cs with
    | cons c r => cases h
    | nil =>
      rw [runM] at h
      split at h
      · rename_i hgs
        cases h
        obtain ⟨k, ks, hl, hg, ha, hc⟩ := H
        dsimp only at hl hg ha hc
        subst hgs
        obtain ⟨h1, h2⟩ := branch_tree hl hg
        cases ks with
        | cons _ _ => exact ha.elim
        | nil => exact ⟨closeT k, by rw [h1]; rfl, by rw [costK] at hc; omega⟩
      · cases h
  | succ n ih =>
    intro s l H h
    obtain ⟨cs, l0, g, gs⟩ := s
    cases cs with
    | cons c r =>
      rw [runM] at h
      split at h
      · cases h
      · rename_i s' hs
        exact ih s' l (step_inv H hs) h
    | nil =>
      rw [runM] at h
      split at h
      · rename_i hgs
        cases h
        obtain ⟨k, ks, hl, hg, ha, hc⟩ := H
        dsimp only at hl hg ha hc
        subst hgs
        obtain ⟨h1, h2⟩ := branch_tree hl hg
        cases ks with
        | cons _ _ => exact ha.elim
        | nil => exact ⟨closeT k, by rw [h1]; rfl, by rw [costK] at hc; omega⟩
      · cases h
/-- What is read is a tree's steps. -/
theorem read_tree {cs : List Nat} {l : List Rx} {n : Nat} (h : readM cs = (l, n, 0)) : n = cs.length ∧ l.length ≤ 512 ∧ ∃ t, l = post t ∧ (tex t).length ≤ 6 * cs.length + 3 := by
  unfold readM at h
  split at h
  · cases h
  · split at h
    · cases h
    · rename_i l0 hr
      split at h
      · cases h
      · rename_i hl
        cases h
        refine ⟨rfl, by omega, ?_⟩
        exact run_inv (N := cs.length) cs.length ⟨cs, [], (0, 0), []⟩ _ ⟨(none, none), [], rfl, ⟨⟨fun _ => rfl, fun _ => rfl⟩, ⟨fun _ => rfl, fun _ => rfl⟩⟩, trivial, by show 0 + 0 + 0 + 6 * cs.length ≤ 6 * cs.length; omega⟩ hr
/-- With a star ahead there is no text. -/
theorem read_star (cs : List Nat) (h : cs.length < 4096) : readM (42 :: cs) = ([], 0, 3) := by
  unfold readM
  rw [if_neg (by rw [List.length_cons]; omega), List.length_cons, runM]
  have : stepM 42 cs [] (0, 0) [] = .inl (cs.length + 1) := rfl
  rw [this]
  dsimp only
  rw [Nat.sub_self]
end Go.Proofs.YtfmdmeokbbpmlaaGreat

namespace Go.Proofs.YtfmdmeokbbpmlaaGreat

def NoSign (cs : List Nat) : Prop := ∀ c r, cs = c :: r → repOf c = none
theorem NoSign.nil : NoSign [] := fun _ _ h => by cases h
theorem NoSign.head {c : Nat} {r : List Nat} (h : repOf c = none) : NoSign (c :: r) := fun _ _ e => by cases e; exact h
theorem signs_none {cs : List Nat} (h : NoSign cs) (l : List Rx) : signsM l cs = (l, cs) := by
  cases cs with
  | nil => rfl
  | cons c r => rw [signsM, h c r rfl]
theorem par_head {b : Bool} {l : List Nat} (h : ∃ c r, l = c :: r ∧ repOf c = none) : ∃ c r, par b l = c :: r ∧ repOf c = none := by
  unfold par
  split
  · exact ⟨_, _, rfl, rfl⟩
  · exact h
theorem tex_head : ∀ t : RxT, ∃ c r, tex t = c :: r ∧ repOf c = none := by
  intro t
  induction t with
  | set f => obtain ⟨c, r, h, _, _, _, h4⟩ := setT_head f; exact ⟨c, r, h, h4⟩
  | empty => exact ⟨_, _, rfl, rfl⟩
  | cat a b iha ihb =>
    obtain ⟨c, r, h1, h2⟩ := par_head (b := isAlt a) iha
    rw [tex, h1]
    exact ⟨_, _, rfl, h2⟩
  | alt a b iha ihb =>
    obtain ⟨c, r, h1, h2⟩ := iha
    rw [tex, h1]
    exact ⟨_, _, rfl, h2⟩
  | rep k a iha =>
    obtain ⟨c, r, h1, h2⟩ := par_head (b := isSeq a) iha
    rw [tex, h1]
    exact ⟨_, _, rfl, h2⟩
theorem par_no {b : Bool} (t : RxT) (rest : List Nat) : NoSign (par b (tex t) ++ rest) := by
  obtain ⟨c, r, h1, h2⟩ := par_head (b := b) (tex_head t)
  rw [h1]
  exact NoSign.head h2
theorem run_open (r : List Nat) (l : List Rx) (g : Nat × Nat) (gs : List (Nat × Nat)) : runS ⟨40 :: r, l, g, gs⟩ = runS ⟨r, l, (0, 0), g :: gs⟩ := runS_step rfl
theorem run_bar (r : List Nat) (l : List Rx) (g : Nat × Nat) (gs : List (Nat × Nat)) : runS ⟨124 :: r, l, g, gs⟩ = runS ⟨r, (branchM l g).1, (branchM l g).2, gs⟩ := runS_step rfl
theorem run_close (r : List Nat) (l : List Rx) (g h : Nat × Nat) (gs : List (Nat × Nat)) : runS ⟨41 :: r, l, g, h :: gs⟩ = runS (afterM (branchM l g).1 r h gs) := runS_step rfl
theorem after_none {l : List Rx} {cs : List Nat} (h : NoSign cs) (g : Nat × Nat) (gs : List (Nat × Nat)) : afterM l cs g gs = ⟨cs, (pieceM l g).1, (pieceM l g).2, gs⟩ := by
  unfold afterM; rw [signs_none h]
def ReadsA (t : RxT) : Prop := ∀ (rest : List Nat) (l : List Rx) (g : Nat × Nat) (gs : List (Nat × Nat)), runS ⟨par (isSeq t) (tex t) ++ rest, l, g, gs⟩ = runS (afterM (l ++ post t) rest g gs)
def ReadsB (t : RxT) : Prop := ∀ (rest : List Nat) (l : List Rx) (q : Nat) (gs : List (Nat × Nat)), NoSign rest → ∃ p, 1 ≤ p ∧ runS ⟨par (isAlt t) (tex t) ++ rest, l, (0, q), gs⟩ = runS ⟨rest, l ++ post t, (p, q), gs⟩
def ReadsT (t : RxT) : Prop := ∀ (rest : List Nat) (l : List Rx) (gs : List (Nat × Nat)), NoSign rest → ∃ l' g', (branchM l' g').1 = l ++ post t ∧ runS ⟨tex t ++ rest, l, (0, 0), gs⟩ = runS ⟨rest, l', g', gs⟩
theorem a_b {t : RxT} (h : isSeq t = isAlt t) (hA : ReadsA t) : ReadsB t := by
  intro rest l q gs hn
  refine ⟨1, Nat.le_refl _, ?_⟩
  rw [← h, hA, after_none hn]
  rfl
theorem b_t {t : RxT} (h : isAlt t = false) (hB : ReadsB t) : ReadsT t := by
  intro rest l gs hn
  obtain ⟨p, hp, e⟩ := hB rest l 0 gs hn
  rw [h] at e
  refine ⟨_, _, ?_, e⟩
  unfold branchM emptyM
  rw [if_neg (by simp), if_neg (by simp; omega)]
theorem t_a {t : RxT} (h : isSeq t = true) (hT : ReadsT t) : ReadsA t := by
  intro rest l g gs
  obtain ⟨l', g', e1, e2⟩ := hT (41 :: rest) l (g :: gs) (NoSign.head rfl)
  rw [h, show par true (tex t) ++ rest = 40 :: (tex t ++ 41 :: rest) by simp [par], run_open, e2, run_close, e1]
theorem reads_all : ∀ t : RxT, ReadsA t ∧ ReadsB t ∧ ReadsT t := by
  intro t
  induction t with
  | set f =>
    have hA : ReadsA (.set f) := by
      intro rest l g gs
      obtain ⟨c, r, h, h1, h2, h3, _⟩ := setT_head f
      obtain ⟨f', h5, h6⟩ := set_reads f rest
      rw [show par (isSeq (.set f)) (tex (.set f)) ++ rest = setT f ++ rest from rfl]
      rw [h, List.cons_append] at h5 ⊢
      refine runS_step ?_
      unfold stepM
      rw [if_neg h1, if_neg h3, if_neg h2, h5]
      dsimp only
      rw [h6]
      rfl
    exact ⟨hA, a_b rfl hA, b_t rfl (a_b rfl hA)⟩
  | empty =>
    have hA : ReadsA .empty := by
      intro rest l g gs
      rw [show par (isSeq .empty) (tex .empty) ++ rest = 40 :: 41 :: rest from rfl, run_open, run_close]
      rfl
    exact ⟨hA, a_b rfl hA, b_t rfl (a_b rfl hA)⟩
  | cat a b iha ihb =>
    obtain ⟨_, hBa, _⟩ := iha
    obtain ⟨hAb, _, _⟩ := ihb
    have hB : ReadsB (.cat a b) := by
      intro rest l q gs hn
      obtain ⟨p, hp, e⟩ := hBa (par (isSeq b) (tex b) ++ rest) l q gs (par_no b rest)
      refine ⟨p + 1, by omega, ?_⟩
      rw [show par (isAlt (.cat a b)) (tex (.cat a b)) ++ rest = par (isAlt a) (tex a) ++ (par (isSeq b) (tex b) ++ rest) by rw [← List.append_assoc]; rfl, e, hAb, after_none hn]
      unfold pieceM
      rw [if_pos hp, post]
      simp
    have hT := b_t rfl hB
    exact ⟨t_a rfl hT, hB, hT⟩
  | alt a b iha ihb =>
    obtain ⟨_, _, hTa⟩ := iha
    obtain ⟨_, hBb, _⟩ := ihb
    have hT : ReadsT (.alt a b) := by
      intro rest l gs hn
      obtain ⟨l', g', e1, e2⟩ := hTa (124 :: (par (isAlt b) (tex b) ++ rest)) l gs (NoSign.head rfl)
      obtain ⟨p, hp, e3⟩ := hBb rest (l ++ post a) (g'.2 + 1) gs hn
      refine ⟨l ++ post a ++ post b, (p, g'.2 + 1), ?_, ?_⟩
      · unfold branchM emptyM
        rw [if_pos (by simp), if_neg (by simp; omega), post]
        simp
      · rw [show tex (.alt a b) ++ rest = tex a ++ 124 :: (par (isAlt b) (tex b) ++ rest) by rw [tex]; simp, e2, run_bar, e1]
        exact e3
    have hA := t_a rfl hT
    exact ⟨hA, a_b rfl hA, hT⟩
  | rep k a iha =>
    obtain ⟨hAa, _, _⟩ := iha
    have hs : isSeq (.rep k a) = false ∧ isAlt (.rep k a) = false := by cases k <;> exact ⟨rfl, rfl⟩
    have hA : ReadsA (.rep k a) := by
      intro rest l g gs
      rw [hs.1, show par false (tex (.rep k a)) ++ rest = par (isSeq a) (tex a) ++ (k.sign :: rest) by rw [tex]; simp [par], hAa]
      have hr : repOf k.sign = some k := by cases k <;> rfl
      unfold afterM
      rw [signsM, hr, post, ← List.append_assoc]
    have hB := a_b (by rw [hs.1, hs.2]) hA
    exact ⟨hA, hB, b_t hs.2 hB⟩
/-- What is told is read. -/
theorem read_back (t : RxT) (h : (post t).length ≤ 512) : readM (tex t) = if 4096 < (tex t).length then ([], 0, 4) else (post t, (tex t).length, 0) := by
  unfold readM
  split
  · rfl
  · obtain ⟨l', g', e1, e2⟩ := (reads_all t).2.2 [] [] [] NoSign.nil
    rw [List.append_nil, List.nil_append] at *
    have e3 : runM (tex t).length ⟨tex t, [], (0, 0), []⟩ = .inr (post t) := by
      have := e2
      rw [runS_nil, if_pos rfl, e1] at this
      exact this
    rw [e3]
    dsimp only
    rw [if_neg (by omega)]
end Go.Proofs.YtfmdmeokbbpmlaaGreat

namespace Go.Proofs.YtfmdmeokbbpmlaaGreat

def wtR (l : List Rx) : Int := (l.map (fun x => 1 - arity x.kind)).sum
theorem wtR_app (a b : List Rx) : wtR (a ++ b) = wtR a + wtR b := by
  unfold wtR
  rw [List.map_append, List.sum_append]
theorem wtR_one (x : Rx) : wtR [x] = 1 - arity x.kind := by simp [wtR]
theorem wt_post (t : RxT) : wtR (post t) = 1 := by
  induction t with
  | set f => rw [post, wtR_one]; rfl
  | empty => rw [post, wtR_one]; rfl
  | cat a b iha ihb => rw [post, wtR_app, wtR_app, iha, ihb, wtR_one]; rfl
  | alt a b iha ihb => rw [post, wtR_app, wtR_app, iha, ihb, wtR_one]; rfl
  | rep k a iha => rw [post, wtR_app, iha, wtR_one]; cases k <;> rfl
theorem pre_two {A B : List Rx} {x : Rx} (wa : wtR A = 1) (ha : ∀ p q, A = p ++ q → p ≠ [] → 1 ≤ wtR p) (hb : ∀ p q, B = p ++ q → p ≠ [] → 1 ≤ wtR p) (hw : wtR (A ++ B ++ [x]) = 1) :
    ∀ p q, A ++ B ++ [x] = p ++ q → p ≠ [] → 1 ≤ wtR p := by
  intro p q h hp
  rw [List.append_assoc] at h
  rcases List.append_eq_append_iff.1 h with ⟨c, e1, e2⟩ | ⟨c, e1, e2⟩
  · -- p = A ++ c
    rw [e1, wtR_app, wa]
    rcases List.append_eq_append_iff.1 e2 with ⟨d, e3, e4⟩ | ⟨d, e3, e4⟩
    · -- c = B ++ d, [x] = d ++ q
      cases d with
      | nil =>
        rw [List.append_nil] at e3
        by_cases hB : B = []
        · rw [e3, hB]; simp [wtR]
        · have := hb B [] (by simp) hB; rw [e3]; omega
      | cons y d =>
        have hd : d = [] ∧ q = [] ∧ x = y := by
          cases d with
          | nil => cases q with
            | nil => simp at e4; exact ⟨rfl, rfl, e4⟩
            | cons _ _ => simp at e4
          | cons _ _ => simp at e4
        obtain ⟨rfl, rfl, rfl⟩ := hd
        have h5 : wtR A + wtR (B ++ [x]) = 1 := by rw [← wtR_app, ← List.append_assoc]; exact hw
        rw [e3]
        omega
    · -- B = c ++ d
      by_cases hc : c = []
      · rw [hc]; simp [wtR]
      · have := hb c d e3 hc; omega
  · -- A = p ++ c
    exact ha p c e1 hp
theorem pre_post (t : RxT) : ∀ p q, post t = p ++ q → p ≠ [] → 1 ≤ wtR p := by
  have one : ∀ x : Rx, wtR [x] = 1 → ∀ p q, [x] = p ++ q → p ≠ [] → 1 ≤ wtR p := by
    intro x hx p q h hp
    cases p with
    | nil => exact absurd rfl hp
    | cons y p =>
      cases p with
      | nil => simp at h; rw [← h.1, hx]; exact Int.le_refl _
      | cons _ _ => simp at h
  induction t with
  | set f => rw [post]; exact one _ (wt_post (.set f))
  | empty => rw [post]; exact one _ (wt_post .empty)
  | cat a b iha ihb => rw [post]; exact pre_two (wt_post a) iha ihb (wt_post (.cat a b))
  | alt a b iha ihb => rw [post]; exact pre_two (wt_post a) iha ihb (wt_post (.alt a b))
  | rep k a iha =>
    rw [post]
    have := pre_two (B := []) (x := opRx k.num) (wt_post a) iha (fun p q h hp => by simp at h; exact absurd h.1 hp) (by rw [List.append_nil]; exact wt_post (.rep k a))
    rw [List.append_nil] at this
    exact this
/-- Where two rows end with trees' steps, these are the same ones. -/
theorem post_ends {X Y : List Rx} {b b' : RxT} (h : X ++ post b = Y ++ post b') : X = Y ∧ post b = post b' := by
  have key : ∀ {X Y : List Rx} {b b' : RxT} {c : List Rx}, Y = X ++ c → post b = c ++ post b' → c = [] := by
    intro X Y b b' c e1 e2
    by_cases hc : c = []
    · exact hc
    · have h1 := pre_post b c _ e2 hc
      have h2 := wt_post b
      rw [e2, wtR_app, wt_post b'] at h2
      omega
  rcases List.append_eq_append_iff.1 h with ⟨c, e1, e2⟩ | ⟨c, e1, e2⟩
  · have := key e1 e2
    subst this
    exact ⟨by rw [e1, List.append_nil], by rw [e2, List.nil_append]⟩
  · have := key e1 e2
    subst this
    exact ⟨by rw [e1, List.append_nil], by rw [e2, List.nil_append]⟩
theorem same_last {A B : List Rx} {x y : Rx} (h : A ++ [x] = B ++ [y]) : A = B ∧ x = y := by
  have := List.append_inj' h rfl
  exact ⟨this.1, by simpa using this.2⟩
theorem same_kind {t u : RxT} (h : post t = post u) : t.kind = u.kind := by
  obtain ⟨l, x, e, hx⟩ := post_last t
  obtain ⟨m, y, e2, hy⟩ := post_last u
  rw [e, e2] at h
  rw [← hx, ← hy, (same_last h).2]
theorem bytes_ext {f g : Nat → Bool} (h : ∀ b, b < 256 → f b = g b) : bytesS f = bytesS g := by
  unfold bytesS
  exact List.filter_congr (fun b hb => h b (List.mem_range.1 hb))
theorem runsT_ext {f g : Nat → Bool} (h : ∀ b, b < 256 → f b = g b) : runsT f = runsT g := by
  unfold runsT runsS
  rw [bytes_ext h]
theorem setT_ext {f g : Nat → Bool} (h : ∀ b, b < 256 → f b = g b) : setT f = setT g := by
  have h2 : runsT (notS f) = runsT (notS g) := runsT_ext (fun b hb => by unfold notS; rw [h b hb])
  have h3 : (∀ b, b < 256 → f b = dotS b) ↔ (∀ b, b < 256 → g b = dotS b) := ⟨fun k b hb => by rw [← h b hb]; exact k b hb, fun k b hb => by rw [h b hb]; exact k b hb⟩
  unfold setT
  rw [bytes_ext h, runsT_ext h, h2]
  by_cases hd : ∀ b, b < 256 → g b = dotS b
  · rw [if_pos hd, if_pos (h3.2 hd)]
  · rw [if_neg hd, if_neg (fun k => hd (h3.1 k))]
theorem tex_post : ∀ t u : RxT, post t = post u → tex t = tex u := by
  intro t
  induction t with
  | set f =>
    intro u h
    have hk := same_kind h
    cases u with
    | set g =>
      rw [post, post] at h
      have h1 : setRx f = setRx g := by simpa using h
      rw [tex, tex]
      refine setT_ext (wd_same.1 ?_)
      unfold setRx at h1
      simp only [Rx.mk.injEq, true_and] at h1
      obtain ⟨a, b, c, d⟩ := h1
      exact ⟨by omega, by omega, by omega, by omega⟩
    | empty => cases hk
    | cat a b => cases hk
    | alt a b => cases hk
    | rep k a => cases k <;> cases hk
  | empty =>
    intro u h
    have hk := same_kind h
    cases u with
    | set g => cases hk
    | empty => rfl
    | cat a b => cases hk
    | alt a b => cases hk
    | rep k a => cases k <;> cases hk
  | cat a b iha ihb =>
    intro u h
    have hk := same_kind h
    cases u with
    | set g => cases hk
    | empty => cases hk
    | cat a' b' =>
      rw [post, post] at h
      obtain ⟨ha, hb⟩ := post_ends (same_last h).1
      rw [tex, tex, iha _ ha, ihb _ hb]
      unfold isAlt isSeq
      rw [same_kind ha, same_kind hb]
    | alt a' b' => cases hk
    | rep k a => cases k <;> cases hk
  | alt a b iha ihb =>
    intro u h
    have hk := same_kind h
    cases u with
    | set g => cases hk
    | empty => cases hk
    | cat a' b' => cases hk
    | alt a' b' =>
      rw [post, post] at h
      obtain ⟨ha, hb⟩ := post_ends (same_last h).1
      rw [tex, tex, iha _ ha, ihb _ hb]
      unfold isAlt
      rw [same_kind hb]
    | rep k a => cases k <;> cases hk
  | rep k a iha =>
    intro u h
    have hk := same_kind h
    cases u with
    | set g => cases k <;> cases hk
    | empty => cases k <;> cases hk
    | cat a' b' => cases k <;> cases hk
    | alt a' b' => cases k <;> cases hk
    | rep k' a' =>
      rw [post, post] at h
      have ha := (same_last h).1
      have hkk : k = k' := by cases k <;> cases k' <;> first | rfl | cases hk
      rw [tex, tex, iha _ ha, hkk]
      unfold isSeq
      rw [same_kind ha]
theorem wordy_post : ∀ t : RxT, ∀ x ∈ post t, Wordy x := by
  have op : ∀ k : Int, Wordy (opRx k) := fun k => ⟨⟨Int.le_refl 0, by show (0 : Int) < 18446744073709551616; decide⟩, ⟨Int.le_refl 0, by show (0 : Int) < 18446744073709551616; decide⟩, ⟨Int.le_refl 0, by show (0 : Int) < 18446744073709551616; decide⟩, ⟨Int.le_refl 0, by show (0 : Int) < 18446744073709551616; decide⟩⟩
  intro t
  induction t with
  | set f =>
    intro x hx
    rw [post, List.mem_singleton] at hx
    subst hx
    have h := wd_lt f
    have h0 := h 0
    have h1 := h 1
    have h2 := h 2
    have h3 := h 3
    exact ⟨⟨by show (0 : Int) ≤ (wd f 0 : Nat); omega, by show ((wd f 0 : Nat) : Int) < _; omega⟩, ⟨by show (0 : Int) ≤ (wd f 1 : Nat); omega, by show ((wd f 1 : Nat) : Int) < _; omega⟩, ⟨by show (0 : Int) ≤ (wd f 2 : Nat); omega, by show ((wd f 2 : Nat) : Int) < _; omega⟩, ⟨by show (0 : Int) ≤ (wd f 3 : Nat); omega, by show ((wd f 3 : Nat) : Int) < _; omega⟩⟩
  | empty => intro x hx; rw [post, List.mem_singleton] at hx; subst hx; exact op 2
  | cat a b iha ihb =>
    intro x hx
    rw [post, List.mem_append, List.mem_append, List.mem_singleton] at hx
    rcases hx with (hx | hx) | rfl
    · exact iha x hx
    · exact ihb x hx
    · exact op 3
  | alt a b iha ihb =>
    intro x hx
    rw [post, List.mem_append, List.mem_append, List.mem_singleton] at hx
    rcases hx with (hx | hx) | rfl
    · exact iha x hx
    · exact ihb x hx
    · exact op 4
  | rep k a iha =>
    intro x hx
    rw [post, List.mem_append, List.mem_singleton] at hx
    rcases hx with hx | rfl
    · exact iha x hx
    · exact op _
/-- The example: a(b|c)*. -/
def exT : RxT := .cat (.set (oneS 97)) (.rep .star (.alt (.set (oneS 98)) (.set (oneS 99))))
theorem ex_tex : tex exT = [97, 40, 98, 124, 99, 41, 42] := by decide +kernel
theorem ex_read : readM [97, 40, 98, 124, 99, 41, 42] = (post exT, 7, 0) := by
  have := read_back exT (by decide)
  rw [ex_tex] at this
  rw [this, if_neg (by decide)]
  rfl
theorem ex_bad : readM [91, 98, 45, 97, 93] = ([], 3, 3) := by rfl
end Go.Proofs.YtfmdmeokbbpmlaaGreat
