/-
  gprint: the texts of two grammars that are right are the same just if the grammars are. Plain.
-/
import Derived.Test.YtfmdmeokbbpmlaaGreatGprJ
namespace Go.Proofs.YtfmdmeokbbpmlaaGreat
open Go.RowKit Go.Shelf

theorem ba_ext {a b : ByteArray} (h : a.data.toList = b.data.toList) : a = b := by
  rw [← ba_mk a, ← ba_mk b, h]
/-- Nothing, or the sign ahead. -/
def Hd (c : UInt8) (X : List UInt8) : Prop := X = [] ∨ ∃ r, X = c :: r
theorem cut_eq {c : UInt8} : ∀ {a a' X X' : List UInt8}, c ∉ a → c ∉ a' → Hd c X → Hd c X' → a ++ X = a' ++ X' → a = a' ∧ X = X' := by
  intro a
  induction a with
  | nil =>
    intro a' X X' h1 h2 h3 h4 h
    cases a' with
    | nil => exact ⟨rfl, h⟩
    | cons y a' =>
      rw [List.nil_append, List.cons_append] at h
      rcases h3 with h3 | ⟨r, h3⟩
      · rw [h3] at h; cases h
      · rw [h3] at h
        injection h with h5 h6
        exact absurd (by rw [h5]; exact List.mem_cons_self) h2
  | cons x a ih =>
    intro a' X X' h1 h2 h3 h4 h
    cases a' with
    | nil =>
      rw [List.nil_append, List.cons_append] at h
      rcases h4 with h4 | ⟨r, h4⟩
      · rw [h4] at h; cases h
      · rw [h4] at h
        injection h with h5 h6
        exact absurd (by rw [h5]; exact List.mem_cons_self) h1
    | cons y a' =>
      rw [List.cons_append, List.cons_append] at h
      injection h with h5 h6
      obtain ⟨h7, h8⟩ := ih (fun hm => h1 (List.mem_cons_of_mem _ hm)) (fun hm => h2 (List.mem_cons_of_mem _ hm)) h3 h4 h6
      exact ⟨by rw [h5, h7], h8⟩

/-- The words behind the first, each with its blank. -/
def jl : List ByteArray → List UInt8
  | [] => []
  | y :: r => 32 :: (y.data.toList ++ jl r)
theorem lineB_list (x : ByteArray) (r : List ByteArray) : (lineB x r).data.toList = x.data.toList ++ jl r := by
  unfold lineB
  rw [List.map_cons, Lib.join_cons]
  show x.data.toList ++ _ = _
  congr 1
  unfold Lib.joinTail
  induction r with
  | nil => rfl
  | cons y r ih =>
    rw [List.map_cons, List.map_cons, List.flatten_cons, ih]
    rfl
theorem jl_hd (r : List ByteArray) : Hd 32 (jl r) := by
  cases r with
  | nil => exact .inl rfl
  | cons y r => exact .inr ⟨_, rfl⟩
theorem jl_inj : ∀ {r r' : List ByteArray}, (∀ y ∈ r, (32 : UInt8) ∉ y.data.toList) → (∀ y ∈ r', (32 : UInt8) ∉ y.data.toList) → jl r = jl r' → r = r' := by
  intro r
  induction r with
  | nil =>
    intro r' _ _ h
    cases r' with
    | nil => rfl
    | cons y r' => cases h
  | cons x r ih =>
    intro r' h1 h2 h
    cases r' with
    | nil => cases h
    | cons y r' =>
      unfold jl at h
      injection h with _ h
      obtain ⟨h3, h4⟩ := cut_eq (h1 x List.mem_cons_self) (h2 y List.mem_cons_self) (jl_hd r) (jl_hd r') h
      rw [ba_ext h3, ih (fun z hz => h1 z (List.mem_cons_of_mem _ hz)) (fun z hz => h2 z (List.mem_cons_of_mem _ hz)) h4]
theorem lineB_inj {x : ByteArray} {r r' : List ByteArray} (h1 : ∀ y ∈ r, (32 : UInt8) ∉ y.data.toList) (h2 : ∀ y ∈ r', (32 : UInt8) ∉ y.data.toList) (h : lineB x r = lineB x r') : r = r' := by
  have h3 := congrArg (fun s : ByteArray => s.data.toList) h
  simp only [lineB_list] at h3
  exact jl_inj h1 h2 (List.append_cancel_left h3)
theorem lineB_all {P : UInt8 → Prop} {x : ByteArray} {r : List ByteArray} (h0 : P 32) (h1 : ∀ c ∈ x.data.toList, P c) (h2 : ∀ y ∈ r, ∀ c ∈ y.data.toList, P c) : ∀ c ∈ (lineB x r).data.toList, P c := by
  intro c hc
  rw [lineB_list, List.mem_append] at hc
  rcases hc with hc | hc
  · exact h1 c hc
  · induction r with
    | nil => cases hc
    | cons y r ih =>
      unfold jl at hc
      rcases List.mem_cons.1 hc with rfl | hc
      · exact h0
      · rcases List.mem_append.1 hc with hc | hc
        · exact h2 y List.mem_cons_self c hc
        · exact ih (fun z hz => h2 z (List.mem_cons_of_mem _ hz)) hc
/-- Lines as bytes. -/
def tl : List ByteArray → List UInt8
  | [] => []
  | y :: r => y.data.toList ++ 10 :: tl r
theorem textB_list (ls : List ByteArray) : (textB ls).data.toList = tl ls := by
  have h : ∀ (ls : List ByteArray) (s : ByteArray), (ls.foldl (fun s l => s ++ l ++ nlB) s).data.toList = s.data.toList ++ tl ls := by
    intro ls
    induction ls with
    | nil => intro s; rw [List.foldl_nil, tl, List.append_nil]
    | cons l ls ih =>
      intro s
      rw [List.foldl_cons, ih, ba_list, ba_list, tl, List.append_assoc, List.append_assoc]
      rfl
  have := h ls ByteArray.empty
  rw [show ByteArray.empty.data.toList = [] from rfl, List.nil_append] at this
  exact this
theorem tl_inj : ∀ {r r' : List ByteArray}, (∀ y ∈ r, (10 : UInt8) ∉ y.data.toList) → (∀ y ∈ r', (10 : UInt8) ∉ y.data.toList) → tl r = tl r' → r = r' := by
  intro r
  induction r with
  | nil =>
    intro r' _ _ h
    cases r' with
    | nil => rfl
    | cons y r' => rw [tl, tl] at h; exact absurd h (by simp)
  | cons x r ih =>
    intro r' h1 h2 h
    cases r' with
    | nil => rw [tl, tl] at h; exact absurd h (by simp)
    | cons y r' =>
      unfold tl at h
      obtain ⟨h3, h4⟩ := cut_eq (h1 x List.mem_cons_self) (h2 y List.mem_cons_self) (.inr ⟨_, rfl⟩) (.inr ⟨_, rfl⟩) h
      injection h4 with _ h4
      rw [ba_ext h3, ih (fun z hz => h1 z (List.mem_cons_of_mem _ hz)) (fun z hz => h2 z (List.mem_cons_of_mem _ hz)) h4]
theorem textB_inj {r r' : List ByteArray} (h1 : ∀ y ∈ r, (10 : UInt8) ∉ y.data.toList) (h2 : ∀ y ∈ r', (10 : UInt8) ∉ y.data.toList) (h : textB r = textB r') : r = r' := by
  have h3 := congrArg (fun s : ByteArray => s.data.toList) h
  simp only [textB_list] at h3
  exact tl_inj h1 h2 h3

/-! ### What bytes there are -/
theorem hexC_seen (d : Nat) (h : d < 16) : seenB (hexC d) = true := by revert d; decide
theorem chr_seen (but : List Nat) (c : Nat) (hc : c < 256) : ∀ x ∈ chrT but c, seenB x = true := by
  unfold chrT
  intro x hx
  split at hx
  · simp only [List.mem_cons, List.not_mem_nil, or_false] at hx; rcases hx with rfl | rfl <;> rfl
  split at hx
  · simp only [List.mem_cons, List.not_mem_nil, or_false] at hx; rcases hx with rfl | rfl <;> rfl
  split at hx
  · simp only [List.mem_cons, List.not_mem_nil, or_false] at hx; rcases hx with rfl | rfl <;> rfl
  split at hx
  · simp only [List.mem_cons, List.not_mem_nil, or_false] at hx
    rcases hx with rfl | rfl | rfl | rfl
    · rfl
    · rfl
    · exact hexC_seen _ (by omega)
    · exact hexC_seen _ (by omega)
  · rename_i hs
    split at hx
    · simp only [List.mem_cons, List.not_mem_nil, or_false] at hx
      rcases hx with rfl | rfl
      · rfl
      · simpa using hs
    · simp only [List.mem_cons, List.not_mem_nil, or_false] at hx
      rw [hx]
      simpa using hs
theorem runT_seen (r : Nat × Nat) (h1 : r.1 < 256) (h2 : r.2 < 256) : ∀ x ∈ runT r, seenB x = true := by
  unfold runT
  intro x hx
  split at hx
  · exact chr_seen _ _ h1 x hx
  split at hx
  · rcases List.mem_append.1 hx with hx | hx
    · exact chr_seen _ _ h1 x hx
    · exact chr_seen _ _ h2 x hx
  · rcases List.mem_append.1 hx with hx | hx
    · exact chr_seen _ _ h1 x hx
    · rcases List.mem_cons.1 hx with rfl | hx
      · rfl
      · exact chr_seen _ _ h2 x hx
theorem runsT_seen (f : Nat → Bool) : ∀ x ∈ runsT f, seenB x = true := by
  intro x hx
  unfold runsT at hx
  obtain ⟨l, hl, hx⟩ := List.mem_flatten.1 hx
  obtain ⟨r, hr, rfl⟩ := List.mem_map.1 hl
  have := runs_right f r hr
  exact runT_seen r (by omega) this.2 x hx
theorem setT_seen (f : Nat → Bool) : ∀ x ∈ setT f, seenB x = true := by
  unfold setT
  intro x hx
  split at hx
  · refine chr_seen _ _ ?_ x hx
    cases hb : bytesS f with
    | nil => decide
    | cons b l => exact (bytesS_lt (f := f) (by rw [hb]; exact List.mem_cons_self)).1
  split at hx
  · rw [List.mem_singleton.1 hx]; rfl
  split at hx
  · rcases List.mem_cons.1 hx with rfl | hx
    · rfl
    rcases List.mem_cons.1 hx with rfl | hx
    · rfl
    rcases List.mem_append.1 hx with hx | hx
    · exact runsT_seen _ x hx
    · rw [List.mem_singleton.1 hx]; rfl
  · rcases List.mem_cons.1 hx with rfl | hx
    · rfl
    rcases List.mem_append.1 hx with hx | hx
    · exact runsT_seen _ x hx
    · rw [List.mem_singleton.1 hx]; rfl
theorem par_seen {b : Bool} {l : List Nat} (h : ∀ x ∈ l, seenB x = true) : ∀ x ∈ par b l, seenB x = true := by
  unfold par
  intro x hx
  split at hx
  · rcases List.mem_cons.1 hx with rfl | hx
    · rfl
    rcases List.mem_append.1 hx with hx | hx
    · exact h x hx
    · rw [List.mem_singleton.1 hx]; rfl
  · exact h x hx
theorem tex_seen (t : RxT) : ∀ x ∈ tex t, seenB x = true := by
  induction t with
  | set f => exact setT_seen f
  | empty => intro x hx; simp only [tex, List.mem_cons, List.not_mem_nil, or_false] at hx; rcases hx with rfl | rfl <;> rfl
  | cat a b iha ihb =>
    intro x hx
    rw [tex] at hx
    rcases List.mem_append.1 hx with hx | hx
    · exact par_seen iha x hx
    · exact par_seen ihb x hx
  | alt a b iha ihb =>
    intro x hx
    rw [tex] at hx
    rcases List.mem_append.1 hx with hx | hx
    · exact iha x hx
    rcases List.mem_cons.1 hx with rfl | hx
    · rfl
    · exact par_seen ihb x hx
  | rep k a iha =>
    intro x hx
    rw [tex] at hx
    rcases List.mem_append.1 hx with hx | hx
    · exact par_seen iha x hx
    · rw [List.mem_singleton.1 hx]; cases k <;> rfl
theorem seen_bytes {l : List Nat} (h : ∀ x ∈ l, seenB x = true) : ∀ c ∈ (bs l).data.toList, 33 ≤ c.toNat ∧ c.toNat ≤ 126 := by
  intro c hc
  rw [bs_list] at hc
  obtain ⟨x, hx, rfl⟩ := List.mem_map.1 hc
  have := h x hx
  unfold seenB at this
  simp only [Bool.and_eq_true, decide_eq_true_eq] at this
  rw [UInt8.toNat_ofNat']
  omega
theorem bs_inj : ∀ {l m : List Nat}, (∀ x ∈ l, seenB x = true) → (∀ x ∈ m, seenB x = true) → bs l = bs m → l = m := by
  intro l m h1 h2 h
  have h3 := congrArg (fun s : ByteArray => s.data.toList) h
  simp only [bs_list] at h3
  clear h
  induction l generalizing m with
  | nil => cases m with
    | nil => rfl
    | cons y m => cases h3
  | cons x l ih => cases m with
    | nil => cases h3
    | cons y m =>
      rw [List.map_cons, List.map_cons] at h3
      injection h3 with h4 h5
      have a := h1 x List.mem_cons_self
      have b := h2 y List.mem_cons_self
      unfold seenB at a b
      simp only [Bool.and_eq_true, decide_eq_true_eq] at a b
      have h6 := congrArg UInt8.toNat h4
      rw [UInt8.toNat_ofNat', UInt8.toNat_ofNat'] at h6
      rw [show x = y by omega, ih (fun z hz => h1 z (List.mem_cons_of_mem _ hz)) (fun z hz => h2 z (List.mem_cons_of_mem _ hz)) h5]
theorem tex_inj {t u : RxT} (h : tex t = tex u) : post t = post u := by
  obtain ⟨l1, g1, e1, e2⟩ := (reads_all t).2.2 [] [] [] NoSign.nil
  obtain ⟨l2, g2, e3, e4⟩ := (reads_all u).2.2 [] [] [] NoSign.nil
  rw [List.append_nil] at e2 e4
  rw [List.nil_append] at e1 e3
  rw [runS_nil, if_pos rfl, e1] at e2
  rw [runS_nil, if_pos rfl, e3, ← h, e2] at e4
  injection e4
theorem showR_bytes (l : List Rx) : ∀ c ∈ (showR l).data.toList, 33 ≤ c.toNat ∧ c.toNat ≤ 126 := by
  unfold showR
  split
  · exact seen_bytes (tex_seen _)
  · exact seen_bytes (by intro x hx; cases hx)
theorem showR_inj {l m : List Rx} (h1 : rxErr l = 0) (h2 : rxErr m = 0) (w1 : ∀ x ∈ l, Wordy x) (w2 : ∀ x ∈ m, Wordy x) (h : showR l = showR m) : l = m := by
  obtain ⟨h5, t, rfl⟩ := right_tree w1 h1
  obtain ⟨h6, u, rfl⟩ := right_tree w2 h2
  rw [showR_post t h5, showR_post u h6] at h
  exact tex_inj (bs_inj (tex_seen t) (tex_seen u) h)
theorem name_bytes {s : ByteArray} (h : nameB s = true) : ∀ c ∈ s.data.toList, 48 ≤ c.toNat ∧ c.toNat ≤ 122 := by
  intro c hc
  have hn := (holdsB_iff (p := IsName s)).1 h
  obtain ⟨i, hi⟩ := List.getElem?_of_mem hc
  obtain ⟨hlt, he⟩ := List.getElem?_eq_some_iff.1 hi
  have hsz : i < s.size := by rw [← data_len s]; exact hlt
  have ho := hn.2.2 i hsz
  have hcb : s[i]'hsz = c := by
    rw [← he]
    rfl
  rw [hcb] at ho
  unfold okAt at ho
  rcases part_cases (c.toNat : Int) with k | k | k | k | k | k | k | k | k <;> rcases ho with ho | ho <;> omega
theorem num_bytes (n : Int) : ∀ c ∈ (numT n).data.toList, 48 ≤ c.toNat ∧ c.toNat ≤ 57 := by
  unfold numT showI
  split
  · intro c hc; cases hc
  · exact digs_all _
theorem num_inj {n m : Int} (h1 : 0 ≤ n) (h2 : 0 ≤ m) (h : numT n = numT m) : n = m := by
  obtain ⟨a, rfl⟩ : ∃ a : Nat, n = (a : Int) := ⟨n.toNat, by omega⟩
  obtain ⟨b, rfl⟩ : ∃ b : Nat, m = (b : Int) := ⟨m.toNat, by omega⟩
  have h3 := congrArg (fun s : ByteArray => s.data.toList) h
  unfold numT at h3
  rw [showI_nat, showI_nat] at h3
  have h4 : digs a = digs b := h3
  have e1 := read_digs ((a : Int) + b) a (by omega)
  have e2 := read_digs ((a : Int) + b) b (by omega)
  rw [h4, e2] at e1
  injection e1 with e1 _
  omega
end Go.Proofs.YtfmdmeokbbpmlaaGreat
