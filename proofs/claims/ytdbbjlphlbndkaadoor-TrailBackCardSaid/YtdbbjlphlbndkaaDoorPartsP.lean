/-
  A text cut at each of a byte, plainly; and paths as texts.
-/
import Derived.Test.YtdbbjlphlbndkaaDoorNumP
import Derived.Lib.Split
import Derived.Lib.IndexLaws
import Derived.Lib.IndexBytes
import Derived.Lib.Join
namespace Go.Proofs.YtdbbjlphlbndkaaDoor
open Go.RowKit Go.Shelf

/-- A text cut at each c. -/
def partsOf (c : UInt8) : List UInt8 → List (List UInt8)
  | [] => [[]]
  | x :: l => if x = c then [] :: partsOf c l else match partsOf c l with | [] => [[x]] | p :: r => (x :: p) :: r
theorem parts_ne (c : UInt8) (l : List UInt8) : partsOf c l ≠ [] := by
  cases l with
  | nil => simp [partsOf]
  | cons x l => unfold partsOf; split; · simp
                split <;> simp
theorem parts_hit (c : UInt8) (b : List UInt8) : ∀ a : List UInt8, c ∉ a → partsOf c (a ++ c :: b) = a :: partsOf c b := by
  intro a
  induction a with
  | nil => intro _; rw [List.nil_append, partsOf, if_pos rfl]
  | cons x a ih =>
    intro h
    rw [List.cons_append, partsOf, if_neg (fun e => h (by rw [e]; exact List.mem_cons_self)), ih (fun h' => h (List.mem_cons_of_mem _ h'))]
theorem parts_none (c : UInt8) : ∀ a : List UInt8, c ∉ a → partsOf c a = [a] := by
  intro a
  induction a with
  | nil => intro _; rfl
  | cons x a ih =>
    intro h
    rw [partsOf, if_neg (fun e => h (by rw [e]; exact List.mem_cons_self)), ih (fun h' => h (List.mem_cons_of_mem _ h'))]
theorem split_parts (c : UInt8) : ∀ (n : Nat) (s : List UInt8), s.length ≤ n → Lib.splitK [c] 0 (Lib.count s [c]) s = partsOf c s := by
  intro n
  induction n with
  | zero =>
    intro s h
    obtain rfl : s = [] := List.length_eq_zero_iff.1 (by omega)
    have h1 : Lib.index ([] : List UInt8) [c] = -1 := rfl
    rw [Lib.count_miss h1]
    rfl
  | succ n ih =>
    intro s h
    have e1 := Lib.index_one s c
    rcases Lib.index_spec s [c] with ⟨h1, _⟩ | ⟨i, h1, h2, h3, _⟩
    · rw [Lib.count_miss h1]
      rw [h1] at e1
      have hn := Lib.indexByte_none e1.symm
      rw [parts_none c s (fun hm => by
        obtain ⟨k, hk⟩ := List.mem_iff_getElem?.1 hm
        exact hn k hk)]
      rfl
    · rw [h1] at e1
      obtain ⟨h4, h5⟩ := Lib.indexByte_some e1.symm
      have hi : i < s.length := (List.getElem?_eq_some_iff.1 h4).1
      have hs : s = s.take i ++ c :: s.drop (i + 1) := by
        have := (List.getElem?_eq_some_iff.1 h4).2
        rw [← this, List.getElem_cons_drop hi, List.take_append_drop]
      rw [Lib.count_hit (by simp) h1, Nat.add_comm 1, Lib.splitK]
      have hne : ¬ (Lib.index s [c] == -1) = true := by rw [h1]; simp
      rw [if_neg hne, h1, Int.toNat_natCast, Nat.add_zero, List.length_singleton, ih _ (by rw [List.length_drop]; omega)]
      conv => rhs; rw [hs]
      rw [parts_hit]
      intro hm
      obtain ⟨k, hk, e⟩ := List.mem_iff_getElem.1 hm
      rw [List.length_take] at hk
      rw [List.getElem_take] at e
      exact h5 k (by omega) (by rw [List.getElem?_eq_getElem (by omega), e])
/-- The parts, joined with c between, are the text; and the other way where no part has a c. -/
theorem parts_join (c : UInt8) (x : List UInt8) : ∀ r : List (List UInt8), c ∉ x → (∀ y ∈ r, c ∉ y) → partsOf c (x ++ r.flatMap (fun y => c :: y)) = x :: r := by
  intro r
  induction r generalizing x with
  | nil => intro h _; rw [List.flatMap_nil, List.append_nil, parts_none c x h]
  | cons y r ih =>
    intro h hr
    rw [List.flatMap_cons, List.cons_append, parts_hit c _ x h, ih y (hr y List.mem_cons_self) (fun z hz => hr z (List.mem_cons_of_mem _ hz))]
theorem parts_len (c : UInt8) (l : List UInt8) : (partsOf c l).length ≤ l.length + 1 := by
  induction l with
  | nil => exact Nat.le_refl _
  | cons x l ih =>
    rw [partsOf]
    split
    · simp; omega
    · split
      · simp
      · rename_i p r e
        rw [e] at ih
        simp at ih ⊢
        omega
theorem parts_sub (c : UInt8) (l : List UInt8) : ∀ p ∈ partsOf c l, p.length ≤ l.length := by
  induction l with
  | nil => intro p hp; simp [partsOf] at hp; subst hp; exact Nat.le_refl _
  | cons x l ih =>
    intro p hp
    rw [partsOf] at hp
    split at hp
    · rcases List.mem_cons.1 hp with rfl | hp
      · simp
      · have := ih p hp; simp; omega
    · split at hp
      · rename_i e; exact absurd e (parts_ne c l)
      · rename_i q r e
        rw [e] at ih
        rcases List.mem_cons.1 hp with rfl | hp
        · have := ih q List.mem_cons_self; simp; omega
        · have := ih p (List.mem_cons_of_mem _ hp); simp; omega

/-- A path as a text. -/
def anyNeg (l : List Int) : Prop := ∃ x ∈ l, x < 0
def slashed (l : List Int) : List UInt8 := l.flatMap fun x => 47 :: showI x
noncomputable def showPath (l : List Int) : List UInt8 := if holdsB (anyNeg l) = true then [] else if l = [] then [47] else slashed l
/-- The numbers of parts, up to the first that is none: the numbers, and the error. -/
def readParts (most : Int) : List (List UInt8) → List Int → List Int × Int
  | [], acc => (acc, 0)
  | p :: r, acc => if (readN p most).2 = 0 then readParts most r (acc ++ [(readN p most).1]) else ([], (readN p most).2)
/-- The path of a text. -/
def readPath (s : List UInt8) : List Int × Int := match s with
  | [] => ([], 3)
  | c :: l => if c = 47 then (if l = [] then ([], 0) else readParts 65536 (partsOf 47 l) []) else ([], 3)

theorem slash_digs (n : Nat) : (47 : UInt8) ∉ digs n := fun h => by
  have := (digs_all n _ h).1
  have e : (47 : UInt8).toNat = 47 := rfl
  omega
theorem read_nats (most : Int) : ∀ (l : List Nat) (acc : List Int), (∀ x ∈ l, (x : Int) ≤ most) → readParts most (l.map digs) acc = (acc ++ l.map (fun (x : Nat) => (x : Int)), 0) := by
  intro l
  induction l with
  | nil => intro acc _; simp [readParts]
  | cons x l ih =>
    intro acc h
    rw [List.map_cons, readParts, read_digs most x (h x List.mem_cons_self), if_pos rfl, ih _ (fun y hy => h y (List.mem_cons_of_mem _ hy))]
    simp
/-- A path that is told is read as it. -/
theorem read_show (l : List Nat) (h : ∀ x ∈ l, x ≤ 65536) : readPath (showPath (l.map (fun (x : Nat) => (x : Int)))) = (l.map (fun (x : Nat) => (x : Int)), 0) := by
  unfold showPath
  have hneg : holdsB (anyNeg (l.map (fun (x : Nat) => (x : Int)))) = false := holdsB_false (by
    rintro ⟨x, hx, h0⟩
    obtain ⟨y, _, rfl⟩ := List.mem_map.1 hx
    omega)
  rw [hneg, if_neg (by decide)]
  cases l with
  | nil => rfl
  | cons x l =>
    rw [if_neg (by simp)]
    have hs : slashed (((x :: l).map (fun (x : Nat) => (x : Int)))) = 47 :: (digs x ++ (l.map digs).flatMap (fun y => (47 : UInt8) :: y)) := by
      unfold slashed
      rw [List.map_cons, List.flatMap_cons, showI_nat, List.cons_append]
      congr 2
      induction l with
      | nil => rfl
      | cons y l ih =>
        rw [List.map_cons, List.map_cons, List.flatMap_cons, List.flatMap_cons, showI_nat, ih (fun z hz => h z (by
          rcases List.mem_cons.1 hz with rfl | hz
          · exact List.mem_cons_self
          · exact List.mem_cons_of_mem _ (List.mem_cons_of_mem _ hz))) (holdsB_false (by
          rintro ⟨x, hx, h0⟩
          obtain ⟨y, _, rfl⟩ := List.mem_map.1 hx
          omega))]
    rw [hs]
    unfold readPath
    dsimp only
    rw [if_pos rfl, if_neg (by obtain ⟨c, r, e, _⟩ := digs_head x; rw [e]; simp), parts_join 47 (digs x) (l.map digs) (slash_digs x) (by
      intro y hy
      obtain ⟨z, _, rfl⟩ := List.mem_map.1 hy
      exact slash_digs z)]
    have := read_nats 65536 (x :: l) [] (fun y hy => by have := h y hy; omega)
    rw [List.map_cons] at this
    rw [this]
    simp
end Go.Proofs.YtdbbjlphlbndkaaDoor
