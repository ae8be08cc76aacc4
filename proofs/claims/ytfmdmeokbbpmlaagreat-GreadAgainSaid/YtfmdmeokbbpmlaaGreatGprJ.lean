/-
  gprint: a grammar as a text: the lines, and the builder between them.
-/
import Derived.Test.YtfmdmeokbbpmlaaGreatGprI
namespace Go.Proofs.YtfmdmeokbbpmlaaGreat
open Go.RowKit Go.Shelf

def bndW (k : Nat) : ByteArray := if k = 0 then ⟨#[98, 111, 117, 110, 100, 32, 115, 116, 97, 116, 101, 115]⟩ else if k = 1 then ⟨#[98, 111, 117, 110, 100, 32, 116, 101, 120, 116]⟩ else if k = 2 then ⟨#[98, 111, 117, 110, 100, 32, 110, 111, 100, 101, 115]⟩ else ⟨#[98, 111, 117, 110, 100, 32, 112, 97, 105, 114, 115]⟩
def rulesW : ByteArray := ⟨#[114, 117, 108, 101, 115]⟩
def startW : ByteArray := ⟨#[115, 116, 97, 114, 116]⟩
def numT (n : Int) : ByteArray := ⟨(showI n).toArray⟩
/-- The four bounds. -/
def bndsL (g : Gram) : List ByteArray := [lineB (bndW 0) [numT g.states], lineB (bndW 1) [numT g.text], lineB (bndW 2) [numT g.nodes], lineB (bndW 3) [numT g.pairs]]
def ruleL (g : Gram) : ByteArray := lineB rulesW g.rules
def startL (g : Gram) : ByteArray := lineB startW [(g.rules[g.start.toNat]?).getD ByteArray.empty]
/-- The lines of a grammar that is right. -/
noncomputable def linesG (g : Gram) : List ByteArray := bndsL g ++ g.toks.map tokT ++ [ruleL g, startL g] ++ g.prods.map (prodT g)
/-- A grammar as a text. -/
noncomputable def gramT (g : Gram) : ByteArray := if rightB g = true then textB (linesG g) else ByteArray.empty

theorem textB_fold (ls : List ByteArray) (n : Nat) (h : ∀ l ∈ ls, l.size ≤ n) : ∀ s : ByteArray, (ls.foldl (fun s l => s ++ l ++ nlB) s).size ≤ s.size + (n + 1) * ls.length := by
  induction ls with
  | nil => intro s; exact Nat.le_refl _
  | cons l ls ih =>
    intro s
    have h1 := ih (fun x hx => h x (List.mem_cons_of_mem _ hx)) (s ++ l ++ nlB)
    have h2 := h l List.mem_cons_self
    have h3 : nlB.size = 1 := rfl
    rw [ByteArray.size_append, ByteArray.size_append] at h1
    rw [List.foldl_cons, List.length_cons, Nat.mul_add]
    omega
theorem textB_size (ls : List ByteArray) (n : Nat) (h : ∀ l ∈ ls, l.size ≤ n) : (textB ls).size ≤ (n + 1) * ls.length := by
  have := textB_fold ls n h ByteArray.empty
  rw [show ByteArray.empty.size = 0 from rfl, Nat.zero_add] at this
  exact this
theorem numT_size (n : Int) (h : n ≤ 9223372036854775807) : (numT n).size ≤ 20 := by
  unfold numT
  rw [bytes_size]
  unfold showI
  split
  · simp
  · exact digs_len 19 _ (by omega)
theorem tokT_size (t : Token) : (tokT t).size ≤ 2000100 := by
  unfold tokT
  split
  · rename_i h
    unfold tokOk at h
    simp only [Bool.and_eq_true] at h
    have h1 := nameB_size h.1
    have h2 := clsW_size t.cls
    have h3 := showR_size t.rex
    have h4 : spB.size = 1 := rfl
    rw [ByteArray.size_append, ByteArray.size_append, ByteArray.size_append, ByteArray.size_append, h4]
    generalize (showR t.rex).size = a at *
    generalize (clsW t.cls).size = b at *
    generalize t.name.size = c at *
    clear h4 h
    omega
  · exact Nat.zero_le _
theorem prodT_size {g : Gram} (hz : ∀ s ∈ allNames g, s.size ≤ 1000) (p : Prod) (hl : p.right.length ≤ 10000) : (prodT g p).size ≤ 20000000 := by
  unfold prodT
  split
  · have h := lineB_size ruleW ((g.rules[p.left.toNat]?).getD ByteArray.empty :: p.right.map (itemT g)) 1010 (fun y hy => by
      rcases List.mem_cons.1 hy with rfl | hy
      · cases hc : g.rules[p.left.toNat]? with
        | none => exact Nat.zero_le _
        | some s =>
          have := hz s (List.mem_append_right _ (List.mem_of_getElem? hc))
          show s.size ≤ 1010
          omega
      · obtain ⟨x, _, rfl⟩ := List.mem_map.1 hy
        exact itemT_size hz x)
    have h2 : ruleW.size = 4 := rfl
    rw [List.length_cons, List.length_map, h2] at h
    refine Nat.le_trans h (Nat.le_trans (Nat.add_le_add_left (Nat.mul_le_mul_left _ (Nat.succ_le_succ hl)) 4) (by decide))
  · exact Nat.zero_le _

theorem bnd_size (k : Nat) (n : Int) (h : n ≤ 9223372036854775807) : (lineB (bndW k) [numT n]).size ≤ 20000000 := by
  have h1 := lineB_size (bndW k) [numT n] 20 (fun y hy => by rw [List.mem_singleton.1 hy]; exact numT_size n h)
  have h2 : (bndW k).size ≤ 12 := by unfold bndW; split <;> (try split) <;> (try split) <;> decide
  rw [List.length_singleton] at h1
  omega
theorem strs_ones (l : List ByteArray) : Hid (∀ u ∈ l.flatMap strC, u.oneCell' = true) := hidden (by
  intro u hu
  obtain ⟨s, _, hs⟩ := List.mem_flatMap.1 hu
  unfold strC at hs
  rw [List.mem_singleton.1 hs]
  rfl)

theorem right_sizes {g : Gram} (h : rightB g = true) : (g.toks.length ≤ 64 ∧ g.rules.length ≤ 64 ∧ g.prods.length ≤ 256) ∧ (g.states ≤ 4096 ∧ g.text ≤ 65536 ∧ g.nodes ≤ 65536 ∧ g.pairs ≤ 1048576) := by
  have hr : RightG g := (right_iff g).1 (of_decide_eq_true h)
  have hs := hr.sizes
  unfold sizesOf at hs
  split at hs; · cases hs
  split at hs; · cases hs
  split at hs; · cases hs
  split at hs; · cases hs
  split at hs; · cases hs
  split at hs; · cases hs
  split at hs; · cases hs
  omega
theorem right_start {g : Gram} (h : rightB g = true) : ∃ j : Nat, g.start = (j : Int) ∧ j < g.rules.length := by
  have hr : RightG g := (right_iff g).1 (of_decide_eq_true h)
  have hs := hr.start
  unfold startD at hs
  split at hs
  · cases hs
  · exact ⟨g.start.toNat, by omega, by omega⟩
theorem right_prod {g : Gram} (h : rightB g = true) {p : Prod} (hp : p ∈ g.prods) : p.right.length ≤ 16 := by
  have hr : RightG g := (right_iff g).1 (of_decide_eq_true h)
  obtain ⟨i, hi⟩ := List.getElem?_of_mem hp
  have hs := hr.prod i (List.getElem?_eq_some_iff.1 hi).1
  unfold prodD at hs
  rw [hi] at hs
  dsimp only at hs
  unfold prodErr at hs
  split at hs
  · cases hs
  · split at hs
    · cases hs
    · omega

end Go.Proofs.YtfmdmeokbbpmlaaGreat
