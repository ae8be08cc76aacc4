/-
  Grammars as texts, plainly.
-/
import Derived.Test.YtfmdmeokbbpmlaaGreatC7
namespace Go.Proofs.YtfmdmeokbbpmlaaGreat
open Go.RowKit Go.Shelf

/-- An expression's text, if it is right. -/
noncomputable def showR (l : List Rx) : ByteArray := open Classical in if h : rxErr l = 0 ∧ ∃ t, l = post t then bs (tex h.2.choose) else bs []
theorem showR_post (t : RxT) (h : (post t).length ≤ 512) : showR (post t) = bs (tex t) := by
  unfold showR
  have hp : rxErr (post t) = 0 ∧ ∃ u, post t = post u := ⟨tree_right t h, t, rfl⟩
  rw [dif_pos hp]
  rw [tex_post _ _ hp.2.choose_spec.symm]
theorem showR_bad {l : List Rx} (h : rxErr l ≠ 0) : showR l = bs [] := by
  unfold showR
  rw [dif_neg (fun k => h k.1)]
theorem ref_Show_r (v : Value) (l : List Rx) (w : World) (h : Rd w (Old w) 5 v l.length (l.flatMap rxCells)) (hw : ∀ x ∈ l, Wordy x) :
    Calls Tryz.prog 36 #[v] w fun r w' => r = .returned (.string (showR l)) ∧ Below w.heap.size w w' := by
  by_cases he : rxErr l = 0
  · obtain ⟨h5, t, rfl⟩ := right_tree hw he
    rw [showR_post t h5]
    exact ref_Show08 v t w h he h5
  · rw [showR_bad he]
    exact ref_Show08_bad v l w h he
theorem showR_size (l : List Rx) : (showR l).size ≤ 2000000 := by
  by_cases he : rxErr l = 0
  · unfold showR
    split
    · rename_i h
      have h1 := h.2.choose_spec
      rw [bs_size]
      have h2 := tex_len h.2.choose
      have h3 := (err_run he).1
      rw [h1] at h3
      omega
    · rw [bs_size]; decide
  · rw [showR_bad he, bs_size]; decide
/-- The words of classes, the signs of gaps. -/
def clsW (c : Int) : ByteArray := if c = 0 then ⟨#[116, 111, 107, 101, 110]⟩ else if c = 1 then ⟨#[98, 108, 97, 110, 107]⟩ else if c = 2 then ⟨#[110, 111, 116, 101]⟩ else ⟨#[108, 105, 110, 101]⟩
def gapW (c : Int) : ByteArray := if c = 0 then ⟨#[]⟩ else if c = 1 then ⟨#[126]⟩ else ⟨#[33]⟩
def spB : ByteArray := ⟨#[32]⟩
noncomputable def tokOk (t : Token) : Bool := nameB t.name && (decide (rxErr t.rex = 0) && (decide (0 ≤ t.cls) && decide (t.cls ≤ 3)))
/-- A token as a line. -/
noncomputable def tokT (t : Token) : ByteArray := if tokOk t = true then clsW t.cls ++ spB ++ t.name ++ spB ++ showR t.rex else ByteArray.empty
/-- An item's name; the empty text: it has none. -/
def nameOf (g : Gram) (x : Item) : ByteArray :=
  if x.n < 0 then ByteArray.empty else if x.rule = true then (g.rules[x.n.toNat]?).getD ByteArray.empty else ((g.toks[x.n.toNat]?).map (·.name)).getD ByteArray.empty
def itemOk (g : Gram) (x : Item) : Bool := !(nameOf g x == ByteArray.empty) && (decide (0 ≤ x.gap) && (decide (x.gap ≤ 2) && (decide (0 ≤ x.in_) && decide (x.in_ ≤ 8))))
def inW (x : Item) : ByteArray := if 0 < x.in_ then (⟨#[43]⟩ : ByteArray) ++ ⟨(showI x.in_).toArray⟩ else ByteArray.empty
/-- An item as a word, of a grammar that is right. -/
def itemT (g : Gram) (x : Item) : ByteArray := if itemOk g x = true then gapW x.gap ++ (nameOf g x ++ inW x) else ByteArray.empty
end Go.Proofs.YtfmdmeokbbpmlaaGreat
