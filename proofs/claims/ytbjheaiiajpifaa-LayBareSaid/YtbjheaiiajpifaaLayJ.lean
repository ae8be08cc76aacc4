/-
  The walk of lay.Of's closure: the places of a part's leaves are put out, in order.
-/
import Derived.Test.YtbjheaiiajpifaaLayI
namespace Go.Proofs.Ytbjheaiiajpifaa.T
open Go.RowKit Go.Shelf

abbrev walkArgs (w : World) (m : Nat) (g : Gram) (t : List Node) (i : Nat) : Array Value := #[.int .i64 (i : Int), .agg #[.int .i64 (gapUp g t i i), .int .i64 (inUp g t i)], .pointer (some ⟨w.heap.size + 1, 0, none⟩), .pointer (some ⟨m, 0, none⟩), .pointer (some ⟨w.heap.size, 0, none⟩), .pointer (some ⟨m + 1, 0, none⟩)]
/-- What is known of a call of the walk. -/
def WalkOk (w : World) (m : Nat) (vt : Value) (gc : Array Value) (g : Gram) (t : List Node) (i : Nat) : Prop := ∀ (W : World) (vo : Value), WalkAt w m vt gc g t W vo i →
  Calls Try.prog 59 (walkArgs w m g t i) W fun r W' => r = .returned (.tuple #[]) ∧ ∃ vo', Hid (WalkAt w m vt gc g t W' vo' (i + sz t i)) ∧ Hid (Keeps (OutT m vo) W W') ∧ Hid (vo'.ownBlock = vo.ownBlock ∨ ∃ q, vo'.ownBlock = some q ∧ W.heap.size ≤ q)

set_option maxRecDepth 20000 in
set_option maxHeartbeats 8000000 in
/-- At a leaf one place is put out. -/
theorem walk_leaf (vt a' b' c' : Value) (g : Gram) (t : List Node) (w : World) (m : Nat) (h4 : t.length ≤ 100000) (hT : Tree t) (i : Nat) (hi : i < t.length) (hl : isText t i = true) (hN : Nds w (Old w) vt t) : WalkOk w m vt (gramCells a' b' c' g) g t i := by
  intro W vo HW
  obtain ⟨b, off, c, rfl, hc1, hc2, hTb, hat⟩ := (hN.old HW.below).open_ (by intro e; subst e; simp at hi)
  unfold maxLen at hc2
  have hx := List.getElem?_eq_getElem hi
  have hk : textedK t[i].kind := by unfold isText at hl; rw [hx] at hl; simpa using hl
  have hn := tree_node hT hi
  have hsz : sz t i = 1 := by
    obtain ⟨⟨z, hz, hlo⟩, _⟩ := (hT.good.2.2 i (Nat.zero_le _) (by have := tree_sz0 hT; omega)).1
    rw [hx] at hz
    cases hz
    have := hlo.2.2.2.1 (by rintro (h | h) <;> rcases hk with h' | h' <;> omega)
    omega
  obtain ⟨lv, x0, x1, x2, x3, x4, x5⟩ := hat i _ hx
  obtain ⟨A5, c5, rfl, _, _⟩ := x5.val
  have HA := hidden (places_leaf (g := g) hl)
  have hpl : (placesIn g t 0 i).length ≤ i := by have := placesIn_le (g := g) (t := t) (a := 0) (b := i); omega
  have HP : placeAt g t i = ⟨i, gapUp g t i i, inUp g t i⟩ := rfl
  unfold walkArgs
  rw [hsz]
  generalize gapUp g t i i = gp at *
  generalize inUp g t i = inn at *
  have h0 := HW.ht.cell 0
  have h1 := HW.ho.cell 0
  have h2 := HW.ho.frozen 0
  have hT0 := HW.ht.lt; have hO0 := HW.ho.lt
  have hbs := HW.size
  have hle := HW.le
  have HWh := hidden HW
  have hcs : t[i].kind = 3 ∨ t[i].kind = 4 := hk
  obtain ⟨A0, c0, rfl⟩ := HW.mine.value
  have hbb : b < W.heap.size := hTb
  have HM := hidden (fun o1 o2 => Mine.alloc (Mine.alloc HW.mine o1) o2)
  have HGr := hidden (fun (w' : World) o1 o2 => HW.grown (w' := w') o1 o2)
  have HPut := hidden (fun (w' : World) v' o1 o2 => HW.put (w' := w') (v' := v') hl o1 o2)
  have HPA : Hid (placeAt g t i = ⟨i, gp, inn⟩) := hidden HP
  clear hat hx hk hn hl x5 HW hsz hN HP HWh
  generalize hpi : placesIn g t 0 i = l0 at *
  clear hpi
  generalize t[i] = x at *
  rcases hcs with hk | hk
  · rw [hk] at x0
    have h0 : W.cell? ⟨w.heap.size + 1, 0, none⟩ = some (.slice (some ⟨b, off, none⟩) t.length c) := h0
    have h1 : W.cell? ⟨m, 0, none⟩ = some (.slice A0 l0.length c0) := h1
    go_enter Try.func59, Try.ntmps59
    go_wp2_with (at_builtin; refine wpList_append_pl rfl _ _ 61 82 82 rfl (by kernel_rfl) layPlace_info rfl (m + 2) _ l0 (hidden (HM.out _ _)) ⟨i, gp, inn⟩ rfl rfl rfl (by first | rfl | simp) (by omega) (by simp; omega) ?_; intro v' w' hM hb hK hO; obtain ⟨A9, c9, rfl⟩ := hM.out.value; have hB9 := HGr.out w' _ _ hK.out; have h1' : w'.cell? ⟨m, 0, none⟩ = some (.slice A0 l0.length c0) := hB9.cell 0; have h2' : w'.frozen? ⟨m, 0, none⟩ = false := hB9.frozen 0; have hB9' := hB9.lt; clear hB9)
    obtain ⟨e1, e2, e3⟩ := HPut.out w' _ _ _ hK.out hb (by rw [HPA.out]; exact hM.out) hO.out
    simp only [List.length_append, List.length_cons, List.length_nil, Nat.zero_add] at e1 e2 e3
    exact bodyPost_ret (v := .tuple #[]) (by simp [results, Try.results59, go_sem]) rfl ⟨rfl, _, hidden e1, hidden e2, hidden e3⟩
  · rw [hk] at x0
    have h0 : W.cell? ⟨w.heap.size + 1, 0, none⟩ = some (.slice (some ⟨b, off, none⟩) t.length c) := h0
    have h1 : W.cell? ⟨m, 0, none⟩ = some (.slice A0 l0.length c0) := h1
    go_enter Try.func59, Try.ntmps59
    go_wp2_with (at_builtin; refine wpList_append_pl rfl _ _ 61 82 82 rfl (by kernel_rfl) layPlace_info rfl (m + 2) _ l0 (hidden (HM.out _ _)) ⟨i, gp, inn⟩ rfl rfl rfl (by first | rfl | simp) (by omega) (by simp; omega) ?_; intro v' w' hM hb hK hO; obtain ⟨A9, c9, rfl⟩ := hM.out.value; have hB9 := HGr.out w' _ _ hK.out; have h1' : w'.cell? ⟨m, 0, none⟩ = some (.slice A0 l0.length c0) := hB9.cell 0; have h2' : w'.frozen? ⟨m, 0, none⟩ = false := hB9.frozen 0; have hB9' := hB9.lt; clear hB9)
    obtain ⟨e1, e2, e3⟩ := HPut.out w' _ _ _ hK.out hb (by rw [HPA.out]; exact hM.out) hO.out
    simp only [List.length_append, List.length_cons, List.length_nil, Nat.zero_add] at e1 e2 e3
    exact bodyPost_ret (v := .tuple #[]) (by simp [results, Try.results59, go_sem]) rfl ⟨rfl, _, hidden e1, hidden e2, hidden e3⟩
end Go.Proofs.Ytbjheaiiajpifaa.T
