/-
  law41.knows: the chapter's example.
-/
import Derived.Test.YtdbbjlphlbndkaaGreatFindKP
import Derived.Test.YtdbbjlphlbndkaaGreatLits
namespace Go.Proofs.YtdbbjlphlbndkaaGreat.T
open Go.RowKit Go.Shelf

theorem lit41 (W : World) (bt bs b1 b2 bp bn c2 : Nat) (A2 : Option Addr) (HA : Rd W (Old W) 5 (.slice A2 1 c2) 1 (rxCells rxA)) (h0 : Holds W bt 73 #[.string w41, .slice A2 1 c2, .int .i64 0]) (h1 : Holds W bs 9 #[.string d41, .string i41])
    (h2 : Holds W b1 77 #[.bool true, .int .i64 1, .int .i64 0, .int .i64 0]) (h3 : Holds W b2 77 #[.bool false, .int .i64 0, .int .i64 0, .int .i64 0])
    (h4 : Holds W bp 69 #[.int .i64 0, .slice (some ⟨b1, 0, none⟩) 1 1, .int .i64 1, .slice (some ⟨b2, 0, none⟩) 1 1])
    (h6 : Holds W bn 31 #[.int .i64 1, .int .i64 0, .int .i64 4, .slice none 0 0, .string ⟨#[]⟩, .int .i64 2, .int .i64 0, .int .i64 3, .slice none 0 0, .string ⟨#[]⟩, .int .i64 2, .int .i64 1, .int .i64 2, .slice none 0 0, .string ⟨#[]⟩, .int .i64 3, .int .i64 0, .int .i64 1, .slice none 0 0, .string a41]) :
    GramIs W (Old W) (.slice (some ⟨bt, 0, none⟩) 1 1) (.slice (some ⟨bs, 0, none⟩) 2 2) (.slice (some ⟨bp, 0, none⟩) 2 2) g41 ∧ Nds W (Old W) (.slice (some ⟨bn, 0, none⟩) 4 4) t41 := by
  refine ⟨⟨recs_lit [_] h0 h0.lt rfl rfl rfl rfl (by decide) ⟨HA, trivial⟩, rd_lit' h1 h1.lt rfl rfl (by decide), recs_lit [_, _] h4 h4.lt rfl rfl rfl rfl (by decide) ⟨rd_lit' h2 h2.lt rfl rfl (by decide), rd_lit' h3 h3.lt rfl rfl (by decide), trivial⟩⟩, ?_⟩
  refine ⟨[.slice none 0 0, .slice none 0 0, .slice none 0 0, .slice none 0 0], rfl, rd_lit' h6 h6.lt rfl rfl (by decide), fun i x l h1 h2 => ?_⟩
  have hi : i < 4 := (List.getElem?_eq_some_iff.1 h1).1
  have hc : i = 0 ∨ i = 1 ∨ i = 2 ∨ i = 3 := by omega
  rcases hc with rfl | rfl | rfl | rfl <;> (cases h1; cases h2; exact Rd.nil _ _ _)
theorem below_l {a w w' : World} {B : Nat} (h : Below B a w) (h2 : Below w.heap.size w w') (hB : B ≤ w.heap.size) : Below B a w' := h.trans (h2.mono hB)

set_option maxRecDepth 20000 in
set_option maxHeartbeats 4000000 in
theorem some41 (w : World) : Calls Tryz.prog 18 #[] w fun r w' => (∃ a b c v, r = .returned (.tuple #[.agg (gramCells a b c g41), v]) ∧ Hid (GramIs w' (Old w') a b c g41) ∧ Hid (Nds w' (Old w') v t41)) ∧ Below w.heap.size w w' := by
  have HA := hidden text_A
  have HZ := hidden (Holds.new w 26 #[.slice none 0 0, .slice none 0 0, .slice none 0 0, .int .i64 0, .int .i64 0, .int .i64 0, .int .i64 0, .int .i64 0])
  have hb := (Below.refl w.heap.size w).alloc (Nat.le_refl _) (.cells #[.slice none 0 0, .slice none 0 0, .slice none 0 0, .int .i64 0, .int .i64 0, .int .i64 0, .int .i64 0, .int .i64 0] 26)
  go_enter Tryz.func18, Tryz.ntmps18
  go_wp2_with fail
  refine (HA.out _).mono ?_
  rintro r w3 ⟨⟨u2, rfl, HF⟩, hb2⟩
  have HZ3 := HZ.out.below hb2 HZ.out.lt
  have hz2 := hb2.size
  have hbw := below_l hb hb2 hb.size
  simp only [World.size_alloc] at hz2
  have HR2 := hidden (Mine.rd HF.out (T := fun j => w.heap.size < j ∧ j < w3.heap.size) (fun q _ h h2 => by simp at h; omega))
  obtain ⟨A2, c2, rfl⟩ := HF.out.value
  have o0 : w3.cell? ⟨w.heap.size, 0, none⟩ = some (.slice none 0 0) := HZ3.cell 0
  have f0 := HZ3.frozen 0
  have o1 : w3.cell? ⟨w.heap.size, 1, none⟩ = some (.slice none 0 0) := HZ3.cell 1
  have f1 := HZ3.frozen 1
  have o2 : w3.cell? ⟨w.heap.size, 2, none⟩ = some (.slice none 0 0) := HZ3.cell 2
  have f2 := HZ3.frozen 2
  have o3 : w3.cell? ⟨w.heap.size, 3, none⟩ = some (.int .i64 0) := HZ3.cell 3
  have f3 := HZ3.frozen 3
  have o4 : w3.cell? ⟨w.heap.size, 4, none⟩ = some (.int .i64 0) := HZ3.cell 4
  have f4 := HZ3.frozen 4
  have o5 : w3.cell? ⟨w.heap.size, 5, none⟩ = some (.int .i64 0) := HZ3.cell 5
  have f5 := HZ3.frozen 5
  have o6 : w3.cell? ⟨w.heap.size, 6, none⟩ = some (.int .i64 0) := HZ3.cell 6
  have f6 := HZ3.frozen 6
  have o7 : w3.cell? ⟨w.heap.size, 7, none⟩ = some (.int .i64 0) := HZ3.cell 7
  have f7 := HZ3.frozen 7
  have hl := HZ3.lt
  have hl1 : w.heap.size < w3.heap.size + 1 := by omega
  have hl2 : w.heap.size < w3.heap.size + 1 + 1 := by omega
  have hl3 : w.heap.size < w3.heap.size + 1 + 1 + 1 := by omega
  have hl4 : w.heap.size < w3.heap.size + 1 + 1 + 1 + 1 := by omega
  have hl5 : w.heap.size < w3.heap.size + 1 + 1 + 1 + 1 + 1 := by omega
  have hl6 : w.heap.size < w3.heap.size + 1 + 1 + 1 + 1 + 1 + 1 := by omega
  have hl7 : w.heap.size < w3.heap.size + 1 + 1 + 1 + 1 + 1 + 1 + 1 := by omega
  clear HF hb hb2 HZ HZ3 HA
  have hold : ∀ k, w.heap.size < k ∧ k < w3.heap.size → Old ((((((((((((((((w3.setCell ⟨w.heap.size, 0, none⟩ (.slice (some ⟨w3.heap.size, 0, none⟩) 1 1)).setCell ⟨w.heap.size, 1, none⟩ (.slice (some ⟨w3.heap.size + 1, 0, none⟩) 2 2)).setCell ⟨w.heap.size, 2, none⟩ (.slice (some ⟨w3.heap.size + 1 + 1 + 1 + 1, 0, none⟩) 2 2)).setCell ⟨w.heap.size, 3, none⟩ (.int .i64 0)).setCell ⟨w.heap.size, 4, none⟩ (.int .i64 9)).setCell ⟨w.heap.size, 5, none⟩ (.int .i64 9)).setCell ⟨w.heap.size, 6, none⟩ (.int .i64 9)).setCell ⟨w.heap.size, 7, none⟩ (.int .i64 9)).alloc (.cells #[.string w41, .slice A2 1 c2, .int .i64 0] 73)).alloc (.cells #[.string d41, .string i41] 9)).alloc (.cells #[.bool true, .int .i64 1, .int .i64 0, .int .i64 0] 77)).alloc (.cells #[.bool false, .int .i64 0, .int .i64 0, .int .i64 0] 77)).alloc (.cells #[.int .i64 0, .slice (some ⟨w3.heap.size + 1 + 1, 0, none⟩) 1 1, .int .i64 1, .slice (some ⟨w3.heap.size + 1 + 1 + 1, 0, none⟩) 1 1] 69)).alloc (.cells #[.slice (some ⟨w3.heap.size, 0, none⟩) 1 1, .slice (some ⟨w3.heap.size + 1, 0, none⟩) 2 2, .slice (some ⟨w3.heap.size + 1 + 1 + 1 + 1, 0, none⟩) 2 2, .int .i64 0, .int .i64 9, .int .i64 9, .int .i64 9, .int .i64 9] 26)).alloc (.cells #[.int .i64 1, .int .i64 0, .int .i64 4, .slice none 0 0, .string ⟨#[]⟩, .int .i64 2, .int .i64 0, .int .i64 3, .slice none 0 0, .string ⟨#[]⟩, .int .i64 2, .int .i64 1, .int .i64 2, .slice none 0 0, .string ⟨#[]⟩, .int .i64 3, .int .i64 0, .int .i64 1, .slice none 0 0, .string a41] 31))) k := fun k hk => by simp [Old]; omega
  have hR2 : Rd ((((((((((((((((w3.setCell ⟨w.heap.size, 0, none⟩ (.slice (some ⟨w3.heap.size, 0, none⟩) 1 1)).setCell ⟨w.heap.size, 1, none⟩ (.slice (some ⟨w3.heap.size + 1, 0, none⟩) 2 2)).setCell ⟨w.heap.size, 2, none⟩ (.slice (some ⟨w3.heap.size + 1 + 1 + 1 + 1, 0, none⟩) 2 2)).setCell ⟨w.heap.size, 3, none⟩ (.int .i64 0)).setCell ⟨w.heap.size, 4, none⟩ (.int .i64 9)).setCell ⟨w.heap.size, 5, none⟩ (.int .i64 9)).setCell ⟨w.heap.size, 6, none⟩ (.int .i64 9)).setCell ⟨w.heap.size, 7, none⟩ (.int .i64 9)).alloc (.cells #[.string w41, .slice A2 1 c2, .int .i64 0] 73)).alloc (.cells #[.string d41, .string i41] 9)).alloc (.cells #[.bool true, .int .i64 1, .int .i64 0, .int .i64 0] 77)).alloc (.cells #[.bool false, .int .i64 0, .int .i64 0, .int .i64 0] 77)).alloc (.cells #[.int .i64 0, .slice (some ⟨w3.heap.size + 1 + 1, 0, none⟩) 1 1, .int .i64 1, .slice (some ⟨w3.heap.size + 1 + 1 + 1, 0, none⟩) 1 1] 69)).alloc (.cells #[.slice (some ⟨w3.heap.size, 0, none⟩) 1 1, .slice (some ⟨w3.heap.size + 1, 0, none⟩) 2 2, .slice (some ⟨w3.heap.size + 1 + 1 + 1 + 1, 0, none⟩) 2 2, .int .i64 0, .int .i64 9, .int .i64 9, .int .i64 9, .int .i64 9] 26)).alloc (.cells #[.int .i64 1, .int .i64 0, .int .i64 4, .slice none 0 0, .string ⟨#[]⟩, .int .i64 2, .int .i64 0, .int .i64 3, .slice none 0 0, .string ⟨#[]⟩, .int .i64 2, .int .i64 1, .int .i64 2, .slice none 0 0, .string ⟨#[]⟩, .int .i64 3, .int .i64 0, .int .i64 1, .slice none 0 0, .string a41] 31))) (Old ((((((((((((((((w3.setCell ⟨w.heap.size, 0, none⟩ (.slice (some ⟨w3.heap.size, 0, none⟩) 1 1)).setCell ⟨w.heap.size, 1, none⟩ (.slice (some ⟨w3.heap.size + 1, 0, none⟩) 2 2)).setCell ⟨w.heap.size, 2, none⟩ (.slice (some ⟨w3.heap.size + 1 + 1 + 1 + 1, 0, none⟩) 2 2)).setCell ⟨w.heap.size, 3, none⟩ (.int .i64 0)).setCell ⟨w.heap.size, 4, none⟩ (.int .i64 9)).setCell ⟨w.heap.size, 5, none⟩ (.int .i64 9)).setCell ⟨w.heap.size, 6, none⟩ (.int .i64 9)).setCell ⟨w.heap.size, 7, none⟩ (.int .i64 9)).alloc (.cells #[.string w41, .slice A2 1 c2, .int .i64 0] 73)).alloc (.cells #[.string d41, .string i41] 9)).alloc (.cells #[.bool true, .int .i64 1, .int .i64 0, .int .i64 0] 77)).alloc (.cells #[.bool false, .int .i64 0, .int .i64 0, .int .i64 0] 77)).alloc (.cells #[.int .i64 0, .slice (some ⟨w3.heap.size + 1 + 1, 0, none⟩) 1 1, .int .i64 1, .slice (some ⟨w3.heap.size + 1 + 1 + 1, 0, none⟩) 1 1] 69)).alloc (.cells #[.slice (some ⟨w3.heap.size, 0, none⟩) 1 1, .slice (some ⟨w3.heap.size + 1, 0, none⟩) 2 2, .slice (some ⟨w3.heap.size + 1 + 1 + 1 + 1, 0, none⟩) 2 2, .int .i64 0, .int .i64 9, .int .i64 9, .int .i64 9, .int .i64 9] 26)).alloc (.cells #[.int .i64 1, .int .i64 0, .int .i64 4, .slice none 0 0, .string ⟨#[]⟩, .int .i64 2, .int .i64 0, .int .i64 3, .slice none 0 0, .string ⟨#[]⟩, .int .i64 2, .int .i64 1, .int .i64 2, .slice none 0 0, .string ⟨#[]⟩, .int .i64 3, .int .i64 0, .int .i64 1, .slice none 0 0, .string a41] 31)))) 5 (.slice A2 1 c2) 1 (rxCells rxA) := Rd.mono (Rd.alloc (Rd.alloc (Rd.alloc (Rd.alloc (Rd.alloc (Rd.alloc (Rd.alloc (Rd.set (Rd.set (Rd.set (Rd.set (Rd.set (Rd.set (Rd.set (Rd.set (HR2.out) (p := ⟨w.heap.size, 0, none⟩) (by dsimp only; omega) _) (p := ⟨w.heap.size, 1, none⟩) (by dsimp only; omega) _) (p := ⟨w.heap.size, 2, none⟩) (by dsimp only; omega) _) (p := ⟨w.heap.size, 3, none⟩) (by dsimp only; omega) _) (p := ⟨w.heap.size, 4, none⟩) (by dsimp only; omega) _) (p := ⟨w.heap.size, 5, none⟩) (by dsimp only; omega) _) (p := ⟨w.heap.size, 6, none⟩) (by dsimp only; omega) _) (p := ⟨w.heap.size, 7, none⟩) (by dsimp only; omega) _) _) _) _) _) _) _) _) hold
  have h0 : Holds ((((((((((((((((w3.setCell ⟨w.heap.size, 0, none⟩ (.slice (some ⟨w3.heap.size, 0, none⟩) 1 1)).setCell ⟨w.heap.size, 1, none⟩ (.slice (some ⟨w3.heap.size + 1, 0, none⟩) 2 2)).setCell ⟨w.heap.size, 2, none⟩ (.slice (some ⟨w3.heap.size + 1 + 1 + 1 + 1, 0, none⟩) 2 2)).setCell ⟨w.heap.size, 3, none⟩ (.int .i64 0)).setCell ⟨w.heap.size, 4, none⟩ (.int .i64 9)).setCell ⟨w.heap.size, 5, none⟩ (.int .i64 9)).setCell ⟨w.heap.size, 6, none⟩ (.int .i64 9)).setCell ⟨w.heap.size, 7, none⟩ (.int .i64 9)).alloc (.cells #[.string w41, .slice A2 1 c2, .int .i64 0] 73)).alloc (.cells #[.string d41, .string i41] 9)).alloc (.cells #[.bool true, .int .i64 1, .int .i64 0, .int .i64 0] 77)).alloc (.cells #[.bool false, .int .i64 0, .int .i64 0, .int .i64 0] 77)).alloc (.cells #[.int .i64 0, .slice (some ⟨w3.heap.size + 1 + 1, 0, none⟩) 1 1, .int .i64 1, .slice (some ⟨w3.heap.size + 1 + 1 + 1, 0, none⟩) 1 1] 69)).alloc (.cells #[.slice (some ⟨w3.heap.size, 0, none⟩) 1 1, .slice (some ⟨w3.heap.size + 1, 0, none⟩) 2 2, .slice (some ⟨w3.heap.size + 1 + 1 + 1 + 1, 0, none⟩) 2 2, .int .i64 0, .int .i64 9, .int .i64 9, .int .i64 9, .int .i64 9] 26)).alloc (.cells #[.int .i64 1, .int .i64 0, .int .i64 4, .slice none 0 0, .string ⟨#[]⟩, .int .i64 2, .int .i64 0, .int .i64 3, .slice none 0 0, .string ⟨#[]⟩, .int .i64 2, .int .i64 1, .int .i64 2, .slice none 0 0, .string ⟨#[]⟩, .int .i64 3, .int .i64 0, .int .i64 1, .slice none 0 0, .string a41] 31))) (w3.heap.size) 73 #[.string w41, .slice A2 1 c2, .int .i64 0] := ((((((Holds.new_at (by simp)).alloc _).alloc _).alloc _).alloc _).alloc _).alloc _
  have h1 : Holds ((((((((((((((((w3.setCell ⟨w.heap.size, 0, none⟩ (.slice (some ⟨w3.heap.size, 0, none⟩) 1 1)).setCell ⟨w.heap.size, 1, none⟩ (.slice (some ⟨w3.heap.size + 1, 0, none⟩) 2 2)).setCell ⟨w.heap.size, 2, none⟩ (.slice (some ⟨w3.heap.size + 1 + 1 + 1 + 1, 0, none⟩) 2 2)).setCell ⟨w.heap.size, 3, none⟩ (.int .i64 0)).setCell ⟨w.heap.size, 4, none⟩ (.int .i64 9)).setCell ⟨w.heap.size, 5, none⟩ (.int .i64 9)).setCell ⟨w.heap.size, 6, none⟩ (.int .i64 9)).setCell ⟨w.heap.size, 7, none⟩ (.int .i64 9)).alloc (.cells #[.string w41, .slice A2 1 c2, .int .i64 0] 73)).alloc (.cells #[.string d41, .string i41] 9)).alloc (.cells #[.bool true, .int .i64 1, .int .i64 0, .int .i64 0] 77)).alloc (.cells #[.bool false, .int .i64 0, .int .i64 0, .int .i64 0] 77)).alloc (.cells #[.int .i64 0, .slice (some ⟨w3.heap.size + 1 + 1, 0, none⟩) 1 1, .int .i64 1, .slice (some ⟨w3.heap.size + 1 + 1 + 1, 0, none⟩) 1 1] 69)).alloc (.cells #[.slice (some ⟨w3.heap.size, 0, none⟩) 1 1, .slice (some ⟨w3.heap.size + 1, 0, none⟩) 2 2, .slice (some ⟨w3.heap.size + 1 + 1 + 1 + 1, 0, none⟩) 2 2, .int .i64 0, .int .i64 9, .int .i64 9, .int .i64 9, .int .i64 9] 26)).alloc (.cells #[.int .i64 1, .int .i64 0, .int .i64 4, .slice none 0 0, .string ⟨#[]⟩, .int .i64 2, .int .i64 0, .int .i64 3, .slice none 0 0, .string ⟨#[]⟩, .int .i64 2, .int .i64 1, .int .i64 2, .slice none 0 0, .string ⟨#[]⟩, .int .i64 3, .int .i64 0, .int .i64 1, .slice none 0 0, .string a41] 31))) (w3.heap.size + 1) 9 #[.string d41, .string i41] := (((((Holds.new_at (by simp)).alloc _).alloc _).alloc _).alloc _).alloc _
  have h2 : Holds ((((((((((((((((w3.setCell ⟨w.heap.size, 0, none⟩ (.slice (some ⟨w3.heap.size, 0, none⟩) 1 1)).setCell ⟨w.heap.size, 1, none⟩ (.slice (some ⟨w3.heap.size + 1, 0, none⟩) 2 2)).setCell ⟨w.heap.size, 2, none⟩ (.slice (some ⟨w3.heap.size + 1 + 1 + 1 + 1, 0, none⟩) 2 2)).setCell ⟨w.heap.size, 3, none⟩ (.int .i64 0)).setCell ⟨w.heap.size, 4, none⟩ (.int .i64 9)).setCell ⟨w.heap.size, 5, none⟩ (.int .i64 9)).setCell ⟨w.heap.size, 6, none⟩ (.int .i64 9)).setCell ⟨w.heap.size, 7, none⟩ (.int .i64 9)).alloc (.cells #[.string w41, .slice A2 1 c2, .int .i64 0] 73)).alloc (.cells #[.string d41, .string i41] 9)).alloc (.cells #[.bool true, .int .i64 1, .int .i64 0, .int .i64 0] 77)).alloc (.cells #[.bool false, .int .i64 0, .int .i64 0, .int .i64 0] 77)).alloc (.cells #[.int .i64 0, .slice (some ⟨w3.heap.size + 1 + 1, 0, none⟩) 1 1, .int .i64 1, .slice (some ⟨w3.heap.size + 1 + 1 + 1, 0, none⟩) 1 1] 69)).alloc (.cells #[.slice (some ⟨w3.heap.size, 0, none⟩) 1 1, .slice (some ⟨w3.heap.size + 1, 0, none⟩) 2 2, .slice (some ⟨w3.heap.size + 1 + 1 + 1 + 1, 0, none⟩) 2 2, .int .i64 0, .int .i64 9, .int .i64 9, .int .i64 9, .int .i64 9] 26)).alloc (.cells #[.int .i64 1, .int .i64 0, .int .i64 4, .slice none 0 0, .string ⟨#[]⟩, .int .i64 2, .int .i64 0, .int .i64 3, .slice none 0 0, .string ⟨#[]⟩, .int .i64 2, .int .i64 1, .int .i64 2, .slice none 0 0, .string ⟨#[]⟩, .int .i64 3, .int .i64 0, .int .i64 1, .slice none 0 0, .string a41] 31))) (w3.heap.size + 1 + 1) 77 #[.bool true, .int .i64 1, .int .i64 0, .int .i64 0] := ((((Holds.new_at (by simp)).alloc _).alloc _).alloc _).alloc _
  have h3 : Holds ((((((((((((((((w3.setCell ⟨w.heap.size, 0, none⟩ (.slice (some ⟨w3.heap.size, 0, none⟩) 1 1)).setCell ⟨w.heap.size, 1, none⟩ (.slice (some ⟨w3.heap.size + 1, 0, none⟩) 2 2)).setCell ⟨w.heap.size, 2, none⟩ (.slice (some ⟨w3.heap.size + 1 + 1 + 1 + 1, 0, none⟩) 2 2)).setCell ⟨w.heap.size, 3, none⟩ (.int .i64 0)).setCell ⟨w.heap.size, 4, none⟩ (.int .i64 9)).setCell ⟨w.heap.size, 5, none⟩ (.int .i64 9)).setCell ⟨w.heap.size, 6, none⟩ (.int .i64 9)).setCell ⟨w.heap.size, 7, none⟩ (.int .i64 9)).alloc (.cells #[.string w41, .slice A2 1 c2, .int .i64 0] 73)).alloc (.cells #[.string d41, .string i41] 9)).alloc (.cells #[.bool true, .int .i64 1, .int .i64 0, .int .i64 0] 77)).alloc (.cells #[.bool false, .int .i64 0, .int .i64 0, .int .i64 0] 77)).alloc (.cells #[.int .i64 0, .slice (some ⟨w3.heap.size + 1 + 1, 0, none⟩) 1 1, .int .i64 1, .slice (some ⟨w3.heap.size + 1 + 1 + 1, 0, none⟩) 1 1] 69)).alloc (.cells #[.slice (some ⟨w3.heap.size, 0, none⟩) 1 1, .slice (some ⟨w3.heap.size + 1, 0, none⟩) 2 2, .slice (some ⟨w3.heap.size + 1 + 1 + 1 + 1, 0, none⟩) 2 2, .int .i64 0, .int .i64 9, .int .i64 9, .int .i64 9, .int .i64 9] 26)).alloc (.cells #[.int .i64 1, .int .i64 0, .int .i64 4, .slice none 0 0, .string ⟨#[]⟩, .int .i64 2, .int .i64 0, .int .i64 3, .slice none 0 0, .string ⟨#[]⟩, .int .i64 2, .int .i64 1, .int .i64 2, .slice none 0 0, .string ⟨#[]⟩, .int .i64 3, .int .i64 0, .int .i64 1, .slice none 0 0, .string a41] 31))) (w3.heap.size + 1 + 1 + 1) 77 #[.bool false, .int .i64 0, .int .i64 0, .int .i64 0] := (((Holds.new_at (by simp)).alloc _).alloc _).alloc _
  have h4 : Holds ((((((((((((((((w3.setCell ⟨w.heap.size, 0, none⟩ (.slice (some ⟨w3.heap.size, 0, none⟩) 1 1)).setCell ⟨w.heap.size, 1, none⟩ (.slice (some ⟨w3.heap.size + 1, 0, none⟩) 2 2)).setCell ⟨w.heap.size, 2, none⟩ (.slice (some ⟨w3.heap.size + 1 + 1 + 1 + 1, 0, none⟩) 2 2)).setCell ⟨w.heap.size, 3, none⟩ (.int .i64 0)).setCell ⟨w.heap.size, 4, none⟩ (.int .i64 9)).setCell ⟨w.heap.size, 5, none⟩ (.int .i64 9)).setCell ⟨w.heap.size, 6, none⟩ (.int .i64 9)).setCell ⟨w.heap.size, 7, none⟩ (.int .i64 9)).alloc (.cells #[.string w41, .slice A2 1 c2, .int .i64 0] 73)).alloc (.cells #[.string d41, .string i41] 9)).alloc (.cells #[.bool true, .int .i64 1, .int .i64 0, .int .i64 0] 77)).alloc (.cells #[.bool false, .int .i64 0, .int .i64 0, .int .i64 0] 77)).alloc (.cells #[.int .i64 0, .slice (some ⟨w3.heap.size + 1 + 1, 0, none⟩) 1 1, .int .i64 1, .slice (some ⟨w3.heap.size + 1 + 1 + 1, 0, none⟩) 1 1] 69)).alloc (.cells #[.slice (some ⟨w3.heap.size, 0, none⟩) 1 1, .slice (some ⟨w3.heap.size + 1, 0, none⟩) 2 2, .slice (some ⟨w3.heap.size + 1 + 1 + 1 + 1, 0, none⟩) 2 2, .int .i64 0, .int .i64 9, .int .i64 9, .int .i64 9, .int .i64 9] 26)).alloc (.cells #[.int .i64 1, .int .i64 0, .int .i64 4, .slice none 0 0, .string ⟨#[]⟩, .int .i64 2, .int .i64 0, .int .i64 3, .slice none 0 0, .string ⟨#[]⟩, .int .i64 2, .int .i64 1, .int .i64 2, .slice none 0 0, .string ⟨#[]⟩, .int .i64 3, .int .i64 0, .int .i64 1, .slice none 0 0, .string a41] 31))) (w3.heap.size + 1 + 1 + 1 + 1) 69 #[.int .i64 0, .slice (some ⟨w3.heap.size + 1 + 1, 0, none⟩) 1 1, .int .i64 1, .slice (some ⟨w3.heap.size + 1 + 1 + 1, 0, none⟩) 1 1] := ((Holds.new_at (by simp)).alloc _).alloc _
  have h6 : Holds ((((((((((((((((w3.setCell ⟨w.heap.size, 0, none⟩ (.slice (some ⟨w3.heap.size, 0, none⟩) 1 1)).setCell ⟨w.heap.size, 1, none⟩ (.slice (some ⟨w3.heap.size + 1, 0, none⟩) 2 2)).setCell ⟨w.heap.size, 2, none⟩ (.slice (some ⟨w3.heap.size + 1 + 1 + 1 + 1, 0, none⟩) 2 2)).setCell ⟨w.heap.size, 3, none⟩ (.int .i64 0)).setCell ⟨w.heap.size, 4, none⟩ (.int .i64 9)).setCell ⟨w.heap.size, 5, none⟩ (.int .i64 9)).setCell ⟨w.heap.size, 6, none⟩ (.int .i64 9)).setCell ⟨w.heap.size, 7, none⟩ (.int .i64 9)).alloc (.cells #[.string w41, .slice A2 1 c2, .int .i64 0] 73)).alloc (.cells #[.string d41, .string i41] 9)).alloc (.cells #[.bool true, .int .i64 1, .int .i64 0, .int .i64 0] 77)).alloc (.cells #[.bool false, .int .i64 0, .int .i64 0, .int .i64 0] 77)).alloc (.cells #[.int .i64 0, .slice (some ⟨w3.heap.size + 1 + 1, 0, none⟩) 1 1, .int .i64 1, .slice (some ⟨w3.heap.size + 1 + 1 + 1, 0, none⟩) 1 1] 69)).alloc (.cells #[.slice (some ⟨w3.heap.size, 0, none⟩) 1 1, .slice (some ⟨w3.heap.size + 1, 0, none⟩) 2 2, .slice (some ⟨w3.heap.size + 1 + 1 + 1 + 1, 0, none⟩) 2 2, .int .i64 0, .int .i64 9, .int .i64 9, .int .i64 9, .int .i64 9] 26)).alloc (.cells #[.int .i64 1, .int .i64 0, .int .i64 4, .slice none 0 0, .string ⟨#[]⟩, .int .i64 2, .int .i64 0, .int .i64 3, .slice none 0 0, .string ⟨#[]⟩, .int .i64 2, .int .i64 1, .int .i64 2, .slice none 0 0, .string ⟨#[]⟩, .int .i64 3, .int .i64 0, .int .i64 1, .slice none 0 0, .string a41] 31))) (w3.heap.size + 1 + 1 + 1 + 1 + 1 + 1) 31 #[.int .i64 1, .int .i64 0, .int .i64 4, .slice none 0 0, .string ⟨#[]⟩, .int .i64 2, .int .i64 0, .int .i64 3, .slice none 0 0, .string ⟨#[]⟩, .int .i64 2, .int .i64 1, .int .i64 2, .slice none 0 0, .string ⟨#[]⟩, .int .i64 3, .int .i64 0, .int .i64 1, .slice none 0 0, .string a41] := Holds.new_at (by simp)
  have HLt := hidden (lit41 ((((((((((((((((w3.setCell ⟨w.heap.size, 0, none⟩ (.slice (some ⟨w3.heap.size, 0, none⟩) 1 1)).setCell ⟨w.heap.size, 1, none⟩ (.slice (some ⟨w3.heap.size + 1, 0, none⟩) 2 2)).setCell ⟨w.heap.size, 2, none⟩ (.slice (some ⟨w3.heap.size + 1 + 1 + 1 + 1, 0, none⟩) 2 2)).setCell ⟨w.heap.size, 3, none⟩ (.int .i64 0)).setCell ⟨w.heap.size, 4, none⟩ (.int .i64 9)).setCell ⟨w.heap.size, 5, none⟩ (.int .i64 9)).setCell ⟨w.heap.size, 6, none⟩ (.int .i64 9)).setCell ⟨w.heap.size, 7, none⟩ (.int .i64 9)).alloc (.cells #[.string w41, .slice A2 1 c2, .int .i64 0] 73)).alloc (.cells #[.string d41, .string i41] 9)).alloc (.cells #[.bool true, .int .i64 1, .int .i64 0, .int .i64 0] 77)).alloc (.cells #[.bool false, .int .i64 0, .int .i64 0, .int .i64 0] 77)).alloc (.cells #[.int .i64 0, .slice (some ⟨w3.heap.size + 1 + 1, 0, none⟩) 1 1, .int .i64 1, .slice (some ⟨w3.heap.size + 1 + 1 + 1, 0, none⟩) 1 1] 69)).alloc (.cells #[.slice (some ⟨w3.heap.size, 0, none⟩) 1 1, .slice (some ⟨w3.heap.size + 1, 0, none⟩) 2 2, .slice (some ⟨w3.heap.size + 1 + 1 + 1 + 1, 0, none⟩) 2 2, .int .i64 0, .int .i64 9, .int .i64 9, .int .i64 9, .int .i64 9] 26)).alloc (.cells #[.int .i64 1, .int .i64 0, .int .i64 4, .slice none 0 0, .string ⟨#[]⟩, .int .i64 2, .int .i64 0, .int .i64 3, .slice none 0 0, .string ⟨#[]⟩, .int .i64 2, .int .i64 1, .int .i64 2, .slice none 0 0, .string ⟨#[]⟩, .int .i64 3, .int .i64 0, .int .i64 1, .slice none 0 0, .string a41] 31))) _ _ _ _ _ _ _ _ hR2 h0 h1 h2 h3 h4 h6)
  clear hR2 hold h0 h1 h2 h3 h4 h6
  go_wp2
  refine bodyPost_ret (v := .tuple #[.agg #[.slice (some ⟨w3.heap.size, 0, none⟩) 1 1, .slice (some ⟨w3.heap.size + 1, 0, none⟩) 2 2, .slice (some ⟨w3.heap.size + 1 + 1 + 1 + 1, 0, none⟩) 2 2, .int .i64 0, .int .i64 9, .int .i64 9, .int .i64 9, .int .i64 9], .slice (some ⟨w3.heap.size + 1 + 1 + 1 + 1 + 1 + 1, 0, none⟩) 4 4]) (by simp [results, Tryz.results18, go_sem, o0, o1, o2, o3, o4, o5, o6, o7, hl, hl1, hl2, hl3, hl4, hl5, hl6]) rfl ⟨⟨_, _, _, _, rfl, hidden HLt.out.1, hidden HLt.out.2⟩, (by repeat (first | (with_reducible exact Below.refl _ _) | (with_reducible assumption) | (with_reducible refine Below.drew ?_) | (with_reducible refine below_drewN ?_ _) | ((with_reducible refine below_alloc ?_ ?_); (focus (first | omega | (simp; done) | (simp; omega)))) | ((with_reducible refine below_set ?_ ?_); (focus (first | omega | (simp; done) | (simp; omega))))))⟩

set_option maxRecDepth 20000 in
set_option maxHeartbeats 4000000 in
theorem knows41 (w : World) : Calls Tryz.prog 6 #[] w fun r w' => r = .returned (.bool true) ∧ Below w.heap.size w w' := by
  have HS := hidden (some41 w)
  go_enter Tryz.func6, Tryz.ntmps6
  go_wp2_with fail
  refine HS.out.mono ?_
  rintro r w2 ⟨⟨a, b, c, v, rfl, HG, HN⟩, hb⟩
  have hb1 := (Below.refl w2.heap.size w2).alloc (Nat.le_refl _) (.cells (gramCells a b c g41) 26)
  have HB1 := hidden (Holds.new w2 26 (gramCells a b c g41))
  have hbw := below_l hb hb1 hb.size
  have HO := hidden (fun (w' : World) (h : Below w2.heap.size w2 w') => find_Of a b c v g41 t41 sel41 w' (HG.out.old h) small41 (by decide) (by decide) (HN.out.old h))
  have HT := hidden (fun (w' : World) (h : Below w2.heap.size w2 w') => find_Texts a b c v g41 t41 doc41 w' (HG.out.old h) small41 (by decide) bulk41 (by decide) (HN.out.old h) (fun _ i hi => by rw [span41 i hi, text41]; decide))
  have HC1 := hidden (fun (w' : World) (h : Below w2.heap.size w2 w') => find_Check a b c g41 s41 w' (HG.out.old h) small41 (by decide))
  have HC2 := hidden (fun (w' : World) (h : Below w2.heap.size w2 w') => find_Check a b c g41 x41 w' (HG.out.old h) small41 (by decide))
  rw [err41, row41] at HO
  rw [errD, texts41] at HT
  rw [checkS] at HC1
  rw [checkX] at HC2
  obtain ⟨A1, k1, rfl, _, _⟩ := HG.out.1.value
  obtain ⟨A2, k2, rfl, _, _⟩ := HG.out.2.1.val
  obtain ⟨A3, k3, rfl, _, _⟩ := HG.out.2.2.value
  obtain ⟨A, c', rfl, _, _⟩ := HN.out.value
  clear HG HN hb HS
  unfold gramCells at *
  go_upto_region 2 with fail
  generalize (w2.alloc (.cells #[.slice A1 g41.toks.length k1, .slice A2 g41.rules.length k2, .slice A3 g41.prods.length k3, .int .i64 g41.start, .int .i64 g41.states, .int .i64 g41.text, .int .i64 g41.nodes, .int .i64 g41.pairs] 26)) = w1 at *
  have x0 := HB1.out.cell 0; have x1 := HB1.out.cell 1; have x2 := HB1.out.cell 2; have x3 := HB1.out.cell 3
  have x4 := HB1.out.cell 4; have x5 := HB1.out.cell 5; have x6 := HB1.out.cell 6; have x7 := HB1.out.cell 7
  have HO1 := hidden (HO.out _ hb1)
  clear HO
  go_wp2_with fail
  refine HO1.out.mono ?_
  rintro r w3 ⟨⟨u, rfl, HM⟩, hb3⟩
  replace HB1 := hidden (HB1.out.below hb3 HB1.out.lt)
  replace hbw := below_l hbw hb3 hbw.size
  replace hb1 := below_l hb1 hb3 hb1.size
  clear x0 x1 x2 x3 x4 x5 x6 x7 HO1 hb3
  have HR := hidden (ints_rd HM.out)
  obtain ⟨A4, c4, rfl⟩ := HM.out.value
  have x0 := HB1.out.cell 0; have x1 := HB1.out.cell 1; have x2 := HB1.out.cell 2; have x3 := HB1.out.cell 3
  have x4 := HB1.out.cell 4; have x5 := HB1.out.cell 5; have x6 := HB1.out.cell 6; have x7 := HB1.out.cell 7
  have HT1 := hidden (HT.out _ hb1)
  clear HT HM
  go_wp2_with fail
  refine HT1.out.mono ?_
  rintro r w4 ⟨⟨u5, rfl, HM⟩, hb4⟩
  replace HB1 := hidden (HB1.out.below hb4 HB1.out.lt)
  replace hbw := below_l hbw hb4 hbw.size
  replace hb1 := below_l hb1 hb4 hb1.size
  replace HR := hidden (Rd.old HR.out hb4)
  clear x0 x1 x2 x3 x4 x5 x6 x7 HT1 hb4
  have HQ := hidden (StrsM.rd HM.out)
  obtain ⟨A5, c5, rfl⟩ := HM.out.value
  clear HM
  have x0 := HB1.out.cell 0; have x1 := HB1.out.cell 1; have x2 := HB1.out.cell 2; have x3 := HB1.out.cell 3
  have x4 := HB1.out.cell 4; have x5 := HB1.out.cell 5; have x6 := HB1.out.cell 6; have x7 := HB1.out.cell 7
  have hn5 := HB1.out.lt
  have HS1 := hidden (same_ints _ (.slice (some ⟨w4.heap.size, 0, none⟩) 1 1) [3] [3] (w4.alloc (.cells #[.int .i64 3] 3)) (by decide) (Rd.old HR.out ((Below.refl _ _).alloc (Nat.le_refl _) _)) (rd_lit' (Holds.new w4 3 #[.int .i64 3]) (by simp [Old]) rfl rfl (by decide)))
  rw [show decide ([3] = [3]) = true from rfl] at HS1
  have hbA : Below w4.heap.size w4 (w4.alloc (.cells #[.int .i64 3] 3)) := (Below.refl _ _).alloc (Nat.le_refl _) _
  go_wp2_with fail
  refine HS1.out.mono ?_
  rintro r w5 ⟨rfl, hb5⟩
  have hb45 := below_l hbA hb5 hbA.size
  replace HB1 := hidden (HB1.out.below hb45 HB1.out.lt)
  replace hbw := below_l hbw hb45 hbw.size
  replace hb1 := below_l hb1 hb45 hb1.size
  replace HQ := hidden (Rd.old HQ.out hb45)
  clear x0 x1 x2 x3 x4 x5 x6 x7 HS1 hb5 hbA hb45 hn5
  have x0 := HB1.out.cell 0; have x1 := HB1.out.cell 1; have x2 := HB1.out.cell 2; have x3 := HB1.out.cell 3
  have x4 := HB1.out.cell 4; have x5 := HB1.out.cell 5; have x6 := HB1.out.cell 6; have x7 := HB1.out.cell 7
  have hn5 := HB1.out.lt
  have HS1 := hidden (same_strs _ (.slice (some ⟨w5.heap.size, 0, none⟩) 1 1) [a41] [a41] (w5.alloc (.cells #[.string a41] 9)) (Rd.old HQ.out ((Below.refl _ _).alloc (Nat.le_refl _) _)) (rd_lit' (Holds.new w5 9 #[.string a41]) (by simp [Old]) rfl rfl (by decide)))
  rw [show eqB [a41] [a41] = true from by unfold eqB; simp] at HS1
  have hbA : Below w5.heap.size w5 (w5.alloc (.cells #[.string a41] 9)) := (Below.refl _ _).alloc (Nat.le_refl _) _
  go_wp2_with fail
  refine HS1.out.mono ?_
  rintro r w6 ⟨rfl, hb5⟩
  have hb45 := below_l hbA hb5 hbA.size
  replace HB1 := hidden (HB1.out.below hb45 HB1.out.lt)
  replace hbw := below_l hbw hb45 hbw.size
  replace hb1 := below_l hb1 hb45 hb1.size
  clear x0 x1 x2 x3 x4 x5 x6 x7 HS1 hb5 hbA hb45 hn5
  have x0 := HB1.out.cell 0; have x1 := HB1.out.cell 1; have x2 := HB1.out.cell 2; have x3 := HB1.out.cell 3
  have x4 := HB1.out.cell 4; have x5 := HB1.out.cell 5; have x6 := HB1.out.cell 6; have x7 := HB1.out.cell 7
  have HS1 := hidden (HC1.out _ hb1)
  go_wp2_with fail
  refine HS1.out.mono ?_
  rintro r w7 ⟨rfl, hb5⟩
  replace HB1 := hidden (HB1.out.below hb5 HB1.out.lt)
  replace hbw := below_l hbw hb5 hbw.size
  replace hb1 := below_l hb1 hb5 hb1.size
  clear x0 x1 x2 x3 x4 x5 x6 x7 HS1 hb5 HC1
  have x0 := HB1.out.cell 0; have x1 := HB1.out.cell 1; have x2 := HB1.out.cell 2; have x3 := HB1.out.cell 3
  have x4 := HB1.out.cell 4; have x5 := HB1.out.cell 5; have x6 := HB1.out.cell 6; have x7 := HB1.out.cell 7
  have HS1 := hidden (HC2.out _ hb1)
  go_wp2_with fail
  refine HS1.out.mono ?_
  rintro r w8 ⟨rfl, hb5⟩
  replace hbw := below_l hbw hb5 hbw.size
  clear x0 x1 x2 x3 x4 x5 x6 x7 HS1 hb5 HC2 HB1
  go_wp2
  go_ret
  exact ⟨rfl, hbw⟩
end Go.Proofs.YtdbbjlphlbndkaaGreat.T
