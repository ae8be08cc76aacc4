/-
  The chapter's example: its grammar, its least part.
-/
import Derived.Test.YtmmhkjdnejeooaaDeriveL
import Derived.Test.YtmmhkjdnejeooaaDeriveE
import Derived.Test.YtmmhkjdnejeooaaLitTx
import Derived.Test.YtmmhkjdnejeooaaGramC
namespace Go.Proofs.Ytmmhkjdnejeooaa.T
open Go.RowKit Go.Shelf

abbrev a30 : ByteArray := ⟨#[97]⟩
abbrev s30 : ByteArray := ⟨#[115]⟩
def g30 : Gram := ⟨[⟨a30, [rxA], 0⟩], [s30], [⟨0, [⟨false, 0, 0, 0⟩, ⟨true, 0, 0, 0⟩]⟩, ⟨0, []⟩], 0, 9, 9, 9, 9⟩
def t30 : List Node := [⟨2, 1, 1, [], ⟨#[]⟩⟩]
theorem g30_right : rightB g30 = true := rightC_right (by kernel_rfl)
theorem small30 : Small g30 := ⟨by decide, by decide, by decide, by intro s h; simp [allNames, tokNames, g30] at h; rcases h with rfl | rfl <;> decide⟩
theorem prods30 : ∀ p ∈ g30.prods, p.right.length ≤ 4398046511104 := by decide
theorem reach30 : ReachS g30.prods g30.rules.length [1] := ⟨1, by decide⟩
theorem settled30 : Settled g30.prods [1] := by unfold Settled; decide
theorem by30 : byD g30.prods [1] = [1] := by decide
theorem ok30 : PartOk g30.prods (byD g30.prods [1]) 1 (itR 0) := by
  rw [by30]
  exact .inr ⟨0, 1, ⟨0, []⟩, rfl, rfl, rfl, rfl, by decide, fun z hz => (List.not_mem_nil hz).elim, by decide⟩
theorem short30 : shortF g30 [1] 1 0 = t30 := by
  unfold shortF
  rw [if_pos ⟨g30_right, by decide, by decide, by rw [by30]; decide, by decide⟩, by30]
  rfl
theorem t30_tree : Tree t30 := by
  have s0 : sz t30 0 = 1 := rfl
  refine ⟨⟨_, rfl, rfl⟩, by rw [s0]; decide, by rw [s0]; decide, fun m _ hm => ?_⟩
  rw [s0] at hm ⊢
  obtain rfl : m = 0 := by omega
  refine ⟨⟨⟨_, rfl, ?_⟩, fun k h1 h2 => ?_⟩, by rw [s0]; decide⟩
  · unfold Local openK textedK
    dsimp only
    exact ⟨by omega, by omega, by omega, fun h' => rfl, fun _ => ⟨rfl, rfl⟩⟩
  · rw [s0] at h2; omega
theorem kids30 : kidsL t30 0 = [] := by
  unfold kidsL
  rw [show sz t30 0 = 1 from rfl]
  exact kidsFrom_ge (by decide)
theorem fits30_0 : fitsD g30 t30 0 = true := by
  unfold fitsD
  show (if (2 : Int) = 1 then _ else _) = true
  rw [if_neg (by decide), if_pos rfl, kids30]
  rfl
theorem wrong30 : wrongAll g30 t30 = -1 := wrong_none (fun k hk => by
  have : k = 0 := by have h : t30.length = 1 := rfl; omega
  subst this; exact fits30_0)
theorem part30 : partD g30 t30 (itR 0) = true := by
  unfold partD
  rw [g30_right, treeB_iff.2 t30_tree, wrong30]
  have h1 : ofAt g30 t30 0 (itR 0) = true := by
    unfold ofAt
    show ofD g30 ⟨2, 1, 1, [], ⟨#[]⟩⟩ (itR 0) = true
    unfold ofD
    rw [if_pos (show (itR 0).rule = true from rfl), ruleD_made (n := 1) rfl rfl rfl]
    rfl
  have h2 : decide (∀ i, i < t30.length → outAt t30 i = false) = true := decide_eq_true (fun i hi => by
    have : i = 0 := by have h : t30.length = 1 := rfl; omega
    subst this; rfl)
  rw [h1, h2]
  rfl
theorem fits30 : fitsB g30 t30 = false := by
  unfold fitsB wrongD
  rw [if_pos g30_right, if_neg (fun h => by have := h.2; cases this)]
  simp
theorem rule30 : ruleOf g30 ⟨2, 1, 1, [], ⟨#[]⟩⟩ = 0 := by
  unfold ruleOf
  rw [if_pos g30_right, ruleD_made (n := 1) rfl rfl rfl]

theorem lit30 (W : World) (bt bs b1 bp c2 : Nat) (A2 : Option Addr) (HA : Rd W (Old W) 5 (.slice A2 1 c2) 1 (rxCells rxA)) (h0 : Holds W bt 69 #[.string a30, .slice A2 1 c2, .int .i64 0]) (h1 : Holds W bs 9 #[.string s30])
    (h2 : Holds W b1 30 #[.bool false, .int .i64 0, .int .i64 0, .int .i64 0, .bool true, .int .i64 0, .int .i64 0, .int .i64 0]) (h4 : Holds W bp 56 #[.int .i64 0, .slice (some ⟨b1, 0, none⟩) 2 2, .int .i64 0, .slice none 0 0]) :
    GramIs W (Old W) (.slice (some ⟨bt, 0, none⟩) 1 1) (.slice (some ⟨bs, 0, none⟩) 1 1) (.slice (some ⟨bp, 0, none⟩) 2 2) g30 :=
  ⟨recs_lit [_] h0 h0.lt rfl rfl rfl rfl (by decide) ⟨HA, trivial⟩, rd_lit' h1 h1.lt rfl rfl (by decide), recs_lit [_, _] h4 h4.lt rfl rfl rfl rfl (by decide) ⟨rd_lit' h2 h2.lt rfl rfl (by decide), Rd.nil _ _ _, trivial⟩⟩
theorem below_l {a w w' : World} {B : Nat} (h : Below B a w) (h2 : Below w.heap.size w w') (hB : B ≤ w.heap.size) : Below B a w' := h.trans (h2.mono hB)

set_option maxRecDepth 20000 in
set_option maxHeartbeats 4000000 in
theorem some30 (w : World) : Calls Try.prog 22 #[] w fun r w' => (∃ a b c, r = .returned (.agg (gramCells a b c g30)) ∧ Hid (GramIs w' (Old w') a b c g30)) ∧ Below w.heap.size w w' := by
  have HA := hidden text_A
  have HZ := hidden (Holds.new w 26 #[.slice none 0 0, .slice none 0 0, .slice none 0 0, .int .i64 0, .int .i64 0, .int .i64 0, .int .i64 0, .int .i64 0])
  have hb := (Below.refl w.heap.size w).alloc (Nat.le_refl _) (.cells #[.slice none 0 0, .slice none 0 0, .slice none 0 0, .int .i64 0, .int .i64 0, .int .i64 0, .int .i64 0, .int .i64 0] 26)
  go_enter Try.func22, Try.ntmps22
  go_wp2_with fail
  refine (HA.out _).mono ?_
  rintro r w3 ⟨⟨u2, rfl, HF⟩, hb2⟩
  have HZ3 := HZ.out.below hb2 HZ.out.lt
  have hz2 := hb2.size
  have hbw := below_l hb hb2 hb.size
  simp only [World.size_alloc] at hz2
  have HR2 := hidden (Mine.rd HF.out (T := fun j => w.heap.size < j ∧ j < w3.heap.size) (fun q _ h h2 => by simp at h; omega))
  obtain ⟨A2, c2, rfl⟩ := HF.out.value
  have o0 : w3.cell? ⟨w.heap.size, 0, none⟩ = some (.slice none 0 0) := HZ3.cell 0
  have f0 := HZ3.frozen 0
  have o1 : w3.cell? ⟨w.heap.size, 1, none⟩ = some (.slice none 0 0) := HZ3.cell 1
  have f1 := HZ3.frozen 1
  have o2 : w3.cell? ⟨w.heap.size, 2, none⟩ = some (.slice none 0 0) := HZ3.cell 2
  have f2 := HZ3.frozen 2
  have o3 : w3.cell? ⟨w.heap.size, 3, none⟩ = some (.int .i64 0) := HZ3.cell 3
  have f3 := HZ3.frozen 3
  have o4 : w3.cell? ⟨w.heap.size, 4, none⟩ = some (.int .i64 0) := HZ3.cell 4
  have f4 := HZ3.frozen 4
  have o5 : w3.cell? ⟨w.heap.size, 5, none⟩ = some (.int .i64 0) := HZ3.cell 5
  have f5 := HZ3.frozen 5
  have o6 : w3.cell? ⟨w.heap.size, 6, none⟩ = some (.int .i64 0) := HZ3.cell 6
  have f6 := HZ3.frozen 6
  have o7 : w3.cell? ⟨w.heap.size, 7, none⟩ = some (.int .i64 0) := HZ3.cell 7
  have f7 := HZ3.frozen 7
  have hl := HZ3.lt
  have hl1 : w.heap.size < w3.heap.size + 1 := by omega
  have hl2 : w.heap.size < w3.heap.size + 1 + 1 := by omega
  have hl3 : w.heap.size < w3.heap.size + 1 + 1 + 1 := by omega
  clear HF hb hb2 HZ HZ3 HA
  have hold : ∀ k, w.heap.size < k ∧ k < w3.heap.size → Old (((((((((((((w3.setCell ⟨w.heap.size, 0, none⟩ (.slice (some ⟨w3.heap.size, 0, none⟩) 1 1)).setCell ⟨w.heap.size, 1, none⟩ (.slice (some ⟨w3.heap.size + 1, 0, none⟩) 1 1)).setCell ⟨w.heap.size, 2, none⟩ (.slice (some ⟨w3.heap.size + 1 + 1 + 1, 0, none⟩) 2 2)).setCell ⟨w.heap.size, 3, none⟩ (.int .i64 0)).setCell ⟨w.heap.size, 4, none⟩ (.int .i64 9)).setCell ⟨w.heap.size, 5, none⟩ (.int .i64 9)).setCell ⟨w.heap.size, 6, none⟩ (.int .i64 9)).setCell ⟨w.heap.size, 7, none⟩ (.int .i64 9)).alloc (.cells #[.string a30, .slice A2 1 c2, .int .i64 0] 69)).alloc (.cells #[.string s30] 9)).alloc (.cells #[.bool false, .int .i64 0, .int .i64 0, .int .i64 0, .bool true, .int .i64 0, .int .i64 0, .int .i64 0] 30)).alloc (.cells #[.int .i64 0, .slice (some ⟨w3.heap.size + 1 + 1, 0, none⟩) 2 2, .int .i64 0, .slice none 0 0] 56))) k := fun k hk => by simp [Old]; omega
  have hR2 : Rd (((((((((((((w3.setCell ⟨w.heap.size, 0, none⟩ (.slice (some ⟨w3.heap.size, 0, none⟩) 1 1)).setCell ⟨w.heap.size, 1, none⟩ (.slice (some ⟨w3.heap.size + 1, 0, none⟩) 1 1)).setCell ⟨w.heap.size, 2, none⟩ (.slice (some ⟨w3.heap.size + 1 + 1 + 1, 0, none⟩) 2 2)).setCell ⟨w.heap.size, 3, none⟩ (.int .i64 0)).setCell ⟨w.heap.size, 4, none⟩ (.int .i64 9)).setCell ⟨w.heap.size, 5, none⟩ (.int .i64 9)).setCell ⟨w.heap.size, 6, none⟩ (.int .i64 9)).setCell ⟨w.heap.size, 7, none⟩ (.int .i64 9)).alloc (.cells #[.string a30, .slice A2 1 c2, .int .i64 0] 69)).alloc (.cells #[.string s30] 9)).alloc (.cells #[.bool false, .int .i64 0, .int .i64 0, .int .i64 0, .bool true, .int .i64 0, .int .i64 0, .int .i64 0] 30)).alloc (.cells #[.int .i64 0, .slice (some ⟨w3.heap.size + 1 + 1, 0, none⟩) 2 2, .int .i64 0, .slice none 0 0] 56))) (Old (((((((((((((w3.setCell ⟨w.heap.size, 0, none⟩ (.slice (some ⟨w3.heap.size, 0, none⟩) 1 1)).setCell ⟨w.heap.size, 1, none⟩ (.slice (some ⟨w3.heap.size + 1, 0, none⟩) 1 1)).setCell ⟨w.heap.size, 2, none⟩ (.slice (some ⟨w3.heap.size + 1 + 1 + 1, 0, none⟩) 2 2)).setCell ⟨w.heap.size, 3, none⟩ (.int .i64 0)).setCell ⟨w.heap.size, 4, none⟩ (.int .i64 9)).setCell ⟨w.heap.size, 5, none⟩ (.int .i64 9)).setCell ⟨w.heap.size, 6, none⟩ (.int .i64 9)).setCell ⟨w.heap.size, 7, none⟩ (.int .i64 9)).alloc (.cells #[.string a30, .slice A2 1 c2, .int .i64 0] 69)).alloc (.cells #[.string s30] 9)).alloc (.cells #[.bool false, .int .i64 0, .int .i64 0, .int .i64 0, .bool true, .int .i64 0, .int .i64 0, .int .i64 0] 30)).alloc (.cells #[.int .i64 0, .slice (some ⟨w3.heap.size + 1 + 1, 0, none⟩) 2 2, .int .i64 0, .slice none 0 0] 56)))) 5 (.slice A2 1 c2) 1 (rxCells rxA) := Rd.mono (Rd.alloc (Rd.alloc (Rd.alloc (Rd.alloc (Rd.set (Rd.set (Rd.set (Rd.set (Rd.set (Rd.set (Rd.set (Rd.set (HR2.out) (p := ⟨w.heap.size, 0, none⟩) (by dsimp only; omega) _) (p := ⟨w.heap.size, 1, none⟩) (by dsimp only; omega) _) (p := ⟨w.heap.size, 2, none⟩) (by dsimp only; omega) _) (p := ⟨w.heap.size, 3, none⟩) (by dsimp only; omega) _) (p := ⟨w.heap.size, 4, none⟩) (by dsimp only; omega) _) (p := ⟨w.heap.size, 5, none⟩) (by dsimp only; omega) _) (p := ⟨w.heap.size, 6, none⟩) (by dsimp only; omega) _) (p := ⟨w.heap.size, 7, none⟩) (by dsimp only; omega) _) _) _) _) _) hold
  have h0 : Holds (((((((((((((w3.setCell ⟨w.heap.size, 0, none⟩ (.slice (some ⟨w3.heap.size, 0, none⟩) 1 1)).setCell ⟨w.heap.size, 1, none⟩ (.slice (some ⟨w3.heap.size + 1, 0, none⟩) 1 1)).setCell ⟨w.heap.size, 2, none⟩ (.slice (some ⟨w3.heap.size + 1 + 1 + 1, 0, none⟩) 2 2)).setCell ⟨w.heap.size, 3, none⟩ (.int .i64 0)).setCell ⟨w.heap.size, 4, none⟩ (.int .i64 9)).setCell ⟨w.heap.size, 5, none⟩ (.int .i64 9)).setCell ⟨w.heap.size, 6, none⟩ (.int .i64 9)).setCell ⟨w.heap.size, 7, none⟩ (.int .i64 9)).alloc (.cells #[.string a30, .slice A2 1 c2, .int .i64 0] 69)).alloc (.cells #[.string s30] 9)).alloc (.cells #[.bool false, .int .i64 0, .int .i64 0, .int .i64 0, .bool true, .int .i64 0, .int .i64 0, .int .i64 0] 30)).alloc (.cells #[.int .i64 0, .slice (some ⟨w3.heap.size + 1 + 1, 0, none⟩) 2 2, .int .i64 0, .slice none 0 0] 56))) (w3.heap.size) 69 #[.string a30, .slice A2 1 c2, .int .i64 0] := (((Holds.new_at (by simp)).alloc _).alloc _).alloc _
  have h1 : Holds (((((((((((((w3.setCell ⟨w.heap.size, 0, none⟩ (.slice (some ⟨w3.heap.size, 0, none⟩) 1 1)).setCell ⟨w.heap.size, 1, none⟩ (.slice (some ⟨w3.heap.size + 1, 0, none⟩) 1 1)).setCell ⟨w.heap.size, 2, none⟩ (.slice (some ⟨w3.heap.size + 1 + 1 + 1, 0, none⟩) 2 2)).setCell ⟨w.heap.size, 3, none⟩ (.int .i64 0)).setCell ⟨w.heap.size, 4, none⟩ (.int .i64 9)).setCell ⟨w.heap.size, 5, none⟩ (.int .i64 9)).setCell ⟨w.heap.size, 6, none⟩ (.int .i64 9)).setCell ⟨w.heap.size, 7, none⟩ (.int .i64 9)).alloc (.cells #[.string a30, .slice A2 1 c2, .int .i64 0] 69)).alloc (.cells #[.string s30] 9)).alloc (.cells #[.bool false, .int .i64 0, .int .i64 0, .int .i64 0, .bool true, .int .i64 0, .int .i64 0, .int .i64 0] 30)).alloc (.cells #[.int .i64 0, .slice (some ⟨w3.heap.size + 1 + 1, 0, none⟩) 2 2, .int .i64 0, .slice none 0 0] 56))) (w3.heap.size + 1) 9 #[.string s30] := ((Holds.new_at (by simp)).alloc _).alloc _
  have h2 : Holds (((((((((((((w3.setCell ⟨w.heap.size, 0, none⟩ (.slice (some ⟨w3.heap.size, 0, none⟩) 1 1)).setCell ⟨w.heap.size, 1, none⟩ (.slice (some ⟨w3.heap.size + 1, 0, none⟩) 1 1)).setCell ⟨w.heap.size, 2, none⟩ (.slice (some ⟨w3.heap.size + 1 + 1 + 1, 0, none⟩) 2 2)).setCell ⟨w.heap.size, 3, none⟩ (.int .i64 0)).setCell ⟨w.heap.size, 4, none⟩ (.int .i64 9)).setCell ⟨w.heap.size, 5, none⟩ (.int .i64 9)).setCell ⟨w.heap.size, 6, none⟩ (.int .i64 9)).setCell ⟨w.heap.size, 7, none⟩ (.int .i64 9)).alloc (.cells #[.string a30, .slice A2 1 c2, .int .i64 0] 69)).alloc (.cells #[.string s30] 9)).alloc (.cells #[.bool false, .int .i64 0, .int .i64 0, .int .i64 0, .bool true, .int .i64 0, .int .i64 0, .int .i64 0] 30)).alloc (.cells #[.int .i64 0, .slice (some ⟨w3.heap.size + 1 + 1, 0, none⟩) 2 2, .int .i64 0, .slice none 0 0] 56))) (w3.heap.size + 1 + 1) 30 #[.bool false, .int .i64 0, .int .i64 0, .int .i64 0, .bool true, .int .i64 0, .int .i64 0, .int .i64 0] := (Holds.new_at (by simp)).alloc _
  have h3 : Holds (((((((((((((w3.setCell ⟨w.heap.size, 0, none⟩ (.slice (some ⟨w3.heap.size, 0, none⟩) 1 1)).setCell ⟨w.heap.size, 1, none⟩ (.slice (some ⟨w3.heap.size + 1, 0, none⟩) 1 1)).setCell ⟨w.heap.size, 2, none⟩ (.slice (some ⟨w3.heap.size + 1 + 1 + 1, 0, none⟩) 2 2)).setCell ⟨w.heap.size, 3, none⟩ (.int .i64 0)).setCell ⟨w.heap.size, 4, none⟩ (.int .i64 9)).setCell ⟨w.heap.size, 5, none⟩ (.int .i64 9)).setCell ⟨w.heap.size, 6, none⟩ (.int .i64 9)).setCell ⟨w.heap.size, 7, none⟩ (.int .i64 9)).alloc (.cells #[.string a30, .slice A2 1 c2, .int .i64 0] 69)).alloc (.cells #[.string s30] 9)).alloc (.cells #[.bool false, .int .i64 0, .int .i64 0, .int .i64 0, .bool true, .int .i64 0, .int .i64 0, .int .i64 0] 30)).alloc (.cells #[.int .i64 0, .slice (some ⟨w3.heap.size + 1 + 1, 0, none⟩) 2 2, .int .i64 0, .slice none 0 0] 56))) (w3.heap.size + 1 + 1 + 1) 56 #[.int .i64 0, .slice (some ⟨w3.heap.size + 1 + 1, 0, none⟩) 2 2, .int .i64 0, .slice none 0 0] := Holds.new_at (by simp)
  have HLt := hidden (lit30 (((((((((((((w3.setCell ⟨w.heap.size, 0, none⟩ (.slice (some ⟨w3.heap.size, 0, none⟩) 1 1)).setCell ⟨w.heap.size, 1, none⟩ (.slice (some ⟨w3.heap.size + 1, 0, none⟩) 1 1)).setCell ⟨w.heap.size, 2, none⟩ (.slice (some ⟨w3.heap.size + 1 + 1 + 1, 0, none⟩) 2 2)).setCell ⟨w.heap.size, 3, none⟩ (.int .i64 0)).setCell ⟨w.heap.size, 4, none⟩ (.int .i64 9)).setCell ⟨w.heap.size, 5, none⟩ (.int .i64 9)).setCell ⟨w.heap.size, 6, none⟩ (.int .i64 9)).setCell ⟨w.heap.size, 7, none⟩ (.int .i64 9)).alloc (.cells #[.string a30, .slice A2 1 c2, .int .i64 0] 69)).alloc (.cells #[.string s30] 9)).alloc (.cells #[.bool false, .int .i64 0, .int .i64 0, .int .i64 0, .bool true, .int .i64 0, .int .i64 0, .int .i64 0] 30)).alloc (.cells #[.int .i64 0, .slice (some ⟨w3.heap.size + 1 + 1, 0, none⟩) 2 2, .int .i64 0, .slice none 0 0] 56))) _ _ _ _ _ _ hR2 h0 h1 h2 h3)
  clear hR2 hold h0 h1 h2 h3
  go_wp2
  refine bodyPost_ret (v := .agg #[.slice (some ⟨w3.heap.size, 0, none⟩) 1 1, .slice (some ⟨w3.heap.size + 1, 0, none⟩) 1 1, .slice (some ⟨w3.heap.size + 1 + 1 + 1, 0, none⟩) 2 2, .int .i64 0, .int .i64 9, .int .i64 9, .int .i64 9, .int .i64 9]) (by simp [results, Try.results22, go_sem, o0, o1, o2, o3, o4, o5, o6, o7, hl, hl1, hl2, hl3]) rfl ⟨⟨_, _, _, rfl, hidden HLt.out⟩, (by repeat (first | (with_reducible exact Below.refl _ _) | (with_reducible assumption) | (with_reducible refine Below.drew ?_) | (with_reducible refine below_drewN ?_ _) | ((with_reducible refine below_alloc ?_ ?_); (focus (first | omega | (simp; done) | (simp; omega)))) | ((with_reducible refine below_set ?_ ?_); (focus (first | omega | (simp; done) | (simp; omega))))))⟩
end Go.Proofs.Ytmmhkjdnejeooaa.T
