/-
  lang.New, and the grammar of what it makes.
-/
import Derived.Test.YtbjheaiiajpifaaLangO
namespace Go.Proofs.Ytbjheaiiajpifaa
open Go.RowKit Go.Shelf

/-- What is made of a grammar lies at block q. -/
def LangAt (w : World) (q : Nat) (g : Gram) : Prop := q < w.heap.size ∧ ∃ a b c, (∀ i u, (gramCells a b c g)[i]? = some u → w.cell? ⟨q, i, none⟩ = some u) ∧ GramIs w (Old w) a b c g
theorem GramIs.later {w w' : World} {a b c : Value} {g : Gram} (h : GramIs w (Old w) a b c g) (hb : Below w.heap.size w w') : GramIs w' (Old w') a b c g := ⟨h.1.old hb, h.2.1.old hb, h.2.2.old hb⟩
theorem GramIs.mono {w : World} {T T' : Nat → Prop} {a b c : Value} {g : Gram} (h : GramIs w T a b c g) (hT : ∀ k, T k → T' k) : GramIs w T' a b c g := ⟨h.1.mono hT, h.2.1.mono hT, h.2.2.mono hT⟩
theorem LangAt.below {w w' : World} {q : Nat} {g : Gram} (h : LangAt w q g) (hb : Below w.heap.size w w') : LangAt w' q g := by
  obtain ⟨hq, a, b, c, h1, h2⟩ := h
  exact ⟨Nat.lt_of_lt_of_le hq hb.size, a, b, c, fun i u hu => (hb.cell (p := ⟨q, i, none⟩) hq).trans (h1 i u hu), h2.later hb⟩
/-- The grammar without anything. -/
def zeroG : Gram := ⟨[], [], [], 0, 0, 0, 0, 0⟩
/-- v is none, or what is made of the grammar. -/
def LangV (w : World) (v : Value) (g : Gram) : Prop := (v = .pointer none ∧ g = zeroG) ∨ ∃ q, v = .pointer (some ⟨q, 0, none⟩) ∧ LangAt w q g
theorem LangV.below {w w' : World} {v : Value} {g : Gram} (h : LangV w v g) (hb : Below w.heap.size w w') : LangV w' v g := by
  rcases h with h | ⟨q, rfl, h⟩
  · exact .inl h
  · exact .inr ⟨q, rfl, h.below hb⟩
theorem gram_nil (w : World) (T : Nat → Prop) : GramIs w T (.slice none 0 0) (.slice none 0 0) (.slice none 0 0) zeroG :=
  ⟨⟨[], rfl, Rd.nil _ _ _, fun i x l h => by simp [zeroG] at h⟩, Rd.nil _ _ _, ⟨[], rfl, Rd.nil _ _ _, fun i x l h => by simp [zeroG] at h⟩⟩

set_option maxRecDepth 20000 in
set_option maxHeartbeats 8000000 in
theorem lang_New (a b c : Value) (g : Gram) (w : World) (HG : GramIs w (Old w) a b c g) (hC : Copied g) :
    Calls Try.prog 13 #[.agg (gramCells a b c g)] w fun r w' => (∃ v, r = .returned v ∧ Hid (LangV w' v g)) ∧ Below w.heap.size w w' := by
  have HO := hidden (fun (w' : World) (hb : Below w.heap.size w w') => lang_owned a b c g (Old w') w' (HG.later hb) (fun _ h => h) hC)
  obtain ⟨A1, k1, rfl, v1, m1⟩ := HG.1.value
  obtain ⟨A2, k2, rfl, v2, m2⟩ := HG.2.1.val
  obtain ⟨A3, k3, rfl, v3, m3⟩ := HG.2.2.value
  have hb0 : Below w.heap.size w (w.alloc (.cells (gramCells (.slice A1 g.toks.length k1) (.slice A2 g.rules.length k2) (.slice A3 g.prods.length k3) g) 26)) := by unfold gramCells; exact (by repeat (first | (with_reducible exact Below.refl _ _) | (with_reducible assumption) | (with_reducible refine Below.drew ?_) | (with_reducible refine below_drewN ?_ _) | ((with_reducible refine below_alloc ?_ ?_); (focus (first | omega | (simp; done) | (simp; omega)))) | ((with_reducible refine below_set ?_ ?_); (focus (first | omega | (simp; done) | (simp; omega))))))
  clear HG
  unfold gramCells at hb0 HO ⊢
  go_enter Try.func13, Try.ntmps13
  go_wp2_with fail
  refine (HO.out _ hb0).mono ?_
  rintro r w1 ⟨⟨a', b', c', rfl, HG0⟩, hb1⟩
  have HG : Hid (GramIs w1 (Old w1) a' b' c' g) := hidden (HG0.out.mono (fun k hk => hk.1))
  clear HG0
  have hb := hb0.trans (hb1.mono hb0.size)
  clear HO hb0 hb1
  go_wp2
  go_ret
  refine ⟨⟨_, rfl, hidden (.inr ⟨_, rfl, by simp, a', b', c', fun i u hu => ?_, HG.out.later ((Below.refl _ _).alloc (Nat.le_refl _) _)⟩)⟩, hb.alloc hb.size _⟩
  rw [(Holds.new w1 _ _).cell i, ← hu]
  have hsz : 8 ≤ Try.zeroCells113.size := by decide
  have hi : i < 8 := (Array.getElem?_eq_some_iff.1 hu).1
  obtain rfl | rfl | rfl | rfl | rfl | rfl | rfl | rfl : i = 0 ∨ i = 1 ∨ i = 2 ∨ i = 3 ∨ i = 4 ∨ i = 5 ∨ i = 6 ∨ i = 7 := by omega
  all_goals
    simp only [Array.getElem?_setIfInBounds, Array.size_setIfInBounds, gramCells]
    simp
    try omega

set_option maxRecDepth 20000 in
set_option maxHeartbeats 8000000 in
theorem lang_Grammar (v : Value) (g : Gram) (w : World) (HL : LangV w v g) (hC : Copied g) :
    Calls Try.prog 77 #[v] w fun r w' => (∃ a' b' c', r = .returned (.agg (gramCells a' b' c' g)) ∧ Hid (GramIs w' (Old w') a' b' c' g)) ∧ Below w.heap.size w w' := by
  rcases HL with ⟨rfl, rfl⟩ | ⟨q, rfl, hq, a, b, c, h1, h2⟩
  · unfold gramCells
    go_enter Try.func77, Try.ntmps77
    go_wp2
    exact bodyPost_ret (v := .agg #[.slice none 0 0, .slice none 0 0, .slice none 0 0, .int .i64 0, .int .i64 0, .int .i64 0, .int .i64 0, .int .i64 0]) (by simp [results, Try.results77, go_sem]) rfl ⟨⟨_, _, _, rfl, hidden (gram_nil _ _)⟩, (by repeat (first | (with_reducible exact Below.refl _ _) | (with_reducible assumption) | (with_reducible refine Below.drew ?_) | (with_reducible refine below_drewN ?_ _) | ((with_reducible refine below_alloc ?_ ?_); (focus (first | omega | (simp; done) | (simp; omega)))) | ((with_reducible refine below_set ?_ ?_); (focus (first | omega | (simp; done) | (simp; omega))))))⟩
  · have HO := hidden (fun (w' : World) (hb : Below w.heap.size w w') => lang_owned a b c g (Old w) w' ⟨h2.1.below hb (fun _ h => h), Rd.below h2.2.1 hb (fun _ h => h), h2.2.2.below hb (fun _ h => h)⟩ (fun k hk => Nat.lt_of_lt_of_le hk hb.size) hC)
    have hb0 : Below w.heap.size w (w.alloc (.cells #[.slice none 0 0, .slice none 0 0, .slice none 0 0, .int .i64 0, .int .i64 0, .int .i64 0, .int .i64 0, .int .i64 0] 26)) := (by repeat (first | (with_reducible exact Below.refl _ _) | (with_reducible assumption) | (with_reducible refine Below.drew ?_) | (with_reducible refine below_drewN ?_ _) | ((with_reducible refine below_alloc ?_ ?_); (focus (first | omega | (simp; done) | (simp; omega)))) | ((with_reducible refine below_set ?_ ?_); (focus (first | omega | (simp; done) | (simp; omega))))))
    have B0 := hidden (Holds.new w 26 #[.slice none 0 0, .slice none 0 0, .slice none 0 0, .int .i64 0, .int .i64 0, .int .i64 0, .int .i64 0, .int .i64 0])
    unfold gramCells at h1 HO ⊢
    have z0 : w.cell? ⟨q, 0, none⟩ = some (a) := h1 0 _ rfl
    have z1 : w.cell? ⟨q, 1, none⟩ = some (b) := h1 1 _ rfl
    have z2 : w.cell? ⟨q, 2, none⟩ = some (c) := h1 2 _ rfl
    have z3 : w.cell? ⟨q, 3, none⟩ = some (.int .i64 g.start) := h1 3 _ rfl
    have z4 : w.cell? ⟨q, 4, none⟩ = some (.int .i64 g.states) := h1 4 _ rfl
    have z5 : w.cell? ⟨q, 5, none⟩ = some (.int .i64 g.text) := h1 5 _ rfl
    have z6 : w.cell? ⟨q, 6, none⟩ = some (.int .i64 g.nodes) := h1 6 _ rfl
    have z7 : w.cell? ⟨q, 7, none⟩ = some (.int .i64 g.pairs) := h1 7 _ rfl
    clear h1
    go_enter Try.func77, Try.ntmps77
    go_wp2_with fail
    refine (HO.out _ hb0).mono ?_
    rintro r w1 ⟨⟨a', b', c', rfl, HG⟩, hb1⟩
    have B1 := hidden (B0.out.below hb1 (by simp))
    have hb := hb0.trans (hb1.mono hb0.size)
    have hsz := hb1.size
    simp at hsz
    have hzl : w.heap.size < w1.heap.size := by omega
    clear HO z0 z1 z2 z3 z4 z5 z6 z7 hb0 h2 hb1 B0
    have o0 : w1.cell? ⟨w.heap.size, 0, none⟩ = some (.slice none 0 0) := B1.out.cell 0
    have f0 := B1.out.frozen 0
    have o1 : w1.cell? ⟨w.heap.size, 1, none⟩ = some (.slice none 0 0) := B1.out.cell 1
    have f1 := B1.out.frozen 1
    have o2 : w1.cell? ⟨w.heap.size, 2, none⟩ = some (.slice none 0 0) := B1.out.cell 2
    have f2 := B1.out.frozen 2
    have o3 : w1.cell? ⟨w.heap.size, 3, none⟩ = some (.int .i64 0) := B1.out.cell 3
    have f3 := B1.out.frozen 3
    have o4 : w1.cell? ⟨w.heap.size, 4, none⟩ = some (.int .i64 0) := B1.out.cell 4
    have f4 := B1.out.frozen 4
    have o5 : w1.cell? ⟨w.heap.size, 5, none⟩ = some (.int .i64 0) := B1.out.cell 5
    have f5 := B1.out.frozen 5
    have o6 : w1.cell? ⟨w.heap.size, 6, none⟩ = some (.int .i64 0) := B1.out.cell 6
    have f6 := B1.out.frozen 6
    have o7 : w1.cell? ⟨w.heap.size, 7, none⟩ = some (.int .i64 0) := B1.out.cell 7
    have f7 := B1.out.frozen 7
    have HG2 : Hid (GramIs w1 (fun k => k < w1.heap.size ∧ k ≠ w.heap.size) a' b' c' g) := hidden (HG.out.mono (fun k hk => ⟨hk.1, fun e => by
      have h2 := hk.2
      unfold Old at h2
      simp at h2
      omega⟩))
    clear HG B1
    obtain ⟨A1', k1', rfl, _, _⟩ := HG2.out.1.value
    obtain ⟨A2', k2', rfl, _, _⟩ := HG2.out.2.1.val
    obtain ⟨A3', k3', rfl, _, _⟩ := HG2.out.2.2.value
    go_wp2
    refine bodyPost_ret (v := .agg #[.slice A1' g.toks.length k1', .slice A2' g.rules.length k2', .slice A3' g.prods.length k3', .int .i64 g.start, .int .i64 g.states, .int .i64 g.text, .int .i64 g.nodes, .int .i64 g.pairs]) (by simp [results, Try.results77, go_sem, o0, o1, o2, o3, o4, o5, o6, o7]) rfl ⟨⟨_, _, _, rfl, hidden ?_⟩, ?_⟩
    · exact (HG2.out.keeps (by repeat (first | (with_reducible exact Keeps.refl _ _) | (with_reducible refine keeps_set (fun h => absurd rfl h.2) ?_)))).mono (fun k hk => by have := hk.1; simp [Old, World.setCell]; omega)
    · exact (by repeat (first | (with_reducible exact Below.refl _ _) | (with_reducible assumption) | (with_reducible refine Below.drew ?_) | (with_reducible refine below_drewN ?_ _) | ((with_reducible refine below_alloc ?_ ?_); (focus (first | omega | (simp; done) | (simp; omega)))) | ((with_reducible refine below_set ?_ ?_); (focus (first | omega | (simp; done) | (simp; omega))))))
end Go.Proofs.Ytbjheaiiajpifaa
