/-
  facsimileref18.item.
-/
import Derived.Test.YtaagkbgbghleiaaGramNames
namespace Go.Proofs.Ytaagkbgbghleiaa
open Go.RowKit Go.Shelf

theorem cls_at {g : Gram} {x : Int} {t : Token} (h : g.toks[x.toNat]? = some t) : clsAt g x = t.cls := by unfold clsAt; rw [h]

set_option maxRecDepth 20000 in
set_option maxHeartbeats 4000000 in
theorem ref_item (a b c : Value) (g : Gram) (x : Item) (w : World) (HG : GramIs w (Old w) a b c g) :
    Calls Try.prog 110 #[.agg (gramCells a b c g), .agg #[.bool x.rule, .int .i64 x.n, .int .i64 x.gap, .int .i64 x.in_]] w fun r w' => r = .returned (.int .i64 (itemErr g x)) ∧ Below w.heap.size w w' := by
  obtain ⟨⟨A1, k1, rfl, v1, m1⟩, ⟨A2, k2, rfl, v2, m2⟩, ⟨A3, k3, rfl, v3, m3⟩⟩ := HG.vals
  have HT := hidden (fun (t : Token) (h : g.toks[x.n.toNat]? = some t) => HG.1.at_ h)
  have HCl := hidden (fun (t : Token) (h : g.toks[x.n.toNat]? = some t) => cls_at h)
  unfold gramCells itemErr
  clear HG
  obtain ⟨r, n, gp, i_⟩ := x
  dsimp only at *
  unfold maxLen at *
  by_cases h0 : n < 0
  · rw [if_pos (Or.inl h0)]
    cases r
    all_goals
      go_enter Try.func110, Try.ntmps110
      go_wp2
      go_ret
      exact ⟨rfl, (by repeat (first | (with_reducible exact Below.refl _ _) | (with_reducible assumption) | (with_reducible refine Below.drew ?_) | ((with_reducible refine below_alloc ?_ ?_); (focus (first | omega | (simp; done) | (simp; omega)))) | ((with_reducible refine below_set ?_ ?_); (focus (first | omega | (simp; done) | (simp; omega))))))⟩
  obtain ⟨k, rfl⟩ : ∃ k : Nat, n = (k : Int) := ⟨n.toNat, by omega⟩
  cases r
  · simp only [Int.toNat_natCast, if_neg (show ¬ (false = true) by decide)] at *
    by_cases hn : (g.toks.length : Int) ≤ k
    · rw [if_pos (Or.inr hn)]
      go_enter Try.func110, Try.ntmps110
      go_wp2
      go_ret
      exact ⟨rfl, (by repeat (first | (with_reducible exact Below.refl _ _) | (with_reducible assumption) | (with_reducible refine Below.drew ?_) | ((with_reducible refine below_alloc ?_ ?_); (focus (first | omega | (simp; done) | (simp; omega)))) | ((with_reducible refine below_set ?_ ?_); (focus (first | omega | (simp; done) | (simp; omega))))))⟩
    · rw [if_neg (by omega)]
      have hkn : k < g.toks.length := by omega
      have hx := List.getElem?_eq_getElem hkn
      generalize g.toks[k] = t at *
      rw [HCl.out _ hx]
      obtain ⟨b1, o1, l1, rfl, hT, hat, _⟩ := HT.out _ hx
      have y2 := hat 2 _ rfl
      rw [show tokR.k = 3 from rfl] at y2
      have hT : b1 < w.heap.size := hT
      clear hat hx HT HCl h0
      by_cases hc : t.cls = 0
      · rw [if_neg (by simp [hc])]
        rw [hc] at y2
        clear hc
        by_cases h1 : gp < 0 ∨ 2 < gp ∨ i_ < 0 ∨ 8 < i_
        · rw [if_pos h1]
          rcases h1 with h1 | h1 | h1 | h1
          all_goals
            go_enter Try.func110, Try.ntmps110
            go_wp2
            all_goals
              go_ret
              exact ⟨rfl, (by repeat (first | (with_reducible exact Below.refl _ _) | (with_reducible assumption) | (with_reducible refine Below.drew ?_) | ((with_reducible refine below_alloc ?_ ?_); (focus (first | omega | (simp; done) | (simp; omega)))) | ((with_reducible refine below_set ?_ ?_); (focus (first | omega | (simp; done) | (simp; omega))))))⟩
        · rw [if_neg h1]
          obtain ⟨g1, g2, g3, g4⟩ : 0 ≤ gp ∧ gp ≤ 2 ∧ 0 ≤ i_ ∧ i_ ≤ 8 := by omega
          clear h1
          go_enter Try.func110, Try.ntmps110
          go_wp2
          go_ret
          exact ⟨rfl, (by repeat (first | (with_reducible exact Below.refl _ _) | (with_reducible assumption) | (with_reducible refine Below.drew ?_) | ((with_reducible refine below_alloc ?_ ?_); (focus (first | omega | (simp; done) | (simp; omega)))) | ((with_reducible refine below_set ?_ ?_); (focus (first | omega | (simp; done) | (simp; omega))))))⟩
      · rw [if_pos (by simp [hc])]
        have q : (t.cls != 0) = true := by rw [bne_iff_ne]; exact hc
        clear hc
        go_enter Try.func110, Try.ntmps110
        go_wp2
        go_ret
        exact ⟨rfl, (by repeat (first | (with_reducible exact Below.refl _ _) | (with_reducible assumption) | (with_reducible refine Below.drew ?_) | ((with_reducible refine below_alloc ?_ ?_); (focus (first | omega | (simp; done) | (simp; omega)))) | ((with_reducible refine below_set ?_ ?_); (focus (first | omega | (simp; done) | (simp; omega))))))⟩
  · simp only [Int.toNat_natCast, if_true] at *
    clear HT HCl h0
    by_cases hn : (g.rules.length : Int) ≤ k
    · rw [if_pos (Or.inr hn)]
      go_enter Try.func110, Try.ntmps110
      go_wp2
      go_ret
      exact ⟨rfl, (by repeat (first | (with_reducible exact Below.refl _ _) | (with_reducible assumption) | (with_reducible refine Below.drew ?_) | ((with_reducible refine below_alloc ?_ ?_); (focus (first | omega | (simp; done) | (simp; omega)))) | ((with_reducible refine below_set ?_ ?_); (focus (first | omega | (simp; done) | (simp; omega))))))⟩
    · rw [if_neg (by omega), if_neg (by simp)]
      by_cases h1 : gp < 0 ∨ 2 < gp ∨ i_ < 0 ∨ 8 < i_
      · rw [if_pos h1]
        rcases h1 with h1 | h1 | h1 | h1
        all_goals
          go_enter Try.func110, Try.ntmps110
          go_wp2
          all_goals
            go_ret
            exact ⟨rfl, (by repeat (first | (with_reducible exact Below.refl _ _) | (with_reducible assumption) | (with_reducible refine Below.drew ?_) | ((with_reducible refine below_alloc ?_ ?_); (focus (first | omega | (simp; done) | (simp; omega)))) | ((with_reducible refine below_set ?_ ?_); (focus (first | omega | (simp; done) | (simp; omega))))))⟩
      · rw [if_neg h1]
        obtain ⟨g1, g2, g3, g4⟩ : 0 ≤ gp ∧ gp ≤ 2 ∧ 0 ≤ i_ ∧ i_ ≤ 8 := by omega
        clear h1
        go_enter Try.func110, Try.ntmps110
        go_wp2
        go_ret
        exact ⟨rfl, (by repeat (first | (with_reducible exact Below.refl _ _) | (with_reducible assumption) | (with_reducible refine Below.drew ?_) | ((with_reducible refine below_alloc ?_ ?_); (focus (first | omega | (simp; done) | (simp; omega)))) | ((with_reducible refine below_set ?_ ?_); (focus (first | omega | (simp; done) | (simp; omega))))))⟩
end Go.Proofs.Ytaagkbgbghleiaa
