/-
  The reference's node and Right: whether nodes are a tree.
-/
import Derived.Test.YtihblifkbljgaaaTree
import Derived.Lib.Strings
namespace Go.Proofs.Ytihblifkbljgaaa
open Go.RowKit Go.Shelf

theorem empty_text {s : ByteArray} (h : ¬ s = ⟨#[]⟩) : s.toList.isEmpty = false := by
  rw [Lib.toList_data]
  obtain ⟨⟨l⟩⟩ := s
  cases l with
  | nil => exact absurd rfl h
  | cons a l => rfl

/-- What is known of the node that is looked at. -/
structure NodeAt (w : World) (t : List Node) (i b off : Nat) (kd nn sd : Int) (A : Option Addr) (m c : Nat) (tx : ByteArray) : Prop where
  k0 : w.cell? ⟨b, off + i * 5, none⟩ = some (.int .i64 kd)
  k1 : w.cell? ⟨b, off + i * 5 + 1, none⟩ = some (.int .i64 nn)
  k2 : w.cell? ⟨b, off + i * 5 + 2, none⟩ = some (.int .i64 sd)
  k3 : w.cell? ⟨b, off + i * 5 + 3, none⟩ = some (.slice A m c)
  k4 : w.cell? ⟨b, off + i * 5 + 4, none⟩ = some (.string tx)

theorem good_not {t : List Node} {i e : Nat} {x : Node} (hx : t[i]? = some x) (h : ¬ (Local x ∧ (i : Int) + x.size ≤ e)) : goodB t i e = false := by
  refine goodB_false fun hg => h ⟨hg.local hx, ?_⟩
  have hl := hg.local hx
  have := hg.2.1
  rw [sz_of hx] at this
  have := hl.2.2.1
  omega
theorem good_leaf {t : List Node} {i e : Nat} {x : Node} (hx : t[i]? = some x) (hl : Local x) (he : i < e) (ho : ¬ openK x.kind) : goodB t i e = true := by
  refine goodB_iff.2 (KidsTo.good hx hl ?_ ?_)
  · rw [sz_of hx, hl.2.2.2.1 ho]; simp; omega
  · rw [sz_of hx, hl.2.2.2.1 ho]; exact KidsTo.start t i

set_option maxHeartbeats 4000000 in
/-- A node that may have no kids, or is wrong by itself. -/
theorem ref_node_plain (v : Value) (t : List Node) (i e : Nat) (w : World) (h2 : i < e) (h3 : e ≤ t.length) (h4 : t.length ≤ 140737488355328) (hN : Nds w (Old w) v t) (x : Node) (hx : t[i]? = some x)
    (hc : ¬ (openK x.kind ∧ 1 ≤ x.size ∧ (i : Int) + x.size ≤ e ∧ x.lead = [] ∧ x.text = ⟨#[]⟩)) :
    Calls Try.prog 52 #[v, .int .i64 i, .int .i64 e] w fun r w' => r = .returned (.bool (goodB t i e)) ∧ Below w.heap.size w w' := by
  obtain ⟨b, off, c, rfl, hc1, hc2, hb, hat⟩ := hN.open_ (by intro e; subst e; simp at h3; omega)
  have hlt : i < t.length := by omega
  obtain ⟨l, x0, x1, x2, x3, x4, hp⟩ := hat i _ hx
  obtain ⟨A', c'', rfl, g1, g2⟩ := hp.value
  have hbad := @good_not t i e x hx
  have hleaf := @good_leaf t i e x hx
  unfold maxLen at hc2 g2
  obtain ⟨r, hr⟩ : ∃ r, goodB t i e = r := ⟨_, rfl⟩
  rw [hr] at hbad hleaf ⊢
  clear hat hp hr hx hN
  obtain ⟨kd, nn, sd, ld, tx⟩ := x
  dsimp only at *
  by_cases hk1 : kd < 1
  · obtain rfl := hbad (by unfold Local; dsimp only; omega)
    clear hbad hleaf hc
    go_enter Try.func52, Try.ntmps52
    go_wp2
    go_ret
    exact ⟨rfl, (by repeat (first | (with_reducible exact Below.refl _ _) | (with_reducible assumption) | (with_reducible refine Below.drew ?_) | ((with_reducible refine below_alloc ?_ ?_); (focus (first | omega | (simp; done) | (simp; omega)))) | ((with_reducible refine below_set ?_ ?_); (focus (first | omega | (simp; done) | (simp; omega))))))⟩
  by_cases hk6 : 6 < kd
  · obtain rfl := hbad (by unfold Local; dsimp only; omega)
    clear hbad hleaf hc
    go_enter Try.func52, Try.ntmps52
    go_wp2
    go_ret
    exact ⟨rfl, (by repeat (first | (with_reducible exact Below.refl _ _) | (with_reducible assumption) | (with_reducible refine Below.drew ?_) | ((with_reducible refine below_alloc ?_ ?_); (focus (first | omega | (simp; done) | (simp; omega)))) | ((with_reducible refine below_set ?_ ?_); (focus (first | omega | (simp; done) | (simp; omega))))))⟩
  by_cases hs1 : sd < 1
  · obtain rfl := hbad (by unfold Local; dsimp only; omega)
    clear hbad hleaf hc
    have q1 : decide (kd < 1) = false := by simp; omega
    have q2 : decide (6 < kd) = false := by simp; omega
    go_enter Try.func52, Try.ntmps52
    go_wp2
    go_ret
    exact ⟨rfl, (by repeat (first | (with_reducible exact Below.refl _ _) | (with_reducible assumption) | (with_reducible refine Below.drew ?_) | ((with_reducible refine below_alloc ?_ ?_); (focus (first | omega | (simp; done) | (simp; omega)))) | ((with_reducible refine below_set ?_ ?_); (focus (first | omega | (simp; done) | (simp; omega))))))⟩
  have q1 : decide (kd < 1) = false := by simp; omega
  have q2 : decide (6 < kd) = false := by simp; omega
  have q3 : decide (sd < 1) = false := by simp; omega
  by_cases hse : ¬ (i : Int) + sd ≤ e
  · obtain rfl := hbad (by omega)
    clear hbad hleaf hc
    have q4 : decide ((e : Int) - i < sd) = true := by simp; omega
    go_enter Try.func52, Try.ntmps52
    go_wp2
    go_ret
    exact ⟨rfl, (by repeat (first | (with_reducible exact Below.refl _ _) | (with_reducible assumption) | (with_reducible refine Below.drew ?_) | ((with_reducible refine below_alloc ?_ ?_); (focus (first | omega | (simp; done) | (simp; omega)))) | ((with_reducible refine below_set ?_ ?_); (focus (first | omega | (simp; done) | (simp; omega))))))⟩
  have q4 : decide ((e : Int) - i < sd) = false := by simp; omega
  obtain rfl | rfl | hk : kd = 3 ∨ kd = 4 ∨ (kd = 5 ∨ kd = 6 ∨ kd = 1 ∨ kd = 2) := by omega
  · by_cases h1 : sd = 1
    · subst h1
      obtain rfl := hleaf (by unfold Local openK textedK; dsimp only; refine ⟨?_, ?_, ?_, ?_, ?_⟩ <;> simp) h2 (by unfold openK; omega)
      clear hbad hc
      go_enter Try.func52, Try.ntmps52
      go_wp2
      go_ret
      exact ⟨rfl, (by repeat (first | (with_reducible exact Below.refl _ _) | (with_reducible assumption) | (with_reducible refine Below.drew ?_) | ((with_reducible refine below_alloc ?_ ?_); (focus (first | omega | (simp; done) | (simp; omega)))) | ((with_reducible refine below_set ?_ ?_); (focus (first | omega | (simp; done) | (simp; omega))))))⟩
    · obtain rfl := hbad (by unfold Local openK; dsimp only; intro hh; exact h1 (hh.1.2.2.2.1 (by omega)))
      have q5 : (sd == 1) = false := by simpa using h1
      clear hbad hleaf hc
      go_enter Try.func52, Try.ntmps52
      go_wp2
      go_ret
      exact ⟨rfl, (by repeat (first | (with_reducible exact Below.refl _ _) | (with_reducible assumption) | (with_reducible refine Below.drew ?_) | ((with_reducible refine below_alloc ?_ ?_); (focus (first | omega | (simp; done) | (simp; omega)))) | ((with_reducible refine below_set ?_ ?_); (focus (first | omega | (simp; done) | (simp; omega))))))⟩
  · by_cases h1 : sd = 1
    · subst h1
      obtain rfl := hleaf (by unfold Local openK textedK; dsimp only; refine ⟨?_, ?_, ?_, ?_, ?_⟩ <;> simp) h2 (by unfold openK; omega)
      clear hbad hc
      go_enter Try.func52, Try.ntmps52
      go_wp2
      go_ret
      exact ⟨rfl, (by repeat (first | (with_reducible exact Below.refl _ _) | (with_reducible assumption) | (with_reducible refine Below.drew ?_) | ((with_reducible refine below_alloc ?_ ?_); (focus (first | omega | (simp; done) | (simp; omega)))) | ((with_reducible refine below_set ?_ ?_); (focus (first | omega | (simp; done) | (simp; omega))))))⟩
    · obtain rfl := hbad (by unfold Local openK; dsimp only; intro hh; exact h1 (hh.1.2.2.2.1 (by omega)))
      have q5 : (sd == 1) = false := by simpa using h1
      clear hbad hleaf hc
      go_enter Try.func52, Try.ntmps52
      go_wp2
      go_ret
      exact ⟨rfl, (by repeat (first | (with_reducible exact Below.refl _ _) | (with_reducible assumption) | (with_reducible refine Below.drew ?_) | ((with_reducible refine below_alloc ?_ ?_); (focus (first | omega | (simp; done) | (simp; omega)))) | ((with_reducible refine below_set ?_ ?_); (focus (first | omega | (simp; done) | (simp; omega))))))⟩
  · have q5 : (kd == 3) = false := by rw [beq_eq_false_iff_ne]; omega
    have q6 : (kd == 4) = false := by rw [beq_eq_false_iff_ne]; omega
    cases ld with
    | cons p0 ld =>
      obtain rfl := hbad (by unfold Local textedK; dsimp only; intro hh; exact absurd (hh.1.2.2.2.2 (by omega)).1 (by simp))
      clear hbad hleaf hc hk
      go_enter Try.func52, Try.ntmps52
      go_wp2
      go_ret
      exact ⟨rfl, (by repeat (first | (with_reducible exact Below.refl _ _) | (with_reducible assumption) | (with_reducible refine Below.drew ?_) | ((with_reducible refine below_alloc ?_ ?_); (focus (first | omega | (simp; done) | (simp; omega)))) | ((with_reducible refine below_set ?_ ?_); (focus (first | omega | (simp; done) | (simp; omega))))))⟩
    | nil =>
      by_cases htx : tx = ⟨#[]⟩
      · subst htx
        obtain rfl | rfl | hk : kd = 5 ∨ kd = 6 ∨ (kd = 1 ∨ kd = 2) := by omega
        · by_cases h1 : sd = 1
          · subst h1
            obtain rfl := hleaf (by unfold Local openK textedK; dsimp only; refine ⟨?_, ?_, ?_, ?_, ?_⟩ <;> simp) h2 (by unfold openK; omega)
            clear hbad hc
            go_enter Try.func52, Try.ntmps52
            go_wp2
            go_ret
            exact ⟨rfl, (by repeat (first | (with_reducible exact Below.refl _ _) | (with_reducible assumption) | (with_reducible refine Below.drew ?_) | ((with_reducible refine below_alloc ?_ ?_); (focus (first | omega | (simp; done) | (simp; omega)))) | ((with_reducible refine below_set ?_ ?_); (focus (first | omega | (simp; done) | (simp; omega))))))⟩
          · obtain rfl := hbad (by unfold Local openK; dsimp only; intro hh; exact h1 (hh.1.2.2.2.1 (by omega)))
            have q7 : (sd == 1) = false := by simpa using h1
            clear hbad hleaf hc
            go_enter Try.func52, Try.ntmps52
            go_wp2
            go_ret
            exact ⟨rfl, (by repeat (first | (with_reducible exact Below.refl _ _) | (with_reducible assumption) | (with_reducible refine Below.drew ?_) | ((with_reducible refine below_alloc ?_ ?_); (focus (first | omega | (simp; done) | (simp; omega)))) | ((with_reducible refine below_set ?_ ?_); (focus (first | omega | (simp; done) | (simp; omega))))))⟩
        · by_cases h1 : sd = 1
          · subst h1
            obtain rfl := hleaf (by unfold Local openK textedK; dsimp only; refine ⟨?_, ?_, ?_, ?_, ?_⟩ <;> simp) h2 (by unfold openK; omega)
            clear hbad hc
            go_enter Try.func52, Try.ntmps52
            go_wp2
            go_ret
            exact ⟨rfl, (by repeat (first | (with_reducible exact Below.refl _ _) | (with_reducible assumption) | (with_reducible refine Below.drew ?_) | ((with_reducible refine below_alloc ?_ ?_); (focus (first | omega | (simp; done) | (simp; omega)))) | ((with_reducible refine below_set ?_ ?_); (focus (first | omega | (simp; done) | (simp; omega))))))⟩
          · obtain rfl := hbad (by unfold Local openK; dsimp only; intro hh; exact h1 (hh.1.2.2.2.1 (by omega)))
            have q7 : (sd == 1) = false := by simpa using h1
            clear hbad hleaf hc
            go_enter Try.func52, Try.ntmps52
            go_wp2
            go_ret
            exact ⟨rfl, (by repeat (first | (with_reducible exact Below.refl _ _) | (with_reducible assumption) | (with_reducible refine Below.drew ?_) | ((with_reducible refine below_alloc ?_ ?_); (focus (first | omega | (simp; done) | (simp; omega)))) | ((with_reducible refine below_set ?_ ?_); (focus (first | omega | (simp; done) | (simp; omega))))))⟩
        · exact absurd ⟨hk, by omega, by omega, rfl, rfl⟩ hc
      · obtain rfl := hbad (by unfold Local textedK; dsimp only; intro hh; exact htx (hh.1.2.2.2.2 (by omega)).2)
        have q8 := empty_text htx
        clear hbad hleaf hc hk htx
        go_enter Try.func52, Try.ntmps52
        go_wp2
        go_ret
        exact ⟨rfl, (by repeat (first | (with_reducible exact Below.refl _ _) | (with_reducible assumption) | (with_reducible refine Below.drew ?_) | ((with_reducible refine below_alloc ?_ ?_); (focus (first | omega | (simp; done) | (simp; omega)))) | ((with_reducible refine below_set ?_ ?_); (focus (first | omega | (simp; done) | (simp; omega))))))⟩
end Go.Proofs.Ytihblifkbljgaaa
