/-
  The iterator over the kids of a node (arena.kids): what it hands to yield.
-/
import Derived.Test.YtihblifkbljgaaaTreeUp
import Derived.Sort.BigQuietIn
namespace Go.Proofs.Ytihblifkbljgaaa
open Go.RowKit Go.Shelf
attribute [local go_sem] Oper.semAt_some

/-- The places from k on to e, each behind the stretch of the one ahead. -/
def kidsFrom (t : List Node) (e k : Nat) : List Nat := if k < e then k :: kidsFrom t e (k + max 1 (sz t k)) else []
termination_by e - k
decreasing_by omega
theorem kidsFrom_lt {t : List Node} {e k : Nat} (h : k < e) (h1 : 1 ≤ sz t k) : kidsFrom t e k = k :: kidsFrom t e (k + sz t k) := by
  rw [kidsFrom, if_pos h, Nat.max_eq_right h1]
theorem kidsFrom_ge {t : List Node} {e k : Nat} (h : ¬ k < e) : kidsFrom t e k = [] := by rw [kidsFrom, if_neg h]
theorem kidsFrom_len (t : List Node) (e : Nat) : ∀ n k, e - k ≤ n → (kidsFrom t e k).length ≤ e - k := by
  intro n
  induction n with
  | zero => intro k h; rw [kidsFrom_ge (by omega)]; simp
  | succ n ih =>
    intro k h
    rw [kidsFrom]
    split
    · have := ih (k + max 1 (sz t k)) (by omega)
      simp; omega
    · simp
/-- The kids of the node at i. -/
def kidsL (t : List Node) (i : Nat) : List Nat := kidsFrom t (i + sz t i) (i + 1)

/-- A place beneath the node at i. -/
abbrev Kid (t : List Node) (i : Nat) := { k : Nat // i < k ∧ k < i + sz t i }
abbrev encK {t : List Node} {i : Nat} (p : Kid t i) : Array Value := #[.int .i64 (p.1 : Int)]

theorem tree_step {t : List Node} (h : Tree t) {i k : Nat} (hi : i < t.length) (h1 : i < k) (h2 : k < i + sz t i) : k < t.length ∧ 1 ≤ sz t k ∧ k + sz t k ≤ i + sz t i := by
  have a := tree_node h hi
  have hk : k < t.length := by omega
  have b := tree_node h hk
  have h0 := tree_sz0 h
  obtain ⟨⟨_, ho⟩, _⟩ := h.good.2.2 i (Nat.zero_le _) (by omega)
  exact ⟨hk, b.1, ho k h1 h2⟩

set_option maxRecDepth 20000 in
set_option maxHeartbeats 4000000 in
theorem kids1_in (n : Nat) (hn : 1 ≤ n) (l Bi Bt : Nat) (T : Nat → Prop) (t : List Node) (i : Nat) (v : Value) (h4 : t.length ≤ 140737488355) (ht : Tree t) (hi : i < t.length) (J Jx : List (Kid t i) → World → Prop)
    (hY : ∀ pre x W, J pre W → pre.length < (kidsL t i).length → YieldAt Fence.wide (n - 1) Try.prog l (encK x) W fun e W' =>
      (e = .returned (.bool true) ∧ J (pre ++ [x]) W' ∧ Keeps T W W') ∨ (e = .returned (.bool false) ∧ Jx (pre ++ [x]) W'))
    (hd : ∀ pre W n, J pre W → J pre (W.drewN n)) (W : World) (hTi : T Bi) (hTt : T Bt) (hci : W.cell? ⟨Bi, 0, none⟩ = some (.int .i64 i)) (hct : W.cell? ⟨Bt, 0, none⟩ = some v) (hN : Nds W T v t) (h0 : J [] W)  :
    CallsIn Fence.wide n Try.prog 76 #[.func (.yield l) #[] #[], .pointer (some ⟨Bi, 0, none⟩), .pointer (some ⟨Bt, 0, none⟩)] W fun e W' => (∃ v, e = .returned v) ∧
      ((∃ ys : List (Kid t i), ys.map (·.1) = kidsL t i ∧ J ys W') ∨ (∃ pre : List (Kid t i), pre.map (·.1) <+: kidsL t i ∧ Jx pre W')) := by
  obtain ⟨b, off, c, rfl, hc1, hc2, _, _⟩ := hN.open_ (by intro e; subst e; simp at hi)
  unfold maxLen at hc2
  obtain ⟨s1, s2, _⟩ := tree_node ht hi
  refine callsIn_of_wp Try.func76 rfl trivial ?_ rfl
  simp only [Try.ntmps76, List.size_toArray, List.length_cons, List.length_nil, Nat.reduceAdd, Nat.reduceSub, Array.replicate_succ, Array.replicate_zero, List.push_toArray, List.append_toArray, List.nil_append, List.cons_append]
  gi_wp2
  gi_loopw [4] (fun p wr => ∃ (k : Nat) (pre : List (Kid t i)), p = .int .i64 k ∧ i < k ∧ k ≤ i + sz t i ∧ Hid (kidsL t i = pre.map (·.1) ++ kidsFrom t (i + sz t i) k) ∧ wr.cell? ⟨Bi, 0, none⟩ = some (.int .i64 i) ∧ wr.cell? ⟨Bt, 0, none⟩ = some (.slice (some ⟨b, off, none⟩) t.length c) ∧ Hid (Nds wr T (.slice (some ⟨b, off, none⟩) t.length c) t) ∧ Hid (J pre wr))
    (fun p wr => i + sz t i - (intOf p).toNat)
  case atStart =>
    exact ⟨i + 1, [], by go_num, by omega, by omega, hidden (by simp [kidsL]), hci, hct, hidden hN, hidden h0⟩
  case round =>
    clear hci hct hN h0
    obtain ⟨k, pre, rfl, hk1, hk2, HL, hci, hct, HN, HJ⟩ := hrel
    have yi := HN.out.size_cell ht hi
    by_cases hlt : k < i + sz t i
    · obtain ⟨g1, g2, g3⟩ := tree_step ht hi hk1 hlt
      have HL2 := HL.out
      rw [kidsFrom_lt hlt g2] at HL2
      have hlen : pre.length < (kidsL t i).length := by rw [HL2, List.length_append, List.length_map]; simp
      replace HL2 := hidden HL2
      have HS := hidden (fun W' (h : Nds W' T (.slice (some ⟨b, off, none⟩) t.length c) t) => h.size_cell ht g1)
      gi_wp2
      gi_big_quiet_th (fail)
      obtain ⟨fn, tmps, assign, body, hy, hR⟩ := hY pre ⟨k, hk1, hlt⟩ (wr.drewN nq) (hd _ _ _ HJ.out) hlen
      have HR := hidden hR
      dsimp only [encK] at hy
      clear hR hlen
      have hcd : ∀ a, (wr.drewN nq).cell? a = wr.cell? a := fun a => rfl
      gi_wp2
      refine HR.out.mono ?_
      rintro e W3 (⟨rfl, hJ3, hk3⟩ | ⟨rfl, hJx3⟩)
      · have hk4 : Keeps T wr W3 := ⟨hk3.size, hk3.block⟩
        have zi := hk4.cell (a := ⟨Bi, 0, none⟩) hTi hci
        have zt := hk4.cell (a := ⟨Bt, 0, none⟩) hTt hct
        have hN3 := hidden (HN.out.keeps hk4)
        have zk := HS.out _ hN3.out
        gi_wp2
        go_roundw
        case rel => exact ⟨k + sz t k, pre ++ [⟨k, hk1, hlt⟩], by go_num, by omega, by omega, hidden (by rw [HL2.out]; simp), zi, zt, hN3, hidden hJ3⟩
        case measure => simp [intOf]; omega
      · gi_wp2
        refine bodyPost_ret (results_none rfl _ _ _) rfl ?_
        exact ⟨⟨_, rfl⟩, .inr ⟨_, by rw [HL2.out]; simp, hJx3⟩⟩
    · have HL2 := HL.out
      rw [kidsFrom_ge hlt] at HL2
      replace HL2 := hidden HL2
      gi_wp2
      gi_big_quiet_th (fail)
      gi_wp2
      exact ⟨rfl, _, results_none rfl _ _ _, ⟨_, rfl⟩, .inl ⟨pre, by rw [HL2.out]; simp, hd _ _ _ HJ.out⟩⟩

theorem kids1_stops (n : Nat) (hn : 1 ≤ n) (Bi Bt : Nat) (T : Nat → Prop) (t : List Node) (i : Nat) (v : Value) (h4 : t.length ≤ 140737488355) (ht : Tree t) (hi : i < t.length) (w : World) (hT : ∀ k, T k → k < w.heap.size) (hTi : T Bi) (hTt : T Bt)
    (hci : w.cell? ⟨Bi, 0, none⟩ = some (.int .i64 i)) (hct : w.cell? ⟨Bt, 0, none⟩ = some v) (hN : Nds w T v t) :
    SeqStopsK Fence.wide n Try.prog 76 #[.pointer (some ⟨Bi, 0, none⟩), .pointer (some ⟨Bt, 0, none⟩)] encK (Keeps T) (fun ys : List (Kid t i) => ys.map (·.1) = kidsL t i) (fun pre => pre.map (·.1) <+: kidsL t i) (kidsL t i).length w :=
  fun l J Jx W hW hJ _ hY h0 =>
    kids1_in n hn l Bi Bt T t i v h4 ht hi J Jx hY (fun pre W n h => hJ pre W _ none h ⟨rfl, rfl, rfl, Nat.le_refl _, fun _ _ _ => rfl⟩ (fun r e => by cases e)) W hTi hTt
      ((hW.cell (p := ⟨Bi, 0, none⟩) (hT _ hTi)).trans hci) ((hW.cell (p := ⟨Bt, 0, none⟩) (hT _ hTt)).trans hct) (hN.below hW hT) h0

theorem arena_kids (v : Value) (i : Int) (A : Option Addr) (n c : Nat) (hv : v = .slice A n c) (w : World) :
    Calls Try.prog 59 #[v, .int .i64 i] w fun e w' => e = .returned (.func (.func 76) #[] #[.pointer (some ⟨w.heap.size + 1, 0, none⟩), .pointer (some ⟨w.heap.size, 0, none⟩)]) ∧
      (w.alloc (.cells #[v] 22)).alloc (.cells #[.int .i64 i] 3) = w' := by
  subst hv
  go_enter Try.func59, Try.ntmps59
  go_wp2
  go_ret
  exact ⟨rfl, rfl⟩
end Go.Proofs.Ytihblifkbljgaaa
