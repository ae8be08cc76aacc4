/-
  arena.Right.
-/
import Derived.Test.YtihblifkbljgaaaTreeRight
import Derived.WalkSmall
import Derived.OwnWalk
namespace Go.Proofs.Ytihblifkbljgaaa
open Go.RowKit Go.Shelf

theorem Mine.open_ {w : World} {base : Nat} {e : TypeId} {size n : Nat} {v : Value} {xs : List Value} (h : Mine w base e size v n xs) (hn : 0 < n) :
    ∃ g cap, v = .slice (some ⟨g, 0, none⟩) n cap ∧ n ≤ cap ∧ cap ≤ maxLen ∧ base ≤ g ∧ g < w.heap.size ∧ (∀ j u, xs[j]? = some u → w.cell? ⟨g, j, none⟩ = some u) := by
  have ho := h.own hn
  rcases ho.2 with ⟨_, h0⟩ | ⟨g, cap, cur, rfl, hb, hg, h1, h2, h3, h4⟩
  · omega
  · refine ⟨g, cap, rfl, h1, h2, hb, (Array.getElem?_eq_some_iff.1 hg).1, fun j u hu => ?_⟩
    have := ho.cells (g := g) rfl j u hu
    rwa [addr_add, Nat.zero_add] at this
theorem Mine.pop {w : World} {base : Nat} {e : TypeId} {g cap n : Nat} {xs : List Value} {last : Value} (hx : xs.length = n) (h : Mine w base e 1 (.slice (some ⟨g, 0, none⟩) (n + 1) cap) (n + 1) (xs ++ [last])) :
    Mine w base e 1 (.slice (some ⟨g, 0, none⟩) n cap) n xs := .inl (ownsRow_pop (by rw [hx, Nat.mul_one]) (h.own (by omega)))

theorem Mine.made (w : World) (e : TypeId) (size n : Nat) (cs : List Value) (hl : cs.length = n * size) (hn : n ≤ maxLen) : Mine (w.alloc (.cells cs.toArray e)) w.heap.size e size (.slice (some ⟨w.heap.size, 0, none⟩) n n) n cs :=
  .inl ⟨hl, .inr ⟨w.heap.size, n, cs.toArray, rfl, Nat.le_refl _, Holds.new w e _, Nat.le_refl _, hn, by simp [hl], by rw [← hl]; simp⟩⟩
def lenV : Value → Nat
  | .slice _ n _ => n
  | _ => 0

/-- Numbers as they lie. -/
def ints (l : List Nat) : List Value := l.map fun (e : Nat) => .int .i64 (e : Int)
theorem ints_cons_rev (top : Nat) (st : List Nat) : ints (top :: st).reverse = ints st.reverse ++ [.int .i64 top] := by simp [ints]
theorem ints_len (l : List Nat) : (ints l).length = l.length := by simp [ints]
theorem ints_one (l : List Nat) : ∀ u ∈ ints l, u.oneCell' = true := by
  intro u hu
  simp only [ints, List.mem_map] at hu
  obtain ⟨e, _, rfl⟩ := hu
  rfl

theorem stack_some {t : List Node} {i : Nat} {st : List Nat} (h : Stack t i st) : ∃ top s, st = top :: s := by
  cases st with
  | nil => have := h.top; simp at this
  | cons a s => exact ⟨a, s, rfl⟩

theorem stack_bounds {t : List Node} {i top : Nat} {st : List Nat} (h : Stack t i (top :: st)) : i ≤ top ∧ top ≤ t.length := by
  refine ⟨h.ge top (by simp), ?_⟩
  have hp := List.pairwise_cons.1 h.sorted
  have := h.top
  rw [List.mem_cons] at this
  rcases this with e | e
  · omega
  · exact hp.1 _ e

theorem empty_text_iff (s : ByteArray) : s.toList.isEmpty = true ↔ s = ⟨#[]⟩ := by
  constructor
  · intro h
    refine Decidable.byContradiction fun hn => ?_
    rw [empty_text hn] at h
    cases h
  · rintro rfl; rw [Lib.toList_data]; rfl
theorem local_bits (kd nn sd : Int) (ld : List Piece) (tx : ByteArray) {O X TE : Bool} {LN : Nat} (hO : decide (openK kd) = O) (hX : decide (textedK kd) = X) (hTE : tx.toList.isEmpty = TE) (hLN : ld.length = LN) :
    Local ⟨kd, nn, sd, ld, tx⟩ ↔ 1 ≤ kd ∧ kd ≤ 6 ∧ 1 ≤ sd ∧ (O = true ∨ sd = 1) ∧ (X = true ∨ (LN = 0 ∧ TE = true)) := by
  subst hO hX hTE hLN
  unfold Local
  dsimp only
  rw [empty_text_iff, List.length_eq_zero_iff, decide_eq_true_iff, decide_eq_true_iff, Decidable.imp_iff_or_not, Decidable.imp_iff_or_not, Decidable.not_not, Decidable.not_not, or_comm, or_comm (a := ld = [] ∧ _)]

/-- What is known of the type of whole numbers. -/
def IntInfo (P : Program) (e : TypeId) : Prop := ∃ i, P.info? e = some i ∧ i.zero = some (.int .i64 0) ∧ i.size = 1 ∧ i.bytes = 8
/-- One number is put behind the call's own. -/
theorem wpList_append_int {P : Program} {w W0 : World} {ops : Array Oper} {rest : List Oper} {o : Oper} {a : Act} {Q : Exit → Act → World → Prop} (hgd : o.guard = none) (s x : Operand) (t e : TypeId) (e' : TypeId)
    (ho : o.op = .call { callee := .builtin .append, args := #[s, x], argTypes := #[t, t] }) (ht : P.underlying t = some (.slice e)) (HI : Hid (IntInfo P e)) (base : Nat) (v : Value) (n : Nat) (xs : List Value) (HM : Hid (Mine W0 base e 1 v n xs))
    (u : Int) (hw : w = W0.alloc (.cells #[.int .i64 u] e')) (hs : a.eval s = v) {g : Nat} (hx : a.eval x = .slice (some ⟨g, 0, none⟩) 1 1) (hg : g = W0.heap.size) (hn : n ≤ 1000000000000) (hb : base ≤ W0.heap.size)
    (h : ∀ v' w', Hid (Appended w base e 1 v (n + 1) (xs ++ [.int .i64 u]) v' w') → wpList P ops Q rest (a.put o.dst v') w') : wpList P ops Q (o :: rest) a w := by
  obtain ⟨i, hi, hz, hsz, hby⟩ := HI.out
  subst hw hg
  refine wpList_append_rd hgd s x t ho base e i (.int .i64 0) 1 8 ht hi hz hsz hby rfl (by decide) v n xs hs (HM.out.alloc _) (T := fun _ => True) _ 1 [.int .i64 u] hx ?_ ?_ (by omega) (by decide) (Nat.le_trans hb (by simp)) (fun v' w' hA => h v' w' (hidden hA))
  · exact Rd.fresh (cs := [.int .i64 u]) (n := 1) (size := 1) rfl (Nat.le_refl _) (by decide) trivial rfl
  · intro u hu; simp at hu; subst hu; rfl

theorem arena_open (kd : Int) (w : World) : Calls Try.prog 56 #[.int .i64 kd] w fun r w' => r = .returned (.bool (decide (openK kd))) ∧ w = w' := by
  go_enter Try.func56, Try.ntmps56
  go_wp2
  all_goals
    go_ret
    exact ⟨ret_bool (by rw [Bool.eq_iff_iff]; simp [openK, *]), rfl⟩
theorem arena_texted (kd : Int) (w : World) : Calls Try.prog 57 #[.int .i64 kd] w fun r w' => r = .returned (.bool (decide (textedK kd))) ∧ w = w' := by
  go_enter Try.func57, Try.ntmps57
  go_wp2
  all_goals
    go_ret
    exact ⟨ret_bool (by rw [Bool.eq_iff_iff]; simp [textedK, *]), rfl⟩
end Go.Proofs.Ytihblifkbljgaaa
