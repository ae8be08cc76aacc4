/-
  Appends of all of a slice, its parts hidden; over any program. And texts of the call's own.
-/
import Derived.Test.YtaagkbgbghleiaaStrs3
namespace Go.Proofs.Ytaagkbgbghleiaa
open Go.RowKit Go.Shelf

theorem Mine.base {w : World} {b b' : Nat} {e : TypeId} {size n : Nat} {v : Value} {xs : List Value} (h : Mine w b e size v n xs) (hb : b' ≤ b) : Mine w b' e size v n xs := by
  rcases h with ⟨h1, h2⟩ | h
  · refine .inl ⟨h1, ?_⟩
    rcases h2 with h | ⟨g, cap, cur, hv, hg, r⟩
    · exact .inl h
    · exact .inr ⟨g, cap, cur, hv, Nat.le_trans hb hg, r⟩
  · exact .inr h
theorem Mine.fresh_nil (w : World) (base : Nat) (e : TypeId) (size : Nat) (a : Option Addr) : Mine w base e size (.slice a 0 0) 0 [] := .inr ⟨rfl, rfl, a, rfl⟩
/-- What is known of an element's type. -/
def TyInfo (P : Program) (e : TypeId) (z : Value) (size bytes : Nat) : Prop := ∃ i, P.info? e = some i ∧ i.zero = some z ∧ i.size = size ∧ i.bytes = bytes
theorem str_info : Hid (TyInfo Try.prog 9 (.string ⟨#[]⟩) 1 16) :=
  hidden (info_parts (show (Try.prog.info? 9).map (fun i => (i.zero, i.size, i.bytes)) = some (some (.string ⟨#[]⟩), 1, 16) by kernel_rfl))

theorem wpList_append_all {P : Program} {w : World} {ops : Array Oper} {rest : List Oper} {o : Oper} {a : Act} {Q : Exit → Act → World → Prop} (hgd : o.guard = none) (s x : Operand) (t e : TypeId)
    (ho : o.op = .call { callee := .builtin .append, args := #[s, x], argTypes := #[t, t] }) (ht : P.underlying t = some (.slice e)) {z : Value} {size bytes : Nat} (HI : Hid (TyInfo P e z size bytes)) (hzs : z.cells.size = size) (hsz : 0 < size)
    (base : Nat) (v : Value) (n : Nat) (xs : List Value) (HM : Hid (Mine w base e size v n xs)) {T : Nat → Prop} (y : Value) (m : Nat) (news : List Value) (HX : Hid (Rd w T size y m news)) (H1 : Hid (∀ u ∈ news, u.oneCell' = true))
    (hs : a.eval s = v) (hx : a.eval x = y) (hbytes : (n + m) * bytes ≤ 140737488355328) (hb1 : 0 < bytes) (hb : base ≤ w.heap.size)
    (h : ∀ v' w', Hid (Appended w base e size v (n + m) (xs ++ news) v' w') → wpList P ops Q rest (a.put o.dst v') w') : wpList P ops Q (o :: rest) a w := by
  obtain ⟨i, hi, hz, hs', hby⟩ := HI.out
  exact wpList_append_rd hgd s x t ho base e i z size bytes ht hi hz hs' hby hzs hsz v n xs hs HM.out (T := T) y m news hx HX.out H1.out hbytes hb1 hb (fun v' w' hA => h v' w' (hidden hA))
theorem wpListIn_append_all {F : Fence} {q : Nat} {P : Program} {w : World} {ops : Array Oper} {rest : List Oper} {o : Oper} {a : Act} {Q : Exit → Act → World → Prop} (hgd : o.guard = none) (s x : Operand) (t e : TypeId)
    (ho : o.op = .call { callee := .builtin .append, args := #[s, x], argTypes := #[t, t] }) (ht : P.underlying t = some (.slice e)) {z : Value} {size bytes : Nat} (HI : Hid (TyInfo P e z size bytes)) (hzs : z.cells.size = size) (hsz : 0 < size)
    (base : Nat) (v : Value) (n : Nat) (xs : List Value) (HM : Hid (Mine w base e size v n xs)) {T : Nat → Prop} (y : Value) (m : Nat) (news : List Value) (HX : Hid (Rd w T size y m news)) (H1 : Hid (∀ u ∈ news, u.oneCell' = true))
    (hs : a.eval s = v) (hx : a.eval x = y) (hbytes : (n + m) * bytes ≤ 140737488355328) (hb1 : 0 < bytes) (hb : base ≤ w.heap.size)
    (h : ∀ v' w', Hid (Appended w base e size v (n + m) (xs ++ news) v' w') → wpListIn F q P ops Q rest (a.put o.dst v') w') : wpListIn F q P ops Q (o :: rest) a w := by
  obtain ⟨i, hi, hz, hs', hby⟩ := HI.out
  exact wpListIn_append_rd hgd s x t ho base e i z size bytes ht hi hz hs' hby hzs hsz v n xs hs HM.out (T := T) y m news hx HX.out H1.out hbytes hb1 hb (fun v' w' hA => h v' w' (hidden hA))

/-- APPEND, at the operation itself, inside a fence. -/
theorem wpIn_append_all {F : Fence} {q : Nat} {P : Program} {w : World} {K : Act → World → Prop} {o : Oper} {a : Act} {Q : Exit → Act → World → Prop} (s x : Operand) (t e : TypeId)
    (ho : o.op = .call { callee := .builtin .append, args := #[s, x], argTypes := #[t, t] }) (ht : P.underlying t = some (.slice e)) {z : Value} {size bytes : Nat} (HI : Hid (TyInfo P e z size bytes)) (hzs : z.cells.size = size) (hsz : 0 < size)
    (base : Nat) (v : Value) (n : Nat) (xs : List Value) (HM : Hid (Mine w base e size v n xs)) {T : Nat → Prop} (y : Value) (m : Nat) (news : List Value) (HX : Hid (Rd w T size y m news)) (H1 : Hid (∀ u ∈ news, u.oneCell' = true))
    (hs : a.eval s = v) (hx : a.eval x = y) (hbytes : (n + m) * bytes ≤ 140737488355328) (hb1 : 0 < bytes) (hb : base ≤ w.heap.size)
    (h : ∀ v' w', Hid (Appended w base e size v (n + m) (xs ++ news) v' w') → K (a.put o.dst v') w') : o.wpIn F q P a w K Q := by
  obtain ⟨i, hi, hz, hs', hby⟩ := HI.out
  obtain ⟨v', w', hrun, h2⟩ := run_append_rd (P := P) (w := w) base t o.type e i z size bytes ht hi hz hs' hby hzs hsz v n xs HM.out y m news HX.out H1.out hbytes hb1 hb
  unfold Oper.wpIn
  refine ⟨?_, ?_⟩
  · simp [Oper.about, ho, resolve, Target.leads, Sem.run_pure]
  · rw [Oper.semAt_plain F _ _ (by rw [ho]; intro c hc'; cases hc')]
    simp [execOp, ho, resolve, invoke, builtin, hs, hx, hrun, Result.andThen]
    exact h _ _ (hidden h2)

/-- One value put into a new slice of one element. -/
theorem Rd.single (w : World) (e : TypeId) (u : Value) (o : Nat) (ho : o = w.heap.size) : Rd (w.alloc (.cells #[u] e)) (Old (w.alloc (.cells #[u] e))) 1 (.slice (some ⟨o, 0, none⟩) 1 1) 1 [u] :=
  Rd.fresh (cs := [u]) (n := 1) (size := 1) rfl (Nat.le_refl _) (by decide) (by simp [Old]) ho
theorem one_str (s : ByteArray) : Hid (∀ u ∈ [Value.string s], u.oneCell' = true) := hidden (fun u hu => by simp at hu; subst hu; rfl)

/-- Texts of the call's own. -/
abbrev StrsM (w : World) (base : Nat) (v : Value) (l : List ByteArray) : Prop := Mine w base 9 1 v l.length (l.flatMap strC)
theorem StrsM.snoc {w w' : World} {base : Nat} {v v' : Value} {l : List ByteArray} {s : ByteArray} (hA : Appended w base 9 1 v (l.length + 1) (l.flatMap strC ++ [.string s]) v' w') : StrsM w' base v' (l ++ [s]) := by
  have := hA.mine
  unfold StrsM
  rw [List.length_append, List.flatMap_append]
  exact this
theorem StrsM.rd {w : World} {base : Nat} {v : Value} {l : List ByteArray} (h : StrsM w base v l) : Strs w (Old w) v l := Mine.rd h (fun _ _ _ h => h)
end Go.Proofs.Ytaagkbgbghleiaa
