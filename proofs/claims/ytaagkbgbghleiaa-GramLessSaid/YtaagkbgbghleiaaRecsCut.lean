/-
  Slices of slices that read as lists; records cut and put together; append within a region. Over any program.
-/
import Derived.Test.YtaagkbgbghleiaaRowsOf
namespace Go.Proofs.Ytaagkbgbghleiaa
open Go.RowKit Go.Shelf

theorem rd_take {w : World} {T : Nat → Prop} {k n c : Nat} {A : Option Addr} {cs : List Value} (h : Rd w T k (.slice A n c) n cs) {i : Nat} (hi : i ≤ n) : Rd w T k (.slice A i c) i (cs.take (i * k)) := by
  obtain ⟨hl, A', c', hv, h1, h2, h3⟩ := h
  simp only [Value.slice.injEq] at hv
  obtain ⟨rfl, _, rfl⟩ := hv
  have hik : i * k ≤ n * k := Nat.mul_le_mul_right _ hi
  refine ⟨by rw [List.length_take]; omega, A, c, rfl, by omega, h2, fun h0 => ?_⟩
  obtain ⟨b, off, e, hT, hc⟩ := h3 (by rw [List.length_take] at h0; omega)
  refine ⟨b, off, e, hT, fun j u hj => hc j u ?_⟩
  have hj2 : j < i * k := by have := (List.getElem?_eq_some_iff.1 hj).1; rw [List.length_take] at this; omega
  rwa [List.getElem?_take_of_lt hj2] at hj
theorem rd_drop {w : World} {T : Nat → Prop} {k n c b off : Nat} {cs : List Value} (h : Rd w T k (.slice (some ⟨b, off, none⟩) n c) n cs) {i : Nat} (hi : i ≤ n) : Rd w T k (.slice (some ⟨b, off + i * k, none⟩) (n - i) (c - i)) (n - i) (cs.drop (i * k)) := by
  obtain ⟨hl, A', c', hv, h1, h2, h3⟩ := h
  simp only [Value.slice.injEq] at hv
  obtain ⟨rfl, _, rfl⟩ := hv
  refine ⟨by rw [List.length_drop, hl, Nat.sub_mul], _, _, rfl, by omega, by omega, fun h0 => ?_⟩
  rw [List.length_drop] at h0
  obtain ⟨b', off', e, hT, hc⟩ := h3 (by omega)
  simp only [Option.some.injEq, Addr.mk.injEq] at e
  obtain ⟨rfl, rfl, _⟩ := e
  refine ⟨b, _, rfl, hT, fun j u hj => ?_⟩
  rw [List.getElem?_drop] at hj
  have := hc _ u hj
  rwa [show off + i * k + j = off + (i * k + j) by omega]
theorem rd_none {w : World} {T : Nat → Prop} {k : Nat} (A : Option Addr) : Rd w T k (.slice A 0 0) 0 [] := ⟨by simp, A, 0, rfl, Nat.le_refl _, by simp [maxLen], fun h => by simp at h⟩

section
variable {α : Type} {R : Rec α}
theorem Rec.all_len (R : Rec α) {xs : List α} {ls : List Value} (h : ls.length = xs.length) : (R.all xs ls).length = xs.length * R.k := by
  unfold Rec.all
  rw [flat_len (fun p : α × Value => R.cells p.1 p.2) R.k (fun p => R.len p.1 p.2), List.length_zip, h, Nat.min_self]
theorem Rec.all_take (R : Rec α) : ∀ (xs : List α) (ls : List Value) (i : Nat), ls.length = xs.length → (R.all xs ls).take (i * R.k) = R.all (xs.take i) (ls.take i) := by
  intro xs
  induction xs with
  | nil => intro ls i h; simp [Rec.all]
  | cons x xs ih =>
    intro ls i h
    match ls, h with
    | l :: ls, h =>
      cases i with
      | zero => simp [Rec.all]
      | succ i =>
        have := ih ls i (by simpa using h)
        unfold Rec.all at this ⊢
        rw [List.take_succ_cons, List.take_succ_cons, List.zip_cons_cons, List.zip_cons_cons, List.flatMap_cons, List.flatMap_cons, List.take_append, R.len, Nat.add_mul, Nat.one_mul, Nat.add_sub_cancel, this, List.take_of_length_le (by rw [R.len]; omega)]
theorem Rec.all_drop (R : Rec α) : ∀ (xs : List α) (ls : List Value) (i : Nat), ls.length = xs.length → (R.all xs ls).drop (i * R.k) = R.all (xs.drop i) (ls.drop i) := by
  intro xs
  induction xs with
  | nil => intro ls i h; simp [Rec.all]
  | cons x xs ih =>
    intro ls i h
    match ls, h with
    | l :: ls, h =>
      cases i with
      | zero => simp [Rec.all]
      | succ i =>
        have := ih ls i (by simpa using h)
        unfold Rec.all at this ⊢
        rw [List.drop_succ_cons, List.drop_succ_cons, List.zip_cons_cons, List.flatMap_cons, List.drop_append, R.len, Nat.add_mul, Nat.one_mul, Nat.add_sub_cancel, this, List.drop_of_length_le (by rw [R.len]; omega), List.nil_append]
theorem Rec.all_append (R : Rec α) (xs ys : List α) (ls ms : List Value) (h : ls.length = xs.length) : R.all (xs ++ ys) (ls ++ ms) = R.all xs ls ++ R.all ys ms := by
  unfold Rec.all
  rw [List.zip_append (by omega), List.flatMap_append]
theorem Rec.all_one (R : Rec α) (xs : List α) (ls : List Value) (h : ∀ l ∈ ls, l.oneCell' = true) : ∀ u ∈ R.all xs ls, u.oneCell' = true := by
  intro u hu
  unfold Rec.all at hu
  rw [List.mem_flatMap] at hu
  obtain ⟨p, hp, hu⟩ := hu
  exact R.one p.1 p.2 (h _ (List.of_mem_zip hp).2) u hu
theorem Recs.ones {w : World} {T : Nat → Prop} {xs : List α} {ls : List Value} (hl : ls.length = xs.length) (h : ∀ (i : Nat) (x : α) (l : Value), xs[i]? = some x → ls[i]? = some l → Rd w T R.kin l (R.m x) (R.inner x)) : ∀ l ∈ ls, l.oneCell' = true := by
  intro l hm
  obtain ⟨i, hi, e⟩ := List.mem_iff_getElem.1 hm
  have hx := List.getElem?_eq_getElem (show i < xs.length by omega)
  obtain ⟨A, c, rfl, _, _⟩ := (h i _ l hx (by rw [List.getElem?_eq_getElem hi, e])).val
  rfl
end

/-- APPEND, a step of a region that draws its order. -/
theorem step_append_rd {P : Program} {w : World} {ops : Array Oper} {o : Oper} {a : Act} {K : Act → World → Prop} {Q : Exit → Act → World → Prop} {E : Prop} (hgd : o.guard = none) (s x : Operand) (t e : TypeId)
    (ho : o.op = .call { callee := .builtin .append, args := #[s, x], argTypes := #[t, t] }) (ht : P.underlying t = some (.slice e)) {z : Value} {size bytes : Nat} (HI : Hid (TyInfo P e z size bytes)) (hzs : z.cells.size = size) (hsz : 0 < size)
    (base : Nat) (v : Value) (n : Nat) (xs : List Value) (HM : Hid (Mine w base e size v n xs)) {T : Nat → Prop} (y : Value) (m : Nat) (news : List Value) (HX : Hid (Rd w T size y m news)) (H1 : Hid (∀ u ∈ news, u.oneCell' = true))
    (hs : a.eval s = v) (hx : a.eval x = y) (hbytes : (n + m) * bytes ≤ 140737488355328) (hb1 : 0 < bytes) (hb : base ≤ w.heap.size)
    (h : ∀ v' w', Hid (Appended w base e size v (n + m) (xs ++ news) v' w') → K (a.put o.dst v') w') :
    if Region.wanted o (yielded ops a.tmps) = true then Oper.wp P o a w K Q else E := by
  have hw : Region.wanted o (yielded ops a.tmps) = true := by simp [Region.wanted, hgd]
  rw [if_pos hw]
  obtain ⟨i, hi, hz, hs', hby⟩ := HI.out
  exact wp_append_rd s x t ho base e i z size bytes ht hi hz hs' hby hzs hsz v n xs hs HM.out (T := T) y m news hx HX.out H1.out hbytes hb1 hb (fun v' w' hA => h v' w' (hidden hA))
end Go.Proofs.Ytaagkbgbghleiaa
