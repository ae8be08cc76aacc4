/-
  Memory that reads as a list of cells; slices of the call's own; append onto them. Over any program.
-/
import Derived.Test.YtaagkbgbghleiaaKit
import Derived.Maps.AppendAt
import Derived.ArgAppend
namespace Go.Proofs.Ytaagkbgbghleiaa
open Go.RowKit Go.Shelf

/-- The slice value v of n elements, each of size cells, reads as the cells cs; they lie in a block of T. -/
def Rd (w : World) (T : Nat → Prop) (size : Nat) (v : Value) (n : Nat) (cs : List Value) : Prop :=
  cs.length = n * size ∧ ∃ A c, v = .slice A n c ∧ n ≤ c ∧ c ≤ maxLen ∧ (0 < cs.length → ∃ b off, A = some ⟨b, off, none⟩ ∧ T b ∧ ∀ j u, cs[j]? = some u → w.cell? ⟨b, off + j, none⟩ = some u)

section
variable {w w' : World} {T T' : Nat → Prop} {size n : Nat} {v : Value} {cs : List Value}
theorem Rd.mono (h : Rd w T size v n cs) (hT : ∀ k, T k → T' k) : Rd w T' size v n cs := by
  obtain ⟨hl, A, c, hv, h1, h2, h3⟩ := h
  exact ⟨hl, A, c, hv, h1, h2, fun h0 => by obtain ⟨b, off, e, hb, hc⟩ := h3 h0; exact ⟨b, off, e, hT b hb, hc⟩⟩
theorem Rd.keeps (h : Rd w T size v n cs) (hk : Keeps T w w') : Rd w' T size v n cs := by
  obtain ⟨hl, A, c, hv, h1, h2, h3⟩ := h
  exact ⟨hl, A, c, hv, h1, h2, fun h0 => by obtain ⟨b, off, e, hb, hc⟩ := h3 h0; exact ⟨b, off, e, hb, fun j u hu => hk.cell (a := ⟨b, off + j, none⟩) hb (hc j u hu)⟩⟩
theorem Rd.below {B : Nat} (h : Rd w T size v n cs) (hb : Below B w w') (hT : ∀ k, T k → k < B) : Rd w' T size v n cs :=
  h.keeps ⟨hb.size, fun k hk _ => hb.block k (hT k hk)⟩
theorem Rd.calm {B : Nat} (h : Rd w T size v n cs) (hc : Calm B w w') : Rd w' T size v n cs := by
  obtain ⟨hl, A, c, hv, h1, h2, h3⟩ := h
  exact ⟨hl, A, c, hv, h1, h2, fun h0 => by obtain ⟨b, off, e, hb, hcell⟩ := h3 h0; exact ⟨b, off, e, hb, fun j u hu => hc.cell (hcell j u hu)⟩⟩
theorem Rd.alloc (h : Rd w T size v n cs) (o : Obj) : Rd (w.alloc o) T size v n cs := h.keeps ((Keeps.refl _ _).alloc o)
theorem Rd.drew (h : Rd w T size v n cs) : Rd w.drew T size v n cs := h
theorem Rd.set (h : Rd w T size v n cs) {p : Addr} (hp : ¬ T p.block) (u : Value) : Rd (w.setCell p u) T size v n cs := h.keeps ((Keeps.refl _ _).setCell hp u)
theorem Rd.nil (w : World) (T : Nat → Prop) (size : Nat) : Rd w T size (.slice none 0 0) 0 [] := ⟨by simp, none, 0, rfl, Nat.le_refl _, by simp [maxLen], fun h => by simp at h⟩
theorem Rd.fresh {o : Nat} {e : TypeId} {c : Nat} (hl : cs.length = n * size) (hn : n ≤ c) (hc : c ≤ maxLen) (hT : T w.heap.size) (ho : o = w.heap.size) :
    Rd (w.alloc (.cells cs.toArray e)) T size (.slice (some ⟨o, 0, none⟩) n c) n cs := by
  subst ho
  refine ⟨hl, _, c, rfl, hn, hc, fun _ => ⟨_, 0, rfl, hT, fun j u hu => ?_⟩⟩
  rw [Nat.zero_add, (Holds.new w e cs.toArray).cell j]
  simpa using hu
end

/-- A slice that the call may append to: its own row; or one without room, wherever it points. -/
def Mine (w : World) (base : Nat) (e : TypeId) (size : Nat) (v : Value) (n : Nat) (xs : List Value) : Prop :=
  w.ownsRow base e size v n xs ∨ (n = 0 ∧ xs = [] ∧ ∃ S, v = .slice S 0 0)

section
variable {w w' : World} {base : Nat} {e : TypeId} {size n : Nat} {v : Value} {xs : List Value}
theorem Mine.len (h : Mine w base e size v n xs) : xs.length = n * size := by
  rcases h with h | ⟨rfl, rfl, _⟩
  · exact h.1
  · simp
theorem Mine.nil (w : World) (base : Nat) (e : TypeId) (size : Nat) : Mine w base e size (.slice none 0 0) 0 [] := .inr ⟨rfl, rfl, none, rfl⟩
theorem Mine.own (h : Mine w base e size v n xs) (hn : 0 < n) : w.ownsRow base e size v n xs := by
  rcases h with h | ⟨rfl, _⟩
  · exact h
  · omega
/-- Its own block lies as it lay: it is still its own. -/
theorem Mine.keep (h : Mine w base e size v n xs) (hk : ∀ g, v.ownBlock = some g → base ≤ g → g < w.heap.size → w'.heap[g]? = w.heap[g]?) : Mine w' base e size v n xs := by
  rcases h with ⟨h1, h2⟩ | h
  · refine .inl ⟨h1, ?_⟩
    rcases h2 with h2 | ⟨g, cap, cur, rfl, hb, hg, r⟩
    · exact .inl h2
    · exact .inr ⟨g, cap, cur, rfl, hb, by rw [hk g rfl hb (Array.getElem?_eq_some_iff.1 hg).1]; exact hg, r⟩
  · exact .inr h
theorem Mine.calm {B : Nat} (h : Mine w base e size v n xs) (hc : Calm B w w') : Mine w' base e size v n xs := by
  rcases h with ⟨h1, h2⟩ | h
  · refine .inl ⟨h1, ?_⟩
    rcases h2 with h2 | ⟨g, cap, cur, rfl, hb, hg, r⟩
    · exact .inl h2
    · exact .inr ⟨g, cap, cur, rfl, hb, hc.block g _ hg (.inr rfl), r⟩
  · exact .inr h
theorem Mine.alloc (h : Mine w base e size v n xs) (o : Obj) : Mine (w.alloc o) base e size v n xs := h.keep fun _ _ _ hg => Below.heap_alloc _ _ _ hg
theorem Mine.drew (h : Mine w base e size v n xs) : Mine w.drew base e size v n xs := h
theorem Mine.below (h : Mine w base e size v n xs) (hb : Below w.heap.size w w') : Mine w' base e size v n xs := h.keep fun _ _ _ hg => hb.block _ hg
theorem Mine.set (h : Mine w base e size v n xs) {p : Addr} (hp : v.ownBlock ≠ some p.block) (u : Value) : Mine (w.setCell p u) base e size v n xs :=
  h.keep fun _ hg _ _ => Below.heap_setCell _ _ _ _ (fun e => hp (by rw [hg, e]))
/-- What it reads as. -/
theorem Mine.rd {T : Nat → Prop} (h : Mine w base e size v n xs) (hT : ∀ g, v.ownBlock = some g → base ≤ g → g < w.heap.size → T g) : Rd w T size v n xs := by
  rcases h with h | ⟨rfl, rfl, S, rfl⟩
  · refine ⟨h.1, ?_⟩
    rcases h.2 with ⟨rfl, rfl⟩ | ⟨g, cap, cur, rfl, hb, hg, h1, h2, h3, h4⟩
    · have hx : xs = [] := List.eq_nil_of_length_eq_zero (by simpa using h.1)
      subst hx
      exact ⟨none, 0, rfl, Nat.le_refl _, by simp [maxLen], fun h => by simp at h⟩
    · refine ⟨_, cap, rfl, h1, h2, fun _ => ⟨g, 0, rfl, hT g rfl hb (Array.getElem?_eq_some_iff.1 hg).1, fun j u hu => ?_⟩⟩
      have := h.cells (g := g) rfl j u hu
      rwa [show ((⟨g, 0, none⟩ : Addr).add j) = ⟨g, 0 + j, none⟩ by unfold Addr.add; split <;> simp_all] at this
  · exact ⟨by simp, S, 0, rfl, Nat.le_refl _, by simp [maxLen], fun h => by simp at h⟩
theorem Mine.value (h : Mine w base e size v n xs) : ∃ A c, v = .slice A n c := by
  rcases h with h | ⟨rfl, rfl, S, rfl⟩
  · rcases h.2 with ⟨rfl, rfl⟩ | ⟨g, cap, cur, rfl, _⟩
    · exact ⟨_, _, rfl⟩
    · exact ⟨_, _, rfl⟩
  · exact ⟨_, _, rfl⟩
end

theorem addr_add (b off j : Nat) : (⟨b, off, none⟩ : Addr).add j = ⟨b, off + j, none⟩ := by unfold Addr.add; split <;> simp_all

section
variable {P : Program} {w : World}

/-- What an append leaves behind. -/
structure Appended (w : World) (base : Nat) (e : TypeId) (size : Nat) (v : Value) (n : Nat) (xs : List Value) (v' : Value) (w' : World) : Prop where
  mine : Mine w' base e size v' n xs
  below : Below base w w'
  keeps : Keeps (fun k => v.ownBlock ≠ some k) w w'
  at_ : v'.ownBlock = v.ownBlock ∨ ∃ g, v'.ownBlock = some g ∧ w.heap.size ≤ g ∧ g < w'.heap.size
  others : KeepsOthers w w'

theorem run_append_rd (base : Nat) (t ty e : TypeId) (i : TypeInfo) (z : Value) (size bytes : Nat) (ht : P.underlying t = some (.slice e)) (hi : P.info? e = some i) (hz : i.zero = some z)
    (hsize : i.size = size) (hby : i.bytes = bytes) (hzs : z.cells.size = size) (hsz : 0 < size)
    (v : Value) (n : Nat) (xs : List Value) (hm : Mine w base e size v n xs) {T : Nat → Prop} (x : Value) (m : Nat) (news : List Value) (hx : Rd w T size x m news) (h1 : ∀ u ∈ news, u.oneCell' = true)
    (hbytes : (n + m) * bytes ≤ 140737488355328) (hb1 : 0 < bytes) (hbase : base ≤ w.heap.size) :
    ∃ v' w', (Builtin.append_ #[t, t] ty #[v, x]).run P w = .ok v' w' ∧ Appended w base e size v (n + m) (xs ++ news) v' w' := by
  have h63 : n + m ≤ maxLen := by
    have : n + m ≤ (n + m) * bytes := Nat.le_mul_of_pos_right _ hb1
    simp only [maxLen]; omega
  obtain ⟨hl, A, c, rfl, hc1, hc2, hcells⟩ := hx
  by_cases hm0 : m = 0
  · subst hm0
    have hnews : news = [] := List.eq_nil_of_length_eq_zero (by simpa using hl)
    subst hnews
    have hrun : ∃ v0, v = v0 ∧ (Builtin.append_ #[t, t] ty #[v, .slice A 0 c]).run P w = .ok v w := by
      refine ⟨v, rfl, ?_⟩
      have hf : ∀ A : Option Addr, (Builtin.firstCells i.size 0 (.slice A 0 c)).run P w = .ok #[] w := by
        intro A
        cases A with
        | none => simp [Builtin.firstCells]
        | some a => exact run_firstCells_some (P := P) w i.size 0 a 0 c [] (by simp) (by simp)
      rcases hm with h | ⟨rfl, rfl, S, rfl⟩
      · rcases h.2 with ⟨rfl, rfl⟩ | ⟨g, cap, cur, rfl, _, _, hnc, _⟩
        · simp [Builtin.append_, run_underlying ht, sizeOf, typeInfo, hi, Builtin.lenOf, hf]
        · simp [Builtin.append_, run_underlying ht, sizeOf, typeInfo, hi, Builtin.lenOf, hnc, hf, storeCells]
      · cases S with
        | none => simp [Builtin.append_, run_underlying ht, sizeOf, typeInfo, hi, Builtin.lenOf, hf]
        | some a => simp [Builtin.append_, run_underlying ht, sizeOf, typeInfo, hi, Builtin.lenOf, hf, storeCells]
    obtain ⟨_, _, hrun⟩ := hrun
    exact ⟨v, w, hrun, by simpa using hm, Below.refl _ _, Keeps.refl _ _, .inl rfl, KeepsOthers.refl _⟩
  · have hpos : 0 < news.length := by
      rw [hl]
      exact Nat.mul_pos (by omega) hsz
    obtain ⟨b, off, rfl, _, hcell⟩ := hcells hpos
    have hnews : ∀ j u, news[j]? = some u → w.cell? ((⟨b, off, none⟩ : Addr).add j) = some u := by intro j u hu; rw [addr_add]; exact hcell j u hu
    rcases hm with h | ⟨rfl, rfl, S, rfl⟩
    · obtain ⟨v', w', hrun, h2, h3, _, h5⟩ := run_append_own_at (P := P) w base t ty e i z size bytes ht hi hz hsize hby hzs hsz v n xs h ⟨b, off, none⟩ m c news hl hnews h1 h63 hbytes hbase
      refine ⟨v', w', hrun, .inl h2, (Below.refl base w).grown h3 hbase (fun k hk => (h.lt k hk).1), ⟨h3.size, fun k hk hl => h3.block k hl (fun e => hk e.symm)⟩, ?_, KeepsOthers.of_grownBy h3 ?_⟩
      · rcases h5 with h5 | h5
        · exact .inl h5
        · exact .inr ⟨_, h5, Nat.le_refl _, (h2.lt _ h5).2⟩
      · intro j o hj ho
        rcases h.2 with ⟨rfl, _⟩ | ⟨g, cap, cur, rfl, _, hg, _⟩
        · simp [Value.ownBlock] at hj
        · simp [Value.ownBlock] at hj
          subst hj
          rw [hg] at ho; cases ho; rfl
    · cases S with
      | none =>
        obtain ⟨v', w', hrun, h2, h3, _, h5⟩ := run_append_own_at (P := P) w base t ty e i z size bytes ht hi hz hsize hby hzs hsz (.slice none 0 0) 0 [] (World.ownsRow_nil w base e size) ⟨b, off, none⟩ m c news hl hnews h1 h63 hbytes hbase
        refine ⟨v', w', hrun, .inl h2, (Below.refl base w).grown h3 hbase (fun k hk => by simp [Value.ownBlock] at hk), ⟨h3.size, fun k _ hl => h3.block k hl (by simp [Value.ownBlock])⟩, ?_, KeepsOthers.of_grownBy h3 (fun j o hj => by simp [Value.ownBlock] at hj)⟩
        rcases h5 with h5 | h5
        · exact .inl h5
        · exact .inr ⟨_, h5, Nat.le_refl _, (h2.lt _ h5).2⟩
      | some a =>
        obtain ⟨v', w', hrun, h2, h3⟩ := run_append_arg_grows (P := P) w t ty e i z size bytes ht hi hz hsize hby hzs hsz a 0 0 [] (by simp) (by simp) ⟨b, off, none⟩ m c news hl hnews (by omega) h63 hbytes
        have h2' : w'.ownsRow base e size v' (0 + m) ([] ++ news) := by
          refine ⟨h2.1, ?_⟩
          rcases h2.2 with h | ⟨g, cap, cur, hv, hb, r⟩
          · exact .inl h
          · exact .inr ⟨g, cap, cur, hv, Nat.le_trans hbase hb, r⟩
        refine ⟨v', w', hrun, .inl h2', (Below.refl base w).grown h3 hbase (fun k hk => by cases hk), ⟨h3.size, fun k _ hl => h3.block k hl (by simp)⟩, ?_, KeepsOthers.of_grownBy h3 (fun j o hj => by cases hj)⟩
        rcases h2.2 with ⟨_, h0⟩ | ⟨g, cap, cur, hv, hb, hg, _⟩
        · omega
        · exact .inr ⟨g, by rw [hv]; rfl, hb, (Array.getElem?_eq_some_iff.1 hg).1⟩

theorem wp_append_rd {o : Oper} {a : Act} {K : Act → World → Prop} {Q : Exit → Act → World → Prop} (s x : Operand) (t : TypeId)
    (ho : o.op = .call { callee := .builtin .append, args := #[s, x], argTypes := #[t, t] })
    (base : Nat) (e : TypeId) (i : TypeInfo) (z : Value) (size bytes : Nat) (ht : P.underlying t = some (.slice e)) (hi : P.info? e = some i) (hz : i.zero = some z)
    (hsize : i.size = size) (hby : i.bytes = bytes) (hzs : z.cells.size = size) (hsz : 0 < size)
    (v : Value) (n : Nat) (xs : List Value) (hs : a.eval s = v) (hm : Mine w base e size v n xs) {T : Nat → Prop} (y : Value) (m : Nat) (news : List Value) (hy : a.eval x = y) (hx : Rd w T size y m news) (h1 : ∀ u ∈ news, u.oneCell' = true)
    (hbytes : (n + m) * bytes ≤ 140737488355328) (hb1 : 0 < bytes) (hbase : base ≤ w.heap.size)
    (h : ∀ v' w', Appended w base e size v (n + m) (xs ++ news) v' w' → K (a.put o.dst v') w') : o.wp P a w K Q := by
  obtain ⟨v', w', hrun, h2⟩ := run_append_rd (P := P) (w := w) base t o.type e i z size bytes ht hi hz hsize hby hzs hsz v n xs hm y m news hx h1 hbytes hb1 hbase
  unfold Oper.wp execOp
  simp only [ho, resolve, invoke, builtin, Sem.run_bind, Sem.run_pure, Result.andThen_ok, List.map_toArray, List.map_cons, List.map_nil, hs, hy, hrun]
  exact h v' w' h2

/-- APPEND, at the operation, in a plain walk. -/
theorem wpList_append_rd {ops : Array Oper} {rest : List Oper} {o : Oper} {a : Act} {Q : Exit → Act → World → Prop} (hgd : o.guard = none) (s x : Operand) (t : TypeId)
    (ho : o.op = .call { callee := .builtin .append, args := #[s, x], argTypes := #[t, t] })
    (base : Nat) (e : TypeId) (i : TypeInfo) (z : Value) (size bytes : Nat) (ht : P.underlying t = some (.slice e)) (hi : P.info? e = some i) (hz : i.zero = some z)
    (hsize : i.size = size) (hby : i.bytes = bytes) (hzs : z.cells.size = size) (hsz : 0 < size)
    (v : Value) (n : Nat) (xs : List Value) (hs : a.eval s = v) (hm : Mine w base e size v n xs) {T : Nat → Prop} (y : Value) (m : Nat) (news : List Value) (hy : a.eval x = y) (hx : Rd w T size y m news) (h1 : ∀ u ∈ news, u.oneCell' = true)
    (hbytes : (n + m) * bytes ≤ 140737488355328) (hb1 : 0 < bytes) (hbase : base ≤ w.heap.size)
    (h : ∀ v' w', Appended w base e size v (n + m) (xs ++ news) v' w' → wpList P ops Q rest (a.put o.dst v') w') : wpList P ops Q (o :: rest) a w :=
  wpList_plain hgd fun _ hK => wp_append_rd s x t ho base e i z size bytes ht hi hz hsize hby hzs hsz v n xs hs hm y m news hy hx h1 hbytes hb1 hbase fun v' w' h2 => hK _ _ (h v' w' h2)

/-- APPEND, inside a fence (in a round too). -/
theorem wpListIn_append_rd {F : Fence} {q : Nat} {ops : Array Oper} {rest : List Oper} {o : Oper} {a : Act} {Q : Exit → Act → World → Prop} (hgd : o.guard = none) (s x : Operand) (t : TypeId)
    (ho : o.op = .call { callee := .builtin .append, args := #[s, x], argTypes := #[t, t] })
    (base : Nat) (e : TypeId) (i : TypeInfo) (z : Value) (size bytes : Nat) (ht : P.underlying t = some (.slice e)) (hi : P.info? e = some i) (hz : i.zero = some z)
    (hsize : i.size = size) (hby : i.bytes = bytes) (hzs : z.cells.size = size) (hsz : 0 < size)
    (v : Value) (n : Nat) (xs : List Value) (hs : a.eval s = v) (hm : Mine w base e size v n xs) {T : Nat → Prop} (y : Value) (m : Nat) (news : List Value) (hy : a.eval x = y) (hx : Rd w T size y m news) (h1 : ∀ u ∈ news, u.oneCell' = true)
    (hbytes : (n + m) * bytes ≤ 140737488355328) (hb1 : 0 < bytes) (hbase : base ≤ w.heap.size)
    (h : ∀ v' w', Appended w base e size v (n + m) (xs ++ news) v' w' → wpListIn F q P ops Q rest (a.put o.dst v') w') : wpListIn F q P ops Q (o :: rest) a w := by
  refine wpListIn_plain hgd fun K hK' => ?_
  obtain ⟨v', w', hrun, h2⟩ := run_append_rd (P := P) (w := w) base t o.type e i z size bytes ht hi hz hsize hby hzs hsz v n xs hm y m news hx h1 hbytes hb1 hbase
  unfold Oper.wpIn
  refine ⟨?_, ?_⟩
  · simp [Oper.about, ho, resolve, Target.leads, Sem.run_pure]
  · rw [Oper.semAt_plain F _ _ (by rw [ho]; intro c hc'; cases hc')]
    simp [execOp, ho, resolve, invoke, builtin, hs, hy, hrun, Result.andThen]
    exact hK' _ _ (h v' w' h2)
end
end Go.Proofs.Ytaagkbgbghleiaa
