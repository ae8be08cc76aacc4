/-
  Rows of rows of whole numbers: read; the call's own, with one row more, or another one in the place of one. SameLists.
-/
import Derived.Test.YtdbbjlphlbndkaaDoorB1
import Derived.Test.YtdbbjlphlbndkaaDoorHeadC
namespace Go.Proofs.YtdbbjlphlbndkaaDoor
open Go.RowKit Go.Shelf
attribute [local simp] wide_fn

def rowI : Rec (List Int) where
  k := 1
  cells _ v := [v]
  len := by intros; rfl
  pos := by decide
  kin := 1
  m := List.length
  inner l := l.flatMap (one1 intV)
  one := by intro x l h u hu; simp at hu; subst hu; exact h
theorem rowI_all : ∀ (F : List (List Int)) (ls : List Value), ls.length = F.length → rowI.all F ls = ls := by
  intro F
  induction F with
  | nil => intro ls h; obtain rfl : ls = [] := List.eq_nil_of_length_eq_zero (by simpa using h); rfl
  | cons a F ih =>
    intro ls h
    match ls, h with
    | l :: ls, h =>
      have := ih ls (by simpa using h)
      unfold Rec.all at this ⊢
      rw [List.zip_cons_cons, List.flatMap_cons, this]
      rfl
abbrev Rows2 (w : World) (T : Nat → Prop) (v : Value) (F : List (List Int)) : Prop := Recs rowI w T v F
theorem Rows2.mk' {w : World} {T : Nat → Prop} {v : Value} {F : List (List Int)} (ls : List Value) (hl : ls.length = F.length) (h : Rd w T 1 v F.length ls) (hi : ∀ (i : Nat) (x : List Int) (l : Value), F[i]? = some x → ls[i]? = some l → Ints w T l x) : Rows2 w T v F :=
  ⟨ls, hl, by rw [rowI_all F ls hl]; exact h, hi⟩
theorem Rows2.row {w : World} {T : Nat → Prop} {A : Option Addr} {n c : Nat} {F : List (List Int)} (h : Rows2 w T (.slice A n c) F) {i : Nat} {l : List Int} (hx : F[i]? = some l) : ∃ b off u, A = some ⟨b, off, none⟩ ∧ T b ∧ w.cell? ⟨b, off + i, none⟩ = some u ∧ Ints w T u l := by
  obtain ⟨b, off, u, e, hT, hc, hr⟩ := Recs.at_ h hx
  refine ⟨b, off, u, e, hT, ?_, hr⟩
  have := hc 0 u rfl
  rwa [show rowI.k = 1 from rfl, Nat.mul_one, Nat.add_zero] at this
/-- Rows of the call's own row; no row lies in that row's block, nor in those of X. -/
def Rows2M (X : Nat → Prop) (w : World) (base : Nat) (v : Value) (F : List (List Int)) : Prop :=
  ∃ ls : List Value, ls.length = F.length ∧ Mine w base 22 1 v F.length ls ∧ (∀ g, v.ownBlock = some g → ¬ X g ∧ g < w.heap.size) ∧
    ∀ (i : Nat) (x : List Int) (l : Value), F[i]? = some x → ls[i]? = some l → Ints w (fun b => b < w.heap.size ∧ v.ownBlock ≠ some b ∧ ¬ X b) l x
section
variable {X : Nat → Prop} {w w' : World} {base : Nat} {v : Value} {F : List (List Int)}
theorem Rows2M.below (h : Rows2M X w base v F) (hb : Below w.heap.size w w') : Rows2M X w' base v F := by
  obtain ⟨ls, h1, h2, h3, h4⟩ := h
  have hz := hb.size
  exact ⟨ls, h1, h2.below hb, fun g hg => ⟨(h3 g hg).1, by have := (h3 g hg).2; omega⟩, fun i x l a b => (Rd.below (h4 i x l a b) hb (fun _ h => h.1)).mono (fun k hk => ⟨by omega, hk.2⟩)⟩
theorem Rows2M.rows (h : Rows2M X w base v F) : Rows2 w (fun b => b < w.heap.size ∧ ¬ X b) v F := by
  obtain ⟨ls, h1, h2, h3, h4⟩ := h
  exact Rows2.mk' ls h1 (h2.rd (fun g hg _ hlt => ⟨hlt, (h3 g hg).1⟩)) fun i x l a b => (h4 i x l a b).mono (fun k hk => ⟨hk.1, hk.2.2⟩)
theorem Rows2M.old (h : Rows2M X w base v F) : Rows2 w (Old w) v F := Recs.mono h.rows (fun _ h => h.1)
theorem Rows2M.value (h : Rows2M X w base v F) : ∃ A c, v = .slice A F.length c := by
  obtain ⟨ls, h1, h2, _⟩ := h
  exact h2.value
theorem Rows2M.empty (X : Nat → Prop) (w : World) (base : Nat) {S : Option Addr} (hS : ∀ g, (Value.slice S 0 0).ownBlock = some g → ¬ X g ∧ g < w.heap.size) : Rows2M X w base (.slice S 0 0) [] :=
  ⟨[], rfl, .inr ⟨rfl, rfl, S, rfl⟩, hS, fun i x l a _ => by simp at a⟩
end
theorem rowII_info : Hid (TyInfo Tryd.prog 22 (.slice none 0 0) 1 24) := hidden (info_parts (show (Tryd.prog.info? 22).map (fun i => (i.zero, i.size, i.bytes)) = some (some (.slice none 0 0), 1, 24) by kernel_rfl))
/-- One row is put behind the call's own. -/
theorem wpList_append_ii {X : Nat → Prop} {w W0 : World} {ops : Array Oper} {rest : List Oper} {o : Oper} {a : Act} {Q : Exit → Act → World → Prop} (hgd : o.guard = none) (s x : Operand)
    (ho : o.op = .call { callee := .builtin .append, args := #[s, x], argTypes := #[37, 37] }) (base : Nat) (v : Value) (F : List (List Int)) (HM : Hid (Rows2M X W0 base v F)) (u : Value) (l : List Int) (HU : Hid (Ints W0 (fun b => b < W0.heap.size ∧ v.ownBlock ≠ some b ∧ ¬ X b) u l)) {e' : TypeId} (hw : w = W0.alloc (.cells #[u] e')) (hs : a.eval s = v) {g : Nat}
    (hx : a.eval x = .slice (some ⟨g, 0, none⟩) 1 1) (hg : g = W0.heap.size) (hn : F.length ≤ 1000000000) (hb : base ≤ W0.heap.size) (hX : ∀ k, X k → k < W0.heap.size)
    (h : ∀ v' w', Hid (Rows2M X w' base v' (F ++ [l])) → Below base W0 w' → Hid (Keeps (fun k => v.ownBlock ≠ some k) W0 w') → wpList Tryd.prog ops Q rest (a.put o.dst v') w') : wpList Tryd.prog ops Q (o :: rest) a w := by
  obtain ⟨i, hi, hz, hsz, hby⟩ := rowII_info.out
  subst hw hg
  obtain ⟨ls, h1, h2, h3, h4⟩ := HM.out
  have hone : ∀ y ∈ [u], y.oneCell' = true := by
    intro y hy
    rw [List.mem_singleton] at hy
    subst hy
    obtain ⟨_, _, rfl, _, _⟩ := HU.out.val
    rfl
  refine wpList_append_rd hgd s x 37 ho base 22 i _ 1 24 (by kernel_rfl) hi hz hsz hby rfl (by decide) v F.length _ hs (h2.alloc _) (T := fun _ => True) _ 1 [u] hx ?_ hone (by omega) (by decide) (Nat.le_trans hb (by simp)) (fun v' w' hA => ?_)
  · exact Rd.fresh (cs := [u]) (n := 1) (size := 1) rfl (Nat.le_refl _) (by decide) trivial rfl
  · have hz1 : W0.heap.size < (W0.alloc (.cells #[u] e')).heap.size := by simp
    have hz2 := hA.keeps.size
    have hk : ∀ {n : Nat} {y : Value} {cs : List Value}, Rd W0 (fun b => b < W0.heap.size ∧ v.ownBlock ≠ some b ∧ ¬ X b) 1 y n cs → Rd w' (fun b => b < w'.heap.size ∧ v'.ownBlock ≠ some b ∧ ¬ X b) 1 y n cs := fun hr => by
      refine ((hr.keeps ((Keeps.refl _ _).alloc (.cells #[u] e'))).keeps (w' := w') ⟨hz2, fun k hk hl => hA.keeps.block k hk.2.1 hl⟩).mono (fun k hk => ⟨by omega, ?_, hk.2.2⟩)
      rcases hA.at_ with e | ⟨q, e, hq, _⟩
      · rw [e]; exact hk.2.1
      · rw [e]; intro e2; cases e2; omega
    refine h v' w' (hidden ⟨ls ++ [u], by simp [h1], by rw [List.length_append]; exact hA.mine, fun q hq => ?_, fun i y m hy hm => ?_⟩) (((Below.refl _ _).alloc hb _).trans hA.below) (hidden (((Keeps.refl _ _).alloc _).trans hA.keeps))
    · rcases hA.at_ with e | ⟨z, e, hz, hz3⟩
      · have := h3 q (by rw [← e]; exact hq)
        exact ⟨this.1, by omega⟩
      · rw [e] at hq
        cases hq
        exact ⟨fun hx => by have := hX q hx; omega, hz3⟩
    · by_cases hlt : i < F.length
      · rw [List.getElem?_append_left hlt] at hy
        rw [List.getElem?_append_left (by omega)] at hm
        exact hk (h4 i y m hy hm)
      · rw [List.getElem?_append_right (by omega)] at hy hm
        have hi0 : i - F.length = 0 := by have := (List.getElem?_eq_some_iff.1 hy).1; simp at this; omega
        rw [hi0] at hy
        rw [h1, hi0] at hm
        simp at hy hm
        subst hy hm
        exact hk HU.out
/-- Another row in the place of one. -/
theorem Rows2M.put {X : Nat → Prop} {w : World} {base : Nat} {v : Value} {F : List (List Int)} (h : Rows2M X w base v F) {i : Nat} (hi : i < F.length) {u : Value} {l : List Int} (hu : Ints w (fun b => b < w.heap.size ∧ v.ownBlock ≠ some b ∧ ¬ X b) u l) :
    ∃ g c u0, v = .slice (some ⟨g, 0, none⟩) F.length c ∧ F.length ≤ c ∧ c ≤ maxLen ∧ base ≤ g ∧ g < w.heap.size ∧ ¬ X g ∧ w.cell? ⟨g, i, none⟩ = some u0 ∧ w.frozen? ⟨g, i, none⟩ = false ∧ Rows2M X (w.setCell ⟨g, i, none⟩ u) base v (F.set i l) := by
  obtain ⟨ls, h1, h2, h3, h4⟩ := h
  have h0 : 0 < F.length := by omega
  obtain ⟨g, cap, cur, rfl, hb, hg, c1, c2, c3, c4⟩ : ∃ g cap cur, v = .slice (some ⟨g, 0, none⟩) F.length cap ∧ base ≤ g ∧ w.heap[g]? = some (.cells cur 22 (0, 0)) ∧ F.length ≤ cap ∧ cap ≤ maxLen ∧ _ ∧ _ := by
    rcases (h2.own h0).2 with ⟨_, e⟩ | ⟨g, cap, cur, hv, hb, hg, c1, c2, c3, c4⟩
    · omega
    · exact ⟨g, cap, cur, hv, hb, hg, c1, c2, c3, c4⟩
  have hgs := h3 g rfl
  have hl : ls[i]? = some (ls[i]'(by omega)) := List.getElem?_eq_getElem _
  have hc5 := (h2.own h0).cells (g := g) rfl i _ hl
  rw [addr_add, Nat.zero_add] at hc5
  refine ⟨g, cap, _, rfl, c1, c2, hb, hgs.2, hgs.1, hc5, Holds.frozen hg _, ls.set i u, by simp [h1], ?_, fun q hq => ⟨(h3 q hq).1, by have := (h3 q hq).2; simp [World.setCell]; omega⟩, fun j y m hy hm => ?_⟩
  · rw [List.length_set]
    exact .inl ((h2.own h0).stored i u).1
  · have hk : ∀ {n : Nat} {y : Value} {cs : List Value}, Rd w (fun b => b < w.heap.size ∧ (Value.slice (some ⟨g, 0, none⟩) F.length cap).ownBlock ≠ some b ∧ ¬ X b) 1 y n cs → Rd (w.setCell ⟨g, i, none⟩ u) (fun b => b < (w.setCell ⟨g, i, none⟩ u).heap.size ∧ (Value.slice (some ⟨g, 0, none⟩) F.length cap).ownBlock ≠ some b ∧ ¬ X b) 1 y n cs := fun hr => by
      refine (Rd.set (p := ⟨g, i, none⟩) hr (fun h => h.2.1 rfl) u).mono (fun k hk => ⟨by simp [World.setCell]; omega, hk.2⟩)
    rw [List.getElem?_set] at hy hm
    by_cases e : i = j
    · subst e
      rw [if_pos rfl, if_pos hi] at hy
      rw [if_pos rfl, if_pos (by omega)] at hm
      cases hy; cases hm
      exact hk hu
    · rw [if_neg e] at hy hm
      exact hk (h4 j y m hy hm)

end Go.Proofs.YtdbbjlphlbndkaaDoor
