/-
  Own nodes put behind own nodes; arena.join.
-/
import Derived.Test.YtihblifkbljgaaaTreeOwned2
namespace Go.Proofs.Ytihblifkbljgaaa
open Go.RowKit Go.Shelf

theorem allCells_append (t1 t2 : List Node) (l1 l2 : List Value) (h : l1.length = t1.length) : allCells (t1 ++ t2) (l1 ++ l2) = allCells t1 l1 ++ allCells t2 l2 := by
  unfold allCells
  rw [List.zip_append (by omega), List.flatMap_append]

theorem Own.append {w : World} {B B2 : Nat} {v u : Value} {t1 t2 : List Node} (h1 : Own w B v t1) (h2 : Own w B2 u t2) (hB : B ≤ B2) (hv : ∀ g, v.ownBlock = some g → g < B2) :
    ∃ xs news, Mine w B 29 5 v t1.length xs ∧ Rd w (Old w) 5 u t2.length news ∧ (∀ x ∈ news, x.oneCell' = true) ∧
      ∀ v' w', Appended w B 29 5 v (t1.length + t2.length) (xs ++ news) v' w' → Own w' B v' (t1 ++ t2) := by
  obtain ⟨l1, a1, a2, a3⟩ := h1
  obtain ⟨l2, b1, b2, b3⟩ := h2
  have hone : ∀ l ∈ l2, l.oneCell' = true := by
    intro l hl
    obtain ⟨i, hi, e⟩ := List.mem_iff_getElem.1 hl
    have hx := List.getElem?_eq_getElem (show i < t2.length by omega)
    obtain ⟨A, c, rfl⟩ := (b3 i _ l hx (by rw [List.getElem?_eq_getElem hi, e])).1.value
    rfl
  refine ⟨_, _, a2, b2.rd (fun g _ _ h => h), nd_oneCell t2 l2 hone, fun v' w' hA => ⟨l1 ++ l2, by simp [a1, b1], ?_, fun i x l hx hl => ?_⟩⟩
  · rw [allCells_append _ _ _ _ a1, List.length_append]
    exact hA.mine
  · have key : ∀ (b : Nat) (l : Value), B ≤ b → Mine w b 59 2 l x.lead.length (x.lead.flatMap pcCells) → (∀ g, l.ownBlock = some g → v.ownBlock ≠ some g ∧ b ≤ g ∧ g < w.heap.size) →
        Mine w' B 59 2 l x.lead.length (x.lead.flatMap pcCells) ∧ ∀ g, l.ownBlock = some g → v'.ownBlock ≠ some g ∧ B ≤ g ∧ g < w'.heap.size := by
      intro b l hb hm hg
      refine ⟨(hm.base hb).keep fun g e _ hlt => hA.keeps.block g (hg g e).1 hlt, fun g e => ?_⟩
      obtain ⟨q1, q2, q3⟩ := hg g e
      have := hA.keeps.size
      refine ⟨fun e2 => ?_, by omega, by omega⟩
      rcases hA.at_ with h | ⟨g', h, hge, _⟩
      · rw [h] at e2; exact q1 e2
      · rw [h] at e2; cases e2; omega
    by_cases hi : i < t1.length
    · rw [List.getElem?_append_left hi] at hx
      rw [List.getElem?_append_left (by omega)] at hl
      obtain ⟨p1, p2⟩ := a3 i x l hx hl
      exact key B l (Nat.le_refl _) p1 p2
    · rw [List.getElem?_append_right (by omega)] at hx
      rw [List.getElem?_append_right (by omega), a1] at hl
      obtain ⟨p1, p2⟩ := b3 _ x l hx hl
      exact key B2 l hB p1 (fun g e => by
        obtain ⟨q1, q2, q3⟩ := p2 g e
        exact ⟨fun e2 => by have := hv g e2; omega, q2, q3⟩)
theorem Own.nil (w : World) (B : Nat) : Own w B (.slice none 0 0) [] := ⟨[], rfl, Mine.nil _ _ _ _, fun i x l h => by simp at h⟩

/-- v reads as slices that read as the lists of nodes. -/
def Parts (w : World) (T : Nat → Prop) (v : Value) (ts : List (List Node)) : Prop :=
  ∃ vs : List Value, vs.length = ts.length ∧ Rd w T 1 v ts.length vs ∧ ∀ (i : Nat) (t : List Node) (u : Value), ts[i]? = some t → vs[i]? = some u → Nds w T u t
theorem Parts.below {w w' : World} {B : Nat} {v : Value} {ts : List (List Node)} (h : Parts w (fun k => k < B) v ts) (hb : Below B w w') : Parts w' (fun k => k < B) v ts := by
  obtain ⟨vs, h1, h2, h3⟩ := h
  exact ⟨vs, h1, h2.below hb (fun _ h => h), fun i t u a b => (h3 i t u a b).below hb (fun _ h => h)⟩
theorem Parts.at_ {w : World} {T : Nat → Prop} {A : Option Addr} {n c : Nat} {ts : List (List Node)} (h : Parts w T (.slice A n c) ts) {k : Nat} (hk : k < ts.length) : ∃ b off u, A = some ⟨b, off, none⟩ ∧ w.cell? ⟨b, off + k, none⟩ = some u ∧ Nds w T u ts[k] := by
  obtain ⟨vs, h1, ⟨hl, A', c', hv, h2, h3, h4⟩, h5⟩ := h
  simp only [Value.slice.injEq] at hv
  obtain ⟨rfl, rfl, rfl⟩ := hv
  obtain ⟨b, off, e, hT, hc⟩ := h4 (by omega)
  have hu := List.getElem?_eq_getElem (show k < vs.length by omega)
  exact ⟨b, off, _, e, hc k _ hu, h5 k _ _ (List.getElem?_eq_getElem hk) hu⟩

set_option maxRecDepth 20000 in
set_option maxHeartbeats 4000000 in
theorem arena_join (v : Value) (ts : List (List Node)) (w : World) (hlen : ts.length ≤ 140737488355) (hall : ts.flatten.length ≤ 1000000000) (hF : ∀ t ∈ ts, Fit t) (hN : Parts w (fun k => k < w.heap.size) v ts) :
    Calls Try.prog 60 #[v] w fun r w' => (∃ u, r = .returned u ∧ Hid (Own w' w.heap.size u ts.flatten)) ∧ Below w.heap.size w w' := by
  have HN := hidden hN
  obtain ⟨vs, hvl, hR, _⟩ := hN
  obtain ⟨A, c, rfl, hc1, hc2⟩ := hR.val
  unfold maxLen at hc2
  have HF := hidden hF
  have HI := node_info
  have HL : Hid (∀ k (hk : k < ts.length), (ts.take (k + 1)).flatten = (ts.take k).flatten ++ ts[k] ∧ (ts.take k).flatten.length + ts[k].length ≤ 1000000000) := hidden (fun k hk => by
    have e : (ts.take (k + 1)).flatten = (ts.take k).flatten ++ ts[k] := by rw [List.take_succ_eq_append_getElem hk, List.flatten_append]; simp
    refine ⟨e, ?_⟩
    rw [← List.length_append, ← e]
    have : ts.flatten.length = (ts.take (k + 1)).flatten.length + (ts.drop (k + 1)).flatten.length := by rw [← List.length_append, ← List.flatten_append, List.take_append_drop]
    omega)
  clear hR hF hall
  go_enter Try.func60, Try.ntmps60
  go_wp2
  go_loopw [3, 8] (fun o ii wr => ∃ k : Nat, k ≤ ts.length ∧ ii = .int .i64 k ∧ Hid (Own wr w.heap.size o (ts.take k).flatten) ∧ Hid (∀ g, o.ownBlock = some g → g < wr.heap.size) ∧ Below w.heap.size w wr) (fun _ ii _ => ts.length - (intOf ii).toNat)
  case atStart => exact ⟨0, by omega, rfl, hidden (Own.nil _ _), hidden (fun g hg => by cases hg), Below.refl _ _⟩
  case round =>
    obtain ⟨k, hk, rfl, HO, HG, hb⟩ := hrel
    have hbz := hb.size
    by_cases hlt : k < ts.length
    · obtain ⟨b, off, u, rfl, x0, hnd⟩ := (HN.out.below hb).at_ hlt
      obtain ⟨hfl, hlen2⟩ := HL.out k hlt
      have HFL := hidden hfl
      have hft := HF.out _ (List.getElem_mem hlt)
      have HW := hidden (arena_owned u ts[k] wr (by omega) hft (hnd.mono (fun q hq => Nat.lt_of_lt_of_le hq hbz)))
      obtain ⟨A2, c2, rfl, f1, f2⟩ := hnd.value
      unfold maxLen at f2
      clear hnd hfl hft
      generalize ts[k] = t at *
      generalize (ts.take k).flatten = t0 at *
      go_wp2_with fail
      refine HW.out.mono ?_
      rintro r w1 ⟨⟨u, rfl, HU⟩, hb1⟩
      obtain ⟨xs, news, HM, HX, H1, hnext⟩ := (HO.out.below hb1).append HU.out hbz HG.out
      replace HM := hidden HM; replace HX := hidden HX; replace H1 := hidden H1; have HQ := hidden hnext
      replace hb := hb.trans (hb1.mono hbz)
      have hbz1 := hb.size
      clear hnext HW
      go_wp2_with (at_builtin; refine wpList_append_all rfl _ _ 22 29 rfl (by kernel_rfl) HI rfl (by decide) w.heap.size _ _ _ HM _ _ _ HX H1 rfl rfl (by omega) (by decide) hbz1 ?_; intro v' w' hA)
      go_roundw
      case rel =>
        refine ⟨k + 1, by omega, by go_num, by rw [HFL.out]; exact hidden (HQ.out _ _ hA.out), hidden (fun g hg => ?_), hb.trans hA.out.below⟩
        rcases hA.out.at_ with h | ⟨g', h, _, h2⟩
        · rw [h] at hg
          have := HG.out g hg
          have := hb1.size
          have := hA.out.keeps.size
          omega
        · rw [h] at hg; cases hg; exact h2
      case measure => simp [intOf]; omega
    · obtain rfl : k = ts.length := by omega
      rw [List.take_length] at HO
      go_wp2
      go_ret
      exact ⟨⟨_, rfl, HO⟩, hb⟩
end Go.Proofs.Ytihblifkbljgaaa
