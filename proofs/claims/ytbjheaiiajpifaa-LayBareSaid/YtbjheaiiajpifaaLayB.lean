/-
  The first leaf of a part (the document's first); a style with an item more (lay.style.plus).
-/
import Derived.Test.YtbjheaiiajpifaaSameL
namespace Go.Proofs.Ytbjheaiiajpifaa.T
open Go.RowKit Go.Shelf

/-- The first of n places from k on that has a text. -/
def leafFrom (t : List Node) : Nat → Nat → Int
  | 0, _ => -1
  | n + 1, k => if isText t k = true then (k : Int) else leafFrom t n (k + 1)
def firstLeaf (t : List Node) (i : Nat) : Int := leafFrom t (sz t i) i
theorem leafFrom_yes {t : List Node} {n k : Nat} (h : isText t k = true) : leafFrom t (n + 1) k = (k : Int) := by unfold leafFrom; rw [if_pos h]
theorem leafFrom_no {t : List Node} {n k : Nat} (h : isText t k = false) : leafFrom t (n + 1) k = leafFrom t n (k + 1) := by
  conv => lhs; unfold leafFrom
  rw [if_neg (by rw [h]; decide)]

set_option maxRecDepth 20000 in
set_option maxHeartbeats 4000000 in
theorem ref_first38 (v : Value) (t : List Node) (i : Nat) (w : World) (h4 : t.length ≤ 140737488355) (hT : Tree t) (hi : i < t.length) (hN : Nds w (Old w) v t) :
    Calls Try.prog 65 #[v, .int .i64 (i : Int)] w fun r w' => r = .returned (.int .i64 (firstLeaf t i)) ∧ w = w' := by
  obtain ⟨b, off, c, rfl, hc1, hc2, _, hat⟩ := hN.open_ (by intro e; subst e; simp at hi)
  unfold maxLen at hc2
  have hn := tree_node hT hi
  have HSz := hidden (hN.size_cell hT hi)
  have HKd := hidden (fun k (hk : k < t.length) => (hat k _ (List.getElem?_eq_getElem hk)).choose_spec.1)
  have HTx := hidden (fun k (hk : k < t.length) => show isText t k = decide (textedK t[k].kind) from by unfold isText; rw [List.getElem?_eq_getElem hk])
  have HR := hidden (fun (kd : Int) => ref_texted kd w)
  unfold firstLeaf
  generalize sz t i = S at *
  have HF : Hid (leafFrom t S i = leafFrom t (i + S - i) i) := hidden (by rw [Nat.add_sub_cancel_left])
  rw [HF.out]
  generalize hL : leafFrom t (i + S - i) i = R
  have HL := hidden hL
  have x2 := HSz.out
  clear hat hN hT HF hL
  go_enter Try.func65, Try.ntmps65
  go_wp2
  go_loopg [5] S (fun gh kk wr => ∃ k : Nat, i ≤ k ∧ k ≤ i + S ∧ gh = i + S - k ∧ kk = .int .i64 k ∧ Hid (leafFrom t (i + S - k) k = R) ∧ wr = w)
  case atStart => exact ⟨i, by omega, by omega, by omega, rfl, HL, rfl⟩
  case round =>
    clear HL
    obtain ⟨k, hik, hk, rfl, rfl, HL, rfl⟩ := hrel
    by_cases hlt : k < i + S
    · have hkt : k < t.length := by omega
      have y0 := HKd.out k hkt
      have HT1 := hidden (HR.out (t[k]).kind)
      have hx := HTx.out k hkt
      obtain ⟨m, hm⟩ : ∃ m, i + S - k = m + 1 := ⟨i + S - k - 1, by omega⟩
      have hm2 : i + S - (k + 1) = m := by omega
      rw [hm] at HL
      cases ht : isText t k with
      | true =>
        rw [ht] at hx
        rw [← hx] at HT1
        have HE : Hid (R = (k : Int)) := hidden (by rw [← HL.out, leafFrom_yes ht])
        generalize t[k] = x at *
        clear hx HL ht HTx HKd
        go_wp2_with fail
        refine HT1.out.mono ?_
        rintro r w2 ⟨rfl, rfl⟩
        go_wp2
        go_ret
        exact ⟨by rw [HE.out]; rfl, rfl⟩
      | false =>
        rw [ht] at hx
        rw [← hx] at HT1
        have HL2 : Hid (leafFrom t (i + S - (k + 1)) (k + 1) = R) := hidden (by rw [hm2, ← leafFrom_no ht]; exact HL.out)
        generalize t[k] = x at *
        clear hx HL ht HTx HKd
        go_wp2_with fail
        refine HT1.out.mono ?_
        rintro r w2 ⟨rfl, rfl⟩
        go_wp2
        go_roundg (i + S - (k + 1))
        case measure => omega
        case rel => exact ⟨k + 1, by omega, by omega, rfl, by go_num, HL2, rfl⟩
    · have hm : i + S - k = 0 := by omega
      rw [hm] at HL
      have HE : Hid (R = -1) := hidden HL.out.symm
      clear HL
      go_wp2
      go_ret
      exact ⟨by rw [HE.out]; rfl, rfl⟩
end Go.Proofs.Ytbjheaiiajpifaa.T
