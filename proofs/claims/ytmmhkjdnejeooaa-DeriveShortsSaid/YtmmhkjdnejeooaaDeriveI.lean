/-
  How many nodes a part has, as far as is known: derive.least's closure.
-/
import Derived.Test.YtmmhkjdnejeooaaDeriveB
import Derived.Test.YtmmhkjdnejeooaaDeriveS
import Derived.IntWalk
namespace Go.Proofs.Ytmmhkjdnejeooaa.T
open Go.RowKit Go.Shelf

def icells (s : List Int) : Array Value := (s.map (fun z => Value.int .i64 z)).toArray
/-- Block q holds the numbers s. -/
abbrev IntsAt (w : World) (q : Nat) (s : List Int) : Prop := Holds w q 3 (icells s)
theorem IntsAt.at_ {w : World} {q : Nat} {s : List Int} (h : IntsAt w q s) {i : Nat} {z : Int} (hi : s[i]? = some z) : w.cell? ⟨q, i, none⟩ = some (.int .i64 z) := by
  rw [h.cell i]
  simp [icells, hi]
theorem IntsAt.set {w : World} {q : Nat} {s : List Int} (h : IntsAt w q s) (i : Nat) (z : Int) : IntsAt (w.setCell ⟨q, i, none⟩ (.int .i64 z)) q (s.set i z) := by
  refine Holds.of_eq (holds_set h) ?_
  unfold icells
  rw [List.map_set, List.setIfInBounds_toArray]
theorem szI_at {S : List Int} {i : Nat} {z : Int} (h : S[i]? = some z) : szI S (i : Int) = z := by unfold szI; rw [Int.toNat_natCast, h]; rfl

set_option maxRecDepth 20000 in
set_option maxHeartbeats 16000000 in
theorem least_count (vr : Value) (p : Prod) (S : List Int) (m qs n : Nat) (W : World) (HI : Rd W (Old W) 4 vr p.right.length (p.right.flatMap itCells)) (H1 : Holds W m 57 #[.slice (some ⟨qs, 0, none⟩) n n]) (H2 : IntsAt W qs S) (hn : n = S.length)
    (hru : ∀ y ∈ p.right, y.rule = true → 0 ≤ y.n ∧ y.n < S.length) (hok : OkS S) (hlen : p.right.length ≤ 4398046511104) :
    Calls Try.prog 48 #[.agg #[.int .i64 p.left, vr], .pointer (some ⟨m, 0, none⟩)] W fun r w' => r = .returned (.int .i64 (countP S p)) ∧ Below W.heap.size W w' := by
  obtain ⟨A, c, rfl, hc1, hc2⟩ := HI.val
  have HIT := hidden HI
  have HM := hidden H1
  have HQ := hidden H2
  have hE : Hid (countP S p = countF S 1 (p.right.drop 0)) := hidden rfl
  have hru2 := hidden hru
  generalize countP S p = res at *
  generalize hLL : p.right = L at *
  have hb1 : Below W.heap.size W (W.alloc (.cells #[.int .i64 p.left, .slice A L.length c] 56)) := (Below.refl _ _).alloc (Nat.le_refl _) _
  clear HI H1 H2 hru hLL
  go_enter Try.func48, Try.ntmps48
  go_wp2
  generalize (W.alloc (.cells #[.int .i64 p.left, .slice A L.length c] 56)) = w1 at *
  go_loopw [4, 10] (fun nv iv wr => ∃ (z : Int) (k : Nat), nv = .int .i64 z ∧ iv = .int .i64 k ∧ k ≤ L.length ∧ 1 ≤ z ∧ z ≤ 1099511627776 + k ∧ Hid (res = countF S z (L.drop k)) ∧ Hid (Below W.heap.size W wr)) (fun nv iv wr => L.length - (intOf iv).toNat)
  case atStart => exact ⟨1, 0, by go_num, by go_num, Nat.zero_le _, by decide, by omega, hE, hidden hb1⟩
  case round =>
    clear hE hb1
    obtain ⟨z, k, rfl, rfl, hk, hz1, hz2, hE, HB⟩ := hrel
    have hbw := HB.out
    by_cases hlt : k < L.length
    · have qk : (k : Int) < (L.length : Int) := by omega
      have hy := List.getElem?_eq_getElem hlt
      have hmem := hru2.out _ (List.getElem_mem hlt)
      have hdr : L.drop k = L[k] :: L.drop (k + 1) := (List.drop_eq_getElem_cons hlt)
      generalize L[k] = y at *
      obtain ⟨rl, yn, gp, ii⟩ := y
      obtain ⟨bi, oi, rfl, i0, i1, i2, i3⟩ := items_at HIT.out hy
      dsimp only at i0 i1 i2 i3 hmem
      replace i0 := cellF i0 hbw; replace i1 := cellF i1 hbw; replace i2 := cellF i2 hbw; replace i3 := cellF i3 hbw
      rw [hdr, countF] at hE
      have hbz := hbw.size
      clear hy hdr HB
      cases rl
      · have hE2 : Hid (res = countF S (z + 1) (L.drop (k + 1))) := hidden (by rw [hE.out, if_pos rfl])
        have hw9 : IntKind.i64.wrap (z + 1) = z + 1 := IntWalk.i64_in _ (by omega)
        clear hE
        go_wp2
        go_roundw
        case rel => exact ⟨z + 1, k + 1, by go_num, by go_num, by omega, by omega, by omega, hE2, hidden (hbw.alloc hbz _)⟩
        case measure => simp [intOf]; omega
      · obtain ⟨h0, h1⟩ := hmem rfl
        obtain ⟨yk, rfl⟩ : ∃ yk : Nat, yn = (yk : Int) := ⟨yn.toNat, by omega⟩
        have hyk : yk < S.length := by omega
        have hs := List.getElem?_eq_getElem hyk
        have hsb := hok _ (List.getElem_mem hyk)
        generalize S[yk] = s at *
        have hsz : Hid (szI S (yk : Int) = s) := hidden (szI_at hs)
        have hmn := HM.out.lt
        have hqn := HQ.out.lt
        have x0 : wr.cell? ⟨m, 0, none⟩ = some (.slice (some ⟨qs, 0, none⟩) n n) := (HM.out.below hbw HM.out.lt).cell 0
        have x1 : wr.cell? ⟨qs, yk, none⟩ = some (.int .i64 s) := IntsAt.at_ (Holds.below HQ.out hbw HQ.out.lt) hs
        have hmr : m < wr.heap.size := by omega
        have hqr : qs < wr.heap.size := by omega
        have qy : (yk : Int) < (n : Int) := by omega
        clear hs hmem h0 h1
        by_cases hs0 : s < 0
        · have q0 : decide (s < 0) = true := decide_eq_true hs0
          have he : Hid (res = -1) := hidden (by rw [hE.out, if_neg (by simp), hsz.out, if_pos hs0])
          clear hE hsz
          go_wp2
          go_ret
          exact ⟨by rw [he.out]; rfl, hbw.alloc hbz _⟩
        · have q0 : decide (s < 0) = false := decide_eq_false hs0
          have hE2 : Hid (res = countF S (min (z + s) 1099511627776) (L.drop (k + 1))) := hidden (by rw [hE.out, if_neg (by simp), hsz.out, if_neg hs0]; rfl)
          have hw9 : IntKind.i64.wrap (z + s) = z + s := IntWalk.i64_in _ (by omega)
          clear hE hsz
          have hmin : (if 1099511627776 < z + s then 1099511627776 else z + s) = min (z + s) 1099511627776 := by
            split <;> omega
          have HMin := hidden hmin
          clear hmin
          go_wp2
          go_roundw
          case rel => exact ⟨_, k + 1, rfl, by go_num, by omega, by split <;> omega, by split <;> omega, hidden (by rw [HMin.out]; exact hE2.out), hidden (hbw.alloc hbz _)⟩
          case measure => simp [intOf]; omega
    · obtain rfl : k = L.length := by omega
      have qk : ¬ (L.length : Int) < (L.length : Int) := by omega
      have he : Hid (res = z) := hidden (by rw [hE.out, List.drop_length]; rfl)
      clear hE HB
      go_wp2
      go_ret
      exact ⟨by rw [he.out]; rfl, hbw⟩
end Go.Proofs.Ytmmhkjdnejeooaa.T
