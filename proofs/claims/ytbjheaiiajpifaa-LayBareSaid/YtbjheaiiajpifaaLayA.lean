/-
  Places of leaves, as plain data; how deep they lie (lay.Deep, and the document's); compared (law38.same); a style with an item more.
-/
import Derived.Test.YtbjheaiiajpifaaSameL
namespace Go.Proofs.Ytbjheaiiajpifaa.T
open Go.RowKit Go.Shelf

structure Plc where
  node : Int
  gap : Int
  in_ : Int
def plCells (x : Plc) : List Value := [.int .i64 x.node, .int .i64 x.gap, .int .i64 x.in_]
/-- v reads as places. -/
abbrev Plcs (w : World) (T : Nat → Prop) (v : Value) (l : List Plc) : Prop := Rd w T 3 v l.length (l.flatMap plCells)
def deepPl (l : List Plc) : Int := l.foldl (fun n p => if n < p.in_ then p.in_ else n) 0
theorem deepPl_succ {l : List Plc} {k : Nat} {x : Plc} (h : l[k]? = some x) : deepPl (l.take (k + 1)) = if deepPl (l.take k) < x.in_ then x.in_ else deepPl (l.take k) := by
  obtain ⟨hk, e⟩ := List.getElem?_eq_some_iff.1 h
  unfold deepPl
  rw [List.take_succ_eq_append_getElem hk, List.foldl_append, e]
  rfl

set_option maxRecDepth 20000 in
set_option maxHeartbeats 4000000 in
theorem lay_Deep (v : Value) (l : List Plc) (w : World) (hR : Plcs w (Old w) v l) :
    Calls Try.prog 33 #[v] w fun r w' => r = .returned (.int .i64 (deepPl l)) ∧ Below w.heap.size w w' := by
  have HR := hidden (fun (w' : World) (hb : Below w.heap.size w w') => Rd.old hR hb)
  obtain ⟨A, c, rfl, hc1, hc2⟩ := hR.val
  unfold maxLen at hc2
  clear hR
  go_enter Try.func33, Try.ntmps33
  go_wp2
  go_loopg [3, 8] l.length (fun gh nn kk wr => ∃ (k : Nat) (n : Int), k ≤ l.length ∧ gh = l.length - k ∧ nn = .int .i64 n ∧ kk = .int .i64 k ∧ Hid (n = deepPl (l.take k)) ∧ Below w.heap.size w wr)
  case atStart => exact ⟨0, 0, by omega, rfl, rfl, by go_num, hidden rfl, Below.refl _ _⟩
  case round =>
    obtain ⟨k, n, hk, rfl, rfl, rfl, HN, hb⟩ := hrel
    have hbz := hb.size
    by_cases hlt : k < l.length
    · have hx := List.getElem?_eq_getElem hlt
      have HS := hidden (deepPl_succ hx)
      obtain ⟨b, off, rfl, _, hat⟩ := (HR.out _ hb).flat_at (fun _ => rfl) (by decide) hx
      generalize l[k] = x at *
      have x0 : wr.cell? ⟨b, off + k * 3, none⟩ = some (.int .i64 x.node) := hat 0 _ rfl
      have x1 : wr.cell? ⟨b, off + k * 3 + 1, none⟩ = some (.int .i64 x.gap) := hat 1 _ rfl
      have x2 : wr.cell? ⟨b, off + k * 3 + 2, none⟩ = some (.int .i64 x.in_) := hat 2 _ rfl
      have HN2 : Hid (deepPl (l.take (k + 1)) = if n < x.in_ then x.in_ else n) := hidden (by rw [HS.out, ← HN.out])
      clear hat hx HS HN HR
      by_cases hin : n < x.in_
      · rw [if_pos hin] at HN2
        go_wp2
        go_roundg (l.length - (k + 1))
        case measure => omega
        case rel => exact ⟨k + 1, x.in_, by omega, rfl, rfl, by go_num, hidden HN2.out.symm, hb.alloc hbz _⟩
      · rw [if_neg hin] at HN2
        go_wp2
        go_roundg (l.length - (k + 1))
        case measure => omega
        case rel => exact ⟨k + 1, n, by omega, rfl, rfl, by go_num, hidden HN2.out.symm, hb.alloc hbz _⟩
    · obtain rfl : k = l.length := by omega
      rw [List.take_length] at HN
      go_wp2
      go_ret
      exact ⟨by rw [← HN.out]; rfl, hb⟩

set_option maxRecDepth 20000 in
set_option maxHeartbeats 4000000 in
theorem ref_Deep38 (v : Value) (l : List Plc) (w : World) (hR : Plcs w (Old w) v l) :
    Calls Try.prog 34 #[v] w fun r w' => r = .returned (.int .i64 (deepPl l)) ∧ Below w.heap.size w w' := by
  have HR := hidden (fun (w' : World) (hb : Below w.heap.size w w') => Rd.old hR hb)
  obtain ⟨A, c, rfl, hc1, hc2⟩ := hR.val
  unfold maxLen at hc2
  clear hR
  go_enter Try.func34, Try.ntmps34
  go_wp2
  go_loopg [3, 4] l.length (fun gh nn kk wr => ∃ (k : Nat) (n : Int), k ≤ l.length ∧ gh = l.length - k ∧ nn = .int .i64 n ∧ kk = .int .i64 k ∧ Hid (n = deepPl (l.take k)) ∧ Below w.heap.size w wr)
  case atStart => exact ⟨0, 0, by omega, rfl, rfl, by go_num, hidden rfl, Below.refl _ _⟩
  case round =>
    obtain ⟨k, n, hk, rfl, rfl, rfl, HN, hb⟩ := hrel
    have hbz := hb.size
    by_cases hlt : k < l.length
    · have hx := List.getElem?_eq_getElem hlt
      have HS := hidden (deepPl_succ hx)
      obtain ⟨b, off, rfl, _, hat⟩ := (HR.out _ hb).flat_at (fun _ => rfl) (by decide) hx
      generalize l[k] = x at *
      have x2 : wr.cell? ⟨b, off + k * 3 + 2, none⟩ = some (.int .i64 x.in_) := hat 2 _ rfl
      have HN2 : Hid (deepPl (l.take (k + 1)) = if n < x.in_ then x.in_ else n) := hidden (by rw [HS.out, ← HN.out])
      clear hat hx HS HN HR
      by_cases hin : n < x.in_
      · rw [if_pos hin] at HN2
        go_wp2
        go_roundg (l.length - (k + 1))
        case measure => omega
        case rel => exact ⟨k + 1, x.in_, by omega, rfl, rfl, by go_num, hidden HN2.out.symm, hb⟩
      · rw [if_neg hin] at HN2
        go_wp2
        go_roundg (l.length - (k + 1))
        case measure => omega
        case rel => exact ⟨k + 1, n, by omega, rfl, rfl, by go_num, hidden HN2.out.symm, hb⟩
    · obtain rfl : k = l.length := by omega
      rw [List.take_length] at HN
      go_wp2
      go_ret
      exact ⟨by rw [← HN.out]; rfl, hb⟩

set_option maxRecDepth 20000 in
set_option maxHeartbeats 4000000 in
theorem same_places_self (va vb : Value) (l : List Plc) (w : World) (hA : Plcs w (Old w) va l) (hB : Plcs w (Old w) vb l) :
    Calls Try.prog 32 #[va, vb] w fun r w' => r = .returned (.bool true) ∧ Below w.heap.size w w' := by
  have HA := hidden (fun (w' : World) (hb : Below w.heap.size w w') => Rd.old hA hb)
  have HB := hidden (fun (w' : World) (hb : Below w.heap.size w w') => Rd.old hB hb)
  obtain ⟨A1, c1, rfl, d1, e1⟩ := hA.val
  obtain ⟨A2, c2, rfl, d2, e2⟩ := hB.val
  unfold maxLen at e1 e2
  have q0 : ((l.length : Int) != (l.length : Int)) = false := by simp
  clear hA hB
  go_enter Try.func32, Try.ntmps32
  go_wp2
  go_loopg [5] l.length (fun gh kk wr => ∃ k : Nat, k ≤ l.length ∧ gh = l.length - k ∧ kk = .int .i64 k ∧ Below w.heap.size w wr)
  case atStart => exact ⟨0, by omega, rfl, by go_num, Below.refl _ _⟩
  case round =>
    obtain ⟨k, hk, rfl, rfl, hb⟩ := hrel
    by_cases hlt : k < l.length
    · have hx := List.getElem?_eq_getElem hlt
      obtain ⟨b1, o1, rfl, _, hat1⟩ := (HA.out _ hb).flat_at (fun _ => rfl) (by decide) hx
      obtain ⟨b2, o2, rfl, _, hat2⟩ := (HB.out _ hb).flat_at (fun _ => rfl) (by decide) hx
      generalize l[k] = x at *
      have x0 : wr.cell? ⟨b1, o1 + k * 3, none⟩ = some (.int .i64 x.node) := hat1 0 _ rfl
      have x1 : wr.cell? ⟨b1, o1 + k * 3 + 1, none⟩ = some (.int .i64 x.gap) := hat1 1 _ rfl
      have x2 : wr.cell? ⟨b1, o1 + k * 3 + 2, none⟩ = some (.int .i64 x.in_) := hat1 2 _ rfl
      have y0 : wr.cell? ⟨b2, o2 + k * 3, none⟩ = some (.int .i64 x.node) := hat2 0 _ rfl
      have y1 : wr.cell? ⟨b2, o2 + k * 3 + 1, none⟩ = some (.int .i64 x.gap) := hat2 1 _ rfl
      have y2 : wr.cell? ⟨b2, o2 + k * 3 + 2, none⟩ = some (.int .i64 x.in_) := hat2 2 _ rfl
      have z0 := Ext.cell x0; have z1 := Ext.cell x1; have z2 := Ext.cell x2
      have u0 := Ext.cell y0; have u1 := Ext.cell y1; have u2 := Ext.cell y2
      have q1 : (x.node != x.node) = false := by simp
      have q2 : (x.gap != x.gap) = false := by simp
      have q3 : (x.in_ != x.in_) = false := by simp
      clear x0 x1 x2 y0 y1 y2 hat1 hat2 hx
      go_wp2_with fail
      refine wp_region_ext (by kernel_rfl) (by kernel_rfl) ?_
      repeat (go_big_quiet_step (fail))
      refine wpQuiet_nil ?_
      intro w2 hb2
      replace hb := below_more hb hb2
      clear hb2 z0 z1 z2 u0 u1 u2
      go_wp2
      go_roundg (l.length - (k + 1))
      case measure => omega
      case rel => exact ⟨k + 1, by omega, rfl, by go_num, hb⟩
    · obtain rfl : k = l.length := by omega
      go_wp2
      go_ret
      exact ⟨rfl, hb⟩
end Go.Proofs.Ytbjheaiiajpifaa.T
