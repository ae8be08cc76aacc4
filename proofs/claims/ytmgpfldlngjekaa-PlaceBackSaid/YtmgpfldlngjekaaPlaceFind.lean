/-
  place.find, place.Of, place.Line, place.Lines: what they hand back.
-/
import Derived.Test.YtmgpfldlngjekaaPlacePlain
namespace Go.Proofs.Ytmgpfldlngjekaa
open Go.RowKit Go.Shelf
attribute [local go_sem] Oper.semAt_some

def findV : Option (Nat × Nat) → Value
  | some x => .tuple #[.agg #[.int .i64 x.1, .int .i64 x.2], .bool true]
  | none => .tuple #[.agg #[.int .i64 0, .int .i64 0], .bool false]

/-- Between two rounds: N lines ahead of the one that is looked for, so many have come. -/
def FindI (w : World) (N : Nat) (pre : List Stretch) (W : World) : Prop :=
  ∃ b : Int, Holds W w.heap.size 3 #[.int .i64 b] ∧ Holds W (w.heap.size + 1) 23 #[.int .i64 0, .int .i64 0] ∧ Holds W (w.heap.size + 1 + 1) 4 #[.bool false] ∧
    (∃ m : Nat, wrap64 (b - 1) = (m : Int) ∧ m + pre.length + 1 = N) ∧ Below w.heap.size w W
def FindX (w : World) (N : Nat) (c : Code) (pre : List Stretch) (W : World) : Prop :=
  c = .ret ∧ ∃ pre' x, pre = pre' ++ [x] ∧ pre'.length + 1 = N ∧
    Holds W (w.heap.size + 1) 23 #[.int .i64 x.1.1, .int .i64 x.1.2] ∧ Holds W (w.heap.size + 1 + 1) 4 #[.bool true] ∧ Below w.heap.size w W

theorem lineSpans_len (s : ByteArray) : (lineSpans s).length ≤ s.size + 1 := by
  have := cutLines_len s.data.toList
  rw [lineSpans, spansOf_len, Lib.size_eq]; exact this

set_option maxHeartbeats 1000000 in
theorem find_pos (s : ByteArray) (n : Int) (N : Nat) (w : World) (hs63 : s.size ≤ 140737488355328) (hN1 : 1 ≤ N) (hN : wrap64 (n - 1) = ((N - 1 : Nat) : Int)) (hN2 : N ≤ 9223372036854775808) :
    Calls Try.prog 28 #[.string s, .int .i64 n] w fun e w' => e = .returned (findV (lineSpans s)[N - 1]?) ∧ Below w.heap.size w w' := by
  have hlen := lineSpans_len s
  refine (callsIn_wide (n := 5)).1 ?_
  refine callsIn_of_wp_marks Try.func28 rfl trivial ?_ rfl
  simp only [Try.ntmps28, List.size_toArray, List.length_cons, List.length_nil, Nat.reduceAdd, Nat.reduceSub, Array.replicate_succ, Array.replicate_zero, List.push_toArray, List.append_toArray, List.nil_append, List.cons_append]
  gi_wp2_with (refine ⟨trivial, ?_⟩; gi_at_call 27; refine (callsIn_wide.2 (place_lines _ _)).mono ?_; rintro e w' ⟨rfl, rfl⟩)
  refine range_law (by omega) rfl (enters_of Try.func30 (by kernel_rfl) rfl)
    (lines1_stops 4 (by omega) (w.heap.size + 1 + 1 + 1) (fun k => k < w.heap.size ∨ k = w.heap.size + 1 + 1 + 1) s (by omega) _ (.inr rfl) (by simp) (by go_simp)) (Below.refl _ _) (by intro k hk; simp; omega) (fun _ => rfl)
    (FindI w N) (FindX w N) ?i0 ?ix ?start ?round ?done ?stop
  case i0 =>
    rintro pre W W' ⟨b, h0, h1, h2, h3, hb⟩ hc
    exact ⟨b, hc.holds h0, hc.holds h1, hc.holds h2, h3, hb.trans (hc.below (by simp; omega) hb.size)⟩
  case ix =>
    rintro c pre W W' ⟨h0, pre', x, h1, h2, h3, h4, hb⟩ hc
    exact ⟨h0, pre', x, h1, h2, hc.holds h3, hc.holds h4, hb.trans (hc.below (by simp; omega) hb.size)⟩
  case start => exact ⟨n, (by repeat (first | (with_reducible assumption) | ((with_reducible refine holds_new ?_); (focus (first | rfl | (simp; done)))) | (with_reducible refine Holds.alloc ?_ _) | (with_reducible refine Holds.drew ?_))), (by repeat (first | (with_reducible assumption) | ((with_reducible refine holds_new ?_); (focus (first | rfl | (simp; done)))) | (with_reducible refine Holds.alloc ?_ _) | (with_reducible refine Holds.drew ?_))), (by repeat (first | (with_reducible assumption) | ((with_reducible refine holds_new ?_); (focus (first | rfl | (simp; done)))) | (with_reducible refine Holds.alloc ?_ _) | (with_reducible refine Holds.drew ?_))), ⟨N - 1, hN, by simp; omega⟩, (by repeat (first | (with_reducible exact Below.refl _ _) | (with_reducible assumption) | (with_reducible refine Below.drew ?_) | ((with_reducible refine below_alloc ?_ ?_); (focus (first | omega | (simp; done) | (simp; omega)))) | ((with_reducible refine below_set ?_ ?_); (focus (first | omega | (simp; done) | (simp; omega))))))⟩
  case round =>
    rintro l pre x W ⟨b, h0, h1, h2, h3, hb⟩
    have hbz := hb.size
    dsimp only [encS]
    gi_wp2
    refine ⟨KeepsOthers.alloc _ _, (Keeps.refl _ _).alloc _, ⟨b, h0.alloc _, h1.alloc _, h2.alloc _, h3, (by repeat (first | (with_reducible exact Below.refl _ _) | (with_reducible assumption) | (with_reducible refine Below.drew ?_) | ((with_reducible refine below_alloc ?_ ?_); (focus (first | omega | (simp; done) | (simp; omega)))) | ((with_reducible refine below_set ?_ ?_); (focus (first | omega | (simp; done) | (simp; omega))))))⟩, ?_⟩
    clear h3
    rintro W2 l2 pre2 hc2 ⟨b, g0, g1, g2, ⟨m, hm, hmn⟩, gb⟩ hlen2 hl2 hr2
    have hx := hc2.holds (Holds.new W 23 #[.int .i64 x.val.fst, .int .i64 x.val.snd])
    obtain ⟨⟨xf, xt⟩, hx1, hx2⟩ := x
    have c0 := g0.c0; have c10 := g1.c20; have c11 := g1.c21; have c2 := g2.c0; have cx0 := hx.c20; have cx1 := hx.c21
    have f0 := g0.frozen 0; have f10 := g1.frozen 0; have f11 := g1.frozen 1; have f2 := g2.frozen 0
    dsimp only at *
    have hlt := h2.lt
    clear hc2 hl2 hr2 h0 h1 h2 hx
    by_cases hz : m = 0
    · subst hz
      gi_wp2
      refine ⟨(by repeat (first | (with_reducible exact KeepsOthers.refl _) | (with_reducible refine KeepsOthers.trans ?_ (KeepsOthers.setCell _ _ _)) | (with_reducible refine KeepsOthers.trans ?_ (KeepsOthers.alloc _ _)) | (with_reducible refine KeepsOthers.trans ?_ (KeepsOthers.drew _)))), rfl, pre2, _, rfl, by omega, ?_, ?_, (by repeat (first | (with_reducible exact Below.refl _ _) | (with_reducible assumption) | (with_reducible refine Below.drew ?_) | ((with_reducible refine below_alloc ?_ ?_); (focus (first | omega | (simp; done) | (simp; omega)))) | ((with_reducible refine below_set ?_ ?_); (focus (first | omega | (simp; done) | (simp; omega))))))⟩
      · (apply Holds.of_eq; focus (repeat (first | (with_reducible assumption) | ((with_reducible apply holds_new); (focus (first | rfl | (simp; done)))) | (with_reducible apply holds_set) | ((with_reducible apply holds_far); (focus (first | omega | (simp; done) | (simp; omega)))) | (with_reducible apply Holds.alloc) | (with_reducible apply Holds.drew))))
        simp
      · (apply Holds.of_eq; focus (repeat (first | (with_reducible assumption) | ((with_reducible apply holds_new); (focus (first | rfl | (simp; done)))) | (with_reducible apply holds_set) | ((with_reducible apply holds_far); (focus (first | omega | (simp; done) | (simp; omega)))) | (with_reducible apply Holds.alloc) | (with_reducible apply Holds.drew))))
        simp
    · have hz1 : ((m : Int) == 0) = false := by simp; omega
      have hz2 : ¬ ((m : Int) < 0) := by omega
      have hz3 : (m == 0) = false := by simp; omega
      gi_wp2
      refine ⟨(by repeat (first | (with_reducible exact KeepsOthers.refl _) | (with_reducible refine KeepsOthers.trans ?_ (KeepsOthers.setCell _ _ _)) | (with_reducible refine KeepsOthers.trans ?_ (KeepsOthers.alloc _ _)) | (with_reducible refine KeepsOthers.trans ?_ (KeepsOthers.drew _)))), (by repeat (first | (with_reducible exact Keeps.refl _ _) | ((with_reducible refine keeps_set ?_ ?_); (focus (first | omega | (dsimp only; omega)))) | (with_reducible refine Keeps.alloc ?_ _) | (with_reducible refine Keeps.drew ?_))), ⟨m, ?_, ?_, ?_, ⟨m - 1, ?_, ?_⟩, (by repeat (first | (with_reducible exact Below.refl _ _) | (with_reducible assumption) | (with_reducible refine Below.drew ?_) | ((with_reducible refine below_alloc ?_ ?_); (focus (first | omega | (simp; done) | (simp; omega)))) | ((with_reducible refine below_set ?_ ?_); (focus (first | omega | (simp; done) | (simp; omega))))))⟩⟩
      · (apply Holds.of_eq; focus (repeat (first | (with_reducible assumption) | ((with_reducible apply holds_new); (focus (first | rfl | (simp; done)))) | (with_reducible apply holds_set) | ((with_reducible apply holds_far); (focus (first | omega | (simp; done) | (simp; omega)))) | (with_reducible apply Holds.alloc) | (with_reducible apply Holds.drew))))
        simp
      · (apply Holds.of_eq; focus (repeat (first | (with_reducible assumption) | ((with_reducible apply holds_new); (focus (first | rfl | (simp; done)))) | (with_reducible apply holds_set) | ((with_reducible apply holds_far); (focus (first | omega | (simp; done) | (simp; omega)))) | (with_reducible apply Holds.alloc) | (with_reducible apply Holds.drew))))
        rfl
      · (apply Holds.of_eq; focus (repeat (first | (with_reducible assumption) | ((with_reducible apply holds_new); (focus (first | rfl | (simp; done)))) | (with_reducible apply holds_set) | ((with_reducible apply holds_far); (focus (first | omega | (simp; done) | (simp; omega)))) | (with_reducible apply Holds.alloc) | (with_reducible apply Holds.drew))))
        rfl
      · rw [IntWalk.wrap64_in _ (by omega)]; omega
      · simp; omega
  case done =>
    rintro D xs W hD hS ⟨b, h0, h1, h2, ⟨m, hm, hmn⟩, hb⟩ hK
    have hbz := hb.size
    have c10 := h1.c20; have c11 := h1.c21; have c2 := h2.c0
    have f10 := h1.frozen 0; have f11 := h1.frozen 1; have f2 := h2.frozen 0
    gi_wp2
    refine leaves_marks (B := w.heap.size) [D] _ ⟨by simp, ?_⟩ ?_
    · intro D' hD'
      simp at hD'
      subst hD'
      exact ⟨by simp at hD; omega, keeps_deferred (by repeat (first | (with_reducible exact KeepsOthers.refl _) | (with_reducible refine KeepsOthers.trans ?_ (KeepsOthers.setCell _ _ _)) | (with_reducible refine KeepsOthers.trans ?_ (KeepsOthers.alloc _ _)) | (with_reducible refine KeepsOthers.trans ?_ (KeepsOthers.drew _)))) hK⟩
    · intro W' hc
      have q1 := hc.holds (g := w.heap.size + 1) (t := 23) (cs := #[.int .i64 0, .int .i64 0]) (by (apply Holds.of_eq; focus (repeat (first | (with_reducible assumption) | ((with_reducible apply holds_new); (focus (first | rfl | (simp; done)))) | (with_reducible apply holds_set) | ((with_reducible apply holds_far); (focus (first | omega | (simp; done) | (simp; omega)))) | (with_reducible apply Holds.alloc) | (with_reducible apply Holds.drew)))); rfl)
      have q2 := hc.holds (g := w.heap.size + 1 + 1) (t := 4) (cs := #[.bool false]) (by (apply Holds.of_eq; focus (repeat (first | (with_reducible assumption) | ((with_reducible apply holds_new); (focus (first | rfl | (simp; done)))) | (with_reducible apply holds_set) | ((with_reducible apply holds_far); (focus (first | omega | (simp; done) | (simp; omega)))) | (with_reducible apply Holds.alloc) | (with_reducible apply Holds.drew)))); rfl)
      have e10 := q1.c20; have e11 := q1.c21; have e2 := q2.c0
      refine ⟨.tuple #[.agg #[.int .i64 0, .int .i64 0], .bool false], ?_, ?_, ?_⟩
      · simp [results, Try.f28, go_sem, e10, e11, e2]
      · have hl := congrArg List.length hS
        rw [List.length_map] at hl
        rw [List.getElem?_eq_none (by omega)]; rfl
      · refine Below.trans ?_ (hc.below (Nat.le_refl _) (by simp; omega))
        exact (by repeat (first | (with_reducible exact Below.refl _ _) | (with_reducible assumption) | (with_reducible refine Below.drew ?_) | ((with_reducible refine below_alloc ?_ ?_); (focus (first | omega | (simp; done) | (simp; omega)))) | ((with_reducible refine below_set ?_ ?_); (focus (first | omega | (simp; done) | (simp; omega))))))
  case stop =>
    rintro D c pre W hD hS ⟨rfl, pre', x, rfl, h2, h3, h4, hb⟩ hK
    have hbz := hb.size
    gi_wp2
    refine leaves_marks (B := w.heap.size) [D] _ ⟨by simp, ?_⟩ ?_
    · intro D' hD'
      simp at hD'
      subst hD'
      exact ⟨by simp at hD; omega, hK⟩
    · intro W' hc
      have q1 := hc.holds h3
      have q2 := hc.holds h4
      have e10 := q1.c20; have e11 := q1.c21; have e2 := q2.c0
      refine ⟨.tuple #[.agg #[.int .i64 x.1.1, .int .i64 x.1.2], .bool true], ?_, ?_, ?_⟩
      · simp [results, Try.f28, go_sem, e10, e11, e2]
      · obtain ⟨r, hr⟩ := hS
        rw [← hr, List.map_append, List.map_cons, List.map_nil, List.append_assoc, List.singleton_append, List.getElem?_append_right (by simp; omega)]
        rw [show N - 1 - (List.map (fun x => x.val) pre').length = 0 by simp; omega]
        rfl
      · exact hb.trans (hc.below (Nat.le_refl _) hbz)

def FindNI (w : World) (n : Int) (pre : List Stretch) (W : World) : Prop :=
  pre = [] ∧ Holds W w.heap.size 3 #[.int .i64 n] ∧ Holds W (w.heap.size + 1) 23 #[.int .i64 0, .int .i64 0] ∧ Holds W (w.heap.size + 1 + 1) 4 #[.bool false] ∧ Below w.heap.size w W
def FindNX (w : World) (c : Code) (_ : List Stretch) (W : World) : Prop :=
  c = .exit 0 ∧ Holds W (w.heap.size + 1) 23 #[.int .i64 0, .int .i64 0] ∧ Holds W (w.heap.size + 1 + 1) 4 #[.bool false] ∧ Below w.heap.size w W

set_option maxHeartbeats 1000000 in
theorem find_neg (s : ByteArray) (n : Int) (w : World) (hs63 : s.size ≤ 140737488355328) (hn0 : n ≤ 0) (hn1 : -9223372036854775807 ≤ n) :
    Calls Try.prog 28 #[.string s, .int .i64 n] w fun e w' => e = .returned (findV none) ∧ Below w.heap.size w w' := by
  have hlen := lineSpans_len s
  have hz1 : ((n : Int) - 1 == 0) = false := by simp; omega
  have hz2 : n - 1 < 0 := by omega
  refine (callsIn_wide (n := 5)).1 ?_
  refine callsIn_of_wp_marks Try.func28 rfl trivial ?_ rfl
  simp only [Try.ntmps28, List.size_toArray, List.length_cons, List.length_nil, Nat.reduceAdd, Nat.reduceSub, Array.replicate_succ, Array.replicate_zero, List.push_toArray, List.append_toArray, List.nil_append, List.cons_append]
  gi_wp2_with (refine ⟨trivial, ?_⟩; gi_at_call 27; refine (callsIn_wide.2 (place_lines _ _)).mono ?_; rintro e w' ⟨rfl, rfl⟩)
  refine range_law (by omega) rfl (enters_of Try.func30 (by kernel_rfl) rfl)
    (lines1_stops 4 (by omega) (w.heap.size + 1 + 1 + 1) (fun k => k < w.heap.size ∨ k = w.heap.size + 1 + 1 + 1) s (by omega) _ (.inr rfl) (by simp) (by go_simp)) (Below.refl _ _) (by intro k hk; simp; omega) (fun _ => rfl)
    (FindNI w n) (FindNX w) ?i0 ?ix ?start ?round ?done ?stop
  case i0 =>
    rintro pre W W' ⟨h, h0, h1, h2, hb⟩ hc
    exact ⟨h, hc.holds h0, hc.holds h1, hc.holds h2, hb.trans (hc.below (by simp; omega) hb.size)⟩
  case ix =>
    rintro c pre W W' ⟨h0, h3, h4, hb⟩ hc
    exact ⟨h0, hc.holds h3, hc.holds h4, hb.trans (hc.below (by simp; omega) hb.size)⟩
  case start => exact ⟨rfl, (by repeat (first | (with_reducible assumption) | ((with_reducible refine holds_new ?_); (focus (first | rfl | (simp; done)))) | (with_reducible refine Holds.alloc ?_ _) | (with_reducible refine Holds.drew ?_))), (by repeat (first | (with_reducible assumption) | ((with_reducible refine holds_new ?_); (focus (first | rfl | (simp; done)))) | (with_reducible refine Holds.alloc ?_ _) | (with_reducible refine Holds.drew ?_))), (by repeat (first | (with_reducible assumption) | ((with_reducible refine holds_new ?_); (focus (first | rfl | (simp; done)))) | (with_reducible refine Holds.alloc ?_ _) | (with_reducible refine Holds.drew ?_))), (by repeat (first | (with_reducible exact Below.refl _ _) | (with_reducible assumption) | (with_reducible refine Below.drew ?_) | ((with_reducible refine below_alloc ?_ ?_); (focus (first | omega | (simp; done) | (simp; omega)))) | ((with_reducible refine below_set ?_ ?_); (focus (first | omega | (simp; done) | (simp; omega))))))⟩
  case round =>
    rintro l pre x W ⟨hp, h0, h1, h2, hb⟩
    have hbz := hb.size
    dsimp only [encS]
    gi_wp2
    refine ⟨KeepsOthers.alloc _ _, (Keeps.refl _ _).alloc _, ⟨hp, h0.alloc _, h1.alloc _, h2.alloc _, (by repeat (first | (with_reducible exact Below.refl _ _) | (with_reducible assumption) | (with_reducible refine Below.drew ?_) | ((with_reducible refine below_alloc ?_ ?_); (focus (first | omega | (simp; done) | (simp; omega)))) | ((with_reducible refine below_set ?_ ?_); (focus (first | omega | (simp; done) | (simp; omega))))))⟩, ?_⟩
    rintro W2 l2 pre2 hc2 ⟨_, g0, g1, g2, gb⟩ hlen2 hl2 hr2
    have hx := hc2.holds (Holds.new W 23 #[.int .i64 x.val.fst, .int .i64 x.val.snd])
    obtain ⟨⟨xf, xt⟩, hx1, hx2⟩ := x
    have c0 := g0.c0; have c10 := g1.c20; have c11 := g1.c21; have c2 := g2.c0; have cx0 := hx.c20; have cx1 := hx.c21
    have f0 := g0.frozen 0; have f10 := g1.frozen 0; have f11 := g1.frozen 1; have f2 := g2.frozen 0
    dsimp only at *
    have hlt := h2.lt
    clear hc2 hl2 hr2 h0 h1 h2 hx hp
    gi_wp2
    refine ⟨(by repeat (first | (with_reducible exact KeepsOthers.refl _) | (with_reducible refine KeepsOthers.trans ?_ (KeepsOthers.setCell _ _ _)) | (with_reducible refine KeepsOthers.trans ?_ (KeepsOthers.alloc _ _)) | (with_reducible refine KeepsOthers.trans ?_ (KeepsOthers.drew _)))), rfl, ?_, ?_, (by repeat (first | (with_reducible exact Below.refl _ _) | (with_reducible assumption) | (with_reducible refine Below.drew ?_) | ((with_reducible refine below_alloc ?_ ?_); (focus (first | omega | (simp; done) | (simp; omega)))) | ((with_reducible refine below_set ?_ ?_); (focus (first | omega | (simp; done) | (simp; omega))))))⟩
    · (apply Holds.of_eq; focus (repeat (first | (with_reducible assumption) | ((with_reducible apply holds_new); (focus (first | rfl | (simp; done)))) | (with_reducible apply holds_set) | ((with_reducible apply holds_far); (focus (first | omega | (simp; done) | (simp; omega)))) | (with_reducible apply Holds.alloc) | (with_reducible apply Holds.drew))))
      rfl
    · (apply Holds.of_eq; focus (repeat (first | (with_reducible assumption) | ((with_reducible apply holds_new); (focus (first | rfl | (simp; done)))) | (with_reducible apply holds_set) | ((with_reducible apply holds_far); (focus (first | omega | (simp; done) | (simp; omega)))) | (with_reducible apply Holds.alloc) | (with_reducible apply Holds.drew))))
      rfl
  case done =>
    rintro D xs W hD hS ⟨rfl, _⟩ hK
    have hl := congrArg List.length hS
    have := cutLines_len1 s.data.toList
    rw [lineSpans, spansOf_len] at hl
    simp at hl
    omega
  case stop =>
    rintro D c pre W hD hS ⟨rfl, h1, h2, hb⟩ hK
    have hbz := hb.size
    have c10 := h1.c20; have c11 := h1.c21; have c2 := h2.c0
    have f10 := h1.frozen 0; have f11 := h1.frozen 1; have f2 := h2.frozen 0
    gi_wp2
    refine leaves_marks (B := w.heap.size) [D] _ ⟨by simp, ?_⟩ ?_
    · intro D' hD'
      simp at hD'
      subst hD'
      exact ⟨by simp at hD; omega, keeps_deferred (by repeat (first | (with_reducible exact KeepsOthers.refl _) | (with_reducible refine KeepsOthers.trans ?_ (KeepsOthers.setCell _ _ _)) | (with_reducible refine KeepsOthers.trans ?_ (KeepsOthers.alloc _ _)) | (with_reducible refine KeepsOthers.trans ?_ (KeepsOthers.drew _)))) hK⟩
    · intro W' hc
      have q1 := hc.holds (g := w.heap.size + 1) (t := 23) (cs := #[.int .i64 0, .int .i64 0]) (by (apply Holds.of_eq; focus (repeat (first | (with_reducible assumption) | ((with_reducible apply holds_new); (focus (first | rfl | (simp; done)))) | (with_reducible apply holds_set) | ((with_reducible apply holds_far); (focus (first | omega | (simp; done) | (simp; omega)))) | (with_reducible apply Holds.alloc) | (with_reducible apply Holds.drew)))); rfl)
      have q2 := hc.holds (g := w.heap.size + 1 + 1) (t := 4) (cs := #[.bool false]) (by (apply Holds.of_eq; focus (repeat (first | (with_reducible assumption) | ((with_reducible apply holds_new); (focus (first | rfl | (simp; done)))) | (with_reducible apply holds_set) | ((with_reducible apply holds_far); (focus (first | omega | (simp; done) | (simp; omega)))) | (with_reducible apply Holds.alloc) | (with_reducible apply Holds.drew)))); rfl)
      have e10 := q1.c20; have e11 := q1.c21; have e2 := q2.c0
      refine ⟨.tuple #[.agg #[.int .i64 0, .int .i64 0], .bool false], ?_, rfl, ?_⟩
      · simp [results, Try.f28, go_sem, e10, e11, e2]
      · refine Below.trans ?_ (hc.below (Nat.le_refl _) (by simp; omega))
        exact (by repeat (first | (with_reducible exact Below.refl _ _) | (with_reducible assumption) | (with_reducible refine Below.drew ?_) | ((with_reducible refine below_alloc ?_ ?_); (focus (first | omega | (simp; done) | (simp; omega)))) | ((with_reducible refine below_set ?_ ?_); (focus (first | omega | (simp; done) | (simp; omega))))))

/-- THE LINE NUMBER n, from 1 on, whatever n. -/
theorem place_find (s : ByteArray) (n : Int) (w : World) (hs63 : s.size ≤ 140737488355328) (h1 : -9223372036854775808 ≤ n) (h2 : n ≤ 9223372036854775807) :
    Calls Try.prog 28 #[.string s, .int .i64 n] w fun e w' => e = .returned (findV (spanNo (lineSpans s) n)) ∧ Below w.heap.size w w' := by
  by_cases hp : 1 ≤ n
  · have := find_pos s n n.toNat w hs63 (by omega) (by rw [IntWalk.wrap64_in _ (by omega)]; omega) (by omega)
    unfold spanNo
    rw [if_pos hp, show (n - 1).toNat = n.toNat - 1 by omega]
    exact this
  · unfold spanNo
    rw [if_neg hp]
    by_cases hm : n = -9223372036854775808
    · subst hm
      have := find_pos s (-9223372036854775808) 9223372036854775808 w hs63 (by omega) (by decide +kernel) (by omega)
      rw [List.getElem?_eq_none (by have := lineSpans_len s; omega)] at this
      exact this
    · exact find_neg s n w hs63 (by omega) (by omega)
end Go.Proofs.Ytmgpfldlngjekaa
