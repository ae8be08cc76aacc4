/-
  place.lines, place.At, place.find: what they hand back.
-/
import Derived.Test.YtmgpfldlngjekaaPlaceIter
namespace Go.Proofs.Ytmgpfldlngjekaa
open Go.RowKit Go.Shelf
attribute [local go_sem] Oper.semAt_some

theorem lines1_stops (n : Nat) (hn : 1 ≤ n) (Bs : Nat) (T : Nat → Prop) (s : ByteArray) (hs63 : s.size ≤ 140737488355328) (w : World) (hB : T Bs) (hl : Bs < w.heap.size)
    (hc : w.cell? ⟨Bs, 0, none⟩ = some (.string s)) :
    SeqStopsK Fence.wide n Try.prog 30 #[.pointer (some ⟨Bs, 0, none⟩)] encS (Keeps T) (fun ys => ys.map (·.1) = lineSpans s) (fun pre => pre.map (·.1) <+: lineSpans s) (lineSpans s).length w :=
  fun l J Jx W hW _ _ hY h0 =>
    lines1_in n hn l Bs T s hs63 J Jx hY W hB ((hW.cell (p := ⟨Bs, 0, none⟩) hl).trans hc) h0

theorem place_lines (s : ByteArray) (w : World) :
    Calls Try.prog 27 #[.string s] w fun e w' => e = .returned (.func (.func 30) #[] #[.pointer (some ⟨w.heap.size, 0, none⟩)]) ∧ w.alloc (.cells #[.string s] 9) = w' := by
  go_enter Try.func27, Try.ntmps27
  go_wp2
  go_ret
  exact ⟨rfl, rfl⟩

/-- The first stretch in which a place lies, the n-th but one. -/
def atFrom (n : Nat) (p : Int) : List (Nat × Nat) → Option (Int × Int)
  | [] => none
  | x :: r => if (x.1 : Int) ≤ p ∧ p ≤ x.2 then some (((n + 1 : Nat) : Int), p - x.1 + 1) else atFrom (n + 1) p r
def spotV : Option (Int × Int) → Value
  | some (l, c) => .tuple #[.agg #[.int .i64 l, .int .i64 c], .bool true]
  | none => .tuple #[.agg #[.int .i64 0, .int .i64 0], .bool false]

theorem atFrom_none (p : Int) (l : List (Nat × Nat)) (h : ∀ x ∈ l, ¬ ((x.1 : Int) ≤ p ∧ p ≤ x.2)) : ∀ n, atFrom n p l = none := by
  induction l with
  | nil => intro n; rfl
  | cons x r ih => intro n; rw [atFrom, if_neg (h x (by simp))]; exact ih (fun y hy => h y (by simp [hy])) _
theorem atFrom_some (p : Int) (l r : List (Nat × Nat)) (x : Nat × Nat) (h : ∀ x ∈ l, ¬ ((x.1 : Int) ≤ p ∧ p ≤ x.2)) (hx : (x.1 : Int) ≤ p ∧ p ≤ x.2) :
    ∀ n, atFrom n p (l ++ x :: r) = some (((n + l.length + 1 : Nat) : Int), p - x.1 + 1) := by
  induction l with
  | nil => intro n; simp [atFrom, hx]
  | cons y l ih =>
    intro n
    rw [List.cons_append, atFrom, if_neg (h y (by simp)), ih (fun z hz => h z (by simp [hz]))]
    simp; omega

theorem snoc_all {pre : List Stretch} {x : Stretch} {p : Int} (h : ∀ y ∈ pre.map (·.1), ¬ ((y.1 : Int) ≤ p ∧ p ≤ y.2)) (hx : ¬ ((x.1.1 : Int) ≤ p ∧ p ≤ x.1.2)) :
    ∀ y ∈ (pre ++ [x]).map (·.1), ¬ ((y.1 : Int) ≤ p ∧ p ≤ y.2) := by
  intro y hy
  rw [List.map_append, List.mem_append] at hy
  rcases hy with hy | hy
  · exact h y hy
  · simp at hy; subst hy; exact hx

def AtI (w : World) (p : Int) (pre : List Stretch) (W : World) : Prop :=
  Holds W w.heap.size 3 #[.int .i64 p] ∧ Holds W (w.heap.size + 1) 35 #[.int .i64 0, .int .i64 0] ∧ Holds W (w.heap.size + 1 + 1) 4 #[.bool false] ∧
    Holds W (w.heap.size + 1 + 1 + 1) 3 #[.int .i64 pre.length] ∧ (∀ x ∈ pre.map (·.1), ¬ ((x.1 : Int) ≤ p ∧ p ≤ x.2)) ∧ Below w.heap.size w W
def AtX (w : World) (p : Int) (c : Code) (pre : List Stretch) (W : World) : Prop :=
  c = .ret ∧ ∃ pre' x, pre = pre' ++ [x] ∧ (∀ x ∈ pre'.map (·.1), ¬ ((x.1 : Int) ≤ p ∧ p ≤ x.2)) ∧ ((x.1.1 : Int) ≤ p ∧ p ≤ x.1.2) ∧
    Holds W (w.heap.size + 1) 35 #[.int .i64 ((0 + pre'.length + 1 : Nat) : Int), .int .i64 (p - x.1.1 + 1)] ∧ Holds W (w.heap.size + 1 + 1) 4 #[.bool true] ∧ Below w.heap.size w W

set_option maxHeartbeats 1000000 in
theorem place_At (s : ByteArray) (p : Int) (w : World) (hs63 : s.size ≤ 140737488355328) :
    Calls Try.prog 19 #[.string s, .int .i64 p] w fun e w' => e = .returned (spotV (atFrom 0 p (lineSpans s))) ∧ Below w.heap.size w w' := by
  have hN : (lineSpans s).length ≤ s.size + 1 := by
    have := cutLines_len s.data.toList
    rw [lineSpans, spansOf_len, Lib.size_eq]; exact this
  refine (callsIn_wide (n := 5)).1 ?_
  refine callsIn_of_wp_marks Try.func19 rfl trivial ?_ rfl
  simp only [Try.ntmps19, List.size_toArray, List.length_cons, List.length_nil, Nat.reduceAdd, Nat.reduceSub, Array.replicate_succ, Array.replicate_zero, List.push_toArray, List.append_toArray, List.nil_append, List.cons_append]
  gi_wp2_with (refine ⟨trivial, ?_⟩; gi_at_call 27; refine (callsIn_wide.2 (place_lines _ _)).mono ?_; rintro e w' ⟨rfl, rfl⟩)
  refine range_law (by omega) rfl (enters_of Try.func30 (by kernel_rfl) rfl)
    (lines1_stops 4 (by omega) (w.heap.size + 1 + 1 + 1 + 1) (fun k => k < w.heap.size ∨ k = w.heap.size + 1 + 1 + 1 + 1) s (by omega) _ (.inr rfl) (by simp) (by go_simp)) (Below.refl _ _) (by intro k hk; simp; omega) (fun _ => rfl)
    (AtI w p) (AtX w p) ?i0 ?ix ?start ?round ?done ?stop
  case i0 =>
    rintro pre W W' ⟨h0, h1, h2, h3, h4, hb⟩ hc
    exact ⟨hc.holds h0, hc.holds h1, hc.holds h2, hc.holds h3, h4, hb.trans (hc.below (by simp; omega) hb.size)⟩
  case ix =>
    rintro c pre W W' ⟨h0, pre', x, h1, h2, h3, h4, h5, hb⟩ hc
    exact ⟨h0, pre', x, h1, h2, h3, hc.holds h4, hc.holds h5, hb.trans (hc.below (by simp; omega) hb.size)⟩
  case start => exact ⟨(by repeat (first | (with_reducible assumption) | ((with_reducible refine holds_new ?_); (focus (first | rfl | (simp; done)))) | (with_reducible refine Holds.alloc ?_ _) | (with_reducible refine Holds.drew ?_))), (by repeat (first | (with_reducible assumption) | ((with_reducible refine holds_new ?_); (focus (first | rfl | (simp; done)))) | (with_reducible refine Holds.alloc ?_ _) | (with_reducible refine Holds.drew ?_))), (by repeat (first | (with_reducible assumption) | ((with_reducible refine holds_new ?_); (focus (first | rfl | (simp; done)))) | (with_reducible refine Holds.alloc ?_ _) | (with_reducible refine Holds.drew ?_))), (by (apply Holds.of_eq; focus (repeat (first | (with_reducible assumption) | ((with_reducible apply holds_new); (focus (first | rfl | (simp; done)))) | (with_reducible apply holds_set) | ((with_reducible apply holds_far); (focus (first | omega | (simp; done) | (simp; omega)))) | (with_reducible apply Holds.alloc) | (with_reducible apply Holds.drew)))); rfl), by simp, (by repeat (first | (with_reducible exact Below.refl _ _) | (with_reducible assumption) | (with_reducible refine Below.drew ?_) | ((with_reducible refine below_alloc ?_ ?_); (focus (first | omega | (simp; done) | (simp; omega)))) | ((with_reducible refine below_set ?_ ?_); (focus (first | omega | (simp; done) | (simp; omega))))))⟩
  case round =>
    rintro l pre x W ⟨h0, h1, h2, h3, h4, hb⟩
    have hbz := hb.size
    dsimp only [encS]
    gi_wp2
    refine ⟨KeepsOthers.alloc _ _, (Keeps.refl _ _).alloc _, ⟨h0.alloc _, h1.alloc _, h2.alloc _, h3.alloc _, h4, (by repeat (first | (with_reducible exact Below.refl _ _) | (with_reducible assumption) | (with_reducible refine Below.drew ?_) | ((with_reducible refine below_alloc ?_ ?_); (focus (first | omega | (simp; done) | (simp; omega)))) | ((with_reducible refine below_set ?_ ?_); (focus (first | omega | (simp; done) | (simp; omega))))))⟩, ?_⟩
    rintro W2 l2 pre2 hc2 ⟨g0, g1, g2, g3, g4, gb⟩ hlen hl2 hr2
    have hx := hc2.holds (Holds.new W 23 #[.int .i64 x.val.fst, .int .i64 x.val.snd])
    obtain ⟨⟨xf, xt⟩, hx1, hx2⟩ := x
    have c0 := g0.c0; have c10 := g1.c20; have c11 := g1.c21; have c2 := g2.c0; have c3 := g3.c0; have cx0 := hx.c20; have cx1 := hx.c21
    have f10 := g1.frozen 0; have f11 := g1.frozen 1; have f2 := g2.frozen 0; have f3 := g3.frozen 0
    dsimp only at *
    have hp2 : (pre2.length : Int) ≤ 9223372036854775806 := by omega
    have hlt := h3.lt
    clear h3
    gi_wp2
    · refine ⟨(by repeat (first | (with_reducible exact KeepsOthers.refl _) | (with_reducible refine KeepsOthers.trans ?_ (KeepsOthers.setCell _ _ _)) | (with_reducible refine KeepsOthers.trans ?_ (KeepsOthers.alloc _ _)) | (with_reducible refine KeepsOthers.trans ?_ (KeepsOthers.drew _)))), rfl, pre2, _, rfl, g4, ⟨by assumption, by assumption⟩, ?_, ?_, (by repeat (first | (with_reducible exact Below.refl _ _) | (with_reducible assumption) | (with_reducible refine Below.drew ?_) | ((with_reducible refine below_alloc ?_ ?_); (focus (first | omega | (simp; done) | (simp; omega)))) | ((with_reducible refine below_set ?_ ?_); (focus (first | omega | (simp; done) | (simp; omega))))))⟩
      · (apply Holds.of_eq; focus (repeat (first | (with_reducible assumption) | ((with_reducible apply holds_new); (focus (first | rfl | (simp; done)))) | (with_reducible apply holds_set) | ((with_reducible apply holds_far); (focus (first | omega | (simp; done) | (simp; omega)))) | (with_reducible apply Holds.alloc) | (with_reducible apply Holds.drew))))
        simp
      · (apply Holds.of_eq; focus (repeat (first | (with_reducible assumption) | ((with_reducible apply holds_new); (focus (first | rfl | (simp; done)))) | (with_reducible apply holds_set) | ((with_reducible apply holds_far); (focus (first | omega | (simp; done) | (simp; omega)))) | (with_reducible apply Holds.alloc) | (with_reducible apply Holds.drew))))
        simp
    · refine ⟨(by repeat (first | (with_reducible exact KeepsOthers.refl _) | (with_reducible refine KeepsOthers.trans ?_ (KeepsOthers.setCell _ _ _)) | (with_reducible refine KeepsOthers.trans ?_ (KeepsOthers.alloc _ _)) | (with_reducible refine KeepsOthers.trans ?_ (KeepsOthers.drew _)))), (by repeat (first | (with_reducible exact Keeps.refl _ _) | ((with_reducible refine keeps_set ?_ ?_); (focus (first | omega | (dsimp only; omega)))) | (with_reducible refine Keeps.alloc ?_ _) | (with_reducible refine Keeps.drew ?_))), ⟨?_, ?_, ?_, ?_, ?_, (by repeat (first | (with_reducible exact Below.refl _ _) | (with_reducible assumption) | (with_reducible refine Below.drew ?_) | ((with_reducible refine below_alloc ?_ ?_); (focus (first | omega | (simp; done) | (simp; omega)))) | ((with_reducible refine below_set ?_ ?_); (focus (first | omega | (simp; done) | (simp; omega))))))⟩⟩
      · (apply Holds.of_eq; focus (repeat (first | (with_reducible assumption) | ((with_reducible apply holds_new); (focus (first | rfl | (simp; done)))) | (with_reducible apply holds_set) | ((with_reducible apply holds_far); (focus (first | omega | (simp; done) | (simp; omega)))) | (with_reducible apply Holds.alloc) | (with_reducible apply Holds.drew))))
        rfl
      · (apply Holds.of_eq; focus (repeat (first | (with_reducible assumption) | ((with_reducible apply holds_new); (focus (first | rfl | (simp; done)))) | (with_reducible apply holds_set) | ((with_reducible apply holds_far); (focus (first | omega | (simp; done) | (simp; omega)))) | (with_reducible apply Holds.alloc) | (with_reducible apply Holds.drew))))
        rfl
      · (apply Holds.of_eq; focus (repeat (first | (with_reducible assumption) | ((with_reducible apply holds_new); (focus (first | rfl | (simp; done)))) | (with_reducible apply holds_set) | ((with_reducible apply holds_far); (focus (first | omega | (simp; done) | (simp; omega)))) | (with_reducible apply Holds.alloc) | (with_reducible apply Holds.drew))))
        rfl
      · (apply Holds.of_eq; focus (repeat (first | (with_reducible assumption) | ((with_reducible apply holds_new); (focus (first | rfl | (simp; done)))) | (with_reducible apply holds_set) | ((with_reducible apply holds_far); (focus (first | omega | (simp; done) | (simp; omega)))) | (with_reducible apply Holds.alloc) | (with_reducible apply Holds.drew))))
        simp
      · exact snoc_all g4 (by dsimp only; omega)
    · refine ⟨(by repeat (first | (with_reducible exact KeepsOthers.refl _) | (with_reducible refine KeepsOthers.trans ?_ (KeepsOthers.setCell _ _ _)) | (with_reducible refine KeepsOthers.trans ?_ (KeepsOthers.alloc _ _)) | (with_reducible refine KeepsOthers.trans ?_ (KeepsOthers.drew _)))), (by repeat (first | (with_reducible exact Keeps.refl _ _) | ((with_reducible refine keeps_set ?_ ?_); (focus (first | omega | (dsimp only; omega)))) | (with_reducible refine Keeps.alloc ?_ _) | (with_reducible refine Keeps.drew ?_))), ⟨?_, ?_, ?_, ?_, ?_, (by repeat (first | (with_reducible exact Below.refl _ _) | (with_reducible assumption) | (with_reducible refine Below.drew ?_) | ((with_reducible refine below_alloc ?_ ?_); (focus (first | omega | (simp; done) | (simp; omega)))) | ((with_reducible refine below_set ?_ ?_); (focus (first | omega | (simp; done) | (simp; omega))))))⟩⟩
      · (apply Holds.of_eq; focus (repeat (first | (with_reducible assumption) | ((with_reducible apply holds_new); (focus (first | rfl | (simp; done)))) | (with_reducible apply holds_set) | ((with_reducible apply holds_far); (focus (first | omega | (simp; done) | (simp; omega)))) | (with_reducible apply Holds.alloc) | (with_reducible apply Holds.drew))))
        rfl
      · (apply Holds.of_eq; focus (repeat (first | (with_reducible assumption) | ((with_reducible apply holds_new); (focus (first | rfl | (simp; done)))) | (with_reducible apply holds_set) | ((with_reducible apply holds_far); (focus (first | omega | (simp; done) | (simp; omega)))) | (with_reducible apply Holds.alloc) | (with_reducible apply Holds.drew))))
        rfl
      · (apply Holds.of_eq; focus (repeat (first | (with_reducible assumption) | ((with_reducible apply holds_new); (focus (first | rfl | (simp; done)))) | (with_reducible apply holds_set) | ((with_reducible apply holds_far); (focus (first | omega | (simp; done) | (simp; omega)))) | (with_reducible apply Holds.alloc) | (with_reducible apply Holds.drew))))
        rfl
      · (apply Holds.of_eq; focus (repeat (first | (with_reducible assumption) | ((with_reducible apply holds_new); (focus (first | rfl | (simp; done)))) | (with_reducible apply holds_set) | ((with_reducible apply holds_far); (focus (first | omega | (simp; done) | (simp; omega)))) | (with_reducible apply Holds.alloc) | (with_reducible apply Holds.drew))))
        simp
      · exact snoc_all g4 (by dsimp only; omega)
  case done =>
    rintro D xs W hD hS ⟨h0, h1, h2, h3, h4, hb⟩ hK
    have hbz := hb.size
    have c10 := h1.c20; have c11 := h1.c21; have c2 := h2.c0
    have f10 := h1.frozen 0; have f11 := h1.frozen 1; have f2 := h2.frozen 0
    gi_wp2
    refine leaves_marks (B := w.heap.size) [D] _ ⟨by simp, ?_⟩ ?_
    · intro D' hD'
      simp at hD'
      subst hD'
      exact ⟨by simp at hD; omega, keeps_deferred (by repeat (first | (with_reducible exact KeepsOthers.refl _) | (with_reducible refine KeepsOthers.trans ?_ (KeepsOthers.setCell _ _ _)) | (with_reducible refine KeepsOthers.trans ?_ (KeepsOthers.alloc _ _)) | (with_reducible refine KeepsOthers.trans ?_ (KeepsOthers.drew _)))) hK⟩
    · intro W' hc
      have q1 := hc.holds (g := w.heap.size + 1) (t := 35) (cs := #[.int .i64 0, .int .i64 0]) (by (apply Holds.of_eq; focus (repeat (first | (with_reducible assumption) | ((with_reducible apply holds_new); (focus (first | rfl | (simp; done)))) | (with_reducible apply holds_set) | ((with_reducible apply holds_far); (focus (first | omega | (simp; done) | (simp; omega)))) | (with_reducible apply Holds.alloc) | (with_reducible apply Holds.drew)))); rfl)
      have q2 := hc.holds (g := w.heap.size + 1 + 1) (t := 4) (cs := #[.bool false]) (by (apply Holds.of_eq; focus (repeat (first | (with_reducible assumption) | ((with_reducible apply holds_new); (focus (first | rfl | (simp; done)))) | (with_reducible apply holds_set) | ((with_reducible apply holds_far); (focus (first | omega | (simp; done) | (simp; omega)))) | (with_reducible apply Holds.alloc) | (with_reducible apply Holds.drew)))); rfl)
      have e10 := q1.c20; have e11 := q1.c21; have e2 := q2.c0
      refine ⟨.tuple #[.agg #[.int .i64 0, .int .i64 0], .bool false], ?_, ?_, ?_⟩
      · simp [results, Try.f19, go_sem, e10, e11, e2]
      · rw [← hS, atFrom_none _ _ h4]; rfl
      · refine Below.trans ?_ (hc.below (Nat.le_refl _) (by simp; omega))
        exact (by repeat (first | (with_reducible exact Below.refl _ _) | (with_reducible assumption) | (with_reducible refine Below.drew ?_) | ((with_reducible refine below_alloc ?_ ?_); (focus (first | omega | (simp; done) | (simp; omega)))) | ((with_reducible refine below_set ?_ ?_); (focus (first | omega | (simp; done) | (simp; omega))))))
  case stop =>
    rintro D c pre W hD hS ⟨rfl, pre', x, rfl, h1, h2, h3, h4, hb⟩ hK
    have hbz := hb.size
    gi_wp2
    refine leaves_marks (B := w.heap.size) [D] _ ⟨by simp, ?_⟩ ?_
    · intro D' hD'
      simp at hD'
      subst hD'
      exact ⟨by simp at hD; omega, hK⟩
    · intro W' hc
      have q1 := hc.holds h3
      have q2 := hc.holds h4
      have e10 := q1.c20; have e11 := q1.c21; have e2 := q2.c0
      refine ⟨.tuple #[.agg #[.int .i64 ((0 + pre'.length + 1 : Nat) : Int), .int .i64 (p - x.1.1 + 1)], .bool true], ?_, ?_, ?_⟩
      · simp [results, Try.f19, go_sem, e10, e11, e2]
      · obtain ⟨r, hr⟩ := hS
        rw [← hr, List.map_append, List.map_cons, List.map_nil, List.append_assoc, List.singleton_append, atFrom_some p _ _ x.1 h1 h2]
        simp [spotV]
      · exact hb.trans (hc.below (Nat.le_refl _) hbz)
end Go.Proofs.Ytmgpfldlngjekaa
