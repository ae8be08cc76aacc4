/-
  follow's sides: what is known, and where it lies; the closure that brings a tail to a rule.
-/
import Derived.Test.YtmlggfapnkhcaaaFollowP
import Derived.Test.YtmlggfapnkhcaaaRows2
import Derived.Test.YtmlggfapnkhcaaaFirstU
namespace Go.Proofs.Ytmlggfapnkhcaaa
open Go.RowKit Go.Shelf
attribute [local simp] wide_fn

/-- All is as it was, but the blocks p and q. -/
structure But2 (p q : Nat) (w w' : World) : Prop where
  os : w'.os = w.os
  tape : w'.tape = w.tape
  output : w'.output = w.output
  size : w.heap.size ≤ w'.heap.size
  block : ∀ k, k < w.heap.size → k ≠ p → k ≠ q → w'.heap[k]? = w.heap[k]?
section
variable {p q : Nat} {w w' w'' : World}
theorem But2.refl (p q : Nat) (w : World) : But2 p q w w := ⟨rfl, rfl, rfl, Nat.le_refl _, fun _ _ _ _ => rfl⟩
theorem But2.of_below (h : Below w.heap.size w w') : But2 p q w w' := ⟨h.os, h.tape, h.output, h.size, fun k hk _ _ => h.block k hk⟩
theorem But2.trans (h : But2 p q w w') (k : But2 p q w' w'') : But2 p q w w'' :=
  ⟨k.os.trans h.os, k.tape.trans h.tape, k.output.trans h.output, Nat.le_trans h.size k.size, fun i hi hn hm => (k.block i (Nat.lt_of_lt_of_le hi h.size) hn hm).trans (h.block i hi hn hm)⟩
theorem But2.next (h : But2 p q w w') (k : Below w'.heap.size w' w'') : But2 p q w w'' := h.trans (But2.of_below k)
theorem But2.set1 (h : But2 p q w w') (i : Nat) (v : Value) : But2 p q w (w'.setCell ⟨p, i, none⟩ v) :=
  h.trans ⟨rfl, rfl, rfl, by simp [World.setCell], fun k _ hn _ => Below.heap_setCell _ _ _ _ hn⟩
theorem But2.set2 (h : But2 p q w w') (i : Nat) (v : Value) : But2 p q w (w'.setCell ⟨q, i, none⟩ v) :=
  h.trans ⟨rfl, rfl, rfl, by simp [World.setCell], fun k _ _ hn => Below.heap_setCell _ _ _ _ hn⟩
theorem But2.below (h : But2 p q w w') {B : Nat} (hp : B ≤ p) (hq : B ≤ q) (hs : B ≤ w.heap.size) : Below B w w' := ⟨h.os, h.tape, h.output, h.size, fun k hk => h.block k (by omega) (by omega) (by omega)⟩
theorem Holds.but2 {b : Nat} {t : TypeId} {cs : Array Value} (h : Holds w b t cs) (hb : But2 p q w w') (h1 : b ≠ p) (h2 : b ≠ q) : Holds w' b t cs := (hb.block b h.lt h1 h2).trans h
theorem Rd.but2 {size n : Nat} {v : Value} {cs : List Value} {T T' : Nat → Prop} (h : Rd w T size v n cs) (hb : But2 p q w w') (hT : ∀ k, T k → k < w.heap.size ∧ k ≠ p ∧ k ≠ q) (hT' : ∀ k, T k → T' k) : Rd w' T' size v n cs :=
  (h.keeps ⟨hb.size, fun k hk hl => hb.block k hl (hT k hk).2.1 (hT k hk).2.2⟩).mono hT'
theorem But2.one (h : But2 p q w w') (hq : w.heap.size ≤ q) : But p w w' := ⟨h.os, h.tape, h.output, h.size, fun k hk hn => h.block k hk hn (by omega)⟩
theorem But.two (h : But p w w') : But2 p q w w' := ⟨h.os, h.tape, h.output, h.size, fun k hk hn _ => h.block k hk hn⟩
end

/-- What is known of a grammar, in the block S; the rows behind each rule in the row q. -/
structure SidesAt (w : World) (X : Nat → Prop) (base S q : Nat) (vf ve vr : Value) (A : List (List Int)) (em rb : List Bool) (F : List (List Int)) : Prop where
  at_ : Holds w S 98 #[vf, ve, vr, .slice (some ⟨q, 0, none⟩) F.length F.length]
  sq : S ≠ q
  sx : ¬ X S
  first : Rows2 w (fun k => k < w.heap.size ∧ k ≠ q ∧ ¬ X k) vf A
  empty : Bools w (fun k => k < w.heap.size ∧ k ≠ q ∧ ¬ X k) ve em
  reached : Bools w (fun k => k < w.heap.size ∧ k ≠ q ∧ ¬ X k) vr rb
  all : Rows2M X w base (.slice (some ⟨q, 0, none⟩) F.length F.length) F
section
variable {w w' : World} {X : Nat → Prop} {base S q : Nat} {vf ve vr : Value} {A : List (List Int)} {em rb : List Bool} {F : List (List Int)}
theorem SidesAt.later (h : SidesAt w X base S q vf ve vr A em rb F) (hb : Below w.heap.size w w') : SidesAt w' X base S q vf ve vr A em rb F := by
  have hz := hb.size
  exact ⟨h.at_.below hb h.at_.lt, h.sq, h.sx, (Recs.below h.first hb (fun _ h => h.1)).mono (fun k hk => ⟨by omega, hk.2⟩), (Rd.below h.empty hb (fun _ h => h.1)).mono (fun k hk => ⟨by omega, hk.2⟩),
    (Rd.below h.reached hb (fun _ h => h.1)).mono (fun k hk => ⟨by omega, hk.2⟩), h.all.below hb⟩
/-- Other blocks that nothing lies in. -/
theorem SidesAt.other {Y : Nat → Prop} (h : SidesAt w X base S q vf ve vr A em rb F) (hY : ∀ k, k < w.heap.size → ¬ X k → ¬ Y k) : SidesAt w Y base S q vf ve vr A em rb F := by
  obtain ⟨ls, h1, h2, h3, h4⟩ := h.all
  exact ⟨h.at_, h.sq, hY _ h.at_.lt h.sx, h.first.mono (fun k hk => ⟨hk.1, hk.2.1, hY k hk.1 hk.2.2⟩), h.empty.mono (fun k hk => ⟨hk.1, hk.2.1, hY k hk.1 hk.2.2⟩), h.reached.mono (fun k hk => ⟨hk.1, hk.2.1, hY k hk.1 hk.2.2⟩),
    ls, h1, h2, fun g hg => ⟨hY g (h3 g hg).2 (h3 g hg).1, (h3 g hg).2⟩, fun i x l a b => (h4 i x l a b).mono (fun k hk => ⟨hk.1, hk.2.1, hY k hk.1 hk.2.2⟩)⟩
theorem SidesAt.setX (h : SidesAt w X base S q vf ve vr A em rb F) {n i : Nat} (hn : X n) (u : Value) : SidesAt (w.setCell ⟨n, i, none⟩ u) X base S q vf ve vr A em rb F := by
  have hz : (w.setCell ⟨n, i, none⟩ u).heap.size = w.heap.size := by simp [World.setCell]
  obtain ⟨ls, h1, h2, h3, h4⟩ := h.all
  have hk : Keeps (fun k => k < w.heap.size ∧ k ≠ q ∧ ¬ X k) w (w.setCell ⟨n, i, none⟩ u) := (Keeps.refl _ _).setCell (p := ⟨n, i, none⟩) (fun hh => hh.2.2 hn) u
  refine ⟨h.at_.far (p := ⟨n, i, none⟩) (fun e => h.sx (by rw [e]; exact hn)) u, h.sq, h.sx, ?_, ?_, ?_, ls, h1, h2.set (p := ⟨n, i, none⟩) (fun e => (h3 n e).1 hn) u, fun g hg => by rw [hz]; exact h3 g hg, fun j x l a b => ?_⟩
  · rw [hz]; exact h.first.keeps hk
  · rw [hz]; exact Rd.keeps h.empty hk
  · rw [hz]; exact Rd.keeps h.reached hk
  · rw [hz]; exact Rd.set (p := ⟨n, i, none⟩) (h4 j x l a b) (fun hh => hh.2.2 hn) u
theorem SidesAt.row (h : SidesAt w X base S q vf ve vr A em rb F) {r : Nat} {l : List Int} (hl : F[r]? = some l) : ∃ u, w.cell? ⟨q, r, none⟩ = some u ∧ w.frozen? ⟨q, r, none⟩ = false ∧ Ints w (fun k => k < w.heap.size ∧ k ≠ q ∧ ¬ X k) u l := by
  obtain ⟨ls, h1, h2, h3, h4⟩ := h.all
  have hi := (List.getElem?_eq_some_iff.1 hl).1
  have hls : ls[r]? = some (ls[r]'(by omega)) := List.getElem?_eq_getElem _
  have hc := (h2.own (by omega)).cells (g := q) rfl r _ hls
  rw [addr_add, Nat.zero_add] at hc
  obtain ⟨g, cap, cur, e, _, hg, _⟩ : ∃ g cap cur, (Value.slice (some ⟨q, 0, none⟩) F.length F.length) = .slice (some ⟨g, 0, none⟩) F.length cap ∧ base ≤ g ∧ w.heap[g]? = some (.cells cur 34 (0, 0)) ∧ True := by
    rcases (h2.own (by omega)).2 with ⟨_, e⟩ | ⟨g, cap, cur, hv, hb, hg, _⟩
    · omega
    · exact ⟨g, cap, cur, hv, hb, hg, trivial⟩
  simp only [Value.slice.injEq, Option.some.injEq, Addr.mk.injEq] at e
  obtain ⟨⟨rfl, _, _⟩, _, _⟩ := e
  refine ⟨_, hc, Holds.frozen hg _, (h4 r l _ hl hls).mono (fun k hk => ⟨hk.1, fun e => hk.2.1 (by rw [e]; rfl), hk.2.2⟩)⟩
theorem SidesAt.put (h : SidesAt w X base S q vf ve vr A em rb F) {r : Nat} (hr : r < F.length) {u : Value} {l : List Int} (hu : Ints w (fun k => k < w.heap.size ∧ k ≠ q ∧ ¬ X k) u l) : SidesAt (w.setCell ⟨q, r, none⟩ u) X base S q vf ve vr A em rb (F.set r l) := by
  have hz : (w.setCell ⟨q, r, none⟩ u).heap.size = w.heap.size := by simp [World.setCell]
  obtain ⟨g, c, u0, e, _, _, _, _, _, _, _, hall⟩ := Rows2M.put h.all hr (hu.mono (fun k hk => ⟨hk.1, fun e => hk.2.1 (by simp [Value.ownBlock] at e; exact e.symm), hk.2.2⟩))
  simp only [Value.slice.injEq, Option.some.injEq, Addr.mk.injEq] at e
  obtain ⟨⟨rfl, _, _⟩, _, _⟩ := e
  have hk : Keeps (fun k => k < w.heap.size ∧ k ≠ q ∧ ¬ X k) w (w.setCell ⟨q, r, none⟩ u) := (Keeps.refl _ _).setCell (p := ⟨q, r, none⟩) (fun hh => hh.2.1 rfl) u
  refine ⟨?_, h.sq, h.sx, ?_, ?_, ?_, ?_⟩
  · rw [List.length_set]
    exact h.at_.far (p := ⟨q, r, none⟩) h.sq u
  · rw [hz]; exact h.first.keeps hk
  · rw [hz]; exact Rd.keeps h.empty hk
  · rw [hz]; exact Rd.keeps h.reached hk
  · rw [List.length_set]; exact hall
theorem SidesAt.qlt (h : SidesAt w X base S q vf ve vr A em rb F) : q < w.heap.size := by
  obtain ⟨_, _, _, h3, _⟩ := h.all
  exact (h3 q rfl).2
end
/-- Two lists' lengths, as the walk compares them. -/
theorem longer_dec (a b : List Int) : decide ((a.length : Int) < (b.length : Int)) = decide (a.length < b.length) := by
  by_cases h : a.length < b.length
  · rw [decide_eq_true h, decide_eq_true (by omega)]
  · rw [decide_eq_false h, decide_eq_false (by omega)]

set_option maxRecDepth 20000 in
set_option maxHeartbeats 8000000 in
theorem follow_bring (W : World) (base Bs Bn S q N : Nat) (nb : Bool) (vf ve vr vt : Value) (A : List (List Int)) (em rb : List Bool) (F : List (List Int)) (r : Nat) (t : List Int)
    (HBs : Holds W Bs 96 #[.pointer (some ⟨S, 0, none⟩)]) (HBn : Holds W Bn 4 #[.bool nb]) (HS : SidesAt W (fun k => k = Bn) base S q vf ve vr A em rb F) (_ : Bs ≠ q) (h2 : Bs ≠ Bn) (h3 : Bn ≠ q)
    (hr : r < F.length) (hF : ∀ l ∈ F, Bd N l) (ht : Bd N t) (hN : N ≤ 200000) (hT : Ints W (Old W) vt t) :
    Calls Try.prog 114 #[.int .i64 r, vt, .pointer (some ⟨Bs, 0, none⟩), .pointer (some ⟨Bn, 0, none⟩)] W fun e W' => e = .returned (.tuple #[]) ∧ Hid (SidesAt W' (fun k => k = Bn) base S q vf ve vr A em rb (bringF F r t)) ∧ Hid (Holds W' Bn 4 #[.bool (nb || decide ((F.getD r []).length < (mergeU (F.getD r []) t).length))]) ∧ Hid (But2 q Bn W W') := by
  have hFr : F[r]? = some (F.getD r []) := by rw [List.getD_eq_getElem?_getD, List.getElem?_eq_getElem hr]; rfl
  have hBr := getD_bd hF r
  have hsb : S ≠ Bn := HS.sx
  obtain ⟨u, hu, hfz, hRow⟩ := HS.row hFr
  have HUn := hidden (many_Union W u vt (F.getD r []) t (hRow.mono (fun _ h => h.1)) hT (by have := hBr.len; have := ht.len; omega))
  have b0 : W.cell? ⟨Bs, 0, none⟩ = some (.pointer (some ⟨S, 0, none⟩)) := HBs.cell 0
  have k3 : W.cell? ⟨S, 3, none⟩ = some (.slice (some ⟨q, 0, none⟩) F.length F.length) := HS.at_.cell 3
  obtain ⟨Au, cu, rfl, hu1, hu2⟩ := hRow.val
  obtain ⟨At, ct, rfl, ht1, ht2⟩ := hT.val
  unfold maxLen at hu2 ht2
  have HSl := hidden (fun (w' : World) (hb : Below W.heap.size W w') => HS.later hb)
  have HBl := hidden (fun (w' : World) (hb : Below W.heap.size W w') => HBs.below hb HBs.lt)
  have HNl := hidden (fun (w' : World) (hb : Below W.heap.size W w') => HBn.below hb HBn.lt)
  have hql := HS.qlt; have hbl := HBs.lt; have hnl := HBn.lt; have hsl := HS.at_.lt
  have hE : bringF F r t = F.set r (mergeU (F.getD r []) t) := rfl
  rw [hE]
  have HLd := hidden (longer_dec (F.getD r []) (mergeU (F.getD r []) t))
  clear hE hF ht hT hBr hRow HS HBs HBn hFr
  generalize F.getD r [] = fr at *
  generalize mergeU fr t = mg at *
  go_enter Try.func114, Try.ntmps114
  go_wp2_with fail
  refine HUn.out.mono ?_
  rintro e w5 ⟨⟨u5, rfl, hu5⟩, hb5⟩
  obtain ⟨A5, c5, rfl⟩ := hu5.out.value
  have HS5 := hidden (HSl.out w5 hb5)
  have HB5 := hidden (HBl.out w5 hb5)
  have HN5 := hidden (HNl.out w5 hb5)
  have HI5 : Hid (Ints w5 (fun k => k < w5.heap.size ∧ k ≠ q ∧ ¬ k = Bn) (.slice A5 mg.length c5) mg) := hidden (Mine.rd hu5.out (fun g _ h1 h2 => ⟨h2, by omega, by omega⟩))
  have e0 := cell_onI b0 hb5; have e1 := cell_onI k3 hb5; have e2 := cell_onI hu hb5
  have e3 : w5.cell? ⟨Bn, 0, none⟩ = some (.bool nb) := HN5.out.cell 0
  have f3 : w5.frozen? ⟨Bn, 0, none⟩ = false := HN5.out.frozen 0
  have HB25 : Hid (But2 q Bn W w5) := hidden (But2.of_below hb5)
  have hz5 := hb5.size
  clear hb5 hu5 HUn HSl HBl HNl b0 k3 hu hfz
  cases nb with
  | true =>
    have HSn := hidden ((HS5.out.setX (n := Bn) (i := 0) rfl (.bool true)).put hr (u := .slice A5 mg.length c5) (l := mg) (by
      have hz : (w5.setCell ⟨Bn, 0, none⟩ (.bool true)).heap.size = w5.heap.size := by simp [World.setCell]
      rw [hz]
      exact Rd.set (p := ⟨Bn, 0, none⟩) HI5.out (fun h => h.2.2 rfl) _))
    have HNn : Hid (Holds ((w5.setCell ⟨Bn, 0, none⟩ (.bool true)).setCell ⟨q, r, none⟩ (.slice A5 mg.length c5)) Bn 4 #[.bool (true || decide (fr.length < mg.length))]) := hidden ((HN5.out.set 0 (.bool true)).far (p := ⟨q, r, none⟩) (by dsimp only; exact h3) _)
    have HBt := hidden ((HB25.out.set2 0 (.bool true)).set1 r (.slice A5 mg.length c5))
    obtain ⟨uq, hcq, hfq, _⟩ := (HS5.out.setX (n := Bn) (i := 0) rfl (.bool true)).row (r := r) (List.getElem?_eq_getElem hr)
    have g0 : (w5.setCell ⟨Bn, 0, none⟩ (.bool true)).cell? ⟨Bs, 0, none⟩ = some (.pointer (some ⟨S, 0, none⟩)) := (HB5.out.far (p := ⟨Bn, 0, none⟩) (by dsimp only; exact h2) _).cell 0
    have g1 : (w5.setCell ⟨Bn, 0, none⟩ (.bool true)).cell? ⟨S, 3, none⟩ = some (.slice (some ⟨q, 0, none⟩) F.length F.length) := (HS5.out.setX (n := Bn) (i := 0) rfl (.bool true)).at_.cell 3
    clear HS5 HB5 HN5 HI5 HB25
    go_wp2
    refine bodyPost_end (results_none rfl _ _ _) rfl ?_
    exact ⟨rfl, HSn, HNn, HBt⟩
  | false =>
    have HSn := fun (b : Bool) => hidden ((HS5.out.setX (n := Bn) (i := 0) rfl (.bool b)).put hr (u := .slice A5 mg.length c5) (l := mg) (by
      have hz : (w5.setCell ⟨Bn, 0, none⟩ (.bool b)).heap.size = w5.heap.size := by simp [World.setCell]
      rw [hz]
      exact Rd.set (p := ⟨Bn, 0, none⟩) HI5.out (fun h => h.2.2 rfl) _))
    have HNn : ∀ b : Bool, Hid (Holds ((w5.setCell ⟨Bn, 0, none⟩ (.bool b)).setCell ⟨q, r, none⟩ (.slice A5 mg.length c5)) Bn 4 #[.bool b]) := fun b => hidden ((HN5.out.set 0 (.bool b)).far (p := ⟨q, r, none⟩) (by dsimp only; exact h3) _)
    have HBt := fun (b : Bool) => hidden ((HB25.out.set2 0 (.bool b)).set1 r (.slice A5 mg.length c5))
    have hr9 := fun (b : Bool) => (HS5.out.setX (n := Bn) (i := 0) rfl (.bool b)).row (r := r) (List.getElem?_eq_getElem hr)
    have g0 : ∀ b : Bool, (w5.setCell ⟨Bn, 0, none⟩ (.bool b)).cell? ⟨Bs, 0, none⟩ = some (.pointer (some ⟨S, 0, none⟩)) := fun b => (HB5.out.far (p := ⟨Bn, 0, none⟩) (by dsimp only; exact h2) _).cell 0
    have g1 : ∀ b : Bool, (w5.setCell ⟨Bn, 0, none⟩ (.bool b)).cell? ⟨S, 3, none⟩ = some (.slice (some ⟨q, 0, none⟩) F.length F.length) := fun b => (HS5.out.setX (n := Bn) (i := 0) rfl (.bool b)).at_.cell 3
    replace HSn := HSn (decide (fr.length < mg.length))
    replace HNn := HNn (decide (fr.length < mg.length))
    replace HBt := HBt (decide (fr.length < mg.length))
    obtain ⟨uq, hcq, hfq, _⟩ := hr9 (decide (fr.length < mg.length))
    replace g0 := g0 (decide (fr.length < mg.length))
    replace g1 := g1 (decide (fr.length < mg.length))
    clear HS5 HB5 HN5 HI5 HB25 hr9 HLd
    go_wp2
    refine bodyPost_end (results_none rfl _ _ _) rfl ?_
    exact ⟨rfl, HSn, HNn, HBt⟩
end Go.Proofs.Ytmlggfapnkhcaaa
