/-
  lang.owned: a grammar cloned, with what is within its tokens and productions.
-/
import Derived.Test.YtbjheaiiajpifaaClones
import Derived.Test.YtbjheaiiajpifaaRecsM
import Derived.Test.YtbjheaiiajpifaaG4
namespace Go.Proofs.Ytbjheaiiajpifaa
open Go.RowKit Go.Shelf

/-- What the copying of a grammar asks: no part of it takes more memory than there can be. -/
structure Copied (g : Gram) : Prop where
  toks : g.toks.length ≤ 100000
  rules : g.rules.length ≤ 100000
  prods : g.prods.length ≤ 100000
  rex : ∀ x ∈ g.toks, x.rex.length * 40 ≤ 140737488355328
  right : ∀ x ∈ g.prods, x.right.length * 32 ≤ 140737488355328
theorem tok_sliceAt : tokR.SliceAt 1 := ⟨by decide, fun _ _ => rfl, fun _ _ _ => rfl⟩
theorem prod_sliceAt : prodR.SliceAt 1 := ⟨by decide, fun _ _ => rfl, fun _ _ _ => rfl⟩
theorem rx_ones (l : List Rx) : ∀ u ∈ l.flatMap rxCells, u.oneCell' = true := by
  intro u hu
  rw [List.mem_flatMap] at hu
  obtain ⟨x, _, hu⟩ := hu
  simp only [rxCells, List.mem_cons, List.not_mem_nil, or_false] at hu
  rcases hu with rfl | rfl | rfl | rfl | rfl <;> rfl
theorem it_ones (l : List Item) : ∀ u ∈ l.flatMap itCells, u.oneCell' = true := by
  intro u hu
  rw [List.mem_flatMap] at hu
  obtain ⟨x, _, hu⟩ := hu
  simp only [itCells, List.mem_cons, List.not_mem_nil, or_false] at hu
  rcases hu with rfl | rfl | rfl | rfl <;> rfl
theorem mine_fresh {w : World} {base : Nat} {e : TypeId} {size n : Nat} {v : Value} {xs : List Value} (h : Mine w base e size v n xs) (hq : ∀ q, v.ownBlock = some q → base ≤ q ∧ q < w.heap.size) : Rd w (fun b => base ≤ b ∧ b < w.heap.size) size v n xs := h.rd fun g hg _ _ => hq g hg

/-- The tokens cloned, at the start: the row is the call's own. -/
theorem toks_start {w W : World} {T X : Nat → Prop} {a : Value} {ts : List Token} (hR : Recs tokR w T a ts) (hT : ∀ k, T k → k < w.heap.size) (hXT : ∀ k, T k → ¬ X k) (hX : ∀ k, X k → k < W.heap.size) (hb : Below w.heap.size w W) : ∃ ls : List Value, ls.length = ts.length ∧ Rd W (Old W) 3 a ts.length (tokR.all ts ls) ∧ (∀ u ∈ tokR.all ts ls, u.oneCell' = true) ∧
    (∀ w1 u, Mine w1 W.heap.size 88 3 u ts.length (tokR.all ts ls) → (∀ q, u.ownBlock = some q → W.heap.size ≤ q ∧ q < w1.heap.size) → Below W.heap.size W w1 → RecsM tokR 88 X w1 W.heap.size u ts) := by
  obtain ⟨ls, h1, h2, h3⟩ := hR
  refine ⟨ls, h1, (h2.below hb hT).mono (fun k hk => Nat.lt_of_lt_of_le (hT k hk) hb.size), tokR.all_one ts ls (Recs.ones h1 h3), fun w1 u hM hq hb1 => RecsM.start (w0 := W) h1 hM hq (fun i x l a b => (Rd.below (h3 i x l a b) hb hT).mono (fun k hk => ⟨Nat.lt_of_lt_of_le (hT k hk) hb.size, hXT k hk⟩)) hb1 hX⟩

theorem prods_start {w W : World} {T X : Nat → Prop} {a : Value} {ts : List Prod} (hR : Recs prodR w T a ts) (hT : ∀ k, T k → k < w.heap.size) (hXT : ∀ k, T k → ¬ X k) (hX : ∀ k, X k → k < W.heap.size) (hb : Below w.heap.size w W) : ∃ ls : List Value, ls.length = ts.length ∧ Rd W (Old W) 2 a ts.length (prodR.all ts ls) ∧ (∀ u ∈ prodR.all ts ls, u.oneCell' = true) ∧
    (∀ w1 u, Mine w1 W.heap.size 77 2 u ts.length (prodR.all ts ls) → (∀ q, u.ownBlock = some q → W.heap.size ≤ q ∧ q < w1.heap.size) → Below W.heap.size W w1 → RecsM prodR 77 X w1 W.heap.size u ts) := by
  obtain ⟨ls, h1, h2, h3⟩ := hR
  refine ⟨ls, h1, (h2.below hb hT).mono (fun k hk => Nat.lt_of_lt_of_le (hT k hk) hb.size), prodR.all_one ts ls (Recs.ones h1 h3), fun w1 u hM hq hb1 => RecsM.start (w0 := W) h1 hM hq (fun i x l a b => (Rd.below (h3 i x l a b) hb hT).mono (fun k hk => ⟨Nat.lt_of_lt_of_le (hT k hk) hb.size, hXT k hk⟩)) hb1 hX⟩
theorem strs_ones (l : List ByteArray) : ∀ u ∈ l.flatMap strC, u.oneCell' = true := by
  intro u hu
  rw [List.mem_flatMap] at hu
  obtain ⟨x, _, hu⟩ := hu
  simp only [strC, List.mem_cons, List.not_mem_nil, or_false] at hu
  subst hu
  rfl
/-- What a cloning leaves: all blocks of T are kept. -/
theorem keeps_under {W W' : World} {X : Nat → Prop} (h : Below W.heap.size W W') : Keeps (fun b => b < W.heap.size ∧ ¬ X b) W W' := ⟨h.size, fun k hk _ => h.block k hk.1⟩

set_option maxRecDepth 20000 in
set_option maxHeartbeats 8000000 in
theorem lang_owned (a b c : Value) (g : Gram) (T : Nat → Prop) (w : World) (HG : GramIs w T a b c g) (hT : ∀ k, T k → k < w.heap.size) (hC : Copied g) :
    Calls Try.prog 40 #[.agg (gramCells a b c g)] w fun r w' => (∃ a' b' c', r = .returned (.agg (gramCells a' b' c' g)) ∧ Hid (GramIs w' (fun k => k < w'.heap.size ∧ (T k ∨ w.heap.size + 2 ≤ k)) a' b' c' g)) ∧ Below w.heap.size w w' := by
  obtain ⟨HA, HB, HC⟩ := HG
  obtain ⟨A1, k1, rfl, v1, m1⟩ := HA.value
  obtain ⟨A2, k2, rfl, v2, m2⟩ := HB.val
  obtain ⟨A3, k3, rfl, v3, m3⟩ := HC.value
  unfold maxLen at m1 m2 m3
  have HA := hidden HA
  have HB := hidden HB
  have HC := hidden HC
  obtain ⟨X, hXd⟩ : ∃ X : Nat → Prop, X = fun k => ¬ (T k ∨ w.heap.size + 2 ≤ k) := ⟨_, rfl⟩
  have hXT : Hid (∀ k, T k → ¬ X k) := hidden (fun k hk hx => by rw [hXd] at hx; exact hx (.inl hk))
  have hXlt : Hid (∀ k, X k → k < w.heap.size + 2) := hidden (fun k hx => by rw [hXd] at hx; have : ¬ w.heap.size + 2 ≤ k := fun h => hx (.inr h); omega)
  have hX0 : Hid (X w.heap.size) := hidden (by rw [hXd]; rintro (h | h); · exact Nat.lt_irrefl _ (hT _ h)
                                               · omega)
  have hX1 : Hid (X (w.heap.size + 1)) := hidden (by rw [hXd]; rintro (h | h); · have := hT _ h; omega
                                                     · omega)
  have hXF : Hid (∀ k, ¬ X k → T k ∨ w.heap.size + 2 ≤ k) := hidden (fun k hx => by rw [hXd] at hx; exact Classical.not_not.1 hx)
  replace hT := hidden hT
  clear hXd
  have hb0 : Below w.heap.size w ((w.alloc (.cells (gramCells (.slice A1 g.toks.length k1) (.slice A2 g.rules.length k2) (.slice A3 g.prods.length k3) g) 26)).alloc (.cells #[.slice none 0 0, .slice none 0 0, .slice none 0 0, .int .i64 0, .int .i64 0, .int .i64 0, .int .i64 0, .int .i64 0] 26)) := by unfold gramCells; exact (by repeat (first | (with_reducible exact Below.refl _ _) | (with_reducible assumption) | (with_reducible refine Below.drew ?_) | (with_reducible refine below_drewN ?_ _) | ((with_reducible refine below_alloc ?_ ?_); (focus (first | omega | (simp; done) | (simp; omega)))) | ((with_reducible refine below_set ?_ ?_); (focus (first | omega | (simp; done) | (simp; omega))))))
  have B0 : Hid (Holds ((w.alloc (.cells (gramCells (.slice A1 g.toks.length k1) (.slice A2 g.rules.length k2) (.slice A3 g.prods.length k3) g) 26)).alloc (.cells #[.slice none 0 0, .slice none 0 0, .slice none 0 0, .int .i64 0, .int .i64 0, .int .i64 0, .int .i64 0, .int .i64 0] 26)) w.heap.size 26 (gramCells (.slice A1 g.toks.length k1) (.slice A2 g.rules.length k2) (.slice A3 g.prods.length k3) g)) := hidden ((Holds.new w _ _).alloc _)
  have B1 : Hid (Holds ((w.alloc (.cells (gramCells (.slice A1 g.toks.length k1) (.slice A2 g.rules.length k2) (.slice A3 g.prods.length k3) g) 26)).alloc (.cells #[.slice none 0 0, .slice none 0 0, .slice none 0 0, .int .i64 0, .int .i64 0, .int .i64 0, .int .i64 0, .int .i64 0] 26)) (w.heap.size + 1) 26 #[.slice none 0 0, .slice none 0 0, .slice none 0 0, .int .i64 0, .int .i64 0, .int .i64 0, .int .i64 0, .int .i64 0]) := hidden (Holds.new_at (by simp))
  unfold gramCells at hb0 B0 B1 ⊢
  go_enter Try.func40, Try.ntmps40
  go_wp2_with fail
  generalize (w.alloc (.cells #[.slice A1 g.toks.length k1, .slice A2 g.rules.length k2, .slice A3 g.prods.length k3, .int .i64 g.start, .int .i64 g.states, .int .i64 g.text, .int .i64 g.nodes, .int .i64 g.pairs] 26)).alloc (.cells #[.slice none 0 0, .slice none 0 0, .slice none 0 0, .int .i64 0, .int .i64 0, .int .i64 0, .int .i64 0, .int .i64 0] 26) = W at *
  have hzW := B1.out.lt
  obtain ⟨ls, l1, l2, l3, l4⟩ := toks_start (w := w) (X := X) HA.out hT.out hXT.out (fun k hk => by have := hXlt.out k hk; omega) hb0 (W := W)
  have hlen : g.toks.length * 48 ≤ 140737488355328 := by have := hC.toks; omega
  refine (clone_toks _ _ _ _ _ l2 l3 hlen).mono ?_
  rintro r w1 ⟨⟨u, rfl, HM, HQ⟩, hb1⟩
  have HO := hidden (l4 _ _ HM.out HQ.out hb1)
  obtain ⟨A4, k4, hu, v4, m4⟩ := (HM.out.rd (T := fun _ => True) (fun _ _ _ _ => trivial)).val
  subst hu
  unfold maxLen at m4
  replace B0 := hidden (B0.out.below hb1 (by omega))
  replace B1 := hidden (B1.out.below hb1 hzW)
  have hb := hb0.trans (hb1.mono hb0.size)
  have z0 := B0.out.cell 0; have zf := B0.out.frozen 0; have zl := B0.out.lt
  have B0' := hidden (B0.out.set 0 (.slice A4 g.toks.length k4))
  have HO' := hidden (HO.out.setX (p := ⟨w.heap.size, 0, none⟩) hX0.out (.slice A4 g.toks.length k4))
  have hb' := hb.setCell (p := ⟨w.heap.size, 0, none⟩) (Nat.le_refl _) (.slice A4 g.toks.length k4)
  have B1' := hidden (B1.out.far (p := ⟨w.heap.size, 0, none⟩) (by dsimp only; omega) (.slice A4 g.toks.length k4))
  clear l1 l2 l3 l4 HM HQ hb1 hb0 hlen HO hb B1
  go_wp2_with fail
  go_loopw [3, 12] (fun _ kk wr => ∃ k : Nat, k ≤ g.toks.length ∧ kk = .int .i64 k ∧ Hid (RecsM tokR 88 X wr W.heap.size (.slice A4 g.toks.length k4) g.toks) ∧ Hid (Holds wr w.heap.size 26 #[.slice A4 g.toks.length k4, .slice A2 g.rules.length k2, .slice A3 g.prods.length k3, .int .i64 g.start, .int .i64 g.states, .int .i64 g.text, .int .i64 g.nodes, .int .i64 g.pairs]) ∧ Hid (Holds wr (w.heap.size + 1) 26 #[.slice none 0 0, .slice none 0 0, .slice none 0 0, .int .i64 0, .int .i64 0, .int .i64 0, .int .i64 0, .int .i64 0]) ∧ Below w.heap.size w wr) (fun _ kk _ => g.toks.length - (intOf kk).toNat)
  case atStart => exact ⟨0, by omega, rfl, HO', B0', B1', hb'⟩
  case round =>
    clear HO' B0' B1' hb' z0 zf zl B0
    obtain ⟨k, hk, rfl, HO, B0, B1, hb⟩ := hrel
    have hzB := B1.out.lt
    by_cases hlt : k < g.toks.length
    · have hx := List.getElem?_eq_getElem hlt
      have hrx := hC.rex _ (List.getElem_mem hlt)
      obtain ⟨q, cap, l, hv, e1, e2, e3, e4, e5, x3, xf, hpl, hnext⟩ := HO.out.step tok_sliceAt hx (fun b hb => by have := hXlt.out b hb; omega)
      simp only [Value.slice.injEq] at hv
      obtain ⟨rfl, _, rfl⟩ := hv
      change wr.cell? ⟨q, k * 3 + 1, none⟩ = _ at x3
      change wr.frozen? ⟨q, k * 3 + 1, none⟩ = _ at xf
      obtain ⟨A5, k5, rfl, v5, m5⟩ := hpl.val
      unfold maxLen at m5
      have HC2 := hidden (fun (W' : World) (hb : Below wr.heap.size wr W') => clone_rex _ _ _ _ W' (Rd.below hpl hb (fun _ h => h.1)) (rx_ones _) hrx)
      have HX := hidden hnext
      have hn0 : ¬ (q = w.heap.size) := fun e => e5 (by rw [e]; exact hX0.out)
      have hn1 : ¬ (q = w.heap.size + 1) := fun e => e5 (by rw [e]; exact hX1.out)
      clear e5
      clear hpl hnext hrx hx HO
      generalize g.toks[k] = tk at *
      change Hid (∀ W', Below wr.heap.size wr W' → Calls Try.prog _ #[.slice A5 tk.rex.length k5] W' _) at HC2
      change wr.cell? _ = some (.slice A5 tk.rex.length k5) at x3
      have z0 := B0.out.cell 0
      have hbd : Below wr.heap.size wr wr.drew := (Below.refl _ _).drew
      have z0d : wr.drew.cell? ⟨w.heap.size, 0, none⟩ = some (.slice (some ⟨q, 0, none⟩) g.toks.length k4) := z0
      have x3d : wr.drew.cell? ⟨q, k * 3 + 1, none⟩ = some (.slice A5 tk.rex.length k5) := x3
      have xfd : wr.drew.frozen? ⟨q, k * 3 + 1, none⟩ = false := xf
      have zld : w.heap.size < wr.drew.heap.size := by change _ < wr.heap.size; omega
      have e4d : q < wr.drew.heap.size := e4
      have HF : Hid (∀ (w5 : World) A6 k6, Below wr.heap.size wr.drew w5 → Mine w5 wr.drew.heap.size 156 5 (.slice A6 tk.rex.length k6) (tokR.m tk) (tokR.inner tk) → (∀ q, (Value.slice A6 tk.rex.length k6).ownBlock = some q → wr.drew.heap.size ≤ q ∧ q < w5.heap.size) → RecsM tokR 88 X (w5.setCell ⟨q, k * 3 + 1, none⟩ (.slice A6 tk.rex.length k6)) W.heap.size (.slice (some ⟨q, 0, none⟩) g.toks.length k4) g.toks ∧ Holds (w5.setCell ⟨q, k * 3 + 1, none⟩ (.slice A6 tk.rex.length k6)) w.heap.size 26 #[.slice (some ⟨q, 0, none⟩) g.toks.length k4, .slice A2 g.rules.length k2, .slice A3 g.prods.length k3, .int .i64 g.start, .int .i64 g.states, .int .i64 g.text, .int .i64 g.nodes, .int .i64 g.pairs] ∧ Holds (w5.setCell ⟨q, k * 3 + 1, none⟩ (.slice A6 tk.rex.length k6)) (w.heap.size + 1) 26 #[.slice none 0 0, .slice none 0 0, .slice none 0 0, .int .i64 0, .int .i64 0, .int .i64 0, .int .i64 0, .int .i64 0] ∧ Below w.heap.size w (w5.setCell ⟨q, k * 3 + 1, none⟩ (.slice A6 tk.rex.length k6))) := hidden (fun w5 A6 k6 hb5 hM hQ => ⟨HX.out w5 _ (hbd.trans hb5) (mine_fresh hM hQ), (B0.out.below (hbd.trans hb5) (by omega)).far (p := ⟨q, _, none⟩) (fun e => hn0 e.symm) _, (B1.out.below (hbd.trans hb5) hzB).far (p := ⟨q, _, none⟩) (fun e => hn1 e.symm) _, (hb.trans ((hbd.trans hb5).mono hb.size)).setCell (p := ⟨q, _, none⟩) (by dsimp only; omega) _⟩)
      clear z0 x3 xf HX B0 B1
      go_wp2_with fail
      go_region_with ((go_at_call 73; refine (HC2.out _ hbd).mono ?_; rintro r w5 ⟨⟨u5, rfl, HM5, HQ5⟩, hb5⟩; obtain ⟨A6, k6, hu5, v6, m6⟩ := (HM5.out.rd (T := fun _ => True) (fun _ _ _ _ => trivial)).val; subst hu5; have y0 := (hb5.cell (p := ⟨w.heap.size, 0, none⟩) zld).trans z0d; have y3 := (hb5.cell (p := ⟨q, k * 3 + 1, none⟩) e4d).trans x3d; have yf := (hb5.frozen (p := ⟨q, k * 3 + 1, none⟩) e4d).trans xfd))
      all_goals
        obtain ⟨f1, f2, f3, f4⟩ := HF.out w5 A6 k6 hb5 HM5.out HQ5.out
        have f1 := hidden f1
        have f2 := hidden f2
        have f3 := hidden f3
        clear HF HM5 HQ5 y0 y3 yf z0d x3d xfd
        go_wp2
        go_roundw
        case rel => exact ⟨k + 1, by omega, by go_num, f1, f2, f3, f4⟩
        case measure => simp [intOf]; omega
    · obtain rfl : k = g.toks.length := by omega
      have HTk := hidden HO.out.recs
      have z1 := B0.out.cell 1
      have hRS := (Rd.below HB.out hb hT.out).mono (fun k hk => Nat.lt_of_lt_of_le (hT.out k hk) hb.size)
      have hls : g.rules.length * 16 ≤ 140737488355328 := by have := hC.rules; omega
      clear HO hlt hk
      go_wp2_with fail
      refine (clone_strs _ _ _ _ wr hRS (strs_ones _) hls).mono ?_
      rintro r w2 ⟨⟨u2, rfl, HM2, HQ2⟩, hb2⟩
      have HSt := hidden (mine_fresh HM2.out HQ2.out)
      obtain ⟨A7, k7, hu7, v7, m7⟩ := HSt.out.val
      subst hu7
      unfold maxLen at m7
      have HSt2 : Hid (Strs w2 (fun b => b < w2.heap.size ∧ ¬ X b) (.slice A7 g.rules.length k7) g.rules) := hidden (HSt.out.mono (fun b hb => ⟨hb.2, fun hx => by have := hXlt.out b hx; have := hb.1; omega⟩))
      have HTk2 : Hid (Recs tokR w2 (fun b => b < w2.heap.size ∧ ¬ X b) (.slice A4 g.toks.length k4) g.toks) := hidden ((HTk.out.below hb2 (fun _ h => h.1)).mono (fun b hb => ⟨by have := hb2.size; omega, hb.2⟩))
      have y1 := (hb2.cell (p := ⟨w.heap.size, 1, none⟩) (by dsimp only; omega)).trans z1
      have y2 := (hb2.cell (p := ⟨w.heap.size, 2, none⟩) (by dsimp only; omega)).trans (B0.out.cell 2)
      have yf := (hb2.frozen (p := ⟨w.heap.size, 1, none⟩) (by dsimp only; omega)).trans (B0.out.frozen 1)
      have yl : w.heap.size < w2.heap.size := by have := hb2.size; omega
      have B0' := hidden ((B0.out.below hb2 (by omega)).set 1 (.slice A7 g.rules.length k7))
      have B1' := hidden ((B1.out.below hb2 hzB).far (p := ⟨w.heap.size, 1, none⟩) (by dsimp only; omega) (.slice A7 g.rules.length k7))
      have hb' := (hb.trans (hb2.mono hb.size)).setCell (p := ⟨w.heap.size, 1, none⟩) (Nat.le_refl _) (.slice A7 g.rules.length k7)
      have HSt' := hidden (HSt2.out.set (p := ⟨w.heap.size, 1, none⟩) (fun h => h.2 hX0.out) (.slice A7 g.rules.length k7))
      have HTk' := hidden (HTk2.out.keeps ((Keeps.refl _ _).setCell (p := ⟨w.heap.size, 1, none⟩) (fun h => h.2 hX0.out) (.slice A7 g.rules.length k7)))
      have hsz : (w2.setCell ⟨w.heap.size, 1, none⟩ (.slice A7 g.rules.length k7)).heap.size = w2.heap.size := by simp [World.setCell]
      rw [← hsz] at HSt' HTk'
      clear HTk z1 hRS hls HM2 HQ2 HSt HSt2 HTk2 hb2 B0 B1 hb
      go_wp2_with fail
      have B0 : Hid (Holds (w2.setCell ⟨w.heap.size, 1, none⟩ (.slice A7 g.rules.length k7)) w.heap.size 26 #[.slice A4 g.toks.length k4, .slice A7 g.rules.length k7, .slice A3 g.prods.length k3, .int .i64 g.start, .int .i64 g.states, .int .i64 g.text, .int .i64 g.nodes, .int .i64 g.pairs]) := B0'
      clear y1 y2 yf yl hsz B0'
      generalize w2.setCell ⟨w.heap.size, 1, none⟩ (.slice A7 g.rules.length k7) = wc at *
      have hzc := B1'.out.lt
      have hzc' : w.heap.size < wc.heap.size := by omega
      obtain ⟨ms, l1, l2, l3, l4⟩ := prods_start (w := w) (X := X) HC.out hT.out hXT.out (fun k hk => by have := hXlt.out k hk; omega) hb' (W := wc)
      have hlen : g.prods.length * 32 ≤ 140737488355328 := by have := hC.prods; omega
      refine (clone_prods _ _ _ _ _ l2 l3 hlen).mono ?_
      rintro r w3 ⟨⟨u3, rfl, HM, HQ⟩, hb3⟩
      have HO := hidden (l4 _ _ HM.out HQ.out hb3)
      obtain ⟨A8, k8, hu8, v8, m8⟩ := (HM.out.rd (T := fun _ => True) (fun _ _ _ _ => trivial)).val
      subst hu8
      unfold maxLen at m8
      have HO' := hidden (HO.out.setX (p := ⟨w.heap.size, 2, none⟩) hX0.out (.slice A8 g.prods.length k8))
      have hKp := hidden ((keeps_under (X := X) hb3).setCell (p := ⟨w.heap.size, 2, none⟩) (fun h => h.2 hX0.out) (.slice A8 g.prods.length k8))
      have y2 := (hb3.cell (p := ⟨w.heap.size, 2, none⟩) (by dsimp only; omega)).trans (B0.out.cell 2)
      have yf := (hb3.frozen (p := ⟨w.heap.size, 2, none⟩) (by dsimp only; omega)).trans (B0.out.frozen 2)
      have yl : w.heap.size < w3.heap.size := by have := hb3.size; omega
      have B0' := hidden ((B0.out.below hb3 (by omega)).set 2 (.slice A8 g.prods.length k8))
      have B1'' := hidden ((B1'.out.below hb3 hzc).far (p := ⟨w.heap.size, 2, none⟩) (by dsimp only; omega) (.slice A8 g.prods.length k8))
      have hb'' := (hb'.trans (hb3.mono hb'.size)).setCell (p := ⟨w.heap.size, 2, none⟩) (Nat.le_refl _) (.slice A8 g.prods.length k8)
      clear l1 l2 l3 l4 HM HQ hb3 hlen HO hb' B1' B0
      go_wp2_with fail
      go_loopw [4, 39] (fun _ kk wr => ∃ k : Nat, k ≤ g.prods.length ∧ kk = .int .i64 k ∧ Hid (RecsM prodR 77 X wr wc.heap.size (.slice A8 g.prods.length k8) g.prods) ∧ Hid (Holds wr w.heap.size 26 #[.slice A4 g.toks.length k4, .slice A7 g.rules.length k7, .slice A8 g.prods.length k8, .int .i64 g.start, .int .i64 g.states, .int .i64 g.text, .int .i64 g.nodes, .int .i64 g.pairs]) ∧ Hid (Holds wr (w.heap.size + 1) 26 #[.slice none 0 0, .slice none 0 0, .slice none 0 0, .int .i64 0, .int .i64 0, .int .i64 0, .int .i64 0, .int .i64 0]) ∧ Hid (Keeps (fun b => b < wc.heap.size ∧ ¬ X b) wc wr) ∧ Below w.heap.size w wr) (fun _ kk _ => g.prods.length - (intOf kk).toNat)
      case atStart => exact ⟨0, by omega, rfl, HO', B0', B1'', hKp, hb''⟩
      case round =>
        clear HO' B0' B1'' hKp hb'' y2 yf yl hzB hzc
        obtain ⟨k, hk, rfl, HO, B0, B1, HKp, hb⟩ := hrel
        have hzB := B1.out.lt
        have hzk := HKp.out.size
        by_cases hlt : k < g.prods.length
        · have hx := List.getElem?_eq_getElem hlt
          have hrx := hC.right _ (List.getElem_mem hlt)
          obtain ⟨q, cap, l, hv, e1, e2, e3, e4, e5, x3, xf, hpl, hnext⟩ := HO.out.step prod_sliceAt hx (fun b hb => by have := hXlt.out b hb; omega)
          simp only [Value.slice.injEq] at hv
          obtain ⟨rfl, _, rfl⟩ := hv
          change wr.cell? ⟨q, k * 2 + 1, none⟩ = _ at x3
          change wr.frozen? ⟨q, k * 2 + 1, none⟩ = _ at xf
          obtain ⟨A5, k5, rfl, v5, m5⟩ := hpl.val
          unfold maxLen at m5
          have HC2 := hidden (fun (W' : World) (hb : Below wr.heap.size wr W') => clone_items _ _ _ _ W' (Rd.below hpl hb (fun _ h => h.1)) (it_ones _) hrx)
          have HX := hidden hnext
          have hn0 : ¬ (q = w.heap.size) := fun e => e5 (by rw [e]; exact hX0.out)
          have hn1 : ¬ (q = w.heap.size + 1) := fun e => e5 (by rw [e]; exact hX1.out)
          clear e5
          clear hpl hnext hrx hx HO
          generalize g.prods[k] = tk at *
          change Hid (∀ W', Below wr.heap.size wr W' → Calls Try.prog _ #[.slice A5 tk.right.length k5] W' _) at HC2
          change wr.cell? _ = some (.slice A5 tk.right.length k5) at x3
          have z0 := B0.out.cell 2
          have hbd : Below wr.heap.size wr wr.drew := (Below.refl _ _).drew
          have z0d : wr.drew.cell? ⟨w.heap.size, 2, none⟩ = some (.slice (some ⟨q, 0, none⟩) g.prods.length k8) := z0
          have x3d : wr.drew.cell? ⟨q, k * 2 + 1, none⟩ = some (.slice A5 tk.right.length k5) := x3
          have xfd : wr.drew.frozen? ⟨q, k * 2 + 1, none⟩ = false := xf
          have zld : w.heap.size < wr.drew.heap.size := by change _ < wr.heap.size; omega
          have e4d : q < wr.drew.heap.size := e4
          have HF : Hid (∀ (w5 : World) A6 k6, Below wr.heap.size wr.drew w5 → Mine w5 wr.drew.heap.size 80 4 (.slice A6 tk.right.length k6) (prodR.m tk) (prodR.inner tk) → (∀ q, (Value.slice A6 tk.right.length k6).ownBlock = some q → wr.drew.heap.size ≤ q ∧ q < w5.heap.size) → RecsM prodR 77 X (w5.setCell ⟨q, k * 2 + 1, none⟩ (.slice A6 tk.right.length k6)) wc.heap.size (.slice (some ⟨q, 0, none⟩) g.prods.length k8) g.prods ∧ Holds (w5.setCell ⟨q, k * 2 + 1, none⟩ (.slice A6 tk.right.length k6)) w.heap.size 26 #[.slice A4 g.toks.length k4, .slice A7 g.rules.length k7, .slice (some ⟨q, 0, none⟩) g.prods.length k8, .int .i64 g.start, .int .i64 g.states, .int .i64 g.text, .int .i64 g.nodes, .int .i64 g.pairs] ∧ Holds (w5.setCell ⟨q, k * 2 + 1, none⟩ (.slice A6 tk.right.length k6)) (w.heap.size + 1) 26 #[.slice none 0 0, .slice none 0 0, .slice none 0 0, .int .i64 0, .int .i64 0, .int .i64 0, .int .i64 0, .int .i64 0] ∧ Keeps (fun b => b < wc.heap.size ∧ ¬ X b) wc (w5.setCell ⟨q, k * 2 + 1, none⟩ (.slice A6 tk.right.length k6)) ∧ Below w.heap.size w (w5.setCell ⟨q, k * 2 + 1, none⟩ (.slice A6 tk.right.length k6))) := hidden (fun w5 A6 k6 hb5 hM hQ => ⟨HX.out w5 _ (hbd.trans hb5) (mine_fresh hM hQ), (B0.out.below (hbd.trans hb5) (by omega)).far (p := ⟨q, _, none⟩) (fun e => hn0 e.symm) _, (B1.out.below (hbd.trans hb5) hzB).far (p := ⟨q, _, none⟩) (fun e => hn1 e.symm) _, (HKp.out.below (hbd.trans hb5)).setCell (p := ⟨q, _, none⟩) (fun h => by have := h.1; dsimp only at this; omega) _, (hb.trans ((hbd.trans hb5).mono hb.size)).setCell (p := ⟨q, _, none⟩) (by dsimp only; have := hzc'; omega) _⟩)
          clear z0 x3 xf HX B0 B1 HKp
          go_wp2_with fail
          go_region_with ((go_at_call 76; refine (HC2.out _ hbd).mono ?_; rintro r w5 ⟨⟨u5, rfl, HM5, HQ5⟩, hb5⟩; obtain ⟨A6, k6, hu5, v6, m6⟩ := (HM5.out.rd (T := fun _ => True) (fun _ _ _ _ => trivial)).val; subst hu5; have y0 := (hb5.cell (p := ⟨w.heap.size, 2, none⟩) zld).trans z0d; have y3 := (hb5.cell (p := ⟨q, k * 2 + 1, none⟩) e4d).trans x3d; have yf := (hb5.frozen (p := ⟨q, k * 2 + 1, none⟩) e4d).trans xfd))
          all_goals
            obtain ⟨f1, f2, f3, f4, f5⟩ := HF.out w5 A6 k6 hb5 HM5.out HQ5.out
            have f1 := hidden f1
            have f2 := hidden f2
            have f3 := hidden f3
            have f4 := hidden f4
            clear HF HM5 HQ5 y0 y3 yf z0d x3d xfd
            go_wp2
            go_roundw
            case rel => exact ⟨k + 1, by omega, by go_num, f1, f2, f3, f4, f5⟩
            case measure => simp [intOf]; omega
        · obtain rfl : k = g.prods.length := by omega
          have HPr := hidden HO.out.recs
          have HT9 := hidden (HTk'.out.keeps HKp.out)
          have HS9 := hidden (Rd.keeps HSt'.out HKp.out)
          have z0 : wr.cell? ⟨w.heap.size, 0, none⟩ = some (.slice A4 g.toks.length k4) := B0.out.cell 0
          have o0 : wr.cell? ⟨w.heap.size + 1, 0, none⟩ = some (.slice none 0 0) := B1.out.cell 0
          have f0 := B1.out.frozen 0
          have z1 : wr.cell? ⟨w.heap.size, 1, none⟩ = some (.slice A7 g.rules.length k7) := B0.out.cell 1
          have o1 : wr.cell? ⟨w.heap.size + 1, 1, none⟩ = some (.slice none 0 0) := B1.out.cell 1
          have f1 := B1.out.frozen 1
          have z2 : wr.cell? ⟨w.heap.size, 2, none⟩ = some (.slice A8 g.prods.length k8) := B0.out.cell 2
          have o2 : wr.cell? ⟨w.heap.size + 1, 2, none⟩ = some (.slice none 0 0) := B1.out.cell 2
          have f2 := B1.out.frozen 2
          have z3 : wr.cell? ⟨w.heap.size, 3, none⟩ = some (.int .i64 g.start) := B0.out.cell 3
          have o3 : wr.cell? ⟨w.heap.size + 1, 3, none⟩ = some (.int .i64 0) := B1.out.cell 3
          have f3 := B1.out.frozen 3
          have z4 : wr.cell? ⟨w.heap.size, 4, none⟩ = some (.int .i64 g.states) := B0.out.cell 4
          have o4 : wr.cell? ⟨w.heap.size + 1, 4, none⟩ = some (.int .i64 0) := B1.out.cell 4
          have f4 := B1.out.frozen 4
          have z5 : wr.cell? ⟨w.heap.size, 5, none⟩ = some (.int .i64 g.text) := B0.out.cell 5
          have o5 : wr.cell? ⟨w.heap.size + 1, 5, none⟩ = some (.int .i64 0) := B1.out.cell 5
          have f5 := B1.out.frozen 5
          have z6 : wr.cell? ⟨w.heap.size, 6, none⟩ = some (.int .i64 g.nodes) := B0.out.cell 6
          have o6 : wr.cell? ⟨w.heap.size + 1, 6, none⟩ = some (.int .i64 0) := B1.out.cell 6
          have f6 := B1.out.frozen 6
          have z7 : wr.cell? ⟨w.heap.size, 7, none⟩ = some (.int .i64 g.pairs) := B0.out.cell 7
          have o7 : wr.cell? ⟨w.heap.size + 1, 7, none⟩ = some (.int .i64 0) := B1.out.cell 7
          have f7 := B1.out.frozen 7
          clear HO HTk' HSt' B0 B1
          go_wp2
          refine bodyPost_ret (v := .agg #[.slice A4 g.toks.length k4, .slice A7 g.rules.length k7, .slice A8 g.prods.length k8, .int .i64 g.start, .int .i64 g.states, .int .i64 g.text, .int .i64 g.nodes, .int .i64 g.pairs]) (by simp [results, Try.results40, go_sem, o0, o1, o2, o3, o4, o5, o6, o7]) rfl ⟨⟨_, _, _, rfl, hidden ⟨?_, ?_, ?_⟩⟩, ?_⟩
          · exact (HT9.out.keeps (by repeat (first | (with_reducible exact Keeps.refl _ _) | (with_reducible refine keeps_set (fun h => absurd hX1.out h.2) ?_)))).mono (fun k hk => ⟨by have := hk.1; simp [World.setCell]; omega, hXF.out k hk.2⟩)
          · exact (Rd.keeps HS9.out (by repeat (first | (with_reducible exact Keeps.refl _ _) | (with_reducible refine keeps_set (fun h => absurd hX1.out h.2) ?_)))).mono (fun k hk => ⟨by have := hk.1; simp [World.setCell]; omega, hXF.out k hk.2⟩)
          · exact (HPr.out.keeps (by repeat (first | (with_reducible exact Keeps.refl _ _) | (with_reducible refine keeps_set (fun h => absurd hX1.out h.2) ?_)))).mono (fun k hk => ⟨by have := hk.1; simp [World.setCell]; omega, hXF.out k hk.2⟩)
          · exact (by repeat (first | (with_reducible exact Below.refl _ _) | (with_reducible assumption) | (with_reducible refine Below.drew ?_) | (with_reducible refine below_drewN ?_ _) | ((with_reducible refine below_alloc ?_ ?_); (focus (first | omega | (simp; done) | (simp; omega)))) | ((with_reducible refine below_set ?_ ?_); (focus (first | omega | (simp; done) | (simp; omega))))))
end Go.Proofs.Ytbjheaiiajpifaa
