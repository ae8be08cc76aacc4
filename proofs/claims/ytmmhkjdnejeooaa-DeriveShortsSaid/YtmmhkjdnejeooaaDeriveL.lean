/-
  Least parts: derive.Short.
-/
import Derived.Test.YtmmhkjdnejeooaaDeriveK
namespace Go.Proofs.Ytmmhkjdnejeooaa.T
open Go.RowKit Go.Shelf

noncomputable def shortF (g : Gram) (S : List Int) (f : Nat) (r : Int) : List Node :=
  if rightB g = true ∧ 0 ≤ r ∧ r < g.rules.length ∧ 0 ≤ szI (byD g.prods S) r ∧ szI S r ≤ 65536 then partL g.prods (byD g.prods S) f (itR r) else []

set_option maxRecDepth 20000 in
set_option maxHeartbeats 16000000 in
theorem derive_Short (a b c : Value) (g : Gram) (rule : Int) (S : List Int) (f : Nat) (w : World) (HG : GramIs w (Old w) a b c g) (hsm : Small g) (hpr : ∀ p ∈ g.prods, p.right.length ≤ 4398046511104) (hS1 : ReachS g.prods g.rules.length S) (hS2 : Settled g.prods S)
    (hOk : rightB g = true → 0 ≤ rule → rule < g.rules.length → 0 ≤ szI (byD g.prods S) rule → szI S rule ≤ 65536 → PartOk g.prods (byD g.prods S) f (itR rule)) :
    Calls Try.prog 17 #[.agg (gramCells a b c g), .int .i64 rule] w fun r w' => (∃ u, r = .returned u ∧ Hid (Own w' w.heap.size u (shortF g S f rule))) ∧ Below w.heap.size w w' := by
  have HRt := hidden (fun (w' : World) (hb : Below w.heap.size w w') => gram_Right a b c g w' (HG.old hb) hsm.toks hsm.rules hsm.prods hsm.names)
  have HLe := hidden (fun (hr : rightB g = true) (w' : World) (hb : Below w.heap.size w w') => derive_least a b c g w' (HG.old hb) (rightB_sound hr) hsm hpr)
  have hE : Hid (shortF g S f rule = if rightB g = true ∧ 0 ≤ rule ∧ rule < g.rules.length ∧ 0 ≤ szI (byD g.prods S) rule ∧ szI S rule ≤ 65536 then partL g.prods (byD g.prods S) f (itR rule) else []) := hidden rfl
  have HPt := hidden (fun (w0 : World) (hw : GramIs w0 (Old w0) a b c g) => short_part a b c g w0 hw)
  have HGo := hidden HG
  have hS1h := hidden hS1; have hS2h := hidden hS2; have hOkh := hidden hOk
  have hSl := reachS_len hS1
  have hBl : (byD g.prods S).length = g.rules.length := (byK_len _).trans hSl
  obtain ⟨⟨A1, k1, rfl, v1, m1⟩, ⟨A2, k2, rfl, v2, m2⟩, ⟨A3, k3, rfl, v3, m3⟩⟩ := HG.vals
  generalize shortF g S f rule = res at *
  unfold gramCells at *
  have hb1 : Below w.heap.size w (w.alloc (.cells #[.slice A1 g.toks.length k1, .slice A2 g.rules.length k2, .slice A3 g.prods.length k3, .int .i64 g.start, .int .i64 g.states, .int .i64 g.text, .int .i64 g.nodes, .int .i64 g.pairs] 26)) := (Below.refl _ _).alloc (Nat.le_refl _) _
  have HB1 : Hid (Holds (w.alloc (.cells #[.slice A1 g.toks.length k1, .slice A2 g.rules.length k2, .slice A3 g.prods.length k3, .int .i64 g.start, .int .i64 g.states, .int .i64 g.text, .int .i64 g.nodes, .int .i64 g.pairs] 26)) w.heap.size 26 #[.slice A1 g.toks.length k1, .slice A2 g.rules.length k2, .slice A3 g.prods.length k3, .int .i64 g.start, .int .i64 g.states, .int .i64 g.text, .int .i64 g.nodes, .int .i64 g.pairs]) := hidden (Holds.new w _ _)
  clear HG hsm hS1 hS2 hOk hpr
  go_enter Try.func17, Try.ntmps17
  go_upto_region 1 with fail
  generalize (w.alloc (.cells #[.slice A1 g.toks.length k1, .slice A2 g.rules.length k2, .slice A3 g.prods.length k3, .int .i64 g.start, .int .i64 g.states, .int .i64 g.text, .int .i64 g.nodes, .int .i64 g.pairs] 26)) = w1 at *
  obtain ⟨x0, x1, x2, x3, x4, x5, x6, x7⟩ := eightR HB1.out
  have HX := hidden (HRt.out _ hb1)
  go_wp2_with fail
  refine HX.out.mono ?_
  rintro r w2 ⟨rfl, hb2⟩
  replace HB1 := hidden (HB1.out.below hb2 HB1.out.lt)
  replace hb1 := hb1.trans (hb2.mono hb1.size)
  clear x0 x1 x2 x3 x4 x5 x6 x7 hb2 HX HRt
  obtain ⟨x0, x1, x2, x3, x4, x5, x6, x7⟩ := eightR HB1.out
  cases hr : rightB g
  · have he : Hid (res = []) := hidden (by rw [hE.out, if_neg (fun h => by have := h.1; rw [hr] at this; cases this)])
    clear hE HLe HPt HGo
    go_wp2
    go_ret
    exact ⟨⟨_, rfl, hidden (by rw [he.out]; exact Own.nil _ _)⟩, hb1⟩
  · by_cases h0 : rule < 0
    · have q0 : decide (rule < 0) = true := decide_eq_true h0
      have he : Hid (res = []) := hidden (by rw [hE.out, if_neg (fun h => by have := h.2.1; omega)])
      clear hE HLe HPt HGo
      go_wp2
      go_ret
      exact ⟨⟨_, rfl, hidden (by rw [he.out]; exact Own.nil _ _)⟩, hb1⟩
    · have q0 : decide (rule < 0) = false := decide_eq_false h0
      obtain ⟨rn, rfl⟩ : ∃ rn : Nat, rule = (rn : Int) := ⟨rule.toNat, by omega⟩
      by_cases hrl : rn < g.rules.length
      · have q1 : decide ((g.rules.length : Int) ≤ (rn : Int)) = false := decide_eq_false (by omega)
        have HX := hidden (HLe.out hr w2 hb1)
        have hbw2 := hb1.size
        clear HLe
        go_wp2_with fail
        refine HX.out.mono ?_
        rintro r w3 ⟨⟨q1n, q2n, S', rfl, hq1, hq2, HQ1, HQ2, hR', hT', hl', _⟩, hb3⟩
        have hSS : S' = S := settled_one hR' hT' hS1h.out hS2h.out
        subst hSS
        replace HB1 := hidden (HB1.out.below hb3 HB1.out.lt)
        replace hb1 := hb1.trans (hb3.mono hbw2)
        have hbz3 := hb1.size
        clear x0 x1 x2 x3 x4 x5 x6 x7 hb3 HX hR' hT' hl'
        have hsz := List.getElem?_eq_getElem (show rn < S'.length by omega)
        have hby := List.getElem?_eq_getElem (show rn < (byD g.prods S').length by omega)
        have hsI := szI_at hsz
        have hbI := szI_at hby
        have z2 := IntsAt.at_ HQ2.out hsz
        have z1 := IntsAt.at_ HQ1.out hby
        have qr : (rn : Int) < (g.rules.length : Int) := by omega
        have hq1l := HQ1.out.lt
        have hq2l := HQ2.out.lt
        have HHH := hidden (And.intro hsI hbI)
        generalize S'[rn] = sz9 at *
        generalize (byD g.prods S')[rn] = by9 at *
        clear hsz hsI hbI hby
        by_cases hb9 : by9 < 0
        · have qb : decide (by9 < 0) = true := decide_eq_true hb9
          have he : Hid (res = []) := hidden (by rw [hE.out, if_neg (fun h => by have h2 := h.2.2.2.1; rw [HHH.out.2] at h2; omega)])
          clear hE HPt HGo HHH hOkh
          go_wp2
          go_ret
          exact ⟨⟨_, rfl, hidden (by rw [he.out]; exact Own.nil _ _)⟩, hb1.alloc hbz3 _⟩
        · have qb : decide (by9 < 0) = false := decide_eq_false hb9
          by_cases hs9 : 65536 < sz9
          · have qs : decide (65536 < sz9) = true := decide_eq_true hs9
            have he : Hid (res = []) := hidden (by rw [hE.out, if_neg (fun h => by have h2 := h.2.2.2.2; rw [HHH.out.1] at h2; omega)])
            clear hE HPt HGo HHH hOkh
            go_wp2
            go_ret
            exact ⟨⟨_, rfl, hidden (by rw [he.out]; exact Own.nil _ _)⟩, hb1.alloc hbz3 _⟩
          · have qs : decide (65536 < sz9) = false := decide_eq_false hs9
            have he : Hid (res = partL g.prods (byD g.prods S') f (itR (rn : Int))) := hidden (by
              rw [hE.out, if_pos ⟨hr, by omega, by omega, by rw [HHH.out.2]; omega, by rw [HHH.out.1]; omega⟩])
            have hok := hidden (hOkh.out hr (by omega) (by omega) (by rw [HHH.out.2]; omega) (by rw [HHH.out.1]; omega))
            clear hE HHH hOkh
            have hbL : Below w.heap.size w ((w3.alloc (.cells #[.slice (some ⟨q1n, 0, none⟩) g.rules.length g.rules.length] 57)).alloc (.cells #[.func (.func 33) #[] #[.pointer (some ⟨w.heap.size, 0, none⟩), .pointer (some ⟨w3.heap.size, 0, none⟩), .pointer (some ⟨w3.heap.size + 1, 0, none⟩)]] 61)) := (hb1.alloc hbz3 _).alloc (by simp; omega) _
            have HAT : Hid (PtAt w ((w3.alloc (.cells #[.slice (some ⟨q1n, 0, none⟩) g.rules.length g.rules.length] 57)).alloc (.cells #[.func (.func 33) #[] #[.pointer (some ⟨w.heap.size, 0, none⟩), .pointer (some ⟨w3.heap.size, 0, none⟩), .pointer (some ⟨w3.heap.size + 1, 0, none⟩)]] 61)) w.heap.size w3.heap.size (w3.heap.size + 1) q1n g.rules.length #[.slice A1 g.toks.length k1, .slice A2 g.rules.length k2, .slice A3 g.prods.length k3, .int .i64 g.start, .int .i64 g.states, .int .i64 g.text, .int .i64 g.nodes, .int .i64 g.pairs] (byD g.prods S')) := hidden ⟨hbL, (HB1.out.alloc _).alloc _, (Holds.new _ _ _).alloc _, Holds.alloc (Holds.alloc HQ1.out _) _, Holds.new_at (by simp)⟩
            have x9 : ((w3.alloc (.cells #[.slice (some ⟨q1n, 0, none⟩) g.rules.length g.rules.length] 57)).alloc (.cells #[.func (.func 33) #[] #[.pointer (some ⟨w.heap.size, 0, none⟩), .pointer (some ⟨w3.heap.size, 0, none⟩), .pointer (some ⟨w3.heap.size + 1, 0, none⟩)]] 61)).cell? ⟨w3.heap.size + 1, 0, none⟩ = some (.func (.func 33) #[] #[.pointer (some ⟨w.heap.size, 0, none⟩), .pointer (some ⟨w3.heap.size, 0, none⟩), .pointer (some ⟨w3.heap.size + 1, 0, none⟩)]) := HAT.out.f.c0
            have HX := hidden (HPt.out w HGo.out w.heap.size w3.heap.size (w3.heap.size + 1) q1n (byD g.prods S') hBl f (itR (rn : Int)) _ hok.out HAT.out)
            unfold itR itV at HX
            unfold itR at he
            dsimp only at HX
            generalize partL g.prods (byD g.prods S') f ⟨true, (rn : Int), 0, 0⟩ = pl at *
            have hbLz := hbL.size
            clear HPt HGo hok HQ1 HQ2
            go_upto_region 8 with fail
            clear z1 z2 HAT
            generalize ((w3.alloc (.cells #[.slice (some ⟨q1n, 0, none⟩) g.rules.length g.rules.length] 57)).alloc (.cells #[.func (.func 33) #[] #[.pointer (some ⟨w.heap.size, 0, none⟩), .pointer (some ⟨w3.heap.size, 0, none⟩), .pointer (some ⟨w3.heap.size + 1, 0, none⟩)]] 61)) = w8 at *
            go_wp2_with fail
            refine HX.out.mono ?_
            rintro e w9 ⟨⟨u9, rfl, HO9⟩, hb9'⟩
            have hbf := hbL.trans (hb9'.mono hbLz)
            have HOf : Hid (Own w9 w.heap.size u9 res) := hidden (by rw [he.out]; exact Own.base HO9.out hbLz)
            clear HX HO9 hb9' x9
            go_wp2
            go_ret
            exact ⟨⟨_, rfl, HOf⟩, hbf⟩
      · have q1 : decide ((g.rules.length : Int) ≤ (rn : Int)) = true := decide_eq_true (by omega)
        have he : Hid (res = []) := hidden (by rw [hE.out, if_neg (fun h => by have := h.2.2.1; omega)])
        clear hE HLe HPt HGo
        go_wp2
        go_ret
        exact ⟨⟨_, rfl, hidden (by rw [he.out]; exact Own.nil _ _)⟩, hb1⟩
end Go.Proofs.Ytmmhkjdnejeooaa.T
