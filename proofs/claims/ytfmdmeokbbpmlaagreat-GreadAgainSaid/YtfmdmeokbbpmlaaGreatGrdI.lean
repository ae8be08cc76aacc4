/-
  gread: kinds, line.
-/
import Derived.Test.YtfmdmeokbbpmlaaGreatGrdH
namespace Go.Proofs.YtfmdmeokbbpmlaaGreat
open Go.RowKit Go.Shelf

/-- The kinds of lines, by their first words. -/
def kindsL : List (ByteArray × Value) := [(⟨#[98, 111, 117, 110, 100]⟩, .agg #[.int .i64 3, .func (.func 37) #[] #[]]), (⟨#[116, 111, 107, 101, 110]⟩, .agg #[.int .i64 3, .func (.func 38) #[] #[]]), (⟨#[98, 108, 97, 110, 107]⟩, .agg #[.int .i64 3, .func (.func 38) #[] #[]]), (⟨#[110, 111, 116, 101]⟩, .agg #[.int .i64 3, .func (.func 38) #[] #[]]), (⟨#[108, 105, 110, 101]⟩, .agg #[.int .i64 3, .func (.func 38) #[] #[]]), (⟨#[114, 117, 108, 101, 115]⟩, .agg #[.int .i64 0, .func (.func 39) #[] #[]]), (⟨#[115, 116, 97, 114, 116]⟩, .agg #[.int .i64 2, .func (.func 40) #[] #[]]), (⟨#[114, 117, 108, 101]⟩, .agg #[.int .i64 1, .func (.func 41) #[] #[]])]
theorem kind_put {w : World} {q : Nat} {l : List (ByteArray × Value)} (hb : w.heap[q]? = some (.map (ents 0 l).toArray l.length)) {s : ByteArray} (hl : lookK l s = none) (v : Value) :
    ∃ w1, (Instr.mapUpdate 55 (.map (some q)) (.string s) v).run Tryz.prog w = .ok () w1 ∧ Hid (w1.heap[q]? = some (.map (ents 0 (l ++ [(s, v)])).toArray (l ++ [(s, v)]).length)) ∧ Below q w w1 :=
  ⟨_, run_putK (P := Tryz.prog) (t := 55) (k := 9) (e := 78) (by kernel_rfl) (by kernel_rfl) hb hl v, hidden (putMap_at hb _), putMap_below (Below.refl _ _) (Nat.le_refl _) _⟩
set_option maxRecDepth 20000 in
set_option maxHeartbeats 4000000 in
theorem gr_kinds (W : World) :
    Calls Tryz.prog 17 #[] W fun r w' => r = .returned (.map (some W.heap.size)) ∧ Hid (w'.heap[W.heap.size]? = some (.map (ents 0 kindsL).toArray kindsL.length)) ∧ Below W.heap.size W w' := by
  have hmm := @run_makeMap Tryz.prog
  have h0 : (W.alloc (.map #[] 0)).heap[W.heap.size]? = some (.map (ents 0 []).toArray ([] : List (ByteArray × Value)).length) := (MapKept.heap_alloc W _).1
  have b0 : Below W.heap.size W (W.alloc (.map #[] 0)) := (Below.refl _ _).alloc (Nat.le_refl _) _
  obtain ⟨w1, e1, h1, b1⟩ := kind_put h0 (s := ⟨#[98, 111, 117, 110, 100]⟩) (by decide) (.agg #[.int .i64 3, .func (.func 37) #[] #[]])
  obtain ⟨w2, e2, h2, b2⟩ := kind_put h1.out (s := ⟨#[116, 111, 107, 101, 110]⟩) (by decide) (.agg #[.int .i64 3, .func (.func 38) #[] #[]])
  obtain ⟨w3, e3, h3, b3⟩ := kind_put h2.out (s := ⟨#[98, 108, 97, 110, 107]⟩) (by decide) (.agg #[.int .i64 3, .func (.func 38) #[] #[]])
  obtain ⟨w4, e4, h4, b4⟩ := kind_put h3.out (s := ⟨#[110, 111, 116, 101]⟩) (by decide) (.agg #[.int .i64 3, .func (.func 38) #[] #[]])
  obtain ⟨w5, e5, h5, b5⟩ := kind_put h4.out (s := ⟨#[108, 105, 110, 101]⟩) (by decide) (.agg #[.int .i64 3, .func (.func 38) #[] #[]])
  obtain ⟨w6, e6, h6, b6⟩ := kind_put h5.out (s := ⟨#[114, 117, 108, 101, 115]⟩) (by decide) (.agg #[.int .i64 0, .func (.func 39) #[] #[]])
  obtain ⟨w7, e7, h7, b7⟩ := kind_put h6.out (s := ⟨#[115, 116, 97, 114, 116]⟩) (by decide) (.agg #[.int .i64 2, .func (.func 40) #[] #[]])
  obtain ⟨w8, e8, h8, b8⟩ := kind_put h7.out (s := ⟨#[114, 117, 108, 101]⟩) (by decide) (.agg #[.int .i64 1, .func (.func 41) #[] #[]])
  have hbb := b0.trans (b1.trans (b2.trans (b3.trans (b4.trans (b5.trans (b6.trans (b7.trans b8)))))))
  clear h0 h1 h2 h3 h4 h5 h6 h7 b0 b1 b2 b3 b4 b5 b6 b7 b8
  have h9 : Hid (w8.heap[W.heap.size]? = some (.map (ents 0 kindsL).toArray kindsL.length)) := h8
  clear h8
  go_enter Tryz.func17, Tryz.ntmps17
  go_wp2
  go_ret
  exact ⟨rfl, h9, hbb⟩
theorem lookK_hit {l : List (ByteArray × Value)} {k : ByteArray} {v : Value} {s : ByteArray} (h : lookK l k = some v) (he : s = k) : lookK l s = some v := by rw [he]; exact h
theorem two_or {α : Type} (r : List α) : (∃ a c, r = [a, c]) ∨ r.length ≠ 2 := by
  match r with
  | [] => exact .inr (by simp)
  | [_] => exact .inr (by simp)
  | [a, c] => exact .inl ⟨a, c, rfl⟩
  | _ :: _ :: _ :: _ => exact .inr (by simp)
theorem one_or {α : Type} (r : List α) : (∃ a, r = [a]) ∨ r.length ≠ 1 := by
  match r with
  | [] => exact .inr (by simp)
  | [a] => exact .inl ⟨a, rfl⟩
  | _ :: _ :: _ => exact .inr (by simp)
theorem word_cases (w0 : ByteArray) : (w0 = ⟨#[98, 111, 117, 110, 100]⟩) ∨ (w0 = ⟨#[116, 111, 107, 101, 110]⟩) ∨ (w0 = ⟨#[98, 108, 97, 110, 107]⟩) ∨ (w0 = ⟨#[110, 111, 116, 101]⟩) ∨ (w0 = ⟨#[108, 105, 110, 101]⟩) ∨ (w0 = ⟨#[114, 117, 108, 101, 115]⟩) ∨ (w0 = ⟨#[115, 116, 97, 114, 116]⟩) ∨ (w0 = ⟨#[114, 117, 108, 101]⟩) ∨ (lookK kindsL w0 = none ∧ (w0 == ⟨#[98, 111, 117, 110, 100]⟩) = false ∧ (w0 == ⟨#[116, 111, 107, 101, 110]⟩) = false ∧ (w0 == ⟨#[98, 108, 97, 110, 107]⟩) = false ∧ (w0 == ⟨#[110, 111, 116, 101]⟩) = false ∧ (w0 == ⟨#[108, 105, 110, 101]⟩) = false ∧ (w0 == ⟨#[114, 117, 108, 101, 115]⟩) = false ∧ (w0 == ⟨#[115, 116, 97, 114, 116]⟩) = false ∧ (w0 == ⟨#[114, 117, 108, 101]⟩) = false) := by
  by_cases t0 : (w0 == ⟨#[98, 111, 117, 110, 100]⟩) = true
  · exact .inl ((ba_beq _ _).1 t0)
  have u0 : (w0 == ⟨#[98, 111, 117, 110, 100]⟩) = false := by simpa using t0
  by_cases t1 : (w0 == ⟨#[116, 111, 107, 101, 110]⟩) = true
  · exact .inr (.inl ((ba_beq _ _).1 t1))
  have u1 : (w0 == ⟨#[116, 111, 107, 101, 110]⟩) = false := by simpa using t1
  by_cases t2 : (w0 == ⟨#[98, 108, 97, 110, 107]⟩) = true
  · exact .inr (.inr (.inl ((ba_beq _ _).1 t2)))
  have u2 : (w0 == ⟨#[98, 108, 97, 110, 107]⟩) = false := by simpa using t2
  by_cases t3 : (w0 == ⟨#[110, 111, 116, 101]⟩) = true
  · exact .inr (.inr (.inr (.inl ((ba_beq _ _).1 t3))))
  have u3 : (w0 == ⟨#[110, 111, 116, 101]⟩) = false := by simpa using t3
  by_cases t4 : (w0 == ⟨#[108, 105, 110, 101]⟩) = true
  · exact .inr (.inr (.inr (.inr (.inl ((ba_beq _ _).1 t4)))))
  have u4 : (w0 == ⟨#[108, 105, 110, 101]⟩) = false := by simpa using t4
  by_cases t5 : (w0 == ⟨#[114, 117, 108, 101, 115]⟩) = true
  · exact .inr (.inr (.inr (.inr (.inr (.inl ((ba_beq _ _).1 t5))))))
  have u5 : (w0 == ⟨#[114, 117, 108, 101, 115]⟩) = false := by simpa using t5
  by_cases t6 : (w0 == ⟨#[115, 116, 97, 114, 116]⟩) = true
  · exact .inr (.inr (.inr (.inr (.inr (.inr (.inl ((ba_beq _ _).1 t6)))))))
  have u6 : (w0 == ⟨#[115, 116, 97, 114, 116]⟩) = false := by simpa using t6
  by_cases t7 : (w0 == ⟨#[114, 117, 108, 101]⟩) = true
  · exact .inr (.inr (.inr (.inr (.inr (.inr (.inr (.inl ((ba_beq _ _).1 t7))))))))
  have u7 : (w0 == ⟨#[114, 117, 108, 101]⟩) = false := by simpa using t7
  exact .inr (.inr (.inr (.inr (.inr (.inr (.inr (.inr (⟨by unfold kindsL; simp only [lookK, u0, u1, u2, u3, u4, u5, u6, u7]; rfl, u0, u1, u2, u3, u4, u5, u6, u7⟩))))))))
theorem line_two3 {r : List ByteArray} (h : r.length ≠ 2) {f : ByteArray → ByteArray → Int ⊕ St} : lineT r f = .inl 3 := by
  unfold lineT
  split
  · exact absurd rfl h
  · rfl
theorem line_one3 {r : List ByteArray} (h : r.length ≠ 1) {f : ByteArray → Int ⊕ St} : lineO r f = .inl 3 := by
  unfold lineO
  split
  · exact absurd rfl h
  · rfl
theorem line_two {α : Type} {r : List ByteArray} (h : r.length ≠ 2) (f : ByteArray → ByteArray → α) (z : α) : (match r with | [a, c] => f a c | _ => z) = z := by
  match r, h with
  | [], _ => rfl
  | [_], _ => rfl
  | [_, _], h => exact absurd rfl h
  | _ :: _ :: _ :: _, _ => rfl
theorem line_one {α : Type} {r : List ByteArray} (h : r.length ≠ 1) (f : ByteArray → α) (z : α) : (match r with | [a] => f a | _ => z) = z := by
  match r, h with
  | [], _ => rfl
  | [_], h => exact absurd rfl h
  | _ :: _ :: _, _ => rfl
set_option maxRecDepth 20000 in
set_option maxHeartbeats 32000000 in
theorem gr_line (W0 : World) (R B M : Nat) (x : St) (tv rv pv wv : Value) (lt lp : List Value) (w0 : ByteArray) (r : List ByteArray) (W : World) (H : GrA W0 R B x tv rv pv lt lp W) (HM : W.heap[M]? = some (.map (ents 0 kindsL).toArray kindsL.length)) (HS : Strs W (Cold W R B tv rv pv) wv (w0 :: r))
    (hz : ∀ s ∈ w0 :: r, 0 < s.size ∧ s.size ≤ 1000000) (s1 : x.g.toks.length ≤ 100000) (s2 : x.g.rules.length + r.length ≤ 1000000) (s3 : x.g.prods.length ≤ 100000) (s4 : r.length ≤ 100000) :
    Calls Tryz.prog 20 #[.pointer (some ⟨R, 0, none⟩), .map (some M), wv] W fun e w' => Hid (GrTo W0 R B tv rv pv W (lineG x w0 r) e w') := by
  obtain ⟨X, HX⟩ : ∃ X, Hid (lineG x w0 r = X) := ⟨_, hidden rfl⟩
  rw [HX.out]
  have hlk := run_lookK (P := Tryz.prog) (t := 55) (k := 9) (e := 78) (by kernel_rfl) (by kernel_rfl) HM (z := .agg #[.int .i64 0, .nilFunc]) (by kernel_rfl) w0 true
  obtain ⟨Aw, cw, rfl, v1, m1⟩ := HS.val
  obtain ⟨b, off, rfl, hT, hc0⟩ := strs_at (i := 0) HS rfl
  rw [Nat.add_zero] at hc0
  have hbs := hT.1
  rw [List.length_cons] at *
  have q0 : (0 : Int) < ((r.length + 1 : Nat) : Int) := by omega
  have q0' : (0 : Int) < (r.length : Int) + 1 := by omega
  have hB0 := H.below
  have HA := hidden (fun (w' : World) (hb : Below W.heap.size W w') => H.later hb)
  have HSx := hidden (fun (w' : World) (hb : Below W.heap.size W w') => (show Strs w' (Cold w' R B tv rv pv) (.slice (some ⟨b, off, none⟩) (r.length + 1) cw) (w0 :: r) from (Rd.keeps HS (Keeps.of_below hb)).mono (fun _ hk => hk.grow hb.size)))
  clear H HS hT HM
  have hcs := word_cases w0
  rcases hcs with h | h | h | h | h | h | h | h | ⟨hl, ht⟩
  · -- bound
    subst h
    have hl : lookK kindsL ⟨#[98, 111, 117, 110, 100]⟩ = some (.agg #[.int .i64 3, .func (.func 37) #[] #[]]) := by rfl
    rw [hl] at hlk
    have hal := (Below.refl W.heap.size W).alloc (Nat.le_refl _) (.cells #[.int .i64 3, .func (.func 37) #[] #[]] 78)
    clear hl
    rcases two_or r with ⟨a, c, rfl⟩ | hne
    · skip
      have hX : boundG x a c = X := by rw [← HX.out]; unfold lineG; rw [if_pos (by decide)]; try rfl
      have HF := hidden (gr_bound W0 R B x tv rv pv _ lt lp [⟨#[98, 111, 117, 110, 100]⟩, a, c] a c _ (HA.out _ hal) (HSx.out _ hal) rfl rfl (hz a (by simp)).2 (by have := (hz c (by simp)).2; unfold maxLen; omega))
      rw [hX] at HF
      clear HX hX HA HSx
      go_enter Tryz.func20, Tryz.ntmps20
      go_wp2_with fail
      refine HF.out.mono ?_
      intro e w2 h
      have h := h.out
      clear HF
      cases X with
      | inl e0 =>
        obtain ⟨rfl, hbz⟩ := h
        go_wp2
        go_ret
        exact hidden ⟨rfl, hbz⟩
      | inr y =>
        obtain ⟨rfl, t', r', p', l1, l2, hy, hfr⟩ := h
        have hfr2 := hidden ((FrG.later hal).trans hfr)
        clear hfr hal
        go_wp2
        go_ret
        exact hidden ⟨rfl, t', r', p', l1, l2, hy, hfr2.out⟩
    · have q3 : ¬ (r.length : Int) + 1 = 3 := by omega
      have hX : X = .inl 3 := by rw [← HX.out]; unfold lineG; rw [if_pos (by decide)]; exact line_two3 hne
      subst hX
      have hbz := hB0.trans (hal.mono hB0.size)
      clear HX HA HSx hal
      go_enter Tryz.func20, Tryz.ntmps20
      go_wp2
      go_ret
      exact hidden ⟨rfl, hbz⟩
  · -- token
    subst h
    have hl : lookK kindsL ⟨#[116, 111, 107, 101, 110]⟩ = some (.agg #[.int .i64 3, .func (.func 38) #[] #[]]) := by rfl
    rw [hl] at hlk
    have hal := (Below.refl W.heap.size W).alloc (Nat.le_refl _) (.cells #[.int .i64 3, .func (.func 38) #[] #[]] 78)
    clear hl
    rcases two_or r with ⟨a, c, rfl⟩ | hne
    · skip
      have hX : tokenG x ⟨#[116, 111, 107, 101, 110]⟩ a c = X := by rw [← HX.out]; unfold lineG; rw [if_neg (by decide)]; rw [if_pos (by decide)]; try rfl
      have HF := hidden (gr_token W0 R B x tv rv pv _ lt lp [⟨#[116, 111, 107, 101, 110]⟩, a, c] ⟨#[116, 111, 107, 101, 110]⟩ a c _ (HA.out _ hal) (HSx.out _ hal) rfl rfl rfl (by have := (hz a (by simp)).2; unfold maxLen; omega) (by have := (hz c (by simp)).2; unfold maxLen; omega) s1)
      rw [hX] at HF
      clear HX hX HA HSx
      go_enter Tryz.func20, Tryz.ntmps20
      go_wp2_with fail
      refine HF.out.mono ?_
      intro e w2 h
      have h := h.out
      clear HF
      cases X with
      | inl e0 =>
        obtain ⟨rfl, hbz⟩ := h
        go_wp2
        go_ret
        exact hidden ⟨rfl, hbz⟩
      | inr y =>
        obtain ⟨rfl, t', r', p', l1, l2, hy, hfr⟩ := h
        have hfr2 := hidden ((FrG.later hal).trans hfr)
        clear hfr hal
        go_wp2
        go_ret
        exact hidden ⟨rfl, t', r', p', l1, l2, hy, hfr2.out⟩
    · have q3 : ¬ (r.length : Int) + 1 = 3 := by omega
      have hX : X = .inl 3 := by rw [← HX.out]; unfold lineG; rw [if_neg (by decide)]; rw [if_pos (by decide)]; exact line_two3 hne
      subst hX
      have hbz := hB0.trans (hal.mono hB0.size)
      clear HX HA HSx hal
      go_enter Tryz.func20, Tryz.ntmps20
      go_wp2
      go_ret
      exact hidden ⟨rfl, hbz⟩
  · -- blank
    subst h
    have hl : lookK kindsL ⟨#[98, 108, 97, 110, 107]⟩ = some (.agg #[.int .i64 3, .func (.func 38) #[] #[]]) := by rfl
    rw [hl] at hlk
    have hal := (Below.refl W.heap.size W).alloc (Nat.le_refl _) (.cells #[.int .i64 3, .func (.func 38) #[] #[]] 78)
    clear hl
    rcases two_or r with ⟨a, c, rfl⟩ | hne
    · skip
      have hX : tokenG x ⟨#[98, 108, 97, 110, 107]⟩ a c = X := by rw [← HX.out]; unfold lineG; rw [if_neg (by decide)]; rw [if_pos (by decide)]; try rfl
      have HF := hidden (gr_token W0 R B x tv rv pv _ lt lp [⟨#[98, 108, 97, 110, 107]⟩, a, c] ⟨#[98, 108, 97, 110, 107]⟩ a c _ (HA.out _ hal) (HSx.out _ hal) rfl rfl rfl (by have := (hz a (by simp)).2; unfold maxLen; omega) (by have := (hz c (by simp)).2; unfold maxLen; omega) s1)
      rw [hX] at HF
      clear HX hX HA HSx
      go_enter Tryz.func20, Tryz.ntmps20
      go_wp2_with fail
      refine HF.out.mono ?_
      intro e w2 h
      have h := h.out
      clear HF
      cases X with
      | inl e0 =>
        obtain ⟨rfl, hbz⟩ := h
        go_wp2
        go_ret
        exact hidden ⟨rfl, hbz⟩
      | inr y =>
        obtain ⟨rfl, t', r', p', l1, l2, hy, hfr⟩ := h
        have hfr2 := hidden ((FrG.later hal).trans hfr)
        clear hfr hal
        go_wp2
        go_ret
        exact hidden ⟨rfl, t', r', p', l1, l2, hy, hfr2.out⟩
    · have q3 : ¬ (r.length : Int) + 1 = 3 := by omega
      have hX : X = .inl 3 := by rw [← HX.out]; unfold lineG; rw [if_neg (by decide)]; rw [if_pos (by decide)]; exact line_two3 hne
      subst hX
      have hbz := hB0.trans (hal.mono hB0.size)
      clear HX HA HSx hal
      go_enter Tryz.func20, Tryz.ntmps20
      go_wp2
      go_ret
      exact hidden ⟨rfl, hbz⟩
  · -- note
    subst h
    have hl : lookK kindsL ⟨#[110, 111, 116, 101]⟩ = some (.agg #[.int .i64 3, .func (.func 38) #[] #[]]) := by rfl
    rw [hl] at hlk
    have hal := (Below.refl W.heap.size W).alloc (Nat.le_refl _) (.cells #[.int .i64 3, .func (.func 38) #[] #[]] 78)
    clear hl
    rcases two_or r with ⟨a, c, rfl⟩ | hne
    · skip
      have hX : tokenG x ⟨#[110, 111, 116, 101]⟩ a c = X := by rw [← HX.out]; unfold lineG; rw [if_neg (by decide)]; rw [if_pos (by decide)]; try rfl
      have HF := hidden (gr_token W0 R B x tv rv pv _ lt lp [⟨#[110, 111, 116, 101]⟩, a, c] ⟨#[110, 111, 116, 101]⟩ a c _ (HA.out _ hal) (HSx.out _ hal) rfl rfl rfl (by have := (hz a (by simp)).2; unfold maxLen; omega) (by have := (hz c (by simp)).2; unfold maxLen; omega) s1)
      rw [hX] at HF
      clear HX hX HA HSx
      go_enter Tryz.func20, Tryz.ntmps20
      go_wp2_with fail
      refine HF.out.mono ?_
      intro e w2 h
      have h := h.out
      clear HF
      cases X with
      | inl e0 =>
        obtain ⟨rfl, hbz⟩ := h
        go_wp2
        go_ret
        exact hidden ⟨rfl, hbz⟩
      | inr y =>
        obtain ⟨rfl, t', r', p', l1, l2, hy, hfr⟩ := h
        have hfr2 := hidden ((FrG.later hal).trans hfr)
        clear hfr hal
        go_wp2
        go_ret
        exact hidden ⟨rfl, t', r', p', l1, l2, hy, hfr2.out⟩
    · have q3 : ¬ (r.length : Int) + 1 = 3 := by omega
      have hX : X = .inl 3 := by rw [← HX.out]; unfold lineG; rw [if_neg (by decide)]; rw [if_pos (by decide)]; exact line_two3 hne
      subst hX
      have hbz := hB0.trans (hal.mono hB0.size)
      clear HX HA HSx hal
      go_enter Tryz.func20, Tryz.ntmps20
      go_wp2
      go_ret
      exact hidden ⟨rfl, hbz⟩
  · -- line
    subst h
    have hl : lookK kindsL ⟨#[108, 105, 110, 101]⟩ = some (.agg #[.int .i64 3, .func (.func 38) #[] #[]]) := by rfl
    rw [hl] at hlk
    have hal := (Below.refl W.heap.size W).alloc (Nat.le_refl _) (.cells #[.int .i64 3, .func (.func 38) #[] #[]] 78)
    clear hl
    rcases two_or r with ⟨a, c, rfl⟩ | hne
    · skip
      have hX : tokenG x ⟨#[108, 105, 110, 101]⟩ a c = X := by rw [← HX.out]; unfold lineG; rw [if_neg (by decide)]; rw [if_pos (by decide)]; try rfl
      have HF := hidden (gr_token W0 R B x tv rv pv _ lt lp [⟨#[108, 105, 110, 101]⟩, a, c] ⟨#[108, 105, 110, 101]⟩ a c _ (HA.out _ hal) (HSx.out _ hal) rfl rfl rfl (by have := (hz a (by simp)).2; unfold maxLen; omega) (by have := (hz c (by simp)).2; unfold maxLen; omega) s1)
      rw [hX] at HF
      clear HX hX HA HSx
      go_enter Tryz.func20, Tryz.ntmps20
      go_wp2_with fail
      refine HF.out.mono ?_
      intro e w2 h
      have h := h.out
      clear HF
      cases X with
      | inl e0 =>
        obtain ⟨rfl, hbz⟩ := h
        go_wp2
        go_ret
        exact hidden ⟨rfl, hbz⟩
      | inr y =>
        obtain ⟨rfl, t', r', p', l1, l2, hy, hfr⟩ := h
        have hfr2 := hidden ((FrG.later hal).trans hfr)
        clear hfr hal
        go_wp2
        go_ret
        exact hidden ⟨rfl, t', r', p', l1, l2, hy, hfr2.out⟩
    · have q3 : ¬ (r.length : Int) + 1 = 3 := by omega
      have hX : X = .inl 3 := by rw [← HX.out]; unfold lineG; rw [if_neg (by decide)]; rw [if_pos (by decide)]; exact line_two3 hne
      subst hX
      have hbz := hB0.trans (hal.mono hB0.size)
      clear HX HA HSx hal
      go_enter Tryz.func20, Tryz.ntmps20
      go_wp2
      go_ret
      exact hidden ⟨rfl, hbz⟩
  · -- rules
    subst h
    have hl : lookK kindsL ⟨#[114, 117, 108, 101, 115]⟩ = some (.agg #[.int .i64 0, .func (.func 39) #[] #[]]) := by rfl
    rw [hl] at hlk
    have hal := (Below.refl W.heap.size W).alloc (Nat.le_refl _) (.cells #[.int .i64 0, .func (.func 39) #[] #[]] 78)
    clear hl
    have hX : rulesG x r = X := by rw [← HX.out]; unfold lineG; rw [if_neg (by decide)]; rw [if_neg (by decide)]; rw [if_pos (by decide)]; try rfl
    have HF := hidden (gr_rules W0 R B x tv rv pv _ lt lp ⟨#[114, 117, 108, 101, 115]⟩ r _ (HA.out _ hal) (HSx.out _ hal) (fun s hs => by have := (hz s (List.mem_cons_of_mem _ hs)).2; unfold maxLen; omega) s1 s2)
    rw [hX] at HF
    clear HX hX HA HSx
    go_enter Tryz.func20, Tryz.ntmps20
    go_wp2_with fail
    refine HF.out.mono ?_
    intro e w2 h
    have h := h.out
    clear HF
    cases X with
    | inl e0 =>
      obtain ⟨rfl, hbz⟩ := h
      go_wp2
      go_ret
      exact hidden ⟨rfl, hbz⟩
    | inr y =>
      obtain ⟨rfl, t', r', p', l1, l2, hy, hfr⟩ := h
      have hfr2 := hidden ((FrG.later hal).trans hfr)
      clear hfr hal
      go_wp2
      go_ret
      exact hidden ⟨rfl, t', r', p', l1, l2, hy, hfr2.out⟩
  · -- start
    subst h
    have hl : lookK kindsL ⟨#[115, 116, 97, 114, 116]⟩ = some (.agg #[.int .i64 2, .func (.func 40) #[] #[]]) := by rfl
    rw [hl] at hlk
    have hal := (Below.refl W.heap.size W).alloc (Nat.le_refl _) (.cells #[.int .i64 2, .func (.func 40) #[] #[]] 78)
    clear hl
    rcases one_or r with ⟨a, rfl⟩ | hne
    · skip
      have hX : startG x a = X := by rw [← HX.out]; unfold lineG; rw [if_neg (by decide)]; rw [if_neg (by decide)]; rw [if_neg (by decide)]; rw [if_pos (by decide)]; try rfl
      have HF := hidden (gr_start W0 R B x tv rv pv _ lt lp [⟨#[115, 116, 97, 114, 116]⟩, a] a _ (HA.out _ hal) (HSx.out _ hal) rfl s1)
      rw [hX] at HF
      clear HX hX HA HSx
      go_enter Tryz.func20, Tryz.ntmps20
      go_wp2_with fail
      refine HF.out.mono ?_
      intro e w2 h
      have h := h.out
      clear HF
      cases X with
      | inl e0 =>
        obtain ⟨rfl, hbz⟩ := h
        go_wp2
        go_ret
        exact hidden ⟨rfl, hbz⟩
      | inr y =>
        obtain ⟨rfl, t', r', p', l1, l2, hy, hfr⟩ := h
        have hfr2 := hidden ((FrG.later hal).trans hfr)
        clear hfr hal
        go_wp2
        go_ret
        exact hidden ⟨rfl, t', r', p', l1, l2, hy, hfr2.out⟩
    · have q3 : ¬ (r.length : Int) + 1 = 2 := by omega
      have hX : X = .inl 3 := by rw [← HX.out]; unfold lineG; rw [if_neg (by decide)]; rw [if_neg (by decide)]; rw [if_neg (by decide)]; rw [if_pos (by decide)]; exact line_one3 hne
      subst hX
      have hbz := hB0.trans (hal.mono hB0.size)
      clear HX HA HSx hal
      go_enter Tryz.func20, Tryz.ntmps20
      go_wp2
      go_ret
      exact hidden ⟨rfl, hbz⟩
  · -- rule
    subst h
    have hl : lookK kindsL ⟨#[114, 117, 108, 101]⟩ = some (.agg #[.int .i64 1, .func (.func 41) #[] #[]]) := by rfl
    rw [hl] at hlk
    have hal := (Below.refl W.heap.size W).alloc (Nat.le_refl _) (.cells #[.int .i64 1, .func (.func 41) #[] #[]] 78)
    clear hl
    cases r with
    | cons a ws =>
      have q3 : ¬ (ws.length : Int) + 1 + 1 = 1 := by omega
      have hX : ruleG x a ws = X := by rw [← HX.out]; unfold lineG; rw [if_neg (by decide)]; rw [if_neg (by decide)]; rw [if_neg (by decide)]; rw [if_neg (by decide)]; rw [if_pos (by decide)]; try rfl
      have HF := hidden (gr_rule W0 R B x tv rv pv _ lt lp ⟨#[114, 117, 108, 101]⟩ a ws _ (HA.out _ hal) (HSx.out _ hal) (fun s hs => hz s (List.mem_cons_of_mem _ (List.mem_cons_of_mem _ hs))) s1 s3 (by rw [List.length_cons] at s4; omega))
      rw [hX] at HF
      clear HX hX HA HSx
      go_enter Tryz.func20, Tryz.ntmps20
      go_wp2_with fail
      refine HF.out.mono ?_
      intro e w2 h
      have h := h.out
      clear HF
      cases X with
      | inl e0 =>
        obtain ⟨rfl, hbz⟩ := h
        go_wp2
        go_ret
        exact hidden ⟨rfl, hbz⟩
      | inr y =>
        obtain ⟨rfl, t', r', p', l1, l2, hy, hfr⟩ := h
        have hfr2 := hidden ((FrG.later hal).trans hfr)
        clear hfr hal
        go_wp2
        go_ret
        exact hidden ⟨rfl, t', r', p', l1, l2, hy, hfr2.out⟩
    | nil =>
      have hX : X = .inl 3 := by rw [← HX.out]; unfold lineG; rw [if_neg (by decide)]; rw [if_neg (by decide)]; rw [if_neg (by decide)]; rw [if_neg (by decide)]; rw [if_pos (by decide)]; try rfl
      subst hX
      have hbz := hB0.trans (hal.mono hB0.size)
      clear HX HA HSx hal
      go_enter Tryz.func20, Tryz.ntmps20
      go_wp2
      go_ret
      exact hidden ⟨rfl, hbz⟩
  · rw [hl] at hlk
    have hX : X = .inl 23 := by
      rw [← HX.out]
      obtain ⟨u0, u1, u2, u3, u4, u5, u6, u7⟩ := ht
      have v0 : (w0 == wBound) = false := u0
      have v1 : inK w0 clsL = false := by
        unfold inK clsL
        simp only [List.any_cons, List.any_nil, Bool.or_eq_false_iff]
        exact ⟨u1, u2, u3, u4, trivial⟩
      have v2 : (w0 == rulesW) = false := u5
      have v3 : (w0 == startW) = false := u6
      have v4 : (w0 == ruleW) = false := u7
      unfold lineG
      rw [v0, v1, v2, v3, v4]
      rfl
    subst hX
    have hbz := hB0.trans (((Below.refl W.heap.size W).alloc (Nat.le_refl _) (.cells #[.int .i64 0, .nilFunc] 78)).mono hB0.size)
    clear HX HA HSx hl ht
    go_enter Tryz.func20, Tryz.ntmps20
    go_wp2
    go_ret
    exact hidden ⟨rfl, hbz⟩
end Go.Proofs.YtfmdmeokbbpmlaaGreat
