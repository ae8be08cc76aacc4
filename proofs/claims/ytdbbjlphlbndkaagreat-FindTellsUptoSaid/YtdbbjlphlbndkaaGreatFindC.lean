/-
  What is wrong with a selector: find.Check.
-/
import Derived.Test.YtdbbjlphlbndkaaGreatFindS
import Derived.Test.YtdbbjlphlbndkaaGreatShelfP
import Derived.Test.YtdbbjlphlbndkaaGreatT5
import Derived.Test.YtdbbjlphlbndkaaGreatNullG
namespace Go.Proofs.YtdbbjlphlbndkaaGreat
open Go.RowKit Go.Shelf
attribute [local go_sem] Oper.semAt_some
attribute [local simp] T.wide_round_fn

noncomputable def badStep (g : Gram) (s : ByteArray) : Int :=
  if (s.toList == [42]) = true then 0 else if s.toList.isEmpty = true then 3 else if nameB s = false then 7 else if findNo g s < 0 then 11 else 0
noncomputable def checkL (g : Gram) : List (ByteArray × Bool) → Int
  | [] => 0
  | x :: r => if badStep g x.1 = 0 then checkL g r else badStep g x.1
noncomputable def checkF (g : Gram) (s : ByteArray) : Int :=
  if rightB g = false then 24 else if 256 < s.size then 4 else if Lib.hasPrefix s.data.toList [47] = false then 3 else checkL g (stepsL s.data.toList)
theorem checkL_ok {g : Gram} {l : List (ByteArray × Bool)} (h : ∀ x ∈ l, badStep g x.1 = 0) : checkL g l = 0 := by
  induction l with
  | nil => rfl
  | cons x r ih => rw [checkL, if_pos (h x List.mem_cons_self)]; exact ih (fun y hy => h y (List.mem_cons_of_mem _ hy))
theorem checkL_bad {g : Gram} {l r : List (ByteArray × Bool)} {x : ByteArray × Bool} (h : ∀ x ∈ l, badStep g x.1 = 0) (hx : badStep g x.1 ≠ 0) : checkL g (l ++ x :: r) = badStep g x.1 := by
  induction l with
  | nil => rw [List.nil_append, checkL, if_neg hx]
  | cons y l ih => rw [List.cons_append, checkL, if_pos (h y List.mem_cons_self)]; exact ih (fun z hz => h z (List.mem_cons_of_mem _ hz))
theorem stepsL_len (l : List UInt8) : (stepsL l).length ≤ l.length := by
  induction hn : l.length using Nat.strongRecOn generalizing l with
  | _ n ih =>
    by_cases h : l = []
    · subst h; rw [stepsL_nil]; simp
    · rw [stepsL_cons h, List.length_cons]
      have h1 := tailOf_le l
      have h0 : 0 < l.length := List.length_pos_iff.2 h
      have h2 : ((tailOf l).drop (endOf (tailOf l))).length < n := by rw [List.length_drop]; omega
      have := ih _ h2 _ rfl
      omega
theorem stepsL_size (l : List UInt8) : ∀ x ∈ stepsL l, x.1.size ≤ l.length := by
  induction hn : l.length using Nat.strongRecOn generalizing l with
  | _ n ih =>
    intro x hx
    by_cases h : l = []
    · subst h; rw [stepsL_nil] at hx; cases hx
    · rw [stepsL_cons h] at hx
      have h1 := tailOf_le l
      have h0 : 0 < l.length := List.length_pos_iff.2 h
      rcases List.mem_cons.1 hx with rfl | hx
      · rw [mkS, List.length_take]; omega
      · have h2 : ((tailOf l).drop (endOf (tailOf l))).length < n := by rw [List.length_drop]; omega
        have := ih _ h2 _ rfl x hx
        omega

def ChkI (w : World) (g : Gram) (cs : Array Value) (pre : List Step) (W : World) : Prop :=
  Holds W w.heap.size 26 cs ∧ Holds W (w.heap.size + 1) 36 #[.int .i64 0] ∧ (∀ x ∈ pre.map (·.1), badStep g x.1 = 0) ∧ Below w.heap.size w W
def ChkX (w : World) (g : Gram) (c : Code) (pre : List Step) (W : World) : Prop :=
  c = .ret ∧ ∃ (pre' : List Step) (x : Step), pre = pre' ++ [x] ∧ (∀ y ∈ pre'.map (·.1), badStep g y.1 = 0) ∧ badStep g x.1.1 ≠ 0 ∧ Holds W (w.heap.size + 1) 36 #[.int .i64 (badStep g x.1.1)] ∧ Below w.heap.size w W
theorem bad_snoc {g : Gram} {pre : List Step} {x : Step} (h : ∀ y ∈ pre.map (·.1), badStep g y.1 = 0) (hx : badStep g x.1.1 = 0) : ∀ y ∈ (pre ++ [x]).map (·.1), badStep g y.1 = 0 := by
  intro y hy
  rw [List.map_append, List.mem_append] at hy
  rcases hy with hy | hy
  · exact h y hy
  · simp at hy; subst hy; exact hx

set_option maxRecDepth 20000 in
set_option maxHeartbeats 16000000 in
theorem find_Check (a b c : Value) (g : Gram) (s : ByteArray) (w : World) (HG : GramIs w (Old w) a b c g) (hsm : Small g) (hs : s.size ≤ maxLen) :
    Calls Tryz.prog 11 #[.agg (gramCells a b c g), .string s] w fun r w' => r = .returned (.int .i64 (checkF g s)) ∧ Below w.heap.size w w' := by
  have HRt := hidden (fun (w' : World) (hb : Below w.heap.size w w') => gram_Right a b c g w' (HG.old hb) hsm.toks hsm.rules hsm.prods hsm.names)
  have HFi := hidden (fun (x : ByteArray) (w' : World) (hb : Below w.heap.size w w') => gram_Find a b c g x w' (HG.old hb) hsm.toks)
  have HNm := hidden (fun (x : ByteArray) (w' : World) (h : x.size ≤ maxLen) => word_name x w' h)
  have HPf := hidden (fun (w' : World) => ((Lib0.strings_HasPrefix s ⟨#[47]⟩ w').mono (fun e w'' h => (⟨h.1, h.2.symm⟩ : e = .returned (.bool (Lib.hasPrefix s.data.toList [47])) ∧ w' = w''))))
  obtain ⟨⟨A1, k1, rfl, v1, m1⟩, ⟨A2, k2, rfl, v2, m2⟩, ⟨A3, k3, rfl, v3, m3⟩⟩ := HG.vals
  unfold maxLen at m1 m2 m3 hs
  have hE : Hid (checkF g s = if rightB g = false then 24 else if 256 < s.size then 4 else if Lib.hasPrefix s.data.toList [47] = false then 3 else checkL g (stepsL s.data.toList)) := hidden rfl
  generalize checkF g s = res at *
  unfold gramCells at *
  have hb1 : Below w.heap.size w ((w.alloc (.cells #[.slice A1 g.toks.length k1, .slice A2 g.rules.length k2, .slice A3 g.prods.length k3, .int .i64 g.start, .int .i64 g.states, .int .i64 g.text, .int .i64 g.nodes, .int .i64 g.pairs] 26)).alloc (.cells #[.int .i64 0] 36)) := ((Below.refl _ _).alloc (Nat.le_refl _) _).alloc (by simp) _
  have HB1 : Hid (Holds ((w.alloc (.cells #[.slice A1 g.toks.length k1, .slice A2 g.rules.length k2, .slice A3 g.prods.length k3, .int .i64 g.start, .int .i64 g.states, .int .i64 g.text, .int .i64 g.nodes, .int .i64 g.pairs] 26)).alloc (.cells #[.int .i64 0] 36)) w.heap.size 26 #[.slice A1 g.toks.length k1, .slice A2 g.rules.length k2, .slice A3 g.prods.length k3, .int .i64 g.start, .int .i64 g.states, .int .i64 g.text, .int .i64 g.nodes, .int .i64 g.pairs]) := hidden (by repeat (first | (with_reducible assumption) | ((with_reducible refine holds_new ?_); (focus (first | rfl | (simp; done)))) | (with_reducible refine Holds.alloc ?_ _) | (with_reducible refine Holds.drew ?_)))
  have HB2 : Hid (Holds ((w.alloc (.cells #[.slice A1 g.toks.length k1, .slice A2 g.rules.length k2, .slice A3 g.prods.length k3, .int .i64 g.start, .int .i64 g.states, .int .i64 g.text, .int .i64 g.nodes, .int .i64 g.pairs] 26)).alloc (.cells #[.int .i64 0] 36)) (w.heap.size + 1) 36 #[.int .i64 0]) := hidden (Holds.new_at (by simp))
  clear HG hsm
  cases hr : rightB g
  · have he : Hid (res = 24) := hidden (by rw [hE.out, hr, if_pos rfl])
    rw [hr] at HRt
    go_enter Tryz.func11, Tryz.ntmps11
    go_upto_region 1 with fail
    generalize ((w.alloc (.cells #[.slice A1 g.toks.length k1, .slice A2 g.rules.length k2, .slice A3 g.prods.length k3, .int .i64 g.start, .int .i64 g.states, .int .i64 g.text, .int .i64 g.nodes, .int .i64 g.pairs] 26)).alloc (.cells #[.int .i64 0] 36)) = w1 at *
    have x0 := HB1.out.cell 0; have x1 := HB1.out.cell 1; have x2 := HB1.out.cell 2; have x3 := HB1.out.cell 3
    have x4 := HB1.out.cell 4; have x5 := HB1.out.cell 5; have x6 := HB1.out.cell 6; have x7 := HB1.out.cell 7
    go_wp2_with fail
    refine (HRt.out _ hb1).mono ?_
    rintro r w2 ⟨rfl, hb2⟩
    have q2 := HB2.out.below hb2 HB2.out.lt
    have y0 := q2.c0
    have f0 := q2.frozen 0
    replace hb1 := hb1.trans (hb2.mono hb1.size)
    go_wp2
    have z0 := (q2.set 0 (.int .i64 24)).c0
    exact bodyPost_ret (v := .int .i64 24) (by simp [results, Tryz.results11, go_sem, z0]) rfl ⟨by rw [he.out], hb1.setCell (by simp) _⟩
  · rw [hr] at HRt
    by_cases h2 : 256 < s.size
    · have he : Hid (res = 4) := hidden (by rw [hE.out, hr, if_neg (by decide), if_pos h2])
      have q2 : decide (256 < (s.size : Int)) = true := decide_eq_true (by omega)
      go_enter Tryz.func11, Tryz.ntmps11
      go_upto_region 1 with fail
      generalize ((w.alloc (.cells #[.slice A1 g.toks.length k1, .slice A2 g.rules.length k2, .slice A3 g.prods.length k3, .int .i64 g.start, .int .i64 g.states, .int .i64 g.text, .int .i64 g.nodes, .int .i64 g.pairs] 26)).alloc (.cells #[.int .i64 0] 36)) = w1 at *
      have x0 := HB1.out.cell 0; have x1 := HB1.out.cell 1; have x2 := HB1.out.cell 2; have x3 := HB1.out.cell 3
      have x4 := HB1.out.cell 4; have x5 := HB1.out.cell 5; have x6 := HB1.out.cell 6; have x7 := HB1.out.cell 7
      go_wp2_with fail
      refine (HRt.out _ hb1).mono ?_
      rintro r w2 ⟨rfl, hb2⟩
      have q2 := HB2.out.below hb2 HB2.out.lt
      have y0 := q2.c0
      have f0 := q2.frozen 0
      replace hb1 := hb1.trans (hb2.mono hb1.size)
      go_wp2
      have z0 := (q2.set 0 (.int .i64 4)).c0
      exact bodyPost_ret (v := .int .i64 4) (by simp [results, Tryz.results11, go_sem, z0]) rfl ⟨by rw [he.out], hb1.setCell (by simp) _⟩
    · have q2 : decide (256 < (s.size : Int)) = false := decide_eq_false (by omega)
      cases hp : Lib.hasPrefix s.data.toList [47]
      · have he : Hid (res = 3) := hidden (by rw [hE.out, hr, if_neg (by decide), if_neg h2, hp, if_pos rfl])
        rw [hp] at HPf
        go_enter Tryz.func11, Tryz.ntmps11
        go_upto_region 1 with fail
        generalize ((w.alloc (.cells #[.slice A1 g.toks.length k1, .slice A2 g.rules.length k2, .slice A3 g.prods.length k3, .int .i64 g.start, .int .i64 g.states, .int .i64 g.text, .int .i64 g.nodes, .int .i64 g.pairs] 26)).alloc (.cells #[.int .i64 0] 36)) = w1 at *
        have x0 := HB1.out.cell 0; have x1 := HB1.out.cell 1; have x2 := HB1.out.cell 2; have x3 := HB1.out.cell 3
        have x4 := HB1.out.cell 4; have x5 := HB1.out.cell 5; have x6 := HB1.out.cell 6; have x7 := HB1.out.cell 7
        go_wp2_with fail
        refine (HRt.out _ hb1).mono ?_
        rintro r w2 ⟨rfl, hb2⟩
        have q2 := HB2.out.below hb2 HB2.out.lt
        have y0 := q2.c0
        have f0 := q2.frozen 0
        replace hb1 := hb1.trans (hb2.mono hb1.size)
        go_wp2_with fail
        refine (HPf.out _).mono ?_
        rintro r w3 ⟨rfl, rfl⟩
        go_wp2
        have z0 := (q2.set 0 (.int .i64 3)).c0
        exact bodyPost_ret (v := .int .i64 3) (by simp [results, Tryz.results11, go_sem, z0]) rfl ⟨by rw [he.out], hb1.setCell (by simp) _⟩
      · have he : Hid (res = checkL g (stepsL s.data.toList)) := hidden (by rw [hE.out, hr, if_neg (by decide), if_neg h2, hp, if_neg (by decide)])
        rw [hp] at HPf
        have hsl : s.data.toList.length ≤ 256 := by rw [dataL]; omega
        have hStl := stepsL_size s.data.toList
        have hSln := stepsL_len s.data.toList
        have hmk : s = ⟨s.data.toList.toArray⟩ := rfl
        clear hE
        refine (callsIn_wide (n := 5)).1 ?_
        refine callsIn_of_wp_marks Tryz.func11 rfl trivial ?_ rfl
        simp only [Tryz.ntmps11, List.size_toArray, List.length_cons, List.length_nil, Nat.reduceAdd, Nat.reduceSub, Array.replicate_succ, Array.replicate_zero, List.push_toArray, List.append_toArray, List.nil_append, List.cons_append]
        have x0 := HB1.out.cell 0; have x1 := HB1.out.cell 1; have x2 := HB1.out.cell 2; have x3 := HB1.out.cell 3
        have x4 := HB1.out.cell 4; have x5 := HB1.out.cell 5; have x6 := HB1.out.cell 6; have x7 := HB1.out.cell 7
        gi_wp2_with fail
        refine ⟨trivial, (callsIn_wide.2 (HRt.out _ hb1)).mono ?_⟩
        rintro r w2 ⟨rfl, hb2⟩
        replace HB1 := hidden (HB1.out.below hb2 HB1.out.lt)
        replace HB2 := hidden (HB2.out.below hb2 HB2.out.lt)
        replace hb1 := hb1.trans (hb2.mono hb1.size)
        clear x0 x1 x2 x3 x4 x5 x6 x7 hb2 HRt
        gi_wp2_with fail
        refine ⟨trivial, (callsIn_wide.2 (HPf.out _)).mono ?_⟩
        rintro r w3 ⟨rfl, rfl⟩
        gi_wp2_with fail
        refine ⟨trivial, (callsIn_wide.2 (find_steps s w2)).mono ?_⟩
        rintro r w3 ⟨rfl, rfl⟩
        gi_wp2_with fail
        have hz2 := HB2.out.lt
        refine range_lawW (by omega) rfl (enters_of Tryz.func42 (by kernel_rfl) rfl)
          (steps1_seq 4 (by omega) w2.heap.size (fun k => k = w2.heap.size) s.data.toList (by omega) (w2.alloc (.cells #[.string s] 9)) (by rintro k rfl; simp) rfl (Holds.new w2 _ _)) (Below.refl _ _) (by rintro k rfl; simp) (by simp) (fun _ => rfl)
          (ChkI w g #[.slice A1 g.toks.length k1, .slice A2 g.rules.length k2, .slice A3 g.prods.length k3, .int .i64 g.start, .int .i64 g.states, .int .i64 g.text, .int .i64 g.nodes, .int .i64 g.pairs]) (ChkX w g) ?i0 ?ix ?iw ?start ?round ?done ?stop
        case i0 =>
          rintro pre W W' ⟨h0, h1, h2, hb⟩ hc
          exact ⟨hc.holds h0, hc.holds h1, h2, hb.trans (hc.below (by simp; omega) hb.size)⟩
        case ix =>
          rintro c pre W W' ⟨h0, pre', x, h1, h2, h3, h4, hb⟩ hc
          exact ⟨h0, pre', x, h1, h2, h3, hc.holds h4, hb.trans (hc.below (by simp; omega) hb.size)⟩
        case iw =>
          rintro pre W u ⟨h0, h1, h2, hb⟩
          exact ⟨h0.far (by show w.heap.size ≠ w2.heap.size; omega) u, h1.far (by show w.heap.size + 1 ≠ w2.heap.size; omega) u, h2, hb.setCell (by show w.heap.size ≤ w2.heap.size; omega) u⟩
        case start => exact ⟨HB1.out.alloc _, HB2.out.alloc _, by simp, hb1.alloc hb1.size _⟩
        case round =>
          rintro l pre x W ⟨h0, h1, h2, hb⟩
          have hbz := hb.size
          dsimp only [encT]
          gi_wp2
          refine ⟨KeepsOthers.refl _, Keeps.refl _ _, ⟨h0, h1, h2, hb⟩, ?_⟩
          rintro W2 l2 pre2 hc2 ⟨g0, g1, g2, gb⟩ hlen hl2 hr2
          have gbz := gb.size
          clear h0 h1 h2 hb hbz hc2
          obtain ⟨⟨nm, al⟩, hx⟩ := x
          have hx2 : nm.size ≤ 1000000 := hx
          dsimp only at *
          have hie : Hid (badStep g nm = if (nm.toList == [42]) = true then 0 else if nm.toList.isEmpty = true then 3 else if nameB nm = false then 7 else if findNo g nm < 0 then 11 else 0) := hidden rfl
          have HFi2 := hidden (HFi.out nm _ gb)
          have hG2 := hidden g2
          clear HFi g2
          by_cases hst : (nm.toList == [42]) = true
          · have he0 : badStep g nm = 0 := by rw [hie.out, if_pos hst]
            have hfin := hidden (bad_snoc (x := ⟨(nm, al), hx⟩) hG2.out he0)
            clear hie HFi2
            gi_wp2
            exact ⟨KeepsOthers.refl _, Keeps.refl _ _, ⟨g0, g1, hfin.out, gb⟩⟩
          · have hst2 : (nm.toList == [42]) = false := by simpa using hst
            have x0 := g0.cell 0; have x1 := g0.cell 1; have x2 := g0.cell 2; have x3 := g0.cell 3
            have x4 := g0.cell 4; have x5 := g0.cell 5; have x6 := g0.cell 6; have x7 := g0.cell 7
            have hie2 : Hid (badStep g nm = if nm.toList.isEmpty = true then 3 else if nameB nm = false then 7 else if findNo g nm < 0 then 11 else 0) := hidden (by rw [hie.out, if_neg hst])
            clear hie hst
            gi_wp2_with fail
            refine CallsIn.mono (F := Fence.wide.inRound l2) (callsIn_wide.2 HFi2.out) ?_
            rintro e W3 ⟨rfl, hb3⟩
            clear x0 x1 x2 x3 x4 x5 x6 x7 HFi2
            have hk3 := KeepsOthers.of_below hb3
            have ht3 : Keeps (fun k => k = w2.heap.size) W2 W3 := Keeps.of_below hb3
            have gb3 := gb.trans (hb3.mono gbz)
            have p0 := g0.below hb3 g0.lt
            have p1 := g1.below hb3 g1.lt
            have y0 := p1.c0
            have f0 := p1.frozen 0
            clear g0 g1
            by_cases hem : nm.toList.isEmpty = true
            · have heB : badStep g nm = 3 := by rw [hie2.out, if_pos hem]
              have hp1 := p1.set 0 (.int .i64 3)
              gi_wp2
              exact ⟨hk3.trans (KeepsOthers.setCell _ _ _), rfl, pre2, ⟨(nm, al), hx⟩, rfl, hG2.out, by rw [heB]; decide, by rw [heB]; exact hp1, gb3.setCell (by simp) _⟩
            · have hem2 : nm.toList.isEmpty = false := by simpa using hem
              have hie3 : Hid (badStep g nm = if nameB nm = false then 7 else if findNo g nm < 0 then 11 else 0) := hidden (by rw [hie2.out, if_neg hem])
              have HN2 := hidden (HNm.out nm W3 (by unfold maxLen; omega))
              clear hie2 hem
              generalize nameB nm = nb at *
              gi_wp2_with fail
              refine CallsIn.mono (F := Fence.wide.inRound l2) (callsIn_wide.2 HN2.out) ?_
              rintro e W4 ⟨rfl, hb4⟩
              replace hk3 := hk3.trans (KeepsOthers.of_below hb4)
              replace ht3 := ht3.trans (Keeps.of_below hb4)
              have gbz3 := gb3.size
              replace gb3 := gb3.trans (hb4.mono gbz3)
              replace p0 := p0.below hb4 p0.lt
              replace p1 := p1.below hb4 p1.lt
              clear y0 f0 hb4 HN2
              have y0 := p1.c0
              have f0 := p1.frozen 0
              cases nb
              · have heB : badStep g nm = 7 := by rw [hie3.out, if_pos rfl]
                have hp1 := p1.set 0 (.int .i64 7)
                gi_wp2
                exact ⟨hk3.trans (KeepsOthers.setCell _ _ _), rfl, pre2, ⟨(nm, al), hx⟩, rfl, hG2.out, by rw [heB]; decide, by rw [heB]; exact hp1, gb3.setCell (by simp) _⟩
              · by_cases hf : findNo g nm < 0
                · have heB : badStep g nm = 11 := by rw [hie3.out, if_neg (by decide), if_pos hf]
                  have qf : decide (findNo g nm < 0) = true := decide_eq_true hf
                  have hp1 := p1.set 0 (.int .i64 11)
                  gi_wp2
                  exact ⟨hk3.trans (KeepsOthers.setCell _ _ _), rfl, pre2, ⟨(nm, al), hx⟩, rfl, hG2.out, by rw [heB]; decide, by rw [heB]; exact hp1, gb3.setCell (by simp) _⟩
                · have heB : badStep g nm = 0 := by rw [hie3.out, if_neg (by decide), if_neg hf]
                  have qf : decide (findNo g nm < 0) = false := decide_eq_false hf
                  have hfin := hidden (bad_snoc (x := ⟨(nm, al), hx⟩) hG2.out heB)
                  clear hie3
                  gi_wp2
                  exact ⟨hk3, ht3, ⟨p0, p1, hfin.out, gb3⟩⟩
        case done =>
          rintro D xs W hD hS ⟨h0, h1, h2, hb⟩ hK
          have hbz := hb.size
          have y0 := h1.c0
          have f0 := h1.frozen 0
          have hp1 := h1.set 0 (.int .i64 0)
          gi_wp2
          refine leaves_marks (B := w.heap.size) [D] _ ⟨by simp, ?_⟩ ?_
          · intro D' hD'
            simp at hD'
            subst hD'
            exact ⟨by simp at hD; omega, keeps_deferred (KeepsOthers.setCell _ _ _) hK⟩
          · intro W' hc
            have q1 := hc.holds (g := w.heap.size + 1) (t := 36) (cs := #[.int .i64 0]) hp1
            have e1 := q1.c0
            refine ⟨.int .i64 0, ?_, ?_, ?_⟩
            · simp [results, Tryz.f11, go_sem, e1]
            · rw [he.out, ← hS, checkL_ok h2]
            · exact (hb.setCell (by simp) _).trans (hc.below (Nat.le_refl _) (by simp; omega))
        case stop =>
          rintro D c pre W hD hS ⟨rfl, pre', x, rfl, h1, h2, h3, hb⟩ hK
          have hbz := hb.size
          gi_wp2
          refine leaves_marks (B := w.heap.size) [D] _ ⟨by simp, ?_⟩ ?_
          · intro D' hD'
            simp at hD'
            subst hD'
            exact ⟨by simp at hD; omega, hK⟩
          · intro W' hc
            have q1 := hc.holds (g := w.heap.size + 1) (t := 36) (cs := #[.int .i64 (badStep g x.1.1)]) h3
            have e1 := q1.c0
            refine ⟨.int .i64 (badStep g x.1.1), ?_, ?_, ?_⟩
            · simp [results, Tryz.f11, go_sem, e1]
            · obtain ⟨r, hr2⟩ := hS
              rw [he.out, ← hr2, List.map_append, List.append_assoc]
              show Ending.returned (.int .i64 (badStep g x.1.1)) = .returned (.int .i64 (checkL g (pre'.map (·.1) ++ x.1 :: r)))
              rw [checkL_bad h1 h2]
            · exact hb.trans (hc.below (Nat.le_refl _) (by omega))
end Go.Proofs.YtdbbjlphlbndkaaGreat
