/-
  gram: rules.
-/
import Derived.Test.YtaagkbgbghleiaaGramToks
namespace Go.Proofs.Ytaagkbgbghleiaa
open Go.RowKit Go.Shelf

theorem Chk.nextB {p B : Nat} {a b c : Value} {g : Gram} {d : Defect} {w w' : World} (h : Chk p a b c g d w) (hb : Below B w w') (hp : p < B) : Chk p a b c g d w' :=
  ⟨h.at_.below hb hp, h.gram.below hb (fun _ hk => Nat.lt_trans hk hp)⟩
theorem But.nextB {p : Nat} {w wr w' : World} (h : But p w wr) (hb : Below w.heap.size wr w') : But p w w' :=
  ⟨hb.os.trans h.os, hb.tape.trans h.tape, hb.output.trans h.output, Nat.le_trans h.size hb.size, fun k hk hn => (hb.block k hk).trans (h.block k hk hn)⟩
theorem Mine.but {w w' : World} {base p : Nat} {e : TypeId} {size n : Nat} {v : Value} {xs : List Value} (h : Mine w base e size v n xs) (hb : But p w w') (hp : p < base) : Mine w' base e size v n xs :=
  h.keep fun k _ h1 h2 => hb.block k h2 (by omega)

set_option maxRecDepth 20000 in
set_option maxHeartbeats 8000000 in
theorem gram_rules (p : Nat) (a b c : Value) (g : Gram) (w : World) (H : Chk p a b c g D0 w) (s1 : g.toks.length ≤ 100000) (s2 : g.rules.length ≤ 100000) (hz : Named g) :
    Calls Try.prog 69 #[.pointer (some ⟨p, 0, none⟩)] w (ChkOut p a b c g (firstD (ruleD g) 0 g.rules.length) w) := by
  have HH := hidden H
  have HNa := hidden (gram_names a g w H.old.1 s1)
  have HZ : Hid (∀ (k : Nat) (s : ByteArray), g.rules[k]? = some s → s.size ≤ maxLen) := hidden (fun k s h => hz _ (by unfold allNames; exact List.mem_append_right _ (List.mem_of_getElem? h)))
  obtain ⟨⟨A1, k1, rfl, v1, m1⟩, ⟨A2, k2, rfl, v2, m2⟩, ⟨A3, k3, rfl, v3, m3⟩⟩ := H.gram.vals
  have HNd := hidden (fun s v l at_ (w' : World) (h : Chk p (.slice A1 g.toks.length k1) (.slice A2 g.rules.length k2) (.slice A3 g.prods.length k3) g D0 w') T hR hT hs => gram_named p _ _ _ g D0 s v l at_ w' h T hR hT hs)
  obtain ⟨x0, x1, x2, x3, x4, x5, x6, x7⟩ := H.cells
  have hl := H.lt
  have HHit := hidden (fun k (h1 : k < g.rules.length) (h2 : (ruleD g k).kind ≠ 0) (h3 : ∀ j, j < k → (ruleD g j).kind = 0) => first0_hit (n := g.rules.length) h1 h2 h3)
  have HMis := hidden (fun (h3 : ∀ j, j < g.rules.length → (ruleD g j).kind = 0) => first0_miss h3)
  have HT0 : Hid ((allNames g).take (g.toks.length + 0) = tokNames g) := hidden (by rw [allNames_take]; simp)
  have HTs : Hid (∀ k (s : ByteArray), g.rules[k]? = some s → (allNames g).take (g.toks.length + k) ++ [s] = (allNames g).take (g.toks.length + (k + 1))) := hidden (fun k s h => by
    rw [allNames_take, allNames_take, List.append_assoc, take_snoc_at h])
  generalize firstD (ruleD g) 0 g.rules.length = dd at *
  clear H x2 x3 x4 x5 x6 x7
  unfold maxLen at m2
  go_enter Try.func69, Try.ntmps69
  go_wp2_with fail
  refine HNa.out.mono ?_
  rintro r w1 ⟨⟨u, rfl, HM⟩, hb1⟩
  have HC1 := hidden (HH.out.next hb1)
  have hz1 := hb1.size
  have HB1 := hidden (But.of_below (p := p) hb1)
  have HM1 : Hid (StrsM w1 w.heap.size u ((allNames g).take (g.toks.length + 0))) := hidden (by rw [HT0.out]; exact HM.out)
  have y1 := HC1.out.cells.2.1
  clear hb1 HM HNa HH x0 x1
  go_wp2
  go_loopw [3, 18] (fun vv ii wr => ∃ k : Nat, k ≤ g.rules.length ∧ ii = .int .i64 k ∧ Hid (∀ j, j < k → (ruleD g j).kind = 0) ∧ Hid (But p w wr) ∧ Hid (Chk p (.slice A1 g.toks.length k1) (.slice A2 g.rules.length k2) (.slice A3 g.prods.length k3) g D0 wr) ∧ Hid (StrsM wr w.heap.size vv ((allNames g).take (g.toks.length + k)))) (fun _ ii _ => g.rules.length - (intOf ii).toNat)
  case atStart => exact ⟨0, by omega, rfl, hidden (fun j h => by omega), HB1, HC1, HM1⟩
  case round =>
    clear HC1 y1 HB1 HM1
    obtain ⟨k, hk, rfl, HN, HB, HC, HM⟩ := hrel
    by_cases hlt : k < g.rules.length
    · have hx := List.getElem?_eq_getElem hlt
      generalize g.rules[k] = s at *
      obtain ⟨b1, o1, rfl, hT, y0⟩ := strs_at HC.out.gram.2.1 hx
      have hpr := HC.out.lt
      have hT : b1 < wr.heap.size := Nat.lt_trans hT HC.out.lt
      have hwr := HB.out.size
      have HTD : Hid (ruleD g k = if nameErr s ((allNames g).take (g.toks.length + k)) ≠ 0 then ⟨nameErr s ((allNames g).take (g.toks.length + k)), k, 0⟩ else D0) := hidden (by unfold ruleD; rw [hx])
      have HHk := hidden (fun h2 => HHit.out k hlt h2 HN.out)
      have HNx : Hid ((ruleD g k).kind = 0 → ∀ j, j < k + 1 → (ruleD g j).kind = 0) := hidden (fun h j hj => by
        by_cases e : j = k
        · subst e; exact h
        · exact HN.out j (by omega))
      have HSn := hidden (HTs.out k s hx)
      have hlen : ((allNames g).take (g.toks.length + k)).length ≤ 200000 := by rw [List.length_take]; omega
      obtain ⟨eb, hebd⟩ : ∃ eb : Bool, eb = decide (nameErr s ((allNames g).take (g.toks.length + k)) ≠ 0) := ⟨_, rfl⟩
      have HNk := hidden (HNd.out s _ ((allNames g).take (g.toks.length + k)) (k : Int) wr HC.out (Old wr) (StrsM.rd HM.out) (fun _ h => h) (HZ.out k s hx))
      rw [← hebd] at HNk
      have HEb := hidden hebd
      clear hebd hx HC
      generalize (allNames g).take (g.toks.length + k) = L at *
      obtain ⟨Au, ku, rfl⟩ := Mine.value HM.out
      generalize nameErr s L = e at *
      go_wp2_with fail
      refine HNk.out.mono ?_
      rintro r w3 ⟨rfl, HC3, hb3⟩
      have HB3 := hidden (HB.out.trans hb3)
      have HM3 := hidden (Mine.but HM.out hb3 hl)
      have HC3' := hidden HC3
      have hz3 := HB3.out.size
      clear HC3 hb3 y0 HM HNk HB
      by_cases he : e = 0
      · obtain rfl : eb = false := by rw [HEb.out]; simp [he]
        subst he
        have HC3 : Hid (Chk p (.slice A1 g.toks.length k1) (.slice (some ⟨b1, o1, none⟩) g.rules.length k2) (.slice A3 g.prods.length k3) g D0 w3) := HC3'
        have HE : Hid (ruleD g k = D0) := hidden (by rw [HTD.out, if_neg (by simp)])
        have HN2 := hidden (HNx.out (by rw [HE.out]; rfl))
        clear HC3' HHk HNx HTD HE HN HEb
        go_wp2_with (at_builtin; refine wpList_append_str rfl _ _ rfl w.heap.size _ _ HM3 s rfl rfl rfl (by rfl) (by omega) (by omega) ?_; intro v' w' hA hb2 hK)
        go_roundw
        case rel => exact ⟨k + 1, by omega, by go_num, HN2, hidden (HB3.out.nextB hb2), hidden (HC3.out.nextB hb2 hl), by rw [HSn.out] at hA; exact hA⟩
        case measure => simp [intOf]; omega
      · have HE : Hid (ruleD g k = ⟨e, k, 0⟩) := hidden (by rw [HTD.out, if_pos he])
        have HD : Hid (dd = ⟨e, k, 0⟩) := hidden (by rw [← HE.out]; exact HHk.out (by rw [HE.out]; exact he))
        have HC4 : Hid (Chk p (.slice A1 g.toks.length k1) (.slice (some ⟨b1, o1, none⟩) g.rules.length k2) (.slice A3 g.prods.length k3) g ⟨e, k, 0⟩ w3) := hidden (by have := HC3'.out; rwa [if_pos he] at this)
        have HF := hidden (ChkOut.mk_ (r := true) HD.out.symm (by rw [HD.out]; simp [he]) HC4.out HB3.out)
        obtain rfl : eb = true := by rw [HEb.out]; simp [he]
        clear HC3' HC4
        go_wp2
        go_ret
        exact HF.out
    · obtain rfl : k = g.rules.length := by omega
      have HE := hidden (HMis.out HN.out)
      have HF := hidden (ChkOut.mk_ (r := false) HE.out.symm (by rw [HE.out]; rfl) HC.out HB.out)
      clear HC HB HE
      go_wp2
      go_ret
      exact HF.out
end Go.Proofs.Ytaagkbgbghleiaa
