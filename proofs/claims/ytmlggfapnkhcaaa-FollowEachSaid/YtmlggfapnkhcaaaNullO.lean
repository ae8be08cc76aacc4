/-
  null.grow at the closure of Reached (printed from NullN).
-/
import Derived.Test.YtmlggfapnkhcaaaNullM
namespace Go.Proofs.Ytmlggfapnkhcaaa
open Go.RowKit Go.Shelf

set_option maxRecDepth 20000 in
set_option maxHeartbeats 8000000 in
theorem grow_reached (g : Gram) (c : Value) (n q : Nat) (caps : Array Value) (f : List Bool → Prod → List Bool) (news : List Bool → Prod → Bool) (I : List Bool → Prop) (St : List Bool → World → Prop) (hG : Growth g n f news I) (s0 : List Bool) (w : World)
    (h0 : St s0 w) (hI : I s0) (hR : Recs prodR w (fun k => k < w.heap.size ∧ k ≠ q) c g.prods) (hb : ∀ s w w', St s w → Below w.heap.size w w' → St s w')
    (hq : ∀ s w, St s w → q < w.heap.size)
    (hcall : ∀ s p l1 w', St s w' → I s → p ∈ g.prods → Rd w' (fun k => k < w'.heap.size ∧ k ≠ q) 4 l1 p.right.length (p.right.flatMap itCells) →
      Calls Try.prog 113 (#[.agg #[.int .i64 p.left, l1]] ++ caps) w' fun r w'' => r = .returned (.bool (news s p)) ∧ St (f s p) w'' ∧ But q w' w'') (hcap : ∃ a, caps = #[a]) :
    Calls Try.prog 112 #[c, .func (.func 113) #[] caps] w fun r w' => r = .returned (.tuple #[]) ∧ (∃ s, St s w' ∧ I s ∧ passB f g.prods s = s ∧ leB s0 s) ∧ But q w w' := by
  obtain ⟨ca, rfl⟩ := hcap
  obtain ⟨A, k3, rfl, v3, m3⟩ := hR.value
  have HR := hidden hR
  have HS0 := hidden (And.intro h0 hI)
  have HC := hidden hcall
  have HG := hidden hG
  have HBl := hidden hb
  have HQl := hidden hq
  unfold maxLen at m3
  clear hR h0 hI hcall hG hb hq
  go_enter Try.func112, Try.ntmps112
  go_wp2
  go_loopg [4] (n - trues s0 + 1) (fun gh mm wr => ∃ (s : List Bool) (mb : Bool), mm = .bool mb ∧ gh = n - trues s + mb.toNat ∧ Hid (St s wr ∧ I s) ∧ Hid (leB s0 s) ∧ Hid (But q w wr) ∧ Hid (mb = false → passB f g.prods s = s))
  case atStart => exact ⟨s0, true, rfl, rfl, HS0, hidden (leB_refl _), hidden (But.refl _ _), hidden (fun h => by cases h)⟩
  case round =>
    obtain ⟨s, mb, rfl, rfl, HS, HLe, HB, HP⟩ := hrel
    cases mb
    · have HPe := hidden (HP.out rfl)
      go_wp2
      refine bodyPost_end (results_none rfl _ _ _) rfl ?_
      exact ⟨rfl, ⟨s, HS.out.1, HS.out.2, HPe.out, HLe.out⟩, HB.out⟩
    · clear HP
      go_wp2
      obtain ⟨wo, rfl⟩ : ∃ wo : World, wo = wr := ⟨_, rfl⟩
      go_loopg [4, 10] g.prods.length (fun gh mm jj wr => ∃ (j : Nat) (s' : List Bool) (mb : Bool), j ≤ g.prods.length ∧ gh = g.prods.length - j ∧ jj = .int .i64 j ∧ mm = .bool mb ∧ Hid (St s' wr ∧ I s') ∧ Hid (s' = passB f (g.prods.take j) s) ∧ Hid (mb = false → s' = s) ∧ Hid (mb = true → trues s < trues s') ∧ Hid (But q w wr))
      case atStart => exact ⟨0, s, false, by omega, rfl, rfl, rfl, HS, hidden rfl, hidden (fun _ => rfl), hidden (fun h => by cases h), HB⟩
      case round =>
        obtain ⟨j, s', mb, hj, rfl, rfl, rfl, HS', HE, HN, HY, HB'⟩ := hrel
        by_cases hlt : j < g.prods.length
        · have hx := List.getElem?_eq_getElem hlt
          have hmem := List.getElem_mem hlt
          generalize g.prods[j] = p at *
          have hkp : Keeps (fun k => k < w.heap.size ∧ k ≠ q) w wr := ⟨HB'.out.size, fun k hk hl => HB'.out.block k hl hk.2⟩
          obtain ⟨b1, o1, l1, rfl, hT, hat, hin⟩ := (HR.out.keeps hkp).at_ hx
          have hin : Rd wr (fun k => k < w.heap.size ∧ k ≠ q) 4 l1 p.right.length (p.right.flatMap itCells) := hin
          have hT' : b1 < wr.heap.size := by have := hT.1; have := HB'.out.size; omega
          have y0 : wr.cell? ⟨b1, o1 + j * 2, none⟩ = some (.int .i64 p.left) := hat 0 _ rfl
          have y1' := hat 1 _ rfl
          obtain ⟨A4, k4, rfl, _, _⟩ := hin.val
          have y1 : wr.cell? ⟨b1, o1 + j * 2 + 1, none⟩ = some (.slice A4 p.right.length k4) := y1'
          have hal := (Below.refl wr.heap.size wr).alloc (Nat.le_refl _) (.cells #[.int .i64 p.left, .slice A4 p.right.length k4] 45)
          have HCl := hidden (HC.out s' p _ _ (HBl.out _ _ _ HS'.out.1 hal) HS'.out.2 hmem ((hin.alloc (.cells #[.int .i64 p.left, .slice A4 p.right.length k4] 45)).mono (fun k hk => ⟨by have := hk.1; have := HB'.out.size; simp; omega, hk.2⟩)))
          have HPt := hidden (pass_take f hx s)
          have HNo := hidden (HG.out.no s' p HS'.out.2 hmem)
          have HYe := hidden (HG.out.yes s' p HS'.out.2 hmem)
          have HI := hidden (HG.out.inv s' p HS'.out.2 hmem)
          have HM := hidden (trues_mono (HG.out.le s' p)).1
          have HBa := hidden (HB'.out.alloc (.cells #[.int .i64 p.left, .slice A4 p.right.length k4] 45))
          generalize news s' p = nb at *
          clear hat hin hx hmem y1' hal hkp
          go_wp2_with fail
          refine HCl.out.mono ?_
          rintro r w3 ⟨rfl, hst, hbt⟩
          have HS3 := hidden (And.intro hst HI.out)
          have HB3 := hidden (HBa.out.trans hbt)
          have HE3 : Hid (f s' p = passB f (g.prods.take (j + 1)) s) := hidden (by rw [HPt.out, ← HE.out])
          clear hst hbt HCl HBa
          cases nb <;> cases mb
          · go_wp2
            go_roundg (g.prods.length - (j + 1))
            case measure => omega
            case rel => exact ⟨j + 1, f s' p, _, by omega, rfl, by go_num, rfl, HS3, HE3, hidden (by intro _; rw [HNo.out (by trivial)]; exact HN.out (by trivial)), hidden (by intro h; cases h), HB3⟩
          · go_wp2
            go_roundg (g.prods.length - (j + 1))
            case measure => omega
            case rel => exact ⟨j + 1, f s' p, _, by omega, rfl, by go_num, rfl, HS3, HE3, hidden (by intro h; cases h), hidden (by intro _; exact Nat.lt_of_lt_of_le (HY.out (by trivial)) HM.out), HB3⟩
          · go_wp2
            go_roundg (g.prods.length - (j + 1))
            case measure => omega
            case rel => exact ⟨j + 1, f s' p, _, by omega, rfl, by go_num, rfl, HS3, HE3, hidden (by intro h; cases h), hidden (by intro _; have h1 := HYe.out (by trivial); rw [← HN.out (by trivial)]; exact h1), HB3⟩
          · go_wp2
            go_roundg (g.prods.length - (j + 1))
            case measure => omega
            case rel => exact ⟨j + 1, f s' p, _, by omega, rfl, by go_num, rfl, HS3, HE3, hidden (by intro h; cases h), hidden (by intro _; exact Nat.lt_trans (HY.out (by trivial)) (HYe.out (by trivial))), HB3⟩
        · have hje : j = g.prods.length := by omega
          subst hje
          have HEe : Hid (s' = passB f g.prods s) := hidden (by rw [HE.out, List.take_of_length_le (Nat.le_refl _)])
          have HT : Hid (trues s' ≤ n) := hidden (by rw [← HG.out.len s' HS'.out.2]; exact trues_le s')
          have HLs : Hid (leB s0 s') := hidden (leB_trans HLe.out (by rw [HEe.out]; exact pass_le HG.out.le _ _))
          have HPp : Hid (mb = false → passB f g.prods s' = s') := hidden (by intro h; rw [HN.out h, ← HEe.out]; exact (HN.out h))
          have HMs : Hid (n - trues s' + mb.toNat < n - trues s + 1) := hidden (by
            have h0 := HT.out
            cases mb
            · have h1 := HN.out rfl; subst h1; simp
            · have h1 := HY.out rfl; simp; omega)
          clear HE HY HN HT
          go_wp2
          go_roundg (n - trues s' + mb.toNat)
          case measure => exact HMs.out
          case rel => exact ⟨s', mb, rfl, rfl, HS', HLs, HB', HPp⟩
end Go.Proofs.Ytmlggfapnkhcaaa
