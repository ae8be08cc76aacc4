/-
  null: the closure of Reached.
-/
import Derived.Test.YtmlggfapnkhcaaaNullN
namespace Go.Proofs.Ytmlggfapnkhcaaa
open Go.RowKit Go.Shelf

/-- What Reached's closure has caught: the set, in block q. -/
structure EvR (Bi q n : Nat) (s : List Bool) (w : World) : Prop where
  is_ : Holds w Bi 42 #[.slice (some ⟨q, 0, none⟩) n n]
  at_ : BoolsAt w q s
  len : s.length = n
theorem EvR.next {Bi q n : Nat} {s : List Bool} {w w' : World} (h : EvR Bi q n s w) (hb : Below w.heap.size w w') : EvR Bi q n s w' := ⟨h.is_.below hb h.is_.lt, h.at_.below hb h.at_.lt, h.len⟩
def newsR (s : List Bool) (p : Prod) : Bool := decide (trues s < trues (stepR s p))
theorem set_more {s : List Bool} {i : Nat} (h : s[i]? = some false) : trues s < trues (s.set i true) := by
  have h1 := trues_mono (set_le s i)
  refine Nat.lt_of_le_of_ne h1.1 (fun e => ?_)
  have h2 := h1.2 e
  have hi := (List.getElem?_eq_some_iff.1 h).1
  rw [h2, List.getElem?_set, if_pos rfl, if_pos hi] at h
  cases h

set_option maxRecDepth 20000 in
set_option maxHeartbeats 8000000 in
theorem ev_Reached (p : Prod) (l1 : Value) (Bi q n : Nat) (s : List Bool) (w : World) (H : EvR Bi q n s w) (hq : q ≠ Bi) (hR : Rd w (fun k => k < w.heap.size ∧ k ≠ q) 4 l1 p.right.length (p.right.flatMap itCells)) (hl : 0 ≤ p.left ∧ p.left < n) (hx : ∀ x, x ∈ p.right → x.rule = true → 0 ≤ x.n ∧ x.n < n) :
    Calls Try.prog 113 #[.agg #[.int .i64 p.left, l1], .pointer (some ⟨Bi, 0, none⟩)] w fun r w' => r = .returned (.bool (newsR s p)) ∧ EvR Bi q n (stepR s p) w' ∧ But q w w' := by
  have HRo := hidden hR
  obtain ⟨A, c, rfl, hc1, hc2⟩ := hR.val
  have hi := H.is_.lt
  have hqq := H.at_.lt
  have HI := hidden H.is_
  have HLn := hidden H.len
  obtain ⟨m, bb, hm, hml, hsm, z0, z1⟩ := set_bool H.at_ hl.1 (by rw [H.len]; exact hl.2)
  clear bb hsm z0 z1
  have hmn : m < n := by rw [← H.len]; exact hml
  have HX := hidden hx
  have HEv := hidden (H.next ((Below.refl _ _).alloc (Nat.le_refl _) (.cells #[.int .i64 (m : Int), .slice A p.right.length c] 45)))
  obtain ⟨le, ri⟩ := p
  dsimp only at *
  subst hm
  unfold maxLen at hc2
  have HFold : Hid (∀ (k : Nat) x, ri[k]? = some x → (ri.take (k + 1)).foldl (reachX m) s = reachX m ((ri.take k).foldl (reachX m) s) x) := hidden (fun k x hx => by rw [← take_snoc_at' hx, List.foldl_append]; rfl)
  have HAll : Hid ((ri.take ri.length).foldl (reachX m) s = stepR s ⟨m, ri⟩) := hidden (by rw [List.take_of_length_le (Nat.le_refl _)]; rfl)
  have HLe : Hid (∀ k, ((ri.take k).foldl (reachX m) s).length = n) := hidden (fun k => by rw [← (foldX_le (m : Int) _ _).1]; exact HLn.out)
  have HB0 : Hid (EvR Bi q n ((ri.take 0).foldl (reachX m) s) (w.alloc (.cells #[.int .i64 (m : Int), .slice A ri.length c] 45))) := HEv
  clear hR H hx hl hml HEv HLn HI
  go_enter Try.func113, Try.ntmps113
  go_wp2
  go_loopg [4, 10] ri.length (fun gh nn ii wr => ∃ (k : Nat) (nb : Bool), k ≤ ri.length ∧ gh = ri.length - k ∧ nn = .bool nb ∧ ii = .int .i64 k ∧ Hid (EvR Bi q n ((ri.take k).foldl (reachX m) s) wr) ∧ Hid (nb = false → (ri.take k).foldl (reachX m) s = s) ∧ Hid (nb = true → trues s < trues ((ri.take k).foldl (reachX m) s)) ∧ Hid (But q w wr) ∧ w.heap.size + 1 ≤ wr.heap.size ∧ Hid (Holds wr w.heap.size 45 #[.int .i64 (m : Int), .slice A ri.length c]))
  case atStart => exact ⟨0, false, by omega, rfl, rfl, rfl, HB0, hidden (fun _ => rfl), hidden (fun h => by cases h), hidden ((But.refl _ _).alloc _), by simp, hidden (by repeat (first | (with_reducible assumption) | ((with_reducible refine holds_new ?_); (focus (first | rfl | (simp; done)))) | (with_reducible refine Holds.alloc ?_ _) | (with_reducible refine Holds.drew ?_)))⟩
  case round =>
    clear HB0
    obtain ⟨k, nb, hk, rfl, rfl, rfl, HE, HN, HY, HBt, hz, HP⟩ := hrel
    have v0 := HP.out.c20
    have v1 := HP.out.c21
    have u0 := HE.out.is_.c0
    have hiw := HE.out.is_.lt
    have hqw := HE.out.at_.lt
    have hzl : w.heap.size < wr.heap.size := by omega
    by_cases hlt : k < ri.length
    · have hx := List.getElem?_eq_getElem hlt
      have HSx := hidden (HFold.out k _ hx)
      have HXx := hidden (HX.out _ (List.getElem_mem hlt))
      generalize ri[k] = x at *
      have hkp : Keeps (fun k => k < w.heap.size ∧ k ≠ q) w wr := HBt.out.keepsT (fun _ h => h.2)
      obtain ⟨b, off, rfl, hT, hat⟩ := (HRo.out.keeps hkp).flat_at (fun _ => rfl) (by decide) hx
      have i0 : wr.cell? ⟨b, off + k * 4, none⟩ = some (.bool x.rule) := hat 0 _ rfl
      have i1 : wr.cell? ⟨b, off + k * 4 + 1, none⟩ = some (.int .i64 x.n) := hat 1 _ rfl
      have i2 : wr.cell? ⟨b, off + k * 4 + 2, none⟩ = some (.int .i64 x.gap) := hat 2 _ rfl
      have i3 : wr.cell? ⟨b, off + k * 4 + 3, none⟩ = some (.int .i64 x.in_) := hat 3 _ rfl
      have hT' : b < w.heap.size := hT.1
      have HLk := hidden (HLe.out k)
      generalize (ri.take k).foldl (reachX m) s = sk at *
      generalize hsk1 : (ri.take (k + 1)).foldl (reachX m) s = sk1 at *
      have hsm := List.getElem?_eq_getElem (show m < sk.length by rw [HLk.out]; exact hmn)
      have z0 := HE.out.at_.at_ hsm
      have HAtm : Hid (atB sk (m : Int) = sk[m]'(by rw [HLk.out]; exact hmn)) := hidden (by unfold atB; rw [Int.toNat_natCast, List.getD_eq_getElem?_getD, hsm]; rfl)
      generalize sk[m]'(by rw [HLk.out]; exact hmn) = bb at *
      have HEa := hidden (HE.out.next ((Below.refl _ _).alloc (Nat.le_refl _) (.cells #[.bool x.rule, .int .i64 x.n, .int .i64 x.gap, .int .i64 x.in_] 49)))
      have HBa := hidden (HBt.out.alloc (.cells #[.bool x.rule, .int .i64 x.n, .int .i64 x.gap, .int .i64 x.in_] 49))
      have Pa := hidden (HP.out.alloc (.cells #[.bool x.rule, .int .i64 x.n, .int .i64 x.gap, .int .i64 x.in_] 49))
      have HSame : Hid ((atB sk (m : Int) && x.rule) = false → sk1 = sk) := hidden (fun h => by rw [HSx.out]; unfold reachX; rw [h, if_neg (by decide)])
      clear hat hx hkp hsm hT
      cases bb
      · have HE2 : Hid (sk1 = sk) := hidden (HSame.out (by rw [HAtm.out]; rfl))
        clear HSame HSx
        go_wp2
        go_roundg (ri.length - (k + 1))
        case measure => omega
        case rel => exact ⟨k + 1, nb, by omega, rfl, rfl, by go_num, by rw [hsk1, HE2.out]; exact HEa, by rw [hsk1, HE2.out]; exact HN, by rw [hsk1, HE2.out]; exact HY, HBa, by simp; omega, Pa⟩
      · cases hr : x.rule
        · have HE2 : Hid (sk1 = sk) := hidden (HSame.out (by rw [hr, Bool.and_false]))
          rw [hr] at i0 HBa Pa HEa
          clear HSame HSx
          go_wp2
          go_roundg (ri.length - (k + 1))
          case measure => omega
          case rel => exact ⟨k + 1, nb, by omega, rfl, rfl, by go_num, by rw [hsk1, HE2.out]; exact HEa, by rw [hsk1, HE2.out]; exact HN, by rw [hsk1, HE2.out]; exact HY, HBa, by simp; omega, Pa⟩
        · obtain ⟨n1, n2⟩ := HXx.out hr
          obtain ⟨mx, hmx⟩ : ∃ mx : Nat, x.n = (mx : Int) := ⟨x.n.toNat, by omega⟩
          have hmxl : mx < n := by omega
          have HE2 : Hid (sk1 = sk.set mx true) := hidden (by rw [HSx.out]; unfold reachX; rw [hr, HAtm.out, if_pos (show (true && true) = true from rfl), hmx, Int.toNat_natCast])
          rw [hr] at i0 HBa Pa HEa
          rw [hmx] at i1 HBa Pa HEa
          have hgx := List.getElem?_eq_getElem (show mx < sk.length by rw [HLk.out]; exact hmxl)
          have zx := HE.out.at_.at_ hgx
          have HGx := hidden hgx
          generalize sk[mx]'(by rw [HLk.out]; exact hmxl) = bx at *
          have zy := HE.out.at_.frozen mx
          clear HSx hgx HSame
          cases bx
          · have HMo := hidden (set_more HGx.out)
            have HEs : Hid (EvR Bi q n (sk.set mx true) ((wr.setCell ⟨q, mx, none⟩ (.bool true)).alloc (.cells #[.bool true, .int .i64 (mx : Int), .int .i64 x.gap, .int .i64 x.in_] 49))) := hidden ⟨Holds.alloc (holds_far (fun e => hq e.symm) HE.out.is_) _, Holds.alloc (HE.out.at_.set mx true) _, by rw [List.length_set]; exact HLk.out⟩
            have HBs := hidden ((HBt.out.set mx (.bool true)).alloc (.cells #[.bool true, .int .i64 (mx : Int), .int .i64 x.gap, .int .i64 x.in_] 49))
            have Ps := hidden (Holds.alloc (holds_far (b := q) (i := mx) (s := none) (u := .bool true) (by omega) HP.out) (.cells #[.bool true, .int .i64 (mx : Int), .int .i64 x.gap, .int .i64 x.in_] 49))
            have HYs : Hid (true = true → trues s < trues (sk.set mx true)) := hidden (fun _ => by
              cases nb
              · rw [HN.out rfl] at HMo ⊢; exact HMo.out
              · exact Nat.lt_trans (HY.out rfl) HMo.out)
            clear HMo HGx HEa HBa Pa
            go_wp2
            go_roundg (ri.length - (k + 1))
            case measure => omega
            case rel => exact ⟨k + 1, true, by omega, rfl, rfl, by go_num, by rw [hsk1, HE2.out]; exact HEs, hidden (fun h => by cases h), by rw [hsk1, HE2.out]; exact hidden (fun _ => HYs.out (by trivial)), HBs, by simp; omega, Ps⟩
          · have HE3 : Hid (sk1 = sk) := hidden (by rw [HE2.out]; exact set_same HGx.out)
            clear HGx
            go_wp2
            go_roundg (ri.length - (k + 1))
            case measure => omega
            case rel => exact ⟨k + 1, nb, by omega, rfl, rfl, by go_num, by rw [hsk1, HE3.out]; exact HEa, by rw [hsk1, HE3.out]; exact HN, by rw [hsk1, HE3.out]; exact HY, HBa, by simp; omega, Pa⟩
    · obtain rfl : k = ri.length := by omega
      have HAl := hidden HAll.out
      have HNw : Hid (newsR s ⟨m, ri⟩ = nb) := hidden (by
        unfold newsR
        rw [← HAll.out]
        cases nb
        · rw [HN.out rfl]; simp
        · simpa using HY.out rfl)
      have HEf : Hid (EvR Bi q n (stepR s ⟨m, ri⟩) wr) := hidden (by rw [← HAll.out]; exact HE.out)
      clear HN HY HE HFold HLe HAll HAl
      go_wp2
      go_ret
      exact ⟨by rw [HNw.out]; rfl, HEf.out, HBt.out⟩
end Go.Proofs.Ytmlggfapnkhcaaa
