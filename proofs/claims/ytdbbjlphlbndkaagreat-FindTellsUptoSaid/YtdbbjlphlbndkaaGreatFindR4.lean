/-
  The document's selectors: facsimileref41.Check.
-/
import Derived.Test.YtdbbjlphlbndkaaGreatFindC
import Derived.Test.YtdbbjlphlbndkaaGreatFindR1
namespace Go.Proofs.YtdbbjlphlbndkaaGreat
open Go.RowKit Go.Shelf
attribute [local go_sem] Oper.semAt_some

def szS : Value → Nat
  | .string s => s.size
  | _ => 0
theorem eightR {w : World} {p : Nat} {t : TypeId} {a b c d e f k h : Value} (H : Holds w p t #[a, b, c, d, e, f, k, h]) : w.cell? ⟨p, 0, none⟩ = some a ∧ w.cell? ⟨p, 1, none⟩ = some b ∧ w.cell? ⟨p, 2, none⟩ = some c ∧ w.cell? ⟨p, 3, none⟩ = some d ∧ w.cell? ⟨p, 4, none⟩ = some e ∧ w.cell? ⟨p, 5, none⟩ = some f ∧ w.cell? ⟨p, 6, none⟩ = some k ∧ w.cell? ⟨p, 7, none⟩ = some h := ⟨H.cell 0, H.cell 1, H.cell 2, H.cell 3, H.cell 4, H.cell 5, H.cell 6, H.cell 7⟩

set_option maxRecDepth 20000 in
set_option maxHeartbeats 16000000 in
theorem ref_Check41 (a b c : Value) (g : Gram) (s : ByteArray) (w : World) (HG : GramIs w (Old w) a b c g) (hsm : Small g) (hs : s.size ≤ maxLen) :
    Calls Tryz.prog 12 #[.agg (gramCells a b c g), .string s] w fun r w' => r = .returned (.int .i64 (checkF g s)) ∧ Below w.heap.size w w' := by
  have HRt := hidden (fun (w' : World) (hb : Below w.heap.size w w') => ref_Right21 a b c g w' (HG.old hb) hsm.toks hsm.rules hsm.prods hsm.names)
  have HFi := hidden (fun (x : ByteArray) (w' : World) (hb : Below w.heap.size w w') => ref_Find18 a b c g x w' (HG.old hb) hsm.toks hsm.rules)
  have HNm := hidden (fun (x : ByteArray) (w' : World) (h : x.size ≤ maxLen) => ref_name x w' h)
  obtain ⟨⟨A1, k1, rfl, v1, m1⟩, ⟨A2, k2, rfl, v2, m2⟩, ⟨A3, k3, rfl, v3, m3⟩⟩ := HG.vals
  unfold maxLen at m1 m2 m3 hs
  have hE : Hid (checkF g s = if rightB g = false then 24 else if 256 < s.size then 4 else if Lib.hasPrefix s.data.toList [47] = false then 3 else checkL g (stepsL s.data.toList)) := hidden rfl
  generalize checkF g s = res at *
  unfold gramCells at *
  have hb1 : Below w.heap.size w (w.alloc (.cells #[.slice A1 g.toks.length k1, .slice A2 g.rules.length k2, .slice A3 g.prods.length k3, .int .i64 g.start, .int .i64 g.states, .int .i64 g.text, .int .i64 g.nodes, .int .i64 g.pairs] 26)) := (Below.refl _ _).alloc (Nat.le_refl _) _
  have HB1 : Hid (Holds (w.alloc (.cells #[.slice A1 g.toks.length k1, .slice A2 g.rules.length k2, .slice A3 g.prods.length k3, .int .i64 g.start, .int .i64 g.states, .int .i64 g.text, .int .i64 g.nodes, .int .i64 g.pairs] 26)) w.heap.size 26 #[.slice A1 g.toks.length k1, .slice A2 g.rules.length k2, .slice A3 g.prods.length k3, .int .i64 g.start, .int .i64 g.states, .int .i64 g.text, .int .i64 g.nodes, .int .i64 g.pairs]) := hidden (Holds.new w _ _)
  clear HG hsm
  go_enter Tryz.func12, Tryz.ntmps12
  go_upto_region 1 with fail
  generalize (w.alloc (.cells #[.slice A1 g.toks.length k1, .slice A2 g.rules.length k2, .slice A3 g.prods.length k3, .int .i64 g.start, .int .i64 g.states, .int .i64 g.text, .int .i64 g.nodes, .int .i64 g.pairs] 26)) = w1 at *
  obtain ⟨x0, x1, x2, x3, x4, x5, x6, x7⟩ := eightR HB1.out
  go_wp2_with fail
  refine (HRt.out _ hb1).mono ?_
  rintro r w2 ⟨rfl, hb2⟩
  replace HB1 := hidden (HB1.out.below hb2 HB1.out.lt)
  replace hb1 := hb1.trans (hb2.mono hb1.size)
  clear x0 x1 x2 x3 x4 x5 x6 x7 hb2 HRt
  cases hr : rightB g
  · have he : Hid (res = 24) := hidden (by rw [hE.out, hr, if_pos rfl])
    go_wp2
    go_ret
    exact ⟨by rw [he.out]; rfl, hb1⟩
  · by_cases h2 : 256 < s.size
    · have he : Hid (res = 4) := hidden (by rw [hE.out, hr, if_neg (by decide), if_pos h2])
      have q2 : decide (256 < (s.size : Int)) = true := decide_eq_true (by omega)
      go_wp2
      go_ret
      exact ⟨by rw [he.out]; rfl, hb1⟩
    · have q2 : decide (256 < (s.size : Int)) = false := decide_eq_false (by omega)
      have hie := emptyL s
      have hp0 : Lib.hasPrefix s.data.toList [47] = true ↔ ∃ h : 0 < s.size, s[0]'h = 47 := by
        cases hl : s.data.toList with
        | nil =>
          have : s.size = 0 := by rw [← dataL, hl]; rfl
          simp [Lib.hasPrefix]; omega
        | cons x l =>
          have h0 : 0 < s.size := by rw [← dataL, hl]; simp
          have e : s[0]'h0 = x := by
            have h1 : s.data.toList[0]? = some (s[0]'h0) := List.getElem?_eq_getElem (by rw [dataL]; exact h0)
            rw [hl] at h1
            exact (Option.some.inj h1).symm
          simp [Lib.hasPrefix, List.isPrefixOf, e, h0]
          exact eq_comm
      cases hp : Lib.hasPrefix s.data.toList [47]
      · have he : Hid (res = 3) := hidden (by rw [hE.out, hr, if_neg (by decide), if_neg h2, hp, if_pos rfl])
        by_cases h0 : s.size = 0
        · rw [decide_eq_true h0] at hie
          clear hE HFi HNm hp0
          go_wp2
          go_ret
          exact ⟨by rw [he.out]; rfl, hb1⟩
        · rw [decide_eq_false h0] at hie
          have h00 : 0 < s.size := by omega
          have q3 : (((s[0]'h00).toNat : Int) != 47) = true := by
            rw [bne_iff_ne]
            intro e
            have : s[0]'h00 = 47 := UInt8.toNat_inj.1 (by show (s[0]'h00).toNat = 47; omega)
            rw [hp0.2 ⟨h00, this⟩] at hp
            cases hp
          clear hE HFi HNm hp0
          go_wp2
          go_ret
          exact ⟨by rw [he.out]; rfl, hb1⟩
      · have he : Hid (res = checkL g (stepsL s.data.toList)) := hidden (by rw [hE.out, hr, if_neg (by decide), if_neg h2, hp, if_neg (by decide)])
        obtain ⟨h00, h47⟩ := hp0.1 hp
        have q3 : (((s[0]'h00).toNat : Int) != 47) = false := by rw [h47]; rfl
        rw [decide_eq_false (by omega)] at hie
        have hl0 : s.data.toList.length ≤ 256 := by rw [dataL]; omega
        have HB0 := hidden hb1
        clear hE hp0 hp h47 hb1
        go_wp2
        go_loopw [1] (fun sv wr => ∃ cur : List UInt8, sv = .string ⟨cur.toArray⟩ ∧ cur.length ≤ 256 ∧ Hid (res = checkL g (stepsL cur)) ∧ Hid (Below w.heap.size w wr) ∧ Hid (Holds wr w.heap.size 26 #[.slice A1 g.toks.length k1, .slice A2 g.rules.length k2, .slice A3 g.prods.length k3, .int .i64 g.start, .int .i64 g.states, .int .i64 g.text, .int .i64 g.nodes, .int .i64 g.pairs])) (fun sv wr => szS sv)
        case atStart => exact ⟨s.data.toList, rfl, hl0, he, HB0, HB1⟩
        case round =>
          clear HB0 HB1 he hie
          obtain ⟨cur, rfl, hcl, he, HB, HG⟩ := hrel
          have hie := emptyL ⟨cur.toArray⟩
          have hms := mkS cur
          by_cases hce : cur = []
          · have hr0 : Hid (res = 0) := hidden (by rw [he.out, hce, stepsL_nil]; rfl)
            have hbw := HB.out
            subst hce
            clear HFi HNm he hms hie
            go_wp2
            go_ret
            exact ⟨by rw [hr0.out]; rfl, hbw⟩
          · have hpos : 0 < cur.length := List.length_pos_iff.2 hce
            replace hie : cur.isEmpty = false := by simpa using hce
            have H1 := hidden (ref_step41 ⟨cur.toArray⟩ (by rw [hms]; omega) (by rw [hms]; omega) wr)
            rw [mkL] at H1
            have htl := tailOf_le cur
            have hnz : ((tailOf cur).take (endOf (tailOf cur))).length ≤ 256 := by rw [List.length_take]; omega
            have hrz : ((tailOf cur).drop (endOf (tailOf cur))).length < cur.length := by rw [List.length_drop]; omega
            have hz : Hid (res = checkL g ((⟨((tailOf cur).take (endOf (tailOf cur))).toArray⟩, goesAll cur) :: stepsL ((tailOf cur).drop (endOf (tailOf cur))))) := hidden (by rw [he.out, stepsL_cons hce])
            clear he htl
            generalize (tailOf cur).take (endOf (tailOf cur)) = nl at *
            generalize (tailOf cur).drop (endOf (tailOf cur)) = rl at *
            generalize goesAll cur = al at *
            have hnm : (⟨nl.toArray⟩ : ByteArray).size ≤ 256 := by rw [mkS]; exact hnz
            have hmr := mkS rl
            generalize (⟨nl.toArray⟩ : ByteArray) = nm at *
            have hz2 : Hid (res = if badStep g nm = 0 then checkL g (stepsL rl) else badStep g nm) := hidden (by rw [hz.out, checkL])
            have hb0 : Hid (badStep g nm = if (nm.toList == [42]) = true then 0 else if nm.toList.isEmpty = true then 3 else if nameB nm = false then 7 else if findNo g nm < 0 then 11 else 0) := hidden rfl
            generalize badStep g nm = bd at *
            clear hz hnz
            have hszr : szS (.string ⟨rl.toArray⟩) < szS (.string ⟨cur.toArray⟩) := by show (⟨rl.toArray⟩ : ByteArray).size < (⟨cur.toArray⟩ : ByteArray).size; rw [hmr, hms]; exact hrz
            have hrl : rl.length ≤ 256 := by omega
            clear hmr hms hrz hcl hce hpos
            go_wp2_with fail
            refine H1.out.mono ?_
            rintro r w4 ⟨rfl, hb4⟩
            replace HG := hidden (HG.out.below hb4 HG.out.lt)
            replace HB := hidden (HB.out.trans (hb4.mono HB.out.size))
            clear H1 hb4 hie
            by_cases hem : nm.toList.isEmpty = true
            · have he : Hid (res = 3) := hidden (by
                have : (nm.toList == [42]) = false := by
                  rw [List.isEmpty_iff] at hem; rw [hem]; rfl
                rw [hz2.out, hb0.out, this, if_neg Bool.false_ne_true, if_pos hem, if_neg (by decide)])
              have hbw := HB.out
              clear hz2 hb0 HFi HNm
              go_wp2
              go_ret
              exact ⟨by rw [he.out]; rfl, hbw⟩
            · have hem2 : nm.toList.isEmpty = false := by simpa using hem
              have hb1 : Hid (bd = if (nm.toList == [42]) = true then 0 else if nameB nm = false then 7 else if findNo g nm < 0 then 11 else 0) := hidden (by rw [hb0.out, if_neg hem])
              clear hem hb0
              by_cases hst : (nm.toList == [42]) = true
              · have he : Hid (res = checkL g (stepsL rl)) := hidden (by rw [hz2.out, hb1.out, if_pos hst, if_pos rfl])
                clear hz2 hb1 HFi HNm
                go_wp2
                go_roundw
                case rel => exact ⟨rl, rfl, hrl, he, HB, HG⟩
                case measure => exact hszr
              · have hst2 : (nm.toList == [42]) = false := by simpa using hst
                have hb2 : Hid (bd = if nameB nm = false then 7 else if findNo g nm < 0 then 11 else 0) := hidden (by rw [hb1.out, if_neg hst])
                have HN2 := hidden (HNm.out nm w4 (by unfold maxLen; omega))
                have HF2 := hidden (HFi.out nm w4 HB.out)
                clear hst hb1 HNm HFi
                generalize nameB nm = nb at *
                go_wp2_with fail
                refine HN2.out.mono ?_
                rintro r w5 ⟨rfl, rfl⟩
                clear HN2
                cases nb
                · have he : Hid (res = 7) := hidden (by rw [hz2.out, hb2.out, if_pos rfl, if_neg (by decide)])
                  have hbw := HB.out
                  clear hz2 hb2 HF2
                  go_wp2
                  go_ret
                  exact ⟨by rw [he.out]; rfl, hbw⟩
                · have hb3 : Hid (bd = if findNo g nm < 0 then 11 else 0) := hidden (by rw [hb2.out, if_neg (by decide)])
                  obtain ⟨x0, x1, x2, x3, x4, x5, x6, x7⟩ := eightR HG.out
                  clear hb2
                  go_wp2_with fail
                  refine HF2.out.mono ?_
                  rintro r w6 ⟨rfl, hb6⟩
                  replace HG := hidden (HG.out.below hb6 HG.out.lt)
                  replace HB := hidden (HB.out.trans (hb6.mono HB.out.size))
                  clear hb6 HF2 x0 x1 x2 x3 x4 x5 x6 x7
                  by_cases hf : findNo g nm < 0
                  · have he : Hid (res = 11) := hidden (by rw [hz2.out, hb3.out, if_pos hf, if_neg (by decide)])
                    have qf : decide (findNo g nm < 0) = true := decide_eq_true hf
                    have hbw := HB.out
                    clear hz2 hb3
                    go_wp2
                    go_ret
                    exact ⟨by rw [he.out]; rfl, hbw⟩
                  · have he : Hid (res = checkL g (stepsL rl)) := hidden (by rw [hz2.out, hb3.out, if_neg hf, if_pos rfl])
                    have qf : decide (findNo g nm < 0) = false := decide_eq_false hf
                    clear hz2 hb3
                    go_wp2
                    go_roundw
                    case rel => exact ⟨rl, rfl, hrl, he, HB, HG⟩
                    case measure => exact hszr
end Go.Proofs.YtdbbjlphlbndkaaGreat
