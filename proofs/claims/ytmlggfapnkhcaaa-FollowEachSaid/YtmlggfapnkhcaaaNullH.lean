/-
  facsimileref21: Reached.
-/
import Derived.Test.YtmlggfapnkhcaaaNullG
namespace Go.Proofs.Ytmlggfapnkhcaaa
open Go.RowKit Go.Shelf

theorem foldX_same (l : Int) : ∀ (r : List Item) (s : List Bool), atB s l = false → r.foldl (reachX l) s = s := by
  intro r
  induction r with
  | nil => intro s _; rfl
  | cons x r ih =>
    intro s h
    have e : reachX l s x = s := by unfold reachX; rw [h, Bool.false_and, if_neg (by decide)]
    rw [List.foldl_cons, e]
    exact ih s h
theorem foldX_stop {r : List Item} {k : Nat} {l : Int} {s : List Bool} (h : ((r.take k).foldl (reachX l) s)[l.toNat]? ≠ some true) : (r.take k).foldl (reachX l) s = r.foldl (reachX l) s := by
  have e := List.take_append_drop k r
  have : r.foldl (reachX l) s = (r.drop k).foldl (reachX l) ((r.take k).foldl (reachX l) s) := by
    rw [← List.foldl_append, e]
  rw [this]
  refine (foldX_same l _ _ ?_).symm
  rw [Bool.eq_false_iff]
  exact fun h' => h (atB_iff.1 h')

set_option maxRecDepth 20000 in
set_option maxHeartbeats 8000000 in
theorem ref_Reached (a b c : Value) (g : Gram) (w : World) (HG : GramIs w (Old w) a b c g) (hsm : Small g) :
    Calls Try.prog 35 #[.agg (gramCells a b c g)] w fun r w' => (∃ u, r = .returned u ∧ Hid (Bools w' (Old w') u (if rightB g = true then reachB g else []))) ∧ Below w.heap.size w w' := by
  have HRt := hidden (fun (w' : World) (hb : Below w.heap.size w w') => ref_Right21 a b c g w' (HG.old hb) hsm.toks hsm.rules hsm.prods hsm.names)
  have HGo := hidden (fun (w' : World) (hb : Below w.heap.size w w') => HG.old hb)
  have HSd := hidden (@rightB_sound g)
  have hr := hsm.rules
  obtain ⟨⟨A1, k1, rfl, v1, m1⟩, ⟨A2, k2, rfl, v2, m2⟩, ⟨A3, k3, rfl, v3, m3⟩⟩ := HG.vals
  have HGr : Hid (Sound g → passes stepR g.prods (g.rules.length + 1) ((List.replicate g.rules.length false).set g.start.toNat true) = reachB g) := hidden (fun h => reached_all h)
  clear HG hsm
  unfold gramCells at *
  unfold maxLen at m2 m3
  generalize rightB g = rb at *
  have hb := Below.refl w.heap.size w
  cases rb
  · rw [if_neg (by decide)]
    go_enter Try.func35, Try.ntmps35
    go_wp2_with fail
    refine (HRt.out _ ?_).mono ?_
    · exact (by repeat (first | (with_reducible exact Below.refl _ _) | (with_reducible assumption) | (with_reducible refine Below.drew ?_) | (with_reducible refine below_drewN ?_ _) | ((with_reducible refine below_alloc ?_ ?_); (focus (first | omega | (simp; done) | (simp; omega)))) | ((with_reducible refine below_set ?_ ?_); (focus (first | omega | (simp; done) | (simp; omega))))))
    rintro r w2 ⟨rfl, hb2⟩
    have hbw : Below w.heap.size w w2 := Below.trans (by repeat (first | (with_reducible exact Below.refl _ _) | (with_reducible assumption) | (with_reducible refine Below.drew ?_) | (with_reducible refine below_drewN ?_ _) | ((with_reducible refine below_alloc ?_ ?_); (focus (first | omega | (simp; done) | (simp; omega)))) | ((with_reducible refine below_set ?_ ?_); (focus (first | omega | (simp; done) | (simp; omega)))))) (hb2.mono (by simp))
    have hbz := hbw.size
    clear hb2
    go_wp2
    go_ret
    exact ⟨⟨_, rfl, hidden ⟨rfl, _, 0, rfl, Nat.le_refl _, by decide, fun h => by simp at h⟩⟩, hbw.alloc hbz _⟩
  · rw [if_pos rfl]
    have hsd := HSd.out rfl
    have HE := hidden (HGr.out hsd)
    have HSD := hidden hsd
    clear hsd HGr HSd
    have hmk : ∀ w, (Instr.makeSlice 42 (.int .i64 (g.rules.length : Int)) (.int .i64 (g.rules.length : Int))).run Try.prog w = .ok (.slice (some ⟨w.heap.size, 0, none⟩) g.rules.length g.rules.length) (w.alloc (.cells (bcells (List.replicate g.rules.length false)) 4)) := fun w => by
      rw [← made_bools]
      exact run_make_row' (P := Try.prog) 42 4 (.bool false) 1 (by kernel_rfl) (by kernel_rfl) rfl .i64 .i64 g.rules.length (by omega) (by omega) w
    go_enter Try.func35, Try.ntmps35
    go_wp2_with fail
    refine (HRt.out _ ?_).mono ?_
    · exact (by repeat (first | (with_reducible exact Below.refl _ _) | (with_reducible assumption) | (with_reducible refine Below.drew ?_) | (with_reducible refine below_drewN ?_ _) | ((with_reducible refine below_alloc ?_ ?_); (focus (first | omega | (simp; done) | (simp; omega)))) | ((with_reducible refine below_set ?_ ?_); (focus (first | omega | (simp; done) | (simp; omega))))))
    rintro r w2 ⟨rfl, hb2⟩
    have hbw : Below w.heap.size w w2 := Below.trans (by repeat (first | (with_reducible exact Below.refl _ _) | (with_reducible assumption) | (with_reducible refine Below.drew ?_) | (with_reducible refine below_drewN ?_ _) | ((with_reducible refine below_alloc ?_ ?_); (focus (first | omega | (simp; done) | (simp; omega)))) | ((with_reducible refine below_set ?_ ?_); (focus (first | omega | (simp; done) | (simp; omega)))))) (hb2.mono (by simp))
    have P3 := hidden (Holds.below (show Holds _ w.heap.size 26 #[.slice A1 g.toks.length k1, .slice A2 g.rules.length k2, .slice A3 g.prods.length k3, .int .i64 g.start, .int .i64 g.states, .int .i64 g.text, .int .i64 g.nodes, .int .i64 g.pairs] from (by repeat (first | (with_reducible assumption) | ((with_reducible refine holds_new ?_); (focus (first | rfl | (simp; done)))) | (with_reducible refine Holds.alloc ?_ _) | (with_reducible refine Holds.drew ?_)))) hb2 (by simp))
    obtain ⟨s0, s1, s2, s3, s4, s5, s6, s7⟩ := eight P3.out
    have hz2 : w.heap.size < w2.heap.size := by have := hb2.size; simp at this; omega
    clear hb2 HRt hb
    obtain ⟨m0, hm0⟩ : ∃ m0 : Nat, g.start = (m0 : Int) := ⟨g.start.toNat, by have := HSD.out.start; omega⟩
    have hm0l : m0 < g.rules.length := by have := HSD.out.start; omega
    rw [hm0] at s3
    rw [hm0, Int.toNat_natCast] at HE
    have HBz : BoolsAt (w2.alloc (.cells (bcells (List.replicate g.rules.length false)) 4)) w2.heap.size (List.replicate g.rules.length false) := Holds.new w2 4 (bcells (List.replicate g.rules.length false))
    have zz : (w2.alloc (.cells (bcells (List.replicate g.rules.length false)) 4)).cell? ⟨w2.heap.size, m0, none⟩ = some (.bool false) := HBz.at_ (by rw [List.getElem?_replicate, if_pos hm0l])
    have zf := HBz.frozen m0
    have hbs : (bcells (List.replicate g.rules.length false)).setIfInBounds m0 (.bool true) = bcells ((List.replicate g.rules.length false).set m0 true) := by unfold bcells; rw [List.map_set, List.setIfInBounds_toArray]
    have HB0 : Hid (BoolsAt (w2.alloc (.cells ((bcells (List.replicate g.rules.length false)).setIfInBounds m0 (.bool true)) 4)) w2.heap.size ((List.replicate g.rules.length false).set m0 true)) := hidden (Holds.of_eq (Holds.new _ _ _) hbs)
    have P4 := hidden (P3.out.alloc (.cells ((bcells (List.replicate g.rules.length false)).setIfInBounds m0 (.bool true)) 4))
    have hb4 := hidden (hbw.alloc hbw.size (.cells ((bcells (List.replicate g.rules.length false)).setIfInBounds m0 (.bool true)) 4))
    clear hbs
    have HL0 : Hid (((List.replicate g.rules.length false).set m0 true).length = g.rules.length) := hidden (by simp)
    clear HBz
    go_wp2
    generalize (List.replicate g.rules.length false).set m0 true = st0 at *
    clear hmk s0 s1 s2 s3 s4 s5 s6 s7 P3 zz zf
    generalize w2.heap.size = q at *
    go_loopg [4] (g.rules.length + 1) (fun gh ii wr => ∃ k : Nat, k ≤ g.rules.length + 1 ∧ gh = g.rules.length + 1 - k ∧ ii = .int .i64 k ∧ Hid (BoolsAt wr q (passes stepR g.prods k st0)) ∧ Hid (Below w.heap.size w wr) ∧ Hid (Holds wr w.heap.size 26 #[.slice A1 g.toks.length k1, .slice A2 g.rules.length k2, .slice A3 g.prods.length k3, .int .i64 g.start, .int .i64 g.states, .int .i64 g.text, .int .i64 g.nodes, .int .i64 g.pairs]))
    case atStart => exact ⟨0, by omega, rfl, rfl, HB0, hb4, P4⟩
    case round =>
      clear HB0 hb4 P4
      obtain ⟨k, hk, rfl, rfl, HB, hbw', P3⟩ := hrel
      obtain ⟨s0, s1, s2, s3, s4, s5, s6, s7⟩ := eight P3.out
      have hqr := HB.out.lt
      by_cases hlt : k ≤ g.rules.length
      · have HPs : Hid (passes stepR g.prods (k + 1) st0 = passB stepR g.prods (passes stepR g.prods k st0)) := hidden (passes_succ _ _ _ _)
        have HLn : Hid ((passes stepR g.prods k st0).length = g.rules.length) := hidden (by rw [passes_len stepR_le, HL0.out])
        generalize passes stepR g.prods k st0 = st at *
        have HB1 : Hid (BoolsAt wr q (passB stepR (g.prods.take 0) st)) := HB
        go_wp2
        clear s0 s1 s2 s3 s4 s5 s6 s7 HB hqr
        obtain ⟨wo, rfl⟩ : ∃ wo : World, wo = wr := ⟨_, rfl⟩
        go_loopg [5] g.prods.length (fun gh jj wr => ∃ j : Nat, j ≤ g.prods.length ∧ gh = g.prods.length - j ∧ jj = .int .i64 j ∧ Hid (BoolsAt wr q (passB stepR (g.prods.take j) st)) ∧ Hid (Below w.heap.size w wr) ∧ Hid (Holds wr w.heap.size 26 #[.slice A1 g.toks.length k1, .slice A2 g.rules.length k2, .slice A3 g.prods.length k3, .int .i64 g.start, .int .i64 g.states, .int .i64 g.text, .int .i64 g.nodes, .int .i64 g.pairs]))
        case atStart => exact ⟨0, by omega, rfl, rfl, HB1, hbw', P3⟩
        case round =>
          clear HB1 hbw' P3
          obtain ⟨j, hj, rfl, rfl, HB, hbw', P3⟩ := hrel
          obtain ⟨s0, s1, s2, s3, s4, s5, s6, s7⟩ := eight P3.out
          have hqr := HB.out.lt
          have hbw := hbw'.out
          by_cases hjl : j < g.prods.length
          · have hx := List.getElem?_eq_getElem hjl
            have hmem := List.getElem_mem hjl
            generalize g.prods[j] = p at *
            obtain ⟨b1, o1, l1, rfl, hT, hat, hin⟩ := (HGo.out _ hbw).2.2.at_ hx
            have y0 : wr.cell? ⟨b1, o1 + j * 2, none⟩ = some (.int .i64 p.left) := hat 0 _ rfl
            have y1' := hat 1 _ rfl
            have hin : Rd wr (Old wr) 4 l1 p.right.length (p.right.flatMap itCells) := hin
            obtain ⟨A4, k4, rfl, _, _⟩ := hin.val
            have y1 : wr.cell? ⟨b1, o1 + j * 2 + 1, none⟩ = some (.slice A4 p.right.length k4) := y1'
            have HPt := hidden (pass_take stepR hx st)
            have HLj : Hid ((passB stepR (g.prods.take j) st).length = g.rules.length) := hidden (by rw [← (pass_le stepR_le _ _).1, HLn.out])
            generalize passB stepR (g.prods.take j) st = sj at *
            have HBk0 : Hid (BoolsAt wr q ((p.right.take 0).foldl (reachX p.left) sj)) := HB
            have HIn := hidden (fun (w' : World) (hb : Below w.heap.size w w') (hp : g.prods[j]? = some p) => (HGo.out w' hb).2.2.at_ hp)
            have HXp := hidden hx
            have HLf := hidden (HSD.out.left p hmem)
            have HRf := hidden (HSD.out.rule p hmem)
            have HPt2 : Hid (passB stepR (g.prods.take (j + 1)) st = p.right.foldl (reachX p.left) sj) := hidden HPt.out
            clear hat hin hx hmem y1' y0 y1 HPt HB
            go_wp2
            clear s0 s1 s2 s3 s4 s5 s6 s7 hqr hT HIn
            obtain ⟨wp, rfl⟩ : ∃ wp : World, wp = wr := ⟨_, rfl⟩
            go_loopg [6] p.right.length (fun gh ll wr => ∃ l : Nat, l ≤ p.right.length ∧ gh = p.right.length - l ∧ ll = .int .i64 l ∧ Hid (BoolsAt wr q ((p.right.take l).foldl (reachX p.left) sj)) ∧ Hid (Below w.heap.size w wr) ∧ Hid (Holds wr w.heap.size 26 #[.slice A1 g.toks.length k1, .slice A2 g.rules.length k2, .slice (some ⟨b1, o1, none⟩) g.prods.length k3, .int .i64 g.start, .int .i64 g.states, .int .i64 g.text, .int .i64 g.nodes, .int .i64 g.pairs]))
            case atStart => exact ⟨0, by omega, rfl, rfl, HBk0, hbw', P3⟩
            case round =>
              clear HBk0 hbw' P3 hbw
              obtain ⟨l, hl, rfl, rfl, HB, hbw', P3⟩ := hrel
              obtain ⟨s0, s1, s2, s3, s4, s5, s6, s7⟩ := eight P3.out
              have hqr := HB.out.lt
              have hbw := hbw'.out
              obtain ⟨bA, oA, lA, hA, hTA, hat, hin⟩ := (HGo.out _ hbw).2.2.at_ HXp.out
              simp only [Option.some.injEq, Addr.mk.injEq, and_true] at hA
              obtain ⟨rfl, rfl⟩ := hA
              have y0 : wr.cell? ⟨b1, o1 + j * 2, none⟩ = some (.int .i64 p.left) := hat 0 _ rfl
              have y1' := hat 1 _ rfl
              have hin : Rd wr (Old wr) 4 lA p.right.length (p.right.flatMap itCells) := hin
              obtain ⟨A4, k4, rfl, _, m4⟩ := hin.val
              have y1 : wr.cell? ⟨b1, o1 + j * 2 + 1, none⟩ = some (.slice A4 p.right.length k4) := y1'
              have HLm : Hid (((p.right.take l).foldl (reachX p.left) sj).length = g.rules.length) := hidden (by rw [← (foldX_le p.left _ _).1, HLj.out])
              have HDone : Hid (((p.right.take l).foldl (reachX p.left) sj)[p.left.toNat]? ≠ some true → (p.right.take l).foldl (reachX p.left) sj = p.right.foldl (reachX p.left) sj) := hidden (fun h => foldX_stop h)
              have HAllD : Hid (l = p.right.length → (p.right.take l).foldl (reachX p.left) sj = p.right.foldl (reachX p.left) sj) := hidden (fun h => by rw [h, List.take_of_length_le (Nat.le_refl _)])
              have HStp : Hid (∀ x, p.right[l]? = some x → (p.right.take (l + 1)).foldl (reachX p.left) sj = reachX p.left ((p.right.take l).foldl (reachX p.left) sj) x) := hidden (fun x hx => by rw [← take_snoc_at' hx, List.foldl_append]; rfl)
              generalize (p.right.take l).foldl (reachX p.left) sj = sl at *
              obtain ⟨m, bb, hm, hml, hsm, z0, z1⟩ := set_bool HB.out HLf.out.1 (by rw [HLm.out]; exact HLf.out.2)
              rw [HLm.out] at hml
              rw [hm] at y0
              have HDone2 : Hid (bb = false → sl = p.right.foldl (reachX p.left) sj) := hidden (fun h => HDone.out (by rw [hm, Int.toNat_natCast, hsm, h]; simp))
              unfold maxLen at m4
              clear hat y1'
              cases bb
              · have HF : Hid (BoolsAt wr q (passB stepR (g.prods.take (j + 1)) st)) := hidden (by rw [HPt2.out, ← HDone2.out rfl]; exact HB.out)
                clear HDone HDone2 HAllD HStp hsm hin
                go_wp2
                go_roundg (g.prods.length - (j + 1))
                case measure => omega
                case rel => exact ⟨j + 1, by omega, rfl, by go_num, HF, hbw', P3⟩
              · by_cases hll : l < p.right.length
                · have hxl := List.getElem?_eq_getElem hll
                  generalize p.right[l] = x at *
                  obtain ⟨b2, o2, rfl, hT2, hat2⟩ := hin.flat_at (fun _ => rfl) (by decide) hxl
                  have i0 : wr.cell? ⟨b2, o2 + l * 4, none⟩ = some (.bool x.rule) := hat2 0 _ rfl
                  have i1 : wr.cell? ⟨b2, o2 + l * 4 + 1, none⟩ = some (.int .i64 x.n) := hat2 1 _ rfl
                  have i2 : wr.cell? ⟨b2, o2 + l * 4 + 2, none⟩ = some (.int .i64 x.gap) := hat2 2 _ rfl
                  have i3 : wr.cell? ⟨b2, o2 + l * 4 + 3, none⟩ = some (.int .i64 x.in_) := hat2 3 _ rfl
                  have hT2' : b2 < wr.heap.size := hT2
                  have HSx := hidden (HStp.out x hxl)
                  have hxm := List.mem_of_getElem? hxl
                  have HBa := hidden (HB.out.alloc (.cells #[.bool x.rule, .int .i64 x.n, .int .i64 x.gap, .int .i64 x.in_] 49))
                  have Pa := hidden (P3.out.alloc (.cells #[.bool x.rule, .int .i64 x.n, .int .i64 x.gap, .int .i64 x.in_] 49))
                  have ha := hidden (hbw.alloc hbw.size (.cells #[.bool x.rule, .int .i64 x.n, .int .i64 x.gap, .int .i64 x.in_] 49))
                  have hat_ : atB sl p.left = true := atB_iff.2 (by rw [hm, Int.toNat_natCast]; exact hsm)
                  have HAt := hidden hat_
                  clear hat2 hxl hin HDone HDone2 HAllD HStp hsm hat_
                  cases hr : x.rule
                  · have HE2 : Hid ((p.right.take (l + 1)).foldl (reachX p.left) sj = sl) := hidden (by rw [HSx.out]; unfold reachX; rw [hr, Bool.and_false, if_neg (by decide)])
                    rw [hr] at i0 HBa Pa ha
                    clear HSx
                    go_wp2
                    go_roundg (p.right.length - (l + 1))
                    case measure => omega
                    case rel => exact ⟨l + 1, by omega, rfl, by go_num, by rw [HE2.out]; exact HBa, ha, Pa⟩
                  · obtain ⟨n1, n2⟩ := HRf.out x hxm hr
                    obtain ⟨mx, hmx⟩ : ∃ mx : Nat, x.n = (mx : Int) := ⟨x.n.toNat, by omega⟩
                    have hmxl : mx < g.rules.length := by omega
                    have HE2 : Hid ((p.right.take (l + 1)).foldl (reachX p.left) sj = sl.set mx true) := hidden (by rw [HSx.out]; unfold reachX; rw [hr, HAt.out, if_pos (show (true && true) = true from rfl), hmx, Int.toNat_natCast])
                    rw [hr] at i0 HBa Pa ha
                    rw [hmx] at i1 HBa Pa ha
                    have hgx := List.getElem?_eq_getElem (show mx < sl.length by rw [HLm.out]; exact hmxl)
                    have zx := HB.out.at_ hgx
                    generalize sl[mx]'(by rw [HLm.out]; exact hmxl) = bx at *
                    have zy := HB.out.frozen mx
                    have HBs := hidden (Holds.alloc (BoolsAt.set HB.out mx true) (.cells #[.bool true, .int .i64 (mx : Int), .int .i64 x.gap, .int .i64 x.in_] 49))
                    have Ps := hidden (Holds.alloc (holds_far (b := q) (i := mx) (s := none) (u := .bool true) (by omega) P3.out) (.cells #[.bool true, .int .i64 (mx : Int), .int .i64 x.gap, .int .i64 x.in_] 49))
                    have hs := hidden (Below.alloc (below_set (b := q) (i := mx) (s := none) (u := .bool true) (by omega) hbw) (by have := hbw.size; simpa using this) (.cells #[.bool true, .int .i64 (mx : Int), .int .i64 x.gap, .int .i64 x.in_] 49))
                    clear HSx hgx
                    go_wp2
                    go_roundg (p.right.length - (l + 1))
                    case measure => omega
                    case rel => exact ⟨l + 1, by omega, rfl, by go_num, by rw [HE2.out]; exact HBs, hs, Ps⟩
                · have HF : Hid (BoolsAt wr q (passB stepR (g.prods.take (j + 1)) st)) := hidden (by rw [HPt2.out, ← HAllD.out (by omega)]; exact HB.out)
                  clear HDone HDone2 HAllD HStp hsm hin
                  go_wp2
                  go_roundg (g.prods.length - (j + 1))
                  case measure => omega
                  case rel => exact ⟨j + 1, by omega, rfl, by go_num, HF, hbw', P3⟩
          · obtain rfl : j = g.prods.length := by omega
            have HB2 : Hid (BoolsAt wr q (passes stepR g.prods (k + 1) st0)) := hidden (by rw [HPs.out, ← pass_all]; exact HB.out)
            clear HB HPs
            go_wp2
            go_roundg (g.rules.length + 1 - (k + 1))
            case measure => omega
            case rel => exact ⟨k + 1, by omega, rfl, by go_num, HB2, hbw', P3⟩
      · obtain rfl : k = g.rules.length + 1 := by omega
        rw [HE.out] at HB
        have HLe : Hid (g.rules.length = (reachB g).length) := hidden (by simp [reachB])
        have HR := hidden (HB.out.row (T := Old wr) HLe.out hqr (by unfold maxLen; omega))
        go_wp2
        go_ret
        exact ⟨⟨_, rfl, HR⟩, hbw'.out⟩
end Go.Proofs.Ytmlggfapnkhcaaa
