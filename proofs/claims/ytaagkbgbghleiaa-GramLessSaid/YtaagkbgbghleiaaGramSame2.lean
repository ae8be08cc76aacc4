/-
  facsimileref18.Same.
-/
import Derived.Test.YtaagkbgbghleiaaGramRef2
namespace Go.Proofs.Ytaagkbgbghleiaa
open Go.RowKit Go.Shelf

theorem gram_eq (g h : Gram) : eqB g h = (eqB g.toks h.toks && (eqB g.rules h.rules && (eqB g.prods h.prods && (g.start == h.start && (g.states == h.states && (g.text == h.text && (g.nodes == h.nodes && g.pairs == h.pairs))))))) := by
  obtain ⟨a1, a2, a3, a4, a5, a6, a7, a8⟩ := g
  obtain ⟨b1, b2, b3, b4, b5, b6, b7, b8⟩ := h
  rw [Bool.eq_iff_iff, eqB_iff]
  simp only [Gram.mk.injEq, Bool.and_eq_true, beq_iff_eq, eqB_iff]
theorem eqB_list {α : Type} {L M : List α} (hl : L.length = M.length) (h : ∀ k : Nat, k < L.length → L[k]? = M[k]?) : eqB L M = true := eqB_true (list_ext_of hl h)
theorem eqB_at {α : Type} {L M : List α} {k : Nat} {x y : α} (h1 : L[k]? = some x) (h2 : M[k]? = some y) (h3 : x ≠ y) : eqB L M = false := eqB_false (fun e => by
  subst e; rw [h1] at h2; exact h3 (Option.some.inj h2))
theorem and_lid {a b : Bool} (h : a = false) : (a && b) = false := by rw [h]; rfl
theorem and_tru {a b : Bool} (h : a = true) : (a && b) = b := by rw [h]; rfl

theorem eight {w : World} {p : Nat} {t : TypeId} {a b c d e f g h : Value} (H : Holds w p t #[a, b, c, d, e, f, g, h]) :
    w.cell? ⟨p, 0, none⟩ = some a ∧ w.cell? ⟨p, 1, none⟩ = some b ∧ w.cell? ⟨p, 2, none⟩ = some c ∧ w.cell? ⟨p, 3, none⟩ = some d ∧ w.cell? ⟨p, 4, none⟩ = some e ∧ w.cell? ⟨p, 5, none⟩ = some f ∧ w.cell? ⟨p, 6, none⟩ = some g ∧ w.cell? ⟨p, 7, none⟩ = some h :=
  ⟨H.cell 0, H.cell 1, H.cell 2, H.cell 3, H.cell 4, H.cell 5, H.cell 6, H.cell 7⟩
set_option maxRecDepth 20000 in
set_option maxHeartbeats 8000000 in
theorem ref_Same18 (a b c a' b' c' : Value) (g h : Gram) (w : World) (HG : GramIs w (Old w) a b c g) (HH : GramIs w (Old w) a' b' c' h) :
    Calls Try.prog 42 #[.agg (gramCells a b c g), .agg (gramCells a' b' c' h)] w fun r w' => r = .returned (.bool (eqB g h)) ∧ Below w.heap.size w w' := by
  have HGo := hidden (fun (w' : World) (hb : Below w.heap.size w w') => HG.old hb)
  have HHo := hidden (fun (w' : World) (hb : Below w.heap.size w w') => HH.old hb)
  have HRS := hidden (fun (w' : World) (hb : Below w.heap.size w w') => same_strs b b' g.rules h.rules w' (HG.old hb).2.1 (HH.old hb).2.1)
  obtain ⟨⟨A1, k1, rfl, v1, m1⟩, ⟨A2, k2, rfl, v2, m2⟩, ⟨A3, k3, rfl, v3, m3⟩⟩ := HG.vals
  obtain ⟨⟨E1, l1, rfl, y1, n1⟩, ⟨E2, l2, rfl, y2, n2⟩, ⟨E3, l3, rfl, y3, n3⟩⟩ := HH.vals
  clear HG HH
  rw [gram_eq]
  unfold gramCells
  obtain ⟨tk, ru, pr, g4, g5, g6, g7, g8⟩ := g
  obtain ⟨tk', ru', pr', h4, h5, h6, h7, h8⟩ := h
  dsimp only at *
  unfold maxLen at *
  obtain ⟨rest, hrest⟩ : ∃ r : Bool, r = (g4 == h4 && (g5 == h5 && (g6 == h6 && (g7 == h7 && g8 == h8)))) := ⟨_, rfl⟩
  rw [← hrest]
  have HRest := hidden hrest
  clear hrest
  have hb := Below.refl w.heap.size w
  by_cases c1 : tk.length = tk'.length
  · have q1 : ((tk.length : Int) != (tk'.length : Int)) = false := by simp; omega
    by_cases c2 : pr.length = pr'.length
    · have q2 : ((pr.length : Int) != (pr'.length : Int)) = false := by simp; omega
      have HT1 := hidden (@eqB_list _ tk tk' c1)
      have HF1 := hidden (fun k x y => @eqB_at _ tk tk' k x y)
      have HT2 := hidden (@eqB_list _ pr pr' c2)
      have HF2 := hidden (fun k x y => @eqB_at _ pr pr' k x y)
      have lm1 : tk.length ≤ tk'.length := by omega
      have lm2 : pr.length ≤ pr'.length := by omega
      clear c1 c2
      generalize eqB ru ru' = er at *
      generalize eqB tk tk' = et at *
      generalize eqB pr pr' = ep at *
      obtain ⟨res, hres⟩ : ∃ r : Bool, r = (et && (er && (ep && rest))) := ⟨_, rfl⟩
      rw [← hres]
      have HRes := hidden hres
      clear hres
      cases er
      · have HE : Hid (res = false) := hidden (by rw [HRes.out]; simp)
        go_enter Try.func42, Try.ntmps42
        go_wp2_with fail
        refine (HRS.out _ ?_).mono ?_
        · exact (by repeat (first | (with_reducible exact Below.refl _ _) | (with_reducible assumption) | (with_reducible refine Below.drew ?_) | ((with_reducible refine below_alloc ?_ ?_); (focus (first | omega | (simp; done) | (simp; omega)))) | ((with_reducible refine below_set ?_ ?_); (focus (first | omega | (simp; done) | (simp; omega))))))
        rintro r w2 ⟨rfl, hb2⟩
        have hbw : Below w.heap.size w w2 := Below.trans (by repeat (first | (with_reducible exact Below.refl _ _) | (with_reducible assumption) | (with_reducible refine Below.drew ?_) | ((with_reducible refine below_alloc ?_ ?_); (focus (first | omega | (simp; done) | (simp; omega)))) | ((with_reducible refine below_set ?_ ?_); (focus (first | omega | (simp; done) | (simp; omega)))))) (hb2.mono (by simp; omega))
        clear hb2
        go_wp2
        go_ret
        exact ⟨by rw [HE.out]; rfl, hbw⟩
      · go_enter Try.func42, Try.ntmps42
        go_wp2_with fail
        refine (HRS.out _ ?_).mono ?_
        · exact (by repeat (first | (with_reducible exact Below.refl _ _) | (with_reducible assumption) | (with_reducible refine Below.drew ?_) | ((with_reducible refine below_alloc ?_ ?_); (focus (first | omega | (simp; done) | (simp; omega)))) | ((with_reducible refine below_set ?_ ?_); (focus (first | omega | (simp; done) | (simp; omega))))))
        rintro r w2 ⟨rfl, hb2⟩
        have HB1 := hidden (Holds.below (show Holds _ w.heap.size 36 #[.slice A1 tk.length k1, .slice A2 ru.length k2, .slice A3 pr.length k3, .int .i64 g4, .int .i64 g5, .int .i64 g6, .int .i64 g7, .int .i64 g8] from (by repeat (first | (with_reducible assumption) | ((with_reducible refine holds_new ?_); (focus (first | rfl | (simp; done)))) | (with_reducible refine Holds.alloc ?_ _) | (with_reducible refine Holds.drew ?_)))) hb2 (by simp; omega))
        have HB2 := hidden (Holds.below (show Holds _ (w.heap.size + 1) 36 #[.slice E1 tk'.length l1, .slice E2 ru'.length l2, .slice E3 pr'.length l3, .int .i64 h4, .int .i64 h5, .int .i64 h6, .int .i64 h7, .int .i64 h8] from (by repeat (first | (with_reducible assumption) | ((with_reducible refine holds_new ?_); (focus (first | rfl | (simp; done)))) | (with_reducible refine Holds.alloc ?_ _) | (with_reducible refine Holds.drew ?_)))) hb2 (by simp))
        have hz : w.heap.size + 2 ≤ w2.heap.size := by have := hb2.size; simp at this; omega
        have hbw : Below w.heap.size w w2 := Below.trans (by repeat (first | (with_reducible exact Below.refl _ _) | (with_reducible assumption) | (with_reducible refine Below.drew ?_) | ((with_reducible refine below_alloc ?_ ?_); (focus (first | omega | (simp; done) | (simp; omega)))) | ((with_reducible refine below_set ?_ ?_); (focus (first | omega | (simp; done) | (simp; omega)))))) (hb2.mono (by simp; omega))
        clear hb2 hb
        have hb := hbw
        clear hbw
        go_wp2
        go_loopw [5] (fun kk wr => ∃ k : Nat, k ≤ tk.length ∧ kk = .int .i64 k ∧ Hid (∀ j : Nat, j < k → tk[j]? = tk'[j]?) ∧ Below w.heap.size w wr ∧ w.heap.size + 2 ≤ wr.heap.size
          ∧ Hid (Holds wr w.heap.size 36 #[.slice A1 tk.length k1, .slice A2 ru.length k2, .slice A3 pr.length k3, .int .i64 g4, .int .i64 g5, .int .i64 g6, .int .i64 g7, .int .i64 g8])
          ∧ Hid (Holds wr (w.heap.size + 1) 36 #[.slice E1 tk'.length l1, .slice E2 ru'.length l2, .slice E3 pr'.length l3, .int .i64 h4, .int .i64 h5, .int .i64 h6, .int .i64 h7, .int .i64 h8])) (fun kk _ => tk.length - (intOf kk).toNat)
        case atStart => exact ⟨0, by omega, rfl, hidden (fun j h => by omega), hb, hz, HB1, HB2⟩
        case round =>
          clear HB1 HB2 hb hz
          obtain ⟨k, hk, rfl, HN, hb, z, H1, H2⟩ := hrel
          obtain ⟨s0, s1, s2, s3, s4, s5, s6, s7⟩ := eight H1.out
          obtain ⟨t0, t1, t2, t3, t4, t5, t6, t7⟩ := eight H2.out
          by_cases hlt : k < tk.length
          · have hk2 : k < tk'.length := by omega
            have hx := List.getElem?_eq_getElem hlt
            have hy := List.getElem?_eq_getElem hk2
            generalize tk[k] = x at *
            generalize tk'[k] = y at *
            obtain ⟨b1, o1, i1, rfl, _, hat1, hi1⟩ := (HGo.out _ hb).1.at_ hx
            obtain ⟨b2, o2, i2, rfl, _, hat2, hi2⟩ := (HHo.out _ hb).1.at_ hy
            have p0 := hat1 0 _ rfl
            have p1 := hat1 1 _ rfl
            have p2 := hat1 2 _ rfl
            have r0 := hat2 0 _ rfl
            have r1 := hat2 1 _ rfl
            have r2 := hat2 2 _ rfl
            rw [Nat.add_zero] at p0 r0
            rw [show tokR.k = 3 from rfl] at p0 p1 p2 r0 r1 r2
            have HX := hidden hx
            have HY := hidden hy
            have HC := hidden (fun (y' : Ext wr) => ref_sameToken x y i1 i2 y'.w (Rd.old hi1 y'.below) (Rd.old hi2 y'.below))
            clear hx hy hat1 hat2 hi1 hi2
            have e0 := Ext.cell s0; have e1 := Ext.cell t0
            have f0 := Ext.cell p0; have f1 := Ext.cell p1; have f2 := Ext.cell p2
            have f3 := Ext.cell r0; have f4 := Ext.cell r1; have f5 := Ext.cell r2
            go_wp2_with fail
            refine wp_region_ext (by kernel_rfl) (by kernel_rfl) ?_
            repeat (go_big_quiet_step ((go_at_call 86; exact Ext.call (HC.out _))))
            refine wpQuiet_nil ?_
            intro w3 hb3
            have z4 := hb3.size
            replace H1 := hidden (H1.out.below hb3 (by omega))
            replace H2 := hidden (H2.out.below hb3 (by omega))
            clear e0 e1 f0 f1 f2 f3 f4 f5 p0 p1 p2 r0 r1 r2 HC
            clear s0 s1 s2 s3 s4 s5 s6 s7 t0 t1 t2 t3 t4 t5 t6 t7
            replace hb := hb.trans (hb3.mono hb.size)
            clear hb3
            by_cases hxy : x = y
            · have HN2 : Hid (∀ j : Nat, j < k + 1 → tk[j]? = tk'[j]?) := hidden (fun j hj => by
                by_cases e : j = k
                · subst e; rw [HX.out, HY.out, hxy]
                · exact HN.out j (by omega))
              rw [eqB_true hxy]
              clear hxy HN HX HY
              go_wp2
              go_roundw
              case rel => exact ⟨k + 1, by omega, by go_num, HN2, hb, by omega, H1, H2⟩
              case measure => simp [intOf]; omega
            · have HE : Hid (res = false) := hidden (by rw [HRes.out, HF1.out k _ _ HX.out HY.out hxy]; rfl)
              rw [eqB_false hxy]
              clear hxy
              go_wp2
              go_ret
              exact ⟨by rw [HE.out]; rfl, hb⟩
          · obtain rfl : k = tk.length := by omega
            have HRes2 : Hid (res = (ep && rest)) := hidden (by rw [HRes.out, HT1.out HN.out]; rfl)
            clear HRes HT1 HF1 HN
            go_wp2
            clear s0 s1 s2 s3 s4 s5 s6 s7 t0 t1 t2 t3 t4 t5 t6 t7
            have hbA := hb
            have zA := z
            have H1A := H1
            have H2A := H2
            clear hb z H1 H2
            obtain ⟨wo, rfl⟩ : ∃ wo : World, wo = wr := ⟨_, rfl⟩
            go_loopw [6] (fun kk wr => ∃ k : Nat, k ≤ pr.length ∧ kk = .int .i64 k ∧ Hid (∀ j : Nat, j < k → pr[j]? = pr'[j]?) ∧ Below w.heap.size w wr ∧ w.heap.size + 2 ≤ wr.heap.size
              ∧ Hid (Holds wr w.heap.size 36 #[.slice A1 tk.length k1, .slice A2 ru.length k2, .slice A3 pr.length k3, .int .i64 g4, .int .i64 g5, .int .i64 g6, .int .i64 g7, .int .i64 g8])
              ∧ Hid (Holds wr (w.heap.size + 1) 36 #[.slice E1 tk'.length l1, .slice E2 ru'.length l2, .slice E3 pr'.length l3, .int .i64 h4, .int .i64 h5, .int .i64 h6, .int .i64 h7, .int .i64 h8])) (fun kk _ => pr.length - (intOf kk).toNat)
            case atStart => exact ⟨0, by omega, rfl, hidden (fun j h => by omega), hbA, zA, H1A, H2A⟩
            case round =>
              clear hbA zA H1A H2A
              obtain ⟨k, hk, rfl, HN, hb, z, H1, H2⟩ := hrel
              obtain ⟨s0, s1, s2, s3, s4, s5, s6, s7⟩ := eight H1.out
              obtain ⟨t0, t1, t2, t3, t4, t5, t6, t7⟩ := eight H2.out
              by_cases hlt : k < pr.length
              · have hk2 : k < pr'.length := by omega
                have hx := List.getElem?_eq_getElem hlt
                have hy := List.getElem?_eq_getElem hk2
                generalize pr[k] = x at *
                generalize pr'[k] = y at *
                obtain ⟨b1, o1, i1, rfl, _, hat1, hi1⟩ := (HGo.out _ hb).2.2.at_ hx
                obtain ⟨b2, o2, i2, rfl, _, hat2, hi2⟩ := (HHo.out _ hb).2.2.at_ hy
                have p0 := hat1 0 _ rfl
                have p1 := hat1 1 _ rfl
                have r0 := hat2 0 _ rfl
                have r1 := hat2 1 _ rfl
                rw [Nat.add_zero] at p0 r0
                rw [show prodR.k = 2 from rfl] at p0 p1 r0 r1
                have HX := hidden hx
                have HY := hidden hy
                have HC := hidden (fun (y' : Ext wr) => ref_sameProd x y i1 i2 y'.w (Rd.old hi1 y'.below) (Rd.old hi2 y'.below))
                clear hx hy hat1 hat2 hi1 hi2
                have e0 := Ext.cell s2; have e1 := Ext.cell t2
                have f0 := Ext.cell p0; have f1 := Ext.cell p1
                have f3 := Ext.cell r0; have f4 := Ext.cell r1
                go_wp2_with fail
                refine wp_region_ext (by kernel_rfl) (by kernel_rfl) ?_
                repeat (go_big_quiet_step ((go_at_call 87; exact Ext.call (HC.out _))))
                refine wpQuiet_nil ?_
                intro w3 hb3
                have z4 := hb3.size
                replace H1 := hidden (H1.out.below hb3 (by omega))
                replace H2 := hidden (H2.out.below hb3 (by omega))
                clear e0 e1 f0 f1 f3 f4 p0 p1 r0 r1 HC
                clear s0 s1 s2 s3 s4 s5 s6 s7 t0 t1 t2 t3 t4 t5 t6 t7
                replace hb := hb.trans (hb3.mono hb.size)
                clear hb3
                by_cases hxy : x = y
                · have HN2 : Hid (∀ j : Nat, j < k + 1 → pr[j]? = pr'[j]?) := hidden (fun j hj => by
                    by_cases e : j = k
                    · subst e; rw [HX.out, HY.out, hxy]
                    · exact HN.out j (by omega))
                  rw [eqB_true hxy]
                  clear hxy HN HX HY
                  go_wp2
                  go_roundw
                  case rel => exact ⟨k + 1, by omega, by go_num, HN2, hb, by omega, H1, H2⟩
                  case measure => simp [intOf]; omega
                · have HE : Hid (res = false) := hidden (by rw [HRes2.out, HF2.out k _ _ HX.out HY.out hxy]; rfl)
                  rw [eqB_false hxy]
                  clear hxy
                  go_wp2
                  go_ret
                  exact ⟨by rw [HE.out]; rfl, hb⟩
              · obtain rfl : k = pr.length := by omega
                have HRes3 : Hid (res = rest) := hidden (by rw [HRes2.out, HT2.out HN.out]; rfl)
                clear HRes2 HT2 HF2 HN
                have HR5 : Hid (res = (g4 == h4 && (g5 == h5 && (g6 == h6 && (g7 == h7 && g8 == h8))))) := hidden (by rw [HRes3.out, HRest.out])
                clear HRes3 HRest
                cases d4 : (g4 == h4)
                · have HE : Hid (res = false) := hidden (by rw [HR5.out, d4]; rfl)
                  go_wp2
                  go_ret
                  exact ⟨by rw [HE.out]; rfl, hb⟩
                cases d5 : (g5 == h5)
                · have HE : Hid (res = false) := hidden (by rw [HR5.out, d4, d5]; rfl)
                  go_wp2
                  go_ret
                  exact ⟨by rw [HE.out]; rfl, hb⟩
                cases d6 : (g6 == h6)
                · have HE : Hid (res = false) := hidden (by rw [HR5.out, d4, d5, d6]; rfl)
                  go_wp2
                  go_ret
                  exact ⟨by rw [HE.out]; rfl, hb⟩
                cases d7 : (g7 == h7)
                · have HE : Hid (res = false) := hidden (by rw [HR5.out, d4, d5, d6, d7]; rfl)
                  go_wp2
                  go_ret
                  exact ⟨by rw [HE.out]; rfl, hb⟩
                have HE : Hid (res = (g8 == h8)) := hidden (by rw [HR5.out, d4, d5, d6, d7]; rfl)
                go_wp2
                go_ret
                exact ⟨by rw [HE.out]; rfl, hb⟩
    · have q2 : ((pr.length : Int) != (pr'.length : Int)) = true := by rw [bne_iff_ne]; omega
      rw [eqB_false (a := pr) (b := pr') (fun e => c2 (by rw [e])), Bool.false_and, Bool.and_false, Bool.and_false]
      clear c1 c2
      go_enter Try.func42, Try.ntmps42
      go_wp2
      go_ret
      exact ⟨rfl, (by repeat (first | (with_reducible exact Below.refl _ _) | (with_reducible assumption) | (with_reducible refine Below.drew ?_) | ((with_reducible refine below_alloc ?_ ?_); (focus (first | omega | (simp; done) | (simp; omega)))) | ((with_reducible refine below_set ?_ ?_); (focus (first | omega | (simp; done) | (simp; omega))))))⟩
  · have q1 : ((tk.length : Int) != (tk'.length : Int)) = true := by rw [bne_iff_ne]; omega
    rw [eqB_false (a := tk) (b := tk') (fun e => c1 (by rw [e])), Bool.false_and]
    clear c1
    go_enter Try.func42, Try.ntmps42
    go_wp2
    go_ret
    exact ⟨rfl, (by repeat (first | (with_reducible exact Below.refl _ _) | (with_reducible assumption) | (with_reducible refine Below.drew ?_) | ((with_reducible refine below_alloc ?_ ?_); (focus (first | omega | (simp; done) | (simp; omega)))) | ((with_reducible refine below_set ?_ ?_); (focus (first | omega | (simp; done) | (simp; omega))))))⟩
end Go.Proofs.Ytaagkbgbghleiaa
