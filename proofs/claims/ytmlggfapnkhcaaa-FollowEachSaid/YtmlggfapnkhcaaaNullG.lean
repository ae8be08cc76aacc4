/-
  facsimileref21: grown, Empty, Makes.
-/
import Derived.Test.YtmlggfapnkhcaaaNullR
namespace Go.Proofs.Ytmlggfapnkhcaaa
open Go.RowKit Go.Shelf

theorem passes_succ {α : Type} (f : List Bool → α → List Bool) (ps : List α) : ∀ (k : Nat) (s : List Bool), passes f ps (k + 1) s = passB f ps (passes f ps k s) := by
  intro k
  induction k with
  | zero => intro s; rfl
  | succ k ih => intro s; show passes f ps (k + 1) (passB f ps s) = _; rw [ih]; rfl
theorem pass_take {α : Type} (f : List Bool → α → List Bool) {ps : List α} {k : Nat} {p : α} (h : ps[k]? = some p) (s : List Bool) : passB f (ps.take (k + 1)) s = f (passB f (ps.take k) s) p := by
  unfold passB
  rw [← take_snoc_at' h, List.foldl_append]; rfl
theorem pass_all {α : Type} (f : List Bool → α → List Bool) (ps : List α) (s : List Bool) : passB f (ps.take ps.length) s = passB f ps s := by
  rw [List.take_of_length_le (Nat.le_refl _)]
/-- The small grammars. -/
structure Small (g : Gram) : Prop where
  toks : g.toks.length ≤ 100000
  rules : g.rules.length ≤ 100000
  prods : g.prods.length ≤ 100000
  names : Named g
theorem rightB_sound {g : Gram} (h : rightB g = true) : Sound g := ((right_iff g).1 (by unfold rightB at h; simpa using h)).sound
theorem set_bool {w : World} {q : Nat} {s : List Bool} (h : BoolsAt w q s) {z : Int} (hz : 0 ≤ z) (hl : z < s.length) : ∃ (m : Nat) (b : Bool), z = (m : Int) ∧ m < s.length ∧ s[m]? = some b ∧ w.cell? ⟨q, m, none⟩ = some (.bool b) ∧ w.frozen? ⟨q, m, none⟩ = false := by
  obtain ⟨m, rfl⟩ : ∃ m : Nat, z = (m : Int) := ⟨z.toNat, by omega⟩
  have hm : m < s.length := by omega
  exact ⟨m, s[m], rfl, hm, List.getElem?_eq_getElem hm, h.at_ (List.getElem?_eq_getElem hm), h.frozen m⟩

set_option maxRecDepth 20000 in
set_option maxHeartbeats 8000000 in
theorem ref_grown (a b c : Value) (g : Gram) (tk : Bool) (w : World) (HG : GramIs w (Old w) a b c g) (hsm : Small g) :
    Calls Try.prog 75 #[.agg (gramCells a b c g), .bool tk] w fun r w' => (∃ u, r = .returned u ∧ Hid (Bools w' (Old w') u (if rightB g = true then growsB g tk else []))) ∧ Below w.heap.size w w' := by
  have HRt := hidden (fun (w' : World) (hb : Below w.heap.size w w') => ref_Right21 a b c g w' (HG.old hb) hsm.toks hsm.rules hsm.prods hsm.names)
  have HGo := hidden (fun (w' : World) (hb : Below w.heap.size w w') => HG.old hb)
  have HSd := hidden (@rightB_sound g)
  have hr := hsm.rules
  obtain ⟨⟨A1, k1, rfl, v1, m1⟩, ⟨A2, k2, rfl, v2, m2⟩, ⟨A3, k3, rfl, v3, m3⟩⟩ := HG.vals
  have HGr : Hid (Sound g → passes (stepG tk) g.prods (g.rules.length + 1) (List.replicate g.rules.length false) = growsB g tk) := hidden (fun h => grown_all h tk)
  clear HG hsm
  unfold gramCells at *
  unfold maxLen at m2 m3
  generalize rightB g = rb at *
  have hb := Below.refl w.heap.size w
  cases rb
  · rw [if_neg (by decide)]
    go_enter Try.func75, Try.ntmps75
    go_wp2_with fail
    refine (HRt.out _ ?_).mono ?_
    · exact (by repeat (first | (with_reducible exact Below.refl _ _) | (with_reducible assumption) | (with_reducible refine Below.drew ?_) | (with_reducible refine below_drewN ?_ _) | ((with_reducible refine below_alloc ?_ ?_); (focus (first | omega | (simp; done) | (simp; omega)))) | ((with_reducible refine below_set ?_ ?_); (focus (first | omega | (simp; done) | (simp; omega))))))
    rintro r w2 ⟨rfl, hb2⟩
    have hbw : Below w.heap.size w w2 := Below.trans (by repeat (first | (with_reducible exact Below.refl _ _) | (with_reducible assumption) | (with_reducible refine Below.drew ?_) | (with_reducible refine below_drewN ?_ _) | ((with_reducible refine below_alloc ?_ ?_); (focus (first | omega | (simp; done) | (simp; omega)))) | ((with_reducible refine below_set ?_ ?_); (focus (first | omega | (simp; done) | (simp; omega)))))) (hb2.mono (by simp))
    have hbz := hbw.size
    clear hb2
    go_wp2
    go_ret
    exact ⟨⟨_, rfl, hidden ⟨rfl, _, 0, rfl, Nat.le_refl _, by decide, fun h => by simp at h⟩⟩, hbw.alloc hbz _⟩
  · rw [if_pos rfl]
    have hsd := HSd.out rfl
    have HE := hidden (HGr.out hsd)
    have HSD := hidden hsd
    clear hsd HGr HSd
    have hmk : ∀ w, (Instr.makeSlice 42 (.int .i64 (g.rules.length : Int)) (.int .i64 (g.rules.length : Int))).run Try.prog w = .ok (.slice (some ⟨w.heap.size, 0, none⟩) g.rules.length g.rules.length) (w.alloc (.cells (bcells (List.replicate g.rules.length false)) 4)) := fun w => by
      rw [← made_bools]
      exact run_make_row' (P := Try.prog) 42 4 (.bool false) 1 (by kernel_rfl) (by kernel_rfl) rfl .i64 .i64 g.rules.length (by omega) (by omega) w
    go_enter Try.func75, Try.ntmps75
    go_wp2_with fail
    refine (HRt.out _ ?_).mono ?_
    · exact (by repeat (first | (with_reducible exact Below.refl _ _) | (with_reducible assumption) | (with_reducible refine Below.drew ?_) | (with_reducible refine below_drewN ?_ _) | ((with_reducible refine below_alloc ?_ ?_); (focus (first | omega | (simp; done) | (simp; omega)))) | ((with_reducible refine below_set ?_ ?_); (focus (first | omega | (simp; done) | (simp; omega))))))
    rintro r w2 ⟨rfl, hb2⟩
    have hbw : Below w.heap.size w w2 := Below.trans (by repeat (first | (with_reducible exact Below.refl _ _) | (with_reducible assumption) | (with_reducible refine Below.drew ?_) | (with_reducible refine below_drewN ?_ _) | ((with_reducible refine below_alloc ?_ ?_); (focus (first | omega | (simp; done) | (simp; omega)))) | ((with_reducible refine below_set ?_ ?_); (focus (first | omega | (simp; done) | (simp; omega)))))) (hb2.mono (by simp))
    have P3 := hidden (Holds.below (show Holds _ w.heap.size 26 #[.slice A1 g.toks.length k1, .slice A2 g.rules.length k2, .slice A3 g.prods.length k3, .int .i64 g.start, .int .i64 g.states, .int .i64 g.text, .int .i64 g.nodes, .int .i64 g.pairs] from (by repeat (first | (with_reducible assumption) | ((with_reducible refine holds_new ?_); (focus (first | rfl | (simp; done)))) | (with_reducible refine Holds.alloc ?_ _) | (with_reducible refine Holds.drew ?_)))) hb2 (by simp))
    obtain ⟨s0, s1, s2, s3, s4, s5, s6, s7⟩ := eight P3.out
    have hz2 : w.heap.size < w2.heap.size := by have := hb2.size; simp at this; omega
    clear hb2 HRt hb
    have HB0 := hidden (Holds.new w2 4 (bcells (List.replicate g.rules.length false)))
    have P4 := hidden (P3.out.alloc (.cells (bcells (List.replicate g.rules.length false)) 4))
    have hb4 := hidden (hbw.alloc hbw.size (.cells (bcells (List.replicate g.rules.length false)) 4))
    have HL0 : Hid ((List.replicate g.rules.length false).length = g.rules.length) := hidden (by simp)
    generalize List.replicate g.rules.length false = st0 at *
    go_wp2
    clear hmk s0 s1 s2 s3 s4 s5 s6 s7 P3
    generalize w2.heap.size = q at *
    go_loopg [6] (g.rules.length + 1) (fun gh ii wr => ∃ k : Nat, k ≤ g.rules.length + 1 ∧ gh = g.rules.length + 1 - k ∧ ii = .int .i64 k ∧ Hid (BoolsAt wr q (passes (stepG tk) g.prods k st0)) ∧ Hid (Below w.heap.size w wr) ∧ Hid (Holds wr w.heap.size 26 #[.slice A1 g.toks.length k1, .slice A2 g.rules.length k2, .slice A3 g.prods.length k3, .int .i64 g.start, .int .i64 g.states, .int .i64 g.text, .int .i64 g.nodes, .int .i64 g.pairs]))
    case atStart => exact ⟨0, by omega, rfl, rfl, HB0, hb4, P4⟩
    case round =>
      clear HB0 hb4 P4
      obtain ⟨k, hk, rfl, rfl, HB, hbw', P3⟩ := hrel
      obtain ⟨s0, s1, s2, s3, s4, s5, s6, s7⟩ := eight P3.out
      have hqr := HB.out.lt
      by_cases hlt : k ≤ g.rules.length
      · have HPs : Hid (passes (stepG tk) g.prods (k + 1) st0 = passB (stepG tk) g.prods (passes (stepG tk) g.prods k st0)) := hidden (passes_succ _ _ _ _)
        have HLn : Hid ((passes (stepG tk) g.prods k st0).length = g.rules.length) := hidden (by rw [passes_len (stepG_le tk), HL0.out])
        generalize passes (stepG tk) g.prods k st0 = st at *
        have HB1 : Hid (BoolsAt wr q (passB (stepG tk) (g.prods.take 0) st)) := HB
        go_wp2
        clear s0 s1 s2 s3 s4 s5 s6 s7 HB hqr
        obtain ⟨wo, rfl⟩ : ∃ wo : World, wo = wr := ⟨_, rfl⟩
        go_loopg [7] g.prods.length (fun gh jj wr => ∃ j : Nat, j ≤ g.prods.length ∧ gh = g.prods.length - j ∧ jj = .int .i64 j ∧ Hid (BoolsAt wr q (passB (stepG tk) (g.prods.take j) st)) ∧ Hid (Below w.heap.size w wr) ∧ Hid (Holds wr w.heap.size 26 #[.slice A1 g.toks.length k1, .slice A2 g.rules.length k2, .slice A3 g.prods.length k3, .int .i64 g.start, .int .i64 g.states, .int .i64 g.text, .int .i64 g.nodes, .int .i64 g.pairs]))
        case atStart => exact ⟨0, by omega, rfl, rfl, HB1, hbw', P3⟩
        case round =>
          clear HB1 hbw' P3
          obtain ⟨j, hj, rfl, rfl, HB, hbw', P3⟩ := hrel
          obtain ⟨s0, s1, s2, s3, s4, s5, s6, s7⟩ := eight P3.out
          have hqr := HB.out.lt
          have hbw := hbw'.out
          by_cases hjl : j < g.prods.length
          · have hx := List.getElem?_eq_getElem hjl
            have hmem := List.getElem_mem hjl
            generalize g.prods[j] = p at *
            obtain ⟨b1, o1, l1, rfl, hT, hat, hin⟩ := (HGo.out _ hbw).2.2.at_ hx
            have y0 : wr.cell? ⟨b1, o1 + j * 2, none⟩ = some (.int .i64 p.left) := hat 0 _ rfl
            have y1' := hat 1 _ rfl
            have hin : Rd wr (Old wr) 4 l1 p.right.length (p.right.flatMap itCells) := hin
            obtain ⟨A4, k4, rfl, _, _⟩ := hin.val
            have y1 : wr.cell? ⟨b1, o1 + j * 2 + 1, none⟩ = some (.slice A4 p.right.length k4) := y1'
            have HPt := hidden (pass_take (stepG tk) hx st)
            have HLm : Hid ((passB (stepG tk) (g.prods.take j) st).length = g.rules.length) := hidden (by rw [← (pass_le (stepG_le tk) _ _).1, HLn.out])
            generalize passB (stepG tk) (g.prods.take j) st = sj at *
            have hAll := ref_all21 _ (.slice (some ⟨q, 0, none⟩) g.rules.length g.rules.length) p.right sj tk (Old wr) wr hin (HB.out.row HLm.out.symm hqr (by unfold maxLen; omega)) (fun x hx hr => by rw [HLm.out]; exact HSD.out.rule p hmem x hx hr)
            have HAll := hidden hAll
            obtain ⟨m, bb, hm, hml, hsm, z0, z1⟩ := set_bool HB.out (HSD.out.left p hmem).1 (by rw [HLm.out]; exact (HSD.out.left p hmem).2)
            rw [HLm.out] at hml
            rw [hm] at y0
            have HS2 : Hid (passB (stepG tk) (g.prods.take (j + 1)) st = if p.right.all (itemSo sj tk) = true then sj.set m true else sj) := hidden (by rw [HPt.out]; unfold stepG; rw [hm, Int.toNat_natCast])
            have HBs := hidden (HB.out.set m true)
            have Ps := hidden (holds_far (b := q) (i := m) (s := none) (u := .bool true) (by omega) P3.out)
            clear hAll hat hin hx hmem y1' hm hsm HPt
            generalize p.right.all (itemSo sj tk) = al at *
            cases al
            · have HE2 : Hid (passB (stepG tk) (g.prods.take (j + 1)) st = sj) := hidden (by rw [HS2.out, if_neg (by decide)])
              clear HS2
              go_wp2_with fail
              refine HAll.out.mono ?_
              rintro r w' ⟨rfl, rfl⟩
              go_wp2
              go_roundg (g.prods.length - (j + 1))
              case measure => omega
              case rel => exact ⟨j + 1, by omega, rfl, by go_num, by rw [HE2.out]; exact HB, hbw', P3⟩
            · have HE2 : Hid (passB (stepG tk) (g.prods.take (j + 1)) st = sj.set m true) := hidden (by rw [HS2.out, if_pos rfl])
              clear HS2
              go_wp2_with fail
              refine HAll.out.mono ?_
              rintro r w' ⟨rfl, rfl⟩
              go_wp2
              go_roundg (g.prods.length - (j + 1))
              case measure => omega
              case rel => exact ⟨j + 1, by omega, rfl, by go_num, by rw [HE2.out]; exact HBs, hidden (below_set (by omega) hbw), Ps⟩
          · obtain rfl : j = g.prods.length := by omega
            have HB2 : Hid (BoolsAt wr q (passes (stepG tk) g.prods (k + 1) st0)) := hidden (by rw [HPs.out, ← pass_all]; exact HB.out)
            clear HB HPs
            go_wp2
            go_roundg (g.rules.length + 1 - (k + 1))
            case measure => omega
            case rel => exact ⟨k + 1, by omega, rfl, by go_num, HB2, hbw', P3⟩
      · obtain rfl : k = g.rules.length + 1 := by omega
        rw [HE.out] at HB
        have HLe : Hid (g.rules.length = (growsB g tk).length) := hidden (by simp [growsB])
        have HR := hidden (HB.out.row (T := Old wr) HLe.out hqr (by unfold maxLen; omega))
        go_wp2
        go_ret
        exact ⟨⟨_, rfl, HR⟩, hbw'.out⟩
end Go.Proofs.Ytmlggfapnkhcaaa
