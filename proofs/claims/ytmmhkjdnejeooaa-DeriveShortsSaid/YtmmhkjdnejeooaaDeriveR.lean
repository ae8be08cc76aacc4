/-
  The document's sizes: facsimileref30.size, sizes, Size.
-/
import Derived.Test.YtmmhkjdnejeooaaDeriveJ
import Derived.Test.YtmmhkjdnejeooaaDeriveQ
namespace Go.Proofs.Ytmmhkjdnejeooaa.T
open Go.RowKit Go.Shelf

set_option maxRecDepth 20000 in
set_option maxHeartbeats 16000000 in
theorem ref_size30 (a b c : Value) (g : Gram) (S : List Int) (q pi : Nat) (p : Prod) (W : World) (HG : GramIs W (Old W) a b c g) (HQ : IntsAt W q S) (hS : S.length = g.rules.length) (hp : g.prods[pi]? = some p) (hru : ∀ y ∈ p.right, y.rule = true → 0 ≤ y.n ∧ y.n < S.length) (hok : OkS S) (hlen : p.right.length ≤ 4398046511104) :
    Calls Try.prog 47 #[.agg (gramCells a b c g), .slice (some ⟨q, 0, none⟩) g.rules.length g.rules.length, .int .i64 (pi : Int)] W fun r w' => r = .returned (.int .i64 (countP S p)) ∧ Below W.heap.size W w' := by
  have HG2 := hidden HG
  have HQ2 := hidden HQ
  have hE : Hid (countP S p = countF S 1 (p.right.drop 0)) := hidden rfl
  have hru2 := hidden hru
  obtain ⟨⟨A1, k1, rfl, v1, m1⟩, ⟨A2, k2, rfl, v2, m2⟩, ⟨A3, k3, rfl, v3, m3⟩⟩ := HG.vals
  unfold gramCells at *
  unfold maxLen at m1 m2 m3
  generalize countP S p = res at *
  have hpl := (List.getElem?_eq_some_iff.1 hp).1
  have hqp : (pi : Int) < (g.prods.length : Int) := by omega
  obtain ⟨bp, op, up, e7, _, hpat, hpin⟩ := Recs.at_ HG2.out.2.2 hp
  subst e7
  have p1 := hpat 1 _ rfl
  have hpin2 : Rd W (Old W) 4 up p.right.length (p.right.flatMap itCells) := hpin
  obtain ⟨Ar, cr, rfl, hcr1, hcr2⟩ := hpin2.val
  have HPI := hidden hpin2
  have p1' : W.cell? ⟨bp, op + pi * 2 + 1, none⟩ = some (.slice Ar p.right.length cr) := p1
  have HP1 := hidden p1'
  generalize hLL : p.right = L at *
  have hb1 : Below W.heap.size W (W.alloc (.cells #[.slice A1 g.toks.length k1, .slice A2 g.rules.length k2, .slice (some ⟨bp, op, none⟩) g.prods.length k3, .int .i64 g.start, .int .i64 g.states, .int .i64 g.text, .int .i64 g.nodes, .int .i64 g.pairs] 26)) := (Below.refl _ _).alloc (Nat.le_refl _) _
  have HB1 : Hid (Holds (W.alloc (.cells #[.slice A1 g.toks.length k1, .slice A2 g.rules.length k2, .slice (some ⟨bp, op, none⟩) g.prods.length k3, .int .i64 g.start, .int .i64 g.states, .int .i64 g.text, .int .i64 g.nodes, .int .i64 g.pairs] 26)) W.heap.size 26 #[.slice A1 g.toks.length k1, .slice A2 g.rules.length k2, .slice (some ⟨bp, op, none⟩) g.prods.length k3, .int .i64 g.start, .int .i64 g.states, .int .i64 g.text, .int .i64 g.nodes, .int .i64 g.pairs]) := hidden (Holds.new W _ _)
  clear HG HQ hpat hpin hpin2 p1 p1' hru hp hLL
  go_enter Try.func47, Try.ntmps47
  go_wp2
  generalize (W.alloc (.cells #[.slice A1 g.toks.length k1, .slice A2 g.rules.length k2, .slice (some ⟨bp, op, none⟩) g.prods.length k3, .int .i64 g.start, .int .i64 g.states, .int .i64 g.text, .int .i64 g.nodes, .int .i64 g.pairs] 26)) = w1 at *
  go_loopw [7, 8] (fun nv iv wr => ∃ (z : Int) (k : Nat), nv = .int .i64 z ∧ iv = .int .i64 k ∧ k ≤ L.length ∧ 1 ≤ z ∧ z ≤ 1099511627776 + k ∧ Hid (res = countF S z (L.drop k)) ∧ Hid (Below w1.heap.size w1 wr)) (fun nv iv wr => L.length - (intOf iv).toNat)
  case atStart => exact ⟨1, 0, by go_num, by go_num, Nat.zero_le _, by decide, by omega, hE, hidden (Below.refl _ _)⟩
  case round =>
    clear hE
    obtain ⟨z, k, rfl, rfl, hk, hz1, hz2, hE, HB⟩ := hrel
    have hbw := hb1.trans (HB.out.mono hb1.size)
    have x2 : wr.cell? ⟨W.heap.size, 2, none⟩ = some (.slice (some ⟨bp, op, none⟩) g.prods.length k3) := (HB1.out.below HB.out HB1.out.lt).cell 2
    have p2 := cellF HP1.out hbw
    by_cases hlt : k < L.length
    · have qk : (k : Int) < (L.length : Int) := by omega
      have hy := List.getElem?_eq_getElem hlt
      have hmem := hru2.out _ (List.getElem_mem hlt)
      have hdr : L.drop k = L[k] :: L.drop (k + 1) := (List.drop_eq_getElem_cons hlt)
      generalize L[k] = y at *
      obtain ⟨rl, yn, gp, ii⟩ := y
      obtain ⟨bi, oi, rfl, i0, i1, i2, i3⟩ := items_at HPI.out hy
      dsimp only at i0 i1 i2 i3 hmem
      replace i0 := cellF i0 hbw; replace i1 := cellF i1 hbw; replace i2 := cellF i2 hbw; replace i3 := cellF i3 hbw
      rw [hdr, countF] at hE
      have hbz := HB.out.size
      have HBn := hidden (HB.out.alloc hbz (.cells #[.bool rl, .int .i64 yn, .int .i64 gp, .int .i64 ii] 30))
      have hbwz := hbw.size
      have hxl : W.heap.size < wr.heap.size := by have := HB1.out.lt; omega
      clear hy hdr
      cases rl
      · have hE2 : Hid (res = countF S (z + 1) (L.drop (k + 1))) := hidden (by rw [hE.out, if_pos rfl])
        have hw9 : IntKind.i64.wrap (z + 1) = z + 1 := IntWalk.i64_in _ (by omega)
        clear hE HB
        go_wp2
        go_roundw
        case rel => exact ⟨z + 1, k + 1, by go_num, by go_num, by omega, by omega, by omega, hE2, HBn⟩
        case measure => simp [intOf]; omega
      · obtain ⟨h0, h1⟩ := hmem rfl
        obtain ⟨yk, rfl⟩ : ∃ yk : Nat, yn = (yk : Int) := ⟨yn.toNat, by omega⟩
        have hyk : yk < S.length := by omega
        have hs := List.getElem?_eq_getElem hyk
        have hsb := hok _ (List.getElem_mem hyk)
        generalize S[yk] = s at *
        have hsz : Hid (szI S (yk : Int) = s) := hidden (szI_at hs)
        have x1 : wr.cell? ⟨q, yk, none⟩ = some (.int .i64 s) := IntsAt.at_ (Holds.below HQ2.out hbw HQ2.out.lt) hs
        have hql := HQ2.out.lt
        have hqr : q < wr.heap.size := by omega
        have qy : (yk : Int) < (g.rules.length : Int) := by omega
        clear hs hmem h0 h1
        by_cases hs0 : s < 0
        · have q0 : decide (s < 0) = true := decide_eq_true hs0
          have he : Hid (res = -1) := hidden (by rw [hE.out, if_neg (by simp), hsz.out, if_pos hs0])
          clear hE hsz HB HBn
          go_wp2
          go_ret
          exact ⟨by rw [he.out]; rfl, hbw.alloc hbwz _⟩
        · have q0 : decide (s < 0) = false := decide_eq_false hs0
          have hE2 : Hid (res = countF S (min (z + s) 1099511627776) (L.drop (k + 1))) := hidden (by rw [hE.out, if_neg (by simp), hsz.out, if_neg hs0]; rfl)
          have hw9 : IntKind.i64.wrap (z + s) = z + s := IntWalk.i64_in _ (by omega)
          have hmin : (if 1099511627776 < z + s then 1099511627776 else z + s) = min (z + s) 1099511627776 := by
            split <;> omega
          have HMin := hidden hmin
          clear hE hsz HB hmin
          go_wp2
          go_roundw
          case rel => exact ⟨_, k + 1, rfl, by go_num, by omega, by split <;> omega, by split <;> omega, hidden (by rw [HMin.out]; exact hE2.out), HBn⟩
          case measure => simp [intOf]; omega
    · obtain rfl : k = L.length := by omega
      have qk : ¬ (L.length : Int) < (L.length : Int) := by omega
      have he : Hid (res = z) := hidden (by rw [hE.out, List.drop_length]; rfl)
      clear hE HB
      go_wp2
      go_ret
      exact ⟨by rw [he.out]; rfl, hbw⟩

def RowS (ps : List Prod) (n k : Nat) : List Int := iterS ps k (startS n)

set_option maxRecDepth 20000 in
set_option maxHeartbeats 16000000 in
theorem ref_sizes30 (a b c : Value) (g : Gram) (w : World) (HG : GramIs w (Old w) a b c g) (hsd : Sound g) (hsm : Small g) (hpr : ∀ p ∈ g.prods, p.right.length ≤ 4398046511104) :
    Calls Try.prog 31 #[.agg (gramCells a b c g)] w fun r w' => (∃ q : Nat, r = .returned (.slice (some ⟨q, 0, none⟩) g.rules.length g.rules.length) ∧ w.heap.size ≤ q ∧ Hid (IntsAt w' q (RowS g.prods g.rules.length (g.rules.length + 1)))) ∧ Below w.heap.size w w' := by
  have HSz := hidden (fun (S : List Int) (q pi : Nat) (p : Prod) (w' : World) (hb : Below w.heap.size w w') (HQ : IntsAt w' q S) (hS : S.length = g.rules.length) (hp : g.prods[pi]? = some p) (hok : OkS S) => ref_size30 a b c g S q pi p w' (HG.old hb) HQ hS hp (fun y hy h => by rw [hS]; exact hsd.rule p (List.mem_of_getElem? hp) y hy h) hok (hpr p (List.mem_of_getElem? hp)))
  have HG2 := hidden HG
  have hr := hsm.rules
  obtain ⟨⟨A1, k1, rfl, v1, m1⟩, ⟨A2, k2, rfl, v2, m2⟩, ⟨A3, k3, rfl, v3, m3⟩⟩ := HG.vals
  unfold gramCells at *
  unfold maxLen at m1 m2 m3
  have hmk : ∀ w, (Instr.makeSlice 57 (.int .i64 (g.rules.length : Int)) (.int .i64 (g.rules.length : Int))).run Try.prog w = .ok (.slice (some ⟨w.heap.size, 0, none⟩) g.rules.length g.rules.length) (w.alloc (.cells (icells (List.replicate g.rules.length 0)) 3)) := fun w => by
    rw [← made_ints]
    exact run_make_row' (P := Try.prog) 57 3 (.int .i64 0) 8 (by kernel_rfl) (by kernel_rfl) rfl .i64 .i64 g.rules.length (by omega) (by omega) w
  have hb1 : Below w.heap.size w (w.alloc (.cells #[.slice A1 g.toks.length k1, .slice A2 g.rules.length k2, .slice A3 g.prods.length k3, .int .i64 g.start, .int .i64 g.states, .int .i64 g.text, .int .i64 g.nodes, .int .i64 g.pairs] 26)) := (Below.refl _ _).alloc (Nat.le_refl _) _
  have HB1 : Hid (Holds (w.alloc (.cells #[.slice A1 g.toks.length k1, .slice A2 g.rules.length k2, .slice A3 g.prods.length k3, .int .i64 g.start, .int .i64 g.states, .int .i64 g.text, .int .i64 g.nodes, .int .i64 g.pairs] 26)) w.heap.size 26 #[.slice A1 g.toks.length k1, .slice A2 g.rules.length k2, .slice A3 g.prods.length k3, .int .i64 g.start, .int .i64 g.states, .int .i64 g.text, .int .i64 g.nodes, .int .i64 g.pairs]) := hidden (Holds.new w _ _)
  clear HG hsm
  go_enter Try.func31, Try.ntmps31
  go_upto_region 1 with fail
  generalize (w.alloc (.cells #[.slice A1 g.toks.length k1, .slice A2 g.rules.length k2, .slice A3 g.prods.length k3, .int .i64 g.start, .int .i64 g.states, .int .i64 g.text, .int .i64 g.nodes, .int .i64 g.pairs] 26)) = w1 at *
  have x1 : w1.cell? ⟨w.heap.size, 1, none⟩ = some (.slice A2 g.rules.length k2) := HB1.out.cell 1
  have HL0 : Hid (IntsAt (w1.alloc (.cells (icells (List.replicate g.rules.length 0)) 3)) w1.heap.size (halfS 0 g.rules.length)) := hidden (by rw [halfS_zero]; exact Holds.new _ _ _)
  have hb2 : Below w1.heap.size w1 (w1.alloc (.cells (icells (List.replicate g.rules.length 0)) 3)) := (Below.refl _ _).alloc (Nat.le_refl _) _
  go_wp2
  clear x1 hmk
  generalize hq : w1.heap.size = q at *
  have hqw : w.heap.size ≤ q := by rw [← hq]; exact hb1.size
  go_loopw [4] (fun iv wr => ∃ i : Nat, iv = .int .i64 i ∧ i ≤ g.rules.length ∧ Hid (IntsAt wr q (halfS i g.rules.length)) ∧ Hid (Below q w1 wr)) (fun iv wr => g.rules.length - (intOf iv).toNat)
  case atStart => exact ⟨0, by go_num, Nat.zero_le _, HL0, hidden hb2⟩
  case round =>
    clear HL0 hb2
    obtain ⟨i, rfl, hi, HL, HB⟩ := hrel
    by_cases hlt : i < g.rules.length
    · have qi : (i : Int) < (g.rules.length : Int) := by omega
      have hz := halfS_at hlt
      have z1 := IntsAt.at_ HL.out hz
      have f1 := HL.out.frozen i
      have l1 := HL.out.lt
      have HL2 := hidden (IntsAt.set HL.out i (-1))
      rw [halfS_succ hlt] at HL2
      have HB2 := hidden (Below.setCell HB.out (p := ⟨q, i, none⟩) (Nat.le_refl _) (.int .i64 (-1)))
      clear HL HB hz
      go_wp2
      go_roundw
      case rel => exact ⟨i + 1, by go_num, by omega, HL2, HB2⟩
      case measure => simp [intOf]; omega
    · obtain rfl : i = g.rules.length := by omega
      have qi : ¬ (g.rules.length : Int) < (g.rules.length : Int) := by omega
      rw [halfS_full] at HL
      have HL3 : Hid (IntsAt wr q (RowS g.prods g.rules.length 0)) := hidden HL.out
      clear HL
      go_wp2
      go_loopw [5] (fun iv wr => ∃ k : Nat, iv = .int .i64 k ∧ k ≤ g.rules.length + 1 ∧ Hid (IntsAt wr q (RowS g.prods g.rules.length k)) ∧ Hid (Below q w1 wr)) (fun iv wr => g.rules.length + 1 - (intOf iv).toNat)
      case atStart => exact ⟨0, by go_num, by omega, HL3, HB⟩
      case round =>
        clear HL3 HB
        obtain ⟨k, rfl, hk, HL, HB⟩ := hrel
        have x1 : wr.cell? ⟨w.heap.size, 1, none⟩ = some (.slice A2 g.rules.length k2) := (HB1.out.below (hq ▸ HB.out) HB1.out.lt).cell 1
        have x2 : wr.cell? ⟨w.heap.size, 2, none⟩ = some (.slice A3 g.prods.length k3) := (HB1.out.below (hq ▸ HB.out) HB1.out.lt).cell 2
        by_cases hkl : k ≤ g.rules.length
        · have qk : (k : Int) ≤ (g.rules.length : Int) := by omega
          have hPl : (RowS g.prods g.rules.length k).length = g.rules.length := reachS_len ⟨k, rfl⟩
          have hPo : OkS (RowS g.prods g.rules.length k) := iter_ok hpr k _ (start_ok _)
          have HPn : Hid (passS g.prods (RowS g.prods g.rules.length k) = RowS g.prods g.rules.length (k + 1)) := hidden (iter_succ _ _ _).symm
          have HOk := hidden hPo
          generalize RowS g.prods g.rules.length k = S at *
          clear hPo
          go_wp2
          clear x1 x2
          generalize wr = wo at *
          go_loopw [6] (fun iv wr => ∃ j : Nat, iv = .int .i64 j ∧ j ≤ g.prods.length ∧ Hid (IntsAt wr q (passK' g.prods S j)) ∧ Hid (OkS (passK' g.prods S j)) ∧ Hid (Below q w1 wr)) (fun iv wr => g.prods.length - (intOf iv).toNat)
          case atStart => exact ⟨0, by go_num, Nat.zero_le _, hidden (by unfold passK'; rw [List.take_zero]; exact HL.out), hidden (by unfold passK'; rw [List.take_zero]; exact HOk.out), HB⟩
          case round =>
            clear HL HB
            obtain ⟨j, rfl, hj, HL, HO, HB⟩ := hrel
            have x2 : wr.cell? ⟨w.heap.size, 2, none⟩ = some (.slice A3 g.prods.length k3) := (HB1.out.below (hq ▸ HB.out) HB1.out.lt).cell 2
            by_cases hjl : j < g.prods.length
            · have hpx := List.getElem?_eq_getElem hjl
              have hpm := List.getElem_mem hjl
              have hlft := hsd.left _ hpm
              have hpz := hpr _ hpm
              generalize g.prods[j] = p at *
              obtain ⟨lf, hlf⟩ : ∃ lf : Nat, p.left = (lf : Int) := ⟨p.left.toNat, by omega⟩
              have hlfl : lf < g.rules.length := by omega
              have hml : (passK' g.prods S j).length = g.rules.length := passK'_len.trans hPl
              have hps := hidden (passK'_succ (S := S) hpx)
              have hst : Hid (stepS (passK' g.prods S j) p = if betterB (passK' g.prods S j) p = true then (passK' g.prods S j).set lf (countP (passK' g.prods S j) p) else passK' g.prods S j) := hidden (by unfold stepS; rw [hlf, Int.toNat_natCast])
              have hso := hidden (step_ok (p := p) hpz HO.out)
              have hbw := hb1.trans (HB.out.mono hqw)
              obtain ⟨bp, op, up, e7, _, hpat, _⟩ := Recs.at_ HG2.out.2.2 hpx
              subst e7
              have p0 := hpat 0 _ rfl
              have p0' : w.cell? ⟨bp, op + j * 2, none⟩ = some (.int .i64 p.left) := by have := p0; rwa [Nat.add_zero] at this
              replace p0' := cellF p0' hbw
              rw [hlf] at p0'
              have HX := hidden (HSz.out (passK' g.prods S j) q j p wr hbw HL.out hml hpx HO.out)
              obtain ⟨x0, x1, x2, x3, x4, x5, x6, x7⟩ := eightR (HB1.out.below (hq ▸ HB.out) HB1.out.lt)
              have hss := List.getElem?_eq_getElem (show lf < (passK' g.prods S j).length by omega)
              have hbe := hidden (@better_iff (passK' g.prods S j) p)
              have hszI := szI_at hss
              generalize (passK' g.prods S j)[lf] = s at *
              rw [← hlf] at hszI
              have hBB : Hid (betterB (passK' g.prods S j) p = (decide (0 ≤ countP (passK' g.prods S j) p) && (decide (s < 0) || decide (countP (passK' g.prods S j) p < s)))) := hidden (by unfold betterB; rw [hszI])
              generalize hM1 : passK' g.prods S (j + 1) = M1 at *
              have HM1 := hidden hM1
              clear hM1
              generalize passK' g.prods S j = M at *
              have qlf : (lf : Int) < (g.rules.length : Int) := by omega
              have qj : (j : Int) < (g.prods.length : Int) := by omega
              have hbwz := HB.out.size
              clear hpat p0 hpm hlft hpz hszI hbe HO
              go_wp2_with fail
              refine HX.out.mono ?_
              rintro e w5 ⟨rfl, hb5⟩
              replace HL := hidden (Holds.below HL.out hb5 HL.out.lt)
              replace HB := hidden (HB.out.trans (hb5.mono (by rw [← hq]; exact hbwz)))
              replace p0' := cellF p0' hb5
              clear HX hb5 x0 x1 x2 x3 x4 x5 x6 x7 hbw hbwz
              have x2 : w5.cell? ⟨w.heap.size, 2, none⟩ = some (.slice (some ⟨bp, op, none⟩) g.prods.length k3) := (HB1.out.below (hq ▸ HB.out) HB1.out.lt).cell 2
              have z2 : w5.cell? ⟨q, lf, none⟩ = some (.int .i64 s) := IntsAt.at_ HL.out hss
              generalize countP M p = cn at *
              by_cases hcn : 0 ≤ cn
              · have qc : decide (0 ≤ cn) = true := decide_eq_true hcn
                by_cases hs0 : s < 0
                · have qs0 : decide (s < 0) = true := decide_eq_true hs0
                  have hbt : betterB M p = true := by rw [hBB.out, qc, qs0]; rfl
                  have e1 : M1 = M.set lf cn := by rw [hps.out, hst.out, if_pos hbt]
                  have HL2 := hidden (IntsAt.set HL.out lf cn)
                  rw [← e1] at HL2
                  have HO2 : Hid (OkS M1) := hidden (by rw [hps.out]; exact hso.out)
                  have HB2 := hidden (Below.setCell HB.out (p := ⟨q, lf, none⟩) (Nat.le_refl _) (.int .i64 cn))
                  have f2 := HL.out.frozen lf
                  have l2 := HL.out.lt
                  clear HL HB hbt hBB hps hst hso e1 hss hpx hlf
                  go_wp2
                  go_roundw
                  case rel => exact ⟨j + 1, by go_num, by omega, hidden (by rw [HM1.out]; exact HL2.out), hidden (by rw [HM1.out]; exact HO2.out), HB2⟩
                  case measure => simp [intOf]; omega
                · have qs0 : decide (s < 0) = false := decide_eq_false hs0
                  by_cases hcs : cn < s
                  · have qcs : decide (cn < s) = true := decide_eq_true hcs
                    have hbt : betterB M p = true := by rw [hBB.out, qc, qcs]; simp
                    have e1 : M1 = M.set lf cn := by rw [hps.out, hst.out, if_pos hbt]
                    have HL2 := hidden (IntsAt.set HL.out lf cn)
                    rw [← e1] at HL2
                    have HO2 : Hid (OkS M1) := hidden (by rw [hps.out]; exact hso.out)
                    have HB2 := hidden (Below.setCell HB.out (p := ⟨q, lf, none⟩) (Nat.le_refl _) (.int .i64 cn))
                    have f2 := HL.out.frozen lf
                    have l2 := HL.out.lt
                    clear HL HB hbt hBB hps hst hso e1 hss hpx hlf
                    go_wp2
                    go_roundw
                    case rel => exact ⟨j + 1, by go_num, by omega, hidden (by rw [HM1.out]; exact HL2.out), hidden (by rw [HM1.out]; exact HO2.out), HB2⟩
                    case measure => simp [intOf]; omega
                  · have qcs : decide (cn < s) = false := decide_eq_false hcs
                    have hbt : betterB M p = false := by rw [hBB.out, qc, qcs, qs0]; rfl
                    have e1 : M1 = M := by rw [hps.out, hst.out, if_neg (by rw [hbt]; decide)]
                    have HL2 := HL
                    rw [← e1] at HL2
                    have HO2 : Hid (OkS M1) := hidden (by rw [hps.out]; exact hso.out)
                    clear HL hbt hBB hps hst hso e1 hss hpx hlf
                    go_wp2
                    go_roundw
                    case rel => exact ⟨j + 1, by go_num, by omega, hidden (by rw [HM1.out]; exact HL2.out), hidden (by rw [HM1.out]; exact HO2.out), HB⟩
                    case measure => simp [intOf]; omega
              · have qc : decide (0 ≤ cn) = false := decide_eq_false hcn
                have hbt : betterB M p = false := by rw [hBB.out, qc]; rfl
                have e1 : M1 = M := by rw [hps.out, hst.out, if_neg (by rw [hbt]; decide)]
                have HL2 := HL
                rw [← e1] at HL2
                have HO2 : Hid (OkS M1) := hidden (by rw [hps.out]; exact hso.out)
                clear HL hbt hBB hps hst hso e1 hss hpx hlf
                go_wp2
                go_roundw
                case rel => exact ⟨j + 1, by go_num, by omega, hidden (by rw [HM1.out]; exact HL2.out), hidden (by rw [HM1.out]; exact HO2.out), HB⟩
                case measure => simp [intOf]; omega
            · obtain rfl : j = g.prods.length := by omega
              have qj : ¬ (g.prods.length : Int) < (g.prods.length : Int) := by omega
              rw [passK'_all, HPn.out] at HL
              clear HO HPn
              go_wp2
              go_roundw
              case rel => exact ⟨k + 1, by go_num, by omega, HL, HB⟩
              case measure => simp [intOf]; omega
        · obtain rfl : k = g.rules.length + 1 := by omega
          have qk : ¬ (((g.rules.length + 1 : Nat) : Int) ≤ (g.rules.length : Int)) := by omega
          have hbf := hb1.trans (HB.out.mono hqw)
          clear HB
          go_wp2
          go_ret
          exact ⟨⟨q, rfl, hqw, HL⟩, hbf⟩
end Go.Proofs.Ytmmhkjdnejeooaa.T
