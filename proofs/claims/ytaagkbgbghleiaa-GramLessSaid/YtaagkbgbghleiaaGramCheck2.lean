/-
  gram.Check, Right.
-/
import Derived.Test.YtaagkbgbghleiaaGramWhole
import Derived.Laws.EntriesVeiled
namespace Go.Proofs.Ytaagkbgbghleiaa
open Go.RowKit Go.Shelf

theorem gram_at {w wr : World} {a b c : Value} {g : Gram} {p : Nat} (h : GramIs w (Old w) a b c g) (hb : Below w.heap.size w wr) (hp : w.heap.size ≤ p) : GramIs wr (fun k => k < p) a b c g :=
  have h' := h.below hb (fun _ h => h)
  ⟨h'.1.mono (fun _ hk => Nat.lt_of_lt_of_le hk hp), Rd.mono h'.2.1 (fun _ hk => Nat.lt_of_lt_of_le hk hp), h'.2.2.mono (fun _ hk => Nat.lt_of_lt_of_le hk hp)⟩
/-- The parts of what is wrong with a grammar, one behind the other. -/
noncomputable def stageD (g : Gram) : Nat → Defect
  | 0 => sizesOf g
  | 1 => firstD (tokD g) 0 g.toks.length
  | 2 => firstD (ruleD g) 0 g.rules.length
  | 3 => firstD (prodD g) 0 g.prods.length
  | _ => wholeD g
theorem stage_zero (g : Gram) (k : Nat) (h : (stageD g k).kind = 0) : stageD g k = D0 := by
  match k with
  | 0 => exact sizes_clean g h
  | 1 => exact firstD_clean _ _ h
  | 2 => exact firstD_clean _ _ h
  | 3 => exact firstD_clean _ _ h
  | _ + 4 => exact whole_clean g h
theorem check_stage {g : Gram} {k : Nat} (hk : k < 5) (h : (stageD g k).kind ≠ 0) (hn : ∀ j, j < k → (stageD g j).kind = 0) : checkOf g = stageD g k := by
  show orD (stageD g 0) (orD (stageD g 1) (orD (stageD g 2) (orD (stageD g 3) (stageD g 4)))) = _
  match k, hk with
  | 0, _ => exact orD_some h
  | 1, _ => rw [orD_zero (hn 0 (by omega))]; exact orD_some h
  | 2, _ => rw [orD_zero (hn 0 (by omega)), orD_zero (hn 1 (by omega))]; exact orD_some h
  | 3, _ => rw [orD_zero (hn 0 (by omega)), orD_zero (hn 1 (by omega)), orD_zero (hn 2 (by omega))]; exact orD_some h
  | 4, _ => rw [orD_zero (hn 0 (by omega)), orD_zero (hn 1 (by omega)), orD_zero (hn 2 (by omega)), orD_zero (hn 3 (by omega))]
theorem check_none {g : Gram} (hn : ∀ j, j < 5 → (stageD g j).kind = 0) : checkOf g = D0 := by
  show orD (stageD g 0) (orD (stageD g 1) (orD (stageD g 2) (orD (stageD g 3) (stageD g 4)))) = _
  rw [orD_zero (hn 0 (by omega)), orD_zero (hn 1 (by omega)), orD_zero (hn 2 (by omega)), orD_zero (hn 3 (by omega))]
  exact stage_zero g 4 (hn 4 (by omega))

set_option maxRecDepth 20000 in
set_option maxHeartbeats 8000000 in
theorem gram_Check (a b c : Value) (g : Gram) (w : World) (HG : GramIs w (Old w) a b c g) (s1 : g.toks.length ≤ 100000) (s2 : g.rules.length ≤ 100000) (s3 : g.prods.length ≤ 100000) (hz : Named g) :
    Calls Try.prog 32 #[.agg (gramCells a b c g)] w fun r w' => r = .returned (defC (checkOf g)) ∧ Below w.heap.size w w' := by
  obtain ⟨⟨A1, k1, rfl, v1, m1⟩, ⟨A2, k2, rfl, v2, m2⟩, ⟨A3, k3, rfl, v3, m3⟩⟩ := HG.vals
  obtain ⟨dd, hdd⟩ : ∃ dd, dd = checkOf g := ⟨_, rfl⟩
  rw [← hdd]
  have HC := hidden hdd
  clear hdd
  have HG0 := hidden HG
  have HCS := hidden (fun k (h1 : k < 5) h2 h3 => HC.out.trans (check_stage (g := g) h1 h2 h3))
  have HCN := hidden (fun h => HC.out.trans (check_none (g := g) h))
  have HM0 := hidden (fun p (w' : World) (h : Chk p (.slice A1 g.toks.length k1) (.slice A2 g.rules.length k2) (.slice A3 g.prods.length k3) g D0 w') => gram_sizes p _ _ _ g w' h s1 s2 s3)
  have HM1 := hidden (fun p (w' : World) (h : Chk p (.slice A1 g.toks.length k1) (.slice A2 g.rules.length k2) (.slice A3 g.prods.length k3) g D0 w') => gram_tokens p _ _ _ g w' h s1 hz)
  have HM2 := hidden (fun p (w' : World) (h : Chk p (.slice A1 g.toks.length k1) (.slice A2 g.rules.length k2) (.slice A3 g.prods.length k3) g D0 w') => gram_rules p _ _ _ g w' h s1 s2 hz)
  have HM3 := hidden (fun p (w' : World) (h : Chk p (.slice A1 g.toks.length k1) (.slice A2 g.rules.length k2) (.slice A3 g.prods.length k3) g D0 w') => gram_prods p _ _ _ g w' h )
  have HM4 := hidden (fun p (w' : World) (h : Chk p (.slice A1 g.toks.length k1) (.slice A2 g.rules.length k2) (.slice A3 g.prods.length k3) g D0 w') => gram_whole p _ _ _ g w' h s3)
  have hb := Below.refl w.heap.size w
  clear HG HC
  unfold gramCells at *
  go_enter Try.func32, Try.ntmps32
  go_wp2
  go_loopg [26] 5 (fun gh ii wr => ∃ k : Nat, k ≤ 5 ∧ gh = 5 - k ∧ ii = .int .i64 k ∧ Hid (∀ j, j < k → (stageD g j).kind = 0) ∧ Hid (Below w.heap.size w wr) ∧ Hid (Chk (w.heap.size + 1 + 1) (.slice A1 g.toks.length k1) (.slice A2 g.rules.length k2) (.slice A3 g.prods.length k3) g D0 wr)
    ∧ Hid (Holds wr (w.heap.size + 1) 40 #[.int .i64 0, .int .i64 0, .int .i64 0]) ∧ Hid (Holds wr (w.heap.size + 1 + 1 + 1) 85 #[.func (.func 67) #[.pointer (some ⟨w.heap.size + 1 + 1, 0, none⟩)] #[], .func (.func 68) #[.pointer (some ⟨w.heap.size + 1 + 1, 0, none⟩)] #[], .func (.func 69) #[.pointer (some ⟨w.heap.size + 1 + 1, 0, none⟩)] #[], .func (.func 70) #[.pointer (some ⟨w.heap.size + 1 + 1, 0, none⟩)] #[], .func (.func 71) #[.pointer (some ⟨w.heap.size + 1 + 1, 0, none⟩)] #[]]))
  case atStart => exact ⟨0, by omega, rfl, rfl, hidden (fun j h => by omega), hidden (by repeat (first | (with_reducible exact Below.refl _ _) | (with_reducible assumption) | (with_reducible refine Below.drew ?_) | (with_reducible refine below_drewN ?_ _) | ((with_reducible refine below_alloc ?_ ?_); (focus (first | omega | (simp; done) | (simp; omega)))) | ((with_reducible refine below_set ?_ ?_); (focus (first | omega | (simp; done) | (simp; omega)))))), hidden ⟨show Holds _ _ 83 #[.slice A1 g.toks.length k1, .slice A2 g.rules.length k2, .slice A3 g.prods.length k3, .int .i64 g.start, .int .i64 g.states, .int .i64 g.text, .int .i64 g.nodes, .int .i64 g.pairs, .int .i64 0, .int .i64 0, .int .i64 0] from (by repeat (first | (with_reducible assumption) | ((with_reducible refine holds_new ?_); (focus (first | rfl | (simp; done)))) | (with_reducible refine Holds.alloc ?_ _) | (with_reducible refine Holds.drew ?_))), gram_at HG0.out (by repeat (first | (with_reducible exact Below.refl _ _) | (with_reducible assumption) | (with_reducible refine Below.drew ?_) | (with_reducible refine below_drewN ?_ _) | ((with_reducible refine below_alloc ?_ ?_); (focus (first | omega | (simp; done) | (simp; omega)))) | ((with_reducible refine below_set ?_ ?_); (focus (first | omega | (simp; done) | (simp; omega)))))) (by omega)⟩, hidden (by repeat (first | (with_reducible assumption) | ((with_reducible refine holds_new ?_); (focus (first | rfl | (simp; done)))) | (with_reducible refine Holds.alloc ?_ _) | (with_reducible refine Holds.drew ?_))), hidden (by repeat (first | (with_reducible assumption) | ((with_reducible refine holds_new ?_); (focus (first | rfl | (simp; done)))) | (with_reducible refine Holds.alloc ?_ _) | (with_reducible refine Holds.drew ?_)))⟩
  case round =>
    clear hb HG0
    obtain ⟨k, hk, rfl, rfl, HN, HB, HK, HR, HL⟩ := hrel
    have hl3 := HL.out.lt
    obtain rfl | rfl | rfl | rfl | rfl | rfl : k = 0 ∨ k = 1 ∨ k = 2 ∨ k = 3 ∨ k = 4 ∨ k = 5 := by omega
    · have y0 : wr.cell? ⟨w.heap.size + 1 + 1 + 1, 0, none⟩ = some (.func (.func 67) #[.pointer (some ⟨w.heap.size + 1 + 1, 0, none⟩)] #[]) := HL.out.cell 0
      have HKa := hidden (HK.out.alloc (.cells #[.func (.func 67) #[.pointer (some ⟨w.heap.size + 1 + 1, 0, none⟩)] #[]] 85))
      have HRa := hidden (HR.out.alloc (.cells #[.func (.func 67) #[.pointer (some ⟨w.heap.size + 1 + 1, 0, none⟩)] #[]] 85))
      have HLa := hidden (HL.out.alloc (.cells #[.func (.func 67) #[.pointer (some ⟨w.heap.size + 1 + 1, 0, none⟩)] #[]] 85))
      have HBa := hidden (HB.out.alloc (Nat.le_trans (by omega) (Nat.le_of_lt hl3)) (.cells #[.func (.func 67) #[.pointer (some ⟨w.heap.size + 1 + 1, 0, none⟩)] #[]] 85))
      have HMk := hidden (HM0.out _ _ HKa.out)
      have HSk : Hid (stageD g 0 = sizesOf g) := hidden rfl
      rw [← HSk.out] at HMk
      have HCk := hidden (fun h2 => HCS.out 0 (by omega) h2 HN.out)
      have HNx : Hid ((stageD g 0).kind = 0 → ∀ j, j < 1 → (stageD g j).kind = 0) := hidden (fun h j hj => by
        by_cases e : j = 0
        · subst e; exact h
        · exact HN.out j (by omega))
      have HSz := hidden (stage_zero g 0)
      generalize stageD g 0 = sd at *
      clear HB HK HR HL
      go_wp2_with fail
      refine HMk.out.mono ?_
      rintro r w5 ⟨rfl, hC5, hB5⟩
      have HB5 := hidden (HBa.out.trans (hB5.below (by omega) (by simp; omega)))
      have HR5 := hidden (HRa.out.but hB5 (by omega))
      have HL5 := hidden (HLa.out.but hB5 (by omega))
      have HK5 := hidden hC5
      have hl5 := HL5.out.lt
      clear hC5 hB5 HMk HKa HRa HLa HBa y0
      by_cases he : sd.kind = 0
      · have q : decide (sd.kind ≠ 0) = false := by simp [he]
        rw [q]
        have HN2 := hidden (HNx.out he)
        obtain rfl := HSz.out he
        clear he HNx HSz HCk HSk q HN
        go_wp2
        go_roundg (5 - 1)
        case measure => omega
        case rel => exact ⟨1, by omega, rfl, rfl, HN2, HB5, HK5, HR5, HL5⟩
      · have q : decide (sd.kind ≠ 0) = true := by simp [he]
        rw [q]
        have HE : Hid (dd = ⟨sd.kind, sd.at_, sd.more⟩) := hidden (HCk.out he)
        obtain ⟨z0, z1, z2, z3, z4, z5⟩ := HK5.out.found
        obtain ⟨o0, o1, o2, f0, f1, f2⟩ := HR5.out.three
        have hbw := HB5.out
        clear he HNx HSz HCk HSk q HN HB5 HL5 HK5 HR5
        go_wp2
        exact bodyPost_ret (v := defC ⟨sd.kind, sd.at_, sd.more⟩) (by simp [results, Try.results32, go_sem, defC, o0, o1, o2]) rfl ⟨by first | rfl | rw [HE.out], (by repeat (first | (with_reducible exact Below.refl _ _) | (with_reducible assumption) | (with_reducible refine Below.drew ?_) | (with_reducible refine below_drewN ?_ _) | ((with_reducible refine below_alloc ?_ ?_); (focus (first | omega | (simp; done) | (simp; omega)))) | ((with_reducible refine below_set ?_ ?_); (focus (first | omega | (simp; done) | (simp; omega))))))⟩
    · have y0 : wr.cell? ⟨w.heap.size + 1 + 1 + 1, 1, none⟩ = some (.func (.func 68) #[.pointer (some ⟨w.heap.size + 1 + 1, 0, none⟩)] #[]) := HL.out.cell 1
      have HKa := hidden (HK.out.alloc (.cells #[.func (.func 68) #[.pointer (some ⟨w.heap.size + 1 + 1, 0, none⟩)] #[]] 85))
      have HRa := hidden (HR.out.alloc (.cells #[.func (.func 68) #[.pointer (some ⟨w.heap.size + 1 + 1, 0, none⟩)] #[]] 85))
      have HLa := hidden (HL.out.alloc (.cells #[.func (.func 68) #[.pointer (some ⟨w.heap.size + 1 + 1, 0, none⟩)] #[]] 85))
      have HBa := hidden (HB.out.alloc (Nat.le_trans (by omega) (Nat.le_of_lt hl3)) (.cells #[.func (.func 68) #[.pointer (some ⟨w.heap.size + 1 + 1, 0, none⟩)] #[]] 85))
      have HMk := hidden (HM1.out _ _ HKa.out)
      have HSk : Hid (stageD g 1 = firstD (tokD g) 0 g.toks.length) := hidden rfl
      rw [← HSk.out] at HMk
      have HCk := hidden (fun h2 => HCS.out 1 (by omega) h2 HN.out)
      have HNx : Hid ((stageD g 1).kind = 0 → ∀ j, j < 2 → (stageD g j).kind = 0) := hidden (fun h j hj => by
        by_cases e : j = 1
        · subst e; exact h
        · exact HN.out j (by omega))
      have HSz := hidden (stage_zero g 1)
      generalize stageD g 1 = sd at *
      clear HB HK HR HL
      go_wp2_with fail
      refine HMk.out.mono ?_
      rintro r w5 ⟨rfl, hC5, hB5⟩
      have HB5 := hidden (HBa.out.trans (hB5.below (by omega) (by simp; omega)))
      have HR5 := hidden (HRa.out.but hB5 (by omega))
      have HL5 := hidden (HLa.out.but hB5 (by omega))
      have HK5 := hidden hC5
      have hl5 := HL5.out.lt
      clear hC5 hB5 HMk HKa HRa HLa HBa y0
      by_cases he : sd.kind = 0
      · have q : decide (sd.kind ≠ 0) = false := by simp [he]
        rw [q]
        have HN2 := hidden (HNx.out he)
        obtain rfl := HSz.out he
        clear he HNx HSz HCk HSk q HN
        go_wp2
        go_roundg (5 - 2)
        case measure => omega
        case rel => exact ⟨2, by omega, rfl, rfl, HN2, HB5, HK5, HR5, HL5⟩
      · have q : decide (sd.kind ≠ 0) = true := by simp [he]
        rw [q]
        have HE : Hid (dd = ⟨sd.kind, sd.at_, sd.more⟩) := hidden (HCk.out he)
        obtain ⟨z0, z1, z2, z3, z4, z5⟩ := HK5.out.found
        obtain ⟨o0, o1, o2, f0, f1, f2⟩ := HR5.out.three
        have hbw := HB5.out
        clear he HNx HSz HCk HSk q HN HB5 HL5 HK5 HR5
        go_wp2
        exact bodyPost_ret (v := defC ⟨sd.kind, sd.at_, sd.more⟩) (by simp [results, Try.results32, go_sem, defC, o0, o1, o2]) rfl ⟨by first | rfl | rw [HE.out], (by repeat (first | (with_reducible exact Below.refl _ _) | (with_reducible assumption) | (with_reducible refine Below.drew ?_) | (with_reducible refine below_drewN ?_ _) | ((with_reducible refine below_alloc ?_ ?_); (focus (first | omega | (simp; done) | (simp; omega)))) | ((with_reducible refine below_set ?_ ?_); (focus (first | omega | (simp; done) | (simp; omega))))))⟩
    · have y0 : wr.cell? ⟨w.heap.size + 1 + 1 + 1, 2, none⟩ = some (.func (.func 69) #[.pointer (some ⟨w.heap.size + 1 + 1, 0, none⟩)] #[]) := HL.out.cell 2
      have HKa := hidden (HK.out.alloc (.cells #[.func (.func 69) #[.pointer (some ⟨w.heap.size + 1 + 1, 0, none⟩)] #[]] 85))
      have HRa := hidden (HR.out.alloc (.cells #[.func (.func 69) #[.pointer (some ⟨w.heap.size + 1 + 1, 0, none⟩)] #[]] 85))
      have HLa := hidden (HL.out.alloc (.cells #[.func (.func 69) #[.pointer (some ⟨w.heap.size + 1 + 1, 0, none⟩)] #[]] 85))
      have HBa := hidden (HB.out.alloc (Nat.le_trans (by omega) (Nat.le_of_lt hl3)) (.cells #[.func (.func 69) #[.pointer (some ⟨w.heap.size + 1 + 1, 0, none⟩)] #[]] 85))
      have HMk := hidden (HM2.out _ _ HKa.out)
      have HSk : Hid (stageD g 2 = firstD (ruleD g) 0 g.rules.length) := hidden rfl
      rw [← HSk.out] at HMk
      have HCk := hidden (fun h2 => HCS.out 2 (by omega) h2 HN.out)
      have HNx : Hid ((stageD g 2).kind = 0 → ∀ j, j < 3 → (stageD g j).kind = 0) := hidden (fun h j hj => by
        by_cases e : j = 2
        · subst e; exact h
        · exact HN.out j (by omega))
      have HSz := hidden (stage_zero g 2)
      generalize stageD g 2 = sd at *
      clear HB HK HR HL
      go_wp2_with fail
      refine HMk.out.mono ?_
      rintro r w5 ⟨rfl, hC5, hB5⟩
      have HB5 := hidden (HBa.out.trans (hB5.below (by omega) (by simp; omega)))
      have HR5 := hidden (HRa.out.but hB5 (by omega))
      have HL5 := hidden (HLa.out.but hB5 (by omega))
      have HK5 := hidden hC5
      have hl5 := HL5.out.lt
      clear hC5 hB5 HMk HKa HRa HLa HBa y0
      by_cases he : sd.kind = 0
      · have q : decide (sd.kind ≠ 0) = false := by simp [he]
        rw [q]
        have HN2 := hidden (HNx.out he)
        obtain rfl := HSz.out he
        clear he HNx HSz HCk HSk q HN
        go_wp2
        go_roundg (5 - 3)
        case measure => omega
        case rel => exact ⟨3, by omega, rfl, rfl, HN2, HB5, HK5, HR5, HL5⟩
      · have q : decide (sd.kind ≠ 0) = true := by simp [he]
        rw [q]
        have HE : Hid (dd = ⟨sd.kind, sd.at_, sd.more⟩) := hidden (HCk.out he)
        obtain ⟨z0, z1, z2, z3, z4, z5⟩ := HK5.out.found
        obtain ⟨o0, o1, o2, f0, f1, f2⟩ := HR5.out.three
        have hbw := HB5.out
        clear he HNx HSz HCk HSk q HN HB5 HL5 HK5 HR5
        go_wp2
        exact bodyPost_ret (v := defC ⟨sd.kind, sd.at_, sd.more⟩) (by simp [results, Try.results32, go_sem, defC, o0, o1, o2]) rfl ⟨by first | rfl | rw [HE.out], (by repeat (first | (with_reducible exact Below.refl _ _) | (with_reducible assumption) | (with_reducible refine Below.drew ?_) | (with_reducible refine below_drewN ?_ _) | ((with_reducible refine below_alloc ?_ ?_); (focus (first | omega | (simp; done) | (simp; omega)))) | ((with_reducible refine below_set ?_ ?_); (focus (first | omega | (simp; done) | (simp; omega))))))⟩
    · have y0 : wr.cell? ⟨w.heap.size + 1 + 1 + 1, 3, none⟩ = some (.func (.func 70) #[.pointer (some ⟨w.heap.size + 1 + 1, 0, none⟩)] #[]) := HL.out.cell 3
      have HKa := hidden (HK.out.alloc (.cells #[.func (.func 70) #[.pointer (some ⟨w.heap.size + 1 + 1, 0, none⟩)] #[]] 85))
      have HRa := hidden (HR.out.alloc (.cells #[.func (.func 70) #[.pointer (some ⟨w.heap.size + 1 + 1, 0, none⟩)] #[]] 85))
      have HLa := hidden (HL.out.alloc (.cells #[.func (.func 70) #[.pointer (some ⟨w.heap.size + 1 + 1, 0, none⟩)] #[]] 85))
      have HBa := hidden (HB.out.alloc (Nat.le_trans (by omega) (Nat.le_of_lt hl3)) (.cells #[.func (.func 70) #[.pointer (some ⟨w.heap.size + 1 + 1, 0, none⟩)] #[]] 85))
      have HMk := hidden (HM3.out _ _ HKa.out)
      have HSk : Hid (stageD g 3 = firstD (prodD g) 0 g.prods.length) := hidden rfl
      rw [← HSk.out] at HMk
      have HCk := hidden (fun h2 => HCS.out 3 (by omega) h2 HN.out)
      have HNx : Hid ((stageD g 3).kind = 0 → ∀ j, j < 4 → (stageD g j).kind = 0) := hidden (fun h j hj => by
        by_cases e : j = 3
        · subst e; exact h
        · exact HN.out j (by omega))
      have HSz := hidden (stage_zero g 3)
      generalize stageD g 3 = sd at *
      clear HB HK HR HL
      go_wp2_with fail
      refine HMk.out.mono ?_
      rintro r w5 ⟨rfl, hC5, hB5⟩
      have HB5 := hidden (HBa.out.trans (hB5.below (by omega) (by simp; omega)))
      have HR5 := hidden (HRa.out.but hB5 (by omega))
      have HL5 := hidden (HLa.out.but hB5 (by omega))
      have HK5 := hidden hC5
      have hl5 := HL5.out.lt
      clear hC5 hB5 HMk HKa HRa HLa HBa y0
      by_cases he : sd.kind = 0
      · have q : decide (sd.kind ≠ 0) = false := by simp [he]
        rw [q]
        have HN2 := hidden (HNx.out he)
        obtain rfl := HSz.out he
        clear he HNx HSz HCk HSk q HN
        go_wp2
        go_roundg (5 - 4)
        case measure => omega
        case rel => exact ⟨4, by omega, rfl, rfl, HN2, HB5, HK5, HR5, HL5⟩
      · have q : decide (sd.kind ≠ 0) = true := by simp [he]
        rw [q]
        have HE : Hid (dd = ⟨sd.kind, sd.at_, sd.more⟩) := hidden (HCk.out he)
        obtain ⟨z0, z1, z2, z3, z4, z5⟩ := HK5.out.found
        obtain ⟨o0, o1, o2, f0, f1, f2⟩ := HR5.out.three
        have hbw := HB5.out
        clear he HNx HSz HCk HSk q HN HB5 HL5 HK5 HR5
        go_wp2
        exact bodyPost_ret (v := defC ⟨sd.kind, sd.at_, sd.more⟩) (by simp [results, Try.results32, go_sem, defC, o0, o1, o2]) rfl ⟨by first | rfl | rw [HE.out], (by repeat (first | (with_reducible exact Below.refl _ _) | (with_reducible assumption) | (with_reducible refine Below.drew ?_) | (with_reducible refine below_drewN ?_ _) | ((with_reducible refine below_alloc ?_ ?_); (focus (first | omega | (simp; done) | (simp; omega)))) | ((with_reducible refine below_set ?_ ?_); (focus (first | omega | (simp; done) | (simp; omega))))))⟩
    · have y0 : wr.cell? ⟨w.heap.size + 1 + 1 + 1, 4, none⟩ = some (.func (.func 71) #[.pointer (some ⟨w.heap.size + 1 + 1, 0, none⟩)] #[]) := HL.out.cell 4
      have HKa := hidden (HK.out.alloc (.cells #[.func (.func 71) #[.pointer (some ⟨w.heap.size + 1 + 1, 0, none⟩)] #[]] 85))
      have HRa := hidden (HR.out.alloc (.cells #[.func (.func 71) #[.pointer (some ⟨w.heap.size + 1 + 1, 0, none⟩)] #[]] 85))
      have HLa := hidden (HL.out.alloc (.cells #[.func (.func 71) #[.pointer (some ⟨w.heap.size + 1 + 1, 0, none⟩)] #[]] 85))
      have HBa := hidden (HB.out.alloc (Nat.le_trans (by omega) (Nat.le_of_lt hl3)) (.cells #[.func (.func 71) #[.pointer (some ⟨w.heap.size + 1 + 1, 0, none⟩)] #[]] 85))
      have HMk := hidden (HM4.out _ _ HKa.out)
      have HSk : Hid (stageD g 4 = wholeD g) := hidden rfl
      rw [← HSk.out] at HMk
      have HCk := hidden (fun h2 => HCS.out 4 (by omega) h2 HN.out)
      have HNx : Hid ((stageD g 4).kind = 0 → ∀ j, j < 5 → (stageD g j).kind = 0) := hidden (fun h j hj => by
        by_cases e : j = 4
        · subst e; exact h
        · exact HN.out j (by omega))
      have HSz := hidden (stage_zero g 4)
      generalize stageD g 4 = sd at *
      clear HB HK HR HL
      go_wp2_with fail
      refine HMk.out.mono ?_
      rintro r w5 ⟨rfl, hC5, hB5⟩
      have HB5 := hidden (HBa.out.trans (hB5.below (by omega) (by simp; omega)))
      have HR5 := hidden (HRa.out.but hB5 (by omega))
      have HL5 := hidden (HLa.out.but hB5 (by omega))
      have HK5 := hidden hC5
      have hl5 := HL5.out.lt
      clear hC5 hB5 HMk HKa HRa HLa HBa y0
      by_cases he : sd.kind = 0
      · have q : decide (sd.kind ≠ 0) = false := by simp [he]
        rw [q]
        have HN2 := hidden (HNx.out he)
        obtain rfl := HSz.out he
        clear he HNx HSz HCk HSk q HN
        go_wp2
        go_roundg (5 - 5)
        case measure => omega
        case rel => exact ⟨5, by omega, rfl, rfl, HN2, HB5, HK5, HR5, HL5⟩
      · have q : decide (sd.kind ≠ 0) = true := by simp [he]
        rw [q]
        have HE : Hid (dd = ⟨sd.kind, sd.at_, sd.more⟩) := hidden (HCk.out he)
        obtain ⟨z0, z1, z2, z3, z4, z5⟩ := HK5.out.found
        obtain ⟨o0, o1, o2, f0, f1, f2⟩ := HR5.out.three
        have hbw := HB5.out
        clear he HNx HSz HCk HSk q HN HB5 HL5 HK5 HR5
        go_wp2
        exact bodyPost_ret (v := defC ⟨sd.kind, sd.at_, sd.more⟩) (by simp [results, Try.results32, go_sem, defC, o0, o1, o2]) rfl ⟨by first | rfl | rw [HE.out], (by repeat (first | (with_reducible exact Below.refl _ _) | (with_reducible assumption) | (with_reducible refine Below.drew ?_) | (with_reducible refine below_drewN ?_ _) | ((with_reducible refine below_alloc ?_ ?_); (focus (first | omega | (simp; done) | (simp; omega)))) | ((with_reducible refine below_set ?_ ?_); (focus (first | omega | (simp; done) | (simp; omega))))))⟩
    · have HE : Hid (dd = ⟨0, 0, 0⟩) := hidden (HCN.out HN.out)
      obtain ⟨z0, z1, z2, z3, z4, z5⟩ := HK.out.found
      obtain ⟨o0, o1, o2, f0, f1, f2⟩ := HR.out.three
      have hbw := HB.out
      clear HN HB HL HK HR
      go_wp2
      exact bodyPost_ret (v := defC ⟨0, 0, 0⟩) (by simp [results, Try.results32, go_sem, defC, o0, o1, o2, D0]) rfl ⟨by first | rfl | rw [HE.out], (by repeat (first | (with_reducible exact Below.refl _ _) | (with_reducible assumption) | (with_reducible refine Below.drew ?_) | (with_reducible refine below_drewN ?_ _) | ((with_reducible refine below_alloc ?_ ?_); (focus (first | omega | (simp; done) | (simp; omega)))) | ((with_reducible refine below_set ?_ ?_); (focus (first | omega | (simp; done) | (simp; omega))))))⟩

set_option maxRecDepth 20000 in
theorem gram_Right (a b c : Value) (g : Gram) (w : World) (HG : GramIs w (Old w) a b c g) (s1 : g.toks.length ≤ 100000) (s2 : g.rules.length ≤ 100000) (s3 : g.prods.length ≤ 100000) (hz : Named g) :
    Calls Try.prog 34 #[.agg (gramCells a b c g)] w fun r w' => r = .returned (.bool (rightB g)) ∧ Below w.heap.size w w' := by
  have H := hidden (fun (w' : World) (hb : Below w.heap.size w w') => gram_Check a b c g w' (HG.old hb) s1 s2 s3 hz)
  obtain ⟨⟨A1, k1, rfl, v1, m1⟩, ⟨A2, k2, rfl, v2, m2⟩, ⟨A3, k3, rfl, v3, m3⟩⟩ := HG.vals
  have hb := Below.refl w.heap.size w
  unfold rightB
  have HE : Hid (decide ((checkOf g).kind = 0) = ((checkOf g).kind == 0)) := hidden (by rw [Bool.eq_iff_iff, decide_eq_true_iff, beq_iff_eq])
  rw [HE.out]
  clear HE
  have hf : ∀ (a b c : Int) (w : World), (Instr.field 40 (.agg #[.int .i64 a, .int .i64 b, .int .i64 c]) 0).run Try.prog w = .ok (.int .i64 a) w := fun _ _ _ _ => by kernel_rfl
  generalize checkOf g = d at *
  unfold gramCells at *
  clear HG
  go_enter Try.func34, Try.ntmps34
  go_wp2_with fail
  refine (H.out _ ?_).mono ?_
  · exact (by repeat (first | (with_reducible exact Below.refl _ _) | (with_reducible assumption) | (with_reducible refine Below.drew ?_) | (with_reducible refine below_drewN ?_ _) | ((with_reducible refine below_alloc ?_ ?_); (focus (first | omega | (simp; done) | (simp; omega)))) | ((with_reducible refine below_set ?_ ?_); (focus (first | omega | (simp; done) | (simp; omega))))))
  rintro r w2 ⟨rfl, hb2⟩
  have hbw : Below w.heap.size w w2 := Below.trans (by repeat (first | (with_reducible exact Below.refl _ _) | (with_reducible assumption) | (with_reducible refine Below.drew ?_) | (with_reducible refine below_drewN ?_ _) | ((with_reducible refine below_alloc ?_ ?_); (focus (first | omega | (simp; done) | (simp; omega)))) | ((with_reducible refine below_set ?_ ?_); (focus (first | omega | (simp; done) | (simp; omega)))))) (hb2.mono (by simp))
  unfold defC
  clear hb2 hb
  go_wp2
  go_ret
  exact ⟨rfl, hbw⟩
end Go.Proofs.Ytaagkbgbghleiaa
