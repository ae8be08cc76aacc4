/-
  facsimileref18.Check.
-/
import Derived.Test.YtaagkbgbghleiaaGramProd
import Derived.Deep.CutBlock
import Derived.Deep.DeepCutAuto
import Derived.Deep.RegionHeld3
import Derived.IntWalk
namespace Go.Proofs.Ytaagkbgbghleiaa
open Go.RowKit Go.Shelf

theorem orD_assoc (a b c : Defect) : orD (orD a b) c = orD a (orD b c) := by
  unfold orD
  by_cases h : a.kind = 0
  · rw [if_pos h]
    by_cases h2 : b.kind = 0
    · rw [if_pos h2, if_pos h]
    · rw [if_neg h2, if_pos h]
  · rw [if_neg h, if_neg h]
    rw [if_neg h]
theorem firstD_succ {f : Nat → Defect} (hf : ∀ k, (f k).kind = 0 → f k = D0) (k : Nat) : firstD f 0 (k + 1) = orD (firstD f 0 k) (f k) := by
  by_cases h : ∃ m, m < k ∧ (f m).kind ≠ 0
  · obtain ⟨m, h1, h2⟩ := h
    obtain ⟨j, hj⟩ : ∃ j, j < k ∧ (f j).kind ≠ 0 ∧ ∀ i, i < j → (f i).kind = 0 := by
      rcases first_cases (fun j => (f j).kind ≠ 0) k with ⟨_, h4⟩ | ⟨j, h3, _, h5, h6⟩
      · exact absurd h2 (h4 m h1)
      · exact ⟨j, h3, h5, fun i hi => Decidable.not_not.1 (h6 i hi)⟩
    rw [first0_hit hj.1 hj.2.1 hj.2.2, first0_hit (n := k + 1) (by omega) hj.2.1 hj.2.2, orD_some hj.2.1]
  · have h' : ∀ m, m < k → (f m).kind = 0 := fun m hm => Decidable.not_not.1 (fun hn => h ⟨m, hm, hn⟩)
    rw [first0_miss h', orD_D0]
    by_cases hk : (f k).kind = 0
    · rw [hf k hk]
      exact first0_miss (fun m hm => by
        by_cases e : m = k
        · subst e; exact hk
        · exact h' m (by omega))
    · exact first0_hit (by omega) hk h'
/-- One more. -/
theorem stage_step {s : Defect} {f : Nat → Defect} (hf : ∀ k, (f k).kind = 0 → f k = D0) {k : Nat} (h : (orD s (firstD f 0 k)).kind = 0) : orD s (firstD f 0 (k + 1)) = f k := by
  obtain ⟨h1, h2⟩ := orD_kind.1 h
  rw [firstD_succ hf, orD_zero h1, orD_zero h2]
theorem stage_stop {s : Defect} {f : Nat → Defect} (hf : ∀ k, (f k).kind = 0 → f k = D0) {k n : Nat} (hk : k ≤ n) (h : (orD s (firstD f 0 k)).kind ≠ 0) : orD s (firstD f 0 n) = orD s (firstD f 0 k) := by
  obtain ⟨m, rfl⟩ : ∃ m, n = k + m := ⟨n - k, by omega⟩
  clear hk
  induction m with
  | zero => rfl
  | succ m ih =>
    rw [show k + (m + 1) = k + m + 1 by omega, firstD_succ hf, ← orD_assoc, ih, orD_some h]
theorem stage_clean {s : Defect} {f : Nat → Defect} {k : Nat} (h : (orD s (firstD f 0 k)).kind = 0) : orD s (firstD f 0 k) = D0 := by
  obtain ⟨a, b⟩ := orD_kind.1 h
  rw [orD_zero a, firstD_clean _ _ b]
theorem none_clean (g : Gram) (i : Nat) : (noneD g i).kind = 0 → noneD g i = D0 := by
  unfold noneD
  split <;> simp

/-- Where a check of the document's stands: what is wrong up to here is d, kept in block D. -/
structure ChkAt (w : World) (D : Nat) (cs : Array Value) (d : Defect) (wr : World) : Prop where
  below : Below w.heap.size w wr
  low : w.heap.size + 2 ≤ D
  lt : D < wr.heap.size
  box : Holds wr w.heap.size 36 cs
  res : Holds wr (w.heap.size + 1) 40 #[.int .i64 0, .int .i64 0, .int .i64 0]
  at_ : Holds wr D 40 #[.int .i64 d.kind, .int .i64 d.at_, .int .i64 d.more]
theorem ChkAt.next {w wr w2 : World} {D : Nat} {cs : Array Value} {d : Defect} (h : ChkAt w D cs d wr) (hb : Below wr.heap.size wr w2) : ChkAt w D cs d w2 := by
  have := h.low
  have := h.lt
  exact ⟨h.below.trans (hb.mono h.below.size), h.low, Nat.lt_of_lt_of_le h.lt hb.size, h.box.below hb (by omega), h.res.below hb (by omega), h.at_.below hb h.lt⟩
theorem ChkAt.put {w wr : World} {D : Nat} {cs : Array Value} {d : Defect} (h : ChkAt w D cs d wr) (e : Defect) : ChkAt w D cs e (((wr.setCell ⟨D, 0, none⟩ (.int .i64 e.kind)).setCell ⟨D, 1, none⟩ (.int .i64 e.at_)).setCell ⟨D, 2, none⟩ (.int .i64 e.more)) := by
  have := h.low
  refine ⟨below_set (by omega) (below_set (by omega) (below_set (by omega) h.below)), h.low, by simpa using h.lt, holds_far (by omega) (holds_far (by omega) (holds_far (by omega) h.box)), holds_far (by omega) (holds_far (by omega) (holds_far (by omega) h.res)), ?_⟩
  exact Holds.of_eq (holds_set (holds_set (holds_set h.at_))) (by rfl)

theorem keep_gram {wr w1 w2 : World} {p : Nat} {a b c : Value} {g : Gram} (h : Holds wr p 36 (gramCells a b c g)) (hb : Below wr.heap.size wr w1) (hb2 : Below w1.heap.size w1 w2) :
    w2.cell? ⟨p, 0, none⟩ = some a ∧ w2.cell? ⟨p, 1, none⟩ = some b ∧ w2.cell? ⟨p, 2, none⟩ = some c ∧ w2.cell? ⟨p, 3, none⟩ = some (.int .i64 g.start) ∧ w2.cell? ⟨p, 4, none⟩ = some (.int .i64 g.states) ∧ w2.cell? ⟨p, 5, none⟩ = some (.int .i64 g.text) ∧ w2.cell? ⟨p, 6, none⟩ = some (.int .i64 g.nodes) ∧ w2.cell? ⟨p, 7, none⟩ = some (.int .i64 g.pairs) ∧ Below wr.heap.size wr w2 := by
  have hb3 := hb.trans (hb2.mono hb.size)
  obtain ⟨x0, x1, x2, x3, x4, x5, x6, x7⟩ := gram_cells (h.below hb3 h.lt)
  exact ⟨x0, x1, x2, x3, x4, x5, x6, x7, hb3⟩

set_option maxRecDepth 20000 in
set_option maxHeartbeats 8000000 in
theorem ref_Check (a b c : Value) (g : Gram) (w : World) (HG : GramIs w (Old w) a b c g) (h1 : g.toks.length ≤ 100000) (h2 : g.rules.length ≤ 100000) (h3 : g.prods.length ≤ 100000) (hz : Named g) :
    Calls Try.prog 33 #[.agg (gramCells a b c g)] w fun r w' => r = .returned (defC (checkOf g)) ∧ Below w.heap.size w w' := by
  have HSz := hidden (fun (w' : World) (hb : Below w.heap.size w w') => ref_sizes a b c g w' (HG.old hb))
  have HTk := hidden (fun (w' : World) (hb : Below w.heap.size w w') i (hi : i < g.toks.length) => ref_token a b c g i w' (HG.old hb) h1 h2 hz hi)
  have HPr := hidden (fun (w' : World) (hb : Below w.heap.size w w') i (hi : i < g.prods.length) => ref_prod a b c g i w' (HG.old hb) hi)
  have HOf := hidden (fun (w' : World) (hb : Below w.heap.size w w') (r : Int) => ref_Of18 a b c g r w' (HG.old hb) h3)
  have HNa := hidden (fun (w' : World) (hb : Below w.heap.size w w') => ref_Names a b c g w' (HG.old hb) h1 h2)
  have HNm : Hid (∀ u w1 i s, i < g.rules.length → g.rules[i]? = some s → Strs w1 (Old w1) u (allNames g) → Calls Try.prog 74 #[u, .int .i64 ((g.toks.length : Int) + (i : Int))] w1 fun r w' => r = .returned (.int .i64 (nameErr s ((allNames g).take (g.toks.length + i)))) ∧ w1 = w') := hidden (fun u w1 i s hi hs h => by
    have e : (allNames g)[g.toks.length + i]? = some s := by unfold allNames; rw [List.getElem?_append_right (by rw [tokNames_len]; omega), tokNames_len, Nat.add_sub_cancel_left]; exact hs
    have := ref_name18 u _ (g.toks.length + i) s _ w1 h e (hz _ (List.mem_of_getElem? e))
    rwa [Int.natCast_add] at this)
  have HRu := hidden HG.2.1
  obtain ⟨⟨A1, k1, rfl, v1, m1⟩, ⟨A2, k2, rfl, v2, m2⟩, ⟨A3, k3, rfl, v3, m3⟩⟩ := HG.vals
  have hb : Below w.heap.size w w := Below.refl _ _
  obtain ⟨dd, hdd⟩ : ∃ dd, dd = checkOf g := ⟨_, rfl⟩
  rw [← hdd]
  have HC := hidden hdd
  clear hdd
  unfold gramCells at *
  clear HG
  go_enter Try.func33, Try.ntmps33
  go_wp2_with fail
  refine (HSz.out _ ?_).mono ?_
  · exact (by repeat (first | (with_reducible exact Below.refl _ _) | (with_reducible assumption) | (with_reducible refine Below.drew ?_) | ((with_reducible refine below_alloc ?_ ?_); (focus (first | omega | (simp; done) | (simp; omega)))) | ((with_reducible refine below_set ?_ ?_); (focus (first | omega | (simp; done) | (simp; omega))))))
  rintro r w1 ⟨rfl, hb1⟩
  have z1 : w.heap.size + 2 ≤ w1.heap.size := by have := hb1.size; simp at this; omega
  have R1 : Holds w1 (w.heap.size + 1) 40 #[.int .i64 0, .int .i64 0, .int .i64 0] := Holds.below (by repeat (first | (with_reducible assumption) | ((with_reducible refine holds_new ?_); (focus (first | rfl | (simp; done)))) | (with_reducible refine Holds.alloc ?_ _) | (with_reducible refine Holds.drew ?_))) hb1 (by simp)
  have B1 : Holds w1 w.heap.size 36 #[.slice A1 g.toks.length k1, .slice A2 g.rules.length k2, .slice A3 g.prods.length k3, .int .i64 g.start, .int .i64 g.states, .int .i64 g.text, .int .i64 g.nodes, .int .i64 g.pairs] := Holds.below (by repeat (first | (with_reducible assumption) | ((with_reducible refine holds_new ?_); (focus (first | rfl | (simp; done)))) | (with_reducible refine Holds.alloc ?_ _) | (with_reducible refine Holds.drew ?_))) hb1 (by simp; omega)
  have hbw : Below w.heap.size w w1 := Below.trans (by repeat (first | (with_reducible exact Below.refl _ _) | (with_reducible assumption) | (with_reducible refine Below.drew ?_) | ((with_reducible refine below_alloc ?_ ?_); (focus (first | omega | (simp; done) | (simp; omega)))) | ((with_reducible refine below_set ?_ ?_); (focus (first | omega | (simp; done) | (simp; omega)))))) (hb1.mono (by simp; omega))
  clear hb1 hb HSz
  obtain ⟨cs, hcs⟩ : ∃ cs : Array Value, cs = #[.slice A1 g.toks.length k1, .slice A2 g.rules.length k2, .slice A3 g.prods.length k3, .int .i64 g.start, .int .i64 g.states, .int .i64 g.text, .int .i64 g.nodes, .int .i64 g.pairs] := ⟨_, rfl⟩
  rw [← hcs] at B1
  have HCS := hidden hcs
  clear hcs
  unfold defC
  have HS0 := hidden (orD_right (sizes_clean g))
  have HK1 : Hid ((orD (sizesOf g) (firstD (tokD g) 0 g.toks.length)).kind = 0 → orD (sizesOf g) (firstD (tokD g) 0 g.toks.length) = D0) := hidden (stage_clean)
  go_upto_block 0 with fail
  go_cut [] (fun wx => ChkAt w w1.heap.size cs (orD (sizesOf g) (firstD (tokD g) 0 g.toks.length)) wx)
  case first =>
    go_wp2_with fail
    go_loopg [4] g.toks.length (fun gh ii wr => ∃ (k : Nat) (d : Defect), k ≤ g.toks.length ∧ gh = g.toks.length - k ∧ ii = .int .i64 k ∧ Hid (d = orD (sizesOf g) (firstD (tokD g) 0 k)) ∧ Hid (ChkAt w w1.heap.size cs d wr))
    case atStart => 
      refine ⟨0, sizesOf g, by omega, rfl, rfl, hidden (orD_right (sizes_clean g)).symm, hidden ⟨?_, z1, by simp, (by repeat (first | (with_reducible assumption) | ((with_reducible refine holds_new ?_); (focus (first | rfl | (simp; done)))) | (with_reducible refine Holds.alloc ?_ _) | (with_reducible refine Holds.drew ?_))), (by repeat (first | (with_reducible assumption) | ((with_reducible refine holds_new ?_); (focus (first | rfl | (simp; done)))) | (with_reducible refine Holds.alloc ?_ _) | (with_reducible refine Holds.drew ?_))), (by repeat (first | (with_reducible assumption) | ((with_reducible refine holds_new ?_); (focus (first | rfl | (simp; done)))) | (with_reducible refine Holds.alloc ?_ _) | (with_reducible refine Holds.drew ?_)))⟩⟩
      exact (by repeat (first | (with_reducible exact Below.refl _ _) | (with_reducible assumption) | (with_reducible refine Below.drew ?_) | ((with_reducible refine below_alloc ?_ ?_); (focus (first | omega | (simp; done) | (simp; omega)))) | ((with_reducible refine below_set ?_ ?_); (focus (first | omega | (simp; done) | (simp; omega))))))
    case round =>
      obtain ⟨k, d, hk, rfl, rfl, HD, HA⟩ := hrel
      have hbx := HA.out.box
      have hbr := HA.out.below
      have hlo := HA.out.low
      have hDl := HA.out.lt
      rw [HCS.out] at hbx
      obtain ⟨x0, x1, x2, x3, x4, x5, x6, x7⟩ := gram_cells hbx
      obtain ⟨r0, r1, r2, s0, s1, s2⟩ := HA.out.at_.three
      clear hbx
      by_cases hd : d.kind = 0
      · by_cases hlt : k < g.toks.length
        · have q : (d.kind == 0) = true := by simp [hd]
          have HE := hidden (stage_step (tok_clean g) (by rw [← HD.out]; exact hd))
          clear hd
          go_wp2_with fail
          refine (HTk.out _ hbr k hlt).mono ?_
          rintro r w2 ⟨rfl, hb2⟩
          have HA2 := hidden (HA.out.next hb2)
          have hz2 := hb2.size
          obtain ⟨y0, y1, y2, t0, t1, t2⟩ := HA2.out.at_.three
          clear hb2 HA HD x0 x1 x2 x3 x4 x5 x6 x7 r0 r1 r2 s0 s1 s2 hbr
          unfold defC
          go_wp2
          go_roundg (g.toks.length - (k + 1))
          case measure => omega
          case rel => exact ⟨k + 1, tokD g k, by omega, rfl, by go_num, hidden HE.out.symm, hidden (HA2.out.put _)⟩
        · obtain rfl : k = g.toks.length := by omega
          have HF : Hid (ChkAt w w1.heap.size cs (orD (sizesOf g) (firstD (tokD g) 0 g.toks.length)) wr) := hidden (by rw [← HD.out]; exact HA.out)
          have q : (d.kind == 0) = true := by simp [hd]
          clear hd
          go_wp2
          go_meet
          exact HF.out
      · have q : (d.kind == 0) = false := by simp [hd]
        have HF : Hid (ChkAt w w1.heap.size cs (orD (sizesOf g) (firstD (tokD g) 0 g.toks.length)) wr) := hidden (by rw [stage_stop (tok_clean g) hk (by rw [← HD.out]; exact hd), ← HD.out]; exact HA.out)
        clear hd
        go_wp2
        go_meet
        exact HF.out
  case rest =>
    have HA0 := hidden hcut
    have HC1 : Hid (dd = orD (orD (sizesOf g) (firstD (tokD g) 0 g.toks.length)) (orD (firstD (ruleD g) 0 g.rules.length) (orD (firstD (prodD g) 0 g.prods.length) (wholeD g)))) := hidden (by rw [HC.out, orD_assoc]; rfl)
    clear hcut z1 R1 B1 hbw HTk HC
    have hlo := HA0.out.low
    generalize orD (sizesOf g) (firstD (tokD g) 0 g.toks.length) = s1 at *
    generalize w1.heap.size = D at *
    go_upto_block 2 with fail
    go_cut [] (fun wx => ChkAt w D cs (orD s1 (firstD (ruleD g) 0 g.rules.length)) wx)
    case first =>
      go_wp2_with fail
      go_loopg [5] g.rules.length (fun gh ii wr => ∃ (k : Nat) (d : Defect), k ≤ g.rules.length ∧ gh = g.rules.length - k ∧ ii = .int .i64 k ∧ Hid (d = orD s1 (firstD (ruleD g) 0 k)) ∧ Hid (ChkAt w D cs d wr))
      case atStart => exact ⟨0, s1, by omega, rfl, rfl, hidden (orD_right HK1.out).symm, HA0⟩
      case round =>
        obtain ⟨k, d, hk, rfl, rfl, HD, HA⟩ := hrel
        have hbx := HA.out.box
        have hbr := HA.out.below
        have hDl := HA.out.lt
        rw [HCS.out] at hbx
        obtain ⟨x0, x1, x2, x3, x4, x5, x6, x7⟩ := gram_cells hbx
        obtain ⟨r0, r1, r2, s0, s1', s2⟩ := HA.out.at_.three
        have HBX := hidden hbx
        clear hbx
        by_cases hd : d.kind = 0
        · by_cases hlt : k < g.rules.length
          · have q : (d.kind == 0) = true := by simp [hd]
            have HE := hidden (stage_step (rule_clean g) (by rw [← HD.out]; exact hd))
            obtain ⟨sk, hsk⟩ : ∃ s, g.rules[k]? = some s := ⟨_, List.getElem?_eq_getElem hlt⟩
            have HNk := hidden (fun u w1 h => HNm.out u w1 k sk hlt hsk h)
            have HRk : Hid (ruleD g k = if nameErr sk ((allNames g).take (g.toks.length + k)) ≠ 0 then ⟨nameErr sk ((allNames g).take (g.toks.length + k)), k, 0⟩ else D0) := hidden (by unfold ruleD; rw [hsk])
            generalize nameErr sk ((allNames g).take (g.toks.length + k)) = e at *
            clear hd hsk
            have hw : IntKind.i64.wrap ((g.toks.length : Int) + (k : Int)) = (g.toks.length : Int) + (k : Int) := IntWalk.i64_in _ (by omega)
            go_wp2_with fail
            go_region_held3 (fun w' => w'.cell? ⟨w.heap.size, 0, none⟩ = some (.slice A1 g.toks.length k1) ∧ w'.cell? ⟨w.heap.size, 1, none⟩ = some (.slice A2 g.rules.length k2) ∧ w'.cell? ⟨w.heap.size, 2, none⟩ = some (.slice A3 g.prods.length k3) ∧ w'.cell? ⟨w.heap.size, 3, none⟩ = some (.int .i64 g.start) ∧ w'.cell? ⟨w.heap.size, 4, none⟩ = some (.int .i64 g.states) ∧ w'.cell? ⟨w.heap.size, 5, none⟩ = some (.int .i64 g.text) ∧ w'.cell? ⟨w.heap.size, 6, none⟩ = some (.int .i64 g.nodes) ∧ w'.cell? ⟨w.heap.size, 7, none⟩ = some (.int .i64 g.pairs) ∧ Below wr.heap.size wr w')
              (first | exact ⟨x0, x1, x2, x3, x4, x5, x6, x7, Below.drew (Below.refl _ _)⟩ | (go_split_ands; (refine ⟨?_, ?_, ?_, ?_, ?_, ?_, ?_, ?_, ?_⟩ <;> assumption)) | (go_split_ands; exact keep_gram HBX.out (by (first | assumption | exact Below.drew (Below.refl _ _) | exact Below.refl _ _)) (by assumption)))
              (first | (go_at_call 75; refine (HNa.out _ (hbr.trans (Below.mono (by (first | assumption | exact Below.drew (Below.refl _ _) | exact Below.refl _ _)) hbr.size))).mono ?_; rintro e w2 ⟨⟨u, rfl, HM⟩, hb2⟩) | (go_at_call 74; refine (HNk.out _ _ (StrsM.rd HM.out)).mono ?_; rintro e w3 ⟨rfl, rfl⟩))
            have HA2 := hidden (HA.out.next ((Below.drew (Below.refl _ _)).trans hb2))
            have hz2 : D < w2.heap.size := HA2.out.lt
            have HZ : Hid (e = 0 → d = orD s1 (firstD (ruleD g) 0 (k + 1))) := hidden (fun he => by
              rw [HE.out, HRk.out, if_neg (by simp [he]), HD.out]
              exact stage_clean (by rw [← HD.out]; simpa using q))
            have HZ2 : Hid (e ≠ 0 → orD s1 (firstD (ruleD g) 0 (k + 1)) = ⟨e, k, 0⟩) := hidden (fun he => by rw [HE.out, HRk.out, if_pos he])
            obtain ⟨y0, y1, y2, t0, t1, t2⟩ := HA2.out.at_.three
            clear hb2 HA x0 x1 x2 x3 x4 x5 x6 x7 r0 r1 r2 s0 s1' s2 hbr HBX HE HRk hw HM HNk HNa HNm HRu
            by_cases he : e = 0
            · have HD2 := hidden (HZ.out he)
              subst he
              clear HZ HZ2 HD
              go_wp2
              go_roundg (g.rules.length - (k + 1))
              case measure => omega
              case rel => exact ⟨k + 1, d, by omega, rfl, by go_num, HD2, HA2⟩
            · have HD2 := hidden (HZ2.out he)
              have qe : (e != 0) = true := by rw [bne_iff_ne]; exact he
              clear HZ HZ2 HD
              go_wp2
              go_roundg (g.rules.length - (k + 1))
              case measure => omega
              case rel => exact ⟨k + 1, ⟨e, k, 0⟩, by omega, rfl, by go_num, hidden HD2.out.symm, hidden (HA2.out.put ⟨e, k, 0⟩)⟩
          · obtain rfl : k = g.rules.length := by omega
            have HF : Hid (ChkAt w D cs (orD s1 (firstD (ruleD g) 0 g.rules.length)) wr) := hidden (by rw [← HD.out]; exact HA.out)
            have q : (d.kind == 0) = true := by simp [hd]
            clear hd
            go_wp2
            go_meet
            exact HF.out
        · have q : (d.kind == 0) = false := by simp [hd]
          have HF : Hid (ChkAt w D cs (orD s1 (firstD (ruleD g) 0 g.rules.length)) wr) := hidden (by rw [stage_stop (rule_clean g) hk (by rw [← HD.out]; exact hd), ← HD.out]; exact HA.out)
          clear hd
          go_wp2
          go_meet
          exact HF.out
    case rest =>
      have HA1 := hidden hcut
      have HK2 : Hid ((orD s1 (firstD (ruleD g) 0 g.rules.length)).kind = 0 → orD s1 (firstD (ruleD g) 0 g.rules.length) = D0) := hidden stage_clean
      have HC2 : Hid (dd = orD (orD s1 (firstD (ruleD g) 0 g.rules.length)) (orD (firstD (prodD g) 0 g.prods.length) (wholeD g))) := hidden (by rw [HC1.out, orD_assoc])
      clear hcut HA0 HNa HNm HRu HK1 HC1
      generalize orD s1 (firstD (ruleD g) 0 g.rules.length) = s2 at *
      go_upto_block 4 with fail
      go_cut [] (fun wx => ChkAt w D cs (orD s2 (firstD (prodD g) 0 g.prods.length)) wx)
      case first =>
        go_wp2_with fail
        go_loopg [7] g.prods.length (fun gh ii wr => ∃ (k : Nat) (d : Defect), k ≤ g.prods.length ∧ gh = g.prods.length - k ∧ ii = .int .i64 k ∧ Hid (d = orD s2 (firstD (prodD g) 0 k)) ∧ Hid (ChkAt w D cs d wr))
        case atStart => exact ⟨0, s2, by omega, rfl, rfl, hidden (orD_right HK2.out).symm, HA1⟩
        case round =>
          obtain ⟨k, d, hk, rfl, rfl, HD, HA⟩ := hrel
          have hbx := HA.out.box
          have hbr := HA.out.below
          have hDl := HA.out.lt
          rw [HCS.out] at hbx
          obtain ⟨x0, x1, x2, x3, x4, x5, x6, x7⟩ := gram_cells hbx
          obtain ⟨r0, r1, r2, s0, s1', s2'⟩ := HA.out.at_.three
          clear hbx
          by_cases hd : d.kind = 0
          · by_cases hlt : k < g.prods.length
            · have q : (d.kind == 0) = true := by simp [hd]
              have HE := hidden (stage_step (prod_clean g) (by rw [← HD.out]; exact hd))
              clear hd
              go_wp2_with fail
              refine (HPr.out _ hbr k hlt).mono ?_
              rintro r w2 ⟨rfl, hb2⟩
              have HA2 := hidden (HA.out.next hb2)
              have hz2 := hb2.size
              obtain ⟨y0, y1, y2, t0, t1, t2⟩ := HA2.out.at_.three
              clear hb2 HA HD x0 x1 x2 x3 x4 x5 x6 x7 r0 r1 r2 s0 s1' s2' hbr
              unfold defC
              go_wp2
              go_roundg (g.prods.length - (k + 1))
              case measure => omega
              case rel => exact ⟨k + 1, prodD g k, by omega, rfl, by go_num, hidden HE.out.symm, hidden (HA2.out.put _)⟩
            · obtain rfl : k = g.prods.length := by omega
              have HF : Hid (ChkAt w D cs (orD s2 (firstD (prodD g) 0 g.prods.length)) wr) := hidden (by rw [← HD.out]; exact HA.out)
              have q : (d.kind == 0) = true := by simp [hd]
              clear hd
              go_wp2
              go_meet
              exact HF.out
          · have q : (d.kind == 0) = false := by simp [hd]
            have HF : Hid (ChkAt w D cs (orD s2 (firstD (prodD g) 0 g.prods.length)) wr) := hidden (by rw [stage_stop (prod_clean g) hk (by rw [← HD.out]; exact hd), ← HD.out]; exact HA.out)
            clear hd
            go_wp2
            go_meet
            exact HF.out
      case rest =>
        have HA2 := hidden hcut
        have HK3 : Hid ((orD s2 (firstD (prodD g) 0 g.prods.length)).kind = 0 → orD s2 (firstD (prodD g) 0 g.prods.length) = D0) := hidden stage_clean
        have HC3 : Hid (dd = orD (orD (orD s2 (firstD (prodD g) 0 g.prods.length)) (startD g)) (firstD (noneD g) 0 g.rules.length)) := hidden (by rw [HC2.out, orD_assoc, orD_assoc]; rfl)
        clear hcut HA1 HPr HK2 HC2
        generalize orD s2 (firstD (prodD g) 0 g.prods.length) = s3 at *
        have hbx := HA2.out.box
        have hDl := HA2.out.lt
        rw [HCS.out] at hbx
        obtain ⟨x0, x1, x2, x3, x4, x5, x6, x7⟩ := gram_cells hbx
        obtain ⟨r0, r1, r2, e0, e1, e2⟩ := HA2.out.at_.three
        clear hbx
        have HT1 : Hid (s3.kind = 0 ∧ (g.start < 0 ∨ (g.rules.length : Int) ≤ g.start) → orD s3 (startD g) = ⟨11, -1, 0⟩) := hidden (fun h => by
          rw [orD_zero h.1]; unfold startD; rw [if_pos h.2])
        have HT2 : Hid (¬ (s3.kind = 0 ∧ (g.start < 0 ∨ (g.rules.length : Int) ≤ g.start)) → orD s3 (startD g) = s3) := hidden (fun h => by
          by_cases h0 : s3.kind = 0
          · rw [orD_zero h0, HK3.out h0]; unfold startD; rw [if_neg (fun h1 => h ⟨h0, h1⟩)]
          · rw [orD_some h0])
        obtain ⟨bb, hbb⟩ : ∃ bb : Bool, bb = decide (s3.kind = 0 ∧ (g.start < 0 ∨ (g.rules.length : Int) ≤ g.start)) := ⟨_, rfl⟩
        have HBB := hidden hbb
        clear hbb
        go_upto_region 16 with fail
        go_cut [81] (fun c wx => c = .bool bb ∧ wc = wx)
        case first =>
          by_cases hd : s3.kind = 0
          · have q : (s3.kind == 0) = true := by simp [hd]
            by_cases hs : g.start < 0
            · obtain rfl : bb = true := by rw [HBB.out]; exact decide_eq_true ⟨hd, .inl hs⟩
              clear hd
              go_wp2
              go_meet
              exact ⟨rfl, rfl⟩
            · by_cases hs2 : (g.rules.length : Int) ≤ g.start
              · obtain rfl : bb = true := by rw [HBB.out]; exact decide_eq_true ⟨hd, .inr hs2⟩
                clear hd
                go_wp2
                go_meet
                exact ⟨rfl, rfl⟩
              · obtain rfl : bb = false := by rw [HBB.out]; exact decide_eq_false (by omega)
                clear hd
                go_wp2
                go_meet
                exact ⟨rfl, rfl⟩
          · have q : (s3.kind == 0) = false := by simp [hd]
            obtain rfl : bb = false := by rw [HBB.out]; exact decide_eq_false (fun h => hd h.1)
            clear hd
            go_wp2
            go_meet
            exact ⟨rfl, rfl⟩
        case rest =>
          obtain ⟨rfl, rfl⟩ := hcut
          go_upto_if 81 with fail
          go_cut [] (fun wx => ChkAt w D cs (orD s3 (startD g)) wx)
          case first =>
            cases bb
            · have HF : Hid (ChkAt w D cs (orD s3 (startD g)) wc) := hidden (by rw [HT2.out (of_decide_eq_false HBB.out.symm)]; exact HA2.out)
              go_wp2
              go_meet
              exact HF.out
            · have HF : Hid (ChkAt w D cs (orD s3 (startD g)) (((wc.setCell ⟨D, 0, none⟩ (.int .i64 11)).setCell ⟨D, 1, none⟩ (.int .i64 (-1))).setCell ⟨D, 2, none⟩ (.int .i64 0))) := hidden (by rw [HT1.out (of_decide_eq_true HBB.out.symm)]; exact HA2.out.put ⟨11, -1, 0⟩)
              go_wp2
              go_meet
              exact HF.out
          case rest =>
            have HA3 := hidden hcut
            have HK4 : Hid ((orD s3 (startD g)).kind = 0 → orD s3 (startD g) = D0) := hidden (fun h => by
              obtain ⟨a, b⟩ := orD_kind.1 h
              rw [orD_zero a, start_clean g b])
            clear hcut HA2 HK3 HT1 HT2 HBB x0 x1 x2 x3 x4 x5 x6 x7 r0 r1 r2 e0 e1 e2 hDl
            generalize orD s3 (startD g) = s4 at *
            go_wp2
            go_loopg [8] g.rules.length (fun gh ii wr => ∃ (k : Nat) (d : Defect), k ≤ g.rules.length ∧ gh = g.rules.length - k ∧ ii = .int .i64 k ∧ Hid (d = orD s4 (firstD (noneD g) 0 k)) ∧ Hid (ChkAt w D cs d wr))
            case atStart => exact ⟨0, s4, by omega, rfl, rfl, hidden (orD_right HK4.out).symm, HA3⟩
            case round =>
              obtain ⟨k, d, hk, rfl, rfl, HD, HA⟩ := hrel
              have hbx := HA.out.box
              have hbr := HA.out.below
              have hDl := HA.out.lt
              rw [HCS.out] at hbx
              obtain ⟨x0, x1, x2, x3, x4, x5, x6, x7⟩ := gram_cells hbx
              obtain ⟨r0, r1, r2, e0, e1, e2⟩ := HA.out.at_.three
              obtain ⟨o0, o1, o2, f0, f1, f2⟩ := HA.out.res.three
              clear hbx
              by_cases hd : d.kind = 0
              · have q : (d.kind == 0) = true := by simp [hd]
                by_cases hlt : k < g.rules.length
                · have HE := hidden (stage_step (none_clean g) (by rw [← HD.out]; exact hd))
                  have HZ : Hid ((ofRule g k).length ≠ 0 → d = orD s4 (firstD (noneD g) 0 (k + 1))) := hidden (fun he => by
                    rw [HE.out, HD.out, stage_clean (by rw [← HD.out]; exact hd)]
                    unfold noneD; rw [if_neg he])
                  have HZ2 : Hid ((ofRule g k).length = 0 → orD s4 (firstD (noneD g) 0 (k + 1)) = ⟨5, k, 0⟩) := hidden (fun he => by rw [HE.out]; unfold noneD; rw [if_pos he])
                  have HOk := hidden (HOf.out _ hbr k)
                  generalize ofRule g k = ro at *
                  clear hd
                  go_wp2_with fail
                  refine HOk.out.mono ?_
                  rintro r w2 ⟨⟨u, rfl, HM⟩, hb2⟩
                  obtain ⟨Au, cu, rfl⟩ := Mine.value HM.out
                  have HA2 := hidden (HA.out.next hb2)
                  have hz2 : D < w2.heap.size := HA2.out.lt
                  clear hb2 HA x0 x1 x2 x3 x4 x5 x6 x7 r0 r1 r2 e0 e1 e2 o0 o1 o2 f0 f1 f2 hbr HE HM HOk
                  obtain ⟨y0, y1, y2, t0, t1, t2⟩ := HA2.out.at_.three
                  by_cases he : ro.length = 0
                  · have HD2 := hidden (HZ2.out he)
                    have qe : ((ro.length : Int) == 0) = true := by simp [he]
                    clear HZ HZ2 HD he
                    go_wp2
                    go_roundg (g.rules.length - (k + 1))
                    case measure => omega
                    case rel => exact ⟨k + 1, ⟨5, k, 0⟩, by omega, rfl, by go_num, hidden HD2.out.symm, hidden (HA2.out.put ⟨5, k, 0⟩)⟩
                  · have HD2 := hidden (HZ.out he)
                    have qe : ((ro.length : Int) == 0) = false := by simp [he]
                    clear HZ HZ2 HD
                    go_wp2
                    go_roundg (g.rules.length - (k + 1))
                    case measure => omega
                    case rel => exact ⟨k + 1, d, by omega, rfl, by go_num, HD2, HA2⟩
                · obtain rfl : k = g.rules.length := by omega
                  have HE : Hid (dd = ⟨d.kind, d.at_, d.more⟩) := hidden (by rw [HC3.out, ← HD.out])
                  clear hd
                  go_wp2
                  exact bodyPost_ret (v := defC ⟨d.kind, d.at_, d.more⟩) (by simp [results, Try.results33, go_sem, defC, o0, o1, o2]) rfl ⟨by first | rfl | rw [HE.out], (by repeat (first | (with_reducible exact Below.refl _ _) | (with_reducible assumption) | (with_reducible refine Below.drew ?_) | ((with_reducible refine below_alloc ?_ ?_); (focus (first | omega | (simp; done) | (simp; omega)))) | ((with_reducible refine below_set ?_ ?_); (focus (first | omega | (simp; done) | (simp; omega))))))⟩
              · have q : (d.kind == 0) = false := by simp [hd]
                have HE : Hid (dd = ⟨d.kind, d.at_, d.more⟩) := hidden (by rw [HC3.out, stage_stop (none_clean g) hk (by rw [← HD.out]; exact hd), ← HD.out])
                clear hd
                go_wp2
                exact bodyPost_ret (v := defC ⟨d.kind, d.at_, d.more⟩) (by simp [results, Try.results33, go_sem, defC, o0, o1, o2]) rfl ⟨by first | rfl | rw [HE.out], (by repeat (first | (with_reducible exact Below.refl _ _) | (with_reducible assumption) | (with_reducible refine Below.drew ?_) | ((with_reducible refine below_alloc ?_ ?_); (focus (first | omega | (simp; done) | (simp; omega)))) | ((with_reducible refine below_set ?_ ?_); (focus (first | omega | (simp; done) | (simp; omega))))))⟩
end Go.Proofs.Ytaagkbgbghleiaa
