/-
  Least parts: derive.least.
-/
import Derived.Test.YtmmhkjdnejeooaaDeriveI
import Derived.Test.YtmmhkjdnejeooaaDeriveC
import Derived.Deep.RegionHeld3
import Derived.StillTailTactics
namespace Go.Proofs.Ytmmhkjdnejeooaa.T
open Go.RowKit Go.Shelf

theorem made_ints (n : Nat) : madeCells #[.int .i64 0] n = icells (List.replicate n 0) := by
  unfold icells
  rw [List.map_replicate]
  apply Array.ext'
  simp only [madeCells]
  apply List.ext_getElem
  · simp
  · intro i h1 h2; simp [Nat.mod_one]
/-- The blocks of the sizes that are found: by, size, and the box of size. -/
structure LeastAt (w : World) (base q1 q2 m n : Nat) (B S : List Int) : Prop where
  by_ : IntsAt w q1 B
  sz_ : IntsAt w q2 S
  box : Holds w m 57 #[.slice (some ⟨q2, 0, none⟩) n n]
  d12 : q1 ≠ q2
  d1m : q1 ≠ m
  d2m : q2 ≠ m
  b1 : base ≤ q1
  b2 : base ≤ q2
  bm : base ≤ m
theorem LeastAt.below {w w' : World} {base q1 q2 m n : Nat} {B S : List Int} (h : LeastAt w base q1 q2 m n B S) (hb : Below w.heap.size w w') : LeastAt w' base q1 q2 m n B S :=
  ⟨Holds.below h.by_ hb h.by_.lt, Holds.below h.sz_ hb h.sz_.lt, h.box.below hb h.box.lt, h.d12, h.d1m, h.d2m, h.b1, h.b2, h.bm⟩
theorem LeastAt.setB {w : World} {base q1 q2 m n : Nat} {B S : List Int} (h : LeastAt w base q1 q2 m n B S) (i : Nat) (z : Int) : LeastAt (w.setCell ⟨q1, i, none⟩ (.int .i64 z)) base q1 q2 m n (B.set i z) S :=
  ⟨IntsAt.set h.by_ i z, Holds.far h.sz_ (p := ⟨q1, i, none⟩) (fun e => h.d12 e.symm) _, h.box.far (p := ⟨q1, i, none⟩) (fun e => h.d1m e.symm) _, h.d12, h.d1m, h.d2m, h.b1, h.b2, h.bm⟩
theorem LeastAt.setS {w : World} {base q1 q2 m n : Nat} {B S : List Int} (h : LeastAt w base q1 q2 m n B S) (i : Nat) (z : Int) : LeastAt (w.setCell ⟨q2, i, none⟩ (.int .i64 z)) base q1 q2 m n B (S.set i z) :=
  ⟨Holds.far h.by_ (p := ⟨q2, i, none⟩) (fun e => h.d12 e) _, IntsAt.set h.sz_ i z, h.box.far (p := ⟨q2, i, none⟩) (fun e => h.d2m e.symm) _, h.d12, h.d1m, h.d2m, h.b1, h.b2, h.bm⟩

def costAt (w : World) (q : Nat) : Nat := match w.heap[q]? with
  | some (.cells cs _) => (cs.toList.map (fun v => match v with | .int _ z => costV z | _ => 0)).sum
  | _ => 0
theorem costAt_of {w : World} {q : Nat} {S : List Int} (h : IntsAt w q S) : costAt w q = costS S := by
  unfold costAt
  have h2 : w.heap[q]? = some (.cells (icells S) 3) := h
  rw [h2]
  simp only [icells, costS, List.map_map]
  rfl
def flagN : Value → Nat
  | .bool true => 1
  | _ => 0
def halfS (i n : Nat) : List Int := List.replicate i (-1) ++ List.replicate (n - i) 0
theorem halfS_zero (n : Nat) : halfS 0 n = List.replicate n 0 := by unfold halfS; simp
theorem halfS_full (n : Nat) : halfS n n = startS n := by unfold halfS startS; simp
theorem halfS_at {i n : Nat} (h : i < n) : (halfS i n)[i]? = some 0 := by
  unfold halfS
  rw [List.getElem?_append_right (by simp), List.length_replicate, Nat.sub_self, List.getElem?_replicate, if_pos (by omega)]
theorem halfS_succ {i n : Nat} (h : i < n) : (halfS i n).set i (-1) = halfS (i + 1) n := by
  unfold halfS
  rw [List.set_append_right _ _ (by simp), List.length_replicate, Nat.sub_self]
  obtain ⟨k, hk⟩ : ∃ k, n - i = k + 1 := ⟨n - i - 1, by omega⟩
  rw [hk, show n - (i + 1) = k by omega, List.replicate_succ, List.set_cons_zero, List.replicate_succ', List.append_assoc]
  rfl

set_option maxRecDepth 20000 in
set_option maxHeartbeats 16000000 in
theorem derive_least (a b c : Value) (g : Gram) (w : World) (HG : GramIs w (Old w) a b c g) (hsd : Sound g) (hsm : Small g) (hpr : ∀ p ∈ g.prods, p.right.length ≤ 4398046511104) :
    Calls Try.prog 32 #[.agg (gramCells a b c g)] w fun r w' => (∃ (q1 q2 : Nat) (S : List Int), r = .returned (.tuple #[.slice (some ⟨q1, 0, none⟩) g.rules.length g.rules.length, .slice (some ⟨q2, 0, none⟩) g.rules.length g.rules.length]) ∧ w.heap.size ≤ q1 ∧ w.heap.size ≤ q2 ∧
      Hid (IntsAt w' q1 (byD g.prods S)) ∧ Hid (IntsAt w' q2 S) ∧ ReachS g.prods g.rules.length S ∧ Settled g.prods S ∧ S.length = g.rules.length ∧ OkS S) ∧ Below w.heap.size w w' := by
  have HG2 := hidden HG
  have hr := hsm.rules
  obtain ⟨⟨A1, k1, rfl, v1, m1⟩, ⟨A2, k2, rfl, v2, m2⟩, ⟨A3, k3, rfl, v3, m3⟩⟩ := HG.vals
  unfold gramCells at *
  unfold maxLen at m1 m2 m3
  have hmk : ∀ w, (Instr.makeSlice 57 (.int .i64 (g.rules.length : Int)) (.int .i64 (g.rules.length : Int))).run Try.prog w = .ok (.slice (some ⟨w.heap.size, 0, none⟩) g.rules.length g.rules.length) (w.alloc (.cells (icells (List.replicate g.rules.length 0)) 3)) := fun w => by
    rw [← made_ints]
    exact run_make_row' (P := Try.prog) 57 3 (.int .i64 0) 8 (by kernel_rfl) (by kernel_rfl) rfl .i64 .i64 g.rules.length (by omega) (by omega) w
  have hb1 : Below w.heap.size w (w.alloc (.cells #[.slice A1 g.toks.length k1, .slice A2 g.rules.length k2, .slice A3 g.prods.length k3, .int .i64 g.start, .int .i64 g.states, .int .i64 g.text, .int .i64 g.nodes, .int .i64 g.pairs] 26)) := (Below.refl _ _).alloc (Nat.le_refl _) _
  have HB1 : Hid (Holds (w.alloc (.cells #[.slice A1 g.toks.length k1, .slice A2 g.rules.length k2, .slice A3 g.prods.length k3, .int .i64 g.start, .int .i64 g.states, .int .i64 g.text, .int .i64 g.nodes, .int .i64 g.pairs] 26)) w.heap.size 26 #[.slice A1 g.toks.length k1, .slice A2 g.rules.length k2, .slice A3 g.prods.length k3, .int .i64 g.start, .int .i64 g.states, .int .i64 g.text, .int .i64 g.nodes, .int .i64 g.pairs]) := hidden (Holds.new w _ _)
  clear HG hsm
  go_enter Try.func32, Try.ntmps32
  go_upto_region 1 with fail
  generalize (w.alloc (.cells #[.slice A1 g.toks.length k1, .slice A2 g.rules.length k2, .slice A3 g.prods.length k3, .int .i64 g.start, .int .i64 g.states, .int .i64 g.text, .int .i64 g.nodes, .int .i64 g.pairs] 26)) = w1 at *
  have x1 : w1.cell? ⟨w.heap.size, 1, none⟩ = some (.slice A2 g.rules.length k2) := HB1.out.cell 1
  go_cut [4, 5] from 15 to 22 (fun v4 v5 wx => ∃ (q1 q2 m : Nat), v4 = .slice (some ⟨q1, 0, none⟩) g.rules.length g.rules.length ∧ v5 = .pointer (some ⟨m, 0, none⟩) ∧ Hid (LeastAt wx w1.heap.size q1 q2 m g.rules.length (List.replicate g.rules.length 0) (List.replicate g.rules.length 0)) ∧ Hid (Below w1.heap.size w1 wx))
  case first =>
    go_region_held3 (fun w' => w'.cell? ⟨w.heap.size, 1, none⟩ = some (.slice A2 g.rules.length k2) ∧ Below w1.heap.size w1 w')
      (first | exact ⟨x1, Below.drew (Below.refl _ _)⟩ | (go_split_ands; exact ⟨cellF (by assumption) ((Below.refl _ _).alloc (Nat.le_refl _) _), Below.alloc (by assumption) (Below.size (by assumption)) _⟩) | exact ⟨cellF x1 (by first | exact ((((Below.refl _ _).alloc (Nat.le_refl _) _).alloc (by simp) _).alloc (by simp; omega) _).drew | exact (((Below.refl _ _).alloc (Nat.le_refl _) _).alloc (by simp) _).drew | exact ((Below.refl _ _).alloc (Nat.le_refl _) _).drew), (by first | exact ((((Below.refl _ _).alloc (Nat.le_refl _) _).alloc (by simp) _).alloc (by simp; omega) _).drew | exact (((Below.refl _ _).alloc (Nat.le_refl _) _).alloc (by simp) _).drew | exact ((Below.refl _ _).alloc (Nat.le_refl _) _).drew)⟩)
      (fail)
    all_goals
      go_wp2_with fail
      go_meet
      first
      | exact ⟨_, w1.heap.size, _, rfl, rfl, hidden ⟨(by repeat (first | (with_reducible assumption) | ((with_reducible refine holds_new ?_); (focus (first | rfl | (simp; done)))) | (with_reducible refine Holds.alloc ?_ _) | (with_reducible refine Holds.drew ?_))), (by repeat (first | (with_reducible assumption) | ((with_reducible refine holds_new ?_); (focus (first | rfl | (simp; done)))) | (with_reducible refine Holds.alloc ?_ _) | (with_reducible refine Holds.drew ?_))), (by repeat (first | (with_reducible assumption) | ((with_reducible refine holds_new ?_); (focus (first | rfl | (simp; done)))) | (with_reducible refine Holds.alloc ?_ _) | (with_reducible refine Holds.drew ?_))), by omega, by omega, by omega, by omega, by omega, by omega⟩, hidden (by repeat (first | (with_reducible exact Below.refl _ _) | (with_reducible assumption) | (with_reducible refine Below.drew ?_) | (with_reducible refine below_drewN ?_ _) | ((with_reducible refine below_alloc ?_ ?_); (focus (first | omega | (simp; done) | (simp; omega)))) | ((with_reducible refine below_set ?_ ?_); (focus (first | omega | (simp; done) | (simp; omega))))))⟩
      | exact ⟨_, w1.heap.size + 1, _, rfl, rfl, hidden ⟨(by repeat (first | (with_reducible assumption) | ((with_reducible refine holds_new ?_); (focus (first | rfl | (simp; done)))) | (with_reducible refine Holds.alloc ?_ _) | (with_reducible refine Holds.drew ?_))), (by repeat (first | (with_reducible assumption) | ((with_reducible refine holds_new ?_); (focus (first | rfl | (simp; done)))) | (with_reducible refine Holds.alloc ?_ _) | (with_reducible refine Holds.drew ?_))), (by repeat (first | (with_reducible assumption) | ((with_reducible refine holds_new ?_); (focus (first | rfl | (simp; done)))) | (with_reducible refine Holds.alloc ?_ _) | (with_reducible refine Holds.drew ?_))), by omega, by omega, by omega, by omega, by omega, by omega⟩, hidden (by repeat (first | (with_reducible exact Below.refl _ _) | (with_reducible assumption) | (with_reducible refine Below.drew ?_) | (with_reducible refine below_drewN ?_ _) | ((with_reducible refine below_alloc ?_ ?_); (focus (first | omega | (simp; done) | (simp; omega)))) | ((with_reducible refine below_set ?_ ?_); (focus (first | omega | (simp; done) | (simp; omega))))))⟩
      | exact ⟨_, w1.heap.size + 1 + 1, _, rfl, rfl, hidden ⟨(by repeat (first | (with_reducible assumption) | ((with_reducible refine holds_new ?_); (focus (first | rfl | (simp; done)))) | (with_reducible refine Holds.alloc ?_ _) | (with_reducible refine Holds.drew ?_))), (by repeat (first | (with_reducible assumption) | ((with_reducible refine holds_new ?_); (focus (first | rfl | (simp; done)))) | (with_reducible refine Holds.alloc ?_ _) | (with_reducible refine Holds.drew ?_))), (by repeat (first | (with_reducible assumption) | ((with_reducible refine holds_new ?_); (focus (first | rfl | (simp; done)))) | (with_reducible refine Holds.alloc ?_ _) | (with_reducible refine Holds.drew ?_))), by omega, by omega, by omega, by omega, by omega, by omega⟩, hidden (by repeat (first | (with_reducible exact Below.refl _ _) | (with_reducible assumption) | (with_reducible refine Below.drew ?_) | (with_reducible refine below_drewN ?_ _) | ((with_reducible refine below_alloc ?_ ?_); (focus (first | omega | (simp; done) | (simp; omega)))) | ((with_reducible refine below_set ?_ ?_); (focus (first | omega | (simp; done) | (simp; omega))))))⟩
  case rest =>
    obtain ⟨q1, q2, m, rfl, rfl, HL, HB⟩ := hcut
    clear x1 hmk
    have hR := hidden hr
    go_wp2
    go_loopw [25] (fun iv wr => ∃ i : Nat, iv = .int .i64 i ∧ i ≤ g.rules.length ∧ Hid (LeastAt wr w1.heap.size q1 q2 m g.rules.length (halfS i g.rules.length) (halfS i g.rules.length)) ∧ Hid (Below w1.heap.size w1 wr)) (fun iv wr => g.rules.length - (intOf iv).toNat)
    case atStart => exact ⟨0, by go_num, Nat.zero_le _, hidden (by rw [halfS_zero]; exact HL.out), HB⟩
    case round =>
      clear HL HB
      obtain ⟨i, rfl, hi, HL, HB⟩ := hrel
      by_cases hlt : i < g.rules.length
      · have qi : (i : Int) < (g.rules.length : Int) := by omega
        have hz := halfS_at hlt
        have z1 := IntsAt.at_ HL.out.by_ hz
        have z2 := IntsAt.at_ HL.out.sz_ hz
        have z3 := HL.out.box.c0
        have f1 := HL.out.by_.frozen i
        have f2 := HL.out.sz_.frozen i
        have d1 := HL.out.d12; have d2 := HL.out.d1m; have d3 := HL.out.d2m
        have l1 := HL.out.by_.lt; have l2 := HL.out.sz_.lt; have l3 := HL.out.box.lt
        clear hz
        go_upto_region 5 with fail
        go_region
        have HL2 := hidden (LeastAt.below ((HL.out.setB i (-1)).setS i (-1)) (Below.drew (Below.refl _ _)))
        rw [halfS_succ hlt] at HL2
        have HB2 := hidden (Below.drew (Below.setCell (Below.setCell HB.out (p := ⟨q1, i, none⟩) HL.out.b1 (.int .i64 (-1))) (p := ⟨q2, i, none⟩) HL.out.b2 (.int .i64 (-1))))
        clear HL HB z1 z2 z3 f1 f2 d1 d2 d3 l1 l2 l3
        go_wp2
        go_roundw
        case rel => exact ⟨i + 1, by go_num, by omega, HL2, HB2⟩
        case measure => simp [intOf]; omega
      · obtain rfl : i = g.rules.length := by omega
        have qi : ¬ (g.rules.length : Int) < (g.rules.length : Int) := by omega
        rw [halfS_full] at HL
        have HRe : Hid (ReachS g.prods g.rules.length (startS g.rules.length)) := hidden ⟨0, rfl⟩
        have HOk : Hid (OkS (startS g.rules.length)) := hidden (start_ok _)
        go_wp2
        go_loopw [8] (fun mv wr => ∃ (b : Bool) (S : List Int), mv = .bool b ∧ Hid (LeastAt wr w1.heap.size q1 q2 m g.rules.length (startS g.rules.length) S) ∧ Hid (ReachS g.prods g.rules.length S) ∧ Hid (OkS S) ∧ Hid (b = true ∨ Settled g.prods S) ∧ Hid (Below w1.heap.size w1 wr)) (fun mv wr => 2 * costAt wr q2 + flagN mv)
        case atStart => exact ⟨true, _, rfl, HL, HRe, HOk, hidden (.inl rfl), HB⟩
        case round =>
          clear HL HRe HOk HB
          obtain ⟨b, S, rfl, HL, HRe, HOk, HSt, HB⟩ := hrel
          have hSl := reachS_len HRe.out
          cases b
          · have hst : Settled g.prods S := by
              rcases HSt.out with h | h
              · cases h
              · exact h
            have HSt2 := hidden hst
            clear HSt hst
            have x2 : wr.cell? ⟨w.heap.size, 2, none⟩ = some (.slice A3 g.prods.length k3) := (HB1.out.below HB.out HB1.out.lt).cell 2
            have HL0 : Hid (LeastAt wr w1.heap.size q1 q2 m g.rules.length (byK g.prods S 0) S) := hidden (by
              have e : byK g.prods S 0 = startS g.rules.length := by unfold byK; rw [List.take_zero, hSl]; rfl
              rw [e]; exact HL.out)
            go_wp2
            clear x2
            go_loopw [75] (fun iv wr => ∃ k : Nat, iv = .int .i64 k ∧ k ≤ g.prods.length ∧ Hid (LeastAt wr w1.heap.size q1 q2 m g.rules.length (byK g.prods S k) S) ∧ Hid (Below w1.heap.size w1 wr)) (fun iv wr => g.prods.length - (intOf iv).toNat)
            case atStart => exact ⟨0, by go_num, Nat.zero_le _, HL0, HB⟩
            case round =>
              clear HL HL0 HB
              obtain ⟨k, rfl, hk, HL, HB⟩ := hrel
              by_cases hkl : k < g.prods.length
              · have qk : (k : Int) < (g.prods.length : Int) := by omega
                have hpx := List.getElem?_eq_getElem hkl
                have hpm := List.getElem_mem hkl
                have hlft := hsd.left _ hpm
                have hpz := hpr _ hpm
                have hrul := hsd.rule _ hpm
                generalize g.prods[k] = p at *
                obtain ⟨lf, hlf⟩ : ∃ lf : Nat, p.left = (lf : Int) := ⟨p.left.toNat, by omega⟩
                have hlfl : lf < g.rules.length := by omega
                obtain ⟨bp, op, up, e7, _, hpat, hpin⟩ := Recs.at_ HG2.out.2.2 hpx
                subst e7
                have p0 := hpat 0 _ rfl
                have p1 := hpat 1 _ rfl
                have hpin2 : Rd w (Old w) 4 up p.right.length (p.right.flatMap itCells) := hpin
                obtain ⟨Ar, cr, rfl, _, _⟩ := hpin2.val
                have hbw := hb1.trans (HB.out.mono hb1.size)
                have p0' : w.cell? ⟨bp, op + k * 2, none⟩ = some (.int .i64 p.left) := by have := p0; rwa [Nat.add_zero] at this
                have p1' : w.cell? ⟨bp, op + k * 2 + 1, none⟩ = some (.slice Ar p.right.length cr) := p1
                replace p0' := cellF p0' hbw; replace p1' := cellF p1' hbw
                have hss := List.getElem?_eq_getElem (show lf < S.length by omega)
                generalize S[lf] = s at *
                have HSz : Hid (szI S (lf : Int) = s) := hidden (szI_at hss)
                have hbwz := HB.out.size
                have HLx := hidden (HL.out.below ((Below.refl _ _).alloc (Nat.le_refl _) (.cells #[.int .i64 p.left, .slice Ar p.right.length cr] 56)))
                have HPx : Hid (Holds (wr.alloc (.cells #[.int .i64 p.left, .slice Ar p.right.length cr] 56)) wr.heap.size 56 #[.int .i64 p.left, .slice Ar p.right.length cr]) := hidden (Holds.new _ _ _)
                have HBx := hidden (HB.out.alloc hbwz (.cells #[.int .i64 p.left, .slice Ar p.right.length cr] 56))
                have HX := hidden (least_count (.slice Ar p.right.length cr) p S m q2 g.rules.length (wr.alloc (.cells #[.int .i64 p.left, .slice Ar p.right.length cr] 56)) (Rd.old hpin2 (hbw.alloc hbw.size _)) HLx.out.box HLx.out.sz_ hSl.symm (fun y hy h => by rw [hSl]; exact hrul y hy h) HOk.out hpz)
                have hpl := hlf
                have HCr := hidden (countP_range S hpz)
                rw [hlf] at p0' HPx HX HLx HBx
                clear hpat hpin hpin2 p0 p1 HL HB hbw
                go_wp2_with fail
                refine HX.out.mono ?_
                rintro r w5 ⟨rfl, hb5⟩
                replace HL := hidden (HLx.out.below hb5)
                replace HPx := hidden (HPx.out.below hb5 HPx.out.lt)
                replace HB := hidden (HBx.out.trans (hb5.mono HBx.out.size))
                clear HX HLx HBx hb5 p0' p1'
                have y0 := HPx.out.cell 0
                have z3 := HL.out.box.c0
                have z2 := IntsAt.at_ HL.out.sz_ hss
                have qlf : (lf : Int) < (g.rules.length : Int) := by omega
                have hbs := byK_succ (ps := g.prods) (S := S) hpx
                have hbl := byK_len (ps := g.prods) (S := S) k
                unfold byStep at hbs
                dsimp only at hbs
                generalize byK g.prods S k = BB at *
                have hbb := List.getElem?_eq_getElem (show lf < BB.length by omega)
                generalize BB[lf] = bz at *
                have z1 := IntsAt.at_ HL.out.by_ hbb
                have hbz : szI BB (lf : Int) = bz := szI_at hbb
                have HBS : Hid (∀ r, byB S BB p = r → byK g.prods S (k + 1) = if r = true then BB.set lf (k : Int) else BB) := hidden (fun r e => by rw [hbs, e, hpl, Int.toNat_natCast])
                have hbB : byB S BB p = (decide (0 ≤ countP S p) && (decide (countP S p = s) && decide (bz < 0))) := by unfold byB; rw [hpl, HSz.out, hbz]
                clear hbs hbz hbb
                by_cases hcn : 0 ≤ countP S p
                · have qc : decide (0 ≤ countP S p) = true := decide_eq_true hcn
                  by_cases hcs : countP S p = s
                  · have qcs : (countP S p == s) = true := by rw [hcs]; exact beq_self_eq_true _
                    by_cases hb0 : bz < 0
                    · have qb : decide (bz < 0) = true := decide_eq_true hb0
                      have HK := hidden (HBS.out true (by rw [hbB, qc, decide_eq_true hcs, qb]; rfl))
                      rw [if_pos rfl] at HK
                      have HL2 := hidden (HL.out.setB lf (k : Int))
                      rw [← HK.out] at HL2
                      have HB2 := hidden (Below.setCell HB.out (p := ⟨q1, lf, none⟩) HL.out.b1 (.int .i64 (k : Int)))
                      have f1 := HL.out.by_.frozen lf
                      have l1 := HL.out.by_.lt
                      clear HL HB HK hcs hcn
                      clear HBS hbB HSz HCr hpx hpm hlft hpz hrul hss hlf
                      generalize countP S p = cn at *
                      go_wp2
                      go_roundw
                      case rel => exact ⟨k + 1, by go_num, by omega, HL2, HB2⟩
                      case measure => simp [intOf]; omega
                    · have qb : decide (bz < 0) = false := decide_eq_false hb0
                      have HK := hidden (HBS.out false (by rw [hbB, qb]; simp))
                      rw [if_neg Bool.false_ne_true] at HK
                      have HL2 := HL
                      rw [← HK.out] at HL2
                      clear HL HK
                      (try clear hcs)
                      clear hcn
                      clear HBS hbB HSz HCr hpx hpm hlft hpz hrul hss hlf
                      generalize countP S p = cn at *
                      go_wp2
                      go_roundw
                      case rel => exact ⟨k + 1, by go_num, by omega, HL2, HB⟩
                      case measure => simp [intOf]; omega
                  · have qcs : (countP S p == s) = false := beq_eq_false_iff_ne.2 hcs
                    have HK := hidden (HBS.out false (by rw [hbB, decide_eq_false hcs]; simp))
                    rw [if_neg Bool.false_ne_true] at HK
                    have HL2 := HL
                    rw [← HK.out] at HL2
                    clear HL HK
                    (try clear hcs)
                    clear hcn
                    clear HBS hbB HSz HCr hpx hpm hlft hpz hrul hss hlf
                    generalize countP S p = cn at *
                    go_wp2
                    go_roundw
                    case rel => exact ⟨k + 1, by go_num, by omega, HL2, HB⟩
                    case measure => simp [intOf]; omega
                · have qc : decide (0 ≤ countP S p) = false := decide_eq_false hcn
                  have HK := hidden (HBS.out false (by rw [hbB, qc]; rfl))
                  rw [if_neg Bool.false_ne_true] at HK
                  have HL2 := HL
                  rw [← HK.out] at HL2
                  clear HL HK
                  (try clear hcs)
                  clear hcn
                  clear HBS hbB HSz HCr hpx hpm hlft hpz hrul hss hlf
                  generalize countP S p = cn at *
                  go_wp2
                  go_roundw
                  case rel => exact ⟨k + 1, by go_num, by omega, HL2, HB⟩
                  case measure => simp [intOf]; omega
              · obtain rfl : k = g.prods.length := by omega
                have qk : ¬ (g.prods.length : Int) < (g.prods.length : Int) := by omega
                have z3 := HL.out.box.c0
                have hbw := hb1.trans (HB.out.mono hb1.size)
                have hb1z := hb1.size
                clear HB
                go_wp2_with fail
                have e0 := Ext.cell z3
                refine wp_region_ext (by kernel_rfl) (by kernel_rfl) ?_
                repeat (go_big_quiet_step (fail))
                refine wpQuiet_nil ?_
                intro w6 hb6
                clear e0 z3
                have HLf := hidden (HL.out.below hb6)
                have hbf := hbw.trans (hb6.mono hbw.size)
                clear HL hb6 hbw
                go_wp2
                refine bodyPost_ret (v := .tuple #[.slice (some ⟨q1, 0, none⟩) g.rules.length g.rules.length, .slice (some ⟨q2, 0, none⟩) g.rules.length g.rules.length]) (by simp [results, Try.results32, go_sem]) rfl ?_
                exact ⟨⟨q1, q2, S, rfl, Nat.le_trans hb1z HLf.out.b1, Nat.le_trans hb1z HLf.out.b2, hidden HLf.out.by_, hidden HLf.out.sz_, HRe.out, HSt2.out, hSl, HOk.out⟩, hbf⟩
          · clear HSt
            have x2 : wr.cell? ⟨w.heap.size, 2, none⟩ = some (.slice A3 g.prods.length k3) := (HB1.out.below HB.out HB1.out.lt).cell 2
            have hms : costAt wr q2 = costS S := costAt_of HL.out.sz_
            have HMs := hidden hms
            clear hms
            go_wp2
            clear x2
            go_loopw [8, 40] (fun mv iv wr => ∃ (k : Nat) (b : Bool) (M : List Int), mv = .bool b ∧ iv = .int .i64 k ∧ k ≤ g.prods.length ∧ Hid (PassS g.prods S k b M) ∧ Hid (LeastAt wr w1.heap.size q1 q2 m g.rules.length (startS g.rules.length) M) ∧ Hid (OkS M) ∧ M.length = g.rules.length ∧ Hid (Below w1.heap.size w1 wr)) (fun mv iv wr => g.prods.length - (intOf iv).toNat)
            case atStart => exact ⟨0, false, S, rfl, by go_num, Nat.zero_le _, hidden (PassS.start _ _), HL, HOk, hSl, HB⟩
            case round =>
              clear HL HOk HB
              obtain ⟨k, b, M, rfl, rfl, hk, HP, HL, HOk, hMl, HB⟩ := hrel
              by_cases hkl : k < g.prods.length
              · have qk : (k : Int) < (g.prods.length : Int) := by omega
                have hpx := List.getElem?_eq_getElem hkl
                have hpm := List.getElem_mem hkl
                have hlft := hsd.left _ hpm
                have hpz := hpr _ hpm
                have hrul := hsd.rule _ hpm
                generalize g.prods[k] = p at *
                obtain ⟨lf, hlf⟩ : ∃ lf : Nat, p.left = (lf : Int) := ⟨p.left.toNat, by omega⟩
                have hlfl : lf < g.rules.length := by omega
                obtain ⟨bp, op, up, e7, _, hpat, hpin⟩ := Recs.at_ HG2.out.2.2 hpx
                subst e7
                have p0 := hpat 0 _ rfl
                have p1 := hpat 1 _ rfl
                have hpin2 : Rd w (Old w) 4 up p.right.length (p.right.flatMap itCells) := hpin
                obtain ⟨Ar, cr, rfl, _, _⟩ := hpin2.val
                have hbw := hb1.trans (HB.out.mono hb1.size)
                have p0' : w.cell? ⟨bp, op + k * 2, none⟩ = some (.int .i64 p.left) := by have := p0; rwa [Nat.add_zero] at this
                have p1' : w.cell? ⟨bp, op + k * 2 + 1, none⟩ = some (.slice Ar p.right.length cr) := p1
                replace p0' := cellF p0' hbw; replace p1' := cellF p1' hbw
                have hss := List.getElem?_eq_getElem (show lf < M.length by omega)
                generalize M[lf] = s at *
                have HSz : Hid (szI M (lf : Int) = s) := hidden (szI_at hss)
                have hbwz := HB.out.size
                have HLx := hidden (HL.out.below ((Below.refl _ _).alloc (Nat.le_refl _) (.cells #[.int .i64 p.left, .slice Ar p.right.length cr] 56)))
                have HPx : Hid (Holds (wr.alloc (.cells #[.int .i64 p.left, .slice Ar p.right.length cr] 56)) wr.heap.size 56 #[.int .i64 p.left, .slice Ar p.right.length cr]) := hidden (Holds.new _ _ _)
                have HBx := hidden (HB.out.alloc hbwz (.cells #[.int .i64 p.left, .slice Ar p.right.length cr] 56))
                have HX := hidden (least_count (.slice Ar p.right.length cr) p M m q2 g.rules.length (wr.alloc (.cells #[.int .i64 p.left, .slice Ar p.right.length cr] 56)) (Rd.old hpin2 (hbw.alloc hbw.size _)) HLx.out.box HLx.out.sz_ hMl.symm (fun y hy h => by rw [hMl]; exact hrul y hy h) HOk.out hpz)
                have hpl := hlf
                have HCr := hidden (countP_range M hpz)
                rw [hlf] at p0' HPx HX HLx HBx
                clear hpat hpin hpin2 p0 p1 HL HB hbw
                go_wp2_with fail
                refine HX.out.mono ?_
                rintro r w5 ⟨rfl, hb5⟩
                replace HL := hidden (HLx.out.below hb5)
                replace HPx := hidden (HPx.out.below hb5 HPx.out.lt)
                replace HB := hidden (HBx.out.trans (hb5.mono HBx.out.size))
                clear HX HLx HBx hb5 p0' p1'
                have y0 := HPx.out.cell 0
                have z3 := HL.out.box.c0
                have z2 := IntsAt.at_ HL.out.sz_ hss
                have qlf : (lf : Int) < (g.rules.length : Int) := by omega
                by_cases hcn : 0 ≤ countP M p
                · have qc : decide (0 ≤ countP M p) = true := decide_eq_true hcn
                  by_cases hs0 : s < 0
                  · have qs0 : decide (s < 0) = true := decide_eq_true hs0
                    have hbt : betterB M p = true := by unfold betterB; rw [hpl, HSz.out, qc, qs0]; rfl
                    have HP2 := hidden (HP.out.yes hpx hpz (by rw [hMl]; exact hlft) hbt)
                    rw [hpl, Int.toNat_natCast] at HP2
                    have HL2 := hidden (HL.out.setS lf (countP M p))
                    have HB2 := hidden (Below.setCell HB.out (p := ⟨q2, lf, none⟩) HL.out.b2 (.int .i64 (countP M p)))
                    have HOk2 : Hid (OkS (M.set lf (countP M p))) := hidden (by
                      have := step_ok (S := M) (p := p) hpz HOk.out
                      unfold stepS at this
                      rwa [if_pos hbt, hpl, Int.toNat_natCast] at this)
                    have f2 := HL.out.sz_.frozen lf
                    have l2 := HL.out.sz_.lt
                    clear HP HL HB HOk hbt HSz HCr hpx hpm hlft hpz hrul hss hlf
                    generalize countP M p = cn at *
                    go_wp2
                    go_roundw
                    case rel => exact ⟨k + 1, true, _, rfl, by go_num, by omega, HP2, HL2, HOk2, by rw [List.length_set]; exact hMl, HB2⟩
                    case measure => simp [intOf]; omega
                  · have qs0 : decide (s < 0) = false := decide_eq_false hs0
                    by_cases hcs : countP M p < s
                    · have qcs : decide (countP M p < s) = true := decide_eq_true hcs
                      have hbt : betterB M p = true := by unfold betterB; rw [hpl, HSz.out, qc, qcs]; simp
                      have HP2 := hidden (HP.out.yes hpx hpz (by rw [hMl]; exact hlft) hbt)
                      rw [hpl, Int.toNat_natCast] at HP2
                      have HL2 := hidden (HL.out.setS lf (countP M p))
                      have HB2 := hidden (Below.setCell HB.out (p := ⟨q2, lf, none⟩) HL.out.b2 (.int .i64 (countP M p)))
                      have HOk2 : Hid (OkS (M.set lf (countP M p))) := hidden (by
                        have := step_ok (S := M) (p := p) hpz HOk.out
                        unfold stepS at this
                        rwa [if_pos hbt, hpl, Int.toNat_natCast] at this)
                      have f2 := HL.out.sz_.frozen lf
                      have l2 := HL.out.sz_.lt
                      clear HP HL HB HOk hbt HSz HCr hpx hpm hlft hpz hrul hss hlf
                      generalize countP M p = cn at *
                      go_wp2
                      go_roundw
                      case rel => exact ⟨k + 1, true, _, rfl, by go_num, by omega, HP2, HL2, HOk2, by rw [List.length_set]; exact hMl, HB2⟩
                      case measure => simp [intOf]; omega
                    · have qcs : decide (countP M p < s) = false := decide_eq_false hcs
                      have hbt : betterB M p = false := by unfold betterB; rw [hpl, HSz.out, qc, qcs, qs0]; rfl
                      have HP2 := hidden (HP.out.no hpx hbt)
                      clear HP hbt HSz HCr hpx hpm hlft hpz hrul hss hlf
                      generalize countP M p = cn at *
                      go_wp2
                      go_roundw
                      case rel => exact ⟨k + 1, b, _, rfl, by go_num, by omega, HP2, HL, HOk, hMl, HB⟩
                      case measure => simp [intOf]; omega
                · have qc : decide (0 ≤ countP M p) = false := decide_eq_false hcn
                  have hbt : betterB M p = false := by unfold betterB; rw [qc]; rfl
                  have HP2 := hidden (HP.out.no hpx hbt)
                  clear HP hbt HSz HCr hpx hpm hlft hpz hrul hss hlf
                  generalize countP M p = cn at *
                  go_wp2
                  go_roundw
                  case rel => exact ⟨k + 1, b, _, rfl, by go_num, by omega, HP2, HL, HOk, hMl, HB⟩
                  case measure => simp [intOf]; omega
              · obtain rfl : k = g.prods.length := by omega
                have qk : ¬ (g.prods.length : Int) < (g.prods.length : Int) := by omega
                obtain ⟨hM, hor⟩ := HP.out.done
                have HRe2 := hidden (reachS_next HRe.out)
                rw [← hM] at HRe2
                have hc2 : costAt wr q2 = costS M := costAt_of HL.out.sz_
                have HC2 := hidden hc2
                have HOr := hidden hor
                clear HP hM hor hc2
                go_wp2
                go_roundw
                case rel => exact ⟨b, M, rfl, HL, HRe2, HOk, hidden (by rcases HOr.out with ⟨h1, _, h2⟩ | ⟨h1, h2⟩; exact .inr h2; exact .inl h1), HB⟩
                case measure =>
                  rw [HC2.out, HMs.out]
                  rcases HOr.out with ⟨h1, h2, _⟩ | ⟨h1, h2⟩
                  · subst h1 h2
                    show 2 * costS M + 0 < 2 * costS M + 1
                    omega
                  · subst h1
                    show 2 * costS M + 1 < 2 * costS S + 1
                    omega
end Go.Proofs.Ytmmhkjdnejeooaa.T
