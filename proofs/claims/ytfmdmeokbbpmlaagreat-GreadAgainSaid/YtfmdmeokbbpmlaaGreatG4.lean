/-
  gram.Same. law18.Few. law18.knows. law18: GramChecks, GramAsks. Of a grammar that is right: each name is found; each production is of one rule. Plain. An argument of texts, opened. Arguments of steps, items, tokens, productions and grammars, opened.
-/
import Derived.Test.YtfmdmeokbbpmlaaGreatG2
import Derived.Test.YtfmdmeokbbpmlaaGreatG3
import Derived.Test.YtfmdmeokbbpmlaaGreatG1
import Derived.Test.YtfmdmeokbbpmlaaGreatB1
import Derived.Deep.Slices
import Derived.ChangeArms
import Derived.Laws.IdiomArrays
namespace Go.Proofs.YtfmdmeokbbpmlaaGreat
open Go.RowKit Go.Shelf

end Go.Proofs.YtfmdmeokbbpmlaaGreat

namespace Go.Proofs.YtfmdmeokbbpmlaaGreat
open Go.RowKit Go.Shelf

theorem min_if (a b : Int) : (if a < b then a else b) = min a b := by rw [Int.min_def]; split <;> split <;> omega
def capd (n : Nat) : Int := min 1000 (n : Int)
def tokSum : List Token → Int
  | [] => 0
  | t :: l => capd t.rex.length + capd t.name.size + tokSum l
def strSum : List ByteArray → Int
  | [] => 0
  | s :: l => capd s.size + strSum l
def prodSum : List Prod → Int
  | [] => 0
  | p :: l => capd p.right.length + prodSum l
def smallG (g : Gram) : Prop := g.toks.length ≤ 70 ∧ g.rules.length ≤ 70 ∧ g.prods.length ≤ 260
def fewG (g : Gram) : Prop := smallG g ∧ tokSum g.toks + strSum g.rules + prodSum g.prods ≤ 1500
noncomputable def fewB (g : Gram) : Bool := holdsB (fewG g)
theorem capd_bd (n : Nat) : 0 ≤ capd n ∧ capd n ≤ 1000 := by unfold capd; omega
theorem tokSum_app (l m : List Token) : tokSum (l ++ m) = tokSum l + tokSum m := by
  induction l with
  | nil => simp [tokSum]
  | cons t l ih => simp only [List.cons_append, tokSum, ih]; omega
theorem strSum_app (l m : List ByteArray) : strSum (l ++ m) = strSum l + strSum m := by
  induction l with
  | nil => simp [strSum]
  | cons t l ih => simp only [List.cons_append, strSum, ih]; omega
theorem prodSum_app (l m : List Prod) : prodSum (l ++ m) = prodSum l + prodSum m := by
  induction l with
  | nil => simp [prodSum]
  | cons t l ih => simp only [List.cons_append, prodSum, ih]; omega
theorem tokSum_bd (l : List Token) : 0 ≤ tokSum l ∧ tokSum l ≤ 2000 * l.length := by
  induction l with
  | nil => simp [tokSum]
  | cons t l ih =>
    have := capd_bd t.rex.length
    have := capd_bd t.name.size
    simp only [tokSum, List.length_cons]; omega
theorem strSum_bd (l : List ByteArray) : 0 ≤ strSum l ∧ strSum l ≤ 1000 * l.length := by
  induction l with
  | nil => simp [strSum]
  | cons t l ih =>
    have := capd_bd t.size
    simp only [strSum, List.length_cons]; omega
theorem prodSum_bd (l : List Prod) : 0 ≤ prodSum l ∧ prodSum l ≤ 1000 * l.length := by
  induction l with
  | nil => simp [prodSum]
  | cons t l ih =>
    have := capd_bd t.right.length
    simp only [prodSum, List.length_cons]; omega

set_option maxRecDepth 20000 in
set_option maxHeartbeats 8000000 in
theorem law_Few (a b c : Value) (g : Gram) (w : World) (HG : GramIs w (Old w) a b c g) (hz : ∀ s ∈ allNames g, s.size ≤ maxLen) :
    Calls Tryz.prog 10 #[.agg (gramCells a b c g)] w fun r w' => r = .returned (.bool (fewB g)) ∧ Below w.heap.size w w' := by
  have HGo := hidden (fun (w' : World) (hb : Below w.heap.size w w') => HG.old hb)
  have HZt : Hid (∀ (k : Nat) (t : Token), g.toks[k]? = some t → t.name.size ≤ maxLen) := hidden (fun k t h => hz _ (by unfold allNames; exact List.mem_append_left _ (List.mem_of_getElem? (tokNames_at h))))
  have HZr : Hid (∀ (k : Nat) (s : ByteArray), g.rules[k]? = some s → s.size ≤ maxLen) := hidden (fun k s h => hz _ (by unfold allNames; exact List.mem_append_right _ (List.mem_of_getElem? h)))
  obtain ⟨⟨A1, k1, rfl, v1, m1⟩, ⟨A2, k2, rfl, v2, m2⟩, ⟨A3, k3, rfl, v3, m3⟩⟩ := HG.vals
  clear HG hz
  have HF := hidden (show fewB g = holdsB (fewG g) from rfl)
  generalize fewB g = res at *
  unfold gramCells maxLen at *
  go_enter Tryz.func10, Tryz.ntmps10
  go_wp2
  go_loopw [3, 4] (fun nn ii wr => ∃ (k : Nat) (z : Int), k ≤ g.toks.length ∧ ii = .int .i64 k ∧ nn = .int .i64 z ∧ Hid (smallG g → z = tokSum (g.toks.take k)) ∧ Below w.heap.size w wr ∧ w.heap.size + 1 ≤ wr.heap.size
    ∧ Hid (Holds wr w.heap.size 27 #[.slice A1 g.toks.length k1, .slice A2 g.rules.length k2, .slice A3 g.prods.length k3, .int .i64 g.start, .int .i64 g.states, .int .i64 g.text, .int .i64 g.nodes, .int .i64 g.pairs])) (fun _ ii _ => g.toks.length - (intOf ii).toNat)
  case atStart => exact ⟨0, 0, by omega, rfl, rfl, hidden (fun _ => rfl), (by repeat (first | (with_reducible exact Below.refl _ _) | (with_reducible assumption) | (with_reducible refine Below.drew ?_) | (with_reducible refine below_drewN ?_ _) | ((with_reducible refine below_alloc ?_ ?_); (focus (first | omega | (simp; done) | (simp; omega)))) | ((with_reducible refine below_set ?_ ?_); (focus (first | omega | (simp; done) | (simp; omega)))))), by simp, hidden (by repeat (first | (with_reducible assumption) | ((with_reducible refine holds_new ?_); (focus (first | rfl | (simp; done)))) | (with_reducible refine Holds.alloc ?_ _) | (with_reducible refine Holds.drew ?_)))⟩
  case round =>
    obtain ⟨k, z, hk, rfl, rfl, HZ, hb, hz, HB⟩ := hrel
    obtain ⟨x0, x1, x2, x3, x4, x5, x6, x7⟩ := eight HB.out
    by_cases hlt : k < g.toks.length
    · have hx := List.getElem?_eq_getElem hlt
      generalize g.toks[k] = t at *
      obtain ⟨b1, o1, l1, rfl, hT, hat, hin⟩ := (HGo.out wr hb).1.at_ hx
      obtain ⟨A4, k4, rfl, _, m4⟩ := hin.val
      have y0 : wr.cell? ⟨b1, o1 + k * 3, none⟩ = some (.string t.name) := hat 0 _ rfl
      have y1 : wr.cell? ⟨b1, o1 + k * 3 + 1, none⟩ = some (.slice A4 t.rex.length k4) := hat 1 _ rfl
      have HX : Hid (tokSum (g.toks.take (k + 1)) = tokSum (g.toks.take k) + (capd t.rex.length + capd t.name.size)) := hidden (by
        rw [← take_snoc_at hx, tokSum_app]; simp [tokSum])
      have hzt := HZt.out k t hx
      unfold maxLen at m4
      clear hat hx hin
      have e0 := Ext.cell x0
      have f0 := Ext.cell y0; have f1 := Ext.cell y1
      go_wp2_with fail
      refine wp_region_ext (by kernel_rfl) (by kernel_rfl) ?_
      repeat (go_big_quiet_step (fail))
      refine wpQuiet_nil ?_
      simp only [min_if]
      intro w2 hb2
      clear e0 f0 f1 x0 x1 x2 x3 x4 x5 x6 x7 y0 y1
      replace HB := hidden (HB.out.below hb2 (by omega))
      have hz2 := hb2.size
      replace hb := hb.trans (hb2.mono hb.size)
      clear hb2
      obtain ⟨z2, hz2'⟩ : ∃ z2, z2 = wrap64 (wrap64 (z + min 1000 (t.rex.length : Int)) + min 1000 (t.name.size : Int)) := ⟨_, rfl⟩
      have HZ2 : Hid (smallG g → z2 = tokSum (g.toks.take (k + 1))) := hidden (fun hs => by
        have h1 := HZ.out hs
        have h2 := tokSum_bd (g.toks.take k)
        have h3 : (g.toks.take k).length ≤ 70 := by rw [List.length_take]; have := hs.1; omega
        have h4 := capd_bd t.rex.length
        have h5 := capd_bd t.name.size
        rw [HX.out, hz2']
        unfold capd at *
        unfold wrap64
        omega)
      rw [← hz2']
      clear hz2' HX HZ
      go_wp2
      go_roundw
      case rel => exact ⟨k + 1, z2, by omega, by go_num, rfl, HZ2, hb, by omega, HB⟩
      case measure => simp [intOf]; omega
    · obtain rfl : k = g.toks.length := by omega
      have HZ1 : Hid (smallG g → z = tokSum g.toks + strSum (g.rules.take 0)) := hidden (fun hs => by rw [HZ.out hs, List.take_of_length_le (Nat.le_refl _)]; simp [strSum])
      clear HZ
      go_wp2
      have hbA := hb
      have hzA := hz
      have HBA := HB
      clear hb hz HB x0 x1 x2 x3 x4 x5 x6 x7
      obtain ⟨wo, rfl⟩ : ∃ wo : World, wo = wr := ⟨_, rfl⟩
      go_loopw [3, 5] (fun nn ii wr => ∃ (k : Nat) (z : Int), k ≤ g.rules.length ∧ ii = .int .i64 k ∧ nn = .int .i64 z ∧ Hid (smallG g → z = tokSum g.toks + strSum (g.rules.take k)) ∧ Below w.heap.size w wr ∧ w.heap.size + 1 ≤ wr.heap.size ∧ Hid (Holds wr w.heap.size 27 #[.slice A1 g.toks.length k1, .slice A2 g.rules.length k2, .slice A3 g.prods.length k3, .int .i64 g.start, .int .i64 g.states, .int .i64 g.text, .int .i64 g.nodes, .int .i64 g.pairs])) (fun _ ii _ => g.rules.length - (intOf ii).toNat)
      case atStart => exact ⟨0, z, by omega, rfl, rfl, HZ1, hbA, hzA, HBA⟩
      case round =>
        clear hbA hzA HBA HZ1
        obtain ⟨k, z, hk, rfl, rfl, HZ, hb, hz, HB⟩ := hrel
        obtain ⟨x0, x1, x2, x3, x4, x5, x6, x7⟩ := eight HB.out
        by_cases hlt : k < g.rules.length
        · have hx := List.getElem?_eq_getElem hlt
          generalize g.rules[k] = s at *
          obtain ⟨b1, o1, rfl, hT, y0⟩ := strs_at (HGo.out wr hb).2.1 hx
          have HX : Hid (strSum (g.rules.take (k + 1)) = strSum (g.rules.take k) + capd s.size) := hidden (by
            rw [← take_snoc_at hx, strSum_app]; simp [strSum])
          have hzt := HZr.out k s hx
          clear hx
          go_wp2
          simp only [min_if]
          obtain ⟨z2, hz2'⟩ : ∃ z2, z2 = wrap64 (z + min 1000 (s.size : Int)) := ⟨_, rfl⟩
          have HZ2 : Hid (smallG g → z2 = tokSum g.toks + strSum (g.rules.take (k + 1))) := hidden (fun hs => by
            have h1 := HZ.out hs
            have h2 := strSum_bd (g.rules.take k)
            have h3 : (g.rules.take k).length ≤ 70 := by rw [List.length_take]; have := hs.2.1; omega
            have h4 := capd_bd s.size
            have h5 := tokSum_bd g.toks
            have h6 := hs.1
            rw [HX.out, hz2']
            unfold capd at *
            unfold wrap64
            omega)
          exact ⟨⟨k + 1, z2, by omega, by go_num, by rw [hz2'], HZ2, hb, hz, HB⟩, by simp [intOf]; omega⟩
        · obtain rfl : k = g.rules.length := by omega
          have HZ1 : Hid (smallG g → z = tokSum g.toks + strSum g.rules + prodSum (g.prods.take 0)) := hidden (fun hs => by rw [HZ.out hs, List.take_of_length_le (Nat.le_refl _)]; simp [prodSum])
          clear HZ
          go_wp2
          have hbA := hb
          have hzA := hz
          have HBA := HB
          clear hb hz HB x0 x1 x2 x3 x4 x5 x6 x7
          obtain ⟨wq, rfl⟩ : ∃ wo : World, wo = wr := ⟨_, rfl⟩
          go_loopw [3, 6] (fun nn ii wr => ∃ (k : Nat) (z : Int), k ≤ g.prods.length ∧ ii = .int .i64 k ∧ nn = .int .i64 z ∧ Hid (smallG g → z = tokSum g.toks + strSum g.rules + prodSum (g.prods.take k)) ∧ Below w.heap.size w wr ∧ w.heap.size + 1 ≤ wr.heap.size ∧ Hid (Holds wr w.heap.size 27 #[.slice A1 g.toks.length k1, .slice A2 g.rules.length k2, .slice A3 g.prods.length k3, .int .i64 g.start, .int .i64 g.states, .int .i64 g.text, .int .i64 g.nodes, .int .i64 g.pairs])) (fun _ ii _ => g.prods.length - (intOf ii).toNat)
          case atStart => exact ⟨0, z, by omega, rfl, rfl, HZ1, hbA, hzA, HBA⟩
          case round =>
            clear hbA hzA HBA HZ1
            obtain ⟨k, z, hk, rfl, rfl, HZ, hb, hz, HB⟩ := hrel
            obtain ⟨x0, x1, x2, x3, x4, x5, x6, x7⟩ := eight HB.out
            by_cases hlt : k < g.prods.length
            · have hx := List.getElem?_eq_getElem hlt
              generalize g.prods[k] = p at *
              obtain ⟨b1, o1, l1, rfl, hT, hat, hin⟩ := (HGo.out wr hb).2.2.at_ hx
              obtain ⟨A4, k4, rfl, _, m4⟩ := hin.val
              have y1 : wr.cell? ⟨b1, o1 + k * 2 + 1, none⟩ = some (.slice A4 p.right.length k4) := hat 1 _ rfl
              have HX : Hid (prodSum (g.prods.take (k + 1)) = prodSum (g.prods.take k) + capd p.right.length) := hidden (by
                rw [← take_snoc_at hx, prodSum_app]; simp [prodSum])
              unfold maxLen at m4
              clear hat hx hin
              go_wp2
              simp only [min_if]
              obtain ⟨z2, hz2'⟩ : ∃ z2, z2 = wrap64 (z + min 1000 (p.right.length : Int)) := ⟨_, rfl⟩
              have HZ2 : Hid (smallG g → z2 = tokSum g.toks + strSum g.rules + prodSum (g.prods.take (k + 1))) := hidden (fun hs => by
                have h1 := HZ.out hs
                have h2 := prodSum_bd (g.prods.take k)
                have h3 : (g.prods.take k).length ≤ 260 := by rw [List.length_take]; have := hs.2.2; omega
                have h4 := capd_bd p.right.length
                have h5 := tokSum_bd g.toks
                have h6 := hs.1
                have h7 := strSum_bd g.rules
                have h8 := hs.2.1
                rw [HX.out, hz2']
                unfold capd at *
                unfold wrap64
                omega)
              exact ⟨⟨k + 1, z2, by omega, by go_num, by rw [hz2'], HZ2, hb, hz, HB⟩, by simp [intOf]; omega⟩
            · obtain rfl : k = g.prods.length := by omega
              have HZ1 : Hid (smallG g → z = tokSum g.toks + strSum g.rules + prodSum g.prods) := hidden (fun hs => by rw [HZ.out hs, List.take_of_length_le (Nat.le_refl _)])
              clear HZ
              by_cases c1 : g.toks.length ≤ 70
              · by_cases c2 : g.rules.length ≤ 70
                · by_cases c3 : g.prods.length ≤ 260
                  · have HE : Hid (res = decide (z ≤ 1500)) := hidden (by
                      rw [HF.out, Bool.eq_iff_iff, holdsB_iff, decide_eq_true_iff, HZ1.out ⟨c1, c2, c3⟩]
                      exact ⟨fun h => h.2, fun h => ⟨⟨c1, c2, c3⟩, h⟩⟩)
                    have q1 : decide ((g.toks.length : Int) ≤ 70) = true := by simp; omega
                    have q2 : decide ((g.rules.length : Int) ≤ 70) = true := by simp; omega
                    have q3 : decide ((g.prods.length : Int) ≤ 260) = true := by simp; omega
                    go_wp2
                    go_ret
                    exact ⟨by rw [HE.out]; rfl, hb⟩
                  · have HE : Hid (res = false) := hidden (by rw [HF.out]; exact holdsB_false (fun h => c3 h.1.2.2))
                    have q1 : decide ((g.toks.length : Int) ≤ 70) = true := by simp; omega
                    have q2 : decide ((g.rules.length : Int) ≤ 70) = true := by simp; omega
                    have q3 : decide ((g.prods.length : Int) ≤ 260) = false := by simp; omega
                    go_wp2
                    go_ret
                    exact ⟨by rw [HE.out]; rfl, hb⟩
                · have HE : Hid (res = false) := hidden (by rw [HF.out]; exact holdsB_false (fun h => c2 h.1.2.1))
                  have q1 : decide ((g.toks.length : Int) ≤ 70) = true := by simp; omega
                  have q2 : decide ((g.rules.length : Int) ≤ 70) = false := by simp; omega
                  go_wp2
                  go_ret
                  exact ⟨by rw [HE.out]; rfl, hb⟩
              · have HE : Hid (res = false) := hidden (by rw [HF.out]; exact holdsB_false (fun h => c1 h.1.1))
                have q1 : decide ((g.toks.length : Int) ≤ 70) = false := by simp; omega
                go_wp2
                go_ret
                exact ⟨by rw [HE.out]; rfl, hb⟩
end Go.Proofs.YtfmdmeokbbpmlaaGreat

namespace Go.Proofs.YtfmdmeokbbpmlaaGreat
open Go.RowKit Go.Shelf

theorem Recs.nil {α : Type} (R : Rec α) (w : World) (T : Nat → Prop) : Recs R w T (.slice none 0 0) [] := ⟨[], rfl, Rd.nil _ _ _, fun i x l h => by simp at h⟩
def g0 : Gram := ⟨[], [], [], 0, 0, 0, 0, 0⟩
theorem g0_is (w : World) (T : Nat → Prop) : GramIs w T (.slice none 0 0) (.slice none 0 0) (.slice none 0 0) g0 := ⟨Recs.nil _ _ _, Rd.nil _ _ _, Recs.nil _ _ _⟩
theorem g0_check : checkOf g0 = ⟨2, 0, 0⟩ := by
  unfold checkOf sizesOf g0
  simp [orD]
abbrev sS : ByteArray := ⟨#[115]⟩
def g1 : Gram := ⟨[], [sS], [⟨0, []⟩], 0, 1, 1, 1, 1⟩
theorem sS_name : nameB sS = true := holdsB_true ⟨by decide, by decide, fun i h => by
  have h' : i < 1 := h
  have : i = 0 := by omega
  subst this
  left; exact (by decide : partOf (115 : Int) = 2)⟩
theorem g1_check : checkOf g1 = D0 := by
  have e1 : sizesOf g1 = D0 := by simp [sizesOf, g1]
  have e2 : firstD (tokD g1) 0 g1.toks.length = D0 := rfl
  have e3 : ruleD g1 0 = D0 := by
    have h0 : g1.rules[0]? = some sS := rfl
    have ht : (allNames g1).take (g1.toks.length + 0) = [] := rfl
    have e : nameErr sS [] = 0 := by
      unfold nameErr
      rw [sS_name, if_neg (by decide), if_neg (by rw [holdsB_false (by simp)]; decide)]
    unfold ruleD
    rw [h0]
    dsimp only
    rw [ht, e, if_neg (by simp)]
  have e3' : firstD (ruleD g1) 0 g1.rules.length = D0 := first0_miss (fun m hm => by
    have hm' : m < 1 := hm
    obtain rfl : m = 0 := by omega
    rw [e3]; rfl)
  have e4 : firstD (prodD g1) 0 g1.prods.length = D0 := by kernel_rfl
  have e5 : wholeD g1 = D0 := by kernel_rfl
  unfold checkOf
  rw [e1, e2, e3', e4, e5]
  rfl
theorem g1_right : rightB g1 = true := by unfold rightB; rw [g1_check]; rfl
theorem g1_rule : isRule g1 sS = true ∧ findNo g1 sS = 0 := by
  have e1 : findOf (tokNames g1) sS = -1 := find_miss (fun m hm => by simp [tokNames, g1] at hm)
  have e2 : findOf g1.rules sS = ((0 : Nat) : Int) := find_hit rfl (fun m hm => by omega)
  unfold isRule findNo
  rw [e1, e2]
  exact ⟨rfl, rfl⟩
theorem g1_is {w : World} {T : Nat → Prop} {b1 b2 : Nat} (h1 : Holds w b1 9 #[.string sS]) (h2 : Holds w b2 50 #[.int .i64 0, .slice none 0 0]) (t1 : T b1) (t2 : T b2) :
    GramIs w T (.slice none 0 0) (.slice (some ⟨b1, 0, none⟩) 1 1) (.slice (some ⟨b2, 0, none⟩) 1 1) g1 := by
  refine ⟨Recs.nil _ _ _, ⟨rfl, _, 1, rfl, Nat.le_refl _, by decide, fun _ => ⟨b1, 0, rfl, t1, fun j u hu => ?_⟩⟩, ⟨[.slice none 0 0], rfl, ⟨rfl, _, 1, rfl, Nat.le_refl _, by decide, fun _ => ⟨b2, 0, rfl, t2, fun j u hu => ?_⟩⟩, fun i x l hx hl => ?_⟩⟩
  · rw [Nat.zero_add, h1.cell j]
    simpa [g1, strC] using hu
  · rw [Nat.zero_add, h2.cell j]
    simpa [g1, Rec.all, prodR] using hu
  · match i with
    | 0 =>
      simp [g1] at hx hl
      subst hx hl
      exact Rd.nil _ _ _
    | i + 1 => simp [g1] at hx

end Go.Proofs.YtfmdmeokbbpmlaaGreat

namespace Go.Proofs.YtfmdmeokbbpmlaaGreat
open Go.RowKit Go.Shelf

set_option maxRecDepth 50000 in
theorem def_eq_run (w : World) (x y : Defect) : (Op.equalIn 10000 35 (.agg #[.int .i64 x.kind, .int .i64 x.at_, .int .i64 x.more]) (.agg #[.int .i64 y.kind, .int .i64 y.at_, .int .i64 y.more])).run Tryz.prog w = .ok (eqB x y) w := by
  have e : eqB x y = (x.kind == y.kind && (x.at_ == y.at_ && x.more == y.more)) := by
    obtain ⟨a, b, c⟩ := x
    obtain ⟨a', b', c'⟩ := y
    rw [Bool.eq_iff_iff, eqB_iff]
    simp only [Defect.mk.injEq, Bool.and_eq_true, beq_iff_eq]
  rw [e, show (10000 : Nat) = 9999 + 1 from rfl, run_equalIn_agg _ _ _ _ _ (by kernel_rfl) (by kernel_rfl)]
  obtain ⟨f0, f1, f2, hl, n0, n1, n2, o0, o1, o2, t0, t1, t2⟩ : ∃ f0 f1 f2 : Field, (Tryz.prog.fieldsOf 35).toList = [f0, f1, f2] ∧ f0.name ≠ "_" ∧ f1.name ≠ "_" ∧ f2.name ≠ "_" ∧ f0.offset = 0 ∧ f1.offset = 1 ∧ f2.offset = 2 ∧ f0.type = 28 ∧ f1.type = 3 ∧ f2.type = 3 := ⟨_, _, _, rfl, by decide, by decide, by decide, rfl, rfl, rfl, rfl, rfl, rfl⟩
  have hu0 : Tryz.prog.underlying 28 = some (.int .i64) := by kernel_rfl
  have hu1 : Tryz.prog.underlying 3 = some (.int .i64) := by kernel_rfl
  rw [hl]
  simp only [Op.eqFields, n0, n1, n2, o0, o1, o2, t0, t1, t2, ne_eq, not_false_eq_true, if_true]
  have p0 : ∀ (a b c : Value), (part 28 #[a, b, c] 0).run Tryz.prog w = .ok a w := fun _ _ _ => by kernel_rfl
  have p1 : ∀ (a b c : Value), (part 3 #[a, b, c] 1).run Tryz.prog w = .ok b w := fun _ _ _ => by kernel_rfl
  have p2 : ∀ (a b c : Value), (part 3 #[a, b, c] 2).run Tryz.prog w = .ok c w := fun _ _ _ => by kernel_rfl
  simp only [Sem.run_bind, p0, p1, p2, Result.andThen_ok, run_equalIn_int w _ _ _ _ _ _ hu0, run_equalIn_int w _ _ _ _ _ _ hu1, Sem.run_ite, Sem.run_pure]
  cases x.kind == y.kind <;> cases x.at_ == y.at_ <;> cases x.more == y.more <;> simp
theorem _root_.Go.RowKit.Below.more {w a w' : World} (h : Below w.heap.size w a) (k : Below a.heap.size a w') : Below w.heap.size w w' := h.trans (k.mono h.size)
theorem right_eq (g : Gram) : eqB (checkOf g) D0 = rightB g := by
  unfold rightB
  rw [Bool.eq_iff_iff, eqB_iff, decide_eq_true_iff]
  exact ⟨fun h => by rw [h]; rfl, check_clean g⟩
/-- What Few says of sizes. -/
theorem few_small {g : Gram} (h : fewB g = true) : g.toks.length ≤ 70 ∧ g.rules.length ≤ 70 ∧ g.prods.length ≤ 260 := (holdsB_iff.1 h).1

end Go.Proofs.YtfmdmeokbbpmlaaGreat

namespace Go.Proofs.YtfmdmeokbbpmlaaGreat
open Go.RowKit Go.Shelf

def allOf (g : Gram) : Nat → List Int
  | 0 => []
  | k + 1 => allOf g k ++ ofRule g k
/-- What is right of a grammar that is. -/
structure RightG (g : Gram) : Prop where
  sizes : sizesOf g = D0
  tok : ∀ i, i < g.toks.length → (tokD g i).kind = 0
  rule : ∀ i, i < g.rules.length → (ruleD g i).kind = 0
  prod : ∀ i, i < g.prods.length → (prodD g i).kind = 0
  start : (startD g).kind = 0
  none_ : ∀ i, i < g.rules.length → (noneD g i).kind = 0
theorem right_iff (g : Gram) : (checkOf g).kind = 0 ↔ RightG g := by
  constructor
  · intro h
    unfold checkOf at h
    obtain ⟨h1, h2⟩ := orD_kind.1 h
    obtain ⟨h3, h4⟩ := orD_kind.1 h2
    obtain ⟨h5, h6⟩ := orD_kind.1 h4
    obtain ⟨h7, h8⟩ := orD_kind.1 h6
    unfold wholeD at h8
    obtain ⟨h9, h10⟩ := orD_kind.1 h8
    exact ⟨sizes_clean g h1, first0_kind.1 h3, first0_kind.1 h5, first0_kind.1 h7, h9, first0_kind.1 h10⟩
  · intro h
    unfold checkOf wholeD
    rw [orD_kind, orD_kind, orD_kind, orD_kind, orD_kind]
    exact ⟨by rw [h.sizes]; rfl, first0_kind.2 h.tok, first0_kind.2 h.rule, first0_kind.2 h.prod, h.start, first0_kind.2 h.none_⟩
theorem nameErr_zero {s : ByteArray} {l : List ByteArray} (h : nameErr s l = 0) : nameB s = true ∧ s ∉ l := by
  unfold nameErr at h
  split at h
  · cases h
  · rename_i h1
    split at h
    · cases h
    · rename_i h2
      exact ⟨by simpa using h1, fun hm => h2 (holdsB_true hm)⟩
theorem nameErr_ok {s : ByteArray} {l : List ByteArray} (h1 : nameB s = true) (h2 : s ∉ l) : nameErr s l = 0 := by
  unfold nameErr
  rw [if_neg (by rw [h1]; decide), if_neg (by rw [holdsB_false h2]; decide)]
theorem RightG.tokName {g : Gram} (h : RightG g) {i : Nat} {t : Token} (ht : g.toks[i]? = some t) : nameB t.name = true ∧ t.name ∉ (tokNames g).take i := by
  have hi := (List.getElem?_eq_some_iff.1 ht).1
  have h1 := h.tok i hi
  unfold tokD at h1
  rw [ht] at h1
  dsimp only at h1
  unfold tokErr at h1
  dsimp only at h1
  by_cases e : nameErr t.name ((allNames g).take i) = 0
  · have := nameErr_zero e
    have e2 : (allNames g).take i = (tokNames g).take i := by
      unfold allNames
      rw [List.take_append_of_le_length (by simp [tokNames]; omega)]
    rw [e2] at this
    exact this
  · rw [if_pos e] at h1
    exact absurd h1 e
theorem RightG.ruleName {g : Gram} (h : RightG g) {i : Nat} {s : ByteArray} (hs : g.rules[i]? = some s) : nameB s = true ∧ s ∉ tokNames g ∧ s ∉ g.rules.take i := by
  have hi := (List.getElem?_eq_some_iff.1 hs).1
  have h1 := h.rule i hi
  unfold ruleD at h1
  rw [hs] at h1
  dsimp only at h1
  by_cases e : nameErr s ((allNames g).take (g.toks.length + i)) = 0
  · have := nameErr_zero e
    have e2 : (allNames g).take (g.toks.length + i) = tokNames g ++ g.rules.take i := by
      unfold allNames
      rw [show g.toks.length = (tokNames g).length by simp [tokNames], List.take_length_add_append]
    rw [e2, List.mem_append] at this
    exact ⟨this.1, fun hm => this.2 (.inl hm), fun hm => this.2 (.inr hm)⟩
  · rw [if_pos e] at h1
    exact absurd h1 e
theorem find_first {l : List ByteArray} {i : Nat} {s : ByteArray} (h : l[i]? = some s) (hn : s ∉ l.take i) : findOf l s = (i : Int) := find_hit h (fun m hm he => hn (List.mem_of_getElem? (i := m) (by rw [List.getElem?_take_of_lt hm]; exact he)))
theorem find_not {l : List ByteArray} {s : ByteArray} (hn : s ∉ l) : findOf l s = -1 := find_miss (fun _ _ he => hn (List.mem_of_getElem? he))
theorem RightG.findTok {g : Gram} (h : RightG g) {i : Nat} {t : Token} (ht : g.toks[i]? = some t) : isRule g t.name = false ∧ findNo g t.name = i := by
  have e : findOf (tokNames g) t.name = (i : Int) := find_first (by simp [tokNames, ht]) (h.tokName ht).2
  unfold isRule findNo
  rw [e, if_pos (by omega), decide_eq_false (by omega)]
  exact ⟨rfl, rfl⟩
theorem RightG.findRule {g : Gram} (h : RightG g) {i : Nat} {s : ByteArray} (hs : g.rules[i]? = some s) : isRule g s = true ∧ findNo g s = i := by
  obtain ⟨_, h1, h2⟩ := h.ruleName hs
  have e1 := find_not h1
  have e2 := find_first hs h2
  unfold isRule findNo
  rw [e1, e2, if_neg (by omega), decide_eq_true (by omega), decide_eq_true (by omega)]
  exact ⟨rfl, rfl⟩
theorem RightG.someOf {g : Gram} (h : RightG g) {i : Nat} (hi : i < g.rules.length) : (ofRule g i).length ≠ 0 := by
  have := h.none_ i hi
  unfold noneD at this
  split at this
  · cases this
  · assumption
theorem mem_ofRule {g : Gram} {r x : Int} : x ∈ ofRule g r ↔ ∃ (j : Nat) (p : Prod), g.prods[j]? = some p ∧ p.left = r ∧ x = j := by
  unfold ofRule ofUpto
  rw [List.mem_map]
  constructor
  · rintro ⟨j, hj, rfl⟩
    rw [List.mem_filter, List.mem_range] at hj
    obtain ⟨h1, h2⟩ := hj
    have hx := List.getElem?_eq_getElem h1
    unfold isOf at h2
    rw [hx] at h2
    exact ⟨j, _, hx, by simpa using h2, rfl⟩
  · rintro ⟨j, p, h1, h2, rfl⟩
    refine ⟨j, ?_, rfl⟩
    rw [List.mem_filter, List.mem_range]
    refine ⟨(List.getElem?_eq_some_iff.1 h1).1, ?_⟩
    unfold isOf
    rw [h1]
    simpa using h2
theorem ofRule_nodup (g : Gram) (r : Int) : (ofRule g r).Nodup := by
  unfold ofRule ofUpto List.Nodup
  rw [List.pairwise_map]
  refine (List.Pairwise.filter _ List.pairwise_lt_range).imp ?_
  intro a b h
  omega
theorem RightG.left {g : Gram} (h : RightG g) {j : Nat} {p : Prod} (hp : g.prods[j]? = some p) : 0 ≤ p.left ∧ p.left < g.rules.length := by
  have := h.prod j (List.getElem?_eq_some_iff.1 hp).1
  unfold prodD at this
  rw [hp] at this
  dsimp only at this
  unfold prodErr at this
  split at this
  · cases this
  · omega
theorem mem_allOf {g : Gram} {x : Int} : ∀ k : Nat, x ∈ allOf g k ↔ ∃ (j : Nat) (p : Prod), g.prods[j]? = some p ∧ (0 ≤ p.left ∧ p.left < k) ∧ x = j := by
  intro k
  induction k with
  | zero => exact ⟨(fun h => by cases h), (fun ⟨j, p, _, h, _⟩ => by omega)⟩
  | succ k ih =>
    unfold allOf
    rw [List.mem_append, ih, mem_ofRule]
    constructor
    · rintro (⟨j, p, h1, h2, h3⟩ | ⟨j, p, h1, h2, h3⟩)
      · exact ⟨j, p, h1, by omega, h3⟩
      · exact ⟨j, p, h1, by omega, h3⟩
    · rintro ⟨j, p, h1, h2, h3⟩
      by_cases e : p.left = k
      · exact .inr ⟨j, p, h1, e, h3⟩
      · exact .inl ⟨j, p, h1, by omega, h3⟩
theorem allOf_nodup (g : Gram) : ∀ k : Nat, (allOf g k).Nodup := by
  intro k
  induction k with
  | zero => exact List.nodup_nil
  | succ k ih =>
    unfold allOf
    rw [List.nodup_append]
    refine ⟨ih, ofRule_nodup g k, fun a ha b hb e => ?_⟩
    subst e
    rw [mem_allOf] at ha
    rw [mem_ofRule] at hb
    obtain ⟨j, p, h1, h2, rfl⟩ := ha
    obtain ⟨j', p', h1', h2', h3'⟩ := hb
    obtain rfl : j = j' := by omega
    rw [h1] at h1'; cases h1'
    omega
theorem RightG.allLen {g : Gram} (h : RightG g) : (allOf g g.rules.length).length = g.prods.length := by
  have hn : ((List.range g.prods.length).map (fun (i : Nat) => (i : Int))).Nodup := by
    unfold List.Nodup
    rw [List.pairwise_map]
    exact List.pairwise_lt_range.imp (fun h => by omega)
  have hp : (allOf g g.rules.length).Perm ((List.range g.prods.length).map (fun (i : Nat) => (i : Int))) := by
    rw [List.perm_ext_iff_of_nodup (allOf_nodup g _) hn]
    intro x
    rw [mem_allOf, List.mem_map]
    constructor
    · rintro ⟨j, p, h1, _, rfl⟩
      exact ⟨j, List.mem_range.2 (List.getElem?_eq_some_iff.1 h1).1, rfl⟩
    · rintro ⟨j, hj, rfl⟩
      have hx := List.getElem?_eq_getElem (List.mem_range.1 hj)
      exact ⟨j, _, hx, h.left hx, rfl⟩
  rw [hp.length_eq, List.length_map, List.length_range]
theorem mem_putOf {l : List Int} {n x : Int} : x ∈ putOf l n ↔ x ∈ l ∨ x = n := by
  unfold putOf
  split
  · rename_i h
    have := holdsB_iff.1 h
    exact ⟨.inl, fun h => h.elim id (fun e => e ▸ this)⟩
  · rw [List.mem_append, List.mem_cons]
    constructor
    · rintro (h | h | h)
      · exact .inl (List.takeWhile_subset _ h)
      · exact .inr h
      · exact .inl (List.dropWhile_subset _ h)
    · rintro (h | h)
      · rw [← List.takeWhile_append_dropWhile (p := fun x => decide (x < n)) (l := l), List.mem_append] at h
        exact h.elim .inl (fun h => .inr (.inr h))
      · exact .inr (.inl h)
theorem putOf_new {l : List Int} {n : Int} (h : n ∉ l) : (putOf l n).length = l.length + 1 := by
  unfold putOf
  rw [if_neg (by rw [holdsB_false h]; decide)]
  have := List.takeWhile_append_dropWhile (p := fun x => decide (x < n)) (l := l)
  have h2 := congrArg List.length this
  rw [List.length_append] at h2
  rw [List.length_append, List.length_cons]
  omega
theorem fold_put_nodup : ∀ (l acc : List Int), l.Nodup → (∀ x ∈ l, x ∉ acc) → (l.foldl putOf acc).length = acc.length + l.length := by
  intro l
  induction l with
  | nil => intro acc _ _; simp
  | cons x l ih =>
    intro acc hn hd
    rw [List.nodup_cons] at hn
    rw [List.foldl_cons, ih (putOf acc x) hn.2 (fun y hy hm => by
      rw [mem_putOf] at hm
      rcases hm with hm | rfl
      · exact hd y (List.mem_cons_of_mem _ hy) hm
      · exact hn.1 hy), putOf_new (hd x (List.mem_cons_self ..)), List.length_cons]
    omega
theorem setOf_nodup {l : List Int} (h : l.Nodup) : (setOf l).length = l.length := by
  unfold setOf
  rw [fold_put_nodup l [] h (fun _ _ h => by cases h)]
  simp
theorem nodup_sub_len : ∀ (l m : List Int), l.Nodup → (∀ x ∈ l, x ∈ m) → l.length ≤ m.length := by
  intro l
  induction l with
  | nil => intro m _ _; simp
  | cons x l ih =>
    intro m hn hs
    rw [List.nodup_cons] at hn
    have hx := hs x (List.mem_cons_self ..)
    have := ih (m.erase x) hn.2 (fun y hy => by
      have hne : y ≠ x := fun e => hn.1 (e ▸ hy)
      exact (List.mem_erase_of_ne hne).2 (hs y (List.mem_cons_of_mem _ hy)))
    rw [List.length_erase_of_mem hx] at this
    have := List.length_pos_of_mem hx
    rw [List.length_cons]
    omega
theorem allOf_len_le (g : Gram) (k : Nat) : (allOf g k).length ≤ g.prods.length := by
  have hsub : ∀ x ∈ allOf g k, x ∈ (List.range g.prods.length).map (fun (i : Nat) => (i : Int)) := by
    intro x hx
    rw [mem_allOf] at hx
    obtain ⟨j, p, h1, _, rfl⟩ := hx
    exact List.mem_map.2 ⟨j, List.mem_range.2 (List.getElem?_eq_some_iff.1 h1).1, rfl⟩
  have := nodup_sub_len _ _ (allOf_nodup g k) hsub
  rwa [List.length_map, List.length_range] at this
end Go.Proofs.YtfmdmeokbbpmlaaGreat

namespace Go.Proofs.YtfmdmeokbbpmlaaGreat
open Go.RowKit Go.Shelf Go.ChangeShapes Go.WideShapes

theorem list_of {α : Type} (Q : Nat → α → Prop) : ∀ n, (∀ i, i < n → ∃ x, Q i x) → ∃ l : List α, l.length = n ∧ ∀ i x, l[i]? = some x → Q i x := by
  intro n
  induction n with
  | zero => exact fun _ => ⟨[], rfl, fun i x h => by simp at h⟩
  | succ n ih =>
    intro h
    obtain ⟨l, hl, hq⟩ := ih (fun i hi => h i (by omega))
    obtain ⟨x, hx⟩ := h n (by omega)
    refine ⟨l ++ [x], by simp [hl], fun i y hy => ?_⟩
    by_cases hi : i < n
    · rw [List.getElem?_append_left (by omega)] at hy; exact hq i y hy
    · obtain rfl : i = n := by
        have := (List.getElem?_eq_some_iff.1 hy).1
        simp [hl] at this; omega
      rw [List.getElem?_append_right (by omega), hl] at hy
      simp at hy; subst hy; exact hx

/-- Cells that stand one element behind another, each of k. -/
theorem rd_of_flat {α : Type} {w : World} {a : Addr} {n c k : Nat} (f : α → List Value) (hk : 0 < k) (hf : ∀ x, (f x).length = k) (l : List α) (hl : l.length = n) (hc1 : n ≤ c) (hc2 : c ≤ maxLen)
    (h : ∀ i x, l[i]? = some x → ∀ j u, (f x)[j]? = some u → w.cell? (a.add (i * k + j)) = some u) : Rd w (Old w) k (.slice (some a) n c) n (l.flatMap f) := by
  refine ⟨by rw [flat_len f k hf, hl], _, _, rfl, hc1, hc2, fun h0 => ?_⟩
  rw [flat_len f k hf] at h0
  have hl0 : 0 < l.length := by
    by_cases e : l.length = 0
    · rw [e] at h0; omega
    · omega
  have hx := List.getElem?_eq_getElem hl0
  have hfx : 0 < (f l[0]).length := by rw [hf]; exact hk
  have hfirst := h 0 _ hx 0 _ (List.getElem?_eq_getElem hfx)
  have hadd : a.add (0 * k + 0) = a := by simp [Addr.add]
  rw [hadd] at hfirst
  have hsp := World.cell?_spot hfirst
  obtain ⟨b, off, sp⟩ := a
  dsimp only at hsp
  subst hsp
  obtain ⟨o, ho, _⟩ := cells_of_cell hfirst
  refine ⟨b, off, rfl, (Array.getElem?_eq_some_iff.1 ho).1, fun j u hu => ?_⟩
  have hj : j < l.length * k := by
    have := (List.getElem?_eq_some_iff.1 hu).1
    rwa [flat_len f k hf] at this
  have hi : j / k < l.length := Nat.div_lt_of_lt_mul (by rw [Nat.mul_comm]; exact hj)
  have e : j / k * k + j % k = j := by rw [Nat.mul_comm]; exact Nat.div_add_mod j k
  have hy := List.getElem?_eq_getElem hi
  have := flat_at f k hf l (j / k) (j % k) _ hy (Nat.mod_lt _ hk)
  rw [e] at this
  rw [this] at hu
  have := h _ _ hy _ _ hu
  rwa [e, addr_add] at this

section
variable {H : Type} {enc : TypeId × Value → H} {w : World} {base : Nat} {spare : Nat → Bool} {held : Bool}
theorem open_strs {fuel : Nat} {v : Value} {x : DataW H × List MemPlace} (h : DataW.trod enc Tryz.prog w base spare held fuel 24 [v] = some x) :
    ∃ l : List ByteArray, Strs w (Old w) v l ∧ ∀ s ∈ l, s.size ≤ maxLen := by
  rcases Go.Deep.open_slice (e := 9) (by kernel_rfl) h with ⟨e, hx⟩ | ⟨a, len, cap, m, n, D, Pl, e, hb, hl, hm, hmm, hxd, hx⟩
  · cases e
    exact ⟨[], Rd.nil _ _ _, fun p hp => (by cases hp)⟩
  · cases e
    have hlm : len ≤ m := by rw [hmm]; split <;> omega
    obtain ⟨ps, hps, hq⟩ := list_of (fun i (p : ByteArray) => (∀ j u, (strC p)[j]? = some u → w.cell? (a.add (i * 1 + j)) = some u) ∧ p.size ≤ maxLen) len (fun i hi => by
      obtain ⟨cs', h1, h2⟩ := hx i (by omega)
      rw [show Tryz.prog.cellsOf 9 = 1 by kernel_rfl] at h1
      obtain ⟨_, hlen, hcell⟩ := World.cells?_some h1
      match cs', hlen with
      | [y0], _ =>
        obtain ⟨s, e1, d1, hs⟩ := DataW.trod_string (by kernel_rfl) h2
        cases e1
        refine ⟨s, fun j u hj => ?_, hs⟩
        have hj2 : j < 1 := (List.getElem?_eq_some_iff.1 hj).1
        have := hcell j hj2
        rw [Go.Deep.add_add] at this
        rw [this]
        exact hj)
    refine ⟨ps, ?_, fun s hs => ?_⟩
    · have := rd_of_flat (w := w) (a := a) (c := cap) strC (by decide) (fun _ => rfl) ps hps hl hm (fun i x hi => (hq i x hi).1)
      unfold Strs
      rw [hps]
      exact this
    · obtain ⟨i, hi, e⟩ := List.mem_iff_getElem.1 hs
      have hx := List.getElem?_eq_getElem hi
      rw [e] at hx
      exact (hq i s hx).2
end
end Go.Proofs.YtfmdmeokbbpmlaaGreat

namespace Go.Proofs.YtfmdmeokbbpmlaaGreat
open Go.RowKit Go.Shelf Go.ChangeShapes Go.WideShapes

set_option maxRecDepth 100000 in
theorem rx_fields : ∃ f0 f1 : Field, Tryz.prog.underlying 103 = some (.struct #[f0, f1]) ∧ f0.offset = 0 ∧ f1.offset = 1 ∧ Tryz.prog.underlying f0.type = some (.int .i64) ∧ Tryz.prog.underlying f1.type = some (.array 4 99) ∧ Tryz.prog.cellsOf f0.type = 1 ∧ Tryz.prog.cellsOf f1.type = 4 :=
  ⟨_, _, rfl, rfl, rfl, rfl, rfl, by kernel_rfl, by kernel_rfl⟩
set_option maxRecDepth 100000 in
theorem item_fields : ∃ f0 f1 f2 f3 : Field, Tryz.prog.underlying 47 = some (.struct #[f0, f1, f2, f3]) ∧ (f0.offset = 0 ∧ f1.offset = 1 ∧ f2.offset = 2 ∧ f3.offset = 3) ∧
    (Tryz.prog.underlying f0.type = some .bool ∧ Tryz.prog.underlying f1.type = some (.int .i64) ∧ Tryz.prog.underlying f2.type = some (.int .i64) ∧ Tryz.prog.underlying f3.type = some (.int .i64)) ∧
    Tryz.prog.cellsOf f0.type = 1 ∧ Tryz.prog.cellsOf f1.type = 1 ∧ Tryz.prog.cellsOf f2.type = 1 ∧ Tryz.prog.cellsOf f3.type = 1 :=
  ⟨_, _, _, _, rfl, ⟨rfl, rfl, rfl, rfl⟩, ⟨rfl, rfl, rfl, rfl⟩, by kernel_rfl, by kernel_rfl, by kernel_rfl, by kernel_rfl⟩
set_option maxRecDepth 100000 in
theorem tok_fields : ∃ f0 f1 f2 : Field, Tryz.prog.underlying 42 = some (.struct #[f0, f1, f2]) ∧ (f0.offset = 0 ∧ f1.offset = 1 ∧ f2.offset = 2) ∧
    (Tryz.prog.underlying f0.type = some .string ∧ f1.type = 39 ∧ Tryz.prog.underlying f2.type = some (.int .i64)) ∧
    Tryz.prog.cellsOf f0.type = 1 ∧ Tryz.prog.cellsOf f1.type = 1 ∧ Tryz.prog.cellsOf f2.type = 1 :=
  ⟨_, _, _, rfl, ⟨rfl, rfl, rfl⟩, ⟨rfl, rfl, rfl⟩, by kernel_rfl, by kernel_rfl, by kernel_rfl⟩
set_option maxRecDepth 100000 in
theorem prod_fields : ∃ f0 f1 : Field, Tryz.prog.underlying 50 = some (.struct #[f0, f1]) ∧ (f0.offset = 0 ∧ f1.offset = 1) ∧
    (Tryz.prog.underlying f0.type = some (.int .i64) ∧ f1.type = 48) ∧ Tryz.prog.cellsOf f0.type = 1 ∧ Tryz.prog.cellsOf f1.type = 1 :=
  ⟨_, _, rfl, ⟨rfl, rfl⟩, ⟨rfl, rfl⟩, by kernel_rfl, by kernel_rfl⟩
set_option maxRecDepth 100000 in
theorem gram_fields : ∃ f0 f1 f2 f3 f4 f5 f6 f7 : Field, Tryz.prog.underlying 27 = some (.struct #[f0, f1, f2, f3, f4, f5, f6, f7]) ∧ (f0.offset = 0 ∧ f1.offset = 1 ∧ f2.offset = 2 ∧ f3.offset = 3 ∧ f4.offset = 4 ∧ f5.offset = 5 ∧ f6.offset = 6 ∧ f7.offset = 7) ∧
    (f0.type = 23 ∧ f1.type = 24 ∧ f2.type = 25 ∧ Tryz.prog.underlying f3.type = some (.int .i64) ∧ Tryz.prog.underlying f4.type = some (.int .i64) ∧ Tryz.prog.underlying f5.type = some (.int .i64) ∧ Tryz.prog.underlying f6.type = some (.int .i64) ∧ Tryz.prog.underlying f7.type = some (.int .i64)) ∧
    (Tryz.prog.cellsOf f0.type = 1 ∧ Tryz.prog.cellsOf f1.type = 1 ∧ Tryz.prog.cellsOf f2.type = 1 ∧ Tryz.prog.cellsOf f3.type = 1 ∧ Tryz.prog.cellsOf f4.type = 1 ∧ Tryz.prog.cellsOf f5.type = 1 ∧ Tryz.prog.cellsOf f6.type = 1 ∧ Tryz.prog.cellsOf f7.type = 1) :=
  ⟨_, _, _, _, _, _, _, _, rfl, ⟨rfl, rfl, rfl, rfl, rfl, rfl, rfl, rfl⟩, ⟨rfl, rfl, rfl, rfl, rfl, rfl, rfl, rfl⟩, by kernel_rfl, by kernel_rfl, by kernel_rfl, by kernel_rfl, by kernel_rfl, by kernel_rfl, by kernel_rfl, by kernel_rfl⟩

section
variable {H : Type} {enc : TypeId × Value → H} {w : World} {base : Nat} {spare : Nat → Bool} {held : Bool}
set_option maxRecDepth 100000 in
theorem open_rx {fuel : Nat} {v : Value} {x : DataW H × List MemPlace} (h : DataW.trod enc Tryz.prog w base spare held fuel 39 [v] = some x) : ∃ l : List Rx, Rd w (Old w) 5 v l.length (l.flatMap rxCells) := by
  rcases Go.Deep.open_slice (e := 103) (by kernel_rfl) h with ⟨e, _⟩ | ⟨a, len, cap, m, n, D, Pl, e, hb, hl, hm, hmm, _, hx⟩
  · cases e
    exact ⟨[], Rd.nil _ _ _⟩
  · cases e
    have hlm : len ≤ m := by rw [hmm]; split <;> omega
    obtain ⟨ps, hps, hq⟩ := list_of (fun i (p : Rx) => ∀ j u, (rxCells p)[j]? = some u → w.cell? (a.add (i * 5 + j)) = some u) len (fun i hi => by
      obtain ⟨cs', h1, h2⟩ := hx i (by omega)
      rw [show Tryz.prog.cellsOf 103 = 5 by kernel_rfl] at h1
      obtain ⟨_, hlen, hcell⟩ := World.cells?_some h1
      obtain ⟨f0, f1, hu, o0, o1, u0, u1, k0, k1⟩ := rx_fields
      obtain ⟨xs, k, _, _, _, hxl, hf⟩ := DataW.trod_struct hu h2
      match cs', hlen with
      | [y0, y1, y2, y3, y4], _ =>
        have t0 := hf 0 f0 rfl
        have t1 := hf 1 f1 rfl
        match xs, hxl with
        | [z0, z1], _ =>
          simp only [o0, o1, k0, k1, List.drop_zero, List.take_succ_cons, List.take_zero, List.drop_succ_cons, List.getElem?_cons_zero, List.getElem?_cons_succ] at t0 t1
          obtain ⟨kd, e0, _⟩ := DataW.trod_int u0 t0
          obtain ⟨q0, q1, q2, q3, n', _, g0, g1, g2, g3⟩ := trod_array4 u1 (by kernel_rfl) t1
          have hu64 : Tryz.prog.underlying 99 = some (.int .u64) := by kernel_rfl
          obtain ⟨s0, e1, _⟩ := DataW.trod_int hu64 g0
          obtain ⟨s1, e2, _⟩ := DataW.trod_int hu64 g1
          obtain ⟨s2, e3, _⟩ := DataW.trod_int hu64 g2
          obtain ⟨s3, e4, _⟩ := DataW.trod_int hu64 g3
          cases e0; cases e1; cases e2; cases e3; cases e4
          refine ⟨⟨kd, s0, s1, s2, s3⟩, fun j u hj => ?_⟩
          have hj2 : j < 5 := (List.getElem?_eq_some_iff.1 hj).1
          have := hcell j hj2
          rw [Go.Deep.add_add] at this
          rw [this]
          exact hj)
    exact ⟨ps, by
      have := rd_of_flat (w := w) (a := a) (c := cap) rxCells (by decide) (fun _ => rfl) ps hps hl hm hq
      rw [hps]
      exact this⟩
set_option maxRecDepth 100000 in
theorem open_items {fuel : Nat} {v : Value} {x : DataW H × List MemPlace} (h : DataW.trod enc Tryz.prog w base spare held fuel 48 [v] = some x) : ∃ l : List Item, Rd w (Old w) 4 v l.length (l.flatMap itCells) := by
  rcases Go.Deep.open_slice (e := 47) (by kernel_rfl) h with ⟨e, _⟩ | ⟨a, len, cap, m, n, D, Pl, e, hb, hl, hm, hmm, _, hx⟩
  · cases e
    exact ⟨[], Rd.nil _ _ _⟩
  · cases e
    have hlm : len ≤ m := by rw [hmm]; split <;> omega
    obtain ⟨ps, hps, hq⟩ := list_of (fun i (p : Item) => ∀ j u, (itCells p)[j]? = some u → w.cell? (a.add (i * 4 + j)) = some u) len (fun i hi => by
      obtain ⟨cs', h1, h2⟩ := hx i (by omega)
      rw [show Tryz.prog.cellsOf 47 = 4 by kernel_rfl] at h1
      obtain ⟨_, hlen, hcell⟩ := World.cells?_some h1
      obtain ⟨f0, f1, f2, f3, hu, ⟨o0, o1, o2, o3⟩, ⟨u0, u1, u2, u3⟩, k0, k1, k2, k3⟩ := item_fields
      obtain ⟨xs, k, _, _, _, hxl, hf⟩ := DataW.trod_struct hu h2
      match cs', hlen with
      | [y0, y1, y2, y3], _ =>
        have t0 := hf 0 f0 rfl
        have t1 := hf 1 f1 rfl
        have t2 := hf 2 f2 rfl
        have t3 := hf 3 f3 rfl
        match xs, hxl with
        | [z0, z1, z2, z3], _ =>
          simp only [o0, o1, o2, o3, k0, k1, k2, k3, List.drop_zero, List.take_succ_cons, List.take_zero, List.drop_succ_cons, List.getElem?_cons_zero, List.getElem?_cons_succ] at t0 t1 t2 t3
          obtain ⟨r, e0, _⟩ := DataW.trod_bool u0 t0
          obtain ⟨n', e1, _⟩ := DataW.trod_int u1 t1
          obtain ⟨gp, e2, _⟩ := DataW.trod_int u2 t2
          obtain ⟨i_, e3, _⟩ := DataW.trod_int u3 t3
          cases e0; cases e1; cases e2; cases e3
          refine ⟨⟨r, n', gp, i_⟩, fun j u hj => ?_⟩
          have hj2 : j < 4 := (List.getElem?_eq_some_iff.1 hj).1
          have := hcell j hj2
          rw [Go.Deep.add_add] at this
          rw [this]
          exact hj)
    exact ⟨ps, by
      have := rd_of_flat (w := w) (a := a) (c := cap) itCells (by decide) (fun _ => rfl) ps hps hl hm hq
      rw [hps]
      exact this⟩
theorem recs_of {α : Type} {R : Rec α} {a : Addr} {n c : Nat} (ps : List (α × Value)) (hl : ps.length = n) (hc1 : n ≤ c) (hc2 : c ≤ maxLen)
    (h : ∀ i p, ps[i]? = some p → (∀ j u, (R.cells p.1 p.2)[j]? = some u → w.cell? (a.add (i * R.k + j)) = some u) ∧ Rd w (Old w) R.kin p.2 (R.m p.1) (R.inner p.1)) : Recs R w (Old w) (.slice (some a) n c) (ps.map (·.1)) := by
  have hz : (ps.map (·.1)).zip (ps.map (·.2)) = ps := by
    rw [List.zip_map', List.map_id'' (fun _ => rfl)]
  have hlen1 : (ps.map (·.1)).length = n := by simp [hl]
  refine ⟨ps.map (·.2), by simp, ?_, fun i x l hx hl => ?_⟩
  · unfold Rec.all
    rw [hz, hlen1]
    exact rd_of_flat (w := w) (a := a) (c := c) (fun x : α × Value => R.cells x.1 x.2) R.pos (fun x => R.len x.1 x.2) ps hl hc1 hc2 (fun i x hx => (h i x hx).1)
  · rw [List.getElem?_map, Option.map_eq_some_iff] at hx hl
    obtain ⟨p, hp, rfl⟩ := hx
    obtain ⟨p', hp', rfl⟩ := hl
    rw [hp] at hp'; cases hp'
    exact (h i p hp).2
set_option maxRecDepth 100000 in
theorem open_toks {fuel : Nat} {v : Value} {x : DataW H × List MemPlace} (h : DataW.trod enc Tryz.prog w base spare held fuel 23 [v] = some x) : ∃ l : List Token, Recs tokR w (Old w) v l ∧ ∀ t ∈ l, t.name.size ≤ maxLen := by
  rcases Go.Deep.open_slice (e := 42) (by kernel_rfl) h with ⟨e, _⟩ | ⟨a, len, cap, m, n, D, Pl, e, hb, hl, hm, hmm, _, hx⟩
  · cases e
    exact ⟨[], ⟨[], rfl, Rd.nil _ _ _, fun i x l h => by simp at h⟩, fun t ht => by cases ht⟩
  · cases e
    have hlm : len ≤ m := by rw [hmm]; split <;> omega
    obtain ⟨ps, hps, hq⟩ := list_of (fun i (p : Token × Value) => ((∀ j u, (tokR.cells p.1 p.2)[j]? = some u → w.cell? (a.add (i * 3 + j)) = some u) ∧ Rd w (Old w) 5 p.2 p.1.rex.length (p.1.rex.flatMap rxCells)) ∧ p.1.name.size ≤ maxLen) len (fun i hi => by
      obtain ⟨cs', h1, h2⟩ := hx i (by omega)
      rw [show Tryz.prog.cellsOf 42 = 3 by kernel_rfl] at h1
      obtain ⟨_, hlen, hcell⟩ := World.cells?_some h1
      obtain ⟨f0, f1, f2, hu, ⟨o0, o1, o2⟩, ⟨u0, u1, u2⟩, k0, k1, k2⟩ := tok_fields
      obtain ⟨xs, k, _, _, _, hxl, hf⟩ := DataW.trod_struct hu h2
      match cs', hlen with
      | [y0, y1, y2], _ =>
        have t0 := hf 0 f0 rfl
        have t1 := hf 1 f1 rfl
        have t2 := hf 2 f2 rfl
        match xs, hxl with
        | [z0, z1, z2], _ =>
          simp only [o0, o1, o2, k0, k1, k2, List.drop_zero, List.take_succ_cons, List.take_zero, List.drop_succ_cons, List.getElem?_cons_zero, List.getElem?_cons_succ] at t0 t1 t2
          obtain ⟨s, e0, _, hs⟩ := DataW.trod_string u0 t0
          obtain ⟨cl, e2, _⟩ := DataW.trod_int u2 t2
          rw [u1] at t1
          obtain ⟨rx, hrx⟩ := open_rx t1
          cases e0; cases e2
          refine ⟨(⟨s, rx, cl⟩, y1), ⟨fun j u hj => ?_, hrx⟩, hs⟩
          have hj2 : j < 3 := (List.getElem?_eq_some_iff.1 hj).1
          have := hcell j hj2
          rw [Go.Deep.add_add] at this
          rw [this]
          exact hj)
    refine ⟨ps.map (·.1), recs_of (R := tokR) ps hps hl hm (fun i p hp => (hq i p hp).1), fun t ht => ?_⟩
    obtain ⟨p, hp, rfl⟩ := List.mem_map.1 ht
    obtain ⟨i, hi, e⟩ := List.mem_iff_getElem.1 hp
    exact (hq i p (by rw [List.getElem?_eq_getElem hi, e])).2
set_option maxRecDepth 100000 in
theorem open_prods {fuel : Nat} {v : Value} {x : DataW H × List MemPlace} (h : DataW.trod enc Tryz.prog w base spare held fuel 25 [v] = some x) : ∃ l : List Prod, Recs prodR w (Old w) v l := by
  rcases Go.Deep.open_slice (e := 50) (by kernel_rfl) h with ⟨e, _⟩ | ⟨a, len, cap, m, n, D, Pl, e, hb, hl, hm, hmm, _, hx⟩
  · cases e
    exact ⟨[], ⟨[], rfl, Rd.nil _ _ _, fun i x l h => by simp at h⟩⟩
  · cases e
    have hlm : len ≤ m := by rw [hmm]; split <;> omega
    obtain ⟨ps, hps, hq⟩ := list_of (fun i (p : Prod × Value) => (∀ j u, (prodR.cells p.1 p.2)[j]? = some u → w.cell? (a.add (i * 2 + j)) = some u) ∧ Rd w (Old w) 4 p.2 p.1.right.length (p.1.right.flatMap itCells)) len (fun i hi => by
      obtain ⟨cs', h1, h2⟩ := hx i (by omega)
      rw [show Tryz.prog.cellsOf 50 = 2 by kernel_rfl] at h1
      obtain ⟨_, hlen, hcell⟩ := World.cells?_some h1
      obtain ⟨f0, f1, hu, ⟨o0, o1⟩, ⟨u0, u1⟩, k0, k1⟩ := prod_fields
      obtain ⟨xs, k, _, _, _, hxl, hf⟩ := DataW.trod_struct hu h2
      match cs', hlen with
      | [y0, y1], _ =>
        have t0 := hf 0 f0 rfl
        have t1 := hf 1 f1 rfl
        match xs, hxl with
        | [z0, z1], _ =>
          simp only [o0, o1, k0, k1, List.drop_zero, List.take_succ_cons, List.take_zero, List.drop_succ_cons, List.getElem?_cons_zero, List.getElem?_cons_succ] at t0 t1
          obtain ⟨le, e0, _⟩ := DataW.trod_int u0 t0
          rw [u1] at t1
          obtain ⟨ri, hri⟩ := open_items t1
          cases e0
          refine ⟨(⟨le, ri⟩, y1), fun j u hj => ?_, hri⟩
          have hj2 : j < 2 := (List.getElem?_eq_some_iff.1 hj).1
          have := hcell j hj2
          rw [Go.Deep.add_add] at this
          rw [this]
          exact hj)
    exact ⟨ps.map (·.1), recs_of (R := prodR) ps hps hl hm hq⟩
set_option maxRecDepth 100000 in
theorem open_gram {r : Reach} {b0 : Nat} {v : Value} {d : DataW H} {p : List MemPlace} (hv : Value.okWide Tryz.prog w r b0 27 v) (h : DataW.Trod enc Tryz.prog w base spare held 27 v d p) :
    ∃ (g : Gram) (a b c : Value), v = .agg (gramCells a b c g) ∧ GramIs w (Old w) a b c g ∧ ∀ s ∈ allNames g, s.size ≤ maxLen := by
  obtain ⟨f0, f1, f2, f3, f4, f5, f6, f7, hu, ⟨o0, o1, o2, o3, o4, o5, o6, o7⟩, ⟨u0, u1, u2, u3, u4, u5, u6, u7⟩, k0, k1, k2, k3, k4, k5, k6, k7⟩ := gram_fields
  obtain ⟨cs, rfl, hsz⟩ := okWide_struct hu hv
  rw [show Tryz.prog.cellsOf 27 = 8 by kernel_rfl] at hsz
  obtain ⟨fuel, hm⟩ := h
  obtain ⟨xs, k, _, hxs, _, hxl, hf⟩ := DataW.trod_struct hu hm
  match cs, hsz with
  | ⟨[y0, y1, y2, y3, y4, y5, y6, y7]⟩, _ =>
    have t0 := hf 0 f0 rfl
    have t1 := hf 1 f1 rfl
    have t2 := hf 2 f2 rfl
    have t3 := hf 3 f3 rfl
    have t4 := hf 4 f4 rfl
    have t5 := hf 5 f5 rfl
    have t6 := hf 6 f6 rfl
    have t7 := hf 7 f7 rfl
    match xs, hxl with
    | [z0, z1, z2, z3, z4, z5, z6, z7], _ =>
      simp only [Value.cells, o0, o1, o2, o3, o4, o5, o6, o7, k0, k1, k2, k3, k4, k5, k6, k7, List.drop_zero, List.take_succ_cons, List.take_zero, List.drop_succ_cons, List.getElem?_cons_zero, List.getElem?_cons_succ] at t0 t1 t2 t3 t4 t5 t6 t7
      obtain ⟨n3, e3, _⟩ := DataW.trod_int u3 t3
      obtain ⟨n4, e4, _⟩ := DataW.trod_int u4 t4
      obtain ⟨n5, e5, _⟩ := DataW.trod_int u5 t5
      obtain ⟨n6, e6, _⟩ := DataW.trod_int u6 t6
      obtain ⟨n7, e7, _⟩ := DataW.trod_int u7 t7
      rw [u0] at t0
      rw [u1] at t1
      rw [u2] at t2
      obtain ⟨tk, htk, hts⟩ := open_toks t0
      obtain ⟨ru, hru, hrs⟩ := open_strs t1
      obtain ⟨pr, hpr⟩ := open_prods t2
      cases e3; cases e4; cases e5; cases e6; cases e7
      refine ⟨⟨tk, ru, pr, n3, n4, n5, n6, n7⟩, y0, y1, y2, rfl, ⟨htk, hru, hpr⟩, fun s hs => ?_⟩
      unfold allNames tokNames at hs
      rw [List.mem_append, List.mem_map] at hs
      rcases hs with ⟨t, ht, rfl⟩ | hs
      · exact hts t ht
      · exact hrs s hs
end
end Go.Proofs.YtfmdmeokbbpmlaaGreat
