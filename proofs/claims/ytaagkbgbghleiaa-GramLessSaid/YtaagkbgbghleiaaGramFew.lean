/-
  law18.Few.
-/
import Derived.Test.YtaagkbgbghleiaaGramSame2
namespace Go.Proofs.Ytaagkbgbghleiaa
open Go.RowKit Go.Shelf

theorem min_if (a b : Int) : (if a < b then a else b) = min a b := by rw [Int.min_def]; split <;> split <;> omega
def capd (n : Nat) : Int := min 1000 (n : Int)
def tokSum : List Token → Int
  | [] => 0
  | t :: l => capd t.rex.length + capd t.name.size + tokSum l
def strSum : List ByteArray → Int
  | [] => 0
  | s :: l => capd s.size + strSum l
def prodSum : List Prod → Int
  | [] => 0
  | p :: l => capd p.right.length + prodSum l
def smallG (g : Gram) : Prop := g.toks.length ≤ 70 ∧ g.rules.length ≤ 70 ∧ g.prods.length ≤ 260
def fewG (g : Gram) : Prop := smallG g ∧ tokSum g.toks + strSum g.rules + prodSum g.prods ≤ 1500
noncomputable def fewB (g : Gram) : Bool := holdsB (fewG g)
theorem capd_bd (n : Nat) : 0 ≤ capd n ∧ capd n ≤ 1000 := by unfold capd; omega
theorem tokSum_app (l m : List Token) : tokSum (l ++ m) = tokSum l + tokSum m := by
  induction l with
  | nil => simp [tokSum]
  | cons t l ih => simp only [List.cons_append, tokSum, ih]; omega
theorem strSum_app (l m : List ByteArray) : strSum (l ++ m) = strSum l + strSum m := by
  induction l with
  | nil => simp [strSum]
  | cons t l ih => simp only [List.cons_append, strSum, ih]; omega
theorem prodSum_app (l m : List Prod) : prodSum (l ++ m) = prodSum l + prodSum m := by
  induction l with
  | nil => simp [prodSum]
  | cons t l ih => simp only [List.cons_append, prodSum, ih]; omega
theorem tokSum_bd (l : List Token) : 0 ≤ tokSum l ∧ tokSum l ≤ 2000 * l.length := by
  induction l with
  | nil => simp [tokSum]
  | cons t l ih =>
    have := capd_bd t.rex.length
    have := capd_bd t.name.size
    simp only [tokSum, List.length_cons]; omega
theorem strSum_bd (l : List ByteArray) : 0 ≤ strSum l ∧ strSum l ≤ 1000 * l.length := by
  induction l with
  | nil => simp [strSum]
  | cons t l ih =>
    have := capd_bd t.size
    simp only [strSum, List.length_cons]; omega
theorem prodSum_bd (l : List Prod) : 0 ≤ prodSum l ∧ prodSum l ≤ 1000 * l.length := by
  induction l with
  | nil => simp [prodSum]
  | cons t l ih =>
    have := capd_bd t.right.length
    simp only [prodSum, List.length_cons]; omega

set_option maxRecDepth 20000 in
set_option maxHeartbeats 8000000 in
theorem law_Few (a b c : Value) (g : Gram) (w : World) (HG : GramIs w (Old w) a b c g) (hz : ∀ s ∈ allNames g, s.size ≤ maxLen) :
    Calls Try.prog 30 #[.agg (gramCells a b c g)] w fun r w' => r = .returned (.bool (fewB g)) ∧ Below w.heap.size w w' := by
  have HGo := hidden (fun (w' : World) (hb : Below w.heap.size w w') => HG.old hb)
  have HZt : Hid (∀ (k : Nat) (t : Token), g.toks[k]? = some t → t.name.size ≤ maxLen) := hidden (fun k t h => hz _ (by unfold allNames; exact List.mem_append_left _ (List.mem_of_getElem? (tokNames_at h))))
  have HZr : Hid (∀ (k : Nat) (s : ByteArray), g.rules[k]? = some s → s.size ≤ maxLen) := hidden (fun k s h => hz _ (by unfold allNames; exact List.mem_append_right _ (List.mem_of_getElem? h)))
  obtain ⟨⟨A1, k1, rfl, v1, m1⟩, ⟨A2, k2, rfl, v2, m2⟩, ⟨A3, k3, rfl, v3, m3⟩⟩ := HG.vals
  clear HG hz
  have HF := hidden (show fewB g = holdsB (fewG g) from rfl)
  generalize fewB g = res at *
  unfold gramCells maxLen at *
  go_enter Try.func30, Try.ntmps30
  go_wp2
  go_loopw [3, 4] (fun nn ii wr => ∃ (k : Nat) (z : Int), k ≤ g.toks.length ∧ ii = .int .i64 k ∧ nn = .int .i64 z ∧ Hid (smallG g → z = tokSum (g.toks.take k)) ∧ Below w.heap.size w wr ∧ w.heap.size + 1 ≤ wr.heap.size
    ∧ Hid (Holds wr w.heap.size 36 #[.slice A1 g.toks.length k1, .slice A2 g.rules.length k2, .slice A3 g.prods.length k3, .int .i64 g.start, .int .i64 g.states, .int .i64 g.text, .int .i64 g.nodes, .int .i64 g.pairs])) (fun _ ii _ => g.toks.length - (intOf ii).toNat)
  case atStart => exact ⟨0, 0, by omega, rfl, rfl, hidden (fun _ => rfl), (by repeat (first | (with_reducible exact Below.refl _ _) | (with_reducible assumption) | (with_reducible refine Below.drew ?_) | (with_reducible refine below_drewN ?_ _) | ((with_reducible refine below_alloc ?_ ?_); (focus (first | omega | (simp; done) | (simp; omega)))) | ((with_reducible refine below_set ?_ ?_); (focus (first | omega | (simp; done) | (simp; omega)))))), by simp, hidden (by repeat (first | (with_reducible assumption) | ((with_reducible refine holds_new ?_); (focus (first | rfl | (simp; done)))) | (with_reducible refine Holds.alloc ?_ _) | (with_reducible refine Holds.drew ?_)))⟩
  case round =>
    obtain ⟨k, z, hk, rfl, rfl, HZ, hb, hz, HB⟩ := hrel
    obtain ⟨x0, x1, x2, x3, x4, x5, x6, x7⟩ := eight HB.out
    by_cases hlt : k < g.toks.length
    · have hx := List.getElem?_eq_getElem hlt
      generalize g.toks[k] = t at *
      obtain ⟨b1, o1, l1, rfl, hT, hat, hin⟩ := (HGo.out wr hb).1.at_ hx
      obtain ⟨A4, k4, rfl, _, m4⟩ := hin.val
      have y0 : wr.cell? ⟨b1, o1 + k * 3, none⟩ = some (.string t.name) := hat 0 _ rfl
      have y1 : wr.cell? ⟨b1, o1 + k * 3 + 1, none⟩ = some (.slice A4 t.rex.length k4) := hat 1 _ rfl
      have HX : Hid (tokSum (g.toks.take (k + 1)) = tokSum (g.toks.take k) + (capd t.rex.length + capd t.name.size)) := hidden (by
        rw [← take_snoc_at hx, tokSum_app]; simp [tokSum])
      have hzt := HZt.out k t hx
      unfold maxLen at m4
      clear hat hx hin
      have e0 := Ext.cell x0
      have f0 := Ext.cell y0; have f1 := Ext.cell y1
      go_wp2_with fail
      refine wp_region_ext (by kernel_rfl) (by kernel_rfl) ?_
      repeat (go_big_quiet_step (fail))
      refine wpQuiet_nil ?_
      simp only [min_if]
      intro w2 hb2
      clear e0 f0 f1 x0 x1 x2 x3 x4 x5 x6 x7 y0 y1
      replace HB := hidden (HB.out.below hb2 (by omega))
      have hz2 := hb2.size
      replace hb := hb.trans (hb2.mono hb.size)
      clear hb2
      obtain ⟨z2, hz2'⟩ : ∃ z2, z2 = wrap64 (wrap64 (z + min 1000 (t.rex.length : Int)) + min 1000 (t.name.size : Int)) := ⟨_, rfl⟩
      have HZ2 : Hid (smallG g → z2 = tokSum (g.toks.take (k + 1))) := hidden (fun hs => by
        have h1 := HZ.out hs
        have h2 := tokSum_bd (g.toks.take k)
        have h3 : (g.toks.take k).length ≤ 70 := by rw [List.length_take]; have := hs.1; omega
        have h4 := capd_bd t.rex.length
        have h5 := capd_bd t.name.size
        rw [HX.out, hz2']
        unfold capd at *
        unfold wrap64
        omega)
      rw [← hz2']
      clear hz2' HX HZ
      go_wp2
      go_roundw
      case rel => exact ⟨k + 1, z2, by omega, by go_num, rfl, HZ2, hb, by omega, HB⟩
      case measure => simp [intOf]; omega
    · obtain rfl : k = g.toks.length := by omega
      have HZ1 : Hid (smallG g → z = tokSum g.toks + strSum (g.rules.take 0)) := hidden (fun hs => by rw [HZ.out hs, List.take_of_length_le (Nat.le_refl _)]; simp [strSum])
      clear HZ
      go_wp2
      have hbA := hb
      have hzA := hz
      have HBA := HB
      clear hb hz HB x0 x1 x2 x3 x4 x5 x6 x7
      obtain ⟨wo, rfl⟩ : ∃ wo : World, wo = wr := ⟨_, rfl⟩
      go_loopw [3, 5] (fun nn ii wr => ∃ (k : Nat) (z : Int), k ≤ g.rules.length ∧ ii = .int .i64 k ∧ nn = .int .i64 z ∧ Hid (smallG g → z = tokSum g.toks + strSum (g.rules.take k)) ∧ Below w.heap.size w wr ∧ w.heap.size + 1 ≤ wr.heap.size ∧ Hid (Holds wr w.heap.size 36 #[.slice A1 g.toks.length k1, .slice A2 g.rules.length k2, .slice A3 g.prods.length k3, .int .i64 g.start, .int .i64 g.states, .int .i64 g.text, .int .i64 g.nodes, .int .i64 g.pairs])) (fun _ ii _ => g.rules.length - (intOf ii).toNat)
      case atStart => exact ⟨0, z, by omega, rfl, rfl, HZ1, hbA, hzA, HBA⟩
      case round =>
        clear hbA hzA HBA HZ1
        obtain ⟨k, z, hk, rfl, rfl, HZ, hb, hz, HB⟩ := hrel
        obtain ⟨x0, x1, x2, x3, x4, x5, x6, x7⟩ := eight HB.out
        by_cases hlt : k < g.rules.length
        · have hx := List.getElem?_eq_getElem hlt
          generalize g.rules[k] = s at *
          obtain ⟨b1, o1, rfl, hT, y0⟩ := strs_at (HGo.out wr hb).2.1 hx
          have HX : Hid (strSum (g.rules.take (k + 1)) = strSum (g.rules.take k) + capd s.size) := hidden (by
            rw [← take_snoc_at hx, strSum_app]; simp [strSum])
          have hzt := HZr.out k s hx
          clear hx
          go_wp2
          simp only [min_if]
          obtain ⟨z2, hz2'⟩ : ∃ z2, z2 = wrap64 (z + min 1000 (s.size : Int)) := ⟨_, rfl⟩
          have HZ2 : Hid (smallG g → z2 = tokSum g.toks + strSum (g.rules.take (k + 1))) := hidden (fun hs => by
            have h1 := HZ.out hs
            have h2 := strSum_bd (g.rules.take k)
            have h3 : (g.rules.take k).length ≤ 70 := by rw [List.length_take]; have := hs.2.1; omega
            have h4 := capd_bd s.size
            have h5 := tokSum_bd g.toks
            have h6 := hs.1
            rw [HX.out, hz2']
            unfold capd at *
            unfold wrap64
            omega)
          exact ⟨⟨k + 1, z2, by omega, by go_num, by rw [hz2'], HZ2, hb, hz, HB⟩, by simp [intOf]; omega⟩
        · obtain rfl : k = g.rules.length := by omega
          have HZ1 : Hid (smallG g → z = tokSum g.toks + strSum g.rules + prodSum (g.prods.take 0)) := hidden (fun hs => by rw [HZ.out hs, List.take_of_length_le (Nat.le_refl _)]; simp [prodSum])
          clear HZ
          go_wp2
          have hbA := hb
          have hzA := hz
          have HBA := HB
          clear hb hz HB x0 x1 x2 x3 x4 x5 x6 x7
          obtain ⟨wq, rfl⟩ : ∃ wo : World, wo = wr := ⟨_, rfl⟩
          go_loopw [3, 6] (fun nn ii wr => ∃ (k : Nat) (z : Int), k ≤ g.prods.length ∧ ii = .int .i64 k ∧ nn = .int .i64 z ∧ Hid (smallG g → z = tokSum g.toks + strSum g.rules + prodSum (g.prods.take k)) ∧ Below w.heap.size w wr ∧ w.heap.size + 1 ≤ wr.heap.size ∧ Hid (Holds wr w.heap.size 36 #[.slice A1 g.toks.length k1, .slice A2 g.rules.length k2, .slice A3 g.prods.length k3, .int .i64 g.start, .int .i64 g.states, .int .i64 g.text, .int .i64 g.nodes, .int .i64 g.pairs])) (fun _ ii _ => g.prods.length - (intOf ii).toNat)
          case atStart => exact ⟨0, z, by omega, rfl, rfl, HZ1, hbA, hzA, HBA⟩
          case round =>
            clear hbA hzA HBA HZ1
            obtain ⟨k, z, hk, rfl, rfl, HZ, hb, hz, HB⟩ := hrel
            obtain ⟨x0, x1, x2, x3, x4, x5, x6, x7⟩ := eight HB.out
            by_cases hlt : k < g.prods.length
            · have hx := List.getElem?_eq_getElem hlt
              generalize g.prods[k] = p at *
              obtain ⟨b1, o1, l1, rfl, hT, hat, hin⟩ := (HGo.out wr hb).2.2.at_ hx
              obtain ⟨A4, k4, rfl, _, m4⟩ := hin.val
              have y1 : wr.cell? ⟨b1, o1 + k * 2 + 1, none⟩ = some (.slice A4 p.right.length k4) := hat 1 _ rfl
              have HX : Hid (prodSum (g.prods.take (k + 1)) = prodSum (g.prods.take k) + capd p.right.length) := hidden (by
                rw [← take_snoc_at hx, prodSum_app]; simp [prodSum])
              unfold maxLen at m4
              clear hat hx hin
              go_wp2
              simp only [min_if]
              obtain ⟨z2, hz2'⟩ : ∃ z2, z2 = wrap64 (z + min 1000 (p.right.length : Int)) := ⟨_, rfl⟩
              have HZ2 : Hid (smallG g → z2 = tokSum g.toks + strSum g.rules + prodSum (g.prods.take (k + 1))) := hidden (fun hs => by
                have h1 := HZ.out hs
                have h2 := prodSum_bd (g.prods.take k)
                have h3 : (g.prods.take k).length ≤ 260 := by rw [List.length_take]; have := hs.2.2; omega
                have h4 := capd_bd p.right.length
                have h5 := tokSum_bd g.toks
                have h6 := hs.1
                have h7 := strSum_bd g.rules
                have h8 := hs.2.1
                rw [HX.out, hz2']
                unfold capd at *
                unfold wrap64
                omega)
              exact ⟨⟨k + 1, z2, by omega, by go_num, by rw [hz2'], HZ2, hb, hz, HB⟩, by simp [intOf]; omega⟩
            · obtain rfl : k = g.prods.length := by omega
              have HZ1 : Hid (smallG g → z = tokSum g.toks + strSum g.rules + prodSum g.prods) := hidden (fun hs => by rw [HZ.out hs, List.take_of_length_le (Nat.le_refl _)])
              clear HZ
              by_cases c1 : g.toks.length ≤ 70
              · by_cases c2 : g.rules.length ≤ 70
                · by_cases c3 : g.prods.length ≤ 260
                  · have HE : Hid (res = decide (z ≤ 1500)) := hidden (by
                      rw [HF.out, Bool.eq_iff_iff, holdsB_iff, decide_eq_true_iff, HZ1.out ⟨c1, c2, c3⟩]
                      exact ⟨fun h => h.2, fun h => ⟨⟨c1, c2, c3⟩, h⟩⟩)
                    have q1 : decide ((g.toks.length : Int) ≤ 70) = true := by simp; omega
                    have q2 : decide ((g.rules.length : Int) ≤ 70) = true := by simp; omega
                    have q3 : decide ((g.prods.length : Int) ≤ 260) = true := by simp; omega
                    go_wp2
                    go_ret
                    exact ⟨by rw [HE.out]; rfl, hb⟩
                  · have HE : Hid (res = false) := hidden (by rw [HF.out]; exact holdsB_false (fun h => c3 h.1.2.2))
                    have q1 : decide ((g.toks.length : Int) ≤ 70) = true := by simp; omega
                    have q2 : decide ((g.rules.length : Int) ≤ 70) = true := by simp; omega
                    have q3 : decide ((g.prods.length : Int) ≤ 260) = false := by simp; omega
                    go_wp2
                    go_ret
                    exact ⟨by rw [HE.out]; rfl, hb⟩
                · have HE : Hid (res = false) := hidden (by rw [HF.out]; exact holdsB_false (fun h => c2 h.1.2.1))
                  have q1 : decide ((g.toks.length : Int) ≤ 70) = true := by simp; omega
                  have q2 : decide ((g.rules.length : Int) ≤ 70) = false := by simp; omega
                  go_wp2
                  go_ret
                  exact ⟨by rw [HE.out]; rfl, hb⟩
              · have HE : Hid (res = false) := hidden (by rw [HF.out]; exact holdsB_false (fun h => c1 h.1.1))
                have q1 : decide ((g.toks.length : Int) ≤ 70) = false := by simp; omega
                go_wp2
                go_ret
                exact ⟨by rw [HE.out]; rfl, hb⟩
end Go.Proofs.Ytaagkbgbghleiaa
