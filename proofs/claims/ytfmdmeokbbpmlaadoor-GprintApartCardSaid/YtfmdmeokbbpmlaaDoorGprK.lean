/-
  gprint.Show: the walk.
-/
import Derived.Test.YtfmdmeokbbpmlaaDoorGprJ
import Derived.Deep.LoopGhost
namespace Go.Proofs.YtfmdmeokbbpmlaaDoor
open Go.RowKit Go.Shelf

set_option maxRecDepth 20000 in
set_option maxHeartbeats 16000000 in
theorem gprint_Show (a b c : Value) (g : Gram) (w : World) (HG : GramIs w (Old w) a b c g) (HW : WordsW w) (HT : TabW w) (s1 : g.toks.length ≤ 100000) (s2 : g.rules.length ≤ 100000) (s3 : g.prods.length ≤ 100000) (hz : Named g) (hwd : ∀ t ∈ g.toks, ∀ x ∈ t.rex, Wordy x) :
    Calls Tryd.prog 25 #[.agg (gramCells a b c g)] w fun r w' => r = .returned (.string (gramT g)) ∧ Below w.heap.size w w' := by
  have HR := hidden (fun (w' : World) (hb : Below w.heap.size w w') => gram_Right a b c g w' (HG.old hb) s1 s2 s3 hz)
  have HP := hidden (fun (h : rightB g = true) (x : Prod) (lv : Value) (w' : World) (hb : Below w.heap.size w w') (HL : Rd w' (Old w') 4 lv x.right.length (x.right.flatMap itCells)) (hl : x.right.length ≤ 10000) => gprint_prod a b c lv g x w' (HG.old hb) (HW.old hb) (right_names h) HL hl)
  have HTk := hidden (fun (t : Token) (ht : t ∈ g.toks) (lv : Value) (w' : World) (hb : Below w.heap.size w w') (HL : Rd w' (Old w') 5 lv t.rex.length (t.rex.flatMap rxCells)) => gprint_ShowToken t lv w' HL (hwd t ht) (HT.old hb) (HW.old hb) (hz _ (List.mem_append_left _ (List.mem_map_of_mem ht))))
  have HGs := hidden (fun (w' : World) (hb : Below w.heap.size w w') => HG.old hb)
  have hb := ((Below.refl w.heap.size w).alloc (Nat.le_refl _) (.cells (gramCells a b c g) 41))
  have HBx := hidden (Holds.new w 41 (gramCells a b c g))
  obtain ⟨A1, k1, rfl, h11, h12⟩ := HG.1.value
  obtain ⟨A2, k2, rfl, h21, h22⟩ := HG.2.1.val
  obtain ⟨A3, k3, rfl, h31, h32⟩ := HG.2.2.value
  unfold maxLen at h12 h22 h32
  obtain ⟨res, HE⟩ : ∃ res, Hid (gramT g = res) := ⟨_, hidden rfl⟩
  rw [HE.out]
  clear HG HW HT hz hwd
  unfold gramCells at *
  go_enter Tryd.func25, Tryd.ntmps25
  go_upto_region 1 with fail
  generalize (w.alloc (.cells #[.slice A1 g.toks.length k1, .slice A2 g.rules.length k2, .slice A3 g.prods.length k3, .int .i64 g.start, .int .i64 g.states, .int .i64 g.text, .int .i64 g.nodes, .int .i64 g.pairs] 41)) = w1 at *
  obtain ⟨g0, g1, g2, g3, g4, g5, g6, g7⟩ := gcells HBx.out
  have HX := hidden (HR.out w1 hb)
  go_wp2_with fail
  refine HX.out.mono ?_
  rintro r w2 ⟨rfl, hb2⟩
  replace HBx := hidden (HBx.out.below hb2 HBx.out.lt)
  have hb3 := hb.trans (hb2.mono hb.size)
  clear g0 g1 g2 g3 g4 g5 g6 g7 HX HR hb hb2
  cases hr : rightB g with
  | false =>
    have e0 : res = ByteArray.empty := by rw [← HE.out]; unfold gramT; rw [hr]; rfl
    subst e0
    clear HE HP HTk hr
    go_wp2
    go_ret
    exact ⟨rfl, hb3⟩
  | true =>
    have HE0 : Hid (textB (linesG g) = res) := hidden (by rw [← HE.out]; unfold gramT; rw [hr]; rfl)
    have HPx := hidden (HP.out hr)
    have HSm : Hid (g.states ≤ 4096 ∧ g.text ≤ 65536 ∧ g.nodes ≤ 65536 ∧ g.pairs ≤ 1048576) := hidden (right_sizes hr).2
    have HLn := hidden (right_sizes hr).1
    have HSt := hidden (right_start hr)
    have HPl := hidden (fun (p : Prod) (hp : p ∈ g.prods) => right_prod hr hp)
    have HNm := hidden (right_names hr)
    have hlk := HBx.out.lt
    have HO : Hid (OutS w #[.slice A1 g.toks.length k1, .slice A2 g.rules.length k2, .slice A3 g.prods.length k3, .int .i64 g.start, .int .i64 g.states, .int .i64 g.text, .int .i64 g.nodes, .int .i64 g.pairs] w2.heap.size [] (w2.alloc (.cells #[.pointer none, .slice none 0 0] 87))) := hidden ⟨bd_new w2, hb3.alloc hb3.size _, HBx.out.alloc _, hlk, by rw [World.size_alloc]; omega, by decide, by intro l hl; cases hl⟩
    clear HE HP hr HBx hb3
    go_upto_region 5 with fail
    generalize (w2.alloc (.cells #[.pointer none, .slice none 0 0] 87)) = w3 at *
    generalize w2.heap.size = bb at *
    -- bound 0
    obtain ⟨g0, g1, g2, g3, g4, g5, g6, g7⟩ := gcells HO.out.box
    have HN := hidden (num_Show g.states w3 (by have := HSm.out; omega))
    go_wp2_with fail
    refine HN.out.mono ?_
    rintro r w4 ⟨rfl, hbn⟩
    replace HO := hidden (HO.out.below hbn)
    clear g0 g1 g2 g3 g4 g5 g6 g7
    clear HN hbn
    have HM : Hid (StrsM (w4.alloc (.cells #[.string (bndW 0), .string (numT g.states)] 9)) w4.heap.size (.slice (some ⟨w4.heap.size, 0, none⟩) 2 2) [bndW 0, numT g.states]) := hidden (.inl (World.ownsRow_lit w4 #[.string (bndW 0), .string (numT g.states)] 2 (Nat.le_refl _) (by decide) rfl))
    have HL := hidden (out_line (HO.out.alloc (.cells #[.string (bndW 0), .string (numT g.states)] 9)) _ (bndW 0) [numT g.states] HM.out.rd (by simp) (bnd_size 0 g.states (by have := HSm.out; omega)) (by show 0 < 400; decide))
    clear HM HO
    obtain ⟨l0, hl0⟩ : ∃ x, Hid (lineB (bndW 0) [numT g.states] = x) := ⟨_, hidden rfl⟩
    rw [hl0.out] at HL
    unfold bndW numT at HL
    go_wp2_with fail
    refine HL.out.mono ?_
    rintro r w5 ⟨rfl, HO'⟩
    have HO := hidden HO'
    clear HL HO'
    -- bound 1
    obtain ⟨g0, g1, g2, g3, g4, g5, g6, g7⟩ := gcells HO.out.box
    have HN := hidden (num_Show g.text w5 (by have := HSm.out; omega))
    go_wp2_with fail
    refine HN.out.mono ?_
    rintro r w6 ⟨rfl, hbn⟩
    replace HO := hidden (HO.out.below hbn)
    clear g0 g1 g2 g3 g4 g5 g6 g7
    clear HN hbn
    have HM : Hid (StrsM (w6.alloc (.cells #[.string (bndW 1), .string (numT g.text)] 9)) w6.heap.size (.slice (some ⟨w6.heap.size, 0, none⟩) 2 2) [bndW 1, numT g.text]) := hidden (.inl (World.ownsRow_lit w6 #[.string (bndW 1), .string (numT g.text)] 2 (Nat.le_refl _) (by decide) rfl))
    have HL := hidden (out_line (HO.out.alloc (.cells #[.string (bndW 1), .string (numT g.text)] 9)) _ (bndW 1) [numT g.text] HM.out.rd (by simp) (bnd_size 1 g.text (by have := HSm.out; omega)) (by show 1 < 400; decide))
    clear HM HO
    obtain ⟨l1, hl1⟩ : ∃ x, Hid (lineB (bndW 1) [numT g.text] = x) := ⟨_, hidden rfl⟩
    rw [hl1.out] at HL
    unfold bndW numT at HL
    go_wp2_with fail
    refine HL.out.mono ?_
    rintro r w7 ⟨rfl, HO'⟩
    have HO := hidden HO'
    clear HL HO'
    -- bound 2
    obtain ⟨g0, g1, g2, g3, g4, g5, g6, g7⟩ := gcells HO.out.box
    have HN := hidden (num_Show g.nodes w7 (by have := HSm.out; omega))
    go_wp2_with fail
    refine HN.out.mono ?_
    rintro r w8 ⟨rfl, hbn⟩
    replace HO := hidden (HO.out.below hbn)
    clear g0 g1 g2 g3 g4 g5 g6 g7
    clear HN hbn
    have HM : Hid (StrsM (w8.alloc (.cells #[.string (bndW 2), .string (numT g.nodes)] 9)) w8.heap.size (.slice (some ⟨w8.heap.size, 0, none⟩) 2 2) [bndW 2, numT g.nodes]) := hidden (.inl (World.ownsRow_lit w8 #[.string (bndW 2), .string (numT g.nodes)] 2 (Nat.le_refl _) (by decide) rfl))
    have HL := hidden (out_line (HO.out.alloc (.cells #[.string (bndW 2), .string (numT g.nodes)] 9)) _ (bndW 2) [numT g.nodes] HM.out.rd (by simp) (bnd_size 2 g.nodes (by have := HSm.out; omega)) (by show 2 < 400; decide))
    clear HM HO
    obtain ⟨l2, hl2⟩ : ∃ x, Hid (lineB (bndW 2) [numT g.nodes] = x) := ⟨_, hidden rfl⟩
    rw [hl2.out] at HL
    unfold bndW numT at HL
    go_wp2_with fail
    refine HL.out.mono ?_
    rintro r w9 ⟨rfl, HO'⟩
    have HO := hidden HO'
    clear HL HO'
    -- bound 3
    obtain ⟨g0, g1, g2, g3, g4, g5, g6, g7⟩ := gcells HO.out.box
    have HN := hidden (num_Show g.pairs w9 (by have := HSm.out; omega))
    go_wp2_with fail
    refine HN.out.mono ?_
    rintro r w10 ⟨rfl, hbn⟩
    replace HO := hidden (HO.out.below hbn)
    clear g0 g1 g2 g3 g4 g5 g6 g7
    clear HN hbn
    have HM : Hid (StrsM (w10.alloc (.cells #[.string (bndW 3), .string (numT g.pairs)] 9)) w10.heap.size (.slice (some ⟨w10.heap.size, 0, none⟩) 2 2) [bndW 3, numT g.pairs]) := hidden (.inl (World.ownsRow_lit w10 #[.string (bndW 3), .string (numT g.pairs)] 2 (Nat.le_refl _) (by decide) rfl))
    have HL := hidden (out_line (HO.out.alloc (.cells #[.string (bndW 3), .string (numT g.pairs)] 9)) _ (bndW 3) [numT g.pairs] HM.out.rd (by simp) (bnd_size 3 g.pairs (by have := HSm.out; omega)) (by show 3 < 400; decide))
    clear HM HO
    obtain ⟨l3, hl3⟩ : ∃ x, Hid (lineB (bndW 3) [numT g.pairs] = x) := ⟨_, hidden rfl⟩
    rw [hl3.out] at HL
    unfold bndW numT at HL
    go_wp2_with fail
    refine HL.out.mono ?_
    rintro r w11 ⟨rfl, HO'⟩
    have HO := hidden HO'
    clear HL HO'
    -- the tokens
    have HL4 : Hid (bndsL g = [l0, l1, l2, l3]) := hidden (by rw [← hl0.out, ← hl1.out, ← hl2.out, ← hl3.out]; rfl)
    replace HO : Hid (OutS w #[.slice A1 g.toks.length k1, .slice A2 g.rules.length k2, .slice A3 g.prods.length k3, .int .i64 g.start, .int .i64 g.states, .int .i64 g.text, .int .i64 g.nodes, .int .i64 g.pairs] bb ([l0, l1, l2, l3] ++ (g.toks.take 0).map tokT) w11) := HO
    clear hl0 hl1 hl2 hl3
    obtain ⟨g0, g1, g2, g3, g4, g5, g6, g7⟩ := gcells HO.out.box
    go_upto_region 10 with fail
    clear g0 g1 g2 g3 g4 g5 g6 g7
    go_loopg [40] g.toks.length (fun gh kk wr => ∃ k : Nat, k ≤ g.toks.length ∧ gh = g.toks.length - k ∧ kk = .int .i64 k ∧ Hid (OutS w #[.slice A1 g.toks.length k1, .slice A2 g.rules.length k2, .slice A3 g.prods.length k3, .int .i64 g.start, .int .i64 g.states, .int .i64 g.text, .int .i64 g.nodes, .int .i64 g.pairs] bb ([l0, l1, l2, l3] ++ (g.toks.take k).map tokT) wr))
    case atStart => exact ⟨0, Nat.zero_le _, rfl, rfl, HO⟩
    case round =>
      clear HO
      obtain ⟨k, hk, rfl, rfl, HO⟩ := hrel
      by_cases hlt : k < g.toks.length
      · have q5 : (k : Int) < (g.toks.length : Int) := by omega
        have hx := List.getElem?_eq_getElem hlt
        have htk : g.toks.take (k + 1) = g.toks.take k ++ [g.toks[k]] := by rw [List.take_add_one, hx]; rfl
        have hmem : Hid (g.toks[k] ∈ g.toks) := hidden (List.getElem_mem hlt)
        obtain ⟨b4, off4, lv, rfl, hT4, hat, HLt⟩ := (HGs.out wr HO.out.hb).1.at_ hx
        generalize g.toks[k] = x at *
        have HTake := hidden htk
        obtain ⟨A5, k5, rfl, h51, h52⟩ := HLt.val
        have x0 : wr.cell? ⟨b4, off4 + k * 3, none⟩ = some (.string x.name) := hat 0 _ rfl
        have x1 : wr.cell? ⟨b4, off4 + k * 3 + 1, none⟩ = some (.slice A5 x.rex.length k5) := hat 1 _ rfl
        have x2 : wr.cell? ⟨b4, off4 + k * 3 + 2, none⟩ = some (.int .i64 x.cls) := hat 2 _ rfl
        have HX := hidden (HTk.out x hmem.out _ _ (HO.out.alloc (.cells #[.string x.name, .slice A5 x.rex.length k5, .int .i64 x.cls] 44)).hb (HLt.old ((Below.refl _ _).alloc (Nat.le_refl _) _)))
        have HIt := hidden (Holds.new wr 44 #[.string x.name, .slice A5 x.rex.length k5, .int .i64 x.cls])
        replace HO := hidden (HO.out.alloc (.cells #[.string x.name, .slice A5 x.rex.length k5, .int .i64 x.cls] 44))
        clear htk hat hT4 HLt hx h51 h52
        go_upto_region 12 with fail
        clear x0 x1 x2
        generalize (wr.alloc (.cells #[.string x.name, .slice A5 x.rex.length k5, .int .i64 x.cls] 44)) = u3 at *
        obtain ⟨i0, i1, i2⟩ := three HIt.out
        go_wp2_with fail
        refine HX.out.mono ?_
        rintro r u4 ⟨rfl, hb5⟩
        replace HO := hidden (HO.out.below hb5)
        clear i0 i1 i2 HX hb5 HIt
        have HM : Hid (StrsM (u4.alloc (.cells #[.string (tokT x)] 9)) u4.heap.size (.slice (some ⟨u4.heap.size, 0, none⟩) 1 1) [tokT x]) := hidden (.inl (World.ownsRow_lit u4 #[.string (tokT x)] 1 (Nat.le_refl _) (by decide) rfl))
        have HL := hidden (out_line (HO.out.alloc (.cells #[.string (tokT x)] 9)) _ (tokT x) [] HM.out.rd (by decide) (by rw [lineB_nil]; have := tokT_size x; omega) (by have := HLn.out; rw [List.length_append, List.length_map, List.length_take]; show 4 + _ < 400; omega))
        rw [lineB_nil] at HL
        have HA : Hid ([l0, l1, l2, l3] ++ (g.toks.take k).map tokT ++ [tokT x] = [l0, l1, l2, l3] ++ (g.toks.take (k + 1)).map tokT) := hidden (by rw [HTake.out, List.map_append, List.append_assoc]; rfl)
        rw [HA.out] at HL
        clear HM HO HA HTake hmem
        generalize tokT x = tx at *
        go_wp2_with fail
        refine HL.out.mono ?_
        rintro r u5 ⟨rfl, HO'⟩
        have HO := hidden HO'
        clear HL HO'
        go_wp2
        go_roundg (g.toks.length - (k + 1))
        case measure => omega
        case rel => exact ⟨k + 1, by omega, rfl, by go_num, HO⟩
      · obtain rfl : k = g.toks.length := by omega
        have q5 : ¬ (g.toks.length : Int) < (g.toks.length : Int) := by omega
        rw [List.take_length] at HO
        clear HTk hk hlt
        go_upto_region 14 with fail
        -- rules
        obtain ⟨g0, g1, g2, g3, g4, g5, g6, g7⟩ := gcells HO.out.box
        have h1 : Hid (StrsM (wr.alloc (.cells #[.string rulesW] 9)) wr.heap.size (.slice (some ⟨wr.heap.size, 0, none⟩) 1 1) [rulesW]) := hidden (.inl (World.ownsRow_lit wr #[.string rulesW] 1 (Nat.le_refl _) (by decide) rfl))
        have HM : Hid (Mine (wr.alloc (.cells #[.string ⟨#[114, 117, 108, 101, 115]⟩] 9)) wr.heap.size 9 1 (.slice (some ⟨wr.heap.size, 0, none⟩) 1 1) 1 [.string ⟨#[114, 117, 108, 101, 115]⟩]) := h1
        have HX1 := hidden ((HGs.out _ (HO.out.alloc (.cells #[.string ⟨#[114, 117, 108, 101, 115]⟩] 9)).hb).2.1)
        have HO2 := hidden (HO.out.alloc (.cells #[.string ⟨#[114, 117, 108, 101, 115]⟩] 9))
        have hbz : wr.heap.size ≤ (wr.alloc (.cells #[.string ⟨#[114, 117, 108, 101, 115]⟩] 9)).heap.size := by rw [World.size_alloc]; omega
        have hln := HLn.out.2.1
        have hl1 : w.heap.size < wr.heap.size := HO.out.box.lt
        clear h1
        unfold Strs at HX1
        go_wp2_with (at_builtin; refine wpList_append_all rfl _ _ 38 9 rfl (by kernel_rfl) str_info rfl (by decide) wr.heap.size _ 1 _ HM _ g.rules.length _ HX1 (strs_ones _) rfl rfl (by omega) (by decide) hbz ?_; intro v9 w9 hA; obtain ⟨A9, c9, rfl⟩ := hA.out.mine.value)
        have HO3 : Hid (OutS w #[.slice A1 g.toks.length k1, .slice A2 g.rules.length k2, .slice A3 g.prods.length k3, .int .i64 g.start, .int .i64 g.states, .int .i64 g.text, .int .i64 g.nodes, .int .i64 g.pairs] bb ([l0, l1, l2, l3] ++ g.toks.map tokT) w9) := hidden (HO.out.below (((Below.refl wr.heap.size wr).alloc (Nat.le_refl _) _).trans hA.out.below))
        have HR9 : Hid (Strs w9 (Old w9) (.slice A9 (1 + g.rules.length) c9) (rulesW :: g.rules)) := hidden (by
          have h := hA.out.mine.rd (T := Old w9) (fun _ _ _ h3 => h3)
          unfold Strs
          rw [List.length_cons, Nat.add_comm g.rules.length 1]
          exact h)
        have hrs : (ruleL g).size ≤ 20000000 := by
          have h1 := lineB_size rulesW g.rules 1000 (fun y hy => HNm.out y (List.mem_append_right _ hy))
          have h2 : rulesW.size = 5 := rfl
          unfold ruleL
          omega
        have HL := hidden (out_line HO3.out _ rulesW g.rules HR9.out (by omega) hrs (by have := HLn.out; rw [List.length_append, List.length_map]; show 4 + _ < 400; omega))
        obtain ⟨lr, hlr⟩ : ∃ x, Hid (ruleL g = x) := ⟨_, hidden rfl⟩
        have hlr2 : Hid (lineB rulesW g.rules = lr) := hlr
        rw [hlr2.out] at HL
        clear g0 g1 g2 g3 g4 g5 g6 g7 HM HX1 HO2 HO hbz hln hl1 hA HR9 hrs hlr2 HO3
        go_wp2_with fail
        refine HL.out.mono ?_
        rintro r u1 ⟨rfl, HO'⟩
        have HO := hidden HO'
        clear HL HO'
        -- start
        obtain ⟨g0, g1, g2, g3, g4, g5, g6, g7⟩ := gcells HO.out.box
        obtain ⟨j, hj, hjl⟩ := HSt.out
        obtain ⟨bs_, off, rfl, hT, hc0⟩ := strs_at (HGs.out u1 HO.out.hb).2.1 (List.getElem?_eq_getElem hjl)
        have HSl : Hid (startL g = lineB startW [g.rules[j]]) := hidden (by unfold startL; rw [hj, Int.toNat_natCast, List.getElem?_eq_getElem hjl]; rfl)
        have hns : (g.rules[j]).size ≤ 1000 := HNm.out _ (List.mem_append_right _ (List.getElem_mem hjl))
        generalize g.rules[j] = nm at *
        rw [hj] at g3
        have q1 : ¬ (j : Int) < 0 := by omega
        have q2 : ¬ (g.rules.length : Int) ≤ (j : Int) := by omega
        have q3 : (j : Int) < (g.rules.length : Int) := by omega
        have HM : Hid (StrsM (u1.alloc (.cells #[.string startW, .string nm] 9)) u1.heap.size (.slice (some ⟨u1.heap.size, 0, none⟩) 2 2) [startW, nm]) := hidden (.inl (World.ownsRow_lit u1 #[.string startW, .string nm] 2 (Nat.le_refl _) (by decide) rfl))
        have hss : (lineB startW [nm]).size ≤ 20000000 := by
          have h1 := lineB_size startW [nm] 1000 (fun y hy => by rw [List.mem_singleton.1 hy]; exact hns)
          have h2 : startW.size = 5 := rfl
          rw [List.length_singleton] at h1
          omega
        have HL := hidden (out_line (HO.out.alloc (.cells #[.string startW, .string nm] 9)) _ startW [nm] HM.out.rd (by simp) hss (by have := HLn.out; rw [List.length_append, List.length_append, List.length_map]; show 4 + _ + 1 < 400; omega))
        obtain ⟨ls, hls⟩ : ∃ x, Hid (startL g = x) := ⟨_, hidden rfl⟩
        have hls2 : Hid (lineB startW [nm] = ls) := hidden (by rw [← HSl.out]; exact hls.out)
        rw [hls2.out] at HL
        unfold startW at HL
        clear HM HO hss hls2 HSl hT
        go_wp2_with fail
        refine HL.out.mono ?_
        rintro r u2 ⟨rfl, HO'⟩
        have HO : Hid (OutS w #[.slice A1 g.toks.length k1, .slice (some ⟨bs_, off, none⟩) g.rules.length k2, .slice A3 g.prods.length k3, .int .i64 g.start, .int .i64 g.states, .int .i64 g.text, .int .i64 g.nodes, .int .i64 g.pairs] bb ([l0, l1, l2, l3] ++ g.toks.map tokT ++ [lr] ++ [ls] ++ (g.prods.take 0).map (prodT g)) u2) := hidden (by rw [List.take_zero, List.map_nil, List.append_nil]; exact HO')
        clear HL HO' hc0 g0 g1 g2 g3 g4 g5 g6 g7
        -- the productions
        obtain ⟨g0, g1, g2, g3, g4, g5, g6, g7⟩ := gcells HO.out.box
        go_upto_region 17 with fail
        clear g0 g1 g2 g3 g4 g5 g6 g7 q1 q2 q3 q5 hns hj hjl
        go_loopg [68] g.prods.length (fun gh kk wr => ∃ k : Nat, k ≤ g.prods.length ∧ gh = g.prods.length - k ∧ kk = .int .i64 k ∧ Hid (OutS w #[.slice A1 g.toks.length k1, .slice (some ⟨bs_, off, none⟩) g.rules.length k2, .slice A3 g.prods.length k3, .int .i64 g.start, .int .i64 g.states, .int .i64 g.text, .int .i64 g.nodes, .int .i64 g.pairs] bb ([l0, l1, l2, l3] ++ g.toks.map tokT ++ [lr] ++ [ls] ++ (g.prods.take k).map (prodT g)) wr))
        case atStart => exact ⟨0, Nat.zero_le _, rfl, rfl, HO⟩
        case round =>
          clear HO
          obtain ⟨k, hk, rfl, rfl, HO⟩ := hrel
          by_cases hlt : k < g.prods.length
          · have q5 : (k : Int) < (g.prods.length : Int) := by omega
            have hx := List.getElem?_eq_getElem hlt
            have htk : g.prods.take (k + 1) = g.prods.take k ++ [g.prods[k]] := by rw [List.take_add_one, hx]; rfl
            have hmem : Hid (g.prods[k] ∈ g.prods) := hidden (List.getElem_mem hlt)
            obtain ⟨b4, off4, lv, rfl, hT4, hat, HLt⟩ := (HGs.out wr HO.out.hb).2.2.at_ hx
            generalize g.prods[k] = x at *
            have HTake := hidden htk
            obtain ⟨A5, k5, rfl, h51, h52⟩ := HLt.val
            have x0 : wr.cell? ⟨b4, off4 + k * 2, none⟩ = some (.int .i64 x.left) := hat 0 _ rfl
            have x1 : wr.cell? ⟨b4, off4 + k * 2 + 1, none⟩ = some (.slice A5 x.right.length k5) := hat 1 _ rfl
            have hpl := HPl.out x hmem.out
            have hps := hidden (prodT_size HNm.out x (by omega))
            have HX := hidden (HPx.out x _ _ (HO.out.alloc (.cells #[.int .i64 x.left, .slice A5 x.right.length k5] 50)).hb (HLt.old ((Below.refl _ _).alloc (Nat.le_refl _) _)) (by omega))
            have HIt := hidden (Holds.new wr 50 #[.int .i64 x.left, .slice A5 x.right.length k5])
            replace HO := hidden (HO.out.alloc (.cells #[.int .i64 x.left, .slice A5 x.right.length k5] 50))
            clear htk hat hT4 HLt hx h51 h52 hpl
            go_upto_region 19 with fail
            clear x0 x1
            generalize (wr.alloc (.cells #[.int .i64 x.left, .slice A5 x.right.length k5] 50)) = u3 at *
            have i0 := HIt.out.c20
            have i1 := HIt.out.c21
            obtain ⟨g0, g1, g2, g3, g4, g5, g6, g7⟩ := gcells HO.out.box
            go_wp2_with fail
            refine HX.out.mono ?_
            rintro r u4 ⟨rfl, hb5⟩
            replace HO := hidden (HO.out.below hb5)
            clear i0 i1 HX hb5 HIt g0 g1 g2 g3 g4 g5 g6 g7
            have HM : Hid (StrsM (u4.alloc (.cells #[.string (prodT g x)] 9)) u4.heap.size (.slice (some ⟨u4.heap.size, 0, none⟩) 1 1) [prodT g x]) := hidden (.inl (World.ownsRow_lit u4 #[.string (prodT g x)] 1 (Nat.le_refl _) (by decide) rfl))
            have HL := hidden (out_line (HO.out.alloc (.cells #[.string (prodT g x)] 9)) _ (prodT g x) [] HM.out.rd (by decide) (by rw [lineB_nil]; exact hps.out) (by have := HLn.out; simp only [List.length_append, List.length_map, List.length_take, List.length_cons, List.length_nil]; omega))
            rw [lineB_nil] at HL
            have HA : Hid ([l0, l1, l2, l3] ++ g.toks.map tokT ++ [lr] ++ [ls] ++ (g.prods.take k).map (prodT g) ++ [prodT g x] = [l0, l1, l2, l3] ++ g.toks.map tokT ++ [lr] ++ [ls] ++ (g.prods.take (k + 1)).map (prodT g)) := hidden (by rw [HTake.out, List.map_append, List.append_assoc _ ((g.prods.take k).map (prodT g))]; rfl)
            rw [HA.out] at HL
            clear HM HO HA HTake hmem hps
            generalize prodT g x = tx at *
            go_wp2_with fail
            refine HL.out.mono ?_
            rintro r u5 ⟨rfl, HO'⟩
            have HO := hidden HO'
            clear HL HO'
            go_wp2
            go_roundg (g.prods.length - (k + 1))
            case measure => omega
            case rel => exact ⟨k + 1, by omega, rfl, by go_num, HO⟩
          · obtain rfl : k = g.prods.length := by omega
            have q5 : ¬ (g.prods.length : Int) < (g.prods.length : Int) := by omega
            rw [List.take_length] at HO
            have HFin : Hid (textB ([l0, l1, l2, l3] ++ g.toks.map tokT ++ [lr] ++ [ls] ++ g.prods.map (prodT g)) = res) := hidden (by
              rw [← HE0.out, ← HL4.out, ← hlr.out, ← hls.out]
              unfold linesG
              rw [List.append_assoc (bndsL g ++ g.toks.map tokT) [ruleL g] [startL g]]
              rfl)
            have HS := hidden (bd_string bb bb _ wr HO.out.bd (Nat.le_of_lt HO.out.lt))
            rw [ba_mk, HFin.out] at HS
            have hbz := HO.out.hb
            have hkz := HO.out.hk
            clear HO HFin
            go_wp2_with fail
            refine HS.out.mono ?_
            rintro r u6 ⟨rfl, hb6, -⟩
            go_wp2
            go_ret
            exact ⟨rfl, hbz.trans (hb6.mono (Nat.le_of_lt hkz))⟩
end Go.Proofs.YtfmdmeokbbpmlaaDoor
