/-
  The document's Show of a grammar.
-/
import Derived.Test.YtfmdmeokbbpmlaaGreatGprM
namespace Go.Proofs.YtfmdmeokbbpmlaaGreat
open Go.RowKit Go.Shelf

theorem bnds_text (n0 n1 n2 n3 : ByteArray) : (⟨#[98, 111, 117, 110, 100, 32, 115, 116, 97, 116, 101, 115, 32]⟩ : ByteArray) ++ n0 ++ (⟨#[10, 98, 111, 117, 110, 100, 32, 116, 101, 120, 116, 32]⟩ : ByteArray) ++ n1 ++ (⟨#[10, 98, 111, 117, 110, 100, 32, 110, 111, 100, 101, 115, 32]⟩ : ByteArray) ++ n2 ++ (⟨#[10, 98, 111, 117, 110, 100, 32, 112, 97, 105, 114, 115, 32]⟩ : ByteArray) ++ n3 ++ (⟨#[10]⟩ : ByteArray) = textB [lineB (bndW 0) [n0], lineB (bndW 1) [n1], lineB (bndW 2) [n2], lineB (bndW 3) [n3]] := by
  apply ba_ext
  rw [textB_list]
  simp only [tl, lineB_list, jl, ba_list, List.append_assoc, List.append_nil]
  rfl
theorem rules_more (s : ByteArray) (x : ByteArray) (r : List ByteArray) (y : ByteArray) : s ++ lineB x r ++ (⟨#[32]⟩ : ByteArray) ++ y = s ++ lineB x (r ++ [y]) := by
  rw [lineB_snoc, ba_assoc, ba_assoc]
theorem start_text (ls : List ByteArray) (x y : ByteArray) : textB ls ++ x ++ (⟨#[10, 115, 116, 97, 114, 116, 32]⟩ : ByteArray) ++ y ++ (⟨#[10]⟩ : ByteArray) = textB (ls ++ [x, lineB startW [y]]) := by
  rw [show ls ++ [x, lineB startW [y]] = (ls ++ [x]) ++ [lineB startW [y]] by simp, textB_snoc, textB_snoc]
  apply ba_ext
  simp only [lineB_list, jl, ba_list, List.append_assoc, List.append_nil]
  rfl
theorem lines_size {g : Gram} (h : rightB g = true) : ∀ l ∈ linesG g, l.size ≤ 20000000 := by
  have hs := right_sizes h
  have hn := right_names h
  intro l hl
  unfold linesG at hl
  rcases List.mem_append.1 hl with hl | hl
  · rcases List.mem_append.1 hl with hl | hl
    · rcases List.mem_append.1 hl with hl | hl
      · unfold bndsL at hl
        simp only [List.mem_cons, List.not_mem_nil, or_false] at hl
        rcases hl with rfl | rfl | rfl | rfl
        · exact bnd_size 0 g.states (by omega)
        · exact bnd_size 1 g.text (by omega)
        · exact bnd_size 2 g.nodes (by omega)
        · exact bnd_size 3 g.pairs (by omega)
      · obtain ⟨t, ht, rfl⟩ := List.mem_map.1 hl
        have := tokT_size t
        omega
    · simp only [List.mem_cons, List.not_mem_nil, or_false] at hl
      rcases hl with rfl | rfl
      · have h1 := lineB_size rulesW g.rules 1000 (fun y hy => hn y (List.mem_append_right _ hy))
        have h2 : rulesW.size = 5 := rfl
        unfold ruleL
        omega
      · have h1 := lineB_size startW [(g.rules[g.start.toNat]?).getD ByteArray.empty] 1000 (fun y hy => by
          rw [List.mem_singleton.1 hy]
          cases hc : g.rules[g.start.toNat]? with
          | none => exact Nat.zero_le _
          | some s => exact hn s (List.mem_append_right _ (List.mem_of_getElem? hc)))
        have h2 : startW.size = 5 := rfl
        rw [List.length_singleton] at h1
        unfold startL
        omega
  · obtain ⟨p, hp, rfl⟩ := List.mem_map.1 hl
    exact prodT_size hn p (by have := right_prod h hp; omega)
theorem text_le {g : Gram} (h : ∀ l ∈ linesG g, l.size ≤ 20000000) {ls : List ByteArray} (hs : ∀ l ∈ ls, l ∈ linesG g) (hn : ls.length ≤ 400) : (textB ls).size ≤ 10000000000 := by
  have h1 := textB_size ls 20000000 (fun l hl => h l (hs l hl))
  have h2 : (20000000 + 1) * ls.length ≤ 20000001 * 400 := Nat.mul_le_mul (by decide) hn
  omega
theorem mem_take {α : Type} {l : List α} {k : Nat} {x : α} (h : x ∈ l.take k) : x ∈ l := List.mem_of_mem_take h
theorem lines_a {g : Gram} {k : Nat} : ∀ l ∈ bndsL g ++ (g.toks.take k).map tokT, l ∈ linesG g := by
  intro l hl
  unfold linesG
  rcases List.mem_append.1 hl with hl | hl
  · exact List.mem_append_left _ (List.mem_append_left _ (List.mem_append_left _ hl))
  · obtain ⟨t, ht, rfl⟩ := List.mem_map.1 hl
    exact List.mem_append_left _ (List.mem_append_left _ (List.mem_append_right _ (List.mem_map_of_mem (mem_take ht))))
theorem lines_c {g : Gram} {k : Nat} : ∀ l ∈ bndsL g ++ g.toks.map tokT ++ [ruleL g, startL g] ++ (g.prods.take k).map (prodT g), l ∈ linesG g := by
  intro l hl
  unfold linesG
  rcases List.mem_append.1 hl with hl | hl
  · exact List.mem_append_left _ hl
  · obtain ⟨t, ht, rfl⟩ := List.mem_map.1 hl
    exact List.mem_append_right _ (List.mem_map_of_mem (mem_take ht))
set_option maxRecDepth 20000 in
set_option maxHeartbeats 16000000 in
theorem ref_Show19 (a b c : Value) (g : Gram) (w : World) (HG : GramIs w (Old w) a b c g) (s1 : g.toks.length ≤ 100000) (s2 : g.rules.length ≤ 100000) (s3 : g.prods.length ≤ 100000) (hz : Named g) (hwd : ∀ t ∈ g.toks, ∀ x ∈ t.rex, Wordy x) :
    Calls Tryz.prog 12 #[.agg (gramCells a b c g)] w fun r w' => r = .returned (.string (gramT g)) ∧ Below w.heap.size w w' := by
  have HR := hidden (fun (w' : World) (hb : Below w.heap.size w w') => ref_Check a b c g w' (HG.old hb) s1 s2 s3 hz)
  have hq1 : Hid (∀ w, (Op.equalIn 10000 35 (.agg #[.int .i64 (checkOf g).kind, .int .i64 (checkOf g).at_, .int .i64 (checkOf g).more]) (.agg #[.int .i64 0, .int .i64 0, .int .i64 0])).run Tryz.prog w = .ok (rightB g) w) := hidden (fun w => by
    have := def_eq_run w (checkOf g) D0
    rw [right_eq] at this
    exact this)
  have HTk := hidden (fun (t : Token) (ht : t ∈ g.toks) (lv : Value) (w' : World) (HL : Rd w' (Old w') 5 lv t.rex.length (t.rex.flatMap rxCells)) => ref_ShowToken19 t lv w' HL (hwd t ht) (hz _ (List.mem_append_left _ (List.mem_map_of_mem ht))))
  have HPr := hidden (fun (p : Prod) (lv : Value) (w' : World) (hb : Below w.heap.size w w') (HL : Rd w' (Old w') 4 lv p.right.length (p.right.flatMap itCells)) (hl : p.right.length ≤ 10000) => ref_ShowProd19 a b c lv g p w' (HG.old hb) s1 s2 s3 hz HL hl)
  have HGs := hidden (fun (w' : World) (hb : Below w.heap.size w w') => HG.old hb)
  obtain ⟨A1, k1, rfl, h11, h12⟩ := HG.1.value
  obtain ⟨A2, k2, rfl, h21, h22⟩ := HG.2.1.val
  obtain ⟨A3, k3, rfl, h31, h32⟩ := HG.2.2.value
  unfold maxLen at h12 h22 h32
  have hb := ((Below.refl w.heap.size w).alloc (Nat.le_refl _) (.cells (gramCells (.slice A1 g.toks.length k1) (.slice A2 g.rules.length k2) (.slice A3 g.prods.length k3) g) 27))
  have HJx := hidden (Holds.new w 27 (gramCells (.slice A1 g.toks.length k1) (.slice A2 g.rules.length k2) (.slice A3 g.prods.length k3) g))
  obtain ⟨res, HE⟩ : ∃ res, Hid (gramT g = res) := ⟨_, hidden rfl⟩
  rw [HE.out]
  unfold gramCells defC at *
  clear HG hz hwd
  go_enter Tryz.func12, Tryz.ntmps12
  go_upto_region 1 with fail
  generalize (w.alloc (.cells #[.slice A1 g.toks.length k1, .slice A2 g.rules.length k2, .slice A3 g.prods.length k3, .int .i64 g.start, .int .i64 g.states, .int .i64 g.text, .int .i64 g.nodes, .int .i64 g.pairs] 27)) = w1 at *
  obtain ⟨g0, g1, g2, g3, g4, g5, g6, g7⟩ := gcells HJx.out
  have HX := hidden (HR.out w1 hb)
  go_wp2_with fail
  refine HX.out.mono ?_
  rintro r w2 ⟨rfl, hb2⟩
  replace HJx := hidden (HJx.out.below hb2 HJx.out.lt)
  have hb3 := hb.trans (hb2.mono hb.size)
  clear g0 g1 g2 g3 g4 g5 g6 g7 HX HR hb hb2
  have hq := hq1.out
  cases hr : rightB g with
  | false =>
    rw [hr] at hq
    have e0 : res = ByteArray.empty := by rw [← HE.out]; unfold gramT; rw [hr]; rfl
    subst e0
    clear HE hr HTk HPr HGs hq1
    go_wp2
    go_ret
    exact ⟨rfl, hb3⟩
  | true =>
    rw [hr] at hq
    have HE0 : Hid (textB (linesG g) = res) := hidden (by rw [← HE.out]; unfold gramT; rw [hr]; rfl)
    have HSm : Hid (g.states ≤ 4096 ∧ g.text ≤ 65536 ∧ g.nodes ≤ 65536 ∧ g.pairs ≤ 1048576) := hidden (right_sizes hr).2
    have HLn := hidden (right_sizes hr).1
    have HSt := hidden (right_start hr)
    have HPl := hidden (fun (p : Prod) (hp : p ∈ g.prods) => right_prod hr hp)
    have HNm := hidden (right_names hr)
    have HSp : Hid (∀ p, showProd g p = prodT g p) := hidden (fun p => by unfold showProd; rw [hr]; rfl)
    have HZ : Hid (∀ l ∈ linesG g, l.size ≤ 20000000) := hidden (lines_size hr)
    clear HE hr hq1
    obtain ⟨n0, hn0⟩ : ∃ x, Hid (numT g.states = x) := ⟨_, hidden rfl⟩
    obtain ⟨n1, hn1⟩ : ∃ x, Hid (numT g.text = x) := ⟨_, hidden rfl⟩
    obtain ⟨n2, hn2⟩ : ∃ x, Hid (numT g.nodes = x) := ⟨_, hidden rfl⟩
    obtain ⟨n3, hn3⟩ : ∃ x, Hid (numT g.pairs = x) := ⟨_, hidden rfl⟩
    have m0 : n0.size ≤ 20 := by rw [← hn0.out]; exact numT_size _ (by have := HSm.out; omega)
    have m1 : n1.size ≤ 20 := by rw [← hn1.out]; exact numT_size _ (by have := HSm.out; omega)
    have m2 : n2.size ≤ 20 := by rw [← hn2.out]; exact numT_size _ (by have := HSm.out; omega)
    have m3 : n3.size ≤ 20 := by rw [← hn3.out]; exact numT_size _ (by have := HSm.out; omega)
    have HB4 : Hid (textB (bndsL g) = (⟨#[98, 111, 117, 110, 100, 32, 115, 116, 97, 116, 101, 115, 32]⟩ : ByteArray) ++ n0 ++ (⟨#[10, 98, 111, 117, 110, 100, 32, 116, 101, 120, 116, 32]⟩ : ByteArray) ++ n1 ++ (⟨#[10, 98, 111, 117, 110, 100, 32, 110, 111, 100, 101, 115, 32]⟩ : ByteArray) ++ n2 ++ (⟨#[10, 98, 111, 117, 110, 100, 32, 112, 97, 105, 114, 115, 32]⟩ : ByteArray) ++ n3 ++ (⟨#[10]⟩ : ByteArray)) := hidden (by rw [bnds_text, ← hn0.out, ← hn1.out, ← hn2.out, ← hn3.out]; rfl)
    have HN0 := hidden (fun w' => ref_Show01 g.states w' (by have := HSm.out; omega))
    have HN1 := hidden (fun w' => ref_Show01 g.text w' (by have := HSm.out; omega))
    have HN2 := hidden (fun w' => ref_Show01 g.nodes w' (by have := HSm.out; omega))
    have HN3 := hidden (fun w' => ref_Show01 g.pairs w' (by have := HSm.out; omega))
    unfold numT at hn0 hn1 hn2 hn3
    rw [hn0.out] at HN0
    rw [hn1.out] at HN1
    rw [hn2.out] at HN2
    rw [hn3.out] at HN3

    clear hn0 hn1 hn2 hn3
    have hx0 : ¬ 9223372036854775807 < 13 + n0.size := by omega
    have hx1 : ¬ 9223372036854775807 < 13 + n0.size + 12 := by omega
    have hx2 : ¬ 9223372036854775807 < 13 + n0.size + 12 + n1.size := by omega
    have hx3 : ¬ 9223372036854775807 < 13 + n0.size + 12 + n1.size + 13 := by omega
    have hx4 : ¬ 9223372036854775807 < 13 + n0.size + 12 + n1.size + 13 + n2.size := by omega
    have hx5 : ¬ 9223372036854775807 < 13 + n0.size + 12 + n1.size + 13 + n2.size + 13 := by omega
    have hx6 : ¬ 9223372036854775807 < 13 + n0.size + 12 + n1.size + 13 + n2.size + 13 + n3.size := by omega
    have hx7 : ¬ 9223372036854775807 < 13 + n0.size + 12 + n1.size + 13 + n2.size + 13 + n3.size + 1 := by omega
    clear m0 m1 m2 m3
    obtain ⟨g0, g1, g2, g3, g4, g5, g6, g7⟩ := gcells HJx.out
    go_upto_region 3 with fail
    have d4 := fun y : Ext w2 => Ext.cell g4 y
    have d5 := fun y : Ext w2 => Ext.cell g5 y
    have d6 := fun y : Ext w2 => Ext.cell g6 y
    have d7 := fun y : Ext w2 => Ext.cell g7 y
    clear g0 g1 g2 g3 g4 g5 g6 g7 hq
    refine wp_region_ext (by kernel_rfl) (by kernel_rfl) ?_
    go_big_quiet_step (fail)
    go_big_quiet_step (fail)
    go_big_quiet_step ((go_at_call 32; exact Ext.call (HN0.out _)))
    go_big_quiet_step (fail)
    go_big_quiet_step (fail)
    go_big_quiet_step (fail)
    go_big_quiet_step (fail)
    go_big_quiet_step ((go_at_call 32; exact Ext.call (HN1.out _)))
    go_big_quiet_step (fail)
    go_big_quiet_step (fail)
    go_big_quiet_step (fail)
    go_big_quiet_step (fail)
    go_big_quiet_step ((go_at_call 32; exact Ext.call (HN2.out _)))
    go_big_quiet_step (fail)
    go_big_quiet_step (fail)
    go_big_quiet_step (fail)
    go_big_quiet_step (fail)
    go_big_quiet_step ((go_at_call 32; exact Ext.call (HN3.out _)))
    go_big_quiet_step (fail)
    go_big_quiet_step (fail)
    repeat (go_big_quiet_step (fail))
    refine wpQuiet_nil ?_
    intro w3 hb5
    have hb4 := hb3.trans (hb5.mono hb3.size)
    replace HJx := hidden (HJx.out.below hb5 HJx.out.lt)
    clear d4 d5 d6 d7 HN0 HN1 HN2 HN3 hb5 hb3
    have HA0 : Hid ((⟨#[98, 111, 117, 110, 100, 32, 115, 116, 97, 116, 101, 115, 32]⟩ : ByteArray) ++ n0 ++ (⟨#[10, 98, 111, 117, 110, 100, 32, 116, 101, 120, 116, 32]⟩ : ByteArray) ++ n1 ++ (⟨#[10, 98, 111, 117, 110, 100, 32, 110, 111, 100, 101, 115, 32]⟩ : ByteArray) ++ n2 ++ (⟨#[10, 98, 111, 117, 110, 100, 32, 112, 97, 105, 114, 115, 32]⟩ : ByteArray) ++ n3 ++ (⟨#[10]⟩ : ByteArray) = textB (bndsL g ++ (g.toks.take 0).map tokT)) := hidden (by rw [← HB4.out, List.take_zero, List.map_nil, List.append_nil])
    have hbh := hidden hb4
    go_upto_region 5 with fail
    clear hx0 hx1 hx2 hx3 hx4 hx5 hx6 hx7 HB4
    go_loopg [3, 4] g.toks.length (fun gh ss kk wr => ∃ (k : Nat) (acc : ByteArray), k ≤ g.toks.length ∧ gh = g.toks.length - k ∧ kk = .int .i64 k ∧ ss = .string acc ∧ Hid (acc = textB (bndsL g ++ (g.toks.take k).map tokT)) ∧ Hid (Below w.heap.size w wr) ∧ Hid (Holds wr w.heap.size 27 #[.slice A1 g.toks.length k1, .slice A2 g.rules.length k2, .slice A3 g.prods.length k3, .int .i64 g.start, .int .i64 g.states, .int .i64 g.text, .int .i64 g.nodes, .int .i64 g.pairs]))
    case atStart => exact ⟨0, _, Nat.zero_le _, rfl, rfl, rfl, HA0, hbh, HJx⟩
    case round =>
      clear HA0 hb4 hbh HJx
      obtain ⟨k, acc, hk, rfl, rfl, rfl, HAcc, HB, HJr⟩ := hrel
      have hasz : acc.size ≤ 10000000000 := by
        rw [HAcc.out]
        refine text_le HZ.out lines_a ?_
        have := HLn.out
        rw [List.length_append, List.length_map, List.length_take]
        show 4 + _ ≤ 400
        omega
      obtain ⟨g0, g1, g2, g3, g4, g5, g6, g7⟩ := gcells HJr.out
      by_cases hlt : k < g.toks.length
      · have q5 : (k : Int) < (g.toks.length : Int) := by omega
        have q6 : (0 : Int) ≤ (k : Int) := by omega
        have hx := List.getElem?_eq_getElem hlt
        have htk : g.toks.take (k + 1) = g.toks.take k ++ [g.toks[k]] := by rw [List.take_add_one, hx]; rfl
        have hmem : Hid (g.toks[k] ∈ g.toks) := hidden (List.getElem_mem hlt)
        obtain ⟨b4, off4, lv, rfl, hT4, hat, HLt⟩ := (HGs.out wr HB.out).1.at_ hx
        generalize g.toks[k] = x at *
        have HTake := hidden htk
        obtain ⟨A5, k5, rfl, h51, h52⟩ := HLt.val
        have x0 : wr.cell? ⟨b4, off4 + k * 3, none⟩ = some (.string x.name) := hat 0 _ rfl
        have x1 : wr.cell? ⟨b4, off4 + k * 3 + 1, none⟩ = some (.slice A5 x.rex.length k5) := hat 1 _ rfl
        have x2 : wr.cell? ⟨b4, off4 + k * 3 + 2, none⟩ = some (.int .i64 x.cls) := hat 2 _ rfl
        have HX := hidden (HTk.out x hmem.out _ _ HLt)
        have htz := tokT_size x
        have HAcc2 : Hid (acc ++ tokT x ++ (⟨#[10]⟩ : ByteArray) = textB (bndsL g ++ (g.toks.take (k + 1)).map tokT)) := hidden (by
          rw [HAcc.out, htk, List.map_append, ← List.append_assoc, List.map_singleton, textB_snoc]
          rfl)
        have hsz1 : (acc ++ tokT x).size ≤ 10100000000 := by rw [ByteArray.size_append]; omega
        clear htk hat hT4 HLt hx h51 h52 HAcc
        go_wp2_with fail
        refine HX.out.mono ?_
        rintro r w5 ⟨rfl, hb5⟩
        have HB2 := hidden (HB.out.trans (hb5.mono HB.out.size))
        have HJ2 := hidden (HJr.out.below hb5 HJr.out.lt)
        clear g0 g1 g2 g3 g4 g5 g6 g7 x0 x1 x2 HX hb5 HB HJr HTake hmem
        generalize tokT x = tx at *
        go_wp2
        go_roundg (g.toks.length - (k + 1))
        case measure => omega
        case rel => exact ⟨k + 1, _, by omega, rfl, by go_num, rfl, HAcc2, HB2, HJ2⟩
      · obtain rfl : k = g.toks.length := by omega
        have q5 : ¬ (g.toks.length : Int) < (g.toks.length : Int) := by omega
        have HAcc1 : Hid (acc = textB (bndsL g ++ g.toks.map tokT)) := hidden (by have := HAcc.out; rw [List.take_length] at this; exact this)
        have HA0 : Hid (acc ++ (⟨#[114, 117, 108, 101, 115]⟩ : ByteArray) = acc ++ lineB rulesW (g.rules.take 0)) := hidden (by rw [List.take_zero, lineB_nil]; rfl)
        clear HAcc hk hlt HTk
        go_upto_region 10 with fail
        clear g0 g1 g2 g3 g4 g5 g6 g7
        go_loopg [3, 5] g.rules.length (fun gh ss kk wr => ∃ (k : Nat) (ac : ByteArray), k ≤ g.rules.length ∧ gh = g.rules.length - k ∧ kk = .int .i64 k ∧ ss = .string ac ∧ Hid (ac = acc ++ lineB rulesW (g.rules.take k)) ∧ Hid (Below w.heap.size w wr) ∧ Hid (Holds wr w.heap.size 27 #[.slice A1 g.toks.length k1, .slice A2 g.rules.length k2, .slice A3 g.prods.length k3, .int .i64 g.start, .int .i64 g.states, .int .i64 g.text, .int .i64 g.nodes, .int .i64 g.pairs]))
        case atStart => exact ⟨0, _, Nat.zero_le _, rfl, rfl, rfl, HA0, HB, HJr⟩
        case round =>
          clear HA0 HB HJr
          obtain ⟨k, ac, hk, rfl, rfl, rfl, HAc, HB, HJr⟩ := hrel
          have hacz : ac.size ≤ 10001000000 := by
            rw [HAc.out, ByteArray.size_append]
            have h1 := lineB_size rulesW (g.rules.take k) 1000 (fun y hy => HNm.out y (List.mem_append_right _ (mem_take hy)))
            have h2 : rulesW.size = 5 := rfl
            have h3 := HLn.out
            rw [List.length_take, Nat.min_eq_left hk] at h1
            omega
          obtain ⟨g0, g1, g2, g3, g4, g5, g6, g7⟩ := gcells HJr.out
          by_cases hlt : k < g.rules.length
          · have q5 : (k : Int) < (g.rules.length : Int) := by omega
            have q6 : (0 : Int) ≤ (k : Int) := by omega
            have hx := List.getElem?_eq_getElem hlt
            obtain ⟨bs_, off, rfl, hT, hc0⟩ := strs_at (HGs.out wr HB.out).2.1 hx
            have htk : g.rules.take (k + 1) = g.rules.take k ++ [g.rules[k]] := by rw [List.take_add_one, hx]; rfl
            have hns : (g.rules[k]).size ≤ 1000 := HNm.out _ (List.mem_append_right _ (List.getElem_mem hlt))
            generalize g.rules[k] = nm at *
            have HAc2 : Hid (ac ++ (⟨#[32]⟩ : ByteArray) ++ nm = acc ++ lineB rulesW (g.rules.take (k + 1))) := hidden (by rw [HAc.out, htk, rules_more])
            have hsz1 : (ac ++ (⟨#[32]⟩ : ByteArray)).size ≤ 10001000001 := by rw [ByteArray.size_append]; have : (⟨#[32]⟩ : ByteArray).size = 1 := rfl; omega
            clear htk hT hx HAc
            go_wp2
            go_roundg (g.rules.length - (k + 1))
            case measure => omega
            case rel => exact ⟨k + 1, _, by omega, rfl, by go_num, rfl, HAc2, HB, HJr⟩
          · obtain rfl : k = g.rules.length := by omega
            have q5 : ¬ (g.rules.length : Int) < (g.rules.length : Int) := by omega
            obtain ⟨j, hj, hjl⟩ := HSt.out
            obtain ⟨bs_, off, e5, hT, hc0⟩ := strs_at (HGs.out wr HB.out).2.1 (List.getElem?_eq_getElem hjl)
            have HSl : Hid (startL g = lineB startW [g.rules[j]]) := hidden (by unfold startL; rw [hj, Int.toNat_natCast, List.getElem?_eq_getElem hjl]; rfl)
            have hns : (g.rules[j]).size ≤ 1000 := HNm.out _ (List.mem_append_right _ (List.getElem_mem hjl))
            generalize g.rules[j] = nm at *
            subst e5
            have HA3 : Hid (ac ++ (⟨#[10, 115, 116, 97, 114, 116, 32]⟩ : ByteArray) ++ nm ++ (⟨#[10]⟩ : ByteArray) = textB (bndsL g ++ g.toks.map tokT ++ [ruleL g, startL g] ++ (g.prods.take 0).map (prodT g))) := hidden (by
              rw [HAc.out, HAcc1.out, List.take_length, start_text, HSl.out, List.take_zero, List.map_nil, List.append_nil]
              rfl)
            rw [hj] at g3
            have q1 : ¬ (j : Int) < 0 := by omega
            have q2 : ¬ (g.rules.length : Int) ≤ (j : Int) := by omega
            have q3 : (j : Int) < (g.rules.length : Int) := by omega
            have hsz1 : (ac ++ (⟨#[10, 115, 116, 97, 114, 116, 32]⟩ : ByteArray)).size ≤ 10001000010 := by rw [ByteArray.size_append]; have : (⟨#[10, 115, 116, 97, 114, 116, 32]⟩ : ByteArray).size = 7 := rfl; omega
            have hsz2 : (ac ++ (⟨#[10, 115, 116, 97, 114, 116, 32]⟩ : ByteArray) ++ nm).size ≤ 10001002000 := by rw [ByteArray.size_append]; omega
            clear HAc HAcc1 HSl hj hjl hT hk hlt HSt
            go_upto_region 15 with fail
            clear g0 g1 g2 g3 g4 g5 g6 g7 hc0 q1 q2 q3 hsz1 hsz2 hns hacz hasz
            go_loopg [3, 6] g.prods.length (fun gh ss kk wr => ∃ (k : Nat) (at_ : ByteArray), k ≤ g.prods.length ∧ gh = g.prods.length - k ∧ kk = .int .i64 k ∧ ss = .string at_ ∧ Hid (at_ = textB (bndsL g ++ g.toks.map tokT ++ [ruleL g, startL g] ++ (g.prods.take k).map (prodT g))) ∧ Hid (Below w.heap.size w wr) ∧ Hid (Holds wr w.heap.size 27 #[.slice A1 g.toks.length k1, .slice (some ⟨bs_, off, none⟩) g.rules.length k2, .slice A3 g.prods.length k3, .int .i64 g.start, .int .i64 g.states, .int .i64 g.text, .int .i64 g.nodes, .int .i64 g.pairs]))
            case atStart => exact ⟨0, _, Nat.zero_le _, rfl, rfl, rfl, HA3, HB, HJr⟩
            case round =>
              clear HA3 HB HJr
              obtain ⟨k, at_, hk, rfl, rfl, rfl, HAt, HB, HJr⟩ := hrel
              have hasz : at_.size ≤ 10000000000 := by
                rw [HAt.out]
                refine text_le HZ.out lines_c ?_
                have := HLn.out
                rw [List.length_append, List.length_append, List.length_append, List.length_map, List.length_map, List.length_take]
                show 4 + _ + 2 + _ ≤ 400
                omega
              obtain ⟨g0, g1, g2, g3, g4, g5, g6, g7⟩ := gcells HJr.out
              by_cases hlt : k < g.prods.length
              · have q5 : (k : Int) < (g.prods.length : Int) := by omega
                have q6 : (0 : Int) ≤ (k : Int) := by omega
                have hx := List.getElem?_eq_getElem hlt
                have htk : g.prods.take (k + 1) = g.prods.take k ++ [g.prods[k]] := by rw [List.take_add_one, hx]; rfl
                have hmem : Hid (g.prods[k] ∈ g.prods) := hidden (List.getElem_mem hlt)
                obtain ⟨b4, off4, lv, rfl, hT4, hat, HLt⟩ := (HGs.out wr HB.out).2.2.at_ hx
                have HLp := hidden (fun (w' : World) (hb : Below w.heap.size w w') => ((HGs.out w' hb).2.2.at_ hx))
                generalize g.prods[k] = x at *
                have HTake := hidden htk
                obtain ⟨A5, k5, rfl, h51, h52⟩ := HLt.val
                have x0 : wr.cell? ⟨b4, off4 + k * 2, none⟩ = some (.int .i64 x.left) := hat 0 _ rfl
                have x1 : wr.cell? ⟨b4, off4 + k * 2 + 1, none⟩ = some (.slice A5 x.right.length k5) := hat 1 _ rfl
                have hpl := HPl.out x hmem.out
                have htz := prodT_size HNm.out x (by omega)
                have HX := hidden (fun (y : Ext wr) => HPr.out x (.slice A5 x.right.length k5) _ (HB.out.trans (y.below.mono HB.out.size)) (HLt.old y.below) (by omega))
                rw [HSp.out x] at HX
                have HAt2 : Hid (at_ ++ prodT g x ++ (⟨#[10]⟩ : ByteArray) = textB (bndsL g ++ g.toks.map tokT ++ [ruleL g, startL g] ++ (g.prods.take (k + 1)).map (prodT g))) := hidden (by
                  rw [HAt.out, htk, List.map_append, ← List.append_assoc _ ((g.prods.take k).map (prodT g)), List.map_singleton, textB_snoc]
                  rfl)
                have hsz1 : (at_ ++ prodT g x).size ≤ 10100000000 := by rw [ByteArray.size_append]; omega
                clear htk hat hT4 HLt hx h51 h52 HAt HLp
                go_upto_region 17 with fail
                have d0 := fun y : Ext wr => Ext.cell g0 y
                have d1 := fun y : Ext wr => Ext.cell g1 y
                have d2 := fun y : Ext wr => Ext.cell g2 y
                have d3 := fun y : Ext wr => Ext.cell g3 y
                have d4 := fun y : Ext wr => Ext.cell g4 y
                have d5 := fun y : Ext wr => Ext.cell g5 y
                have d6 := fun y : Ext wr => Ext.cell g6 y
                have d7 := fun y : Ext wr => Ext.cell g7 y
                have y0 := fun y : Ext wr => Ext.cell x0 y
                have y1 := fun y : Ext wr => Ext.cell x1 y
                clear g0 g1 g2 g3 g4 g5 g6 g7 x0 x1
                refine wp_region_ext (by kernel_rfl) (by kernel_rfl) ?_
                repeat (go_big_quiet_step ((go_at_call 33; exact Ext.call (HX.out _))))
                refine wpQuiet_nil ?_
                intro w5 hb5
                have HB2 := hidden (HB.out.trans (hb5.mono HB.out.size))
                have HJ2 := hidden (HJr.out.below hb5 HJr.out.lt)
                clear d0 d1 d2 d3 d4 d5 d6 d7 y0 y1 HX hb5 HB HJr HTake hmem
                generalize prodT g x = tx at *
                go_wp2
                go_roundg (g.prods.length - (k + 1))
                case measure => omega
                case rel => exact ⟨k + 1, _, by omega, rfl, by go_num, rfl, HAt2, HB2, HJ2⟩
              · obtain rfl : k = g.prods.length := by omega
                have q5 : ¬ (g.prods.length : Int) < (g.prods.length : Int) := by omega
                have e0 : at_ = res := by rw [HAt.out, List.take_length, ← HE0.out]; rfl
                subst e0
                have hbz := HB.out
                clear HE0 HAt HB HPr HGs HPl HNm HSp HZ
                go_wp2
                go_ret
                exact ⟨rfl, hbz⟩
end Go.Proofs.YtfmdmeokbbpmlaaGreat
