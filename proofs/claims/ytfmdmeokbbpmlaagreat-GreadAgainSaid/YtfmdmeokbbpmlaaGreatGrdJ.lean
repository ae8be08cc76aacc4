/-
  gread.Read.
-/
import Derived.Test.YtfmdmeokbbpmlaaGreatGrdI
import Derived.Test.YtfmdmeokbbpmlaaGreatGrdQ
import Derived.Test.YtfmdmeokbbpmlaaGreatW1
import Derived.WalkMore
namespace Go.Proofs.YtfmdmeokbbpmlaaGreat
open Go.RowKit Go.Shelf

/-- What Read leaves. -/
def RdOut (W : World) (Z : Gram × Nat × Int) (r : Ending) (w' : World) : Prop := ∃ a b c, r = .returned (.tuple #[.agg (gramCells a b c Z.1), .int .i64 (Z.2.1 : Int), .int .i64 Z.2.2]) ∧ GramIs w' (Old w') a b c Z.1 ∧ Below W.heap.size W w'
theorem run_lenK {P : Program} {w : World} {b n : Nat} {t k e : TypeId} {l : List (ByteArray × Value)} (ht : P.underlying t = some (.map k e)) (hb : w.heap[b]? = some (.map (ents 0 l).toArray n)) (ty : TypeId) : (Builtin.len_ #[t] ty #[.map (some b)]).run P w = .ok (.int .i64 (l.length : Int)) w := by
  have hs : (ents 0 l).toArray.size = l.length := by simp [ents_len]
  simp [Builtin.len_, run_underlying ht, MapKept.run_getObj_map hb, goInt, Result.andThen, ents_len]
theorem step_nil {x : St} {l : ByteArray} (h : wordsOf l = []) : stepG x l = .inr x := by unfold stepG; rw [h]
theorem step_note {x : St} {l : ByteArray} (h : l.data.toList.head? = some 35) : stepG x l = .inr x := by
  unfold stepG
  cases wordsOf l with
  | nil => rfl
  | cons w0 r => rw [h]; rfl
theorem step_line {x : St} {l w0 : ByteArray} {r : List ByteArray} (h : l.data.toList.head? ≠ some 35) (hw : wordsOf l = w0 :: r) : stepG x l = lineG x w0 r := by
  unfold stepG
  rw [hw]
  dsimp only
  rw [if_neg h]
theorem gram_start (W : World) : GrA (W.alloc (.cells #[.slice none 0 0, .slice none 0 0, .slice none 0 0, .int .i64 0, .int .i64 0, .int .i64 0, .int .i64 0, .int .i64 0] 27)) (W.heap.size + 1 + 1) (W.heap.size + 1) ⟨g0, []⟩ (.slice none 0 0) (.slice none 0 0) (.slice none 0 0) [] [] (((W.alloc (.cells #[.slice none 0 0, .slice none 0 0, .slice none 0 0, .int .i64 0, .int .i64 0, .int .i64 0, .int .i64 0, .int .i64 0] 27)).alloc (.map #[] 0)).alloc (.cells #[.slice none 0 0, .slice none 0 0, .slice none 0 0, .int .i64 0, .int .i64 0, .int .i64 0, .int .i64 0, .int .i64 0, .map (some (W.heap.size + 1))] 54)) := by
  have hz : (W.alloc (.cells #[.slice none 0 0, .slice none 0 0, .slice none 0 0, .int .i64 0, .int .i64 0, .int .i64 0, .int .i64 0, .int .i64 0] 27)).heap.size = W.heap.size + 1 := World.size_alloc ..
  have hz2 : ((W.alloc (.cells #[.slice none 0 0, .slice none 0 0, .slice none 0 0, .int .i64 0, .int .i64 0, .int .i64 0, .int .i64 0, .int .i64 0] 27)).alloc (.map #[] 0)).heap.size = W.heap.size + 1 + 1 := by rw [World.size_alloc, hz]
  have hn : ∀ k, (Value.slice none 0 0).ownBlock ≠ some k := fun k e => by cases e
  refine ⟨?_, ?_, Mine.nil _ _ _ _, Mine.nil _ _ _ _, Mine.nil _ _ _ _, rfl, rfl, fun i x l h => by simp [g0] at h, fun i x l h => by simp [g0] at h, ⟨?_, ?_, by omega, fun k e => absurd e (hn k), fun k e => absurd e (hn k), fun k e => absurd e (hn k)⟩, ⟨by rw [hz]; omega, by rw [hz]; omega⟩, ?_⟩
  · exact Holds.new_at hz2.symm
  · have h1 : ((W.alloc (.cells #[.slice none 0 0, .slice none 0 0, .slice none 0 0, .int .i64 0, .int .i64 0, .int .i64 0, .int .i64 0, .int .i64 0] 27)).alloc (.map #[] 0)).heap[(W.alloc (.cells #[.slice none 0 0, .slice none 0 0, .slice none 0 0, .int .i64 0, .int .i64 0, .int .i64 0, .int .i64 0, .int .i64 0] 27)).heap.size]? = some (.map #[] 0) := (MapKept.heap_alloc _ _).1
    rw [hz] at h1
    exact (Below.heap_alloc _ _ _ (by rw [hz2]; omega)).trans h1
  · rw [World.size_alloc, hz2]; omega
  · rw [World.size_alloc, hz2]; omega
  · exact ((Below.refl _ _).alloc (Nat.le_refl _) _).alloc (by rw [World.size_alloc]; omega) _
set_option maxRecDepth 20000 in
set_option maxHeartbeats 32000000 in
theorem gr_Read (s : ByteArray) (W : World) :
    Calls Tryz.prog 7 #[.string s] W fun r w' => Hid (RdOut W (readG s) r w') := by
  obtain ⟨Z, HZ⟩ : ∃ Z, Hid (readG s = Z) := ⟨_, hidden rfl⟩
  rw [HZ.out]
  by_cases hl : 65536 < s.size
  · have e0 : Z = (g0, 0, 4) := by rw [← HZ.out]; unfold readG; rw [if_pos hl]
    subst e0
    have q0 : (65536 : Int) < (s.size : Int) := by omega
    clear HZ
    go_enter Tryz.func7, Tryz.ntmps7
    go_wp2
    go_step3
    go_wp2
    (try rw [Exit.noGoto_ret])
    refine bodyPost_ret (v := .tuple #[.agg #[.slice none 0 0, .slice none 0 0, .slice none 0 0, .int .i64 0, .int .i64 0, .int .i64 0, .int .i64 0, .int .i64 0], .int .i64 0, .int .i64 4]) (by simp [results, Tryz.results7, go_sem]) rfl (hidden ⟨.slice none 0 0, .slice none 0 0, .slice none 0 0, rfl, g0_is _ _, ?_⟩)
    exact (by repeat (first | (with_reducible exact Below.refl _ _) | (with_reducible assumption) | (with_reducible refine Below.drew ?_) | (with_reducible refine below_drewN ?_ _) | ((with_reducible refine below_alloc ?_ ?_); (focus (first | omega | (simp; done) | (simp; omega)))) | ((with_reducible refine below_set ?_ ?_); (focus (first | omega | (simp; done) | (simp; omega))))))
  · have q0 : ¬ (65536 : Int) < (s.size : Int) := by omega
    have HY : Hid (readG s = match linesR 0 ⟨g0, []⟩ (linesOf s) with
      | .inl (n, e) => (g0, n, e)
      | .inr x => endG x) := hidden (by unfold readG; rw [if_neg hl]; rfl)
    rw [HZ.out] at HY
    clear HZ
    have hmm := @run_makeMap Tryz.prog
    have HG0 := hidden (gram_start W)
    have HQ0 : Hid (Holds (W.alloc (.cells #[.slice none 0 0, .slice none 0 0, .slice none 0 0, .int .i64 0, .int .i64 0, .int .i64 0, .int .i64 0, .int .i64 0] 27)) W.heap.size 27 #[.slice none 0 0, .slice none 0 0, .slice none 0 0, .int .i64 0, .int .i64 0, .int .i64 0, .int .i64 0, .int .i64 0]) := hidden (Holds.new W _ _)
    have hWq : Hid (Below W.heap.size W (W.alloc (.cells #[.slice none 0 0, .slice none 0 0, .slice none 0 0, .int .i64 0, .int .i64 0, .int .i64 0, .int .i64 0, .int .i64 0] 27))) := hidden ((Below.refl _ _).alloc (Nat.le_refl _) _)
    have HK := hidden (gr_kinds (((W.alloc (.cells #[.slice none 0 0, .slice none 0 0, .slice none 0 0, .int .i64 0, .int .i64 0, .int .i64 0, .int .i64 0, .int .i64 0] 27)).alloc (.map #[] 0)).alloc (.cells #[.slice none 0 0, .slice none 0 0, .slice none 0 0, .int .i64 0, .int .i64 0, .int .i64 0, .int .i64 0, .int .i64 0, .map (some (W.heap.size + 1))] 54)))
    have hMz : (((W.alloc (.cells #[.slice none 0 0, .slice none 0 0, .slice none 0 0, .int .i64 0, .int .i64 0, .int .i64 0, .int .i64 0, .int .i64 0] 27)).alloc (.map #[] 0)).alloc (.cells #[.slice none 0 0, .slice none 0 0, .slice none 0 0, .int .i64 0, .int .i64 0, .int .i64 0, .int .i64 0, .int .i64 0, .map (some (W.heap.size + 1))] 54)).heap.size = W.heap.size + 1 + 1 + 1 := by rw [World.size_alloc, World.size_alloc, World.size_alloc]
    rw [hMz] at HK
    go_enter Tryz.func7, Tryz.ntmps7
    go_wp2_with fail
    go_step3
    go_wp2_with fail
    refine HK.out.mono ?_
    rintro r w1 ⟨rfl, HM, hb1⟩
    rw [← hMz] at hb1
    have HG1 := hidden (HG0.out.later hb1)
    have hz1 := hb1.size
    rw [hMz] at hz1
    clear HK HG0 hmm hb1 hMz
    generalize hwq : (W.alloc (.cells #[.slice none 0 0, .slice none 0 0, .slice none 0 0, .int .i64 0, .int .i64 0, .int .i64 0, .int .i64 0, .int .i64 0] 27)) = Wq at *
    have hqz : Wq.heap.size = W.heap.size + 1 := by rw [← hwq]; exact World.size_alloc ..
    clear hwq
    have HL := hidden (word_lines s w1 (by omega))
    go_wp2_with fail
    go_step3
    go_wp2_with fail
    refine HL.out.mono ?_
    rintro r w2 ⟨⟨lv, rfl, hLv⟩, hb2⟩
    have hz2 := hb2.size
    have hMl : W.heap.size + 1 + 1 + 1 < w1.heap.size := (Array.getElem?_eq_some_iff.1 HM.out).1
    have HG2 := hidden (HG1.out.later hb2)
    have HM2 : Hid (w2.heap[W.heap.size + 1 + 1 + 1]? = some (.map (ents 0 kindsL).toArray kindsL.length)) := hidden ((hb2.block _ (by omega)).trans HM.out)
    have HC2 : Hid (Cold w2 (W.heap.size + 1 + 1) (W.heap.size + 1) (.slice none 0 0) (.slice none 0 0) (.slice none 0 0) (W.heap.size + 1 + 1 + 1)) := hidden ⟨by omega, fun h => by
      rcases h with h | h | h | h | h
      · omega
      · omega
      · cases h
      · cases h
      · cases h⟩
    have hLm : Mine w2 w1.heap.size 9 1 lv (linesOf s).length ((linesOf s).flatMap strC) := hLv.out
    have HS2 : Hid (Strs w2 (Cold w2 (W.heap.size + 1 + 1) (W.heap.size + 1) (.slice none 0 0) (.slice none 0 0) (.slice none 0 0)) lv (linesOf s)) := hidden (hLm.rd (fun g e h1 h2 => ⟨h2, fun h => by
      rcases h with h | h | h | h | h
      · omega
      · omega
      · cases h
      · cases h
      · cases h⟩))
    have hlen := lines_le s
    have htot := tot_lines s
    have hls : Hid (∀ l ∈ linesOf s, l.size ≤ 65536) := hidden (fun l hm => by have := tot_mem hm; omega)
    clear HL HG1 HM hLv hLm hb2 hz1
    generalize linesOf s = L at *
    obtain ⟨Y, hY⟩ : ∃ Y, Hid (linesR 0 ⟨g0, []⟩ L = Y) := ⟨_, hidden rfl⟩
    rw [hY.out] at HY
    have hYd : Hid (linesR 0 ⟨g0, []⟩ (L.drop 0) = Y) := hidden (by rw [List.drop_zero]; exact hY.out)
    clear hY
    obtain ⟨A6, c6, rfl, v6, m6⟩ := HS2.out.val
    obtain ⟨n, hn⟩ : ∃ n, Hid (L.length = n) := ⟨_, hidden rfl⟩
    rw [hn.out] at HS2 hlen
    have HI0 : Hid (InvG 0 (tot (L.take 0)) ⟨g0, []⟩) := hidden (InvG.start.mono (Nat.le_refl _) (Nat.zero_le _))
    go_upto_region 5 with fail
    rw [hn.out]
    go_loopg [23] n (fun gh kk wr => ∃ (k : Nat) (x : St) (tv rv pv : Value) (lt lp : List Value), k ≤ n ∧ gh = n - k ∧ kk = .int .i64 k ∧ Hid (GrA Wq (W.heap.size + 1 + 1) (W.heap.size + 1) x tv rv pv lt lp wr) ∧ Hid (linesR k x (L.drop k) = Y) ∧ Hid (Strs wr (Cold wr (W.heap.size + 1 + 1) (W.heap.size + 1) tv rv pv) (.slice A6 n c6) L) ∧ Hid (wr.heap[W.heap.size + 1 + 1 + 1]? = some (.map (ents 0 kindsL).toArray kindsL.length)) ∧ Hid (Cold wr (W.heap.size + 1 + 1) (W.heap.size + 1) tv rv pv (W.heap.size + 1 + 1 + 1)) ∧ Hid (InvG k (tot (L.take k)) x))
    case atStart => exact ⟨0, ⟨g0, []⟩, _, _, _, [], [], Nat.zero_le _, rfl, rfl, HG2, hYd, HS2, HM2, HC2, HI0⟩
    case round =>
      clear HG2 hYd HS2 HM2 HC2 HI0
      obtain ⟨k, x, tv, rv, pv, lt, lp, hk, rfl, rfl, HA, HYk, HS, HMk, HC, HI⟩ := hrel
      by_cases hlt : k < n
      · have q5 : (k : Int) < (n : Int) := by omega
        have hlt2 : k < L.length := by rw [hn.out]; exact hlt
        have hx := List.getElem?_eq_getElem hlt2
        have hdr : L.drop k = L[k] :: L.drop (k + 1) := List.drop_eq_getElem_cons hlt2
        have hzl := hls.out _ (List.getElem_mem hlt2)
        have htt := tot_take L k _ hx
        have htl := tot_take_le L (k + 1)
        have hst : Strs wr (Cold wr (W.heap.size + 1 + 1) (W.heap.size + 1) tv rv pv) (.slice A6 L.length c6) L := by rw [hn.out]; exact HS.out
        obtain ⟨b, off, e9, hT9, hc9⟩ := strs_at hst hx
        subst e9
        have hb9 := hT9.1
        clear hst hT9
        generalize L[k] = l at *
        have HXs : Hid ((match stepG x l with | .inl e => .inl (k + 1, e) | .inr y => linesR (k + 1) y (L.drop (k + 1))) = Y) := hidden (by rw [← HYk.out, hdr, linesR]; rfl)
        have HWd := hidden (word_words l wr (by omega))
        have hwl := words_len l
        have hwz : Hid (∀ u ∈ wordsOf l, 0 < u.size ∧ u.size ≤ 1000000) := hidden (fun u hu => by have := word_ok hu; omega)
        clear HYk hdr hx
        go_wp2_with fail
        refine HWd.out.mono ?_
        rintro r w3 ⟨⟨wv, rfl, hWv⟩, hb3⟩
        have HA3 := hidden (HA.out.later hb3)
        have HS3 : Hid (Strs w3 (Cold w3 (W.heap.size + 1 + 1) (W.heap.size + 1) tv rv pv) (.slice (some ⟨b, off, none⟩) n c6) L) := hidden ((Rd.keeps HS.out (Keeps.of_below hb3)).mono (fun _ hk => hk.grow hb3.size))
        have HM3 : Hid (w3.heap[W.heap.size + 1 + 1 + 1]? = some (.map (ents 0 kindsL).toArray kindsL.length)) := hidden ((hb3.block _ HC.out.1).trans HMk.out)
        have HC3 := hidden (HC.out.grow hb3.size)
        have hap := HA.out.ap
        have hWm : Mine w3 wr.heap.size 9 1 wv (wordsOf l).length ((wordsOf l).flatMap strC) := hWv.out
        have HWs : Hid (Strs w3 (Cold w3 (W.heap.size + 1 + 1) (W.heap.size + 1) tv rv pv) wv (wordsOf l)) := hidden (hWm.rd (fun g e h1 h2 => ⟨h2, fun h => by
          rcases h with h | h | h | h | h
          · have := hap.r; omega
          · have := hap.b; omega
          · have := (hap.t _ h).1; omega
          · have := (hap.s _ h).1; omega
          · have := (hap.p _ h).1; omega⟩))
        clear HWd HA HS HMk HC hWv hWm hap hb3 hc9 hb9
        cases hw : wordsOf l with
        | nil =>
          rw [hw] at HWs
          obtain ⟨Aw, cw, rfl, vw, mw⟩ := HWs.out.val
          have HXn : Hid (linesR (k + 1) x (L.drop (k + 1)) = Y) := hidden (by rw [← HXs.out, step_nil hw])
          have HI2 := hidden (HI.out.mono (Nat.le_succ k) (show tot (L.take k) ≤ tot (L.take (k + 1)) by omega))
          clear HXs HWs HI hwz hwl hw
          rw [List.length_nil]
          go_wp2
          go_roundg (n - (k + 1))
          case measure => omega
          case rel => exact ⟨k + 1, x, tv, rv, pv, lt, lp, by omega, rfl, by go_num, HA3, HXn, HS3, HM3, HC3, HI2⟩
        | cons w0 r =>
          rw [hw] at HWs hwz hwl
          have hlz := word_ok (s := l) (w := w0) (by rw [hw]; exact List.mem_cons_self)
          obtain ⟨Aw, cw, rfl, vw, mw⟩ := HWs.out.val
          rw [List.length_cons] at hwl vw HWs
          have hl0 : 0 < l.size := by omega
          have q6 : (0 : Int) < (l.size : Int) := by omega
          have q7 : ¬ (r.length : Int) + 1 = 0 := by omega
          have hhd := head_of hl0
          by_cases hh : l[0]'hl0 = 35
          · have q8 : (((l[0]'hl0).toNat : Int) == 35) = true := by rw [hh]; rfl
            have HXn : Hid (linesR (k + 1) x (L.drop (k + 1)) = Y) := hidden (by rw [← HXs.out, step_note (by rw [hhd, hh])])
            have HI2 := hidden (HI.out.mono (Nat.le_succ k) (show tot (L.take k) ≤ tot (L.take (k + 1)) by omega))
            clear HXs HWs HI hwz hw hh hhd
            rw [List.length_cons]
            go_wp2
            go_roundg (n - (k + 1))
            case measure => omega
            case rel => exact ⟨k + 1, x, tv, rv, pv, lt, lp, by omega, rfl, by go_num, HA3, HXn, HS3, HM3, HC3, HI2⟩
          · have q8 : (((l[0]'hl0).toNat : Int) == 35) = false := by
              rw [beq_eq_false_iff_ne]
              intro e
              exact hh (UInt8.toNat_inj.1 (by rw [show (35 : UInt8).toNat = 35 from rfl]; omega))
            have HXl : Hid ((match lineG x w0 r with | .inl e => .inl (k + 1, e) | .inr y => linesR (k + 1) y (L.drop (k + 1))) = Y) := hidden (by
              rw [← HXs.out, step_line (by rw [hhd]; exact fun e => hh (Option.some.inj e)) hw])
            have hI := HI.out
            have HLn := hidden (gr_line Wq (W.heap.size + 1 + 1) (W.heap.size + 1) (W.heap.size + 1 + 1 + 1) x tv rv pv (.slice Aw (r.length + 1) cw) lt lp w0 r w3 HA3.out HM3.out HWs.out hwz.out (by have := hI.tk; omega) (by have := hI.ru; omega) (by have := hI.pr; omega) (by omega))
            have HLi := hidden (fun (y : St) (hy : lineG x w0 r = .inr y) => line_inv hI hy)
            have HLe := hidden (fun (e : Int) (he : lineG x w0 r = .inl e) => line_err he)
            clear HXs HWs HI hI hwz hw hh hhd
            obtain ⟨X, hX⟩ : ∃ X, Hid (lineG x w0 r = X) := ⟨_, hidden rfl⟩
            rw [hX.out] at HXl HLn HLi HLe
            clear hX
            rw [List.length_cons]
            go_wp2_with fail
            refine HLn.out.mono ?_
            intro r9 w4 h
            have h := h.out
            clear HLn HA3
            cases X with
            | inl e0 =>
              obtain ⟨rfl, hbz⟩ := h
              have he := HLe.out e0 rfl
              have hYe : Y = .inl (k + 1, e0) := HXl.out.symm
              have hZe : Z = (g0, k + 1, e0) := by rw [HY.out, hYe]
              subst hZe
              have HQ4 := hidden (HQ0.out.below hbz (by omega))
              obtain ⟨c0, c1, c2, c3, c4, c5, c6', c7⟩ := gcells HQ4.out
              have f0 := HQ4.out.frozen 0
              have f1 := HQ4.out.frozen 1
              have f2 := HQ4.out.frozen 2
              have f3 := HQ4.out.frozen 3
              have f4 := HQ4.out.frozen 4
              have f5 := HQ4.out.frozen 5
              have f6 := HQ4.out.frozen 6
              have f7 := HQ4.out.frozen 7
              have hbw := hWq.out.trans (hbz.mono (by omega))
              clear HXl HLi HLe HS3 HM3 HC3 hYe HY HQ0 HQ4 hbz
              go_wp2
              (try rw [Exit.noGoto_ret])
              refine bodyPost_ret (v := .tuple #[.agg #[.slice none 0 0, .slice none 0 0, .slice none 0 0, .int .i64 0, .int .i64 0, .int .i64 0, .int .i64 0, .int .i64 0], .int .i64 ((k : Int) + 1), .int .i64 e0]) (by simp [results, Tryz.results7, go_sem, c0, c1, c2, c3, c4, c5, c6', c7]) rfl (hidden ⟨.slice none 0 0, .slice none 0 0, .slice none 0 0, rfl, g0_is _ _, ?_⟩)
              exact (by repeat (first | (with_reducible exact Below.refl _ _) | (with_reducible assumption) | (with_reducible refine Below.drew ?_) | (with_reducible refine below_drewN ?_ _) | ((with_reducible refine below_alloc ?_ ?_); (focus (first | omega | (simp; done) | (simp; omega)))) | ((with_reducible refine below_set ?_ ?_); (focus (first | omega | (simp; done) | (simp; omega))))))
            | inr y =>
              obtain ⟨rfl, t', r', p', l1, l2, hy, hfr⟩ := h
              have HXn : Hid (linesR (k + 1) y (L.drop (k + 1)) = Y) := HXl
              have HI2 := hidden ((HLi.out y rfl).mono (Nat.le_refl _) (show tot (L.take k) + r.length ≤ tot (L.take (k + 1)) by omega))
              have HA4 := hidden hy
              have HS4 : Hid (Strs w4 (Cold w4 (W.heap.size + 1 + 1) (W.heap.size + 1) t' r' p') (.slice (some ⟨b, off, none⟩) n c6) L) := hidden ((Rd.keeps HS3.out hfr.k).mono hfr.c)
              have HM4 : Hid (w4.heap[W.heap.size + 1 + 1 + 1]? = some (.map (ents 0 kindsL).toArray kindsL.length)) := hidden ((hfr.k.block _ HC3.out HC3.out.1).trans HM3.out)
              have HC4 := hidden (hfr.c _ HC3.out)
              clear HXl HLi HLe HS3 HM3 HC3 hy hfr
              go_wp2
              go_roundg (n - (k + 1))
              case measure => omega
              case rel => exact ⟨k + 1, y, t', r', p', l1, l2, by omega, rfl, by go_num, HA4, HXn, HS4, HM4, HC4, HI2⟩
      · have hkn : n = k := by omega
        subst hkn
        have q5 : ¬ (n : Int) < (n : Int) := by omega
        obtain ⟨Ta, ta, rfl⟩ := HA.out.mt.value
        obtain ⟨Ra, ra, rfl⟩ := HA.out.mr.value
        obtain ⟨Pa, pa, rfl⟩ := HA.out.mq.value
        have hYx : Y = .inr x := by
          have h := HYk.out
          rw [← hn.out, List.drop_length, linesR] at h
          exact h.symm
        have HZx : Hid (Z = endG x) := hidden (by rw [HY.out, hYx])
        have hge : (givV x.giv).length = x.giv.length := by simp [givV]
        have hlen2 := fun ty => run_lenK (P := Tryz.prog) (t := 52) (k := 9) (e := 4) (by kernel_rfl) HA.out.mp ty
        rw [hge] at hlen2
        obtain ⟨c0, c1, c2, c3, c4, c5, c6', c7, c8⟩ := HA.out.cells
        have HQ4 := hidden (HQ0.out.below HA.out.below (by omega))
        have hbw := hWq.out.trans (HA.out.below.mono (by omega))
        have hI := HI.out
        have hto := tot_take_le L n
        have HAl := hidden (fun (w' : World) (hb : Below wr.heap.size wr w') => HA.out.later hb)
        clear HYk HS HMk HC HI hYx hge hk hlt HY HQ0
        by_cases h5 : x.giv.length = 5
        · have q9 : (x.giv.length : Int) = 5 := by omega
          have HCk := hidden (gram_Check _ _ _ x.g wr HA.out.is_ (by have := hI.tk; omega) (by have := hI.ru; omega) (by have := hI.pr; omega) hI.named)
          have HZy : Hid (Z = if (checkOf x.g).kind ≠ 0 then (g0, 0, (checkOf x.g).kind) else (x.g, 0, 0)) := hidden (by rw [HZx.out]; unfold endG; rw [if_neg (fun h => h h5)])
          unfold gramCells defC at HCk
          clear HZx HA h5
          go_wp2_with fail
          refine HCk.out.mono ?_
          rintro r w5 ⟨rfl, hb5⟩
          have hqlt : W.heap.size < w5.heap.size := (HQ4.out.below hb5 HQ4.out.lt).lt
          have HQ5 := hidden ((HQ4.out.below hb5 HQ4.out.lt).alloc (.cells #[.int .i64 (checkOf x.g).kind, .int .i64 (checkOf x.g).at_, .int .i64 (checkOf x.g).more] 35))
          have HA5 := hidden ((HAl.out w5 hb5).later ((Below.refl _ _).alloc (Nat.le_refl _) (.cells #[.int .i64 (checkOf x.g).kind, .int .i64 (checkOf x.g).at_, .int .i64 (checkOf x.g).more] 35)))
          have hbv := (hbw.trans (hb5.mono hbw.size)).alloc (Nat.le_trans hbw.size hb5.size) (.cells #[.int .i64 (checkOf x.g).kind, .int .i64 (checkOf x.g).at_, .int .i64 (checkOf x.g).more] 35)
          have HDx := hidden (Holds.new w5 35 #[.int .i64 (checkOf x.g).kind, .int .i64 (checkOf x.g).at_, .int .i64 (checkOf x.g).more])
          clear c0 c1 c2 c3 c4 c5 c6' c7 c8 HCk HAl HQ4 hbw hb5 hlen2
          go_upto_region 16 with fail
          generalize (w5.alloc (.cells #[.int .i64 (checkOf x.g).kind, .int .i64 (checkOf x.g).at_, .int .i64 (checkOf x.g).more] 35)) = w6 at *
          generalize w5.heap.size = dq at *
          obtain ⟨d0, d1, d2⟩ := three HDx.out
          obtain ⟨z0, z1, z2, z3, z4, z5, z6, z7⟩ := gcells HQ5.out
          have f0 := HQ5.out.frozen 0
          have f1 := HQ5.out.frozen 1
          have f2 := HQ5.out.frozen 2
          have f3 := HQ5.out.frozen 3
          have f4 := HQ5.out.frozen 4
          have f5 := HQ5.out.frozen 5
          have f6 := HQ5.out.frozen 6
          have f7 := HQ5.out.frozen 7
          have hdq := HDx.out.lt
          by_cases hk0 : (checkOf x.g).kind = 0
          · have e0 : Z = (x.g, 0, 0) := by rw [HZy.out, if_neg (fun h => h hk0)]
            subst e0
            obtain ⟨c0, c1, c2, c3, c4, c5, c6', c7, c8⟩ := HA5.out.cells
            have hG := HA5.out.isN
            have hWz : W.heap.size < Wq.heap.size := by omega
            clear HZy HA5 HQ5
            rw [hk0] at d0
            go_wp2
            (try rw [Exit.noGoto_ret])
            have hnq : ¬ (W.heap.size < w6.heap.size ∧ Wq.heap.size ≤ W.heap.size) := by omega
            have K := (((((((((Keeps.refl (fun k => k < w6.heap.size ∧ Wq.heap.size ≤ k) w6).setCell (p := ⟨W.heap.size, 0, none⟩) hnq (.slice Ta x.g.toks.length ta)).setCell (p := ⟨W.heap.size, 1, none⟩) hnq (.slice Ra x.g.rules.length ra)).setCell (p := ⟨W.heap.size, 2, none⟩) hnq (.slice Pa x.g.prods.length pa)).setCell (p := ⟨W.heap.size, 3, none⟩) hnq (.int .i64 x.g.start)).setCell (p := ⟨W.heap.size, 4, none⟩) hnq (.int .i64 x.g.states)).setCell (p := ⟨W.heap.size, 5, none⟩) hnq (.int .i64 x.g.text)).setCell (p := ⟨W.heap.size, 6, none⟩) hnq (.int .i64 x.g.nodes)).setCell (p := ⟨W.heap.size, 7, none⟩) hnq (.int .i64 x.g.pairs))
            refine bodyPost_ret (v := .tuple #[.agg #[.slice Ta x.g.toks.length ta, .slice Ra x.g.rules.length ra, .slice Pa x.g.prods.length pa, .int .i64 x.g.start, .int .i64 x.g.states, .int .i64 x.g.text, .int .i64 x.g.nodes, .int .i64 x.g.pairs], .int .i64 0, .int .i64 0]) (by simp [results, Tryz.results7, go_sem, z0, z1, z2, z3, z4, z5, z6, z7]) rfl (hidden ⟨_, _, _, rfl, ⟨(hG.1.keeps K).mono (fun k hk => Nat.lt_of_lt_of_le hk.1 K.size), (Rd.keeps hG.2.1 K).mono (fun k hk => Nat.lt_of_lt_of_le hk.1 K.size), (hG.2.2.keeps K).mono (fun k hk => Nat.lt_of_lt_of_le hk.1 K.size)⟩, ?_⟩)
            exact (by repeat (first | (with_reducible exact Below.refl _ _) | (with_reducible assumption) | (with_reducible refine Below.drew ?_) | (with_reducible refine below_drewN ?_ _) | ((with_reducible refine below_alloc ?_ ?_); (focus (first | omega | (simp; done) | (simp; omega)))) | ((with_reducible refine below_set ?_ ?_); (focus (first | omega | (simp; done) | (simp; omega))))))
          · generalize (checkOf x.g).kind = kd at *
            have e0 : Z = (g0, 0, kd) := by rw [HZy.out, if_pos hk0]
            subst e0
            clear HZy HA5 HQ5
            go_upto_region 17 with fail
            have hn1 : dq ≠ W.heap.size := by omega
            have hn2 : W.heap.size ≠ dq := by omega
            go_region
            go_wp2
            (try rw [Exit.noGoto_ret])
            refine bodyPost_ret (v := .tuple #[.agg #[.slice none 0 0, .slice none 0 0, .slice none 0 0, .int .i64 0, .int .i64 0, .int .i64 0, .int .i64 0, .int .i64 0], .int .i64 0, .int .i64 kd]) (by simp [results, Tryz.results7, go_sem, z0, z1, z2, z3, z4, z5, z6, z7]) rfl (hidden ⟨.slice none 0 0, .slice none 0 0, .slice none 0 0, rfl, g0_is _ _, ?_⟩)
            exact (by repeat (first | (with_reducible exact Below.refl _ _) | (with_reducible assumption) | (with_reducible refine Below.drew ?_) | (with_reducible refine below_drewN ?_ _) | ((with_reducible refine below_alloc ?_ ?_); (focus (first | omega | (simp; done) | (simp; omega)))) | ((with_reducible refine below_set ?_ ?_); (focus (first | omega | (simp; done) | (simp; omega))))))
        · have q9 : ¬ (x.giv.length : Int) = 5 := by omega
          have e0 : Z = (g0, 0, 5) := by rw [HZx.out]; unfold endG; rw [if_pos h5]
          subst e0
          obtain ⟨z0, z1, z2, z3, z4, z5, z6, z7⟩ := gcells HQ4.out
          have f0 := HQ4.out.frozen 0
          have f1 := HQ4.out.frozen 1
          have f2 := HQ4.out.frozen 2
          have f3 := HQ4.out.frozen 3
          have f4 := HQ4.out.frozen 4
          have f5 := HQ4.out.frozen 5
          have f6 := HQ4.out.frozen 6
          have f7 := HQ4.out.frozen 7
          clear HZx HA HAl HQ4
          go_wp2
          (try rw [Exit.noGoto_ret])
          refine bodyPost_ret (v := .tuple #[.agg #[.slice none 0 0, .slice none 0 0, .slice none 0 0, .int .i64 0, .int .i64 0, .int .i64 0, .int .i64 0, .int .i64 0], .int .i64 0, .int .i64 5]) (by simp [results, Tryz.results7, go_sem, z0, z1, z2, z3, z4, z5, z6, z7]) rfl (hidden ⟨.slice none 0 0, .slice none 0 0, .slice none 0 0, rfl, g0_is _ _, ?_⟩)
          exact (by repeat (first | (with_reducible exact Below.refl _ _) | (with_reducible assumption) | (with_reducible refine Below.drew ?_) | (with_reducible refine below_drewN ?_ _) | ((with_reducible refine below_alloc ?_ ?_); (focus (first | omega | (simp; done) | (simp; omega)))) | ((with_reducible refine below_set ?_ ?_); (focus (first | omega | (simp; done) | (simp; omega))))))
end Go.Proofs.YtfmdmeokbbpmlaaGreat
