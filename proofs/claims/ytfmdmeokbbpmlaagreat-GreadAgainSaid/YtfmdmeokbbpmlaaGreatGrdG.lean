/-
  gread: item.
-/
import Derived.Test.YtfmdmeokbbpmlaaGreatGz1
import Derived.Test.YtfmdmeokbbpmlaaGreatW2
import Derived.Test.YtfmdmeokbbpmlaaGreatC2
namespace Go.Proofs.YtfmdmeokbbpmlaaGreat
open Go.RowKit Go.Shelf

theorem gfour {w : World} {q : Nat} {t : TypeId} {a b c d : Value} (H : Holds w q t #[a, b, c, d]) : w.cell? ⟨q, 0, none⟩ = some a ∧ w.cell? ⟨q, 1, none⟩ = some b ∧ w.cell? ⟨q, 2, none⟩ = some c ∧ w.cell? ⟨q, 3, none⟩ = some d := ⟨H.cell 0, H.cell 1, H.cell 2, H.cell 3⟩
theorem gap_sign (c : UInt8) : (c = 126 ∧ Lib.indexByte [126, 33] c = 0) ∨ (c = 33 ∧ Lib.indexByte [126, 33] c = 1) ∨ (c ≠ 126 ∧ c ≠ 33 ∧ Lib.indexByte [126, 33] c = -1) := by
  by_cases h1 : c = 126
  · exact .inl ⟨h1, by rw [h1]; decide⟩
  by_cases h2 : c = 33
  · exact .inr (.inl ⟨h2, by rw [h2]; decide⟩)
  · refine .inr (.inr ⟨h1, h2, ?_⟩)
    rcases Int.lt_or_le (Lib.indexByte [126, 33] c) 0 with h | h
    · have := Lib.indexByte_ge [126, 33] c; omega
    · obtain ⟨o, ho⟩ : ∃ o : Nat, Lib.indexByte [126, 33] c = (o : Int) := ⟨(Lib.indexByte [126, 33] c).toNat, by omega⟩
      have := (Lib.indexByte_some ho).1
      match o, this with
      | 0, h => simp at h; exact absurd h.symm h1
      | 1, h => simp at h; exact absurd h.symm h2
      | o + 2, h => simp at h
theorem head_of {s : ByteArray} (h : 0 < s.size) : s.data.toList.head? = some (s[0]'h) := by
  have := bytes_at h
  rw [← this]
  exact List.head?_eq_getElem?
theorem name_whole {u : ByteArray} (h : ¬ upTo 43 (bytes u) < u.size) : u.extract 0 (upTo 43 (bytes u)) = u := by
  have h1 := upTo_le 43 (bytes u)
  rw [bytes_len] at h1
  rw [show upTo 43 (bytes u) = u.size by omega]
  apply ba_ext
  rw [Lib.extract_data, List.drop_zero, Nat.sub_zero, List.take_of_length_le]
  exact Nat.le_of_eq (bytes_len u)
/-- What item leaves. -/
def ItTo (W : World) (X : Int ⊕ Item) (r : Ending) (w' : World) : Prop := ∃ (y : Item) (e : Int), r = .returned (.tuple #[.agg #[.bool y.rule, .int .i64 y.n, .int .i64 y.gap, .int .i64 y.in_], .int .i64 e]) ∧ Below W.heap.size W w' ∧ (X = .inl e ∧ e ≠ 0 ∨ X = .inr y ∧ e = 0)
set_option maxRecDepth 20000 in
set_option maxHeartbeats 16000000 in
theorem gr_item (W0 : World) (R B : Nat) (x : St) (tv rv pv : Value) (lt lp : List Value) (s : ByteArray) (W : World) (H : GrA W0 R B x tv rv pv lt lp W) (hs : 0 < s.size) (hz : s.size ≤ 1000000) (s1 : x.g.toks.length ≤ 100000) :
    Calls Tryz.prog 66 #[.pointer (some ⟨R, 0, none⟩), .string s] W fun r w' => Hid (ItTo W (itemG x.g s) r w') := by
  have HA := hidden (fun (w' : World) (hb : Below W.heap.size W w') => H.later hb)
  obtain ⟨X, HX⟩ : ∃ X, Hid (itemG x.g s = X) := ⟨_, hidden rfl⟩
  rw [HX.out]
  clear H
  have hh := head_of hs
  have hc1 : (0 : Int) < (s.size : Int) := by omega
  have hc2 : (1 : Int) ≤ (s.size : Int) := by omega
  have hb0 : Below W.heap.size W ((W.alloc (.cells #[.bool false, .int .i64 0, .int .i64 0, .int .i64 0] 47)).alloc (.cells #[.bool false, .int .i64 0, .int .i64 0, .int .i64 0] 47)) := (by repeat (first | (with_reducible exact Below.refl _ _) | (with_reducible assumption) | (with_reducible refine Below.drew ?_) | (with_reducible refine below_drewN ?_ _) | ((with_reducible refine below_alloc ?_ ?_); (focus (first | omega | (simp; done) | (simp; omega)))) | ((with_reducible refine below_set ?_ ?_); (focus (first | omega | (simp; done) | (simp; omega))))))
  have HB := hidden (fun w' => Lib0.strings_IndexByte ⟨#[126, 33]⟩ (((s[0]'hs).toNat : Nat) : Int) w')
  have hu8 : (((s[0]'hs).toNat : Nat) : Int).toNat.toUInt8 = s[0]'hs := by rw [Int.toNat_natCast]; simp
  rw [hu8] at HB
  clear hu8
  rcases gap_sign (s[0]'hs) with ⟨hg, hi⟩ | ⟨hg, hi⟩ | ⟨hg1, hg2, hi⟩
  · have hgp : gapOf s = 1 := by unfold gapOf; rw [hh, hg]; rfl
    have hrs : restOf s = s.extract 1 s.size := by unfold restOf; rw [hgp]; rfl
    rw [show (⟨#[126, 33]⟩ : ByteArray).data.toList = [126, 33] from rfl, hi] at HB
    obtain ⟨u, hu⟩ : ∃ u, Hid (restOf s = u) := ⟨_, hidden rfl⟩
    have huz : u.size ≤ 1000000 := by rw [← hu.out, hrs]; rw [extract_size s (Nat.le_refl _)]; omega
    have HXu : Hid (X = if findNo x.g (u.extract 0 (upTo 43 (bytes u))) < 0 then .inl 11
      else if ¬ upTo 43 (bytes u) < u.size then .inr ⟨isRule x.g (u.extract 0 (upTo 43 (bytes u))), findNo x.g (u.extract 0 (upTo 43 (bytes u))), 1, 0⟩
      else if (readN (u.extract (upTo 43 (bytes u) + 1) u.size).data.toList 8).2 ≠ 0 then .inl (readN (u.extract (upTo 43 (bytes u) + 1) u.size).data.toList 8).2
      else if (readN (u.extract (upTo 43 (bytes u) + 1) u.size).data.toList 8).1 = 0 then .inl 2
      else .inr ⟨isRule x.g (u.extract 0 (upTo 43 (bytes u))), findNo x.g (u.extract 0 (upTo 43 (bytes u))), 1, (readN (u.extract (upTo 43 (bytes u) + 1) u.size).data.toList 8).1⟩) := hidden (by
      rw [← HX.out]; unfold itemG nameIn; rw [hu.out, hgp])
    have hru : s.extract 1 s.size = u := by rw [← hrs]; exact hu.out
    clear HX hh hgp hrs hu hi hg
    have HCut := hidden (fun w' => strings_cut_p u w' (by omega))
    go_enter Tryz.func66, Tryz.ntmps66
    go_wp2_with fail
    refine (HB.out _).mono ?_
    rintro r w1 ⟨rfl, hw1⟩
    subst hw1
    clear HB
    go_upto_region 6 with fail
    have hbA : Below W.heap.size W ((W.alloc (.cells #[.bool false, .int .i64 0, .int .i64 0, .int .i64 0] 47)).alloc (.cells #[.bool false, .int .i64 0, .int .i64 1, .int .i64 0] 47)) := (by repeat (first | (with_reducible exact Below.refl _ _) | (with_reducible assumption) | (with_reducible refine Below.drew ?_) | (with_reducible refine below_drewN ?_ _) | ((with_reducible refine below_alloc ?_ ?_); (focus (first | omega | (simp; done) | (simp; omega)))) | ((with_reducible refine below_set ?_ ?_); (focus (first | omega | (simp; done) | (simp; omega))))))
    have HQ0 : Hid (Holds ((W.alloc (.cells #[.bool false, .int .i64 0, .int .i64 0, .int .i64 0] 47)).alloc (.cells #[.bool false, .int .i64 0, .int .i64 1, .int .i64 0] 47)) W.heap.size 47 #[.bool false, .int .i64 0, .int .i64 0, .int .i64 0]) := hidden (by repeat (first | (with_reducible assumption) | ((with_reducible refine holds_new ?_); (focus (first | rfl | (simp; done)))) | (with_reducible refine Holds.alloc ?_ _) | (with_reducible refine Holds.drew ?_)))
    have HQ1 : Hid (Holds ((W.alloc (.cells #[.bool false, .int .i64 0, .int .i64 0, .int .i64 0] 47)).alloc (.cells #[.bool false, .int .i64 0, .int .i64 1, .int .i64 0] 47)) (W.heap.size + 1) 47 #[.bool false, .int .i64 0, .int .i64 1, .int .i64 0]) := hidden (by repeat (first | (with_reducible assumption) | ((with_reducible refine holds_new ?_); (focus (first | rfl | (simp; done)))) | (with_reducible refine Holds.alloc ?_ _) | (with_reducible refine Holds.drew ?_)))
    generalize ((W.alloc (.cells #[.bool false, .int .i64 0, .int .i64 0, .int .i64 0] 47)).alloc (.cells #[.bool false, .int .i64 0, .int .i64 1, .int .i64 0] 47)) = wA at *
    clear hb0 hru
    replace HCut := hidden (HCut.out wA)
    by_cases hm : upTo 43 (bytes u) < u.size
    · rw [if_pos hm] at HCut
      have HXx : Hid (X = if findNo x.g (u.extract 0 (upTo 43 (bytes u))) < 0 then .inl 11
        else if (readN (u.extract (upTo 43 (bytes u) + 1) u.size).data.toList 8).2 ≠ 0 then .inl (readN (u.extract (upTo 43 (bytes u) + 1) u.size).data.toList 8).2
        else if (readN (u.extract (upTo 43 (bytes u) + 1) u.size).data.toList 8).1 = 0 then .inl 2
        else .inr ⟨isRule x.g (u.extract 0 (upTo 43 (bytes u))), findNo x.g (u.extract 0 (upTo 43 (bytes u))), 1, (readN (u.extract (upTo 43 (bytes u) + 1) u.size).data.toList 8).1⟩) := hidden (by rw [HXu.out, if_neg (Classical.not_not.2 hm)])
      have hvz : (u.extract (upTo 43 (bytes u) + 1) u.size).size ≤ maxLen := by rw [extract_size u (Nat.le_refl _)]; unfold maxLen; omega
      clear HXu hm
      generalize u.extract 0 (upTo 43 (bytes u)) = nm at *
      generalize u.extract (upTo 43 (bytes u) + 1) u.size = iv at *
      have HF := hidden (fun (w' : World) (hb : Below W.heap.size W w') => gram_Find tv rv pv x.g nm w' (HA.out w' hb).is_ s1)
      go_wp2_with fail
      refine HCut.out.mono ?_
      rintro r wB ⟨rfl, hbB⟩
      have hbC := hbA.trans (hbB.mono hbA.size)
      have HC0 := hidden (HQ0.out.below hbB HQ0.out.lt)
      have HC1 := hidden (HQ1.out.below hbB HQ1.out.lt)
      obtain ⟨c0, c1, c2, c3, c4, c5, c6, c7, c8⟩ := (HA.out wB hbC).cells
      have HX2 := hidden (HF.out wB hbC)
      unfold gramCells at HX2
      clear HCut HF HQ0 HQ1 hbA hbB HA
      generalize findNo x.g nm = n at *
      generalize isRule x.g nm = ir at *
      go_wp2_with fail
      refine HX2.out.mono ?_
      rintro r wD ⟨rfl, hbD⟩
      have hbE := hbC.trans (hbD.mono hbC.size)
      replace HC0 := hidden (HC0.out.below hbD HC0.out.lt)
      replace HC1 := hidden (HC1.out.below hbD HC1.out.lt)
      clear c0 c1 c2 c3 c4 c5 c6 c7 c8 HX2 hbC hbD
      obtain ⟨y0, y1, y2, y3⟩ := gfour HC1.out
      obtain ⟨z0, z1, z2, z3⟩ := gfour HC0.out
      have f0 := HC1.out.frozen 0
      have f1 := HC1.out.frozen 1
      have f3 := HC1.out.frozen 3
      have e0 := HC0.out.frozen 0
      have e1 := HC0.out.frozen 1
      have e2 := HC0.out.frozen 2
      have e3 := HC0.out.frozen 3
      have hne : W.heap.size ≠ W.heap.size + 1 := by omega
      by_cases hn : n < 0
      · have hX : X = .inl 11 := by rw [HXx.out, if_pos hn]
        subst hX
        clear HXx
        go_wp2
        refine bodyPost_ret (v := .tuple #[.agg #[.bool ir, .int .i64 n, .int .i64 1, .int .i64 0], .int .i64 11]) (by simp [results, Tryz.results66, go_sem, z0, z1, z2, z3]) rfl (hidden ⟨⟨ir, n, 1, 0⟩, 11, rfl, ?_, .inl ⟨rfl, by decide⟩⟩)
        exact (by repeat (first | (with_reducible exact Below.refl _ _) | (with_reducible assumption) | (with_reducible refine Below.drew ?_) | (with_reducible refine below_drewN ?_ _) | ((with_reducible refine below_alloc ?_ ?_); (focus (first | omega | (simp; done) | (simp; omega)))) | ((with_reducible refine below_set ?_ ?_); (focus (first | omega | (simp; done) | (simp; omega))))))
      · have HN := hidden (fun w' => num_Read iv 8 w' (by decide) (by decide) hvz)
        have HXy : Hid (X = if (readN iv.data.toList 8).2 ≠ 0 then .inl (readN iv.data.toList 8).2 else if (readN iv.data.toList 8).1 = 0 then .inl 2 else .inr ⟨ir, n, 1, (readN iv.data.toList 8).1⟩) := hidden (by rw [HXx.out, if_neg hn])
        clear HXx
        generalize readN iv.data.toList 8 = rn at *
        obtain ⟨kk, ee⟩ := rn
        dsimp only at HN HXy
        go_wp2_with fail
        refine (HN.out _).mono ?_
        rintro r wE ⟨rfl, hwE⟩
        subst hwE
        clear HN
        by_cases h1 : ee ≠ 0
        · have hX : X = .inl ee := by rw [HXy.out, if_pos h1]
          subst hX
          clear HXy
          go_wp2
          refine bodyPost_ret (v := .tuple #[.agg #[.bool ir, .int .i64 n, .int .i64 1, .int .i64 kk], .int .i64 ee]) (by simp [results, Tryz.results66, go_sem, z0, z1, z2, z3]) rfl (hidden ⟨⟨ir, n, 1, kk⟩, ee, rfl, ?_, .inl ⟨rfl, h1⟩⟩)
          exact (by repeat (first | (with_reducible exact Below.refl _ _) | (with_reducible assumption) | (with_reducible refine Below.drew ?_) | (with_reducible refine below_drewN ?_ _) | ((with_reducible refine below_alloc ?_ ?_); (focus (first | omega | (simp; done) | (simp; omega)))) | ((with_reducible refine below_set ?_ ?_); (focus (first | omega | (simp; done) | (simp; omega))))))
        · obtain rfl : ee = 0 := Classical.not_not.1 h1
          by_cases h2 : kk = 0
          · have hX : X = .inl 2 := by rw [HXy.out, if_neg (by decide), if_pos h2]
            subst hX
            subst h2
            clear HXy
            go_wp2
            refine bodyPost_ret (v := .tuple #[.agg #[.bool ir, .int .i64 n, .int .i64 1, .int .i64 0], .int .i64 2]) (by simp [results, Tryz.results66, go_sem, z0, z1, z2, z3]) rfl (hidden ⟨⟨ir, n, 1, 0⟩, 2, rfl, ?_, .inl ⟨rfl, by decide⟩⟩)
            exact (by repeat (first | (with_reducible exact Below.refl _ _) | (with_reducible assumption) | (with_reducible refine Below.drew ?_) | (with_reducible refine below_drewN ?_ _) | ((with_reducible refine below_alloc ?_ ?_); (focus (first | omega | (simp; done) | (simp; omega)))) | ((with_reducible refine below_set ?_ ?_); (focus (first | omega | (simp; done) | (simp; omega))))))
          · have hX : X = .inr ⟨ir, n, 1, kk⟩ := by rw [HXy.out, if_neg (by decide), if_neg h2]
            subst hX
            clear HXy
            go_wp2
            refine bodyPost_ret (v := .tuple #[.agg #[.bool ir, .int .i64 n, .int .i64 1, .int .i64 kk], .int .i64 0]) (by simp [results, Tryz.results66, go_sem, z0, z1, z2, z3]) rfl (hidden ⟨⟨ir, n, 1, kk⟩, 0, rfl, ?_, .inr ⟨rfl, rfl⟩⟩)
            exact (by repeat (first | (with_reducible exact Below.refl _ _) | (with_reducible assumption) | (with_reducible refine Below.drew ?_) | (with_reducible refine below_drewN ?_ _) | ((with_reducible refine below_alloc ?_ ?_); (focus (first | omega | (simp; done) | (simp; omega)))) | ((with_reducible refine below_set ?_ ?_); (focus (first | omega | (simp; done) | (simp; omega))))))
    · rw [if_neg hm] at HCut
      have HXx : Hid (X = if findNo x.g u < 0 then .inl 11 else .inr ⟨isRule x.g u, findNo x.g u, 1, 0⟩) := hidden (by rw [HXu.out, if_pos hm, name_whole hm])
      clear HXu hm
      have HF := hidden (fun (w' : World) (hb : Below W.heap.size W w') => gram_Find tv rv pv x.g u w' (HA.out w' hb).is_ s1)
      go_wp2_with fail
      refine HCut.out.mono ?_
      rintro r wB ⟨rfl, hbB⟩
      have hbC := hbA.trans (hbB.mono hbA.size)
      have HC0 := hidden (HQ0.out.below hbB HQ0.out.lt)
      have HC1 := hidden (HQ1.out.below hbB HQ1.out.lt)
      obtain ⟨c0, c1, c2, c3, c4, c5, c6, c7, c8⟩ := (HA.out wB hbC).cells
      have HX2 := hidden (HF.out wB hbC)
      unfold gramCells at HX2
      clear HCut HF HQ0 HQ1 hbA hbB HA
      generalize findNo x.g u = n at *
      generalize isRule x.g u = ir at *
      go_wp2_with fail
      refine HX2.out.mono ?_
      rintro r wD ⟨rfl, hbD⟩
      have hbE := hbC.trans (hbD.mono hbC.size)
      replace HC0 := hidden (HC0.out.below hbD HC0.out.lt)
      replace HC1 := hidden (HC1.out.below hbD HC1.out.lt)
      clear c0 c1 c2 c3 c4 c5 c6 c7 c8 HX2 hbC hbD
      obtain ⟨y0, y1, y2, y3⟩ := gfour HC1.out
      obtain ⟨z0, z1, z2, z3⟩ := gfour HC0.out
      have f0 := HC1.out.frozen 0
      have f1 := HC1.out.frozen 1
      have f3 := HC1.out.frozen 3
      have e0 := HC0.out.frozen 0
      have e1 := HC0.out.frozen 1
      have e2 := HC0.out.frozen 2
      have e3 := HC0.out.frozen 3
      have hne : W.heap.size ≠ W.heap.size + 1 := by omega
      by_cases hn : n < 0
      · have hX : X = .inl 11 := by rw [HXx.out, if_pos hn]
        subst hX
        clear HXx
        go_wp2
        refine bodyPost_ret (v := .tuple #[.agg #[.bool ir, .int .i64 n, .int .i64 1, .int .i64 0], .int .i64 11]) (by simp [results, Tryz.results66, go_sem, z0, z1, z2, z3]) rfl (hidden ⟨⟨ir, n, 1, 0⟩, 11, rfl, ?_, .inl ⟨rfl, by decide⟩⟩)
        exact (by repeat (first | (with_reducible exact Below.refl _ _) | (with_reducible assumption) | (with_reducible refine Below.drew ?_) | (with_reducible refine below_drewN ?_ _) | ((with_reducible refine below_alloc ?_ ?_); (focus (first | omega | (simp; done) | (simp; omega)))) | ((with_reducible refine below_set ?_ ?_); (focus (first | omega | (simp; done) | (simp; omega))))))
      · have hX : X = .inr ⟨ir, n, 1, 0⟩ := by rw [HXx.out, if_neg hn]
        subst hX
        clear HXx
        go_wp2
        refine bodyPost_ret (v := .tuple #[.agg #[.bool ir, .int .i64 n, .int .i64 1, .int .i64 0], .int .i64 0]) (by simp [results, Tryz.results66, go_sem, z0, z1, z2, z3]) rfl (hidden ⟨⟨ir, n, 1, 0⟩, 0, rfl, ?_, .inr ⟨rfl, rfl⟩⟩)
        exact (by repeat (first | (with_reducible exact Below.refl _ _) | (with_reducible assumption) | (with_reducible refine Below.drew ?_) | (with_reducible refine below_drewN ?_ _) | ((with_reducible refine below_alloc ?_ ?_); (focus (first | omega | (simp; done) | (simp; omega)))) | ((with_reducible refine below_set ?_ ?_); (focus (first | omega | (simp; done) | (simp; omega))))))
  · have hgp : gapOf s = 2 := by unfold gapOf; rw [hh, hg]; rfl
    have hrs : restOf s = s.extract 1 s.size := by unfold restOf; rw [hgp]; rfl
    rw [show (⟨#[126, 33]⟩ : ByteArray).data.toList = [126, 33] from rfl, hi] at HB
    obtain ⟨u, hu⟩ : ∃ u, Hid (restOf s = u) := ⟨_, hidden rfl⟩
    have huz : u.size ≤ 1000000 := by rw [← hu.out, hrs]; rw [extract_size s (Nat.le_refl _)]; omega
    have HXu : Hid (X = if findNo x.g (u.extract 0 (upTo 43 (bytes u))) < 0 then .inl 11
      else if ¬ upTo 43 (bytes u) < u.size then .inr ⟨isRule x.g (u.extract 0 (upTo 43 (bytes u))), findNo x.g (u.extract 0 (upTo 43 (bytes u))), 2, 0⟩
      else if (readN (u.extract (upTo 43 (bytes u) + 1) u.size).data.toList 8).2 ≠ 0 then .inl (readN (u.extract (upTo 43 (bytes u) + 1) u.size).data.toList 8).2
      else if (readN (u.extract (upTo 43 (bytes u) + 1) u.size).data.toList 8).1 = 0 then .inl 2
      else .inr ⟨isRule x.g (u.extract 0 (upTo 43 (bytes u))), findNo x.g (u.extract 0 (upTo 43 (bytes u))), 2, (readN (u.extract (upTo 43 (bytes u) + 1) u.size).data.toList 8).1⟩) := hidden (by
      rw [← HX.out]; unfold itemG nameIn; rw [hu.out, hgp])
    have hru : s.extract 1 s.size = u := by rw [← hrs]; exact hu.out
    clear HX hh hgp hrs hu hi hg
    have HCut := hidden (fun w' => strings_cut_p u w' (by omega))
    go_enter Tryz.func66, Tryz.ntmps66
    go_wp2_with fail
    refine (HB.out _).mono ?_
    rintro r w1 ⟨rfl, hw1⟩
    subst hw1
    clear HB
    go_upto_region 6 with fail
    have hbA : Below W.heap.size W ((W.alloc (.cells #[.bool false, .int .i64 0, .int .i64 0, .int .i64 0] 47)).alloc (.cells #[.bool false, .int .i64 0, .int .i64 2, .int .i64 0] 47)) := (by repeat (first | (with_reducible exact Below.refl _ _) | (with_reducible assumption) | (with_reducible refine Below.drew ?_) | (with_reducible refine below_drewN ?_ _) | ((with_reducible refine below_alloc ?_ ?_); (focus (first | omega | (simp; done) | (simp; omega)))) | ((with_reducible refine below_set ?_ ?_); (focus (first | omega | (simp; done) | (simp; omega))))))
    have HQ0 : Hid (Holds ((W.alloc (.cells #[.bool false, .int .i64 0, .int .i64 0, .int .i64 0] 47)).alloc (.cells #[.bool false, .int .i64 0, .int .i64 2, .int .i64 0] 47)) W.heap.size 47 #[.bool false, .int .i64 0, .int .i64 0, .int .i64 0]) := hidden (by repeat (first | (with_reducible assumption) | ((with_reducible refine holds_new ?_); (focus (first | rfl | (simp; done)))) | (with_reducible refine Holds.alloc ?_ _) | (with_reducible refine Holds.drew ?_)))
    have HQ1 : Hid (Holds ((W.alloc (.cells #[.bool false, .int .i64 0, .int .i64 0, .int .i64 0] 47)).alloc (.cells #[.bool false, .int .i64 0, .int .i64 2, .int .i64 0] 47)) (W.heap.size + 1) 47 #[.bool false, .int .i64 0, .int .i64 2, .int .i64 0]) := hidden (by repeat (first | (with_reducible assumption) | ((with_reducible refine holds_new ?_); (focus (first | rfl | (simp; done)))) | (with_reducible refine Holds.alloc ?_ _) | (with_reducible refine Holds.drew ?_)))
    generalize ((W.alloc (.cells #[.bool false, .int .i64 0, .int .i64 0, .int .i64 0] 47)).alloc (.cells #[.bool false, .int .i64 0, .int .i64 2, .int .i64 0] 47)) = wA at *
    clear hb0 hru
    replace HCut := hidden (HCut.out wA)
    by_cases hm : upTo 43 (bytes u) < u.size
    · rw [if_pos hm] at HCut
      have HXx : Hid (X = if findNo x.g (u.extract 0 (upTo 43 (bytes u))) < 0 then .inl 11
        else if (readN (u.extract (upTo 43 (bytes u) + 1) u.size).data.toList 8).2 ≠ 0 then .inl (readN (u.extract (upTo 43 (bytes u) + 1) u.size).data.toList 8).2
        else if (readN (u.extract (upTo 43 (bytes u) + 1) u.size).data.toList 8).1 = 0 then .inl 2
        else .inr ⟨isRule x.g (u.extract 0 (upTo 43 (bytes u))), findNo x.g (u.extract 0 (upTo 43 (bytes u))), 2, (readN (u.extract (upTo 43 (bytes u) + 1) u.size).data.toList 8).1⟩) := hidden (by rw [HXu.out, if_neg (Classical.not_not.2 hm)])
      have hvz : (u.extract (upTo 43 (bytes u) + 1) u.size).size ≤ maxLen := by rw [extract_size u (Nat.le_refl _)]; unfold maxLen; omega
      clear HXu hm
      generalize u.extract 0 (upTo 43 (bytes u)) = nm at *
      generalize u.extract (upTo 43 (bytes u) + 1) u.size = iv at *
      have HF := hidden (fun (w' : World) (hb : Below W.heap.size W w') => gram_Find tv rv pv x.g nm w' (HA.out w' hb).is_ s1)
      go_wp2_with fail
      refine HCut.out.mono ?_
      rintro r wB ⟨rfl, hbB⟩
      have hbC := hbA.trans (hbB.mono hbA.size)
      have HC0 := hidden (HQ0.out.below hbB HQ0.out.lt)
      have HC1 := hidden (HQ1.out.below hbB HQ1.out.lt)
      obtain ⟨c0, c1, c2, c3, c4, c5, c6, c7, c8⟩ := (HA.out wB hbC).cells
      have HX2 := hidden (HF.out wB hbC)
      unfold gramCells at HX2
      clear HCut HF HQ0 HQ1 hbA hbB HA
      generalize findNo x.g nm = n at *
      generalize isRule x.g nm = ir at *
      go_wp2_with fail
      refine HX2.out.mono ?_
      rintro r wD ⟨rfl, hbD⟩
      have hbE := hbC.trans (hbD.mono hbC.size)
      replace HC0 := hidden (HC0.out.below hbD HC0.out.lt)
      replace HC1 := hidden (HC1.out.below hbD HC1.out.lt)
      clear c0 c1 c2 c3 c4 c5 c6 c7 c8 HX2 hbC hbD
      obtain ⟨y0, y1, y2, y3⟩ := gfour HC1.out
      obtain ⟨z0, z1, z2, z3⟩ := gfour HC0.out
      have f0 := HC1.out.frozen 0
      have f1 := HC1.out.frozen 1
      have f3 := HC1.out.frozen 3
      have e0 := HC0.out.frozen 0
      have e1 := HC0.out.frozen 1
      have e2 := HC0.out.frozen 2
      have e3 := HC0.out.frozen 3
      have hne : W.heap.size ≠ W.heap.size + 1 := by omega
      by_cases hn : n < 0
      · have hX : X = .inl 11 := by rw [HXx.out, if_pos hn]
        subst hX
        clear HXx
        go_wp2
        refine bodyPost_ret (v := .tuple #[.agg #[.bool ir, .int .i64 n, .int .i64 2, .int .i64 0], .int .i64 11]) (by simp [results, Tryz.results66, go_sem, z0, z1, z2, z3]) rfl (hidden ⟨⟨ir, n, 2, 0⟩, 11, rfl, ?_, .inl ⟨rfl, by decide⟩⟩)
        exact (by repeat (first | (with_reducible exact Below.refl _ _) | (with_reducible assumption) | (with_reducible refine Below.drew ?_) | (with_reducible refine below_drewN ?_ _) | ((with_reducible refine below_alloc ?_ ?_); (focus (first | omega | (simp; done) | (simp; omega)))) | ((with_reducible refine below_set ?_ ?_); (focus (first | omega | (simp; done) | (simp; omega))))))
      · have HN := hidden (fun w' => num_Read iv 8 w' (by decide) (by decide) hvz)
        have HXy : Hid (X = if (readN iv.data.toList 8).2 ≠ 0 then .inl (readN iv.data.toList 8).2 else if (readN iv.data.toList 8).1 = 0 then .inl 2 else .inr ⟨ir, n, 2, (readN iv.data.toList 8).1⟩) := hidden (by rw [HXx.out, if_neg hn])
        clear HXx
        generalize readN iv.data.toList 8 = rn at *
        obtain ⟨kk, ee⟩ := rn
        dsimp only at HN HXy
        go_wp2_with fail
        refine (HN.out _).mono ?_
        rintro r wE ⟨rfl, hwE⟩
        subst hwE
        clear HN
        by_cases h1 : ee ≠ 0
        · have hX : X = .inl ee := by rw [HXy.out, if_pos h1]
          subst hX
          clear HXy
          go_wp2
          refine bodyPost_ret (v := .tuple #[.agg #[.bool ir, .int .i64 n, .int .i64 2, .int .i64 kk], .int .i64 ee]) (by simp [results, Tryz.results66, go_sem, z0, z1, z2, z3]) rfl (hidden ⟨⟨ir, n, 2, kk⟩, ee, rfl, ?_, .inl ⟨rfl, h1⟩⟩)
          exact (by repeat (first | (with_reducible exact Below.refl _ _) | (with_reducible assumption) | (with_reducible refine Below.drew ?_) | (with_reducible refine below_drewN ?_ _) | ((with_reducible refine below_alloc ?_ ?_); (focus (first | omega | (simp; done) | (simp; omega)))) | ((with_reducible refine below_set ?_ ?_); (focus (first | omega | (simp; done) | (simp; omega))))))
        · obtain rfl : ee = 0 := Classical.not_not.1 h1
          by_cases h2 : kk = 0
          · have hX : X = .inl 2 := by rw [HXy.out, if_neg (by decide), if_pos h2]
            subst hX
            subst h2
            clear HXy
            go_wp2
            refine bodyPost_ret (v := .tuple #[.agg #[.bool ir, .int .i64 n, .int .i64 2, .int .i64 0], .int .i64 2]) (by simp [results, Tryz.results66, go_sem, z0, z1, z2, z3]) rfl (hidden ⟨⟨ir, n, 2, 0⟩, 2, rfl, ?_, .inl ⟨rfl, by decide⟩⟩)
            exact (by repeat (first | (with_reducible exact Below.refl _ _) | (with_reducible assumption) | (with_reducible refine Below.drew ?_) | (with_reducible refine below_drewN ?_ _) | ((with_reducible refine below_alloc ?_ ?_); (focus (first | omega | (simp; done) | (simp; omega)))) | ((with_reducible refine below_set ?_ ?_); (focus (first | omega | (simp; done) | (simp; omega))))))
          · have hX : X = .inr ⟨ir, n, 2, kk⟩ := by rw [HXy.out, if_neg (by decide), if_neg h2]
            subst hX
            clear HXy
            go_wp2
            refine bodyPost_ret (v := .tuple #[.agg #[.bool ir, .int .i64 n, .int .i64 2, .int .i64 kk], .int .i64 0]) (by simp [results, Tryz.results66, go_sem, z0, z1, z2, z3]) rfl (hidden ⟨⟨ir, n, 2, kk⟩, 0, rfl, ?_, .inr ⟨rfl, rfl⟩⟩)
            exact (by repeat (first | (with_reducible exact Below.refl _ _) | (with_reducible assumption) | (with_reducible refine Below.drew ?_) | (with_reducible refine below_drewN ?_ _) | ((with_reducible refine below_alloc ?_ ?_); (focus (first | omega | (simp; done) | (simp; omega)))) | ((with_reducible refine below_set ?_ ?_); (focus (first | omega | (simp; done) | (simp; omega))))))
    · rw [if_neg hm] at HCut
      have HXx : Hid (X = if findNo x.g u < 0 then .inl 11 else .inr ⟨isRule x.g u, findNo x.g u, 2, 0⟩) := hidden (by rw [HXu.out, if_pos hm, name_whole hm])
      clear HXu hm
      have HF := hidden (fun (w' : World) (hb : Below W.heap.size W w') => gram_Find tv rv pv x.g u w' (HA.out w' hb).is_ s1)
      go_wp2_with fail
      refine HCut.out.mono ?_
      rintro r wB ⟨rfl, hbB⟩
      have hbC := hbA.trans (hbB.mono hbA.size)
      have HC0 := hidden (HQ0.out.below hbB HQ0.out.lt)
      have HC1 := hidden (HQ1.out.below hbB HQ1.out.lt)
      obtain ⟨c0, c1, c2, c3, c4, c5, c6, c7, c8⟩ := (HA.out wB hbC).cells
      have HX2 := hidden (HF.out wB hbC)
      unfold gramCells at HX2
      clear HCut HF HQ0 HQ1 hbA hbB HA
      generalize findNo x.g u = n at *
      generalize isRule x.g u = ir at *
      go_wp2_with fail
      refine HX2.out.mono ?_
      rintro r wD ⟨rfl, hbD⟩
      have hbE := hbC.trans (hbD.mono hbC.size)
      replace HC0 := hidden (HC0.out.below hbD HC0.out.lt)
      replace HC1 := hidden (HC1.out.below hbD HC1.out.lt)
      clear c0 c1 c2 c3 c4 c5 c6 c7 c8 HX2 hbC hbD
      obtain ⟨y0, y1, y2, y3⟩ := gfour HC1.out
      obtain ⟨z0, z1, z2, z3⟩ := gfour HC0.out
      have f0 := HC1.out.frozen 0
      have f1 := HC1.out.frozen 1
      have f3 := HC1.out.frozen 3
      have e0 := HC0.out.frozen 0
      have e1 := HC0.out.frozen 1
      have e2 := HC0.out.frozen 2
      have e3 := HC0.out.frozen 3
      have hne : W.heap.size ≠ W.heap.size + 1 := by omega
      by_cases hn : n < 0
      · have hX : X = .inl 11 := by rw [HXx.out, if_pos hn]
        subst hX
        clear HXx
        go_wp2
        refine bodyPost_ret (v := .tuple #[.agg #[.bool ir, .int .i64 n, .int .i64 2, .int .i64 0], .int .i64 11]) (by simp [results, Tryz.results66, go_sem, z0, z1, z2, z3]) rfl (hidden ⟨⟨ir, n, 2, 0⟩, 11, rfl, ?_, .inl ⟨rfl, by decide⟩⟩)
        exact (by repeat (first | (with_reducible exact Below.refl _ _) | (with_reducible assumption) | (with_reducible refine Below.drew ?_) | (with_reducible refine below_drewN ?_ _) | ((with_reducible refine below_alloc ?_ ?_); (focus (first | omega | (simp; done) | (simp; omega)))) | ((with_reducible refine below_set ?_ ?_); (focus (first | omega | (simp; done) | (simp; omega))))))
      · have hX : X = .inr ⟨ir, n, 2, 0⟩ := by rw [HXx.out, if_neg hn]
        subst hX
        clear HXx
        go_wp2
        refine bodyPost_ret (v := .tuple #[.agg #[.bool ir, .int .i64 n, .int .i64 2, .int .i64 0], .int .i64 0]) (by simp [results, Tryz.results66, go_sem, z0, z1, z2, z3]) rfl (hidden ⟨⟨ir, n, 2, 0⟩, 0, rfl, ?_, .inr ⟨rfl, rfl⟩⟩)
        exact (by repeat (first | (with_reducible exact Below.refl _ _) | (with_reducible assumption) | (with_reducible refine Below.drew ?_) | (with_reducible refine below_drewN ?_ _) | ((with_reducible refine below_alloc ?_ ?_); (focus (first | omega | (simp; done) | (simp; omega)))) | ((with_reducible refine below_set ?_ ?_); (focus (first | omega | (simp; done) | (simp; omega))))))
  · have hgp : gapOf s = 0 := by
      unfold gapOf
      rw [hh, if_neg (fun e => hg1 (Option.some.inj e)), if_neg (fun e => hg2 (Option.some.inj e))]
    have hrs : restOf s = s := by unfold restOf; rw [hgp]; rfl
    rw [show (⟨#[126, 33]⟩ : ByteArray).data.toList = [126, 33] from rfl, hi] at HB
    obtain ⟨u, hu⟩ : ∃ u, Hid (restOf s = u) := ⟨_, hidden rfl⟩
    have huz : u.size ≤ 1000000 := by rw [← hu.out, hrs]; exact hz
    have HXu : Hid (X = if findNo x.g (u.extract 0 (upTo 43 (bytes u))) < 0 then .inl 11
      else if ¬ upTo 43 (bytes u) < u.size then .inr ⟨isRule x.g (u.extract 0 (upTo 43 (bytes u))), findNo x.g (u.extract 0 (upTo 43 (bytes u))), 0, 0⟩
      else if (readN (u.extract (upTo 43 (bytes u) + 1) u.size).data.toList 8).2 ≠ 0 then .inl (readN (u.extract (upTo 43 (bytes u) + 1) u.size).data.toList 8).2
      else if (readN (u.extract (upTo 43 (bytes u) + 1) u.size).data.toList 8).1 = 0 then .inl 2
      else .inr ⟨isRule x.g (u.extract 0 (upTo 43 (bytes u))), findNo x.g (u.extract 0 (upTo 43 (bytes u))), 0, (readN (u.extract (upTo 43 (bytes u) + 1) u.size).data.toList 8).1⟩) := hidden (by
      rw [← HX.out]; unfold itemG nameIn; rw [hu.out, hgp])
    have hru : s = u := by rw [← hrs]; exact hu.out
    clear HX hh hgp hrs hu hi hg1 hg2
    have hru2 : u = s := hru.symm
    clear hru
    subst hru2
    have HCut := hidden (fun w' => strings_cut_p u w' (by omega))
    go_enter Tryz.func66, Tryz.ntmps66
    go_wp2_with fail
    refine (HB.out _).mono ?_
    rintro r w1 ⟨rfl, hw1⟩
    subst hw1
    clear HB
    go_upto_region 6 with fail
    have hbA : Below W.heap.size W ((W.alloc (.cells #[.bool false, .int .i64 0, .int .i64 0, .int .i64 0] 47)).alloc (.cells #[.bool false, .int .i64 0, .int .i64 0, .int .i64 0] 47)) := (by repeat (first | (with_reducible exact Below.refl _ _) | (with_reducible assumption) | (with_reducible refine Below.drew ?_) | (with_reducible refine below_drewN ?_ _) | ((with_reducible refine below_alloc ?_ ?_); (focus (first | omega | (simp; done) | (simp; omega)))) | ((with_reducible refine below_set ?_ ?_); (focus (first | omega | (simp; done) | (simp; omega))))))
    have HQ0 : Hid (Holds ((W.alloc (.cells #[.bool false, .int .i64 0, .int .i64 0, .int .i64 0] 47)).alloc (.cells #[.bool false, .int .i64 0, .int .i64 0, .int .i64 0] 47)) W.heap.size 47 #[.bool false, .int .i64 0, .int .i64 0, .int .i64 0]) := hidden (by repeat (first | (with_reducible assumption) | ((with_reducible refine holds_new ?_); (focus (first | rfl | (simp; done)))) | (with_reducible refine Holds.alloc ?_ _) | (with_reducible refine Holds.drew ?_)))
    have HQ1 : Hid (Holds ((W.alloc (.cells #[.bool false, .int .i64 0, .int .i64 0, .int .i64 0] 47)).alloc (.cells #[.bool false, .int .i64 0, .int .i64 0, .int .i64 0] 47)) (W.heap.size + 1) 47 #[.bool false, .int .i64 0, .int .i64 0, .int .i64 0]) := hidden (by repeat (first | (with_reducible assumption) | ((with_reducible refine holds_new ?_); (focus (first | rfl | (simp; done)))) | (with_reducible refine Holds.alloc ?_ _) | (with_reducible refine Holds.drew ?_)))
    generalize ((W.alloc (.cells #[.bool false, .int .i64 0, .int .i64 0, .int .i64 0] 47)).alloc (.cells #[.bool false, .int .i64 0, .int .i64 0, .int .i64 0] 47)) = wA at *
    clear hb0 
    replace HCut := hidden (HCut.out wA)
    by_cases hm : upTo 43 (bytes u) < u.size
    · rw [if_pos hm] at HCut
      have HXx : Hid (X = if findNo x.g (u.extract 0 (upTo 43 (bytes u))) < 0 then .inl 11
        else if (readN (u.extract (upTo 43 (bytes u) + 1) u.size).data.toList 8).2 ≠ 0 then .inl (readN (u.extract (upTo 43 (bytes u) + 1) u.size).data.toList 8).2
        else if (readN (u.extract (upTo 43 (bytes u) + 1) u.size).data.toList 8).1 = 0 then .inl 2
        else .inr ⟨isRule x.g (u.extract 0 (upTo 43 (bytes u))), findNo x.g (u.extract 0 (upTo 43 (bytes u))), 0, (readN (u.extract (upTo 43 (bytes u) + 1) u.size).data.toList 8).1⟩) := hidden (by rw [HXu.out, if_neg (Classical.not_not.2 hm)])
      have hvz : (u.extract (upTo 43 (bytes u) + 1) u.size).size ≤ maxLen := by rw [extract_size u (Nat.le_refl _)]; unfold maxLen; omega
      clear HXu hm
      generalize u.extract 0 (upTo 43 (bytes u)) = nm at *
      generalize u.extract (upTo 43 (bytes u) + 1) u.size = iv at *
      have HF := hidden (fun (w' : World) (hb : Below W.heap.size W w') => gram_Find tv rv pv x.g nm w' (HA.out w' hb).is_ s1)
      go_wp2_with fail
      refine HCut.out.mono ?_
      rintro r wB ⟨rfl, hbB⟩
      have hbC := hbA.trans (hbB.mono hbA.size)
      have HC0 := hidden (HQ0.out.below hbB HQ0.out.lt)
      have HC1 := hidden (HQ1.out.below hbB HQ1.out.lt)
      obtain ⟨c0, c1, c2, c3, c4, c5, c6, c7, c8⟩ := (HA.out wB hbC).cells
      have HX2 := hidden (HF.out wB hbC)
      unfold gramCells at HX2
      clear HCut HF HQ0 HQ1 hbA hbB HA
      generalize findNo x.g nm = n at *
      generalize isRule x.g nm = ir at *
      go_wp2_with fail
      refine HX2.out.mono ?_
      rintro r wD ⟨rfl, hbD⟩
      have hbE := hbC.trans (hbD.mono hbC.size)
      replace HC0 := hidden (HC0.out.below hbD HC0.out.lt)
      replace HC1 := hidden (HC1.out.below hbD HC1.out.lt)
      clear c0 c1 c2 c3 c4 c5 c6 c7 c8 HX2 hbC hbD
      obtain ⟨y0, y1, y2, y3⟩ := gfour HC1.out
      obtain ⟨z0, z1, z2, z3⟩ := gfour HC0.out
      have f0 := HC1.out.frozen 0
      have f1 := HC1.out.frozen 1
      have f3 := HC1.out.frozen 3
      have e0 := HC0.out.frozen 0
      have e1 := HC0.out.frozen 1
      have e2 := HC0.out.frozen 2
      have e3 := HC0.out.frozen 3
      have hne : W.heap.size ≠ W.heap.size + 1 := by omega
      by_cases hn : n < 0
      · have hX : X = .inl 11 := by rw [HXx.out, if_pos hn]
        subst hX
        clear HXx
        go_wp2
        refine bodyPost_ret (v := .tuple #[.agg #[.bool ir, .int .i64 n, .int .i64 0, .int .i64 0], .int .i64 11]) (by simp [results, Tryz.results66, go_sem, z0, z1, z2, z3]) rfl (hidden ⟨⟨ir, n, 0, 0⟩, 11, rfl, ?_, .inl ⟨rfl, by decide⟩⟩)
        exact (by repeat (first | (with_reducible exact Below.refl _ _) | (with_reducible assumption) | (with_reducible refine Below.drew ?_) | (with_reducible refine below_drewN ?_ _) | ((with_reducible refine below_alloc ?_ ?_); (focus (first | omega | (simp; done) | (simp; omega)))) | ((with_reducible refine below_set ?_ ?_); (focus (first | omega | (simp; done) | (simp; omega))))))
      · have HN := hidden (fun w' => num_Read iv 8 w' (by decide) (by decide) hvz)
        have HXy : Hid (X = if (readN iv.data.toList 8).2 ≠ 0 then .inl (readN iv.data.toList 8).2 else if (readN iv.data.toList 8).1 = 0 then .inl 2 else .inr ⟨ir, n, 0, (readN iv.data.toList 8).1⟩) := hidden (by rw [HXx.out, if_neg hn])
        clear HXx
        generalize readN iv.data.toList 8 = rn at *
        obtain ⟨kk, ee⟩ := rn
        dsimp only at HN HXy
        go_wp2_with fail
        refine (HN.out _).mono ?_
        rintro r wE ⟨rfl, hwE⟩
        subst hwE
        clear HN
        by_cases h1 : ee ≠ 0
        · have hX : X = .inl ee := by rw [HXy.out, if_pos h1]
          subst hX
          clear HXy
          go_wp2
          refine bodyPost_ret (v := .tuple #[.agg #[.bool ir, .int .i64 n, .int .i64 0, .int .i64 kk], .int .i64 ee]) (by simp [results, Tryz.results66, go_sem, z0, z1, z2, z3]) rfl (hidden ⟨⟨ir, n, 0, kk⟩, ee, rfl, ?_, .inl ⟨rfl, h1⟩⟩)
          exact (by repeat (first | (with_reducible exact Below.refl _ _) | (with_reducible assumption) | (with_reducible refine Below.drew ?_) | (with_reducible refine below_drewN ?_ _) | ((with_reducible refine below_alloc ?_ ?_); (focus (first | omega | (simp; done) | (simp; omega)))) | ((with_reducible refine below_set ?_ ?_); (focus (first | omega | (simp; done) | (simp; omega))))))
        · obtain rfl : ee = 0 := Classical.not_not.1 h1
          by_cases h2 : kk = 0
          · have hX : X = .inl 2 := by rw [HXy.out, if_neg (by decide), if_pos h2]
            subst hX
            subst h2
            clear HXy
            go_wp2
            refine bodyPost_ret (v := .tuple #[.agg #[.bool ir, .int .i64 n, .int .i64 0, .int .i64 0], .int .i64 2]) (by simp [results, Tryz.results66, go_sem, z0, z1, z2, z3]) rfl (hidden ⟨⟨ir, n, 0, 0⟩, 2, rfl, ?_, .inl ⟨rfl, by decide⟩⟩)
            exact (by repeat (first | (with_reducible exact Below.refl _ _) | (with_reducible assumption) | (with_reducible refine Below.drew ?_) | (with_reducible refine below_drewN ?_ _) | ((with_reducible refine below_alloc ?_ ?_); (focus (first | omega | (simp; done) | (simp; omega)))) | ((with_reducible refine below_set ?_ ?_); (focus (first | omega | (simp; done) | (simp; omega))))))
          · have hX : X = .inr ⟨ir, n, 0, kk⟩ := by rw [HXy.out, if_neg (by decide), if_neg h2]
            subst hX
            clear HXy
            go_wp2
            refine bodyPost_ret (v := .tuple #[.agg #[.bool ir, .int .i64 n, .int .i64 0, .int .i64 kk], .int .i64 0]) (by simp [results, Tryz.results66, go_sem, z0, z1, z2, z3]) rfl (hidden ⟨⟨ir, n, 0, kk⟩, 0, rfl, ?_, .inr ⟨rfl, rfl⟩⟩)
            exact (by repeat (first | (with_reducible exact Below.refl _ _) | (with_reducible assumption) | (with_reducible refine Below.drew ?_) | (with_reducible refine below_drewN ?_ _) | ((with_reducible refine below_alloc ?_ ?_); (focus (first | omega | (simp; done) | (simp; omega)))) | ((with_reducible refine below_set ?_ ?_); (focus (first | omega | (simp; done) | (simp; omega))))))
    · rw [if_neg hm] at HCut
      have HXx : Hid (X = if findNo x.g u < 0 then .inl 11 else .inr ⟨isRule x.g u, findNo x.g u, 0, 0⟩) := hidden (by rw [HXu.out, if_pos hm, name_whole hm])
      clear HXu hm
      have HF := hidden (fun (w' : World) (hb : Below W.heap.size W w') => gram_Find tv rv pv x.g u w' (HA.out w' hb).is_ s1)
      go_wp2_with fail
      refine HCut.out.mono ?_
      rintro r wB ⟨rfl, hbB⟩
      have hbC := hbA.trans (hbB.mono hbA.size)
      have HC0 := hidden (HQ0.out.below hbB HQ0.out.lt)
      have HC1 := hidden (HQ1.out.below hbB HQ1.out.lt)
      obtain ⟨c0, c1, c2, c3, c4, c5, c6, c7, c8⟩ := (HA.out wB hbC).cells
      have HX2 := hidden (HF.out wB hbC)
      unfold gramCells at HX2
      clear HCut HF HQ0 HQ1 hbA hbB HA
      generalize findNo x.g u = n at *
      generalize isRule x.g u = ir at *
      go_wp2_with fail
      refine HX2.out.mono ?_
      rintro r wD ⟨rfl, hbD⟩
      have hbE := hbC.trans (hbD.mono hbC.size)
      replace HC0 := hidden (HC0.out.below hbD HC0.out.lt)
      replace HC1 := hidden (HC1.out.below hbD HC1.out.lt)
      clear c0 c1 c2 c3 c4 c5 c6 c7 c8 HX2 hbC hbD
      obtain ⟨y0, y1, y2, y3⟩ := gfour HC1.out
      obtain ⟨z0, z1, z2, z3⟩ := gfour HC0.out
      have f0 := HC1.out.frozen 0
      have f1 := HC1.out.frozen 1
      have f3 := HC1.out.frozen 3
      have e0 := HC0.out.frozen 0
      have e1 := HC0.out.frozen 1
      have e2 := HC0.out.frozen 2
      have e3 := HC0.out.frozen 3
      have hne : W.heap.size ≠ W.heap.size + 1 := by omega
      by_cases hn : n < 0
      · have hX : X = .inl 11 := by rw [HXx.out, if_pos hn]
        subst hX
        clear HXx
        go_wp2
        refine bodyPost_ret (v := .tuple #[.agg #[.bool ir, .int .i64 n, .int .i64 0, .int .i64 0], .int .i64 11]) (by simp [results, Tryz.results66, go_sem, z0, z1, z2, z3]) rfl (hidden ⟨⟨ir, n, 0, 0⟩, 11, rfl, ?_, .inl ⟨rfl, by decide⟩⟩)
        exact (by repeat (first | (with_reducible exact Below.refl _ _) | (with_reducible assumption) | (with_reducible refine Below.drew ?_) | (with_reducible refine below_drewN ?_ _) | ((with_reducible refine below_alloc ?_ ?_); (focus (first | omega | (simp; done) | (simp; omega)))) | ((with_reducible refine below_set ?_ ?_); (focus (first | omega | (simp; done) | (simp; omega))))))
      · have hX : X = .inr ⟨ir, n, 0, 0⟩ := by rw [HXx.out, if_neg hn]
        subst hX
        clear HXx
        go_wp2
        refine bodyPost_ret (v := .tuple #[.agg #[.bool ir, .int .i64 n, .int .i64 0, .int .i64 0], .int .i64 0]) (by simp [results, Tryz.results66, go_sem, z0, z1, z2, z3]) rfl (hidden ⟨⟨ir, n, 0, 0⟩, 0, rfl, ?_, .inr ⟨rfl, rfl⟩⟩)
        exact (by repeat (first | (with_reducible exact Below.refl _ _) | (with_reducible assumption) | (with_reducible refine Below.drew ?_) | (with_reducible refine below_drewN ?_ _) | ((with_reducible refine below_alloc ?_ ?_); (focus (first | omega | (simp; done) | (simp; omega)))) | ((with_reducible refine below_set ?_ ?_); (focus (first | omega | (simp; done) | (simp; omega))))))
end Go.Proofs.YtfmdmeokbbpmlaaGreat
