/-
  The item of a production that a node stands for (the document's item): the walk where there is a production above it.
-/
import Derived.Test.YtbjheaiiajpifaaLayD
import Derived.Test.YtbjheaiiajpifaaShape
namespace Go.Proofs.Ytbjheaiiajpifaa.T
open Go.RowKit Go.Shelf

theorem cell_on {w w1 : World} {b o : Nat} {v : Value} (h : w.cell? ⟨b, o, none⟩ = some v) (h1 : Below w.heap.size w w1) : w1.cell? ⟨b, o, none⟩ = some v := Ext.cell h ⟨w1, h1⟩
theorem kidsL_sorted (t : List Node) (a : Nat) : (kidsL t a).Pairwise (· < ·) := kidsFrom_sorted _ _ (Nat.le_refl _)
theorem kids_lt {t : List Node} {a k m x y : Nat} (hk : (kidsL t a)[k]? = some x) (hm : (kidsL t a)[m]? = some y) (h : k < m) : x < y := by
  obtain ⟨h1, e1⟩ := List.getElem?_eq_some_iff.1 hk
  obtain ⟨h2, e2⟩ := List.getElem?_eq_some_iff.1 hm
  have := List.pairwise_iff_getElem.1 (kidsL_sorted t a) k m h1 h2 h
  omega
theorem cntTo_le (t : List Node) (L : List Nat) (k : Nat) : cntTo t L k ≤ k := by
  unfold cntTo
  have := List.length_filter_le (fun x => !badAt t x) (L.take k)
  have := List.length_take_le k L
  omega

set_option maxRecDepth 20000 in
set_option maxHeartbeats 8000000 in
theorem ref_item_some (v a' b' c' : Value) (g : Gram) (t : List Node) (i a m : Nat) (x y : Node) (p : Prod) (hi : i < t.length) (hup : upN t i i = (a : Int)) (hx : t[a]? = some x) (hy : t[i]? = some y) (hk2 : x.kind = 2) (hxn : 0 ≤ x.n) (hp : g.prods[x.n.toNat]? = some p) (hyb : y.kind ≠ 4) (hm : (kidsL t a)[m]? = some i) (w : World) (h4 : t.length ≤ 140737488355) (hT : Tree t) (HG : GramIs w (Old w) a' b' c' g) (hN : Nds w (Old w) v t) :
    Calls Try.prog 64 #[.agg (gramCells a' b' c' g), v, .int .i64 (i : Int)] w fun r w' => r = .returned (.tuple #[.agg (itCells (itemD p.right[cntTo t (kidsL t a) m]?)).toArray, .bool p.right[cntTo t (kidsL t a) m]?.isSome]) ∧ Below w.heap.size w w' := by
  have hlen := tree_len hT
  have HU := hidden (fun (w' : World) (hb : Below w.heap.size w w') => ref_up v t i w' h4 (hN.old hb))
  rw [upOf_in hT hi, hup] at HU
  have ha : a < t.length := (List.getElem?_eq_some_iff.1 hx).1
  have HK := hidden (fun (w' : World) (hb : Below w.heap.size w w') => ref_kids v t (a : Int) w' h4 (hN.old hb))
  have hko : kidsOf t (a : Int) = kidsL t a := by
    unfold kidsOf
    rw [if_pos (placeB_iff.2 ⟨by omega, by omega, hT⟩), Int.toNat_natCast]
  rw [hko] at HK
  obtain ⟨nx, hnx⟩ := Int.eq_ofNat_of_zero_le hxn
  rw [hnx, Int.toNat_natCast] at hp
  have hpl := (List.getElem?_eq_some_iff.1 hp).1
  have HGo := hidden (fun (w' : World) (hb : Below w.heap.size w w') => HG.2.2.old hb)
  obtain ⟨A1, k1, rfl, _, _⟩ := HG.1.value
  obtain ⟨A2, k2, rfl, _, _⟩ := HG.2.1.val
  obtain ⟨A3, k3, rfl, z1, z2⟩ := HG.2.2.value
  unfold maxLen at z2
  have HN := hidden (fun (w' : World) (hb : Below w.heap.size w w') => hN.old hb)
  have HKL := hidden (fun k u (hu : (kidsL t a)[k]? = some u) (hk : k < m) => kids_lt hu hm hk)
  have HKB := hidden (fun k u (hu : (kidsL t a)[k]? = some u) => (by obtain ⟨e1, e2, e3⟩ := kid_up hT ha (List.mem_of_getElem? hu); have := tree_node hT ha; omega : u < t.length))
  have HS := hidden (fun k u (hu : (kidsL t a)[k]? = some u) => cntTo_succ (t := t) hu)
  have HCL := hidden (fun k => cntTo_le t (kidsL t a) k)
  have hml := (List.getElem?_eq_some_iff.1 hm).1
  have hKl : (kidsL t a).length ≤ t.length := by
    have h1 := kidsFrom_len t (a + sz t a) _ (a + 1) (Nat.le_refl _)
    have h2 := tree_node hT ha
    unfold kidsL
    omega
  have HB : Hid (∀ (u : Nat) (z : Node), t[u]? = some z → badAt t u = decide (z.kind = 4)) := hidden (fun u z hz => by unfold badAt; rw [hz])
  have hC0 : cntTo t (kidsL t a) 0 = 0 := by unfold cntTo; simp
  generalize kidsL t a = L at *
  obtain ⟨A, c, rfl, hc1, hc2⟩ := hN.value
  unfold maxLen at hc2
  clear HG hN hT hup hko
  unfold gramCells
  have hb0 : Below w.heap.size w ((w.alloc (.cells #[.slice A1 g.toks.length k1, .slice A2 g.rules.length k2, .slice A3 g.prods.length k3, .int .i64 g.start, .int .i64 g.states, .int .i64 g.text, .int .i64 g.nodes, .int .i64 g.pairs] 26)).alloc (.cells #[.bool false, .int .i64 0, .int .i64 0, .int .i64 0] 80)) := (by repeat (first | (with_reducible exact Below.refl _ _) | (with_reducible assumption) | (with_reducible refine Below.drew ?_) | (with_reducible refine below_drewN ?_ _) | ((with_reducible refine below_alloc ?_ ?_); (focus (first | omega | (simp; done) | (simp; omega)))) | ((with_reducible refine below_set ?_ ?_); (focus (first | omega | (simp; done) | (simp; omega))))))
  have HGb : Hid (Holds ((w.alloc (.cells #[.slice A1 g.toks.length k1, .slice A2 g.rules.length k2, .slice A3 g.prods.length k3, .int .i64 g.start, .int .i64 g.states, .int .i64 g.text, .int .i64 g.nodes, .int .i64 g.pairs] 26)).alloc (.cells #[.bool false, .int .i64 0, .int .i64 0, .int .i64 0] 80)) w.heap.size 26 #[.slice A1 g.toks.length k1, .slice A2 g.rules.length k2, .slice A3 g.prods.length k3, .int .i64 g.start, .int .i64 g.states, .int .i64 g.text, .int .i64 g.nodes, .int .i64 g.pairs]) := hidden ((Holds.new w _ _).alloc _)
  have HB0 : Hid (Holds ((w.alloc (.cells #[.slice A1 g.toks.length k1, .slice A2 g.rules.length k2, .slice A3 g.prods.length k3, .int .i64 g.start, .int .i64 g.states, .int .i64 g.text, .int .i64 g.nodes, .int .i64 g.pairs] 26)).alloc (.cells #[.bool false, .int .i64 0, .int .i64 0, .int .i64 0] 80)) (w.heap.size + 1) 80 #[.bool false, .int .i64 0, .int .i64 0, .int .i64 0]) := hidden (Holds.new_at (by simp))
  go_enter Try.func64, Try.ntmps64
  go_wp2_with fail
  refine (HU.out _ hb0).mono ?_
  rintro r w2 ⟨rfl, hb2⟩
  replace HGb := hidden (HGb.out.below hb2 (by simp; omega))
  replace HB0 := hidden (HB0.out.below hb2 HB0.out.lt)
  replace hb0 := below_more hb0 hb2
  clear hb2 HU
  have hg2 : w2.cell? ⟨w.heap.size, 2, none⟩ = some (.slice A3 g.prods.length k3) := HGb.out.cell 2
  obtain ⟨b1, o1', c1', hv1, _, _, _, hat⟩ := (HN.out _ hb0).open_ (by intro e; subst e; simp at hi)
  simp only [Value.slice.injEq] at hv1
  obtain ⟨rfl, _, rfl⟩ := hv1
  obtain ⟨_, x0, x1, _, _, _, _⟩ := hat a _ hx
  obtain ⟨_, y0, _, _, _, _, _⟩ := hat i _ hy
  rw [hnx] at x1
  have e0 := Ext.cell x0; have e1 := Ext.cell x1; have e2 := Ext.cell y0; have e3 := Ext.cell hg2
  have q0 : decide ((a : Int) < 0) = false := by simp
  have q1 : (x.kind != 2) = false := by simp [hk2]
  have q2 : decide ((nx : Int) < 0) = false := by simp
  have q3 : decide (g.prods.length ≤ nx) = false := by simp; omega
  have q4 : (y.kind == 4) = false := by simp [hyb]
  clear x0 x1 y0 hat hg2
  have HX := hidden hx; have HY := hidden hy; have HP := hidden hp; have HM9 := hidden hm; have HNX := hidden hnx; have HC0 := hidden hC0
  clear hx hy hp hm hnx hC0 hk2 hyb hxn
  go_wp2_with fail
  refine wp_region_ext (by kernel_rfl) (by kernel_rfl) ?_
  repeat (go_big_quiet_step (fail))
  refine wpQuiet_nil ?_
  intro w3 hb3
  replace HGb := hidden (HGb.out.below hb3 HGb.out.lt)
  replace HB0 := hidden (HB0.out.below hb3 HB0.out.lt)
  replace hb0 := below_more hb0 hb3
  clear hb3 q0 q1 q2 q3 q4 e0 e1 e2 e3
  go_wp2_with fail
  refine (HK.out _ hb0).mono ?_
  rintro r w4 ⟨⟨u, rfl, HM⟩, hb4⟩
  replace HGb := hidden (HGb.out.below hb4 HGb.out.lt)
  replace HB0 := hidden (HB0.out.below hb4 HB0.out.lt)
  replace hb0 := below_more hb0 hb4
  clear hb4 HK
  have HRd := hidden (HM.out.rd (T := Old w4) (fun _ _ _ h => h))
  obtain ⟨A5, c5, rfl, hc5, hc6⟩ := HRd.out.val
  unfold maxLen at hc6
  have HLat := hidden (fun k u (hu : L[k]? = some u) => Rd.ints_at HRd.out hu)
  clear HM HRd
  obtain ⟨b1, o1', c1', hv1, _, _, _, hat⟩ := (HN.out _ hb0).open_ (by intro e; subst e; simp at hi)
  simp only [Value.slice.injEq, Option.some.injEq, Addr.mk.injEq] at hv1
  obtain ⟨⟨rfl, rfl, _⟩, _, rfl⟩ := hv1
  have HAt := hidden (fun u z (hz : t[u]? = some z) => (hat u z hz))
  clear hat HN
  have hg4 := gram_cells (g := g) HGb.out
  go_wp2
  go_loopg [10, 11] m (fun gh nn kk wr => ∃ k : Nat, k ≤ m ∧ gh = m - k ∧ nn = .int .i64 (cntTo t L k : Int) ∧ kk = .int .i64 k ∧ wr = w4)
  case atStart => exact ⟨0, by omega, by omega, by rw [HC0.out]; rfl, by go_num, rfl⟩
  case round =>
    obtain ⟨k, hk, rfl, rfl, rfl, rfl⟩ := hrel
    have hkl : k < L.length := by omega
    have hu := List.getElem?_eq_getElem hkl
    have hub := HKB.out k _ hu
    obtain ⟨b5, o5, rfl, _, l0⟩ := HLat.out k _ hu
    obtain ⟨_, u0, _, _, _, _, _⟩ := HAt.out _ _ (List.getElem?_eq_getElem hub)
    have hcl := HCL.out k
    by_cases hlt : k < m
    · have hli := HKL.out k _ hu hlt
      have HSk := hidden (HS.out k _ hu)
      have HBk := hidden (HB.out _ _ (List.getElem?_eq_getElem hub))
      generalize hL9 : L[k] = u at *
      generalize hT9 : t[u] = z at *
      clear hu hL9 hT9
      by_cases hz4 : z.kind = 4
      · have HN2 : Hid ((cntTo t L (k + 1) : Int) = (cntTo t L k : Int)) := hidden (by rw [HSk.out, HBk.out, if_pos (by simpa using hz4)]; rfl)
        clear HSk HBk
        go_wp2
        go_roundg (m - (k + 1))
        case measure => omega
        case rel => exact ⟨k + 1, by omega, rfl, by rw [HN2.out], by go_num, rfl⟩
      · have HN2 : Hid ((cntTo t L (k + 1) : Int) = (cntTo t L k : Int) + 1) := hidden (by rw [HSk.out, HBk.out, if_neg (by simpa using hz4)]; rfl)
        clear HSk HBk
        go_wp2
        go_roundg (m - (k + 1))
        case measure => omega
        case rel => exact ⟨k + 1, by omega, rfl, by rw [HN2.out], by go_num, rfl⟩
    · obtain rfl : k = m := by omega
      have hLi : L[k] = i := by have := HM9.out; rw [hu] at this; exact Option.some.inj this
      rw [hLi] at l0
      clear u0 hLi
      obtain ⟨b6, o6, l6, rfl, _, hat6, hrt⟩ := (HGo.out _ hb0).at_ HP.out
      have p1 := hat6 1 _ rfl
      rw [show prodR.k = 2 from rfl] at p1
      have hrt : Rd wr (Old wr) 4 l6 p.right.length (p.right.flatMap itCells) := hrt
      obtain ⟨A7, c7, rfl, v7, m7⟩ := hrt.val
      unfold maxLen at m7
      obtain ⟨_, u0, u1, _, _, _, _⟩ := HAt.out _ _ HX.out
      rw [HNX.out] at u1
      have hg2 := hg4.2.2.1
      have e1 := Ext.cell p1; have e2 := Ext.cell u1; have e3 := Ext.cell hg2
      have hrd := HB0.out.lt
      clear HAt HGo HKB HKL HLat HM9 HB HS HCL HC0 hg4 hat6 HX HY HP HNX
      generalize hN9 : cntTo t L k = n at *
      have HN9 := hidden hN9
      clear hN9
      by_cases hn : n < p.right.length
      · have hit := List.getElem?_eq_getElem hn
        obtain ⟨b8, o8, rfl, _, hit8⟩ := hrt.flat_at (fun _ => rfl) (by decide) hit
        generalize p.right[n] = it at *
        have HIt := hidden hit
        have i0 := hit8 0 _ rfl; have i1 := hit8 1 _ rfl; have i2 := hit8 2 _ rfl; have i3 := hit8 3 _ rfl
        rw [Nat.add_zero] at i0
        have q5 : decide (p.right.length ≤ n) = false := by simp; omega
        have hrt2 := hidden hrt
        clear hit8 hit hrt
        generalize p.right.length = pl at *
        go_wp2_with fail
        refine wp_region_ext (by kernel_rfl) (by kernel_rfl) ?_
        repeat (go_big_quiet_step (fail))
        refine wpQuiet_nil ?_
        intro w5 hb5
        replace HB0 := hidden (HB0.out.below hb5 HB0.out.lt)
        replace hb0 := below_more hb0 hb5
        have p1' := cell_on p1 hb5; have u1' := cell_on u1 hb5; have g2' := cell_on hg2 hb5
        have i0' := cell_on i0 hb5; have i1' := cell_on i1 hb5; have i2' := cell_on i2 hb5; have i3' := cell_on i3 hb5
        clear hb5 e1 e2 e3 q5 p1 u1 hg2 i0 i1 i2 i3
        go_wp2_with fail
        go_still_tail 13, (by kernel_rfl)
        clear p1' u1' g2' i0' i1' i2' i3'
        change wpList _ _ _ _ _ w5.drew
        replace HB0 : Hid (Holds w5.drew (w.heap.size + 1) 80 #[.bool false, .int .i64 0, .int .i64 0, .int .i64 0]) := hidden HB0.out
        replace hb0 : Below w.heap.size w w5.drew := hb0.drew
        generalize w5.drew = w6 at *
        have hz3 := HB0.out.lt
        have f0 := HB0.out.frozen 0; have f1 := HB0.out.frozen 1; have f2 := HB0.out.frozen 2; have f3 := HB0.out.frozen 3
        have o0 : w6.cell? ⟨w.heap.size + 1, 0, none⟩ = some (.bool false) := HB0.out.cell 0
        have o1 : w6.cell? ⟨w.heap.size + 1, 1, none⟩ = some (.int .i64 0) := HB0.out.cell 1
        have o2 : w6.cell? ⟨w.heap.size + 1, 2, none⟩ = some (.int .i64 0) := HB0.out.cell 2
        have o3 : w6.cell? ⟨w.heap.size + 1, 3, none⟩ = some (.int .i64 0) := HB0.out.cell 3
        clear HB0
        go_wp2
        refine bodyPost_ret (v := .tuple #[.agg #[.bool it.rule, .int .i64 it.n, .int .i64 it.gap, .int .i64 it.in_], .bool true]) (by simp [results, Try.results64, go_sem, o0, o1, o2, o3]) rfl ⟨by rw [HN9.out, HIt.out]; rfl, (by repeat (first | (with_reducible exact Below.refl _ _) | (with_reducible assumption) | (with_reducible refine Below.drew ?_) | (with_reducible refine below_drewN ?_ _) | ((with_reducible refine below_alloc ?_ ?_); (focus (first | omega | (simp; done) | (simp; omega)))) | ((with_reducible refine below_set ?_ ?_); (focus (first | omega | (simp; done) | (simp; omega))))))⟩
      · have hnone : p.right[n]? = none := List.getElem?_eq_none (by omega)
        have HIt := hidden hnone
        have q5 : decide (p.right.length ≤ n) = true := by simp; omega
        clear hrt hnone
        generalize p.right.length = pl at *
        go_wp2_with fail
        refine wp_region_ext (by kernel_rfl) (by kernel_rfl) ?_
        repeat (go_big_quiet_step (fail))
        refine wpQuiet_nil ?_
        intro w5 hb5
        replace HB0 := hidden (HB0.out.below hb5 HB0.out.lt)
        replace hb0 := below_more hb0 hb5
        have hz3 := HB0.out.lt
        have o0 : w5.cell? ⟨w.heap.size + 1, 0, none⟩ = some (.bool false) := HB0.out.cell 0
        have o1 : w5.cell? ⟨w.heap.size + 1, 1, none⟩ = some (.int .i64 0) := HB0.out.cell 1
        have o2 : w5.cell? ⟨w.heap.size + 1, 2, none⟩ = some (.int .i64 0) := HB0.out.cell 2
        have o3 : w5.cell? ⟨w.heap.size + 1, 3, none⟩ = some (.int .i64 0) := HB0.out.cell 3
        have f0 := HB0.out.frozen 0; have f1 := HB0.out.frozen 1; have f2 := HB0.out.frozen 2; have f3 := HB0.out.frozen 3
        clear hb5 HB0 e1 e2 e3 p1 u1 hg2
        go_wp2
        refine bodyPost_ret (v := .tuple #[.agg #[.bool false, .int .i64 0, .int .i64 0, .int .i64 0], .bool false]) (by simp [results, Try.results64, go_sem, o0, o1, o2, o3]) rfl ⟨by rw [HN9.out, HIt.out]; rfl, (by repeat (first | (with_reducible exact Below.refl _ _) | (with_reducible assumption) | (with_reducible refine Below.drew ?_) | (with_reducible refine below_drewN ?_ _) | ((with_reducible refine below_alloc ?_ ?_); (focus (first | omega | (simp; done) | (simp; omega)))) | ((with_reducible refine below_set ?_ ?_); (focus (first | omega | (simp; done) | (simp; omega))))))⟩
end Go.Proofs.Ytbjheaiiajpifaa.T
