/-
  arena.Put.
-/
import Derived.Test.YtihblifkbljgaaaTreePut
import Derived.StillTailTactics
import Derived.RegionTactic
namespace Go.Proofs.Ytihblifkbljgaaa
open Go.RowKit Go.Shelf

theorem allCells_size (t : List Node) (ls : List Value) (k : Nat) (sd : Int) (h : ls.length = t.length) (hk : k < t.length) : allCells (t.set k { t[k] with size := sd }) ls = (allCells t ls).set (k * 5 + 2) (.int .i64 sd) := by
  apply List.ext_getElem?
  intro m
  have hl : (allCells (t.set k { t[k] with size := sd }) ls).length = t.length * 5 := by rw [allCells_len _ _ (by simp [h])]; simp
  have hl2 := allCells_len t ls h
  by_cases hm : m < t.length * 5
  · obtain ⟨i, j, hj, rfl⟩ : ∃ i j, j < 5 ∧ m = i * 5 + j := ⟨m / 5, m % 5, Nat.mod_lt _ (by decide), by omega⟩
    have hi : i < t.length := by omega
    have hat : ∀ (u : List Node) (hu : u.length = t.length), (allCells u ls)[i * 5 + j]? = (ndCells (u[i]'(by omega)) (ls[i]'(by omega)))[j]? := by
      intro u hu
      have hz : (u.zip ls)[i]? = some (u[i]'(by omega), ls[i]'(by omega)) := by
        rw [List.getElem?_zip_eq_some]
        exact ⟨List.getElem?_eq_getElem _, List.getElem?_eq_getElem _⟩
      exact flat_at (fun x : Node × Value => ndCells x.1 x.2) 5 (fun _ => rfl) (u.zip ls) i j _ hz hj
    rw [hat _ (by simp)]
    by_cases e : i * 5 + j = k * 5 + 2
    · obtain rfl : i = k := by omega
      obtain rfl : j = 2 := by omega
      rw [List.getElem?_set_self (by omega)]
      simp [ndCells]
    · rw [List.getElem?_set_ne (by omega), hat t rfl]
      by_cases ei : i = k
      · subst ei
        rw [List.getElem_set_self]
        have : j ≠ 2 := by omega
        obtain rfl | rfl | rfl | rfl : j = 0 ∨ j = 1 ∨ j = 3 ∨ j = 4 := by omega
        all_goals simp [ndCells]
      · rw [List.getElem_set_ne (by omega)]
  · rw [List.getElem?_eq_none (by omega), List.getElem?_eq_none (by rw [List.length_set]; omega)]

/-- A node's size is written anew. -/
theorem Own.resize_at {w : World} {B : Nat} {v : Value} {t : List Node} (h : Own w B v t) {k : Nat} (hk : k < t.length) : ∃ g cap, v = .slice (some ⟨g, 0, none⟩) t.length cap ∧ t.length ≤ cap ∧ cap ≤ maxLen ∧ B ≤ g ∧
    w.cell? ⟨g, k * 5 + 2, none⟩ = some (.int .i64 t[k].size) ∧ w.frozen? ⟨g, k * 5 + 2, none⟩ = false ∧ ∀ sd : Int, Own (w.setCell ⟨g, k * 5 + 2, none⟩ (.int .i64 sd)) B v (t.set k { t[k] with size := sd }) := by
  obtain ⟨ls, h1, h2, h3⟩ := h
  have h0 : 0 < t.length := by omega
  obtain ⟨g, cap, rfl, c1, c2, c3, c4, c5⟩ := h2.open_ h0
  have hfz : w.frozen? ⟨g, k * 5 + 2, none⟩ = false := by
    rcases (h2.own h0).2 with ⟨_, e⟩ | ⟨g', cap', cur, hv, _, hg, _⟩
    · omega
    · simp only [Value.slice.injEq, Option.some.injEq, Addr.mk.injEq] at hv
      obtain ⟨⟨rfl, _⟩, _, _⟩ := hv
      exact Holds.frozen hg _
  have hz : (t.zip ls)[k]? = some (t[k], ls[k]'(by omega)) := by
    rw [List.getElem?_zip_eq_some]; exact ⟨List.getElem?_eq_getElem hk, List.getElem?_eq_getElem _⟩
  have hcell : (allCells t ls)[k * 5 + 2]? = some (.int .i64 t[k].size) := by
    unfold allCells
    rw [flat_at (fun x : Node × Value => ndCells x.1 x.2) 5 (fun _ => rfl) (t.zip ls) k 2 _ hz (by omega)]
    rfl
  refine ⟨g, cap, rfl, c1, c2, c3, c5 _ _ hcell, hfz, fun sd => ⟨ls, by simp [h1], ?_, fun i y l' a b => ?_⟩⟩
  · rw [allCells_size t ls k sd h1 hk, List.length_set]
    exact h2.stored h0 _ _
  · obtain ⟨y', hy', hy2⟩ : ∃ y', t[i]? = some y' ∧ y'.lead = y.lead := by
      by_cases e : i = k
      · subst e
        rw [List.getElem?_set_self hk] at a
        simp at a; subst a
        exact ⟨t[i], List.getElem?_eq_getElem hk, rfl⟩
      · rw [List.getElem?_set_ne (fun h => e h.symm)] at a
        exact ⟨y, a, rfl⟩
    obtain ⟨p1, p2⟩ := h3 i y' l' hy' b
    rw [hy2] at p1
    exact ⟨p1.set (p := ⟨g, k * 5 + 2, none⟩) (fun e => (p2 _ e).1 rfl) _, fun q hq => ⟨(p2 q hq).1, (p2 q hq).2.1, by have := (p2 q hq).2.2; simpa [World.setCell] using this⟩⟩

theorem Nds.tail {w : World} {T : Nat → Prop} {b off c : Nat} {t : List Node} (h : Nds w T (.slice (some ⟨b, off, none⟩) t.length c) t) {E : Nat} (hE : E ≤ t.length) (hc : c ≤ maxLen) (hlc : t.length ≤ c) (h0 : t ≠ []) :
    Nds w T (.slice (if c = E then some ⟨b, off, none⟩ else some ⟨b, off + E * 5, none⟩) (t.length - E) (c - E)) (t.drop E) := by
  by_cases e : c = E
  · have h1 : t.length - E = 0 := by omega
    have h2 : c - E = 0 := by omega
    rw [if_pos e, h1, h2, List.drop_of_length_le (by omega)]
    exact ⟨[], rfl, ⟨rfl, _, 0, rfl, Nat.le_refl _, by decide, fun h => absurd h (Nat.lt_irrefl 0)⟩, fun i x l h => by simp at h⟩
  · rw [if_neg e]
    have := h.part E (t.length - E) (c' := c - E) (by omega) (by omega) (by omega) h0
    rwa [List.take_of_length_le (by simp)] at this
theorem Nds.head {w : World} {T : Nat → Prop} {b off c : Nat} {t : List Node} (h : Nds w T (.slice (some ⟨b, off, none⟩) t.length c) t) {i : Nat} (hi : i ≤ t.length) (hc : c ≤ maxLen) (hlc : t.length ≤ c) (h0 : t ≠ []) :
    Nds w T (.slice (some ⟨b, off, none⟩) i i) (t.take i) := by
  have := h.part 0 i (c' := i) (by omega) (Nat.le_refl _) (by omega) h0
  simpa using this
theorem three_parts {w : World} {v1 v2 v3 : Value} {t1 t2 t3 : List Node} (h1 : Nds w (Old w) v1 t1) (h2 : Nds w (Old w) v2 t2) (h3 : Nds w (Old w) v3 t3) :
    Parts (w.alloc (.cells #[v1, v2, v3] 22)) (fun k => k < (w.alloc (.cells #[v1, v2, v3] 22)).heap.size) (.slice (some ⟨w.heap.size, 0, none⟩) 3 3) [t1, t2, t3] := by
  have hT : ∀ k, Old w k → k < (w.alloc (.cells #[v1, v2, v3] 22)).heap.size := fun k hk => by have : k < w.heap.size := hk; simp; omega
  refine ⟨[v1, v2, v3], rfl, Rd.fresh (cs := [v1, v2, v3]) (n := 3) (size := 1) rfl (Nat.le_refl _) (by decide) (by simp) rfl, fun i t u a b => ?_⟩
  match i, a, b with
  | 0, a, b => simp at a b; subst a b; exact (h1.alloc _).mono hT
  | 1, a, b => simp at a b; subst a b; exact (h2.alloc _).mono hT
  | 2, a, b => simp at a b; subst a b; exact (h3.alloc _).mono hT
  | n + 3, a, b => simp at a

set_option maxRecDepth 20000 in
set_option maxHeartbeats 8000000 in
theorem arena_put (v u : Value) (t s : List Node) (i : Int) (w : World) (h4 : t.length ≤ 1000000) (h5 : s.length ≤ 1000000) (hF : Fit t) (hG : Fit s) (hN : Nds w (Old w) v t) (hM : Nds w (Old w) u s) :
    Calls Try.prog 31 #[v, .int .i64 i, u] w fun r w' => (∃ x, r = .returned (.tuple #[x, .bool (putB t i s)]) ∧ Hid (Own w' w.heap.size x (putOf t i s))) ∧ Below w.heap.size w w' := by
  have HN := hidden (fun (w' : World) (hw : Below w.heap.size w w') => hN.old hw)
  have HM := hidden (fun (w' : World) (hw : Below w.heap.size w w') => hM.old hw)
  have HP := hidden (fun (w' : World) (hw : Below w.heap.size w w') => arena_place v t i w' (by omega) (HN.out w' hw))
  have HR := hidden (fun (w' : World) (hw : Below w.heap.size w w') => arena_right u s w' (by omega) (HM.out w' hw))
  have hb := Below.refl w.heap.size w
  obtain ⟨A2, c2, rfl, hd1, hd2⟩ := hM.value
  unfold maxLen at hd2
  unfold putOf putB
  cases hp : placeB t i with
  | false =>
    obtain ⟨A, c, rfl, hc1, hc2⟩ := hN.value
    unfold maxLen at hc2
    rw [hp] at HP
    clear hN hM HN HM hp
    go_enter Try.func31, Try.ntmps31
    go_wp2_with fail
    refine (HP.out w hb).mono ?_
    rintro r wg ⟨rfl, hbg⟩
    replace hb := hb.trans (hbg.mono hb.size)
    clear hbg
    go_wp2
    go_ret2
    exact ⟨⟨_, rfl, hidden (Own.nil _ _)⟩, hb⟩
  | true =>
    rw [hp] at HP
    obtain ⟨p1, p2, p3⟩ := placeB_iff.1 hp
    obtain ⟨I, rfl⟩ := Int.eq_ofNat_of_zero_le p1
    obtain ⟨b, off, c, rfl, hc1, hc2, _, _⟩ := hN.open_ (by intro e; subst e; simp at p2; omega)
    unfold maxLen at hc2
    have HT := hidden p3
    have p2 : I < t.length := by omega
    simp only [Int.toNat_natCast]
    clear hN hM hp p1 p3
    cases hs : treeB s with
    | false =>
      rw [hs] at HR
      clear HN HM hs
      simp only [Bool.and_false, Bool.false_eq_true, if_false]
      go_enter Try.func31, Try.ntmps31
      go_wp2_with fail
      refine (HP.out w hb).mono ?_
      rintro r wg ⟨rfl, hbg⟩
      replace hb := hb.trans (hbg.mono hb.size)
      clear hbg
      go_wp2_with fail
      refine (HR.out _ hb).mono ?_
      rintro r wg ⟨rfl, hbg⟩
      replace hb := hb.trans (hbg.mono hb.size)
      clear hbg
      go_wp2
      go_ret2
      exact ⟨⟨_, rfl, hidden (Own.nil _ _)⟩, hb⟩
    | true =>
      rw [hs] at HR
      clear hs
      simp only [Bool.and_true, if_true]
      have n1 := (tree_node HT.out p2).1
      have n2 := (tree_node HT.out p2).2.1
      have HX2 := hidden (fun (w' : World) (hw : Below w.heap.size w w') => (HN.out w' hw).size_cell HT.out p2)
      go_enter Try.func31, Try.ntmps31
      go_wp2_with fail
      refine (HP.out w hb).mono ?_
      rintro r wg ⟨rfl, hbg⟩
      replace hb := hb.trans (hbg.mono hb.size)
      clear hbg
      go_wp2_with fail
      refine (HR.out _ hb).mono ?_
      rintro r wg ⟨rfl, hbg⟩
      replace hb := hb.trans (hbg.mono hb.size)
      have x2 := HX2.out _ hb
      clear hbg
      clear HP HR
      go_wp2
      have i1 : (0 : Int) ≤ (I : Int) := by omega
      have i2 : (I : Int) ≤ (c : Int) := by omega
      have i3 : (0 : Int) ≤ (I : Int) + (sz t I : Int) := by omega
      have i4 : (I : Int) + (sz t I : Int) ≤ (t.length : Int) := by omega
      have i5 : (I : Int) ≤ (I : Int) := by omega
      go_still_tail 8, (by kernel_rfl)
      clear i1 i2 i3 i4 i5
      rw [show ((I : Int) + (sz t I : Int)).toNat = I + sz t I by omega]
      have hne : t ≠ [] := by intro e; subst e; simp at p2
      replace hb : Below w.heap.size w wg.drew := hb.drew
      have h1 := (HN.out _ hb).head (i := I) (by omega) (by unfold maxLen; omega) hc1 hne
      have h3 := (HN.out _ hb).tail n2 (by unfold maxLen; omega) hc1 hne
      have h2 := HM.out _ hb
      change wpList _ _ _ _ _ wg.drew
      clear x2
      generalize wg.drew = w3 at *
      generalize (if c = I + sz t I then some (⟨b, off, none⟩ : Addr) else some ⟨b, off + (I + sz t I) * 5, none⟩) = P3 at *
      have HJ := hidden (arena_join _ _ (w3.alloc _) (by simp) (by simp; omega) (fun x hx => by
        simp at hx
        rcases hx with rfl | rfl | rfl
        · exact fun y hy => hF y (List.mem_of_mem_take hy)
        · exact hG
        · exact fun y hy => hF y (List.mem_of_mem_drop hy)) (three_parts h1 h2 h3))
      have hb4 := hb.alloc hb.size (.cells #[.slice (some ⟨b, off, none⟩) I I, .slice A2 s.length c2, .slice P3 (t.length - (I + sz t I)) (c - (I + sz t I))] 22)
      clear h1 h2 h3
      go_wp2_with fail
      refine HJ.out.mono ?_
      rintro r w5 ⟨⟨x9, rfl, HO⟩, hb5⟩
      have hbz := hb4.size
      replace hb := hb4.trans (hb5.mono hb4.size)
      replace HO := hidden (HO.out.base hbz)
      clear HJ hb5 hb4
      obtain ⟨L, hL⟩ : ∃ L, L = I + s.length + (t.length - (I + sz t I)) := ⟨_, rfl⟩
      have HLn : Hid (∀ l : List Node, l.length = I → (l ++ s ++ t.drop (I + sz t I)).length = L) := hidden (fun l hl => by rw [hL]; simp [hl]; omega)
      have e0 : [t.take I, s, t.drop (I + sz t I)].flatten = bumps t I ((s.length : Int) - sz t I) (upN t I I) ++ s ++ t.drop (I + sz t I) := by
        rw [bumps_start HT.out p2]; simp
      rw [e0] at HO
      obtain ⟨A9, c9, rfl, k1, k2⟩ := HO.out.nds.value
      rw [HLn.out _ (bumps_len _ _ _ _ (by omega))] at k1 HO ⊢
      unfold maxLen at k2
      have hLb : L ≤ 2000000 := by omega
      have HU := hidden (fun (i : Int) (w' : World) (hw : Below w.heap.size w w') => arena_up _ t i w' (by omega) (HN.out w' hw))
      have hUI := HU.out I
      rw [upOf_in HT.out p2] at hUI
      have HUI := hidden hUI
      have HPast := hidden (fun (a b : Nat) (ha : a < I) (hs : I < a + sz t a) (hb : upN t a a = (b : Int)) => up_past HT.out p2 ha hs hb)
      have HUC : Hid (∀ j : Nat, ∃ n : Nat, upN t j j = (n : Int) - 1) := hidden (fun j => by
        rcases upN_cases t j j with h | ⟨k, h⟩
        · exact ⟨0, by omega⟩
        · exact ⟨k + 1, by omega⟩)
      have HNx := hidden (fun (a : Nat) (ha : a < I) (hs : I < a + sz t a) => bumps_next HT.out p2 ((s.length : Int) - sz t I) ha hs)
      have hpast0 : ∀ m : Nat, upN t I I = (m : Int) → m < I ∧ I < m + sz t m := fun m hm => ⟨upN_lt I hm, upN_hit I hm⟩
      have HP0 := hidden hpast0
      clear hL e0 hUI hpast0 hne hF hG hbz
      go_wp2_with fail
      refine (HUI.out _ hb).mono ?_
      rintro r w6 ⟨rfl, hb6⟩
      replace HO := hidden (HO.out.below hb6)
      replace hb := hb.trans (hb6.mono hb.size)
      obtain ⟨n0, hn0⟩ := HUC.out I
      have HS0 : Hid (∀ m : Nat, n0 = m + 1 → m < I ∧ I < m + sz t m) := hidden (fun m hm => HP0.out m (by omega))
      rw [hn0] at HO ⊢
      clear hn0 hb6 HUI HP0
      go_wp2
      go_loopw [10] (fun aa wr => ∃ n : Nat, aa = .int .i64 ((n : Int) - 1) ∧ Hid (∀ m : Nat, n = m + 1 → m < I ∧ I < m + sz t m) ∧ Hid (Own wr w.heap.size (.slice A9 L c9) (bumps t I ((s.length : Int) - sz t I) ((n : Int) - 1) ++ s ++ t.drop (I + sz t I))) ∧ Below w.heap.size w wr) (fun aa _ => (intOf aa + 1).toNat)
      case atStart => exact ⟨n0, rfl, HS0, HO, hb⟩
      case round =>
        clear HO hb HS0
        obtain ⟨n, rfl, HS, HO, hb⟩ := hrel
        cases n with
        | zero =>
          go_wp2
          go_ret2
          exact ⟨⟨_, rfl, HO⟩, hb⟩
        | succ m =>
          rw [show ((m + 1 : Nat) : Int) - 1 = (m : Int) by omega] at HO ⊢
          obtain ⟨hm1, hm2⟩ := HS.out m rfl
          have hbl : (bumps t I ((s.length : Int) - sz t I) (m : Int)).length = I := bumps_len _ _ _ _ (by omega)
          have hTl := HLn.out _ hbl
          have hmT : m < (bumps t I ((s.length : Int) - sz t I) (m : Int) ++ s ++ t.drop (I + sz t I)).length := by rw [hTl]; simp at hTl; omega
          obtain ⟨g, cap, hv, g1, g2, g3, y2, yf, hnew⟩ := HO.out.resize_at hmT
          have hmL : m < L := by rw [← hTl]; exact hmT
          have hge : (bumps t I ((s.length : Int) - sz t I) (m : Int) ++ s ++ t.drop (I + sz t I))[m] = t[m] := by
            have h1 : (bumps t I ((s.length : Int) - sz t I) (m : Int) ++ s ++ t.drop (I + sz t I))[m]? = some t[m] := by
              rw [List.append_assoc, List.getElem?_append_left (by rw [hbl]; exact hm1), bumps_at (by omega) hm1]
              unfold bump
              rw [if_neg (fun h => by omega)]
            rw [List.getElem?_eq_getElem hmT] at h1
            exact Option.some.inj h1
          have hset : (bumps t I ((s.length : Int) - sz t I) (m : Int) ++ s ++ t.drop (I + sz t I)).set m { t[m] with size := (sz t m : Int) + ((s.length : Int) - sz t I) } = bumps t I ((s.length : Int) - sz t I) (upN t m m) ++ s ++ t.drop (I + sz t I) := by
            rw [List.append_assoc, List.set_append_left _ _ (by rw [hbl]; exact hm1), ← HNx.out m hm1 hm2, List.append_assoc]
          have hnm := tree_node HT.out (show m < t.length by omega)
          rw [hge, hnm.2.2] at y2
          have hnew2 := hnew ((sz t m : Int) + ((s.length : Int) - sz t I))
          rw [hge, hset] at hnew2
          have HNew := hidden hnew2
          have hs1 := hnm.2.1
          rw [hTl] at hv
          simp only [Value.slice.injEq] at hv
          obtain ⟨rfl, _, rfl⟩ := hv
          have xI := HX2.out _ hb
          have hbz := hb.size
          have hUm := HU.out (m : Int)
          rw [upOf_in HT.out (show m < t.length by omega)] at hUm
          have HUm := hidden hUm
          obtain ⟨n2', hn2⟩ := HUC.out m
          have HS2 : Hid (∀ q : Nat, n2' = q + 1 → q < I ∧ I < q + sz t q) := hidden (fun q hq => by
            have := HPast.out m q hm1 hm2 (by omega)
            exact ⟨by omega, this.2⟩)
          have hlow : upN t m m < m := by
            rcases upN_cases t m m with h | ⟨k, h⟩
            · omega
            · have := upN_lt m h; omega
          rw [hn2] at HUm HNew hlow
          clear hnew2 hnew hge hset hnm hUm hn2 hTl hbl HS hmT HO
          have j1 : (0 : Int) ≤ (m : Int) := by omega
          have j2 : (m : Int) < (L : Int) := by omega
          have j3 : (0 : Int) ≤ (I : Int) := by omega
          have j4 : (I : Int) < (t.length : Int) := by omega
          go_wp2_with fail
          go_still_tail 16, (by kernel_rfl)
          replace hb : Below w.heap.size w wr.drew := hb.drew
          have HNew2 : Hid (Own (wr.drew.setCell ⟨g, m * 5 + 2, none⟩ (.int .i64 ((sz t m : Int) + ((s.length : Int) - sz t I)))) w.heap.size (.slice (some ⟨g, 0, none⟩) L c9) (bumps t I ((s.length : Int) - sz t I) ((n2' : Int) - 1) ++ s ++ t.drop (I + sz t I))) := hidden HNew.out
          have y2' : wr.drew.cell? ⟨g, m * 5 + 2, none⟩ = some (.int .i64 (sz t m : Int)) := y2
          have yf' : wr.drew.frozen? ⟨g, m * 5 + 2, none⟩ = false := yf
          change wpList _ _ _ _ _ wr.drew
          clear HNew y2 yf xI hbz
          generalize wr.drew = w8 at *
          have hb9 := hb.setCell (p := ⟨g, m * 5 + 2, none⟩) g3 (.int .i64 ((sz t m : Int) + ((s.length : Int) - sz t I)))
          have HUm2 := hidden (HUm.out _ hb9)
          go_wp2_with fail
          refine HUm2.out.mono ?_
          rintro r w10 ⟨rfl, hb10⟩
          replace hb := hb9.trans (hb10.mono hb9.size)
          replace HNew2 := hidden (HNew2.out.below hb10)
          clear hb9 HUm HUm2 y2' yf'
          go_wp2
          go_roundw
          case rel => exact ⟨n2', rfl, HS2, HNew2, hb⟩
          case measure => simp [intOf]; omega
end Go.Proofs.Ytihblifkbljgaaa
