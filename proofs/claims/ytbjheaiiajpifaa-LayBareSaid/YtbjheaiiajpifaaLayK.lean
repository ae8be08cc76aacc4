/-
  The walk of lay.Of's closure at a node that is no leaf.
-/
import Derived.Test.YtbjheaiiajpifaaLayJ
import Derived.Test.YtbjheaiiajpifaaLayE
namespace Go.Proofs.Ytbjheaiiajpifaa.T
open Go.RowKit Go.Shelf
attribute [local simp] wide_fn

/-- Blocks that a call of the walk, and the walk that calls it, leave as they are. -/
def FrT (m : Nat) (W : World) (vo : Value) (k : Nat) : Prop := k ≠ m ∧ vo.ownBlock ≠ some k ∧ k ≠ W.heap.size
theorem frame_next {m : Nat} {W wl wr wz : World} {vo vo' vo2 : Value} (hK : Keeps (FrT m W vo) wl wr) (hO : vo'.ownBlock = vo.ownBlock ∨ ∃ q, vo'.ownBlock = some q ∧ wl.heap.size ≤ q)
    (hK2 : Keeps (OutT m vo') wr wz) (hO2 : vo2.ownBlock = vo'.ownBlock ∨ ∃ q, vo2.ownBlock = some q ∧ wr.heap.size ≤ q) : Keeps (FrT m W vo) wl wz ∧ (vo2.ownBlock = vo.ownBlock ∨ ∃ q, vo2.ownBlock = some q ∧ wl.heap.size ≤ q) := by
  have h1 := hK.size
  have h2 := hK2.size
  refine ⟨⟨by omega, fun k hT hk => ?_⟩, ?_⟩
  · rw [hK2.block k ⟨hT.1, ?_⟩ (by omega), hK.block k hT hk]
    rcases hO with e | ⟨q, e, h⟩
    · rw [e]; exact hT.2.1
    · rw [e]; intro e9; cases e9; omega
  · rcases hO2 with e | ⟨q, e, h⟩
    · rw [e]; exact hO
    · exact .inr ⟨q, e, by omega⟩
theorem rd_empty (w : World) (T : Nat → Prop) (size : Nat) (A : Option Addr) : Rd w T size (.slice A 0 0) 0 [] := ⟨by simp, A, 0, rfl, Nat.le_refl _, by simp [maxLen], fun h => by simp at h⟩
theorem own_style {m : Nat} {wl wr wz : World} {vo vo' : Value} {n : Nat} {ty : TypeId} {cs : Array Value} (hn : vo.ownBlock ≠ some n) (hl : n < wl.heap.size) (h2 : n ≠ m) (hO : vo'.ownBlock = vo.ownBlock ∨ ∃ q, vo'.ownBlock = some q ∧ wl.heap.size ≤ q)
    (hK2 : Keeps (OutT m vo') wr wz) (h : Holds wr n ty cs) : Holds wz n ty cs := by
  refine hK2.holds ⟨h2, ?_⟩ h
  rcases hO with e | ⟨q, e, h⟩
  · rw [e]; exact hn
  · rw [e]; intro e9; cases e9; omega

set_option maxRecDepth 20000 in
set_option maxHeartbeats 16000000 in
theorem walk_made (vt a' b' c' : Value) (g : Gram) (t : List Node) (w : World) (m : Nat) (h4 : t.length ≤ 100000) (hg : rightB g = true) (hT : Tree t) (i : Nat) (hi : i < t.length) (hl : isText t i = false) (hN : Nds w (Old w) vt t) (HG : GramIs w (Old w) a' b' c' g)
    (ih : ∀ q, q < t.length → sz t q < sz t i → WalkOk w m vt (gramCells a' b' c' g) g t q) (hcs : t[i].kind = 2 ∧ 0 ≤ t[i].n ∧ t[i].n < g.prods.length) : WalkOk w m vt (gramCells a' b' c' g) g t i := by
  intro W vo HW
  obtain ⟨b, off, c, rfl, hc1, hc2, hTb, hat⟩ := hN.open_ (by intro e; subst e; simp at hi)
  unfold maxLen at hc2
  have hTb : b < w.heap.size := hTb
  have HAtW := hidden (fun (W' : World) (hb : Below w.heap.size w W') k x (hx : t[k]? = some x) => by
    obtain ⟨b1, o1, c1, hv, _, _, _, hat1⟩ := (hN.old hb).open_ (by intro e; subst e; simp at hi)
    simp only [Value.slice.injEq, Option.some.injEq, Addr.mk.injEq] at hv
    obtain ⟨⟨rfl, rfl, _⟩, _, _⟩ := hv
    exact hat1 k x hx)
  have HKd := hidden (fun (W' : World) (hb : Below w.heap.size w W') => arena_Kids _ t (i : Int) W' (by omega) (hN.old hb))
  have hko : kidsOf t (i : Int) = kidsL t i := by
    unfold kidsOf
    rw [if_pos (placeB_iff.2 ⟨by omega, by omega, hT⟩), Int.toNat_natCast]
  rw [hko] at HKd
  have hx := List.getElem?_eq_getElem hi
  have hnk : ¬ textedK t[i].kind := by unfold isText at hl; rw [hx] at hl; simpa using hl
  have hk3 : ¬ t[i].kind = 3 := fun e => hnk (Or.inl e)
  have hk4 : ¬ t[i].kind = 4 := fun e => hnk (Or.inr e)
  have hni := tree_node hT hi
  have hkl : (kidsL t i).length ≤ t.length := by
    have := kidsFrom_len t (i + sz t i) _ (i + 1) (Nat.le_refl _)
    unfold kidsL
    omega
  have HWl := hidden (fun k q (hq : i < q) h hk => kids_walk (k := k) (q := q) hT hi hq h hk)
  have HDn := hidden (fun k q (hq : q ≤ i + sz t i) h hk => kids_done (t := t) (i := i) (k := k) (q := q) hq h hk)
  have HIk := hidden (fun k x h => item_kid (g := g) (k := k) (x := x) hT hi h)
  have HCs := hidden (fun k x h => cntTo_succ (t := t) (L := kidsL t i) (k := k) (x := x) h)
  have HL0 : Hid ((kidsL t i).drop 0 = kidsFrom t (i + sz t i) (i + 1)) := hidden rfl
  have HC0 : Hid (cntTo t (kidsL t i) 0 = 0) := hidden (by unfold cntTo; simp)
  have HIh := hidden ih
  have HGp := hidden (fun k (h : upN t k k = (i : Int)) => gapUp_kid (g := g) h)
  have HIn := hidden (fun k (h : upN t k k = (i : Int)) => inUp_some (g := g) h)
  have hgi := gapUp_nonneg g t i i
  have hii := inUp_bounds hg t i
  have HIb := hidden (fun (k : Nat) (p : Prod) h (x : Item) hx => right_items hg (i := k) (p := p) h (x := x) hx)
  have HWh := hidden HW
  have hPi : (placesIn g t 0 i).length ≤ i := by have := placesIn_le (g := g) (t := t) (a := 0) (b := i); omega
  have HPl := hidden (fun q (h : i ≤ q) => (by rw [placesIn_split (g := g) (t := t) (a := 0) (b := i) (c := q) (by omega) h, List.length_append] : (placesIn g t 0 q).length = (placesIn g t 0 i).length + (placesIn g t i q).length))
  have HPn := hidden (fun q => placesIn_len (g := g) (t := t) (a := i) (b := q))
  have HPr : Hid (∀ (n : Nat) (p : Prod), t[i].kind = 2 → t[i].n = (n : Int) → g.prods[n]? = some p → rightAt g t i = p.right) := hidden (fun n p h1 h2 h3 => by
    unfold rightAt prodAt
    rw [hx]
    dsimp only
    rw [if_pos ⟨h1, by omega⟩, h2, Int.toNat_natCast, h3])
  have HPz : Hid (t[i].kind ≠ 2 ∨ t[i].n < 0 ∨ (g.prods.length : Int) ≤ t[i].n → rightAt g t i = []) := hidden (fun h => by
    unfold rightAt prodAt
    rw [hx]
    dsimp only
    split
    · rename_i p hp
      split at hp
      · have := (List.getElem?_eq_some_iff.1 hp).1
        omega
      · cases hp
    · rfl)
  have HRb : Hid (∀ x ∈ rightAt g t i, 0 ≤ x.gap ∧ x.gap ≤ 2 ∧ 0 ≤ x.in_ ∧ x.in_ ≤ 8) := hidden (fun x hx => by
    unfold rightAt at hx
    split at hx
    · rename_i p hp
      unfold prodAt at hp
      split at hp
      · split at hp
        · exact right_items hg hp hx
        · cases hp
      · cases hp
    · cases hx)
  obtain ⟨lv, x0, x1, x2, x3, x4, x5⟩ := HAtW.out W HW.below i _ hx
  obtain ⟨A5, c5, rfl, _, _⟩ := x5.val
  have hG := HG
  obtain ⟨A1, k1, rfl, v1, m1⟩ := HG.1.value
  obtain ⟨A2, k2, rfl, v2, m2⟩ := HG.2.1.val
  obtain ⟨A3, k3, rfl, v3, m3⟩ := HG.2.2.value
  unfold maxLen at m3
  have HRc := hidden HG.2.2
  have h0 : W.cell? ⟨w.heap.size + 1, 0, none⟩ = some (.slice (some ⟨b, off, none⟩) t.length c) := HW.ht.cell 0
  have hT0 := HW.ht.lt; have hO0 := HW.ho.lt; have hF0 := HW.hw.lt
  have hbs := HW.size
  have hle := HW.le
  have hbz := HW.below.size
  obtain ⟨A0, c0, rfl⟩ := HW.mine.value
  have h1 : W.cell? ⟨m, 0, none⟩ = some (.slice A0 (placesIn g t 0 i).length c0) := HW.ho.cell 0
  obtain ⟨g0, g1, g2, g3, g4, g5, g6, g7⟩ := gram_cells HW.hg
  have hbb : b < W.heap.size := by omega
  have hG0 : w.heap.size < W.heap.size := by omega
  clear hat hx hN HG hko hnk HW ih hg HIb hG x5
  unfold walkArgs
  generalize hx9 : t[i] = x at *
  clear hx9
  obtain ⟨p1, p2, p3⟩ := hcs
  obtain ⟨nx, hnx⟩ := Int.eq_ofNat_of_zero_le p2
  rw [hnx] at p3 x1
  have hnl : nx < g.prods.length := by omega
  have hpr := List.getElem?_eq_getElem hnl
  have HRi := hidden (HPr.out nx _ p1 hnx hpr)
  rw [p1] at x0
  obtain ⟨b6, o6, l6, rfl, hT6, hat6, hrt⟩ := HRc.out.at_ hpr
  generalize g.prods[nx] = p at *
  have hT6 : b6 < w.heap.size := hT6
  have hT6' : b6 < W.heap.size := by omega
  have y1 : w.cell? ⟨b6, o6 + nx * 2 + 1, none⟩ = some l6 := hat6 1 _ rfl
  have hrt : Rd w (Old w) 4 l6 p.right.length (p.right.flatMap itCells) := hrt
  obtain ⟨A7, c7, rfl, v7, m7⟩ := hrt.val
  have HRt := hidden hrt
  have y1' := Ext.cell y1 ⟨W, HWh.out.below⟩
  have y1' : W.cell? ⟨b6, o6 + nx * 2 + 1, none⟩ = some (.slice A7 p.right.length c7) := y1'
  clear hat6 hrt hpr HPr HPz HRc y1
  have q0 : decide (nx < g.prods.length) = true := by simp; omega
  have q1 : decide (0 ≤ (nx : Int)) = true := by simp
  go_enter Try.func59, Try.ntmps59
  go_wp2_with fail
  refine (HKd.out _ ((HWh.out.below.alloc hbz _).alloc (by simp; omega) _)).mono ?_
  rintro r wl ⟨⟨u5, rfl, HM5⟩, hb5⟩
  have hz5 := hb5.size
  simp only [World.size_alloc] at hz5
  have HWs : Hid (WalkAt w m (.slice (some ⟨b, off, none⟩) t.length c) (gramCells (.slice A1 g.toks.length k1) (.slice A2 g.rules.length k2) (.slice (some ⟨b6, o6, none⟩) g.prods.length k3) g) g t wl (.slice A0 (placesIn g t 0 i).length c0) (i + 1)) := hidden (((HWh.out.later (((Below.refl _ _).alloc (Nat.le_refl _) _).alloc (by simp) _)).later hb5).skip hl)
  have HSt : Hid (Holds wl W.heap.size 139 #[.int .i64 (gapUp g t i i), .int .i64 (inUp g t i)]) := hidden (((Holds.new W _ _).alloc _).below hb5 (by simp; omega))
  have hWl0 : W.heap.size + 2 ≤ wl.heap.size := by omega
  have HRow := hidden (HM5.out.rd (T := FrT m W (.slice A0 (placesIn g t 0 i).length c0)) (fun q hq h1 h2 => by
    simp only [World.size_alloc] at h1
    exact ⟨by omega, fun e => by have := HWh.out.own q e; omega, by omega⟩))
  have hown : (Value.slice A0 (placesIn g t 0 i).length c0).ownBlock ≠ some W.heap.size := fun e => by have := HWh.out.own _ e; omega
  obtain ⟨A8, c8, rfl, hd1, hd2⟩ := HRow.out.val
  unfold maxLen at hd2
  have HLt := hidden (fun (W' : World) (hk : Keeps (FrT m W (.slice A0 (placesIn g t 0 i).length c0)) wl W') k l (h : (kidsL t i)[k]? = some l) => Rd.ints_at (Rd.keeps HRow.out hk) h)
  have hbl : Below W.heap.size W wl := ((((Below.refl _ _).alloc (Nat.le_refl _) _).alloc (by simp) _)).trans (hb5.mono (by simp; omega))
  clear hb5 HRow HM5 HKd x0 x1 x2 x3 x4 h0 h1 g0 g1 g2 g3 g4 g5 g6 g7
  go_wp2
  go_loopg [9, 63] (kidsL t i).length (fun gh it ix wr => ∃ (k q : Nat) (vo' : Value) (gp : Int) (its : List Item), k ≤ (kidsL t i).length ∧ gh = (kidsL t i).length - k ∧ ix = .int .i64 k ∧ i < q ∧ q ≤ i + sz t i ∧ Hid ((kidsL t i).drop k = kidsFrom t (i + sz t i) q) ∧ Hid (WalkAt w m (.slice (some ⟨b, off, none⟩) t.length c) (gramCells (.slice A1 g.toks.length k1) (.slice A2 g.rules.length k2) (.slice (some ⟨b6, o6, none⟩) g.prods.length k3) g) g t wr vo' q) ∧ Hid (Holds wr W.heap.size 139 #[.int .i64 gp, .int .i64 (inUp g t i)]) ∧ Hid (noLeaf t i q = true → gp = gapUp g t i i) ∧ Hid (its = (rightAt g t i).drop (cntTo t (kidsL t i) k)) ∧ Hid (Rd w (Old w) 4 it its.length (its.flatMap itCells)) ∧ Hid (Keeps (FrT m W (.slice A0 (placesIn g t 0 i).length c0)) wl wr) ∧ Hid (vo'.ownBlock = (Value.slice A0 (placesIn g t 0 i).length c0).ownBlock ∨ ∃ z, vo'.ownBlock = some z ∧ wl.heap.size ≤ z))
  case atStart => exact ⟨0, i + 1, _, _, rightAt g t i, by omega, by omega, by go_num, by omega, by omega, HL0, HWs, HSt, hidden (fun _ => rfl), hidden (by rw [HC0.out, List.drop_zero]), by rw [HRi.out]; exact HRt, hidden (Keeps.refl _ _), hidden (.inl rfl)⟩
  case round =>
    clear HWs HSt HL0 HC0
    obtain ⟨k, q, vo', gp, its, hk, rfl, rfl, hiq, hqe, HD, HW, HSt, HGq, HIts, HRi9, HK, HO⟩ := hrel
    by_cases hlt : k < (kidsL t i).length
    · obtain ⟨e1, e2, e3, e4, e5, e6, e7, e8⟩ := HWl.out k q hiq HD.out hlt
      obtain ⟨b5, o5, rfl, hT5, l0⟩ := HLt.out wr HK.out k q e2
      obtain ⟨lq, z0, _, _, _, _, _⟩ := HAtW.out wr HW.out.below q _ (List.getElem?_eq_getElem e3)
      have HBq : Hid (badAt t q = decide (t[q].kind = 4)) := hidden (by unfold badAt; rw [List.getElem?_eq_getElem e3])
      have HIq := hidden (HIk.out k q e2)
      have HCq := hidden (HCs.out k q e2)
      have HCall := hidden (fun W9 h9 => HIh.out q e3 e6 W9 vo' h9)
      have HGk := hidden (HGp.out q e7)
      have HIk9 := hidden (HIn.out q e7)
      have HD2 := hidden e8
      have h0 : wr.cell? ⟨w.heap.size + 1, 0, none⟩ = some (.slice (some ⟨b, off, none⟩) t.length c) := HW.out.ht.cell 0
      have h3 : wr.cell? ⟨m + 1, 0, none⟩ = some (.func (.func 59) #[] #[.pointer (some ⟨w.heap.size + 1, 0, none⟩), .pointer (some ⟨m, 0, none⟩), .pointer (some ⟨w.heap.size, 0, none⟩), .pointer (some ⟨m + 1, 0, none⟩)]) := HW.out.hw.cell 0
      obtain ⟨A9, c9, rfl⟩ := HW.out.mine.value
      have h1 : wr.cell? ⟨m, 0, none⟩ = some (.slice A9 (placesIn g t 0 q).length c9) := HW.out.ho.cell 0
      have s0 : wr.cell? ⟨W.heap.size, 0, none⟩ = some (.int .i64 gp) := HSt.out.cell 0
      have s1 : wr.cell? ⟨W.heap.size, 1, none⟩ = some (.int .i64 (inUp g t i)) := HSt.out.cell 1
      have s2 : wr.frozen? ⟨W.heap.size, 0, none⟩ = false := HSt.out.frozen 0
      have hSl := HSt.out.lt
      have hle := HPl.out q (by omega)
      have hn0 := HPn.out q
      have hpq : (placesIn g t 0 q).length ≤ q := by have := placesIn_le (g := g) (t := t) (a := 0) (b := q); omega
      have hov : (Value.slice A9 (placesIn g t 0 q).length c9).ownBlock ≠ some W.heap.size := by rcases HO.out with e | ⟨z, e, h⟩ <;> rw [e]; exact hown; intro e9; cases e9; omega
      generalize hkq : t[q].kind = kq at *
      clear e2 e7 e8 HIh HIk HCs HWl HLt HAtW HGp HIn HPl HPn hkq
      cases hno : noLeaf t i q with
      | true =>
        have hle2 : (placesIn g t 0 q).length = (placesIn g t 0 i).length := by have := hn0.2 hno; omega
        have qA : decide ((placesIn g t 0 i).length < (placesIn g t 0 q).length) = false := by simp; omega
        have hgk : gp = gapUp g t i i := HGq.out hno
        have HGk2 : Hid (gapUp g t q q = max (gapIt g t q) gp) := hidden (by rw [HGk.out, hno, if_pos rfl, hgk])
        have hgp0 : 0 ≤ gp := by omega
        have HW9 := HW
        have HS9 : Hid (Holds wr W.heap.size 139 #[.int .i64 gp, .int .i64 (inUp g t i)]) := HSt
        have HK9 : Hid (Keeps (FrT m W (.slice A0 (placesIn g t 0 i).length c0)) wl wr) := HK
        generalize gp = gk at *
        have HGz0 : Hid (noLeaf t i (q + sz t q) = true → gk = gapUp g t i i) := hidden (fun h => by
          rw [noLeaf_split (a := i) (b := q) (c := q + sz t q) (by omega) (by omega), Bool.and_eq_true, hno] at h
          exact hgk)
        have HS9 : Hid (Holds wr W.heap.size 139 #[.int .i64 gk, .int .i64 (inUp g t i)]) := HS9
        clear HGk HGq hno hn0 hle HSt HK
        have HGK := hidden hgk
        clear hgk
        by_cases hb4 : kq = 4
        · have hbt : badAt t q = true := by rw [HBq.out]; simpa using hb4
          have q2 : (kq == 4) = true := by simpa using hb4
          have hin : itemOf g t q = none := by rw [HIq.out, if_pos hbt]
          have HIts2 : its = (rightAt g t i).drop (cntTo t (kidsL t i) (k + 1)) := by rw [HIts.out, HCq.out, if_pos hbt, Nat.add_zero]
          have HRt2 := HRi9
          obtain ⟨A6, c6, rfl, hu1, hu2⟩ := HRi9.out.val
          have hgq : gapUp g t q q = gk := by rw [HGk2.out]; unfold gapIt; rw [hin]; simp only [itemD, zeroIt]; omega
          have hiq9 : inUp g t q = inUp g t i := by rw [HIk9.out]; unfold inIt; rw [hin]; simp only [itemD, zeroIt]; omega
          have HC9 : Hid (Calls Try.prog 59 #[.int .i64 (q : Int), .agg #[.int .i64 gk, .int .i64 (inUp g t i)], .pointer (some ⟨w.heap.size + 1, 0, none⟩), .pointer (some ⟨m, 0, none⟩), .pointer (some ⟨w.heap.size, 0, none⟩), .pointer (some ⟨m + 1, 0, none⟩)] wr fun r W' => r = .returned (.tuple #[]) ∧ ∃ vo', Hid (WalkAt w m (.slice (some ⟨b, off, none⟩) t.length c) (gramCells (.slice A1 g.toks.length k1) (.slice A2 g.rules.length k2) (.slice (some ⟨b6, o6, none⟩) g.prods.length k3) g) g t W' vo' (q + sz t q)) ∧ Hid (Keeps (OutT m (.slice A9 (placesIn g t 0 q).length c9)) wr W') ∧ Hid (vo'.ownBlock = (Value.slice A9 (placesIn g t 0 q).length c9).ownBlock ∨ ∃ z, vo'.ownBlock = some z ∧ (wr).heap.size ≤ z)) := hidden (by
            have := HCall.out _ HW9.out
            unfold walkArgs at this
            rw [hgq, hiq9] at this
            exact this)
          clear hgq hiq9 hin HIts HIq HCq HGk2 HIk9 HCall HRi9
          go_wp2_with fail
          refine HC9.out.mono ?_
          rintro r wz ⟨rfl, vz, HWz, HKz, HOz⟩
          have HN12 := hidden (frame_next HK9.out HO.out HKz.out HOz.out)
          have HIts9 := hidden HIts2
          clear HIts2
          have HSz := hidden (own_style hown (by omega) (by omega) HO.out HKz.out HS9.out)
          clear HKz HOz HS9 HK9 HO h0 h1 h3 s0 s1 s2
          go_wp2
          go_roundg ((kidsL t i).length - (k + 1))
          case measure => omega
          case rel => exact ⟨k + 1, q + sz t q, vz, gk, _, by omega, rfl, by go_num, by omega, by omega, HD2, HWz, HSz, HGz0, HIts9, HRt2, hidden HN12.out.1, hidden HN12.out.2⟩
        · have hbt : badAt t q = false := by rw [HBq.out]; simpa using hb4
          have q2 : (kq == 4) = false := by simpa using hb4
          cases its with
          | nil =>
            have hdr : (rightAt g t i).length ≤ cntTo t (kidsL t i) k := by have := HIts.out; rwa [eq_comm, List.drop_eq_nil_iff] at this
            have hin : itemOf g t q = none := by rw [HIq.out, if_neg (by rw [hbt]; decide)]; exact List.getElem?_eq_none hdr
            have HIts2 : [] = (rightAt g t i).drop (cntTo t (kidsL t i) (k + 1)) := by rw [HCq.out, if_neg (by rw [hbt]; decide), eq_comm, List.drop_eq_nil_iff]; omega
            have HRt2 := HRi9
            obtain ⟨A6, c6, hv6, hu1, hu2⟩ := HRi9.out.val
            rw [List.length_nil] at hv6
            subst hv6
            have hgq : gapUp g t q q = gk := by rw [HGk2.out]; unfold gapIt; rw [hin]; simp only [itemD, zeroIt]; omega
            have hiq9 : inUp g t q = inUp g t i := by rw [HIk9.out]; unfold inIt; rw [hin]; simp only [itemD, zeroIt]; omega
            have HC9 : Hid (Calls Try.prog 59 #[.int .i64 (q : Int), .agg #[.int .i64 gk, .int .i64 (inUp g t i)], .pointer (some ⟨w.heap.size + 1, 0, none⟩), .pointer (some ⟨m, 0, none⟩), .pointer (some ⟨w.heap.size, 0, none⟩), .pointer (some ⟨m + 1, 0, none⟩)] wr fun r W' => r = .returned (.tuple #[]) ∧ ∃ vo', Hid (WalkAt w m (.slice (some ⟨b, off, none⟩) t.length c) (gramCells (.slice A1 g.toks.length k1) (.slice A2 g.rules.length k2) (.slice (some ⟨b6, o6, none⟩) g.prods.length k3) g) g t W' vo' (q + sz t q)) ∧ Hid (Keeps (OutT m (.slice A9 (placesIn g t 0 q).length c9)) wr W') ∧ Hid (vo'.ownBlock = (Value.slice A9 (placesIn g t 0 q).length c9).ownBlock ∨ ∃ z, vo'.ownBlock = some z ∧ (wr).heap.size ≤ z)) := hidden (by
              have := HCall.out _ HW9.out
              unfold walkArgs at this
              rw [hgq, hiq9] at this
              exact this)
            clear hgq hiq9 hin HIts HIq HCq HGk2 HIk9 HCall HRi9
            go_wp2_with fail
            refine HC9.out.mono ?_
            rintro r wz ⟨rfl, vz, HWz, HKz, HOz⟩
            have HN12 := hidden (frame_next HK9.out HO.out HKz.out HOz.out)
            have HIts9 := hidden HIts2
            clear HIts2
            have HSz := hidden (own_style hown (by omega) (by omega) HO.out HKz.out HS9.out)
            clear HKz HOz HS9 HK9 HO h0 h1 h3 s0 s1 s2
            go_wp2
            go_roundg ((kidsL t i).length - (k + 1))
            case measure => omega
            case rel => exact ⟨k + 1, q + sz t q, vz, gk, _, by omega, rfl, by go_num, by omega, by omega, HD2, HWz, HSz, HGz0, HIts9, HRt2, hidden HN12.out.1, hidden HN12.out.2⟩
          | cons it its =>
            have hdr : (rightAt g t i).drop (cntTo t (kidsL t i) k) = it :: its := HIts.out.symm
            have hit : (rightAt g t i)[cntTo t (kidsL t i) k]? = some it := by have := congrArg List.head? hdr; rwa [List.head?_drop] at this
            have HIts2 : its = (rightAt g t i).drop (cntTo t (kidsL t i) (k + 1)) := by
              rw [HCq.out, if_neg (by rw [hbt]; decide)]
              have := congrArg List.tail hdr
              rw [List.tail_drop] at this
              exact this.symm
            have hin : itemOf g t q = some it := by rw [HIq.out, if_neg (by rw [hbt]; decide)]; exact hit
            obtain ⟨r1, r2, r3, r4⟩ := HRb.out it (List.mem_of_getElem? hit)
            have hgq : gapUp g t q q = (plusS gk (inUp g t i) it).1 := by rw [HGk2.out, plusS_kid hgp0 r1]; unfold gapIt; rw [hin]; rfl
            have hiq9 : inUp g t q = (plusS gk (inUp g t i) it).2 := by rw [HIk9.out, plusS_kid hgp0 r1]; unfold inIt; rw [hin]; rfl
            have hwp : IntKind.i64.wrap (inUp g t i + it.in_) = inUp g t i + it.in_ := IntWalk.i64_in _ (by omega)
            have HPlus := hidden (fun w' => style_plus gk (inUp g t i) it w' hwp)
            have HC9 := hidden (fun W5 (hb5 : Below (wr).heap.size wr W5) => (by
              have := HCall.out _ (HW9.out.later hb5)
              unfold walkArgs at this
              rw [hgq, hiq9] at this
              exact this : Calls Try.prog 59 #[.int .i64 (q : Int), .agg #[.int .i64 (plusS gk (inUp g t i) it).1, .int .i64 (plusS gk (inUp g t i) it).2], .pointer (some ⟨w.heap.size + 1, 0, none⟩), .pointer (some ⟨m, 0, none⟩), .pointer (some ⟨w.heap.size, 0, none⟩), .pointer (some ⟨m + 1, 0, none⟩)] W5 fun r W' => r = .returned (.tuple #[]) ∧ ∃ vo', Hid (WalkAt w m (.slice (some ⟨b, off, none⟩) t.length c) (gramCells (.slice A1 g.toks.length k1) (.slice A2 g.rules.length k2) (.slice (some ⟨b6, o6, none⟩) g.prods.length k3) g) g t W' vo' (q + sz t q)) ∧ Hid (Keeps (OutT m (.slice A9 (placesIn g t 0 q).length c9)) W5 W') ∧ Hid (vo'.ownBlock = (Value.slice A9 (placesIn g t 0 q).length c9).ownBlock ∨ ∃ z, vo'.ownBlock = some z ∧ (W5).heap.size ≤ z)))
            obtain ⟨A6, c6, rfl, hu1, hu2⟩ := HRi9.out.val
            unfold maxLen at hu2
            obtain ⟨b7, o7, rfl, hT7, hit7⟩ := HRi9.out.flat_at (fun _ => rfl) (by decide) (show (it :: its)[0]? = some it from rfl)
            have i0 := hit7 0 _ rfl; have i1 := hit7 1 _ rfl; have i2 := hit7 2 _ rfl; have i3 := hit7 3 _ rfl
            simp only [Nat.zero_mul, Nat.add_zero] at i0 i1 i2 i3
            have hb79 := HW9.out.below
            replace i0 := cell_on i0 hb79; replace i1 := cell_on i1 hb79; replace i2 := cell_on i2 hb79; replace i3 := cell_on i3 hb79
            have HRd := hidden (rd_drop HRi9.out (i := 1) (by rw [List.length_cons]; omega))
            have h3' : (wr).cell? ⟨m + 1, 0, none⟩ = some (.func (.func 59) #[] #[.pointer (some ⟨w.heap.size + 1, 0, none⟩), .pointer (some ⟨m, 0, none⟩), .pointer (some ⟨w.heap.size, 0, none⟩), .pointer (some ⟨m + 1, 0, none⟩)]) := HW9.out.hw.cell 0
            have s0' : (wr).cell? ⟨W.heap.size, 0, none⟩ = some (.int .i64 gk) := HS9.out.cell 0
            have s1' : (wr).cell? ⟨W.heap.size, 1, none⟩ = some (.int .i64 (inUp g t i)) := HS9.out.cell 1
            have t0 := Ext.cell i0; have t1 := Ext.cell i1; have t2 := Ext.cell i2; have t3 := Ext.cell i3; have t4 := Ext.cell h3'; have t5 := Ext.cell s0'; have t6 := Ext.cell s1'
            have HE : Hid ((it :: its).length = its.length + 1 ∧ (it :: its).flatMap itCells = itCells it ++ its.flatMap itCells) := hidden ⟨rfl, rfl⟩
            generalize hn7 : (it :: its).length = n7 at *
            have q3 : ((n7 : Int) == 0) = false := by simp; intro e; rw [e] at hn7; simp at hn7
            have q4 : 0 < n7 := by rw [← hn7]; simp
            have HN7 := hidden hn7
            clear hn7 hgq hiq9 hin HIts HIq HCq HGk2 HIk9 HCall HRi9 hdr hit hit7 i0 i1 i2 i3 h3' s0' s1' hb79 hwp r1 r2 r3 r4
            generalize plusS gk (inUp g t i) it = pls at *
            go_wp2_with fail
            refine (wpIn_wide (n := 5)).1 ?_
            refine wpIn_region_ext_tail 7 (by kernel_rfl) (by kernel_rfl) rfl ?_
            simp only [List.take_succ_cons, List.take_zero, List.drop_succ_cons, List.drop_zero]
            repeat (gi_big_quiet_step ((gi_at_call 61; exact Ext.callIn (callsIn_wide.2 (HPlus.out _)))))
            refine wpQuietIn_nil ?_
            intro w5 hb5
            clear t0 t1 t2 t3 t4 t5 t6 HPlus
            have HS5 := hidden (HS9.out.below hb5 HS9.out.lt)
            have HK5 : Hid (Keeps (FrT m W (.slice A0 (placesIn g t 0 i).length c0)) wl w5) := hidden (HK9.out.trans ⟨hb5.size, fun j _ hl => hb5.block j hl⟩)
            have HC5 := hidden (HC9.out w5 hb5)
            have h5z := hb5.size
            clear HC9 HS9 HK9 HW9 hb5 h0 h1 h3 s0 s1 s2 HW l0 z0
            gi_wp2_with fail
            refine CallsIn.mono (F := Fence.wide) (callsIn_wide.2 HC5.out) ?_
            rintro r wz ⟨rfl, vz, HWz, HKz, HOz⟩
            have HN12 := hidden (frame_next HK5.out HO.out HKz.out HOz.out)
            have HIts9 := hidden HIts2
            have HSz := hidden (own_style hown (by omega) (by omega) HO.out HKz.out HS5.out)
            clear HIts2 HKz HOz HS5 HK5 HO HC5
            go_wp2_with fail
            refine wpListIn_nil ?_
            have hln : n7 - 1 = its.length := by rw [← HN7.out]; rfl
            have HLn := hidden hln
            by_cases hc6 : c6 = 1
            · have HRt2 : Hid (Rd w (Old w) 4 (.slice (some ⟨b7, o7, none⟩) (n7 - 1) 0) its.length (its.flatMap itCells)) := hidden (by
                have e0 : its = [] := List.eq_nil_of_length_eq_zero (by omega)
                rw [hln]
                subst e0
                exact rd_empty _ _ _ _)
              clear hln
              go_wp2
              go_roundg ((kidsL t i).length - (k + 1))
              case measure => omega
              case rel => exact ⟨k + 1, q + sz t q, vz, gk, its, by omega, rfl, by go_num, by omega, by omega, HD2, HWz, HSz, HGz0, HIts9, HRt2, hidden HN12.out.1, hidden HN12.out.2⟩
            · have HRt2 : Hid (Rd w (Old w) 4 (.slice (some ⟨b7, o7 + 4, none⟩) (n7 - 1) (c6 - 1)) its.length (its.flatMap itCells)) := hidden (by
                have := HRd.out
                rw [hln] at this ⊢
                exact this)
              clear hln
              go_wp2
              go_roundg ((kidsL t i).length - (k + 1))
              case measure => omega
              case rel => exact ⟨k + 1, q + sz t q, vz, gk, its, by omega, rfl, by go_num, by omega, by omega, HD2, HWz, HSz, HGz0, HIts9, HRt2, hidden HN12.out.1, hidden HN12.out.2⟩
      | false =>
        have hne : (placesIn g t i q).length ≠ 0 := fun e => by have := hn0.1 e; rw [hno] at this; cases this
        have qA : decide ((placesIn g t 0 i).length < (placesIn g t 0 q).length) = true := by simp; omega
        have HGk2 : Hid (gapUp g t q q = max (gapIt g t q) 0) := hidden (by rw [HGk.out, hno, if_neg (by decide)])
        obtain ⟨gk, hgk⟩ : ∃ gk : Int, gk = 0 := ⟨0, rfl⟩
        have hgp0 : 0 ≤ gk := by omega
        rw [← hgk] at HGk2
        have HW9 := hidden (HW.out.set (B := W.heap.size) (by omega) hov 0 (.int .i64 0))
        have HS9 : Hid (Holds (wr.setCell ⟨W.heap.size, 0, none⟩ (.int .i64 0)) W.heap.size 139 #[.int .i64 0, .int .i64 (inUp g t i)]) := hidden ((HSt.out.set 0 (.int .i64 0)).of_eq rfl)
        have HK9 : Hid (Keeps (FrT m W (.slice A0 (placesIn g t 0 i).length c0)) wl (wr.setCell ⟨W.heap.size, 0, none⟩ (.int .i64 0))) := hidden (HK.out.trans ⟨by simp, fun j hj hl => Below.heap_setCell _ _ _ _ (by dsimp only; exact hj.2.2)⟩)
        have HGz0 : Hid (noLeaf t i (q + sz t q) = true → gk = gapUp g t i i) := hidden (fun h => by
          rw [noLeaf_split (a := i) (b := q) (c := q + sz t q) (by omega) (by omega), Bool.and_eq_true, hno] at h
          cases h.1)
        have HS9 : Hid (Holds (wr.setCell ⟨W.heap.size, 0, none⟩ (.int .i64 0)) W.heap.size 139 #[.int .i64 gk, .int .i64 (inUp g t i)]) := by rw [hgk]; exact HS9
        clear HGk HGq hno hn0 hle HSt HK
        have HGK := hidden hgk
        clear hgk
        by_cases hb4 : kq = 4
        · have hbt : badAt t q = true := by rw [HBq.out]; simpa using hb4
          have q2 : (kq == 4) = true := by simpa using hb4
          have hin : itemOf g t q = none := by rw [HIq.out, if_pos hbt]
          have HIts2 : its = (rightAt g t i).drop (cntTo t (kidsL t i) (k + 1)) := by rw [HIts.out, HCq.out, if_pos hbt, Nat.add_zero]
          have HRt2 := HRi9
          obtain ⟨A6, c6, rfl, hu1, hu2⟩ := HRi9.out.val
          have hgq : gapUp g t q q = gk := by rw [HGk2.out]; unfold gapIt; rw [hin]; simp only [itemD, zeroIt]; omega
          have hiq9 : inUp g t q = inUp g t i := by rw [HIk9.out]; unfold inIt; rw [hin]; simp only [itemD, zeroIt]; omega
          have HC9 : Hid (Calls Try.prog 59 #[.int .i64 (q : Int), .agg #[.int .i64 0, .int .i64 (inUp g t i)], .pointer (some ⟨w.heap.size + 1, 0, none⟩), .pointer (some ⟨m, 0, none⟩), .pointer (some ⟨w.heap.size, 0, none⟩), .pointer (some ⟨m + 1, 0, none⟩)] (wr.setCell ⟨W.heap.size, 0, none⟩ (.int .i64 0)) fun r W' => r = .returned (.tuple #[]) ∧ ∃ vo', Hid (WalkAt w m (.slice (some ⟨b, off, none⟩) t.length c) (gramCells (.slice A1 g.toks.length k1) (.slice A2 g.rules.length k2) (.slice (some ⟨b6, o6, none⟩) g.prods.length k3) g) g t W' vo' (q + sz t q)) ∧ Hid (Keeps (OutT m (.slice A9 (placesIn g t 0 q).length c9)) (wr.setCell ⟨W.heap.size, 0, none⟩ (.int .i64 0)) W') ∧ Hid (vo'.ownBlock = (Value.slice A9 (placesIn g t 0 q).length c9).ownBlock ∨ ∃ z, vo'.ownBlock = some z ∧ ((wr.setCell ⟨W.heap.size, 0, none⟩ (.int .i64 0))).heap.size ≤ z)) := hidden (by
            have := HCall.out _ HW9.out
            unfold walkArgs at this
            rw [hgq, hiq9, HGK.out] at this
            exact this)
          clear hgq hiq9 hin HIts HIq HCq HGk2 HIk9 HCall HRi9
          go_wp2_with fail
          refine HC9.out.mono ?_
          rintro r wz ⟨rfl, vz, HWz, HKz, HOz⟩
          have HN12 := hidden (frame_next HK9.out HO.out HKz.out HOz.out)
          have HIts9 := hidden HIts2
          clear HIts2
          have HSz := hidden (own_style hown (by omega) (by omega) HO.out HKz.out HS9.out)
          clear HKz HOz HS9 HK9 HO h0 h1 h3 s0 s1 s2
          go_wp2
          go_roundg ((kidsL t i).length - (k + 1))
          case measure => omega
          case rel => exact ⟨k + 1, q + sz t q, vz, gk, _, by omega, rfl, by go_num, by omega, by omega, HD2, HWz, HSz, HGz0, HIts9, HRt2, hidden HN12.out.1, hidden HN12.out.2⟩
        · have hbt : badAt t q = false := by rw [HBq.out]; simpa using hb4
          have q2 : (kq == 4) = false := by simpa using hb4
          cases its with
          | nil =>
            have hdr : (rightAt g t i).length ≤ cntTo t (kidsL t i) k := by have := HIts.out; rwa [eq_comm, List.drop_eq_nil_iff] at this
            have hin : itemOf g t q = none := by rw [HIq.out, if_neg (by rw [hbt]; decide)]; exact List.getElem?_eq_none hdr
            have HIts2 : [] = (rightAt g t i).drop (cntTo t (kidsL t i) (k + 1)) := by rw [HCq.out, if_neg (by rw [hbt]; decide), eq_comm, List.drop_eq_nil_iff]; omega
            have HRt2 := HRi9
            obtain ⟨A6, c6, hv6, hu1, hu2⟩ := HRi9.out.val
            rw [List.length_nil] at hv6
            subst hv6
            have hgq : gapUp g t q q = gk := by rw [HGk2.out]; unfold gapIt; rw [hin]; simp only [itemD, zeroIt]; omega
            have hiq9 : inUp g t q = inUp g t i := by rw [HIk9.out]; unfold inIt; rw [hin]; simp only [itemD, zeroIt]; omega
            have HC9 : Hid (Calls Try.prog 59 #[.int .i64 (q : Int), .agg #[.int .i64 0, .int .i64 (inUp g t i)], .pointer (some ⟨w.heap.size + 1, 0, none⟩), .pointer (some ⟨m, 0, none⟩), .pointer (some ⟨w.heap.size, 0, none⟩), .pointer (some ⟨m + 1, 0, none⟩)] (wr.setCell ⟨W.heap.size, 0, none⟩ (.int .i64 0)) fun r W' => r = .returned (.tuple #[]) ∧ ∃ vo', Hid (WalkAt w m (.slice (some ⟨b, off, none⟩) t.length c) (gramCells (.slice A1 g.toks.length k1) (.slice A2 g.rules.length k2) (.slice (some ⟨b6, o6, none⟩) g.prods.length k3) g) g t W' vo' (q + sz t q)) ∧ Hid (Keeps (OutT m (.slice A9 (placesIn g t 0 q).length c9)) (wr.setCell ⟨W.heap.size, 0, none⟩ (.int .i64 0)) W') ∧ Hid (vo'.ownBlock = (Value.slice A9 (placesIn g t 0 q).length c9).ownBlock ∨ ∃ z, vo'.ownBlock = some z ∧ ((wr.setCell ⟨W.heap.size, 0, none⟩ (.int .i64 0))).heap.size ≤ z)) := hidden (by
              have := HCall.out _ HW9.out
              unfold walkArgs at this
              rw [hgq, hiq9, HGK.out] at this
              exact this)
            clear hgq hiq9 hin HIts HIq HCq HGk2 HIk9 HCall HRi9
            go_wp2_with fail
            refine HC9.out.mono ?_
            rintro r wz ⟨rfl, vz, HWz, HKz, HOz⟩
            have HN12 := hidden (frame_next HK9.out HO.out HKz.out HOz.out)
            have HIts9 := hidden HIts2
            clear HIts2
            have HSz := hidden (own_style hown (by omega) (by omega) HO.out HKz.out HS9.out)
            clear HKz HOz HS9 HK9 HO h0 h1 h3 s0 s1 s2
            go_wp2
            go_roundg ((kidsL t i).length - (k + 1))
            case measure => omega
            case rel => exact ⟨k + 1, q + sz t q, vz, gk, _, by omega, rfl, by go_num, by omega, by omega, HD2, HWz, HSz, HGz0, HIts9, HRt2, hidden HN12.out.1, hidden HN12.out.2⟩
          | cons it its =>
            have hdr : (rightAt g t i).drop (cntTo t (kidsL t i) k) = it :: its := HIts.out.symm
            have hit : (rightAt g t i)[cntTo t (kidsL t i) k]? = some it := by have := congrArg List.head? hdr; rwa [List.head?_drop] at this
            have HIts2 : its = (rightAt g t i).drop (cntTo t (kidsL t i) (k + 1)) := by
              rw [HCq.out, if_neg (by rw [hbt]; decide)]
              have := congrArg List.tail hdr
              rw [List.tail_drop] at this
              exact this.symm
            have hin : itemOf g t q = some it := by rw [HIq.out, if_neg (by rw [hbt]; decide)]; exact hit
            obtain ⟨r1, r2, r3, r4⟩ := HRb.out it (List.mem_of_getElem? hit)
            have hgq : gapUp g t q q = (plusS gk (inUp g t i) it).1 := by rw [HGk2.out, plusS_kid hgp0 r1]; unfold gapIt; rw [hin]; rfl
            have hiq9 : inUp g t q = (plusS gk (inUp g t i) it).2 := by rw [HIk9.out, plusS_kid hgp0 r1]; unfold inIt; rw [hin]; rfl
            have hwp : IntKind.i64.wrap (inUp g t i + it.in_) = inUp g t i + it.in_ := IntWalk.i64_in _ (by omega)
            have HPlus := hidden (fun w' => style_plus gk (inUp g t i) it w' hwp)
            have HC9 := hidden (fun W5 (hb5 : Below ((wr.setCell ⟨W.heap.size, 0, none⟩ (.int .i64 0))).heap.size (wr.setCell ⟨W.heap.size, 0, none⟩ (.int .i64 0)) W5) => (by
              have := HCall.out _ (HW9.out.later hb5)
              unfold walkArgs at this
              rw [hgq, hiq9] at this
              exact this : Calls Try.prog 59 #[.int .i64 (q : Int), .agg #[.int .i64 (plusS gk (inUp g t i) it).1, .int .i64 (plusS gk (inUp g t i) it).2], .pointer (some ⟨w.heap.size + 1, 0, none⟩), .pointer (some ⟨m, 0, none⟩), .pointer (some ⟨w.heap.size, 0, none⟩), .pointer (some ⟨m + 1, 0, none⟩)] W5 fun r W' => r = .returned (.tuple #[]) ∧ ∃ vo', Hid (WalkAt w m (.slice (some ⟨b, off, none⟩) t.length c) (gramCells (.slice A1 g.toks.length k1) (.slice A2 g.rules.length k2) (.slice (some ⟨b6, o6, none⟩) g.prods.length k3) g) g t W' vo' (q + sz t q)) ∧ Hid (Keeps (OutT m (.slice A9 (placesIn g t 0 q).length c9)) W5 W') ∧ Hid (vo'.ownBlock = (Value.slice A9 (placesIn g t 0 q).length c9).ownBlock ∨ ∃ z, vo'.ownBlock = some z ∧ (W5).heap.size ≤ z)))
            obtain ⟨A6, c6, rfl, hu1, hu2⟩ := HRi9.out.val
            unfold maxLen at hu2
            obtain ⟨b7, o7, rfl, hT7, hit7⟩ := HRi9.out.flat_at (fun _ => rfl) (by decide) (show (it :: its)[0]? = some it from rfl)
            have i0 := hit7 0 _ rfl; have i1 := hit7 1 _ rfl; have i2 := hit7 2 _ rfl; have i3 := hit7 3 _ rfl
            simp only [Nat.zero_mul, Nat.add_zero] at i0 i1 i2 i3
            have hb79 := HW9.out.below
            replace i0 := cell_on i0 hb79; replace i1 := cell_on i1 hb79; replace i2 := cell_on i2 hb79; replace i3 := cell_on i3 hb79
            have HRd := hidden (rd_drop HRi9.out (i := 1) (by rw [List.length_cons]; omega))
            have h3' : ((wr.setCell ⟨W.heap.size, 0, none⟩ (.int .i64 0))).cell? ⟨m + 1, 0, none⟩ = some (.func (.func 59) #[] #[.pointer (some ⟨w.heap.size + 1, 0, none⟩), .pointer (some ⟨m, 0, none⟩), .pointer (some ⟨w.heap.size, 0, none⟩), .pointer (some ⟨m + 1, 0, none⟩)]) := HW9.out.hw.cell 0
            have s0' : ((wr.setCell ⟨W.heap.size, 0, none⟩ (.int .i64 0))).cell? ⟨W.heap.size, 0, none⟩ = some (.int .i64 gk) := HS9.out.cell 0
            have s1' : ((wr.setCell ⟨W.heap.size, 0, none⟩ (.int .i64 0))).cell? ⟨W.heap.size, 1, none⟩ = some (.int .i64 (inUp g t i)) := HS9.out.cell 1
            have t0 := Ext.cell i0; have t1 := Ext.cell i1; have t2 := Ext.cell i2; have t3 := Ext.cell i3; have t4 := Ext.cell h3'; have t5 := Ext.cell s0'; have t6 := Ext.cell s1'
            have HE : Hid ((it :: its).length = its.length + 1 ∧ (it :: its).flatMap itCells = itCells it ++ its.flatMap itCells) := hidden ⟨rfl, rfl⟩
            generalize hn7 : (it :: its).length = n7 at *
            have q3 : ((n7 : Int) == 0) = false := by simp; intro e; rw [e] at hn7; simp at hn7
            have q4 : 0 < n7 := by rw [← hn7]; simp
            have HN7 := hidden hn7
            clear hn7 hgq hiq9 hin HIts HIq HCq HGk2 HIk9 HCall HRi9 hdr hit hit7 i0 i1 i2 i3 h3' s0' s1' hb79 hwp r1 r2 r3 r4
            generalize plusS gk (inUp g t i) it = pls at *
            go_wp2_with fail
            refine (wpIn_wide (n := 5)).1 ?_
            refine wpIn_region_ext_tail 7 (by kernel_rfl) (by kernel_rfl) rfl ?_
            simp only [List.take_succ_cons, List.take_zero, List.drop_succ_cons, List.drop_zero]
            repeat (gi_big_quiet_step ((gi_at_call 61; exact Ext.callIn (callsIn_wide.2 (HPlus.out _)))))
            refine wpQuietIn_nil ?_
            intro w5 hb5
            clear t0 t1 t2 t3 t4 t5 t6 HPlus
            have HS5 := hidden (HS9.out.below hb5 HS9.out.lt)
            have HK5 : Hid (Keeps (FrT m W (.slice A0 (placesIn g t 0 i).length c0)) wl w5) := hidden (HK9.out.trans ⟨hb5.size, fun j _ hl => hb5.block j hl⟩)
            have HC5 := hidden (HC9.out w5 hb5)
            have h5z := hb5.size
            clear HC9 HS9 HK9 HW9 hb5 h0 h1 h3 s0 s1 s2 HW l0 z0
            gi_wp2_with fail
            refine CallsIn.mono (F := Fence.wide) (callsIn_wide.2 HC5.out) ?_
            rintro r wz ⟨rfl, vz, HWz, HKz, HOz⟩
            have HN12 := hidden (frame_next HK5.out HO.out HKz.out HOz.out)
            have HIts9 := hidden HIts2
            have HSz := hidden (own_style hown (by omega) (by omega) HO.out HKz.out HS5.out)
            clear HIts2 HKz HOz HS5 HK5 HO HC5
            go_wp2_with fail
            refine wpListIn_nil ?_
            have hln : n7 - 1 = its.length := by rw [← HN7.out]; rfl
            have HLn := hidden hln
            by_cases hc6 : c6 = 1
            · have HRt2 : Hid (Rd w (Old w) 4 (.slice (some ⟨b7, o7, none⟩) (n7 - 1) 0) its.length (its.flatMap itCells)) := hidden (by
                have e0 : its = [] := List.eq_nil_of_length_eq_zero (by omega)
                rw [hln]
                subst e0
                exact rd_empty _ _ _ _)
              clear hln
              go_wp2
              go_roundg ((kidsL t i).length - (k + 1))
              case measure => omega
              case rel => exact ⟨k + 1, q + sz t q, vz, gk, its, by omega, rfl, by go_num, by omega, by omega, HD2, HWz, HSz, HGz0, HIts9, HRt2, hidden HN12.out.1, hidden HN12.out.2⟩
            · have HRt2 : Hid (Rd w (Old w) 4 (.slice (some ⟨b7, o7 + 4, none⟩) (n7 - 1) (c6 - 1)) its.length (its.flatMap itCells)) := hidden (by
                have := HRd.out
                rw [hln] at this ⊢
                exact this)
              clear hln
              go_wp2
              go_roundg ((kidsL t i).length - (k + 1))
              case measure => omega
              case rel => exact ⟨k + 1, q + sz t q, vz, gk, its, by omega, rfl, by go_num, by omega, by omega, HD2, HWz, HSz, HGz0, HIts9, HRt2, hidden HN12.out.1, hidden HN12.out.2⟩
    · have := HDn.out k q hqe HD.out hlt
      subst this
      have hKf : Keeps (OutT m (.slice A0 (placesIn g t 0 i).length c0)) W wr := ⟨Nat.le_trans hbl.size HK.out.size, fun j hj hl => by
        rw [HK.out.block j ⟨hj.1, hj.2, by omega⟩ (by omega), hbl.block j hl]⟩
      have hOf : vo'.ownBlock = (Value.slice A0 (placesIn g t 0 i).length c0).ownBlock ∨ ∃ q, vo'.ownBlock = some q ∧ W.heap.size ≤ q := by
        rcases HO.out with e | ⟨z, e, h⟩
        · exact .inl e
        · exact .inr ⟨z, e, by omega⟩
      go_wp2
      exact bodyPost_end (v := .tuple #[]) (by simp [results, Try.results59, go_sem]) rfl ⟨rfl, vo', HW, hidden hKf, hidden hOf⟩
end Go.Proofs.Ytbjheaiiajpifaa.T
