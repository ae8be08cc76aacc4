/-
  The document's least parts: facsimileref30.short.
-/
import Derived.Test.YtmmhkjdnejeooaaDeriveV
import Derived.Test.YtmmhkjdnejeooaaDeriveT
import Derived.Test.YtmmhkjdnejeooaaT8
namespace Go.Proofs.Ytmmhkjdnejeooaa.T
open Go.RowKit Go.Shelf

theorem partok_it {ps : List Prod} {B : List Int} : ∀ {f : Nat} {z : Item}, z.rule = true → PartOk ps B f z → PartOk ps B f (itR z.n) ∧ partL ps B f (itR z.n) = partL ps B f z := by
  intro f z hz h
  cases f with
  | zero => cases h
  | succ f =>
    rcases h with h | ⟨r, j, p, _, h1, h2, h3, h4, h5, h6⟩
    · rw [hz] at h; cases h
    · exact ⟨.inr ⟨r, j, p, rfl, h1, h2, h3, h4, h5, h6⟩, by rw [partL, partL, if_neg (by simp [itR]), if_neg (by rw [hz]; decide)]; rfl⟩
theorem kids_empty (w : World) (base : Nat) (q : Nat) (h : q < w.heap.size) : KidsM w base (.slice (some ⟨q, 0, none⟩) 0 0) [] := ⟨[], rfl, .inr ⟨rfl, rfl, _, rfl⟩, (fun g hg => by simp [Value.ownBlock] at hg; omega), fun i t u h => by simp at h⟩
theorem holds_new_drew (w : World) (cs : Array Value) (t : TypeId) : Holds (w.alloc (.cells cs t)).drew w.heap.size t cs := by
  have h : Holds (w.alloc (.cells cs t)) w.heap.size t cs := Holds.new _ _ _
  exact h.below (Below.drew (Below.refl (w.alloc (.cells cs t)).heap.size (w.alloc (.cells cs t)))) h.lt
def Bare (t : List Node) : Prop := ∀ x ∈ t, x.lead = []
theorem part_bare (ps : List Prod) (B : List Int) : ∀ (f : Nat) (y : Item), Bare (partL ps B f y) := by
  intro f
  induction f with
  | zero => intro y x hx; cases hx
  | succ f ih =>
    intro y x hx
    rw [partL] at hx
    split at hx
    · simp at hx; subst hx; rfl
    · split at hx
      · cases hx
      · unfold oneOf at hx
        rcases List.mem_cons.1 hx with rfl | hx
        · rfl
        · rw [List.mem_flatten] at hx
          obtain ⟨l, hl, hx⟩ := hx
          rw [List.mem_map] at hl
          obtain ⟨z, _, rfl⟩ := hl
          exact ih z x hx
theorem nown_nds {w : World} {B : Nat} {T : Nat → Prop} {v : Value} {t : List Node} (h : NOwn w B T v t) (hb : Bare t) : Nds w (fun k => B ≤ k ∧ k < w.heap.size) v t := by
  obtain ⟨ls, h1, h2, h3⟩ := h
  refine ⟨ls, h1, h2.rd (fun g _ a b => ⟨a, b⟩), fun i x l a b => ?_⟩
  have h4 := h3 i x l a b
  have e := hb x (List.mem_of_getElem? a)
  unfold Pcs at h4 ⊢
  rw [e] at h4 ⊢
  obtain ⟨c1, A, c, c2, c3, c4, _⟩ := h4
  exact ⟨c1, A, c, c2, c3, c4, fun h0 => by simp at h0⟩
theorem ofRule_mem {g : Gram} {r : Int} {z : Int} : z ∈ ofRule g r ↔ ∃ (i : Nat) (p : Prod), z = (i : Int) ∧ g.prods[i]? = some p ∧ p.left = r := by
  unfold ofRule ofUpto
  simp only [List.mem_map, List.mem_filter, List.mem_range]
  constructor
  · rintro ⟨i, ⟨h1, h2⟩, rfl⟩
    unfold isOf at h2
    rw [List.getElem?_eq_getElem h1] at h2
    exact ⟨i, _, rfl, List.getElem?_eq_getElem h1, by simpa using h2⟩
  · rintro ⟨i, p, rfl, h1, h2⟩
    refine ⟨i, ⟨(List.getElem?_eq_some_iff.1 h1).1, ?_⟩, rfl⟩
    unfold isOf
    rw [h1]
    simpa using h2
theorem ofRule_asc (g : Gram) (r : Int) : (ofRule g r).Pairwise (· < ·) := by
  unfold ofRule ofUpto
  rw [List.pairwise_map]
  exact (List.Pairwise.sublist List.filter_sublist List.pairwise_lt_range).imp (fun h => by omega)

set_option maxRecDepth 20000 in
set_option maxHeartbeats 16000000 in
theorem ref_short30 (a b c : Value) (g : Gram) (w0 : World) (HG : GramIs w0 (Old w0) a b c g) (hsd : Sound g) (hsm : Small g) (hpr : ∀ p ∈ g.prods, p.right.length ≤ 4398046511104) (q : Nat) (S : List Int) (HQ : IntsAt w0 q S) (hS1 : ReachS g.prods g.rules.length S) (hS2 : Settled g.prods S) (hok : OkS S) :
    ∀ (f : Nat) (r : Nat), r < g.rules.length → 0 ≤ szI S (r : Int) → PartOk g.prods (byD g.prods S) f (itR (r : Int)) → (∀ f' y, f' ≤ f → y.rule = true → PartOk g.prods (byD g.prods S) f' y → 0 ≤ y.n ∧ y.n < g.rules.length ∧ 0 ≤ szI S y.n) → ∀ W : World, Below w0.heap.size w0 W →
    Calls Try.prog 36 #[.agg (gramCells a b c g), .slice (some ⟨q, 0, none⟩) g.rules.length g.rules.length, .int .i64 (r : Int)] W fun e w' => (∃ u, e = .returned u ∧ Hid (Nds w' (fun k => W.heap.size ≤ k ∧ k < w'.heap.size) u (partL g.prods (byD g.prods S) f (itR (r : Int))))) ∧ Below W.heap.size W w' := by
  intro f
  induction f with
  | zero => intro r _ _ h; cases h
  | succ f ih =>
    intro r hr hs0 hOk hIn W hW
    have HIH := hidden ih
    clear ih
    have hSl := reachS_len hS1
    have HOf := hidden (fun (w' : World) (hb : Below w0.heap.size w0 w') => ref_Of18 a b c g (r : Int) w' (HG.old hb) hsm.prods)
    have HSz := hidden (fun (pi : Nat) (p : Prod) (w' : World) (hb : Below w0.heap.size w0 w') (hp : g.prods[pi]? = some p) => ref_size30 a b c g S q pi p w' (HG.old hb) (Holds.below HQ hb HQ.lt) hSl hp (fun y hy h => by rw [hSl]; exact hsd.rule p (List.mem_of_getElem? hp) y hy h) hok (hpr p (List.mem_of_getElem? hp)))
    have HG2 := hidden HG
    have HQ2 := hidden HQ
    obtain ⟨j, pj, hbj, hpj, hplj, hpcj, hfst⟩ := by_some (fun p hp => hsd.left p hp) hS1 hS2 hr hs0
    have hofj : (j : Int) ∈ ofRule g (r : Int) := ofRule_mem.2 ⟨j, pj, rfl, hpj, hplj⟩
    have hasc := ofRule_asc g (r : Int)
    have hofm := hidden (fun z (hz : z ∈ ofRule g (r : Int)) => ofRule_mem.1 hz)
    have hofl : (ofRule g (r : Int)).length ≤ g.prods.length := ofUpto_len _ _ _
    have hss := List.getElem?_eq_getElem (show r < S.length by omega)
    have hsv := szI_at hss
    rcases hOk with h0 | ⟨r', j', p', h0, h1, h2, h3, h4, h5, h6⟩
    · cases h0
    have h1 : (r : Int) = (r' : Int) := h1
    obtain rfl : r = r' := by omega
    rw [hbj] at h2
    obtain rfl : j = j' := by have := Option.some.inj h2; omega
    rw [hpj] at h3
    obtain rfl : pj = p' := Option.some.inj h3
    have hP : Hid (partL g.prods (byD g.prods S) (f + 1) (itR (r : Int)) = oneOf (madeN (j : Int)) (pj.right.map (partL g.prods (byD g.prods S) f))) := hidden (by
      rw [partL, if_neg (by simp [itR]), show (itR (r : Int)).n = (r : Int) from rfl, szI_at hbj, Int.toNat_natCast, hpj])
    have hBare := hidden (part_bare g.prods (byD g.prods S) (f + 1) (itR (r : Int)))
    generalize partL g.prods (byD g.prods S) (f + 1) (itR (r : Int)) = res at *
    have H5 := hidden h5; have H6 := hidden h6; have HIn := hidden hIn
    obtain ⟨⟨A1, k1, rfl, v1, m1⟩, ⟨A2, k2, rfl, v2, m2⟩, ⟨A3, k3, rfl, v3, m3⟩⟩ := HG.vals
    unfold gramCells at *
    unfold maxLen at m1 m2 m3
    have hprodz := hsm.prods
    generalize hov : ofRule g (r : Int) = ol at *
    have hb1 : Below W.heap.size W (W.alloc (.cells #[.slice A1 g.toks.length k1, .slice A2 g.rules.length k2, .slice A3 g.prods.length k3, .int .i64 g.start, .int .i64 g.states, .int .i64 g.text, .int .i64 g.nodes, .int .i64 g.pairs] 26)) := (Below.refl _ _).alloc (Nat.le_refl _) _
    have HB1 : Hid (Holds (W.alloc (.cells #[.slice A1 g.toks.length k1, .slice A2 g.rules.length k2, .slice A3 g.prods.length k3, .int .i64 g.start, .int .i64 g.states, .int .i64 g.text, .int .i64 g.nodes, .int .i64 g.pairs] 26)) W.heap.size 26 #[.slice A1 g.toks.length k1, .slice A2 g.rules.length k2, .slice A3 g.prods.length k3, .int .i64 g.start, .int .i64 g.states, .int .i64 g.text, .int .i64 g.nodes, .int .i64 g.pairs]) := hidden (Holds.new W _ _)
    clear HG HQ h5 h6 hIn hov h2 h3 h0 h1 hsm
    go_enter Try.func36, Try.ntmps36
    go_upto_region 1 with fail
    have hW1 := hW.trans (hb1.mono hW.size)
    generalize (W.alloc (.cells #[.slice A1 g.toks.length k1, .slice A2 g.rules.length k2, .slice A3 g.prods.length k3, .int .i64 g.start, .int .i64 g.states, .int .i64 g.text, .int .i64 g.nodes, .int .i64 g.pairs] 26)) = w1 at *
    obtain ⟨x0, x1, x2, x3, x4, x5, x6, x7⟩ := eightR HB1.out
    have HX := hidden (HOf.out _ hW1)
    go_wp2_with fail
    refine HX.out.mono ?_
    rintro e w2 ⟨⟨u2, rfl, HM⟩, hb2⟩
    replace HB1 := hidden (HB1.out.below hb2 HB1.out.lt)
    replace hb1 := hb1.trans (hb2.mono hb1.size)
    have hW2 := hW1.trans (hb2.mono hW1.size)
    have HOl := hidden (RowM.rd HM.out)
    obtain ⟨Ao, co, rfl⟩ := HM.out.value
    clear x0 x1 x2 x3 x4 x5 x6 x7 hb2 HX HOf HM hW1
    generalize S[r] = sv at *
    have HSS := hidden hss
    have HSV := hidden hsv
    have HFst := hidden hfst
    have HHJ := hidden (And.intro hbj (And.intro hpj (And.intro hplj hpcj)))
    have HOJ := hidden hofj
    have HAsc := hidden hasc
    clear hss hsv hfst hbj hpj hplj hpcj hofj hasc
    have qr : (r : Int) < (g.rules.length : Int) := by omega
    go_wp2
    go_loopw [8] (fun iv wr => ∃ i : Nat, iv = .int .i64 i ∧ i ≤ ol.length ∧ Hid (∀ (k m : Nat) (p : Prod), k < i → ol[k]? = some (m : Int) → g.prods[m]? = some p → countP S p ≠ szI S (r : Int)) ∧ Hid (Below w2.heap.size w2 wr)) (fun iv wr => ol.length - (intOf iv).toNat)
    case atStart => exact ⟨0, by go_num, Nat.zero_le _, hidden (fun k m p h => by omega), hidden (Below.refl _ _)⟩
    case round =>
      obtain ⟨i, rfl, hi, HNe, HB⟩ := hrel
      by_cases hil : i < ol.length
      · have qi : (i : Int) < (ol.length : Int) := by omega
        have hz := List.getElem?_eq_getElem hil
        have hzm := hofm.out _ (List.getElem_mem hil)
        generalize ol[i] = z at *
        obtain ⟨m, p, rfl, hpm, hpl⟩ := hzm
        obtain ⟨bo, oo, rfl, _, z5⟩ := row_at HOl.out hz
        have hbw := HB.out
        replace z5 := cellF z5 hbw
        have hW3 := hW2.trans (hbw.mono hW2.size)
        have x1 : w0.cell? ⟨q, r, none⟩ = some (.int .i64 sv) := IntsAt.at_ HQ2.out HSS.out
        replace x1 := cellF x1 hW3
        have HX := hidden (HSz.out m p)
        have hHX := hidden (fun w' hb => HX.out w' hb hpm)
        obtain ⟨y0, y1, y2, y3, y4, y5, y6, y7⟩ := eightR (HB1.out.below hbw HB1.out.lt)
        have e0 := Ext.cell y0; have e1 := Ext.cell y1; have e2 := Ext.cell y2; have e3 := Ext.cell y3; have e4 := Ext.cell y4; have e5 := Ext.cell y5; have e6 := Ext.cell y6; have e7 := Ext.cell y7; have e8 := Ext.cell z5; have e9 := Ext.cell x1
        have hwz := hW3.size
        have hcs : (countP S p = sv) ∨ ¬ (countP S p = sv) := Classical.em _
        have HNe2 := hidden (fun (hne : ¬ (countP S p = sv)) => (show ∀ (k m' : Nat) (p' : Prod), k < i + 1 → ol[k]? = some (m' : Int) → g.prods[m']? = some p' → countP S p' ≠ szI S (r : Int) from fun k m' p' hk h1 h2 => by
          by_cases e : k = i
          · subst e
            rw [hz] at h1
            have : m = m' := by have := Option.some.inj h1; omega
            subst this
            rw [hpm] at h2
            cases h2
            rw [HSV.out]; exact hne
          · exact HNe.out k m' p' (by omega) h1 h2))
        have HMj := hidden (fun (he : countP S p = sv) => (show m = j from by
          obtain ⟨_, hpj, hplj, hpcj⟩ := HHJ.out
          obtain ⟨kj, hkj, ekj⟩ := List.mem_iff_getElem.1 HOJ.out
          have ekj2 : ol[kj]? = some (j : Int) := by rw [List.getElem?_eq_getElem hkj, ekj]
          by_cases hlt : kj < i
          · exact absurd hpcj (HNe.out kj j pj hlt ekj2 hpj)
          · by_cases heq : kj = i
            · subst heq; rw [hz] at ekj2; have := Option.some.inj ekj2; omega
            · have hasc := List.pairwise_iff_getElem.1 HAsc.out i kj hil hkj (by omega)
              have hzi : ol[i] = (m : Int) := by have := hz; rw [List.getElem?_eq_getElem hil] at this; exact Option.some.inj this
              rw [ekj, hzi] at hasc
              exact absurd (he.trans HSV.out.symm) (HFst.out m p (by omega) hpm hpl)))
        generalize countP S p = cn at *
        clear HNe hz hpm hpl HX
        go_wp2_with fail
        refine wp_region_ext (by kernel_rfl) (by kernel_rfl) ?_
        repeat (go_big_quiet_step ((go_at_call 47; exact Ext.call (hHX.out _ (hW3.trans ((Ext.below _).mono hwz))))))
        refine wpQuiet_nil ?_
        intro w4 hb4
        clear e0 e1 e2 e3 e4 e5 e6 e7 e8 e9 y0 y1 y2 y3 y4 y5 y6 y7 x1 hHX hwz
        replace HB := hidden (HB.out.trans (hb4.mono HB.out.size))
        replace z5 := cellF z5 hb4
        clear hb4 hbw hW3
        rcases hcs with hcs | hcs
        · have qcs : (cn != sv) = false := by simp [hcs]
          obtain rfl : m = j := HMj.out hcs
          clear HMj HNe2 hcs
          go_wp2
          generalize (cn != sv) = bq at *
          subst qcs
          have hW4 := hW2.trans (HB.out.mono hW2.size)
          have hw44 := HB.out.size
          obtain ⟨_, hpjm, _, _⟩ := HHJ.out
          have hjl := (List.getElem?_eq_some_iff.1 hpjm).1
          have qjm : (m : Int) < (g.prods.length : Int) := by omega
          obtain ⟨bp, op, up, e7, _, hpat, hpin⟩ := Recs.at_ HG2.out.2.2 hpjm
          subst e7
          have p1 := hpat 1 _ rfl
          have hpin2 : Rd w0 (Old w0) 4 up pj.right.length (pj.right.flatMap itCells) := hpin
          obtain ⟨Ar, cr, rfl, hcr1, hcr2⟩ := hpin2.val
          have HPI := hidden hpin2
          have p1' : w0.cell? ⟨bp, op + m * 2 + 1, none⟩ = some (.slice Ar pj.right.length cr) := p1
          have HP1 := hidden p1'
          have HZ5 := hidden z5
          have HW4 := hidden hW4
          have hB1b := hidden (hb1.trans (HB.out.mono hb1.size))
          have HGB := hidden (HB1.out.below HB.out HB1.out.lt)
          clear hpat hpin hpin2 p1 p1' hpjm HOJ HFst z5 hW4 HB HB1
          generalize hLL : pj.right = L at *
          clear hLL
          go_loopw [9, 10] (fun kv iv wr => ∃ k : Nat, iv = .int .i64 k ∧ k ≤ L.length ∧ Hid (KidsM wr w4.heap.size kv ((L.take k).map (partL g.prods (byD g.prods S) f))) ∧ Hid (Below w4.heap.size w4 wr)) (fun kv iv wr => L.length - (intOf iv).toNat)
          case atStart => exact ⟨0, by go_num, Nat.zero_le _, hidden (kids_empty _ _ _ (by simp)), hidden ((Below.refl _ _).alloc (Nat.le_refl _) _)⟩
          case round =>
            obtain ⟨k, rfl, hk, HK, HBk⟩ := hrel
            obtain ⟨Av, cv, rfl⟩ := HK.out.value
            have hwk := HW4.out.trans (HBk.out.mono HW4.out.size)
            have x2 : wr.cell? ⟨W.heap.size, 2, none⟩ = some (.slice (some ⟨bp, op, none⟩) g.prods.length k3) := (HGB.out.below HBk.out HGB.out.lt).cell 2
            have z5 := cellF HZ5.out HBk.out
            have p1 := cellF HP1.out hwk
            have z5 : wr.cell? ⟨bo, oo + i, none⟩ = some (.int .i64 (m : Int)) := z5
            have e0 := Ext.cell x2; have e1 := Ext.cell z5; have e2 := Ext.cell p1
            by_cases hlt : k < L.length
            · have qk : (k : Int) < (L.length : Int) := by omega
              have hz := List.getElem?_eq_getElem hlt
              have hzm := List.getElem_mem hlt
              generalize L[k] = z at *
              have htk : Hid ((L.take (k + 1)).map (partL g.prods (byD g.prods S) f) = (L.take k).map (partL g.prods (byD g.prods S) f) ++ [partL g.prods (byD g.prods S) f z]) := hidden (by rw [List.take_add_one, hz, List.map_append]; rfl)
              have hkl : ((L.take k).map (partL g.prods (byD g.prods S) f)).length ≤ 1000000 := by rw [List.length_map, List.length_take]; omega
              have HZ9 := hidden hz
              have HZM := hidden hzm
              clear hz hzm
              generalize hacc : (L.take k).map (partL g.prods (byD g.prods S) f) = acc at *
              have HAcc := hidden hacc
              clear hacc
              go_wp2_with fail
              refine wp_region_ext (by kernel_rfl) (by kernel_rfl) ?_
              repeat (go_big_quiet_step (fail))
              refine wpQuiet_nil ?_
              intro w5 hb5
              clear e0 e1 e2 x2 z5 p1 hwk
              replace HK := hidden (HK.out.below hb5)
              replace HBk := hidden (HBk.out.trans (hb5.mono HBk.out.size))
              clear hb5
              have hz := HZ9.out
              have hzm := HZM.out
              have HZO := hidden (H5.out z hzm)
              obtain ⟨zr, zn, zg, zi⟩ := z
              obtain ⟨bi, oi, rfl, i0, i1, i2, i3⟩ := items_at HPI.out hz
              dsimp only at i0 i1 i2 i3
              have hw5 := HW4.out.trans (HBk.out.mono HW4.out.size)
              replace i0 := cellF i0 hw5; replace i1 := cellF i1 hw5; replace i2 := cellF i2 hw5; replace i3 := cellF i3 hw5
              have x2 : w5.cell? ⟨W.heap.size, 2, none⟩ = some (.slice (some ⟨bp, op, none⟩) g.prods.length k3) := (HGB.out.below HBk.out HGB.out.lt).cell 2
              have z5 : w5.cell? ⟨bo, oo + i, none⟩ = some (.int .i64 (m : Int)) := cellF HZ5.out HBk.out
              have p1 := cellF HP1.out hw5
              have hkc : (0 : Int) ≤ (k : Int) := by omega
              clear hz hzm hw5
              go_wp2_with fail
              go_region_held3 (fun w' => w'.cell? ⟨W.heap.size, 2, none⟩ = some (.slice (some ⟨bp, op, none⟩) g.prods.length k3) ∧ w'.cell? ⟨bo, oo + i, none⟩ = some (.int .i64 (m : Int)) ∧ w'.cell? ⟨bp, op + m * 2 + 1, none⟩ = some (.slice (some ⟨bi, oi, none⟩) L.length cr) ∧ w'.cell? ⟨bi, oi + k * 4, none⟩ = some (.bool zr) ∧ w'.cell? ⟨bi, oi + k * 4 + 1, none⟩ = some (.int .i64 zn) ∧ w'.cell? ⟨bi, oi + k * 4 + 2, none⟩ = some (.int .i64 zg) ∧ w'.cell? ⟨bi, oi + k * 4 + 3, none⟩ = some (.int .i64 zi) ∧ Below w5.heap.size w5 w')
                (first | exact ⟨x2, z5, p1, i0, i1, i2, i3, Below.drew (Below.refl _ _)⟩ | (go_split_ands; exact ⟨cellF (by assumption) ((Below.refl _ _).alloc (Nat.le_refl _) _), cellF (by assumption) ((Below.refl _ _).alloc (Nat.le_refl _) _), cellF (by assumption) ((Below.refl _ _).alloc (Nat.le_refl _) _), cellF (by assumption) ((Below.refl _ _).alloc (Nat.le_refl _) _), cellF (by assumption) ((Below.refl _ _).alloc (Nat.le_refl _) _), cellF (by assumption) ((Below.refl _ _).alloc (Nat.le_refl _) _), cellF (by assumption) ((Below.refl _ _).alloc (Nat.le_refl _) _), Below.alloc (by assumption) (Below.size (by assumption)) _⟩) | exact ⟨cellF x2 (by first | exact ((Below.refl _ _).alloc (Nat.le_refl _) _).drew | exact (Below.refl _ _).alloc (Nat.le_refl _) _), cellF z5 (by first | exact ((Below.refl _ _).alloc (Nat.le_refl _) _).drew | exact (Below.refl _ _).alloc (Nat.le_refl _) _), cellF p1 (by first | exact ((Below.refl _ _).alloc (Nat.le_refl _) _).drew | exact (Below.refl _ _).alloc (Nat.le_refl _) _), cellF i0 (by first | exact ((Below.refl _ _).alloc (Nat.le_refl _) _).drew | exact (Below.refl _ _).alloc (Nat.le_refl _) _), cellF i1 (by first | exact ((Below.refl _ _).alloc (Nat.le_refl _) _).drew | exact (Below.refl _ _).alloc (Nat.le_refl _) _), cellF i2 (by first | exact ((Below.refl _ _).alloc (Nat.le_refl _) _).drew | exact (Below.refl _ _).alloc (Nat.le_refl _) _), cellF i3 (by first | exact ((Below.refl _ _).alloc (Nat.le_refl _) _).drew | exact (Below.refl _ _).alloc (Nat.le_refl _) _), (by first | exact ((Below.refl _ _).alloc (Nat.le_refl _) _).drew | exact (Below.refl _ _).alloc (Nat.le_refl _) _)⟩)
                (fail)
              all_goals
                have hdr : Below w5.heap.size w5 (w5.alloc (.cells #[.bool zr, .int .i64 zn, .int .i64 zg, .int .i64 zi] 30)).drew := ((Below.refl _ _).alloc (Nat.le_refl _) _).drew
                have HBX : Hid (Holds (w5.alloc (.cells #[.bool zr, .int .i64 zn, .int .i64 zg, .int .i64 zi] 30)).drew w5.heap.size 30 #[.bool zr, .int .i64 zn, .int .i64 zg, .int .i64 zi]) := hidden (holds_new_drew _ _ _)
                generalize (w5.alloc (.cells #[.bool zr, .int .i64 zn, .int .i64 zg, .int .i64 zi] 30)).drew = w6 at *
                replace HK := hidden (HK.out.below hdr)
                replace HBk := hidden (HBk.out.trans (hdr.mono HBk.out.size))
                clear x2 z5 p1 i0 i1 i2 i3 hdr
                have i0 := HBX.out.cell 0
                have i1 : w6.cell? ⟨w5.heap.size, 1, none⟩ = some (.int .i64 zn) := HBX.out.cell 1
                cases zr
                · have HPz : Hid (partL g.prods (byD g.prods S) f ⟨false, zn, zg, zi⟩ = [leafN zn]) := hidden (by
                    have h9 := HZO.out
                    cases f with
                    | zero => cases h9
                    | succ f => rw [partL, if_pos rfl])
                  clear HZO
                  have hov : ∀ q, (Value.slice Av acc.length cv).ownBlock = some q → q < w6.heap.size := by
                    obtain ⟨_, _, _, h, _⟩ := HK.out
                    exact h
                  have hlb : Below w6.heap.size w6 (w6.alloc (.cells #[.int .i64 3, .int .i64 zn, .int .i64 1, .slice none 0 0, .string ⟨#[]⟩] 37)) := (Below.refl _ _).alloc (Nat.le_refl _) _
                  obtain ⟨us, hu1, hu2, hu3, hu4⟩ := HK.out.below hlb
                  have HNd : Hid (Nds (w6.alloc (.cells #[.int .i64 3, .int .i64 zn, .int .i64 1, .slice none 0 0, .string ⟨#[]⟩] 37)) (fun k => k < (w6.alloc (.cells #[.int .i64 3, .int .i64 zn, .int .i64 1, .slice none 0 0, .string ⟨#[]⟩] 37)).heap.size ∧ (Value.slice Av acc.length cv).ownBlock ≠ some k) (.slice (some ⟨w6.heap.size, 0, none⟩) 1 1) [leafN zn]) := hidden ((Own.ndsT (own_leaf w6 w6.heap.size zn (Nat.le_refl _))).mono (fun k hk => ⟨hk.2, fun e => by have := hov k e; omega⟩))
                  have hone : (Value.slice (some ⟨w6.heap.size, 0, none⟩) 1 1).oneCell' = true := rfl
                  have HB5 := hidden (HBk.out.trans (hlb.mono HBk.out.size))
                  clear hlb HK
                  have HM := hidden hu2
                  have HU3 := hidden hu3
                  have HU4 := hidden hu4
                  have hb5z := HB5.out.size
                  clear hu2 hu3 hu4 hov
                  go_wp2_with (at_builtin; refine wpList_append_v rfl _ _ 62 27 _ rfl (by kernel_rfl) nodes_info rfl w4.heap.size _ _ _ HM _ hone rfl rfl rfl (by first | rfl | simp) (by omega) (by decide) hb5z ?_; intro v' w' hA)
                  have HKn : Hid (KidsM w' w4.heap.size v' (acc ++ [[leafN zn]])) := hidden (KidsM.push hu1 (fun i t u a b => ((HU4.out i t u a b).alloc _).mono (fun k hk => ⟨by simp at *; omega, hk.2⟩)) (fun q hq => by have := HU3.out q hq; simp at *; omega) (((HNd.out).alloc _).mono (fun k hk => ⟨by simp at *; omega, hk.2⟩)) hA.out)
                  have HBn := hidden ((HB5.out.alloc hb5z (.cells #[.slice (some ⟨w6.heap.size, 0, none⟩) 1 1] 27)).trans hA.out.below)
                  clear hA HNd HM HU3 HU4 HB5
                  go_wp2
                  go_roundw
                  case rel => exact ⟨k + 1, by go_num, by omega, hidden (by rw [htk.out, HPz.out]; exact HKn.out), HBn⟩
                  case measure => simp [intOf]; omega
                · obtain ⟨q1, q2, q3⟩ := HIn.out f _ (Nat.le_succ f) rfl HZO.out
                  obtain ⟨r2, hr2⟩ : ∃ r2 : Nat, zn = (r2 : Int) := ⟨zn.toNat, by have q1 : 0 ≤ zn := q1; omega⟩
                  subst hr2
                  obtain ⟨c1, c2⟩ := partok_it rfl HZO.out
                  have HC2 := hidden c2
                  have hwc := HW4.out.trans (HBk.out.mono HW4.out.size)
                  have HX := hidden (HIH.out r2 (by have q2 : (r2 : Int) < (g.rules.length : Int) := q2; omega) q3 c1 (fun f' y h1 => HIn.out f' y (Nat.le_succ_of_le h1)) w6 hwc)
                  clear HZO c1 c2 q1 q2 q3
                  have HPz : Hid (partL g.prods (byD g.prods S) f ⟨true, (r2 : Int), zg, zi⟩ = partL g.prods (byD g.prods S) f (itR (r2 : Int))) := hidden HC2.out.symm
                  generalize partL g.prods (byD g.prods S) f (itR (r2 : Int)) = pz at *
                  obtain ⟨y0, y1, y2, y3, y4, y5, y6, y7⟩ := eightR (HGB.out.below HBk.out HGB.out.lt)
                  go_wp2_with fail
                  refine HX.out.mono ?_
                  rintro e w7 ⟨⟨u7, rfl, HO7⟩, hb7⟩
                  obtain ⟨A7, c7, rfl, _⟩ : ∃ A7 c7, u7 = .slice A7 pz.length c7 ∧ True := by obtain ⟨_, _, hm, _⟩ := HO7.out; obtain ⟨A, c, h, _⟩ := hm.val; exact ⟨A, c, h, trivial⟩
                  have hov : ∀ q, (Value.slice Av acc.length cv).ownBlock = some q → q < w6.heap.size := by
                    obtain ⟨_, _, _, h, _⟩ := HK.out
                    exact h
                  obtain ⟨us, hu1, hu2, hu3, hu4⟩ := HK.out.below hb7
                  have HNd : Hid (Nds w7 (fun k => k < w7.heap.size ∧ (Value.slice Av acc.length cv).ownBlock ≠ some k) (.slice A7 pz.length c7) pz) := hidden (HO7.out.mono (fun k hk => ⟨hk.2, fun e => by have := hov k e; have := hk.1; omega⟩))
                  have hone : (Value.slice A7 pz.length c7).oneCell' = true := rfl
                  have HB5 := hidden (HBk.out.trans (hb7.mono HBk.out.size))
                  clear HX HK hb7 HO7 y0 y1 y2 y3 y4 y5 y6 y7 HC2 hwc
                  have HM := hidden hu2
                  have HU3 := hidden hu3
                  have HU4 := hidden hu4
                  have hb5z := HB5.out.size
                  clear hu2 hu3 hu4 hov
                  go_wp2_with (at_builtin; refine wpList_append_v rfl _ _ 62 27 _ rfl (by kernel_rfl) nodes_info rfl w4.heap.size _ _ _ HM _ hone rfl rfl rfl (by first | rfl | simp) (by omega) (by decide) hb5z ?_; intro v' w' hA)
                  have HKn : Hid (KidsM w' w4.heap.size v' (acc ++ [pz])) := hidden (KidsM.push hu1 (fun i t u a b => ((HU4.out i t u a b).alloc _).mono (fun k hk => ⟨by simp at *; omega, hk.2⟩)) (fun q hq => by have := HU3.out q hq; simp at *; omega) (((HNd.out).alloc _).mono (fun k hk => ⟨by simp at *; omega, hk.2⟩)) hA.out)
                  have HBn := hidden ((HB5.out.alloc hb5z (.cells #[.slice A7 pz.length c7] 27)).trans hA.out.below)
                  clear hA HNd HM HU3 HU4 HB5
                  go_wp2
                  go_roundw
                  case rel => exact ⟨k + 1, by go_num, by omega, hidden (by rw [htk.out, HPz.out]; exact HKn.out), HBn⟩
                  case measure => simp [intOf]; omega
            · obtain rfl : k = L.length := by omega
              have qk : ¬ (L.length : Int) < (L.length : Int) := by omega
              have htk : (L.take L.length).map (partL g.prods (byD g.prods S) f) = L.map (partL g.prods (byD g.prods S) f) := by rw [List.take_length]
              rw [htk] at HK ⊢
              go_wp2_with fail
              refine wp_region_ext (by kernel_rfl) (by kernel_rfl) ?_
              repeat (go_big_quiet_step (fail))
              refine wpQuiet_nil ?_
              intro w5 hb5
              clear e0 e1 e2 x2 z5 p1 hwk
              replace HK := hidden (HK.out.below hb5)
              replace HBk := hidden (HBk.out.trans (hb5.mono HBk.out.size))
              clear hb5 htk
              have hwl : (L.map (partL g.prods (byD g.prods S) f)).length ≤ 1000000000 := by rw [List.length_map]; omega
              have hfl : (L.map (partL g.prods (byD g.prods S) f)).flatten.length ≤ 100000000 := by have := H6.out; omega
              have HX := hidden (ref_one (madeN (m : Int)) (.slice none 0 0) _ (L.map (partL g.prods (byD g.prods S) f)) w5 hwl hfl HK.out.parts (Rd.nil _ _ _))
              have HBR := hBare
              have hbw := hB1b.out.trans (HBk.out.mono hB1b.out.size)
              have z5 : w5.cell? ⟨bo, oo + i, none⟩ = some (.int .i64 (m : Int)) := cellF HZ5.out HBk.out
              unfold madeN at HX
              dsimp only at HX
              simp only [List.length_map] at HX
              clear HK
              generalize L.map (partL g.prods (byD g.prods S) f) = kl at *
              go_wp2_with fail
              refine HX.out.mono ?_
              rintro e w6 ⟨⟨u6, rfl, HO6⟩, hb6⟩
              have hbf := hbw.trans (hb6.mono hbw.size)
              have HOf : Hid (Nds w6 (fun k => W.heap.size ≤ k ∧ k < w6.heap.size) u6 res) := hidden (by
                have hbr := HBR.out
                rw [hP.out] at hbr ⊢
                exact (nown_nds HO6.out hbr).mono (fun k hk => ⟨Nat.le_trans hbw.size hk.1, hk.2⟩))
              clear HX HO6 hb6 hbw z5
              go_wp2
              go_ret
              exact ⟨⟨_, rfl, HOf⟩, hbf⟩
        · have qcs : (cn != sv) = true := by simpa using hcs
          have HNe3 := hidden (HNe2.out hcs)
          clear HMj HNe2 hcs
          go_wp2
          go_roundw
          case rel => exact ⟨i + 1, by go_num, by omega, HNe3, HB⟩
          case measure => simp [intOf]; omega
      · exfalso
        obtain ⟨_, hpj, hplj, hpcj⟩ := HHJ.out
        obtain ⟨kj, hkj, ekj⟩ := List.mem_iff_getElem.1 HOJ.out
        exact HNe.out kj j pj (by omega) (by rw [List.getElem?_eq_getElem hkj, ekj]) hpj hpcj
end Go.Proofs.Ytmmhkjdnejeooaa.T
