/-
  A least part: derive.Short's closure.
-/
import Derived.Test.YtmmhkjdnejeooaaDeriveJ
import Derived.Test.YtmmhkjdnejeooaaDeriveP
namespace Go.Proofs.Ytmmhkjdnejeooaa.T
open Go.RowKit Go.Shelf

/-- Slices of nodes that the call makes, one behind the other. -/
def KidsM (w : World) (base : Nat) (v : Value) (ts : List (List Node)) : Prop :=
  ∃ us : List Value, us.length = ts.length ∧ Mine w base 27 1 v ts.length us ∧ (∀ q, v.ownBlock = some q → q < w.heap.size) ∧
    ∀ (i : Nat) (t : List Node) (u : Value), ts[i]? = some t → us[i]? = some u → Nds w (fun k => k < w.heap.size ∧ v.ownBlock ≠ some k) u t
theorem KidsM.nil (w : World) (base : Nat) : KidsM w base (.slice none 0 0) [] := ⟨[], rfl, Mine.nil _ _ _ _, (fun q h => by cases h), fun i t u h => by simp at h⟩
theorem KidsM.below {w w' : World} {base : Nat} {v : Value} {ts : List (List Node)} (h : KidsM w base v ts) (hb : Below w.heap.size w w') : KidsM w' base v ts := by
  obtain ⟨us, h1, h2, h3, h4⟩ := h
  refine ⟨us, h1, h2.below hb, fun q hq => Nat.lt_of_lt_of_le (h3 q hq) hb.size, fun i t u a b => ?_⟩
  exact ((h4 i t u a b).below hb (fun k hk => hk.1)).mono (fun k hk => ⟨Nat.lt_of_lt_of_le hk.1 hb.size, hk.2⟩)
theorem KidsM.parts {w : World} {base : Nat} {v : Value} {ts : List (List Node)} (h : KidsM w base v ts) : Parts w (fun k => k < w.heap.size) v ts := by
  obtain ⟨us, h1, h2, _, h4⟩ := h
  exact ⟨us, h1, h2.rd (fun g _ _ h => h), fun i t u a b => (h4 i t u a b).mono (fun k hk => hk.1)⟩
theorem KidsM.value {w : World} {base : Nat} {v : Value} {ts : List (List Node)} (h : KidsM w base v ts) : ∃ A c, v = .slice A ts.length c := by
  obtain ⟨us, _, h2, _⟩ := h
  exact h2.value
theorem KidsM.push {W w' : World} {base : Nat} {v v' u : Value} {ts : List (List Node)} {t : List Node} {us : List Value} (h1 : us.length = ts.length) (h4 : ∀ (i : Nat) (t : List Node) (u : Value), ts[i]? = some t → us[i]? = some u → Nds W (fun k => k < W.heap.size ∧ v.ownBlock ≠ some k) u t)
    (h3 : ∀ q, v.ownBlock = some q → q < W.heap.size) (hu : Nds W (fun k => k < W.heap.size ∧ v.ownBlock ≠ some k) u t) (hA : Appended W base 27 1 v (ts.length + 1) (us ++ [u]) v' w') : KidsM w' base v' (ts ++ [t]) := by
  have hT : ∀ k, k < W.heap.size ∧ v.ownBlock ≠ some k → k < w'.heap.size ∧ v'.ownBlock ≠ some k := by
    intro k hk
    refine ⟨Nat.lt_of_lt_of_le hk.1 hA.below.size, ?_⟩
    rcases hA.at_ with e | ⟨g, e, hg, _⟩
    · rw [e]; exact hk.2
    · rw [e]; intro e2; cases e2; omega
  have hK : ∀ {u t}, Nds W (fun k => k < W.heap.size ∧ v.ownBlock ≠ some k) u t → Nds w' (fun k => k < w'.heap.size ∧ v'.ownBlock ≠ some k) u t := fun h =>
    (h.keeps ⟨hA.keeps.size, fun k hk hl => hA.keeps.block k hk.2 hl⟩).mono hT
  refine ⟨us ++ [u], by simp [h1], ?_, ?_, ?_⟩
  · rw [List.length_append]; exact hA.mine
  · intro q hq
    rcases hA.at_ with e | ⟨g, e, _, hg⟩
    · rw [e] at hq; exact Nat.lt_of_lt_of_le (h3 q hq) hA.below.size
    · rw [e] at hq; cases hq; exact hg
  · intro i t' u' a b
    by_cases hi : i < ts.length
    · rw [List.getElem?_append_left hi] at a
      rw [List.getElem?_append_left (by omega)] at b
      exact hK (h4 i t' u' a b)
    · rw [List.getElem?_append_right (by omega)] at a
      rw [List.getElem?_append_right (by omega), h1] at b
      have e : i - ts.length = 0 := by
        have := (List.getElem?_eq_some_iff.1 a).1
        simp at this; omega
      rw [e] at a b
      simp at a b
      subst a b
      exact hK hu
theorem wpList_append_v {P : Program} {w W0 : World} {ops : Array Oper} {rest : List Oper} {o : Oper} {a : Act} {Q : Exit → Act → World → Prop} (hgd : o.guard = none) (s x : Operand) (t e : TypeId) (e' : TypeId)
    (ho : o.op = .call { callee := .builtin .append, args := #[s, x], argTypes := #[t, t] }) (ht : P.underlying t = some (.slice e)) {z : Value} {bytes : Nat} (HI : Hid (TyInfo P e z 1 bytes)) (hzs : z.cells.size = 1) (base : Nat) (v : Value) (n : Nat) (xs : List Value) (HM : Hid (Mine W0 base e 1 v n xs))
    (u : Value) (h1 : u.oneCell' = true) (hw : w = W0.alloc (.cells #[u] e')) (hs : a.eval s = v) {g : Nat} (hx : a.eval x = .slice (some ⟨g, 0, none⟩) 1 1) (hg : g = W0.heap.size) (hn : (n + 1) * bytes ≤ 140737488355328) (hb1 : 0 < bytes) (hb : base ≤ W0.heap.size)
    (h : ∀ v' w', Hid (Appended w base e 1 v (n + 1) (xs ++ [u]) v' w') → wpList P ops Q rest (a.put o.dst v') w') : wpList P ops Q (o :: rest) a w := by
  obtain ⟨i, hi, hz, hsz, hby⟩ := HI.out
  subst hw hg
  refine wpList_append_rd hgd s x t ho base e i z 1 bytes ht hi hz hsz hby hzs (by decide) v n xs hs (HM.out.alloc _) (T := fun _ => True) _ 1 [u] hx ?_ ?_ hn hb1 (Nat.le_trans hb (by simp)) (fun v' w' hA => h v' w' (hidden hA))
  · exact Rd.fresh (cs := [u]) (n := 1) (size := 1) rfl (Nat.le_refl _) (by decide) trivial rfl
  · intro y hy; simp at hy; subst hy; exact h1
theorem Own.ndsT {w : World} {B : Nat} {v : Value} {t : List Node} (h : Own w B v t) : Nds w (fun k => B ≤ k ∧ k < w.heap.size) v t := by
  obtain ⟨ls, h1, h2, h3⟩ := h
  exact ⟨ls, h1, h2.rd (fun g _ a b => ⟨a, b⟩), fun i x l a b => (h3 i x l a b).1.rd (fun g _ a b => ⟨a, b⟩)⟩
theorem own_leaf (W : World) (B : Nat) (n : Int) (hB : B ≤ W.heap.size) : Own (W.alloc (.cells #[.int .i64 3, .int .i64 n, .int .i64 1, .slice none 0 0, .string ⟨#[]⟩] 37)) B (.slice (some ⟨W.heap.size, 0, none⟩) 1 1) [leafN n] := by
  refine ⟨[.slice none 0 0], rfl, ?_, fun i x l a b => ?_⟩
  · exact Mine.made_at W W.heap.size 37 5 1 [.int .i64 3, .int .i64 n, .int .i64 1, .slice none 0 0, .string ⟨#[]⟩] rfl (by decide) rfl hB
  · cases i with
    | zero =>
      simp at a b
      subst a b
      exact ⟨Mine.nil _ _ _ _, fun g hg => by cases hg⟩
    | succ i => simp at a
/-- A part can be made: it ends, and it is not long. -/
def PartOk (ps : List Prod) (B : List Int) : Nat → Item → Prop
  | 0, _ => False
  | f + 1, y => y.rule = false ∨ ∃ (r j : Nat) (p : Prod), y.rule = true ∧ y.n = (r : Int) ∧ B[r]? = some (j : Int) ∧ ps[j]? = some p ∧ p.right.length ≤ 1000000 ∧ (∀ z ∈ p.right, PartOk ps B f z) ∧ (p.right.map (partL ps B f)).flatten.length ≤ 1000000
theorem part_fit (ps : List Prod) (B : List Int) : ∀ (f : Nat) (y : Item), Fit (partL ps B f y) := by
  intro f
  induction f with
  | zero => intro y x hx; cases hx
  | succ f ih =>
    intro y x hx
    rw [partL] at hx
    split at hx
    · simp at hx; subst hx; show 0 * 24 ≤ 140737488355328; decide
    · split at hx
      · cases hx
      · unfold oneOf at hx
        rcases List.mem_cons.1 hx with rfl | hx
        · show 0 * 24 ≤ 140737488355328; decide
        · rw [List.mem_flatten] at hx
          obtain ⟨l, hl, hx⟩ := hx
          rw [List.mem_map] at hl
          obtain ⟨z, _, rfl⟩ := hl
          exact ih z x hx
/-- What the closure finds. -/
structure PtAt (w0 W : World) (bg bb bf q R : Nat) (gc : Array Value) (B : List Int) : Prop where
  below : Below w0.heap.size w0 W
  g : Holds W bg 26 gc
  b : Holds W bb 57 #[.slice (some ⟨q, 0, none⟩) R R]
  q : IntsAt W q B
  f : Holds W bf 61 #[.func (.func 33) #[] #[.pointer (some ⟨bg, 0, none⟩), .pointer (some ⟨bb, 0, none⟩), .pointer (some ⟨bf, 0, none⟩)]]
theorem PtAt.later {w0 W W' : World} {bg bb bf q R : Nat} {gc : Array Value} {B : List Int} (h : PtAt w0 W bg bb bf q R gc B) (hb : Below W.heap.size W W') : PtAt w0 W' bg bb bf q R gc B :=
  ⟨h.below.trans (hb.mono h.below.size), h.g.below hb h.g.lt, h.b.below hb h.b.lt, Holds.below h.q hb h.q.lt, h.f.below hb h.f.lt⟩

set_option maxRecDepth 20000 in
set_option maxHeartbeats 16000000 in
theorem short_part (a b c : Value) (g : Gram) (w0 : World) (HG : GramIs w0 (Old w0) a b c g) (bg bb bf q : Nat) (B : List Int) (hBl : B.length = g.rules.length) : ∀ (f : Nat) (y : Item) (W : World), PartOk g.prods B f y → PtAt w0 W bg bb bf q g.rules.length (gramCells a b c g) B →
    Calls Try.prog 33 #[.agg (itV y), .pointer (some ⟨bg, 0, none⟩), .pointer (some ⟨bb, 0, none⟩), .pointer (some ⟨bf, 0, none⟩)] W fun r w' => (∃ u, r = .returned u ∧ Hid (Own w' W.heap.size u (partL g.prods B f y))) ∧ Below W.heap.size W w' := by
  intro f
  induction f with
  | zero => intro y W h; cases h
  | succ f ih =>
    intro y W hOk hAt
    have HIH := hidden ih
    have HAT := hidden hAt
    have HG2 := hidden HG
    clear ih
    obtain ⟨⟨A1, k1, rfl, v1, m1⟩, ⟨A2, k2, rfl, v2, m2⟩, ⟨A3, k3, rfl, v3, m3⟩⟩ := HG.vals
    obtain ⟨rl, yn, gp, ii⟩ := y
    unfold itV gramCells at *
    dsimp only at *
    have hb1 : Below W.heap.size W (W.alloc (.cells #[.bool rl, .int .i64 yn, .int .i64 gp, .int .i64 ii] 30)) := (Below.refl _ _).alloc (Nat.le_refl _) _
    have hbz1 := hb1.size
    rcases hOk with h0 | ⟨r, j, p, h0, h1, h2, h3, h4, h5, h6⟩
    · have h0 : rl = false := h0
      subst h0
      have HO := hidden (own_leaf (W.alloc (.cells #[.bool false, .int .i64 yn, .int .i64 gp, .int .i64 ii] 30)) W.heap.size yn hbz1)
      have hP : Hid (partL g.prods B (f + 1) ⟨false, yn, gp, ii⟩ = [leafN yn]) := hidden (by rw [partL, if_pos rfl])
      simp only [World.size_alloc] at HO
      generalize partL g.prods B (f + 1) ⟨false, yn, gp, ii⟩ = res at *
      clear hAt HG
      go_enter Try.func33, Try.ntmps33
      go_wp2
      go_ret
      exact ⟨⟨_, rfl, hidden (by rw [hP.out]; exact HO.out)⟩, hb1.alloc hbz1 _⟩
    · have h0 : rl = true := h0
      have h1 : yn = (r : Int) := h1
      subst h0 h1
      have hP : Hid (partL g.prods B (f + 1) ⟨true, (r : Int), gp, ii⟩ = oneOf (madeN (j : Int)) (p.right.map (partL g.prods B f))) := hidden (by
        rw [partL, if_neg (by simp), szI_at h2, Int.toNat_natCast, h3])
      generalize partL g.prods B (f + 1) ⟨true, (r : Int), gp, ii⟩ = res at *
      have hrl := (List.getElem?_eq_some_iff.1 h2).1
      have hjl := (List.getElem?_eq_some_iff.1 h3).1
      have hqr : (r : Int) < (g.rules.length : Int) := by omega
      have hqj : (j : Int) < (g.prods.length : Int) := by omega
      obtain ⟨bp, op, up, e7, _, hpat, hpin⟩ := Recs.at_ HG2.out.2.2 h3
      subst e7
      have p1 := hpat 1 _ rfl
      have hpin2 : Rd w0 (Old w0) 4 up p.right.length (p.right.flatMap itCells) := hpin
      obtain ⟨Ar, cr, rfl, hcr1, hcr2⟩ := hpin2.val
      have HPI := hidden hpin2
      have p1' : w0.cell? ⟨bp, op + j * 2 + 1, none⟩ = some (.slice Ar p.right.length cr) := p1
      have HAT1 := hidden (hAt.later hb1)
      have HI1 : Hid (Holds (W.alloc (.cells #[.bool true, .int .i64 (r : Int), .int .i64 gp, .int .i64 ii] 30)) W.heap.size 30 #[.bool true, .int .i64 (r : Int), .int .i64 gp, .int .i64 ii]) := hidden (Holds.new _ _ _)
      have H2 := hidden h2; have H5 := hidden h5; have H6 := hidden h6
      generalize hLL : p.right = L at *
      clear hpat hpin hpin2 p1 hAt HG h2 h3 h5 h6 hLL HAT
      go_enter Try.func33, Try.ntmps33
      go_upto_region 4 with fail
      generalize (W.alloc (.cells #[.bool true, .int .i64 (r : Int), .int .i64 gp, .int .i64 ii] 30)) = w1 at *
      have x2 : w1.cell? ⟨bg, 2, none⟩ = some (.slice (some ⟨bp, op, none⟩) g.prods.length k3) := HAT1.out.g.cell 2
      have x3 := HAT1.out.b.c0
      have x4 := IntsAt.at_ HAT1.out.q H2.out
      have x5 := HI1.out.cell 1
      have x6 := cellF p1' HAT1.out.below
      have e2 := Ext.cell x2; have e3 := Ext.cell x3; have e4 := Ext.cell x4; have e5 := Ext.cell x5; have e6 := Ext.cell x6
      go_wp2_with fail
      refine wp_region_ext (by kernel_rfl) (by kernel_rfl) ?_
      repeat (go_big_quiet_step (fail))
      refine wpQuiet_nil ?_
      intro w2 hb2
      clear e2 e3 e4 e5 e6 x2 x3 x4 x5 x6
      replace HAT1 := hidden (HAT1.out.later hb2)
      replace HI1 := hidden (HI1.out.below hb2 HI1.out.lt)
      replace hb1 := hb1.trans (hb2.mono hbz1)
      clear hb2 hbz1
      have hbz2 := hb1.size
      go_wp2
      go_loopw [6, 27] (fun kv iv wr => ∃ k : Nat, iv = .int .i64 k ∧ k ≤ L.length ∧ Hid (KidsM wr w2.heap.size kv ((L.take k).map (partL g.prods B f))) ∧ Hid (Below w2.heap.size w2 wr)) (fun kv iv wr => L.length - (intOf iv).toNat)
      case atStart => exact ⟨0, by go_num, Nat.zero_le _, hidden (KidsM.nil _ _), hidden (Below.refl _ _)⟩
      case round =>
        obtain ⟨k, rfl, hk, HK, HB⟩ := hrel
        obtain ⟨Av, cv, rfl⟩ := HK.out.value
        by_cases hlt : k < L.length
        · have qk : (k : Int) < (L.length : Int) := by omega
          have hz := List.getElem?_eq_getElem hlt
          have hzm := List.getElem_mem hlt
          generalize L[k] = z at *
          have htk : Hid ((L.take (k + 1)).map (partL g.prods B f) = (L.take k).map (partL g.prods B f) ++ [partL g.prods B f z]) := hidden (by rw [List.take_add_one, hz, List.map_append]; rfl)
          have hkl : ((L.take k).map (partL g.prods B f)).length ≤ 1000000 := by rw [List.length_map, List.length_take]; omega
          have hok := H5.out z hzm
          have HZ := hidden hok
          obtain ⟨zr, zn, zg, zi⟩ := z
          obtain ⟨bi, oi, rfl, i0, i1, i2, i3⟩ := items_at HPI.out hz
          dsimp only at i0 i1 i2 i3
          have hwr := HAT1.out.below.trans (HB.out.mono HAT1.out.below.size)
          replace i0 := cellF i0 hwr; replace i1 := cellF i1 hwr; replace i2 := cellF i2 hwr; replace i3 := cellF i3 hwr
          have hbz3 := HB.out.size
          have HATr := HAT1.out.later HB.out
          have HX := hidden (HIH.out ⟨zr, zn, zg, zi⟩ (wr.alloc (.cells #[.bool zr, .int .i64 zn, .int .i64 zg, .int .i64 zi] 30)) HZ.out (HATr.later ((Below.refl _ _).alloc (Nat.le_refl _) _)))
          have HK2 := hidden (HK.out.below ((Below.refl wr.heap.size wr).alloc (Nat.le_refl _) (.cells #[.bool zr, .int .i64 zn, .int .i64 zg, .int .i64 zi] 30)))
          have HB2 := hidden (HB.out.alloc hbz3 (.cells #[.bool zr, .int .i64 zn, .int .i64 zg, .int .i64 zi] 30))
          have x7 := HATr.f.c0
          have x7l := HATr.f.lt
          dsimp only at HX
          generalize partL g.prods B f ⟨zr, zn, zg, zi⟩ = pz at *
          generalize (L.take k).map (partL g.prods B f) = acc at *
          clear hz hzm hok HZ HK HB hwr HATr
          go_wp2_with fail
          refine HX.out.mono ?_
          rintro e w5 ⟨⟨u5, rfl, HO5⟩, hb5⟩
          obtain ⟨A5, c5, rfl⟩ : ∃ A5 c5, u5 = .slice A5 pz.length c5 := by obtain ⟨_, _, hm, _⟩ := HO5.out; exact hm.value
          obtain ⟨us, hu1, hu2, hu3, hu4⟩ := HK2.out.below hb5
          have hz5 := hb5.size
          have hov : ∀ q, (Value.slice Av acc.length cv).ownBlock = some q → q < (wr.alloc (.cells #[.bool zr, .int .i64 zn, .int .i64 zg, .int .i64 zi] 30)).heap.size := by
            obtain ⟨_, _, _, h, _⟩ := HK2.out
            exact h
          have HNd : Hid (Nds w5 (fun k => k < w5.heap.size ∧ (Value.slice Av acc.length cv).ownBlock ≠ some k) (.slice A5 pz.length c5) pz) := hidden ((Own.ndsT HO5.out).mono (fun k hk => ⟨hk.2, fun e => by have := hov k e; omega⟩))
          have hone : (Value.slice A5 pz.length c5).oneCell' = true := rfl
          have HM := hidden hu2
          have HU3 := hidden hu3
          have HU4 := hidden hu4
          have HB5 := hidden (HB2.out.trans (hb5.mono HB2.out.size))
          have hb5z := HB5.out.size
          clear HX HK2 HB2 hb5 HO5 hov hu2 hu3 hu4 i0 i1 i2 i3 x7
          go_wp2_with (at_builtin; refine wpList_append_v rfl _ _ 62 27 _ rfl (by kernel_rfl) nodes_info rfl w2.heap.size _ _ _ HM _ hone rfl rfl rfl (by first | rfl | simp) (by omega) (by decide) hb5z ?_; intro v' w' hA)
          have HKn : Hid (KidsM w' w2.heap.size v' (acc ++ [pz])) := hidden (KidsM.push hu1 (fun i t u a b => ((HU4.out i t u a b).alloc _).mono (fun k hk => ⟨by simp; omega, hk.2⟩)) (fun q hq => by have := HU3.out q hq; simp; omega) (((HNd.out).alloc _).mono (fun k hk => ⟨by simp; omega, hk.2⟩)) hA.out)
          have HBn := hidden ((HB5.out.alloc hb5z (.cells #[.slice A5 pz.length c5] 27)).trans hA.out.below)
          clear hA HNd HM HU3 HU4 HB5
          go_wp2
          go_roundw
          case rel => exact ⟨k + 1, by go_num, by omega, hidden (by rw [htk.out]; exact HKn.out), HBn⟩
          case measure => simp [intOf]; omega
        · obtain rfl : k = L.length := by omega
          have qk : ¬ (L.length : Int) < (L.length : Int) := by omega
          have htk : (L.take L.length).map (partL g.prods B f) = L.map (partL g.prods B f) := by rw [List.take_length]
          have HPt := hidden (HK.out.parts)
          rw [htk] at HPt ⊢
          have hwl : (L.map (partL g.prods B f)).length ≤ 1000000000 := by rw [List.length_map]; omega
          have HOn := hidden (fun (W' : World) (hb : Below wr.heap.size wr W') (v' : Value) (hv : Parts W' (fun k => k < W'.heap.size) v' (L.map (partL g.prods B f))) => arena_one (madeN (j : Int)) (.slice none 0 0) v' (L.map (partL g.prods B f)) W' hwl (by have := H6.out; omega) (fun t ht => by rw [List.mem_map] at ht; obtain ⟨z, _, rfl⟩ := ht; exact part_fit _ _ _ _) (by show 0 * 24 ≤ 140737488355328; decide) hv (Rd.nil _ _ _))
          have HX := hidden (HOn.out wr (Below.refl _ _) _ HPt.out)
          have HATr := HAT1.out.later HB.out
          have x3 := HATr.b.c0
          have x4 := IntsAt.at_ HATr.q H2.out
          have x5 : wr.cell? ⟨W.heap.size, 1, none⟩ = some (.int .i64 (r : Int)) := (HI1.out.below HB.out HI1.out.lt).cell 1
          have hbw := hb1.trans (HB.out.mono hbz2)
          have hbwz := hbw.size
          unfold madeN at HX
          dsimp only at HX
          clear HOn HPt HK HB HATr htk
          generalize L.map (partL g.prods B f) = kl at *
          go_wp2_with fail
          refine HX.out.mono ?_
          rintro e w6 ⟨⟨u6, rfl, HO6⟩, hb6⟩
          have hbf := hbw.trans (hb6.mono hbwz)
          have HOf : Hid (Own w6 W.heap.size u6 res) := hidden (by rw [hP.out]; exact Own.base HO6.out hbwz)
          clear HX HO6 hb6 hbw x3 x4 x5
          go_wp2
          go_ret
          exact ⟨⟨_, rfl, HOf⟩, hbf⟩
end Go.Proofs.Ytmmhkjdnejeooaa.T
