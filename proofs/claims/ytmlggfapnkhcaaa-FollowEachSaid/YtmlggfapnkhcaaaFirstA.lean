/-
  first.right, first.Of.
-/
import Derived.Test.YtmlggfapnkhcaaaFirstN
import Derived.Test.YtmlggfapnkhcaaaManyHas
namespace Go.Proofs.Ytmlggfapnkhcaaa
open Go.RowKit Go.Shelf
attribute [local simp] wide_fn

theorem heads_sub {em : List Bool} : ∀ {l : List Item} {x : Item}, x ∈ headsOf em l → x ∈ l := by
  intro l
  induction l with
  | nil => intro x hx; cases hx
  | cons y l ih =>
    intro x hx
    unfold headsOf at hx
    rcases List.mem_cons.1 hx with rfl | hx
    · simp
    · split at hx
      · exact List.mem_cons_of_mem _ (ih hx)
      · cases hx
theorem mem_range_set {f : Nat → Prop} {n : Nat} {z : Int} : z ∈ ((List.range n).filter fun (t : Nat) => holdsB (f t)).map (fun (t : Nat) => (t : Int)) ↔ 0 ≤ z ∧ z < n ∧ f z.toNat := by
  rw [List.mem_map]
  constructor
  · rintro ⟨t, ht, rfl⟩
    rw [List.mem_filter, List.mem_range] at ht
    refine ⟨by omega, by omega, ?_⟩
    have := ht.2
    rw [Int.toNat_natCast]
    simpa [holdsB] using this
  · rintro ⟨h0, h1, h2⟩
    refine ⟨z.toNat, ?_, by omega⟩
    rw [List.mem_filter, List.mem_range]
    exact ⟨by omega, by simpa [holdsB] using h2⟩
theorem mem_firstL {g : Gram} {em : List Bool} {n : Nat} {l : List Item} {z : Int} : z ∈ firstL g em n l ↔ 0 ≤ z ∧ z < n ∧ StartsL g em z l := by
  unfold firstL
  rw [mem_range_set (f := fun t => StartsL g em (t : Int) l)]
  constructor
  · rintro ⟨h0, h1, h2⟩; rw [show ((z.toNat : Nat) : Int) = z by omega] at h2; exact ⟨h0, h1, h2⟩
  · rintro ⟨h0, h1, h2⟩; refine ⟨h0, h1, ?_⟩; rw [show ((z.toNat : Nat) : Int) = z by omega]; exact h2
theorem mem_firstR {g : Gram} {em : List Bool} {n : Nat} {r z : Int} : z ∈ firstR g em n r ↔ 0 ≤ z ∧ z < n ∧ Begins g em z r := by
  unfold firstR
  rw [mem_range_set (f := fun t => Begins g em (t : Int) r)]
  constructor
  · rintro ⟨h0, h1, h2⟩; rw [show ((z.toNat : Nat) : Int) = z by omega] at h2; exact ⟨h0, h1, h2⟩
  · rintro ⟨h0, h1, h2⟩; refine ⟨h0, h1, ?_⟩; rw [show ((z.toNat : Nat) : Int) = z by omega]; exact h2
theorem allF_len (g : Gram) (em : List Bool) : (allF g em).length = g.rules.length := by simp [allF]
theorem allF_at {g : Gram} {em : List Bool} {r : Nat} (h : r < g.rules.length) : (allF g em)[r]? = some (firstR g em g.toks.length (r : Int)) := by
  unfold allF
  rw [List.getElem?_map, List.getElem?_range h]; rfl
theorem bd_firstR (g : Gram) (em : List Bool) (n : Nat) (r : Int) : Bd n (firstR g em n r) := ⟨asc_range _ _, fun z hz => by have := mem_firstR.1 hz; exact ⟨this.1, this.2.1⟩⟩
theorem bd_allF (g : Gram) (em : List Bool) : ∀ r ∈ allF g em, Bd g.toks.length r := by
  intro r hr
  unfold allF at hr
  obtain ⟨i, _, rfl⟩ := List.mem_map.1 hr
  exact bd_firstR _ _ _ _
theorem of_all {g : Gram} {em : List Bool} {l : List Item} (hi : itemsIn g l = true) : ofF em (allF g em) l [] = firstL g em g.toks.length l := by
  refine asc_ext (asc_ofF (fun r hr => (bd_allF g em r hr).1) _ _ List.Pairwise.nil) (asc_range _ _) (fun z => ?_)
  rw [mem_ofF, mem_firstL]
  have hrow : ∀ x ∈ l, x.rule = true → (allF g em).getD x.n.toNat [] = firstR g em g.toks.length x.n := fun x hx hr => by
    have hb := itemsIn_rule hi hx hr
    rw [List.getD_eq_getElem?_getD, allF_at (by omega), show ((x.n.toNat : Nat) : Int) = x.n by omega]; rfl
  constructor
  · rintro (h | ⟨x, hx, ⟨h1, h2⟩ | ⟨h1, h2⟩⟩)
    · cases h
    · have := itemsIn_tok hi (heads_sub hx) h1
      exact ⟨by omega, by omega, x, hx, .inl ⟨h1, h2⟩⟩
    · rw [hrow x (heads_sub hx) h1] at h2
      obtain ⟨a, b, c⟩ := mem_firstR.1 h2
      exact ⟨a, b, x, hx, .inr ⟨h1, c⟩⟩
  · rintro ⟨h0, h1, x, hx, ⟨h2, h3⟩ | ⟨h2, h3⟩⟩
    · exact .inr ⟨x, hx, .inl ⟨h2, h3⟩⟩
    · refine .inr ⟨x, hx, .inr ⟨h2, ?_⟩⟩
      rw [hrow x (heads_sub hx) h2]
      exact mem_firstR.2 ⟨h0, h1, h3⟩
theorem itemsOk_in {g : Gram} {l : List Item} (hi : itemsIn g l = true) {n : Nat} (hn : n = g.rules.length) : ItemsOk g.toks.length n l := by
  subst hn
  exact ⟨fun x hx h => itemsIn_tok hi hx h, fun x hx h => itemsIn_rule hi hx h⟩

set_option maxRecDepth 20000 in
set_option maxHeartbeats 8000000 in
theorem first_right (a b c v : Value) (g : Gram) (l : List Item) (w : World) (HG : GramIs w (Old w) a b c g) (hR : Rd w (Old w) 4 v l.length (l.flatMap itCells)) :
    Calls Try.prog 64 #[.agg (gramCells a b c g), v] w fun r w' => r = .returned (.bool (itemsIn g l)) ∧ Below w.heap.size w w' := by
  obtain ⟨⟨A1, k1, rfl, v1, m1⟩, ⟨A2, k2, rfl, v2, m2⟩, ⟨A3, k3, rfl, v3, m3⟩⟩ := HG.vals
  obtain ⟨A, c, rfl, hc1, hc2⟩ := hR.val
  unfold maxLen at hc2 m1 m2
  have HRo := hidden (fun (w' : World) (hb : Below w.heap.size w w') => Rd.old hR hb)
  have HF : Hid (∀ (k : Nat) x, l[k]? = some x → itemIn g x = false → itemsIn g l = false) := hidden (fun k x h1 h2 => by
    rw [Bool.eq_false_iff]; intro h; unfold itemsIn at h; rw [List.all_eq_true] at h
    have := h x (List.mem_of_getElem? h1); rw [h2] at this; cases this)
  have HT : Hid ((∀ (k : Nat) x, k < l.length → l[k]? = some x → itemIn g x = true) → itemsIn g l = true) := hidden (fun h => by
    unfold itemsIn
    rw [List.all_eq_true]; intro x hx
    obtain ⟨k, hk, e⟩ := List.mem_iff_getElem.1 hx
    exact h k x hk (by rw [List.getElem?_eq_getElem hk, e]))
  have HIc := hidden (itemIn_cases g)
  generalize itemsIn g l = r at *
  unfold gramCells
  clear HG hR
  go_enter Try.func64, Try.ntmps64
  go_wp2
  go_loopw [10] (fun ii wr => ∃ k : Nat, k ≤ l.length ∧ ii = .int .i64 k ∧ Hid (∀ (j : Nat) x, j < k → l[j]? = some x → itemIn g x = true) ∧ Below w.heap.size w wr ∧ w.heap.size + 1 ≤ wr.heap.size
    ∧ Hid (Holds wr w.heap.size 26 #[.slice A1 g.toks.length k1, .slice A2 g.rules.length k2, .slice A3 g.prods.length k3, .int .i64 g.start, .int .i64 g.states, .int .i64 g.text, .int .i64 g.nodes, .int .i64 g.pairs])) (fun ii _ => l.length - (intOf ii).toNat)
  case atStart => exact ⟨0, by omega, by go_num, hidden (fun m x h => by omega), (by repeat (first | (with_reducible exact Below.refl _ _) | (with_reducible assumption) | (with_reducible refine Below.drew ?_) | (with_reducible refine below_drewN ?_ _) | ((with_reducible refine below_alloc ?_ ?_); (focus (first | omega | (simp; done) | (simp; omega)))) | ((with_reducible refine below_set ?_ ?_); (focus (first | omega | (simp; done) | (simp; omega)))))), by simp, hidden (by repeat (first | (with_reducible assumption) | ((with_reducible refine holds_new ?_); (focus (first | rfl | (simp; done)))) | (with_reducible refine Holds.alloc ?_ _) | (with_reducible refine Holds.drew ?_)))⟩
  case round =>
    obtain ⟨k, hk, rfl, HN, hb, hz, P3⟩ := hrel
    by_cases hlt : k < l.length
    · have hx := List.getElem?_eq_getElem hlt
      generalize l[k] = x at *
      obtain ⟨b, off, rfl, hT, hat⟩ := (HRo.out _ hb).flat_at (fun _ => rfl) (by decide) hx
      have hT : b < wr.heap.size := hT
      have y0 : wr.cell? ⟨b, off + k * 4, none⟩ = some (.bool x.rule) := hat 0 _ rfl
      have y1 : wr.cell? ⟨b, off + k * 4 + 1, none⟩ = some (.int .i64 x.n) := hat 1 _ rfl
      have y2 : wr.cell? ⟨b, off + k * 4 + 2, none⟩ = some (.int .i64 x.gap) := hat 2 _ rfl
      have y3 : wr.cell? ⟨b, off + k * 4 + 3, none⟩ = some (.int .i64 x.in_) := hat 3 _ rfl
      have HNx : Hid (itemIn g x = true → ∀ (j : Nat) y, j < k + 1 → l[j]? = some y → itemIn g y = true) := hidden (fun h j y hj hy => by
        by_cases e : j = k
        · subst e; rw [hx] at hy; cases hy; exact h
        · exact HN.out j y (by omega) hy)
      have HFx := hidden (HF.out k x hx)
      obtain ⟨s0, s1, s2, s3, s4, s5, s6, s7⟩ := eight P3.out
      have hcs := HIc.out x
      clear hat hx s2 s3 s4 s5 s6 s7
      generalize itemIn g x = ok at *
      have hl1 : w.heap.size < wr.heap.size := P3.out.lt
      have hrl : x.rule = true ∨ x.rule = false := by cases x.rule <;> simp
      rcases hcs with ⟨rfl, h1 | ⟨h0, h2, h1⟩ | ⟨h0, h2, h1⟩⟩ | ⟨rfl, ⟨h0, h2, h1⟩ | ⟨h0, h2, h1⟩⟩
      · rcases hrl with h2 | h2
        · have HE := hidden (HFx.out rfl)
          clear HNx HFx HN HT HF HIc
          rw [h2] at y0
          clear h2
          have d0 : decide (x.n < 0) = true := decide_eq_true (by omega)
          clear h1
          go_wp2
          go_ret
          exact ⟨by rw [HE.out]; rfl, (by repeat (first | (with_reducible exact Below.refl _ _) | (with_reducible assumption) | (with_reducible refine Below.drew ?_) | (with_reducible refine below_drewN ?_ _) | ((with_reducible refine below_alloc ?_ ?_); (focus (first | omega | (simp; done) | (simp; omega)))) | ((with_reducible refine below_set ?_ ?_); (focus (first | omega | (simp; done) | (simp; omega))))))⟩
        · have HE := hidden (HFx.out rfl)
          clear HNx HFx HN HT HF HIc
          rw [h2] at y0
          clear h2
          have d0 : decide (x.n < 0) = true := decide_eq_true (by omega)
          clear h1
          go_wp2
          go_ret
          exact ⟨by rw [HE.out]; rfl, (by repeat (first | (with_reducible exact Below.refl _ _) | (with_reducible assumption) | (with_reducible refine Below.drew ?_) | (with_reducible refine below_drewN ?_ _) | ((with_reducible refine below_alloc ?_ ?_); (focus (first | omega | (simp; done) | (simp; omega)))) | ((with_reducible refine below_set ?_ ?_); (focus (first | omega | (simp; done) | (simp; omega))))))⟩
      · clear hrl
        have HE := hidden (HFx.out rfl)
        clear HNx HFx HN HT HF HIc
        rw [h2] at y0
        clear h2
        have d0 : decide (x.n < 0) = false := decide_eq_false (by omega)
        have d1 : decide ((g.rules.length : Int) ≤ x.n) = true := decide_eq_true (by omega)
        clear h0 h1
        go_wp2
        go_ret
        exact ⟨by rw [HE.out]; rfl, (by repeat (first | (with_reducible exact Below.refl _ _) | (with_reducible assumption) | (with_reducible refine Below.drew ?_) | (with_reducible refine below_drewN ?_ _) | ((with_reducible refine below_alloc ?_ ?_); (focus (first | omega | (simp; done) | (simp; omega)))) | ((with_reducible refine below_set ?_ ?_); (focus (first | omega | (simp; done) | (simp; omega))))))⟩
      · clear hrl
        have HE := hidden (HFx.out rfl)
        clear HNx HFx HN HT HF HIc
        rw [h2] at y0
        clear h2
        have d0 : decide (x.n < 0) = false := decide_eq_false (by omega)
        have d1 : decide ((g.toks.length : Int) ≤ x.n) = true := decide_eq_true (by omega)
        clear h0 h1
        go_wp2
        go_ret
        exact ⟨by rw [HE.out]; rfl, (by repeat (first | (with_reducible exact Below.refl _ _) | (with_reducible assumption) | (with_reducible refine Below.drew ?_) | (with_reducible refine below_drewN ?_ _) | ((with_reducible refine below_alloc ?_ ?_); (focus (first | omega | (simp; done) | (simp; omega)))) | ((with_reducible refine below_set ?_ ?_); (focus (first | omega | (simp; done) | (simp; omega))))))⟩
      · clear hrl
        have HN2 := hidden (HNx.out rfl)
        clear HNx HFx HN
        rw [h2] at y0
        clear h2
        have d0 : decide (x.n < 0) = false := decide_eq_false (by omega)
        have d1 : decide ((g.rules.length : Int) ≤ x.n) = false := decide_eq_false (by omega)
        clear h0 h1
        go_wp2
        go_roundw
        case rel => exact ⟨k + 1, by omega, by go_num, HN2, (by repeat (first | (with_reducible exact Below.refl _ _) | (with_reducible assumption) | (with_reducible refine Below.drew ?_) | (with_reducible refine below_drewN ?_ _) | ((with_reducible refine below_alloc ?_ ?_); (focus (first | omega | (simp; done) | (simp; omega)))) | ((with_reducible refine below_set ?_ ?_); (focus (first | omega | (simp; done) | (simp; omega)))))), by simp; omega, hidden (P3.out.alloc _)⟩
        case measure => simp [intOf]; omega
      · clear hrl
        have HN2 := hidden (HNx.out rfl)
        clear HNx HFx HN
        rw [h2] at y0
        clear h2
        have d0 : decide (x.n < 0) = false := decide_eq_false (by omega)
        have d1 : decide ((g.toks.length : Int) ≤ x.n) = false := decide_eq_false (by omega)
        clear h0 h1
        go_wp2
        go_roundw
        case rel => exact ⟨k + 1, by omega, by go_num, HN2, (by repeat (first | (with_reducible exact Below.refl _ _) | (with_reducible assumption) | (with_reducible refine Below.drew ?_) | (with_reducible refine below_drewN ?_ _) | ((with_reducible refine below_alloc ?_ ?_); (focus (first | omega | (simp; done) | (simp; omega)))) | ((with_reducible refine below_set ?_ ?_); (focus (first | omega | (simp; done) | (simp; omega)))))), by simp; omega, hidden (P3.out.alloc _)⟩
        case measure => simp [intOf]; omega
    · obtain rfl : k = l.length := by omega
      have HE := hidden (HT.out (fun j x h1 h2 => HN.out j x h1 h2))
      go_wp2
      go_ret
      exact ⟨by rw [HE.out]; rfl, hb⟩
set_option maxRecDepth 20000 in
set_option maxHeartbeats 8000000 in
theorem first_Of (a b c v : Value) (g : Gram) (l : List Item) (w : World) (HG : GramIs w (Old w) a b c g) (hsm : Small g) (hR : Rd w (Old w) 4 v l.length (l.flatMap itCells)) :
    Calls Try.prog 19 #[.agg (gramCells a b c g), v] w fun r w' => (∃ u, r = .returned u ∧ Hid (Ints w' (Old w') u (firsts22 g l))) ∧ Below w.heap.size w w' := by
  have HKn := hidden (fun (w' : World) (hb : Below w.heap.size w w') => first_know a b c g w' (HG.old hb) hsm)
  have HRg := hidden (fun (w' : World) (hb : Below w.heap.size w w') => first_right a b c v g l w' (HG.old hb) (Rd.old hR hb))
  have HRo := hidden (fun (w' : World) (hb : Below w.heap.size w w') => Rd.old hR hb)
  have hN := hsm.toks
  obtain ⟨⟨A1, k1, rfl, v1, m1⟩, ⟨A2, k2, rfl, v2, m2⟩, ⟨A3, k3, rfl, v3, m3⟩⟩ := HG.vals
  obtain ⟨A, c, rfl, hc1, hc2⟩ := hR.val
  have hb0 : Below w.heap.size w (w.alloc (.cells #[.slice A1 g.toks.length k1, .slice A2 g.rules.length k2, .slice A3 g.prods.length k3, .int .i64 g.start, .int .i64 g.states, .int .i64 g.text, .int .i64 g.nodes, .int .i64 g.pairs] 26)) := (by repeat (first | (with_reducible exact Below.refl _ _) | (with_reducible assumption) | (with_reducible refine Below.drew ?_) | (with_reducible refine below_drewN ?_ _) | ((with_reducible refine below_alloc ?_ ?_); (focus (first | omega | (simp; done) | (simp; omega)))) | ((with_reducible refine below_set ?_ ?_); (focus (first | omega | (simp; done) | (simp; omega))))))
  have HB0 := hidden (Holds.new w 26 #[.slice A1 g.toks.length k1, .slice A2 g.rules.length k2, .slice A3 g.prods.length k3, .int .i64 g.start, .int .i64 g.states, .int .i64 g.text, .int .i64 g.nodes, .int .i64 g.pairs])
  generalize hP : firsts22 g l = P
  have HP := hidden hP
  clear HG hR hP hsm
  unfold gramCells at *
  go_enter Try.func19, Try.ntmps19
  obtain ⟨s0, s1, s2, s3, s4, s5, s6, s7⟩ := eight22 HB0.out
  go_wp2_with fail
  refine (HKn.out _ hb0).mono ?_
  rintro r w2 ⟨⟨vk, rfl, hk⟩, hb2⟩
  replace HB0 := hidden (HB0.out.below hb2 HB0.out.lt)
  replace hb0 := hb0.trans (hb2.mono hb0.size)
  clear s0 s1 s2 s3 s4 s5 s6 s7 hb2 HKn
  cases hg : rightB g with
  | false =>
    have hk := hk.out
    unfold KnownIs at hk
    rw [hg] at hk
    obtain rfl : vk = .pointer none := hk
    have HE : Hid (P = []) := hidden (by rw [← HP.out]; unfold firsts22; rw [hg]; rfl)
    go_wp2
    go_ret
    exact ⟨⟨_, rfl, hidden (by rw [HE.out]; exact Rd.nil _ _ _)⟩, by first | exact hb0 | exact hb0.drew | exact below_drewN hb0 _⟩
  | true =>
    have hk := hk.out
    unfold KnownIs at hk
    rw [if_pos hg] at hk
    obtain ⟨K, q, qe, rfl, hq, hka⟩ := hk
    have HKa := hidden hka
    clear hka
    obtain ⟨s0, s1, s2, s3, s4, s5, s6, s7⟩ := eight22 HB0.out
    go_wp2_with fail
    refine (HRg.out _ (by (first | assumption | exact Below.drew (Below.refl _ _) | exact Below.refl _ _))).mono ?_
    rintro r w3 ⟨rfl, hb3⟩
    replace HKa := hidden (HKa.out.later hb3)
    replace hb0 := hb0.trans (hb3.mono hb0.size)
    clear s0 s1 s2 s3 s4 s5 s6 s7 hb3 HRg
    cases hi : itemsIn g l with
    | false =>
      have HE : Hid (P = []) := hidden (by rw [← HP.out]; unfold firsts22; rw [hi, Bool.and_false]; rfl)
      go_wp2
      go_ret
      exact ⟨⟨_, rfl, hidden (by rw [HE.out]; exact Rd.nil _ _ _)⟩, hb0⟩
    | true =>
      have HE : Hid (P = ofF (growsB g false) (allF g (growsB g false)) l []) := hidden (by rw [← HP.out, of_all hi]; unfold firsts22; rw [hg, hi]; rfl)
      have HOf := hidden (known_of w3 K q g.toks.length _ (.slice A l.length c) (growsB g false) (allF g (growsB g false)) l HKa.out (bd_allF g _) hN (by rw [growsB_len, allF_len]) (itemsOk_in hi (allF_len g _)) (HRo.out _ hb0))
      go_wp2_with fail
      refine HOf.out.mono ?_
      rintro r w4 ⟨⟨u, rfl, hu, _⟩, hb4⟩
      obtain ⟨Au, cu, rfl, _, _⟩ := hu.out.rd.val
      have HU : Hid (Ints w4 (Old w4) (.slice Au (ofF (growsB g false) (allF g (growsB g false)) l []).length cu) P) := hidden (by rw [HE.out]; exact RowM.rd hu.out)
      have hbe := hb0.trans (hb4.mono hb0.size)
      clear hu hb4 HOf HKa
      generalize ofF (growsB g false) (allF g (growsB g false)) l [] = X at *
      go_wp2
      go_ret
      exact ⟨⟨_, rfl, HU⟩, hbe⟩
end Go.Proofs.Ytmlggfapnkhcaaa
