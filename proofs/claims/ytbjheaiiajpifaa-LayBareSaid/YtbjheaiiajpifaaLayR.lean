/-
  law38: LayBare.
-/
import Derived.Test.YtbjheaiiajpifaaLayO
import Derived.Test.YtbjheaiiajpifaaLayP
import Derived.Test.YtbjheaiiajpifaaTake2
namespace Go.Proofs.Ytbjheaiiajpifaa.T
open Go.RowKit Go.Shelf
attribute [local simp] wide_fn

set_option maxRecDepth 50000 in
theorem pl_eq_run (w : World) (x y : Plc) : (Op.equalIn 10000 82 (.agg #[.int .i64 x.node, .int .i64 x.gap, .int .i64 x.in_]) (.agg #[.int .i64 y.node, .int .i64 y.gap, .int .i64 y.in_])).run Try.prog w = .ok (x.node == y.node && (x.gap == y.gap && x.in_ == y.in_)) w := by
  rw [show (10000 : Nat) = 9999 + 1 from rfl, run_equalIn_agg _ _ _ _ _ (by kernel_rfl) (by kernel_rfl)]
  obtain ⟨f0, f1, f2, hl, n0, n1, n2, o0, o1, o2, t0, t1, t2⟩ : ∃ f0 f1 f2 : Field, (Try.prog.fieldsOf 82).toList = [f0, f1, f2] ∧ f0.name ≠ "_" ∧ f1.name ≠ "_" ∧ f2.name ≠ "_" ∧ f0.offset = 0 ∧ f1.offset = 1 ∧ f2.offset = 2 ∧ f0.type = 3 ∧ f1.type = 78 ∧ f2.type = 3 := ⟨_, _, _, rfl, by decide, by decide, by decide, rfl, rfl, rfl, rfl, rfl, rfl⟩
  have hu0 : Try.prog.underlying 78 = some (.int .i64) := by kernel_rfl
  have hu1 : Try.prog.underlying 3 = some (.int .i64) := by kernel_rfl
  rw [hl]
  simp only [Op.eqFields, n0, n1, n2, o0, o1, o2, t0, t1, t2, ne_eq, not_false_eq_true, if_true]
  have p0 : ∀ (a b c : Value), (part 3 #[a, b, c] 0).run Try.prog w = .ok a w := fun _ _ _ => by kernel_rfl
  have p1 : ∀ (a b c : Value), (part 78 #[a, b, c] 1).run Try.prog w = .ok b w := fun _ _ _ => by kernel_rfl
  have p2 : ∀ (a b c : Value), (part 3 #[a, b, c] 2).run Try.prog w = .ok c w := fun _ _ _ => by kernel_rfl
  simp only [Sem.run_bind, p0, p1, p2, Result.andThen_ok, run_equalIn_int w _ _ _ _ _ _ hu0, run_equalIn_int w _ _ _ _ _ _ hu1, Sem.run_ite, Sem.run_pure]
  cases x.node == y.node <;> cases x.gap == y.gap <;> cases x.in_ == y.in_ <;> simp

theorem keep38 {wr w1 w2 : World} {p : Nat} {t : TypeId} {a b c d e f g h : Value} (H : Holds wr p t #[a, b, c, d, e, f, g, h]) (hb : Below wr.heap.size wr w1) (hb2 : Below w1.heap.size w1 w2) :
    w2.cell? ⟨p, 0, none⟩ = some a ∧ w2.cell? ⟨p, 1, none⟩ = some b ∧ w2.cell? ⟨p, 2, none⟩ = some c ∧ w2.cell? ⟨p, 3, none⟩ = some d ∧ w2.cell? ⟨p, 4, none⟩ = some e ∧ w2.cell? ⟨p, 5, none⟩ = some f ∧ w2.cell? ⟨p, 6, none⟩ = some g ∧ w2.cell? ⟨p, 7, none⟩ = some h ∧ Below wr.heap.size wr w2 := by
  have hb3 := hb.trans (hb2.mono hb.size)
  obtain ⟨x0, x1, x2, x3, x4, x5, x6, x7⟩ := eight38 (H.below hb3 H.lt)
  exact ⟨x0, x1, x2, x3, x4, x5, x6, x7, hb3⟩
/-- The cells of the i-th node when the first k are bare. -/
def bareCs (s : ByteArray) (k i : Nat) (x : Node) (l : Value) : List Value := if i < k ∧ textedK x.kind then ndCells (bareN s x) (.slice none 0 0) else ndCells x l
/-- The call's own copy of nodes, of which the first k are bare. -/
def BareAt (W : World) (gB : Nat) (s : ByteArray) (t : List Node) (ls : List Value) (k : Nat) : Prop :=
  ∃ cs, Holds W gB 58 cs ∧ ∀ i x l, t[i]? = some x → ls[i]? = some l → ∀ j u, (bareCs s k i x l)[j]? = some u → cs[i * 5 + j]? = some u
theorem bareCs_len (s : ByteArray) (k i : Nat) (x : Node) (l : Value) : (bareCs s k i x l).length = 5 := by unfold bareCs; split <;> rfl
theorem BareAt.below {W W' : World} {gB : Nat} {s : ByteArray} {t : List Node} {ls : List Value} {k : Nat} (h : BareAt W gB s t ls k) (hb : Below W.heap.size W W') : BareAt W' gB s t ls k := by
  obtain ⟨cs, h1, h2⟩ := h
  exact ⟨cs, h1.below hb h1.lt, h2⟩
theorem bareCs_zero (s : ByteArray) (i : Nat) (x : Node) (l : Value) : bareCs s 0 i x l = ndCells x l := by unfold bareCs; rw [if_neg (by omega)]
theorem all_at {t : List Node} {ls : List Value} {i : Nat} {x : Node} {l : Value} (hx : t[i]? = some x) (hl : ls[i]? = some l) {j : Nat} {u : Value} (hu : (ndCells x l)[j]? = some u) : (allCells t ls)[i * 5 + j]? = some u := by
  have hz : (t.zip ls)[i]? = some (x, l) := by rw [List.getElem?_zip_eq_some]; exact ⟨hx, hl⟩
  have hj : j < 5 := by have := (List.getElem?_eq_some_iff.1 hu).1; simpa [ndCells] using this
  have := Go.Proofs.Ytbjheaiiajpifaa.flat_at (fun x : Node × Value => ndCells x.1 x.2) 5 (fun _ => rfl) (t.zip ls) i j _ hz hj
  unfold allCells
  rw [this]
  exact hu
theorem BareAt.start {W : World} {gB n : Nat} {s : ByteArray} {t : List Node} {ls : List Value} {cs : Array Value} (h : Holds W gB 58 cs) (he : cs.toList.take (n * 5) = allCells t ls) : BareAt W gB s t ls 0 := by
  refine ⟨cs, h, fun i x l hx hl j u hu => ?_⟩
  rw [bareCs_zero] at hu
  have h1 := all_at hx hl hu
  rw [← he, List.getElem?_take] at h1
  split at h1
  · simpa using h1
  · cases h1
theorem bareCs_other {s : ByteArray} {k i : Nat} {x : Node} {l : Value} (h : i ≠ k ∨ ¬ textedK x.kind) : bareCs s (k + 1) i x l = bareCs s k i x l := by
  unfold bareCs
  by_cases h1 : i < k ∧ textedK x.kind
  · rw [if_pos h1, if_pos ⟨by omega, h1.2⟩]
  · rw [if_neg h1, if_neg (fun h2 => h1 ⟨by rcases h with h | h; omega; exact absurd h2.2 h, h2.2⟩)]
theorem BareAt.skip {W : World} {gB : Nat} {s : ByteArray} {t : List Node} {ls : List Value} {k : Nat} {y : Node} (h : BareAt W gB s t ls k) (hy : t[k]? = some y) (hn : ¬ textedK y.kind) : BareAt W gB s t ls (k + 1) := by
  obtain ⟨cs, h1, h2⟩ := h
  refine ⟨cs, h1, fun i x l hx hl j u hu => ?_⟩
  rw [bareCs_other] at hu
  · exact h2 i x l hx hl j u hu
  · by_cases e : i = k
    · subst e
      rw [hy] at hx
      cases hx
      exact .inr hn
    · exact .inl e
theorem BareAt.put {W : World} {gB : Nat} {s : ByteArray} {t : List Node} {ls : List Value} {k : Nat} {y : Node} {ly : Value} (h : BareAt W gB s t ls k) (hy : t[k]? = some y) (hly : ls[k]? = some ly) (ht : textedK y.kind) :
    BareAt ((W.setCell ⟨gB, k * 5 + 3, none⟩ (.slice none 0 0)).setCell ⟨gB, k * 5 + 4, none⟩ (.string s)) gB s t ls (k + 1) := by
  obtain ⟨cs, h1, h2⟩ := h
  have hu : bareCs s k k y ly = ndCells y ly := by unfold bareCs; rw [if_neg (by omega)]
  have e4 := h2 k y ly hy hly 4 _ (by rw [hu]; rfl)
  have hsz := (Array.getElem?_eq_some_iff.1 e4).1
  refine ⟨_, (h1.set (k * 5 + 3) (.slice none 0 0)).set (k * 5 + 4) (.string s), fun i x l hx hl j u hj => ?_⟩
  have hj5 : j < 5 := by have := (List.getElem?_eq_some_iff.1 hj).1; rwa [bareCs_len] at this
  by_cases e : i = k
  · subst e
    rw [hy] at hx
    rw [hly] at hl
    cases hx
    cases hl
    have hnew : bareCs s (i + 1) i y ly = ndCells (bareN s y) (.slice none 0 0) := by unfold bareCs; rw [if_pos ⟨by omega, ht⟩]
    rw [hnew] at hj
    have hbn : bareN s y = ⟨y.kind, y.n, y.size, [], s⟩ := by unfold bareN; rw [if_pos ht]
    rw [hbn] at hj
    have hold := fun j u hj => h2 i y ly hy hly j u (by rw [hu]; exact hj)
    have hc : j = 0 ∨ j = 1 ∨ j = 2 ∨ j = 3 ∨ j = 4 := by omega
    rcases hc with rfl | rfl | rfl | rfl | rfl
    · cases hj
      rw [Array.getElem?_setIfInBounds_ne (by omega), Array.getElem?_setIfInBounds_ne (by omega)]
      exact hold 0 _ rfl
    · cases hj
      rw [Array.getElem?_setIfInBounds_ne (by omega), Array.getElem?_setIfInBounds_ne (by omega)]
      exact hold 1 _ rfl
    · cases hj
      rw [Array.getElem?_setIfInBounds_ne (by omega), Array.getElem?_setIfInBounds_ne (by omega)]
      exact hold 2 _ rfl
    · cases hj
      rw [Array.getElem?_setIfInBounds_ne (by omega), Array.getElem?_setIfInBounds_self_of_lt (by omega)]
    · cases hj
      rw [Array.getElem?_setIfInBounds_self_of_lt (by rw [Array.size_setIfInBounds]; omega)]
  · rw [bareCs_other (.inl e)] at hj
    rw [Array.getElem?_setIfInBounds_ne (by omega), Array.getElem?_setIfInBounds_ne (by omega)]
    exact h2 i x l hx hl j u hj
/-- All are bare. -/
theorem BareAt.done {W : World} {gB cap : Nat} {s : ByteArray} {t : List Node} {ls : List Value} (h : BareAt W gB s t ls t.length) (hl : ls.length = t.length) (h1 : t.length ≤ cap) (h2 : cap ≤ maxLen)
    (hp : ∀ (i : Nat) (x : Node) (l : Value), t[i]? = some x → ls[i]? = some l → Pcs W (Old W) l x.lead) : Nds W (Old W) (.slice (some ⟨gB, 0, none⟩) t.length cap) (t.map (bareN s)) := by
  obtain ⟨cs, hh, hc⟩ := h
  have hlen : (t.map (bareN s)).length = t.length := List.length_map _
  refine ⟨(t.zip ls).map (fun p => if textedK p.1.kind then .slice none 0 0 else p.2), by simp [hl], ?_, fun i x l hx hl' => ?_⟩
  · rw [hlen]
    have hal : (allCells (t.map (bareN s)) ((t.zip ls).map (fun p => if textedK p.1.kind then .slice none 0 0 else p.2))).length = t.length * 5 := by
      rw [allCells_len _ _ (by simp [hl]), hlen]
    refine ⟨hal, _, cap, rfl, h1, h2, fun _ => ⟨gB, 0, rfl, hh.lt, fun j u hu => ?_⟩⟩
    have hj : j < t.length * 5 := by rw [← hal]; exact (List.getElem?_eq_some_iff.1 hu).1
    have hi : j / 5 < t.length := by omega
    have hr : j % 5 < 5 := by omega
    have hx := List.getElem?_eq_getElem hi
    have hlx : ls[j / 5]? = some ls[j / 5] := List.getElem?_eq_getElem (by omega)
    have hz : ((t.map (bareN s)).zip ((t.zip ls).map (fun p => if textedK p.1.kind then Value.slice none 0 0 else p.2)))[j / 5]? = some (bareN s t[j / 5], if textedK t[j / 5].kind then .slice none 0 0 else ls[j / 5]) := by
      rw [List.getElem?_zip_eq_some]
      refine ⟨by rw [List.getElem?_map, hx]; rfl, ?_⟩
      rw [List.getElem?_map, show (t.zip ls)[j / 5]? = some (t[j / 5], ls[j / 5]) from by rw [List.getElem?_zip_eq_some]; exact ⟨hx, hlx⟩]
      rfl
    have := Go.Proofs.Ytbjheaiiajpifaa.flat_at (fun x : Node × Value => ndCells x.1 x.2) 5 (fun _ => rfl) _ (j / 5) (j % 5) _ hz hr
    unfold allCells at hu
    rw [show j / 5 * 5 + j % 5 = j by omega] at this
    rw [this] at hu
    have hb : bareCs s t.length (j / 5) t[j / 5] ls[j / 5] = ndCells (bareN s t[j / 5]) (if textedK t[j / 5].kind then .slice none 0 0 else ls[j / 5]) := by
      unfold bareCs
      by_cases ht : textedK t[j / 5].kind
      · rw [if_pos ⟨hi, ht⟩, if_pos ht]
      · rw [if_neg (fun h => ht h.2), if_neg ht]
        unfold bareN
        rw [if_neg ht]
    have h5 := hc (j / 5) _ _ hx hlx (j % 5) u (by rw [hb]; exact hu)
    rw [show j / 5 * 5 + j % 5 = j by omega] at h5
    rw [Nat.zero_add, hh.cell j]
    exact h5
  · rw [List.getElem?_map] at hx hl'
    cases hx9 : t[i]? with
    | none => rw [hx9] at hx; cases hx
    | some y =>
      rw [hx9] at hx
      have hi : i < t.length := (List.getElem?_eq_some_iff.1 hx9).1
      have hlx : ls[i]? = some ls[i] := List.getElem?_eq_getElem (by omega)
      rw [show (t.zip ls)[i]? = some (y, ls[i]) from by rw [List.getElem?_zip_eq_some]; exact ⟨hx9, hlx⟩] at hl'
      have e1 : x = bareN s y := (Option.some.inj hx).symm
      have e2 : l = if textedK y.kind then .slice none 0 0 else ls[i] := (Option.some.inj hl').symm
      subst e1 e2
      by_cases ht : textedK y.kind
      · rw [if_pos ht]
        have : (bareN s y).lead = [] := by unfold bareN; rw [if_pos ht]
        rw [this]
        exact Rd.nil _ _ _
      · rw [if_neg ht]
        have : (bareN s y).lead = y.lead := by unfold bareN; rw [if_neg ht]
        rw [this]
        exact hp i y _ hx9 hlx

theorem BareAt.cells {W : World} {gB : Nat} {s : ByteArray} {t : List Node} {ls : List Value} {k : Nat} {y : Node} {ly : Value} (h : BareAt W gB s t ls k) (hy : t[k]? = some y) (hly : ls[k]? = some ly) :
    W.cell? ⟨gB, k * 5, none⟩ = some (.int .i64 y.kind) ∧ W.cell? ⟨gB, k * 5 + 3, none⟩ = some ly ∧ W.cell? ⟨gB, k * 5 + 4, none⟩ = some (.string y.text) ∧ W.frozen? ⟨gB, k * 5 + 3, none⟩ = false ∧ W.frozen? ⟨gB, k * 5 + 4, none⟩ = false ∧ gB < W.heap.size := by
  obtain ⟨cs, hh, hc⟩ := h
  have hu : bareCs s k k y ly = ndCells y ly := by unfold bareCs; rw [if_neg (by omega)]
  have h0 := hc k y ly hy hly 0 _ (by rw [hu]; rfl)
  have h3 := hc k y ly hy hly 3 _ (by rw [hu]; rfl)
  have h4 := hc k y ly hy hly 4 _ (by rw [hu]; rfl)
  exact ⟨(hh.cell _).trans h0, (hh.cell _).trans h3, (hh.cell _).trans h4, hh.frozen _, hh.frozen _, hh.lt⟩
/-- The call's own copy of any nodes, of which the first k are bare. -/
def UAt (W : World) (base : Nat) (v' : Value) (s : ByteArray) (t : List Node) (ls : List Value) (k : Nat) : Prop :=
  (t = [] ∧ Nds W (Old W) v' []) ∨ ∃ gB cap, v' = .slice (some ⟨gB, 0, none⟩) t.length cap ∧ t.length ≤ cap ∧ cap ≤ maxLen ∧ base ≤ gB ∧ BareAt W gB s t ls k
theorem UAt.start {W : World} {base : Nat} {v' : Value} {s : ByteArray} {t : List Node} {ls : List Value} (h : Mine W base 58 5 v' t.length (allCells t ls)) : UAt W base v' s t ls 0 := by
  by_cases e : t = []
  · subst e
    refine .inl ⟨rfl, [], rfl, ?_, fun i x l hx => by simp at hx⟩
    have := Mine.rd h (T := Old W) (fun _ _ _ h => h)
    exact this
  · refine .inr ?_
    rcases (h.own (List.length_pos_iff.2 e)).2 with ⟨_, h0⟩ | ⟨gB, cap, cur, hv, hb, hg, h1, h2, h3, h4⟩
    · exact absurd (List.length_eq_zero_iff.1 h0) e
    · exact ⟨gB, cap, hv, h1, h2, hb, BareAt.start hg h4⟩
theorem UAt.done {W : World} {base : Nat} {v' : Value} {s : ByteArray} {t : List Node} {ls : List Value} (h : UAt W base v' s t ls t.length) (hl : ls.length = t.length)
    (hp : ∀ (i : Nat) (x : Node) (l : Value), t[i]? = some x → ls[i]? = some l → Pcs W (Old W) l x.lead) : Nds W (Old W) v' (t.map (bareN s)) := by
  rcases h with ⟨rfl, h⟩ | ⟨gB, cap, rfl, h1, h2, _, h3⟩
  · exact h
  · exact h3.done hl h1 h2 hp

set_option maxRecDepth 20000 in
set_option maxHeartbeats 16000000 in
theorem law_layBare (a' b' c' v : Value) (g : Gram) (t : List Node) (s : ByteArray) (w : World) (HG : GramIs w (Old w) a' b' c' g) (hz : Named g) (hN : Nds w (Old w) v t) :
    Calls Try.prog 9 #[.agg (gramCells a' b' c' g), v, .string s] w fun r w' => r = .returned (.bool true) ∧ Below w.heap.size w w' := by
  have HFw := hidden (fun (w' : World) (hb : Below w.heap.size w w') => law_Few a' b' c' g w' (HG.later hb) hz)
  have HFn := hidden (fun (w' : World) (hb : Below w.heap.size w w') => few_any v t w' (hN.old hb))
  have HLo := hidden (fun (w' : World) (hb : Below w.heap.size w w') s1 s2 s3 s4 => lay_Of v a' b' c' g t w' s1 s2 s3 s4 hz (HG.later hb) (hN.old hb))
  have HLu := hidden (fun (w' : World) (hb : Below w.heap.size w w') u (hu : Nds w' (Old w') u (t.map (bareN s))) s1 s2 s3 s4 => lay_Of u a' b' c' g (t.map (bareN s)) w' s1 s2 s3 s4 hz (HG.later hb) hu)
  rw [bare_places] at HLu
  have HSm := hidden (fun (h : Go.Proofs.Ytbjheaiiajpifaa.fewB g = true) => few_small h)
  have HSt : Hid (fewB t = true → t.length ≤ 120) := hidden (fun h => by unfold fewB at h; simp at h; omega)
  have HKn := hidden knows38
  have HTx := hidden (fun (kd : Int) (w' : World) => ref_texted kd w')
  have HN9 := hidden hN
  obtain ⟨A1, k1, rfl, v1, m1⟩ := HG.1.value
  obtain ⟨A2, k2, rfl, v2, m2⟩ := HG.2.1.val
  obtain ⟨A3, k3, rfl, v3, m3⟩ := HG.2.2.value
  obtain ⟨A4, k4, rfl, v4, m4⟩ := hN.value
  unfold maxLen at m4
  have hb0 : Below w.heap.size w (w.alloc (.cells #[.slice A1 g.toks.length k1, .slice A2 g.rules.length k2, .slice A3 g.prods.length k3, .int .i64 g.start, .int .i64 g.states, .int .i64 g.text, .int .i64 g.nodes, .int .i64 g.pairs] 26)) := (by repeat (first | (with_reducible exact Below.refl _ _) | (with_reducible assumption) | (with_reducible refine Below.drew ?_) | (with_reducible refine below_drewN ?_ _) | ((with_reducible refine below_alloc ?_ ?_); (focus (first | omega | (simp; done) | (simp; omega)))) | ((with_reducible refine below_set ?_ ?_); (focus (first | omega | (simp; done) | (simp; omega))))))
  have HB0 := hidden (Holds.new w 26 #[.slice A1 g.toks.length k1, .slice A2 g.rules.length k2, .slice A3 g.prods.length k3, .int .i64 g.start, .int .i64 g.states, .int .i64 g.text, .int .i64 g.nodes, .int .i64 g.pairs])
  clear HG hN hz
  unfold gramCells at *
  cases fg : Go.Proofs.Ytbjheaiiajpifaa.fewB g with
  | false =>
    rw [fg] at HFw
    go_enter Try.func9, Try.ntmps9
    go_wp2_with fail
    refine (HFw.out _ hb0).mono ?_
    rintro r w2 ⟨rfl, hb2⟩
    replace hb0 := below_more hb0 hb2
    go_wp2_with fail
    refine (HKn.out _).mono ?_
    rintro r w9 ⟨rfl, hb9⟩
    replace hb0 := below_more hb0 hb9
    clear hb9
    go_wp2
    go_ret
    exact ⟨rfl, hb0⟩
  | true =>
    rw [fg] at HFw
    obtain ⟨g1, g2, g3⟩ := HSm.out fg
    cases ft : fewB t with
    | false =>
      rw [ft] at HFn
      go_enter Try.func9, Try.ntmps9
      go_wp2_with fail
      refine (HFw.out _ hb0).mono ?_
      rintro r w2 ⟨rfl, hb2⟩
      replace hb0 := below_more hb0 hb2
      go_wp2_with fail
      refine (HFn.out _ hb0).mono ?_
      rintro r w3 ⟨rfl, hb3⟩
      replace hb0 := below_more hb0 hb3
      go_wp2_with fail
      refine (HKn.out _).mono ?_
      rintro r w9 ⟨rfl, hb9⟩
      replace hb0 := below_more hb0 hb9
      clear hb9
      go_wp2
      go_ret
      exact ⟨rfl, hb0⟩
    | true =>
      rw [ft] at HFn
      have ht := HSt.out ft
      obtain ⟨ls, hl1, hl2, hl3⟩ := HN9.out
      have HPc := hidden hl3
      have HRd := hidden hl2
      have hone : ∀ l ∈ ls, l.oneCell' = true := by
        intro l hl
        obtain ⟨i, hi, e⟩ := List.mem_iff_getElem.1 hl
        have := hl3 i t[i] l (List.getElem?_eq_getElem (by omega)) (by rw [List.getElem?_eq_getElem hi, e])
        obtain ⟨A, c, rfl, _, _⟩ := Rd.val this
        rfl
      have H1 := hidden (nd_oneCell t ls hone)
      clear hone hl2 hl3
      go_enter Try.func9, Try.ntmps9
      obtain ⟨s0, s1, s2, s3, s4, s5, s6, s7⟩ := eight38 HB0.out
      go_wp2_with fail
      refine (HFw.out _ hb0).mono ?_
      rintro r w2 ⟨rfl, hb2⟩
      replace HB0 := hidden (HB0.out.below hb2 HB0.out.lt)
      replace hb0 := below_more hb0 hb2
      clear s0 s1 s2 s3 s4 s5 s6 s7 hb2
      go_wp2_with fail
      refine (HFn.out _ hb0).mono ?_
      rintro r w3 ⟨rfl, hb3⟩
      replace HB0 := hidden (HB0.out.below hb3 HB0.out.lt)
      replace hb0 := below_more hb0 hb3
      clear hb3
      have hbz := hb0.size
      have HX : Hid (Rd (w3.alloc (.cells #[] 58)) (Old (w3.alloc (.cells #[] 58))) 5 (.slice A4 t.length k4) t.length (allCells t ls)) := hidden (Rd.old HRd.out (hb0.alloc hbz _))
      have HM0 : Hid (Mine (w3.alloc (.cells #[] 58)) w3.heap.size 58 5 (.slice (some ⟨w3.heap.size, 0, none⟩) 0 0) 0 []) := hidden (.inr ⟨rfl, rfl, _, rfl⟩)
      have hgl := HB0.out.lt
      go_wp2_with (at_builtin; refine wpList_append_all rfl _ _ 27 58 rfl (by kernel_rfl) node_info rfl (by decide) w3.heap.size _ 0 [] HM0 _ _ _ HX H1 rfl rfl (by omega) (by decide) (by simp) ?_; intro v' w4 hA; have hM : Mine w4 w3.heap.size 58 5 v' t.length (allCells t ls) := (by have := hA.out.mine; simpa using this); obtain ⟨A9, c9, rfl⟩ := hM.value; have HU := hidden (UAt.start (s := s) hM); have HB4 := hidden ((HB0.out.alloc (.cells #[] 58)).below hA.out.below hgl); have hb4 := (hb0.alloc hbz (.cells #[] 58)).trans (hA.out.below.mono hbz); clear hA hM)
      go_loopg [8] t.length (fun gh ii wr => ∃ k : Nat, k ≤ t.length ∧ gh = t.length - k ∧ ii = .int .i64 k ∧ Hid (UAt wr w3.heap.size (.slice A9 t.length c9) s t ls k) ∧ Hid (Holds wr w.heap.size 26 #[.slice A1 g.toks.length k1, .slice A2 g.rules.length k2, .slice A3 g.prods.length k3, .int .i64 g.start, .int .i64 g.states, .int .i64 g.text, .int .i64 g.nodes, .int .i64 g.pairs]) ∧ Below w.heap.size w wr)
      case atStart => exact ⟨0, by omega, by omega, by go_num, HU, HB4, hb4⟩
      case round =>
        clear HU HB4 hb4
        obtain ⟨k, hk, rfl, rfl, HU, HB, hb⟩ := hrel
        by_cases hlt : k < t.length
        · have hx := List.getElem?_eq_getElem hlt
          have hlx : ls[k]? = some ls[k] := List.getElem?_eq_getElem (by omega)
          have hne : t ≠ [] := by intro e; subst e; simp at hlt
          rcases HU.out with ⟨e, _⟩ | ⟨gB, cap, e, u1, u2, u3, HBa⟩
          · exact absurd e hne
          simp only [Value.slice.injEq] at e
          obtain ⟨rfl, _, rfl⟩ := e
          obtain ⟨c0, c3, c4, f3, f4, hgB⟩ := HBa.cells hx hlx
          have HBA := hidden HBa
          have HSk := hidden (fun h => HBa.skip hx h)
          have HPt := hidden (fun h => HBa.put hx hlx h)
          have hg9 : ¬ gB = w.heap.size := by omega
          clear HBa HU hx hlx hne
          generalize t[k] = x at *
          generalize ls[k] = lx at *
          have HT1 := hidden (HTx.out x.kind wr)
          by_cases htx : textedK x.kind
          · rw [decide_eq_true htx] at HT1
            have HP1 := hidden (HPt.out htx)
            clear HPt HSk htx
            go_wp2_with fail
            refine HT1.out.mono ?_
            rintro r w5 ⟨rfl, rfl⟩
            go_wp2
            go_roundg (t.length - (k + 1))
            case measure => omega
            case rel => exact ⟨k + 1, by omega, rfl, by go_num, hidden (.inr ⟨gB, _, rfl, u1, u2, u3, HP1.out⟩), hidden ((HB.out.far (p := ⟨gB, k * 5 + 3, none⟩) (by dsimp only; omega) _).far (p := ⟨gB, k * 5 + 4, none⟩) (by dsimp only; omega) _), (by repeat (first | (with_reducible exact Below.refl _ _) | (with_reducible assumption) | (with_reducible refine Below.drew ?_) | (with_reducible refine below_drewN ?_ _) | ((with_reducible refine below_alloc ?_ ?_); (focus (first | omega | (simp; done) | (simp; omega)))) | ((with_reducible refine below_set ?_ ?_); (focus (first | omega | (simp; done) | (simp; omega))))))⟩
          · rw [decide_eq_false htx] at HT1
            have HS1 := hidden (HSk.out htx)
            clear HPt HSk htx
            go_wp2_with fail
            refine HT1.out.mono ?_
            rintro r w5 ⟨rfl, rfl⟩
            go_wp2
            go_roundg (t.length - (k + 1))
            case measure => omega
            case rel => exact ⟨k + 1, by omega, rfl, by go_num, hidden (.inr ⟨gB, _, rfl, u1, u2, u3, HS1.out⟩), HB, hb⟩
        · obtain rfl : k = t.length := by omega
          have HNu := hidden (HU.out.done hl1 (fun i x l h1 h2 => Rd.old (HPc.out i x l h1 h2) hb))
          have HC1 := hidden (fun (W' : World) (h : Below wr.heap.size wr W') => HLo.out W' (below_more hb h) (by omega) (by omega) (by omega) (by omega))
          have HC2 := hidden (fun (W' : World) (h : Below wr.heap.size wr W') => HLu.out W' (below_more hb h) _ (HNu.out.old h) (by omega) (by omega) (by omega) (by rw [List.length_map]; omega))
          have HBk := hidden HB.out
          obtain ⟨s0, s1, s2, s3, s4, s5, s6, s7⟩ := eight38 HB.out
          have tok1 : True := trivial
          clear HU HB HLo HLu HPc HRd H1 HNu HTx HN9 HSt HSm
          generalize placesOf g t = P at *
          go_wp2_with fail
          go_region_held3 (fun w' => w'.cell? ⟨w.heap.size, 0, none⟩ = some (.slice A1 g.toks.length k1) ∧ w'.cell? ⟨w.heap.size, 1, none⟩ = some (.slice A2 g.rules.length k2) ∧ w'.cell? ⟨w.heap.size, 2, none⟩ = some (.slice A3 g.prods.length k3) ∧ w'.cell? ⟨w.heap.size, 3, none⟩ = some (.int .i64 g.start) ∧ w'.cell? ⟨w.heap.size, 4, none⟩ = some (.int .i64 g.states) ∧ w'.cell? ⟨w.heap.size, 5, none⟩ = some (.int .i64 g.text) ∧ w'.cell? ⟨w.heap.size, 6, none⟩ = some (.int .i64 g.nodes) ∧ w'.cell? ⟨w.heap.size, 7, none⟩ = some (.int .i64 g.pairs) ∧ Below wr.heap.size wr w')
            (first | exact ⟨s0, s1, s2, s3, s4, s5, s6, s7, Below.drew (Below.refl _ _)⟩ | (go_split_ands; exact keep38 HBk.out (by (first | assumption | exact Below.drew (Below.refl _ _) | exact Below.refl _ _)) (by assumption)))
            (first | (go_at_call 30; have _t := tok1; go_split_ands; refine (HC1.out _ (by (first | assumption | exact Below.drew (Below.refl _ _) | exact Below.refl _ _))).mono ?_; rintro e w5 ⟨⟨u5, rfl, hu5⟩, hb5⟩; clear tok1 _t) | (go_at_call 30; go_split_ands; refine (HC2.out _ (by (first | assumption | exact Below.drew (Below.refl _ _) | exact Below.refl _ _))).mono ?_; rintro e w6 ⟨⟨u6, rfl, hu6⟩, hb6⟩))
          have hb5' : Below wr.heap.size wr w5 := (Below.drew (Below.refl _ _)).trans hb5
          have hb6' := hb5'.trans (hb6.mono hb5'.size)
          have hbw6 := below_more hb hb6'
          have HPx := hidden (Rd.old (FlatM.rd hu5.out) hb6)
          have HPy := hidden (FlatM.rd hu6.out)
          clear hu5 hu6 hb5 hb6 hb5' hb6' HC1 HC2 HBk s0 s1 s2 s3 s4 s5 s6 s7
          obtain ⟨A6, c6, rfl, p1, p2⟩ := HPx.out.val
          obtain ⟨A7, c7, rfl, p3, p4⟩ := HPy.out.val
          unfold maxLen at p2 p4
          have q9 : ((P.length : Int) != (P.length : Int)) = false := by simp
          have HPa := hidden (fun (W' : World) (h : Below w6.heap.size w6 W') j (p : Plc) (hp : P[j]? = some p) => Rd.flat_at (Rd.old HPx.out h) (fun _ => rfl) (by decide) hp)
          have HPb := hidden (fun (W' : World) (h : Below w6.heap.size w6 W') j (p : Plc) (hp : P[j]? = some p) => Rd.flat_at (Rd.old HPy.out h) (fun _ => rfl) (by decide) hp)
          clear HPx HPy
          go_wp2_with fail
          go_loopg [11] P.length (fun gh jj wr => ∃ j : Nat, j ≤ P.length ∧ gh = P.length - j ∧ jj = .int .i64 j ∧ Below w6.heap.size w6 wr)
          case atStart => exact ⟨0, by omega, by omega, by go_num, Below.refl _ _⟩
          case round =>
            obtain ⟨j, hj, rfl, rfl, hbj⟩ := hrel
            by_cases hjl : j < P.length
            · have hpj := List.getElem?_eq_getElem hjl
              obtain ⟨b7, o7, rfl, _, hp7⟩ := HPa.out wr hbj j _ hpj
              obtain ⟨b8, o8, rfl, _, hp8⟩ := HPb.out wr hbj j _ hpj
              generalize P[j] = x at *
              have y0 := Ext.cell (show wr.cell? ⟨b7, o7 + j * 3, none⟩ = some (.int .i64 x.node) from hp7 0 _ rfl)
              have y1 := Ext.cell (show wr.cell? ⟨b7, o7 + j * 3 + 1, none⟩ = some (.int .i64 x.gap) from hp7 1 _ rfl)
              have y2 := Ext.cell (show wr.cell? ⟨b7, o7 + j * 3 + 2, none⟩ = some (.int .i64 x.in_) from hp7 2 _ rfl)
              have y3 := Ext.cell (show wr.cell? ⟨b8, o8 + j * 3, none⟩ = some (.int .i64 x.node) from hp8 0 _ rfl)
              have y4 := Ext.cell (show wr.cell? ⟨b8, o8 + j * 3 + 1, none⟩ = some (.int .i64 x.gap) from hp8 1 _ rfl)
              have y5 := Ext.cell (show wr.cell? ⟨b8, o8 + j * 3 + 2, none⟩ = some (.int .i64 x.in_) from hp8 2 _ rfl)
              have hq : ∀ w, (Op.equalIn 10000 82 (.agg #[.int .i64 x.node, .int .i64 x.gap, .int .i64 x.in_]) (.agg #[.int .i64 x.node, .int .i64 x.gap, .int .i64 x.in_])).run Try.prog w = .ok true w := fun w => by
                have := pl_eq_run w x x
                simpa using this
              clear hpj hp7 hp8
              go_wp2_with fail
              refine wp_region_ext (by kernel_rfl) (by kernel_rfl) ?_
              repeat (go_big_quiet_step (fail))
              refine wpQuiet_nil ?_
              intro w9 hb9
              have hbj9 := hbj.trans (hb9.mono hbj.size)
              clear hb9 y0 y1 y2 y3 y4 y5 hq
              go_wp2
              go_roundg (P.length - (j + 1))
              case measure => omega
              case rel => exact ⟨j + 1, by omega, rfl, by go_num, hbj9⟩
            · obtain rfl : j = P.length := by omega
              have hbe := hbw6.trans (hbj.mono hbw6.size)
              go_wp2_with fail
              refine (HKn.out _).mono ?_
              rintro r w9 ⟨rfl, hb9⟩
              have hbf := hbe.trans (hb9.mono hbe.size)
              clear hb9
              go_wp2
              go_ret
              exact ⟨rfl, hbf⟩
end Go.Proofs.Ytbjheaiiajpifaa.T
