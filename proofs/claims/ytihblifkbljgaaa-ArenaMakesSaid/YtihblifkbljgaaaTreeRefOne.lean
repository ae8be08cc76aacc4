/-
  facsimileref27.One: the row is the call's own, the leads are shared.
-/
import Derived.Test.YtihblifkbljgaaaTreeOne
namespace Go.Proofs.Ytihblifkbljgaaa
open Go.RowKit Go.Shelf

/-- v reads as the nodes t: a row of the call's own, from B on; the leads in T. -/
def NOwn (w : World) (B : Nat) (T : Nat → Prop) (v : Value) (t : List Node) : Prop :=
  ∃ ls : List Value, ls.length = t.length ∧ Mine w B 29 5 v t.length (allCells t ls) ∧ ∀ (i : Nat) (x : Node) (l : Value), t[i]? = some x → ls[i]? = some l → Pcs w T l x.lead
section
variable {w w' : World} {B : Nat} {T : Nat → Prop} {v : Value} {t : List Node}
theorem NOwn.below (h : NOwn w B T v t) (hb : Below w.heap.size w w') : NOwn w' B T v t := by
  obtain ⟨ls, h1, h2, h3⟩ := h
  exact ⟨ls, h1, h2.below hb, fun i x l a b => (h3 i x l a b).keeps (Keeps.of_below hb)⟩
theorem NOwn.nds (h : NOwn w B T v t) (hT : ∀ k, T k → k < w.heap.size) : Nds w (Old w) v t := by
  obtain ⟨ls, h1, h2, h3⟩ := h
  exact ⟨ls, h1, h2.rd (fun g _ _ h => h), fun i x l a b => (h3 i x l a b).mono hT⟩
/-- What an append of nodes that are read leaves. -/
theorem NOwn.append (h : NOwn w B T v t) {t2 : List Node} {u : Value} (hu : Nds w T u t2) (hT : ∀ k, T k → v.ownBlock ≠ some k) :
    ∃ xs news, Mine w B 29 5 v t.length xs ∧ Rd w T 5 u t2.length news ∧ (∀ x ∈ news, x.oneCell' = true) ∧ ∀ v' w', Appended w B 29 5 v (t.length + t2.length) (xs ++ news) v' w' → NOwn w' B T v' (t ++ t2) := by
  obtain ⟨ls, h1, h2, h3⟩ := h
  obtain ⟨l2, g1, g2, g3⟩ := hu
  refine ⟨_, _, h2, g2, nd_oneCell t2 l2 (fun l hl => ?_), fun v' w' hA => ⟨ls ++ l2, by simp [h1, g1], ?_, fun i x l a b => ?_⟩⟩
  · obtain ⟨i, hi, e⟩ := List.mem_iff_getElem.1 hl
    obtain ⟨A, c, e2, _⟩ := (g3 i _ l (List.getElem?_eq_getElem (show i < t2.length by omega)) (by rw [List.getElem?_eq_getElem hi, e])).value
    rw [e2]; rfl
  · rw [allCells_append _ _ _ _ h1, List.length_append]
    exact hA.mine
  · have hk : Keeps T w w' := hA.keeps.mono (fun k hk => hT k hk)
    rcases Nat.lt_or_ge i t.length with h | h
    · rw [List.getElem?_append_left h] at a
      rw [List.getElem?_append_left (by omega)] at b
      exact (h3 i x l a b).keeps hk
    · rw [List.getElem?_append_right h] at a
      rw [List.getElem?_append_right (by omega), h1] at b
      exact (g3 _ x l a b).keeps hk
/-- The first node's size is written anew. -/
theorem NOwn.resize {x : Node} (h : NOwn w B T v (x :: t)) (hT : ∀ k, T k → v.ownBlock ≠ some k) (s : Int) : ∃ g cap, v = .slice (some ⟨g, 0, none⟩) (t.length + 1) cap ∧ t.length + 1 ≤ cap ∧ cap ≤ maxLen ∧ B ≤ g ∧
    (∃ u, w.cell? ⟨g, 2, none⟩ = some u) ∧ w.frozen? ⟨g, 2, none⟩ = false ∧ NOwn (w.setCell ⟨g, 2, none⟩ (.int .i64 s)) B T v ({ x with size := s } :: t) := by
  obtain ⟨ls, h1, h2, h3⟩ := h
  have h0 : 0 < (x :: t).length := by simp
  obtain ⟨g, cap, rfl, c1, c2, c3, c4, c5⟩ := h2.open_ h0
  obtain ⟨l, ls, rfl⟩ : ∃ l ls', ls = l :: ls' := by
    cases ls with
    | nil => simp at h1
    | cons l ls' => exact ⟨l, ls', rfl⟩
  have hcells : allCells (x :: t) (l :: ls) = ndCells x l ++ allCells t ls := by simp [allCells]
  have hcells' : allCells ({ x with size := s } :: t) (l :: ls) = (allCells (x :: t) (l :: ls)).set 2 (.int .i64 s) := by
    rw [hcells]; simp [allCells, ndCells]
  have hfz : w.frozen? ⟨g, 2, none⟩ = false := by
    rcases (h2.own h0).2 with ⟨_, e⟩ | ⟨g', cap', cur, hv, _, hg, _⟩
    · simp at e
    · simp only [Value.slice.injEq, Option.some.injEq, Addr.mk.injEq] at hv
      obtain ⟨⟨rfl, _⟩, _, _⟩ := hv
      exact Holds.frozen hg _
  refine ⟨g, cap, rfl, c1, c2, c3, ⟨_, c5 2 _ (by rw [hcells]; rfl)⟩, hfz, l :: ls, by simpa using h1, ?_, fun i y l' a b => ?_⟩
  · rw [hcells']
    exact h2.stored h0 2 _
  · obtain ⟨y', hy', hy2⟩ : ∃ y', (x :: t)[i]? = some y' ∧ y'.lead = y.lead := by
      cases i with
      | zero => simp at a; subst a; exact ⟨x, by simp, rfl⟩
      | succ i => exact ⟨y, by simpa using a, rfl⟩
    have p1 := h3 i y' l' hy' b
    rw [hy2] at p1
    exact p1.keeps ((Keeps.refl _ _).setCell (p := ⟨g, 2, none⟩) (fun e => hT _ e rfl) _)
end

theorem take_flat {ts : List (List Node)} {k : Nat} (hk : k < ts.length) : (ts.take (k + 1)).flatten = (ts.take k).flatten ++ ts[k] ∧ (ts.take k).flatten.length + ts[k].length ≤ ts.flatten.length := by
  have e : (ts.take (k + 1)).flatten = (ts.take k).flatten ++ ts[k] := by rw [List.take_succ_eq_append_getElem hk, List.flatten_append]; simp
  refine ⟨e, ?_⟩
  rw [← List.length_append, ← e]
  have : ts.flatten.length = (ts.take (k + 1)).flatten.length + (ts.drop (k + 1)).flatten.length := by rw [← List.length_append, ← List.flatten_append, List.take_append_drop]
  omega

set_option maxRecDepth 20000 in
set_option maxHeartbeats 4000000 in
theorem ref_one (x : Node) (l v : Value) (ts : List (List Node)) (w : World) (hlen : ts.length ≤ 1000000000) (hall : ts.flatten.length ≤ 100000000) (hN : Parts w (fun k => k < w.heap.size) v ts) (hl : Pcs w (Old w) l x.lead) :
    Calls Try.prog 33 #[.agg #[.int .i64 x.kind, .int .i64 x.n, .int .i64 x.size, l, .string x.text], v] w fun r w' => (∃ u, r = .returned u ∧ Hid (NOwn w' w.heap.size (Old w) u (oneOf x ts))) ∧ Below w.heap.size w w' := by
  have HN := hidden hN
  have HP := hidden hl
  obtain ⟨vs, hvl, hR, _⟩ := hN
  obtain ⟨A, c, rfl, hc1, hc2⟩ := hR.val
  obtain ⟨A2, c2, rfl, hd1, hd2⟩ := hl.value
  unfold maxLen at hc2 hd2
  have HI := node_info
  have HL := hidden (fun k (hk : k < ts.length) => take_flat hk)
  unfold oneOf
  obtain ⟨F, hFl⟩ : ∃ F, ts.flatten = F := ⟨_, rfl⟩
  rw [hFl] at hall ⊢
  have HFe : Hid ((ts.take ts.length).flatten = F) := hidden (by rw [List.take_length, hFl])
  have HFl := hidden (congrArg List.length hFl)
  clear hR hl hFl
  go_enter Try.func33, Try.ntmps33
  go_wp2
  go_loopw [5, 6] (fun o ii wr => ∃ k : Nat, k ≤ ts.length ∧ ii = .int .i64 k ∧ Hid (NOwn wr w.heap.size (Old w) o (x :: (ts.take k).flatten)) ∧ Hid (∀ g, o.ownBlock = some g → w.heap.size ≤ g) ∧ Below w.heap.size w wr) (fun _ ii _ => ts.length - (intOf ii).toNat)
  case atStart =>
    refine ⟨0, by omega, rfl, hidden ⟨[.slice A2 x.lead.length c2], rfl, ?_, fun i y l a b => ?_⟩, hidden (fun g hg => by simp [Value.ownBlock] at hg; omega), (by repeat (first | (with_reducible exact Below.refl _ _) | (with_reducible assumption) | (with_reducible refine Below.drew ?_) | ((with_reducible refine below_alloc ?_ ?_); (focus (first | omega | (simp; done) | (simp; omega)))) | ((with_reducible refine below_set ?_ ?_); (focus (first | omega | (simp; done) | (simp; omega))))))⟩
    · exact Mine.made_at _ _ _ 5 1 [.int .i64 x.kind, .int .i64 x.n, .int .i64 x.size, .slice A2 x.lead.length c2, .string x.text] rfl (by decide) (by simp) (by omega)
    · cases i with
      | zero => simp at a b; subst a b; exact (HP.out.keeps ((Keeps.refl _ _).alloc _)).keeps ((Keeps.refl _ _).alloc _)
      | succ i => simp at a
  case round =>
    obtain ⟨k, hk, rfl, HO, HG, hb⟩ := hrel
    have hbz := hb.size
    by_cases hlt : k < ts.length
    · obtain ⟨b, off, u, rfl, x0, hnd⟩ := (HN.out.below hb).at_ hlt
      obtain ⟨hfl, hlen2⟩ := HL.out k hlt
      have HFL : Hid (x :: (ts.take (k + 1)).flatten = (x :: (ts.take k).flatten) ++ ts[k]) := hidden (by rw [hfl]; rfl)
      obtain ⟨xs, news, HM, HX, H1, hnext⟩ := HO.out.append hnd (fun j hj e => by have := HG.out j e; have : j < w.heap.size := hj; omega)
      replace HM := hidden HM; replace HX := hidden HX; replace H1 := hidden H1; have HQ := hidden hnext
      obtain ⟨A3, c3, rfl, f1, f2⟩ := hnd.value
      unfold maxLen at f2
      clear hnd hfl hnext
      have h9 : ((x :: (ts.take k).flatten).length + ts[k].length) * 64 ≤ 140737488355328 := by have := HFl.out; simp only [List.length_cons]; omega
      generalize ts[k] = t at *
      generalize x :: (ts.take k).flatten = t0 at *
      go_wp2_with (at_builtin; refine wpList_append_all rfl _ _ 22 29 rfl (by kernel_rfl) HI rfl (by decide) w.heap.size _ _ _ HM _ _ _ HX H1 rfl rfl h9 (by decide) hbz ?_; intro v' w' hA)
      go_roundw
      case rel =>
        refine ⟨k + 1, by omega, by go_num, by rw [HFL.out]; exact hidden (HQ.out _ _ hA.out), hidden (fun g hg => ?_), hb.trans hA.out.below⟩
        rcases hA.out.at_ with h | ⟨g', h, h1, h2⟩
        · rw [h] at hg; exact HG.out g hg
        · rw [h] at hg; cases hg; omega
      case measure => simp [intOf]; omega
    · obtain rfl : k = ts.length := by omega
      rw [HFe.out] at HO
      obtain ⟨g, cap, rfl, k1, k2, k3, ⟨u0, z⟩, zf, hO⟩ := HO.out.resize (fun j hj e => by have := HG.out j e; have : j < w.heap.size := hj; omega) ((F.length : Int) + 1)
      unfold maxLen at k2
      have HO2 := hidden hO
      clear HO hO HG HL
      go_wp2
      go_ret
      exact ⟨⟨.slice (some ⟨g, 0, none⟩) (F.length + 1) cap, rfl, HO2⟩, hb.setCell (p := ⟨g, 2, none⟩) k3 _⟩
end Go.Proofs.Ytihblifkbljgaaa
