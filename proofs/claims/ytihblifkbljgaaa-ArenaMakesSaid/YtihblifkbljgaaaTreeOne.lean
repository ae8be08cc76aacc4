/-
  arena.One.
-/
import Derived.Test.YtihblifkbljgaaaTreeJoin
namespace Go.Proofs.Ytihblifkbljgaaa
open Go.RowKit Go.Shelf

def oneOf (x : Node) (ts : List (List Node)) : List Node := { x with size := (ts.flatten.length : Int) + 1 } :: ts.flatten

/-- The first node's size is written anew. -/
theorem Own.resize {w : World} {B : Nat} {v : Value} {x : Node} {t : List Node} (h : Own w B v (x :: t)) (s : Int) : ∃ g cap, v = .slice (some ⟨g, 0, none⟩) (t.length + 1) cap ∧ t.length + 1 ≤ cap ∧ cap ≤ maxLen ∧ B ≤ g ∧
    (∃ u, w.cell? ⟨g, 2, none⟩ = some u) ∧ w.frozen? ⟨g, 2, none⟩ = false ∧ Own (w.setCell ⟨g, 2, none⟩ (.int .i64 s)) B v ({ x with size := s } :: t) := by
  obtain ⟨ls, h1, h2, h3⟩ := h
  have h0 : 0 < (x :: t).length := by simp
  obtain ⟨g, cap, rfl, c1, c2, c3, c4, c5⟩ := h2.open_ h0
  obtain ⟨l, ls, rfl⟩ : ∃ l ls', ls = l :: ls' := by
    cases ls with
    | nil => simp at h1
    | cons l ls' => exact ⟨l, ls', rfl⟩
  have hcells : allCells (x :: t) (l :: ls) = ndCells x l ++ allCells t ls := by simp [allCells]
  have hcells' : allCells ({ x with size := s } :: t) (l :: ls) = (allCells (x :: t) (l :: ls)).set 2 (.int .i64 s) := by
    rw [hcells]; simp [allCells, ndCells]
  have hfz : w.frozen? ⟨g, 2, none⟩ = false := by
    rcases (h2.own h0).2 with ⟨_, e⟩ | ⟨g', cap', cur, hv, _, hg, _⟩
    · simp at e
    · simp only [Value.slice.injEq, Option.some.injEq, Addr.mk.injEq] at hv
      obtain ⟨⟨rfl, _⟩, _, _⟩ := hv
      exact Holds.frozen hg _
  refine ⟨g, cap, rfl, c1, c2, c3, ⟨_, c5 2 _ (by rw [hcells]; rfl)⟩, hfz, l :: ls, by simpa using h1, ?_, fun i y l' a b => ?_⟩
  · rw [hcells']
    exact h2.stored h0 2 _
  · obtain ⟨y', hy', hy2⟩ : ∃ y', (x :: t)[i]? = some y' ∧ y'.lead = y.lead := by
      cases i with
      | zero => simp at a; subst a; exact ⟨x, by simp, rfl⟩
      | succ i => exact ⟨y, by simpa using a, rfl⟩
    obtain ⟨p1, p2⟩ := h3 i y' l' hy' b
    rw [hy2] at p1
    exact ⟨p1.set (p := ⟨g, 2, none⟩) (fun e => (p2 _ e).1 rfl) _, fun q hq => ⟨(p2 q hq).1, (p2 q hq).2.1, by have := (p2 q hq).2.2; simpa [World.setCell] using this⟩⟩

theorem nodes_info : Hid (TyInfo Try.prog 22 (.slice none 0 0) 1 24) :=
  hidden (info_parts (show (Try.prog.info? 22).map (fun i => (i.zero, i.size, i.bytes)) = some (some (.slice none 0 0), 1, 24) by kernel_rfl))

theorem Mine.made_at (w : World) (o : Nat) (e : TypeId) (size n : Nat) (cs : List Value) (hl : cs.length = n * size) (hn : n ≤ maxLen) (ho : o = w.heap.size) {B : Nat} (hB : B ≤ o) : Mine (w.alloc (.cells cs.toArray e)) B e size (.slice (some ⟨o, 0, none⟩) n n) n cs := by
  subst ho
  exact (Mine.made w e size n cs hl hn).base hB
theorem one_nds (w : World) (x : Node) (l : Value) (o : Obj) (hl : Pcs w (Old w) l x.lead) :
    Nds ((w.alloc o).alloc (.cells #[.int .i64 x.kind, .int .i64 x.n, .int .i64 x.size, l, .string x.text] 29)) (fun k => k < w.heap.size + 1 + 1) (.slice (some ⟨w.heap.size + 1, 0, none⟩) 1 1) [x] := by
  refine ⟨[l], rfl, ?_, fun i y l' a b => ?_⟩
  · have e : allCells [x] [l] = [.int .i64 x.kind, .int .i64 x.n, .int .i64 x.size, l, .string x.text] := rfl
    rw [e]
    exact Rd.fresh (cs := [.int .i64 x.kind, .int .i64 x.n, .int .i64 x.size, l, .string x.text]) (n := 1) (size := 5) rfl (Nat.le_refl _) (by decide) (by simp) (by simp)
  · cases i with
    | zero =>
      simp at a b
      subst a b
      exact Rd.mono ((Rd.alloc (Rd.alloc hl o) _)) (fun k hk => by have : k < w.heap.size := hk; omega)
    | succ i => simp at a
theorem Nds.oneCell {w : World} {T : Nat → Prop} {v : Value} {t : List Node} (h : Nds w T v t) : v.oneCell' = true := by
  obtain ⟨A, c, rfl, _⟩ := h.value
  rfl

set_option maxRecDepth 20000 in
set_option maxHeartbeats 4000000 in
theorem arena_one (x : Node) (l v : Value) (ts : List (List Node)) (w : World) (hlen : ts.length ≤ 1000000000) (hall : ts.flatten.length ≤ 100000000) (hF : ∀ t ∈ ts, Fit t) (hx : x.lead.length * 24 ≤ 140737488355328) (hN : Parts w (fun k => k < w.heap.size) v ts) (hl : Pcs w (Old w) l x.lead) :
    Calls Try.prog 20 #[.agg #[.int .i64 x.kind, .int .i64 x.n, .int .i64 x.size, l, .string x.text], v] w fun r w' => (∃ u, r = .returned u ∧ Hid (Own w' w.heap.size u (oneOf x ts))) ∧ Below w.heap.size w w' := by
  obtain ⟨vs, hvl, hR, hvs⟩ := hN
  obtain ⟨A, c, rfl, hc1, hc2⟩ := hR.val
  obtain ⟨A2, c2, rfl, hd1, hd2⟩ := hl.value
  unfold maxLen at hc2 hd2
  unfold oneOf
  obtain ⟨F, hFl⟩ : ∃ F, ts.flatten = F := ⟨_, rfl⟩
  rw [hFl] at hall ⊢
  have HE : Hid (([x] :: ts).flatten = x :: F) := hidden (by rw [List.flatten_cons, hFl]; rfl)
  clear hFl
  have HI := nodes_info
  have hb : Below w.heap.size w (((w.alloc (.cells #[.int .i64 x.kind, .int .i64 x.n, .int .i64 x.size, .slice A2 x.lead.length c2, .string x.text] 29)).alloc (.cells #[.int .i64 x.kind, .int .i64 x.n, .int .i64 x.size, .slice A2 x.lead.length c2, .string x.text] 29)).alloc (.cells #[(.slice (some ⟨w.heap.size + 1, 0, none⟩) 1 1)] 22)) := (by repeat (first | (with_reducible exact Below.refl _ _) | (with_reducible assumption) | (with_reducible refine Below.drew ?_) | ((with_reducible refine below_alloc ?_ ?_); (focus (first | omega | (simp; done) | (simp; omega)))) | ((with_reducible refine below_set ?_ ?_); (focus (first | omega | (simp; done) | (simp; omega))))))
  have HM : Hid (Mine (((w.alloc (.cells #[.int .i64 x.kind, .int .i64 x.n, .int .i64 x.size, .slice A2 x.lead.length c2, .string x.text] 29)).alloc (.cells #[.int .i64 x.kind, .int .i64 x.n, .int .i64 x.size, .slice A2 x.lead.length c2, .string x.text] 29)).alloc (.cells #[(.slice (some ⟨w.heap.size + 1, 0, none⟩) 1 1)] 22)) w.heap.size 22 1 (.slice (some ⟨w.heap.size + 1 + 1, 0, none⟩) 1 1) 1 [(.slice (some ⟨w.heap.size + 1, 0, none⟩) 1 1)]) := hidden (Mine.made_at ((w.alloc (.cells #[.int .i64 x.kind, .int .i64 x.n, .int .i64 x.size, .slice A2 x.lead.length c2, .string x.text] 29)).alloc (.cells #[.int .i64 x.kind, .int .i64 x.n, .int .i64 x.size, .slice A2 x.lead.length c2, .string x.text] 29)) _ _ 1 1 [(.slice (some ⟨w.heap.size + 1, 0, none⟩) 1 1)] rfl (by decide) (by simp) (by omega))
  have HX : Hid (Rd (((w.alloc (.cells #[.int .i64 x.kind, .int .i64 x.n, .int .i64 x.size, .slice A2 x.lead.length c2, .string x.text] 29)).alloc (.cells #[.int .i64 x.kind, .int .i64 x.n, .int .i64 x.size, .slice A2 x.lead.length c2, .string x.text] 29)).alloc (.cells #[(.slice (some ⟨w.heap.size + 1, 0, none⟩) 1 1)] 22)) (fun k => k < w.heap.size) 1 (.slice A ts.length c) ts.length vs) := hidden (((hR.alloc _).alloc _).alloc _)
  have H1 : Hid (∀ u ∈ vs, u.oneCell' = true) := hidden (fun u hu => by
    obtain ⟨i, hi, e⟩ := List.mem_iff_getElem.1 hu
    exact (hvs i _ u (List.getElem?_eq_getElem (show i < ts.length by omega)) (by rw [List.getElem?_eq_getElem hi, e])).oneCell)
  have HP : Hid (∀ v' w', Appended (((w.alloc (.cells #[.int .i64 x.kind, .int .i64 x.n, .int .i64 x.size, .slice A2 x.lead.length c2, .string x.text] 29)).alloc (.cells #[.int .i64 x.kind, .int .i64 x.n, .int .i64 x.size, .slice A2 x.lead.length c2, .string x.text] 29)).alloc (.cells #[(.slice (some ⟨w.heap.size + 1, 0, none⟩) 1 1)] 22)) w.heap.size 22 1 (.slice (some ⟨w.heap.size + 1 + 1, 0, none⟩) 1 1) (1 + ts.length) ([(.slice (some ⟨w.heap.size + 1, 0, none⟩) 1 1)] ++ vs) v' w' → Parts w' (fun k => k < w'.heap.size) v' ([x] :: ts)) := hidden (fun v' w' hA => by
    have hs := hA.keeps.size
    simp at hs
    refine ⟨[(.slice (some ⟨w.heap.size + 1, 0, none⟩) 1 1)] ++ vs, by simp [hvl], ?_, fun i t u a b => ?_⟩
    · have := hA.mine.rd (T := fun k => k < w'.heap.size) (fun g _ _ h => h)
      rw [Nat.add_comm] at this
      exact this
    · cases i with
      | zero =>
        simp at a b
        subst a b
        exact (((one_nds w x _ _ hl).alloc _).keeps (hA.keeps.mono (fun k hk e => by simp [Value.ownBlock] at e; omega))).mono (fun k hk => by have : k < w.heap.size + 1 + 1 := hk; omega)
      | succ i =>
        simp at a b
        exact ((hvs i t u a b).below (hb.trans hA.below) (fun _ h => h)).mono (fun k hk => by have : k < w.heap.size := hk; omega))
  have HF : Hid (∀ t ∈ [x] :: ts, Fit t) := hidden (fun t ht => by
    rw [List.mem_cons] at ht
    rcases ht with rfl | ht
    · intro y hy; simp at hy; subst hy; exact hx
    · exact hF t ht)
  have hbz := hb.size
  clear hR hl hvs hF
  go_enter Try.func20, Try.ntmps20
  go_wp2_with (at_builtin; refine wpList_append_all rfl _ _ 32 22 rfl (by kernel_rfl) HI rfl (by decide) w.heap.size _ _ _ HM _ _ _ HX H1 rfl rfl (by omega) (by decide) hbz ?_; intro v' w' hA)
  have HPP := hidden (HP.out _ _ hA.out)
  have hb1 := hb.trans hA.out.below
  have hbz1 := hb1.size
  refine (arena_join v' ([x] :: ts) w' (by simp; omega) (by rw [HE.out]; simp; omega) HF.out HPP.out).mono ?_
  rintro r w2 ⟨⟨u, rfl, HO⟩, hb2⟩
  replace hb1 := hb1.trans (hb2.mono hbz1)
  rw [HE.out] at HO
  obtain ⟨g, cap, rfl, k1, k2, k3, ⟨u0, z⟩, zf, hO⟩ := (HO.out.base hbz1).resize ((F.length : Int) + 1)
  unfold maxLen at k2
  have HO2 := hidden hO
  clear hA HP HPP HO hO HM HX H1 HF
  go_wp2
  go_ret
  exact ⟨⟨_, rfl, HO2⟩, hb1.setCell (p := ⟨g, 2, none⟩) k3 _⟩
end Go.Proofs.Ytihblifkbljgaaa
