/-
  first's know: all that can be known of a grammar.
-/
import Derived.Test.YtmlggfapnkhcaaaFirstM
import Derived.Test.YtmlggfapnkhcaaaTake3C
import Derived.Test.YtmlggfapnkhcaaaNullV
namespace Go.Proofs.Ytmlggfapnkhcaaa
open Go.RowKit Go.Shelf
attribute [local simp] wide_fn

theorem eight22 {w : World} {g : Nat} {t : TypeId} {a b c d e f k h : Value} (H : Holds w g t #[a, b, c, d, e, f, k, h]) : w.cell? ⟨g, 0, none⟩ = some a ∧ w.cell? ⟨g, 1, none⟩ = some b ∧ w.cell? ⟨g, 2, none⟩ = some c ∧ w.cell? ⟨g, 3, none⟩ = some d ∧ w.cell? ⟨g, 4, none⟩ = some e ∧ w.cell? ⟨g, 5, none⟩ = some f ∧ w.cell? ⟨g, 6, none⟩ = some k ∧ w.cell? ⟨g, 7, none⟩ = some h :=
  ⟨H.cell 0, H.cell 1, H.cell 2, H.cell 3, H.cell 4, H.cell 5, H.cell 6, H.cell 7⟩
theorem keep22 {wr w1 w2 : World} {p : Nat} {t : TypeId} {a b c d e f g h : Value} (H : Holds wr p t #[a, b, c, d, e, f, g, h]) (hb : Below wr.heap.size wr w1) (hb2 : Below w1.heap.size w1 w2) :
    w2.cell? ⟨p, 0, none⟩ = some a ∧ w2.cell? ⟨p, 1, none⟩ = some b ∧ w2.cell? ⟨p, 2, none⟩ = some c ∧ w2.cell? ⟨p, 3, none⟩ = some d ∧ w2.cell? ⟨p, 4, none⟩ = some e ∧ w2.cell? ⟨p, 5, none⟩ = some f ∧ w2.cell? ⟨p, 6, none⟩ = some g ∧ w2.cell? ⟨p, 7, none⟩ = some h ∧ Below wr.heap.size wr w2 := by
  have hb3 := hb.trans (hb2.mono hb.size)
  obtain ⟨x0, x1, x2, x3, x4, x5, x6, x7⟩ := eight22 (H.below hb3 H.lt)
  exact ⟨x0, x1, x2, x3, x4, x5, x6, x7, hb3⟩

theorem below22 {w w1 w2 : World} (h : Below w.heap.size w w1) (k : Below w1.heap.size w1 w2) : Below w.heap.size w w2 := h.trans (k.mono h.size)
theorem keep22s {wr w1 : World} {p B i : Nat} {s : Option Nat} {u : Value} {t : TypeId} {a b c d e f g h : Value} (H : Holds wr p t #[a, b, c, d, e, f, g, h]) (hb : Below wr.heap.size wr w1) (hB : wr.heap.size ≤ B) :
    (w1.setCell ⟨B, i, s⟩ u).cell? ⟨p, 0, none⟩ = some a ∧ (w1.setCell ⟨B, i, s⟩ u).cell? ⟨p, 1, none⟩ = some b ∧ (w1.setCell ⟨B, i, s⟩ u).cell? ⟨p, 2, none⟩ = some c ∧ (w1.setCell ⟨B, i, s⟩ u).cell? ⟨p, 3, none⟩ = some d ∧ (w1.setCell ⟨B, i, s⟩ u).cell? ⟨p, 4, none⟩ = some e ∧ (w1.setCell ⟨B, i, s⟩ u).cell? ⟨p, 5, none⟩ = some f ∧ (w1.setCell ⟨B, i, s⟩ u).cell? ⟨p, 6, none⟩ = some g ∧ (w1.setCell ⟨B, i, s⟩ u).cell? ⟨p, 7, none⟩ = some h ∧ Below wr.heap.size wr (w1.setCell ⟨B, i, s⟩ u) := keep22 H (Below.refl _ _) (below_set hB hb)
theorem keep22a {wr w1 : World} {o : Obj} {p : Nat} {t : TypeId} {a b c d e f g h : Value} (H : Holds wr p t #[a, b, c, d, e, f, g, h]) (hb : Below wr.heap.size wr w1) :
    (w1.alloc o).cell? ⟨p, 0, none⟩ = some a ∧ (w1.alloc o).cell? ⟨p, 1, none⟩ = some b ∧ (w1.alloc o).cell? ⟨p, 2, none⟩ = some c ∧ (w1.alloc o).cell? ⟨p, 3, none⟩ = some d ∧ (w1.alloc o).cell? ⟨p, 4, none⟩ = some e ∧ (w1.alloc o).cell? ⟨p, 5, none⟩ = some f ∧ (w1.alloc o).cell? ⟨p, 6, none⟩ = some g ∧ (w1.alloc o).cell? ⟨p, 7, none⟩ = some h ∧ Below wr.heap.size wr (w1.alloc o) := keep22 H (Below.refl _ _) (hb.alloc hb.size o)
theorem Holds.ne {w : World} {g g' : Nat} {t t' : TypeId} {cs cs' : Array Value} (h : Holds w g t cs) (h' : Holds w g' t' cs') (ht : t ≠ t') : g ≠ g' := by
  rintro rfl
  unfold Holds at h h'
  rw [h] at h'
  cases h'
  exact ht rfl
/-- Rows that are nil. -/
def nilRows (n : Nat) : Array Value := (List.replicate n (Value.slice none 0 0)).toArray
theorem made_nils (n : Nat) : madeCells #[Value.slice none 0 0] n = nilRows n := by
  unfold nilRows
  apply Array.ext'
  simp only [madeCells]
  apply List.ext_getElem
  · simp
  · intro i h1 h2; simp [Nat.mod_one]

/-- Where all that can be known of a grammar lies; nil: it is no grammar. -/
noncomputable def KnownIs (w : World) (v : Value) (B : Nat) (g : Gram) : Prop := if rightB g = true then ∃ K q qe, v = .pointer (some ⟨K, 0, none⟩) ∧ B ≤ q ∧ KnowAt w K q (.slice (some ⟨qe, 0, none⟩) g.rules.length g.rules.length) (growsB g false) (allF g (growsB g false)) else v = .pointer none
theorem knowAt_nil {w : World} {K q qe n : Nat} {em : List Bool} (hk : Holds w K 88 #[.slice (some ⟨qe, 0, none⟩) n n, .slice (some ⟨q, 0, none⟩) n n]) (hq : Holds w q 34 (nilRows n)) (he : BoolsAt w qe em) (hn : n = em.length) (hm : n ≤ maxLen) : KnowAt w K q (.slice (some ⟨qe, 0, none⟩) n n) em (List.replicate n []) := by
  refine ⟨by rw [List.length_replicate]; exact hk, Holds.ne hk hq (by decide), he.row hn ⟨he.lt, Holds.ne he hq (by decide)⟩ hm, _, hq, by simp [nilRows], fun r l hl => ⟨.slice none 0 0, ?_, ?_⟩⟩
  · have hr := (List.getElem?_eq_some_iff.1 hl).1
    rw [List.length_replicate] at hr
    simp [nilRows, hr]
  · have := List.mem_of_getElem? hl
    rw [List.mem_replicate] at this
    rw [this.2]
    exact Rd.nil _ _ _

set_option maxRecDepth 20000 in
set_option maxHeartbeats 8000000 in
theorem first_know (a b c : Value) (g : Gram) (w : World) (HG : GramIs w (Old w) a b c g) (hsm : Small g) :
    Calls Try.prog 62 #[.agg (gramCells a b c g)] w fun r w' => (∃ v, r = .returned v ∧ Hid (KnownIs w' v w.heap.size g)) ∧ Below w.heap.size w w' := by
  have HR := hidden (fun (w' : World) (hb : Below w.heap.size w w') => gram_Right a b c g w' (HG.old hb) hsm.toks hsm.rules hsm.prods hsm.names)
  have HPr := hidden HG.2.2
  have hN := hsm.toks
  have HEm := hidden (fun (w' : World) (hb : Below w.heap.size w w') => null_Empty a b c g w' (HG.old hb) hsm)
  obtain ⟨⟨A1, k1, rfl, v1, m1⟩, ⟨A2, k2, rfl, v2, m2⟩, ⟨A3, k3, rfl, v3, m3⟩⟩ := HG.vals
  unfold maxLen at m1 m2 m3
  have hb0 : Below w.heap.size w (w.alloc (.cells #[.slice A1 g.toks.length k1, .slice A2 g.rules.length k2, .slice A3 g.prods.length k3, .int .i64 g.start, .int .i64 g.states, .int .i64 g.text, .int .i64 g.nodes, .int .i64 g.pairs] 26)) := (by repeat (first | (with_reducible exact Below.refl _ _) | (with_reducible assumption) | (with_reducible refine Below.drew ?_) | (with_reducible refine below_drewN ?_ _) | ((with_reducible refine below_alloc ?_ ?_); (focus (first | omega | (simp; done) | (simp; omega)))) | ((with_reducible refine below_set ?_ ?_); (focus (first | omega | (simp; done) | (simp; omega))))))
  have HB0 := hidden (Holds.new w 26 #[.slice A1 g.toks.length k1, .slice A2 g.rules.length k2, .slice A3 g.prods.length k3, .int .i64 g.start, .int .i64 g.states, .int .i64 g.text, .int .i64 g.nodes, .int .i64 g.pairs])
  clear HG
  unfold gramCells at *
  go_enter Try.func62, Try.ntmps62
  obtain ⟨s0, s1, s2, s3, s4, s5, s6, s7⟩ := eight22 HB0.out
  go_wp2_with fail
  refine (HR.out _ hb0).mono ?_
  rintro r w2 ⟨rfl, hb2⟩
  replace HB0 := hidden (HB0.out.below hb2 HB0.out.lt)
  replace hb0 := hb0.trans (hb2.mono hb0.size)
  clear s0 s1 s2 s3 s4 s5 s6 s7 hb2 HR
  cases hg : rightB g with
  | false =>
    obtain ⟨s0, s1, s2, s3, s4, s5, s6, s7⟩ := eight22 HB0.out
    go_wp2
    go_ret
    exact ⟨⟨_, rfl, hidden (by unfold KnownIs; rw [hg]; rfl)⟩, hb0⟩
  | true =>
    obtain ⟨s0, s1, s2, s3, s4, s5, s6, s7⟩ := eight22 HB0.out
    have HEm2 := hidden (fun (w' : World) (hb : Below w2.heap.size w2 w') => HEm.out w' (hb0.trans (hb.mono hb0.size)))
    clear HEm
    have hsetIs : ∀ {w : World} {v : Value}, SetIs w v g.rules.length true (growsB g false) → ∃ q, v = .slice (some ⟨q, 0, none⟩) g.rules.length g.rules.length ∧ BoolsAt w q (growsB g false) ∧ (growsB g false).length = g.rules.length := fun h => by
      unfold SetIs at h
      rwa [if_pos rfl] at h
    rw [hg] at HEm2
    have hgr := hsm.rules
    have hmk : ∀ w : World, (Instr.makeSlice 31 (.int .i64 (g.rules.length : Int)) (.int .i64 (g.rules.length : Int))).run Try.prog w = .ok (.slice (some ⟨w.heap.size, 0, none⟩) g.rules.length g.rules.length) (w.alloc (.cells (nilRows g.rules.length) 34)) := fun w => by
      rw [← made_nils]
      exact run_make_row' (P := Try.prog) 31 34 (.slice none 0 0) 24 (by kernel_rfl) (by kernel_rfl) rfl .i64 .i64 g.rules.length (by omega) (by omega) w
    go_upto_region 3 with fail
    go_cut [3] from 11 to 18 (fun v3 wx => ∃ (bk kk q qe : Nat), v3 = .pointer (some ⟨bk, 0, none⟩) ∧ Hid (Holds wx bk 85 #[.pointer (some ⟨kk, 0, none⟩)]) ∧ Hid (Holds wx kk 88 #[.slice (some ⟨qe, 0, none⟩) g.rules.length g.rules.length, .slice (some ⟨q, 0, none⟩) g.rules.length g.rules.length]) ∧ Hid (Holds wx q 34 (nilRows g.rules.length)) ∧ Hid (BoolsAt wx qe (growsB g false)) ∧ Hid (Below w2.heap.size w2 wx) ∧ w2.heap.size ≤ q ∧ w2.heap.size ≤ kk ∧ w2.heap.size ≤ bk)
    case first =>
      refine (wpIn_wide (n := 5)).1 ?_
      refine wpIn_region_take (fun wv => Below w2.heap.size w2 wv) 9 (by kernel_rfl) ?_
      have hC0 : Below w2.heap.size w2 w2.drew := (Below.refl _ _).drew
      clear s0 s1 s2 s3 s4 s5 s6 s7
      refine take_read (i := 0) (v := ?_) (by kernel_rfl) (by rfl) rfl (by rfl) (by kernel_rfl) (by kernel_rfl) (fun _ _ _ h => h) hC0 ⟨Or.inl ⟨by rfl, fun wv hw => ?_⟩, fun _ => rfl⟩ ?_
      rotate_left
      · obtain ⟨r0, r1, r2, r3, r4, r5, r6, r7⟩ := eight22 (HB0.out.below hw HB0.out.lt); clear hw
        go_simp
        try rfl
      refine take_read (i := 2) (v := ?_) (by kernel_rfl) (by rfl) rfl (by rfl) (by kernel_rfl) (by kernel_rfl) (fun _ _ _ h => h) hC0 ⟨Or.inl ⟨by rfl, fun wv hw => ?_⟩, fun _ => rfl⟩ ?_
      rotate_left
      · clear hw
        go_simp
        try rfl
      refine take_read (i := 3) (v := ?_) (by kernel_rfl) (by rfl) rfl (by rfl) (by kernel_rfl) (by kernel_rfl) (fun _ _ _ h => h) hC0 ⟨Or.inl ⟨by rfl, fun wv hw => ?_⟩, fun _ => rfl⟩ ?_
      rotate_left
      · obtain ⟨r0, r1, r2, r3, r4, r5, r6, r7⟩ := eight22 (HB0.out.below hw HB0.out.lt); clear hw
        go_simp
        try rfl
      refine take_read (i := 4) (v := ?_) (by kernel_rfl) (by rfl) rfl (by rfl) (by kernel_rfl) (by kernel_rfl) (fun _ _ _ h => h) hC0 ⟨Or.inl ⟨by rfl, fun wv hw => ?_⟩, fun _ => rfl⟩ ?_
      rotate_left
      · clear hw
        go_simp
        try rfl
      generalize hwd : w2.drew = wd at *
      have hz0 := hC0.size
      clear hwd
      refine take_three (i := 1) (j := 5) (k := 8) (by kernel_rfl) rfl rfl rfl rfl rfl rfl (by rfl) (by rfl) (by rfl) (fun K hK => ?_) (fun K hK => ?_) (fun K hK => ?_)
      · go_simp
        refine CallsIn.mono (F := Fence.wide) (callsIn_wide.2 (HEm2.out _ hC0)) ?_
        rintro e wc1 ⟨⟨u3, rfl, hu5⟩, hb2⟩
        obtain ⟨qe, rfl, hqe, hqn⟩ := hsetIs hu5.out
        clear hu5
        have hC4 := hC0.trans (hb2.mono hz0)
        have hz5 := hC4.size
        refine hK _ _ hC4 ?_
        clear hK K hb2
        refine take_two (i := 5) (j := 8) (by kernel_rfl) rfl rfl rfl rfl (by rfl) (by rfl) (fun K hK => ?_) (fun K hK => ?_)
        · go_simp
          have hC6 := hC4.alloc hz5 (.cells (nilRows g.rules.length) 34)
          have hz7 := hC6.size
          have hh8 := Holds.alloc hqe (.cells (nilRows g.rules.length) 34)
          have hh9 := Holds.new wc1 34 (nilRows g.rules.length)
          refine hK _ _ hC6 ?_
          clear hK K
          generalize wc1.heap.size = bq10 at *
          generalize wc1.alloc (.cells (nilRows g.rules.length) 34) = wa11 at *
          refine take_read (i := 6) (v := ?_) (by kernel_rfl) (by rfl) rfl (by rfl) (by kernel_rfl) (by kernel_rfl) (fun _ _ _ h => h) hC6 ⟨Or.inl ⟨by rfl, fun wv hw => ?_⟩, fun _ => rfl⟩ ?_
          rotate_left
          · clear hw
            go_simp
            try rfl
          refine take_two (i := 7) (j := 8) (by kernel_rfl) rfl rfl rfl rfl (by rfl) (by rfl) (fun K hK => ?_) (fun K hK => ?_)
          · go_simp
            have hC12 := hC6.alloc hz7 (.cells #[.slice (some ⟨qe, 0, none⟩) g.rules.length g.rules.length, .slice (some ⟨bq10, 0, none⟩) g.rules.length g.rules.length] 88)
            have hz13 := hC12.size
            have hh14 := Holds.alloc hh8 (.cells #[.slice (some ⟨qe, 0, none⟩) g.rules.length g.rules.length, .slice (some ⟨bq10, 0, none⟩) g.rules.length g.rules.length] 88)
            have hh15 := Holds.alloc hh9 (.cells #[.slice (some ⟨qe, 0, none⟩) g.rules.length g.rules.length, .slice (some ⟨bq10, 0, none⟩) g.rules.length g.rules.length] 88)
            have hh16 := Holds.new wa11 88 #[.slice (some ⟨qe, 0, none⟩) g.rules.length g.rules.length, .slice (some ⟨bq10, 0, none⟩) g.rules.length g.rules.length]
            refine hK _ _ hC12 ?_
            clear hK K
            generalize wa11.heap.size = bk17 at *
            generalize wa11.alloc (.cells #[.slice (some ⟨qe, 0, none⟩) g.rules.length g.rules.length, .slice (some ⟨bq10, 0, none⟩) g.rules.length g.rules.length] 88) = wa18 at *
            refine take_only (i := 8) (by kernel_rfl) rfl rfl (by rfl) (fun K hK => ?_)
            go_simp
            have hC19 := hC12.alloc hz13 (.cells #[.pointer none] 85)
            have hz20 := hC19.size
            have hh21 := Holds.alloc hh14 (.cells #[.pointer none] 85)
            have hh22 := Holds.alloc hh15 (.cells #[.pointer none] 85)
            have hh23 := Holds.alloc hh16 (.cells #[.pointer none] 85)
            have hh24 := Holds.new wa18 85 #[.pointer none]
            refine hK _ _ hC19 ?_
            clear hK K
            generalize wa18.heap.size = bb25 at *
            generalize wa18.alloc (.cells #[.pointer none] 85) = wa26 at *
            refine take_tail (by kernel_rfl) (by kernel_rfl) ?_
            simp only [List.drop_succ_cons, List.drop_zero]
            have sc := hh24.c0; have sf := hh24.frozen 0
            gi_wp2
            go_meet
            refine ⟨bb25, bk17, bq10, qe, rfl, hidden ((hh24.set 0 _).of_eq rfl), hidden (hh23.far (p := ⟨bb25, 0, none⟩) (by dsimp only; exact Holds.ne hh23 hh24 (by decide)) _), hidden (hh22.far (p := ⟨bb25, 0, none⟩) (by dsimp only; exact Holds.ne hh22 hh24 (by decide)) _), hidden (hh21.far (p := ⟨bb25, 0, none⟩) (by dsimp only; exact Holds.ne hh21 hh24 (by decide)) _), hidden (by repeat (first | (with_reducible exact Below.refl _ _) | (with_reducible assumption) | (with_reducible refine Below.drew ?_) | (with_reducible refine below_drewN ?_ _) | ((with_reducible refine below_alloc ?_ ?_); (focus (first | omega | (simp; done) | (simp; omega)))) | ((with_reducible refine below_set ?_ ?_); (focus (first | omega | (simp; done) | (simp; omega)))))), ?_, ?_, ?_⟩ <;> omega
          · go_simp
            have hC27 := hC6.alloc hz7 (.cells #[.pointer none] 85)
            have hz28 := hC27.size
            have hh29 := Holds.alloc hh8 (.cells #[.pointer none] 85)
            have hh30 := Holds.alloc hh9 (.cells #[.pointer none] 85)
            have hh31 := Holds.new wa11 85 #[.pointer none]
            refine hK _ _ hC27 ?_
            clear hK K
            generalize wa11.heap.size = bb32 at *
            generalize wa11.alloc (.cells #[.pointer none] 85) = wa33 at *
            refine take_only (i := 7) (by kernel_rfl) rfl rfl (by rfl) (fun K hK => ?_)
            go_simp
            have hC34 := hC27.alloc hz28 (.cells #[.slice (some ⟨qe, 0, none⟩) g.rules.length g.rules.length, .slice (some ⟨bq10, 0, none⟩) g.rules.length g.rules.length] 88)
            have hz35 := hC34.size
            have hh36 := Holds.alloc hh29 (.cells #[.slice (some ⟨qe, 0, none⟩) g.rules.length g.rules.length, .slice (some ⟨bq10, 0, none⟩) g.rules.length g.rules.length] 88)
            have hh37 := Holds.alloc hh30 (.cells #[.slice (some ⟨qe, 0, none⟩) g.rules.length g.rules.length, .slice (some ⟨bq10, 0, none⟩) g.rules.length g.rules.length] 88)
            have hh38 := Holds.alloc hh31 (.cells #[.slice (some ⟨qe, 0, none⟩) g.rules.length g.rules.length, .slice (some ⟨bq10, 0, none⟩) g.rules.length g.rules.length] 88)
            have hh39 := Holds.new wa33 88 #[.slice (some ⟨qe, 0, none⟩) g.rules.length g.rules.length, .slice (some ⟨bq10, 0, none⟩) g.rules.length g.rules.length]
            refine hK _ _ hC34 ?_
            clear hK K
            generalize wa33.heap.size = bk40 at *
            generalize wa33.alloc (.cells #[.slice (some ⟨qe, 0, none⟩) g.rules.length g.rules.length, .slice (some ⟨bq10, 0, none⟩) g.rules.length g.rules.length] 88) = wa41 at *
            refine take_tail (by kernel_rfl) (by kernel_rfl) ?_
            simp only [List.drop_succ_cons, List.drop_zero]
            have sc := hh38.c0; have sf := hh38.frozen 0
            gi_wp2
            go_meet
            refine ⟨bb32, bk40, bq10, qe, rfl, hidden ((hh38.set 0 _).of_eq rfl), hidden (hh39.far (p := ⟨bb32, 0, none⟩) (by dsimp only; exact Holds.ne hh39 hh38 (by decide)) _), hidden (hh37.far (p := ⟨bb32, 0, none⟩) (by dsimp only; exact Holds.ne hh37 hh38 (by decide)) _), hidden (hh36.far (p := ⟨bb32, 0, none⟩) (by dsimp only; exact Holds.ne hh36 hh38 (by decide)) _), hidden (by repeat (first | (with_reducible exact Below.refl _ _) | (with_reducible assumption) | (with_reducible refine Below.drew ?_) | (with_reducible refine below_drewN ?_ _) | ((with_reducible refine below_alloc ?_ ?_); (focus (first | omega | (simp; done) | (simp; omega)))) | ((with_reducible refine below_set ?_ ?_); (focus (first | omega | (simp; done) | (simp; omega)))))), ?_, ?_, ?_⟩ <;> omega
        · go_simp
          have hC42 := hC4.alloc hz5 (.cells #[.pointer none] 85)
          have hz43 := hC42.size
          have hh44 := Holds.alloc hqe (.cells #[.pointer none] 85)
          have hh45 := Holds.new wc1 85 #[.pointer none]
          refine hK _ _ hC42 ?_
          clear hK K
          generalize wc1.heap.size = bb46 at *
          generalize wc1.alloc (.cells #[.pointer none] 85) = wa47 at *
          refine take_only (i := 5) (by kernel_rfl) rfl rfl (by rfl) (fun K hK => ?_)
          go_simp
          have hC48 := hC42.alloc hz43 (.cells (nilRows g.rules.length) 34)
          have hz49 := hC48.size
          have hh50 := Holds.alloc hh44 (.cells (nilRows g.rules.length) 34)
          have hh51 := Holds.alloc hh45 (.cells (nilRows g.rules.length) 34)
          have hh52 := Holds.new wa47 34 (nilRows g.rules.length)
          refine hK _ _ hC48 ?_
          clear hK K
          generalize wa47.heap.size = bq53 at *
          generalize wa47.alloc (.cells (nilRows g.rules.length) 34) = wa54 at *
          refine take_read (i := 6) (v := ?_) (by kernel_rfl) (by rfl) rfl (by rfl) (by kernel_rfl) (by kernel_rfl) (fun _ _ _ h => h) hC48 ⟨Or.inl ⟨by rfl, fun wv hw => ?_⟩, fun _ => rfl⟩ ?_
          rotate_left
          · clear hw
            go_simp
            try rfl
          refine take_only (i := 7) (by kernel_rfl) rfl rfl (by rfl) (fun K hK => ?_)
          go_simp
          have hC55 := hC48.alloc hz49 (.cells #[.slice (some ⟨qe, 0, none⟩) g.rules.length g.rules.length, .slice (some ⟨bq53, 0, none⟩) g.rules.length g.rules.length] 88)
          have hz56 := hC55.size
          have hh57 := Holds.alloc hh50 (.cells #[.slice (some ⟨qe, 0, none⟩) g.rules.length g.rules.length, .slice (some ⟨bq53, 0, none⟩) g.rules.length g.rules.length] 88)
          have hh58 := Holds.alloc hh51 (.cells #[.slice (some ⟨qe, 0, none⟩) g.rules.length g.rules.length, .slice (some ⟨bq53, 0, none⟩) g.rules.length g.rules.length] 88)
          have hh59 := Holds.alloc hh52 (.cells #[.slice (some ⟨qe, 0, none⟩) g.rules.length g.rules.length, .slice (some ⟨bq53, 0, none⟩) g.rules.length g.rules.length] 88)
          have hh60 := Holds.new wa54 88 #[.slice (some ⟨qe, 0, none⟩) g.rules.length g.rules.length, .slice (some ⟨bq53, 0, none⟩) g.rules.length g.rules.length]
          refine hK _ _ hC55 ?_
          clear hK K
          generalize wa54.heap.size = bk61 at *
          generalize wa54.alloc (.cells #[.slice (some ⟨qe, 0, none⟩) g.rules.length g.rules.length, .slice (some ⟨bq53, 0, none⟩) g.rules.length g.rules.length] 88) = wa62 at *
          refine take_tail (by kernel_rfl) (by kernel_rfl) ?_
          simp only [List.drop_succ_cons, List.drop_zero]
          have sc := hh58.c0; have sf := hh58.frozen 0
          gi_wp2
          go_meet
          refine ⟨bb46, bk61, bq53, qe, rfl, hidden ((hh58.set 0 _).of_eq rfl), hidden (hh60.far (p := ⟨bb46, 0, none⟩) (by dsimp only; exact Holds.ne hh60 hh58 (by decide)) _), hidden (hh59.far (p := ⟨bb46, 0, none⟩) (by dsimp only; exact Holds.ne hh59 hh58 (by decide)) _), hidden (hh57.far (p := ⟨bb46, 0, none⟩) (by dsimp only; exact Holds.ne hh57 hh58 (by decide)) _), hidden (by repeat (first | (with_reducible exact Below.refl _ _) | (with_reducible assumption) | (with_reducible refine Below.drew ?_) | (with_reducible refine below_drewN ?_ _) | ((with_reducible refine below_alloc ?_ ?_); (focus (first | omega | (simp; done) | (simp; omega)))) | ((with_reducible refine below_set ?_ ?_); (focus (first | omega | (simp; done) | (simp; omega)))))), ?_, ?_, ?_⟩ <;> omega
      · go_simp
        have hC63 := hC0.alloc hz0 (.cells (nilRows g.rules.length) 34)
        have hz64 := hC63.size
        have hh65 := Holds.new wd 34 (nilRows g.rules.length)
        refine hK _ _ hC63 ?_
        clear hK K
        generalize wd.heap.size = bq66 at *
        generalize wd.alloc (.cells (nilRows g.rules.length) 34) = wa67 at *
        refine take_two (i := 1) (j := 8) (by kernel_rfl) rfl rfl rfl rfl (by rfl) (by rfl) (fun K hK => ?_) (fun K hK => ?_)
        · go_simp
          refine CallsIn.mono (F := Fence.wide) (callsIn_wide.2 (HEm2.out _ hC63)) ?_
          rintro e wc68 ⟨⟨u70, rfl, hu5⟩, hb69⟩
          obtain ⟨qe, rfl, hqe, hqn⟩ := hsetIs hu5.out
          clear hu5
          have hC71 := hC63.trans (hb69.mono hz64)
          have hz72 := hC71.size
          have hh73 := hh65.below hb69 hh65.lt
          refine hK _ _ hC71 ?_
          clear hK K hb69
          refine take_read (i := 6) (v := ?_) (by kernel_rfl) (by rfl) rfl (by rfl) (by kernel_rfl) (by kernel_rfl) (fun _ _ _ h => h) hC71 ⟨Or.inl ⟨by rfl, fun wv hw => ?_⟩, fun _ => rfl⟩ ?_
          rotate_left
          · clear hw
            go_simp
            try rfl
          refine take_two (i := 7) (j := 8) (by kernel_rfl) rfl rfl rfl rfl (by rfl) (by rfl) (fun K hK => ?_) (fun K hK => ?_)
          · go_simp
            have hC74 := hC71.alloc hz72 (.cells #[.slice (some ⟨qe, 0, none⟩) g.rules.length g.rules.length, .slice (some ⟨bq66, 0, none⟩) g.rules.length g.rules.length] 88)
            have hz75 := hC74.size
            have hh76 := Holds.alloc hh73 (.cells #[.slice (some ⟨qe, 0, none⟩) g.rules.length g.rules.length, .slice (some ⟨bq66, 0, none⟩) g.rules.length g.rules.length] 88)
            have hh77 := Holds.alloc hqe (.cells #[.slice (some ⟨qe, 0, none⟩) g.rules.length g.rules.length, .slice (some ⟨bq66, 0, none⟩) g.rules.length g.rules.length] 88)
            have hh78 := Holds.new wc68 88 #[.slice (some ⟨qe, 0, none⟩) g.rules.length g.rules.length, .slice (some ⟨bq66, 0, none⟩) g.rules.length g.rules.length]
            refine hK _ _ hC74 ?_
            clear hK K
            generalize wc68.heap.size = bk79 at *
            generalize wc68.alloc (.cells #[.slice (some ⟨qe, 0, none⟩) g.rules.length g.rules.length, .slice (some ⟨bq66, 0, none⟩) g.rules.length g.rules.length] 88) = wa80 at *
            refine take_only (i := 8) (by kernel_rfl) rfl rfl (by rfl) (fun K hK => ?_)
            go_simp
            have hC81 := hC74.alloc hz75 (.cells #[.pointer none] 85)
            have hz82 := hC81.size
            have hh83 := Holds.alloc hh76 (.cells #[.pointer none] 85)
            have hh84 := Holds.alloc hh77 (.cells #[.pointer none] 85)
            have hh85 := Holds.alloc hh78 (.cells #[.pointer none] 85)
            have hh86 := Holds.new wa80 85 #[.pointer none]
            refine hK _ _ hC81 ?_
            clear hK K
            generalize wa80.heap.size = bb87 at *
            generalize wa80.alloc (.cells #[.pointer none] 85) = wa88 at *
            refine take_tail (by kernel_rfl) (by kernel_rfl) ?_
            simp only [List.drop_succ_cons, List.drop_zero]
            have sc := hh86.c0; have sf := hh86.frozen 0
            gi_wp2
            go_meet
            refine ⟨bb87, bk79, bq66, qe, rfl, hidden ((hh86.set 0 _).of_eq rfl), hidden (hh85.far (p := ⟨bb87, 0, none⟩) (by dsimp only; exact Holds.ne hh85 hh86 (by decide)) _), hidden (hh83.far (p := ⟨bb87, 0, none⟩) (by dsimp only; exact Holds.ne hh83 hh86 (by decide)) _), hidden (hh84.far (p := ⟨bb87, 0, none⟩) (by dsimp only; exact Holds.ne hh84 hh86 (by decide)) _), hidden (by repeat (first | (with_reducible exact Below.refl _ _) | (with_reducible assumption) | (with_reducible refine Below.drew ?_) | (with_reducible refine below_drewN ?_ _) | ((with_reducible refine below_alloc ?_ ?_); (focus (first | omega | (simp; done) | (simp; omega)))) | ((with_reducible refine below_set ?_ ?_); (focus (first | omega | (simp; done) | (simp; omega)))))), ?_, ?_, ?_⟩ <;> omega
          · go_simp
            have hC89 := hC71.alloc hz72 (.cells #[.pointer none] 85)
            have hz90 := hC89.size
            have hh91 := Holds.alloc hh73 (.cells #[.pointer none] 85)
            have hh92 := Holds.alloc hqe (.cells #[.pointer none] 85)
            have hh93 := Holds.new wc68 85 #[.pointer none]
            refine hK _ _ hC89 ?_
            clear hK K
            generalize wc68.heap.size = bb94 at *
            generalize wc68.alloc (.cells #[.pointer none] 85) = wa95 at *
            refine take_only (i := 7) (by kernel_rfl) rfl rfl (by rfl) (fun K hK => ?_)
            go_simp
            have hC96 := hC89.alloc hz90 (.cells #[.slice (some ⟨qe, 0, none⟩) g.rules.length g.rules.length, .slice (some ⟨bq66, 0, none⟩) g.rules.length g.rules.length] 88)
            have hz97 := hC96.size
            have hh98 := Holds.alloc hh91 (.cells #[.slice (some ⟨qe, 0, none⟩) g.rules.length g.rules.length, .slice (some ⟨bq66, 0, none⟩) g.rules.length g.rules.length] 88)
            have hh99 := Holds.alloc hh92 (.cells #[.slice (some ⟨qe, 0, none⟩) g.rules.length g.rules.length, .slice (some ⟨bq66, 0, none⟩) g.rules.length g.rules.length] 88)
            have hh100 := Holds.alloc hh93 (.cells #[.slice (some ⟨qe, 0, none⟩) g.rules.length g.rules.length, .slice (some ⟨bq66, 0, none⟩) g.rules.length g.rules.length] 88)
            have hh101 := Holds.new wa95 88 #[.slice (some ⟨qe, 0, none⟩) g.rules.length g.rules.length, .slice (some ⟨bq66, 0, none⟩) g.rules.length g.rules.length]
            refine hK _ _ hC96 ?_
            clear hK K
            generalize wa95.heap.size = bk102 at *
            generalize wa95.alloc (.cells #[.slice (some ⟨qe, 0, none⟩) g.rules.length g.rules.length, .slice (some ⟨bq66, 0, none⟩) g.rules.length g.rules.length] 88) = wa103 at *
            refine take_tail (by kernel_rfl) (by kernel_rfl) ?_
            simp only [List.drop_succ_cons, List.drop_zero]
            have sc := hh100.c0; have sf := hh100.frozen 0
            gi_wp2
            go_meet
            refine ⟨bb94, bk102, bq66, qe, rfl, hidden ((hh100.set 0 _).of_eq rfl), hidden (hh101.far (p := ⟨bb94, 0, none⟩) (by dsimp only; exact Holds.ne hh101 hh100 (by decide)) _), hidden (hh98.far (p := ⟨bb94, 0, none⟩) (by dsimp only; exact Holds.ne hh98 hh100 (by decide)) _), hidden (hh99.far (p := ⟨bb94, 0, none⟩) (by dsimp only; exact Holds.ne hh99 hh100 (by decide)) _), hidden (by repeat (first | (with_reducible exact Below.refl _ _) | (with_reducible assumption) | (with_reducible refine Below.drew ?_) | (with_reducible refine below_drewN ?_ _) | ((with_reducible refine below_alloc ?_ ?_); (focus (first | omega | (simp; done) | (simp; omega)))) | ((with_reducible refine below_set ?_ ?_); (focus (first | omega | (simp; done) | (simp; omega)))))), ?_, ?_, ?_⟩ <;> omega
        · go_simp
          have hC104 := hC63.alloc hz64 (.cells #[.pointer none] 85)
          have hz105 := hC104.size
          have hh106 := Holds.alloc hh65 (.cells #[.pointer none] 85)
          have hh107 := Holds.new wa67 85 #[.pointer none]
          refine hK _ _ hC104 ?_
          clear hK K
          generalize wa67.heap.size = bb108 at *
          generalize wa67.alloc (.cells #[.pointer none] 85) = wa109 at *
          refine take_only (i := 1) (by kernel_rfl) rfl rfl (by rfl) (fun K hK => ?_)
          go_simp
          refine CallsIn.mono (F := Fence.wide) (callsIn_wide.2 (HEm2.out _ hC104)) ?_
          rintro e wc110 ⟨⟨u112, rfl, hu5⟩, hb111⟩
          obtain ⟨qe, rfl, hqe, hqn⟩ := hsetIs hu5.out
          clear hu5
          have hC113 := hC104.trans (hb111.mono hz105)
          have hz114 := hC113.size
          have hh115 := hh106.below hb111 hh106.lt
          have hh116 := hh107.below hb111 hh107.lt
          refine hK _ _ hC113 ?_
          clear hK K hb111
          refine take_read (i := 6) (v := ?_) (by kernel_rfl) (by rfl) rfl (by rfl) (by kernel_rfl) (by kernel_rfl) (fun _ _ _ h => h) hC113 ⟨Or.inl ⟨by rfl, fun wv hw => ?_⟩, fun _ => rfl⟩ ?_
          rotate_left
          · clear hw
            go_simp
            try rfl
          refine take_only (i := 7) (by kernel_rfl) rfl rfl (by rfl) (fun K hK => ?_)
          go_simp
          have hC117 := hC113.alloc hz114 (.cells #[.slice (some ⟨qe, 0, none⟩) g.rules.length g.rules.length, .slice (some ⟨bq66, 0, none⟩) g.rules.length g.rules.length] 88)
          have hz118 := hC117.size
          have hh119 := Holds.alloc hh115 (.cells #[.slice (some ⟨qe, 0, none⟩) g.rules.length g.rules.length, .slice (some ⟨bq66, 0, none⟩) g.rules.length g.rules.length] 88)
          have hh120 := Holds.alloc hh116 (.cells #[.slice (some ⟨qe, 0, none⟩) g.rules.length g.rules.length, .slice (some ⟨bq66, 0, none⟩) g.rules.length g.rules.length] 88)
          have hh121 := Holds.alloc hqe (.cells #[.slice (some ⟨qe, 0, none⟩) g.rules.length g.rules.length, .slice (some ⟨bq66, 0, none⟩) g.rules.length g.rules.length] 88)
          have hh122 := Holds.new wc110 88 #[.slice (some ⟨qe, 0, none⟩) g.rules.length g.rules.length, .slice (some ⟨bq66, 0, none⟩) g.rules.length g.rules.length]
          refine hK _ _ hC117 ?_
          clear hK K
          generalize wc110.heap.size = bk123 at *
          generalize wc110.alloc (.cells #[.slice (some ⟨qe, 0, none⟩) g.rules.length g.rules.length, .slice (some ⟨bq66, 0, none⟩) g.rules.length g.rules.length] 88) = wa124 at *
          refine take_tail (by kernel_rfl) (by kernel_rfl) ?_
          simp only [List.drop_succ_cons, List.drop_zero]
          have sc := hh120.c0; have sf := hh120.frozen 0
          gi_wp2
          go_meet
          refine ⟨bb108, bk123, bq66, qe, rfl, hidden ((hh120.set 0 _).of_eq rfl), hidden (hh122.far (p := ⟨bb108, 0, none⟩) (by dsimp only; exact Holds.ne hh122 hh120 (by decide)) _), hidden (hh119.far (p := ⟨bb108, 0, none⟩) (by dsimp only; exact Holds.ne hh119 hh120 (by decide)) _), hidden (hh121.far (p := ⟨bb108, 0, none⟩) (by dsimp only; exact Holds.ne hh121 hh120 (by decide)) _), hidden (by repeat (first | (with_reducible exact Below.refl _ _) | (with_reducible assumption) | (with_reducible refine Below.drew ?_) | (with_reducible refine below_drewN ?_ _) | ((with_reducible refine below_alloc ?_ ?_); (focus (first | omega | (simp; done) | (simp; omega)))) | ((with_reducible refine below_set ?_ ?_); (focus (first | omega | (simp; done) | (simp; omega)))))), ?_, ?_, ?_⟩ <;> omega
      · go_simp
        have hC125 := hC0.alloc hz0 (.cells #[.pointer none] 85)
        have hz126 := hC125.size
        have hh127 := Holds.new wd 85 #[.pointer none]
        refine hK _ _ hC125 ?_
        clear hK K
        generalize wd.heap.size = bb128 at *
        generalize wd.alloc (.cells #[.pointer none] 85) = wa129 at *
        refine take_two (i := 1) (j := 5) (by kernel_rfl) rfl rfl rfl rfl (by rfl) (by rfl) (fun K hK => ?_) (fun K hK => ?_)
        · go_simp
          refine CallsIn.mono (F := Fence.wide) (callsIn_wide.2 (HEm2.out _ hC125)) ?_
          rintro e wc130 ⟨⟨u132, rfl, hu5⟩, hb131⟩
          obtain ⟨qe, rfl, hqe, hqn⟩ := hsetIs hu5.out
          clear hu5
          have hC133 := hC125.trans (hb131.mono hz126)
          have hz134 := hC133.size
          have hh135 := hh127.below hb131 hh127.lt
          refine hK _ _ hC133 ?_
          clear hK K hb131
          refine take_only (i := 5) (by kernel_rfl) rfl rfl (by rfl) (fun K hK => ?_)
          go_simp
          have hC136 := hC133.alloc hz134 (.cells (nilRows g.rules.length) 34)
          have hz137 := hC136.size
          have hh138 := Holds.alloc hh135 (.cells (nilRows g.rules.length) 34)
          have hh139 := Holds.alloc hqe (.cells (nilRows g.rules.length) 34)
          have hh140 := Holds.new wc130 34 (nilRows g.rules.length)
          refine hK _ _ hC136 ?_
          clear hK K
          generalize wc130.heap.size = bq141 at *
          generalize wc130.alloc (.cells (nilRows g.rules.length) 34) = wa142 at *
          refine take_read (i := 6) (v := ?_) (by kernel_rfl) (by rfl) rfl (by rfl) (by kernel_rfl) (by kernel_rfl) (fun _ _ _ h => h) hC136 ⟨Or.inl ⟨by rfl, fun wv hw => ?_⟩, fun _ => rfl⟩ ?_
          rotate_left
          · clear hw
            go_simp
            try rfl
          refine take_only (i := 7) (by kernel_rfl) rfl rfl (by rfl) (fun K hK => ?_)
          go_simp
          have hC143 := hC136.alloc hz137 (.cells #[.slice (some ⟨qe, 0, none⟩) g.rules.length g.rules.length, .slice (some ⟨bq141, 0, none⟩) g.rules.length g.rules.length] 88)
          have hz144 := hC143.size
          have hh145 := Holds.alloc hh138 (.cells #[.slice (some ⟨qe, 0, none⟩) g.rules.length g.rules.length, .slice (some ⟨bq141, 0, none⟩) g.rules.length g.rules.length] 88)
          have hh146 := Holds.alloc hh139 (.cells #[.slice (some ⟨qe, 0, none⟩) g.rules.length g.rules.length, .slice (some ⟨bq141, 0, none⟩) g.rules.length g.rules.length] 88)
          have hh147 := Holds.alloc hh140 (.cells #[.slice (some ⟨qe, 0, none⟩) g.rules.length g.rules.length, .slice (some ⟨bq141, 0, none⟩) g.rules.length g.rules.length] 88)
          have hh148 := Holds.new wa142 88 #[.slice (some ⟨qe, 0, none⟩) g.rules.length g.rules.length, .slice (some ⟨bq141, 0, none⟩) g.rules.length g.rules.length]
          refine hK _ _ hC143 ?_
          clear hK K
          generalize wa142.heap.size = bk149 at *
          generalize wa142.alloc (.cells #[.slice (some ⟨qe, 0, none⟩) g.rules.length g.rules.length, .slice (some ⟨bq141, 0, none⟩) g.rules.length g.rules.length] 88) = wa150 at *
          refine take_tail (by kernel_rfl) (by kernel_rfl) ?_
          simp only [List.drop_succ_cons, List.drop_zero]
          have sc := hh145.c0; have sf := hh145.frozen 0
          gi_wp2
          go_meet
          refine ⟨bb128, bk149, bq141, qe, rfl, hidden ((hh145.set 0 _).of_eq rfl), hidden (hh148.far (p := ⟨bb128, 0, none⟩) (by dsimp only; exact Holds.ne hh148 hh145 (by decide)) _), hidden (hh147.far (p := ⟨bb128, 0, none⟩) (by dsimp only; exact Holds.ne hh147 hh145 (by decide)) _), hidden (hh146.far (p := ⟨bb128, 0, none⟩) (by dsimp only; exact Holds.ne hh146 hh145 (by decide)) _), hidden (by repeat (first | (with_reducible exact Below.refl _ _) | (with_reducible assumption) | (with_reducible refine Below.drew ?_) | (with_reducible refine below_drewN ?_ _) | ((with_reducible refine below_alloc ?_ ?_); (focus (first | omega | (simp; done) | (simp; omega)))) | ((with_reducible refine below_set ?_ ?_); (focus (first | omega | (simp; done) | (simp; omega)))))), ?_, ?_, ?_⟩ <;> omega
        · go_simp
          have hC151 := hC125.alloc hz126 (.cells (nilRows g.rules.length) 34)
          have hz152 := hC151.size
          have hh153 := Holds.alloc hh127 (.cells (nilRows g.rules.length) 34)
          have hh154 := Holds.new wa129 34 (nilRows g.rules.length)
          refine hK _ _ hC151 ?_
          clear hK K
          generalize wa129.heap.size = bq155 at *
          generalize wa129.alloc (.cells (nilRows g.rules.length) 34) = wa156 at *
          refine take_only (i := 1) (by kernel_rfl) rfl rfl (by rfl) (fun K hK => ?_)
          go_simp
          refine CallsIn.mono (F := Fence.wide) (callsIn_wide.2 (HEm2.out _ hC151)) ?_
          rintro e wc157 ⟨⟨u159, rfl, hu5⟩, hb158⟩
          obtain ⟨qe, rfl, hqe, hqn⟩ := hsetIs hu5.out
          clear hu5
          have hC160 := hC151.trans (hb158.mono hz152)
          have hz161 := hC160.size
          have hh162 := hh153.below hb158 hh153.lt
          have hh163 := hh154.below hb158 hh154.lt
          refine hK _ _ hC160 ?_
          clear hK K hb158
          refine take_read (i := 6) (v := ?_) (by kernel_rfl) (by rfl) rfl (by rfl) (by kernel_rfl) (by kernel_rfl) (fun _ _ _ h => h) hC160 ⟨Or.inl ⟨by rfl, fun wv hw => ?_⟩, fun _ => rfl⟩ ?_
          rotate_left
          · clear hw
            go_simp
            try rfl
          refine take_only (i := 7) (by kernel_rfl) rfl rfl (by rfl) (fun K hK => ?_)
          go_simp
          have hC164 := hC160.alloc hz161 (.cells #[.slice (some ⟨qe, 0, none⟩) g.rules.length g.rules.length, .slice (some ⟨bq155, 0, none⟩) g.rules.length g.rules.length] 88)
          have hz165 := hC164.size
          have hh166 := Holds.alloc hh162 (.cells #[.slice (some ⟨qe, 0, none⟩) g.rules.length g.rules.length, .slice (some ⟨bq155, 0, none⟩) g.rules.length g.rules.length] 88)
          have hh167 := Holds.alloc hh163 (.cells #[.slice (some ⟨qe, 0, none⟩) g.rules.length g.rules.length, .slice (some ⟨bq155, 0, none⟩) g.rules.length g.rules.length] 88)
          have hh168 := Holds.alloc hqe (.cells #[.slice (some ⟨qe, 0, none⟩) g.rules.length g.rules.length, .slice (some ⟨bq155, 0, none⟩) g.rules.length g.rules.length] 88)
          have hh169 := Holds.new wc157 88 #[.slice (some ⟨qe, 0, none⟩) g.rules.length g.rules.length, .slice (some ⟨bq155, 0, none⟩) g.rules.length g.rules.length]
          refine hK _ _ hC164 ?_
          clear hK K
          generalize wc157.heap.size = bk170 at *
          generalize wc157.alloc (.cells #[.slice (some ⟨qe, 0, none⟩) g.rules.length g.rules.length, .slice (some ⟨bq155, 0, none⟩) g.rules.length g.rules.length] 88) = wa171 at *
          refine take_tail (by kernel_rfl) (by kernel_rfl) ?_
          simp only [List.drop_succ_cons, List.drop_zero]
          have sc := hh166.c0; have sf := hh166.frozen 0
          gi_wp2
          go_meet
          refine ⟨bb128, bk170, bq155, qe, rfl, hidden ((hh166.set 0 _).of_eq rfl), hidden (hh169.far (p := ⟨bb128, 0, none⟩) (by dsimp only; exact Holds.ne hh169 hh166 (by decide)) _), hidden (hh167.far (p := ⟨bb128, 0, none⟩) (by dsimp only; exact Holds.ne hh167 hh166 (by decide)) _), hidden (hh168.far (p := ⟨bb128, 0, none⟩) (by dsimp only; exact Holds.ne hh168 hh166 (by decide)) _), hidden (by repeat (first | (with_reducible exact Below.refl _ _) | (with_reducible assumption) | (with_reducible refine Below.drew ?_) | (with_reducible refine below_drewN ?_ _) | ((with_reducible refine below_alloc ?_ ?_); (focus (first | omega | (simp; done) | (simp; omega)))) | ((with_reducible refine below_set ?_ ?_); (focus (first | omega | (simp; done) | (simp; omega)))))), ?_, ?_, ?_⟩ <;> omega
    case rest =>
      obtain ⟨bk, kk, q, qe, rfl, HB, HK, HQ, HE, hbw, hq0, hk0, hbk0⟩ := hcut
      have hsz := HB0.out.lt
      have hbwo := hbw.out
      have HGw := hidden (HB0.out.below hbwo hsz)
      have hww := hb0.trans (hbwo.mono hb0.size)
      have HPw := hidden (HPr.out.below hww (fun _ h => h))
      have HWh := hidden (whole22 hg)
      have HKA := hidden (knowAt_nil HK.out HQ.out HE.out (by rw [growsB_len]) (by unfold maxLen; omega))
      have HKF := hidden (KnownF.start g (growsB g false))
      have hqw := HQ.out.lt
      have hne := Holds.ne HB.out HQ.out (by decide)
      have hgq : w.heap.size ≠ q := by omega
      have hel := growsB_len g false
      have HBt := hidden (But.refl q wc)
      clear HK HQ HE hbw hbwo s0 s1 s2 s3 s4 s5 s6 s7 HPr HEm2 hsetIs hmk hb0
      generalize hem : growsB g false = em at *
      have HEM := hidden hem
      generalize hF0 : List.replicate g.rules.length ([] : List Int) = F0 at *
      have HTot := hidden (fun F (h : KnownF g em F) => h.tot_le)
      clear hem hF0
      generalize g.toks.length * g.rules.length = M at *
      go_wp2
      go_loopg [5] (M - tot F0 + 1) (fun gh mm wr => ∃ (F : List (List Int)) (mb : Bool), mm = .bool mb ∧ gh = M - tot F + mb.toNat ∧ Hid (KnowAt wr kk q (.slice (some ⟨qe, 0, none⟩) g.rules.length g.rules.length) em F) ∧ Hid (KnownF g em F) ∧ Hid (Holds wr bk 85 #[.pointer (some ⟨kk, 0, none⟩)]) ∧ Hid (But q wc wr) ∧ Hid (mb = false → ∀ p ∈ g.prods, ∀ z ∈ ofF em F p.right [], z ∈ F.getD p.left.toNat []))
      case atStart => exact ⟨F0, true, rfl, rfl, HKA, HKF, HB, HBt, hidden (fun h => by cases h)⟩
      case round =>
        clear HKA HKF HB HBt
        obtain ⟨F, mb, rfl, rfl, HKa, HKf, HBk, HBu, HP⟩ := hrel
        have bc := HBk.out.c0
        cases mb
        · have HPe := hidden (HKf.out.all (HP.out rfl))
          have HBl := hidden (hww.trans (HBu.out.below (B := w.heap.size) (by omega) hww.size))
          go_wp2
          go_ret
          exact ⟨⟨_, rfl, hidden (by unfold KnownIs; rw [if_pos hg, HEM.out]; exact ⟨kk, q, qe, rfl, by omega, by rw [← HPe.out]; exact HKa.out⟩)⟩, HBl.out⟩
        · clear HP
          have HGr := hidden (HGw.out.but HBu.out hgq)
          obtain ⟨s0, s1, s2, s3, s4, s5, s6, s7⟩ := eight22 HGr.out
          go_wp2
          clear s0 s1 s2 s3 s4 s5 s6 s7 bc HGr
          obtain ⟨wo, rfl⟩ : ∃ wo : World, wo = wr := ⟨_, rfl⟩
          have HF1 := hidden (And.intro HKf.out (Nat.le_refl (tot F)))
          go_loopg [5, 24] g.prods.length (fun gh mm jj wr => ∃ (j : Nat) (F' : List (List Int)) (mb : Bool), j ≤ g.prods.length ∧ gh = g.prods.length - j ∧ jj = .int .i64 j ∧ mm = .bool mb ∧ Hid (KnowAt wr kk q (.slice (some ⟨qe, 0, none⟩) g.rules.length g.rules.length) em F') ∧ Hid (KnownF g em F' ∧ tot F ≤ tot F') ∧ Hid (Holds wr bk 85 #[.pointer (some ⟨kk, 0, none⟩)]) ∧ Hid (But q wc wr) ∧ Hid (mb = false → F' = F ∧ ∀ p ∈ g.prods.take j, ∀ z ∈ ofF em F p.right [], z ∈ F.getD p.left.toNat []) ∧ Hid (mb = true → tot F < tot F'))
          case atStart => exact ⟨0, F, false, by omega, rfl, rfl, rfl, HKa, HF1, HBk, HBu, hidden (fun _ => ⟨rfl, fun p hp => by cases hp⟩), hidden (fun h => by cases h)⟩
          case round =>
            clear HKa HKf HBk HBu HF1
            obtain ⟨j, F', mb, hj, rfl, rfl, rfl, HKa, HKf, HBk, HBu, HN, HY⟩ := hrel
            by_cases hlt : j < g.prods.length
            · have hx := List.getElem?_eq_getElem hlt
              have hmem := List.getElem_mem hlt
              generalize g.prods[j] = p at *
              have hkp : Keeps (fun k => k < w.heap.size) wc wr := ⟨HBu.out.size, fun k hk hl => HBu.out.block k hl (by omega)⟩
              obtain ⟨b1, o1, l1, rfl, hT, hat, hin⟩ := (HPw.out.keeps hkp).at_ hx
              have hin : Rd wr (fun k => k < w.heap.size) 4 l1 p.right.length (p.right.flatMap itCells) := hin
              have hws : w.heap.size ≤ wr.heap.size := Nat.le_trans hww.size HBu.out.size
              have hT' : b1 < wr.heap.size := Nat.lt_of_lt_of_le hT hws
              have y0 : wr.cell? ⟨b1, o1 + j * 2, none⟩ = some (.int .i64 p.left) := hat 0 _ rfl
              have y1' := hat 1 _ rfl
              obtain ⟨A4, k4, rfl, _, _⟩ := hin.val
              have y1 : wr.cell? ⟨b1, o1 + j * 2 + 1, none⟩ = some (.slice A4 p.right.length k4) := y1'
              have hal := (Below.refl wr.heap.size wr).alloc (Nat.le_refl _) (.cells #[.int .i64 p.left, .slice A4 p.right.length k4] 45)
              have HNe := hidden (first_news (wr.alloc (.cells #[.int .i64 p.left, .slice A4 p.right.length k4] 45)) bk kk q g.toks.length (.slice (some ⟨qe, 0, none⟩) g.rules.length g.rules.length) (.slice A4 p.right.length k4) em F' p (HBk.out.alloc _) hne (HKa.out.later hal) HKf.out.1.bd hN (by rw [hel]; exact HKf.out.1.sound.len.symm) (itemsOk_of HWh.out hmem HKf.out.1.sound.len) (by rw [HKf.out.1.sound.len]; exact HWh.out.left p hmem) ((hin.alloc (.cells #[.int .i64 p.left, .slice A4 p.right.length k4] 45)).mono (fun k hk => ⟨by have := hk; simp; omega, by omega⟩)))
              have HFn := hidden (HKf.out.1.step HWh.out hmem)
              have HNo := hidden (fun h => HKf.out.1.no HWh.out hmem h)
              have HGrw := hidden (HKf.out.1.grows HWh.out hmem)
              have HBa := hidden (HBu.out.next hal)
              generalize decide ((F'.getD p.left.toNat []).length < (mergeU (F'.getD p.left.toNat []) (ofF em F' p.right [])).length) = nb at *
              clear hat hin hmem y1' hal hkp HKa HBk HBu
              have HX := hidden hx
              clear hx
              go_wp2_with fail
              refine HNe.out.mono ?_
              rintro r w3 ⟨rfl, HK3, HB3, hbt⟩
              have HT3 := hidden (HBa.out.trans hbt.out)
              have HF3 := hidden (And.intro HFn.out (Nat.le_trans HKf.out.2 HGrw.out.1))
              have HTk : Hid (g.prods.take (j + 1) = g.prods.take j ++ [p]) := hidden (by rw [List.take_add_one, HX.out]; rfl)
              have HLe := HGrw.out.1
              have HN3 : Hid (nb = false → mb = false → stepF em F' p = F ∧ ∀ p ∈ g.prods.take (j + 1), ∀ z ∈ ofF em F p.right [], z ∈ F.getD p.left.toNat []) := hidden (fun h1 h2 => by
                obtain ⟨e1, e2⟩ := HN.out h2
                subst e1
                obtain ⟨e3, e4⟩ := HNo.out h1
                refine ⟨e3, fun p' hp' => ?_⟩
                rw [HTk.out] at hp'
                rcases List.mem_append.1 hp' with h | h
                · exact e2 p' h
                · rw [List.mem_singleton] at h; subst h; exact e4)
              have HY3 : Hid (nb = true ∨ mb = true → tot F < tot (stepF em F' p)) := hidden (fun h => by
                rcases h with h | h
                · exact Nat.lt_of_le_of_lt HKf.out.2 (HGrw.out.2 h)
                · exact Nat.lt_of_lt_of_le (HY.out h) HLe)
              clear HNe hbt HBa HFn HNo HGrw HN HY HKf HTk HLe HX
              generalize stepF em F' p = F3 at *
              cases nb <;> cases mb
              · go_wp2
                go_roundg (g.prods.length - (j + 1))
                case measure => omega
                case rel => exact ⟨j + 1, F3, _, by omega, rfl, by go_num, rfl, HK3, HF3, HB3, HT3, hidden (by intro _; exact HN3.out (by trivial) (by trivial)), hidden (by intro h; cases h)⟩
              · go_wp2
                go_roundg (g.prods.length - (j + 1))
                case measure => omega
                case rel => exact ⟨j + 1, F3, _, by omega, rfl, by go_num, rfl, HK3, HF3, HB3, HT3, hidden (by intro h; cases h), hidden (by intro _; exact HY3.out (.inr (by trivial)))⟩
              · go_wp2
                go_roundg (g.prods.length - (j + 1))
                case measure => omega
                case rel => exact ⟨j + 1, F3, _, by omega, rfl, by go_num, rfl, HK3, HF3, HB3, HT3, hidden (by intro h; cases h), hidden (by intro _; exact HY3.out (.inl (by trivial)))⟩
              · go_wp2
                go_roundg (g.prods.length - (j + 1))
                case measure => omega
                case rel => exact ⟨j + 1, F3, _, by omega, rfl, by go_num, rfl, HK3, HF3, HB3, HT3, hidden (by intro h; cases h), hidden (by intro _; exact HY3.out (.inl (by trivial)))⟩
            · have hje : j = g.prods.length := by omega
              subst hje
              have HT := hidden (HTot.out F' HKf.out.1)
              have HPp : Hid (mb = false → ∀ p ∈ g.prods, ∀ z ∈ ofF em F' p.right [], z ∈ F'.getD p.left.toNat []) := hidden (fun h => by
                obtain ⟨e1, e2⟩ := HN.out h
                subst e1
                rwa [List.take_of_length_le (Nat.le_refl _)] at e2)
              have HMs : Hid (M - tot F' + mb.toNat < M - tot F + 1) := hidden (by
                have h0 := HT.out
                cases mb
                · have h1 := (HN.out rfl).1; subst h1; simp
                · have h1 := HY.out rfl; simp; omega)
              have HKk := hidden HKf.out.1
              clear HN HY HT
              go_wp2
              go_roundg (M - tot F' + mb.toNat)
              case measure => exact HMs.out
              case rel => exact ⟨F', mb, rfl, rfl, HKa, HKk, HBk, HBu, HPp⟩
end Go.Proofs.Ytmlggfapnkhcaaa
