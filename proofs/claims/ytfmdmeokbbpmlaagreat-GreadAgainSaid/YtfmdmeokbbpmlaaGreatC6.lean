/-
  The reader of rxtext: a byte that is none of some. The reader of rxtext: a class' closure; what holds while a class is read. The reader of rxtext: a class. The reader of rxtext: an atom that is a set. The reader of rxtext: the whole text. rxtext.Read.
-/
import Derived.Test.YtfmdmeokbbpmlaaGreatC4
import Derived.Test.YtfmdmeokbbpmlaaGreatC0
import Derived.Deep.CutBlock
import Derived.Deep.DeepCutAuto
import Derived.WalkMore
namespace Go.Proofs.YtfmdmeokbbpmlaaGreat
open Go.RowKit Go.Shelf

theorem chr_back {L : List Nat} {r : List Nat} : rdChr L (92 :: r) = rdEsc r := by rw [rdChr, if_pos rfl]
theorem chr_bad {L : List Nat} {c : Nat} {r : List Nat} (h : c ≠ 92) (h2 : seenB c = false ∨ c ∈ L) : rdChr L (c :: r) = .inl (r.length + 1) := by rw [rdChr, if_neg h, if_pos h2]
theorem chr_good {L : List Nat} {c : Nat} {r : List Nat} (h : c ≠ 92) (h2 : ¬ (seenB c = false ∨ c ∈ L)) : rdChr L (c :: r) = .inr (c, r) := by rw [rdChr, if_neg h, if_neg h2]
set_option maxRecDepth 20000 in
set_option maxHeartbeats 16000000 in
theorem rd_char (bt : ByteArray) (L : List Nat) (hL : ∀ c, c < 256 → decide (Lib.indexByte bt.data.toList c.toUInt8 < 0) = !decide (c ∈ L))
    (W0 : World) (R : Nat) (s : ByteArray) (a : Nat) (l : List Rx) (op : List (Nat × Nat)) (vl vo : Value) (cs : List Nat) (W : World) (H : RdA W0 R s a l op vl vo W) (hA : AtS s a cs) (hs : s.size ≤ 5000) :
    Calls Tryz.prog 120 #[.pointer (some ⟨R, 0, none⟩), .string bt] W fun r w' => Hid (ChrTo W W0 R s l op vl vo (rdChr L cs) r w') := by
  obtain ⟨o, HE⟩ : ∃ o, Hid (rdChr L cs = o) := ⟨_, hidden rfl⟩
  rw [HE.out]
  have hq := hA.size
  have HH := hidden (RdK.start H)
  clear H
  obtain ⟨z0, z1, -, -, f1, -, -⟩ := HH.out.cells
  cases cs with
  | nil =>
    have hn := hA.nil
    have q1 : (s.size : Int) ≤ (a : Int) := by omega
    have e0 : o = .inl 0 := by rw [← HE.out, rdChr]
    subst e0
    clear HE hL
    go_enter Tryz.func120, Tryz.ntmps120
    go_wp2_with fail
    go_quiet (fail)
    replace HH := hidden (HH.out.later (below_drewN (Below.refl _ _) nq))
    clear z0 z1 f1
    generalize W.drewN nq = w1 at *
    obtain ⟨z0, z1, -, -, f1, -, -⟩ := HH.out.cells
    go_wp2
    exact bodyPost_ret (v := .tuple #[.int .u8 0, .bool false]) (by simp [results, Tryz.results120, go_sem]) rfl (hidden ⟨rfl, a, by simpa using hq, HH.out⟩)
  | cons c r =>
    obtain ⟨hk, ec, hA1⟩ := hA.cons
    have hc := hA.lt
    have q1 : ¬ (s.size : Int) ≤ (a : Int) := by omega
    have q2 : (a : Int) < (s.size : Int) := by omega
    have q3 : (0 : Int) ≤ (a : Int) := by omega
    have HI := hidden (Lib0.strings_IndexByte bt (c : Int))
    rw [Int.toNat_natCast] at HI
    have hix := hL c hc
    generalize Lib.indexByte bt.data.toList c.toUInt8 = ix at *
    have HAt := hidden hA
    have HA1 := hidden hA1
    clear hA hA1 hL
    rw [List.length_cons] at hq
    replace hq := hidden hq
    go_enter Tryz.func120, Tryz.ntmps120
    go_wp2_with fail
    go_quiet (fail)
    replace HH := hidden (HH.out.later (below_drewN (Below.refl _ _) nq))
    clear z0 z1 f1
    generalize W.drewN nq = w1 at *
    obtain ⟨z0, z1, -, -, f1, -, -⟩ := HH.out.cells
    go_wp2_with fail
    go_quiet (fail)
    replace HH := hidden (HH.out.later (below_drewN (Below.refl _ _) nq))
    clear z0 z1 f1
    generalize w1.drewN nq = w2 at *
    obtain ⟨z0, z1, -, -, f1, -, -⟩ := HH.out.cells
    by_cases h1 : c = 92
    · have p1 : ((c : Int) == 92) = true := beq_iff_eq.2 (by omega)
      have hx : Hid (rdEsc r = o) := hidden (by rw [← HE.out, h1, chr_back])
      have HB := hidden HH.out.bump
      have HEs := hidden (rd_escape W0 R s (a + 1) l op vl vo r _ HB.out.a HA1.out hs)
      rw [hx.out] at HEs
      have q4 : (a : Int) + 1 ≤ 9223372036854775807 := by omega
      clear HE h1 hx hix HI HH
      go_wp2_with fail
      refine HEs.out.mono ?_
      rintro r1 w3 hC
      have hC := hidden hC.out
      clear HEs
      cases o with
      | inl p =>
        obtain ⟨rfl, a', h2, h3⟩ := hC.out
        go_wp2
        exact bodyPost_ret (v := .tuple #[.int .u8 0, .bool false]) (by simp [results, Tryz.results120, go_sem]) rfl (hidden ⟨rfl, a', h2, HB.out.from h3⟩)
      | inr x =>
        obtain ⟨b, rest⟩ := x
        obtain ⟨rfl, hb, a', h2, h3⟩ := hC.out
        go_wp2
        exact bodyPost_ret (v := .tuple #[.int .u8 (b : Int), .bool true]) (by simp [results, Tryz.results120, go_sem]) rfl (hidden ⟨rfl, hb, a', h2, HB.out.from h3⟩)
    · have p1 : ((c : Int) == 92) = false := beq_eq_false_iff_ne.2 (by omega)
      have HSn := hidden (rx_seen c)
      by_cases h5 : seenB c = false ∨ c ∈ L
      · have e0 : o = .inl (r.length + 1) := by rw [← HE.out, chr_bad h1 h5]
        subst e0
        clear HE h1
        cases hsn : seenB c with
        | false =>
          rw [hsn] at HSn
          clear h5 HI hix hsn
          go_wp2_with fail
          refine (HSn.out _).mono ?_
          rintro r2 w3 ⟨rfl, rfl⟩
          go_wp2
          exact bodyPost_ret (v := .tuple #[.int .u8 0, .bool false]) (by simp [results, Tryz.results120, go_sem]) rfl (hidden ⟨rfl, a, hq.out, HH.out⟩)
        | true =>
          rw [hsn] at HSn
          have hin : c ∈ L := h5.resolve_left (by rw [hsn]; exact Bool.noConfusion)
          rw [decide_eq_true hin] at hix
          have p2 : (0 : Int) ≤ ix := by have := of_decide_eq_false hix; omega
          clear h5 hix hsn hin
          go_wp2_with fail
          refine (HSn.out _).mono ?_
          rintro r2 w3 ⟨rfl, rfl⟩
          go_wp2_with fail
          refine (HI.out _).mono ?_
          rintro r2 w3 ⟨rfl, rfl⟩
          go_wp2
          exact bodyPost_ret (v := .tuple #[.int .u8 0, .bool false]) (by simp [results, Tryz.results120, go_sem]) rfl (hidden ⟨rfl, a, hq.out, HH.out⟩)
      · have e0 : o = .inr (c, r) := by rw [← HE.out, chr_good h1 h5]
        subst e0
        have hsn : seenB c = true := by cases h : seenB c with | false => exact absurd (.inl h) h5 | true => rfl
        rw [hsn] at HSn
        rw [decide_eq_false (fun h => h5 (.inr h))] at hix
        have p2 : ¬ (0 : Int) ≤ ix := by have := of_decide_eq_true hix; omega
        have HB := hidden HH.out.bump
        clear HE h1 h5 hix hsn
        go_wp2_with fail
        refine (HSn.out _).mono ?_
        rintro r2 w3 ⟨rfl, rfl⟩
        go_wp2_with fail
        refine (HI.out _).mono ?_
        rintro r2 w3 ⟨rfl, rfl⟩
        go_upto_region 9 with fail
        have q4 : (a : Int) + 1 ≤ 9223372036854775807 := by omega
        go_wp2
        exact bodyPost_ret (v := .tuple #[.int .u8 (c : Int), .bool true]) (by simp [results, Tryz.results120, go_sem]) rfl (hidden ⟨rfl, hc, a + 1, HA1.out, HB.out⟩)
end Go.Proofs.YtfmdmeokbbpmlaaGreat

namespace Go.Proofs.YtfmdmeokbbpmlaaGreat
open Go.RowKit Go.Shelf

theorem set_info : Hid (TyInfo Tryz.prog 101 (.agg #[.int .u64 0, .int .u64 0, .int .u64 0, .int .u64 0]) 4 32) := hidden (info_parts (show (Tryz.prog.info? 101).map (fun i => (i.zero, i.size, i.bytes)) = some (some (.agg #[.int .u64 0, .int .u64 0, .int .u64 0, .int .u64 0]), 4, 32) by kernel_rfl))
theorem setC_ones (f : Nat → Bool) : Hid (∀ u ∈ (setC f).toList, u.oneCell' = true) := hidden (fun u hu => by
  unfold setC at hu
  simp at hu
  rcases hu with rfl | rfl | rfl | rfl <;> rfl)
theorem setsC_snoc (l : List (Nat → Bool)) (f : Nat → Bool) : setsC (l ++ [f]) = setsC l ++ (setC f).toList := by
  unfold setsC
  rw [List.flatMap_append]
  simp
set_option maxRecDepth 20000 in
set_option maxHeartbeats 8000000 in
theorem rd_add (base q lo hi : Nat) (vs : Value) (sets : List (Nat → Bool)) (W : World) (HB : Holds W q 175 #[vs]) (HM : Mine W base 101 4 vs sets.length (setsC sets)) (hn : vs.ownBlock ≠ some q) (hb : base ≤ q) (hl : sets.length ≤ 100000) (h1 : lo < 256) (h2 : hi < 256) :
    Calls Tryz.prog 130 #[.int .u8 (lo : Int), .int .u8 (hi : Int), .pointer (some ⟨q, 0, none⟩)] W fun r w' => r = .returned (.tuple #[]) ∧ ∃ vs', Hid (Holds w' q 175 #[vs'] ∧ Mine w' base 101 4 vs' (sets.length + 1) (setsC (sets ++ [spanS lo hi])) ∧ vs'.ownBlock ≠ some q ∧ (vs'.ownBlock = vs.ownBlock ∨ ∃ g, vs'.ownBlock = some g ∧ W.heap.size ≤ g ∧ g < w'.heap.size) ∧ Below base W w' ∧ Keeps (fun k => k ≠ q ∧ vs.ownBlock ≠ some k ∧ k < W.heap.size) W w') := by
  have HS := hidden (fun w' => bset_Span lo hi w' h1 h2)
  rw [setsC_snoc]
  have hones := setC_ones (spanS lo hi)
  have hcs : (setC (spanS lo hi)).toList.length = 4 := rfl
  have hst : Hid (∀ w : World, (w.alloc (.cells (setC (spanS lo hi)) 101)) = (w.alloc (.cells (setC (spanS lo hi)).toList.toArray 101))) := hidden (fun _ => rfl)
  unfold setC at HS hones hcs hst ⊢
  generalize wd (spanS lo hi) 0 = n0 at *
  generalize wd (spanS lo hi) 1 = n1 at *
  generalize wd (spanS lo hi) 2 = n2 at *
  generalize wd (spanS lo hi) 3 = n3 at *
  dsimp only at hones hcs hst ⊢
  have hqlt := HB.lt
  have HBx := hidden HB
  have HMx := hidden HM
  have w1 : IntKind.i64.wrap (lo : Int) = (lo : Int) := by rw [IntKind.wrap_i64]; omega
  have w2 : IntKind.i64.wrap (hi : Int) = (hi : Int) := by rw [IntKind.wrap_i64]; omega
  clear HB HM h1 h2
  have hbw : base ≤ W.heap.size := by omega
  go_enter Tryz.func130, Tryz.ntmps130
  go_wp2_with fail
  have HBd : Hid (Holds W.drew q 175 #[vs]) := hidden HBx.out.drew
  have HMd : Hid (Mine W.drew base 101 4 vs sets.length (setsC sets)) := hidden HMx.out.drew
  have hCd := HBd.out.cell 0
  refine (wpIn_wide (n := 5)).1 ?_
  refine wpIn_region_take (fun w' => w'.cell? ⟨q, 0, none⟩ = some vs) 8 (by kernel_rfl) ?_
  refine take_read (i := 0) (v := ?_) (by kernel_rfl) (by rfl) rfl (by rfl) (by kernel_rfl) (by kernel_rfl) (fun _ _ _ h => h) hCd ⟨Or.inl ⟨by rfl, fun w9 hw => ?_⟩, fun _ => rfl⟩ ?_
  rotate_left
  · have r0 : w9.cell? ⟨q, 0, none⟩ = some vs := hw
    go_simp
    try rfl
  refine take_read (i := 1) (v := ?_) (by kernel_rfl) (by rfl) rfl (by rfl) (by kernel_rfl) (by kernel_rfl) (fun _ _ _ h => h) hCd ⟨Or.inl ⟨by rfl, fun w9 hw => ?_⟩, fun _ => rfl⟩ ?_
  rotate_left
  · clear hw
    go_simp
    try rfl
  refine take_read (i := 2) (v := ?_) (by kernel_rfl) (by rfl) rfl (by rfl) (by kernel_rfl) (by kernel_rfl) (fun _ _ _ h => h) hCd ⟨Or.inl ⟨by rfl, fun w9 hw => ?_⟩, fun _ => rfl⟩ ?_
  rotate_left
  · clear hw
    go_simp
    try rfl
  refine take_read (i := 3) (v := ?_) (by kernel_rfl) (by rfl) rfl (by rfl) (by kernel_rfl) (by kernel_rfl) (fun _ _ _ h => h) hCd ⟨Or.inl ⟨by rfl, fun w9 hw => ?_⟩, fun _ => rfl⟩ ?_
  rotate_left
  · clear hw
    go_simp
    try rfl
  refine take_read (i := 4) (v := ?_) (by kernel_rfl) (by rfl) rfl (by rfl) (by kernel_rfl) (by kernel_rfl) (fun _ _ _ h => h) hCd ⟨Or.inl ⟨by rfl, fun w9 hw => ?_⟩, fun _ => rfl⟩ ?_
  rotate_left
  · clear hw
    go_simp
    try rfl
  refine take_only (i := 5) (by kernel_rfl) rfl rfl (by rfl) (fun K hK => ?_)
  go_simp
  refine ⟨trivial, ?_⟩
  gi_at_call 131
  refine CallsIn.mono (F := Fence.wide) (callsIn_wide.2 (HS.out _)) ?_
  rintro e w5 ⟨rfl, hb5⟩
  have hqd : q < W.drew.heap.size := hqlt
  replace HBd := hidden (HBd.out.below hb5 hqd)
  replace HMd := hidden (HMd.out.below hb5)
  have hk5 : Hid (Keeps (fun k => k ≠ q ∧ vs.ownBlock ≠ some k ∧ k < W.heap.size) W w5) := hidden ((Keeps.refl _ _).drew.below hb5)
  have hbl : Hid (Below base W w5) := hidden ((Below.refl base W).drew.trans (hb5.mono hbw))
  have hz5 : W.heap.size ≤ w5.heap.size := hb5.size
  clear hCd HBx HMx
  refine hK _ _ (HBd.out.cell 0) ?_
  clear hK K
  refine take_only (i := 6) (by kernel_rfl) rfl rfl (by rfl) (fun K hK => ?_)
  go_simp
  have HA6 := hidden ((HBd.out.alloc (.cells #[.int .u64 n0, .int .u64 n1, .int .u64 n2, .int .u64 n3] 101)).cell 0)
  refine hK _ _ HA6.out ?_
  clear hK K
  have HX : Hid (Rd (w5.alloc (.cells #[.int .u64 n0, .int .u64 n1, .int .u64 n2, .int .u64 n3] 101)) (fun _ => True) 4 (.slice (some ⟨w5.heap.size, 0, none⟩) 1 1) 1 [.int .u64 n0, .int .u64 n1, .int .u64 n2, .int .u64 n3]) := hidden (Rd.fresh (cs := [.int .u64 n0, .int .u64 n1, .int .u64 n2, .int .u64 n3]) (n := 1) (size := 4) rfl (Nat.le_refl _) (by decide) trivial rfl)
  replace HBd := hidden (HBd.out.alloc (.cells #[.int .u64 n0, .int .u64 n1, .int .u64 n2, .int .u64 n3] 101))
  replace HMd := hidden (HMd.out.alloc (.cells #[.int .u64 n0, .int .u64 n1, .int .u64 n2, .int .u64 n3] 101))
  replace hk5 := hidden (hk5.out.alloc (.cells #[.int .u64 n0, .int .u64 n1, .int .u64 n2, .int .u64 n3] 101))
  replace hbl := hidden (hbl.out.alloc (by omega) (.cells #[.int .u64 n0, .int .u64 n1, .int .u64 n2, .int .u64 n3] 101))
  have hz6 : W.heap.size ≤ (w5.alloc (.cells #[.int .u64 n0, .int .u64 n1, .int .u64 n2, .int .u64 n3] 101)).heap.size := by rw [World.size_alloc]; omega
  generalize (w5.alloc (.cells #[.int .u64 n0, .int .u64 n1, .int .u64 n2, .int .u64 n3] 101)) = w6 at *
  refine take_only (i := 7) (by kernel_rfl) rfl rfl (by rfl) (fun K hK => ?_)
  refine opIn_append_all _ _ 175 101 rfl (by kernel_rfl) set_info rfl (by decide) base vs sets.length (setsC sets) HMd _ 1 _ HX hones rfl rfl (by omega) (by decide) (by omega) ?_
  intro v' w' hA
  obtain ⟨A9, c9, rfl⟩ := hA.out.mine.value
  have hk := hA.out.keeps
  have hq := hk.holds hn HBd.out
  refine hK _ _ (hq.cell 0) ?_
  clear hK K
  have zf := hq.frozen 0
  have y0 : w'.cell? ⟨q, 0, none⟩ = some vs := hq.cell 0
  have hq2 := hidden hq
  refine take_tail (by kernel_rfl) (by kernel_rfl) ?_
  simp only [List.drop_succ_cons, List.drop_zero]
  have hns : (Value.slice A9 (sets.length + 1) c9).ownBlock ≠ some q := by
    rcases hA.out.at_ with e | ⟨g, e, h3, h4⟩
    · rw [e]; exact hn
    · intro e2
      rw [e] at e2
      have := Option.some.inj e2
      omega
  have hFin := hidden (hq2.out.set 0 (.slice A9 (sets.length + 1) c9))
  have hMin := hidden (hA.out.mine.set (p := ⟨q, 0, none⟩) hns (.slice A9 (sets.length + 1) c9))
  have hBin := hidden ((hbl.out.trans hA.out.below).setCell (p := ⟨q, 0, none⟩) hb (.slice A9 (sets.length + 1) c9))
  have hKin : Hid (Keeps (fun k => k ≠ q ∧ vs.ownBlock ≠ some k ∧ k < W.heap.size) W (w'.setCell ⟨q, 0, none⟩ (.slice A9 (sets.length + 1) c9))) := hidden ((hk5.out.trans ⟨hk.size, fun k h hl => hk.block k h.2.1 hl⟩).setCell (p := ⟨q, 0, none⟩) (fun e => e.1 rfl) _)
  have hAt : Hid ((Value.slice A9 (sets.length + 1) c9).ownBlock = vs.ownBlock ∨ ∃ g, (Value.slice A9 (sets.length + 1) c9).ownBlock = some g ∧ W.heap.size ≤ g ∧ g < (w'.setCell ⟨q, 0, none⟩ (.slice A9 (sets.length + 1) c9)).heap.size) := hidden (by
    rw [World.size_setCell]
    rcases hA.out.at_ with e | ⟨g, e, h3, h4⟩
    · exact .inl e
    · exact .inr ⟨g, e, by omega, h4⟩)
  clear hA hk hk5 hbl HBd HMd HX HA6 hq2
  gi_wp2
  refine ⟨rfl, .tuple #[], ?_, rfl, _, hidden ⟨hFin.out, hMin.out, hns, hAt.out, hBin.out, hKin.out⟩⟩
  simp [results, Tryz.results130, go_sem]
end Go.Proofs.YtfmdmeokbbpmlaaGreat

namespace Go.Proofs.YtfmdmeokbbpmlaaGreat
open Go.RowKit Go.Shelf

theorem RdA.laterB {W0 w w' : World} {R : Nat} {s : ByteArray} {a : Nat} {l : List Rx} {op : List (Nat × Nat)} {vl vo : Value} {B : Nat} (h : RdA W0 R s a l op vl vo w) (hb : Below B w w') (hR : R < B) (hl : ∀ g, vl.ownBlock = some g → g < B) (ho : ∀ g, vo.ownBlock = some g → g < B) : RdA W0 R s a l op vl vo w' :=
  ⟨h.rd.below hb hR, h.ml.keep fun g e _ _ => hb.block g (hl g e), h.mo.keep fun g e _ _ => hb.block g (ho g e), h.nl, h.no, h.lo, fun g e => Nat.lt_of_lt_of_le (h.ho g e) hb.size, fun g e => Nat.lt_of_lt_of_le (h.hl g e) hb.size, h.old, h.below.trans (hb.mono (by have := h.old; omega))⟩
/-- While a class is read: the reader; the box of its sets, the box of its result. -/
structure ClsAt (W W0 : World) (R : Nat) (s : ByteArray) (p : Nat) (l : List Rx) (op : List (Nat × Nat)) (vl vo : Value) (q2 q4 : Nat) (vs : Value) (sets : List (Nat → Bool)) (w : World) : Prop where
  rk : RdK W W0 R s p l op vl vo w
  box : Holds w q4 175 #[vs]
  res : Holds w q2 101 #[.int .u64 0, .int .u64 0, .int .u64 0, .int .u64 0]
  m : Mine w W.heap.size 101 4 vs sets.length (setsC sets)
  n4 : vs.ownBlock ≠ some q4
  n2 : vs.ownBlock ≠ some q2
  hv : ∀ g, vs.ownBlock = some g → g < w.heap.size
  b4 : W.heap.size ≤ q4
  b2 : W.heap.size ≤ q2
  ne : q2 ≠ q4
  hR : R < W.heap.size
  hl : ∀ g, vl.ownBlock = some g → g < W.heap.size
  ho : ∀ g, vo.ownBlock = some g → g < W.heap.size
section
variable {W W0 w w' : World} {R : Nat} {s : ByteArray} {p : Nat} {l : List Rx} {op : List (Nat × Nat)} {vl vo : Value} {q2 q4 : Nat} {vs : Value} {sets : List (Nat → Bool)}
theorem ClsAt.later (h : ClsAt W W0 R s p l op vl vo q2 q4 vs sets w) (hb : Below w.heap.size w w') : ClsAt W W0 R s p l op vl vo q2 q4 vs sets w' :=
  ⟨h.rk.later hb, h.box.below hb h.box.lt, h.res.below hb h.res.lt, h.m.below hb, h.n4, h.n2, fun g e => Nat.lt_of_lt_of_le (h.hv g e) hb.size, h.b4, h.b2, h.ne, h.hR, h.hl, h.ho⟩
theorem ClsAt.vsR (h : ClsAt W W0 R s p l op vl vo q2 q4 vs sets w) (hv : ∀ g, vs.ownBlock = some g → W.heap.size ≤ g) : vs.ownBlock ≠ some R := fun e => by have := hv R e; have := h.hR; omega
theorem ClsAt.from {p2 : Nat} (h : ClsAt W W0 R s p l op vl vo q2 q4 vs sets w) (hv : ∀ g, vs.ownBlock = some g → W.heap.size ≤ g) (h2 : RdK w W0 R s p2 l op vl vo w') : ClsAt W W0 R s p2 l op vl vo q2 q4 vs sets w' := by
  have hR := h.hR
  have h4 := h.b4
  have hq2 := h.b2
  refine ⟨h.rk.from h2, h2.k.holds ⟨by omega, h.box.lt⟩ h.box, h2.k.holds ⟨by omega, h.res.lt⟩ h.res, h.m.keep fun g e _ hg => h2.k.block g ⟨by have := hv g e; omega, hg⟩ hg, h.n4, h.n2, fun g e => Nat.lt_of_lt_of_le (h.hv g e) h2.k.size, h.b4, h.b2, h.ne, h.hR, h.hl, h.ho⟩
theorem ClsAt.turn (h : ClsAt W W0 R s p l op vl vo q2 q4 vs sets w) (hv : ∀ g, vs.ownBlock = some g → W.heap.size ≤ g) (n : Nat) : ClsAt W W0 R s n l op vl vo q2 q4 vs sets (w.setCell ⟨R, 1, none⟩ (.int .i64 (n : Int))) := by
  have hR := h.hR
  have h4 := h.b4
  have hq2 := h.b2
  exact ⟨⟨h.rk.a.turn n, h.rk.k.setCell (p := ⟨R, 1, none⟩) (fun e => e.1 rfl) _⟩, h.box.far (p := ⟨R, 1, none⟩) (by dsimp only; omega) _, h.res.far (p := ⟨R, 1, none⟩) (by dsimp only; omega) _, h.m.set (p := ⟨R, 1, none⟩) (h.vsR hv) _, h.n4, h.n2, fun g e => by rw [World.size_setCell]; exact h.hv g e, h.b4, h.b2, h.ne, h.hR, h.hl, h.ho⟩
theorem ClsAt.bump (h : ClsAt W W0 R s p l op vl vo q2 q4 vs sets w) (hv : ∀ g, vs.ownBlock = some g → W.heap.size ≤ g) : ClsAt W W0 R s (p + 1) l op vl vo q2 q4 vs sets (w.setCell ⟨R, 1, none⟩ (.int .i64 ((p : Int) + 1))) := h.turn hv (p + 1)
theorem ClsAt.add {vs' : Value} {f : Nat → Bool} (h : ClsAt W W0 R s p l op vl vo q2 q4 vs sets w)
    (h2 : Holds w' q4 175 #[vs'] ∧ Mine w' W.heap.size 101 4 vs' (sets.length + 1) (setsC (sets ++ [f])) ∧ vs'.ownBlock ≠ some q4 ∧ (vs'.ownBlock = vs.ownBlock ∨ ∃ g, vs'.ownBlock = some g ∧ w.heap.size ≤ g ∧ g < w'.heap.size) ∧ Below W.heap.size w w' ∧ Keeps (fun k => k ≠ q4 ∧ vs.ownBlock ≠ some k ∧ k < w.heap.size) w w') : ClsAt W W0 R s p l op vl vo q2 q4 vs' (sets ++ [f]) w' := by
  obtain ⟨c1, c2, c3, c4, c5, c6⟩ := h2
  refine ⟨⟨h.rk.a.laterB c5 h.hR h.hl h.ho, h.rk.k.trans ⟨c5.size, fun k hk _ => c5.block k hk.2⟩⟩, c1, c6.holds ⟨h.ne, h.n2, h.res.lt⟩ h.res, by rw [List.length_append]; exact c2, c3, ?_, ?_, h.b4, h.b2, h.ne, h.hR, h.hl, h.ho⟩
  · rcases c4 with e | ⟨g, e, h3, h4⟩
    · rw [e]; exact h.n2
    · intro e2
      rw [e] at e2
      have := Option.some.inj e2
      have := h.res.lt
      omega
  · intro g e
    rcases c4 with e2 | ⟨g2, e2, h3, h4⟩
    · rw [e2] at e; exact Nat.lt_of_lt_of_le (h.hv g e) c5.size
    · rw [e2] at e; have := Option.some.inj e; omega
theorem own_add {vs' : Value} {B : Nat} (hv : ∀ g, vs.ownBlock = some g → B ≤ g) (hB : B ≤ w.heap.size) (h : vs'.ownBlock = vs.ownBlock ∨ ∃ g, vs'.ownBlock = some g ∧ w.heap.size ≤ g ∧ g < w'.heap.size) : ∀ g, vs'.ownBlock = some g → B ≤ g := by
  intro g e
  rcases h with e2 | ⟨g2, e2, h3, h4⟩
  · rw [e2] at e; exact hv g e
  · rw [e2] at e; have := Option.some.inj e; omega
/-- Four cells of a block that is newer than W. -/
theorem RdK.put4 {q : Nat} (h : RdK W W0 R s p l op vl vo w) (hR : R < W.heap.size) (hl : ∀ g, vl.ownBlock = some g → g < W.heap.size) (ho : ∀ g, vo.ownBlock = some g → g < W.heap.size) (hq : W.heap.size ≤ q) (u0 u1 u2 u3 : Value) :
    RdK W W0 R s p l op vl vo ((((w.setCell ⟨q, 0, none⟩ u0).setCell ⟨q, 1, none⟩ u1).setCell ⟨q, 2, none⟩ u2).setCell ⟨q, 3, none⟩ u3) := by
  have a1 : q ≠ R := by omega
  have a2 : vl.ownBlock ≠ some q := fun e => by have := hl q e; omega
  have a3 : vo.ownBlock ≠ some q := fun e => by have := ho q e; omega
  have a4 : W0.heap.size ≤ q := by have := h.a.old; omega
  exact (((h.farQ a1 a2 a3 a4 hq 0 u0).farQ a1 a2 a3 a4 hq 1 u1).farQ a1 a2 a3 a4 hq 2 u2).farQ a1 a2 a3 a4 hq 3 u3
theorem held4 {q : Nat} {t : TypeId} {a b c d : Value} (h : Holds w q t #[a, b, c, d]) (u0 u1 u2 u3 : Value) : Holds ((((w.setCell ⟨q, 0, none⟩ u0).setCell ⟨q, 1, none⟩ u1).setCell ⟨q, 2, none⟩ u2).setCell ⟨q, 3, none⟩ u3) q t #[u0, u1, u2, u3] :=
  (((h.set 0 _).set 1 _).set 2 _).set 3 _
theorem held4_far {q k : Nat} {t : TypeId} {cs : Array Value} (h : Holds w k t cs) (hk : k ≠ q) (u0 u1 u2 u3 : Value) : Holds ((((w.setCell ⟨q, 0, none⟩ u0).setCell ⟨q, 1, none⟩ u1).setCell ⟨q, 2, none⟩ u2).setCell ⟨q, 3, none⟩ u3) k t cs :=
  (((h.far (p := ⟨q, 0, none⟩) hk _).far (p := ⟨q, 1, none⟩) hk _).far (p := ⟨q, 2, none⟩) hk _).far (p := ⟨q, 3, none⟩) hk _
end
def spanP (x : Nat × Nat) : Nat → Bool := spanS x.1 x.2
theorem any_spans (l : List (Nat × Nat)) : anyS (l.map spanP) = spansS l := by
  funext b
  unfold anyS spansS
  rw [List.any_map]
  rfl
def clsO (b : Bool) (X : Nat ⊕ (List (Nat × Nat) × List Nat)) : Nat ⊕ ((Nat → Bool) × List Nat) := match X with
  | .inl p => .inl p
  | .inr (l, r) => .inr (if b = true then notS (spansS l) else spansS l, r)
theorem class_yes (r : List Nat) : rdClass (94 :: r) = clsO true (rdItems (r.length + 1) [] r) := by
  rw [rdClass, if_pos (show (94 :: r).head? = some 94 from rfl)]
  unfold clsO
  rw [List.tail_cons, List.length_cons]
  rfl
theorem class_no {cs : List Nat} (h : cs.head? ≠ some 94) : rdClass cs = clsO false (rdItems (cs.length + 1) [] cs) := by
  rw [rdClass, if_neg h]
  unfold clsO
  rfl
theorem items_stop {n : Nat} {acc : List (Nat × Nat)} {r : List Nat} (h : acc ≠ []) : rdItems (n + 1) acc (93 :: r) = .inr (acc, r) := by
  rw [rdItems, if_pos ⟨h, rfl⟩, List.tail_cons]
theorem items_bad {n p : Nat} {acc : List (Nat × Nat)} {cs : List Nat} (h : ¬ (acc ≠ [] ∧ cs.head? = some 93)) (h2 : rdItem cs = .inl p) : rdItems (n + 1) acc cs = .inl p := by
  rw [rdItems, if_neg h, h2]
theorem items_go {n : Nat} {acc : List (Nat × Nat)} {cs r : List Nat} {x : Nat × Nat} (h : ¬ (acc ≠ [] ∧ cs.head? = some 93)) (h2 : rdItem cs = .inr (x, r)) : rdItems (n + 1) acc cs = rdItems n (acc ++ [x]) r := by
  rw [rdItems, if_neg h, h2]
theorem item_bad {cs : List Nat} {p : Nat} (h : rdChr edgeL cs = .inl p) : rdItem cs = .inl p := by rw [rdItem, h]
theorem item_lone {cs r : List Nat} {lo : Nat} (h : rdChr edgeL cs = .inr (lo, r)) (h2 : r.head? ≠ some 45) : rdItem cs = .inr ((lo, lo), r) := by
  rw [rdItem, h]
  dsimp only
  split
  · rename_i r1; exact absurd rfl h2
  · rfl
theorem item_bad2 {cs r1 : List Nat} {lo p : Nat} (h : rdChr edgeL cs = .inr (lo, 45 :: r1)) (h2 : rdChr edgeL r1 = .inl p) : rdItem cs = .inl p := by
  rw [rdItem, h]
  change (match rdChr edgeL r1 with | Sum.inl p => Sum.inl p | Sum.inr (hi, r2) => if hi < lo then Sum.inl (r2.length + 1) else Sum.inr ((lo, hi), r2)) = _
  rw [h2]
theorem item_pair {cs r1 r2 : List Nat} {lo hi : Nat} (h : rdChr edgeL cs = .inr (lo, 45 :: r1)) (h2 : rdChr edgeL r1 = .inr (hi, r2)) : rdItem cs = if hi < lo then .inl (r2.length + 1) else .inr ((lo, hi), r2) := by
  rw [rdItem, h]
  change (match rdChr edgeL r1 with | Sum.inl p => Sum.inl p | Sum.inr (hi, r2) => if hi < lo then Sum.inl (r2.length + 1) else Sum.inr ((lo, hi), r2)) = _
  rw [h2]
/-- What is read of a set: none, the place that at which it is none; or the set. -/
def SetTo (WK W0 : World) (R : Nat) (s : ByteArray) (l : List Rx) (op : List (Nat × Nat)) (vl vo : Value) (o : Nat ⊕ ((Nat → Bool) × List Nat)) (r : Ending) (w' : World) : Prop :=
  match o with
  | .inl p => ∃ f a', r = .returned (.tuple #[.agg (setC f), .bool false]) ∧ a' + p = s.size ∧ RdK WK W0 R s a' l op vl vo w'
  | .inr (f, rest) => ∃ a', r = .returned (.tuple #[.agg (setC f), .bool true]) ∧ AtS s a' rest ∧ RdK WK W0 R s a' l op vl vo w'

set_option maxRecDepth 20000 in
set_option maxHeartbeats 32000000 in
theorem rd_class (W0 : World) (R : Nat) (s : ByteArray) (a : Nat) (l : List Rx) (op : List (Nat × Nat)) (vl vo : Value) (cs : List Nat) (W : World) (H : RdA W0 R s a l op vl vo W) (hA : AtS s a (91 :: cs)) (hs : s.size ≤ 5000) :
    Calls Tryz.prog 119 #[.pointer (some ⟨R, 0, none⟩)] W fun r w' => Hid (SetTo W W0 R s l op vl vo (rdClass cs) r w') := by
  obtain ⟨o, HE⟩ : ∃ o, Hid (rdClass cs = o) := ⟨_, hidden rfl⟩
  rw [HE.out]
  obtain ⟨-, -, hA1⟩ := hA.cons
  have HA1 := hidden hA1
  have hsz := hA1.size
  have HChar := hidden (fun (w' : World) (p : Nat) (cs : List Nat) (h : RdA W0 R s p l op vl vo w') (hp : AtS s p cs) => rd_char (⟨#[91, 93, 94, 45, 92]⟩ : ByteArray) edgeL ask_edge W0 R s p l op vl vo cs w' h hp hs)
  have HHas := hidden (fun (w' : World) (p : Nat) (cs : List Nat) (c : Nat) (h : RdA W0 R s p l op vl vo w') (hp : AtS s p cs) => rd_has W0 R s p l op vl vo c cs w' h hp)
  have HC0 : Hid (ClsAt W W0 R s a l op vl vo W.heap.size (W.heap.size + 1) (.slice none 0 0) [] ((W.alloc (.cells #[.int .u64 0, .int .u64 0, .int .u64 0, .int .u64 0] 101)).alloc (.cells #[.slice none 0 0] 175))) := hidden (by
    refine ⟨(RdK.start H).later (((Below.refl _ _).alloc (Nat.le_refl _) _).alloc (by simp) _), holds_new (by simp), (Holds.new _ _ _).alloc _, Mine.nil _ _ _ _, by simp [Value.ownBlock], by simp [Value.ownBlock], fun g e => by simp [Value.ownBlock] at e, by omega, Nat.le_refl _, by omega, H.rd.lt, H.hl, H.ho⟩)
  have z1 : ((W.alloc (.cells #[.int .u64 0, .int .u64 0, .int .u64 0, .int .u64 0] 101)).alloc (.cells #[.slice none 0 0] 175)).cell? ⟨R, 1, none⟩ = some (.int .i64 (a : Int)) := HC0.out.rk.cells.2.1
  have f1 : ((W.alloc (.cells #[.int .u64 0, .int .u64 0, .int .u64 0, .int .u64 0] 101)).alloc (.cells #[.slice none 0 0] 175)).frozen? ⟨R, 1, none⟩ = false := HC0.out.rk.cells.2.2.2.2.1
  have hv0 : ∀ g, (Value.slice none 0 0).ownBlock = some g → W.heap.size ≤ g := fun g e => by simp [Value.ownBlock] at e
  have hv0 := hidden hv0
  have q4 : (a : Int) + 1 ≤ 9223372036854775807 := by omega
  clear H hA hA1
  go_enter Tryz.func119, Tryz.ntmps119
  go_upto_region 3 with fail
  generalize ((W.alloc (.cells #[.int .u64 0, .int .u64 0, .int .u64 0, .int .u64 0] 101)).alloc (.cells #[.slice none 0 0] 175)) = w1 at *
  have HC1 := hidden (HC0.out.bump hv0.out)
  go_upto_region 4 with fail
  clear HC0 z1 f1 q4
  generalize (w1.setCell ⟨R, 1, none⟩ (.int .i64 ((a : Int) + 1))) = w2 at *
  generalize hQ2 : W.heap.size + 1 = qb at *
  have HQ2 := hidden hQ2
  clear hQ2
  generalize hQ1 : W.heap.size = qr at *
  have HQ1 := hidden hQ1
  clear hQ1 hv0
  have hv0 : Hid (∀ g, (Value.slice none 0 0).ownBlock = some g → W.heap.size ≤ g) := hidden (fun g e => by simp [Value.ownBlock] at e)
  have HX := hidden (HHas.out w2 (a + 1) cs 94 HC1.out.rk.a HA1.out)
  go_wp2_with fail
  refine HX.out.mono ?_
  rintro r w3 ⟨rfl, hb3⟩
  have HC3 := hidden (HC1.out.later hb3)
  clear HX HC1 hb3
  generalize hbb : decide (cs.head? = some 94) = bb at *
  have HBB := hidden hbb
  clear hbb
  go_upto_if 21 with fail
  go_cut [] from 22 (fun wx => ∃ (p n : Nat) (cs1 : List Nat), Hid (ClsAt W W0 R s p l op vl vo qr qb (.slice none 0 0) [] wx) ∧ Hid (AtS s p cs1) ∧ cs1.length + 1 = n ∧ Hid (clsO bb (rdItems n [] cs1) = o))
  case first =>
    cases bb with
    | true =>
      obtain ⟨r, rfl⟩ : ∃ r, cs = 94 :: r := by
        have h := of_decide_eq_true HBB.out
        cases cs with
        | nil => cases h
        | cons c r => exact ⟨r, by rw [List.head?_cons] at h; rw [Option.some.inj h]⟩
      obtain ⟨-, -, hA2⟩ := HA1.out.cons
      have z1 := HC3.out.rk.cells.2.1
      have f1 := HC3.out.rk.cells.2.2.2.2.1
      have hlt := hA2.size
      have q4 : ((a + 1 : Nat) : Int) + 1 ≤ 9223372036854775807 := by omega
      have hHE : Hid (clsO true (rdItems (r.length + 1) [] r) = o) := hidden (by rw [← class_yes]; exact HE.out)
      have HC4 := hidden (HC3.out.bump hv0.out)
      have HA2 := hidden hA2
      clear HE HC3 hsz hlt HA1 hA2
      go_wp2_with fail
      go_meet
      case rel => exact ⟨a + 1 + 1, _, r, HC4, HA2, rfl, hHE⟩
    | false =>
      have hHE : Hid (clsO false (rdItems (cs.length + 1) [] cs) = o) := hidden (by rw [← class_no (of_decide_eq_false HBB.out)]; exact HE.out)
      clear HE
      go_wp2_with fail
      go_meet
      case rel => exact ⟨a + 1, _, cs, HC3, HA1, rfl, hHE⟩
  case rest =>
    clear HC3 HE HA1 HBB
    obtain ⟨p0, n0, cs0, HC0, HA0, hn0, HO0⟩ := hcut
    go_wp2
    go_loopg [31] cs0.length (fun gh _ wr => ∃ (p n : Nat) (cs1 : List Nat) (acc : List (Nat × Nat)) (vs : Value), gh = cs1.length ∧ cs1.length + 1 ≤ n ∧ acc.length + cs1.length ≤ 5000 ∧ Hid (∀ g, vs.ownBlock = some g → W.heap.size ≤ g) ∧ Hid (ClsAt W W0 R s p l op vl vo qr qb vs (acc.map spanP) wr) ∧ Hid (AtS s p cs1) ∧ Hid (clsO bb (rdItems n acc cs1) = o))
    case atStart => exact ⟨p0, n0, cs0, [], _, rfl, by omega, by have := HA0.out.size; simp; omega, hv0, HC0, HA0, HO0⟩
    case round =>
      clear HC0 HA0 HO0 hn0
      obtain ⟨p, n, cs1, acc, vs, hgk, hn, hlen, HV, HC, HA, HO⟩ := hrel
      have HG := hidden hgk
      clear hgk
      obtain ⟨n, rfl⟩ : ∃ m, n = m + 1 := ⟨n - 1, by omega⟩
      obtain ⟨A, cp, hvs⟩ := HC.out.m.value
      rw [List.length_map] at hvs
      subst hvs
      obtain ⟨sb, hsb⟩ : ∃ sb, Hid (decide (acc ≠ [] ∧ cs1.head? = some 93) = sb) := ⟨_, hidden rfl⟩
      go_upto_region 7 with fail
      go_cut [36] (fun v wx => v = .bool (!sb) ∧ Hid (ClsAt W W0 R s p l op vl vo qr qb (.slice A acc.length cp) (acc.map spanP) wx))
      case first =>
        have b0 : wr.cell? ⟨qb, 0, none⟩ = some (.slice A acc.length cp) := HC.out.box.cell 0
        by_cases ha : acc = []
        · have p1 : ((acc.length : Int) == 0) = true := by rw [ha]; rfl
          have e1 : sb = false := by rw [← hsb.out, decide_eq_false]; exact fun h => h.1 ha
          subst e1
          clear ha
          go_wp2_with fail
          go_meet
          case rel => exact ⟨rfl, HC⟩
        · have p1 : ((acc.length : Int) == 0) = false := by
            rw [beq_eq_false_iff_ne]
            intro h
            exact ha (List.eq_nil_of_length_eq_zero (by omega))
          have HX := hidden (HHas.out wr p cs1 93 HC.out.rk.a HA.out)
          have e1 : decide (cs1.head? = some 93) = sb := by rw [← hsb.out]; by_cases h : cs1.head? = some 93 <;> simp [h, ha]
          rw [e1] at HX
          clear ha e1
          go_wp2_with fail
          refine HX.out.mono ?_
          rintro r w3 ⟨rfl, hb3⟩
          have HC3 := hidden (HC.out.later hb3)
          clear HX HC hb3 b0
          cases sb
          · go_wp2_with fail
            go_meet
            case rel => exact ⟨rfl, HC3⟩
          · go_wp2_with fail
            go_meet
            case rel => exact ⟨rfl, HC3⟩
      case rest =>
        clear HC
        obtain ⟨rfl, HC⟩ := hcut
        cases sb with
        | false =>
          have hst := hidden (of_decide_eq_false hsb.out)
          clear hsb
          obtain ⟨X, hX⟩ : ∃ X, Hid (rdChr edgeL cs1 = X) := ⟨_, hidden rfl⟩
          have HXc := hidden (HChar.out wc p cs1 HC.out.rk.a HA.out)
          rw [hX.out] at HXc
          go_wp2_with fail
          refine HXc.out.mono ?_
          rintro r w3 hC
          have hC := hidden hC.out
          clear HXc
          cases X with
          | inl p2 =>
            obtain ⟨rfl, a', h2, h3⟩ := hC.out
            have HC3 := hidden (HC.out.from HV.out h3)
            have H2 := hidden h2
            have e0 : o = .inl p2 := by rw [← HO.out, items_bad hst.out (item_bad hX.out)]; rfl
            subst e0
            clear hC h2 h3 HC HO HV HA
            obtain ⟨g0, g1, g2, g3⟩ := four HC3.out.res
            obtain ⟨h0, h1, h2, h3⟩ := fourF HC3.out.res
            have HRf := hidden (held4 HC3.out.res (.int .u64 0) (.int .u64 0) (.int .u64 0) (.int .u64 0))
            have HKf := hidden (HC3.out.rk.put4 HC3.out.hR HC3.out.hl HC3.out.ho HC3.out.b2 (.int .u64 0) (.int .u64 0) (.int .u64 0) (.int .u64 0))
            clear HC3
            go_wp2
            obtain ⟨r0, r1, r2, r3⟩ := four HRf.out
            refine bodyPost_ret (v := .tuple #[.agg #[.int .u64 0, .int .u64 0, .int .u64 0, .int .u64 0], .bool false]) ?_ rfl (hidden ⟨noneS, _, by rw [setC_none], H2.out, HKf.out⟩)
            simp [results, Tryz.results119, go_sem, r0, r1, r2, r3]
          | inr x =>
            obtain ⟨lo, rest⟩ := x
            obtain ⟨rfl, hlo, a', hA3, h3⟩ := hC.out
            have HC3 := hidden (HC.out.from HV.out h3)
            have HA3 := hidden hA3
            have hle := chr_le hX.out
            clear hC h3 hA3 HC HA
            have HX2 := hidden (HHas.out w3 a' rest 45 HC3.out.rk.a HA3.out)
            go_wp2_with fail
            refine HX2.out.mono ?_
            rintro r w4 ⟨rfl, hb4⟩
            replace HC3 := hidden (HC3.out.later hb4)
            clear hb4 HX2
            by_cases h45 : rest.head? = some 45
            · obtain ⟨r1, rfl⟩ : ∃ r1, rest = 45 :: r1 := by
                cases rest with
                | nil => cases h45
                | cons c r => exact ⟨r, by rw [List.head?_cons] at h45; rw [Option.some.inj h45]⟩
              have e45 : decide ((45 :: r1 : List Nat).head? = some 45) = true := rfl
              obtain ⟨-, -, hA4⟩ := HA3.out.cons
              have hs4 := hA4.size
              have HA4 := hidden hA4
              rw [List.length_cons] at hle
              clear hA4 h45
              have z1 := HC3.out.rk.cells.2.1
              have f1 := HC3.out.rk.cells.2.2.2.2.1
              have q4 : (a' : Int) + 1 ≤ 9223372036854775807 := by omega
              go_upto_region 14 with fail
              replace HC3 := hidden (HC3.out.bump HV.out)
              clear z1 f1 q4
              generalize (w4.setCell ⟨R, 1, none⟩ (.int .i64 ((a' : Int) + 1))) = w5 at *
              obtain ⟨X2, hX2⟩ : ∃ X2, Hid (rdChr edgeL r1 = X2) := ⟨_, hidden rfl⟩
              have HXc := hidden (HChar.out w5 (a' + 1) r1 HC3.out.rk.a HA4.out)
              rw [hX2.out] at HXc
              go_wp2_with fail
              refine HXc.out.mono ?_
              rintro r w6 hC
              have hC := hidden hC.out
              clear HXc
              cases X2 with
              | inl p3 =>
                obtain ⟨rfl, a2, h2, h3⟩ := hC.out
                replace HC3 := hidden (HC3.out.from HV.out h3)
                have H2 := hidden h2
                have e0 : o = .inl p3 := by rw [← HO.out, items_bad hst.out (item_bad2 hX.out hX2.out)]; rfl
                subst e0
                clear hC h2 h3 HO HV HA3 HA4 hs4
                obtain ⟨g0, g1, g2, g3⟩ := four HC3.out.res
                obtain ⟨h0, h1, h2, h3⟩ := fourF HC3.out.res
                have HRf := hidden (held4 HC3.out.res (.int .u64 0) (.int .u64 0) (.int .u64 0) (.int .u64 0))
                have HKf := hidden (HC3.out.rk.put4 HC3.out.hR HC3.out.hl HC3.out.ho HC3.out.b2 (.int .u64 0) (.int .u64 0) (.int .u64 0) (.int .u64 0))
                clear HC3
                go_wp2
                obtain ⟨r0, r1, r2, r3⟩ := four HRf.out
                refine bodyPost_ret (v := .tuple #[.agg #[.int .u64 0, .int .u64 0, .int .u64 0, .int .u64 0], .bool false]) ?_ rfl (hidden ⟨noneS, _, by rw [setC_none], H2.out, HKf.out⟩)
                simp [results, Tryz.results119, go_sem, r0, r1, r2, r3]
              | inr y =>
                obtain ⟨hi, r2⟩ := y
                obtain ⟨rfl, hhi, a2, hA5, h3⟩ := hC.out
                replace HC3 := hidden (HC3.out.from HV.out h3)
                have hle2 := chr_le hX2.out
                have hs5 := hA5.size
                have HA5 := hidden hA5
                clear hC h3 hA5
                by_cases hhl : hi < lo
                · have p5 : (hi : Int) < (lo : Int) := by omega
                  obtain ⟨b3, rfl⟩ : ∃ b3, a2 = b3 + 1 := ⟨a2 - 1, by omega⟩
                  have e0 : o = .inl (r2.length + 1) := by rw [← HO.out, items_bad hst.out (by rw [item_pair hX.out hX2.out, if_pos hhl])]; rfl
                  subst e0
                  have H2 : Hid (b3 + (r2.length + 1) = s.size) := hidden (by omega)
                  have z1 := HC3.out.rk.cells.2.1
                  have f1 := HC3.out.rk.cells.2.2.2.2.1
                  have q5 : IntKind.i64.wrap (((b3 + 1 : Nat) : Int) - 1) = (b3 : Int) := by rw [IntKind.wrap_i64]; omega
                  have q6 : wrap64 (b3 : Int) = (b3 : Int) := by unfold wrap64; omega
                  replace HC3 := hidden (HC3.out.turn HV.out b3)
                  clear hhl HO HV HA3 HA4 HA5 hs4 hs5 hle hle2 hn hlen
                  go_upto_region 19 with fail
                  clear z1 f1 q5 q6
                  generalize (w6.setCell ⟨R, 1, none⟩ (.int .i64 (b3 : Int))) = w7 at *
                  obtain ⟨g0, g1, g2, g3⟩ := four HC3.out.res
                  obtain ⟨h0, h1, h2, h3⟩ := fourF HC3.out.res
                  have HRf := hidden (held4 HC3.out.res (.int .u64 0) (.int .u64 0) (.int .u64 0) (.int .u64 0))
                  have HKf := hidden (HC3.out.rk.put4 HC3.out.hR HC3.out.hl HC3.out.ho HC3.out.b2 (.int .u64 0) (.int .u64 0) (.int .u64 0) (.int .u64 0))
                  clear HC3
                  go_wp2
                  obtain ⟨r0, r1, r2, r3⟩ := four HRf.out
                  refine bodyPost_ret (v := .tuple #[.agg #[.int .u64 0, .int .u64 0, .int .u64 0, .int .u64 0], .bool false]) ?_ rfl (hidden ⟨noneS, _, by rw [setC_none], H2.out, HKf.out⟩)
                  simp [results, Tryz.results119, go_sem, r0, r1, r2, r3]
                · have p5 : ¬ (hi : Int) < (lo : Int) := by omega
                  replace HA3 := HA5
                  clear hs4 hs5
                  have HXa := hidden (rd_add W.heap.size qb lo hi (.slice A acc.length cp) (acc.map spanP) _ HC3.out.box HC3.out.m HC3.out.n4 HC3.out.b4 (by rw [List.length_map]; omega) hlo hhi)
                  go_wp2_with fail
                  refine HXa.out.mono ?_
                  rintro r5 w5 ⟨rfl, vs5, hP⟩
                  have HC5 := hidden (HC3.out.add (f := spanP (lo, hi)) hP.out)
                  have HV5 := hidden (own_add HV.out HC3.out.rk.k.size hP.out.2.2.2.1)
                  have HO5 : Hid (clsO bb (rdItems n (acc ++ [(lo, hi)]) r2) = o) := hidden (by rw [← HO.out, items_go hst.out (by rw [item_pair hX.out hX2.out, if_neg hhl])])
                  clear HXa hP HC3 HO HV
                  go_wp2_with fail
                  go_roundg r2.length
                  case measure => rw [HG.out]; omega
                  case rel => exact ⟨_, n, r2, acc ++ [(lo, hi)], vs5, rfl, by omega, by rw [List.length_append, List.length_singleton]; omega, HV5, hidden (by rw [List.map_append]; exact HC5.out), HA3, HO5⟩
            · have e45 : decide (rest.head? = some 45) = false := decide_eq_false h45
              have HXa := hidden (rd_add W.heap.size qb lo lo (.slice A acc.length cp) (acc.map spanP) _ HC3.out.box HC3.out.m HC3.out.n4 HC3.out.b4 (by rw [List.length_map]; omega) hlo hlo)
              go_wp2_with fail
              refine HXa.out.mono ?_
              rintro r5 w5 ⟨rfl, vs5, hP⟩
              have HC5 := hidden (HC3.out.add (f := spanP (lo, lo)) hP.out)
              have HV5 := hidden (own_add HV.out HC3.out.rk.k.size hP.out.2.2.2.1)
              have HO5 : Hid (clsO bb (rdItems n (acc ++ [(lo, lo)]) rest) = o) := hidden (by rw [← HO.out, items_go hst.out (item_lone hX.out h45)])
              clear HXa hP HC3 HO HV
              go_wp2_with fail
              go_roundg rest.length
              case measure => rw [HG.out]; omega
              case rel => exact ⟨_, n, rest, acc ++ [(lo, lo)], vs5, rfl, by omega, by rw [List.length_append, List.length_singleton]; omega, HV5, hidden (by rw [List.map_append]; exact HC5.out), HA3, HO5⟩
        | true =>
          obtain ⟨hac, h93⟩ := of_decide_eq_true hsb.out
          obtain ⟨r, rfl⟩ : ∃ r, cs1 = 93 :: r := by
            cases cs1 with
            | nil => cases h93
            | cons c r => exact ⟨r, by rw [List.head?_cons] at h93; rw [Option.some.inj h93]⟩
          obtain ⟨f, hf⟩ : ∃ f, f = spansS acc := ⟨_, rfl⟩
          have e0 : o = .inr (if bb = true then notS f else f, r) := by rw [hf, ← HO.out, items_stop hac]; rfl
          subst e0
          obtain ⟨-, -, hA4⟩ := HA.out.cons
          have hs4 := hA4.size
          have HA4 := hidden hA4
          clear hA4 HA HO hac h93 hsb hlen hn HChar HHas
          have z1 := HC.out.rk.cells.2.1
          have f1 := HC.out.rk.cells.2.2.2.2.1
          go_upto_region 21 with fail
          have q4 : (p : Int) + 1 ≤ 9223372036854775807 := by omega
          go_upto_region 22 with fail
          replace HC := hidden (HC.out.bump HV.out)
          clear z1 f1 q4 hs4
          generalize (wc.setCell ⟨R, 1, none⟩ (.int .i64 ((p : Int) + 1))) = w5 at *
          have b0 : w5.cell? ⟨qb, 0, none⟩ = some (.slice A acc.length cp) := HC.out.box.cell 0
          have HXA := hidden (bset_All (.slice A acc.length cp) (acc.map spanP) w5 (Mine.rd (T := Old w5) HC.out.m (fun g e _ hg => hg)))
          rw [any_spans, ← hf] at HXA
          clear hf
          have HXN := hidden (bset_Not f)
          obtain ⟨n0, n1, n2, n3, he4⟩ : ∃ n0 n1 n2 n3 : Nat, setC f = #[.int .u64 (n0 : Int), .int .u64 (n1 : Int), .int .u64 (n2 : Int), .int .u64 (n3 : Int)] := ⟨_, _, _, _, rfl⟩
          obtain ⟨m0, m1, m2, m3, he5⟩ : ∃ n0 n1 n2 n3 : Nat, setC (notS f) = #[.int .u64 (n0 : Int), .int .u64 (n1 : Int), .int .u64 (n2 : Int), .int .u64 (n3 : Int)] := ⟨_, _, _, _, rfl⟩
          have HE4 := hidden he4
          have HE5 := hidden he5
          rw [he4] at HXA HXN
          rw [he5] at HXN
          clear he4 he5 HG HQ1 HQ2
          go_wp2_with fail
          refine HXA.out.mono ?_
          rintro r5 w6 ⟨rfl, hb6⟩
          replace HC := hidden (HC.out.later hb6)
          clear hb6 b0 HXA
          have HQ := hidden (Holds.new w6 101 #[.int .u64 (n0 : Int), .int .u64 (n1 : Int), .int .u64 (n2 : Int), .int .u64 (n3 : Int)])
          have hqx : W.heap.size ≤ w6.heap.size := HC.out.rk.k.size
          have hqr : qr ≠ w6.heap.size := by have := HC.out.res.lt; omega
          replace HC := hidden (HC.out.later ((Below.refl _ _).alloc (Nat.le_refl _) (.cells #[.int .u64 (n0 : Int), .int .u64 (n1 : Int), .int .u64 (n2 : Int), .int .u64 (n3 : Int)] 101)))
          go_upto_region 23 with fail
          generalize (w6.alloc (.cells #[.int .u64 (n0 : Int), .int .u64 (n1 : Int), .int .u64 (n2 : Int), .int .u64 (n3 : Int)] 101)) = w7 at *
          generalize w6.heap.size = qx at *
          have HR := hidden HC.out.res
          have HK : Hid (RdK W W0 R s (p + 1) l op vl vo w7) := hidden HC.out.rk
          have hR := HC.out.hR
          have hl2 := hidden HC.out.hl
          have ho2 := hidden HC.out.ho
          have hb2 := HC.out.b2
          clear HC HV
          obtain ⟨y0, y1, y2, y3⟩ := four HQ.out
          cases bb with
          | false =>
            obtain ⟨g0, g1, g2, g3⟩ := four HR.out
            obtain ⟨h0, h1, h2, h3⟩ := fourF HR.out
            have HRf := hidden (held4 HR.out (.int .u64 (n0 : Int)) (.int .u64 (n1 : Int)) (.int .u64 (n2 : Int)) (.int .u64 (n3 : Int)))
            have HKf := hidden (HK.out.put4 hR hl2.out ho2.out hb2 (.int .u64 (n0 : Int)) (.int .u64 (n1 : Int)) (.int .u64 (n2 : Int)) (.int .u64 (n3 : Int)))
            clear HXN HE5 HR HK HQ
            go_wp2
            obtain ⟨r0, r1, r2, r3⟩ := four HRf.out
            refine bodyPost_ret (v := .tuple #[.agg #[.int .u64 (n0 : Int), .int .u64 (n1 : Int), .int .u64 (n2 : Int), .int .u64 (n3 : Int)], .bool true]) ?_ rfl (hidden ⟨p + 1, by first | rw [HE4.out] | (rw [if_neg (by decide), HE4.out]), HA4.out, HKf.out⟩)
            simp [results, Tryz.results119, go_sem, r0, r1, r2, r3]
          | true =>
            go_wp2_with fail
            refine (HXN.out _).mono ?_
            rintro r5 w8 ⟨rfl, hb8⟩
            replace HQ := hidden (HQ.out.below hb8 HQ.out.lt)
            replace HR := hidden (HR.out.below hb8 HR.out.lt)
            replace HK := hidden (HK.out.later hb8)
            clear hb8 y0 y1 y2 y3 HXN
            obtain ⟨y0, y1, y2, y3⟩ := four HQ.out
            obtain ⟨h0, h1, h2, h3⟩ := fourF HQ.out
            replace HQ := hidden (held4 HQ.out (.int .u64 (m0 : Int)) (.int .u64 (m1 : Int)) (.int .u64 (m2 : Int)) (.int .u64 (m3 : Int)))
            replace HR := hidden (held4_far HR.out hqr (.int .u64 (m0 : Int)) (.int .u64 (m1 : Int)) (.int .u64 (m2 : Int)) (.int .u64 (m3 : Int)))
            replace HK := hidden (HK.out.put4 hR hl2.out ho2.out hqx (.int .u64 (m0 : Int)) (.int .u64 (m1 : Int)) (.int .u64 (m2 : Int)) (.int .u64 (m3 : Int)))
            go_upto_region 25 with fail
            clear y0 y1 y2 y3 h0 h1 h2 h3
            generalize ((((w8.setCell ⟨qx, 0, none⟩ (.int .u64 (m0 : Int))).setCell ⟨qx, 1, none⟩ (.int .u64 (m1 : Int))).setCell ⟨qx, 2, none⟩ (.int .u64 (m2 : Int))).setCell ⟨qx, 3, none⟩ (.int .u64 (m3 : Int))) = w9 at *
            obtain ⟨y0, y1, y2, y3⟩ := four HQ.out
            obtain ⟨g0, g1, g2, g3⟩ := four HR.out
            obtain ⟨h0, h1, h2, h3⟩ := fourF HR.out
            have HRf := hidden (held4 HR.out (.int .u64 (m0 : Int)) (.int .u64 (m1 : Int)) (.int .u64 (m2 : Int)) (.int .u64 (m3 : Int)))
            have HKf := hidden (HK.out.put4 hR hl2.out ho2.out hb2 (.int .u64 (m0 : Int)) (.int .u64 (m1 : Int)) (.int .u64 (m2 : Int)) (.int .u64 (m3 : Int)))
            clear HR HK HQ HE4
            go_wp2
            obtain ⟨r0, r1, r2, r3⟩ := four HRf.out
            refine bodyPost_ret (v := .tuple #[.agg #[.int .u64 (m0 : Int), .int .u64 (m1 : Int), .int .u64 (m2 : Int), .int .u64 (m3 : Int)], .bool true]) ?_ rfl (hidden ⟨p + 1, by first | rw [HE5.out] | (rw [if_pos rfl, HE5.out]), HA4.out, HKf.out⟩)
            simp [results, Tryz.results119, go_sem, r0, r1, r2, r3]
end Go.Proofs.YtfmdmeokbbpmlaaGreat

namespace Go.Proofs.YtfmdmeokbbpmlaaGreat
open Go.RowKit Go.Shelf

theorem set_dot (r : List Nat) : rdSet (46 :: r) = .inr (dotS, r) := by rw [rdSet, if_pos (show (46 :: r).head? = some 46 from rfl), List.tail_cons]
theorem set_class (r : List Nat) : rdSet (91 :: r) = rdClass r := by rw [rdSet, if_neg (show ¬ (91 :: r).head? = some 46 by simp), if_pos (show (91 :: r).head? = some 91 from rfl), List.tail_cons]
def oneO (X : Nat ⊕ (Nat × List Nat)) : Nat ⊕ ((Nat → Bool) × List Nat) := match X with
  | .inl p => .inl p
  | .inr (b, r) => .inr (oneS b, r)
theorem set_chr {c : Nat} {r : List Nat} (h1 : c ≠ 46) (h2 : c ≠ 91) : rdSet (c :: r) = oneO (rdChr signL (c :: r)) := by
  rw [rdSet, if_neg (by simpa using h1), if_neg (by simpa using h2)]
  rfl

set_option maxRecDepth 20000 in
set_option maxHeartbeats 16000000 in
theorem rd_atom (W0 : World) (R : Nat) (s : ByteArray) (a : Nat) (l : List Rx) (op : List (Nat × Nat)) (vl vo : Value) (c : Nat) (r : List Nat) (W : World) (H : RdA W0 R s a l op vl vo W) (hA : AtS s a (c :: r)) (hs : s.size ≤ 5000) :
    Calls Tryz.prog 98 #[.pointer (some ⟨R, 0, none⟩)] W fun r1 w' => Hid (SetTo W W0 R s l op vl vo (rdSet (c :: r)) r1 w') := by
  obtain ⟨o, HE⟩ : ∃ o, Hid (rdSet (c :: r) = o) := ⟨_, hidden rfl⟩
  rw [HE.out]
  obtain ⟨hk, ec, hA1⟩ := hA.cons
  have HAt := hidden hA
  have HA1 := hidden hA1
  have hR := H.rd.lt
  have hl2 := hidden H.hl
  have ho2 := hidden H.ho
  have HK : Hid (RdK W W0 R s a l op vl vo (W.alloc (.cells #[.int .u64 0, .int .u64 0, .int .u64 0, .int .u64 0] 101))) := hidden ((RdK.start H).later ((Below.refl _ _).alloc (Nat.le_refl _) _))
  have HR := hidden (Holds.new W 101 #[.int .u64 0, .int .u64 0, .int .u64 0, .int .u64 0])
  obtain ⟨z0, z1, -, -, f1, -, -⟩ := HK.out.cells
  have q2 : (a : Int) < (s.size : Int) := by omega
  have q3 : (0 : Int) ≤ (a : Int) := by omega
  have hkR : Hid (W.heap.size ≠ R) := hidden (by omega)
  clear H hA hA1
  go_enter Tryz.func98, Tryz.ntmps98
  go_upto_region 1 with fail
  generalize (W.alloc (.cells #[.int .u64 0, .int .u64 0, .int .u64 0, .int .u64 0] 101)) = w1 at *
  go_quiet (fail)
  replace HR := hidden (HR.out.below (below_drewN (Below.refl _ _) nq) HR.out.lt)
  replace HK := hidden (HK.out.later (below_drewN (Below.refl _ _) nq))
  clear z0 z1 f1
  generalize w1.drewN nq = w2 at *
  obtain ⟨z0, z1, -, -, f1, -, -⟩ := HK.out.cells
  by_cases h46 : c = 46
  · have p1 : ((c : Int) == 46) = true := beq_iff_eq.2 (by omega)
    have e0 : o = .inr (dotS, r) := by rw [← HE.out, h46, set_dot]
    subst e0
    have HO := hidden (bset_One 10 (by decide))
    have HN := hidden (bset_Not (oneS 10))
    rw [dot_is] at HN
    obtain ⟨n0, n1, n2, n3, he4⟩ : ∃ n0 n1 n2 n3 : Nat, setC (dotS) = #[.int .u64 (n0 : Int), .int .u64 (n1 : Int), .int .u64 (n2 : Int), .int .u64 (n3 : Int)] := ⟨_, _, _, _, rfl⟩
    have HE4 := hidden he4
    rw [he4] at HN
    clear he4 h46 HE
    obtain ⟨m0, m1, m2, m3, he5⟩ : ∃ n0 n1 n2 n3 : Nat, setC (oneS 10) = #[.int .u64 (n0 : Int), .int .u64 (n1 : Int), .int .u64 (n2 : Int), .int .u64 (n3 : Int)] := ⟨_, _, _, _, rfl⟩
    rw [he5] at HO HN
    clear he5
    replace HR := hidden (HR.out.far (p := ⟨R, 1, none⟩) hkR.out (.int .i64 ((a : Int) + 1)))
    replace HK := hidden HK.out.bump
    go_upto_region 3 with fail
    have q4 : (a : Int) + 1 ≤ 9223372036854775807 := by omega
    go_wp2_with fail
    clear z0 z1 f1 q4
    generalize (w2.setCell ⟨R, 1, none⟩ (.int .i64 ((a : Int) + 1))) = w3 at *
    refine (HO.out _).mono ?_
    rintro r5 w4 ⟨rfl, hb4⟩
    replace HR := hidden (HR.out.below hb4 HR.out.lt)
    replace HK := hidden (HK.out.later hb4)
    clear hb4 HO
    go_wp2_with fail
    refine (HN.out _).mono ?_
    rintro r5 w5 ⟨rfl, hb5⟩
    replace HR := hidden (HR.out.below hb5 HR.out.lt)
    replace HK := hidden (HK.out.later hb5)
    clear hb5 HN
    obtain ⟨g0, g1, g2, g3⟩ := four HR.out
    obtain ⟨h0, h1, h2, h3⟩ := fourF HR.out
    have HRf := hidden (held4 HR.out (.int .u64 (n0 : Int)) (.int .u64 (n1 : Int)) (.int .u64 (n2 : Int)) (.int .u64 (n3 : Int)))
    have HKf := hidden (HK.out.put4 hR hl2.out ho2.out (Nat.le_refl _) (.int .u64 (n0 : Int)) (.int .u64 (n1 : Int)) (.int .u64 (n2 : Int)) (.int .u64 (n3 : Int)))
    clear HR HK
    go_wp2
    obtain ⟨r0, r1, r2, r3⟩ := four HRf.out
    refine bodyPost_ret (v := .tuple #[.agg #[.int .u64 (n0 : Int), .int .u64 (n1 : Int), .int .u64 (n2 : Int), .int .u64 (n3 : Int)], .bool true]) ?_ rfl (hidden (⟨a + 1, by rw [HE4.out], HA1.out, HKf.out⟩))
    simp [results, Tryz.results98, go_sem, r0, r1, r2, r3]
  · have p1 : ((c : Int) == 46) = false := beq_eq_false_iff_ne.2 (by omega)
    by_cases h91 : c = 91
    · have p2 : ((c : Int) == 91) = true := beq_iff_eq.2 (by omega)
      have HX : Hid (rdClass r = o) := hidden (by rw [← HE.out, h91, set_class])
      have HCl := hidden (rd_class W0 R s a l op vl vo r w2 HK.out.a (by rw [← h91]; exact HAt.out) hs)
      rw [HX.out] at HCl
      clear h46 h91 HE HX z0 z1 f1
      go_wp2_with fail
      refine HCl.out.mono ?_
      rintro r1 w3 hC
      have hC := hidden hC.out
      clear HCl
      cases o with
      | inl p =>
        obtain ⟨f, a', rfl, h2, h3⟩ := hC.out
        replace HR := hidden (h3.k.holds ⟨hkR.out, HR.out.lt⟩ HR.out)
        replace HK := hidden (HK.out.from h3)
        have H2 := hidden h2
        clear hC h2 h3
        obtain ⟨n0, n1, n2, n3, he4⟩ : ∃ n0 n1 n2 n3 : Nat, setC (f) = #[.int .u64 (n0 : Int), .int .u64 (n1 : Int), .int .u64 (n2 : Int), .int .u64 (n3 : Int)] := ⟨_, _, _, _, rfl⟩
        have HE4 := hidden he4
        rw [he4]
        clear he4
        obtain ⟨g0, g1, g2, g3⟩ := four HR.out
        obtain ⟨h0, h1, h2, h3⟩ := fourF HR.out
        have HRf := hidden (held4 HR.out (.int .u64 (n0 : Int)) (.int .u64 (n1 : Int)) (.int .u64 (n2 : Int)) (.int .u64 (n3 : Int)))
        have HKf := hidden (HK.out.put4 hR hl2.out ho2.out (Nat.le_refl _) (.int .u64 (n0 : Int)) (.int .u64 (n1 : Int)) (.int .u64 (n2 : Int)) (.int .u64 (n3 : Int)))
        clear HR HK
        go_wp2
        obtain ⟨r0, r1, r2, r3⟩ := four HRf.out
        refine bodyPost_ret (v := .tuple #[.agg #[.int .u64 (n0 : Int), .int .u64 (n1 : Int), .int .u64 (n2 : Int), .int .u64 (n3 : Int)], .bool false]) ?_ rfl (hidden (⟨f, a', by rw [HE4.out], H2.out, HKf.out⟩))
        simp [results, Tryz.results98, go_sem, r0, r1, r2, r3]
      | inr x =>
        obtain ⟨f, rest⟩ := x
        obtain ⟨a', rfl, h2, h3⟩ := hC.out
        replace HR := hidden (h3.k.holds ⟨hkR.out, HR.out.lt⟩ HR.out)
        replace HK := hidden (HK.out.from h3)
        have H2 := hidden h2
        clear hC h2 h3
        obtain ⟨n0, n1, n2, n3, he4⟩ : ∃ n0 n1 n2 n3 : Nat, setC (f) = #[.int .u64 (n0 : Int), .int .u64 (n1 : Int), .int .u64 (n2 : Int), .int .u64 (n3 : Int)] := ⟨_, _, _, _, rfl⟩
        have HE4 := hidden he4
        rw [he4]
        clear he4
        obtain ⟨g0, g1, g2, g3⟩ := four HR.out
        obtain ⟨h0, h1, h2, h3⟩ := fourF HR.out
        have HRf := hidden (held4 HR.out (.int .u64 (n0 : Int)) (.int .u64 (n1 : Int)) (.int .u64 (n2 : Int)) (.int .u64 (n3 : Int)))
        have HKf := hidden (HK.out.put4 hR hl2.out ho2.out (Nat.le_refl _) (.int .u64 (n0 : Int)) (.int .u64 (n1 : Int)) (.int .u64 (n2 : Int)) (.int .u64 (n3 : Int)))
        clear HR HK
        go_wp2
        obtain ⟨r0, r1, r2, r3⟩ := four HRf.out
        refine bodyPost_ret (v := .tuple #[.agg #[.int .u64 (n0 : Int), .int .u64 (n1 : Int), .int .u64 (n2 : Int), .int .u64 (n3 : Int)], .bool true]) ?_ rfl (hidden (⟨a', by rw [HE4.out], H2.out, HKf.out⟩))
        simp [results, Tryz.results98, go_sem, r0, r1, r2, r3]
    · have p2 : ((c : Int) == 91) = false := beq_eq_false_iff_ne.2 (by omega)
      obtain ⟨X, hX⟩ : ∃ X, Hid (rdChr signL (c :: r) = X) := ⟨_, hidden rfl⟩
      have HS : Hid (oneO X = o) := hidden (by rw [← hX.out, ← set_chr h46 h91]; exact HE.out)
      have HCh := hidden (rd_char (⟨#[40, 41, 91, 93, 124, 42, 43, 63, 46, 92]⟩ : ByteArray) signL ask_sign W0 R s a l op vl vo (c :: r) w2 HK.out.a HAt.out hs)
      rw [hX.out] at HCh
      clear h46 h91 HE z0 z1 f1
      go_wp2_with fail
      refine HCh.out.mono ?_
      rintro r1 w3 hC
      have hC := hidden hC.out
      clear HCh
      cases X with
      | inl p =>
        obtain ⟨rfl, a', h2, h3⟩ := hC.out
        have e0 : o = .inl p := HS.out.symm
        subst e0
        replace HR := hidden (h3.k.holds ⟨hkR.out, HR.out.lt⟩ HR.out)
        replace HK := hidden (HK.out.from h3)
        have H2 := hidden h2
        have HO := hidden (bset_One 0 (by decide))
        clear hC h2 h3 HS
        obtain ⟨n0, n1, n2, n3, he4⟩ : ∃ n0 n1 n2 n3 : Nat, setC (oneS 0) = #[.int .u64 (n0 : Int), .int .u64 (n1 : Int), .int .u64 (n2 : Int), .int .u64 (n3 : Int)] := ⟨_, _, _, _, rfl⟩
        have HE4 := hidden he4
        rw [he4] at HO
        clear he4
        go_wp2_with fail
        refine (HO.out _).mono ?_
        rintro r5 w4 ⟨rfl, hb4⟩
        replace HR := hidden (HR.out.below hb4 HR.out.lt)
        replace HK := hidden (HK.out.later hb4)
        clear hb4 HO
        obtain ⟨g0, g1, g2, g3⟩ := four HR.out
        obtain ⟨h0, h1, h2, h3⟩ := fourF HR.out
        have HRf := hidden (held4 HR.out (.int .u64 (n0 : Int)) (.int .u64 (n1 : Int)) (.int .u64 (n2 : Int)) (.int .u64 (n3 : Int)))
        have HKf := hidden (HK.out.put4 hR hl2.out ho2.out (Nat.le_refl _) (.int .u64 (n0 : Int)) (.int .u64 (n1 : Int)) (.int .u64 (n2 : Int)) (.int .u64 (n3 : Int)))
        clear HR HK
        go_wp2
        obtain ⟨r0, r1, r2, r3⟩ := four HRf.out
        refine bodyPost_ret (v := .tuple #[.agg #[.int .u64 (n0 : Int), .int .u64 (n1 : Int), .int .u64 (n2 : Int), .int .u64 (n3 : Int)], .bool false]) ?_ rfl (hidden (⟨oneS 0, a', by rw [HE4.out], H2.out, HKf.out⟩))
        simp [results, Tryz.results98, go_sem, r0, r1, r2, r3]
      | inr x =>
        obtain ⟨b, rest⟩ := x
        obtain ⟨rfl, hb, a', h2, h3⟩ := hC.out
        have e0 : o = .inr (oneS b, rest) := HS.out.symm
        subst e0
        replace HR := hidden (h3.k.holds ⟨hkR.out, HR.out.lt⟩ HR.out)
        replace HK := hidden (HK.out.from h3)
        have H2 := hidden h2
        have HO := hidden (bset_One b hb)
        clear hC h2 h3 HS
        obtain ⟨n0, n1, n2, n3, he4⟩ : ∃ n0 n1 n2 n3 : Nat, setC (oneS b) = #[.int .u64 (n0 : Int), .int .u64 (n1 : Int), .int .u64 (n2 : Int), .int .u64 (n3 : Int)] := ⟨_, _, _, _, rfl⟩
        have HE4 := hidden he4
        rw [he4] at HO
        clear he4
        go_wp2_with fail
        refine (HO.out _).mono ?_
        rintro r5 w4 ⟨rfl, hb4⟩
        replace HR := hidden (HR.out.below hb4 HR.out.lt)
        replace HK := hidden (HK.out.later hb4)
        clear hb4 HO
        obtain ⟨g0, g1, g2, g3⟩ := four HR.out
        obtain ⟨h0, h1, h2, h3⟩ := fourF HR.out
        have HRf := hidden (held4 HR.out (.int .u64 (n0 : Int)) (.int .u64 (n1 : Int)) (.int .u64 (n2 : Int)) (.int .u64 (n3 : Int)))
        have HKf := hidden (HK.out.put4 hR hl2.out ho2.out (Nat.le_refl _) (.int .u64 (n0 : Int)) (.int .u64 (n1 : Int)) (.int .u64 (n2 : Int)) (.int .u64 (n3 : Int)))
        clear HR HK
        go_wp2
        obtain ⟨r0, r1, r2, r3⟩ := four HRf.out
        refine bodyPost_ret (v := .tuple #[.agg #[.int .u64 (n0 : Int), .int .u64 (n1 : Int), .int .u64 (n2 : Int), .int .u64 (n3 : Int)], .bool true]) ?_ rfl (hidden (⟨a', by rw [HE4.out], H2.out, HKf.out⟩))
        simp [results, Tryz.results98, go_sem, r0, r1, r2, r3]
end Go.Proofs.YtfmdmeokbbpmlaaGreat

namespace Go.Proofs.YtfmdmeokbbpmlaaGreat
open Go.RowKit Go.Shelf

theorem setCell_allocR (w : World) (o : Obj) {p : Addr} (hp : p.block < w.heap.size) (u : Value) : (w.alloc o).setCell p u = (w.setCell p u).alloc o := by
  unfold World.setCell World.alloc
  simp only [World.mk.injEq, and_true]
  apply Array.ext_getElem?
  intro i
  simp only [Array.getElem?_modify, Array.getElem?_push, Array.size_modify]
  by_cases h1 : p.block = i
  · subst h1
    rw [if_pos rfl, if_neg (by omega)]
    simp
    omega
  · rw [if_neg h1]
    simp [h1]
theorem gr_info : Hid (TyInfo Tryz.prog 145 (.agg #[.int .i64 0, .int .i64 0]) 2 16) := hidden (info_parts (show (Tryz.prog.info? 145).map (fun i => (i.zero, i.size, i.bytes)) = some (some (.agg #[.int .i64 0, .int .i64 0]), 2, 16) by kernel_rfl))
section
variable {W0 w w' : World} {R : Nat} {s : ByteArray} {at_ : Nat} {l : List Rx} {op : List (Nat × Nat)} {vl vo : Value}
/-- A group is opened. -/
theorem RdA.putO (h : RdA W0 R s at_ l op vl vo w) {x : Nat × Nat} {v' : Value} (hA : Appended w W0.heap.size 145 2 vo (op.length + 1) (op.flatMap grC ++ grC x) v' w') :
    RdA W0 R s at_ l (op ++ [x]) vl v' (w'.setCell ⟨R, 3, none⟩ v') := by
  have hn : v'.ownBlock ≠ some R ∧ ∀ g, vl.ownBlock = some g → v'.ownBlock ≠ some g := by
    rcases hA.at_ with e | ⟨g, e, h1, h2⟩
    · rw [e]; exact ⟨h.no, h.lo⟩
    · refine ⟨fun e2 => ?_, fun g2 e2 e3 => ?_⟩
      · rw [e] at e2
        have := h.rd.lt
        have := Option.some.inj e2
        omega
      · rw [e] at e3
        have := Option.some.inj e3
        have := h.hl g2 e2
        omega
  have hv : ∀ g, v'.ownBlock = some g → g < w'.heap.size := by
    intro g e
    rcases hA.at_ with e2 | ⟨g2, e2, _, h2⟩
    · rw [e2] at e; exact Nat.lt_of_lt_of_le (h.ho g e) hA.keeps.size
    · rw [e2] at e; have := Option.some.inj e; omega
  have hk : Keeps (fun k => vo.ownBlock ≠ some k) w w' := hA.keeps
  refine ⟨(hk.holds h.no h.rd).set 3 v', ?_, ?_, h.nl, hn.1, hn.2, fun g e => by rw [World.size_setCell]; exact hv g e, fun g e => by rw [World.size_setCell]; exact Nat.lt_of_lt_of_le (h.hl g e) hk.size, h.old, (h.below.trans hA.below).setCell (p := ⟨R, 3, none⟩) h.old _⟩
  · exact Mine.set (p := ⟨R, 3, none⟩) (h.ml.keep (fun g e _ hg => hk.block g (h.lo g e) hg)) h.nl _
  · have := hA.mine.set (p := ⟨R, 3, none⟩) hn.1 v'
    rw [List.length_append, List.flatMap_append]
    simpa [List.flatMap_cons] using this
/-- The first group. -/
theorem RdA.open1 (h : RdA W0 R s at_ l op vl vo w) :
    RdA W0 R s at_ l [(0, 0)] vl (.slice (some ⟨w.heap.size, 0, none⟩) 1 1) ((w.alloc (.cells #[.int .i64 0, .int .i64 0] 145)).setCell ⟨R, 3, none⟩ (.slice (some ⟨w.heap.size, 0, none⟩) 1 1)) := by
  have hR : w.heap.size ≠ R := by have := h.rd.lt; omega
  have hb := h.below.size
  have hm : Mine (w.alloc (.cells #[.int .i64 0, .int .i64 0] 145)) W0.heap.size 145 2 (.slice (some ⟨w.heap.size, 0, none⟩) 1 1) 1 ([(0, 0)].flatMap grC) := .inl (World.ownsRow_lit w #[.int .i64 0, .int .i64 0] 1 hb (by decide) rfl)
  have hs : ∀ g, (Value.slice (some ⟨w.heap.size, 0, none⟩) 1 1).ownBlock = some g → g = w.heap.size := fun g e => (Option.some.inj e).symm
  refine ⟨(h.rd.alloc _).set 3 _, (h.ml.alloc _).set (p := ⟨R, 3, none⟩) h.nl _, hm.set (p := ⟨R, 3, none⟩) (fun e => hR (Option.some.inj e)) _, h.nl, fun e => hR (Option.some.inj e), fun g e e2 => ?_, fun g e => ?_, fun g e => ?_, h.old, ((h.below.alloc hb _).setCell (p := ⟨R, 3, none⟩) h.old _)⟩
  · have := h.hl g e
    have := hs g e2
    omega
  · rw [World.size_setCell, World.size_alloc, hs g e]; omega
  · rw [World.size_setCell, World.size_alloc]; have := h.hl g e; omega
/-- The last group is shut. -/
theorem RdA.popO {b cap : Nat} {gs : List (Nat × Nat)} {x : Nat × Nat} (h : RdA W0 R s at_ l (gs ++ [x]) vl (.slice (some ⟨b, 0, none⟩) (gs.length + 1) cap) w) :
    RdA W0 R s at_ l gs vl (.slice (some ⟨b, 0, none⟩) gs.length cap) (w.setCell ⟨R, 3, none⟩ (.slice (some ⟨b, 0, none⟩) gs.length cap)) := by
  have ho := h.mo.own (by simp)
  rw [rd_flat_last, List.length_append, List.length_singleton] at ho
  have hp := ownsRow_pop (gr_flat gs) ho
  exact ⟨h.rd.set 3 _, h.ml.set (p := ⟨R, 3, none⟩) h.nl _, Mine.set (p := ⟨R, 3, none⟩) (.inl hp) h.no _, h.nl, h.no, h.lo, fun g e => by rw [World.size_setCell]; exact h.ho g e, fun g e => by rw [World.size_setCell]; exact h.hl g e, h.old, h.below.setCell (p := ⟨R, 3, none⟩) h.old _⟩
end
theorem step_open (r : List Nat) (l : List Rx) (g : Nat × Nat) (gs : List (Nat × Nat)) : stepM 40 r l g gs = .inr ⟨r, l, (0, 0), g :: gs⟩ := by unfold stepM; rw [if_pos rfl]
theorem step_bar (r : List Nat) (l : List Rx) (g : Nat × Nat) (gs : List (Nat × Nat)) : stepM 124 r l g gs = .inr ⟨r, (branchM l g).1, (branchM l g).2, gs⟩ := by unfold stepM; rw [if_neg (by decide), if_pos rfl]
theorem step_shut0 (r : List Nat) (l : List Rx) (g : Nat × Nat) : stepM 41 r l g [] = .inl (r.length + 1) := by unfold stepM; rw [if_neg (by decide), if_neg (by decide), if_pos rfl]
theorem step_shut (r : List Nat) (l : List Rx) (g h : Nat × Nat) (gs : List (Nat × Nat)) : stepM 41 r l g (h :: gs) = .inr (afterM (branchM l g).1 r h gs) := by unfold stepM; rw [if_neg (by decide), if_neg (by decide), if_pos rfl]
theorem step_bad {c k : Nat} {r : List Nat} {l : List Rx} {g : Nat × Nat} {gs : List (Nat × Nat)} (h1 : c ≠ 40) (h2 : c ≠ 124) (h3 : c ≠ 41) (h : rdSet (c :: r) = .inl k) : stepM c r l g gs = .inl k := by
  unfold stepM; rw [if_neg h1, if_neg h2, if_neg h3, h]
theorem step_setR {c : Nat} {r r1 : List Nat} {f : Nat → Bool} {l : List Rx} {g : Nat × Nat} {gs : List (Nat × Nat)} (h1 : c ≠ 40) (h2 : c ≠ 124) (h3 : c ≠ 41) (h : rdSet (c :: r) = .inr (f, r1)) : stepM c r l g gs = .inr (afterM (l ++ [setRx f]) r1 g gs) := by
  unfold stepM; rw [if_neg h1, if_neg h2, if_neg h3, h]
theorem runS_stop {c k : Nat} {r : List Nat} {l : List Rx} {g : Nat × Nat} {gs : List (Nat × Nat)} (h : stepM c r l g gs = .inl k) : runS ⟨c :: r, l, g, gs⟩ = .inl k := by rw [runS_cons, h]
/-- How much there may be. -/
structure TxB (s : ByteArray) (cs : List Nat) (l : List Rx) (g : Nat × Nat) (gs : List (Nat × Nat)) : Prop where
  steps : l.length + 4 * cs.length ≤ 4 * s.size
  deep : gs.length + cs.length ≤ s.size
  each : ∀ x ∈ g :: gs, x.1 + cs.length ≤ s.size ∧ x.2 + cs.length ≤ s.size
theorem branch_len (l : List Rx) (g : Nat × Nat) : (branchM l g).1.length ≤ l.length + 2 := by
  unfold branchM emptyM
  dsimp only
  split <;> split <;> (repeat rw [List.length_append]) <;> (repeat rw [List.length_singleton]) <;> omega
theorem TxB.open_ {s : ByteArray} {c : Nat} {r : List Nat} {l : List Rx} {g : Nat × Nat} {gs : List (Nat × Nat)} (h : TxB s (c :: r) l g gs) : TxB s r l (0, 0) (g :: gs) := by
  have h1 := h.steps
  have h2 := h.deep
  have h3 := h.each
  rw [List.length_cons] at h1 h2 h3
  refine ⟨by omega, by rw [List.length_cons]; omega, fun x hx => ?_⟩
  rcases List.mem_cons.1 hx with rfl | hx
  · dsimp only; omega
  · have := h3 x hx; omega
theorem TxB.bar {s : ByteArray} {c : Nat} {r : List Nat} {l : List Rx} {g : Nat × Nat} {gs : List (Nat × Nat)} (h : TxB s (c :: r) l g gs) : TxB s r (branchM l g).1 (branchM l g).2 gs := by
  have h1 := h.steps
  have h2 := h.deep
  have h3 := h.each
  have h4 := branch_len l g
  rw [List.length_cons] at h1 h2 h3
  refine ⟨by omega, by omega, fun x hx => ?_⟩
  rcases List.mem_cons.1 hx with rfl | hx
  · have := h3 g List.mem_cons_self
    unfold branchM
    dsimp only
    omega
  · have := h3 x (List.mem_cons_of_mem _ hx); omega
theorem TxB.after {s : ByteArray} {cs : List Nat} {l : List Rx} {g : Nat × Nat} {gs : List (Nat × Nat)} (h1 : l.length + 1 + 4 * cs.length ≤ 4 * s.size) (h2 : gs.length + cs.length ≤ s.size) (h3 : g.1 + 1 + cs.length ≤ s.size ∧ g.2 + cs.length ≤ s.size) (h4 : ∀ x ∈ gs, x.1 + cs.length ≤ s.size ∧ x.2 + cs.length ≤ s.size) :
    TxB s (afterM l cs g gs).cs (afterM l cs g gs).l (afterM l cs g gs).g gs := by
  have a1 := signs_len cs l
  have a2 := signs_le cs l
  unfold afterM pieceM
  dsimp only
  generalize signsM l cs = res at *
  refine ⟨?_, by omega, fun x hx => ?_⟩
  · split
    · rw [List.length_append, List.length_singleton]; omega
    · omega
  · rcases List.mem_cons.1 hx with rfl | hx
    · dsimp only; omega
    · have := h4 x hx; omega
/-- What becomes of the whole text. -/
def TextTo (W0 : World) (R : Nat) (s : ByteArray) (X : Nat ⊕ List Rx) (r : Ending) (w' : World) : Prop := match X with
  | .inl p => r = .returned (.bool false) ∧ ∃ a' l op vl vo, a' + p = s.size ∧ RdA W0 R s a' l op vl vo w'
  | .inr l => r = .returned (.bool true) ∧ ∃ a' op vl vo, RdA W0 R s a' l op vl vo w'

set_option maxRecDepth 20000 in
set_option maxHeartbeats 32000000 in
theorem rd_text (W0 : World) (R : Nat) (s : ByteArray) (vl vo : Value) (W : World) (H : RdA W0 R s 0 [] [] vl vo W) (hs : s.size ≤ 4096) :
    Calls Tryz.prog 84 #[.pointer (some ⟨R, 0, none⟩)] W fun r w' => Hid (TextTo W0 R s (runS ⟨nb s, [], (0, 0), []⟩) r w') := by
  obtain ⟨X, HX⟩ : ∃ X, Hid (runS ⟨nb s, [], (0, 0), []⟩ = X) := ⟨_, hidden rfl⟩
  rw [HX.out]
  have HA0 := hidden (AtS.start s)
  have HH0 := hidden H.open1
  rw [setCell_allocR W _ (p := ⟨R, 3, none⟩) H.rd.lt] at HH0
  have hn := nb_len s
  have HB0 : Hid (TxB s (nb s) [] (0, 0) []) := hidden ⟨by simp [hn], by simp [hn], fun x hx => by simp at hx; subst hx; simp [hn]⟩
  have hz := H.rd.cell 3
  have hzf := H.rd.frozen 3
  replace hz : W.cell? ⟨R, 3, none⟩ = some vo := hz
  have hRl := H.rd.lt
  clear H
  go_enter Tryz.func84, Tryz.ntmps84
  go_wp2_with fail
  go_step3
  go_wp2_with fail
  clear hz hzf
  generalize ((W.setCell ⟨R, 3, none⟩ (.slice (some ⟨W.heap.size, 0, none⟩) 1 1)).alloc (.cells #[.int .i64 0, .int .i64 0] 145)) = w1 at *
  generalize (Value.slice (some ⟨W.heap.size, 0, none⟩) 1 1) = vo1 at *
  go_step3
  go_wp2_with fail
  go_loopg [19] (nb s).length (fun gh _ wr => ∃ (a : Nat) (cs : List Nat) (l : List Rx) (g : Nat × Nat) (gs : List (Nat × Nat)) (vl vo : Value), gh = cs.length ∧ Hid (AtS s a cs) ∧ Hid (RdA W0 R s a l (gs.reverse ++ [g]) vl vo wr) ∧ Hid (runS ⟨cs, l, g, gs⟩ = X) ∧ Hid (TxB s cs l g gs))
  case atStart => exact ⟨0, nb s, [], (0, 0), [], vl, vo1, rfl, HA0, HH0, HX, HB0⟩
  case round =>
    clear HA0 HH0 HX HB0 hn hRl
    obtain ⟨a, cs, l, g, gs, vl, vo, hgk, HA, HH, HX, HB⟩ := hrel
    have HG := hidden hgk
    clear hgk
    obtain ⟨b, cap, ht⟩ := HH.out.top
    obtain rfl := ht.val
    have hroom := ht.room
    have hmost := ht.most
    unfold maxLen at hmost
    rw [List.length_reverse] at hroom HH
    clear ht
    have hq := HA.out.size
    have hB1 := HB.out.steps
    have hB2 := HB.out.deep
    have hB3 := HB.out.each g List.mem_cons_self
    obtain ⟨z0, z1, z2, z3, f1, -, f3⟩ := HH.out.cells
    cases cs with
    | nil =>
      have hn := HA.out.nil
      have q1 : ¬ (a : Int) < (s.size : Int) := by omega
      go_wp2_with fail
      go_quiet (fail)
      replace HH := hidden (HH.out.later (below_drewN (Below.refl _ _) nq))
      clear z0 z1 z2 z3 f1 f3
      generalize wr.drewN nq = w1 at *
      obtain ⟨z0, z1, z2, z3, f1, -, f3⟩ := HH.out.cells
      have HBr := hidden (rd_branch W0 R s a l gs.reverse g vl _ w1 HH.out (by omega) (by omega) (by omega))
      clear z0 z1 z2 z3 f1 f3
      go_wp2_with fail
      refine HBr.out.mono ?_
      rintro r2 w2 ⟨rfl, vl2, H2⟩
      obtain ⟨-, -, -, z3, -, -, -⟩ := H2.out.cells
      rw [runS_nil] at HX
      clear HBr HH
      by_cases hg : gs = []
      · rw [if_pos hg] at HX
        have e0 : X = .inr (branchM l g).1 := HX.out.symm
        subst e0
        subst hg
        clear HX HB HG hq hB1 hB2 hB3
        go_wp2
        (try rw [Exit.noGoto_ret])
        go_ret
        exact hidden ⟨rfl, a, _, vl2, _, H2.out⟩
      · rw [if_neg hg] at HX
        have e0 : X = .inl 0 := HX.out.symm
        subst e0
        have hgl : gs.length ≠ 0 := fun e => hg (List.eq_nil_of_length_eq_zero e)
        have p1 : (((gs.length : Int) + 1) == 1) = false := beq_eq_false_iff_ne.2 (by omega)
        clear HX HB HG hB1 hB2 hB3 hg
        go_wp2
        (try rw [Exit.noGoto_ret])
        go_ret
        exact hidden ⟨rfl, a, _, _, vl2, _, by simpa using hq, H2.out⟩
    | cons c r =>
      obtain ⟨hk, ec, hA1⟩ := HA.out.cons
      have hc := HA.out.lt
      have HA1 := hidden hA1
      clear hA1
      have q1 : (a : Int) < (s.size : Int) := by omega
      have q3 : (0 : Int) ≤ (a : Int) := by omega
      rw [List.length_cons] at hq hB1 hB2 hB3
      go_wp2_with fail
      go_quiet (fail)
      replace HH := hidden (HH.out.later (below_drewN (Below.refl _ _) nq))
      clear z0 z1 z2 z3 f1 f3
      generalize wr.drewN nq = w1 at *
      obtain ⟨z0, z1, z2, z3, f1, -, f3⟩ := HH.out.cells
      go_wp2_with fail
      go_quiet (fail)
      replace HH := hidden (HH.out.later (below_drewN (Below.refl _ _) nq))
      clear z0 z1 z2 z3 f1 f3
      generalize w1.drewN nq = w2 at *
      obtain ⟨z0, z1, z2, z3, f1, -, f3⟩ := HH.out.cells
      by_cases h40 : c = 40
      · have p1 : ((c : Int) == 40) = true := beq_iff_eq.2 (by omega)
        have HXn : Hid (runS ⟨r, l, (0, 0), g :: gs⟩ = X) := hidden (by rw [← HX.out, h40]; exact (runS_step (step_open _ _ _ _)).symm)
        have HBn := hidden (TxB.open_ HB.out)
        replace HH := hidden (HH.out.later ((Below.refl _ _).alloc (Nat.le_refl _) (.cells #[.int .i64 0, .int .i64 0] 145)))
        have HM := hidden HH.out.mo
        have HXr : Hid (Rd (w2.alloc (.cells #[.int .i64 0, .int .i64 0] 145)) (fun _ => True) 2 (.slice (some ⟨w2.heap.size, 0, none⟩) 1 1) 1 [.int .i64 0, .int .i64 0]) := hidden (Rd.fresh (cs := [.int .i64 0, .int .i64 0]) (n := 1) (size := 2) rfl (Nat.le_refl _) (by decide) trivial rfl)
        have hones : Hid (∀ u ∈ [Value.int .i64 0, Value.int .i64 0], u.oneCell' = true) := hidden (fun u hu => by simp at hu; subst hu; rfl)
        have hbz := HH.out.below.size
        have hol : (gs.reverse ++ [g]).length = gs.length + 1 := by simp
        rw [hol] at HM
        clear h40 HX HB hol
        go_upto_region 10 with (at_builtin; refine wpList_append_all rfl _ _ 129 145 rfl (by kernel_rfl) gr_info rfl (by decide) W0.heap.size (.slice (some ⟨b, 0, none⟩) (gs.length + 1) cap) (gs.length + 1) ((gs.reverse ++ [g]).flatMap grC) HM _ 1 _ HXr hones rfl rfl (by omega) (by decide) hbz ?_; intro v9 w9 hA; obtain ⟨A9, c9, rfl⟩ := hA.out.mine.value; have zr := (hA.out.keeps.holds HH.out.no HH.out.rd); have zr3 := zr.cell 3; have zrf := zr.frozen 3)
        replace HH := hidden (HH.out.putO (x := (0, 0)) (by rw [show (gs.reverse ++ [g]).length = gs.length + 1 by simp]; exact hA.out))
        clear z0 z1 z2 z3 f1 f3 zr zr3 zrf hA HM HXr
        generalize (w9.setCell ⟨R, 3, none⟩ (.slice A9 (gs.length + 1 + 1) c9)) = w3 at *
        obtain ⟨z0, z1, z2, z3, f1, -, f3⟩ := HH.out.cells
        have q4 : (a : Int) + 1 ≤ 9223372036854775807 := by omega
        replace HH := hidden HH.out.bump
        go_wp2_with fail
        go_roundg r.length
        case measure => rw [HG.out]; exact Nat.lt_succ_self _
        case rel => exact ⟨a + 1, r, l, (0, 0), g :: gs, vl, _, rfl, HA1, hidden (by rw [List.reverse_cons]; exact HH.out), HXn, HBn⟩
      · have p1 : ((c : Int) == 40) = false := beq_eq_false_iff_ne.2 (by omega)
        by_cases h124 : c = 124
        · have p2 : ((c : Int) == 124) = true := beq_iff_eq.2 (by omega)
          have HXn : Hid (runS ⟨r, (branchM l g).1, (branchM l g).2, gs⟩ = X) := hidden (by rw [← HX.out, h124]; exact (runS_step (step_bar _ _ _ _)).symm)
          have HBn := hidden (TxB.bar HB.out)
          have HBr := hidden (rd_branch W0 R s a l gs.reverse g vl _ w2 HH.out (by omega) (by omega) (by omega))
          clear h124 HX HB h40 z0 z1 z2 z3 f1 f3
          go_wp2_with fail
          refine HBr.out.mono ?_
          rintro r2 w3 ⟨rfl, vl3, H3⟩
          replace HH := H3
          obtain ⟨z0, z1, z2, z3, f1, -, f3⟩ := HH.out.cells
          have q4 : (a : Int) + 1 ≤ 9223372036854775807 := by omega
          replace HH := hidden HH.out.bump
          go_wp2_with fail
          go_roundg r.length
          case measure => rw [HG.out]; exact Nat.lt_succ_self _
          case rel => exact ⟨a + 1, r, _, _, gs, vl3, _, rfl, HA1, HH, HXn, HBn⟩
        · have p2 : ((c : Int) == 124) = false := beq_eq_false_iff_ne.2 (by omega)
          by_cases h41 : c = 41
          · have p3 : ((c : Int) == 41) = true := beq_iff_eq.2 (by omega)
            cases gs with
            | nil =>
              have e0 : X = .inl (r.length + 1) := by rw [← HX.out, h41]; exact runS_stop (step_shut0 _ _ _)
              subst e0
              clear HX HB h41 h40 h124
              go_wp2
              (try rw [Exit.noGoto_ret])
              go_ret
              exact hidden ⟨rfl, a, _, _, vl, _, hq, HH.out⟩
            | cons h gs =>
              have HXn : Hid (runS (afterM (branchM l g).1 r h gs) = X) := hidden (by rw [← HX.out, h41]; exact (runS_step (step_shut _ _ _ _ _)).symm)
              have hB4 := HB.out.each h (by simp)
              have hB5 := branch_len l g
              have HBn : Hid (TxB s (afterM (branchM l g).1 r h gs).cs (afterM (branchM l g).1 r h gs).l (afterM (branchM l g).1 r h gs).g gs) := hidden (TxB.after (by omega) (by rw [List.length_cons] at hB2; omega) (by rw [List.length_cons] at hB4; omega) (fun x hx => by have := HB.out.each x (by simp [hx]); rw [List.length_cons] at this; omega))
              have HBr := hidden (rd_branch W0 R s a l (h :: gs).reverse g vl _ w2 HH.out (by omega) (by omega) (by omega))
              have p4 : ((((h :: gs).length : Int) + 1) == 1) = false := by rw [beq_eq_false_iff_ne, List.length_cons]; omega
              rw [List.length_cons] at hB4
              clear HX HB h41 h40 h124
              rw [List.length_cons] at HBr hroom z3 p4
              have p5 : ((((gs.length + 1 : Nat) : Int) + 1) == 1) = false := p4
              go_upto_region 17 with fail
              clear z0 z1 z2 z3 f1 f3 p4 p5
              go_wp2_with fail
              refine HBr.out.mono ?_
              rintro r2 w3 ⟨rfl, vl3, H3⟩
              replace HH := H3
              obtain ⟨z0, z1, z2, z3, f1, -, f3⟩ := HH.out.cells
              obtain ⟨m, hm⟩ : ∃ m, m = gs.length + 1 := ⟨_, rfl⟩
              rw [← hm] at HH z3 hroom
              have HM := hidden hm
              have q5 : (m : Int) + 1 ≤ 9223372036854775807 := by omega
              have q6 : (0 : Int) ≤ (m : Int) := by omega
              have q7 : (m : Int) ≤ (cap : Int) := by omega
              have q8 : IntKind.i64.wrap (m : Int) = (m : Int) := by rw [IntKind.wrap_i64]; omega
              clear hm
              go_wp2_with fail
              go_still_tail 14, (by kernel_rfl)
              change wpList _ _ _ _ _ w3.drew
              replace HH := hidden (HH.out.later (Below.drew (Below.refl _ _)))
              clear z0 z1 z2 z3 f1 f3
              generalize w3.drew = w4 at *
              obtain ⟨z0, z1, z2, z3, f1, -, f3⟩ := HH.out.cells
              rw [List.reverse_cons] at HH
              rw [show m + 1 = (gs.reverse ++ [h]).length + 1 by rw [HM.out]; simp] at HH
              replace HH := hidden HH.out.popO
              rw [show (gs.reverse ++ [h]).length = m by rw [HM.out]; simp] at HH
              go_upto_region 19 with fail
              clear z0 z1 z2 z3 f1 f3
              generalize (w4.setCell ⟨R, 3, none⟩ (.slice (some ⟨b, 0, none⟩) m cap)) = w5 at *
              obtain ⟨z0, z1, z2, z3, f1, -, f3⟩ := HH.out.cells
              have q4 : (a : Int) + 1 ≤ 9223372036854775807 := by omega
              replace HH := hidden HH.out.bump
              have HC := HA1
              go_upto_region 20 with fail
              clear z0 z1 z2 z3 f1 f3 q4 q5 q6 q7 q8
              generalize (w5.setCell ⟨R, 1, none⟩ (.int .i64 ((a : Int) + 1))) = w6 at *
              have HP := hidden (rd_piece W0 R s (a + 1) (branchM l g).1 gs.reverse h vl3 _ r w6 HH.out HC.out (by omega) (by omega) (by omega))
              go_wp2_with fail
              refine HP.out.mono ?_
              rintro r5 w8 ⟨rfl, HT⟩
              obtain ⟨a8, vl8, hA8, H8⟩ := HT.out
              clear HP HT HH
              have HA8 := hidden hA8
              have HH8 := hidden H8
              clear hA8 H8
              go_wp2_with fail
              go_roundg (afterM (branchM l g).1 r h gs).cs.length
              case measure =>
                have hsl := signs_le r (branchM l g).1
                rw [HG.out, List.length_cons]
                show (signsM (branchM l g).1 r).2.length < _
                omega
              case rel => exact ⟨a8, (afterM (branchM l g).1 r h gs).cs, (afterM (branchM l g).1 r h gs).l, (afterM (branchM l g).1 r h gs).g, gs, vl8, _, rfl, HA8, HH8, HXn, HBn⟩
          · have p3 : ((c : Int) == 41) = false := beq_eq_false_iff_ne.2 (by omega)
            obtain ⟨Y, hY⟩ : ∃ Y, Hid (rdSet (c :: r) = Y) := ⟨_, hidden rfl⟩
            have HAt := hidden (rd_atom W0 R s a l _ vl _ c r w2 HH.out HA.out (by omega))
            rw [hY.out] at HAt
            clear z0 z1 z2 z3 f1 f3
            go_wp2_with fail
            refine HAt.out.mono ?_
            rintro r2 w3 hC
            have hC := hidden hC.out
            clear HAt
            cases Y with
            | inl p =>
              obtain ⟨f, a', rfl, h2, h3⟩ := hC.out
              have e0 : X = .inl p := by rw [← HX.out]; exact runS_stop (step_bad h40 h124 h41 hY.out)
              subst e0
              have HF := hidden (h3.a.later ((Below.refl _ _).alloc (Nat.le_refl _) (.cells (setC f) 101)))
              have H2 := hidden h2
              unfold setC at HF ⊢
              clear HX HB h40 h124 h41 HH hC h2 h3
              go_wp2
              (try rw [Exit.noGoto_ret])
              go_ret
              exact hidden ⟨rfl, a', _, _, _, _, H2.out, HF.out⟩
            | inr y =>
              obtain ⟨f, r1⟩ := y
              obtain ⟨a', rfl, h2, h3⟩ := hC.out
              have hle := set_le hY.out
              rw [List.length_cons] at hle
              have HXn : Hid (runS (afterM (l ++ [setRx f]) r1 g gs) = X) := hidden (by rw [← HX.out]; exact (runS_step (step_setR h40 h124 h41 hY.out)).symm)
              have hll : (l ++ [setRx f]).length = l.length + 1 := by simp
              have HBn : Hid (TxB s (afterM (l ++ [setRx f]) r1 g gs).cs (afterM (l ++ [setRx f]) r1 g gs).l (afterM (l ++ [setRx f]) r1 g gs).g gs) := hidden (TxB.after (by rw [hll]; omega) (by omega) (by omega) (fun x hx => by have := HB.out.each x (by simp [hx]); rw [List.length_cons] at this; omega))
              replace HH := hidden (h3.a.later ((Below.refl _ _).alloc (Nat.le_refl _) (.cells (setC f) 101)))
              have HS := hidden (Holds.new w3 101 (setC f))
              have HC := hidden h2
              clear HX HB h40 h124 h41 hC h2 h3
              unfold setC at HH HS ⊢
              go_upto_region 7 with fail
              generalize (w3.alloc (.cells #[.int .u64 (wd f 0 : Nat), .int .u64 (wd f 1 : Nat), .int .u64 (wd f 2 : Nat), .int .u64 (wd f 3 : Nat)] 101)) = w4 at *
              obtain ⟨y0, y1, y2, y3⟩ := four HS.out
              have hput : Hid (Calls Tryz.prog 99 #[.pointer (some ⟨R, 0, none⟩), .int .i64 1, .agg #[.int .u64 (wd f 0 : Nat), .int .u64 (wd f 1 : Nat), .int .u64 (wd f 2 : Nat), .int .u64 (wd f 3 : Nat)]] w4 fun r w' => r = .returned (.tuple #[]) ∧ ∃ v', Hid (RdA W0 R s a' (l ++ [setRx f]) (gs.reverse ++ [g]) v' (.slice (some ⟨b, 0, none⟩) (gs.length + 1) cap) w')) := hidden (rd_put W0 R s a' l _ vl _ (setRx f) w4 HH.out (by omega))
              go_wp2_with fail
              refine hput.out.mono ?_
              rintro r3 w5 ⟨rfl, vl5, H5⟩
              replace HH := H5
              clear hput y0 y1 y2 y3 HS H5
              have HP := hidden (rd_piece W0 R s a' (l ++ [setRx f]) gs.reverse g vl5 _ r1 w5 HH.out HC.out (by omega) (by omega) (by omega))
              go_wp2_with fail
              refine HP.out.mono ?_
              rintro r5 w8 ⟨rfl, HT⟩
              obtain ⟨a8, vl8, hA8, H8⟩ := HT.out
              clear HP HT HH
              have HA8 := hidden hA8
              have HH8 := hidden H8
              clear hA8 H8
              go_wp2_with fail
              go_roundg (afterM (l ++ [setRx f]) r1 g gs).cs.length
              case measure =>
                have hsl := signs_le r1 (l ++ [setRx f])
                rw [HG.out, List.length_cons]
                show (signsM (l ++ [setRx f]) r1).2.length < _
                omega
              case rel => exact ⟨a8, (afterM (l ++ [setRx f]) r1 g gs).cs, (afterM (l ++ [setRx f]) r1 g gs).l, (afterM (l ++ [setRx f]) r1 g gs).g, gs, vl8, _, rfl, HA8, HH8, HXn, HBn⟩
end Go.Proofs.YtfmdmeokbbpmlaaGreat

namespace Go.Proofs.YtfmdmeokbbpmlaaGreat
open Go.RowKit Go.Shelf

theorem RdA.start (w : World) (s : ByteArray) : RdA w w.heap.size s 0 [] [] (.slice none 0 0) (.slice none 0 0) (w.alloc (.cells #[.string s, .int .i64 0, .slice none 0 0, .slice none 0 0] 131)) :=
  ⟨Holds.new _ _ _, Mine.nil _ _ _ _, Mine.nil _ _ _ _, by simp [Value.ownBlock], by simp [Value.ownBlock], fun g e => by simp [Value.ownBlock] at e, fun g e => by simp [Value.ownBlock] at e, fun g e => by simp [Value.ownBlock] at e, Nat.le_refl _, (Below.refl _ _).alloc (Nat.le_refl _) _⟩
theorem readM_long {s : ByteArray} (h : 4096 < s.size) : readM (nb s) = ([], 0, 4) := by unfold readM; rw [if_pos (by rw [nb_len]; exact h)]
theorem readM_short {s : ByteArray} (h : ¬ 4096 < s.size) : readM (nb s) = match runS ⟨nb s, [], (0, 0), []⟩ with
    | .inl p => ([], s.size - p, 3)
    | .inr l => if 512 < l.length then ([], 0, 4) else (l, s.size, 0) := by
  unfold readM
  rw [if_neg (by rw [nb_len]; exact h), nb_len]
  unfold runS
  dsimp only
  rw [nb_len]
  rfl
/-- What Read hands back. -/
def ReadTo (w : World) (x : List Rx × Nat × Int) (r : Ending) (w' : World) : Prop := ∃ v, r = .returned (.tuple #[v, .int .i64 (x.2.1 : Int), .int .i64 x.2.2]) ∧ Below w.heap.size w w' ∧ Rd w' (fun k => w.heap.size ≤ k ∧ k < w'.heap.size) 5 v x.1.length (x.1.flatMap rxCells)
set_option maxRecDepth 20000 in
set_option maxHeartbeats 8000000 in
theorem rx_Read (s : ByteArray) (w : World) (hz : s.size ≤ maxLen) :
    Calls Tryz.prog 63 #[.string s] w fun r w' => Hid (ReadTo w (readM (nb s)) r w') := by
  unfold maxLen at hz
  by_cases hs : 4096 < s.size
  · rw [readM_long hs]
    have q1 : (4096 : Int) < (s.size : Int) := by omega
    clear hs
    go_enter Tryz.func63, Tryz.ntmps63
    go_wp2
    exact bodyPost_ret (v := .tuple #[.slice none 0 0, .int .i64 0, .int .i64 4]) (by simp [results, Tryz.results63, go_sem]) rfl (hidden ⟨.slice none 0 0, rfl, Below.refl _ _, Rd.nil _ _ _⟩)
  · rw [readM_short hs]
    have q1 : ¬ (4096 : Int) < (s.size : Int) := by omega
    have HT := hidden (rd_text w w.heap.size s _ _ _ (RdA.start w s) (by omega))
    obtain ⟨X, hX⟩ : ∃ X, runS ⟨nb s, [], (0, 0), []⟩ = X := ⟨_, rfl⟩
    rw [hX] at HT ⊢
    clear hX hs
    cases X with
    | inl p =>
      dsimp only
      go_enter Tryz.func63, Tryz.ntmps63
      go_wp2_with fail
      refine HT.out.mono ?_
      rintro r w2 hC
      obtain ⟨rfl, a', l, op, vl, vo, h2, h3⟩ := hC.out
      have HH := hidden h3
      have he : Hid (s.size - p = a') := hidden (by omega)
      clear hC h3 h2 HT
      obtain ⟨z0, z1, z2, z3, f1, -, f3⟩ := HH.out.cells
      go_wp2_with fail
      go_quiet (fail)
      have hbq := hidden (HH.out.below.trans ((below_drewN (Below.refl w2.heap.size w2) nq).mono HH.out.below.size))
      clear HH
      go_wp2
      exact bodyPost_ret (v := .tuple #[.slice none 0 0, .int .i64 (a' : Int), .int .i64 3]) (by simp [results, Tryz.results63, go_sem]) rfl (hidden ⟨.slice none 0 0, by dsimp only; rw [he.out], hbq.out, Rd.nil _ _ _⟩)
    | inr l =>
      dsimp only
      obtain ⟨res, hres⟩ : ∃ res, Hid ((if 512 < l.length then (([], 0, 4) : List Rx × Nat × Int) else (l, s.size, 0)) = res) := ⟨_, hidden rfl⟩
      rw [hres.out]
      go_enter Tryz.func63, Tryz.ntmps63
      go_wp2_with fail
      refine HT.out.mono ?_
      rintro r w2 hC
      obtain ⟨rfl, a', op, vl, vo, h3⟩ := hC.out
      have HH := hidden h3
      clear hC h3 HT
      obtain ⟨z0, z1, z2, z3, f1, -, f3⟩ := HH.out.cells
      have HR := hidden (Mine.rd (T := fun k => w.heap.size ≤ k ∧ k < w2.heap.size) HH.out.ml (fun g _ h1 h2 => ⟨h1, h2⟩))
      obtain ⟨A, cp, rfl, hc1, hc2⟩ := HR.out.val
      unfold maxLen at hc2
      have hbe := hidden HH.out.below
      clear HH
      by_cases hl : 512 < l.length
      · have q2 : (512 : Int) < (l.length : Int) := by omega
        rw [if_pos hl] at hres
        have e0 : res = ([], 0, 4) := hres.out.symm
        subst e0
        clear hl hres HR
        go_wp2
        exact bodyPost_ret (v := .tuple #[.slice none 0 0, .int .i64 0, .int .i64 4]) (by simp [results, Tryz.results63, go_sem]) rfl (hidden ⟨.slice none 0 0, rfl, hbe.out, Rd.nil _ _ _⟩)
      · have q2 : ¬ (512 : Int) < (l.length : Int) := by omega
        rw [if_neg hl] at hres
        have e0 : res = (l, s.size, 0) := hres.out.symm
        subst e0
        clear hl hres
        go_wp2
        exact bodyPost_ret (v := .tuple #[.slice A l.length cp, .int .i64 (s.size : Int), .int .i64 0]) (by simp [results, Tryz.results63, go_sem]) rfl (hidden ⟨.slice A l.length cp, rfl, hbe.out, HR.out⟩)
end Go.Proofs.YtfmdmeokbbpmlaaGreat
