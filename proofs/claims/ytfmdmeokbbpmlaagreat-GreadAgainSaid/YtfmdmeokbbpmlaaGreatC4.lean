/-
  The reader of rxtext: what holds of its blocks. The reader of rxtext: put, top. The reader of rxtext: what is left of its text; has; the place moves on. The reader of rxtext: the group that is open last; top, signs. The reader of rxtext: a piece is whole; a branch is whole. Letters and digits as the reader asks for them: rxtext.plain, num.value, num.Unhex. The reader of rxtext: what stands behind a backslash; a byte that is none of some.
-/
import Derived.Test.YtfmdmeokbbpmlaaGreatC2
import Derived.Test.YtfmdmeokbbpmlaaGreatC5
import Derived.Test.YtfmdmeokbbpmlaaGreatC0
import Derived.Deep.AppendLies
import Derived.Laws.OwnMore
import Derived.Deep.LoopGhost
namespace Go.Proofs.YtfmdmeokbbpmlaaGreat
open Go.RowKit Go.Shelf

/-- A text's bytes as numbers. -/
def nb (s : ByteArray) : List Nat := s.data.toList.map UInt8.toNat
theorem nb_len (s : ByteArray) : (nb s).length = s.size := by unfold nb; rw [List.length_map]; rfl
theorem nb_lt (s : ByteArray) : ∀ c ∈ nb s, c < 256 := by
  intro c hc
  obtain ⟨u, _, rfl⟩ := List.mem_map.1 hc
  exact u.toNat_lt
theorem nb_bs (l : List Nat) (h : ∀ c ∈ l, c < 256) : nb (bs l) = l := bs_nats l h
def grC (p : Nat × Nat) : List Value := [.int .i64 (p.1 : Int), .int .i64 (p.2 : Int)]
theorem gr_flat (l : List (Nat × Nat)) : (l.flatMap grC).length = l.length * 2 := by
  induction l with
  | nil => rfl
  | cons a l ih => rw [List.flatMap_cons, List.length_append, ih, List.length_cons]; simp [grC]; omega
/-- The reader's own block; its steps and its groups are its own. -/
structure RdA (W0 : World) (R : Nat) (s : ByteArray) (at_ : Nat) (l : List Rx) (op : List (Nat × Nat)) (vl vo : Value) (w : World) : Prop where
  rd : Holds w R 131 #[.string s, .int .i64 (at_ : Int), vl, vo]
  ml : Mine w W0.heap.size 103 5 vl l.length (l.flatMap rxCells)
  mo : Mine w W0.heap.size 145 2 vo op.length (op.flatMap grC)
  nl : vl.ownBlock ≠ some R
  no : vo.ownBlock ≠ some R
  lo : ∀ g, vl.ownBlock = some g → vo.ownBlock ≠ some g
  ho : ∀ g, vo.ownBlock = some g → g < w.heap.size
  hl : ∀ g, vl.ownBlock = some g → g < w.heap.size
  old : W0.heap.size ≤ R
  below : Below W0.heap.size W0 w
section
variable {W0 w w' : World} {R : Nat} {s : ByteArray} {at_ : Nat} {l : List Rx} {op : List (Nat × Nat)} {vl vo : Value}
theorem RdA.later (h : RdA W0 R s at_ l op vl vo w) (hb : Below w.heap.size w w') : RdA W0 R s at_ l op vl vo w' :=
  ⟨h.rd.below hb h.rd.lt, h.ml.below hb, h.mo.below hb, h.nl, h.no, h.lo, fun g e => Nat.lt_of_lt_of_le (h.ho g e) hb.size, fun g e => Nat.lt_of_lt_of_le (h.hl g e) hb.size, h.old, h.below.trans (hb.mono h.below.size)⟩
theorem RdA.cells (h : RdA W0 R s at_ l op vl vo w) : w.cell? ⟨R, 0, none⟩ = some (.string s) ∧ w.cell? ⟨R, 1, none⟩ = some (.int .i64 (at_ : Int)) ∧ w.cell? ⟨R, 2, none⟩ = some vl ∧ w.cell? ⟨R, 3, none⟩ = some vo ∧
    w.frozen? ⟨R, 1, none⟩ = false ∧ w.frozen? ⟨R, 2, none⟩ = false ∧ w.frozen? ⟨R, 3, none⟩ = false := ⟨h.rd.cell 0, h.rd.cell 1, h.rd.cell 2, h.rd.cell 3, h.rd.frozen 1, h.rd.frozen 2, h.rd.frozen 3⟩
/-- The place is turned. -/
theorem RdA.turn (h : RdA W0 R s at_ l op vl vo w) (n : Nat) : RdA W0 R s n l op vl vo (w.setCell ⟨R, 1, none⟩ (.int .i64 (n : Int))) :=
  ⟨h.rd.set 1 _, h.ml.set (p := ⟨R, 1, none⟩) h.nl _, h.mo.set (p := ⟨R, 1, none⟩) h.no _, h.nl, h.no, h.lo, fun g e => by rw [World.size_setCell]; exact h.ho g e, fun g e => by rw [World.size_setCell]; exact h.hl g e, h.old, h.below.setCell (p := ⟨R, 1, none⟩) h.old _⟩
/-- A step is put. -/
theorem RdA.put (h : RdA W0 R s at_ l op vl vo w) {x : Rx} {v' : Value} (hA : Appended w W0.heap.size 103 5 vl (l.length + 1) (l.flatMap rxCells ++ rxCells x) v' w') :
    RdA W0 R s at_ (l ++ [x]) op v' vo (w'.setCell ⟨R, 2, none⟩ v') := by
  have hn : v'.ownBlock ≠ some R ∧ ∀ g, v'.ownBlock = some g → vo.ownBlock ≠ some g := by
    rcases hA.at_ with e | ⟨g, e, h1, h2⟩
    · rw [e]; exact ⟨h.nl, h.lo⟩
    · refine ⟨fun e2 => ?_, fun g2 e2 e3 => ?_⟩
      · rw [e] at e2
        have := h.rd.lt
        have := Option.some.inj e2
        omega
      · rw [e] at e2
        have hg := Option.some.inj e2
        have := h.ho g2 e3
        omega
  have hv : ∀ g, v'.ownBlock = some g → g < w'.heap.size := by
    intro g e
    rcases hA.at_ with e2 | ⟨g2, e2, _, h2⟩
    · rw [e2] at e; exact Nat.lt_of_lt_of_le (h.hl g e) hA.keeps.size
    · rw [e2] at e; have := Option.some.inj e; omega
  have hk : Keeps (fun k => vl.ownBlock ≠ some k) w w' := hA.keeps
  refine ⟨?_, ?_, ?_, hn.1, h.no, hn.2, fun g e => by rw [World.size_setCell]; exact Nat.lt_of_lt_of_le (h.ho g e) hk.size, fun g e => by rw [World.size_setCell]; exact hv g e, h.old, (h.below.trans hA.below).setCell (p := ⟨R, 2, none⟩) h.old _⟩
  · exact (hk.holds h.nl h.rd).set 2 v'
  · have := hA.mine.set (p := ⟨R, 2, none⟩) hn.1 v'
    rw [List.length_append, List.flatMap_append]
    simpa [List.flatMap_cons] using this
  · exact Mine.set (p := ⟨R, 2, none⟩) (h.mo.keep (fun g e _ hg => hk.block g (fun e2 => h.lo g e2 e) hg)) h.no _
end
end Go.Proofs.YtfmdmeokbbpmlaaGreat

namespace Go.Proofs.YtfmdmeokbbpmlaaGreat
open Go.RowKit Go.Shelf

/-- APPEND, at the operation, inside a fence. -/
theorem opIn_append_all {F : Fence} {q : Nat} {P : Program} {w : World} {o : Oper} {a : Act} {K : Act → World → Prop} {Q : Exit → Act → World → Prop} (s x : Operand) (t e : TypeId)
    (ho : o.op = .call { callee := .builtin .append, args := #[s, x], argTypes := #[t, t] }) (ht : P.underlying t = some (.slice e)) {z : Value} {size bytes : Nat} (HI : Hid (TyInfo P e z size bytes)) (hzs : z.cells.size = size) (hsz : 0 < size)
    (base : Nat) (v : Value) (n : Nat) (xs : List Value) (HM : Hid (Mine w base e size v n xs)) {T : Nat → Prop} (y : Value) (m : Nat) (news : List Value) (HX : Hid (Rd w T size y m news)) (H1 : Hid (∀ u ∈ news, u.oneCell' = true))
    (hs : a.eval s = v) (hx : a.eval x = y) (hbytes : (n + m) * bytes ≤ 140737488355328) (hb1 : 0 < bytes) (hb : base ≤ w.heap.size)
    (h : ∀ v' w', Hid (Appended w base e size v (n + m) (xs ++ news) v' w') → K (a.put o.dst v') w') : o.wpIn F q P a w K Q := by
  obtain ⟨i, hi, hz, hs', hby⟩ := HI.out
  obtain ⟨v', w', hrun, h2⟩ := run_append_rd (P := P) (w := w) base t o.type e i z size bytes ht hi hz hs' hby hzs hsz v n xs HM.out y m news HX.out H1.out hbytes hb1 hb
  unfold Oper.wpIn
  refine ⟨?_, ?_⟩
  · simp [Oper.about, ho, resolve, Target.leads, Sem.run_pure]
  · rw [Oper.semAt_plain F _ _ (by rw [ho]; intro c hc'; cases hc')]
    simp [execOp, ho, resolve, invoke, builtin, hs, hx, hrun, Result.andThen]
    exact h v' w' (hidden h2)
theorem rx_info : Hid (TyInfo Tryz.prog 103 (.agg #[.int .i64 0, .int .u64 0, .int .u64 0, .int .u64 0, .int .u64 0]) 5 40) := hidden (info_parts (show (Tryz.prog.info? 103).map (fun i => (i.zero, i.size, i.bytes)) = some (some (.agg #[.int .i64 0, .int .u64 0, .int .u64 0, .int .u64 0, .int .u64 0]), 5, 40) by kernel_rfl))
theorem rx_ones (x : Rx) : Hid (∀ u ∈ rxCells x, u.oneCell' = true) := hidden (fun u hu => by
  unfold rxCells at hu
  simp at hu
  rcases hu with rfl | rfl | rfl | rfl | rfl <;> rfl)
set_option maxRecDepth 20000 in
set_option maxHeartbeats 8000000 in
theorem rd_put (W0 : World) (R : Nat) (s : ByteArray) (at_ : Nat) (l : List Rx) (op : List (Nat × Nat)) (vl vo : Value) (x : Rx) (W : World) (H : RdA W0 R s at_ l op vl vo W) (hl : l.length ≤ 100000) :
    Calls Tryz.prog 99 #[.pointer (some ⟨R, 0, none⟩), .int .i64 x.kind, .agg #[.int .u64 x.s0, .int .u64 x.s1, .int .u64 x.s2, .int .u64 x.s3]] W fun r w' => r = .returned (.tuple #[]) ∧ ∃ v', Hid (RdA W0 R s at_ (l ++ [x]) op v' vo w') := by
  have HH := hidden (H.later ((Below.refl _ _).alloc (Nat.le_refl _) (.cells #[.int .u64 x.s0, .int .u64 x.s1, .int .u64 x.s2, .int .u64 x.s3] 101)))
  have HS := hidden (Holds.new W 101 #[.int .u64 x.s0, .int .u64 x.s1, .int .u64 x.s2, .int .u64 x.s3])
  have hvl : vl.ownBlock ≠ some W.heap.size := fun e => absurd (H.hl _ e) (by omega)
  clear H
  go_enter Tryz.func99, Tryz.ntmps99
  go_upto_region 1 with fail
  generalize (W.alloc (.cells #[.int .u64 x.s0, .int .u64 x.s1, .int .u64 x.s2, .int .u64 x.s3] 101)) = w1 at *
  generalize W.heap.size = q at *
  have HHd := hidden (HH.out.later (Below.drew (Below.refl _ _)))
  have HSd : Hid (Holds w1.drew q 101 #[.int .u64 x.s0, .int .u64 x.s1, .int .u64 x.s2, .int .u64 x.s3]) := hidden HS.out
  have hba := hidden ((Below.refl w1.drew.heap.size w1.drew).alloc (Nat.le_refl _) (.cells #[.int .i64 x.kind, .int .u64 x.s0, .int .u64 x.s1, .int .u64 x.s2, .int .u64 x.s3] 103))
  have HH2 := hidden (HHd.out.later hba.out)
  have HS2 := hidden (HSd.out.below hba.out HSd.out.lt)
  have hx1 := rx_ones x
  have hsz : W0.heap.size ≤ (w1.drew.alloc (.cells #[.int .i64 x.kind, .int .u64 x.s0, .int .u64 x.s1, .int .u64 x.s2, .int .u64 x.s3] 103)).heap.size := HH2.out.below.size
  have HX : Hid (Rd (w1.drew.alloc (.cells #[.int .i64 x.kind, .int .u64 x.s0, .int .u64 x.s1, .int .u64 x.s2, .int .u64 x.s3] 103)) (fun _ => True) 5 (.slice (some ⟨w1.drew.heap.size, 0, none⟩) 1 1) 1 (rxCells x)) := hidden (Rd.fresh (cs := rxCells x) (n := 1) (size := 5) rfl (Nat.le_refl _) (by decide) trivial rfl)
  have HM := hidden HH2.out.ml
  have five : ∀ w' : World, Holds w' q 101 #[.int .u64 x.s0, .int .u64 x.s1, .int .u64 x.s2, .int .u64 x.s3] → RdA W0 R s at_ l op vl vo w' → w'.cell? ⟨R, 2, none⟩ = some vl ∧ w'.cell? ⟨q, 0, none⟩ = some (.int .u64 x.s0) ∧ w'.cell? ⟨q, 1, none⟩ = some (.int .u64 x.s1) ∧ w'.cell? ⟨q, 2, none⟩ = some (.int .u64 x.s2) ∧ w'.cell? ⟨q, 3, none⟩ = some (.int .u64 x.s3) :=
    fun w' h1 h2 => ⟨h2.rd.cell 2, h1.cell 0, h1.cell 1, h1.cell 2, h1.cell 3⟩
  have FIV := hidden five
  clear five
  have hCd := FIV.out _ HSd.out HHd.out
  refine (wpIn_wide (n := 5)).1 ?_
  refine wpIn_region_take (fun w' => w'.cell? ⟨R, 2, none⟩ = some vl ∧ w'.cell? ⟨q, 0, none⟩ = some (.int .u64 x.s0) ∧ w'.cell? ⟨q, 1, none⟩ = some (.int .u64 x.s1) ∧ w'.cell? ⟨q, 2, none⟩ = some (.int .u64 x.s2) ∧ w'.cell? ⟨q, 3, none⟩ = some (.int .u64 x.s3)) 11 (by kernel_rfl) ?_
  refine take_read (i := 0) (v := ?_) (by kernel_rfl) (by rfl) rfl (by rfl) (by kernel_rfl) (by kernel_rfl) (fun _ _ _ h => h) hCd ⟨Or.inl ⟨by rfl, fun wv hw => ?_⟩, fun _ => rfl⟩ ?_
  rotate_left
  · obtain ⟨r0, r1, r2, r3, r4⟩ := hw
    go_simp
    try rfl
  refine take_read (i := 1) (v := ?_) (by kernel_rfl) (by rfl) rfl (by rfl) (by kernel_rfl) (by kernel_rfl) (fun _ _ _ h => h) hCd ⟨Or.inl ⟨by rfl, fun wv hw => ?_⟩, fun _ => rfl⟩ ?_
  rotate_left
  · obtain ⟨r0, r1, r2, r3, r4⟩ := hw
    go_simp
    try rfl
  refine take_read (i := 2) (v := ?_) (by kernel_rfl) (by rfl) rfl (by rfl) (by kernel_rfl) (by kernel_rfl) (fun _ _ _ h => h) hCd ⟨Or.inl ⟨by rfl, fun wv hw => ?_⟩, fun _ => rfl⟩ ?_
  rotate_left
  · obtain ⟨r0, r1, r2, r3, r4⟩ := hw
    go_simp
    try rfl
  refine take_read (i := 3) (v := ?_) (by kernel_rfl) (by rfl) rfl (by rfl) (by kernel_rfl) (by kernel_rfl) (fun _ _ _ h => h) hCd ⟨Or.inl ⟨by rfl, fun wv hw => ?_⟩, fun _ => rfl⟩ ?_
  rotate_left
  · obtain ⟨r0, r1, r2, r3, r4⟩ := hw
    go_simp
    try rfl
  refine take_read (i := 4) (v := ?_) (by kernel_rfl) (by rfl) rfl (by rfl) (by kernel_rfl) (by kernel_rfl) (fun _ _ _ h => h) hCd ⟨Or.inl ⟨by rfl, fun wv hw => ?_⟩, fun _ => rfl⟩ ?_
  rotate_left
  · obtain ⟨r0, r1, r2, r3, r4⟩ := hw
    go_simp
    try rfl
  refine take_read (i := 5) (v := ?_) (by kernel_rfl) (by rfl) rfl (by rfl) (by kernel_rfl) (by kernel_rfl) (fun _ _ _ h => h) hCd ⟨Or.inl ⟨by rfl, fun wv hw => ?_⟩, fun _ => rfl⟩ ?_
  rotate_left
  · obtain ⟨r0, r1, r2, r3, r4⟩ := hw
    go_simp
    try rfl
  refine take_read (i := 6) (v := ?_) (by kernel_rfl) (by rfl) rfl (by rfl) (by kernel_rfl) (by kernel_rfl) (fun _ _ _ h => h) hCd ⟨Or.inl ⟨by rfl, fun wv hw => ?_⟩, fun _ => rfl⟩ ?_
  rotate_left
  · obtain ⟨r0, r1, r2, r3, r4⟩ := hw
    go_simp
    try rfl
  refine take_read (i := 7) (v := ?_) (by kernel_rfl) (by rfl) rfl (by rfl) (by kernel_rfl) (by kernel_rfl) (fun _ _ _ h => h) hCd ⟨Or.inl ⟨by rfl, fun wv hw => ?_⟩, fun _ => rfl⟩ ?_
  rotate_left
  · obtain ⟨r0, r1, r2, r3, r4⟩ := hw
    go_simp
    try rfl
  refine take_only (i := 8) (by kernel_rfl) rfl rfl (by rfl) (fun K hK => ?_)
  go_simp
  refine hK _ _ (FIV.out _ HS2.out HH2.out) ?_
  clear hK K
  refine take_only (i := 9) (by kernel_rfl) rfl rfl (by rfl) (fun K hK => ?_)
  refine opIn_append_all _ _ 39 103 rfl (by kernel_rfl) rx_info rfl (by decide) W0.heap.size vl l.length (l.flatMap rxCells) HM _ 1 (rxCells x) HX hx1 rfl rfl (by omega) (by decide) hsz ?_
  intro v' w' hA
  obtain ⟨A9, c9, rfl⟩ := hA.out.mine.value
  have hk := hA.out.keeps
  have hr := hk.holds HH2.out.nl HH2.out.rd
  have hq := hk.holds hvl HS2.out
  have hF : w'.cell? ⟨R, 2, none⟩ = some vl ∧ w'.cell? ⟨q, 0, none⟩ = some (.int .u64 x.s0) ∧ w'.cell? ⟨q, 1, none⟩ = some (.int .u64 x.s1) ∧ w'.cell? ⟨q, 2, none⟩ = some (.int .u64 x.s2) ∧ w'.cell? ⟨q, 3, none⟩ = some (.int .u64 x.s3) := ⟨hr.cell 2, hq.cell 0, hq.cell 1, hq.cell 2, hq.cell 3⟩
  refine hK _ _ hF ?_
  clear hK K
  have zf := hr.frozen 2
  have y2 := hr.cell 2
  refine take_read (i := 10) (v := ?_) (by kernel_rfl) (by rfl) rfl (by rfl) (by kernel_rfl) (by kernel_rfl) (fun _ _ _ h => h) hF ⟨Or.inl ⟨by rfl, fun wv hw => ?_⟩, fun _ => rfl⟩ ?_
  rotate_left
  · clear hw
    go_simp
    try rfl
  refine take_tail (by kernel_rfl) (by kernel_rfl) ?_
  simp only [List.drop_succ_cons, List.drop_zero]
  have HP := hidden (HH2.out.put (x := x) hA.out)
  clear hF hA hCd
  gi_wp2
  refine ⟨rfl, .tuple #[], ?_, rfl, _, HP⟩
  simp [results, Tryz.results99, go_sem]
end Go.Proofs.YtfmdmeokbbpmlaaGreat

namespace Go.Proofs.YtfmdmeokbbpmlaaGreat
open Go.RowKit Go.Shelf

/-- From the place a on the text s reads cs. -/
def AtS (s : ByteArray) (a : Nat) (cs : List Nat) : Prop := a ≤ s.size ∧ (nb s).drop a = cs
theorem AtS.size {s : ByteArray} {a : Nat} {cs : List Nat} (h : AtS s a cs) : a + cs.length = s.size := by
  have h2 := congrArg List.length h.2
  have h1 := h.1
  rw [List.length_drop, nb_len] at h2
  omega
theorem AtS.nil {s : ByteArray} {a : Nat} (h : AtS s a []) : a = s.size := by have := h.size; simpa using this
theorem nb_get (s : ByteArray) {k : Nat} (h : k < s.size) : (nb s)[k]? = some (s[k]'h).toNat := by
  unfold nb
  rw [List.getElem?_map, data_get s h]
  rfl
theorem AtS.cons {s : ByteArray} {a c : Nat} {r : List Nat} (h : AtS s a (c :: r)) : ∃ hk : a < s.size, (s[a]'hk).toNat = c ∧ AtS s (a + 1) r := by
  have hs := h.size
  rw [List.length_cons] at hs
  have hk : a < s.size := by omega
  refine ⟨hk, ?_, by omega, ?_⟩
  · have h1 : ((nb s).drop a)[0]? = some c := by rw [h.2]; rfl
    rw [List.getElem?_drop, Nat.add_zero, nb_get s hk] at h1
    exact Option.some.inj h1
  · rw [← List.drop_drop, h.2]
    rfl
theorem AtS.start (s : ByteArray) : AtS s 0 (nb s) := ⟨Nat.zero_le _, rfl⟩
theorem AtS.lt {s : ByteArray} {a c : Nat} {r : List Nat} (h : AtS s a (c :: r)) : c < 256 := by
  obtain ⟨hk, e, _⟩ := h.cons
  rw [← e]
  exact UInt8.toNat_lt _

set_option maxRecDepth 20000 in
set_option maxHeartbeats 4000000 in
theorem rd_has (W0 : World) (R : Nat) (s : ByteArray) (a : Nat) (l : List Rx) (op : List (Nat × Nat)) (vl vo : Value) (c : Nat) (cs : List Nat) (W : World) (H : RdA W0 R s a l op vl vo W) (hA : AtS s a cs) :
    Calls Tryz.prog 132 #[.pointer (some ⟨R, 0, none⟩), .int .u8 (c : Int)] W fun r w' => r = .returned (.bool (decide (cs.head? = some c))) ∧ Below W.heap.size W w' := by
  obtain ⟨z0, z1, -, -, -, -, -⟩ := H.cells
  clear H
  cases cs with
  | nil =>
    have hn := hA.nil
    subst hn
    clear hA
    have q1 : ¬ (s.size : Int) < (s.size : Int) := by omega
    have q2 : ¬ s.size < s.size := by omega
    go_enter Tryz.func132, Tryz.ntmps132
    go_wp2_with fail
    go_quiet (fail)
    go_wp2
    go_ret
    exact ⟨rfl, (by repeat (first | (with_reducible exact Below.refl _ _) | (with_reducible assumption) | (with_reducible refine Below.drew ?_) | (with_reducible refine below_drewN ?_ _) | ((with_reducible refine below_alloc ?_ ?_); (focus (first | omega | (simp; done) | (simp; omega)))) | ((with_reducible refine below_set ?_ ?_); (focus (first | omega | (simp; done) | (simp; omega))))))⟩
  | cons d r =>
    obtain ⟨hk, e, -⟩ := hA.cons
    clear hA
    have q1 : (a : Int) < (s.size : Int) := by omega
    have q3 : (0 : Int) ≤ (a : Int) := by omega
    by_cases hd : d = c
    · have q2 : ((s[a].toNat : Int) == (c : Int)) = true := beq_iff_eq.2 (by omega)
      rw [show decide ((d :: r).head? = some c) = true by rw [hd]; simp]
      clear hd e
      go_enter Tryz.func132, Tryz.ntmps132
      go_wp2_with fail
      go_quiet (fail)
      go_wp2
      go_ret
      exact ⟨rfl, (by repeat (first | (with_reducible exact Below.refl _ _) | (with_reducible assumption) | (with_reducible refine Below.drew ?_) | (with_reducible refine below_drewN ?_ _) | ((with_reducible refine below_alloc ?_ ?_); (focus (first | omega | (simp; done) | (simp; omega)))) | ((with_reducible refine below_set ?_ ?_); (focus (first | omega | (simp; done) | (simp; omega))))))⟩
    · have q2 : ((s[a].toNat : Int) == (c : Int)) = false := beq_eq_false_iff_ne.2 (by omega)
      rw [show decide ((d :: r).head? = some c) = false by simpa using hd]
      clear hd e
      go_enter Tryz.func132, Tryz.ntmps132
      go_wp2_with fail
      go_quiet (fail)
      go_wp2
      go_ret
      exact ⟨rfl, (by repeat (first | (with_reducible exact Below.refl _ _) | (with_reducible assumption) | (with_reducible refine Below.drew ?_) | (with_reducible refine below_drewN ?_ _) | ((with_reducible refine below_alloc ?_ ?_); (focus (first | omega | (simp; done) | (simp; omega)))) | ((with_reducible refine below_set ?_ ?_); (focus (first | omega | (simp; done) | (simp; omega))))))⟩
end Go.Proofs.YtfmdmeokbbpmlaaGreat

namespace Go.Proofs.YtfmdmeokbbpmlaaGreat
open Go.RowKit Go.Shelf

theorem rd_flat_last (gs : List (Nat × Nat)) (g : Nat × Nat) : (gs ++ [g]).flatMap grC = gs.flatMap grC ++ [.int .i64 (g.1 : Int), .int .i64 (g.2 : Int)] := by
  rw [List.flatMap_append]; rfl
section
variable {W0 w w' : World} {R : Nat} {s : ByteArray} {at_ : Nat} {l : List Rx} {gs : List (Nat × Nat)} {g : Nat × Nat} {vl vo : Value}
/-- Where the last group lies. -/
structure TopAt (W0 : World) (R : Nat) (gs : List (Nat × Nat)) (g : Nat × Nat) (vo : Value) (b cap : Nat) (w : World) : Prop where
  val : vo = .slice (some ⟨b, 0, none⟩) (gs.length + 1) cap
  c0 : w.cell? ⟨b, gs.length * 2, none⟩ = some (.int .i64 (g.1 : Int))
  c1 : w.cell? ⟨b, gs.length * 2 + 1, none⟩ = some (.int .i64 (g.2 : Int))
  fr : ∀ j, w.frozen? ⟨b, j, none⟩ = false
  ne : b ≠ R
  old : W0.heap.size ≤ b
  lt : b < w.heap.size
  room : gs.length < cap
  most : cap ≤ maxLen
theorem RdA.top (h : RdA W0 R s at_ l (gs ++ [g]) vl vo w) : ∃ b cap, TopAt W0 R gs g vo b cap w := by
  have ho := h.mo.own (by simp)
  rw [rd_flat_last, List.length_append, List.length_singleton] at ho
  have hl := gr_flat gs
  have ho2 := ho
  obtain ⟨_, h2⟩ := ho2
  rcases h2 with ⟨_, h0⟩ | ⟨b, cap, cur, rfl, hb, hg, hn, hc, _⟩
  · omega
  · have hlt := (Array.getElem?_eq_some_iff.1 hg).1
    refine ⟨b, cap, rfl, ?_, ?_, fun j => ho.frozenAt j, fun e => h.no (by rw [e]; rfl), hb, hlt, by omega, hc⟩
    · rw [ho.cellAt _ (by omega), List.getElem?_append_right (by omega), hl, Nat.sub_self]; rfl
    · rw [ho.cellAt _ (by omega), List.getElem?_append_right (by omega), hl, show gs.length * 2 + 1 - gs.length * 2 = 1 by omega]; rfl
theorem set_last0 (gs : List (Nat × Nat)) (g : Nat × Nat) (n : Nat) : ((gs ++ [g]).flatMap grC).set (gs.length * 2) (.int .i64 (n : Int)) = (gs ++ [(n, g.2)]).flatMap grC := by
  rw [rd_flat_last, rd_flat_last, List.set_append_right _ _ (by rw [gr_flat]; exact Nat.le_refl _), gr_flat, Nat.sub_self]; rfl
theorem set_last1 (gs : List (Nat × Nat)) (g : Nat × Nat) (n : Nat) : ((gs ++ [g]).flatMap grC).set (gs.length * 2 + 1) (.int .i64 (n : Int)) = (gs ++ [(g.1, n)]).flatMap grC := by
  rw [rd_flat_last, rd_flat_last, List.set_append_right _ _ (by rw [gr_flat]; omega), gr_flat, show gs.length * 2 + 1 - gs.length * 2 = 1 by omega]; rfl
theorem RdA.store {b cap j : Nat} {u : Value} {op op' : List (Nat × Nat)} (h : RdA W0 R s at_ l op vl vo w) (hv : vo = .slice (some ⟨b, 0, none⟩) op.length cap) (h0 : 0 < op.length) (hl : op'.length = op.length)
    (he : (op.flatMap grC).set j u = op'.flatMap grC) (hb : W0.heap.size ≤ b) : RdA W0 R s at_ l op' vl vo (w.setCell ⟨b, j, none⟩ u) := by
  have hno : b ≠ R := fun e => h.no (by rw [hv, e]; rfl)
  have hlo : vl.ownBlock ≠ some b := fun e => h.lo b e (by rw [hv]; rfl)
  refine ⟨h.rd.far (p := ⟨b, j, none⟩) (fun e => hno e.symm) _, h.ml.set (p := ⟨b, j, none⟩) hlo _, ?_, h.nl, h.no, h.lo, fun g e => by rw [World.size_setCell]; exact h.ho g e, fun g e => by rw [World.size_setCell]; exact h.hl g e, h.old, h.below.setCell (p := ⟨b, j, none⟩) hb _⟩
  have ho := h.mo.own h0
  rw [hv] at ho ⊢
  have := (ho.stored j u).1
  rw [he] at this
  rw [hl]
  exact .inl this
theorem RdA.set0 {b cap : Nat} (h : RdA W0 R s at_ l (gs ++ [g]) vl vo w) (ht : TopAt W0 R gs g vo b cap w) (n : Nat) : RdA W0 R s at_ l (gs ++ [(n, g.2)]) vl vo (w.setCell ⟨b, gs.length * 2, none⟩ (.int .i64 (n : Int))) :=
  h.store (cap := cap) (by rw [ht.val]; simp) (by simp) (by simp) (set_last0 gs g n) ht.old
theorem RdA.set1 {b cap : Nat} (h : RdA W0 R s at_ l (gs ++ [g]) vl vo w) (ht : TopAt W0 R gs g vo b cap w) (n : Nat) : RdA W0 R s at_ l (gs ++ [(g.1, n)]) vl vo (w.setCell ⟨b, gs.length * 2 + 1, none⟩ (.int .i64 (n : Int))) :=
  h.store (cap := cap) (by rw [ht.val]; simp) (by simp) (by simp) (set_last1 gs g n) ht.old
end

set_option maxRecDepth 20000 in
set_option maxHeartbeats 4000000 in
theorem rd_top (R b m cap : Nat) (c0 c1 c2 : Value) (W : World) (H : Holds W R 131 #[c0, c1, c2, .slice (some ⟨b, 0, none⟩) (m + 1) cap]) (hm : m < cap) (hc : cap ≤ maxLen) :
    Calls Tryz.prog 116 #[.pointer (some ⟨R, 0, none⟩)] W fun r w' => r = .returned (.pointer (some ⟨b, m * 2, none⟩)) ∧ Below W.heap.size W w' := by
  have z3 := H.cell 3
  replace z3 : W.cell? ⟨R, 3, none⟩ = some (.slice (some ⟨b, 0, none⟩) (m + 1) cap) := z3
  unfold maxLen at hc
  have q1 : (0 : Int) ≤ (m : Int) := by omega
  have q2 : (m : Int) < (m : Int) + 1 := by omega
  have q3 : (m : Int) ≤ 9223372036854775807 := by omega
  clear H
  go_enter Tryz.func116, Tryz.ntmps116
  go_wp2_with fail
  go_quiet (fail)
  go_wp2
  go_ret
  exact ⟨rfl, (by repeat (first | (with_reducible exact Below.refl _ _) | (with_reducible assumption) | (with_reducible refine Below.drew ?_) | (with_reducible refine below_drewN ?_ _) | ((with_reducible refine below_alloc ?_ ?_); (focus (first | omega | (simp; done) | (simp; omega)))) | ((with_reducible refine below_set ?_ ?_); (focus (first | omega | (simp; done) | (simp; omega))))))⟩

theorem rep_cases (c : Nat) : (c = 42 ∧ repOf c = some .star) ∨ (c = 43 ∧ repOf c = some .plus) ∨ (c = 63 ∧ repOf c = some .opt) ∨ (c ≠ 42 ∧ c ≠ 43 ∧ c ≠ 63 ∧ repOf c = none) := by
  unfold repOf
  by_cases h1 : c = 42
  · exact .inl ⟨h1, by rw [if_pos h1]⟩
  · by_cases h2 : c = 43
    · exact .inr (.inl ⟨h2, by rw [if_neg h1, if_pos h2]⟩)
    · by_cases h3 : c = 63
      · exact .inr (.inr (.inl ⟨h3, by rw [if_neg h1, if_neg h2, if_pos h3]⟩))
      · exact .inr (.inr (.inr ⟨h1, h2, h3, by rw [if_neg h1, if_neg h2, if_neg h3]⟩))
theorem signs_some {l : List Rx} {c : Nat} {r : List Nat} {k : Rep} (h : repOf c = some k) : signsM l (c :: r) = signsM (l ++ [opRx k.num]) r := by rw [signsM, h]
theorem signs_noneR {l : List Rx} {c : Nat} {r : List Nat} (h : repOf c = none) : signsM l (c :: r) = (l, c :: r) := by rw [signsM, h]
theorem signs_len : ∀ (cs : List Nat) (l : List Rx), (signsM l cs).1.length + (signsM l cs).2.length ≤ l.length + cs.length := by
  intro cs
  induction cs with
  | nil => intro l; exact Nat.le_refl _
  | cons c r ih =>
    intro l
    cases h : repOf c with
    | none => rw [signs_noneR h]; exact Nat.le_refl _
    | some k =>
      rw [signs_some h]
      have := ih (l ++ [opRx k.num])
      rw [List.length_append, List.length_singleton] at this
      rw [List.length_cons]
      omega
theorem rd_putK (W0 : World) (R : Nat) (s : ByteArray) (at_ : Nat) (l : List Rx) (op : List (Nat × Nat)) (vl vo : Value) (k : Int) (W : World) (H : RdA W0 R s at_ l op vl vo W) (hl : l.length ≤ 100000) :
    Calls Tryz.prog 99 #[.pointer (some ⟨R, 0, none⟩), .int .i64 k, .agg #[.int .u64 0, .int .u64 0, .int .u64 0, .int .u64 0]] W fun r w' => r = .returned (.tuple #[]) ∧ ∃ v', Hid (RdA W0 R s at_ (l ++ [opRx k]) op v' vo w') := rd_put W0 R s at_ l op vl vo (opRx k) W H hl
/-- What the reader's inner functions leave: another place, other steps. -/
def RdTo (W0 : World) (R : Nat) (s : ByteArray) (l : List Rx) (cs : List Nat) (op : List (Nat × Nat)) (vo : Value) (w' : World) : Prop := ∃ a' vl', AtS s a' cs ∧ RdA W0 R s a' l op vl' vo w'
set_option maxRecDepth 20000 in
set_option maxHeartbeats 8000000 in
theorem rd_signs (W0 : World) (R : Nat) (s : ByteArray) (a : Nat) (l : List Rx) (op : List (Nat × Nat)) (vl vo : Value) (cs : List Nat) (W : World) (H : RdA W0 R s a l op vl vo W) (hA : AtS s a cs) (hs : s.size ≤ 5000) (hl : l.length ≤ 50000) :
    Calls Tryz.prog 121 #[.pointer (some ⟨R, 0, none⟩)] W fun r w' => r = .returned (.tuple #[]) ∧ Hid (RdTo W0 R s (signsM l cs).1 (signsM l cs).2 op vo w') := by
  obtain ⟨res, HE⟩ : ∃ res, Hid (signsM l cs = res) := ⟨_, hidden rfl⟩
  rw [HE.out]
  have hcs : cs.length ≤ 5000 := by have := hA.size; omega
  have HH := hidden H
  have HAt := hidden hA
  clear H hA
  go_enter Tryz.func121, Tryz.ntmps121
  go_wp2
  go_loopg [20] cs.length (fun gh _ wr => ∃ (a : Nat) (l : List Rx) (vl : Value) (cs : List Nat), gh = cs.length ∧ Hid (signsM l cs = res) ∧ l.length + cs.length ≤ 55000 ∧ Hid (AtS s a cs) ∧ Hid (RdA W0 R s a l op vl vo wr))
  case atStart => exact ⟨a, l, vl, cs, rfl, HE, by omega, HAt, HH⟩
  case round =>
    clear HE HAt HH hcs hl
    obtain ⟨a, l, vl, cs, hgk, HE, hlen, HAt, HH⟩ := hrel
    have HG := hidden hgk
    clear hgk
    obtain ⟨z0, z1, -, -, f1, -, -⟩ := HH.out.cells
    have hq := HAt.out.size
    cases cs with
    | nil =>
      have hn := HAt.out.nil
      have q1 : ¬ (a : Int) < (s.size : Int) := by omega
      have e0 : res = (l, []) := by rw [← HE.out, signsM]
      subst e0
      clear hn
      go_wp2_with fail
      go_quiet (fail)
      replace HH := hidden (HH.out.later (below_drewN (Below.refl _ _) nq))
      clear z0 z1 f1
      generalize wr.drewN nq = w1 at *
      obtain ⟨z0, z1, -, -, f1, -, -⟩ := HH.out.cells
      have HT : Hid (RdTo W0 R s l [] op vo w1) := hidden ⟨a, vl, HAt.out, HH.out⟩
      clear HE HAt HH
      go_wp2
      refine ⟨rfl, .tuple #[], ?_, rfl, HT⟩
      simp [results, Tryz.results121, go_sem]
    | cons c r =>
      obtain ⟨hk, ec, hA1⟩ := HAt.out.cons
      have q1 : (a : Int) < (s.size : Int) := by omega
      have q3 : (0 : Int) ≤ (a : Int) := by omega
      go_wp2_with fail
      go_quiet (fail)
      replace HH := hidden (HH.out.later (below_drewN (Below.refl _ _) nq))
      clear z0 z1 f1
      generalize wr.drewN nq = w1 at *
      obtain ⟨z0, z1, -, -, f1, -, -⟩ := HH.out.cells
      go_wp2_with fail
      go_quiet (fail)
      replace HH := hidden (HH.out.later (below_drewN (Below.refl _ _) nq))
      clear z0 z1 f1
      generalize w1.drewN nq = w2 at *
      obtain ⟨z0, z1, -, -, f1, -, -⟩ := HH.out.cells
      have hlr : r.length + 1 = (c :: r).length := rfl
      have hput := hidden (fun k => rd_putK W0 R s a l op vl vo k w2 HH.out (by omega))
      rcases rep_cases c with ⟨h1, h2⟩ | ⟨h1, h2⟩ | ⟨h1, h2⟩ | ⟨h1, h3, h4, h2⟩
      · have p1 : ((c : Int) == 42) = true := beq_iff_eq.2 (by omega)
        have HS2 : Hid (signsM (l ++ [opRx 5]) r = res) := hidden (by rw [← HE.out, signs_some h2]; rfl)
        have HGk : Hid (r.length < gk) := hidden (by rw [HG.out]; exact Nat.lt_succ_self _)
        have HA1 := hidden hA1
        have hlen2 : Hid ((l ++ [opRx 5]).length + r.length ≤ 55000) := hidden (by rw [List.length_append, List.length_singleton]; rw [List.length_cons] at hlen; omega)
        clear HE HAt hA1 h1 h2 hq HG hlen hlr
        go_wp2_with fail
        refine (hput.out 5).mono ?_
        rintro r1 w3 ⟨rfl, v3, HH3⟩
        clear hput HH z0 z1 f1
        obtain ⟨z0, z1, -, -, f1, -, -⟩ := HH3.out.cells
        have HH4 := hidden (HH3.out.turn (a + 1))
        clear HH3
        have q4 : (a : Int) + 1 ≤ 9223372036854775807 := by omega
        go_wp2
        go_roundg r.length
        case measure => exact HGk.out
        case rel => exact ⟨a + 1, _, _, r, rfl, HS2, hlen2.out, HA1, HH4⟩
      · have p1 : ((c : Int) == 42) = false := beq_eq_false_iff_ne.2 (by omega)
        have p2 : ((c : Int) == 43) = true := beq_iff_eq.2 (by omega)
        have HS2 : Hid (signsM (l ++ [opRx 6]) r = res) := hidden (by rw [← HE.out, signs_some h2]; rfl)
        have HGk : Hid (r.length < gk) := hidden (by rw [HG.out]; exact Nat.lt_succ_self _)
        have HA1 := hidden hA1
        have hlen2 : Hid ((l ++ [opRx 6]).length + r.length ≤ 55000) := hidden (by rw [List.length_append, List.length_singleton]; rw [List.length_cons] at hlen; omega)
        clear HE HAt hA1 h1 h2 hq HG hlen hlr
        go_wp2_with fail
        refine (hput.out 6).mono ?_
        rintro r1 w3 ⟨rfl, v3, HH3⟩
        clear hput HH z0 z1 f1
        obtain ⟨z0, z1, -, -, f1, -, -⟩ := HH3.out.cells
        have HH4 := hidden (HH3.out.turn (a + 1))
        clear HH3
        have q4 : (a : Int) + 1 ≤ 9223372036854775807 := by omega
        go_wp2
        go_roundg r.length
        case measure => exact HGk.out
        case rel => exact ⟨a + 1, _, _, r, rfl, HS2, hlen2.out, HA1, HH4⟩
      · have p1 : ((c : Int) == 42) = false := beq_eq_false_iff_ne.2 (by omega)
        have p2 : ((c : Int) == 43) = false := beq_eq_false_iff_ne.2 (by omega)
        have p3 : ((c : Int) == 63) = true := beq_iff_eq.2 (by omega)
        have HS2 : Hid (signsM (l ++ [opRx 7]) r = res) := hidden (by rw [← HE.out, signs_some h2]; rfl)
        have HGk : Hid (r.length < gk) := hidden (by rw [HG.out]; exact Nat.lt_succ_self _)
        have HA1 := hidden hA1
        have hlen2 : Hid ((l ++ [opRx 7]).length + r.length ≤ 55000) := hidden (by rw [List.length_append, List.length_singleton]; rw [List.length_cons] at hlen; omega)
        clear HE HAt hA1 h1 h2 hq HG hlen hlr
        go_wp2_with fail
        refine (hput.out 7).mono ?_
        rintro r1 w3 ⟨rfl, v3, HH3⟩
        clear hput HH z0 z1 f1
        obtain ⟨z0, z1, -, -, f1, -, -⟩ := HH3.out.cells
        have HH4 := hidden (HH3.out.turn (a + 1))
        clear HH3
        have q4 : (a : Int) + 1 ≤ 9223372036854775807 := by omega
        go_wp2
        go_roundg r.length
        case measure => exact HGk.out
        case rel => exact ⟨a + 1, _, _, r, rfl, HS2, hlen2.out, HA1, HH4⟩
      · have p1 : ((c : Int) == 42) = false := beq_eq_false_iff_ne.2 (by omega)
        have p2 : ((c : Int) == 43) = false := beq_eq_false_iff_ne.2 (by omega)
        have p3 : ((c : Int) == 63) = false := beq_eq_false_iff_ne.2 (by omega)
        have e0 : res = (l, c :: r) := by rw [← HE.out, signs_noneR h2]
        subst e0
        have HT : Hid (RdTo W0 R s l (c :: r) op vo w2) := hidden ⟨a, vl, HAt.out, HH.out⟩
        clear HE HAt HH hA1 h1 h2 h3 h4 hq HG hlen hput hlr
        go_wp2
        refine ⟨rfl, .tuple #[], ?_, rfl, HT⟩
        simp [results, Tryz.results121, go_sem]
end Go.Proofs.YtfmdmeokbbpmlaaGreat

namespace Go.Proofs.YtfmdmeokbbpmlaaGreat
open Go.RowKit Go.Shelf

theorem RdA.topAt {W0 w : World} {R : Nat} {s : ByteArray} {at_ : Nat} {l : List Rx} {gs : List (Nat × Nat)} {g : Nat × Nat} {vl : Value} {b cap : Nat} (h : RdA W0 R s at_ l (gs ++ [g]) vl (.slice (some ⟨b, 0, none⟩) (gs.length + 1) cap) w) : TopAt W0 R gs g (.slice (some ⟨b, 0, none⟩) (gs.length + 1) cap) b cap w := by
  obtain ⟨b', cap', ht⟩ := h.top
  have e := ht.val
  simp only [Value.slice.injEq, Option.some.injEq, Addr.mk.injEq, and_true, true_and] at e
  obtain ⟨rfl, rfl⟩ := e
  exact ht
set_option maxRecDepth 20000 in
set_option maxHeartbeats 8000000 in
theorem rd_piece (W0 : World) (R : Nat) (s : ByteArray) (a : Nat) (l : List Rx) (gs : List (Nat × Nat)) (g : Nat × Nat) (vl vo : Value) (cs : List Nat) (W : World) (H : RdA W0 R s a l (gs ++ [g]) vl vo W) (hA : AtS s a cs) (hs : s.size ≤ 5000) (hl : l.length ≤ 50000) (hg : g.1 ≤ 100000) :
    Calls Tryz.prog 100 #[.pointer (some ⟨R, 0, none⟩)] W fun r w' => r = .returned (.tuple #[]) ∧ Hid (RdTo W0 R s (afterM l cs g gs).l (afterM l cs g gs).cs (gs ++ [(afterM l cs g gs).g]) vo w') := by
  obtain ⟨b, cap, ht⟩ := H.top
  obtain rfl := ht.val
  have hroom := ht.room
  have hmost := ht.most
  clear ht
  have HSg := hidden (rd_signs W0 R s a l (gs ++ [g]) vl _ cs W H hA hs hl)
  have hll := signs_len cs l
  have hcs := hA.size
  unfold afterM
  dsimp only
  generalize signsM l cs = res at *
  obtain ⟨l1, cs1⟩ := res
  dsimp only at *
  obtain ⟨g1, g2⟩ := g
  dsimp only at hg
  obtain ⟨pr, HE⟩ : ∃ pr, Hid (pieceM l1 (g1, g2) = pr) := ⟨_, hidden rfl⟩
  rw [HE.out]
  clear H hA
  go_enter Tryz.func100, Tryz.ntmps100
  go_wp2_with fail
  refine HSg.out.mono ?_
  rintro r w1 ⟨rfl, HT⟩
  obtain ⟨a1, vl1, hA1, H1⟩ := HT.out
  have HTop := hidden (rd_top R b gs.length cap _ _ _ w1 H1.rd hroom hmost)
  have HL := hidden (fun (w' : World) (hb : Below w1.heap.size w1 w') => H1.later hb)
  have HA1 := hidden hA1
  clear HSg HT H1 hA1
  go_wp2_with fail
  refine HTop.out.mono ?_
  rintro r w2 ⟨rfl, hb2⟩
  have HH := hidden (HL.out _ hb2)
  clear HTop HL hb2
  have ht := HH.out.topAt
  have y0 := ht.c0
  have yf := ht.fr (gs.length * 2)
  have hne := ht.ne
  have HH2 := hidden (HH.out.set0 ht (g1 + 1))
  clear ht
  have hgn : (0 : Int) ≤ (g1 : Int) := by omega
  have hgm : (g1 : Int) + 1 ≤ 9223372036854775807 := by omega
  dsimp only at y0
  by_cases h1 : 1 ≤ g1
  · have p1 : decide ((1 : Int) < (g1 : Int) + 1) = true := decide_eq_true (by omega)
    have q1 : (1 : Int) < (g1 : Int) + 1 := by omega
    have e0 : pr = (l1 ++ [opRx 3], (g1 + 1, g2)) := by rw [← HE.out]; unfold pieceM; rw [if_pos h1]
    subst e0
    have hput := hidden (rd_putK W0 R s a1 l1 (gs ++ [(g1 + 1, g2)]) vl1 _ 3 _ HH2.out (by omega))
    clear HE h1
    go_wp2_with fail
    refine hput.out.mono ?_
    rintro r1 w3 ⟨rfl, v3, HH3⟩
    clear hput HH HH2 y0 yf
    go_wp2
    refine ⟨rfl, .tuple #[], ?_, rfl, hidden ⟨a1, v3, HA1.out, HH3.out⟩⟩
    simp [results, Tryz.results100, go_sem]
  · have p1 : decide ((1 : Int) < (g1 : Int) + 1) = false := decide_eq_false (by omega)
    have q1 : ¬ (1 : Int) < (g1 : Int) + 1 := by omega
    have e0 : pr = (l1, (g1 + 1, g2)) := by rw [← HE.out]; unfold pieceM; rw [if_neg h1]
    subst e0
    clear HE h1
    go_wp2
    refine ⟨rfl, .tuple #[], ?_, rfl, hidden ⟨a1, vl1, HA1.out, HH2.out⟩⟩
    simp [results, Tryz.results100, go_sem]

set_option maxRecDepth 20000 in
set_option maxHeartbeats 16000000 in
theorem rd_branch (W0 : World) (R : Nat) (s : ByteArray) (a : Nat) (l : List Rx) (gs : List (Nat × Nat)) (g : Nat × Nat) (vl vo : Value) (W : World) (H : RdA W0 R s a l (gs ++ [g]) vl vo W) (hl : l.length ≤ 60000) (hg : g.1 ≤ 100000) (hg2 : g.2 ≤ 100000) :
    Calls Tryz.prog 97 #[.pointer (some ⟨R, 0, none⟩)] W fun r w' => r = .returned (.tuple #[]) ∧ ∃ vl', Hid (RdA W0 R s a (branchM l g).1 (gs ++ [(branchM l g).2]) vl' vo w') := by
  obtain ⟨b, cap, ht⟩ := H.top
  obtain rfl := ht.val
  have HTop := hidden (rd_top R b gs.length cap _ _ _ W H.rd ht.room ht.most)
  have HL := hidden (fun (w' : World) (hb : Below W.heap.size W w') => H.later hb)
  clear ht H
  obtain ⟨g1, g2⟩ := g
  dsimp only at hg hg2
  have hem : (emptyM l (g1, g2)).length ≤ 60001 := by unfold emptyM; split <;> (try rw [List.length_append, List.length_singleton]) <;> (try dsimp only) <;> omega
  obtain ⟨pr, HE⟩ : ∃ pr, Hid (branchM l (g1, g2) = pr) := ⟨_, hidden rfl⟩
  rw [HE.out]
  go_enter Tryz.func97, Tryz.ntmps97
  go_wp2_with fail
  refine HTop.out.mono ?_
  rintro r w2 ⟨rfl, hb2⟩
  have HH := hidden (HL.out _ hb2)
  clear HTop HL hb2
  have hgn : (0 : Int) ≤ (g2 : Int) := by omega
  have hgm : (g2 : Int) + 1 ≤ 9223372036854775807 := by omega
  have ht := HH.out.topAt
  have y0 := ht.c0
  have y1 := ht.c1
  have hne := ht.ne
  dsimp only at y0 y1
  by_cases h1 : g1 = 0
  · have HEm : Hid (emptyM l (g1, g2) = l ++ [opRx 2]) := hidden (by unfold emptyM; rw [if_pos h1])
    have p0 : ((g1 : Int) == 0) = true := beq_iff_eq.2 (by omega)
    have hput := hidden (rd_putK W0 R s a l (gs ++ [(g1, g2)]) vl _ 2 _ HH.out (by omega))
    clear h1
    go_wp2_with fail
    refine hput.out.mono ?_
    rintro r1 w3 ⟨rfl, v3, HH3⟩
    clear hput HH y0 y1 ht
    have HH := HH3
    have ht := HH.out.topAt
    have y0 := ht.c0
    have y1 := ht.c1
    dsimp only at y0 y1
    have yf := ht.fr (gs.length * 2 + 1)
    have yg := ht.fr (gs.length * 2)
    have HH4 := hidden (HH.out.set1 ht (g2 + 1))
    clear ht
    have HH4b := hidden (HH4.out.set0 (HH4.out.topAt) 0)
    by_cases h2 : 1 ≤ g2
    · have q1 : (1 : Int) < (g2 : Int) + 1 := by omega
      have p1 : decide ((1 : Int) < (g2 : Int) + 1) = true := decide_eq_true (by omega)
      have e0 : pr = (l ++ [opRx 2] ++ [opRx 4], (0, g2 + 1)) := by rw [← HE.out]; unfold branchM; rw [if_pos h2, HEm.out]
      subst e0
      have hput := hidden (rd_putK W0 R s a _ _ v3 _ 4 _ HH4.out (by rw [← HEm.out]; omega))
      clear HE h2 HEm hem
      go_wp2_with fail
      refine hput.out.mono ?_
      rintro r1 w5 ⟨rfl, v5, HH5⟩
      clear hput HH HH4 HH4b y0 y1 yf yg
      have ht := HH5.out.topAt
      have y0 := ht.c0
      have yg := ht.fr (gs.length * 2)
      have HH6 := hidden (HH5.out.set0 ht 0)
      clear ht
      go_wp2
      refine ⟨rfl, .tuple #[], ?_, rfl, _, hidden (by have h := HH6.out; (try simp only [List.append_assoc, List.cons_append, List.nil_append] at h ⊢); exact h)⟩
      simp [results, Tryz.results97, go_sem]
    · have q1 : ¬ (1 : Int) < (g2 : Int) + 1 := by omega
      have p1 : decide ((1 : Int) < (g2 : Int) + 1) = false := decide_eq_false (by omega)
      have e0 : pr = (l ++ [opRx 2], (0, g2 + 1)) := by rw [← HE.out]; unfold branchM; rw [if_neg h2, HEm.out]
      subst e0
      clear HE h2 HEm hem
      go_wp2
      refine ⟨rfl, .tuple #[], ?_, rfl, _, hidden HH4b.out⟩
      simp [results, Tryz.results97, go_sem]
  · have HEm : Hid (emptyM l (g1, g2) = l) := hidden (by unfold emptyM; rw [if_neg h1])
    have p0 : ((g1 : Int) == 0) = false := beq_eq_false_iff_ne.2 (by omega)
    clear h1
    have yf := ht.fr (gs.length * 2 + 1)
    have yg := ht.fr (gs.length * 2)
    have HH4 := hidden (HH.out.set1 ht (g2 + 1))
    clear ht
    have HH4b := hidden (HH4.out.set0 (HH4.out.topAt) 0)
    by_cases h2 : 1 ≤ g2
    · have q1 : (1 : Int) < (g2 : Int) + 1 := by omega
      have p1 : decide ((1 : Int) < (g2 : Int) + 1) = true := decide_eq_true (by omega)
      have e0 : pr = (l ++ [opRx 4], (0, g2 + 1)) := by rw [← HE.out]; unfold branchM; rw [if_pos h2, HEm.out]
      subst e0
      have hput := hidden (rd_putK W0 R s a _ _ vl _ 4 _ HH4.out (by rw [← HEm.out]; omega))
      clear HE h2 HEm hem
      go_wp2_with fail
      refine hput.out.mono ?_
      rintro r1 w5 ⟨rfl, v5, HH5⟩
      clear hput HH HH4 HH4b y0 y1 yf yg
      have ht := HH5.out.topAt
      have y0 := ht.c0
      have yg := ht.fr (gs.length * 2)
      have HH6 := hidden (HH5.out.set0 ht 0)
      clear ht
      go_wp2
      refine ⟨rfl, .tuple #[], ?_, rfl, _, hidden (by have h := HH6.out; (try simp only [List.append_assoc, List.cons_append, List.nil_append] at h ⊢); exact h)⟩
      simp [results, Tryz.results97, go_sem]
    · have q1 : ¬ (1 : Int) < (g2 : Int) + 1 := by omega
      have p1 : decide ((1 : Int) < (g2 : Int) + 1) = false := decide_eq_false (by omega)
      have e0 : pr = (l, (0, g2 + 1)) := by rw [← HE.out]; unfold branchM; rw [if_neg h2, HEm.out]
      subst e0
      clear HE h2 HEm hem
      go_wp2
      refine ⟨rfl, .tuple #[], ?_, rfl, _, hidden HH4b.out⟩
      simp [results, Tryz.results97, go_sem]
end Go.Proofs.YtfmdmeokbbpmlaaGreat

namespace Go.Proofs.YtfmdmeokbbpmlaaGreat
open Go.RowKit Go.Shelf

theorem or32 : ∀ c : Nat, c < 256 → bits .or .u8 (c : Int) 32 = ((c ||| 32 : Nat) : Int) := by decide +kernel
theorem word_or : ∀ c : Nat, c < 256 → wordB c = ((decide (48 ≤ c) && decide (c ≤ 57)) || (decide (97 ≤ (c ||| 32)) && decide ((c ||| 32) ≤ 122))) := by decide +kernel
set_option maxHeartbeats 4000000 in
theorem rx_plain (c : Nat) (hc : c < 256) (w : World) : Calls Tryz.prog 139 #[.int .u8 (c : Int)] w fun r w' => r = .returned (.bool (wordB c)) ∧ w = w' := by
  have hor := or32 c hc
  rw [word_or c hc]
  generalize c ||| 32 = d at *
  have go : ∀ v : Bool, Calls Tryz.prog 139 #[.int .u8 (c : Int)] w (fun r w' => r = .returned (.bool v) ∧ w = w') → v = ((decide (48 ≤ c) && decide (c ≤ 57)) || (decide (97 ≤ d) && decide (d ≤ 122))) → Calls Tryz.prog 139 #[.int .u8 (c : Int)] w (fun r w' => r = .returned (.bool ((decide (48 ≤ c) && decide (c ≤ 57)) || (decide (97 ≤ d) && decide (d ≤ 122)))) ∧ w = w') := fun v h e => by rw [← e]; exact h
  by_cases h0 : 48 ≤ c
  · by_cases h1 : c ≤ 57
    · refine go true ?_ (by simp only [decide_eq_true (show 48 ≤ c by omega), decide_eq_true (show c ≤ 57 by omega)]; try rfl)
      have q0 : (48 : Int) ≤ (c : Int) := by omega
      have q1 : (c : Int) ≤ (57 : Int) := by omega
      clear go hc
      go_enter Tryz.func139, Tryz.ntmps139
      go_wp2
      go_ret
      exact ⟨rfl, rfl⟩
    · by_cases h2 : 97 ≤ d
      · by_cases h3 : d ≤ 122
        · refine go true ?_ (by simp only [decide_eq_true (show 48 ≤ c by omega), decide_eq_false (show ¬ c ≤ 57 by omega), decide_eq_true (show 97 ≤ d by omega), decide_eq_true (show d ≤ 122 by omega)]; try rfl)
          have q0 : (48 : Int) ≤ (c : Int) := by omega
          have q1 : ¬ (c : Int) ≤ (57 : Int) := by omega
          have q2 : (97 : Int) ≤ (d : Int) := by omega
          have q3 : (d : Int) ≤ (122 : Int) := by omega
          clear go hc
          go_enter Tryz.func139, Tryz.ntmps139
          go_wp2
          go_ret
          exact ⟨rfl, rfl⟩
        · refine go false ?_ (by simp only [decide_eq_true (show 48 ≤ c by omega), decide_eq_false (show ¬ c ≤ 57 by omega), decide_eq_true (show 97 ≤ d by omega), decide_eq_false (show ¬ d ≤ 122 by omega)]; try rfl)
          have q0 : (48 : Int) ≤ (c : Int) := by omega
          have q1 : ¬ (c : Int) ≤ (57 : Int) := by omega
          have q2 : (97 : Int) ≤ (d : Int) := by omega
          have q3 : ¬ (d : Int) ≤ (122 : Int) := by omega
          clear go hc
          go_enter Tryz.func139, Tryz.ntmps139
          go_wp2
          go_ret
          exact ⟨rfl, rfl⟩
      · refine go false ?_ (by simp only [decide_eq_true (show 48 ≤ c by omega), decide_eq_false (show ¬ c ≤ 57 by omega), decide_eq_false (show ¬ 97 ≤ d by omega)]; try rfl)
        have q0 : (48 : Int) ≤ (c : Int) := by omega
        have q1 : ¬ (c : Int) ≤ (57 : Int) := by omega
        have q2 : ¬ (97 : Int) ≤ (d : Int) := by omega
        clear go hc
        go_enter Tryz.func139, Tryz.ntmps139
        go_wp2
        go_ret
        exact ⟨rfl, rfl⟩
  · by_cases h1 : 97 ≤ d
    · by_cases h2 : d ≤ 122
      · refine go true ?_ (by simp only [decide_eq_false (show ¬ 48 ≤ c by omega), decide_eq_true (show 97 ≤ d by omega), decide_eq_true (show d ≤ 122 by omega)]; try rfl)
        have q0 : ¬ (48 : Int) ≤ (c : Int) := by omega
        have q1 : (97 : Int) ≤ (d : Int) := by omega
        have q2 : (d : Int) ≤ (122 : Int) := by omega
        clear go hc
        go_enter Tryz.func139, Tryz.ntmps139
        go_wp2
        go_ret
        exact ⟨rfl, rfl⟩
      · refine go false ?_ (by simp only [decide_eq_false (show ¬ 48 ≤ c by omega), decide_eq_true (show 97 ≤ d by omega), decide_eq_false (show ¬ d ≤ 122 by omega)]; try rfl)
        have q0 : ¬ (48 : Int) ≤ (c : Int) := by omega
        have q1 : (97 : Int) ≤ (d : Int) := by omega
        have q2 : ¬ (d : Int) ≤ (122 : Int) := by omega
        clear go hc
        go_enter Tryz.func139, Tryz.ntmps139
        go_wp2
        go_ret
        exact ⟨rfl, rfl⟩
    · refine go false ?_ (by simp only [decide_eq_false (show ¬ 48 ≤ c by omega), decide_eq_false (show ¬ 97 ≤ d by omega)]; try rfl)
      have q0 : ¬ (48 : Int) ≤ (c : Int) := by omega
      have q1 : ¬ (97 : Int) ≤ (d : Int) := by omega
      clear go hc
      go_enter Tryz.func139, Tryz.ntmps139
      go_wp2
      go_ret
      exact ⟨rfl, rfl⟩

theorem val_cases (c : Nat) : (48 ≤ c ∧ c ≤ 57 ∧ hexB c = true ∧ hexV c = c - 48) ∨ ((c < 48 ∨ 57 < c) ∧ 97 ≤ c ∧ c ≤ 102 ∧ hexB c = true ∧ hexV c = c - 87) ∨ ((c < 48 ∨ 57 < c) ∧ (c < 97 ∨ 102 < c) ∧ hexB c = false) := by
  unfold hexB hexV
  by_cases h1 : 48 ≤ c ∧ c ≤ 57
  · exact .inl ⟨h1.1, h1.2, by rw [decide_eq_true h1.1, decide_eq_true h1.2]; rfl, if_pos h1.2⟩
  · have h1' : c < 48 ∨ 57 < c := by omega
    have e1 : (decide (48 ≤ c) && decide (c ≤ 57)) = false := by
      rcases h1' with h | h
      · rw [decide_eq_false (show ¬ 48 ≤ c by omega)]; rfl
      · rw [decide_eq_false (show ¬ c ≤ 57 by omega), Bool.and_false]
    by_cases h2 : 97 ≤ c ∧ c ≤ 102
    · exact .inr (.inl ⟨h1', h2.1, h2.2, by rw [e1, decide_eq_true h2.1, decide_eq_true h2.2]; rfl, if_neg (by omega)⟩)
    · refine .inr (.inr ⟨h1', by omega, ?_⟩)
      rw [e1]
      rcases (show c < 97 ∨ 102 < c by omega) with h | h
      · rw [decide_eq_false (show ¬ 97 ≤ c by omega)]; rfl
      · rw [decide_eq_false (show ¬ c ≤ 102 by omega), Bool.and_false]; rfl
/-- What a digit stands for, or -1. -/
def valN (c : Nat) : Int := if hexB c = true then (hexV c : Int) else -1
set_option maxHeartbeats 4000000 in
theorem num_value (c : Nat) (hc : c < 256) (w : World) : Calls Tryz.prog 142 #[.int .u8 (c : Int)] w fun r w' => r = .returned (.int .i64 (valN c)) ∧ w = w' := by
  rcases val_cases c with ⟨h1, h2, h3, h4⟩ | ⟨h0, h1, h2, h3, h4⟩ | ⟨h0, h1, h3⟩
  · have e : valN c = (c : Int) - 48 := by unfold valN; rw [if_pos h3, h4]; omega
    rw [e]
    have q1 : (48 : Int) ≤ (c : Int) := by omega
    have q2 : (c : Int) ≤ 57 := by omega
    have w1 : IntKind.u8.wrap ((c : Int) - 48) = (c : Int) - 48 := by rw [IntKind.wrap_u8]; omega
    clear h1 h2 h3 h4 e
    go_enter Tryz.func142, Tryz.ntmps142
    go_wp2
    go_ret
    exact ⟨rfl, rfl⟩
  · have e : valN c = (c : Int) - 97 + 10 := by unfold valN; rw [if_pos h3, h4]; omega
    rw [e]
    have q3 : (97 : Int) ≤ (c : Int) := by omega
    have q4 : (c : Int) ≤ 102 := by omega
    have w1 : IntKind.u8.wrap ((c : Int) - 97) = (c : Int) - 97 := by rw [IntKind.wrap_u8]; omega
    have w2 : IntKind.i64.wrap ((c : Int) - 97 + 10) = (c : Int) - 97 + 10 := by rw [IntKind.wrap_i64]; omega
    clear h1 h2 h3 h4 e
    rcases h0 with h0 | h0
    · have q1 : ¬ (48 : Int) ≤ (c : Int) := by omega
      go_enter Tryz.func142, Tryz.ntmps142
      go_wp2
      go_ret
      exact ⟨rfl, rfl⟩
    · have q1 : (48 : Int) ≤ (c : Int) := by omega
      have q2 : ¬ (c : Int) ≤ 57 := by omega
      go_enter Tryz.func142, Tryz.ntmps142
      go_wp2
      go_ret
      exact ⟨rfl, rfl⟩
  · have e : valN c = -1 := by unfold valN; rw [if_neg (by rw [h3]; exact Bool.false_ne_true)]
    rw [e]
    clear h3 e
    rcases h0 with h0 | h0
    · have q1 : ¬ (48 : Int) ≤ (c : Int) := by omega
      rcases h1 with h1 | h1
      · have q3 : ¬ (97 : Int) ≤ (c : Int) := by omega
        go_enter Tryz.func142, Tryz.ntmps142
        go_wp2
        go_ret
        exact ⟨rfl, rfl⟩
      · have q3 : (97 : Int) ≤ (c : Int) := by omega
        have q4 : ¬ (c : Int) ≤ 102 := by omega
        go_enter Tryz.func142, Tryz.ntmps142
        go_wp2
        go_ret
        exact ⟨rfl, rfl⟩
    · have q1 : (48 : Int) ≤ (c : Int) := by omega
      have q2 : ¬ (c : Int) ≤ 57 := by omega
      rcases h1 with h1 | h1
      · have q3 : ¬ (97 : Int) ≤ (c : Int) := by omega
        go_enter Tryz.func142, Tryz.ntmps142
        go_wp2
        go_ret
        exact ⟨rfl, rfl⟩
      · have q3 : (97 : Int) ≤ (c : Int) := by omega
        have q4 : ¬ (c : Int) ≤ 102 := by omega
        go_enter Tryz.func142, Tryz.ntmps142
        go_wp2
        go_ret
        exact ⟨rfl, rfl⟩

theorem quiet_same {P : Program} {f : FuncId} {args : Array Value} {w : World} {n : Nat} {v : Value}
    (h : Calls P f args (w.drewN n) fun e w' => e = .returned v ∧ w.drewN n = w') : Calls P f args (w.drewN n) fun e w'' => e = .returned v ∧ ∃ m, w'' = w.drewN m :=
  h.mono fun _ _ ⟨he, hm⟩ => ⟨he, n, hm.symm⟩
theorem hexV_lt16 {c : Nat} (h : hexB c = true) : hexV c < 16 := by
  rcases val_cases c with ⟨h1, h2, h3, h4⟩ | ⟨h0, h1, h2, h3, h4⟩ | ⟨h0, h1, h3⟩
  · omega
  · omega
  · rw [h3] at h; cases h
theorem nib_or : ∀ a : Nat, a < 16 → ∀ b : Nat, b < 16 → bits .or .i64 ((16 * a : Nat) : Int) (b : Int) = ((16 * a + b : Nat) : Int) := by decide +kernel
set_option maxRecDepth 20000 in
set_option maxHeartbeats 8000000 in
theorem num_Unhex (h k : Nat) (hh : h < 256) (hk : k < 256) (eh : hexB h = true) (ek : hexB k = true) (w : World) :
    Calls Tryz.prog 140 #[.string (bs [h, k])] w fun r w' => r = .returned (.tuple #[.int .u8 ((16 * hexV h + hexV k : Nat) : Int), .bool true]) ∧ Below w.heap.size w w' := by
  have HVh := hidden (num_value h hh)
  have HVk := hidden (num_value k hk)
  have e1 : valN h = (hexV h : Int) := by unfold valN; rw [if_pos eh]
  have e2 : valN k = (hexV k : Int) := by unfold valN; rw [if_pos ek]
  rw [e1] at HVh
  rw [e2] at HVk
  have l1 := hexV_lt16 eh
  have l2 := hexV_lt16 ek
  have s1 : (bs [h, k]).size = 2 := bs_size _
  have g0 : ((bs [h, k])[0]'(by rw [s1]; decide)).toNat = h := by
    show (UInt8.ofNat h).toNat = h
    rw [UInt8.toNat_ofNat']; omega
  have g1 : ((bs [h, k])[1]'(by rw [s1]; decide)).toNat = k := by
    show (UInt8.ofNat k).toNat = k
    rw [UInt8.toNat_ofNat']; omega
  have hor := nib_or (hexV h) l1 (hexV k) l2
  generalize bs [h, k] = t at *
  clear eh ek e1 e2
  generalize hexV h = x at *
  generalize hexV k = y at *
  have p1 : ¬ (x : Int) < 0 := by omega
  have p2 : ¬ (y : Int) < 0 := by omega
  have w1 : IntKind.i64.wrap ((x : Int) * 16) = ((16 * x : Nat) : Int) := by rw [IntKind.wrap_i64]; omega
  have w2 : IntKind.u8.wrap ((16 * x + y : Nat) : Int) = ((16 * x + y : Nat) : Int) := by rw [IntKind.wrap_u8]; omega
  have hcast : ((16 * x : Nat) : Int) = 16 * (x : Int) := by omega
  have hcas2 : ((16 * x + y : Nat) : Int) = 16 * (x : Int) + (y : Int) := by omega
  rw [hcast] at hor w1
  rw [hcas2] at hor w2 ⊢
  have w3 : (16 * (x : Int) + (y : Int)) % 256 = 16 * (x : Int) + (y : Int) := by omega
  go_enter Tryz.func140, Tryz.ntmps140
  go_wp2_with fail
  refine (HVh.out _).mono ?_
  rintro e w' ⟨rfl, rfl⟩
  go_wp2_with fail
  refine (HVk.out _).mono ?_
  rintro e w' ⟨rfl, rfl⟩
  go_wp2_with fail
  go_quiet ((go_at_call 142; first | (with_reducible exact quiet_same (HVh.out _)) | (with_reducible exact quiet_same (HVk.out _))))
  go_wp2
  exact bodyPost_ret (v := .tuple #[.int .u8 (16 * (x : Int) + (y : Int)), .bool true]) (by simp [results, Tryz.results140, go_sem]) rfl ⟨rfl, (by repeat (first | (with_reducible exact Below.refl _ _) | (with_reducible assumption) | (with_reducible refine Below.drew ?_) | (with_reducible refine below_drewN ?_ _) | ((with_reducible refine below_alloc ?_ ?_); (focus (first | omega | (simp; done) | (simp; omega)))) | ((with_reducible refine below_set ?_ ?_); (focus (first | omega | (simp; done) | (simp; omega))))))⟩
end Go.Proofs.YtfmdmeokbbpmlaaGreat

namespace Go.Proofs.YtfmdmeokbbpmlaaGreat
open Go.RowKit Go.Shelf

/-- Two digits, of which some were read. -/
def hexR : List Nat → List Nat → Nat ⊕ (Nat × List Nat)
  | [h, k], cs => .inr (16 * hexV h + hexV k, cs)
  | [h], cs => match cs with
    | [] => .inl 0
    | k :: r => if hexB k = false then .inl (r.length + 1) else .inr (16 * hexV h + hexV k, r)
  | _, cs => match cs with
    | [] => .inl 0
    | h :: r1 => if hexB h = false then .inl (r1.length + 1) else (match r1 with
      | [] => .inl 0
      | k :: r => if hexB k = false then .inl (r.length + 1) else .inr (16 * hexV h + hexV k, r))
theorem esc_nil : rdEsc [] = .inl 0 := rfl
theorem esc_n (r : List Nat) : rdEsc (110 :: r) = .inr (10, r) := by rw [rdEsc.eq_def]; dsimp only; rw [if_pos rfl]
theorem esc_t (r : List Nat) : rdEsc (116 :: r) = .inr (9, r) := by rw [rdEsc.eq_def]; dsimp only; rw [if_neg (by decide), if_pos rfl]
theorem esc_r (r : List Nat) : rdEsc (114 :: r) = .inr (13, r) := by rw [rdEsc.eq_def]; dsimp only; rw [if_neg (by decide), if_neg (by decide), if_pos rfl]
theorem esc_x (r : List Nat) : rdEsc (120 :: r) = hexR [] r := by
  rw [rdEsc.eq_def]
  dsimp only
  rw [if_neg (by decide), if_neg (by decide), if_neg (by decide), if_pos rfl]
  rfl
theorem esc_bad {c : Nat} {r : List Nat} (h1 : c ≠ 110) (h2 : c ≠ 116) (h3 : c ≠ 114) (h4 : c ≠ 120) (h5 : seenB c = false ∨ wordB c = true) : rdEsc (c :: r) = .inl (r.length + 1) := by
  rw [rdEsc.eq_def]
  dsimp only
  rw [if_neg h1, if_neg h2, if_neg h3, if_neg h4, if_pos h5]
theorem esc_good {c : Nat} {r : List Nat} (h1 : c ≠ 110) (h2 : c ≠ 116) (h3 : c ≠ 114) (h4 : c ≠ 120) (h5 : ¬ (seenB c = false ∨ wordB c = true)) : rdEsc (c :: r) = .inr (c, r) := by
  rw [rdEsc.eq_def]
  dsimp only
  rw [if_neg h1, if_neg h2, if_neg h3, if_neg h4, if_neg h5]
theorem hexR0_no {h : Nat} {r : List Nat} (e : hexB h = false) : hexR [] (h :: r) = .inl (r.length + 1) := by
  rw [hexR.eq_def]
  dsimp only
  rw [if_pos e]
theorem hexR0_yes {h : Nat} {r : List Nat} (e : hexB h = true) : hexR [] (h :: r) = hexR [h] r := by
  rw [hexR.eq_def, hexR.eq_def]
  dsimp only
  rw [if_neg (by rw [e]; exact Bool.noConfusion)]
theorem hexR1_no {h k : Nat} {r : List Nat} (e : hexB k = false) : hexR [h] (k :: r) = .inl (r.length + 1) := by
  rw [hexR, if_pos e]
theorem hexR1_yes {h k : Nat} {r : List Nat} (e : hexB k = true) : hexR [h] (k :: r) = hexR [h, k] r := by
  rw [hexR, hexR, if_neg (by rw [e]; exact Bool.noConfusion)]
theorem ntr_ix : ∀ c : Nat, c < 256 → Lib.indexByte [110, 116, 114] c.toUInt8 = if c = 110 then 0 else if c = 116 then 1 else if c = 114 then 2 else -1 := by decide +kernel
theorem hex_ix : ∀ c : Nat, c < 256 → decide (Lib.indexByte [48, 49, 50, 51, 52, 53, 54, 55, 56, 57, 97, 98, 99, 100, 101, 102] c.toUInt8 < 0) = !hexB c := by decide +kernel

theorem RdA.farQ {W0 w : World} {R : Nat} {s : ByteArray} {a : Nat} {l : List Rx} {op : List (Nat × Nat)} {vl vo : Value} {q : Nat} (h : RdA W0 R s a l op vl vo w) (hR : q ≠ R) (hl : vl.ownBlock ≠ some q) (ho : vo.ownBlock ≠ some q) (h0 : W0.heap.size ≤ q) (j : Nat) (u : Value) : RdA W0 R s a l op vl vo (w.setCell ⟨q, j, none⟩ u) :=
  ⟨h.rd.far (p := ⟨q, j, none⟩) (fun e => hR e.symm) _, h.ml.set (p := ⟨q, j, none⟩) hl _, h.mo.set (p := ⟨q, j, none⟩) ho _, h.nl, h.no, h.lo, fun g e => by rw [World.size_setCell]; exact h.ho g e, fun g e => by rw [World.size_setCell]; exact h.hl g e, h.old, h.below.setCell (p := ⟨q, j, none⟩) h0 _⟩
theorem RdA.bump {W0 w : World} {R : Nat} {s : ByteArray} {a : Nat} {l : List Rx} {op : List (Nat × Nat)} {vl vo : Value} (h : RdA W0 R s a l op vl vo w) : RdA W0 R s (a + 1) l op vl vo (w.setCell ⟨R, 1, none⟩ (.int .i64 ((a : Int) + 1))) := h.turn (a + 1)
/-- The reader's blocks; and all that lay in WK, but the reader's own block, lies as it lay. -/
structure RdK (WK W0 : World) (R : Nat) (s : ByteArray) (at_ : Nat) (l : List Rx) (op : List (Nat × Nat)) (vl vo : Value) (w : World) : Prop where
  a : RdA W0 R s at_ l op vl vo w
  k : Keeps (fun k => k ≠ R ∧ k < WK.heap.size) WK w
section
variable {WK W0 w w' : World} {R : Nat} {s : ByteArray} {at_ : Nat} {l : List Rx} {op : List (Nat × Nat)} {vl vo : Value}
theorem RdK.start (h : RdA W0 R s at_ l op vl vo w) : RdK w W0 R s at_ l op vl vo w := ⟨h, Keeps.refl _ _⟩
theorem RdK.later (h : RdK WK W0 R s at_ l op vl vo w) (hb : Below w.heap.size w w') : RdK WK W0 R s at_ l op vl vo w' := ⟨h.a.later hb, h.k.below hb⟩
theorem RdK.bump (h : RdK WK W0 R s at_ l op vl vo w) : RdK WK W0 R s (at_ + 1) l op vl vo (w.setCell ⟨R, 1, none⟩ (.int .i64 ((at_ : Int) + 1))) := ⟨h.a.bump, h.k.setCell (p := ⟨R, 1, none⟩) (fun e => e.1 rfl) _⟩
theorem RdK.farQ {q : Nat} (h : RdK WK W0 R s at_ l op vl vo w) (hR : q ≠ R) (hl : vl.ownBlock ≠ some q) (ho : vo.ownBlock ≠ some q) (h0 : W0.heap.size ≤ q) (hk : WK.heap.size ≤ q) (j : Nat) (u : Value) : RdK WK W0 R s at_ l op vl vo (w.setCell ⟨q, j, none⟩ u) :=
  ⟨h.a.farQ hR hl ho h0 j u, h.k.setCell (p := ⟨q, j, none⟩) (fun e => absurd e.2 (by dsimp only; omega)) _⟩
theorem RdK.cells (h : RdK WK W0 R s at_ l op vl vo w) : w.cell? ⟨R, 0, none⟩ = some (.string s) ∧ w.cell? ⟨R, 1, none⟩ = some (.int .i64 (at_ : Int)) ∧ w.cell? ⟨R, 2, none⟩ = some vl ∧ w.cell? ⟨R, 3, none⟩ = some vo ∧
    w.frozen? ⟨R, 1, none⟩ = false ∧ w.frozen? ⟨R, 2, none⟩ = false ∧ w.frozen? ⟨R, 3, none⟩ = false := h.a.cells
theorem RdK.from {a2 : Nat} (h : RdK WK W0 R s at_ l op vl vo w) (h2 : RdK w W0 R s a2 l op vl vo w') : RdK WK W0 R s a2 l op vl vo w' :=
  ⟨h2.a, h.k.trans ⟨h2.k.size, fun k hk hl => h2.k.block k ⟨hk.1, hl⟩ hl⟩⟩
end
/-- What is read of a byte: none, the place that at which it is none; or the byte. -/
def ChrTo (WK W0 : World) (R : Nat) (s : ByteArray) (l : List Rx) (op : List (Nat × Nat)) (vl vo : Value) (o : Nat ⊕ (Nat × List Nat)) (r : Ending) (w' : World) : Prop :=
  match o with
  | .inl p => r = .returned (.tuple #[.int .u8 0, .bool false]) ∧ ∃ a', a' + p = s.size ∧ RdK WK W0 R s a' l op vl vo w'
  | .inr (b, rest) => r = .returned (.tuple #[.int .u8 (b : Int), .bool true]) ∧ b < 256 ∧ ∃ a', AtS s a' rest ∧ RdK WK W0 R s a' l op vl vo w'
theorem conv_two {w : World} {q : Nat} {t : TypeId} {a b : Nat} (ha : a < 256) (hb : b < 256) (h : Holds w q t #[.int .u8 (a : Int), .int .u8 (b : Int)]) : (convert 95 9 (.slice (some ⟨q, 0, none⟩) 2 2)).run Tryz.prog w = .ok (.string (bs [a, b])) w :=
  run_convert_bytes_back _ 95 9 5 ⟨q, 0, none⟩ 2 [UInt8.ofNat a, UInt8.ofNat b] Tryz.underlying95 Tryz.underlying5 Tryz.underlying9 (fun j hj => by
    have hj2 : j = 0 ∨ j = 1 := by simp at hj; omega
    rw [addr_add, Nat.zero_add, h.cell]
    rcases hj2 with rfl | rfl
    · show some (Value.int .u8 (a : Int)) = some (.int .u8 ((UInt8.ofNat a).toNat : Int))
      rw [ofNat_nat ha]
    · show some (Value.int .u8 (b : Int)) = some (.int .u8 ((UInt8.ofNat b).toNat : Int))
      rw [ofNat_nat hb])

set_option maxRecDepth 100000 in
set_option maxHeartbeats 16000000 in
theorem rd_escape (W0 : World) (R : Nat) (s : ByteArray) (a : Nat) (l : List Rx) (op : List (Nat × Nat)) (vl vo : Value) (cs : List Nat) (W : World) (H : RdA W0 R s a l op vl vo W) (hA : AtS s a cs) (hs : s.size ≤ 5000) :
    Calls Tryz.prog 134 #[.pointer (some ⟨R, 0, none⟩)] W fun r w' => Hid (ChrTo W W0 R s l op vl vo (rdEsc cs) r w') := by
  obtain ⟨o, HE⟩ : ∃ o, Hid (rdEsc cs = o) := ⟨_, hidden rfl⟩
  rw [HE.out]
  have hq := hA.size
  have HH := hidden (RdK.start H)
  clear H
  obtain ⟨z0, z1, -, -, f1, -, -⟩ := HH.out.cells
  cases cs with
  | nil =>
    have hn := hA.nil
    have q1 : (s.size : Int) ≤ (a : Int) := by omega
    have e0 : o = .inl 0 := by rw [← HE.out, esc_nil]
    subst e0
    clear HE
    go_enter Tryz.func134, Tryz.ntmps134
    go_wp2_with fail
    go_quiet (fail)
    replace HH := hidden (HH.out.later (below_drewN (Below.refl _ _) nq))
    clear z0 z1 f1
    generalize W.drewN nq = w1 at *
    obtain ⟨z0, z1, -, -, f1, -, -⟩ := HH.out.cells
    go_wp2
    exact bodyPost_ret (v := .tuple #[.int .u8 0, .bool false]) (by simp [results, Tryz.results134, go_sem]) rfl (hidden ⟨rfl, a, by simpa using hq, HH.out⟩)
  | cons c r =>
    obtain ⟨hk, ec, hA1⟩ := hA.cons
    have hc := hA.lt
    have q1 : ¬ (s.size : Int) ≤ (a : Int) := by omega
    have q2 : (a : Int) < (s.size : Int) := by omega
    have q3 : (0 : Int) ≤ (a : Int) := by omega
    have HI := hidden (Lib0.strings_IndexByte (⟨#[110, 116, 114]⟩ : ByteArray) (c : Int))
    rw [Int.toNat_natCast] at HI
    have eix : Lib.indexByte (⟨#[110, 116, 114]⟩ : ByteArray).data.toList c.toUInt8 = _ := ntr_ix c hc
    rw [eix] at HI
    clear eix
    have HAt := hidden hA
    have HA1 := hidden hA1
    clear hA hA1
    go_enter Tryz.func134, Tryz.ntmps134
    go_wp2_with fail
    go_quiet (fail)
    replace HH := hidden (HH.out.later (below_drewN (Below.refl _ _) nq))
    clear z0 z1 f1
    generalize W.drewN nq = w1 at *
    obtain ⟨z0, z1, -, -, f1, -, -⟩ := HH.out.cells
    go_wp2_with fail
    go_quiet (fail)
    replace HH := hidden (HH.out.later (below_drewN (Below.refl _ _) nq))
    clear z0 z1 f1
    generalize w1.drewN nq = w2 at *
    obtain ⟨z0, z1, -, -, f1, -, -⟩ := HH.out.cells
    by_cases h1 : c = 110
    · rw [if_pos h1] at HI
      have e0 : o = .inr (10, r) := by rw [← HE.out, h1, esc_n]
      subst e0
      clear HE h1
      go_wp2_with fail
      refine (HI.out _).mono ?_
      rintro r1 w3 ⟨rfl, rfl⟩
      have HB := hidden HH.out.bump
      clear HI
      have q4 : (a : Int) + 1 ≤ 9223372036854775807 := by omega
      go_wp2
      exact bodyPost_ret (v := .tuple #[.int .u8 (10 : Int), .bool true]) (by simp [results, Tryz.results134, go_sem]; rfl) rfl (hidden ⟨rfl, by decide, a + 1, HA1.out, HB.out⟩)
    · rw [if_neg h1] at HI
      by_cases h2 : c = 116
      · rw [if_pos h2] at HI
        have e0 : o = .inr (9, r) := by rw [← HE.out, h2, esc_t]
        subst e0
        clear HE h1 h2
        go_wp2_with fail
        refine (HI.out _).mono ?_
        rintro r1 w3 ⟨rfl, rfl⟩
        have HB := hidden HH.out.bump
        clear HI
        have q4 : (a : Int) + 1 ≤ 9223372036854775807 := by omega
        go_wp2
        exact bodyPost_ret (v := .tuple #[.int .u8 (9 : Int), .bool true]) (by simp [results, Tryz.results134, go_sem]; rfl) rfl (hidden ⟨rfl, by decide, a + 1, HA1.out, HB.out⟩)
      · rw [if_neg h2] at HI
        by_cases h3 : c = 114
        · rw [if_pos h3] at HI
          have e0 : o = .inr (13, r) := by rw [← HE.out, h3, esc_r]
          subst e0
          clear HE h1 h2 h3
          go_wp2_with fail
          refine (HI.out _).mono ?_
          rintro r1 w3 ⟨rfl, rfl⟩
          have HB := hidden HH.out.bump
          clear HI
          have q4 : (a : Int) + 1 ≤ 9223372036854775807 := by omega
          go_wp2
          exact bodyPost_ret (v := .tuple #[.int .u8 (13 : Int), .bool true]) (by simp [results, Tryz.results134, go_sem]; rfl) rfl (hidden ⟨rfl, by decide, a + 1, HA1.out, HB.out⟩)
        · rw [if_neg h3] at HI
          by_cases h4 : c = 120
          · have p4 : ((c : Int) != 120) = false := by rw [h4]; rfl
            have hx : Hid (hexR [] r = o) := hidden (by rw [← HE.out, h4, esc_x])
            clear HE h1 h2 h3 h4
            go_wp2_with fail
            refine (HI.out _).mono ?_
            rintro r1 w3 ⟨rfl, rfl⟩
            clear HI
            have q4 : (a : Int) + 1 ≤ 9223372036854775807 := by omega
            have HB := hidden HH.out.bump
            have HX := hidden (fun (c : Nat) => Lib0.strings_IndexByte (⟨#[48, 49, 50, 51, 52, 53, 54, 55, 56, 57, 97, 98, 99, 100, 101, 102]⟩ : ByteArray) (c : Int))
            have HA0 := hidden (Holds.new (w3.setCell ⟨R, 1, none⟩ (.int .i64 ((a : Int) + 1))) 184 #[.int .u8 0, .int .u8 0])
            rw [World.size_setCell] at HA0
            have HB0 := hidden (HB.out.later ((Below.refl _ _).alloc (Nat.le_refl _) (.cells #[.int .u8 0, .int .u8 0] 184)))
            have hqR : w3.heap.size ≠ R := by have := HH.out.a.rd.lt; omega
            have hql : vl.ownBlock ≠ some w3.heap.size := fun e => absurd (HH.out.a.hl _ e) (by omega)
            have hqo : vo.ownBlock ≠ some w3.heap.size := fun e => absurd (HH.out.a.ho _ e) (by omega)
            have hq0 : W0.heap.size ≤ w3.heap.size := HH.out.a.below.size
            have hqW : W.heap.size ≤ w3.heap.size := HH.out.k.size
            clear HB HH
            go_upto_region 16 with fail
            clear z0 z1 f1 q4
            generalize ((w3.setCell ⟨R, 1, none⟩ (.int .i64 ((a : Int) + 1))).alloc (.cells #[.int .u8 0, .int .u8 0] 184)) = w4 at *
            generalize w3.heap.size = q at *
            have HFar := hidden (fun (w' : World) (a' j : Nat) (u : Value) (h : RdK W W0 R s a' l op vl vo w') => h.farQ hqR hql hqo hq0 hqW j u)
            clear hq hk ec q1 q2 q3 HAt hc hql hqo
            go_loopg [64] 2 (fun gh ii wr => ∃ (i p : Nat) (rest : List Nat) (x y : Nat), ii = .int .i64 i ∧ gh + i = 2 ∧ Hid (AtS s p rest) ∧ Hid (RdK W W0 R s p l op vl vo wr) ∧ Hid (Holds wr q 184 #[.int .u8 (x : Int), .int .u8 (y : Int)]) ∧ Hid ((i = 0 ∧ y < 256 ∧ hexR [] rest = o) ∨ (i = 1 ∧ x < 256 ∧ hexB x = true ∧ hexR [x] rest = o) ∨ (i = 2 ∧ x < 256 ∧ y < 256 ∧ hexB x = true ∧ hexB y = true ∧ hexR [x, y] rest = o)))
            case atStart => exact ⟨0, a + 1, r, 0, 0, rfl, rfl, HA1, HB0, HA0, hidden (.inl ⟨rfl, by decide, hx.out⟩)⟩
            case round =>
              clear HA0 HB0 HA1 hx
              obtain ⟨i, p, rest, x, y, rfl, hgi, HAt, HH, HA, HO⟩ := hrel
              obtain ⟨z0, z1, -, -, f1, -, -⟩ := HH.out.cells
              have hq := HAt.out.size
              rcases HO.out with ⟨hi, hy, ho⟩ | ⟨hi, hx, ex, ho⟩ | ⟨hi, hx, hy, ex, ey, ho⟩
              · subst hi
                have HO2 := hidden ho
                clear ho HO
                cases rest with
                | nil =>
                  have hn := HAt.out.nil
                  have q1 : (s.size : Int) ≤ (p : Int) := by omega
                  have e0 : o = .inl 0 := by rw [← HO2.out]; rfl
                  subst e0
                  clear HX
                  go_wp2_with fail
                  go_quiet (fail)
                  replace HH := hidden (HH.out.later (below_drewN (Below.refl _ _) nq))
                  clear z0 z1 f1
                  generalize wr.drewN nq = w1 at *
                  obtain ⟨z0, z1, -, -, f1, -, -⟩ := HH.out.cells
                  go_wp2
                  exact bodyPost_ret (v := .tuple #[.int .u8 0, .bool false]) (by simp [results, Tryz.results134, go_sem]) rfl (hidden ⟨rfl, p, by simpa using hq, HH.out⟩)
                | cons h r1 =>
                  obtain ⟨hk, ec, hA1⟩ := HAt.out.cons
                  have hc := HAt.out.lt
                  have HA1 := hidden hA1
                  clear hA1
                  have q1 : ¬ (s.size : Int) ≤ (p : Int) := by omega
                  have q2 : (p : Int) < (s.size : Int) := by omega
                  have q3 : (0 : Int) ≤ (p : Int) := by omega
                  have hix := hex_ix h hc
                  have HX2 := hidden (HX.out h)
                  rw [Int.toNat_natCast] at HX2
                  replace HX2 : Hid (∀ w, Calls Tryz.prog 86 #[.string ⟨#[48, 49, 50, 51, 52, 53, 54, 55, 56, 57, 97, 98, 99, 100, 101, 102]⟩, .int .u8 (h : Int)] w fun e w' => e = .returned (.int .i64 (Lib.indexByte [48, 49, 50, 51, 52, 53, 54, 55, 56, 57, 97, 98, 99, 100, 101, 102] h.toUInt8)) ∧ w' = w) := HX2
                  generalize Lib.indexByte [48, 49, 50, 51, 52, 53, 54, 55, 56, 57, 97, 98, 99, 100, 101, 102] h.toUInt8 = ix at *
                  cases hb : hexB h with
                  | false =>
                    rw [hb] at hix
                    have p1 : ix < 0 := of_decide_eq_true hix
                    have e0 : o = .inl (r1.length + 1) := by rw [← HO2.out]; exact hexR0_no hb
                    subst e0
                    rw [List.length_cons] at hq
                    clear hix HO2 HX hb
                    go_wp2_with fail
                    go_quiet ((go_at_call 86; exact Calls.quiet_of_same (HX2.out _)))
                    replace HH := hidden (HH.out.later (below_drewN (Below.refl _ _) nq))
                    clear z0 z1 f1
                    generalize wr.drewN nq = w1 at *
                    obtain ⟨z0, z1, -, -, f1, -, -⟩ := HH.out.cells
                    go_wp2
                    exact bodyPost_ret (v := .tuple #[.int .u8 0, .bool false]) (by simp [results, Tryz.results134, go_sem]) rfl (hidden ⟨rfl, p, hq, HH.out⟩)
                  | true =>
                    rw [hb] at hix
                    have p1 : ¬ ix < 0 := of_decide_eq_false hix
                    have HO3 := hidden ((hexR0_yes hb).symm.trans HO2.out)
                    have hbh := hidden hb
                    clear hix HO2 HX hb
                    go_wp2_with fail
                    go_quiet ((go_at_call 86; exact Calls.quiet_of_same (HX2.out _)))
                    replace HA := hidden (HA.out.below (below_drewN (Below.refl _ _) nq) HA.out.lt)
                    replace HH := hidden (HH.out.later (below_drewN (Below.refl _ _) nq))
                    clear z0 z1 f1
                    generalize wr.drewN nq = w1 at *
                    obtain ⟨z0, z1, -, -, f1, -, -⟩ := HH.out.cells
                    have y0 := HA.out.cell 0
                    have y1 := HA.out.frozen 0
                    go_wp2_with fail
                    go_still_tail 11, (by kernel_rfl)
                    change wpList _ _ _ _ _ w1.drew
                    clear z0 z1 f1 y0 y1
                    replace HA : Hid (Holds w1.drew q 184 #[.int .u8 (x : Int), .int .u8 (y : Int)]) := HA
                    replace HH := hidden (HH.out.later (Below.drew (Below.refl _ _)))
                    generalize w1.drew = w2 at *
                    have y0 := HA.out.cell 0
                    have y1 := HA.out.frozen 0
                    replace HA := hidden (HA.out.set 0 (.int .u8 (h : Int)))
                    replace HH := hidden (HFar.out _ _ 0 (.int .u8 (h : Int)) HH.out)
                    go_upto_region 21 with fail
                    clear y0 y1
                    generalize (w2.setCell ⟨q, 0, none⟩ (.int .u8 (h : Int))) = w5 at *
                    obtain ⟨z0, z1, -, -, f1, -, -⟩ := HH.out.cells
                    replace HH := hidden HH.out.bump
                    replace HA := hidden (HA.out.far (p := ⟨R, 1, none⟩) hqR (.int .i64 ((p : Int) + 1)))
                    have q4 : (p : Int) + 1 ≤ 9223372036854775807 := by omega
                    go_wp2
                    go_roundg 1
                    case measure => omega
                    case rel => exact ⟨1, p + 1, r1, h, y, rfl, rfl, HA1, HH, HA, hidden (.inr (.inl ⟨rfl, hc, hbh.out, HO3.out⟩))⟩
              · subst hi
                have HO2 := hidden ho
                clear ho HO
                cases rest with
                | nil =>
                  have hn := HAt.out.nil
                  have q1 : (s.size : Int) ≤ (p : Int) := by omega
                  have e0 : o = .inl 0 := by rw [← HO2.out]; rfl
                  subst e0
                  clear HX
                  go_wp2_with fail
                  go_quiet (fail)
                  replace HH := hidden (HH.out.later (below_drewN (Below.refl _ _) nq))
                  clear z0 z1 f1
                  generalize wr.drewN nq = w1 at *
                  obtain ⟨z0, z1, -, -, f1, -, -⟩ := HH.out.cells
                  go_wp2
                  exact bodyPost_ret (v := .tuple #[.int .u8 0, .bool false]) (by simp [results, Tryz.results134, go_sem]) rfl (hidden ⟨rfl, p, by simpa using hq, HH.out⟩)
                | cons h r1 =>
                  obtain ⟨hk, ec, hA1⟩ := HAt.out.cons
                  have hc := HAt.out.lt
                  have HA1 := hidden hA1
                  clear hA1
                  have q1 : ¬ (s.size : Int) ≤ (p : Int) := by omega
                  have q2 : (p : Int) < (s.size : Int) := by omega
                  have q3 : (0 : Int) ≤ (p : Int) := by omega
                  have hix := hex_ix h hc
                  have HX2 := hidden (HX.out h)
                  rw [Int.toNat_natCast] at HX2
                  replace HX2 : Hid (∀ w, Calls Tryz.prog 86 #[.string ⟨#[48, 49, 50, 51, 52, 53, 54, 55, 56, 57, 97, 98, 99, 100, 101, 102]⟩, .int .u8 (h : Int)] w fun e w' => e = .returned (.int .i64 (Lib.indexByte [48, 49, 50, 51, 52, 53, 54, 55, 56, 57, 97, 98, 99, 100, 101, 102] h.toUInt8)) ∧ w' = w) := HX2
                  generalize Lib.indexByte [48, 49, 50, 51, 52, 53, 54, 55, 56, 57, 97, 98, 99, 100, 101, 102] h.toUInt8 = ix at *
                  cases hb : hexB h with
                  | false =>
                    rw [hb] at hix
                    have p1 : ix < 0 := of_decide_eq_true hix
                    have e0 : o = .inl (r1.length + 1) := by rw [← HO2.out]; exact hexR1_no hb
                    subst e0
                    rw [List.length_cons] at hq
                    clear hix HO2 HX hb
                    go_wp2_with fail
                    go_quiet ((go_at_call 86; exact Calls.quiet_of_same (HX2.out _)))
                    replace HH := hidden (HH.out.later (below_drewN (Below.refl _ _) nq))
                    clear z0 z1 f1
                    generalize wr.drewN nq = w1 at *
                    obtain ⟨z0, z1, -, -, f1, -, -⟩ := HH.out.cells
                    go_wp2
                    exact bodyPost_ret (v := .tuple #[.int .u8 0, .bool false]) (by simp [results, Tryz.results134, go_sem]) rfl (hidden ⟨rfl, p, hq, HH.out⟩)
                  | true =>
                    rw [hb] at hix
                    have p1 : ¬ ix < 0 := of_decide_eq_false hix
                    have HO3 := hidden ((hexR1_yes hb).symm.trans HO2.out)
                    have hbh := hidden hb
                    clear hix HO2 HX hb
                    go_wp2_with fail
                    go_quiet ((go_at_call 86; exact Calls.quiet_of_same (HX2.out _)))
                    replace HA := hidden (HA.out.below (below_drewN (Below.refl _ _) nq) HA.out.lt)
                    replace HH := hidden (HH.out.later (below_drewN (Below.refl _ _) nq))
                    clear z0 z1 f1
                    generalize wr.drewN nq = w1 at *
                    obtain ⟨z0, z1, -, -, f1, -, -⟩ := HH.out.cells
                    have y0 := HA.out.cell 1
                    have y1 := HA.out.frozen 1
                    go_wp2_with fail
                    go_still_tail 11, (by kernel_rfl)
                    change wpList _ _ _ _ _ w1.drew
                    clear z0 z1 f1 y0 y1
                    replace HA : Hid (Holds w1.drew q 184 #[.int .u8 (x : Int), .int .u8 (y : Int)]) := HA
                    replace HH := hidden (HH.out.later (Below.drew (Below.refl _ _)))
                    generalize w1.drew = w2 at *
                    have y0 := HA.out.cell 1
                    have y1 := HA.out.frozen 1
                    replace HA := hidden (HA.out.set 1 (.int .u8 (h : Int)))
                    replace HH := hidden (HFar.out _ _ 1 (.int .u8 (h : Int)) HH.out)
                    go_upto_region 21 with fail
                    clear y0 y1
                    generalize (w2.setCell ⟨q, 1, none⟩ (.int .u8 (h : Int))) = w5 at *
                    obtain ⟨z0, z1, -, -, f1, -, -⟩ := HH.out.cells
                    replace HH := hidden HH.out.bump
                    replace HA := hidden (HA.out.far (p := ⟨R, 1, none⟩) hqR (.int .i64 ((p : Int) + 1)))
                    have q4 : (p : Int) + 1 ≤ 9223372036854775807 := by omega
                    go_wp2
                    go_roundg 0
                    case measure => omega
                    case rel => exact ⟨2, p + 1, r1, x, h, rfl, rfl, HA1, HH, HA, hidden (.inr (.inr ⟨rfl, hx, hc, ex, hbh.out, HO3.out⟩))⟩
              · subst hi
                have HU := hidden (num_Unhex x y hx hy ex ey)
                have hcv := conv_two hx hy HA.out
                have hlt := HA.out.lt
                have l1 := hexV_lt16 ex
                have l2 := hexV_lt16 ey
                have e0 : o = .inr (16 * hexV x + hexV y, rest) := by rw [← ho]; rfl
                subst e0
                clear ho HO HX hx hy ex ey z0 z1 f1
                go_wp2_with fail
                refine (HU.out _).mono ?_
                rintro r2 w5 ⟨rfl, hb5⟩
                replace HH := hidden (HH.out.later hb5)
                go_wp2
                exact bodyPost_ret (v := .tuple #[.int .u8 ((16 * hexV x + hexV y : Nat) : Int), .bool true]) (by simp [results, Tryz.results134, go_sem]) rfl (hidden ⟨rfl, by omega, p, HAt.out, HH.out⟩)
          · have p4 : ((c : Int) != 120) = true := bne_iff_ne.2 (by omega)
            have HSn := hidden (rx_seen c)
            have HPl := hidden (rx_plain c hc)
            by_cases h5 : seenB c = false ∨ wordB c = true
            · have e0 : o = .inl (r.length + 1) := by rw [← HE.out, esc_bad h1 h2 h3 h4 h5]
              subst e0
              have hp := HAt.out.size
              rw [List.length_cons] at hp
              clear HE h1 h2 h3 h4
              go_wp2_with fail
              refine (HI.out _).mono ?_
              rintro r1 w3 ⟨rfl, rfl⟩
              clear HI
              go_wp2_with fail
              refine (HSn.out _).mono ?_
              rintro r2 w3 ⟨rfl, rfl⟩
              cases hsn : seenB c with
              | false =>
                clear h5 HPl
                go_wp2
                exact bodyPost_ret (v := .tuple #[.int .u8 0, .bool false]) (by simp [results, Tryz.results134, go_sem]) rfl (hidden ⟨rfl, a, hp, HH.out⟩)
              | true =>
                have hwd : wordB c = true := h5.resolve_left (by rw [hsn]; exact Bool.noConfusion)
                rw [hwd] at HPl
                clear h5
                go_wp2_with fail
                refine (HPl.out _).mono ?_
                rintro r2 w3 ⟨rfl, rfl⟩
                go_wp2
                exact bodyPost_ret (v := .tuple #[.int .u8 0, .bool false]) (by simp [results, Tryz.results134, go_sem]) rfl (hidden ⟨rfl, a, hp, HH.out⟩)
            · have e0 : o = .inr (c, r) := by rw [← HE.out, esc_good h1 h2 h3 h4 h5]
              subst e0
              have hsn : seenB c = true := by cases h : seenB c with | false => exact absurd (.inl h) h5 | true => rfl
              have hwd : wordB c = false := by cases h : wordB c with | true => exact absurd (.inr h) h5 | false => rfl
              rw [hsn] at HSn
              rw [hwd] at HPl
              have HB := hidden HH.out.bump
              clear HE h1 h2 h3 h4 h5
              go_wp2_with fail
              refine (HI.out _).mono ?_
              rintro r1 w3 ⟨rfl, rfl⟩
              clear HI
              go_wp2_with fail
              refine (HSn.out _).mono ?_
              rintro r2 w3 ⟨rfl, rfl⟩
              go_wp2_with fail
              refine (HPl.out _).mono ?_
              rintro r2 w3 ⟨rfl, rfl⟩
              have q4 : (a : Int) + 1 ≤ 9223372036854775807 := by omega
              go_wp2
              exact bodyPost_ret (v := .tuple #[.int .u8 (c : Int), .bool true]) (by simp [results, Tryz.results134, go_sem]) rfl (hidden ⟨rfl, hc, a + 1, HA1.out, HB.out⟩)
end Go.Proofs.YtfmdmeokbbpmlaaGreat
