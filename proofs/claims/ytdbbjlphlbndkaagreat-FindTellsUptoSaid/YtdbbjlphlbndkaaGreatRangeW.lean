/-
  A range over a function that turns a variable of its own (captured, so a block that was there ahead of the range): what such an iterator promises, and what a range over it owes.
-/
import Derived.Test.YtdbbjlphlbndkaaGreatB1
namespace Go.Proofs.YtdbbjlphlbndkaaGreat
open Go.RowKit Go.Shelf

/-- The iterator's promise: it turns the block Bs alone; what a round keeps (T) it reads. -/
def SeqW {α : Type} (n : Nat) (P : Program) (gf : Nat) (lb : Array Value) (encs : α → Array Value) (T : Nat → Prop) (Bs : Nat) (S Sp : List α → Prop) (N : Nat) (w : World) : Prop :=
  ∀ (l : Nat) (J Jx : List α → World → Prop) (W : World), Below w.heap.size w W →
    (∀ s A u, J s A → J s (A.setCell ⟨Bs, 0, none⟩ u)) → (∀ s A k, J s A → J s (A.drewN k)) →
    (∀ pre x V, J pre V → pre.length < N → YieldAt Fence.wide (n - 1) P l (encs x) V fun e V' =>
      (e = .returned (.bool true) ∧ J (pre ++ [x]) V' ∧ Keeps T V V') ∨ (e = .returned (.bool false) ∧ Jx (pre ++ [x]) V')) →
    J [] W →
    CallsIn Fence.wide n P gf (#[.func (.yield l) #[] #[]] ++ lb) W fun e W' => (∃ v, e = .returned v) ∧ ((∃ xs, S xs ∧ J xs W') ∨ (∃ pre, Sp pre ∧ Jx pre W'))

theorem calm_drewN (B : Nat) (W : World) (k : Nat) : Calm B W (W.drewN k) := ⟨rfl, rfl, rfl, Nat.le_refl _, fun _ _ h _ => h⟩
theorem calm_alloc (B : Nat) (W : World) (o : Obj) : Calm B W (W.alloc o) := ⟨rfl, rfl, rfl, by simp, fun k o' h _ => (Below.heap_alloc W o k (Array.getElem?_eq_some_iff.1 h).1).trans h⟩

/-- The record of a range at work. -/
def recOf (fn : FuncId) (tmps : Array Value) (ps : Array Tmp) (assign body : Code) (D : Nat) (st : LoopState) (pe : Option Code) : Loop :=
  { state := st, pending := pe, fn, tmps, params := ps, assign, body, defers := D }
/-- What a range lays and minds beside the caller's own: its record, and the block of its rounds' deferred calls. -/
def Minds (D : Nat) (r : Loop) (W : World) : Prop := W.heap[D + 1]? = some (.loop r) ∧ W.heap[D]? = some (.deferred (some []))
theorem Minds.others {D : Nat} {r : Loop} {W W' : World} (h : Minds D r W) (hk : KeepsOthers W W') : Minds D r W' := ⟨hk.same _ _ h.1 rfl, hk.same _ _ h.2 rfl⟩
theorem Minds.turn {D : Nat} {r : Loop} {W : World} (h : Minds D r W) (r' : Loop) : Minds D r' (W.putObj (D + 1) (.loop r')) :=
  ⟨World.putObj_heap_same (Array.getElem?_eq_some_iff.1 h.1).1, (World.putObj_heap_other (by omega)).trans h.2⟩
theorem Minds.set {D : Nat} {r : Loop} {W : World} (h : Minds D r W) {b : Nat} (hb : b < D) (u : Value) : Minds D r (W.setCell ⟨b, 0, none⟩ u) :=
  ⟨(Below.heap_setCell W ⟨b, 0, none⟩ u (D + 1) (by show D + 1 ≠ b; omega)).trans h.1, (Below.heap_setCell W ⟨b, 0, none⟩ u D (by show D ≠ b; omega)).trans h.2⟩
theorem Minds.calm {D : Nat} {r : Loop} {W : World} (h : Minds D r W) (r' : Loop) {B : Nat} (hB : B ≤ D) : Calm B W (W.putObj (D + 1) (.loop r')) := Calm.putObj _ (by omega) h.1 rfl
theorem Minds.keeps {D : Nat} {r : Loop} {W : World} (_h : Minds D r W) (r' : Loop) {T : Nat → Prop} (hT : ∀ k, T k → k < D) : Keeps T W (W.putObj (D + 1) (.loop r')) :=
  ⟨by simp, fun k hk _ => World.putObj_heap_other (by have := hT k hk; omega)⟩

theorem range_lawW {α : Type} {P : Program} {n : Nat} {g : Operand} {ps : Array Tmp} {assign body : Code} {Q : Exit → Act → World → Prop} {a : Act} {w : World} (h1 : 1 ≤ n)
    {gf : Nat} {lb : Array Value} (hg : a.eval g = .func (.func gf) #[] lb) (eg : ∀ args w, (callFunc gf args).run P w = .ok (.enter gf args) w)
    {encs : α → Array Value} {T : Nat → Prop} {Bs : Nat} {S Sp : List α → Prop} {N : Nat} {w0 : World} (hseq : SeqW (n - 1) P gf lb encs T Bs S Sp N w0) (hb0 : Below w0.heap.size w0 w) (hT : ∀ k, T k → k < w.heap.size) (hBs : Bs < w.heap.size)
    (hps : ∀ x, (encs x).size = ps.size)
    (I : List α → World → Prop) (Ix : Code → List α → World → Prop) (hI : Steady w.heap.size I) (hIx : ∀ c, Steady w.heap.size (Ix c)) (hIs : ∀ s A u, I s A → I s (A.setCell ⟨Bs, 0, none⟩ u)) (h0 : I [] w)
    (hround : ∀ (l : Nat) (pre : List α) (x : α) (W : World), I pre W →
      assign.wpIn (Fence.wide.inRound l) (n - 1 - 1) P (Exit.then (Started P n w.heap.size N T I Ix body pre x W) (fun _ _ _ => False))
        { tmps := (ps.zip (encs x)).foldl (fun t (p, v) => t.setIfInBounds p v) a.tmps, defers := [] } W)
    (hdone : ∀ (D : Nat) (xs : List α) (W : World), w.heap.size ≤ D → S xs → I xs W → W.heap[D]? = some (.deferred (some [])) → Q .normal { a with defers := markOf D :: a.defers } W)
    (hstop : ∀ (D : Nat) (c : Code) (pre : List α) (W : World), w.heap.size ≤ D → Sp pre → Ix c pre W → W.heap[D]? = some (.deferred (some [])) → c.wpIn Fence.wide n P Q { a with defers := markOf D :: a.defers } W) :
    (Code.rangeFunc g ps assign body).wpIn Fence.wide n P Q a w := by
  refine wpIn_rangeFunc ?_
  intro fn hfn
  have hR : Hid (∀ st pe, (recOf fn a.tmps ps assign body w.heap.size st pe).params = ps) := fun _ _ => rfl
  obtain ⟨D, hD⟩ : ∃ D, D = w.heap.size := ⟨_, rfl⟩
  obtain ⟨W1, hW1⟩ : ∃ W1, W1 = (w.alloc (.deferred (some []))).alloc (.loop (recOf fn a.tmps ps assign body D .ready none)) := ⟨_, rfl⟩
  have hc1 : Calm w.heap.size w W1 := by rw [hW1]; exact (calm_alloc _ _ _).trans (calm_alloc _ _ _)
  have hm1 : Minds D (recOf fn a.tmps ps assign body D .ready none) W1 := by
    rw [hW1, hD]
    refine ⟨?_, ?_⟩
    · have := World.alloc_heap_new (w.alloc (.deferred (some []))) (.loop (recOf fn a.tmps ps assign body w.heap.size .ready none))
      rwa [World.size_alloc] at this
    · exact (Below.heap_alloc _ _ _ (by simp)).trans (World.alloc_heap_new w _)
  refine ⟨D + 1, [markOf D], W1, { target := .fn (.func gf) lb, args := #[.func (.yield (D + 1)) #[] #[]] }, W1, gf, #[.func (.yield (D + 1)) #[] #[]] ++ lb, W1, ?_, ?_, ?_, ?_, fun _ => h1, ?_⟩
  · rw [hW1, hD]; exact run_enterLoop_outer _ _ _ _ _
  · simp only [resolve, hg]
    simp [go_sem]
  · intro f' _; trivial
  · simp [invoke, go_sem, eg]
  · refine (hseq (D + 1) (fun s W => I s W ∧ Minds D (recOf fn a.tmps ps assign body D .ready none) W) (fun s W => ∃ c, Ix c s W ∧ Minds D (recOf fn a.tmps ps assign body D .done (some c)) W) W1
      (hb0.trans ((hc1.below (Nat.le_refl _) (Nat.le_refl _)).mono hb0.size))
      (fun s A u h => ⟨hIs s A u h.1, h.2.set (by omega) u⟩) (fun s A k h => ⟨hI s A _ h.1 (calm_drewN _ _ _), h.2⟩) ?_ ⟨hI _ _ _ h0 hc1, hm1⟩).mono ?_
    · rintro pre x V ⟨hi, hm⟩ hlen
      refine ⟨fn, _, assign, body, run_yield (P := P) (args := encs x) hm.1 (hps x), roundIn_of_wpIn hfn (wpIn_mono (hround (D + 1) pre x V hi) ?_)⟩
      intro e a' V1 hq
      cases e with
      | normal =>
        obtain ⟨hk1, ht1, hi1, hgo⟩ := hq
        have hm1 := hm.others hk1
        refine ⟨_, run_beginRound hm1.1 rfl, ?_⟩
        have hm2 := hm1.turn { recOf fn a.tmps ps assign body D .ready none with state := .busy }
        have hc2 := hm1.calm { recOf fn a.tmps ps assign body D .ready none with state := .busy } (B := w.heap.size) (by omega)
        have ht2 := hm1.keeps { recOf fn a.tmps ps assign body D .ready none with state := .busy } (T := T) (fun k hk => by have := hT k hk; omega)
        refine wpIn_mono (hgo _ (D + 1) pre hc2 (hI _ _ _ hi1 hc2) hlen (by omega) ⟨_, hm2.1⟩) ?_
        intro e a3 V3 hp
        have fin : ∀ (jump : Option Code), KeepsOthers (V1.putObj (D + 1) (.loop { recOf fn a.tmps ps assign body D .ready none with state := .busy })) V3 →
            (Instr.endRound (D + 1) jump).run P V3 = .ok (.bool jump.isNone) (V3.putObj (D + 1) (.loop (recOf fn a.tmps ps assign body D (if jump.isNone then .ready else .done) jump))) ∧
            Calm w.heap.size V3 (V3.putObj (D + 1) (.loop (recOf fn a.tmps ps assign body D (if jump.isNone then .ready else .done) jump))) ∧
            Minds D (recOf fn a.tmps ps assign body D (if jump.isNone then .ready else .done) jump) (V3.putObj (D + 1) (.loop (recOf fn a.tmps ps assign body D (if jump.isNone then .ready else .done) jump))) ∧
            Keeps T V3 (V3.putObj (D + 1) (.loop (recOf fn a.tmps ps assign body D (if jump.isNone then .ready else .done) jump))) := fun jump hk3 => by
          have hm3 := hm2.others hk3
          exact ⟨run_endRound (P := P) jump hm3.1, hm3.calm _ (by omega), hm3.turn _, hm3.keeps _ (fun k hk => by have := hT k hk; omega)⟩
        cases e with
        | normal =>
          obtain ⟨hk3, ht3, hi3⟩ := hp
          obtain ⟨f1, f2, f3, f4⟩ := fin none hk3
          exact ⟨_, _, f1, .inl ⟨rfl, ⟨hI _ _ _ hi3 f2, f3⟩, ht1.trans (ht2.trans (ht3.trans f4))⟩⟩
        | ret =>
          obtain ⟨hk3, hi3⟩ := hp
          obtain ⟨f1, f2, f3, f4⟩ := fin (some .ret) hk3
          exact ⟨_, _, f1, .inr ⟨rfl, .ret, hIx _ _ _ _ hi3 f2, f3⟩⟩
        | exit id =>
          obtain ⟨hk3, hi3⟩ := hp
          obtain ⟨f1, f2, f3, f4⟩ := fin (some (.exit id)) hk3
          exact ⟨_, _, f1, .inr ⟨rfl, .exit id, hIx _ _ _ _ hi3 f2, f3⟩⟩
        | goto t =>
          obtain ⟨hk3, hi3⟩ := hp
          obtain ⟨f1, f2, f3, f4⟩ := fin (some (.goto t)) hk3
          exact ⟨_, _, f1, .inr ⟨rfl, .goto t, hIx _ _ _ _ hi3 f2, f3⟩⟩
        | panic _ => exact hp.elim
        | outgrown => exact hp.elim
      | _ => exact hq
    · rintro e W2 ⟨⟨v, rfl⟩, (⟨xs, hS, hi, hm⟩ | ⟨pre, hSp, c, hi, hm⟩)⟩
      · exact ⟨none, _, run_endLoop (P := P) hm.1 (by simp [recOf]), hdone D xs _ (by omega) hS (hI _ _ _ hi (hm.calm _ (by omega))) ((World.putObj_heap_other (by omega)).trans hm.2)⟩
      · exact ⟨some c, _, run_endLoop (P := P) hm.1 (by simp [recOf]), hstop D c pre _ (by omega) hSp (hIx c _ _ _ hi (hm.calm _ (by omega))) ((World.putObj_heap_other (by omega)).trans hm.2)⟩
end Go.Proofs.YtdbbjlphlbndkaaGreat
