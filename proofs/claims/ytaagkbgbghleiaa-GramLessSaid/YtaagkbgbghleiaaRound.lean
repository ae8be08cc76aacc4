/-
  Regions that draw their order inside a round of a range over a function: nothing in them is deferred. Over any program.
-/
import Derived.Test.YtaagkbgbghleiaaKit
import Derived.Sort.BigQuietIn
import Derived.OwnWalkIn
namespace Go.Proofs.Ytaagkbgbghleiaa
open Go.RowKit Go.Shelf

def laysNoDefer (o : Oper) : Bool := match o.op with
  | .defer _ => false
  | _ => true

section
variable {F : Fence} {n : Nat} {P : Program} {ops : Array Oper} {C : World → Prop}

theorem quiet_oper {o : Oper} (hn : laysNoDefer o = true) {a : Act} {K : Act → Prop} {K' : Act → World → Prop} {Q' : Exit → Act → World → Prop} {w : World} (hw : C w) (h : ∀ a w', C w' → K a → K' a w') (ha : o.askedIn F P a C) (hh : o.quietIn F n P a C K) :
    o.wpIn F n P a w K' Q' := by
  have hd : ∀ c, o.op ≠ .defer c := by
    intro c e
    unfold laysNoDefer at hn
    rw [e] at hn
    cases hn
  obtain ⟨v, h1, h2⟩ := hh
  have h3 := h1 w hw
  unfold Oper.wpIn
  refine ⟨ha w hw, ?_⟩
  rw [Oper.semAt_plain F _ _ hd]
  unfold Oper.quietAtIn at h3
  revert h3
  cases (execOp a.eval o).run P w with
  | halt x w' => intro h3; simp only [Oper.quietUponIn] at h3
  | ok x w' =>
    cases x with
    | value u => intro ⟨e1, e2⟩; simp only [Oper.uponIn]; rw [e1, e2]; exact h _ _ hw h2
    | skip => intro ⟨e1, e2⟩; simp only [Oper.uponIn]; rw [e1, ← e2]; exact h _ _ hw h2
    | enter f args =>
      intro ⟨e1, hd, hc⟩
      simp only [Oper.uponIn]
      rw [e1]
      exact ⟨hd, hc.mono fun e w'' ⟨he, hw''⟩ => by subst he; exact h _ _ hw'' h2⟩
    | _ => intro h3; simp only [Oper.quietUponIn] at h3

theorem quiet_any {Q : Act → Prop} {Q' : Exit → Act → World → Prop} (hn : ∀ (i : Nat) (o : Oper), ops[i]? = some o → laysNoDefer o = true) (hQ : ∀ a w, C w → Q a → Q' .normal a w) {md : Region.Mode} (fuel : Nat) :
    ∀ (listed : Array Bool) (a : Act) (w : World), C w → wpAnyQIn F n P md ops C Q fuel listed a → wpAnyIn F n P md ops Q' fuel listed a w := by
  induction fuel with
  | zero => exact fun _ _ _ hw h => ⟨h.1, hQ _ _ hw h.2⟩
  | succ fuel ih =>
    intro listed a w hw h
    refine ⟨fun h0 => hQ _ _ hw (h.1 h0), fun i hi => ?_⟩
    have hh := h.2 i hi
    unfold qOpIn at hh
    unfold wpOpIn
    cases ho : ops[i]? with
    | none => simp only [ho] at hh; exact ih _ _ _ hw hh
    | some o =>
      simp only [ho] at hh
      obtain ⟨ha, hh⟩ := hh
      by_cases hy : Region.wanted o (yielded ops a.tmps) = true
      · simp only [hy, if_true] at hh ⊢
        exact quiet_oper (hn i o ho) hw (fun a' w' hw' => ih _ a' w' hw') ha hh
      · simp only [hy] at hh ⊢
        exact ⟨ha w hw, ih _ _ _ hw hh⟩

theorem wpIn_region_round {id : Nat} {Q : Exit → Act → World → Prop} {a : Act} {w : World} {l : List Oper} (hm : P.follows .mixedOrders = true) (hB : Region.lexB .any l.toArray = true) (hn : l.all laysNoDefer = true)
    (h : wpQuietIn F n P l.toArray (fun w' => ∃ n, w' = w.drewN n) (fun a' => ∀ w', (∃ n, w' = w.drewN n) → Q .normal a' w') l a) : (Code.region id l.toArray true).wpIn F n P Q a w := by
  simp only [Region.lexB, Bool.and_eq_true] at hB
  refine wpIn_region_any hm (quiet_any (C := fun w' => ∃ n, w' = w.drewN n) (Q := fun a' => ∀ w', (∃ n, w' = w.drewN n) → Q .normal a' w') ?_ (fun _ w' hw' h => h w' hw') _ _ _ _ ⟨1, rfl⟩ ?_)
  · intro i o ho
    have hm := List.all_eq_true.1 hn
    refine hm o ?_
    rw [List.getElem?_toArray] at ho
    exact List.mem_of_getElem? ho
  · have := wpAnyQIn_lex (F := F) (n := n) (C := fun w' => ∃ n, w' = w.drewN n) (md := .any) hB.1 l 0 (Array.replicate l.toArray.size false) a (by simp) (by simpa using hB.2) h
    simpa using this
end
end Go.Proofs.Ytaagkbgbghleiaa
