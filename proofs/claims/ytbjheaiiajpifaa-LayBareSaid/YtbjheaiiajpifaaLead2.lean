/-
  lead.Notes, and the document's: the pieces that are notes.
-/
import Derived.Test.YtbjheaiiajpifaaLead
import Derived.Test.YtbjheaiiajpifaaFlat
import Derived.Test.YtbjheaiiajpifaaT3
namespace Go.Proofs.Ytbjheaiiajpifaa.T
open Go.RowKit Go.Shelf

/-- Pieces of the call's own. -/
abbrev PcsM (w : World) (base : Nat) (v : Value) (l : List Piece) : Prop := FlatM pcCells 2 133 w base v l
theorem wpList_append_pc {w W0 : World} {ops : Array Oper} {rest : List Oper} {o : Oper} {a : Act} {Q : Exit → Act → World → Prop} (hgd : o.guard = none) (s x : Operand)
    (ho : o.op = .call { callee := .builtin .append, args := #[s, x], argTypes := #[53, 53] }) (base : Nat) (v : Value) (l : List Piece) (HM : Hid (PcsM W0 base v l)) (u : Piece) {e' : TypeId} (hw : w = W0.alloc (.cells #[.int .i64 u.tok, .string u.text] e')) (hs : a.eval s = v) {g : Nat}
    (hx : a.eval x = .slice (some ⟨g, 0, none⟩) 1 1) (hg : g = W0.heap.size) (hn : (l.length + 1) * 24 ≤ 140737488355328) (hb : base ≤ W0.heap.size)
    (h : ∀ v' w', Hid (PcsM w' base v' (l ++ [u])) → Below base W0 w' → Hid (Keeps (fun k => v.ownBlock ≠ some k) W0 w') → wpList Try.prog ops Q rest (a.put o.dst v') w') : wpList Try.prog ops Q (o :: rest) a w :=
  wpList_append_flat (f := pcCells) (fun _ => rfl) hgd s x 53 133 e' ho (by kernel_rfl) piece_info rfl (by decide) (fun x => by intro u hu; simp only [pcCells, List.mem_cons, List.not_mem_nil, or_false] at hu; rcases hu with rfl | rfl <;> rfl) base v l HM u hw hs hx hg (by omega) (by decide) hb h

theorem notesOf_succ (ts : List Token) (ps : List Piece) (k : Nat) (x : Piece) (h : ps[k]? = some x) : notesOf ts (ps.take (k + 1)) = notesOf ts (ps.take k) ++ (if noteB ts x.tok = true then [x] else []) := by
  obtain ⟨hk, e⟩ := List.getElem?_eq_some_iff.1 h
  unfold notesOf
  rw [List.take_succ_eq_append_getElem hk, List.filter_append, e, List.filter_cons, List.filter_nil]
theorem notesOf_len (ts : List Token) (ps : List Piece) : (notesOf ts ps).length ≤ ps.length := List.length_filter_le _ _

set_option maxRecDepth 20000 in
set_option maxHeartbeats 4000000 in
theorem lead_Notes (v p : Value) (ts : List Token) (ps : List Piece) (w : World) (hR : Recs tokR w (Old w) v ts) (hP : Pcs w (Old w) p ps) (h4 : ps.length * 24 ≤ 140737488355328) :
    Calls Try.prog 109 #[v, p] w fun r w' => (∃ u, r = .returned u ∧ Hid (PcsM w' w.heap.size u (notesOf ts ps))) ∧ Below w.heap.size w w' := by
  obtain ⟨A, c, rfl, hc1, hc2⟩ := hP.value
  unfold maxLen at hc2
  have HP := hidden hP
  have HC := hidden (fun (w' : World) (t : Int) (hb : Below w.heap.size w w') => lead_class v ts t (Old w') w' (hR.old hb))
  clear hP hR
  go_enter Try.func109, Try.ntmps109
  go_wp2
  go_loopw [5, 10] (fun l kk wr => ∃ k : Nat, k ≤ ps.length ∧ kk = .int .i64 k ∧ Hid (PcsM wr w.heap.size l (notesOf ts (ps.take k))) ∧ Below w.heap.size w wr) (fun _ kk _ => ps.length - (intOf kk).toNat)
  case atStart => exact ⟨0, by omega, rfl, hidden (Mine.nil _ _ _ _), Below.refl _ _⟩
  case round =>
    obtain ⟨k, hk, rfl, HM, hb⟩ := hrel
    have hbz := hb.size
    by_cases hlt : k < ps.length
    · obtain ⟨b, off, c', hv, _, _, hT, hat⟩ := Pcs.open_ (Rd.old HP.out hb) (by intro e; subst e; simp at hlt)
      simp only [Value.slice.injEq] at hv
      obtain ⟨rfl, _, rfl⟩ := hv
      have hx := List.getElem?_eq_getElem hlt
      obtain ⟨x0, x1⟩ := hat k _ hx
      have HS := hidden (notesOf_succ ts ps k _ hx)
      have hlen := notesOf_len ts (ps.take k)
      rw [List.length_take] at hlen
      generalize ps[k] = x at *
      clear hat hx
      generalize notesOf ts (ps.take k) = L at *
      have hcl := class_note ts x.tok
      have HK := hidden (fun (w' : World) (hb : Below w.heap.size w w') => HC.out w' x.tok hb)
      generalize classI (clsAt ts x.tok) = cv at *
      clear HC HP
      cases hn : noteB ts x.tok with
      | false =>
        rw [hn] at HS hcl
        have hcv : ¬ (1 < cv) := by simpa using hcl
        clear hcl hn
        go_wp2_with fail
        refine (HK.out _ (hb.alloc hbz _)).mono ?_
        rintro r w2 ⟨rfl, rfl⟩
        have HM2 := hidden (Mine.alloc HM.out (.cells #[.int .i64 x.tok, .string x.text] 133))
        clear HK HM
        go_wp2
        go_roundw
        case rel => exact ⟨k + 1, by omega, by go_num, by rw [HS.out]; simpa using HM2, hb.alloc hbz _⟩
        case measure => simp [intOf]; omega
      | true =>
        rw [hn] at HS hcl
        have hcv : 1 < cv := by simpa using hcl
        clear hcl hn
        go_wp2_with fail
        refine (HK.out _ (hb.alloc hbz _)).mono ?_
        rintro r w2 ⟨rfl, rfl⟩
        have HM2 := hidden (Mine.alloc HM.out (.cells #[.int .i64 x.tok, .string x.text] 133))
        have hb2 := hb.alloc hbz (.cells #[.int .i64 x.tok, .string x.text] 133)
        have hbz2 := hb2.size
        clear HK HM
        go_wp2_with (at_builtin; refine wpList_append_pc rfl _ _ rfl w.heap.size _ _ HM2 x rfl rfl rfl (by first | rfl | simp) (by omega) hbz2 ?_; intro v' w' hA hb3 hK)
        obtain ⟨A3, c3, e3⟩ := hA.out.value
        go_wp2
        go_roundw
        case rel => exact ⟨k + 1, by omega, by go_num, by rw [HS.out]; exact hA, hb2.trans hb3⟩
        case measure => simp [intOf]; omega
    · obtain rfl : k = ps.length := by omega
      rw [List.take_length] at HM
      go_wp2
      go_ret
      exact ⟨⟨_, rfl, HM⟩, hb⟩
end Go.Proofs.Ytbjheaiiajpifaa.T
