/-
  gprint: a line of the text.
-/
import Derived.Test.YtfmdmeokbbpmlaaDoorGprH
import Derived.Test.YtfmdmeokbbpmlaaDoorBuilderC
namespace Go.Proofs.YtfmdmeokbbpmlaaDoor
open Go.RowKit Go.Shelf

def nlB : ByteArray := ⟨#[10]⟩
/-- Lines, each with its end. -/
def textB (ls : List ByteArray) : ByteArray := ls.foldl (fun s l => s ++ l ++ nlB) ByteArray.empty
theorem textB_snoc (ls : List ByteArray) (l : ByteArray) : textB (ls ++ [l]) = textB ls ++ l ++ nlB := by
  unfold textB
  rw [List.foldl_append]
  rfl
theorem bd_below {b : Nat} {l : List UInt8} {W W' : World} (h : Bd b b l W) (hb : Below W.heap.size W W') : Bd b b l W' := by
  have at_ : ∀ {p : Value} {bs : List Value}, Lib.BuilderAtF 87 5 b b p bs W → Lib.BuilderAtF 87 5 b b p bs W' := by
    intro p bs h
    have hlt := h.lt
    obtain ⟨hB, v, hv, hown, hne⟩ := h
    exact ⟨hB, v, (hb.block b hlt).trans hv, hown.kept (row := none) ⟨hb.os, hb.tape, hb.output, hb.size, fun k hk _ => hb.block k hk⟩ (Classical.em _), hne⟩
  exact h.elim (fun x => .inl (at_ x)) (fun x => .inr (at_ x))
theorem ba_list (a b : ByteArray) : (a ++ b).data.toList = a.data.toList ++ b.data.toList := by
  obtain ⟨⟨x⟩⟩ := a
  obtain ⟨⟨y⟩⟩ := b
  rw [bytes_app]
theorem textB_bytes (ls : List ByteArray) (l : ByteArray) : (textB ls).data.toList ++ l.data.toList ++ [10] = (textB (ls ++ [l])).data.toList := by
  rw [textB_snoc, ba_list, ba_list]
  rfl
set_option maxRecDepth 20000 in
set_option maxHeartbeats 4000000 in
theorem gp_line (b : Nat) (ls : List ByteArray) (v : Value) (x : ByteArray) (r : List ByteArray) (w : World) (h : Bd b b (textB ls).data.toList w) (hR : Strs w (Old w) v (x :: r)) (hn : r.length ≤ 1000000) (hs : (lineB x r).size ≤ 100000000000) (ht : (textB ls).size ≤ 1000000000000) (hbw : b < w.heap.size) :
    Calls Tryd.prog 53 #[v, .pointer (some ⟨b, 0, none⟩)] w fun r' w' => r' = .returned (.tuple #[]) ∧ Hid (Bd b b (textB (ls ++ [lineB x r])).data.toList w') ∧ Hid (Below b w w') := by
  have HJ := hidden (join_line v x r w hR hn hs)
  have HB := hidden h
  have hl : (textB ls).data.toList.length = (textB ls).size := data_len _
  have hll : (lineB x r).data.toList.length = (lineB x r).size := data_len _
  have HE := hidden (textB_bytes ls (lineB x r))
  clear h hR
  generalize (textB (ls ++ [lineB x r])).data.toList = fin at *
  generalize lineB x r = s at *
  go_enter Tryd.func53, Tryd.ntmps53
  go_wp2_with fail
  refine HJ.out.mono ?_
  rintro e w1 ⟨rfl, hb1⟩
  have hz1 := hb1.size
  have HB1 : Hid (Bd b b (textB ls).data.toList w1) := hidden (bd_below HB.out hb1)
  have HW := hidden (bd_write b b (textB ls).data.toList s w1 HB1.out (by omega) (by omega))
  clear HJ HB
  go_wp2_with fail
  refine HW.out.mono ?_
  rintro e w2 ⟨rfl, hB2, hb2, -⟩
  have hz2 := hb2.size
  have HB2 := hidden hB2
  have HW2 := hidden (bd_byte b b ((textB ls).data.toList ++ s.data.toList) 10 w2 HB2.out (by rw [List.length_append]; omega) (by omega))
  clear HW hB2 HB1
  go_wp2_with fail
  refine HW2.out.mono ?_
  rintro e w3 ⟨rfl, hB3, hb3, -⟩
  have HB3 := hidden hB3
  have hbf := hidden (((hb1.mono (Nat.le_of_lt hbw)).trans hb2).trans hb3)
  clear HW2 hB3 HB2
  go_wp2
  refine ⟨rfl, .tuple #[], ?_, rfl, hidden (by rw [← HE.out]; exact HB3.out), hbf⟩
  simp [results, Tryd.results53, go_sem]
end Go.Proofs.YtfmdmeokbbpmlaaDoor
