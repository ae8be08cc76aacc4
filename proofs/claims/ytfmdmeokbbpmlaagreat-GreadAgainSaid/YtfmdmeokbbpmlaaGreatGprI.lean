/-
  gprint: a line of the text.
-/
import Derived.Test.YtfmdmeokbbpmlaaGreatGprH
import Derived.Test.YtfmdmeokbbpmlaaGreatBuilderC
namespace Go.Proofs.YtfmdmeokbbpmlaaGreat
open Go.RowKit Go.Shelf

def nlB : ByteArray := ⟨#[10]⟩
/-- Lines, each with its end. -/
def textB (ls : List ByteArray) : ByteArray := ls.foldl (fun s l => s ++ l ++ nlB) ByteArray.empty
theorem textB_snoc (ls : List ByteArray) (l : ByteArray) : textB (ls ++ [l]) = textB ls ++ l ++ nlB := by
  unfold textB
  rw [List.foldl_append]
  rfl
theorem ba_list (a b : ByteArray) : (a ++ b).data.toList = a.data.toList ++ b.data.toList := by
  obtain ⟨⟨x⟩⟩ := a
  obtain ⟨⟨y⟩⟩ := b
  rw [bytes_app]
theorem textB_bytes (ls : List ByteArray) (l : ByteArray) : (textB ls).data.toList ++ l.data.toList ++ [10] = (textB (ls ++ [l])).data.toList := by
  rw [textB_snoc, ba_list, ba_list]
  rfl
end Go.Proofs.YtfmdmeokbbpmlaaGreat
