/-
  Grammars as plain data, and values that read as them.
-/
import Derived.Test.YtaagkbgbghleiaaItems
import Derived.Test.YtaagkbgbghleiaaStrs3
namespace Go.Proofs.Ytaagkbgbghleiaa
open Go.RowKit Go.Shelf

structure Token where
  name : ByteArray
  rex : List Rx
  cls : Int
structure Prod where
  left : Int
  right : List Item
structure Gram where
  toks : List Token
  rules : List ByteArray
  prods : List Prod
  start : Int
  states : Int
  text : Int
  nodes : Int
  pairs : Int

def tokR : Rec Token where
  k := 3
  cells x l := [.string x.name, l, .int .i64 x.cls]
  len _ _ := rfl
  pos := by decide
  kin := 5
  m x := x.rex.length
  inner x := x.rex.flatMap rxCells
  one x l h := by
    intro u hu
    simp only [List.mem_cons, List.not_mem_nil, or_false] at hu
    rcases hu with rfl | rfl | rfl <;> first | rfl | exact h
def prodR : Rec Prod where
  k := 2
  cells x l := [.int .i64 x.left, l]
  len _ _ := rfl
  pos := by decide
  kin := 4
  m x := x.right.length
  inner x := x.right.flatMap itCells
  one x l h := by
    intro u hu
    simp only [List.mem_cons, List.not_mem_nil, or_false] at hu
    rcases hu with rfl | rfl <;> first | rfl | exact h

/-- The slices a, b, c read as the tokens, rules' names and productions of g. -/
def GramIs (w : World) (T : Nat → Prop) (a b c : Value) (g : Gram) : Prop := Recs tokR w T a g.toks ∧ Strs w T b g.rules ∧ Recs prodR w T c g.prods
/-- A grammar by value: its cells. -/
def gramCells (a b c : Value) (g : Gram) : Array Value := #[a, b, c, .int .i64 g.start, .int .i64 g.states, .int .i64 g.text, .int .i64 g.nodes, .int .i64 g.pairs]
end Go.Proofs.Ytaagkbgbghleiaa
