/-
  Grammars read of texts, plainly.
-/
import Derived.Test.YtfmdmeokbbpmlaaGreatGprL
import Derived.Test.YtfmdmeokbbpmlaaGreatGprN
import Derived.Test.YtfmdmeokbbpmlaaGreatLineA
namespace Go.Proofs.YtfmdmeokbbpmlaaGreat
open Go.RowKit Go.Shelf

/-- What is read so far: the grammar, and what was given. -/
structure St where
  g : Gram
  giv : List ByteArray
def inK (s : ByteArray) (L : List ByteArray) : Bool := L.any (fun k => s == k)
def onceG (x : St) (k : ByteArray) : Int ⊕ St := if inK k x.giv = true then .inl 8 else .inr ⟨x.g, x.giv ++ [k]⟩
/-- What is wrong with a new name. -/
noncomputable def freshG (g : Gram) (s : ByteArray) : Int := if nameB s = false then 7 else if 0 ≤ findNo g s then 8 else 0
def wBound : ByteArray := ⟨#[98, 111, 117, 110, 100]⟩
def wBoundS : ByteArray := ⟨#[98, 111, 117, 110, 100, 32]⟩
def wStates : ByteArray := ⟨#[115, 116, 97, 116, 101, 115]⟩
def wText : ByteArray := ⟨#[116, 101, 120, 116]⟩
def wNodes : ByteArray := ⟨#[110, 111, 100, 101, 115]⟩
def wPairs : ByteArray := ⟨#[112, 97, 105, 114, 115]⟩
/-- Which bound a word names; 4: none. -/
def bndI (a : ByteArray) : Nat := if (a == wStates) = true then 0 else if (a == wText) = true then 1 else if (a == wNodes) = true then 2 else if (a == wPairs) = true then 3 else 4
def mostI (i : Nat) : Int := if i = 0 then 4096 else if i = 1 then 65536 else if i = 2 then 65536 else 1048576
def setNum (g : Gram) (i : Nat) (n : Int) : Gram :=
  if i = 0 then { g with states := n } else if i = 1 then { g with text := n } else if i = 2 then { g with nodes := n } else { g with pairs := n }
def boundG (x : St) (a c : ByteArray) : Int ⊕ St :=
  if bndI a = 4 then .inl 7 else if inK (wBoundS ++ a) x.giv = true then .inl 8
  else if (readN c.data.toList (mostI (bndI a))).2 ≠ 0 then .inl (readN c.data.toList (mostI (bndI a))).2
  else .inr ⟨setNum x.g (bndI a) (readN c.data.toList (mostI (bndI a))).1, x.giv ++ [wBoundS ++ a]⟩
def clsL : List ByteArray := [clsW 0, clsW 1, clsW 2, clsW 3]
noncomputable def tokenG (x : St) (w0 a c : ByteArray) : Int ⊕ St :=
  if freshG x.g a ≠ 0 then .inl (freshG x.g a) else if (readM (nb c)).2.2 ≠ 0 then .inl 9
  else .inr ⟨{ x.g with toks := x.g.toks ++ [⟨a, (readM (nb c)).1, findOf clsL w0⟩] }, x.giv⟩
noncomputable def rulesG : St → List ByteArray → Int ⊕ St
  | x, [] => .inr x
  | x, s :: r => if freshG x.g s ≠ 0 then .inl (freshG x.g s) else rulesG ⟨{ x.g with rules := x.g.rules ++ [s] }, x.giv⟩ r
noncomputable def startG (x : St) (a : ByteArray) : Int ⊕ St :=
  if inK startW x.giv = true then .inl 8 else if isRule x.g a = false then .inl 11 else .inr ⟨{ x.g with start := findNo x.g a }, x.giv ++ [startW]⟩
/-- The sign of a gap ahead of a word; the word behind it. -/
def gapOf (s : ByteArray) : Int := if s.data.toList.head? = some 126 then 1 else if s.data.toList.head? = some 33 then 2 else 0
def restOf (s : ByteArray) : ByteArray := if gapOf s = 0 then s else s.extract 1 s.size
def nameIn (s : ByteArray) : ByteArray := (restOf s).extract 0 (upTo 43 (bytes (restOf s)))
noncomputable def itemG (g : Gram) (s : ByteArray) : Int ⊕ Item :=
  if findNo g (nameIn s) < 0 then .inl 11
  else if ¬ upTo 43 (bytes (restOf s)) < (restOf s).size then .inr ⟨isRule g (nameIn s), findNo g (nameIn s), gapOf s, 0⟩
  else if (readN ((restOf s).extract (upTo 43 (bytes (restOf s)) + 1) (restOf s).size).data.toList 8).2 ≠ 0 then .inl (readN ((restOf s).extract (upTo 43 (bytes (restOf s)) + 1) (restOf s).size).data.toList 8).2
  else if (readN ((restOf s).extract (upTo 43 (bytes (restOf s)) + 1) (restOf s).size).data.toList 8).1 = 0 then .inl 2
  else .inr ⟨isRule g (nameIn s), findNo g (nameIn s), gapOf s, (readN ((restOf s).extract (upTo 43 (bytes (restOf s)) + 1) (restOf s).size).data.toList 8).1⟩
noncomputable def itemsG (g : Gram) : List ByteArray → Int ⊕ List Item
  | [] => .inr []
  | s :: r => match itemG g s with
    | .inl e => .inl e
    | .inr y => match itemsG g r with
      | .inl e => .inl e
      | .inr l => .inr (y :: l)
noncomputable def ruleG (x : St) (a : ByteArray) (ws : List ByteArray) : Int ⊕ St :=
  if isRule x.g a = false then .inl 11 else match itemsG x.g ws with
    | .inl e => .inl e
    | .inr l => .inr ⟨{ x.g with prods := x.g.prods ++ [⟨findNo x.g a, l⟩] }, x.giv⟩
def lineT (r : List ByteArray) (f : ByteArray → ByteArray → Int ⊕ St) : Int ⊕ St := match r with
  | [a, c] => f a c
  | _ => .inl 3
def lineO (r : List ByteArray) (f : ByteArray → Int ⊕ St) : Int ⊕ St := match r with
  | [a] => f a
  | _ => .inl 3
/-- A line that counts, by its words. -/
noncomputable def lineG (x : St) (w0 : ByteArray) (r : List ByteArray) : Int ⊕ St :=
  if (w0 == wBound) = true then lineT r (boundG x)
  else if inK w0 clsL = true then lineT r (tokenG x w0)
  else if (w0 == rulesW) = true then rulesG x r
  else if (w0 == startW) = true then lineO r (startG x)
  else if (w0 == ruleW) = true then (match r with
    | a :: ws => ruleG x a ws
    | [] => .inl 3)
  else .inl 23
/-- A line; one without a word, or a remark, does nothing. -/
noncomputable def stepG (x : St) (l : ByteArray) : Int ⊕ St := match wordsOf l with
  | [] => .inr x
  | w0 :: r => if l.data.toList.head? = some 35 then .inr x else lineG x w0 r
noncomputable def linesR : Nat → St → List ByteArray → (Nat × Int) ⊕ St
  | _, x, [] => .inr x
  | i, x, l :: r => match stepG x l with
    | .inl e => .inl (i + 1, e)
    | .inr y => linesR (i + 1) y r
noncomputable def endG (x : St) : Gram × Nat × Int :=
  if x.giv.length ≠ 5 then (g0, 0, 5) else if (checkOf x.g).kind ≠ 0 then (g0, 0, (checkOf x.g).kind) else (x.g, 0, 0)
/-- The grammar of a text; or which line is wrong, and why. -/
noncomputable def readG (s : ByteArray) : Gram × Nat × Int :=
  if 65536 < s.size then (g0, 0, 4) else match linesR 0 ⟨g0, []⟩ (linesOf s) with
    | .inl (n, e) => (g0, n, e)
    | .inr x => endG x
end Go.Proofs.YtfmdmeokbbpmlaaGreat
