/-
  m[k] = append(m[k], x) by an entry that is kept: the laws at the operations. The keys of the table's map: a rule and a token. A map of a rule and a token to the numbers of productions, that a call has made. table.fill. table.clash. table.Clash.
-/
import Derived.WideKeyEntry
import Derived.Maps.OwnRows
import Derived.Maps.RangeWalk
import Derived.DeepKeys4
import Derived.Test.YtmlggfapnkhcaaaB1
import Derived.Test.YtmlggfapnkhcaaaH1
import Derived.Test.YtmlggfapnkhcaaaK1
import Derived.WalkSpells
import Derived.StillTailTactics
namespace Go.Proofs.Ytmlggfapnkhcaaa
open Go.ChangeMaps Go.MapKept Go.ChangeShapes Go.RowKit
open Go.WideElems (Fit rd rg pl rd_val elemAt findIdx_arr findIdx_born modify_last set_self other_key)
open Go.Maps (Keyed)

section
variable {H : Type} {P : Program} {w : World} {t k e E : TypeId} {q : IntKind} {base b n : Nat} {D : DataW H}

/-- No element of a map lies in a block of X. -/
def OffB (w : World) (b : Nat) (X : Nat → Prop) : Prop := ∀ es clock, w.heap[b]? = some (.map es clock) → ∀ x ∈ es.toList, ∀ g, x.val.ownBlock = some g → ¬ X g
theorem entry_store3 {R : Value → Option (DataW H × List MemPlace)} {es : Array MapEntry} {clock : Nat} (K : Keyed P k) (ht : P.underlying t = some (.map k E)) {z : Value} (hz : ∀ u : World, (zeroValue E).run P u = .ok z u) (hb : w.heap[b]? = some (.map es clock)) (F : Fit P k R es clock)
    {key : Value} {kl : Lit} (hkey : keyOf P k key = some kl) :
    ∃ (v0 : Value) (st : Nat) (es1 : Array MapEntry) (clock1 : Nat), (Instr.mapEntry t (.map (some b)) key).run P w = .ok (.tuple #[v0, goInt st]) (setBlock w b (.map es1 clock1)) ∧ (Instr.lookup t (.map (some b)) key false).run P w = .ok v0 w ∧ (v0 = z ∨ ∃ e0 ∈ es.toList, v0 = e0.val) ∧
      ∀ (w2 : World) (val : Value), w2.heap[b]? = some (.map es1 clock1) → ∃ es' clock', (Instr.entryStore t (.map (some b)) (goInt st) val).run P w2 = .ok () (setBlock w2 b (.map es' clock')) ∧ (∀ x ∈ es'.toList, x ∈ es.toList ∨ x.val = val) ∧
        ∀ w3 : World, w3.heap[b]? = some (.map es clock) → (Instr.mapUpdate t (.map (some b)) key val).run P w3 = .ok () (setBlock w3 b (.map es' clock')) := by
  obtain ⟨s1, s2, s3⟩ := F.stamped
  have hpw : es.toList.Pairwise (fun x y => x.key ≠ y.key) := ((stamped_iff es clock).1 F.stamped).2.2
  rcases K.find w hkey es.toList F.keys with ⟨h1, h2⟩ | ⟨j, e0, h1, h2, h3⟩
  · refine ⟨z, clock, es.push ⟨key, z, clock⟩, clock + 1, ?_, ?_, .inl rfl, fun w2 val hw2 => ⟨es.push ⟨key, val, clock⟩, clock + 1, ?_, fun x hx => ?_, fun w3 hb3 => ?_⟩⟩
    · simp [Instr.mapEntry, run_underlying ht, MapKept.run_getObj_map hb, K.check w false hkey, h1, hz, MapKept.run_setObj_map _ hb, Result.andThen, setBlock]
    · simp [Instr.lookup, run_underlying ht, MapKept.run_getObj_map hb, K.check w _ hkey, h1, hz, Result.andThen]
    · have hidx : (es.push ⟨key, z, clock⟩).findIdx? (fun e => ((e.born : Nat) : Int) == ((clock : Nat) : Int)) = some es.size := by
        rw [findIdx_arr]
        have := findIdx_born (l := (es.push ⟨key, z, clock⟩).toList) (j := es.size) (e0 := ⟨key, z, clock⟩) (by
          simp only [Array.toList_push, List.map_append, List.map_cons, List.map_nil]
          refine List.nodup_append.2 ⟨s2, by simp, fun a ha c hc e1 => ?_⟩
          simp only [List.mem_singleton] at hc
          obtain ⟨x, hx, rfl⟩ := List.mem_map.1 ha
          have := s1 x hx
          omega) (by simp)
        exact this
      have hmod : (es.push ⟨key, z, clock⟩).modify es.size (fun e => { e with val := val }) = es.push ⟨key, val, clock⟩ := by
        apply Array.ext'
        rw [Array.toList_modify, Array.toList_push, Array.toList_push, ← Array.length_toList, modify_last]
      simp [Instr.entryStore, MapKept.run_getObj_map hw2, asInt, asIntOf, goInt, hidx, hmod, MapKept.run_setObj_map _ hw2, Result.andThen, setBlock]
    · simp only [Array.toList_push, List.mem_append, List.mem_singleton] at hx
      rcases hx with hx | rfl
      · exact .inl hx
      · exact .inr rfl
    · rcases K.find w3 hkey es.toList F.keys with ⟨g1, _⟩ | ⟨j, e0, _, g2, g3⟩
      · simp [Instr.mapUpdate, run_underlying ht, MapKept.run_getObj_map hb3, K.check w3 false hkey, g1, MapKept.run_setObj_map _ hb3, Result.andThen, setBlock]
      · exact absurd g3 (h2 e0 (List.mem_of_getElem? g2))
  · have hj : es[j]? = some e0 := by simpa using h2
    have hsame : es.modify j (fun e => { e with key := key }) = es := by
      apply Array.ext'
      rw [Array.toList_modify, modify_eq_set _ _ _ _ h2]
      have : ({ e0 with key := key } : MapEntry) = e0 := by rw [← h3]
      rw [this]
      exact set_self _ _ _ h2
    refine ⟨e0.val, e0.born, es, clock, ?_, ?_, .inr ⟨e0, List.mem_of_getElem? h2, rfl⟩, fun w2 val hw2 => ⟨es.modify j (fun e' => { e' with key := key, val := val }), clock, ?_, fun x hx => ?_, fun w3 hb3 => ?_⟩⟩
    · simp [Instr.mapEntry, run_underlying ht, MapKept.run_getObj_map hb, K.check w false hkey, h1, hj, h3, K.stays w hkey, hsame, MapKept.run_setObj_map _ hb, Result.andThen, setBlock]
    · simp [Instr.lookup, run_underlying ht, MapKept.run_getObj_map hb, K.check w _ hkey, h1, Result.andThen]
    · have hidx : es.findIdx? (fun e => ((e.born : Nat) : Int) == ((e0.born : Nat) : Int)) = some j := by
        rw [findIdx_arr]
        exact findIdx_born s2 h2
      have hmod : es.modify j (fun e => { e with val := val }) = es.modify j (fun e' => { e' with key := key, val := val }) := by
        apply Array.ext'
        rw [Array.toList_modify, Array.toList_modify, modify_eq_set _ _ _ _ h2, modify_eq_set _ _ _ _ h2, ← h3]
      simp [Instr.entryStore, MapKept.run_getObj_map hw2, asInt, asIntOf, goInt, hidx, hmod, MapKept.run_setObj_map _ hw2, Result.andThen, setBlock]
    · rw [Array.toList_modify, modify_eq_set _ _ _ _ h2] at hx
      rcases List.mem_or_eq_of_mem_set hx with hx | rfl
      · exact .inl hx
      · exact .inr rfl
    · rcases K.find w3 hkey es.toList F.keys with ⟨_, g2⟩ | ⟨j', e', g1, g2, g3⟩
      · exact absurd h3 (g2 e0 (List.mem_of_getElem? h2))
      · have hjj : j' = j := by
          obtain ⟨hl, he⟩ := List.getElem?_eq_some_iff.1 h2
          obtain ⟨hl', he'⟩ := List.getElem?_eq_some_iff.1 g2
          have hp := List.pairwise_iff_getElem.1 hpw
          rcases Nat.lt_trichotomy j' j with h | h | h
          · exact absurd (by rw [he, he', g3, h3]) (hp j' j hl' hl h)
          · exact h
          · exact absurd (by rw [he, he', g3, h3]) (hp j j' hl hl' h)
        subst hjj
        simp [Instr.mapUpdate, run_underlying ht, MapKept.run_getObj_map hb3, K.check w3 false hkey, g1, hj, h3, K.stays w3 hkey, MapKept.run_setObj_map _ hb3, Result.andThen, setBlock]

/-- m[k], in whatever world the map lies as it lay. -/
theorem look_all {R : Value → Option (DataW H × List MemPlace)} {es : Array MapEntry} {clock : Nat} (K : Keyed P k) (ht : P.underlying t = some (.map k E)) {z : Value} (hz : ∀ u : World, (zeroValue E).run P u = .ok z u) (hb : w.heap[b]? = some (.map es clock)) (F : Fit P k R es clock)
    {key : Value} {kl : Lit} (hkey : keyOf P k key = some kl) {v : Value} (hrun : (Instr.lookup t (.map (some b)) key false).run P w = .ok v w) (w' : World) (hw' : w'.heap[b]? = w.heap[b]?) : (Instr.lookup t (.map (some b)) key false).run P w' = .ok v w' := by
  have hb' : w'.heap[b]? = some (.map es clock) := hw'.trans hb
  have hpw : es.toList.Pairwise (fun x y => x.key ≠ y.key) := ((stamped_iff es clock).1 F.stamped).2.2
  rcases K.find w hkey es.toList F.keys with ⟨h1, h2⟩ | ⟨j, e0, h1, h2, h3⟩
  · have e1 : (Instr.lookup t (.map (some b)) key false).run P w = .ok z w := by
      simp [Instr.lookup, run_underlying ht, MapKept.run_getObj_map hb, K.check w _ hkey, h1, hz, Result.andThen]
    rw [e1] at hrun
    injection hrun with e2 _
    rw [← e2]
    rcases K.find w' hkey es.toList F.keys with ⟨g1, _⟩ | ⟨_, e0, _, g2, g3⟩
    · simp [Instr.lookup, run_underlying ht, MapKept.run_getObj_map hb', K.check w' _ hkey, g1, hz, Result.andThen]
    · exact absurd g3 (h2 e0 (List.mem_of_getElem? g2))
  · have e1 : (Instr.lookup t (.map (some b)) key false).run P w = .ok e0.val w := by
      simp [Instr.lookup, run_underlying ht, MapKept.run_getObj_map hb, K.check w _ hkey, h1, Result.andThen]
    rw [e1] at hrun
    injection hrun with e2 _
    rw [← e2]
    rcases K.find w' hkey es.toList F.keys with ⟨_, g2⟩ | ⟨_, e', g1, g2, g3⟩
    · exact absurd h3 (g2 e0 (List.mem_of_getElem? h2))
    · have := entry_eq_of_key hpw (List.mem_of_getElem? h2) (List.mem_of_getElem? g2) (h3.trans g3.symm)
      subst this
      simp [Instr.lookup, run_underlying ht, MapKept.run_getObj_map hb', K.check w' _ hkey, g1, Result.andThen]

/-- The way back from an entry. -/
def EntryBack (w w1 : World) (P : Program) (t k : TypeId) (base : Nat) (e : TypeId) (q : IntKind) (b n : Nat) (D : DataW H) (kl : Lit) (st : Nat) (v : Value) : Prop :=
  ∀ (w2 : World) (v' : Value) (zs' : List Int), w1.grownBy w2 v.ownBlock → w2.ownsInts base e q v' zs' → zs'.length ≤ n + 1 → (v'.ownBlock = v.ownBlock ∨ ∃ g, v'.ownBlock = some g ∧ w1.heap.size ≤ g) →
    ∃ w3, (Instr.entryStore t (.map (some b)) (goInt st) v').run P w2 = .ok () w3 ∧ w3.ownsGroups P k base e q b (n + 1) (D.put kl (rowDatum q v' zs')) ∧ w2.grownBy w3 (some b) ∧ ∀ X, OffB w b X → (∀ g, v'.ownBlock = some g → ¬ X g) → OffB w3 b X

theorem groups_entry {key : Value} {kl : Lit} (h : w.ownsGroups P k base e q b n D) (K : Keyed P k) (ht : P.underlying t = some (.map k E)) (hz : ∀ u : World, (zeroValue E).run P u = .ok (.slice none 0 0) u) (hn : n < maxLen) (hkey : keyOf P k key = some kl) :
    ∃ v zs, ∃ st : Nat, ∃ w1, (Instr.mapEntry t (.map (some b)) key).run P w = .ok (.tuple #[v, goInt st]) w1 ∧ D.atKey kl .nil = rowDatum q v zs ∧ w1.ownsInts base e q v zs ∧ zs.length ≤ n ∧ w.grownBy w1 (some b) ∧ w1.heap.size = w.heap.size ∧ (∀ X, OffB w b X → ∀ g, v.ownBlock = some g → ¬ X g) ∧ EntryBack w w1 P t k base e q b n D kl st v := by
  obtain ⟨v, zs, hlook, hat, hoi, hzl, hback⟩ := h.at K ht (hz w) hn hkey
  obtain ⟨es, clock, hb, F, hs, hD, hbb, hlen, hap⟩ := h
  obtain ⟨v0, st, es1, clock1, hrun, hlook2, hv0, hst⟩ := entry_store3 K ht hz hb F hkey
  rw [hlook] at hlook2
  cases hlook2
  have hblt : b < w.heap.size := (Array.getElem?_eq_some_iff.1 hb).1
  have hg : w.grownBy (setBlock w b (.map es1 clock1)) (some b) := ⟨rfl, rfl, rfl, by simp [setBlock], fun i _ hi => heap_setBlock_other hb _ (fun e1 => hi (by rw [e1]))⟩
  have own_ne : ∀ {u : Value} {ys : List Int} {w' : World}, w'.ownsInts base e q u ys → u.ownBlock ≠ some b := fun {u ys w'} ho e1 => by
    have := (ho.1.lt b e1).1
    omega
  refine ⟨v, zs, st, _, hrun, hat, hoi.kept hg (.inr (own_ne hoi)), hzl, hg, by simp [setBlock], fun X hX g hgv => ?_, ?_⟩
  · rcases hv0 with rfl | ⟨e0, he0, rfl⟩
    · cases hgv
    · exact hX es clock hb e0 he0 g hgv
  intro w2 v' zs' hg2 hown' hl' hloc
  have hb1 : (setBlock w b (.map es1 clock1)).heap[b]? = some (.map es1 clock1) := heap_setBlock_same hb _
  have hb2 : w2.heap[b]? = some (.map es1 clock1) := (hg2.block b (by simpa [setBlock] using hblt) (fun e1 => own_ne hoi e1.symm)).trans hb1
  obtain ⟨es', clock', hstore, hmem, hupd⟩ := hst w2 v' hb2
  -- the world as if no entry had been laid
  have hz2 : (setBlock w b (.map es1 clock1)).heap.size = w.heap.size := by simp [setBlock]
  have hgx : w.grownBy (setBlock w2 b (.map es clock)) v.ownBlock := by
    refine ⟨hg2.os, hg2.tape, hg2.output, ?_, fun i hi hne => ?_⟩
    · have := hg2.size
      rw [hz2] at this
      simpa [setBlock] using this
    · by_cases e1 : i = b
      · subst e1
        rw [heap_setBlock_same hb2, hb]
      · rw [heap_setBlock_other hb2 _ e1, hg2.block i (by rw [hz2]; exact hi) hne, heap_setBlock_other hb _ e1]
  have hgb : w2.grownBy (setBlock w2 b (.map es clock)) (some b) := ⟨rfl, rfl, rfl, by simp [setBlock], fun i _ hi => heap_setBlock_other hb2 _ (fun e1 => hi (by rw [e1]))⟩
  have hownx : (setBlock w2 b (.map es clock)).ownsInts base e q v' zs' := hown'.kept hgb (.inr (own_ne hown'))
  obtain ⟨w3, hrun3, hres, _⟩ := hback _ v' zs' hgx hownx hl' (hloc.imp id (fun ⟨g, h1, h2⟩ => ⟨g, h1, by rw [hz2] at h2; exact h2⟩))
  rw [hupd _ (heap_setBlock_same hb2 _)] at hrun3
  cases hrun3
  have hbx : (setBlock w2 b (.map es clock)).heap[b]? = some (.map es clock) := heap_setBlock_same hb2 _
  have hset : setBlock (setBlock w2 b (.map es clock)) b (.map es' clock') = setBlock w2 b (.map es' clock') := by
    simp [setBlock]
  rw [hset] at hres
  refine ⟨_, hstore, hres, ⟨rfl, rfl, rfl, by simp [setBlock], fun i _ hi => heap_setBlock_other hb2 _ (fun e1 => hi (by rw [e1]))⟩, fun X hX hv' es2 clock2 h2 x hx g hg' => ?_⟩
  rw [heap_setBlock_same hb2] at h2
  cases h2
  rcases hmem x hx with h3 | h3
  · exact hX es clock hb x h3 g hg'
  · rw [h3] at hg'; exact hv' g hg'

end
end Go.Proofs.Ytmlggfapnkhcaaa

namespace Go.Proofs.Ytmlggfapnkhcaaa
open Go.RowKit Go.Shelf
open Go.Maps (Keyed)

set_option maxRecDepth 100000 in
theorem place_info : ∃ f0 f1 : Field, Try.prog.underlying 122 = some (.struct #[f0, f1]) ∧ f0.name ≠ "_" ∧ f1.name ≠ "_" ∧ f0.offset = 0 ∧ f1.offset = 1 ∧ f0.type = 3 ∧ f1.type = 3 := ⟨_, _, rfl, by decide, by decide, rfl, rfl, rfl, rfl⟩
theorem place_wide : (match Try.prog.underlying 122 with | some (.array _ _) | some (.struct _) => true | _ => false) = true := by
  obtain ⟨f0, f1, h, _⟩ := place_info
  rw [h]
theorem place_laid : laidOutB Try.prog = true := by kernel_rfl
theorem place_key : Try.prog.keyType 122 = true := by kernel_rfl
set_option maxRecDepth 100000 in
theorem place_law : Keyed Try.prog 122 := Keyed.of_law (deep_law_laid place_laid (m := 2) (by omega) (of_decide_eq_true (by kernel_rfl)) (by kernel_rfl) place_wide)
def klP (r t : Int) : Lit := .string (keyBytes [.int .i64 r, .int .i64 t])
def wfP (z : Int) : Bool := (Lit.int .i64 z).wf
theorem key_lits (d : Nat) (a b : Value) (X Y : Option (List Lit)) (hX : Try.prog.keyLits (d + 1) 3 [a] = X) (hY : Try.prog.keyLits (d + 1) 3 [b] = Y) : Try.prog.keyLits (d + 1 + 1) 122 [a, b] = (X.bind fun x => Y.bind fun y => some (x ++ y)) := by
  obtain ⟨f0, f1, h, n0, n1, o0, o1, t0, t1⟩ := place_info
  have hc : Try.prog.cellsOf 122 = 2 := by kernel_rfl
  have hi : Try.prog.cellsOf 3 = 1 := by kernel_rfl
  unfold Program.keyLits
  rw [h]
  have e1 : (#[f0, f1] : Array Field).all (fun x => x.name != "_") = true := by simp [n0, n1]
  show (if [a, b].length = Try.prog.cellsOf 122 ∧ (#[f0, f1] : Array Field).all (fun x => x.name != "_") = true then (([f0, f1].mapM fun f => Try.prog.keyLits (d + 1) f.type (([a, b].drop f.offset).take (Try.prog.cellsOf f.type))).map List.flatten) else none) = _
  rw [if_pos ⟨by rw [hc]; rfl, e1⟩]
  simp only [List.mapM_cons, List.mapM_nil, o0, o1, t0, t1, hi, List.drop_zero, List.drop_succ_cons, List.take_succ_cons, List.take_zero, hX, hY]
  cases X <;> cases Y <;> simp
theorem key_int (d : Nat) (v : Value) : Try.prog.keyLits (d + 1) 3 [v] = match v with
    | .int q n => if q = .i64 ∧ wfP n = true then some [.int .i64 n] else none
    | _ => none := by
  have hu : Try.prog.underlying 3 = some (.int .i64) := by kernel_rfl
  unfold Program.keyLits
  rw [hu]
  cases v
  case int q n =>
    show (if q = IntKind.i64 ∧ wfP n = true then some [Lit.int .i64 n] else none) = (if q = IntKind.i64 ∧ wfP n = true then some [Lit.int .i64 n] else none)
    rfl
  all_goals rfl
theorem place_formed (a b : Value) : (Value.agg #[a, b]).formed Try.prog 122 = true := by
  obtain ⟨f0, f1, h, _⟩ := place_info
  have hc : Try.prog.cellsOf 122 = 2 := by kernel_rfl
  simp [Value.formed, h, hc]
theorem key_of (r t : Int) (hr : wfP r = true) (ht : wfP t = true) : keyOf Try.prog 122 (.agg #[.int .i64 r, .int .i64 t]) = some (klP r t) := by
  obtain ⟨f0, f1, h, _⟩ := place_info
  unfold keyOf
  rw [h]
  dsimp only
  rw [place_key, place_formed]
  obtain ⟨d, hd⟩ : ∃ d, Try.prog.types.size + 1 = d + 1 + 1 := ⟨Try.prog.types.size - 1, by
    have : 0 < Try.prog.types.size := of_decide_eq_true (by kernel_rfl)
    omega⟩
  rw [hd]
  show (if (true && true) = true then (Try.prog.keyLits (d + 1 + 1) 122 [.int .i64 r, .int .i64 t]).map (fun ls => Lit.string (keyBytes ls)) else none) = _
  rw [key_lits d _ _ _ _ (key_int d _) (key_int d _)]
  simp [hr, ht, klP]
theorem key_inv {v : Value} {kl : Lit} (hk : keyOf Try.prog 122 v = some kl) : ∃ r t : Int, v = .agg #[.int .i64 r, .int .i64 t] ∧ kl = klP r t ∧ wfP r = true ∧ wfP t = true := by
  obtain ⟨f0, f1, h, _⟩ := place_info
  have hc : Try.prog.cellsOf 122 = 2 := by kernel_rfl
  have hk0 := hk
  unfold keyOf at hk
  rw [h] at hk
  dsimp only at hk
  split at hk
  · rename_i hf
    rw [Bool.and_eq_true] at hf
    have hf := hf.2
    have hcs : v.cells.size = 2 ∧ ∃ cs, v = .agg cs := by
      unfold Value.formed at hf
      rw [h] at hf
      cases v <;> simp [hc] at hf <;> simp [Value.cells, hf]
    obtain ⟨hcs, cs, rfl⟩ := hcs
    have hcl : cs.toList.length = 2 := by simpa [Value.cells] using hcs
    obtain ⟨a, b, e⟩ : ∃ a b, cs.toList = [a, b] := by
      match hL : cs.toList, hcl with
      | [a, b], _ => exact ⟨a, b, rfl⟩
    obtain rfl : cs = #[a, b] := by apply Array.ext'; rw [e]
    obtain ⟨d, hd⟩ : ∃ d, Try.prog.types.size + 1 = d + 1 + 1 := ⟨Try.prog.types.size - 1, by
      have : 0 < Try.prog.types.size := of_decide_eq_true (by kernel_rfl)
      omega⟩
    rw [hd] at hk
    have hk : (Try.prog.keyLits (d + 1 + 1) 122 [a, b]).map (fun ls => Lit.string (keyBytes ls)) = some kl := hk
    rw [key_lits d _ _ _ _ (key_int d _) (key_int d _)] at hk
    have hcase : ∀ v : Value, (∃ n, v = .int .i64 n ∧ wfP n = true ∧ (match v with | .int q n => if q = .i64 ∧ wfP n = true then some [Lit.int .i64 n] else none | _ => none) = some [.int .i64 n]) ∨ (match v with | .int q n => if q = .i64 ∧ wfP n = true then some [Lit.int .i64 n] else none | _ => none) = none := by
      intro v
      cases v
      case int q n =>
        by_cases h : q = .i64 ∧ wfP n = true
        · obtain ⟨rfl, h2⟩ := h
          exact .inl ⟨n, rfl, h2, if_pos ⟨rfl, h2⟩⟩
        · exact .inr (if_neg h)
      all_goals exact .inr rfl
    rcases hcase a with ⟨r, rfl, h1, e1⟩ | e1
    · rcases hcase b with ⟨t, rfl, h2, e2⟩ | e2
      · rw [e1, e2] at hk
        exact ⟨r, t, rfl, (Option.some.inj hk).symm, h1, h2⟩
      · rw [e1, e2] at hk; cases hk
    · rw [e1] at hk; cases hk
  · simp at hk
theorem klP_inj {r t r' t' : Int} (h1 : wfP r = true) (h2 : wfP t = true) (h3 : wfP r' = true) (h4 : wfP t' = true) (h : klP r t = klP r' t') : r = r' ∧ t = t' := by
  have a := key_of r t h1 h2
  have b := key_of r' t' h3 h4
  rw [← h] at b
  have := place_law.inj a b
  simp at this
  exact this
theorem wf_small {z : Int} (h0 : 0 ≤ z) (h1 : z ≤ 1000000) : wfP z = true := by
  unfold wfP
  exact WalkArith.wf_i64 (by omega)
end Go.Proofs.Ytmlggfapnkhcaaa

namespace Go.Proofs.Ytmlggfapnkhcaaa
open Go.RowKit Go.Shelf Go.ChangeMaps Go.ChangeShapes Go.MapKept
open Go.Maps (Keyed)
open Go.WideElems (Fit rd rg pl rd_val elemAt)

theorem grown_below {w w' : World} (h : Below w.heap.size w w') : w.grownBy w' none := ⟨h.os, h.tape, h.output, h.size, fun k hk _ => h.block k hk⟩
theorem below_grown {w w' : World} {b B : Nat} (h : w.grownBy w' (some b)) (hB : B ≤ w.heap.size) (hb : B ≤ b) : Below B w w' := ⟨h.os, h.tape, h.output, h.size, fun k hk => h.block k (by omega) (fun e => by cases e; omega)⟩
/-- What numbers read as among such a map's elements. -/
def rowD (zs : List Int) : DataW Unit := match zs with
  | [] => .nil
  | z :: r => .slice (lits .i64 (z :: r)) []
theorem lits_inj {a b : List Int} (h : (lits (H := Unit) .i64 a) = lits .i64 b) : a = b := by
  unfold lits at h
  exact (List.map_inj_right (fun a b hab => by cases hab; rfl)).1 h
theorem rowD_inj {a b : List Int} (h : rowD a = rowD b) : a = b := by
  cases a <;> cases b <;> simp [rowD] at h
  · rfl
  · exact lits_inj h
/-- BLOCK B IS A MAP THAT READS AS F; its rows lie from base on, and in no block of X. -/
def MapAt (w : World) (B base n : Nat) (X : Nat → Prop) (F : Int → Int → List Int) : Prop :=
  ∃ D : DataW Unit, w.ownsGroups Try.prog 122 base 3 .i64 B n D ∧ Maps.IsMap D ∧ (∀ r t, wfP r = true → wfP t = true → D.atKey (klP r t) .nil = rowD (F r t)) ∧ (∀ r t, wfP r = true → wfP t = true → (Maps.has D (klP r t) = true ↔ F r t ≠ [])) ∧ OffB w B X
theorem MapAt.made {w : World} {B : Nat} (h : w.heap[B]? = some (.map #[] 0)) {base : Nat} (hb : B < base) (X : Nat → Prop) : MapAt w B base 0 X (fun _ _ => []) :=
  ⟨.map [], ⟨#[], 0, h, ⟨by simp, stamped_empty 0, by simp⟩, Nat.le_refl _, rfl, hb, by simp, by simp⟩, ⟨[], rfl⟩, fun _ _ _ _ => rfl, fun _ _ _ _ => by simp [Maps.has], fun es clock he x hx => by rw [h] at he; cases he; simp at hx⟩
theorem MapAt.lt {w : World} {B base n : Nat} {X : Nat → Prop} {F : Int → Int → List Int} (h : MapAt w B base n X F) : B < w.heap.size := by
  obtain ⟨D, ⟨es, clock, hb, _⟩, _⟩ := h
  exact (Array.getElem?_eq_some_iff.1 hb).1
/-- Nothing of it lies in new blocks. -/
theorem MapAt.newX {w w' : World} {B base n : Nat} {X : Nat → Prop} {F : Int → Int → List Int} (h : MapAt w' B base n X F) (h0 : MapAt w B base n X F) (hb : w'.heap[B]? = w.heap[B]?) (Y : Nat → Prop) (hY : ∀ k, Y k → w.heap.size ≤ k) : MapAt w' B base n Y F := by
  obtain ⟨D, h1, h2, h3, h4, _⟩ := h
  refine ⟨D, h1, h2, h3, h4, fun es clock he x hx g hg hy => ?_⟩
  rw [hb] at he
  obtain ⟨D0, ⟨es0, clock0, hb0, F0, _, _, _, _, _⟩, _⟩ := h0
  rw [hb0] at he
  cases he
  obtain ⟨y, hy'⟩ := F0.reads x hx
  obtain ⟨z, hz, _⟩ := rd_val hy'
  obtain ⟨ys, ho, _⟩ := rowElem_inv hz
  have := (ho.1.lt g hg).2
  have := hY g hy
  omega
theorem groups_kept {w w' : World} {base b n : Nat} {D : DataW Unit} (h : w.ownsGroups Try.prog 122 base 3 .i64 b n D) (hb : Below w.heap.size w w') : w'.ownsGroups Try.prog 122 base 3 .i64 b n D := by
  obtain ⟨es, clock, hb1, F, hs, hD, hbb, hlen, hap⟩ := h
  have hg := grown_below hb
  have hlt := (Array.getElem?_eq_some_iff.1 hb1).1
  have hst : ∀ x ∈ es.toList, ∀ z, rowElem (H := Unit) w base 3 .i64 x.val = some z → rowElem w' base 3 .i64 x.val = some z := by
    intro x _ z hz
    obtain ⟨ys, ho, rfl⟩ := rowElem_inv hz
    exact rowElem_mk (ho.kept hg (by cases x.val.ownBlock <;> simp))
  obtain ⟨F2, hmap, _⟩ := F.stay hst
  refine ⟨es, clock, (hb.block b hlt).trans hb1, F2, hs, by rw [hmap]; exact hD, hbb, fun x hx zs ho => ?_, hap⟩
  obtain ⟨y, hy⟩ := F.reads x hx
  obtain ⟨z, hz, _⟩ := rd_val hy
  obtain ⟨ys, ho', _⟩ := rowElem_inv hz
  have := hlen x hx ys ho'
  rw [ho.unique (ho'.kept hg (by cases x.val.ownBlock <;> simp))]
  exact this
theorem MapAt.kept {w w' : World} {B base n : Nat} {X : Nat → Prop} {F : Int → Int → List Int} (h : MapAt w B base n X F) (hb : Below w.heap.size w w') : MapAt w' B base n X F := by
  have hlt := h.lt
  obtain ⟨D, h1, h2, h3, h4, h5⟩ := h
  exact ⟨D, groups_kept h1 hb, h2, h3, h4, fun es clock he => h5 es clock ((hb.block B hlt).symm.trans he)⟩
theorem zero_slice (u : World) : (zeroValue 34).run Try.prog u = .ok (.slice none 0 0) u := by kernel_rfl
theorem map_under : Try.prog.underlying 119 = some (.map 122 34) := by kernel_rfl
theorem datum_is {w : World} {base : Nat} {v : Value} {zs L : List Int} (h : w.ownsInts base 3 .i64 v zs) (e : (rowD L) = rowDatum .i64 v zs) : zs = L := by
  rcases h.datum (H := Unit) with ⟨h1, rfl⟩ | h1
  · rw [h1] at e
    cases L with
    | nil => rfl
    | cons a l => cases e
  · rw [h1] at e
    cases L with
    | nil => cases e
    | cons a l =>
      have : lits (H := Unit) .i64 (a :: l) = lits .i64 zs := by
        have e : DataW.slice (lits .i64 (a :: l)) [] = DataW.slice (lits .i64 zs) [] := e
        injection e
      exact (lits_inj this).symm
/-- The way back, in the words of F. -/
def MapBack (w1 : World) (B base n : Nat) (X : Nat → Prop) (F : Int → Int → List Int) (r t : Int) (st : Nat) (v : Value) : Prop :=
  ∀ (w2 : World) (v' : Value) (z : Int), w1.grownBy w2 v.ownBlock → w2.ownsInts base 3 .i64 v' (F r t ++ [z]) → (F r t).length ≤ n → (∀ g, v'.ownBlock = some g → ¬ X g) → (v'.ownBlock = v.ownBlock ∨ ∃ g, v'.ownBlock = some g ∧ w1.heap.size ≤ g) →
    ∃ w3, (Instr.entryStore 119 (.map (some B)) (goInt st) v').run Try.prog w2 = .ok () w3 ∧ MapAt w3 B base (n + 1) X (fun r' t' => if r' = r ∧ t' = t then F r t ++ [z] else F r' t') ∧ w2.grownBy w3 (some B)
theorem MapAt.entry {w : World} {B base n : Nat} {X : Nat → Prop} {F : Int → Int → List Int} (h : MapAt w B base n X F) (hn : n < maxLen) {r t : Int} (hr : wfP r = true) (ht : wfP t = true) :
    ∃ v, ∃ st : Nat, ∃ w1, (Instr.mapEntry 119 (.map (some B)) (.agg #[.int .i64 r, .int .i64 t])).run Try.prog w = .ok (.tuple #[v, goInt st]) w1 ∧ w1.ownsInts base 3 .i64 v (F r t) ∧ (F r t).length ≤ n ∧ w.grownBy w1 (some B) ∧ w1.heap.size = w.heap.size ∧ (∀ g, v.ownBlock = some g → ¬ X g) ∧ MapBack w1 B base n X F r t st v := by
  obtain ⟨D, h1, h2, h3, h4, h5⟩ := h
  obtain ⟨v, zs, st, w1, hrun, hat, hoi, hzl, hgr, hsz, hoff, hback⟩ := groups_entry h1 place_law map_under zero_slice hn (key_of r t hr ht)
  rw [h3 r t hr ht] at hat
  obtain rfl := datum_is hoi hat
  refine ⟨v, st, w1, hrun, hoi, hzl, hgr, hsz, hoff X h5, fun w2 v' z hg hown hl hX hloc => ?_⟩
  obtain ⟨w3, hrun3, hres, hg3, hoff3⟩ := hback w2 v' _ hg hown (by simp; omega) hloc
  have hk := place_law.key (key_of r t hr ht)
  refine ⟨w3, hrun3, ⟨_, hres, h2.put _ _, fun r' t' hr' ht' => ?_, fun r' t' hr' ht' => ?_, hoff3 X h5 hX⟩, hg3⟩
  · dsimp only
    by_cases e : r' = r ∧ t' = t
    · obtain ⟨rfl, rfl⟩ := e
      rw [Maps.atKey_put_same h2 hk, if_pos ⟨rfl, rfl⟩, hown.datum_pos (by simp)]
      unfold rowD
      split
      · rename_i h0; simp at h0
      · rename_i h0; rw [h0]
    · rw [Maps.atKey_put_other (fun e2 => e (klP_inj hr' ht' hr ht e2)), if_neg e]
      exact h3 r' t' hr' ht'
  · dsimp only
    by_cases e : r' = r ∧ t' = t
    · obtain ⟨rfl, rfl⟩ := e
      rw [Maps.has_put_same h2 hk, if_pos ⟨rfl, rfl⟩]
      simp
    · rw [Maps.has_put_other (fun e2 => e (klP_inj hr' ht' hr ht e2)), if_neg e]
      exact h4 r' t' hr' ht'

theorem wpList_mapEntry_at {w : World} {ops : Array Oper} {rest : List Oper} {o : Oper} {a : Act} {Q : Exit → Act → World → Prop}
    (hg : o.guard = none) (m x : Operand) (hop : o.op = Op.mapEntry 119 m x) (B base n : Nat) (X : Nat → Prop) (F : Int → Int → List Int) (hm : a.eval m = .map (some B)) (hown : Hid (MapAt w B base n X F)) (hn : n < maxLen)
    (r t : Int) (hx : a.eval x = .agg #[.int .i64 r, .int .i64 t]) (hr : wfP r = true) (ht : wfP t = true)
    (hK : ∀ A c (st : Nat) w1, Hid (w1.ownsInts base 3 .i64 (.slice A (F r t).length c) (F r t)) → (F r t).length ≤ n → Hid (w.grownBy w1 (some B)) → w1.heap.size = w.heap.size → Hid (∀ g, (Value.slice A (F r t).length c).ownBlock = some g → ¬ X g) → Hid (MapBack w1 B base n X F r t st (.slice A (F r t).length c)) → wpList Try.prog ops Q rest (a.put o.dst (.tuple #[.slice A (F r t).length c, goInt st])) w1) :
    wpList Try.prog ops Q (o :: rest) a w := by
  refine wpList_plain hg fun K' hK' => ?_
  obtain ⟨v, st, w1, hrun, hoi, hzl, hgr, hsz, hoff, hback⟩ := hown.out.entry hn hr ht
  obtain ⟨A, c, rfl⟩ : ∃ A c, v = .slice A (F r t).length c := by
    rcases hoi.1.2 with ⟨rfl, h0⟩ | ⟨g, cap, cur, rfl, _⟩
    · exact ⟨none, 0, by rw [h0]⟩
    · exact ⟨_, _, rfl⟩
  unfold Oper.wp
  simp [execOp, hop, hm, hx, hrun, Result.andThen]
  exact hK' _ _ (hK A c st w1 (hidden hoi) hzl (hidden hgr) hsz (hidden hoff) (hidden hback))
theorem wpList_entryStore_at {w : World} {ops : Array Oper} {rest : List Oper} {o : Oper} {a : Act} {Q : Exit → Act → World → Prop}
    (hg : o.guard = none) (m s x : Operand) (hop : o.op = Op.entryStore 119 m s x) {w1 : World} {B base n : Nat} {X : Nat → Prop} {F : Int → Int → List Int} {r t : Int} {st : Nat} {v v' : Value} {z : Int}
    (hback : Hid (MapBack w1 B base n X F r t st v)) (hm : a.eval m = .map (some B)) (hs : a.eval s = goInt st) (hv : a.eval x = v') (hl : (F r t).length ≤ n) (hgr : w1.grownBy w v.ownBlock) (hown : w.ownsInts base 3 .i64 v' (F r t ++ [z])) (hX : ∀ g, v'.ownBlock = some g → ¬ X g) (hloc : v'.ownBlock = v.ownBlock ∨ ∃ g, v'.ownBlock = some g ∧ w1.heap.size ≤ g)
    (hK : ∀ w2, Hid (MapAt w2 B base (n + 1) X (fun r' t' => if r' = r ∧ t' = t then F r t ++ [z] else F r' t')) → Hid (w.grownBy w2 (some B)) → wpList Try.prog ops Q rest (a.put o.dst undef) w2) :
    wpList Try.prog ops Q (o :: rest) a w := by
  refine wpList_plain hg fun K' hK' => ?_
  obtain ⟨w2, hrun, r1, r2⟩ := hback.out w v' z hgr hown hl hX hloc
  unfold Oper.wp
  simp [execOp, hop, hm, hs, hv, hrun, Result.andThen]
  exact hK' _ _ (hK w2 (hidden r1) (hidden r2))
/-- m[k], as an equation. -/
theorem MapAt.look {w : World} {B base n : Nat} {X : Nat → Prop} {F : Int → Int → List Int} (h : MapAt w B base n X F) (hn : n < maxLen) {r t : Int} (hr : wfP r = true) (ht : wfP t = true) :
    ∃ A c, (Instr.lookup 119 (.map (some B)) (.agg #[.int .i64 r, .int .i64 t]) false).run Try.prog w = .ok (.slice A (F r t).length c) w ∧ w.ownsInts base 3 .i64 (.slice A (F r t).length c) (F r t) := by
  obtain ⟨D, h1, h2, h3, h4, _⟩ := h
  obtain ⟨v, zs, hrun, hat, hoi, _⟩ := h1.at place_law map_under (zero_slice w) hn (key_of r t hr ht)
  rw [h3 r t hr ht] at hat
  obtain rfl := datum_is hoi hat
  obtain ⟨A, c, rfl⟩ : ∃ A c, v = .slice A (F r t).length c := by
    rcases hoi.1.2 with ⟨rfl, h0⟩ | ⟨g, cap, cur, rfl, _⟩
    · exact ⟨none, 0, by rw [h0]⟩
    · exact ⟨_, _, rfl⟩
  exact ⟨A, c, hrun, hoi⟩

/-! ### Ranging over it -/
/-- A loop over it under way: what is still to come. -/
def RangeAt (w0 : World) (B base rb n : Nat) (F : Int → Int → List Int) (left : Int → Int → Prop) (cnt : Nat) (w : World) : Prop :=
  ∃ (D : DataW Unit) (lf : Lit → Bool), w.ranges Try.prog 122 (rowElem w0 base 3 .i64) B rb n D lf cnt ∧ (∀ r t, wfP r = true → wfP t = true → D.atKey (klP r t) .nil = rowD (F r t)) ∧ ∀ r t, wfP r = true → wfP t = true → (lf (klP r t) = true ↔ left r t)
theorem RangeAt.kept {w0 w w' : World} {B base rb n cnt : Nat} {F : Int → Int → List Int} {left : Int → Int → Prop} (h : RangeAt w0 B base rb n F left cnt w) {row : Option Nat} (hg : w.grownBy w' row) (h1 : row ≠ some B) (h2 : row ≠ some rb) : RangeAt w0 B base rb n F left cnt w' := by
  obtain ⟨D, lf, h, r⟩ := h
  exact ⟨D, lf, h.kept hg (fun e => h1 e.symm) (fun e => h2 e.symm), r⟩
theorem RangeAt.left_eq {w0 w : World} {B base rb n cnt : Nat} {F : Int → Int → List Int} {left : Int → Int → Prop} (h : RangeAt w0 B base rb n F left cnt w) : w.rangeLeft B rb = cnt := by
  obtain ⟨D, lf, h, _⟩ := h
  exact h.left_eq
theorem wpList_range_at {w0 w : World} {ops : Array Oper} {rest : List Oper} {o : Oper} {a : Act} {Q : Exit → Act → World → Prop}
    (hg : o.guard = none) (m : Operand) (hop : o.op = Op.range 119 m) (B base n : Nat) (X : Nat → Prop) (F : Int → Int → List Int) (hm : a.eval m = .map (some B)) (hown : Hid (MapAt w0 B base n X F)) (hw0 : w.heap[B]? = w0.heap[B]?)
    (hK : ∀ w' cnt, Hid (RangeAt w0 B base w.heap.size n F (fun r t => F r t ≠ []) cnt w') → Hid (w.grownBy w' none) → w'.heap.size = w.heap.size + 1 → wpList Try.prog ops Q rest (a.put o.dst (.pointer (some ⟨w.heap.size, 0, none⟩))) w') :
    wpList Try.prog ops Q (o :: rest) a w := by
  obtain ⟨D, ⟨es, clock, hb1, Ft, hs, hD, hbb, hlen, hap⟩, h2, h3, h4, _⟩ := hown.out
  have hmap : w.ownsMap Try.prog 122 (rowElem w0 base 3 .i64) B n D := ⟨es, clock, hw0.trans hb1, Ft, hs, hD⟩
  refine wpList_range_own w hg m _ hop 122 34 place_law map_under (rowElem w0 base 3 .i64) B n D hm hmap ?_
  intro w' hr hg' hs'
  exact hK w' _ (hidden ⟨D, Maps.has D, hr, h3, h4⟩) (hidden hg') hs'
theorem sameKey_iff {a b : Lit} (ha : WideAt.IsKeyLit a) : a.sameKey b = true ↔ a = b := ⟨WideAt.sameKey_eq, fun e => by rw [← e]; exact WideAt.sameKey_self ha⟩
theorem wpList_next_at {w0 w : World} {ops : Array Oper} {rest : List Oper} {o : Oper} {a : Act} {Q : Exit → Act → World → Prop}
    (hg : o.guard = none) (it : Operand) (hop : o.op = Op.next it false) (B base rb n cnt : Nat) (F : Int → Int → List Int) (left : Int → Int → Prop) (hit : a.eval it = .pointer (some ⟨rb, 0, none⟩)) (h : Hid (RangeAt w0 B base rb n F left cnt w))
    (hDone : (∀ r t, wfP r = true → wfP t = true → ¬ left r t) → wpList Try.prog ops Q rest (a.put o.dst (.tuple #[.bool false])) w)
    (hMore : ∀ (r t : Int) (A : Option Addr) (c : Nat) (w' : World) (cnt' : Nat), wfP r = true → wfP t = true → left r t → Hid (w0.ownsInts base 3 .i64 (.slice A (F r t).length c) (F r t)) → Hid (RangeAt w0 B base rb n F (fun r' t' => left r' t' ∧ ¬ (r' = r ∧ t' = t)) cnt' w') → cnt' < cnt →
      Hid (w.grownBy w' (some rb)) → w'.heap.size = w.heap.size → (Instr.entry (.pointer (some ⟨rb, 0, none⟩))).run Try.prog w' = .ok (.tuple #[.agg #[.int .i64 r, .int .i64 t], .slice A (F r t).length c]) w' → wpList Try.prog ops Q rest (a.put o.dst (.tuple #[.bool true, .agg #[.int .i64 r, .int .i64 t], .slice A (F r t).length c])) w') :
    wpList Try.prog ops Q (o :: rest) a w := by
  obtain ⟨D, lf, hr, h3, h4⟩ := h.out
  refine wpList_next_ranges (α := Int × Int) (β := Value) w hg it hop 122 place_law (rowElem w0 base 3 .i64) (fun q => .agg #[.int .i64 q.1, .int .i64 q.2]) (fun v => v) (fun key kl hk => ?_) (fun v y _ => ⟨v, rfl⟩) B rb n D lf cnt hit hr (fun _ hl => hDone (fun r t h1 h2 hl2 => ?_)) ?_
  · obtain ⟨r, t, h1, _⟩ := key_inv hk
    exact ⟨(r, t), h1⟩
  · have := (h4 r t h1 h2).2 hl2
    rw [hl] at this
    cases this
  · intro x v kl y w' cnt' hk hlf hv hat hrg hlt hgr hsz hen
    obtain ⟨r, t, h1, rfl, h5, h6⟩ := key_inv hk
    obtain ⟨r', t'⟩ := x
    simp at h1
    obtain ⟨rfl, rfl⟩ := h1
    obtain ⟨zs, ho, rfl⟩ := rowElem_inv hv
    have e := (h3 r' t' h5 h6).symm.trans (hat .nil)
    obtain rfl := datum_is ho e
    obtain ⟨A, c, rfl⟩ : ∃ A c, v = .slice A (F r' t').length c := by
      rcases ho.1.2 with ⟨rfl, h0⟩ | ⟨g, cap, cur, rfl, _⟩
      · exact ⟨none, 0, by rw [h0]⟩
      · exact ⟨_, _, rfl⟩
    refine hMore r' t' A c w' cnt' h5 h6 ((h4 r' t' h5 h6).1 hlf) (hidden ho) (hidden ⟨D, _, hrg, h3, fun a b ha hb => ?_⟩) hlt (hidden hgr) hsz hen
    rw [Bool.and_eq_true, h4 a b ha hb]
    refine and_congr_right fun _ => ?_
    have hkl := place_law.key (key_of a b ha hb)
    rw [Bool.not_eq_true', ← Bool.not_eq_true, sameKey_iff hkl]
    constructor
    · exact fun hn e => hn (by rw [e.1, e.2])
    · exact fun hn e => hn (klP_inj ha hb h5 h6 e)
end Go.Proofs.Ytmlggfapnkhcaaa

namespace Go.Proofs.Ytmlggfapnkhcaaa
open Go.RowKit Go.Shelf Go.ChangeMaps Go.ChangeShapes Go.MapKept
attribute [local simp] wide_fn

section
variable {w0 w w1 w2 w3 : World} {pg pb B base n : Nat} {gc pc : Array Value} {ub X : Nat → Prop} {u v v' : Value} {l : List Int}
theorem holds_ints {t : TypeId} {cs : Array Value} {k : Nat} (h : Holds w k t cs) (ht : t ≠ 3) {zs : List Int} (hv : w.ownsInts base 3 .i64 v zs) : v.ownBlock ≠ some k := by
  intro e
  rcases hv.1.2 with ⟨rfl, _⟩ | ⟨g, cap, cur, rfl, _, hg, _⟩
  · cases e
  · cases e
    have h := h
    unfold Holds at h
    rw [h] at hg
    cases hg
    exact ht rfl
theorem holds_grown {t : TypeId} {cs : Array Value} {k : Nat} {row : Option Nat} (h : Holds w k t cs) (hg : w.grownBy w1 row) (hr : row ≠ some k) : Holds w1 k t cs := (hg.block k h.lt (fun e => hr e.symm)).trans h
theorem rd_grown {T : Nat → Prop} {size m : Nat} {cs : List Value} (h : Rd w T size u m cs) {row : Option Nat} (hg : w.grownBy w1 row) (hr : ∀ k, T k → row ≠ some k) : Rd w1 T size u m cs :=
  Rd.keeps h ⟨hg.size, fun k hk hl => hg.block k hl (fun e => hr k hk e.symm)⟩
/-- What was there when the map was still empty lies as it lay. -/
structure FW (w w2 : World) (B base : Nat) (wx : World) : Prop where
  k : Keeps (fun k => k < base ∧ k ≠ B) w2 wx
  b : Below w.heap.size w wx
  z : base ≤ wx.heap.size
theorem FW.next (h : FW w w2 B base w1) (hb : Below w1.heap.size w1 w3) : FW w w2 B base w3 := ⟨h.k.below hb, h.b.more hb, Nat.le_trans h.z hb.size⟩
theorem FW.grow (h : FW w w2 B base w1) {row : Option Nat} (hg : w1.grownBy w3 row) (hB : w.heap.size ≤ B) (hBb : w.heap.size ≤ base) (hr : ∀ g, row = some g → g = B ∨ base ≤ g) : FW w w2 B base w3 :=
  ⟨h.k.trans ⟨hg.size, fun k hk hl => hg.block k hl (fun e => by rcases hr k e.symm with e2 | e2 <;> have := hk.1 <;> have := hk.2 <;> omega)⟩,
    ⟨hg.os.trans h.b.os, hg.tape.trans h.b.tape, hg.output.trans h.b.output, Nat.le_trans h.b.size hg.size, fun k hk => (hg.block k (Nat.lt_of_lt_of_le hk h.b.size) (fun e => by rcases hr k e.symm with e2 | e2 <;> omega)).trans (h.b.block k hk)⟩, Nat.le_trans h.z hg.size⟩
theorem rd_entry {q : Nat} {x : Value} {t : TypeId} (hq : w.heap[q]? = some (.cells #[x] t (0, 0))) (hg : w.grownBy w1 (some B)) (hne : q ≠ B) : Rd w1 (fun _ => True) 1 (.slice (some ⟨q, 0, none⟩) 1 1) 1 [x] := by
  have hlt := (Array.getElem?_eq_some_iff.1 hq).1
  have h1 : w1.heap[q]? = some (.cells #[x] t (0, 0)) := (hg.block q hlt (fun e => hne (by cases e; rfl))).trans hq
  refine ⟨rfl, _, _, rfl, Nat.le_refl _, by decide, fun _ => ⟨q, 0, rfl, trivial, fun j y hj => ?_⟩⟩
  match j, hj with
  | 0, hj =>
    cases hj
    simp [World.cell?, h1]
theorem appended_grown {zs : List Int} {z : Int} (h : w.ownsInts base 3 .i64 v zs) (hA : Appended w base 3 1 v (zs.length + 1) (zs.map (Value.int .i64) ++ [.int .i64 z]) v' w1) (hz : wfP z = true) : w.grownBy w1 v.ownBlock ∧ w1.ownsInts base 3 .i64 v' (zs ++ [z]) :=
  ⟨⟨hA.below.os, hA.below.tape, hA.below.output, hA.below.size, fun k hk hne => hA.keeps.block k (fun e => hne e.symm) hk⟩, h.appended (Mine.own hA.mine (Nat.succ_pos _)) hz⟩
theorem at_or {m : Nat} {xs : List Value} (hA : Appended w base 3 1 v m xs v' w1) : v'.ownBlock = v.ownBlock ∨ ∃ g, v'.ownBlock = some g ∧ w.heap.size ≤ g := hA.at_.imp id (fun ⟨g, h1, h2, _⟩ => ⟨g, h1, h2⟩)
theorem at_hX {m lo hi : Nat} {xs : List Value} (hA : Appended w base 3 1 v m xs v' w1) (hoff : ∀ g, v.ownBlock = some g → ¬ (lo ≤ g ∧ g < hi)) (hw : hi ≤ w.heap.size) : ∀ g, v'.ownBlock = some g → ¬ (lo ≤ g ∧ g < hi) := by
  intro g hg
  rcases hA.at_ with e | ⟨q, e, h, _⟩
  · exact hoff g (by rw [← e]; exact hg)
  · rw [e] at hg; cases hg; omega
theorem rd_nomap {T : Nat → Prop} {size m : Nat} {cs : List Value} (h : Rd w T size u m cs) {es : Array MapEntry} {clock : Nat} (hB : w.heap[B]? = some (.map es clock)) : Rd w (fun k => T k ∧ k ≠ B) size u m cs := by
  obtain ⟨hl, A, c, hv, h1, h2, h3⟩ := h
  refine ⟨hl, A, c, hv, h1, h2, fun h0 => ?_⟩
  obtain ⟨b, off, e, hT, hc⟩ := h3 h0
  refine ⟨b, off, e, ⟨hT, fun eb => ?_⟩, hc⟩
  have := hc 0 _ (List.getElem?_eq_getElem h0)
  subst eb
  simp [World.cell?, hB] at this
theorem rows2_nomap {T : Nat → Prop} {F : List (List Int)} (h : Rows2 w T u F) {es : Array MapEntry} {clock : Nat} (hB : w.heap[B]? = some (.map es clock)) : Rows2 w (fun k => T k ∧ k ≠ B) u F := by
  obtain ⟨ls, h1, h2, h3⟩ := h
  exact ⟨ls, h1, rd_nomap h2 hB, fun i x l a b => rd_nomap (h3 i x l a b) hB⟩
end

set_option maxRecDepth 20000 in
set_option maxHeartbeats 16000000 in
theorem table_fill (a b c : Value) (g : Gram) (w : World) (HG : GramIs w (Old w) a b c g) (hsm : Small g) (hr : rightB g = true) (ht : g.toks.length ≤ 12) (hru : g.rules.length ≤ 12) (hp30 : g.prods.length ≤ 30) :
    Calls Try.prog 96 #[.agg (gramCells a b c g)] w fun r w' => (∃ B base n, r = .returned (.map (some B)) ∧ Hid (MapAt w' B base n (fun _ => False) (cellTo g g.prods.length)) ∧ n ≤ 1000 ∧ w.heap.size ≤ B ∧ B < base ∧ base ≤ w'.heap.size) ∧ Below w.heap.size w w' := by
  have HF := hidden (fun (w' : World) (hb : Below w.heap.size w w') => follow_All a b c g w' (HG.old hb) hsm)
  have HPp := hidden (fun (w' : World) (hb : Below w.heap.size w w') vb l1 (p : Prod) (hp : p ∈ g.prods) hR hF => table_predict a b c vb l1 g p w' (HG.old hb) hsm hr hp hR hF)
  have HGo := hidden HG.2.2
  have HPl := hidden (fun (p : Prod) (hp : p ∈ g.prods) => (whole22 hr).left p hp)
  have HBd := hidden (bd_predP g)
  have HZ := hidden (fillTo_zero g)
  have HE := hidden (fun (i : Nat) (p : Prod) (h : g.prods[i]? = some p) => fillTo_end h)
  have HSt := hidden (fun (i : Nat) (p : Prod) (k : Nat) (x : Int) (hx : (predP g p)[k]? = some x) => fillTo_step (i := i) hx)
  have HLn := hidden (fillTo_len g)
  have HC0 : Hid (cellTo g 0 = fun _ _ => []) := hidden (by funext r t; rfl)
  obtain ⟨⟨A1, k1, rfl, v1, m1⟩, ⟨A2, k2, rfl, v2, m2⟩, ⟨A3, k3, rfl, v3, m3⟩⟩ := HG.vals
  have hb1 : Below w.heap.size w ((w.alloc (.cells #[.slice A1 g.toks.length k1, .slice A2 g.rules.length k2, .slice A3 g.prods.length k3, .int .i64 g.start, .int .i64 g.states, .int .i64 g.text, .int .i64 g.nodes, .int .i64 g.pairs] 26)).alloc (.map #[] 0)) := (by repeat (first | (with_reducible exact Below.refl _ _) | (with_reducible assumption) | (with_reducible refine Below.drew ?_) | (with_reducible refine below_drewN ?_ _) | ((with_reducible refine below_alloc ?_ ?_); (focus (first | omega | (simp; done) | (simp; omega)))) | ((with_reducible refine below_set ?_ ?_); (focus (first | omega | (simp; done) | (simp; omega))))))
  have HG1 : Hid (Holds ((w.alloc (.cells #[.slice A1 g.toks.length k1, .slice A2 g.rules.length k2, .slice A3 g.prods.length k3, .int .i64 g.start, .int .i64 g.states, .int .i64 g.text, .int .i64 g.nodes, .int .i64 g.pairs] 26)).alloc (.map #[] 0)) w.heap.size 26 #[.slice A1 g.toks.length k1, .slice A2 g.rules.length k2, .slice A3 g.prods.length k3, .int .i64 g.start, .int .i64 g.states, .int .i64 g.text, .int .i64 g.nodes, .int .i64 g.pairs]) := hidden (by repeat (first | (with_reducible assumption) | ((with_reducible refine holds_new ?_); (focus (first | rfl | (simp; done)))) | (with_reducible refine Holds.alloc ?_ _) | (with_reducible refine Holds.drew ?_)))
  have HM1 : Hid (((w.alloc (.cells #[.slice A1 g.toks.length k1, .slice A2 g.rules.length k2, .slice A3 g.prods.length k3, .int .i64 g.start, .int .i64 g.states, .int .i64 g.text, .int .i64 g.nodes, .int .i64 g.pairs] 26)).alloc (.map #[] 0)).heap[w.heap.size + 1]? = some (.map #[] 0)) := hidden (by
    have := (MapKept.heap_alloc (w.alloc (.cells #[.slice A1 g.toks.length k1, .slice A2 g.rules.length k2, .slice A3 g.prods.length k3, .int .i64 g.start, .int .i64 g.states, .int .i64 g.text, .int .i64 g.nodes, .int .i64 g.pairs] 26)) (.map #[] 0)).1
    simpa using this)
  have hmm := @run_makeMap Try.prog
  obtain ⟨s0, s1, s2, s3, s4, s5, s6, s7⟩ := eight22 HG1.out
  clear HG hsm hr
  unfold gramCells maxLen at *
  go_enter Try.func96, Try.ntmps96
  go_wp2_with fail
  refine (HF.out _ hb1).mono ?_
  rintro e w2 ⟨⟨uF, rfl, huF⟩, hb2⟩
  replace HG1 := hidden (HG1.out.below hb2 HG1.out.lt)
  have hBl : w.heap.size + 1 < ((w.alloc (.cells #[.slice A1 g.toks.length k1, .slice A2 g.rules.length k2, .slice A3 g.prods.length k3, .int .i64 g.start, .int .i64 g.states, .int .i64 g.text, .int .i64 g.nodes, .int .i64 g.pairs] 26)).alloc (.map #[] 0)).heap.size := by simp
  have HM2 : Hid (w2.heap[w.heap.size + 1]? = some (.map #[] 0)) := hidden ((hb2.block _ hBl).trans HM1.out)
  replace hb1 := hb1.trans (hb2.mono hb1.size)
  clear hb2 s0 s1 s2 s3 s4 s5 s6 s7 HM1 hBl hmm
  have hBl2 : w.heap.size + 1 < w2.heap.size := (Array.getElem?_eq_some_iff.1 HM2.out).1
  have HRf := hidden (rows2_nomap huF.out HM2.out)
  have HMA : Hid (MapAt w2 (w.heap.size + 1) w2.heap.size 0 (fun _ => False) (cellTo g 0)) := hidden (by rw [HC0.out]; exact MapAt.made HM2.out hBl2 _)
  have HFW : Hid (FW w w2 (w.heap.size + 1) w2.heap.size w2) := hidden ⟨Keeps.refl _ _, hb1, Nat.le_refl _⟩
  obtain ⟨Af, cf, rfl, _, _⟩ := huF.out.value
  obtain ⟨s0, s1, s2, s3, s4, s5, s6, s7⟩ := eight22 HG1.out
  clear huF hb1 HM2 HC0
  have hBase : Hid (w2.heap.size = w2.heap.size) := hidden rfl
  go_wp2
  clear s0 s1 s2 s3 s4 s5 s6 s7
  go_loopg [16] g.prods.length (fun gh ii wx => ∃ i n : Nat, i ≤ g.prods.length ∧ gh = g.prods.length - i ∧ ii = .int .i64 i ∧ n ≤ i * 13 ∧ Hid (MapAt wx (w.heap.size + 1) w2.heap.size n (fun _ => False) (cellTo g i)) ∧ Hid (FW w w2 (w.heap.size + 1) w2.heap.size wx))
  case atStart => exact ⟨0, 0, by omega, by omega, rfl, by omega, HMA, HFW⟩
  case round =>
    clear HMA HFW
    obtain ⟨i, n, hi, rfl, rfl, hn, HM, HW⟩ := hrel
    have HGm := hidden (HW.out.k.holds (show w.heap.size < w2.heap.size ∧ w.heap.size ≠ w.heap.size + 1 from ⟨by omega, by omega⟩) HG1.out)
    obtain ⟨s0, s1, s2, s3, s4, s5, s6, s7⟩ := eight22 HGm.out
    have hgl := HGm.out.lt
    by_cases hil : i < g.prods.length
    · have hx := List.getElem?_eq_getElem hil
      have HPm := hidden (List.getElem_mem hil)
      generalize g.prods[i] = p at *
      have HPx := hidden hx
      obtain ⟨b1, o1, l1, rfl, hT, hat, hin⟩ := HGo.out.at_ hx
      have hin : Rd w (Old w) 4 l1 p.right.length (p.right.flatMap itCells) := hin
      have hT2 : b1 < w.heap.size := hT
      have hT' : b1 < wr.heap.size := Nat.lt_of_lt_of_le hT2 HW.out.b.size
      have hpl := HPl.out p HPm.out
      obtain ⟨m, hm⟩ : ∃ m : Nat, p.left = (m : Int) := ⟨p.left.toNat, by omega⟩
      have hml : m < 12 := by omega
      have y0 : wr.cell? ⟨b1, o1 + i * 2, none⟩ = some (.int .i64 (m : Int)) := by rw [← hm]; exact (HW.out.b.cell (p := ⟨b1, o1 + i * 2, none⟩) hT2).trans (hat 0 _ rfl)
      have y1' := (HW.out.b.cell (p := ⟨b1, o1 + i * 2 + 1, none⟩) hT2).trans (hat 1 _ rfl)
      obtain ⟨A4, k4, rfl, hk4, hm4⟩ := hin.val
      have y1 : wr.cell? ⟨b1, o1 + i * 2 + 1, none⟩ = some (.slice A4 p.right.length k4) := y1'
      have HIn := hidden (fun (wx : World) (hb : Below w.heap.size w wx) => Rd.old hin hb)
      have hal := (Below.refl wr.heap.size wr).alloc (Nat.le_refl _) (.cells #[.int .i64 (m : Int), .slice A4 p.right.length k4] 45)
      have HM4 := hidden (HM.out.kept hal)
      have HW4 := hidden (HW.out.next hal)
      have HP4 := hidden (Holds.new wr 45 #[.int .i64 (m : Int), .slice A4 p.right.length k4])
      have hbz := HW.out.z
      have HMl := hidden hm
      clear hat hx y1' hin hT2 hal HGm HM HW hm hpl
      go_upto_region 5 with fail
      clear y0 y1 hT' s0 s1 s2 s3 s4 s5 s6 s7 hgl
      obtain ⟨w4, hw4⟩ : ∃ w4, w4 = wr.alloc (.cells #[.int .i64 (m : Int), .slice A4 p.right.length k4] 45) := ⟨_, rfl⟩
      rw [← hw4] at HM4 HW4 HP4 ⊢
      have hbz4 : wr.heap.size < w4.heap.size := HP4.out.lt
      clear hw4
      generalize wr.heap.size = pb at *
      have HG4 := hidden (HW4.out.k.holds (show w.heap.size < w2.heap.size ∧ w.heap.size ≠ w.heap.size + 1 from ⟨by omega, by omega⟩) HG1.out)
      obtain ⟨s0, s1, s2, s3, s4, s5, s6, s7⟩ := eight22 HG4.out
      have hgl := HG4.out.lt
      have c0 : w4.cell? ⟨pb, 0, none⟩ = some (.int .i64 (m : Int)) := HP4.out.cell 0
      have c1 : w4.cell? ⟨pb, 1, none⟩ = some (.slice A4 p.right.length k4) := HP4.out.cell 1
      have HRf4 : Hid (Rows2 w4 (Old w4) (.slice Af (fol23 g).length cf) (fol23 g)) := hidden ((Recs.keeps HRf.out HW4.out.k).mono (fun k hk => Nat.lt_of_lt_of_le hk.1 HW4.out.z))
      have HCp := hidden (HPp.out w4 HW4.out.b _ _ p HPm.out (HIn.out _ HW4.out.b) HRf4.out)
      rw [HMl.out] at HCp
      clear HRf4 HG4
      go_wp2_with fail
      refine HCp.out.mono ?_
      rintro e w5 ⟨⟨u5, rfl, hu5⟩, hb5⟩
      have hz5 := hb5.size
      have HM5 := hidden ((HM4.out.kept hb5).newX HM4.out (hb5.block _ HM4.out.lt) (fun k => w4.heap.size ≤ k ∧ k < w5.heap.size) (fun k hk => hk.1))
      have HW5 := hidden (HW4.out.next hb5)
      have HP5 := hidden (HP4.out.below hb5 HP4.out.lt)
      rw [← HZ.out i p] at HM5
      have hUl := (HBd.out p).len
      have HBdp := hidden (HBd.out p)
      have HStp := hidden (HSt.out i p)
      have HEp := hidden (HE.out i p HPx.out)
      obtain ⟨A5, k5, rfl, _, _⟩ := hu5.out.val
      have HU5 : Hid (Ints w5 (fun k => w4.heap.size ≤ k ∧ k < w5.heap.size) (.slice A5 (predP g p).length k5) (predP g p)) := hu5
      clear hb5 c0 c1 s0 s1 s2 s3 s4 s5 s6 s7 HM4 HW4 HP4 hgl hu5 HCp
      have hBX : w2.heap.size ≤ w4.heap.size := by omega
      go_wp2
      go_loopg [26] (predP g p).length (fun gh kk wx => ∃ k n : Nat, k ≤ (predP g p).length ∧ gh = (predP g p).length - k ∧ kk = .int .i64 k ∧ n ≤ i * 13 + k ∧ Hid (MapAt wx (w.heap.size + 1) w2.heap.size n (fun k => w4.heap.size ≤ k ∧ k < w5.heap.size) (fillTo g i p k)) ∧ Hid (FW w w2 (w.heap.size + 1) w2.heap.size wx) ∧ Hid (Holds wx pb 45 #[.int .i64 m, .slice A4 p.right.length k4]) ∧ Hid (Ints wx (fun k => w4.heap.size ≤ k ∧ k < w5.heap.size) (.slice A5 (predP g p).length k5) (predP g p)) ∧ w5.heap.size ≤ wx.heap.size)
      case atStart => exact ⟨0, n, by omega, by omega, rfl, by omega, HM5, HW5, HP5, HU5, Nat.le_refl _⟩
      case round =>
        clear HM5 HW5 HP5 HU5
        obtain ⟨k, n', hk, rfl, rfl, hn', HM, HW, HP, HU, hzx⟩ := hrel
        by_cases hkl : k < (predP g p).length
        · have hx := List.getElem?_eq_getElem hkl
          generalize (predP g p)[k] = x at *
          have hxb := HBdp.out.2 x (List.mem_of_getElem? hx)
          have HSx := hidden (HStp.out k x hx)
          obtain ⟨b6, o6, rfl, hT6, x0⟩ := row_at HU.out hx
          have hT6' : b6 < wr.heap.size := by have := hT6.2; omega
          have c0 : wr.cell? ⟨pb, 0, none⟩ = some (.int .i64 m) := HP.out.cell 0
          have hpb := HP.out.lt
          clear hx hT6
          go_upto_region 9 with fail
          obtain ⟨w9, hw9⟩ : ∃ w9, w9 = wr.alloc (.cells #[.int .i64 (m : Int), .int .i64 x] 122) := ⟨_, rfl⟩
          have HQ9 : Hid (Holds w9 wr.heap.size 122 #[.int .i64 (m : Int), .int .i64 x]) := hidden (by rw [hw9]; exact Holds.new _ _ _)
          have halp : Hid (Below wr.heap.size wr w9) := hidden (by rw [hw9]; exact below_new _ _)
          rw [← hw9]
          have hz9 : wr.heap.size < w9.heap.size := HQ9.out.lt
          clear hw9 x0 c0 hT6'
          have HM0 := hidden ((HM.out.kept halp.out).kept (below_new w9 (.cells #[.int .i64 (i : Int)] 3)))
          have HW0 := hidden ((HW.out.next halp.out).next (below_new w9 (.cells #[.int .i64 (i : Int)] 3)))
          have HP0 := hidden ((HP.out.below halp.out hpb).alloc (.cells #[.int .i64 (i : Int)] 3))
          have HU0 := hidden (Rd.below (Rd.below HU.out halp.out (fun k hk => by have := hk.2; omega)) (below_new w9 (.cells #[.int .i64 (i : Int)] 3)) (fun k hk => by have := hk.2; omega))
          have HC0 : Hid ((w9.alloc (.cells #[.int .i64 (i : Int)] 3)).heap[w9.heap.size]? = some (.cells #[.int .i64 (i : Int)] 3 (0, 0))) := hidden (MapKept.heap_alloc w9 _).1
          have hz0 : (w9.alloc (.cells #[.int .i64 (i : Int)] 3)).heap.size = w9.heap.size + 1 := by simp
          have c0 : w9.cell? ⟨wr.heap.size, 0, none⟩ = some (.int .i64 (m : Int)) := HQ9.out.cell 0
          have c1 : w9.cell? ⟨wr.heap.size, 1, none⟩ = some (.int .i64 x) := HQ9.out.cell 1
          have Hwm := hidden (wf_small (z := (m : Int)) (by omega) (by omega))
          have Hwx := hidden (wf_small (z := x) (by omega) (by omega))
          have Hwi := hidden (wf_small (z := (i : Int)) (by omega) (by omega))
          obtain ⟨i0, hi0, hzz0, hzz1, hzz2⟩ := int_info.out
          have HI0 := hidden (And.intro hi0 (And.intro hzz0 (And.intro hzz1 hzz2)))
          have hlen := HLn.out i p k (m : Int) x
          clear HM HW HP HU halp hi0 hzz0 hzz1 hzz2 HQ9
          generalize hF : fillTo g i p k = F at *
          generalize wr.heap.size = qb at *
          have hpb' : w2.heap.size ≤ pb := hbz
          clear hF
          have HO1 : Hid (∀ u ∈ [Value.int .i64 (i : Int)], u.oneCell' = true) := hidden (fun u hu => by simp at hu; subst hu; rfl)
          have HY := hidden (fun (wx : World) (hg : (w9.alloc (.cells #[.int .i64 (i : Int)] 3)).grownBy wx (some (w.heap.size + 1))) => rd_entry HC0.out hg (by omega))
          go_wp2_with (first | (refine wpList_mapEntry_at rfl _ _ rfl (w.heap.size + 1) w2.heap.size n' _ F rfl HM0 (by unfold maxLen; omega) (m : Int) x rfl Hwm.out Hwx.out ?_; intro A9 c9 st w6 hoi hzl hg6 hz6 hoff hback; have hoiM := hidden (show Mine w6 w2.heap.size 3 1 _ _ _ from .inl hoi.out.1); have hY6 := hidden (HY.out w6 hg6.out)) | (at_builtin; refine wpList_append_all rfl _ _ 34 3 rfl (by kernel_rfl) int_info rfl (by decide) w2.heap.size _ _ _ hoiM _ 1 [.int .i64 (i : Int)] hY6 HO1 rfl rfl (by omega) (by decide) (by omega) ?_; intro v7 w7 hA; have HGr := hidden (appended_grown hoi.out hA.out Hwi.out); obtain ⟨w8, hrun8, hMA0, hg80⟩ := hback.out w7 v7 (i : Int) HGr.out.1 HGr.out.2 hzl (at_hX hA.out hoff.out (by omega)) (at_or hA.out); have hMA := hidden hMA0; have hg8 := hidden hg80; have hrun9 := (show (Instr.entryStore 119 (.map (some (w.heap.size + 1))) (.int .i64 (st : Int)) v7).run Try.prog w7 = .ok () w8 from hrun8); clear hMA0 hg80 hrun8))
          rw [HMl.out] at HSx
          rw [← HSx.out] at hMA
          have hne : ∀ q, (Value.slice A9 (F (m : Int) x).length c9).ownBlock = some q → q = w.heap.size + 1 ∨ w2.heap.size ≤ q := fun q hq => .inr (hoi.out.1.lt q hq).1
          have HW6 := hidden (HW0.out.grow hg6.out (by omega) (by omega) (fun q hq => .inl (by cases hq; rfl)))
          have HW7 := hidden (HW6.out.grow HGr.out.1 (by omega) (by omega) hne)
          have HW8 := hidden (HW7.out.grow hg8.out (by omega) (by omega) (fun q hq => .inl (by cases hq; rfl)))
          have HP6 := hidden (holds_grown HP0.out hg6.out (by intro e; cases e; omega))
          have HP7 := hidden (holds_grown HP6.out HGr.out.1 (holds_ints HP6.out (by decide) hoi.out))
          have HP8 := hidden (holds_grown HP7.out hg8.out (by intro e; cases e; omega))
          have HU6 := hidden (rd_grown HU0.out hg6.out (fun q hq e => by cases e; have := hq.1; omega))
          have HU7 := hidden (rd_grown HU6.out HGr.out.1 (fun q hq e => hoff.out q e hq))
          have HU8 := hidden (rd_grown HU7.out hg8.out (fun q hq e => by cases e; have := hq.1; omega))
          have hz8 : w5.heap.size ≤ w8.heap.size := by have := HGr.out.1.size; have := hg8.out.size; omega
          clear HW0 HW6 HW7 HP0 HP6 HP7 HU0 HU6 HU7 HGr hA hoi hoff hback hg6 hg8 hne
          (try go_wp2)
          go_roundg ((predP g p).length - (k + 1))
          case measure => omega
          case rel => exact ⟨k + 1, n' + 1, by omega, rfl, by go_num, by omega, hMA, HW8, HP8, HU8, hz8⟩
        · obtain rfl : k = (predP g p).length := by omega
          rw [HEp.out] at HM
          have HMn := hidden (HM.out.newX HM.out rfl (fun _ => False) (fun _ h => h.elim))
          clear HM HP HU
          go_wp2
          go_roundg (g.prods.length - (i + 1))
          case measure => omega
          case rel => exact ⟨i + 1, n', by omega, rfl, by go_num, by omega, HMn, HW⟩
    · obtain rfl : i = g.prods.length := by omega
      have hz := HW.out.z
      go_wp2
      go_ret
      exact ⟨⟨_, _, n, rfl, HM, by omega, by omega, by omega, hz⟩, HW.out.b⟩
end Go.Proofs.Ytmlggfapnkhcaaa

namespace Go.Proofs.Ytmlggfapnkhcaaa
open Go.RowKit Go.Shelf Go.ChangeMaps Go.ChangeShapes Go.MapKept
attribute [local simp] wide_fn

/-- The least of the places that have been gone over and have two, or none. -/
def LeastAt (F : Int → Int → List Int) (seen : Int → Int → Prop) (is_ : Bool) (q : Int × Int) : Prop :=
  (is_ = true → seen q.1 q.2 ∧ 2 ≤ (F q.1 q.2).length) ∧ ∀ r t, seen r t → wfP r = true → wfP t = true → 2 ≤ (F r t).length → is_ = true ∧ ¬ before24 (r, t) q
theorem LeastAt.start {F : Int → Int → List Int} {seen : Int → Int → Prop} (h : ∀ r t, wfP r = true → wfP t = true → ¬ seen r t) (q : Int × Int) : LeastAt F seen false q :=
  ⟨fun e => (by cases e), fun r t h1 h2 h3 _ => absurd h1 (h r t h2 h3)⟩
theorem LeastAt.skip {F : Int → Int → List Int} {seen seen' : Int → Int → Prop} {is_ : Bool} {q : Int × Int} (h : LeastAt F seen is_ q) (r t : Int) (hs : ∀ a b, seen a b → seen' a b) (hs' : ∀ a b, seen' a b → seen a b ∨ (a = r ∧ b = t)) (hn : (F r t).length < 2 ∨ (is_ = true ∧ before24 q (r, t))) : LeastAt F seen' is_ q := by
  refine ⟨fun e => ⟨hs _ _ (h.1 e).1, (h.1 e).2⟩, fun a b h1 h2 h3 h4 => ?_⟩
  rcases hs' a b h1 with h5 | ⟨rfl, rfl⟩
  · exact h.2 a b h5 h2 h3 h4
  · rcases hn with hn | ⟨h6, h7⟩
    · omega
    · refine ⟨h6, fun h8 => ?_⟩
      unfold before24 at h7 h8
      simp only at h7 h8
      omega
theorem LeastAt.take {F : Int → Int → List Int} {seen seen' : Int → Int → Prop} {is_ : Bool} {q : Int × Int} (h : LeastAt F seen is_ q) (r t : Int) (hs1 : seen' r t) (hs' : ∀ a b, seen' a b → seen a b ∨ (a = r ∧ b = t)) (h2 : 2 ≤ (F r t).length) (hn : is_ = true → ¬ before24 q (r, t)) : LeastAt F seen' true (r, t) := by
  refine ⟨fun _ => ⟨hs1, h2⟩, fun a b h1 h3 h4 h5 => ⟨rfl, ?_⟩⟩
  rcases hs' a b h1 with h6 | ⟨rfl, rfl⟩
  · have h7 := h.2 a b h6 h3 h4 h5
    have h8 := hn h7.1
    intro h9
    have h10 := h7.2
    unfold before24 at h8 h9 h10
    simp only at h8 h9 h10
    omega
  · intro h9
    unfold before24 at h9
    simp only at h9
    omega
/-- At its end. -/
theorem LeastAt.end_ {F : Int → Int → List Int} {seen : Int → Int → Prop} {is_ : Bool} {q : Int × Int} (h : LeastAt F seen is_ q) (hall : ∀ r t, wfP r = true → wfP t = true → 2 ≤ (F r t).length → seen r t) : (is_ = true → 2 ≤ (F q.1 q.2).length) ∧ ∀ r t, wfP r = true → wfP t = true → 2 ≤ (F r t).length → is_ = true ∧ ¬ before24 (r, t) q :=
  ⟨fun e => (h.1 e).2, fun r t h1 h2 h3 => h.2 r t (hall r t h1 h2 h3) h1 h2 h3⟩
theorem seen_a {F : Int → Int → List Int} {left : Int → Int → Prop} {r t : Int} (a b : Int) (h : F a b ≠ [] ∧ ¬ left a b) : F a b ≠ [] ∧ ¬ (left a b ∧ (a = r → ¬ b = t)) := ⟨h.1, fun k => h.2 k.1⟩
theorem seen_b {F : Int → Int → List Int} {left : Int → Int → Prop} {r t : Int} (a b : Int) (h : F a b ≠ [] ∧ ¬ (left a b ∧ (a = r → ¬ b = t))) : (F a b ≠ [] ∧ ¬ left a b) ∨ (a = r ∧ b = t) := by
  by_cases h1 : a = r ∧ b = t
  · exact .inr h1
  · exact .inl ⟨h.1, fun k => h.2 ⟨k, fun e1 e2 => h1 ⟨e1, e2⟩⟩⟩
theorem seen_c {F : Int → Int → List Int} {left : Int → Int → Prop} {r t : Int} (h : 2 ≤ (F r t).length) : F r t ≠ [] ∧ ¬ (left r t ∧ (r = r → ¬ t = t)) := ⟨fun e => by rw [e] at h; simp at h, fun k => k.2 rfl rfl⟩
theorem grown_cell (w : World) (b i : Nat) (u : Value) : w.grownBy (w.setCell ⟨b, i, none⟩ u) (some b) := ⟨rfl, rfl, rfl, by simp [World.setCell], fun k _ hk => Below.heap_setCell w ⟨b, i, none⟩ u k (fun e => hk (by rw [e]))⟩

set_option maxRecDepth 20000 in
set_option maxHeartbeats 16000000 in
theorem table_clash (w : World) (B base n : Nat) (F : Int → Int → List Int) (HM : Hid (MapAt w B base n (fun _ => False) F)) (hF : ∀ r t, (F r t).length ≤ 1000) :
    Calls Try.prog 97 #[.map (some B)] w fun r w' => (∃ (q : Int × Int) (is_ : Bool), r = .returned (.tuple #[.agg #[.int .i64 q.1, .int .i64 q.2], .bool is_]) ∧ (is_ = true → (wfP q.1 = true ∧ wfP q.2 = true) ∧ 2 ≤ (F q.1 q.2).length) ∧ ∀ r t, wfP r = true → wfP t = true → 2 ≤ (F r t).length → is_ = true ∧ ¬ before24 (r, t) q) ∧ Below w.heap.size w w' := by
  have hBl := HM.out.lt
  have HM1 := hidden ((HM.out.kept (below_new w (.cells #[.int .i64 0, .int .i64 0] 122))).kept (below_new (w.alloc (.cells #[.int .i64 0, .int .i64 0] 122)) (.cells #[.int .i64 0, .int .i64 0] 122)))
  have hb1 : Hid (Below w.heap.size w ((w.alloc (.cells #[.int .i64 0, .int .i64 0] 122)).alloc (.cells #[.int .i64 0, .int .i64 0] 122))) := hidden (by repeat (first | (with_reducible exact Below.refl _ _) | (with_reducible assumption) | (with_reducible refine Below.drew ?_) | (with_reducible refine below_drewN ?_ _) | ((with_reducible refine below_alloc ?_ ?_); (focus (first | omega | (simp; done) | (simp; omega)))) | ((with_reducible refine below_set ?_ ?_); (focus (first | omega | (simp; done) | (simp; omega))))))
  have HA1 : Hid (Holds ((w.alloc (.cells #[.int .i64 0, .int .i64 0] 122)).alloc (.cells #[.int .i64 0, .int .i64 0] 122)) w.heap.size 122 #[.int .i64 0, .int .i64 0]) := hidden (by repeat (first | (with_reducible assumption) | ((with_reducible refine holds_new ?_); (focus (first | rfl | (simp; done)))) | (with_reducible refine Holds.alloc ?_ _) | (with_reducible refine Holds.drew ?_)))
  have HB1 : Hid (Holds ((w.alloc (.cells #[.int .i64 0, .int .i64 0] 122)).alloc (.cells #[.int .i64 0, .int .i64 0] 122)) (w.heap.size + 1) 122 #[.int .i64 0, .int .i64 0]) := hidden (by repeat (first | (with_reducible assumption) | ((with_reducible refine holds_new ?_); (focus (first | rfl | (simp; done)))) | (with_reducible refine Holds.alloc ?_ _) | (with_reducible refine Holds.drew ?_)))
  clear HM
  go_enter Try.func97, Try.ntmps97
  go_upto_region 2 with fail
  generalize (w.alloc (.cells #[.int .i64 0, .int .i64 0] 122)).alloc (.cells #[.int .i64 0, .int .i64 0] 122) = w1 at *
  have hz1 : w.heap.size + 1 < w1.heap.size := HB1.out.lt
  go_wp2_with (first | (refine wpList_range_at rfl _ rfl B base n _ F rfl HM1 rfl ?_; intro w2 cnt0 HR hg2 hz2) | fail)
  have hb2 := hidden (hb1.out.more (below_grown (B := w1.heap.size) (b := w1.heap.size) (hg2.out.but _) (Nat.le_refl _) (Nat.le_refl _)))
  have HA2 := hidden (holds_grown HA1.out hg2.out (by simp))
  have HB2 := hidden (holds_grown HB1.out hg2.out (by simp))
  have HL : Hid (LeastAt F (fun r t => F r t ≠ [] ∧ ¬ F r t ≠ []) false ((0 : Int), (0 : Int))) := hidden (LeastAt.start (fun r t _ _ h => h.2 h.1) _)
  clear HM1 hb1 HA1 HB1 hg2
  go_frame
  go_loopg [5] (2 * cnt0) (fun gh ii wx => ∃ (left : Int → Int → Prop) (cnt : Nat) (q : Int × Int) (is_ : Bool), gh = 2 * cnt ∧ ii = .bool is_ ∧ Hid (RangeAt w1 B base w1.heap.size n F left cnt wx) ∧ Hid (LeastAt F (fun r t => F r t ≠ [] ∧ ¬ left r t) is_ q) ∧ Hid (wfP q.1 = true ∧ wfP q.2 = true) ∧ Hid (Holds wx w.heap.size 122 #[.int .i64 0, .int .i64 0]) ∧ Hid (Holds wx (w.heap.size + 1) 122 #[.int .i64 q.1, .int .i64 q.2]) ∧ Hid (Below w.heap.size w wx))
  case atStart => exact ⟨_, _, (0, 0), false, rfl, rfl, HR, HL, hidden ⟨wf_small (by decide) (by decide), wf_small (by decide) (by decide)⟩, HA2, HB2, hb2⟩
  case round =>
    clear HR HL HA2 HB2 hb2
    obtain ⟨left, cnt, q, is_, rfl, rfl, HR, HL, Hwf, HA, HB, hbx⟩ := hrel
    go_wp2_with (at_next; refine wpList_next_at rfl _ rfl B base w1.heap.size n cnt F left rfl HR ?_ ?_)
    · intro hdone
      have HE := hidden (HL.out.end_ (fun r t h1 h2 h3 => ⟨fun e => by rw [e] at h3; simp at h3, hdone r t h1 h2⟩))
      clear HL HR hdone
      have c0 : wr.cell? ⟨w.heap.size + 1, 0, none⟩ = some (.int .i64 q.1) := HB.out.cell 0
      have c1 : wr.cell? ⟨w.heap.size + 1, 1, none⟩ = some (.int .i64 q.2) := HB.out.cell 1
      have d0 : wr.cell? ⟨w.heap.size, 0, none⟩ = some (.int .i64 0) := HA.out.cell 0
      have d1 : wr.cell? ⟨w.heap.size, 1, none⟩ = some (.int .i64 0) := HA.out.cell 1
      have f0 := HA.out.frozen 0
      have f1 := HA.out.frozen 1
      have hl0 := HA.out.lt
      have hl1 := HB.out.lt
      have HP := hidden (fun e => And.intro Hwf.out (HE.out.1 e))
      go_wp2
      have HN : Holds ((wr.setCell ⟨w.heap.size, 0, none⟩ (.int .i64 q.1)).setCell ⟨w.heap.size, 1, none⟩ (.int .i64 q.2)) w.heap.size 122 #[.int .i64 q.1, .int .i64 q.2] := holds_set (holds_set HA.out)
      have n0 : ((wr.setCell ⟨w.heap.size, 0, none⟩ (.int .i64 q.1)).setCell ⟨w.heap.size, 1, none⟩ (.int .i64 q.2)).cell? ⟨w.heap.size, 0, none⟩ = some (.int .i64 q.1) := HN.cell 0
      have n1 : ((wr.setCell ⟨w.heap.size, 0, none⟩ (.int .i64 q.1)).setCell ⟨w.heap.size, 1, none⟩ (.int .i64 q.2)).cell? ⟨w.heap.size, 1, none⟩ = some (.int .i64 q.2) := HN.cell 1
      exact bodyPost_ret (v := .tuple #[.agg #[.int .i64 q.1, .int .i64 q.2], .bool is_]) (by simp only [results, Try.results97, go_sem]; simp [n0, n1, go_sem]) rfl ⟨⟨q, is_, rfl, HP.out, HE.out.2⟩, (hbx.out.setCell (p := ⟨w.heap.size, 0, none⟩) (Nat.le_refl _) _).setCell (p := ⟨w.heap.size, 1, none⟩) (Nat.le_refl _) _⟩
    · intro r t A c w3 cnt3 hwr hwt hleft hown HR3 hlt hg3 hz3 hen
      have HA3 := hidden (holds_grown HA.out hg3.out (by intro e; simp at e; omega))
      have HB3 := hidden (holds_grown HB.out hg3.out (by intro e; simp at e; omega))
      have hb3 := hidden (hbx.out.trans (below_grown (B := w.heap.size) hg3.out hbx.out.size (by omega)))
      have HL' := HL
      have hrl := HR3.out
      have HR4 := hidden (HR3.out.kept (World.grownBy_alloc w3 (.cells #[.int .i64 r, .int .i64 t] 122) none) (by simp) (by simp))
      have HA4 := hidden (HA3.out.alloc (.cells #[.int .i64 r, .int .i64 t] 122))
      have HB4 := hidden (HB3.out.alloc (.cells #[.int .i64 r, .int .i64 t] 122))
      have hb4 := hidden (hb3.out.alloc hb3.out.size (.cells #[.int .i64 r, .int .i64 t] 122))
      have HQ4 := hidden (Holds.new w3 122 #[.int .i64 r, .int .i64 t])
      have hw3 : w.heap.size + 1 < w3.heap.size := HB3.out.lt
      have hfl := hF r t
      clear hrl HR HA HB hbx HR3 HA3 HB3 hb3 hg3 hz3 hown HL
      go_upto_region 5 with fail
      clear hen
      generalize w3.alloc (.cells #[.int .i64 r, .int .i64 t] 122) = w4 at *
      generalize w3.heap.size = qb at *
      have x0 : w4.cell? ⟨w.heap.size + 1, 0, none⟩ = some (.int .i64 q.1) := HB4.out.cell 0
      have x1 : w4.cell? ⟨w.heap.size + 1, 1, none⟩ = some (.int .i64 q.2) := HB4.out.cell 1
      have y0 : w4.cell? ⟨qb, 0, none⟩ = some (.int .i64 r) := HQ4.out.cell 0
      have y1 : w4.cell? ⟨qb, 1, none⟩ = some (.int .i64 t) := HQ4.out.cell 1
      have hl1 := HB4.out.lt
      have hlq := HQ4.out.lt
      have Hskip := hidden (fun h => HL'.out.skip r t (seen' := fun a b => F a b ≠ [] ∧ ¬ (left a b ∧ (a = r → ¬ b = t))) seen_a seen_b h)
      have Htake := hidden (fun h1 h2 => HL'.out.take r t (seen' := fun a b => F a b ≠ [] ∧ ¬ (left a b ∧ (a = r → ¬ b = t))) (seen_c h1) seen_b h1 h2)
      clear HL'
      have Hskip' : Hid (((F r t).length < 2 ∨ (is_ = true ∧ before24 q (r, t))) → LeastAt F (fun a b => F a b ≠ [] ∧ ¬ (left a b ∧ (a = r → ¬ b = t))) is_ q) := Hskip
      have Htake' : Hid (2 ≤ (F r t).length → (is_ = true → ¬ before24 q (r, t)) → LeastAt F (fun a b => F a b ≠ [] ∧ ¬ (left a b ∧ (a = r → ¬ b = t))) true (r, t)) := Htake
      clear Hskip Htake
      obtain ⟨q1, q2⟩ := q
      dsimp only at *
      generalize hfn : (F r t).length = fl at *
      have hcase : (fl < 2 ∨ (is_ = true ∧ before24 (q1, q2) (r, t))) ∨ (2 ≤ fl ∧ (is_ = true → ¬ before24 (q1, q2) (r, t))) := by
        by_cases h1 : fl < 2
        · exact .inl (.inl h1)
        · by_cases h2 : is_ = true ∧ before24 (q1, q2) (r, t)
          · exact .inl (.inr h2)
          · exact .inr ⟨by omega, fun e h => h2 ⟨e, h⟩⟩
      rcases hcase with hs | ⟨hs1, hs2⟩
      · have HLn := hidden (Hskip'.out hs)
        clear Hskip' Htake'
        have hcs : fl < 2 ∨ (¬ fl < 2 ∧ is_ = true ∧ q1 < r) ∨ (¬ fl < 2 ∧ is_ = true ∧ ¬ q1 < r ∧ q1 = r ∧ q2 < t) := by
          by_cases h1 : fl < 2
          · exact .inl h1
          · rcases hs with h | ⟨h2, h3⟩
            · exact absurd h h1
            · unfold before24 at h3
              simp only at h3
              rcases h3 with h3 | ⟨h3, h4⟩
              · exact .inr (.inl ⟨h1, h2, h3⟩)
              · exact .inr (.inr ⟨h1, h2, by omega, h3, h4⟩)
        clear hs
        rcases hcs with h1 | ⟨h1, rfl, h3⟩ | ⟨h1, rfl, h3, rfl, h4⟩
        all_goals
          (try have d1 : decide ((fl : Int) < 2) = true := decide_eq_true (by omega))
          (try have d1 : decide ((fl : Int) < 2) = false := decide_eq_false (by omega))
          (try have d2 : decide (q1 < r) = true := decide_eq_true (by omega))
          (try have d3 : decide (q1 < q1) = false := decide_eq_false (by omega))
          (try have d4 : decide (q2 < t) = true := decide_eq_true (by omega))
          clear h1
          (try clear h3)
          (try clear h4)
          go_wp2
          go_roundg (2 * cnt3)
          case measure => omega
          case rel => exact ⟨_, cnt3, (_, _), _, rfl, rfl, HR4, HLn, Hwf, HA4, HB4, hb4⟩
      · have HLn := hidden (Htake'.out hs1 hs2)
        clear Hskip' Htake'
        have f0 := HB4.out.frozen 0
        have f1 := HB4.out.frozen 1
        have HR5 := hidden ((HR4.out.kept (grown_cell w4 (w.heap.size + 1) 0 (.int .i64 r)) (by simp; omega) (by simp; omega)).kept (grown_cell (w4.setCell ⟨w.heap.size + 1, 0, none⟩ (.int .i64 r)) (w.heap.size + 1) 1 (.int .i64 t)) (by simp; omega) (by simp; omega))
        have HA5 := hidden (holds_far (b := w.heap.size + 1) (i := 1) (s := none) (u := .int .i64 t) (by omega) (holds_far (b := w.heap.size + 1) (i := 0) (s := none) (u := .int .i64 r) (by omega) HA4.out))
        have HB5 : Hid (Holds ((w4.setCell ⟨w.heap.size + 1, 0, none⟩ (.int .i64 r)).setCell ⟨w.heap.size + 1, 1, none⟩ (.int .i64 t)) (w.heap.size + 1) 122 #[.int .i64 r, .int .i64 t]) := hidden (holds_set (holds_set HB4.out))
        have hb5 := hidden ((hb4.out.setCell (p := ⟨w.heap.size + 1, 0, none⟩) (by simp) (.int .i64 r)).setCell (p := ⟨w.heap.size + 1, 1, none⟩) (by simp) (.int .i64 t))
        have Hwf5 := hidden (And.intro hwr hwt)
        clear HR4 HA4 HB4 hb4 Hwf HQ4
        have hcs : is_ = false ∨ (is_ = true ∧ ¬ q1 < r ∧ ¬ q1 = r) ∨ (is_ = true ∧ ¬ q1 < r ∧ q1 = r ∧ ¬ q2 < t) := by
          cases is_
          · exact .inl rfl
          · have h := hs2 rfl
            unfold before24 at h
            simp only at h
            by_cases h2 : q1 = r
            · exact .inr (.inr ⟨rfl, by omega, h2, by omega⟩)
            · exact .inr (.inl ⟨rfl, by omega, h2⟩)
        clear hs2
        have d1 : decide ((fl : Int) < 2) = false := decide_eq_false (by omega)
        rcases hcs with rfl | ⟨rfl, h3, h4⟩ | ⟨rfl, h3, rfl, h4⟩
        · go_wp2
          go_roundg (2 * cnt3)
          case measure => omega
          case rel => exact ⟨_, cnt3, (r, t), true, rfl, rfl, HR5, HLn, Hwf5, HA5, HB5, hb5⟩
        · have d2 : decide (q1 < r) = false := decide_eq_false (by omega)
          have d3 : (q1 == r) = false := by simpa using h4
          clear h3 h4
          go_wp2
          go_roundg (2 * cnt3)
          case measure => omega
          case rel => exact ⟨_, cnt3, (r, t), true, rfl, rfl, HR5, HLn, Hwf5, HA5, HB5, hb5⟩
        · have d3 : decide (q1 < q1) = false := decide_eq_false (by omega)
          have d4 : decide (q2 < t) = false := decide_eq_false (by omega)
          clear h3 h4
          go_wp2
          go_roundg (2 * cnt3)
          case measure => omega
          case rel => exact ⟨_, cnt3, (q1, t), true, rfl, rfl, HR5, HLn, Hwf5, HA5, HB5, hb5⟩
end Go.Proofs.Ytmlggfapnkhcaaa

namespace Go.Proofs.Ytmlggfapnkhcaaa
open Go.RowKit Go.Shelf Go.ChangeMaps Go.ChangeShapes Go.MapKept
open Go.WideElems (Fit rd rg pl rd_val elemAt)
attribute [local simp] wide_fn

/-- m[k], in whatever world the map lies as it lay. -/
theorem MapAt.lookAll {w : World} {B base n : Nat} {X : Nat → Prop} {F : Int → Int → List Int} (h : MapAt w B base n X F) (hn : n < maxLen) {r t : Int} (hr : wfP r = true) (ht : wfP t = true) :
    ∃ A c, (∀ w' : World, w'.heap[B]? = w.heap[B]? → (Instr.lookup 119 (.map (some B)) (.agg #[.int .i64 r, .int .i64 t]) false).run Try.prog w' = .ok (.slice A (F r t).length c) w') ∧ w.ownsInts base 3 .i64 (.slice A (F r t).length c) (F r t) := by
  obtain ⟨A, c, hrun, hown⟩ := h.look hn hr ht
  refine ⟨A, c, fun w' hw' => ?_, hown⟩
  obtain ⟨D, ⟨es, clock, hb, Ft, _, _, _, _, _⟩, _⟩ := h
  exact look_all place_law map_under zero_slice hb Ft (key_of r t hr ht) hrun w' hw'
/-- An element of what a slice owns. -/
theorem owns_at {w : World} {base : Nat} {A : Option Addr} {n c i : Nat} {zs : List Int} (h : w.ownsInts base 3 .i64 (.slice A n c) zs) {z : Int} (hz : zs[i]? = some z) : ∃ gb, A = some ⟨gb, 0, none⟩ ∧ base ≤ gb ∧ gb < w.heap.size ∧ w.cell? ⟨gb, i, none⟩ = some (.int .i64 z) := by
  have hi := (List.getElem?_eq_some_iff.1 hz).1
  rcases h.1.2 with ⟨e, h0⟩ | ⟨gb, cap, cur, e, hg, hh, hn, hc, hs, ht⟩
  · rw [h0] at hi; omega
  · cases e
    refine ⟨gb, rfl, hg, (Array.getElem?_eq_some_iff.1 hh).1, ?_⟩
    have e1 : (cur.toList.take (zs.length * 1))[i]? = some (Value.int .i64 z) := by rw [ht, List.getElem?_map, hz]; rfl
    rw [List.getElem?_take_of_lt (by omega)] at e1
    simp only [World.cell?, hh]
    simpa using e1
theorem keep_store {w0 w5 : World} {p qb gb i j k : Nat} {a b c x y z : Value} (h0 : w5.cell? ⟨qb, i, none⟩ = some x) (h1 : w5.cell? ⟨qb, j, none⟩ = some y) (h2 : w5.cell? ⟨gb, k, none⟩ = some z) (hb : Below w0.heap.size w0 w5) (hp : w0.heap.size ≤ p) (hq : qb ≠ p) (hg : gb ≠ p) :
    (((w5.drew.setCell ⟨p, 0, none⟩ a).setCell ⟨p, 1, none⟩ b).setCell ⟨p, 2, none⟩ c).cell? ⟨qb, i, none⟩ = some x ∧ (((w5.drew.setCell ⟨p, 0, none⟩ a).setCell ⟨p, 1, none⟩ b).setCell ⟨p, 2, none⟩ c).cell? ⟨qb, j, none⟩ = some y ∧ (((w5.drew.setCell ⟨p, 0, none⟩ a).setCell ⟨p, 1, none⟩ b).setCell ⟨p, 2, none⟩ c).cell? ⟨gb, k, none⟩ = some z ∧ Below w0.heap.size w0 (((w5.drew.setCell ⟨p, 0, none⟩ a).setCell ⟨p, 1, none⟩ b).setCell ⟨p, 2, none⟩ c) := by
  have key : ∀ (v : World) (u : Value) (m l : Nat) (q : Nat), q ≠ p → (v.setCell ⟨p, m, none⟩ u).cell? ⟨q, l, none⟩ = v.cell? ⟨q, l, none⟩ := fun v u m l q hne => World.cell?_of_block (a := ⟨q, l, none⟩) (Below.heap_setCell v ⟨p, m, none⟩ u q hne)
  refine ⟨?_, ?_, ?_, ((hb.drew.setCell (p := ⟨p, 0, none⟩) hp a).setCell (p := ⟨p, 1, none⟩) hp b).setCell (p := ⟨p, 2, none⟩) hp c⟩
  · rw [key _ _ _ _ _ hq, key _ _ _ _ _ hq, key _ _ _ _ _ hq]; exact h0
  · rw [key _ _ _ _ _ hq, key _ _ _ _ _ hq, key _ _ _ _ _ hq]; exact h1
  · rw [key _ _ _ _ _ hg, key _ _ _ _ _ hg, key _ _ _ _ _ hg]; exact h2
theorem clash_end {g : Gram} (hr : rightB g = true) (ht : g.toks.length ≤ 12) (hru : g.rules.length ≤ 12) {q : Int × Int} {is_ : Bool} (h1 : is_ = true → 2 ≤ (cell24 g q.1 q.2).length) (h2 : ∀ r t, wfP r = true → wfP t = true → 2 ≤ (cell24 g r t).length → is_ = true ∧ ¬ before24 (r, t) q) : clash24 g = if is_ = true then some q else none := by
  have key : ∀ q', two24 g q' = true → is_ = true ∧ ¬ before24 q' q := by
    intro q' h
    have hin := mem_pairs.1 (two_in hr h)
    exact h2 q'.1 q'.2 (wf_small (by omega) (by omega)) (wf_small (by omega) (by omega)) (of_decide_eq_true h)
  cases is_
  · rw [if_neg (by decide)]
    refine clash_no (fun q' => ?_)
    cases e : two24 g q'
    · rfl
    · exact absurd (key q' e).1 (by decide)
  · rw [if_pos rfl]
    exact clash_is hr (decide_eq_true (h1 rfl)) (fun q' h => (key q' h).2)

set_option maxRecDepth 20000 in
set_option maxHeartbeats 16000000 in
theorem table_Clash (a b c : Value) (g : Gram) (w : World) (HG : GramIs w (Old w) a b c g) (hsm : Small g) (ht : g.toks.length ≤ 12) (hru : g.rules.length ≤ 12) (hp30 : g.prods.length ≤ 30) :
    Calls Try.prog 57 #[.agg (gramCells a b c g)] w fun r w' => r = .returned (.tuple #[defC (atD24 g), .int .i64 (second24 g)]) ∧ Below w.heap.size w w' := by
  have HRt := hidden (fun (w' : World) (hb : Below w.heap.size w w') => gram_Right a b c g w' (HG.old hb) hsm.toks hsm.rules hsm.prods hsm.names)
  have HFi := hidden (fun (hr : rightB g = true) (w' : World) (hb : Below w.heap.size w w') => table_fill a b c g w' (HG.old hb) hsm hr ht hru hp30)
  have HAt : Hid (atD24 g = match clash24 g with | some q => ⟨15, q.1, q.2⟩ | none => D0) := hidden rfl
  have HSe : Hid (second24 g = match clash24 g with | some q => (cell24 g q.1 q.2).getD 1 0 | none => -1) := hidden rfl
  have HEnd := hidden (fun (hr : rightB g = true) (q : Int × Int) (is_ : Bool) h1 h2 => clash_end hr ht hru (q := q) (is_ := is_) h1 h2)
  have HNo := hidden (fun (hr : rightB g = false) => (show clash24 g = none from by unfold clash24; rw [hr]; rfl))
  have HLn := hidden (fun (r t : Int) => (show (cell24 g r t).length ≤ 30 from Nat.le_trans (cellTo_len g r t g.prods.length) hp30))
  obtain ⟨⟨A1, k1, rfl, v1, m1⟩, ⟨A2, k2, rfl, v2, m2⟩, ⟨A3, k3, rfl, v3, m3⟩⟩ := HG.vals
  have hb1 : Below w.heap.size w ((w.alloc (.cells #[.slice A1 g.toks.length k1, .slice A2 g.rules.length k2, .slice A3 g.prods.length k3, .int .i64 g.start, .int .i64 g.states, .int .i64 g.text, .int .i64 g.nodes, .int .i64 g.pairs] 26)).alloc (.cells #[.int .i64 0, .int .i64 0, .int .i64 0] 40)) := (by repeat (first | (with_reducible exact Below.refl _ _) | (with_reducible assumption) | (with_reducible refine Below.drew ?_) | (with_reducible refine below_drewN ?_ _) | ((with_reducible refine below_alloc ?_ ?_); (focus (first | omega | (simp; done) | (simp; omega)))) | ((with_reducible refine below_set ?_ ?_); (focus (first | omega | (simp; done) | (simp; omega))))))
  have HG1 : Hid (Holds ((w.alloc (.cells #[.slice A1 g.toks.length k1, .slice A2 g.rules.length k2, .slice A3 g.prods.length k3, .int .i64 g.start, .int .i64 g.states, .int .i64 g.text, .int .i64 g.nodes, .int .i64 g.pairs] 26)).alloc (.cells #[.int .i64 0, .int .i64 0, .int .i64 0] 40)) w.heap.size 26 #[.slice A1 g.toks.length k1, .slice A2 g.rules.length k2, .slice A3 g.prods.length k3, .int .i64 g.start, .int .i64 g.states, .int .i64 g.text, .int .i64 g.nodes, .int .i64 g.pairs]) := hidden (by repeat (first | (with_reducible assumption) | ((with_reducible refine holds_new ?_); (focus (first | rfl | (simp; done)))) | (with_reducible refine Holds.alloc ?_ _) | (with_reducible refine Holds.drew ?_)))
  have HD1 : Hid (Holds ((w.alloc (.cells #[.slice A1 g.toks.length k1, .slice A2 g.rules.length k2, .slice A3 g.prods.length k3, .int .i64 g.start, .int .i64 g.states, .int .i64 g.text, .int .i64 g.nodes, .int .i64 g.pairs] 26)).alloc (.cells #[.int .i64 0, .int .i64 0, .int .i64 0] 40)) (w.heap.size + 1) 40 #[.int .i64 0, .int .i64 0, .int .i64 0]) := hidden (by repeat (first | (with_reducible assumption) | ((with_reducible refine holds_new ?_); (focus (first | rfl | (simp; done)))) | (with_reducible refine Holds.alloc ?_ _) | (with_reducible refine Holds.drew ?_)))
  obtain ⟨s0, s1, s2, s3, s4, s5, s6, s7⟩ := eight22 HG1.out
  clear HG hsm ht hru hp30
  unfold gramCells defC at *
  generalize atD24 g = ad at *
  generalize second24 g = se at *
  go_enter Try.func57, Try.ntmps57
  go_wp2_with fail
  refine (HRt.out _ hb1).mono ?_
  rintro e w2 ⟨rfl, hb2⟩
  replace HG1 := hidden (HG1.out.below hb2 HG1.out.lt)
  replace HD1 := hidden (HD1.out.below hb2 HD1.out.lt)
  replace hb1 := hb1.trans (hb2.mono hb1.size)
  clear hb2 s0 s1 s2 s3 s4 s5 s6 s7 HRt
  cases hr : rightB g
  · rw [HNo.out hr] at HAt HSe
    have HE : Hid (ad = D0 ∧ se = -1) := hidden ⟨HAt.out, HSe.out⟩
    obtain ⟨rfl, rfl⟩ := HE.out
    have d0 : w2.cell? ⟨w.heap.size + 1, 0, none⟩ = some (.int .i64 0) := HD1.out.cell 0
    have d1 : w2.cell? ⟨w.heap.size + 1, 1, none⟩ = some (.int .i64 0) := HD1.out.cell 1
    have d2 : w2.cell? ⟨w.heap.size + 1, 2, none⟩ = some (.int .i64 0) := HD1.out.cell 2
    have f0 := HD1.out.frozen 0
    have f1 := HD1.out.frozen 1
    have f2 := HD1.out.frozen 2
    have hl := HD1.out.lt
    have hlw : w.heap.size < w2.heap.size := HG1.out.lt
    go_wp2
    have HN : Holds (((w2.setCell ⟨w.heap.size + 1, 0, none⟩ (.int .i64 0)).setCell ⟨w.heap.size + 1, 1, none⟩ (.int .i64 0)).setCell ⟨w.heap.size + 1, 2, none⟩ (.int .i64 0)) (w.heap.size + 1) 40 #[.int .i64 0, .int .i64 0, .int .i64 0] := holds_set (holds_set (holds_set HD1.out))
    have n0 := HN.cell 0
    have n1 := HN.cell 1
    have n2 := HN.cell 2
    simp at n0 n1 n2
    exact bodyPost_ret (v := .tuple #[.agg #[.int .i64 0, .int .i64 0, .int .i64 0], .int .i64 (-1)]) (by simp only [results, Try.results57, go_sem]; simp [n0, n1, n2, go_sem]) rfl ⟨rfl, ((hb1.setCell (p := ⟨w.heap.size + 1, 0, none⟩) (by simp) _).setCell (p := ⟨w.heap.size + 1, 1, none⟩) (by simp) _).setCell (p := ⟨w.heap.size + 1, 2, none⟩) (by simp) _⟩
  · obtain ⟨s0, s1, s2, s3, s4, s5, s6, s7⟩ := eight22 HG1.out
    go_wp2_with fail
    refine (HFi.out hr _ hb1).mono ?_
    have hlw2 : w.heap.size + 1 < w2.heap.size := HD1.out.lt
    rintro e w3 ⟨⟨B, base, n, rfl, HM, hn, hwB, hBb, hbs⟩, hb3⟩
    replace HG1 := hidden (HG1.out.below hb3 HG1.out.lt)
    replace HD1 := hidden (HD1.out.below hb3 HD1.out.lt)
    replace hb1 := hb1.trans (hb3.mono hb1.size)
    clear s0 s1 s2 s3 s4 s5 s6 s7 HFi hb3
    have HCl := hidden (table_clash w3 B base n _ HM (fun r t => Nat.le_trans (HLn.out r t) (by omega)))
    go_wp2_with fail
    refine HCl.out.mono ?_
    rintro e w4 ⟨⟨q, is_, rfl, hq1, hq2⟩, hb4⟩
    have HE := hidden (HEnd.out hr q is_ (fun e => (hq1 e).2) hq2)
    replace HG1 := hidden (HG1.out.below hb4 HG1.out.lt)
    replace HD1 := hidden (HD1.out.below hb4 HD1.out.lt)
    have HM4 := hidden (HM.out.kept hb4)
    replace hb1 := hb1.trans (hb4.mono hb1.size)
    clear hb4 HCl HM hq2
    have d0 : w4.cell? ⟨w.heap.size + 1, 0, none⟩ = some (.int .i64 0) := HD1.out.cell 0
    have d1 : w4.cell? ⟨w.heap.size + 1, 1, none⟩ = some (.int .i64 0) := HD1.out.cell 1
    have d2 : w4.cell? ⟨w.heap.size + 1, 2, none⟩ = some (.int .i64 0) := HD1.out.cell 2
    have f0 := HD1.out.frozen 0
    have f1 := HD1.out.frozen 1
    have f2 := HD1.out.frozen 2
    have hl := HD1.out.lt
    have hlw : w.heap.size < w4.heap.size := HG1.out.lt
    cases is_
    · rw [if_neg (by decide)] at HE
      rw [HE.out] at HAt HSe
      have HE2 : Hid (ad = D0 ∧ se = -1) := hidden ⟨HAt.out, HSe.out⟩
      obtain ⟨rfl, rfl⟩ := HE2.out
      clear HAt HSe hq1
      go_wp2
      have HN : Holds ((((w4.setCell ⟨w.heap.size + 1, 0, none⟩ (.int .i64 0)).setCell ⟨w.heap.size + 1, 1, none⟩ (.int .i64 0)).setCell ⟨w.heap.size + 1, 2, none⟩ (.int .i64 0)).alloc (.cells #[.int .i64 q.1, .int .i64 q.2] 122)) (w.heap.size + 1) 40 #[.int .i64 0, .int .i64 0, .int .i64 0] := (holds_set (holds_set (holds_set HD1.out))).alloc _
      have n0 := HN.cell 0
      have n1 := HN.cell 1
      have n2 := HN.cell 2
      simp at n0 n1 n2
      exact bodyPost_ret (v := .tuple #[.agg #[.int .i64 0, .int .i64 0, .int .i64 0], .int .i64 (-1)]) (by simp only [results, Try.results57, go_sem]; simp [n0, n1, n2, go_sem]) rfl ⟨rfl, (((hb1.setCell (p := ⟨w.heap.size + 1, 0, none⟩) (by simp) _).setCell (p := ⟨w.heap.size + 1, 1, none⟩) (by simp) _).setCell (p := ⟨w.heap.size + 1, 2, none⟩) (by simp) _).alloc (by simp; omega) _⟩
    · rw [if_pos rfl] at HE
      rw [HE.out] at HAt HSe
      obtain ⟨⟨hw1, hw2⟩, hl2⟩ := hq1 rfl
      obtain ⟨q1, q2⟩ := q
      dsimp only at *
      have HSx : Hid (se = (cellTo g g.prods.length q1 q2).getD 1 0) := hidden HSe.out
      have hz1 := List.getElem?_eq_getElem (show 1 < (cellTo g g.prods.length q1 q2).length by omega)
      have HSy : Hid ((cellTo g g.prods.length q1 q2)[1]? = some se) := hidden (by rw [HSx.out, List.getD_eq_getElem?_getD, hz1]; rfl)
      have HE2 : Hid (ad = ⟨15, q1, q2⟩) := hidden HAt.out
      obtain rfl := HE2.out
      have HM5 := hidden (HM4.out.kept (below_new w4 (.cells #[.int .i64 q1, .int .i64 q2] 122)))
      obtain ⟨Al, cl, hlook, hown⟩ := HM5.out.lookAll (by unfold maxLen; omega) hw1 hw2
      obtain ⟨gb, rfl, hgb1, hgb2, x1⟩ := owns_at hown HSy.out
      have HB5 := HM5.out.lt
      have HLo := hidden hlook
      have HD5 := hidden (HD1.out.alloc (.cells #[.int .i64 q1, .int .i64 q2] 122))
      have HQ5 := hidden (Holds.new w4 122 #[.int .i64 q1, .int .i64 q2])
      have hb5 := hidden (hb1.alloc hb1.size (.cells #[.int .i64 q1, .int .i64 q2] 122))
      have hBz : B < w4.heap.size := HM4.out.lt
      clear HAt HSe hq1 HSx hz1 hlook hown HSy HM5 hw1 hw2 HM4 d0 d1 d2 f0 f1 f2 HD1 HG1 hb1 HB5
      go_upto_region 7 with fail
      generalize w4.alloc (.cells #[.int .i64 q1, .int .i64 q2] 122) = w5 at *
      have hlook := HLo.out w5.drew rfl
      have hlook2 := HLo.out (((w5.setCell ⟨w.heap.size + 1, 0, none⟩ (.int .i64 15)).setCell ⟨w.heap.size + 1, 1, none⟩ (.int .i64 q1)).setCell ⟨w.heap.size + 1, 2, none⟩ (.int .i64 q2)).drew (by
        have hne : B ≠ w.heap.size + 1 := by omega
        show (((w5.setCell ⟨w.heap.size + 1, 0, none⟩ (.int .i64 15)).setCell ⟨w.heap.size + 1, 1, none⟩ (.int .i64 q1)).setCell ⟨w.heap.size + 1, 2, none⟩ (.int .i64 q2)).heap[B]? = w5.heap[B]?
        rw [Below.heap_setCell _ _ _ _ hne, Below.heap_setCell _ _ _ _ hne, Below.heap_setCell _ _ _ _ hne])
      have y0 : w5.cell? ⟨w4.heap.size, 0, none⟩ = some (.int .i64 q1) := HQ5.out.cell 0
      have y1 : w5.cell? ⟨w4.heap.size, 1, none⟩ = some (.int .i64 q2) := HQ5.out.cell 1
      have hl5 := HQ5.out.lt
      have j1 : (1 : Int) < ((cellTo g g.prods.length q1 q2).length : Int) := by omega
      have j2 : 1 < (cellTo g g.prods.length q1 q2).length := by omega
      clear HLo
      generalize (cellTo g g.prods.length q1 q2).length = nl at *
      have d0 : w5.cell? ⟨w.heap.size + 1, 0, none⟩ = some (.int .i64 0) := HD5.out.cell 0
      have d1 : w5.cell? ⟨w.heap.size + 1, 1, none⟩ = some (.int .i64 0) := HD5.out.cell 1
      have d2 : w5.cell? ⟨w.heap.size + 1, 2, none⟩ = some (.int .i64 0) := HD5.out.cell 2
      have f0 := HD5.out.frozen 0
      have f1 := HD5.out.frozen 1
      have f2 := HD5.out.frozen 2
      have hl6 := HD5.out.lt
      have HB5 := hb5
      go_wp2_with fail
      go_region_held3 (fun w' => w'.cell? ⟨w4.heap.size, 0, none⟩ = some (.int .i64 q1) ∧ w'.cell? ⟨w4.heap.size, 1, none⟩ = some (.int .i64 q2) ∧ w'.cell? ⟨gb, 1, none⟩ = some (.int .i64 se) ∧ Below w.heap.size w w')
        (first | exact ⟨y0, y1, x1, HB5.out.drew⟩ | (go_split_ands; exact keep_store y0 y1 x1 HB5.out (by omega) (by omega) (by omega)))
        (first | fail)
      all_goals
        have HN : Hid (Holds (((w5.setCell ⟨w.heap.size + 1, 0, none⟩ (.int .i64 15)).setCell ⟨w.heap.size + 1, 1, none⟩ (.int .i64 q1)).setCell ⟨w.heap.size + 1, 2, none⟩ (.int .i64 q2)) (w.heap.size + 1) 40 #[.int .i64 15, .int .i64 q1, .int .i64 q2]) := hidden (holds_set (holds_set (holds_set HD5.out)))
        go_wp2
        have n0 := HN.out.cell 0
        have n1 := HN.out.cell 1
        have n2 := HN.out.cell 2
        simp at n0 n1 n2
        exact bodyPost_ret (v := .tuple #[.agg #[.int .i64 15, .int .i64 q1, .int .i64 q2], .int .i64 se]) (by simp only [results, Try.results57, go_sem]; simp [n0, n1, n2, go_sem]) rfl ⟨rfl, (keep_store y0 y1 x1 HB5.out (by omega) (by omega) (by omega)).2.2.2⟩
end Go.Proofs.Ytmlggfapnkhcaaa
