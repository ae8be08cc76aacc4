/-
  first.All, first.Starts; the document's All and Starts of layer 22.
-/
import Derived.Test.YtmlggfapnkhcaaaFirstA
import Derived.Test.YtmlggfapnkhcaaaRows2
import Derived.Test.YtmlggfapnkhcaaaSetsT
import Derived.Laws.CopyOwn
namespace Go.Proofs.Ytmlggfapnkhcaaa
open Go.RowKit Go.Shelf
attribute [local simp] wide_fn

/-- The tokens with which each rule begins; none, of what is no grammar. -/
noncomputable def all22 (g : Gram) : List (List Int) := if rightB g = true then allF g (growsB g false) else []
abbrev itR (i : Int) : Item := ⟨true, i, 0, 0⟩
theorem asc_firsts (g : Gram) (l : List Item) : Asc (firsts22 g l) := by
  unfold firsts22
  split
  · exact asc_range _ _
  · exact List.Pairwise.nil
theorem firsts_len (g : Gram) (l : List Item) : (firsts22 g l).length ≤ g.toks.length := by
  unfold firsts22
  split
  · exact firstTo_len g l _
  · simp
theorem bd_firsts (g : Gram) (l : List Item) : Bd g.toks.length (firsts22 g l) := by
  unfold firsts22
  split
  · exact ⟨asc_range _ _, fun z hz => by have := mem_firstL.1 hz; exact ⟨this.1, this.2.1⟩⟩
  · exact Bd.nil _
theorem contains_holds (l : List Int) (z : Int) : l.contains z = holdsB (z ∈ l) := by
  cases h : holdsB (z ∈ l)
  · have : z ∉ l := fun hm => by rw [holdsB_true hm] at h; cases h
    simpa using this
  · have := holdsB_iff.1 h
    simpa using this
theorem heads_one (em : List Bool) (x : Item) : headsOf em [x] = [x] := by
  unfold headsOf
  split <;> rfl
theorem startsL_one {g : Gram} {em : List Bool} {t i : Int} : StartsL g em t [itR i] ↔ Begins g em t i := by
  unfold StartsL
  rw [heads_one]
  constructor
  · rintro ⟨x, hx, ⟨h1, h2⟩ | ⟨h1, h2⟩⟩
    · rw [List.mem_singleton] at hx; subst hx; cases h1
    · rw [List.mem_singleton] at hx; subst hx; exact h2
  · intro h; exact ⟨_, List.mem_singleton.2 rfl, .inr ⟨rfl, h⟩⟩
theorem firsts_one {g : Gram} (hg : rightB g = true) {i : Nat} (hi : i < g.rules.length) : firsts22 g [itR i] = firstR g (growsB g false) g.toks.length i := by
  have hin : itemsIn g [itR i] = true := by
    unfold itemsIn
    rw [List.all_cons, List.all_nil, Bool.and_true]
    rcases itemIn_cases g (itR i) with ⟨_, h⟩ | ⟨h, _⟩
    · exfalso
      rcases h with h | ⟨_, _, h⟩ | ⟨_, h, _⟩
      · dsimp only at h; omega
      · dsimp only at h; omega
      · cases h
    · exact h
  unfold firsts22
  rw [hg, hin, if_pos (by rfl)]
  refine asc_ext (asc_range _ _) (asc_range _ _) (fun z => ?_)
  rw [mem_firstL, mem_firstR, startsL_one]
theorem all22_take {g : Gram} (hg : rightB g = true) {i : Nat} (hi : i < g.rules.length) : (all22 g).take i ++ [firsts22 g [itR i]] = (all22 g).take (i + 1) := by
  unfold all22
  rw [if_pos hg, firsts_one hg hi]
  exact take_snoc_at' (allF_at hi)
theorem all22_len {g : Gram} (hg : rightB g = true) : (all22 g).length = g.rules.length := by
  unfold all22
  rw [if_pos hg, allF_len]
theorem bd_all22 (g : Gram) : ∀ r ∈ all22 g, Bd g.toks.length r := by
  intro r hr
  unfold all22 at hr
  split at hr
  · exact bd_allF g _ r hr
  · cases hr
/-- The rows of what is known, copied. -/
theorem rows2_copy {w w' : World} {B : Nat} {K q o : Nat} {ve : Value} {em : List Bool} {F : List (List Int)} {n : Nat} (hn : n = F.length) (h : KnowAt w K q ve em F) (hm : F.length ≤ maxLen) (hb : Below w.heap.size w w') {t : TypeId} {cs : Array Value} (hq : Holds w q 34 cs) (ho : Holds w' o t cs) (hB : B ≤ q) (hBo : B ≤ o) : Rows2 w' (fun k => B ≤ k ∧ k < w'.heap.size) (.slice (some ⟨o, 0, none⟩) n n) F := by
  subst hn
  obtain ⟨cs', h1, h2, h3⟩ := h.rows
  have e : cs' = cs := by
    have : w.heap[q]? = some (.cells cs 34 (0, 0)) := hq
    rw [show w.heap[q]? = some (.cells cs' 34 (0, 0)) from h1] at this
    simpa using this
  subst e
  refine Rows2.mk' cs'.toList (by simp [h2]) ⟨by simp [h2], _, _, rfl, Nat.le_refl _, hm, fun _ => ⟨o, 0, rfl, ⟨hBo, ho.lt⟩, fun j u hu => by rw [Nat.zero_add, ho.cell j]; simpa using hu⟩⟩ fun i x l hx hl => ?_
  obtain ⟨u, hu, hr⟩ := h3 i x hx
  rw [Array.getElem?_toList] at hl
  rw [hu] at hl
  cases hl
  exact (hr.below hb (fun _ h => h.1)).mono (fun k hk => by have := hb.size; have := hk.1; have := hk.2; omega)

set_option maxRecDepth 20000 in
set_option maxHeartbeats 8000000 in
theorem first_AllN (a b c : Value) (g : Gram) (w : World) (HG : GramIs w (Old w) a b c g) (hsm : Small g) :
    Calls Try.prog 16 #[.agg (gramCells a b c g)] w fun r w' => (∃ u, r = .returned u ∧ Hid (Rows2 w' (fun k => w.heap.size ≤ k ∧ k < w'.heap.size) u (all22 g))) ∧ Below w.heap.size w w' := by
  have HKn := hidden (fun (w' : World) (hb : Below w.heap.size w w') => first_know a b c g w' (HG.old hb) hsm)
  have hN := hsm.rules
  have hb0 := Below.refl w.heap.size w
  generalize hP : all22 g = P
  have HP := hidden hP
  obtain ⟨⟨A1, k1, rfl, v1, m1⟩, ⟨A2, k2, rfl, v2, m2⟩, ⟨A3, k3, rfl, v3, m3⟩⟩ := HG.vals
  clear HG hP hsm
  unfold gramCells at *
  have hbA : Below w.heap.size w (w.alloc (.cells #[.slice A1 g.toks.length k1, .slice A2 g.rules.length k2, .slice A3 g.prods.length k3, .int .i64 g.start, .int .i64 g.states, .int .i64 g.text, .int .i64 g.nodes, .int .i64 g.pairs] 26)) := (by repeat (first | (with_reducible exact Below.refl _ _) | (with_reducible assumption) | (with_reducible refine Below.drew ?_) | (with_reducible refine below_drewN ?_ _) | ((with_reducible refine below_alloc ?_ ?_); (focus (first | omega | (simp; done) | (simp; omega)))) | ((with_reducible refine below_set ?_ ?_); (focus (first | omega | (simp; done) | (simp; omega))))))
  go_enter Try.func16, Try.ntmps16
  go_wp2_with fail
  refine (HKn.out _ (by first | exact hb0 | exact hbA)).mono ?_
  rintro r w2 ⟨⟨vk, rfl, hk⟩, hb2⟩
  replace hb0 : Below w.heap.size w w2 := by first | exact hb0.trans (hb2.mono hb0.size) | exact hbA.trans (hb2.mono hbA.size)
  clear hb2 HKn hbA
  cases hg : rightB g with
  | false =>
    have hk := hk.out
    unfold KnownIs at hk
    rw [hg] at hk
    obtain rfl : vk = .pointer none := hk
    have HE : Hid (P = []) := hidden (by rw [← HP.out]; unfold all22; rw [hg]; rfl)
    go_wp2
    go_ret
    exact ⟨⟨_, rfl, hidden (by rw [HE.out]; exact Rows2.mk' [] rfl (Rd.nil _ _ _) (fun i x l h => by simp at h))⟩, hb0⟩
  | true =>
    have hk := hk.out
    unfold KnownIs at hk
    rw [if_pos hg] at hk
    obtain ⟨K, q, qe, rfl, hq, hka⟩ := hk
    have HBq : Hid (w.heap.size ≤ q) := hidden (by first | omega | (simp at hq; omega))
    have HE : Hid (P = allF g (growsB g false)) := hidden (by rw [← HP.out]; unfold all22; rw [if_pos hg])
    have hl := allF_len g (growsB g false)
    generalize allF g (growsB g false) = F at *
    obtain ⟨cs, h1, h2, h3⟩ := hka.rows
    have HQ := hidden h1
    have HKa := hidden hka
    have k0 : w2.cell? ⟨K, 0, none⟩ = _ := hka.at_.cell 0
    have k1 : w2.cell? ⟨K, 1, none⟩ = some (.slice (some ⟨q, 0, none⟩) F.length F.length) := hka.at_.cell 1
    have hKl : K < w2.heap.size := World.block_lt_of_cell? _ _ k1
    have HOn : Hid (∀ v ∈ cs.toList, v.oneCell' = true) := hidden (fun v hv => by
      obtain ⟨i, hi, e⟩ := List.mem_iff_getElem.1 hv
      have hi' : i < F.length := by rw [← h2]; simpa using hi
      obtain ⟨u, hu, hr⟩ := h3 i _ (List.getElem?_eq_getElem hi')
      have : u = v := by rw [← e]; rw [← Array.getElem?_toList, List.getElem?_eq_getElem hi] at hu; exact (Option.some.inj hu).symm
      subst this
      obtain ⟨_, _, rfl, _, _⟩ := hr.val
      rfl)
    have hcl : cs.toList.length = F.length := by simp [h2]
    have HCl := hidden hcl
    have HH2 := hidden h2
    have hFm : F.length ≤ 100000 := by omega
    have HFl := hidden hFm
    clear hka h1 h3 hcl h2 hl hk
    have hmk : ∀ w : World, (Instr.makeSlice 31 (.int .i64 (F.length : Int)) (.int .i64 (F.length : Int))).run Try.prog w = .ok (.slice (some ⟨w.heap.size, 0, none⟩) F.length F.length) (w.alloc (.cells (nilRows F.length) 34)) := fun w => by
      rw [← made_nils]
      exact run_make_row' (P := Try.prog) 31 34 (.slice none 0 0) 24 (by kernel_rfl) (by kernel_rfl) rfl .i64 .i64 F.length (by omega) (by omega) w
    have HSrc := hidden (fun (j : Nat) (v : Value) (hv : cs.toList[j]? = some v) => (show (w2.alloc (.cells (nilRows F.length) 34)).cell? ((⟨q, 0, none⟩ : Addr).add j) = some v by
      rw [addr_add, Nat.zero_add, (HQ.out.alloc _).cell j]; simpa using hv))
    have HSp : Hid (splice (List.replicate F.length (Value.slice none 0 0)) 0 cs.toList = cs.toList) := hidden (by
      unfold splice
      rw [List.take_zero, List.nil_append, List.drop_of_length_le (by rw [List.length_replicate, HCl.out]; omega), List.append_nil])
    have hbq := (Below.refl w2.heap.size w2).alloc (Nat.le_refl _) (.cells (nilRows F.length) 34)
    have hn0 : cs.toList.length = Nat.min F.length F.length := by rw [HCl.out]; simp
    have HN0 := hidden hn0
    have HHg : Hid ((w2.alloc (.cells (nilRows F.length) 34)).heap[w2.heap.size]? = some (.cells (List.replicate F.length (Value.slice none 0 0)).toArray 34 (0, 0))) := hidden (Holds.new w2 34 (nilRows F.length))
    have HFt : Hid (0 + cs.toList.length ≤ (List.replicate F.length (Value.slice none 0 0)).length) := hidden (by rw [HCl.out, List.length_replicate]; omega)
    clear HCl HH2 hn0 hN hFm
    go_wp2_with (with_reducible show wpList _ _ _ _ _ _; refine wpList_copy_splice rfl _ _ _ _ rfl 34 (by kernel_rfl) (by kernel_rfl) (some ⟨w2.heap.size, 0, none⟩) (some ⟨q, 0, none⟩) F.length F.length F.length F.length rfl rfl w2.heap.size 0 (List.replicate F.length (Value.slice none 0 0)) 34 HHg.out cs.toList HN0.out (fun _ => ⟨rfl, _, rfl, HSrc.out⟩) HFt.out HOn.out w2.heap.size w2 hbq (Nat.le_refl _) ?_; intro w3 HG3 hb3)
    rw [HSp.out] at HG3
    have hb03 := hb0.trans (hb3.mono hb0.size)
    have HFin : Hid (Rows2 w3 (fun k => w.heap.size ≤ k ∧ k < w3.heap.size) (.slice (some ⟨w2.heap.size, 0, none⟩) F.length F.length) P) := hidden (by
      rw [HE.out]
      exact rows2_copy rfl HKa.out (by have := HFl.out; unfold maxLen; omega) hb3 HQ.out (show Holds w3 w2.heap.size 34 cs.toList.toArray from HG3.out) HBq.out hb0.size)
    clear HG3 hb3
    go_wp2
    go_ret
    exact ⟨⟨_, rfl, HFin⟩, hb03⟩

theorem first_All (a b c : Value) (g : Gram) (w : World) (HG : GramIs w (Old w) a b c g) (hsm : Small g) :
    Calls Try.prog 16 #[.agg (gramCells a b c g)] w fun r w' => (∃ u, r = .returned u ∧ Hid (Rows2 w' (Old w') u (all22 g))) ∧ Below w.heap.size w w' :=
  (first_AllN a b c g w HG hsm).mono (by
    rintro r w' ⟨⟨u, rfl, hu⟩, hb⟩
    exact ⟨⟨u, rfl, hidden (Recs.mono hu.out (fun _ h => h.2))⟩, hb⟩)

set_option maxRecDepth 20000 in
set_option maxHeartbeats 8000000 in
theorem first_Starts (a b c : Value) (g : Gram) (r t : Int) (w : World) (HG : GramIs w (Old w) a b c g) (hsm : Small g) :
    Calls Try.prog 21 #[.agg (gramCells a b c g), .int .i64 r, .int .i64 t] w fun e w' => e = .returned (.bool (holdsB (t ∈ firsts22 g [itR r]))) ∧ Below w.heap.size w w' := by
  have HOf := hidden (fun (w' : World) v (hb : Below w.heap.size w w') hR => first_Of a b c v g [itR r] w' (HG.old hb) hsm hR)
  have HHs := hidden (fun (w' : World) v hR => many_Has v (firsts22 g [itR r]) t w' hR (asc_firsts g _) (by have := firsts_len g [itR r]; have := hsm.toks; omega))
  have HCt : Hid ((firsts22 g [itR r]).contains t = holdsB (t ∈ firsts22 g [itR r])) := hidden (contains_holds _ _)
  obtain ⟨⟨A1, k1, rfl, v1, m1⟩, ⟨A2, k2, rfl, v2, m2⟩, ⟨A3, k3, rfl, v3, m3⟩⟩ := HG.vals
  clear HG hsm
  generalize holdsB (t ∈ firsts22 g [itR r]) = res at *
  generalize firsts22 g [itR r] = P at *
  unfold gramCells at *
  have hb0 := Below.refl w.heap.size w
  have hbA : Below w.heap.size w ((w.alloc (.cells #[.slice A1 g.toks.length k1, .slice A2 g.rules.length k2, .slice A3 g.prods.length k3, .int .i64 g.start, .int .i64 g.states, .int .i64 g.text, .int .i64 g.nodes, .int .i64 g.pairs] 26)).alloc (.cells #[.bool true, .int .i64 r, .int .i64 0, .int .i64 0] 49)) := (by repeat (first | (with_reducible exact Below.refl _ _) | (with_reducible assumption) | (with_reducible refine Below.drew ?_) | (with_reducible refine below_drewN ?_ _) | ((with_reducible refine below_alloc ?_ ?_); (focus (first | omega | (simp; done) | (simp; omega)))) | ((with_reducible refine below_set ?_ ?_); (focus (first | omega | (simp; done) | (simp; omega))))))
  have HRd : Hid (Rd ((w.alloc (.cells #[.slice A1 g.toks.length k1, .slice A2 g.rules.length k2, .slice A3 g.prods.length k3, .int .i64 g.start, .int .i64 g.states, .int .i64 g.text, .int .i64 g.nodes, .int .i64 g.pairs] 26)).alloc (.cells #[.bool true, .int .i64 r, .int .i64 0, .int .i64 0] 49)) (Old ((w.alloc (.cells #[.slice A1 g.toks.length k1, .slice A2 g.rules.length k2, .slice A3 g.prods.length k3, .int .i64 g.start, .int .i64 g.states, .int .i64 g.text, .int .i64 g.nodes, .int .i64 g.pairs] 26)).alloc (.cells #[.bool true, .int .i64 r, .int .i64 0, .int .i64 0] 49))) 4 (.slice (some ⟨w.heap.size + 1, 0, none⟩) 1 1) 1 ([itR r].flatMap itCells)) := hidden (rd_litI (Holds.new_at (by simp)) (by simp [Old]) rfl rfl (by decide))
  go_enter Try.func21, Try.ntmps21
  go_wp2_with fail
  refine (HOf.out _ _ hbA HRd.out).mono ?_
  rintro e w2 ⟨⟨u, rfl, hu⟩, hb2⟩
  have hb := hbA.trans (hb2.mono hbA.size)
  have HC := hidden (HHs.out w2 u hu.out)
  rw [HCt.out] at HC
  clear hb2 HOf HRd hbA HHs HCt
  obtain ⟨Au, cu, rfl, _, _⟩ := hu.out.val
  clear hu
  go_wp2_with fail
  refine HC.out.mono ?_
  rintro e w3 ⟨rfl, hb3⟩
  replace hb := hb.trans (hb3.mono hb.size)
  clear hb3 HC
  go_wp2
  go_ret
  exact ⟨rfl, hb⟩

set_option maxRecDepth 20000 in
set_option maxHeartbeats 8000000 in
theorem ref_Starts22 (a b c : Value) (g : Gram) (r t : Int) (w : World) (HG : GramIs w (Old w) a b c g) (hsm : Small g) :
    Calls Try.prog 22 #[.agg (gramCells a b c g), .int .i64 r, .int .i64 t] w fun e w' => e = .returned (.bool (holdsB (t ∈ firsts22 g [itR r]))) ∧ Below w.heap.size w w' := by
  have HOf := hidden (fun (w' : World) v (hb : Below w.heap.size w w') hR => ref_Of22 a b c v g [itR r] w' (HG.old hb) hsm hR)
  have HHs := hidden (fun (w' : World) v hR => ref11_has v (firsts22 g [itR r]) t (Old w') w' hR)
  obtain ⟨⟨A1, k1, rfl, v1, m1⟩, ⟨A2, k2, rfl, v2, m2⟩, ⟨A3, k3, rfl, v3, m3⟩⟩ := HG.vals
  clear HG hsm
  generalize holdsB (t ∈ firsts22 g [itR r]) = res at *
  generalize firsts22 g [itR r] = P at *
  unfold gramCells at *
  have hbA : Below w.heap.size w ((w.alloc (.cells #[.slice A1 g.toks.length k1, .slice A2 g.rules.length k2, .slice A3 g.prods.length k3, .int .i64 g.start, .int .i64 g.states, .int .i64 g.text, .int .i64 g.nodes, .int .i64 g.pairs] 26)).alloc (.cells #[.bool true, .int .i64 r, .int .i64 0, .int .i64 0] 49)) := (by repeat (first | (with_reducible exact Below.refl _ _) | (with_reducible assumption) | (with_reducible refine Below.drew ?_) | (with_reducible refine below_drewN ?_ _) | ((with_reducible refine below_alloc ?_ ?_); (focus (first | omega | (simp; done) | (simp; omega)))) | ((with_reducible refine below_set ?_ ?_); (focus (first | omega | (simp; done) | (simp; omega))))))
  have HRd : Hid (Rd ((w.alloc (.cells #[.slice A1 g.toks.length k1, .slice A2 g.rules.length k2, .slice A3 g.prods.length k3, .int .i64 g.start, .int .i64 g.states, .int .i64 g.text, .int .i64 g.nodes, .int .i64 g.pairs] 26)).alloc (.cells #[.bool true, .int .i64 r, .int .i64 0, .int .i64 0] 49)) (Old ((w.alloc (.cells #[.slice A1 g.toks.length k1, .slice A2 g.rules.length k2, .slice A3 g.prods.length k3, .int .i64 g.start, .int .i64 g.states, .int .i64 g.text, .int .i64 g.nodes, .int .i64 g.pairs] 26)).alloc (.cells #[.bool true, .int .i64 r, .int .i64 0, .int .i64 0] 49))) 4 (.slice (some ⟨w.heap.size + 1, 0, none⟩) 1 1) 1 ([itR r].flatMap itCells)) := hidden (rd_litI (Holds.new_at (by simp)) (by simp [Old]) rfl rfl (by decide))
  go_enter Try.func22, Try.ntmps22
  go_wp2_with fail
  refine (HOf.out _ _ hbA HRd.out).mono ?_
  rintro e w2 ⟨⟨u, rfl, hu⟩, hb2⟩
  have hb := hbA.trans (hb2.mono hbA.size)
  have HC := hidden (HHs.out w2 u (RowM.rd hu.out))
  clear hb2 HOf HRd hbA HHs
  obtain ⟨Au, cu, rfl⟩ := hu.out.value
  clear hu
  go_wp2_with fail
  refine HC.out.mono ?_
  rintro e w3 ⟨rfl, rfl⟩
  clear HC
  go_wp2
  go_ret
  exact ⟨rfl, hb⟩

set_option maxRecDepth 20000 in
set_option maxHeartbeats 8000000 in
theorem ref_All22 (a b c : Value) (g : Gram) (w : World) (HG : GramIs w (Old w) a b c g) (hsm : Small g) :
    Calls Try.prog 17 #[.agg (gramCells a b c g)] w fun r w' => (∃ u, r = .returned u ∧ Hid (Rows2 w' (Old w') u (all22 g))) ∧ Below w.heap.size w w' := by
  have HRi := hidden (fun (w' : World) (hb : Below w.heap.size w w') => ref_Right21 a b c g w' (HG.old hb) hsm.toks hsm.rules hsm.prods hsm.names)
  have HOf := hidden (fun (w' : World) v (i : Int) (hb : Below w.heap.size w w') hR => ref_Of22 a b c v g [itR i] w' (HG.old hb) hsm hR)
  have hN := hsm.rules
  obtain ⟨⟨A1, k1, rfl, v1, m1⟩, ⟨A2, k2, rfl, v2, m2⟩, ⟨A3, k3, rfl, v3, m3⟩⟩ := HG.vals
  have HGk := hidden (Holds.alloc (Holds.new w 26 #[.slice A1 g.toks.length k1, .slice A2 g.rules.length k2, .slice A3 g.prods.length k3, .int .i64 g.start, .int .i64 g.states, .int .i64 g.text, .int .i64 g.nodes, .int .i64 g.pairs]) (.cells #[] 34))
  have hb0 : Below w.heap.size w ((w.alloc (.cells #[.slice A1 g.toks.length k1, .slice A2 g.rules.length k2, .slice A3 g.prods.length k3, .int .i64 g.start, .int .i64 g.states, .int .i64 g.text, .int .i64 g.nodes, .int .i64 g.pairs] 26)).alloc (.cells #[] 34)) := (by repeat (first | (with_reducible exact Below.refl _ _) | (with_reducible assumption) | (with_reducible refine Below.drew ?_) | (with_reducible refine below_drewN ?_ _) | ((with_reducible refine below_alloc ?_ ?_); (focus (first | omega | (simp; done) | (simp; omega)))) | ((with_reducible refine below_set ?_ ?_); (focus (first | omega | (simp; done) | (simp; omega))))))
  have hw0 : w.heap.size < ((w.alloc (.cells #[.slice A1 g.toks.length k1, .slice A2 g.rules.length k2, .slice A3 g.prods.length k3, .int .i64 g.start, .int .i64 g.states, .int .i64 g.text, .int .i64 g.nodes, .int .i64 g.pairs] 26)).alloc (.cells #[] 34)).heap.size := by simp; omega
  have HM0 : Hid (Rows2M (fun k => k = w.heap.size) ((w.alloc (.cells #[.slice A1 g.toks.length k1, .slice A2 g.rules.length k2, .slice A3 g.prods.length k3, .int .i64 g.start, .int .i64 g.states, .int .i64 g.text, .int .i64 g.nodes, .int .i64 g.pairs] 26)).alloc (.cells #[] 34)) w.heap.size (.slice (some ⟨w.heap.size + 1, 0, none⟩) 0 0) []) := hidden (Rows2M.empty _ _ _ (fun g hg => by simp [Value.ownBlock] at hg; subst hg; exact ⟨by omega, by simp⟩))
  have hP : (if rightB g = true then all22 g else []) = all22 g := by unfold all22; split <;> rfl
  have HP := hidden hP
  have HTk := hidden (fun (h : rightB g = true) (i : Nat) (hi : i < g.rules.length) => all22_take h hi)
  have HLn := hidden (fun (h : rightB g = true) => all22_len h)
  clear HG hsm hP
  unfold gramCells at *
  generalize rightB g = rg at *
  generalize all22 g = P at *
  go_enter Try.func17, Try.ntmps17
  go_wp2
  cases rg with
  | false =>
    have HE : Hid (P = []) := hidden (by rw [← HP.out]; rfl)
    go_loopw [3, 4] (fun oo ii wr => oo = .slice (some ⟨w.heap.size + 1, 0, none⟩) 0 0 ∧ ii = .int .i64 0 ∧ Hid (Holds wr w.heap.size 26 #[.slice A1 g.toks.length k1, .slice A2 g.rules.length k2, .slice A3 g.prods.length k3, .int .i64 g.start, .int .i64 g.states, .int .i64 g.text, .int .i64 g.nodes, .int .i64 g.pairs]) ∧ Below w.heap.size w wr) (fun _ _ _ => 0)
    case atStart => exact ⟨rfl, rfl, HGk, hb0⟩
    case round =>
      obtain ⟨rfl, rfl, HGw, hbr⟩ := hrel
      obtain ⟨s0, s1, s2, s3, s4, s5, s6, s7⟩ := eight22 HGw.out
      have hgl := HGw.out.lt
      go_wp2_with fail
      refine (HRi.out _ hbr).mono ?_
      rintro r w2 ⟨rfl, hb2⟩
      replace hbr := hbr.trans (hb2.mono hbr.size)
      clear hb2 s0 s1 s2 s3 s4 s5 s6 s7
      go_wp2
      go_ret
      exact ⟨⟨_, rfl, hidden (by rw [HE.out]; exact Rows2.mk' [] rfl (rd_none _) (fun i x l h => by simp at h))⟩, hbr⟩
  | true =>
    replace HTk := hidden (HTk.out rfl)
    have hPl := HLn.out rfl
    have h0 : P.take 0 = [] := rfl
    rw [← h0] at HM0
    go_loopg [3, 4] g.rules.length (fun gh oo ii wr => ∃ i : Nat, i ≤ g.rules.length ∧ gh = g.rules.length - i ∧ ii = .int .i64 i ∧ Hid (Rows2M (fun k => k = w.heap.size) wr w.heap.size oo (P.take i)) ∧ Hid (Holds wr w.heap.size 26 #[.slice A1 g.toks.length k1, .slice A2 g.rules.length k2, .slice A3 g.prods.length k3, .int .i64 g.start, .int .i64 g.states, .int .i64 g.text, .int .i64 g.nodes, .int .i64 g.pairs]) ∧ Below w.heap.size w wr)
    case atStart => exact ⟨0, by omega, by omega, rfl, HM0, HGk, hb0⟩
    case round =>
      clear HM0 hb0 HGk h0
      obtain ⟨i, hi, rfl, rfl, HM, HGw, hbr⟩ := hrel
      obtain ⟨s0, s1, s2, s3, s4, s5, s6, s7⟩ := eight22 HGw.out
      have hgl := HGw.out.lt
      go_wp2_with fail
      refine (HRi.out _ hbr).mono ?_
      rintro r w2 ⟨rfl, hb2⟩
      replace HGw := hidden (HGw.out.below hb2 HGw.out.lt)
      replace HM := hidden (HM.out.below hb2)
      replace hbr := hbr.trans (hb2.mono hbr.size)
      clear hb2 s0 s1 s2 s3 s4 s5 s6 s7 hgl
      obtain ⟨s0, s1, s2, s3, s4, s5, s6, s7⟩ := eight22 HGw.out
      have hgl := HGw.out.lt
      have hbz := hbr.size
      by_cases hlt : i < g.rules.length
      · have hbA : Below w2.heap.size w2 (w2.alloc (.cells #[.bool true, .int .i64 i, .int .i64 0, .int .i64 0] 49)) := (by repeat (first | (with_reducible exact Below.refl _ _) | (with_reducible assumption) | (with_reducible refine Below.drew ?_) | (with_reducible refine below_drewN ?_ _) | ((with_reducible refine below_alloc ?_ ?_); (focus (first | omega | (simp; done) | (simp; omega)))) | ((with_reducible refine below_set ?_ ?_); (focus (first | omega | (simp; done) | (simp; omega))))))
        have HRd : Hid (Rd (w2.alloc (.cells #[.bool true, .int .i64 i, .int .i64 0, .int .i64 0] 49)) (Old (w2.alloc (.cells #[.bool true, .int .i64 i, .int .i64 0, .int .i64 0] 49))) 4 (.slice (some ⟨w2.heap.size, 0, none⟩) 1 1) 1 ([itR i].flatMap itCells)) := hidden (rd_litI (Holds.new _ _ _) (by simp [Old]) rfl rfl (by decide))
        have hlen : (P.take i).length = i := by rw [List.length_take]; omega
        obtain ⟨Ao, co, hv⟩ := HM.out.value
        rw [hlen] at hv
        subst hv
        have HTi := hidden (HTk.out i hlt)
        have HMh := HM
        clear HTk HM
        go_wp2_with fail
        refine (HOf.out _ _ i (hbr.trans (hbA.mono hbz)) HRd.out).mono ?_
        rintro r w3 ⟨⟨u, rfl, hu⟩, hb3⟩
        have hbB := hbA.trans (hb3.mono hbA.size)
        have HM3 := hidden (HMh.out.below hbB)
        have HG3 := hidden (HGw.out.below hbB HGw.out.lt)
        have hbr3 := hbr.trans (hbB.mono hbz)
        have hsz : w2.heap.size < (w2.alloc (.cells #[.bool true, .int .i64 i, .int .i64 0, .int .i64 0] 49)).heap.size := by simp
        have HU : Hid (Ints w3 (fun b => b < w3.heap.size ∧ (Value.slice Ao i co).ownBlock ≠ some b ∧ ¬ b = w.heap.size) u (firsts22 g [itR i])) := hidden (Mine.rd hu.out (fun q hq h1 h2 => ⟨h2, fun e => by
          obtain ⟨_, _, _, h3, _⟩ := HMh.out
          have := (h3 q e).2
          omega, by omega⟩))
        obtain ⟨Au, cu, rfl, _, _⟩ := HU.out.val
        clear hu hb3 hbB hbA HRd HMh s0 s1 s2 s3 s4 s5 s6 s7
        generalize firsts22 g [itR i] = X at *
        generalize hL : P.take i = L at *
        clear hL
        go_wp2_with (at_builtin; refine wpList_append_ii rfl _ _ rfl w.heap.size _ L HM3 _ X HU rfl rfl rfl (by first | rfl | simp) (by omega) (by have := hbr3.size; omega) (by intro k hk; have := HG3.out.lt; omega) ?_; intro v' w' hA hb9 hK)
        have hHg := HG3.out
        have HGn : Hid (Holds w' w.heap.size 26 #[.slice A1 g.toks.length k1, .slice A2 g.rules.length k2, .slice A3 g.prods.length k3, .int .i64 g.start, .int .i64 g.states, .int .i64 g.text, .int .i64 g.nodes, .int .i64 g.pairs]) := hidden (hK.out.holds (fun e => by
          obtain ⟨_, _, _, h3, _⟩ := HM3.out
          exact (h3 _ e).1 rfl) HG3.out)
        have hbn := hbr3.trans hb9
        rw [HTi.out] at hA
        clear hHg hK hb9 HM3 HG3 HU
        go_roundg (g.rules.length - (i + 1))
        case measure => omega
        case rel => exact ⟨i + 1, by omega, rfl, by go_num, hA, HGn, hbn⟩
      · obtain rfl : i = g.rules.length := by omega
        have HMe := hidden HM.out.old
        rw [List.take_of_length_le (by omega)] at HMe
        go_wp2
        go_ret
        exact ⟨⟨_, rfl, HMe⟩, hbr⟩
end Go.Proofs.Ytmlggfapnkhcaaa
