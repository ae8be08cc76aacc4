/-
  law40: leaf, few, knows.
-/
import Derived.Test.YtbjheaiiajpifaaSameG
import Derived.Test.YtbjheaiiajpifaaLits
namespace Go.Proofs.Ytbjheaiiajpifaa.T
open Go.RowKit Go.Shelf

theorem one_nds1 (W : World) (x : Node) (l : Value) (o : Nat) (ho : o = W.heap.size) (hl : Pcs W (Old W) l x.lead) :
    Nds (W.alloc (.cells #[.int .i64 x.kind, .int .i64 x.n, .int .i64 x.size, l, .string x.text] 58)) (Old (W.alloc (.cells #[.int .i64 x.kind, .int .i64 x.n, .int .i64 x.size, l, .string x.text] 58))) (.slice (some ⟨o, 0, none⟩) 1 1) [x] := by
  subst ho
  refine ⟨[l], rfl, ?_, fun i y l' a b => ?_⟩
  · have e : allCells [x] [l] = [.int .i64 x.kind, .int .i64 x.n, .int .i64 x.size, l, .string x.text] := rfl
    rw [e]
    exact Rd.fresh (cs := [.int .i64 x.kind, .int .i64 x.n, .int .i64 x.size, l, .string x.text]) (n := 1) (size := 5) rfl (Nat.le_refl _) (by decide) (by simp [Old]) rfl
  · cases i with
    | zero =>
      simp at a b
      subst a b
      exact Rd.mono (Rd.alloc hl _) (fun k hk => by have : k < W.heap.size := hk; simp [Old]; omega)
    | succ i => simp at a

abbrev t97 : ByteArray := ⟨#[97]⟩
abbrev t98 : ByteArray := ⟨#[98]⟩
abbrev t32 : ByteArray := ⟨#[32]⟩
/-- A leaf with a lead. -/
def lf (p : List Piece) : Node := ⟨3, 0, 1, p, t97⟩
theorem lf_tree (p : List Piece) : Tree [lf p] := by
  have hs : sz [lf p] 0 = 1 := rfl
  refine ⟨⟨_, rfl, rfl⟩, by rw [hs]; exact Nat.le_refl 1, by rw [hs]; exact Nat.le_refl 1, fun m _ hm => ?_⟩
  rw [hs] at hm ⊢
  obtain rfl : m = 0 := by omega
  refine ⟨⟨⟨_, rfl, ?_⟩, fun k h1 h2 => by rw [hs] at h2; omega⟩, by rw [hs]; exact Nat.le_refl _⟩
  unfold Local lf openK textedK
  dsimp only
  exact ⟨by omega, by omega, by omega, fun _ => rfl, fun h => absurd (.inl rfl) h⟩
theorem lf_kids (p : List Piece) : kidsOf [lf p] 0 = [] := by
  unfold kidsOf
  rw [placeB_iff.2 ⟨by omega, by simp, lf_tree p⟩, if_pos rfl]
  show kidsFrom _ _ _ = _
  rw [kidsFrom_ge (by show ¬ 0 + 1 < 0 + 1; omega)]
theorem lf_both (p q : List Piece) : bothB [lf p] [lf q] = true := by unfold bothB; rw [treeB_iff.2 (lf_tree p), treeB_iff.2 (lf_tree q)]; rfl
theorem lf_path (p : List Piece) : pathOf [lf p] 0 = [] := by
  unfold pathOf
  rw [placeB_iff.2 ⟨by omega, by simp, lf_tree p⟩, if_pos rfl]
  exact path_zero _
theorem lf_nodesD (p q : List Piece) : nodesD [lf p] [lf q] 0 = false := by
  show ((3 : Int) != 3 || ((0 : Int) != 0 || (kidsOf [lf p] 0).length != (kidsOf [lf q] 0).length)) = false
  rw [lf_kids, lf_kids]; rfl
theorem lf_textsD (p q : List Piece) : textsD [lf p] [lf q] 0 = false := by
  show (!(eqB t97 t97)) = false
  rw [eqB_self]; rfl
theorem lf_notesD (ts : List Token) (p q : List Piece) : notesD ts [lf p] [lf q] 0 = !(eqB (notesOf ts p) (notesOf ts q)) := rfl
theorem lf_blanksD (p q : List Piece) : blanksD [lf p] [lf q] 0 = !(eqB p q) := rfl
theorem lf_miss {ts : List Token} {p q : List Piece} {h : Nat} (hd : diffD ts [lf p] [lf q] (h + 1) 0 = false) : firstFrom ts [lf p] [lf q] (h + 1) = firstFrom ts [lf p] [lf q] h := firstFrom_miss (fun i hi => by
  have : i < 1 := hi
  obtain rfl : i = 0 := by omega
  exact hd)
theorem lf_hit {ts : List Token} {p q : List Piece} {h : Nat} (hd : diffD ts [lf p] [lf q] (h + 1) 0 = true) : firstFrom ts [lf p] [lf q] (h + 1) = (((h + 1 : Nat) : Int), 0) := firstFrom_hit (j := 0) (by simp) hd (fun i hi => by omega)
theorem lf_first (ts : List Token) (p q : List Piece) : firstD40 ts [lf p] [lf q] = firstFrom ts [lf p] [lf q] 2 := (lf_miss (h := 3) (lf_nodesD p q)).trans (lf_miss (h := 2) (lf_textsD p q))
def gTok (c : Int) : Gram := ⟨[⟨t98, [], c⟩], [], [], 0, 0, 0, 0, 0⟩
def sp : List Piece := [⟨0, t32⟩]
theorem gTok_copied (c : Int) : Copied (gTok c) := ⟨by simp [gTok], by simp [gTok], by simp [gTok], fun x hx => by simp [gTok] at hx; subst hx; simp, fun x hx => by simp [gTok] at hx⟩
theorem notes_nil (ts : List Token) : notesOf ts [] = [] := rfl
theorem notes_1 : notesOf (gTok 1).toks sp = [] := by unfold notesOf sp noteB; simp [clsAt, gTok]
theorem notes_2 : notesOf (gTok 2).toks sp = sp := by unfold notesOf sp noteB; simp [clsAt, gTok]
theorem first_1 : firstD40 (gTok 1).toks [lf []] [lf sp] = (1, 0) := by
  refine (lf_first _ _ _).trans ((lf_miss (h := 1) ?_).trans (lf_hit (h := 0) ?_))
  · refine (lf_notesD _ _ _).trans ?_
    rw [notes_1, notes_nil, eqB_self]; rfl
  · refine (lf_blanksD _ _).trans ?_
    rw [eqB_false (by intro h; cases h)]; rfl
theorem first_2 : firstD40 (gTok 2).toks [lf []] [lf sp] = (2, 0) := by
  refine (lf_first _ _ _).trans (lf_hit (h := 1) ?_)
  refine (lf_notesD _ _ _).trans ?_
  rw [notes_2, notes_nil, eqB_false (by intro h; cases h)]; rfl
theorem first_0 : firstD40 (gTok 1).toks [lf sp] [lf sp] = (0, -1) := by
  refine (lf_first _ _ _).trans ((lf_miss (h := 1) ?_).trans (lf_miss (h := 0) ?_))
  · refine (lf_notesD _ _ _).trans ?_
    rw [eqB_self]; rfl
  · refine (lf_blanksD _ _).trans ?_
    rw [eqB_self]; rfl
theorem lf_ok (p : List Piece) (h : p.length * 24 ≤ 140737488355328) : NdsOk [lf p] := ⟨by simp, fun x hx => by simp at hx; subst hx; exact h⟩

set_option maxRecDepth 20000 in
set_option maxHeartbeats 4000000 in
theorem leaf_none (w : World) : Calls Try.prog 39 #[.string ⟨#[]⟩] w fun r w' => (∃ u, r = .returned u ∧ Hid (Nds w' (Old w') u [lf []])) ∧ Below w.heap.size w w' := by
  go_enter Try.func39, Try.ntmps39
  go_wp2
  go_ret
  refine ⟨⟨_, rfl, hidden (one_nds1 _ (lf []) (.slice none 0 0) _ (by simp) (Rd.nil _ _ _))⟩, (by repeat (first | (with_reducible exact Below.refl _ _) | (with_reducible assumption) | (with_reducible refine Below.drew ?_) | (with_reducible refine below_drewN ?_ _) | ((with_reducible refine below_alloc ?_ ?_); (focus (first | omega | (simp; done) | (simp; omega)))) | ((with_reducible refine below_set ?_ ?_); (focus (first | omega | (simp; done) | (simp; omega))))))⟩
set_option maxRecDepth 20000 in
set_option maxHeartbeats 4000000 in
theorem leaf_blank (w : World) : Calls Try.prog 39 #[.string t32] w fun r w' => (∃ u, r = .returned u ∧ Hid (Nds w' (Old w') u [lf sp])) ∧ Below w.heap.size w w' := by
  go_enter Try.func39, Try.ntmps39
  go_wp2
  go_ret
  refine ⟨⟨_, rfl, hidden (one_nds1 _ (lf sp) _ _ (by simp) ?_)⟩, (by repeat (first | (with_reducible exact Below.refl _ _) | (with_reducible assumption) | (with_reducible refine Below.drew ?_) | (with_reducible refine below_drewN ?_ _) | ((with_reducible refine below_alloc ?_ ?_); (focus (first | omega | (simp; done) | (simp; omega)))) | ((with_reducible refine below_set ?_ ?_); (focus (first | omega | (simp; done) | (simp; omega))))))⟩
  exact Rd.fresh (cs := [.int .i64 0, .string t32]) (n := 1) (size := 2) rfl (Nat.le_refl _) (by decide) (by simp [Old]) (by simp)

/-- The grammar of one token, as it lies. -/
theorem gTok_is (w : World) (c : Int) (o : Nat) (ho : o = w.heap.size) : GramIs (w.alloc (.cells #[.string t98, .slice none 0 0, .int .i64 c] 88)) (Old (w.alloc (.cells #[.string t98, .slice none 0 0, .int .i64 c] 88))) (.slice (some ⟨o, 0, none⟩) 1 1) (.slice none 0 0) (.slice none 0 0) (gTok c) := by
  subst ho
  exact ⟨recs_lit (n := 1) [_] (Holds.new w _ _) (by simp [Old]) rfl rfl rfl rfl (by decide) ⟨Rd.nil _ _ _, trivial⟩, Rd.nil _ _ _, ⟨[], rfl, Rd.nil _ _ _, fun i x l h => by simp [gTok] at h⟩⟩

set_option maxRecDepth 20000 in
set_option maxHeartbeats 4000000 in
theorem few40 (va vb : Value) (a b : List Node) (w : World) (hA : Nds w (Old w) va a) (hB : Nds w (Old w) vb b) :
    Calls Try.prog 11 #[va, vb] w fun r w' => r = .returned (.bool (fewB a && fewB b)) ∧ Below w.heap.size w w' := by
  have H1 := hidden (few_any va a w hA)
  have H2 := hidden (fun (w' : World) (hb : Below w.heap.size w w') => few_any vb b w' (hB.old hb))
  clear hA hB
  generalize fewB a = f1 at *
  generalize fewB b = f2 at *
  cases f1
  · go_enter Try.func11, Try.ntmps11
    go_wp2_with fail
    refine H1.out.mono ?_
    rintro r w2 ⟨rfl, hb⟩
    go_wp2
    go_ret
    exact ⟨rfl, hb⟩
  · go_enter Try.func11, Try.ntmps11
    go_wp2_with fail
    refine H1.out.mono ?_
    rintro r w2 ⟨rfl, hb⟩
    go_wp2_with fail
    refine (H2.out _ hb).mono ?_
    rintro r w3 ⟨rfl, hb3⟩
    replace hb := hb.trans (hb3.mono hb.size)
    go_wp2
    go_ret
    exact ⟨rfl, hb⟩

set_option maxRecDepth 20000 in
set_option maxHeartbeats 8000000 in
theorem knows40 (w : World) : Calls Try.prog 12 #[] w fun r w' => r = .returned (.bool true) ∧ Below w.heap.size w w' := by
  have hb : Below w.heap.size w (w.alloc (.cells #[.string t98, .slice none 0 0, .int .i64 1] 88)) := (by repeat (first | (with_reducible exact Below.refl _ _) | (with_reducible assumption) | (with_reducible refine Below.drew ?_) | (with_reducible refine below_drewN ?_ _) | ((with_reducible refine below_alloc ?_ ?_); (focus (first | omega | (simp; done) | (simp; omega)))) | ((with_reducible refine below_set ?_ ?_); (focus (first | omega | (simp; done) | (simp; omega))))))
  have HN1 := hidden (lang_New _ _ _ (gTok 1) _ (gTok_is w 1 _ rfl) (gTok_copied 1))
  have ok0 := lf_ok [] (by decide)
  have ok1 := lf_ok sp (by decide)
  go_enter Try.func12, Try.ntmps12
  go_wp2_with fail
  refine HN1.out.mono ?_
  rintro r w1 ⟨⟨l1, rfl, HL1⟩, hb1⟩
  replace hb := below_more hb hb1
  clear hb1 HN1
  have HN2 := hidden (lang_New _ _ _ (gTok 2) _ (gTok_is w1 2 _ rfl) (gTok_copied 2))
  have hba : Below w1.heap.size w1 (w1.alloc (.cells #[.string t98, .slice none 0 0, .int .i64 2] 88)) := (by repeat (first | (with_reducible exact Below.refl _ _) | (with_reducible assumption) | (with_reducible refine Below.drew ?_) | (with_reducible refine below_drewN ?_ _) | ((with_reducible refine below_alloc ?_ ?_); (focus (first | omega | (simp; done) | (simp; omega)))) | ((with_reducible refine below_set ?_ ?_); (focus (first | omega | (simp; done) | (simp; omega))))))
  go_wp2_with fail
  refine HN2.out.mono ?_
  rintro r w2 ⟨⟨l2, rfl, HL2⟩, hb2⟩
  have hb12 := below_more hba hb2
  replace HL1 := hidden (HL1.out.below hb12)
  replace hb := below_more hb hb12
  clear hb12 hb2 hba HN2
  go_wp2_with fail
  refine (leaf_none _).mono ?_
  rintro r w3 ⟨⟨u3, rfl, HA⟩, hb3⟩
  replace HL1 := hidden (HL1.out.below hb3)
  replace HL2 := hidden (HL2.out.below hb3)
  replace hb := below_more hb hb3
  clear hb3
  go_wp2_with fail
  refine (leaf_blank _).mono ?_
  rintro r w4 ⟨⟨u4, rfl, HB⟩, hb4⟩
  replace HL1 := hidden (HL1.out.below hb4)
  replace HL2 := hidden (HL2.out.below hb4)
  replace HA := hidden (HA.out.old hb4)
  replace hb := below_more hb hb4
  clear hb4
  have HD := hidden (same_Diff l1 u3 u4 (gTok 1) _ _ w4 HL1.out (gTok_copied 1) HA.out HB.out ok0 ok1)
  rw [show dHow (gTok 1).toks [lf []] [lf sp] = 1 from by unfold dHow; rw [lf_both, if_pos rfl, first_1], show dPath (gTok 1).toks [lf []] [lf sp] = [] from by unfold dPath; rw [lf_both, if_pos rfl, first_1]; exact lf_path _] at HD
  clear HA HB
  go_wp2_with fail
  refine HD.out.mono ?_
  rintro r w5 ⟨⟨u5, rfl, HM⟩, hb5⟩
  obtain ⟨A5, c5, e5⟩ : ∃ A c, u5 = .slice A 0 c := HM.out.value
  subst e5
  replace HL1 := hidden (HL1.out.below hb5)
  replace HL2 := hidden (HL2.out.below hb5)
  replace hb := below_more hb hb5
  clear hb5 HM HD
  go_wp2_with fail
  refine (leaf_none _).mono ?_
  rintro r w6 ⟨⟨u6, rfl, HA⟩, hb6⟩
  replace HL1 := hidden (HL1.out.below hb6)
  replace HL2 := hidden (HL2.out.below hb6)
  replace hb := below_more hb hb6
  clear hb6
  go_wp2_with fail
  refine (leaf_blank _).mono ?_
  rintro r w7 ⟨⟨u7, rfl, HB⟩, hb7⟩
  replace HL1 := hidden (HL1.out.below hb7)
  replace HL2 := hidden (HL2.out.below hb7)
  replace HA := hidden (HA.out.old hb7)
  replace hb := below_more hb hb7
  clear hb7
  have HO := hidden (same_Of l2 u6 u7 (gTok 2) _ _ w7 HL2.out (gTok_copied 2) HA.out HB.out ok0 ok1)
  rw [show dHow (gTok 2).toks [lf []] [lf sp] = 2 from by unfold dHow; rw [lf_both, if_pos rfl, first_2]] at HO
  clear HA HB HL2
  go_wp2_with fail
  refine HO.out.mono ?_
  rintro r w8 ⟨rfl, hb8⟩
  replace HL1 := hidden (HL1.out.below hb8)
  replace hb := below_more hb hb8
  clear hb8 HO
  go_wp2_with fail
  refine (leaf_blank _).mono ?_
  rintro r w9 ⟨⟨u9, rfl, HA⟩, hb9⟩
  replace HL1 := hidden (HL1.out.below hb9)
  replace hb := below_more hb hb9
  clear hb9
  go_wp2_with fail
  refine (leaf_blank _).mono ?_
  rintro r w10 ⟨⟨u10, rfl, HB⟩, hb10⟩
  replace HL1 := hidden (HL1.out.below hb10)
  replace HA := hidden (HA.out.old hb10)
  replace hb := below_more hb hb10
  clear hb10
  have HO := hidden (same_Of l1 u9 u10 (gTok 1) _ _ w10 HL1.out (gTok_copied 1) HA.out HB.out ok1 ok1)
  rw [show dHow (gTok 1).toks [lf sp] [lf sp] = 0 from by unfold dHow; rw [lf_both, if_pos rfl, first_0]] at HO
  clear HA HB HL1
  go_wp2_with fail
  refine HO.out.mono ?_
  rintro r w11 ⟨rfl, hb11⟩
  replace hb := below_more hb hb11
  go_wp2
  go_ret
  exact ⟨rfl, hb⟩
end Go.Proofs.Ytbjheaiiajpifaa.T
