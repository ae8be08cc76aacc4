/-
  law21: NullMore.
-/
import Derived.Test.YtaagkbgbghleiaaNullU
import Derived.Test.YtaagkbgbghleiaaNullV
import Derived.Test.YtaagkbgbghleiaaGramOpen2
import Derived.Test.YtaagkbgbghleiaaLits
import Derived.Deep.RegionHeld3
namespace Go.Proofs.Ytaagkbgbghleiaa
open Go.RowKit Go.Shelf

theorem prod_infoM : Hid (TyInfo Try.prog 56 (.agg #[.int .i64 0, .slice none 0 0]) 2 32) :=
  hidden (info_parts (show (Try.prog.info? 56).map (fun i => (i.zero, i.size, i.bytes)) = some (some (.agg #[.int .i64 0, .slice none 0 0]), 2, 32) by kernel_rfl))
/-- Where the making of a grammar with a production more stands: block q holds it, of its cell 2 nothing is said. -/
structure MoreAt (W4 : World) (B q : Nat) (c0 c1 c3 c4 c5 c6 c7 : Value) (w' : World) : Prop where
  below : Below B W4 w'
  size : W4.heap.size ≤ w'.heap.size
  at_ : ∃ u, Holds w' q 36 #[c0, c1, u, c3, c4, c5, c6, c7]
section
variable {W4 w1 w2 : World} {B p q pb : Nat} {a b c d e f g h x y : Value}
theorem MoreAt.next (H : MoreAt W4 B q a b d e f g h w1) (hB : B ≤ W4.heap.size) (hq : q < W4.heap.size) (hb2 : Below W4.heap.size w1 w2) : MoreAt W4 B q a b d e f g h w2 := by
  obtain ⟨u, hu⟩ := H.at_
  exact ⟨H.below.trans (hb2.mono hB), Nat.le_trans H.size hb2.size, u, hu.below hb2 hq⟩
theorem MoreAt.put (H : MoreAt W4 B q a b d e f g h w1) (hq : B ≤ q) (v : Value) : MoreAt W4 B q a b d e f g h (w1.setCell ⟨q, 2, none⟩ v) := by
  obtain ⟨u, hu⟩ := H.at_
  exact ⟨below_set hq H.below, by simpa using H.size, v, Holds.of_eq (holds_set hu) (by rfl)⟩
theorem MoreAt.keep (hP : Holds W4 p 36 #[a, b, c, d, e, f, g, h]) (hQ : Holds W4 pb 56 #[x, y]) (hp : p < B) (hpb : pb < B) (H : MoreAt W4 B q a b d e f g h w2) :
    w2.cell? ⟨p, 2, none⟩ = some c ∧ w2.cell? ⟨pb, 0, none⟩ = some x ∧ w2.cell? ⟨pb, 1, none⟩ = some y ∧ MoreAt W4 B q a b d e f g h w2 :=
  ⟨(hP.below H.below hp).cell 2, (hQ.below H.below hpb).cell 0, (hQ.below H.below hpb).cell 1, H⟩
theorem MoreAt.alloc (H : MoreAt W4 B q a b d e f g h w1) (hB : B ≤ W4.heap.size) (hq : q < W4.heap.size) (o : Obj) : MoreAt W4 B q a b d e f g h (w1.alloc o) := H.next hB hq (below_alloc H.size (Below.refl _ _))
end
/-- A grammar with a production more. -/
def moreG (g : Gram) (p : Prod) : Gram := { g with prods := g.prods ++ [p] }

theorem block_second {W : World} {o : Obj} {cs : Array Value} {t : TypeId} : Holds ((W.alloc o).alloc (.cells cs t)).drew (W.heap.size + 1) t cs := Holds.drew (Holds.new_at (by simp))
theorem block_first {W : World} {o : Obj} {cs : Array Value} {t : TypeId} : Holds ((W.alloc (.cells cs t)).alloc o).drew W.heap.size t cs := ((Holds.new W t cs).alloc o).drew
theorem recs_snoc {w w6 WF : World} {base q m c : Nat} {xs : List Prod} {ls : List Value} {x : Prod} {l : Value} {A : Option Addr} (hls : ls.length = xs.length)
    (hin : ∀ (i : Nat) (x : Prod) (l : Value), xs[i]? = some x → ls[i]? = some l → Rd w (Old w) prodR.kin l (prodR.m x) (prodR.inner x)) (hx : Rd w (Old w) 4 l x.right.length (x.right.flatMap itCells))
    (hb : Below w.heap.size w WF) (hm : Mine w6 base 56 2 (.slice A m c) (0 + xs.length + 1) ([] ++ prodR.all xs ls ++ [.int .i64 x.left, l])) (hq : q < base) (u : Value) (hWF : WF = w6.setCell ⟨q, 2, none⟩ u) :
    Recs prodR WF (Old WF) (.slice A m c) (xs ++ [x]) := by
  refine ⟨ls ++ [l], by simp [hls], ?_, fun j y r hy hr => ?_⟩
  · rw [show (xs ++ [x]).length = 0 + xs.length + 1 by simp, Rec.all_append _ _ _ _ _ hls]
    have h1 : Rd w6 (fun k => base ≤ k ∧ k < w6.heap.size) 2 (.slice A m c) (0 + xs.length + 1) ([] ++ prodR.all xs ls ++ [.int .i64 x.left, l]) := Mine.rd hm (T := fun k => base ≤ k ∧ k < w6.heap.size) (fun _ _ a b => ⟨a, b⟩)
    have h2 := h1.set (p := ⟨q, 2, none⟩) (fun h => by dsimp only at h; omega) u
    rw [hWF]
    exact h2.mono (fun k hk => by unfold Old; simp; exact hk.2)
  · have key : Rd w (Old w) prodR.kin r (prodR.m y) (prodR.inner y) := by
      by_cases hj : j < xs.length
      · rw [List.getElem?_append_left hj] at hy
        rw [List.getElem?_append_left (by omega)] at hr
        exact hin j y r hy hr
      · rw [List.getElem?_append_right (by omega)] at hy hr
        rw [hls] at hr
        generalize j - xs.length = d at *
        cases d with
        | zero => simp at hy hr; subst hy hr; exact hx
        | succ d => simp at hy
    exact Rd.old key hb

/-- What is asked of a grammar. -/
structure Asked (C : Array Value) (n : Nat) (d : Defect) (rt : Bool) (E M R : List Bool) (w : World) : Prop where
  check : Calls Try.prog 33 #[.agg C] w fun r w' => r = .returned (.agg #[.int .i64 d.kind, .int .i64 d.at_, .int .i64 d.more]) ∧ Below w.heap.size w w'
  e : Calls Try.prog 44 #[.agg C] w fun r w' => (∃ u, r = .returned u ∧ Hid (SetIs w' u n rt E)) ∧ Below w.heap.size w w'
  m : Calls Try.prog 45 #[.agg C] w fun r w' => (∃ u, r = .returned u ∧ Hid (SetIs w' u n rt M)) ∧ Below w.heap.size w w'
  r : Calls Try.prog 46 #[.agg C] w fun r w' => (∃ u, r = .returned u ∧ Hid (SetIs w' u n rt R)) ∧ Below w.heap.size w w'
theorem asked (a b c : Value) (g : Gram) (w : World) (HG : GramIs w (Old w) a b c g) (hsm : Small g) : Asked (gramCells a b c g) g.rules.length (checkOf g) (rightB g) (growsB g false) (growsB g true) (reachB g) w :=
  ⟨ref_Check a b c g w HG hsm.toks hsm.rules hsm.prods hsm.names, null_Empty a b c g w HG hsm, null_Makes a b c g w HG hsm, null_Reached a b c g w HG hsm⟩
theorem sets_block {f : Nat} {args : Array Value} {n : Nat} {s : List Bool} {w : World} (h : Calls Try.prog f args w fun r w' => (∃ u, r = .returned u ∧ Hid (SetIs w' u n true s)) ∧ Below w.heap.size w w') :
    Calls Try.prog f args w fun r w' => (∃ q, r = .returned (.slice (some ⟨q, 0, none⟩) n n) ∧ Hid (BoolsAt w' q s)) ∧ Below w.heap.size w w' := h.mono (by
  rintro r w' ⟨⟨u, rfl, hu⟩, hb⟩
  have h := hu.out
  unfold SetIs at h
  rw [if_pos rfl] at h
  obtain ⟨q, e, h1, _⟩ := h
  exact ⟨⟨q, by rw [e], hidden h1⟩, hb⟩)
/-- A row of three sets. -/
def Three (w : World) (q n : Nat) (E M R : List Bool) : Prop := ∃ q0 q1 q2 : Nat, Holds w q 58 #[.slice (some ⟨q0, 0, none⟩) n n, .slice (some ⟨q1, 0, none⟩) n n, .slice (some ⟨q2, 0, none⟩) n n] ∧ BoolsAt w q0 E ∧ BoolsAt w q1 M ∧ BoolsAt w q2 R
def pick3 (E M R : List Bool) : Nat → List Bool
  | 0 => E
  | 1 => M
  | _ => R
theorem Three.next {w w' : World} {q n : Nat} {E M R : List Bool} (h : Three w q n E M R) (hb : Below w.heap.size w w') : Three w' q n E M R := by
  obtain ⟨q0, q1, q2, h0, h1, h2, h3⟩ := h
  exact ⟨q0, q1, q2, h0.below hb h0.lt, h1.below hb h1.lt, h2.below hb h2.lt, h3.below hb h3.lt⟩
theorem Three.at_ {w : World} {q n : Nat} {E M R : List Bool} (h : Three w q n E M R) {k : Nat} (hk : k < 3) : q < w.heap.size ∧ ∃ p, w.cell? ⟨q, k, none⟩ = some (.slice (some ⟨p, 0, none⟩) n n) ∧ p < w.heap.size ∧ BoolsAt w p (pick3 E M R k) := by
  obtain ⟨q0, q1, q2, h0, h1, h2, h3⟩ := h
  refine ⟨h0.lt, ?_⟩
  match k, hk with
  | 0, _ => exact ⟨q0, h0.cell 0, h1.lt, h1⟩
  | 1, _ => exact ⟨q1, h0.cell 1, h2.lt, h2⟩
  | 2, _ => exact ⟨q2, h0.cell 2, h3.lt, h3⟩
theorem Three.mk_ {w4 w5 w6 W : World} {q0 q1 q2 n : Nat} {E M R : List Bool} (h4 : BoolsAt w4 q0 E) (h5 : BoolsAt w5 q1 M) (h6 : BoolsAt w6 q2 R) (hb5 : Below w4.heap.size w4 w5) (hb6 : Below w5.heap.size w5 w6)
    (hW : W = w6.alloc (.cells #[.slice (some ⟨q0, 0, none⟩) n n, .slice (some ⟨q1, 0, none⟩) n n, .slice (some ⟨q2, 0, none⟩) n n] 58)) : Three W w6.heap.size n E M R := by
  subst hW
  have hal := (Below.refl w6.heap.size w6).alloc (Nat.le_refl _) (.cells #[.slice (some ⟨q0, 0, none⟩) n n, .slice (some ⟨q1, 0, none⟩) n n, .slice (some ⟨q2, 0, none⟩) n n] 58)
  exact ⟨q0, q1, q2, Holds.new _ _ _, h4.below ((hb5.more hb6).more hal) h4.lt, h5.below (hb6.more hal) h5.lt, h6.below hal h6.lt⟩

set_option maxRecDepth 20000 in
set_option maxHeartbeats 16000000 in
theorem law_nullMore (a b c l : Value) (g : Gram) (p : Prod) (w : World) (HG : GramIs w (Old w) a b c g) (hz : Named g) (hl : Rd w (Old w) 4 l p.right.length (p.right.flatMap itCells)) (hB : g.prods.length * 32 ≤ 140737488351232) :
    Calls Try.prog 10 #[.agg (gramCells a b c g), .agg #[.int .i64 p.left, l]] w fun r w' => r = .returned (.bool true) ∧ Below w.heap.size w w' := by
  have HGo := hidden HG
  have HLo := hidden hl
  obtain ⟨⟨A1, k1, rfl, v1, m1⟩, ⟨A2, k2, rfl, v2, m2⟩, ⟨A3, k3, rfl, v3, m3⟩⟩ := HG.vals
  obtain ⟨A4, k4, rfl, v4, m4⟩ := hl.val
  clear HG hl
  unfold gramCells maxLen at *
  have hb := Below.refl w.heap.size w
  go_enter Try.func10, Try.ntmps10
  go_upto_region 2 with fail
  obtain ⟨W4, hW4⟩ : ∃ W4, W4 = ((w.alloc (.cells #[.slice A1 g.toks.length k1, .slice A2 g.rules.length k2, .slice A3 g.prods.length k3, .int .i64 g.start, .int .i64 g.states, .int .i64 g.text, .int .i64 g.nodes, .int .i64 g.pairs] 36)).alloc (.cells #[.int .i64 p.left, .slice A4 p.right.length k4] 56)).alloc (.cells #[.slice A1 g.toks.length k1, .slice A2 g.rules.length k2, .slice A3 g.prods.length k3, .int .i64 g.start, .int .i64 g.states, .int .i64 g.text, .int .i64 g.nodes, .int .i64 g.pairs] 36) := ⟨_, rfl⟩
  rw [← hW4]
  have P4 : Hid (Holds W4 w.heap.size 36 #[.slice A1 g.toks.length k1, .slice A2 g.rules.length k2, .slice A3 g.prods.length k3, .int .i64 g.start, .int .i64 g.states, .int .i64 g.text, .int .i64 g.nodes, .int .i64 g.pairs]) := hidden (by rw [hW4]; exact (by repeat (first | (with_reducible assumption) | ((with_reducible refine holds_new ?_); (focus (first | rfl | (simp; done)))) | (with_reducible refine Holds.alloc ?_ _) | (with_reducible refine Holds.drew ?_))))
  have Q4 : Hid (Holds W4 (w.heap.size + 1) 56 #[.int .i64 p.left, .slice A4 p.right.length k4]) := hidden (by rw [hW4]; exact (by repeat (first | (with_reducible assumption) | ((with_reducible refine holds_new ?_); (focus (first | rfl | (simp; done)))) | (with_reducible refine Holds.alloc ?_ _) | (with_reducible refine Holds.drew ?_))))
  have H4 : Hid (Holds W4 (w.heap.size + 1 + 1) 36 #[.slice A1 g.toks.length k1, .slice A2 g.rules.length k2, .slice A3 g.prods.length k3, .int .i64 g.start, .int .i64 g.states, .int .i64 g.text, .int .i64 g.nodes, .int .i64 g.pairs]) := hidden (by rw [hW4]; exact (by repeat (first | (with_reducible assumption) | ((with_reducible refine holds_new ?_); (focus (first | rfl | (simp; done)))) | (with_reducible refine Holds.alloc ?_ _) | (with_reducible refine Holds.drew ?_))))
  have hb4 : Below w.heap.size w W4 := by rw [hW4]; exact (by repeat (first | (with_reducible exact Below.refl _ _) | (with_reducible assumption) | (with_reducible refine Below.drew ?_) | (with_reducible refine below_drewN ?_ _) | ((with_reducible refine below_alloc ?_ ?_); (focus (first | omega | (simp; done) | (simp; omega)))) | ((with_reducible refine below_set ?_ ?_); (focus (first | omega | (simp; done) | (simp; omega))))))
  have hz4 : W4.heap.size = w.heap.size + 1 + 1 + 1 := by rw [hW4]; simp
  have HW4 := hidden hW4
  have Hz4 := hidden hz4
  have hz4' : w.heap.size + 1 + 1 < W4.heap.size := by omega
  obtain ⟨ls, hls, hrd, hin⟩ := HGo.out.2.2
  have HIn := hidden hin
  have HLs := hidden hls
  have HXa : Hid (∀ w', Below (w.heap.size + 1 + 1) W4 w' → Rd w' (fun k => k < w.heap.size) 2 (.slice A3 g.prods.length k3) g.prods.length (prodR.all g.prods ls)) := hidden (fun w' hb => Rd.below (show Rd W4 (Old w) 2 (.slice A3 g.prods.length k3) g.prods.length (prodR.all g.prods ls) from Rd.below hrd hb4 (fun _ h => h)) hb (fun k (hk : k < w.heap.size) => by omega))
  have HO1 : Hid (∀ u ∈ prodR.all g.prods ls, u.oneCell' = true) := hidden (Rec.all_one prodR _ _ (fun l hl => Recs.ones hls hin l hl))
  have s2 := P4.out.cell 2
  have y0 := Q4.out.cell 0
  have y1 := Q4.out.cell 1
  have s2 : W4.cell? ⟨w.heap.size, 2, none⟩ = some (.slice A3 g.prods.length k3) := s2
  have y0 : W4.cell? ⟨w.heap.size + 1, 0, none⟩ = some (.int .i64 p.left) := y0
  have y1 : W4.cell? ⟨w.heap.size + 1, 1, none⟩ = some (.slice A4 p.right.length k4) := y1
  have HLA : Hid (MoreAt W4 (w.heap.size + 1 + 1) (w.heap.size + 1 + 1) (.slice A1 g.toks.length k1) (.slice A2 g.rules.length k2) (.int .i64 g.start) (.int .i64 g.states) (.int .i64 g.text) (.int .i64 g.nodes) (.int .i64 g.pairs) W4.drew) := hidden ⟨(Below.refl _ _).drew, Nat.le_refl _, _, H4.out.drew⟩
  have n1 : w.heap.size < w.heap.size + 1 + 1 := by omega
  have n2 : w.heap.size + 1 < w.heap.size + 1 + 1 := by omega
  have n3 : w.heap.size + 1 + 1 ≤ W4.heap.size := by omega
  have tok1 : True := trivial
  clear hls hrd hin hW4 hz4
  have HO2 : Hid (∀ u ∈ [Value.int .i64 p.left, .slice A4 p.right.length k4], u.oneCell' = true) := hidden (by intro u hu; simp at hu; rcases hu with rfl | rfl <;> rfl)
  go_cut [] from 11 to 18 (fun wx => ∃ A6 c6, Hid (Recs prodR wx (Old wx) (.slice A6 (g.prods.length + 1) c6) (g.prods ++ [p])) ∧ Hid (Holds wx w.heap.size 36 #[.slice A1 g.toks.length k1, .slice A2 g.rules.length k2, .slice A3 g.prods.length k3, .int .i64 g.start, .int .i64 g.states, .int .i64 g.text, .int .i64 g.nodes, .int .i64 g.pairs]) ∧ Hid (Holds wx (w.heap.size + 1 + 1) 36 #[.slice A1 g.toks.length k1, .slice A2 g.rules.length k2, .slice A6 (g.prods.length + 1) c6, .int .i64 g.start, .int .i64 g.states, .int .i64 g.text, .int .i64 g.nodes, .int .i64 g.pairs]) ∧ Hid (Below w.heap.size w wx))
  case first =>
    go_region_held3 (fun w' => w'.cell? ⟨w.heap.size, 2, none⟩ = some (.slice A3 g.prods.length k3) ∧ w'.cell? ⟨w.heap.size + 1, 0, none⟩ = some (.int .i64 p.left) ∧ w'.cell? ⟨w.heap.size + 1, 1, none⟩ = some (.slice A4 p.right.length k4) ∧ MoreAt W4 (w.heap.size + 1 + 1) (w.heap.size + 1 + 1) (.slice A1 g.toks.length k1) (.slice A2 g.rules.length k2) (.int .i64 g.start) (.int .i64 g.states) (.int .i64 g.text) (.int .i64 g.nodes) (.int .i64 g.pairs) w')
      (first | exact ⟨s2, y0, y1, HLA.out⟩ | (go_split_ands; exact MoreAt.keep P4.out Q4.out n1 n2 (MoreAt.put (by assumption) (Nat.le_refl _) _)) | (go_split_ands; exact MoreAt.keep P4.out Q4.out n1 n2 (MoreAt.put L6.out (Nat.le_refl _) _)) | (go_split_ands; exact MoreAt.keep P4.out Q4.out n1 n2 (MoreAt.alloc (by assumption) n3 hz4' _)) | (go_split_ands; exact MoreAt.keep P4.out Q4.out n1 n2 (MoreAt.alloc HLA.out n3 hz4' _)) | (go_split_ands; exact MoreAt.keep P4.out Q4.out n1 n2 (by assumption)) | (go_split_ands; exact MoreAt.keep P4.out Q4.out n1 n2 L6.out) | (go_split_ands; exact MoreAt.keep P4.out Q4.out n1 n2 L5.out) | (go_split_ands; exact MoreAt.keep P4.out Q4.out n1 n2 (MoreAt.alloc L5.out n3 hz4' _)))
      (first | (have _t := tok1; go_split_ands; have L4 := hidden (show MoreAt W4 (w.heap.size + 1 + 1) (w.heap.size + 1 + 1) (.slice A1 g.toks.length k1) (.slice A2 g.rules.length k2) (.int .i64 g.start) (.int .i64 g.states) (.int .i64 g.text) (.int .i64 g.nodes) (.int .i64 g.pairs) _ by first | assumption | exact HLA.out); refine step_append_rd rfl _ _ 34 56 rfl (by kernel_rfl) prod_infoM rfl (by decide) W4.heap.size _ 0 [] (hidden (Mine.fresh_nil _ _ _ _ _)) _ g.prods.length _ (hidden (HXa.out _ L4.out.below)) HO1 rfl rfl (by omega) (by decide) L4.out.size ?_; intro v5 w5 hA5; have L5 := hidden (L4.out.next n3 hz4' hA5.out.below); clear tok1 _t L4) | (have L5x := hidden (L5.out.alloc n3 hz4' (.cells #[.int .i64 p.left, .slice A4 p.right.length k4] 56)); refine step_append_rd rfl _ _ 34 56 rfl (by kernel_rfl) prod_infoM rfl (by decide) W4.heap.size _ (0 + g.prods.length) _ (hidden (hA5.out.mine.alloc _)) _ 1 [.int .i64 p.left, .slice A4 p.right.length k4] (hidden (rd_lit' (T := fun _ => True) (Holds.new w5 56 #[.int .i64 p.left, .slice A4 p.right.length k4]) trivial rfl rfl (by decide))) HO2 rfl rfl (by omega) (by decide) L5x.out.size ?_; intro v6 w6 hA6; obtain ⟨A6, c6, rfl⟩ := Mine.value hA6.out.mine; have L6 := hidden (L5x.out.next n3 hz4' hA6.out.below); have z6 := (Classical.choose_spec L6.out.at_).cell 2; have f6 := (Classical.choose_spec L6.out.at_).frozen 2) | (have L5x := hidden L5.out; refine step_append_rd rfl _ _ 34 56 rfl (by kernel_rfl) prod_infoM rfl (by decide) W4.heap.size _ (0 + g.prods.length) _ (hidden hA5.out.mine) _ 1 [.int .i64 p.left, .slice A4 p.right.length k4] (hidden (rd_lit' (T := fun _ => True) (b := W4.heap.size + 1) (t := 56) (cs := #[.int .i64 p.left, .slice A4 p.right.length k4]) ((hA5.out.keeps.block _ (by simp [Value.ownBlock]) (by simp; try omega)).trans block_second) trivial rfl rfl (by decide))) HO2 rfl rfl (by omega) (by decide) L5x.out.size ?_; intro v6 w6 hA6; obtain ⟨A6, c6, rfl⟩ := Mine.value hA6.out.mine; have L6 := hidden (L5x.out.next n3 hz4' hA6.out.below); have z6 := (Classical.choose_spec L6.out.at_).cell 2; have f6 := (Classical.choose_spec L6.out.at_).frozen 2) | (have L5x := hidden L5.out; refine step_append_rd rfl _ _ 34 56 rfl (by kernel_rfl) prod_infoM rfl (by decide) W4.heap.size _ (0 + g.prods.length) _ (hidden hA5.out.mine) _ 1 [.int .i64 p.left, .slice A4 p.right.length k4] (hidden (rd_lit' (T := fun _ => True) (b := W4.heap.size) (t := 56) (cs := #[.int .i64 p.left, .slice A4 p.right.length k4]) ((hA5.out.keeps.block _ (by simp [Value.ownBlock]) (by simp; try omega)).trans block_first) trivial rfl rfl (by decide))) HO2 rfl rfl (by omega) (by decide) L5x.out.size ?_; intro v6 w6 hA6; obtain ⟨A6, c6, rfl⟩ := Mine.value hA6.out.mine; have L6 := hidden (L5x.out.next n3 hz4' hA6.out.below); have z6 := (Classical.choose_spec L6.out.at_).cell 2; have f6 := (Classical.choose_spec L6.out.at_).frozen 2))
    all_goals
      obtain ⟨WF, hWF⟩ : ∃ WF, WF = w6.setCell ⟨w.heap.size + 1 + 1, 2, none⟩ (.slice A6 (0 + g.prods.length + 1) c6) := ⟨_, rfl⟩
      have hb46 := hidden L6.out.below
      have hbF : Below w.heap.size w WF := by rw [hWF]; exact below_set (by omega) (hb4.trans (L6.out.below.mono (by omega)))
      have PF : Hid (Holds WF w.heap.size 36 #[.slice A1 g.toks.length k1, .slice A2 g.rules.length k2, .slice A3 g.prods.length k3, .int .i64 g.start, .int .i64 g.states, .int .i64 g.text, .int .i64 g.nodes, .int .i64 g.pairs]) := hidden (by rw [hWF]; exact holds_far (by omega) (P4.out.below L6.out.below n1))
      have HF : Hid (Holds WF (w.heap.size + 1 + 1) 36 #[.slice A1 g.toks.length k1, .slice A2 g.rules.length k2, .slice A6 (0 + g.prods.length + 1) c6, .int .i64 g.start, .int .i64 g.states, .int .i64 g.text, .int .i64 g.nodes, .int .i64 g.pairs]) := hidden (by
        obtain ⟨u, hu⟩ := L6.out.at_
        rw [hWF]; exact Holds.of_eq (holds_set hu) (by rfl))
      have HR : Hid (Recs prodR WF (Old WF) (.slice A6 (0 + g.prods.length + 1) c6) (g.prods ++ [p])) := hidden (recs_snoc HLs.out HIn.out HLo.out hbF hA6.out.mine hz4' _ hWF)
      rw [Nat.zero_add] at HR HF
      rw [Nat.zero_add] at hWF
      have HBF := hidden hbF
      have HWF := hidden hWF
      clear hWF hbF
      go_wp2
      go_meet
      exact ⟨A6, c6, hidden (by rw [← HWF.out]; exact HR.out), hidden (by rw [← HWF.out]; exact PF.out), hidden (by rw [← HWF.out]; exact HF.out), hidden (by rw [← HWF.out]; exact HBF.out)⟩
  case rest =>
    obtain ⟨A6, c6, HR, PF, HF, hbF⟩ := hcut
    clear s2 y0 y1 HLA H4 P4 Q4 HXa HO1 HO2 hb4 HIn HLs HW4 Hz4 hb tok1
    have hGg := HGo.out.old hbF.out
    have hGh : GramIs wc (Old wc) (.slice A1 g.toks.length k1) (.slice A2 g.rules.length k2) (.slice A6 (g.prods.length + 1) c6) (moreG g p) := ⟨hGg.1, hGg.2.1, HR.out⟩
    have hzm : Named (moreG g p) := hz
    have hmp : ∀ x ∈ g.prods, x ∈ (moreG g p).prods := fun x hx => List.mem_append_left _ hx
    have F1 : Hid (Calls Try.prog 30 #[.agg #[.slice A1 g.toks.length k1, .slice A2 g.rules.length k2, .slice A6 (g.prods.length + 1) c6, .int .i64 g.start, .int .i64 g.states, .int .i64 g.text, .int .i64 g.nodes, .int .i64 g.pairs]] wc fun r w' => r = .returned (.bool (fewB (moreG g p))) ∧ Below wc.heap.size wc w') := hidden (law_Few _ _ _ (moreG g p) wc hGh hzm)
    have hml : (moreG g p).prods.length = g.prods.length + 1 := by simp [moreG]
    have hsmall : fewB (moreG g p) = true → Small g := fun h => ⟨(few_is h hzm).toks, (few_is h hzm).rules, by have h1 := (few_is h hzm).prods; omega, hz⟩
    have HQ : Hid (fewB (moreG g p) = true → ∀ w', Below wc.heap.size wc w' → Asked #[.slice A1 g.toks.length k1, .slice A2 g.rules.length k2, .slice A3 g.prods.length k3, .int .i64 g.start, .int .i64 g.states, .int .i64 g.text, .int .i64 g.nodes, .int .i64 g.pairs] g.rules.length (checkOf g) (rightB g) (growsB g false) (growsB g true) (reachB g) w') := hidden (fun hs w' hb => asked _ _ _ g w' (hGg.old hb) (hsmall hs))
    have HQm : Hid (fewB (moreG g p) = true → ∀ w', Below wc.heap.size wc w' → Asked #[.slice A1 g.toks.length k1, .slice A2 g.rules.length k2, .slice A6 (g.prods.length + 1) c6, .int .i64 g.start, .int .i64 g.states, .int .i64 g.text, .int .i64 g.nodes, .int .i64 g.pairs] g.rules.length (checkOf (moreG g p)) (rightB (moreG g p)) (growsB (moreG g p) false) (growsB (moreG g p) true) (reachB (moreG g p)) w') := hidden (fun hs w' hb => asked _ _ _ (moreG g p) w' (hGh.old hb) (few_is hs hzm))
    have hq1 : Hid (∀ w, (Op.equalIn 10000 40 (.agg #[.int .i64 (checkOf g).kind, .int .i64 (checkOf g).at_, .int .i64 (checkOf g).more]) (.agg #[.int .i64 0, .int .i64 0, .int .i64 0])).run Try.prog w = .ok (rightB g) w) := hidden (fun w => by
      have := def_eq_run w (checkOf g) D0
      rw [right_eq] at this
      exact this)
    have hq2 : Hid (∀ w, (Op.equalIn 10000 40 (.agg #[.int .i64 (checkOf (moreG g p)).kind, .int .i64 (checkOf (moreG g p)).at_, .int .i64 (checkOf (moreG g p)).more]) (.agg #[.int .i64 0, .int .i64 0, .int .i64 0])).run Try.prog w = .ok (rightB (moreG g p)) w) := hidden (fun w => by
      have := def_eq_run w (checkOf (moreG g p)) D0
      rw [right_eq] at this
      exact this)
    have HLE : Hid (∀ (k i : Nat), (pick3 (growsB g false) (growsB g true) (reachB g) k)[i]? = some true → (pick3 (growsB (moreG g p) false) (growsB (moreG g p) true) (reachB (moreG g p)) k)[i]? = some true) := hidden (fun k i h => by
      match k with
      | 0 => exact growsB_more hmp rfl false h
      | 1 => exact growsB_more hmp rfl true h
      | k + 2 => exact reachB_more hmp rfl rfl h)
    have HLn : Hid (∀ k : Nat, (pick3 (growsB g false) (growsB g true) (reachB g) k).length = g.rules.length ∧ (pick3 (growsB (moreG g p) false) (growsB (moreG g p) true) (reachB (moreG g p)) k).length = g.rules.length) := hidden (fun k => by
      match k with
      | 0 => exact ⟨growsB_len _ _, growsB_len _ _⟩
      | 1 => exact ⟨growsB_len _ _, growsB_len _ _⟩
      | k + 2 => exact ⟨reachB_len _, reachB_len _⟩)
    have hrs : fewB (moreG g p) = true → g.rules.length ≤ 100000 := fun h => (few_is h hzm).rules
    have HRs := hidden hrs
    clear hml hsmall hmp hzm hrs hGg hGh HR HGo HLo hz
    generalize fewB (moreG g p) = fm at *
    generalize checkOf (moreG g p) = dm at *
    generalize rightB (moreG g p) = rm at *
    generalize growsB (moreG g p) false = E' at *
    generalize growsB (moreG g p) true = M' at *
    generalize reachB (moreG g p) = R' at *
    generalize checkOf g = d at *
    generalize rightB g = rt at *
    generalize growsB g false = E at *
    generalize growsB g true = M at *
    generalize reachB g = R at *
    obtain ⟨t0, t1, t2, t3, t4, t5, t6, t7⟩ := eight HF.out
    go_wp2_with fail
    refine F1.out.mono ?_
    rintro r w2 ⟨rfl, hb2⟩
    have hb2h := hidden hb2
    have hbw := hbF.out.more hb2
    replace PF := hidden (PF.out.below hb2 PF.out.lt)
    replace HF := hidden (HF.out.below hb2 HF.out.lt)
    clear hb2
    clear t0 t1 t2 t3 t4 t5 t6 t7
    cases fm
    · go_wp2_with fail
      refine (knows21 _).mono ?_
      rintro r w9 ⟨rfl, hb9⟩
      replace hbw := hbw.more hb9
      clear hb9
      go_wp2
      go_ret
      exact ⟨rfl, hbw⟩
    replace HQ := hidden (HQ.out rfl)
    replace HQm := hidden (HQm.out rfl)
    have hrs := HRs.out rfl
    clear HRs
    obtain ⟨s0, s1, s2, s3, s4, s5, s6, s7⟩ := eight PF.out
    go_wp2_with fail
    refine (HQ.out _ hb2h.out).check.mono ?_
    rintro r w3 ⟨rfl, hb3⟩
    replace hb2h := hidden (hb2h.out.more hb3)
    replace hbw := hbw.more hb3
    replace PF := hidden (PF.out.below hb3 PF.out.lt)
    replace HF := hidden (HF.out.below hb3 HF.out.lt)
    have hq := hq1.out
    clear hb3 s0 s1 s2 s3 s4 s5 s6 s7
    cases rt
    · go_wp2_with fail
      refine (knows21 _).mono ?_
      rintro r w9 ⟨rfl, hb9⟩
      replace hbw := hbw.more hb9
      clear hb9
      go_wp2
      go_ret
      exact ⟨rfl, hbw⟩
    clear hq
    have hq := hq1.out
    obtain ⟨t0, t1, t2, t3, t4, t5, t6, t7⟩ := eight HF.out
    go_wp2_with fail
    refine (HQm.out _ hb2h.out).check.mono ?_
    rintro r w4 ⟨rfl, hb4⟩
    replace hb2h := hidden (hb2h.out.more hb4)
    replace hbw := hbw.more hb4
    replace PF := hidden (PF.out.below hb4 PF.out.lt)
    replace HF := hidden (HF.out.below hb4 HF.out.lt)
    clear hq
    have hq := hq2.out
    clear hb4 t0 t1 t2 t3 t4 t5 t6 t7
    cases rm
    · go_wp2_with fail
      refine (knows21 _).mono ?_
      rintro r w9 ⟨rfl, hb9⟩
      replace hbw := hbw.more hb9
      clear hb9
      go_wp2
      go_ret
      exact ⟨rfl, hbw⟩
    obtain ⟨s0, s1, s2, s3, s4, s5, s6, s7⟩ := eight PF.out
    go_wp2_with fail
    clear hq hq1 hq2
    go_region_held3 (fun w' => w'.cell? ⟨w.heap.size, 0, none⟩ = some (.slice A1 g.toks.length k1) ∧ w'.cell? ⟨w.heap.size, 1, none⟩ = some (.slice A2 g.rules.length k2) ∧ w'.cell? ⟨w.heap.size, 2, none⟩ = some (.slice A3 g.prods.length k3) ∧ w'.cell? ⟨w.heap.size, 3, none⟩ = some (.int .i64 g.start) ∧ w'.cell? ⟨w.heap.size, 4, none⟩ = some (.int .i64 g.states) ∧ w'.cell? ⟨w.heap.size, 5, none⟩ = some (.int .i64 g.text) ∧ w'.cell? ⟨w.heap.size, 6, none⟩ = some (.int .i64 g.nodes) ∧ w'.cell? ⟨w.heap.size, 7, none⟩ = some (.int .i64 g.pairs) ∧ Below w4.heap.size w4 w')
      (first | exact ⟨s0, s1, s2, s3, s4, s5, s6, s7, Below.drew (Below.refl _ _)⟩ | (go_split_ands; exact keep_one PF.out (by (first | assumption | exact Below.drew (Below.refl _ _) | exact Below.refl _ _)) (by assumption)) | (go_split_ands; exact keep_one PF.out (by (first | assumption | exact Below.drew (Below.refl _ _) | exact Below.refl _ _)) ((Below.refl _ _).alloc (Nat.le_refl _) _)))
      (first | (go_at_call 44; go_split_ands; refine (sets_block (HQ.out _ (hb2h.out.trans (Below.mono (by (first | assumption | exact Below.drew (Below.refl _ _) | exact Below.refl _ _)) hb2h.out.size))).e).mono ?_; rintro e w5 ⟨⟨u5, rfl, hu5⟩, hb5⟩) | (go_at_call 45; go_split_ands; refine (sets_block (HQ.out _ (hb2h.out.trans (Below.mono (by (first | assumption | exact Below.drew (Below.refl _ _) | exact Below.refl _ _)) hb2h.out.size))).m).mono ?_; rintro e w6 ⟨⟨u6, rfl, hu6⟩, hb6⟩) | (go_at_call 46; go_split_ands; refine (sets_block (HQ.out _ (hb2h.out.trans (Below.mono (by (first | assumption | exact Below.drew (Below.refl _ _) | exact Below.refl _ _)) hb2h.out.size))).r).mono ?_; rintro e w7 ⟨⟨u7, rfl, hu7⟩, hb7⟩))
    have hal7 := hidden ((Below.refl w7.heap.size w7).alloc (Nat.le_refl _) (.cells #[.slice (some ⟨u5, 0, none⟩) g.rules.length g.rules.length, .slice (some ⟨u6, 0, none⟩) g.rules.length g.rules.length, .slice (some ⟨u7, 0, none⟩) g.rules.length g.rules.length] 58))
    have hbs7 := hidden (((((Below.refl w4.heap.size w4).drew.more hb5).more hb6).more hb7).more hal7.out)
    obtain ⟨W7, hW7⟩ : ∃ W7, W7 = w7.alloc (.cells #[.slice (some ⟨u5, 0, none⟩) g.rules.length g.rules.length, .slice (some ⟨u6, 0, none⟩) g.rules.length g.rules.length, .slice (some ⟨u7, 0, none⟩) g.rules.length g.rules.length] 58) := ⟨_, rfl⟩
    have T7 := hidden (Three.mk_ hu5.out hu6.out hu7.out hb6 hb7 hW7)
    rw [← hW7] at hbs7 hal7 ⊢
    replace HF := hidden (HF.out.below hbs7.out HF.out.lt)
    replace hb2h := hidden (hb2h.out.more hbs7.out)
    replace hbw := hbw.more hbs7.out
    clear hW7 hal7 hbs7 hb5 hb6 hb7 hu5 hu6 hu7 s0 s1 s2 s3 s4 s5 s6 s7
    generalize w7.heap.size = qa at *
    obtain ⟨s0, s1, s2, s3, s4, s5, s6, s7⟩ := eight HF.out
    go_wp2_with fail
    go_region_held3 (fun w' => w'.cell? ⟨w.heap.size + 1 + 1, 0, none⟩ = some (.slice A1 g.toks.length k1) ∧ w'.cell? ⟨w.heap.size + 1 + 1, 1, none⟩ = some (.slice A2 g.rules.length k2) ∧ w'.cell? ⟨w.heap.size + 1 + 1, 2, none⟩ = some (.slice A6 (g.prods.length + 1) c6) ∧ w'.cell? ⟨w.heap.size + 1 + 1, 3, none⟩ = some (.int .i64 g.start) ∧ w'.cell? ⟨w.heap.size + 1 + 1, 4, none⟩ = some (.int .i64 g.states) ∧ w'.cell? ⟨w.heap.size + 1 + 1, 5, none⟩ = some (.int .i64 g.text) ∧ w'.cell? ⟨w.heap.size + 1 + 1, 6, none⟩ = some (.int .i64 g.nodes) ∧ w'.cell? ⟨w.heap.size + 1 + 1, 7, none⟩ = some (.int .i64 g.pairs) ∧ Below W7.heap.size W7 w')
      (first | exact ⟨s0, s1, s2, s3, s4, s5, s6, s7, Below.drew (Below.refl _ _)⟩ | (go_split_ands; exact keep_one HF.out (by (first | assumption | exact Below.drew (Below.refl _ _) | exact Below.refl _ _)) (by assumption)) | (go_split_ands; exact keep_one HF.out (by (first | assumption | exact Below.drew (Below.refl _ _) | exact Below.refl _ _)) ((Below.refl _ _).alloc (Nat.le_refl _) _)))
      (first | (go_at_call 44; go_split_ands; refine (sets_block (HQm.out _ (hb2h.out.trans (Below.mono (by (first | assumption | exact Below.drew (Below.refl _ _) | exact Below.refl _ _)) hb2h.out.size))).e).mono ?_; rintro e w8 ⟨⟨u8, rfl, hu8⟩, hb8⟩) | (go_at_call 45; go_split_ands; refine (sets_block (HQm.out _ (hb2h.out.trans (Below.mono (by (first | assumption | exact Below.drew (Below.refl _ _) | exact Below.refl _ _)) hb2h.out.size))).m).mono ?_; rintro e w9 ⟨⟨u9, rfl, hu9⟩, hb9⟩) | (go_at_call 46; go_split_ands; refine (sets_block (HQm.out _ (hb2h.out.trans (Below.mono (by (first | assumption | exact Below.drew (Below.refl _ _) | exact Below.refl _ _)) hb2h.out.size))).r).mono ?_; rintro e w10 ⟨⟨u10, rfl, hu10⟩, hb10⟩))
    have hal10 := hidden ((Below.refl w10.heap.size w10).alloc (Nat.le_refl _) (.cells #[.slice (some ⟨u8, 0, none⟩) g.rules.length g.rules.length, .slice (some ⟨u9, 0, none⟩) g.rules.length g.rules.length, .slice (some ⟨u10, 0, none⟩) g.rules.length g.rules.length] 58))
    have hbs10 := hidden (((((Below.refl W7.heap.size W7).drew.more hb8).more hb9).more hb10).more hal10.out)
    obtain ⟨W10, hW10⟩ : ∃ W10, W10 = w10.alloc (.cells #[.slice (some ⟨u8, 0, none⟩) g.rules.length g.rules.length, .slice (some ⟨u9, 0, none⟩) g.rules.length g.rules.length, .slice (some ⟨u10, 0, none⟩) g.rules.length g.rules.length] 58) := ⟨_, rfl⟩
    have T10 := hidden (Three.mk_ hu8.out hu9.out hu10.out hb9 hb10 hW10)
    rw [← hW10] at hbs10 hal10 ⊢
    replace T7 := hidden (T7.out.next hbs10.out)
    replace hbw := hbw.more hbs10.out
    clear hW10 hal10 hbs10 hb8 hb9 hb10 hu8 hu9 hu10 s0 s1 s2 s3 s4 s5 s6 s7 hb2h PF HF HQ HQm F1 hbF
    generalize w10.heap.size = qb at *
    have HBW := hidden hbw
    clear hbw
    go_wp2
    go_loopg [8] 3 (fun gh kk wr => ∃ k : Nat, k ≤ 3 ∧ gh = 3 - k ∧ kk = .int .i64 k ∧ Hid (Below W10.heap.size W10 wr))
    case atStart => exact ⟨0, by omega, rfl, rfl, hidden (Below.refl _ _)⟩
    case round =>
      obtain ⟨k, hk, rfl, rfl, hbr⟩ := hrel
      by_cases hk3 : k < 3
      · obtain ⟨x1, pa, x2, x3, x4⟩ := (T7.out.next hbr.out).at_ hk3
        obtain ⟨y1, pb, y2, y3, y4⟩ := (T10.out.next hbr.out).at_ hk3
        have X4 := hidden x4
        have Y4 := hidden y4
        have HE := hidden (fun i h => HLE.out k i h)
        have HN := hidden (HLn.out k)
        generalize pick3 E M R k = S at *
        generalize pick3 E' M' R' k = S' at *
        have i1 : (0 : Int) ≤ (k : Int) := by omega
        have i2 : (k : Int) < (3 : Int) := by omega
        clear x4 y4
        go_wp2_with fail
        go_quiet (fail)
        go_wp2
        have x2' : (wr.drewN nq).cell? ⟨qa, k, none⟩ = some (.slice (some ⟨pa, 0, none⟩) g.rules.length g.rules.length) := x2
        have y2' : (wr.drewN nq).cell? ⟨qb, k, none⟩ = some (.slice (some ⟨pb, 0, none⟩) g.rules.length g.rules.length) := y2
        have X5 : Hid (BoolsAt (wr.drewN nq) pa S) := X4
        have Y5 : Hid (BoolsAt (wr.drewN nq) pb S') := Y4
        have hbq := hidden (below_drewN hbr.out nq)
        clear x2 y2 X4 Y4
        generalize wr.drewN nq = wq at *
        go_loop [9] (fun ii => ∃ i : Nat, i ≤ g.rules.length ∧ ii = .int .i64 i) (fun ii => g.rules.length - (intOf ii).toNat)
        case atStart => exact ⟨0, by omega, rfl⟩
        case round =>
          obtain ⟨i, hi, rfl⟩ := hrel
          by_cases hil : i < g.rules.length
          · have gE := List.getElem?_eq_getElem (show i < S.length by rw [HN.out.1]; exact hil)
            have gM := List.getElem?_eq_getElem (show i < S'.length by rw [HN.out.2]; exact hil)
            generalize S[i]'(by rw [HN.out.1]; exact hil) = be at *
            generalize S'[i]'(by rw [HN.out.2]; exact hil) = bm at *
            have HBe : Hid (be = true → bm = true) := hidden (fun h => by
              have := HE.out i (by rw [gE, h])
              rw [gM] at this
              simpa using this)
            have z1 := X5.out.at_ gE
            have z2 := Y5.out.at_ gM
            clear gE gM
            cases be
            · go_wp2
              go_round
              case rel => exact ⟨i + 1, by omega, by go_num⟩
              case measure => simp [intOf]; omega
            · obtain rfl := HBe.out rfl
              go_wp2
              go_round
              case rel => exact ⟨i + 1, by omega, by go_num⟩
              case measure => simp [intOf]; omega
          · go_wp2
            go_roundg (3 - (k + 1))
            case measure => omega
            case rel => exact ⟨k + 1, by omega, rfl, by go_num, hbq⟩
      · have : k = 3 := by omega
        subst this
        go_wp2_with fail
        refine (knows21 _).mono ?_
        rintro r w9 ⟨rfl, hb9⟩
        have hbw := hidden ((HBW.out.more hbr.out).more hb9)
        clear hb9
        go_wp2
        go_ret
        exact ⟨rfl, hbw.out⟩
end Go.Proofs.Ytaagkbgbghleiaa
