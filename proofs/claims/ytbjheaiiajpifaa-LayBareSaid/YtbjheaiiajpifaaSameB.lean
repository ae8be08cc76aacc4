/-
  same: the methods notes and nodes.
-/
import Derived.Test.YtbjheaiiajpifaaSameA
import Derived.Test.YtbjheaiiajpifaaTake2
namespace Go.Proofs.Ytbjheaiiajpifaa.T
open Go.RowKit Go.Shelf

theorem cell_at {w w' : World} {b o : Nat} {v : Value} (h : w.cell? ⟨b, o, none⟩ = some v) (hb : Below w.heap.size w w') : w'.cell? ⟨b, o, none⟩ = some v := Ext.cell h ⟨w', hb⟩
theorem cell_more {w w1 w2 : World} {b o : Nat} {v : Value} (h : w.cell? ⟨b, o, none⟩ = some v) (h1 : Below w.heap.size w w1) (h2 : Below w1.heap.size w1 w2) : w2.cell? ⟨b, o, none⟩ = some v :=
  Ext.cell h ⟨w2, h1.trans (h2.mono h1.size)⟩
theorem below_more {w w1 w2 : World} (h : Below w.heap.size w w1) (k : Below w1.heap.size w1 w2) : Below w.heap.size w w2 := h.trans (k.mono h.size)
theorem below_fields {B n : Nat} {w W : World} (h : Below B w W) : Below B w { heap := W.heap, tape := W.tape, drawn := n, os := W.os, output := W.output } := ⟨h.os, h.tape, h.output, h.size, h.block⟩
theorem equal_two (u v : Value) (L M : List Piece) {b6 b7 : Nat} {w6 w7 : World} (h6 : PcsM w6 b6 u L) (h7 : PcsM w7 b7 v M) (hb : Below w6.heap.size w6 w7) :
    Calls Try.prog 80 #[u, v] w7 fun r w' => r = .returned (.bool (eqB L M)) ∧ Below w7.heap.size w7 w' :=
  equal_pcs _ _ L M w7 (Rd.old (FlatM.rd h6) hb) (FlatM.rd h7)

set_option maxRecDepth 20000 in
set_option maxHeartbeats 4000000 in
theorem two_notes (p : Nat) (vt va vb : Value) (ts : List Token) (a b : List Node) (i : Nat) (w : World) (H : TwoAt w p vt va vb ts a b) (h1 : i < a.length) (h2 : i < b.length) (f1 : ∀ x ∈ a, x.lead.length * 24 ≤ 140737488355328) (f2 : ∀ x ∈ b, x.lead.length * 24 ≤ 140737488355328) :
    Calls Try.prog 95 #[.pointer (some ⟨p, 0, none⟩), .int .i64 (i : Int)] w fun r w' => r = .returned (.bool (notesD ts a b i)) ∧ Below w.heap.size w w' := by
  obtain ⟨b1, o1, c1, rfl, d1, e1, _, hat1⟩ := H.a.open_ (by intro e; subst e; simp at h1)
  obtain ⟨b2, o2, c2, rfl, d2, e2, _, hat2⟩ := H.b.open_ (by intro e; subst e; simp at h2)
  unfold maxLen at e1 e2
  have hx := List.getElem?_eq_getElem h1
  have hy := List.getElem?_eq_getElem h2
  have g1 := f1 _ (List.getElem_mem h1)
  have g2 := f2 _ (List.getElem_mem h2)
  obtain ⟨l1, x0, x1, x2, x3, x4, hl1⟩ := hat1 i _ hx
  obtain ⟨l2, y0, y1, y2, y3, y4, hl2⟩ := hat2 i _ hy
  unfold notesD
  rw [hx, hy]
  dsimp only
  generalize a[i] = x at *
  generalize b[i] = y at *
  obtain ⟨s0, s1, s2⟩ := Holds.three H.at_
  obtain ⟨A0, c0, rfl, _, _⟩ := H.toks.value
  obtain ⟨A3, c3, rfl, _, _⟩ := hl1.value
  obtain ⟨A4, c4, rfl, _, _⟩ := hl2.value
  have HN1 := hidden (fun (w' : World) (hb : Below w.heap.size w w') => lead_Notes _ _ ts x.lead w' (H.toks.old hb) (Rd.old hl1 hb) g1)
  have HN2 := hidden (fun (w' : World) (hb : Below w.heap.size w w') => lead_Notes _ _ ts y.lead w' (H.toks.old hb) (Rd.old hl2 hb) g2)
  have HS := hidden (And.intro s0 (And.intro s1 (And.intro s2 (And.intro x3 y3))))
  generalize notesOf ts x.lead = L at *
  generalize notesOf ts y.lead = M at *
  generalize hr : eqB L M = r at *
  have HE := hidden (fun (u v : Value) (b6 b7 : Nat) (w6 w7 : World) (h6 : PcsM w6 b6 u L) (h7 : PcsM w7 b7 v M) (hb : Below w6.heap.size w6 w7) => hr ▸ equal_two u v L M h6 h7 hb)
  have tok1 : True := trivial
  clear x0 x1 x2 x3 x4 y0 y1 y2 y3 y4 s0 s1 s2 hat1 hat2 hx hy H hl1 hl2 hr
  go_enter Try.func95, Try.ntmps95
  go_wp2_with fail
  go_region_held3 (fun w' => w'.cell? ⟨p, 0, none⟩ = some (.slice A0 ts.length c0) ∧ w'.cell? ⟨p, 1, none⟩ = some (.slice (some ⟨b1, o1, none⟩) a.length c1) ∧ w'.cell? ⟨p, 2, none⟩ = some (.slice (some ⟨b2, o2, none⟩) b.length c2) ∧ w'.cell? ⟨b1, o1 + i * 5 + 3, none⟩ = some (.slice A3 x.lead.length c3) ∧ w'.cell? ⟨b2, o2 + i * 5 + 3, none⟩ = some (.slice A4 y.lead.length c4) ∧ Below w.heap.size w w') (first | exact ⟨HS.out.1, HS.out.2.1, HS.out.2.2.1, HS.out.2.2.2.1, HS.out.2.2.2.2, Below.drew (Below.refl _ _)⟩ | (go_split_ands; exact ⟨cell_more HS.out.1 (by (first | assumption | exact Below.drew (Below.refl _ _) | exact Below.refl _ _)) (by assumption), cell_more HS.out.2.1 (by (first | assumption | exact Below.drew (Below.refl _ _) | exact Below.refl _ _)) (by assumption), cell_more HS.out.2.2.1 (by (first | assumption | exact Below.drew (Below.refl _ _) | exact Below.refl _ _)) (by assumption), cell_more HS.out.2.2.2.1 (by (first | assumption | exact Below.drew (Below.refl _ _) | exact Below.refl _ _)) (by assumption), cell_more HS.out.2.2.2.2 (by (first | assumption | exact Below.drew (Below.refl _ _) | exact Below.refl _ _)) (by assumption), Below.trans (by (first | assumption | exact Below.drew (Below.refl _ _) | exact Below.refl _ _)) (Below.mono (by assumption) (Below.size (by (first | assumption | exact Below.drew (Below.refl _ _) | exact Below.refl _ _))))⟩)) (first | (go_at_call 109; have _t := tok1; go_split_ands; refine (HN1.out _ (by (first | assumption | exact Below.drew (Below.refl _ _) | exact Below.refl _ _))).mono ?_; rintro e w6 ⟨⟨u6, rfl, HM6⟩, hb6⟩; clear tok1 _t; obtain ⟨A6, c6, rfl⟩ := HM6.out.value) | (go_at_call 109; go_split_ands; refine (HN2.out _ (by (first | assumption | exact Below.drew (Below.refl _ _) | exact Below.refl _ _))).mono ?_; rintro e w7 ⟨⟨u7, rfl, HM7⟩, hb7⟩; obtain ⟨A7, c7, rfl⟩ := HM7.out.value) | (go_at_call 80; go_split_ands; refine (HE.out _ _ _ _ _ _ HM6.out HM7.out hb7).mono ?_; rintro e w8 ⟨rfl, hb8⟩))
  have hbe := hidden (below_more (below_more (below_more (Below.refl w.heap.size w).drew hb6) hb7) hb8)
  clear hb6 hb7 hb8 HM6 HM7
  go_wp2
  go_ret
  exact ⟨rfl, hbe.out⟩

/-- What two nodes read as is kept. -/
theorem keep_nodes {w w' : World} {p i b1 o1 c1 b2 o2 c2 c3 c4 : Nat} {a b : List Node} {x y : Node} {A3 A4 : Option Addr} (h : w.cell? ⟨p, 1, none⟩ = some (.slice (some ⟨b1, o1, none⟩) a.length c1) ∧ w.cell? ⟨p, 2, none⟩ = some (.slice (some ⟨b2, o2, none⟩) b.length c2) ∧ w.cell? ⟨b1, o1 + i * 5, none⟩ = some (.int .i64 x.kind) ∧ w.cell? ⟨b1, o1 + i * 5 + 1, none⟩ = some (.int .i64 x.n) ∧ w.cell? ⟨b1, o1 + i * 5 + 2, none⟩ = some (.int .i64 x.size) ∧ w.cell? ⟨b1, o1 + i * 5 + 3, none⟩ = some (.slice A3 x.lead.length c3) ∧ w.cell? ⟨b1, o1 + i * 5 + 4, none⟩ = some (.string x.text) ∧ w.cell? ⟨b2, o2 + i * 5, none⟩ = some (.int .i64 y.kind) ∧ w.cell? ⟨b2, o2 + i * 5 + 1, none⟩ = some (.int .i64 y.n) ∧ w.cell? ⟨b2, o2 + i * 5 + 2, none⟩ = some (.int .i64 y.size) ∧ w.cell? ⟨b2, o2 + i * 5 + 3, none⟩ = some (.slice A4 y.lead.length c4) ∧ w.cell? ⟨b2, o2 + i * 5 + 4, none⟩ = some (.string y.text)) (hb : Below w.heap.size w w') :
    w'.cell? ⟨p, 1, none⟩ = some (.slice (some ⟨b1, o1, none⟩) a.length c1) ∧ w'.cell? ⟨p, 2, none⟩ = some (.slice (some ⟨b2, o2, none⟩) b.length c2) ∧ w'.cell? ⟨b1, o1 + i * 5, none⟩ = some (.int .i64 x.kind) ∧ w'.cell? ⟨b1, o1 + i * 5 + 1, none⟩ = some (.int .i64 x.n) ∧ w'.cell? ⟨b1, o1 + i * 5 + 2, none⟩ = some (.int .i64 x.size) ∧ w'.cell? ⟨b1, o1 + i * 5 + 3, none⟩ = some (.slice A3 x.lead.length c3) ∧ w'.cell? ⟨b1, o1 + i * 5 + 4, none⟩ = some (.string x.text) ∧ w'.cell? ⟨b2, o2 + i * 5, none⟩ = some (.int .i64 y.kind) ∧ w'.cell? ⟨b2, o2 + i * 5 + 1, none⟩ = some (.int .i64 y.n) ∧ w'.cell? ⟨b2, o2 + i * 5 + 2, none⟩ = some (.int .i64 y.size) ∧ w'.cell? ⟨b2, o2 + i * 5 + 3, none⟩ = some (.slice A4 y.lead.length c4) ∧ w'.cell? ⟨b2, o2 + i * 5 + 4, none⟩ = some (.string y.text) ∧ Below w.heap.size w w' :=
  ⟨Ext.cell h.1 ⟨w', hb⟩, Ext.cell h.2.1 ⟨w', hb⟩, Ext.cell h.2.2.1 ⟨w', hb⟩, Ext.cell h.2.2.2.1 ⟨w', hb⟩, Ext.cell h.2.2.2.2.1 ⟨w', hb⟩, Ext.cell h.2.2.2.2.2.1 ⟨w', hb⟩, Ext.cell h.2.2.2.2.2.2.1 ⟨w', hb⟩, Ext.cell h.2.2.2.2.2.2.2.1 ⟨w', hb⟩, Ext.cell h.2.2.2.2.2.2.2.2.1 ⟨w', hb⟩, Ext.cell h.2.2.2.2.2.2.2.2.2.1 ⟨w', hb⟩, Ext.cell h.2.2.2.2.2.2.2.2.2.2.1 ⟨w', hb⟩, Ext.cell h.2.2.2.2.2.2.2.2.2.2.2 ⟨w', hb⟩, hb⟩

set_option maxRecDepth 20000 in
set_option maxHeartbeats 8000000 in
theorem two_nodes (p : Nat) (vt va vb : Value) (ts : List Token) (a b : List Node) (i : Nat) (w : World) (H : TwoAt w p vt va vb ts a b) (h1 : i < a.length) (h2 : i < b.length) (g1 : a.length ≤ 140737488355) (g2 : b.length ≤ 140737488355) :
    Calls Try.prog 94 #[.pointer (some ⟨p, 0, none⟩), .int .i64 (i : Int)] w fun r w' => r = .returned (.bool (nodesD a b i)) ∧ Below w.heap.size w w' := by
  obtain ⟨b1, o1, c1, rfl, d1, e1, _, hat1⟩ := H.a.open_ (by intro e; subst e; simp at h1)
  obtain ⟨b2, o2, c2, rfl, d2, e2, _, hat2⟩ := H.b.open_ (by intro e; subst e; simp at h2)
  unfold maxLen at e1 e2
  have hx := List.getElem?_eq_getElem h1
  have hy := List.getElem?_eq_getElem h2
  obtain ⟨l1, x0, x1, x2, x3, x4, hl1⟩ := hat1 i _ hx
  obtain ⟨l2, y0, y1, y2, y3, y4, hl2⟩ := hat2 i _ hy
  have HK1 := hidden (fun (w' : World) (hb : Below w.heap.size w w') => arena_Kids _ a (i : Int) w' g1 (H.a.old hb))
  have HK2 := hidden (fun (w' : World) (hb : Below w.heap.size w w') => arena_Kids _ b (i : Int) w' g2 (H.b.old hb))
  unfold nodesD
  rw [hx, hy]
  dsimp only
  generalize a[i] = x at *
  generalize b[i] = y at *
  generalize kidsOf a i = K1 at *
  generalize kidsOf b i = K2 at *
  generalize hR : (x.kind != y.kind || (x.n != y.n || K1.length != K2.length)) = R
  have HR := hidden hR
  clear hR
  obtain ⟨s0, s1, s2⟩ := Holds.three H.at_
  obtain ⟨A3, c3, rfl, _, _⟩ := hl1.value
  obtain ⟨A4, c4, rfl, _, _⟩ := hl2.value
  have HS := hidden (And.intro s1 (And.intro s2 (And.intro x0 (And.intro x1 (And.intro x2 (And.intro x3 (And.intro x4 (And.intro y0 (And.intro y1 (And.intro y2 (And.intro y3 (y4))))))))))))
  have tok1 : True := trivial
  clear x0 x1 x2 x3 x4 y0 y1 y2 y3 y4 s0 s1 s2 hat1 hat2 hx hy H hl1 hl2
  go_enter Try.func94, Try.ntmps94
  go_upto_region 1 with fail
  go_cut [5, 6] from 7 to 20 (fun v5 v6 wx => ∃ q5 q6 : Nat, v5 = .pointer (some ⟨q5, 0, none⟩) ∧ v6 = .pointer (some ⟨q6, 0, none⟩) ∧ Hid (Holds wx q5 58 #[.int .i64 x.kind, .int .i64 x.n, .int .i64 x.size, .slice A3 x.lead.length c3, .string x.text]) ∧ Hid (Holds wx q6 58 #[.int .i64 y.kind, .int .i64 y.n, .int .i64 y.size, .slice A4 y.lead.length c4, .string y.text]) ∧ Hid (Below w.heap.size w wx))
  case first =>
    refine (wpIn_wide (n := 5)).1 ?_
    refine wpIn_region_take (fun w9 => Below w.heap.size w w9) 17 (by kernel_rfl) ?_
    have hCd : Below w.heap.size w w.drew := (Below.refl _ _).drew
    refine take_read (i := 0) (v := ?_) (by kernel_rfl) (by rfl) rfl (by rfl) (by kernel_rfl) (by kernel_rfl) (fun _ _ _ h => h) hCd ⟨Or.inl ⟨by rfl, fun w9 hw => ?_⟩, fun _ => rfl⟩ ?_
    rotate_left
    · clear hw
      go_simp
      try rfl
    refine take_read (i := 1) (v := ?_) (by kernel_rfl) (by rfl) rfl (by rfl) (by kernel_rfl) (by kernel_rfl) (fun _ _ _ h => h) hCd ⟨Or.inl ⟨by rfl, fun w9 hw => ?_⟩, fun _ => rfl⟩ ?_
    rotate_left
    · clear hw
      go_simp
      try rfl
    refine take_read (i := 2) (v := ?_) (by kernel_rfl) (by rfl) rfl (by rfl) (by kernel_rfl) (by kernel_rfl) (fun _ _ _ h => h) hCd ⟨Or.inl ⟨by rfl, fun w9 hw => ?_⟩, fun _ => rfl⟩ ?_
    rotate_left
    · clear hw
      go_simp
      try rfl
    refine take_read (i := 3) (v := ?_) (by kernel_rfl) (by rfl) rfl (by rfl) (by kernel_rfl) (by kernel_rfl) (fun _ _ _ h => h) hCd ⟨Or.inl ⟨by rfl, fun w9 hw => ?_⟩, fun _ => rfl⟩ ?_
    rotate_left
    · have q0 := cell_at HS.out.1 hw; clear hw
      go_simp
      try rfl
    refine take_read (i := 4) (v := ?_) (by kernel_rfl) (by rfl) rfl (by rfl) (by kernel_rfl) (by kernel_rfl) (fun _ _ _ h => h) hCd ⟨Or.inl ⟨by rfl, fun w9 hw => ?_⟩, fun _ => rfl⟩ ?_
    rotate_left
    · clear hw
      go_simp
      try rfl
    refine take_read (i := 5) (v := ?_) (by kernel_rfl) (by rfl) rfl (by rfl) (by kernel_rfl) (by kernel_rfl) (fun _ _ _ h => h) hCd ⟨Or.inl ⟨by rfl, fun w9 hw => ?_⟩, fun _ => rfl⟩ ?_
    rotate_left
    · clear hw
      go_simp
      try rfl
    refine take_read (i := 6) (v := ?_) (by kernel_rfl) (by rfl) rfl (by rfl) (by kernel_rfl) (by kernel_rfl) (fun _ _ _ h => h) hCd ⟨Or.inl ⟨by rfl, fun w9 hw => ?_⟩, fun _ => rfl⟩ ?_
    rotate_left
    · have q0 := cell_at HS.out.2.2.1 hw; have q1 := cell_at HS.out.2.2.2.1 hw; have q2 := cell_at HS.out.2.2.2.2.1 hw; have q3 := cell_at HS.out.2.2.2.2.2.1 hw; have q4 := cell_at HS.out.2.2.2.2.2.2.1 hw; clear hw
      go_simp
      try rfl
    refine take_read (i := 7) (v := ?_) (by kernel_rfl) (by rfl) rfl (by rfl) (by kernel_rfl) (by kernel_rfl) (fun _ _ _ h => h) hCd ⟨Or.inl ⟨by rfl, fun w9 hw => ?_⟩, fun _ => rfl⟩ ?_
    rotate_left
    · clear hw
      go_simp
      try rfl
    refine take_read (i := 8) (v := ?_) (by kernel_rfl) (by rfl) rfl (by rfl) (by kernel_rfl) (by kernel_rfl) (fun _ _ _ h => h) hCd ⟨Or.inl ⟨by rfl, fun w9 hw => ?_⟩, fun _ => rfl⟩ ?_
    rotate_left
    · clear hw
      go_simp
      try rfl
    refine take_read (i := 9) (v := ?_) (by kernel_rfl) (by rfl) rfl (by rfl) (by kernel_rfl) (by kernel_rfl) (fun _ _ _ h => h) hCd ⟨Or.inl ⟨by rfl, fun w9 hw => ?_⟩, fun _ => rfl⟩ ?_
    rotate_left
    · clear hw
      go_simp
      try rfl
    refine take_read (i := 10) (v := ?_) (by kernel_rfl) (by rfl) rfl (by rfl) (by kernel_rfl) (by kernel_rfl) (fun _ _ _ h => h) hCd ⟨Or.inl ⟨by rfl, fun w9 hw => ?_⟩, fun _ => rfl⟩ ?_
    rotate_left
    · have q0 := cell_at HS.out.2.1 hw; clear hw
      go_simp
      try rfl
    refine take_read (i := 11) (v := ?_) (by kernel_rfl) (by rfl) rfl (by rfl) (by kernel_rfl) (by kernel_rfl) (fun _ _ _ h => h) hCd ⟨Or.inl ⟨by rfl, fun w9 hw => ?_⟩, fun _ => rfl⟩ ?_
    rotate_left
    · clear hw
      go_simp
      try rfl
    refine take_read (i := 12) (v := ?_) (by kernel_rfl) (by rfl) rfl (by rfl) (by kernel_rfl) (by kernel_rfl) (fun _ _ _ h => h) hCd ⟨Or.inl ⟨by rfl, fun w9 hw => ?_⟩, fun _ => rfl⟩ ?_
    rotate_left
    · clear hw
      go_simp
      try rfl
    refine take_read (i := 13) (v := ?_) (by kernel_rfl) (by rfl) rfl (by rfl) (by kernel_rfl) (by kernel_rfl) (fun _ _ _ h => h) hCd ⟨Or.inl ⟨by rfl, fun w9 hw => ?_⟩, fun _ => rfl⟩ ?_
    rotate_left
    · have q0 := cell_at HS.out.2.2.2.2.2.2.2.1 hw; have q1 := cell_at HS.out.2.2.2.2.2.2.2.2.1 hw; have q2 := cell_at HS.out.2.2.2.2.2.2.2.2.2.1 hw; have q3 := cell_at HS.out.2.2.2.2.2.2.2.2.2.2.1 hw; have q4 := cell_at HS.out.2.2.2.2.2.2.2.2.2.2.2 hw; clear hw
      go_simp
      try rfl
    generalize hwd : w.drew = wd at *
    have hzd := hCd.size
    clear hwd
    refine take_two (i := 14) (j := 15) (by kernel_rfl) rfl rfl rfl rfl (by rfl) (by rfl) (fun K hK => ?_) (fun K hK => ?_)
    · go_simp
      refine hK _ _ (by repeat (first | (with_reducible exact Below.refl _ _) | (with_reducible assumption) | (with_reducible refine Below.drew ?_) | (with_reducible refine below_drewN ?_ _) | ((with_reducible refine below_alloc ?_ ?_); (focus (first | omega | (simp; done) | (simp; omega)))) | ((with_reducible refine below_set ?_ ?_); (focus (first | omega | (simp; done) | (simp; omega)))))) ?_
      clear hK K
      refine take_only (i := 15) (by kernel_rfl) rfl rfl (by rfl) (fun K hK => ?_)
      go_simp
      refine hK _ _ (by repeat (first | (with_reducible exact Below.refl _ _) | (with_reducible assumption) | (with_reducible refine Below.drew ?_) | (with_reducible refine below_drewN ?_ _) | ((with_reducible refine below_alloc ?_ ?_); (focus (first | omega | (simp; done) | (simp; omega)))) | ((with_reducible refine below_set ?_ ?_); (focus (first | omega | (simp; done) | (simp; omega)))))) ?_
      clear hK K
      refine take_only (i := 16) (by kernel_rfl) rfl rfl (by rfl) (fun K hK => ?_)
      go_simp
      refine hK _ _ (by repeat (first | (with_reducible exact Below.refl _ _) | (with_reducible assumption) | (with_reducible refine Below.drew ?_) | (with_reducible refine below_drewN ?_ _) | ((with_reducible refine below_alloc ?_ ?_); (focus (first | omega | (simp; done) | (simp; omega)))) | ((with_reducible refine below_set ?_ ?_); (focus (first | omega | (simp; done) | (simp; omega)))))) ?_
      clear hK K
      refine take_tail (by kernel_rfl) (by kernel_rfl) ?_
      simp only [List.drop_succ_cons, List.drop_zero]
      gi_wp2
      go_meet
      exact ⟨_, _, rfl, rfl, hidden (by repeat (first | (with_reducible assumption) | ((with_reducible refine holds_new ?_); (focus (first | rfl | (simp; done)))) | (with_reducible refine Holds.alloc ?_ _) | (with_reducible refine Holds.drew ?_))), hidden (by repeat (first | (with_reducible assumption) | ((with_reducible refine holds_new ?_); (focus (first | rfl | (simp; done)))) | (with_reducible refine Holds.alloc ?_ _) | (with_reducible refine Holds.drew ?_))), hidden (by repeat (first | (with_reducible exact Below.refl _ _) | (with_reducible assumption) | (with_reducible refine Below.drew ?_) | (with_reducible refine below_drewN ?_ _) | ((with_reducible refine below_alloc ?_ ?_); (focus (first | omega | (simp; done) | (simp; omega)))) | ((with_reducible refine below_set ?_ ?_); (focus (first | omega | (simp; done) | (simp; omega))))))⟩
    · go_simp
      refine hK _ _ (by repeat (first | (with_reducible exact Below.refl _ _) | (with_reducible assumption) | (with_reducible refine Below.drew ?_) | (with_reducible refine below_drewN ?_ _) | ((with_reducible refine below_alloc ?_ ?_); (focus (first | omega | (simp; done) | (simp; omega)))) | ((with_reducible refine below_set ?_ ?_); (focus (first | omega | (simp; done) | (simp; omega)))))) ?_
      clear hK K
      refine take_only (i := 14) (by kernel_rfl) rfl rfl (by rfl) (fun K hK => ?_)
      go_simp
      refine hK _ _ (by repeat (first | (with_reducible exact Below.refl _ _) | (with_reducible assumption) | (with_reducible refine Below.drew ?_) | (with_reducible refine below_drewN ?_ _) | ((with_reducible refine below_alloc ?_ ?_); (focus (first | omega | (simp; done) | (simp; omega)))) | ((with_reducible refine below_set ?_ ?_); (focus (first | omega | (simp; done) | (simp; omega)))))) ?_
      clear hK K
      refine take_only (i := 16) (by kernel_rfl) rfl rfl (by rfl) (fun K hK => ?_)
      go_simp
      refine hK _ _ (by repeat (first | (with_reducible exact Below.refl _ _) | (with_reducible assumption) | (with_reducible refine Below.drew ?_) | (with_reducible refine below_drewN ?_ _) | ((with_reducible refine below_alloc ?_ ?_); (focus (first | omega | (simp; done) | (simp; omega)))) | ((with_reducible refine below_set ?_ ?_); (focus (first | omega | (simp; done) | (simp; omega)))))) ?_
      clear hK K
      refine take_tail (by kernel_rfl) (by kernel_rfl) ?_
      simp only [List.drop_succ_cons, List.drop_zero]
      gi_wp2
      go_meet
      exact ⟨_, _, rfl, rfl, hidden (by repeat (first | (with_reducible assumption) | ((with_reducible refine holds_new ?_); (focus (first | rfl | (simp; done)))) | (with_reducible refine Holds.alloc ?_ _) | (with_reducible refine Holds.drew ?_))), hidden (by repeat (first | (with_reducible assumption) | ((with_reducible refine holds_new ?_); (focus (first | rfl | (simp; done)))) | (with_reducible refine Holds.alloc ?_ _) | (with_reducible refine Holds.drew ?_))), hidden (by repeat (first | (with_reducible exact Below.refl _ _) | (with_reducible assumption) | (with_reducible refine Below.drew ?_) | (with_reducible refine below_drewN ?_ _) | ((with_reducible refine below_alloc ?_ ?_); (focus (first | omega | (simp; done) | (simp; omega)))) | ((with_reducible refine below_set ?_ ?_); (focus (first | omega | (simp; done) | (simp; omega))))))⟩
  case rest =>
    obtain ⟨q5, q6, rfl, rfl, B5, B6, HB⟩ := hcut
    have r0 : wc.cell? ⟨q5, 0, none⟩ = some (.int .i64 x.kind) := B5.out.cell 0
    have r1 : wc.cell? ⟨q5, 1, none⟩ = some (.int .i64 x.n) := B5.out.cell 1
    have t0 : wc.cell? ⟨q6, 0, none⟩ = some (.int .i64 y.kind) := B6.out.cell 0
    have t1 : wc.cell? ⟨q6, 1, none⟩ = some (.int .i64 y.n) := B6.out.cell 1
    have m1 := cell_at HS.out.1 HB.out
    have m2 := cell_at HS.out.2.1 HB.out
    clear B5 B6 HS
    have hb := HB.out
    by_cases hk : x.kind = y.kind
    · by_cases hn : x.n = y.n
      · have e1 : (x.kind != y.kind) = false := by simp [hk]
        have e2 : (x.n != y.n) = false := by simp [hn]
        have HE : Hid (R = (K1.length != K2.length)) := hidden (by rw [← HR.out, e1, e2, Bool.false_or, Bool.false_or])
        clear HR
        have HS := hidden (And.intro r0 (And.intro r1 (And.intro t0 (And.intro t1 (And.intro m1 m2)))))
        clear r0 r1 t0 t1 m1 m2 HB hk hn
        go_wp2_with fail
        go_region_held3 (fun w' => w'.cell? ⟨q5, 0, none⟩ = some (.int .i64 x.kind) ∧ w'.cell? ⟨q5, 1, none⟩ = some (.int .i64 x.n) ∧ w'.cell? ⟨q6, 0, none⟩ = some (.int .i64 y.kind) ∧ w'.cell? ⟨q6, 1, none⟩ = some (.int .i64 y.n) ∧ w'.cell? ⟨p, 1, none⟩ = some (.slice (some ⟨b1, o1, none⟩) a.length c1) ∧ w'.cell? ⟨p, 2, none⟩ = some (.slice (some ⟨b2, o2, none⟩) b.length c2) ∧ Below wc.heap.size wc w') (first | exact ⟨HS.out.1, HS.out.2.1, HS.out.2.2.1, HS.out.2.2.2.1, HS.out.2.2.2.2.1, HS.out.2.2.2.2.2, Below.drew (Below.refl _ _)⟩ | (go_split_ands; exact ⟨cell_more HS.out.1 (by (first | assumption | exact Below.drew (Below.refl _ _) | exact Below.refl _ _)) (by assumption), cell_more HS.out.2.1 (by (first | assumption | exact Below.drew (Below.refl _ _) | exact Below.refl _ _)) (by assumption), cell_more HS.out.2.2.1 (by (first | assumption | exact Below.drew (Below.refl _ _) | exact Below.refl _ _)) (by assumption), cell_more HS.out.2.2.2.1 (by (first | assumption | exact Below.drew (Below.refl _ _) | exact Below.refl _ _)) (by assumption), cell_more HS.out.2.2.2.2.1 (by (first | assumption | exact Below.drew (Below.refl _ _) | exact Below.refl _ _)) (by assumption), cell_more HS.out.2.2.2.2.2 (by (first | assumption | exact Below.drew (Below.refl _ _) | exact Below.refl _ _)) (by assumption), below_more (by (first | assumption | exact Below.drew (Below.refl _ _) | exact Below.refl _ _)) (by assumption)⟩)) (first | (go_at_call 60; have _t := tok1; go_split_ands; refine (HK1.out _ (below_more hb (by (first | assumption | exact Below.drew (Below.refl _ _) | exact Below.refl _ _)))).mono ?_; rintro e w6 ⟨⟨u6, rfl, HM6⟩, hb6⟩; clear tok1 _t; obtain ⟨A6, c6, rfl⟩ := HM6.out.value) | (go_at_call 60; go_split_ands; refine (HK2.out _ (below_more hb (by (first | assumption | exact Below.drew (Below.refl _ _) | exact Below.refl _ _)))).mono ?_; rintro e w7 ⟨⟨u7, rfl, HM7⟩, hb7⟩; obtain ⟨A7, c7, rfl⟩ := HM7.out.value))
        have hbe := hidden (below_more (below_more hb.drew hb6) hb7)
        clear hb6 hb7 HM6 HM7
        go_wp2
        go_ret
        exact ⟨ret_bool (by rw [HE.out, Bool.eq_iff_iff]; simp; try omega), hbe.out⟩
      · have e1 : (x.kind != y.kind) = false := by simp [hk]
        have e2 : (x.n != y.n) = true := by simp [hn]
        have HE : Hid (R = true) := hidden (by rw [← HR.out, e1, e2, Bool.true_or, Bool.false_or])
        clear HR
        have z0 := Ext.cell r0; have z1 := Ext.cell r1; have z2 := Ext.cell t0; have z3 := Ext.cell t1
        clear r0 r1 t0 t1 m1 m2 HB hk hn
        go_wp2_with fail
        refine wp_region_ext (by kernel_rfl) (by kernel_rfl) ?_
        repeat (go_big_quiet_step (fail))
        refine wpQuiet_nil ?_
        intro w2 hb2
        clear z0 z1 z2 z3
        go_wp2
        go_ret
        exact ⟨by rw [HE.out]; rfl, below_more hb hb2⟩
    · have e1 : (x.kind != y.kind) = true := by simp [hk]
      have HE : Hid (R = true) := hidden (by rw [← HR.out, e1, Bool.true_or])
      clear HR
      have z0 := Ext.cell r0; have z1 := Ext.cell r1; have z2 := Ext.cell t0; have z3 := Ext.cell t1
      clear r0 r1 t0 t1 m1 m2 HB hk
      go_wp2_with fail
      refine wp_region_ext (by kernel_rfl) (by kernel_rfl) ?_
      repeat (go_big_quiet_step (fail))
      refine wpQuiet_nil ?_
      intro w2 hb2
      clear z0 z1 z2 z3
      go_wp2
      go_ret
      exact ⟨by rw [HE.out]; rfl, below_more hb hb2⟩
end Go.Proofs.Ytbjheaiiajpifaa.T
