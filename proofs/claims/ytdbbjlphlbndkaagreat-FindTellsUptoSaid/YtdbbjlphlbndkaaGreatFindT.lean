/-
  The closure of find.Of: a node's mark is set if the node is so named.
-/
import Derived.Test.YtdbbjlphlbndkaaGreatFindN
import Derived.Test.YtdbbjlphlbndkaaGreatT5
namespace Go.Proofs.YtdbbjlphlbndkaaGreat.T
open Go.RowKit Go.Shelf
attribute [local simp] wide_fn

theorem cellF {w w1 : World} {b o : Nat} {v : Value} (h : w.cell? ⟨b, o, none⟩ = some v) (h1 : Below w.heap.size w w1) : w1.cell? ⟨b, o, none⟩ = some v := Ext.cell h ⟨w1, h1⟩
set_option maxRecDepth 20000 in
set_option maxHeartbeats 8000000 in
theorem find_take (a b c v : Value) (g : Gram) (t : List Node) (nm : ByteArray) (w0 : World) (HG : GramIs w0 (Old w0) a b c g) (hs : Sound g) (HN : Nds w0 (Old w0) v t) (W : World) (hW : Below w0.heap.size w0 W)
    (pn qn n pg pt ps : Nat) (s : List Bool) (i : Nat) (x : Node) (u : Bool) (hx : t[i]? = some x) (hu : s[i]? = some u) (hn : n = s.length)
    (H1 : Holds W pn 48 #[.slice (some ⟨qn, 0, none⟩) n n]) (H2 : Holds W pg 26 (gramCells a b c g)) (H3 : Holds W pt 27 #[v]) (H4 : Holds W ps 9 #[.string nm]) (HS : BoolsAt W qn s) :
    Calls Tryz.prog 21 #[.int .i64 (i : Int), .pointer (some ⟨pn, 0, none⟩), .pointer (some ⟨pg, 0, none⟩), .pointer (some ⟨pt, 0, none⟩), .pointer (some ⟨ps, 0, none⟩)] W fun r W' =>
      (∃ v, r = .returned v) ∧ BoolsAt W' qn (s.set i (u || namedD g x nm)) ∧ But qn W W' := by
  have hil := (List.getElem?_eq_some_iff.1 hx).1
  have hsl := (List.getElem?_eq_some_iff.1 hu).1
  obtain ⟨b0, off, c0, rfl, hc1, hc2, hT, hat⟩ := HN.open_ (by intro e; rw [e] at hil; simp at hil)
  obtain ⟨l, z0, z1, z2, z3, z4, _⟩ := hat i x hx
  unfold maxLen at hc2
  obtain ⟨⟨A1, k1, rfl, v1, m1⟩, ⟨A2, k2, rfl, v2, m2⟩, ⟨A3, k3, rfl, v3, m3⟩⟩ := HG.vals
  have HNm := hidden (fun (w' : World) (hb : Below w0.heap.size w0 w') => find_named _ _ _ l g x nm w' (HG.old hb) hs)
  unfold gramCells ndV at *
  replace z0 := cellF z0 hW; replace z1 := cellF z1 hW; replace z2 := cellF z2 hW; replace z3 := cellF z3 hW; replace z4 := cellF z4 hW
  have x0 := H2.cell 0; have x1 := H2.cell 1; have x2 := H2.cell 2; have x3 := H2.cell 3
  have x4 := H2.cell 4; have x5 := H2.cell 5; have x6 := H2.cell 6; have x7 := H2.cell 7
  have y0 := H1.c0; have y3 := H3.c0; have y4 := H4.c0
  have s0 := HS.at_ hu
  have f0 := HS.frozen i
  have HW := hidden hW
  have HSS := hidden HS
  have hfin := hidden (fun (w' : World) (r : Bool) (hb : Below W.heap.size W w') => (show BoolsAt (w'.setCell ⟨qn, i, none⟩ (.bool r)) qn (s.set i r) ∧ But qn W (w'.setCell ⟨qn, i, none⟩ (.bool r)) from
    ⟨BoolsAt.set (Holds.below HS hb HS.lt) i r, (But.of_below hb).set i _⟩))
  clear H1 H2 H3 H4 HS HN HG hat hT hW
  have hin : (i : Int) < (t.length : Int) := by omega
  obtain ⟨kd, nn, sz_, ld, tx⟩ := x
  dsimp only at *
  generalize namedD g ⟨kd, nn, sz_, ld, tx⟩ nm = res at *
  go_enter Tryz.func21, Tryz.ntmps21
  go_upto_region 0 with fail
  refine (wpIn_wide (n := 5)).1 ?_
  have e0 := Ext.cell y0
  cases u
  · have hfn := hidden (fun (w' : World) (hb : Below W.heap.size W w') => hfin.out w' res hb)
    refine wpIn_region_ext_tail 16 (by kernel_rfl) (by kernel_rfl) rfl ?_
    simp only [List.take_succ_cons, List.take_zero, List.drop_succ_cons, List.drop_zero]
    have e1 := Ext.cell x0; have e2 := Ext.cell x1; have e3 := Ext.cell x2; have e4 := Ext.cell x3; have e5 := Ext.cell x4; have e6 := Ext.cell x5; have e7 := Ext.cell x6; have e8 := Ext.cell x7
    have e9 := Ext.cell y3; have e10 := Ext.cell y4; have e11 := Ext.cell s0
    have e12 := Ext.cell z0; have e13 := Ext.cell z1; have e14 := Ext.cell z2; have e15 := Ext.cell z3; have e16 := Ext.cell z4
    repeat (gi_big_quiet_step ((gi_at_call 22; exact Ext.callIn (callsIn_wide.2 (HNm.out _ (HW.out.trans ((Ext.below _).mono HW.out.size))))))) 
    refine wpQuietIn_nil ?_
    intro w5 hb5
    have hr5 := hfn.out w5 hb5
    have t0 := cellF s0 hb5
    have f5 := (Holds.below HSS.out hb5 HSS.out.lt).frozen i
    clear e0 e1 e2 e3 e4 e5 e6 e7 e8 e9 e10 e11 e12 e13 e14 e15 e16 x0 x1 x2 x3 x4 x5 x6 x7 y0 y3 y4 s0 f0 z0 z1 z2 z3 z4
    gi_wp2_with fail
    exact ⟨rfl, _, results_none rfl _ _ _, ⟨_, rfl⟩, hr5⟩
  · have hfn := hidden (fun (w' : World) (hb : Below W.heap.size W w') => hfin.out w' true hb)
    refine wpIn_region_ext_tail 16 (by kernel_rfl) (by kernel_rfl) rfl ?_
    simp only [List.take_succ_cons, List.take_zero, List.drop_succ_cons, List.drop_zero]
    have e1 := Ext.cell x0; have e2 := Ext.cell x1; have e3 := Ext.cell x2; have e4 := Ext.cell x3; have e5 := Ext.cell x4; have e6 := Ext.cell x5; have e7 := Ext.cell x6; have e8 := Ext.cell x7
    have e9 := Ext.cell y3; have e10 := Ext.cell y4; have e11 := Ext.cell s0
    have e12 := Ext.cell z0; have e13 := Ext.cell z1; have e14 := Ext.cell z2; have e15 := Ext.cell z3; have e16 := Ext.cell z4
    repeat (gi_big_quiet_step ((gi_at_call 22; exact Ext.callIn (callsIn_wide.2 (HNm.out _ (HW.out.trans ((Ext.below _).mono HW.out.size))))))) 
    refine wpQuietIn_nil ?_
    intro w5 hb5
    have hr5 := hfn.out w5 hb5
    have t0 := cellF s0 hb5
    have f5 := (Holds.below HSS.out hb5 HSS.out.lt).frozen i
    clear e0 e1 e2 e3 e4 e5 e6 e7 e8 e9 e10 e11 e12 e13 e14 e15 e16 x0 x1 x2 x3 x4 x5 x6 x7 y0 y3 y4 s0 f0 z0 z1 z2 z3 z4
    gi_wp2_with fail
    exact ⟨rfl, _, results_none rfl _ _ _, ⟨_, rfl⟩, hr5⟩
end Go.Proofs.YtdbbjlphlbndkaaGreat.T
