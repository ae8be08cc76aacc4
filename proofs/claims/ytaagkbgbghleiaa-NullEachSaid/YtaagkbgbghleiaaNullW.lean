/-
  law21: NullEach.
-/
import Derived.Test.YtaagkbgbghleiaaNullU
import Derived.Test.YtaagkbgbghleiaaNullV
import Derived.StillTailTactics
import Derived.Deep.RegionWith
namespace Go.Proofs.Ytaagkbgbghleiaa
open Go.RowKit Go.Shelf

/-- Where the statement's sets lie. -/
structure EachAt (pg qe qm qr qd qv : Nat) (gc : Array Value) (E M R D V : List Bool) (w : World) : Prop where
  g : Holds w pg 36 gc
  e : BoolsAt w qe E
  m : BoolsAt w qm M
  r : BoolsAt w qr R
  d : BoolsAt w qd D
  v : BoolsAt w qv V
structure EachBy (pg qe qm qr qd qv : Nat) : Prop where
  g : pg < qd ∧ pg < qv
  e : qe < qd ∧ qe < qv
  m : qm < qd ∧ qm < qv
  r : qr < qd ∧ qr < qv
  dv : qd ≠ qv
section
variable {pg qe qm qr qd qv : Nat} {gc : Array Value} {E M R D V : List Bool} {w w' : World}
theorem EachAt.next (h : EachAt pg qe qm qr qd qv gc E M R D V w) (hb : Below w.heap.size w w') : EachAt pg qe qm qr qd qv gc E M R D V w' :=
  ⟨h.g.below hb h.g.lt, h.e.below hb h.e.lt, h.m.below hb h.m.lt, h.r.below hb h.r.lt, h.d.below hb h.d.lt, h.v.below hb h.v.lt⟩
theorem EachAt.setD (h : EachAt pg qe qm qr qd qv gc E M R D V w) (hy : EachBy pg qe qm qr qd qv) (i : Nat) (b : Bool) : EachAt pg qe qm qr qd qv gc E M R (D.set i b) V (w.setCell ⟨qd, i, none⟩ (.bool b)) :=
  ⟨holds_far (by have := hy.g; omega) h.g, holds_far (by have := hy.e; omega) h.e, holds_far (by have := hy.m; omega) h.m, holds_far (by have := hy.r; omega) h.r, BoolsAt.set h.d i b, holds_far (by have := hy.dv; omega) h.v⟩
theorem EachAt.setV (h : EachAt pg qe qm qr qd qv gc E M R D V w) (hy : EachBy pg qe qm qr qd qv) (i : Nat) (b : Bool) : EachAt pg qe qm qr qd qv gc E M R D (V.set i b) (w.setCell ⟨qv, i, none⟩ (.bool b)) :=
  ⟨holds_far (by have := hy.g; omega) h.g, holds_far (by have := hy.e; omega) h.e, holds_far (by have := hy.m; omega) h.m, holds_far (by have := hy.r; omega) h.r, holds_far (by have := hy.dv; omega) h.d, BoolsAt.set h.v i b⟩
end
theorem all_take_snoc {α : Type} {l : List α} {k : Nat} {x : α} (h : l[k]? = some x) (f : α → Bool) : (l.take (k + 1)).all f = ((l.take k).all f && f x) := by
  rw [List.take_add_one, h, List.all_append]
  simp
theorem accs_snoc {ps : List Prod} {k : Nat} {p : Prod} (h : ps[k]? = some p) (f : Prod → Bool) (s : List Bool) {m : Nat} {b : Bool} (hm : p.left = (m : Int)) (hb : ((ps.take k).foldl (accB f) s)[m]? = some b) :
    (ps.take (k + 1)).foldl (accB f) s = ((ps.take k).foldl (accB f) s).set m (b || f p) := by
  rw [List.take_add_one, h, List.foldl_append]
  have e : ∀ s' : List Bool, accB f s' p = s'.set p.left.toNat (atB s' p.left || f p) := fun _ => rfl
  show accB f _ p = _
  rw [e, hm, Int.toNat_natCast]
  unfold atB
  rw [Int.toNat_natCast, List.getD_eq_getElem?_getD, hb]
  rfl
theorem foldl_take_snoc {α β : Type} {l : List α} {k : Nat} {x : α} (h : l[k]? = some x) (f : β → α → β) (s : β) : (l.take (k + 1)).foldl f s = f ((l.take k).foldl f s) x := by
  rw [List.take_add_one, h, List.foldl_append]
  rfl

set_option maxRecDepth 20000 in
set_option maxHeartbeats 16000000 in
theorem law_nullEach (a b c : Value) (g : Gram) (w : World) (HG : GramIs w (Old w) a b c g) (hz : Named g) :
    Calls Try.prog 12 #[.agg (gramCells a b c g)] w fun r w' => r = .returned (.bool true) ∧ Below w.heap.size w w' := by
  have F1 := hidden (fun (w' : World) (hb : Below w.heap.size w w') => law_Few a b c g w' (HG.old hb) hz)
  have C1 := hidden (fun (hs : fewB g = true) (w' : World) (hb : Below w.heap.size w w') => ref_Check a b c g w' (HG.old hb) (few_is hs hz).toks (few_is hs hz).rules (few_is hs hz).prods hz)
  have N1 := hidden (fun (hs : fewB g = true) (w' : World) (hb : Below w.heap.size w w') => null_Empty a b c g w' (HG.old hb) (few_is hs hz))
  have N2 := hidden (fun (hs : fewB g = true) (w' : World) (hb : Below w.heap.size w w') => null_Makes a b c g w' (HG.old hb) (few_is hs hz))
  have N3 := hidden (fun (hs : fewB g = true) (w' : World) (hb : Below w.heap.size w w') => null_Reached a b c g w' (HG.old hb) (few_is hs hz))
  have HGo := hidden HG.2.2
  have HV := hidden (fun (hs : fewB g = true) (l : List Item) (v : Value) (w' : World) (hb : Below w.heap.size w w') (hR : Rd w' (Old w') 4 v l.length (l.flatMap itCells)) => null_Void a b c v g l w' (HG.old hb) (few_is hs hz) hR)
  have HS := hidden (fun (h : rightB g = true) => rightB_sound h)
  have HSm := hidden (fun (h : fewB g = true) => few_small h)
  obtain ⟨⟨A1, k1, rfl, v1, m1⟩, ⟨A2, k2, rfl, v2, m2⟩, ⟨A3, k3, rfl, v3, m3⟩⟩ := HG.vals
  have hq1 : Hid (∀ w, (Op.equalIn 10000 40 (.agg #[.int .i64 (checkOf g).kind, .int .i64 (checkOf g).at_, .int .i64 (checkOf g).more]) (.agg #[.int .i64 0, .int .i64 0, .int .i64 0])).run Try.prog w = .ok (rightB g) w) := hidden (fun w => by
    have := def_eq_run w (checkOf g) D0
    rw [right_eq] at this
    exact this)
  clear HG
  have hvo : Hid (rightB g = true → ∀ p ∈ g.prods, voidOf g p.right = p.right.all (itemSo (growsB g false) false)) := hidden (fun h p hp => voidOf_right h hp)
  unfold gramCells defC maxLen at *
  have hstop : fewB g = false ∨ (fewB g = true ∧ rightB g = false) ∨ (fewB g = true ∧ rightB g = true) := by
    cases fewB g <;> cases rightB g <;> simp
  have hb := Below.refl w.heap.size w
  rcases hstop with hf | ⟨hf, hr⟩ | ⟨hf, hr⟩
  · rw [hf] at F1
    clear hf
    go_enter Try.func12, Try.ntmps12
    go_wp2_with fail
    refine (F1.out _ ?_).mono ?_
    · exact (by repeat (first | (with_reducible exact Below.refl _ _) | (with_reducible assumption) | (with_reducible refine Below.drew ?_) | (with_reducible refine below_drewN ?_ _) | ((with_reducible refine below_alloc ?_ ?_); (focus (first | omega | (simp; done) | (simp; omega)))) | ((with_reducible refine below_set ?_ ?_); (focus (first | omega | (simp; done) | (simp; omega))))))
    rintro r w2 ⟨rfl, hb2⟩
    have hbw : Below w.heap.size w w2 := Below.trans (by repeat (first | (with_reducible exact Below.refl _ _) | (with_reducible assumption) | (with_reducible refine Below.drew ?_) | (with_reducible refine below_drewN ?_ _) | ((with_reducible refine below_alloc ?_ ?_); (focus (first | omega | (simp; done) | (simp; omega)))) | ((with_reducible refine below_set ?_ ?_); (focus (first | omega | (simp; done) | (simp; omega)))))) (hb2.mono (by simp))
    clear hb2
    go_wp2_with fail
    refine (knows21 _).mono ?_
    rintro r w3 ⟨rfl, hb3⟩
    replace hbw := hbw.more hb3
    clear hb3
    go_wp2
    go_ret
    exact ⟨rfl, hbw⟩
  · rw [hf] at F1
    replace C1 := hidden (C1.out hf)
    rw [hr] at hq1
    clear hf hr
    go_enter Try.func12, Try.ntmps12
    go_wp2_with fail
    refine (F1.out _ ?_).mono ?_
    · exact (by repeat (first | (with_reducible exact Below.refl _ _) | (with_reducible assumption) | (with_reducible refine Below.drew ?_) | (with_reducible refine below_drewN ?_ _) | ((with_reducible refine below_alloc ?_ ?_); (focus (first | omega | (simp; done) | (simp; omega)))) | ((with_reducible refine below_set ?_ ?_); (focus (first | omega | (simp; done) | (simp; omega))))))
    rintro r w2 ⟨rfl, hb2⟩
    have hbw : Below w.heap.size w w2 := Below.trans (by repeat (first | (with_reducible exact Below.refl _ _) | (with_reducible assumption) | (with_reducible refine Below.drew ?_) | (with_reducible refine below_drewN ?_ _) | ((with_reducible refine below_alloc ?_ ?_); (focus (first | omega | (simp; done) | (simp; omega)))) | ((with_reducible refine below_set ?_ ?_); (focus (first | omega | (simp; done) | (simp; omega)))))) (hb2.mono (by simp))
    have HB1 := hidden (Holds.below (show Holds _ w.heap.size 36 #[.slice A1 g.toks.length k1, .slice A2 g.rules.length k2, .slice A3 g.prods.length k3, .int .i64 g.start, .int .i64 g.states, .int .i64 g.text, .int .i64 g.nodes, .int .i64 g.pairs] from (by repeat (first | (with_reducible assumption) | ((with_reducible refine holds_new ?_); (focus (first | rfl | (simp; done)))) | (with_reducible refine Holds.alloc ?_ _) | (with_reducible refine Holds.drew ?_)))) hb2 (by simp))
    obtain ⟨s0, s1, s2, s3, s4, s5, s6, s7⟩ := eight HB1.out
    clear hb2
    go_wp2_with fail
    refine (C1.out _ hbw).mono ?_
    rintro r w3 ⟨rfl, hb3⟩
    replace hbw := hbw.more hb3
    have hq := hq1.out
    clear hb3 s0 s1 s2 s3 s4 s5 s6 s7
    go_wp2_with fail
    refine (knows21 _).mono ?_
    rintro r w3 ⟨rfl, hb3⟩
    replace hbw := hbw.more hb3
    clear hb3
    go_wp2
    go_ret
    exact ⟨rfl, hbw⟩
  · rw [hf] at F1
    replace C1 := hidden (C1.out hf)
    replace N1 := hidden (N1.out hf)
    replace N2 := hidden (N2.out hf)
    replace N3 := hidden (N3.out hf)
    replace HV := hidden (HV.out hf)
    replace hvo := hidden (hvo.out hr)
    have hsm := HSm.out hf
    have hsd := HS.out hr
    rw [hr] at hq1 N1 N2 N3
    have HSD := hidden hsd
    have HA1 := hidden (acc_grows hsd true (f := fun p => p.right.all (itemSo (growsB g true) true)) (fun _ _ => rfl))
    have HA2 := hidden (acc_grows hsd false (f := fun p => voidOf g p.right) hvo.out)
    have HRs := hidden (reach_start_at hsd)
    have HRn := hidden (fun p hp x hx hr h => reach_next hsd (p := p) hp (x := x) hx hr h)
    have HLe := hidden (fun i (h : (growsB g false)[i]? = some true) => grows_le (g := g) h)
    have HL := hidden (And.intro (growsB_len g false) (And.intro (growsB_len g true) (reachB_len g)))

    clear hf hr hsd HS HSm hvo
    generalize growsB g false = E at *
    generalize growsB g true = M at *
    generalize reachB g = R at *
    go_enter Try.func12, Try.ntmps12
    go_wp2_with fail
    refine (F1.out _ ?_).mono ?_
    · exact (by repeat (first | (with_reducible exact Below.refl _ _) | (with_reducible assumption) | (with_reducible refine Below.drew ?_) | (with_reducible refine below_drewN ?_ _) | ((with_reducible refine below_alloc ?_ ?_); (focus (first | omega | (simp; done) | (simp; omega)))) | ((with_reducible refine below_set ?_ ?_); (focus (first | omega | (simp; done) | (simp; omega))))))
    rintro r w2 ⟨rfl, hb2⟩
    have hbw : Below w.heap.size w w2 := Below.trans (by repeat (first | (with_reducible exact Below.refl _ _) | (with_reducible assumption) | (with_reducible refine Below.drew ?_) | (with_reducible refine below_drewN ?_ _) | ((with_reducible refine below_alloc ?_ ?_); (focus (first | omega | (simp; done) | (simp; omega)))) | ((with_reducible refine below_set ?_ ?_); (focus (first | omega | (simp; done) | (simp; omega)))))) (hb2.mono (by simp))
    have HB1 := hidden (Holds.below (show Holds _ w.heap.size 36 #[.slice A1 g.toks.length k1, .slice A2 g.rules.length k2, .slice A3 g.prods.length k3, .int .i64 g.start, .int .i64 g.states, .int .i64 g.text, .int .i64 g.nodes, .int .i64 g.pairs] from (by repeat (first | (with_reducible assumption) | ((with_reducible refine holds_new ?_); (focus (first | rfl | (simp; done)))) | (with_reducible refine Holds.alloc ?_ _) | (with_reducible refine Holds.drew ?_)))) hb2 (by simp))
    obtain ⟨s0, s1, s2, s3, s4, s5, s6, s7⟩ := eight HB1.out
    clear hb2 hb
    go_wp2_with fail
    refine (C1.out _ hbw).mono ?_
    rintro r w3 ⟨rfl, hb3⟩
    replace HB1 := hidden (HB1.out.below hb3 (by have := HB1.out.lt; omega))
    replace hbw := hbw.more hb3
    have hq := hq1.out
    clear hb3 s0 s1 s2 s3 s4 s5 s6 s7 C1 F1
    obtain ⟨s0, s1, s2, s3, s4, s5, s6, s7⟩ := eight HB1.out
    go_wp2_with fail
    go_region_held3 (fun w' => w'.cell? ⟨w.heap.size, 0, none⟩ = some (.slice A1 g.toks.length k1) ∧ w'.cell? ⟨w.heap.size, 1, none⟩ = some (.slice A2 g.rules.length k2) ∧ w'.cell? ⟨w.heap.size, 2, none⟩ = some (.slice A3 g.prods.length k3) ∧ w'.cell? ⟨w.heap.size, 3, none⟩ = some (.int .i64 g.start) ∧ w'.cell? ⟨w.heap.size, 4, none⟩ = some (.int .i64 g.states) ∧ w'.cell? ⟨w.heap.size, 5, none⟩ = some (.int .i64 g.text) ∧ w'.cell? ⟨w.heap.size, 6, none⟩ = some (.int .i64 g.nodes) ∧ w'.cell? ⟨w.heap.size, 7, none⟩ = some (.int .i64 g.pairs) ∧ Below w3.heap.size w3 w')
      (first | exact ⟨s0, s1, s2, s3, s4, s5, s6, s7, Below.drew (Below.refl _ _)⟩ | (go_split_ands; exact keep_one HB1.out (by (first | assumption | exact Below.drew (Below.refl _ _) | exact Below.refl _ _)) (by assumption)))
      (first | (go_at_call 44; go_split_ands; refine (N1.out _ (hbw.trans (Below.mono (by (first | assumption | exact Below.drew (Below.refl _ _) | exact Below.refl _ _)) hbw.size))).mono ?_; rintro e w4 ⟨⟨u4, rfl, hu4⟩, hb4⟩) | (go_at_call 45; go_split_ands; refine (N2.out _ (hbw.trans (Below.mono (by (first | assumption | exact Below.drew (Below.refl _ _) | exact Below.refl _ _)) hbw.size))).mono ?_; rintro e w5 ⟨⟨u5, rfl, hu5⟩, hb5⟩) | (go_at_call 46; go_split_ands; refine (N3.out _ (hbw.trans (Below.mono (by (first | assumption | exact Below.drew (Below.refl _ _) | exact Below.refl _ _)) hbw.size))).mono ?_; rintro e w6 ⟨⟨u6, rfl, hu6⟩, hb6⟩))
    replace HB1 := hidden (HB1.out.below ((((Below.refl w3.heap.size w3).drew.more hb4).more hb5).more hb6) HB1.out.lt)
    have hbw6 := hidden (((hbw.drew.more hb4).more hb5).more hb6)
    have hE : Hid (∃ q, u4 = .slice (some ⟨q, 0, none⟩) g.rules.length g.rules.length ∧ BoolsAt w6 q E) := by
      have h := hu4.out
      unfold SetIs at h
      rw [if_pos rfl] at h
      obtain ⟨q, e, h1, _⟩ := h
      exact hidden ⟨q, e, (h1.below hb5 h1.lt).below (hb6.mono hb5.size) h1.lt⟩
    have hM : Hid (∃ q, u5 = .slice (some ⟨q, 0, none⟩) g.rules.length g.rules.length ∧ BoolsAt w6 q M) := by
      have h := hu5.out
      unfold SetIs at h
      rw [if_pos rfl] at h
      obtain ⟨q, e, h1, _⟩ := h
      exact hidden ⟨q, e, h1.below hb6 h1.lt⟩
    have hR : Hid (∃ q, u6 = .slice (some ⟨q, 0, none⟩) g.rules.length g.rules.length ∧ BoolsAt w6 q R) := by
      have h := hu6.out
      unfold SetIs at h
      rw [if_pos rfl] at h
      obtain ⟨q, e, h1, _⟩ := h
      exact hidden ⟨q, e, h1⟩
    obtain ⟨qe, rfl, xE⟩ := hE.out
    obtain ⟨qm, rfl, xM⟩ := hM.out
    obtain ⟨qr, rfl, xR⟩ := hR.out
    have H6 := hidden (show BoolsAt w6 qe E ∧ BoolsAt w6 qm M ∧ BoolsAt w6 qr R from ⟨xE, xM, xR⟩)
    clear hu4 hu5 hu6 hb4 hb5 hb6 N1 N2 N3 s0 s1 s2 s3 s4 s5 s6 s7 hE hM hR xE xM xR hq hq1
    obtain ⟨s0, s1, s2, s3, s4, s5, s6, s7⟩ := eight HB1.out
    have hst1 := HSD.out.start.1
    have hst2 := HSD.out.start.2
    have z0 : w6.cell? ⟨qr, g.start.toNat, none⟩ = some (.bool true) := BoolsAt.at_ H6.out.2.2 (atB_iff.1 HRs.out)
    clear HRs
    have hmk : ∀ w, (Instr.makeSlice 58 (.int .i64 (g.rules.length : Int)) (.int .i64 (g.rules.length : Int))).run Try.prog w = .ok (.slice (some ⟨w.heap.size, 0, none⟩) g.rules.length g.rules.length) (w.alloc (.cells (bcells (List.replicate g.rules.length false)) 4)) := fun w => by
      rw [← made_bools]
      exact run_make_row' (P := Try.prog) 58 4 (.bool false) 1 (by kernel_rfl) (by kernel_rfl) rfl .i64 .i64 g.rules.length (by omega) (by omega) w
    have HZ := hidden (fun (w : World) => (Holds.new w 4 (bcells (List.replicate g.rules.length false))))
    go_upto_region 7 with fail
    go_cut [7, 8] from 58 to 61 (fun v7 v8 wx => ∃ qd qv : Nat, v7 = .slice (some ⟨qv, 0, none⟩) g.rules.length g.rules.length ∧ v8 = .slice (some ⟨qd, 0, none⟩) g.rules.length g.rules.length ∧ Hid (BoolsAt wx qd (List.replicate g.rules.length false) ∧ BoolsAt wx qv (List.replicate g.rules.length false) ∧ qd ≠ qv ∧ w6.heap.size ≤ qd ∧ w6.heap.size ≤ qv ∧ Below w6.heap.size w6 wx))
    case first =>
      go_region_held3 (fun w' => Below w6.heap.size w6 w')
        (first | exact Below.drew (Below.refl _ _) | (go_split_ands; exact (by repeat (first | (with_reducible exact Below.refl _ _) | (with_reducible assumption) | (with_reducible refine Below.drew ?_) | (with_reducible refine below_drewN ?_ _) | ((with_reducible refine below_alloc ?_ ?_); (focus (first | omega | (simp; done) | (simp; omega)))) | ((with_reducible refine below_set ?_ ?_); (focus (first | omega | (simp; done) | (simp; omega))))))))
        (fail)
      all_goals (go_wp2; go_meet; exact ⟨_, _, rfl, rfl, hidden ⟨(by repeat (first | (with_reducible assumption) | ((with_reducible refine holds_new ?_); (focus (first | rfl | (simp; done)))) | (with_reducible refine Holds.alloc ?_ _) | (with_reducible refine Holds.drew ?_))), (by repeat (first | (with_reducible assumption) | ((with_reducible refine holds_new ?_); (focus (first | rfl | (simp; done)))) | (with_reducible refine Holds.alloc ?_ _) | (with_reducible refine Holds.drew ?_))), by simp, by simp, by simp, (by repeat (first | (with_reducible exact Below.refl _ _) | (with_reducible assumption) | (with_reducible refine Below.drew ?_) | (with_reducible refine below_drewN ?_ _) | ((with_reducible refine below_alloc ?_ ?_); (focus (first | omega | (simp; done) | (simp; omega)))) | ((with_reducible refine below_set ?_ ?_); (focus (first | omega | (simp; done) | (simp; omega))))))⟩⟩)
    case rest =>
      clear HZ hmk z0 s0 s1 s2 s3 s4 s5 s6 s7
      obtain ⟨qd, qv, rfl, rfl, hcut⟩ := hcut
      have HBY : Hid (EachBy w.heap.size qe qm qr qd qv) := hidden (by
        obtain ⟨_, _, hne, h1, h2, _⟩ := hcut.out
        have a1 := H6.out.1.lt
        have a2 := H6.out.2.1.lt
        have a3 := H6.out.2.2.lt
        have a4 := HB1.out.lt
        exact ⟨⟨by omega, by omega⟩, ⟨by omega, by omega⟩, ⟨by omega, by omega⟩, ⟨by omega, by omega⟩, hne⟩)
      have hqd : w.heap.size ≤ qd := by have := HBY.out.g.1; omega
      have hqv : w.heap.size ≤ qv := by have := HBY.out.g.2; omega
      have HAt : Hid (EachAt w.heap.size qe qm qr qd qv #[.slice A1 g.toks.length k1, .slice A2 g.rules.length k2, .slice A3 g.prods.length k3, .int .i64 g.start, .int .i64 g.states, .int .i64 g.text, .int .i64 g.nodes, .int .i64 g.pairs] E M R (List.replicate g.rules.length false) (List.replicate g.rules.length false) wc) := hidden (by
        obtain ⟨c1, c2, _, _, _, hb⟩ := hcut.out
        exact ⟨HB1.out.below hb HB1.out.lt, H6.out.1.below hb H6.out.1.lt, H6.out.2.1.below hb H6.out.2.1.lt, H6.out.2.2.below hb H6.out.2.2.lt, c1, c2⟩)
      have hbc := hidden (hbw6.out.more hcut.out.2.2.2.2.2)
      have HLz : Hid ((List.replicate g.rules.length false).length = g.rules.length) := hidden (by simp)
      clear hcut H6 HB1 hbw6 hbw
      generalize List.replicate g.rules.length false = Z at *
      have h00 : w.heap.size < wc.heap.size := HAt.out.g.lt
      go_wp2
      go_loopg [9] g.prods.length (fun gh ii wr => ∃ k : Nat, k ≤ g.prods.length ∧ gh = g.prods.length - k ∧ ii = .int .i64 k ∧ Hid (EachAt w.heap.size qe qm qr qd qv #[.slice A1 g.toks.length k1, .slice A2 g.rules.length k2, .slice A3 g.prods.length k3, .int .i64 g.start, .int .i64 g.states, .int .i64 g.text, .int .i64 g.nodes, .int .i64 g.pairs] E M R ((g.prods.take k).foldl (accB fun p => p.right.all (itemSo M true)) Z) ((g.prods.take k).foldl (accB fun p => voidOf g p.right) Z) wr) ∧ Hid (Below w.heap.size w wr))
      case atStart => exact ⟨0, by omega, rfl, rfl, HAt, hbc⟩
      case round =>
        clear HAt hbc
        obtain ⟨k, hk, rfl, rfl, HAt, hbr⟩ := hrel
        obtain ⟨s0, s1, s2, s3, s4, s5, s6, s7⟩ := eight HAt.out.g
        have hgl : w.heap.size < wr.heap.size := HAt.out.g.lt
        by_cases hlt : k < g.prods.length
        · have hx := List.getElem?_eq_getElem hlt
          have HPm := hidden (List.getElem_mem hlt)
          generalize g.prods[k] = p at *
          obtain ⟨b1, o1, l1, rfl, hT, hat, hin⟩ := HGo.out.at_ hx
          have hin : Rd w (Old w) 4 l1 p.right.length (p.right.flatMap itCells) := hin
          have hT2 : b1 < w.heap.size := hT
          have hT' : b1 < wr.heap.size := Nat.lt_of_lt_of_le hT2 hbr.out.size
          have y0 : wr.cell? ⟨b1, o1 + k * 2, none⟩ = some (.int .i64 p.left) := (hbr.out.cell (p := ⟨b1, o1 + k * 2, none⟩) hT2).trans (hat 0 _ rfl)
          have y1' := (hbr.out.cell (p := ⟨b1, o1 + k * 2 + 1, none⟩) hT2).trans (hat 1 _ rfl)
          obtain ⟨A4, k4, rfl, hk4, hm4⟩ := hin.val
          have y1 : wr.cell? ⟨b1, o1 + k * 2 + 1, none⟩ = some (.slice A4 p.right.length k4) := y1'
          have HIn : Hid (∀ wx, Below w.heap.size w wx → Rd wx (Old wx) 4 (.slice A4 p.right.length k4) p.right.length (p.right.flatMap itCells)) := hidden (fun wx hb => Rd.old hin hb)
          have HPx0 := hidden hx
          unfold maxLen at hm4
          clear hat hx y1' hT hT2 hin
          go_wp2
          obtain ⟨w7, hw7⟩ : ∃ w7, w7 = wr.alloc (.cells #[.int .i64 p.left, .slice A4 p.right.length k4] 56) := ⟨_, rfl⟩
          rw [← hw7]
          have hal : Hid (Below wr.heap.size wr w7) := hidden (by rw [hw7]; exact (Below.refl _ _).alloc (Nat.le_refl _) _)
          have HP7 : Hid (Holds w7 wr.heap.size 56 #[.int .i64 p.left, .slice A4 p.right.length k4]) := hidden (by rw [hw7]; exact Holds.new _ _ _)
          have HA7 := hidden (HAt.out.next hal.out)
          have hb7 := hidden (hbr.out.more hal.out)
          have hpq : qd ≠ wr.heap.size ∧ qv ≠ wr.heap.size := ⟨by have := HAt.out.d.lt; omega, by have := HAt.out.v.lt; omega⟩
          have hgp : w.heap.size ≠ wr.heap.size := by omega
          clear hw7 hal HAt hbr s0 s1 s2 s3 s4 s5 s6 s7 y0 y1 hT' hgl h00
          generalize wr.heap.size = pb at *
          have hp7 := HP7.out.lt
          go_loopg [11, 12] p.right.length (fun gh aa jj wx => ∃ (j : Nat) (al : Bool), j ≤ p.right.length ∧ gh = p.right.length - j ∧ jj = .int .i64 j ∧ aa = .bool al ∧ Hid (al = (p.right.take j).all (itemSo M true)) ∧ Hid (Below w7.heap.size w7 wx))
          case atStart => exact ⟨0, true, by omega, rfl, rfl, rfl, hidden rfl, hidden (Below.refl _ _)⟩
          case round =>
            obtain ⟨j, al, hj, rfl, rfl, rfl, HAl, hbx⟩ := hrel
            have HPx := hidden (HP7.out.below hbx.out hp7)
            have y0 := HPx.out.c20
            have y1 := HPx.out.c21
            have hpx := HPx.out.lt
            by_cases hjl : j < p.right.length
            · have hx := List.getElem?_eq_getElem hjl
              have HXm := hidden (List.getElem_mem hjl)
              have HAs := hidden (all_take_snoc hx (itemSo M true))
              generalize p.right[j] = x at *
              obtain ⟨b2, o2, rfl, hT', hat⟩ := (HIn.out _ (hb7.out.more hbx.out)).flat_at (fun _ => rfl) (by decide) hx
              have i0 : wr.cell? ⟨b2, o2 + j * 4, none⟩ = some (.bool x.rule) := hat 0 _ rfl
              have i1 : wr.cell? ⟨b2, o2 + j * 4 + 1, none⟩ = some (.int .i64 x.n) := hat 1 _ rfl
              have i2 : wr.cell? ⟨b2, o2 + j * 4 + 2, none⟩ = some (.int .i64 x.gap) := hat 2 _ rfl
              have i3 : wr.cell? ⟨b2, o2 + j * 4 + 3, none⟩ = some (.int .i64 x.in_) := hat 3 _ rfl
              have hT : b2 < wr.heap.size := hT'
              have hbn := hidden (hbx.out.alloc hbx.out.size (.cells #[.bool x.rule, .int .i64 x.n, .int .i64 x.gap, .int .i64 x.in_] 66))
              have HA7x := hidden (HA7.out.next hbx.out)
              have HRn' := hidden (HRn.out p HPm.out x HXm.out)
              have HXr := hidden (HSD.out.rule p HPm.out x HXm.out)
              have HLp := hidden (HSD.out.left p HPm.out)
              obtain ⟨xr, xn, xg, xi⟩ := x
              dsimp only at *
              clear hat hx hT' HV HGo HPm HXm HRn HA1 HA2 HLe
              cases xr
              · have HAn : Hid (al = (p.right.take (j + 1)).all (itemSo M true)) := hidden (by rw [HAs.out, ← HAl.out]; unfold itemSo; simp)
                clear HAs HAl
                cases al
                · go_wp2
                  go_roundg (p.right.length - (j + 1))
                  case measure => omega
                  case rel => exact ⟨j + 1, _, by omega, rfl, by go_num, rfl, HAn, hbn⟩
                · go_wp2
                  go_roundg (p.right.length - (j + 1))
                  case measure => omega
                  case rel => exact ⟨j + 1, _, by omega, rfl, by go_num, rfl, HAn, hbn⟩
              · obtain ⟨n1, n2⟩ := HXr.out rfl
                obtain ⟨m, rfl⟩ : ∃ m : Nat, xn = (m : Int) := ⟨xn.toNat, by omega⟩
                have hm : m < g.rules.length := by omega
                obtain ⟨ml, hml⟩ : ∃ m : Nat, p.left = (m : Int) := ⟨p.left.toNat, by have := HLp.out.1; omega⟩
                have hmll : ml < g.rules.length := by have := HLp.out.2; omega
                have gM := List.getElem?_eq_getElem (show m < M.length by rw [HL.out.2.1]; exact hm)
                have gR := List.getElem?_eq_getElem (show m < R.length by rw [HL.out.2.2]; exact hm)
                have gL := List.getElem?_eq_getElem (show ml < R.length by rw [HL.out.2.2]; exact hmll)
                generalize M[m]'(by rw [HL.out.2.1]; exact hm) = bm at *
                generalize R[m]'(by rw [HL.out.2.2]; exact hm) = br at *
                generalize R[ml]'(by rw [HL.out.2.2]; exact hmll) = bl at *
                have z1 := HA7x.out.m.at_ gM
                have z2 := HA7x.out.r.at_ gR
                have z3 := HA7x.out.r.at_ gL
                have HAn : Hid ((al && bm) = (p.right.take (j + 1)).all (itemSo M true)) := hidden (by
                  rw [HAs.out, ← HAl.out]
                  unfold itemSo
                  rw [if_pos rfl]
                  unfold atB
                  rw [Int.toNat_natCast, List.getD_eq_getElem?_getD, gM]
                  rfl)
                have HBl : Hid (bl = true → br = true) := hidden (fun h => by
                  have := HRn'.out rfl (by rw [hml, atB_iff, Int.toNat_natCast, gL, h])
                  rw [atB_iff, Int.toNat_natCast, gR] at this
                  simpa using this)
                have q1 := HA7x.out.m.lt
                have q2 := HA7x.out.r.lt
                rw [hml] at y0
                clear hml gM gR gL HAs HAl HRn' HXr HLp HA7x
                cases bl
                · cases al
                  · go_wp2
                    go_roundg (p.right.length - (j + 1))
                    case measure => omega
                    case rel => exact ⟨j + 1, _, by omega, rfl, by go_num, rfl, HAn, hbn⟩
                  · go_wp2
                    go_roundg (p.right.length - (j + 1))
                    case measure => omega
                    case rel => exact ⟨j + 1, _, by omega, rfl, by go_num, rfl, HAn, hbn⟩
                · obtain rfl := HBl.out rfl
                  cases al
                  · go_wp2
                    go_roundg (p.right.length - (j + 1))
                    case measure => omega
                    case rel => exact ⟨j + 1, _, by omega, rfl, by go_num, rfl, HAn, hbn⟩
                  · go_wp2
                    go_roundg (p.right.length - (j + 1))
                    case measure => omega
                    case rel => exact ⟨j + 1, _, by omega, rfl, by go_num, rfl, HAn, hbn⟩
            · obtain rfl : j = p.right.length := by omega
              have HAx := hidden (HA7.out.next hbx.out)
              have hbx' := hidden (hb7.out.more hbx.out)
              rw [List.take_of_length_le (Nat.le_refl _)] at HAl
              obtain ⟨ml, hml⟩ : ∃ m : Nat, p.left = (m : Int) := ⟨p.left.toNat, by have := (HSD.out.left p HPm.out).1; omega⟩
              have hmll : ml < g.rules.length := by have := (HSD.out.left p HPm.out).2; omega
              have HLD := hidden (accs_len (fun p => p.right.all (itemSo M true)) (g.prods.take k) Z)
              have HLV := hidden (accs_len (fun p => voidOf g p.right) (g.prods.take k) Z)
              have HVp := hidden (fun w' hb => HV.out p.right (.slice A4 p.right.length k4) w' hb (HIn.out _ hb))
              have HDs : Hid (∀ b, ((g.prods.take k).foldl (accB fun p => p.right.all (itemSo M true)) Z)[ml]? = some b → (g.prods.take (k + 1)).foldl (accB fun p => p.right.all (itemSo M true)) Z = ((g.prods.take k).foldl (accB fun p => p.right.all (itemSo M true)) Z).set ml (b || al)) := hidden (fun b hb => by rw [HAl.out]; exact accs_snoc HPx0.out _ Z hml hb)
              have HWs : Hid (∀ b, ((g.prods.take k).foldl (accB fun p => voidOf g p.right) Z)[ml]? = some b → (g.prods.take (k + 1)).foldl (accB fun p => voidOf g p.right) Z = ((g.prods.take k).foldl (accB fun p => voidOf g p.right) Z).set ml (b || voidOf g p.right)) := hidden (fun b hb => accs_snoc HPx0.out _ Z hml hb)
              generalize (g.prods.take k).foldl (accB fun p => p.right.all (itemSo M true)) Z = D at *
              generalize (g.prods.take k).foldl (accB fun p => voidOf g p.right) Z = V at *
              have gD := List.getElem?_eq_getElem (show ml < D.length by rw [HLD.out, HLz.out]; exact hmll)
              have gV := List.getElem?_eq_getElem (show ml < V.length by rw [HLV.out, HLz.out]; exact hmll)
              generalize D[ml]'(by rw [HLD.out, HLz.out]; exact hmll) = bd at *
              generalize V[ml]'(by rw [HLV.out, HLz.out]; exact hmll) = bv at *
              have HD := hidden (HDs.out _ gD)
              have HW := hidden (HWs.out _ gV)
              have z1 : wr.drew.cell? ⟨qd, ml, none⟩ = some (.bool bd) := HAx.out.d.at_ gD
              have z2 : wr.drew.frozen? ⟨qd, ml, none⟩ = false := HAx.out.d.frozen ml
              have z3 := HAx.out.d.at_ gD
              have HPxm : Hid (Holds wr pb 56 #[.int .i64 (ml : Int), .slice A4 p.right.length k4]) := hidden (by rw [← hml]; exact HPx.out)
              have y0' : wr.cell? ⟨pb, 0, none⟩ = some (.int .i64 (ml : Int)) := by rw [← hml]; exact y0
              have HGV := hidden gV
              have i1 : (0 : Int) ≤ (ml : Int) := by omega
              have i2 : (ml : Int) < (g.rules.length : Int) := by omega
              have q1 := HAx.out.d.lt
              clear y0 gD gV HV HGo HRn HIn hml HDs HWs HLD HLV HPx0
              have HPl := hidden (And.intro hpq.1 hpq.2)
              go_upto_region 20 with fail
              go_cut [] from 116 to 127 (fun wx => Hid (EachAt w.heap.size qe qm qr qd qv #[.slice A1 g.toks.length k1, .slice A2 g.rules.length k2, .slice (some ⟨b1, o1, none⟩) g.prods.length k3, .int .i64 g.start, .int .i64 g.states, .int .i64 g.text, .int .i64 g.nodes, .int .i64 g.pairs] E M R (D.set ml (bd || al)) V wx ∧ Holds wx pb 56 #[.int .i64 (ml : Int), .slice A4 p.right.length k4] ∧ Below w.heap.size w wx ∧ Below w.heap.size wr wx))
              case first =>
                have HFin : Hid (∀ b : Bool, EachAt w.heap.size qe qm qr qd qv #[.slice A1 g.toks.length k1, .slice A2 g.rules.length k2, .slice (some ⟨b1, o1, none⟩) g.prods.length k3, .int .i64 g.start, .int .i64 g.states, .int .i64 g.text, .int .i64 g.nodes, .int .i64 g.pairs] E M R (D.set ml b) V (wr.setCell ⟨qd, ml, none⟩ (.bool b)).drew ∧ Holds (wr.setCell ⟨qd, ml, none⟩ (.bool b)).drew pb 56 #[.int .i64 (ml : Int), .slice A4 p.right.length k4] ∧ Below w.heap.size w (wr.setCell ⟨qd, ml, none⟩ (.bool b)).drew ∧ Below w.heap.size wr (wr.setCell ⟨qd, ml, none⟩ (.bool b)).drew) := hidden (fun b => ⟨(HAx.out.setD HBY.out ml b).next (Below.refl _ _).drew, holds_far HPl.out.1.symm HPxm.out, (below_set hqd hbx'.out).drew, (below_set hqd (Below.refl _ _)).drew⟩)
                cases bd <;> cases al
                all_goals
                  go_still_tail 12, (by kernel_rfl)
                  change wpList _ _ _ _ _ wr.drew
                  go_wp2
                  go_meet
                  exact hidden (HFin.out _)
              case rest =>
                clear HAx HPx y1 y0' z1 z2 z3 hpx q1 hbx hbx' HA7 HP7 hb7 HAl hp7
                generalize voidOf g p.right = vo at *
                have gV := HGV.out
                have z1 := hcut.out.1.v.at_ gV
                have y0 := hcut.out.2.1.c20
                have y1 := hcut.out.2.1.c21
                obtain ⟨s0, s1, s2, s3, s4, s5, s6, s7⟩ := eight hcut.out.1.g
                have q1 := hcut.out.1.v.lt
                have q2 := hcut.out.2.1.lt
                have q3 := hcut.out.1.g.lt
                have q4 : qv ≠ pb := HPl.out.2
                have zf := hcut.out.1.v.frozen ml
                have z1' : wc.drew.cell? ⟨qv, ml, none⟩ = some (.bool bv) := z1
                have zf' : wc.drew.frozen? ⟨qv, ml, none⟩ = false := zf
                have HD2 := hidden (And.intro HD.out HW.out)
                clear gV
                have hbd := hidden (hcut.out.2.2.1.drew)
                have KV : Hid (∀ w9, Below wc.drew.heap.size wc.drew w9 → BoolsAt w9 qv V) := hidden (fun w9 hb => hcut.out.1.v.below ((Below.refl wc.heap.size wc).drew.more hb) hcut.out.1.v.lt)
                have KE : Hid (∀ w9, Below wc.drew.heap.size wc.drew w9 → EachAt w.heap.size qe qm qr qd qv #[.slice A1 g.toks.length k1, .slice A2 g.rules.length k2, .slice (some ⟨b1, o1, none⟩) g.prods.length k3, .int .i64 g.start, .int .i64 g.states, .int .i64 g.text, .int .i64 g.nodes, .int .i64 g.pairs] E M R (D.set ml (bd || al)) V w9 ∧ Holds w9 pb 56 #[.int .i64 (ml : Int), .slice A4 p.right.length k4]) := hidden (fun w9 hb => ⟨hcut.out.1.next ((Below.refl wc.heap.size wc).drew.more hb), hcut.out.2.1.below ((Below.refl wc.heap.size wc).drew.more hb) hcut.out.2.1.lt⟩)
                have KS : Hid (∀ w9, Below wc.drew.heap.size wc.drew w9 → w9.cell? ⟨w.heap.size, 0, none⟩ = some (.slice A1 g.toks.length k1) ∧ w9.cell? ⟨w.heap.size, 1, none⟩ = some (.slice A2 g.rules.length k2) ∧ w9.cell? ⟨w.heap.size, 2, none⟩ = some (.slice (some ⟨b1, o1, none⟩) g.prods.length k3) ∧ w9.cell? ⟨w.heap.size, 3, none⟩ = some (.int .i64 g.start) ∧ w9.cell? ⟨w.heap.size, 4, none⟩ = some (.int .i64 g.states) ∧ w9.cell? ⟨w.heap.size, 5, none⟩ = some (.int .i64 g.text) ∧ w9.cell? ⟨w.heap.size, 6, none⟩ = some (.int .i64 g.nodes) ∧ w9.cell? ⟨w.heap.size, 7, none⟩ = some (.int .i64 g.pairs) ∧ w9.cell? ⟨pb, 0, none⟩ = some (.int .i64 (ml : Int)) ∧ w9.cell? ⟨pb, 1, none⟩ = some (.slice A4 p.right.length k4)) := hidden (fun w9 hb => by
                  obtain ⟨h1, h2⟩ := KE.out w9 hb
                  obtain ⟨s0, s1, s2, s3, s4, s5, s6, s7⟩ := eight h1.g
                  exact ⟨s0, s1, s2, s3, s4, s5, s6, s7, h2.c20, h2.c21⟩)
                have KT : Hid (∀ w9, ∀ b : Bool, Below wc.drew.heap.size wc.drew w9 → (w9.setCell ⟨qv, ml, none⟩ (.bool b)).cell? ⟨w.heap.size, 0, none⟩ = some (.slice A1 g.toks.length k1) ∧ (w9.setCell ⟨qv, ml, none⟩ (.bool b)).cell? ⟨w.heap.size, 1, none⟩ = some (.slice A2 g.rules.length k2) ∧ (w9.setCell ⟨qv, ml, none⟩ (.bool b)).cell? ⟨w.heap.size, 2, none⟩ = some (.slice (some ⟨b1, o1, none⟩) g.prods.length k3) ∧ (w9.setCell ⟨qv, ml, none⟩ (.bool b)).cell? ⟨w.heap.size, 3, none⟩ = some (.int .i64 g.start) ∧ (w9.setCell ⟨qv, ml, none⟩ (.bool b)).cell? ⟨w.heap.size, 4, none⟩ = some (.int .i64 g.states) ∧ (w9.setCell ⟨qv, ml, none⟩ (.bool b)).cell? ⟨w.heap.size, 5, none⟩ = some (.int .i64 g.text) ∧ (w9.setCell ⟨qv, ml, none⟩ (.bool b)).cell? ⟨w.heap.size, 6, none⟩ = some (.int .i64 g.nodes) ∧ (w9.setCell ⟨qv, ml, none⟩ (.bool b)).cell? ⟨w.heap.size, 7, none⟩ = some (.int .i64 g.pairs) ∧ (w9.setCell ⟨qv, ml, none⟩ (.bool b)).cell? ⟨pb, 0, none⟩ = some (.int .i64 (ml : Int)) ∧ (w9.setCell ⟨qv, ml, none⟩ (.bool b)).cell? ⟨pb, 1, none⟩ = some (.slice A4 p.right.length k4)) := hidden (fun w9 b hb => by
                  obtain ⟨h1, h2⟩ := KE.out w9 hb
                  obtain ⟨s0, s1, s2, s3, s4, s5, s6, s7⟩ := eight (h1.setV HBY.out ml b).g
                  have h3 := holds_far (i := ml) (s := none) (u := .bool b) HPl.out.2.symm h2
                  exact ⟨s0, s1, s2, s3, s4, s5, s6, s7, h3.c20, h3.c21⟩)
                go_upto_region 21 with fail
                cases bv
                · have hS0 : wc.cell? ⟨pb, 0, none⟩ = some (.int .i64 (ml : Int)) := y0
                  go_region_with ((go_at_call 51; refine (HVp.out _ hbd.out).mono ?_; rintro e w9 ⟨rfl, hb9⟩; have v0 := (KE.out _ hb9).2.c20; have v1 := BoolsAt.at_ (KV.out _ hb9) HGV.out; have v2 := (KV.out _ hb9).frozen ml; have v3 := (KV.out _ hb9).lt))
                  all_goals
                    have HFin : Hid (EachAt w.heap.size qe qm qr qd qv #[.slice A1 g.toks.length k1, .slice A2 g.rules.length k2, .slice (some ⟨b1, o1, none⟩) g.prods.length k3, .int .i64 g.start, .int .i64 g.states, .int .i64 g.text, .int .i64 g.nodes, .int .i64 g.pairs] E M R (D.set ml (bd || al)) (V.set ml vo) (w9.setCell ⟨qv, ml, none⟩ (.bool vo)) ∧ Below w.heap.size w (w9.setCell ⟨qv, ml, none⟩ (.bool vo))) := hidden ⟨(KE.out _ hb9).1.setV HBY.out ml vo, below_set hqv (hbd.out.more hb9)⟩
                    clear y0 y1 s0 s1 s2 s3 s4 s5 s6 s7 z1 z1' hS0 zf zf' KV KE KS KT hb9 v0 v1 v2 v3
                    go_wp2
                    go_roundg (g.prods.length - (k + 1))
                    case measure => omega
                    case rel => exact ⟨k + 1, by omega, rfl, by go_num, hidden (by rw [HD2.out.1, HD2.out.2]; exact HFin.out.1), hidden HFin.out.2⟩
                · have HFin : Hid (EachAt w.heap.size qe qm qr qd qv #[.slice A1 g.toks.length k1, .slice A2 g.rules.length k2, .slice (some ⟨b1, o1, none⟩) g.prods.length k3, .int .i64 g.start, .int .i64 g.states, .int .i64 g.text, .int .i64 g.nodes, .int .i64 g.pairs] E M R (D.set ml (bd || al)) (V.set ml true) (wc.setCell ⟨qv, ml, none⟩ (.bool true)).drew ∧ Below w.heap.size w (wc.setCell ⟨qv, ml, none⟩ (.bool true)).drew) := hidden ⟨(hcut.out.1.setV HBY.out ml true).next (Below.refl _ _).drew, (below_set hqv hcut.out.2.2.1).drew⟩
                  go_still_tail 15, (by kernel_rfl)
                  change wpList _ _ _ _ _ wc.drew
                  go_wp2
                  go_roundg (g.prods.length - (k + 1))
                  case measure => omega
                  case rel => exact ⟨k + 1, by omega, rfl, by go_num, hidden (by rw [HD2.out.1, HD2.out.2]; exact HFin.out.1), hidden HFin.out.2⟩
        · obtain rfl : k = g.prods.length := by omega
          rw [List.take_of_length_le (Nat.le_refl _), HA1.out, HA2.out] at HAt
          clear HA1 HA2 HRn HGo HV
          go_wp2
          clear s0 s1 s2 s3 s4 s5 s6 s7
          obtain ⟨wo, rfl⟩ : ∃ wo : World, wo = wr := ⟨_, rfl⟩
          go_loop [14] (fun ii => ∃ i : Nat, i ≤ g.rules.length ∧ ii = .int .i64 i) (fun ii => g.rules.length - (intOf ii).toNat)
          case atStart => exact ⟨0, by omega, rfl⟩
          case round =>
            obtain ⟨i, hi, rfl⟩ := hrel
            by_cases hil : i < g.rules.length
            · have gE := List.getElem?_eq_getElem (show i < E.length by rw [HL.out.1]; exact hil)
              have gM := List.getElem?_eq_getElem (show i < M.length by rw [HL.out.2.1]; exact hil)
              generalize E[i]'(by rw [HL.out.1]; exact hil) = be at *
              generalize M[i]'(by rw [HL.out.2.1]; exact hil) = bm at *
              have HBe : Hid (be = true → bm = true) := hidden (fun h => by
                have := HLe.out i (by rw [gE, h])
                rw [gM] at this
                simpa using this)
              have z1 := HAt.out.e.at_ gE
              have z2 := HAt.out.m.at_ gM
              clear gE gM
              cases be
              · go_wp2
                go_round
                case rel => exact ⟨i + 1, by omega, by go_num⟩
                case measure => simp [intOf]; omega
              · obtain rfl := HBe.out rfl
                go_wp2
                go_round
                case rel => exact ⟨i + 1, by omega, by go_num⟩
                case measure => simp [intOf]; omega
            · have hil' : i = g.rules.length := by omega
              have HB1 := hidden (bools_self (w := wo) (HAt.out.v.row HL.out.1.symm HAt.out.v.lt (by unfold maxLen; omega)) (HAt.out.e.row HL.out.1.symm HAt.out.e.lt (by unfold maxLen; omega)))
              have HB2 := hidden (fun w9 (hb : Below wo.heap.size wo w9) => bools_self (w := w9) ((HAt.out.next hb).d.row HL.out.2.1.symm (HAt.out.next hb).d.lt (by unfold maxLen; omega)) ((HAt.out.next hb).m.row HL.out.2.1.symm (HAt.out.next hb).m.lt (by unfold maxLen; omega)))
              clear hil'
              go_wp2_with fail
              refine HB1.out.mono ?_
              rintro r w8 ⟨rfl, hb8⟩
              have hb8h := hidden hb8
              have hbw8 := hbr.out.more hb8
              clear hb8
              go_wp2_with fail
              refine (HB2.out _ hb8h.out).mono ?_
              rintro r w9 ⟨rfl, hb9⟩
              replace hbw8 := hbw8.more hb9
              clear hb9 hb8h
              go_wp2_with fail
              refine (knows21 _).mono ?_
              rintro r w10 ⟨rfl, hb10⟩
              replace hbw8 := hbw8.more hb10
              clear hb10
              go_wp2
              go_ret
              exact ⟨rfl, hbw8⟩
end Go.Proofs.Ytaagkbgbghleiaa
