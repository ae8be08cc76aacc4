/-
  follow.End, follow.All.
-/
import Derived.Test.YtmlggfapnkhcaaaFollowB
import Derived.Test.YtmlggfapnkhcaaaFirstC
import Derived.Test.YtmlggfapnkhcaaaNullU
namespace Go.Proofs.Ytmlggfapnkhcaaa
open Go.RowKit Go.Shelf
attribute [local simp] wide_fn

noncomputable def fol23 (g : Gram) : List (List Int) := if rightB g = true then folF g (growsB g false) (reachB g) else []
theorem fol23_len {g : Gram} (hg : rightB g = true) : (fol23 g).length = g.rules.length := by unfold fol23; rw [if_pos hg, folF_len]
theorem bd_fol23 (g : Gram) : ∀ r ∈ fol23 g, Bd (g.toks.length + 1) r := by
  intro r hr
  unfold fol23 at hr
  split at hr
  · exact bd_folF g _ _ r hr
  · cases hr
theorem below_new (w : World) (o : Obj) : Below w.heap.size w (w.alloc o) := (Below.refl _ _).alloc (Nat.le_refl _) o
/-- A grammar's cells and one more; the same behind a new block, and a store elsewhere. -/
structure NineAt (p b o : Nat) (t : TypeId) (a0 a1 a2 a3 a4 a5 a6 a7 v : Value) (w0 w : World) : Prop where
  h : Holds w p t #[a0, a1, a2, a3, a4, a5, a6, a7]
  c : w.cell? ⟨b, o, none⟩ = some v
  b : Below w0.heap.size w0 w
section
variable {p b o : Nat} {t : TypeId} {a0 a1 a2 a3 a4 a5 a6 a7 v : Value} {w0 w w' : World}
theorem NineAt.all (h : NineAt p b o t a0 a1 a2 a3 a4 a5 a6 a7 v w0 w) : w.cell? ⟨p, 0, none⟩ = some a0 ∧ w.cell? ⟨p, 1, none⟩ = some a1 ∧ w.cell? ⟨p, 2, none⟩ = some a2 ∧ w.cell? ⟨p, 3, none⟩ = some a3 ∧ w.cell? ⟨p, 4, none⟩ = some a4 ∧ w.cell? ⟨p, 5, none⟩ = some a5 ∧ w.cell? ⟨p, 6, none⟩ = some a6 ∧ w.cell? ⟨p, 7, none⟩ = some a7 ∧ w.cell? ⟨b, o, none⟩ = some v ∧ Below w0.heap.size w0 w := by
  obtain ⟨x0, x1, x2, x3, x4, x5, x6, x7⟩ := eight22 h.h
  exact ⟨x0, x1, x2, x3, x4, x5, x6, x7, h.c, h.b⟩
theorem NineAt.more (h : NineAt p b o t a0 a1 a2 a3 a4 a5 a6 a7 v w0 w) (hb : Below w.heap.size w w') : NineAt p b o t a0 a1 a2 a3 a4 a5 a6 a7 v w0 w' := ⟨h.h.below hb h.h.lt, cell_onI h.c hb, h.b.more hb⟩
theorem NineAt.put (h : NineAt p b o t a0 a1 a2 a3 a4 a5 a6 a7 v w0 w) {q i : Nat} {u : Value} (h1 : p ≠ q) (h2 : b ≠ q) (h3 : w0.heap.size ≤ q) : NineAt p b o t a0 a1 a2 a3 a4 a5 a6 a7 v w0 (w.setCell ⟨q, i, none⟩ u) :=
  ⟨h.h.far (p := ⟨q, i, none⟩) h1 u, (World.cell?_of_block (Below.heap_setCell w ⟨q, i, none⟩ u b h2)).trans h.c, h.b.setCell (p := ⟨q, i, none⟩) h3 u⟩
end
theorem setCell_alloc (w : World) (o : Obj) {p : Addr} (hp : p.block < w.heap.size) (u : Value) : (w.alloc o).setCell p u = (w.setCell p u).alloc o := by
  unfold World.setCell World.alloc
  simp only [World.mk.injEq, and_true]
  apply Array.ext_getElem?
  intro i
  simp only [Array.getElem?_modify, Array.getElem?_push, Array.size_modify]
  by_cases h1 : p.block = i
  · subst h1
    rw [if_pos rfl, if_neg (by omega)]
    simp
    omega
  · rw [if_neg h1]
    simp [h1]
theorem holds_more {w w' : World} {q : Nat} {t : TypeId} {cs : Array Value} (h : Holds w q t cs) (hb : Below w.heap.size w w') : Holds w' q t cs := h.below hb h.lt
/-- Rows that are nil, in a block of the call's own. -/
theorem rows2M_nil {w : World} {base q n : Nat} {X : Nat → Prop} (h : Holds w q 34 (nilRows n)) (hb : base ≤ q) (hX : ¬ X q) (hn : n ≤ maxLen) : Rows2M X w base (.slice (some ⟨q, 0, none⟩) n n) (List.replicate n []) := by
  have hl : (List.replicate n ([] : List Int)).length = n := List.length_replicate
  refine ⟨List.replicate n (.slice none 0 0), by simp, ?_, fun g hg => by simp [Value.ownBlock] at hg; subst hg; exact ⟨hX, h.lt⟩, fun i x l hx hl' => ?_⟩
  · rw [hl]
    exact .inl ⟨by simp, .inr ⟨q, n, nilRows n, rfl, hb, h, Nat.le_refl _, hn, by simp [nilRows], by simp [nilRows]⟩⟩
  · have h1 := List.mem_of_getElem? hx
    rw [List.mem_replicate] at h1
    have h2 := List.mem_of_getElem? hl'
    rw [List.mem_replicate] at h2
    rw [h1.2, h2.2]
    exact Rd.nil _ _ _

theorem sides_start {w : World} {base S q q5 q6 n : Nat} {vf : Value} {A : List (List Int)} {em rb : List Bool} (hS : Holds w S 98 #[vf, .slice (some ⟨q5, 0, none⟩) n n, .slice (some ⟨q6, 0, none⟩) n n, .slice (some ⟨q, 0, none⟩) n n]) (hq : Holds w q 34 (nilRows n))
    (hF : Rows2 w (fun k => k < w.heap.size ∧ k ≠ q ∧ ¬ False) vf A) (he : BoolsAt w q5 em) (hr : BoolsAt w q6 rb) (h5 : n = em.length) (h6 : n = rb.length) (hb : base ≤ q) (hn : n ≤ maxLen) : SidesAt w (fun _ => False) base S q vf (.slice (some ⟨q5, 0, none⟩) n n) (.slice (some ⟨q6, 0, none⟩) n n) A em rb (List.replicate n []) := by
  refine ⟨by rw [List.length_replicate]; exact hS, Holds.ne hS hq (by decide), id, hF, he.row h5 ⟨he.lt, Holds.ne he hq (by decide), id⟩ hn, hr.row h6 ⟨hr.lt, Holds.ne hr hq (by decide), id⟩ hn, ?_⟩
  rw [List.length_replicate]
  exact rows2M_nil hq hb id hn

set_option maxRecDepth 20000 in
set_option maxHeartbeats 8000000 in
theorem follow_End (a b c : Value) (g : Gram) (w : World) (HG : GramIs w (Old w) a b c g) (hsm : Small g) :
    Calls Try.prog 31 #[.agg (gramCells a b c g)] w fun r w' => r = .returned (.int .i64 (if rightB g = true then (g.toks.length : Int) else -1)) ∧ Below w.heap.size w w' := by
  have HR := hidden (fun (w' : World) (hb : Below w.heap.size w w') => gram_Right a b c g w' (HG.old hb) hsm.toks hsm.rules hsm.prods hsm.names)
  obtain ⟨⟨A1, k1, rfl, v1, m1⟩, ⟨A2, k2, rfl, v2, m2⟩, ⟨A3, k3, rfl, v3, m3⟩⟩ := HG.vals
  have hb0 : Below w.heap.size w (w.alloc (.cells #[.slice A1 g.toks.length k1, .slice A2 g.rules.length k2, .slice A3 g.prods.length k3, .int .i64 g.start, .int .i64 g.states, .int .i64 g.text, .int .i64 g.nodes, .int .i64 g.pairs] 26)) := (by repeat (first | (with_reducible exact Below.refl _ _) | (with_reducible assumption) | (with_reducible refine Below.drew ?_) | (with_reducible refine below_drewN ?_ _) | ((with_reducible refine below_alloc ?_ ?_); (focus (first | omega | (simp; done) | (simp; omega)))) | ((with_reducible refine below_set ?_ ?_); (focus (first | omega | (simp; done) | (simp; omega))))))
  have HB0 := hidden (Holds.new w 26 #[.slice A1 g.toks.length k1, .slice A2 g.rules.length k2, .slice A3 g.prods.length k3, .int .i64 g.start, .int .i64 g.states, .int .i64 g.text, .int .i64 g.nodes, .int .i64 g.pairs])
  clear HG hsm
  unfold gramCells at *
  generalize rightB g = rg at *
  cases rg
  all_goals
    go_enter Try.func31, Try.ntmps31
    obtain ⟨s0, s1, s2, s3, s4, s5, s6, s7⟩ := eight22 HB0.out
    go_wp2_with fail
    refine (HR.out _ hb0).mono ?_
    rintro r w2 ⟨rfl, hb2⟩
    replace HB0 := hidden (HB0.out.below hb2 HB0.out.lt)
    replace hb0 := hb0.trans (hb2.mono hb0.size)
    clear s0 s1 s2 s3 s4 s5 s6 s7 hb2
    obtain ⟨s0, s1, s2, s3, s4, s5, s6, s7⟩ := eight22 HB0.out
    go_wp2
    go_ret
    exact ⟨rfl, hb0⟩

set_option maxRecDepth 20000 in
set_option maxHeartbeats 16000000 in
theorem follow_All (a b c : Value) (g : Gram) (w : World) (HG : GramIs w (Old w) a b c g) (hsm : Small g) :
    Calls Try.prog 29 #[.agg (gramCells a b c g)] w fun r w' => (∃ u, r = .returned u ∧ Hid (Rows2 w' (Old w') u (fol23 g))) ∧ Below w.heap.size w w' := by
  have HR := hidden (fun (w' : World) (hb : Below w.heap.size w w') => gram_Right a b c g w' (HG.old hb) hsm.toks hsm.rules hsm.prods hsm.names)
  have HPr := hidden HG.2.2
  have hN := hsm.toks
  have hgr := hsm.rules
  have HFi := hidden (fun (w' : World) (hb : Below w.heap.size w w') => first_AllN a b c g w' (HG.old hb) hsm)
  have HEm := hidden (fun (w' : World) (hb : Below w.heap.size w w') => null_Empty a b c g w' (HG.old hb) hsm)
  have HRe := hidden (fun (w' : World) (hb : Below w.heap.size w w') => null_Reached a b c g w' (HG.old hb) hsm)
  have HEn := hidden (fun (w' : World) (hb : Below w.heap.size w w') => follow_End a b c g w' (HG.old hb) hsm)
  obtain ⟨⟨A1, k1, rfl, v1, m1⟩, ⟨A2, k2, rfl, v2, m2⟩, ⟨A3, k3, rfl, v3, m3⟩⟩ := HG.vals
  unfold maxLen at m1 m2 m3
  have hb0 : Below w.heap.size w (w.alloc (.cells #[.slice A1 g.toks.length k1, .slice A2 g.rules.length k2, .slice A3 g.prods.length k3, .int .i64 g.start, .int .i64 g.states, .int .i64 g.text, .int .i64 g.nodes, .int .i64 g.pairs] 26)) := (by repeat (first | (with_reducible exact Below.refl _ _) | (with_reducible assumption) | (with_reducible refine Below.drew ?_) | (with_reducible refine below_drewN ?_ _) | ((with_reducible refine below_alloc ?_ ?_); (focus (first | omega | (simp; done) | (simp; omega)))) | ((with_reducible refine below_set ?_ ?_); (focus (first | omega | (simp; done) | (simp; omega))))))
  have HB0 := hidden (Holds.new w 26 #[.slice A1 g.toks.length k1, .slice A2 g.rules.length k2, .slice A3 g.prods.length k3, .int .i64 g.start, .int .i64 g.states, .int .i64 g.text, .int .i64 g.nodes, .int .i64 g.pairs])
  clear HG
  generalize hP : fol23 g = P
  have HP := hidden hP
  clear hP
  unfold gramCells at *
  go_enter Try.func29, Try.ntmps29
  obtain ⟨s0, s1, s2, s3, s4, s5, s6, s7⟩ := eight22 HB0.out
  go_wp2_with fail
  refine (HR.out _ hb0).mono ?_
  rintro r w2 ⟨rfl, hb2⟩
  replace HB0 := hidden (HB0.out.below hb2 HB0.out.lt)
  replace hb0 := hb0.trans (hb2.mono hb0.size)
  clear s0 s1 s2 s3 s4 s5 s6 s7 hb2 HR
  cases hg : rightB g with
  | false =>
    have HE : Hid (P = []) := hidden (by rw [← HP.out]; unfold fol23; rw [hg]; rfl)
    obtain ⟨s0, s1, s2, s3, s4, s5, s6, s7⟩ := eight22 HB0.out
    go_wp2
    go_ret
    exact ⟨⟨_, rfl, hidden (by rw [HE.out]; exact Rows2.mk' [] rfl (Rd.nil _ _ _) (fun i x l h => by simp at h))⟩, hb0⟩
  | true =>
    obtain ⟨s0, s1, s2, s3, s4, s5, s6, s7⟩ := eight22 HB0.out
    have HFi2 := hidden (fun (w' : World) (hb : Below w2.heap.size w2 w') => HFi.out w' (hb0.trans (hb.mono hb0.size)))
    have HEm2 := hidden (fun (w' : World) (hb : Below w2.heap.size w2 w') => HEm.out w' (hb0.trans (hb.mono hb0.size)))
    have HRe2 := hidden (fun (w' : World) (hb : Below w2.heap.size w2 w') => HRe.out w' (hb0.trans (hb.mono hb0.size)))
    have hrl := reachB_len g
    have hel := growsB_len g false
    have hsetIs : ∀ {w : World} {v : Value} {s : List Bool}, s.length = g.rules.length → SetIs w v g.rules.length true s → ∃ q, v = .slice (some ⟨q, 0, none⟩) g.rules.length g.rules.length ∧ BoolsAt w q s := fun _ h => by
      unfold SetIs at h
      rw [if_pos rfl] at h
      obtain ⟨q, e, h1, _⟩ := h
      exact ⟨q, e, h1⟩
    have hal : all22 g = allF g (growsB g false) := by unfold all22; rw [if_pos hg]
    rw [hal] at HFi2
    rw [hg] at HEm2 HRe2
    have HE : Hid (P = folF g (growsB g false) (reachB g)) := hidden (by rw [← HP.out]; unfold fol23; rw [if_pos hg])
    have hmk : ∀ w : World, (Instr.makeSlice 31 (.int .i64 (g.rules.length : Int)) (.int .i64 (g.rules.length : Int))).run Try.prog w = .ok (.slice (some ⟨w.heap.size, 0, none⟩) g.rules.length g.rules.length) (w.alloc (.cells (nilRows g.rules.length) 34)) := fun w => by
      rw [← made_nils]
      exact run_make_row' (P := Try.prog) 31 34 (.slice none 0 0) 24 (by kernel_rfl) (by kernel_rfl) rfl .i64 .i64 g.rules.length (by omega) (by omega) w
    go_upto_region 3 with fail
    go_cut [3] from 10 to 22 (fun v3 wx => ∃ (S q : Nat) (uf ue ur : Value), v3 = .pointer (some ⟨S, 0, none⟩) ∧ Hid (SidesAt wx (fun _ => False) w2.heap.size S q uf ue ur (allF g (growsB g false)) (growsB g false) (reachB g) (List.replicate g.rules.length [])) ∧ Hid (Below w2.heap.size w2 wx) ∧ w2.heap.size ≤ q ∧ w2.heap.size ≤ S)
    case first =>
      have HB0h := HB0
      go_region_held3 (fun w' => w'.cell? ⟨w.heap.size, 0, none⟩ = some (.slice A1 g.toks.length k1) ∧ w'.cell? ⟨w.heap.size, 1, none⟩ = some (.slice A2 g.rules.length k2) ∧ w'.cell? ⟨w.heap.size, 2, none⟩ = some (.slice A3 g.prods.length k3) ∧ w'.cell? ⟨w.heap.size, 3, none⟩ = some (.int .i64 g.start) ∧ w'.cell? ⟨w.heap.size, 4, none⟩ = some (.int .i64 g.states) ∧ w'.cell? ⟨w.heap.size, 5, none⟩ = some (.int .i64 g.text) ∧ w'.cell? ⟨w.heap.size, 6, none⟩ = some (.int .i64 g.nodes) ∧ w'.cell? ⟨w.heap.size, 7, none⟩ = some (.int .i64 g.pairs) ∧ Below w2.heap.size w2 w')
        (first | exact ⟨s0, s1, s2, s3, s4, s5, s6, s7, Below.drew (Below.refl _ _)⟩ | (go_split_ands; exact keep_one HB0h.out (by (first | assumption | exact Below.drew (Below.refl _ _) | exact Below.refl _ _)) (by assumption)) | (go_split_ands; exact keep_one HB0h.out (by (first | assumption | exact Below.drew (Below.refl _ _) | exact Below.refl _ _)) (below_new _ _)))
        (first | (go_at_call 16; go_split_ands; refine (HFi2.out _ (by (first | assumption | exact Below.drew (Below.refl _ _) | exact Below.refl _ _))).mono ?_; rintro e w4 ⟨⟨u4, rfl, hu4⟩, hb4⟩; obtain ⟨A4, c4, rfl, _, _⟩ := hu4.out.value) | (go_at_call 78; go_split_ands; refine (HEm2.out _ (by (first | assumption | exact Below.drew (Below.refl _ _) | exact Below.refl _ _))).mono ?_; rintro e w5 ⟨⟨u5, rfl, hu5⟩, hb5⟩; obtain ⟨q5, rfl, he5⟩ := hsetIs hel hu5.out; clear hu5) | (go_at_call 79; go_split_ands; refine (HRe2.out _ (by (first | assumption | exact Below.drew (Below.refl _ _) | exact Below.refl _ _))).mono ?_; rintro e w6 ⟨⟨u6, rfl, hu6⟩, hb6⟩; obtain ⟨q6, rfl, he6⟩ := hsetIs hrl hu6.out; clear hu6))
      all_goals
        have hz4 := hb4.size; have hz5 := hb5.size; have hz6 := hb6.size
        have HU4 := hidden hu4.out
        have HE5 := hidden he5
        have HE6 := hidden he6
        have HB4 := hidden hb4
        have HB5 := hidden hb5
        have HB6 := hidden hb6
        have HEl := hidden hel
        have HRl := hidden hrl
        (try simp only [World.size_alloc, World.drew] at hz4 hz5 hz6)
        clear hu4 he5 he6 hb4 hb5 hb6 hel hrl hsetIs hmk HFi2 HEm2 HRe2 HFi HEm HRe s0 s1 s2 s3 s4 s5 s6 s7
        go_wp2
        go_meet
        refine ⟨_, _, _, _, _, rfl, hidden (sides_start (by repeat (first | exact HE5.out | exact HE6.out | (refine holds_new ?_; first | rfl | (simp; done)) | refine Holds.alloc ?_ _ | refine holds_more ?_ HB6.out | refine holds_more ?_ HB5.out | refine holds_more ?_ HB4.out | refine Holds.drew ?_)) (by repeat (first | exact HE5.out | exact HE6.out | (refine holds_new ?_; first | rfl | (simp; done)) | refine Holds.alloc ?_ _ | refine holds_more ?_ HB6.out | refine holds_more ?_ HB5.out | refine holds_more ?_ HB4.out | refine Holds.drew ?_)) ?_ (by repeat (first | exact HE5.out | exact HE6.out | (refine holds_new ?_; first | rfl | (simp; done)) | refine Holds.alloc ?_ _ | refine holds_more ?_ HB6.out | refine holds_more ?_ HB5.out | refine holds_more ?_ HB4.out | refine Holds.drew ?_)) (by repeat (first | exact HE5.out | exact HE6.out | (refine holds_new ?_; first | rfl | (simp; done)) | refine Holds.alloc ?_ _ | refine holds_more ?_ HB6.out | refine holds_more ?_ HB5.out | refine holds_more ?_ HB4.out | refine Holds.drew ?_)) HEl.out.symm HRl.out.symm ?_ (by unfold maxLen; omega)), hidden (by repeat (first | exact Below.refl _ _ | exact (Below.refl _ _).drew | refine Below.drew ?_ | refine Below.more ?_ (below_new _ _) | refine Below.more ?_ HB6.out | refine Below.more ?_ HB5.out | refine Below.more ?_ HB4.out)), ?_, ?_⟩
        · refine (Recs.below HU4.out (by repeat (first | exact Below.refl _ _ | exact (Below.refl _ _).drew | refine Below.drew ?_ | refine Below.more ?_ (below_new _ _) | refine Below.more ?_ HB6.out | refine Below.more ?_ HB5.out | refine Below.more ?_ HB4.out)) (fun _ h => h.2)).mono (fun k hk => ⟨?_, ?_, id⟩)
          · have h2 := hk.2
            simp only [World.size_alloc]
            omega
          · have h1 := hk.1
            have h2 := hk.2
            (try simp only [World.size_alloc, World.drew] at h1)
            omega
        · omega
        · omega
        · omega
    case rest =>
      obtain ⟨S, q, uf, ue, ur, rfl, HS, hbw, hq0, hS0⟩ := hcut
      have hsz := HB0.out.lt
      have hbwo := hbw.out
      have HGw := hidden (HB0.out.below hbwo hsz)
      have hww := hb0.trans (hbwo.mono hb0.size)
      have HPw := hidden (HPr.out.below hww (fun _ h => h))
      have HWh := hidden (whole22 hg)
      have hst := (rightB_sound hg).start
      obtain ⟨r0, hr0⟩ := Int.eq_ofNat_of_zero_le hst.1
      have hr0l : r0 < g.rules.length := by omega
      have HKF := hidden (KnownB.first_ hst (growsB g false) (reachB g))
      have hr0n : g.start.toNat = r0 := by omega
      rw [hr0n] at HKF
      have HEl := hidden hel
      have HRl := hidden hrl
      have HEn2 := hidden (fun (w' : World) (hb : Below wc.heap.size wc w') => HEn.out w' (hww.trans (hb.mono hww.size)))
      rw [hg] at HEn2
      have HSl := hidden (fun (wx : World) (hb : Below wc.heap.size wc wx) => HS.out.later hb)
      have hqw := HS.out.qlt
      have hSw := HS.out.at_.lt
      have hgq : w.heap.size ≠ q := by omega
      have hlr : (List.replicate g.rules.length ([] : List Int)).length = g.rules.length := List.length_replicate
      obtain ⟨s0, s1, s2, s3, s4, s5, s6, s7⟩ := eight22 HGw.out
      rw [hr0] at s3
      have HGh : Hid (Holds wc w.heap.size 26 #[.slice A1 g.toks.length k1, .slice A2 g.rules.length k2, .slice A3 g.prods.length k3, .int .i64 (r0 : Int), .int .i64 g.states, .int .i64 g.text, .int .i64 g.nodes, .int .i64 g.pairs]) := hidden (by rw [← hr0]; exact HGw.out)
      have c3 : wc.cell? ⟨S, 3, none⟩ = some (.slice (some ⟨q, 0, none⟩) g.rules.length g.rules.length) := by have := HS.out.at_.cell 3; rw [hlr] at this; exact this
      have HC3 := hidden c3
      obtain ⟨u0, hu0, hf0, _⟩ := HS.out.row (r := r0) (l := []) (by rw [List.getElem?_replicate, if_pos hr0l])
      have HU0 := hidden hu0
      have HFz : Hid (∀ wx : World, Below wc.heap.size wc wx → wx.frozen? ⟨q, r0, none⟩ = false) := hidden (fun wx hb => by
        obtain ⟨_, _, h, _⟩ := (HSl.out wx hb).row (r := r0) (l := []) (by rw [List.getElem?_replicate, if_pos hr0l])
        exact h)
      clear hel hrl hmk hsetIs HFi2 HEm2 HRe2 HFi HEm HRe HEn hal HB0 hbw hst
      generalize hF0 : List.replicate g.rules.length ([] : List Int) = F0 at *
      have HF0 := hidden hF0
      clear hF0
      rw [hr0] at HEn2
      go_wp2_with fail
      have HN0 : Hid (NineAt w.heap.size S 3 26 (.slice A1 g.toks.length k1) (.slice A2 g.rules.length k2) (.slice A3 g.prods.length k3) (.int .i64 (r0 : Int)) (.int .i64 g.states) (.int .i64 g.text) (.int .i64 g.nodes) (.int .i64 g.pairs) (.slice (some ⟨q, 0, none⟩) g.rules.length g.rules.length) w2 wc.drew) := hidden ⟨HGh.out.drew, HC3.out, hbwo.drew⟩
      have hSq : S ≠ q := HS.out.sq
      go_region_held3 (fun w' => w'.cell? ⟨w.heap.size, 0, none⟩ = some (.slice A1 g.toks.length k1) ∧ w'.cell? ⟨w.heap.size, 1, none⟩ = some (.slice A2 g.rules.length k2) ∧ w'.cell? ⟨w.heap.size, 2, none⟩ = some (.slice A3 g.prods.length k3) ∧ w'.cell? ⟨w.heap.size, 3, none⟩ = some (.int .i64 (r0 : Int)) ∧ w'.cell? ⟨w.heap.size, 4, none⟩ = some (.int .i64 g.states) ∧ w'.cell? ⟨w.heap.size, 5, none⟩ = some (.int .i64 g.text) ∧ w'.cell? ⟨w.heap.size, 6, none⟩ = some (.int .i64 g.nodes) ∧ w'.cell? ⟨w.heap.size, 7, none⟩ = some (.int .i64 g.pairs) ∧ w'.cell? ⟨S, 3, none⟩ = some (.slice (some ⟨q, 0, none⟩) g.rules.length g.rules.length) ∧ Below w2.heap.size w2 w')
        (first | exact HN0.out.all | (go_split_ands; exact HN9.out.all) | (go_split_ands; exact (HN9.out.more (below_new _ _)).all) | (go_split_ands; exact ((HN9.out.put hgq hSq hq0).more (below_new _ _)).all))
        (first | (go_at_call 31; go_split_ands; refine (HEn2.out _ (Below.drew (Below.refl _ _))).mono ?_; rintro e w9 ⟨rfl, hb9⟩; have hbz9 := hidden ((Below.refl wc.heap.size wc).drew.more hb9); have HN9 := hidden (HN0.out.more hb9); have x1 := cell_onI HU0.out hbz9.out; have x2 := HFz.out w9 hbz9.out; have x3 : q < w9.heap.size := Nat.lt_of_lt_of_le hqw hbz9.out.size))
      rw [← setCell_alloc w9 (.cells #[.int .i64 (g.toks.length : Int)] 3) (p := ⟨q, r0, none⟩) x3]
      have hbA := hbz9.out.trans ((below_new w9 (.cells #[.int .i64 (g.toks.length : Int)] 3)).mono hbz9.out.size)
      have HSA := hidden (HSl.out _ hbA)
      have hlF : F0.length = g.rules.length := hlr
      have HSB := hidden (HSA.out.put (r := r0) (by rw [hlF]; exact hr0l) (u := .slice (some ⟨w9.heap.size, 0, none⟩) 1 1) (l := [(g.toks.length : Int)]) (rd_litI (Holds.new _ _ _) ⟨by simp, by omega, id⟩ rfl rfl (by decide)))
      have HBt : Hid (But q wc ((w9.alloc (.cells #[.int .i64 (g.toks.length : Int)] 3)).setCell ⟨q, r0, none⟩ (.slice (some ⟨w9.heap.size, 0, none⟩) 1 1))) := hidden ((But.of_below hbA).set r0 _)
      clear hbA HSA hb9 hbz9 x1 x2 x3 HFz HU0 hu0 hf0 c3 s0 s1 s2 s3 s4 s5 s6 s7 HSl HEn2 HN0 HN9 HC3 hlF hlr
      generalize (w9.alloc (.cells #[.int .i64 (g.toks.length : Int)] 3)).setCell ⟨q, r0, none⟩ (.slice (some ⟨w9.heap.size, 0, none⟩) 1 1) = wd at *
      generalize hF1 : F0.set r0 [(g.toks.length : Int)] = F1 at *
      have HTot := hidden (fun F (h : KnownB g (growsB g false) (reachB g) F) => h.tot_le)
      generalize hAA : allF g (growsB g false) = AA at *
      have HAA := hidden hAA
      clear hAA
      generalize (g.toks.length + 1) * g.rules.length = M at *
      clear hF1 HF0 HS
      have hbi := But.refl q wd
      go_wp2
      go_loopg [4] (M - tot F1 + 1) (fun gh mm wr => ∃ (F : List (List Int)) (mb : Bool), mm = .bool mb ∧ gh = M - tot F + mb.toNat ∧ Hid (SidesAt wr (fun _ => False) w2.heap.size S q uf ue ur AA (growsB g false) (reachB g) F) ∧ Hid (KnownB g (growsB g false) (reachB g) F) ∧ Hid (But q wc wr) ∧ Hid (mb = false → ∀ p ∈ g.prods, atB (reachB g) p.left = true → ∀ k, ClosedAt g (growsB g false) F p k))
      case atStart => exact ⟨F1, true, rfl, rfl, HSB, HKF, HBt, hidden (fun h => by cases h)⟩
      case round =>
        clear HSB HKF HBt hbi
        obtain ⟨F, mb, rfl, rfl, HSa, HKf, HBu, HCl⟩ := hrel
        cases mb
        · have HPe := hidden (HKf.out.all (HCl.out rfl))
          have HBl := hidden (hww.trans (HBu.out.below (B := w.heap.size) (by omega) hww.size))
          have c3 : wr.cell? ⟨S, 3, none⟩ = some (.slice (some ⟨q, 0, none⟩) F.length F.length) := HSa.out.at_.cell 3
          have HFin : Hid (Rows2 wr (Old wr) (.slice (some ⟨q, 0, none⟩) F.length F.length) P) := hidden (by
            rw [HE.out, ← HPe.out]
            exact HSa.out.all.old)
          clear HPe HKf HSa HBu HCl
          go_wp2
          go_ret
          exact ⟨⟨_, rfl, HFin⟩, HBl.out⟩
        · clear HCl
          have HGr := hidden (HGw.out.but HBu.out hgq)
          obtain ⟨s0, s1, s2, s3, s4, s5, s6, s7⟩ := eight22 HGr.out
          go_wp2
          clear s0 s1 s2 s3 s4 s5 s6 s7 HGr
          have hwsz : w.heap.size ≤ wr.heap.size := Nat.le_trans hww.size HBu.out.size
          obtain ⟨wo, rfl⟩ : ∃ wo : World, wo = wr := ⟨_, rfl⟩
          have HF1 := hidden (And.intro HKf.out (Nat.le_refl (tot F)))
          go_loopg [4, 36] g.prods.length (fun gh mm jj wr => ∃ (j : Nat) (F' : List (List Int)) (mb : Bool), j ≤ g.prods.length ∧ gh = g.prods.length - j ∧ jj = .int .i64 j ∧ mm = .bool mb ∧ Hid (SidesAt wr (fun _ => False) w2.heap.size S q uf ue ur AA (growsB g false) (reachB g) F') ∧ Hid (KnownB g (growsB g false) (reachB g) F' ∧ tot F ≤ tot F') ∧ Hid (But q wc wr) ∧ Hid (mb = false → F' = F ∧ ∀ p ∈ g.prods.take j, atB (reachB g) p.left = true → ∀ k, ClosedAt g (growsB g false) F p k) ∧ Hid (mb = true → tot F < tot F'))
          case atStart => exact ⟨0, F, false, by omega, rfl, rfl, rfl, HSa, HF1, HBu, hidden (fun _ => ⟨rfl, fun p hp => by cases hp⟩), hidden (fun h => by cases h)⟩
          case round =>
            clear HSa HKf HBu HF1
            obtain ⟨j, F', mb, hj, rfl, rfl, rfl, HSa, HKf, HBu, HN, HY⟩ := hrel
            by_cases hlt : j < g.prods.length
            · have hx := List.getElem?_eq_getElem hlt
              have hmem := List.getElem_mem hlt
              generalize g.prods[j] = p at *
              have HX := hidden hx
              have HTk : Hid (g.prods.take (j + 1) = g.prods.take j ++ [p]) := hidden (by rw [List.take_add_one, HX.out]; rfl)
              have hkp : Keeps (fun k => k < w.heap.size) wc wr := ⟨HBu.out.size, fun k hk hl => HBu.out.block k hl (by omega)⟩
              obtain ⟨b1, o1, l1, rfl, hT, hat, hin⟩ := (HPw.out.keeps hkp).at_ hx
              have hin : Rd wr (fun k => k < w.heap.size) 4 l1 p.right.length (p.right.flatMap itCells) := hin
              have hws : w.heap.size ≤ wr.heap.size := Nat.le_trans hww.size HBu.out.size
              have hT' : b1 < wr.heap.size := Nat.lt_of_lt_of_le hT hws
              have y0 : wr.cell? ⟨b1, o1 + j * 2, none⟩ = some (.int .i64 p.left) := hat 0 _ rfl
              have y1' := hat 1 _ rfl
              obtain ⟨A4, k4, rfl, _, _⟩ := hin.val
              have y1 : wr.cell? ⟨b1, o1 + j * 2 + 1, none⟩ = some (.slice A4 p.right.length k4) := y1'
              have hpl := HWh.out.left p hmem
              obtain ⟨r1, hr1⟩ := Int.eq_ofNat_of_zero_le hpl.1
              have hr1l : r1 < g.rules.length := by omega
              have hal := (Below.refl wr.heap.size wr).alloc (Nat.le_refl _) (.cells #[.int .i64 p.left, .slice A4 p.right.length k4] 45)
              have HSw := hidden (HSa.out.later hal)
              have HBa := hidden (HBu.out.next hal)
              have HPx := hidden (Holds.new wr 45 #[.int .i64 p.left, .slice A4 p.right.length k4])
              have HIw : Hid (Rd (wr.alloc (.cells #[.int .i64 p.left, .slice A4 p.right.length k4] 45)) (fun k => k < (wr.alloc (.cells #[.int .i64 p.left, .slice A4 p.right.length k4] 45)).heap.size ∧ k ≠ q) 4 (.slice A4 p.right.length k4) p.right.length (p.right.flatMap itCells)) := hidden ((hin.alloc (.cells #[.int .i64 p.left, .slice A4 p.right.length k4] 45)).mono (fun k hk => ⟨by have := hk; simp; omega, by omega⟩))
              have hpx : wr.heap.size < (wr.alloc (.cells #[.int .i64 p.left, .slice A4 p.right.length k4] 45)).heap.size := by simp
              rw [hr1] at y0 hal HSw HBa HPx HIw hpx
              have hrb := HSw.out.reached
              obtain ⟨Ar, cr, rfl, _, _⟩ := hrb.val
              have hRn := List.getElem?_eq_getElem (show r1 < (reachB g).length by rw [HRl.out]; exact hr1l)
              have hRa : atB (reachB g) p.left = (reachB g)[r1]'(by rw [HRl.out]; exact hr1l) := by unfold atB; rw [hr1, Int.toNat_natCast, List.getD_eq_getElem?_getD, hRn]; rfl
              obtain ⟨be, oe, rfl, hTe, hce⟩ := row_at hrb hRn
              have hRl : r1 < (reachB g).length := by rw [HRl.out]; exact hr1l
              clear hat hin y1' hal hkp HSa HBu hx hrb hRn
              generalize hbv : (reachB g)[r1]'hRl = bv at *
              clear hbv
              have HLx := hidden (And.intro hRa hmem)
              clear hmem hRa
              have c2 : (wr.alloc (.cells #[.int .i64 (r1 : Int), .slice A4 p.right.length k4] 45)).cell? ⟨S, 2, none⟩ = some (.slice (some ⟨be, oe, none⟩) (reachB g).length cr) := HSw.out.at_.cell 2
              have c0 : (wr.alloc (.cells #[.int .i64 (r1 : Int), .slice A4 p.right.length k4] 45)).cell? ⟨wr.heap.size, 0, none⟩ = some (.int .i64 (r1 : Int)) := HPx.out.cell 0
              have c1 : (wr.alloc (.cells #[.int .i64 (r1 : Int), .slice A4 p.right.length k4] 45)).cell? ⟨wr.heap.size, 1, none⟩ = some (.slice A4 p.right.length k4) := HPx.out.cell 1
              have HKf1 := hidden HKf.out.1
              have hle0 := HKf.out.2
              have HL1 := hidden HLx.out.1
              have HL2 := hidden HLx.out.2
              have HHr1 := hidden hr1
              have HELn : Hid ((growsB g false).length = g.rules.length) := HEl
              clear HLx HKf hr1 hTe
              cases bv with
              | false =>
                have t0 := Ext.cell c0; have t2 := Ext.cell c2; have t3 := Ext.cell hce
                go_wp2_with fail
                refine wp_region_ext (by kernel_rfl) (by kernel_rfl) ?_
                repeat (go_big_quiet_step (fail))
                refine wpQuiet_nil ?_
                intro w5 hb5
                have HS5 := hidden (HSw.out.later hb5)
                have HB5 := hidden (HBa.out.next hb5)
                have HK5 := hidden (And.intro HKf1.out hle0)
                have HN5 : Hid (mb = false → F' = F ∧ ∀ p ∈ g.prods.take (j + 1), atB (reachB g) p.left = true → ∀ k, ClosedAt g (growsB g false) F p k) := hidden (fun h => by
                  obtain ⟨e1, e2⟩ := HN.out h
                  refine ⟨e1, fun p' hp' hrb => ?_⟩
                  rw [HTk.out] at hp'
                  rcases List.mem_append.1 hp' with h | h
                  · exact e2 p' h hrb
                  · rw [List.mem_singleton] at h; subst h
                    rw [HL1.out] at hrb; cases hrb)
                clear t0 t2 t3 c0 c1 c2 hce hb5 HSw HBa HN HTk HL1 HKf1 HIw HPx
                go_wp2
                go_roundg (g.prods.length - (j + 1))
                case measure => omega
                case rel => exact ⟨j + 1, F', mb, by omega, rfl, by go_num, rfl, HS5, HK5, HB5, HN5, HY⟩
              | true =>
                have HC := hidden (fun (w5 : World) (hb : Below (wr.alloc (.cells #[.int .i64 (r1 : Int), .slice A4 p.right.length k4] 45)).heap.size (wr.alloc (.cells #[.int .i64 (r1 : Int), .slice A4 p.right.length k4] 45)) w5) => follow_prod w5 w2.heap.size S q uf ue (.slice (some ⟨be, oe, none⟩) (reachB g).length cr) (.slice A4 p.right.length k4) g (growsB g false) (reachB g) F' p HWh.out HL2.out HL1.out HELn.out hN (by rw [HAA.out]; exact HSw.out.later hb) HKf1.out ((Rd.below HIw.out hb (fun _ h => h.1)).mono (fun k hk => ⟨Nat.lt_of_lt_of_le hk.1 hb.size, hk.2⟩)))
                rw [HAA.out, HHr1.out] at HC
                have t0 := Ext.cell c0; have t1 := Ext.cell c1; have t2 := Ext.cell c2; have t3 := Ext.cell hce
                go_wp2_with fail
                refine (wpIn_wide (n := 5)).1 ?_
                refine wpIn_region_ext_tail 11 (by kernel_rfl) (by kernel_rfl) rfl ?_
                simp only [List.take_succ_cons, List.take_zero, List.drop_succ_cons, List.drop_zero]
                repeat (gi_big_quiet_step (fail))
                refine wpQuietIn_nil ?_
                intro w5 hb5
                have HC5 := hidden (HC.out w5 hb5)
                have HB5 := hidden (HBa.out.next hb5)
                clear t0 t1 t2 t3 c0 c1 c2 hce hb5 HSw HBa HC HIw HPx
                gi_wp2_with fail
                refine CallsIn.mono (F := Fence.wide) (callsIn_wide.2 HC5.out) ?_
                rintro rr w6 ⟨F2, nb, rfl, HS6, HPt, hbt⟩
                have HB6 := hidden (HB5.out.trans hbt.out)
                obtain ⟨t2, HPa⟩ := HPt.out
                have HK6 := hidden (And.intro HPa.known (Nat.le_trans hle0 HPa.le))
                have HN6 : Hid (nb = false → mb = false → F2 = F ∧ ∀ p ∈ g.prods.take (j + 1), atB (reachB g) p.left = true → ∀ k, ClosedAt g (growsB g false) F p k) := hidden (fun h1 h2 => by
                  obtain ⟨e1, e2⟩ := HN.out h2
                  obtain ⟨e3, e4⟩ := HPa.no h1
                  rw [e1] at e3 e4
                  refine ⟨e3, fun p' hp' hrb => ?_⟩
                  rw [HTk.out] at hp'
                  rcases List.mem_append.1 hp' with h | h
                  · exact e2 p' h hrb
                  · rw [List.mem_singleton] at h; subst h; exact fun k => e4 k (Nat.zero_le _))
                have HY6 : Hid (nb = true ∨ mb = true → tot F < tot F2) := hidden (fun h => by
                  rcases h with h | h
                  · exact Nat.lt_of_le_of_lt hle0 (HPa.yes h)
                  · exact Nat.lt_of_lt_of_le (HY.out h) HPa.le)
                clear HC5 HB5 hbt HPt HPa HN HY HTk HL1 HKf1
                cases nb <;> cases mb
                · gi_wp2_with fail
                  go_wp2
                  go_roundg (g.prods.length - (j + 1))
                  case measure => omega
                  case rel => exact ⟨j + 1, F2, _, by omega, rfl, by go_num, rfl, HS6, HK6, HB6, hidden (by intro _; exact HN6.out (by trivial) (by trivial)), hidden (by intro h; cases h)⟩
                · gi_wp2_with fail
                  go_wp2
                  go_roundg (g.prods.length - (j + 1))
                  case measure => omega
                  case rel => exact ⟨j + 1, F2, _, by omega, rfl, by go_num, rfl, HS6, HK6, HB6, hidden (by intro h; cases h), hidden (by intro _; exact HY6.out (.inr (by trivial)))⟩
                · gi_wp2_with fail
                  go_wp2
                  go_roundg (g.prods.length - (j + 1))
                  case measure => omega
                  case rel => exact ⟨j + 1, F2, _, by omega, rfl, by go_num, rfl, HS6, HK6, HB6, hidden (by intro h; cases h), hidden (by intro _; exact HY6.out (.inl (by trivial)))⟩
                · gi_wp2_with fail
                  go_wp2
                  go_roundg (g.prods.length - (j + 1))
                  case measure => omega
                  case rel => exact ⟨j + 1, F2, _, by omega, rfl, by go_num, rfl, HS6, HK6, HB6, hidden (by intro h; cases h), hidden (by intro _; exact HY6.out (.inl (by trivial)))⟩
            · have hje : j = g.prods.length := by omega
              subst hje
              have HT := hidden (HTot.out F' HKf.out.1)
              have HPp : Hid (mb = false → ∀ p ∈ g.prods, atB (reachB g) p.left = true → ∀ k, ClosedAt g (growsB g false) F' p k) := hidden (fun h => by
                obtain ⟨e1, e2⟩ := HN.out h
                subst e1
                rwa [List.take_of_length_le (Nat.le_refl _)] at e2)
              have HMs : Hid (M - tot F' + mb.toNat < M - tot F + 1) := hidden (by
                have h0 := HT.out
                cases mb
                · have h1 := (HN.out rfl).1; subst h1; simp
                · have h1 := HY.out rfl; simp; omega)
              have HKk := hidden HKf.out.1
              clear HN HY HT
              go_wp2
              go_roundg (M - tot F' + mb.toNat)
              case measure => exact HMs.out
              case rel => exact ⟨F', mb, rfl, rfl, HSa, HKk, HBu, HPp⟩
end Go.Proofs.Ytmlggfapnkhcaaa
