/-
  gprint: an item as a word.
-/
import Derived.Test.YtfmdmeokbbpmlaaDoorGprA
import Derived.Test.YtfmdmeokbbpmlaaDoorG4
namespace Go.Proofs.YtfmdmeokbbpmlaaDoor
open Go.RowKit Go.Shelf

/-- The words of classes and the signs of gaps lie in their variables. -/
structure WordsW (w : World) : Prop where
  cls : ∀ j, j < 4 → w.cell? ⟨0, j, none⟩ = some (.string (clsW (j : Nat)))
  gap : ∀ j, j < 3 → w.cell? ⟨1, j, none⟩ = some (.string (gapW (j : Nat)))
theorem WordsW.ltC {w : World} (h : WordsW w) : 0 < w.heap.size := World.block_lt_of_cell? _ _ (h.cls 0 (by decide))
theorem WordsW.ltG {w : World} (h : WordsW w) : 1 < w.heap.size := World.block_lt_of_cell? _ _ (h.gap 0 (by decide))
theorem WordsW.old {w w' : World} (h : WordsW w) (hb : Below w.heap.size w w') : WordsW w' :=
  ⟨fun j hj => (hb.cell (p := ⟨0, j, none⟩) h.ltC).trans (h.cls j hj), fun j hj => (hb.cell (p := ⟨1, j, none⟩) h.ltG).trans (h.gap j hj)⟩
theorem ba_beq (a b : ByteArray) : (a == b) = true ↔ a = b := by
  obtain ⟨x⟩ := a
  obtain ⟨y⟩ := b
  constructor
  · intro h
    have e : x = y := by simpa using (show (x == y) = true from h)
    rw [e]
  · intro h
    cases h
    show (x == x) = true
    simp
theorem ba_ne {a b : ByteArray} (h : a ≠ b) : (a == b) = false := by
  cases e : a == b with
  | false => rfl
  | true => exact absurd ((ba_beq a b).1 e) h
theorem ba_same (a : ByteArray) : (a == a) = true := (ba_beq a a).2 rfl
theorem ba_size0 {s : ByteArray} (h : s.size = 0) : s = ByteArray.empty := by
  obtain ⟨⟨l⟩⟩ := s
  have : l = [] := List.eq_nil_of_length_eq_zero h
  rw [this]
  rfl
theorem ba_nil (s : ByteArray) : s ++ ByteArray.empty = s := by
  obtain ⟨⟨l⟩⟩ := s
  have h := bytes_app l []
  rw [List.append_nil] at h
  exact h
theorem name_size {g : Gram} (hz : ∀ s ∈ allNames g, s.size ≤ 1000) (x : Item) : (nameOf g x).size ≤ 1000 := by
  unfold nameOf
  split
  · decide
  · split
    · cases h : g.rules[x.n.toNat]? with
      | none => decide
      | some s => exact hz s (List.mem_append_right _ (List.mem_of_getElem? h))
    · cases h : g.toks[x.n.toNat]? with
      | none => decide
      | some t => exact hz t.name (List.mem_append_left _ (List.mem_map_of_mem (List.mem_of_getElem? h)))
theorem show_small {n : Int} (h0 : 0 ≤ n) (h1 : n ≤ 8) : (⟨(showI n).toArray⟩ : ByteArray).size = 1 := by
  rw [bytes_size]
  unfold showI
  rw [if_neg (by omega), digs_lt (by omega)]
  rfl
theorem gapW_size (c : Int) : (gapW c).size ≤ 1 := by unfold gapW; split <;> (try split) <;> decide
theorem gcells {w : World} {q : Nat} {t : TypeId} {a b c d e f g h : Value} (H : Holds w q t #[a, b, c, d, e, f, g, h]) : w.cell? ⟨q, 0, none⟩ = some a ∧ w.cell? ⟨q, 1, none⟩ = some b ∧ w.cell? ⟨q, 2, none⟩ = some c ∧ w.cell? ⟨q, 3, none⟩ = some d ∧ w.cell? ⟨q, 4, none⟩ = some e ∧ w.cell? ⟨q, 5, none⟩ = some f ∧ w.cell? ⟨q, 6, none⟩ = some g ∧ w.cell? ⟨q, 7, none⟩ = some h :=
  ⟨H.cell 0, H.cell 1, H.cell 2, H.cell 3, H.cell 4, H.cell 5, H.cell 6, H.cell 7⟩
set_option maxRecDepth 20000 in
set_option maxHeartbeats 8000000 in
theorem gprint_item (a b c : Value) (g : Gram) (x : Item) (w : World) (HG : GramIs w (Old w) a b c g) (HW : WordsW w) (hz : ∀ s ∈ allNames g, s.size ≤ 1000) :
    Calls Tryd.prog 50 #[.agg (gramCells a b c g), .agg (itV x)] w fun r w' => r = .returned (.string (itemT g x)) ∧ Below w.heap.size w w' := by
  have hb : Below w.heap.size w ((w.alloc (.cells (gramCells a b c g) 41)).alloc (.cells (itV x) 47)) := ((Below.refl _ _).alloc (Nat.le_refl _) _).alloc (by simp) _
  have HN := hidden (gprint_name a b c g x _ (HG.old hb))
  have HI := Holds.new (w.alloc (.cells (gramCells a b c g) 41)) 47 (itV x)
  have HJ := (Holds.new w 41 (gramCells a b c g)).alloc (.cells (itV x) 47)
  have hns := name_size hz x
  have hbz := hb.size
  rw [World.size_alloc] at HI
  obtain ⟨res, HE⟩ : ∃ res, Hid (itemT g x = res) := ⟨_, hidden rfl⟩
  rw [HE.out]
  unfold itemT itemOk inW at HE
  obtain ⟨xr, xn, xg, xi⟩ := x
  unfold gramCells itV at *
  dsimp only at HE
  generalize nameOf g ⟨xr, xn, xg, xi⟩ = s at *
  have HSh := hidden (fun (h : xi ≤ 9223372036854775807) (w' : World) => num_Show xi w' h)
  clear HG hz
  have HIx := hidden HI
  have HJx := hidden HJ
  clear HI HJ
  have hWb := HW.old hb
  have HWx := hidden hWb
  clear HW hWb
  go_enter Tryd.func50, Tryd.ntmps50
  go_upto_region 1 with fail
  generalize ((w.alloc (.cells #[a, b, c, .int .i64 g.start, .int .i64 g.states, .int .i64 g.text, .int .i64 g.nodes, .int .i64 g.pairs] 41)).alloc (.cells #[.bool xr, .int .i64 xn, .int .i64 xg, .int .i64 xi] 47)) = w1 at *
  obtain ⟨g0, g1, g2, g3, g4, g5, g6, g7⟩ := gcells HJx.out
  obtain ⟨i0, i1, i2, i3⟩ := four HIx.out
  go_wp2_with fail
  refine HN.out.mono ?_
  rintro r w2 ⟨rfl, hb2⟩
  clear g0 g1 g2 g3 g4 g5 g6 g7 i0 i1 i2 i3 HN HJx
  replace HIx := hidden (HIx.out.below hb2 HIx.out.lt)
  replace HWx := hidden (HWx.out.old hb2)
  have hb3 := hb.trans (hb2.mono hbz)
  clear hb hb2 hbz
  obtain ⟨i0, i1, i2, i3⟩ := four HIx.out
  by_cases hs : s = ByteArray.empty
  · have e0 : res = ByteArray.empty := by rw [← HE.out, hs]; rfl
    subst e0
    subst hs
    clear HE
    go_wp2
    go_ret
    exact ⟨rfl, hb3⟩
  · have p0 : (s == ByteArray.empty) = false := ba_ne hs
    have p0' : s.toList.isEmpty = false := by rw [list_isEmpty]; exact decide_eq_false (fun h => hs (ba_size0 h))
    rw [p0] at HE
    by_cases h1 : 0 ≤ xg ∧ xg ≤ 2 ∧ 0 ≤ xi ∧ xi ≤ 8
    · obtain ⟨h1, h2, h3, h4⟩ := h1
      obtain ⟨k, rfl⟩ : ∃ k : Nat, xg = (k : Int) := ⟨xg.toNat, by omega⟩
      have hk : k < 3 := by omega
      have q1 : ¬ (k : Int) < 0 := by omega
      have q2 : ¬ (2 : Int) < (k : Int) := by omega
      have q3 : ¬ xi < 0 := by omega
      have q4 : ¬ (8 : Int) < xi := by omega
      have q5 : (0 : Int) ≤ (k : Int) := by omega
      have q6 : (k : Int) < 3 := by omega
      have hss := show_small h3 h4
      have HSx := hidden (fun w' => HSh.out (by omega) w')
      have hgs := gapW_size (k : Int)
      have c0 := HWx.out.gap k hk
      have HGw := hidden (fun (w' : World) (h : WordsW w') => h.gap k hk)
      rw [decide_eq_true h1, decide_eq_true h2, decide_eq_true h3, decide_eq_true h4] at HE
      simp only [Bool.not_false, Bool.and_self, if_true] at HE
      generalize gapW (k : Int) = gw at *
      by_cases h5 : 0 < xi
      · have HE0 : Hid (res = gw ++ (s ++ ((⟨#[43]⟩ : ByteArray) ++ ⟨(showI xi).toArray⟩))) := hidden (by rw [← HE.out, if_pos h5])
        generalize (⟨(showI xi).toArray⟩ : ByteArray) = sh at *
        have hss2 : sh.size ≤ 1 := by omega
        clear HE hss
        go_wp2_with fail
        refine (HSx.out _).mono ?_
        rintro r w3 ⟨rfl, hb4⟩
        replace HIx := hidden (HIx.out.below hb4 HIx.out.lt)
        replace HWx := hidden (HWx.out.old hb4)
        clear i0 i1 i2 i3 c0
        obtain ⟨i0, i1, i2, i3⟩ := four HIx.out
        have c0 := HGw.out _ HWx.out
        go_wp2
        go_ret
        exact ⟨by rw [HE0.out]; first | done | rfl, hb3.trans (hb4.mono hb3.size)⟩
      · have HE0 : Hid (res = gw ++ s) := hidden (by rw [← HE.out, if_neg h5]; congr 1; exact ba_nil s)
        clear HE hss HSx
        go_wp2
        go_ret
        exact ⟨by rw [HE0.out]; first | done | rfl, hb3⟩
    · have hb0 : (decide (0 ≤ xg) && (decide (xg ≤ 2) && (decide (0 ≤ xi) && decide (xi ≤ 8)))) = false := by
        cases e : (decide (0 ≤ xg) && (decide (xg ≤ 2) && (decide (0 ≤ xi) && decide (xi ≤ 8)))) with
        | false => rfl
        | true =>
          simp only [Bool.and_eq_true, decide_eq_true_eq] at e
          exact absurd e h1
      rw [hb0] at HE
      have e0 : res = ByteArray.empty := by rw [← HE.out]; rfl
      subst e0
      clear HE hb0 HSh HWx
      by_cases h2 : xg < 0
      · have q1 : xg < 0 := h2
        clear h1
        go_wp2
        go_ret
        exact ⟨rfl, hb3⟩
      · by_cases h3 : 2 < xg
        · clear h1
          go_wp2
          go_ret
          exact ⟨rfl, hb3⟩
        · by_cases h4 : xi < 0
          · clear h1
            go_wp2
            go_ret
            exact ⟨rfl, hb3⟩
          · have h5 : 8 < xi := by omega
            clear h1
            go_wp2
            go_ret
            exact ⟨rfl, hb3⟩
end Go.Proofs.YtfmdmeokbbpmlaaDoor
