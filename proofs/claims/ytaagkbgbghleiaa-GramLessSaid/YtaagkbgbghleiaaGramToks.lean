/-
  gram: tokens, rules.
-/
import Derived.Test.YtaagkbgbghleiaaGramSizes
import Derived.Test.YtaagkbgbghleiaaGramItem2
import Derived.Test.YtaagkbgbghleiaaRxWalk
namespace Go.Proofs.Ytaagkbgbghleiaa
open Go.RowKit Go.Shelf

theorem But.keepsT {p : Nat} {w w' : World} {T : Nat → Prop} (h : But p w w') (hT : ∀ k, T k → k ≠ p) : Keeps T w w' := ⟨h.size, fun k hk hl => h.block k hl (hT k hk)⟩
theorem tokD_at {g : Gram} {k : Nat} {t : Token} (h : g.toks[k]? = some t) {e rx : Int} (he : nameErr t.name ((tokNames g).take k) = e) (hr : rxErr t.rex = rx) :
    tokD g k = if e ≠ 0 then ⟨e, k, 0⟩ else if rx ≠ 0 then ⟨9, k, rx⟩ else if t.cls < 0 ∨ 3 < t.cls then ⟨1, k, 0⟩ else D0 := by
  unfold tokD
  rw [h]
  dsimp only
  unfold tokErr
  dsimp only
  have hk := (List.getElem?_eq_some_iff.1 h).1
  rw [allNames_take_le (by omega), he, hr]

set_option maxRecDepth 20000 in
set_option maxHeartbeats 8000000 in
theorem gram_tokens (p : Nat) (a b c : Value) (g : Gram) (w : World) (H : Chk p a b c g D0 w) (s1 : g.toks.length ≤ 100000) (hz : Named g) :
    Calls Try.prog 68 #[.pointer (some ⟨p, 0, none⟩)] w (ChkOut p a b c g (firstD (tokD g) 0 g.toks.length) w) := by
  have HH := hidden H
  have HNa := hidden (gram_names a g w H.old.1 s1)
  have HZ : Hid (∀ (k : Nat) (t : Token), g.toks[k]? = some t → t.name.size ≤ maxLen) := hidden (fun k t h => hz _ (by unfold allNames; exact List.mem_append_left _ (List.mem_of_getElem? (tokNames_at h))))
  obtain ⟨⟨A1, k1, rfl, v1, m1⟩, ⟨A2, k2, rfl, v2, m2⟩, ⟨A3, k3, rfl, v3, m3⟩⟩ := H.gram.vals
  have HBad := hidden (fun k at_ more (w' : World) (h : Chk p (.slice A1 g.toks.length k1) (.slice A2 g.rules.length k2) (.slice A3 g.prods.length k3) g D0 w') => gram_bad p _ _ _ g D0 k at_ more w' h)
  have HNd := hidden (fun s v l at_ (w' : World) (h : Chk p (.slice A1 g.toks.length k1) (.slice A2 g.rules.length k2) (.slice A3 g.prods.length k3) g D0 w') T hR hT hs => gram_named p _ _ _ g D0 s v l at_ w' h T hR hT hs)
  obtain ⟨x0, x1, x2, x3, x4, x5, x6, x7⟩ := H.cells
  have hl := H.lt
  have hbp := But.refl p w
  have HHit := hidden (fun k (h1 : k < g.toks.length) (h2 : (tokD g k).kind ≠ 0) (h3 : ∀ j, j < k → (tokD g j).kind = 0) => first0_hit (n := g.toks.length) h1 h2 h3)
  have HMis := hidden (fun (h3 : ∀ j, j < g.toks.length → (tokD g j).kind = 0) => first0_miss h3)
  have HL1 := hidden (tokNames_len g)
  generalize firstD (tokD g) 0 g.toks.length = dd at *
  clear H x1 x2 x3 x4 x5 x6 x7
  unfold maxLen at m1
  go_enter Try.func68, Try.ntmps68
  go_wp2_with fail
  refine HNa.out.mono ?_
  rintro r w1 ⟨⟨u, rfl, HM⟩, hb1⟩
  have HC1 := hidden (HH.out.next hb1)
  have hz1 := hb1.size
  have HB1 := hidden (But.of_below (p := p) hb1)
  have hR : Rd w1 (fun k => w.heap.size ≤ k ∧ k < w1.heap.size) 1 u (tokNames g).length ((tokNames g).flatMap strC) := Mine.rd HM.out (fun _ _ h1 h2 => ⟨h1, h2⟩)
  obtain ⟨Au, ku, rfl, hu1, hu2⟩ := hR.val
  have HR1 := hidden hR
  have y0 := HC1.out.cells.1
  have hll := HL1.out
  unfold maxLen at hu2
  clear hb1 hR HM HNa HH x0 hbp
  go_wp2
  go_loopw [19] (fun ii wr => ∃ k : Nat, k ≤ g.toks.length ∧ ii = .int .i64 k ∧ Hid (∀ j, j < k → (tokD g j).kind = 0) ∧ Hid (But p w1 wr) ∧ Hid (Chk p (.slice A1 g.toks.length k1) (.slice A2 g.rules.length k2) (.slice A3 g.prods.length k3) g D0 wr)) (fun ii _ => g.toks.length - (intOf ii).toNat)
  case atStart => exact ⟨0, by omega, rfl, hidden (fun j h => by omega), hidden (But.refl _ _), HC1⟩
  case round =>
    clear HC1 y0
    obtain ⟨k, hk, rfl, HN, HB, HC⟩ := hrel
    by_cases hlt : k < g.toks.length
    · have hx := List.getElem?_eq_getElem hlt
      generalize g.toks[k] = t at *
      obtain ⟨b1, o1, l1, rfl, hT, hat, hin⟩ := HC.out.gram.1.at_ hx
      obtain ⟨A4, k4, rfl, _, _⟩ := hin.val
      have hT : b1 < wr.heap.size := Nat.lt_trans hT HC.out.lt
      have y0 := hat 0 _ rfl
      have y1 := hat 1 _ rfl
      have y2 := hat 2 _ rfl
      rw [Nat.add_zero] at y0
      rw [show tokR.k = 3 from rfl] at y0 y1 y2
      have HTD := hidden (tokD_at hx (e := nameErr t.name ((tokNames g).take k)) (rx := rxErr t.rex) rfl rfl)
      have HRx := hidden (fun (w' : World) (hb : But p wr w') => rx_check _ t.rex w' (Rd.mono (Rd.keeps hin hb.keeps) (fun _ h => Nat.lt_of_lt_of_le (Nat.lt_trans h HC.out.lt) hb.size)))
      generalize rxErr t.rex = rx at *
      have HZt := hidden (HZ.out k t hx)
      have HHk := hidden (fun h2 => HHit.out k hlt h2 HN.out)
      have HNx : Hid ((tokD g k).kind = 0 → ∀ j, j < k + 1 → (tokD g j).kind = 0) := hidden (fun h j hj => by
        by_cases e : j = k
        · subst e; exact h
        · exact HN.out j (by omega))
      have HRk : Hid (Rd wr (fun k => w.heap.size ≤ k ∧ k < w1.heap.size) 1 (.slice Au k ku) k (((tokNames g).take k).flatMap strC)) := hidden (by
        have h1 : Strs wr (fun k => w.heap.size ≤ k ∧ k < w1.heap.size) (.slice Au (tokNames g).length ku) (tokNames g) := HR1.out.keeps (HB.out.keepsT (fun k hk => by omega))
        exact strs_take h1 (by omega))
      have HRl : Hid (((tokNames g).take k).length = k) := hidden (by rw [List.length_take]; omega)
      have HCn := hidden (HC.out.alloc (.cells #[.string t.name, .slice A4 (tokR.m t) k4, .int .i64 t.cls] 47))
      have HBn := hidden (HB.out.alloc (.cells #[.string t.name, .slice A4 (tokR.m t) k4, .int .i64 t.cls] 47))
      have HRn := hidden (HRk.out.alloc (.cells #[.string t.name, .slice A4 (tokR.m t) k4, .int .i64 t.cls] 47))
      have HPn : Hid (Holds (wr.alloc (.cells #[.string t.name, .slice A4 (tokR.m t) k4, .int .i64 t.cls] 47)) wr.heap.size 47 #[.string t.name, .slice A4 (tokR.m t) k4, .int .i64 t.cls]) := hidden (Holds.new _ _ _)
      have hpr := HC.out.lt
      have hwr := HB.out.size
      obtain ⟨eb, hebd⟩ : ∃ eb : Bool, eb = decide (nameErr t.name ((tokNames g).take k) ≠ 0) := ⟨_, rfl⟩
      have HNk : Hid (∀ w', Chk p (.slice (some ⟨b1, o1, none⟩) g.toks.length k1) (.slice A2 g.rules.length k2) (.slice A3 g.prods.length k3) g D0 w' → Rd w' (fun k => w.heap.size ≤ k ∧ k < w1.heap.size) 1 (.slice Au k ku) k (((tokNames g).take k).flatMap strC) → wr.heap.size ≤ w'.heap.size →
          Calls Try.prog 106 #[.pointer (some ⟨p, 0, none⟩), .string t.name, .slice Au k ku, .int .i64 (k : Int)] w' fun r w'' => r = .returned (.bool eb) ∧ Chk p (.slice (some ⟨b1, o1, none⟩) g.toks.length k1) (.slice A2 g.rules.length k2) (.slice A3 g.prods.length k3) g (if nameErr t.name ((tokNames g).take k) ≠ 0 then ⟨nameErr t.name ((tokNames g).take k), k, 0⟩ else D0) w'' ∧ But p w' w'') := hidden (fun w' h1 h2 h3 => by
        rw [hebd]
        exact HNd.out t.name _ ((tokNames g).take k) k w' h1 (fun k => w.heap.size ≤ k ∧ k < w1.heap.size) (by unfold Strs; rw [HRl.out]; exact h2) (fun k hk => by omega) HZt.out)
      have HEb := hidden hebd
      clear hebd
      generalize nameErr t.name ((tokNames g).take k) = e at *
      have i1 : (0 : Int) ≤ (k : Int) := by omega
      have i2 : (k : Int) ≤ (ku : Int) := by omega
      clear hat hx hin
      go_wp2_with fail
      have x0 : (wr.alloc (.cells #[.string t.name, .slice A4 (tokR.m t) k4, .int .i64 t.cls] 47)).cell? ⟨wr.heap.size, 0, none⟩ = some (.string t.name) := HPn.out.cell 0
      go_region_held3 (fun w' => w'.cell? ⟨wr.heap.size, 0, none⟩ = some (.string t.name))
        (first | exact x0 | go_keep | exact (HPn.out.drew.but hb3 (by omega)).cell 0 | exact (HPn.out.but hb3 (by omega)).cell 0)
        (first | (go_at_call 106; refine (HNk.out _ (by first | exact HCn.out.drew | exact HCn.out) (by first | exact HRn.out.drew | exact HRn.out) (by simp)).mono ?_; rintro r w3 ⟨rfl, HC3, hb3⟩))
      have HB3 := hidden (HBn.out.drew.trans hb3)
      have HBr := hidden ((((But.refl p wr).alloc _).drew).trans hb3)
      have HP3 := hidden (HPn.out.drew.but hb3 (by omega))
      have hz3 : wr.heap.size < w3.heap.size := HP3.out.lt
      have HC3' := hidden HC3
      clear HC3 hb3 x0 y0 y1 y2 HCn HBn HRn HPn HNk HRk HRl HZt HC HB i1 i2
      by_cases he : e = 0
      · obtain rfl : eb = false := by rw [HEb.out]; simp [he]
        subst he
        have HC3 : Hid (Chk p (.slice (some ⟨b1, o1, none⟩) g.toks.length k1) (.slice A2 g.rules.length k2) (.slice A3 g.prods.length k3) g D0 w3) := HC3'
        have z1 : w3.cell? ⟨wr.heap.size, 1, none⟩ = some (.slice A4 (tokR.m t) k4) := HP3.out.cell 1
        clear HC3'
        go_wp2_with fail
        refine (HRx.out _ HBr.out).mono ?_
        rintro r w4 ⟨rfl, hb4⟩
        have HC4 := hidden (HC3.out.next hb4)
        have HB4 := hidden (HB3.out.next hb4)
        have HP4 := hidden (HP3.out.below hb4 hz3)
        have hz4 := HP4.out.lt
        clear hb4 HC3 HB3 HP3 z1 HRx HBr
        by_cases hr : rx = 0
        · subst hr
          have z2 : w4.cell? ⟨wr.heap.size, 2, none⟩ = some (.int .i64 t.cls) := HP4.out.cell 2
          by_cases hcl : t.cls < 0
          · have HE : Hid (tokD g k = ⟨1, k, 0⟩) := hidden (by rw [HTD.out, if_neg (by simp), if_neg (by simp), if_pos (Or.inl hcl)])
            have HD : Hid (dd = ⟨1, k, 0⟩) := hidden (by rw [← HE.out]; exact HHk.out (by rw [HE.out]; simp))
            go_wp2_with fail
            refine (HBad.out 1 _ _ _ HC4.out).mono ?_
            rintro r w5 ⟨rfl, HC5, hb5⟩
            have HF := hidden (ChkOut.mk_ (r := true) HD.out.symm (by rw [HD.out]; rfl) HC5 (HB1.out.trans (HB4.out.trans hb5)))
            clear HC5 hb5
            go_wp2
            go_ret
            exact HF.out
          by_cases hcl2 : 3 < t.cls
          · have HE : Hid (tokD g k = ⟨1, k, 0⟩) := hidden (by rw [HTD.out, if_neg (by simp), if_neg (by simp), if_pos (Or.inr hcl2)])
            have HD : Hid (dd = ⟨1, k, 0⟩) := hidden (by rw [← HE.out]; exact HHk.out (by rw [HE.out]; simp))
            go_wp2_with fail
            refine (HBad.out 1 _ _ _ HC4.out).mono ?_
            rintro r w5 ⟨rfl, HC5, hb5⟩
            have HF := hidden (ChkOut.mk_ (r := true) HD.out.symm (by rw [HD.out]; rfl) HC5 (HB1.out.trans (HB4.out.trans hb5)))
            clear HC5 hb5
            go_wp2
            go_ret
            exact HF.out
          have HE : Hid (tokD g k = D0) := hidden (by rw [HTD.out, if_neg (by simp), if_neg (by simp), if_neg (by omega)])
          have HN2 := hidden (HNx.out (by rw [HE.out]; rfl))
          clear HHk HNx HTD HE HN
          go_wp2
          go_roundw
          case rel => exact ⟨k + 1, by omega, by go_num, HN2, HB4, HC4⟩
          case measure => simp [intOf]; omega
        · have HE : Hid (tokD g k = ⟨9, k, rx⟩) := hidden (by rw [HTD.out, if_neg (by simp), if_pos hr])
          have HD : Hid (dd = ⟨9, k, rx⟩) := hidden (by rw [← HE.out]; exact HHk.out (by rw [HE.out]; simp))
          have qr : (rx != 0) = true := by rw [bne_iff_ne]; exact hr
          go_wp2_with fail
          refine (HBad.out 9 _ _ _ HC4.out).mono ?_
          rintro r w5 ⟨rfl, HC5, hb5⟩
          have HF := hidden (ChkOut.mk_ (r := true) HD.out.symm (by rw [HD.out]; rfl) HC5 (HB1.out.trans (HB4.out.trans hb5)))
          clear HC5 hb5
          go_wp2
          go_ret
          exact HF.out
      · have HE : Hid (tokD g k = ⟨e, k, 0⟩) := hidden (by rw [HTD.out, if_pos he])
        have HD : Hid (dd = ⟨e, k, 0⟩) := hidden (by rw [← HE.out]; exact HHk.out (by rw [HE.out]; exact he))
        have HC4 : Hid (Chk p (.slice (some ⟨b1, o1, none⟩) g.toks.length k1) (.slice A2 g.rules.length k2) (.slice A3 g.prods.length k3) g ⟨e, k, 0⟩ w3) := hidden (by have := HC3'.out; rwa [if_pos he] at this)
        have HF := hidden (ChkOut.mk_ (r := true) HD.out.symm (by rw [HD.out]; simp [he]) HC4.out (HB1.out.trans HB3.out))
        obtain rfl : eb = true := by rw [HEb.out]; simp [he]
        clear HC3' HC4
        go_wp2
        go_ret
        exact HF.out
    · obtain rfl : k = g.toks.length := by omega
      have HE := hidden (HMis.out HN.out)
      have HF := hidden (ChkOut.mk_ (r := false) HE.out.symm (by rw [HE.out]; rfl) HC.out (HB1.out.trans HB.out))
      clear HC HB HE
      go_wp2
      go_ret
      exact HF.out
end Go.Proofs.Ytaagkbgbghleiaa
