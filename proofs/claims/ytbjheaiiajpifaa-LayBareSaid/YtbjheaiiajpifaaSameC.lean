/-
  same: the tests in their order, and the first at which two trees differ.
-/
import Derived.Test.YtbjheaiiajpifaaSameB
import Derived.WalkMore
import Derived.Deep.LoopGhost
import Derived.Laws.EntriesVeiled
namespace Go.Proofs.Ytbjheaiiajpifaa.T
open Go.RowKit Go.Shelf

/-- The first number below n of which f holds. -/
def hitN (f : Nat → Bool) : Nat → Option Nat
  | 0 => none
  | n + 1 => match hitN f n with | some i => some i | none => if f n = true then some n else none
theorem hitN_none {f : Nat → Bool} : ∀ {n : Nat}, (∀ i, i < n → f i = false) → hitN f n = none := by
  intro n
  induction n with
  | zero => intro _; rfl
  | succ n ih =>
    intro h
    unfold hitN
    rw [ih (fun i hi => h i (by omega)), h n (by omega)]
    rfl
theorem hitN_some {f : Nat → Bool} {j : Nat} (hj : f j = true) (hb : ∀ i, i < j → f i = false) : ∀ {n : Nat}, j < n → hitN f n = some j := by
  intro n
  induction n with
  | zero => intro h; omega
  | succ n ih =>
    intro h
    unfold hitN
    by_cases e : j = n
    · subst e
      rw [hitN_none hb, hj]
      rfl
    · rw [ih (by omega)]

/-- Do two trees differ so at a place? -/
noncomputable def diffD (ts : List Token) (a b : List Node) (how i : Nat) : Bool := match how with
  | 4 => nodesD a b i
  | 3 => textsD a b i
  | 2 => notesD ts a b i
  | _ => blanksD a b i
noncomputable def firstFrom (ts : List Token) (a b : List Node) : Nat → Int × Int
  | 0 => (0, -1)
  | h + 1 => match hitN (diffD ts a b (h + 1)) (min a.length b.length) with | some i => (((h + 1 : Nat) : Int), (i : Int)) | none => firstFrom ts a b h
/-- In what two trees differ, and where first. -/
noncomputable def firstD40 (ts : List Token) (a b : List Node) : Int × Int := firstFrom ts a b 4
theorem firstFrom_hit {ts : List Token} {a b : List Node} {h j : Nat} (hj : j < min a.length b.length) (hd : diffD ts a b (h + 1) j = true) (hb : ∀ i, i < j → diffD ts a b (h + 1) i = false) : firstFrom ts a b (h + 1) = (((h + 1 : Nat) : Int), (j : Int)) := by
  unfold firstFrom
  rw [hitN_some hd hb hj]
theorem firstFrom_miss {ts : List Token} {a b : List Node} {h : Nat} (hb : ∀ i, i < min a.length b.length → diffD ts a b (h + 1) i = false) : firstFrom ts a b (h + 1) = firstFrom ts a b h := by
  conv => lhs; unfold firstFrom
  rw [hitN_none hb]

set_option maxRecDepth 20000 in
set_option maxHeartbeats 4000000 in
theorem two_tests (p : Nat) (w : World) :
    Calls Try.prog 78 #[.pointer (some ⟨p, 0, none⟩)] w fun r w' => r = .returned (.slice (some ⟨w.heap.size, 0, none⟩) 4 4) ∧ w.alloc (.cells #[.int .i64 4, .func (.func 94) #[.pointer (some ⟨p, 0, none⟩)] #[], .int .i64 3, .func (.func 47) #[.pointer (some ⟨p, 0, none⟩)] #[], .int .i64 2, .func (.func 95) #[.pointer (some ⟨p, 0, none⟩)] #[], .int .i64 1, .func (.func 48) #[.pointer (some ⟨p, 0, none⟩)] #[]] 166) = w' := by
  go_enter Try.func78, Try.ntmps78
  go_wp2
  go_ret
  exact ⟨rfl, rfl⟩

set_option maxRecDepth 20000 in
set_option maxHeartbeats 16000000 in
theorem two_first (p : Nat) (vt va vb : Value) (ts : List Token) (a b : List Node) (w : World) (H : TwoAt w p vt va vb ts a b) (g1 : a.length ≤ 140737488355) (g2 : b.length ≤ 140737488355) (f1 : ∀ x ∈ a, x.lead.length * 24 ≤ 140737488355328) (f2 : ∀ x ∈ b, x.lead.length * 24 ≤ 140737488355328) :
    Calls Try.prog 42 #[.pointer (some ⟨p, 0, none⟩)] w fun r w' => r = .returned (.tuple #[.int .i64 (firstD40 ts a b).1, .int .i64 (firstD40 ts a b).2]) ∧ Below w.heap.size w w' := by
  have HP := hidden (fun (w' : World) (hb : Below w.heap.size w w') => two_places p vt va vb ts a b w' (H.below hb))
  have H4 := hidden (fun (w' : World) (i : Nat) (hb : Below w.heap.size w w') (h1 : i < min a.length b.length) => two_nodes p vt va vb ts a b i w' (H.below hb) (by omega) (by omega) g1 g2)
  change Hid (∀ (w' : World) (i : Nat), Below w.heap.size w w' → i < min a.length b.length → Calls _ _ _ w' fun r w'' => r = .returned (.bool (diffD ts a b 4 i)) ∧ Below w'.heap.size w' w'') at H4
  have H3 := hidden (fun (w' : World) (i : Nat) (hb : Below w.heap.size w w') (h1 : i < min a.length b.length) => two_texts p vt va vb ts a b i w' (H.below hb) (by omega) (by omega))
  change Hid (∀ (w' : World) (i : Nat), Below w.heap.size w w' → i < min a.length b.length → Calls _ _ _ w' fun r w'' => r = .returned (.bool (diffD ts a b 3 i)) ∧ Below w'.heap.size w' w'') at H3
  have H2 := hidden (fun (w' : World) (i : Nat) (hb : Below w.heap.size w w') (h1 : i < min a.length b.length) => two_notes p vt va vb ts a b i w' (H.below hb) (by omega) (by omega) f1 f2)
  change Hid (∀ (w' : World) (i : Nat), Below w.heap.size w w' → i < min a.length b.length → Calls _ _ _ w' fun r w'' => r = .returned (.bool (diffD ts a b 2 i)) ∧ Below w'.heap.size w' w'') at H2
  have H1 := hidden (fun (w' : World) (i : Nat) (hb : Below w.heap.size w w') (h1 : i < min a.length b.length) => two_blanks p vt va vb ts a b i w' (H.below hb) (by omega) (by omega))
  change Hid (∀ (w' : World) (i : Nat), Below w.heap.size w w' → i < min a.length b.length → Calls _ _ _ w' fun r w'' => r = .returned (.bool (diffD ts a b 1 i)) ∧ Below w'.heap.size w' w'') at H1
  have HH := hidden (fun h j => @firstFrom_hit ts a b h j)
  have HMs := hidden (fun h => @firstFrom_miss ts a b h)
  have HF : Hid (firstD40 ts a b = firstFrom ts a b 4) := hidden rfl
  have HZ : Hid (firstFrom ts a b 0 = (0, -1)) := hidden rfl
  have hnn : min a.length b.length ≤ 140737488355 := by omega
  generalize firstD40 ts a b = R at *
  generalize diffD ts a b = D at *
  generalize firstFrom ts a b = F at *
  generalize min a.length b.length = n at *
  have hT := two_tests p w
  have hb0 : Below w.heap.size w (w.alloc (.cells #[.int .i64 4, .func (.func 94) #[.pointer (some ⟨p, 0, none⟩)] #[], .int .i64 3, .func (.func 47) #[.pointer (some ⟨p, 0, none⟩)] #[], .int .i64 2, .func (.func 95) #[.pointer (some ⟨p, 0, none⟩)] #[], .int .i64 1, .func (.func 48) #[.pointer (some ⟨p, 0, none⟩)] #[]] 166)) := (by repeat (first | (with_reducible exact Below.refl _ _) | (with_reducible assumption) | (with_reducible refine Below.drew ?_) | (with_reducible refine below_drewN ?_ _) | ((with_reducible refine below_alloc ?_ ?_); (focus (first | omega | (simp; done) | (simp; omega)))) | ((with_reducible refine below_set ?_ ?_); (focus (first | omega | (simp; done) | (simp; omega))))))
  have HR0 := hidden (Holds.new w 166 #[.int .i64 4, .func (.func 94) #[.pointer (some ⟨p, 0, none⟩)] #[], .int .i64 3, .func (.func 47) #[.pointer (some ⟨p, 0, none⟩)] #[], .int .i64 2, .func (.func 95) #[.pointer (some ⟨p, 0, none⟩)] #[], .int .i64 1, .func (.func 48) #[.pointer (some ⟨p, 0, none⟩)] #[]])
  clear H g1 g2 f1 f2
  go_enter Try.func42, Try.ntmps42
  go_wp2
  go_step3
  go_wp2_with fail
  go_step3
  go_wp2_with fail
  refine hT.mono ?_
  rintro r w1 ⟨rfl, rfl⟩
  clear hT
  go_wp2
  go_loopg [4, 5, 12] 4 (fun gh hh aa kk wr => ∃ k : Nat, k ≤ 4 ∧ gh = 4 - k ∧ hh = .int .i64 0 ∧ aa = .int .i64 (-1) ∧ kk = .int .i64 k ∧ Hid (R = F (4 - k)) ∧ Hid (Holds wr w.heap.size 166 #[.int .i64 4, .func (.func 94) #[.pointer (some ⟨p, 0, none⟩)] #[], .int .i64 3, .func (.func 47) #[.pointer (some ⟨p, 0, none⟩)] #[], .int .i64 2, .func (.func 95) #[.pointer (some ⟨p, 0, none⟩)] #[], .int .i64 1, .func (.func 48) #[.pointer (some ⟨p, 0, none⟩)] #[]]) ∧ Below w.heap.size w wr)
  case atStart => exact ⟨0, by omega, rfl, rfl, rfl, by go_num, HF, HR0, hb0⟩
  case round =>
    clear HF HR0 hb0
    obtain ⟨k, hk, rfl, rfl, rfl, rfl, HF, HR, hb⟩ := hrel
    have hzl := HR.out.lt
    obtain rfl | rfl | rfl | rfl | rfl : k = 0 ∨ k = 1 ∨ k = 2 ∨ k = 3 ∨ k = 4 := by omega
    · have y0 : wr.cell? ⟨w.heap.size, 0, none⟩ = some (.int .i64 4) := HR.out.cell 0
      have y1 : wr.cell? ⟨w.heap.size, 1, none⟩ = some (.func (.func 94) #[.pointer (some ⟨p, 0, none⟩)] #[]) := HR.out.cell 1
      have HF : Hid (R = F 4) := HF
      have HH4 := hidden (fun j => HH.out 3 j)
      have HM4 := hidden (HMs.out 3)
      change Hid (∀ j : Nat, j < n → D 4 j = true → (∀ i, i < j → D 4 i = false) → F 4 = ((4 : Int), (j : Int))) at HH4
      change Hid ((∀ i, i < n → D 4 i = false) → F 4 = F 3) at HM4
      generalize D 4 = d at *
      have hbn := hb.alloc (by omega) (.cells #[.int .i64 4, .func (.func 94) #[.pointer (some ⟨p, 0, none⟩)] #[]] 166)
      have HRn := hidden (HR.out.alloc (.cells #[.int .i64 4, .func (.func 94) #[.pointer (some ⟨p, 0, none⟩)] #[]] 166))
      have HBx := hidden (Holds.new wr 166 #[.int .i64 4, .func (.func 94) #[.pointer (some ⟨p, 0, none⟩)] #[]])
      clear HR
      go_wp2_with fail
      refine (HP.out _ hbn).mono ?_
      rintro r w5 ⟨rfl, hb5⟩
      replace HRn := hidden (HRn.out.below hb5 (by simp; omega))
      replace HBx := hidden (HBx.out.below hb5 (by simp))
      replace hbn := hbn.trans (hb5.mono hbn.size)
      clear hb5 y0 y1
      go_wp2
      go_loopg [4, 5, 18] n (fun gj hh aa jj wx => ∃ j : Nat, j ≤ n ∧ gj = n - j ∧ hh = .int .i64 0 ∧ aa = .int .i64 (-1) ∧ jj = .int .i64 j ∧ Hid (∀ i, i < j → d i = false) ∧ Hid (Holds wx w.heap.size 166 #[.int .i64 4, .func (.func 94) #[.pointer (some ⟨p, 0, none⟩)] #[], .int .i64 3, .func (.func 47) #[.pointer (some ⟨p, 0, none⟩)] #[], .int .i64 2, .func (.func 95) #[.pointer (some ⟨p, 0, none⟩)] #[], .int .i64 1, .func (.func 48) #[.pointer (some ⟨p, 0, none⟩)] #[]]) ∧ Hid (Holds wx wr.heap.size 166 #[.int .i64 4, .func (.func 94) #[.pointer (some ⟨p, 0, none⟩)] #[]]) ∧ Below w.heap.size w wx)
      case atStart => exact ⟨0, by omega, rfl, rfl, rfl, by go_num, hidden (fun i h => by omega), HRn, HBx, hbn⟩
      case round =>
        clear HRn HBx hbn
        obtain ⟨j, hj, rfl, rfl, rfl, rfl, HN, HRx, HBx, hbx⟩ := hrel
        by_cases hlt : j < n
        · have HC := hidden (H4.out _ j hbx hlt)
          have z0 := HBx.out.c20
          have z1 := HBx.out.c21
          have HHj := hidden (fun h => HH4.out j hlt h HN.out)
          have HNj : Hid (d j = false → ∀ i, i < j + 1 → d i = false) := hidden (fun h i hi => by
            by_cases e : i = j
            · subst e; exact h
            · exact HN.out i (by omega))
          clear HH4 HN HM4
          generalize d j = dj at *
          go_wp2_with fail
          refine HC.out.mono ?_
          rintro r w6 ⟨rfl, hb6⟩
          have HRy := hidden (HRx.out.below hb6 HRx.out.lt)
          have HBy := hidden (HBx.out.below hb6 HBx.out.lt)
          have z0' := HBy.out.c20
          have z1' := HBy.out.c21
          replace hbx := hbx.trans (hb6.mono hbx.size)
          clear hb6 z0 z1 HC HRx HBx
          cases dj
          · have HN2 := hidden (HNj.out rfl)
            clear HNj HHj
            go_wp2
            go_roundg (n - (j + 1))
            case measure => omega
            case rel => exact ⟨j + 1, by omega, rfl, rfl, rfl, by go_num, HN2, HRy, HBy, hbx⟩
          · have HE : Hid (R = (4, (j : Int))) := hidden (by rw [HF.out, HHj.out rfl])
            clear HNj HHj
            go_wp2
            (try rw [Exit.noGoto_ret])
            go_ret2
            exact ⟨by rw [HE.out]; rfl, hbx⟩
        · obtain rfl : j = n := by omega
          have HF2 : Hid (R = F 3) := hidden (by rw [HF.out, HM4.out HN.out])
          clear HH4 HM4 HN HF
          go_wp2
          go_roundg (4 - 1)
          case measure => omega
          case rel => exact ⟨1, by omega, rfl, rfl, rfl, by go_num, HF2, HRx, hbx⟩
    · have y0 : wr.cell? ⟨w.heap.size, 2, none⟩ = some (.int .i64 3) := HR.out.cell 2
      have y1 : wr.cell? ⟨w.heap.size, 3, none⟩ = some (.func (.func 47) #[.pointer (some ⟨p, 0, none⟩)] #[]) := HR.out.cell 3
      have HF : Hid (R = F 3) := HF
      have HH4 := hidden (fun j => HH.out 2 j)
      have HM4 := hidden (HMs.out 2)
      change Hid (∀ j : Nat, j < n → D 3 j = true → (∀ i, i < j → D 3 i = false) → F 3 = ((3 : Int), (j : Int))) at HH4
      change Hid ((∀ i, i < n → D 3 i = false) → F 3 = F 2) at HM4
      generalize D 3 = d at *
      have hbn := hb.alloc (by omega) (.cells #[.int .i64 3, .func (.func 47) #[.pointer (some ⟨p, 0, none⟩)] #[]] 166)
      have HRn := hidden (HR.out.alloc (.cells #[.int .i64 3, .func (.func 47) #[.pointer (some ⟨p, 0, none⟩)] #[]] 166))
      have HBx := hidden (Holds.new wr 166 #[.int .i64 3, .func (.func 47) #[.pointer (some ⟨p, 0, none⟩)] #[]])
      clear HR
      go_wp2_with fail
      refine (HP.out _ hbn).mono ?_
      rintro r w5 ⟨rfl, hb5⟩
      replace HRn := hidden (HRn.out.below hb5 (by simp; omega))
      replace HBx := hidden (HBx.out.below hb5 (by simp))
      replace hbn := hbn.trans (hb5.mono hbn.size)
      clear hb5 y0 y1
      go_wp2
      go_loopg [4, 5, 18] n (fun gj hh aa jj wx => ∃ j : Nat, j ≤ n ∧ gj = n - j ∧ hh = .int .i64 0 ∧ aa = .int .i64 (-1) ∧ jj = .int .i64 j ∧ Hid (∀ i, i < j → d i = false) ∧ Hid (Holds wx w.heap.size 166 #[.int .i64 4, .func (.func 94) #[.pointer (some ⟨p, 0, none⟩)] #[], .int .i64 3, .func (.func 47) #[.pointer (some ⟨p, 0, none⟩)] #[], .int .i64 2, .func (.func 95) #[.pointer (some ⟨p, 0, none⟩)] #[], .int .i64 1, .func (.func 48) #[.pointer (some ⟨p, 0, none⟩)] #[]]) ∧ Hid (Holds wx wr.heap.size 166 #[.int .i64 3, .func (.func 47) #[.pointer (some ⟨p, 0, none⟩)] #[]]) ∧ Below w.heap.size w wx)
      case atStart => exact ⟨0, by omega, rfl, rfl, rfl, by go_num, hidden (fun i h => by omega), HRn, HBx, hbn⟩
      case round =>
        clear HRn HBx hbn
        obtain ⟨j, hj, rfl, rfl, rfl, rfl, HN, HRx, HBx, hbx⟩ := hrel
        by_cases hlt : j < n
        · have HC := hidden (H3.out _ j hbx hlt)
          have z0 := HBx.out.c20
          have z1 := HBx.out.c21
          have HHj := hidden (fun h => HH4.out j hlt h HN.out)
          have HNj : Hid (d j = false → ∀ i, i < j + 1 → d i = false) := hidden (fun h i hi => by
            by_cases e : i = j
            · subst e; exact h
            · exact HN.out i (by omega))
          clear HH4 HN HM4
          generalize d j = dj at *
          go_wp2_with fail
          refine HC.out.mono ?_
          rintro r w6 ⟨rfl, hb6⟩
          have HRy := hidden (HRx.out.below hb6 HRx.out.lt)
          have HBy := hidden (HBx.out.below hb6 HBx.out.lt)
          have z0' := HBy.out.c20
          have z1' := HBy.out.c21
          replace hbx := hbx.trans (hb6.mono hbx.size)
          clear hb6 z0 z1 HC HRx HBx
          cases dj
          · have HN2 := hidden (HNj.out rfl)
            clear HNj HHj
            go_wp2
            go_roundg (n - (j + 1))
            case measure => omega
            case rel => exact ⟨j + 1, by omega, rfl, rfl, rfl, by go_num, HN2, HRy, HBy, hbx⟩
          · have HE : Hid (R = (3, (j : Int))) := hidden (by rw [HF.out, HHj.out rfl])
            clear HNj HHj
            go_wp2
            (try rw [Exit.noGoto_ret])
            go_ret2
            exact ⟨by rw [HE.out]; rfl, hbx⟩
        · obtain rfl : j = n := by omega
          have HF2 : Hid (R = F 2) := hidden (by rw [HF.out, HM4.out HN.out])
          clear HH4 HM4 HN HF
          go_wp2
          go_roundg (4 - 2)
          case measure => omega
          case rel => exact ⟨2, by omega, rfl, rfl, rfl, by go_num, HF2, HRx, hbx⟩
    · have y0 : wr.cell? ⟨w.heap.size, 4, none⟩ = some (.int .i64 2) := HR.out.cell 4
      have y1 : wr.cell? ⟨w.heap.size, 5, none⟩ = some (.func (.func 95) #[.pointer (some ⟨p, 0, none⟩)] #[]) := HR.out.cell 5
      have HF : Hid (R = F 2) := HF
      have HH4 := hidden (fun j => HH.out 1 j)
      have HM4 := hidden (HMs.out 1)
      change Hid (∀ j : Nat, j < n → D 2 j = true → (∀ i, i < j → D 2 i = false) → F 2 = ((2 : Int), (j : Int))) at HH4
      change Hid ((∀ i, i < n → D 2 i = false) → F 2 = F 1) at HM4
      generalize D 2 = d at *
      have hbn := hb.alloc (by omega) (.cells #[.int .i64 2, .func (.func 95) #[.pointer (some ⟨p, 0, none⟩)] #[]] 166)
      have HRn := hidden (HR.out.alloc (.cells #[.int .i64 2, .func (.func 95) #[.pointer (some ⟨p, 0, none⟩)] #[]] 166))
      have HBx := hidden (Holds.new wr 166 #[.int .i64 2, .func (.func 95) #[.pointer (some ⟨p, 0, none⟩)] #[]])
      clear HR
      go_wp2_with fail
      refine (HP.out _ hbn).mono ?_
      rintro r w5 ⟨rfl, hb5⟩
      replace HRn := hidden (HRn.out.below hb5 (by simp; omega))
      replace HBx := hidden (HBx.out.below hb5 (by simp))
      replace hbn := hbn.trans (hb5.mono hbn.size)
      clear hb5 y0 y1
      go_wp2
      go_loopg [4, 5, 18] n (fun gj hh aa jj wx => ∃ j : Nat, j ≤ n ∧ gj = n - j ∧ hh = .int .i64 0 ∧ aa = .int .i64 (-1) ∧ jj = .int .i64 j ∧ Hid (∀ i, i < j → d i = false) ∧ Hid (Holds wx w.heap.size 166 #[.int .i64 4, .func (.func 94) #[.pointer (some ⟨p, 0, none⟩)] #[], .int .i64 3, .func (.func 47) #[.pointer (some ⟨p, 0, none⟩)] #[], .int .i64 2, .func (.func 95) #[.pointer (some ⟨p, 0, none⟩)] #[], .int .i64 1, .func (.func 48) #[.pointer (some ⟨p, 0, none⟩)] #[]]) ∧ Hid (Holds wx wr.heap.size 166 #[.int .i64 2, .func (.func 95) #[.pointer (some ⟨p, 0, none⟩)] #[]]) ∧ Below w.heap.size w wx)
      case atStart => exact ⟨0, by omega, rfl, rfl, rfl, by go_num, hidden (fun i h => by omega), HRn, HBx, hbn⟩
      case round =>
        clear HRn HBx hbn
        obtain ⟨j, hj, rfl, rfl, rfl, rfl, HN, HRx, HBx, hbx⟩ := hrel
        by_cases hlt : j < n
        · have HC := hidden (H2.out _ j hbx hlt)
          have z0 := HBx.out.c20
          have z1 := HBx.out.c21
          have HHj := hidden (fun h => HH4.out j hlt h HN.out)
          have HNj : Hid (d j = false → ∀ i, i < j + 1 → d i = false) := hidden (fun h i hi => by
            by_cases e : i = j
            · subst e; exact h
            · exact HN.out i (by omega))
          clear HH4 HN HM4
          generalize d j = dj at *
          go_wp2_with fail
          refine HC.out.mono ?_
          rintro r w6 ⟨rfl, hb6⟩
          have HRy := hidden (HRx.out.below hb6 HRx.out.lt)
          have HBy := hidden (HBx.out.below hb6 HBx.out.lt)
          have z0' := HBy.out.c20
          have z1' := HBy.out.c21
          replace hbx := hbx.trans (hb6.mono hbx.size)
          clear hb6 z0 z1 HC HRx HBx
          cases dj
          · have HN2 := hidden (HNj.out rfl)
            clear HNj HHj
            go_wp2
            go_roundg (n - (j + 1))
            case measure => omega
            case rel => exact ⟨j + 1, by omega, rfl, rfl, rfl, by go_num, HN2, HRy, HBy, hbx⟩
          · have HE : Hid (R = (2, (j : Int))) := hidden (by rw [HF.out, HHj.out rfl])
            clear HNj HHj
            go_wp2
            (try rw [Exit.noGoto_ret])
            go_ret2
            exact ⟨by rw [HE.out]; rfl, hbx⟩
        · obtain rfl : j = n := by omega
          have HF2 : Hid (R = F 1) := hidden (by rw [HF.out, HM4.out HN.out])
          clear HH4 HM4 HN HF
          go_wp2
          go_roundg (4 - 3)
          case measure => omega
          case rel => exact ⟨3, by omega, rfl, rfl, rfl, by go_num, HF2, HRx, hbx⟩
    · have y0 : wr.cell? ⟨w.heap.size, 6, none⟩ = some (.int .i64 1) := HR.out.cell 6
      have y1 : wr.cell? ⟨w.heap.size, 7, none⟩ = some (.func (.func 48) #[.pointer (some ⟨p, 0, none⟩)] #[]) := HR.out.cell 7
      have HF : Hid (R = F 1) := HF
      have HH4 := hidden (fun j => HH.out 0 j)
      have HM4 := hidden (HMs.out 0)
      change Hid (∀ j : Nat, j < n → D 1 j = true → (∀ i, i < j → D 1 i = false) → F 1 = ((1 : Int), (j : Int))) at HH4
      change Hid ((∀ i, i < n → D 1 i = false) → F 1 = F 0) at HM4
      generalize D 1 = d at *
      have hbn := hb.alloc (by omega) (.cells #[.int .i64 1, .func (.func 48) #[.pointer (some ⟨p, 0, none⟩)] #[]] 166)
      have HRn := hidden (HR.out.alloc (.cells #[.int .i64 1, .func (.func 48) #[.pointer (some ⟨p, 0, none⟩)] #[]] 166))
      have HBx := hidden (Holds.new wr 166 #[.int .i64 1, .func (.func 48) #[.pointer (some ⟨p, 0, none⟩)] #[]])
      clear HR
      go_wp2_with fail
      refine (HP.out _ hbn).mono ?_
      rintro r w5 ⟨rfl, hb5⟩
      replace HRn := hidden (HRn.out.below hb5 (by simp; omega))
      replace HBx := hidden (HBx.out.below hb5 (by simp))
      replace hbn := hbn.trans (hb5.mono hbn.size)
      clear hb5 y0 y1
      go_wp2
      go_loopg [4, 5, 18] n (fun gj hh aa jj wx => ∃ j : Nat, j ≤ n ∧ gj = n - j ∧ hh = .int .i64 0 ∧ aa = .int .i64 (-1) ∧ jj = .int .i64 j ∧ Hid (∀ i, i < j → d i = false) ∧ Hid (Holds wx w.heap.size 166 #[.int .i64 4, .func (.func 94) #[.pointer (some ⟨p, 0, none⟩)] #[], .int .i64 3, .func (.func 47) #[.pointer (some ⟨p, 0, none⟩)] #[], .int .i64 2, .func (.func 95) #[.pointer (some ⟨p, 0, none⟩)] #[], .int .i64 1, .func (.func 48) #[.pointer (some ⟨p, 0, none⟩)] #[]]) ∧ Hid (Holds wx wr.heap.size 166 #[.int .i64 1, .func (.func 48) #[.pointer (some ⟨p, 0, none⟩)] #[]]) ∧ Below w.heap.size w wx)
      case atStart => exact ⟨0, by omega, rfl, rfl, rfl, by go_num, hidden (fun i h => by omega), HRn, HBx, hbn⟩
      case round =>
        clear HRn HBx hbn
        obtain ⟨j, hj, rfl, rfl, rfl, rfl, HN, HRx, HBx, hbx⟩ := hrel
        by_cases hlt : j < n
        · have HC := hidden (H1.out _ j hbx hlt)
          have z0 := HBx.out.c20
          have z1 := HBx.out.c21
          have HHj := hidden (fun h => HH4.out j hlt h HN.out)
          have HNj : Hid (d j = false → ∀ i, i < j + 1 → d i = false) := hidden (fun h i hi => by
            by_cases e : i = j
            · subst e; exact h
            · exact HN.out i (by omega))
          clear HH4 HN HM4
          generalize d j = dj at *
          go_wp2_with fail
          refine HC.out.mono ?_
          rintro r w6 ⟨rfl, hb6⟩
          have HRy := hidden (HRx.out.below hb6 HRx.out.lt)
          have HBy := hidden (HBx.out.below hb6 HBx.out.lt)
          have z0' := HBy.out.c20
          have z1' := HBy.out.c21
          replace hbx := hbx.trans (hb6.mono hbx.size)
          clear hb6 z0 z1 HC HRx HBx
          cases dj
          · have HN2 := hidden (HNj.out rfl)
            clear HNj HHj
            go_wp2
            go_roundg (n - (j + 1))
            case measure => omega
            case rel => exact ⟨j + 1, by omega, rfl, rfl, rfl, by go_num, HN2, HRy, HBy, hbx⟩
          · have HE : Hid (R = (1, (j : Int))) := hidden (by rw [HF.out, HHj.out rfl])
            clear HNj HHj
            go_wp2
            (try rw [Exit.noGoto_ret])
            go_ret2
            exact ⟨by rw [HE.out]; rfl, hbx⟩
        · obtain rfl : j = n := by omega
          have HF2 : Hid (R = F 0) := hidden (by rw [HF.out, HM4.out HN.out])
          clear HH4 HM4 HN HF
          go_wp2
          go_roundg (4 - 4)
          case measure => omega
          case rel => exact ⟨4, by omega, rfl, rfl, rfl, by go_num, HF2, HRx, hbx⟩
    · have HE : Hid (R = (0, -1)) := hidden (by rw [HF.out, ← HZ.out])
      go_wp2
      (try rw [Exit.noGoto_ret])
      go_ret2
      exact ⟨by rw [HE.out]; rfl, hb⟩
end Go.Proofs.Ytbjheaiiajpifaa.T
