/-
  Where a path leads: trail.Find, and the document's Find.
-/
import Derived.Test.YtdbbjlphlbndkaaDoorTrailRef
import Derived.Test.YtdbbjlphlbndkaaDoorPathP
import Derived.Test.YtdbbjlphlbndkaaDoorTrailU
namespace Go.Proofs.YtdbbjlphlbndkaaDoor.T
open Go.RowKit Go.Shelf

def goRes (t : List Node) (u : Nat) (l : List Int) : Int × Bool := match goPath t u l with | some i => ((i : Int), true) | none => (0, false)
theorem goRes_nil (t : List Node) (u : Nat) : goRes t u [] = ((u : Int), true) := rfl
theorem goRes_out {t : List Node} {u : Nat} {n : Int} {l : List Int} (h : ¬ (0 ≤ n ∧ n < (kidsL t u).length)) : goRes t u (n :: l) = (0, false) := by
  unfold goRes
  rw [goPath, if_neg h]
theorem goRes_in {t : List Node} {u k : Nat} {n : Nat} {l : List Int} (h : (kidsL t u)[n]? = some k) : goRes t u ((n : Int) :: l) = goRes t k l := by
  unfold goRes
  have hl := (List.getElem?_eq_some_iff.1 h).1
  rw [goPath, if_pos ⟨by omega, by omega⟩, Int.toNat_natCast, List.getD_eq_getElem?_getD, h]
  rfl
theorem findT_tree {t : List Node} (h : treeB t = true) (l : List Int) : findT t l = goRes t 0 l := by
  unfold findT goRes
  rw [if_pos h]
  cases goPath t 0 l <;> rfl
theorem findT_not {t : List Node} (h : treeB t = false) (l : List Int) : findT t l = (0, false) := by
  unfold findT
  rw [h, if_neg (by decide)]
theorem drop_next {α : Type} {l : List α} {k : Nat} {x : α} (h : l[k]? = some x) : l.drop k = x :: l.drop (k + 1) := by
  obtain ⟨hk, e⟩ := List.getElem?_eq_some_iff.1 h
  rw [List.drop_eq_getElem_cons hk, e]

set_option maxRecDepth 20000 in
set_option maxHeartbeats 8000000 in
theorem trail_Find (v pv : Value) (t : List Node) (l : List Int) (w : World) (h4 : t.length ≤ 140737488355) (hN : Nds w (Old w) v t) (hP : Ints w (Old w) pv l) :
    Calls Tryd.prog 16 #[v, pv] w fun r w' => r = .returned (.tuple #[.int .i64 (findT t l).1, .bool (findT t l).2]) ∧ Below w.heap.size w w' := by
  have HR := hidden (arena_right v t w (by omega) hN)
  have HK := hidden (fun (w' : World) (k : Nat) (hb : Below w.heap.size w w') => arena_Kids v t k w' h4 (hN.old hb))
  have HP := hidden (fun (w' : World) (hb : Below w.heap.size w w') => Rd.old hP hb)
  obtain ⟨A, c, rfl, hc1, hc2⟩ := hN.value
  obtain ⟨A2, c2, rfl, hd1, hd2⟩ := hP.val
  unfold maxLen at hc2 hd2
  cases ht : treeB t with
  | false =>
    rw [findT_not ht]
    rw [ht] at HR
    clear hN hP
    go_enter Tryd.func16, Tryd.ntmps16
    go_wp2_with fail
    refine HR.out.mono ?_
    rintro r w2 ⟨rfl, hb⟩
    go_wp2
    go_ret2
    exact ⟨rfl, hb⟩
  | true =>
    rw [ht] at HR
    have hT := treeB_iff.1 ht
    have HT := hidden hT
    have h0 := tree_len hT
    obtain ⟨res, hres⟩ : ∃ res, res = findT t l := ⟨_, rfl⟩
    rw [← hres]
    have HR0 : Hid (res = goRes t 0 (l.drop 0)) := hidden (by rw [hres, findT_tree ht]; rfl)
    have HEnd : Hid (∀ u, goRes t u (l.drop l.length) = ((u : Int), true)) := hidden (fun u => by rw [List.drop_length]; exact goRes_nil t u)
    have HDr := hidden (fun k x (h : l[k]? = some x) => drop_next h)
    clear hN hP hT hres ht
    go_enter Tryd.func16, Tryd.ntmps16
    go_wp2_with fail
    refine HR.out.mono ?_
    rintro r w2 ⟨rfl, hb⟩
    clear HR
    go_wp2
    go_loopg [6, 15] l.length (fun gh aa kk wr => ∃ k u : Nat, k ≤ l.length ∧ gh = l.length - k ∧ aa = .int .i64 u ∧ kk = .int .i64 k ∧ u < t.length ∧ Hid (res = goRes t u (l.drop k)) ∧ Below w.heap.size w wr)
    case atStart => exact ⟨0, 0, by omega, rfl, by go_num, by go_num, h0, HR0, hb⟩
    case round =>
      clear hb HR0
      obtain ⟨k, u, hk, rfl, rfl, rfl, hu, HU, hb⟩ := hrel
      by_cases hlt : k < l.length
      · have hx := List.getElem?_eq_getElem hlt
        have HD := hidden (HDr.out k _ hx)
        generalize l[k] = n at *
        have HKu := hidden (HK.out wr u hb)
        rw [kidsOf_in HT.out hu] at HKu
        have hkl := kidsL_len (t := t) u
        have hsz := (tree_node HT.out hu).2.1
        have HOut := hidden (fun (h : ¬ (0 ≤ n ∧ n < (kidsL t u).length)) => (by rw [HU.out, HD.out]; exact goRes_out h : res = (0, false)))
        have HIn := hidden (fun (m x : Nat) (e : n = (m : Int)) (h : (kidsL t u)[m]? = some x) => (by rw [HU.out, HD.out, e]; exact goRes_in h : res = goRes t x (l.drop (k + 1))))
        have HLt := hidden (fun (m x : Nat) (h : (kidsL t u)[m]? = some x) => (by
          obtain ⟨h3, h4, h5⟩ := kid_up HT.out hu (List.mem_of_getElem? h)
          have := tree_step HT.out hu h4 h5
          exact this.1 : x < t.length))
        generalize kidsL t u = L at *
        obtain ⟨b0, o0, rfl, _, x0⟩ := row_at (HP.out _ hb) hx
        have HXk := hidden hx
        clear hx HD HU
        go_wp2_with fail
        refine HKu.out.mono ?_
        rintro r w3 ⟨⟨ku, rfl, HM⟩, hb3⟩
        have HRd := hidden (HM.out.rd (T := fun _ => True) (fun _ _ _ _ => trivial))
        obtain ⟨A3, c3, rfl⟩ := HM.out.value
        replace hb := hb.trans (hb3.mono hb.size)
        clear HKu HM hb3 x0
        obtain ⟨b5, o5, e5, _, x0⟩ := row_at (HP.out _ hb) HXk.out
        cases e5
        clear HXk
        by_cases h0n : n < 0
        · have q0 : decide (n < 0) = true := decide_eq_true h0n
          have he := HOut.out (by omega)
          clear HOut HIn
          go_wp2
          go_ret2
          exact ⟨by rw [he]; rfl, hb⟩
        · have q0 : decide (n < 0) = false := decide_eq_false h0n
          by_cases h1n : (L.length : Int) ≤ n
          · have q1 : decide ((L.length : Int) ≤ n) = true := decide_eq_true h1n
            have he := HOut.out (by omega)
            clear HOut HIn
            go_wp2
            go_ret2
            exact ⟨by rw [he]; rfl, hb⟩
          · obtain ⟨m, rfl⟩ : ∃ m : Nat, n = (m : Int) := ⟨n.toNat, by omega⟩
            have q1 : decide ((L.length : Int) ≤ (m : Int)) = false := decide_eq_false h1n
            have hml : m < L.length := by omega
            have hx := List.getElem?_eq_getElem hml
            have HI2 := hidden (HIn.out m _ rfl hx)
            have hxt := HLt.out m _ hx
            generalize L[m] = x at *
            obtain ⟨b3, o3, rfl, _, y0⟩ := HRd.out.ints_at hx
            clear HOut HIn HLt hx
            go_wp2
            go_roundg (l.length - (k + 1))
            case measure => omega
            case rel => exact ⟨k + 1, x, by omega, rfl, by go_num, by go_num, hxt, HI2, hb⟩
      · obtain rfl : k = l.length := by omega
        have he := HU.out.trans (HEnd.out u)
        clear HEnd HU HK HP
        go_wp2
        go_ret2
        exact ⟨by rw [he]; rfl, hb⟩

set_option maxRecDepth 20000 in
set_option maxHeartbeats 8000000 in
theorem ref_Find32g (v pv : Value) (t : List Node) (l : List Int) (w : World) (h4 : t.length ≤ 140737488355) (hN : Nds w (Old w) v t) (hP : Ints w (Old w) pv l) :
    Calls Tryd.prog 17 #[v, pv] w fun r w' => r = .returned (.tuple #[.int .i64 (findT t l).1, .bool (findT t l).2]) ∧ Below w.heap.size w w' := by
  have HR := hidden (ref_right v t w (by omega) hN)
  have HK := hidden (fun (w' : World) (k : Nat) (hb : Below w.heap.size w w') => ref_kids v t k w' h4 (hN.old hb))
  have HP := hidden (fun (w' : World) (hb : Below w.heap.size w w') => Rd.old hP hb)
  obtain ⟨A, c, rfl, hc1, hc2⟩ := hN.value
  obtain ⟨A2, c2, rfl, hd1, hd2⟩ := hP.val
  unfold maxLen at hc2 hd2
  cases ht : treeB t with
  | false =>
    rw [findT_not ht]
    rw [ht] at HR
    clear hN hP
    go_enter Tryd.func17, Tryd.ntmps17
    go_wp2_with fail
    refine HR.out.mono ?_
    rintro r w2 ⟨rfl, hb⟩
    go_wp2
    go_ret2
    exact ⟨rfl, hb⟩
  | true =>
    rw [ht] at HR
    have hT := treeB_iff.1 ht
    have HT := hidden hT
    have h0 := tree_len hT
    obtain ⟨res, hres⟩ : ∃ res, res = findT t l := ⟨_, rfl⟩
    rw [← hres]
    have HR0 : Hid (res = goRes t 0 (l.drop 0)) := hidden (by rw [hres, findT_tree ht]; rfl)
    have HEnd : Hid (∀ u, goRes t u (l.drop l.length) = ((u : Int), true)) := hidden (fun u => by rw [List.drop_length]; exact goRes_nil t u)
    have HDr := hidden (fun k x (h : l[k]? = some x) => drop_next h)
    clear hN hP hT hres ht
    go_enter Tryd.func17, Tryd.ntmps17
    go_wp2_with fail
    refine HR.out.mono ?_
    rintro r w2 ⟨rfl, hb⟩
    clear HR
    go_wp2
    go_loopg [6, 7] l.length (fun gh aa kk wr => ∃ k u : Nat, k ≤ l.length ∧ gh = l.length - k ∧ aa = .int .i64 u ∧ kk = .int .i64 k ∧ u < t.length ∧ Hid (res = goRes t u (l.drop k)) ∧ Below w.heap.size w wr)
    case atStart => exact ⟨0, 0, by omega, rfl, by go_num, by go_num, h0, HR0, hb⟩
    case round =>
      clear hb HR0
      obtain ⟨k, u, hk, rfl, rfl, rfl, hu, HU, hb⟩ := hrel
      by_cases hlt : k < l.length
      · have hx := List.getElem?_eq_getElem hlt
        have HD := hidden (HDr.out k _ hx)
        generalize l[k] = n at *
        have HKu := hidden (HK.out wr u hb)
        rw [kidsOf_in HT.out hu] at HKu
        have hkl := kidsL_len (t := t) u
        have hsz := (tree_node HT.out hu).2.1
        have HOut := hidden (fun (h : ¬ (0 ≤ n ∧ n < (kidsL t u).length)) => (by rw [HU.out, HD.out]; exact goRes_out h : res = (0, false)))
        have HIn := hidden (fun (m x : Nat) (e : n = (m : Int)) (h : (kidsL t u)[m]? = some x) => (by rw [HU.out, HD.out, e]; exact goRes_in h : res = goRes t x (l.drop (k + 1))))
        have HLt := hidden (fun (m x : Nat) (h : (kidsL t u)[m]? = some x) => (by
          obtain ⟨h3, h4, h5⟩ := kid_up HT.out hu (List.mem_of_getElem? h)
          have := tree_step HT.out hu h4 h5
          exact this.1 : x < t.length))
        generalize kidsL t u = L at *
        obtain ⟨b0, o0, rfl, _, x0⟩ := row_at (HP.out _ hb) hx
        have HXk := hidden hx
        clear hx HD HU
        go_wp2_with fail
        refine HKu.out.mono ?_
        rintro r w3 ⟨⟨ku, rfl, HM⟩, hb3⟩
        have HRd := hidden (HM.out.rd (T := fun _ => True) (fun _ _ _ _ => trivial))
        obtain ⟨A3, c3, rfl⟩ := HM.out.value
        replace hb := hb.trans (hb3.mono hb.size)
        clear HKu HM hb3 x0
        obtain ⟨b5, o5, e5, _, x0⟩ := row_at (HP.out _ hb) HXk.out
        cases e5
        clear HXk
        by_cases h0n : n < 0
        · have q0 : decide (n < 0) = true := decide_eq_true h0n
          have he := HOut.out (by omega)
          clear HOut HIn
          go_wp2
          go_ret2
          exact ⟨by rw [he]; rfl, hb⟩
        · have q0 : decide (n < 0) = false := decide_eq_false h0n
          by_cases h1n : (L.length : Int) ≤ n
          · have q1 : decide ((L.length : Int) ≤ n) = true := decide_eq_true h1n
            have he := HOut.out (by omega)
            clear HOut HIn
            go_wp2
            go_ret2
            exact ⟨by rw [he]; rfl, hb⟩
          · obtain ⟨m, rfl⟩ : ∃ m : Nat, n = (m : Int) := ⟨n.toNat, by omega⟩
            have q1 : decide ((L.length : Int) ≤ (m : Int)) = false := decide_eq_false h1n
            have hml : m < L.length := by omega
            have hx := List.getElem?_eq_getElem hml
            have HI2 := hidden (HIn.out m _ rfl hx)
            have hxt := HLt.out m _ hx
            generalize L[m] = x at *
            obtain ⟨b3, o3, rfl, _, y0⟩ := HRd.out.ints_at hx
            clear HOut HIn HLt hx
            go_wp2
            go_roundg (l.length - (k + 1))
            case measure => omega
            case rel => exact ⟨k + 1, x, by omega, rfl, by go_num, by go_num, hxt, HI2, hb⟩
      · obtain rfl : k = l.length := by omega
        have he := HU.out.trans (HEnd.out u)
        clear HEnd HU HK HP
        go_wp2
        go_ret2
        exact ⟨by rw [he]; rfl, hb⟩
end Go.Proofs.YtdbbjlphlbndkaaDoor.T
