/-
  Rows of bools; facsimileref15.SameBools; facsimileref21: Right, all.
-/
import Derived.Test.YtmlggfapnkhcaaaNullP
import Derived.Deep.OwnRows
namespace Go.Proofs.Ytmlggfapnkhcaaa
open Go.RowKit Go.Shelf

def bcells (s : List Bool) : Array Value := (s.map Value.bool).toArray
/-- Block q holds the bools s. -/
abbrev BoolsAt (w : World) (q : Nat) (s : List Bool) : Prop := Holds w q 4 (bcells s)
theorem BoolsAt.at_ {w : World} {q : Nat} {s : List Bool} (h : BoolsAt w q s) {i : Nat} {b : Bool} (hi : s[i]? = some b) : w.cell? ⟨q, i, none⟩ = some (.bool b) := by
  rw [h.cell i]
  simp [bcells, hi]
theorem BoolsAt.set {w : World} {q : Nat} {s : List Bool} (h : BoolsAt w q s) (i : Nat) (b : Bool) : BoolsAt (w.setCell ⟨q, i, none⟩ (.bool b)) q (s.set i b) := by
  refine Holds.of_eq (holds_set h) ?_
  unfold bcells
  rw [List.map_set, List.setIfInBounds_toArray]
theorem made_bools (n : Nat) : madeCells #[.bool false] n = bcells (List.replicate n false) := by
  unfold bcells
  rw [List.map_replicate]
  apply Array.ext'
  simp only [madeCells]
  apply List.ext_getElem
  · simp
  · intro i h1 h2; simp [Nat.mod_one]
abbrev Bools (w : World) (T : Nat → Prop) (v : Value) (s : List Bool) : Prop := Row Value.bool w T v s
theorem bools_flat (s : List Bool) : s.flatMap (one1 Value.bool) = s.map Value.bool := by
  induction s with
  | nil => rfl
  | cons b s ih => rw [List.flatMap_cons, ih]; rfl
theorem BoolsAt.row {w : World} {q n : Nat} {s : List Bool} {T : Nat → Prop} (h : BoolsAt w q s) (hn : n = s.length) (hq : T q) (hm : n ≤ maxLen) : Bools w T (.slice (some ⟨q, 0, none⟩) n n) s := by
  subst hn
  refine ⟨flat_len _ 1 (fun _ => rfl) s, _, _, rfl, Nat.le_refl _, hm, fun _ => ⟨q, 0, rfl, hq, fun j u hj => ?_⟩⟩
  rw [bools_flat] at hj
  rw [Nat.zero_add, h.cell j]
  simpa [bcells] using hj

theorem ref_Right21 (a b c : Value) (g : Gram) (w : World) (HG : GramIs w (Old w) a b c g) (s1 : g.toks.length ≤ 100000) (s2 : g.rules.length ≤ 100000) (s3 : g.prods.length ≤ 100000) (hz : Named g) :
    Calls Try.prog 63 #[.agg (gramCells a b c g)] w fun r w' => r = .returned (.bool (rightB g)) ∧ Below w.heap.size w w' := by
  have H := hidden (fun (w' : World) (hb : Below w.heap.size w w') => ref_Check a b c g w' (HG.old hb) s1 s2 s3 hz)
  obtain ⟨⟨A1, k1, rfl, v1, m1⟩, ⟨A2, k2, rfl, v2, m2⟩, ⟨A3, k3, rfl, v3, m3⟩⟩ := HG.vals
  have hb := Below.refl w.heap.size w
  have hq1 : ∀ w, (Op.equalIn 10000 40 (.agg #[.int .i64 (checkOf g).kind, .int .i64 (checkOf g).at_, .int .i64 (checkOf g).more]) (.agg #[.int .i64 0, .int .i64 0, .int .i64 0])).run Try.prog w = .ok (rightB g) w := fun w => by
    have := def_eq_run w (checkOf g) D0
    rw [right_eq] at this
    exact this
  generalize rightB g = rb at *
  generalize checkOf g = d at *
  unfold gramCells defC at *
  clear HG
  go_enter Try.func63, Try.ntmps63
  go_wp2_with fail
  refine (H.out _ ?_).mono ?_
  · exact (by repeat (first | (with_reducible exact Below.refl _ _) | (with_reducible assumption) | (with_reducible refine Below.drew ?_) | (with_reducible refine below_drewN ?_ _) | ((with_reducible refine below_alloc ?_ ?_); (focus (first | omega | (simp; done) | (simp; omega)))) | ((with_reducible refine below_set ?_ ?_); (focus (first | omega | (simp; done) | (simp; omega))))))
  rintro r w2 ⟨rfl, hb2⟩
  have hbw : Below w.heap.size w w2 := Below.trans (by repeat (first | (with_reducible exact Below.refl _ _) | (with_reducible assumption) | (with_reducible refine Below.drew ?_) | (with_reducible refine below_drewN ?_ _) | ((with_reducible refine below_alloc ?_ ?_); (focus (first | omega | (simp; done) | (simp; omega)))) | ((with_reducible refine below_set ?_ ?_); (focus (first | omega | (simp; done) | (simp; omega)))))) (hb2.mono (by simp))
  clear hb2 hb
  go_wp2
  go_ret
  exact ⟨rfl, hbw⟩

set_option maxRecDepth 20000 in
set_option maxHeartbeats 4000000 in
theorem ref_all21 (v u : Value) (l : List Item) (s : List Bool) (tk : Bool) (T : Nat → Prop) (w : World) (hR : Rd w T 4 v l.length (l.flatMap itCells)) (hS : Bools w T u s) (hx : ∀ x, x ∈ l → x.rule = true → 0 ≤ x.n ∧ x.n < s.length) :
    Calls Try.prog 82 #[v, u, .bool tk] w fun r w' => r = .returned (.bool (l.all (itemSo s tk))) ∧ w = w' := by
  obtain ⟨A, c, rfl, hc1, hc2⟩ := hR.val
  obtain ⟨A2, c2, rfl, hd1, hd2⟩ := hS.val
  unfold maxLen at hc2 hd2
  have HR := hidden hR
  have HS := hidden hS
  have HX := hidden hx
  have HF : Hid (∀ (k : Nat) x, l[k]? = some x → itemSo s tk x = false → l.all (itemSo s tk) = false) := hidden (fun k x h1 h2 => by
    rw [Bool.eq_false_iff]; intro h; rw [List.all_eq_true] at h
    have := h x (List.mem_of_getElem? h1); rw [h2] at this; cases this)
  have HT : Hid ((∀ (k : Nat) x, k < l.length → l[k]? = some x → itemSo s tk x = true) → l.all (itemSo s tk) = true) := hidden (fun h => by
    rw [List.all_eq_true]; intro x hx
    obtain ⟨k, hk, e⟩ := List.mem_iff_getElem.1 hx
    exact h k x hk (by rw [List.getElem?_eq_getElem hk, e]))
  generalize l.all (itemSo s tk) = r at *
  clear hR hS hx
  go_enter Try.func82, Try.ntmps82
  go_wp2
  go_loop [7] (fun ii => ∃ k : Nat, k ≤ l.length ∧ ii = .int .i64 k ∧ Hid (∀ (j : Nat) x, j < k → l[j]? = some x → itemSo s tk x = true)) (fun ii => l.length - (intOf ii).toNat)
  case atStart => exact ⟨0, by omega, rfl, hidden (fun m x h => by omega)⟩
  case round =>
    obtain ⟨k, hk, rfl, HN⟩ := hrel
    by_cases hlt : k < l.length
    · have hx := List.getElem?_eq_getElem hlt
      generalize l[k] = x at *
      obtain ⟨b, off, rfl, _, hat⟩ := HR.out.flat_at (fun _ => rfl) (by decide) hx
      have y0 : w.cell? ⟨b, off + k * 4, none⟩ = some (.bool x.rule) := hat 0 _ rfl
      have y1 : w.cell? ⟨b, off + k * 4 + 1, none⟩ = some (.int .i64 x.n) := hat 1 _ rfl
      have HNx : Hid (itemSo s tk x = true → ∀ (j : Nat) y, j < k + 1 → l[j]? = some y → itemSo s tk y = true) := hidden (fun h j y hj hy => by
        by_cases e : j = k
        · subst e; rw [hx] at hy; cases hy; exact h
        · exact HN.out j y (by omega) hy)
      have HFx := hidden (HF.out k x hx)
      have HXx := hidden (HX.out x (List.mem_of_getElem? hx))
      clear hat hx
      cases hr : x.rule
      · have hso : itemSo s tk x = tk := by unfold itemSo; rw [if_neg (by rw [hr]; decide)]
        rw [hr] at y0
        rw [hso] at HNx HFx
        clear hso HXx
        cases tk
        · have HE := hidden (HFx.out rfl)
          clear HNx HFx
          go_wp2
          go_ret
          exact ⟨by rw [HE.out]; rfl, rfl⟩
        · have HN2 := hidden (HNx.out rfl)
          clear HNx HFx HN
          go_wp2
          go_round
          case rel => exact ⟨k + 1, by omega, by go_num, HN2⟩
          case measure => simp [intOf]; omega
      · obtain ⟨n1, n2⟩ := HXx.out hr
        obtain ⟨m, hm⟩ : ∃ m : Nat, x.n = (m : Int) := ⟨x.n.toNat, by omega⟩
        have hml : m < s.length := by omega
        have hs := List.getElem?_eq_getElem hml
        generalize s[m] = bb at *
        obtain ⟨b2, o2, rfl, _, z0⟩ := row_at HS.out hs
        have hso : itemSo s tk x = bb := by
          unfold itemSo atB
          rw [if_pos hr, hm, Int.toNat_natCast, List.getD_eq_getElem?_getD, hs]; rfl
        rw [hr] at y0
        rw [hm] at y1
        rw [hso] at HNx HFx
        clear hso hs hm HXx n1 n2
        cases bb
        · have HE := hidden (HFx.out rfl)
          clear HNx HFx
          go_wp2
          go_ret
          exact ⟨by rw [HE.out]; rfl, rfl⟩
        · have HN2 := hidden (HNx.out rfl)
          clear HNx HFx HN
          go_wp2
          go_round
          case rel => exact ⟨k + 1, by omega, by go_num, HN2⟩
          case measure => simp [intOf]; omega
    · obtain rfl : k = l.length := by omega
      have HE := hidden (HT.out (fun j x h1 h2 => HN.out j x h1 h2))
      go_wp2
      go_ret
      exact ⟨by rw [HE.out]; rfl, rfl⟩
end Go.Proofs.Ytmlggfapnkhcaaa
