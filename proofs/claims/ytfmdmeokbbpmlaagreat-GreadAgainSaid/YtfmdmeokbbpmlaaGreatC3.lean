/-
  rxtext.Show. The document's Show.
-/
import Derived.Test.YtfmdmeokbbpmlaaGreatC2
import Derived.Test.YtfmdmeokbbpmlaaGreatC0
namespace Go.Proofs.YtfmdmeokbbpmlaaGreat
open Go.RowKit Go.Shelf

theorem err_run {l : List Rx} (h : rxErr l = 0) : l.length ≤ 512 ∧ rxRun l 0 = .inl 1 := by
  by_cases hl : 512 < l.length
  · unfold rxErr at h; rw [if_pos hl] at h; cases h
  · refine ⟨by omega, ?_⟩
    rw [rxErr_end hl] at h
    have hz : ∀ (l : List Rx) (p : Int), rxRun l p ≠ .inr 0 := by
      intro l
      induction l with
      | nil => intro p hp; cases hp
      | cons x l ih =>
        intro p hp
        rw [rxRun] at hp
        split at hp
        · exact ih _ hp
        · rename_i hne
          exact hne (Sum.inr.inj hp)
    have hz := hz l 0
    generalize rxRun l 0 = r at *
    match r with
    | .inr e => exact absurd (congrArg Sum.inr h) hz
    | .inl p =>
      unfold rxEnd at h
      dsimp only at h
      split at h
      · rename_i hp; rw [hp]
      · cases h
theorem run_step {x : Rx} {l : List Rx} {p : Int} (h : rxRun (x :: l) p = .inl 1) : stepBad x p = 0 ∧ rxRun l (p - arity x.kind + 1) = .inl 1 := by
  rw [rxRun] at h
  split at h
  · rename_i hs; exact ⟨hs, h⟩
  · cases h
theorem postS_len (us : List RxT) : us.length ≤ (postS us).length := by
  induction us with
  | nil => exact Nat.le_refl _
  | cons a us ih =>
    have := post_pos a
    rw [postS, List.length_append, List.length_cons]; omega
/-- How long what was shown is. -/
theorem tex_small {us : List RxT} {t : RxT} (h : t ∈ us) (hl : (postS us).length ≤ 512) : (bs (tex t)).size ≤ 2000000 := by
  rw [bs_size]
  have h1 := tex_len t
  have h2 : (post t).length ≤ (postS us).length := by
    clear hl h1
    induction us with
    | nil => cases h
    | cons a us ih =>
      rw [postS, List.length_append]
      rcases List.mem_cons.1 h with rfl | h
      · omega
      · have := ih h; omega
  omega
/-- What holds ahead of each round. -/
structure ShInv (l : List Rx) (k : Nat) (us : List RxT) : Prop where
  hk : k ≤ l.length
  at_ : postS us = l.take k
  run : rxRun (l.drop k) us.length = .inl 1
theorem ShInv.room {l : List Rx} {k : Nat} {us : List RxT} (h : ShInv l k us) : us.length ≤ k := by
  have := postS_len us
  rw [h.at_, List.length_take] at this
  omega
theorem ShInv.step {l : List Rx} {k : Nat} {us : List RxT} (h : ShInv l k us) {x : Rx} (hx : l[k]? = some x) : stepBad x us.length = 0 ∧ ∀ us' : List RxT, (us'.length : Int) = us.length - arity x.kind + 1 → postS us' = postS us ++ [x] → ShInv l (k + 1) us' := by
  have hlt := (List.getElem?_eq_some_iff.1 hx).1
  have he := (List.getElem?_eq_some_iff.1 hx).2
  have hr := h.run
  rw [List.drop_eq_getElem_cons hlt, he] at hr
  obtain ⟨h1, h2⟩ := run_step hr
  exact ⟨h1, fun us' ha hb => ⟨hlt, by rw [hb, h.at_, List.take_add_one, hx]; rfl, by rw [ha]; exact h2⟩⟩
theorem ShInv.done {l : List Rx} {us : List RxT} (h : ShInv l l.length us) : ∃ t, us = [t] ∧ l = post t := by
  have hr := h.run
  rw [List.drop_length, rxRun] at hr
  have hr : (us.length : Int) = 1 := Sum.inl.inj hr
  match us, hr with
  | [t], _ => exact ⟨t, rfl, by have := h.at_; rw [List.take_length] at this; simpa [postS] using this.symm⟩
  | [], hr => simp at hr
  | _ :: _ :: _, hr => simp at hr; omega

theorem gen_world {P : World → Prop} {G : World → Prop} (w : World) (h : P w) (hG : ∀ w', P w' → G w') : G w := hG w h
theorem rd_drew {w : World} {S size n : Nat} {v : Value} {cs : List Value} (h : Rd w (fun k => k ≠ S ∧ k < w.heap.size) size v n cs) : Rd w.drew (fun k => k ≠ S ∧ k < w.drew.heap.size) size v n cs := rd_later h (Below.drew (Below.refl _ _))
theorem rd_new1e {w : World} {S q : Nat} (hq : q = w.heap.size) (hS : S < w.heap.size) (a : Int) (e : TypeId) : Rd (w.alloc (.cells #[.int .i64 a] e)) (fun k => k ≠ S ∧ k < (w.alloc (.cells #[.int .i64 a] e)).heap.size) 1 (.slice (some ⟨q, 0, none⟩) 1 1) [a].length ([a].map (Value.int .i64)) := by subst hq; exact rd_new1 hS a e
theorem rd_new2e {w : World} {S q : Nat} (hq : q = w.heap.size) (hS : S < w.heap.size) (a b : Int) (e : TypeId) : Rd (w.alloc (.cells #[.int .i64 a, .int .i64 b] e)) (fun k => k ≠ S ∧ k < (w.alloc (.cells #[.int .i64 a, .int .i64 b] e)).heap.size) 1 (.slice (some ⟨q, 0, none⟩) 2 2) [a, b].length ([a, b].map (Value.int .i64)) := by subst hq; exact rd_new2 hS a b e
theorem use_it {a b : Prop} (h : a) (f : a → b) : b := f h
end Go.Proofs.YtfmdmeokbbpmlaaGreat

namespace Go.Proofs.YtfmdmeokbbpmlaaGreat
open Go.RowKit Go.Shelf

set_option maxRecDepth 20000 in
set_option maxHeartbeats 4000000 in
theorem ref_Show08_bad (v : Value) (l : List Rx) (w : World) (h : Rd w (Old w) 5 v l.length (l.flatMap rxCells)) (he : rxErr l ≠ 0) :
    Calls Tryz.prog 36 #[v] w fun r w' => r = .returned (.string (bs [])) ∧ Below w.heap.size w w' := by
  have HC := hidden (ref07_check v l w h)
  have he2 : (rxErr l != 0) = true := by simpa using he
  clear he h
  go_enter Tryz.func36, Tryz.ntmps36
  go_wp2_with fail
  refine HC.out.mono ?_
  rintro r w1 ⟨rfl, rfl⟩
  go_wp2
  go_ret
  exact ⟨rfl, Below.refl _ _⟩
set_option maxRecDepth 20000 in
set_option maxHeartbeats 4000000 in
theorem ref_Show08 (v : Value) (t : RxT) (w : World) (h : Rd w (Old w) 5 v (post t).length ((post t).flatMap rxCells)) (he : rxErr (post t) = 0) (hl : (post t).length ≤ 512) :
    Calls Tryz.prog 36 #[v] w fun r w' => r = .returned (.string (bs (tex t))) ∧ Below w.heap.size w w' := by
  have HC := hidden (ref07_check v (post t) w h)
  have he2 : (rxErr (post t) != 0) = false := by simpa using he
  obtain ⟨b, off, c, rfl⟩ : ∃ b off c, v = .slice (some ⟨b, off, none⟩) (post t).length c := by
    obtain ⟨h1, A, c, hv, _, _, h3⟩ := h
    have hp := post_pos t
    obtain ⟨b, off, rfl, _⟩ := h3 (by rw [h1]; omega)
    exact ⟨b, off, c, hv⟩
  have hp := post_pos t
  have HS := hidden (ref_show08 _ _ _ (post t) w h hl t 0 ((post t).length - 1) w (Below.refl _ _) (SitsX.self _) (by omega))
  generalize hn : (post t).length = n at *
  clear hn h he
  obtain ⟨m, rfl⟩ : ∃ m, n = m + 1 := ⟨n - 1, by omega⟩
  rw [Nat.add_sub_cancel] at HS
  have q1 : IntKind.i64.wrap (((m + 1 : Nat) : Int) - 1) = (m : Int) := by rw [IntKind.wrap_i64]; omega
  go_enter Tryz.func36, Tryz.ntmps36
  go_wp2_with fail
  refine HC.out.mono ?_
  rintro r w1 ⟨rfl, rfl⟩
  go_wp2_with fail
  refine HS.out.mono ?_
  rintro r w2 ⟨rfl, hb2⟩
  go_wp2
  go_ret
  exact ⟨rfl, hb2⟩
end Go.Proofs.YtfmdmeokbbpmlaaGreat
