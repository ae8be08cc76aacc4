/-
  For the laws of layer 8, plainly: what is shown are bytes; what is read and shown again. The laws of layer 8: the examples; any steps and any set as a text. The laws of layer 8: what is told is read again; what is read is an expression.
-/
import Derived.Test.YtfmdmeokbbpmlaaGreatC5
import Derived.Test.YtfmdmeokbbpmlaaGreatC3
import Derived.Test.YtfmdmeokbbpmlaaGreatC6
namespace Go.Proofs.YtfmdmeokbbpmlaaGreat
open Go.RowKit Go.Shelf

theorem hexC_small {d : Nat} (h : d < 16) : hexC d < 256 := hexC_lt h
theorem chrT_lt (L : List Nat) {b : Nat} (hb : b < 256) : ∀ c ∈ chrT L b, c < 256 := by
  intro c hc
  unfold chrT at hc
  have h1 := hexC_small (d := b / 16) (by omega)
  have h2 := hexC_small (d := b % 16) (by omega)
  split at hc
  · simp at hc; omega
  · split at hc
    · simp at hc; omega
    · split at hc
      · simp at hc; omega
      · split at hc
        · simp at hc; omega
        · split at hc
          · simp at hc; omega
          · simp at hc; omega
theorem runT_lt {r : Nat × Nat} (h : r.1 < 256 ∧ r.2 < 256) : ∀ c ∈ runT r, c < 256 := by
  intro c hc
  unfold runT at hc
  have h1 := chrT_lt edgeL h.1
  have h2 := chrT_lt edgeL h.2
  split at hc
  · exact h1 c hc
  · split at hc
    · rcases List.mem_append.1 hc with h | h
      · exact h1 c h
      · exact h2 c h
    · rcases List.mem_append.1 hc with h | h
      · exact h1 c h
      · rcases List.mem_cons.1 h with rfl | h
        · decide
        · exact h2 c h
theorem runsT_lt (f : Nat → Bool) : ∀ c ∈ runsT f, c < 256 := by
  intro c hc
  unfold runsT at hc
  obtain ⟨m, hm, hc⟩ := List.mem_flatten.1 hc
  obtain ⟨r, hr, rfl⟩ := List.mem_map.1 hm
  exact runT_lt (runs_lt hr) c hc
theorem bytesS_head_lt (f : Nat → Bool) : (bytesS f).headD 0 < 256 := by
  cases hb : bytesS f with
  | nil => decide
  | cons b l => exact (bytes_mem.1 (by rw [hb]; exact List.mem_cons_self)).1
theorem setT_lt (f : Nat → Bool) : ∀ c ∈ setT f, c < 256 := by
  intro c hc
  unfold setT at hc
  split at hc
  · exact chrT_lt _ (bytesS_head_lt f) c hc
  · split at hc
    · simp at hc; omega
    · split at hc
      · rcases List.mem_cons.1 hc with rfl | hc
        · decide
        · rcases List.mem_cons.1 hc with rfl | hc
          · decide
          · rcases List.mem_append.1 hc with h | h
            · exact runsT_lt _ c h
            · simp at h; omega
      · rcases List.mem_cons.1 hc with rfl | hc
        · decide
        · rcases List.mem_append.1 hc with h | h
          · exact runsT_lt _ c h
          · simp at h; omega
theorem par_lt {b : Bool} {l : List Nat} (h : ∀ c ∈ l, c < 256) : ∀ c ∈ par b l, c < 256 := by
  intro c hc
  unfold par at hc
  split at hc
  · rcases List.mem_cons.1 hc with rfl | hc
    · decide
    · rcases List.mem_append.1 hc with h' | h'
      · exact h c h'
      · simp at h'; omega
  · exact h c hc
theorem tex_lt (t : RxT) : ∀ c ∈ tex t, c < 256 := by
  induction t with
  | set f => rw [tex]; exact setT_lt f
  | empty => rw [tex]; intro c hc; simp at hc; omega
  | cat a b iha ihb =>
    rw [tex]
    intro c hc
    rcases List.mem_append.1 hc with h | h
    · exact par_lt iha c h
    · exact par_lt ihb c h
  | alt a b iha ihb =>
    rw [tex]
    intro c hc
    rcases List.mem_append.1 hc with h | h
    · exact iha c h
    · rcases List.mem_cons.1 h with rfl | h
      · decide
      · exact par_lt ihb c h
  | rep k a iha =>
    rw [tex]
    intro c hc
    rcases List.mem_append.1 hc with h | h
    · exact par_lt iha c h
    · cases k <;> simp [Rep.sign] at h <;> omega
theorem nb_tex (t : RxT) : nb (bs (tex t)) = tex t := nb_bs _ (tex_lt t)
theorem nb_app (a b : ByteArray) : nb (a ++ b) = nb a ++ nb b := by
  unfold nb
  rw [← List.map_append]
  obtain ⟨⟨a⟩⟩ := a
  obtain ⟨⟨b⟩⟩ := b
  exact congrArg (fun x : ByteArray => x.data.toList.map UInt8.toNat) (bytes_app a b)
/-- Where a text is none nothing is read of it. -/
theorem readM_none {cs : List Nat} {l : List Rx} {n : Nat} {e : Int} (h : readM cs = (l, n, e)) (he : e ≠ 0) : l = [] ∧ n ≤ cs.length := by
  unfold readM at h
  split at h
  · cases h; exact ⟨rfl, Nat.zero_le _⟩
  · split at h
    · cases h; exact ⟨rfl, Nat.sub_le _ _⟩
    · split at h
      · cases h; exact ⟨rfl, Nat.zero_le _⟩
      · cases h; exact absurd rfl he
/-- Read, where what comes of it is known. -/
theorem rx_Read_is {s : ByteArray} {l : List Rx} {n : Nat} {e : Int} (hr : readM (nb s) = (l, n, e)) (w : World) (hz : s.size ≤ maxLen) :
    Calls Tryz.prog 63 #[.string s] w fun r w' => ∃ v, r = .returned (.tuple #[v, .int .i64 (n : Int), .int .i64 e]) ∧ Below w.heap.size w w' ∧ Rd w' (Old w') 5 v l.length (l.flatMap rxCells) := by
  refine (rx_Read s w hz).mono ?_
  intro r w' h
  rw [hr] at h
  obtain ⟨v, h1, h2, h3⟩ := h.out
  exact ⟨v, h1, h2, h3.mono (fun _ h => h.2)⟩
end Go.Proofs.YtfmdmeokbbpmlaaGreat

namespace Go.Proofs.YtfmdmeokbbpmlaaGreat
open Go.RowKit Go.Shelf

end Go.Proofs.YtfmdmeokbbpmlaaGreat

namespace Go.Proofs.YtfmdmeokbbpmlaaGreat
open Go.RowKit Go.Shelf

end Go.Proofs.YtfmdmeokbbpmlaaGreat
