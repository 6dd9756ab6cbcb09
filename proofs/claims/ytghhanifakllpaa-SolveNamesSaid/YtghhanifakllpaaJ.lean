/- package solve over float64: the unknowns in memory, on the way back. -/
import Derived.Test.YtghhanifakllpaaF
import Derived.Test.YtghhanifakllpaaT
namespace Go.Proofs.Ytghhanifakllpaa
open Go.RowKit

/-- The unknowns lie in block X, with m rows still to be done; all else is as in w5. -/
structure BackAt (X n : Nat) (M : Mx) (m : Nat) (w5 wr : World) : Prop where
  below : Below w5.heap.size w5 wr
  out : w5.heap.size ≤ X
  xs : ∃ xs : List Nat, xs.length = n ∧ (∀ x ∈ xs, W64 x) ∧ wr.heap[X]? = some (.cells (xs.map flV).toArray 25 (0, 0)) ∧ ∀ j, j < n → fl (xs.getD j 0) = backU n M m j

section
variable {X n m : Nat} {M : Mx} {w5 wr : World}
theorem BackAt.num (h : BackAt X n M m w5 wr) {j : Nat} (hj : j < n) : ∃ b, wr.cell? ⟨X, j, none⟩ = some (.float .f64 b) ∧ wr.frozen? ⟨X, j, none⟩ = false ∧ W64 b ∧ fl b = backU n M m j := by
  obtain ⟨xs, h1, h2, h3, h4⟩ := h.xs
  refine ⟨xs.getD j 0, ?_, by simp [World.frozen?, h3], W_getD h2 (by omega), h4 j hj⟩
  simp [World.cell?, h3, List.getD, flV, List.getElem?_map, show j < xs.length by omega]
theorem BackAt.lt (h : BackAt X n M m w5 wr) : X < wr.heap.size := by
  obtain ⟨xs, _, _, h3, _⟩ := h.xs
  exact lt_of_block h3
theorem BackAt.drewN (h : BackAt X n M m w5 wr) (k : Nat) : BackAt X n M m w5 (wr.drewN k) := by
  have hk := Keep.drewN wr k
  obtain ⟨xs, h1, h2, h3, h4⟩ := h.xs
  exact ⟨h.below.trans (hk.below h.below.size fun _ _ h => h), h.out, xs, h1, h2, hk.heap h3 id, h4⟩
/-- One unknown is written. -/
theorem BackAt.set {i b : Nat} (h : BackAt X n M (i + 1) w5 wr) (hi : i < n) (hb : W64 b) (hx : fl b = fdiv (backI n M i n) (M i i)) :
    BackAt X n M i w5 (wr.setCell ⟨X, i, none⟩ (.float .f64 b)) := by
  obtain ⟨xs, h1, h2, h3, h4⟩ := h.xs
  refine ⟨h.below.setCell h.out _, h.out, xs.set i b, by simpa using h1, ?_, ?_, ?_⟩
  · intro y hy
    rcases List.mem_or_eq_of_mem_set hy with hy | hy
    · exact h2 y hy
    · rw [hy]; exact hb
  · have hm : ((xs.set i b).map flV).toArray = ((xs.map flV).toArray).setIfInBounds i (.float .f64 b) := by
      simp [List.map_set, flV]
    rw [hm]
    simp only [World.setCell, Array.getElem?_modify, if_true, h3, Option.map_some]
    simp
  · intro j hj
    rw [backU_row n M hi]
    by_cases hji : j = i
    · subst hji
      simp [List.getD, show j < xs.length by omega, hx]
    · have e : (xs.set i b).getD j 0 = xs.getD j 0 := by simp [List.getD, List.getElem?_set, Ne.symm hji]
      rw [e, h4 j hj]
      simp [hji]
end
theorem replicate_getD (n j : Nat) : (List.replicate n 0).getD j 0 = 0 := by simp [List.getD, List.getElem?_replicate]; split <;> rfl
/-- Nothing is known yet. -/
theorem BackAt.start (n : Nat) (M : Mx) (w5 : World) : BackAt w5.heap.size n M n w5 (w5.alloc (.cells (madeCells #[Value.float .f64 0] n) 25)) := by
  refine ⟨(Below.refl _ _).alloc (Nat.le_refl _) _, Nat.le_refl _, List.replicate n 0, by simp, ?_, ?_, ?_⟩
  · intro x hx
    rw [(List.mem_replicate.1 hx).2]
    unfold W64; decide
  · have e : madeCells #[Value.float .f64 0] n = ((List.replicate n 0).map flV).toArray := by
      rw [← Array.toList_inj, toList_madeCells_one]
      simp [flV]
    rw [e]
    exact heap_alloc_new w5 _
  · intro j _
    rw [backU_start, replicate_getD]
    show fl 0 = fzero
    decide
end Go.Proofs.Ytghhanifakllpaa
