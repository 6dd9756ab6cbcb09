/- Plain: twice the unit matrix of 128 rows: what the steps, the way back and the determinant come to. -/
import Derived.Test.YtghhanifakllpaaT
import Derived.KernelRfl
namespace Go.Proofs.Ytghhanifakllpaa

def twoB : Nat := 4611686018427387904
/-- Twice the unit matrix, with a right side c. -/
def Dg (c : Nat → Nat) (M : Mx) : Prop := ∀ i, i < 128 → (∀ j, j < 128 → M i j = some (if i = j then twoB else 0)) ∧ M i 128 = some (c i)
structure Kind (c : Nat → Nat) : Prop where
  mul : ∀ i, i < 128 → fmul (some 0) (some (c i)) = some 0
  sub : ∀ i, i < 128 → fsub (some (c i)) (some 0) = some (c i)

section
variable {c : Nat → Nat} {M : Mx}
theorem Dg.pickTo (h : Dg c M) {k : Nat} (hk : k < 128) : ∀ r, k + r < 128 → pickTo M k r = k
  | 0, _ => rfl
  | r + 1, hr => by
    unfold Go.Proofs.Ytghhanifakllpaa.pickTo
    have e1 : M (k + 1 + r) k = some 0 := by rw [(h (k + 1 + r) (by omega)).1 k hk, if_neg (show ¬ k + 1 + r = k by omega)]
    have e2 : M k k = some twoB := by rw [(h k hk).1 k hk, if_pos rfl]
    have e3 : fgt (fabs (some 0)) (fabs (some twoB)) = false := by kernel_rfl
    rw [h.pickTo hk r (by omega), e1, e2, e3]
    rfl
theorem Dg.pick (h : Dg c M) {k : Nat} (hk : k < 128) : pick 128 M k = k := h.pickTo hk _ (by omega)
theorem Dg.bad (h : Dg c M) {k : Nat} (hk : k < 128) : bad (M (Go.Proofs.Ytghhanifakllpaa.pick 128 M k) k) = false := by
  rw [h.pick hk, (h k hk).1 k hk, if_pos rfl]; kernel_rfl
theorem swap_self (M : Mx) (k : Nat) : swapM M k k = M := by
  funext i
  unfold swapM sw
  split
  · subst_vars; rfl
  · rfl
theorem Dg.elim (h : Dg c M) (hc : Kind c) {k : Nat} (hk : k < 128) : Dg c (elimM 128 M k) := by
  have e1 : fdiv (some 0) (some twoB) = some 0 := by kernel_rfl
  have e2 : fmul (some 0) (some 0) = some 0 := by kernel_rfl
  have e3 : fsub (some 0) (some 0) = some 0 := by kernel_rfl
  have e4 : fsub (some twoB) (some 0) = some twoB := by kernel_rfl
  intro i hi
  refine ⟨fun j hj => ?_, ?_⟩
  · unfold elimM
    split
    · rename_i hh
      rw [(h i hi).1 j hj, (h i hi).1 k hk, (h k hk).1 k hk, (h k hk).1 j hj, if_neg (show ¬ i = k by omega), if_pos rfl, if_neg (show ¬ k = j by omega)]
      unfold fless
      rw [e1, e2]
      split
      · exact e4
      · exact e3
    · exact (h i hi).1 j hj
  · unfold elimM
    split
    · rename_i hh
      rw [(h i hi).2, (h i hi).1 k hk, (h k hk).1 k hk, (h k hk).2, if_neg (show ¬ i = k by omega), if_pos rfl]
      unfold fless
      rw [e1, hc.mul k hk]
      exact hc.sub i hi
    · exact (h i hi).2
theorem Dg.go (hc : Kind c) : ∀ (r k : Nat) (s : Sys), k + r = 128 → Dg c s.M → ∃ s', goS 128 r k s = (s', true) ∧ Dg c s'.M ∧ s'.piv = s.piv ++ List.replicate r (some twoB) ∧ s'.odd = s.odd ++ List.replicate r false
  | 0, k, s, _, h => ⟨s, rfl, h, by simp, by simp⟩
  | r + 1, k, s, hk, h => by
    have hk' : k < 128 := by omega
    have hst : Dg c (stepS 128 k s).M := by
      show Dg c (elimM 128 (swapM s.M k (Go.Proofs.Ytghhanifakllpaa.pick 128 s.M k)) k)
      rw [h.pick hk', swap_self]
      exact h.elim hc hk'
    obtain ⟨s', e1, e2, e3, e4⟩ := Dg.go hc r (k + 1) (stepS 128 k s) (by omega) hst
    refine ⟨s', ?_, e2, ?_, ?_⟩
    · unfold goS
      rw [h.bad hk', if_neg (by simp)]
      exact e1
    · rw [e3]
      show (s.piv ++ [s.M (Go.Proofs.Ytghhanifakllpaa.pick 128 s.M k) k]) ++ List.replicate r (some twoB) = _
      rw [h.pick hk', (h k hk').1 k hk', if_pos rfl, List.append_assoc, List.replicate_succ]; rfl
    · rw [e4]
      show (s.odd ++ [Go.Proofs.Ytghhanifakllpaa.pick 128 s.M k != k]) ++ List.replicate r false = _
      rw [h.pick hk', List.append_assoc, List.replicate_succ]
      simp
theorem Dg.steps (h : Dg c M) (hc : Kind c) : ∃ s', stepsS 128 M = (s', true) ∧ Dg c s'.M ∧ s'.piv = List.replicate 128 (some twoB) ∧ s'.odd = List.replicate 128 false := by
  obtain ⟨s', e1, e2, e3, e4⟩ := Dg.go hc 128 0 (startS M) rfl h
  exact ⟨s', e1, e2, by simpa [startS] using e3, by simpa [startS] using e4⟩

theorem Dg.back (h : Dg c M) (hc : Kind c) (g : Nat → Nat) (hg : ∀ i, i < 128 → fdiv (some (c i)) (some twoB) = some (g i) ∧ fmul (some 0) (some (g i)) = some 0) :
    ∀ r, r ≤ 128 → ∀ j, j < 128 → backX 128 M r j = if 128 - r ≤ j then some (g j) else fzero
  | 0, _, j, hj => by rw [if_neg (by omega)]; rfl
  | r + 1, hr, j, hj => by
    have ih := Dg.back h hc g hg r (by omega)
    unfold backX
    have hT : ∀ q, 127 - r + 1 + q ≤ 128 → backT 128 M (backX 128 M r) (127 - r) q = some (c (127 - r)) := by
      intro q
      induction q with
      | zero => intro _; exact (h (127 - r) (by omega)).2
      | succ q ihq =>
        intro hq
        unfold backT
        rw [ihq (by omega), (h (127 - r) (by omega)).1 (127 - r + 1 + q) (by omega), if_neg (by omega), ih (127 - r + 1 + q) (by omega), if_pos (by omega)]
        unfold fless
        rw [(hg (127 - r + 1 + q) (by omega)).2]
        exact hc.sub (127 - r) (by omega)
    have e : 128 - 1 - r = 127 - r := by omega
    rw [e]
    by_cases hjr : j = 127 - r
    · rw [if_pos hjr, if_pos (by omega), hT r (by omega), (h (127 - r) (by omega)).1 (127 - r) (by omega), if_pos rfl, hjr]
      exact (hg (127 - r) (by omega)).1
    · rw [if_neg hjr, ih j hj]
      by_cases h1 : 128 - r ≤ j
      · rw [if_pos h1, if_pos (by omega)]
      · rw [if_neg h1, if_neg (by omega)]
theorem Dg.solved (h : Dg c M) (hc : Kind c) (g : Nat → Nat) (hg : ∀ i, i < 128 → fdiv (some (c i)) (some twoB) = some (g i) ∧ fmul (some 0) (some (g i)) = some 0) (hfin : ∀ i, i < 128 → ffin (some (g i)) = true) :
    ∃ x, solvedF 128 M = some x ∧ ∀ i, i < 128 → x i = some (g i) := by
  obtain ⟨s', e1, e2, _, _⟩ := h.steps hc
  have hb : ∀ i, i < 128 → backX 128 s'.M 128 i = some (g i) := fun i hi => by rw [e2.back hc g hg 128 (Nat.le_refl _) i hi, if_pos (by omega)]
  refine ⟨backX 128 s'.M 128, ?_, hb⟩
  unfold solvedF
  rw [e1, if_pos rfl, if_pos]
  intro i hi
  show ffin (backX 128 s'.M 128 i) = true
  rw [hb i hi]
  exact hfin i hi
def detB : Nat := 5183643171103440896
theorem det_great : detGo (List.replicate 128 (some twoB)) (List.replicate 128 false) fone = some (some detB) := by kernel_rfl
theorem det_fin : ffin (some detB) = true := by kernel_rfl
theorem Dg.det (h : Dg c M) (hc : Kind c) : detF 128 M = some (some detB) := by
  obtain ⟨s', e1, _, e3, e4⟩ := h.steps hc
  unfold detF
  rw [e1]
  show (match detGo s'.piv s'.odd fone with
    | none => some fzero
    | some d => if (true && ffin d) = true then some d else none) = _
  rw [e3, e4, det_great]
  simp only [det_fin, Bool.and_true, if_true]
end
end Go.Proofs.Ytghhanifakllpaa
