/- SolveOff: the arguments in the clean memory. -/
import Derived.Test.YtghhanifakllpaaVtY
set_option linter.unusedSimpArgs false
set_option linter.unusedVariables false
namespace Go.Proofs.Ytghhanifakllpaa
open Go.RowKit Go.Clean Go.ChangeShapes Go.WideShapes Go.ChangeAt
set_option maxRecDepth 100000

theorem plc_facts (v : Value) : (plc v).sz = 1 ∧ (plc v).exact = true ∧ (plc v).off ≤ (plc v).fin := by
  unfold plc
  split
  · exact ⟨rfl, rfl, Nat.le_add_right _ _⟩
  · exact ⟨rfl, rfl, Nat.le_refl _⟩
section
variable {W : World} {v0 v1 : Value} {rv : Nat → Value} {yss : List (List Nat)} {bs : List Nat}
def rowV' (N : Nat) (rv : Nat → Value) (v1 : Value) (b : Nat) : Value := if b ≤ N then rv (b - 1) else v1
def rowY (yss : List (List Nat)) (bs : List Nat) (b : Nat) : List Nat := if b ≤ yss.length then yss.getD (b - 1) [] else bs
def hdrB (N : Nat) (rv : Nat → Value) : Blk := ⟨(List.range N).map fun i => absV (i + 1) (rv i), 1, false, true⟩
def blkF (yss : List (List Nat)) (bs : List Nat) (rv : Nat → Value) (b : Nat) : Blk := if b = 0 then hdrB yss.length rv else fBlk (rowY yss bs b)
def plcF (N : Nat) (v0 v1 : Value) (rv : Nat → Value) (b : Nat) : Clean.Place := if b = 0 then plc v0 else plc (rowV' N rv v1 b)
def argL (yss : List (List Nat)) (bs : List Nat) (rv : Nat → Value) : List Blk := (List.range (yss.length + 2)).map (blkF yss bs rv)
def argE (N : Nat) (v0 v1 : Value) (rv : Nat → Value) : Env := fun b => if b < N + 2 then some (plcF N v0 v1 rv b) else none
theorem arg_at (b : Nat) : (memOf (argL yss bs rv)).at b = if b < yss.length + 2 then some (blkF yss bs rv b) else none := by
  rw [memOf_at]
  unfold argL
  by_cases h : b < yss.length + 2
  · rw [if_pos h]; simp [h]
  · rw [if_neg h, List.getElem?_eq_none (by simp; omega)]
theorem arg_row (hM : MatC W v0 rv yss) (hB : RowC W v1 bs) {b : Nat} (h0 : b ≠ 0) (h1 : b < yss.length + 2) : RowC W (rowV' yss.length rv v1 b) (rowY yss bs b) := by
  unfold rowV' rowY
  by_cases h2 : b ≤ yss.length
  · rw [if_pos h2, if_pos h2]
    rcases hM with ⟨_, rfl⟩ | ⟨a, cap, _, _, _, hall⟩
    · simp at h2; omega
    · exact (hall (b - 1) (by omega)).2
  · rw [if_neg h2, if_neg h2]; exact hB
theorem arg_rel (hM : MatC W v0 rv yss) (hB : RowC W v1 bs) : Rel W.heap.size (argE yss.length v0 v1 rv) (memOf (argL yss bs rv)).t.get W := by
  have hro : ∀ b x, (memOf (argL yss bs rv)).at b = some x → x.ro = true := fun b x hb => by
    rw [arg_at] at hb
    split at hb
    · cases hb
      unfold blkF
      split <;> rfl
    · cases hb
  refine ⟨Nat.le_refl _, fun b x hb => ?_, fun b b' x x' p p' _ hb _ hr => ?_, fun b x p hb hp hm => ?_⟩
  · have hb' : (memOf (argL yss bs rv)).at b = some x := hb
    have hro' := hro b x hb'
    rw [arg_at] at hb'
    split at hb'
    · rename_i hlt
      cases hb'
      have hpl : argE yss.length v0 v1 rv b = some (plcF yss.length v0 v1 rv b) := by unfold argE; rw [if_pos hlt]
      have hcells : ∀ (i : Nat) (u : Value), (blkF yss bs rv b).cells[i]? = some u → ∃ u', W.cell? ⟨(plcF yss.length v0 v1 rv b).blk, (plcF yss.length v0 v1 rv b).off + i, none⟩ = some u' ∧ VR (argE yss.length v0 v1 rv) u u' ∧ oneV u = true := by
        intro i u hi
        unfold blkF at hi
        unfold plcF
        by_cases h0 : b = 0
        · rw [if_pos h0] at hi ⊢
          have hlt2 : i < yss.length := by
            have := (List.getElem?_eq_some_iff.1 hi).1
            simpa [hdrB] using this
          have hu : u = absV (i + 1) (rv i) := by
            simp [hdrB, hlt2] at hi
            exact hi.symm
          subst hu
          have hk : argE yss.length v0 v1 rv (i + 1) = some (plc (rv i)) := by
            unfold argE plcF rowV'
            rw [if_pos (by omega), if_neg (by omega), if_pos (by omega)]
            rfl
          rcases hM with ⟨_, rfl⟩ | ⟨a, cap, rfl, _, _, hall⟩
          · simp at hlt2
          · obtain ⟨h1, h2⟩ := hall i hlt2
            exact ⟨rv i, h1, row_VR h2 hk, absV_one _ _⟩
        · rw [if_neg h0] at hi ⊢
          exact row_cells (arg_row hM hB h0 hlt) hi
      refine ⟨_, hpl, ?_, ?_, hcells, fun _ => ?_, fun h => ?_⟩
      · unfold plcF blkF
        split
        · exact (plc_facts _).1.symm
        · exact (plc_facts _).1.symm
      · unfold plcF blkF
        split
        · rw [(plc_facts _).2.1]; rfl
        · rw [(plc_facts _).2.1]; rfl
      · cases hc : (blkF yss bs rv b).cells with
        | nil => exact .inl rfl
        | cons u l =>
          obtain ⟨u', h1, _⟩ := hcells 0 u (by rw [hc]; rfl)
          exact .inr (cell_lt h1)
      · rw [hro'] at h; cases h
    · cases hb'
  · have := hro b x hb
    rw [this] at hr; cases hr
  · unfold argE at hp
    split at hp
    · cases hp
      have := (plc_facts v0).2.2
      have := (plc_facts (rowV' yss.length rv v1 b)).2.2
      unfold plcF at hm
      split at hm <;> omega
    · cases hp
theorem arg_FL (hM : MatC W v0 rv yss) (hB : RowC W v1 bs) {b : Nat} (h0 : b ≠ 0) (h1 : b < yss.length + 2) : FL (memOf (argL yss bs rv)) (absV b (rowV' yss.length rv v1 b)) ((rowY yss bs b).map fl) := by
  refine row_FL (arg_row hM hB h0 h1) ?_
  rw [arg_at, if_pos h1]
  unfold blkF
  rw [if_neg h0]
theorem arg_FM (hM : MatC W v0 rv yss) (hB : RowC W v1 bs) : FM (memOf (argL yss bs rv)) (absV 0 v0) (flss yss) := by
  have hl : (flss yss).length = yss.length := by simp [flss]
  have hat : (memOf (argL yss bs rv)).at 0 = some (hdrB yss.length rv) := by rw [arg_at, if_pos (by omega)]; rfl
  rcases id hM with ⟨rfl, rfl⟩ | ⟨⟨b, o, s⟩, cap, rfl, hle, hs, hall⟩
  · exact ⟨none, 0, rfl, .inl ⟨rfl, rfl, rfl⟩⟩
  · simp only at hs
    subst hs
    refine ⟨some ⟨0, 0, none⟩, cap, by simp [absV, hl], .inr ⟨0, 0, _, rfl, hat, fun i hi => ?_⟩⟩
    rw [hl] at hi
    refine ⟨absV (i + 1) (rv i), by simp [hdrB, hi], ?_⟩
    have := arg_FL (v1 := v1) hM hB (b := i + 1) (by omega) (by omega)
    unfold rowV' rowY at this
    rw [if_pos (by omega), if_pos (by omega)] at this
    simpa [rat', flss, List.getD, hi] using this
theorem fat_fl {ys : List Nat} {j : Nat} (hj : j < ys.length) : fat (ys.map fl) j = fl (ys.getD j 0) := by
  unfold fat; simp [List.getD, hj]
theorem fat_no {ys : List Nat} {j : Nat} (hj : ¬ j < ys.length) : fat (ys.map fl) j = none := by
  unfold fat; simp [List.getD, hj]
theorem flss_64 (h : ∀ i, Lo (yss.getD i [])) (i j : Nat) : B64 (fat (rat' (flss yss) i) j) := by
  intro b hb
  by_cases hi : i < yss.length
  · have e1 : rat' (flss yss) i = (yss.getD i []).map fl := by simp [rat', flss, List.getD, hi]
    rw [e1] at hb
    by_cases hj : j < (yss.getD i []).length
    · rw [fat_fl hj] at hb
      unfold fl at hb
      split at hb
      · cases hb
      · cases hb; exact h i j
    · rw [fat_no hj] at hb; cases hb
  · have e1 : rat' (flss yss) i = [] := by
      unfold rat' flss
      rw [List.getD_eq_getElem?_getD, List.getElem?_eq_none (by simpa using hi)]; rfl
    rw [e1] at hb; cases hb
theorem fls_64 (h : Lo bs) (j : Nat) : B64 (fat (bs.map fl) j) := by
  intro b hb
  by_cases hj : j < bs.length
  · rw [fat_fl hj] at hb
    unfold fl at hb
    split at hb
    · cases hb
    · cases hb; exact h j
  · rw [fat_no hj] at hb; cases hb
theorem law_walk (hM : MatC W v0 rv yss) (hB : RowC W v1 bs) (hl0 : ∀ i, Lo (yss.getD i [])) (hl1 : Lo bs) :
    Calls Try.prog 6 #[v0, v1] W fun e W' => e = .returned (.bool true) ∧ Below W.heap.size W W' := by
  have hB' := arg_FL (v1 := v1) hM hB (b := yss.length + 1) (by omega) (by omega)
  have eb : rowV' yss.length rv v1 (yss.length + 1) = v1 := by unfold rowV'; rw [if_neg (by omega)]
  have ey : rowY yss bs (yss.length + 1) = bs := by unfold rowY; rw [if_neg (by omega)]
  rw [eb, ey] at hB'
  obtain ⟨v, m', hrun, rfl⟩ := off_walk 0 (m := memOf (argL yss bs rv)) (memOf_wf _) (arg_FM hM hB) hB' (flss_64 hl0) (fls_64 hl1) (Q := fun r _ => r = .bool true) fun _ _ => rfl
  have hρ0 : argE yss.length v0 v1 rv 0 = some (plc v0) := by unfold argE plcF; rw [if_pos (by omega), if_pos rfl]
  have hρ1 : argE yss.length v0 v1 rv (yss.length + 1) = some (plc v1) := by unfold argE plcF; rw [if_pos (by omega), if_neg (by omega), eb]
  refine (calls_of kn1_ok mix back_ok noC (n := 8) rfl hrun (arg_rel hM hB) (.cons (mat_VR hM hρ0) (.cons (row_VR hB hρ1) .nil)) (fun b h1 _ => ?_)).mono fun e W' he => ?_
  · rw [memOf_next] at h1
    unfold argE
    rw [if_neg (by simp [argL] at h1; omega)]
  · obtain ⟨v', ρ', rfl, hA⟩ := he
    exact ⟨by rw [hA.val.bool], hA.below.below⟩
end
end Go.Proofs.Ytghhanifakllpaa
