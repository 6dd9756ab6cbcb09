/- SolveAll, WHERE WHAT IT READS IS OF BULK AT MOST 1048576: every rows and two lists: the program's Solve, Pivots, Det and Off are the document's, bit by bit; they stay; two answers are apart. No other condition. -/
import Derived.Test.YtghhanifakllpaaPZ
namespace Go.Proofs.Ytghhanifakllpaa
open Go.RowKit Go.Clean Go.ChangeShapes Go.WideShapes Go.ChangeAt
set_option maxRecDepth 100000

theorem plc_facts (v : Value) : (plc v).sz = 1 ∧ (plc v).exact = true ∧ (plc v).off ≤ (plc v).fin := by
  unfold plc
  split
  · exact ⟨rfl, rfl, Nat.le_add_right _ _⟩
  · exact ⟨rfl, rfl, Nat.le_refl _⟩
section
variable {W : World} {v0 v1 v2 : Value} {rv : Nat → Value} {yss : List (List Nat)} {xs bs : List Nat}
def rowV' (N : Nat) (rv : Nat → Value) (v1 v2 : Value) (b : Nat) : Value := if b ≤ N then rv (b - 1) else if b = N + 1 then v1 else v2
def rowY (yss : List (List Nat)) (xs bs : List Nat) (b : Nat) : List Nat := if b ≤ yss.length then yss.getD (b - 1) [] else if b = yss.length + 1 then xs else bs
def hdrB (N : Nat) (rv : Nat → Value) : Blk := ⟨(List.range N).map fun i => absV (i + 1) (rv i), 1, false, true⟩
def blkF (yss : List (List Nat)) (xs bs : List Nat) (rv : Nat → Value) (b : Nat) : Blk := if b = 0 then hdrB yss.length rv else fBlk (rowY yss xs bs b)
def plcF (N : Nat) (v0 v1 v2 : Value) (rv : Nat → Value) (b : Nat) : Clean.Place := if b = 0 then plc v0 else plc (rowV' N rv v1 v2 b)
def argL (yss : List (List Nat)) (xs bs : List Nat) (rv : Nat → Value) : List Blk := (List.range (yss.length + 3)).map (blkF yss xs bs rv)
def argE (N : Nat) (v0 v1 v2 : Value) (rv : Nat → Value) : Env := fun b => if b < N + 3 then some (plcF N v0 v1 v2 rv b) else none
theorem arg_at (b : Nat) : (memOf (argL yss xs bs rv)).at b = if b < yss.length + 3 then some (blkF yss xs bs rv b) else none := by
  rw [memOf_at]
  unfold argL
  by_cases h : b < yss.length + 3
  · rw [if_pos h]; simp [h]
  · rw [if_neg h, List.getElem?_eq_none (by simp; omega)]
theorem arg_row (hM : MatC W v0 rv yss) (hX : RowC W v1 xs) (hB : RowC W v2 bs) {b : Nat} (h0 : b ≠ 0) (h1 : b < yss.length + 3) : RowC W (rowV' yss.length rv v1 v2 b) (rowY yss xs bs b) := by
  unfold rowV' rowY
  by_cases h2 : b ≤ yss.length
  · rw [if_pos h2, if_pos h2]
    rcases hM with ⟨_, rfl⟩ | ⟨a, cap, _, _, _, hall⟩
    · simp at h2; omega
    · exact (hall (b - 1) (by omega)).2
  · rw [if_neg h2, if_neg h2]
    by_cases h3 : b = yss.length + 1
    · rw [if_pos h3, if_pos h3]; exact hX
    · rw [if_neg h3, if_neg h3]; exact hB
theorem arg_rel (hM : MatC W v0 rv yss) (hX : RowC W v1 xs) (hB : RowC W v2 bs) : Rel W.heap.size (argE yss.length v0 v1 v2 rv) (memOf (argL yss xs bs rv)).t.get W := by
  have hro : ∀ b x, (memOf (argL yss xs bs rv)).at b = some x → x.ro = true := fun b x hb => by
    rw [arg_at] at hb
    split at hb
    · cases hb
      unfold blkF
      split <;> rfl
    · cases hb
  refine ⟨Nat.le_refl _, fun b x hb => ?_, fun b b' x x' p p' _ hb _ hr => ?_, fun b x p hb hp hm => ?_⟩
  · have hb' : (memOf (argL yss xs bs rv)).at b = some x := hb
    have hro' := hro b x hb'
    rw [arg_at] at hb'
    split at hb'
    · rename_i hlt
      cases hb'
      have hpl : argE yss.length v0 v1 v2 rv b = some (plcF yss.length v0 v1 v2 rv b) := by unfold argE; rw [if_pos hlt]
      have hcells : ∀ (i : Nat) (u : Value), (blkF yss xs bs rv b).cells[i]? = some u → ∃ u', W.cell? ⟨(plcF yss.length v0 v1 v2 rv b).blk, (plcF yss.length v0 v1 v2 rv b).off + i, none⟩ = some u' ∧ VR (argE yss.length v0 v1 v2 rv) u u' ∧ oneV u = true := by
        intro i u hi
        unfold blkF at hi
        unfold plcF
        by_cases h0 : b = 0
        · rw [if_pos h0] at hi ⊢
          have hlt2 : i < yss.length := by
            have := (List.getElem?_eq_some_iff.1 hi).1
            simpa [hdrB] using this
          have hu : u = absV (i + 1) (rv i) := by
            simp [hdrB, hlt2] at hi
            exact hi.symm
          subst hu
          have hk : argE yss.length v0 v1 v2 rv (i + 1) = some (plc (rv i)) := by
            unfold argE plcF rowV'
            rw [if_pos (by omega), if_neg (by omega), if_pos (by omega)]
            rfl
          rcases hM with ⟨_, rfl⟩ | ⟨a, cap, rfl, _, _, hall⟩
          · simp at hlt2
          · obtain ⟨h1, h2⟩ := hall i hlt2
            exact ⟨rv i, h1, row_VR h2 hk, absV_one _ _⟩
        · rw [if_neg h0] at hi ⊢
          exact row_cells (arg_row hM hX hB h0 hlt) hi
      refine ⟨_, hpl, ?_, ?_, hcells, fun _ => ?_, fun h => ?_⟩
      · unfold plcF blkF
        split
        · exact (plc_facts _).1.symm
        · exact (plc_facts _).1.symm
      · unfold plcF blkF
        split
        · rw [(plc_facts _).2.1]; rfl
        · rw [(plc_facts _).2.1]; rfl
      · cases hc : (blkF yss xs bs rv b).cells with
        | nil => exact .inl rfl
        | cons u l =>
          obtain ⟨u', h1, _⟩ := hcells 0 u (by rw [hc]; rfl)
          exact .inr (cell_lt h1)
      · rw [hro'] at h; cases h
    · cases hb'
  · have := hro b x hb
    rw [this] at hr; cases hr
  · unfold argE at hp
    split at hp
    · cases hp
      have := (plc_facts v0).2.2
      have := (plc_facts (rowV' yss.length rv v1 v2 b)).2.2
      unfold plcF at hm
      split at hm <;> omega
    · cases hp
theorem arg_FL (hM : MatC W v0 rv yss) (hX : RowC W v1 xs) (hB : RowC W v2 bs) {b : Nat} (h0 : b ≠ 0) (h1 : b < yss.length + 3) : FL (memOf (argL yss xs bs rv)) (absV b (rowV' yss.length rv v1 v2 b)) ((rowY yss xs bs b).map fl) := by
  refine row_FL (arg_row hM hX hB h0 h1) ?_
  rw [arg_at, if_pos h1]
  unfold blkF
  rw [if_neg h0]
theorem arg_FM (hM : MatC W v0 rv yss) (hX : RowC W v1 xs) (hB : RowC W v2 bs) : FM (memOf (argL yss xs bs rv)) (absV 0 v0) (flss yss) := by
  have hl : (flss yss).length = yss.length := by simp [flss]
  have hat : (memOf (argL yss xs bs rv)).at 0 = some (hdrB yss.length rv) := by rw [arg_at, if_pos (by omega)]; rfl
  rcases id hM with ⟨rfl, rfl⟩ | ⟨⟨b, o, s⟩, cap, rfl, hle, hs, hall⟩
  · exact ⟨none, 0, rfl, .inl ⟨rfl, rfl, rfl⟩⟩
  · simp only at hs
    subst hs
    refine ⟨some ⟨0, 0, none⟩, cap, by simp [absV, hl], .inr ⟨0, 0, _, rfl, hat, fun i hi => ?_⟩⟩
    rw [hl] at hi
    refine ⟨absV (i + 1) (rv i), by simp [hdrB, hi], ?_⟩
    have := arg_FL (v1 := v1) (v2 := v2) hM hX hB (b := i + 1) (by omega) (by omega)
    unfold rowV' rowY at this
    rw [if_pos (by omega), if_pos (by omega)] at this
    simpa [rat', flss, List.getD, hi] using this
theorem law_walk (hM : MatC W v0 rv yss) (hX : RowC W v1 xs) (hB : RowC W v2 bs) (hf : fewTo (flss yss) yss.length ≤ 3000000) :
    Calls Try.prog 4 #[v0, v1, v2] W fun e W' => e = .returned (.bool true) ∧ Below W.heap.size W W' := by
  have hX' := arg_FL (v1 := v1) (v2 := v2) hM hX hB (b := yss.length + 1) (by omega) (by omega)
  have hB' := arg_FL (v1 := v1) (v2 := v2) hM hX hB (b := yss.length + 2) (by omega) (by omega)
  have ex : rowV' yss.length rv v1 v2 (yss.length + 1) = v1 := by unfold rowV'; rw [if_neg (by omega), if_pos rfl]
  have eb : rowV' yss.length rv v1 v2 (yss.length + 2) = v2 := by unfold rowV'; rw [if_neg (by omega), if_neg (by omega)]
  rw [ex] at hX'
  rw [eb] at hB'
  obtain ⟨v, m', hrun, rfl, _⟩ := solveAll_ok kn1_KQ 0 (flss yss) _ _ _ _ _ (memOf (argL yss xs bs rv)) (memOf_wf _) (arg_FM hM hX hB) hX' hB' (by rw [show (flss yss).length = yss.length by simp [flss]]; exact hf)
  have hρ0 : argE yss.length v0 v1 v2 rv 0 = some (plc v0) := by unfold argE plcF; rw [if_pos (by omega), if_pos rfl]
  have hρ1 : argE yss.length v0 v1 v2 rv (yss.length + 1) = some (plc v1) := by unfold argE plcF; rw [if_pos (by omega), if_neg (by omega), ex]
  have hρ2 : argE yss.length v0 v1 v2 rv (yss.length + 2) = some (plc v2) := by unfold argE plcF; rw [if_pos (by omega), if_neg (by omega), eb]
  refine (calls_of kn1_ok mix back_ok noC (n := 5) (kn1_KP.non _ rfl _) hrun (arg_rel hM hX hB) (.cons (mat_VR hM hρ0) (.cons (row_VR hX hρ1) (.cons (row_VR hB hρ2) .nil))) (fun b h1 _ => ?_)).mono fun e W' he => ?_
  · rw [memOf_next] at h1
    unfold argE
    rw [if_neg (by simp [argL] at h1; omega)]
  · obtain ⟨v', ρ', rfl, hA⟩ := he
    exact ⟨by rw [hA.val.bool], hA.below.below⟩
end
end Go.Proofs.Ytghhanifakllpaa
