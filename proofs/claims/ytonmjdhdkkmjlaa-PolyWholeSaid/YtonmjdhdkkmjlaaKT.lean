/- The clean executor: what a closed call of plain arguments has answered once, it answers always. -/
import Derived.Test.YtonmjdhdkkmjlaaKS
set_option linter.unusedVariables false
set_option linter.unusedSimpArgs false
namespace Go.Clean
open Go Go.RowKit
variable {P : Program}

/-- Plain values alike. -/
def eqL : Value → Value → Bool
  | .bool a, .bool b => a == b
  | .int k a, .int l b => k == l && a == b
  | .float k a, .float l b => k == l && a == b
  | .complex k a b, .complex l c d => k == l && a == c && b == d
  | _, _ => false
theorem eqL_eq {v v' : Value} (h : eqL v v' = true) : v = v' := by
  unfold eqL at h
  split at h
  · obtain rfl := eq_of_beq h; rfl
  · simp only [Bool.and_eq_true, beq_iff_eq] at h; obtain ⟨rfl, rfl⟩ := h; rfl
  · simp only [Bool.and_eq_true, beq_iff_eq] at h; obtain ⟨rfl, rfl⟩ := h; rfl
  · simp only [Bool.and_eq_true, beq_iff_eq] at h; obtain ⟨⟨rfl, rfl⟩, rfl⟩ := h; rfl
  · cases h
def eqLs : List Value → List Value → Bool
  | [], [] => true
  | a :: l, b :: k => eqL a b && eqLs l k
  | _, _ => false
theorem eqLs_eq : ∀ {l k : List Value}, eqLs l k = true → l = k
  | [], [], _ => rfl
  | [], _ :: _, h => by simp [eqLs] at h
  | _ :: _, [], h => by simp [eqLs] at h
  | a :: l, b :: k, h => by
    simp only [eqLs, Bool.and_eq_true] at h
    rw [eqL_eq h.1, eqLs_eq h.2]
def eqV : Value → Value → Bool
  | .agg ⟨l⟩, .agg ⟨k⟩ => eqLs l k
  | a, b => eqL a b
theorem eqV_eq {v v' : Value} (h : eqV v v' = true) : v = v' := by
  unfold eqV at h
  split at h
  · rw [eqLs_eq h]
  · exact eqL_eq h
def eqVs : List Value → List Value → Bool
  | [], [] => true
  | a :: l, b :: k => eqV a b && eqVs l k
  | _, _ => false
theorem eqVs_eq : ∀ {l k : List Value}, eqVs l k = true → l = k
  | [], [], _ => rfl
  | [], _ :: _, h => by simp [eqVs] at h
  | _ :: _, [], h => by simp [eqVs] at h
  | a :: l, b :: k, h => by
    simp only [eqVs, Bool.and_eq_true] at h
    rw [eqV_eq h.1, eqVs_eq h.2]

theorem VR.moveL {ρ ρ' : Env} {v v' : Value} (h : leafV v = true) (hv : VR ρ v v') : VR ρ' v v' := by
  unfold leafV at h
  split at h <;> first | (cases h; done) | skip
  all_goals first
    | exact hv
    | (obtain ⟨a, b, e, h1, h2⟩ := hv.fun'
       cases h1; cases h2
       subst e
       exact ⟨_, _, rfl, .nil, .nil⟩)
theorem VRs.moveL {ρ ρ' : Env} : ∀ {l l' : List Value}, l.all leafV = true → VRs ρ l l' → VRs ρ' l l'
  | [], _, _, h => h
  | v :: l, _, h, hv => by
    simp only [List.all_cons, Bool.and_eq_true] at h
    obtain ⟨a, b, rfl, h1, h2⟩ := hv
    exact ⟨a, b, rfl, .moveL h.1 h1, VRs.moveL h.2 h2⟩
theorem VR.move {ρ ρ' : Env} {v v' : Value} (h : plainV v = true) (hv : VR ρ v v') : VR ρ' v v' := by
  unfold plainV at h
  split at h
  · obtain ⟨l', rfl, h1⟩ := hv.agg'
    exact ⟨_, rfl, .moveL h h1⟩
  · obtain ⟨l', rfl, h1⟩ := hv.tup
    exact ⟨_, rfl, .moveL h h1⟩
  · exact .moveL h hv
theorem VRs.move {ρ ρ' : Env} : ∀ {l l' : List Value}, l.all plainV = true → VRs ρ l l' → VRs ρ' l l'
  | [], _, _, h => h
  | v :: l, _, h, hv => by
    simp only [List.all_cons, Bool.and_eq_true] at h
    obtain ⟨a, b, rfl, h1, h2⟩ := hv
    exact ⟨a, b, rfl, .move h.1 h1, VRs.move h.2 h2⟩

theorem Rel.none (w : World) : Rel w.heap.size (fun _ => Option.none) (Mem.empty.t.get) w :=
  ⟨Nat.le_refl _, fun b x hb => by simp [Mem.empty, Trie.get] at hb, fun b b' x x' p p' _ hb => by simp [Mem.empty, Trie.get] at hb, fun b x p hb => by simp [Mem.empty, Trie.get] at hb⟩

theorem memo_ok {call : Caller} (hcall : CallOK P call) {f : FuncId} {lits : List Value} {v : Value} (hrun : (match call f lits .empty with
    | some (u, _) => eqV u v
    | none => false) = true) (hl : lits.all plainV = true) (hv : plainV v = true) : Local (M.ret v) ∧
    ∀ m v1 m1, M.ret v m = some (v1, m1) → ∀ N ρ w cargs, Rel N ρ m.t.get w → VRs ρ lits cargs → Fresh ρ m m1 → Does P N ρ m m1 w v1 (callFunc f ⟨cargs⟩) := by
  refine ⟨Local.ret _, fun m v1 m1 h N ρ w cargs hr ha hf => ?_⟩
  obtain ⟨rfl, rfl⟩ := ret_some h
  cases hc : call f lits .empty with
  | none => rw [hc] at hrun; cases hrun
  | some q =>
    obtain ⟨u, m'⟩ := q
    rw [hc] at hrun
    obtain rfl := eqV_eq hrun
    intro r o a K Q hK
    refine hcall f lits .empty u m' hc w.heap.size (fun _ => Option.none) w cargs (Rel.none w) (VRs.move hl ha) (fun _ _ _ => rfl) r o a K Q fun v' w' ρ' hA => ?_
    exact hK v' w' ρ ⟨.refl ρ, fun b h h' => absurd h h', hr.later hA.below.below, VR.move hv hA.val, Keeps.of_below hr.base hA.below.below, fun b p h h' => absurd (h.symm.trans h') (by simp)⟩
end Go.Clean
