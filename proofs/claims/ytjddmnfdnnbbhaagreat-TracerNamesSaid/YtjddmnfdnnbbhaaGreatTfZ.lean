/- The clean executor, by triples: regions of free order, by what holds at each set of operations that are done. -/
import Derived.Test.YtjddmnfdnnbbhaaGreatTeZ
set_option linter.unusedSimpArgs false
set_option linter.unusedVariables false
set_option linter.unusedVariables false
set_option linter.unusedSimpArgs false
namespace Go.Clean
open Go Go.RowKit
variable {σ : Type} {P : Program}
/-- These are done. -/
def LM (n mask : Nat) : Array Bool := ⟨(List.range n).map fun i => mask.testBit i⟩
def popM (n mask : Nat) : Nat := ((List.range n).filter fun i => mask.testBit i).length
def closedM (deps : List Nat) (mask : Nat) : Bool := deps.zipIdx.all fun (d, i) => !mask.testBit i || (d &&& mask) == d
def okM (ops : Array Oper) (n M0 M1 : Nat) (deps : List Nat) (mask : Nat) : Bool :=
  let rs := Region.ready .any ops (LM n mask)
  !rs.isEmpty && Nat.blt (popM n mask) (popM n M1) && rs.all fun i => !mask.testBit i && ((deps.getD i 0 &&& mask) == deps.getD i 0) && closedM deps (mask ||| 2 ^ i) && Nat.ble (mask ||| 2 ^ i) M1 && ((mask ||| 2 ^ i) &&& M0) == M0 && popM n (mask ||| 2 ^ i) == popM n mask + 1 && ((LM n mask).setIfInBounds i true).toList == (LM n (mask ||| 2 ^ i)).toList
def okAll (ops : Array Oper) (n M0 M1 : Nat) (deps : List Nat) : Bool := (List.range M1).all fun mask => !((mask &&& M0) == M0) || !closedM deps mask || okM ops n M0 M1 deps mask
section
variable {B : Start P σ} {r : Option Nat} {s : σ}
theorem TA.pre {ops : Array Oper} {n M0 M1 k : Nat} {deps : List Nat} {Q : σ → Fr → Mem → Prop} (hok : okAll ops n M0 M1 deps = true) (J : Nat → Fr → Mem → Prop)
    (hstep : ∀ mask i fr m, mask.testBit i = false → (deps.getD i 0 &&& mask) = deps.getD i 0 → mask ||| 2 ^ i ≤ M1 → J mask fr m → T1 B r ops i s fr m fun s' fr' m' => s' = s ∧ J (mask ||| 2 ^ i) fr' m')
    (hend : ∀ fr m, J M1 fr m → TA B r ops k (LM n M1) s fr m Q) :
    ∀ (j mask : Nat) (fr : Fr) (m : Mem), popM n M1 - popM n mask = j → mask ≤ M1 → (mask &&& M0) = M0 → closedM deps mask = true → J mask fr m → TA B r ops (k + j) (LM n mask) s fr m Q := by
  intro j
  induction j with
  | zero =>
    intro mask fr m hj hle h0 hcl hJ
    by_cases h : mask = M1
    · subst h
      exact hend fr m hJ
    · have hlt : mask < M1 := by omega
      have := List.all_eq_true.1 hok mask (List.mem_range.2 hlt)
      simp only [h0, beq_self_eq_true, Bool.not_true, Bool.false_or, hcl] at this
      unfold okM at this
      simp only [Bool.and_eq_true, Nat.blt_eq] at this
      omega
  | succ j ih =>
    intro mask fr m hj hle h0 hcl hJ
    by_cases h : mask = M1
    · subst h; omega
    · have hlt : mask < M1 := by omega
      have := List.all_eq_true.1 hok mask (List.mem_range.2 hlt)
      simp only [h0, beq_self_eq_true, Bool.not_true, Bool.false_or, hcl] at this
      unfold okM at this
      simp only [Bool.and_eq_true, Nat.blt_eq] at this
      obtain ⟨⟨h1, h2⟩, h3⟩ := this
      refine TA.step _ rfl (by simpa using h1) fun i hi => ?_
      have h4 := List.all_eq_true.1 h3 i hi
      simp only [Bool.and_eq_true, Nat.ble_eq, beq_iff_eq] at h4
      obtain ⟨⟨⟨⟨⟨⟨g1, g2⟩, g3⟩, g4⟩, g5⟩, g6⟩, g7⟩ := h4
      have g8 : (LM n mask).setIfInBounds i true = LM n (mask ||| 2 ^ i) := Array.ext' g7
      have ht := hstep mask i fr m (by simpa using g1) g2 g4 hJ
      rw [g8]
      intro a w ρ K Kx hat hK
      refine ht a w ρ K Kx hat fun s' fr' m' a' w' ρ' hq hat' => ?_
      obtain ⟨rfl, hJ'⟩ := hq
      exact hK s' fr' m' a' w' ρ' (ih _ fr' m' (by omega) g4 g5 g3 hJ') hat'
theorem TS.drawM (hB : B.OK) (hm : P.follows .mixedOrders = true) {id : Nat} {ops : Array Oper} {n : Nat} {fr : Fr} {m : Mem} {Q : Ex → σ → Fr → Mem → Prop} (hn : ops.size = n) (h0 : (Array.replicate n false).toList = (LM n 0).toList) (h : TA B r ops n (LM n 0) s fr m (Q .normal)) : TS B r (.region id ops true) s fr m Q := by
  refine TS.draw hB hm ?_
  rw [hn, show Array.replicate n false = LM n 0 from Array.ext' h0]
  exact h
theorem TA.one {ops : Array Oper} {n mask i fuel : Nat} {fr : Fr} {m : Mem} {Q : σ → Fr → Mem → Prop} (hr : Region.ready .any ops (LM n mask) = [i]) (hs : ((LM n mask).setIfInBounds i true).toList = (LM n (mask ||| 2 ^ i)).toList) (h : T1 B r ops i s fr m fun s' fr' m' => TA B r ops fuel (LM n (mask ||| 2 ^ i)) s' fr' m' Q) : TA B r ops (fuel + 1) (LM n mask) s fr m Q := by
  refine TA.step [i] hr rfl fun k hk => ?_
  obtain rfl := List.mem_singleton.1 hk
  rw [show (LM n mask).setIfInBounds k true = LM n (mask ||| 2 ^ k) from Array.ext' hs]
  exact h
theorem T1.keep {ops : Array Oper} {i : Nat} {o : Oper} {call : Caller} {fr : Fr} {m : Mem} {J : Fr → Mem → Prop} (hE : Exec P call) (hB : B.OK) (ho : ops[i]? = some o) (hro : r = .none ∨ isDefer o = false) (h : Gives (stepDX P call ops fr o) m J) : T1 B r ops i s fr m fun s' fr' m' => s' = s ∧ J fr' m' :=
  T1.step hE hB ho hro (h.mono fun _ _ hj => ⟨rfl, hj⟩)
theorem lt_of_pow {i c M mask : Nat} (h : mask ||| 2 ^ i ≤ M) (hM : M < 2 ^ c) : i < c := by
  have h1 : 2 ^ i ≤ mask ||| 2 ^ i := Nat.right_le_or
  exact (Nat.pow_lt_pow_iff_right (by omega)).1 (Nat.lt_of_le_of_lt (Nat.le_trans h1 h) hM)
def bitOn (mask j : Nat) : Prop := mask.testBit j = true
theorem bon {mask k j : Nat} (h : bitOn (mask ||| k) j) (hk : Nat.testBit k j = false) : bitOn mask j := by
  unfold bitOn at *
  rw [Nat.testBit_or, hk, Bool.or_false] at h
  exact h
theorem bdep {mask k j : Nat} (h : (k &&& mask) = k) (hk : Nat.testBit k j = true) : bitOn mask j := by
  unfold bitOn
  have := congrArg (Nat.testBit · j) h
  simp only [Nat.testBit_and, hk, Bool.true_and] at this
  exact this
theorem bit0 {j : Nat} (h : bitOn 0 j) : False := by
  unfold bitOn at h
  simp at h
end
end Go.Clean
