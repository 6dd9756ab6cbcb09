/- The clean executor, by triples: regions of free order with calls by contract in them. -/
import Derived.Test.YtjddmnfdnnbbhaaGreatTaZ
set_option linter.unusedSimpArgs false
set_option linter.unusedVariables false
set_option linter.unusedVariables false
set_option linter.unusedSimpArgs false
namespace Go.Clean
open Go Go.RowKit
variable {σ τ : Type} {P : Program}
/-- One operation. -/
def T1 (B : Start P σ) (r : Option Nat) (ops : Array Oper) (i : Nat) (s : σ) (fr : Fr) (m : Mem) (Q : σ → Fr → Mem → Prop) : Prop :=
  ∀ (a : Act) (w : World) (ρ : Env) (K : Act → World → Prop) (Kx : Exit → Act → World → Prop), B.At s fr m a w ρ →
    (∀ s' fr' m' a' w' ρ', Q s' fr' m' → B.At s' fr' m' a' w' ρ' → K a' w') → wpOpIn (wideR r) 0 P ops Kx i K a w
/-- Operations in whatever order. -/
def TA (B : Start P σ) (r : Option Nat) (ops : Array Oper) (fuel : Nat) (listed : Array Bool) (s : σ) (fr : Fr) (m : Mem) (Q : σ → Fr → Mem → Prop) : Prop :=
  ∀ (a : Act) (w : World) (ρ : Env) (K : Exit → Act → World → Prop), B.At s fr m a w ρ →
    (∀ s' fr' m' a' w' ρ', Q s' fr' m' → B.At s' fr' m' a' w' ρ' → K .normal a' w') → wpAnyIn (wideR r) 0 P .any ops K fuel listed a w
section
variable {B : Start P σ} {r : Option Nat} {s : σ} {fr : Fr} {m : Mem} {call : Caller}
theorem T1.step (hE : Exec P call) (hB : B.OK) {ops : Array Oper} {i : Nat} {o : Oper} {Q : σ → Fr → Mem → Prop} (ho : ops[i]? = some o) (hro : r = .none ∨ isDefer o = false) (h : Gives (stepDX P call ops fr o) m fun fr' m' => Q s fr' m') : T1 B r ops i s fr m Q := by
  intro a w ρ K Kx hat hK
  obtain ⟨fr', m', h1, hq⟩ := h
  have nle := next_mono (Local.stepDX hE.loc ops fr o) h1
  have hf : Fresh B.bs.ρ B.bs.m m' := fun b h _ => hB.bs.free b h
  unfold wpOpIn
  simp only [ho]
  exact stepD_does hE.ok hat.af.frame (hro.imp id fun hh c hc => by unfold isDefer at hh; rw [hc] at hh; cases hh) h1 hat.af.rel (hat.af.fresh hf hat.nx) fun a' w' ρ' ha => hK s fr' m' a' w' ρ' hq (hat.then hB ha nle)
theorem T1.tf (hB : B.OK) {ops : Array Oper} {i : Nat} {d : Tmp} {f : FuncId} {cargs : Array Operand} {tys : Array TypeId} {ty : TypeId} {pos : String} {af : Array Edge} {vs : List Value} {Q : σ → Fr → Mem → Prop}
    (ho : ops[i]? = some ⟨some d, .call ⟨.value (.func f), cargs, tys⟩, ty, pos, af, .none⟩) (hv : evs fr cargs.toList = some vs) (hd : d < fr.n) (h : TF P f vs m fun v m' => Q s (fr.upd d v) m') : T1 B r ops i s fr m Q := by
  intro a w ρ K Kx hat hK
  unfold wpOpIn
  simp only [ho]
  have hfresh : ∀ b, m.next ≤ b → ρ b = none := fun b hb => by
    by_cases hc : ρ b = none
    · exact hc
    · have := hat.af.dom b (hB.bs.free b (Nat.le_trans hat.nx hb)) hc
      omega
  obtain ⟨h1, h2⟩ := h B.bs.N ρ w (cargs.toList.map a.eval) hat.af.rel (evs_rel hat.af.frame hv) hfresh
  have hwant : Region.wanted (⟨some d, .call ⟨.value (.func f), cargs, tys⟩, ty, pos, af, .none⟩ : Oper) (yielded ops a.tmps) = true := rfl
  rw [if_pos hwant]
  refine ⟨fun _ _ => trivial, ?_⟩
  rw [Oper.semAt_eq _ _ _ (fun c hc => by cases hc)]
  have hrun : (execOp a.eval (⟨some d, .call ⟨.value (.func f), cargs, tys⟩, ty, pos, af, .none⟩ : Oper)).run P w = .ok (.enter f ⟨cargs.toList.map a.eval⟩) w := by
    have e : (execOp a.eval (⟨some d, .call ⟨.value (.func f), cargs, tys⟩, ty, pos, af, .none⟩ : Oper)).run P w = (callFunc f ⟨cargs.toList.map a.eval⟩).run P w := by
      unfold execOp
      simp only [resolve, Sem.run_bind, Act.eval, Deferred.ofValue, Sem.run_pure, Result.andThen_ok, invoke]
      congr 2
      apply Array.ext'
      simp [Act.eval]
    rw [e, h1]
  rw [hrun, Oper.uponIn_enter]
  refine ⟨fun h => by simp [Fence.wide] at h, CallsIn.mono (R := fun e w' => ∃ v v' m' ρ', e = .returned v' ∧ Q s (fr.upd d v) m' ∧ m.next ≤ m'.next ∧ After B.bs.N ρ m m' w v v' w' ρ') h2 ?_⟩
  rintro e w' ⟨v, v', m', ρ', rfl, hq, hn, hA⟩
  have hput : fr.put (some d) v m' = some (fr.upd d v, m') := by
    unfold Fr.put
    rw [putK_eq]
    simp only [hd, if_true]; rfl
  obtain ⟨hfr, _⟩ := (hat.af.frame.mono hA.ext).put hA.val hput
  exact hK s (fr.upd d v) m' _ w' ρ' hq (hat.then hB ⟨hA.ext, hA.dom, hA.rel, hfr, hA.below, hA.marks⟩ hn)
theorem TA.done {ops : Array Oper} {listed : Array Bool} {Q : σ → Fr → Mem → Prop} (hr : Region.ready .any ops listed = []) (h : Q s fr m) : TA B r ops 0 listed s fr m Q :=
  fun a w ρ K hat hK => ⟨hr, hK s fr m a w ρ h hat⟩
theorem TA.step {ops : Array Oper} {fuel : Nat} {listed : Array Bool} {Q : σ → Fr → Mem → Prop} (rs : List Nat) (hr : Region.ready .any ops listed = rs) (hne : rs.isEmpty = false) (h : ∀ i ∈ rs, T1 B r ops i s fr m fun s' fr' m' => TA B r ops fuel (listed.setIfInBounds i true) s' fr' m' Q) : TA B r ops (fuel + 1) listed s fr m Q := by
  intro a w ρ K hat hK
  refine ⟨fun h => ?_, fun i hi => ?_⟩
  · rw [hr] at h; subst h; cases hne
  · rw [hr] at hi
    exact h i hi a w ρ _ _ hat fun s' fr' m' a' w' ρ' hq hat' => hq a' w' ρ' K hat' hK
theorem TS.draw (hB : B.OK) (hm : P.follows .mixedOrders = true) {id : Nat} {ops : Array Oper} {Q : Ex → σ → Fr → Mem → Prop} (h : TA B r ops ops.size (Array.replicate ops.size false) s fr m (Q .normal)) : TS B r (.region id ops true) s fr m Q := by
  intro a w ρ K hat hK
  refine wpIn_region_any hm (h a _ ρ K ⟨⟨hat.af.ext, hat.af.dom, hat.af.rel.heap rfl, hat.af.frame, hat.af.below.drew, hat.af.marks⟩, hat.nx, hat.ext, hB.keep _ _ _ hat.lp fun k r _ h => h, hat.tp⟩ fun s' fr' m' a' w' ρ' hq hat' => hK .normal s' fr' m' a' w' ρ' hq hat')
end
end Go.Clean
