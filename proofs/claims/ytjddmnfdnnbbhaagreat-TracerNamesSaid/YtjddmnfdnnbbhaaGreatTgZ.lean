/- The clean executor: regions of free order that are nearly a chain, one operation after the other. -/
import Derived.Test.YtjddmnfdnnbbhaaGreatKXZ
import Derived.Test.YtjddmnfdnnbbhaaGreatTaZ
set_option linter.unusedSimpArgs false
set_option linter.unusedVariables false
set_option linter.unusedVariables false
set_option linter.unusedSimpArgs false
namespace Go.Clean
open Go Go.RowKit
variable {P : Program} {call : Caller}
theorem apart_nil (a : Nat) : ∀ ls : List (Nat × List (Bool × Nat)), apartAll a [] ls = true
  | [] => rfl
  | (j, l) :: r => by
    show ((a.testBit j || apartL [] l) && apartAll a [] r) = true
    rw [apart_nil a r]
    simp [apartL]
theorem apart_full {a i : Nat} (ha : ((List.range i).all fun j => a.testBit j) = true) (log : List (Bool × Nat)) : ∀ ls : List (Nat × List (Bool × Nat)), (∀ p ∈ ls, p.1 < i) → apartAll a log ls = true
  | [], _ => rfl
  | (j, l) :: r, h => by
    show ((a.testBit j || apartL log l) && apartAll a log r) = true
    rw [apart_full ha log r fun p hp => h p (List.mem_cons_of_mem _ hp), List.all_eq_true.1 ha j (List.mem_range.2 (h (j, l) (List.mem_cons_self ..)))]
    rfl
/-- What is left of the region, whatever the rest has touched. -/
def DX (P : Program) (call : Caller) (ops : Array Oper) (l : List Oper) (as : List Nat) (i : Nat) (fr : Fr) (m : Mem) (Q : Fr → Mem → Prop) : Prop :=
  ∀ ls : List (Nat × List (Bool × Nat)), (∀ p ∈ ls, p.1 < i) → Gives (drawX P call ops l as i ls fr) m Q
section
variable {ops : Array Oper} {o : Oper} {l : List Oper} {a i : Nat} {as : List Nat} {fr : Fr} {m : Mem} {Q : Fr → Mem → Prop}
theorem DX.full (hd : isDefer o = false) (ha : ((List.range i).all fun j => a.testBit j) = true) (h : Gives (stepDX P call ops fr o) (m.lg []) fun fr' m' => DX P call ops l as (i + 1) fr' (m'.lg (m'.log ++ m.log)) Q) : DX P call ops (o :: l) (a :: as) i fr m Q := by
  intro ls hls
  rw [draw_cons ops o hd]
  refine h.mono fun fr' m' q => ⟨apart_full ha _ ls hls, q _ fun p hp => ?_⟩
  rcases List.mem_cons.1 hp with rfl | hp
  · exact Nat.lt_succ_self _
  · exact Nat.lt_succ_of_lt (hls p hp)
theorem DX.quiet (hd : isDefer o = false) (h : Gives (stepDX P call ops fr o) (m.lg []) fun fr' m' => m'.log = [] ∧ DX P call ops l as (i + 1) fr' (m'.lg (m'.log ++ m.log)) Q) : DX P call ops (o :: l) (a :: as) i fr m Q := by
  intro ls hls
  rw [draw_cons ops o hd]
  refine h.mono fun fr' m' q => ⟨by rw [q.1]; exact apart_nil a ls, q.2 _ fun p hp => ?_⟩
  rcases List.mem_cons.1 hp with rfl | hp
  · exact Nat.lt_succ_self _
  · exact Nat.lt_succ_of_lt (hls p hp)
theorem DX.nil (h : Q fr m) : DX P call ops [] as i fr m Q := fun ls _ => (draw_nil ops as i ls fr m Q).2 h
theorem code_chain {id : Nat} {plan : List Nat} {Q : CQ} (h : planX ops = some plan) (hg : ∀ ops' : Array Oper, ops' = ops → DX P call ops' ops.toList plan 0 fr m (regQ Q)) : Gives (codeX P call (.region id ops true) fr) m Q := code_draw_dyn h (hg ops rfl [] fun p hp => by cases hp)
end
theorem finT_tmp {σ : Type} {base : Nat} {fn : Func} {a : Tmp} {fr : Fr} {m : Mem} {Q : σ → Value → Mem → Prop} {e : Ex} {s : σ} (hr : fn.results.toList = [.tmp a]) (hd : fr.d = []) (he : e = .normal ∨ e = .ret) (h : Q s (fr.at a) m) : finT P base fn Q e s fr m := by
  refine ⟨he, ?_⟩
  unfold finX endX
  dsimp only
  rw [gives_bind, hd]
  unfold runDX
  rw [gives_ret, hr, gives_bind]
  unfold resX
  rw [gives_bind]
  unfold resX
  exact (gives_ret _ _ _).2 ((gives_ret _ _ _).2 ((gives_ret _ _ _).2 h))
end Go.Clean
