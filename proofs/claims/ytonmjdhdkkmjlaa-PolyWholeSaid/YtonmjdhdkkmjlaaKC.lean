/- The clean executor: each piece is local. -/
import Derived.Test.YtonmjdhdkkmjlaaKB
set_option linter.unusedVariables false
set_option linter.unusedSimpArgs false
namespace Go.Clean
open Go
variable {P : Program}

theorem Local.newX (cells : List Value) (sz : Nat) (grow : Bool) : Local (newX cells sz grow) := by
  unfold Clean.newX
  refine Local.bind (Local.guard _) fun _ => Local.congr (g := Clean.newB { cells, sz, grow, ro := false }) (fun m => by rw [valsK_eq]) (Local.newB _)

theorem Local.loadX (t : TypeId) (a : Value) : Local (loadX P t a) := by
  unfold Clean.loadX
  repeat' (first | exact Local.fail | exact Local.ret _ | exact Local.lift _ | exact Local.guard _ | exact Local.getB _ | refine Local.bind ?_ fun _ => ?_ | split)

theorem Local.laid {α : Type} (cs : List Value) (o : Nat) (vs : List Value) (g : List Value → M α) (h : ∀ l, Local (g l)) :
    Local (fun m => layK cs o vs fun
      | some l => g l m
      | none => none) := by
  refine Local.congr (g := match lay cs o vs with
    | some l => g l
    | none => M.fail) (fun m => ?_) ?_
  · rw [layK_eq]
    cases lay cs o vs <;> rfl
  · cases lay cs o vs with
    | none => exact Local.fail
    | some l => exact h l

theorem Local.storeX (t : TypeId) (a x : Value) : Local (storeX P t a x) := by
  unfold Clean.storeX
  split
  · refine Local.bind (Local.getB _) fun blk => Local.bind (Local.guard _) fun _ => Local.laid _ _ _ _ fun l => Local.bind (Local.setB _ _) fun _ => Local.ret _
  · exact Local.fail

theorem Local.buildSliceX (t : TypeId) (len : Nat) (ps : List (Nat × Value)) : Local (buildSliceX P t len ps) := by
  unfold Clean.buildSliceX
  repeat' (first | exact Local.fail | exact Local.ret _ | exact Local.lift _ | exact Local.guard _ | exact Local.getB _ | exact Local.newX _ _ _ | refine Local.bind ?_ fun _ => ?_ | split)
theorem Local.makeSliceX (t : TypeId) (l c : Value) : Local (makeSliceX P t l c) := by
  unfold Clean.makeSliceX
  repeat' (first | exact Local.fail | exact Local.ret _ | exact Local.lift _ | exact Local.guard _ | exact Local.getB _ | exact Local.newX _ _ _ | refine Local.bind ?_ fun _ => ?_ | split)
theorem Local.cond {α : Type} {b : Bool} {f g : M α} (hf : Local f) (hg : Local g) : Local (bif b then f else g) := by cases b <;> assumption
theorem Local.sliceX (t : TypeId) (x : Value) (lo hi mx : Option Value) : Local (sliceX P t x lo hi mx) := by
  unfold Clean.sliceX
  repeat' (first | exact Local.fail | exact Local.ret _ | exact Local.lift _ | exact Local.guard _ | exact Local.getB _ | exact Local.newB _ | refine Local.bind ?_ fun _ => ?_ | refine Local.cond ?_ ?_ | split)
theorem Local.elemsX (x : Value) (n : Nat) : Local (elemsX x n) := by
  unfold Clean.elemsX
  repeat' (first | exact Local.fail | exact Local.ret _ | exact Local.getB _ | refine Local.bind ?_ fun _ => ?_ | split)
theorem Local.appendX (t u : TypeId) (s x : Value) : Local (appendX P t u s x) := by
  unfold Clean.appendX
  repeat' (first | exact Local.fail | exact Local.ret _ | exact Local.lift _ | exact Local.guard _ | exact Local.getB _ | exact Local.newX _ _ _ | exact Local.setB _ _ | exact Local.elemsX _ _
                 | refine Local.laid _ _ _ _ fun _ => ?_ | refine Local.bind ?_ fun _ => ?_ | refine Local.cond ?_ ?_ | split)
theorem Local.takenX (s : Value) (n k : Nat) : Local (takenX s n k) := by
  unfold Clean.takenX
  repeat' (first | exact Local.fail | exact Local.ret _ | exact Local.getB _ | refine Local.bind ?_ fun _ => ?_ | split)
theorem Local.copyX (t : TypeId) (d s : Value) : Local (copyX P t d s) := by
  unfold Clean.copyX
  repeat' (first | exact Local.fail | exact Local.ret _ | exact Local.lift _ | exact Local.guard _ | exact Local.getB _ | exact Local.newX _ _ _ | exact Local.setB _ _ | exact Local.takenX _ _ _
                 | refine Local.laid _ _ _ _ fun _ => ?_ | refine Local.bind ?_ fun _ => ?_ | refine Local.cond ?_ ?_ | split)

def LocalC (call : Caller) : Prop := ∀ f args, Local (call f args)

theorem Local.capX (t : TypeId) (x : Value) : Local (capX P t x) := by
  unfold Clean.capX
  split
  · exact Local.ret _
  · exact Local.bind (Local.getB _) fun _ => Local.bind (Local.guard _) fun _ => Local.ret _
  · exact Local.fail
theorem Local.zerosX (t u : TypeId) (n : Int) : Local (zerosX P t u n) := by
  unfold Clean.zerosX
  repeat' (first | exact Local.fail | exact Local.ret _ | exact Local.guard _ | exact Local.newX _ _ _ | refine Local.bind ?_ fun _ => ?_ | split)
theorem Local.callX {call : Caller} (hc : LocalC call) (fr : Fr) (c : Call) : Local (callX P call fr c) := by
  unfold Clean.callX
  repeat' (first | exact Local.fail | exact Local.ret _ | exact Local.lift _ | exact hc _ _ | exact Local.appendX _ _ _ _ | exact Local.copyX _ _ _ | exact Local.capX _ _ | exact Local.zerosX _ _ _ | split)

theorem Local.opX {call : Caller} (hc : LocalC call) (fr : Fr) (o : Oper) : Local (opX P call fr o) := by
  unfold Clean.opX
  repeat' (first | exact Local.fail | exact Local.ret _ | exact Local.lift _ | exact Local.callX hc _ _ | exact Local.loadX _ _ | exact Local.storeX _ _ _ | exact Local.buildSliceX _ _ _
                 | exact Local.makeSliceX _ _ _ | exact Local.sliceX _ _ _ _ _ | exact Local.newX _ _ _ | refine Local.bind ?_ fun _ => ?_ | split)

theorem putK_eq {β : Type} (fr : Fr) (dst : Option Tmp) (v : Value) (k : Fr → Option β) : fr.putK dst v k = match dst with
    | none => k fr
    | some d => if d < fr.n then k { fr with t := Trie.set (some v) (d + 1) fr.t d } else none := by
  unfold Fr.putK
  cases dst with
  | none => rfl
  | some d =>
    by_cases h : d < fr.n
    · have : Nat.blt d fr.n = true := by simpa [Nat.blt_eq] using h
      simp only [this, cond_true, h, if_true, valK_eq, Trie.setK_eq]
    · have : Nat.blt d fr.n = false := by rw [← Bool.not_eq_true, Nat.blt_eq]; exact h
      simp only [this, cond_false, h, if_false]
theorem Local.put (fr : Fr) (dst : Option Tmp) (v : Value) : Local (fr.put dst v) := by
  cases dst with
  | none => exact Local.congr (g := M.ret fr) (fun m => rfl) (Local.ret _)
  | some d =>
    by_cases h : d < fr.n
    · exact Local.congr (g := M.ret { fr with t := Trie.set (some v) (d + 1) fr.t d }) (fun m => by unfold Fr.put; rw [putK_eq]; simp only [h, if_true]; rfl) (Local.ret _)
    · exact Local.congr (g := M.fail) (fun m => by unfold Fr.put; rw [putK_eq]; simp only [h, if_false]; rfl) Local.fail

theorem Local.stepX {call : Caller} (hc : LocalC call) (ops : Array Oper) (fr : Fr) (o : Oper) : Local (stepX P call ops fr o) := by
  unfold Clean.stepX
  exact Local.cond (Local.bind (Local.opX hc _ _) fun _ => Local.put _ _ _) (Local.put _ _ _)
theorem Local.stepDX {call : Caller} (hc : LocalC call) (ops : Array Oper) (fr : Fr) (o : Oper) : Local (stepDX P call ops fr o) := by
  unfold Clean.stepDX
  split
  · refine Local.cond ?_ (Local.put _ _ _)
    split
    · exact Local.put _ _ _
    · exact Local.fail
  · exact Local.stepX hc _ _ _
theorem Local.stepsX {call : Caller} (hc : LocalC call) (ops : Array Oper) : ∀ (l : List Oper) (fr : Fr), Local (stepsX P call ops l fr)
  | [], fr => Local.ret _
  | o :: l, fr => Local.bind (Local.stepDX hc _ _ _) fun fr => Local.stepsX hc ops l fr
theorem Local.drawX {call : Caller} (hc : LocalC call) (ops : Array Oper) : ∀ (l : List Oper) (as : List Nat) (i : Nat) (logs : List (Nat × List (Bool × Nat))) (fr : Fr), Local (drawX P call ops l as i logs fr)
  | o :: l, a :: as, i, logs, fr => Local.bind (Local.logged (Local.stepX hc _ _ _)) fun _ => Local.bind (Local.guard _) fun _ => Local.drawX hc ops l as _ _ _
  | [], [], _, _, _ => Local.ret _
  | [], _ :: _, _, _, _ => Local.ret _
  | _ :: _, [], _, _, _ => Local.fail
theorem Local.loopX {body : Fr → M (Ex × Fr)} (h : ∀ fr, Local (body fr)) : ∀ (n : Nat) (fr : Fr), Local (loopX body n fr)
  | 0, _ => Local.fail
  | n + 1, fr => Local.bind (h fr) fun p => by
    obtain ⟨e, fr⟩ := p
    cases e with
    | normal => exact Local.loopX h n fr
    | exit i => exact Local.ret _
    | ret => exact Local.ret _
theorem Local.cellX (a : Addr) : Local (cellX a) := by
  unfold Clean.cellX
  split
  · refine Local.bind (Local.getB _) fun blk => ?_
    split
    · exact Local.ret _
    · exact Local.fail
  · exact Local.fail
theorem Local.putRound : ∀ (ts : List Tmp) (vs : List Value) (fr : Fr), Local (putRound ts vs fr)
  | t :: ts, v :: vs, fr => Local.bind (Local.put _ _ _) fun fr => Local.putRound ts vs fr
  | [], [], _ => Local.ret _
  | [], _ :: _, _ => Local.fail
  | _ :: _, [], _ => Local.fail
theorem Local.backX {assign body : Fr → M (Ex × Fr)} (ha : ∀ fr, Local (assign fr)) (hb : ∀ fr, Local (body fr)) (bx : Addr) (n : Nat) (ps : List Tmp) (fr : Fr) : ∀ i, Local (backX assign body bx n ps fr i)
  | 0 => Local.ret _
  | i + 1 => by
    unfold Clean.backX
    refine Local.bind (Local.cellX _) fun v => ?_
    split
    · refine Local.bind (Local.guard _) fun _ => Local.bind (Local.cellX _) fun x => Local.bind (Local.putRound _ _ _) fun fr1 => Local.bind (ha _) fun q => ?_
      obtain ⟨e, fr2⟩ := q
      cases e with
      | normal =>
        refine Local.bind (hb _) fun q => ?_
        obtain ⟨e, fr3⟩ := q
        cases e with
        | normal => exact Local.backX ha hb bx n ps fr i
        | exit i => exact Local.ret _
        | ret => exact Local.ret _
      | exit i => exact Local.fail
      | ret => exact Local.fail
    · exact Local.fail
theorem Local.codeX {call : Caller} (hc : LocalC call) : ∀ (c : Code) (fr : Fr), Local (codeX P call c fr) := by
  intro c
  induction c with
  | rangeFunc g ps assign body iha ihb =>
    intro fr
    unfold Clean.codeX
    refine Local.cond ?_ Local.fail
    split
    · refine Local.bind (Local.newB _) fun b => Local.bind (Local.cellX _) fun v => ?_
      split
      · exact Local.bind (Local.guard _) fun _ => Local.bind (Local.backX iha ihb _ _ _ _ _) fun e => Local.ret _
      · exact Local.fail
    · exact Local.fail
  | skip => intro fr; exact Local.ret _
  | region id ops draw =>
    intro fr
    unfold Clean.codeX
    refine Local.cond ?_ ?_
    · split
      · exact Local.bind (Local.drawX hc _ _ _ _ _ _) fun _ => Local.ret _
      · exact Local.fail
    · exact Local.bind (Local.stepsX hc _ _ _) fun _ => Local.ret _
  | seq a b ha hb =>
    intro fr
    unfold Clean.codeX
    refine Local.bind (ha fr) fun p => ?_
    obtain ⟨e, fr⟩ := p
    cases e with
    | normal => exact hb fr
    | exit i => exact Local.ret _
    | ret => exact Local.ret _
  | cond c a b ha hb =>
    intro fr
    unfold Clean.codeX
    split
    · exact ha fr
    · exact hb fr
    · exact Local.fail
  | block id c ih =>
    intro fr
    unfold Clean.codeX
    refine Local.bind (ih fr) fun p => ?_
    obtain ⟨e, fr⟩ := p
    cases e with
    | normal => exact Local.ret _
    | exit i => exact Local.cond (Local.ret _) (Local.ret _)
    | ret => exact Local.ret _
  | loop c ih => intro fr; unfold Clean.codeX; exact Local.loopX ih _ _
  | exit id => intro fr; exact Local.ret _
  | ret => intro fr; exact Local.ret _
  | _ => intro fr; exact Local.fail
theorem Local.resX (fr : Fr) : ∀ (l : List ResultVar), Local (resX P fr l)
  | [] => Local.ret _
  | .tmp t :: l => Local.bind (Local.resX fr l) fun _ => Local.ret _
  | .cell a t :: l => Local.bind (Local.loadX _ _) fun _ => Local.bind (Local.resX fr l) fun _ => Local.ret _
def putArgs : List Value → Nat → Trie Value → Trie Value
  | [], _, t => t
  | v :: l, i, t => putArgs l (i + 1) (Trie.set (some v) (i + 1) t i)
theorem frOfK_eq {β : Type} : ∀ (l : List Value) (i : Nat) (t : Trie Value) (k : Trie Value → β), frOfK l i t k = k (putArgs l i t)
  | [], _, _, _ => rfl
  | v :: l, i, t, k => by unfold frOfK putArgs; rw [valK_eq, Trie.setK_eq]; exact frOfK_eq l _ _ _
theorem frK_eq (n : Nat) (args : List Value) : frK n args = M.ret ⟨putArgs args 0 .leaf, n, []⟩ := by
  funext m; unfold frK; rw [frOfK_eq]; rfl
theorem Local.nextX : Local nextX := by
  intro m a m' h
  simp only [Clean.nextX, Option.some.injEq, Prod.mk.injEq] at h
  obtain ⟨rfl, rfl⟩ := h
  exact ⟨[], rfl, Nat.le_refl _, fun _ _ => rfl, fun m₂ hn _ => ⟨m₂, by simp [Clean.nextX, hn], rfl, hn, fun b hb => (by simp at hb), fun _ _ => rfl⟩⟩
theorem Local.runDX {dcall : Caller} (hd : LocalC dcall) (base : Nat) : ∀ l, Local (runDX dcall base l)
  | [] => Local.ret _
  | (f, args) :: l => by
    unfold Clean.runDX
    exact Local.cond (Local.bind Local.nextX fun _ => Local.bind (Local.guard _) fun _ => Local.bind (Local.getB _) fun _ => Local.bind (Local.setB _ _) fun _ => Local.runDX hd base l) (Local.bind (hd f args) fun _ => Local.runDX hd base l)
theorem Local.endX {fin : Nat → Fr → M Unit} (hd : ∀ base fr, Local (fin base fr)) (base : Nat) (fn : Func) (fr : Fr) : Local (do
    fin base fr
    let vs ← Clean.resX P fr fn.results.toList
    match vs with
    | [v] => M.ret v
    | vs => M.ret (Value.tuple ⟨vs⟩)) := Local.bind (hd _ _) fun _ => Local.bind (Local.resX _ _) fun vs => by split <;> exact Local.ret _
theorem Local.bodyX {call : Caller} {fin : Nat → Fr → M Unit} (hc : LocalC call) (hd : ∀ base fr, Local (fin base fr)) (fn : Func) (args : List Value) : Local (bodyX P call fin fn args) := by
  unfold Clean.bodyX
  split
  · exact Local.fail
  · refine Local.bind (Local.guard _) fun _ => Local.bind Local.nextX fun base => Local.bind (by rw [frK_eq]; exact Local.ret _) fun fr => Local.bind (Local.codeX hc _ _) fun p => ?_
    obtain ⟨e, fr⟩ := p
    cases e with
    | normal => exact Local.endX hd _ fn fr
    | exit i => exact Local.fail
    | ret => exact Local.endX hd _ fn fr
theorem Local.deferredX {call : Caller} (hc : LocalC call) : LocalC (deferredX P call) := fun f args => by
  unfold Clean.deferredX
  split
  · exact Local.fail
  · exact Local.bodyX hc (fun _ _ => Local.guard _) _ _
theorem Local.callN {known : Known} (hk : ∀ f args g, known f args = some g → Local g) : ∀ n, LocalC (callN P known n)
  | 0 => fun _ _ => Local.fail
  | n + 1 => fun f args => by
    unfold Clean.callN
    split
    · exact hk f args _ ‹_›
    · split
      · exact Local.fail
      · exact Local.bodyX (Local.callN hk n) (fun _ _ => Local.runDX (Local.deferredX (Local.callN hk n)) _ _) _ _

end Go.Clean
