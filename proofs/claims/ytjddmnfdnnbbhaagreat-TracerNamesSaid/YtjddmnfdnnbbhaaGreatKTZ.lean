/- The clean executor: what a closed call of plain arguments has answered once, it answers always. -/
import Derived.Test.YtjddmnfdnnbbhaaGreatKOZ
set_option linter.unusedSimpArgs false
set_option linter.unusedVariables false
set_option linter.unusedVariables false
set_option linter.unusedSimpArgs false
namespace Go.Clean
open Go Go.RowKit
variable {P : Program}

/-- Plain values alike. -/
def eqL : Value → Value → Bool
  | .bool a, .bool b => a == b
  | .int k a, .int l b => k == l && a == b
  | .float k a, .float l b => k == l && a == b
  | .complex k a b, .complex l c d => k == l && a == c && b == d
  | _, _ => false
theorem eqL_eq {v v' : Value} (h : eqL v v' = true) : v = v' := by
  unfold eqL at h
  split at h
  · obtain rfl := eq_of_beq h; rfl
  · simp only [Bool.and_eq_true, beq_iff_eq] at h; obtain ⟨rfl, rfl⟩ := h; rfl
  · simp only [Bool.and_eq_true, beq_iff_eq] at h; obtain ⟨rfl, rfl⟩ := h; rfl
  · simp only [Bool.and_eq_true, beq_iff_eq] at h; obtain ⟨⟨rfl, rfl⟩, rfl⟩ := h; rfl
  · cases h
def eqLs : List Value → List Value → Bool
  | [], [] => true
  | a :: l, b :: k => eqL a b && eqLs l k
  | _, _ => false
theorem eqLs_eq : ∀ {l k : List Value}, eqLs l k = true → l = k
  | [], [], _ => rfl
  | [], _ :: _, h => by simp [eqLs] at h
  | _ :: _, [], h => by simp [eqLs] at h
  | a :: l, b :: k, h => by
    simp only [eqLs, Bool.and_eq_true] at h
    rw [eqL_eq h.1, eqLs_eq h.2]
def eqV : Value → Value → Bool
  | .agg ⟨l⟩, .agg ⟨k⟩ => eqLs l k
  | a, b => eqL a b
theorem eqV_eq {v v' : Value} (h : eqV v v' = true) : v = v' := by
  unfold eqV at h
  split at h
  · rw [eqLs_eq h]
  · exact eqL_eq h
def eqVs : List Value → List Value → Bool
  | [], [] => true
  | a :: l, b :: k => eqV a b && eqVs l k
  | _, _ => false
theorem eqVs_eq : ∀ {l k : List Value}, eqVs l k = true → l = k
  | [], [], _ => rfl
  | [], _ :: _, h => by simp [eqVs] at h
  | _ :: _, [], h => by simp [eqVs] at h
  | a :: l, b :: k, h => by
    simp only [eqVs, Bool.and_eq_true] at h
    rw [eqV_eq h.1, eqVs_eq h.2]

theorem VR.moveL {ρ ρ' : Env} {v v' : Value} (h : leafV v = true) (hv : VR ρ v v') : VR ρ' v v' := by
  unfold leafV at h
  split at h <;> first | (cases h; done) | skip
  all_goals first
    | exact hv
    | (obtain ⟨a, b, e, h1, h2⟩ := hv.fun'
       cases h1; cases h2
       subst e
       exact ⟨_, _, rfl, .nil, .nil⟩)
theorem VRs.moveL {ρ ρ' : Env} : ∀ {l l' : List Value}, l.all leafV = true → VRs ρ l l' → VRs ρ' l l'
  | [], _, _, h => h
  | v :: l, _, h, hv => by
    simp only [List.all_cons, Bool.and_eq_true] at h
    obtain ⟨a, b, rfl, h1, h2⟩ := hv
    exact ⟨a, b, rfl, .moveL h.1 h1, VRs.moveL h.2 h2⟩
theorem VR.move {ρ ρ' : Env} {v v' : Value} (h : plainV v = true) (hv : VR ρ v v') : VR ρ' v v' := by
  unfold plainV at h
  split at h
  · obtain ⟨l', rfl, h1⟩ := hv.agg'
    exact ⟨_, rfl, .moveL h h1⟩
  · obtain ⟨l', rfl, h1⟩ := hv.tup
    exact ⟨_, rfl, .moveL h h1⟩
  · exact .moveL h hv
theorem VRs.move {ρ ρ' : Env} : ∀ {l l' : List Value}, l.all plainV = true → VRs ρ l l' → VRs ρ' l l'
  | [], _, _, h => h
  | v :: l, _, h, hv => by
    simp only [List.all_cons, Bool.and_eq_true] at h
    obtain ⟨a, b, rfl, h1, h2⟩ := hv
    exact ⟨a, b, rfl, .move h.1 h1, VRs.move h.2 h2⟩

theorem Rel.none (w : World) : Rel w.heap.size (fun _ => Option.none) (Mem.empty.t.get) w :=
  ⟨Nat.le_refl _, fun b x hb => by simp [Mem.empty, Trie.get] at hb, fun b b' x x' p p' _ hb => by simp [Mem.empty, Trie.get] at hb, fun b x p hb => by simp [Mem.empty, Trie.get] at hb⟩

theorem memo_ok {call : Caller} (hcall : CallOK P call) {f : FuncId} {lits : List Value} {v : Value} (hrun : (match call f lits .empty with
    | some (u, _) => eqV u v
    | none => false) = true) (hl : lits.all plainV = true) (hv : plainV v = true) : Local (M.ret v) ∧
    ∀ m v1 m1, M.ret v m = some (v1, m1) → ∀ N ρ w cargs, Rel N ρ m.t.get w → VRs ρ lits cargs → Fresh ρ m m1 → Does P N ρ m m1 w v1 (callFunc f ⟨cargs⟩) := by
  refine ⟨Local.ret _, fun m v1 m1 h N ρ w cargs hr ha hf => ?_⟩
  obtain ⟨rfl, rfl⟩ := ret_some h
  cases hc : call f lits .empty with
  | none => rw [hc] at hrun; cases hrun
  | some q =>
    obtain ⟨u, m'⟩ := q
    rw [hc] at hrun
    obtain rfl := eqV_eq hrun
    intro r o a K Q hK
    refine hcall f lits .empty u m' hc w.heap.size (fun _ => Option.none) w cargs (Rel.none w) (VRs.move hl ha) (fun _ _ _ => rfl) r o a K Q fun v' w' ρ' hA => ?_
    exact hK v' w' ρ ⟨.refl ρ, fun b h h' => absurd h h', hr.later hA.below.below, VR.move hv hA.val, Keeps.of_below hr.base hA.below.below, fun b p h h' => absurd (h.symm.trans h') (by simp)⟩
end Go.Clean

/- The clean executor: the log behind a piece does not count, and is kept. -/
set_option linter.unusedVariables false
set_option linter.unusedSimpArgs false
namespace Go.Clean
open Go
variable {P : Program}

def Mem.lg (m : Mem) (l : List (Bool × Nat)) : Mem := { m with log := l }
/-- Another log behind it: the same, with that log behind it. -/
def Par {α : Type} (f : M α) : Prop := ∀ m l, f (m.lg (m.log ++ l)) = (f m).map fun p => (p.1, p.2.lg (p.2.log ++ l))

theorem Par.ret {α : Type} (a : α) : Par (M.ret a) := fun _ _ => rfl
theorem Par.fail {α : Type} : Par (M.fail : M α) := fun _ _ => rfl
theorem Par.lift {α : Type} (o : Option α) : Par (M.lift o) := by cases o <;> exact fun _ _ => rfl
theorem Par.guard (b : Bool) : Par (M.guard b) := by cases b <;> exact fun _ _ => rfl
theorem Par.bnd {α β : Type} {f : M α} {g : α → M β} (hf : Par f) (hg : ∀ a, Par (g a)) : Par (M.bnd f g) := by
  intro m l
  unfold M.bnd
  rw [hf]
  cases f m with
  | none => rfl
  | some p => exact hg p.1 p.2 l
theorem Par.bind {α β : Type} {f : M α} {g : α → M β} (hf : Par f) (hg : ∀ a, Par (g a)) : Par (f >>= g) := Par.bnd hf hg
theorem Par.getB (b : Nat) : Par (getB b) := by
  intro m l
  unfold Clean.getB
  show (match m.t.get b with | none => none | some blk => _) = _
  cases m.t.get b <;> rfl
theorem Par.setB (b : Nat) (x : Option Blk) : Par (setB b x) := by
  intro m l; rw [setB_eq, setB_eq]; rfl
theorem Par.newB (x : Blk) : Par (newB x) := by
  intro m l; rw [newB_eq, newB_eq]; rfl
theorem Par.logged {α : Type} {f : M α} (hf : Par f) : Par (M.logged f) := by
  intro m l
  unfold M.logged
  show (match f { m with log := [] } with | none => none | some (a, m') => some ((a, m'.log), { m' with log := m'.log ++ (m.log ++ l) })) = _
  cases f { m with log := [] } with
  | none => rfl
  | some p => simp [Mem.lg, List.append_assoc]
theorem Par.mlet {α β : Type} {o : Option α} {g : α → M β} (h : ∀ a, o = some a → Par (g a)) : Par (match o with | some a => g a | none => M.fail) := by
  cases o with
  | none => exact Par.fail
  | some a => exact h a rfl
theorem Par.congr {α : Type} {f g : M α} (h : ∀ m, f m = g m) (hg : Par g) : Par f := by
  have : f = g := funext h
  rw [this]; exact hg

theorem Par.newX (cells : List Value) (sz : Nat) (grow : Bool) : Par (newX cells sz grow) := by
  unfold Clean.newX
  refine Par.bind (Par.guard _) fun _ => Par.congr (g := Clean.newB { cells, sz, grow, ro := false }) (fun m => by rw [valsK_eq]) (Par.newB _)

theorem Par.loadX (t : TypeId) (a : Value) : Par (loadX P t a) := by
  unfold Clean.loadX
  repeat' (first | exact Par.fail | exact Par.ret _ | exact Par.lift _ | exact Par.guard _ | exact Par.getB _ | refine Par.bind ?_ fun _ => ?_ | split)

theorem Par.laid {α : Type} (cs : List Value) (o : Nat) (vs : List Value) (g : List Value → M α) (h : ∀ l, Par (g l)) :
    Par (fun m => layK cs o vs fun
      | some l => g l m
      | none => none) := by
  refine Par.congr (g := match lay cs o vs with
    | some l => g l
    | none => M.fail) (fun m => ?_) ?_
  · rw [layK_eq]
    cases lay cs o vs <;> rfl
  · cases lay cs o vs with
    | none => exact Par.fail
    | some l => exact h l

theorem Par.storeX (t : TypeId) (a x : Value) : Par (storeX P t a x) := by
  unfold Clean.storeX
  split
  · refine Par.bind (Par.getB _) fun blk => Par.bind (Par.guard _) fun _ => Par.laid _ _ _ _ fun l => Par.bind (Par.setB _ _) fun _ => Par.ret _
  · exact Par.fail

theorem Par.buildSliceX (t : TypeId) (len : Nat) (ps : List (Nat × Value)) : Par (buildSliceX P t len ps) := by
  unfold Clean.buildSliceX
  repeat' (first | exact Par.fail | exact Par.ret _ | exact Par.lift _ | exact Par.guard _ | exact Par.getB _ | exact Par.newX _ _ _ | refine Par.bind ?_ fun _ => ?_ | split)
theorem Par.makeSliceX (t : TypeId) (l c : Value) : Par (makeSliceX P t l c) := by
  unfold Clean.makeSliceX
  repeat' (first | exact Par.fail | exact Par.ret _ | exact Par.lift _ | exact Par.guard _ | exact Par.getB _ | exact Par.newX _ _ _ | refine Par.bind ?_ fun _ => ?_ | split)
theorem Par.cond {α : Type} {b : Bool} {f g : M α} (hf : Par f) (hg : Par g) : Par (bif b then f else g) := by cases b <;> assumption
theorem Par.sliceX (t : TypeId) (x : Value) (lo hi mx : Option Value) : Par (sliceX P t x lo hi mx) := by
  unfold Clean.sliceX
  repeat' (first | exact Par.fail | exact Par.ret _ | exact Par.lift _ | exact Par.guard _ | exact Par.getB _ | exact Par.newB _ | refine Par.bind ?_ fun _ => ?_ | refine Par.cond ?_ ?_ | split)
theorem Par.elemsX (x : Value) (n : Nat) : Par (elemsX x n) := by
  unfold Clean.elemsX
  repeat' (first | exact Par.fail | exact Par.ret _ | exact Par.getB _ | refine Par.bind ?_ fun _ => ?_ | split)
theorem Par.appendX (t u : TypeId) (s x : Value) : Par (appendX P t u s x) := by
  unfold Clean.appendX
  repeat' (first | exact Par.fail | exact Par.ret _ | exact Par.lift _ | exact Par.guard _ | exact Par.getB _ | exact Par.newX _ _ _ | exact Par.setB _ _ | exact Par.elemsX _ _
                 | refine Par.laid _ _ _ _ fun _ => ?_ | refine Par.bind ?_ fun _ => ?_ | refine Par.cond ?_ ?_ | split)
theorem Par.takenX (s : Value) (n k : Nat) : Par (takenX s n k) := by
  unfold Clean.takenX
  repeat' (first | exact Par.fail | exact Par.ret _ | exact Par.getB _ | refine Par.bind ?_ fun _ => ?_ | split)
theorem Par.copyX (t : TypeId) (d s : Value) : Par (copyX P t d s) := by
  unfold Clean.copyX
  repeat' (first | exact Par.fail | exact Par.ret _ | exact Par.lift _ | exact Par.guard _ | exact Par.getB _ | exact Par.newX _ _ _ | exact Par.setB _ _ | exact Par.takenX _ _ _
                 | refine Par.laid _ _ _ _ fun _ => ?_ | refine Par.bind ?_ fun _ => ?_ | refine Par.cond ?_ ?_ | split)

def ParC (call : Caller) : Prop := ∀ f args, Par (call f args)

theorem Par.capX (t : TypeId) (x : Value) : Par (capX P t x) := by
  unfold Clean.capX
  split
  · exact Par.ret _
  · exact Par.bind (Par.getB _) fun _ => Par.bind (Par.guard _) fun _ => Par.ret _
  · exact Par.fail
theorem Par.zerosX (t u : TypeId) (n : Int) : Par (zerosX P t u n) := by
  unfold Clean.zerosX
  repeat' (first | exact Par.fail | exact Par.ret _ | exact Par.guard _ | exact Par.newX _ _ _ | refine Par.bind ?_ fun _ => ?_ | split)
theorem Par.callX {call : Caller} (hc : ParC call) (fr : Fr) (c : Call) : Par (callX P call fr c) := by
  unfold Clean.callX
  repeat' (first | exact Par.fail | exact Par.ret _ | exact Par.lift _ | exact hc _ _ | exact Par.appendX _ _ _ _ | exact Par.copyX _ _ _ | exact Par.capX _ _ | exact Par.zerosX _ _ _ | split)

theorem Par.opX {call : Caller} (hc : ParC call) (fr : Fr) (o : Oper) : Par (opX P call fr o) := by
  unfold Clean.opX
  repeat' (first | exact Par.fail | exact Par.ret _ | exact Par.lift _ | exact Par.callX hc _ _ | exact Par.loadX _ _ | exact Par.storeX _ _ _ | exact Par.buildSliceX _ _ _
                 | exact Par.makeSliceX _ _ _ | exact Par.sliceX _ _ _ _ _ | exact Par.newX _ _ _ | refine Par.bind ?_ fun _ => ?_ | split)

theorem Par.put (fr : Fr) (dst : Option Tmp) (v : Value) : Par (fr.put dst v) := by
  cases dst with
  | none => exact Par.congr (g := M.ret fr) (fun m => rfl) (Par.ret _)
  | some d =>
    by_cases h : d < fr.n
    · exact Par.congr (g := M.ret { fr with t := Trie.set (some v) (d + 1) fr.t d }) (fun m => by unfold Fr.put; rw [putK_eq]; simp only [h, if_true]; rfl) (Par.ret _)
    · exact Par.congr (g := M.fail) (fun m => by unfold Fr.put; rw [putK_eq]; simp only [h, if_false]; rfl) Par.fail

theorem Par.stepX {call : Caller} (hc : ParC call) (ops : Array Oper) (fr : Fr) (o : Oper) : Par (stepX P call ops fr o) := by
  unfold Clean.stepX
  exact Par.cond (Par.bind (Par.opX hc _ _) fun _ => Par.put _ _ _) (Par.put _ _ _)
theorem Par.stepDX {call : Caller} (hc : ParC call) (ops : Array Oper) (fr : Fr) (o : Oper) : Par (stepDX P call ops fr o) := by
  unfold Clean.stepDX
  split
  · refine Par.cond ?_ (Par.put _ _ _)
    split
    · exact Par.put _ _ _
    · exact Par.fail
  · exact Par.stepX hc _ _ _
theorem Par.stepsX {call : Caller} (hc : ParC call) (ops : Array Oper) : ∀ (l : List Oper) (fr : Fr), Par (stepsX P call ops l fr)
  | [], fr => Par.ret _
  | o :: l, fr => Par.bind (Par.stepDX hc _ _ _) fun fr => Par.stepsX hc ops l fr
theorem Par.drawX {call : Caller} (hc : ParC call) (ops : Array Oper) : ∀ (l : List Oper) (as : List Nat) (i : Nat) (logs : List (Nat × List (Bool × Nat))) (fr : Fr), Par (drawX P call ops l as i logs fr)
  | o :: l, a :: as, i, logs, fr => Par.bind (Par.logged (Par.stepX hc _ _ _)) fun _ => Par.bind (Par.guard _) fun _ => Par.drawX hc ops l as _ _ _
  | [], [], _, _, _ => Par.ret _
  | [], _ :: _, _, _, _ => Par.ret _
  | _ :: _, [], _, _, _ => Par.fail
theorem Par.loopX {body : Fr → M (Ex × Fr)} (h : ∀ fr, Par (body fr)) : ∀ (n : Nat) (fr : Fr), Par (loopX body n fr)
  | 0, _ => Par.fail
  | n + 1, fr => Par.bind (h fr) fun p => by
    obtain ⟨e, fr⟩ := p
    cases e with
    | normal => exact Par.loopX h n fr
    | exit i => exact Par.ret _
    | ret => exact Par.ret _
theorem Par.cellX (a : Addr) : Par (cellX a) := by
  unfold Clean.cellX
  split
  · refine Par.bind (Par.getB _) fun blk => ?_
    split
    · exact Par.ret _
    · exact Par.fail
  · exact Par.fail
theorem Par.putRound : ∀ (ts : List Tmp) (vs : List Value) (fr : Fr), Par (putRound ts vs fr)
  | t :: ts, v :: vs, fr => Par.bind (Par.put _ _ _) fun fr => Par.putRound ts vs fr
  | [], [], _ => Par.ret _
  | [], _ :: _, _ => Par.fail
  | _ :: _, [], _ => Par.fail
theorem Par.backX {assign body : Fr → M (Ex × Fr)} (ha : ∀ fr, Par (assign fr)) (hb : ∀ fr, Par (body fr)) (bx : Addr) (n : Nat) (ps : List Tmp) (fr : Fr) : ∀ i, Par (backX assign body bx n ps fr i)
  | 0 => Par.ret _
  | i + 1 => by
    unfold Clean.backX
    refine Par.bind (Par.cellX _) fun v => ?_
    split
    · refine Par.bind (Par.guard _) fun _ => Par.bind (Par.cellX _) fun x => Par.bind (Par.putRound _ _ _) fun fr1 => Par.bind (ha _) fun q => ?_
      obtain ⟨e, fr2⟩ := q
      cases e with
      | normal =>
        refine Par.bind (hb _) fun q => ?_
        obtain ⟨e, fr3⟩ := q
        cases e with
        | normal => exact Par.backX ha hb bx n ps fr i
        | exit i => exact Par.ret _
        | ret => exact Par.ret _
      | exit i => exact Par.fail
      | ret => exact Par.fail
    · exact Par.fail
theorem Par.codeX {call : Caller} (hc : ParC call) : ∀ (c : Code) (fr : Fr), Par (codeX P call c fr) := by
  intro c
  induction c with
  | rangeFunc g ps assign body iha ihb =>
    intro fr
    unfold Clean.codeX
    refine Par.cond ?_ Par.fail
    split
    · refine Par.bind (Par.newB _) fun b => Par.bind (Par.cellX _) fun v => ?_
      split
      · exact Par.bind (Par.guard _) fun _ => Par.bind (Par.backX iha ihb _ _ _ _ _) fun e => Par.ret _
      · exact Par.fail
    · exact Par.fail
  | skip => intro fr; exact Par.ret _
  | region id ops draw =>
    intro fr
    unfold Clean.codeX
    refine Par.cond ?_ ?_
    · split
      · exact Par.bind (Par.drawX hc _ _ _ _ _ _) fun _ => Par.ret _
      · exact Par.fail
    · exact Par.bind (Par.stepsX hc _ _ _) fun _ => Par.ret _
  | seq a b ha hb =>
    intro fr
    unfold Clean.codeX
    refine Par.bind (ha fr) fun p => ?_
    obtain ⟨e, fr⟩ := p
    cases e with
    | normal => exact hb fr
    | exit i => exact Par.ret _
    | ret => exact Par.ret _
  | cond c a b ha hb =>
    intro fr
    unfold Clean.codeX
    split
    · exact ha fr
    · exact hb fr
    · exact Par.fail
  | block id c ih =>
    intro fr
    unfold Clean.codeX
    refine Par.bind (ih fr) fun p => ?_
    obtain ⟨e, fr⟩ := p
    cases e with
    | normal => exact Par.ret _
    | exit i => exact Par.cond (Par.ret _) (Par.ret _)
    | ret => exact Par.ret _
  | loop c ih => intro fr; unfold Clean.codeX; exact Par.loopX ih _ _
  | exit id => intro fr; exact Par.ret _
  | ret => intro fr; exact Par.ret _
  | _ => intro fr; exact Par.fail
theorem Par.resX (fr : Fr) : ∀ (l : List ResultVar), Par (resX P fr l)
  | [] => Par.ret _
  | .tmp t :: l => Par.bind (Par.resX fr l) fun _ => Par.ret _
  | .cell a t :: l => Par.bind (Par.loadX _ _) fun _ => Par.bind (Par.resX fr l) fun _ => Par.ret _
theorem Par.nextX : Par nextX := fun _ _ => rfl
theorem Par.runDX {dcall : Caller} (hd : ParC dcall) (base : Nat) : ∀ l, Par (runDX dcall base l)
  | [] => Par.ret _
  | (f, args) :: l => by
    unfold Clean.runDX
    exact Par.cond (Par.bind Par.nextX fun _ => Par.bind (Par.guard _) fun _ => Par.bind (Par.getB _) fun _ => Par.bind (Par.setB _ _) fun _ => Par.runDX hd base l) (Par.bind (hd f args) fun _ => Par.runDX hd base l)
theorem Par.endX {fin : Nat → Fr → M Unit} (hd : ∀ base fr, Par (fin base fr)) (base : Nat) (fn : Func) (fr : Fr) : Par (do
    fin base fr
    let vs ← Clean.resX P fr fn.results.toList
    match vs with
    | [v] => M.ret v
    | vs => M.ret (Value.tuple ⟨vs⟩)) := Par.bind (hd _ _) fun _ => Par.bind (Par.resX _ _) fun vs => by split <;> exact Par.ret _
theorem Par.bodyX {call : Caller} {fin : Nat → Fr → M Unit} (hc : ParC call) (hd : ∀ base fr, Par (fin base fr)) (fn : Func) (args : List Value) : Par (bodyX P call fin fn args) := by
  unfold Clean.bodyX
  split
  · exact Par.fail
  · refine Par.bind (Par.guard _) fun _ => Par.bind Par.nextX fun base => Par.bind (by rw [frK_eq]; exact Par.ret _) fun fr => Par.bind (Par.codeX hc _ _) fun p => ?_
    obtain ⟨e, fr⟩ := p
    cases e with
    | normal => exact Par.endX hd _ fn fr
    | exit i => exact Par.fail
    | ret => exact Par.endX hd _ fn fr
theorem Par.deferredX {call : Caller} (hc : ParC call) : ParC (deferredX P call) := fun f args => by
  unfold Clean.deferredX
  split
  · exact Par.fail
  · exact Par.bodyX hc (fun _ _ => Par.guard _) _ _
theorem Par.callN {known : Known} (hk : ∀ f args g, known f args = some g → Par g) : ∀ n, ParC (callN P known n)
  | 0 => fun _ _ => Par.fail
  | n + 1 => fun f args => by
    unfold Clean.callN
    split
    · exact hk f args _ ‹_›
    · split
      · exact Par.fail
      · exact Par.bodyX (Par.callN hk n) (fun _ _ => Par.runDX (Par.deferredX (Par.callN hk n)) _ _) _ _

end Go.Clean

/- The clean executor walked by hand: what a piece of code comes to, in symbols; regions that draw, in their text's order. -/
set_option linter.unusedVariables false
set_option linter.unusedSimpArgs false
namespace Go.Clean
open Go Go.RowKit
variable {P : Program} {call : Caller}

/-! ### Pieces that only read -/
def Rd {α : Type} (f : M α) : Prop := ∀ m a m', f m = some (a, m') → ∃ l, m'.log = l ++ m.log ∧ ∀ p ∈ l, p.1 = false
theorem Rd.ret {α : Type} (a : α) : Rd (M.ret a) := fun m a' m' h => by cases h; exact ⟨[], rfl, fun p hp => by cases hp⟩
theorem Rd.fail {α : Type} : Rd (M.fail : M α) := fun m a' m' h => by cases h
theorem Rd.lift {α : Type} (o : Option α) : Rd (M.lift o) := by
  cases o
  · exact Rd.fail
  · exact Rd.ret _
theorem Rd.guard (b : Bool) : Rd (M.guard b) := by
  cases b
  · exact fun m a m' h => by cases h
  · exact Rd.ret ()
theorem Rd.bind {α β : Type} {f : M α} {g : α → M β} (hf : Rd f) (hg : ∀ a, Rd (g a)) : Rd (f >>= g) := fun m a m' h => by
  obtain ⟨b, m1, h1, h2⟩ := bind_some h
  obtain ⟨l1, e1, r1⟩ := hf m b m1 h1
  obtain ⟨l2, e2, r2⟩ := hg b m1 a m' h2
  refine ⟨l2 ++ l1, by rw [e2, e1, List.append_assoc], fun p hp => ?_⟩
  rcases List.mem_append.1 hp with hp | hp
  · exact r2 p hp
  · exact r1 p hp
theorem Rd.getB (b : Nat) : Rd (getB b) := fun m a m' h => by
  obtain ⟨_, rfl⟩ := getB_some h
  exact ⟨[(false, b)], rfl, fun p hp => by simp at hp; rw [hp]⟩
/-- Nothing touched at all. -/
def Nl {α : Type} (f : M α) : Prop := ∀ m a m', f m = some (a, m') → m' = m
theorem Nl.ret {α : Type} (a : α) : Nl (M.ret a) := fun m a' m' h => by cases h; rfl
theorem Nl.fail {α : Type} : Nl (M.fail : M α) := fun m a' m' h => by cases h
theorem Nl.lift {α : Type} (o : Option α) : Nl (M.lift o) := by
  cases o
  · exact Nl.fail
  · exact Nl.ret _
theorem Nl.bind {α β : Type} {f : M α} {g : α → M β} (hf : Nl f) (hg : ∀ a, Nl (g a)) : Nl (f >>= g) := fun m a m' h => by
  obtain ⟨b, m1, h1, h2⟩ := bind_some h
  rw [hg b m1 a m' h2, hf m b m1 h1]

/-- How an operation deals with memory: 0 not at all, 1 it reads, 2 it may write. -/
def classOp (sil : FuncId → Bool) (o : Oper) : Nat := match o.op with
  | .move _ | .assign _ | .pick .. | .build .. | .nilCheck _ | .binOp .. | .unOp .. | .convert .. | .fieldAddr .. | .indexAddr .. | .field .. | .index .. | .extract .. => 0
  | .load .. => 1
  | .call c => match c.callee with
    | .value (.func f) => bif sil f then 0 else 2
    | .builtin .len | .builtin .real | .builtin .imag | .builtin .complex => 0
    | _ => 2
  | _ => 2
def isDefer (o : Oper) : Bool := match o.op with
  | .defer _ => true
  | _ => false

def SilOK (sil : FuncId → Bool) (call : Caller) : Prop := ∀ f, sil f = true → ∀ args, Nl (call f args)

theorem Nl.put (fr : Fr) (dst : Option Tmp) (v : Value) : Nl (fr.put dst v) := by
  cases dst with
  | none => exact Nl.ret fr
  | some d =>
    intro m a m' h
    unfold Fr.put at h
    rw [putK_eq] at h
    simp only at h
    split at h
    · cases h; rfl
    · cases h
theorem Nl.rd {α : Type} {f : M α} (h : Nl f) : Rd f := fun m a m' e => by obtain rfl := h m a m' e; exact ⟨[], rfl, fun p hp => by cases hp⟩

def reads01 (q : Nat) (l : List (Bool × Nat)) : Prop := (q = 0 → l = []) ∧ (q = 1 → ∀ p ∈ l, p.1 = false)

/-- Are all pairs that may come in either order apart by their kinds alone? -/
def staticX (sil : FuncId → Bool) : List Oper → List Nat → Nat → List (Nat × Nat) → Bool
  | o :: l, a :: as, i, fl => !isDefer o && (classOp sil o == 0 || fl.all fun (j, q) => a.testBit j || q == 0 || (classOp sil o == 1 && q == 1)) && staticX sil l as (i + 1) ((i, classOp sil o) :: fl)
  | [], _, _, _ => true
  | _, _, _, _ => false

inductive Logs : List (Nat × List (Bool × Nat)) → List (Nat × Nat) → Prop
  | nil : Logs [] []
  | cons {j q : Nat} {l : List (Bool × Nat)} {ls : List (Nat × List (Bool × Nat))} {fl : List (Nat × Nat)} (h : reads01 q l) (t : Logs ls fl) : Logs ((j, l) :: ls) ((j, q) :: fl)

def drawOK (sil : FuncId → Bool) (ops : Array Oper) : Bool := match planX ops with
  | some as => staticX sil ops.toList as 0 []
  | none => false
end Go.Clean
