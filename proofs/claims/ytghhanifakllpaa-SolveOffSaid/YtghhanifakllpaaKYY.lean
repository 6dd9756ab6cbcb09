/- The clean executor: what is touched was there, or is new; a call in a memory of which a part is hidden; deferred calls walked by hand. -/
import Derived.Test.YtghhanifakllpaaKXY
set_option linter.unusedSimpArgs false
set_option linter.unusedVariables false
set_option linter.unusedVariables false
set_option linter.unusedSimpArgs false
namespace Go.Clean
open Go
variable {P : Program}

/-- It touches what is there, what is new, or what is in S. -/
def Tch {α : Type} (S : List Nat) (f : M α) : Prop := ∀ m a m', f m = some (a, m') → ∃ nl, m'.log = nl ++ m.log ∧ m.next ≤ m'.next ∧ (∀ b, (true, b) ∉ nl → m'.t.get b = m.t.get b) ∧ ∀ p ∈ nl, m.t.get p.2 ≠ none ∨ m.next ≤ p.2 ∨ p.2 ∈ S
theorem Tch.nil {α : Type} {S : List Nat} {f : M α} (h : ∀ m a m', f m = some (a, m') → m' = m) : Tch S f := fun m a m' e => by
  obtain rfl := h m a m' e
  exact ⟨[], rfl, Nat.le_refl _, fun _ _ => rfl, fun p hp => by cases hp⟩
theorem Tch.ret {α : Type} {S : List Nat} (a : α) : Tch S (M.ret a) := Tch.nil fun m b m' h => by cases h; rfl
theorem Tch.fail {α : Type} {S : List Nat} : Tch S (M.fail : M α) := Tch.nil fun m b m' h => by cases h
theorem Tch.lift {α : Type} {S : List Nat} (o : Option α) : Tch S (M.lift o) := by
  cases o
  · exact Tch.fail
  · exact Tch.ret _
theorem Tch.guard {S : List Nat} (b : Bool) : Tch S (M.guard b) := by
  cases b
  · exact Tch.nil fun m b m' h => by cases h
  · exact Tch.ret ()
theorem Tch.bind {α β : Type} {S : List Nat} {f : M α} {g : α → M β} (hf : Tch S f) (hg : ∀ a, Tch S (g a)) : Tch S (f >>= g) := fun m c m' h => by
  obtain ⟨a, m1, h1, h2⟩ := bind_some h
  obtain ⟨n1, l1, x1, r1, t1⟩ := hf m a m1 h1
  obtain ⟨n2, l2, x2, r2, t2⟩ := hg a m1 c m' h2
  refine ⟨n2 ++ n1, by rw [l2, l1, List.append_assoc], Nat.le_trans x1 x2, fun b hb => ?_, fun p hp => ?_⟩
  · simp only [List.mem_append, not_or] at hb
    rw [r2 b hb.1, r1 b hb.2]
  · rcases List.mem_append.1 hp with hp | hp
    · rcases t2 p hp with h | h | h
      · by_cases hw : (true, p.2) ∈ n1
        · exact t1 (true, p.2) hw
        · rw [r1 _ hw] at h; exact .inl h
      · exact .inr (.inl (Nat.le_trans x1 h))
      · exact .inr (.inr h)
    · exact t1 p hp
theorem Tch.getB {S : List Nat} (b : Nat) : Tch S (getB b) := fun m x m' h => by
  unfold Clean.getB at h
  cases hb : m.t.get b with
  | none => simp [hb] at h
  | some y =>
    simp only [hb, Option.some.injEq, Prod.mk.injEq] at h
    obtain ⟨rfl, rfl⟩ := h
    exact ⟨[(false, b)], rfl, Nat.le_refl _, fun _ _ => rfl, fun p hp => by simp at hp; subst hp; exact .inl (by rw [hb]; simp)⟩
/-- What has been read is there. -/
theorem Tch.got {α : Type} {S : List Nat} {b : Nat} {g : Blk → M α} (hg : ∀ x, Tch (b :: S) (g x)) : Tch S (Clean.getB b >>= g) := fun m c m' h => by
  obtain ⟨x, m1, h1, h2⟩ := bind_some h
  unfold Clean.getB at h1
  cases hb : m.t.get b with
  | none => simp [hb] at h1
  | some y =>
    simp only [hb, Option.some.injEq, Prod.mk.injEq] at h1
    obtain ⟨rfl, rfl⟩ := h1
    obtain ⟨n2, l2, x2, r2, t2⟩ := hg y _ c m' h2
    refine ⟨n2 ++ [(false, b)], by rw [l2, List.append_assoc]; rfl, x2, fun c hc => ?_, fun p hp => ?_⟩
    · simp only [List.mem_append, not_or] at hc
      exact r2 c hc.1
    · rcases List.mem_append.1 hp with hp | hp
      · rcases t2 p hp with h | h | h
        · exact .inl h
        · exact .inr (.inl h)
        · rcases List.mem_cons.1 h with h | h
          · rw [h]; exact .inl (by rw [hb]; simp)
          · exact .inr (.inr h)
      · simp at hp; subst hp; exact .inl (by rw [hb]; simp)
theorem Tch.setB {S : List Nat} {b : Nat} (x : Option Blk) (h : b ∈ S) : Tch S (setB b x) := fun m u m' e => by
  rw [setB_eq] at e
  simp only [Option.some.injEq, Prod.mk.injEq, true_and] at e
  subst e
  refine ⟨[(true, b)], rfl, Nat.le_refl _, fun c hc => Trie.get_set_ne _ _ _ _ _ (by simpa using hc), fun p hp => ?_⟩
  simp at hp; subst hp; exact .inr (.inr h)
theorem Tch.newB {S : List Nat} (x : Blk) : Tch S (newB x) := fun m u m' e => by
  rw [newB_eq] at e
  simp only [Option.some.injEq, Prod.mk.injEq] at e
  obtain ⟨rfl, rfl⟩ := e
  refine ⟨[(true, m.next)], rfl, Nat.le_succ _, fun c hc => Trie.get_set_ne _ _ _ _ _ (by simpa using hc), fun p hp => ?_⟩
  simp at hp; subst hp; exact .inr (.inl (Nat.le_refl _))
theorem Tch.logged {α : Type} {S : List Nat} {f : M α} (hf : Tch S f) : Tch S (M.logged f) := fun m c m' h => by
  unfold M.logged at h
  cases hfm : f { m with log := [] } with
  | none => simp [hfm] at h
  | some p =>
    obtain ⟨a, m1⟩ := p
    simp only [hfm, Option.some.injEq, Prod.mk.injEq] at h
    obtain ⟨rfl, rfl⟩ := h
    obtain ⟨nl, l1, x1, r1, t1⟩ := hf _ a m1 hfm
    simp only [List.append_nil] at l1
    exact ⟨nl, by simp only [l1], x1, r1, t1⟩
theorem Tch.congr {α : Type} {S : List Nat} {f g : M α} (h : ∀ m, f m = g m) (hg : Tch S g) : Tch S f := by
  have : f = g := funext h
  rw [this]; exact hg
theorem Tch.cond {α : Type} {S : List Nat} {b : Bool} {f g : M α} (hf : Tch S f) (hg : Tch S g) : Tch S (bif b then f else g) := by cases b <;> assumption
theorem Tch.newX {S : List Nat} (cells : List Value) (sz : Nat) (grow : Bool) : Tch S (newX cells sz grow) := by
  unfold Clean.newX
  refine Tch.bind (Tch.guard _) fun _ => Tch.congr (g := Clean.newB { cells, sz, grow, ro := false }) (fun m => by rw [valsK_eq]) (Tch.newB _)
theorem Tch.loadX {S : List Nat} (t : TypeId) (a : Value) : Tch S (loadX P t a) := by
  unfold Clean.loadX
  repeat' (first | exact Tch.fail | exact Tch.ret _ | exact Tch.lift _ | exact Tch.guard _ | exact Tch.getB _ | refine Tch.bind ?_ fun _ => ?_ | split)
theorem Tch.laid {α : Type} {S : List Nat} (cs : List Value) (o : Nat) (vs : List Value) (g : List Value → M α) (h : ∀ l, Tch S (g l)) :
    Tch S (fun m => layK cs o vs fun
      | some l => g l m
      | none => none) := by
  refine Tch.congr (g := match lay cs o vs with
    | some l => g l
    | none => M.fail) (fun m => ?_) ?_
  · rw [layK_eq]
    cases lay cs o vs <;> rfl
  · cases lay cs o vs with
    | none => exact Tch.fail
    | some l => exact h l
theorem Tch.storeX {S : List Nat} (t : TypeId) (a x : Value) : Tch S (storeX P t a x) := by
  unfold Clean.storeX
  split
  · refine Tch.got fun blk => Tch.bind (Tch.guard _) fun _ => Tch.laid _ _ _ _ fun l => Tch.bind (Tch.setB _ (List.mem_cons_self ..)) fun _ => Tch.ret _
  · exact Tch.fail
theorem Tch.buildSliceX {S : List Nat} (t : TypeId) (len : Nat) (ps : List (Nat × Value)) : Tch S (buildSliceX P t len ps) := by
  unfold Clean.buildSliceX
  repeat' (first | exact Tch.fail | exact Tch.ret _ | exact Tch.lift _ | exact Tch.guard _ | exact Tch.getB _ | exact Tch.newX _ _ _ | refine Tch.bind ?_ fun _ => ?_ | split)
theorem Tch.makeSliceX {S : List Nat} (t : TypeId) (l c : Value) : Tch S (makeSliceX P t l c) := by
  unfold Clean.makeSliceX
  repeat' (first | exact Tch.fail | exact Tch.ret _ | exact Tch.lift _ | exact Tch.guard _ | exact Tch.getB _ | exact Tch.newX _ _ _ | refine Tch.bind ?_ fun _ => ?_ | split)
theorem Tch.sliceX {S : List Nat} (t : TypeId) (x : Value) (lo hi mx : Option Value) : Tch S (sliceX P t x lo hi mx) := by
  unfold Clean.sliceX
  repeat' (first | exact Tch.fail | exact Tch.ret _ | exact Tch.lift _ | exact Tch.guard _ | exact Tch.getB _ | exact Tch.newB _ | refine Tch.bind ?_ fun _ => ?_ | refine Tch.cond ?_ ?_ | split)
theorem Tch.elemsX {S : List Nat} (x : Value) (n : Nat) : Tch S (elemsX x n) := by
  unfold Clean.elemsX
  repeat' (first | exact Tch.fail | exact Tch.ret _ | exact Tch.getB _ | refine Tch.bind ?_ fun _ => ?_ | split)
theorem Tch.appendX {S : List Nat} (t u : TypeId) (s x : Value) : Tch S (appendX P t u s x) := by
  unfold Clean.appendX
  repeat' (first | exact Tch.fail | exact Tch.ret _ | exact Tch.lift _ | exact Tch.guard _ | exact Tch.newX _ _ _ | exact Tch.setB _ (by simp) | exact Tch.elemsX _ _
                 | refine Tch.laid _ _ _ _ fun _ => ?_ | refine Tch.got fun _ => ?_ | refine Tch.bind ?_ fun _ => ?_ | refine Tch.cond ?_ ?_ | split)
theorem Tch.takenX {S : List Nat} (s : Value) (n k : Nat) : Tch S (takenX s n k) := by
  unfold Clean.takenX
  repeat' (first | exact Tch.fail | exact Tch.ret _ | exact Tch.getB _ | refine Tch.bind ?_ fun _ => ?_ | split)
theorem Tch.copyX {S : List Nat} (t : TypeId) (d s : Value) : Tch S (copyX P t d s) := by
  unfold Clean.copyX
  repeat' (first | exact Tch.fail | exact Tch.ret _ | exact Tch.lift _ | exact Tch.guard _ | exact Tch.newX _ _ _ | exact Tch.setB _ (by simp) | exact Tch.takenX _ _ _
                 | refine Tch.laid _ _ _ _ fun _ => ?_ | refine Tch.got fun _ => ?_ | refine Tch.bind ?_ fun _ => ?_ | refine Tch.cond ?_ ?_ | split)
def TchC (call : Caller) : Prop := ∀ S f args, Tch S (call f args)
theorem Tch.capX {S : List Nat} (t : TypeId) (x : Value) : Tch S (capX P t x) := by
  unfold Clean.capX
  split
  · exact Tch.ret _
  · exact Tch.bind (Tch.getB _) fun _ => Tch.bind (Tch.guard _) fun _ => Tch.ret _
  · exact Tch.fail
theorem Tch.zerosX {S : List Nat} (t u : TypeId) (n : Int) : Tch S (zerosX P t u n) := by
  unfold Clean.zerosX
  repeat' (first | exact Tch.fail | exact Tch.ret _ | exact Tch.guard _ | exact Tch.newX _ _ _ | refine Tch.bind ?_ fun _ => ?_ | split)
theorem Tch.callX {S : List Nat} {call : Caller} (hc : TchC call) (fr : Fr) (c : Call) : Tch S (callX P call fr c) := by
  unfold Clean.callX
  repeat' (first | exact Tch.fail | exact Tch.ret _ | exact Tch.lift _ | exact hc _ _ _ | exact Tch.appendX _ _ _ _ | exact Tch.copyX _ _ _ | exact Tch.capX _ _ | exact Tch.zerosX _ _ _ | split)
theorem Tch.opX {S : List Nat} {call : Caller} (hc : TchC call) (fr : Fr) (o : Oper) : Tch S (opX P call fr o) := by
  unfold Clean.opX
  repeat' (first | exact Tch.fail | exact Tch.ret _ | exact Tch.lift _ | exact Tch.callX hc _ _ | exact Tch.loadX _ _ | exact Tch.storeX _ _ _ | exact Tch.buildSliceX _ _ _
                 | exact Tch.makeSliceX _ _ _ | exact Tch.sliceX _ _ _ _ _ | exact Tch.newX _ _ _ | refine Tch.bind ?_ fun _ => ?_ | split)
theorem Tch.put {S : List Nat} (fr : Fr) (dst : Option Tmp) (v : Value) : Tch S (fr.put dst v) := by
  cases dst with
  | none => exact Tch.congr (g := M.ret fr) (fun m => rfl) (Tch.ret _)
  | some d =>
    by_cases h : d < fr.n
    · exact Tch.congr (g := M.ret { fr with t := Trie.set (some v) (d + 1) fr.t d }) (fun m => by unfold Fr.put; rw [putK_eq]; simp only [h, if_true]; rfl) (Tch.ret _)
    · exact Tch.congr (g := M.fail) (fun m => by unfold Fr.put; rw [putK_eq]; simp only [h, if_false]; rfl) Tch.fail
theorem Tch.stepX {S : List Nat} {call : Caller} (hc : TchC call) (ops : Array Oper) (fr : Fr) (o : Oper) : Tch S (stepX P call ops fr o) := by
  unfold Clean.stepX
  exact Tch.cond (Tch.bind (Tch.opX hc _ _) fun _ => Tch.put _ _ _) (Tch.put _ _ _)
theorem Tch.stepDX {S : List Nat} {call : Caller} (hc : TchC call) (ops : Array Oper) (fr : Fr) (o : Oper) : Tch S (stepDX P call ops fr o) := by
  unfold Clean.stepDX
  split
  · refine Tch.cond ?_ (Tch.put _ _ _)
    split
    · exact Tch.put _ _ _
    · exact Tch.fail
  · exact Tch.stepX hc _ _ _
theorem Tch.stepsX {S : List Nat} {call : Caller} (hc : TchC call) (ops : Array Oper) : ∀ (l : List Oper) (fr : Fr), Tch S (stepsX P call ops l fr)
  | [], fr => Tch.ret _
  | o :: l, fr => Tch.bind (Tch.stepDX hc _ _ _) fun fr => Tch.stepsX hc ops l fr
theorem Tch.drawX {S : List Nat} {call : Caller} (hc : TchC call) (ops : Array Oper) : ∀ (l : List Oper) (as : List Nat) (i : Nat) (logs : List (Nat × List (Bool × Nat))) (fr : Fr), Tch S (drawX P call ops l as i logs fr)
  | o :: l, a :: as, i, logs, fr => Tch.bind (Tch.logged (Tch.stepX hc _ _ _)) fun _ => Tch.bind (Tch.guard _) fun _ => Tch.drawX hc ops l as _ _ _
  | [], [], _, _, _ => Tch.ret _
  | [], _ :: _, _, _, _ => Tch.ret _
  | _ :: _, [], _, _, _ => Tch.fail
theorem Tch.loopX {S : List Nat} {body : Fr → M (Ex × Fr)} (h : ∀ fr, Tch S (body fr)) : ∀ (n : Nat) (fr : Fr), Tch S (loopX body n fr)
  | 0, _ => Tch.fail
  | n + 1, fr => Tch.bind (h fr) fun p => by
    obtain ⟨e, fr⟩ := p
    cases e with
    | normal => exact Tch.loopX h n fr
    | exit i => exact Tch.ret _
    | ret => exact Tch.ret _
theorem Tch.cellX {S : List Nat} (a : Addr) : Tch S (cellX a) := by
  unfold Clean.cellX
  split
  · refine Tch.bind (Tch.getB _) fun blk => ?_
    split
    · exact Tch.ret _
    · exact Tch.fail
  · exact Tch.fail
theorem Tch.putRound {S : List Nat} : ∀ (ts : List Tmp) (vs : List Value) (fr : Fr), Tch S (putRound ts vs fr)
  | t :: ts, v :: vs, fr => Tch.bind (Tch.put _ _ _) fun fr => Tch.putRound ts vs fr
  | [], [], _ => Tch.ret _
  | [], _ :: _, _ => Tch.fail
  | _ :: _, [], _ => Tch.fail
theorem Tch.backX {S : List Nat} {assign body : Fr → M (Ex × Fr)} (ha : ∀ fr, Tch S (assign fr)) (hb : ∀ fr, Tch S (body fr)) (bx : Addr) (n : Nat) (ps : List Tmp) (fr : Fr) : ∀ i, Tch S (backX assign body bx n ps fr i)
  | 0 => Tch.ret _
  | i + 1 => by
    unfold Clean.backX
    refine Tch.bind (Tch.cellX _) fun v => ?_
    split
    · refine Tch.bind (Tch.guard _) fun _ => Tch.bind (Tch.cellX _) fun x => Tch.bind (Tch.putRound _ _ _) fun fr1 => Tch.bind (ha _) fun q => ?_
      obtain ⟨e, fr2⟩ := q
      cases e with
      | normal =>
        refine Tch.bind (hb _) fun q => ?_
        obtain ⟨e, fr3⟩ := q
        cases e with
        | normal => exact Tch.backX ha hb bx n ps fr i
        | exit i => exact Tch.ret _
        | ret => exact Tch.ret _
      | exit i => exact Tch.fail
      | ret => exact Tch.fail
    · exact Tch.fail
theorem Tch.codeX {S : List Nat} {call : Caller} (hc : TchC call) : ∀ (c : Code) (fr : Fr), Tch S (codeX P call c fr) := by
  intro c
  induction c with
  | rangeFunc g ps assign body iha ihb =>
    intro fr
    unfold Clean.codeX
    refine Tch.cond ?_ Tch.fail
    split
    · refine Tch.bind (Tch.newB _) fun b => Tch.bind (Tch.cellX _) fun v => ?_
      split
      · exact Tch.bind (Tch.guard _) fun _ => Tch.bind (Tch.backX iha ihb _ _ _ _ _) fun e => Tch.ret _
      · exact Tch.fail
    · exact Tch.fail
  | skip => intro fr; exact Tch.ret _
  | region id ops draw =>
    intro fr
    unfold Clean.codeX
    refine Tch.cond ?_ ?_
    · split
      · exact Tch.bind (Tch.drawX hc _ _ _ _ _ _) fun _ => Tch.ret _
      · exact Tch.fail
    · exact Tch.bind (Tch.stepsX hc _ _ _) fun _ => Tch.ret _
  | seq a b ha hb =>
    intro fr
    unfold Clean.codeX
    refine Tch.bind (ha fr) fun p => ?_
    obtain ⟨e, fr⟩ := p
    cases e with
    | normal => exact hb fr
    | exit i => exact Tch.ret _
    | ret => exact Tch.ret _
  | cond c a b ha hb =>
    intro fr
    unfold Clean.codeX
    split
    · exact ha fr
    · exact hb fr
    · exact Tch.fail
  | block id c ih =>
    intro fr
    unfold Clean.codeX
    refine Tch.bind (ih fr) fun p => ?_
    obtain ⟨e, fr⟩ := p
    cases e with
    | normal => exact Tch.ret _
    | exit i => exact Tch.cond (Tch.ret _) (Tch.ret _)
    | ret => exact Tch.ret _
  | loop c ih => intro fr; unfold Clean.codeX; exact Tch.loopX ih _ _
  | exit id => intro fr; exact Tch.ret _
  | ret => intro fr; exact Tch.ret _
  | _ => intro fr; exact Tch.fail
theorem Tch.resX {S : List Nat} (fr : Fr) : ∀ (l : List ResultVar), Tch S (resX P fr l)
  | [] => Tch.ret _
  | .tmp t :: l => Tch.bind (Tch.resX fr l) fun _ => Tch.ret _
  | .cell a t :: l => Tch.bind (Tch.loadX _ _) fun _ => Tch.bind (Tch.resX fr l) fun _ => Tch.ret _
theorem Tch.nextX {S : List Nat} : Tch S nextX := Tch.nil fun m a m' h => by cases h; rfl
theorem Tch.runDX {dcall : Caller} (hd : TchC dcall) (base : Nat) : ∀ l (S : List Nat), Tch S (runDX dcall base l)
  | [], _ => Tch.ret _
  | (f, args) :: l, S => by
    unfold Clean.runDX
    exact Tch.cond (Tch.bind Tch.nextX fun _ => Tch.bind (Tch.guard _) fun _ => Tch.got fun _ => Tch.bind (Tch.setB _ (List.mem_cons_self ..)) fun _ => Tch.runDX hd base l _) (Tch.bind (hd _ f args) fun _ => Tch.runDX hd base l _)
theorem Tch.endX {S : List Nat} {fin : Nat → Fr → M Unit} (hd : ∀ base fr, Tch S (fin base fr)) (base : Nat) (fn : Func) (fr : Fr) : Tch S (do
    fin base fr
    let vs ← Clean.resX P fr fn.results.toList
    match vs with
    | [v] => M.ret v
    | vs => M.ret (Value.tuple ⟨vs⟩)) := Tch.bind (hd _ _) fun _ => Tch.bind (Tch.resX _ _) fun vs => by split <;> exact Tch.ret _
theorem Tch.bodyX {S : List Nat} {call : Caller} {fin : Nat → Fr → M Unit} (hc : TchC call) (hd : ∀ base fr, Tch S (fin base fr)) (fn : Func) (args : List Value) : Tch S (bodyX P call fin fn args) := by
  unfold Clean.bodyX
  split
  · exact Tch.fail
  · refine Tch.bind (Tch.guard _) fun _ => Tch.bind Tch.nextX fun base => Tch.bind (by rw [frK_eq]; exact Tch.ret _) fun fr => Tch.bind (Tch.codeX hc _ _) fun p => ?_
    obtain ⟨e, fr⟩ := p
    cases e with
    | normal => exact Tch.endX hd _ fn fr
    | exit i => exact Tch.fail
    | ret => exact Tch.endX hd _ fn fr
theorem Tch.deferredX {call : Caller} (hc : TchC call) : TchC (deferredX P call) := fun S f args => by
  unfold Clean.deferredX
  split
  · exact Tch.fail
  · exact Tch.bodyX hc (fun _ _ => Tch.guard _) _ _
theorem Tch.callN {known : Known} (hk : ∀ f args g, known f args = some g → ∀ S, Tch S g) : ∀ n, TchC (callN P known n)
  | 0 => fun _ _ _ => Tch.fail
  | n + 1 => fun S f args => by
    unfold Clean.callN
    split
    · exact hk f args _ ‹_› S
    · split
      · exact Tch.fail
      · exact Tch.bodyX (Tch.callN hk n) (fun _ _ => Tch.runDX (Tch.deferredX (Tch.callN hk n)) _ _ _) _ _

/-! ### A memory of which a part is hidden -/
def hideT : List Nat → Trie Blk → Trie Blk
  | [], t => t
  | b :: B, t => Trie.set none (b + 1) (hideT B t) b
theorem hideT_get (c : Nat) (t : Trie Blk) : ∀ B, (hideT B t).get c = if c ∈ B then none else t.get c
  | [] => by simp [hideT]
  | b :: B => by
    unfold hideT
    by_cases h : c = b
    · subst h; rw [Trie.get_set_same _ _ _ _ (Nat.lt_succ_self _)]; simp
    · rw [Trie.get_set_ne _ _ _ _ _ h, hideT_get c t B]; simp [h]
def Mem.hide (m : Mem) (B : List Nat) : Mem := { m with t := hideT B m.t }
@[simp] theorem Mem.at_hide (m : Mem) (B : List Nat) (c : Nat) : (m.hide B).at c = if c ∈ B then none else m.at c := hideT_get c m.t B
@[simp] theorem Mem.next_hide (m : Mem) (B : List Nat) : (m.hide B).next = m.next := by cases m; rfl
@[simp] theorem Mem.log_hide (m : Mem) (B : List Nat) : (m.hide B).log = m.log := by cases m; rfl
/-- What a call in a memory with a hidden part is in the whole one. -/
theorem gives_hide {α : Type} {f : M α} (hl : Local f) (ht : Tch [] f) {m : Mem} (B : List Nat) (hB : ∀ b ∈ B, b < m.next) {Q : α → Mem → Prop} (h : Gives f (m.hide B) Q) :
    Gives f m fun v m' => ∃ m1 nl, Q v m1 ∧ m'.log = nl ++ m.log ∧ (∀ p ∈ nl, p.2 ∉ B) ∧ m'.next = m1.next ∧ ∀ c, m'.at c = if c ∈ B then m.at c else m1.at c := by
  obtain ⟨a, m1, e, q⟩ := h
  obtain ⟨nl, l1, _, _, t1⟩ := ht _ _ _ e
  obtain ⟨nl2, l2, _, r2, k2⟩ := hl _ _ _ e
  obtain rfl : nl = nl2 := by rw [l1] at l2; exact List.append_cancel_right l2
  have hno : ∀ p ∈ nl, p.2 ∉ B := fun p hp hb => by
    rcases t1 p hp with h | h | h
    · exact h ((hideT_get p.2 m.t B).trans (if_pos hb))
    · have := hB _ hb
      rw [Mem.next_hide] at h
      omega
    · cases h
  obtain ⟨m2, e2, lg2, nx2, w2, u2⟩ := k2 m (by simp) fun p hp => ((hideT_get p.2 m.t B).trans (if_neg (hno p hp))).symm
  refine ⟨a, m2, e2, m1, nl, q, lg2, hno, nx2, fun c => ?_⟩
  show m2.t.get c = if c ∈ B then m.t.get c else m1.t.get c
  by_cases hw : (true, c) ∈ nl
  · rw [w2 c hw, if_neg (hno _ hw)]
  · rw [u2 c hw]
    by_cases hc : c ∈ B
    · rw [if_pos hc]
    · rw [if_neg hc, r2 c hw]
      exact ((hideT_get c m.t B).trans (if_neg hc)).symm

/-! ### Deferred calls -/
variable {call : Caller}
def Fr.psh (fr : Fr) (x : FuncId × List Value) : Fr := { fr with d := x :: fr.d }
@[simp] theorem Fr.at_psh (fr : Fr) (x : FuncId × List Value) (t : Nat) : (fr.psh x).at t = fr.at t := by cases fr; rfl
@[simp] theorem Fr.n_psh (fr : Fr) (x : FuncId × List Value) : (fr.psh x).n = fr.n := by cases fr; rfl
@[simp] theorem Fr.d_psh (fr : Fr) (x : FuncId × List Value) : (fr.psh x).d = x :: fr.d := by cases fr; rfl
/-- A function that has put off one call. -/
def fnD (P : Program) (call : Caller) (rs : List ResultVar) (Q : Value → Mem → Prop) : CQ := fun r m => match r.1 with
  | .exit _ => False
  | _ => ∃ g args, r.2.d = [(g, args)] ∧ isMark args = false ∧ Gives (deferredX P call g args) m fun _ m1 => Gives (resX P r.2 rs) m1 fun vs m' => Q (retV vs) m'
@[simp] theorem step_nilCheck {ops : Array Oper} {fr : Fr} {m : Mem} {Q : Fr → Mem → Prop} {ty : TypeId} {pos : String} {af : Array Edge} {d : Option Tmp} (t : Tmp) {a : Addr} (h : fr.at t = .pointer (some a)) : Gives (stepDX P call ops fr ⟨d, .nilCheck (.tmp t), ty, pos, af, none⟩) m Q ↔ putQ fr d Q (.pointer (some a)) m := by
  have e : ev fr (.tmp t) = some (.pointer (some a)) := by rw [← h]; cases fr; rfl
  rw [step_any rfl rfl]
  unfold opX
  dsimp only
  rw [e]
  exact gives_ret _ _ _
@[simp] theorem nd_nilCheck {ty : TypeId} {pos : String} {af : Array Edge} {d : Option Tmp} {g : Option (Nat × Bool)} (x : Operand) : isDefer ⟨d, .nilCheck x, ty, pos, af, g⟩ = false := by cases d <;> rfl
end Go.Clean

/- Plain: whole numbers as words of 32 bits, the least one first. No program in sight. -/
set_option linter.unusedVariables false
set_option linter.unusedSimpArgs false
namespace Go.Proofs.Ytghhanifakllpaa

/-- What words are worth. -/
def wv : List Nat → Nat
  | [] => 0
  | x :: l => x + 4294967296 * wv l
/-- Words. -/
def Wd (l : List Nat) : Prop := ∀ x ∈ l, x < 4294967296
/-- The last word is not nought. -/
def Tr (l : List Nat) : Prop := ∀ x, l.getLast? = some x → x ≠ 0
def pw (k : Nat) : Nat := 4294967296 ^ k
theorem pw_zero : pw 0 = 1 := rfl
theorem pw_succ (k : Nat) : pw (k + 1) = 4294967296 * pw k := by unfold pw; rw [Nat.pow_succ, Nat.mul_comm]
theorem pw_add (j k : Nat) : pw (j + k) = pw j * pw k := Nat.pow_add _ _ _
theorem pw_pos (k : Nat) : 0 < pw k := Nat.pow_pos (by decide)
theorem pw_two (k : Nat) : pw k = 2 ^ (32 * k) := by unfold pw; rw [show (4294967296 : Nat) = 2 ^ 32 from rfl, ← Nat.pow_mul]
theorem pw_mono {j k : Nat} (h : j ≤ k) : pw j ≤ pw k := Nat.pow_le_pow_right (by decide) h
theorem wv_append : ∀ a b : List Nat, wv (a ++ b) = wv a + pw a.length * wv b
  | [], b => by simp [wv, pw_zero]
  | x :: a, b => by
    show x + 4294967296 * wv (a ++ b) = x + 4294967296 * wv a + pw (a.length + 1) * wv b
    rw [wv_append a b, pw_succ, Nat.mul_add, Nat.mul_assoc, Nat.add_assoc]
theorem wv_lt : ∀ {l : List Nat}, Wd l → wv l < pw l.length
  | [], _ => by simp [wv, pw_zero]
  | x :: l, h => by
    have h1 := wv_lt (l := l) fun y hy => h y (List.mem_cons_of_mem _ hy)
    have h2 := h x List.mem_cons_self
    show x + 4294967296 * wv l < pw (l.length + 1)
    rw [pw_succ]
    omega
theorem Wd.nil : Wd [] := fun x h => by cases h
theorem Wd.app {a b : List Nat} (ha : Wd a) (hb : Wd b) : Wd (a ++ b) := fun x h => (List.mem_append.1 h).elim (ha x) (hb x)
theorem Wd.left {a b : List Nat} (h : Wd (a ++ b)) : Wd a := fun x hx => h x (List.mem_append_left _ hx)
theorem Wd.right {a b : List Nat} (h : Wd (a ++ b)) : Wd b := fun x hx => h x (List.mem_append_right _ hx)
theorem Wd.take {l : List Nat} (h : Wd l) (k : Nat) : Wd (l.take k) := fun x hx => h x (List.mem_of_mem_take hx)
theorem Wd.drop {l : List Nat} (h : Wd l) (k : Nat) : Wd (l.drop k) := fun x hx => h x (List.mem_of_mem_drop hx)
theorem Wd.set {l : List Nat} (h : Wd l) (i : Nat) {x : Nat} (hx : x < 4294967296) : Wd (l.set i x) := fun y hy => by
  rcases List.mem_or_eq_of_mem_set hy with h1 | h1
  · exact h y h1
  · rw [h1]; exact hx
theorem Wd.at {l : List Nat} (h : Wd l) {i : Nat} (hi : i < l.length) : l.getD i 0 < 4294967296 := by
  simp only [List.getD, List.getElem?_eq_getElem hi, Option.getD_some]
  exact h _ (List.getElem_mem hi)
theorem Wd.zeros (n : Nat) : Wd (List.replicate n 0) := fun x hx => by rw [List.eq_of_mem_replicate hx]; decide
theorem wv_zeros : ∀ n, wv (List.replicate n 0) = 0
  | 0 => rfl
  | n + 1 => by show 0 + 4294967296 * wv (List.replicate n 0) = 0; rw [wv_zeros n]
/-- Cut in two. -/
theorem wv_cut (l : List Nat) (k : Nat) (hk : k ≤ l.length) : wv l = wv (l.take k) + pw k * wv (l.drop k) := by
  conv => lhs; rw [← List.take_append_drop k l]
  rw [wv_append, List.length_take, Nat.min_eq_left hk]
theorem take_succ {l : List Nat} {i : Nat} (hi : i < l.length) : l.take (i + 1) = l.take i ++ [l.getD i 0] := by
  rw [List.take_succ_eq_append_getElem hi]
  simp [List.getD, hi]
theorem wv_take_succ {l : List Nat} {i : Nat} (hi : i < l.length) : wv (l.take (i + 1)) = wv (l.take i) + pw i * l.getD i 0 := by
  rw [take_succ hi, wv_append, List.length_take, Nat.min_eq_left (by omega)]
  simp [wv]
theorem drop_get {l : List Nat} {i : Nat} (hi : i < l.length) : l.drop i = l.getD i 0 :: l.drop (i + 1) := by
  rw [List.drop_eq_getElem_cons hi]
  simp [List.getD, hi]
theorem wv_drop {l : List Nat} {i : Nat} (hi : i < l.length) : wv (l.drop i) = l.getD i 0 + 4294967296 * wv (l.drop (i + 1)) := by
  rw [drop_get hi]; rfl
theorem wv_set {l : List Nat} {i x : Nat} (hi : i < l.length) : wv (l.set i x) + pw i * l.getD i 0 = wv l + pw i * x := by
  have h1 := wv_cut (l.set i x) i (by simp; omega)
  have h2 := wv_cut l i (by omega)
  rw [List.take_set_of_le (Nat.le_refl i)] at h1
  rw [wv_drop (by simp; exact hi)] at h1
  rw [wv_drop hi] at h2
  have e1 : (l.set i x).getD i 0 = x := by simp [List.getD, hi]
  have e2 : (l.set i x).drop (i + 1) = l.drop (i + 1) := by rw [List.drop_set_of_lt (by omega)]
  rw [e1, e2, Nat.mul_add] at h1
  rw [Nat.mul_add] at h2
  omega
theorem getD_set {l : List Nat} {i j x : Nat} (hi : i < l.length) : (l.set i x).getD j 0 = if j = i then x else l.getD j 0 := by
  simp only [List.getD, List.getElem?_set]
  by_cases h : i = j
  · subst h; simp [hi]
  · rw [if_neg h, if_neg (fun e => h e.symm)]

/-- The word with the number i. -/
def wat (l : List Nat) (i : Nat) : Nat := l.getD i 0
theorem wat_far {l : List Nat} {i : Nat} (h : l.length ≤ i) : wat l i = 0 := by
  unfold wat; simp [List.getD, List.getElem?_eq_none h]
theorem wat_lt {l : List Nat} (h : Wd l) (i : Nat) : wat l i < 4294967296 := by
  by_cases hi : i < l.length
  · exact h.at hi
  · rw [wat_far (by omega)]; decide
theorem wv_next (l : List Nat) (i : Nat) : wv (l.take (i + 1)) = wv (l.take i) + pw i * wat l i := by
  by_cases hi : i < l.length
  · exact wv_take_succ hi
  · rw [wat_far (by omega), List.take_of_length_le (show l.length ≤ i + 1 by omega), List.take_of_length_le (show l.length ≤ i by omega)]; simp
theorem wv_all {l : List Nat} {i : Nat} (h : l.length ≤ i) : wv (l.take i) = wv l := by rw [List.take_of_length_le h]
theorem wat_set {l : List Nat} {i j x : Nat} (hi : i < l.length) : wat (l.set i x) j = if j = i then x else wat l j := getD_set hi
theorem take_set_next {l : List Nat} {i x : Nat} (hi : i < l.length) : wv ((l.set i x).take (i + 1)) = wv (l.take i) + pw i * x := by
  rw [wv_next, List.take_set_of_le (Nat.le_refl i), wat_set hi, if_pos rfl]
theorem carry_step {p x c t : Nat} (h : x + 4294967296 * c = t) : p * x + 4294967296 * p * c = p * t := by
  rw [← h, Nat.mul_add, Nat.mul_comm 4294967296 p, Nat.mul_assoc]

/-! ### Noughts at the end -/
/-- How many words stand before noughts at the end, of the first n. -/
def trimN (l : List Nat) : Nat → Nat
  | 0 => 0
  | n + 1 => if l.getD n 0 = 0 then trimN l n else n + 1
theorem trimN_le (l : List Nat) : ∀ n, trimN l n ≤ n
  | 0 => Nat.le_refl _
  | n + 1 => by
    unfold trimN
    split
    · exact Nat.le_succ_of_le (trimN_le l n)
    · exact Nat.le_refl _
def trimL (l : List Nat) : List Nat := l.take (trimN l l.length)
theorem wv_trimN (l : List Nat) : ∀ n, n ≤ l.length → wv (l.take (trimN l n)) = wv (l.take n)
  | 0, _ => rfl
  | n + 1, h => by
    unfold trimN
    split
    · rename_i h0
      rw [wv_trimN l n (by omega), wv_take_succ (by omega), h0, Nat.mul_zero, Nat.add_zero]
    · rfl
theorem wv_trim (l : List Nat) : wv (trimL l) = wv l := by
  unfold trimL
  rw [wv_trimN l _ (Nat.le_refl _), List.take_length]
theorem tr_trimN (l : List Nat) : ∀ n, n ≤ l.length → Tr (l.take (trimN l n))
  | 0, _ => fun x hx => by simp [trimN] at hx
  | n + 1, h => by
    unfold trimN
    split
    · exact tr_trimN l n (by omega)
    · rename_i h0
      intro x hx
      rw [take_succ (by omega), List.getLast?_append] at hx
      simp at hx
      rw [← hx]; exact h0
theorem tr_trim (l : List Nat) : Tr (trimL l) := tr_trimN l _ (Nat.le_refl _)
theorem Wd.trim {l : List Nat} (h : Wd l) : Wd (trimL l) := h.take _
theorem Tr.nil : Tr [] := fun x h => by simp at h
theorem tr_last {l : List Nat} (h : Tr l) (h0 : 0 < l.length) : l.getD (l.length - 1) 0 ≠ 0 := by
  refine h _ ?_
  rw [List.getLast?_eq_getElem?]
  simp [List.getD, show l.length - 1 < l.length by omega]
theorem tr_ge {l : List Nat} (h : Tr l) (h0 : 0 < l.length) : pw (l.length - 1) ≤ wv l := by
  have h1 := tr_last h h0
  have h2 := wv_take_succ (l := l) (i := l.length - 1) (by omega)
  rw [show l.length - 1 + 1 = l.length by omega, List.take_length] at h2
  have h3 : pw (l.length - 1) * 1 ≤ pw (l.length - 1) * l.getD (l.length - 1) 0 := Nat.mul_le_mul_left _ (by omega)
  omega
theorem tr_zero {l : List Nat} (h : Tr l) (h0 : wv l = 0) : l = [] := by
  by_cases hl : 0 < l.length
  · have := tr_ge h hl
    have := pw_pos (l.length - 1)
    omega
  · exact List.eq_nil_of_length_eq_zero (by omega)
theorem tr_pos {l : List Nat} (h : Tr l) (h0 : l ≠ []) : 0 < wv l := by
  rcases Nat.eq_zero_or_pos (wv l) with h1 | h1
  · exact absurd (tr_zero h h1) h0
  · exact h1
theorem tr_len {a b : List Nat} (ha : Wd a) (hb : Tr b) (h : a.length < b.length) : wv a < wv b := by
  have h1 := wv_lt ha
  have h2 := tr_ge hb (by omega)
  have h3 := pw_mono (show a.length ≤ b.length - 1 by omega)
  omega
/-- Those that have the same worth are the same. -/
theorem wv_inj : ∀ {a b : List Nat}, Wd a → Wd b → a.length = b.length → wv a = wv b → a = b
  | [], [], _, _, _, _ => rfl
  | [], _ :: _, _, _, h, _ => by simp at h
  | _ :: _, [], _, _, h, _ => by simp at h
  | x :: a, y :: b, ha, hb, hl, h => by
    have h1 := ha x List.mem_cons_self
    have h2 := hb y List.mem_cons_self
    have h3 : x + 4294967296 * wv a = y + 4294967296 * wv b := h
    have h4 : x = y := by omega
    have h5 : wv a = wv b := by omega
    rw [h4, wv_inj (fun z hz => ha z (List.mem_cons_of_mem _ hz)) (fun z hz => hb z (List.mem_cons_of_mem _ hz)) (by simpa using hl) h5]
theorem tr_inj {a b : List Nat} (ha : Wd a) (hb : Wd b) (ta : Tr a) (tb : Tr b) (h : wv a = wv b) : a = b := by
  by_cases h1 : a.length < b.length
  · have := tr_len ha tb h1; omega
  · by_cases h2 : b.length < a.length
    · have := tr_len hb ta h2; omega
    · exact wv_inj ha hb (by omega) h
/-- How words are held against each other, from the end. -/
theorem cmp_high {a b : List Nat} (ha : Wd a) (hb : Wd b) (hl : a.length = b.length) {i : Nat} (hi : i < a.length) (he : ∀ j, i < j → j < a.length → a.getD j 0 = b.getD j 0) (h : a.getD i 0 < b.getD i 0) : wv a < wv b := by
  have h1 := wv_cut a (i + 1) (by omega)
  have h2 := wv_cut b (i + 1) (by omega)
  have hd : a.drop (i + 1) = b.drop (i + 1) := by
    refine List.ext_getElem? fun j => ?_
    rw [List.getElem?_drop, List.getElem?_drop]
    by_cases hj : i + 1 + j < a.length
    · have h3 := he (i + 1 + j) (by omega) hj
      simp only [List.getD, List.getElem?_eq_getElem hj, List.getElem?_eq_getElem (show i + 1 + j < b.length by omega), Option.getD_some] at h3
      rw [List.getElem?_eq_getElem hj, List.getElem?_eq_getElem (show i + 1 + j < b.length by omega), h3]
    · rw [List.getElem?_eq_none (by omega), List.getElem?_eq_none (by omega)]
  rw [wv_take_succ hi] at h1
  rw [wv_take_succ (by omega), ← hd] at h2
  have h3 := wv_lt (ha.take i)
  rw [List.length_take, Nat.min_eq_left (by omega)] at h3
  have h4 : pw i * (a.getD i 0 + 1) ≤ pw i * b.getD i 0 := Nat.mul_le_mul_left _ h
  rw [Nat.mul_add, Nat.mul_one] at h4
  omega
theorem eq_words {a b : List Nat} (hl : a.length = b.length) (h : ∀ j, j < a.length → a.getD j 0 = b.getD j 0) : a = b := by
  refine List.ext_getElem? fun j => ?_
  by_cases hj : j < a.length
  · have h3 := h j hj
    simp only [List.getD, List.getElem?_eq_getElem hj, List.getElem?_eq_getElem (show j < b.length by omega), Option.getD_some] at h3
    rw [List.getElem?_eq_getElem hj, List.getElem?_eq_getElem (show j < b.length by omega), h3]
  · rw [List.getElem?_eq_none (by omega), List.getElem?_eq_none (by omega)]
end Go.Proofs.Ytghhanifakllpaa
