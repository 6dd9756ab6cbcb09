/- The clean executor: what is touched was there, or is new; a call in a memory of which a part is hidden; deferred calls walked by hand. -/
import Derived.Test.YtonmjdhdkkmjlaaKX
set_option linter.unusedVariables false
set_option linter.unusedSimpArgs false
namespace Go.Clean
open Go
variable {P : Program}

/-- It touches what is there, what is new, or what is in S. -/
def Tch {α : Type} (S : List Nat) (f : M α) : Prop := ∀ m a m', f m = some (a, m') → ∃ nl, m'.log = nl ++ m.log ∧ m.next ≤ m'.next ∧ (∀ b, (true, b) ∉ nl → m'.t.get b = m.t.get b) ∧ ∀ p ∈ nl, m.t.get p.2 ≠ none ∨ m.next ≤ p.2 ∨ p.2 ∈ S
theorem Tch.nil {α : Type} {S : List Nat} {f : M α} (h : ∀ m a m', f m = some (a, m') → m' = m) : Tch S f := fun m a m' e => by
  obtain rfl := h m a m' e
  exact ⟨[], rfl, Nat.le_refl _, fun _ _ => rfl, fun p hp => by cases hp⟩
theorem Tch.ret {α : Type} {S : List Nat} (a : α) : Tch S (M.ret a) := Tch.nil fun m b m' h => by cases h; rfl
theorem Tch.fail {α : Type} {S : List Nat} : Tch S (M.fail : M α) := Tch.nil fun m b m' h => by cases h
theorem Tch.lift {α : Type} {S : List Nat} (o : Option α) : Tch S (M.lift o) := by
  cases o
  · exact Tch.fail
  · exact Tch.ret _
theorem Tch.guard {S : List Nat} (b : Bool) : Tch S (M.guard b) := by
  cases b
  · exact Tch.nil fun m b m' h => by cases h
  · exact Tch.ret ()
theorem Tch.bind {α β : Type} {S : List Nat} {f : M α} {g : α → M β} (hf : Tch S f) (hg : ∀ a, Tch S (g a)) : Tch S (f >>= g) := fun m c m' h => by
  obtain ⟨a, m1, h1, h2⟩ := bind_some h
  obtain ⟨n1, l1, x1, r1, t1⟩ := hf m a m1 h1
  obtain ⟨n2, l2, x2, r2, t2⟩ := hg a m1 c m' h2
  refine ⟨n2 ++ n1, by rw [l2, l1, List.append_assoc], Nat.le_trans x1 x2, fun b hb => ?_, fun p hp => ?_⟩
  · simp only [List.mem_append, not_or] at hb
    rw [r2 b hb.1, r1 b hb.2]
  · rcases List.mem_append.1 hp with hp | hp
    · rcases t2 p hp with h | h | h
      · by_cases hw : (true, p.2) ∈ n1
        · exact t1 (true, p.2) hw
        · rw [r1 _ hw] at h; exact .inl h
      · exact .inr (.inl (Nat.le_trans x1 h))
      · exact .inr (.inr h)
    · exact t1 p hp
theorem Tch.getB {S : List Nat} (b : Nat) : Tch S (getB b) := fun m x m' h => by
  unfold Clean.getB at h
  cases hb : m.t.get b with
  | none => simp [hb] at h
  | some y =>
    simp only [hb, Option.some.injEq, Prod.mk.injEq] at h
    obtain ⟨rfl, rfl⟩ := h
    exact ⟨[(false, b)], rfl, Nat.le_refl _, fun _ _ => rfl, fun p hp => by simp at hp; subst hp; exact .inl (by rw [hb]; simp)⟩
/-- What has been read is there. -/
theorem Tch.got {α : Type} {S : List Nat} {b : Nat} {g : Blk → M α} (hg : ∀ x, Tch (b :: S) (g x)) : Tch S (Clean.getB b >>= g) := fun m c m' h => by
  obtain ⟨x, m1, h1, h2⟩ := bind_some h
  unfold Clean.getB at h1
  cases hb : m.t.get b with
  | none => simp [hb] at h1
  | some y =>
    simp only [hb, Option.some.injEq, Prod.mk.injEq] at h1
    obtain ⟨rfl, rfl⟩ := h1
    obtain ⟨n2, l2, x2, r2, t2⟩ := hg y _ c m' h2
    refine ⟨n2 ++ [(false, b)], by rw [l2, List.append_assoc]; rfl, x2, fun c hc => ?_, fun p hp => ?_⟩
    · simp only [List.mem_append, not_or] at hc
      exact r2 c hc.1
    · rcases List.mem_append.1 hp with hp | hp
      · rcases t2 p hp with h | h | h
        · exact .inl h
        · exact .inr (.inl h)
        · rcases List.mem_cons.1 h with h | h
          · rw [h]; exact .inl (by rw [hb]; simp)
          · exact .inr (.inr h)
      · simp at hp; subst hp; exact .inl (by rw [hb]; simp)
theorem Tch.setB {S : List Nat} {b : Nat} (x : Option Blk) (h : b ∈ S) : Tch S (setB b x) := fun m u m' e => by
  rw [setB_eq] at e
  simp only [Option.some.injEq, Prod.mk.injEq, true_and] at e
  subst e
  refine ⟨[(true, b)], rfl, Nat.le_refl _, fun c hc => Trie.get_set_ne _ _ _ _ _ (by simpa using hc), fun p hp => ?_⟩
  simp at hp; subst hp; exact .inr (.inr h)
theorem Tch.newB {S : List Nat} (x : Blk) : Tch S (newB x) := fun m u m' e => by
  rw [newB_eq] at e
  simp only [Option.some.injEq, Prod.mk.injEq] at e
  obtain ⟨rfl, rfl⟩ := e
  refine ⟨[(true, m.next)], rfl, Nat.le_succ _, fun c hc => Trie.get_set_ne _ _ _ _ _ (by simpa using hc), fun p hp => ?_⟩
  simp at hp; subst hp; exact .inr (.inl (Nat.le_refl _))
theorem Tch.logged {α : Type} {S : List Nat} {f : M α} (hf : Tch S f) : Tch S (M.logged f) := fun m c m' h => by
  unfold M.logged at h
  cases hfm : f { m with log := [] } with
  | none => simp [hfm] at h
  | some p =>
    obtain ⟨a, m1⟩ := p
    simp only [hfm, Option.some.injEq, Prod.mk.injEq] at h
    obtain ⟨rfl, rfl⟩ := h
    obtain ⟨nl, l1, x1, r1, t1⟩ := hf _ a m1 hfm
    simp only [List.append_nil] at l1
    exact ⟨nl, by simp only [l1], x1, r1, t1⟩
theorem Tch.congr {α : Type} {S : List Nat} {f g : M α} (h : ∀ m, f m = g m) (hg : Tch S g) : Tch S f := by
  have : f = g := funext h
  rw [this]; exact hg
theorem Tch.cond {α : Type} {S : List Nat} {b : Bool} {f g : M α} (hf : Tch S f) (hg : Tch S g) : Tch S (bif b then f else g) := by cases b <;> assumption
theorem Tch.newX {S : List Nat} (cells : List Value) (sz : Nat) (grow : Bool) : Tch S (newX cells sz grow) := by
  unfold Clean.newX
  refine Tch.bind (Tch.guard _) fun _ => Tch.congr (g := Clean.newB { cells, sz, grow, ro := false }) (fun m => by rw [valsK_eq]) (Tch.newB _)
theorem Tch.loadX {S : List Nat} (t : TypeId) (a : Value) : Tch S (loadX P t a) := by
  unfold Clean.loadX
  repeat' (first | exact Tch.fail | exact Tch.ret _ | exact Tch.lift _ | exact Tch.guard _ | exact Tch.getB _ | refine Tch.bind ?_ fun _ => ?_ | split)
theorem Tch.laid {α : Type} {S : List Nat} (cs : List Value) (o : Nat) (vs : List Value) (g : List Value → M α) (h : ∀ l, Tch S (g l)) :
    Tch S (fun m => layK cs o vs fun
      | some l => g l m
      | none => none) := by
  refine Tch.congr (g := match lay cs o vs with
    | some l => g l
    | none => M.fail) (fun m => ?_) ?_
  · rw [layK_eq]
    cases lay cs o vs <;> rfl
  · cases lay cs o vs with
    | none => exact Tch.fail
    | some l => exact h l
theorem Tch.storeX {S : List Nat} (t : TypeId) (a x : Value) : Tch S (storeX P t a x) := by
  unfold Clean.storeX
  split
  · refine Tch.got fun blk => Tch.bind (Tch.guard _) fun _ => Tch.laid _ _ _ _ fun l => Tch.bind (Tch.setB _ (List.mem_cons_self ..)) fun _ => Tch.ret _
  · exact Tch.fail
theorem Tch.buildSliceX {S : List Nat} (t : TypeId) (len : Nat) (ps : List (Nat × Value)) : Tch S (buildSliceX P t len ps) := by
  unfold Clean.buildSliceX
  repeat' (first | exact Tch.fail | exact Tch.ret _ | exact Tch.lift _ | exact Tch.guard _ | exact Tch.getB _ | exact Tch.newX _ _ _ | refine Tch.bind ?_ fun _ => ?_ | split)
theorem Tch.makeSliceX {S : List Nat} (t : TypeId) (l c : Value) : Tch S (makeSliceX P t l c) := by
  unfold Clean.makeSliceX
  repeat' (first | exact Tch.fail | exact Tch.ret _ | exact Tch.lift _ | exact Tch.guard _ | exact Tch.getB _ | exact Tch.newX _ _ _ | refine Tch.bind ?_ fun _ => ?_ | split)
theorem Tch.sliceX {S : List Nat} (t : TypeId) (x : Value) (lo hi mx : Option Value) : Tch S (sliceX P t x lo hi mx) := by
  unfold Clean.sliceX
  repeat' (first | exact Tch.fail | exact Tch.ret _ | exact Tch.lift _ | exact Tch.guard _ | exact Tch.getB _ | exact Tch.newB _ | refine Tch.bind ?_ fun _ => ?_ | refine Tch.cond ?_ ?_ | split)
theorem Tch.elemsX {S : List Nat} (x : Value) (n : Nat) : Tch S (elemsX x n) := by
  unfold Clean.elemsX
  repeat' (first | exact Tch.fail | exact Tch.ret _ | exact Tch.getB _ | refine Tch.bind ?_ fun _ => ?_ | split)
theorem Tch.appendX {S : List Nat} (t u : TypeId) (s x : Value) : Tch S (appendX P t u s x) := by
  unfold Clean.appendX
  repeat' (first | exact Tch.fail | exact Tch.ret _ | exact Tch.lift _ | exact Tch.guard _ | exact Tch.newX _ _ _ | exact Tch.setB _ (by simp) | exact Tch.elemsX _ _
                 | refine Tch.laid _ _ _ _ fun _ => ?_ | refine Tch.got fun _ => ?_ | refine Tch.bind ?_ fun _ => ?_ | refine Tch.cond ?_ ?_ | split)
theorem Tch.takenX {S : List Nat} (s : Value) (n k : Nat) : Tch S (takenX s n k) := by
  unfold Clean.takenX
  repeat' (first | exact Tch.fail | exact Tch.ret _ | exact Tch.getB _ | refine Tch.bind ?_ fun _ => ?_ | split)
theorem Tch.copyX {S : List Nat} (t : TypeId) (d s : Value) : Tch S (copyX P t d s) := by
  unfold Clean.copyX
  repeat' (first | exact Tch.fail | exact Tch.ret _ | exact Tch.lift _ | exact Tch.guard _ | exact Tch.newX _ _ _ | exact Tch.setB _ (by simp) | exact Tch.takenX _ _ _
                 | refine Tch.laid _ _ _ _ fun _ => ?_ | refine Tch.got fun _ => ?_ | refine Tch.bind ?_ fun _ => ?_ | refine Tch.cond ?_ ?_ | split)
def TchC (call : Caller) : Prop := ∀ S f args, Tch S (call f args)
theorem Tch.capX {S : List Nat} (t : TypeId) (x : Value) : Tch S (capX P t x) := by
  unfold Clean.capX
  split
  · exact Tch.ret _
  · exact Tch.bind (Tch.getB _) fun _ => Tch.bind (Tch.guard _) fun _ => Tch.ret _
  · exact Tch.fail
theorem Tch.zerosX {S : List Nat} (t u : TypeId) (n : Int) : Tch S (zerosX P t u n) := by
  unfold Clean.zerosX
  repeat' (first | exact Tch.fail | exact Tch.ret _ | exact Tch.guard _ | exact Tch.newX _ _ _ | refine Tch.bind ?_ fun _ => ?_ | split)
theorem Tch.callX {S : List Nat} {call : Caller} (hc : TchC call) (fr : Fr) (c : Call) : Tch S (callX P call fr c) := by
  unfold Clean.callX
  repeat' (first | exact Tch.fail | exact Tch.ret _ | exact Tch.lift _ | exact hc _ _ _ | exact Tch.appendX _ _ _ _ | exact Tch.copyX _ _ _ | exact Tch.capX _ _ | exact Tch.zerosX _ _ _ | split)
theorem Tch.opX {S : List Nat} {call : Caller} (hc : TchC call) (fr : Fr) (o : Oper) : Tch S (opX P call fr o) := by
  unfold Clean.opX
  repeat' (first | exact Tch.fail | exact Tch.ret _ | exact Tch.lift _ | exact Tch.callX hc _ _ | exact Tch.loadX _ _ | exact Tch.storeX _ _ _ | exact Tch.buildSliceX _ _ _
                 | exact Tch.makeSliceX _ _ _ | exact Tch.sliceX _ _ _ _ _ | exact Tch.newX _ _ _ | refine Tch.bind ?_ fun _ => ?_ | split)
theorem Tch.put {S : List Nat} (fr : Fr) (dst : Option Tmp) (v : Value) : Tch S (fr.put dst v) := by
  cases dst with
  | none => exact Tch.congr (g := M.ret fr) (fun m => rfl) (Tch.ret _)
  | some d =>
    by_cases h : d < fr.n
    · exact Tch.congr (g := M.ret { fr with t := Trie.set (some v) (d + 1) fr.t d }) (fun m => by unfold Fr.put; rw [putK_eq]; simp only [h, if_true]; rfl) (Tch.ret _)
    · exact Tch.congr (g := M.fail) (fun m => by unfold Fr.put; rw [putK_eq]; simp only [h, if_false]; rfl) Tch.fail
theorem Tch.stepX {S : List Nat} {call : Caller} (hc : TchC call) (ops : Array Oper) (fr : Fr) (o : Oper) : Tch S (stepX P call ops fr o) := by
  unfold Clean.stepX
  exact Tch.cond (Tch.bind (Tch.opX hc _ _) fun _ => Tch.put _ _ _) (Tch.put _ _ _)
theorem Tch.stepDX {S : List Nat} {call : Caller} (hc : TchC call) (ops : Array Oper) (fr : Fr) (o : Oper) : Tch S (stepDX P call ops fr o) := by
  unfold Clean.stepDX
  split
  · refine Tch.cond ?_ (Tch.put _ _ _)
    split
    · exact Tch.put _ _ _
    · exact Tch.fail
  · exact Tch.stepX hc _ _ _
theorem Tch.stepsX {S : List Nat} {call : Caller} (hc : TchC call) (ops : Array Oper) : ∀ (l : List Oper) (fr : Fr), Tch S (stepsX P call ops l fr)
  | [], fr => Tch.ret _
  | o :: l, fr => Tch.bind (Tch.stepDX hc _ _ _) fun fr => Tch.stepsX hc ops l fr
theorem Tch.drawX {S : List Nat} {call : Caller} (hc : TchC call) (ops : Array Oper) : ∀ (l : List Oper) (as : List Nat) (i : Nat) (logs : List (Nat × List (Bool × Nat))) (fr : Fr), Tch S (drawX P call ops l as i logs fr)
  | o :: l, a :: as, i, logs, fr => Tch.bind (Tch.logged (Tch.stepX hc _ _ _)) fun _ => Tch.bind (Tch.guard _) fun _ => Tch.drawX hc ops l as _ _ _
  | [], [], _, _, _ => Tch.ret _
  | [], _ :: _, _, _, _ => Tch.ret _
  | _ :: _, [], _, _, _ => Tch.fail
theorem Tch.loopX {S : List Nat} {body : Fr → M (Ex × Fr)} (h : ∀ fr, Tch S (body fr)) : ∀ (n : Nat) (fr : Fr), Tch S (loopX body n fr)
  | 0, _ => Tch.fail
  | n + 1, fr => Tch.bind (h fr) fun p => by
    obtain ⟨e, fr⟩ := p
    cases e with
    | normal => exact Tch.loopX h n fr
    | exit i => exact Tch.ret _
    | ret => exact Tch.ret _
theorem Tch.cellX {S : List Nat} (a : Addr) : Tch S (cellX a) := by
  unfold Clean.cellX
  split
  · refine Tch.bind (Tch.getB _) fun blk => ?_
    split
    · exact Tch.ret _
    · exact Tch.fail
  · exact Tch.fail
theorem Tch.putRound {S : List Nat} : ∀ (ts : List Tmp) (vs : List Value) (fr : Fr), Tch S (putRound ts vs fr)
  | t :: ts, v :: vs, fr => Tch.bind (Tch.put _ _ _) fun fr => Tch.putRound ts vs fr
  | [], [], _ => Tch.ret _
  | [], _ :: _, _ => Tch.fail
  | _ :: _, [], _ => Tch.fail
theorem Tch.backX {S : List Nat} {assign body : Fr → M (Ex × Fr)} (ha : ∀ fr, Tch S (assign fr)) (hb : ∀ fr, Tch S (body fr)) (bx : Addr) (n : Nat) (ps : List Tmp) (fr : Fr) : ∀ i, Tch S (backX assign body bx n ps fr i)
  | 0 => Tch.ret _
  | i + 1 => by
    unfold Clean.backX
    refine Tch.bind (Tch.cellX _) fun v => ?_
    split
    · refine Tch.bind (Tch.guard _) fun _ => Tch.bind (Tch.cellX _) fun x => Tch.bind (Tch.putRound _ _ _) fun fr1 => Tch.bind (ha _) fun q => ?_
      obtain ⟨e, fr2⟩ := q
      cases e with
      | normal =>
        refine Tch.bind (hb _) fun q => ?_
        obtain ⟨e, fr3⟩ := q
        cases e with
        | normal => exact Tch.backX ha hb bx n ps fr i
        | exit i => exact Tch.ret _
        | ret => exact Tch.ret _
      | exit i => exact Tch.fail
      | ret => exact Tch.fail
    · exact Tch.fail
theorem Tch.codeX {S : List Nat} {call : Caller} (hc : TchC call) : ∀ (c : Code) (fr : Fr), Tch S (codeX P call c fr) := by
  intro c
  induction c with
  | rangeFunc g ps assign body iha ihb =>
    intro fr
    unfold Clean.codeX
    refine Tch.cond ?_ Tch.fail
    split
    · refine Tch.bind (Tch.newB _) fun b => Tch.bind (Tch.cellX _) fun v => ?_
      split
      · exact Tch.bind (Tch.guard _) fun _ => Tch.bind (Tch.backX iha ihb _ _ _ _ _) fun e => Tch.ret _
      · exact Tch.fail
    · exact Tch.fail
  | skip => intro fr; exact Tch.ret _
  | region id ops draw =>
    intro fr
    unfold Clean.codeX
    refine Tch.cond ?_ ?_
    · split
      · exact Tch.bind (Tch.drawX hc _ _ _ _ _ _) fun _ => Tch.ret _
      · exact Tch.fail
    · exact Tch.bind (Tch.stepsX hc _ _ _) fun _ => Tch.ret _
  | seq a b ha hb =>
    intro fr
    unfold Clean.codeX
    refine Tch.bind (ha fr) fun p => ?_
    obtain ⟨e, fr⟩ := p
    cases e with
    | normal => exact hb fr
    | exit i => exact Tch.ret _
    | ret => exact Tch.ret _
  | cond c a b ha hb =>
    intro fr
    unfold Clean.codeX
    split
    · exact ha fr
    · exact hb fr
    · exact Tch.fail
  | block id c ih =>
    intro fr
    unfold Clean.codeX
    refine Tch.bind (ih fr) fun p => ?_
    obtain ⟨e, fr⟩ := p
    cases e with
    | normal => exact Tch.ret _
    | exit i => exact Tch.cond (Tch.ret _) (Tch.ret _)
    | ret => exact Tch.ret _
  | loop c ih => intro fr; unfold Clean.codeX; exact Tch.loopX ih _ _
  | exit id => intro fr; exact Tch.ret _
  | ret => intro fr; exact Tch.ret _
  | _ => intro fr; exact Tch.fail
theorem Tch.resX {S : List Nat} (fr : Fr) : ∀ (l : List ResultVar), Tch S (resX P fr l)
  | [] => Tch.ret _
  | .tmp t :: l => Tch.bind (Tch.resX fr l) fun _ => Tch.ret _
  | .cell a t :: l => Tch.bind (Tch.loadX _ _) fun _ => Tch.bind (Tch.resX fr l) fun _ => Tch.ret _
theorem Tch.nextX {S : List Nat} : Tch S nextX := Tch.nil fun m a m' h => by cases h; rfl
theorem Tch.runDX {dcall : Caller} (hd : TchC dcall) (base : Nat) : ∀ l (S : List Nat), Tch S (runDX dcall base l)
  | [], _ => Tch.ret _
  | (f, args) :: l, S => by
    unfold Clean.runDX
    exact Tch.cond (Tch.bind Tch.nextX fun _ => Tch.bind (Tch.guard _) fun _ => Tch.got fun _ => Tch.bind (Tch.setB _ (List.mem_cons_self ..)) fun _ => Tch.runDX hd base l _) (Tch.bind (hd _ f args) fun _ => Tch.runDX hd base l _)
theorem Tch.endX {S : List Nat} {fin : Nat → Fr → M Unit} (hd : ∀ base fr, Tch S (fin base fr)) (base : Nat) (fn : Func) (fr : Fr) : Tch S (do
    fin base fr
    let vs ← Clean.resX P fr fn.results.toList
    match vs with
    | [v] => M.ret v
    | vs => M.ret (Value.tuple ⟨vs⟩)) := Tch.bind (hd _ _) fun _ => Tch.bind (Tch.resX _ _) fun vs => by split <;> exact Tch.ret _
theorem Tch.bodyX {S : List Nat} {call : Caller} {fin : Nat → Fr → M Unit} (hc : TchC call) (hd : ∀ base fr, Tch S (fin base fr)) (fn : Func) (args : List Value) : Tch S (bodyX P call fin fn args) := by
  unfold Clean.bodyX
  split
  · exact Tch.fail
  · refine Tch.bind (Tch.guard _) fun _ => Tch.bind Tch.nextX fun base => Tch.bind (by rw [frK_eq]; exact Tch.ret _) fun fr => Tch.bind (Tch.codeX hc _ _) fun p => ?_
    obtain ⟨e, fr⟩ := p
    cases e with
    | normal => exact Tch.endX hd _ fn fr
    | exit i => exact Tch.fail
    | ret => exact Tch.endX hd _ fn fr
theorem Tch.deferredX {call : Caller} (hc : TchC call) : TchC (deferredX P call) := fun S f args => by
  unfold Clean.deferredX
  split
  · exact Tch.fail
  · exact Tch.bodyX hc (fun _ _ => Tch.guard _) _ _
theorem Tch.callN {known : Known} (hk : ∀ f args g, known f args = some g → ∀ S, Tch S g) : ∀ n, TchC (callN P known n)
  | 0 => fun _ _ _ => Tch.fail
  | n + 1 => fun S f args => by
    unfold Clean.callN
    split
    · exact hk f args _ ‹_› S
    · split
      · exact Tch.fail
      · exact Tch.bodyX (Tch.callN hk n) (fun _ _ => Tch.runDX (Tch.deferredX (Tch.callN hk n)) _ _ _) _ _

/-! ### A memory of which a part is hidden -/
def hideT : List Nat → Trie Blk → Trie Blk
  | [], t => t
  | b :: B, t => Trie.set none (b + 1) (hideT B t) b
theorem hideT_get (c : Nat) (t : Trie Blk) : ∀ B, (hideT B t).get c = if c ∈ B then none else t.get c
  | [] => by simp [hideT]
  | b :: B => by
    unfold hideT
    by_cases h : c = b
    · subst h; rw [Trie.get_set_same _ _ _ _ (Nat.lt_succ_self _)]; simp
    · rw [Trie.get_set_ne _ _ _ _ _ h, hideT_get c t B]; simp [h]
def Mem.hide (m : Mem) (B : List Nat) : Mem := { m with t := hideT B m.t }
@[simp] theorem Mem.at_hide (m : Mem) (B : List Nat) (c : Nat) : (m.hide B).at c = if c ∈ B then none else m.at c := hideT_get c m.t B
@[simp] theorem Mem.next_hide (m : Mem) (B : List Nat) : (m.hide B).next = m.next := by cases m; rfl
@[simp] theorem Mem.log_hide (m : Mem) (B : List Nat) : (m.hide B).log = m.log := by cases m; rfl
/-- What a call in a memory with a hidden part is in the whole one. -/
theorem gives_hide {α : Type} {f : M α} (hl : Local f) (ht : Tch [] f) {m : Mem} (B : List Nat) (hB : ∀ b ∈ B, b < m.next) {Q : α → Mem → Prop} (h : Gives f (m.hide B) Q) :
    Gives f m fun v m' => ∃ m1 nl, Q v m1 ∧ m'.log = nl ++ m.log ∧ (∀ p ∈ nl, p.2 ∉ B) ∧ m'.next = m1.next ∧ ∀ c, m'.at c = if c ∈ B then m.at c else m1.at c := by
  obtain ⟨a, m1, e, q⟩ := h
  obtain ⟨nl, l1, _, _, t1⟩ := ht _ _ _ e
  obtain ⟨nl2, l2, _, r2, k2⟩ := hl _ _ _ e
  obtain rfl : nl = nl2 := by rw [l1] at l2; exact List.append_cancel_right l2
  have hno : ∀ p ∈ nl, p.2 ∉ B := fun p hp hb => by
    rcases t1 p hp with h | h | h
    · exact h ((hideT_get p.2 m.t B).trans (if_pos hb))
    · have := hB _ hb
      rw [Mem.next_hide] at h
      omega
    · cases h
  obtain ⟨m2, e2, lg2, nx2, w2, u2⟩ := k2 m (by simp) fun p hp => ((hideT_get p.2 m.t B).trans (if_neg (hno p hp))).symm
  refine ⟨a, m2, e2, m1, nl, q, lg2, hno, nx2, fun c => ?_⟩
  show m2.t.get c = if c ∈ B then m.t.get c else m1.t.get c
  by_cases hw : (true, c) ∈ nl
  · rw [w2 c hw, if_neg (hno _ hw)]
  · rw [u2 c hw]
    by_cases hc : c ∈ B
    · rw [if_pos hc]
    · rw [if_neg hc, r2 c hw]
      exact ((hideT_get c m.t B).trans (if_neg hc)).symm

/-! ### Deferred calls -/
variable {call : Caller}
def Fr.psh (fr : Fr) (x : FuncId × List Value) : Fr := { fr with d := x :: fr.d }
@[simp] theorem Fr.at_psh (fr : Fr) (x : FuncId × List Value) (t : Nat) : (fr.psh x).at t = fr.at t := by cases fr; rfl
@[simp] theorem Fr.n_psh (fr : Fr) (x : FuncId × List Value) : (fr.psh x).n = fr.n := by cases fr; rfl
@[simp] theorem Fr.d_psh (fr : Fr) (x : FuncId × List Value) : (fr.psh x).d = x :: fr.d := by cases fr; rfl
theorem step_defer {ops : Array Oper} {fr : Fr} {m : Mem} {Q : Fr → Mem → Prop} {ty : TypeId} {pos : String} {af : Array Edge} {c : Call} {x : FuncId × List Value} (h : deferX fr c = some x) (q : Q (fr.psh x) m) : Gives (stepDX P call ops fr ⟨none, .defer c, ty, pos, af, none⟩) m Q := by
  unfold stepDX
  dsimp only
  have : wantX ops fr ⟨none, .defer c, ty, pos, af, none⟩ = true := rfl
  rw [this, cond_true, h]
  exact (gives_put _ _ _ _ _).2 q
theorem deferX_tmp {fr : Fr} {t : Tmp} {ts : Array TypeId} {f : FuncId} {first cap : List Value} (h : fr.at t = .func (.func f) ⟨first⟩ ⟨cap⟩) : deferX fr ⟨.value (.tmp t), #[], ts⟩ = some (f, first ++ cap) := by
  unfold deferX
  have e : ev fr (.tmp t) = some (.func (.func f) ⟨first⟩ ⟨cap⟩) := by rw [← h]; cases fr; rfl
  have e2 : evs fr (#[] : Array Operand).toList = some [] := by cases fr; rfl
  simp only [e, e2]
  simp [funX]
/-- A function that has put off one call. -/
def fnD (P : Program) (call : Caller) (rs : List ResultVar) (Q : Value → Mem → Prop) : CQ := fun r m => match r.1 with
  | .exit _ => False
  | _ => ∃ g args, r.2.d = [(g, args)] ∧ isMark args = false ∧ Gives (deferredX P call g args) m fun _ m1 => Gives (resX P r.2 rs) m1 fun vs m' => Q (retV vs) m'
theorem fnD_ret {rs : List ResultVar} {Q : Value → Mem → Prop} {fr : Fr} {m : Mem} {g : FuncId} {args : List Value} (hd : fr.d = [(g, args)]) (hm : isMark args = false) (h : Gives (deferredX P call g args) m fun _ m1 => Gives (resX P fr rs) m1 fun vs m' => Q (retV vs) m') : fnD P call rs Q (.ret, fr) m := ⟨g, args, hd, hm, h⟩
theorem gives_fnD {known : Known} {n : Nat} {f : FuncId} {fn : Func} {c : Code} {nt : Nat} {rs : List ResultVar} {args : List Value} (hk : known f args = none) (hf : P.funcs[f]? = some fn) (hb : fn.body = some c) (hn : fn.ntmps = nt) (hr : fn.results.toList = rs) (hl : args.length ≤ nt)
    {m : Mem} {Q : Value → Mem → Prop} (h : ∀ fr : Fr, fr.n = nt → fr.d = [] → (∀ i v, args[i]? = some v → fr.at i = v) → Gives (codeX P (callN P known n) c fr) m (fnD P (callN P known n) rs Q)) : Gives (callN P known (n + 1) f args) m Q := by
  subst hn; subst hr
  have e : callN P known (n + 1) f args = bodyX P (callN P known n) (fun base fr => runDX (deferredX P (callN P known n)) base fr.d) fn args := by
    conv => lhs; unfold callN
    simp only [hk, hf]
  rw [e]
  unfold bodyX
  simp only [hb]
  rw [gives_bind, gives_guard]
  refine ⟨by rw [Nat.ble_eq]; exact hl, ?_⟩
  rw [gives_bind]
  refine ⟨m.next, m, rfl, ?_⟩
  dsimp only
  rw [gives_bind, frK_eq, gives_ret, gives_bind]
  refine (h ⟨putArgs args 0 .leaf, fn.ntmps, []⟩ rfl rfl fun i v hi => ?_).mono fun r m' q => ?_
  · show ((putArgs args 0 .leaf).get i).getD undef = v
    have hlt : i < args.length := (List.getElem?_eq_some_iff.1 hi).1
    rw [putArgs_get, if_pos (by omega)]
    simp only [Nat.sub_zero, hi]; rfl
  · obtain ⟨e, fr'⟩ := r
    have fin : fnD P (callN P known n) fn.results.toList Q (.ret, fr') m' → Gives (do
        runDX (deferredX P (callN P known n)) m.next fr'.d
        let vs ← resX P fr' fn.results.toList
        match vs with
        | [v] => M.ret v
        | vs => M.ret (Value.tuple ⟨vs⟩)) m' Q := by
      rintro ⟨g, gargs, q1, qm, q2⟩
      rw [gives_bind]
      simp only at q1
      rw [q1]
      unfold runDX
      rw [qm, cond_false, gives_bind]
      refine q2.mono fun _ m1 q2 => ?_
      unfold runDX
      refine (gives_ret _ _ _).2 ?_
      rw [gives_bind]
      refine q2.mono fun vs m2 q3 => ?_
      match vs, q3 with
      | [], q3 => exact (gives_ret _ _ _).2 q3
      | [v], q3 => exact (gives_ret _ _ _).2 q3
      | _ :: _ :: _, q3 => exact (gives_ret _ _ _).2 q3
    cases e with
    | normal => exact fin q
    | exit i => exact q.elim
    | ret => exact fin q
/-- The call that was put off. -/
theorem gives_deferred {f : FuncId} {fn : Func} {c : Code} {nt : Nat} {rs : List ResultVar} {args : List Value} (hf : P.funcs[f]? = some fn) (hb : fn.body = some c) (hn : fn.ntmps = nt) (hr : fn.results.toList = rs) (hl : args.length ≤ nt)
    {m : Mem} {Q : Value → Mem → Prop} (h : ∀ fr : Fr, fr.n = nt → fr.d = [] → (∀ i v, args[i]? = some v → fr.at i = v) → Gives (codeX P call c fr) m (fnQ P rs Q)) : Gives (deferredX P call f args) m Q := by
  subst hn; subst hr
  unfold deferredX
  simp only [hf]
  unfold bodyX
  simp only [hb]
  rw [gives_bind, gives_guard]
  refine ⟨by rw [Nat.ble_eq]; exact hl, ?_⟩
  rw [gives_bind]
  refine ⟨m.next, m, rfl, ?_⟩
  dsimp only
  rw [gives_bind, frK_eq, gives_ret, gives_bind]
  refine (h ⟨putArgs args 0 .leaf, fn.ntmps, []⟩ rfl rfl fun i v hi => ?_).mono fun r m' q => ?_
  · show ((putArgs args 0 .leaf).get i).getD undef = v
    have hlt : i < args.length := (List.getElem?_eq_some_iff.1 hi).1
    rw [putArgs_get, if_pos (by omega)]
    simp only [Nat.sub_zero, hi]; rfl
  · obtain ⟨e, fr'⟩ := r
    have fin : fnQ P fn.results.toList Q (.ret, fr') m' → Gives (do
        M.guard fr'.d.isEmpty
        let vs ← resX P fr' fn.results.toList
        match vs with
        | [v] => M.ret v
        | vs => M.ret (Value.tuple ⟨vs⟩)) m' Q := by
      rintro ⟨q1, q2⟩
      rw [gives_bind, gives_guard, q1]
      refine ⟨rfl, ?_⟩
      rw [gives_bind]
      refine q2.mono fun vs m2 q3 => ?_
      match vs, q3 with
      | [], q3 => exact (gives_ret _ _ _).2 q3
      | [v], q3 => exact (gives_ret _ _ _).2 q3
      | _ :: _ :: _, q3 => exact (gives_ret _ _ _).2 q3
    cases e with
    | normal => exact fin q
    | exit i => exact q.elim
    | ret => exact fin q
@[simp] theorem step_nilCheck {ops : Array Oper} {fr : Fr} {m : Mem} {Q : Fr → Mem → Prop} {ty : TypeId} {pos : String} {af : Array Edge} {d : Option Tmp} (t : Tmp) {a : Addr} (h : fr.at t = .pointer (some a)) : Gives (stepDX P call ops fr ⟨d, .nilCheck (.tmp t), ty, pos, af, none⟩) m Q ↔ putQ fr d Q (.pointer (some a)) m := by
  have e : ev fr (.tmp t) = some (.pointer (some a)) := by rw [← h]; cases fr; rfl
  rw [step_any rfl rfl]
  unfold opX
  dsimp only
  rw [e]
  exact gives_ret _ _ _
@[simp] theorem nd_nilCheck {ty : TypeId} {pos : String} {af : Array Edge} {d : Option Tmp} {g : Option (Nat × Bool)} (x : Operand) : isDefer ⟨d, .nilCheck x, ty, pos, af, g⟩ = false := by cases d <;> rfl
end Go.Clean
