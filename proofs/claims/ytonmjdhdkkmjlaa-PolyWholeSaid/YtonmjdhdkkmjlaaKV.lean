/- The clean executor walked by hand: what a piece of code comes to, in symbols; regions that draw, in their text's order. -/
import Derived.Test.YtonmjdhdkkmjlaaKU
set_option linter.unusedVariables false
set_option linter.unusedSimpArgs false
namespace Go.Clean
open Go Go.RowKit
variable {P : Program} {call : Caller}

/-! ### Pieces that only read -/
def Rd {α : Type} (f : M α) : Prop := ∀ m a m', f m = some (a, m') → ∃ l, m'.log = l ++ m.log ∧ ∀ p ∈ l, p.1 = false
theorem Rd.ret {α : Type} (a : α) : Rd (M.ret a) := fun m a' m' h => by cases h; exact ⟨[], rfl, fun p hp => by cases hp⟩
theorem Rd.fail {α : Type} : Rd (M.fail : M α) := fun m a' m' h => by cases h
theorem Rd.lift {α : Type} (o : Option α) : Rd (M.lift o) := by
  cases o
  · exact Rd.fail
  · exact Rd.ret _
theorem Rd.guard (b : Bool) : Rd (M.guard b) := by
  cases b
  · exact fun m a m' h => by cases h
  · exact Rd.ret ()
theorem Rd.bind {α β : Type} {f : M α} {g : α → M β} (hf : Rd f) (hg : ∀ a, Rd (g a)) : Rd (f >>= g) := fun m a m' h => by
  obtain ⟨b, m1, h1, h2⟩ := bind_some h
  obtain ⟨l1, e1, r1⟩ := hf m b m1 h1
  obtain ⟨l2, e2, r2⟩ := hg b m1 a m' h2
  refine ⟨l2 ++ l1, by rw [e2, e1, List.append_assoc], fun p hp => ?_⟩
  rcases List.mem_append.1 hp with hp | hp
  · exact r2 p hp
  · exact r1 p hp
theorem Rd.getB (b : Nat) : Rd (getB b) := fun m a m' h => by
  obtain ⟨_, rfl⟩ := getB_some h
  exact ⟨[(false, b)], rfl, fun p hp => by simp at hp; rw [hp]⟩
/-- Nothing touched at all. -/
def Nl {α : Type} (f : M α) : Prop := ∀ m a m', f m = some (a, m') → m' = m
theorem Nl.ret {α : Type} (a : α) : Nl (M.ret a) := fun m a' m' h => by cases h; rfl
theorem Nl.fail {α : Type} : Nl (M.fail : M α) := fun m a' m' h => by cases h
theorem Nl.lift {α : Type} (o : Option α) : Nl (M.lift o) := by
  cases o
  · exact Nl.fail
  · exact Nl.ret _
theorem Nl.bind {α β : Type} {f : M α} {g : α → M β} (hf : Nl f) (hg : ∀ a, Nl (g a)) : Nl (f >>= g) := fun m a m' h => by
  obtain ⟨b, m1, h1, h2⟩ := bind_some h
  rw [hg b m1 a m' h2, hf m b m1 h1]

/-- How an operation deals with memory: 0 not at all, 1 it reads, 2 it may write. -/
def classOp (sil : FuncId → Bool) (o : Oper) : Nat := match o.op with
  | .move _ | .assign _ | .pick .. | .build .. | .nilCheck _ | .binOp .. | .unOp .. | .convert .. | .fieldAddr .. | .indexAddr .. | .field .. | .index .. | .extract .. => 0
  | .load .. => 1
  | .call c => match c.callee with
    | .value (.func f) => bif sil f then 0 else 2
    | .builtin .len | .builtin .real | .builtin .imag | .builtin .complex => 0
    | _ => 2
  | _ => 2
def isDefer (o : Oper) : Bool := match o.op with
  | .defer _ => true
  | _ => false

def SilOK (sil : FuncId → Bool) (call : Caller) : Prop := ∀ f, sil f = true → ∀ args, Nl (call f args)

theorem Nl.put (fr : Fr) (dst : Option Tmp) (v : Value) : Nl (fr.put dst v) := by
  cases dst with
  | none => exact Nl.ret fr
  | some d =>
    intro m a m' h
    unfold Fr.put at h
    rw [putK_eq] at h
    simp only at h
    split at h
    · cases h; rfl
    · cases h
theorem Nl.rd {α : Type} {f : M α} (h : Nl f) : Rd f := fun m a m' e => by obtain rfl := h m a m' e; exact ⟨[], rfl, fun p hp => by cases hp⟩

theorem class0 {sil : FuncId → Bool} (hs : SilOK sil call) (fr : Fr) {o : Oper} (h : classOp sil o = 0) : Nl (opX P call fr o) := by
  unfold classOp at h
  unfold opX
  cases hop : o.op <;> simp only [hop] at h ⊢ <;> first
    | (cases h; done)
    | skip
  all_goals first | (repeat' (first | exact Nl.fail | exact Nl.ret _ | exact Nl.lift _ | split)) | skip
  rename_i c
  unfold callX
  cases hc : c.callee with
  | value g =>
    cases g with
    | func f =>
      simp only [hc] at h ⊢
      cases hf : sil f with
      | false => rw [hf] at h; cases h
      | true =>
        split
        · exact hs f hf _
        · exact Nl.fail
    | _ => simp only [hc] at h; cases h
  | invoke _ _ => simp only [hc] at h; cases h
  | builtin b =>
    cases b <;> simp only [hc] at h ⊢ <;> first | (cases h; done) | (repeat' (first | exact Nl.fail | exact Nl.ret _ | exact Nl.lift _ | (simp_all; done) | split))
theorem class1 (fr : Fr) {sil : FuncId → Bool} {o : Oper} (h : classOp sil o = 1) : Rd (opX P call fr o) := by
  unfold classOp at h
  unfold opX
  cases hop : o.op <;> simp only [hop] at h ⊢ <;> first
    | (cases h; done)
    | skip
  · unfold loadX
    repeat' (first | exact Rd.fail | exact Rd.ret _ | exact Rd.lift _ | exact Rd.getB _ | refine Rd.bind ?_ fun _ => ?_ | split)
  · rename_i c
    cases hc : c.callee with
    | value g =>
      cases g with
      | func f => simp only [hc] at h; cases hf : sil f <;> rw [hf] at h <;> cases h
      | _ => simp only [hc] at h; cases h
    | invoke _ _ => simp only [hc] at h; cases h
    | builtin b => cases b <;> simp only [hc] at h <;> cases h

def reads01 (q : Nat) (l : List (Bool × Nat)) : Prop := (q = 0 → l = []) ∧ (q = 1 → ∀ p ∈ l, p.1 = false)

/-- Are all pairs that may come in either order apart by their kinds alone? -/
def staticX (sil : FuncId → Bool) : List Oper → List Nat → Nat → List (Nat × Nat) → Bool
  | o :: l, a :: as, i, fl => !isDefer o && (classOp sil o == 0 || fl.all fun (j, q) => a.testBit j || q == 0 || (classOp sil o == 1 && q == 1)) && staticX sil l as (i + 1) ((i, classOp sil o) :: fl)
  | [], _, _, _ => true
  | _, _, _, _ => false

inductive Logs : List (Nat × List (Bool × Nat)) → List (Nat × Nat) → Prop
  | nil : Logs [] []
  | cons {j q : Nat} {l : List (Bool × Nat)} {ls : List (Nat × List (Bool × Nat))} {fl : List (Nat × Nat)} (h : reads01 q l) (t : Logs ls fl) : Logs ((j, l) :: ls) ((j, q) :: fl)

theorem apartL_nil (l : List (Bool × Nat)) : apartL [] l = true := rfl
theorem apartL_nil2 (l : List (Bool × Nat)) : apartL l [] = true := by unfold apartL; simp
theorem apartL_reads {l k : List (Bool × Nat)} (h : ∀ p ∈ l, p.1 = false) (h' : ∀ p ∈ k, p.1 = false) : apartL l k = true := by
  unfold apartL
  rw [List.all_eq_true]
  rintro ⟨x, b⟩ hx
  rw [List.all_eq_true]
  rintro ⟨y, c⟩ hy
  have e1 : x = false := h _ hx
  have e2 : y = false := h' _ hy
  subst e1; subst e2
  simp
theorem apart_logs {a c : Nat} {log : List (Bool × Nat)} (hl : reads01 c log) : ∀ {ls : List (Nat × List (Bool × Nat))} {fl : List (Nat × Nat)}, Logs ls fl → (c == 0 || fl.all fun (j, q) => a.testBit j || q == 0 || (c == 1 && q == 1)) = true → apartAll a log ls = true
  | [], _, _, _ => rfl
  | (j, l) :: ls, _, .cons (q := q) (fl := fl) h t, hs => by
    unfold apartAll
    simp only [Bool.and_eq_true]
    by_cases h0 : c = 0
    · obtain rfl := hl.1 h0
      exact ⟨by simp [apartL_nil], apart_logs hl t (by simp [h0])⟩
    · have hc : (c == 0) = false := by simpa using h0
      rw [hc, Bool.false_or, List.all_cons, Bool.and_eq_true] at hs
      refine ⟨?_, apart_logs hl t (by rw [hc, Bool.false_or]; exact hs.2)⟩
      have h1 := hs.1
      simp only [Bool.or_eq_true, Bool.and_eq_true, beq_iff_eq] at h1 ⊢
      rcases h1 with (h1 | h1) | ⟨h1, h2⟩
      · exact .inl h1
      · rw [h.1 h1]; exact .inr (apartL_nil2 _)
      · exact .inr (apartL_reads (hl.2 h1) (h.2 h2))

theorem draw_static {sil : FuncId → Bool} (hs : SilOK sil call) (hpar : ParC call) (ops : Array Oper) : ∀ (l : List Oper) (as : List Nat) (i : Nat) (ls : List (Nat × List (Bool × Nat))) (fl : List (Nat × Nat)) (fr : Fr) (m : Mem) (r : Fr × Mem),
    Logs ls fl → staticX sil l as i fl = true → stepsX P call ops l fr m = some r → drawX P call ops l as i ls fr m = some r
  | [], [], i, ls, fl, fr, m, r, hl, hst, h => h
  | [], _ :: _, i, ls, fl, fr, m, r, hl, hst, h => h
  | _ :: _, [], i, ls, fl, fr, m, r, hl, hst, h => by simp [staticX] at hst
  | o :: l, a :: as, i, ls, fl, fr, m, r, hl, hst, h => by
    simp only [staticX, Bool.and_eq_true, Bool.not_eq_true'] at hst
    obtain ⟨⟨hd, hst1⟩, hst2⟩ := hst
    unfold stepsX at h
    obtain ⟨r1, r2⟩ := r
    obtain ⟨fr1, m1, h1, h2⟩ := bind_some h
    have h1' : stepX P call ops fr o m = some (fr1, m1) := by
      rw [← h1]
      unfold stepDX
      cases hop : o.op <;> first
        | rfl
        | (unfold isDefer at hd; rw [hop] at hd; cases hd)
    obtain ⟨m0, e1, e2, e3⟩ := par_log (Par.stepX hpar ops fr o) h1'
    unfold drawX
    have hread : reads01 (classOp sil o) m0.log := by
      have key : Nl (stepX P call ops fr o) ∨ classOp sil o ≠ 0 := by
        by_cases h0 : classOp sil o = 0
        · left
          unfold stepX
          cases wantX ops fr o
          · exact Nl.put _ _ _
          · exact Nl.bind (class0 hs fr h0) fun _ => Nl.put _ _ _
        · exact .inr h0
      refine ⟨fun h0 => ?_, fun h0 => ?_⟩
      · rcases key with k | k
        · have := k _ _ _ e1; rw [this]; rfl
        · exact absurd h0 k
      · have k : Rd (stepX P call ops fr o) := by
          unfold stepX
          cases wantX ops fr o
          · exact (Nl.put _ _ _).rd
          · exact Rd.bind (class1 fr h0) fun _ => (Nl.put _ _ _).rd
        obtain ⟨l0, q1, q2⟩ := k _ _ _ e1
        have : m0.log = l0 := by rw [q1]; exact List.append_nil _
        rw [this]; exact q2
    rw [bind_eq (m1 := m1) (a := (fr1, m0.log)) (by rw [logged_eq (Par.stepX hpar ops fr o), h1', e1])]
    show (M.guard (apartAll a m0.log ls) >>= fun _ => drawX P call ops l as (i + 1) ((i, m0.log) :: ls) fr1) m1 = some (r1, r2)
    rw [bind_eq (m1 := m1) (a := ()) (by rw [apart_logs hread hl hst1]; rfl)]
    exact draw_static hs hpar ops l as (i + 1) _ _ fr1 m1 _ (.cons hread hl) hst2 h2

def drawOK (sil : FuncId → Bool) (ops : Array Oper) : Bool := match planX ops with
  | some as => staticX sil ops.toList as 0 []
  | none => false
theorem region_static {sil : FuncId → Bool} (hs : SilOK sil call) (hpar : ParC call) {id : Nat} {ops : Array Oper} (h : drawOK sil ops = true) {fr fr' : Fr} {m m' : Mem} (hr : stepsX P call ops ops.toList fr m = some (fr', m')) : codeX P call (.region id ops true) fr m = some ((.normal, fr'), m') := by
  unfold drawOK at h
  unfold codeX
  simp only [cond_true]
  split at h
  · rename_i as has
    simp only [has]
    rw [bind_eq (draw_static hs hpar ops _ as 0 [] [] fr m _ .nil h hr)]
    rfl
  · cases h
end Go.Clean
