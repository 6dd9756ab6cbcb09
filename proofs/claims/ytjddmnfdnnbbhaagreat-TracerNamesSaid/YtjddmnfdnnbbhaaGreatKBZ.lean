/- The clean executor: its tries, forcings, and that each piece leans on what it has touched alone ('Local'). -/
import Derived.Test.YtjddmnfdnnbbhaaGreatKAZ
set_option linter.unusedSimpArgs false
set_option linter.unusedVariables false
set_option linter.unusedVariables false
set_option linter.unusedSimpArgs false
namespace Go.Clean
open Go

/-! ### Tries -/
def Trie.set {α : Type} (x : Option α) (f : Nat) (t : Trie α) (n : Nat) : Trie α := Trie.setK x f t n id
theorem Trie.setK_eq {α : Type} (x : Option α) : ∀ (f : Nat) (t : Trie α) (n : Nat) {β : Type} (k : Trie α → β), Trie.setK x f t n k = k (Trie.set x f t n)
  | 0, t, n, _, k => rfl
  | f + 1, .leaf, n, _, k => by
    unfold Trie.set Trie.setK
    cases n == 0
    · cases n % 2 == 1
      · simp only [cond_false]; rw [setK_eq x f, setK_eq x f]; rfl
      · simp only [cond_false, cond_true]; rw [setK_eq x f, setK_eq x f]; rfl
    · rfl
  | f + 1, .node v l r, n, _, k => by
    unfold Trie.set Trie.setK
    cases n == 0
    · cases n % 2 == 1
      · simp only [cond_false]; rw [setK_eq x f, setK_eq x f]; rfl
      · simp only [cond_false, cond_true]; rw [setK_eq x f, setK_eq x f]; rfl
    · rfl

theorem Trie.set_leaf {α : Type} (x : Option α) (f n : Nat) : Trie.set x (f + 1) .leaf n =
    if n = 0 then .node x .leaf .leaf else if n % 2 = 1 then .node none (Trie.set x f .leaf (n / 2)) .leaf else .node none .leaf (Trie.set x f .leaf (n / 2 - 1)) := by
  conv => lhs; unfold Trie.set Trie.setK
  by_cases h : n = 0
  · simp [h]
  · have h' : (n == 0) = false := by simpa using h
    by_cases g : n % 2 = 1
    · simp [h, h', g, Trie.setK_eq]
    · have g' : (n % 2 == 1) = false := by simpa using g
      simp only [h, h', g, g', if_false, cond_false, Trie.setK_eq]; rfl
theorem Trie.set_node {α : Type} (x : Option α) (f n : Nat) (v : Option α) (l r : Trie α) : Trie.set x (f + 1) (.node v l r) n =
    if n = 0 then .node x l r else if n % 2 = 1 then .node v (Trie.set x f l (n / 2)) r else .node v l (Trie.set x f r (n / 2 - 1)) := by
  conv => lhs; unfold Trie.set Trie.setK
  by_cases h : n = 0
  · simp [h]
  · have h' : (n == 0) = false := by simpa using h
    by_cases g : n % 2 = 1
    · simp [h, h', g, Trie.setK_eq]
    · have g' : (n % 2 == 1) = false := by simpa using g
      simp only [h, h', g, g', if_false, cond_false, Trie.setK_eq]; rfl
theorem Trie.get_node {α : Type} (n : Nat) (v : Option α) (l r : Trie α) : (Trie.node v l r).get n = if n = 0 then v else if n % 2 = 1 then l.get (n / 2) else r.get (n / 2 - 1) := by
  conv => lhs; unfold Trie.get
  by_cases h : n = 0
  · simp [h]
  · have h' : (n == 0) = false := by simpa using h
    by_cases g : n % 2 = 1
    · simp [h, h', g]
    · have g' : (n % 2 == 1) = false := by simpa using g
      simp only [h, h', g, g', if_false, cond_false]
theorem Trie.get_leaf {α : Type} (n : Nat) : (Trie.leaf : Trie α).get n = none := rfl

theorem Trie.get_set_same {α : Type} (x : Option α) : ∀ (f : Nat) (t : Trie α) (n : Nat), n < f → (Trie.set x f t n).get n = x
  | 0, _, _, h => by omega
  | f + 1, .leaf, n, h => by
    rw [Trie.set_leaf]
    by_cases h0 : n = 0
    · simp [h0, Trie.get_node]
    · by_cases g : n % 2 = 1
      · simp only [h0, g, if_true, if_false, Trie.get_node]; exact get_set_same x f _ _ (by omega)
      · simp only [h0, g, if_false, Trie.get_node]; exact get_set_same x f _ _ (by omega)
  | f + 1, .node v l r, n, h => by
    rw [Trie.set_node]
    by_cases h0 : n = 0
    · simp [h0, Trie.get_node]
    · by_cases g : n % 2 = 1
      · simp only [h0, g, if_true, if_false, Trie.get_node]; exact get_set_same x f _ _ (by omega)
      · simp only [h0, g, if_false, Trie.get_node]; exact get_set_same x f _ _ (by omega)
theorem Trie.get_set_ne {α : Type} (x : Option α) : ∀ (f : Nat) (t : Trie α) (n m : Nat), m ≠ n → (Trie.set x f t n).get m = t.get m
  | 0, _, _, _, _ => rfl
  | f + 1, .leaf, n, m, h => by
    rw [Trie.set_leaf, Trie.get_leaf]
    by_cases h0 : n = 0
    · subst h0; simp only [if_true, Trie.get_node, if_neg h, Trie.get_leaf, ite_self]
    · by_cases g : n % 2 = 1
      · simp only [h0, g, if_true, if_false, Trie.get_node]
        by_cases m0 : m = 0
        · simp [m0]
        · by_cases mg : m % 2 = 1
          · simp only [m0, mg, if_true, if_false]; rw [get_set_ne x f _ _ _ (by omega), Trie.get_leaf]
          · simp only [m0, mg, if_false, Trie.get_leaf]
      · simp only [h0, g, if_false, Trie.get_node]
        by_cases m0 : m = 0
        · simp [m0]
        · by_cases mg : m % 2 = 1
          · simp only [m0, mg, if_true, if_false, Trie.get_leaf]
          · simp only [m0, mg, if_false]; rw [get_set_ne x f _ _ _ (by omega), Trie.get_leaf]
  | f + 1, .node v l r, n, m, h => by
    rw [Trie.set_node]
    by_cases h0 : n = 0
    · subst h0; simp only [if_true, Trie.get_node, if_neg h]
    · by_cases g : n % 2 = 1
      · simp only [h0, g, if_true, if_false, Trie.get_node]
        by_cases m0 : m = 0
        · simp [m0]
        · by_cases mg : m % 2 = 1
          · simp only [m0, mg, if_true, if_false]; rw [get_set_ne x f _ _ _ (by omega)]
          · simp only [m0, mg, if_false]
      · simp only [h0, g, if_false, Trie.get_node]
        by_cases m0 : m = 0
        · simp [m0]
        · by_cases mg : m % 2 = 1
          · simp only [m0, mg, if_true, if_false]
          · simp only [m0, mg, if_false]; rw [get_set_ne x f _ _ _ (by omega)]

/-! ### Forcing does nothing -/
theorem natK_eq {β : Type} (n : Nat) (k : Nat → β) : natK n k = k n := by cases n <;> rfl
theorem intK_eq {β : Type} (n : Int) (k : Int → β) : intK n k = k n := by cases n <;> simp only [intK, natK_eq]
theorem addrK_eq {β : Type} (a : Addr) (k : Addr → β) : addrK a k = k a := by
  obtain ⟨b, o, s⟩ := a
  cases s <;> simp only [addrK, natK_eq]
mutual
theorem valK_eq {β : Type} : ∀ (v : Value) (k : Value → β), valK v k = k v
  | .bool true, k => rfl
  | .bool false, k => rfl
  | .int q n, k => by simp only [valK, intK_eq]
  | .float q n, k => by simp only [valK, natK_eq]
  | .complex q x y, k => by simp only [valK, natK_eq]
  | .pointer (some a), k => by simp only [valK, addrK_eq]
  | .slice (some a) n c, k => by simp only [valK, addrK_eq, natK_eq]
  | .agg ⟨l⟩, k => by simp only [valK]; exact valsK_eq l _
  | .tuple ⟨l⟩, k => by simp only [valK]; exact valsK_eq l _
  | .string _, k => rfl
  | .pointer none, k => rfl
  | .slice none _ _, k => rfl
  | .map _, k => rfl
  | .chan _, k => rfl
  | .func _ _ _, k => rfl
  | .nilFunc, k => rfl
  | .iface t v, k => by simp only [valK]; exact valK_eq v _
  | .nilIface, k => rfl
theorem valsK_eq {β : Type} : ∀ (l : List Value) (k : List Value → β), valsK l k = k l
  | [], k => rfl
  | v :: l, k => by simp only [valsK]; rw [valK_eq v]; exact valsK_eq l _
end

/-! ### Lists -/
def lay : List Value → Nat → List Value → Option (List Value)
  | cs, _, [] => some cs
  | [], _, _ :: _ => none
  | _ :: cs, 0, v :: vs => (lay cs 0 vs).map (v :: ·)
  | c :: cs, o + 1, v :: vs => (lay cs o (v :: vs)).map (c :: ·)
theorem layK_eq {β : Type} : ∀ (cs : List Value) (o : Nat) (vs : List Value) (k : Option (List Value) → β), layK cs o vs k = k (lay cs o vs)
  | [], o, [], k => by unfold layK lay; rfl
  | _ :: _, o, [], k => by unfold layK lay; rfl
  | [], o, v :: vs, k => rfl
  | c :: cs, 0, v :: vs, k => by
    unfold layK lay; rw [layK_eq cs 0 vs]
    cases lay cs 0 vs <;> rfl
  | c :: cs, o + 1, v :: vs, k => by
    unfold layK lay; rw [layK_eq cs o (v :: vs)]
    cases lay cs o (v :: vs) <;> rfl

/-! ### Locality -/
structure Goes (m m' : Mem) (nl : List (Bool × Nat)) : Prop where
  log : m'.log = nl ++ m.log
  frame : ∀ b, (true, b) ∉ nl → m'.t.get b = m.t.get b
  next : m.next ≤ m'.next
  fresh : ∀ b, (true, b) ∈ nl → (∃ x, (x, b) ∈ nl ∧ m.t.get b ≠ none) ∨ (m.next ≤ b ∧ b < m'.next)

/-- What a piece does hangs on what it has touched, and it turns that alone. -/
def Local {α : Type} (f : M α) : Prop := ∀ m a m', f m = some (a, m') → ∃ nl, m'.log = nl ++ m.log ∧ m.next ≤ m'.next ∧ (∀ b, (true, b) ∉ nl → m'.t.get b = m.t.get b) ∧
  ∀ m₂, m₂.next = m.next → (∀ p ∈ nl, m₂.t.get p.2 = m.t.get p.2) → ∃ m₂', f m₂ = some (a, m₂') ∧ m₂'.log = nl ++ m₂.log ∧ m₂'.next = m'.next ∧
    (∀ b, (true, b) ∈ nl → m₂'.t.get b = m'.t.get b) ∧ ∀ b, (true, b) ∉ nl → m₂'.t.get b = m₂.t.get b

theorem Local.ret {α : Type} (a : α) : Local (M.ret a) := by
  intro m a' m' h
  obtain ⟨rfl, rfl⟩ : a = a' ∧ m = m' := by simpa [M.ret] using h
  exact ⟨[], rfl, Nat.le_refl _, fun _ _ => rfl, fun m₂ hn _ => ⟨m₂, rfl, rfl, hn, fun b hb => (by simp at hb), fun _ _ => rfl⟩⟩
theorem Local.fail {α : Type} : Local (M.fail : M α) := by
  intro m a m' h; simp [M.fail] at h
theorem Local.lift {α : Type} (o : Option α) : Local (M.lift o) := by
  cases o with
  | none => intro m a m' h; simp [M.lift] at h
  | some a => exact Local.ret a
theorem Local.guard (b : Bool) : Local (M.guard b) := by
  cases b with
  | false => intro m a m' h; simp [M.guard] at h
  | true => exact Local.ret ()

theorem Local.bnd {α β : Type} {f : M α} {g : α → M β} (hf : Local f) (hg : ∀ a, Local (g a)) : Local (M.bnd f g) := by
  intro m c m' h
  unfold M.bnd at h
  cases hfm : f m with
  | none => simp [hfm] at h
  | some p =>
    obtain ⟨a, m1⟩ := p
    simp only [hfm] at h
    obtain ⟨n1, l1, x1, fr1, k1⟩ := hf m a m1 hfm
    obtain ⟨n2, l2, x2, fr2, k2⟩ := hg a m1 c m' h
    refine ⟨n2 ++ n1, by rw [l2, l1, List.append_assoc], Nat.le_trans x1 x2, fun b hb => ?_, fun m₂ hn hag => ?_⟩
    · simp only [List.mem_append, not_or] at hb
      rw [fr2 b hb.1, fr1 b hb.2]
    · obtain ⟨m₂1, e1, lg1, nx1, w1, u1⟩ := k1 m₂ hn (fun p hp => hag p (List.mem_append_right _ hp))
      have hmid : ∀ p ∈ n2, m₂1.t.get p.2 = m1.t.get p.2 := by
        intro p hp
        by_cases hw : (true, p.2) ∈ n1
        · exact w1 _ hw
        · rw [u1 _ hw, fr1 _ hw]; exact hag p (List.mem_append_left _ hp)
      obtain ⟨m₂2, e2, lg2, nx2, w2, u2⟩ := k2 m₂1 nx1 hmid
      refine ⟨m₂2, ?_, by rw [lg2, lg1, List.append_assoc], nx2, fun b hb => ?_, fun b hb => ?_⟩
      · unfold M.bnd; simp only [e1]; exact e2
      · by_cases hw2 : (true, b) ∈ n2
        · exact w2 b hw2
        · have hw1 : (true, b) ∈ n1 := by
            rcases List.mem_append.1 hb with hb | hb
            · exact absurd hb hw2
            · exact hb
          rw [u2 b hw2, fr2 b hw2]; exact w1 b hw1
      · simp only [List.mem_append, not_or] at hb
        rw [u2 b hb.1, u1 b hb.2]
theorem Local.bind {α β : Type} {f : M α} {g : α → M β} (hf : Local f) (hg : ∀ a, Local (g a)) : Local (f >>= g) := Local.bnd hf hg

theorem Local.getB (b : Nat) : Local (getB b) := by
  intro m x m' h
  unfold Clean.getB at h
  cases hb : m.t.get b with
  | none => simp [hb] at h
  | some y =>
    simp only [hb, Option.some.injEq, Prod.mk.injEq] at h
    obtain ⟨rfl, rfl⟩ := h
    refine ⟨[(false, b)], rfl, Nat.le_refl _, fun _ _ => rfl, fun m₂ hn hag => ⟨{ m₂ with log := (false, b) :: m₂.log }, ?_, rfl, hn, fun c hc => ?_, fun _ _ => rfl⟩⟩
    · have := hag (false, b) (by simp)
      simp only at this
      unfold Clean.getB
      simp only [this, hb]
    · simp at hc
theorem setB_eq (b : Nat) (x : Option Blk) (m : Mem) : setB b x m = some ((), { m with t := Trie.set x (b + 1) m.t b, log := (true, b) :: m.log }) := by
  unfold setB; rw [Trie.setK_eq]
theorem newB_eq (x : Blk) (m : Mem) : newB x m = some (m.next, { t := Trie.set (some x) (m.next + 1) m.t m.next, next := m.next + 1, log := (true, m.next) :: m.log }) := by
  unfold newB; simp only [natK_eq, Trie.setK_eq]
theorem Local.setB (b : Nat) (x : Option Blk) : Local (setB b x) := by
  intro m u m' h
  rw [setB_eq] at h
  simp only [Option.some.injEq, Prod.mk.injEq, true_and] at h
  subst h
  refine ⟨[(true, b)], rfl, Nat.le_refl _, fun c hc => ?_, fun m₂ hn hag => ⟨_, setB_eq b x m₂, rfl, hn, fun c hc => ?_, fun c hc => ?_⟩⟩
  · exact Trie.get_set_ne _ _ _ _ _ (by simpa using hc)
  · have : c = b := by simpa using hc
    subst this
    simp only [Trie.get_set_same _ _ _ _ (Nat.lt_succ_self c)]
  · exact Trie.get_set_ne _ _ _ _ _ (by simpa using hc)
theorem Local.newB (x : Blk) : Local (newB x) := by
  intro m u m' h
  rw [newB_eq] at h
  simp only [Option.some.injEq, Prod.mk.injEq] at h
  obtain ⟨rfl, rfl⟩ := h
  refine ⟨[(true, m.next)], rfl, Nat.le_succ _, fun c hc => ?_, fun m₂ hn hag => ⟨_, by rw [newB_eq, hn], by rw [← hn]; rfl, by rw [← hn], fun c hc => ?_, fun c hc => ?_⟩⟩
  · exact Trie.get_set_ne _ _ _ _ _ (by simpa using hc)
  · have : c = m.next := by simpa using hc
    subst this
    simp only [Trie.get_set_same _ _ _ _ (Nat.lt_succ_self _)]
  · exact Trie.get_set_ne _ _ _ _ _ (by simpa using hc)

theorem Local.logged {α : Type} {f : M α} (hf : Local f) : Local (M.logged f) := by
  intro m c m' h
  unfold M.logged at h
  cases hfm : f { m with log := [] } with
  | none => simp [hfm] at h
  | some p =>
    obtain ⟨a, m1⟩ := p
    simp only [hfm, Option.some.injEq, Prod.mk.injEq] at h
    obtain ⟨rfl, rfl⟩ := h
    obtain ⟨nl, l1, x1, fr1, k1⟩ := hf _ a m1 hfm
    simp only [List.append_nil] at l1
    refine ⟨nl, by simp only [l1], x1, fr1, fun m₂ hn hag => ?_⟩
    obtain ⟨m₂1, e1, lg1, nx1, w1, u1⟩ := k1 { m₂ with log := [] } hn hag
    simp only [List.append_nil] at lg1
    refine ⟨{ m₂1 with log := m₂1.log ++ m₂.log }, ?_, by simp only [lg1], nx1, w1, u1⟩
    unfold M.logged; simp only [e1, l1, lg1]

theorem Local.mlet {α β : Type} {o : Option α} {g : α → M β} (h : ∀ a, o = some a → Local (g a)) : Local (match o with | some a => g a | none => M.fail) := by
  cases o with
  | none => exact Local.fail
  | some a => exact h a rfl

/-- Memory-free: what a piece that only looks at its input does. -/
theorem Local.congr {α : Type} {f g : M α} (h : ∀ m, f m = g m) (hg : Local g) : Local f := by
  have : f = g := funext h
  rw [this]; exact hg

end Go.Clean

/- The clean executor: each piece is local. -/
set_option linter.unusedVariables false
set_option linter.unusedSimpArgs false
namespace Go.Clean
open Go
variable {P : Program}

theorem Local.newX (cells : List Value) (sz : Nat) (grow : Bool) : Local (newX cells sz grow) := by
  unfold Clean.newX
  refine Local.bind (Local.guard _) fun _ => Local.congr (g := Clean.newB { cells, sz, grow, ro := false }) (fun m => by rw [valsK_eq]) (Local.newB _)

theorem Local.loadX (t : TypeId) (a : Value) : Local (loadX P t a) := by
  unfold Clean.loadX
  repeat' (first | exact Local.fail | exact Local.ret _ | exact Local.lift _ | exact Local.guard _ | exact Local.getB _ | refine Local.bind ?_ fun _ => ?_ | split)

theorem Local.laid {α : Type} (cs : List Value) (o : Nat) (vs : List Value) (g : List Value → M α) (h : ∀ l, Local (g l)) :
    Local (fun m => layK cs o vs fun
      | some l => g l m
      | none => none) := by
  refine Local.congr (g := match lay cs o vs with
    | some l => g l
    | none => M.fail) (fun m => ?_) ?_
  · rw [layK_eq]
    cases lay cs o vs <;> rfl
  · cases lay cs o vs with
    | none => exact Local.fail
    | some l => exact h l

theorem Local.storeX (t : TypeId) (a x : Value) : Local (storeX P t a x) := by
  unfold Clean.storeX
  split
  · refine Local.bind (Local.getB _) fun blk => Local.bind (Local.guard _) fun _ => Local.laid _ _ _ _ fun l => Local.bind (Local.setB _ _) fun _ => Local.ret _
  · exact Local.fail

theorem Local.buildSliceX (t : TypeId) (len : Nat) (ps : List (Nat × Value)) : Local (buildSliceX P t len ps) := by
  unfold Clean.buildSliceX
  repeat' (first | exact Local.fail | exact Local.ret _ | exact Local.lift _ | exact Local.guard _ | exact Local.getB _ | exact Local.newX _ _ _ | refine Local.bind ?_ fun _ => ?_ | split)
theorem Local.makeSliceX (t : TypeId) (l c : Value) : Local (makeSliceX P t l c) := by
  unfold Clean.makeSliceX
  repeat' (first | exact Local.fail | exact Local.ret _ | exact Local.lift _ | exact Local.guard _ | exact Local.getB _ | exact Local.newX _ _ _ | refine Local.bind ?_ fun _ => ?_ | split)
theorem Local.cond {α : Type} {b : Bool} {f g : M α} (hf : Local f) (hg : Local g) : Local (bif b then f else g) := by cases b <;> assumption
theorem Local.sliceX (t : TypeId) (x : Value) (lo hi mx : Option Value) : Local (sliceX P t x lo hi mx) := by
  unfold Clean.sliceX
  repeat' (first | exact Local.fail | exact Local.ret _ | exact Local.lift _ | exact Local.guard _ | exact Local.getB _ | exact Local.newB _ | refine Local.bind ?_ fun _ => ?_ | refine Local.cond ?_ ?_ | split)
theorem Local.elemsX (x : Value) (n : Nat) : Local (elemsX x n) := by
  unfold Clean.elemsX
  repeat' (first | exact Local.fail | exact Local.ret _ | exact Local.getB _ | refine Local.bind ?_ fun _ => ?_ | split)
theorem Local.appendX (t u : TypeId) (s x : Value) : Local (appendX P t u s x) := by
  unfold Clean.appendX
  repeat' (first | exact Local.fail | exact Local.ret _ | exact Local.lift _ | exact Local.guard _ | exact Local.getB _ | exact Local.newX _ _ _ | exact Local.setB _ _ | exact Local.elemsX _ _
                 | refine Local.laid _ _ _ _ fun _ => ?_ | refine Local.bind ?_ fun _ => ?_ | refine Local.cond ?_ ?_ | split)
theorem Local.takenX (s : Value) (n k : Nat) : Local (takenX s n k) := by
  unfold Clean.takenX
  repeat' (first | exact Local.fail | exact Local.ret _ | exact Local.getB _ | refine Local.bind ?_ fun _ => ?_ | split)
theorem Local.copyX (t : TypeId) (d s : Value) : Local (copyX P t d s) := by
  unfold Clean.copyX
  repeat' (first | exact Local.fail | exact Local.ret _ | exact Local.lift _ | exact Local.guard _ | exact Local.getB _ | exact Local.newX _ _ _ | exact Local.setB _ _ | exact Local.takenX _ _ _
                 | refine Local.laid _ _ _ _ fun _ => ?_ | refine Local.bind ?_ fun _ => ?_ | refine Local.cond ?_ ?_ | split)

def LocalC (call : Caller) : Prop := ∀ f args, Local (call f args)

theorem Local.capX (t : TypeId) (x : Value) : Local (capX P t x) := by
  unfold Clean.capX
  split
  · exact Local.ret _
  · exact Local.bind (Local.getB _) fun _ => Local.bind (Local.guard _) fun _ => Local.ret _
  · exact Local.fail
theorem Local.zerosX (t u : TypeId) (n : Int) : Local (zerosX P t u n) := by
  unfold Clean.zerosX
  repeat' (first | exact Local.fail | exact Local.ret _ | exact Local.guard _ | exact Local.newX _ _ _ | refine Local.bind ?_ fun _ => ?_ | split)
theorem Local.callX {call : Caller} (hc : LocalC call) (fr : Fr) (c : Call) : Local (callX P call fr c) := by
  unfold Clean.callX
  repeat' (first | exact Local.fail | exact Local.ret _ | exact Local.lift _ | exact hc _ _ | exact Local.appendX _ _ _ _ | exact Local.copyX _ _ _ | exact Local.capX _ _ | exact Local.zerosX _ _ _ | split)

theorem Local.opX {call : Caller} (hc : LocalC call) (fr : Fr) (o : Oper) : Local (opX P call fr o) := by
  unfold Clean.opX
  repeat' (first | exact Local.fail | exact Local.ret _ | exact Local.lift _ | exact Local.callX hc _ _ | exact Local.loadX _ _ | exact Local.storeX _ _ _ | exact Local.buildSliceX _ _ _
                 | exact Local.makeSliceX _ _ _ | exact Local.sliceX _ _ _ _ _ | exact Local.newX _ _ _ | refine Local.bind ?_ fun _ => ?_ | split)

theorem putK_eq {β : Type} (fr : Fr) (dst : Option Tmp) (v : Value) (k : Fr → Option β) : fr.putK dst v k = match dst with
    | none => k fr
    | some d => if d < fr.n then k { fr with t := Trie.set (some v) (d + 1) fr.t d } else none := by
  unfold Fr.putK
  cases dst with
  | none => rfl
  | some d =>
    by_cases h : d < fr.n
    · have : Nat.blt d fr.n = true := by simpa [Nat.blt_eq] using h
      simp only [this, cond_true, h, if_true, valK_eq, Trie.setK_eq]
    · have : Nat.blt d fr.n = false := by rw [← Bool.not_eq_true, Nat.blt_eq]; exact h
      simp only [this, cond_false, h, if_false]
theorem Local.put (fr : Fr) (dst : Option Tmp) (v : Value) : Local (fr.put dst v) := by
  cases dst with
  | none => exact Local.congr (g := M.ret fr) (fun m => rfl) (Local.ret _)
  | some d =>
    by_cases h : d < fr.n
    · exact Local.congr (g := M.ret { fr with t := Trie.set (some v) (d + 1) fr.t d }) (fun m => by unfold Fr.put; rw [putK_eq]; simp only [h, if_true]; rfl) (Local.ret _)
    · exact Local.congr (g := M.fail) (fun m => by unfold Fr.put; rw [putK_eq]; simp only [h, if_false]; rfl) Local.fail

theorem Local.stepX {call : Caller} (hc : LocalC call) (ops : Array Oper) (fr : Fr) (o : Oper) : Local (stepX P call ops fr o) := by
  unfold Clean.stepX
  exact Local.cond (Local.bind (Local.opX hc _ _) fun _ => Local.put _ _ _) (Local.put _ _ _)
theorem Local.stepDX {call : Caller} (hc : LocalC call) (ops : Array Oper) (fr : Fr) (o : Oper) : Local (stepDX P call ops fr o) := by
  unfold Clean.stepDX
  split
  · refine Local.cond ?_ (Local.put _ _ _)
    split
    · exact Local.put _ _ _
    · exact Local.fail
  · exact Local.stepX hc _ _ _
theorem Local.stepsX {call : Caller} (hc : LocalC call) (ops : Array Oper) : ∀ (l : List Oper) (fr : Fr), Local (stepsX P call ops l fr)
  | [], fr => Local.ret _
  | o :: l, fr => Local.bind (Local.stepDX hc _ _ _) fun fr => Local.stepsX hc ops l fr
theorem Local.drawX {call : Caller} (hc : LocalC call) (ops : Array Oper) : ∀ (l : List Oper) (as : List Nat) (i : Nat) (logs : List (Nat × List (Bool × Nat))) (fr : Fr), Local (drawX P call ops l as i logs fr)
  | o :: l, a :: as, i, logs, fr => Local.bind (Local.logged (Local.stepX hc _ _ _)) fun _ => Local.bind (Local.guard _) fun _ => Local.drawX hc ops l as _ _ _
  | [], [], _, _, _ => Local.ret _
  | [], _ :: _, _, _, _ => Local.ret _
  | _ :: _, [], _, _, _ => Local.fail
theorem Local.loopX {body : Fr → M (Ex × Fr)} (h : ∀ fr, Local (body fr)) : ∀ (n : Nat) (fr : Fr), Local (loopX body n fr)
  | 0, _ => Local.fail
  | n + 1, fr => Local.bind (h fr) fun p => by
    obtain ⟨e, fr⟩ := p
    cases e with
    | normal => exact Local.loopX h n fr
    | exit i => exact Local.ret _
    | ret => exact Local.ret _
theorem Local.cellX (a : Addr) : Local (cellX a) := by
  unfold Clean.cellX
  split
  · refine Local.bind (Local.getB _) fun blk => ?_
    split
    · exact Local.ret _
    · exact Local.fail
  · exact Local.fail
theorem Local.putRound : ∀ (ts : List Tmp) (vs : List Value) (fr : Fr), Local (putRound ts vs fr)
  | t :: ts, v :: vs, fr => Local.bind (Local.put _ _ _) fun fr => Local.putRound ts vs fr
  | [], [], _ => Local.ret _
  | [], _ :: _, _ => Local.fail
  | _ :: _, [], _ => Local.fail
theorem Local.backX {assign body : Fr → M (Ex × Fr)} (ha : ∀ fr, Local (assign fr)) (hb : ∀ fr, Local (body fr)) (bx : Addr) (n : Nat) (ps : List Tmp) (fr : Fr) : ∀ i, Local (backX assign body bx n ps fr i)
  | 0 => Local.ret _
  | i + 1 => by
    unfold Clean.backX
    refine Local.bind (Local.cellX _) fun v => ?_
    split
    · refine Local.bind (Local.guard _) fun _ => Local.bind (Local.cellX _) fun x => Local.bind (Local.putRound _ _ _) fun fr1 => Local.bind (ha _) fun q => ?_
      obtain ⟨e, fr2⟩ := q
      cases e with
      | normal =>
        refine Local.bind (hb _) fun q => ?_
        obtain ⟨e, fr3⟩ := q
        cases e with
        | normal => exact Local.backX ha hb bx n ps fr i
        | exit i => exact Local.ret _
        | ret => exact Local.ret _
      | exit i => exact Local.fail
      | ret => exact Local.fail
    · exact Local.fail
theorem Local.codeX {call : Caller} (hc : LocalC call) : ∀ (c : Code) (fr : Fr), Local (codeX P call c fr) := by
  intro c
  induction c with
  | rangeFunc g ps assign body iha ihb =>
    intro fr
    unfold Clean.codeX
    refine Local.cond ?_ Local.fail
    split
    · refine Local.bind (Local.newB _) fun b => Local.bind (Local.cellX _) fun v => ?_
      split
      · exact Local.bind (Local.guard _) fun _ => Local.bind (Local.backX iha ihb _ _ _ _ _) fun e => Local.ret _
      · exact Local.fail
    · exact Local.fail
  | skip => intro fr; exact Local.ret _
  | region id ops draw =>
    intro fr
    unfold Clean.codeX
    refine Local.cond ?_ ?_
    · split
      · exact Local.bind (Local.drawX hc _ _ _ _ _ _) fun _ => Local.ret _
      · exact Local.fail
    · exact Local.bind (Local.stepsX hc _ _ _) fun _ => Local.ret _
  | seq a b ha hb =>
    intro fr
    unfold Clean.codeX
    refine Local.bind (ha fr) fun p => ?_
    obtain ⟨e, fr⟩ := p
    cases e with
    | normal => exact hb fr
    | exit i => exact Local.ret _
    | ret => exact Local.ret _
  | cond c a b ha hb =>
    intro fr
    unfold Clean.codeX
    split
    · exact ha fr
    · exact hb fr
    · exact Local.fail
  | block id c ih =>
    intro fr
    unfold Clean.codeX
    refine Local.bind (ih fr) fun p => ?_
    obtain ⟨e, fr⟩ := p
    cases e with
    | normal => exact Local.ret _
    | exit i => exact Local.cond (Local.ret _) (Local.ret _)
    | ret => exact Local.ret _
  | loop c ih => intro fr; unfold Clean.codeX; exact Local.loopX ih _ _
  | exit id => intro fr; exact Local.ret _
  | ret => intro fr; exact Local.ret _
  | _ => intro fr; exact Local.fail
theorem Local.resX (fr : Fr) : ∀ (l : List ResultVar), Local (resX P fr l)
  | [] => Local.ret _
  | .tmp t :: l => Local.bind (Local.resX fr l) fun _ => Local.ret _
  | .cell a t :: l => Local.bind (Local.loadX _ _) fun _ => Local.bind (Local.resX fr l) fun _ => Local.ret _
def putArgs : List Value → Nat → Trie Value → Trie Value
  | [], _, t => t
  | v :: l, i, t => putArgs l (i + 1) (Trie.set (some v) (i + 1) t i)
theorem frOfK_eq {β : Type} : ∀ (l : List Value) (i : Nat) (t : Trie Value) (k : Trie Value → β), frOfK l i t k = k (putArgs l i t)
  | [], _, _, _ => rfl
  | v :: l, i, t, k => by unfold frOfK putArgs; rw [valK_eq, Trie.setK_eq]; exact frOfK_eq l _ _ _
theorem frK_eq (n : Nat) (args : List Value) : frK n args = M.ret ⟨putArgs args 0 .leaf, n, []⟩ := by
  funext m; unfold frK; rw [frOfK_eq]; rfl
theorem Local.nextX : Local nextX := by
  intro m a m' h
  simp only [Clean.nextX, Option.some.injEq, Prod.mk.injEq] at h
  obtain ⟨rfl, rfl⟩ := h
  exact ⟨[], rfl, Nat.le_refl _, fun _ _ => rfl, fun m₂ hn _ => ⟨m₂, by simp [Clean.nextX, hn], rfl, hn, fun b hb => (by simp at hb), fun _ _ => rfl⟩⟩
theorem Local.runDX {dcall : Caller} (hd : LocalC dcall) (base : Nat) : ∀ l, Local (runDX dcall base l)
  | [] => Local.ret _
  | (f, args) :: l => by
    unfold Clean.runDX
    exact Local.cond (Local.bind Local.nextX fun _ => Local.bind (Local.guard _) fun _ => Local.bind (Local.getB _) fun _ => Local.bind (Local.setB _ _) fun _ => Local.runDX hd base l) (Local.bind (hd f args) fun _ => Local.runDX hd base l)
theorem Local.endX {fin : Nat → Fr → M Unit} (hd : ∀ base fr, Local (fin base fr)) (base : Nat) (fn : Func) (fr : Fr) : Local (do
    fin base fr
    let vs ← Clean.resX P fr fn.results.toList
    match vs with
    | [v] => M.ret v
    | vs => M.ret (Value.tuple ⟨vs⟩)) := Local.bind (hd _ _) fun _ => Local.bind (Local.resX _ _) fun vs => by split <;> exact Local.ret _
theorem Local.bodyX {call : Caller} {fin : Nat → Fr → M Unit} (hc : LocalC call) (hd : ∀ base fr, Local (fin base fr)) (fn : Func) (args : List Value) : Local (bodyX P call fin fn args) := by
  unfold Clean.bodyX
  split
  · exact Local.fail
  · refine Local.bind (Local.guard _) fun _ => Local.bind Local.nextX fun base => Local.bind (by rw [frK_eq]; exact Local.ret _) fun fr => Local.bind (Local.codeX hc _ _) fun p => ?_
    obtain ⟨e, fr⟩ := p
    cases e with
    | normal => exact Local.endX hd _ fn fr
    | exit i => exact Local.fail
    | ret => exact Local.endX hd _ fn fr
theorem Local.deferredX {call : Caller} (hc : LocalC call) : LocalC (deferredX P call) := fun f args => by
  unfold Clean.deferredX
  split
  · exact Local.fail
  · exact Local.bodyX hc (fun _ _ => Local.guard _) _ _
theorem Local.callN {known : Known} (hk : ∀ f args g, known f args = some g → Local g) : ∀ n, LocalC (callN P known n)
  | 0 => fun _ _ => Local.fail
  | n + 1 => fun f args => by
    unfold Clean.callN
    split
    · exact hk f args _ ‹_›
    · split
      · exact Local.fail
      · exact Local.bodyX (Local.callN hk n) (fun _ _ => Local.runDX (Local.deferredX (Local.callN hk n)) _ _) _ _

end Go.Clean
