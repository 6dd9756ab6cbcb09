/- The clean executor at package solve: Go's own functions without a body; the checks and the great system by their contracts. -/
import Derived.Test.YtghhanifakllpaaKO
import Derived.Test.YtghhanifakllpaaN
import Derived.Test.YtghhanifakllpaaO
namespace Go.Proofs.Ytghhanifakllpaa
open Go.RowKit Go.Clean

/-! ### Functions without a body -/
def archR (x y : Nat) : Nat :=
  let a := FloatKind.f64.decode x
  let b := FloatKind.f64.decode y
  if a == .infinity false || b == .infinity false then FloatKind.f64.encode (.infinity false)
  else if a.isNaN || b.isNaN then 0x7FF8000000000001
  else if a.isZero && b.isZero then (if a.neg == false then x else y)
  else if a.order b == some .gt then x else y
theorem archMax_run (x y : Nat) (w : World) : (callFunc 71 #[.float .f64 x, .float .f64 y]).run Try.prog w = .ok (.value (.float .f64 (archR x y))) w := by kernel_rfl

def bitsX : List Value → M Value
  | [.float .f64 a] => do
    M.guard (!Clean.isNaN a)
    M.ret (.int .u64 a)
  | _ => .fail
def fromX : List Value → M Value
  | [.int .u64 a] => M.ret (.float .f64 a.toNat)
  | _ => .fail
def maxX : List Value → M Value
  | [.float .f64 a, .float .f64 b] => do
    M.guard (!Clean.isNaN a && !Clean.isNaN b)
    M.ret (.float .f64 (archR a b))
  | _ => .fail

section
variable {N : Nat} {ρ : Env} {m m' : Mem} {w : World}
set_option maxRecDepth 100000 in
theorem bits_ok (args : List Value) : Local (bitsX args) ∧ ∀ m v m', bitsX args m = some (v, m') → ∀ N ρ w cargs, Rel N ρ m.t.get w → VRs ρ args cargs → Fresh ρ m m' → Does Try.prog N ρ m m' w v (callFunc 52 ⟨cargs⟩) := by
  unfold bitsX
  split
  · rename_i a
    refine ⟨Local.bind (Local.guard _) fun _ => Local.ret _, fun m v m' h N ρ w cargs hr ha hf => ?_⟩
    obtain ⟨u, m1, h1, h2⟩ := Clean.bind_some h
    obtain ⟨hg, rfl⟩ := guard_some h1
    obtain ⟨rfl, rfl⟩ := ret_some h2
    obtain ⟨v', r, rfl, hv, hn⟩ := ha.inv
    obtain rfl := hn.inv0
    obtain ⟨a', rfl, hA⟩ := hv.flt
    obtain rfl := hA.eq (by simpa using hg)
    rw [show (⟨[.float .f64 a']⟩ : Array Value) = #[.float .f64 a'] from rfl]
    exact Does.value (f64bits_run a' w) (.same hr rfl (VR.leaf (v := .int .u64 a') rfl))
  · exact ⟨Local.fail, fun m v m' h => (fail_some h).elim⟩
set_option maxRecDepth 100000 in
theorem from_ok (args : List Value) : Local (fromX args) ∧ ∀ m v m', fromX args m = some (v, m') → ∀ N ρ w cargs, Rel N ρ m.t.get w → VRs ρ args cargs → Fresh ρ m m' → Does Try.prog N ρ m m' w v (callFunc 44 ⟨cargs⟩) := by
  unfold fromX
  split
  · rename_i a
    refine ⟨Local.ret _, fun m v m' h N ρ w cargs hr ha hf => ?_⟩
    obtain ⟨rfl, rfl⟩ := ret_some h
    obtain ⟨v', r, rfl, hv, hn⟩ := ha.inv
    obtain rfl := hn.inv0
    obtain rfl := hv.int
    rw [show (⟨[.int .u64 a]⟩ : Array Value) = #[.int .u64 a] from rfl]
    exact Does.value (f64from_run a w) (.same hr rfl (VR.leaf (v := .float .f64 a.toNat) rfl))
  · exact ⟨Local.fail, fun m v m' h => (fail_some h).elim⟩
set_option maxRecDepth 100000 in
theorem max_ok (args : List Value) : Local (maxX args) ∧ ∀ m v m', maxX args m = some (v, m') → ∀ N ρ w cargs, Rel N ρ m.t.get w → VRs ρ args cargs → Fresh ρ m m' → Does Try.prog N ρ m m' w v (callFunc 71 ⟨cargs⟩) := by
  unfold maxX
  split
  · rename_i a b
    refine ⟨Local.bind (Local.guard _) fun _ => Local.ret _, fun m v m' h N ρ w cargs hr ha hf => ?_⟩
    obtain ⟨u, m1, h1, h2⟩ := Clean.bind_some h
    obtain ⟨hg, rfl⟩ := guard_some h1
    simp only [Bool.and_eq_true, Bool.not_eq_true'] at hg
    obtain ⟨rfl, rfl⟩ := ret_some h2
    obtain ⟨v', r, rfl, hv, hn⟩ := ha.inv
    obtain ⟨v2, r2, rfl, hv2, hn2⟩ := hn.inv
    obtain rfl := hn2.inv0
    obtain ⟨a', rfl, hA⟩ := hv.flt
    obtain rfl := hA.eq hg.1
    obtain ⟨b', rfl, hB⟩ := hv2.flt
    obtain rfl := hB.eq hg.2
    rw [show (⟨[.float .f64 a', .float .f64 b']⟩ : Array Value) = #[.float .f64 a', .float .f64 b'] from rfl]
    exact Does.value (archMax_run a' b' w) (.same hr rfl (VR.leaf (v := .float .f64 (archR a' b')) rfl))
  · exact ⟨Local.fail, fun m v m' h => (fail_some h).elim⟩

/-! ### The great system, read off the clean memory -/
def two : Nat := 4611686018427387904
/-- Do n cells from place j on hold 2 at place k and 0 elsewhere? -/
def isRow (k : Nat) : List Value → Nat → Nat → Bool
  | _, _, 0 => true
  | .float .f64 x :: l, j, n + 1 => (bif j == k then x == two else x == 0) && isRow k l (j + 1) n
  | _, _, _ + 1 => false
def dRow (W k : Nat) : List Nat := (List.range W).map fun j => if j = k then two else 0
def dRows (W : Nat) : List (List Nat) := (List.range 128).map (dRow W)
def chkRows (W : Nat) : List Value → Nat → Nat → M Unit
  | _, _, 0 => M.ret ()
  | .slice (some ⟨b, o, none⟩) n _ :: l, k, r + 1 => do
    let blk ← getB b
    M.guard (n == W && isRow k (blk.cells.drop o) 0 W)
    chkRows W l (k + 1) r
  | _, _, _ + 1 => .fail
def matX (W : Nat) : Value → M Unit
  | .slice (some ⟨b, o, none⟩) n _ => do
    M.guard (n == 128)
    let blk ← getB b
    chkRows W (blk.cells.drop o) 0 128
  | _ => .fail
/-- How long the first row is. -/
def widX : Value → M Nat
  | .slice (some ⟨b, o, none⟩) _ _ => do
    let blk ← getB b
    match blk.cells.drop o with
    | .slice _ n _ :: _ => M.ret n
    | _ => .fail
  | _ => .fail
def fInt (i : Nat) : Nat := FloatKind.f64.nearest (i : Int)
def isVec : List Value → Nat → Nat → Bool
  | _, _, 0 => true
  | .float .f64 x :: l, j, n + 1 => x == fInt j && isVec l (j + 1) n
  | _, _, _ + 1 => false
def dB : List Nat := (List.range 128).map fInt
def vecX : Value → M Unit
  | .slice (some ⟨b, o, none⟩) n _ => do
    M.guard (n == 128)
    let blk ← getB b
    M.guard (isVec (blk.cells.drop o) 0 128)
  | _ => .fail

theorem isRow_get {k : Nat} : ∀ {l : List Value} {j n : Nat}, isRow k l j n = true → ∀ i, i < n → l[i]? = some (.float .f64 (if j + i = k then two else 0))
  | _, _, 0, _, i, hi => by omega
  | [], j, n + 1, h, _, _ => by simp [isRow] at h
  | v :: l, j, n + 1, h, i, hi => by
    cases v <;> first | (simp [isRow] at h; done) | skip
    rename_i q x
    cases q
    · simp [isRow] at h
    · unfold isRow at h
      simp only [Bool.and_eq_true] at h
      cases i with
      | zero =>
        by_cases hjk : j = k
        · have : (j == k) = true := by simpa using hjk
          rw [this] at h
          simp only [cond_true, beq_iff_eq] at h
          simp [hjk, h.1]
        · have : (j == k) = false := by simpa using hjk
          rw [this] at h
          simp only [cond_false, beq_iff_eq] at h
          simp [hjk, h.1]
      | succ i =>
        have := isRow_get h.2 i (by omega)
        simp only [List.getElem?_cons_succ, this]
        rw [show j + 1 + i = j + (i + 1) by omega]
theorem isVec_get : ∀ {l : List Value} {j n : Nat}, isVec l j n = true → ∀ i, i < n → l[i]? = some (.float .f64 (fInt (j + i)))
  | _, _, 0, _, i, hi => by omega
  | [], j, n + 1, h, _, _ => by simp [isVec] at h
  | v :: l, j, n + 1, h, i, hi => by
    cases v <;> first | (simp [isVec] at h; done) | skip
    rename_i q x
    cases q
    · simp [isVec] at h
    · unfold isVec at h
      simp only [Bool.and_eq_true, beq_iff_eq] at h
      cases i with
      | zero => simp [h.1]
      | succ i =>
        have := isVec_get h.2 i (by omega)
        simp only [List.getElem?_cons_succ, this]
        rw [show j + 1 + i = j + (i + 1) by omega]

/-- Floats that are numbers, read off the model's memory. -/
theorem fsl_of {g : Nat → Option Blk} (hr : Rel N ρ g w) {b o n c : Nat} {rv : Value} {blk : Blk} (hv : VR ρ (.slice (some ⟨b, o, none⟩) n c) rv) (hb : g b = some blk) (f : Nat → Nat) (hf : ∀ i, i < n → Clean.isNaN (f i) = false ∧ W64 (f i))
    (hc : ∀ i, i < n → (blk.cells.drop o)[i]? = some (.float .f64 (f i))) : FSl w rv ((List.range n).map f) := by
  obtain ⟨p, c', hp, rfl, _⟩ := hv.slc
  refine ⟨_, n, c', rfl, by simp, ?_, .inr ⟨_, _, rfl, fun i hi => ?_⟩⟩
  · intro x hx
    obtain ⟨i, hi, rfl⟩ := List.mem_map.1 hx
    exact (hf i (List.mem_range.1 hi)).2
  · have h1 := hc i hi
    rw [List.getElem?_drop] at h1
    obtain ⟨v', h2, h3, _⟩ := hr.cell hb hp h1
    obtain ⟨y, rfl, hy⟩ := h3.flt
    obtain rfl := hy.eq (hf i hi).1
    rw [Nat.add_assoc, h2]
    simp [List.getD, hi]

theorem row_num (k : Nat) : ∀ i, Clean.isNaN (if i = k then two else 0) = false ∧ W64 (if i = k then two else 0) := by
  have h1 : Clean.isNaN two = false := by decide
  have h2 : Clean.isNaN 0 = false := by decide
  intro i
  split
  · exact ⟨h1, by unfold W64 two; decide⟩
  · exact ⟨h2, by unfold W64; decide⟩

theorem chk_get {W : Nat} : ∀ {l : List Value} {k r : Nat} {m m' : Mem} {u : Unit}, chkRows W l k r m = some (u, m') → m'.t = m.t ∧ m'.next = m.next ∧
    ∀ i, i < r → ∃ b o c blk, l[i]? = some (.slice (some ⟨b, o, none⟩) W c) ∧ m.t.get b = some blk ∧ isRow (k + i) (blk.cells.drop o) 0 W = true
  | _, _, 0, m, m', u, h => by
    have h' : M.ret () m = some (u, m') := by unfold chkRows at h; exact h
    obtain ⟨_, rfl⟩ := ret_some h'
    exact ⟨rfl, rfl, fun i hi => by omega⟩
  | [], k, r + 1, m, m', u, h => (fail_some h).elim
  | v :: l, k, r + 1, m, m', u, h => by
    cases v <;> first | exact (fail_some h).elim | skip
    rename_i a n c
    cases a with
    | none => exact (fail_some h).elim
    | some a =>
      obtain ⟨b, o, s⟩ := a
      cases s with
      | some s => exact (fail_some h).elim
      | none =>
        unfold chkRows at h
        obtain ⟨blk, m1, h1, h2⟩ := Clean.bind_some h
        obtain ⟨hb, rfl⟩ := getB_some h1
        obtain ⟨u2, m2, h3, h4⟩ := Clean.bind_some h2
        obtain ⟨hg, rfl⟩ := guard_some h3
        simp only [Bool.and_eq_true, beq_iff_eq] at hg
        obtain ⟨rfl, hrow⟩ := hg
        obtain ⟨t1, t2, t3⟩ := chk_get h4
        refine ⟨t1, t2, fun i hi => ?_⟩
        cases i with
        | zero => exact ⟨b, o, c, blk, rfl, hb, hrow⟩
        | succ i =>
          obtain ⟨b', o', c', blk', q1, q2, q3⟩ := t3 i (by omega)
          exact ⟨b', o', c', blk', q1, q2, by rw [show k + (i + 1) = k + 1 + i by omega]; exact q3⟩
theorem mat_of {W : Nat} {v v' : Value} {u : Unit} (h : matX W v m = some (u, m')) (hr : Rel N ρ m.t.get w) (hv : VR ρ v v') : m'.t = m.t ∧ m'.next = m.next ∧ Mat w v' (dRows W) := by
  unfold matX at h
  split at h
  · rename_i b o n c
    obtain ⟨u2, m1, h1, h2⟩ := Clean.bind_some h
    obtain ⟨hg, rfl⟩ := guard_some h1
    simp only [beq_iff_eq] at hg
    subst hg
    obtain ⟨blk, m2, h3, h4⟩ := Clean.bind_some h2
    obtain ⟨hb, rfl⟩ := getB_some h3
    obtain ⟨t1, t2, t3⟩ := chk_get h4
    obtain ⟨p, c', hp, rfl, _⟩ := hv.slc
    refine ⟨t1, t2, _, 128, c', rfl, by simp [dRows], .inr ⟨_, _, rfl, fun i hi => ?_⟩⟩
    obtain ⟨b', o', c2, blk', q1, q2, q3⟩ := t3 i hi
    rw [List.getElem?_drop] at q1
    obtain ⟨rv, e1, e2, _⟩ := hr.cell hb hp q1
    refine ⟨rv, by rw [Nat.add_assoc]; exact e1, ?_⟩
    have := fsl_of hr e2 q2 (fun j => if j = i then two else 0) (fun j _ => row_num i j) (fun j hj => by
      have := isRow_get q3 j hj
      simpa using this)
    have hd : (dRows W).getD i [] = (List.range W).map fun j => if j = i then two else 0 := by
      simp [dRows, dRow, List.getD, hi]
    rw [hd]; exact this
  · exact (fail_some h).elim
theorem fInt_num : ∀ i, i < 128 → Clean.isNaN (fInt i) = false ∧ W64 (fInt i) := by
  have h : (List.range 128).all (fun i => !Clean.isNaN (fInt i) && decide (fInt i < 18446744073709551616)) = true := by kernel_rfl
  intro i hi
  have := List.all_eq_true.1 h i (List.mem_range.2 hi)
  simp only [Bool.and_eq_true, Bool.not_eq_true', decide_eq_true_eq] at this
  exact this
theorem vec_of {v v' : Value} {u : Unit} (h : vecX v m = some (u, m')) (hr : Rel N ρ m.t.get w) (hv : VR ρ v v') : m'.t = m.t ∧ m'.next = m.next ∧ FSl w v' dB := by
  unfold vecX at h
  split at h
  · rename_i b o n c
    obtain ⟨u2, m1, h1, h2⟩ := Clean.bind_some h
    obtain ⟨hg, rfl⟩ := guard_some h1
    simp only [beq_iff_eq] at hg
    subst hg
    obtain ⟨blk, m2, h3, h4⟩ := Clean.bind_some h2
    obtain ⟨hb, rfl⟩ := getB_some h3
    obtain ⟨hg2, rfl⟩ := guard_some h4
    exact ⟨rfl, rfl, fsl_of hr hv hb fInt (fun i hi => fInt_num i hi) (fun i hi => by have := isVec_get hg2 i hi; simpa using this)⟩
  · exact (fail_some h).elim

theorem Local.chkRows (W : Nat) : ∀ (l : List Value) (k r : Nat), Local (chkRows W l k r)
  | _, _, 0 => by unfold Go.Proofs.Ytghhanifakllpaa.chkRows; exact Local.ret _
  | [], _, _ + 1 => Local.fail
  | v :: l, k, r + 1 => by
    cases v <;> first | exact Local.fail | skip
    rename_i a n c
    cases a with
    | none => exact Local.fail
    | some a =>
      obtain ⟨b, o, s⟩ := a
      cases s with
      | some s => exact Local.fail
      | none =>
        unfold Go.Proofs.Ytghhanifakllpaa.chkRows
        exact Local.bind (Local.getB _) fun _ => Local.bind (Local.guard _) fun _ => Local.chkRows W l (k + 1) r
theorem Local.widX (v : Value) : Local (widX v) := by
  unfold Go.Proofs.Ytghhanifakllpaa.widX
  split
  · refine Local.bind (Local.getB _) fun _ => ?_
    split
    · exact Local.ret _
    · exact Local.fail
  · exact Local.fail
theorem wid_of {v : Value} {n : Nat} (h : widX v m = some (n, m')) : m'.t = m.t ∧ m'.next = m.next := by
  unfold widX at h
  split at h
  · obtain ⟨blk, m1, h1, h2⟩ := Clean.bind_some h
    obtain ⟨hb, rfl⟩ := getB_some h1
    generalize blk.cells.drop _ = l at h2
    match l, h2 with
    | .slice _ n _ :: _, h2 => obtain ⟨_, rfl⟩ := ret_some h2; exact ⟨rfl, rfl⟩
    | [], h2 => exact (fail_some h2).elim
  · exact (fail_some h).elim
theorem Local.matX (W : Nat) (v : Value) : Local (matX W v) := by
  unfold Go.Proofs.Ytghhanifakllpaa.matX
  split
  · exact Local.bind (Local.guard _) fun _ => Local.bind (Local.getB _) fun _ => Local.chkRows _ _ _ _
  · exact Local.fail
theorem Local.vecX (v : Value) : Local (vecX v) := by
  unfold Go.Proofs.Ytghhanifakllpaa.vecX
  split
  · exact Local.bind (Local.guard _) fun _ => Local.bind (Local.getB _) fun _ => Local.guard _
  · exact Local.fail
end
end Go.Proofs.Ytghhanifakllpaa
