/- The document's answer for chapter 14, in the clean executor: Solve. -/
import Derived.Test.YtghhanifakllpaaY1Y
set_option linter.unusedSimpArgs false
set_option linter.unusedVariables false
namespace Go.Proofs.Ytghhanifakllpaa
open Go.Clean

/-- Rows and a right side, as one matrix. -/
def M0F (rs : List (List F)) (bs : List F) : Mx := fun i j => (rat' rs i ++ [bs.getD i fzero]).getD j fzero
theorem M0F_in {rs : List (List F)} {bs : List F} {i j : Nat} (h : j < (rat' rs i).length) : M0F rs bs i j = fat (rat' rs i) j := by
  unfold M0F fat
  rw [List.getD_eq_getElem?_getD, List.getElem?_append_left h, List.getD_eq_getElem?_getD]
  simp [h]
theorem M0F_rhs {rs : List (List F)} {bs : List F} {i : Nat} {n : Nat} (h : (rat' rs i).length = n) : M0F rs bs i n = bs.getD i fzero := by
  unfold M0F
  rw [List.getD_eq_getElem?_getD, List.getElem?_append_right (by omega), h]
  simp
/-- What Solve answers. -/
def solveFF (rs : List (List F)) (bs : List F) : List F × Int :=
  if checkF rs ≠ 0 then ([], checkF rs)
  else if listF bs rs.length ≠ 0 then ([], listF bs rs.length)
  else match solvedF rs.length (M0F rs bs) with
    | none => ([], 141)
    | some x => ((List.range rs.length).map x, 0)
theorem check0 {rs : List (List F)} (h : checkF rs = 0) : 0 < rs.length ∧ rs.length ≤ 128 ∧ ∀ i, i < rs.length → (rat' rs i).length = rs.length := by
  unfold checkF at h
  split at h
  · cases h
  · split at h
    · rename_i h1 h2
      refine ⟨by omega, by omega, fun i hi => ?_⟩
      have := List.all_eq_true.1 h2 _ (rat_mem hi)
      simpa using this
    · cases h
theorem list0 {bs : List F} {n : Nat} (h : listF bs n = 0) : bs.length = n := by
  unfold listF at h
  split at h
  · assumption
  · cases h
theorem Lay.above {m m' : Mem} {kd : Nat → Nat} {base s5 : Nat} {v : Nat → Value} {l : Nat → List Value} {ok : Bool} {n : Nat} {ρ : Nat → Nat} {rw : Nat → List Value} (h : Lay m kd base s5 v l ok n ρ rw) (hw : WF m') (e : ∀ c, c < m.next → m'.at c = m.at c) : Lay m' kd base s5 v l ok n ρ rw :=
  ⟨hw, by rw [e _ (h.wf _ _ h.cell)]; exact h.cell, h.own, fun k h1 h5 => by
    obtain ⟨h0, hg⟩ := h.gl k h1 h5
    refine ⟨h0, ?_⟩
    rcases hg with hg | ⟨hg1, b, hg2, hg3, hg4, hg5⟩
    · exact .inl hg
    · exact .inr ⟨hg1, b, hg2, hg3, hg4, by rw [e b (h.wf _ _ hg5)]; exact hg5⟩, fun i hi => by
    obtain ⟨h1, h2, h3⟩ := h.row i hi
    exact ⟨h1, h2, by rw [e _ (h.wf _ _ h3)]; exact h3⟩, h.inj⟩
theorem wrap_pred (k : Nat) (h : k < 4611686018427387904) : IntKind.i64.wrap ((k : Int) - 1) = (k : Int) - 1 := by
  have e1 : (2 : Int) ^ 64 = 18446744073709551616 := by decide
  have e2 : (2 : Int) ^ 63 = 9223372036854775808 := by decide
  simp only [IntKind.wrap]
  simp [IntKind.bits, IntKind.signed, e1, e2]
  omega
theorem repeat_one (z : Value) : ∀ n, repeatL [z] n = List.replicate n z
  | 0 => rfl
  | n + 1 => by rw [repeatL, repeat_one z n]; rfl
theorem info25b : (match Try.prog.info? 25 with
    | some i => i.size == 1 && i.bytes == 8
    | none => false) = true := by kernel_rfl
theorem info25 : ∃ i, Try.prog.info? 25 = some i ∧ i.size = 1 ∧ i.bytes = 8 := by
  have h := info25b
  split at h
  · rename_i i hi
    simp only [Bool.and_eq_true, beq_iff_eq] at h
    exact ⟨i, hi, h.1, h.2⟩
  · cases h
theorem zero25 : zeroT Try.prog 25 = some (.float .f64 0) := by kernel_rfl
theorem gives_make24 {m : Mem} {Q : Value → Mem → Prop} (n : Nat) (hn : n ≤ 100000) (q : Q (.slice (some ⟨m.next, 0, none⟩) n n) (m.nw ⟨List.replicate n (.float .f64 0), 1, false, false⟩)) : Gives (makeSliceX Try.prog 24 (.int .i64 n) (.int .i64 n)) m Q := by
  obtain ⟨i, h1, h2, h3⟩ := info25
  unfold makeSliceX
  simp only [under24, h1, zero25, h2, h3]
  rw [gives_bind, gives_guard]
  refine ⟨?_, ?_⟩
  · simp [cellsV]
    omega
  · rw [gives_bind, gives_newX]
    have e : repeatL (cellsV (.float .f64 0)) ((n : Int).toNat) = List.replicate n (.float .f64 0) := by rw [Int.toNat_natCast]; exact repeat_one _ n
    rw [e]
    refine ⟨by simp [oneV], (gives_ret _ _ _).2 ?_⟩
    rw [Int.toNat_natCast]
    exact q

variable {known : Known}
/-- A slice whose array lies behind b0. -/
def Beyond (b0 : Nat) (v : Value) : Prop := ∀ a n c, v = .slice (some a) n c → b0 ≤ a.block
theorem Beyond.nil (b0 : Nat) : Beyond b0 (.slice none 0 0) := fun a n c h => by cases h
def boI (m4 : Mem) (s7 N : Nat) (R : Mx) (k : Nat) (fr : Fr) (m' : Mem) : Prop :=
  k ≤ N ∧ fr.n = 95 ∧ fr.d = [] ∧ fr.at 7 = .pointer (some ⟨s7, 0, none⟩) ∧ fr.at 8 = .int .i64 N ∧ fr.at 9 = .slice (some ⟨m4.next, 0, none⟩) N N ∧ fr.at 10 = .int .i64 ((k : Int) - 1) ∧
  (∀ c, c < m4.next → m'.at c = m4.at c) ∧ WF m' ∧ m4.next < m'.next ∧ ∃ xs, m'.at m4.next = some ⟨xs, 1, false, false⟩ ∧ xs.length = N ∧ ∀ j, j < N → xs[j]? = some (.float .f64 (cOf (backU N R k j)))
def biI (m5 : Mem) (xb s7 N : Nat) (R : Mx) (i : Nat) (q : Nat) (fr : Fr) (m' : Mem) : Prop :=
  ∃ j, j + q = N ∧ i < j ∧ fr.n = 95 ∧ fr.d = [] ∧ fr.at 7 = .pointer (some ⟨s7, 0, none⟩) ∧ fr.at 8 = .int .i64 N ∧ fr.at 9 = .slice (some ⟨xb, 0, none⟩) N N ∧ fr.at 10 = .int .i64 (i : Nat) ∧ fr.at 11 = .float .f64 (cOf (backI N R i j)) ∧ fr.at 12 = .int .i64 (j : Nat) ∧ Only m5 m'
def bfI (m5 : Mem) (xb N : Nat) (R : Mx) (q : Nat) (fr : Fr) (m' : Mem) : Prop :=
  ∃ i, i + q = N ∧ fr.n = 95 ∧ fr.d = [] ∧ fr.at 8 = .int .i64 N ∧ fr.at 9 = .slice (some ⟨xb, 0, none⟩) N N ∧ fr.at 13 = .int .i64 (i : Nat) ∧ (∀ k, k < i → ffin (backX N R N k) = true) ∧ Only m5 m'
end Go.Proofs.Ytghhanifakllpaa

/- The document's answer for chapter 14, in the clean executor: Pivots, Det, Off. -/
namespace Go.Proofs.Ytghhanifakllpaa
open Go.Clean

variable {known : Known}
/-- A slice whose elements are these whole numbers. -/
def IL (m : Mem) (v : Value) (xs : List Nat) : Prop :=
  ∃ a c, v = .slice a xs.length c ∧ ((a = none ∧ xs.length = 0 ∧ c = 0) ∨ ∃ b o x, a = some ⟨b, o, none⟩ ∧ m.at b = some x ∧ ∀ (i : Nat), i < xs.length → x.cells[o + i]? = some (.int .i64 (xs.getD i 0 : Nat)))
def pivotsFF (rs : List (List F)) : List Nat × Int :=
  if checkF rs ≠ 0 then ([], checkF rs)
  else if (stepsS rs.length (M0F rs [])).2 then ((List.range rs.length).map (stepsS rs.length (M0F rs [])).1.first, 0) else ([], 141)
theorem FL.nil (m : Mem) : FL m (.slice none 0 0) [] := ⟨none, 0, rfl, .inl ⟨Loose.nil, rfl, rfl⟩⟩
theorem IL.nil (m : Mem) : IL m (.slice none 0 0) [] := ⟨none, 0, rfl, .inl ⟨rfl, rfl, rfl⟩⟩

/-! ### Det -/
theorem cOf_neg (x : F) : canon (cOf x ^^^ 9223372036854775808) = cOf (fneg x) := by
  rw [← cOf_fl, fneg_bits]
  cases x with
  | none => show cOf (fneg (fl noNum)) = _; rw [fl_noNum]
  | some b =>
    show cOf (fneg (fl (canon b))) = canon (b ^^^ 9223372036854775808)
    rw [fl_canon, ← cOf_fl (b ^^^ 9223372036854775808), fneg_bits]
@[simp] theorem un_neg {P : Program} (x : F) : unX P .neg (.float .f64 (cOf x)) = some (.float .f64 (cOf (fneg x))) := by
  show some (Value.float .f64 (canon (cOf x ^^^ 9223372036854775808))) = _
  rw [cOf_neg]
def detFF (rs : List (List F)) : F × Int :=
  if checkF rs ≠ 0 then (fzero, checkF rs)
  else match detF rs.length (M0F rs []) with
    | none => (fzero, 6)
    | some d => (d, 0)
def detI (m4 : Mem) (s7 : Nat) (ps : List F) (os : List Bool) (q : Nat) (fr : Fr) (m' : Mem) : Prop :=
  ∃ i d, i + q = ps.length ∧ fr.n = 53 ∧ fr.d = [] ∧ fr.at 5 = .pointer (some ⟨s7, 0, none⟩) ∧ fr.at 6 = .float .f64 (cOf d) ∧ fr.at 7 = .int .i64 (i : Nat) ∧ Only m4 m' ∧ detGo ps os fone = detGo (ps.drop i) (os.drop i) d
/-! ### Off -/
def MF (rs : List (List F)) : Mx := fun i j => fat (rat' rs i) j
def offFF (rs : List (List F)) (xs bs : List F) : F × Int :=
  if checkF rs ≠ 0 then (fzero, checkF rs)
  else if listF xs rs.length ≠ 0 then (fzero, listF xs rs.length)
  else if listF bs rs.length ≠ 0 then (fzero, listF bs rs.length)
  else if ffin (offTo fmax rs.length (MF rs) (fat xs) (fat bs) rs.length) then (offTo fmax rs.length (MF rs) (fat xs) (fat bs) rs.length, 0) else (fzero, 6)
def offI (m4 : Mem) (va vx vb : Value) (rs : List (List F)) (xs bs : List F) (q : Nat) (fr : Fr) (m' : Mem) : Prop :=
  ∃ i, i + q = rs.length ∧ fr.n = 71 ∧ fr.d = [] ∧ fr.at 0 = va ∧ fr.at 1 = vx ∧ fr.at 2 = vb ∧ fr.at 9 = .float .f64 (cOf (offTo fmax rs.length (MF rs) (fat xs) (fat bs) i)) ∧ fr.at 10 = .int .i64 (i : Nat) ∧ Only m4 m'
def dotI (m4 : Mem) (va vx vb : Value) (rs : List (List F)) (xs bs : List F) (i : Nat) (q : Nat) (fr : Fr) (m' : Mem) : Prop :=
  ∃ j, j + q = rs.length ∧ fr.n = 71 ∧ fr.d = [] ∧ fr.at 0 = va ∧ fr.at 1 = vx ∧ fr.at 2 = vb ∧ fr.at 9 = .float .f64 (cOf (offTo fmax rs.length (MF rs) (fat xs) (fat bs) i)) ∧ fr.at 10 = .int .i64 (i : Nat) ∧ fr.at 11 = .float .f64 (cOf (dotTo (MF rs) (fat xs) i j)) ∧ fr.at 12 = .int .i64 (j : Nat) ∧ Only m4 m'
theorem FL.get {m : Mem} {v : Value} {xs : List F} (h : FL m v xs) (hpos : 0 < xs.length) : ∃ b o x c, v = .slice (some ⟨b, o, none⟩) xs.length c ∧ m.at b = some x ∧ ∀ i, i < xs.length → x.cells[o + i]? = some (.float .f64 (cOf (fat xs i))) := by
  obtain ⟨a, c, rfl, h2⟩ := h
  rcases h2 with h2 | ⟨b, o, x, rfl, e2, e3⟩
  · omega
  · exact ⟨b, o, x, c, rfl, e2, e3⟩
theorem FM.get {m : Mem} {v : Value} {rs : List (List F)} (h : FM m v rs) (hpos : 0 < rs.length) : ∃ b o x c, v = .slice (some ⟨b, o, none⟩) rs.length c ∧ m.at b = some x ∧ ∀ i, i < rs.length → ∃ u, x.cells[o + i]? = some u ∧ FL m u (rat' rs i) := by
  obtain ⟨a, c, rfl, h2⟩ := h
  rcases h2 with h2 | ⟨b, o, x, rfl, e2, e3⟩
  · omega
  · exact ⟨b, o, x, c, rfl, e2, e3⟩
end Go.Proofs.Ytghhanifakllpaa
