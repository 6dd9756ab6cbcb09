/- SolveOff: plain floats, fractions as such, the greater of two. -/
import Derived.Test.YtghhanifakllpaaVlY
import Derived.Test.YtghhanifakllpaaViY
set_option linter.unusedSimpArgs false
set_option linter.unusedVariables false
namespace Go.Clean
variable {P : Program} {call : Caller} {ops : Array Oper} {fr : Fr} {m : Mem} {Q : Fr → Mem → Prop} {ty : TypeId} {pos : String} {af : Array Edge} {d : Option Tmp}
/-- The greater of two floats. -/
def maxF (a b : Nat) : Nat := match Ieee.double.order a b with
  | some .lt => b
  | some .gt => a
  | some .eq => bif (Ieee.double.read a).neg then b else a
  | none => noNum
theorem step_maxF (x y : Operand) (t u : TypeId) {a b : Nat} (h1 : ev fr x = some (.float .f64 a)) (h2 : ev fr y = some (.float .f64 b)) : Gives (stepDX P call ops fr ⟨d, .call ⟨.builtin .max, #[x, y], #[t, u]⟩, ty, pos, af, none⟩) m Q ↔ putQ fr d Q (.float .f64 (maxF a b)) m := by
  rw [step_any rfl rfl]
  have e : evs fr [x, y] = some [.float .f64 a, .float .f64 b] := by simp [h1, h2]
  unfold opX callX
  simp only [e]
  unfold maxF
  cases Ieee.double.order a b with
  | none => exact gives_ret _ _ _
  | some o => cases o <;> exact gives_ret _ _ _
end Go.Clean
namespace Go.Proofs.Ytghhanifakllpaa
open Go.Clean Ieee
/-! ### Plain floats -/
theorem vq_pLo : Nu.Fi pLo ∧ Nu.vq pLo = Nu.p2 (-40) := by
  have h : double.read 4427038433705197568 = .number false 4503599627370496 (-92) := by decide
  refine ⟨⟨_, _, _, _, rfl, h⟩, ?_⟩
  show Nu.vq (some 4427038433705197568) = _
  rw [Nu.vq_some h]
  unfold Nu.nv Nu.sg
  have : ((4503599627370496 : Nat) : Rat) = Nu.p2 52 := (Nu.p2_nat 52).symm
  simp only [Bool.false_eq_true, if_false, Rat.one_mul]
  rw [this, ← Nu.p2_add]; rfl
theorem vq_pHi : Nu.Fi pHi ∧ Nu.vq pHi = Nu.p2 40 := by
  have h : double.read 4787326403894837248 = .number false 4503599627370496 (-12) := by decide
  refine ⟨⟨_, _, _, _, rfl, h⟩, ?_⟩
  show Nu.vq (some 4787326403894837248) = _
  rw [Nu.vq_some h]
  unfold Nu.nv Nu.sg
  have : ((4503599627370496 : Nat) : Rat) = Nu.p2 52 := (Nu.p2_nat 52).symm
  simp only [Bool.false_eq_true, if_false, Rat.one_mul]
  rw [this, ← Nu.p2_add]; rfl
theorem fcmp_rv {x y : F} (hx : Nu.Fi x) (hy : Nu.Fi y) : (fcmp x y == some .gt || fcmp x y == some .eq) = decide (Nu.vq y ≤ Nu.vq x) := Nu.RV.ge hx.rv hy.rv
theorem mod_inf {b : Nat} {s : Bool} (h : double.read b = .infinity s) : double.read (b % 9223372036854775808) = .infinity false := by
  have hw : double.signWeight = 9223372036854775808 := by decide
  have hi : double.infRung = 9218868437227405312 := by decide
  have hb : double.binade = 4503599627370496 := by decide
  unfold Format.read at h ⊢
  simp only [hw, hi, hb, Nat.mod_mod] at h ⊢
  split at h
  · exact absurd h (by simp)
  · rename_i g1
    rw [if_neg g1]
    split at h
    · exact absurd h (by simp)
    · rename_i g2
      rw [if_neg g2]
      split at h
      · rename_i g3
        rw [if_pos g3]
        have : b % 9223372036854775808 / 9223372036854775808 = 0 := Nat.div_eq_of_lt (Nat.mod_lt _ (by decide))
        rw [this]; rfl
      · exact absurd h (by simp)
/-- What plain tells. -/
theorem plain_law {x : F} (h : plainF x = true) : Nu.Fi x ∧ Nu.Ab (Nu.vq x) (Nu.p2 40) ∧ (Nu.vq x = 0 ∨ Nu.p2 (-40) ≤ Nu.rabs (Nu.vq x)) := by
  have hfi : Nu.Fi x := by
    unfold plainF at h
    cases x with
    | none => exact absurd h (by decide)
    | some b =>
      cases h1 : double.read b with
      | number s m k => exact ⟨b, s, m, k, rfl, h1⟩
      | infinity s =>
        have e1 : fcmp (some b) fzero ≠ some .eq := by
          show (double.read b).order (double.read 0) ≠ _
          rw [h1, show double.read 0 = .number false 0 (-1074) from by decide]
          show some _ ≠ _
          cases s <;> simp
        have e2 : fcmp (fabs (some b)) pHi = some .gt := by
          show (double.read (b % 9223372036854775808)).order (double.read 4787326403894837248) = _
          rw [mod_inf h1, show double.read 4787326403894837248 = .number false 4503599627370496 (-12) from by decide]; rfl
        have e3 : feq (some b) fzero = false := by unfold feq; simpa using e1
        have e4 : fle (fabs (some b)) pHi = false := by unfold fle; rw [e2]; decide
        rw [e3, e4] at h
        simp at h
      | nan s t =>
        have e1 : feq (some b) fzero = false := by
          unfold feq
          have : fcmp (some b) fzero = none := by
            show (double.read b).order (double.read 0) = _
            exact order_nan_left (by rw [h1]; rfl)
          rw [this]; decide
        have e2 : fle (fabs (some b)) pHi = false := by
          unfold fle
          have : fcmp (fabs (some b)) pHi = none := by
            show (double.read (b % 9223372036854775808)).order (double.read 4787326403894837248) = _
            refine order_nan_left ?_
            have := isNo_mod b
            unfold isNo at this
            rw [this, h1]; rfl
          rw [this]; decide
        rw [e1, e2] at h
        simp at h
  have ha := hfi.abs
  have hp := Nu.p2_pos 40
  unfold plainF at h
  rw [Nu.feq_rv hfi Nu.fi_zero.1, Nu.fi_zero.2, fcmp_rv ha.1 vq_pLo.1, Nu.RV.le ha.1.rv vq_pHi.1.rv, ha.2, vq_pLo.2, vq_pHi.2] at h
  simp only [Bool.or_eq_true, Bool.and_eq_true, decide_eq_true_eq] at h
  refine ⟨hfi, ?_, ?_⟩
  · rcases h with h | ⟨_, h⟩
    · rw [h]; exact Nu.ab_zero (Rat.le_of_lt hp)
    · exact Nu.rabs_ab.1 h
  · rcases h with h | ⟨h, _⟩
    · exact .inl h
    · exact .inr h
/-- The greater of two finite floats. -/
theorem maxF_law {a b : Nat} (ha : Nu.Fi (some a)) (hb : Nu.Fi (some b)) : (maxF a b = a ∨ maxF a b = b) ∧ Nu.vq (some a) ≤ Nu.vq (some (maxF a b)) ∧ Nu.vq (some b) ≤ Nu.vq (some (maxF a b)) := by
  have h1 := Nu.fgt_rv ha hb
  have h2 := Nu.fgt_rv hb ha
  have h3 := Nu.feq_rv ha hb
  unfold fgt feq at *
  have e : fcmp (some a) (some b) = double.order a b := rfl
  rw [e] at h1 h3
  obtain ⟨p, q, k, h4, h5, h6⟩ := Nu.RV.cmp ha.rv hb.rv
  rw [e] at h4
  unfold maxF
  rw [h4] at h1 h3 ⊢
  cases hc : compare p q with
  | lt =>
    rw [hc] at h1 h3
    have n1 : ¬ Nu.vq (some b) < Nu.vq (some a) := by intro h; rw [decide_eq_true h] at h1; exact absurd h1 (by decide)
    exact ⟨.inr rfl, by grind, by grind⟩
  | gt =>
    rw [hc] at h1 h3
    have n1 : Nu.vq (some b) < Nu.vq (some a) := by
      by_cases h : Nu.vq (some b) < Nu.vq (some a)
      · exact h
      · rw [decide_eq_false h] at h1; exact absurd h1 (by decide)
    exact ⟨.inl rfl, by grind, by grind⟩
  | eq =>
    rw [hc] at h1 h3
    have n1 : Nu.vq (some a) = Nu.vq (some b) := by
      by_cases h : Nu.vq (some a) = Nu.vq (some b)
      · exact h
      · rw [decide_eq_false h] at h3; exact absurd h3 (by decide)
    dsimp only
    cases (double.read a).neg with
    | true => exact ⟨.inr rfl, by show Nu.vq (some a) ≤ Nu.vq (some b); rw [n1]; exact Rat.le_refl, Rat.le_refl⟩
    | false => exact ⟨.inl rfl, Rat.le_refl, by show Nu.vq (some b) ≤ Nu.vq (some a); rw [n1]; exact Rat.le_refl⟩

/-! ### Fractions in memory -/
structure RQ (m : Mem) (b : Nat) (q : Rat) (L : Nat) : Prop where
  ex : ∃ N D, RT m b N D L ∧ ((N : Int) : Rat) = q * ((D : Nat) : Rat)
theorem natpos {D : Nat} (h : 0 < D) : (0 : Rat) < ((D : Nat) : Rat) := by
  have : ((1 : Nat) : Rat) ≤ ((D : Nat) : Rat) := Rat.natCast_le_natCast.2 h
  have e : ((1 : Nat) : Rat) = 1 := rfl
  rw [e] at this; grind
theorem icast (D : Nat) : (((D : Nat) : Int) : Rat) = ((D : Nat) : Rat) := rfl
theorem RQ.up {m m' : Mem} {b : Nat} {q : Rat} {L : Nat} (h : RQ m b q L) (hw : WF m) (u : Up m m') : RQ m' b q L := by
  obtain ⟨N, D, h1, h2⟩ := h.ex; exact ⟨N, D, h1.up hw u, h2⟩
theorem RQ.upz {m m' : Mem} {b bz : Nat} {q : Rat} {L : Nat} (h : RQ m b q L) (hw : WF m) (u : UpZ m m' bz) (hb : b ≠ bz) : RQ m' b q L := by
  obtain ⟨N, D, h1, h2⟩ := h.ex; exact ⟨N, D, h1.upz hw u hb, h2⟩
theorem RQ.more {m : Mem} {b : Nat} {q : Rat} {L L' : Nat} (h : RQ m b q L) (hL : L ≤ L') : RQ m b q L' := by
  obtain ⟨N, D, h1, h2⟩ := h.ex; exact ⟨N, D, h1.more hL, h2⟩
theorem RQ.cells {m : Mem} {b : Nat} {q : Rat} {L : Nat} (h : RQ m b q L) : ∃ c0 c1 c2, m.at b = some ⟨[c0, c1, c2], 1, false, false⟩ ∧ nonI [c0, c1, c2] := by
  obtain ⟨N, D, h1, h2⟩ := h.ex; exact h1.cells
theorem RQ.lt {m : Mem} {b : Nat} {q : Rat} {L : Nat} (h : RQ m b q L) (hw : WF m) : b < m.next := by
  obtain ⟨_, _, _, h1, _⟩ := h.cells; exact hw _ _ h1
theorem RQ.zero {m : Mem} {b : Nat} (h : m.at b = some ⟨[.bool false, .slice none 0 0, .slice none 0 0], 1, false, false⟩) (L : Nat) : RQ m b 0 L :=
  ⟨0, 1, ⟨⟨false, _, _, [], [], h, WL.nil m, WL.nil m, Tr.nil, Tr.nil, Nat.zero_le _, Nat.zero_le _, fun h => Bool.noConfusion h, by simp [sgn, wv]⟩, by decide⟩, by
    show ((0 : Int) : Rat) = 0 * _
    rw [Rat.zero_mul]; rfl⟩
theorem RQ.rat {m : Mem} {b bz : Nat} (hb : b < 18446744073709551616) (hf : exF b ≠ 2047) (h : RT m bz (wth b) (2 ^ 1074) 36) : RQ m bz (Nu.vq (some b)) 36 := by
  refine ⟨_, _, h, ?_⟩
  rw [← (vq_wth hb hf).2, npow 1074]; rfl
section
variable {m : Mem} {bz bx bY : Nat} {c0 c1 c2 : Value} {p q : Rat} {L1 L2 L : Nat} {Q : Value → Mem → Prop}
theorem rqMul_ok (e : Nat) (hw : WF m) (hat : m.at bz = some ⟨[c0, c1, c2], 1, false, false⟩) (hI : nonI [c0, c1, c2]) (hx : RQ m bx p L1) (hy : RQ m bY q L2) (hL1 : L1 + L2 + 2 ≤ L) (hL : L ≤ 60000)
    (hQ : ∀ m', UpZ m m' bz → RQ m' bz (p * q) L → Q (.pointer (some ⟨bz, 0, none⟩)) m') :
    Gives (callN Try.prog kn1 (e + 7) 32 [.pointer (some ⟨bz, 0, none⟩), .pointer (some ⟨bx, 0, none⟩), .pointer (some ⟨bY, 0, none⟩)]) m Q := by
  obtain ⟨N1, D1, h1, h2⟩ := hx.ex
  obtain ⟨N2, D2, h3, h4⟩ := hy.ex
  refine ratMul_ok e hw hat hI h1 h3 hL1 hL fun m' u r => hQ m' u ⟨_, _, r, ?_⟩
  rw [Rat.intCast_mul, Rat.natCast_mul, h2, h4]; grind
theorem rqAdd_ok (e : Nat) (hw : WF m) (hat : m.at bz = some ⟨[c0, c1, c2], 1, false, false⟩) (hI : nonI [c0, c1, c2]) (hx : RQ m bx p L1) (hy : RQ m bY q L2) (hL1 : L1 + L2 + 4 ≤ L) (hL : L ≤ 60000)
    (hQ : ∀ m', UpZ m m' bz → RQ m' bz (p + q) L → Q (.pointer (some ⟨bz, 0, none⟩)) m') :
    Gives (callN Try.prog kn1 (e + 8) 29 [.pointer (some ⟨bz, 0, none⟩), .pointer (some ⟨bx, 0, none⟩), .pointer (some ⟨bY, 0, none⟩)]) m Q := by
  obtain ⟨N1, D1, h1, h2⟩ := hx.ex
  obtain ⟨N2, D2, h3, h4⟩ := hy.ex
  refine ratAdd_ok e hw hat hI h1 h3 hL1 hL fun m' u r => hQ m' u ⟨_, _, r, ?_⟩
  rw [Rat.intCast_add, Rat.intCast_mul, Rat.intCast_mul, Rat.natCast_mul, h2, h4, icast, icast]; grind
theorem rqSub_ok (e : Nat) (hw : WF m) (hat : m.at bz = some ⟨[c0, c1, c2], 1, false, false⟩) (hI : nonI [c0, c1, c2]) (hx : RQ m bx p L1) (hy : RQ m bY q L2) (hL1 : L1 + L2 + 4 ≤ L) (hL : L ≤ 60000)
    (hQ : ∀ m', UpZ m m' bz → RQ m' bz (p - q) L → Q (.pointer (some ⟨bz, 0, none⟩)) m') :
    Gives (callN Try.prog kn1 (e + 8) 33 [.pointer (some ⟨bz, 0, none⟩), .pointer (some ⟨bx, 0, none⟩), .pointer (some ⟨bY, 0, none⟩)]) m Q := by
  obtain ⟨N1, D1, h1, h2⟩ := hx.ex
  obtain ⟨N2, D2, h3, h4⟩ := hy.ex
  refine ratSub_ok e hw hat hI h1 h3 hL1 hL fun m' u r => hQ m' u ⟨_, _, r, ?_⟩
  rw [Rat.intCast_add, Rat.intCast_mul, Rat.intCast_mul, Rat.intCast_neg, Rat.natCast_mul, h2, h4, icast, icast]; grind
theorem rqAbs_ok (e : Nat) (hw : WF m) (hat : m.at bz = some ⟨[c0, c1, c2], 1, false, false⟩) (hI : nonI [c0, c1, c2]) (hx : RQ m bx p L) (hL : L < 1000000)
    (hQ : ∀ m', UpZ m m' bz → RQ m' bz (Nu.rabs p) L → Q (.pointer (some ⟨bz, 0, none⟩)) m') :
    Gives (callN Try.prog kn1 (e + 5) 34 [.pointer (some ⟨bz, 0, none⟩), .pointer (some ⟨bx, 0, none⟩)]) m Q := by
  obtain ⟨N1, D1, h1, h2⟩ := hx.ex
  refine ratAbs_ok e hw hat hI h1 hL fun m' u r => hQ m' u ⟨_, _, r, ?_⟩
  rw [icast, natAbs_rabs, h2, Nu.rabs_mul]
  have : Nu.rabs ((D1 : Nat) : Rat) = ((D1 : Nat) : Rat) := by unfold Nu.rabs; rw [if_pos (Nu.cast_nn D1)]
  rw [this]
theorem rqCmp_ok (e : Nat) (hw : WF m) (hx : RQ m bx p L1) (hy : RQ m bY q L2) (hL : L1 + L2 ≤ 100000)
    (hQ : ∀ m' (k : Int), Up m m' → (p ≤ q → ¬ 0 < k) → Q (.int .i64 k) m') :
    Gives (callN Try.prog kn1 (e + 5) 35 [.pointer (some ⟨bx, 0, none⟩), .pointer (some ⟨bY, 0, none⟩)]) m Q := by
  obtain ⟨N1, D1, h1, h2⟩ := hx.ex
  obtain ⟨N2, D2, h3, h4⟩ := hy.ex
  refine ratCmp_ok e hw h1 h3 hL fun m' u => hQ m' _ u fun hpq hk => ?_
  have h5 : 0 < N1 * (D2 : Int) - N2 * (D1 : Int) := Int.sign_pos_iff.1 hk
  have h6 : ((1 : Int) : Rat) ≤ ((N1 * (D2 : Int) - N2 * (D1 : Int) : Int) : Rat) := Rat.intCast_le_intCast.2 h5
  rw [Rat.intCast_sub, Rat.intCast_mul, Rat.intCast_mul, h2, h4, icast, icast] at h6
  have d1 := natpos h1.pos
  have d2 := natpos h3.pos
  have h7 := Rat.mul_le_mul_of_nonneg_right hpq (Rat.le_of_lt (Rat.mul_pos d1 d2))
  have e1 : ((1 : Int) : Rat) = 1 := rfl
  rw [e1] at h6
  grind
end
end Go.Proofs.Ytghhanifakllpaa

/- SolveOff: what Solve answers, plain. -/
namespace Go.Proofs.Ytghhanifakllpaa
open Go.Clean Ieee
/-- What is true of the rows: bits, finite. -/
structure OffC (n : Nat) (A : Nat → Nat → Nat) (B x : Nat → Nat) : Prop where
  n1 : 1 ≤ n
  n8 : n ≤ 8
  fa : ∀ i j, i < n → j < n → Nu.Fi (some (A i j)) ∧ A i j < 18446744073709551616
  fb : ∀ i, i < n → Nu.Fi (some (B i)) ∧ B i < 18446744073709551616
  fx : ∀ i, i < n → Nu.Fi (some (x i)) ∧ x i < 18446744073709551616
def qA (A : Nat → Nat → Nat) (i j : Nat) : Rat := Nu.vq (some (A i j))
def q1 (x : Nat → Nat) (i : Nat) : Rat := Nu.vq (some (x i))
/-- The greatest so far: of the rows up to i, and of row i up to j. -/
structure MxP (n : Nat) (A : Nat → Nat → Nat) (i j : Nat) (mst : Nat) : Prop where
  fi : Nu.Fi (some mst)
  b : mst < 18446744073709551616
  ge : ∀ i' j', j' < n → i' < n → (i' < i ∨ (i' = i ∧ j' < j)) → Nu.rabs (qA A i' j') ≤ Nu.vq (some mst)
  at' : Nu.vq (some mst) = 0 ∨ ∃ i' j', i' < n ∧ j' < n ∧ Nu.vq (some mst) = Nu.rabs (qA A i' j')
def rowSum (A : Nat → Nat → Nat) (x : Nat → Nat) (i j : Nat) : Rat := Nu.rsum (fun l => qA A i l * q1 x l) j
def sumX (x : Nat → Nat) (i : Nat) : Rat := Nu.rsum (fun j => Nu.rabs (q1 x j)) i
theorem plain_fin {x : F} (h : plainF x = true) : ffin x = true := by
  obtain ⟨a, b, _⟩ := plain_law h
  exact Nu.RV.fin a.rv (b.mono (Nu.p2_mono (by decide)))
theorem solved_piv {n : Nat} {M : Mx} {x : Nat → F} (hn : 1 ≤ n) (h : solvedF n M = some x) : ∃ i, i < n ∧ Nu.vq (M i 0) ≠ 0 := by
  unfold solvedF at h
  split at h
  · rename_i hg
    obtain ⟨k, rfl⟩ : ∃ k, n = k + 1 := ⟨n - 1, by omega⟩
    have hg' : (goS (k + 1) (k + 1) 0 (startS M)).2 = true := hg
    unfold goS at hg'
    cases hb : bad ((startS M).M (pick (k + 1) (startS M).M 0) 0) with
    | true => rw [hb] at hg'; exact absurd hg' (by simp)
    | false => exact ⟨_, (pick_lt (startS M).M (show 0 < k + 1 by omega)).2, (Nu.bad_no hb).2⟩
  · cases h
theorem off_ans {rs : List (List F)} {bs : List F} (S : SimF rs bs) (h64 : ∀ i j, B64 (fat (rat' rs i) j)) (h64b : ∀ i, B64 (fat bs i)) :
    ∃ A B, (∀ i j, i < rs.length → j < rs.length → fat (rat' rs i) j = some (A i j)) ∧ (∀ i, i < rs.length → fat bs i = some (B i)) ∧
      (solveFF rs bs = ([], 141) ∨ ∃ x, solveFF rs bs = ((List.range rs.length).map (fun j => some (x j)), 0) ∧ OffC rs.length A B x ∧
        ∀ most, MxP rs.length A rs.length 0 most → ∀ i, i < rs.length → Nu.Ab (rowSum A x i rs.length - Nu.vq (some (B i))) (Nu.vq (some most) * sumX x rs.length * Nu.p2 (-34) + Nu.p2 (-900))) := by
  obtain ⟨n, hn⟩ : ∃ n, n = rs.length := ⟨_, rfl⟩
  have s1 := S.lo
  have s8 := S.hi
  have sb := S.lb
  have srow := S.row
  have spa := S.pa
  have spb := S.pb
  rw [← hn] at s1 s8 sb srow spa spb ⊢
  have ha : ∀ i j, i < n → j < n → fat (rat' rs i) j = some ((fat (rat' rs i) j).getD 0) := fun i j hi hj => by
    obtain ⟨⟨b, s, m, k, h, _⟩, _⟩ := plain_law (spa i hi j hj)
    rw [h]; rfl
  have hbb : ∀ i, i < n → fat bs i = some ((fat bs i).getD 0) := fun i hi => by
    obtain ⟨⟨b, s, m, k, h, _⟩, _⟩ := plain_law (spb i hi)
    rw [h]; rfl
  refine ⟨fun i j => (fat (rat' rs i) j).getD 0, fun i => (fat bs i).getD 0, ha, hbb, ?_⟩
  have hck : checkF rs = 0 := by
    unfold checkF
    rw [← hn, if_neg (by omega), if_pos, if_pos]
    · rw [List.all_eq_true]
      intro r hr
      obtain ⟨i, hi, rfl⟩ := List.getElem_of_mem hr
      rw [List.all_eq_true]
      intro x hx
      obtain ⟨j, hj, rfl⟩ := List.getElem_of_mem hx
      have e1 : rat' rs i = rs[i] := by unfold rat'; simp [List.getD, hi]
      have hr' := srow i (by omega)
      rw [e1] at hr'
      have := spa i (by omega) j (by omega)
      rw [e1] at this
      have e2 : fat rs[i] j = rs[i][j] := by unfold fat; simp [List.getD, hj]
      rw [e2] at this
      exact plain_fin this
    · rw [List.all_eq_true]
      intro r hr
      obtain ⟨i, hi, rfl⟩ := List.getElem_of_mem hr
      have e1 : rat' rs i = rs[i] := by unfold rat'; simp [List.getD, hi]
      have hr' := srow i (by omega)
      rw [e1] at hr'
      simpa using hr'
  have hlf : listF bs n = 0 := by
    unfold listF
    rw [if_pos sb, if_pos]
    rw [List.all_eq_true]
    intro x hx
    obtain ⟨j, hj, rfl⟩ := List.getElem_of_mem hx
    have := spb j (by omega)
    have e2 : fat bs j = bs[j] := by unfold fat; simp [List.getD, hj]
    rw [e2] at this
    exact plain_fin this
  have hM : ∀ i j, i < n → j < n → M0F rs bs i j = fat (rat' rs i) j := fun i j hi hj => M0F_in (by rw [srow i hi]; exact hj)
  have hMn : ∀ i, i < n → M0F rs bs i n = fat bs i := fun i hi => by
    rw [M0F_rhs (srow i hi)]
    unfold fat
    simp [List.getD, show i < bs.length by omega]
  have hsf : solveFF rs bs = match solvedF n (M0F rs bs) with
      | none => ([], 141)
      | some x => ((List.range n).map x, 0) := by
    unfold solveFF
    rw [if_neg (by simp [hck]), ← hn, if_neg (by simp [hlf])]
    cases solvedF n (M0F rs bs) <;> rfl
  cases hso : solvedF n (M0F rs bs) with
  | none => exact .inl (by rw [hsf, hso])
  | some x =>
    right
    rw [hso] at hsf
    have hfx : ∀ j, j < n → Nu.Fi (x j) := by
      unfold solvedF at hso
      split at hso
      · split at hso
        · rename_i hf
          cases hso
          exact fun j hj => Nu.ffin_fi (hf j hj)
        · cases hso
      · cases hso
    have hx : ∀ j, j < n → x j = some ((x j).getD 0) := fun j hj => by
      obtain ⟨b, s, m, k, h, _⟩ := hfx j hj
      rw [h]; rfl
    have C : OffC n (fun i j => (fat (rat' rs i) j).getD 0) (fun i => (fat bs i).getD 0) (fun j => (x j).getD 0) := by
      refine ⟨s1, s8, fun i j hi hj => ⟨?_, h64 i j _ (ha i j hi hj)⟩, fun i hi => ⟨?_, h64b i _ (hbb i hi)⟩, fun j hj => ⟨?_, solved_64 hso hj _ (hx j hj)⟩⟩
      · rw [← ha i j hi hj]; exact (plain_law (spa i hi j hj)).1
      · rw [← hbb i hi]; exact (plain_law (spb i hi)).1
      · rw [← hx j hj]; exact hfx j hj
    refine ⟨fun j => (x j).getD 0, ?_, C, fun most hm i hi => ?_⟩
    · rw [hsf]
      dsimp only
      refine congrArg (fun l => (l, (0 : Int))) (List.map_congr_left fun j hj => ?_)
      exact hx j (List.mem_range.1 hj)
    · have hq : ∀ i j, i < n → j < n → qA (fun i j => (fat (rat' rs i) j).getD 0) i j = Nu.vq (M0F rs bs i j) := fun i j hi hj => by
        unfold qA
        rw [← ha i j hi hj, hM i j hi hj]
      have hqx : ∀ j, j < n → q1 (fun j => (x j).getD 0) j = Nu.qf x j := fun j hj => by
        unfold q1 Nu.qf
        rw [← hx j hj]
      have hge : ∀ i j, i < n → j < n → Nu.rabs (Nu.vq (M0F rs bs i j)) ≤ Nu.vq (some most) := fun i j hi hj => by
        rw [← hq i j hi hj]; exact hm.ge i j hj hi (.inl hi)
      have hlow : Nu.p2 (-40) ≤ Nu.vq (some most) := by
        obtain ⟨i0, hi0, hnz⟩ := solved_piv s1 hso
        have h1 := hge i0 0 hi0 (by omega)
        rw [hM i0 0 hi0 (by omega)] at h1 hnz
        rcases (plain_law (spa i0 hi0 0 (by omega))).2.2 with h2 | h2
        · exact absurd h2 hnz
        · exact Rat.le_trans h2 h1
      have hhigh : Nu.vq (some most) ≤ Nu.p2 40 := by
        rcases hm.at' with h | ⟨i', j', hi', hj', h⟩
        · rw [h]; exact Rat.le_of_lt (Nu.p2_pos 40)
        · rw [h, hq i' j' hi' hj', hM i' j' hi' hj', Nu.rabs_ab]
          exact (plain_law (spa i' hi' j' hj')).2.1
      obtain ⟨_, h2⟩ := Nu.off_law (n := n) (M := M0F rs bs) (most := Nu.vq (some most)) s8 (fun i j hi hj => ⟨by rw [hM i j hi hj]; exact (plain_law (spa i hi j hj)).1, Nu.rabs_ab.1 (hge i j hi hj)⟩)
        (fun i hi => by rw [hMn i hi]; exact ⟨(plain_law (spb i hi)).1, (plain_law (spb i hi)).2.1⟩) hlow hhigh hso
      have h3 := h2 i hi
      have e1 : rowSum (fun i j => (fat (rat' rs i) j).getD 0) (fun j => (x j).getD 0) i n = Nu.rsum (fun j => Nu.vq (M0F rs bs i j) * Nu.qf x j) n := Nu.rsum_congr fun j hj => by rw [hq i j hi hj, hqx j hj]
      have e2 : sumX (fun j => (x j).getD 0) n = Nu.xs x n := Nu.rsum_congr fun j hj => by rw [hqx j hj]
      rw [e1, e2, ← hbb i hi, ← hMn i hi]
      exact h3
end Go.Proofs.Ytghhanifakllpaa

/- SolveWhole's walk. -/
namespace Go.Proofs.Ytghhanifakllpaa
open Go.Clean
end Go.Proofs.Ytghhanifakllpaa
namespace Go.Clean
variable {P : Program} {call : Caller}
end Go.Clean
namespace Go.Proofs.Ytghhanifakllpaa
open Go.Clean
theorem kn1_alive : kn1 7 [] = some (M.ret (.bool true)) := rfl
/-- A finite float less itself is nought. -/
theorem self_sub {x : F} (h : Nu.Fi x) : fsub x x = fzero := by
  obtain ⟨b, s, m, k, rfl, h1⟩ := h
  show ((Ieee.double.read b).sum (Ieee.double.read b).opposite).map Ieee.double.write = _
  rw [h1]
  show (Ieee.Datum.sum (.number s m k) (.number (!s) m k)).map Ieee.double.write = _
  unfold Ieee.Datum.sum
  dsimp only
  have hz : Ieee.signed s m (k - min k k).toNat + Ieee.signed (!s) m (k - min k k).toNat = 0 := by
    unfold Ieee.signed
    cases s <;> simp <;> omega
  rw [hz]
  cases s <;> rfl
theorem bin_f00 {P : Program} {t : TypeId} {xo yo : Operand} : binX P .neq t xo yo (.float .f64 0) (.float .f64 0) = some (.bool false) := by
  have e := bin_fneq (P := P) (t := t) (xo := xo) (yo := yo) fzero fzero
  rw [show cOf fzero = 0 from by decide, show (fcmp fzero fzero != some .eq) = false from by decide] at e
  exact e
structure WhF (fr : Fr) (va vb v4 : Value) (dt : Int) : Prop where
  n : fr.n = 114
  d : fr.d = []
  f6 : fr.at 6 = va
  f7 : fr.at 7 = vb
  f8 : fr.at 8 = .int .i64 dt
  f11 : fr.at 11 = v4
def hdN (k : Nat) (ρ : Nat → Nat) (i : Nat) : List Value := (List.range i).map (hdr k ρ)
theorem hdN_len (k : Nat) (ρ : Nat → Nat) (i : Nat) : (hdN k ρ i).length = i := by unfold hdN; simp
/-- The copies of rows that are made so far. -/
structure CoM (m m' : Mem) (K : Nat → Nat → Int) (k i : Nat) (vc : Value) (ρ : Nat → Nat) (bc : Nat) : Prop where
  up : Up m m'
  w : WF m'
  gc : Gr m' bc vc (hdN k ρ i)
  rows : ∀ r, r < i → m'.at (ρ r) = some ⟨rowL K r k, 1, true, false⟩ ∧ m.next ≤ ρ r ∧ ρ r < m'.next ∧ ρ r ≠ bc
  dc : 0 < i → m.next ≤ bc
theorem CoM.fm {m m' : Mem} {K : Nat → Nat → Int} {k : Nat} {vc : Value} {ρ : Nat → Nat} {bc : Nat} (hk : 1 ≤ k) (S : CoM m m' K k k vc ρ bc) (h : ∀ i j, -8 ≤ K i j ∧ K i j ≤ 8) : FM m' vc (rowsK K k) := by
  have hl : (rowsK K k).length = k := by simp [rowsK]
  rcases S.gc with ⟨h1, _⟩ | ⟨_, h2, h3, _⟩
  · have := congrArg List.length h1; rw [hdN_len] at this; simp at this; omega
  · rw [hdN_len] at h2
    refine ⟨_, _, by rw [hl]; exact h2, .inr ⟨bc, 0, _, rfl, h3, fun i hi => ?_⟩⟩
    rw [hl] at hi
    obtain ⟨q1, _⟩ := S.rows i hi
    refine ⟨hdr k ρ i, by unfold hdN; simp [hi], ?_⟩
    have hrl : (rat' (rowsK K k) i).length = k := by rw [rat_rowsK hi]; simp
    refine ⟨_, _, by rw [hrl]; rfl, .inr ⟨ρ i, 0, _, rfl, q1, fun j hj => ?_⟩⟩
    rw [hrl] at hj
    rw [fat_rowsK hi hj, fi_no (h i j).1 (h i j).2]
    unfold rowL
    simp [hj]; rfl
def wjI (mB : Mem) (va vb v4 : Value) (d : Int) (k : Nat) (q : Nat) (fr : Fr) (m' : Mem) : Prop := ∃ j, j + q = k ∧ WhF fr va vb v4 d ∧ fr.at 13 = .int .i64 (j : Nat) ∧ Up mB m'
def wiI (m1 : Mem) (va vb v4 : Value) (d : Int) (k j : Nat) (K : Nat → Nat → Int) (q : Nat) (fr : Fr) (m' : Mem) : Prop := ∃ i vc ρ bc, i + q = k ∧ WhF fr va vb v4 d ∧ fr.at 13 = .int .i64 (j : Nat) ∧ fr.at 14 = vc ∧ fr.at 15 = .int .i64 (i : Nat) ∧ CoM m1 m' K k i vc ρ bc
section
set_option maxRecDepth 10000
end
end Go.Proofs.Ytghhanifakllpaa
