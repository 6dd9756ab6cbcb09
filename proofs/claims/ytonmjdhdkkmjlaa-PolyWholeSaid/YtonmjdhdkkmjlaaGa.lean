/- Plain: whole complex numbers in floats, exactly; how great they are. No program in sight. -/
import Derived.Test.YtonmjdhdkkmjlaaWh
set_option linter.unusedVariables false
set_option linter.unusedSimpArgs false
namespace Go.Proofs.Ytonmjdhdkkmjlaa

abbrev C := F × F
abbrev G := Int × Int
def cadd (x y : C) : C := (fadd x.1 y.1, fadd x.2 y.2)
def csub (x y : C) : C := (fsub x.1 y.1, fsub x.2 y.2)
def cmul (x y : C) : C := (fsub (fmul x.1 y.1) (fmul x.2 y.2), fadd (fmul x.1 y.2) (fmul x.2 y.1))
def cneg (x : C) : C := (fneg x.1, fneg x.2)
def gadd (x y : G) : G := (x.1 + y.1, x.2 + y.2)
def gsub (x y : G) : G := (x.1 - y.1, x.2 - y.2)
def gmul (x y : G) : G := (x.1 * y.1 - x.2 * y.2, x.1 * y.2 + x.2 * y.1)
def gneg (x : G) : G := (-x.1, -x.2)
def WC (z : C) (g : G) : Prop := WF z.1 g.1 ∧ WF z.2 g.2
/-- No farther from nothing than A. -/
def NB (g : G) (A : Int) : Prop := g.1 * g.1 + g.2 * g.2 ≤ A * A
theorem sq_le {a A : Int} (hA : 0 ≤ A) (h : a * a ≤ A * A) : a ≤ A ∧ -A ≤ a := by
  constructor
  · by_cases h1 : a ≤ A
    · exact h1
    · exfalso
      have h2 : A + 1 ≤ a := by omega
      have : (A + 1) * (A + 1) ≤ a * a := Int.mul_le_mul h2 h2 (by omega) (by omega)
      grind
  · by_cases h1 : -A ≤ a
    · exact h1
    · exfalso
      have h2 : A + 1 ≤ -a := by omega
      have : (A + 1) * (A + 1) ≤ -a * -a := Int.mul_le_mul h2 h2 (by omega) (by omega)
      grind
theorem sq_nonneg (a : Int) : 0 ≤ a * a := by
  rcases Int.le_total 0 a with h | h
  · exact Int.mul_nonneg h h
  · exact Int.mul_nonneg_of_nonpos_of_nonpos h h
theorem NB.parts {g : G} {A : Int} (hA : 0 ≤ A) (h : NB g A) : g.1.natAbs ≤ A.toNat ∧ g.2.natAbs ≤ A.toNat := by
  unfold NB at h
  have h1 := sq_nonneg g.1
  have h2 := sq_nonneg g.2
  obtain ⟨a1, a2⟩ := sq_le hA (show g.1 * g.1 ≤ A * A by omega)
  obtain ⟨b1, b2⟩ := sq_le hA (show g.2 * g.2 ≤ A * A by omega)
  omega
theorem NB.mono {g : G} {A B : Int} (hA : 0 ≤ A) (h : NB g A) (hAB : A ≤ B) : NB g B := by
  unfold NB at *
  have := Int.mul_le_mul hAB hAB hA (by omega)
  omega
theorem NB.mul {g h : G} {A B : Int} (hg : NB g A) (hh : NB h B) : NB (gmul g h) (A * B) := by
  unfold NB gmul at *
  have e : (g.1 * h.1 - g.2 * h.2) * (g.1 * h.1 - g.2 * h.2) + (g.1 * h.2 + g.2 * h.1) * (g.1 * h.2 + g.2 * h.1) = (g.1 * g.1 + g.2 * g.2) * (h.1 * h.1 + h.2 * h.2) := by grind
  have e2 : A * B * (A * B) = (A * A) * (B * B) := by grind
  rw [e, e2]
  have h1 := sq_nonneg h.1
  have h2 := sq_nonneg h.2
  exact Int.mul_le_mul hg hh (by omega) (sq_nonneg A)
theorem NB.neg {g : G} {A : Int} (h : NB g A) : NB (gneg g) A := by
  unfold NB gneg at *
  rw [Int.neg_mul_neg, Int.neg_mul_neg]
  exact h
theorem NB.add {g h : G} {A B : Int} (hA : 0 ≤ A) (hB : 0 ≤ B) (hg : NB g A) (hh : NB h B) : NB (gadd g h) (A + B) := by
  have hd : (g.1 * h.1 + g.2 * h.2) * (g.1 * h.1 + g.2 * h.2) ≤ (A * B) * (A * B) := by
    have e : (g.1 * h.1 + g.2 * h.2) * (g.1 * h.1 + g.2 * h.2) + (g.1 * h.2 - g.2 * h.1) * (g.1 * h.2 - g.2 * h.1) = (g.1 * g.1 + g.2 * g.2) * (h.1 * h.1 + h.2 * h.2) := by grind
    have e2 : A * B * (A * B) = (A * A) * (B * B) := by grind
    have h1 := sq_nonneg h.1
    have h2 := sq_nonneg h.2
    have h3 : (g.1 * g.1 + g.2 * g.2) * (h.1 * h.1 + h.2 * h.2) ≤ (A * A) * (B * B) := Int.mul_le_mul hg hh (by omega) (sq_nonneg A)
    have h4 := sq_nonneg (g.1 * h.2 - g.2 * h.1)
    omega
  obtain ⟨h1, _⟩ := sq_le (Int.mul_nonneg hA hB) hd
  unfold NB gadd at *
  have e : (g.1 + h.1) * (g.1 + h.1) + (g.2 + h.2) * (g.2 + h.2) = (g.1 * g.1 + g.2 * g.2) + (h.1 * h.1 + h.2 * h.2) + 2 * (g.1 * h.1 + g.2 * h.2) := by grind
  have e2 : (A + B) * (A + B) = A * A + B * B + 2 * (A * B) := by grind
  show (g.1 + h.1) * (g.1 + h.1) + (g.2 + h.2) * (g.2 + h.2) ≤ _
  rw [e, e2]
  omega
theorem NB.sub {g h : G} {A B : Int} (hA : 0 ≤ A) (hB : 0 ≤ B) (hg : NB g A) (hh : NB h B) : NB (gsub g h) (A + B) := by
  have := NB.add hA hB hg hh.neg
  have e : gadd g (gneg h) = gsub g h := by unfold gadd gneg gsub; simp [Int.sub_eq_add_neg]
  rwa [e] at this

def top : Int := 9007199254740991
theorem WC.add {x y : C} {g h : G} {A : Int} (hx : WC x g) (hy : WC y h) (hA : 0 ≤ A) (hA2 : A ≤ top) (hn : NB (gadd g h) A) : WC (cadd x y) (gadd g h) := by
  obtain ⟨h1, h2⟩ := hn.parts hA
  unfold top at hA2
  exact ⟨hx.1.add hy.1 (by show (gadd g h).1.natAbs < _; omega), hx.2.add hy.2 (by show (gadd g h).2.natAbs < _; omega)⟩
theorem WC.sub {x y : C} {g h : G} {A : Int} (hx : WC x g) (hy : WC y h) (hA : 0 ≤ A) (hA2 : A ≤ top) (hn : NB (gsub g h) A) : WC (csub x y) (gsub g h) := by
  obtain ⟨h1, h2⟩ := hn.parts hA
  unfold top at hA2
  exact ⟨hx.1.sub hy.1 (by show (gsub g h).1.natAbs < _; omega), hx.2.sub hy.2 (by show (gsub g h).2.natAbs < _; omega)⟩
theorem WC.neg {x : C} {g : G} (hx : WC x g) : WC (cneg x) (gneg g) := ⟨hx.1.neg, hx.2.neg⟩
theorem part_mul {a b A B : Int} (hA : 0 ≤ A) (hB : 0 ≤ B) (ha : a.natAbs ≤ A.toNat) (hb : b.natAbs ≤ B.toNat) (hAB : A * B ≤ top) : (a * b).natAbs < 9007199254740992 := by
  rw [Int.natAbs_mul]
  have h1 : a.natAbs * b.natAbs ≤ A.toNat * B.toNat := Nat.mul_le_mul ha hb
  have h2 : ((A.toNat * B.toNat : Nat) : Int) = A * B := by rw [Int.natCast_mul, Int.toNat_of_nonneg hA, Int.toNat_of_nonneg hB]
  unfold top at hAB
  omega
theorem WC.mul {x y : C} {g h : G} {A B : Int} (hx : WC x g) (hy : WC y h) (hA : 0 ≤ A) (hB : 0 ≤ B) (hg : NB g A) (hh : NB h B) (hAB : A * B ≤ top) : WC (cmul x y) (gmul g h) := by
  obtain ⟨g1, g2⟩ := hg.parts hA
  obtain ⟨h1, h2⟩ := hh.parts hB
  obtain ⟨p1, p2⟩ := (hg.mul hh).parts (Int.mul_nonneg hA hB)
  have hAB2 := hAB
  unfold top at hAB2
  have hnn := Int.mul_nonneg hA hB
  exact ⟨(hx.1.mul hy.1 (part_mul hA hB g1 h1 hAB)).sub (hx.2.mul hy.2 (part_mul hA hB g2 h2 hAB)) (by show (gmul g h).1.natAbs < _; omega),
    (hx.1.mul hy.2 (part_mul hA hB g1 h2 hAB)).add (hx.2.mul hy.1 (part_mul hA hB g2 h1 hAB)) (by show (gmul g h).2.natAbs < _; omega)⟩
end Go.Proofs.Ytonmjdhdkkmjlaa
