/- Plain: exact speeds as fractions of whole complex numbers; the floats near them. -/
import Derived.Test.YtigbkoadojjajaaGreatWrZ
import Derived.Test.YtigbkoadojjajaaGreatFeZ
set_option linter.unusedSimpArgs false
set_option linter.unusedVariables false
namespace Go.Proofs.YtigbkoadojjajaaGreat
def dd (d : G) : Rat := (d.1 : Rat) * (d.1 : Rat) + (d.2 : Rat) * (d.2 : Rat)
/-- One whole number over another. -/
def tr1 (n d : G) : Rat := ((n.1 : Rat) * (d.1 : Rat) + (n.2 : Rat) * (d.2 : Rat)) / dd d
def tr2 (n d : G) : Rat := ((n.2 : Rat) * (d.1 : Rat) - (n.1 : Rat) * (d.2 : Rat)) / dd d
theorem sq_nn (q : Rat) : 0 ≤ q * q := by
  by_cases h : 0 ≤ q
  · exact Rat.mul_nonneg h h
  · have := Rat.mul_nonneg (show 0 ≤ -q by grind) (show 0 ≤ -q by grind); grind
theorem sq_ge (q : Rat) (h : 1 ≤ rabs q) : 1 ≤ q * q ∧ rabs q ≤ q * q := by
  unfold rabs at *
  split at h
  · have := Rat.mul_le_mul_of_nonneg_left h (show 0 ≤ q by grind); rename_i h0; rw [if_pos h0]; grind
  · have := Rat.mul_le_mul_of_nonneg_left h (show 0 ≤ -q by grind); rename_i h0; rw [if_neg h0]; grind
theorem dd_ge {d : G} (h : d ≠ g0) : 1 ≤ dd d ∧ rabs (d.1 : Rat) ≤ dd d ∧ rabs (d.2 : Rat) ≤ dd d := by
  have s1 := sq_nn (d.1 : Rat)
  have s2 := sq_nn (d.2 : Rat)
  have r0 : rabs 0 = 0 := by unfold rabs; rw [if_pos (by grind)]
  have e0 : ((0 : Int) : Rat) = 0 := rfl
  have h1 : rabs (d.1 : Rat) ≤ (d.1 : Rat) * (d.1 : Rat) := by
    by_cases h1 : d.1 = 0
    · rw [h1, e0, r0]; grind
    · exact (sq_ge _ (one_int_abs h1)).2
  have h2 : rabs (d.2 : Rat) ≤ (d.2 : Rat) * (d.2 : Rat) := by
    by_cases h1 : d.2 = 0
    · rw [h1, e0, r0]; grind
    · exact (sq_ge _ (one_int_abs h1)).2
  unfold dd
  refine ⟨?_, by grind, by grind⟩
  by_cases h3 : d.1 = 0
  · have := (sq_ge _ (one_int_abs fun h4 => h (gext h3 h4))).1; grind
  · have := (sq_ge _ (one_int_abs h3)).1; grind
theorem div_mul {a d : Rat} (h : 1 ≤ d) : a / d * d = a := Rat.div_mul_cancel (by grind)
theorem tr_mul (n : G) {d : G} (h : d ≠ g0) : tr1 n d * dd d = (n.1 : Rat) * (d.1 : Rat) + (n.2 : Rat) * (d.2 : Rat) ∧ tr2 n d * dd d = (n.2 : Rat) * (d.1 : Rat) - (n.1 : Rat) * (d.2 : Rat) := ⟨div_mul (dd_ge h).1, div_mul (dd_ge h).1⟩
theorem cancel_dd {x y d : Rat} (h : 1 ≤ d) (e : x * d = y * d) : x = y := by
  have : (x - y) * d = 0 := by grind
  rcases Rat.mul_eq_zero.1 this with h | h <;> grind
theorem cast_mul {x y z w : G} (h : gmul x y = gmul z w) : (x.1 : Rat) * y.1 - (x.2 : Rat) * y.2 = (z.1 : Rat) * w.1 - (z.2 : Rat) * w.2 ∧ (x.1 : Rat) * y.2 + (x.2 : Rat) * y.1 = (z.1 : Rat) * w.2 + (z.2 : Rat) * w.1 := by
  have h1 : x.1 * y.1 - x.2 * y.2 = z.1 * w.1 - z.2 * w.2 := congrArg Prod.fst h
  have h2 : x.1 * y.2 + x.2 * y.1 = z.1 * w.2 + z.2 * w.1 := congrArg Prod.snd h
  refine ⟨?_, ?_⟩
  · have := congrArg (fun t : Int => (t : Rat)) h1
    simpa only [Rat.intCast_sub, Rat.intCast_mul] using this
  · have := congrArg (fun t : Int => (t : Rat)) h2
    simpa only [Rat.intCast_add, Rat.intCast_mul] using this
theorem tr_eq {P d n B : G} (hd : d ≠ g0) (h : gmul P d = gmul n B) : (P.1 : Rat) = tr1 n d * B.1 - tr2 n d * B.2 ∧ (P.2 : Rat) = tr1 n d * B.2 + tr2 n d * B.1 := by
  obtain ⟨h1, h2⟩ := cast_mul h
  obtain ⟨m1, m2⟩ := tr_mul n hd
  have hD := (dd_ge hd).1
  obtain ⟨x, hx⟩ : ∃ x, x = tr1 n d := ⟨_, rfl⟩
  obtain ⟨y, hy⟩ : ∃ x, x = tr2 n d := ⟨_, rfl⟩
  obtain ⟨D, hDe⟩ : ∃ x, x = dd d := ⟨_, rfl⟩
  rw [← hx, ← hy]
  rw [← hx, ← hDe] at m1
  rw [← hy, ← hDe] at m2
  rw [← hDe] at hD
  have hDd : D = (d.1 : Rat) * (d.1 : Rat) + (d.2 : Rat) * (d.2 : Rat) := hDe
  obtain ⟨n1, hn1⟩ : ∃ x : Rat, x = n.1 := ⟨_, rfl⟩
  obtain ⟨n2, hn2⟩ : ∃ x : Rat, x = n.2 := ⟨_, rfl⟩
  obtain ⟨d1, hd1⟩ : ∃ x : Rat, x = d.1 := ⟨_, rfl⟩
  obtain ⟨d2, hd2⟩ : ∃ x : Rat, x = d.2 := ⟨_, rfl⟩
  obtain ⟨B1, hB1⟩ : ∃ x : Rat, x = B.1 := ⟨_, rfl⟩
  obtain ⟨B2, hB2⟩ : ∃ x : Rat, x = B.2 := ⟨_, rfl⟩
  obtain ⟨P1, hP1⟩ : ∃ x : Rat, x = P.1 := ⟨_, rfl⟩
  obtain ⟨P2, hP2⟩ : ∃ x : Rat, x = P.2 := ⟨_, rfl⟩
  rw [← hn1, ← hn2, ← hd1, ← hd2] at m1 m2
  rw [← hn1, ← hn2, ← hd1, ← hd2, ← hP1, ← hP2, ← hB1, ← hB2] at h1 h2
  rw [← hd1, ← hd2] at hDd
  rw [← hP1, ← hP2, ← hB1, ← hB2]
  refine ⟨cancel_dd hD ?_, cancel_dd hD ?_⟩
  · have e1 : (x * B1 - y * B2) * D = x * D * B1 - y * D * B2 := by grind
    rw [e1, m1, m2, hDd]
    have e2 : P1 * (d1 * d1 + d2 * d2) = (P1 * d1 - P2 * d2) * d1 + (P1 * d2 + P2 * d1) * d2 := by grind
    rw [e2, h1, h2]; grind
  · have e1 : (x * B2 + y * B1) * D = x * D * B2 + y * D * B1 := by grind
    rw [e1, m1, m2, hDd]
    have e2 : P2 * (d1 * d1 + d2 * d2) = (P1 * d2 + P2 * d1) * d1 - (P1 * d1 - P2 * d2) * d2 := by grind
    rw [e2, h1, h2]; grind
theorem tr_le {n d : G} (hd : d ≠ g0) {M : Rat} (h1 : rabs (n.1 : Rat) ≤ M) (h2 : rabs (n.2 : Rat) ≤ M) : rabs (tr1 n d) ≤ 2 * M ∧ rabs (tr2 n d) ≤ 2 * M := by
  obtain ⟨m1, m2⟩ := tr_mul n hd
  obtain ⟨g1, g2, g3⟩ := dd_ge hd
  have hM : 0 ≤ M := Rat.le_trans (rabs_nn _) h1
  have a11 := ab_mul (rabs_ab h1) (rabs_ab g2)
  have a22 := ab_mul (rabs_ab h2) (rabs_ab g3)
  have a21 := ab_mul (rabs_ab h2) (rabs_ab g2)
  have a12 := ab_mul (rabs_ab h1) (rabs_ab g3)
  have key : ∀ x : Rat, Ab (x * dd d) (2 * (M * dd d)) → rabs x ≤ 2 * M := fun x hx => by
    refine Classical.byContradiction fun hn => ?_
    have hgt : 2 * M < rabs x := by grind
    unfold rabs at hgt
    unfold Ab at hx
    split at hgt
    · have := Rat.mul_pos (show 0 < x - 2 * M by grind) (show 0 < dd d by grind)
      grind
    · have := Rat.mul_pos (show 0 < -x - 2 * M by grind) (show 0 < dd d by grind)
      grind
  refine ⟨key _ ?_, key _ ?_⟩
  · rw [m1]; unfold Ab at *; grind
  · rw [m2]; unfold Ab at *; grind
end Go.Proofs.YtigbkoadojjajaaGreat

/- Plain: each element's speed is near the exact one. -/
namespace Go.Proofs.YtigbkoadojjajaaGreat
theorem nb_pow {z : G} (h : NB z 12) : NB (gpow z 0) 1 ∧ NB (gpow z 1) 12 ∧ NB (gpow z 2) 144 ∧ NB (gpow z 3) 1728 := by
  have h0 : NB (gpow z 0) 1 := by show NB g1 1; unfold NB g1; decide
  have h1 : NB (gpow z 1) (1 * 12) := h0.mul h
  have h2 : NB (gpow z 2) (1 * 12 * 12) := h1.mul h
  have h3 : NB (gpow z 3) (1 * 12 * 12 * 12) := h2.mul h
  exact ⟨h0, h1, h2, h3⟩
theorem wc_pow {z : C} {g : G} (hz : WC z g) (hg : NB g 12) : ∀ n, n ≤ 3 → WC (cwh z n) (gpow g n) := by
  have e1 : gpow g 1 = g := by show gmul g1 g = g; rw [one_gmul]
  have e2 : gpow g 2 = gmul g g := by show gmul (gpow g 1) g = _; rw [e1]
  have w2 : WC (cmul z z) (gmul g g) := hz.mul hz (by decide) (by decide) hg hg (by decide)
  intro n hn
  obtain rfl | rfl | rfl | rfl : n = 0 ∨ n = 1 ∨ n = 2 ∨ n = 3 := by omega
  · exact WC.one
  · rw [e1]; exact hz
  · rw [e2]; exact w2
  · show WC (cmul (cmul z z) z) (gmul (gpow g 2) g)
    rw [e2]
    exact w2.mul hz (by decide) (by decide) (hg.mul hg) hg (by decide)
theorem nb_rabs {g : G} {M : Nat} (h : NB g (M : Int)) : rabs (g.1 : Rat) ≤ (M : Rat) ∧ rabs (g.2 : Rat) ≤ (M : Rat) := by
  obtain ⟨h1, h2⟩ := h.parts (by omega)
  rw [Int.toNat_natCast] at h1 h2
  have key : ∀ n : Int, n.natAbs ≤ M → rabs (n : Rat) ≤ (M : Rat) := fun n hn => by
    have e : ((M : Int) : Rat) = (M : Rat) := rfl
    refine ab_rabs ⟨?_, ?_⟩
    · rw [← e]; exact Rat.intCast_le_intCast.2 (by omega)
    · rw [← e, ← Rat.intCast_neg]; exact Rat.intCast_le_intCast.2 (by omega)
  exact ⟨key _ h1, key _ h2⟩
theorem nat_p2' {M k : Nat} (h : M ≤ 2 ^ k) : (M : Rat) ≤ p2 (k : Int) := by
  rw [p2_nat]
  exact Rat.natCast_le_natCast.2 h
def xQ (q : W3) (g : G) : Rat := tr1 (numQ q g) (denQ q g)
def yQ (q : W3) (g : G) : Rat := tr2 (numQ q g) (denQ q g)
theorem nr_self {r e : Rat} (h : 0 ≤ e) : Nr r r e := by unfold Nr; grind
theorem uu_nn (T : Rat) (h : 0 ≤ T) : 0 ≤ 128 * (T * uu) := by
  have := Rat.mul_nonneg h (Rat.le_of_lt uu_pos); grind
theorem tr_one (n : G) : tr1 n g1 = (n.1 : Rat) ∧ tr2 n g1 = (n.2 : Rat) := by
  obtain ⟨h1, h2⟩ := tr_eq (P := n) (n := n) (d := g1) (B := g1) (by decide) rfl
  have e1 : ((g1.1 : Int) : Rat) = 1 := rfl
  have e2 : ((g1.2 : Int) : Rat) = 0 := rfl
  rw [e1, e2] at h1 h2
  constructor <;> grind
theorem whole_sp {w : C} {n : G} (hw : WC w n) (hn : NB n 5184) : (rabs (n.1 : Rat) + rabs (n.2 : Rat) ≤ p2 100) ∧ (rabs (n.1 : Rat) + rabs (n.2 : Rat) = 0 ∨ p2 (-60) ≤ rabs (n.1 : Rat) + rabs (n.2 : Rat)) ∧
    ∃ a b, RV w.1 a ∧ RV w.2 b ∧ Nr a (n.1 : Rat) (128 * ((rabs (n.1 : Rat) + rabs (n.2 : Rat)) * uu)) ∧ Nr b (n.2 : Rat) (128 * ((rabs (n.1 : Rat) + rabs (n.2 : Rat)) * uu)) := by
  have b := nb_rabs (M := 5184) hn
  have p13 := nat_p2' (M := 5184) (k := 13) (by decide)
  have p14 : p2 13 + p2 13 ≤ p2 100 := by
    have h1 := p2_two 13
    have h2 := p2_mono (show (13 + 1 : Int) ≤ 100 by decide)
    grind
  have n1 := rabs_nn (n.1 : Rat)
  have n2 := rabs_nn (n.2 : Rat)
  have e13 : ((13 : Nat) : Int) = 13 := rfl
  rw [e13] at p13
  refine ⟨by grind, ?_, _, _, hw.1.rv, hw.2.rv, nr_self (uu_nn _ (by grind)), nr_self (uu_nn _ (by grind))⟩
  have h1 : p2 (-60) ≤ 1 := by
    have := p2_mono (show (-60 : Int) ≤ 0 by decide)
    rwa [p2_zero] at this
  have r0 : rabs 0 = 0 := by unfold rabs; rw [if_pos (by grind)]
  have e0 : ((0 : Int) : Rat) = 0 := rfl
  by_cases z1 : n.1 = 0
  · by_cases z2 : n.2 = 0
    · left; rw [z1, z2, e0, r0]; grind
    · right; have := one_int_abs z2; grind
  · right; have := one_int_abs z1; grind
/-- What is told of an element's speed. -/
structure QS (q : W3) (g : G) (w : C) : Prop where
  up : rabs (xQ q g) + rabs (yQ q g) ≤ p2 100
  lo : rabs (xQ q g) + rabs (yQ q g) = 0 ∨ p2 (-60) ≤ rabs (xQ q g) + rabs (yQ q g)
  v : ∃ a b, RV w.1 a ∧ RV w.2 b ∧ Nr a (xQ q g) (128 * ((rabs (xQ q g) + rabs (yQ q g)) * uu)) ∧ Nr b (yQ q g) (128 * ((rabs (xQ q g) + rabs (yQ q g)) * uu))
theorem denQ_nz {q : W3} {g : G} (h3 : q.1.k = 3 → q.2.1 ≠ g) : denQ q g ≠ g0 := by
  unfold denQ
  split
  · rename_i h
    exact gpow_nz (gsub_nz fun e => h3 h e.symm) _
  · decide
theorem spd_near {q : W3} {z : C} {g : G} (hq : EQ q) (hz : WC z g) (hg : NB g 6) (h3 : q.1.k = 3 → q.2.1 ≠ g) : QS q g (spdE q.1 z) := by
  have hd : NB (gsub g q.2.1) 12 := (hg.sub (by decide) (by decide) hq.na).mono (by decide) (by decide)
  have hwd : WC (csub z q.1.a) (gsub g q.2.1) := hz.sub hq.wa (A := 12) (by decide) (by decide) hd
  obtain ⟨p0, p1, p2', p3⟩ := nb_pow hd
  rcases hq.ok.kp.three with ⟨h, _, _⟩ | ⟨h, _, hn12⟩ | ⟨h, _, _, hn123⟩
  · have e1 : numQ q g = q.2.2 := if_pos h
    have e2 : denQ q g = g1 := if_neg (by omega)
    have ew : spdE q.1 z = q.1.s := if_pos h
    obtain ⟨w1, w2, w3⟩ := whole_sp hq.ws (hq.ns.mono (by decide) (by decide))
    have ex : xQ q g = (q.2.2.1 : Rat) := by unfold xQ; rw [e1, e2, (tr_one _).1]
    have ey : yQ q g = (q.2.2.2 : Rat) := by unfold yQ; rw [e1, e2, (tr_one _).2]
    rw [ew]
    exact ⟨by rw [ex, ey]; exact w1, by rw [ex, ey]; exact w2, by rw [ex, ey]; exact w3⟩
  · have e1 : numQ q g = gmul q.2.2 (-(q.1.n : Int), 0) := (if_neg (by omega)).trans (if_pos h)
    have e2 : denQ q g = gpow (gsub g q.2.1) (q.1.n + 1) := if_pos h
    have ew : spdE q.1 z = cdiv (cscale q.1.s (iF (-(q.1.n : Int)))) (cwh (csub z q.1.a) (q.1.n + 1)) := (if_neg (by omega)).trans (if_pos h)
    have hnz := denQ_nz h3
    obtain ⟨c1, c2⟩ := scale_wc (k := -(q.1.n : Int)) hq.ws hq.ns (by omega)
    rw [← e1] at c1 c2
    have d1 := wc_pow hwd hd (q.1.n + 1) (by omega)
    rw [← e2] at d1
    have d2 : NB (denQ q g) 1728 := by
      rw [e2]
      obtain h | h : q.1.n + 1 = 2 ∨ q.1.n + 1 = 3 := by omega
      · rw [h]; exact p2'.mono (by decide) (by decide)
      · rw [h]; exact p3
    have bn := nb_rabs (M := 36) c2
    have bd := nb_rabs (M := 1728) d2
    have t := tr_le (n := numQ q g) hnz bn.1 bn.2
    have te := tr_eq (P := numQ q g) (n := numQ q g) hnz rfl
    have hsum : rabs (xQ q g) + rabs (yQ q g) ≤ p2 100 := by
      have h8 := nat_p2' (M := 36) (k := 8) (by decide)
      have e8 : ((8 : Nat) : Int) = 8 := rfl
      have a1 := p2_two 8
      have a2 := p2_two (8 + 1)
      have a3 := p2_mono (show (8 + 1 + 1 : Int) ≤ 100 by decide)
      have b1 := t.1
      have b2 := t.2
      rw [e8] at h8
      show rabs (tr1 _ _) + rabs (tr2 _ _) ≤ _
      grind
    have h60 : ((1728 : Nat) : Rat) ≤ p2 60 := by
      have h8 := nat_p2' (M := 1728) (k := 60) (by decide)
      exact h8
    have hor : (denQ q g).1 ≠ 0 ∨ (denQ q g).2 ≠ 0 := by
      by_cases z1 : (denQ q g).1 = 0
      · exact .inr fun z2 => hnz (gext z1 z2)
      · exact .inl z1
    have hc := cd_rel (t1 := xQ q g) (t2 := yQ q g) (T := rabs (xQ q g) + rabs (yQ q g)) c1.1.rv c1.2.rv d1.1.rv d1.2.rv hor (Rat.le_trans bd.1 h60) (Rat.le_trans bd.2 h60) te.1 te.2 rfl (Rat.le_trans hsum (p2_mono (by decide)))
    rw [ew]
    exact ⟨hsum, hc.2, hc.1⟩
  · have e1 : numQ q g = gmul (gmul q.2.2 ((q.1.n : Int), 0)) (gpow (gsub g q.2.1) (q.1.n - 1)) := (if_neg (by omega)).trans (if_neg (by omega))
    have e2 : denQ q g = g1 := if_neg (by omega)
    have ew : spdE q.1 z = cmul (cscale q.1.s (iF (q.1.n : Int))) (cwh (csub z q.1.a) (q.1.n - 1)) := (if_neg (by omega)).trans (if_neg (by omega))
    obtain ⟨c1, c2⟩ := scale_wc (k := (q.1.n : Int)) hq.ws hq.ns (by omega)
    have d1 := wc_pow hwd hd (q.1.n - 1) (by omega)
    have d2 : NB (gpow (gsub g q.2.1) (q.1.n - 1)) 144 := by
      obtain h | h | h : q.1.n - 1 = 0 ∨ q.1.n - 1 = 1 ∨ q.1.n - 1 = 2 := by omega
      · rw [h]; exact p0.mono (by decide) (by decide)
      · rw [h]; exact p1.mono (by decide) (by decide)
      · rw [h]; exact p2'
    have hm : WC (cmul (cscale q.1.s (iF (q.1.n : Int))) (cwh (csub z q.1.a) (q.1.n - 1))) (numQ q g) := by
      rw [e1]
      exact c1.mul d1 (A := 36) (B := 144) (by decide) (by decide) c2 d2 (by decide)
    have hmn : NB (numQ q g) 5184 := by rw [e1]; exact c2.mul d2
    obtain ⟨w1, w2, w3⟩ := whole_sp hm hmn
    have ex : xQ q g = ((numQ q g).1 : Rat) := by unfold xQ; rw [e2, (tr_one _).1]
    have ey : yQ q g = ((numQ q g).2 : Rat) := by unfold yQ; rw [e2, (tr_one _).2]
    rw [ew]
    exact ⟨by rw [ex, ey]; exact w1, by rw [ex, ey]; exact w2, by rw [ex, ey]; exact w3⟩
end Go.Proofs.YtigbkoadojjajaaGreat

/- Plain: the law of the fraction. -/
namespace Go.Proofs.YtigbkoadojjajaaGreat
def xs (qs : List W3) (g : G) (i : Nat) : Rat := match qs[i]? with
  | some q => xQ q g
  | none => 0
def ys (qs : List W3) (g : G) (i : Nat) : Rat := match qs[i]? with
  | some q => yQ q g
  | none => 0
def es (qs : List W3) : List El := qs.map (·.1)
theorem spds_at {qs : List W3} {z : C} {i : Nat} {q : W3} (h : qs[i]? = some q) : spds (es qs) z i = spdE q.1 z := by
  unfold spds es
  rw [List.getElem?_map, h]; rfl
theorem top_tr {qs : List W3} {g : G} (hq : ∀ q ∈ qs, EQ q) (h3 : ∀ q ∈ qs, q.1.k = 3 → q.2.1 ≠ g) (hl : (rl qs).length ≤ 9) : ∀ j, j ≤ qs.length →
    ((hs 12 (topT qs (rl qs) j) g).1 : Rat) = sumR (xs qs g) j * (prodL g (rl qs)).1 - sumR (ys qs g) j * (prodL g (rl qs)).2 ∧ ((hs 12 (topT qs (rl qs) j) g).2 : Rat) = sumR (xs qs g) j * (prodL g (rl qs)).2 + sumR (ys qs g) j * (prodL g (rl qs)).1
  | 0, _ => by
    have e : hs 12 (topT qs (rl qs) 0) g = g0 := tl_zero fun k _ => rfl
    rw [e]
    have e0 : ((g0.1 : Int) : Rat) = 0 := rfl
    have e1 : ((g0.2 : Int) : Rat) = 0 := rfl
    rw [e0, e1]
    simp only [sumR]
    constructor <;> grind
  | j + 1, hj => by
    obtain ⟨i1, i2⟩ := top_tr hq h3 hl j (by omega)
    have hlt : j < qs.length := by omega
    have hm := List.getElem_mem hlt
    have e : qs[j]? = some qs[j] := List.getElem?_eq_getElem hlt
    have hv := topT_val qs (rl qs) g j (by omega)
    rw [e] at hv
    have hp := partT_val hm (hq _ hm) hl g
    obtain ⟨p1, p2⟩ := tr_eq (denQ_nz (h3 _ hm)) hp
    have c1 : ((hs 12 (topT qs (rl qs) (j + 1)) g).1 : Rat) = ((hs 12 (topT qs (rl qs) j) g).1 : Rat) + ((hs 12 (partT qs[j] (rl qs)) g).1 : Rat) := by rw [hv]; exact Rat.intCast_add _ _
    have c2 : ((hs 12 (topT qs (rl qs) (j + 1)) g).2 : Rat) = ((hs 12 (topT qs (rl qs) j) g).2 : Rat) + ((hs 12 (partT qs[j] (rl qs)) g).2 : Rat) := by rw [hv]; exact Rat.intCast_add _ _
    have ex : xs qs g j = tr1 (numQ qs[j] g) (denQ qs[j] g) := by unfold xs; rw [e]; rfl
    have ey : ys qs g j = tr2 (numQ qs[j] g) (denQ qs[j] g) := by unfold ys; rw [e]; rfl
    rw [c1, c2, i1, i2, p1, p2]
    simp only [sumR]
    rw [ex, ey]
    constructor <;> grind
theorem rl_ne {qs : List W3} {g : G} (h3 : ∀ q ∈ qs, q.1.k = 3 → q.2.1 ≠ g) : ∀ x ∈ rl qs, x.2 ≠ g := fun x hx => by
  obtain ⟨p, hp, rfl, hf⟩ := rootsGo_mem hx
  obtain ⟨q, hq, rfl⟩ := List.mem_map.1 hp
  refine h3 q hq ?_
  refine Classical.byContradiction fun h => hf ?_
  unfold foldsN
  exact if_neg h
theorem sp_all {qs : List W3} {z : C} {g : G} (hq : ∀ q ∈ qs, EQ q) (hz : WC z g) (hg : NB g 6) (h3 : ∀ q ∈ qs, q.1.k = 3 → q.2.1 ≠ g) : ∀ i, i < qs.length → SpW (spds (es qs) z) (xs qs g) (ys qs g) (fun i => rabs (xs qs g i) + rabs (ys qs g i)) i := fun i hi => by
  have e : qs[i]? = some qs[i] := List.getElem?_eq_getElem hi
  have hm := List.getElem_mem hi
  have h := spd_near (hq _ hm) hz hg (h3 _ hm)
  have ex : xs qs g i = xQ qs[i] g := by unfold xs; rw [e]
  have ey : ys qs g i = yQ qs[i] g := by unfold ys; rw [e]
  have ew := spds_at (z := z) e
  exact ⟨rfl, by show rabs _ + rabs _ ≤ _; rw [ex, ey]; exact h.up, by show rabs _ + rabs _ = 0 ∨ _ ≤ rabs _ + rabs _; rw [ex, ey]; exact h.lo, by rw [ew]; show ∃ a b, _ ∧ _ ∧ Nr a _ (128 * ((rabs _ + rabs _) * uu)) ∧ Nr b _ (128 * ((rabs _ + rabs _) * uu)); rw [ex, ey]; exact h.v⟩
theorem fin_rel {x : F} {r t T : Rat} (hx : RV x r) (hn : Nr r t (1000 * (T * uu))) (ht : rabs t ≤ T) (hT2 : T ≤ p2 200) : ffin x = true := by
  refine hx.fin ?_
  have hT0 : 0 ≤ T := Rat.le_trans (rabs_nn t) ht
  have h1 : 1000 * (T * uu) ≤ T := by
    have := Rat.mul_le_mul_of_nonneg_left uu_small hT0
    grind
  have h2 : 2 * T ≤ p2 1001 := by
    have a := p2_two 200
    have b := p2_mono (show (200 + 1 : Int) ≤ 1001 by decide)
    grind
  have h3 := rabs_ab ht
  unfold Nr at hn
  unfold Ab at *
  grind
theorem spd_fin {q : W3} {z : C} {g : G} (hq : EQ q) (hz : WC z g) (hg : NB g 6) (h3 : q.1.k = 3 → q.2.1 ≠ g) : cfin (spdE q.1 z) = true := by
  have h := spd_near hq hz hg h3
  obtain ⟨a, b, r1, r2, n1, n2⟩ := h.v
  have x1 := rabs_nn (xQ q g)
  have x2 := rabs_nn (yQ q g)
  have hu := h.up
  have hT : rabs (xQ q g) + rabs (yQ q g) ≤ p2 200 := Rat.le_trans hu (p2_mono (by decide))
  have hw : ∀ {r t : Rat}, Nr r t (128 * ((rabs (xQ q g) + rabs (yQ q g)) * uu)) → Nr r t (1000 * ((rabs (xQ q g) + rabs (yQ q g)) * uu)) := fun {r t} h => by
    have := Rat.mul_nonneg (show 0 ≤ rabs (xQ q g) + rabs (yQ q g) by grind) (Rat.le_of_lt uu_pos)
    unfold Nr at *
    grind
  unfold cfin
  rw [fin_rel r1 (hw n1) (by grind) hT, fin_rel r2 (hw n2) (by grind) hT]
  rfl
theorem at_ok' {qs : List W3} {z : C} {g : G} (hq : ∀ q ∈ qs, EQ q) (hz : WC z g) (hg : NB g 6) (h3 : ∀ q ∈ qs, q.1.k = 3 → q.2.1 ≠ g) : ∀ e ∈ es qs, e.At z := fun e he => by
  obtain ⟨q, hm, rfl⟩ := List.mem_map.1 he
  refine ⟨(hq q hm).ok, fun h => ?_, spd_fin (hq q hm) hz hg (h3 q hm)⟩
  have hd : NB (gsub g q.2.1) 12 := (hg.sub (by decide) (by decide) (hq q hm).na).mono (by decide) (by decide)
  have hwd : WC (csub z q.1.a) (gsub g q.2.1) := hz.sub (hq q hm).wa (A := 12) (by decide) (by decide) hd
  rw [hwd.nought]
  exact decide_eq_false (gsub_nz fun e => h3 q hm h e.symm)
theorem hs_rabs {n : Nat} {c D : PG} {g : G} (hn : ∀ k, BN (c k) (D k)) (hg : NB g 6) (ht : (hs n D Z6).1 ≤ top) : rabs ((hs n c g).1 : Rat) ≤ p2 60 ∧ rabs ((hs n c g).2 : Rat) ≤ p2 60 := by
  have h := BN.tl (BN.real (B := 6) (by decide) hg) (c := c) (d := D) (n := n) (i := 0) fun k _ => hn _
  have hb : NB (hs n c g) (9007199254740991 : Nat) := h.2.2.mono h.1 ht
  have hb' := nb_rabs hb
  have h8 := nat_p2' (M := 9007199254740991) (k := 60) (by decide)
  exact ⟨Rat.le_trans hb'.1 h8, Rat.le_trans hb'.2 h8⟩
theorem sum_le {qs : List W3} {z : C} {g : G} (hq : ∀ q ∈ qs, EQ q) (hz : WC z g) (hg : NB g 6) (h3 : ∀ q ∈ qs, q.1.k = 3 → q.2.1 ≠ g) (hl : qs.length ≤ 3) : sumR (fun i => rabs (xs qs g i) + rabs (ys qs g i)) qs.length ≤ p2 200 := by
  have h := sp_all hq hz hg h3
  have hp := p2_pos 100
  have key : ∀ k, k ≤ qs.length → sumR (fun i => rabs (xs qs g i) + rabs (ys qs g i)) k ≤ (k : Nat) * p2 100 := by
    intro k
    induction k with
    | zero =>
      intro _
      have e0 : ((0 : Nat) : Rat) = 0 := rfl
      rw [e0]; simp only [sumR]; grind
    | succ k ih =>
      intro hk
      have a1 := ih (by omega)
      have a2 := (h k (by omega)).up
      rw [show (((k + 1 : Nat)) : Rat) = ((k : Nat) : Rat) + 1 from Rat.natCast_add k 1]
      simp only [sumR]; grind
  have h1 := key _ (Nat.le_refl _)
  have h2 : ((qs.length : Nat) : Rat) ≤ ((3 : Nat) : Rat) := Rat.natCast_le_natCast.2 hl
  have e3 : ((3 : Nat) : Rat) = 3 := rfl
  rw [e3] at h2
  have h3 := Rat.mul_le_mul_of_nonneg_right h2 (Rat.le_of_lt hp)
  have a1 := p2_two 100
  have a2 := p2_two (100 + 1)
  have a3 := p2_mono (show (100 + 1 + 1 : Int) ≤ 200 by decide)
  grind
theorem quo_near {qs : List W3} {z : C} {g : G} {u w : C} (hq : ∀ q ∈ qs, EQ q) (hl : qs.length ≤ 3) (hz : WC z g) (hg : NB g 6) (h3 : ∀ q ∈ qs, q.1.k = 3 → q.2.1 ≠ g) (hu : WC u (hs 12 (topT qs (rl qs) qs.length) g)) (hw : WC w (prodL g (rl qs))) :
    ∃ r1 r2, RV (cdiv u w).1 r1 ∧ RV (cdiv u w).2 r2 ∧ Nr r1 (sumR (xs qs g) qs.length) (128 * ((rabs (sumR (xs qs g) qs.length) + rabs (sumR (ys qs g) qs.length)) * uu)) ∧ Nr r2 (sumR (ys qs g) qs.length) (128 * ((rabs (sumR (xs qs g) qs.length) + rabs (sumR (ys qs g) qs.length)) * uu)) := by
  have hl9 := rl_len hq hl
  have hnear := rl_near hq
  obtain ⟨t1, t2⟩ := top_tr hq h3 hl9 qs.length (Nat.le_refl _)
  have hnz := prodL_nz (rl_ne h3)
  have hor : (prodL g (rl qs)).1 ≠ 0 ∨ (prodL g (rl qs)).2 ≠ 0 := by
    by_cases z1 : (prodL g (rl qs)).1 = 0
    · exact .inr fun z2 => hnz (gext z1 z2)
    · exact .inl z1
  have hb := hs_rabs (n := (rl qs).length + 1) (c := ofZ (zf (rl qs)) (rl qs).length) (D := DB) (fun k => ofZ_le (zf_bn hnear) hl9 k) hg (DB_hs _ (by omega))
  rw [hs_list] at hb
  have hT := Rat.le_trans (sumR_ab (fun i => rfl : ∀ i, (fun i => rabs (xs qs g i) + rabs (ys qs g i)) i = rabs (xs qs g i) + rabs (ys qs g i)) qs.length).2.2 (sum_le hq hz hg h3 hl)
  exact (cd_rel (t1 := sumR (xs qs g) qs.length) (t2 := sumR (ys qs g) qs.length) (T := rabs (sumR (xs qs g) qs.length) + rabs (sumR (ys qs g) qs.length)) hu.1.rv hu.2.rv hw.1.rv hw.2.rv hor hb.1 hb.2 t1 t2 rfl hT).1
theorem quot_fin {qs : List W3} {z : C} {g : G} {u w : C} (hq : ∀ q ∈ qs, EQ q) (hl : qs.length ≤ 3) (hz : WC z g) (hg : NB g 6) (h3 : ∀ q ∈ qs, q.1.k = 3 → q.2.1 ≠ g) (hu : WC u (hs 12 (topT qs (rl qs) qs.length) g)) (hw : WC w (prodL g (rl qs))) : cfin (cdiv u w) = true := by
  obtain ⟨a, b, r1, r2, n1, n2⟩ := quo_near hq hl hz hg h3 hu hw
  have hT := Rat.le_trans (sumR_ab (fun i => rfl : ∀ i, (fun i => rabs (xs qs g i) + rabs (ys qs g i)) i = rabs (xs qs g i) + rabs (ys qs g i)) qs.length).2.2 (sum_le hq hz hg h3 hl)
  obtain ⟨X, hX⟩ : ∃ X, X = sumR (xs qs g) qs.length := ⟨_, rfl⟩
  obtain ⟨Y, hY⟩ : ∃ X, X = sumR (ys qs g) qs.length := ⟨_, rfl⟩
  rw [← hX, ← hY] at n1 n2 hT
  have x1 := rabs_nn X
  have x2 := rabs_nn Y
  have hw : ∀ {r t : Rat}, Nr r t (128 * ((rabs X + rabs Y) * uu)) → Nr r t (1000 * ((rabs X + rabs Y) * uu)) := fun {r t} h => by
    have := Rat.mul_nonneg (show 0 ≤ rabs X + rabs Y by grind) (Rat.le_of_lt uu_pos)
    unfold Nr at *
    grind
  unfold cfin
  rw [fin_rel r1 (hw n1) (by grind) hT, fin_rel r2 (hw n2) (by grind) hT]
  rfl
theorem sum_fin {qs : List W3} {z : C} {g : G} (hq : ∀ q ∈ qs, EQ q) (hl : qs.length ≤ 3) (hz : WC z g) (hg : NB g 6) (h3 : ∀ q ∈ qs, q.1.k = 3 → q.2.1 ≠ g) : cfin (sumW (spds (es qs) z) qs.length) = true := by
  have h := sp_all hq hz hg h3
  have hN : ∀ i, (fun i => rabs (xs qs g i) + rabs (ys qs g i)) i = rabs (xs qs g i) + rabs (ys qs g i) := fun _ => rfl
  have hNn : ∀ i, 0 ≤ (fun i => rabs (xs qs g i) + rabs (ys qs g i)) i := fun i => by have := rabs_nn (xs qs g i); have := rabs_nn (ys qs g i); show 0 ≤ rabs _ + rabs _; grind
  have hab := sumR_ab hN qs.length
  have hle := sum_le hq hz hg h3 hl
  by_cases hz0 : ∀ i, i < qs.length → (fun i => rabs (xs qs g i) + rabs (ys qs g i)) i = 0
  · obtain ⟨r1, r2, _⟩ := nought_all h hz0 _ (Nat.le_refl _)
    have p := p2_pos 1001
    unfold cfin
    rw [r1.fin (by unfold Ab; grind), r2.fin (by unfold Ab; grind)]
    rfl
  · have hex : ∃ i, i < qs.length ∧ (fun i => rabs (xs qs g i) + rabs (ys qs g i)) i ≠ 0 := by
      refine Classical.byContradiction fun hn => hz0 fun i hi => ?_
      exact Classical.byContradiction fun h0 => hn ⟨i, hi, h0⟩
    obtain ⟨i, hi, hi0⟩ := hex
    have hlo : p2 (-60) ≤ sumR (fun i => rabs (xs qs g i) + rabs (ys qs g i)) qs.length := by
      rcases (h i hi).lo with h1 | h1
      · exact absurd h1 hi0
      · exact Rat.le_trans h1 (sumR_term hNn hi)
    obtain ⟨⟨a, r1, n1⟩, ⟨b, r2, n2⟩, _⟩ := sums_near hl h hN rfl hlo hle _ (Nat.le_refl _)
    obtain ⟨T, hT⟩ : ∃ T, T = sumR (fun i => rabs (xs qs g i) + rabs (ys qs g i)) qs.length := ⟨_, rfl⟩
    rw [← hT] at n1 n2 hab hle
    have hw : ∀ {r t : Rat}, Nr r t ((133 * (qs.length : Nat)) * (T * uu)) → Nr r t (1000 * (T * uu)) := fun {r t} h => by
      have hT0 : 0 ≤ T := Rat.le_trans (rabs_nn _) hab.1
      have h1 := Rat.mul_nonneg hT0 (Rat.le_of_lt uu_pos)
      have h2 : ((qs.length : Nat) : Rat) ≤ ((3 : Nat) : Rat) := Rat.natCast_le_natCast.2 hl
      have e3 : ((3 : Nat) : Rat) = 3 := rfl
      rw [e3] at h2
      have h4 := Rat.mul_le_mul_of_nonneg_right h2 h1
      unfold Nr at *
      grind
    unfold cfin
    rw [fin_rel r1 (hw n1) hab.1 hle, fin_rel r2 (hw n2) hab.2.1 hle]
    rfl
theorem ab_rel {r t T : Rat} (hn : Nr r t (1000 * (T * uu))) (ht : rabs t ≤ T) (hT2 : T ≤ p2 200) : Ab r (p2 300) := by
  have hT0 : 0 ≤ T := Rat.le_trans (rabs_nn t) ht
  have h1 : 1000 * (T * uu) ≤ T := by
    have := Rat.mul_le_mul_of_nonneg_left uu_small hT0
    grind
  have h2 : 2 * T ≤ p2 300 := by
    have a := p2_two 200
    have b := p2_mono (show (200 + 1 : Int) ≤ 300 by decide)
    grind
  have h3 := rabs_ab ht
  unfold Nr at hn
  unfold Ab at *
  grind
theorem quo_rv {qs : List W3} {z : C} {g : G} {u w : C} (hq : ∀ q ∈ qs, EQ q) (hl : qs.length ≤ 3) (hz : WC z g) (hg : NB g 6) (h3 : ∀ q ∈ qs, q.1.k = 3 → q.2.1 ≠ g) (hu : WC u (hs 12 (topT qs (rl qs) qs.length) g)) (hw : WC w (prodL g (rl qs))) :
    ∃ a b, RV (cdiv u w).1 a ∧ RV (cdiv u w).2 b ∧ Ab a (p2 300) ∧ Ab b (p2 300) := by
  obtain ⟨a, b, r1, r2, n1, n2⟩ := quo_near hq hl hz hg h3 hu hw
  have hT := Rat.le_trans (sumR_ab (fun i => rfl : ∀ i, (fun i => rabs (xs qs g i) + rabs (ys qs g i)) i = rabs (xs qs g i) + rabs (ys qs g i)) qs.length).2.2 (sum_le hq hz hg h3 hl)
  obtain ⟨X, hX⟩ : ∃ X, X = sumR (xs qs g) qs.length := ⟨_, rfl⟩
  obtain ⟨Y, hY⟩ : ∃ X, X = sumR (ys qs g) qs.length := ⟨_, rfl⟩
  rw [← hX, ← hY] at n1 n2 hT
  have x1 := rabs_nn X
  have x2 := rabs_nn Y
  have hw : ∀ {r t : Rat}, Nr r t (128 * ((rabs X + rabs Y) * uu)) → Nr r t (1000 * ((rabs X + rabs Y) * uu)) := fun {r t} h => by
    have := Rat.mul_nonneg (show 0 ≤ rabs X + rabs Y by grind) (Rat.le_of_lt uu_pos)
    unfold Nr at *
    grind
  exact ⟨a, b, r1, r2, ab_rel (hw n1) (by grind) hT, ab_rel (hw n2) (by grind) hT⟩
theorem sum_rv {qs : List W3} {z : C} {g : G} (hq : ∀ q ∈ qs, EQ q) (hl : qs.length ≤ 3) (hz : WC z g) (hg : NB g 6) (h3 : ∀ q ∈ qs, q.1.k = 3 → q.2.1 ≠ g) : ∃ a b, RV (sumW (spds (es qs) z) qs.length).1 a ∧ RV (sumW (spds (es qs) z) qs.length).2 b ∧ Ab a (p2 300) ∧ Ab b (p2 300) := by
  have h := sp_all hq hz hg h3
  have hN : ∀ i, (fun i => rabs (xs qs g i) + rabs (ys qs g i)) i = rabs (xs qs g i) + rabs (ys qs g i) := fun _ => rfl
  have hNn : ∀ i, 0 ≤ (fun i => rabs (xs qs g i) + rabs (ys qs g i)) i := fun i => by have := rabs_nn (xs qs g i); have := rabs_nn (ys qs g i); show 0 ≤ rabs _ + rabs _; grind
  have hab := sumR_ab hN qs.length
  have hle := sum_le hq hz hg h3 hl
  by_cases hz0 : ∀ i, i < qs.length → (fun i => rabs (xs qs g i) + rabs (ys qs g i)) i = 0
  · obtain ⟨r1, r2, _⟩ := nought_all h hz0 _ (Nat.le_refl _)
    have p := p2_pos 300
    exact ⟨0, 0, r1, r2, by unfold Ab; grind, by unfold Ab; grind⟩
  · have hex : ∃ i, i < qs.length ∧ (fun i => rabs (xs qs g i) + rabs (ys qs g i)) i ≠ 0 := by
      refine Classical.byContradiction fun hn => hz0 fun i hi => ?_
      exact Classical.byContradiction fun h0 => hn ⟨i, hi, h0⟩
    obtain ⟨i, hi, hi0⟩ := hex
    have hlo : p2 (-60) ≤ sumR (fun i => rabs (xs qs g i) + rabs (ys qs g i)) qs.length := by
      rcases (h i hi).lo with h1 | h1
      · exact absurd h1 hi0
      · exact Rat.le_trans h1 (sumR_term hNn hi)
    obtain ⟨⟨a, r1, n1⟩, ⟨b, r2, n2⟩, _⟩ := sums_near hl h hN rfl hlo hle _ (Nat.le_refl _)
    obtain ⟨T, hT⟩ : ∃ T, T = sumR (fun i => rabs (xs qs g i) + rabs (ys qs g i)) qs.length := ⟨_, rfl⟩
    rw [← hT] at n1 n2 hab hle
    have hw : ∀ {r t : Rat}, Nr r t ((133 * (qs.length : Nat)) * (T * uu)) → Nr r t (1000 * (T * uu)) := fun {r t} h => by
      have hT0 : 0 ≤ T := Rat.le_trans (rabs_nn _) hab.1
      have h1 := Rat.mul_nonneg hT0 (Rat.le_of_lt uu_pos)
      have h2 : ((qs.length : Nat) : Rat) ≤ ((3 : Nat) : Rat) := Rat.natCast_le_natCast.2 hl
      have e3 : ((3 : Nat) : Rat) = 3 := rfl
      rw [e3] at h2
      have h4 := Rat.mul_le_mul_of_nonneg_right h2 h1
      unfold Nr at *
      grind
    exact ⟨a, b, r1, r2, ab_rel (hw n1) hab.1 hle, ab_rel (hw n2) hab.2.1 hle⟩
theorem off_rv {qs : List W3} {z : C} {g : G} {u w : C} (hq : ∀ q ∈ qs, EQ q) (hl : qs.length ≤ 3) (hz : WC z g) (hg : NB g 6) (h3 : ∀ q ∈ qs, q.1.k = 3 → q.2.1 ≠ g) (hu : WC u (hs 12 (topT qs (rl qs) qs.length) g)) (hw : WC w (prodL g (rl qs))) :
    ∃ r s, RV (fsub (cdiv u w).1 (sumW (spds (es qs) z) qs.length).1) r ∧ RV (fsub (cdiv u w).2 (sumW (spds (es qs) z) qs.length).2) s := by
  obtain ⟨a, b, r1, r2, a1, a2⟩ := quo_rv hq hl hz hg h3 hu hw
  obtain ⟨c, d, s1, s2, b1, b2⟩ := sum_rv hq hl hz hg h3
  have h301 : 2 * p2 300 ≤ p2 1000 := by
    have a := p2_two 300
    have b := p2_mono (show (300 + 1 : Int) ≤ 1000 by decide)
    grind
  obtain ⟨r, hr, _⟩ := RV.sub r1 s1 (B := 2 * p2 300) (by unfold Ab at *; grind) h301
  obtain ⟨s, hs, _⟩ := RV.sub r2 s2 (B := 2 * p2 300) (by unfold Ab at *; grind) h301
  exact ⟨r, s, hr, hs⟩
def t40 : F := some 4427038433705197568
theorem rv_t40 : RV t40 (p2 (-40)) := by
  refine ⟨4427038433705197568, false, 4503599627370496, -92, rfl, by decide, ?_⟩
  unfold nv sg
  have e : ((4503599627370496 : Nat) : Rat) = p2 52 := by
    have := p2_nat 52
    rw [show ((52 : Nat) : Int) = 52 from rfl] at this
    rw [this]
  rw [e, ← p2_add]
  simp only [Bool.false_eq_true, if_false]
  rw [show (52 + -92 : Int) = -40 by decide]
  grind
theorem law_plain {qs : List W3} {z : C} {g : G} {u w : C} (hq : ∀ q ∈ qs, EQ q) (hl : qs.length ≤ 3) (hz : WC z g) (hg : NB g 6) (h3 : ∀ q ∈ qs, q.1.k = 3 → q.2.1 ≠ g) (hu : WC u (hs 12 (topT qs (rl qs) qs.length) g)) (hw : WC w (prodL g (rl qs))) :
    fle (fabs (fsub (cdiv u w).1 (sumW (spds (es qs) z) qs.length).1)) (fmul (mostW (spds (es qs) z) qs.length) t40) = true ∧ fle (fabs (fsub (cdiv u w).2 (sumW (spds (es qs) z) qs.length).2)) (fmul (mostW (spds (es qs) z) qs.length) t40) = true :=
  off_near hl (sp_all hq hz hg h3) (fun _ => rfl) rfl (quo_near hq hl hz hg h3 hu hw) rv_t40
end Go.Proofs.YtigbkoadojjajaaGreat
