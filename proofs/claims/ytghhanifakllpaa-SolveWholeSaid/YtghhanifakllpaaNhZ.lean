/- Plain: Det and Solve of up to three unknowns. No program in sight. -/
import Derived.Test.YtghhanifakllpaaNeZ
set_option linter.unusedSimpArgs false
set_option linter.unusedVariables false
set_option linter.unusedVariables false
set_option linter.unusedSimpArgs false
namespace Go.Proofs.Ytghhanifakllpaa.Nu
open Ieee

theorem Okm.mono {n : Nat} {M : Mx} {g h g' h' : Rat} (o : Okm n M g h) (a : g ≤ g') (b : h ≤ h') (c : g' ≤ p2 900) (d : h' ≤ p2 900) : Okm n M g' h' :=
  ⟨fun i j hi hj => ⟨(o.el i j hi hj).1, (o.el i j hi hj).2.mono a⟩, fun i hi => ⟨(o.rs i hi).1, (o.rs i hi).2.mono b⟩, Rat.le_trans o.g1 a, c, Rat.le_trans o.h1 b, d⟩
theorem Okm.next {n c : Nat} {S : Mx} {g : Rat} (o : Okm n S g g) (t : Top n S c) (hc : c < n) (g2 : 17 / 8 * g ≤ p2 900) : Okm n (elimM n S c) (17 / 8 * g) (17 / 8 * g) := by
  by_cases h : c + 1 < n
  · exact o.elim t h g2 g2
  · have e : elimM n S c = S := by funext i j; exact elim_last (by omega) i j
    have p0 := p2_pos (-900)
    have p1 := o.g1
    rw [e]
    exact o.mono (by grind) (by grind) g2 g2
theorem dk_ab {n c k : Nat} {M : Mx} {g h : Rat} (o : Okm n M g h) (hk : k ≤ 2) (hc : c + k ≤ n) : Ab (dk k M c) (match k with | 0 => 1 | 1 => g | _ => 2 * (g * g)) := by
  have h2 : k = 0 ∨ k = 1 ∨ k = 2 := by omega
  rcases h2 with rfl | rfl | rfl
  · show Ab 1 1
    unfold Ab; grind
  · exact (o.el c c (by omega) (by omega)).2
  · show Ab (d2 (qm M) c) (2 * (g * g))
    have a1 := (o.el c c (by omega) (by omega)).2.mul (o.el (c + 1) (c + 1) (by omega) (by omega)).2
    have a2 := (o.el c (c + 1) (by omega) (by omega)).2.mul (o.el (c + 1) c (by omega) (by omega)).2
    exact (a1.sub a2).mono (by grind)

/-! ### Det -/
def outD (sb : Sys × Bool) : Option F := match detGo sb.1.piv sb.1.odd fone with
  | none => some fzero
  | some d => if sb.2 && ffin d then some d else none
theorem detF_out (n : Nat) (M : Mx) : detF n M = outD (stepsS n M) := rfl
/-- So far the determinant comes to d. -/
def Inv (s : Sys) (d : F) : Prop := s.piv.length = s.odd.length ∧ detGo s.piv s.odd fone = some d
theorem detGo_snoc (p : F) (o : Bool) : ∀ (ps : List F) (os : List Bool) (d0 d : F), ps.length = os.length → detGo ps os d0 = some d →
    detGo (ps ++ [p]) (os ++ [o]) d0 = if feq p fzero then none else some (if o then fneg (fmul d p) else fmul d p)
  | [], [], d0, d, _, h => by
    have := Option.some.inj h
    subst this
    show (if feq p fzero then none else detGo [] [] _) = _
    split
    · rfl
    · rfl
  | [], _ :: _, _, _, h, _ => by simp at h
  | _ :: _, [], _, _, h, _ => by simp at h
  | q :: ps, b :: os, d0, d, hl, h => by
    show (if feq q fzero then none else detGo (ps ++ [p]) (os ++ [o]) _) = _
    have h' : (if feq q fzero then none else detGo ps os (if b then fneg (fmul d0 q) else fmul d0 q)) = some d := h
    split
    · rename_i hq; rw [if_pos hq] at h'; exact absurd h' (by simp)
    · rename_i hq; rw [if_neg hq] at h'
      exact detGo_snoc p o ps os _ d (by simpa using hl) h'
theorem p900_1001 : p2 900 ≤ p2 1001 := p2_mono (by decide)
section
variable {n : Nat}
theorem det_end {c : Nat} {s : Sys} {d : F} (hi : Inv s d) (hd : Fi d) {D : Rat} (hD : Ab (vq d) D) (hD2 : D ≤ p2 900) :
    ∃ d', outD (goS n 0 c s) = some d' ∧ Fi d' ∧ Ab (vq d' - vq d * dk 0 s.M c) 0 := by
  refine ⟨d, ?_, hd, ?_⟩
  · show outD (s, true) = _
    unfold outD
    simp only [hi.2]
    rw [RV.fin hd.rv (hD.mono (Rat.le_trans hD2 p900_1001))]; rfl
  · show Ab (vq d - vq d * 1) 0
    rw [show vq d - vq d * 1 = 0 by grind]; exact ab_zero (by grind)
theorem det_step {k c : Nat} (hk : k ≤ 2) (hc : c + (k + 1) = n) {g D D' B E E' : Rat} (hg : 17 / 8 * g ≤ p2 900) (hDg : D * g ≤ p2 900) (hD1 : p2 (-900) ≤ D * g)
    (hD' : D * g + 2 * u53 * (D * g) ≤ D') (hB : ∀ M, Okm n M (17 / 8 * g) (17 / 8 * g) → Ab (dk k M (c + 1)) B) (hE : E' + 2 * u53 * (D * g) * B + D * dErr k g ≤ E) (hE0 : 0 ≤ E)
    (ih : ∀ s d, Inv s d → Fi d → Ab (vq d) D' → Okm n s.M (17 / 8 * g) (17 / 8 * g) → ∃ d', outD (goS n k (c + 1) s) = some d' ∧ Fi d' ∧ Ab (vq d' - vq d * dk k s.M (c + 1)) E')
    {s : Sys} {d : F} (hi : Inv s d) (hd : Fi d) (hD : Ab (vq d) D) (o : Okm n s.M g g) :
    ∃ d', outD (goS n (k + 1) c s) = some d' ∧ Fi d' ∧ Ab (vq d' - vq d * dk (k + 1) s.M c) E := by
  have hcn : c < n := by omega
  have hp := pick_lt s.M hcn
  obtain ⟨p, hpe⟩ : ∃ p, p = pick n s.M c := ⟨_, rfl⟩
  rw [← hpe] at hp
  have hsw : dk (k + 1) s.M c = sgo (p != c) * dk (k + 1) (swapM s.M c p) c := dk_swap s.M (by omega) hp.1 (by omega)
  have opv := o.el p c hp.2 hcn
  have hg0 := opv.2.nn
  have hDg0 := Rat.mul_nonneg hD.nn hg0
  have hgb : g ≤ p2 1001 := Rat.le_trans o.g2 p900_1001
  have hu := u_small
  have hu0 := u_nn
  have huD := Rat.mul_nonneg hu0 hDg0
  unfold goS
  rw [← hpe]
  cases hb : bad (s.M p c) with
  | true =>
    have hz := bad_yes hb opv.1 (opv.2.mono hgb)
    have hcol : ∀ i, c ≤ i → i < n → qm s.M i c = 0 := by
      intro i h1 h2
      have hm := pick_max hcn (fun i _ h => (o.el i c h hcn).1) h1 h2
      rw [← hpe, hz] at hm
      have h0 : rabs 0 = 0 := by unfold rabs; grind
      rw [h0] at hm
      have := rabs_ab.1 hm
      unfold Ab at this
      show vq (s.M i c) = 0
      grind
    refine ⟨fzero, ?_, fi_zero.1, ?_⟩
    · simp only [if_true]
      unfold outD
      have e1 : (noteS n c s).piv = s.piv ++ [s.M p c] := by rw [hpe]; rfl
      have e2 : (noteS n c s).odd = s.odd ++ [p != c] := by rw [hpe]; rfl
      simp only [e1, e2]
      rw [detGo_snoc _ _ _ _ _ _ hi.1 hi.2, feq_rv opv.1 fi_zero.1, fi_zero.2, decide_eq_true hz]
      rfl
    · rw [dk_zero hk hcol hc, fi_zero.2]
      rw [show (0 : Rat) - vq d * 0 = 0 by grind]
      exact ab_zero hE0
  | false =>
    simp only [Bool.false_eq_true, if_false]
    have t : Top n (swapM s.M c p) c := by rw [hpe]; exact top_of o hcn (by rw [← hpe]; exact hb)
    have o1 := o.swap hcn hp.2
    have hM : (stepS n c s).M = elimM n (swapM s.M c p) c := by rw [hpe]; rfl
    have o2 := o1.next t hcn hg
    rw [← hM] at o2
    have hpv := bad_no hb
    -- the next product
    have hdp := hD.mul opv.2
    have h900 : p2 900 ≤ p2 1000 := p2_mono (by decide)
    obtain ⟨r, r1, r2⟩ := RV.mul hd.rv opv.1.rv hdp (Rat.le_trans hDg h900)
    obtain ⟨r3, r4⟩ := r1.fi
    have hsm := small_g hD1
    have ht := p2_pos (-1075)
    have r5 : Ab (r - vq d * vq (s.M p c)) (2 * u53 * (D * g)) := r2.ab.mono (by
      unfold e53
      have : p2 (-53) = u53 := rfl
      rw [this]; grind)
    obtain ⟨dn, hdn⟩ : ∃ dn, dn = if (p != c) then fneg (fmul d (s.M p c)) else fmul d (s.M p c) := ⟨_, rfl⟩
    have hdn1 : Fi dn ∧ vq dn = sgo (p != c) * r := by
      rw [hdn]; unfold sgo
      split
      · have := r1.neg.fi
        exact ⟨this.1, by rw [this.2]; grind⟩
      · exact ⟨r3, by rw [r4]; grind⟩
    have hinv : Inv (stepS n c s) dn := by
      have e1 : (stepS n c s).piv = s.piv ++ [s.M p c] := by rw [hpe]; rfl
      have e2 : (stepS n c s).odd = s.odd ++ [p != c] := by rw [hpe]; rfl
      refine ⟨by rw [e1, e2]; simp [hi.1], ?_⟩
      rw [e1, e2, detGo_snoc _ _ _ _ _ _ hi.1 hi.2, feq_rv hpv.1 fi_zero.1, fi_zero.2, decide_eq_false hpv.2, hdn]
      rfl
    have hdn2 : Ab (vq dn) D' := by
      rw [hdn1.2]
      have := (sgo_ab (p != c)).mul (show Ab r D' from by unfold Ab at *; grind)
      exact this.mono (by grind)
    obtain ⟨d', q1, q2, q3⟩ := ih _ dn hinv hdn1.1 hdn2 o2
    refine ⟨d', q1, q2, ?_⟩
    have st := dk_step hk o1 t hc
    rw [← hM] at st
    have bb := hB _ o2
    have ec : qm (swapM s.M c p) c c = vq (s.M p c) := by unfold qm swapM; rw [sw_left]
    rw [ec] at st
    rw [hsw]
    rw [hdn1.2] at q3
    generalize dk k (stepS n c s).M (c + 1) = Δ at *
    generalize dk (k + 1) (swapM s.M c p) c = Δ' at *
    generalize vq (s.M p c) = pv at *
    have hs2 := sgo_ab (p != c)
    generalize sgo (p != c) = σ at *
    have z1 := hs2.mul (r5.mul bb)
    have z2 := hs2.mul (hD.mul st)
    have z3 := (q3.add z1).add z2
    refine (congrArg (fun q => Ab q _) ?_).mpr (z3.mono (C := E) (by grind))
    grind
theorem small900 {q : Rat} (h : q ≤ 10000) : q ≤ p2 900 := by
  have h1 : p2 14 ≤ p2 900 := p2_mono (by decide)
  have h2 : p2 14 = 16384 := p2_nat 14
  rw [h2] at h1; grind
theorem big900 {q : Rat} (h : 1 ≤ q) : p2 (-900) ≤ q := by
  have h1 : p2 (-900) ≤ p2 0 := p2_mono (by decide)
  rw [p2_zero] at h1; grind
theorem det1 {c : Nat} (hc : c + 1 = n) {g : Rat} (g1 : 1 ≤ g) (g2 : g ≤ 289 / 8) {s : Sys} {d : F} (hi : Inv s d) (hd : Fi d) (hD : Ab (vq d) 160) (o : Okm n s.M g g) :
    ∃ d', outD (goS n 1 c s) = some d' ∧ Fi d' ∧ Ab (vq d' - vq d * dk 1 s.M c) (12000 * u53) := by
  have hu := u_small
  have hu0 := u_nn
  have hug := Rat.mul_le_mul_of_nonneg_left g2 hu0
  refine det_step (k := 0) (by omega) hc (D := 160) (D' := 6000) (B := 1) (E' := 0) (g := g) (small900 (by grind)) (small900 (by grind)) (big900 (by grind)) ?_ (fun M o' => dk_ab (k := 0) o' (by omega) (by omega)) ?_ (by grind) (fun s d a b c' o' => det_end a b c' (small900 (by grind))) hi hd hD o
  · grind
  · show 0 + 2 * u53 * (160 * g) * 1 + 160 * 0 ≤ _
    grind
theorem det2' {c : Nat} (hc : c + 2 = n) {g : Rat} (g1 : 1 ≤ g) (g2 : g ≤ 17) {s : Sys} {d : F} (hi : Inv s d) (hd : Fi d) (hD : Ab (vq d) 9) (o : Okm n s.M g g) :
    ∃ d', outD (goS n 2 c s) = some d' ∧ Fi d' ∧ Ab (vq d' - vq d * dk 2 s.M c) (45000 * u53) := by
  have hu := u_small
  have hu0 := u_nn
  have hug := Rat.mul_le_mul_of_nonneg_left g2 hu0
  have hgg := Rat.mul_le_mul_of_nonneg_left g2 (show 0 ≤ g by grind)
  have hugg := Rat.mul_le_mul_of_nonneg_left hgg hu0
  refine det_step (k := 1) (by omega) hc (D := 9) (D' := 160) (B := 17 / 8 * g) (E' := 12000 * u53) (g := g) (small900 (by grind)) (small900 (by grind)) (big900 (by grind)) ?_ (fun M o' => dk_ab (k := 1) o' (by omega) (by omega)) ?_ (by grind) (fun s d a b c' o' => det1 (by omega) (by grind) (by grind) a b c' o') hi hd hD o
  · grind
  · show 12000 * u53 + 2 * u53 * (9 * g) * (17 / 8 * g) + 9 * (8 * u53 * (g * g)) ≤ _
    grind
theorem det3' {c : Nat} (hc : c + 3 = n) {g : Rat} (g1 : 1 ≤ g) (g2 : g ≤ 8) {s : Sys} {d : F} (hi : Inv s d) (hd : Fi d) (hD : Ab (vq d) 1) (o : Okm n s.M g g) :
    ∃ d', outD (goS n 3 c s) = some d' ∧ Fi d' ∧ Ab (vq d' - vq d * dk 3 s.M c) (100000 * u53) := by
  have hu := u_small
  have hu0 := u_nn
  have hug := Rat.mul_le_mul_of_nonneg_left g2 hu0
  have hgg := Rat.mul_le_mul_of_nonneg_left g2 (show 0 ≤ g by grind)
  have hgg0 := Rat.mul_nonneg (show 0 ≤ g by grind) (show 0 ≤ g by grind)
  have hggg := Rat.mul_le_mul_of_nonneg_left g2 hgg0
  have hugg := Rat.mul_le_mul_of_nonneg_left hgg hu0
  have huggg := Rat.mul_le_mul_of_nonneg_left hggg hu0
  refine det_step (k := 2) (by omega) hc (D := 1) (D' := 9) (B := 2 * ((17 / 8 * g) * (17 / 8 * g))) (E' := 45000 * u53) (g := g) (small900 (by grind)) (small900 (by grind)) (big900 (by grind)) ?_ (fun M o' => dk_ab (k := 2) o' (by omega) (by omega)) ?_ (by grind) (fun s d a b c' o' => det2' (by omega) (by grind) (by grind) a b c' o') hi hd hD o
  · grind
  · show 45000 * u53 + 2 * u53 * (1 * g) * (2 * ((17 / 8 * g) * (17 / 8 * g))) + 1 * (60 * u53 * (g * g * g)) ≤ _
    grind
theorem fone_one : Fi fone ∧ vq fone = 1 := by
  have := (WF.rv WF.one).fi
  exact ⟨this.1, this.2⟩
/-- Det is near. -/
theorem det_near {M : Mx} (h1 : 1 ≤ n) (h3 : n ≤ 3) (o : Okm n M 8 8) : ∃ d, detF n M = some d ∧ Fi d ∧ Ab (vq d - dk n M 0) (p2 (-29)) := by
  rw [detF_out]
  have hi : Inv (startS M) fone := ⟨rfl, rfl⟩
  have f1 := fone_one
  have hu0 := u_nn
  have hE : 100000 * u53 ≤ p2 (-29) := by
    have a1 : p2 24 = 16777216 := p2_nat 24
    have a2 : p2 (-29) = p2 24 * u53 := by unfold u53; rw [← p2_add]; rfl
    rw [a2, a1]; grind
  have hc : n = 1 ∨ n = 2 ∨ n = 3 := by omega
  rcases hc with rfl | rfl | rfl
  · obtain ⟨d, q1, q2, q3⟩ := det1 (c := 0) rfl (by grind) (by grind) hi f1.1 (by rw [f1.2]; unfold Ab; grind) o
    rw [f1.2, Rat.one_mul] at q3
    exact ⟨d, q1, q2, q3.mono (by grind)⟩
  · obtain ⟨d, q1, q2, q3⟩ := det2' (c := 0) rfl (by grind) (by grind) hi f1.1 (by rw [f1.2]; unfold Ab; grind) o
    rw [f1.2, Rat.one_mul] at q3
    exact ⟨d, q1, q2, q3.mono (by grind)⟩
  · obtain ⟨d, q1, q2, q3⟩ := det3' (c := 0) rfl (by grind) (by grind) hi f1.1 (by rw [f1.2]; unfold Ab; grind) o
    rw [f1.2, Rat.one_mul] at q3
    exact ⟨d, q1, q2, q3.mono (by grind)⟩

/-! ### The pivots are not small -/
/-- By how much the determinant is greater than the pivot, at the most. -/
def pF (k : Nat) (g : Rat) : Rat := match k with | 0 => 1 | 1 => 2 * g | _ => 6 * (g * g)
theorem dk_piv {k c : Nat} {S : Mx} {g h : Rat} (hk : k ≤ 2) (o : Okm n S g h) (t : Top n S c) (hc : c + (k + 1) = n) : Ab (dk (k + 1) S c) (rabs (qm S c c) * pF k g) := by
  have hcol : ∀ i, c ≤ i → i < n → Ab (vq (S i c)) (rabs (qm S c c)) := fun i h1 h2 => rabs_ab.1 (t.mx i h1 h2)
  have h2 : k = 0 ∨ k = 1 ∨ k = 2 := by omega
  rcases h2 with rfl | rfl | rfl
  · show Ab (qm S c c) (rabs (qm S c c) * 1)
    exact (ab_rabs _).mono (by grind)
  · show Ab (d2 (qm S) c) (rabs (qm S c c) * (2 * g))
    have a1 := (hcol c (by omega) (by omega)).mul (o.el (c + 1) (c + 1) (by omega) (by omega)).2
    have a2 := (o.el c (c + 1) (by omega) (by omega)).2.mul (hcol (c + 1) (by omega) (by omega))
    exact (a1.sub a2).mono (by grind)
  · show Ab (d3 (qm S) c) (rabs (qm S c c) * (6 * (g * g)))
    have e := fun i j (hi : i < n) (hj : j < n) => (o.el i j hi hj).2
    have a1 := (hcol c (by omega) (by omega)).mul (((e (c + 1) (c + 1) (by omega) (by omega)).mul (e (c + 2) (c + 2) (by omega) (by omega))).sub ((e (c + 1) (c + 2) (by omega) (by omega)).mul (e (c + 2) (c + 1) (by omega) (by omega))))
    have a2 := (hcol (c + 1) (by omega) (by omega)).mul (((e c (c + 1) (by omega) (by omega)).mul (e (c + 2) (c + 2) (by omega) (by omega))).sub ((e c (c + 2) (by omega) (by omega)).mul (e (c + 2) (c + 1) (by omega) (by omega))))
    have a3 := (hcol (c + 2) (by omega) (by omega)).mul (((e (c + 1) (c + 1) (by omega) (by omega)).mul (e c (c + 2) (by omega) (by omega))).sub ((e (c + 1) (c + 2) (by omega) (by omega)).mul (e c (c + 1) (by omega) (by omega))))
    exact ((a1.sub a2).sub a3).mono (by grind)
theorem goS_low : ∀ k c s i j, i < c → (goS n k c s).1.M i j = s.M i j := by
  intro k
  induction k with
  | zero => intro c s i j _; rfl
  | succ k ih =>
    intro c s i j hi
    unfold goS
    split
    · rfl
    · rw [ih (c + 1) (stepS n c s) i j (by omega)]
      by_cases hcn : c < n
      · have hp := pick_lt s.M hcn
        show elimM n (swapM s.M c (pick n s.M c)) c i j = _
        unfold elimM
        rw [if_neg (by omega)]
        unfold swapM
        rw [sw_else (by omega) (by omega)]
      · have hp := pickTo_ge s.M c (n - c - 1)
        show elimM n (swapM s.M c (pick n s.M c)) c i j = _
        unfold elimM
        rw [if_neg (by omega)]
        unfold swapM
        rw [sw_else (by omega) (by unfold pick; omega)]
def low : Rat := 1 / 1024
theorem piv_step {k c : Nat} (hk : k ≤ 2) (hc : c + (k + 1) = n) {g L L' : Rat} (hg1 : 0 < g) (hg : 17 / 8 * g ≤ p2 900) (hL : low * pF k g ≤ L) (hL0 : 0 < L) (hLL : L' * g + dErr k g ≤ L)
    (ih : ∀ s, Okm n s.M (17 / 8 * g) (17 / 8 * g) → L' ≤ rabs (dk k s.M (c + 1)) → (goS n k (c + 1) s).2 = true ∧ ∀ i, c + 1 ≤ i → i < n → low ≤ rabs (vq ((goS n k (c + 1) s).1.M i i)))
    {s : Sys} (o : Okm n s.M g g) (hd : L ≤ rabs (dk (k + 1) s.M c)) : (goS n (k + 1) c s).2 = true ∧ ∀ i, c ≤ i → i < n → low ≤ rabs (vq ((goS n (k + 1) c s).1.M i i)) := by
  have hcn : c < n := by omega
  have hp := pick_lt s.M hcn
  obtain ⟨p, hpe⟩ : ∃ p, p = pick n s.M c := ⟨_, rfl⟩
  rw [← hpe] at hp
  have hsw : dk (k + 1) s.M c = sgo (p != c) * dk (k + 1) (swapM s.M c p) c := dk_swap s.M (by omega) hp.1 (by omega)
  have opv := o.el p c hp.2 hcn
  have hgb : g ≤ p2 1001 := Rat.le_trans o.g2 p900_1001
  have o1 := o.swap hcn hp.2
  have hsa : rabs (dk (k + 1) s.M c) = rabs (dk (k + 1) (swapM s.M c p) c) := by
    rw [hsw, rabs_mul]
    have : rabs (sgo (p != c)) = 1 := by unfold rabs sgo; split <;> split <;> grind
    rw [this]; grind
  rw [hsa] at hd
  have hb : bad (s.M p c) = false := by
    cases hb : bad (s.M p c) with
    | false => rfl
    | true =>
      have hz := bad_yes hb opv.1 (opv.2.mono hgb)
      have hcol : ∀ i, c ≤ i → i < n → qm s.M i c = 0 := by
        intro i h1 h2
        have hm := pick_max hcn (fun i _ h => (o.el i c h hcn).1) h1 h2
        rw [← hpe, hz] at hm
        have h0 : rabs 0 = 0 := by unfold rabs; grind
        rw [h0] at hm
        have := rabs_ab.1 hm
        unfold Ab at this
        show vq (s.M i c) = 0
        grind
      rw [← hsa, dk_zero hk hcol hc] at hd
      have h0 : rabs 0 = 0 := by unfold rabs; grind
      rw [h0] at hd
      grind
  have t : Top n (swapM s.M c p) c := by rw [hpe]; exact top_of o hcn (by rw [← hpe]; exact hb)
  have hM : (stepS n c s).M = elimM n (swapM s.M c p) c := by rw [hpe]; rfl
  have o2 := o1.next t hcn hg
  have st := dk_step hk o1 t hc
  have pv := rabs_ab.2 (dk_piv hk o1 t hc)
  have gpiv := rabs_ab.2 (o1.el c c hcn hcn).2
  rw [← hM] at o2 st
  have hpF : 0 < pF k g := by
    have h2 : k = 0 ∨ k = 1 ∨ k = 2 := by omega
    have := Rat.mul_pos hg1 hg1
    rcases h2 with rfl | rfl | rfl
    · show (0 : Rat) < 1; grind
    · show 0 < 2 * g; grind
    · show 0 < 6 * (g * g); grind
  have hlow : low ≤ rabs (qm (swapM s.M c p) c c) := le_of_mul_pos hpF (by grind)
  have hnext : L' ≤ rabs (dk k (stepS n c s).M (c + 1)) := by
    refine le_of_mul_pos hg1 ?_
    have a1 : rabs (dk (k + 1) (swapM s.M c p) c) ≤ rabs (qm (swapM s.M c p) c c * dk k (stepS n c s).M (c + 1)) + dErr k g := by
      rw [rabs_ab]
      have := ab_rabs (qm (swapM s.M c p) c c * dk k (stepS n c s).M (c + 1))
      unfold Ab at *; grind
    rw [rabs_mul] at a1
    have a2 := Rat.mul_le_mul_of_nonneg_right gpiv (rabs_nn (dk k (stepS n c s).M (c + 1)))
    unfold qm at a1
    grind
  obtain ⟨r1, r2⟩ := ih (stepS n c s) o2 hnext
  unfold goS
  rw [← hpe, hb]
  simp only [Bool.false_eq_true, if_false]
  refine ⟨r1, fun i h1 h2 => ?_⟩
  by_cases hi : i = c
  · subst hi
    rw [goS_low k (i + 1) _ i i (by omega), hM]
    have : elimM n (swapM s.M i p) i i i = swapM s.M i p i i := by unfold elimM; rw [if_neg (by omega)]
    rw [this]; exact hlow
  · exact r2 i (by omega) h2
theorem piv1 {c : Nat} (hc : c + 1 = n) {g : Rat} (g1 : 1 ≤ g) (g2 : g ≤ 289 / 8) {s : Sys} (o : Okm n s.M g g) (hd : 1 / 544 ≤ rabs (dk 1 s.M c)) :
    (goS n 1 c s).2 = true ∧ ∀ i, c ≤ i → i < n → low ≤ rabs (vq ((goS n 1 c s).1.M i i)) := by
  refine piv_step (k := 0) (by omega) hc (g := g) (L := 1 / 544) (L' := 0) (by grind) (small900 (by grind)) ?_ (by grind) ?_ (fun s o' _ => ⟨rfl, fun i h1 h2 => by omega⟩) o hd
  · show low * 1 ≤ _
    unfold low; grind
  · show 0 * g + 0 ≤ _
    grind
theorem piv2 {c : Nat} (hc : c + 2 = n) {g : Rat} (g1 : 1 ≤ g) (g2 : g ≤ 17) {s : Sys} (o : Okm n s.M g g) (hd : 1 / 16 ≤ rabs (dk 2 s.M c)) :
    (goS n 2 c s).2 = true ∧ ∀ i, c ≤ i → i < n → low ≤ rabs (vq ((goS n 2 c s).1.M i i)) := by
  have hu := u_small
  have hu0 := u_nn
  have hgg := Rat.mul_le_mul_of_nonneg_left g2 (show 0 ≤ g by grind)
  have hugg := Rat.mul_le_mul_of_nonneg_left hgg hu0
  have hug := Rat.mul_le_mul_of_nonneg_left g2 hu0
  refine piv_step (k := 1) (by omega) hc (g := g) (L := 1 / 16) (L' := 1 / 544) (by grind) (small900 (by grind)) ?_ (by grind) ?_ (fun s o' h => piv1 (by omega) (by grind) (by grind) o' h) o hd
  · show low * (2 * g) ≤ _
    unfold low; grind
  · show 1 / 544 * g + 8 * u53 * (g * g) ≤ _
    grind
theorem piv3 {c : Nat} (hc : c + 3 = n) {g : Rat} (g1 : 1 ≤ g) (g2 : g ≤ 8) {s : Sys} (o : Okm n s.M g g) (hd : 1 ≤ rabs (dk 3 s.M c)) :
    (goS n 3 c s).2 = true ∧ ∀ i, c ≤ i → i < n → low ≤ rabs (vq ((goS n 3 c s).1.M i i)) := by
  have hu := u_small
  have hu0 := u_nn
  have hug := Rat.mul_le_mul_of_nonneg_left g2 hu0
  have hgg := Rat.mul_le_mul_of_nonneg_left g2 (show 0 ≤ g by grind)
  have hgg0 := Rat.mul_nonneg (show 0 ≤ g by grind) (show 0 ≤ g by grind)
  have hggg := Rat.mul_le_mul_of_nonneg_left g2 hgg0
  have hugg := Rat.mul_le_mul_of_nonneg_left hgg hu0
  have huggg := Rat.mul_le_mul_of_nonneg_left hggg hu0
  refine piv_step (k := 2) (by omega) hc (g := g) (L := 1) (L' := 1 / 16) (by grind) (small900 (by grind)) ?_ (by grind) ?_ (fun s o' h => piv2 (by omega) (by grind) (by grind) o' h) o hd
  · show low * (6 * (g * g)) ≤ _
    unfold low; grind
  · show 1 / 16 * g + 60 * u53 * (g * g * g) ≤ _
    grind
theorem piv_all {M : Mx} (h1 : 1 ≤ n) (h3 : n ≤ 3) (o : Okm n M 8 8) (hd : 1 ≤ rabs (dk n M 0)) : (stepsS n M).2 = true ∧ ∀ i, i < n → low ≤ rabs (vq ((stepsS n M).1.M i i)) := by
  have hc : n = 1 ∨ n = 2 ∨ n = 3 := by omega
  rcases hc with rfl | rfl | rfl
  · obtain ⟨a, b⟩ := piv1 (c := 0) (s := startS M) rfl (by grind) (by grind) o (show 1 / 544 ≤ rabs (dk 1 M 0) by grind)
    exact ⟨a, fun i hi => b i (Nat.zero_le _) hi⟩
  · obtain ⟨a, b⟩ := piv2 (c := 0) (s := startS M) rfl (by grind) (by grind) o (show 1 / 16 ≤ rabs (dk 2 M 0) by grind)
    exact ⟨a, fun i hi => b i (Nat.zero_le _) hi⟩
  · obtain ⟨a, b⟩ := piv3 (c := 0) (s := startS M) rfl (by grind) (by grind) o hd
    exact ⟨a, fun i hi => b i (Nat.zero_le _) hi⟩
end
end Go.Proofs.Ytghhanifakllpaa.Nu
