/- The law of poles in the clean executor: poles with residues, put together, have these poles and residues. -/
import Derived.Test.YtonmjdhdkkmjlaaSD
namespace Go.Proofs.Ytonmjdhdkkmjlaa
open Go.Clean

def zC4 (xs : Nat → Int) (i : Nat) : C := (wholeF (xs (4 * i)), wholeF (xs (4 * i + 1)))
def rC4 (xs : Nat → Int) (i : Nat) : C := (wholeF (xs (4 * i + 2)), wholeF (xs (4 * i + 3)))
def zG4 (xs : Nat → Int) (i : Nat) : G := (nine (xs (4 * i)), nine (xs (4 * i + 1)))
def rG4 (xs : Nat → Int) (i : Nat) : G := (nine (xs (4 * i + 2)), nine (xs (4 * i + 3)))
theorem zW4 (xs : Nat → Int) (i : Nat) : WC (zC4 xs i) (zG4 xs i) := ⟨WF.whole _, WF.whole _⟩
theorem rW4 (xs : Nat → Int) (i : Nat) : WC (rC4 xs i) (rG4 xs i) := ⟨WF.whole _, WF.whole _⟩
theorem nine12 (x y : Int) : NB (nine x, nine y) 12 := cs8_near (fun i => if i = 0 then x else y) 0
def Dist (zG : Nat → G) (r : Nat) : Prop := ∀ i j, i < r → j < r → i ≠ j → zG i ≠ zG j
/-- The law's frame as poles are read. -/
structure BF (fr : Fr) (va vp vz : Value) : Prop where
  n : fr.n = 140
  d : fr.d = []
  f0 : fr.at 0 = va
  f3 : fr.at 3 = .bool true
  f4 : fr.at 4 = vp
  f5 : fr.at 5 = vz
def baI (m : Mem) (va : Value) (xs : Nat → Int) (q : Nat) (fr : Fr) (m' : Mem) : Prop := ∃ r vp vz lp lz, r + q = 3 ∧ BF fr va vp vz ∧ fr.at 6 = .int .i64 ((4 * r : Nat) : Int) ∧ Up m m' ∧ GZ m m' vz lz r (zC4 xs) ∧ GP m m' vp lp r (zC4 xs) (rC4 xs) ∧ Dist (zG4 xs) r
def baR (m : Mem) (va : Value) (xs : Nat → Int) (r : Ex × Fr) (m' : Mem) : Prop := (r.1 = .exit 0 ∧ ∃ k vp vz lp lz, k ≤ 3 ∧ BF r.2 va vp vz ∧ Up m m' ∧ GZ m m' vz lz k (zC4 xs) ∧ GP m m' vp lp k (zC4 xs) (rC4 xs) ∧ Dist (zG4 xs) k) ∨ (r.1 = .ret ∧ r.2.d = [] ∧ r.2.at 2 = .bool true ∧ r.2.n = 140 ∧ Up m m')
def bbI (m : Mem) (va vp vz : Value) (k i0 : Nat) (xs : Nat → Int) (q : Nat) (fr : Fr) (m' : Mem) : Prop := ∃ j, j + q = k ∧ BF fr va vp vz ∧ fr.at 6 = .int .i64 (i0 : Int) ∧ fr.at 7 = cx (zC4 xs k) ∧ fr.at 8 = .int .i64 (j : Nat) ∧ Sm m m' ∧ ∀ t, t < j → zG4 xs t ≠ zG4 xs k
def bbR (m : Mem) (va vp vz : Value) (k i0 : Nat) (xs : Nat → Int) (r : Ex × Fr) (m' : Mem) : Prop := (r.1 = .exit 2 ∧ BF r.2 va vp vz ∧ r.2.at 6 = .int .i64 (i0 : Int) ∧ r.2.at 7 = cx (zC4 xs k) ∧ Sm m m' ∧ ∀ t, t < k → zG4 xs t ≠ zG4 xs k) ∨ (r.1 = .ret ∧ r.2.d = [] ∧ r.2.at 2 = .bool true ∧ r.2.n = 140 ∧ Sm m m')
def bcI (m : Mem) (va vp vz w : Value) (k : Nat) (q : Nat) (fr : Fr) (m' : Mem) : Prop := ∃ i, i + q = k ∧ BF fr va vp vz ∧ fr.at 11 = w ∧ fr.at 13 = .int .i64 (i : Nat) ∧ Sm m m'
def bcR (m : Mem) (va vp vz : Value) (r : Ex × Fr) (m' : Mem) : Prop := r.1 = .exit 4 ∧ BF r.2 va vp vz ∧ Sm m m'
/-- How near a residue comes back. -/
theorem back_near {x y : C} {zG : Nat → G} {r : G} {rC : C} {n k : Nat} (hn : n ≤ 3) (hk : k < n) (nz : ∀ i, NB (zG i) 12) (hd : Dist zG n) (hr8 : r.1.natAbs ≤ 8 ∧ r.2.natAbs ≤ 8) (hx : WC x (gmul r (dz zG n k))) (hy : WC y (dz zG n k)) (hr : WC rC r) :
    ∃ s1 s2, RV (fsub (cdiv x y).1 rC.1) s1 ∧ RV (fsub (cdiv x y).2 rC.2) s2 ∧ fle (fabs (fsub (cdiv x y).1 rC.1)) f40 = true ∧ fle (fabs (fsub (cdiv x y).2 rC.2)) f40 = true := by
  have hb : NB (dz zG n k) (2 ^ 40) := nb_of (hs_bn (fun t => (of_bn (oth_nb nz k) (by omega) t).mono (by decide) rfl) (nz k) (by omega)) (by decide)
  obtain ⟨r1, r2, h1, h2, h3, h4⟩ := cdiv_whole hx hy (dz_no hk hd) hr8 hb
  obtain ⟨s1, a1, b1⟩ := off_small h1 hr.1 h3
  obtain ⟨s2, a2, b2⟩ := off_small h2 hr.2 h4
  exact ⟨s1, s2, a1, a2, b1, b2⟩
theorem WC.ceqd {x y : C} {g h : G} (hx : WC x g) (hy : WC y h) : (feq x.1 y.1 && feq x.2 y.2) = decide (g = h) := by
  rw [hx.1.eq hy.1, hx.2.eq hy.2, ← Bool.decide_and]
  congr 1
  exact propext ⟨fun ⟨a, b⟩ => gext a b, fun e => by rw [e]; exact ⟨rfl, rfl⟩⟩
section
set_option maxRecDepth 10000
set_option maxHeartbeats 4000000 in
theorem ratioBack_ok (e : Nat) {m : Mem} {va : Value} {n : Nat} {xs : Nat → Int} (hw : MW m) (hv : IL m va n xs) {Q : Value → Mem → Prop} (hQ : ∀ m', Up m m' → Q (.bool true) m') :
    Gives (callN Try.prog known (e + 14) 5 [va]) m Q := by
  refine gives_fn (nt := 140) rfl Try.func5 rfl rfl rfl (Nat.le_of_ble_eq_true rfl) fun fr hn hd hargs => ?_
  have h0 : fr.at 0 = _ := hargs 0 _ rfl
  clear hargs
  obtain ⟨a, ka, hva, hel⟩ := id hv
  have hlen : lenX Try.prog 22 va = some (.int .i64 n) := by rw [hva]; exact len_I _ _ _
  simp [hn]
  refine (gives_known (g := M.ret (.bool true)) rfl _ _).2 ((gives_ret _ _ _).2 ?_)
  simp [hn]
  refine code_loop_post (baR m va xs) (baI m va xs) 3 (by omega) ⟨0, _, _, [], [], by omega, ⟨by simp [hn], by simp [hd], by simp [h0], by simp, rfl, rfl⟩, by simp, Up.refl m, ⟨rfl, fun i hi => by omega, .inl ⟨rfl, by simp⟩⟩, ⟨PC.nil _ _, .inl ⟨rfl, by simp⟩⟩, fun i j hi => by omega⟩ ?_ ?_
  · clear hn hd h0
    rintro q fr' m' ⟨r, vp, vz, lp, lz, hrq, F, f6, hu, hz, hp, hdi⟩
    have f1 := F.n
    obtain ⟨avp, hvp⟩ := hp.val
    obtain ⟨avz, hvz⟩ := hz.val
    have hlp : lenX Try.prog 54 vp = some (.int .i64 r) := by rw [hvp]; exact len_Q _ _ _
    have hlz : lenX Try.prog 24 vz = some (.int .i64 r) := by rw [hvz]; exact len_L _ _ _
    have w' := hu.wf hw
    obtain ⟨i0, hi0⟩ : ∃ i0, i0 = 4 * r := ⟨_, rfl⟩
    obtain ⟨i1, hi1⟩ : ∃ i1, i1 = 4 * r + 1 := ⟨_, rfl⟩
    obtain ⟨i2, hi2⟩ : ∃ i2, i2 = 4 * r + 2 := ⟨_, rfl⟩
    obtain ⟨i3, hi3⟩ : ∃ i3, i3 = 4 * r + 3 := ⟨_, rfl⟩
    rw [← hi0] at f6
    have hw1 : IntKind.i64.wrap ((i0 : Int) + 1) = (i1 : Int) := by rw [hi0, hi1]; exact wrap_add (4 * r) 1 (by omega)
    have hw2 : IntKind.i64.wrap ((i0 : Int) + 2) = (i2 : Int) := by rw [hi0, hi2]; exact wrap_add (4 * r) 2 (by omega)
    have hw3 : IntKind.i64.wrap ((i0 : Int) + 3) = (i3 : Int) := by rw [hi0, hi3]; exact wrap_add (4 * r) 3 (by omega)
    have hw4 : IntKind.i64.wrap ((i0 : Int) + 4) = ((4 * (r + 1) : Nat) : Int) := by rw [hi0]; exact wrap_add (4 * r) 4 (by omega)
    by_cases hi : i3 < n
    · by_cases hr : r < 3
      · obtain ⟨b0, o0, x0, ha0, hb0, hx0⟩ := hel.resolve_left (by omega)
        have f0' : fr'.at 0 = .slice (some ⟨b0, o0, none⟩) n ka := by rw [F.f0, hva, ha0]
        have hm : m'.at b0 = some x0 := hu.at hb0 hw
        have hb0n : b0 < m.next := hw b0 x0 hb0
        simp [f1, f0', F.f4, F.f5, f6, hlp, hlz, hw3, yieldX, boolOf_bool, hi, show (r : Int) < 3 by omega]
        refine code_draw_dyn (plan := [0, 0, 3, 7, 15, 0, 0, 64, 224, 480, 1023, 2047, 4095]) (by kernel_rfl) ?_
        simp [drawQ, apartAll, apartL, Nat.testBit, f1, f0', f6, hw1, idx_I _ _ _ _ _ _ (show i0 < n by omega), idx_I _ _ _ _ _ _ (show i1 < n by omega), hm, hx0 i0 (by omega), hx0 i1 (by omega), run_small10]
        have hzr : (wholeF (xs i0), wholeF (xs i1)) = zC4 xs r := by rw [hi0, hi1]; rfl
        rw [hzr]
        refine code_loop_post (bbR m' va vp vz r i0 xs) (bbI m' va vp vz r i0 xs) r (by omega) ⟨0, by omega, ⟨by simp [f1], by simp [F.d], by simp [F.f0], by simp [F.f3], by simp [F.f4], by simp [F.f5]⟩, by simp [f6], by simp, by simp, ⟨by simp, fun c => by simp⟩, fun t ht => by omega⟩ ?_ ?_
        · rintro q2 fr2 m2 ⟨j, hjq, F2, k6, k7, k8, hs, hdj⟩
          have k1 := F2.n
          have hwj := wrap_succ j (by omega)
          have hlz2 := hlz
          by_cases hj : j < r
          · obtain ⟨bz, hvb, hbz, _⟩ := hz.2.2.resolve_left (by omega)
            have hbz2 : m2.at bz = some ⟨lz, 1, true, false⟩ := by rw [hs.2]; exact hbz
            have k5 : fr2.at 5 = .slice (some ⟨bz, 0, none⟩) r r := by rw [F2.f5, hvb]
            have hget := hz.2.1 j hj
            have hceq := (zW4 xs j).ceqd (zW4 xs r)
            by_cases hg : zG4 xs j = zG4 xs r
            · rw [decide_eq_true hg] at hceq
              simp [k1, k5, k7, k8, hj, idx_L _ _ _ _ _ _ hj, hbz2, hget, bin_ceq, hceq, F2.f3, -Bool.and_eq_true]
              exact .inr ⟨rfl, by simp [F2.d], by simp, by simp [k1], hs.trans (Sm.rd _ _)⟩
            · rw [decide_eq_false hg] at hceq
              simp [k1, k5, k7, k8, hj, idx_L _ _ _ _ _ _ hj, hbz2, hget, bin_ceq, hceq, hwj, -Bool.and_eq_true]
              refine ⟨q2 - 1, by omega, j + 1, by omega, ⟨by simp [k1], by simp [F2.d], by simp [F2.f0], by simp [F2.f3], by simp [F2.f4], by simp [F2.f5]⟩, by simp [k6], by simp [k7], by simp, hs.trans (Sm.rd _ _), fun t ht => ?_⟩
              by_cases htj : t = j
              · rw [htj]; exact hg
              · exact hdj t (by omega)
          · obtain rfl : j = r := by omega
            simp [k1, F2.f5, k8, hlz]
            exact .inl ⟨rfl, ⟨by simp [k1], by simp [F2.d], by simp [F2.f0], by simp [F2.f3], by simp [F2.f4], by simp [F2.f5]⟩, by simp [k6], by simp [k7], hs, hdj⟩
        · rintro ⟨e2, fr2⟩ m2 (⟨he', F2, k6, k7, hs, hdj⟩ | ⟨he', k2, ka, k1, hs⟩)
          · obtain rfl : e2 = .exit 2 := he'
            simp only at F2 k6 k7
            have k1 := F2.n
            have f02 : fr2.at 0 = .slice (some ⟨b0, o0, none⟩) n ka := by rw [F2.f0, hva, ha0]
            have u2 : Up m m2 := hu.trans hs.up
            have w2 := u2.wf hw
            have hm2 : m2.at b0 = some x0 := by rw [hs.2]; exact hm
            have hz2 : GZ m m2 vz lz r (zC4 xs) := hz.keep fun c l _ => hs.2 c
            have hp2 : GP m m2 vp lp r (zC4 xs) (rC4 xs) := hp.keep fun c l _ => hs.2 c
            simp [k1, k7, F2.f5]
            refine gives_build1 bs_L (cells_cx _) (one_cx _) ?_
            simp [k1]
            have u3 : Up m2 (m2.nw ⟨[cx (zC4 xs r)], 1, false, false⟩) := Up.nw _ _
            refine push_z (m0 := m) (u2.trans u3) hw (hz2.up w2 u3) (by simp) (by omega) fun m4 v4 u4 n4 z4 e4 => ?_
            have w4 := u4.wf hw
            have hp4 : GP m m4 vp lp r (zC4 xs) (rC4 xs) := (hp2.up w2 u3).keep e4
            have hm4 : m4.at b0 = some x0 := u4.at hb0 hw
            simp [k1]
            refine code_draw_dyn (plan := [0, 0, 0, 0, 8, 28, 60, 124, 0, 0, 512, 1792, 3840, 8188, 16380, 32766, 65534, 131071, 262143]) (by kernel_rfl) ?_
            simp [drawQ, apartAll, apartL, Nat.testBit, k1, k7, F2.f4, f02, k6, hw2, hw3, idx_I _ _ _ _ _ _ (show i2 < n by omega), idx_I _ _ _ _ _ _ (show i3 < n by omega), hm4, hx0 i2 (by omega), hx0 i3 (by omega), run_small10]
            have hrr : (wholeF (xs i2), wholeF (xs i3)) = rC4 xs r := by rw [hi2, hi3]; rfl
            rw [hrr]
            refine gives_build1P _ _ ?_
            simp [drawQ, apartAll, apartL, Nat.testBit, k1]
            have u5 : ∀ l, Up m4 ((((m4.lg []).nw ⟨[cx (zC4 xs r), cx (rC4 xs r)], 2, false, false⟩)).lg l) := fun l => (Up.same (by simp) fun c => by simp : Up m4 (m4.lg [])).trans ((Up.nw _ ⟨[cx (zC4 xs r), cx (rC4 xs r)], 2, false, false⟩).trans (Up.same (by simp) fun c => by simp))
            refine push_p (m0 := m) (u4.trans (u5 _)) hw (hp4.up w4 (u5 _)) (by simp) (by omega) fun m6 v6 u6 n6 p6 e6 => ?_
            have w5 := (u4.trans (u5 [])).wf hw
            have w6 := u6.wf hw
            have z6 : GZ m m6 v4 (lz ++ [cx (zC4 xs r)]) (r + 1) (zC4 xs) := by
              refine (z4.up w4 (u5 [])).keep fun c l hc => ?_
              have := e6 c l (by simpa using hc)
              simpa using this
            simp [drawQ, apartAll, apartL, Nat.testBit, k1, k6, hw4]
            have u7 : ∀ l, Up m6 (m6.lg l) := fun l => Up.same (by simp) fun c => by simp
            refine ⟨q - 1, by omega, r + 1, v6, v4, _, _, by omega, ⟨by simp [k1], by simp [F2.d], by simp [F2.f0], by simp [F2.f3], by simp, by simp⟩, by simp, u6.trans (u7 _), z6.up w6 (u7 _), p6.up w6 (u7 _), fun i j hi hj hij => ?_⟩
            by_cases h1 : i = r
            · rw [h1]
              exact fun e => hdj j (by omega) e.symm
            · by_cases h2 : j = r
              · rw [h2]; exact hdj i (by omega)
              · exact hdi i j (by omega) (by omega) hij
          · obtain rfl : e2 = .ret := he'
            simp only at k1 k2 ka
            simp
            exact .inr ⟨rfl, k2, ka, k1, hu.trans hs.up⟩
      · simp [f1, F.f0, F.f4, f6, hlen, hlp, hw3, yieldX, boolOf_bool, hi, show ¬ (r : Int) < 3 by omega]
        exact .inl ⟨rfl, r, vp, vz, lp, lz, by omega, ⟨by simp [f1], by simp [F.d], by simp [F.f0], by simp [F.f3], by simp [F.f4], by simp [F.f5]⟩, hu, hz, hp, hdi⟩
    · simp [f1, F.f0, F.f4, f6, hlen, hlp, hw3, yieldX, boolOf_bool, hi]
      exact .inl ⟨rfl, r, vp, vz, lp, lz, by omega, ⟨by simp [f1], by simp [F.d], by simp [F.f0], by simp [F.f3], by simp [F.f4], by simp [F.f5]⟩, hu, hz, hp, hdi⟩
  · rintro ⟨e1, fr'⟩ m' (⟨he', k, vp, vz, lp, lz, hk3, F, hu, hz, hp, hdi⟩ | ⟨he', f2, fa, f1, hu⟩)
    · obtain rfl : e1 = .exit 0 := he'
      simp only at F
      clear hn hd h0
      have f1 := F.n
      have w' := hu.wf hw
      have nz : ∀ i, NB (zG4 xs i) 12 := fun i => nine12 _ _
      have nr : ∀ i, NB (rG4 xs i) 12 := fun i => nine12 _ _
      obtain ⟨avp, hvp⟩ := hp.val
      have hlp : lenX Try.prog 54 vp = some (.int .i64 k) := by rw [hvp]; exact len_Q _ _ _
      simp [f1, F.f4]
      refine rof_ok _ w' hk3 hp.pol (fun i _ => zW4 xs i) (fun i _ => rW4 xs i) nz nr fun m2 vt vb nt u2 hnt ht hb => ?_
      have U2 := hu.trans u2
      simp [f1, extractX]
      refine store_F ht.pl.one' hb.pl.one' ht.pl.cells hb.pl.cells fun m3 n3 u3 b3 => ?_
      have w2 := u2.wf w'
      have w3 := u3.wf w2
      have d3 : Up m' m3 := u2.trans u3
      obtain ⟨b9, hb9⟩ : ∃ x, x = m2.next := ⟨_, rfl⟩
      rw [← hb9] at b3 ⊢
      simp [f1, F.f5, b3]
      have r3 := Up.rd m3 b9
      have hal : AL m' vz k (zC4 xs) (zG4 xs) := hz.al fun i _ => zW4 xs i
      refine rpoles_ok _ (r3.wf w3) hk3 hnt ((ht.up w2 u3).up w3 r3) ((hb.up w2 u3).up w3 r3) (hal.up w' (d3.trans r3)) nz nr hdi fun m4 w qC u4 hpw hqC => ?_
      have d4 : Up m' m4 := d3.trans (r3.trans u4)
      have w4 := d4.wf w'
      obtain ⟨aw, hww⟩ := hpw.val
      have hlw : lenX Try.prog 54 w = some (.int .i64 k) := by rw [hww]; exact len_Q _ _ _
      have hpp : GP m m4 vp lp k (zC4 xs) (rC4 xs) := hp.up w' d4
      simp [f1, F.f4, extractX, yieldX, boolOf_bool, hlw, hlp]
      refine code_loop_post (bcR m4 va vp vz) (bcI m4 va vp vz w k) k (by omega) ⟨0, by omega, ⟨by simp [f1], by simp [F.d], by simp [F.f0], by simp [F.f3], by simp [F.f4], by simp [F.f5]⟩, by simp, by simp, Sm.refl m4⟩ ?_ ?_
      · clear f1 F
        rintro q fr2 m5 ⟨i, hiq, F, k11, k13, hs⟩
        have f1 := F.n
        by_cases hi : i < k
        · obtain ⟨bp, hvb, hbp, _⟩ := hpp.2.resolve_left (by omega)
          obtain ⟨bq, lq, gq, hwq, hbq, hpq⟩ := hpw.resolve_left (by omega)
          have hbp5 : m5.at bp = some ⟨lp, 2, true, false⟩ := by rw [hs.2]; exact hbp
          have hbq5 : m5.at bq = some ⟨lq, 2, gq, false⟩ := by rw [hs.2]; exact hbq
          have f4' : fr2.at 4 = .slice (some ⟨bp, 0, none⟩) k k := by rw [F.f4, hvb]
          have k11' : fr2.at 11 = .slice (some ⟨bq, 0, none⟩) k k := by rw [k11, hwq]
          obtain ⟨p1, p2⟩ := hpp.1.2 i hi
          obtain ⟨q1, q2⟩ := hpq.2 i hi
          obtain ⟨x, y, hxy, hx, hy⟩ := hqC i hi
          obtain ⟨s1, s2, a1, a2, b1, b2⟩ := back_near hk3 hi nz hdi ⟨nine_abs _, nine_abs _⟩ hx hy (rW4 xs i)
          rw [← hxy] at a1 a2 b1 b2
          have hwi := wrap_succ i (by omega)
          simp [f1, f4', k11', k13, hi, hlp]
          refine code_draw_dyn (plan := [0, 0, 3, 7, 15, 0, 0, 96, 224, 480, 1023, 2047]) (by kernel_rfl) ?_
          simp [drawQ, apartAll, apartL, Nat.testBit, f1, f4', k11', k13, idx_Q _ _ _ _ _ _ hi, hbp5, hbq5, p2, q2, bin_csubR a1 a2]
          refine code_draw_dyn (plan := [0, 0, 3, 7, 15, 0, 0, 96, 224, 480, 1023, 2047, 4095, 8191, 16383, 32767, 65535, 131071, 262143, 524287, 1048575, 2097151, 4194303, 8388607, 16777215]) (by kernel_rfl) ?_
          simp [drawQ, apartAll, apartL, Nat.testBit, f1, f4', k11', k13, idx_Q _ _ _ _ _ _ hi, hbp5, hbq5, p1, q1, bin_cneq_no (zW4 xs i), yieldX, boolOf_bool, run_absF, csub, b1, b2, bin_f40, hwi]
          exact ⟨q - 1, by omega, i + 1, by omega, ⟨by simp [f1], by simp [F.d], by simp [F.f0], by simp [F.f3], by simp [F.f4], by simp [F.f5]⟩, by simp [k11], by simp, hs.trans ⟨by simp, fun c => by simp⟩⟩
        · obtain rfl : i = k := by omega
          simp [f1, F.f4, k13, hlp]
          exact ⟨rfl, ⟨by simp [f1], by simp [F.d], by simp [F.f0], by simp [F.f3], by simp [F.f4], by simp [F.f5]⟩, hs⟩
      · rintro ⟨e2, fr2⟩ m5 ⟨he', F, hs⟩
        obtain rfl : e2 = .exit 4 := he'
        simp only at F
        have f1 := F.n
        simp [f1, F.f3, F.d]
        exact hQ _ (hu.trans (d4.trans hs.up))
    · obtain rfl : e1 = .ret := he'
      simp only at f1 f2 fa
      simp [f2, fa]
      exact hQ _ hu
end
end Go.Proofs.Ytonmjdhdkkmjlaa
