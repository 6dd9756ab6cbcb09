/- The law of chapter 8 in the clean executor: a product divided by what has 1 in front. -/
import Derived.Test.YtonmjdhdkkmjlaaQM
namespace Go.Proofs.Ytonmjdhdkkmjlaa
open Go.Clean

section
set_option maxRecDepth 10000
theorem RP.full {m : Mem} {v : Value} {n N : Nat} {c : PG} (h : RP m v n c) (hn : n ≤ N) (hN : 0 < N) (hl : c (N - 1) ≠ g0) : n = N := by
  by_cases h1 : n = N
  · exact h1
  · exact absurd (h.ends (N - 1) (by omega)) hl
theorem cv_lead {a b : PG} {n k : Nat} (hn : 0 < n) (hb : Ends b (k + 1)) : cv a b n (n + k - 1) = gmul (a (n - 1)) (b k) := by
  obtain ⟨i, rfl⟩ : ∃ i, n = i + 1 := ⟨n - 1, by omega⟩
  show gadd (cv a b i (i + 1 + k - 1)) (gmul (a i) (Ytonmjdhdkkmjlaa.up i b (i + 1 + k - 1))) = _
  rw [show i + 1 + k - 1 = i + k by omega, cv_ends hb i (i + k) (by omega), zero_gadd]
  unfold Ytonmjdhdkkmjlaa.up
  rw [if_pos (by omega), Nat.add_sub_cancel_left, Nat.add_sub_cancel]
theorem pw_div (d : Nat) {fr : Fr} {m0 m : Mem} {va vb : Value} {ba na bb nb : Nat} {a b : PG} (hu0 : Up m0 m) (hw : MW m) (ha : OW m va ba na a) (hb : OW m vb bb nb b) (hne : ba ≠ bb) (hb0 : m0.next ≤ bb) (f1 : fr.n = 184) (f2 : fr.d = []) (f14 : fr.at 14 = va) (f15 : fr.at 15 = vb) {Q : Value → Mem → Prop} (hQ : ∀ m', Up m0 m' → Q (.bool true) m') :
    Gives (codeX Try.prog (callN Try.prog known (d + 12)) (sRn 14 (bodyOf Try.f3)) fr) m (fnQ Try.prog [.tmp 12] Q) := by
  have hoka := ha.ok
  have hokb := hb.ok
  obtain ⟨rfl, ⟨cs, gr, hba, hcl⟩, _⟩ := id ha
  obtain ⟨rfl, ⟨cs2, gr2, hbb, hcl2⟩, _⟩ := id hb
  have h7 := hoka.most
  have h0 := hoka.pos
  have k7 := hokb.most
  have k0 := hokb.pos
  have hp := wrap_pred nb k0 (by omega)
  have hbbn := hw bb _ hbb
  refine via (X := .seq (.region _ _ _) _) rfl ?_
  simp [f1, f15, hp, idx_L _ _ _ _ _ _ (show nb - 1 < nb by omega), cx_one]
  refine storeQ_one (cs := cs2) (sz := 1) (gr := gr2) (by simp [hbb]) (by simp) (cells_cx _) (by rw [hcl2.1]; omega) fun m2 n2 _ e2 => ?_
  have hu2 : Up m0 m2 := hu0.wr (b := bb) hb0 hbbn n2 e2
  have hw2 : MW m2 := fun c x hc => by
    rw [n2]
    rw [e2] at hc
    split at hc
    · omega
    · exact hw c x hc
  obtain ⟨k, hk⟩ : ∃ k, nb = k + 1 := ⟨nb - 1, by omega⟩
  have hb1 : OW m2 (.slice (some ⟨bb, 0, none⟩) nb nb) bb nb fun t => if t = k then g1 else b t := by
    refine ⟨rfl, ⟨_, gr2, by rw [e2, if_pos rfl], hcl2.set (by omega) WC.one fun t ht => ?_⟩, k0, k7, fun t ht => ?_, fun t => ?_, ?_⟩
    · rw [show nb - 1 = k by omega]
    · rw [if_neg (by omega)]; exact hokb.ends t ht
    · show NB (if t = k then g1 else b t) 12
      split
      · unfold NB; decide
      · exact hokb.near t
    · show (if nb - 1 = k then g1 else b (nb - 1)) ≠ g0
      rw [if_pos (by omega)]; decide
  have ha1 : OW m2 (.slice (some ⟨ba, 0, none⟩) na na) ba na a := ⟨rfl, ⟨cs, gr, by rw [e2, if_neg hne]; exact hba, hcl⟩, hoka⟩
  have hbk : (fun t => if t = k then g1 else b t) k = g1 := if_pos rfl
  have hrb := hb1.rp
  have hokb1 := hb1.ok
  clear hb1
  generalize (fun t => if t = k then g1 else b t) = b1 at hbk hrb hokb1
  simp [f1, f14, f15]
  refine mul_ok _ hw2 ha1.rp hrb (fun h => by have := hoka.last; rw [h] at this; exact this) (fun h => by have := hokb1.last; rw [h] at this; exact this) (by omega) hoka.small hokb1.small (hoka.conv hokb1) fun m3 vp np hu3 hnp hrp => ?_
  have hnp1 : np = na + k := by
    refine (hrp.full (N := na + k) (by omega) (by omega) ?_)
    rw [cv_lead h0 (by rw [← hk]; exact hokb1.ends), hbk, gmul_one]
    exact hoka.last
  obtain ⟨bp, op, kp, xp, rfl, _⟩ := id hrp.pl
  have hw3 := hu3.wf hw2
  simp [f1, f15, extractX]
  rw [hk] at hrb
  rw [hk]
  refine div_ok _ hw3 hrp hnp1 h0 hoka.ends (hrb.up hw2 hu3) hbk hoka.small hokb1.small (hoka.conv hokb1) fun m4 vq nq vr hu4 hnq hrq hrr => ?_
  have hnq1 : nq = na := hrq.full hnq h0 hoka.last
  subst hnq1
  have hw4 := hu4.wf hw3
  have ha4 : OW m4 (.slice (some ⟨ba, 0, none⟩) nq nq) ba nq a := (ha1.up hw2 hu3).up hw3 hu4
  simp [f1, f14, f15, extractX, -code_seq]
  refine (code_seq _ _ _ _ _).2 ((code_seq _ _ _ _ _).2 (region_hid fun ops hops => ?_))
  have y2 : ∀ fr, yieldX ops fr 2 = boolOf (fr.at 133) := fun fr => by rw [hops]; rfl
  have y6 : ∀ fr, yieldX ops fr 6 = boolOf (fr.at 137) := fun fr => by rw [hops]; rfl
  have y12 : ∀ fr, yieldX ops fr 12 = boolOf (fr.at 143) := fun fr => by rw [hops]; rfl
  clear hops
  iterate 10 (refine (steps_cons _ _ _ _ _ _).2 ?_; simp [f1, f14, -steps_cons, y2, y6, boolOf_bool])
  refine like_ok _ hrq.pl ha4.rp.pl (by omega) fun m5 hs5 => ?_
  simp [f1, -steps_cons]
  iterate 5 (refine (steps_cons _ _ _ _ _ _).2 ?_; simp [f1, f14, -steps_cons, y2, y6, y12, boolOf_bool, cx_zero])
  refine gives_build1 bs_L (cells_cx _) (one_cx _) ?_
  simp [f1, -steps_cons]
  refine (steps_cons _ _ _ _ _ _).2 ?_
  simp [f1, -steps_cons, y12, boolOf_bool]
  have hone : PL (m5.nw ⟨[cx (some 0, some 0)], 1, false, false⟩) (.slice (some ⟨m5.next, 0, none⟩) 1 1) 1 fun _ => g0 := PL.own (gr := false) (ro := false) (cells := [cx (some 0, some 0)]) (by simp) ⟨rfl, fun i hi => ⟨_, by rw [show i = 0 by omega]; rfl, WC.zero⟩⟩
  have hw5 : MW m5 := hs5.mw hw4
  have hup5 : Up m0 (m5.nw ⟨[cx (some 0, some 0)], 1, false, false⟩) := hu2.trans (hu3.trans (hu4.trans (hs5.up.trans (Up.nw _ _))))
  refine like_ok _ ((hrr.keep hs5.2).up hw5 (Up.nw _ _)).pl hone (by omega) fun m6 hs6 => ?_
  simp [f1, -steps_cons]
  iterate 2 (refine (steps_cons _ _ _ _ _ _).2 ?_; simp [f1, f14, -steps_cons, -code_seq, y2, y6, y12, boolOf_bool])
  have hw5' : MW (m5.nw ⟨[cx (some 0, some 0)], 1, false, false⟩) := (Up.nw _ _).wf hw5
  refine via (X := sRn 18 (bodyOf Try.f3)) (by kernel_rfl) (pw_end d (hs6.mw hw5') ((ha4.up hw4 (hs5.up.trans (Up.nw _ _))).up hw5' hs6.up) ?_ ?_ ?_ fun m' hu => hQ m' (hup5.trans (hs6.up.trans hu)))
  · simp [f1]
  · simp [f2]
  · simp [f14]
end
end Go.Proofs.Ytonmjdhdkkmjlaa
