/- Polynomials in the clean executor: a product divided by what has 1 in front. -/
import Derived.Test.YtonmjdhdkkmjlaaQH
namespace Go.Proofs.Ytonmjdhdkkmjlaa
open Go.Clean

section
set_option maxRecDepth 10000
structure DF (fr : Fr) (vb : Value) (n la k br bq : Nat) : Prop where
  fn : fr.n = 111
  fd : fr.d = []
  a1 : fr.at 1 = vb
  a4 : fr.at 4 = .slice (some ⟨bq, 0, none⟩) la la
  a5 : fr.at 5 = .slice (some ⟨br, 0, none⟩) n n
  a8 : fr.at 8 = .int .i64 (k : Nat)
structure DM (m m' : Mem) (br bq n la : Nat) (R S : PG) : Prop where
  up : Up m m'
  br1 : m.next ≤ br
  bq1 : m.next ≤ bq
  ne : br ≠ bq
  br2 : br < m'.next
  bq2 : bq < m'.next
  ex : ∃ cr cq, m'.at br = some ⟨cr, 1, true, false⟩ ∧ m'.at bq = some ⟨cq, 1, false, false⟩ ∧ CL cr n R ∧ CL cq la S
theorem DM.keep {m m' m2 : Mem} {br bq n la : Nat} {R S R' : PG} (h : DM m m' br bq n la R S) (hs : Sm m' m2) (he : ∀ t, t < n → R' t = R t) : DM m m2 br bq n la R' S := by
  obtain ⟨h1, h2, h3, h4, h5, h6, cr, cq, q1, q2, q3, q4⟩ := h
  exact ⟨h1.trans hs.up, h2, h3, h4, by rw [hs.1]; exact h5, by rw [hs.1]; exact h6, cr, cq, by rw [hs.2]; exact q1, by rw [hs.2]; exact q2, q3.congr fun t ht => (he t ht).symm, q4⟩
/-- The rest with q rows left; those of the quotient that are there. -/
def rst (a b : PG) (k q : Nat) : PG := fun t => if t < q + k then cv a b q t else a (t - k)
def quo (a : PG) (q : Nat) : PG := fun t => if q ≤ t then a t else g0
def mid (a b : PG) (k q i : Nat) : PG := fun t => if q ≤ t ∧ t < q + i then cv a b q t else rst a b k (q + 1) t
def diI (m : Mem) (vb : Value) (n la k br bq : Nat) (a b : PG) (j : Nat) (fr : Fr) (m' : Mem) : Prop := j ≤ la ∧ DF fr vb n la k br bq ∧ fr.at 9 = .int .i64 ((j : Int) - 1) ∧ DM m m' br bq n la (rst a b k j) (quo a j)
def diJ (m : Mem) (vb : Value) (bb ob kb : Nat) (n la k br bq q : Nat) (a b : PG) (r : Nat) (fr : Fr) (m' : Mem) : Prop := ∃ i, i + r = k ∧ DF fr vb n la k br bq ∧ fr.at 9 = .int .i64 (q : Nat) ∧ fr.at 60 = .slice (some ⟨bb, ob, none⟩) k kb ∧ fr.at 61 = .int .i64 (k : Nat) ∧ fr.at 62 = .int .i64 (i : Nat) ∧ DM m m' br bq n la (mid a b k q i) (quo a q)
def diS (m : Mem) (vb : Value) (n la k br bq q : Nat) (a b : PG) (r : Ex × Fr) (m' : Mem) : Prop := r.1 = .exit 2 ∧ DF r.2 vb n la k br bq ∧ r.2.at 9 = .int .i64 (q : Nat) ∧ DM m m' br bq n la (rst a b k q) (quo a q)
def diR (m : Mem) (vb : Value) (n la k br bq : Nat) (a b : PG) (r : Ex × Fr) (m' : Mem) : Prop := r.1 = .exit 0 ∧ DF r.2 vb n la k br bq ∧ DM m m' br bq n la (rst a b k 0) (quo a 0)
theorem div_ok (d : Nat) {m : Mem} {va vb : Value} {n la k : Nat} {a b : PG} (hw : MW m) (ha : RP m va n (cv a b la)) (hn' : n = la + k) (hla : 0 < la) (hae : Ends a la) (hb : RP m vb (k + 1) b) (hb1 : b k = g1) (ha1 : ∀ i, NB (a i) small) (hbs : ∀ i, NB (b i) small) (hc : ∀ i t, NB (cv a b i t) far)
    {Q : Value → Mem → Prop} (hQ : ∀ m' v n' w, Up m m' → n' ≤ la → RP m' v n' a → RP m' w 1 (fun _ => g0) → Q (.tuple ⟨[v, w, .int .i64 0]⟩) m') :
    Gives (callN Try.prog known (d + 10) 17 [va, vb]) m Q := by
  refine gives_fn (nt := 111) rfl Try.func17 rfl rfl rfl (Nat.le_of_ble_eq_true rfl) fun fr hn hd hargs => ?_
  have h0 : fr.at 0 = _ := hargs 0 _ rfl
  have h1 : fr.at 1 = _ := hargs 1 _ rfl
  clear hargs
  have hn0 := ha.ok.pos
  have hn65 := ha.ok.most
  have hk65 := hb.ok.most
  obtain ⟨ba, oa, ka, xa, rfl, _, hba, _, hea⟩ := id ha.pl
  obtain ⟨bb, ob, kb, xb, rfl, hkb, hbb, hsb, heb⟩ := id hb.pl
  obtain ⟨K, hK⟩ : ∃ K, K = k + 1 := ⟨_, rfl⟩
  rw [← hK] at hb h1 hkb heb
  simp [h0, h1, hn]
  refine both_ok _ ha.pl ha.ok hb.pl hb.ok fun m1 hs => ?_
  simp [h0, h1, hn]
  refine none_ok _ (hb.pl.keep hs.2) (by omega) (fun h => by rw [show (0 : Nat) = k by omega, hb1]; decide) fun m2 hs2 => ?_
  have hs' := hs.trans hs2
  simp [h0, h1, hn]
  refine clone_ok _ (hs'.mw hw) (ha.pl.keep hs'.2) hn0 hn65 fun m3 br cells hu q1 q2 q3 q4 => ?_
  have e1 : IntKind.i64.wrap ((K : Int) - 1) = (k : Int) := by rw [wrap_pred K (by omega) (by omega)]; omega
  have e2 : IntKind.i64.wrap ((n : Int) - (k : Int)) = (la : Int) := by
    have := wrap_add la 0 (by omega)
    rw [show (n : Int) - (k : Int) = (la : Int) + ((0 : Nat) : Int) by omega, this]; rfl
  have e3 : IntKind.i64.wrap ((la : Int) - 1) = (la : Int) - 1 := wrap_less la (by omega)
  simp [h0, h1, hn, e1, e2, show ¬ (n : Int) < (K : Int) by omega]
  refine gives_make mk_L (Nat.le_refl la) (by omega) ?_
  simp [hn, e3]
  have hub : Up m (m3.nw ⟨List.replicate la (.complex .f64 0 0), 1, false, false⟩) := hs'.up.trans (hu.trans (Up.nw _ _))
  have hnx := hu.next
  rw [hs'.1] at q1 hnx
  refine code_loop_post (diR m (.slice (some ⟨bb, ob, none⟩) K kb) n la k br m3.next a b) (diI m (.slice (some ⟨bb, ob, none⟩) K kb) n la k br m3.next a b) la (by omega) ⟨Nat.le_refl _, ⟨by simp [hn], by simp [hd], by simp [h1], by simp, by simp, by simp⟩, by simp, ⟨hub, q1, hnx, by omega, by simp; omega, by simp, cells, _, by simp [show br ≠ m3.next by omega, q3], by simp, q4.congr fun t ht => ?_, (CL.zeros la).congr fun t ht => ?_⟩⟩ ?_ ?_
  · unfold rst
    rw [if_pos (by omega)]
  · unfold quo
    rw [if_neg (by omega)]
  · rintro j fr' m' ⟨hjl, ⟨f1, f2, f3, f4, f5, f6⟩, f9, hM⟩
    by_cases hj : 0 < j
    · obtain ⟨q, hq⟩ : ∃ q, j = q + 1 := ⟨j - 1, by omega⟩
      have f9' : fr'.at 9 = .int .i64 (q : Nat) := by rw [f9]; congr 1; omega
      obtain ⟨u1, u2, u3, u4, u5, u6, cr, cq, p1, p2, p3, p4⟩ := hM
      obtain ⟨p, hp⟩ : ∃ p, p = q + k := ⟨_, rfl⟩
      have hwp : IntKind.i64.wrap ((q : Int) + (k : Int)) = (p : Int) := by rw [hp]; exact wrap_add q k (by omega)
      have hwl := wrap_less q (by omega)
      obtain ⟨x, hx, hwx⟩ := p3.2 p (by omega)
      have hrp : rst a b k j p = a q := by
        unfold rst
        rw [if_pos (by omega), hq, hp]
        exact cv_top (by rw [← hK]; exact hb.ends) hb1
      rw [hrp] at hwx
      have hmb : m'.at bb = some xb := u1.at hbb hw
      obtain ⟨y, hy, hwy⟩ := heb k (by omega)
      rw [hb1] at hwy
      obtain ⟨n1, n2⟩ := (ha1 q).parts (by decide)
      have hsm : small.toNat = 1048576 := by decide
      have hdv : WC (cdiv x y) (a q) := hwx.div_one hwy (by omega) (by omega)
      simp [f1, f9', show (0 : Int) ≤ (q : Int) by omega]
      refine code_draw_dyn (plan := [0, 0, 0, 0, 0, 24, 60, 124, 0, 0, 768, 1792, 4092, 8191, 16383]) (by kernel_rfl) ?_
      simp [drawQ, apartAll, apartL, Nat.testBit, f1, f3, f4, f5, f6, f9', hwp, idx_L _ _ _ _ _ _ (show p < n by omega), idx_L _ _ _ _ _ _ (show k < K by omega), idx_L _ _ _ _ _ _ (show q < la by omega), p1, hmb, hx, hy, run_div]
      refine storeQ_one (cs := cq) (sz := 1) (gr := false) (by simp [p2]) (by simp) (cells_cx _) (by rw [p4.1]; omega) fun m4 n4 l4 e4 => ?_
      simp only [Mem.next_rd, Mem.next_lg, Mem.at_rd, Mem.at_lg] at n4 e4
      simp [l4, drawQ, apartAll, apartL, Nat.testBit, f1, f3, f6]
      have hbm : bb < m.next := hw bb xb hbb
      have hM4 : DM m m4 br m3.next n la (rst a b k (q + 1)) (quo a q) := by
        refine ⟨u1.wr (b := m3.next) u3 u6 n4 e4, u2, u3, u4, by omega, by omega, cr, _, by rw [e4, if_neg (by omega)]; exact p1, by rw [e4, if_pos rfl], by rw [← hq]; exact p3, p4.set (by omega) hdv fun t ht => ?_⟩
        unfold quo
        by_cases h1 : t = q
        · rw [h1, if_pos (by omega), if_pos rfl]
        · rw [if_neg h1]
          by_cases h2 : q ≤ t
          · rw [if_pos h2, if_pos (by omega)]
          · rw [if_neg h2, if_neg (by omega)]
      refine gives_slice_hi (x := xb) (by rw [Mem.at_lg, e4, if_neg (by omega)]; exact hmb) hsb (by omega) ?_
      simp [f1]
      refine code_loop_post (diS m (.slice (some ⟨bb, ob, none⟩) K kb) n la k br m3.next q a b) (diJ m (.slice (some ⟨bb, ob, none⟩) K kb) bb ob kb n la k br m3.next q a b) k (by omega) ⟨0, by omega, ⟨by simp [f1], by simp [f2], by simp [f3], by simp [f4], by simp [f5], by simp [f6]⟩, by simp [f9'], by simp, by simp, by simp, hM4.keep ⟨by simp, fun c => by simp⟩ fun t ht => ?_⟩ ?_ ?_
      · unfold mid
        rw [if_neg (by omega)]
      · clear hM4 f1 f2 f3 f4 f5 f6 f9 f9' p1 p2 p3 p4 hx hy
        rintro r fr2 m5 ⟨i, hir, ⟨f1, f2, f3, f4, f5, f6⟩, f9, f60, f61, f62, hM⟩
        by_cases hi : i < k
        · obtain ⟨v1, v2, v3, v4, v5, v6, cr, cq, p1, p2, p3, p4⟩ := hM
          obtain ⟨t0, ht0⟩ : ∃ t0, t0 = q + i := ⟨_, rfl⟩
          have hwt : IntKind.i64.wrap ((q : Int) + (i : Int)) = (t0 : Int) := by rw [ht0]; exact wrap_add q i (by omega)
          have hwi := wrap_succ i (by omega)
          have hmb2 : m5.at bb = some xb := v1.at hbb hw
          obtain ⟨x, hx, hwx⟩ := p3.2 t0 (by omega)
          obtain ⟨u, hu', hwu⟩ := p4.2 q (by omega)
          obtain ⟨y, hy, hwy⟩ := heb i (by omega)
          have hquo : quo a q q = a q := by unfold quo; rw [if_pos (Nat.le_refl _)]
          rw [hquo] at hwu
          have hmid : mid a b k q i t0 = cv a b (q + 1) (q + i) := by
            unfold mid
            rw [if_neg (by omega)]
            unfold rst
            rw [if_pos (by omega), ht0]
          rw [hmid] at hwx
          have hpr := hwu.mul hwy (by decide) (by decide) (ha1 q) (hbs i) (by decide)
          have hnew : WC (csub x (cmul u y)) (cv a b q t0) := by
            rw [ht0, ← cv_sub]
            exact hwx.subB hpr (b := (far, 0)) (by rw [cv_sub]; exact BN.real (by decide) (hc _ _)) (by decide)
          simp [f1, f60, f61, f62, hi, idx_L _ _ _ _ _ _ hi, hmb2, hy]
          refine code_draw_dyn (plan := [0, 0, 0, 6, 0, 0, 0, 96, 240, 496, 0, 0, 3072, 7168, 0, 31744, 65520, 131071, 262143]) (by kernel_rfl) ?_
          simp [drawQ, apartAll, apartL, Nat.testBit, f1, f4, f5, f9, hwt, idx_L _ _ _ _ _ _ (show t0 < n by omega), idx_L _ _ _ _ _ _ (show q < la by omega), p1, p2, hx, hu', run_mul, run_sub]
          refine storeQ_one (cs := cr) (sz := 1) (gr := true) (by simp [p1]) (by simp) (cells_cx _) (by rw [p3.1]; omega) fun m6 n6 l6 e6 => ?_
          simp only [Mem.next_rd, Mem.next_lg, Mem.at_rd, Mem.at_lg] at n6 e6
          simp [l6, drawQ, apartAll, apartL, Nat.testBit, f1, f62, hwi]
          refine ⟨r - 1, by omega, i + 1, by omega, ⟨by simp [f1], by simp [f2], by simp [f3], by simp [f4], by simp [f5], by simp [f6]⟩, by simp [f9], by simp [f60], by simp [f61], by simp, ?_⟩
          refine ⟨v1.wr (b := br) v2 v5 (by simpa using n6) (fun c => by rw [Mem.at_lg]; exact e6 c), v2, v3, v4, by rw [Mem.next_lg, n6]; exact v5, by rw [Mem.next_lg, n6]; exact v6, _, cq, by rw [Mem.at_lg, e6, if_pos rfl], by rw [Mem.at_lg, e6, if_neg (by omega)]; exact p2, p3.set (by omega) hnew fun t ht => ?_, p4⟩
          unfold mid
          by_cases h1 : t = t0
          · rw [h1, if_pos (by omega), if_pos rfl]
          · rw [if_neg h1]
            by_cases h2 : q ≤ t ∧ t < q + i
            · rw [if_pos h2, if_pos (by omega)]
            · rw [if_neg h2, if_neg (by omega)]
        · obtain rfl : i = k := by omega
          simp [f1, f61, f62]
          refine ⟨rfl, ⟨by simp [f1], by simp [f2], by simp [f3], by simp [f4], by simp [f5], by simp [f6]⟩, by simp [f9], hM.keep (Sm.refl _) fun t ht => ?_⟩
          unfold mid rst
          by_cases h1 : q ≤ t ∧ t < q + i
          · rw [if_pos h1, if_pos (by omega)]
          · rw [if_neg h1]
            by_cases h2 : t < q + i
            · rw [if_pos h2, if_pos (by omega), cv_low (by omega)]
            · rw [if_neg h2]
              by_cases h3 : t < q + 1 + i
              · rw [if_pos h3, show t = q + i by omega, cv_top (by rw [← hK]; exact hb.ends) hb1]
                rw [Nat.add_sub_cancel]
              · rw [if_neg h3]
      · rintro ⟨e, fr2⟩ m5 ⟨he', ⟨f1, f2, f3, f4, f5, f6⟩, f9, hM⟩
        obtain rfl : e = .exit 2 := he'
        simp only at f1 f2 f3 f4 f5 f6 f9
        simp [f1, f9, hwl]
        exact ⟨q, by omega, by omega, ⟨by simp [f1], by simp [f2], by simp [f3], by simp [f4], by simp [f5], by simp [f6]⟩, by simp, hM⟩
    · obtain rfl : j = 0 := by omega
      simp [f1, f9]
      exact ⟨rfl, ⟨by simp [f1], by simp [f2], by simp [f3], by simp [f4], by simp [f5], by simp [f6]⟩, hM⟩
  · rintro ⟨e, fr'⟩ m' ⟨he', ⟨f1, f2, f3, f4, f5, f6⟩, hM⟩
    obtain rfl : e = .exit 0 := he'
    simp only at f1 f2 f3 f4 f5 f6
    obtain ⟨u1, u2, u3, u4, u5, u6, cr, cq, p1, p2, p3, p4⟩ := hM
    simp [f1, f5, f6]
    refine gives_slice3 (x := ⟨cr, 1, true, false⟩) p1 rfl (by omega) ?_
    have hnear : ∀ t, NB (a t) far := fun t => (ha1 t).mono (by decide) (by decide)
    have hz0 : NB g0 far := by unfold NB; decide
    have hzn : ∀ t : Nat, NB ((fun _ => g0) t) far := fun _ => hz0
    have hq4 : CL cq la a := p4.congr fun t _ => by unfold quo; rw [if_pos (by omega)]
    by_cases hk0 : k = 0
    · simp [f1, f4, f6, hk0, cx_zero]
      refine gives_build1 bs_L (cells_cx _) (one_cx _) ?_
      simp [f1, f4]
      have hu7 : Up m ((m'.rd br).nw ⟨[cx (some 0, some 0)], 1, false, false⟩) := u1.trans ((Up.rd _ _).trans (Up.nw _ _))
      have hr7 : PL ((m'.rd br).nw ⟨[cx (some 0, some 0)], 1, false, false⟩) (.slice (some ⟨m'.next, 0, none⟩) 1 1) 1 fun _ => g0 := PL.own (gr := false) (ro := false) (cells := [cx (some 0, some 0)]) (by simp) ⟨rfl, fun i hi => ⟨_, by rw [show i = 0 by omega]; rfl, WC.zero⟩⟩
      refine answer_ok (c := a) _ (PL.own (cells := cq) (gr := false) (ro := false) (by simp [show m3.next ≠ m'.next by omega, p2]) hq4) hla (by omega) hnear hae fun m8 v n' hs8 hn8 hr8 => ?_
      simp [f1, f5, extractX]
      refine answer_ok (c := fun _ => g0) _ (hr7.keep hs8.2) (by omega) (by omega) hzn (fun _ _ => rfl) fun m9 w n9 hs9 hn9 hr9 => ?_
      simp [f1, f2, extractX]
      obtain rfl : n9 = 1 := by have := hr9.ok.pos; omega
      exact hQ m9 v n' w (hu7.trans (hs8.up.trans hs9.up)) hn8 (hr8.keep hs9.2) hr9
    · simp [f1, f4, f6, hk0]
      have hr7 : PL (m'.rd br) (.slice (some ⟨br, 0, none⟩) k k) k fun _ => g0 := ((PL.own (gr := true) (ro := false) (cells := cr) (by simpa using p1) (p3.congr fun t _ => rfl)).less (by omega) (Nat.le_refl _)).congr fun t ht => by unfold rst; rw [if_pos (by omega)]; rfl
      refine answer_ok (c := a) _ (PL.own (cells := cq) (gr := false) (ro := false) (by simpa using p2) hq4) hla (by omega) hnear hae fun m8 v n' hs8 hn8 hr8 => ?_
      simp [f1, f5, extractX]
      refine answer_ok (c := fun _ => g0) _ (hr7.keep hs8.2) (by omega) (by omega) hzn (fun _ _ => rfl) fun m9 w n9 hs9 hn9 hr9 => ?_
      simp [f1, f2, extractX]
      have hn91 : n9 = 1 := by
        have h1 := hr9.ok.pos
        by_cases h : n9 = 1
        · exact h
        · exact absurd rfl (hr9.ok.last (by omega))
      rw [hn91] at hr9
      exact hQ m9 v n' w (u1.trans ((Up.rd _ _).trans (hs8.up.trans hs9.up))) hn8 (hr8.keep hs9.2) hr9
end
end Go.Proofs.Ytonmjdhdkkmjlaa
