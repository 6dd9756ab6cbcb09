/- The law of chapter 10 in the clean executor: small polynomials, values, what is the same. -/
import Derived.Test.YtonmjdhdkkmjlaaRH
namespace Go.Proofs.Ytonmjdhdkkmjlaa
open Go.Clean

theorem bin_ceq {P : Program} {t : TypeId} {xo yo : Operand} (x y : C) : binX P .eql t xo yo (cx x) (cx y) = some (.bool (feq x.1 y.1 && feq x.2 y.2)) := by
  unfold cx binX
  simp only [isSum, eqlX, cond_false, Option.map_some, id]
  rw [order_c, order_c]; rfl
theorem floatX_fop (op : BinOp) (x y : F) (hop : op = .add ∨ op = .sub ∨ op = .mul ∨ op = .quo) : floatX op (cOf x) (cOf y) = fop op x y := by
  have h := fop_bits op (cOf x) (cOf y) hop
  have e : fop op (clr x) (clr y) = fop op x y := by
    rcases hop with rfl | rfl | rfl | rfl
    · exact f2_clr (fun a b h => by simp [Ieee.Format.add, sum_nan_left (show (Ieee.double.read a).isNaN = true from h)]) (fun a b h => by simp [Ieee.Format.add, sum_nan_right (show (Ieee.double.read b).isNaN = true from h)]) x y
    · exact f2_clr (fun a b h => by simp [Ieee.Format.sub, sum_nan_left (show (Ieee.double.read a).isNaN = true from h)]) (fun a b h => by simp [Ieee.Format.sub, sum_nan_right (show (Ieee.double.read b).opposite.isNaN = true from opposite_nan.trans h)]) x y
    · exact f2_clr (fun a b h => by simp [Ieee.Format.mul, product_nan_left (show (Ieee.double.read a).isNaN = true from h)]) (fun a b h => by simp [Ieee.Format.mul, product_nan_right (show (Ieee.double.read b).isNaN = true from h)]) x y
    · exact f2_clr (fun a b h => by simp [Ieee.Format.div, quotient_nan_left (show (Ieee.double.read a).isNaN = true from h)]) (fun a b h => by simp [Ieee.Format.div, quotient_nan_right (show (Ieee.double.read b).isNaN = true from h)]) x y
  have e2 : floatX op (cOf x) (cOf y) = fop op x y := by
    rw [← e]
    refine Eq.trans ?_ h.1.symm
    rcases hop with rfl | rfl | rfl | rfl <;> rfl
  exact e2
theorem bin_csum {P : Program} {t : TypeId} {xo yo : Operand} {op : BinOp} {x y : C} {g : G} (ho : isSum op = true) (hop : op = .add ∨ op = .sub ∨ op = .mul ∨ op = .quo) (h : WC (fop op x.1 y.1, fop op x.2 y.2) g) : binX P op t xo yo (cx x) (cx y) = some (cx (fop op x.1 y.1, fop op x.2 y.2)) := by
  have e1 := floatX_fop op x.1 y.1 hop
  have e2 := floatX_fop op x.2 y.2 hop
  obtain ⟨h1, h2⟩ := h
  simp only at h1 h2
  obtain ⟨r, hr⟩ : ∃ r, fop op x.1 y.1 = some r := by obtain ⟨b, hb, _⟩ := h1; exact ⟨b, hb⟩
  obtain ⟨s, hs⟩ : ∃ r, fop op x.2 y.2 = some r := by obtain ⟨b, hb, _⟩ := h2; exact ⟨b, hb⟩
  rw [hr] at h1 e1
  rw [hs] at h2 e2
  unfold cx binX
  simp only [ho, cond_true, e1, e2, hr, hs]
  rw [cOf_WF h1, cOf_WF h2]
theorem bin_cadd {P : Program} {t : TypeId} {xo yo : Operand} {x y : C} {g : G} (h : WC (cadd x y) g) : binX P .add t xo yo (cx x) (cx y) = some (cx (cadd x y)) := bin_csum rfl (.inl rfl) h
theorem bin_csub {P : Program} {t : TypeId} {xo yo : Operand} {x y : C} {g : G} (h : WC (csub x y) g) : binX P .sub t xo yo (cx x) (cx y) = some (cx (csub x y)) := bin_csum rfl (.inr (.inl rfl)) h
/-- A small polynomial: at most the degree 3, whole coefficients, the last not nought. -/
structure OK4 (n : Nat) (c : PG) : Prop where
  pos : 0 < n
  most : n ≤ 4
  ends : Ends c n
  near : ∀ i, NB (c i) 12
  last : c (n - 1) ≠ g0
theorem OK4.pb {n : Nat} {c : PG} (h : OK4 n c) : PB c A4 := ⟨fun t ht => h.ends t (by have := h.most; omega), fun t => by
  unfold A4
  by_cases ht : t < 4
  · rw [if_pos ht]; exact BN.real (by decide) (h.near t)
  · rw [if_neg ht, h.ends t (by have := h.most; omega)]; exact BN.zero⟩
theorem OK4.okp {n : Nat} {c : PG} (h : OK4 n c) : OKP n c := ⟨h.pos, by have := h.most; omega, fun i => (h.near i).mono (by decide) (by decide), fun _ => h.last⟩
theorem OK4.rp {m : Mem} {v : Value} {n : Nat} {c : PG} (h : OK4 n c) (hv : PL m v n c) : RP m v n c := ⟨hv, h.okp, h.ends⟩
section
set_option maxRecDepth 10000
theorem run_small10 (n : Nat) (a : Int) (m : Mem) (Q : Value → Mem → Prop) : Gives (callN Try.prog known (n + 1) 23 [.int .i64 a]) m Q ↔ Q (fv (wholeF a)) m := by
  refine gives_pure (fun m => ?_) m Q
  refine gives_fn (nt := 6) rfl Try.func23 rfl rfl rfl (Nat.le_of_ble_eq_true rfl) fun fr hn hd hargs => ?_
  have h0 : fr.at 0 = _ := hargs 0 _ rfl
  clear hargs
  simp [h0, hn, hd]
theorem run_l10 (n : Nat) {a : Option Addr} {k c : Nat} (m : Mem) (Q : Value → Mem → Prop) : Gives (callN Try.prog known (n + 1) 54 [.slice a k c]) m Q ↔ Q (.slice a k c) m := by
  refine gives_pure (fun m => ?_) m Q
  refine gives_fn (nt := 4) rfl Try.func54 rfl rfl rfl (Nat.le_of_ble_eq_true rfl) fun fr hn hd hargs => ?_
  have h0 : fr.at 0 = _ := hargs 0 _ rfl
  clear hargs
  simp [h0, hn, hd]
def trI (m : Mem) (b k : Nat) (l : List Value) (r0 : Nat) (xs : Nat → Int) (q : Nat) (fr : Fr) (m' : Mem) : Prop := q ≤ r0 ∧ (∀ t, q ≤ t → t < r0 → cs8 xs t = g0) ∧ fr.n = 55 ∧ fr.d = [] ∧ fr.at 3 = .slice (some ⟨b, 0, none⟩) q k ∧ Sm m m'
def trR (m : Mem) (b k : Nat) (r0 : Nat) (xs : Nat → Int) (r : Ex × Fr) (m' : Mem) : Prop := r.1 = .exit 2 ∧ ∃ q, q ≤ r0 ∧ (0 < q → cs8 xs (q - 1) ≠ g0) ∧ r.2.n = 55 ∧ r.2.d = [] ∧ r.2.at 3 = .slice (some ⟨b, 0, none⟩) q k ∧ Sm m m'
def wtI (m : Mem) (va : Value) (n : Nat) (xs : Nat → Int) (q : Nat) (fr : Fr) (m' : Mem) : Prop := ∃ r v l b, r + q = 4 ∧ fr.n = 55 ∧ fr.d = [] ∧ fr.at 0 = va ∧ fr.at 3 = v ∧ fr.at 4 = .int .i64 ((2 * r : Nat) : Int) ∧ Up m m' ∧ CL l r (cs8 xs) ∧ ((l = [] ∧ v = .slice none 0 0) ∨ (l ≠ [] ∧ v = .slice (some ⟨b, 0, none⟩) l.length l.length ∧ m'.at b = some ⟨l, 1, true, false⟩ ∧ b ≠ m'.next)) ∧ (l ≠ [] → m.next ≤ b ∧ b < m'.next)
def wtR (m : Mem) (xs : Nat → Int) (r : Ex × Fr) (m' : Mem) : Prop := r.1 = .exit 0 ∧ ∃ k v l b, k ≤ 4 ∧ r.2.n = 55 ∧ r.2.d = [] ∧ r.2.at 3 = v ∧ Up m m' ∧ CL l k (cs8 xs) ∧ ((l = [] ∧ v = .slice none 0 0) ∨ (l ≠ [] ∧ v = .slice (some ⟨b, 0, none⟩) l.length l.length ∧ m'.at b = some ⟨l, 1, true, false⟩ ∧ b ≠ m'.next)) ∧ (l ≠ [] → m.next ≤ b ∧ b < m'.next)
theorem whole_ok (d : Nat) {m : Mem} {va : Value} {n : Nat} {xs : Nat → Int} (hw : MW m) (hv : IL m va n xs) {Q : Value → Mem → Prop}
    (hQ : ∀ m' v k c, Up m m' → PL m' v k c → OK4 k c → Q v m') :
    Gives (callN Try.prog known (d + 4) 22 [va]) m Q := by
  refine gives_fn (nt := 55) rfl Try.func22 rfl rfl rfl (Nat.le_of_ble_eq_true rfl) fun fr hn hd hargs => ?_
  have h0 : fr.at 0 = _ := hargs 0 _ rfl
  clear hargs
  obtain ⟨a, ka, hva, hel⟩ := id hv
  have hlen : lenX Try.prog 22 va = some (.int .i64 n) := by rw [hva]; exact len_I _ _ _
  simp [h0, hn]
  refine code_loop_post (wtR m xs) (wtI m va n xs) 4 (by omega) ⟨0, .slice none 0 0, [], 0, by omega, by simp [hn], by simp [hd], by simp [h0], by simp, by simp, Up.refl m, ⟨rfl, fun i hi => by omega⟩, .inl ⟨rfl, rfl⟩, fun h => absurd rfl h⟩ ?_ ?_
  · rintro q fr' m' ⟨r, v, l, b, hrq, f1, f2, f0, f3, f4, hu, hcl, hl, hb⟩
    have hll : l.length = r := hcl.1
    have hlv : lenX Try.prog 24 v = some (.int .i64 r) := by
      rcases hl with ⟨rfl, rfl⟩ | ⟨_, rfl, _⟩
      · rw [len_L, ← hll]; rfl
      · rw [len_L, hll]
    obtain ⟨i0, hi0⟩ : ∃ i0, i0 = 2 * r := ⟨_, rfl⟩
    obtain ⟨i1, hi1⟩ : ∃ i1, i1 = 2 * r + 1 := ⟨_, rfl⟩
    rw [← hi0] at f4
    have hw1 : IntKind.i64.wrap ((i0 : Int) + 1) = (i1 : Int) := by rw [hi0, hi1]; exact wrap_succ (2 * r) (by omega)
    have hw2 : IntKind.i64.wrap ((i0 : Int) + 2) = ((2 * (r + 1) : Nat) : Int) := by rw [hi0]; exact wrap_add (2 * r) 2 (by omega)
    by_cases hi : i1 < n
    · by_cases hr : r < 4
      · obtain ⟨b0, o0, x0, ha0, hb0, hx0⟩ := hel.resolve_left (by omega)
        have f0' : fr'.at 0 = .slice (some ⟨b0, o0, none⟩) n ka := by rw [f0, hva, ha0]
        have hm : m'.at b0 = some x0 := hu.at hb0 hw
        have hb0n : b0 < m.next := hw b0 x0 hb0
        simp [f1, f0', f3, f4, hlv, hw1, yieldX, hi, show (r : Int) < 4 by omega]
        refine code_draw_dyn (plan := [0, 0, 0, 6, 14, 30, 0, 0, 128, 448, 960, 2046, 4094, 8190, 16383, 32767]) (by kernel_rfl) ?_
        have hz : WC (wholeF (xs i0), wholeF (xs i1)) (cs8 xs r) := by rw [hi0, hi1]; exact ⟨WF.whole _, WF.whole _⟩
        simp [drawQ, apartAll, apartL, Nat.testBit, f1, f0', f3, f4, hw1, idx_I _ _ _ _ _ _ hi, idx_I _ _ _ _ _ _ (show i0 < n by omega), hm, hx0 i0 (by omega), hx0 i1 (by omega), run_small10]
        refine gives_build1 bs_L (cells_cx _) (one_cx _) ?_
        simp [drawQ, apartAll, apartL, Nat.testBit, f1]
        have hpush : ∀ (b' : Nat) (m5 : Mem), (l = [] → b' = m'.next + 1) → (l ≠ [] → b' = b) → m5.next = m'.next + 1 + 1 → m5.at (m'.next + 1) = some ⟨l ++ [cx (wholeF (xs i0), wholeF (xs i1))], 1, true, false⟩ →
            (∀ c, c ≠ b' → c ≠ m'.next + 1 → m5.at c = if c = m'.next then some ⟨[cx (wholeF (xs i0), wholeF (xs i1))], 1, false, false⟩ else m'.at c) → Up m m5 := fun b' m5 h1 h2 h3 h4 h5 => by
          have hbm : m.next ≤ b' := by
            by_cases hl0 : l = []
            · rw [h1 hl0]; have := hu.next; omega
            · rw [h2 hl0]; exact (hb hl0).1
          have hn := hu.next
          refine ⟨by omega, fun c hc => ?_, fun w c y hc => ?_⟩
          · rw [h5 c (by omega) (by omega), if_neg (by omega)]; exact hu.old c hc
          · by_cases hc1 : c = b'
            · by_cases hl0 : l = []
              · rw [hc1, h1 hl0]; omega
              · rw [hc1, h2 hl0]; have := (hb hl0).2; omega
            · by_cases hc2 : c = m'.next + 1
              · omega
              · rw [h5 c hc1 hc2] at hc
                split at hc
                · omega
                · have := hu.wf w c y hc; omega
        have hcl' : CL (l ++ [cx (wholeF (xs i0), wholeF (xs i1))]) (r + 1) (cs8 xs) := hcl.push hz fun _ _ => rfl
        rcases hl with ⟨hl0, hv0⟩ | ⟨hl0, hv0, hlb, hbne⟩
        · subst hl0
          subst hv0
          refine gives_push app_L (b := m'.next + 1) (l := []) (x := cx (wholeF (xs i0), wholeF (xs i1))) (by simp) (.inl ⟨rfl, rfl⟩) rfl (one_cx _) (by simp) fun m5 h3 h4 h5 => ?_
          simp only [Mem.next_lg, Mem.next_nw, Mem.at_lg, Mem.at_nw] at h3 h4 h5
          simp [drawQ, apartAll, apartL, Nat.testBit, f1, f4, hw2]
          have hup := hpush (m'.next + 1) m5 (fun _ => rfl) (fun h => absurd rfl h) h3 h4 h5
          refine ⟨q - 1, by omega, r + 1, .slice (some ⟨m'.next + 1, 0, none⟩) 1 1, [cx (wholeF (xs i0), wholeF (xs i1))], m'.next + 1, by omega, by simp [f1], by simp [f2], by simp [f0], by simp, by simp, hup.trans (Up.same (by simp) fun c => by simp), hcl', .inr ⟨by simp, rfl, by simpa using h4, by simp; omega⟩, fun _ => ⟨by have := hu.next; omega, by simp; omega⟩⟩
        · have hbm := hb hl0
          subst hv0
          refine gives_push app_L (b := b) (l := l) (x := cx (wholeF (xs i0), wholeF (xs i1))) (by simp) (.inr ⟨hl0, rfl, by simp [show b ≠ m'.next by omega, hlb], by simp; omega⟩) hcl.one (one_cx _) (by omega) fun m5 h3 h4 h5 => ?_
          simp only [Mem.next_lg, Mem.next_nw, Mem.at_lg, Mem.at_nw] at h3 h4 h5
          simp [drawQ, apartAll, apartL, Nat.testBit, f1, f4, hw2]
          have hup := hpush b m5 (fun h => absurd h hl0) (fun _ => rfl) h3 h4 h5
          refine ⟨q - 1, by omega, r + 1, .slice (some ⟨m'.next + 1, 0, none⟩) (l.length + 1) (l.length + 1), l ++ [cx (wholeF (xs i0), wholeF (xs i1))], m'.next + 1, by omega, by simp [f1], by simp [f2], by simp [f0], by simp, by simp, hup.trans (Up.same (by simp) fun c => by simp), hcl', .inr ⟨by simp, by simp, by simpa using h4, by simp; omega⟩, fun _ => ⟨by have := hu.next; omega, by simp; omega⟩⟩
      · simp [f1, f0, f3, f4, hlen, hlv, hw1, yieldX, hi, show ¬ (r : Int) < 4 by omega]
        exact ⟨rfl, r, v, l, b, by omega, by simp [f1], by simp [f2], by simp [f3], hu, hcl, hl, hb⟩
    · simp [f1, f0, f3, f4, hlen, hlv, hw1, yieldX, hi]
      exact ⟨rfl, r, v, l, b, by omega, by simp [f1], by simp [f2], by simp [f3], hu, hcl, hl, hb⟩
  · rintro ⟨e, fr'⟩ m' ⟨he', r, v, l, b, hr4, f1, f2, f3, hu, hcl, hl, hb⟩
    obtain rfl : e = .exit 0 := he'
    simp only at f1 f2 f3
    have hone : CL [cx (some 4607182418800017408, some 0)] 1 fun t => if t = 0 then g1 else g0 := by
      refine ⟨rfl, fun i hi => ?_⟩
      obtain rfl : i = 0 := by omega
      exact ⟨_, rfl, WC.one⟩
    have hok1 : OK4 1 fun t => if t = 0 then g1 else g0 := ⟨by omega, by omega, fun t ht => by rw [if_neg (by omega)], fun t => by
      show NB (if t = 0 then g1 else g0) 12
      split <;> (unfold NB; decide), by decide⟩
    rcases hl with ⟨rfl, rfl⟩ | ⟨hne, rfl, hlb, _⟩
    · simp [f1, f3]
      refine code_loop_post (fun r m2 => r.1 = .exit 2 ∧ r.2.n = 55 ∧ r.2.d = [] ∧ r.2.at 3 = .slice none 0 0 ∧ Sm m' m2) (fun _ fr m2 => fr.n = 55 ∧ fr.d = [] ∧ fr.at 3 = .slice none 0 0 ∧ Sm m' m2) 1 (by omega) ⟨by simp [f1], by simp [f2], by simp [f3], Sm.refl m'⟩ ?_ ?_
      · rintro q fr2 m2 ⟨k1, k2, k3, hs⟩
        simp [k1, k2, k3, yieldX]
        exact hs
      · rintro ⟨e, fr2⟩ m2 ⟨he2, k1, k2, k3, hs⟩
        obtain rfl : e = .exit 2 := he2
        simp only at k1 k2 k3
        simp [k1, k3, cx_one]
        refine gives_build1 bs_L (cells_cx _) (one_cx _) ?_
        simp [k1, k2, run_l10]
        exact hQ _ _ 1 _ (hu.trans (hs.up.trans (Up.nw _ _))) (PL.own (gr := false) (ro := false) (by simp) hone) hok1
    · have hll : l.length = r := hcl.1
      rw [hll] at f3
      obtain ⟨hb1, hb2⟩ := hb hne
      simp [f1, f3]
      refine code_loop_post (trR m' b r r xs) (trI m' b r l r xs) r (by omega) ⟨Nat.le_refl _, fun t h1 h2 => by omega, by simp [f1], by simp [f2], by simp [f3], Sm.refl m'⟩ ?_ ?_
      · rintro q fr2 m2 ⟨hq, hz0, k1, k2, k3, hs⟩
        have hlb2 : m2.at b = some ⟨l, 1, true, false⟩ := by rw [hs.2]; exact hlb
        by_cases hq0 : 0 < q
        · obtain ⟨z, hz, hwz⟩ := hcl.2 (q - 1) (by omega)
          have hp := wrap_pred q hq0 (by omega)
          have hzn : (feq z.1 (some 0) && feq z.2 (some 0)) = decide (cs8 xs (q - 1) = g0) := hwz.nought
          by_cases hg : cs8 xs (q - 1) = g0
          · rw [decide_eq_true hg] at hzn
            obtain ⟨q1, hq1⟩ : ∃ q1, q1 = q - 1 := ⟨_, rfl⟩
            rw [← hq1] at hp hz
            simp [k1, k3, yieldX, hq0, hp, idx_L _ _ _ _ _ _ (show q1 < q by omega), hlb2, hz, cx_zero, bin_ceq, hzn, -Bool.and_eq_true]
            refine gives_slice_hi (x := ⟨l, 1, true, false⟩) (by simp [hlb2]) rfl (by omega) ?_
            simp [k1]
            exact ⟨q1, by omega, by omega, fun t h1 h2 => by
              by_cases ht : t = q1
              · rw [ht, hq1]; exact hg
              · exact hz0 t (by omega) h2, by simp [k1], by simp [k2], by simp, hs.trans ⟨by simp, fun c => by simp⟩⟩
          · rw [decide_eq_false hg] at hzn
            obtain ⟨q1, hq1⟩ : ∃ q1, q1 = q - 1 := ⟨_, rfl⟩
            rw [← hq1] at hp hz
            simp [k1, k3, yieldX, hq0, hp, idx_L _ _ _ _ _ _ (show q1 < q by omega), hlb2, hz, cx_zero, bin_ceq, hzn, -Bool.and_eq_true]
            exact ⟨rfl, q, hq, fun _ => hg, by simp [k1], by simp [k2], by simp [k3], hs.trans (Sm.rd _ _)⟩
        · simp [k1, k3, yieldX, show ¬ (0 : Int) < (q : Int) by omega, hq0]
          exact ⟨rfl, q, hq, fun h => absurd h hq0, by simp [k1], by simp [k2], by simp [k3], hs⟩
      · rintro ⟨e, fr2⟩ m2 ⟨he2, q, hq, hlast, k1, k2, k3, hs⟩
        obtain rfl : e = .exit 2 := he2
        simp only at k1 k2 k3
        have hlb2 : m2.at b = some ⟨l, 1, true, false⟩ := by rw [hs.2]; exact hlb
        by_cases hq0 : q = 0
        · subst hq0
          simp [k1, k3, cx_one]
          refine gives_build1 bs_L (cells_cx _) (one_cx _) ?_
          simp [k1, k2, run_l10]
          exact hQ _ _ 1 _ (hu.trans (hs.up.trans (Up.nw _ _))) (PL.own (gr := false) (ro := false) (by simp) hone) hok1
        · simp [k1, k2, k3, hq0]
          refine hQ _ _ q (fun t => if t < q then cs8 xs t else g0) (hu.trans hs.up) ⟨b, 0, r, _, rfl, hq, hlb2, rfl, fun t ht => ?_⟩ ⟨by omega, by omega, fun t ht => if_neg (by omega), fun t => ?_, ?_⟩
          · obtain ⟨z, hz, hwz⟩ := hcl.2 t (by omega)
            rw [Nat.zero_add]
            exact ⟨z, hz, by show WC z (if t < q then cs8 xs t else g0); rw [if_pos ht]; exact hwz⟩
          · show NB (if t < q then cs8 xs t else g0) 12
            split
            · exact cs8_near xs t
            · unfold NB; decide
          · show (if q - 1 < q then cs8 xs (q - 1) else g0) ≠ g0
            rw [if_pos (by omega)]
            exact hlast (by omega)
end
end Go.Proofs.Ytonmjdhdkkmjlaa

/- The law of chapter 10 in the clean executor: fractions out of lists, values, what is the same. -/
namespace Go.Proofs.Ytonmjdhdkkmjlaa
open Go.Clean

/-- A number. -/
def Num (x : F) : Prop := ∃ b, x = some b ∧ isNo b = false
theorem WF.num {x : F} {n : Int} (h : WF x n) : Num x := by
  obtain ⟨b, rfl, _⟩ := id h
  exact ⟨b, rfl, isNo_WF h⟩
theorem fin_num {x : F} (h : ffin x = true) : Num x := by
  cases x with
  | none => unfold ffin fabs fle fcmp at h; simp at h
  | some b =>
    refine ⟨b, rfl, ?_⟩
    cases hb : isNo b with
    | false => rfl
    | true =>
      exfalso
      have h1 : isNo (b % 9223372036854775808) = true := by rw [isNo_mod]; exact hb
      have h2 : Ieee.double.order (b % 9223372036854775808) 9218868437227405311 = none := order_nan_left h1
      unfold ffin fabs fle fcmp fbig at h
      simp [h2] at h
theorem order_self {d : Ieee.Datum} (h : d.isNaN = false) : d.order d = some .eq := by
  cases d with
  | nan s t => cases h
  | infinity s => simp [Ieee.Datum.order]
  | number s m k => simp [Ieee.Datum.order]
theorem Num.eq {x : F} (h : Num x) : feq x x = true := by
  obtain ⟨b, rfl, hb⟩ := h
  have h2 : Ieee.double.order b b = some .eq := order_self hb
  unfold feq fcmp
  simp [h2]
theorem bin_fne {P : Program} {t : TypeId} {xo yo : Operand} (x y : F) : binX P .neq t xo yo (fv x) (fv y) = some (.bool (!feq x y)) := by
  unfold fv
  rw [bin_fcmp x y .neq rfl]
  unfold feq
  cases fcmp x y with
  | none => rfl
  | some o => cases o <;> rfl
section
set_option maxRecDepth 10000
theorem run_bits (n : Nat) {x : F} (h : Num x) (m : Mem) (Q : Value → Mem → Prop) : Gives (callN Try.prog known (n + 1) 71 [fv x]) m Q ↔ Q (.int .u64 (cOf x)) m := by
  obtain ⟨b, rfl, hb⟩ := h
  refine (gives_known (g := bitsX [fv (some b)]) rfl _ _).trans ?_
  unfold bitsX fv
  have hc : Clean.isNaN (cOf (some b)) = false := by
    show Clean.isNaN (canon b) = false
    rw [canon_yes hb]; exact hb
  dsimp only
  rw [gives_bind, gives_guard, hc, gives_ret]
  simp
def NumC (z : C) : Prop := Num z.1 ∧ Num z.2
theorem WC.num {z : C} {g : G} (h : WC z g) : NumC z := ⟨h.1.num, h.2.num⟩
theorem run_none1 (n : Nat) {x : F} (h : Num x) (m : Mem) (Q : Value → Mem → Prop) : Gives (callN Try.prog known (n + 1) 90 [fv x]) m Q ↔ Q (.bool false) m := by
  refine gives_pure (fun m => ?_) m Q
  refine gives_fn (nt := 6) rfl Try.func90 rfl rfl rfl (Nat.le_of_ble_eq_true rfl) fun fr hn hd hargs => ?_
  have h0 : fr.at 0 = _ := hargs 0 _ rfl
  clear hargs
  simp [h0, hn, hd, bin_fne, h.eq]
theorem run_same1 (n : Nat) {x : F} (h : Num x) (m : Mem) (Q : Value → Mem → Prop) : Gives (callN Try.prog known (n + 2) 80 [fv x, fv x]) m Q ↔ Q (.bool true) m := by
  refine gives_pure (fun m => ?_) m Q
  refine gives_fn (nt := 22) rfl Try.func80 rfl rfl rfl (Nat.le_of_ble_eq_true rfl) fun fr hn hd hargs => ?_
  have h0 : fr.at 0 = _ := hargs 0 _ rfl
  have h1 : fr.at 1 = _ := hargs 1 _ rfl
  clear hargs
  simp [h0, h1, hn, hd, yieldX, run_none1 _ h, run_bits _ h]
theorem run_same2 (n : Nat) {x : C} (h : NumC x) (m : Mem) (Q : Value → Mem → Prop) : Gives (callN Try.prog known (n + 3) 77 [cx x, cx x]) m Q ↔ Q (.bool true) m := by
  refine gives_pure (fun m => ?_) m Q
  refine gives_fn (nt := 17) rfl Try.func77 rfl rfl rfl (Nat.le_of_ble_eq_true rfl) fun fr hn hd hargs => ?_
  have h0 : fr.at 0 = _ := hargs 0 _ rfl
  have h1 : fr.at 1 = _ := hargs 1 _ rfl
  clear hargs
  simp [h0, h1, hn, hd, yieldX, run_same1 _ h.1, run_same1 _ h.2]
theorem run_fbits (n : Nat) {x : F} (h : Num x) (m : Mem) (Q : Value → Mem → Prop) : Gives (callN Try.prog known (n + 2) 84 [fv x]) m Q ↔ Q (.int .u64 (cOf x)) m := by
  refine gives_pure (fun m => ?_) m Q
  refine gives_fn (nt := 8) rfl Try.func84 rfl rfl rfl (Nat.le_of_ble_eq_true rfl) fun fr hn hd hargs => ?_
  have h0 : fr.at 0 = _ := hargs 0 _ rfl
  clear hargs
  simp [h0, hn, hd, bin_fne, h.eq, run_bits _ h]
theorem run_fsame (n : Nat) {x : F} (h : Num x) (m : Mem) (Q : Value → Mem → Prop) : Gives (callN Try.prog known (n + 3) 67 [fv x, fv x]) m Q ↔ Q (.bool true) m := by
  refine gives_pure (fun m => ?_) m Q
  refine gives_fn (nt := 10) rfl Try.func67 rfl rfl rfl (Nat.le_of_ble_eq_true rfl) fun fr hn hd hargs => ?_
  have h0 : fr.at 0 = _ := hargs 0 _ rfl
  have h1 : fr.at 1 = _ := hargs 1 _ rfl
  clear hargs
  simp [h0, h1, hn, hd, run_fbits _ h]
theorem run_psame (n : Nat) {x : C} (h : NumC x) (m : Mem) (Q : Value → Mem → Prop) : Gives (callN Try.prog known (n + 4) 32 [cx x, cx x]) m Q ↔ Q (.bool true) m := by
  refine gives_pure (fun m => ?_) m Q
  refine gives_fn (nt := 17) rfl Try.func32 rfl rfl rfl (Nat.le_of_ble_eq_true rfl) fun fr hn hd hargs => ?_
  have h0 : fr.at 0 = _ := hargs 0 _ rfl
  have h1 : fr.at 1 = _ := hargs 1 _ rfl
  clear hargs
  simp [h0, h1, hn, hd, yieldX, run_fsame _ h.1, run_fsame _ h.2]
def slI (v w : Value) (n : Nat) (m : Mem) (j : Nat) (fr : Fr) (m' : Mem) : Prop := ∃ i, i + j = n ∧ fr.n = 29 ∧ fr.d = [] ∧ fr.at 0 = v ∧ fr.at 1 = w ∧ fr.at 5 = .int .i64 (i : Nat) ∧ Sm m m'
theorem samelist_ok (d : Nat) {m : Mem} {v w : Value} {n : Nat} {zs : Nat → C} {c : PG} (hv : PX m v n zs c) (hw : PX m w n zs c) (hn1 : n < 1000) {Q : Value → Mem → Prop} (hQ : ∀ m', Sm m m' → Q (.bool true) m') :
    Gives (callN Try.prog known (d + 4) 65 [v, w]) m Q := by
  refine gives_fn (nt := 29) rfl Try.func65 rfl rfl rfl (Nat.le_of_ble_eq_true rfl) fun fr hn hd hargs => ?_
  have h0 : fr.at 0 = _ := hargs 0 _ rfl
  have h1 : fr.at 1 = _ := hargs 1 _ rfl
  clear hargs
  obtain ⟨b, o, k, x, rfl, _, hb, _, he⟩ := hv
  obtain ⟨b2, o2, k2, x2, rfl, _, hb2, _, he2⟩ := hw
  simp [h0, h1, hn]
  refine code_loop (slI (.slice (some ⟨b, o, none⟩) n k) (.slice (some ⟨b2, o2, none⟩) n k2) n m) n (by omega) ⟨0, by omega, by simp [hn], by simp [hd], by simp [h0], by simp [h1], by simp, Sm.refl m⟩ ?_
  rintro j fr' m' ⟨i, hij, f1, f2, f0, g1, f5, hs⟩
  by_cases hi : i < n
  · obtain ⟨hz, hwz⟩ := he i hi
    obtain ⟨hz2, _⟩ := he2 i hi
    have hm : m'.at b = some x := by rw [hs.2]; exact hb
    have hm2 : m'.at b2 = some x2 := by rw [hs.2]; exact hb2
    have hw := wrap_succ i (by omega)
    simp [f1, f0, g1, f5, hi]
    refine code_draw_dyn (plan := [0, 0, 3, 7, 0, 0, 48, 112, 255, 511]) (by kernel_rfl) ?_
    simp [drawQ, apartAll, apartL, Nat.testBit, f1, f0, g1, f5, hi, idx_L _ _ _ _ _ _ hi, hm, hm2, hz, hz2, run_same2 _ hwz.num, hw]
    exact ⟨j - 1, by omega, i + 1, by omega, by simp [f1], by simp [f2], by simp [f0], by simp [g1], by simp, hs.trans ⟨by simp, fun c => by simp⟩⟩
  · simp [f1, f2, f0, g1, f5, hi]
    exact hQ _ hs
theorem fsame_ok (d : Nat) {m : Mem} {va vb vc vd : Value} {n k : Nat} {za zb : Nat → C} {a b : PG} (hw : MW m) (ha : PX m va n za a) (hb : PX m vb k zb b) (hc : PX m vc n za a) (hd : PX m vd k zb b) (hn1 : n < 1000) (hk1 : k < 1000) {Q : Value → Mem → Prop} (hQ : ∀ m', Up m m' → Q (.bool true) m') :
    Gives (callN Try.prog known (d + 5) 30 [frV va vb, frV vc vd]) m Q := by
  refine gives_fn (nt := 17) rfl Try.func30 rfl rfl rfl (Nat.le_of_ble_eq_true rfl) fun fr hn hdd hargs => ?_
  have h0 : fr.at 0 = _ := hargs 0 _ rfl
  have h1 : fr.at 1 = _ := hargs 1 _ rfl
  clear hargs
  simp [h0, h1, hn, ha.pl.one', hb.pl.one', hc.pl.one', hd.pl.one']
  have u1 : Up m ((((m.nw ⟨[va, vb], 1, false, false⟩).nw ⟨[vc, vd], 1, false, false⟩).rd m.next).rd (m.next + 1)) := (Up.nw _ _).trans ((Up.nw _ _).trans ((Up.rd _ _).trans (Up.rd _ _)))
  refine samelist_ok _ (ha.up hw u1) (hc.up hw u1) hn1 fun m2 hs2 => ?_
  simp [hn, yieldX, hs2.2]
  have u2 : Up m ((m2.rd m.next).rd (m.next + 1)) := u1.trans (hs2.up.trans ((Up.rd _ _).trans (Up.rd _ _)))
  refine samelist_ok _ (hb.up hw u2) (hd.up hw u2) hk1 fun m3 hs3 => ?_
  simp [hn, hdd, yieldX]
  exact hQ _ (u2.trans hs3.up)
theorem of10_ok (d : Nat) {m : Mem} {va vb : Value} (oa : oneV va = true) (ob : oneV vb = true) (ca : cellsV va = [va]) (cb : cellsV vb = [vb]) {Q : Value → Mem → Prop} (hQ : ∀ m', Up m m' → Q (frV va vb) m') :
    Gives (callN Try.prog known (d + 1) 21 [va, vb]) m Q := by
  refine gives_fn (nt := 8) rfl Try.func21 rfl rfl rfl (Nat.le_of_ble_eq_true rfl) fun fr hn hd hargs => ?_
  have h0 : fr.at 0 = _ := hargs 0 _ rfl
  have h1 : fr.at 1 = _ := hargs 1 _ rfl
  clear hargs
  simp [h0, h1, hn, build_F ca cb]
  refine storeQ_rule (y := ⟨[nilL, nilL], 1, false, false⟩) (by simp) rfl (by rw [sto_F]; simp [oa, ob]) (l := [va, vb]) (by simp [lay]) fun m2 n2 _ e2 => ?_
  simp only [Mem.next_nw, Mem.at_nw] at n2 e2
  simp [hd, e2]
  refine hQ _ ?_
  have u : Up m m2 := (Up.nw m ⟨[nilL, nilL], 1, false, false⟩).wr (b := m.next) (x := ⟨[va, vb], 1, false, false⟩) (Nat.le_refl _) (by simp) (by simpa using n2) (fun c => by rw [e2, Mem.at_nw])
  exact u.trans (Up.rd _ _)
theorem at10_ok (d : Nat) {m : Mem} {v : Value} {n : Nat} {zs : Nat → C} {c : PG} {z : C} {g : G} (hw : MW m) (hv : PX m v n zs c) (hc : OKP n c) (hz : WC z g) (hg : NB g far) {D : PG} {Z : G} (hD : ∀ k, BN (c k) (D k)) (hZ : BN g Z) (h1 : 1 ≤ Z.1) (ht : (hs n D Z).1 ≤ top)
    {Q : Value → Mem → Prop} (hQ : ∀ m', Up m m' → WC (ctl zs z (n - 1) 0) (hs n c g) → Q (.tuple ⟨[cx (ctl zs z (n - 1) 0), .bool true]⟩) m') :
    Gives (callN Try.prog known (d + 11) 28 [v, cx z]) m Q := by
  refine gives_fn (nt := 17) rfl Try.func28 rfl rfl rfl (Nat.le_of_ble_eq_true rfl) fun fr hn hd hargs => ?_
  have h0 : fr.at 0 = _ := hargs 0 _ rfl
  have h1 : fr.at 1 = _ := hargs 1 _ rfl
  clear hargs
  simp [h0, h1, hn]
  refine at_okx d hw hv hc hz hg hD hZ ‹1 ≤ Z.1› ht fun m' hu hwu => ?_
  simp [hn, hd, extractX]
  exact hQ m' hu hwu
theorem at10_rp (d : Nat) {m : Mem} {v : Value} {n : Nat} {c : PG} {z : C} {g : G} (hw : MW m) (hv : RP m v n c) (hz : WC z g) (hg : NB g far) {D : PG} {Z : G} (hD : ∀ k, BN (c k) (D k)) (hZ : BN g Z) (h1 : 1 ≤ Z.1) (ht : (hs n D Z).1 ≤ top)
    {Q : Value → Mem → Prop} (hQ : ∀ m' u, Up m m' → WC u (hs n c g) → Q (.tuple ⟨[cx u, .bool true]⟩) m') :
    Gives (callN Try.prog known (d + 11) 28 [v, cx z]) m Q := by
  obtain ⟨zs, hx⟩ := hv.pl.px
  exact at10_ok d hw hx hv.ok hz hg hD hZ h1 ht fun m' hu hwu => hQ m' _ hu hwu
end
end Go.Proofs.Ytonmjdhdkkmjlaa
