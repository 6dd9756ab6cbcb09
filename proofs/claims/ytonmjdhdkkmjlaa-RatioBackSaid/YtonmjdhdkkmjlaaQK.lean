/- The law of chapter 8 in the clean executor: small polynomials of whole numbers; what is like. -/
import Derived.Test.YtonmjdhdkkmjlaaQJ
namespace Go.Proofs.Ytonmjdhdkkmjlaa
open Go.Clean

theorem bin_fz {P : Program} {t : TypeId} {xo yo : Operand} (x : F) : binX P .eql t xo yo (fv x) (.float .f64 0) = some (.bool (feq x (some 0))) := bin_z x
def fm3 : F := some 13837309855095848960
theorem WF.m3 : WF fm3 (-3) := by
  have h := WF.int (-3) (by decide)
  have e : Ieee.double.write (.number (decide ((-3 : Int) < 0)) (-3 : Int).natAbs 0) = 13837309855095848960 := by decide
  rw [e] at h
  exact h
theorem fv_m3 : Value.float .f64 13837309855095848960 = fv fm3 := by unfold fv; rw [show cOf fm3 = 13837309855095848960 by decide]
theorem run_m3 (n : Nat) (m : Mem) (Q : Value → Mem → Prop) : Gives (callN Try.prog known (n + 2) 8 [.float .f64 0, .float .f64 13837309855095848960]) m Q ↔ Q (cx (some 0, fm3)) m := by
  rw [fv_zero, fv_m3]
  exact run_of8 n _ _ m Q
/-! ### Small whole numbers -/
theorem isNo_WF {b : Nat} {n : Int} (h : WF (some b) n) : isNo b = false := by
  obtain ⟨b', e, s, m, k, h1, _⟩ := h
  cases e
  unfold isNo
  rw [h1]; rfl
theorem cOf_WF {b : Nat} {n : Int} (h : WF (some b) n) : cOf (some b) = b := canon_yes (isNo_WF h)
def nine (n : Int) : Int := n.tmod 9
theorem nine_abs (n : Int) : (nine n).natAbs ≤ 8 := by
  unfold nine
  rw [Int.natAbs_tmod]
  have := Nat.mod_lt n.natAbs (show 0 < (9 : Int).natAbs by decide)
  have e : (9 : Int).natAbs = 9 := rfl
  rw [e] at this ⊢
  omega
def wholeF (n : Int) : F := some (Ieee.double.write (.number (decide (nine n < 0)) (nine n).natAbs 0))
theorem WF.whole (n : Int) : WF (wholeF n) (nine n) := WF.int (nine n) (by have := nine_abs n; omega)
@[simp] theorem bin_rem9 (xo yo : Operand) (a : Int) : binX Try.prog .rem 3 xo yo (.int .i64 a) (.int .i64 9) = some (.int .i64 (nine a)) := rfl
theorem conv_int (n : Int) : convX Try.prog 3 28 (.int .i64 n) = some (.float .f64 (Ieee.double.write (.number (decide (n < 0)) n.natAbs 0))) := by kernel_rfl
@[simp] theorem conv_nine (n : Int) : convX Try.prog 3 28 (.int .i64 (nine n)) = some (fv (wholeF n)) := by
  rw [conv_int]
  unfold fv wholeF
  rw [cOf_WF (WF.whole n)]
section
set_option maxRecDepth 10000
theorem run_whole (n : Nat) (a : Int) (m : Mem) (Q : Value → Mem → Prop) : Gives (callN Try.prog known (n + 1) 9 [.int .i64 a]) m Q ↔ Q (fv (wholeF a)) m := by
  refine gives_pure (fun m => ?_) m Q
  refine gives_fn (nt := 6) rfl Try.func9 rfl rfl rfl (Nat.le_of_ble_eq_true rfl) fun fr hn hd hargs => ?_
  have h0 : fr.at 0 = _ := hargs 0 _ rfl
  clear hargs
  simp [h0, hn, hd]
/-- A list of whole numbers, maybe none. -/
def IL (m : Mem) (v : Value) (n : Nat) (xs : Nat → Int) : Prop := ∃ a k, v = .slice a n k ∧ (n = 0 ∨ ∃ b o x, a = some ⟨b, o, none⟩ ∧ m.at b = some x ∧ ∀ i, i < n → x.cells[o + i]? = some (.int .i64 (xs i)))
theorem IL.up {m m' : Mem} {v : Value} {n : Nat} {xs : Nat → Int} (h : IL m v n xs) (hw : MW m) (u : Up m m') : IL m' v n xs := by
  obtain ⟨a, k, h1, h2⟩ := h
  refine ⟨a, k, h1, ?_⟩
  rcases h2 with h2 | ⟨b, o, x, e1, e2, e3⟩
  · exact .inl h2
  · exact .inr ⟨b, o, x, e1, u.at e2 hw, e3⟩
def cs8 (xs : Nat → Int) : PG := fun t => (nine (xs (2 * t)), nine (xs (2 * t + 1)))
theorem cs8_near (xs : Nat → Int) (t : Nat) : NB (cs8 xs t) 12 := by
  have h1 := nine_abs (xs (2 * t))
  have h2 := nine_abs (xs (2 * t + 1))
  have k1 : nine (xs (2 * t)) * nine (xs (2 * t)) ≤ 64 := by
    have : (nine (xs (2 * t))).natAbs * (nine (xs (2 * t))).natAbs ≤ 8 * 8 := Nat.mul_le_mul h1 h1
    have e := Int.natAbs_mul_self (a := nine (xs (2 * t)))
    omega
  have k2 : nine (xs (2 * t + 1)) * nine (xs (2 * t + 1)) ≤ 64 := by
    have : (nine (xs (2 * t + 1))).natAbs * (nine (xs (2 * t + 1))).natAbs ≤ 8 * 8 := Nat.mul_le_mul h2 h2
    have e := Int.natAbs_mul_self (a := nine (xs (2 * t + 1)))
    omega
  show nine (xs (2 * t)) * nine (xs (2 * t)) + nine (xs (2 * t + 1)) * nine (xs (2 * t + 1)) ≤ 12 * 12
  omega
/-- A small polynomial: at most the degree 6, whole coefficients, the last not nought. -/
structure OKS (n : Nat) (c : PG) : Prop where
  pos : 0 < n
  most : n ≤ 7
  ends : Ends c n
  near : ∀ i, NB (c i) 12
  last : c (n - 1) ≠ g0
def smI (m : Mem) (va : Value) (n : Nat) (xs : Nat → Int) (q : Nat) (fr : Fr) (m' : Mem) : Prop := ∃ r v l b, r + q = 7 ∧ fr.n = 58 ∧ fr.d = [] ∧ fr.at 0 = va ∧ fr.at 3 = v ∧ fr.at 4 = .int .i64 ((2 * r : Nat) : Int) ∧ Up m m' ∧ CL l r (cs8 xs) ∧ ((l = [] ∧ v = .slice none 0 0) ∨ (l ≠ [] ∧ v = .slice (some ⟨b, 0, none⟩) l.length l.length ∧ m'.at b = some ⟨l, 1, true, false⟩ ∧ b ≠ m'.next)) ∧ (l ≠ [] → m.next ≤ b ∧ b < m'.next)
def smR (m : Mem) (xs : Nat → Int) (r : Ex × Fr) (m' : Mem) : Prop := r.1 = .exit 0 ∧ ∃ k v l b, k ≤ 7 ∧ r.2.n = 58 ∧ r.2.d = [] ∧ r.2.at 3 = v ∧ Up m m' ∧ CL l k (cs8 xs) ∧ ((l = [] ∧ v = .slice none 0 0) ∨ (l ≠ [] ∧ v = .slice (some ⟨b, 0, none⟩) l.length l.length ∧ m'.at b = some ⟨l, 1, true, false⟩ ∧ b ≠ m'.next)) ∧ (l ≠ [] → m.next ≤ b ∧ b < m'.next)
theorem small_ok (d : Nat) {m : Mem} {va : Value} {n : Nat} {xs : Nat → Int} (hw : MW m) (hv : IL m va n xs) {Q : Value → Mem → Prop}
    (hQ : ∀ m' b cells gr k c, Up m m' → m.next ≤ b → b < m'.next → m'.at b = some ⟨cells, 1, gr, false⟩ → CL cells k c → OKS k c → Q (.slice (some ⟨b, 0, none⟩) k k) m') :
    Gives (callN Try.prog known (d + 4) 7 [va]) m Q := by
  refine gives_fn (nt := 58) rfl Try.func7 rfl rfl rfl (Nat.le_of_ble_eq_true rfl) fun fr hn hd hargs => ?_
  have h0 : fr.at 0 = _ := hargs 0 _ rfl
  clear hargs
  obtain ⟨a, ka, hva, hel⟩ := id hv
  have hlen : lenX Try.prog 22 va = some (.int .i64 n) := by rw [hva]; exact len_I _ _ _
  simp [h0, hn]
  refine code_loop_post (smR m xs) (smI m va n xs) 7 (by omega) ⟨0, .slice none 0 0, [], 0, by omega, by simp [hn], by simp [hd], by simp [h0], by simp, by simp, Up.refl m, ⟨rfl, fun i hi => by omega⟩, .inl ⟨rfl, rfl⟩, fun h => absurd rfl h⟩ ?_ ?_
  · rintro q fr' m' ⟨r, v, l, b, hrq, f1, f2, f0, f3, f4, hu, hcl, hl, hb⟩
    have hll : l.length = r := hcl.1
    have hlv : lenX Try.prog 24 v = some (.int .i64 r) := by
      rcases hl with ⟨rfl, rfl⟩ | ⟨_, rfl, _⟩
      · rw [len_L, ← hll]; rfl
      · rw [len_L, hll]
    obtain ⟨i0, hi0⟩ : ∃ i0, i0 = 2 * r := ⟨_, rfl⟩
    obtain ⟨i1, hi1⟩ : ∃ i1, i1 = 2 * r + 1 := ⟨_, rfl⟩
    rw [← hi0] at f4
    have hw1 : IntKind.i64.wrap ((i0 : Int) + 1) = (i1 : Int) := by rw [hi0, hi1]; exact wrap_succ (2 * r) (by omega)
    have hw2 : IntKind.i64.wrap ((i0 : Int) + 2) = ((2 * (r + 1) : Nat) : Int) := by rw [hi0]; exact wrap_add (2 * r) 2 (by omega)
    by_cases hi : i1 < n
    · by_cases hr : r < 7
      · obtain ⟨b0, o0, x0, ha0, hb0, hx0⟩ := hel.resolve_left (by omega)
        have f0' : fr'.at 0 = .slice (some ⟨b0, o0, none⟩) n ka := by rw [f0, hva, ha0]
        have hm : m'.at b0 = some x0 := hu.at hb0 hw
        have hb0n : b0 < m.next := hw b0 x0 hb0
        simp [f1, f0', f3, f4, hlv, hw1, yieldX, hi, show (r : Int) < 7 by omega]
        refine code_draw_dyn (plan := [0, 0, 0, 6, 14, 30, 0, 0, 128, 448, 960, 2046, 4094, 8190, 16383, 32767]) (by kernel_rfl) ?_
        have hz : WC (wholeF (xs i0), wholeF (xs i1)) (cs8 xs r) := by rw [hi0, hi1]; exact ⟨WF.whole _, WF.whole _⟩
        simp [drawQ, apartAll, apartL, Nat.testBit, f1, f0', f3, f4, hw1, idx_I _ _ _ _ _ _ hi, idx_I _ _ _ _ _ _ (show i0 < n by omega), hm, hx0 i0 (by omega), hx0 i1 (by omega), run_whole, run_of8]
        refine gives_build1 bs_L (cells_cx _) (one_cx _) ?_
        simp [drawQ, apartAll, apartL, Nat.testBit, f1]
        have hpush : ∀ (b' : Nat) (m5 : Mem), (l = [] → b' = m'.next + 1) → (l ≠ [] → b' = b) → m5.next = m'.next + 1 + 1 → m5.at (m'.next + 1) = some ⟨l ++ [cx (wholeF (xs i0), wholeF (xs i1))], 1, true, false⟩ →
            (∀ c, c ≠ b' → c ≠ m'.next + 1 → m5.at c = if c = m'.next then some ⟨[cx (wholeF (xs i0), wholeF (xs i1))], 1, false, false⟩ else m'.at c) → Up m m5 := fun b' m5 h1 h2 h3 h4 h5 => by
          have hbm : m.next ≤ b' := by
            by_cases hl0 : l = []
            · rw [h1 hl0]; have := hu.next; omega
            · rw [h2 hl0]; exact (hb hl0).1
          have hn := hu.next
          refine ⟨by omega, fun c hc => ?_, fun w c y hc => ?_⟩
          · rw [h5 c (by omega) (by omega), if_neg (by omega)]; exact hu.old c hc
          · by_cases hc1 : c = b'
            · by_cases hl0 : l = []
              · rw [hc1, h1 hl0]; omega
              · rw [hc1, h2 hl0]; have := (hb hl0).2; omega
            · by_cases hc2 : c = m'.next + 1
              · omega
              · rw [h5 c hc1 hc2] at hc
                split at hc
                · omega
                · have := hu.wf w c y hc; omega
        have hcl' : CL (l ++ [cx (wholeF (xs i0), wholeF (xs i1))]) (r + 1) (cs8 xs) := hcl.push hz fun _ _ => rfl
        rcases hl with ⟨hl0, hv0⟩ | ⟨hl0, hv0, hlb, hbne⟩
        · subst hl0
          subst hv0
          refine gives_push app_L (b := m'.next + 1) (l := []) (x := cx (wholeF (xs i0), wholeF (xs i1))) (by simp) (.inl ⟨rfl, rfl⟩) rfl (one_cx _) (by simp) fun m5 h3 h4 h5 => ?_
          simp only [Mem.next_lg, Mem.next_nw, Mem.at_lg, Mem.at_nw] at h3 h4 h5
          simp [drawQ, apartAll, apartL, Nat.testBit, f1, f4, hw2]
          have hup := hpush (m'.next + 1) m5 (fun _ => rfl) (fun h => absurd rfl h) h3 h4 h5
          refine ⟨q - 1, by omega, r + 1, .slice (some ⟨m'.next + 1, 0, none⟩) 1 1, [cx (wholeF (xs i0), wholeF (xs i1))], m'.next + 1, by omega, by simp [f1], by simp [f2], by simp [f0], by simp, by simp, hup.trans (Up.same (by simp) fun c => by simp), hcl', .inr ⟨by simp, rfl, by simpa using h4, by simp; omega⟩, fun _ => ⟨by have := hu.next; omega, by simp; omega⟩⟩
        · have hbm := hb hl0
          subst hv0
          refine gives_push app_L (b := b) (l := l) (x := cx (wholeF (xs i0), wholeF (xs i1))) (by simp) (.inr ⟨hl0, rfl, by simp [show b ≠ m'.next by omega, hlb], by simp; omega⟩) hcl.one (one_cx _) (by omega) fun m5 h3 h4 h5 => ?_
          simp only [Mem.next_lg, Mem.next_nw, Mem.at_lg, Mem.at_nw] at h3 h4 h5
          simp [drawQ, apartAll, apartL, Nat.testBit, f1, f4, hw2]
          have hup := hpush b m5 (fun h => absurd h hl0) (fun _ => rfl) h3 h4 h5
          refine ⟨q - 1, by omega, r + 1, .slice (some ⟨m'.next + 1, 0, none⟩) (l.length + 1) (l.length + 1), l ++ [cx (wholeF (xs i0), wholeF (xs i1))], m'.next + 1, by omega, by simp [f1], by simp [f2], by simp [f0], by simp, by simp, hup.trans (Up.same (by simp) fun c => by simp), hcl', .inr ⟨by simp, by simp, by simpa using h4, by simp; omega⟩, fun _ => ⟨by have := hu.next; omega, by simp; omega⟩⟩
      · simp [f1, f0, f3, f4, hlen, hlv, hw1, yieldX, hi, show ¬ (r : Int) < 7 by omega]
        exact ⟨rfl, r, v, l, b, by omega, by simp [f1], by simp [f2], by simp [f3], hu, hcl, hl, hb⟩
    · simp [f1, f0, f3, f4, hlen, hlv, hw1, yieldX, hi]
      exact ⟨rfl, r, v, l, b, by omega, by simp [f1], by simp [f2], by simp [f3], hu, hcl, hl, hb⟩
  · rintro ⟨e, fr'⟩ m' ⟨he', r, v, l, b, hr7, f1, f2, f3, hu, hcl, hl, hb⟩
    obtain rfl : e = .exit 0 := he'
    simp only at f1 f2 f3
    rcases hl with ⟨rfl, rfl⟩ | ⟨hne, rfl, hlb, _⟩
    · simp [f1, f3, cx_one]
      refine gives_build1 bs_L (cells_cx _) (one_cx _) ?_
      simp [f1, f2]
      have h1 := hu.next
      have hone : CL [cx (some 4607182418800017408, some 0)] 1 fun t => if t = 0 then g1 else g0 := by
        refine ⟨rfl, fun i hi => ?_⟩
        obtain rfl : i = 0 := by omega
        exact ⟨_, rfl, WC.one⟩
      exact hQ _ m'.next [cx (some 4607182418800017408, some 0)] false 1 (fun t => if t = 0 then g1 else g0) (hu.trans (Up.nw _ _)) h1 (by simp) (by simp) hone
        ⟨by omega, by omega, fun t ht => by rw [if_neg (by omega)], fun t => by
          show NB (if t = 0 then g1 else g0) 12
          split <;> (unfold NB; decide), by decide⟩
    · have hll : l.length = r := hcl.1
      have hr0 : 0 < r := by
        rw [← hll]
        exact List.length_pos_iff.2 hne
      obtain ⟨hb1, hb2⟩ := hb hne
      rw [hll] at f3
      obtain ⟨z, hz, hwz⟩ := hcl.2 (r - 1) (by omega)
      have hp := wrap_pred r hr0 (by omega)
      have hend : ∀ (g : G) (t : Nat), (if t < r then (if t = r - 1 then g else cs8 xs t) else g0) = if t = r - 1 then g else if t < r then cs8 xs t else g0 := fun g t => by
        by_cases h1 : t = r - 1
        · rw [if_pos (by omega), if_pos h1, if_pos h1]
        · by_cases h2 : t < r
          · rw [if_pos h2, if_neg h1, if_neg h1, if_pos h2]
          · rw [if_neg h2, if_neg h1, if_neg h2]
      have hkeep : cnought z = false → ∀ m2 : Mem, Sm m' m2 → Q (.slice (some ⟨b, 0, none⟩) r r) m2 := fun hz0 m2 hs2 => by
        have hne0 : cs8 xs (r - 1) ≠ g0 := by
          rw [hwz.nought] at hz0
          exact of_decide_eq_false hz0
        refine hQ m2 b l true r (fun t => if t < r then cs8 xs t else g0) (hu.trans hs2.up) hb1 (by rw [hs2.1]; exact hb2) (by rw [hs2.2]; exact hlb) (hcl.congr fun t ht => by rw [if_pos ht]) ⟨hr0, hr7, fun t ht => if_neg (by omega), fun t => ?_, ?_⟩
        · show NB (if t < r then cs8 xs t else g0) 12
          split
          · exact cs8_near xs t
          · unfold NB; decide
        · show (if r - 1 < r then cs8 xs (r - 1) else g0) ≠ g0
          rw [if_pos (by omega)]
          exact hne0
      cases hfz : feq z.1 (some 0) with
      | true =>
        cases hfi : feq z.2 (some 0) with
        | true =>
          simp [f1, f2, f3, show ¬ r = 0 by omega, hp, idx_L _ _ _ _ _ _ (show r - 1 < r by omega), hlb, hz, yieldX, bin_fz, hfz, hfi, run_m3]
          refine storeQ_one (cs := l) (sz := 1) (gr := true) (by simp [hlb]) (by simp) (cells_cx _) (by omega) fun m4 n4 _ e4 => ?_
          simp only [Mem.next_rd, Mem.at_rd] at n4 e4
          simp [f1, f2, f3]
          have hset : CL (l.set (r - 1) (cx (some 0, fm3))) r (fun t => if t = r - 1 then ((0, -3) : G) else if t < r then cs8 xs t else g0) := hcl.set (by omega) ⟨WF.zero, WF.m3⟩ fun t ht => by
            by_cases h1 : t = r - 1
            · rw [if_pos h1, if_pos h1]
            · rw [if_neg h1, if_neg h1, if_pos ht]
          refine hQ m4 b _ true r _ (hu.wr (b := b) hb1 hb2 n4 e4) hb1 (by omega) (by rw [e4, if_pos rfl]) hset ⟨hr0, hr7, fun t ht => by rw [if_neg (by omega), if_neg (by omega)], fun t => ?_, ?_⟩
          · show NB (if t = r - 1 then ((0, -3) : G) else if t < r then cs8 xs t else g0) 12
            split
            · unfold NB; decide
            · split
              · exact cs8_near xs t
              · unfold NB; decide
          · show (if r - 1 = r - 1 then ((0, -3) : G) else _) ≠ g0
            rw [if_pos rfl]; decide
        | false =>
          simp [f1, f2, f3, show ¬ r = 0 by omega, hp, idx_L _ _ _ _ _ _ (show r - 1 < r by omega), hlb, hz, yieldX, bin_fz, hfz, hfi]
          exact hkeep (by unfold cnought; rw [hfi]; simp) _ (Sm.rd _ _)
      | false =>
        simp [f1, f2, f3, show ¬ r = 0 by omega, hp, idx_L _ _ _ _ _ _ (show r - 1 < r by omega), hlb, hz, yieldX, bin_fz, hfz]
        exact hkeep (by unfold cnought; rw [hfz]; simp) _ (Sm.rd _ _)
end
end Go.Proofs.Ytonmjdhdkkmjlaa
