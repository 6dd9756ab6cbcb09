/- Polynomials in the clean executor: those of zeros. -/
import Derived.Test.YtigbkoadojjajaaGreatQEZ
set_option linter.unusedSimpArgs false
set_option linter.unusedVariables false
namespace Go.Proofs.YtigbkoadojjajaaGreat
open Go.Clean

/-- A list of zeros, maybe none. -/
def ZL (m : Mem) (v : Value) (n : Nat) (c : PG) : Prop := ∃ a k, v = .slice a n k ∧ (n = 0 ∨ PL m v n c)
theorem ZL.of {m : Mem} {v : Value} {n : Nat} {c : PG} (h : PL m v n c) : ZL m v n c := by
  obtain ⟨b, o, k, x, rfl, h2⟩ := id h
  exact ⟨_, k, rfl, .inr h⟩
theorem ZL.get {m : Mem} {v : Value} {n : Nat} {c : PG} (h : ZL m v n c) {i : Nat} (hi : i < n) : ∃ b o k x z, v = .slice (some ⟨b, o, none⟩) n k ∧ m.at b = some x ∧ x.cells[o + i]? = some (cx z) ∧ WC z (c i) := by
  obtain ⟨a, k, rfl, h⟩ := h
  rcases h with h | ⟨b, o, k', x, h1, _, h2, _, h3⟩
  · omega
  · obtain ⟨z, hz, hw⟩ := h3 i hi
    exact ⟨b, o, k', x, z, h1, h2, hz, hw⟩
theorem cx_one : Value.complex .f64 4607182418800017408 0 = cx (some 4607182418800017408, some 0) := by unfold cx; rw [cOf_zero, cOf_one]
theorem WC.one : WC (some 4607182418800017408, some 0) g1 := ⟨WF.one, WF.zero⟩
section
set_option maxRecDepth 10000
structure OF (fr : Fr) (va : Value) (n bo i len : Nat) : Prop where
  fn : fr.n = 79
  fd : fr.d = []
  a6 : fr.at 6 = .slice (some ⟨bo, 0, none⟩) len (n + 1)
  a29 : fr.at 29 = va
  a30 : fr.at 30 = .int .i64 n
  a31 : fr.at 31 = .int .i64 (i : Nat)
structure OM (m m' : Mem) (bo n : Nat) (c : PG) : Prop where
  up : Up m m'
  bo1 : m.next ≤ bo
  bo2 : bo < m'.next
  ex : ∃ cells, m'.at bo = some ⟨cells, 1, false, false⟩ ∧ CL cells n c
theorem OM.keep {m m' m2 : Mem} {bo n : Nat} {c e : PG} (h : OM m m' bo n c) (hs : Sm m' m2) (he : ∀ t, t < n → e t = c t) : OM m m2 bo n e := by
  obtain ⟨h1, h2, h3, cells, q1, q2⟩ := h
  exact ⟨h1.trans hs.up, h2, by rw [hs.1]; exact h3, cells, by rw [hs.2]; exact q1, q2.congr fun t ht => (he t ht).symm⟩
def oaI (va : Value) (n : Nat) (m : Mem) (j : Nat) (fr : Fr) (m' : Mem) : Prop := ∃ i, i + j = n ∧ fr.n = 79 ∧ fr.d = [] ∧ fr.at 0 = va ∧ fr.at 13 = va ∧ fr.at 14 = .int .i64 n ∧ fr.at 15 = .int .i64 (i : Nat) ∧ Sm m m'
def oaR (va : Value) (m : Mem) (r : Ex × Fr) (m' : Mem) : Prop := r.1 = .exit 0 ∧ r.2.n = 79 ∧ r.2.d = [] ∧ r.2.at 0 = va ∧ Sm m m'
def obI (m : Mem) (va : Value) (n bo : Nat) (zs : PG) (q : Nat) (fr : Fr) (m' : Mem) : Prop := ∃ i L, i + q = n ∧ L = i + 1 ∧ OF fr va n bo i L ∧ OM m m' bo (n + 1) (ofZ zs i)
def obJ (m : Mem) (va : Value) (n bo i L : Nat) (z : C) (zs : PG) (q : Nat) (fr : Fr) (m' : Mem) : Prop := q ≤ i ∧ OF fr va n bo i L ∧ fr.at 8 = cx z ∧ fr.at 9 = .int .i64 (q : Nat) ∧ OM m m' bo (n + 1) fun t => if q < t then ofZ zs (i + 1) t else ofZ zs i t
def obS (m : Mem) (va : Value) (n bo i L : Nat) (z : C) (zs : PG) (r : Ex × Fr) (m' : Mem) : Prop := r.1 = .exit 4 ∧ OF r.2 va n bo i L ∧ r.2.at 8 = cx z ∧ OM m m' bo (n + 1) fun t => if 0 < t then ofZ zs (i + 1) t else ofZ zs i t
def obR (m : Mem) (n bo : Nat) (zs : PG) (r : Ex × Fr) (m' : Mem) : Prop := r.1 = .exit 2 ∧ r.2.n = 79 ∧ r.2.d = [] ∧ r.2.at 6 = .slice (some ⟨bo, 0, none⟩) (n + 1) (n + 1) ∧ OM m m' bo (n + 1) (ofZ zs n)
theorem ofB_grow {z : PG} {Z : G} (hZ : ∀ i, BN (z i) Z) (i t : Nat) : (gmul Z (ofB Z i t)).1 ≤ (ofB Z (i + 1) t).1 := by
  have h := (BN.up (BN.ofZ hZ i) 1 t).1
  show _ ≤ (YtigbkoadojjajaaGreat.up 1 (ofB Z i) t).1 + (gmul Z (ofB Z i t)).1
  omega
theorem of_ok (d : Nat) {m : Mem} {va : Value} {n : Nat} {zs : PG} (hw : MW m) (hv : ZL m va n zs) (hn1 : n ≤ 64) (hz : ∀ i, NB (zs i) far) {Z : G} (hZ : ∀ i, BN (zs i) Z) (ht : ∀ i t, i ≤ n → (ofB Z i t).1 ≤ far)
    {Q : Value → Mem → Prop} (hQ : ∀ m' v n', Up m m' → n' ≤ n + 1 → RP m' v n' (ofZ zs n) → Q (.tuple ⟨[v, .int .i64 0]⟩) m') :
    Gives (callN Tryz.prog known (d + 10) 20 [va]) m Q := by
  refine gives_fn (nt := 79) rfl Tryz.func20 rfl rfl rfl (Nat.le_of_ble_eq_true rfl) fun fr hn hd hargs => ?_
  have h0 : fr.at 0 = _ := hargs 0 _ rfl
  clear hargs
  obtain ⟨a, ka, hva, _⟩ := id hv
  have hlen : lenX Tryz.prog 33 va = some (.int .i64 n) := by rw [hva]; exact len_L _ _ _
  simp [h0, hn, hlen, show ¬ 64 < (n : Int) by omega]
  refine code_loop_post (oaR va m) (oaI va n m) n (by omega) ⟨0, by omega, by simp [hn], by simp [hd], by simp [h0], by simp, by simp, by simp, Sm.refl m⟩ ?_ ?_
  · rintro j fr' m' ⟨i, hij, f1, f2, f0, f13, f14, f15, hs⟩
    by_cases hi : i < n
    · obtain ⟨b, o, k, x, z, rfl, hb, hx, hwz⟩ := hv.get hi
      have hm : m'.at b = some x := by rw [hs.2]; exact hb
      have hwi := wrap_succ i (by omega)
      simp [f1, f13, f14, f15, hi, idx_L _ _ _ _ _ _ hi, hm, hx, run_place, hwz.place (hz i), hwi]
      exact ⟨j - 1, by omega, i + 1, by omega, by simp [f1], by simp [f2], by simp [f0], by simp [f13], by simp [f14], by simp, hs.trans (Sm.rd _ _)⟩
    · simp [f1, f14, f15, hi]
      exact ⟨rfl, by simp [f1], by simp [f2], by simp [f0], hs⟩
  · rintro ⟨e, fr'⟩ m' ⟨he', f1, f2, f0, hs⟩
    obtain rfl : e = .exit 0 := he'
    simp only at f1 f2 f0
    obtain ⟨N, hN⟩ : ∃ N, N = n + 1 := ⟨_, rfl⟩
    have hwn : IntKind.i64.wrap ((n : Int) + 1) = (N : Int) := by rw [hN]; exact wrap_succ n (by omega)
    simp [f1, f0, hlen, hwn]
    refine gives_make (l := 0) mk_L (by omega) (by omega) ?_
    simp [f1, cx_one]
    refine gives_build1 bs_L (cells_cx _) (one_cx _) ?_
    simp [f1]
    refine gives_append_room (cells := List.replicate N (.complex .f64 0 0)) (gr := false) (v := cx (some 4607182418800017408, some 0)) (by simp) (by simp) (one_cx _) (by omega) (by simp) (by omega) ?_
    simp [f1, f0, hlen]
    have hb0 := hs.1
    have hu0 : Up m ((m'.nw ⟨List.replicate N (.complex .f64 0 0), 1, false, false⟩).nw ⟨[cx (some 4607182418800017408, some 0)], 1, false, false⟩) := hs.up.trans ((Up.nw _ _).trans (Up.nw _ _))
    have hcl0 : CL ((List.replicate N (Value.complex .f64 0 0)).set 0 (cx (some 4607182418800017408, some 0))) N (ofZ zs 0) := (CL.zeros N).set (by omega) WC.one fun k _ => rfl
    refine code_loop_post (obR m n m'.next zs) (obI m va n m'.next zs) n (by omega) ⟨0, 1, by omega, rfl, ⟨by simp [f1], by simp [f2], by simp [hN], by simp, by simp, by simp⟩, ⟨?_, by omega, by simp; omega, _, by simp; rfl, by rw [← hN]; exact hcl0⟩⟩ ?_ ?_
    · exact (hu0.trans ((Up.rd _ (m'.next + 1)).trans (Up.rd _ m'.next))).wr (b := m'.next) (x := ⟨(List.replicate N (Value.complex .f64 0 0)).set 0 (cx (some 4607182418800017408, some 0)), 1, false, false⟩) (by omega) (by simp; omega) (by simp) (fun c => by simp)
    · clear hcl0 hu0 f1 f2 f0
      rintro q fr2 m2 ⟨i, L, hiq, hL, ⟨f1, f2, f6, f29, f30, f31⟩, hM⟩
      by_cases hi : i < n
      · obtain ⟨b, o, k, x, z, rfl, hb, hx, hwz⟩ := hv.get hi
        obtain ⟨u1, u2, u3, cs, p1, p2⟩ := hM
        have hm : m2.at b = some x := u1.at hb hw
        obtain ⟨w, hwv, hww⟩ := p2.2 i (by omega)
        have hwi := wrap_succ i (by omega)
        have hw1 : IntKind.i64.wrap ((L : Int) - 1) = (i : Int) := by
          have := wrap_pred L (by omega) (by omega)
          rw [this]; omega
        simp [f1, f6, f29, f30, f31, hi, idx_L _ _ _ _ _ _ hi, hm, hx, hw1, idx_L _ _ _ _ _ _ (show i < L by omega), p1, hwv]
        refine gives_build1 bs_L (cells_cx _) (one_cx _) ?_
        simp [f1]
        refine gives_append_room (cells := cs) (gr := false) (v := cx w) (by simp [show m'.next ≠ m2.next by omega, p1]) (by simp) (one_cx _) (by omega) p2.1 (by omega) ?_
        obtain ⟨L2, hL2⟩ : ∃ L2, L2 = L + 1 := ⟨_, rfl⟩
        rw [← hL2]
        have hw2 : IntKind.i64.wrap ((L2 : Int) - 2) = (i : Int) := by
          have := wrap_add i 0 (by omega)
          rw [show ((L2 : Int) - 2) = (i : Int) + ((0 : Nat) : Int) by omega]
          rw [this]; rfl
        simp [f1, hw2]
        have hM2 : OM m ((((m2.rd b).rd m'.next).nw ⟨[cx w], 1, false, false⟩).rd m2.next |>.rd m'.next |>.wr m'.next (some ⟨cs.set L (cx w), 1, false, false⟩)) m'.next (n + 1) fun t => if i < t then ofZ zs (i + 1) t else ofZ zs i t := by
          have hua : Up m (((m2.rd b).rd m'.next).nw ⟨[cx w], 1, false, false⟩) := u1.trans ((Up.rd _ _).trans ((Up.rd _ _).trans (Up.nw _ _)))
          refine ⟨(hua.trans ((Up.rd _ m2.next).trans (Up.rd _ m'.next))).wr (b := m'.next) (x := ⟨cs.set L (cx w), 1, false, false⟩) u2 (by simp; omega) (by simp) (fun c => by simp), u2, by simp; omega, cs.set L (cx w), by simp, p2.set (g := ofZ zs i i) (by omega) hww fun t ht => ?_⟩
          by_cases h1 : t = L
          · rw [h1, if_pos (by omega), if_pos rfl, hL]
            show gsub (YtigbkoadojjajaaGreat.up 1 (ofZ zs i) (i + 1)) (gmul (zs i) (ofZ zs i (i + 1))) = _
            rw [ofZ_ends zs i (i + 1) (Nat.le_refl _), gmul_zero, gsub_zero]
            unfold YtigbkoadojjajaaGreat.up
            rw [if_pos (by omega), Nat.add_sub_cancel]
          · rw [if_neg h1]
            by_cases h2 : i < t
            · rw [if_pos h2, ofZ_ends zs (i + 1) t (by omega), ofZ_ends zs i t (by omega)]
            · rw [if_neg h2]
        refine code_loop_post (obS m (.slice (some ⟨b, o, none⟩) n k) n m'.next i L2 z zs) (obJ m (.slice (some ⟨b, o, none⟩) n k) n m'.next i L2 z zs) i (by omega) ⟨Nat.le_refl _, ⟨by simp [f1], by simp [f2], by simp, by simp [f29], by simp [f30], by simp [f31]⟩, by simp, by simp, hM2⟩ ?_ ?_
        · clear hM2 f1 f2 f6 f29 f30 f31 p1 p2 hwv
          rintro r fr3 m3 ⟨hr, ⟨f1, f2, f6, f29, f30, f31⟩, f8, f9, hM⟩
          by_cases hr0 : 0 < r
          · obtain ⟨v1, v2, v3, cs, p1, p2⟩ := hM
            obtain ⟨r1, hr1⟩ : ∃ r1, r1 = r - 1 := ⟨_, rfl⟩
            have hwr : IntKind.i64.wrap ((r : Int) - 1) = (r1 : Int) := by rw [hr1]; exact wrap_pred r hr0 (by omega)
            obtain ⟨x0, hx0, hwx0⟩ := p2.2 r1 (by omega)
            obtain ⟨x1, hx1, hwx1⟩ := p2.2 r (by omega)
            simp only [if_neg (show ¬ r < r1 by omega)] at hwx0
            simp only [Nat.lt_irrefl, if_false] at hwx1
            have hmul : WC (cmul z x1) (gmul (zs i) (ofZ zs i r)) := hwz.mulB hwx1 (hZ i) (BN.ofZ hZ i r) (by
              have h1 := ofB_grow hZ i r
              have h2 := ht (i + 1) r (by omega)
              have h3 : far ≤ top := by decide
              omega)
            have hnew : WC (csub x0 (cmul z x1)) (ofZ zs (i + 1) r) := by
              have hb := BN.ofZ hZ (i + 1) r
              have e : ofZ zs (i + 1) r = gsub (ofZ zs i r1) (gmul (zs i) (ofZ zs i r)) := by
                show gsub (YtigbkoadojjajaaGreat.up 1 (ofZ zs i) r) (gmul (zs i) (ofZ zs i r)) = _
                unfold YtigbkoadojjajaaGreat.up
                rw [if_pos (by omega), hr1]
              rw [e] at hb ⊢
              exact hwx0.subB hmul hb (Int.le_trans (ht (i + 1) r (by omega)) (by decide))
            simp [f1, f6, f8, f9, hr0]
            refine code_draw_dyn (plan := [0, 0, 0, 0, 8, 28, 60, 0, 0, 0, 768, 1792, 3968, 8188, 16383, 32767]) (by kernel_rfl) ?_
            simp [drawQ, apartAll, apartL, Nat.testBit, f1, f6, f8, f9, hwr, idx_L _ _ _ _ _ _ (show r < L2 by omega), idx_L _ _ _ _ _ _ (show r1 < L2 by omega), p1, hx0, hx1, run_mul, run_sub]
            refine storeQ_one (cs := cs) (sz := 1) (gr := false) (by simp [p1]) (by simp) (cells_cx _) (by rw [p2.1]; omega) fun m4 n4 l4 e4 => ?_
            simp only [Mem.next_rd, Mem.next_lg, Mem.at_rd, Mem.at_lg] at n4 e4
            simp [l4, drawQ, apartAll, apartL, Nat.testBit, f1, f9, hwr]
            refine ⟨r1, by omega, by omega, ⟨by simp [f1], by simp [f2], by simp [f6], by simp [f29], by simp [f30], by simp [f31]⟩, by simp [f8], by simp, ?_⟩
            refine ⟨v1.wr (b := m'.next) v2 v3 (by simpa using n4) (fun c => by rw [Mem.at_lg]; exact e4 c), v2, by rw [Mem.next_lg, n4]; exact v3, _, by rw [Mem.at_lg, e4, if_pos rfl], p2.set (by omega) hnew fun t ht => ?_⟩
            by_cases h1 : t = r
            · rw [h1, if_pos (by omega), if_pos rfl]
            · rw [if_neg h1]
              by_cases h2 : r < t
              · rw [if_pos h2, if_pos (by omega)]
              · rw [if_neg h2, if_neg (by omega)]
          · obtain rfl : r = 0 := by omega
            simp [f1, f9]
            exact ⟨rfl, ⟨by simp [f1], by simp [f2], by simp [f6], by simp [f29], by simp [f30], by simp [f31]⟩, by simp [f8], hM⟩
        · rintro ⟨e, fr3⟩ m3 ⟨he', ⟨f1, f2, f6, f29, f30, f31⟩, f8, hM⟩
          obtain rfl : e = .exit 4 := he'
          simp only at f1 f2 f6 f8 f29 f30 f31
          obtain ⟨v1, v2, v3, cs, p1, p2⟩ := hM
          obtain ⟨x1, hx1, hwx1⟩ := p2.2 0 (by omega)
          simp only [Nat.lt_irrefl, if_false] at hwx1
          have hmul : WC (cmul z x1) (gmul (zs i) (ofZ zs i 0)) := hwz.mulB hwx1 (hZ i) (BN.ofZ hZ i 0) (by
            have h1 := ofB_grow hZ i 0
            have h2 := ht (i + 1) 0 (by omega)
            have h3 : far ≤ top := by decide
            omega)
          have hnew : WC (cneg (cmul z x1)) (ofZ zs (i + 1) 0) := by
            have e : ofZ zs (i + 1) 0 = gneg (gmul (zs i) (ofZ zs i 0)) := by
              show gsub (YtigbkoadojjajaaGreat.up 1 (ofZ zs i) 0) (gmul (zs i) (ofZ zs i 0)) = _
              unfold YtigbkoadojjajaaGreat.up
              rw [if_neg (by omega), zero_gsub]
            rw [e]
            exact hmul.neg
          have hi0 := idx_L m'.next 0 L2 (n + 1) 0 .i64 (by omega)
          simp at hi0 hx1
          simp [f1, f6, f8, hi0, p1, hx1, run_mul, run_neg]
          refine storeQ_one (cs := cs) (sz := 1) (gr := false) (by simp [p1]) (by simp) (cells_cx _) (by rw [p2.1]; omega) fun m4 n4 l4 e4 => ?_
          simp only [Mem.next_rd, Mem.at_rd] at n4 e4
          simp [f1, f31, hwi]
          refine ⟨q - 1, by omega, i + 1, L2, by omega, by omega, ⟨by simp [f1], by simp [f2], by simp [f6], by simp [f29], by simp [f30], by simp⟩, v1.wr (b := m'.next) v2 v3 n4 e4, v2, by omega, _, by rw [e4, if_pos rfl], p2.set (by omega) hnew fun t ht => ?_⟩
          by_cases h1 : t = 0
          · rw [h1, if_pos rfl]
          · rw [if_neg h1, if_pos (by omega)]
      · obtain rfl : i = n := by omega
        simp [f1, f30, f31]
        exact ⟨rfl, by simp [f1], by simp [f2], by simp [f6, hL], hM⟩
    · rintro ⟨e, fr2⟩ m2 ⟨he', f1, f2, f6, hM⟩
      obtain rfl : e = .exit 2 := he'
      simp only at f1 f2 f6
      obtain ⟨u1, u2, u3, cs, p1, p2⟩ := hM
      simp [f1, f6]
      refine answer_ok (c := ofZ zs n) _ (PL.own p1 p2) (by omega) (by omega) (fun t => ?_) (ofZ_ends zs n) fun m3 v n' hs3 hn3 hr => ?_
      · have h := BN.ofZ hZ n t
        exact h.2.2.mono h.1 (ht n t (Nat.le_refl _))
      simp [f1, f2]
      exact hQ m3 v n' (u1.trans hs3.up) hn3 hr
end
end Go.Proofs.YtigbkoadojjajaaGreat

/- Flows in the clean executor: types, elements. -/
namespace Go.Proofs.YtigbkoadojjajaaGreat
open Go.Clean

/-! ### Types -/
def frV (a b : Value) : Value := .agg ⟨[a, b]⟩
def nilL : Value := .slice none 0 0
section
@[simp] theorem agg_F : Clean.isAgg Tryz.prog 35 = some true := by kernel_rfl
@[simp] theorem size_F : sizeT Tryz.prog 35 = some 2 := by kernel_rfl
@[simp] theorem elt_F : elemT Tryz.prog 35 = 1 := by kernel_rfl
@[simp] theorem zero_F : zeroT Tryz.prog 35 = some (frV nilL nilL) := (by kernel_rfl : zeroT Tryz.prog 35 = some (frV nilL nilL)).trans rfl
@[simp] theorem ld_F (x y : Value) : ldX Tryz.prog 35 [x, y] 0 = some (frV x y) := (ld_agg agg_F size_F [x, y] 0).trans rfl
@[simp] theorem fa_F0 (s : Nat) : fieldAddrX Tryz.prog 35 (.pointer (some ⟨s, 0, none⟩)) 0 = some (.pointer (some ⟨s, 0, none⟩)) := (by kernel_rfl : fieldAddrX Tryz.prog 35 (.pointer (some ⟨s, 0, none⟩)) 0 = some (.pointer (some ⟨s, 0, none⟩))).trans rfl
@[simp] theorem fa_F1 (s : Nat) : fieldAddrX Tryz.prog 35 (.pointer (some ⟨s, 0, none⟩)) 1 = some (.pointer (some ⟨s, 1, none⟩)) := (by kernel_rfl : fieldAddrX Tryz.prog 35 (.pointer (some ⟨s, 0, none⟩)) 1 = some (.pointer (some ⟨s, 1, none⟩))).trans rfl
@[simp] theorem cells_frV (x y : Value) : cellsV (frV x y) = [x, y] := by cases x <;> rfl
@[simp] theorem one_slice (a : Option Addr) (n k : Nat) : oneV (.slice a n k) = true := by cases a <;> rfl
@[simp] theorem cells_slice (a : Option Addr) (n k : Nat) : cellsV (.slice a n k) = [.slice a n k] := by cases a <;> rfl
@[simp] theorem cells_int (q : IntKind) (n : Int) : cellsV (.int q n) = [.int q n] := by cases q <;> rfl
@[simp] theorem one_int (q : IntKind) (n : Int) : oneV (.int q n) = true := by cases q <;> rfl
@[simp] theorem cells_nilL : cellsV nilL = [nilL] := by unfold nilL; simp
@[simp] theorem one_nilL : oneV nilL = true := by unfold nilL; simp
theorem places_F : (match Tryz.prog.underlying 35 with | some (.struct fs) => placesX Tryz.prog fs.toList | _ => none) = some [(0, 1), (1, 1)] := by kernel_rfl
@[simp] theorem build_F {x y : Value} (hx : cellsV x = [x]) (hy : cellsV y = [y]) : buildX Tryz.prog 35 [(0, x), (1, y)] = some (frV x y) := by
  have h := places_F
  unfold buildX
  simp only [zero_F]
  split at h
  · rename_i fs e
    simp only [e, h]
    simp only [cells_frV]
    simp [fillX, layK, Nat.blt, Nat.ble, hx, hy, frV]
  · cases h
theorem PL.cells {m : Mem} {v : Value} {n : Nat} {c : PG} (h : PL m v n c) : cellsV v = [v] := by
  obtain ⟨b, o, k, x, rfl, _⟩ := h; simp
theorem PL.one' {m : Mem} {v : Value} {n : Nat} {c : PG} (h : PL m v n c) : oneV v = true := by
  obtain ⟨b, o, k, x, rfl, _⟩ := h; simp
theorem PL.len {m : Mem} {v : Value} {n : Nat} {c : PG} (h : PL m v n c) : lenX Tryz.prog 33 v = some (.int .i64 n) := by
  obtain ⟨b, o, k, x, rfl, _⟩ := h; simp
@[simp] theorem agg_E : Clean.isAgg Tryz.prog 36 = some false := by kernel_rfl
@[simp] theorem size_E : sizeT Tryz.prog 36 = some 1 := by kernel_rfl
@[simp] theorem elt_E : elemT Tryz.prog 36 = 1 := by kernel_rfl
@[simp] theorem zero_E : zeroT Tryz.prog 36 = some (.int .i64 0) := (by kernel_rfl : zeroT Tryz.prog 36 = some (.int .i64 0)).trans rfl
@[simp] theorem ld_E (cs : List Value) (o : Nat) : ldX Tryz.prog 36 cs o = cs[o]? := ld_one agg_E cs o
@[simp] theorem sto_E (v : Value) : storeOK Tryz.prog 36 v = (1 == (cellsV v).length && (cellsV v).all oneV) := by unfold storeOK; rw [size_E]; rfl
theorem sto_F (v : Value) : storeOK Tryz.prog 35 v = (2 == (cellsV v).length && (cellsV v).all oneV) := by unfold storeOK; rw [size_F]; rfl
@[simp] theorem cells_agg (l : List Value) : cellsV (.agg ⟨l⟩) = l := by cases l <;> rfl
end
/-! ### Elements -/
def elV (k : Int) (a s : C) (p : Nat) : Value := .agg ⟨[.int .u8 k, cx a, cx s, .float .f64 p]⟩
def elL (k : Int) (a s : C) (p : Nat) : List Value := [.int .u8 k, cx a, cx s, .float .f64 p]
section
@[simp] theorem cells_elV (k : Int) (a s : C) (p : Nat) : cellsV (elV k a s p) = elL k a s p := rfl
@[simp] theorem one_elL (k : Int) (a s : C) (p : Nat) : (elL k a s p).all oneV = true := rfl
@[simp] theorem agg_El : Clean.isAgg Tryz.prog 31 = some true := by kernel_rfl
@[simp] theorem size_El : sizeT Tryz.prog 31 = some 4 := by kernel_rfl
@[simp] theorem elt_El : elemT Tryz.prog 31 = 1 := by kernel_rfl
theorem zero_El : zeroT Tryz.prog 31 = some (.agg ⟨[.int .u8 0, .complex .f64 0 0, .complex .f64 0 0, .float .f64 0]⟩) := by kernel_rfl
@[simp] theorem ld_El (k : Int) (a s : C) (p : Nat) : ldX Tryz.prog 31 (elL k a s p) 0 = some (elV k a s p) := (ld_agg agg_El size_El (elL k a s p) 0).trans rfl
@[simp] theorem agg_u8 : Clean.isAgg Tryz.prog 5 = some false := by kernel_rfl
@[simp] theorem size_u8 : sizeT Tryz.prog 5 = some 1 := by kernel_rfl
@[simp] theorem ld_u8 (cs : List Value) (o : Nat) : ldX Tryz.prog 5 cs o = cs[o]? := ld_one agg_u8 cs o
@[simp] theorem el_0 (k : Int) (a s : C) (p : Nat) : (elL k a s p)[0]? = some (.int .u8 k) := rfl
@[simp] theorem el_1 (k : Int) (a s : C) (p : Nat) : (elL k a s p)[1]? = some (cx a) := rfl
@[simp] theorem el_2 (k : Int) (a s : C) (p : Nat) : (elL k a s p)[2]? = some (cx s) := rfl
@[simp] theorem el_3 (k : Int) (a s : C) (p : Nat) : (elL k a s p)[3]? = some (.float .f64 p) := rfl
@[simp] theorem fa_El0 (s : Nat) : fieldAddrX Tryz.prog 31 (.pointer (some ⟨s, 0, none⟩)) 0 = some (.pointer (some ⟨s, 0, none⟩)) := (by kernel_rfl : fieldAddrX Tryz.prog 31 (.pointer (some ⟨s, 0, none⟩)) 0 = some (.pointer (some ⟨s, 0, none⟩))).trans rfl
@[simp] theorem fa_El1 (s : Nat) : fieldAddrX Tryz.prog 31 (.pointer (some ⟨s, 0, none⟩)) 1 = some (.pointer (some ⟨s, 1, none⟩)) := (by kernel_rfl : fieldAddrX Tryz.prog 31 (.pointer (some ⟨s, 0, none⟩)) 1 = some (.pointer (some ⟨s, 1, none⟩))).trans rfl
@[simp] theorem fa_El2 (s : Nat) : fieldAddrX Tryz.prog 31 (.pointer (some ⟨s, 0, none⟩)) 2 = some (.pointer (some ⟨s, 2, none⟩)) := (by kernel_rfl : fieldAddrX Tryz.prog 31 (.pointer (some ⟨s, 0, none⟩)) 2 = some (.pointer (some ⟨s, 2, none⟩))).trans rfl
@[simp] theorem fa_El3 (s : Nat) : fieldAddrX Tryz.prog 31 (.pointer (some ⟨s, 0, none⟩)) 3 = some (.pointer (some ⟨s, 3, none⟩)) := (by kernel_rfl : fieldAddrX Tryz.prog 31 (.pointer (some ⟨s, 0, none⟩)) 3 = some (.pointer (some ⟨s, 3, none⟩))).trans rfl
end
end Go.Proofs.YtigbkoadojjajaaGreat

/- Flows in the clean executor: element.Check. -/
namespace Go.Proofs.YtigbkoadojjajaaGreat
open Go.Clean
set_option maxRecDepth 10000 in
theorem run_ereals (n : Nat) (x : C) (m : Mem) (Q : Value → Mem → Prop) : Gives (callN Tryz.prog known (n + 4) 57 [cx x]) m Q ↔ Q (.bool (cwithin x lim)) m := by
  refine gives_pure (fun m => ?_) m Q
  refine gives_fn (nt := 5) rfl Tryz.func57 rfl rfl rfl (Nat.le_of_ble_eq_true rfl) fun fr hn hd hargs => ?_
  have h0 : fr.at 0 = _ := hargs 0 _ rfl
  clear hargs
  simp [h0, hn, hd, fv_lim, run_within]
set_option maxRecDepth 10000 in
theorem run_enought (n : Nat) (x : C) (m : Mem) (Q : Value → Mem → Prop) : Gives (callN Tryz.prog known (n + 1) 59 [cx x]) m Q ↔ Q (.bool (cnought x)) m := by
  refine gives_pure (fun m => ?_) m Q
  refine gives_fn (nt := 11) rfl Tryz.func59 rfl rfl rfl (Nat.le_of_ble_eq_true rfl) fun fr hn hd hargs => ?_
  have h0 : fr.at 0 = _ := hargs 0 _ rfl
  clear hargs
  cases hg : feq x.1 (some 0) <;>
  simp [h0, hn, hd, cx, cnought, hg, yieldX, bin_z]
/-- What a power's bits may be. -/
def pw0 : Nat := 0
def pw1 : Nat := 4607182418800017408
def pw2 : Nat := 4611686018427387904
def pw3 : Nat := 4613937818241073152
/-- An element of the law's: a kind, a power. -/
inductive KP : Int → Nat → Nat → Prop
  | s : KP 1 0 0
  | d1 : KP 3 4607182418800017408 1
  | d2 : KP 3 4611686018427387904 2
  | c1 : KP 4 4607182418800017408 1
  | c2 : KP 4 4611686018427387904 2
  | c3 : KP 4 4613937818241073152 3
theorem fq00 (x y : Operand) : binX Tryz.prog .eql 25 x y (.float .f64 0) (.float .f64 0) = some (.bool true) := by kernel_rfl
theorem fg11 (x y : Operand) : binX Tryz.prog .geq 25 x y (.float .f64 4607182418800017408) (.float .f64 4607182418800017408) = some (.bool true) := by kernel_rfl
theorem fg21 (x y : Operand) : binX Tryz.prog .geq 25 x y (.float .f64 4611686018427387904) (.float .f64 4607182418800017408) = some (.bool true) := by kernel_rfl
theorem fl18 (x y : Operand) : binX Tryz.prog .leq 25 x y (.float .f64 4607182418800017408) (.float .f64 4620693217682128896) = some (.bool true) := by kernel_rfl
theorem fl28 (x y : Operand) : binX Tryz.prog .leq 25 x y (.float .f64 4611686018427387904) (.float .f64 4620693217682128896) = some (.bool true) := by kernel_rfl
theorem fg1q (x y : Operand) : binX Tryz.prog .geq 25 x y (.float .f64 4607182418800017408) (.float .f64 4598175219545276416) = some (.bool true) := by kernel_rfl
theorem fl14 (x y : Operand) : binX Tryz.prog .leq 25 x y (.float .f64 4607182418800017408) (.float .f64 4616189618054758400) = some (.bool true) := by kernel_rfl
theorem fg2q (x y : Operand) : binX Tryz.prog .geq 25 x y (.float .f64 4611686018427387904) (.float .f64 4598175219545276416) = some (.bool true) := by kernel_rfl
theorem fl24 (x y : Operand) : binX Tryz.prog .leq 25 x y (.float .f64 4611686018427387904) (.float .f64 4616189618054758400) = some (.bool true) := by kernel_rfl
theorem fg3q (x y : Operand) : binX Tryz.prog .geq 25 x y (.float .f64 4613937818241073152) (.float .f64 4598175219545276416) = some (.bool true) := by kernel_rfl
theorem fl34 (x y : Operand) : binX Tryz.prog .leq 25 x y (.float .f64 4613937818241073152) (.float .f64 4616189618054758400) = some (.bool true) := by kernel_rfl
section
set_option maxRecDepth 10000
set_option maxHeartbeats 2000000 in
theorem echeck_ok (d : Nat) {m : Mem} {k : Int} {p n : Nat} {a s : C} (hk : KP k p n) (ha : cwithin a lim = true) (hs : cwithin s lim = true) (h1 : k = 1 → cnought a = true) {Q : Value → Mem → Prop} (hQ : ∀ m', Up m m' → Q (.int .i64 0) m') :
    Gives (callN Tryz.prog known (d + 5) 32 [elV k a s p]) m Q := by
  refine gives_fn (nt := 68) rfl Tryz.func32 rfl rfl rfl (Nat.le_of_ble_eq_true rfl) fun fr hn hd hargs => ?_
  have h0 : fr.at 0 = _ := hargs 0 _ rfl
  clear hargs
  obtain ⟨m1, hm1⟩ : ∃ m1, m1 = m.nw ⟨elL k a s p, 1, false, false⟩ := ⟨_, rfl⟩
  have u1 : Up m m1 := by rw [hm1]; exact Up.nw _ _
  have e1 : m1.at m.next = some ⟨elL k a s p, 1, false, false⟩ := by rw [hm1]; simp
  have hkk : ¬ k < 1 ∧ ¬ 4 < k := by cases hk <;> decide
  have hpw : fle (fabs (some p)) lim = true ∧ cOf (some p) = p := by cases hk <;> decide
  have hpf : ∀ (n : Nat) (m : Mem) (Q : Value → Mem → Prop), Gives (callN Tryz.prog known (n + 2) 66 [.float .f64 p, fv lim]) m Q ↔ Q (.bool true) m := fun n m Q => by
    have := run_fwithin n (some p) lim m Q
    rw [show fv (some p) = .float .f64 p by unfold fv; rw [hpw.2], hpw.1] at this
    exact this
  refine (code_seq _ _ _ _ _).2 ?_
  simp [h0, hn, -code_seq]
  rw [← hm1]
  refine (code_seq _ _ _ _ _).2 ((code_seq _ _ _ _ _).2 (region_hid fun ops hops => ?_))
  have y3 : ∀ fr, yieldX ops fr 3 = boolOf (fr.at 8) := fun fr => by rw [hops]; rfl
  clear hops
  iterate 8 (refine (steps_cons _ _ _ _ _ _).2 ?_; simp [hn, e1, hkk.1, hkk.2, boolOf_bool, -code_seq, -steps_cons, y3])
  refine (code_seq _ _ _ _ _).2 ((code_seq _ _ _ _ _).2 (region_hid fun ops hops => ?_))
  have y4 : ∀ fr, yieldX ops fr 4 = boolOf (fr.at 17) := fun fr => by rw [hops]; rfl
  have y10 : ∀ fr, yieldX ops fr 10 = boolOf (fr.at 23) := fun fr => by rw [hops]; rfl
  clear hops
  iterate 16 (refine (steps_cons _ _ _ _ _ _).2 ?_; simp [hn, e1, run_ereals, ha, hs, fv_lim, hpf, boolOf_bool, -code_seq, -steps_cons, y4, y10])
  cases hk with
  | s =>
    have hz := h1 rfl
    simp [hn, hd, e1, run_enought, hz, yieldX, boolOf_bool, fq00]
    exact hQ _ (u1.trans (Up.same (by simp) fun c => by simp))
  | d1 =>
    simp [hn, hd, e1, yieldX, boolOf_bool]
    refine (gives_known (g := M.ret (.bool true)) (by rfl) _ _).2 ((gives_ret _ _ _).2 ?_)
    simp [hn, hd, e1, run_enought, yieldX, boolOf_bool, fg11, fl18]
    exact hQ _ (u1.trans (Up.same (by simp) fun c => by simp))
  | d2 =>
    simp [hn, hd, e1, yieldX, boolOf_bool]
    refine (gives_known (g := M.ret (.bool true)) (by rfl) _ _).2 ((gives_ret _ _ _).2 ?_)
    simp [hn, hd, e1, run_enought, yieldX, boolOf_bool, fg21, fl28]
    exact hQ _ (u1.trans (Up.same (by simp) fun c => by simp))
  | c1 =>
    simp [hn, hd, e1, run_enought, yieldX, boolOf_bool, fg1q, fl14]
    exact hQ _ (u1.trans (Up.same (by simp) fun c => by simp))
  | c2 =>
    simp [hn, hd, e1, run_enought, yieldX, boolOf_bool, fg2q, fl24]
    exact hQ _ (u1.trans (Up.same (by simp) fun c => by simp))
  | c3 =>
    simp [hn, hd, e1, run_enought, yieldX, boolOf_bool, fg3q, fl34]
    exact hQ _ (u1.trans (Up.same (by simp) fun c => by simp))
end
end Go.Proofs.YtigbkoadojjajaaGreat

/- Flows in the clean executor: interfaces, element.of. -/
namespace Go.Clean
open Go Go.RowKit
section
variable {P : Program} {call : Caller} {ops : Array Oper} {fr : Fr} {m : Mem} {Q : Fr → Mem → Prop} {ty : TypeId} {pos : String} {af : Array Edge} {d : Option Tmp}
@[simp] theorem step_makeIface (t : TypeId) (x : Operand) : Gives (stepDX P call ops fr ⟨d, .makeInterface t x, ty, pos, af, none⟩) m Q ↔ optQ (ev fr x) fun a => optQ (ifaceX P t a) fun v => putQ fr d Q v m := by
  rw [step_any rfl rfl]; exact opt1
@[simp] theorem step_typeAssert (x : Operand) (u t : TypeId) (ok : Bool) : Gives (stepDX P call ops fr ⟨d, .typeAssert x u t ok, ty, pos, af, none⟩) m Q ↔ optQ (ev fr x) fun a => optQ (assertX P a t ok) fun v => putQ fr d Q v m := by
  rw [step_any rfl rfl]; exact opt1
def invQ (P : Program) (call : Caller) (name : String) (o : Option Value) (vs : Option (List Value)) (m : Mem) (K : Value → Mem → Prop) : Prop := match o, vs with
  | some (.iface t x), some vs => optQ (methodX P t name) fun f => Gives (call f (x :: vs)) m K
  | _, _ => False
@[simp] theorem invQ_some (name : String) (t : TypeId) (x : Value) (vs : List Value) (K : Value → Mem → Prop) : invQ P call name (some (.iface t x)) (some vs) m K = optQ (methodX P t name) fun f => Gives (call f (x :: vs)) m K := rfl
@[simp] theorem step_invoke (r : Operand) (name : String) (args : Array Operand) (ts : Array TypeId) : Gives (stepDX P call ops fr ⟨d, .call ⟨.invoke r name, args, ts⟩, ty, pos, af, none⟩) m Q ↔ invQ P call name (ev fr r) (evs fr args.toList) m (putQ fr d Q) := by
  rw [step_any rfl rfl]
  unfold opX callX
  simp only
  cases ev fr r with
  | none => exact gives_fail _ _
  | some a =>
    cases a <;> first
      | exact gives_fail _ _
      | skip
    rename_i t x
    cases evs fr args.toList with
    | none => exact gives_fail _ _
    | some vs =>
      rw [invQ_some]
      simp only
      cases methodX P t name with
      | none => exact gives_fail _ _
      | some f => exact Iff.rfl
end
end Go.Clean
namespace Go.Proofs.YtigbkoadojjajaaGreat
open Go.Clean
def stV (s : C) : Value := .agg ⟨[cx s]⟩
def sn (s : C) (n : Nat) : Value := .agg ⟨[cx s, .int .i64 n]⟩
def snL (s : C) (n : Nat) : List Value := [cx s, .int .i64 n]
def ifc (k : Int) (s : C) (n : Nat) : Value := if k = 1 then .iface 116 (stV s) else if k = 3 then .iface 120 (sn s n) else .iface 121 (sn s n)
@[simp] theorem if_S (v : Value) : ifaceX Tryz.prog 116 v = some (.iface 116 v) := (by kernel_rfl : ifaceX Tryz.prog 116 v = some (.iface 116 v)).trans rfl
@[simp] theorem if_D (v : Value) : ifaceX Tryz.prog 120 v = some (.iface 120 v) := (by kernel_rfl : ifaceX Tryz.prog 120 v = some (.iface 120 v)).trans rfl
@[simp] theorem if_C (v : Value) : ifaceX Tryz.prog 121 v = some (.iface 121 v) := (by kernel_rfl : ifaceX Tryz.prog 121 v = some (.iface 121 v)).trans rfl
@[simp] theorem bd_S (s : C) : buildX Tryz.prog 116 [(0, cx s)] = some (stV s) := (by kernel_rfl : buildX Tryz.prog 116 [(0, cx s)] = some (stV s)).trans rfl
@[simp] theorem bd_D (s : C) (n : Int) : buildX Tryz.prog 120 [(0, cx s), (1, .int .i64 n)] = some (.agg ⟨[cx s, .int .i64 n]⟩) := (by kernel_rfl : buildX Tryz.prog 120 [(0, cx s), (1, .int .i64 n)] = some (.agg ⟨[cx s, .int .i64 n]⟩)).trans rfl
@[simp] theorem bd_C (s : C) (n : Int) : buildX Tryz.prog 121 [(0, cx s), (1, .int .i64 n)] = some (.agg ⟨[cx s, .int .i64 n]⟩) := (by kernel_rfl : buildX Tryz.prog 121 [(0, cx s), (1, .int .i64 n)] = some (.agg ⟨[cx s, .int .i64 n]⟩)).trans rfl
theorem cvi1 : convX Tryz.prog 25 3 (.float .f64 4607182418800017408) = some (.int .i64 1) := (by kernel_rfl : convX Tryz.prog 25 3 (.float .f64 4607182418800017408) = some (.int .i64 1)).trans rfl
theorem cvi2 : convX Tryz.prog 25 3 (.float .f64 4611686018427387904) = some (.int .i64 2) := (by kernel_rfl : convX Tryz.prog 25 3 (.float .f64 4611686018427387904) = some (.int .i64 2)).trans rfl
theorem cvi3 : convX Tryz.prog 25 3 (.float .f64 4613937818241073152) = some (.int .i64 3) := (by kernel_rfl : convX Tryz.prog 25 3 (.float .f64 4613937818241073152) = some (.int .i64 3)).trans rfl
section
set_option maxRecDepth 10000
set_option maxHeartbeats 2000000 in
theorem eof_ok (d : Nat) {m : Mem} {k : Int} {p n : Nat} {a s : C} (hk : KP k p n) {Q : Value → Mem → Prop} (hQ : ∀ m', Up m m' → (m.log = [] → ∀ x ∈ m'.log, x.2 = m.next) → Q (ifc k s n) m') :
    Gives (callN Tryz.prog known (d + 2) 58 [elV k a s p]) m Q := by
  refine gives_fn (nt := 56) rfl Tryz.func58 rfl rfl rfl (Nat.le_of_ble_eq_true rfl) fun fr hn hd hargs => ?_
  have h0 : fr.at 0 = _ := hargs 0 _ rfl
  clear hargs
  obtain ⟨m1, hm1⟩ : ∃ m1, m1 = m.nw ⟨elL k a s p, 1, false, false⟩ := ⟨_, rfl⟩
  have u1 : Up m m1 := by rw [hm1]; exact Up.nw _ _
  have e1 : m1.at m.next = some ⟨elL k a s p, 1, false, false⟩ := by rw [hm1]; simp
  refine (code_seq _ _ _ _ _).2 ?_
  simp [h0, hn, -code_seq]
  rw [← hm1]
  cases hk with
  | s =>
    simp [hn, hd, e1, yieldX, boolOf_bool]
    exact hQ _ (u1.trans (Up.same (by simp) fun c => by simp)) fun hl => by simp [hm1, hl]
  | d1 =>
    simp [hn, hd, e1, yieldX, boolOf_bool, cvi1]
    exact hQ _ (u1.trans (Up.same (by simp) fun c => by simp)) fun hl => by simp [hm1, hl]
  | d2 =>
    simp [hn, hd, e1, yieldX, boolOf_bool, cvi2]
    exact hQ _ (u1.trans (Up.same (by simp) fun c => by simp)) fun hl => by simp [hm1, hl]
  | c1 =>
    simp [hn, hd, e1, yieldX, boolOf_bool, cvi1]
    refine (gives_known (g := M.ret (.bool true)) (by rfl) _ _).2 ((gives_ret _ _ _).2 ?_)
    simp [hn, hd, e1, yieldX, boolOf_bool, cvi1]
    exact hQ _ (u1.trans (Up.same (by simp) fun c => by simp)) fun hl => by simp [hm1, hl]
  | c2 =>
    simp [hn, hd, e1, yieldX, boolOf_bool, cvi2]
    refine (gives_known (g := M.ret (.bool true)) (by rfl) _ _).2 ((gives_ret _ _ _).2 ?_)
    simp [hn, hd, e1, yieldX, boolOf_bool, cvi2]
    exact hQ _ (u1.trans (Up.same (by simp) fun c => by simp)) fun hl => by simp [hm1, hl]
  | c3 =>
    simp [hn, hd, e1, yieldX, boolOf_bool, cvi3]
    refine (gives_known (g := M.ret (.bool true)) (by rfl) _ _).2 ((gives_ret _ _ _).2 ?_)
    simp [hn, hd, e1, yieldX, boolOf_bool, cvi3]
    exact hQ _ (u1.trans (Up.same (by simp) fun c => by simp)) fun hl => by simp [hm1, hl]
end
end Go.Proofs.YtigbkoadojjajaaGreat
