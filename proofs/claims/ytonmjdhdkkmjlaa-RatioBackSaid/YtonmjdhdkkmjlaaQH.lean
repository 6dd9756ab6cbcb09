/- Polynomials in the clean executor: shifts. -/
import Derived.Test.YtonmjdhdkkmjlaaQG
namespace Go.Proofs.Ytonmjdhdkkmjlaa
open Go.Clean

theorem wrap_less (k : Nat) (h : k < 4611686018427387904) : IntKind.i64.wrap ((k : Int) - 1) = (k : Int) - 1 := by
  have e1 : (2 : Int) ^ 64 = 18446744073709551616 := by decide
  have e2 : (2 : Int) ^ 63 = 9223372036854775808 := by decide
  simp only [IntKind.wrap]
  simp [IntKind.bits, IntKind.signed, e1, e2]
  omega
theorem WC.step2 {v z c : C} {g w h b W B : G} (hv : WC v g) (hz : WC z w) (hc : WC c h) (hg : BN g b) (hw : BN w W) (hh : BN h B) (ht : (gadd (gmul b W) B).1 ≤ top) : WC (cadd c (cmul v z)) (gadd (gmul g w) h) := by
  have hm := hg.mul hw
  have hs := hh.add hm
  have hB := hh.1
  have h0 := hm.1
  have ht' : (gmul b W).1 + B.1 ≤ top := ht
  have h1 := hv.mulB hz hg hw (by omega)
  rw [gadd_comm]
  refine hc.addB h1 hs ?_
  show B.1 + (gmul b W).1 ≤ top
  omega
section
set_option maxRecDepth 10000
structure SF (fr : Fr) (z : C) (n bo j : Nat) : Prop where
  fn : fr.n = 53
  fd : fr.d = []
  a1 : fr.at 1 = cx z
  a7 : fr.at 7 = .slice (some ⟨bo, 0, none⟩) n n
  a8 : fr.at 8 = .int .i64 ((n - 1 : Nat) : Int)
  a22 : fr.at 22 = .int .i64 ((n - 1 : Nat) : Int)
  a23 : fr.at 23 = .int .i64 (j : Nat)
structure SM (m m' : Mem) (bo n : Nat) (c : PG) : Prop where
  up : Up m m'
  bo1 : m.next ≤ bo
  bo2 : bo < m'.next
  ex : ∃ cells, m'.at bo = some ⟨cells, 1, true, false⟩ ∧ CL cells n c
theorem SM.keep {m m' m2 : Mem} {bo n : Nat} {c e : PG} (h : SM m m' bo n c) (hs : Sm m' m2) (he : ∀ t, t < n → e t = c t) : SM m m2 bo n e := by
  obtain ⟨h1, h2, h3, cells, q1, q2⟩ := h
  exact ⟨h1.trans hs.up, h2, by rw [hs.1]; exact h3, cells, by rw [hs.2]; exact q1, q2.congr fun t ht => (he t ht).symm⟩
def shI (m : Mem) (z : C) (g : G) (n bo : Nat) (c : PG) (q : Nat) (fr : Fr) (m' : Mem) : Prop := ∃ j, j + q = n - 1 ∧ SF fr z n bo j ∧ SM m m' bo n (sh (n - 1) g c j)
def shJ (m : Mem) (z : C) (g : G) (n bo j : Nat) (s : PG) (r : Nat) (fr : Fr) (m' : Mem) : Prop := ∃ q, q = r + j ∧ q ≤ n - 1 ∧ SF fr z n bo j ∧ fr.at 9 = .int .i64 (j : Nat) ∧ fr.at 10 = .int .i64 ((q : Int) - 1) ∧ SM m m' bo n fun k => if q ≤ k ∧ k ≤ n - 1 then tl s g (n - k) k else s k
def shS (m : Mem) (z : C) (g : G) (n bo j : Nat) (c : PG) (r : Ex × Fr) (m' : Mem) : Prop := r.1 = .exit 2 ∧ SF r.2 z n bo j ∧ SM m m' bo n (sh (n - 1) g c (j + 1))
def shR (m : Mem) (g : G) (n bo : Nat) (c : PG) (r : Ex × Fr) (m' : Mem) : Prop := r.1 = .exit 0 ∧ r.2.n = 53 ∧ r.2.d = [] ∧ r.2.at 7 = .slice (some ⟨bo, 0, none⟩) n n ∧ SM m m' bo n (sh (n - 1) g c (n - 1))
theorem shift_ok (d : Nat) {m : Mem} {v : Value} {n : Nat} {c : PG} {z : C} {g : G} (hw : MW m) (hv : RP m v n c) (hz : WC z g) (hg : NB g far) {D : PG} {Z : G} (hD : ∀ k, BN (c k) (D k)) (hZ : BN g Z) (ht : ∀ j i, j ≤ i → i < n → (tl (sh (n - 1) Z D j) Z (n - i) i).1 ≤ top) (hf : ∀ k, NB (sh (n - 1) g c (n - 1) k) far)
    {Q : Value → Mem → Prop} (hQ : ∀ m' v n', Up m m' → n' ≤ n → RP m' v n' (sh (n - 1) g c (n - 1)) → Q (.tuple ⟨[v, .int .i64 0]⟩) m') :
    Gives (callN Try.prog known (d + 10) 12 [v, cx z]) m Q := by
  refine gives_fn (nt := 53) rfl Try.func12 rfl rfl rfl (Nat.le_of_ble_eq_true rfl) fun fr hn hd hargs => ?_
  have h0 : fr.at 0 = _ := hargs 0 _ rfl
  have h1 : fr.at 1 = _ := hargs 1 _ rfl
  clear hargs
  have hn0 := hv.ok.pos
  have hn65 := hv.ok.most
  simp [h0, h1, hn]
  refine asked_ok _ hv.pl hv.ok hz hg fun m1 hs => ?_
  have hw1 := hs.mw hw
  simp [h0, h1, hn]
  refine clone_ok _ hw1 (hv.pl.keep hs.2) hn0 hn65 fun m2 bo cells hu q1 q2 q3 q4 => ?_
  have hp := wrap_pred n hn0 (by omega)
  simp [h1, hn, hp]
  refine code_loop_post (shR m g n bo c) (shI m z g n bo c) (n - 1) (by omega) ⟨0, by omega, ⟨by simp [hn], by simp [hd], by simp [h1], by simp, by simp, by simp, by simp⟩, hs.up.trans hu, by rw [← hs.1]; exact q1, q2, cells, q3, q4⟩ ?_ ?_
  · rintro q fr' m' ⟨j, hjq, ⟨f1, f2, f3, f4, f5, f6, f7⟩, hM⟩
    by_cases hj : j < n - 1
    · have hwj := wrap_succ j (by omega)
      have hp2 : IntKind.i64.wrap (((n - 1 : Nat) : Int) - 1) = ((n - 1 : Nat) : Int) - 1 := wrap_less _ (by omega)
      simp [f1, f3, f4, f5, f6, f7, hj, hp2]
      refine code_loop_post (shS m z g n bo j c) (shJ m z g n bo j (sh (n - 1) g c j)) (n - 1 - j) (by omega) ⟨n - 1, by omega, by omega, ⟨by simp [f1], by simp [f2], by simp [f3], by simp [f4], by simp [f5], by simp [f6], by simp [f7]⟩, by simp, by simp, hM.keep (Sm.refl _) fun t ht' => ?_⟩ ?_ ?_
      · by_cases h : n - 1 ≤ t ∧ t ≤ n - 1
        · rw [if_pos h, show t = n - 1 by omega, show n - (n - 1) = 1 by omega]
          show gadd (gmul g0 g) _ = _
          rw [zero_gmul, zero_gadd]
        · rw [if_neg h]
      · clear hM f1 f2 f3 f4 f5 f6 f7
        rintro r fr2 m3 ⟨q, hqr, hqn, ⟨f1, f2, f3, f4, f5, f6, f7⟩, f9, f10, hM⟩
        by_cases hq : j + 1 ≤ q
        · obtain ⟨i, hqi⟩ : ∃ i, q = i + 1 := ⟨q - 1, by omega⟩
          have f10' : fr2.at 10 = .int .i64 (i : Nat) := by rw [f10]; congr 1; omega
          obtain ⟨u1, u2, u3, cs, p1, p2⟩ := hM
          obtain ⟨x, hx, hwx⟩ := p2.2 i (by omega)
          obtain ⟨y, hy, hwy⟩ := p2.2 q (by omega)
          simp only [if_neg (show ¬ (q ≤ i ∧ i ≤ n - 1) by omega)] at hwx
          simp only [if_pos (show q ≤ q ∧ q ≤ n - 1 by omega)] at hwy
          have hwi : IntKind.i64.wrap ((i : Int) + 1) = (q : Int) := by rw [hqi]; exact wrap_succ i (by omega)
          have hwl := wrap_less i (by omega)
          have hnew : WC (cadd x (cmul y z)) (tl (sh (n - 1) g c j) g (n - i) i) := by
            rw [hqi] at hwy
            have hB := BN.tl hZ (c := sh (n - 1) g c j) (d := sh (n - 1) Z D j) (n := n - (i + 1)) (i := i + 1) fun k _ => BN.sh _ hZ hD _ _
            have ht' := ht j i (by omega) (by omega)
            rw [show n - i = n - (i + 1) + 1 by omega] at ht' ⊢
            exact hwy.step2 hz hwx hB hZ (BN.sh _ hZ hD _ _) ht'
          simp [f1, f3, f4, f9, f10', show (j : Int) ≤ (i : Int) by omega]
          refine code_draw_dyn (plan := [0, 0, 0, 0, 12, 28, 0, 0, 128, 448, 960, 0, 4032, 8188, 16383, 32767]) (by kernel_rfl) ?_
          simp [drawQ, apartAll, apartL, Nat.testBit, f1, f3, f4, f9, f10', hwi, idx_L _ _ _ _ _ _ (show i < n by omega), idx_L _ _ _ _ _ _ (show q < n by omega), p1, hx, hy, run_mul, run_add]
          refine storeQ_one (cs := cs) (sz := 1) (gr := true) (by simp [p1]) (by simp) (cells_cx _) (by rw [p2.1]; omega) fun m4 n4 l4 e4 => ?_
          simp only [Mem.next_rd, Mem.next_lg, Mem.at_rd, Mem.at_lg] at n4 e4
          simp [l4, drawQ, apartAll, apartL, Nat.testBit, f1, f10', hwl]
          refine ⟨r - 1, by omega, i, by omega, by omega, ⟨by simp [f1], by simp [f2], by simp [f3], by simp [f4], by simp [f5], by simp [f6], by simp [f7]⟩, by simp [f9], by simp, ?_⟩
          refine ⟨u1.wr (b := bo) u2 u3 (by simpa using n4) (fun c => by rw [Mem.at_lg]; exact e4 c), u2, by rw [Mem.next_lg, n4]; exact u3, _, by rw [Mem.at_lg, e4, if_pos rfl], p2.set (by omega) hnew fun k hk => ?_⟩
          by_cases h1 : k = i
          · rw [h1, if_pos (by omega), if_pos rfl]
          · rw [if_neg h1]
            by_cases h2 : q ≤ k ∧ k ≤ n - 1
            · rw [if_pos h2, if_pos (by omega)]
            · rw [if_neg h2, if_neg (by omega)]
        · have hqj : q = j := by omega
          simp [f1, f9, f10, show ¬ (j : Int) ≤ (q : Int) - 1 by omega]
          refine ⟨rfl, ⟨by simp [f1], by simp [f2], by simp [f3], by simp [f4], by simp [f5], by simp [f6], by simp [f7]⟩, hM.keep (Sm.refl _) fun t ht' => ?_⟩
          show pass (n - 1) g (sh (n - 1) g c j) j t = _
          unfold pass
          rw [hqj]
          by_cases h : j ≤ t ∧ t ≤ n - 1
          · rw [if_pos h, if_pos h, show n - 1 + 1 - t = n - t by omega]
          · rw [if_neg h, if_neg h]
      · rintro ⟨e, fr2⟩ m3 ⟨he', ⟨f1, f2, f3, f4, f5, f6, f7⟩, hM2⟩
        obtain rfl : e = .exit 2 := he'
        simp only at f1 f2 f3 f4 f5 f6 f7
        simp [f1, f7, hwj]
        exact ⟨q - 1, by omega, j + 1, by omega, ⟨by simp [f1], by simp [f2], by simp [f3], by simp [f4], by simp [f5], by simp [f6], by simp⟩, hM2⟩
    · obtain rfl : j = n - 1 := by omega
      simp [f1, f6, f7]
      exact ⟨rfl, by simp [f1], by simp [f2], by simp [f4], hM⟩
  · rintro ⟨e, fr'⟩ m' ⟨he', f1, f2, f4, hM⟩
    obtain rfl : e = .exit 0 := he'
    simp only at f1 f2 f4
    obtain ⟨u1, u2, u3, cs, p1, p2⟩ := hM
    simp [f1, f4]
    refine answer_ok (c := sh (n - 1) g c (n - 1)) _ (PL.own p1 p2) hn0 hn65 hf (fun t ht => by rw [sh_above _ _ _ _ _ (by omega)]; exact hv.ends t ht) fun m2 v n' hs2 hn2 hr => ?_
    simp [f1, f2]
    exact hQ m2 v n' (u1.trans hs2.up) hn2 hr
end
end Go.Proofs.Ytonmjdhdkkmjlaa

/- Polynomials in the clean executor: those of zeros. -/
namespace Go.Proofs.Ytonmjdhdkkmjlaa
open Go.Clean

/-- A list of zeros, maybe none. -/
def ZL (m : Mem) (v : Value) (n : Nat) (c : PG) : Prop := ∃ a k, v = .slice a n k ∧ (n = 0 ∨ PL m v n c)
theorem ZL.of {m : Mem} {v : Value} {n : Nat} {c : PG} (h : PL m v n c) : ZL m v n c := by
  obtain ⟨b, o, k, x, rfl, h2⟩ := id h
  exact ⟨_, k, rfl, .inr h⟩
theorem ZL.get {m : Mem} {v : Value} {n : Nat} {c : PG} (h : ZL m v n c) {i : Nat} (hi : i < n) : ∃ b o k x z, v = .slice (some ⟨b, o, none⟩) n k ∧ m.at b = some x ∧ x.cells[o + i]? = some (cx z) ∧ WC z (c i) := by
  obtain ⟨a, k, rfl, h⟩ := h
  rcases h with h | ⟨b, o, k', x, h1, _, h2, _, h3⟩
  · omega
  · obtain ⟨z, hz, hw⟩ := h3 i hi
    exact ⟨b, o, k', x, z, h1, h2, hz, hw⟩
theorem cx_one : Value.complex .f64 4607182418800017408 0 = cx (some 4607182418800017408, some 0) := by unfold cx; rw [cOf_zero, cOf_one]
theorem WC.one : WC (some 4607182418800017408, some 0) g1 := ⟨WF.one, WF.zero⟩
section
set_option maxRecDepth 10000
structure OF (fr : Fr) (va : Value) (n bo i len : Nat) : Prop where
  fn : fr.n = 79
  fd : fr.d = []
  a6 : fr.at 6 = .slice (some ⟨bo, 0, none⟩) len (n + 1)
  a29 : fr.at 29 = va
  a30 : fr.at 30 = .int .i64 n
  a31 : fr.at 31 = .int .i64 (i : Nat)
structure OM (m m' : Mem) (bo n : Nat) (c : PG) : Prop where
  up : Up m m'
  bo1 : m.next ≤ bo
  bo2 : bo < m'.next
  ex : ∃ cells, m'.at bo = some ⟨cells, 1, false, false⟩ ∧ CL cells n c
theorem OM.keep {m m' m2 : Mem} {bo n : Nat} {c e : PG} (h : OM m m' bo n c) (hs : Sm m' m2) (he : ∀ t, t < n → e t = c t) : OM m m2 bo n e := by
  obtain ⟨h1, h2, h3, cells, q1, q2⟩ := h
  exact ⟨h1.trans hs.up, h2, by rw [hs.1]; exact h3, cells, by rw [hs.2]; exact q1, q2.congr fun t ht => (he t ht).symm⟩
def oaI (va : Value) (n : Nat) (m : Mem) (j : Nat) (fr : Fr) (m' : Mem) : Prop := ∃ i, i + j = n ∧ fr.n = 79 ∧ fr.d = [] ∧ fr.at 0 = va ∧ fr.at 13 = va ∧ fr.at 14 = .int .i64 n ∧ fr.at 15 = .int .i64 (i : Nat) ∧ Sm m m'
def oaR (va : Value) (m : Mem) (r : Ex × Fr) (m' : Mem) : Prop := r.1 = .exit 0 ∧ r.2.n = 79 ∧ r.2.d = [] ∧ r.2.at 0 = va ∧ Sm m m'
def obI (m : Mem) (va : Value) (n bo : Nat) (zs : PG) (q : Nat) (fr : Fr) (m' : Mem) : Prop := ∃ i L, i + q = n ∧ L = i + 1 ∧ OF fr va n bo i L ∧ OM m m' bo (n + 1) (ofZ zs i)
def obJ (m : Mem) (va : Value) (n bo i L : Nat) (z : C) (zs : PG) (q : Nat) (fr : Fr) (m' : Mem) : Prop := q ≤ i ∧ OF fr va n bo i L ∧ fr.at 8 = cx z ∧ fr.at 9 = .int .i64 (q : Nat) ∧ OM m m' bo (n + 1) fun t => if q < t then ofZ zs (i + 1) t else ofZ zs i t
def obS (m : Mem) (va : Value) (n bo i L : Nat) (z : C) (zs : PG) (r : Ex × Fr) (m' : Mem) : Prop := r.1 = .exit 4 ∧ OF r.2 va n bo i L ∧ r.2.at 8 = cx z ∧ OM m m' bo (n + 1) fun t => if 0 < t then ofZ zs (i + 1) t else ofZ zs i t
def obR (m : Mem) (n bo : Nat) (zs : PG) (r : Ex × Fr) (m' : Mem) : Prop := r.1 = .exit 2 ∧ r.2.n = 79 ∧ r.2.d = [] ∧ r.2.at 6 = .slice (some ⟨bo, 0, none⟩) (n + 1) (n + 1) ∧ OM m m' bo (n + 1) (ofZ zs n)
theorem ofB_grow {z : PG} {Z : G} (hZ : ∀ i, BN (z i) Z) (i t : Nat) : (gmul Z (ofB Z i t)).1 ≤ (ofB Z (i + 1) t).1 := by
  have h := (BN.up (BN.ofZ hZ i) 1 t).1
  show _ ≤ (Ytonmjdhdkkmjlaa.up 1 (ofB Z i) t).1 + (gmul Z (ofB Z i t)).1
  omega
theorem of_ok (d : Nat) {m : Mem} {va : Value} {n : Nat} {zs : PG} (hw : MW m) (hv : ZL m va n zs) (hn1 : n ≤ 64) (hz : ∀ i, NB (zs i) far) {Z : G} (hZ : ∀ i, BN (zs i) Z) (ht : ∀ i t, i ≤ n → (ofB Z i t).1 ≤ far)
    {Q : Value → Mem → Prop} (hQ : ∀ m' v n', Up m m' → n' ≤ n + 1 → RP m' v n' (ofZ zs n) → Q (.tuple ⟨[v, .int .i64 0]⟩) m') :
    Gives (callN Try.prog known (d + 10) 19 [va]) m Q := by
  refine gives_fn (nt := 79) rfl Try.func19 rfl rfl rfl (Nat.le_of_ble_eq_true rfl) fun fr hn hd hargs => ?_
  have h0 : fr.at 0 = _ := hargs 0 _ rfl
  clear hargs
  obtain ⟨a, ka, hva, _⟩ := id hv
  have hlen : lenX Try.prog 24 va = some (.int .i64 n) := by rw [hva]; exact len_L _ _ _
  simp [h0, hn, hlen, show ¬ 64 < (n : Int) by omega]
  refine code_loop_post (oaR va m) (oaI va n m) n (by omega) ⟨0, by omega, by simp [hn], by simp [hd], by simp [h0], by simp, by simp, by simp, Sm.refl m⟩ ?_ ?_
  · rintro j fr' m' ⟨i, hij, f1, f2, f0, f13, f14, f15, hs⟩
    by_cases hi : i < n
    · obtain ⟨b, o, k, x, z, rfl, hb, hx, hwz⟩ := hv.get hi
      have hm : m'.at b = some x := by rw [hs.2]; exact hb
      have hwi := wrap_succ i (by omega)
      simp [f1, f13, f14, f15, hi, idx_L _ _ _ _ _ _ hi, hm, hx, run_place, hwz.place (hz i), hwi]
      exact ⟨j - 1, by omega, i + 1, by omega, by simp [f1], by simp [f2], by simp [f0], by simp [f13], by simp [f14], by simp, hs.trans (Sm.rd _ _)⟩
    · simp [f1, f14, f15, hi]
      exact ⟨rfl, by simp [f1], by simp [f2], by simp [f0], hs⟩
  · rintro ⟨e, fr'⟩ m' ⟨he', f1, f2, f0, hs⟩
    obtain rfl : e = .exit 0 := he'
    simp only at f1 f2 f0
    obtain ⟨N, hN⟩ : ∃ N, N = n + 1 := ⟨_, rfl⟩
    have hwn : IntKind.i64.wrap ((n : Int) + 1) = (N : Int) := by rw [hN]; exact wrap_succ n (by omega)
    simp [f1, f0, hlen, hwn]
    refine gives_make (l := 0) mk_L (by omega) (by omega) ?_
    simp [f1, cx_one]
    refine gives_build1 bs_L (cells_cx _) (one_cx _) ?_
    simp [f1]
    refine gives_append_room (cells := List.replicate N (.complex .f64 0 0)) (gr := false) (v := cx (some 4607182418800017408, some 0)) (by simp) (by simp) (one_cx _) (by omega) (by simp) (by omega) ?_
    simp [f1, f0, hlen]
    have hb0 := hs.1
    have hu0 : Up m ((m'.nw ⟨List.replicate N (.complex .f64 0 0), 1, false, false⟩).nw ⟨[cx (some 4607182418800017408, some 0)], 1, false, false⟩) := hs.up.trans ((Up.nw _ _).trans (Up.nw _ _))
    have hcl0 : CL ((List.replicate N (Value.complex .f64 0 0)).set 0 (cx (some 4607182418800017408, some 0))) N (ofZ zs 0) := (CL.zeros N).set (by omega) WC.one fun k _ => rfl
    refine code_loop_post (obR m n m'.next zs) (obI m va n m'.next zs) n (by omega) ⟨0, 1, by omega, rfl, ⟨by simp [f1], by simp [f2], by simp [hN], by simp, by simp, by simp⟩, ⟨?_, by omega, by simp; omega, _, by simp; rfl, by rw [← hN]; exact hcl0⟩⟩ ?_ ?_
    · exact (hu0.trans ((Up.rd _ (m'.next + 1)).trans (Up.rd _ m'.next))).wr (b := m'.next) (x := ⟨(List.replicate N (Value.complex .f64 0 0)).set 0 (cx (some 4607182418800017408, some 0)), 1, false, false⟩) (by omega) (by simp; omega) (by simp) (fun c => by simp)
    · clear hcl0 hu0 f1 f2 f0
      rintro q fr2 m2 ⟨i, L, hiq, hL, ⟨f1, f2, f6, f29, f30, f31⟩, hM⟩
      by_cases hi : i < n
      · obtain ⟨b, o, k, x, z, rfl, hb, hx, hwz⟩ := hv.get hi
        obtain ⟨u1, u2, u3, cs, p1, p2⟩ := hM
        have hm : m2.at b = some x := u1.at hb hw
        obtain ⟨w, hwv, hww⟩ := p2.2 i (by omega)
        have hwi := wrap_succ i (by omega)
        have hw1 : IntKind.i64.wrap ((L : Int) - 1) = (i : Int) := by
          have := wrap_pred L (by omega) (by omega)
          rw [this]; omega
        simp [f1, f6, f29, f30, f31, hi, idx_L _ _ _ _ _ _ hi, hm, hx, hw1, idx_L _ _ _ _ _ _ (show i < L by omega), p1, hwv]
        refine gives_build1 bs_L (cells_cx _) (one_cx _) ?_
        simp [f1]
        refine gives_append_room (cells := cs) (gr := false) (v := cx w) (by simp [show m'.next ≠ m2.next by omega, p1]) (by simp) (one_cx _) (by omega) p2.1 (by omega) ?_
        obtain ⟨L2, hL2⟩ : ∃ L2, L2 = L + 1 := ⟨_, rfl⟩
        rw [← hL2]
        have hw2 : IntKind.i64.wrap ((L2 : Int) - 2) = (i : Int) := by
          have := wrap_add i 0 (by omega)
          rw [show ((L2 : Int) - 2) = (i : Int) + ((0 : Nat) : Int) by omega]
          rw [this]; rfl
        simp [f1, hw2]
        have hM2 : OM m ((((m2.rd b).rd m'.next).nw ⟨[cx w], 1, false, false⟩).rd m2.next |>.rd m'.next |>.wr m'.next (some ⟨cs.set L (cx w), 1, false, false⟩)) m'.next (n + 1) fun t => if i < t then ofZ zs (i + 1) t else ofZ zs i t := by
          have hua : Up m (((m2.rd b).rd m'.next).nw ⟨[cx w], 1, false, false⟩) := u1.trans ((Up.rd _ _).trans ((Up.rd _ _).trans (Up.nw _ _)))
          refine ⟨(hua.trans ((Up.rd _ m2.next).trans (Up.rd _ m'.next))).wr (b := m'.next) (x := ⟨cs.set L (cx w), 1, false, false⟩) u2 (by simp; omega) (by simp) (fun c => by simp), u2, by simp; omega, cs.set L (cx w), by simp, p2.set (g := ofZ zs i i) (by omega) hww fun t ht => ?_⟩
          by_cases h1 : t = L
          · rw [h1, if_pos (by omega), if_pos rfl, hL]
            show gsub (Ytonmjdhdkkmjlaa.up 1 (ofZ zs i) (i + 1)) (gmul (zs i) (ofZ zs i (i + 1))) = _
            rw [ofZ_ends zs i (i + 1) (Nat.le_refl _), gmul_zero, gsub_zero]
            unfold Ytonmjdhdkkmjlaa.up
            rw [if_pos (by omega), Nat.add_sub_cancel]
          · rw [if_neg h1]
            by_cases h2 : i < t
            · rw [if_pos h2, ofZ_ends zs (i + 1) t (by omega), ofZ_ends zs i t (by omega)]
            · rw [if_neg h2]
        refine code_loop_post (obS m (.slice (some ⟨b, o, none⟩) n k) n m'.next i L2 z zs) (obJ m (.slice (some ⟨b, o, none⟩) n k) n m'.next i L2 z zs) i (by omega) ⟨Nat.le_refl _, ⟨by simp [f1], by simp [f2], by simp, by simp [f29], by simp [f30], by simp [f31]⟩, by simp, by simp, hM2⟩ ?_ ?_
        · clear hM2 f1 f2 f6 f29 f30 f31 p1 p2 hwv
          rintro r fr3 m3 ⟨hr, ⟨f1, f2, f6, f29, f30, f31⟩, f8, f9, hM⟩
          by_cases hr0 : 0 < r
          · obtain ⟨v1, v2, v3, cs, p1, p2⟩ := hM
            obtain ⟨r1, hr1⟩ : ∃ r1, r1 = r - 1 := ⟨_, rfl⟩
            have hwr : IntKind.i64.wrap ((r : Int) - 1) = (r1 : Int) := by rw [hr1]; exact wrap_pred r hr0 (by omega)
            obtain ⟨x0, hx0, hwx0⟩ := p2.2 r1 (by omega)
            obtain ⟨x1, hx1, hwx1⟩ := p2.2 r (by omega)
            simp only [if_neg (show ¬ r < r1 by omega)] at hwx0
            simp only [Nat.lt_irrefl, if_false] at hwx1
            have hmul : WC (cmul z x1) (gmul (zs i) (ofZ zs i r)) := hwz.mulB hwx1 (hZ i) (BN.ofZ hZ i r) (by
              have h1 := ofB_grow hZ i r
              have h2 := ht (i + 1) r (by omega)
              have h3 : far ≤ top := by decide
              omega)
            have hnew : WC (csub x0 (cmul z x1)) (ofZ zs (i + 1) r) := by
              have hb := BN.ofZ hZ (i + 1) r
              have e : ofZ zs (i + 1) r = gsub (ofZ zs i r1) (gmul (zs i) (ofZ zs i r)) := by
                show gsub (Ytonmjdhdkkmjlaa.up 1 (ofZ zs i) r) (gmul (zs i) (ofZ zs i r)) = _
                unfold Ytonmjdhdkkmjlaa.up
                rw [if_pos (by omega), hr1]
              rw [e] at hb ⊢
              exact hwx0.subB hmul hb (Int.le_trans (ht (i + 1) r (by omega)) (by decide))
            simp [f1, f6, f8, f9, hr0]
            refine code_draw_dyn (plan := [0, 0, 0, 0, 8, 28, 60, 0, 0, 0, 768, 1792, 3968, 8188, 16383, 32767]) (by kernel_rfl) ?_
            simp [drawQ, apartAll, apartL, Nat.testBit, f1, f6, f8, f9, hwr, idx_L _ _ _ _ _ _ (show r < L2 by omega), idx_L _ _ _ _ _ _ (show r1 < L2 by omega), p1, hx0, hx1, run_mul, run_sub]
            refine storeQ_one (cs := cs) (sz := 1) (gr := false) (by simp [p1]) (by simp) (cells_cx _) (by rw [p2.1]; omega) fun m4 n4 l4 e4 => ?_
            simp only [Mem.next_rd, Mem.next_lg, Mem.at_rd, Mem.at_lg] at n4 e4
            simp [l4, drawQ, apartAll, apartL, Nat.testBit, f1, f9, hwr]
            refine ⟨r1, by omega, by omega, ⟨by simp [f1], by simp [f2], by simp [f6], by simp [f29], by simp [f30], by simp [f31]⟩, by simp [f8], by simp, ?_⟩
            refine ⟨v1.wr (b := m'.next) v2 v3 (by simpa using n4) (fun c => by rw [Mem.at_lg]; exact e4 c), v2, by rw [Mem.next_lg, n4]; exact v3, _, by rw [Mem.at_lg, e4, if_pos rfl], p2.set (by omega) hnew fun t ht => ?_⟩
            by_cases h1 : t = r
            · rw [h1, if_pos (by omega), if_pos rfl]
            · rw [if_neg h1]
              by_cases h2 : r < t
              · rw [if_pos h2, if_pos (by omega)]
              · rw [if_neg h2, if_neg (by omega)]
          · obtain rfl : r = 0 := by omega
            simp [f1, f9]
            exact ⟨rfl, ⟨by simp [f1], by simp [f2], by simp [f6], by simp [f29], by simp [f30], by simp [f31]⟩, by simp [f8], hM⟩
        · rintro ⟨e, fr3⟩ m3 ⟨he', ⟨f1, f2, f6, f29, f30, f31⟩, f8, hM⟩
          obtain rfl : e = .exit 4 := he'
          simp only at f1 f2 f6 f8 f29 f30 f31
          obtain ⟨v1, v2, v3, cs, p1, p2⟩ := hM
          obtain ⟨x1, hx1, hwx1⟩ := p2.2 0 (by omega)
          simp only [Nat.lt_irrefl, if_false] at hwx1
          have hmul : WC (cmul z x1) (gmul (zs i) (ofZ zs i 0)) := hwz.mulB hwx1 (hZ i) (BN.ofZ hZ i 0) (by
            have h1 := ofB_grow hZ i 0
            have h2 := ht (i + 1) 0 (by omega)
            have h3 : far ≤ top := by decide
            omega)
          have hnew : WC (cneg (cmul z x1)) (ofZ zs (i + 1) 0) := by
            have e : ofZ zs (i + 1) 0 = gneg (gmul (zs i) (ofZ zs i 0)) := by
              show gsub (Ytonmjdhdkkmjlaa.up 1 (ofZ zs i) 0) (gmul (zs i) (ofZ zs i 0)) = _
              unfold Ytonmjdhdkkmjlaa.up
              rw [if_neg (by omega), zero_gsub]
            rw [e]
            exact hmul.neg
          have hi0 := idx_L m'.next 0 L2 (n + 1) 0 .i64 (by omega)
          simp at hi0 hx1
          simp [f1, f6, f8, hi0, p1, hx1, run_mul, run_neg]
          refine storeQ_one (cs := cs) (sz := 1) (gr := false) (by simp [p1]) (by simp) (cells_cx _) (by rw [p2.1]; omega) fun m4 n4 l4 e4 => ?_
          simp only [Mem.next_rd, Mem.at_rd] at n4 e4
          simp [f1, f31, hwi]
          refine ⟨q - 1, by omega, i + 1, L2, by omega, by omega, ⟨by simp [f1], by simp [f2], by simp [f6], by simp [f29], by simp [f30], by simp⟩, v1.wr (b := m'.next) v2 v3 n4 e4, v2, by omega, _, by rw [e4, if_pos rfl], p2.set (by omega) hnew fun t ht => ?_⟩
          by_cases h1 : t = 0
          · rw [h1, if_pos rfl]
          · rw [if_neg h1, if_pos (by omega)]
      · obtain rfl : i = n := by omega
        simp [f1, f30, f31]
        exact ⟨rfl, by simp [f1], by simp [f2], by simp [f6, hL], hM⟩
    · rintro ⟨e, fr2⟩ m2 ⟨he', f1, f2, f6, hM⟩
      obtain rfl : e = .exit 2 := he'
      simp only at f1 f2 f6
      obtain ⟨u1, u2, u3, cs, p1, p2⟩ := hM
      simp [f1, f6]
      refine answer_ok (c := ofZ zs n) _ (PL.own p1 p2) (by omega) (by omega) (fun t => ?_) (ofZ_ends zs n) fun m3 v n' hs3 hn3 hr => ?_
      · have h := BN.ofZ hZ n t
        exact h.2.2.mono h.1 (ht n t (Nat.le_refl _))
      simp [f1, f2]
      exact hQ m3 v n' (u1.trans hs3.up) hn3 hr
end
end Go.Proofs.Ytonmjdhdkkmjlaa
