/- Polynomials in the clean executor: shifts. -/
import Derived.Test.YtonmjdhdkkmjlaaQG
namespace Go.Proofs.Ytonmjdhdkkmjlaa
open Go.Clean

theorem wrap_less (k : Nat) (h : k < 4611686018427387904) : IntKind.i64.wrap ((k : Int) - 1) = (k : Int) - 1 := by
  have e1 : (2 : Int) ^ 64 = 18446744073709551616 := by decide
  have e2 : (2 : Int) ^ 63 = 9223372036854775808 := by decide
  simp only [IntKind.wrap]
  simp [IntKind.bits, IntKind.signed, e1, e2]
  omega
theorem WC.step2 {v z c : C} {g w h b W B : G} (hv : WC v g) (hz : WC z w) (hc : WC c h) (hg : BN g b) (hw : BN w W) (hh : BN h B) (ht : (gadd (gmul b W) B).1 ≤ top) : WC (cadd c (cmul v z)) (gadd (gmul g w) h) := by
  have hm := hg.mul hw
  have hs := hh.add hm
  have hB := hh.1
  have h0 := hm.1
  have ht' : (gmul b W).1 + B.1 ≤ top := ht
  have h1 := hv.mulB hz hg hw (by omega)
  rw [gadd_comm]
  refine hc.addB h1 hs ?_
  show B.1 + (gmul b W).1 ≤ top
  omega
section
set_option maxRecDepth 10000
structure SF (fr : Fr) (z : C) (n bo j : Nat) : Prop where
  fn : fr.n = 53
  fd : fr.d = []
  a1 : fr.at 1 = cx z
  a7 : fr.at 7 = .slice (some ⟨bo, 0, none⟩) n n
  a8 : fr.at 8 = .int .i64 ((n - 1 : Nat) : Int)
  a22 : fr.at 22 = .int .i64 ((n - 1 : Nat) : Int)
  a23 : fr.at 23 = .int .i64 (j : Nat)
structure SM (m m' : Mem) (bo n : Nat) (c : PG) : Prop where
  up : Up m m'
  bo1 : m.next ≤ bo
  bo2 : bo < m'.next
  ex : ∃ cells, m'.at bo = some ⟨cells, 1, true, false⟩ ∧ CL cells n c
theorem SM.keep {m m' m2 : Mem} {bo n : Nat} {c e : PG} (h : SM m m' bo n c) (hs : Sm m' m2) (he : ∀ t, t < n → e t = c t) : SM m m2 bo n e := by
  obtain ⟨h1, h2, h3, cells, q1, q2⟩ := h
  exact ⟨h1.trans hs.up, h2, by rw [hs.1]; exact h3, cells, by rw [hs.2]; exact q1, q2.congr fun t ht => (he t ht).symm⟩
def shI (m : Mem) (z : C) (g : G) (n bo : Nat) (c : PG) (q : Nat) (fr : Fr) (m' : Mem) : Prop := ∃ j, j + q = n - 1 ∧ SF fr z n bo j ∧ SM m m' bo n (sh (n - 1) g c j)
def shJ (m : Mem) (z : C) (g : G) (n bo j : Nat) (s : PG) (r : Nat) (fr : Fr) (m' : Mem) : Prop := ∃ q, q = r + j ∧ q ≤ n - 1 ∧ SF fr z n bo j ∧ fr.at 9 = .int .i64 (j : Nat) ∧ fr.at 10 = .int .i64 ((q : Int) - 1) ∧ SM m m' bo n fun k => if q ≤ k ∧ k ≤ n - 1 then tl s g (n - k) k else s k
def shS (m : Mem) (z : C) (g : G) (n bo j : Nat) (c : PG) (r : Ex × Fr) (m' : Mem) : Prop := r.1 = .exit 2 ∧ SF r.2 z n bo j ∧ SM m m' bo n (sh (n - 1) g c (j + 1))
def shR (m : Mem) (g : G) (n bo : Nat) (c : PG) (r : Ex × Fr) (m' : Mem) : Prop := r.1 = .exit 0 ∧ r.2.n = 53 ∧ r.2.d = [] ∧ r.2.at 7 = .slice (some ⟨bo, 0, none⟩) n n ∧ SM m m' bo n (sh (n - 1) g c (n - 1))
theorem shift_ok (d : Nat) {m : Mem} {v : Value} {n : Nat} {c : PG} {z : C} {g : G} (hw : MW m) (hv : RP m v n c) (hz : WC z g) (hg : NB g far) {D : PG} {Z : G} (hD : ∀ k, BN (c k) (D k)) (hZ : BN g Z) (ht : ∀ j i, j ≤ i → i < n → (tl (sh (n - 1) Z D j) Z (n - i) i).1 ≤ top) (hf : ∀ k, NB (sh (n - 1) g c (n - 1) k) far)
    {Q : Value → Mem → Prop} (hQ : ∀ m' v n', Up m m' → n' ≤ n → RP m' v n' (sh (n - 1) g c (n - 1)) → Q (.tuple ⟨[v, .int .i64 0]⟩) m') :
    Gives (callN Try.prog known (d + 10) 12 [v, cx z]) m Q := by
  refine gives_fn (nt := 53) rfl Try.func12 rfl rfl rfl (Nat.le_of_ble_eq_true rfl) fun fr hn hd hargs => ?_
  have h0 : fr.at 0 = _ := hargs 0 _ rfl
  have h1 : fr.at 1 = _ := hargs 1 _ rfl
  clear hargs
  have hn0 := hv.ok.pos
  have hn65 := hv.ok.most
  simp [h0, h1, hn]
  refine asked_ok _ hv.pl hv.ok hz hg fun m1 hs => ?_
  have hw1 := hs.mw hw
  simp [h0, h1, hn]
  refine clone_ok _ hw1 (hv.pl.keep hs.2) hn0 hn65 fun m2 bo cells hu q1 q2 q3 q4 => ?_
  have hp := wrap_pred n hn0 (by omega)
  simp [h1, hn, hp]
  refine code_loop_post (shR m g n bo c) (shI m z g n bo c) (n - 1) (by omega) ⟨0, by omega, ⟨by simp [hn], by simp [hd], by simp [h1], by simp, by simp, by simp, by simp⟩, hs.up.trans hu, by rw [← hs.1]; exact q1, q2, cells, q3, q4⟩ ?_ ?_
  · rintro q fr' m' ⟨j, hjq, ⟨f1, f2, f3, f4, f5, f6, f7⟩, hM⟩
    by_cases hj : j < n - 1
    · have hwj := wrap_succ j (by omega)
      have hp2 : IntKind.i64.wrap (((n - 1 : Nat) : Int) - 1) = ((n - 1 : Nat) : Int) - 1 := wrap_less _ (by omega)
      simp [f1, f3, f4, f5, f6, f7, hj, hp2]
      refine code_loop_post (shS m z g n bo j c) (shJ m z g n bo j (sh (n - 1) g c j)) (n - 1 - j) (by omega) ⟨n - 1, by omega, by omega, ⟨by simp [f1], by simp [f2], by simp [f3], by simp [f4], by simp [f5], by simp [f6], by simp [f7]⟩, by simp, by simp, hM.keep (Sm.refl _) fun t ht' => ?_⟩ ?_ ?_
      · by_cases h : n - 1 ≤ t ∧ t ≤ n - 1
        · rw [if_pos h, show t = n - 1 by omega, show n - (n - 1) = 1 by omega]
          show gadd (gmul g0 g) _ = _
          rw [zero_gmul, zero_gadd]
        · rw [if_neg h]
      · clear hM f1 f2 f3 f4 f5 f6 f7
        rintro r fr2 m3 ⟨q, hqr, hqn, ⟨f1, f2, f3, f4, f5, f6, f7⟩, f9, f10, hM⟩
        by_cases hq : j + 1 ≤ q
        · obtain ⟨i, hqi⟩ : ∃ i, q = i + 1 := ⟨q - 1, by omega⟩
          have f10' : fr2.at 10 = .int .i64 (i : Nat) := by rw [f10]; congr 1; omega
          obtain ⟨u1, u2, u3, cs, p1, p2⟩ := hM
          obtain ⟨x, hx, hwx⟩ := p2.2 i (by omega)
          obtain ⟨y, hy, hwy⟩ := p2.2 q (by omega)
          simp only [if_neg (show ¬ (q ≤ i ∧ i ≤ n - 1) by omega)] at hwx
          simp only [if_pos (show q ≤ q ∧ q ≤ n - 1 by omega)] at hwy
          have hwi : IntKind.i64.wrap ((i : Int) + 1) = (q : Int) := by rw [hqi]; exact wrap_succ i (by omega)
          have hwl := wrap_less i (by omega)
          have hnew : WC (cadd x (cmul y z)) (tl (sh (n - 1) g c j) g (n - i) i) := by
            rw [hqi] at hwy
            have hB := BN.tl hZ (c := sh (n - 1) g c j) (d := sh (n - 1) Z D j) (n := n - (i + 1)) (i := i + 1) fun k _ => BN.sh _ hZ hD _ _
            have ht' := ht j i (by omega) (by omega)
            rw [show n - i = n - (i + 1) + 1 by omega] at ht' ⊢
            exact hwy.step2 hz hwx hB hZ (BN.sh _ hZ hD _ _) ht'
          simp [f1, f3, f4, f9, f10', show (j : Int) ≤ (i : Int) by omega]
          refine code_draw_dyn (plan := [0, 0, 0, 0, 12, 28, 0, 0, 128, 448, 960, 0, 4032, 8188, 16383, 32767]) (by kernel_rfl) ?_
          simp [drawQ, apartAll, apartL, Nat.testBit, f1, f3, f4, f9, f10', hwi, idx_L _ _ _ _ _ _ (show i < n by omega), idx_L _ _ _ _ _ _ (show q < n by omega), p1, hx, hy, run_mul, run_add]
          refine storeQ_one (cs := cs) (sz := 1) (gr := true) (by simp [p1]) (by simp) (cells_cx _) (by rw [p2.1]; omega) fun m4 n4 l4 e4 => ?_
          simp only [Mem.next_rd, Mem.next_lg, Mem.at_rd, Mem.at_lg] at n4 e4
          simp [l4, drawQ, apartAll, apartL, Nat.testBit, f1, f10', hwl]
          refine ⟨r - 1, by omega, i, by omega, by omega, ⟨by simp [f1], by simp [f2], by simp [f3], by simp [f4], by simp [f5], by simp [f6], by simp [f7]⟩, by simp [f9], by simp, ?_⟩
          refine ⟨u1.wr (b := bo) u2 u3 (by simpa using n4) (fun c => by rw [Mem.at_lg]; exact e4 c), u2, by rw [Mem.next_lg, n4]; exact u3, _, by rw [Mem.at_lg, e4, if_pos rfl], p2.set (by omega) hnew fun k hk => ?_⟩
          by_cases h1 : k = i
          · rw [h1, if_pos (by omega), if_pos rfl]
          · rw [if_neg h1]
            by_cases h2 : q ≤ k ∧ k ≤ n - 1
            · rw [if_pos h2, if_pos (by omega)]
            · rw [if_neg h2, if_neg (by omega)]
        · have hqj : q = j := by omega
          simp [f1, f9, f10, show ¬ (j : Int) ≤ (q : Int) - 1 by omega]
          refine ⟨rfl, ⟨by simp [f1], by simp [f2], by simp [f3], by simp [f4], by simp [f5], by simp [f6], by simp [f7]⟩, hM.keep (Sm.refl _) fun t ht' => ?_⟩
          show pass (n - 1) g (sh (n - 1) g c j) j t = _
          unfold pass
          rw [hqj]
          by_cases h : j ≤ t ∧ t ≤ n - 1
          · rw [if_pos h, if_pos h, show n - 1 + 1 - t = n - t by omega]
          · rw [if_neg h, if_neg h]
      · rintro ⟨e, fr2⟩ m3 ⟨he', ⟨f1, f2, f3, f4, f5, f6, f7⟩, hM2⟩
        obtain rfl : e = .exit 2 := he'
        simp only at f1 f2 f3 f4 f5 f6 f7
        simp [f1, f7, hwj]
        exact ⟨q - 1, by omega, j + 1, by omega, ⟨by simp [f1], by simp [f2], by simp [f3], by simp [f4], by simp [f5], by simp [f6], by simp⟩, hM2⟩
    · obtain rfl : j = n - 1 := by omega
      simp [f1, f6, f7]
      exact ⟨rfl, by simp [f1], by simp [f2], by simp [f4], hM⟩
  · rintro ⟨e, fr'⟩ m' ⟨he', f1, f2, f4, hM⟩
    obtain rfl : e = .exit 0 := he'
    simp only at f1 f2 f4
    obtain ⟨u1, u2, u3, cs, p1, p2⟩ := hM
    simp [f1, f4]
    refine answer_ok (c := sh (n - 1) g c (n - 1)) _ (PL.own p1 p2) hn0 hn65 hf (fun t ht => by rw [sh_above _ _ _ _ _ (by omega)]; exact hv.ends t ht) fun m2 v n' hs2 hn2 hr => ?_
    simp [f1, f2]
    exact hQ m2 v n' (u1.trans hs2.up) hn2 hr
end
end Go.Proofs.Ytonmjdhdkkmjlaa
