/- Fractions in the clean executor: a polynomial's slope. -/
import Derived.Test.YtonmjdhdkkmjlaaRE
namespace Go.Proofs.Ytonmjdhdkkmjlaa
open Go.Clean

def cscale (x : C) (f : F) : C := (fmul x.1 f, fmul x.2 f)
theorem WC.scale {x : C} {f : F} {g : G} {k B : Int} (hx : WC x g) (hf : WF f k) (hB : 0 ≤ B) (hn : NB (gmul g (k, 0)) B) (ht : B ≤ top) : WC (cscale x f) (gmul g (k, 0)) := by
  have e : gmul g (k, 0) = (g.1 * k, g.2 * k) := gext (by show g.1 * k - g.2 * 0 = _; omega) (by show g.1 * 0 + g.2 * k = _; omega)
  rw [e] at hn ⊢
  have hp := hn.parts hB
  have ht' : B.toNat < 9007199254740992 := by unfold top at ht; omega
  exact ⟨hx.1.mul hf (by have := hp.1; simp only at this; omega), hx.2.mul hf (by have := hp.2; simp only at this; omega)⟩
def intF (n : Nat) : F := some (Ieee.double.write (.number (decide ((n : Int) < 0)) (n : Int).natAbs 0))
theorem WF.intF {n : Nat} (h : n < 1000000) : WF (intF n) (n : Int) := WF.int _ (by omega)
theorem conv_nat {n : Nat} (h : n < 1000000) : convX Try.prog 3 28 (.int .i64 (n : Int)) = some (fv (intF n)) := by
  rw [conv_int]
  unfold fv intF
  rw [cOf_WF (WF.int _ (by omega))]
section
set_option maxRecDepth 10000
theorem run_scale (n : Nat) (x : C) (f : F) (m : Mem) (Q : Value → Mem → Prop) : Gives (callN Try.prog known (n + 1) 64 [cx x, fv f]) m Q ↔ Q (cx (cscale x f)) m := by
  refine gives_pure (fun m => ?_) m Q
  refine gives_fn (nt := 14) rfl Try.func64 rfl rfl rfl (Nat.le_of_ble_eq_true rfl) fun fr hn hd hargs => ?_
  have h0 : fr.at 0 = _ := hargs 0 _ rfl
  have h1 : fr.at 1 = _ := hargs 1 _ rfl
  clear hargs
  simp [h0, h1, hn, hd, fv, cx, cscale]
theorem gives_slice_lo {b o len cap : Nat} {q : IntKind} {x : Blk} {m : Mem} {Q : Value → Mem → Prop} (hb : m.at b = some x) (hs : x.sz = 1) (h1 : 1 < len) (h2 : len ≤ cap) (h : Q (.slice (some ⟨b, o + 1, none⟩) (len - 1) (cap - 1)) (m.rd b)) :
    Gives (sliceX Try.prog 24 (.slice (some ⟨b, o, none⟩) len cap) (some (.int q 1)) none none) m Q := by
  unfold sliceX
  simp only [under_L, size_c]
  rw [gives_bind, gives_getB, hb, optQ_some, gives_bind, gives_guard]
  refine ⟨by rw [hs]; rfl, ?_⟩
  have e1 : boundX (some (Value.int q 1)) 0 len = some 1 := by
    show (bif decide (0 ≤ (1 : Int) ∧ (1 : Int) ≤ (len : Int)) then some (Int.toNat 1) else none) = some 1
    have : decide (0 ≤ (1 : Int) ∧ (1 : Int) ≤ (len : Int)) = true := by simp; omega
    rw [this]; rfl
  have e2 : boundX none len cap = some len := rfl
  have e3 : (cap == 1) = false := by simp; omega
  simp only [e1, e2, e3, Bool.not_false, Bool.true_or, cond_true, cond_false, Nat.one_mul]
  exact (gives_ret _ _ _).2 h
def psI (m : Mem) (w : Value) (n N bo : Nat) (a : PG) (q : Nat) (fr : Fr) (m' : Mem) : Prop := ∃ i cells, i + q = N ∧ fr.n = 41 ∧ fr.d = [] ∧ fr.at 5 = .slice (some ⟨bo, 0, none⟩) i n ∧ fr.at 21 = w ∧ fr.at 22 = .int .i64 N ∧ fr.at 23 = .int .i64 (i : Nat) ∧ Up m m' ∧ m.next ≤ bo ∧ bo < m'.next ∧ m'.at bo = some ⟨cells, 1, false, false⟩ ∧ cells.length = n ∧ ∀ t, t < i → ∃ z, cells[t]? = some (cx z) ∧ WC z (sl n a t)
theorem pslope_ok (d : Nat) {m : Mem} {va : Value} {n : Nat} {a : PG} (hw : MW m) (ha : RP m va n a) (hn4 : n ≤ 4) (hp : PB a A4) {Q : Value → Mem → Prop}
    (hQ : ∀ m' v n', Up m m' → n' ≤ 3 → RP m' v n' (sl n a) → Q (.tuple ⟨[v, .int .i64 0]⟩) m') :
    Gives (callN Try.prog known (d + 10) 29 [va]) m Q := by
  refine gives_fn (nt := 41) rfl Try.func29 rfl rfl rfl (Nat.le_of_ble_eq_true rfl) fun fr hn hd hargs => ?_
  have h0 : fr.at 0 = _ := hargs 0 _ rfl
  clear hargs
  simp [h0, hn]
  refine check_ok _ ha.pl ha.ok fun m1 hs1 => ?_
  have hp0 := ha.ok.pos
  have hu1 := hs1.up
  have hw1 := hu1.wf hw
  have hsm := hp.sl hn4
  obtain ⟨b, o, k, x, rfl, hk, hb, hsz, he⟩ := ha.pl.up hw hu1
  by_cases h1 : n = 1
  · subst h1
    simp [h0, hn, cx_zero]
    refine gives_build1 bs_L (cells_cx _) (one_cx _) ?_
    simp [hn, hd]
    have hz : ∀ t, sl 1 a t = g0 := fun t => if_neg (by omega)
    exact hQ _ _ 1 (hu1.trans (Up.nw _ _)) (by omega) ⟨PL.own (gr := false) (ro := false) (cells := [cx (some 0, some 0)]) (by simp) ⟨rfl, fun i hi => ⟨(some 0, some 0), by rw [show i = 0 by omega]; rfl, by rw [hz]; exact WC.zero⟩⟩, ⟨by omega, by omega, fun i => by rw [hz]; unfold NB; decide, fun h => by omega⟩, fun t _ => hz t⟩
  · simp [h0, hn, show ¬ (n : Int) = 1 by omega]
    refine gives_make (c := n) (l := 0) mk_L (by omega) (by omega) ?_
    simp [h0, hn]
    have hne : b ≠ m1.next := fun h => by
      have := hw1 b x hb
      omega
    refine gives_slice_lo (x := x) (by simp [hne, hb]) hsz (by omega) hk ?_
    obtain ⟨N, hN⟩ : ∃ N, N = n - 1 := ⟨_, rfl⟩
    rw [← hN]
    simp [hn]
    have hu2 : Up m1 ((m1.nw ⟨List.replicate n (.complex .f64 0 0), 1, false, false⟩).rd b) := (Up.nw _ _).trans (Up.rd _ _)
    refine code_loop (psI m1 (.slice (some ⟨b, o + 1, none⟩) N (k - 1)) n N m1.next a) N (by omega) ⟨0, List.replicate n (.complex .f64 0 0), by omega, by simp [hn], by simp [hd], by simp, by simp, by simp, by simp, hu2, Nat.le_refl _, by simp, by simp, by simp, fun t ht => by omega⟩ ?_
    clear hn hd h0
    rintro q fr' m' ⟨i, cells, hiq, f1, f2, f5, f21, f22, f23, hu, hbo, hbo2, hm, hlen, hcl⟩
    by_cases hi : i < N
    · obtain ⟨z, hz, hwz⟩ := he (i + 1) (by omega)
      have hbm : m'.at b = some x := hu.at hb hw1
      have hz' : x.cells[o + 1 + i]? = some (cx z) := by rw [show o + 1 + i = o + (i + 1) by omega]; exact hz
      obtain ⟨i1, hi1⟩ : ∃ i1, i1 = i + 1 := ⟨_, rfl⟩
      have hwi : IntKind.i64.wrap ((i : Int) + 1) = (i1 : Int) := by rw [hi1]; exact wrap_succ i (by omega)
      simp [f1, f5, f21, f22, f23, hi, idx_L _ _ _ _ _ _ hi, hbm, hz', hwi, conv_nat (show i1 < 1000000 by omega), run_scale]
      refine gives_build1 bs_L (cells_cx _) (one_cx _) ?_
      simp [f1]
      have hks : gmul (a (i + 1)) (ks i) = sl n a i := (if_pos (show i + 1 < n by omega)).symm
      have hww : WC (cscale z (intF i1)) (sl n a i) := by
        have hb := (hsm.bn i)
        rw [← hks] at hb ⊢
        refine WC.scale (k := ((i + 1 : Nat) : Int)) hwz ?_ hb.1 hb.2.2 ?_
        · rw [hi1]; exact WF.intF (by omega)
        · have := rD i (by omega); unfold top; omega
      have hbne : m1.next ≠ m'.next := by omega
      refine gives_append_room (b := m1.next) (b2 := m'.next) (n := i) (c := n) (v := cx (cscale z (intF i1))) (cells := cells) (gr := false) (by simp [hbne, hm]) (by simp) (one_cx _) (by omega) hlen (by omega) ?_
      simp [f1, f23, hwi]
      refine ⟨q - 1, by omega, i1, cells.set i (cx (cscale z (intF i1))), by omega, by simp [f1], by simp [f2], ?_, by simp [f21], by simp [f22], by simp, ?_, hbo, by simp; omega, by simp, by simp [hlen], ?_⟩
      · simp [hi1]
      · have hua : Up m1 (((m'.rd b).nw ⟨[cx (cscale z (intF i1))], 1, false, false⟩).rd m'.next |>.rd m1.next) := hu.trans ((Up.rd _ _).trans ((Up.nw _ _).trans ((Up.rd _ _).trans (Up.rd _ _))))
        exact hua.wr (b := m1.next) (x := ⟨cells.set i (cx (cscale z (intF i1))), 1, false, false⟩) hbo (by simp; omega) (by simp) (fun c => by simp)
      · intro t ht
        by_cases hti : t = i
        · subst hti
          exact ⟨_, by rw [List.getElem?_set_self (by omega)], hww⟩
        · rw [List.getElem?_set_ne (by omega)]
          exact hcl t (by omega)
    · have hiN : i = N := by omega
      subst hiN
      simp [f1, f5, f22, f23]
      have hpl : PL m' (.slice (some ⟨m1.next, 0, none⟩) i n) i (sl n a) := ⟨m1.next, 0, n, _, rfl, by omega, hm, rfl, fun t ht => by rw [Nat.zero_add]; exact hcl t ht⟩
      refine answer_ok _ hpl (by omega) (by omega) (fun t => (d4_small hsm t).mono (by decide) (by decide)) (by rw [hN]; exact sl_ends n a) fun m2 v n' hs2 hn2 hr => ?_
      simp [f1, f2, extractX]
      exact hQ m2 v n' (hu1.trans (hu.trans hs2.up)) (by omega) hr
end
end Go.Proofs.Ytonmjdhdkkmjlaa
