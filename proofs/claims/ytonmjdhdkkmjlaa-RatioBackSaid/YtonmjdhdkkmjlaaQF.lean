/- Polynomials in the clean executor: copies, sums. -/
import Derived.Test.YtonmjdhdkkmjlaaQE
namespace Go.Proofs.Ytonmjdhdkkmjlaa
open Go.Clean

@[simp] theorem bin_nil_L (xo yo : Operand) (a : Addr) (n c : Nat) : binX Try.prog .eql 24 xo yo (.slice (some a) n c) (.slice none 0 0) = some (.bool false) := by
  unfold binX
  simp [eqlX, isNilLit, nilType, under_L, isNil]
/-- A polynomial in memory. -/
structure RP (m : Mem) (v : Value) (n : Nat) (c : PG) : Prop where
  pl : PL m v n c
  ok : OKP n c
  ends : Ends c n
theorem RP.up {m m' : Mem} {v : Value} {n : Nat} {c : PG} (h : RP m v n c) (hw : MW m) (u : Up m m') : RP m' v n c := ⟨h.pl.up hw u, h.ok, h.ends⟩
theorem RP.keep {m m' : Mem} {v : Value} {n : Nat} {c : PG} (h : RP m v n c) (e : ∀ b, m'.at b = m.at b) : RP m' v n c := ⟨h.pl.keep e, h.ok, h.ends⟩
theorem ends_of {c : PG} {n N : Nat} (h : Ends c N) (hz : ∀ i, n ≤ i → i < N → c i = g0) : Ends c n := fun k hk => by
  by_cases h1 : k < N
  · exact hz k hk h1
  · exact h k (by omega)
section
set_option maxRecDepth 10000
theorem answer_ok (d : Nat) {m : Mem} {b o k N : Nat} {c : PG} (hv : PL m (.slice (some ⟨b, o, none⟩) N k) N c) (h0 : 0 < N) (hN : N ≤ 65) (hc : ∀ i, NB (c i) far) (he : Ends c N) {Q : Value → Mem → Prop}
    (hQ : ∀ m' v n, Sm m m' → n ≤ N → RP m' v n c → Q (.tuple ⟨[v, .int .i64 0]⟩) m') :
    Gives (callN Try.prog known (d + 5) 46 [.slice (some ⟨b, o, none⟩) N k]) m Q :=
  answered_ok d hv h0 hN hc fun m' n hs h1 h2 h3 h4 => hQ m' _ n hs h2 ⟨(hv.keep hs.2).less h2 (Nat.le_refl _), ⟨h1, by omega, hc, h4⟩, ends_of he h3⟩
theorem clone_ok (d : Nat) {m : Mem} {v : Value} {n : Nat} {c : PG} (hw : MW m) (hv : PL m v n c) (hn0 : 0 < n) (hn1 : n ≤ 65) {Q : Value → Mem → Prop}
    (hQ : ∀ m' b cells, Up m m' → m.next ≤ b → b < m'.next → m'.at b = some ⟨cells, 1, true, false⟩ → CL cells n c → Q (.slice (some ⟨b, 0, none⟩) n n) m') :
    Gives (callN Try.prog known (d + 1) 45 [v]) m Q := by
  refine gives_fn (nt := 8) rfl Try.func45 rfl rfl rfl (Nat.le_of_ble_eq_true rfl) fun fr hn hd hargs => ?_
  have h0 : fr.at 0 = _ := hargs 0 _ rfl
  clear hargs
  have hv' := hv
  obtain ⟨b, o, k, x, rfl, hk, hb, hs, he⟩ := hv'
  obtain ⟨x', l, hb', hl, hcl⟩ := hv.take
  obtain rfl : x = x' := by rw [hb] at hb'; exact Option.some.inj hb'
  have hbn : b < m.next := hw b x hb
  simp [h0, hn, hd]
  refine gives_build0 ?_
  simp [h0, hn, hd]
  refine gives_append_lit (x := x) (by simp) (by simp [show b ≠ m.next by omega, hb]) hl hcl.one hn0 (by omega) ?_
  simp [hn, hd]
  exact hQ _ _ _ ((Up.nw _ _).trans ((Up.rd _ _).trans ((Up.rd _ _).trans (Up.nw _ _)))) (by omega) (by simp) (by simp) hcl

def adI (m : Mem) (vb : Value) (bo n k : Nat) (a b : PG) (j : Nat) (fr : Fr) (m' : Mem) : Prop := ∃ i cells, i + j = k ∧ fr.n = 46 ∧ fr.d = [] ∧ fr.at 7 = .slice (some ⟨bo, 0, none⟩) n n ∧ fr.at 25 = vb ∧ fr.at 26 = .int .i64 k ∧ fr.at 27 = .int .i64 (i : Nat) ∧ Up m m' ∧ m.next ≤ bo ∧ bo < m'.next ∧ m'.at bo = some ⟨cells, 1, true, false⟩ ∧ CL cells n fun x => if x < i then gadd (a x) (b x) else a x
def adR (m : Mem) (bo n : Nat) (a b : PG) (r : Ex × Fr) (m' : Mem) : Prop := r.1 = .exit 0 ∧ ∃ cells, r.2.n = 46 ∧ r.2.d = [] ∧ r.2.at 7 = .slice (some ⟨bo, 0, none⟩) n n ∧ Up m m' ∧ m'.at bo = some ⟨cells, 1, true, false⟩ ∧ CL cells n fun x => gadd (a x) (b x)
theorem add_rest (d : Nat) {fr : Fr} {m : Mem} {va vb : Value} {n k : Nat} {a b : PG} (hw : MW m) (ha : RP m va n a) (hb : RP m vb k b) (hkn : k ≤ n) (hc : ∀ i, NB (gadd (a i) (b i)) far) (hn : fr.n = 46) (hd : fr.d = []) (h0 : fr.at 0 = va) (h1 : fr.at 1 = vb) {Q : Value → Mem → Prop}
    (hQ : ∀ m' v n', Up m m' → n' ≤ n → RP m' v n' (fun i => gadd (a i) (b i)) → Q (.tuple ⟨[v, .int .i64 0]⟩) m') :
    Gives (codeX Try.prog (callN Try.prog known (d + 9)) (sR (sR (sR (bodyOf Try.f10)))) fr) m (fnQ Try.prog [.tmp 4, .tmp 5] Q) := by
  refine via (X := .seq (.region _ _ _) _) rfl ?_
  have hn65 := ha.ok.most
  simp [h0, hn]
  refine clone_ok _ hw ha.pl ha.ok.pos ha.ok.most fun m1 bo cells hu1 hb1 hb2 hbo hcl => ?_
  have hvb := hb.pl.up hw hu1
  obtain ⟨b2, o, kk, x, rfl, hkk, hbx, hs, he⟩ := hvb
  simp [h1, hn]
  refine code_loop_post (adR m bo n a b) (adI m (.slice (some ⟨b2, o, none⟩) k kk) bo n k a b) k (by omega) ⟨0, cells, by omega, by simp [hn], by simp [hd], by simp, by simp, by simp, by simp, hu1, hb1, hb2, hbo, by simpa using hcl⟩ ?_ ?_
  · rintro j fr' m' ⟨i, cells, hij, hn', hd', g7, g25, g26, g27, hu, q1, q2, q3, q4⟩
    by_cases hi : i < k
    · obtain ⟨z, hz, hwz⟩ := he i hi
      have hbk : b2 ≠ bo := by
        intro h
        have hbb := hb.pl
        obtain ⟨b3, o3, k3, x3, e1, _, e2, _⟩ := hbb
        cases e1
        have := hw b2 x3 e2
        omega
      have hm : m'.at b2 = some x := by
        have hbb := hb.pl
        obtain ⟨b3, o3, k3, x3, e1, _, e2, _⟩ := hbb
        cases e1
        have h3 := hu1.at e2 hw
        rw [hbx] at h3
        cases Option.some.inj h3
        exact hu.at e2 hw
      obtain ⟨y, hy, hwy⟩ := q4.2 i (by omega)
      simp only [Nat.lt_irrefl, if_false] at hwy
      have hwr := wrap_succ i (by omega)
      simp [g7, g25, g26, g27, hn', hi, idx_L _ _ _ _ _ _ hi, idx_L _ _ _ _ _ _ (show i < n by omega), hm, hz, q3, hy, run_add]
      refine storeQ_one (cs := cells) (sz := 1) (gr := true) (by simp [q3]) (by simp) (cells_cx _) (by rw [q4.1]; omega) fun m4 n4 _ e4 => ?_
      simp only [Mem.next_rd, Mem.at_rd] at n4 e4
      simp [hn', g27, hwr]
      refine ⟨j - 1, by omega, i + 1, _, by omega, by simp [hn'], by simp [hd'], by simp [g7], by simp [g25], by simp [g26], by simp, hu.wr (b := bo) q1 q2 n4 e4, q1, by omega, by rw [e4, if_pos rfl], q4.set (by omega) (hwy.addB hwz (BN.real (by decide) (hc i)) (by decide)) fun x hx => ?_⟩
      by_cases hxi : x = i
      · subst hxi; rw [if_pos (by omega), if_pos rfl]
      · rw [if_neg hxi]
        by_cases h : x < i
        · rw [if_pos h, if_pos (by omega)]
        · rw [if_neg h, if_neg (by omega)]
    · simp [g7, g25, g26, g27, hn', hi]
      refine ⟨rfl, cells, by simp [hn'], by simp [hd'], by simp [g7], hu, q3, q4.congr fun x hx => ?_⟩
      by_cases h : x < i
      · rw [if_pos h]
      · rw [if_neg h, hb.ends x (by omega), gadd_zero]
  · rintro ⟨e, fr'⟩ m' ⟨he', cells, hn', hd', g7, hu, q3, q4⟩
    obtain rfl : e = .exit 0 := he'
    simp only at hn' hd' g7
    simp [g7, hn']
    refine answer_ok (c := fun i => gadd (a i) (b i)) _ (PL.own q3 q4) ha.ok.pos ha.ok.most hc (fun i hi => by show gadd (a i) (b i) = g0; rw [ha.ends i hi, hb.ends i (by omega), gadd_zero]) fun m2 v n' hs2 hn2 hr => ?_
    simp [hn', hd']
    exact hQ m2 v n' (hu.trans hs2.up) hn2 hr
theorem add_ok (d : Nat) {m : Mem} {va vb : Value} {n k : Nat} {a b : PG} (hw : MW m) (ha : RP m va n a) (hb : RP m vb k b) (hc : ∀ i, NB (gadd (a i) (b i)) far) {Q : Value → Mem → Prop}
    (hQ : ∀ m' v n', Up m m' → n' ≤ max n k → RP m' v n' (fun i => gadd (a i) (b i)) → Q (.tuple ⟨[v, .int .i64 0]⟩) m') :
    Gives (callN Try.prog known (d + 10) 10 [va, vb]) m Q := by
  refine gives_fn (nt := 46) rfl Try.func10 rfl rfl rfl (Nat.le_of_ble_eq_true rfl) fun fr hn hd hargs => ?_
  have h0 : fr.at 0 = _ := hargs 0 _ rfl
  have h1 : fr.at 1 = _ := hargs 1 _ rfl
  clear hargs
  obtain ⟨ba, oa, ka, xa, rfl, _⟩ := id ha.pl
  obtain ⟨bb, ob, kb, xb, rfl, _⟩ := id hb.pl
  simp [h0, h1, hn]
  refine both_ok _ ha.pl ha.ok hb.pl hb.ok fun m1 hs => ?_
  simp [h0, h1, hn, -code_seq]
  refine (code_seq _ _ _ _ _).2 ?_
  simp [h0, h1, hn, -code_seq]
  refine (code_seq _ _ _ _ _).2 ((code_seq _ _ _ _ _).2 ?_)
  have hw1 := hs.mw hw
  by_cases hlt : n < k
  · simp [h0, h1, hn, -code_seq, show (n : Int) < (k : Int) by omega]
    refine via (X := sR (sR (sR (bodyOf Try.f10)))) (by kernel_rfl) (add_rest d hw1 (hb.keep hs.2) (ha.keep hs.2) (by omega) (fun i => by rw [gadd_comm]; exact hc i) ?_ ?_ ?_ ?_ fun m' v n' hu hn' hr => ?_)
    · simp [hn]
    · simp [hd]
    · simp
    · simp
    · refine hQ m' v n' (hs.up.trans hu) (by omega) ?_
      have e : (fun i => gadd (b i) (a i)) = fun i => gadd (a i) (b i) := by funext i; exact gadd_comm _ _
      rw [e] at hr
      exact hr
  · simp [h0, h1, hn, -code_seq, show ¬ (n : Int) < (k : Int) by omega]
    refine via (X := sR (sR (sR (bodyOf Try.f10)))) (by kernel_rfl) (add_rest d hw1 (ha.keep hs.2) (hb.keep hs.2) (by omega) hc ?_ ?_ ?_ ?_ fun m' v n' hu hn' hr => hQ m' v n' (hs.up.trans hu) (by omega) hr)
    · simp [hn]
    · simp [hd]
    · simp [h0]
    · simp [h1]
end
end Go.Proofs.Ytonmjdhdkkmjlaa
