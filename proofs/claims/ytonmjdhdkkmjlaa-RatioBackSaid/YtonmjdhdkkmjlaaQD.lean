/- Polynomials in the clean executor: which ones may be. -/
import Derived.Test.YtonmjdhdkkmjlaaQC
namespace Go.Proofs.Ytonmjdhdkkmjlaa
open Go.Clean

def boolOf : Value → Option Bool
  | .bool b => some b
  | _ => none
theorem boolOf_bool (b : Bool) : boolOf (.bool b) = some b := by simp [boolOf]
theorem region_hid {P : Program} {call : Caller} {id : Nat} {ops : Array Oper} {fr : Fr} {m : Mem} {Q : CQ} (h : ∀ ops' : Array Oper, ops' = ops → Gives (stepsX P call ops' ops.toList fr) m (regQ Q)) : Gives (codeX P call (.region id ops false) fr) m Q := (code_region id ops fr m Q).2 (h ops rfl)
theorem wrap_pred (n : Nat) (h0 : 0 < n) (h : n < 4611686018427387904) : IntKind.i64.wrap ((n : Int) - 1) = ((n - 1 : Nat) : Int) := by
  have := wrap_add (n - 1) 0 (by omega)
  rw [show ((n : Int) - 1) = ((n - 1 : Nat) : Int) + ((0 : Nat) : Int) by omega]
  exact this
/-- Nothing has turned. -/
def Sm (m m' : Mem) : Prop := m'.next = m.next ∧ ∀ b, m'.at b = m.at b
theorem Sm.refl (m : Mem) : Sm m m := ⟨rfl, fun _ => rfl⟩
theorem Sm.trans {m m1 m2 : Mem} (h : Sm m m1) (k : Sm m1 m2) : Sm m m2 := ⟨k.1.trans h.1, fun b => (k.2 b).trans (h.2 b)⟩
theorem Sm.up {m m' : Mem} (h : Sm m m') : Up m m' := Up.same h.1 h.2
theorem Sm.rd (m : Mem) (b : Nat) : Sm m (m.rd b) := ⟨by simp, fun c => by simp⟩
theorem Sm.mw {m m' : Mem} (h : Sm m m') (w : MW m) : MW m' := h.up.wf w
def far : Int := 1099511627776
/-- A polynomial that may be. -/
structure OKP (n : Nat) (c : PG) : Prop where
  pos : 0 < n
  most : n ≤ 65
  near : ∀ i, NB (c i) far
  last : 1 < n → c (n - 1) ≠ g0

section
set_option maxRecDepth 10000
theorem run_far (n : Nat) (x : C) (m : Mem) (Q : Value → Mem → Prop) : Gives (callN Try.prog known (n + 5) 78 [cx x]) m Q ↔ Q (.bool (!cwithin x lim)) m := by
  refine gives_pure (fun m => ?_) m Q
  refine gives_fn (nt := 6) rfl Try.func78 rfl rfl rfl (Nat.le_of_ble_eq_true rfl) fun fr hn hd hargs => ?_
  have h0 : fr.at 0 = _ := hargs 0 _ rfl
  clear hargs
  simp [h0, hn, hd, run_place]
def farV : Value := .func (.func 78) ⟨[]⟩ ⟨[]⟩
theorem fun_farV : funX farV = some (78, [], []) := rfl
def ixI (n : Nat) (v : Value) (m : Mem) (j : Nat) (fr : Fr) (m' : Mem) : Prop := ∃ i, i + j = n ∧ fr.n = 19 ∧ fr.d = [] ∧ fr.at 0 = v ∧ fr.at 1 = farV ∧ fr.at 7 = .int .i64 n ∧ fr.at 8 = .int .i64 (i : Nat) ∧ Sm m m'
theorem index_ok (d : Nat) {m : Mem} {v : Value} {n : Nat} {c : PG} (hv : PL m v n c) (hn1 : n < 1000000) (hc : ∀ i, NB (c i) far) {Q : Value → Mem → Prop} (hQ : ∀ m', Sm m m' → Q (.int .i64 (-1)) m') :
    Gives (callN Try.prog known (d + 6) 89 [v, farV]) m Q := by
  refine gives_fn (nt := 19) rfl Try.func89 rfl rfl rfl (Nat.le_of_ble_eq_true rfl) fun fr hn hd hargs => ?_
  have h0 : fr.at 0 = _ := hargs 0 _ rfl
  have h1 : fr.at 1 = _ := hargs 1 _ rfl
  clear hargs
  obtain ⟨b, o, k, x, rfl, _, hb, hs, he⟩ := hv
  simp [h0, h1, hn]
  refine code_loop (ixI n (.slice (some ⟨b, o, none⟩) n k) m) n (by omega) ⟨0, by omega, by simp [hn], by simp [hd], by simp [h0], by simp [h1], by simp, by simp, Sm.refl m⟩ ?_
  rintro j fr' m' ⟨i, hij, hn', hd', g0, g1, g7, g8, hsm⟩
  by_cases hi : i < n
  · obtain ⟨z, hz, hwz⟩ := he i hi
    have hm : m'.at b = some x := by rw [hsm.2]; exact hb
    have hw := wrap_succ i (by omega)
    simp [hn', g0, g1, g7, g8, hi, hm, idx_L _ _ _ _ _ _ hi, hz, fun_farV, run_far, hwz.place (hc i), hw]
    exact ⟨j - 1, by omega, i + 1, by omega, by simp [hn'], by simp [hd'], by simp [g0], by simp [g1], by simp [g7], by simp, hsm.trans (Sm.rd _ _)⟩
  · simp [hn', g0, g1, g7, g8, hi, hd']
    exact hQ _ hsm
theorem contains_ok (d : Nat) {m : Mem} {v : Value} {n : Nat} {c : PG} (hv : PL m v n c) (hn1 : n < 1000000) (hc : ∀ i, NB (c i) far) {Q : Value → Mem → Prop} (hQ : ∀ m', Sm m m' → Q (.bool false) m') :
    Gives (callN Try.prog known (d + 7) 79 [v, farV]) m Q := by
  refine gives_fn (nt := 9) rfl Try.func79 rfl rfl rfl (Nat.le_of_ble_eq_true rfl) fun fr hn hd hargs => ?_
  have h0 : fr.at 0 = _ := hargs 0 _ rfl
  have h1 : fr.at 1 = _ := hargs 1 _ rfl
  clear hargs
  simp [h0, h1, hn]
  refine index_ok d hv hn1 hc fun m' hs => ?_
  simp [hn, hd]
  exact hQ _ hs
theorem check_ok (d : Nat) {m : Mem} {v : Value} {n : Nat} {c : PG} (hv : PL m v n c) (hc : OKP n c) {Q : Value → Mem → Prop} (hQ : ∀ m', Sm m m' → Q (.int .i64 0) m') :
    Gives (callN Try.prog known (d + 8) 42 [v]) m Q := by
  refine gives_fn (nt := 31) rfl Try.func42 rfl rfl rfl (Nat.le_of_ble_eq_true rfl) fun fr hn hd hargs => ?_
  have h0 : fr.at 0 = _ := hargs 0 _ rfl
  clear hargs
  have hv' := hv
  obtain ⟨b, o, k, x, rfl, _, hb, hs, he⟩ := hv'
  have h1 := hc.pos
  have h2 := hc.most
  refine (code_seq _ _ _ _ _).2 ?_
  simp [h0, hn, -code_seq]
  refine (code_seq _ _ _ _ _).2 ?_
  simp [h0, hn, -code_seq]
  refine (code_seq _ _ _ _ _).2 ((code_seq _ _ _ _ _).2 (region_hid fun ops hops => ?_))
  have y3 : ∀ fr, yieldX ops fr 3 = boolOf (fr.at 7) := fun fr => by rw [hops]; rfl
  have y8 : ∀ fr, yieldX ops fr 8 = boolOf (fr.at 12) := fun fr => by rw [hops]; rfl
  have y13 : ∀ fr, yieldX ops fr 13 = boolOf (fr.at 17) := fun fr => by rw [hops]; rfl
  have y17 : ∀ fr, yieldX ops fr 17 = boolOf (fr.at 21) := fun fr => by rw [hops]; rfl
  clear hops
  iterate 12 (refine (steps_cons _ _ _ _ _ _).2 ?_; simp [h0, hn, -steps_cons, y3, y8, boolOf_bool, show ¬ n = 0 by omega, show ¬ 65 < (n : Int) by omega])
  refine contains_ok d hv (by omega) hc.near fun m' hsm => ?_
  simp [hn, -steps_cons]
  by_cases hn1 : n = 1
  · subst hn1
    iterate 14 (refine (steps_cons _ _ _ _ _ _).2 ?_; simp [h0, hn, -steps_cons, y8, y13, y17, boolOf_bool])
    simp [hn, hd]
    exact hQ _ hsm
  · have hw := wrap_pred n (by omega) (by omega)
    obtain ⟨z, hz, hwz⟩ := he (n - 1) (by omega)
    have hm : m'.at b = some x := by rw [hsm.2]; exact hb
    have hl : cnought z = false := by rw [hwz.nought]; exact decide_eq_false (hc.last (by omega))
    iterate 14 (refine (steps_cons _ _ _ _ _ _).2 ?_; simp [h0, hn, -steps_cons, y8, y13, y17, boolOf_bool, show 1 < (n : Int) by omega, hw, idx_L _ _ _ _ _ _ (show n - 1 < n by omega), hm, hz, run_nought, hl])
    simp [hn, hd]
    exact hQ _ (hsm.trans (Sm.rd _ _))
theorem asked_ok (d : Nat) {m : Mem} {v : Value} {n : Nat} {c : PG} {z : C} {g : G} (hv : PL m v n c) (hc : OKP n c) (hz : WC z g) (hg : NB g far) {Q : Value → Mem → Prop} (hQ : ∀ m', Sm m m' → Q (.int .i64 0) m') :
    Gives (callN Try.prog known (d + 9) 48 [v, cx z]) m Q := by
  refine gives_fn (nt := 14) rfl Try.func48 rfl rfl rfl (Nat.le_of_ble_eq_true rfl) fun fr hn hd hargs => ?_
  have h0 : fr.at 0 = _ := hargs 0 _ rfl
  have h1 : fr.at 1 = _ := hargs 1 _ rfl
  clear hargs
  simp [h0, hn]
  refine check_ok d hv hc fun m' hs => ?_
  simp [h0, h1, hn, hd, run_place, hz.place hg]
  exact hQ _ hs
theorem both_ok (d : Nat) {m : Mem} {v w : Value} {n k : Nat} {a b : PG} (hv : PL m v n a) (ha : OKP n a) (hw : PL m w k b) (hb : OKP k b) {Q : Value → Mem → Prop} (hQ : ∀ m', Sm m m' → Q (.int .i64 0) m') :
    Gives (callN Try.prog known (d + 9) 44 [v, w]) m Q := by
  refine gives_fn (nt := 13) rfl Try.func44 rfl rfl rfl (Nat.le_of_ble_eq_true rfl) fun fr hn hd hargs => ?_
  have h0 : fr.at 0 = _ := hargs 0 _ rfl
  have h1 : fr.at 1 = _ := hargs 1 _ rfl
  clear hargs
  simp [h0, hn]
  refine check_ok d hv ha fun m' hs => ?_
  simp [h0, h1, hn, hd]
  refine check_ok d (hw.keep hs.2) hb fun m2 hs2 => ?_
  simp [hn, hd]
  exact hQ _ (hs.trans hs2)
/-- Is a polynomial nought? Not one that has a coefficient. -/
theorem none_ok (d : Nat) {m : Mem} {v : Value} {n : Nat} {c : PG} (hv : PL m v n c) (hn0 : 0 < n) (hc : n = 1 → c 0 ≠ g0) {Q : Value → Mem → Prop} (hQ : ∀ m', Sm m m' → Q (.bool false) m') :
    Gives (callN Try.prog known (d + 2) 47 [v]) m Q := by
  refine gives_fn (nt := 12) rfl Try.func47 rfl rfl rfl (Nat.le_of_ble_eq_true rfl) fun fr hn hd hargs => ?_
  have h0 : fr.at 0 = _ := hargs 0 _ rfl
  clear hargs
  obtain ⟨b, o, k, x, rfl, _, hb, hs, he⟩ := hv
  by_cases h1 : n = 1
  · subst h1
    obtain ⟨z, hz, hwz⟩ := he 0 (by omega)
    have hl : cnought z = false := by rw [hwz.nought]; exact decide_eq_false (hc rfl)
    have hi := idx_L b o 1 k 0 .i64 (by omega)
    simp at hi hz
    simp [h0, hn, hd, yieldX, hi, hb, hz, run_nought, hl]
    exact hQ _ (Sm.rd _ _)
  · simp [h0, hn, hd, yieldX, show ¬ (n : Int) = 1 by omega]
    exact hQ _ (Sm.refl m)

/-! ### What is answered -/
def anI (b o k N : Nat) (c : PG) (m : Mem) (j : Nat) (fr : Fr) (m' : Mem) : Prop := ∃ n, n = j ∧ 0 < n ∧ n ≤ N ∧ (∀ i, n ≤ i → i < N → c i = g0) ∧ fr.n = 38 ∧ fr.d = [] ∧ fr.at 0 = .slice (some ⟨b, o, none⟩) N k ∧ fr.at 4 = .int .i64 (n : Nat) ∧ Sm m m'
def anJ (b o n : Nat) (m : Mem) (j : Nat) (fr : Fr) (m' : Mem) : Prop := ∃ i, i + j = n ∧ fr.n = 38 ∧ fr.d = [] ∧ fr.at 0 = .slice (some ⟨b, o, none⟩) n n ∧ fr.at 27 = .slice (some ⟨b, o, none⟩) n n ∧ fr.at 28 = .int .i64 (n : Nat) ∧ fr.at 29 = .int .i64 (i : Nat) ∧ Sm m m'
def anR (b o k N : Nat) (c : PG) (m : Mem) (r : Ex × Fr) (m' : Mem) : Prop := r.1 = .exit 0 ∧ ∃ n, 0 < n ∧ n ≤ N ∧ (∀ i, n ≤ i → i < N → c i = g0) ∧ (1 < n → c (n - 1) ≠ g0) ∧ r.2.n = 38 ∧ r.2.d = [] ∧ r.2.at 0 = .slice (some ⟨b, o, none⟩) N k ∧ r.2.at 4 = .int .i64 (n : Nat) ∧ Sm m m'
theorem answered_ok (d : Nat) {m : Mem} {b o k N : Nat} {c : PG} (hv : PL m (.slice (some ⟨b, o, none⟩) N k) N c) (h0 : 0 < N) (hN : N ≤ 65) (hc : ∀ i, NB (c i) far) {Q : Value → Mem → Prop}
    (hQ : ∀ m' n, Sm m m' → 0 < n → n ≤ N → (∀ i, n ≤ i → i < N → c i = g0) → (1 < n → c (n - 1) ≠ g0) → Q (.tuple ⟨[.slice (some ⟨b, o, none⟩) n n, .int .i64 0]⟩) m') :
    Gives (callN Try.prog known (d + 5) 46 [.slice (some ⟨b, o, none⟩) N k]) m Q := by
  refine gives_fn (nt := 38) rfl Try.func46 rfl rfl rfl (Nat.le_of_ble_eq_true rfl) fun fr hn hd hargs => ?_
  have h0' : fr.at 0 = _ := hargs 0 _ rfl
  clear hargs
  have hv' := hv
  obtain ⟨b', o', k', x, h1, hk, hb, hs, he⟩ := hv'
  cases h1
  simp [h0', hn]
  refine code_loop_post (anR b o k N c m) (anI b o k N c m) N (by omega) ⟨N, rfl, h0, Nat.le_refl _, fun i h1 h2 => by omega, by simp [hn], by simp [hd], by simp [h0'], by simp, Sm.refl m⟩ ?_ ?_
  · rintro j fr' m' ⟨n, rfl, hn0, hnN, hz0, hn', hd', g0', g4, hsm⟩
    have hm : m'.at b = some x := by rw [hsm.2]; exact hb
    by_cases h1 : n = 1
    · subst h1
      simp [g0', g4, hn', yieldX]
      exact ⟨rfl, 1, by omega, hnN, hz0, fun h => by omega, by simp [hn'], by simp [hd'], by simp [g0'], by simp [g4], hsm⟩
    · obtain ⟨z, hz, hwz⟩ := he (n - 1) (by omega)
      have hw := wrap_pred n (by omega) (by omega)
      cases hl : cnought z with
      | true =>
        have hcz : c (n - 1) = g0 := by
          rw [hwz.nought] at hl
          exact of_decide_eq_true hl
        simp [g0', g4, hn', yieldX, show 1 < (n : Int) by omega, hw, idx_L _ _ _ _ _ _ (show n - 1 < N by omega), hm, hz, run_nought, hl]
        refine ⟨n - 1, by omega, n - 1, rfl, by omega, by omega, fun i h1 h2 => ?_, by simp [hn'], by simp [hd'], by simp [g0'], by simp, hsm.trans (Sm.rd _ _)⟩
        by_cases hi : i = n - 1
        · rw [hi]; exact hcz
        · exact hz0 i (by omega) h2
      | false =>
        have hcz : c (n - 1) ≠ g0 := by
          rw [hwz.nought] at hl
          exact of_decide_eq_false hl
        simp [g0', g4, hn', yieldX, show 1 < (n : Int) by omega, hw, idx_L _ _ _ _ _ _ (show n - 1 < N by omega), hm, hz, run_nought, hl]
        exact ⟨rfl, n, hn0, hnN, hz0, fun _ => hcz, by simp [hn'], by simp [hd'], by simp [g0'], by simp [g4], hsm.trans (Sm.rd _ _)⟩
  · rintro ⟨e, fr'⟩ m' ⟨he', n, hn0, hnN, hz0, hlast, hn', hd', g0', g4, hsm⟩
    obtain rfl : e = .exit 0 := he'
    have hm : m'.at b = some x := by rw [hsm.2]; exact hb
    simp only at hn' hd' g0' g4
    simp [g0', g4, hn']
    refine gives_slice3 hm hs (by omega) ?_
    simp [hn', g4, show ¬ 65 < (n : Int) by omega]
    refine code_loop (anJ b o n m) n (by omega) ⟨0, by omega, by simp [hn'], by simp [hd'], by simp, by simp, by simp, by simp, hsm.trans (Sm.rd _ _)⟩ ?_
    clear hm hsm g0' g4 hn' hd' fr'
    rintro j fr' m2 ⟨i, hij, hn', hd', g0', g27, g28, g29, hsm⟩
    by_cases hi : i < n
    · obtain ⟨z, hz, hwz⟩ := he i (by omega)
      have hm : m2.at b = some x := by rw [hsm.2]; exact hb
      have hw := wrap_succ i (by omega)
      simp [g0', g27, g28, g29, hn', hi, idx_L _ _ _ _ _ _ hi, hm, hz, run_place, hwz.place (hc i), hw]
      exact ⟨j - 1, by omega, i + 1, by omega, by simp [hn'], by simp [hd'], by simp [g0'], by simp [g27], by simp [g28], by simp, hsm.trans (Sm.rd _ _)⟩
    · simp [g0', g27, g28, g29, hn', hd', hi]
      exact hQ _ n hsm hn0 hnN hz0 hlast
end
end Go.Proofs.Ytonmjdhdkkmjlaa
