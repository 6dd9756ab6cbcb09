/- The law of chapter 8 in the clean executor: values, what is like, how great all is. -/
import Derived.Test.YtonmjdhdkkmjlaaQK
import Derived.Test.YtonmjdhdkkmjlaaBo
namespace Go.Proofs.Ytonmjdhdkkmjlaa
open Go.Clean

def sRn : Nat → Code → Code
  | 0, c => c
  | n + 1, c => sRn n (sR c)
/-! ### min -/
def minX : Value → Value → Option Value
  | .int k a, .int _ b => some (.int k (bif decide (b < a) then b else a))
  | _, _ => none
@[simp] theorem minX_int (k q : IntKind) (a b : Int) : minX (.int k a) (.int q b) = some (.int k (bif decide (b < a) then b else a)) := by cases k <;> rfl
section
variable {P : Program} {call : Caller} {ops : Array Oper} {fr : Fr} {m : Mem} {Q : Fr → Mem → Prop} {ty t u : TypeId} {pos : String} {af : Array Edge} {d : Option Tmp}
theorem callX_min (x y : Operand) {v w : Value} (h1 : ev fr x = some v) (h2 : ev fr y = some w) (hf : ∀ k b, v ≠ .float k b) : callX P call fr ⟨.builtin .min, #[x, y], #[t, u]⟩ = M.lift (minX v w) := by
  have e : evs fr [x, y] = some [v, w] := by simp [h1, h2]
  unfold callX
  dsimp only
  rw [e]
  cases v <;> cases w <;> first | rfl | (rename_i k b _ _; exact absurd rfl (hf k b))
theorem step_min_int (x y : Operand) {k q : IntKind} {a b : Int} (h1 : ev fr x = some (.int k a)) (h2 : ev fr y = some (.int q b)) : Gives (stepDX P call ops fr ⟨d, .call ⟨.builtin .min, #[x, y], #[t, u]⟩, ty, pos, af, none⟩) m Q ↔ putQ fr d Q (.int k (bif decide (b < a) then b else a)) m := by
  rw [step_any rfl rfl]
  unfold opX
  dsimp only
  rw [callX_min x y h1 h2 (by simp), minX_int]
  exact gives_ret _ _ _
end

/-! ### How great all is -/
section
variable {n k : Nat} {a b : PG}
theorem OKS.bn (h : OKS n a) (t : Nat) : BN (a t) (A12 t) := by
  unfold A12
  by_cases ht : t < 7
  · rw [if_pos ht]; exact BN.real (by decide) (h.near t)
  · rw [if_neg ht, h.ends t (by have := h.most; omega)]; exact BN.zero
theorem near12 {g : G} (h : NB g 12) : BN g Z12 := BN.real (by decide) h
theorem far_of {g b : G} (h : BN g b) (hb : b.1 ≤ 1099511627776) : NB g far := h.2.2.mono h.1 hb
theorem OKS.okp (h : OKS n a) : OKP n a := ⟨h.pos, by have := h.most; omega, fun i => (h.near i).mono (by decide) (by decide), fun _ => h.last⟩
theorem OKS.small (h : OKS n a) (i : Nat) : NB (a i) small := (h.near i).mono (by decide) (by decide)
theorem OKS.sum (h : OKS n a) (g : OKS k b) (i : Nat) : NB (gadd (a i) (b i)) far := by
  refine far_of ((h.bn i).add (g.bn i)) ?_
  unfold A12
  split <;> decide
theorem cv_cap (h : Ends a n) : ∀ i, n ≤ i → cv a b i = cv a b n := by
  intro i
  induction i with
  | zero => intro hi; rw [show n = 0 by omega]
  | succ i ih =>
    intro hi
    by_cases h1 : n = i + 1
    · rw [h1]
    · rw [← ih (by omega)]
      funext t
      show gadd (cv a b i t) (gmul (a i) (Ytonmjdhdkkmjlaa.up i b t)) = _
      rw [h i (by omega), zero_gmul, gadd_zero]
theorem OKS.bcv (h : OKS n a) (g : OKS k b) (i t : Nat) : BN (cv a b i t) (cv A12 A12 i t) := BN.cv h.bn g.bn i t
theorem OKS.conv (h : OKS n a) (g : OKS k b) (i t : Nat) : NB (cv a b i t) far := by
  by_cases hi : i ≤ 7
  · by_cases ht : t ≤ 13
    · exact far_of (h.bcv g i t) (t5 i hi t ht)
    · rw [cv_ends g.ends i t (by have := g.most; omega)]; unfold NB; decide
  · rw [cv_cap (n := 7) (fun s hs => h.ends s (by have := h.most; omega)) i (by omega)]
    by_cases ht : t ≤ 13
    · exact far_of (h.bcv g 7 t) (t5 7 (by omega) t ht)
    · rw [cv_ends g.ends 7 t (by have := g.most; omega)]; unfold NB; decide
theorem OKS.bsh (h : OKS n a) {z : G} (hz : NB z 12) (j i : Nat) : BN (sh (n - 1) z a j i) (sh (n - 1) Z12 A12 j i) := BN.sh _ (near12 hz) h.bn j i
theorem OKS.sh_near (h : OKS n a) {z : G} (hz : NB z 12) (i : Nat) : NB (sh (n - 1) z a (n - 1) i) far := by
  have h7 := h.most
  by_cases hi : i ≤ 7
  · exact far_of (h.bsh hz (n - 1) i) (t6 n h7 (n - 1) (by omega) i hi)
  · rw [sh_above _ _ _ _ _ (by omega)]; exact (h.near i).mono (by decide) (by decide)
theorem sh_tl {z : G} {j i : Nat} (h0 : 0 < n) (hj : j ≤ i) (hi : i < n) : tl (sh (n - 1) z a j) z (n - i) i = sh (n - 1) z a (j + 1) i := by
  show _ = pass (n - 1) z (sh (n - 1) z a j) j i
  unfold pass
  rw [if_pos (by omega), show n - 1 + 1 - i = n - i by omega]
theorem of_near {z : PG} (h : ∀ i, NB (z i) 12) (i t : Nat) (hi : i ≤ 6) : (ofB Z12 i t).1 ≤ far := by
  by_cases ht : t ≤ 7
  · exact t9 i hi t ht
  · have e : ∀ i, Ends (ofB Z12 i) (i + 1) := by
      intro i
      induction i with
      | zero => intro k hk; unfold ofB; rw [if_neg (by omega)]
      | succ i ih =>
        intro k hk
        show gadd (Ytonmjdhdkkmjlaa.up 1 (ofB Z12 i) k) (gmul Z12 (ofB Z12 i k)) = g0
        unfold Ytonmjdhdkkmjlaa.up
        rw [if_pos (by omega), ih (k - 1) (by omega), ih k (by omega), gmul_zero, gadd_zero]
    rw [e i t (by omega)]; decide
end

section
set_option maxRecDepth 10000
theorem at8_ok (d : Nat) {m : Mem} {v : Value} {n : Nat} {c : PG} {z : C} {g : G} (hw : MW m) (hv : RP m v n c) (hz : WC z g) (hg : NB g far) {D : PG} {Z : G} (hD : ∀ k, BN (c k) (D k)) (hZ : BN g Z) (h1 : 1 ≤ Z.1) (ht : (hs n D Z).1 ≤ top)
    {Q : Value → Mem → Prop} (hQ : ∀ m' u, Up m m' → WC u (hs n c g) → Q (cx u) m') :
    Gives (callN Try.prog known (d + 11) 13 [v, cx z]) m Q := by
  refine gives_fn (nt := 18) rfl Try.func13 rfl rfl rfl (Nat.le_of_ble_eq_true rfl) fun fr hn hd hargs => ?_
  have h0 : fr.at 0 = _ := hargs 0 _ rfl
  have h1 : fr.at 1 = _ := hargs 1 _ rfl
  clear hargs
  simp [h0, h1, hn]
  refine at_ok d hw hv.pl hv.ok hz hg hD hZ ‹1 ≤ Z.1› ht fun m' u hu hwu => ?_
  simp [hn, hd, extractX]
  exact hQ m' u hu hwu
theorem run_like (n : Nat) (x y : F) (h : feq x y = true) (m : Mem) (Q : Value → Mem → Prop) : Gives (callN Try.prog known (n + 1) 50 [fv x, fv y]) m Q ↔ Q (.bool true) m := by
  refine gives_pure (fun m => ?_) m Q
  refine gives_fn (nt := 13) rfl Try.func50 rfl rfl rfl (Nat.le_of_ble_eq_true rfl) fun fr hn hd hargs => ?_
  have h0 : fr.at 0 = _ := hargs 0 _ rfl
  have h1 : fr.at 1 = _ := hargs 1 _ rfl
  clear hargs
  simp [h0, h1, hn, hd, fv, h, yieldX]
theorem run_Like (n : Nat) (x y : C) {g : G} (hx : WC x g) (hy : WC y g) (m : Mem) (Q : Value → Mem → Prop) : Gives (callN Try.prog known (n + 2) 14 [cx x, cx y]) m Q ↔ Q (.bool true) m := by
  refine gives_pure (fun m => ?_) m Q
  refine gives_fn (nt := 21) rfl Try.func14 rfl rfl rfl (Nat.le_of_ble_eq_true rfl) fun fr hn hd hargs => ?_
  have h0 : fr.at 0 = _ := hargs 0 _ rfl
  have h1 : fr.at 1 = _ := hargs 1 _ rfl
  clear hargs
  have e1 : feq x.1 y.1 = true := by rw [hx.1.eq hy.1]; simp
  have e2 : feq x.2 y.2 = true := by rw [hx.2.eq hy.2]; simp
  simp [h0, h1, hn, hd, run_like _ _ _ e1, run_like _ _ _ e2, yieldX]
def lkI (v w : Value) (n : Nat) (m : Mem) (j : Nat) (fr : Fr) (m' : Mem) : Prop := ∃ i, i + j = n ∧ fr.n = 29 ∧ fr.d = [] ∧ fr.at 0 = v ∧ fr.at 1 = w ∧ fr.at 5 = .int .i64 (i : Nat) ∧ Sm m m'
theorem like_ok (d : Nat) {m : Mem} {v w : Value} {n : Nat} {c : PG} (hv : PL m v n c) (hw : PL m w n c) (hn1 : n < 1000) {Q : Value → Mem → Prop} (hQ : ∀ m', Sm m m' → Q (.bool true) m') :
    Gives (callN Try.prog known (d + 4) 18 [v, w]) m Q := by
  refine gives_fn (nt := 29) rfl Try.func18 rfl rfl rfl (Nat.le_of_ble_eq_true rfl) fun fr hn hd hargs => ?_
  have h0 : fr.at 0 = _ := hargs 0 _ rfl
  have h1 : fr.at 1 = _ := hargs 1 _ rfl
  clear hargs
  obtain ⟨b, o, k, x, rfl, _, hb, _, he⟩ := hv
  obtain ⟨b2, o2, k2, x2, rfl, _, hb2, _, he2⟩ := hw
  simp [h0, h1, hn]
  refine code_loop (lkI (.slice (some ⟨b, o, none⟩) n k) (.slice (some ⟨b2, o2, none⟩) n k2) n m) n (by omega) ⟨0, by omega, by simp [hn], by simp [hd], by simp [h0], by simp [h1], by simp, Sm.refl m⟩ ?_
  rintro j fr' m' ⟨i, hij, f1, f2, f0, g1, f5, hs⟩
  by_cases hi : i < n
  · obtain ⟨z, hz, hwz⟩ := he i hi
    obtain ⟨z2, hz2, hwz2⟩ := he2 i hi
    have hm : m'.at b = some x := by rw [hs.2]; exact hb
    have hm2 : m'.at b2 = some x2 := by rw [hs.2]; exact hb2
    have hw := wrap_succ i (by omega)
    simp [f1, f0, g1, f5, hi]
    refine code_draw_dyn (plan := [0, 0, 3, 7, 0, 0, 48, 112, 255, 511]) (by kernel_rfl) ?_
    simp [drawQ, apartAll, apartL, Nat.testBit, f1, f0, g1, f5, hi, idx_L _ _ _ _ _ _ hi, hm, hm2, hz, hz2, run_Like _ _ _ hwz hwz2, hw]
    exact ⟨j - 1, by omega, i + 1, by omega, by simp [f1], by simp [f2], by simp [f0], by simp [g1], by simp, hs.trans ⟨by simp, fun c => by simp⟩⟩
  · simp [f1, f2, f0, g1, f5, hi]
    exact hQ _ hs
end
end Go.Proofs.Ytonmjdhdkkmjlaa
