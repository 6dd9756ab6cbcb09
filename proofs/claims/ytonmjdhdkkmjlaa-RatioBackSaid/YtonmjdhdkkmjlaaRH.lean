/- Fractions in the clean executor: values. -/
import Derived.Test.YtonmjdhdkkmjlaaRG
import Derived.Test.YtonmjdhdkkmjlaaCd
namespace Go.Proofs.Ytonmjdhdkkmjlaa
open Go.Clean

section
set_option maxRecDepth 10000
theorem run_quot0 (n : Nat) (x y : C) (h : cnought y = true) (m : Mem) (Q : Value → Mem → Prop) : Gives (callN Try.prog known (n + 4) 83 [cx x, cx y]) m Q ↔ Q (.tuple ⟨[cx (some 0, some 0), .int .i64 6]⟩) m := by
  refine gives_pure (fun m => ?_) m Q
  refine gives_fn (nt := 16) rfl Try.func83 rfl rfl rfl (Nat.le_of_ble_eq_true rfl) fun fr hn hd hargs => ?_
  have h0 : fr.at 0 = _ := hargs 0 _ rfl
  have h1 : fr.at 1 = _ := hargs 1 _ rfl
  clear hargs
  simp [h0, h1, hn, hd, run_rnought, h, cx_zero]
theorem run_quot1 (n : Nat) (x y : C) (h : cnought y = false) (hf : cfin (cdiv x y) = true) (m : Mem) (Q : Value → Mem → Prop) : Gives (callN Try.prog known (n + 4) 83 [cx x, cx y]) m Q ↔ Q (.tuple ⟨[cx (cdiv x y), .int .i64 0]⟩) m := by
  refine gives_pure (fun m => ?_) m Q
  refine gives_fn (nt := 16) rfl Try.func83 rfl rfl rfl (Nat.le_of_ble_eq_true rfl) fun fr hn hd hargs => ?_
  have h0 : fr.at 0 = _ := hargs 0 _ rfl
  have h1 : fr.at 1 = _ := hargs 1 _ rfl
  clear hargs
  simp [h0, h1, hn, hd, run_rnought, h, run_div, run_finite, hf]
/-- What a small polynomial's value is. -/
theorem bn_val {n : Nat} {a : PG} {g : G} (hn : n ≤ 4) (ha : PB a A4) (hg : NB g 12) : BN (hs n a g) (100000, 0) := by
  have h := BN.tl (near12 hg) (c := a) (d := A4) (n := n) (i := 0) fun k _ => ha.bn _
  exact h.mono (rB n hn) rfl
theorem rvalue_ok (d : Nat) {m : Mem} {va vb : Value} {n k : Nat} {a b : PG} {za zb : Nat → C} {z : C} {g : G} (hw : MW m) (hf : FQ m va vb n k a b) (hxa : PX m va n za a) (hxb : PX m vb k zb b) (hz : WC z g) (hg : NB g 12) {Q : Value → Mem → Prop}
    (hQ0 : hs k b g = g0 → ∀ m', Up m m' → Q (.tuple ⟨[cx (some 0, some 0), .int .i64 6]⟩) m')
    (hQ1 : hs k b g ≠ g0 → ∀ m', Up m m' → Q (.tuple ⟨[cx (cdiv (ctl za z (n - 1) 0) (ctl zb z (k - 1) 0)), .int .i64 0]⟩) m') :
    Gives (callN Try.prog known (d + 11) 66 [va, vb, cx z]) m Q := by
  refine gives_fn (nt := 34) rfl Try.func66 rfl rfl rfl (Nat.le_of_ble_eq_true rfl) fun fr hn hd hargs => ?_
  have h0 : fr.at 0 = _ := hargs 0 _ rfl
  have h1 : fr.at 1 = _ := hargs 1 _ rfl
  have h2 : fr.at 2 = _ := hargs 2 _ rfl
  clear hargs
  have hgf : NB g far := hg.mono (by decide) (by decide)
  have hone : (1 : Int) ≤ Z12.1 := by decide
  have ht : (100000 : Int) ≤ top := by decide
  simp [h0, h2, hn]
  refine at_okx _ hw hxa hf.top.ok hz hgf hf.ta.bn (near12 hg) hone (Int.le_trans (rB n hf.tn) ht) fun m1 u1 wa => ?_
  simp [h1, h2, hn, extractX]
  refine at_okx _ (u1.wf hw) (hxb.up hw u1) hf.bot.ok hz hgf hf.tb.bn (near12 hg) hone (Int.le_trans (rB k hf.bk) ht) fun m2 u2 wb => ?_
  simp [hn, extractX]
  by_cases hb : hs k b g = g0
  · have hc : cnought (ctl zb z (k - 1) 0) = true := by rw [wb.nought]; exact decide_eq_true hb
    rw [run_quot0 _ _ _ hc]
    simp [hn, hd, extractX]
    exact hQ0 hb _ (u1.trans u2)
  · have hc : cnought (ctl zb z (k - 1) 0) = false := by rw [wb.nought]; exact decide_eq_false hb
    have ha40 : NB (hs n a g) (2 ^ 40) := nb_of (bn_val hf.tn hf.ta hg) (by decide)
    have hb40 : NB (hs k b g) (2 ^ 40) := nb_of (bn_val hf.bk hf.tb hg) (by decide)
    rw [run_quot1 _ _ _ hc (cdiv_fin wa wb hb ha40 hb40)]
    simp [hn, hd, extractX]
    exact hQ1 hb _ (u1.trans u2)
theorem rat_ok (d : Nat) {m : Mem} {va vb : Value} {n k : Nat} {a b : PG} {za zb : Nat → C} {z : C} {g : G} (hw : MW m) (hf : FQ m va vb n k a b) (hxa : PX m va n za a) (hxb : PX m vb k zb b) (hz : WC z g) (hg : NB g 12) {Q : Value → Mem → Prop}
    (hQ0 : hs k b g = g0 → ∀ m', Up m m' → Q (.tuple ⟨[cx (some 0, some 0), .int .i64 6]⟩) m')
    (hQ1 : hs k b g ≠ g0 → ∀ m', Up m m' → Q (.tuple ⟨[cx (cdiv (ctl za z (n - 1) 0) (ctl zb z (k - 1) 0)), .int .i64 0]⟩) m') :
    Gives (callN Try.prog known (d + 12) 31 [frV va vb, cx z]) m Q := by
  refine gives_fn (nt := 20) rfl Try.func31 rfl rfl rfl (Nat.le_of_ble_eq_true rfl) fun fr hn hd hargs => ?_
  have h0 : fr.at 0 = _ := hargs 0 _ rfl
  have h1 : fr.at 1 = _ := hargs 1 _ rfl
  clear hargs
  have oa := hf.top.pl.one'
  have ob := hf.bot.pl.one'
  simp [h0, h1, hn, oa, ob]
  have u1 : Up m ((m.nw ⟨[va, vb], 1, false, false⟩).rd m.next) := (Up.nw _ _).trans (Up.rd _ _)
  have f1 := hf.up hw u1
  refine rcheck_ok _ (u1.wf hw) f1.top f1.bot f1.b0 fun m2 u2 => ?_
  have U2 := u1.trans u2
  have h3 : m2.at m.next = some ⟨[va, vb], 1, false, false⟩ := by rw [u2.old _ (by simp)]; simp
  simp [h1, hn, h3]
  have u3 : Up m2 ((m2.rd m.next).rd m.next) := (Up.rd _ _).trans (Up.rd _ _)
  have U3 := U2.trans u3
  refine rvalue_ok _ (U3.wf hw) (hf.up hw U3) (hxa.up hw U3) (hxb.up hw U3) hz hg (fun hb m' u' => ?_) fun hb m' u' => ?_
  · simp [hn, hd, extractX]
    exact hQ0 hb _ (U3.trans u')
  · simp [hn, hd, extractX]
    exact hQ1 hb _ (U3.trans u')
end
end Go.Proofs.Ytonmjdhdkkmjlaa
