/- The law of chapter 8 in the clean executor: zeros; a product divided. -/
import Derived.Test.YtonmjdhdkkmjlaaQL
namespace Go.Proofs.Ytonmjdhdkkmjlaa
open Go.Clean

/-- A small polynomial in a block of its own. -/
structure OW (m : Mem) (v : Value) (b n : Nat) (c : PG) : Prop where
  val : v = .slice (some ⟨b, 0, none⟩) n n
  cells : ∃ cs gr, m.at b = some ⟨cs, 1, gr, false⟩ ∧ CL cs n c
  ok : OKS n c
theorem OW.rp {m : Mem} {v : Value} {b n : Nat} {c : PG} (h : OW m v b n c) : RP m v n c := by
  obtain ⟨rfl, ⟨cs, gr, h1, h2⟩, h3⟩ := h
  exact ⟨PL.own h1 h2, h3.okp, h3.ends⟩
theorem OW.up {m m' : Mem} {v : Value} {b n : Nat} {c : PG} (h : OW m v b n c) (hw : MW m) (u : Up m m') : OW m' v b n c := by
  obtain ⟨h0, ⟨cs, gr, h1, h2⟩, h3⟩ := h
  exact ⟨h0, ⟨cs, gr, u.at h1 hw, h2⟩, h3⟩
section
set_option maxRecDepth 10000
def weI (m : Mem) (va vo : Value) (N : Nat) (q : Nat) (fr : Fr) (m' : Mem) : Prop := ∃ i, i + q = N ∧ fr.n = 184 ∧ fr.d = [] ∧ fr.at 14 = va ∧ fr.at 29 = vo ∧ fr.at 31 = .int .i64 (i : Nat) ∧ Up m m'
theorem pw_end (d : Nat) {fr : Fr} {m : Mem} {va : Value} {ba na : Nat} {a : PG} (hw : MW m) (ha : OW m va ba na a) (f1 : fr.n = 184) (f2 : fr.d = []) (f14 : fr.at 14 = va) {Q : Value → Mem → Prop} (hQ : ∀ m', Up m m' → Q (.bool true) m') :
    Gives (codeX Try.prog (callN Try.prog known (d + 12)) (sRn 18 (bodyOf Try.f3)) fr) m (fnQ Try.prog [.tmp 12] Q) := by
  have hr := ha.rp
  have hok := ha.ok
  obtain ⟨rfl, ⟨cs, gr, hb, hcl⟩, _⟩ := id ha
  have h7 := hok.most
  have h0 := hok.pos
  obtain ⟨N, hN⟩ : ∃ N, N = min na 6 := ⟨_, rfl⟩
  have hmin : (bif decide ((6 : Int) < (na : Int)) then Value.int .i64 6 else Value.int .i64 na) = .int .i64 N := by
    by_cases h : (6 : Int) < (na : Int)
    · rw [decide_eq_true h, cond_true]; congr 1; omega
    · rw [decide_eq_false h, cond_false]; congr 1; omega
  have hmin2 : (bif decide ((6 : Int) < (na : Int)) then (6 : Int) else (na : Int)) = (N : Int) := by
    by_cases h : (6 : Int) < (na : Int)
    · rw [decide_eq_true h, cond_true]; omega
    · rw [decide_eq_false h, cond_false]; omega
  refine via (X := .seq (.region _ _ _) _) rfl ?_
  simp [f1, f14, -steps_cons]
  iterate 3 (refine (steps_cons _ _ _ _ _ _).2 ?_; simp [f1, f14, -steps_cons])
  refine (steps_cons _ _ _ _ _ _).2 ?_
  rw [step_min_int (k := .i64) (q := .i64) (a := na) (b := 6) _ _ (by simp) (by simp), hmin2]
  simp [f1]
  refine gives_slice_hi hb rfl (by omega) ?_
  simp [f1]
  have hz : ZL (m.rd ba) (.slice (some ⟨ba, 0, none⟩) N na) N a := ZL.of ((hr.pl.keep fun _ => by simp).less (by omega) (by omega))
  refine of_ok _ ((Sm.rd m ba).mw hw) hz (by omega) (fun i => (hok.near i).mono (by decide) (by decide)) (fun i => near12 (hok.near i)) (fun i t hi => of_near hok.near i t (by omega)) fun m1 vo no hu1 hno hro => ?_
  have hno1 : no = N + 1 := by
    by_cases h : no = N + 1
    · exact h
    · have h1 := hro.ends N (by omega)
      rw [ofZ_lead] at h1
      exact absurd h1 (by decide)
  subst hno1
  have hup1 : Up m m1 := (Up.rd m ba).trans hu1
  obtain ⟨bo, oo, ko, xo, rfl, _⟩ := id hro.pl
  obtain ⟨M, hM⟩ : ∃ M, M = N + 1 := ⟨_, rfl⟩
  rw [← hM] at hro
  rw [← hM]
  have hwM : IntKind.i64.wrap ((N : Int) + 1) = (M : Int) := by rw [hM]; exact wrap_succ N (by omega)
  have hwM1 : IntKind.i64.wrap ((M : Int) - 1) = (N : Int) := by rw [wrap_pred M (by omega) (by omega)]; omega
  simp [f1, f14, extractX, yieldX]
  rw [step_min_int (k := .i64) (q := .i64) (a := na) (b := 6) _ _ (by simp) (by simp), hmin2]
  simp [f1, f14, hwM, yieldX]
  refine code_loop (weI m1 (.slice (some ⟨ba, 0, none⟩) na na) (.slice (some ⟨bo, oo, none⟩) M ko) N) N (by omega) ⟨0, by omega, by simp [f1], by simp [f2], by simp [f14], by simp, by simp, Up.refl m1⟩ ?_
  clear f1 f2 f14
  rintro q fr' m' ⟨i, hiq, f1, f2, f14, f29, f31, hu⟩
  have hw1 : MW m1 := hup1.wf hw
  by_cases hi : i < N
  · obtain ⟨z, hz', hwz⟩ := hcl.2 i (by omega)
    have hm : m'.at ba = some ⟨cs, 1, gr, false⟩ := (hup1.trans hu).at hb hw
    have hwi := wrap_succ i (by omega)
    simp [f1, f14, f29, f31, hwM1, hi, idx_L _ _ _ _ _ _ (show i < na by omega), hm, hz']
    refine at8_ok _ ((hu.trans (Up.rd _ _)).wf hw1) (hro.up hw1 (hu.trans (Up.rd _ _))) hwz ((hok.near i).mono (by decide) (by decide)) (fun k => BN.ofZ (fun i => near12 (hok.near i)) N k) (near12 (hok.near i)) (by decide) (t10 N (by omega) M (by omega)) fun m2 u hu2 hwu => ?_
    have hval : hs M (ofZ a N) (a i) = g0 := by rw [hM]; exact hs_root a i N hi
    rw [hval] at hwu
    simp [f1, f31, cx_zero, run_Like _ _ _ hwu WC.zero, hwi]
    exact ⟨q - 1, by omega, i + 1, by omega, by simp [f1], by simp [f2], by simp [f14], by simp [f29], by simp, hu.trans ((Up.rd _ _).trans hu2)⟩
  · simp [f1, f2, f29, f31, hwM1, hi]
    exact hQ m' (hup1.trans hu)
end
end Go.Proofs.Ytonmjdhdkkmjlaa
