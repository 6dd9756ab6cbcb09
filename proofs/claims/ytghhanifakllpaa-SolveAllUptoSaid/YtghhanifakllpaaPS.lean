/- The law SolveAll, in the clean executor: the whole. -/
import Derived.Test.YtghhanifakllpaaPR
namespace Go.Proofs.Ytghhanifakllpaa
open Go.Clean

variable {known : Known}
theorem few_len {rs : List (List F)} (h : fewTo rs rs.length ≤ 20000) : rs.length ≤ 100000 ∧ ∀ r ∈ rs, r.length ≤ 100000 := by
  refine ⟨?_, fun r hr => ?_⟩
  · have := fewTo_mono rs 0 rs.length
    rw [Nat.zero_add] at this
    have h00 : fewTo rs 0 = 0 := rfl
    omega
  · obtain ⟨i, hi, rfl⟩ := mem_rat hr
    have := fewTo_row rs hi
    omega
set_option maxHeartbeats 2000000 in
set_option maxRecDepth 10000 in
theorem solveAll_ok (K : KQ known) (n : Nat) (rs : List (List F)) (xs bs : List F) (va vx vb : Value) (m : Mem) (hw : WF m) (ha : FM m va rs) (hx : FL m vx xs) (hb : FL m vb bs) (h1 : fewTo rs rs.length ≤ 3000000) :
    Gives (callN Try.prog known (n + 6) 4 [va, vx, vb]) m fun v m' => v = .bool true ∧ ∀ c, c < m.next → m'.at c = m.at c := by
  refine gives_fn (nt := 226) (K.kp.non _ rfl _) Try.func4 rfl rfl rfl (Nat.le_of_ble_eq_true rfl) fun fr hn hd hargs => ?_
  have h0 : fr.at 0 = _ := hargs 0 _ rfl
  have h1' : fr.at 1 = _ := hargs 1 _ rfl
  have h2' : fr.at 2 = _ := hargs 2 _ rfl
  clear hargs
  obtain ⟨xa, xc, hvx, _⟩ := id hx
  obtain ⟨ba, bc, hvb, _⟩ := id hb
  simp [hn, gives_known K.alive, gives_ret, h0]
  refine few_ok K (n + 4) rs va m ha h1 fun m1 ho1 => ?_
  have w1 := ho1.wf hw
  by_cases hf : fewTo rs rs.length ≤ 20000
  · by_cases hlx : xs.length > 20000
    · have e : (20000 : Int) < (xs.length : Int) := by omega
      simp [hn, hd, hf, h1', h2', hvx, hvb, e, yieldX]
      exact fun c _ => ho1.2 c
    · have e : ¬ (20000 : Int) < (xs.length : Int) := by omega
      by_cases hlb : bs.length > 20000
      · have e2 : (20000 : Int) < (bs.length : Int) := by omega
        simp [hn, hd, hf, h1', h2', hvx, hvb, e, e2, yieldX]
        exact fun c _ => ho1.2 c
      · have e2 : ¬ (20000 : Int) < (bs.length : Int) := by omega
        simp [hn, hf, h0, h1', h2', hvx, hvb, e, e2, yieldX]
        refine lent_ok K (n + 4) rs va m1 w1 (ha.same ho1.2) hf fun m2 vr vl u2 hr2 => ?_
        have u02 := (Up.only ho1).trans u2
        have w2 := u02.wf hw
        simp [hn, h1', hvx, extractX]
        rw [← hvx]
        refine own_ok K (n + 4) xs vx m2 (hx.up hw u02) (by omega) fun m3 vu u3 ou => ?_
        have u03 := u02.trans u3
        have w3 := u03.wf hw
        simp [hn, h2', hvb]
        rw [← hvb]
        refine own_ok K (n + 4) bs vb m3 (hb.up hw u03) (by omega) fun m4 vv u4 ov => ?_
        have u04 := u03.trans u4
        have w4 := u04.wf hw
        refine ⟨by simp [hn], ?_⟩
        show Gives (stepsX _ _ _ _ _) _ _
        refine (steps_cons _ _ _ _ _ _).2 ((step_assign _).2 ?_)
        simp only [ev_tmp, optQ_some, putQ_some, stepsQ_eq]
        refine ⟨by simp [hn], (steps_nil _ _ _ _).2 ?_⟩
        show Gives (codeX Try.prog (callN Try.prog known (n + 5)) _ _) _ _
        obtain ⟨q1, q2⟩ := few_len hf
        refine via (X := sRn 8 (bodyOf Try.f4)) (by kernel_rfl) (law_calls K n (rs := rs) (xs := xs) (bs := bs) (va := va) (vx := vx) (vb := vb) (vr := vr) (vu := vu) (vv := vv) w4 ?_ ?_ ?_ ?_ ?_ ?_ ?_ ?_ (ha.up hw u04) (hr2.up w2 (u3.trans u4)) (hx.up hw u04) (ou.fl.up w3 u4) (hb.up hw u04) ov.fl q1 q2 (by omega) (by omega) fun fr' m' g1 g2 old => ?_)
        · simp [hn]
        · simp [hd]
        · simp [h0]
        · simp [h1', hvx]
        · simp [h2', hvb]
        · simp
        · simp
        · simp
        · simp [g1, g2]
          have := u04.next
          exact fun c hc => by rw [old c (by omega), u04.old c hc]
  · simp [hn, hd, hf, yieldX]
    exact fun c _ => ho1.2 c
end Go.Proofs.Ytghhanifakllpaa
