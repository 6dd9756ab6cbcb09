/- The clean executor at package solve: the checks, Solve's work and Det of the great system, by their contracts. -/
import Derived.Test.YtghhanifakllpaaP
import Derived.Test.YtghhanifakllpaaQ
namespace Go.Proofs.Ytghhanifakllpaa
open Go.RowKit Go.Clean

def gB (i : Nat) : Nat := (fdiv (some (fInt i)) (some two)).getD 0
theorem g_facts : ∀ i, i < 128 → (fdiv (some (fInt i)) (some twoB) = some (gB i) ∧ fmul (some 0) (some (gB i)) = some 0) ∧ ffin (some (gB i)) = true ∧ fmul (some 0) (some (fInt i)) = some 0 ∧ fsub (some (fInt i)) (some 0) = some (fInt i) ∧ Clean.isNaN (gB i) = false ∧ W64 (gB i) := by
  have h : (List.range 128).all (fun i => (fdiv (some (fInt i)) (some twoB) == some (gB i) && fmul (some 0) (some (gB i)) == some 0) && (ffin (some (gB i)) && (fmul (some 0) (some (fInt i)) == some 0 && (fsub (some (fInt i)) (some 0) == some (fInt i) && (!Clean.isNaN (gB i) && decide (gB i < 18446744073709551616)))))) = true := by kernel_rfl
  intro i hi
  have := List.all_eq_true.1 h i (List.mem_range.2 hi)
  simp only [Bool.and_eq_true, beq_iff_eq, Bool.not_eq_true', decide_eq_true_eq] at this
  exact this
theorem kind_B : Kind fInt := ⟨fun i hi => (g_facts i hi).2.2.1, fun i hi => (g_facts i hi).2.2.2.1⟩
theorem kind_0 : Kind fun _ => 0 := ⟨fun _ _ => by kernel_rfl, fun _ _ => by kernel_rfl⟩
theorem fl_num {b : Nat} (h : Clean.isNaN b = false) : fl b = some b := fl_yes h

theorem dRows_len {W : Nat} : (dRows W).length = 128 := by simp [dRows]
theorem dRows_get {W i : Nat} (hi : i < 128) : (dRows W).getD i [] = dRow W i := by simp [dRows, List.getD, hi]
theorem dRow_len (W i : Nat) : (dRow W i).length = W := by simp [dRow]
theorem dg_of (rhs c : Nat → Nat) (hc : ∀ i, i < 128 → rhs i = c i ∧ Clean.isNaN (c i) = false) : Dg c (M0 (dRows 128) rhs) := by
  intro i hi
  refine ⟨fun j hj => ?_, ?_⟩
  · unfold M0
    rw [dRows_get hi]
    have h1 : (dRow 128 i ++ [rhs i]).getD j 0 = if j = i then two else 0 := by
      rw [List.getD_eq_getElem?_getD, List.getElem?_append_left (by rw [dRow_len]; exact hj)]
      simp [dRow, hj]
    rw [h1, fl_num (row_num i j).1]
    by_cases h : i = j
    · rw [if_pos h.symm, if_pos h]; rfl
    · rw [if_neg (Ne.symm h), if_neg h]
  · unfold M0
    rw [dRows_get hi]
    have h1 : (dRow 128 i ++ [rhs i]).getD 128 0 = rhs i := by
      rw [List.getD_eq_getElem?_getD, List.getElem?_append_right (by rw [dRow_len]; exact Nat.le_refl _), dRow_len]
      rfl
    rw [h1, (hc i hi).1, fl_num (hc i hi).2]

theorem check_great : checkF (bitsF (dRows 128)) = 0 := by kernel_rfl
theorem check_wide : checkF (bitsF (dRows 129)) = 140 := by kernel_rfl
theorem beside_great : besideF (dB.map fl) 128 = 0 := by kernel_rfl
theorem dB_get {i : Nat} (hi : i < 128) : dB.getD i 0 = fInt i := by simp [dB, List.getD, hi]

theorem solve_great : (solveF (dRows 128) dB).2 = 0 ∧ (solveF (dRows 128) dB).1 = (List.range 128).map fun i => some (gB i) := by
  obtain ⟨x, h1, h2⟩ := Dg.solved (dg_of (fun i => dB.getD i 0) fInt fun i hi => ⟨dB_get hi, (fInt_num i hi).1⟩) kind_B gB (fun i hi => (g_facts i hi).1) (fun i hi => (g_facts i hi).2.1)
  unfold solveF
  rw [check_great, dRows_len, beside_great, h1]
  refine ⟨rfl, ?_⟩
  show (List.range 128).map x = _
  exact List.map_congr_left fun i hi => h2 i (List.mem_range.1 hi)
theorem det_great' : detA (dRows 128) = (some detB, 0) := by
  have h := Dg.det (dg_of (fun _ => 0) (fun _ => 0) fun i _ => ⟨rfl, by decide⟩) kind_0
  unfold detA
  rw [check_great, dRows_len, h]
  rfl

/-! ### The three, for the executor -/
def isK : Value → Bool
  | .agg ⟨[.func (.func a) ⟨[]⟩ ⟨[]⟩, .func (.func b) ⟨[]⟩ ⟨[]⟩, .func (.func c) ⟨[]⟩ ⟨[]⟩, .func (.func d) ⟨[]⟩ ⟨[]⟩]⟩ => a == 31 && b == 69 && c == 70 && d == 43
  | _ => false
def checkX : List Value → M Value
  | [k, v] => do
    M.guard (isK k)
    let W ← widX v
    M.guard (W == 128 || W == 129)
    matX W v
    M.ret (.int .i64 (bif W == 128 then 0 else 140))
  | _ => .fail
def solveX : List Value → M Value
  | [k, v, b] => do
    M.guard (isK k)
    matX 128 v
    vecX b
    let r ← newX ((List.range 128).map fun i => Value.float .f64 (gB i)) 1 true
    M.ret (.tuple ⟨[.slice (some ⟨r, 0, none⟩) 128 128, .int .i64 0]⟩)
  | _ => .fail
def detX : List Value → M Value
  | [v] => do
    matX 128 v
    M.ret (.tuple ⟨[.float .f64 detB, .int .i64 0]⟩)
  | _ => .fail

section
variable {N : Nat} {ρ : Env} {m m' : Mem} {w : World}
theorem fn_nil {f : Fn} {v : Value} (h : VR ρ (.func f ⟨[]⟩ ⟨[]⟩) v) : v = .func f #[] #[] := by
  obtain ⟨a, b, rfl, h1, h2⟩ := h.fun'
  obtain rfl := h1.inv0
  obtain rfl := h2.inv0
  rfl
theorem isK_of {v v' : Value} (h : isK v = true) (hv : VR ρ v v') : v' = .agg kF := by
  unfold isK at h
  split at h
  · simp only [Bool.and_eq_true, beq_iff_eq] at h
    obtain ⟨⟨⟨rfl, rfl⟩, rfl⟩, rfl⟩ := h
    obtain ⟨l, rfl, hl⟩ := hv.agg'
    obtain ⟨v1, l1, rfl, h1, hl1⟩ := hl.inv
    obtain ⟨v2, l2, rfl, h2, hl2⟩ := hl1.inv
    obtain ⟨v3, l3, rfl, h3, hl3⟩ := hl2.inv
    obtain ⟨v4, l4, rfl, h4, hl4⟩ := hl3.inv
    obtain rfl := hl4.inv0
    rw [fn_nil h1, fn_nil h2, fn_nil h3, fn_nil h4]
    rfl
  · cases h
theorem dRows_small {W : Nat} (hW : W ≤ 1000000) : (∀ r ∈ dRows W, r.length ≤ 1000000) := by
  intro r hr
  obtain ⟨i, _, rfl⟩ := List.mem_map.1 hr
  rw [dRow_len]; exact hW

/-- A contract that hands a plain value back and leaves what was there. -/
theorem Does.plainCall {f : FuncId} {cargs : List Value} {v v' : Value} (hrun : (callFunc f ⟨cargs⟩).run Try.prog w = .ok (.enter f ⟨cargs⟩) w) (hc : Calls Try.prog f ⟨cargs⟩ w fun e w' => e = .returned v' ∧ Below w.heap.size w w')
    (hr : Rel N ρ m.t.get w) (ht : m'.t = m.t) (hv : VR ρ v v') : Does Try.prog N ρ m m' w v (callFunc f ⟨cargs⟩) := by
  intro o a K Q hK
  rw [hrun]
  show Calls Try.prog f ⟨cargs⟩ w _
  refine hc.mono fun e w' he => ?_
  obtain ⟨rfl, hb⟩ := he
  exact hK v' w' ρ ⟨.refl ρ, fun b h h' => absurd h h', by rw [ht]; exact hr.later hb, hv, hb.mono hr.base⟩

theorem mix : Try.prog.follows .mixedOrders = true := by kernel_rfl
theorem noC : noCount Try.prog = true := by kernel_rfl

set_option maxRecDepth 100000 in
set_option maxHeartbeats 1000000 in
theorem check_ok (args : List Value) : Local (checkX args) ∧ ∀ m v m', checkX args m = some (v, m') → ∀ N ρ w cargs, Rel N ρ m.t.get w → VRs ρ args cargs → Fresh ρ m m' → Does Try.prog N ρ m m' w v (callFunc 41 ⟨cargs⟩) := by
  unfold checkX
  split
  · rename_i k v
    refine ⟨Local.bind (Local.guard _) fun _ => Local.bind (Local.widX _) fun _ => Local.bind (Local.guard _) fun _ => Local.bind (Local.matX _ _) fun _ => Local.ret _, fun m r m' h N ρ w cargs hr ha hf => ?_⟩
    obtain ⟨u, m1, h1, h2⟩ := Clean.bind_some h
    obtain ⟨hk, rfl⟩ := guard_some h1
    obtain ⟨W, m2, h3, h4⟩ := Clean.bind_some h2
    obtain ⟨t1, t2⟩ := wid_of h3
    obtain ⟨u3, m3, h5, h6⟩ := Clean.bind_some h4
    obtain ⟨hW, rfl⟩ := guard_some h5
    obtain ⟨u4, m4, h7, h8⟩ := Clean.bind_some h6
    obtain ⟨rfl, rfl⟩ := ret_some h8
    obtain ⟨k', r1, rfl, hkv, ha2⟩ := ha.inv
    obtain ⟨v', r2, rfl, hv, ha3⟩ := ha2.inv
    obtain rfl := ha3.inv0
    obtain rfl := isK_of hk hkv
    obtain ⟨t3, t4, hm⟩ := mat_of h7 (by rw [t1]; exact hr) hv
    simp only [Bool.or_eq_true, beq_iff_eq] at hW
    have hval : checkF (bitsF (dRows W)) = bif W == 128 then 0 else 140 := by
      rcases hW with rfl | rfl
      · exact check_great
      · exact check_wide
    refine Does.plainCall (v' := .int .i64 (bif W == 128 then 0 else 140)) (enter_run noC Try.func41 rfl _) ?_ hr (t3.trans t1) (.leaf rfl)
    refine (check_any v' (dRows W) w hm (by rw [dRows_len]; decide) (dRows_small (by omega))).mono fun e w' he => ?_
    obtain ⟨rfl, hb⟩ := he
    exact ⟨by rw [hval], hb⟩
  · exact ⟨Local.fail, fun m v m' h => (fail_some h).elim⟩

set_option maxRecDepth 100000 in
set_option maxHeartbeats 1000000 in
theorem det_ok (args : List Value) : Local (detX args) ∧ ∀ m v m', detX args m = some (v, m') → ∀ N ρ w cargs, Rel N ρ m.t.get w → VRs ρ args cargs → Fresh ρ m m' → Does Try.prog N ρ m m' w v (callFunc 10 ⟨cargs⟩) := by
  unfold detX
  split
  · rename_i v
    refine ⟨Local.bind (Local.matX _ _) fun _ => Local.ret _, fun m r m' h N ρ w cargs hr ha hf => ?_⟩
    obtain ⟨u2, m2, h3, h4⟩ := Clean.bind_some h
    obtain ⟨rfl, rfl⟩ := ret_some h4
    obtain ⟨v', r2, rfl, hv, ha3⟩ := ha.inv
    obtain rfl := ha3.inv0
    obtain ⟨t1, t2, hm⟩ := mat_of h3 hr hv
    refine Does.plainCall (v' := .tuple #[.float .f64 detB, .int .i64 0]) (enter_run noC Try.func10 rfl _) ?_ hr t1 ⟨_, rfl, .cons (.leaf rfl) (.cons (.leaf rfl) .nil)⟩
    refine (det_any v' (dRows 128) w hm (by rw [dRows_len]; decide) (dRows_small (by decide))).mono fun e w' he => ?_
    obtain ⟨r, rfl, hb, _, hfl⟩ := he
    rw [det_great'] at hfl
    have : r = detB := by
      unfold fl at hfl
      split at hfl
      · cases hfl
      · exact Option.some.inj hfl
    subst this
    exact ⟨by rw [det_great'], hb⟩
  · exact ⟨Local.fail, fun m v m' h => (fail_some h).elim⟩

theorem fl_some {x y : Nat} (h : fl x = some y) : x = y := by
  unfold fl at h
  split at h
  · cases h
  · exact Option.some.inj h
theorem map_fl : ∀ {xs ys : List Nat}, xs.map fl = ys.map some → xs = ys
  | [], [], _ => rfl
  | [], _ :: _, h => by simp at h
  | _ :: _, [], h => by simp at h
  | x :: xs, y :: ys, h => by
    simp only [List.map_cons, List.cons.injEq] at h
    rw [fl_some h.1, map_fl h.2]

set_option maxRecDepth 100000 in
set_option maxHeartbeats 1000000 in
theorem solve_ok (args : List Value) : Local (solveX args) ∧ ∀ m v m', solveX args m = some (v, m') → ∀ N ρ w cargs, Rel N ρ m.t.get w → VRs ρ args cargs → Fresh ρ m m' → Does Try.prog N ρ m m' w v (callFunc 39 ⟨cargs⟩) := by
  unfold solveX
  split
  · rename_i k v b
    refine ⟨Local.bind (Local.guard _) fun _ => Local.bind (Local.matX _ _) fun _ => Local.bind (Local.vecX _) fun _ => Local.bind (Local.newX _ _ _) fun _ => Local.ret _, fun m r m' h N ρ w cargs hr ha hf => ?_⟩
    obtain ⟨u, m1, h1, h2⟩ := Clean.bind_some h
    obtain ⟨hk, rfl⟩ := guard_some h1
    obtain ⟨u2, m2, h3, h4⟩ := Clean.bind_some h2
    obtain ⟨u3, m3, h5, h6⟩ := Clean.bind_some h4
    obtain ⟨nb, m4, h7, h8⟩ := Clean.bind_some h6
    obtain ⟨rfl, rfl⟩ := ret_some h8
    obtain ⟨k', r1, rfl, hkv, ha2⟩ := ha.inv
    obtain ⟨v', r2, rfl, hv, ha3⟩ := ha2.inv
    obtain ⟨b', r3, rfl, hb, ha4⟩ := ha3.inv
    obtain rfl := ha4.inv0
    obtain rfl := isK_of hk hkv
    obtain ⟨t1, t2, hm⟩ := mat_of h3 hr hv
    have hr2 : Rel N ρ m2.t.get w := by rw [t1]; exact hr
    obtain ⟨t3, t4, hfs⟩ := vec_of h5 hr2 hb
    obtain ⟨ho, rfl, hnx, hget⟩ := newX_some h7
    have hn3 : m3.next = m.next := by rw [t4, t2]
    have hfree : ρ m3.next = none := hf _ (by omega) (by omega)
    intro o a K Q hK
    rw [enter_run noC Try.func39 rfl]
    show Calls Try.prog _ _ w _
    refine (solved_any v' b' (dRows 128) dB w hm hfs (by rw [dRows_len]; decide) (dRows_small (by decide)) (by rw [show dB.length = 128 by simp [dB]]; decide)).mono fun e w' he => ?_
    obtain ⟨rv, xs, rfl, hbel, hown, hW, hxs⟩ := he
    rw [solve_great.2] at hxs
    have hxs' : xs = (List.range 128).map gB := map_fl (by rw [hxs]; simp)
    subst hxs'
    obtain ⟨hl1, hcase⟩ := hown
    rcases hcase with ⟨_, h0⟩ | ⟨g, cap, cur, rfl, hg1, hg2, hg3, hg4, hg5, hg6⟩
    · simp at h0
    · simp only [List.length_map, List.length_range, Nat.mul_one] at hg3 hg5 hg6 hK ⊢
      have hvs : VRs ρ ((List.range 128).map fun i => Value.float .f64 (gB i)) ((List.range 128).map fun i => Value.float .f64 (gB i)) := VRs.leaf (by rw [List.all_eq_true]; intro x hx; obtain ⟨i, _, rfl⟩ := List.mem_map.1 hx; rfl)
      have hrel : Rel N (ρ.put m3.next ⟨g, 0, cap, 1, false⟩) m4.t.get w' := by
        refine Rel.owned (g := m3.t.get) (by rw [t3]; exact hr2) hbel hfree ho hvs hg1 hg2 (fun i v hi => ?_) (by simp; omega) (by rw [hg5]; exact Nat.le_refl _) hget
        have : (cur.toList.take 128)[i]? = some v := by
          rw [hg6, List.map_map]
          exact hi
        rw [List.getElem?_take] at this
        split at this
        · rw [← Array.getElem?_toList]; exact this
        · cases this
      have herr : (solveF (dRows 128) dB).2 = 0 := solve_great.1
      rw [herr]
      refine hK _ w' _ ⟨Env.ext hfree _, fun d hd hd' => ?_, hrel, ⟨_, rfl, .cons ⟨_, cap, Env.put_same _ _ _, rfl, rfl, Nat.le_refl _, hg3, fun hx => by simp at hx, by simp⟩ (.cons (.leaf rfl) .nil)⟩, hbel.mono hr.base⟩
      by_cases hdm : d = m3.next
      · subst hdm; omega
      · rw [Env.put_ne _ _ hdm] at hd'; exact absurd hd hd'
  · exact ⟨Local.fail, fun m v m' h => (fail_some h).elim⟩

/-- What the executor takes for known. -/
def known : Known := fun f args =>
  bif f == 44 then some (fromX args)
  else bif f == 52 then some (bitsX args)
  else bif f == 71 then some (maxX args)
  else bif f == 41 then match args with
    | [k, .slice a n c] => bif n == 128 then some (checkX [k, .slice a n c]) else none
    | _ => none
  else bif f == 39 then match args with
    | [k, .slice a n c, .slice a' n' c'] => bif n == 128 && n' == 128 then some (solveX [k, .slice a n c, .slice a' n' c']) else none
    | _ => none
  else bif f == 10 then match args with
    | [.slice a n c] => bif n == 128 then some (detX [.slice a n c]) else none
    | _ => none
  else none
theorem known_ok : KnownOK Try.prog known := by
  intro f args g h
  unfold known at h
  cases h1 : f == 44 with
  | true => simp only [h1, cond_true, Option.some.injEq] at h; subst h; obtain rfl := eq_of_beq h1; exact from_ok args
  | false =>
  cases h2 : f == 52 with
  | true => simp only [h1, h2, cond_true, cond_false, Option.some.injEq] at h; subst h; obtain rfl := eq_of_beq h2; exact bits_ok args
  | false =>
  cases h3 : f == 71 with
  | true => simp only [h1, h2, h3, cond_true, cond_false, Option.some.injEq] at h; subst h; obtain rfl := eq_of_beq h3; exact max_ok args
  | false =>
  cases h4 : f == 41 with
  | true =>
    simp only [h1, h2, h3, h4, cond_true, cond_false] at h
    obtain rfl := eq_of_beq h4
    split at h
    · rename_i k a n c
      cases hn : n == 128 with
      | true => simp only [hn, cond_true, Option.some.injEq] at h; subst h; exact check_ok _
      | false => simp only [hn, cond_false] at h; cases h
    · cases h
  | false =>
  cases h5 : f == 39 with
  | true =>
    simp only [h1, h2, h3, h4, h5, cond_true, cond_false] at h
    obtain rfl := eq_of_beq h5
    split at h
    · rename_i k a n c a' n' c'
      cases hn : (n == 128 && n' == 128) with
      | true => simp only [hn, cond_true, Option.some.injEq] at h; subst h; exact solve_ok _
      | false => simp only [hn, cond_false] at h; cases h
    · cases h
  | false =>
  cases h6 : f == 10 with
  | true =>
    simp only [h1, h2, h3, h4, h5, h6, cond_true, cond_false] at h
    obtain rfl := eq_of_beq h6
    split at h
    · rename_i a n c
      cases hn : n == 128 with
      | true => simp only [hn, cond_true, Option.some.injEq] at h; subst h; exact det_ok _
      | false => simp only [hn, cond_false] at h; cases h
    · cases h
  | false => simp only [h1, h2, h3, h4, h5, h6, cond_false] at h; cases h
end
end Go.Proofs.Ytghhanifakllpaa
