/- The clean executor is right: what it answers, the model's call answers, in every world, on every schedule. -/
import Derived.Test.YtjddmnfdnnbbhaaGreatKRZ
set_option linter.unusedSimpArgs false
set_option linter.unusedVariables false
set_option linter.unusedVariables false
set_option linter.unusedSimpArgs false
namespace Go.Clean
open Go Go.RowKit
variable {P : Program} {N : Nat} {ρ : Env} {m m' : Mem} {w : World}

theorem loop_does {r : Option Nat} {c : Code} {body : Fr → M (Ex × Fr)} (hlocal : ∀ fr, Local (body fr))
    (hbody : ∀ (fr fr' : Fr) (e : Ex) (a : Act) (m m' : Mem) (w : World) (ρ : Env) (Q : Exit → Act → World → Prop), body fr m = some ((e, fr'), m') → FrR ρ fr a → Rel N ρ m.t.get w → Fresh ρ m m' → (∀ a' w' ρ', AfterF N ρ m m' w fr' a' w' ρ' → Q (exitOf e) a' w') → c.wpIn (wideR r) 0 P Q a w)
    {Q : Exit → Act → World → Prop} : ∀ (n : Nat) (fr fr' : Fr) (e : Ex) (a : Act) (m m' : Mem) (w : World) (ρ : Env), loopX body n fr m = some ((e, fr'), m') → FrR ρ fr a → Rel N ρ m.t.get w → Fresh ρ m m' →
      (∀ a' w' ρ', AfterF N ρ m m' w fr' a' w' ρ' → Q (exitOf e) a' w') → Code.roundsIn (wideR r) 0 P c Q n a w
  | 0, fr, fr', e, a, m, m', w, ρ, h, _, _, _, _ => (fail_some h).elim
  | n + 1, fr, fr', e, a, m, m', w, ρ, h, hfr, hr, hf, hQ => by
    rw [roundsIn_succ]
    unfold loopX at h
    obtain ⟨q, m1, h1, h2⟩ := bind_some h
    obtain ⟨e1, fr1⟩ := q
    have n1 := next_mono (hlocal fr) h1
    cases e1 with
    | normal =>
      simp only at h2
      have n2 := next_mono (Local.loopX hlocal n fr1) h2
      exact hbody fr fr1 .normal a m m1 w ρ _ h1 hfr hr (hf.left n2) fun a' w' ρ' ha =>
        loop_does hlocal hbody n fr1 fr' e a' m1 m' w' ρ' h2 ha.frame ha.rel (ha.fresh hf n1) fun a2 w2 ρ2 h3 => hQ a2 w2 ρ2 (ha.trans h3 n1 n2)
    | exit i =>
      simp only at h2
      obtain ⟨h3, rfl⟩ := ret_some h2
      simp only [Prod.mk.injEq] at h3
      obtain ⟨rfl, rfl⟩ := h3
      exact hbody fr fr1 _ a m m1 w ρ _ h1 hfr hr hf fun a' w' ρ' ha => hQ a' w' ρ' ha
    | ret =>
      simp only at h2
      obtain ⟨h3, rfl⟩ := ret_some h2
      simp only [Prod.mk.injEq] at h3
      obtain ⟨rfl, rfl⟩ := h3
      exact hbody fr fr1 _ a m m1 w ρ _ h1 hfr hr hf fun a' w' ρ' ha => hQ a' w' ρ' ha

theorem and1 {r : Option Nat} {a b : Bool} (h : r = none ∨ (a && b) = true) : r = none ∨ a = true := h.imp id fun hh => by simp only [Bool.and_eq_true] at hh; exact hh.1
theorem and2 {r : Option Nat} {a b : Bool} (h : r = none ∨ (a && b) = true) : r = none ∨ b = true := h.imp id fun hh => by simp only [Bool.and_eq_true] at hh; exact hh.2
theorem noDefer_region {r : Option Nat} {id : Nat} {ops : Array Oper} {d : Bool} (h : r = none ∨ noDefer (.region id ops d) = true) : r = none ∨ ∀ o ∈ ops.toList, ∀ c, o.op ≠ .defer c := h.imp (fun h => h) fun hh o ho c hc => by
  unfold noDefer at hh
  have := List.all_eq_true.1 hh o ho
  rw [hc] at this
  cases this

theorem code_does {call : Caller} (hcall : CallOK P call) (hloc : LocalC call) (hmix : P.follows .mixedOrders = true) (hback : BackOK P) : ∀ (c : Code), CodeOK P call N c := by
  intro c
  induction c with
  | skip =>
    intro r fr fr' e a m m' w ρ Q hro h hfr hr hf hQ
    obtain ⟨h1, rfl⟩ := ret_some h
    simp only [Prod.mk.injEq] at h1
    obtain ⟨rfl, rfl⟩ := h1
    exact wpIn_skip (hQ a w ρ (.refl hr hfr))
  | region id ops draw =>
    intro r fr fr' e a m m' w ρ Q hro h hfr hr hf hQ
    unfold codeX at h
    cases draw with
    | true =>
      simp only [cond_true] at h
      cases hp : planX ops with
      | none => simp only [hp] at h; exact (fail_some h).elim
      | some as =>
        simp only [hp] at h
        obtain ⟨fr1, m1, h1, h2⟩ := bind_some h
        obtain ⟨h3, rfl⟩ := ret_some h2
        simp only [Prod.mk.injEq] at h3
        obtain ⟨rfl, rfl⟩ := h3
        exact region_any hcall hloc hmix hp h1 hfr hr hf hQ
    | false =>
      simp only [cond_false] at h
      obtain ⟨fr1, m1, h1, h2⟩ := bind_some h
      obtain ⟨h3, rfl⟩ := ret_some h2
      simp only [Prod.mk.injEq] at h3
      obtain ⟨rfl, rfl⟩ := h3
      exact region_text hcall hloc (noDefer_region hro) h1 hfr hr hf hQ
  | seq x y hx hy =>
    intro r fr fr' e a m m' w ρ Q hro h hfr hr hf hQ
    unfold codeX at h
    obtain ⟨q, m1, h1, h2⟩ := bind_some h
    obtain ⟨e1, fr1⟩ := q
    have n1 := next_mono (Local.codeX hloc x fr) h1
    refine wpIn_seq ?_
    cases e1 with
    | normal =>
      simp only at h2
      have n2 := next_mono (Local.codeX hloc y fr1) h2
      exact hx r fr fr1 .normal a m m1 w ρ _ (and1 hro) h1 hfr hr (hf.left n2) fun a' w' ρ' ha =>
        hy r fr1 fr' e a' m1 m' w' ρ' Q (and2 hro) h2 ha.frame ha.rel (ha.fresh hf n1) fun a2 w2 ρ2 h3 => hQ a2 w2 ρ2 (ha.trans h3 n1 n2)
    | exit i =>
      simp only at h2
      obtain ⟨h3, rfl⟩ := ret_some h2
      simp only [Prod.mk.injEq] at h3
      obtain ⟨rfl, rfl⟩ := h3
      exact hx r fr fr1 _ a m m1 w ρ _ (and1 hro) h1 hfr hr hf fun a' w' ρ' ha => hQ a' w' ρ' ha
    | ret =>
      simp only at h2
      obtain ⟨h3, rfl⟩ := ret_some h2
      simp only [Prod.mk.injEq] at h3
      obtain ⟨rfl, rfl⟩ := h3
      exact hx r fr fr1 _ a m m1 w ρ _ (and1 hro) h1 hfr hr hf fun a' w' ρ' ha => hQ a' w' ρ' ha
  | cond c x y hx hy =>
    intro r fr fr' e a m m' w ρ Q hro h hfr hr hf hQ
    unfold codeX at h
    cases hc : ev fr c with
    | none => simp only [hc] at h; exact (fail_some h).elim
    | some u =>
      have hv := ev_rel hfr hc
      cases u with
      | bool b =>
        cases b with
        | true =>
          simp only [hc] at h
          exact wpIn_cond_true hv.bool (hx r fr fr' e a m m' w ρ Q (and1 hro) h hfr hr hf hQ)
        | false =>
          simp only [hc] at h
          exact wpIn_cond_false hv.bool (hy r fr fr' e a m m' w ρ Q (and2 hro) h hfr hr hf hQ)
      | _ => simp only [hc] at h; exact (fail_some h).elim
  | block id c ih =>
    intro r fr fr' e a m m' w ρ Q hro h hfr hr hf hQ
    unfold codeX at h
    obtain ⟨q, m1, h1, h2⟩ := bind_some h
    obtain ⟨e1, fr1⟩ := q
    refine wpIn_block ?_
    cases e1 with
    | normal =>
      simp only at h2
      obtain ⟨h3, rfl⟩ := ret_some h2
      simp only [Prod.mk.injEq] at h3
      obtain ⟨rfl, rfl⟩ := h3
      exact ih r fr fr1 _ a m m1 w ρ _ hro h1 hfr hr hf fun a' w' ρ' ha => hQ a' w' ρ' ha
    | exit i =>
      simp only at h2
      cases hi : i == id with
      | true =>
        simp only [hi, cond_true] at h2
        obtain ⟨h3, rfl⟩ := ret_some h2
        simp only [Prod.mk.injEq] at h3
        obtain ⟨rfl, rfl⟩ := h3
        refine ih r fr fr1 _ a m m1 w ρ _ hro h1 hfr hr hf fun a' w' ρ' ha => ?_
        have hii : i = id := by simpa using hi
        simp only [exitOf, Exit.inBlock, hii, if_true]
        exact hQ a' w' ρ' ha
      | false =>
        simp only [hi, cond_false] at h2
        obtain ⟨h3, rfl⟩ := ret_some h2
        simp only [Prod.mk.injEq] at h3
        obtain ⟨rfl, rfl⟩ := h3
        refine ih r fr fr1 _ a m m1 w ρ _ hro h1 hfr hr hf fun a' w' ρ' ha => ?_
        have hii : ¬ i = id := by simpa using hi
        simp only [exitOf, Exit.inBlock, hii, if_false]
        exact hQ a' w' ρ' ha
    | ret =>
      simp only at h2
      obtain ⟨h3, rfl⟩ := ret_some h2
      simp only [Prod.mk.injEq] at h3
      obtain ⟨rfl, rfl⟩ := h3
      exact ih r fr fr1 _ a m m1 w ρ _ hro h1 hfr hr hf fun a' w' ρ' ha => hQ a' w' ρ' ha
  | loop c ih =>
    intro r fr fr' e a m m' w ρ Q hro h hfr hr hf hQ
    unfold codeX at h
    exact wpIn_loop_rounds _ (loop_does (fun fr => Local.codeX hloc c fr) (fun fr fr' e a m m' w ρ Q => ih r fr fr' e a m m' w ρ Q hro) _ fr fr' e a m m' w ρ h hfr hr hf hQ)
  | exit id =>
    intro r fr fr' e a m m' w ρ Q hro h hfr hr hf hQ
    obtain ⟨h1, rfl⟩ := ret_some h
    simp only [Prod.mk.injEq] at h1
    obtain ⟨rfl, rfl⟩ := h1
    exact wpIn_exit (hQ a w ρ (.refl hr hfr))
  | ret =>
    intro r fr fr' e a m m' w ρ Q hro h hfr hr hf hQ
    obtain ⟨h1, rfl⟩ := ret_some h
    simp only [Prod.mk.injEq] at h1
    obtain ⟨rfl, rfl⟩ := h1
    exact wpIn_ret (hQ a w ρ (.refl hr hfr))
  | rangeFunc g ps assign body iha ihb =>
    intro r fr fr' e a m m' w ρ Q hro h hfr hr hf hQ
    obtain rfl : r = none := hro.resolve_right (by simp [noDefer])
    unfold codeX at h
    cases hnd : noDefer assign && noDefer body with
    | false => rw [hnd] at h; simp only [cond_false] at h; exact (fail_some h).elim
    | true =>
      rw [hnd] at h
      simp only [cond_true] at h
      simp only [Bool.and_eq_true] at hnd
      cases hg : (ev fr g).bind (backV P) with
      | none => simp only [hg] at h; exact (fail_some h).elim
      | some bx =>
        simp only [hg] at h
        obtain ⟨v, hev, hbx⟩ := Option.bind_eq_some_iff.1 hg
        obtain ⟨b, m1, h1, h2⟩ := bind_some h
        obtain ⟨sv, m2, h3, h4⟩ := bind_some h2
        cases sv <;> first | exact (fail_some h4).elim | skip
        rename_i ad n c
        simp only at h4
        obtain ⟨u, m3, h5, h6⟩ := bind_some h4
        obtain ⟨hn, rfl⟩ := guard_some h5
        obtain ⟨e2, m4, h7, h8⟩ := bind_some h6
        obtain ⟨h9, rfl⟩ := ret_some h8
        simp only [Prod.mk.injEq] at h9
        obtain ⟨rfl, rfl⟩ := h9
        exact range_does hback iha ihb (fun fr => Local.codeX hloc assign fr) (fun fr => Local.codeX hloc body fr) hnd.1 hnd.2 hfr hev hbx h1 h3 (by simpa using hn) h7 hr hf hQ
  | _ => intro r fr fr' e a m m' w ρ Q hro h hfr hr hf hQ; exact (fail_some h).elim

/-! ### Functions -/
theorem load_facts {t : TypeId} {x v : Value} (h : loadX P t x m = some (v, m')) : m'.next = m.next ∧ ∃ b o, x = .pointer (some ⟨b, o, none⟩) := by
  unfold loadX at h
  split at h
  · rename_i b o
    obtain ⟨blk, m3, g1, g2⟩ := bind_some h
    obtain ⟨gb, rfl⟩ := getB_some g1
    refine ⟨?_, b, o, rfl⟩
    match ha : Clean.isAgg P t, g2 with
    | some true, g2 =>
      match hn : sizeT P t, g2 with
      | some n, g2 => obtain ⟨_, rfl⟩ := lift_some g2; rfl
      | none, g2 => exact (fail_some g2).elim
    | some false, g2 => obtain ⟨_, rfl⟩ := lift_some g2; rfl
    | none, g2 => exact (fail_some g2).elim
  · exact (fail_some h).elim

def resOne (tmps : Array Value) : ResultVar → Sem Value
  | .tmp t => pure (tmps.getD t undef)
  | .cell x t => do loadVar t (← asAddr (tmps.getD x undef))
theorem results_eq (fn : Func) (tmps : Array Value) : results fn tmps = (do
    let vs ← fn.results.mapM (resOne tmps)
    pure (if h : vs.size = 1 then vs[0] else .tuple vs)) := rfl

theorem res_does {fr : Fr} {a : Act} (hfr : FrR ρ fr a) : ∀ {l : List ResultVar} {vs : List Value} {m m' : Mem}, resX P fr l m = some (vs, m') → Rel N ρ m.t.get w → m'.t = m.t ∧ m'.next = m.next ∧ ∃ vs', VRs ρ vs vs' ∧
    (l.mapM (resOne a.tmps)).run P w = .ok vs' w
  | [], vs, m, m', h, hr => by
    obtain ⟨rfl, rfl⟩ := ret_some h
    exact ⟨rfl, rfl, [], .nil, rfl⟩
  | .tmp t :: l, vs, m, m', h, hr => by
    obtain ⟨us, m1, h1, h2⟩ := bind_some h
    obtain ⟨rfl, rfl⟩ := ret_some h2
    obtain ⟨e1, e2, us', e3, e4⟩ := res_does hfr h1 hr
    refine ⟨e1, e2, a.tmps.getD t undef :: us', .cons (hfr.tmps t) e3, ?_⟩
    rw [List.mapM_cons]
    simp only [resOne, Sem.run_bind, Sem.run_pure, Result.andThen_ok, e4]
  | .cell x t :: l, vs, m, m', h, hr => by
    obtain ⟨u, m1, h1, h2⟩ := bind_some h
    obtain ⟨us, m2, h3, h4⟩ := bind_some h2
    obtain ⟨rfl, rfl⟩ := ret_some h4
    obtain ⟨u', l1, l2, l3⟩ := load_does (P := P) (w := w) (hfr.tmps x) h1 hr
    obtain ⟨hn, b, o, hb⟩ := load_facts h1
    obtain ⟨e1, e2, us', e3, e4⟩ := res_does hfr h3 (by rw [l3]; exact hr)
    refine ⟨e1.trans l3, e2.trans hn, u' :: us', .cons l2 e3, ?_⟩
    rw [List.mapM_cons]
    have hld : (resOne a.tmps (.cell x t)).run P w = .ok u' w := by
      have hp := hfr.tmps x
      rw [hb] at hp
      obtain ⟨p, _, he⟩ := hp.ptr
      rw [he] at l1
      show (do loadVar t (← asAddr (a.tmps.getD x undef)) : Sem Value).run P w = .ok u' w
      rw [he]
      exact l1
    rw [Sem.run_bind, hld]
    simp only [Result.andThen_ok, Sem.run_bind, e4, Sem.run_pure]

theorem putArgs_at {n : Nat} : ∀ (l : List Value) (i : Nat) (t : Trie Value) (k : Nat), (Fr.mk (putArgs l i t) n []).at k = if i ≤ k ∧ k < i + l.length then (l[k - i]?).getD undef else (Fr.mk t n []).at k
  | [], i, t, k => by rw [if_neg (by simp only [List.length_nil]; omega)]; rfl
  | v :: l, i, t, k => by
    unfold putArgs
    rw [putArgs_at l (i + 1)]
    simp only [List.length_cons]
    by_cases h1 : i + 1 ≤ k ∧ k < i + 1 + l.length
    · rw [if_pos h1, if_pos (by omega), show k - i = (k - (i + 1)) + 1 by omega, List.getElem?_cons_succ]
    · rw [if_neg h1]
      by_cases h2 : k = i
      · subst h2
        rw [if_pos (by omega), Nat.sub_self]
        simp [Fr.at, Trie.get_set_same _ _ _ _ (Nat.lt_succ_self k)]
      · rw [if_neg (by omega)]
        simp [Fr.at, Trie.get_set_ne _ _ _ _ _ h2]

theorem enter_rel {args cargs : List Value} (h : VRs ρ args cargs) {n : Nat} (hn : args.length ≤ n) : FrR ρ ⟨putArgs args 0 .leaf, n, []⟩ { tmps := (⟨cargs⟩ : Array Value) ++ Array.replicate (n - cargs.length) undef, defers := [] } := by
  have hlen := h.length
  refine ⟨by simp [hlen]; omega, fun t => ?_, rfl⟩
  rw [putArgs_at]
  simp only [Nat.zero_le, true_and, Nat.zero_add, Nat.sub_zero]
  by_cases ht : t < args.length
  · rw [if_pos ht]
    obtain ⟨v', h1, h2⟩ := h.get (List.getElem?_eq_getElem ht)
    have h3 : (((⟨cargs⟩ : Array Value) ++ Array.replicate (n - cargs.length) undef).getD t undef) = v' := by
      rw [Array.getD_eq_getD_getElem?, Array.getElem?_append, if_pos (by simp; omega), ← Array.getElem?_toList, h1]; rfl
    rw [h3, List.getElem?_eq_getElem ht]
    exact h2
  · rw [if_neg ht]
    have h3 : (((⟨cargs⟩ : Array Value) ++ Array.replicate (n - cargs.length) undef).getD t undef) = undef := by
      rw [Array.getD_eq_getD_getElem?, Array.getElem?_append, if_neg (by simp; omega), Array.getElem?_replicate]
      split <;> rfl
    rw [h3]
    exact .undef

/-- A deferred call of the model, as 'LeavesInM' asks it. -/
def DCallOK (P : Program) (dcall : Caller) : Prop := ∀ f args m v m', dcall f args m = some (v, m') → ∀ N ρ w cargs, Rel N ρ m.t.get w → VRs ρ args cargs → Fresh ρ m m' →
  (callFunc f ⟨cargs⟩).run P w = .ok (.enter f ⟨cargs⟩) w ∧ ∀ u, CallsDIn (wideR none) 0 P f ⟨cargs⟩ u w fun e u' w' => u' = u ∧ ∃ v' ρ', e = .returned v' ∧ After N ρ m m' w v v' w' ρ'

/-- What stands behind the code of a body: its deferred calls, its results. -/
def endX (P : Program) (fin : Nat → Fr → M Unit) (base : Nat) (fn : Func) (fr : Fr) : M Value := do
  fin base fr
  let vs ← resX P fr fn.results.toList
  match vs with
  | [v] => M.ret v
  | vs => M.ret (Value.tuple ⟨vs⟩)

theorem results_does {fn : Func} {fr : Fr} {tmps : Array Value} {d : List Deferred} (hfr : FrR ρ fr ⟨tmps, d⟩) {v : Value} (h : (do
    let vs ← resX P fr fn.results.toList
    match vs with
    | [v] => M.ret v
    | vs => M.ret (Value.tuple ⟨vs⟩)) m = some (v, m')) (hr : Rel N ρ m.t.get w) : m'.t = m.t ∧ m'.next = m.next ∧ ∃ v', (results fn tmps).run P w = .ok v' w ∧ VR ρ v v' := by
  obtain ⟨vs, m4, h8, h9⟩ := bind_some h
  obtain ⟨n4, hv9⟩ : m4 = m' ∧ ((∃ x, vs = [x] ∧ v = x) ∨ (vs.length ≠ 1 ∧ v = .tuple ⟨vs⟩)) := by
    match vs, h9 with
    | [], h9 => exact ⟨(ret_some h9).2, .inr ⟨by simp, (ret_some h9).1.symm⟩⟩
    | [x], h9 => exact ⟨(ret_some h9).2, .inl ⟨x, rfl, (ret_some h9).1.symm⟩⟩
    | x :: y :: r, h9 => exact ⟨(ret_some h9).2, .inr ⟨by simp, (ret_some h9).1.symm⟩⟩
  subst n4
  obtain ⟨e1, e2, vs', e3, e4⟩ := res_does (P := P) hfr h8 hr
  have hmap : (fn.results.mapM (resOne tmps)).run P w = .ok ⟨vs'⟩ w := by
    rw [Array.mapM_eq_mapM_toList, Sem.run_map, e4]; rfl
  have hlen := e3.length
  have hres : ∀ v', (if h : (⟨vs'⟩ : Array Value).size = 1 then (⟨vs'⟩ : Array Value)[0] else .tuple ⟨vs'⟩) = v' → (results fn tmps).run P w = .ok v' w := by
    intro v' hv'
    rw [results_eq, Sem.run_bind, hmap]
    simp only [Result.andThen_ok, Sem.run_pure]
    rw [hv']
  refine ⟨e1, e2, ?_⟩
  rcases hv9 with ⟨x, rfl, rfl⟩ | ⟨hone, rfl⟩
  · obtain ⟨v', r', rfl, hv, hnil⟩ := e3.inv
    obtain rfl := hnil.inv0
    exact ⟨v', hres v' rfl, hv⟩
  · refine ⟨.tuple ⟨vs'⟩, hres _ ?_, vs', rfl, e3⟩
    rw [dif_neg]
    intro h1
    exact hone (by rw [← hlen]; exact h1)

/-- The way out of a body. -/
theorem leaves_does {dcall : Caller} (hd : DCallOK P dcall) (hdl : LocalC dcall) {fn : Func} {R : Ending → World → Prop} {fr : Fr} {v : Value} {m0 : Mem} {w0 : World} {ρ0 : Env} (hN : N ≤ w0.heap.size) : ∀ (l : List (FuncId × List Value)) (ds : List Deferred) (tmps : Array Value) (d0 : List Deferred) (m m' : Mem) (w : World) (ρ : Env), (do
    runDX dcall m0.next l
    let vs ← resX P fr fn.results.toList
    match vs with
    | [v] => M.ret v
    | vs => M.ret (Value.tuple ⟨vs⟩)) m = some (v, m') → DRs ρ l ds → AfterF N ρ0 m0 m w0 fr ⟨tmps, d0⟩ w ρ → m0.next ≤ m.next → Fresh ρ0 m0 m' → (∀ v' w' ρ', After N ρ0 m0 m' w0 v v' w' ρ' → R (.returned v') w') → LeavesInM (wideR none) 0 P fn tmps R ds .returning w
  | [], ds, tmps, d0, m, m', w, ρ, h, hds, hA, hmm, hf, hR => by
    obtain rfl : ds = [] := hds
    obtain ⟨u, m1, h1, h2⟩ := bind_some h
    obtain ⟨_, rfl⟩ := ret_some h1
    obtain ⟨e1, e2, v', e3, e4⟩ := results_does hA.frame h2 hA.rel
    exact ⟨v', e3, hR v' w ρ ⟨hA.ext, fun b hb hb' => by rw [e2]; exact hA.dom b hb hb', by rw [e1]; exact hA.rel, e4, hA.below, hA.marks⟩⟩
  | (f, args) :: l, ds, tmps, d0, m, m', w, ρ, h, hds, hA, hmm, hf, hR => by
    obtain ⟨d', ds', rfl, hdr, hds'⟩ := hds
    obtain ⟨u, m1, h1, h2⟩ := bind_some h
    have hrest : ∀ m2, runDX dcall m0.next l m2 = some (u, m1) → (do
        runDX dcall m0.next l
        let vs ← resX P fr fn.results.toList
        match vs with
        | [v] => M.ret v
        | vs => M.ret (Value.tuple ⟨vs⟩)) m2 = some (v, m') := fun m2 h4 => by
      change M.bnd _ _ m2 = _
      unfold M.bnd
      simp only [h4]
      exact h2
    have hnext : ∀ m2, runDX dcall m0.next l m2 = some (u, m1) → m2.next ≤ m'.next := fun m2 h4 => by
      have := next_mono (m := m2) (m' := m') (Local.bind (Local.runDX hdl m0.next l) fun _ => Local.bind (Local.resX fr fn.results.toList) fun vs => by
        split <;> exact Local.ret _) (hrest m2 h4)
      exact this
    unfold runDX at h1
    rcases hdr with ⟨cargs, cap, rfl, hv⟩ | ⟨hmark, p, hp, hpm, rfl⟩
    · simp only at hv
      rw [hv.noMark] at h1
      simp only [cond_false] at h1
      obtain ⟨v1, m2, h3, h4⟩ := bind_some h1
      have n1 := next_mono (hdl f args) h3
      have n2 := hnext m2 h4
      have hfr : Fresh ρ m m2 := (hA.fresh hf hmm).left n2
      obtain ⟨g1, g2⟩ := hd f args m v1 m2 h3 N ρ w _ hA.rel hv hfr
      refine ⟨by simp, .inr ⟨fun h => by simp [Fence.wide] at h, .func f, ⟨cap⟩, f, ⟨cargs ++ cap⟩, rfl, ?_, fun _ _ => trivial, (g2 .returning).mono fun e u' w' he => ?_⟩⟩
      · show (callFunc f ((⟨cargs⟩ : Array Value) ++ ⟨cap⟩)).run P w = _
        have : (⟨cargs⟩ : Array Value) ++ ⟨cap⟩ = ⟨cargs ++ cap⟩ := by apply Array.ext'; simp
        rw [this]; exact g1
      · obtain ⟨rfl, v', ρ', rfl, hB⟩ := he
        have hAF : AfterF N ρ0 m0 m2 w0 fr ⟨tmps, d0⟩ w' ρ' := hA.trans ⟨hB.ext, hB.dom, hB.rel, hA.frame.mono hB.ext, hB.below, hB.marks⟩ hmm n1
        exact leaves_does hd hdl hN l ds' tmps d0 m2 m' w' ρ' (hrest m2 h4) (hds'.mono hB.ext) hAF (by omega) hf hR
    · simp only at hmark
      subst hmark
      simp only [isMark, markV, cond_true] at h1
      obtain ⟨k, m2, h3, h4⟩ := bind_some h1
      simp only [nextX, Option.some.injEq, Prod.mk.injEq] at h3
      obtain ⟨rfl, rfl⟩ := h3
      obtain ⟨u2, m3, h5, h6⟩ := bind_some h4
      obtain ⟨hg, rfl⟩ := guard_some h5
      simp only [Bool.and_eq_true, Nat.ble_eq, Nat.blt_eq] at hg
      obtain ⟨x, m4, h7, h8⟩ := bind_some h6
      obtain ⟨hx, rfl⟩ := getB_some h7
      obtain ⟨u3, m5, h9, h10⟩ := bind_some h8
      obtain ⟨e1, e2⟩ := setB_some h9
      simp only at e1 e2
      have n2 := hnext m5 h10
      have h0 : ρ0 f = none := hf f hg.1 (by omega)
      have hD := hA.marks f p h0 hp hpm
      obtain ⟨k1, k2, k3⟩ := hA.rel.marks f x p hx hp hpm
      refine ⟨by simp, .inl ⟨p.blk, _, rfl, run_takeDeferred k2, ?_⟩⟩
      have hAF : AfterF N ρ0 m0 m5 w0 fr ⟨tmps, d0⟩ (w.putObj p.blk (.deferred none)) ρ :=
        ⟨hA.ext, fun b hb hb' => by rw [e1]; exact hA.dom b hb hb', hA.rel.unmark hx hp hpm _ e2, hA.frame, hA.below.putObj hD hN _, hA.marks⟩
      exact leaves_does hd hdl hN l ds' tmps d0 m5 m' _ ρ (hrest m5 h10) hds' hAF (by omega) hf hR

/-- A function's body: its code, and what stands behind it. -/
theorem body_wp {call : Caller} {fin : Nat → Fr → M Unit} (hcall : CallOK P call) (hloc : LocalC call) (hdl : ∀ base fr, Local (fin base fr)) (hmix : P.follows .mixedOrders = true) (hback : BackOK P) {fn : Func} {args cargs : List Value} {v : Value} (h : bodyX P call fin fn args m = some (v, m'))
    (hr : Rel N ρ m.t.get w) (ha : VRs ρ args cargs) (hf : Fresh ρ m m') : ∃ c, fn.body = some c ∧ c.wpIn (wideR none) 0 P (fun e a' w' => (e = .normal ∨ e = .ret) ∧ ∃ fr1 m3 ρ', AfterF N ρ m m3 w fr1 a' w' ρ' ∧ endX P fin m.next fn fr1 m3 = some (v, m') ∧ m.next ≤ m3.next ∧ m3.next ≤ m'.next)
      { tmps := (⟨cargs⟩ : Array Value) ++ Array.replicate (fn.ntmps - cargs.length) undef, defers := [] } w := by
  unfold bodyX at h
  cases hb : fn.body with
  | none => simp only [hb] at h; exact (fail_some h).elim
  | some c =>
    refine ⟨c, rfl, ?_⟩
    simp only [hb] at h
    obtain ⟨u, m1, h1, h2⟩ := bind_some h
    obtain ⟨hg, rfl⟩ := guard_some h1
    obtain ⟨base, mb, hb1, hb2⟩ := bind_some h2
    simp only [nextX, Option.some.injEq, Prod.mk.injEq] at hb1
    obtain ⟨rfl, rfl⟩ := hb1
    obtain ⟨fr, m2, h3, h4⟩ := bind_some hb2
    rw [frK_eq] at h3
    obtain ⟨rfl, rfl⟩ := ret_some h3
    obtain ⟨q, m3, h5, h6⟩ := bind_some h4
    obtain ⟨e, fr1⟩ := q
    simp only at h6
    have hne : (e = .normal ∨ e = .ret) ∧ endX P fin m.next fn fr1 m3 = some (v, m') := by
      cases e with
      | normal => exact ⟨.inl rfl, h6⟩
      | exit i => exact (fail_some h6).elim
      | ret => exact ⟨.inr rfl, h6⟩
    obtain ⟨hne, h7⟩ := hne
    have n1 := next_mono (Local.codeX hloc c _) h5
    have n2 : m3.next ≤ m'.next := next_mono (m := m3) (m' := m') (Local.endX hdl m.next fn fr1) h7
    refine code_does hcall hloc hmix hback c none _ fr1 e _ m m3 w ρ _ (.inl rfl) h5 (enter_rel ha (n := fn.ntmps) (by simpa using hg)) hr (hf.left n2) fun a' w' ρ' hA => ⟨?_, fr1, m3, ρ', hA, h7, n1, n2⟩
    rcases hne with rfl | rfl
    · exact .inl rfl
    · exact .inr rfl

/-- A function's body, by the model's contract of a call. -/
theorem body_does {call dcall : Caller} (hcall : CallOK P call) (hloc : LocalC call) (hd : DCallOK P dcall) (hdl : LocalC dcall) (hmix : P.follows .mixedOrders = true) (hback : BackOK P) {f : FuncId} {fn : Func} (hfn : P.funcs[f]? = some fn) {args cargs : List Value} {v : Value}
    (h : bodyX P call (fun base fr => runDX dcall base fr.d) fn args m = some (v, m')) (hr : Rel N ρ m.t.get w) (ha : VRs ρ args cargs) (hf : Fresh ρ m m') : fn.body.isSome = true ∧ CallsIn (wideR none) 0 P f ⟨cargs⟩ w fun e w' => ∃ v' ρ', e = .returned v' ∧ After N ρ m m' w v v' w' ρ' := by
  obtain ⟨c, hb, hwp⟩ := body_wp hcall hloc (fun _ _ => Local.runDX hdl _ _) hmix hback h hr ha hf
  refine ⟨by rw [hb]; rfl, callsIn_of_wp_marks hfn hb trivial (wpIn_mono hwp fun e a' w' he => ?_)⟩
  obtain ⟨hne, fr1, m3, ρ', hA, hend, n1, n2⟩ := he
  have hl : LeavesInM (wideR none) 0 P fn a'.tmps (fun e w' => ∃ v' ρ', e = .returned v' ∧ After N ρ m m' w v v' w' ρ') a'.defers .returning w' :=
    leaves_does hd hdl hr.base fr1.d a'.defers a'.tmps a'.defers m3 m' w' ρ' hend hA.frame.defers hA n1 hf fun v' w2 ρ2 h6 => ⟨v', ρ2, rfl, h6⟩
  rcases hne with rfl | rfl
  · exact hl
  · exact hl

def KnownOK (P : Program) (known : Known) : Prop := ∀ f args g, known f args = some g → Local g ∧
  ∀ m v m', g m = some (v, m') → ∀ N ρ w cargs, Rel N ρ m.t.get w → VRs ρ args cargs → Fresh ρ m m' → Does P N ρ m m' w v (callFunc f ⟨cargs⟩)

/-- No function of the program bears the one name to which the model gives a meaning of its own. -/
def noCount (P : Program) : Bool := P.funcs.toList.all fun fn => !(fn.name == "runtime.NumGoroutine")

theorem enter_run (hno : noCount P = true) {f : FuncId} {fn : Func} (hfn : P.funcs[f]? = some fn) (hb : fn.body.isSome = true) (cargs : List Value) : (callFunc f ⟨cargs⟩).run P w = .ok (.enter f ⟨cargs⟩) w := by
  have hname : (fn.name == "runtime.NumGoroutine") = false := by
    have := List.all_eq_true.1 hno fn (by rw [Array.mem_toList_iff]; exact Array.mem_of_getElem? hfn)
    simpa using this
  unfold callFunc
  simp only [Sem.run_bind, run_program, Result.andThen_ok, hfn, hname]
  cases hbb : fn.body with
  | none => rw [hbb] at hb; cases hb
  | some c => rfl

theorem callN_local {known : Known} (hk : KnownOK P known) (n : Nat) : LocalC (callN P known n) := Local.callN (fun f args g h => (hk f args g h).1) n

theorem deferred_ok {call : Caller} (hcall : CallOK P call) (hloc : LocalC call) (hmix : P.follows .mixedOrders = true) (hback : BackOK P) (hno : noCount P = true) : DCallOK P (deferredX P call) := by
  intro f args m v m' h N ρ w cargs hr ha hf
  unfold deferredX at h
  cases hfn : P.funcs[f]? with
  | none => simp only [hfn] at h; exact (fail_some h).elim
  | some fn =>
    simp only [hfn] at h
    obtain ⟨c, hb, hwp⟩ := body_wp hcall hloc (fun _ _ => Local.guard _) hmix hback h hr ha hf
    refine ⟨enter_run hno hfn (by rw [hb]; rfl) cargs, fun u => callsDIn_of_wp hfn hb trivial (wpIn_mono hwp fun e a' w' he => ?_)⟩
    obtain ⟨hne, fr1, m3, ρ', hA, hend, n1, n2⟩ := he
    unfold endX at hend
    obtain ⟨u0, m4, h1, h2⟩ := bind_some hend
    obtain ⟨hnil, rfl⟩ := guard_some h1
    have hnil : fr1.d = [] := by simpa using hnil
    have hd0 : a'.defers = [] := by
      have := hA.frame.defers
      rw [hnil] at this
      exact this
    obtain ⟨e1, e2, v', e3, e4⟩ := results_does (tmps := a'.tmps) (d := a'.defers) hA.frame h2 hA.rel
    have hfin : a'.defers = [] ∧ ∃ v', (results fn a'.tmps).run P w' = .ok v' w' ∧ ∃ v'' ρ'', Ending.returned v' = .returned v'' ∧ After N ρ m m' w v v'' w' ρ'' :=
      ⟨hd0, v', e3, v', ρ', rfl, hA.ext, fun b hb hb' => by have := hA.dom b hb hb'; rw [e2]; exact this, by rw [e1]; exact hA.rel, e4, hA.below, hA.marks⟩
    rcases hne with rfl | rfl
    · exact hfin
    · exact hfin

theorem callN_ok {known : Known} (hk : KnownOK P known) (hmix : P.follows .mixedOrders = true) (hback : BackOK P) (hno : noCount P = true) : ∀ n, CallOK P (callN P known n)
  | 0 => fun f args m v m' h => (fail_some h).elim
  | n + 1 => fun f args m v m' h N ρ w cargs hr ha hf => by
    unfold callN at h
    cases hkf : known f args with
    | some g => simp only [hkf] at h; exact (hk f args g hkf).2 m v m' h N ρ w cargs hr ha hf
    | none =>
      simp only [hkf] at h
      cases hfn : P.funcs[f]? with
      | none => simp only [hfn] at h; exact (fail_some h).elim
      | some fn =>
        simp only [hfn] at h
        obtain ⟨hbody, hc⟩ := body_does (callN_ok hk hmix hback hno n) (callN_local hk n) (deferred_ok (callN_ok hk hmix hback hno n) (callN_local hk n) hmix hback hno) (Local.deferredX (callN_local hk n)) hmix hback hfn h hr ha hf
        intro r o a K Q hK
        rw [enter_run hno hfn hbody]
        refine ⟨fun h => by simp [Fence.wide] at h, CallsIn.mono (R := fun e w' => ∃ v' ρ', e = .returned v' ∧ After N ρ m m' w v v' w' ρ') hc ?_⟩
        refine fun e w' he => ?_
        obtain ⟨v', ρ', rfl, hA⟩ := he
        exact hK v' w' ρ' hA

/-- What was there stands as it stood. -/
theorem Rel.later {g : Nat → Option Blk} {w' : World} (h : Rel N ρ g w) (hb : Below w.heap.size w w') : Rel N ρ g w' := by
  refine ⟨Nat.le_trans h.base hb.size, fun b x hx => ?_, h.apart, fun b x p hx hp hm => by
    obtain ⟨h1, h2, h3⟩ := h.marks b x p hx hp hm
    exact ⟨h1, by rw [hb.block _ (Array.getElem?_eq_some_iff.1 h2).1]; exact h2, h3⟩⟩
  obtain ⟨p, h1, h2, h3, h4, h5, h6⟩ := h.blk b x hx
  refine ⟨p, h1, h2, h3, fun i v hi => ?_, h5, fun hr => ?_⟩
  · obtain ⟨v', e1, e2, e3⟩ := h4 i v hi
    refine ⟨v', ?_, e2, e3⟩
    have hlt : p.blk < w.heap.size := by
      by_cases hlt : p.blk < w.heap.size
      · exact hlt
      · simp [World.cell?, Array.getElem?_eq_none (Nat.le_of_not_lt hlt)] at e1
    rw [hb.cell (p := ⟨p.blk, p.off + i, none⟩) hlt]
    exact e1
  · obtain ⟨r1, r2, c, T, r3, r4⟩ := h6 hr
    exact ⟨r1, r2, c, T, by rw [hb.block _ (Array.getElem?_eq_some_iff.1 r3).1]; exact r3, r4⟩

end Go.Clean

/- The clean executor: a run cut in pieces, each piece's end written out; the log does not count. -/
set_option linter.unusedVariables false
set_option linter.unusedSimpArgs false
namespace Go.Clean
open Go Go.RowKit
variable {P : Program} {call : Caller}

theorem code_again (hloc : LocalC call) {c : Code} {fr : Fr} {m m' m2 : Mem} {r : Ex × Fr} (h : codeX P call c fr m = some (r, m')) (ht : ∀ b, m2.t.get b = m.t.get b) (hn : m2.next = m.next) :
    ∃ m2', codeX P call c fr m2 = some (r, m2') ∧ (∀ b, m2'.t.get b = m'.t.get b) ∧ m2'.next = m'.next := by
  obtain ⟨nl, h1, h2, h3, h4⟩ := Local.codeX hloc c fr m r m' h
  obtain ⟨m2', e1, e2, e3, e4, e5⟩ := h4 m2 hn (fun p _ => ht p.2)
  refine ⟨m2', e1, fun b => ?_, e3⟩
  by_cases hb : (true, b) ∈ nl
  · exact e4 b hb
  · rw [e5 b hb, ht b, h3 b hb]

/-- A piece of code takes a frame and a memory to another, whatever the log. -/
def Chunk (P : Program) (call : Caller) (c : Code) (fr : Fr) (m : Mem) (e : Ex) (fr' : Fr) (m'' : Mem) : Prop :=
  ∃ m', codeX P call c fr m = some ((e, fr'), m') ∧ (∀ b, m'.t.get b = m''.t.get b) ∧ m'.next = m''.next

/-- What the kernel is asked. -/
def runC (P : Program) (call : Caller) (c : Code) (fr : Fr) (m : Mem) : Option (Ex × Fr × Trie Blk × Nat) := match codeX P call c fr m with
  | some ((e, fr'), m') => some (e, fr', m'.t, m'.next)
  | none => none

theorem Chunk.of {c : Code} {fr fr' : Fr} {m : Mem} {e : Ex} {t : Trie Blk} {n : Nat} (h : runC P call c fr m = some (e, fr', t, n)) : Chunk P call c fr m e fr' ⟨t, n, []⟩ := by
  unfold runC at h
  cases hc : codeX P call c fr m with
  | none => rw [hc] at h; cases h
  | some q =>
    obtain ⟨⟨e1, fr1⟩, m1⟩ := q
    rw [hc] at h
    simp only [Option.some.injEq, Prod.mk.injEq] at h
    obtain ⟨rfl, rfl, rfl, rfl⟩ := h
    exact ⟨m1, hc, fun _ => rfl, rfl⟩

theorem Chunk.seq (hloc : LocalC call) {a b : Code} {fr fr1 fr2 : Fr} {m m1 m2 : Mem} {e : Ex} (h1 : Chunk P call a fr m .normal fr1 m1) (h2 : Chunk P call b fr1 m1 e fr2 m2) : Chunk P call (.seq a b) fr m e fr2 m2 := by
  obtain ⟨ma, a1, a2, a3⟩ := h1
  obtain ⟨mb, b1, b2, b3⟩ := h2
  obtain ⟨mc, c1, c2, c3⟩ := code_again hloc b1 (m2 := ma) a2 a3
  refine ⟨mc, ?_, fun x => (c2 x).trans (b2 x), c3.trans b3⟩
  unfold codeX
  change M.bnd _ _ m = _
  unfold M.bnd
  simp only [a1]
  exact c1

/-- The first pieces of a code, and what is behind them. -/
def cut : Nat → Code → List Code × Code
  | k + 1, .seq a b => (a :: (cut k b).1, (cut k b).2)
  | _, c => ([], c)
def nest : List Code → Code → Code
  | [], r => r
  | c :: l, r => .seq c (nest l r)
/-- Pieces one behind the other, each come to its end. -/
def runsX (P : Program) (call : Caller) : List Code → Fr → Mem → Option (Fr × Mem)
  | [], fr, m => some (fr, m)
  | c :: l, fr, m => match codeX P call c fr m with
    | some ((.normal, fr), m) => runsX P call l fr m
    | _ => none
def runsC (P : Program) (call : Caller) (l : List Code) (fr : Fr) (m : Mem) : Option (Fr × Trie Blk × Nat) := match runsX P call l fr m with
  | some (fr', m') => some (fr', m'.t, m'.next)
  | none => none
theorem bind_eq {α β : Type} {f : M α} {g : α → M β} {m m1 : Mem} {a : α} (h : f m = some (a, m1)) : (f >>= g) m = g a m1 := by
  change M.bnd f g m = _
  unfold M.bnd
  rw [h]

end Go.Clean
