/- The clean executor: each operation, and one behind the other in the text's order. -/
import Derived.Test.YtjddmnfdnnbbhaaGreatKKZ
import Derived.OrdersIn
set_option linter.unusedSimpArgs false
set_option linter.unusedVariables false
set_option linter.unusedVariables false
set_option linter.unusedSimpArgs false
namespace Go.Clean
open Go Go.RowKit
variable {P : Program} {N : Nat} {ρ : Env} {m m' : Mem} {w : World}

theorem op_does {call : Caller} (hcall : CallOK P call) {fr : Fr} {a : Act} (hfr : FrR ρ fr a) {o : Oper} {v : Value} (h : opX P call fr o m = some (v, m')) (hr : Rel N ρ m.t.get w) (hf : Fresh ρ m m') :
    Does P N ρ m m' w v (execOp a.eval o) := by
  have hev : ∀ {x : Operand} {u : Value}, ev fr x = some u → VR ρ u (a.eval x) := fun hx => ev_rel hfr hx
  have pure1 : ∀ {x : Operand}, M.lift (ev fr x) m = some (v, m') → Does P N ρ m m' w v (pure (.value (a.eval x))) := by
    intro x hx
    obtain ⟨ho, rfl⟩ := lift_some hx
    exact Does.value rfl (.same hr rfl (hev ho))
  unfold opX at h
  unfold execOp
  cases hop : o.op with
  | move x => simp only [hop] at h ⊢; exact pure1 h
  | assign x => simp only [hop] at h ⊢; exact pure1 h
  | pick c x y =>
    simp only [hop] at h ⊢
    cases hc : ev fr c with
    | none => simp only [hc] at h; exact (fail_some h).elim
    | some u =>
      have hcv := hev hc
      cases u with
      | bool b =>
        have hcb := hcv.bool
        cases b with
        | true =>
          simp only [hc] at h
          refine Does.then ?_ (pure1 h)
          simp [hcb, asBool]
        | false =>
          simp only [hc] at h
          refine Does.then ?_ (pure1 h)
          simp [hcb, asBool]
      | _ => simp only [hc] at h; exact (fail_some h).elim
  | alloc e =>
    simp only [hop] at h ⊢
    cases hz : zeroT P e with
    | none => simp only [hz] at h; exact (fail_some h).elim
    | some z =>
      simp only [hz] at h
      obtain ⟨b, m1, h1, h2⟩ := bind_some h
      obtain ⟨rfl, rfl⟩ := ret_some h2
      obtain ⟨hz1, hz2⟩ := zeroT_run (w := w) hz
      obtain ⟨ρ', ha⟩ := box_does (e := e) (.plain hz2) h1 hr hf
      refine Does.of (s := Instr.alloc e true (.tuple #[])) ?_ ha
      unfold Instr.alloc
      simp only [Sem.run_bind, hz1, Result.andThen_ok, newVar_run, Sem.run_pure]
  | box e x =>
    simp only [hop] at h ⊢
    cases hx : ev fr x with
    | none => simp only [hx] at h; exact (fail_some h).elim
    | some u =>
      simp only [hx] at h
      obtain ⟨b, m1, h1, h2⟩ := bind_some h
      obtain ⟨rfl, rfl⟩ := ret_some h2
      obtain ⟨ρ', ha⟩ := box_does (e := e) (hev hx) h1 hr hf
      refine Does.of (s := Instr.box e (a.eval x)) ?_ ha
      unfold Instr.box
      simp only [Sem.run_bind, newVar_run, Result.andThen_ok, Sem.run_pure]
  | build t ps =>
    simp only [hop] at h ⊢
    cases hp : parts fr ps.toList with
    | none => simp only [hp] at h; exact (fail_some h).elim
    | some vs =>
      simp only [hp] at h
      obtain ⟨ho, rfl⟩ := lift_some h
      obtain ⟨h1, h2⟩ := parts_rel hfr hp
      have e : (ps.map fun (i, x) => (i, a.eval x)).toList = ps.toList.map fun p => (p.1, a.eval p.2) := by rw [Array.toList_map]
      rw [← e] at h1 h2
      obtain ⟨v', e1, e2⟩ := build_does (P := P) (w := w) h1 h2 ho
      exact Does.of e1 (.same hr rfl e2)
  | buildSlice t len ps =>
    simp only [hop] at h ⊢
    cases hp : parts fr ps.toList with
    | none => simp only [hp] at h; exact (fail_some h).elim
    | some vs =>
      simp only [hp] at h
      obtain ⟨h1, h2⟩ := parts_rel hfr hp
      have e : (ps.map fun (i, x) => (i, a.eval x)).toList = ps.toList.map fun p => (p.1, a.eval p.2) := by rw [Array.toList_map]
      rw [← e] at h1 h2
      obtain ⟨v', w', ρ', e1, e2⟩ := buildSlice_does (P := P) (w := w) h1 h2 h hr hf
      exact Does.of e1 e2
  | load t x =>
    simp only [hop] at h ⊢
    cases hx : ev fr x with
    | none => simp only [hx] at h; exact (fail_some h).elim
    | some u =>
      simp only [hx] at h
      obtain ⟨v', e1, e2, e3⟩ := load_does (P := P) (w := w) (hev hx) h hr
      exact Does.of e1 (.same hr e3 e2)
  | store t x y =>
    simp only [hop] at h ⊢
    cases hx : ev fr x with
    | none => simp only [hx] at h; exact (fail_some h).elim
    | some u =>
      cases hy : ev fr y with
      | none => simp only [hx, hy] at h; exact (fail_some h).elim
      | some u2 =>
        simp only [hx, hy] at h
        obtain ⟨w', e1, rfl, e2, e3⟩ := store_does (P := P) (w := w) (hev hx) (hev hy) h hr
        refine Does.skip (w' := w') (ρ' := ρ) ?_ ⟨.refl ρ, fun b h h' => absurd h h', e2, .undef, e3, fun b p h h' => absurd (h.symm.trans h') (by simp)⟩
        simp only [Sem.run_bind, e1, Result.andThen_ok, Sem.run_pure]
  | nilCheck x =>
    simp only [hop] at h ⊢
    cases hx : ev fr x with
    | none => simp only [hx] at h; exact (fail_some h).elim
    | some u =>
      have hv := hev hx
      cases u with
      | pointer q =>
        cases q with
        | none => simp only [hx] at h; exact (fail_some h).elim
        | some q =>
          simp only [hx] at h
          obtain ⟨rfl, rfl⟩ := ret_some h
          obtain ⟨p, hp, hs, he⟩ := hv
          refine Does.value (v' := a.eval x) (w' := w) (ρ' := ρ) ?_ (.same hr rfl ⟨p, hp, hs, he⟩)
          rw [he]; rfl
      | func f b c =>
        obtain ⟨b⟩ := b
        obtain ⟨c⟩ := c
        cases f with
        | func f =>
          simp only [hx] at h
          obtain ⟨rfl, rfl⟩ := ret_some h
          obtain ⟨b', c', he, h1, h2⟩ := hv
          refine Does.value (v' := a.eval x) (w' := w) (ρ' := ρ) ?_ (.same hr rfl ⟨b', c', he, h1, h2⟩)
          rw [he]; rfl
        | _ => simp only [hx] at h; exact (fail_some h).elim
      | _ => simp only [hx] at h; exact (fail_some h).elim
  | binOp op t x y yt =>
    simp only [hop] at h ⊢
    cases hx : ev fr x with
    | none => simp only [hx] at h; exact (fail_some h).elim
    | some u =>
      cases hy : ev fr y with
      | none => simp only [hx, hy] at h; exact (fail_some h).elim
      | some u2 =>
        simp only [hx, hy] at h
        obtain ⟨ho, rfl⟩ := lift_some h
        obtain ⟨v', w', e1, e2, e3⟩ := bin_does (P := P) (w := w) (hev hx) (hev hy) ho
        exact Does.of e1 (.either hr rfl e2 e3)
  | unOp op t x =>
    simp only [hop] at h ⊢
    cases hx : ev fr x with
    | none => simp only [hx] at h; exact (fail_some h).elim
    | some u =>
      simp only [hx] at h
      obtain ⟨ho, rfl⟩ := lift_some h
      obtain ⟨v', e1, e2⟩ := un_does (P := P) (w := w) (hev hx) ho
      exact Does.of e1 (.same hr rfl e2)
  | convert s d x =>
    simp only [hop] at h ⊢
    cases hx : ev fr x with
    | none => simp only [hx] at h; exact (fail_some h).elim
    | some u =>
      simp only [hx] at h
      obtain ⟨ho, rfl⟩ := lift_some h
      obtain ⟨v', e1, e2⟩ := conv_does (P := P) (w := w) (hev hx) ho
      exact Does.of e1 (.same hr rfl e2)
  | makeFunc f first cap =>
    simp only [hop] at h ⊢
    cases f with
    | func f =>
      cases h1 : evs fr first.toList with
      | none => simp only [h1] at h; exact (fail_some h).elim
      | some as =>
        cases h2 : evs fr cap.toList with
        | none => simp only [h1, h2] at h; exact (fail_some h).elim
        | some bs =>
          simp only [h1, h2] at h
          obtain ⟨rfl, rfl⟩ := ret_some h
          have r1 := evs_rel hfr h1
          have r2 := evs_rel hfr h2
          refine Does.of (s := Instr.makeFunc (.func f) (first.map a.eval) (cap.map a.eval)) (v' := .func (.func f) (first.map a.eval) (cap.map a.eval)) rfl (.same hr rfl ⟨first.toList.map a.eval, cap.toList.map a.eval, ?_, r1, r2⟩)
          congr 1
          · apply Array.ext'; simp
          · apply Array.ext'; simp
    | _ => simp only at h; exact (fail_some h).elim
  | makeSlice t l c =>
    simp only [hop] at h ⊢
    cases hx : ev fr l with
    | none => simp only [hx] at h; exact (fail_some h).elim
    | some u =>
      cases hy : ev fr c with
      | none => simp only [hx, hy] at h; exact (fail_some h).elim
      | some u2 =>
        simp only [hx, hy] at h
        obtain ⟨v', w', ρ', e1, e2⟩ := makeSlice_does (P := P) (w := w) (hev hx) (hev hy) h hr hf
        exact Does.of e1 e2
  | slice t x lo hi mx =>
    simp only [hop] at h ⊢
    cases hx : ev fr x with
    | none => simp only [hx] at h; exact (fail_some h).elim
    | some u =>
      cases h1 : evO fr lo with
      | none => simp only [hx, h1] at h; exact (fail_some h).elim
      | some u1 =>
        cases h2 : evO fr hi with
        | none => simp only [hx, h1, h2] at h; exact (fail_some h).elim
        | some u2 =>
          cases h3 : evO fr mx with
          | none => simp only [hx, h1, h2, h3] at h; exact (fail_some h).elim
          | some u3 =>
            simp only [hx, h1, h2, h3] at h
            obtain ⟨v', ρ', e1, e2⟩ := slice_does (P := P) (w := w) (hev hx) (evO_rel hfr h1) (evO_rel hfr h2) (evO_rel hfr h3) h hr hf
            exact Does.of e1 e2
  | fieldAddr s x f =>
    simp only [hop] at h ⊢
    cases hx : ev fr x with
    | none => simp only [hx] at h; exact (fail_some h).elim
    | some u =>
      simp only [hx] at h
      obtain ⟨ho, rfl⟩ := lift_some h
      obtain ⟨v', e1, e2⟩ := fieldAddr_does (P := P) (w := w) (hev hx) ho
      exact Does.of e1 (.same hr rfl e2)
  | indexAddr t x i =>
    simp only [hop] at h ⊢
    cases hx : ev fr x with
    | none => simp only [hx] at h; exact (fail_some h).elim
    | some u =>
      cases hy : ev fr i with
      | none => simp only [hx, hy] at h; exact (fail_some h).elim
      | some u2 =>
        simp only [hx, hy] at h
        obtain ⟨ho, rfl⟩ := lift_some h
        obtain ⟨v', e1, e2⟩ := indexAddr_does (P := P) (w := w) (hev hx) (hev hy) ho
        exact Does.of e1 (.same hr rfl e2)
  | field t x f =>
    simp only [hop] at h ⊢
    cases hx : ev fr x with
    | none => simp only [hx] at h; exact (fail_some h).elim
    | some u =>
      simp only [hx] at h
      obtain ⟨ho, rfl⟩ := lift_some h
      obtain ⟨v', e1, e2⟩ := fieldV_does (P := P) (w := w) (hev hx) ho
      exact Does.of e1 (.same hr rfl e2)
  | index t x i =>
    simp only [hop] at h ⊢
    cases hx : ev fr x with
    | none => simp only [hx] at h; exact (fail_some h).elim
    | some u =>
      cases hy : ev fr i with
      | none => simp only [hx, hy] at h; exact (fail_some h).elim
      | some u2 =>
        simp only [hx, hy] at h
        obtain ⟨ho, rfl⟩ := lift_some h
        obtain ⟨v', e1, e2⟩ := indexV_does (P := P) (w := w) (hev hx) (hev hy) ho
        exact Does.of e1 (.same hr rfl e2)
  | extract x i =>
    simp only [hop] at h ⊢
    cases hx : ev fr x with
    | none => simp only [hx] at h; exact (fail_some h).elim
    | some u =>
      simp only [hx] at h
      obtain ⟨ho, rfl⟩ := lift_some h
      obtain ⟨v', e1, e2⟩ := extract_does (P := P) (w := w) (hev hx) ho
      exact Does.of e1 (.same hr rfl e2)
  | makeInterface t x =>
    simp only [hop] at h ⊢
    cases hx : ev fr x with
    | none => simp only [hx] at h; exact (fail_some h).elim
    | some u =>
      simp only [hx] at h
      obtain ⟨ho, rfl⟩ := lift_some h
      obtain ⟨v', e1, e2⟩ := iface_does (P := P) (w := w) (hev hx) ho
      exact Does.of e1 (.same hr rfl e2)
  | typeAssert x xt t ok =>
    simp only [hop] at h ⊢
    cases hx : ev fr x with
    | none => simp only [hx] at h; exact (fail_some h).elim
    | some u =>
      simp only [hx] at h
      obtain ⟨ho, rfl⟩ := lift_some h
      obtain ⟨v', e1, e2⟩ := assert_does (P := P) (w := w) (xt := xt) (hev hx) ho
      exact Does.of e1 (.same hr rfl e2)
  | call c => simp only [hop] at h ⊢; exact call_does hcall hfr h hr hf
  | _ => simp only [hop] at h; exact (fail_some h).elim

/-! ### Operations in a region -/
theorem want_eq {fr : Fr} {a : Act} (h : FrR ρ fr a) (ops : Array Oper) (o : Oper) : Region.wanted o (yielded ops a.tmps) = wantX ops fr o := by
  unfold Region.wanted wantX
  cases hg : o.guard with
  | none => rfl
  | some q =>
    obtain ⟨j, b⟩ := q
    simp only
    congr 1
    unfold yielded yieldX
    rw [Array.getElem?_toList]
    cases ho : ops[j]? with
    | none => rfl
    | some p =>
      simp only [Option.bind_some]
      cases hd : p.dst with
      | none => rfl
      | some d =>
        simp only [Option.bind_some]
        have hv := h.tmps d
        by_cases hlt : d < a.tmps.size
        case neg =>
          have hget : a.tmps[d]? = none := Array.getElem?_eq_none (Nat.le_of_not_lt ‹_›)
          have hu : a.tmps.getD d undef = undef := by simp [Array.getD_eq_getD_getElem?, hget]
          rw [hget]
          rw [hu] at hv
          generalize fr.at d = u0 at hv
          cases u0 with
          | bool b => have := hv.bool; cases this
          | _ => rfl
        have hget : a.tmps[d]? = some (a.tmps.getD d undef) := by simp [hlt]
        rw [hget]
        generalize a.tmps.getD d undef = u at hv
        generalize fr.at d = u0 at hv
        cases u0 with
        | bool b => rw [hv.bool]
        | int k n => rw [hv.int]
        | float k n => obtain ⟨_, rfl, _⟩ := hv; rfl
        | complex k n n2 => obtain ⟨_, _, rfl, _⟩ := hv; rfl
        | string s => rw [hv.str]
        | pointer q => cases q with
          | none => obtain rfl := hv; rfl
          | some q => obtain ⟨_, _, _, rfl⟩ := hv; rfl
        | slice q n c => cases q with
          | none => obtain rfl := hv; rfl
          | some q => rcases hv with ⟨_, _, _, _, rfl, _⟩ | ⟨_, _, _, _, rfl⟩ <;> rfl
        | func f x y => obtain ⟨x⟩ := x; obtain ⟨y⟩ := y; obtain ⟨_, _, rfl, _⟩ := hv; rfl
        | nilFunc => obtain rfl := hv; rfl
        | nilIface => obtain rfl := hv; rfl
        | agg x => obtain ⟨x⟩ := x; obtain ⟨_, rfl, _⟩ := hv; rfl
        | tuple x => obtain ⟨x⟩ := x; obtain ⟨_, rfl, _⟩ := hv; rfl
        | map _ => exact hv.elim
        | chan _ => exact hv.elim
        | iface _ _ => obtain ⟨_, rfl, _⟩ := hv; rfl


/-- A frame and a memory behind some operations. -/
structure AfterF (N : Nat) (ρ : Env) (m m' : Mem) (w : World) (fr : Fr) (a : Act) (w' : World) (ρ' : Env) : Prop where
  ext : Ext ρ ρ'
  dom : ∀ b, ρ b = none → ρ' b ≠ none → m.next ≤ b ∧ b < m'.next
  rel : Rel N ρ' m'.t.get w'
  frame : FrR ρ' fr a
  below : Keeps N w w'
  marks : ∀ b p, ρ b = none → ρ' b = some p → p.fin < p.off → w.heap.size ≤ p.blk

theorem AfterF.refl {fr : Fr} {a : Act} (hr : Rel N ρ m.t.get w) (hf : FrR ρ fr a) : AfterF N ρ m m w fr a w ρ := ⟨.refl ρ, fun _ h h' => absurd h h', hr, hf, .refl N w, fun b p h h' => absurd (h.symm.trans h') (by simp)⟩

/-- One operation of a region, skipped or done. -/
theorem step_does {r : Option Nat} {call : Caller} (hcall : CallOK P call) {ops : Array Oper} {fr fr' : Fr} {a : Act} (hfr : FrR ρ fr a) {o : Oper} (h : stepX P call ops fr o m = some (fr', m')) (hr : Rel N ρ m.t.get w) (hf : Fresh ρ m m')
    {K : Act → World → Prop} {Q : Exit → Act → World → Prop} (hK : ∀ a' w' ρ', AfterF N ρ m m' w fr' a' w' ρ' → K a' w') :
    if Region.wanted o (yielded ops a.tmps) then o.wpIn (wideR r) 0 P a w K Q else (∀ f, o.about P w a.eval = some f → (wideR r).fn f) ∧ K (a.put o.dst undef) w := by
  unfold stepX at h
  rw [want_eq hfr]
  cases hw : wantX ops fr o with
  | true =>
    simp only [hw, cond_true] at h
    obtain ⟨v, m1, h1, h2⟩ := bind_some h
    rw [if_pos rfl]
    have hm : m1 = m' := by
      unfold Fr.put at h2
      rw [putK_eq] at h2
      cases hd : o.dst with
      | none => rw [hd] at h2; simp at h2; exact h2.2
      | some d =>
        rw [hd] at h2
        simp only at h2
        split at h2
        · simp at h2; exact h2.2
        · cases h2
    subst hm
    have hnd : ∀ c, o.op ≠ .defer c := fun c hc => by
      unfold opX at h1
      simp only [hc] at h1
      exact fail_some h1
    refine ⟨fun _ _ => trivial, ?_⟩
    rw [Oper.semAt_eq _ _ _ hnd]
    refine op_does hcall hfr h1 hr hf r o a K Q fun v' w' ρ' ha => ?_
    exact hK _ _ ρ' ⟨ha.ext, ha.dom, ha.rel, ((hfr.mono ha.ext).put ha.val h2).1, ha.below, ha.marks⟩
  | false =>
    simp only [hw, cond_false] at h
    rw [if_neg (by simp)]
    obtain ⟨h1, rfl⟩ := hfr.put (.undef) h
    exact ⟨fun _ _ => trivial, hK _ _ ρ (.refl hr h1)⟩

theorem next_mono {α : Type} {f : M α} (hl : Local f) {a : α} (h : f m = some (a, m')) : m.next ≤ m'.next := by
  obtain ⟨nl, _, h1, _⟩ := hl m a m' h
  exact h1

theorem AfterF.trans {m1 : Mem} {w1 w2 : World} {ρ1 ρ2 : Env} {fr1 fr2 : Fr} {a1 a2 : Act} (h1 : AfterF N ρ m m1 w fr1 a1 w1 ρ1) (h2 : AfterF N ρ1 m1 m' w1 fr2 a2 w2 ρ2) (hn : m.next ≤ m1.next) (hn' : m1.next ≤ m'.next) : AfterF N ρ m m' w fr2 a2 w2 ρ2 :=
  ⟨h1.ext.trans h2.ext, fun b hb hb' => by
    by_cases hc : ρ1 b = none
    · have := h2.dom b hc hb'; omega
    · have := h1.dom b hb hc; omega, h2.rel, h2.frame, h1.below.trans h2.below, fun b p hb hp hm => by
    cases hc : ρ1 b with
    | none => exact Nat.le_trans h1.below.size (h2.marks b p hc hp hm)
    | some q =>
      have := h2.ext b q hc
      rw [hp] at this
      obtain rfl := Option.some.inj this
      exact h1.marks b p hb hc hm⟩

theorem Fresh.left {m1 : Mem} (h : Fresh ρ m m') (hn : m1.next ≤ m'.next) : Fresh ρ m m1 := fun b h1 h2 => h b h1 (by omega)
theorem AfterF.fresh {m1 : Mem} {w1 : World} {ρ1 : Env} {fr1 : Fr} {a1 : Act} (h1 : AfterF N ρ m m1 w fr1 a1 w1 ρ1) (h : Fresh ρ m m') (hn : m.next ≤ m1.next) : Fresh ρ1 m1 m' := fun b hb hb' => by
  by_cases hc : ρ1 b = none
  · exact hc
  · have h0 := h b (by omega) hb'
    have := h1.dom b h0 hc
    omega

/-- A defer statement puts its call off. -/
theorem defer_rel {fr : Fr} {a : Act} (hfr : FrR ρ fr a) {c : Call} {ty : TypeId} {d : FuncId × List Value} (h : deferX fr c = some d) : ∃ d', (resolve a.eval c ty).run P w = .ok d' w ∧ DR ρ d d' := by
  unfold deferX at h
  cases hc : c.callee with
  | invoke _ _ => simp only [hc] at h; cases h
  | builtin _ => simp only [hc] at h; cases h
  | value g =>
    simp only [hc] at h
    cases hg : ev fr g with
    | none => simp only [hg] at h; cases h
    | some u =>
      cases hvs : evs fr c.args.toList with
      | none => simp only [hg, hvs] at h; cases h
      | some vs =>
        simp only [hg, hvs] at h
        cases hfun : funX u with
        | none => simp only [hfun] at h; cases h
        | some q =>
          obtain ⟨f, first, cap⟩ := q
          simp only [hfun, Option.some.injEq] at h
          subst h
          obtain rfl := funX_some hfun
          obtain ⟨first', cap', he, h1, h2⟩ := (ev_rel hfr hg).fun'
          refine ⟨{ target := .fn (.func f) ⟨cap'⟩, args := ⟨first' ++ c.args.toList.map a.eval⟩ }, ?_, .inl ⟨_, cap', rfl, (h1.append (evs_rel hfr hvs)).append h2⟩⟩
          simp only [resolve, hc, he, Deferred.ofValue]
          show Result.ok _ w = _
          congr 2
          apply Array.ext'
          simp

theorem stepD_does {r : Option Nat} {call : Caller} (hcall : CallOK P call) {ops : Array Oper} {fr fr' : Fr} {a : Act} (hfr : FrR ρ fr a) {o : Oper} (hro : r = none ∨ ∀ c, o.op ≠ .defer c) (h : stepDX P call ops fr o m = some (fr', m')) (hr : Rel N ρ m.t.get w) (hf : Fresh ρ m m')
    {K : Act → World → Prop} {Q : Exit → Act → World → Prop} (hK : ∀ a' w' ρ', AfterF N ρ m m' w fr' a' w' ρ' → K a' w') :
    if Region.wanted o (yielded ops a.tmps) then o.wpIn (wideR r) 0 P a w K Q else (∀ f, o.about P w a.eval = some f → (wideR r).fn f) ∧ K (a.put o.dst undef) w := by
  by_cases hdef : ∃ c, o.op = .defer c
  case neg =>
    have hs : stepDX P call ops fr o = stepX P call ops fr o := by
      unfold stepDX
      split
      · rename_i c hop; exact absurd ⟨c, hop⟩ hdef
      · rfl
    rw [hs] at h
    exact step_does hcall hfr h hr hf hK
  case pos =>
    obtain ⟨c, hop⟩ := hdef
    obtain rfl : r = none := hro.resolve_right fun hh => hh c hop
    unfold stepDX at h
    simp only [hop] at h
    rw [want_eq hfr]
    cases hw : wantX ops fr o with
    | true =>
      simp only [hw, cond_true] at h
      rw [if_pos rfl]
      cases hd : deferX fr c with
      | none => simp only [hd] at h; exact (fail_some h).elim
      | some d =>
        simp only [hd] at h
        obtain ⟨d', h1, h2⟩ := defer_rel (P := P) (w := w) (ty := o.type) hfr hd
        have hfr2 : FrR ρ { fr with d := d :: fr.d } { a with defers := d' :: a.defers } := ⟨hfr.size, hfr.tmps, d', a.defers, rfl, h2, hfr.defers⟩
        obtain ⟨h3, rfl⟩ := hfr2.put .undef h
        have hrun : (execOp a.eval o).run P w = .ok (.defer d') w := by
          unfold execOp
          simp only [hop, Sem.run_bind, h1, Result.andThen_ok, Sem.run_pure]
        refine ⟨fun _ _ => trivial, ?_⟩
        show o.uponIn _ 0 P a K Q ((execOp a.eval o).run P w)
        rw [hrun]
        exact hK _ w ρ (.refl hr h3)
    | false =>
      simp only [hw, cond_false] at h
      rw [if_neg (by simp)]
      obtain ⟨h1, rfl⟩ := hfr.put (.undef) h
      exact ⟨fun _ _ => trivial, hK _ _ ρ (.refl hr h1)⟩

/-- Operations in the text's order. -/
theorem steps_does {r : Option Nat} {call : Caller} (hcall : CallOK P call) (hloc : LocalC call) {ops : Array Oper} {Q : Exit → Act → World → Prop} : ∀ (l : List Oper) (_ : r = none ∨ ∀ o ∈ l, ∀ c, o.op ≠ .defer c) (idx : List Nat) (fr fr' : Fr) (a : Act) (m m' : Mem) (w : World) (ρ : Env), idx.map (fun i => ops[i]?) = l.map some →
    stepsX P call ops l fr m = some (fr', m') → FrR ρ fr a → Rel N ρ m.t.get w → Fresh ρ m m' → (∀ a' w' ρ', AfterF N ρ m m' w fr' a' w' ρ' → Q .normal a' w') → wpOpsIn (wideR r) 0 P ops Q idx a w
  | [], _, idx, fr, fr', a, m, m', w, ρ, hi, h, hfr, hr, hf, hQ => by
    have : idx = [] := by simpa using hi
    subst this
    obtain ⟨rfl, rfl⟩ := ret_some h
    exact hQ a w ρ (.refl hr hfr)
  | o :: l, hro, idx, fr, fr', a, m, m', w, ρ, hi, h, hfr, hr, hf, hQ => by
    cases idx with
    | nil => simp at hi
    | cons i idx =>
      simp only [List.map_cons, List.cons.injEq] at hi
      obtain ⟨ho, hi⟩ := hi
      obtain ⟨fr1, m1, h1, h2⟩ := bind_some h
      have n1 := next_mono (Local.stepDX hloc ops fr o) h1
      have n2 := next_mono (Local.stepsX hloc ops l fr1) h2
      rw [wpOpsIn_cons]
      unfold wpOpIn
      simp only [ho]
      exact stepD_does hcall hfr (hro.imp id fun hh => hh o (by simp)) h1 hr (hf.left n2) fun a' w' ρ' ha =>
        steps_does hcall hloc l (hro.imp id fun hh p hp => hh p (by simp [hp])) idx fr1 fr' a' m1 m' w' ρ' hi h2 ha.frame ha.rel (ha.fresh hf n1) fun a2 w2 ρ2 h2 => hQ a2 w2 ρ2 (ha.trans h2 n1 n2)

theorem region_text {r : Option Nat} {call : Caller} (hcall : CallOK P call) (hloc : LocalC call) {ops : Array Oper} (hro : r = none ∨ ∀ o ∈ ops.toList, ∀ c, o.op ≠ .defer c) {Q : Exit → Act → World → Prop} {id : Nat} {fr fr' : Fr} {a : Act} (h : stepsX P call ops ops.toList fr m = some (fr', m')) (hfr : FrR ρ fr a) (hr : Rel N ρ m.t.get w) (hf : Fresh ρ m m')
    (hQ : ∀ a' w' ρ', AfterF N ρ m m' w fr' a' w' ρ' → Q .normal a' w') : (Code.region id ops false).wpIn (wideR r) 0 P Q a w := by
  refine wpIn_region (steps_does hcall hloc ops.toList hro _ fr fr' a m m' w ρ ?_ h hfr hr hf hQ)
  apply List.ext_getElem?
  intro i
  simp only [List.getElem?_map]
  by_cases hi : i < ops.size
  · rw [List.getElem?_range hi]; simp [hi]
  · rw [List.getElem?_eq_none (by simpa using hi), List.getElem?_eq_none (by simpa using hi)]; rfl

end Go.Clean
