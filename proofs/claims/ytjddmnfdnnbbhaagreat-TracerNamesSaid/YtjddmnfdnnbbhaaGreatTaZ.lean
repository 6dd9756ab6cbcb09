/- The clean executor, by triples: code whose loops range over functions of the program, and calls by contract. -/
import Derived.Test.YtjddmnfdnnbbhaaGreatKXZ
import Derived.Test.YtjddmnfdnnbbhaaGreatKOZ
set_option linter.unusedSimpArgs false
set_option linter.unusedVariables false
set_option linter.unusedVariables false
set_option linter.unusedSimpArgs false
namespace Go.Clean
open Go Go.RowKit
variable {σ τ : Type}

/-- Where it all began. -/
structure Base where
  N : Nat
  ρ : Env
  m : Mem
  w : World
structure Base.OK (b : Base) : Prop where
  base : b.N ≤ b.w.heap.size
  free : ∀ k, b.m.next ≤ k → b.ρ k = none
/-- A piece's start; 'ρe': what has lain since; 'L': what is known of the loops that are open, below 'top'. -/
structure Start (P : Program) (σ : Type) where
  bs : Base
  ρe : Env
  top : Nat
  L : σ → World → Prop
variable {P : Program}
structure Start.OK (B : Start P σ) : Prop where
  bs : B.bs.OK
  keep : ∀ s W W', B.L s W → (∀ k r, k < B.top → W.heap[k]? = some (.loop r) → W'.heap[k]? = some (.loop r)) → B.L s W'
structure Start.At (B : Start P σ) (s : σ) (fr : Fr) (m : Mem) (a : Act) (w : World) (ρ : Env) : Prop where
  af : AfterF B.bs.N B.bs.ρ B.bs.m m B.bs.w fr a w ρ
  nx : B.bs.m.next ≤ m.next
  ext : Ext B.ρe ρ
  lp : B.L s w
  tp : B.top ≤ w.heap.size
/-- From there, the code leaves this. -/
def TS (B : Start P σ) (r : Option Nat) (c : Code) (s : σ) (fr : Fr) (m : Mem) (Q : Ex → σ → Fr → Mem → Prop) : Prop :=
  ∀ (a : Act) (w : World) (ρ : Env) (K : Exit → Act → World → Prop), B.At s fr m a w ρ →
    (∀ e s' fr' m' a' w' ρ', Q e s' fr' m' → B.At s' fr' m' a' w' ρ' → K (exitOf e) a' w') → c.wpIn (wideR r) 0 P K a w
/-- Operations in the text's order. -/
def TO (B : Start P σ) (r : Option Nat) (ops : Array Oper) (l : List Oper) (s : σ) (fr : Fr) (m : Mem) (Q : σ → Fr → Mem → Prop) : Prop :=
  ∀ (idx : List Nat) (a : Act) (w : World) (ρ : Env) (K : Exit → Act → World → Prop), idx.map (fun i => ops[i]?) = l.map some → B.At s fr m a w ρ →
    (∀ s' fr' m' a' w' ρ', Q s' fr' m' → B.At s' fr' m' a' w' ρ' → K .normal a' w') → wpOpsIn (wideR r) 0 P ops K idx a w

/-- What the executor needs to be right. -/
structure Exec (P : Program) (call : Caller) : Prop where
  ok : CallOK P call
  loc : LocalC call
  mix : P.follows .mixedOrders = true
  back : BackOK P
  noc : noCount P = true

section
variable {B : Start P σ} {r : Option Nat} {s : σ} {fr : Fr} {m : Mem} {call : Caller}
theorem Start.At.then (hB : B.OK) {a : Act} {w : World} {ρ : Env} (h : B.At s fr m a w ρ) {m' : Mem} {fr' : Fr} {a' : Act} {w' : World} {ρ' : Env} (ha : AfterF B.bs.N ρ m m' w fr' a' w' ρ') (hn : m.next ≤ m'.next) : B.At s fr' m' a' w' ρ' :=
  ⟨h.af.trans ha h.nx hn, Nat.le_trans h.nx hn, h.ext.trans ha.ext, hB.keep _ _ _ h.lp fun k r _ hk => ha.below.others.same k _ hk rfl, Nat.le_trans h.tp ha.below.size⟩
theorem TS.mono {c : Code} {Q R : Ex → σ → Fr → Mem → Prop} (h : TS B r c s fr m Q) (k : ∀ e s' fr' m', Q e s' fr' m' → R e s' fr' m') : TS B r c s fr m R := fun a w ρ K hat hK => h a w ρ K hat fun e s' fr' m' a' w' ρ' hq hat' => hK e s' fr' m' a' w' ρ' (k _ _ _ _ hq) hat'
theorem TS.gives (hE : Exec P call) (hB : B.OK) {c : Code} {Q : Ex → σ → Fr → Mem → Prop} (hr : r = .none ∨ noDefer c = true) (h : Gives (codeX P call c fr) m fun q m' => Q q.1 s q.2 m') : TS B r c s fr m Q := by
  intro a w ρ K hat hK
  obtain ⟨⟨e, fr'⟩, m', h1, hq⟩ := h
  have nle := next_mono (Local.codeX hE.loc c fr) h1
  have hf : Fresh B.bs.ρ B.bs.m m' := fun b h _ => hB.bs.free b h
  exact code_does hE.ok hE.loc hE.mix hE.back c r fr fr' e a m m' w ρ K hr h1 hat.af.frame hat.af.rel (hat.af.fresh hf hat.nx) fun a' w' ρ' ha =>
    hK e s fr' m' a' w' ρ' hq (hat.then hB ha nle)
def seqT (B : Start P σ) (r : Option Nat) (c : Code) (Q : Ex → σ → Fr → Mem → Prop) (e : Ex) (s : σ) (fr : Fr) (m : Mem) : Prop := match e with
  | .normal => TS B r c s fr m Q
  | e => Q e s fr m
@[simp] theorem seqT_normal (c : Code) (Q : Ex → σ → Fr → Mem → Prop) : seqT B r c Q .normal s fr m = TS B r c s fr m Q := rfl
@[simp] theorem seqT_exit (c : Code) (Q : Ex → σ → Fr → Mem → Prop) (i : Nat) : seqT B r c Q (.exit i) s fr m = Q (.exit i) s fr m := rfl
@[simp] theorem seqT_ret (c : Code) (Q : Ex → σ → Fr → Mem → Prop) : seqT B r c Q .ret s fr m = Q .ret s fr m := rfl
theorem TS.seq {c d : Code} {Q : Ex → σ → Fr → Mem → Prop} (h : TS B r c s fr m (seqT B r d Q)) : TS B r (.seq c d) s fr m Q := by
  intro a w ρ K hat hK
  refine wpIn_seq (h a w ρ _ hat fun e s' fr' m' a' w' ρ' hq hat' => ?_)
  cases e with
  | normal => exact hq a' w' ρ' K hat' hK
  | exit i => exact hK (.exit i) s' fr' m' a' w' ρ' hq hat'
  | ret => exact hK .ret s' fr' m' a' w' ρ' hq hat'
def blockT (id : Nat) (Q : Ex → σ → Fr → Mem → Prop) (e : Ex) (s : σ) (fr : Fr) (m : Mem) : Prop := match e with
  | .exit i => if i = id then Q .normal s fr m else Q (.exit i) s fr m
  | e => Q e s fr m
@[simp] theorem blockT_normal (id : Nat) (Q : Ex → σ → Fr → Mem → Prop) : blockT id Q .normal s fr m = Q .normal s fr m := rfl
@[simp] theorem blockT_exit (id i : Nat) (Q : Ex → σ → Fr → Mem → Prop) : blockT id Q (.exit i) s fr m = if i = id then Q .normal s fr m else Q (.exit i) s fr m := rfl
@[simp] theorem blockT_ret (id : Nat) (Q : Ex → σ → Fr → Mem → Prop) : blockT id Q .ret s fr m = Q .ret s fr m := rfl
theorem TS.block {id : Nat} {c : Code} {Q : Ex → σ → Fr → Mem → Prop} (h : TS B r c s fr m (blockT id Q)) : TS B r (.block id c) s fr m Q := by
  intro a w ρ K hat hK
  refine wpIn_block (h a w ρ _ hat fun e s' fr' m' a' w' ρ' hq hat' => ?_)
  cases e with
  | normal => exact hK .normal s' fr' m' a' w' ρ' hq hat'
  | exit i =>
    rw [blockT_exit] at hq
    by_cases hi : i = id
    · rw [if_pos hi] at hq
      simp only [exitOf, Exit.inBlock, hi, if_true]
      exact hK .normal s' fr' m' a' w' ρ' hq hat'
    · rw [if_neg hi] at hq
      simp only [exitOf, Exit.inBlock, hi, if_false]
      exact hK (.exit i) s' fr' m' a' w' ρ' hq hat'
  | ret => exact hK .ret s' fr' m' a' w' ρ' hq hat'
theorem TS.cond {x : Operand} {b : Bool} {c d : Code} {Q : Ex → σ → Fr → Mem → Prop} (hx : ev fr x = some (.bool b)) (h : TS B r (if b then c else d) s fr m Q) : TS B r (.cond x c d) s fr m Q := by
  intro a w ρ K hat hK
  have hv := (ev_rel hat.af.frame hx).bool
  cases b with
  | true => exact wpIn_cond_true hv (h a w ρ K hat hK)
  | false => exact wpIn_cond_false hv (h a w ρ K hat hK)
theorem TS.skip {Q : Ex → σ → Fr → Mem → Prop} (h : Q .normal s fr m) : TS B r .skip s fr m Q := fun a w ρ K hat hK => wpIn_skip (hK .normal s fr m a w ρ h hat)
theorem TS.ret {Q : Ex → σ → Fr → Mem → Prop} (h : Q .ret s fr m) : TS B r .ret s fr m Q := fun a w ρ K hat hK => wpIn_ret (hK .ret s fr m a w ρ h hat)
theorem TS.exit {i : Nat} {Q : Ex → σ → Fr → Mem → Prop} (h : Q (.exit i) s fr m) : TS B r (.exit i) s fr m Q := fun a w ρ K hat hK => wpIn_exit (hK (.exit i) s fr m a w ρ h hat)
def loopT (I : Nat → σ → Fr → Mem → Prop) (k : Nat) (Q : Ex → σ → Fr → Mem → Prop) (e : Ex) (s : σ) (fr : Fr) (m : Mem) : Prop := match e with
  | .normal => ∃ j, j < k ∧ I j s fr m
  | e => Q e s fr m
@[simp] theorem loopT_normal (I : Nat → σ → Fr → Mem → Prop) (k : Nat) (Q : Ex → σ → Fr → Mem → Prop) : loopT I k Q .normal s fr m = ∃ j, j < k ∧ I j s fr m := rfl
@[simp] theorem loopT_exit (I : Nat → σ → Fr → Mem → Prop) (k i : Nat) (Q : Ex → σ → Fr → Mem → Prop) : loopT I k Q (.exit i) s fr m = Q (.exit i) s fr m := rfl
@[simp] theorem loopT_ret (I : Nat → σ → Fr → Mem → Prop) (k : Nat) (Q : Ex → σ → Fr → Mem → Prop) : loopT I k Q .ret s fr m = Q .ret s fr m := rfl
theorem TS.loop {c : Code} {Q : Ex → σ → Fr → Mem → Prop} (I : Nat → σ → Fr → Mem → Prop) (k : Nat) (h0 : I k s fr m) (hstep : ∀ k s fr m, I k s fr m → TS B r c s fr m (loopT I k Q)) : TS B r (.loop c) s fr m Q := by
  intro a w ρ K hat hK
  have key : ∀ (n k : Nat) (s : σ) (fr : Fr) (m : Mem) (a : Act) (w : World) (ρ : Env), k < n → I k s fr m → B.At s fr m a w ρ → Code.roundsIn (wideR r) 0 P c K n a w := by
    intro n
    induction n with
    | zero => intro k s fr m a w ρ h; omega
    | succ n ih =>
      intro k s fr m a w ρ hk hI hat
      rw [roundsIn_succ]
      refine hstep k s fr m hI a w ρ _ hat fun e s' fr' m' a' w' ρ' hq hat' => ?_
      cases e with
      | normal =>
        obtain ⟨j, hj, hI'⟩ := hq
        exact ih j s' fr' m' a' w' ρ' (by omega) hI' hat'
      | exit i => exact hK (.exit i) s' fr' m' a' w' ρ' hq hat'
      | ret => exact hK .ret s' fr' m' a' w' ρ' hq hat'
  exact wpIn_loop_rounds (k + 1) (key (k + 1) k s fr m a w ρ (Nat.lt_succ_self _) h0 hat)
theorem TS.region {id : Nat} {ops : Array Oper} {Q : Ex → σ → Fr → Mem → Prop} (h : TO B r ops ops.toList s fr m (Q .normal)) : TS B r (.region id ops false) s fr m Q := by
  intro a w ρ K hat hK
  refine wpIn_region (h _ a w ρ K ?_ hat fun s' fr' m' a' w' ρ' hq hat' => hK .normal s' fr' m' a' w' ρ' hq hat')
  apply List.ext_getElem?
  intro i
  simp only [List.getElem?_map]
  by_cases hi : i < ops.size
  · rw [List.getElem?_range hi]; simp [hi]
  · rw [List.getElem?_eq_none (by simpa using hi), List.getElem?_eq_none (by simpa using hi)]; rfl
theorem TO.nil {ops : Array Oper} {Q : σ → Fr → Mem → Prop} (h : Q s fr m) : TO B r ops [] s fr m Q := by
  intro idx a w ρ K hi hat hK
  have : idx = [] := by simpa using hi
  subst this
  exact hK s fr m a w ρ h hat
theorem TO.step (hE : Exec P call) (hB : B.OK) {ops : Array Oper} {o : Oper} {l : List Oper} {Q : σ → Fr → Mem → Prop} (hro : r = .none ∨ isDefer o = false) (h : Gives (stepDX P call ops fr o) m fun fr' m' => TO B r ops l s fr' m' Q) : TO B r ops (o :: l) s fr m Q := by
  intro idx a w ρ K hi hat hK
  cases idx with
  | nil => simp at hi
  | cons i idx =>
    simp only [List.map_cons, List.cons.injEq] at hi
    obtain ⟨ho, hi⟩ := hi
    obtain ⟨fr', m', h1, hq⟩ := h
    have nle := next_mono (Local.stepDX hE.loc ops fr o) h1
    have hf : Fresh B.bs.ρ B.bs.m m' := fun b h _ => hB.bs.free b h
    rw [wpOpsIn_cons]
    unfold wpOpIn
    simp only [ho]
    exact stepD_does hE.ok hat.af.frame (hro.imp id fun hh c hc => by unfold isDefer at hh; rw [hc] at hh; cases hh) h1 hat.af.rel (hat.af.fresh hf hat.nx) fun a' w' ρ' ha => hq idx a' w' ρ' K hi (hat.then hB ha nle) hK
/-- All that is left, by the executor. -/
theorem TO.gives (hE : Exec P call) (hB : B.OK) {ops : Array Oper} : ∀ {l : List Oper} {fr : Fr} {m : Mem} {Q : σ → Fr → Mem → Prop}, (r = .none ∨ (l.all fun o => !isDefer o) = true) → Gives (stepsX P call ops l fr) m (fun fr' m' => Q s fr' m') → TO B r ops l s fr m Q
  | [], fr, m, Q, _, h => TO.nil ((steps_nil _ _ _ _).1 h)
  | o :: l, fr, m, Q, hro, h => TO.step hE hB (hro.imp id fun hh => by simp only [List.all_cons, Bool.and_eq_true] at hh; simpa using hh.1)
      (Gives.mono ((steps_cons _ _ _ _ _ _).1 h) fun fr' m' hq => TO.gives hE hB (hro.imp id fun hh => by simp only [List.all_cons, Bool.and_eq_true] at hh; exact hh.2) hq)
end
end Go.Clean

/- The clean executor, by triples: functions, calls by contract. -/
set_option linter.unusedVariables false
set_option linter.unusedSimpArgs false
namespace Go.Clean
open Go Go.RowKit
variable {σ τ : Type} {P : Program}

/-- What stands behind a body's code, where nothing but marks has been put off. -/
def finX (P : Program) (base : Nat) (fn : Func) (fr : Fr) : M Value := endX P (fun base fr => runDX (fun _ _ => M.fail) base fr.d) base fn fr
theorem fail_local : LocalC (fun _ _ => (M.fail : M Value)) := fun _ _ => Local.fail
theorem finX_local (base : Nat) (fn : Func) (fr : Fr) : Local (finX P base fn fr) := Local.endX (fun _ _ => Local.runDX fail_local _ _) base fn fr
def finT (P : Program) (base : Nat) (fn : Func) (Q : σ → Value → Mem → Prop) (e : Ex) (s : σ) (fr : Fr) (m : Mem) : Prop := (e = .normal ∨ e = .ret) ∧ Gives (finX P base fn fr) m (Q s)

/-- A call's contract: it is entered, and leaves this. -/
def TF (P : Program) (f : FuncId) (args : List Value) (m : Mem) (Q : Value → Mem → Prop) : Prop :=
  ∀ (N : Nat) (ρ : Env) (w : World) (cargs : List Value), Rel N ρ m.t.get w → VRs ρ args cargs → (∀ b, m.next ≤ b → ρ b = none) →
    (callFunc f ⟨cargs⟩).run P w = .ok (.enter f ⟨cargs⟩) w ∧ CallsIn (wideR none) 0 P f ⟨cargs⟩ w fun e w' => ∃ v v' m' ρ', e = .returned v' ∧ Q v m' ∧ m.next ≤ m'.next ∧ After N ρ m m' w v v' w' ρ'

/-- The way out of a body: marks alone. -/
theorem leavesT {B : Start P σ} (hB : B.OK) {fn : Func} {R : Ending → World → Prop} {s : σ} {fr : Fr} {v : Value} {m' : Mem} {base : Nat} (hbase : B.bs.m.next ≤ base) : ∀ (l : List (FuncId × List Value)) (ds : List Deferred) (tmps : Array Value) (d0 : List Deferred) (m : Mem) (w : World) (ρ : Env), (do
    runDX (fun _ _ => M.fail) base l
    let vs ← resX P fr fn.results.toList
    match vs with
    | [v] => M.ret v
    | vs => M.ret (Value.tuple ⟨vs⟩)) m = some (v, m') → DRs ρ l ds → B.At s fr m ⟨tmps, d0⟩ w ρ → (∀ v' w' ρ', VR ρ' v v' → B.At s fr m' ⟨tmps, d0⟩ w' ρ' → R (.returned v') w') → LeavesInM (wideR none) 0 P fn tmps R ds .returning w
  | [], ds, tmps, d0, m, w, ρ, h, hds, hat, hR => by
    obtain rfl : ds = [] := hds
    obtain ⟨u, m1, h1, h2⟩ := bind_some h
    obtain ⟨_, rfl⟩ := ret_some h1
    obtain ⟨e1, e2, v', e3, e4⟩ := results_does hat.af.frame h2 hat.af.rel
    refine ⟨v', e3, hR v' w ρ e4 ⟨⟨hat.af.ext, fun b hb hb' => by rw [e2]; exact hat.af.dom b hb hb', by rw [e1]; exact hat.af.rel, hat.af.frame, hat.af.below, hat.af.marks⟩, by rw [e2]; exact hat.nx, hat.ext, hat.lp, hat.tp⟩⟩
  | (f, args) :: l, ds, tmps, d0, m, w, ρ, h, hds, hat, hR => by
    obtain ⟨d', ds', rfl, hdr, hds'⟩ := hds
    obtain ⟨u, m1, h1, h2⟩ := bind_some h
    have hrest : ∀ m2, runDX (fun _ _ => M.fail) base l m2 = some (u, m1) → (do
        runDX (fun _ _ => M.fail) base l
        let vs ← resX P fr fn.results.toList
        match vs with
        | [v] => M.ret v
        | vs => M.ret (Value.tuple ⟨vs⟩)) m2 = some (v, m') := fun m2 h4 => by
      change M.bnd _ _ m2 = _
      unfold M.bnd
      simp only [h4]
      exact h2
    unfold runDX at h1
    rcases hdr with ⟨cargs, cap, rfl, hv⟩ | ⟨hmark, p, hp, hpm, rfl⟩
    · simp only at hv
      rw [hv.noMark] at h1
      simp only [cond_false] at h1
      obtain ⟨v1, m2, h3, h4⟩ := bind_some h1
      exact (fail_some h3).elim
    · simp only at hmark
      subst hmark
      simp only [isMark, markV, cond_true] at h1
      obtain ⟨k, m2, h3, h4⟩ := bind_some h1
      simp only [nextX, Option.some.injEq, Prod.mk.injEq] at h3
      obtain ⟨rfl, rfl⟩ := h3
      obtain ⟨u2, m3, h5, h6⟩ := bind_some h4
      obtain ⟨hg, rfl⟩ := guard_some h5
      simp only [Bool.and_eq_true, Nat.ble_eq, Nat.blt_eq] at hg
      obtain ⟨x, m4, h7, h8⟩ := bind_some h6
      obtain ⟨hx, rfl⟩ := getB_some h7
      obtain ⟨u3, m5, h9, h10⟩ := bind_some h8
      obtain ⟨e1, e2⟩ := setB_some h9
      simp only at e1 e2
      have h0 : B.bs.ρ f = none := hB.bs.free f (Nat.le_trans hbase hg.1)
      have hD := hat.af.marks f p h0 hp hpm
      obtain ⟨k1, k2, k3⟩ := hat.af.rel.marks f x p hx hp hpm
      refine ⟨by simp, .inl ⟨p.blk, _, rfl, run_takeDeferred k2, ?_⟩⟩
      have hat' : B.At s fr m5 ⟨tmps, d0⟩ (w.putObj p.blk (.deferred none)) ρ :=
        ⟨⟨hat.af.ext, fun b hb hb' => by rw [e1]; exact hat.af.dom b hb hb', hat.af.rel.unmark hx hp hpm _ e2, hat.af.frame, hat.af.below.putObj hD hB.bs.base _, hat.af.marks⟩,
          by rw [e1]; exact hat.nx, hat.ext, hB.keep _ _ _ hat.lp (fun k r _ hk => by
            rw [World.putObj_heap_other fun hh => ?_]
            · exact hk
            · rw [hh, k2] at hk; cases hk), by simp only [World.putObj_size]; exact hat.tp⟩
      exact leavesT hB hbase l ds' tmps d0 m5 _ ρ (hrest m5 h10) hds' hat' hR

theorem TF.body {call : Caller} (hE : Exec P call) {f : FuncId} {fn : Func} {c : Code} {args : List Value} {m : Mem} {Q : Value → Mem → Prop} (hfn : P.funcs[f]? = some fn) (hb : fn.body = some c) (hl : args.length ≤ fn.ntmps)
    (h : ∀ B : Start P Unit, B.OK → B.bs.m = m → TS B none c () ⟨putArgs args 0 .leaf, fn.ntmps, []⟩ m (finT P m.next fn fun _ => Q)) : TF P f args m Q := by
  intro N ρ w cargs hr hv hf
  refine ⟨enter_run hE.noc hfn (by rw [hb]; rfl) cargs, callsIn_of_wp_marks hfn hb trivial ?_⟩
  have ok : (⟨⟨N, ρ, m, w⟩, ρ, 0, fun _ _ => True⟩ : Start P Unit).OK := ⟨⟨hr.base, hf⟩, fun _ _ _ _ _ => trivial⟩
  refine h ⟨⟨N, ρ, m, w⟩, ρ, 0, fun _ _ => True⟩ ok rfl { tmps := (⟨cargs⟩ : Array Value) ++ Array.replicate (fn.ntmps - cargs.length) undef, defers := [] } w ρ _ ⟨.refl hr (enter_rel hv hl), Nat.le_refl _, .refl ρ, trivial, Nat.zero_le _⟩ fun e s' fr' m' a' w' ρ' hq hat => ?_
  obtain ⟨he, v, m2, h1, h2⟩ := hq
  have n1 : m'.next ≤ m2.next := next_mono (finX_local m.next fn fr') h1
  have hl : LeavesInM (wideR none) 0 P fn a'.tmps (fun e w' => ∃ v v' m' ρ', e = .returned v' ∧ Q v m' ∧ m.next ≤ m'.next ∧ After N ρ m m' w v v' w' ρ') a'.defers .returning w' :=
    leavesT ok (Nat.le_refl _) fr'.d a'.defers a'.tmps a'.defers m' w' ρ' h1 hat.af.frame.defers hat fun v' w3 ρ3 hvv hat3 =>
      ⟨v, v', m2, ρ3, rfl, h2, hat3.nx, ⟨hat3.af.ext, hat3.af.dom, hat3.af.rel, hvv, hat3.af.below, hat3.af.marks⟩⟩
  rcases he with rfl | rfl
  · exact hl
  · exact hl

/-- A call by contract. -/
theorem TO.call {B : Start P σ} (hB : B.OK) {r : Option Nat} {ops : Array Oper} {d : Tmp} {f : FuncId} {cargs : Array Operand} {tys : Array TypeId} {ty : TypeId} {pos : String} {af : Array Edge} {l : List Oper} {s : σ} {fr : Fr} {m : Mem} {vs : List Value} {Q : σ → Fr → Mem → Prop}
    (hv : evs fr cargs.toList = some vs) (hd : d < fr.n) (h : TF P f vs m fun v m' => TO B r ops l s (fr.upd d v) m' Q) : TO B r ops (⟨some d, .call ⟨.value (.func f), cargs, tys⟩, ty, pos, af, .none⟩ :: l) s fr m Q := by
  intro idx a w ρ K hi hat hK
  cases idx with
  | nil => simp at hi
  | cons i idx =>
    simp only [List.map_cons, List.cons.injEq] at hi
    obtain ⟨ho, hi⟩ := hi
    rw [wpOpsIn_cons]
    unfold wpOpIn
    simp only [ho]
    have hfresh : ∀ b, m.next ≤ b → ρ b = none := fun b hb => by
      by_cases hc : ρ b = none
      · exact hc
      · have := hat.af.dom b (hB.bs.free b (Nat.le_trans hat.nx hb)) hc
        omega
    obtain ⟨h1, h2⟩ := h B.bs.N ρ w (cargs.toList.map a.eval) hat.af.rel (evs_rel hat.af.frame hv) hfresh
    have hwant : Region.wanted (⟨some d, .call ⟨.value (.func f), cargs, tys⟩, ty, pos, af, .none⟩ : Oper) (yielded ops a.tmps) = true := rfl
    rw [if_pos hwant]
    refine ⟨fun _ _ => trivial, ?_⟩
    rw [Oper.semAt_eq _ _ _ (fun c hc => by cases hc)]
    have hrun : (execOp a.eval (⟨some d, .call ⟨.value (.func f), cargs, tys⟩, ty, pos, af, .none⟩ : Oper)).run P w = .ok (.enter f ⟨cargs.toList.map a.eval⟩) w := by
      have e : (execOp a.eval (⟨some d, .call ⟨.value (.func f), cargs, tys⟩, ty, pos, af, .none⟩ : Oper)).run P w = (callFunc f ⟨cargs.toList.map a.eval⟩).run P w := by
        unfold execOp
        simp only [resolve, Sem.run_bind, Act.eval, Deferred.ofValue, Sem.run_pure, Result.andThen_ok, invoke]
        congr 2
        apply Array.ext'
        simp [Act.eval]
      rw [e, h1]
    rw [hrun, Oper.uponIn_enter]
    refine ⟨fun h => by simp [Fence.wide] at h, CallsIn.mono (R := fun e w' => ∃ v v' m' ρ', e = .returned v' ∧ TO B r ops l s (fr.upd d v) m' Q ∧ m.next ≤ m'.next ∧ After B.bs.N ρ m m' w v v' w' ρ') h2 ?_⟩
    rintro e w' ⟨v, v', m', ρ', rfl, hq, hn, hA⟩
    have hput : fr.put (some d) v m' = some (fr.upd d v, m') := by
      unfold Fr.put
      rw [putK_eq]
      simp only [hd, if_true]; rfl
    obtain ⟨hfr, _⟩ := (hat.af.frame.mono hA.ext).put hA.val hput
    exact hq idx _ w' ρ' K hi (hat.then hB ⟨hA.ext, hA.dom, hA.rel, hfr, hA.below, hA.marks⟩ hn) hK
end Go.Clean

/- The clean executor, by triples: loops that range over a function of the program; what a round calls back. -/
set_option linter.unusedVariables false
set_option linter.unusedSimpArgs false
namespace Go.Clean
open Go Go.RowKit
variable {σ τ : Type} {P : Program}

def yieldV (l : Nat) : Value := .func (.yield l) ⟨[]⟩ ⟨[]⟩
/-- A start further in: more is known. -/
structure Link (B B' : Start P σ) : Prop where
  bs : B'.bs = B.bs
  ext : Ext B.ρe B'.ρe
  top : B.top ≤ B'.top
  down : ∀ t W, B'.L t W → B.L t W
  up : ∀ t t' W W', B'.L t W → B.L t' W' → (∀ k r, B.top ≤ k → W.heap[k]? = some (.loop r) → W'.heap[k]? = some (.loop r)) → B'.L t' W'
theorem Link.refl (B : Start P σ) : Link B B := ⟨rfl, .refl _, Nat.le_refl _, fun _ _ h => h, fun _ _ _ _ _ h _ => h⟩
/-- What a call of yield leaves, wherever it comes from. -/
def TY (B : Start P σ) (l : Nat) (vs : List Value) (t : σ) (m : Mem) (Q : Bool → σ → Mem → Prop) : Prop :=
  ∀ (B' : Start P σ), Link B B' → ∀ (r0 : Option Nat) (fr : Fr) (a : Act) (w : World) (ρ : Env) (cargs : List Value) (K : Value → World → Prop), B'.At t fr m a w ρ → VRs ρ vs cargs →
    (∀ b t' m' w' ρ', Q b t' m' → B'.At t' fr m' a w' ρ' → K (.bool b) w') →
    ∃ f tmps assign body, (Instr.yield l ⟨cargs⟩).run P w = .ok (.round l f tmps assign body) w ∧ RoundIn (wideR r0) 0 P l f tmps assign body w fun e w' => ∃ v', e = .returned v' ∧ K v' w'

theorem TO.yield {B B' : Start P σ} (hB : B'.OK) (hk : Link B B') {r : Option Nat} {ops : Array Oper} {d : Tmp} {g : Operand} {cargs : Array Operand} {tys : Array TypeId} {ty : TypeId} {pos : String} {af : Array Edge} {l : List Oper} {t : σ} {fr : Fr} {m : Mem} {vs : List Value} {ly : Nat} {Q : σ → Fr → Mem → Prop}
    (hg : ev fr g = some (yieldV ly)) (hv : evs fr cargs.toList = some vs) (hd : d < fr.n) (h : TY B ly vs t m fun b t' m' => TO B' r ops l t' (fr.upd d (.bool b)) m' Q) : TO B' r ops (⟨some d, .call ⟨.value g, cargs, tys⟩, ty, pos, af, .none⟩ :: l) t fr m Q := by
  intro idx a w ρ K hi hat hK
  cases idx with
  | nil => simp at hi
  | cons i idx =>
    simp only [List.map_cons, List.cons.injEq] at hi
    obtain ⟨ho, hi⟩ := hi
    rw [wpOpsIn_cons]
    unfold wpOpIn
    simp only [ho]
    have hwant : Region.wanted (⟨some d, .call ⟨.value g, cargs, tys⟩, ty, pos, af, .none⟩ : Oper) (yielded ops a.tmps) = true := rfl
    rw [if_pos hwant]
    refine ⟨fun _ _ => trivial, ?_⟩
    rw [Oper.semAt_eq _ _ _ (fun c hc => by cases hc)]
    obtain ⟨f1, c1, hge, q1, q2⟩ := (ev_rel hat.af.frame hg).fun'
    obtain rfl := q1.inv0
    obtain rfl := q2.inv0
    obtain ⟨f, tmps, assign, body, h1, h2⟩ := h B' hk r fr a w ρ (cargs.toList.map a.eval) (fun v w' => wpOpsIn (wideR r) 0 P ops K idx (a.put (some d) v) w') hat (evs_rel hat.af.frame hv) fun b t' m' w' ρ' hq hat' => by
      have hput : fr.put (some d) (.bool b) m' = some (fr.upd d (.bool b), m') := by
        unfold Fr.put
        rw [putK_eq]
        simp only [hd, if_true]; rfl
      obtain ⟨hfr, _⟩ := hat'.af.frame.put (.leaf (v := .bool b) rfl) hput
      exact hq idx _ w' ρ' K hi ⟨⟨hat'.af.ext, hat'.af.dom, hat'.af.rel, hfr, hat'.af.below, hat'.af.marks⟩, hat'.nx, hat'.ext, hat'.lp, hat'.tp⟩ hK
    have hrun : (execOp a.eval (⟨some d, .call ⟨.value g, cargs, tys⟩, ty, pos, af, .none⟩ : Oper)).run P w = .ok (.round ly f tmps assign body) w := by
      have e : (execOp a.eval (⟨some d, .call ⟨.value g, cargs, tys⟩, ty, pos, af, .none⟩ : Oper)).run P w = (Instr.yield ly ⟨cargs.toList.map a.eval⟩).run P w := by
        unfold execOp
        simp only [resolve, Sem.run_bind, hge, Deferred.ofValue, Sem.run_pure, Result.andThen_ok, invoke]
        congr 2
        apply Array.ext'
        simp
      rw [e, h1]
    rw [hrun, Oper.uponIn_round]
    refine ⟨fun h => by simp [Fence.wide] at h, RoundIn.mono h2 ?_⟩
    rintro e w' ⟨v', rfl, hK'⟩
    exact hK'
end Go.Clean

/- The clean executor, by triples: the loop that ranges over a function of the program. -/
set_option linter.unusedVariables false
set_option linter.unusedSimpArgs false
namespace Go.Clean
open Go Go.RowKit
variable {σ τ : Type} {P : Program}

def roundT (Q : Bool → Bool × σ → Mem → Prop) (e : Ex) (s : σ) (_ : Fr) (m : Mem) : Prop := match e with
  | .normal => Q true (true, s) m
  | .ret => Q false (false, s) m
  | .exit _ => False
@[simp] theorem roundT_normal (Q : Bool → Bool × σ → Mem → Prop) (s : σ) (fr : Fr) (m : Mem) : roundT Q .normal s fr m = Q true (true, s) m := rfl
@[simp] theorem roundT_ret (Q : Bool → Bool × σ → Mem → Prop) (s : σ) (fr : Fr) (m : Mem) : roundT Q .ret s fr m = Q false (false, s) m := rfl
/-- One round of the loop, on yield's values. -/
def Round (P : Program) (call : Caller) (B : Start P σ) (l : Nat) (ps : List Tmp) (assign body : Code) (fr : Fr) (s : σ) (vs : List Value) (m : Mem) (Q : Bool → Bool × σ → Mem → Prop) : Prop :=
  Gives (putRound ps vs { fr with d := [] }) m fun fr1 m1 => Gives (codeX P call assign fr1) m1 fun q m2 => q.1 = .normal ∧ ∀ B4 : Start P σ, B4.OK → Link B B4 → TS B4 (some l) body s q.2 m2 (roundT Q)

theorem TS.range {call : Caller} {B : Start P σ} (hE : Exec P call) (hB : B.OK) {g : Operand} {ps : Array Tmp} {assign body : Code} {fr : Fr} {m : Mem} {s : σ} {Q : Ex → σ → Fr → Mem → Prop} {it : FuncId} {fn : Func} {c : Code} {caps : List Value}
    (hg : ev fr g = some (.func (.func it) ⟨[]⟩ ⟨caps⟩)) (hfn : P.funcs[it]? = some fn) (hb : fn.body = some c) (hlen : caps.length + 1 ≤ fn.ntmps) (nda : noDefer assign = true)
    (h : ∀ (l : Nat) (B2 : Start P (Bool × σ)), B2.OK → B2.bs = B.bs → (∀ (s1 : σ) (vs : List Value) (mi : Mem) (Q' : Bool → Bool × σ → Mem → Prop), Round P call B l ps.toList assign body fr s1 vs mi Q' → TY B2 l vs (true, s1) mi Q') →
      TS B2 none c (true, s) ⟨putArgs (yieldV l :: caps) 0 .leaf, fn.ntmps, []⟩ (m.nw markB) (finT P B.bs.m.next fn fun t _ m' => Q (if t.1 then .normal else .ret) t.2 { fr with d := (m.next, markV) :: fr.d } m')) :
    TS B none (.rangeFunc g ps assign body) s fr m Q := by
  intro a w ρ K hat hK
  obtain ⟨first', cap', hge, hv1, hv2⟩ := (ev_rel hat.af.frame hg).fun'
  obtain rfl := hv1.inv0
  have hfr := hat.af.frame
  have hwb : B.bs.w.heap.size ≤ w.heap.size := hat.af.below.size
  have hNw : B.bs.N ≤ w.heap.size := hat.af.rel.base
  have hfree : ρ m.next = none := by
    by_cases hc : ρ m.next = none
    · exact hc
    · have := hat.af.dom m.next (hB.bs.free _ hat.nx) hc
      omega
  obtain ⟨m1, hm1⟩ : ∃ m1, m1 = m.nw markB := ⟨_, rfl⟩
  have hnx1 : m1.next = m.next + 1 := by rw [hm1]; simp
  have hget : ∀ c, m1.t.get c = if c = m.next then some markB else m.t.get c := fun c => by
    rw [hm1]; exact Mem.at_nw m markB c
  refine wpIn_rangeFunc ?_
  intro f0 hf0
  obtain ⟨rec, hrec⟩ : ∃ rec : LoopState → Option Code → Loop, rec = fun st pe => { state := st, pending := pe, fn := f0, tmps := a.tmps, params := ps, assign, body, defers := w.heap.size } := ⟨_, rfl⟩
  obtain ⟨l, hl⟩ : ∃ l, l = w.heap.size + 1 := ⟨_, rfl⟩
  obtain ⟨W1, hW1⟩ : ∃ W1, (w.alloc (.deferred (some []))).alloc (.loop (rec .ready none)) = W1 := ⟨_, rfl⟩
  have hL1 : W1.heap[l]? = some (.loop (rec .ready none)) := by
    rw [← hW1, hl]; have := World.alloc_heap_new (w.alloc (.deferred (some []))) (.loop (rec .ready none)); rwa [World.size_alloc] at this
  have hK1 : W1.heap[w.heap.size]? = some (.deferred (some [])) := by
    rw [← hW1]; exact (Below.heap_alloc _ _ _ (by simp)).trans (World.alloc_heap_new w _)
  have hold : ∀ k, k < w.heap.size → W1.heap[k]? = w.heap[k]? := fun k hk => by
    rw [← hW1]; exact (Below.heap_alloc _ _ _ (by simp; omega)).trans (Below.heap_alloc _ _ _ hk)
  have hsz1 : W1.heap.size = w.heap.size + 2 := by rw [← hW1]; simp
  have hsz : w.heap.size ≤ W1.heap.size := by omega
  have hkeep : Keeps B.bs.N w W1 := by rw [← hW1]; exact ((Keeps.refl B.bs.N w).alloc hNw _).alloc hNw _
  have hrel1 := Rel.mark hat.af.rel hfree hold hsz hK1 hget
  obtain ⟨ρ1, hρ1⟩ : ∃ ρ1, ρ1 = ρ.put m.next ⟨w.heap.size, 1, 0, 0, true⟩ := ⟨_, rfl⟩
  have hext1 : Ext ρ ρ1 := by rw [hρ1]; exact Env.ext hfree ⟨w.heap.size, 1, 0, 0, true⟩
  have hmark1 : ρ1 m.next = some ⟨w.heap.size, 1, 0, 0, true⟩ := by rw [hρ1]; exact Env.put_same _ _ _
  rw [← hρ1] at hrel1
  have hAF1 : ∀ {fr' : Fr} {a' : Act}, FrR ρ1 fr' a' → AfterF B.bs.N B.bs.ρ B.bs.m m1 B.bs.w fr' a' W1 ρ1 := fun {fr' a'} hf' => by
    refine hat.af.trans (m1 := m) ⟨hext1, fun c hc hc' => ?_, hrel1, hf', hkeep, fun c p hc hp hm => ?_⟩ hat.nx (by omega)
    · by_cases h : c = m.next
      · subst h; omega
      · rw [hρ1, Env.put_ne _ _ h] at hc'; exact absurd hc hc'
    · by_cases h : c = m.next
      · rw [h, hmark1] at hp
        obtain rfl := Option.some.inj hp
        exact Nat.le_refl _
      · rw [hρ1, Env.put_ne _ _ h] at hp; exact absurd (hc.symm.trans hp) (by simp)
  obtain ⟨B2, hB2⟩ : ∃ B2 : Start P (Bool × σ), B2 = ⟨B.bs, ρ1, l + 1, fun t W => B.L t.2 W ∧ W.heap[l]? = some (.loop (rec (if t.1 then .ready else .done) (if t.1 then none else some .ret)))⟩ := ⟨_, rfl⟩
  have b2s : B2.bs = B.bs := by rw [hB2]
  have b2e : B2.ρe = ρ1 := by rw [hB2]
  have b2t : B2.top = l + 1 := by rw [hB2]
  have b2L : ∀ t W, B2.L t W ↔ B.L t.2 W ∧ W.heap[l]? = some (.loop (rec (if t.1 then .ready else .done) (if t.1 then none else some .ret))) := fun t W => by rw [hB2]
  clear hB2
  have htl : B.top ≤ w.heap.size := hat.tp
  have ok2 : B2.OK := ⟨by rw [b2s]; exact hB.bs, fun t W W' hLW hp => by
    rw [b2L] at hLW ⊢
    exact ⟨hB.keep _ _ _ hLW.1 fun k r hk hr => hp k r (by rw [b2t]; omega) hr, hp l _ (by rw [b2t]; omega) hLW.2⟩⟩
  have hty : ∀ (s1 : σ) (vs : List Value) (mi : Mem) (Q' : Bool → Bool × σ → Mem → Prop), Round P call B l ps.toList assign body fr s1 vs mi Q' → TY B2 l vs (true, s1) mi Q' := by
    intro s1 vs mi Q' hround B' hlk r0 fri ai W ρi cargs K' hati hv hK'
    have bs' : B'.bs = B.bs := hlk.bs.trans b2s
    obtain ⟨hLs, hLl⟩ := (b2L _ _).1 (hlk.down _ _ hati.lp)
    simp only [if_true] at hLl
    have hexti : Ext ρ1 ρi := by
      have := hlk.ext
      rw [b2e] at this
      exact this.trans hati.ext
    obtain ⟨fr1, mi1, hput, ⟨e2, fr2⟩, m2, hcode, he2, hbody⟩ := hround
    simp only at he2 hbody
    subst he2
    have hfr0 : FrR ρi { fr with d := [] } { tmps := a.tmps, defers := [] } := ⟨hfr.size, fun t => (hfr.tmps t).mono (hext1.trans hexti), rfl⟩
    obtain ⟨hmi, hlen', hfr1⟩ := putRound_rel ps.toList vs cargs hfr0 hv hput
    subst hmi
    have hy := run_yield (P := P) (args := (⟨cargs⟩ : Array Value)) hLl (by rw [hrec]; simpa using hlen'.symm)
    rw [hrec] at hy
    refine ⟨f0, _, assign, body, hy, roundIn_of_wpIn (F := wideR r0) trivial ?_⟩
    have htmps : (ps.zip (⟨cargs⟩ : Array Value)).foldl (fun tmps (x : Tmp × Value) => tmps.setIfInBounds x.1 x.2) a.tmps = (ps.toList.zip cargs).foldl (fun tmps (x : Tmp × Value) => tmps.setIfInBounds x.1 x.2) a.tmps := by
      rw [← Array.foldl_toList]; simp
    have hfr1' : FrR ρi fr1 { tmps := (ps.zip (⟨cargs⟩ : Array Value)).foldl (fun tmps (x : Tmp × Value) => tmps.setIfInBounds x.1 x.2) a.tmps, defers := [] } := by rw [htmps]; exact hfr1
    have n1 := next_mono (Local.codeX hE.loc assign fr1) hcode
    have hafi := hati.af
    rw [bs'] at hafi
    have hnxi := hati.nx
    rw [bs'] at hnxi
    have hWtop : l + 1 ≤ W.heap.size := by
      have := hlk.top
      rw [b2t] at this
      exact Nat.le_trans this hati.tp
    have hfresh : Fresh ρi mi1 m2 := hafi.fresh (fun b h _ => hB.bs.free b h) hnxi
    refine code_does hE.ok hE.loc hE.mix hE.back assign (some l) fr1 fr2 .normal _ mi1 m2 W ρi _ (.inr nda) hcode hfr1' hafi.rel hfresh fun a4 w4 ρ4 hA4 => ?_
    have hl4 := hA4.below.others.same _ _ hLl rfl
    refine ⟨_, run_beginRound hl4 (by rw [hrec]), ?_⟩
    obtain ⟨busy, hbusy⟩ : ∃ busy : Loop, busy = { rec .ready none with state := .busy } := ⟨_, rfl⟩
    rw [← hbusy]
    have hlb : B.bs.w.heap.size ≤ l := by omega
    have hafr : AfterF B.bs.N B.bs.ρ B.bs.m m2 B.bs.w fr2 a4 (w4.putObj l (.loop busy)) ρ4 := (hafi.trans hA4 hnxi n1).putObj hl4 hlb hB.bs.base _
    have hlt4 : l < w4.heap.size := (Array.getElem?_eq_some_iff.1 hl4).1
    obtain ⟨B4, hB4⟩ : ∃ B4 : Start P σ, B4 = ⟨B.bs, ρi, W.heap.size, fun s' W' => B.L s' W' ∧ W'.heap[l]? = some (.loop busy) ∧ ∀ k r, B.top ≤ k → k ≠ l → W.heap[k]? = some (.loop r) → W'.heap[k]? = some (.loop r)⟩ := ⟨_, rfl⟩
    have b4s : B4.bs = B.bs := by rw [hB4]
    have b4e : B4.ρe = ρi := by rw [hB4]
    have b4t : B4.top = W.heap.size := by rw [hB4]
    have b4L : ∀ s' W', B4.L s' W' ↔ B.L s' W' ∧ W'.heap[l]? = some (.loop busy) ∧ ∀ k r, B.top ≤ k → k ≠ l → W.heap[k]? = some (.loop r) → W'.heap[k]? = some (.loop r) := fun s' W' => by rw [hB4]
    clear hB4
    have ok4 : B4.OK := ⟨by rw [b4s]; exact hB.bs, fun s' W5 W6 hLW hp => by
      rw [b4L] at hLW ⊢
      refine ⟨hB.keep _ _ _ hLW.1 fun k r hk hr => hp k r (by rw [b4t]; omega) hr, hp l _ (by rw [b4t]; omega) hLW.2.1, fun k r hk hne hr => hp k r ?_ (hLW.2.2 k r hk hne hr)⟩
      rw [b4t]
      exact (Array.getElem?_eq_some_iff.1 hr).1⟩
    have link4 : Link B B4 := ⟨b4s, by rw [b4e]; exact hat.ext.trans (hext1.trans hexti), by rw [b4t]; omega, fun t W' h => ((b4L _ _).1 h).1, fun t t' W5 W6 h5 h6 hp => by
      rw [b4L] at h5 ⊢
      exact ⟨h6, hp l _ (by omega) h5.2.1, fun k r hk hne hr => hp k r hk (h5.2.2 k r hk hne hr)⟩⟩
    have at4 : B4.At s1 fr2 m2 a4 (w4.putObj l (.loop busy)) ρ4 := ⟨by rw [b4s]; exact hafr, by rw [b4s]; omega, by rw [b4e]; exact hA4.ext, (b4L _ _).2 ⟨hB.keep _ _ _ hLs fun k r hk hr => by
        rw [World.putObj_heap_other (by omega)]
        exact hA4.below.others.same _ _ hr rfl, World.putObj_heap_same hlt4, fun k r hk hne hr => by
        rw [World.putObj_heap_other hne]
        exact hA4.below.others.same _ _ hr rfl⟩, by rw [b4t, World.putObj_size]; exact hA4.below.size⟩
    refine hbody B4 ok4 link4 a4 _ ρ4 _ at4 fun e s' fr3 m3 a6 w6 ρ6 hq hat6 => ?_
    obtain ⟨hLs6, hL6, hoth6⟩ := (b4L _ _).1 hat6.lp
    have haf6 := hat6.af
    rw [b4s] at haf6
    have hnx6 := hat6.nx
    rw [b4s] at hnx6
    have hext6 := hat6.ext
    rw [b4e] at hext6
    have htp6 := hat6.tp
    rw [b4t] at htp6
    have hlt6 : l < w6.heap.size := (Array.getElem?_eq_some_iff.1 hL6).1
    have hback : ∀ b : Bool, B'.At (b, s') fri m3 ai (w6.putObj l (.loop (rec (if b then .ready else .done) (if b then none else some .ret)))) ρ6 := fun b => by
      have hf6 : AfterF B.bs.N B.bs.ρ B.bs.m m3 B.bs.w fri ai w6 ρ6 := ⟨haf6.ext, haf6.dom, haf6.rel, hafi.frame.mono hext6, haf6.below, haf6.marks⟩
      refine ⟨by rw [bs']; exact hf6.putObj hL6 hlb hB.bs.base _, by rw [bs']; exact hnx6, hati.ext.trans hext6, hlk.up _ _ _ _ hati.lp ((b2L _ _).2 ⟨hB.keep _ _ _ hLs6 fun k r hk hr => by
          rw [World.putObj_heap_other (by omega)]; exact hr, World.putObj_heap_same hlt6⟩) fun k r hk hr => ?_, by rw [World.putObj_size]; exact Nat.le_trans hati.tp htp6⟩
      rw [b2t] at hk
      rw [World.putObj_heap_other (by omega)]
      exact hoth6 k r (by omega) (by omega) hr
    have fin : ∀ jump : Option Code, (Instr.endRound l jump).run P w6 = .ok (.bool jump.isNone) (w6.putObj l (.loop (rec (if jump.isNone then .ready else .done) jump))) := fun jump => by
      have := run_endRound (P := P) jump hL6
      rw [hbusy, hrec] at this
      rw [hrec]
      exact this
    cases e with
    | normal => exact ⟨_, _, fin none, _, rfl, hK' true (true, s') m3 _ ρ6 hq (hback true)⟩
    | exit j => exact hq.elim
    | ret => exact ⟨_, _, fin (some .ret), _, rfl, hK' false (false, s') m3 _ ρ6 hq (hback false)⟩
  have hts := h l B2 ok2 b2s hty
  rw [← hm1] at hts
  refine ⟨l, [{ target := .collected w.heap.size, args := #[] }], W1, { target := .fn (.func it) ⟨cap'⟩, args := #[.func (.yield l) #[] #[]] }, W1, it, #[.func (.yield l) #[] #[]] ++ ⟨cap'⟩, W1, ?_, ?_, ?_, ?_, fun h => by simp [Fence.wide] at h, ?_⟩
  · rw [← hW1, hrec, hl]; exact run_enterLoop_outer _ _ _ _ _
  · simp only [resolve, hge]
    simp [go_sem]
  · intro f' hf'; trivial
  · have he := enter_run hE.noc (w := W1) hfn (by rw [hb]; rfl) (.func (.yield l) #[] #[] :: cap')
    simp only [invoke]
    have e : (#[.func (.yield l) #[] #[]] ++ ⟨cap'⟩ : Array Value) = ⟨.func (.yield l) #[] #[] :: cap'⟩ := by apply Array.ext'; simp
    rw [e]
    exact he
  · have hargs : VRs ρ1 (yieldV l :: caps) (.func (.yield l) #[] #[] :: cap') := .cons ⟨[], [], rfl, .nil, .nil⟩ (VRs.mono hext1 _ _ hv2)
    have hent := enter_rel hargs (n := fn.ntmps) (by simpa using hlen)
    have e : (#[.func (.yield l) #[] #[]] ++ ⟨cap'⟩ : Array Value) = ⟨.func (.yield l) #[] #[] :: cap'⟩ := by apply Array.ext'; simp
    rw [e]
    refine callsIn_of_wp_marks hfn hb trivial ?_
    refine hts _ W1 ρ1 _ ⟨by rw [b2s]; exact hAF1 hent, by rw [b2s]; have := hat.nx; omega, by rw [b2e]; exact .refl ρ1, (b2L _ _).2 ⟨hB.keep _ _ _ hat.lp fun k r hk hr => by rw [hold k (by omega)]; exact hr, by simpa using hL1⟩, by rw [b2t]; omega⟩ fun e t fr2 m2 a2 w2 ρ2 hq hat2 => ?_
    obtain ⟨he, v, m3, h1, h2⟩ := hq
    have hlv : LeavesInM (wideR none) 0 P fn a2.tmps (rangePost (wideR none) 0 P l K { a with defers := [{ target := .collected w.heap.size, args := #[] }] ++ a.defers }) a2.defers .returning w2 := by
      refine leavesT ok2 (base := B.bs.m.next) (by rw [b2s]; exact Nat.le_refl _) fr2.d a2.defers a2.tmps a2.defers m2 w2 ρ2 h1 hat2.af.frame.defers hat2 fun v' w3 ρ3 hvv hat3 => ?_
      obtain ⟨hLs3, hL3⟩ := (b2L _ _).1 hat3.lp
      have haf3 := hat3.af
      rw [b2s] at haf3
      have hnx3 := hat3.nx
      rw [b2s] at hnx3
      have hext3 := hat3.ext
      rw [b2e] at hext3
      have htp3 := hat3.tp
      rw [b2t] at htp3
      have hend := run_endLoop (P := P) hL3 (by rw [hrec]; cases t.1 <;> simp)
      have hfr3 : FrR ρ3 { fr with d := (m.next, markV) :: fr.d } { a with defers := [{ target := .collected w.heap.size, args := #[] }] ++ a.defers } :=
        ⟨hfr.size, fun t => (hfr.tmps t).mono (hext1.trans hext3), _, _, rfl, .inr ⟨rfl, _, hext3 _ _ hmark1, by simp, rfl⟩, hfr.defers.mono (hext1.trans hext3)⟩
      have hatK : ∀ o : Loop, B.At t.2 { fr with d := (m.next, markV) :: fr.d } m3 { a with defers := [{ target := .collected w.heap.size, args := #[] }] ++ a.defers } (w3.putObj l (.loop o)) ρ3 := fun o =>
        ⟨AfterF.putObj ⟨haf3.ext, haf3.dom, haf3.rel, hfr3, haf3.below, haf3.marks⟩ hL3 (by omega) hB.bs.base _, hnx3, hat.ext.trans (hext1.trans hext3), hB.keep _ _ _ hLs3 fun k r hk hr => by
          rw [World.putObj_heap_other (by omega)]; exact hr, by rw [World.putObj_size]; omega⟩
      refine ⟨_, _, hend, ?_⟩
      rw [hrec]
      cases ht : t.1 with
      | true =>
        rw [ht] at h2
        exact hK .normal t.2 _ m3 _ _ ρ3 h2 (hatK _)
      | false =>
        rw [ht] at h2
        exact wpIn_ret (hK .ret t.2 _ m3 _ _ ρ3 h2 (hatK _))
    rcases he with rfl | rfl
    · exact hlv
    · exact hlv
end Go.Clean
