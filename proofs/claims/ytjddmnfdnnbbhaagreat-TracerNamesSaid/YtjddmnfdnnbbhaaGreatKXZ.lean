/- The clean executor walked by hand: calls, rows that grow, code, loops, functions. -/
import Derived.Test.YtjddmnfdnnbbhaaGreatKWZ
set_option linter.unusedSimpArgs false
set_option linter.unusedVariables false
set_option linter.unusedVariables false
set_option linter.unusedSimpArgs false
namespace Go.Clean
open Go Go.RowKit
variable {P : Program} {call : Caller}

section
variable {ops : Array Oper} {fr : Fr} {m : Mem} {Q : Fr → Mem → Prop} {ty : TypeId} {pos : String} {af : Array Edge} {d : Option Tmp}
@[simp] theorem step_call (f : FuncId) (args : Array Operand) (ts : Array TypeId) : Gives (stepDX P call ops fr ⟨d, .call ⟨.value (.func f), args, ts⟩, ty, pos, af, none⟩) m Q ↔ optQ (evs fr args.toList) fun vs => Gives (call f vs) m (putQ fr d Q) := by
  rw [step_any rfl rfl]
  unfold opX callX
  dsimp only
  cases evs fr args.toList with
  | none => exact gives_fail _ _
  | some z => exact Iff.rfl
@[simp] theorem step_callv (t : Tmp) (args : Array Operand) (ts : Array TypeId) : Gives (stepDX P call ops fr ⟨d, .call ⟨.value (.tmp t), args, ts⟩, ty, pos, af, none⟩) m Q ↔ optQ (evs fr args.toList) fun vs => optQ (funX (fr.at t)) fun g => Gives (call g.1 (g.2.1 ++ vs ++ g.2.2)) m (putQ fr d Q) := by
  rw [step_any rfl rfl]
  unfold opX callX
  simp only [ev_tmp]
  cases evs fr args.toList with
  | none => exact gives_fail _ _
  | some z =>
    dsimp only [optQ_some]
    cases funX (fr.at t) with
    | none => exact gives_fail _ _
    | some g => exact Iff.rfl
@[simp] theorem step_len (x : Operand) (t : TypeId) : Gives (stepDX P call ops fr ⟨d, .call ⟨.builtin .len, #[x], #[t]⟩, ty, pos, af, none⟩) m Q ↔ optQ (ev fr x) fun v => optQ (lenX P t v) fun r => putQ fr d Q r m := by
  rw [step_any rfl rfl]
  unfold opX callX
  simp only [evs_cons, evs_nil]
  cases ev fr x with
  | none => exact gives_fail _ _
  | some v => exact gives_lift' _
def appC (P : Program) (t u : TypeId) (s x : Value) : M Value := match s, x with
  | .slice none 0 0, .int _ n => zerosX P t u n
  | s, x => appendX P t u s x
@[simp] theorem appC_slice (t u : TypeId) (s : Value) (a : Option Addr) (n c : Nat) : appC P t u s (.slice a n c) = appendX P t u s (.slice a n c) := by
  unfold appC
  split
  · rename_i h; cases h
  · rfl
theorem callX_append (fr : Fr) (x y : Operand) (t u : TypeId) {v w : Value} (h1 : ev fr x = some v) (h2 : ev fr y = some w) : callX P call fr ⟨.builtin .append, #[x, y], #[t, u]⟩ = appC P t u v w := by
  have e : evs fr [x, y] = some [v, w] := by simp [h1, h2]
  unfold callX
  dsimp only
  rw [e]
  unfold appC
  split <;> split <;> simp_all
  rename_i heq hne
  exact absurd heq.symm (hne v w)
@[simp] theorem step_append (x y : Operand) (t u : TypeId) : Gives (stepDX P call ops fr ⟨d, .call ⟨.builtin .append, #[x, y], #[t, u]⟩, ty, pos, af, none⟩) m Q ↔ optQ (ev fr x) fun v => optQ (ev fr y) fun w => Gives (appC P t u v w) m (putQ fr d Q) := by
  rw [step_any rfl rfl]
  unfold opX
  dsimp only
  cases h1 : ev fr x with
  | none =>
    unfold callX
    simp only [evs_cons, h1]
    exact gives_fail _ _
  | some v =>
    cases h2 : ev fr y with
    | none =>
      unfold callX
      simp only [evs_cons, h1, h2]
      exact gives_fail _ _
    | some w =>
      rw [callX_append fr x y t u h1 h2]
      exact Iff.rfl
@[simp] theorem step_copy (x y : Operand) (t u : TypeId) : Gives (stepDX P call ops fr ⟨d, .call ⟨.builtin .copy, #[x, y], #[t, u]⟩, ty, pos, af, none⟩) m Q ↔ optQ (ev fr x) fun v => optQ (ev fr y) fun w => Gives (copyX P t v w) m (putQ fr d Q) := by
  rw [step_any rfl rfl]
  unfold opX callX
  simp only [evs_cons, evs_nil]
  cases ev fr x with
  | none => exact gives_fail _ _
  | some v =>
    cases ev fr y with
    | none => exact gives_fail _ _
    | some w => exact Iff.rfl
end

/-! ### Code -/
abbrev CQ := Ex × Fr → Mem → Prop
def regQ (Q : CQ) (fr : Fr) (m : Mem) : Prop := Q (.normal, fr) m
@[simp] theorem regQ_eq (Q : CQ) (fr : Fr) (m : Mem) : regQ Q fr m = Q (.normal, fr) m := rfl
def stepsQ (P : Program) (call : Caller) (ops : Array Oper) (l : List Oper) (Q : Fr → Mem → Prop) (fr : Fr) (m : Mem) : Prop := Gives (stepsX P call ops l fr) m Q
@[simp] theorem stepsQ_eq (ops : Array Oper) (l : List Oper) (Q : Fr → Mem → Prop) (fr : Fr) (m : Mem) : stepsQ P call ops l Q fr m = Gives (stepsX P call ops l fr) m Q := rfl
@[simp] theorem steps_nil (ops : Array Oper) (fr : Fr) (m : Mem) (Q : Fr → Mem → Prop) : Gives (stepsX P call ops [] fr) m Q ↔ Q fr m := gives_ret _ _ _
@[simp] theorem steps_cons (ops : Array Oper) (o : Oper) (l : List Oper) (fr : Fr) (m : Mem) (Q : Fr → Mem → Prop) : Gives (stepsX P call ops (o :: l) fr) m Q ↔ Gives (stepDX P call ops fr o) m (stepsQ P call ops l Q) := by
  rw [stepsX, gives_bind]; exact Iff.rfl
@[simp] theorem code_region (id : Nat) (ops : Array Oper) (fr : Fr) (m : Mem) (Q : CQ) : Gives (codeX P call (.region id ops false) fr) m Q ↔ Gives (stepsX P call ops ops.toList fr) m (regQ Q) := by
  rw [codeX]
  simp only [cond_false]
  rw [gives_bind]
  constructor
  · exact fun h => h.mono fun v m' k => (gives_ret (Ex.normal, v) m' Q).1 k
  · exact fun h => h.mono fun v m' k => (gives_ret (Ex.normal, v) m' Q).2 k
def seqQ (P : Program) (call : Caller) (b : Code) (Q : CQ) : CQ := fun r m => match r.1 with
  | .normal => Gives (codeX P call b r.2) m Q
  | e => Q (e, r.2) m
@[simp] theorem seqQ_normal (b : Code) (Q : CQ) (fr : Fr) (m : Mem) : seqQ P call b Q (.normal, fr) m = Gives (codeX P call b fr) m Q := rfl
@[simp] theorem seqQ_exit (b : Code) (Q : CQ) (i : Nat) (fr : Fr) (m : Mem) : seqQ P call b Q (.exit i, fr) m = Q (.exit i, fr) m := rfl
@[simp] theorem seqQ_ret (b : Code) (Q : CQ) (fr : Fr) (m : Mem) : seqQ P call b Q (.ret, fr) m = Q (.ret, fr) m := rfl
@[simp] theorem code_seq (a b : Code) (fr : Fr) (m : Mem) (Q : CQ) : Gives (codeX P call (.seq a b) fr) m Q ↔ Gives (codeX P call a fr) m (seqQ P call b Q) := by
  rw [codeX, gives_bind]
  constructor
  · refine fun h => h.mono fun r m' k => ?_
    obtain ⟨e, fr'⟩ := r
    cases e with
    | normal => exact k
    | exit i => exact (gives_ret (Ex.exit i, fr') m' Q).1 k
    | ret => exact (gives_ret (Ex.ret, fr') m' Q).1 k
  · refine fun h => h.mono fun r m' k => ?_
    obtain ⟨e, fr'⟩ := r
    cases e with
    | normal => exact k
    | exit i => exact (gives_ret (Ex.exit i, fr') m' Q).2 k
    | ret => exact (gives_ret (Ex.ret, fr') m' Q).2 k
@[simp] theorem code_skip (fr : Fr) (m : Mem) (Q : CQ) : Gives (codeX P call .skip fr) m Q ↔ Q (.normal, fr) m := gives_ret _ _ _
@[simp] theorem code_exit (i : Nat) (fr : Fr) (m : Mem) (Q : CQ) : Gives (codeX P call (.exit i) fr) m Q ↔ Q (.exit i, fr) m := gives_ret _ _ _
@[simp] theorem code_ret (fr : Fr) (m : Mem) (Q : CQ) : Gives (codeX P call .ret fr) m Q ↔ Q (.ret, fr) m := gives_ret _ _ _
def condQ (P : Program) (call : Caller) (o : Option Value) (a b : Code) (fr : Fr) (m : Mem) (Q : CQ) : Prop := match o with
  | some (.bool true) => Gives (codeX P call a fr) m Q
  | some (.bool false) => Gives (codeX P call b fr) m Q
  | _ => False
@[simp] theorem condQ_true (a b : Code) (fr : Fr) (m : Mem) (Q : CQ) : condQ P call (some (.bool true)) a b fr m Q = Gives (codeX P call a fr) m Q := rfl
@[simp] theorem condQ_false (a b : Code) (fr : Fr) (m : Mem) (Q : CQ) : condQ P call (some (.bool false)) a b fr m Q = Gives (codeX P call b fr) m Q := rfl
@[simp] theorem code_cond (c : Operand) (a b : Code) (fr : Fr) (m : Mem) (Q : CQ) : Gives (codeX P call (.cond c a b) fr) m Q ↔ condQ P call (ev fr c) a b fr m Q := by
  rw [codeX]
  generalize ev fr c = o
  cases o with
  | none => exact gives_fail _ _
  | some v =>
    cases v <;> first
      | exact gives_fail _ _
      | (rename_i p; cases p <;> exact Iff.rfl)
def blockQ (id : Nat) (Q : CQ) : CQ := fun r m => match r.1 with
  | .exit i => if i = id then Q (.normal, r.2) m else Q (.exit i, r.2) m
  | e => Q (e, r.2) m
@[simp] theorem blockQ_normal (id : Nat) (Q : CQ) (fr : Fr) (m : Mem) : blockQ id Q (.normal, fr) m = Q (.normal, fr) m := rfl
@[simp] theorem blockQ_exit (id : Nat) (Q : CQ) (i : Nat) (fr : Fr) (m : Mem) : blockQ id Q (.exit i, fr) m = if i = id then Q (.normal, fr) m else Q (.exit i, fr) m := rfl
@[simp] theorem blockQ_ret (id : Nat) (Q : CQ) (fr : Fr) (m : Mem) : blockQ id Q (.ret, fr) m = Q (.ret, fr) m := rfl
@[simp] theorem code_block (id : Nat) (c : Code) (fr : Fr) (m : Mem) (Q : CQ) : Gives (codeX P call (.block id c) fr) m Q ↔ Gives (codeX P call c fr) m (blockQ id Q) := by
  rw [codeX, gives_bind]
  have key : ∀ (r : Ex × Fr) m', Gives (match r.1 with
      | .exit i => bif i == id then M.ret (Ex.normal, r.2) else M.ret (.exit i, r.2)
      | e => M.ret (e, r.2)) m' Q ↔ blockQ id Q r m' := by
    rintro ⟨e, fr'⟩ m'
    cases e with
    | normal => exact gives_ret _ _ _
    | ret => exact gives_ret _ _ _
    | exit i =>
      rw [blockQ_exit]
      by_cases h : i = id
      · subst h; simp only [beq_self_eq_true, cond_true, if_true]; exact gives_ret _ _ _
      · have : (i == id) = false := by simpa using h
        simp only [this, cond_false, if_neg h]; exact gives_ret _ _ _
  constructor
  · exact fun h => h.mono fun r m' k => (key r m').1 k
  · exact fun h => h.mono fun r m' k => (key r m').2 k

def loopQ (I : Nat → Fr → Mem → Prop) (k : Nat) (Q : CQ) : CQ := fun r m => match r.1 with
  | .normal => ∃ j, j < k ∧ I j r.2 m
  | e => Q (e, r.2) m
@[simp] theorem loopQ_normal (I : Nat → Fr → Mem → Prop) (k : Nat) (Q : CQ) (fr : Fr) (m : Mem) : loopQ I k Q (.normal, fr) m = ∃ j, j < k ∧ I j fr m := rfl
@[simp] theorem loopQ_exit (I : Nat → Fr → Mem → Prop) (k : Nat) (Q : CQ) (i : Nat) (fr : Fr) (m : Mem) : loopQ I k Q (.exit i, fr) m = Q (.exit i, fr) m := rfl
@[simp] theorem loopQ_ret (I : Nat → Fr → Mem → Prop) (k : Nat) (Q : CQ) (fr : Fr) (m : Mem) : loopQ I k Q (.ret, fr) m = Q (.ret, fr) m := rfl
theorem loop_fuel {body : Fr → M (Ex × Fr)} {I : Nat → Fr → Mem → Prop} {Q : CQ} (hstep : ∀ k fr m, I k fr m → Gives (body fr) m (loopQ I k Q)) : ∀ (n k : Nat) (fr : Fr) (m : Mem), k < n → I k fr m → Gives (loopX body n fr) m Q
  | 0, _, _, _, h, _ => by omega
  | n + 1, k, fr, m, h, hI => by
    rw [loopX, gives_bind]
    refine (hstep k fr m hI).mono fun r m' q => ?_
    obtain ⟨e, fr'⟩ := r
    cases e with
    | normal =>
      obtain ⟨j, hj, hI'⟩ := q
      exact loop_fuel hstep n j fr' m' (by omega) hI'
    | exit i => exact (gives_ret _ _ _).2 q
    | ret => exact (gives_ret _ _ _).2 q
/-- A loop, with what holds each time and how many times there may be still. -/
theorem code_loop {c : Code} {fr : Fr} {m : Mem} {Q : CQ} (I : Nat → Fr → Mem → Prop) (k : Nat) (hk : k < 4000000) (h0 : I k fr m) (hstep : ∀ k fr m, I k fr m → Gives (codeX P call c fr) m (loopQ I k Q)) : Gives (codeX P call (.loop c) fr) m Q := by
  rw [codeX]
  exact loop_fuel hstep 4000000 k fr m hk h0

/-! ### Functions -/
def retV : List Value → Value
  | [v] => v
  | vs => .tuple ⟨vs⟩
@[simp] theorem retV_one (v : Value) : retV [v] = v := rfl
@[simp] theorem retV_two (v w : Value) : retV [v, w] = .tuple ⟨[v, w]⟩ := rfl
@[simp] theorem retV_nil : retV [] = .tuple ⟨[]⟩ := rfl
@[simp] theorem res_nil (fr : Fr) (m : Mem) (Q : List Value → Mem → Prop) : Gives (resX P fr []) m Q ↔ Q [] m := gives_ret _ _ _
@[simp] theorem res_tmp (fr : Fr) (t : Tmp) (l : List ResultVar) (m : Mem) (Q : List Value → Mem → Prop) : Gives (resX P fr (.tmp t :: l)) m Q ↔ Gives (resX P fr l) m fun vs m' => Q (fr.at t :: vs) m' := by
  rw [resX, gives_bind]
  constructor
  · exact fun h => h.mono fun r m' k => (gives_ret _ _ _).1 k
  · exact fun h => h.mono fun r m' k => (gives_ret _ _ _).2 k
@[simp] theorem res_cell (fr : Fr) (a : Tmp) (t : TypeId) (l : List ResultVar) (m : Mem) (Q : List Value → Mem → Prop) : Gives (resX P fr (.cell a t :: l)) m Q ↔ loadQ P t (fr.at a) m fun v m1 => Gives (resX P fr l) m1 fun vs m' => Q (v :: vs) m' := by
  rw [resX, gives_bind, gives_load]
  have : (fun (a : Value) m' => Gives (resX P fr l >>= fun vs => M.ret (a :: vs)) m' Q) = fun v m1 => Gives (resX P fr l) m1 fun vs m' => Q (v :: vs) m' := by
    funext v m1
    rw [gives_bind]
    apply propext
    constructor
    · exact fun h => h.mono fun r m' k => (gives_ret _ _ _).1 k
    · exact fun h => h.mono fun r m' k => (gives_ret _ _ _).2 k
  rw [this]
def fnQ (P : Program) (rs : List ResultVar) (Q : Value → Mem → Prop) : CQ := fun r m => match r.1 with
  | .exit _ => False
  | _ => r.2.d = [] ∧ Gives (resX P r.2 rs) m fun vs m' => Q (retV vs) m'
@[simp] theorem fnQ_ret (rs : List ResultVar) (Q : Value → Mem → Prop) (fr : Fr) (m : Mem) : fnQ P rs Q (.ret, fr) m = (fr.d = [] ∧ Gives (resX P fr rs) m fun vs m' => Q (retV vs) m') := rfl
@[simp] theorem fnQ_normal (rs : List ResultVar) (Q : Value → Mem → Prop) (fr : Fr) (m : Mem) : fnQ P rs Q (.normal, fr) m = (fr.d = [] ∧ Gives (resX P fr rs) m fun vs m' => Q (retV vs) m') := rfl
theorem putArgs_get : ∀ (l : List Value) (i : Nat) (t : Trie Value) (j : Nat) , (putArgs l i t).get j = if i ≤ j ∧ j < i + l.length then l[j - i]? else t.get j
  | [], i, t, j => by unfold putArgs; rw [if_neg (by simp only [List.length_nil]; omega)]
  | v :: l, i, t, j => by
    unfold putArgs
    rw [putArgs_get l (i + 1)]
    simp only [List.length_cons]
    by_cases h : j = i
    · subst h
      rw [if_neg (by omega), if_pos (by omega), Trie.get_set_same _ _ _ _ (Nat.lt_succ_self _)]
      simp
    · by_cases h2 : i + 1 ≤ j ∧ j < i + 1 + l.length
      · rw [if_pos h2, if_pos (by omega)]
        rw [show j - i = (j - (i + 1)) + 1 by omega]
        rfl
      · rw [if_neg h2, if_neg (by omega), Trie.get_set_ne _ _ _ _ _ h]
theorem gives_fn {known : Known} {n : Nat} {f : FuncId} {fn : Func} {c : Code} {nt : Nat} {rs : List ResultVar} {args : List Value} (hk : known f args = none) (hf : P.funcs[f]? = some fn) (hb : fn.body = some c) (hn : fn.ntmps = nt) (hr : fn.results.toList = rs) (hl : args.length ≤ nt)
    {m : Mem} {Q : Value → Mem → Prop} (h : ∀ fr : Fr, fr.n = nt → fr.d = [] → (∀ i v, args[i]? = some v → fr.at i = v) → Gives (codeX P (callN P known n) c fr) m (fnQ P rs Q)) : Gives (callN P known (n + 1) f args) m Q := by
  subst hn; subst hr
  have e : callN P known (n + 1) f args = bodyX P (callN P known n) (fun base fr => runDX (deferredX P (callN P known n)) base fr.d) fn args := by
    conv => lhs; unfold callN
    simp only [hk, hf]
  rw [e]
  unfold bodyX
  simp only [hb]
  rw [gives_bind, gives_guard]
  refine ⟨by rw [Nat.ble_eq]; exact hl, ?_⟩
  rw [gives_bind]
  refine ⟨m.next, m, rfl, ?_⟩
  dsimp only
  rw [gives_bind, frK_eq, gives_ret, gives_bind]
  refine (h ⟨putArgs args 0 .leaf, fn.ntmps, []⟩ rfl rfl fun i v hi => ?_).mono fun r m' q => ?_
  · show ((putArgs args 0 .leaf).get i).getD undef = v
    have hlt : i < args.length := (List.getElem?_eq_some_iff.1 hi).1
    rw [putArgs_get, if_pos (by omega)]
    simp only [Nat.sub_zero, hi]; rfl
  · obtain ⟨e, fr'⟩ := r
    have fin : fnQ P fn.results.toList Q (.ret, fr') m' → Gives (do
        runDX (deferredX P (callN P known n)) m.next fr'.d
        let vs ← resX P fr' fn.results.toList
        match vs with
        | [v] => M.ret v
        | vs => M.ret (Value.tuple ⟨vs⟩)) m' Q := by
      rintro ⟨q1, q2⟩
      rw [gives_bind, q1]
      refine (gives_ret _ _ _).2 ?_
      rw [gives_bind]
      refine q2.mono fun vs m2 q3 => ?_
      match vs, q3 with
      | [], q3 => exact (gives_ret _ _ _).2 q3
      | [v], q3 => exact (gives_ret _ _ _).2 q3
      | _ :: _ :: _, q3 => exact (gives_ret _ _ _).2 q3
    cases e with
    | normal => exact fin q
    | exit i => exact q.elim
    | ret => exact fin q
/-- What is known. -/
theorem gives_known {known : Known} {n : Nat} {f : FuncId} {args : List Value} {g : M Value} (hk : known f args = some g) (m : Mem) (Q : Value → Mem → Prop) : Gives (callN P known (n + 1) f args) m Q ↔ Gives g m Q := by
  have e : callN P known (n + 1) f args = g := by
    conv => lhs; unfold callN
    simp only [hk]
  rw [e]

/-! ### Rows -/
def appOK (P : Program) (t u : TypeId) (sz : Nat) : Bool := match P.underlying t, P.underlying u with
  | some (.slice e), some (.slice _) => match P.info? e, zeroT P e with
    | some i, some z => i.size == sz && i.size == (cellsV z).length && Nat.blt 0 i.size && t == u && Nat.ble i.bytes 1048576
    | _, _ => false
  | _, _ => false
theorem app_spec {t u : TypeId} {sz : Nat} (h : appOK P t u sz = true) : 0 < sz ∧ ∃ e e' i z, P.underlying t = some (.slice e) ∧ P.underlying u = some (.slice e') ∧ P.info? e = some i ∧ zeroT P e = some z ∧ i.size = sz ∧
    (i.size == (cellsV z).length && Nat.blt 0 i.size && t == u && Nat.ble i.bytes 1048576) = true := by
  unfold appOK at h
  split at h
  · rename_i e e' h1 h2
    split at h
    · rename_i i z h3 h4
      simp only [Bool.and_eq_true, beq_iff_eq] at h
      obtain ⟨⟨⟨⟨h5, h6⟩, h7⟩, h8⟩, h9⟩ := h
      have h7' : 0 < i.size := by simpa [Nat.blt_eq] using h7
      refine ⟨by omega, e, e', i, z, h1, h2, h3, h4, h5, ?_⟩
      simp only [Bool.and_eq_true, beq_iff_eq]
      exact ⟨⟨⟨h6, h7⟩, h8⟩, h9⟩
    · cases h
  · cases h
theorem gives_append_new {t u : TypeId} {sz : Nat} (h : appOK P t u sz = true) {b o k c : Nat} {m : Mem} {Q : Value → Mem → Prop} {x : Blk} (hb : m.at b = some x) {new : List Value} (hn : takeN x.cells o (k * sz) = some new) (ho : new.all oneV = true) (hk : 0 < k) (hk2 : k ≤ 1048576)
    (q : Q (.slice (some ⟨m.next, 0, none⟩) k k) ((m.rd b).nw ⟨new, sz, true, false⟩)) : Gives (appendX P t u (.slice none 0 0) (.slice (some ⟨b, o, none⟩) k c)) m Q := by
  obtain ⟨_, e, e', i, z, h1, h2, h3, h4, h5, h6⟩ := app_spec h
  unfold appendX
  simp only [h1, h2, h3, h4, h6]
  rw [gives_bind, gives_guard]
  refine ⟨rfl, ?_⟩
  rw [gives_bind]
  unfold elemsX
  rw [gives_bind, gives_getB, hb, optQ_some, gives_ret, h5, hn]
  have hk0 : (k == 0) = false := by simp; omega
  simp only [sliceLen, hk0, cond_false]
  rw [gives_bind, gives_guard]
  refine ⟨by rw [Nat.ble_eq]; exact hk2, ?_⟩
  rw [gives_bind, gives_newX]
  exact ⟨ho, (gives_ret _ _ _).2 q⟩
theorem takeN_all {α : Type} : ∀ (l : List α), takeN l 0 l.length = some l
  | [] => rfl
  | x :: l => by show (takeN l 0 l.length).map _ = _; rw [takeN_all l]; rfl
theorem gives_append_grow {t u : TypeId} {sz : Nat} (h : appOK P t u sz = true) {b n b2 o k c : Nat} {m : Mem} {Q : Value → Mem → Prop} {old : List Value} (ha : m.at b = some ⟨old, sz, true, false⟩) (hlen : old.length = n * sz) {x : Blk} (hb : m.at b2 = some x) {new : List Value} (hn : takeN x.cells o (k * sz) = some new)
    (hoo : old.all oneV = true) (ho : new.all oneV = true) (hk : 0 < k) (hk2 : n + k ≤ 1048576)
    (q : Q (.slice (some ⟨m.next, 0, none⟩) (n + k) (n + k)) ((((m.rd b2).rd b).wr b none).nw ⟨old ++ new, sz, true, false⟩)) : Gives (appendX P t u (.slice (some ⟨b, 0, none⟩) n n) (.slice (some ⟨b2, o, none⟩) k c)) m Q := by
  obtain ⟨hsz, e, e', i, z, h1, h2, h3, h4, h5, h6⟩ := app_spec h
  unfold appendX
  simp only [h1, h2, h3, h4, h6]
  rw [gives_bind, gives_guard]
  refine ⟨rfl, ?_⟩
  rw [gives_bind]
  unfold elemsX
  rw [gives_bind, gives_getB, hb, optQ_some, gives_ret, h5, hn]
  dsimp only
  rw [gives_bind, gives_getB, Mem.at_rd, ha, optQ_some, gives_bind, gives_guard]
  have hc : Nat.ble (n + k) n = false := by rw [← Bool.not_eq_true, Nat.ble_eq]; omega
  have ht : takeN old 0 (n * sz) = some old := by rw [← hlen]; exact takeN_all old
  refine ⟨by simp only [sliceLen, Bool.and_eq_true, beq_self_eq_true, true_and, Nat.ble_eq]; exact hk2, ?_⟩
  simp only [sliceLen, hc, cond_false, ht, cond_true]
  rw [gives_bind, gives_guard]
  refine ⟨by simp [hlen], ?_⟩
  rw [gives_bind, gives_setB, gives_bind, gives_newX]
  refine ⟨by rw [List.all_append, hoo, ho]; rfl, (gives_ret _ _ _).2 ?_⟩
  exact q
def bsOK (P : Program) (t : TypeId) : Bool := match P.underlying t with
  | some (.slice e) => match sizeT P e, zeroT P e with
    | some n, some z => n == 1 && (cellsV z).length == 1
    | _, _ => false
  | _ => false
theorem gives_build1 {t : TypeId} (h : bsOK P t = true) {v : Value} (hv : cellsV v = [v]) (ho : oneV v = true) {m : Mem} {Q : Value → Mem → Prop} (q : Q (.slice (some ⟨m.next, 0, none⟩) 1 1) (m.nw ⟨[v], 1, false, false⟩)) : Gives (buildSliceX P t 1 [(0, v)]) m Q := by
  unfold bsOK at h
  split at h
  · rename_i e h1
    split at h
    · rename_i n z h2 h3
      simp only [Bool.and_eq_true, beq_iff_eq] at h
      obtain ⟨rfl, hz⟩ := h
      unfold buildSliceX
      simp only [h1, h2, h3]
      rw [gives_bind, gives_guard]
      refine ⟨by rw [hz]; rfl, ?_⟩
      have hrep : repeatL (cellsV z) 1 = cellsV z := by simp [repeatL]
      obtain ⟨y, hy⟩ : ∃ y, cellsV z = [y] := by
        cases hc : cellsV z with
        | nil => rw [hc] at hz; simp at hz
        | cons y l => cases l with
          | nil => exact ⟨y, rfl⟩
          | cons _ _ => rw [hc] at hz; simp at hz
      have hfill : fillX (fun i => some (i * 1, 1)) (repeatL (cellsV z) 1) [(0, v)] = some [v] := by
        rw [hrep, hy]
        simp [fillX, hv, layK]
        rfl
      rw [hfill]
      dsimp only
      rw [gives_bind, gives_newX]
      exact ⟨by simp [ho], (gives_ret _ _ _).2 q⟩
    · cases h
  · cases h

section
variable {ty : TypeId} {pos : String} {af : Array Edge} {d : Option Tmp} {g : Option (Nat × Bool)}
@[simp] theorem nd_move (x : Operand) : isDefer ⟨d, .move x, ty, pos, af, g⟩ = false := by cases d <;> rfl
@[simp] theorem nd_assign (x : Operand) : isDefer ⟨d, .assign x, ty, pos, af, g⟩ = false := by cases d <;> rfl
@[simp] theorem nd_pick (a b c : Operand) : isDefer ⟨d, .pick a b c, ty, pos, af, g⟩ = false := by cases d <;> rfl
@[simp] theorem nd_binOp (o : BinOp) (t u : TypeId) (x y : Operand) : isDefer ⟨d, .binOp o t x y u, ty, pos, af, g⟩ = false := by cases d <;> rfl
@[simp] theorem nd_unOp (o : UnOp) (t : TypeId) (x : Operand) : isDefer ⟨d, .unOp o t x, ty, pos, af, g⟩ = false := by cases d <;> rfl
@[simp] theorem nd_load (t : TypeId) (x : Operand) : isDefer ⟨d, .load t x, ty, pos, af, g⟩ = false := by cases d <;> rfl
@[simp] theorem nd_store (t : TypeId) (x y : Operand) : isDefer ⟨d, .store t x y, ty, pos, af, g⟩ = false := by cases d <;> rfl
@[simp] theorem nd_fieldAddr (t : TypeId) (x : Operand) (f : Nat) : isDefer ⟨d, .fieldAddr t x f, ty, pos, af, g⟩ = false := by cases d <;> rfl
@[simp] theorem nd_indexAddr (t : TypeId) (x y : Operand) : isDefer ⟨d, .indexAddr t x y, ty, pos, af, g⟩ = false := by cases d <;> rfl
@[simp] theorem nd_field (t : TypeId) (x : Operand) (f : Nat) : isDefer ⟨d, .field t x f, ty, pos, af, g⟩ = false := by cases d <;> rfl
@[simp] theorem nd_index (t : TypeId) (x y : Operand) : isDefer ⟨d, .index t x y, ty, pos, af, g⟩ = false := by cases d <;> rfl
@[simp] theorem nd_extract (x : Operand) (f : Nat) : isDefer ⟨d, .extract x f, ty, pos, af, g⟩ = false := by cases d <;> rfl
@[simp] theorem nd_convert (t u : TypeId) (x : Operand) : isDefer ⟨d, .convert t u x, ty, pos, af, g⟩ = false := by cases d <;> rfl
@[simp] theorem nd_call (c : Call) : isDefer ⟨d, .call c, ty, pos, af, g⟩ = false := by cases d <;> rfl
@[simp] theorem nd_box (t : TypeId) (x : Operand) : isDefer ⟨d, .box t x, ty, pos, af, g⟩ = false := by cases d <;> rfl
@[simp] theorem nd_alloc (t : TypeId) : isDefer ⟨d, .alloc t, ty, pos, af, g⟩ = false := by cases d <;> rfl
@[simp] theorem nd_buildSlice (t : TypeId) (n : Nat) (p : Array (Nat × Operand)) : isDefer ⟨d, .buildSlice t n p, ty, pos, af, g⟩ = false := by cases d <;> rfl
@[simp] theorem nd_build (t : TypeId) (p : Array (Nat × Operand)) : isDefer ⟨d, .build t p, ty, pos, af, g⟩ = false := by cases d <;> rfl
end
/-! ### Operations that a guard holds back -/
@[simp] theorem step_guard {ops : Array Oper} {fr : Fr} {m : Mem} {Q : Fr → Mem → Prop} {ty : TypeId} {pos : String} {af : Array Edge} {d : Option Tmp} {op : Op} {j : Nat} {w : Bool} (hd : isDefer ⟨d, op, ty, pos, af, none⟩ = false) :
    Gives (stepDX P call ops fr ⟨d, op, ty, pos, af, some (j, w)⟩) m Q ↔ if yieldX ops fr j = some w then Gives (stepDX P call ops fr ⟨d, op, ty, pos, af, none⟩) m Q else putQ fr d Q undef m := by
  have hd2 : isDefer ⟨d, op, ty, pos, af, some (j, w)⟩ = false := hd
  have h1 : ∀ g, isDefer ⟨d, op, ty, pos, af, g⟩ = false → stepDX P call ops fr ⟨d, op, ty, pos, af, g⟩ = stepX P call ops fr ⟨d, op, ty, pos, af, g⟩ := by
    intro g hg
    unfold stepDX
    cases op <;> first
      | rfl
      | (cases hg; done)
  rw [h1 _ hd, h1 _ hd2]
  unfold stepX wantX
  dsimp only
  by_cases hw : yieldX ops fr j = some w
  · have : (yieldX ops fr j == some w) = true := by simp [hw]
    rw [this, if_pos hw]
    exact Iff.rfl
  · have : (yieldX ops fr j == some w) = false := by simpa using hw
    rw [this, if_neg hw]
    simp only [cond_false]
    exact gives_put _ _ _ _ _

/-! ### Rows that grow -/
/-- One more element behind a list of one's own. -/
theorem gives_push {t : TypeId} (h : appOK P t t 1 = true) {b1 : Nat} {v x : Value} {l : List Value} {m : Mem} {Q : Value → Mem → Prop} {b : Nat} (hx : m.at b1 = some ⟨[x], 1, false, false⟩) (hl : (l = [] ∧ v = .slice none 0 0) ∨ (l ≠ [] ∧ v = .slice (some ⟨b, 0, none⟩) l.length l.length ∧ m.at b = some ⟨l, 1, true, false⟩ ∧ b ≠ m.next))
    (hoo : l.all oneV = true) (ho : oneV x = true) (hk : l.length < 1048576)
    (q : ∀ m', m'.next = m.next + 1 → m'.at m.next = some ⟨l ++ [x], 1, true, false⟩ → (∀ c, c ≠ b → c ≠ m.next → m'.at c = m.at c) → Q (.slice (some ⟨m.next, 0, none⟩) (l.length + 1) (l.length + 1)) m') :
    Gives (appendX P t t v (.slice (some ⟨b1, 0, none⟩) 1 1)) m Q := by
  rcases hl with ⟨rfl, rfl⟩ | ⟨hne, rfl, hb, hbn⟩
  · refine gives_append_new h hx (new := [x]) rfl (by simp [ho]) (by omega) (by omega) (q _ rfl ?_ ?_)
    · simp
    · intro c _ hc; simp [hc]
  · refine gives_append_grow h hb (by simp) hx (new := [x]) rfl hoo (by simp [ho]) (by omega) (by omega) (q _ rfl ?_ ?_)
    · simp
    · intro c hc hc2; simp [hc, hc2]
theorem code_draw_dyn {id : Nat} {ops : Array Oper} {plan : List Nat} (h : planX ops = some plan) {fr : Fr} {m : Mem} {Q : CQ} (hg : Gives (drawX P call ops ops.toList plan 0 [] fr) m (regQ Q)) : Gives (codeX P call (.region id ops true) fr) m Q := by
  rw [codeX]
  simp only [cond_true, h]
  rw [gives_bind]
  exact hg.mono fun v m' k => (gives_ret (Ex.normal, v) m' Q).2 k
@[simp] theorem draw_nil (ops : Array Oper) (as : List Nat) (i : Nat) (ls : List (Nat × List (Bool × Nat))) (fr : Fr) (m : Mem) (Q : Fr → Mem → Prop) : Gives (drawX P call ops [] as i ls fr) m Q ↔ Q fr m := by
  cases as <;> exact gives_ret _ _ _
def drawQ (P : Program) (call : Caller) (ops : Array Oper) (l : List Oper) (a : Nat) (as : List Nat) (i : Nat) (ls : List (Nat × List (Bool × Nat))) (log : List (Bool × Nat)) (Q : Fr → Mem → Prop) (fr : Fr) (m : Mem) : Prop :=
  apartAll a m.log ls = true ∧ Gives (drawX P call ops l as (i + 1) ((i, m.log) :: ls) fr) (m.lg (m.log ++ log)) Q
@[simp] theorem draw_cons (ops : Array Oper) (o : Oper) (hd : isDefer o = false) (l : List Oper) (a : Nat) (as : List Nat) (i : Nat) (ls : List (Nat × List (Bool × Nat))) (fr : Fr) (m : Mem) (Q : Fr → Mem → Prop) :
    Gives (drawX P call ops (o :: l) (a :: as) i ls fr) m Q ↔ Gives (stepDX P call ops fr o) (m.lg []) (drawQ P call ops l a as i ls m.log Q) := by
  have h1 : stepDX P call ops fr o = stepX P call ops fr o := by
    unfold stepDX
    cases hop : o.op <;> first
      | rfl
      | (unfold isDefer at hd; rw [hop] at hd; cases hd)
  rw [h1, drawX, gives_bind]
  constructor
  · rintro ⟨p, m', e, q⟩
    unfold M.logged at e
    cases hc : stepX P call ops fr o { m with log := [] } with
    | none => rw [hc] at e; cases e
    | some r =>
      rw [hc] at e
      simp only [Option.some.injEq, Prod.mk.injEq] at e
      obtain ⟨rfl, rfl⟩ := e
      dsimp only at q
      rw [gives_bind, gives_guard] at q
      exact ⟨r.1, r.2, hc, q⟩
  · rintro ⟨fr', m', e, q1, q2⟩
    refine ⟨(fr', m'.log), { m' with log := m'.log ++ m.log }, ?_, ?_⟩
    · unfold M.logged
      have : stepX P call ops fr o { m with log := [] } = some (fr', m') := e
      rw [this]
    · dsimp only
      rw [gives_bind, gives_guard]
      exact ⟨q1, q2⟩
end Go.Clean
