/- Flows in the clean executor: element.Check. -/
import Derived.Test.YtjddmnfdnnbbhaaGreatQAZ
set_option linter.unusedSimpArgs false
set_option linter.unusedVariables false
namespace Go.Proofs.YtjddmnfdnnbbhaaGreat
open Go.Clean
set_option maxRecDepth 10000 in
theorem run_ereals (n : Nat) (x : C) (m : Mem) (Q : Value → Mem → Prop) : Gives (callN Tryz.prog known (n + 4) 46 [cx x]) m Q ↔ Q (.bool (cwithin x lim)) m := by
  refine gives_pure (fun m => ?_) m Q
  refine gives_fn (nt := 5) rfl Tryz.func46 rfl rfl rfl (Nat.le_of_ble_eq_true rfl) fun fr hn hd hargs => ?_
  have h0 : fr.at 0 = _ := hargs 0 _ rfl
  clear hargs
  simp [h0, hn, hd, fv_lim, run_within]
set_option maxRecDepth 10000 in
theorem run_enought (n : Nat) (x : C) (m : Mem) (Q : Value → Mem → Prop) : Gives (callN Tryz.prog known (n + 1) 47 [cx x]) m Q ↔ Q (.bool (cnought x)) m := by
  refine gives_pure (fun m => ?_) m Q
  refine gives_fn (nt := 11) rfl Tryz.func47 rfl rfl rfl (Nat.le_of_ble_eq_true rfl) fun fr hn hd hargs => ?_
  have h0 : fr.at 0 = _ := hargs 0 _ rfl
  clear hargs
  cases hg : feq x.1 (some 0) <;>
  simp [h0, hn, hd, cx, cnought, hg, yieldX, bin_z]
/-- What a power's bits may be. -/
def pw0 : Nat := 0
def pw1 : Nat := 4607182418800017408
def pw2 : Nat := 4611686018427387904
def pw3 : Nat := 4613937818241073152
/-- An element of the law's: a kind, a power. -/
inductive KP : Int → Nat → Nat → Prop
  | s : KP 1 0 0
theorem fq00 (x y : Operand) : binX Tryz.prog .eql 26 x y (.float .f64 0) (.float .f64 0) = some (.bool true) := by kernel_rfl
section
set_option maxRecDepth 10000
set_option maxHeartbeats 2000000 in
theorem echeck_ok (d : Nat) {m : Mem} {k : Int} {p n : Nat} {a s : C} (hk : KP k p n) (ha : cwithin a lim = true) (hs : cwithin s lim = true) (h1 : k = 1 → cnought a = true) {Q : Value → Mem → Prop} (hQ : ∀ m', Up m m' → Q (.int .i64 0) m') :
    Gives (callN Tryz.prog known (d + 5) 36 [elV k a s p]) m Q := by
  refine gives_fn (nt := 68) rfl Tryz.func36 rfl rfl rfl (Nat.le_of_ble_eq_true rfl) fun fr hn hd hargs => ?_
  have h0 : fr.at 0 = _ := hargs 0 _ rfl
  clear hargs
  obtain ⟨m1, hm1⟩ : ∃ m1, m1 = m.nw ⟨elL k a s p, 1, false, false⟩ := ⟨_, rfl⟩
  have u1 : Up m m1 := by rw [hm1]; exact Up.nw _ _
  have e1 : m1.at m.next = some ⟨elL k a s p, 1, false, false⟩ := by rw [hm1]; simp
  have hkk : ¬ k < 1 ∧ ¬ 4 < k := by cases hk <;> decide
  have hpw : fle (fabs (some p)) lim = true ∧ cOf (some p) = p := by cases hk <;> decide
  have hpf : ∀ (n : Nat) (m : Mem) (Q : Value → Mem → Prop), Gives (callN Tryz.prog known (n + 2) 37 [.float .f64 p, fv lim]) m Q ↔ Q (.bool true) m := fun n m Q => by
    have := run_fwithin n (some p) lim m Q
    rw [show fv (some p) = .float .f64 p by unfold fv; rw [hpw.2], hpw.1] at this
    exact this
  refine (code_seq _ _ _ _ _).2 ?_
  simp [h0, hn, -code_seq]
  rw [← hm1]
  refine (code_seq _ _ _ _ _).2 ((code_seq _ _ _ _ _).2 (region_hid fun ops hops => ?_))
  have y3 : ∀ fr, yieldX ops fr 3 = boolOf (fr.at 8) := fun fr => by rw [hops]; rfl
  clear hops
  iterate 8 (refine (steps_cons _ _ _ _ _ _).2 ?_; simp [hn, e1, hkk.1, hkk.2, boolOf_bool, -code_seq, -steps_cons, y3])
  refine (code_seq _ _ _ _ _).2 ((code_seq _ _ _ _ _).2 (region_hid fun ops hops => ?_))
  have y4 : ∀ fr, yieldX ops fr 4 = boolOf (fr.at 17) := fun fr => by rw [hops]; rfl
  have y10 : ∀ fr, yieldX ops fr 10 = boolOf (fr.at 23) := fun fr => by rw [hops]; rfl
  clear hops
  iterate 16 (refine (steps_cons _ _ _ _ _ _).2 ?_; simp [hn, e1, run_ereals, ha, hs, fv_lim, hpf, boolOf_bool, -code_seq, -steps_cons, y4, y10])
  cases hk with
  | s =>
    have hz := h1 rfl
    simp [hn, hd, e1, run_enought, hz, yieldX, boolOf_bool, fq00]
    exact hQ _ (u1.trans (Up.same (by simp) fun c => by simp))
end
end Go.Proofs.YtjddmnfdnnbbhaaGreat

/- Flows in the clean executor: interfaces, element.of. -/
namespace Go.Clean
open Go Go.RowKit
section
variable {P : Program} {call : Caller} {ops : Array Oper} {fr : Fr} {m : Mem} {Q : Fr → Mem → Prop} {ty : TypeId} {pos : String} {af : Array Edge} {d : Option Tmp}
@[simp] theorem step_makeIface (t : TypeId) (x : Operand) : Gives (stepDX P call ops fr ⟨d, .makeInterface t x, ty, pos, af, none⟩) m Q ↔ optQ (ev fr x) fun a => optQ (ifaceX P t a) fun v => putQ fr d Q v m := by
  rw [step_any rfl rfl]; exact opt1
@[simp] theorem step_typeAssert (x : Operand) (u t : TypeId) (ok : Bool) : Gives (stepDX P call ops fr ⟨d, .typeAssert x u t ok, ty, pos, af, none⟩) m Q ↔ optQ (ev fr x) fun a => optQ (assertX P a t ok) fun v => putQ fr d Q v m := by
  rw [step_any rfl rfl]; exact opt1
def invQ (P : Program) (call : Caller) (name : String) (o : Option Value) (vs : Option (List Value)) (m : Mem) (K : Value → Mem → Prop) : Prop := match o, vs with
  | some (.iface t x), some vs => optQ (methodX P t name) fun f => Gives (call f (x :: vs)) m K
  | _, _ => False
@[simp] theorem invQ_some (name : String) (t : TypeId) (x : Value) (vs : List Value) (K : Value → Mem → Prop) : invQ P call name (some (.iface t x)) (some vs) m K = optQ (methodX P t name) fun f => Gives (call f (x :: vs)) m K := rfl
@[simp] theorem step_invoke (r : Operand) (name : String) (args : Array Operand) (ts : Array TypeId) : Gives (stepDX P call ops fr ⟨d, .call ⟨.invoke r name, args, ts⟩, ty, pos, af, none⟩) m Q ↔ invQ P call name (ev fr r) (evs fr args.toList) m (putQ fr d Q) := by
  rw [step_any rfl rfl]
  unfold opX callX
  simp only
  cases ev fr r with
  | none => exact gives_fail _ _
  | some a =>
    cases a <;> first
      | exact gives_fail _ _
      | skip
    rename_i t x
    cases evs fr args.toList with
    | none => exact gives_fail _ _
    | some vs =>
      rw [invQ_some]
      simp only
      cases methodX P t name with
      | none => exact gives_fail _ _
      | some f => exact Iff.rfl
end
end Go.Clean
namespace Go.Proofs.YtjddmnfdnnbbhaaGreat
open Go.Clean
def stV (s : C) : Value := .agg ⟨[cx s]⟩
def ifc (s : C) : Value := .iface 117 (stV s)
@[simp] theorem if_S (v : Value) : ifaceX Tryz.prog 117 v = some (.iface 117 v) := (by kernel_rfl : ifaceX Tryz.prog 117 v = some (.iface 117 v)).trans rfl
@[simp] theorem bd_S (s : C) : buildX Tryz.prog 117 [(0, cx s)] = some (stV s) := (by kernel_rfl : buildX Tryz.prog 117 [(0, cx s)] = some (stV s)).trans rfl
section
set_option maxRecDepth 10000
set_option maxHeartbeats 2000000 in
theorem eof_ok (d : Nat) {m : Mem} {k : Int} {p n : Nat} {a s : C} (hk : KP k p n) {Q : Value → Mem → Prop} (hQ : ∀ m', Up m m' → (m.log = [] → ∀ x ∈ m'.log, x.2 = m.next) → Q (ifc s) m') :
    Gives (callN Tryz.prog known (d + 2) 81 [elV k a s p]) m Q := by
  refine gives_fn (nt := 56) rfl Tryz.func81 rfl rfl rfl (Nat.le_of_ble_eq_true rfl) fun fr hn hd hargs => ?_
  have h0 : fr.at 0 = _ := hargs 0 _ rfl
  clear hargs
  obtain ⟨m1, hm1⟩ : ∃ m1, m1 = m.nw ⟨elL k a s p, 1, false, false⟩ := ⟨_, rfl⟩
  have u1 : Up m m1 := by rw [hm1]; exact Up.nw _ _
  have e1 : m1.at m.next = some ⟨elL k a s p, 1, false, false⟩ := by rw [hm1]; simp
  refine (code_seq _ _ _ _ _).2 ?_
  simp [h0, hn, -code_seq]
  rw [← hm1]
  cases hk with
  | s =>
    simp [hn, hd, e1, yieldX, boolOf_bool]
    exact hQ _ (u1.trans (Up.same (by simp) fun c => by simp)) fun hl => by simp [hm1, hl]
end
end Go.Proofs.YtjddmnfdnnbbhaaGreat

/- Flows in the clean executor: speeds of elements. -/
namespace Go.Proofs.YtjddmnfdnnbbhaaGreat
open Go.Clean
theorem wr1 : IntKind.i64.wrap 1 = 1 := by kernel_rfl
def cscale (x : C) (f : F) : C := (fmul x.1 f, fmul x.2 f)
section
set_option maxRecDepth 10000
theorem run_scale (n : Nat) (x : C) (f : F) (m : Mem) (Q : Value → Mem → Prop) : Gives (callN Tryz.prog known (n + 1) 44 [cx x, fv f]) m Q ↔ Q (cx (cscale x f)) m := by
  refine gives_pure (fun m => ?_) m Q
  refine gives_fn (nt := 14) rfl Tryz.func44 rfl rfl rfl (Nat.le_of_ble_eq_true rfl) fun fr hn hd hargs => ?_
  have h0 : fr.at 0 = _ := hargs 0 _ rfl
  have h1 : fr.at 1 = _ := hargs 1 _ rfl
  clear hargs
  simp [h0, h1, hn, hd, fv, cx, cscale]
end
@[simp] theorem me_S : methodX Tryz.prog 117 "eddy/element.speed" = some 107 := by kernel_rfl
@[simp] theorem cells_st (s : C) : cellsV (stV s) = [cx s] := rfl
@[simp] theorem elt_S : elemT Tryz.prog 117 = 1 := by kernel_rfl
@[simp] theorem fa_S0 (s : Nat) : fieldAddrX Tryz.prog 117 (.pointer (some ⟨s, 0, none⟩)) 0 = some (.pointer (some ⟨s, 0, none⟩)) := (by kernel_rfl : fieldAddrX Tryz.prog 117 (.pointer (some ⟨s, 0, none⟩)) 0 = some (.pointer (some ⟨s, 0, none⟩))).trans rfl
/-- An element's speed at the place less its own. -/
def spd (k : Int) (s d : C) (n : Nat) : C := s
section
set_option maxRecDepth 10000
theorem sspeed_ok (d : Nat) {m : Mem} {s z : C} {Q : Value → Mem → Prop} (hQ : ∀ m', Up m m' → Q (cx s) m') :
    Gives (callN Tryz.prog known (d + 1) 107 [stV s, cx z]) m Q := by
  refine gives_fn (nt := 7) rfl Tryz.func107 rfl rfl rfl (Nat.le_of_ble_eq_true rfl) fun fr hn hd hargs => ?_
  have h0 : fr.at 0 = _ := hargs 0 _ rfl
  clear hargs
  obtain ⟨m1, hm1⟩ : ∃ m1, m1 = m.nw ⟨[cx s], 1, false, false⟩ := ⟨_, rfl⟩
  have u1 : Up m m1 := by rw [hm1]; exact Up.nw _ _
  have e1 : m1.at m.next = some ⟨[cx s], 1, false, false⟩ := by rw [hm1]; simp
  refine (code_seq _ _ _ _ _).2 ?_
  simp [h0, hn, -code_seq]
  rw [← hm1]
  simp [hn, hd, e1]
  exact hQ _ (u1.trans (Up.same (by simp) fun c => by simp))
end
end Go.Proofs.YtjddmnfdnnbbhaaGreat

/- Flows in the clean executor: element.value, element.Speed. -/
namespace Go.Proofs.YtjddmnfdnnbbhaaGreat
open Go.Clean
@[simp] theorem as_stream_source (v : Value) : assertX Tryz.prog (.iface 117 v) 121 true = some (.tuple ⟨[.agg ⟨[.complex .f64 0 0]⟩, .bool false]⟩) := (by kernel_rfl : assertX Tryz.prog (.iface 117 v) 121 true = some (.tuple ⟨[.agg ⟨[.complex .f64 0 0]⟩, .bool false]⟩)).trans rfl
@[simp] theorem as_stream_doublet (v : Value) : assertX Tryz.prog (.iface 117 v) 123 true = some (.tuple ⟨[.agg ⟨[.complex .f64 0 0, .int .i64 0]⟩, .bool false]⟩) := (by kernel_rfl : assertX Tryz.prog (.iface 117 v) 123 true = some (.tuple ⟨[.agg ⟨[.complex .f64 0 0, .int .i64 0]⟩, .bool false]⟩)).trans rfl
@[simp] theorem as_stream_bend (v : Value) : assertX Tryz.prog (.iface 117 v) 126 true = some (.tuple ⟨[.agg ⟨[.complex .f64 0 0, .float .f64 0]⟩, .bool false]⟩) := (by kernel_rfl : assertX Tryz.prog (.iface 117 v) 126 true = some (.tuple ⟨[.agg ⟨[.complex .f64 0 0, .float .f64 0]⟩, .bool false]⟩)).trans rfl
@[simp] theorem ex2_0 (a b : Value) : extractX (.tuple ⟨[a, b]⟩) 0 = some a := (Eq.refl (some a)).trans rfl
@[simp] theorem ex2_1 (a b : Value) : extractX (.tuple ⟨[a, b]⟩) 1 = some b := (Eq.refl (some b)).trans rfl
section
set_option maxRecDepth 10000
theorem middle_ok (d : Nat) {m : Mem} {k : Int} {p n : Nat} {s : C} (hk : KP k p n) (h3 : k ≠ 3) {Q : Value → Mem → Prop} (hQ : ∀ m', Up m m' → Q (.tuple ⟨[.int .i64 0, .bool false]⟩) m') :
    Gives (callN Tryz.prog known (d + 1) 83 [ifc s, .int .i64 1]) m Q := by
  refine gives_fn (nt := 24) rfl Tryz.func83 rfl rfl rfl (Nat.le_of_ble_eq_true rfl) fun fr hn hd hargs => ?_
  have h0 : fr.at 0 = _ := hargs 0 _ rfl
  have h1 : fr.at 1 = _ := hargs 1 _ rfl
  clear hargs
  cases hk with
  | s =>
    simp [h0, h1, hn, hd, ifc, yieldX, boolOf_bool]
    exact hQ _ (Up.same (by simp) fun c => by simp)
end
end Go.Proofs.YtjddmnfdnnbbhaaGreat

/- Regions of free order, each operation of a kind: quiet, reads of what was there, one new block, a call that touches what is newer, whatever it be. -/
namespace Go.Clean
variable {P : Program} {call : Caller}
def okL (k c : Nat) (log : List (Bool × Nat)) : Prop := match c with
  | 0 => log = []
  | 1 => ∀ x ∈ log, x.1 = false ∧ x.2 < k
  | 2 => ∀ x ∈ log, x.2 = k
  | 3 => ∀ x ∈ log, k < x.2
  | _ => True
def compatC (c d : Nat) : Bool := c == 0 || d == 0 || (c == 1 && d == 1) || (c == 1 && d == 2) || (c == 2 && d == 1) || (c == 1 && d == 3) || (c == 3 && d == 1) || (c == 2 && d == 3) || (c == 3 && d == 2)
theorem apart_of {l l' : List (Bool × Nat)} (h : ∀ x ∈ l, ∀ y ∈ l', x.2 ≠ y.2 ∨ (x.1 = false ∧ y.1 = false)) : apartL l l' = true := by
  unfold apartL
  rw [List.all_eq_true]
  rintro ⟨x, b⟩ hx
  rw [List.all_eq_true]
  rintro ⟨y, c⟩ hy
  rcases h _ hx _ hy with h1 | ⟨h1, h2⟩
  · simp at h1 ⊢
    exact .inl h1
  · simp at h1 h2 ⊢
    subst h1 h2
    simp
theorem apart_cls {k c d : Nat} {l l' : List (Bool × Nat)} (h : okL k c l) (h' : okL k d l') (hc : compatC c d = true) : apartL l l' = true := by
  refine apart_of fun x hx y hy => ?_
  unfold compatC at hc
  simp only [Bool.or_eq_true, Bool.and_eq_true, beq_iff_eq] at hc
  rcases hc with (((((((h1 | h1) | h1) | h1) | h1) | h1) | h1) | h1) | h1
  · subst h1
    have : l = [] := h
    subst this; cases hx
  · subst h1
    have : l' = [] := h'
    subst this; cases hy
  all_goals
    obtain ⟨rfl, rfl⟩ := h1
    have e1 := h x hx
    have e2 := h' y hy
    first
      | exact .inr ⟨e1.1, e2.1⟩
      | exact .inl (by omega)
/-- The masks and kinds fit: what an operation does not wait for, it does not disturb. -/
def chkC : Nat → List Nat → List Nat → List Nat → Bool
  | _, _, [], [] => true
  | i, prev, a :: ms, c :: cs => ((List.range i).all fun j => a.testBit j || compatC c (prev.getD (i - 1 - j) 4)) && chkC (i + 1) (c :: prev) ms cs
  | _, _, _, _ => false
def drawK (P : Program) (call : Caller) (ops : Array Oper) (k : Nat) : List Oper → List Nat → Fr → Mem → (Fr → Mem → Prop) → Prop
  | [], _, fr, m, Q => Q fr m
  | _ :: _, [], _, _, _ => False
  | o :: l, c :: cs, fr, m, Q => Gives (stepDX P call ops fr o) (m.lg []) fun fr' m' => okL k c m'.log ∧ drawK P call ops k l cs fr' (m'.lg (m'.log ++ m.log)) Q
def drawKQ (P : Program) (call : Caller) (ops : Array Oper) (k c : Nat) (l : List Oper) (cs : List Nat) (log : List (Bool × Nat)) (Q : Fr → Mem → Prop) (fr : Fr) (m : Mem) : Prop := okL k c m.log ∧ drawK P call ops k l cs fr (m.lg (m.log ++ log)) Q
theorem drawK_nil (ops : Array Oper) (k : Nat) (cs : List Nat) (fr : Fr) (m : Mem) (Q : Fr → Mem → Prop) : drawK P call ops k [] cs fr m Q ↔ Q fr m := by cases cs <;> exact Iff.rfl
theorem drawK_cons (ops : Array Oper) (k : Nat) (o : Oper) (l : List Oper) (c : Nat) (cs : List Nat) (fr : Fr) (m : Mem) (Q : Fr → Mem → Prop) : drawK P call ops k (o :: l) (c :: cs) fr m Q ↔ Gives (stepDX P call ops fr o) (m.lg []) (drawKQ P call ops k c l cs m.log Q) := Iff.rfl
theorem drawK_draws {ops : Array Oper} {k : Nat} {Q : Fr → Mem → Prop} : ∀ (l : List Oper) (ms cs prev : List Nat) (i : Nat) (ls : List (Nat × List (Bool × Nat))) (fr : Fr) (m : Mem), l.length = ms.length → (l.all fun o => !isDefer o) = true → chkC i prev ms cs = true → prev.length = i → (∀ p ∈ ls, p.1 < i ∧ okL k (prev.getD (i - 1 - p.1) 4) p.2) → drawK P call ops k l cs fr m Q → Gives (drawX P call ops l ms i ls fr) m Q
  | [], ms, cs, prev, i, ls, fr, m, _, _, _, _, _, h => (draw_nil ops ms i ls fr m Q).2 ((drawK_nil ops k cs fr m Q).1 h)
  | o :: l, [], cs, prev, i, ls, fr, m, h, _, _, _, _, _ => by simp at h
  | o :: l, a :: ms, [], prev, i, ls, fr, m, _, _, h, _, _, _ => by simp [chkC] at h
  | o :: l, a :: ms, c :: cs, prev, i, ls, fr, m, hl, hd, hch, hp, hls, h => by
    rw [List.all_cons, Bool.and_eq_true] at hd
    unfold chkC at hch
    rw [Bool.and_eq_true] at hch
    rw [draw_cons ops o (by simpa using hd.1)]
    refine Gives.mono h fun fr' m' q => ⟨?_, drawK_draws l ms cs (c :: prev) (i + 1) ((i, m'.log) :: ls) fr' _ (by simpa using hl) hd.2 hch.2 (by simp [hp]) (fun p hpm => ?_) q.2⟩
    · have : ∀ ls' : List (Nat × List (Bool × Nat)), (∀ p ∈ ls', p.1 < i ∧ okL k (prev.getD (i - 1 - p.1) 4) p.2) → apartAll a m'.log ls' = true := by
        intro ls'
        induction ls' with
        | nil => intro _; rfl
        | cons x r ih =>
          intro hx
          obtain ⟨j, l'⟩ := x
          show ((a.testBit j || apartL m'.log l') && apartAll a m'.log r) = true
          rw [ih fun p hp => hx p (List.mem_cons_of_mem _ hp)]
          obtain ⟨h1, h2⟩ := hx (j, l') (List.mem_cons_self ..)
          have h3 := List.all_eq_true.1 hch.1 j (List.mem_range.2 h1)
          simp only [Bool.or_eq_true] at h3
          rcases h3 with h3 | h3
          · rw [h3]; simp
          · rw [apart_cls q.1 h2 h3]; simp
      exact this ls hls
    · rcases List.mem_cons.1 hpm with rfl | hpm
      · refine ⟨Nat.lt_succ_self _, ?_⟩
        rw [show i + 1 - 1 - i = 0 by omega]
        exact q.1
      · obtain ⟨h1, h2⟩ := hls p hpm
        refine ⟨by omega, ?_⟩
        rw [show i + 1 - 1 - p.1 = (i - 1 - p.1) + 1 by omega]
        exact h2
theorem code_draw_cls {id : Nat} {ops : Array Oper} {ms : List Nat} (cs : List Nat) (k : Nat) (h : planX ops = some ms) (hl : ops.toList.length = ms.length) (hd : (ops.toList.all fun o => !isDefer o) = true) (hc : chkC 0 [] ms cs = true) {fr : Fr} {m : Mem} {Q : CQ}
    (hg : ∀ ops' : Array Oper, drawK P call ops' k ops.toList cs fr m (regQ Q)) : Gives (codeX P call (.region id ops true) fr) m Q :=
  code_draw_dyn h (drawK_draws _ _ cs [] 0 [] _ _ hl hd hc rfl (fun p hp => by cases hp) (hg ops))
theorem okL_nil (k c : Nat) : okL k c [] := by
  unfold okL
  split
  · rfl
  all_goals first | exact fun x hx => by cases hx | trivial
theorem okL_nil' (k c : Nat) : okL k c [] ↔ True := ⟨fun _ => trivial, fun _ => okL_nil k c⟩
theorem okL_read (k b : Nat) (l : List (Bool × Nat)) : okL k 1 ((false, b) :: l) ↔ b < k ∧ okL k 1 l :=
  ⟨fun h => ⟨(h _ (List.mem_cons_self ..)).2, fun x hx => h x (List.mem_cons_of_mem _ hx)⟩, fun h x hx => by
    rcases List.mem_cons.1 hx with rfl | hx
    · exact ⟨rfl, h.1⟩
    · exact h.2 x hx⟩
theorem okL_new (k b : Nat) : okL k 2 [(true, b)] ↔ b = k := ⟨fun h => h _ (List.mem_cons_self ..), fun h x hx => by simp at hx; subst hx; exact h⟩
theorem okL_any (k : Nat) (l : List (Bool × Nat)) : okL k 4 l ↔ True := ⟨fun _ => trivial, fun _ => trivial⟩
attribute [simp] drawK_nil drawK_cons okL_nil' okL_read okL_new okL_any
end Go.Clean

/- Flows in the clean executor: element.value, element.Speed. -/
namespace Go.Proofs.YtjddmnfdnnbbhaaGreat
open Go.Clean
theorem Up.lg (m : Mem) (l : List (Bool × Nat)) : Up m (m.lg l) := Up.same (by simp) fun c => by simp
section
set_option maxRecDepth 10000
set_option maxHeartbeats 2000000 in
theorem evalue_ok (d : Nat) {m : Mem} {k : Int} {p n : Nat} {a s z : C} (hw : MW m) (hk : KP k p n) (ha : cwithin a lim = true) (hs : cwithin s lim = true) (hz : cwithin z lim = true) (h1 : k = 1 → cnought a = true) (h3 : k = 3 → cnought (csub z a) = false)
    (hf : cfin (spd k s (csub z a) n) = true) {Q : Value → Mem → Prop} (hQ : ∀ m', Up m m' → Q (.tuple ⟨[cx (spd k s (csub z a) n), .int .i64 0]⟩) m') :
    Gives (callN Tryz.prog known (d + 6) 77 [elV k a s p, cx z, .int .i64 1]) m Q := by
  refine gives_fn (nt := 57) rfl Tryz.func77 rfl rfl rfl (Nat.le_of_ble_eq_true rfl) fun fr hn hd hargs => ?_
  have h0 : fr.at 0 = _ := hargs 0 _ rfl
  have hz0 : fr.at 1 = _ := hargs 1 _ rfl
  have hg0 : fr.at 2 = _ := hargs 2 _ rfl
  clear hargs
  obtain ⟨m1, hm1⟩ : ∃ m1, m1 = m.nw ⟨elL k a s p, 1, false, false⟩ := ⟨_, rfl⟩
  have u1 : Up m m1 := by rw [hm1]; exact Up.nw _ _
  have e1 : m1.at m.next = some ⟨elL k a s p, 1, false, false⟩ := by rw [hm1]; simp
  obtain ⟨b, hb⟩ : ∃ b, b = m.next := ⟨_, rfl⟩
  have n1 : m1.next = b + 1 := by rw [hm1, hb]; simp
  refine (code_seq _ _ _ _ _).2 ?_
  simp [h0, hn, -code_seq]
  rw [← hm1, ← hb]
  rw [← hb] at e1
  clear hm1 hb
  refine (code_seq _ _ _ _ _).2 ((code_seq _ _ _ _ _).2 ?_)
  simp [hn, e1, -code_seq]
  refine echeck_ok d hk ha hs h1 fun m2 u2 => ?_
  have u2' := (u1.trans (Up.rd m1 b)).trans u2
  have w2 := u2'.wf hw
  have e2 : m2.at b = some ⟨elL k a s p, 1, false, false⟩ := u2.at (by simpa using e1) ((u1.trans (Up.rd m1 b)).wf hw)
  have n2 : b < m2.next := w2 b _ e2
  clear u2
  simp [hn, -code_seq]
  refine (code_seq _ _ _ _ _).2 ?_
  simp [hn, -code_seq]
  refine (code_seq _ _ _ _ _).2 ((code_seq _ _ _ _ _).2 ?_)
  simp [hn, hz0, run_ereals, hz, -code_seq]
  refine (code_seq _ _ _ _ _).2 ?_
  obtain ⟨kk, hkk⟩ : ∃ kk, kk = m2.next := ⟨_, rfl⟩
  refine code_draw_cls [1, 2, 0, 0, 1, 0, 0, 0] kk (ms := [0, 1, 0, 0, 8, 31, 63, 127]) (by kernel_rfl) rfl (by kernel_rfl) (by kernel_rfl) fun ops => ?_
  simp [drawKQ, hn, hz0, e2, show b < kk by omega, -code_seq]
  refine eof_ok _ hk fun m3 u3 l3 => ?_
  have u3' : Up m2 m3 := Up.trans (Up.same (by simp) fun c => by simp) u3
  have e3 : m3.at b = some ⟨elL k a s p, 1, false, false⟩ := u3'.at e2 w2
  have l3' : okL kk 2 m3.log := fun x hx => by rw [l3 rfl x hx, hkk]; simp
  simp [drawKQ, hn, hz0, e3, run_sub, l3', show b < kk by omega, -code_seq]
  obtain ⟨m4, hm4⟩ : ∃ m4, m4 = m3.lg m3.log := ⟨_, rfl⟩
  obtain ⟨l4, hl4⟩ : ∃ l4, l4 = m2.log := ⟨_, rfl⟩
  refine (code_seq _ _ _ _ _).2 (Gives.mono (Q := fun r m' => ∃ f, r = (.normal, f) ∧ f.n = 57 ∧ f.d = [] ∧ f.at 1 = cx z ∧ f.at 2 = .int .i64 1 ∧ f.at 9 = ifc s ∧ f.at 10 = cx (csub z a) ∧ Up m3 m') ?_ ?_)
  · cases hd0 : cnought (csub z a) with
    | false =>
      simp [hn, hd, hz0, hg0, run_enought, hd0]
      exact Up.lg _ _
    | true =>
      simp [hn, hd, hz0, hg0, run_enought, hd0]
      refine middle_ok _ hk (by cases hk; decide) fun m5 u5 => ?_
      simp [hn, hd, hz0, hg0]
      exact Up.trans (Up.lg _ _) u5
  · rintro _ m5 ⟨f, rfl, f1, f2, f3, f4, f5, f6, u5⟩
    have u5' : Up m m5 := u2'.trans (u3'.trans u5)
    clear u3' u5 u3 l3 l3'
    simp [f1, f2, f3, f4, f5, f6, ifc]
    refine sspeed_ok _ fun m6 u6 => ?_
    have hf' : cfin s = true := hf
    simp [f1, f2, f3, f4, f5, f6, run_finite, hf']
    exact hQ _ (u5'.trans u6)
theorem espeed_ok (d : Nat) {m : Mem} {k : Int} {p n : Nat} {a s z : C} (hw : MW m) (hk : KP k p n) (ha : cwithin a lim = true) (hs : cwithin s lim = true) (hz : cwithin z lim = true) (h1 : k = 1 → cnought a = true) (h3 : k = 3 → cnought (csub z a) = false)
    (hf : cfin (spd k s (csub z a) n) = true) {Q : Value → Mem → Prop} (hQ : ∀ m', Up m m' → Q (.tuple ⟨[cx (spd k s (csub z a) n), .int .i64 0]⟩) m') :
    Gives (callN Tryz.prog known (d + 7) 72 [elV k a s p, cx z]) m Q := by
  refine gives_fn (nt := 11) rfl Tryz.func72 rfl rfl rfl (Nat.le_of_ble_eq_true rfl) fun fr hn hd hargs => ?_
  have h0 : fr.at 0 = _ := hargs 0 _ rfl
  have hz0 : fr.at 1 = _ := hargs 1 _ rfl
  clear hargs
  obtain ⟨m1, hm1⟩ : ∃ m1, m1 = m.nw ⟨elL k a s p, 1, false, false⟩ := ⟨_, rfl⟩
  have u1 : Up m m1 := by rw [hm1]; exact Up.nw _ _
  have e1 : m1.at m.next = some ⟨elL k a s p, 1, false, false⟩ := by rw [hm1]; simp
  refine (code_seq _ _ _ _ _).2 ?_
  simp [h0, hn, -code_seq]
  rw [← hm1]
  simp [hn, hd, hz0, e1]
  refine evalue_ok _ ((u1.trans (Up.rd _ _)).wf hw) hk ha hs hz h1 h3 hf fun m2 u2 => ?_
  simp [hn, hd]
  exact hQ _ ((u1.trans (Up.rd _ _)).trans u2)
end
end Go.Proofs.YtjddmnfdnnbbhaaGreat

/- Flows in the clean executor: lists of elements, flow.Check. -/
namespace Go.Proofs.YtjddmnfdnnbbhaaGreat
open Go.Clean
structure El where
  k : Int
  a : C
  s : C
  p : Nat
  n : Nat
def El.cells (e : El) : List Value := elL e.k e.a e.s e.p
def El.val (e : El) : Value := elV e.k e.a e.s e.p
def flat : List El → List Value
  | [] => []
  | e :: l => .int .u8 e.k :: cx e.a :: cx e.s :: .float .f64 e.p :: flat l
/-- An element as the law makes it. -/
structure El.OK (e : El) : Prop where
  kp : KP e.k e.p e.n
  ha : cwithin e.a lim = true
  hs : cwithin e.s lim = true
  h1 : e.k = 1 → cnought e.a = true
/-- A list of elements in memory, grown one by one. -/
def EL (m : Mem) (v : Value) (es : List El) : Prop := (es = [] ∧ v = nilL) ∨ (es ≠ [] ∧ ∃ b gr, v = .slice (some ⟨b, 0, none⟩) es.length es.length ∧ m.at b = some ⟨flat es, 4, gr, false⟩)
theorem EL.up {m m' : Mem} {v : Value} {es : List El} (h : EL m v es) (hw : MW m) (u : Up m m') : EL m' v es := by
  rcases h with h | ⟨h, b, gr, h1, h2⟩
  · exact .inl h
  · exact .inr ⟨h, b, gr, h1, u.at h2 hw⟩
theorem len_Els (a : Option Addr) (n c : Nat) : lenX Tryz.prog 23 (.slice a n c) = some (.int .i64 n) := len_slice (e := 51) (by kernel_rfl) a n c
theorem EL.len {m : Mem} {v : Value} {es : List El} (h : EL m v es) : lenX Tryz.prog 23 v = some (.int .i64 es.length) := by
  rcases h with ⟨rfl, rfl⟩ | ⟨h, b, gr, rfl, h2⟩ <;> exact len_Els _ _ _
theorem EL.cells {m : Mem} {v : Value} {es : List El} (h : EL m v es) : cellsV v = [v] := by
  rcases h with ⟨rfl, rfl⟩ | ⟨h, b, gr, rfl, h2⟩ <;> simp
theorem EL.one {m : Mem} {v : Value} {es : List El} (h : EL m v es) : oneV v = true := by
  rcases h with ⟨rfl, rfl⟩ | ⟨h, b, gr, rfl, h2⟩ <;> simp
theorem takeN_flat : ∀ (es : List El) (i : Nat) (h : i < es.length), takeN (flat es) (i * 4) 4 = some (es[i]'h).cells
  | e :: l, 0, _ => by cases l <;> rfl
  | e :: l, i + 1, h => by
    rw [show (i + 1) * 4 = i * 4 + 1 + 1 + 1 + 1 by omega]
    exact takeN_flat l i (by simpa using h)
@[simp] theorem elt_Els : elemT Tryz.prog 23 = 1 := by kernel_rfl
theorem idx_El (b len cap i : Nat) (h : i < len) : indexAddrX Tryz.prog 23 (.slice (some ⟨b, 0, none⟩) len cap) (.int .i64 (i : Int)) = some (.pointer (some ⟨b, i * 4, none⟩)) := by
  have e : indexAddrX Tryz.prog 23 (.slice (some ⟨b, 0, none⟩) len cap) (.int .i64 (i : Int)) = bif decide (0 ≤ (i : Int) ∧ (i : Int) < (len : Int)) then some (.pointer (some ⟨b, 0 + (i : Int).toNat * 4, none⟩)) else none := by kernel_rfl
  rw [e, show decide (0 ≤ (i : Int) ∧ (i : Int) < (len : Int)) = true by simp; omega]
  simp
@[simp] theorem agg_Fw : Clean.isAgg Tryz.prog 25 = some true := by kernel_rfl
@[simp] theorem size_Fw : sizeT Tryz.prog 25 = some 1 := by kernel_rfl
@[simp] theorem elt_Fw : elemT Tryz.prog 25 = 1 := by kernel_rfl
@[simp] theorem ld_Fw (x : Value) : ldX Tryz.prog 25 [x] 0 = some (.agg ⟨[x]⟩) := (ld_agg agg_Fw size_Fw [x] 0).trans rfl
@[simp] theorem fa_Fw0 (s o : Nat) : fieldAddrX Tryz.prog 25 (.pointer (some ⟨s, o, none⟩)) 0 = some (.pointer (some ⟨s, o, none⟩)) := (by kernel_rfl : fieldAddrX Tryz.prog 25 (.pointer (some ⟨s, o, none⟩)) 0 = some (.pointer (some ⟨s, o, none⟩))).trans rfl
@[simp] theorem agg_Els : Clean.isAgg Tryz.prog 23 = some false := by kernel_rfl
@[simp] theorem size_Els : sizeT Tryz.prog 23 = some 1 := by kernel_rfl
@[simp] theorem ld_Els (cs : List Value) (o : Nat) : ldX Tryz.prog 23 cs o = cs[o]? := ld_one agg_Els cs o
theorem ld_El' {es : List El} {i : Nat} (h : i < es.length) : ldX Tryz.prog 51 (flat es) (i * 4) = some (es[i]'h).val := by
  rw [ld_agg agg_El size_El, takeN_flat es i h]; rfl
theorem sto_El (v : Value) : storeOK Tryz.prog 51 v = (4 == (cellsV v).length && (cellsV v).all oneV) := by unfold storeOK; rw [size_El]; rfl
def fcI (m0 : Mem) (v : Value) (es : List El) (k : Nat) (fr : Fr) (m' : Mem) : Prop := ∃ i, i + k = es.length ∧ fr.n = 23 ∧ fr.d = [] ∧ fr.at 11 = v ∧ fr.at 12 = .int .i64 es.length ∧ fr.at 13 = .int .i64 i ∧ MW m' ∧ EL m' v es ∧ Up m0 m'
def fcR (m0 : Mem) : CQ := fun r m' => r.1 = .exit 0 ∧ r.2.n = 23 ∧ r.2.d = [] ∧ Up m0 m'
section
set_option maxRecDepth 10000
set_option maxHeartbeats 2000000 in
theorem fcheck_ok (d : Nat) {m : Mem} {v : Value} {es : List El} (hw : MW m) (hv : EL m v es) (hl : es.length ≤ 3) (hes : ∀ e ∈ es, e.OK) {Q : Value → Mem → Prop} (hQ : ∀ m', Up m m' → Q (.int .i64 0) m') :
    Gives (callN Tryz.prog known (d + 6) 27 [.agg ⟨[v]⟩]) m Q := by
  refine gives_fn (nt := 23) rfl Tryz.func27 rfl rfl rfl (Nat.le_of_ble_eq_true rfl) fun fr hn hd hargs => ?_
  have h0 : fr.at 0 = _ := hargs 0 _ rfl
  clear hargs
  obtain ⟨m1, hm1⟩ : ∃ m1, m1 = m.nw ⟨[v], 1, false, false⟩ := ⟨_, rfl⟩
  have u1 : Up m m1 := by rw [hm1]; exact Up.nw _ _
  have e1 : m1.at m.next = some ⟨[v], 1, false, false⟩ := by rw [hm1]; simp
  have hlt : ¬ (256 : Int) < (es.length : Int) := by omega
  refine (code_seq _ _ _ _ _).2 ?_
  simp [h0, hn, hv.one, -code_seq]
  rw [← hm1]
  simp [hn, e1, hv.len, hlt]
  have u2 : ∀ M : Mem, M.next = m1.next → (∀ c, M.at c = m1.at c) → Up m M := fun M h1 h2 => u1.trans (Up.same h1 h2)
  refine code_loop_post (fcR m) (fcI m v es) es.length (by omega) ⟨0, by simp, by simp [hn], by simp [hd], by simp, by simp, by simp, (u2 _ (by simp) fun c => by simp).wf hw, hv.up hw (u2 _ (by simp) fun c => by simp), u2 _ (by simp) fun c => by simp⟩ ?_ ?_
  · rintro k f m2 ⟨i, hik, f1, f2, f3, f4, f5, w2, v2, u3⟩
    by_cases hi : i < es.length
    · rcases v2 with ⟨rfl, -⟩ | ⟨hne, b, gr, hv2, hb2⟩
      · simp at hi
      · have hok := hes _ (List.getElem_mem hi)
        simp [f1, f2, f3, f4, f5, hi, hv2, idx_El _ _ _ _ hi, hb2, ld_El' hi, zero_El]
        refine ⟨rfl, storeQ_rule (y := ⟨[.int .u8 0, .complex .f64 0 0, .complex .f64 0 0, .float .f64 0], 1, false, false⟩) (by simp) rfl (by rw [sto_El]; rfl) (l := (es[i]'hi).cells) rfl fun m4 n4 l4 e4 => ?_⟩
        simp only [Mem.next_rd, Mem.next_nw, Mem.at_rd, Mem.at_nw] at n4 e4
        have u4 : Up m2 m4 := Up.wr (m1 := (m2.rd b).nw ⟨[.int .u8 0, .complex .f64 0 0, .complex .f64 0 0, .float .f64 0], 1, false, false⟩) (Up.trans (Up.rd _ _) (Up.nw _ _)) (Nat.le_refl _) (by simp) (by simpa using n4) (fun c => by simpa using e4 c)
        have e5 : m4.at m2.next = some ⟨elL es[i].k es[i].a es[i].s es[i].p, 1, false, false⟩ := by rw [e4, if_pos rfl]; rfl
        simp [f1, e5]
        refine echeck_ok d hok.kp hok.ha hok.hs hok.h1 fun m6 u6 => ?_
        have u6' : Up m2 m6 := Up.trans u4 (Up.trans (Up.rd _ _) u6)
        simp [f1, f2, f5, wrap_succ i (by omega)]
        exact ⟨es.length - (i + 1), by omega, i + 1, by omega, by simp [f1], by simp [f2], by simp [f3, hv2], by simp [f4], by simp, u6'.wf w2, EL.up (.inr ⟨hne, b, gr, rfl, hb2⟩) w2 u6', u3.trans u6'⟩
    · simp [f1, f2, f4, f5, hi]
      exact ⟨rfl, by simp [f1], by simp [f2], u3⟩
  · rintro ⟨e, f⟩ m2 ⟨he, f1, f2, u3⟩
    obtain rfl : e = .exit 0 := he
    simp only at f1 f2
    simp [f1, f2]
    exact hQ _ u3
end
end Go.Proofs.YtjddmnfdnnbbhaaGreat
