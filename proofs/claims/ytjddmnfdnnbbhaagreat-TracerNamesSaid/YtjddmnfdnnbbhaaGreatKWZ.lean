/- The clean executor walked by hand: what each operation comes to, in symbols. -/
import Derived.Test.YtjddmnfdnnbbhaaGreatKTZ
set_option linter.unusedSimpArgs false
set_option linter.unusedVariables false
set_option linter.unusedVariables false
set_option linter.unusedSimpArgs false
namespace Go.Clean
open Go Go.RowKit
variable {P : Program} {call : Caller}

def Gives {α : Type} (f : M α) (m : Mem) (Q : α → Mem → Prop) : Prop := ∃ a m', f m = some (a, m') ∧ Q a m'
theorem Gives.mono {α : Type} {f : M α} {m : Mem} {Q R : α → Mem → Prop} (h : Gives f m Q) (k : ∀ a m', Q a m' → R a m') : Gives f m R := by
  obtain ⟨a, m', e, q⟩ := h
  exact ⟨a, m', e, k a m' q⟩

def optQ {α : Type} (o : Option α) (k : α → Prop) : Prop := match o with
  | some a => k a
  | none => False
@[simp] theorem optQ_some {α : Type} (a : α) (k : α → Prop) : optQ (some a) k = k a := rfl
@[simp] theorem optQ_none {α : Type} (k : α → Prop) : optQ none k = False := rfl
/-! ### Memory -/
def Mem.at (m : Mem) (b : Nat) : Option Blk := m.t.get b
def Mem.rd (m : Mem) (b : Nat) : Mem := { m with log := (false, b) :: m.log }
def Mem.wr (m : Mem) (b : Nat) (x : Option Blk) : Mem := { m with t := Trie.set x (b + 1) m.t b, log := (true, b) :: m.log }
def Mem.nw (m : Mem) (x : Blk) : Mem := { t := Trie.set (some x) (m.next + 1) m.t m.next, next := m.next + 1, log := (true, m.next) :: m.log }
@[simp] theorem Mem.at_rd (m : Mem) (b c : Nat) : (m.rd b).at c = m.at c := by cases m; rfl
@[simp] theorem Mem.at_lg (m : Mem) (l : List (Bool × Nat)) (c : Nat) : (m.lg l).at c = m.at c := by cases m; rfl
@[simp] theorem Mem.at_wr (m : Mem) (b : Nat) (x : Option Blk) (c : Nat) : (m.wr b x).at c = if c = b then x else m.at c := by
  show Trie.get (Trie.set x (b + 1) m.t b) c = _
  by_cases h : c = b
  · subst h; rw [if_pos rfl]; exact Trie.get_set_same _ _ _ _ (Nat.lt_succ_self _)
  · rw [if_neg h]; exact Trie.get_set_ne _ _ _ _ _ h
@[simp] theorem Mem.at_nw (m : Mem) (x : Blk) (c : Nat) : (m.nw x).at c = if c = m.next then some x else m.at c := by
  show Trie.get (Trie.set (some x) (m.next + 1) m.t m.next) c = _
  by_cases h : c = m.next
  · subst h; rw [if_pos rfl]; exact Trie.get_set_same _ _ _ _ (Nat.lt_succ_self _)
  · rw [if_neg h]; exact Trie.get_set_ne _ _ _ _ _ h
@[simp] theorem Mem.lg_lg (m : Mem) (a b : List (Bool × Nat)) : (m.lg a).lg b = m.lg b := by cases m; rfl
@[simp] theorem Mem.rd_lg (m : Mem) (a : List (Bool × Nat)) (b : Nat) : (m.lg a).rd b = m.lg ((false, b) :: a) := by cases m; rfl
@[simp] theorem Mem.lg_rd (m : Mem) (b : Nat) (l : List (Bool × Nat)) : (m.rd b).lg l = m.lg l := by cases m; rfl
@[simp] theorem Mem.next_rd (m : Mem) (b : Nat) : (m.rd b).next = m.next := by cases m; rfl
@[simp] theorem Mem.next_lg (m : Mem) (l : List (Bool × Nat)) : (m.lg l).next = m.next := by cases m; rfl
@[simp] theorem Mem.next_wr (m : Mem) (b : Nat) (x : Option Blk) : (m.wr b x).next = m.next := by cases m; rfl
@[simp] theorem Mem.next_nw (m : Mem) (x : Blk) : (m.nw x).next = m.next + 1 := by cases m; rfl
@[simp] theorem Mem.log_rd (m : Mem) (b : Nat) : (m.rd b).log = (false, b) :: m.log := by cases m; rfl
@[simp] theorem Mem.log_lg (m : Mem) (l : List (Bool × Nat)) : (m.lg l).log = l := by cases m; rfl
@[simp] theorem Mem.log_wr (m : Mem) (b : Nat) (x : Option Blk) : (m.wr b x).log = (true, b) :: m.log := by cases m; rfl
@[simp] theorem Mem.log_nw (m : Mem) (x : Blk) : (m.nw x).log = (true, m.next) :: m.log := by cases m; rfl

/-! ### Frames -/
def Fr.upd (fr : Fr) (d : Nat) (v : Value) : Fr := { fr with t := Trie.set (some v) (d + 1) fr.t d }
@[simp] theorem Fr.at_upd (fr : Fr) (d : Nat) (v : Value) (e : Nat) : (fr.upd d v).at e = if e = d then v else fr.at e := by
  show (Trie.get (Trie.set (some v) (d + 1) fr.t d) e).getD undef = _
  by_cases h : e = d
  · subst h; rw [if_pos rfl, Trie.get_set_same _ _ _ _ (Nat.lt_succ_self _)]; rfl
  · rw [if_neg h, Trie.get_set_ne _ _ _ _ _ h]; rfl
@[simp] theorem Fr.n_upd (fr : Fr) (d : Nat) (v : Value) : (fr.upd d v).n = fr.n := by cases fr; rfl
@[simp] theorem Fr.d_upd (fr : Fr) (d : Nat) (v : Value) : (fr.upd d v).d = fr.d := by cases fr; rfl

@[simp] theorem ev_tmp (fr : Fr) (t : Nat) : ev fr (.tmp t) = some (fr.at t) := by cases fr; rfl
@[simp] theorem ev_const (fr : Fr) (v : Value) (h : plainV v = true) : ev fr (.const v) = some v := by simp [ev, h]
@[simp] theorem ev_func (fr : Fr) (f : FuncId) : ev fr (.func f) = some (.func (.func f) #[] #[]) := by cases fr; rfl
def ocons {α : Type} (o : Option α) (l : Option (List α)) : Option (List α) := o.bind fun v => l.bind fun vs => some (v :: vs)
@[simp] theorem ocons_some {α : Type} (v : α) (l : List α) : ocons (some v) (some l) = some (v :: l) := by cases l <;> rfl
def otag (i : Nat) (o : Option Value) : Option (Nat × Value) := o.map fun v => (i, v)
@[simp] theorem otag_some (i : Nat) (v : Value) : otag i (some v) = some (i, v) := by cases v <;> rfl
def oso (o : Option Value) : Option (Option Value) := o.map some
@[simp] theorem oso_some (v : Value) : oso (some v) = some (some v) := by cases v <;> rfl
@[simp] theorem evs_nil (fr : Fr) : evs fr [] = some [] := by cases fr; rfl
@[simp] theorem evs_cons (fr : Fr) (x : Operand) (l : List Operand) : evs fr (x :: l) = ocons (ev fr x) (evs fr l) := by
  rw [evs]
  cases ev fr x with
  | none => rfl
  | some v => cases evs fr l <;> rfl
@[simp] theorem parts_nil (fr : Fr) : parts fr [] = some [] := by cases fr; rfl
@[simp] theorem parts_cons (fr : Fr) (i : Nat) (x : Operand) (l : List (Nat × Operand)) : parts fr ((i, x) :: l) = ocons (otag i (ev fr x)) (parts fr l) := by
  rw [parts]
  cases ev fr x with
  | none => rfl
  | some v => cases parts fr l <;> rfl

/-! ### The walk's continuations -/
def putQ (fr : Fr) (dst : Option Tmp) (Q : Fr → Mem → Prop) (v : Value) (m : Mem) : Prop := match dst with
  | none => Q fr m
  | some d => d < fr.n ∧ Q (fr.upd d v) m
@[simp] theorem putQ_some (fr : Fr) (d : Tmp) (Q : Fr → Mem → Prop) (v : Value) (m : Mem) : putQ fr (some d) Q v m = (d < fr.n ∧ Q (fr.upd d v) m) := rfl
@[simp] theorem putQ_none (fr : Fr) (Q : Fr → Mem → Prop) (v : Value) (m : Mem) : putQ fr none Q v m = Q fr m := rfl
theorem gives_put (fr : Fr) (dst : Option Tmp) (v : Value) (m : Mem) (Q : Fr → Mem → Prop) : Gives (fr.put dst v) m Q ↔ putQ fr dst Q v m := by
  cases dst with
  | none => exact ⟨fun ⟨a, m', h, q⟩ => (by cases h; exact q), fun q => ⟨fr, m, rfl, q⟩⟩
  | some d =>
    unfold Gives Fr.put
    simp only [putK_eq, putQ_some]
    by_cases h : d < fr.n
    · simp only [h, if_true, true_and, Option.some.injEq, Prod.mk.injEq]
      exact ⟨fun ⟨a, m', ⟨h1, h2⟩, q⟩ => (by subst h1; subst h2; exact q), fun q => ⟨_, m, ⟨rfl, rfl⟩, q⟩⟩
    · simp [h]

theorem gives_ret {α : Type} (a : α) (m : Mem) (Q : α → Mem → Prop) : Gives (M.ret a) m Q ↔ Q a m := ⟨fun ⟨_, _, h, q⟩ => (by cases h; exact q), fun q => ⟨a, m, rfl, q⟩⟩
theorem gives_fail {α : Type} (m : Mem) (Q : α → Mem → Prop) : Gives (M.fail : M α) m Q ↔ False := ⟨fun ⟨_, _, h, _⟩ => (by cases h), False.elim⟩
theorem gives_lift {α : Type} (o : Option α) (m : Mem) (Q : α → Mem → Prop) : Gives (M.lift o) m Q ↔ optQ o fun a => Q a m := by
  cases o
  · exact gives_fail m Q
  · exact gives_ret _ m Q
theorem gives_bind {α β : Type} (f : M α) (g : α → M β) (m : Mem) (Q : β → Mem → Prop) : Gives (f >>= g) m Q ↔ Gives f m fun a m' => Gives (g a) m' Q := by
  constructor
  · rintro ⟨b, m', h, q⟩
    obtain ⟨a, m1, h1, h2⟩ := bind_some h
    exact ⟨a, m1, h1, b, m', h2, q⟩
  · rintro ⟨a, m1, h1, b, m', h2, q⟩
    exact ⟨b, m', by rw [bind_eq h1, h2], q⟩
theorem gives_guard (b : Bool) (m : Mem) (Q : Unit → Mem → Prop) : Gives (M.guard b) m Q ↔ b = true ∧ Q () m := by
  cases b
  · exact ⟨fun ⟨_, _, h, _⟩ => (by cases h), fun h => (by cases h.1)⟩
  · exact ⟨fun ⟨_, _, h, q⟩ => (by cases h; exact ⟨rfl, q⟩), fun h => ⟨(), m, rfl, h.2⟩⟩
theorem gives_getB (b : Nat) (m : Mem) (Q : Blk → Mem → Prop) : Gives (getB b) m Q ↔ optQ (m.at b) fun x => Q x (m.rd b) := by
  unfold Gives getB Mem.at
  cases m.t.get b with
  | none => simp
  | some x => exact ⟨fun ⟨a, m', h, q⟩ => (by cases h; exact q), fun q => ⟨x, _, rfl, q⟩⟩
theorem gives_setB (b : Nat) (x : Option Blk) (m : Mem) (Q : Unit → Mem → Prop) : Gives (setB b x) m Q ↔ Q () (m.wr b x) := by
  unfold Gives
  rw [setB_eq]
  exact ⟨fun ⟨a, m', h, q⟩ => (by cases h; exact q), fun q => ⟨(), _, rfl, q⟩⟩
theorem gives_newB (x : Blk) (m : Mem) (Q : Nat → Mem → Prop) : Gives (newB x) m Q ↔ Q m.next (m.nw x) := by
  unfold Gives
  rw [newB_eq]
  exact ⟨fun ⟨a, m', h, q⟩ => (by cases h; exact q), fun q => ⟨_, _, rfl, q⟩⟩
theorem gives_newX (cells : List Value) (sz : Nat) (grow : Bool) (m : Mem) (Q : Nat → Mem → Prop) : Gives (newX cells sz grow) m Q ↔ cells.all oneV = true ∧ Q m.next (m.nw { cells, sz, grow, ro := false }) := by
  have : (fun m => valsK cells fun cells => newB { cells, sz, grow, ro := false } m) = newB { cells, sz, grow, ro := false } := by funext m; rw [valsK_eq]
  have h2 : newX cells sz grow = (M.guard (cells.all oneV) >>= fun _ => newB { cells, sz, grow, ro := false }) := congrArg (fun g => M.guard (cells.all oneV) >>= fun _ => g) this
  rw [h2, gives_bind, gives_guard]
  exact and_congr_right fun _ => gives_newB _ _ _

/-! ### Loads and stores -/
def ldX (P : Program) (t : TypeId) (cs : List Value) (o : Nat) : Option Value := match isAgg P t with
  | some true => match sizeT P t with
    | some n => (takeN cs o n).map fun l => .agg ⟨l⟩
    | none => none
  | some false => cs[o]?
  | none => none
theorem ld_one {t : TypeId} (h : isAgg P t = some false) (cs : List Value) (o : Nat) : ldX P t cs o = cs[o]? := by unfold ldX; rw [h]
theorem ld_agg {t : TypeId} {n : Nat} (h : isAgg P t = some true) (hs : sizeT P t = some n) (cs : List Value) (o : Nat) : ldX P t cs o = (takeN cs o n).map fun l => .agg ⟨l⟩ := by unfold ldX; simp only [h, hs]
def loadQ (P : Program) (t : TypeId) (p : Value) (m : Mem) (Q : Value → Mem → Prop) : Prop := match p with
  | .pointer (some ⟨b, o, none⟩) => optQ (m.at b) fun x => optQ (ldX P t x.cells o) fun v => Q v (m.rd b)
  | _ => False
@[simp] theorem loadQ_ptr (t : TypeId) (b o : Nat) (m : Mem) (Q : Value → Mem → Prop) : loadQ P t (.pointer (some ⟨b, o, none⟩)) m Q = optQ (m.at b) fun x => optQ (ldX P t x.cells o) fun v => Q v (m.rd b) := rfl
theorem gives_load (t : TypeId) (p : Value) (m : Mem) (Q : Value → Mem → Prop) : Gives (loadX P t p) m Q ↔ loadQ P t p m Q := by
  unfold loadX
  split
  · rename_i b o
    rw [gives_bind, gives_getB, loadQ_ptr]
    cases m.at b with
    | none => exact Iff.rfl
    | some x =>
      simp only [optQ_some]
      unfold ldX
      cases isAgg P t with
      | none => exact gives_fail _ _
      | some a =>
        cases a with
        | false => exact gives_lift _ _ _
        | true => 
          cases sizeT P t with
          | none => exact gives_fail _ _
          | some n => exact gives_lift _ _ _
  · rename_i hne
    have : loadQ P t p m Q = False := by
      unfold loadQ
      split
      · exact absurd rfl (hne _ _)
      · rfl
    rw [this]
    exact gives_fail _ _

def storeOK (P : Program) (t : TypeId) (x : Value) : Bool := sizeT P t == some (cellsV x).length && (cellsV x).all oneV
def storeQ (P : Program) (t : TypeId) (p x : Value) (m : Mem) (Q : Mem → Prop) : Prop := match p with
  | .pointer (some ⟨b, o, none⟩) => optQ (m.at b) fun y => y.ro = false ∧ storeOK P t x = true ∧ optQ (lay y.cells o (cellsV x)) fun l => Q ((m.rd b).wr b (some { y with cells := l }))
  | _ => False
theorem storeQ_ptr (t : TypeId) (b o : Nat) (x : Value) (m : Mem) (Q : Mem → Prop) : storeQ P t (.pointer (some ⟨b, o, none⟩)) x m Q =
    optQ (m.at b) fun y => y.ro = false ∧ storeOK P t x = true ∧ optQ (lay y.cells o (cellsV x)) fun l => Q ((m.rd b).wr b (some { y with cells := l })) := rfl
theorem storeQ_rule {t : TypeId} {b o : Nat} {x : Value} {m : Mem} {Q : Mem → Prop} {y : Blk} (hy : m.at b = some y) (hro : y.ro = false) (hok : storeOK P t x = true) {l : List Value} (hl : lay y.cells o (cellsV x) = some l)
    (q : ∀ m3 : Mem, m3.next = m.next → m3.log = (true, b) :: (false, b) :: m.log → (∀ c, m3.at c = if c = b then some { y with cells := l } else m.at c) → Q m3) : storeQ P t (.pointer (some ⟨b, o, none⟩)) x m Q := by
  rw [storeQ_ptr, hy, optQ_some]
  refine ⟨hro, hok, ?_⟩
  rw [hl, optQ_some]
  exact q _ rfl rfl fun c => by simp
theorem gives_laid {α : Type} (cs : List Value) (o : Nat) (vs : List Value) (g : List Value → M α) (m : Mem) (Q : α → Mem → Prop) : Gives (fun m => layK cs o vs fun
      | some l => g l m
      | none => none) m Q ↔ optQ (lay cs o vs) fun l => Gives (g l) m Q := by
  unfold Gives
  simp only [layK_eq]
  cases lay cs o vs with
  | none => simp
  | some l => simp
theorem gives_store (t : TypeId) (p x : Value) (m : Mem) (Q : Value → Mem → Prop) : Gives (storeX P t p x) m Q ↔ storeQ P t p x m (Q undef) := by
  unfold storeX
  split
  · rename_i b o
    rw [gives_bind, gives_getB, storeQ_ptr]
    cases m.at b with
    | none => exact Iff.rfl
    | some y =>
      simp only [optQ_some]
      refine (gives_bind _ _ _ _).trans ((gives_guard _ _ _).trans ?_)
      unfold storeOK
      simp only [Bool.and_eq_true, Bool.not_eq_true', and_assoc]
      refine and_congr_right fun _ => and_congr_right fun _ => and_congr_right fun _ => (gives_laid _ _ _ (fun l => (do setB b (some { y with cells := l }); M.ret undef)) _ _).trans ?_
      cases lay y.cells o (cellsV x) with
      | none => exact Iff.rfl
      | some l => simp only [optQ_some]; rw [gives_bind, gives_setB, gives_ret]
  · rename_i hne
    have : storeQ P t p x m (Q undef) = False := by
      unfold storeQ
      split
      · exact absurd rfl (hne _ _)
      · rfl
    rw [this]
    exact gives_fail _ _
theorem lay_one (cs : List Value) (o : Nat) (v : Value) : lay cs o [v] = if o < cs.length then some (cs.set o v) else none := by
  induction cs generalizing o with
  | nil => simp [lay]
  | cons c cs ih =>
    cases o with
    | zero => simp [lay]
    | succ o =>
      rw [lay, ih]
      simp only [List.length_cons, Nat.add_lt_add_iff_right, List.set_cons_succ]
      split <;> rfl

theorem storeQ_one {t : TypeId} {b o sz : Nat} {gr : Bool} {cs : List Value} {x : Value} {m : Mem} {Q : Mem → Prop} (hy : m.at b = some ⟨cs, sz, gr, false⟩) (hok : storeOK P t x = true) (hx : cellsV x = [x]) (ho : o < cs.length)
    (q : ∀ m3 : Mem, m3.next = m.next → m3.log = (true, b) :: (false, b) :: m.log → (∀ c, m3.at c = if c = b then some ⟨cs.set o x, sz, gr, false⟩ else m.at c) → Q m3) : storeQ P t (.pointer (some ⟨b, o, none⟩)) x m Q :=
  storeQ_rule hy rfl hok (by rw [hx]; exact (lay_one cs o x).trans (if_pos ho)) q

/-! ### Operations, one by one -/
section
variable {ops : Array Oper} {fr : Fr} {m : Mem} {Q : Fr → Mem → Prop} {ty : TypeId} {pos : String} {af : Array Edge} {d : Option Tmp}
theorem step_any {o : Oper} (hg : o.guard = none) (hd : isDefer o = false) : Gives (stepDX P call ops fr o) m Q ↔ Gives (opX P call fr o) m (putQ fr o.dst Q) := by
  have h1 : stepDX P call ops fr o = stepX P call ops fr o := by
    unfold stepDX
    cases hop : o.op <;> first
      | rfl
      | (unfold isDefer at hd; rw [hop] at hd; cases hd)
  rw [h1]
  unfold stepX
  have h2 : wantX ops fr o = true := by unfold wantX; rw [hg]
  rw [h2]
  simp only [cond_true]
  rw [gives_bind]
  constructor
  · exact fun h => h.mono fun v m' k => (gives_put _ _ _ _ _).1 k
  · exact fun h => h.mono fun v m' k => (gives_put _ _ _ _ _).2 k
theorem gives_lift' (o : Option Value) : Gives (M.lift o) m (putQ fr d Q) ↔ optQ o fun v => putQ fr d Q v m := gives_lift _ _ _
@[simp] theorem step_move (x : Operand) : Gives (stepDX P call ops fr ⟨d, .move x, ty, pos, af, none⟩) m Q ↔ optQ (ev fr x) fun v => putQ fr d Q v m := by
  rw [step_any rfl rfl]; exact gives_lift' _
@[simp] theorem step_assign (x : Operand) : Gives (stepDX P call ops fr ⟨d, .assign x, ty, pos, af, none⟩) m Q ↔ optQ (ev fr x) fun v => putQ fr d Q v m := by
  rw [step_any rfl rfl]; exact gives_lift' _
def pickQ (o : Option Value) (a b : Option Value) (k : Value → Prop) : Prop := match o with
  | some (.bool true) => optQ a k
  | some (.bool false) => optQ b k
  | _ => False
@[simp] theorem pickQ_true (a b : Option Value) (k : Value → Prop) : pickQ (some (.bool true)) a b k = optQ a k := rfl
@[simp] theorem pickQ_false (a b : Option Value) (k : Value → Prop) : pickQ (some (.bool false)) a b k = optQ b k := rfl
@[simp] theorem step_pick (c a b : Operand) : Gives (stepDX P call ops fr ⟨d, .pick c a b, ty, pos, af, none⟩) m Q ↔ pickQ (ev fr c) (ev fr a) (ev fr b) fun v => putQ fr d Q v m := by
  rw [step_any rfl rfl]
  unfold opX
  dsimp only
  generalize ev fr c = o
  cases o with
  | none => exact gives_fail _ _
  | some v =>
    cases v <;> first
      | exact gives_fail _ _
      | (rename_i p; cases p <;> exact gives_lift' _)
@[simp] theorem step_alloc (e : TypeId) : Gives (stepDX P call ops fr ⟨d, .alloc e, ty, pos, af, none⟩) m Q ↔ optQ (zeroT P e) fun z => (cellsV z).all oneV = true ∧ putQ fr d Q (.pointer (some ⟨m.next, 0, none⟩)) (m.nw { cells := cellsV z, sz := elemT P e, grow := false, ro := false }) := by
  rw [step_any rfl rfl]
  unfold opX
  dsimp only
  cases zeroT P e with
  | none => exact gives_fail _ _
  | some z => simp only [optQ_some]; rw [gives_bind, gives_newX, gives_ret]
@[simp] theorem step_box (e : TypeId) (x : Operand) : Gives (stepDX P call ops fr ⟨d, .box e x, ty, pos, af, none⟩) m Q ↔ optQ (ev fr x) fun z => (cellsV z).all oneV = true ∧ putQ fr d Q (.pointer (some ⟨m.next, 0, none⟩)) (m.nw { cells := cellsV z, sz := elemT P e, grow := false, ro := false }) := by
  rw [step_any rfl rfl]
  unfold opX
  dsimp only
  cases ev fr x with
  | none => exact gives_fail _ _
  | some z => simp only [optQ_some]; rw [gives_bind, gives_newX, gives_ret]
@[simp] theorem step_build (t : TypeId) (ps : Array (Nat × Operand)) : Gives (stepDX P call ops fr ⟨d, .build t ps, ty, pos, af, none⟩) m Q ↔ optQ (parts fr ps.toList) fun vs => optQ (buildX P t vs) fun v => putQ fr d Q v m := by
  rw [step_any rfl rfl]
  unfold opX
  dsimp only
  cases parts fr ps.toList with
  | none => exact gives_fail _ _
  | some z => exact gives_lift' _
@[simp] theorem step_buildSlice (t : TypeId) (n : Nat) (ps : Array (Nat × Operand)) : Gives (stepDX P call ops fr ⟨d, .buildSlice t n ps, ty, pos, af, none⟩) m Q ↔ optQ (parts fr ps.toList) fun vs => Gives (buildSliceX P t n vs) m (putQ fr d Q) := by
  rw [step_any rfl rfl]
  unfold opX
  dsimp only
  cases parts fr ps.toList with
  | none => exact gives_fail _ _
  | some z => exact Iff.rfl
@[simp] theorem step_load (t : TypeId) (a : Operand) : Gives (stepDX P call ops fr ⟨d, .load t a, ty, pos, af, none⟩) m Q ↔ optQ (ev fr a) fun p => loadQ P t p m (putQ fr d Q) := by
  rw [step_any rfl rfl]
  unfold opX
  dsimp only
  cases ev fr a with
  | none => exact gives_fail _ _
  | some z => exact gives_load _ _ _ _
@[simp] theorem step_store (t : TypeId) (a x : Operand) : Gives (stepDX P call ops fr ⟨d, .store t a x, ty, pos, af, none⟩) m Q ↔ optQ (ev fr a) fun p => optQ (ev fr x) fun v => storeQ P t p v m (putQ fr d Q undef) := by
  rw [step_any rfl rfl]
  unfold opX
  dsimp only
  cases ev fr a with
  | none => exact gives_fail _ _
  | some p =>
    cases ev fr x with
    | none => exact gives_fail _ _
    | some v => exact gives_store _ _ _ _ _
@[simp] theorem step_binOp (op : BinOp) (t u : TypeId) (x y : Operand) : Gives (stepDX P call ops fr ⟨d, .binOp op t x y u, ty, pos, af, none⟩) m Q ↔ optQ (ev fr x) fun a => optQ (ev fr y) fun b => optQ (binX P op t x y a b) fun v => putQ fr d Q v m := by
  rw [step_any rfl rfl]
  unfold opX
  dsimp only
  cases ev fr x with
  | none => exact gives_fail _ _
  | some p =>
    cases ev fr y with
    | none => exact gives_fail _ _
    | some v => exact gives_lift' _
theorem opt1 {x : Operand} {k : Value → Option Value} : Gives (match ev fr x with | some v => M.lift (k v) | none => .fail) m (putQ fr d Q) ↔ optQ (ev fr x) fun a => optQ (k a) fun v => putQ fr d Q v m := by
  cases ev fr x with
  | none => exact gives_fail _ _
  | some p => exact gives_lift' _
@[simp] theorem step_unOp (op : UnOp) (t : TypeId) (x : Operand) : Gives (stepDX P call ops fr ⟨d, .unOp op t x, ty, pos, af, none⟩) m Q ↔ optQ (ev fr x) fun a => optQ (unX P op a) fun v => putQ fr d Q v m := by
  rw [step_any rfl rfl]; exact opt1
@[simp] theorem step_convert (s t : TypeId) (x : Operand) : Gives (stepDX P call ops fr ⟨d, .convert s t x, ty, pos, af, none⟩) m Q ↔ optQ (ev fr x) fun a => optQ (convX P s t a) fun v => putQ fr d Q v m := by
  rw [step_any rfl rfl]; exact opt1
@[simp] theorem step_fieldAddr (s : TypeId) (x : Operand) (f : Nat) : Gives (stepDX P call ops fr ⟨d, .fieldAddr s x f, ty, pos, af, none⟩) m Q ↔ optQ (ev fr x) fun a => optQ (fieldAddrX P s a f) fun v => putQ fr d Q v m := by
  rw [step_any rfl rfl]; exact opt1
@[simp] theorem step_field (s : TypeId) (x : Operand) (f : Nat) : Gives (stepDX P call ops fr ⟨d, .field s x f, ty, pos, af, none⟩) m Q ↔ optQ (ev fr x) fun a => optQ (fieldX P s a f) fun v => putQ fr d Q v m := by
  rw [step_any rfl rfl]; exact opt1
@[simp] theorem step_extract (x : Operand) (i : Nat) : Gives (stepDX P call ops fr ⟨d, .extract x i, ty, pos, af, none⟩) m Q ↔ optQ (ev fr x) fun a => optQ (extractX a i) fun v => putQ fr d Q v m := by
  rw [step_any rfl rfl]; exact opt1
@[simp] theorem step_indexAddr (t : TypeId) (x i : Operand) : Gives (stepDX P call ops fr ⟨d, .indexAddr t x i, ty, pos, af, none⟩) m Q ↔ optQ (ev fr x) fun a => optQ (ev fr i) fun b => optQ (indexAddrX P t a b) fun v => putQ fr d Q v m := by
  rw [step_any rfl rfl]
  unfold opX
  dsimp only
  cases ev fr x with
  | none => exact gives_fail _ _
  | some p =>
    cases ev fr i with
    | none => exact gives_fail _ _
    | some v => exact gives_lift' _
@[simp] theorem step_index (t : TypeId) (x i : Operand) : Gives (stepDX P call ops fr ⟨d, .index t x i, ty, pos, af, none⟩) m Q ↔ optQ (ev fr x) fun a => optQ (ev fr i) fun b => optQ (indexX P t a b) fun v => putQ fr d Q v m := by
  rw [step_any rfl rfl]
  unfold opX
  dsimp only
  cases ev fr x with
  | none => exact gives_fail _ _
  | some p =>
    cases ev fr i with
    | none => exact gives_fail _ _
    | some v => exact gives_lift' _
@[simp] theorem step_makeSlice (t : TypeId) (x i : Operand) : Gives (stepDX P call ops fr ⟨d, .makeSlice t x i, ty, pos, af, none⟩) m Q ↔ optQ (ev fr x) fun a => optQ (ev fr i) fun b => Gives (makeSliceX P t a b) m (putQ fr d Q) := by
  rw [step_any rfl rfl]
  unfold opX
  dsimp only
  cases ev fr x with
  | none => exact gives_fail _ _
  | some p =>
    cases ev fr i with
    | none => exact gives_fail _ _
    | some v => exact Iff.rfl
@[simp] theorem evO_none (fr : Fr) : evO fr none = some none := by cases fr; rfl
@[simp] theorem evO_some (fr : Fr) (x : Operand) : evO fr (some x) = oso (ev fr x) := by cases fr; rfl
@[simp] theorem step_slice (t : TypeId) (x : Operand) (lo hi mx : Option Operand) : Gives (stepDX P call ops fr ⟨d, .slice t x lo hi mx, ty, pos, af, none⟩) m Q ↔ optQ (ev fr x) fun a => optQ (evO fr lo) fun l => optQ (evO fr hi) fun h => optQ (evO fr mx) fun k => Gives (sliceX P t a l h k) m (putQ fr d Q) := by
  rw [step_any rfl rfl]
  unfold opX
  dsimp only
  cases ev fr x with
  | none => exact gives_fail _ _
  | some p =>
    cases evO fr lo with
    | none => exact gives_fail _ _
    | some l =>
      cases evO fr hi with
      | none => exact gives_fail _ _
      | some h =>
        cases evO fr mx with
        | none => exact gives_fail _ _
        | some k => exact Iff.rfl
@[simp] theorem step_makeFunc (f : FuncId) (a b : Array Operand) : Gives (stepDX P call ops fr ⟨d, .makeFunc (.func f) a b, ty, pos, af, none⟩) m Q ↔ optQ (evs fr a.toList) fun x => optQ (evs fr b.toList) fun y => putQ fr d Q (.func (.func f) ⟨x⟩ ⟨y⟩) m := by
  rw [step_any rfl rfl]
  unfold opX
  dsimp only
  cases evs fr a.toList with
  | none => exact gives_fail _ _
  | some p =>
    cases evs fr b.toList with
    | none => exact gives_fail _ _
    | some v => exact gives_ret _ _ _
end
end Go.Clean
