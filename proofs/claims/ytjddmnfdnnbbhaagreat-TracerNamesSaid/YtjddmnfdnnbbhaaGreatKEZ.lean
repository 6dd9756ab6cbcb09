/- The clean executor: what each operation that makes or turns memory does, in the model. -/
import Derived.Test.YtjddmnfdnnbbhaaGreatKDZ
import Derived.RangeFuncOne
import Derived.RangeFuncLeaves
set_option linter.unusedSimpArgs false
set_option linter.unusedVariables false
set_option linter.unusedVariables false
set_option linter.unusedSimpArgs false
namespace Go.Clean
open Go Go.RowKit
variable {P : Program} {N : Nat} {ρ : Env} {m m' : Mem} {w : World}

/-! ### Taking pieces apart -/
theorem bind_some {α β : Type} {f : M α} {g : α → M β} {b : β} (h : (f >>= g) m = some (b, m')) : ∃ a m1, f m = some (a, m1) ∧ g a m1 = some (b, m') := by
  change M.bnd f g m = _ at h
  unfold M.bnd at h
  cases hf : f m with
  | none => simp [hf] at h
  | some p => obtain ⟨a, m1⟩ := p; simp only [hf] at h; exact ⟨a, m1, rfl, h⟩
theorem ret_some {α : Type} {a b : α} (h : M.ret a m = some (b, m')) : a = b ∧ m = m' := by simpa [M.ret] using h
theorem fail_some {α : Type} {b : α} (h : (M.fail : M α) m = some (b, m')) : False := by simp [M.fail] at h
theorem lift_some {α : Type} {o : Option α} {b : α} (h : M.lift o m = some (b, m')) : o = some b ∧ m = m' := by
  cases o with
  | none => simp [M.lift] at h
  | some a => simp [M.lift] at h; exact ⟨by rw [h.1], h.2⟩
theorem guard_some {c : Bool} {u : Unit} (h : M.guard c m = some (u, m')) : c = true ∧ m = m' := by
  cases c with
  | false => simp [M.guard] at h
  | true => simp [M.guard] at h; exact ⟨rfl, h⟩
theorem getB_some {b : Nat} {x : Blk} (h : getB b m = some (x, m')) : m.t.get b = some x ∧ m' = { m with log := (false, b) :: m.log } := by
  unfold getB at h
  cases hb : m.t.get b with
  | none => simp [hb] at h
  | some y => simp [hb] at h; exact ⟨by rw [h.1], h.2.symm⟩
theorem lay_some {α : Type} {cs : List Value} {o : Nat} {vs : List Value} {g : List Value → M α} {b : α} (h : (fun m => layK cs o vs fun
      | some l => g l m
      | none => none) m = some (b, m')) : ∃ l, lay cs o vs = some l ∧ g l m = some (b, m') := by
  simp only [layK_eq] at h
  cases hl : lay cs o vs with
  | none => simp [hl] at h
  | some l => simp [hl] at h; exact ⟨l, rfl, h⟩

/-- What a piece keeps: all below N, and whatever is no cells. -/
structure Keeps (N : Nat) (w w' : World) : Prop where
  below : Below N w w'
  others : KeepsOthers w w'
theorem Keeps.refl (N : Nat) (w : World) : Keeps N w w := ⟨.refl N w, .refl w⟩
theorem Keeps.trans {w w1 w2 : World} (h : Keeps N w w1) (k : Keeps N w1 w2) : Keeps N w w2 := ⟨h.below.trans k.below, h.others.trans k.others⟩
theorem Keeps.size {w w' : World} (h : Keeps N w w') : w.heap.size ≤ w'.heap.size := h.below.size
theorem Keeps.block {w w' : World} (h : Keeps N w w') : ∀ k, k < N → w'.heap[k]? = w.heap[k]? := h.below.block
theorem Keeps.drew {w w' : World} (h : Keeps N w w') : Keeps N w w'.drew := ⟨h.below.drew, ⟨h.others.size, h.others.same⟩⟩
theorem Keeps.alloc {w w' : World} (h : Keeps N w w') (hN : N ≤ w.heap.size) (o : Obj) : Keeps N w (w'.alloc o) := ⟨h.below.alloc (Nat.le_trans hN h.below.size) o, h.others.trans (.alloc w' o)⟩
/-- All that was there lies as it lay. -/
theorem Keeps.of_below {w w' : World} (hN : N ≤ w.heap.size) (h : Below w.heap.size w w') : Keeps N w w' :=
  ⟨h.mono hN, ⟨h.size, fun k o hk _ => by rw [h.block k (Array.getElem?_eq_some_iff.1 hk).1]; exact hk⟩⟩
/-- A block of cells turns. -/
theorem Keeps.row {w w' : World} {k : Nat} (hk : N ≤ k) {c : Array Value} {T : TypeId} {fr : Nat × Nat} (hc : w.heap[k]? = some (.cells c T fr)) (h1 : w'.os = w.os) (h2 : w'.tape = w.tape) (h3 : w'.output = w.output)
    (hs : w.heap.size ≤ w'.heap.size) (hw : ∀ j, j < w.heap.size → j ≠ k → w'.heap[j]? = w.heap[j]?) : Keeps N w w' :=
  ⟨⟨h1, h2, h3, hs, fun j hj => hw j (by have := (Array.getElem?_eq_some_iff.1 hc).1; omega) (by omega)⟩, ⟨hs, fun j o hj ho => by
    by_cases e : j = k
    · subst e; rw [hc] at hj; obtain rfl := Option.some.inj hj; exact absurd ho (by simp [Obj.isCells])
    · rw [hw j (Array.getElem?_eq_some_iff.1 hj).1 e]; exact hj⟩⟩

/-- What a piece that answers v leaves: the same memory, and more. -/
structure After (N : Nat) (ρ : Env) (m m' : Mem) (w : World) (v v' : Value) (w' : World) (ρ' : Env) : Prop where
  ext : Ext ρ ρ'
  dom : ∀ b, ρ b = none → ρ' b ≠ none → m.next ≤ b ∧ b < m'.next
  rel : Rel N ρ' m'.t.get w'
  val : VR ρ' v v'
  below : Keeps N w w'
  marks : ∀ b p, ρ b = none → ρ' b = some p → p.fin < p.off → w.heap.size ≤ p.blk

def Fresh (ρ : Env) (m m' : Mem) : Prop := ∀ b, m.next ≤ b → b < m'.next → ρ b = none

/-- A frame of a function's own (none), or a round's. -/
abbrev wideR (r : Option Nat) : Fence := { Fence.wide with round := r }

/-- An operation of the model, whatever stands behind it. -/
def Does (P : Program) (N : Nat) (ρ : Env) (m m' : Mem) (w : World) (v : Value) (s : Sem Next) : Prop :=
  ∀ (r : Option Nat) (o : Oper) (a : Act) (K : Act → World → Prop) (Q : Exit → Act → World → Prop), (∀ v' w' ρ', After N ρ m m' w v v' w' ρ' → K (a.put o.dst v') w') → o.uponIn (wideR r) 0 P a K Q (s.run P w)

theorem Does.value {s : Sem Next} {v v' : Value} {w' : World} {ρ' : Env} (h : s.run P w = .ok (.value v') w') (ha : After N ρ m m' w v v' w' ρ') : Does P N ρ m m' w v s := by
  intro r o a K Q hK
  rw [h]
  exact hK v' w' ρ' ha
theorem Does.skip {s : Sem Next} {w' : World} {ρ' : Env} (h : s.run P w = .ok .skip w') (ha : After N ρ m m' w undef undef w' ρ') : Does P N ρ m m' w undef s := by
  intro r o a K Q hK
  rw [h]
  exact hK undef w' ρ' ha

/-- Nothing has turned. -/
theorem After.same {v v' : Value} (hr : Rel N ρ m.t.get w) (ht : m'.t = m.t) (hv : VR ρ v v') : After N ρ m m' w v v' w ρ :=
  ⟨.refl ρ, fun b h h' => absurd h h', by rw [ht]; exact hr, hv, .refl N w, fun b p h h' => absurd (h.symm.trans h') (by simp)⟩
theorem After.drew {v v' : Value} (hr : Rel N ρ m.t.get w) (ht : m'.t = m.t) (hv : VR ρ v v') : After N ρ m m' w v v' w.drew ρ :=
  ⟨.refl ρ, fun b h h' => absurd h h', by rw [ht]; exact hr.heap rfl, hv, (Keeps.refl N w).drew, fun b p h h' => absurd (h.symm.trans h') (by simp)⟩

/-! ### A new row -/
theorem newX_some {cells : List Value} {sz : Nat} {grow : Bool} {b : Nat} (h : newX cells sz grow m = some (b, m')) : cells.all oneV = true ∧ b = m.next ∧ m'.next = m.next + 1 ∧
    ∀ c, m'.t.get c = if c = m.next then some { cells, sz, grow, ro := false } else m.t.get c := by
  unfold newX at h
  obtain ⟨u, m1, h1, h2⟩ := bind_some h
  obtain ⟨ho, rfl⟩ := guard_some h1
  rw [valsK_eq, newB_eq] at h2
  simp only [Option.some.injEq, Prod.mk.injEq] at h2
  obtain ⟨rfl, rfl⟩ := h2
  refine ⟨ho, rfl, rfl, fun c => ?_⟩
  by_cases hc : c = m.next
  · subst hc; rw [if_pos rfl]; exact Trie.get_set_same _ _ _ _ (Nat.lt_succ_self _)
  · rw [if_neg hc]; exact Trie.get_set_ne _ _ _ _ _ hc

theorem After.new {g : Nat → Option Blk} {b : Nat} (hr : Rel N ρ g w) {cells : List Value} {sz : Nat} {grow : Bool} (ho : cells.all oneV = true) (hb : b = m.next) (hn : m'.next = m.next + 1)
    (hg : ∀ c, m'.t.get c = if c = m.next then some { cells, sz, grow, ro := false } else g c) (hf : Fresh ρ m m') {cs : List Value} (hv : VRs ρ cells cs) (rest : List Value) (T : TypeId) {w' : World}
    (hw : w'.heap = w.heap.push (.cells (cs ++ rest).toArray T (0, 0))) (hbl : Keeps N w w') {v v' : Value} (hval : VR (ρ.put m.next ⟨w.heap.size, 0, cs.length + rest.length, sz, !grow⟩) v v') :
    After N ρ m m' w v v' w' (ρ.put m.next ⟨w.heap.size, 0, cs.length + rest.length, sz, !grow⟩) := by
  have hfree : ρ m.next = none := hf m.next (Nat.le_refl _) (by omega)
  refine ⟨Env.ext hfree _, fun c hc hc' => ?_, Rel.new hr hfree cells sz grow ho cs hv rest T hw hg, hval, hbl, fun c p hc hp hm => by
    by_cases h : c = m.next
    · subst h
      rw [Env.put_same] at hp
      obtain rfl := Option.some.inj hp
      simp at hm
    · rw [Env.put_ne _ _ h] at hp; exact absurd (hc.symm.trans hp) (by simp)⟩
  by_cases h : c = m.next
  · subst h; exact ⟨Nat.le_refl _, by omega⟩
  · rw [Env.put_ne _ _ h] at hc'; exact absurd hc hc'

theorem below_push (hN : N ≤ w.heap.size) (o : Obj) : Keeps N w (w.alloc o) := (Keeps.refl N w).alloc hN o

/-! ### A store -/
theorem setB_some {b : Nat} {x : Option Blk} {u : Unit} (h : setB b x m = some (u, m')) : m'.next = m.next ∧ ∀ c, m'.t.get c = if c = b then x else m.t.get c := by
  rw [setB_eq] at h
  simp only [Option.some.injEq, Prod.mk.injEq, true_and] at h
  subst h
  refine ⟨rfl, fun c => ?_⟩
  by_cases hc : c = b
  · subst hc; rw [if_pos rfl]; exact Trie.get_set_same _ _ _ _ (Nat.lt_succ_self _)
  · rw [if_neg hc]; exact Trie.get_set_ne _ _ _ _ _ hc

theorem cell_row (w : World) (k o : Nat) (c : Array Value) (T : TypeId) (fr : Nat × Nat) (h : w.heap[k]? = some (.cells c T fr)) : w.cell? ⟨k, o, none⟩ = c[o]? := by
  simp [World.cell?, h]

/-- Cells of one's own are written. -/
theorem Rel.write {g g' : Nat → Option Blk} (h : Rel N ρ g w) {b : Nat} {x : Blk} {p : Place} (hb : g b = some x) (hp : ρ b = some p) (hro : x.ro = false) {o : Nat} {vs vs' cells : List Value}
    (hl : lay x.cells o vs = some cells) (hv : VRs ρ vs vs') (ho : vs.all oneV = true) {c : Array Value} {T : TypeId} (hc : w.heap[p.blk]? = some (.cells c T (0, 0)))
    (e : ∀ d, g' d = if d = b then some { x with cells } else g d) {c' : Array Value} (hc' : c'.size = c.size) (hcc : ∀ j, c'[j]? = if p.off + o ≤ j ∧ j < p.off + o + vs'.length then vs'[j - (p.off + o)]? else c[j]?)
    {w' : World} (hs : w'.heap.size = w.heap.size) (hw : w'.heap[p.blk]? = some (.cells c' T (0, 0))) (hw' : ∀ k, k ≠ p.blk → w'.heap[k]? = w.heap[k]?) : Rel N ρ g' w' := by
  obtain ⟨l1, l2, l3⟩ := lay_spec _ _ _ _ hl
  have hlen := hv.length
  obtain ⟨q, q1, q2, q3, q4, q5, q6⟩ := h.blk b x hb
  rw [hp] at q1
  obtain rfl : p = q := by simpa using q1
  obtain ⟨r1, r2, c0, T0, r3, r4⟩ := q6 hro
  rw [hc] at r3
  simp only [Option.some.injEq, Obj.cells.injEq, and_true] at r3
  obtain ⟨rfl, rfl⟩ := r3
  have hcell : ∀ k i, k ≠ p.blk → w'.cell? ⟨k, i, none⟩ = w.cell? ⟨k, i, none⟩ := fun k i hk => World.cell?_of_block (hw' k hk)
  have hmk : ∀ d y p, g' d = some y → ρ d = some p → p.fin < p.off → ∃ y0, g d = some y0 := fun d y s hd hs hm => by
    by_cases hdb : d = b
    · exact ⟨x, by rw [hdb]; exact hb⟩
    · rw [e, if_neg hdb] at hd; exact ⟨y, hd⟩
  refine ⟨by rw [hs]; exact h.base, fun d y hd => ?_, fun d d' y y' s s' hne hd hd' hr hr' hs hs' => ?_, fun d y s hd hs hm => by
    obtain ⟨y0, hy0⟩ := hmk d y s hd hs hm
    obtain ⟨h1, h2, h3⟩ := h.marks d y0 s hy0 hs hm
    have hne : s.blk ≠ p.blk := fun hh => by rw [hh, hc] at h2; simp at h2
    refine ⟨h1, by rw [hw' _ hne]; exact h2, fun d' y' s' hne' hd' hs' hm' => ?_⟩
    obtain ⟨y1, hy1⟩ := hmk d' y' s' hd' hs' hm'
    exact h3 d' y1 s' hne' hy1 hs' hm'⟩
  · rw [e] at hd
    by_cases hdb : d = b
    · subst hdb
      rw [if_pos rfl] at hd
      obtain rfl : ({ x with cells } : Blk) = y := by simpa using hd
      refine ⟨p, hp, q2, q3, fun i v hi => ?_, fun hr => absurd hr (by simp [hro]), fun _ => ⟨r1, by simp only [l1]; exact r2, c', T, hw, by rw [hc']; exact r4⟩⟩
      simp only [l3] at hi
      rw [cell_row w' _ _ c' T _ hw, hcc]
      by_cases hin : o ≤ i ∧ i < o + vs.length
      · rw [if_pos hin] at hi
        rw [if_pos (by omega)]
        obtain ⟨v', hv1, hv2⟩ := hv.get hi
        exact ⟨v', by rw [← hv1]; congr 1; omega, hv2, VRs.oneV_get ho hi⟩
      · rw [if_neg hin] at hi
        rw [if_neg (by omega)]
        obtain ⟨v', hv1, hv2, hv3⟩ := q4 i v hi
        rw [cell_row w _ _ c T _ hc] at hv1
        exact ⟨v', hv1, hv2, hv3⟩
    · rw [if_neg hdb] at hd
      obtain ⟨s, s1, s2, s3, s4, s5, s6⟩ := h.blk d y hd
      refine ⟨s, s1, s2, s3, fun i v hi => ?_, s5, fun hr => ?_⟩
      · obtain ⟨v', hv1, hv2, hv3⟩ := s4 i v hi
        refine ⟨v', ?_, hv2, hv3⟩
        by_cases hk : s.blk = p.blk
        · rw [hk, cell_row w' _ _ c' T _ hw, hcc, if_neg, ← cell_row w _ _ c T _ hc, ← hk]
          · exact hv1
          · cases hr : y.ro with
            | true =>
              rcases s5 hr with h0 | h0
              · rw [h0] at hi; simp at hi
              · omega
            | false =>
              obtain ⟨t1, t2, _⟩ := s6 hr
              have hi' := (List.getElem?_eq_some_iff.1 hi).1
              rcases h.apart d b y x s p hdb hd hb hr hro s1 hp with h1 | h1 | h1
              · exact absurd hk h1
              · rcases l2 with h2 | h2
                · subst h2; simp only [List.length_nil] at hlen; omega
                · omega
              · rcases l2 with h2 | h2
                · subst h2; simp only [List.length_nil] at hlen; omega
                · omega
        · rw [hcell _ _ hk]; exact hv1
      · obtain ⟨t1, t2, c1, T1, t3, t4⟩ := s6 hr
        refine ⟨t1, t2, ?_⟩
        by_cases hk : s.blk = p.blk
        · rw [hk, hc] at t3
          simp only [Option.some.injEq, Obj.cells.injEq, and_true] at t3
          obtain ⟨rfl, rfl⟩ := t3
          exact ⟨c', T, by rw [hk]; exact hw, by rw [hc']; exact t4⟩
        · exact ⟨c1, T1, by rw [hw' _ hk]; exact t3, t4⟩
  · rw [e] at hd hd'
    have key : ∀ d y, (if d = b then some { x with cells } else g d) = some y → ∃ y0, g d = some y0 ∧ y0.ro = y.ro := fun d y hd => by
      by_cases hdb : d = b
      · rw [if_pos hdb] at hd; subst hdb; exact ⟨x, hb, by have h9 := Option.some.inj ‹some _ = some y›; rw [← h9]⟩
      · rw [if_neg hdb] at hd; exact ⟨y, hd, rfl⟩
    obtain ⟨y0, hy0, hy0r⟩ := key d y hd
    obtain ⟨y1, hy1, hy1r⟩ := key d' y' hd'
    exact h.apart d d' y0 y1 s s' hne hy0 hy1 (by rw [hy0r]; exact hr) (by rw [hy1r]; exact hr') hs hs'

/-- The model's storeCells over cells of one's own. -/
theorem write_run {g g' : Nat → Option Blk} (h : Rel N ρ g w) {b : Nat} {x : Blk} {p : Place} (hb : g b = some x) (hp : ρ b = some p) (hro : x.ro = false) {o : Nat} {vs vs' cells : List Value}
    (hl : lay x.cells o vs = some cells) (hv : VRs ρ vs vs') (ho : vs.all oneV = true) (e : ∀ d, g' d = if d = b then some { x with cells } else g d) :
    ∃ w', (storeCells ⟨p.blk, p.off + o, none⟩ vs').run P w = .ok () w' ∧ Rel N ρ g' w' ∧ Keeps N w w' := by
  obtain ⟨l1, l2, l3⟩ := lay_spec _ _ _ _ hl
  have hlen := hv.length
  obtain ⟨q, q1, q2, q3, q4, q5, q6⟩ := h.blk b x hb
  rw [hp] at q1
  obtain rfl : p = q := by simpa using q1
  obtain ⟨r1, r2, c, T, r3, r4⟩ := q6 hro
  rcases l2 with h2 | h2
  · subst h2
    have : vs' = [] := by simpa using hlen
    subst this
    have hc : cells = x.cells := by
      apply List.ext_getElem?; intro j; rw [l3, if_neg (by simp only [List.length_nil]; omega)]
    refine ⟨w, rfl, h.congr fun d => ?_, .refl N w⟩
    rw [e, hc]
    by_cases hd : d = b
    · rw [if_pos hd, hd, hb]
    · rw [if_neg hd]
  · have hfit : p.off + o + 0 + vs'.length ≤ c.size := by omega
    have hrun := run_storeCells_at P p.blk (p.off + o) T vs' 0 c w r3 hfit (hv.one ho)
    simp only [Nat.add_zero] at hrun
    refine ⟨_, hrun, h.write hb hp hro hl hv ho r3 e (c' := (c.toList.take (p.off + o) ++ vs' ++ c.toList.drop (p.off + o + vs'.length)).toArray) ?_ ?_ ?_ (setRow_heap w p.blk c _ T _ r3) (fun k hk => setRow_other w p.blk k _ hk), ?_⟩
    · simp only [List.size_toArray, List.length_append, List.length_take, List.length_drop, Array.length_toList]; omega
    · intro j
      rw [List.getElem?_toArray, List.append_assoc]
      have hl1 : (c.toList.take (p.off + o)).length = p.off + o := by rw [List.length_take, Array.length_toList]; omega
      by_cases h1 : j < p.off + o
      · rw [if_neg (by omega), List.getElem?_append_left (by omega), List.getElem?_take, if_pos h1]; simp
      · rw [List.getElem?_append_right (by omega), hl1]
        by_cases h3 : j < p.off + o + vs'.length
        · rw [if_pos (by omega), List.getElem?_append_left (by omega)]
        · rw [if_neg (by omega), List.getElem?_append_right (by omega), List.getElem?_drop, ← Array.getElem?_toList]; congr 1; omega
    · simp [World.setRow]
    · exact Keeps.row r1 r3 rfl rfl rfl (by simp [World.setRow]) (fun k _ hk => setRow_other w p.blk k _ hk)

/-! ### Types -/
theorem sizeT_run {t : TypeId} {n : Nat} (h : sizeT P t = some n) : (sizeOf t).run P w = .ok n w := by
  unfold sizeT at h
  obtain ⟨i, hi, rfl⟩ := Option.map_eq_some_iff.1 h
  simp [sizeOf, typeInfo, hi]
theorem isAgg_run {t : TypeId} {b : Bool} (h : Clean.isAgg P t = some b) : (Go.isAgg t).run P w = .ok b w := by
  unfold Clean.isAgg at h
  unfold Go.isAgg
  rw [Sem.run_bind]
  split at h
  · obtain rfl : true = b := by simpa using h
    rename_i hu; rw [run_underlying hu]; rfl
  · obtain rfl : true = b := by simpa using h
    rename_i hu; rw [run_underlying hu]; rfl
  · obtain rfl : false = b := by simpa using h
    rename_i d h1 h2 hu; rw [run_underlying hu]
    simp only [Result.andThen_ok]
    cases d with
    | struct f => exact absurd rfl (h1 f)
    | array n e => exact absurd rfl (h2 n e)
    | _ => rfl
  · cases h
theorem zeroT_run {t : TypeId} {z : Value} (h : zeroT P t = some z) : (zeroValue t).run P w = .ok z w ∧ plainV z = true := by
  unfold zeroT at h
  split at h
  · rename_i i hi
    split at h
    · rename_i z' hz
      cases hp : plainV z' with
      | false => simp [hp] at h
      | true =>
        simp [hp] at h
        subst h
        exact ⟨by simp [zeroValue, typeInfo, hi, hz], hp⟩
    · cases h
  · cases h
theorem zeroT_info {t : TypeId} {z : Value} (h : zeroT P t = some z) : ∃ i, P.info? t = some i ∧ i.zero = some z ∧ plainV z = true := by
  unfold zeroT at h
  split at h
  · rename_i i hi
    split at h
    · rename_i z' hz
      cases hp : plainV z' with
      | false => simp [hp] at h
      | true =>
        simp [hp] at h
        subst h
        exact ⟨i, hi, hz, hp⟩
    · cases h
  · cases h

/-- The cells of a block, read. -/
theorem cells_read {g : Nat → Option Blk} (h : Rel N ρ g w) {b : Nat} {x : Blk} {p : Place} (hb : g b = some x) (hp : ρ b = some p) {o n : Nat} {r : List Value} (ht : takeN x.cells o n = some r) :
    ∃ r', VRs ρ r r' ∧ r'.length = n ∧ (∀ j v, r'[j]? = some v → w.cell? ((⟨p.blk, p.off + o, none⟩ : Addr).add j) = some v) := by
  obtain ⟨hl, hj⟩ := takeN_spec _ _ _ _ ht
  have key : ∀ k (r : List Value), (∀ j, j < r.length → r[j]? = x.cells[o + k + j]?) → ∃ r', VRs ρ r r' ∧ (∀ j v, r'[j]? = some v → w.cell? ⟨p.blk, p.off + o + k + j, none⟩ = some v) := by
    intro k r
    induction r generalizing k with
    | nil => intro _; exact ⟨[], .nil, fun j v hv => by simp at hv⟩
    | cons v r ih =>
      intro hr
      have h0 := hr 0 (by simp)
      obtain ⟨v', hv1, hv2, _⟩ := h.cell hb hp (i := o + k) (v := v) (by simpa using h0.symm)
      obtain ⟨r', hr1, hr2⟩ := ih (k + 1) (fun j hj => by have := hr (j + 1) (by simpa using hj); rw [show o + (k + 1) + j = o + k + (j + 1) by omega]; simpa using this)
      refine ⟨v' :: r', .cons hv2 hr1, fun j u hu => ?_⟩
      cases j with
      | zero => obtain rfl : v' = u := by simpa using hu
                rw [← hv1]; congr 2; omega
      | succ j => rw [show p.off + o + k + (j + 1) = p.off + o + (k + 1) + j by omega]; exact hr2 j u (by simpa using hu)
  obtain ⟨r', h1, h2⟩ := key 0 r (fun j hj' => by rw [Nat.add_zero]; exact hj j (by omega))
  refine ⟨r', h1, by rw [h1.length, hl], fun j v hv => ?_⟩
  have : (⟨p.blk, p.off + o, none⟩ : Addr).add j = ⟨p.blk, p.off + o + j, none⟩ := by unfold Addr.add; split <;> simp_all
  rw [this]
  have := h2 j v hv
  simpa using this

end Go.Clean
