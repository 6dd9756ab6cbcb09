/- What a step of a walk does to memory, said of whole blocks: what is kept, what is new. Over any program. -/
import Derived.WalkKit
import Derived.WalkSpells
import Derived.WalkLawsBesides
import Derived.Deep.AppendLies
import Derived.Deep.OwnRows
import Derived.Deep.Draws
import Derived.KernelRfl
namespace Go
open Go.RowKit

/-- Blocks that were there are as they were, but for those in X. -/
structure Keep (X : Nat → Prop) (w w' : World) : Prop where
  os : w'.os = w.os
  tape : w'.tape = w.tape
  output : w'.output = w.output
  size : w.heap.size ≤ w'.heap.size
  block : ∀ k, k < w.heap.size → ¬ X k → w'.heap[k]? = w.heap[k]?

def None1 : Nat → Prop := fun _ => False
def Just1 (g : Nat) : Nat → Prop := fun k => k = g

theorem Keep.refl (X : Nat → Prop) (w : World) : Keep X w w := ⟨rfl, rfl, rfl, Nat.le_refl _, fun _ _ _ => rfl⟩
theorem Keep.trans {X : Nat → Prop} {a b c : World} (h : Keep X a b) (k : Keep X b c) : Keep X a c :=
  ⟨k.os.trans h.os, k.tape.trans h.tape, k.output.trans h.output, Nat.le_trans h.size k.size, fun i hi hx => (k.block i (Nat.lt_of_lt_of_le hi h.size) hx).trans (h.block i hi hx)⟩
theorem Keep.wide {X Y : Nat → Prop} {a b : World} (h : Keep X a b) (hxy : ∀ k, k < a.heap.size → X k → Y k) : Keep Y a b :=
  ⟨h.os, h.tape, h.output, h.size, fun k hk hy => h.block k hk fun hx => hy (hxy k hk hx)⟩
theorem Keep.all {X : Nat → Prop} {a b : World} (h : Keep None1 a b) : Keep X a b := h.wide fun _ _ h => h.elim
theorem Keep.alloc (w : World) (o : Obj) : Keep None1 w (w.alloc o) := ⟨rfl, rfl, rfl, by simp, fun k hk _ => Below.heap_alloc w o k hk⟩
theorem Keep.drewN (w : World) (n : Nat) : Keep None1 w (w.drewN n) := ⟨rfl, rfl, rfl, Nat.le_refl _, fun _ _ _ => rfl⟩
theorem Keep.drew (w : World) : Keep None1 w w.drew := ⟨rfl, rfl, rfl, Nat.le_refl _, fun _ _ _ => rfl⟩
theorem Keep.setCell (w : World) (a : Addr) (v : Value) : Keep (Just1 a.block) w (w.setCell a v) :=
  ⟨rfl, rfl, rfl, by simp [World.setCell], fun k _ hx => Below.heap_setCell w a v k hx⟩
theorem Keep.grown {w w' : World} {row : Option Nat} (h : w.grownBy w' row) : Keep (fun k => row = some k) w w' :=
  ⟨h.os, h.tape, h.output, h.size, fun k hk hx => h.block k hk fun e => hx e.symm⟩
theorem Keep.ofBelow {w w' : World} (h : Below w.heap.size w w') : Keep None1 w w' := ⟨h.os, h.tape, h.output, h.size, fun k hk _ => h.block k hk⟩
theorem Keep.ofBelow' {B : Nat} {w w' : World} (h : Below B w w') : Keep (fun k => B ≤ k) w w' := ⟨h.os, h.tape, h.output, h.size, fun k _ hx => h.block k (by omega)⟩
theorem Keep.below {X : Nat → Prop} {B : Nat} {w w' : World} (h : Keep X w w') (hB : B ≤ w.heap.size) (hX : ∀ k, k < B → ¬ X k) : Below B w w' :=
  ⟨h.os, h.tape, h.output, h.size, fun k hk => h.block k (by omega) (hX k hk)⟩
theorem Keep.heap {X : Nat → Prop} {w w' : World} (h : Keep X w w') {g : Nat} {o : Obj} (hg : w.heap[g]? = some o) (hx : ¬ X g) : w'.heap[g]? = some o :=
  (h.block g (lt_of_block hg) hx).trans hg
theorem Keep.cell {X : Nat → Prop} {w w' : World} (h : Keep X w w') {g o : Nat} {v : Value} (hg : w.cell? ⟨g, o, none⟩ = some v) (hx : ¬ X g) : w'.cell? ⟨g, o, none⟩ = some v :=
  (World.cell?_of_block (w := w) (h.block g (World.block_lt_of_cell? w _ hg) hx)).trans hg
theorem Keep.free {X : Nat → Prop} {w w' : World} (h : Keep X w w') {g o : Nat} (hg : w.frozen? ⟨g, o, none⟩ = false) (hl : g < w.heap.size) (hx : ¬ X g) : w'.frozen? ⟨g, o, none⟩ = false :=
  (World.frozen?_of_block (w := w) (h.block g hl hx)).trans hg
theorem Keep.owns {X : Nat → Prop} {w w' : World} {base e size n : Nat} {v : Value} {xs : List Value} (h : Keep X w w') (ho : w.ownsRow base e size v n xs) (hx : ∀ g, v.ownBlock = some g → ¬ X g) : w'.ownsRow base e size v n xs := by
  refine ⟨ho.1, ?_⟩
  rcases ho.2 with hn | ⟨g, cap, cur, rfl, hb, hgg, rest⟩
  · exact .inl hn
  · exact .inr ⟨g, cap, cur, rfl, hb, h.heap hgg (hx g rfl), rest⟩

theorem Below.heap_new_at (w : World) (c : Array Value) (e : TypeId) : (w.alloc (.cells c e)).heap[w.heap.size]? = some (.cells c e (0, 0)) := by
  show (w.heap.push _)[w.heap.size]? = _
  rw [Array.getElem?_push, if_pos rfl]

/-- A slice type t of elements e of one cell. -/
structure Elem1 (P : Program) (t e : TypeId) (z : Value) (bytes : Nat) : Prop where
  under : P.underlying t = some (.slice e)
  info : (P.info? e).map (fun i => (i.zero, i.size, i.bytes)) = some (some z, 1, bytes)
  one : z.cells.size = 1

section
variable {P : Program} {o : Oper} {a : Act} {w : World} {K : Act → World → Prop} {Q : Exit → Act → World → Prop}

/-- '[]T{x}' of one element of one cell, as it is laid ahead of an append. -/
theorem run_build1 {t e : TypeId} {z : Value} {bytes : Nat} (he : Elem1 P t e z bytes) (v : Value) (hv : v.cells = #[v]) (w : World) :
    (Instr.buildSlice t 1 #[(0, v)]).run P w = .ok (.slice (some ⟨w.heap.size, 0, none⟩) 1 1) (w.alloc (.cells #[v] e)) := by
  obtain ⟨i, hi, hz0, hz1, hz2⟩ := info_parts he.info
  have h1 := he.one
  simp [Instr.buildSlice, run_underlying he.under, sizeOf, typeInfo, hi, hz1, zeroValue, hz0, Instr.fill, hv, newRow, newObj, Sem.run, h1]
  have e1 : (Array.map (fun x => z.cells[x % 1]!) (Array.range 1)).setIfInBounds 0 v = #[v] := by
    apply Array.ext
    · simp
    · intro k hk hk2
      have : k = 0 := by simp at hk2; omega
      subst this
      simp
  rw [e1]

theorem wp_build1 {t e : TypeId} {z : Value} {bytes : Nat} (he : Elem1 P t e z bytes) (x : Operand) (ho : o.op = .buildSlice t 1 #[(0, x)]) (v : Value) (hx : a.eval x = v) (hv : v.cells = #[v])
    (h : ∀ b w', w'.heap[b]? = some (.cells #[v] e (0, 0)) → b = w.heap.size → b < w'.heap.size → Keep None1 w w' → K (a.put o.dst (.slice (some ⟨b, 0, none⟩) 1 1)) w') : o.wp P a w K Q := by
  have hr := run_build1 he v hv w
  unfold Oper.wp
  simp only [execOp, ho, List.map_toArray, List.map_cons, List.map_nil, hx, Sem.run_bind, hr, Result.andThen_ok]
  exact h _ _ (Below.heap_new_at w #[v] e) rfl (by simp) (Keep.alloc w _)

theorem wp_append1 {t e : TypeId} {z : Value} {bytes : Nat} (he : Elem1 P t e z bytes) (s x : Operand) (ho : o.op = .call { callee := .builtin .append, args := #[s, x], argTypes := #[t, t] })
    (base : Nat) (v : Value) (n : Nat) (xs : List Value) (hs : a.eval s = v) (hown : w.ownsRow base e 1 v n xs)
    (b : Nat) (y : Value) (hx : a.eval x = .slice (some ⟨b, 0, none⟩) 1 1) (hb : w.heap[b]? = some (.cells #[y] e (0, 0))) (hy : y.oneCell' = true)
    (h63 : n + 1 ≤ 1000000000) (hbytes : bytes ≤ 64) (hbase : base ≤ w.heap.size)
    (h : ∀ g cap w', w'.ownsRow base e 1 (.slice (some ⟨g, 0, none⟩) (n + 1) cap) (n + 1) (xs ++ [y]) → Keep (fun k => v.ownBlock = some k) w w' → (v.ownBlock = some g ∨ g = w.heap.size) → g < w'.heap.size →
      K (a.put o.dst (.slice (some ⟨g, 0, none⟩) (n + 1) cap)) w') : o.wp P a w K Q := by
  obtain ⟨i, hi, hz0, hz1, hz2⟩ := info_parts he.info
  have hbb : (n + 1) * bytes ≤ 140737488355328 := by
    have : (n + 1) * bytes ≤ 1000000000 * 64 := Nat.mul_le_mul h63 hbytes
    omega
  exact wp_append_lies w s x t ho base e i z 1 bytes he.under hi hz0 hz1 hz2 he.one (by decide) v n xs hs hown ⟨b, 0, none⟩ 1 1 [y] hx rfl
    (World.news_of_block (cs := #[y]) hb) (by intro u hu; rw [List.mem_singleton.1 hu]; exact hy) (by decide) (by unfold maxLen; omega) hbb hbase _ rfl fun g cap w' h2 h3 h4 h5 => h g cap w' h2 (Keep.grown h3) h4 h5

/-- As a step of a region that draws; as a step of one that does not. -/
theorem step_of {ops : Array Oper} {E : Prop} (hg : o.guard = none) (h : o.wp P a w K Q) : if Region.wanted o (yielded ops a.tmps) = true then Oper.wp P o a w K Q else E := by
  rw [if_pos (by simp [Region.wanted, hg])]; exact h
theorem wpList_of {ops : Array Oper} {rest : List Oper} (hg : o.guard = none) (h : o.wp P a w (wpList P ops Q rest) Q) : wpList P ops Q (o :: rest) a w := by
  unfold wpList
  rw [if_pos (by simp [Region.wanted, hg])]
  exact .inl h
end
end Go
