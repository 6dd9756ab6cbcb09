/- Arguments of slices of whole numbers, in the clean memory. -/
import Derived.Test.YtigbkoadojjajaaGreatRows
import Derived.Test.YtigbkoadojjajaaGreatWyZ
import Derived.ProofKit
import Derived.OpenShut
import Derived.JoinedCond
import Derived.Deep.Slices
import Derived.Carry
set_option linter.unusedSimpArgs false
set_option linter.unusedVariables false
namespace Go.Proofs.YtigbkoadojjajaaGreat
open Go.RowKit Go.Clean Go.ChangeShapes Go.WideShapes Go.ChangeAt
set_option maxRecDepth 100000

/-! ### What the arguments are -/
theorem und_i : Tryz.prog.underlying 3 = some (.int .i64) := by kernel_rfl
theorem cof_i : Tryz.prog.cellsOf 3 = 1 := by kernel_rfl
section
variable {H : Type} {enc : TypeId × Value → H} {W : World}
theorem int_of {fuel : Nat} {v : Value} {x : DataW H × List MemPlace} (h : DataW.trod enc Tryz.prog W 0 (fun _ => true) true fuel 3 [v] = some x) : ∃ y, v = .int .i64 y := by
  cases fuel with
  | zero => simp [DataW.trod] at h
  | succ n =>
    unfold DataW.trod at h
    rw [und_i] at h
    cases v with
    | int k y =>
      simp only at h
      split at h
      · rename_i hk
        obtain ⟨rfl, _⟩ := hk
        exact ⟨y, rfl⟩
      · cases h
    | _ => simp at h
/-- A slice of these numbers. -/
def RowI (W : World) (v : Value) (ys : List Int) : Prop := (v = .slice none 0 0 ∧ ys = []) ∨ ∃ a cap, v = .slice (some a) ys.length cap ∧ ys.length ≤ cap ∧ (a.spot = none ∨ cap = 0) ∧ ∀ i, i < ys.length → W.cell? ⟨a.block, a.off + i, none⟩ = some (.int .i64 (ys.getD i 0))
def intAt : Value → Int
  | .int _ y => y
  | _ => 0
theorem rowI_of {fuel : Nat} {cs : List Value} {x : DataW H × List MemPlace} (h : DataW.trod enc Tryz.prog W 0 (fun _ => true) true fuel 22 cs = some x) : ∃ v ys, cs = [v] ∧ RowI W v ys := by
  rcases Go.Deep.open_slice1 under_I cof_i h with ⟨rfl, rfl⟩ | ⟨a, len, cap, m, n, V, D, Pl, rfl, _, hl, _, hm, rfl, hall⟩
  · exact ⟨_, [], rfl, .inl ⟨rfl, rfl⟩⟩
  · simp only [if_true] at hm
    subst hm
    have hspot : a.spot = none ∨ m = 0 := by
      by_cases h0 : m = 0
      · exact .inr h0
      · have := (hall 0 (by omega)).1
        exact .inl (by simpa [Addr.add] using World.cell?_spot this)
    refine ⟨_, (List.range len).map fun i => intAt (V i), rfl, .inr ⟨a, m, by simp, by simpa using hl, hspot, fun i hi => ?_⟩⟩
    simp only [List.length_map, List.length_range] at hi
    obtain ⟨h1, h2⟩ := hall i (by omega)
    obtain ⟨y, hy⟩ := int_of h2
    have hs : a.spot = none := by
      rcases hspot with h | h
      · exact h
      · omega
    obtain ⟨b, o, s⟩ := a
    simp only at hs
    subst hs
    rw [add_plain] at h1
    rw [h1, hy]
    simp [List.getD, hi, hy, intAt]
end

/-! ### The clean memory of the arguments -/
def memOf (l : List Blk) : Mem := l.foldl (fun m x => m.nw x) Mem.empty
theorem memOf_go : ∀ (l : List Blk) (m : Mem), (l.foldl (fun m x => m.nw x) m).next = m.next + l.length ∧ ∀ b, (l.foldl (fun m x => m.nw x) m).at b = if b < m.next then m.at b else if b < m.next + l.length then l[b - m.next]? else m.at b
  | [], m => ⟨rfl, fun b => by simp only [List.foldl_nil, List.length_nil, Nat.add_zero]; split <;> rfl⟩
  | x :: l, m => by
    obtain ⟨h1, h2⟩ := memOf_go l (m.nw x)
    simp only [List.foldl_cons]
    refine ⟨by rw [h1]; simp; omega, fun b => ?_⟩
    rw [h2 b]
    simp only [Mem.next_nw, Mem.at_nw, List.length_cons]
    by_cases h3 : b < m.next
    · rw [if_pos (by omega), if_neg (by omega), if_pos h3]
    · by_cases h4 : b = m.next
      · subst h4
        rw [if_pos (by omega), if_pos rfl, if_neg (by omega), if_pos (by omega)]
        simp
      · rw [if_neg (by omega), if_neg h3]
        by_cases h5 : b < m.next + (l.length + 1)
        · rw [if_pos (by omega), if_pos h5, show b - m.next = (b - (m.next + 1)) + 1 by omega]
          rfl
        · rw [if_neg (by omega), if_neg h5, if_neg h4]
theorem memOf_next (l : List Blk) : (memOf l).next = l.length := by
  have := (memOf_go l Mem.empty).1
  simpa [memOf, Mem.empty] using this
theorem memOf_at (l : List Blk) (b : Nat) : (memOf l).at b = l[b]? := by
  have h := (memOf_go l Mem.empty).2 b
  have e : (Mem.empty).next = 0 := rfl
  rw [e] at h
  show (l.foldl (fun m x => m.nw x) Mem.empty).at b = _
  rw [h, if_neg (Nat.not_lt_zero _), Nat.zero_add, Nat.sub_zero]
  by_cases h2 : b < l.length
  · rw [if_pos h2]
  · rw [if_neg h2, List.getElem?_eq_none (by omega)]
    rfl
theorem memOf_wf (l : List Blk) : MW (memOf l) := fun b x hb => by
  rw [memOf_at] at hb
  rw [memOf_next]
  exact (List.getElem?_eq_some_iff.1 hb).1

def absV (k : Nat) : Value → Value
  | .slice (some ⟨_, _, none⟩) n c => .slice (some ⟨k, 0, none⟩) n c
  | .slice (some ⟨_, _, some s⟩) _ _ => .slice (some ⟨k, 0, some s⟩) 0 0
  | _ => .slice none 0 0
def plc : Value → Clean.Place
  | .slice (some a) _ c => ⟨a.block, a.off, a.off + c, 1, true⟩
  | _ => ⟨0, 0, 0, 1, true⟩
def iBlk (ys : List Int) : Blk := ⟨ys.map fun y => .int .i64 y, 1, false, true⟩
theorem row_VR {W : World} {v : Value} {ys : List Int} (h : RowI W v ys) {ρ : Env} {k : Nat} (hk : ρ k = some (plc v)) : VR ρ (absV k v) v := by
  rcases h with ⟨rfl, rfl⟩ | ⟨⟨b, o, s⟩, cap, rfl, hl, hs, _⟩
  · rfl
  · cases s with
    | none => exact .inl ⟨_, cap, hk, rfl, rfl, hl, Nat.le_refl _, fun _ => rfl, by show o + 0 + cap * 1 ≤ o + cap; omega⟩
    | some s =>
      have hc : cap = 0 := by
        rcases hs with h | h
        · cases h
        · exact h
      have hz : ys.length = 0 := by omega
      refine .inr ⟨by simp, rfl, rfl, _, by rw [hz, hc]⟩
theorem row_IL {W : World} {v : Value} {ys : List Int} (h : RowI W v ys) {m : Mem} {k : Nat} (hk : m.at k = some (iBlk ys)) : IL m (absV k v) ys.length fun i => ys.getD i 0 := by
  rcases h with ⟨rfl, rfl⟩ | ⟨⟨b, o, s⟩, cap, rfl, hl, hs, _⟩
  · exact ⟨none, 0, rfl, .inl rfl⟩
  · cases s with
    | none =>
      refine ⟨some ⟨k, 0, none⟩, cap, rfl, .inr ⟨k, 0, _, rfl, hk, fun i hi => ?_⟩⟩
      rw [Nat.zero_add]
      simp [iBlk, List.getD, hi]
    | some s =>
      have hc : cap = 0 := by
        rcases hs with h | h
        · cases h
        · exact h
      have hz : ys.length = 0 := by omega
      exact ⟨some ⟨k, 0, some s⟩, 0, by simp [absV, hz], .inl hz⟩
theorem row_cells {W : World} {v : Value} {ys : List Int} (h : RowI W v ys) {ρ : Env} {i : Nat} {u : Value} (hi : (iBlk ys).cells[i]? = some u) : ∃ u', W.cell? ⟨(plc v).blk, (plc v).off + i, none⟩ = some u' ∧ VR ρ u u' ∧ oneV u = true := by
  have hlt : i < ys.length := by
    have := (List.getElem?_eq_some_iff.1 hi).1
    simpa [iBlk] using this
  have hu : u = .int .i64 (ys.getD i 0) := by
    simp [iBlk, hlt] at hi
    rw [← hi]; simp [List.getD, hlt]
  subst hu
  rcases h with ⟨rfl, rfl⟩ | ⟨a, cap, rfl, hl, hs, hcell⟩
  · simp at hlt
  · exact ⟨_, hcell i hlt, VR.leaf (v := .int .i64 (ys.getD i 0)) rfl, rfl⟩
/-- Below the heap's end, what holds cells. -/
theorem cell_lt {W : World} {b o : Nat} {v : Value} (h : W.cell? ⟨b, o, none⟩ = some v) : b < W.heap.size := by
  by_cases hlt : b < W.heap.size
  · exact hlt
  · simp [World.cell?, Array.getElem?_eq_none (Nat.le_of_not_lt hlt)] at h
theorem plc_facts (v : Value) : (plc v).sz = 1 ∧ (plc v).exact = true ∧ (plc v).off ≤ (plc v).fin := by
  unfold plc
  split
  · exact ⟨rfl, rfl, Nat.le_add_right _ _⟩
  · exact ⟨rfl, rfl, Nat.le_refl _⟩
section
variable {W : World} {V : Nat → Value} {X : Nat → List Int} {N : Nat}
def argL (N : Nat) (X : Nat → List Int) : List Blk := (List.range N).map fun b => iBlk (X b)
def argE (N : Nat) (V : Nat → Value) : Env := fun b => if b < N then some (plc (V b)) else none
theorem arg_at (b : Nat) : (memOf (argL N X)).at b = if b < N then some (iBlk (X b)) else none := by
  rw [memOf_at]
  unfold argL
  by_cases h : b < N
  · rw [if_pos h]; simp [h]
  · rw [if_neg h, List.getElem?_eq_none (by simp; omega)]
theorem arg_rel (hR : ∀ b, b < N → RowI W (V b) (X b)) : Rel W.heap.size (argE N V) (memOf (argL N X)).t.get W := by
  have hro : ∀ b x, (memOf (argL N X)).at b = some x → x.ro = true := fun b x hb => by
    rw [arg_at] at hb
    split at hb
    · cases hb; rfl
    · cases hb
  refine ⟨Nat.le_refl _, fun b x hb => ?_, fun b b' x x' p p' _ hb _ hr => ?_, fun b x p hb hp hm => ?_⟩
  · have hb' : (memOf (argL N X)).at b = some x := hb
    have hro' := hro b x hb'
    rw [arg_at] at hb'
    split at hb'
    · rename_i hlt
      cases hb'
      have hpl : argE N V b = some (plc (V b)) := by unfold argE; rw [if_pos hlt]
      have hcells : ∀ (i : Nat) (u : Value), (iBlk (X b)).cells[i]? = some u → ∃ u', W.cell? ⟨(plc (V b)).blk, (plc (V b)).off + i, none⟩ = some u' ∧ VR (argE N V) u u' ∧ oneV u = true := fun i u hi => row_cells (hR b hlt) hi
      refine ⟨_, hpl, ?_, ?_, hcells, fun _ => ?_, fun h => ?_⟩
      · exact (plc_facts _).1.symm
      · rw [(plc_facts _).2.1]; rfl
      · cases hc : (iBlk (X b)).cells with
        | nil => exact .inl rfl
        | cons u l =>
          obtain ⟨u', h1, _⟩ := hcells 0 u (by rw [hc]; rfl)
          exact .inr (cell_lt h1)
      · rw [hro'] at h; cases h
    · cases hb'
  · have := hro b x hb
    rw [this] at hr; cases hr
  · unfold argE at hp
    split at hp
    · cases hp
      have := (plc_facts (V b)).2.2
      omega
    · cases hp
theorem arg_IL (hR : ∀ b, b < N → RowI W (V b) (X b)) {b : Nat} (h : b < N) : IL (memOf (argL N X)) (absV b (V b)) (X b).length fun i => (X b).getD i 0 := row_IL (hR b h) (by rw [arg_at, if_pos h])
theorem arg_VR (hR : ∀ b, b < N → RowI W (V b) (X b)) {b : Nat} (h : b < N) : VR (argE N V) (absV b (V b)) (V b) := row_VR (hR b h) (by unfold argE; rw [if_pos h])
theorem arg_fresh {m' : Mem} : Fresh (argE N V) (memOf (argL N X)) m' := fun b h1 _ => by
  rw [memOf_next] at h1
  unfold argE
  rw [if_neg (by simp [argL] at h1; omega)]
end
/-- What the executor's run gives, in the model. -/
theorem calls_of {P : Program} {known : Known} (hk : KnownOK P known) (hmix : P.follows .mixedOrders = true) (hback : BackOK P) (hno : noCount P = true) {n : Nat} {f : FuncId} {args : List Value} (hkf : known f args = none) {N : Nat} {ρ : Env} {m m' : Mem} {w : World} {cargs : List Value} {v : Value}
    (h : callN P known (n + 1) f args m = some (v, m')) (hr : Rel N ρ m.t.get w) (ha : VRs ρ args cargs) (hf : Fresh ρ m m') :
    Calls P f ⟨cargs⟩ w fun e w' => ∃ v' ρ', e = .returned v' ∧ After N ρ m m' w v v' w' ρ' := by
  unfold callN at h
  simp only [hkf] at h
  cases hfn : P.funcs[f]? with
  | none => simp only [hfn] at h; exact (fail_some h).elim
  | some fn =>
    simp only [hfn] at h
    obtain ⟨_, hcall⟩ := body_does (callN_ok hk hmix hback hno n) (callN_local hk n) (deferred_ok (callN_ok hk hmix hback hno n) (callN_local hk n) hmix hback hno) (Local.deferredX (callN_local hk n)) hmix hback hfn h hr ha hf
    exact callsIn_wide.1 hcall
theorem knob : ownKnob Tryz.prog.godebug = none := by kernel_rfl
theorem laid : laidOutB Tryz.prog = true := by kernel_rfl
section
variable {H : Type} {enc : TypeId × Value → H} {W : World}
theorem slice_of {b : Nat} {t e : TypeId} {v : Value} (ht : Tryz.prog.underlying t = some (.slice e)) (h : Value.okWide Tryz.prog W .any b t v) : v = .slice none 0 0 ∨ ∃ a n c, v = .slice (some a) n c ∧ a.spot = none := by
  obtain ⟨a, n, c, rfl⟩ := okWide_slice ht h
  unfold Value.okWide at h
  rw [ht] at h
  simp only [Cell.okWide, Cell.ok, ht] at h
  cases a with
  | none =>
    left
    cases n with
    | zero => cases c with
      | zero => rfl
      | succ c => simp at h
    | succ n => simp at h
  | some a => exact .inr ⟨a, n, c, rfl, h.2.2.2.1⟩
theorem row_of {b : Nat} {v : Value} {d : DataW H} {p : List MemPlace} (hv : Value.okWide Tryz.prog W .any b 22 v) (h : DataW.Trod enc Tryz.prog W 0 (fun _ => true) true 22 v d p) : ∃ ys, RowI W v ys := by
  have s0 := slice_of under_I hv
  have c0 : v.cells.toList = [v] := by rcases s0 with rfl | ⟨a, n, c, rfl, _⟩ <;> rfl
  obtain ⟨k0, t0⟩ := h
  rw [c0] at t0
  obtain ⟨u, ys, e, hR⟩ := rowI_of t0
  cases e
  exact ⟨ys, hR⟩
end
end Go.Proofs.YtigbkoadojjajaaGreat
