/- Arguments of slices of floats, in the clean memory. -/
import Derived.Test.YtghhanifakllpaaRows
import Derived.Test.YtghhanifakllpaaPX
import Derived.ProofKit
import Derived.OpenShut
import Derived.JoinedCond
import Derived.Deep.Slices
import Derived.Carry
namespace Go.Proofs.Ytghhanifakllpaa
open Go.RowKit Go.Clean Go.ChangeShapes Go.WideShapes
set_option maxRecDepth 100000

theorem bulk_one {H : Type} (d : DataW H) : 1 ≤ Rows.uptoBulk d := by
  cases d with
  | lit l => cases l <;> simp [Rows.uptoBulk]
  | nil => simp [Rows.uptoBulk]
  | ptr d => simp [Rows.uptoBulk]
  | slice elems spare => simp [Rows.uptoBulk]
  | agg parts => simp [Rows.uptoBulk]
  | iface t d => simp [Rows.uptoBulk]
  | map entries => simp [Rows.uptoBulk]
  | held h => simp [Rows.uptoBulk]
theorem bulk_append {H : Type} (l r : List (DataW H)) : Rows.uptoBulkAll (l ++ r) = Rows.uptoBulkAll l + Rows.uptoBulkAll r := by
  induction l with
  | nil => simp [Rows.uptoBulkAll]
  | cons x l ih => simp only [List.cons_append, Rows.uptoBulkAll, ih]; omega
theorem bulk_length {H : Type} (l : List (DataW H)) : l.length ≤ Rows.uptoBulkAll l := by
  induction l with
  | nil => simp [Rows.uptoBulkAll]
  | cons x r ih => have := bulk_one x; simp only [Rows.uptoBulkAll, List.length_cons]; omega

/-! ### What the arguments are -/
theorem und25 : Try.prog.underlying 25 = some (.float .f64) := by kernel_rfl
theorem cof25 : Try.prog.cellsOf 25 = 1 := by kernel_rfl
theorem cof24 : Try.prog.cellsOf 24 = 1 := by kernel_rfl
section
variable {H : Type} {enc : TypeId × Value → H} {W : World}
theorem float_of {fuel : Nat} {v : Value} {x : DataW H × List MemPlace} (h : DataW.trod enc Try.prog W 0 (fun _ => true) true fuel 25 [v] = some x) : ∃ y, v = .float .f64 y := by
  cases fuel with
  | zero => simp [DataW.trod] at h
  | succ n =>
    unfold DataW.trod at h
    rw [und25] at h
    cases v with
    | float k y =>
      cases k with
      | f64 => exact ⟨y, rfl⟩
      | f32 => simp at h
    | _ => simp at h
/-- A slice of these bits. -/
def RowC (W : World) (v : Value) (ys : List Nat) : Prop := (v = .slice none 0 0 ∧ ys = []) ∨ ∃ a cap, v = .slice (some a) ys.length cap ∧ ys.length ≤ cap ∧ (a.spot = none ∨ cap = 0) ∧ ∀ i, i < ys.length → W.cell? ⟨a.block, a.off + i, none⟩ = some (.float .f64 (ys.getD i 0))
def bitOf : Value → Nat
  | .float _ y => y
  | _ => 0
theorem rowC_of {fuel : Nat} {cs : List Value} {x : DataW H × List MemPlace} (h : DataW.trod enc Try.prog W 0 (fun _ => true) true fuel 24 cs = some x) : ∃ v ys, cs = [v] ∧ RowC W v ys ∧ 1 + ys.length ≤ Rows.uptoBulk x.1 := by
  rcases Go.Deep.open_slice1 under24 cof25 h with ⟨rfl, rfl⟩ | ⟨a, len, cap, m, n, V, D, Pl, rfl, _, hl, _, hm, rfl, hall⟩
  · exact ⟨_, [], rfl, .inl ⟨rfl, rfl⟩, by simp [Rows.uptoBulk]⟩
  · simp only [if_true] at hm
    subst hm
    have hspot : a.spot = none ∨ m = 0 := by
      by_cases h0 : m = 0
      · exact .inr h0
      · have := (hall 0 (by omega)).1
        exact .inl (by simpa [Addr.add] using World.cell?_spot this)
    refine ⟨_, (List.range len).map fun i => bitOf (V i), rfl, .inr ⟨a, m, by simp, by simpa using hl, hspot, fun i hi => ?_⟩, ?_⟩
    · simp only [List.length_map, List.length_range] at hi
      obtain ⟨h1, h2⟩ := hall i (by omega)
      obtain ⟨y, hy⟩ := float_of h2
      have hs : a.spot = none := by
        rcases hspot with h | h
        · exact h
        · omega
      obtain ⟨b, o, s⟩ := a
      simp only at hs
      subst hs
      rw [add_plain] at h1
      rw [h1, hy]
      simp [List.getD, hi, hy, bitOf]
    · have := bulk_length ((List.range len).map D)
      simp only [List.length_map, List.length_range] at this ⊢
      simp only [Rows.uptoBulk]
      omega
def MatC (W : World) (v : Value) (rv : Nat → Value) (yss : List (List Nat)) : Prop := (v = .slice none 0 0 ∧ yss = []) ∨ ∃ a cap, v = .slice (some a) yss.length cap ∧ yss.length ≤ cap ∧ a.spot = none ∧ ∀ i, i < yss.length → W.cell? ⟨a.block, a.off + i, none⟩ = some (rv i) ∧ RowC W (rv i) (yss.getD i [])
def flss (yss : List (List Nat)) : List (List F) := yss.map fun ys => ys.map fl
theorem matC_of {fuel : Nat} {cs : List Value} {x : DataW H × List MemPlace} (h : DataW.trod enc Try.prog W 0 (fun _ => true) true fuel 23 cs = some x) (hsp : ∀ a n c, cs = [.slice (some a) n c] → a.spot = none) : ∃ v rv yss, cs = [v] ∧ MatC W v rv yss ∧ fewTo (flss yss) yss.length + 1 ≤ Rows.uptoBulk x.1 := by
  rcases Go.Deep.open_slice1 under23 cof24 h with ⟨rfl, rfl⟩ | ⟨a, len, cap, m, n, V, D, Pl, rfl, _, hl, _, hm, rfl, hall⟩
  · exact ⟨_, fun _ => undef, [], rfl, .inl ⟨rfl, rfl⟩, by simp [Rows.uptoBulk, fewTo]⟩
  · simp only [if_true] at hm
    subst hm
    have hspot : a.spot = none := hsp _ _ _ rfl
    have hrow : ∀ i, ∃ ys : List Nat, i < m → RowC W (V i) ys ∧ 1 + ys.length ≤ Rows.uptoBulk (D i) := fun i => by
      by_cases hi : i < m
      · obtain ⟨v, ys, h1, h2, h3⟩ := rowC_of (hall i hi).2
        cases h1
        exact ⟨ys, fun _ => ⟨h2, h3⟩⟩
      · exact ⟨[], fun h => absurd h hi⟩
    obtain ⟨Y, hY⟩ := Classical.axiomOfChoice hrow
    have hlen : ((List.range len).map Y).length = len := by simp
    refine ⟨_, V, (List.range len).map Y, rfl, .inr ⟨a, m, by rw [hlen], by rw [hlen]; exact hl, hspot, fun i hi => ?_⟩, ?_⟩
    · rw [hlen] at hi
      obtain ⟨h1, h2⟩ := hall i (by omega)
      have hs : a.spot = none := hspot
      obtain ⟨b, o, s⟩ := a
      simp only at hs
      subst hs
      rw [add_plain] at h1
      refine ⟨h1, ?_⟩
      have := (hY i (by omega)).1
      simpa [List.getD, hi] using this
    · rw [hlen]
      have key : ∀ k, k ≤ len → fewTo (flss ((List.range len).map Y)) k ≤ Rows.uptoBulkAll ((List.range k).map D) := by
        intro k
        induction k with
        | zero => intro _; simp [fewTo, Rows.uptoBulkAll]
        | succ k ih =>
          intro hk
          have := ih (by omega)
          have h3 := (hY k (by omega)).2
          have e : (rat' (flss ((List.range len).map Y)) k).length = (Y k).length := by simp [rat', flss, List.getD, show k < len by omega]
          rw [List.range_succ, List.map_append, bulk_append]
          show fewTo _ k + (1 + (rat' _ k).length) ≤ _
          rw [e]
          simp only [List.map_cons, List.map_nil, Rows.uptoBulkAll]
          omega
      have := key len (Nat.le_refl _)
      simp only [Rows.uptoBulk]
      omega
end

/-! ### The clean memory of the arguments -/
def memOf (l : List Blk) : Mem := l.foldl (fun m x => m.nw x) Mem.empty
theorem memOf_go : ∀ (l : List Blk) (m : Mem), (l.foldl (fun m x => m.nw x) m).next = m.next + l.length ∧ ∀ b, (l.foldl (fun m x => m.nw x) m).at b = if b < m.next then m.at b else if b < m.next + l.length then l[b - m.next]? else m.at b
  | [], m => ⟨rfl, fun b => by simp only [List.foldl_nil, List.length_nil, Nat.add_zero]; split <;> rfl⟩
  | x :: l, m => by
    obtain ⟨h1, h2⟩ := memOf_go l (m.nw x)
    simp only [List.foldl_cons]
    refine ⟨by rw [h1]; simp; omega, fun b => ?_⟩
    rw [h2 b]
    simp only [Mem.next_nw, Mem.at_nw, List.length_cons]
    by_cases h3 : b < m.next
    · rw [if_pos (by omega), if_neg (by omega), if_pos h3]
    · by_cases h4 : b = m.next
      · subst h4
        rw [if_pos (by omega), if_pos rfl, if_neg (by omega), if_pos (by omega)]
        simp
      · rw [if_neg (by omega), if_neg h3]
        by_cases h5 : b < m.next + (l.length + 1)
        · rw [if_pos (by omega), if_pos h5, show b - m.next = (b - (m.next + 1)) + 1 by omega]
          rfl
        · rw [if_neg (by omega), if_neg h5, if_neg h4]
theorem memOf_next (l : List Blk) : (memOf l).next = l.length := by
  have := (memOf_go l Mem.empty).1
  simpa [memOf, Mem.empty] using this
theorem memOf_at (l : List Blk) (b : Nat) : (memOf l).at b = l[b]? := by
  have h := (memOf_go l Mem.empty).2 b
  have e : (Mem.empty).next = 0 := rfl
  rw [e] at h
  show (l.foldl (fun m x => m.nw x) Mem.empty).at b = _
  rw [h, if_neg (Nat.not_lt_zero _), Nat.zero_add, Nat.sub_zero]
  by_cases h2 : b < l.length
  · rw [if_pos h2]
  · rw [if_neg h2, List.getElem?_eq_none (by omega)]
    rfl
theorem memOf_wf (l : List Blk) : WF (memOf l) := fun b x hb => by
  rw [memOf_at] at hb
  rw [memOf_next]
  exact (List.getElem?_eq_some_iff.1 hb).1

def absV (k : Nat) : Value → Value
  | .slice (some ⟨_, _, none⟩) n c => .slice (some ⟨k, 0, none⟩) n c
  | .slice (some ⟨_, _, some s⟩) _ _ => .slice (some ⟨k, 0, some s⟩) 0 0
  | _ => .slice none 0 0
def plc : Value → Clean.Place
  | .slice (some a) _ c => ⟨a.block, a.off, a.off + c, 1, true⟩
  | _ => ⟨0, 0, 0, 1, true⟩
def fBlk (ys : List Nat) : Blk := ⟨ys.map fun y => .float .f64 (canon y), 1, false, true⟩
theorem absV_one (k : Nat) (v : Value) : oneV (absV k v) = true := by
  unfold absV
  split <;> rfl
theorem row_VR {W : World} {v : Value} {ys : List Nat} (h : RowC W v ys) {ρ : Env} {k : Nat} (hk : ρ k = some (plc v)) : VR ρ (absV k v) v := by
  rcases h with ⟨rfl, rfl⟩ | ⟨⟨b, o, s⟩, cap, rfl, hl, hs, _⟩
  · rfl
  · cases s with
    | none => exact .inl ⟨_, cap, hk, rfl, rfl, hl, Nat.le_refl _, fun _ => rfl, by show o + 0 + cap * 1 ≤ o + cap; omega⟩
    | some s =>
      have hc : cap = 0 := by
        rcases hs with h | h
        · cases h
        · exact h
      have hz : ys.length = 0 := by omega
      refine .inr ⟨by simp, rfl, rfl, _, by rw [hz, hc]⟩
theorem mat_VR {W : World} {v : Value} {rv : Nat → Value} {yss : List (List Nat)} (h : MatC W v rv yss) {ρ : Env} {k : Nat} (hk : ρ k = some (plc v)) : VR ρ (absV k v) v := by
  rcases h with ⟨rfl, rfl⟩ | ⟨⟨b, o, s⟩, cap, rfl, hl, hs, _⟩
  · rfl
  · simp only at hs
    subst hs
    exact .inl ⟨_, cap, hk, rfl, rfl, hl, Nat.le_refl _, fun _ => rfl, by show o + 0 + cap * 1 ≤ o + cap; omega⟩
theorem row_FL {W : World} {v : Value} {ys : List Nat} (h : RowC W v ys) {m : Mem} {k : Nat} (hk : m.at k = some (fBlk ys)) : FL m (absV k v) (ys.map fl) := by
  rcases h with ⟨rfl, rfl⟩ | ⟨⟨b, o, s⟩, cap, rfl, hl, hs, _⟩
  · exact FL.nil _
  · cases s with
    | none =>
      refine ⟨some ⟨k, 0, none⟩, cap, by simp [absV], .inr ⟨k, 0, _, rfl, hk, fun i hi => ?_⟩⟩
      simp only [List.length_map] at hi
      rw [Nat.zero_add]
      simp [fBlk, fat, List.getD, hi, cOf_fl]
    | some s =>
      have hc : cap = 0 := by
        rcases hs with h | h
        · cases h
        · exact h
      have hz : ys.length = 0 := by omega
      refine ⟨some ⟨k, 0, some s⟩, 0, by simp [absV, hz], .inl ⟨fun w h => by cases h; simp, by simpa using hz, rfl⟩⟩
theorem row_cells {W : World} {v : Value} {ys : List Nat} (h : RowC W v ys) {ρ : Env} {i : Nat} {u : Value} (hi : (fBlk ys).cells[i]? = some u) : ∃ u', W.cell? ⟨(plc v).blk, (plc v).off + i, none⟩ = some u' ∧ VR ρ u u' ∧ oneV u = true := by
  have hlt : i < ys.length := by
    have := (List.getElem?_eq_some_iff.1 hi).1
    simpa [fBlk] using this
  have hu : u = .float .f64 (canon (ys.getD i 0)) := by
    simp [fBlk, hlt] at hi
    rw [← hi]; simp [List.getD, hlt]
  subst hu
  rcases h with ⟨rfl, rfl⟩ | ⟨a, cap, rfl, hl, hs, hcell⟩
  · simp at hlt
  · exact ⟨_, hcell i hlt, ⟨_, rfl, FR_canon _⟩, rfl⟩
/-- Below the heap's end, what holds cells. -/
theorem cell_lt {W : World} {b o : Nat} {v : Value} (h : W.cell? ⟨b, o, none⟩ = some v) : b < W.heap.size := by
  by_cases hlt : b < W.heap.size
  · exact hlt
  · simp [World.cell?, Array.getElem?_eq_none (Nat.le_of_not_lt hlt)] at h

/-- What the executor's run gives, in the model. -/
theorem calls_of {P : Program} {known : Known} (hk : KnownOK P known) (hmix : P.follows .mixedOrders = true) (hback : BackOK P) (hno : noCount P = true) {n : Nat} {f : FuncId} {args : List Value} (hkf : known f args = none) {N : Nat} {ρ : Env} {m m' : Mem} {w : World} {cargs : List Value} {v : Value}
    (h : callN P known (n + 1) f args m = some (v, m')) (hr : Rel N ρ m.t.get w) (ha : VRs ρ args cargs) (hf : Fresh ρ m m') :
    Calls P f ⟨cargs⟩ w fun e w' => ∃ v' ρ', e = .returned v' ∧ After N ρ m m' w v v' w' ρ' := by
  unfold callN at h
  simp only [hkf] at h
  cases hfn : P.funcs[f]? with
  | none => simp only [hfn] at h; exact (fail_some h).elim
  | some fn =>
    simp only [hfn] at h
    obtain ⟨_, hcall⟩ := body_does (callN_ok hk hmix hback hno n) (callN_local hk n) (deferred_ok (callN_ok hk hmix hback hno n) (callN_local hk n) hmix hback hno) (Local.deferredX (callN_local hk n)) hmix hback hfn h hr ha hf
    exact callsIn_wide.1 hcall
end Go.Proofs.Ytghhanifakllpaa
