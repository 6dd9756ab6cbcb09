/- package solve over float64: a system in memory, behind so many steps; what stores do to it. -/
import Derived.Test.YtghhanifakllpaaD
namespace Go.Proofs.Ytghhanifakllpaa
open Go.RowKit

structure SysAt (base n : Nat) (R : Nat → Nat) (s : Sys) (rv fv pv ov : Value) (w : World) : Prop where
  ownR : w.ownsRow base 24 1 rv n ((List.range n).map fun j => rowV n (R j))
  ownF : w.ownsRow base 3 1 fv n ((List.range n).map fun j => Value.int .i64 (s.first j : Nat))
  ownP : ∃ pb : List Nat, (∀ x ∈ pb, W64 x) ∧ pb.map fl = s.piv ∧ w.ownsRow base 25 1 pv pb.length (pb.map flV)
  ownO : w.ownsRow base 4 1 ov s.odd.length (s.odd.map Value.bool)
  mat : ∀ i, i < n → ∃ bs : List Nat, bs.length = n + 1 ∧ (∀ x ∈ bs, W64 x) ∧ w.heap[R i]? = some (.cells (bs.map flV).toArray 25 (0, 0)) ∧ base ≤ R i ∧ ∀ j, j ≤ n → fl (bs.getD j 0) = s.M i j
  inj : ∀ i j, i < n → j < n → R i = R j → i = j
  apart : ∀ i, i < n → pv.ownBlock ≠ some (R i)

/-- Nothing of a system lies in X. -/
theorem SysAt.keep {X : Nat → Prop} {base n : Nat} {R : Nat → Nat} {s : Sys} {rv fv pv ov : Value} {w w' : World} (h : SysAt base n R s rv fv pv ov w) (hk : Keep X w w') (hx : ∀ g, base ≤ g → g < w.heap.size → ¬ X g) :
    SysAt base n R s rv fv pv ov w' where
  ownR := hk.owns h.ownR fun g hg => have := h.ownR.lt g hg; hx g this.1 this.2
  ownF := hk.owns h.ownF fun g hg => have := h.ownF.lt g hg; hx g this.1 this.2
  ownP := by
    obtain ⟨pb, h1, h2, h3⟩ := h.ownP
    exact ⟨pb, h1, h2, hk.owns h3 fun g hg => have := h3.lt g hg; hx g this.1 this.2⟩
  ownO := hk.owns h.ownO fun g hg => have := h.ownO.lt g hg; hx g this.1 this.2
  mat := fun i hi => by
    obtain ⟨bs, h1, h2, h3, h4, h5⟩ := h.mat i hi
    exact ⟨bs, h1, h2, hk.heap h3 (hx _ h4 (lt_of_block h3)), h4, h5⟩
  inj := h.inj
  apart := h.apart

section
variable {base n : Nat} {R : Nat → Nat} {s : Sys} {rv fv pv ov : Value} {w : World}

theorem SysAt.rowCell {g c : Nat} (h : SysAt base n R s (.slice (some ⟨g, 0, none⟩) n c) fv pv ov w) {i : Nat} (hi : i < n) :
    w.cell? ⟨g, i, none⟩ = some (.slice (some ⟨R i, 0, none⟩) (n + 1) (n + 1)) ∧ w.frozen? ⟨g, i, none⟩ = false := by
  refine ⟨?_, h.ownR.frozenAt i⟩
  rw [h.ownR.cellAt i (by omega)]
  simp [hi, rowV]
theorem SysAt.firstCell {g c : Nat} (h : SysAt base n R s rv (.slice (some ⟨g, 0, none⟩) n c) pv ov w) {i : Nat} (hi : i < n) :
    w.cell? ⟨g, i, none⟩ = some (.int .i64 (s.first i : Nat)) ∧ w.frozen? ⟨g, i, none⟩ = false := by
  refine ⟨?_, h.ownF.frozenAt i⟩
  rw [h.ownF.cellAt i (by omega)]
  simp [hi]
theorem SysAt.num (h : SysAt base n R s rv fv pv ov w) {i j : Nat} (hi : i < n) (hj : j ≤ n) :
    ∃ b, w.cell? ⟨R i, j, none⟩ = some (.float .f64 b) ∧ w.frozen? ⟨R i, j, none⟩ = false ∧ W64 b ∧ fl b = s.M i j := by
  obtain ⟨bs, h1, h2, h3, h4, h5⟩ := h.mat i hi
  refine ⟨bs.getD j 0, ?_, by simp [World.frozen?, h3], W_getD h2 (by omega), h5 j hj⟩
  simp [World.cell?, h3, List.getD, flV, List.getElem?_map, show j < bs.length by omega]
theorem SysAt.blocks (h : SysAt base n R s rv fv pv ov w) {i : Nat} (hi : i < n) : base ≤ R i ∧ R i < w.heap.size ∧ rv.ownBlock ≠ some (R i) ∧ fv.ownBlock ≠ some (R i) ∧ ov.ownBlock ≠ some (R i) := by
  obtain ⟨bs, h1, h2, h3, h4, h5⟩ := h.mat i hi
  exact ⟨h4, lt_of_block h3, owns_heap_apart h.ownR h3 (by decide), owns_heap_apart h.ownF h3 (by decide), owns_heap_apart h.ownO h3 (by decide)⟩

/-- One number is written. -/
theorem SysAt.setNum (h : SysAt base n R s rv fv pv ov w) {i j b : Nat} {x : F} (hi : i < n) (hj : j ≤ n) (hb : W64 b) (hx : fl b = x) :
    SysAt base n R { s with M := fun i' j' => if i' = i ∧ j' = j then x else s.M i' j' } rv fv pv ov (w.setCell ⟨R i, j, none⟩ (.float .f64 b)) := by
  obtain ⟨p1, p2, p3, p4, p5⟩ := h.blocks hi
  have hk := Keep.setCell w ⟨R i, j, none⟩ (.float .f64 b)
  refine ⟨hk.owns h.ownR ?_, hk.owns h.ownF ?_, ?_, hk.owns h.ownO ?_, ?_, h.inj, h.apart⟩
  · intro g hg e; unfold Just1 at e; subst e; exact p3 hg
  · intro g hg e; unfold Just1 at e; subst e; exact p4 hg
  · obtain ⟨pb, h1, h2, h3⟩ := h.ownP
    exact ⟨pb, h1, h2, hk.owns h3 fun g hg e => by unfold Just1 at e; subst e; exact h.apart i hi hg⟩
  · intro g hg e; unfold Just1 at e; subst e; exact p5 hg
  · intro i' hi'
    obtain ⟨bs, h1, h2, h3, h4, h5⟩ := h.mat i' hi'
    by_cases hii : i' = i
    · subst hii
      refine ⟨bs.set j b, by simpa using h1, ?_, ?_, h4, ?_⟩
      · intro y hy
        rcases List.mem_or_eq_of_mem_set hy with hy | hy
        · exact h2 y hy
        · rw [hy]; exact hb
      · have hm : ((bs.set j b).map flV).toArray = ((bs.map flV).toArray).setIfInBounds j (.float .f64 b) := by
          simp [List.map_set, flV]
        rw [hm]
        simp only [World.setCell, Array.getElem?_modify, if_true, h3, Option.map_some]
        simp
      · intro j' hj'
        by_cases hjj : j' = j
        · subst hjj
          simp [List.getD, show j' < bs.length by omega, hx]
        · have e : (bs.set j b).getD j' 0 = bs.getD j' 0 := by simp [List.getD, List.getElem?_set, Ne.symm hjj]
          rw [e, h5 j' hj']
          simp [hjj]
    · refine ⟨bs, h1, h2, hk.heap h3 ?_, h4, fun j' hj' => by rw [h5 j' hj']; simp [hii]⟩
      unfold Just1
      intro e
      exact hii (h.inj _ _ hi' hi e)

theorem set_range {α : Type} (f : Nat → α) (n i : Nat) (v : α) (hi : i < n) : ((List.range n).map f).set i v = (List.range n).map fun j => if j = i then v else f j := by
  apply List.ext_getElem
  · simp
  · intro k h1 h2
    simp only [List.length_set, List.length_map, List.length_range] at h1
    by_cases hk : i = k
    · subst hk; simp
    · simp [List.getElem_set, hk, Ne.symm hk]

/-- Two rows change places. -/
theorem SysAt.swapRows {g cp c p : Nat} (h : SysAt base n R s (.slice (some ⟨g, 0, none⟩) n cp) fv pv ov w) (hc : c < n) (hp : p < n) :
    SysAt base n (swapM R c p) { s with M := swapM s.M c p } (.slice (some ⟨g, 0, none⟩) n cp) fv pv ov ((w.setCell ⟨g, c, none⟩ (.slice (some ⟨R p, 0, none⟩) (n + 1) (n + 1))).setCell ⟨g, p, none⟩ (.slice (some ⟨R c, 0, none⟩) (n + 1) (n + 1))) := by
  have hk : Keep (Just1 g) w ((w.setCell ⟨g, c, none⟩ (.slice (some ⟨R p, 0, none⟩) (n + 1) (n + 1))).setCell ⟨g, p, none⟩ (.slice (some ⟨R c, 0, none⟩) (n + 1) (n + 1))) := (Keep.setCell w ⟨g, c, none⟩ _).trans (Keep.setCell _ ⟨g, p, none⟩ _)
  have hR := ((h.ownR.stored c (rowV n (R p))).1.stored p (rowV n (R c))).1
  have hgr : ∀ i, i < n → R i ≠ g := fun i hi e => (h.blocks hi).2.2.1 (by rw [e]; rfl)
  refine ⟨?_, hk.owns h.ownF ?_, ?_, hk.owns h.ownO ?_, ?_, ?_, ?_⟩
  · have e : ((((List.range n).map fun j => rowV n (R j)).set c (rowV n (R p))).set p (rowV n (R c))) = (List.range n).map fun j => rowV n (swapM R c p j) := by
      rw [set_range _ _ _ _ hc, set_range _ _ _ _ hp]
      apply List.map_congr_left
      intro j _
      unfold swapM
      by_cases h1 : j = p
      · subst h1; rw [if_pos rfl, sw_right]
      · rw [if_neg h1]
        by_cases h2 : j = c
        · subst h2; rw [if_pos rfl, sw_left]
        · rw [if_neg h2, sw_else h2 h1]
    rw [← e]
    exact hR
  · intro g' hg' e; unfold Just1 at e; subst e
    exact owns_apart h.ownR h.ownF (by decide) g' rfl hg'
  · obtain ⟨pb, h1, h2, h3⟩ := h.ownP
    exact ⟨pb, h1, h2, hk.owns h3 fun g' hg' e => by unfold Just1 at e; subst e; exact owns_apart h.ownR h3 (by decide) g' rfl hg'⟩
  · intro g' hg' e; unfold Just1 at e; subst e
    exact owns_apart h.ownR h.ownO (by decide) g' rfl hg'
  · intro i hi
    obtain ⟨bs, h1, h2, h3, h4, h5⟩ := h.mat (sw c p i) (sw_lt hc hp hi)
    refine ⟨bs, h1, h2, hk.heap h3 ?_, h4, h5⟩
    unfold Just1
    exact hgr _ (sw_lt hc hp hi)
  · intro i j hi hj hij
    exact sw_inj (h.inj _ _ (sw_lt hc hp hi) (sw_lt hc hp hj) hij)
  · intro i hi
    exact h.apart _ (sw_lt hc hp hi)

/-- Two rows' first numbers change places. -/
theorem SysAt.swapFirst {g cp c p : Nat} (h : SysAt base n R s rv (.slice (some ⟨g, 0, none⟩) n cp) pv ov w) (hc : c < n) (hp : p < n) :
    SysAt base n R { s with first := swapM s.first c p } rv (.slice (some ⟨g, 0, none⟩) n cp) pv ov ((w.setCell ⟨g, c, none⟩ (.int .i64 (s.first p : Nat))).setCell ⟨g, p, none⟩ (.int .i64 (s.first c : Nat))) := by
  have hk : Keep (Just1 g) w ((w.setCell ⟨g, c, none⟩ (.int .i64 (s.first p : Nat))).setCell ⟨g, p, none⟩ (.int .i64 (s.first c : Nat))) := (Keep.setCell w ⟨g, c, none⟩ _).trans (Keep.setCell _ ⟨g, p, none⟩ _)
  have hF := ((h.ownF.stored c (.int .i64 (s.first p : Nat))).1.stored p (.int .i64 (s.first c : Nat))).1
  refine ⟨hk.owns h.ownR ?_, ?_, ?_, hk.owns h.ownO ?_, ?_, h.inj, h.apart⟩
  · intro g' hg' e; unfold Just1 at e; subst e
    exact owns_apart h.ownF h.ownR (by decide) g' rfl hg'
  · have e : ((((List.range n).map fun j => Value.int .i64 (s.first j : Nat)).set c (.int .i64 (s.first p : Nat))).set p (.int .i64 (s.first c : Nat))) = (List.range n).map fun j => Value.int .i64 (swapM s.first c p j : Nat) := by
      rw [set_range _ _ _ _ hc, set_range _ _ _ _ hp]
      apply List.map_congr_left
      intro j _
      unfold swapM
      by_cases h1 : j = p
      · subst h1; rw [if_pos rfl, sw_right]
      · rw [if_neg h1]
        by_cases h2 : j = c
        · subst h2; rw [if_pos rfl, sw_left]
        · rw [if_neg h2, sw_else h2 h1]
    rw [← e]
    exact hF
  · obtain ⟨pb, h1, h2, h3⟩ := h.ownP
    exact ⟨pb, h1, h2, hk.owns h3 fun g' hg' e => by unfold Just1 at e; subst e; exact owns_apart h.ownF h3 (by decide) g' rfl hg'⟩
  · intro g' hg' e; unfold Just1 at e; subst e
    exact owns_apart h.ownF h.ownO (by decide) g' rfl hg'
  · intro i hi
    obtain ⟨bs, h1, h2, h3, h4, h5⟩ := h.mat i hi
    refine ⟨bs, h1, h2, hk.heap h3 ?_, h4, h5⟩
    unfold Just1
    intro e
    exact (h.blocks hi).2.2.2.1 (by rw [e]; rfl)
end

/-- The whole of what a call of steps holds in memory behind some columns. -/
structure L2 (B n : Nat) (R : Nat → Nat) (s : Sys) (rv fv pv ov : Value) (w0 wr : World) : Prop where
  below : Below B w0 wr
  box : BoxF wr B
  res : SysB wr (B + 1) (.slice none 0 0) (.slice none 0 0) (.slice none 0 0) (.slice none 0 0)
  sys : SysB wr (B + 2) rv fv pv ov
  sat : SysAt (B + 3) n R s rv fv pv ov wr

theorem L2.keep {B n : Nat} {R : Nat → Nat} {s : Sys} {rv fv pv ov : Value} {w0 wr w2 : World} (h : L2 B n R s rv fv pv ov w0 wr) (hk : Keep None1 wr w2) : L2 B n R s rv fv pv ov w0 w2 :=
  ⟨h.below.trans (hk.below (by have := h.box.lt; omega) fun _ _ h => h), h.box.keep hk id, h.res.keep hk id, h.sys.keep hk id, h.sat.keep hk fun _ _ _ h => h⟩
theorem L2.drewN {B n : Nat} {R : Nat → Nat} {s : Sys} {rv fv pv ov : Value} {w0 wr : World} (h : L2 B n R s rv fv pv ov w0 wr) (m : Nat) : L2 B n R s rv fv pv ov w0 (wr.drewN m) := h.keep (Keep.drewN wr m)

/-- The rows with their right sides, as floats. -/
def M0 (rows : List (List Nat)) (rhs : Nat → Nat) : Mx := fun i j => fl ((rows.getD i [] ++ [rhs i]).getD j 0)

theorem L2.of_L1 {rows : List (List Nat)} {rhs : Nat → Nat} {B n : Nat} {R : Nat → Nat} {rv fv : Value} {w0 wr : World} (h : L1 rows rhs B n n R rv fv w0 wr)
    (hl : ∀ i, i < n → (rows.getD i []).length = n) (hw : ∀ i, i < n → ∀ x ∈ rows.getD i [], W64 x) (hr : ∀ i, i < n → W64 (rhs i)) :
    L2 B n R (startS (M0 rows rhs)) rv fv (.slice none 0 0) (.slice none 0 0) w0 wr where
  below := h.below
  box := h.box
  res := h.res
  sys := h.sys
  sat := by
    refine ⟨h.ownR, h.ownF, ⟨[], by simp, rfl, World.ownsRow_nil _ _ _ _⟩, World.ownsRow_nil _ _ _ _, ?_, h.inj, ?_⟩
    · intro i hi
      refine ⟨rows.getD i [] ++ [rhs i], by rw [List.length_append, hl i hi]; rfl, ?_, ?_, (h.row i hi).2, fun j _ => rfl⟩
      · intro x hx
        rcases List.mem_append.1 hx with hx | hx
        · exact hw i hi x hx
        · rw [List.mem_singleton.1 hx]; exact hr i hi
      · rw [(h.row i hi).1]
        simp [rowCells, flV]
    · intro i _ e
      simp [Value.ownBlock] at e

/-- A pivot is written down. -/
theorem L2.note {B n b : Nat} {x : F} {o : Bool} {R : Nat → Nat} {s : Sys} {rv fv pv ov pv' ov' : Value} {w0 w2 W : World} (h : L2 B n R s rv fv pv ov w0 w2) (hb : W64 b) (hx : fl b = x) (pb : List Nat)
    (hpb : (∀ x ∈ pb, W64 x) ∧ pb.map fl = s.piv ∧ w2.ownsRow (B + 3) 25 1 pv pb.length (pb.map flV))
    (hs : SysB W (B + 2) rv fv pv ov)
    (hP : W.ownsRow (B + 3) 25 1 pv' (pb.length + 1) (pb.map flV ++ [.float .f64 b])) (hPn : pv.ownBlock = pv'.ownBlock ∨ ∃ g, pv'.ownBlock = some g ∧ w2.heap.size ≤ g)
    (hO : W.ownsRow (B + 3) 4 1 ov' (s.odd.length + 1) (s.odd.map Value.bool ++ [.bool o]))
    (hk : Keep (fun g => g = B + 2 ∨ pv.ownBlock = some g ∨ ov.ownBlock = some g) w2 W) :
    L2 B n R { s with piv := s.piv ++ [x], odd := s.odd ++ [o] } rv fv pv' ov' w0 ((W.setCell ⟨B + 2, 2, none⟩ pv').setCell ⟨B + 2, 3, none⟩ ov') := by
  obtain ⟨hp1, hp2, hp3⟩ := hpb
  have k1 := Keep.setCell W ⟨B + 2, 2, none⟩ pv'
  have k2 := Keep.setCell (W.setCell ⟨B + 2, 2, none⟩ pv') ⟨B + 2, 3, none⟩ ov'
  have k3 : Keep (Just1 (B + 2)) W ((W.setCell ⟨B + 2, 2, none⟩ pv').setCell ⟨B + 2, 3, none⟩ ov') := k1.trans k2
  have hb := h.box.lt
  have hsz := h.sys.lt
  have lP := hp3.lt
  have lO := h.sat.ownO.lt
  have nlow : ∀ g', g' < B + 2 → ¬ (g' = B + 2 ∨ pv.ownBlock = some g' ∨ ov.ownBlock = some g') := by
    rintro g' hlt (h1 | h1 | h1)
    · omega
    · have := lP _ h1; omega
    · have := lO _ h1; omega
  have j3 : ∀ g', B + 3 ≤ g' → ¬ Just1 (B + 2) g' := fun g' hg' e => by unfold Just1 at e; omega
  have rest : ∀ g', B + 3 ≤ g' → pv.ownBlock ≠ some g' → ov.ownBlock ≠ some g' → ¬ (g' = B + 2 ∨ pv.ownBlock = some g' ∨ ov.ownBlock = some g') := by
    rintro g' hge h1 h2 (h3 | h3 | h3)
    · omega
    · exact h1 h3
    · exact h2 h3
  have hbW : B ≤ W.heap.size := by have := hk.size; omega
  have eP : pb.map flV ++ [Value.float .f64 b] = (pb ++ [b]).map flV := by simp [flV]
  refine ⟨?_, ?_, ?_, ?_, ?_, ?_, ⟨pb ++ [b], ?_, ?_, ?_⟩, ?_, ?_, h.sat.inj, ?_⟩
  · exact h.below.trans ((hk.below (by omega) fun g' hg' => nlow g' (by omega)).trans (k3.below hbW fun g' hg' hx => by unfold Just1 at hx; omega))
  · exact (h.box.keep hk (nlow _ (by omega))).keep k3 (by unfold Just1; omega)
  · exact (h.res.keep hk (nlow _ (by omega))).keep k3 (by unfold Just1; omega)
  · unfold SysB at hs ⊢
    simp only [World.setCell, Array.getElem?_modify, if_true, hs, Option.map_some]
    simp
  · refine k3.owns (hk.owns h.sat.ownR fun g hg => rest g (h.sat.ownR.lt g hg).1 (fun e => owns_apart h.sat.ownR hp3 (by decide) g hg e) (fun e => owns_apart h.sat.ownR h.sat.ownO (by decide) g hg e)) fun g hg => j3 g (h.sat.ownR.lt g hg).1
  · refine k3.owns (hk.owns h.sat.ownF fun g hg => rest g (h.sat.ownF.lt g hg).1 (fun e => owns_apart h.sat.ownF hp3 (by decide) g hg e) (fun e => owns_apart h.sat.ownF h.sat.ownO (by decide) g hg e)) fun g hg => j3 g (h.sat.ownF.lt g hg).1
  · intro y hy
    rcases List.mem_append.1 hy with hy | hy
    · exact hp1 y hy
    · rw [List.mem_singleton.1 hy]; assumption
  · rw [List.map_append, hp2]; simp [hx]
  · rw [← eP, List.length_append]
    exact k3.owns hP fun g hg => j3 g (hP.lt g hg).1
  · have e : (s.odd ++ [o]).map Value.bool = s.odd.map Value.bool ++ [.bool o] := by simp
    show World.ownsRow _ _ _ _ ov' (s.odd ++ [o]).length ((s.odd ++ [o]).map Value.bool)
    rw [e, List.length_append]
    exact k3.owns hO fun g hg => j3 g (hO.lt g hg).1
  · intro i hi
    obtain ⟨bs, h1, h2, h3, h4, h5⟩ := h.sat.mat i hi
    exact ⟨bs, h1, h2, k3.heap (hk.heap h3 (rest _ h4 (h.sat.apart i hi) (h.sat.blocks hi).2.2.2.2)) (j3 _ h4), h4, h5⟩
  · intro i hi e
    rcases hPn with h1 | ⟨g, h1, h2⟩
    · exact h.sat.apart i hi (h1.trans e)
    · rw [h1] at e
      have := (h.sat.blocks hi).2.1
      simp at e
      omega

theorem L2.set {B n i j b : Nat} {x : F} {R : Nat → Nat} {s : Sys} {rv fv pv ov : Value} {w0 w : World} (h : L2 B n R s rv fv pv ov w0 w) (hi : i < n) (hj : j ≤ n) (hb : W64 b) (hx : fl b = x) :
    L2 B n R { s with M := fun i' j' => if i' = i ∧ j' = j then x else s.M i' j' } rv fv pv ov w0 (w.setCell ⟨R i, j, none⟩ (.float .f64 b)) := by
  have hk := Keep.setCell w ⟨R i, j, none⟩ (.float .f64 b)
  obtain ⟨p1, p2, _⟩ := h.sat.blocks hi
  have hn : ∀ g, g < B + 3 → ¬ Just1 (R i) g := fun g hg e => by unfold Just1 at e; omega
  exact ⟨h.below.trans (hk.below (by omega) fun g hg => hn g (by omega)), h.box.keep hk (hn _ (by omega)), h.res.keep hk (hn _ (by omega)), h.sys.keep hk (hn _ (by omega)), h.sat.setNum hi hj hb hx⟩
theorem L2.swapR {B n g cp c p : Nat} {R : Nat → Nat} {s : Sys} {fv pv ov : Value} {w0 w : World} (h : L2 B n R s (.slice (some ⟨g, 0, none⟩) n cp) fv pv ov w0 w) (hc : c < n) (hp : p < n) :
    L2 B n (swapM R c p) { s with M := swapM s.M c p } (.slice (some ⟨g, 0, none⟩) n cp) fv pv ov w0 ((w.setCell ⟨g, c, none⟩ (.slice (some ⟨R p, 0, none⟩) (n + 1) (n + 1))).setCell ⟨g, p, none⟩ (.slice (some ⟨R c, 0, none⟩) (n + 1) (n + 1))) := by
  have hk : Keep (Just1 g) w ((w.setCell ⟨g, c, none⟩ (.slice (some ⟨R p, 0, none⟩) (n + 1) (n + 1))).setCell ⟨g, p, none⟩ (.slice (some ⟨R c, 0, none⟩) (n + 1) (n + 1))) := (Keep.setCell w ⟨g, c, none⟩ _).trans (Keep.setCell _ ⟨g, p, none⟩ _)
  have p1 := (h.sat.ownR.lt g rfl)
  have hn : ∀ g', g' < B + 3 → ¬ Just1 g g' := fun g' hg e => by unfold Just1 at e; omega
  exact ⟨h.below.trans (hk.below (by omega) fun g hg => hn g (by omega)), h.box.keep hk (hn _ (by omega)), h.res.keep hk (hn _ (by omega)), h.sys.keep hk (hn _ (by omega)), h.sat.swapRows hc hp⟩
theorem L2.swapF {B n g cp c p : Nat} {R : Nat → Nat} {s : Sys} {rv pv ov : Value} {w0 w : World} (h : L2 B n R s rv (.slice (some ⟨g, 0, none⟩) n cp) pv ov w0 w) (hc : c < n) (hp : p < n) :
    L2 B n R { s with first := swapM s.first c p } rv (.slice (some ⟨g, 0, none⟩) n cp) pv ov w0 ((w.setCell ⟨g, c, none⟩ (.int .i64 (s.first p : Nat))).setCell ⟨g, p, none⟩ (.int .i64 (s.first c : Nat))) := by
  have hk : Keep (Just1 g) w ((w.setCell ⟨g, c, none⟩ (.int .i64 (s.first p : Nat))).setCell ⟨g, p, none⟩ (.int .i64 (s.first c : Nat))) := (Keep.setCell w ⟨g, c, none⟩ _).trans (Keep.setCell _ ⟨g, p, none⟩ _)
  have p1 := (h.sat.ownF.lt g rfl)
  have hn : ∀ g', g' < B + 3 → ¬ Just1 g g' := fun g' hg e => by unfold Just1 at e; omega
  exact ⟨h.below.trans (hk.below (by omega) fun g hg => hn g (by omega)), h.box.keep hk (hn _ (by omega)), h.res.keep hk (hn _ (by omega)), h.sys.keep hk (hn _ (by omega)), h.sat.swapFirst hc hp⟩

theorem owns_form {w : World} {base e size n : Nat} {v : Value} {xs : List Value} (h : w.ownsRow base e size v n xs) (hn : 0 < n) :
    ∃ g cap, v = .slice (some ⟨g, 0, none⟩) n cap ∧ n ≤ cap ∧ cap ≤ maxLen := by
  rcases h.2 with ⟨_, h0⟩ | ⟨g, cap, cur, rfl, _, _, hc, hm, _⟩
  · omega
  · exact ⟨g, cap, rfl, hc, hm⟩
theorem setCell_some {w : World} {p q : Addr} {x v : Value} (h : w.cell? q = some v) : ∃ v', (w.setCell p x).cell? q = some v' := by
  by_cases e : p = q
  · subst e; exact ⟨x, World.cell?_setCell_same w p x h⟩
  · exact ⟨v, (World.cell?_setCell_other w p q x e).trans h⟩
theorem owns_one {w : World} {base e size n : Nat} {v : Value} {xs : List Value} (h : w.ownsRow base e size v n xs) : v.oneCell' = true := by
  rcases h.2 with ⟨rfl, _⟩ | ⟨g, cap, cur, rfl, _⟩ <;> rfl
theorem SysAt.ones {base n : Nat} {R : Nat → Nat} {s : Sys} {rv fv pv ov : Value} {w : World} (h : SysAt base n R s rv fv pv ov w) :
    (∀ (W : World) (ad : Addr) (m : Mode), (store ad pv m).run Try.prog W = stored Try.prog W ad pv m) ∧ (∀ (W : World) (ad : Addr) (m : Mode), (store ad ov m).run Try.prog W = stored Try.prog W ad ov m) := by
  obtain ⟨pb, _, _, h3⟩ := h.ownP
  exact ⟨fun W ad m => run_store Try.prog W ad pv m (owns_one h3), fun W ad m => run_store Try.prog W ad ov m (owns_one h.ownO)⟩
/-- The result's block is filled. -/
theorem L2.filled {B n : Nat} {R : Nat → Nat} {s : Sys} {rv fv pv ov a b c d : Value} {w0 w : World} (h : L2 B n R s rv fv pv ov w0 w) :
    Below B w0 ((((w.setCell ⟨B + 1, 0, none⟩ a).setCell ⟨B + 1, 1, none⟩ b).setCell ⟨B + 1, 2, none⟩ c).setCell ⟨B + 1, 3, none⟩ d) ∧
    SysAt (B + 3) n R s rv fv pv ov ((((w.setCell ⟨B + 1, 0, none⟩ a).setCell ⟨B + 1, 1, none⟩ b).setCell ⟨B + 1, 2, none⟩ c).setCell ⟨B + 1, 3, none⟩ d) := by
  have hk : Keep (Just1 (B + 1)) w ((((w.setCell ⟨B + 1, 0, none⟩ a).setCell ⟨B + 1, 1, none⟩ b).setCell ⟨B + 1, 2, none⟩ c).setCell ⟨B + 1, 3, none⟩ d) :=
    ((Keep.setCell w ⟨B + 1, 0, none⟩ a).trans (Keep.setCell _ ⟨B + 1, 1, none⟩ b)).trans ((Keep.setCell _ ⟨B + 1, 2, none⟩ c).trans (Keep.setCell _ ⟨B + 1, 3, none⟩ d))
  exact ⟨h.below.trans (hk.below (by have := h.box.lt; omega) fun g hg e => by unfold Just1 at e; omega), h.sat.keep hk fun g hg _ e => by unfold Just1 at e; omega⟩
theorem fgt_bits {b1 b2 : Nat} {x y : F} (h1 : fl b1 = x) (h2 : fl b2 = y) : fgt (fabs x) (fabs y) = (FloatKind.f64.format.order (absB b1) (absB b2) == some Ordering.gt) := by
  subst h1; subst h2
  unfold fgt
  rw [← fl_absB, ← fl_absB, fcmp_bits]
  rfl
theorem feq0_bits {b : Nat} {x : F} (h : fl b = x) : feq x fzero = (FloatKind.f64.format.order b 0 == some Ordering.eq) := by
  subst h
  unfold feq fzero
  rw [show (some 0 : F) = fl 0 from by decide, fcmp_bits]
  rfl

theorem info_bool : (Try.prog.info? 4).map (fun i => (i.zero, i.size, i.bytes)) = some (some (.bool false), 1, 1) := by kernel_rfl
theorem elem_bools : Elem1 Try.prog 77 4 (.bool false) 1 := ⟨Try.underlying77, info_bool, rfl⟩
theorem int_bne (p c : Nat) : ((p : Int) != (c : Int)) = (p != c) := by
  by_cases h : p = c
  · subst h; simp
  · have h2 : (p : Int) ≠ c := by omega
    rw [bne_iff_ne.2 h2, bne_iff_ne.2 h]
theorem bad_bits {b : Nat} {x : F} (h : fl b = x) : bad x = (FloatKind.f64.format.order b 0 == some Ordering.eq || !finB b) := by
  unfold bad; rw [feq0_bits h, finB_eq, h]
theorem goS_bad {n c : Nat} {s : Sys} (hc : c < n) (h : bad (s.M (pick n s.M c) c) = true) : goS n (n - c) c s = (noteS n c s, false) := by
  obtain ⟨k, hk⟩ : ∃ k, n - c = k + 1 := ⟨n - c - 1, by omega⟩
  rw [hk, goS, if_pos h]
theorem goS_good {n c : Nat} {s : Sys} (hc : c < n) (h : bad (s.M (pick n s.M c) c) = false) : goS n (n - c) c s = goS n (n - (c + 1)) (c + 1) (stepS n c s) := by
  obtain ⟨k, hk⟩ : ∃ k, n - c = k + 1 := ⟨n - c - 1, by omega⟩
  rw [hk, goS, h, show n - (c + 1) = k by omega]
  rfl

/-- What a call of steps leaves. -/
def StepsPost (n : Nat) (M : Mx) (w : World) (e : Ending) (w' : World) : Prop :=
  ∃ R rv fv pv ov, e = .returned (.tuple #[.agg #[rv, fv, pv, ov], .bool (stepsS n M).2]) ∧ Below w.heap.size w w' ∧ SysAt (w.heap.size + 3) n R (stepsS n M).1 rv fv pv ov w'
end Go.Proofs.Ytghhanifakllpaa
