/- package solve over float64: steps. -/
import Derived.Test.YtghhanifakllpaaC
import Derived.Test.YtghhanifakllpaaG
import Derived.Test.YtghhanifakllpaaM
import Derived.Deep.RegionHeld3
import Derived.Deep.AppendLies
import Derived.Deep.RegionLaw
import Derived.BigQuiet
import Derived.Deep.QuietTactic
import Derived.StillTailTactics
import Derived.BigRegion
import Derived.Laws.CopyOwn
import Derived.Deep.OwnRows
import Derived.Deep.DeepCutAuto
import Derived.Deep.DeepMust
namespace Go.Proofs.Ytghhanifakllpaa
open Go.RowKit

theorem info_f : (Try.prog.info? 25).map (fun i => (i.zero, i.size, i.bytes)) = some (some (.float .f64 0), 1, 8) := by kernel_rfl
theorem info_row : (Try.prog.info? 24).map (fun i => (i.zero, i.size, i.bytes)) = some (some (.slice none 0 0), 1, 24) := by kernel_rfl
theorem info_int : (Try.prog.info? 3).map (fun i => (i.zero, i.size, i.bytes)) = some (some (.int .i64 0), 1, 8) := by kernel_rfl

def flV (b : Nat) : Value := .float .f64 b
def rowV (n : Nat) (g : Nat) : Value := .slice (some ⟨g, 0, none⟩) (n + 1) (n + 1)
/-- Row j of a system with its right side at the end. -/
def rowCells (rows : List (List Nat)) (rhs : Nat → Nat) (j : Nat) : List Value := (rows.getD j []).map flV ++ [Value.float .f64 (rhs j)]
/-- The block of the system's four slices. -/
def SysB (w : World) (S : Nat) (rv fv pv ov : Value) : Prop := w.heap[S]? = some (.cells #[rv, fv, pv, ov] 79 (0, 0))
theorem SysB.cells {w : World} {S : Nat} {rv fv pv ov : Value} (h : SysB w S rv fv pv ov) : w.cell? ⟨S, 0, none⟩ = some rv ∧ w.cell? ⟨S, 1, none⟩ = some fv ∧ w.cell? ⟨S, 2, none⟩ = some pv ∧ w.cell? ⟨S, 3, none⟩ = some ov := by
  unfold SysB at h
  refine ⟨?_, ?_, ?_, ?_⟩ <;> simp [World.cell?, h]
theorem SysB.lt {w : World} {S : Nat} {rv fv pv ov : Value} (h : SysB w S rv fv pv ov) : S < w.heap.size := lt_of_block h
theorem SysB.free {w : World} {S : Nat} {rv fv pv ov : Value} (h : SysB w S rv fv pv ov) (o : Nat) : w.frozen? ⟨S, o, none⟩ = false := by
  unfold SysB at h
  simp [World.frozen?, h]

/-- What stands behind i rounds of the first loop. -/
structure L1 (rows : List (List Nat)) (rhs : Nat → Nat) (B n i : Nat) (R : Nat → Nat) (rv fv : Value) (w0 wr : World) : Prop where
  below : Below B w0 wr
  box : BoxF wr B
  res : SysB wr (B + 1) (.slice none 0 0) (.slice none 0 0) (.slice none 0 0) (.slice none 0 0)
  sys : SysB wr (B + 2) rv fv (.slice none 0 0) (.slice none 0 0)
  ownR : wr.ownsRow (B + 3) 24 1 rv i ((List.range i).map fun j => rowV n (R j))
  ownF : wr.ownsRow (B + 3) 3 1 fv i ((List.range i).map fun j : Nat => Value.int .i64 j)
  row : ∀ j, j < i → wr.heap[R j]? = some (.cells (rowCells rows rhs j).toArray 25 (0, 0)) ∧ B + 3 ≤ R j
  inj : ∀ j k, j < i → k < i → R j = R k → j = k

theorem splice_made (z : Value) (n : Nat) (cs : List Value) (h : cs.length = n) : splice (madeCells #[z] (n + 1)).toList 0 cs = cs ++ [z] := by
  rw [toList_madeCells_one]
  simp [splice, h]
theorem own_cells {w1 : World} {g n : Nat} {cs : List Value} (hl : cs.length = n)
    (h : w1.heap[g]? = some (.cells (splice (madeCells #[Value.float .f64 0] (n + 1)).toList 0 cs).toArray 25 (0, 0))) :
    w1.heap[g]? = some (.cells (cs ++ [Value.float .f64 0]).toArray 25 (0, 0)) ∧ w1.cell? ⟨g, n, none⟩ = some (.float .f64 0) ∧ w1.frozen? ⟨g, n, none⟩ = false := by
  rw [splice_made _ _ _ hl] at h
  refine ⟨h, ?_, ?_⟩
  · simp [World.cell?, h, ← hl]
  · simp [World.frozen?, h]
theorem hfsz : (Try.prog.info? 25).map (·.size) = some 1 := by kernel_rfl
theorem row_src {w : World} {rb ro n : Nat} {l : List Nat} (hl : l.length = n) (h : ∀ j, j < n → w.cell? ⟨rb, ro + j, none⟩ = some (flV (l.getD j 0))) :
    ∀ j v, (l.map flV)[j]? = some v → w.cell? ((⟨rb, ro, none⟩ : Addr).add j) = some v := by
  intro j v hv
  obtain ⟨x, hx, rfl⟩ : ∃ x, l[j]? = some x ∧ flV x = v := by simpa [List.getElem?_map, Option.map_eq_some_iff] using hv
  have hj : j < l.length := (List.getElem?_eq_some_iff.1 hx).1
  have h2 := h j (by omega)
  have e : (⟨rb, ro, none⟩ : Addr).add j = ⟨rb, ro + j, none⟩ := by unfold Addr.add; split <;> simp_all
  rw [e, h2]
  simp [List.getD, hx]


theorem elem_rows : Elem1 Try.prog 23 24 (.slice none 0 0) 24 := ⟨Try.underlying23, info_row, rfl⟩
theorem elem_floats : Elem1 Try.prog 24 25 (.float .f64 0) 8 := ⟨Try.underlying24, info_f, rfl⟩
theorem elem_ints : Elem1 Try.prog 29 3 (.int .i64 0) 8 := ⟨Try.underlying29, info_int, rfl⟩

theorem SysB.keep {X : Nat → Prop} {w w' : World} {S : Nat} {rv fv pv ov : Value} (h : SysB w S rv fv pv ov) (hk : Keep X w w') (hx : ¬ X S) : SysB w' S rv fv pv ov := hk.heap h hx
theorem BoxF.keep {X : Nat → Prop} {w w' : World} {B : Nat} (h : BoxF w B) (hk : Keep X w w') (hx : ¬ X B) : BoxF w' B := hk.heap h hx

/-- Rows of unlike elements lie in unlike blocks. -/
theorem owns_apart {w : World} {b1 b2 e1 e2 s1 s2 n1 n2 : Nat} {v1 v2 : Value} {x1 x2 : List Value} (h1 : w.ownsRow b1 e1 s1 v1 n1 x1) (h2 : w.ownsRow b2 e2 s2 v2 n2 x2) (hne : e1 ≠ e2) :
    ∀ g, v1.ownBlock = some g → v2.ownBlock = some g → False := by
  intro g hg1 hg2
  rcases h1.2 with ⟨rfl, _⟩ | ⟨g1, c1, cur1, rfl, _, hh1, _⟩
  · simp [Value.ownBlock] at hg1
  · rcases h2.2 with ⟨rfl, _⟩ | ⟨g2, c2, cur2, rfl, _, hh2, _⟩
    · simp [Value.ownBlock] at hg2
    · simp [Value.ownBlock] at hg1 hg2
      subst hg1; subst hg2
      rw [hh1] at hh2
      simp at hh2
      exact hne hh2.2
theorem owns_heap_apart {w : World} {b1 e1 s1 n1 : Nat} {v1 : Value} {x1 : List Value} (h1 : w.ownsRow b1 e1 s1 v1 n1 x1) {g : Nat} {c : Array Value} {e : Nat} {fr : Nat × Nat} (h2 : w.heap[g]? = some (.cells c e fr)) (hne : e1 ≠ e) :
    v1.ownBlock ≠ some g := by
  intro hg1
  rcases h1.2 with ⟨rfl, _⟩ | ⟨g1, c1, cur1, rfl, _, hh1, _⟩
  · simp [Value.ownBlock] at hg1
  · simp [Value.ownBlock] at hg1
    subst hg1
    rw [hh1] at h2
    simp at h2
    exact hne h2.2.1

theorem L1.keep {rows : List (List Nat)} {rhs : Nat → Nat} {B n i : Nat} {R : Nat → Nat} {rv fv : Value} {w0 wr w2 : World} (h : L1 rows rhs B n i R rv fv w0 wr) (hk : Keep None1 wr w2) : L1 rows rhs B n i R rv fv w0 w2 where
  below := h.below.trans (hk.below (by have := h.box.lt; omega) fun _ _ h => h)
  box := h.box.keep hk id
  res := h.res.keep hk id
  sys := h.sys.keep hk id
  ownR := hk.owns h.ownR fun _ _ h => h
  ownF := hk.owns h.ownF fun _ _ h => h
  row := fun j hj => ⟨hk.heap (h.row j hj).1 id, (h.row j hj).2⟩
  inj := h.inj

theorem range_snoc (f : Nat → Value) (k : Nat) : (List.range k).map f ++ [f k] = (List.range (k + 1)).map f := by rw [List.range_succ, List.map_append]; rfl
theorem range_congr (f g : Nat → Value) (k : Nat) (h : ∀ j, j < k → f j = g j) : (List.range k).map f = (List.range k).map g := List.map_congr_left fun j hj => h j (List.mem_range.1 hj)

/-- What may be written by a round of the first loop, of what was there. -/
def XL (B : Nat) (rv fv : Value) : Nat → Prop := fun g => g = B + 2 ∨ rv.ownBlock = some g ∨ fv.ownBlock = some g

theorem L1.step {rows : List (List Nat)} {rhs : Nat → Nat} {B n k g : Nat} {R : Nat → Nat} {rv fv rv' fv' : Value} {w0 w2 W : World} (h : L1 rows rhs B n k R rv fv w0 w2)
    (hg : w2.heap[g]? = some (.cells (rowCells rows rhs k).toArray 25 (0, 0)) ∧ B + 3 ≤ g ∧ ∀ j, j < k → R j ≠ g)
    (hs : SysB W (B + 2) rv fv (.slice none 0 0) (.slice none 0 0))
    (hR : W.ownsRow (B + 3) 24 1 rv' (k + 1) ((List.range k).map (fun j => rowV n (R j)) ++ [rowV n g]))
    (hF : W.ownsRow (B + 3) 3 1 fv' (k + 1) ((List.range k).map (fun j : Nat => Value.int .i64 j) ++ [.int .i64 k]))
    (hk : Keep (XL B rv fv) w2 W) :
    L1 rows rhs B n (k + 1) (fun j => if j = k then g else R j) rv' fv' w0 ((W.setCell ⟨B + 2, 0, none⟩ rv').setCell ⟨B + 2, 1, none⟩ fv') := by
  have k1 := Keep.setCell W ⟨B + 2, 0, none⟩ rv'
  have k2 := Keep.setCell (W.setCell ⟨B + 2, 0, none⟩ rv') ⟨B + 2, 1, none⟩ fv'
  have k3 : Keep (Just1 (B + 2)) W ((W.setCell ⟨B + 2, 0, none⟩ rv').setCell ⟨B + 2, 1, none⟩ fv') := k1.trans k2
  have lR := h.ownR.lt
  have lF := h.ownF.lt
  have hb := h.box.lt
  have nrow : ∀ g', (∃ c, w2.heap[g']? = some (.cells c 25 (0, 0))) → B + 3 ≤ g' → ¬ XL B rv fv g' := by
    rintro g' ⟨c, hc⟩ hge (h1 | h1 | h1)
    · omega
    · exact owns_heap_apart h.ownR hc (by decide) h1
    · exact owns_heap_apart h.ownF hc (by decide) h1
  have nlow : ∀ g', g' < B + 2 → ¬ XL B rv fv g' := by
    rintro g' hlt (h1 | h1 | h1)
    · omega
    · have := lR _ h1; omega
    · have := lF _ h1; omega
  refine ⟨?_, ?_, ?_, ?_, ?_, ?_, ?_, ?_⟩
  · have hbW : B ≤ W.heap.size := by have := hk.size; omega
    exact h.below.trans ((hk.below (by omega) fun g' hg' => nlow g' (by omega)).trans (k3.below hbW fun g' hg' hx => by unfold Just1 at hx; omega))
  · exact (h.box.keep hk (nlow _ (by omega))).keep k3 (by unfold Just1; omega)
  · exact (h.res.keep hk (nlow _ (by omega))).keep k3 (by unfold Just1; omega)
  · have hl := hs.lt
    unfold SysB at hs ⊢
    simp only [World.setCell, Array.getElem?_modify, if_true, hs, Option.map_some]
    simp
  · have e : (List.range k).map (fun j => rowV n (R j)) ++ [rowV n g] = (List.range (k + 1)).map (fun j => rowV n (if j = k then g else R j)) := by
      rw [← range_snoc, range_congr (fun j => rowV n (R j)) (fun j => rowV n (if j = k then g else R j)) k fun j hj => by rw [if_neg (by omega)]]
      simp
    rw [← e]
    exact k3.owns hR fun g' hg' hx => by have := hR.lt _ hg'; unfold Just1 at hx; omega
  · rw [← range_snoc]
    exact k3.owns hF fun g' hg' hx => by have := hF.lt _ hg'; unfold Just1 at hx; omega
  · intro j hj
    by_cases hjk : j = k
    · subst hjk
      simp only [if_true]
      refine ⟨k3.heap (hk.heap hg.1 (nrow g ⟨_, hg.1⟩ hg.2.1)) (by unfold Just1; omega), hg.2.1⟩
    · simp only [if_neg hjk]
      obtain ⟨hr, hl⟩ := h.row j (by omega)
      exact ⟨k3.heap (hk.heap hr (nrow _ ⟨_, hr⟩ hl)) (by unfold Just1; omega), hl⟩
  · intro i j hi hj hij
    by_cases hik : i = k
    · by_cases hjk : j = k
      · omega
      · rw [if_pos hik, if_neg hjk] at hij
        exact absurd hij.symm (hg.2.2 j (by omega))
    · by_cases hjk : j = k
      · rw [if_neg hik, if_pos hjk] at hij
        exact absurd hij (hg.2.2 i (by omega))
      · rw [if_neg hik, if_neg hjk] at hij
        exact h.inj i j (by omega) (by omega) hij

theorem heap_new_eq {w : World} (c : Array Value) (e : TypeId) {g : Nat} (h : g = w.heap.size) : (w.alloc (.cells c e)).heap[g]? = some (.cells c e (0, 0)) := by
  subst h; exact Below.heap_new_at w c e
theorem L1.start (rows : List (List Nat)) (rhs : Nat → Nat) (n : Nat) (w : World) : L1 rows rhs w.heap.size n 0 (fun _ => 0) (.slice none 0 0) (.slice none 0 0) w
    (((w.alloc (.cells kF 74)).alloc (.cells #[.slice none 0 0, .slice none 0 0, .slice none 0 0, .slice none 0 0] 79)).alloc (.cells #[.slice none 0 0, .slice none 0 0, .slice none 0 0, .slice none 0 0] 79)) := by
  have k1 := Keep.alloc (w.alloc (.cells kF 74)) (.cells #[.slice none 0 0, .slice none 0 0, .slice none 0 0, .slice none 0 0] 79)
  have k2 := Keep.alloc ((w.alloc (.cells kF 74)).alloc (.cells #[.slice none 0 0, .slice none 0 0, .slice none 0 0, .slice none 0 0] 79)) (.cells #[.slice none 0 0, .slice none 0 0, .slice none 0 0, .slice none 0 0] 79)
  refine ⟨(((Below.refl _ _).alloc (Nat.le_refl _) _).alloc (by simp) _).alloc (by simp; omega) _, ?_, ?_, ?_, World.ownsRow_nil _ _ _ _, World.ownsRow_nil _ _ _ _, fun j hj => by omega, fun j k hj => by omega⟩
  · exact ((BoxF.made w).keep k1 id).keep k2 id
  · have h : SysB ((w.alloc (.cells kF 74)).alloc (.cells #[.slice none 0 0, .slice none 0 0, .slice none 0 0, .slice none 0 0] 79)) (w.heap.size + 1) (.slice none 0 0) (.slice none 0 0) (.slice none 0 0) (.slice none 0 0) := by
      exact heap_new_eq _ _ (by simp)
    exact h.keep k2 id
  · exact heap_new_eq _ _ (by simp)
theorem own_set {w1 : World} {g n : Nat} {cs : List Value} {v : Value} (hl : cs.length = n) (h : w1.heap[g]? = some (.cells (cs ++ [Value.float .f64 0]).toArray 25 (0, 0))) :
    (w1.setCell ⟨g, n, none⟩ v).heap[g]? = some (.cells (cs ++ [v]).toArray 25 (0, 0)) := by
  simp only [World.setCell, Array.getElem?_modify, if_true, h, Option.map_some]
  have e : (cs ++ [Value.float .f64 0]).toArray.setIfInBounds n v = (cs ++ [v]).toArray := by
    subst hl
    simp [List.setIfInBounds_toArray]
  simpa using e
end Go.Proofs.Ytghhanifakllpaa
