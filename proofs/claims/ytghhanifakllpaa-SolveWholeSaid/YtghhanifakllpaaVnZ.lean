/- SolveWhole: what Det and Solve answer, plain. -/
import Derived.Test.YtghhanifakllpaaVlZ
set_option linter.unusedSimpArgs false
set_option linter.unusedVariables false
namespace Go.Proofs.Ytghhanifakllpaa
open Go.Clean Ieee
/-- Bits of 64 places. -/
def B64 (x : F) : Prop := ∀ b, x = some b → b < 18446744073709551616
theorem write_64 (d : Datum) (h : d.isNaN = false) : double.write d < 18446744073709551616 := by
  have hw : double.signWeight = 9223372036854775808 := by decide
  have hi : double.infRung = 9218868437227405312 := by decide
  have key : ∀ (neg : Bool) (r : Nat), r ≤ double.infRung → double.word neg r < 18446744073709551616 := by
    intro neg r hr
    unfold Format.word
    rw [hw]
    cases neg <;> simp <;> omega
  cases d with
  | nan s t => simp [Datum.isNaN] at h
  | infinity s => exact key s _ (Nat.le_refl _)
  | number s m e =>
    show double.nearest s m e < _
    unfold Format.nearest
    split
    · exact key s 0 (Nat.zero_le _)
    · exact key s _ (Nat.min_le_right _ _)
theorem B64.mul (x y : F) : B64 (fmul x y) := by
  intro b h
  cases x with
  | none => exact absurd h (by simp [fmul, f2])
  | some u =>
    cases y with
    | none => exact absurd h (by simp [fmul, f2])
    | some v =>
      obtain ⟨d, hd, rfl⟩ := Option.map_eq_some_iff.1 (show (Datum.product (double.read u) (double.read v)).map double.write = some b from h)
      exact write_64 d (product_ok hd)
theorem B64.div (x y : F) : B64 (fdiv x y) := by
  intro b h
  cases x with
  | none => exact absurd h (by simp [fdiv, f2])
  | some u =>
    cases y with
    | none => exact absurd h (by simp [fdiv, f2])
    | some v =>
      obtain ⟨d, hd, rfl⟩ := Option.map_eq_some_iff.1 (show (Datum.quotient _ (double.read u) (double.read v)).map double.write = some b from h)
      exact write_64 d (quotient_ok hd)
theorem B64.neg {x : F} (h : B64 x) : B64 (fneg x) := by
  intro b hb
  cases x with
  | none => exact absurd hb (by simp [fneg])
  | some u =>
    have h1 := h u rfl
    have h2 : u ^^^ 9223372036854775808 = b := by simpa [fneg] using hb
    rw [← h2]
    have e : (18446744073709551616 : Nat) = 2 ^ 64 := by decide
    rw [e] at h1 ⊢
    exact Nat.xor_lt_two_pow h1 (by decide)
theorem B64.detGo : ∀ (ps : List F) (os : List Bool) (d d' : F), B64 d → detGo ps os d = some d' → B64 d'
  | [], _, d, d', h, e => by cases e; exact h
  | _ :: _, [], d, d', h, e => by cases e; exact h
  | p :: ps, o :: os, d, d', h, e => by
    have e' : (if feq p fzero then none else Go.Proofs.Ytghhanifakllpaa.detGo ps os (if o then fneg (fmul d p) else fmul d p)) = some d' := e
    split at e'
    · cases e'
    · refine B64.detGo ps os _ d' ?_ e'
      split
      · exact (B64.mul _ _).neg
      · exact B64.mul _ _
theorem B64.detF {n : Nat} {M : Mx} {d : F} (h : detF n M = some d) : B64 d := by
  unfold Go.Proofs.Ytghhanifakllpaa.detF at h
  split at h
  · cases h; intro b hb; cases hb; decide
  · rename_i d1 e1
    split at h
    · cases h
      exact B64.detGo _ _ _ _ (by intro b hb; cases hb; decide) e1
    · cases h
theorem solved_64 {n : Nat} {M : Mx} {x : Nat → F} (h : solvedF n M = some x) {j : Nat} (hj : j < n) : B64 (x j) := by
  unfold solvedF at h
  split at h
  · split at h
    · cases h
      rw [Nu.backX_row hj]; exact B64.div _ _
    · cases h
  · cases h
theorem fi_ffin {k : Int} (h1 : -8 ≤ k) (h2 : k ≤ 8) : ffin (some (fi k)) = true := by
  refine Nu.RV.fin (fi_rv h1 h2) ((Nu.int_ab h1 h2).mono ?_)
  exact Rat.le_trans (Nu.small900 (by grind)) Nu.p900_1001
section
variable {K : Nat → Nat → Int} {k : Nat}
theorem check_rowsK (h1 : 1 ≤ k) (h3 : k ≤ 3) (hK : ∀ i j, -8 ≤ K i j ∧ K i j ≤ 8) : checkF (rowsK K k) = 0 := by
  have hl : (rowsK K k).length = k := by simp [rowsK]
  unfold checkF
  rw [hl, if_neg (by omega), if_pos, if_pos]
  · rw [List.all_eq_true]
    intro r hr
    obtain ⟨i, _, rfl⟩ := List.mem_map.1 hr
    rw [List.all_eq_true]
    intro x hx
    obtain ⟨j, _, rfl⟩ := List.mem_map.1 hx
    exact fi_ffin (hK i j).1 (hK i j).2
  · rw [List.all_eq_true]
    intro r hr
    obtain ⟨i, _, rfl⟩ := List.mem_map.1 hr
    simp
theorem list_rhsK (hK : ∀ i j, -8 ≤ K i j ∧ K i j ≤ 8) : listF (rhsK K k) k = 0 := by
  have hl : (rhsK K k).length = k := by simp [rhsK]
  unfold listF
  rw [if_pos hl, if_pos]
  rw [List.all_eq_true]
  intro x hx
  obtain ⟨i, _, rfl⟩ := List.mem_map.1 hx
  exact fi_ffin (hK i k).1 (hK i k).2
/-- The matrix with a right side of noughts. -/
def K0 (K : Nat → Nat → Int) (k : Nat) : Nat → Nat → Int := fun i j => if j = k then 0 else K i j
theorem di_K0 (h1 : 1 ≤ k) (h3 : k ≤ 3) : Nu.di k (K0 K k) = Nu.di k K := by
  have hc : k = 1 ∨ k = 2 ∨ k = 3 := by omega
  unfold Nu.di K0
  rcases hc with rfl | rfl | rfl <;> simp
theorem M0F_el (bs : List F) {i j : Nat} (hi : i < k) (hj : j < k) : M0F (rowsK K k) bs i j = some (fi (K i j)) := by
  rw [M0F_in (by rw [rat_rowsK hi]; simpa using hj), fat_rowsK hi hj]
theorem M0F_rs (bs : List F) {i : Nat} (hi : i < k) : M0F (rowsK K k) bs i k = bs.getD i fzero := M0F_rhs (by rw [rat_rowsK hi]; simp)
theorem det_whole (h1 : 1 ≤ k) (h3 : k ≤ 3) (hK : ∀ i j, -8 ≤ K i j ∧ K i j ≤ 8) :
    ∃ b, detFF (rowsK K k) = (some b, 0) ∧ b < 18446744073709551616 ∧ Nu.Fi (some b) ∧ Nu.Ab (Nu.vq (some b) * ((1 : Int) : Rat) - ((Nu.di k K : Int) : Rat)) (Nu.p2 (-(28 : Nat)) * Nu.rabs ((1 : Int) : Rat)) := by
  have hl : (rowsK K k).length = k := by simp [rowsK]
  obtain ⟨d, q1, q2, q3⟩ := Nu.det_law (n := k) (M := M0F (rowsK K k) []) (K := K0 K k) h1 h3 (fun i j hi hj => by
      unfold K0; split
      · omega
      · exact hK i j) (fun i j hi hj => by
      unfold K0
      by_cases hjk : j = k
      · subst hjk
        rw [if_pos rfl, M0F_rs [] hi]
        have := Nu.fi_zero
        show Nu.RV fzero _
        have e := this.1.rv
        rw [this.2] at e
        exact e
      · rw [if_neg hjk, M0F_el [] hi (by omega)]
        exact fi_rv (hK i j).1 (hK i j).2)
  rw [di_K0 h1 h3] at q3
  obtain ⟨b, s, m, e, rfl, h⟩ := id q2
  refine ⟨b, ?_, B64.detF q1 b rfl, q2, ?_⟩
  · unfold detFF
    rw [if_neg (by simp [check_rowsK h1 h3 hK]), hl, q1]
  · have e1 : Nu.rabs ((1 : Int) : Rat) = 1 := by
      have : ((1 : Int) : Rat) = 1 := rfl
      rw [this]; unfold Nu.rabs; rw [if_pos (by grind)]
    have e2 : ((1 : Int) : Rat) = 1 := rfl
    rw [e1, Rat.mul_one, e2, Rat.mul_one]
    exact q3.mono (Nu.p2_mono (by decide))
theorem solve_whole (h1 : 1 ≤ k) (h3 : k ≤ 3) (hK : ∀ i j, -8 ≤ K i j ∧ K i j ≤ 8) (hd : Nu.di k K ≠ 0) :
    ∃ x : Nat → Nat, solveFF (rowsK K k) (rhsK K k) = ((List.range k).map (fun j => some (x j)), 0) ∧ ∀ j, j < k → x j < 18446744073709551616 ∧ Nu.Fi (some (x j)) ∧ Nu.Ab (Nu.vq (some (x j)) * ((Nu.di k K : Int) : Rat) - ((Nu.di k (Nu.colK k j K) : Int) : Rat)) (Nu.p2 (-(20 : Nat)) * Nu.rabs ((Nu.di k K : Int) : Rat)) := by
  have hl : (rowsK K k).length = k := by simp [rowsK]
  obtain ⟨x, q1, q2⟩ := Nu.solve_law (n := k) (M := M0F (rowsK K k) (rhsK K k)) (K := K) h1 h3 (fun i j _ _ => hK i j) (fun i j hi hj => by
      by_cases hjk : j = k
      · subst hjk
        rw [M0F_rs _ hi]
        have : (rhsK K j).getD i fzero = some (fi (K i j)) := by unfold rhsK; simp [hi]
        rw [this]
        exact fi_rv (hK i j).1 (hK i j).2
      · rw [M0F_el _ hi (by omega)]
        exact fi_rv (hK i j).1 (hK i j).2) hd
  refine ⟨fun j => (x j).getD 0, ?_, fun j hj => ?_⟩
  · unfold solveFF
    rw [if_neg (by simp [check_rowsK h1 h3 hK]), hl, if_neg (by simp [list_rhsK hK]), q1]
    dsimp only
    congr 1
    refine List.map_congr_left fun j hj => ?_
    obtain ⟨⟨b, s, m, e, h, _⟩, _⟩ := q2 j (List.mem_range.1 hj)
    rw [h]; rfl
  · obtain ⟨⟨b, s, m, e, h, h'⟩, q3⟩ := q2 j hj
    have e1 : some ((x j).getD 0) = x j := by rw [h]; rfl
    rw [e1]
    exact ⟨solved_64 q1 hj _ e1.symm, ⟨b, s, m, e, h, h'⟩, q3⟩
end
end Go.Proofs.Ytghhanifakllpaa

/- SolveWhole's walk. -/
namespace Go.Proofs.Ytghhanifakllpaa
open Go.Clean
end Go.Proofs.Ytghhanifakllpaa
namespace Go.Clean
variable {P : Program} {call : Caller}
/-- A region of free order: the first k operations only read, the others wait for all before. -/
theorem drawR_drawF {ops : Array Oper} {l2 : List Oper} {as2 : List Nat} {Q : Fr → Mem → Prop} {k : Nat} (hl2 : l2.length = as2.length) (hd2 : (l2.all fun o => !isDefer o) = true) (hf2 : fullT as2 k = true) : ∀ (l : List Oper) (ps : List Nat) (i : Nat) (ls : List (Nat × List (Bool × Nat))) (fr : Fr) (m : Mem), i + l.length = k → l.length = ps.length → (l.all fun o => !isDefer o) = true → readsA ls = true → (∀ p ∈ ls, p.1 < i) → drawR P call ops l fr m (fun fr m => drawF P call ops l2 fr m Q) → Gives (drawX P call ops (l ++ l2) (ps ++ as2) i ls fr) m Q
  | [], [], i, ls, fr, m, hk, _, _, _, hr, h => by
    have : i = k := by simpa using hk
    subst this
    exact drawF_draws l2 as2 i ls fr m hl2 hd2 hf2 hr h
  | [], _ :: _, i, ls, fr, m, _, h, _, _, _, _ => by simp at h
  | o :: l, [], i, ls, fr, m, _, h, _, _, _, _ => by simp at h
  | o :: l, a :: ps, i, ls, fr, m, hk, hl, hd, hls, hr, h => by
    rw [List.all_cons, Bool.and_eq_true] at hd
    rw [List.cons_append, List.cons_append, draw_cons ops o (by simpa using hd.1)]
    refine Gives.mono h fun fr' m' q => ⟨apartAll_rd q.1 hls, drawR_drawF hl2 hd2 hf2 l ps (i + 1) ((i, m'.log) :: ls) fr' _ (by simp at hk; omega) (by simpa using hl) hd.2 (by unfold readsA; rw [List.all_cons, Bool.and_eq_true]; exact ⟨q.1, hls⟩) (fun p hp => ?_) q.2⟩
    rcases List.mem_cons.1 hp with rfl | hp
    · exact Nat.lt_succ_self _
    · exact Nat.lt_succ_of_lt (hr p hp)
theorem code_draw_rf {id : Nat} {ops : Array Oper} {p1 p2 : List Nat} (k : Nat) (h : planX ops = some (p1 ++ p2)) (hl1 : (ops.toList.take k).length = p1.length) (hl2 : (ops.toList.drop k).length = p2.length) (hd1 : ((ops.toList.take k).all fun o => !isDefer o) = true) (hd2 : ((ops.toList.drop k).all fun o => !isDefer o) = true) (hf : fullT p2 (ops.toList.take k).length = true) {fr : Fr} {m : Mem} {Q : CQ}
    (hg : ∀ ops' : Array Oper, (∀ j d, (ops.toList[j]?).bind (·.dst) = some d → ∀ fr, yieldX ops' fr j = boolY (fr.at d)) → drawR P call ops' (ops.toList.take k) fr m (fun fr m => drawF P call ops' (ops.toList.drop k) fr m (regQ Q))) : Gives (codeX P call (.region id ops true) fr) m Q := by
  refine code_draw_dyn h ?_
  have he : ops.toList = ops.toList.take k ++ ops.toList.drop k := (List.take_append_drop k _).symm
  have e2 : drawX P call ops ops.toList = drawX P call ops (ops.toList.take k ++ ops.toList.drop k) := by rw [← he]
  rw [e2]
  exact drawR_drawF hl2 hd2 hf _ p1 0 [] fr m (by simp) hl1 hd1 rfl (fun p hp => by cases hp) (hg ops fun _ _ h fr => yieldX_dst h fr)
end Go.Clean
namespace Go.Proofs.Ytghhanifakllpaa
open Go.Clean
theorem kn1_alive : kn1 7 [] = some (M.ret (.bool true)) := rfl
/-- A finite float less itself is nought. -/
theorem self_sub {x : F} (h : Nu.Fi x) : fsub x x = fzero := by
  obtain ⟨b, s, m, k, rfl, h1⟩ := h
  show ((Ieee.double.read b).sum (Ieee.double.read b).opposite).map Ieee.double.write = _
  rw [h1]
  show (Ieee.Datum.sum (.number s m k) (.number (!s) m k)).map Ieee.double.write = _
  unfold Ieee.Datum.sum
  dsimp only
  have hz : Ieee.signed s m (k - min k k).toNat + Ieee.signed (!s) m (k - min k k).toNat = 0 := by
    unfold Ieee.signed
    cases s <;> simp <;> omega
  rw [hz]
  cases s <;> rfl
theorem bin_f00 {P : Program} {t : TypeId} {xo yo : Operand} : binX P .neq t xo yo (.float .f64 0) (.float .f64 0) = some (.bool false) := by
  have e := bin_fneq (P := P) (t := t) (xo := xo) (yo := yo) fzero fzero
  rw [show cOf fzero = 0 from by decide, show (fcmp fzero fzero != some .eq) = false from by decide] at e
  exact e
theorem di_le {k : Nat} {K : Nat → Nat → Int} (h1 : 1 ≤ k) (h3 : k ≤ 3) (hK : ∀ i j, -8 ≤ K i j ∧ K i j ≤ 8) : -3072 ≤ Nu.di k K ∧ Nu.di k K ≤ 3072 := by
  have hM : ∀ i j k l, -64 ≤ K i j * K k l ∧ K i j * K k l ≤ 64 := fun i j k l => mul8 (hK i j).1 (hK i j).2 (hK k l).1 (hK k l).2
  have hc : k = 1 ∨ k = 2 ∨ k = 3 := by omega
  rcases hc with rfl | rfl | rfl
  · have := hK 0 0
    show -3072 ≤ K 0 0 ∧ K 0 0 ≤ 3072
    omega
  · have := hM 0 0 1 1
    have := hM 0 1 1 0
    show -3072 ≤ K 0 0 * K 1 1 - K 0 1 * K 1 0 ∧ K 0 0 * K 1 1 - K 0 1 * K 1 0 ≤ 3072
    omega
  · have t1 := hM 1 1 2 2
    have t2 := hM 1 2 2 1
    have t3 := hM 1 2 2 0
    have t4 := hM 1 0 2 2
    have t5 := hM 1 0 2 1
    have t6 := hM 1 1 2 0
    have s1 := mul128 (hK 0 0).1 (hK 0 0).2 (show -128 ≤ K 1 1 * K 2 2 - K 1 2 * K 2 1 by omega) (by omega)
    have s2 := mul128 (hK 0 1).1 (hK 0 1).2 (show -128 ≤ K 1 2 * K 2 0 - K 1 0 * K 2 2 by omega) (by omega)
    have s3 := mul128 (hK 0 2).1 (hK 0 2).2 (show -128 ≤ K 1 0 * K 2 1 - K 1 1 * K 2 0 by omega) (by omega)
    show -3072 ≤ K 0 0 * (K 1 1 * K 2 2 - K 1 2 * K 2 1) + K 0 1 * (K 1 2 * K 2 0 - K 1 0 * K 2 2) + K 0 2 * (K 1 0 * K 2 1 - K 1 1 * K 2 0) ∧ K 0 0 * (K 1 1 * K 2 2 - K 1 2 * K 2 1) + K 0 1 * (K 1 2 * K 2 0 - K 1 0 * K 2 2) + K 0 2 * (K 1 0 * K 2 1 - K 1 1 * K 2 0) ≤ 3072
    omega
structure WhF (fr : Fr) (va vb v4 : Value) (dt : Int) : Prop where
  n : fr.n = 114
  d : fr.d = []
  f6 : fr.at 6 = va
  f7 : fr.at 7 = vb
  f8 : fr.at 8 = .int .i64 dt
  f11 : fr.at 11 = v4
def hdN (k : Nat) (ρ : Nat → Nat) (i : Nat) : List Value := (List.range i).map (hdr k ρ)
theorem hdN_succ (k : Nat) (ρ : Nat → Nat) (i b : Nat) : hdN k ρ i ++ [.slice (some ⟨b, 0, none⟩) k k] = hdN k (fun r => if r = i then b else ρ r) (i + 1) := by
  unfold hdN
  rw [List.range_succ, List.map_append]
  refine congr (congrArg _ (List.map_congr_left fun r hr => ?_)) ?_
  · have := List.mem_range.1 hr
    unfold hdr
    dsimp only
    rw [if_neg (by omega)]
  · show [_] = [hdr k _ i]
    unfold hdr
    dsimp only
    rw [if_pos rfl]
theorem hdN_len (k : Nat) (ρ : Nat → Nat) (i : Nat) : (hdN k ρ i).length = i := by unfold hdN; simp
theorem hdN_one (k : Nat) (ρ : Nat → Nat) (i : Nat) : (hdN k ρ i).all oneV = true := by unfold hdN; simp [hdr]; exact fun _ _ => rfl
theorem set_row {K : Nat → Nat → Int} {k i j : Nat} (hb : ∀ i j, -8 ≤ K i j ∧ K i j ≤ 8) (hi : i < k) : ((rat' (rowsK K k) i).map fv).set j (.float .f64 (fi (K i k))) = rowL (Nu.colK k j K) i k := by
  rw [rat_rowsK hi]
  refine List.ext_getElem? fun t => ?_
  unfold rowL
  by_cases ht : t < k
  · by_cases htj : t = j
    · subst htj
      simp [ht, Nu.colK, fiv]
    · have hne : ¬ j = t := fun h => htj h.symm
      rw [List.getElem?_set_ne hne]
      simp [ht, Nu.colK, htj, fiv, fv, fi_no (hb i t).1 (hb i t).2]
  · rw [List.getElem?_eq_none (by simp; omega), List.getElem?_eq_none (by simp; omega)]
/-- The copies of rows that are made so far. -/
structure CoM (m m' : Mem) (K : Nat → Nat → Int) (k i : Nat) (vc : Value) (ρ : Nat → Nat) (bc : Nat) : Prop where
  up : Up m m'
  w : WF m'
  gc : Gr m' bc vc (hdN k ρ i)
  rows : ∀ r, r < i → m'.at (ρ r) = some ⟨rowL K r k, 1, true, false⟩ ∧ m.next ≤ ρ r ∧ ρ r < m'.next ∧ ρ r ≠ bc
  dc : 0 < i → m.next ≤ bc
theorem colK_le {K : Nat → Nat → Int} {k j : Nat} (hb : ∀ i j, -8 ≤ K i j ∧ K i j ≤ 8) (i l : Nat) : -8 ≤ Nu.colK k j K i l ∧ Nu.colK k j K i l ≤ 8 := by
  unfold Nu.colK; split <;> exact hb _ _
theorem CoM.fm {m m' : Mem} {K : Nat → Nat → Int} {k : Nat} {vc : Value} {ρ : Nat → Nat} {bc : Nat} (hk : 1 ≤ k) (S : CoM m m' K k k vc ρ bc) (h : ∀ i j, -8 ≤ K i j ∧ K i j ≤ 8) : FM m' vc (rowsK K k) := by
  have hl : (rowsK K k).length = k := by simp [rowsK]
  rcases S.gc with ⟨h1, _⟩ | ⟨_, h2, h3, _⟩
  · have := congrArg List.length h1; rw [hdN_len] at this; simp at this; omega
  · rw [hdN_len] at h2
    refine ⟨_, _, by rw [hl]; exact h2, .inr ⟨bc, 0, _, rfl, h3, fun i hi => ?_⟩⟩
    rw [hl] at hi
    obtain ⟨q1, _⟩ := S.rows i hi
    refine ⟨hdr k ρ i, by unfold hdN; simp [hi], ?_⟩
    have hrl : (rat' (rowsK K k) i).length = k := by rw [rat_rowsK hi]; simp
    refine ⟨_, _, by rw [hrl]; rfl, .inr ⟨ρ i, 0, _, rfl, q1, fun j hj => ?_⟩⟩
    rw [hrl] at hj
    rw [fat_rowsK hi hj, fi_no (h i j).1 (h i j).2]
    unfold rowL
    simp [hj]; rfl
def wjI (mB : Mem) (va vb v4 : Value) (d : Int) (k : Nat) (q : Nat) (fr : Fr) (m' : Mem) : Prop := ∃ j, j + q = k ∧ WhF fr va vb v4 d ∧ fr.at 13 = .int .i64 (j : Nat) ∧ Up mB m'
def wiI (m1 : Mem) (va vb v4 : Value) (d : Int) (k j : Nat) (K : Nat → Nat → Int) (q : Nat) (fr : Fr) (m' : Mem) : Prop := ∃ i vc ρ bc, i + q = k ∧ WhF fr va vb v4 d ∧ fr.at 13 = .int .i64 (j : Nat) ∧ fr.at 14 = vc ∧ fr.at 15 = .int .i64 (i : Nat) ∧ CoM m1 m' K k i vc ρ bc
section
set_option maxRecDepth 10000
set_option maxHeartbeats 4000000 in
theorem whole_walk (e : Nat) {m : Mem} {vl : Value} {nn : Int} {N : Nat} {xs : Nat → Int} (hw : WF m) (hv : ILz m vl N xs) {Q : Value → Mem → Prop}
    (hQ : ∀ m', Up m m' → Q (.bool true) m') :
    Gives (callN Try.prog kn1 (e + 11) 5 [.int .i64 nn, vl]) m Q := by
  refine gives_fn (nt := 114) rfl Try.func5 rfl rfl rfl (Nat.le_of_ble_eq_true rfl) fun fr hn hd hargs => ?_
  have h0 : fr.at 0 = _ := hargs 0 _ rfl
  have h1 : fr.at 1 = _ := hargs 1 _ rfl
  clear hargs
  simp [hn, gives_known kn1_alive, gives_ret, h0, h1]
  refine small_ok (e + 9) hw hv fun m1 k va vb ρ ba bb hk1 hk3 S => ?_
  obtain ⟨K, hK⟩ : ∃ K, K = Kx N xs k := ⟨_, rfl⟩
  have hb : ∀ i j, -8 ≤ K i j ∧ K i j ≤ 8 := fun i j => by rw [hK]; exact Kx_le N xs k i j
  rw [← hK] at S
  have hA := S.fm hk1 hb
  have hB := S.fl hk1 hb
  have hl : (rowsK K k).length = k := by simp [rowsK]
  have hlr : ∀ r ∈ rowsK K k, r.length ≤ 100000 := fun r hr => by
    obtain ⟨i, _, rfl⟩ := List.mem_map.1 hr
    simp; omega
  have hlb : (rhsK K k).length = k := by simp [rhsK]
  simp [hn, extractX]
  refine lawDet_ok (e + 8) (IntM.rows hb) hk1 hk3 hA fun m2 o2 _ => ?_
  have u2 := S.up.trans (Up.only o2)
  have w2 := o2.wf S.w
  have hA2 := hA.old S.w fun b _ => o2.2 b
  have hB2 := hB.old S.w fun b _ => o2.2 b
  simp [hn]
  refine det_ok kn1_KP (e + 6) (rowsK K k) va m2 w2 hA2 hlr (by omega) fun m3 u3 => ?_
  obtain ⟨b, q1, q2, q3, q4⟩ := det_whole hk1 hk3 hb
  have w3 := u3.wf w2
  have hA3 := hA2.up w2 u3
  have hB3 := hB2.up w2 u3
  rw [q1]
  simp [hn, extractX]
  refine solve_ok kn1_KP (e + 5) (rowsK K k) va vb (rhsK K k) m3 w3 hA3 hB3 hlr (by omega) (by omega) fun m4 v4 u4 own => ?_
  have hbb : cOf (some b) = b := canon_yes (fin_ex q3).2
  simp [hn, extractX, hbb, -code_seq]
  refine (code_seq _ _ _ _ _).2 ((code_seq _ _ _ _ _).2 (region_hid fun ops hops => ?_))
  have y2 : ∀ fr, yieldX ops fr 2 = boolOf (fr.at 41) := fun fr => by rw [hops]; rfl
  have y8 : ∀ fr, yieldX ops fr 8 = boolOf (fr.at 47) := fun fr => by rw [hops]; rfl
  clear hops
  have hself := self_sub q3
  have hsub : ∀ {P : Program} {t : TypeId} {xo yo : Operand}, binX P .sub t xo yo (.float .f64 b) (.float .f64 b) = some (.float .f64 0) := fun {P t xo yo} => by
    have e := bin_fsub (P := P) (t := t) (xo := xo) (yo := yo) (some b) (some b)
    rw [hbb, hself, show cOf fzero = 0 from by decide] at e; exact e
  have hne : ∀ {P : Program} {t : TypeId} {xo yo : Operand}, binX P .neq t xo yo (.float .f64 0) (.float .f64 0) = some (.bool false) := fun {P t xo yo} => bin_f00
  iterate 11 (refine (steps_cons _ _ _ _ _ _).2 ?_; simp [hn, @hsub, @hne, boolOf_bool, -code_seq, -steps_cons, y2, y8])
  refine (steps_cons _ _ _ _ _ _).2 ?_; simp [hn, boolOf_bool, -code_seq, -steps_cons, y2, y8]
  have hdi := di_le hk1 hk3 hb
  have w4 := u4.wf w3
  refine near_ok (e := e) (p := 28) (dn := 1) (num := Nu.di k K) w4 (fin_ex q3).2 q2 (fin_ex q3).1 (by omega) (by omega) (by decide) (by decide) (by decide) (by decide) fun m5 u5 => ?_
  rw [decide_eq_true (near_law (dn := 1) q2 (fin_ex q3).1 (by decide) q4)]
  have w5 := u5.wf w4
  simp [hn, boolOf_bool, -code_seq, -steps_cons, y2, y8]
  iterate 2 (refine (steps_cons _ _ _ _ _ _).2 ?_; simp [hn, boolOf_bool, -code_seq, -steps_cons, y2, y8])
  have u25 := (u2.trans u3).trans (u4.trans u5)
  by_cases hd0 : Nu.di k K = 0
  · simp [hn, hd, hd0, -code_seq]
    refine (code_seq _ _ _ _ _).2 ((code_seq _ _ _ _ _).2 ?_)
    simp [hn, hd, hd0]
    exact hQ m5 u25
  · obtain ⟨x, s1, s2⟩ := solve_whole hk1 hk3 hb hd0
    rw [s1] at own ⊢
    obtain ⟨bx, _, hv4, _, hbx⟩ := own.resolve_left (fun h => by have := congrArg List.length h.1; simp at this; omega)
    simp only [List.length_map, List.length_range] at hv4
    have hv4l : lenX Try.prog 24 v4 = some (.int .i64 k) := by rw [hv4]; simp [lst]
    have hval : lenX Try.prog 23 va = some (.int .i64 k) := by obtain ⟨a, c, rfl, _⟩ := hA3; simp [hl]
    refine (code_seq _ _ _ _ _).2 ((code_seq _ _ _ _ _).2 ?_)
    simp [hn, hd0, -code_seq]
    refine (code_seq _ _ _ _ _).2 ((code_seq _ _ _ _ _).2 (region_hid fun ops hops => ?_))
    have y2 : ∀ fr, yieldX ops fr 2 = boolOf (fr.at 57) := fun fr => by rw [hops]; rfl
    clear hops
    iterate 9 (refine (steps_cons _ _ _ _ _ _).2 ?_; simp [hn, hv4l, hval, boolOf_bool, -code_seq, -steps_cons, y2])
    have hA5 := (hA3.up w3 u4).up w4 u5
    have hB5 := (hB3.up w3 u4).up w4 u5
    have hX5 := u5.at hbx w4
    simp [hn]
    refine code_loop (wjI m5 va vb v4 (Nu.di k K) k) k (by omega) ⟨0, by omega, ⟨by simp [hn], by simp [hd], by simp, by simp, by simp, by simp⟩, by simp, Up.refl m5⟩ ?_
    clear hn hd h0 h1 y2
    rintro q fr m1 ⟨j, hjq, F, f13, u1⟩
    have hn := F.n
    have hd := F.d
    have w1 := u1.wf w5
    have hA1 := hA5.up w5 u1
    have hB1 := hB5.up w5 u1
    have hX1 := u1.at hX5 w5
    by_cases hj : j < k
    · simp [hn, F.f6, f13, hval, hj]
      refine code_loop (wiI m1 va vb v4 (Nu.di k K) k j (Nu.colK k j K)) k (by omega) ⟨0, .slice none 0 0, fun _ => 0, 0, by omega, ⟨by simp [hn], by simp [hd], by simp [F.f6], by simp [F.f7], by simp [F.f8], by simp [F.f11]⟩, by simp [f13], by simp, by simp, ⟨Up.refl m1, w1, .inl ⟨rfl, rfl⟩, fun r hr => by omega, fun h => by omega⟩⟩ ?_
      clear hn hd F f13
      rintro q2 fr m2 ⟨i, vc, ρ, bc, hiq, F, f13, f14, f15, C⟩
      have hn := F.n
      have hd := F.d
      have hA2 := hA1.up w1 C.up
      have hB2 := hB1.up w1 C.up
      by_cases hi : i < k
      · obtain ⟨ba2, oa2, xa2, ca2, eva, ea, ec⟩ := hA2.get (by omega)
        obtain ⟨bb2, ob2, xb2, cb2, evb, eb, ecb⟩ := hB2.get (by omega)
        rw [hl] at eva ec
        rw [hlb] at evb ecb
        obtain ⟨u, hu, hfl⟩ := ec i hi
        have hcb := ecb i hi
        rw [fat_rhsK hi, fi_no (hb i k).1 (hb i k).2] at hcb
        have h6 := F.f6
        have h7 := F.f7
        have hval' := hval
        rw [eva] at h6 hval'
        rw [evb] at h7
        simp [hn, h6, f15, hval', hi, idx23 _ _ _ _ _ _ hi, ea, hu]
        have hrl : (rat' (rowsK K k) i).length = k := by rw [rat_rowsK hi]; simp
        refine gives_copyF (m := m2.rd ba2) (xs := rat' (rowsK K k) i) (hfl.same fun _ => by simp) (by omega) (fun hz => by omega) fun _ m3 n3 a3 o3 => ?_
        rw [hrl]
        simp only [Mem.next_rd, Mem.at_rd] at n3 a3 o3
        have eb3 : m3.at bb2 = some xb2 := by rw [o3 bb2 (by have := C.w _ _ eb; omega)]; exact eb
        have a3' : m3.at m2.next = some ⟨(rat' (rowsK K k) i).map fv, 1, true, false⟩ := a3
        simp [hn, f13, h7, f15, idx24 _ _ _ _ _ _ hi, idx24 _ _ _ _ _ _ hj, eb3, hcb]
        have hset : ((rat' (rowsK K k) i).map fv).set j (.float .f64 (fi (K i k))) = rowL (Nu.colK k j K) i k := set_row hb hi
        refine storeQ_one (cs := (rat' (rowsK K k) i).map fv) (sz := 1) (gr := true) (by simpa using a3') (by simp [cellsV, oneV]) rfl (by rw [List.length_map, hrl]; exact hj) fun m4 n4 _ e4 => ?_
        rw [hset] at e4
        simp only [Mem.next_rd, Mem.at_rd] at n4 e4
        simp [hn, f14]
        refine gives_build1 bs23 rfl rfl ?_
        simp [hn]
        have w4' : WF m4 := fun c y hc => by
          rw [e4] at hc
          by_cases h : c = m2.next
          · omega
          · rw [if_neg h, o3 c h] at hc
            have := C.w c y hc; omega
        have old4 : ∀ c, c < m2.next → m4.at c = m2.at c := fun c hc => by rw [e4, if_neg (by omega), o3 c (by omega)]
        have hbc : hdN k ρ i ≠ [] → m1.next ≤ bc ∧ bc < m2.next := fun h => by
          refine ⟨C.dc (by have := ne_nil h; rwa [hdN_len] at this), ?_⟩
          rcases C.gc with ⟨h1, _⟩ | ⟨_, _, _, h4⟩
          · exact absurd h1 h
          · exact h4
        refine push2 (m := m4) app23 (b := bc) (l := hdN k ρ i) (x := .slice (some ⟨m2.next, 0, none⟩) k k) (C.gc.keep (by omega) fun h => old4 _ (hbc h).2) (hdN_one _ _ _) rfl (by rw [hdN_len]; omega) w4' fun m5' n5 g5 e5 w5' => ?_
        rw [hdN_succ] at g5
        have hwi := wrap_succ i (by omega)
        simp [hn, f15, hwi]
        have hu2 := C.up.next
        refine ⟨q2 - 1, by omega, i + 1, .slice (some ⟨m4.next + 1, 0, none⟩) ((hdN k ρ i).length + 1) ((hdN k ρ i).length + 1), fun r => if r = i then m2.next else ρ r, m4.next + 1, by omega, ⟨by simp [hn], by simp [hd], by simp [h6, eva], by simp [h7, evb], by simp [F.f8], by simp [F.f11]⟩, by simp [f13], by simp, by simp, ?_⟩
        refine ⟨⟨by omega, fun c hc => ?_, fun _ => w5'⟩, w5', g5, fun r hr => ?_, fun _ => by omega⟩
        · rw [e5 c (by omega) (fun h => by have := hbc h; omega), old4 c (by omega)]
          exact C.up.old c hc
        · by_cases h : r = i
          · subst h
            simp only [if_true]
            refine ⟨?_, by omega, by omega, by omega⟩
            rw [e5 _ (by omega) (fun h => by have := hbc h; omega), e4, if_pos rfl]
          · simp only [h, if_false]
            obtain ⟨z1, z2, z3, z4⟩ := C.rows r (by omega)
            refine ⟨?_, z2, by omega, by omega⟩
            rw [e5 _ (by omega) (fun _ => z4), old4 _ z3]
            exact z1
      · have hik : i = k := by omega
        have hi' : ¬ (i : Int) < (k : Int) := by omega
        simp [hn, F.f6, f15, hval, hi, hi']
        have hik : i = k := by omega
        rw [hik] at C
        have hC : IntM k (Nu.colK k j K) (rowsK (Nu.colK k j K) k) := IntM.rows (colK_le hb)
        have hFC : FM m2 vc (rowsK (Nu.colK k j K) k) := C.fm hk1 (colK_le hb)
        have hX2 := C.up.at hX1 w1
        have hxj := s2 j hj
        have hxn : cOf (some (x j)) = x j := canon_yes (fin_ex hxj.2.1).2
        have exj : ((List.range k).map (fun j => (some (x j) : Option Nat))).map fv = (List.range k).map fun j => Value.float .f64 (x j) := by
          rw [List.map_map]
          refine List.map_congr_left fun t ht => ?_
          have := fin_ex (s2 t (List.mem_range.1 ht)).2.1
          show Value.float .f64 (cOf (some (x t))) = _
          rw [show cOf (some (x t)) = x t from canon_yes this.2]
        rw [exj] at hX2
        have ecx : ((List.range k).map fun j => Value.float .f64 (x j))[j]? = some (.float .f64 (x j)) := by simp [hj]
        have h11 := F.f11
        rw [hv4] at h11
        unfold lst at h11
        have hself := self_sub hxj.2.1
        have hsub : ∀ {P : Program} {t : TypeId} {xo yo : Operand}, binX P .sub t xo yo (.float .f64 (x j)) (.float .f64 (x j)) = some (.float .f64 0) := fun {P t xo yo} => by
          have e := bin_fsub (P := P) (t := t) (xo := xo) (yo := yo) (some (x j)) (some (x j))
          rw [hxn, hself, show cOf fzero = 0 from by decide] at e; exact e
        have hne : ∀ {P : Program} {t : TypeId} {xo yo : Operand}, binX P .neq t xo yo (.float .f64 0) (.float .f64 0) = some (.bool false) := fun {P t xo yo} => bin_f00
        refine code_draw_rf 18 (p1 := [0, 0, 3, 7, 0, 0, 48, 112, 255, 511, 1023, 2047, 2047, 8191, 16383, 2047, 34815, 2047]) (p2 := [262143, 524287, 1048575]) (by kernel_rfl) rfl rfl (by kernel_rfl) (by kernel_rfl) (by kernel_rfl) fun ops hy => ?_
        have hy10 := hy 10 103 rfl
        clear hy
        simp [drawRQ, hy10, hn, h11, f13, f14, F.f8, idx24 _ _ _ _ _ _ hj, hX2, ecx, @hsub, @hne]
        refine lawDet_ok (m := m2.lg []) (e + 8) hC hk1 hk3 (hFC.same fun c => by simp) fun m6 o6 l6 => ?_
        have hl6 := l6 rfl
        have u6 : Up m2 m6 := (Up.only ⟨by simp, fun c => by simp⟩).trans (Up.only o6)
        have w6 := u6.wf C.w
        simp [drawRQ, drawFQ, hy10, hn, hl6, F.f8]
        have hdj := di_le hk1 hk3 (colK_le (k := k) (j := j) hb)
        refine near_ok (e := e) (p := 20) (dn := Nu.di k K) (num := Nu.di k (Nu.colK k j K)) (fun c y hc => by simp at hc ⊢; exact w6 c y hc) (fin_ex hxj.2.1).2 hxj.1 (fin_ex hxj.2.1).1 (by omega) (by omega) (by omega) (by omega) hd0 (by decide) fun m7 u7 => ?_
        rw [decide_eq_true (near_law hxj.1 (fin_ex hxj.2.1).1 hd0 hxj.2.2)]
        have hwj := wrap_succ j (by omega)
        simp [drawFQ, hy10, hn, f13, hwj]
        have u67 : Up m6 m7 := (Up.only ⟨by simp, fun c => by simp⟩).trans u7
        refine ⟨q - 1, by omega, j + 1, by omega, ⟨by simp [hn], by simp [F.d], by simp [F.f6], by simp [F.f7], by simp [F.f8], by simp [F.f11]⟩, by simp, ?_⟩
        exact (u1.trans C.up).trans ((u6.trans u67).trans (Up.only ⟨by simp, fun c => by simp⟩))
    · have hjk : ¬ (j : Int) < (k : Int) := by omega
      simp [hn, hd, F.f6, f13, hval, hj, hjk]
      exact hQ m1 (u25.trans u1)
end
end Go.Proofs.Ytghhanifakllpaa
