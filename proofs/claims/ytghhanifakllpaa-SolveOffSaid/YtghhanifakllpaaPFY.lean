/- The program's steps, in the clean executor: the start; the whole. -/
import Derived.Test.YtghhanifakllpaaPEY
set_option linter.unusedSimpArgs false
set_option linter.unusedVariables false
namespace Go.Proofs.Ytghhanifakllpaa
open Go.Clean

theorem lay_over : ∀ (xs cs : List Value), xs.length ≤ cs.length → lay cs 0 xs = some (xs ++ cs.drop xs.length)
  | [], cs, _ => by cases cs <;> rfl
  | x :: xs, [], h => by simp at h
  | x :: xs, c :: cs, h => by rw [lay, lay_over xs cs (by simpa using h)]; rfl
theorem gives_copy24 {m : Mem} {b dn c : Nat} {g : Bool} {cells : List Value} {v : Value} {xs : List F} (hv : FL m v xs) (hpos : 0 < xs.length) (hb : m.at b = some ⟨cells, 1, g, false⟩) (hle : xs.length ≤ dn) (hle2 : xs.length ≤ cells.length) {Q : Value → Mem → Prop}
    (q : ∀ (r : Value) m', m'.next = m.next → (∀ c, m'.at c = if c = b then some ⟨xs.map fv ++ cells.drop xs.length, 1, g, false⟩ else m.at c) → Q r m') : Gives (copyX Try.prog 24 (.slice (some ⟨b, 0, none⟩) dn c) v) m Q := by
  obtain ⟨b2, o2, x2, c2, rfl, h2, h3⟩ := hv.get hpos
  unfold copyX takenX
  simp only [under24, size25]
  rw [gives_bind, gives_bind, gives_getB, h2, optQ_some, gives_ret]
  have e : takeN x2.cells o2 (xs.length.min dn * 1) = some (xs.map fv) := by
    rw [Nat.mul_one, show xs.length.min dn = xs.length from Nat.min_eq_left hle]
    exact FL.take (m := m) (b := b2) h3
  rw [e]
  dsimp only
  rw [gives_bind, gives_getB, Mem.at_rd, hb, optQ_some]
  refine (gives_bind _ _ _ _).2 ((gives_guard _ _ _).2 ⟨by rw [fv_one]; rfl, ?_⟩)
  refine (gives_laid cells 0 (xs.map fv) (fun l => (do setB b (some { cells := l, sz := 1, grow := g, ro := false }); M.ret (Value.int .i64 (Nat.min (sliceLen (.slice (some ⟨b2, o2, none⟩) xs.length c2)) dn)))) _ _).2 ?_
  rw [lay_over _ _ (by simpa using hle2), optQ_some, gives_bind, gives_setB, gives_ret]
  refine q _ _ rfl fun c => ?_
  simp

theorem Lap.addRow {m m' : Mem} {kd : Nat → Nat} {base s8 : Nat} {v : Nat → Value} {l : Nat → List Value} {n : Nat} {ρ : Nat → Nat} {rw : Nat → List Value} (h : Lap m kd base s8 v l n ρ rw) (hb : base ≤ m.next) {cells : List Value} (hn : m'.next = m.next + 1) (e : ∀ c, m'.at c = if c = m.next then some ⟨cells, 1, false, false⟩ else m.at c) :
    Lap m' (fun c => if c = m.next then 6 else kd c) base s8 v l (n + 1) (fun k => if k = n then m.next else ρ k) (fun k => if k = n then cells else rw k) := by
  have hs := h.wf _ _ h.cell
  refine ⟨fun c y hc => ?_, by rw [e, if_neg (by omega)]; exact h.cell, ⟨by rw [if_neg (by omega)]; exact h.own.1, h.own.2⟩, fun k h1 h4 => ?_, fun i hi => ?_, fun i j hi hj hij => ?_⟩
  · rw [hn]
    rw [e] at hc
    split at hc
    · omega
    · have := h.wf c y hc; omega
  · obtain ⟨h0, hg⟩ := h.gl k h1 h4
    refine ⟨h0, ?_⟩
    rcases hg with hg | ⟨hg1, b, hg2, hg3, hg4, hg5⟩
    · exact .inl hg
    · have := h.wf _ _ hg5
      exact .inr ⟨hg1, b, hg2, by rw [if_neg (by omega)]; exact hg3, hg4, by rw [e, if_neg (by omega)]; exact hg5⟩
  · by_cases hin : i = n
    · subst hin
      simp only [if_true]
      exact ⟨Nat.le_refl 6, hb, by rw [e, if_pos rfl]⟩
    · simp only [if_neg hin]
      obtain ⟨r1, r2, r3⟩ := h.row i (by omega)
      have := h.wf _ _ r3
      exact ⟨by rw [if_neg (by omega)]; exact r1, r2, by rw [e, if_neg (by omega)]; exact r3⟩
  · by_cases h1 : i = n
    · by_cases h2 : j = n
      · omega
      · rw [if_pos h1, if_neg h2] at hij
        have := h.wf _ _ (h.row j (by omega)).2.2
        omega
    · by_cases h2 : j = n
      · rw [if_neg h1, if_pos h2] at hij
        have := h.wf _ _ (h.row i (by omega)).2.2
        omega
      · rw [if_neg h1, if_neg h2] at hij
        exact h.inj i j (by omega) (by omega) hij

def rowV (M : Mx) (N i : Nat) : List Value := (List.range (N + 1)).map fun j => fv (M i j)
theorem rowV_of {M : Mx} {N i : Nat} {xs : List F} {y : F} (hl : xs.length = N) (h1 : ∀ j, j < N → M i j = fat xs j) (h2 : M i N = y) : xs.map fv ++ [fv y] = rowV M N i := by
  unfold rowV
  rw [List.range_succ, List.map_append]
  refine congr (congrArg _ ?_) (by simp [h2])
  refine List.ext_getElem (by simp [hl]) fun j hj1 hj2 => ?_
  simp at hj1 hj2
  simp [h1 j hj2, fat, List.getD, hj1]
def seedI (m : Mem) (va vb : Value) (N : Nat) (M : Mx) (kb r6 s8 base : Nat) (j : Nat) (fr : Fr) (m' : Mem) : Prop :=
  ∃ i kd v l ρ rw, i + j = N ∧ fr.n = 209 ∧ fr.d = [] ∧ fr.at 2 = vb ∧ fr.at 3 = .pointer (some ⟨kb, 0, none⟩) ∧ fr.at 6 = .pointer (some ⟨r6, 0, none⟩) ∧ fr.at 8 = .pointer (some ⟨s8, 0, none⟩) ∧ fr.at 9 = .int .i64 N ∧ fr.at 23 = va ∧ fr.at 24 = .int .i64 N ∧ fr.at 25 = .int .i64 (i : Nat) ∧
  base ≤ m'.next ∧ (∀ c, c < base → m'.at c = m.at c) ∧ Lap m' kd base s8 v l i ρ rw ∧ l 1 = (List.range i).map (fun k => Value.slice (some ⟨ρ k, 0, none⟩) (N + 1) (N + 1)) ∧ (∀ k, k < i → rw k = rowV M N k) ∧ l 2 = (List.range i).map (fun (k : Nat) => Value.int .i64 k) ∧ l 3 = [] ∧ l 4 = []
def pSeed (c : Code) : Code := inB (sR (sL (sR (sR (sR c)))))
@[simp] theorem nil24 : nilType Try.prog 24 (.slice none 0 0) = true := by kernel_rfl
@[simp] theorem nil24' (a : Option Addr) (n c : Nat) : nilType Try.prog 24 (.slice a n c) = true := by
  unfold nilType
  rw [under24]
@[simp] theorem bin_neq_nil (xo yo : Operand) (n c : Nat) : binX Try.prog .neq 24 xo yo (.slice none n c) (.slice none 0 0) = some (.bool false) := by
  unfold binX
  simp [eqlX, isNilLit, isNil]
@[simp] theorem bin_neq_some (xo yo : Operand) (a : Addr) (n c : Nat) : binX Try.prog .neq 24 xo yo (.slice (some a) n c) (.slice none 0 0) = some (.bool true) := by
  unfold binX
  simp [eqlX, isNilLit, isNil]
theorem Lap.sameUp {m m' : Mem} {kd : Nat → Nat} {base s5 : Nat} {v : Nat → Value} {l : Nat → List Value} {n : Nat} {ρ : Nat → Nat} {rw : Nat → List Value} (h : Lap m kd base s5 v l n ρ rw) (ho : Only m m') : Lap m' kd base s5 v l n ρ rw := h.up (Up.only ho)
set_option maxHeartbeats 1000000 in
set_option maxRecDepth 10000 in
theorem seed_loop {known : Known} (K : KP known) (n : Nat) {fr : Fr} {m : Mem} {va vb : Value} {rs : List (List F)} {bs : List F} {M : Mx} {kb r6 s8 base : Nat} {kd : Nat → Nat} (hw0 : WF m) (hm : m.next ≤ base) {m1 : Mem} (hold1 : ∀ c, c < m.next → m1.at c = m.at c) (hv : FM m va rs) (hb : (vb = nilV ∧ bs = []) ∨ (FL m vb bs ∧ bs.length = rs.length)) (hlen : ∀ i, i < rs.length → (rat' rs i).length = rs.length) (hpos : 0 < rs.length) (hlen2 : rs.length ≤ 128)
    (hM : ∀ i j, i < rs.length → j < rs.length → M i j = fat (rat' rs i) j) (hMB : ∀ i, i < rs.length → M i rs.length = if bs.length = rs.length then fat bs i else fzero)
    (f1 : fr.n = 209) (f2 : fr.d = []) (g2 : fr.at 2 = vb) (g3 : fr.at 3 = .pointer (some ⟨kb, 0, none⟩)) (g6 : fr.at 6 = .pointer (some ⟨r6, 0, none⟩)) (g8 : fr.at 8 = .pointer (some ⟨s8, 0, none⟩)) (g9 : fr.at 9 = .int .i64 rs.length) (g23 : fr.at 23 = va) (g24 : fr.at 24 = .int .i64 rs.length) (g25 : fr.at 25 = .int .i64 0)
    (hbn : base ≤ m1.next) (hL : Lap m1 kd base s8 (fun _ => nilV) (fun _ => []) 0 (fun _ => 0) (fun _ => [])) {Q : CQ}
    (hQ : ∀ fr' m' , fr'.n = 209 → fr'.d = [] → fr'.at 3 = .pointer (some ⟨kb, 0, none⟩) → fr'.at 6 = .pointer (some ⟨r6, 0, none⟩) → fr'.at 8 = .pointer (some ⟨s8, 0, none⟩) → fr'.at 9 = .int .i64 rs.length → Old base m1 m' → SysAp m' base s8 rs.length (startS M) → Q (.exit 0, fr') m') :
    Gives (codeX Try.prog (callN Try.prog known (n + 1)) (pSeed (bodyOf Try.f42)) fr) m1 Q := by
  refine via (X := .loop _) rfl ?_
  refine code_loop (seedI m1 va vb rs.length M kb r6 s8 base) rs.length (by omega) ⟨0, kd, _, _, _, _, by simp, f1, f2, g2, g3, g6, g8, g9, g23, g24, by simp [g25], hbn, fun _ _ => rfl, hL, rfl, fun k hk => absurd hk (by omega), rfl, rfl, rfl⟩ ?_
  clear f1 f2 g2 g3 g6 g8 g9 g23 g24 g25 hL hbn kd
  clear fr
  rintro j fr m2 ⟨i, kd, v, l, ρ, rw, hij, f1, f2, g2, g3, g6, g8, g9, g23, g24, g25, hbn, hold, hL, l1, hrw, l2, l3, l4⟩
  by_cases hi : i < rs.length
  · have hwi := wrap_succ i (by omega)
    have hwn := wrap_succ rs.length (by omega)
    have hv2 : FM m2 va rs := hv.old hw0 fun c hc => by rw [hold c (by omega), hold1 c hc]
    obtain ⟨ab, ao, ax, ac, hva, ha1, ha2⟩ := hv2.get hpos
    obtain ⟨u, hu, hfl⟩ := ha2 i hi
    simp [f1, g23, g24, g25, g9, hi, hva, idx23 _ _ _ _ _ _ hi, ha1, hu, hwn]
    rw [show ((rs.length : Int) + 1) = ((rs.length + 1 : Nat) : Int) by simp]
    refine gives_make24 (rs.length + 1) (by omega) ?_
    simp [f1]
    refine gives_copy24 (xs := rat' rs i) (cells := List.replicate (rs.length + 1) (.float .f64 0)) (g := false) ?_ (by rw [hlen i hi]; exact hpos) (by simp) (by rw [hlen i hi]; omega) (by simp [hlen i hi]) fun r m3 n3 e3 => ?_
    · refine (hfl.old hL.wf fun c hc => ?_)
      simp
      intro h; omega
    simp only [Mem.next_nw, Mem.next_rd, Mem.at_nw, Mem.at_rd, hlen i hi] at n3 e3
    have hdrop : (List.replicate (rs.length + 1) (Value.float .f64 0)).drop rs.length = [.float .f64 0] := by simp
    rw [hdrop] at e3
    -- the right side
    have rest : ∀ (fr9 : Fr) (m9 : Mem), m9.next = m2.next + 1 → (∀ c, m9.at c = if c = m2.next then some ⟨rowV M rs.length i, 1, false, false⟩ else m2.at c) → fr9.n = 209 → fr9.d = [] → fr9.at 2 = vb → fr9.at 3 = .pointer (some ⟨kb, 0, none⟩) → fr9.at 6 = .pointer (some ⟨r6, 0, none⟩) → fr9.at 8 = .pointer (some ⟨s8, 0, none⟩) → fr9.at 9 = .int .i64 rs.length → fr9.at 10 = .int .i64 (i : Nat) → fr9.at 12 = .slice (some ⟨m2.next, 0, none⟩) (rs.length + 1) (rs.length + 1) → fr9.at 23 = va → fr9.at 24 = .int .i64 rs.length → fr9.at 25 = .int .i64 (i : Nat) →
        ∀ {Q9 : CQ}, (∀ fr' m', (∃ j', j' < j ∧ seedI m1 va vb rs.length M kb r6 s8 base j' ((fr'.upd 57 (.int .i64 ((i + 1 : Nat) : Int))).upd 25 (.int .i64 ((i + 1 : Nat) : Int))) m') ∧ fr'.n = 209 ∧ fr'.at 25 = .int .i64 (i : Nat) → Q9 (.normal, fr') m') →
        Gives (codeX Try.prog (callN Try.prog known (n + 1)) (sR (sR (sR (sR (inB (sL (sR (sR (inB (pSeed (bodyOf Try.f42))))))))))) fr9) m9 Q9 := by
      intro fr9 m9 n9 e9 f1 f2 g2 g3 g6 g8 g9 g10 g12 g23 g24 g25 Q9 hQ9
      have hLr := hL.addRow hbn n9 e9
      obtain ⟨kd9, hkd9⟩ : ∃ kd9, kd9 = fun c => if c = m2.next then 6 else kd c := ⟨_, rfl⟩
      obtain ⟨ρ9, hρ9⟩ : ∃ ρ9, ρ9 = fun k => if k = i then m2.next else ρ k := ⟨_, rfl⟩
      obtain ⟨rw9, hrw9⟩ : ∃ rw9, rw9 = fun k => if k = i then rowV M rs.length i else rw k := ⟨_, rfl⟩
      rw [← hkd9, ← hρ9, ← hrw9] at hLr
      have hold9 : ∀ c, c < base → m9.at c = m1.at c := fun c hc => by rw [e9, if_neg (by omega), hold c hc]
      have hcell := hLr.cell
      have hs5 := hLr.wf _ _ hcell
      have hbs := hLr.own.2
      refine via (X := .region _ _ true) rfl ?_
      refine code_draw_dyn (plan := [0, 1, 0, 4, 15, 0, 32, 0, 128, 511, 127, 2047, 4095, 8191]) (by kernel_rfl) ?_
      simp [f1, g8, g12, hcell, rec4, drawQ, apartAll, apartL_n, apartL_c, apart1_n, apart1_c]
      refine gives_build1 bs23 rfl rfl ?_
      simp [f1, drawQ, apartAll, apartL_n, apartL_c, apart1_n, apart1_c, Nat.testBit]
      refine ⟨by omega, ?_⟩
      refine hLr.append (k := 1) (by omega) (by omega) (by omega) app23 (x := .slice (some ⟨m2.next, 0, none⟩) (rs.length + 1) (rs.length + 1)) rfl (by rw [l1]; simp; omega) ?_ ?_ ?_ fun m3 n3 s3 o3 lg3 mk3 => ?_
      · simp
      · simp
      · intro c hc _; simp [hc]
      simp only [Mem.log_lg, List.not_mem_nil, false_or] at lg3
      have hA1 : ∀ w, apart1 w s8 m3.log = true := fun w => apart1_of fun p hp hh => by
        rcases lg3 p hp with h | h | ⟨h, h2⟩
        · omega
        · omega
        · rw [← hh, hLr.own.1] at h2; omega
      have hA2 : ∀ w, apart1 w (m9.next + 2) m3.log = true := fun w => apart1_of fun p hp hh => by
        rcases lg3 p hp with h | h | ⟨h, h2⟩ <;> omega
      have hs8 : m3.at s8 = some (rec4 v) := by rw [s3]; simp [hcell]; intro h; omega
      simp [f1, g8, g10, hs8, rec4, lst, drawQ, apartAll, apartL_n, apartL_c, apart1_n, apart1_c, Nat.testBit, hA1]
      refine ⟨by omega, ?_⟩
      refine gives_build1 bs29 rfl rfl ?_
      simp [f1, n3, hA2, drawQ, apartAll, apartL_n, apartL_c, apart1_n, apart1_c, Nat.testBit]
      obtain ⟨w3, hw3⟩ : ∃ w3, w3 = fun j => if j = 1 then lst (m9.next + 1) ((l 1).length + 1) else v j := ⟨_, rfl⟩
      have hL3 := mk3 (m3.wr s8 (some (rec4 w3))) w3 (by simp) hw3 (fun c => by simp)
      obtain ⟨l3', hl3⟩ : ∃ l3', l3' = fun j => if j = 1 then l 1 ++ [.slice (some ⟨m2.next, 0, none⟩) (rs.length + 1) (rs.length + 1)] else l j := ⟨_, rfl⟩
      rw [← hl3] at hL3
      obtain ⟨kd3, hkd3⟩ : ∃ kd3, kd3 = fun c => if c = m9.next + 1 then 1 else kd9 c := ⟨_, rfl⟩
      rw [← hkd3] at hL3
      refine ⟨by omega, ?_⟩
      have hv4 : w3 2 = v 2 := by rw [hw3]; rfl
      rw [← hv4]
      have hnx : (m3.wr s8 (some (rec4 w3))).next = m9.next + 2 := by simp [n3]
      rw [← hnx]
      refine hL3.append (k := 2) (by omega) (by omega) (by omega) app29 (x := .int .i64 (i : Nat)) rfl (by rw [hl3]; simp [l2]; omega) ?_ ?_ ?_ fun m4 n4 s4 o4 lg4 mk4 => ?_
      · simp
      · simp
      · intro c hc hcs; simp at hc ⊢; simp [hc, hcs]
      clear mk3
      simp only [hnx] at n4 mk4 ⊢
      have hs4 : m4.at s8 = some (rec4 v) := by rw [s4]; simp [n3, hs8]; intro h; omega
      simp [f1, g8, lst, hs4, rec4, drawQ, apartAll, apartL_n, apartL_c, apart1_n, apart1_c, Nat.testBit]
      refine storeQ_one (cs := [v 1, v 2, v 3, v 4]) (sz := 1) (gr := false) (by simpa [rec4] using hs4) (by simp [cellsV, oneV]) rfl (by simp) fun m5 n5 _ e5 => ?_
      simp only [Mem.next_lg, Mem.at_lg, Mem.log_lg] at n5 e5
      have hs5' : m5.at s8 = some ⟨[lst (m9.next + 1) ((l 1).length + 1), v 2, v 3, v 4], 1, false, false⟩ := by rw [e5]; simp [lst]
      simp [f1, g8, lst, hs5', drawQ, apartAll, apartL_n, apartL_c, apart1_n, apart1_c, Nat.testBit]
      refine storeQ_one (cs := [lst (m9.next + 1) ((l 1).length + 1), v 2, v 3, v 4]) (sz := 1) (gr := false) (by simpa using hs5') (by simp [cellsV, oneV]) rfl (by simp) fun m6 n6 _ e6 => ?_
      simp only [Mem.next_lg, Mem.at_lg, Mem.log_lg] at n6 e6
      obtain ⟨w6, hw6⟩ : ∃ w6, w6 = fun j => if j = 2 then lst (m9.next + 3) ((l3' 2).length + 1) else w3 j := ⟨_, rfl⟩
      have hl34 : l3' 2 = l 2 := by rw [hl3]; rfl
      have hL6 := mk4 m6 w6 (by rw [n6, n5]) (by rw [hw6]) (fun c => by rw [e6]; by_cases h : c = s8 <;> simp [h, e5, rec4, hw6, hw3, lst, hl34])
      have ho6 : ∀ c, c < base → m6.at c = m1.at c := fun c hc => by
        rw [e6, if_neg (by omega), e5, if_neg (by omega), o4 c hc, Mem.at_wr, if_neg (by omega), o3 c hc, hold9 c hc]
      have hnm6 : base ≤ m6.next := by omega
      simp [drawQ, apartAll, apartL_n, apartL_c, apart1_n, apart1_c, Nat.testBit]
      refine hQ9 _ _ ⟨⟨j - 1, by omega, i + 1, _, w6, _, ρ9, rw9, by omega, by simp [f1], by simp [f2], by simp [g2], by simp [g3], by simp [g6], by simp [g8], by simp [g9], by simp [g23], by simp [g24], by simp, by simpa using hnm6, fun c hc => by simpa using ho6 c hc, hL6.sameUp ⟨by simp, fun c => by simp⟩, ?_, fun k hk => ?_, ?_, ?_, ?_⟩, by simp [f1], by simp [g25]⟩
      · simp only [hl3, if_neg (show ¬ (1 = 2) by omega), if_true]
        rw [List.range_succ, List.map_append, l1]
        refine congr (congrArg _ (List.map_congr_left fun k hk => ?_)) ?_
        · have := List.mem_range.1 hk
          simp only [hρ9, if_neg (show ¬ k = i by omega)]
        · simp [hρ9]
      · by_cases hki : k = i
        · subst hki; simp [hrw9]
        · simp only [hrw9, if_neg hki]; exact hrw k (by omega)
      · simp [hl3, l2, List.range_succ]
      · simp [hl3, l3]
      · simp [hl3, l4]
    clear hu ha2
    rcases hb with ⟨rfl, rfl⟩ | ⟨hfb, hbl⟩
    · have hy : M i rs.length = fzero := by rw [hMB i hi, if_neg (by simp; omega)]
      simp [f1, g2, nilV]
      refine via (X := sR (sR (sR (sR (inB (sL (sR (sR (inB (pSeed (bodyOf Try.f42))))))))))) (by kernel_rfl) (rest _ _ n3 (fun c => ?_) ?_ ?_ ?_ ?_ ?_ ?_ ?_ ?_ ?_ ?_ ?_ ?_ fun fr' m' hfin => ?_)
      · rw [e3]
        by_cases h : c = m2.next
        · rw [if_pos h, if_pos h, ← rowV_of (hlen i hi) (fun j hj => hM i j hi hj) hy]
          simp [fv, cOf_zero]
        · rw [if_neg h, if_neg h, if_neg h]
      · simp [f1]
      · simp [f2]
      · simp [g2, nilV]
      · simp [g3]
      · simp [g6]
      · simp [g8]
      · simp [g9]
      · simp
      · simp
      · simp [g23, hva]
      · simp [g24]
      · simp [g25]
      · obtain ⟨h1, h2, h3⟩ := hfin
        simp [h2, h3, hwi]
        simpa [hva, nilV] using h1
    · have hy : M i rs.length = fat bs i := by rw [hMB i hi, if_pos hbl]
      have hfb3 : FL m3 vb bs := hfb.old hw0 fun c hc => by
        have := hv2
        rw [e3, if_neg (by omega), if_neg (by omega), hold c (by omega), hold1 c hc]
      obtain ⟨bb, bo, bx, bc, hvb, hb1, hb2⟩ := hfb3.get (by omega)
      have hbi := hb2 i (by omega)
      have ht3 : m3.at m2.next = some ⟨(rat' rs i).map fv ++ [.float .f64 0], 1, false, false⟩ := by rw [e3, if_pos rfl]
      simp [f1, g2, g9, hvb, hb1, hbi, idx24 _ _ _ _ _ _ (show i < bs.length by omega), idx24 _ _ _ _ _ _ (show rs.length < rs.length + 1 by omega)]
      refine storeQ_one (cs := (rat' rs i).map fv ++ [.float .f64 0]) (sz := 1) (gr := false) (by simpa using ht3) (by simp [cellsV, oneV]) rfl (by simp [hlen i hi]) fun m4 n4 _ e4 => ?_
      simp only [Mem.next_rd, Mem.at_rd] at n4 e4
      simp
      refine via (X := sR (sR (sR (sR (inB (sL (sR (sR (inB (pSeed (bodyOf Try.f42))))))))))) (by kernel_rfl) (rest _ _ (by rw [n4, n3]) (fun c => ?_) ?_ ?_ ?_ ?_ ?_ ?_ ?_ ?_ ?_ ?_ ?_ ?_ fun fr' m' hfin => ?_)
      · rw [e4]
        by_cases h : c = m2.next
        · rw [if_pos h, if_pos h, ← rowV_of (hlen i hi) (fun j hj => hM i j hi hj) hy]
          simp [fv, hlen i hi]
        · rw [if_neg h, if_neg h, e3, if_neg h, if_neg h]
      · simp [f1]
      · simp [f2]
      · simp [g2, hvb]
      · simp [g3]
      · simp [g6]
      · simp [g8]
      · simp [g9]
      · simp
      · simp
      · simp [g23, hva]
      · simp [g24]
      · simp [g25]
      · obtain ⟨h1, h2, h3⟩ := hfin
        simp [h2, h3, hwi]
        simpa [hva, hvb] using h1
  · have hi' : i = rs.length := by omega
    subst hi'
    simp [f1, g24, g25]
    refine hQ _ m2 (by simp [f1]) (by simp [f2]) (by simp [g3]) (by simp [g6]) (by simp [g8]) (by simp [g9]) hold ⟨kd, v, l, ρ, rw, hL, ⟨by rw [l1]; simp, fun i hi => ?_⟩, fun i hi => ?_, ⟨by rw [l2]; simp, fun i hi => ?_⟩, by rw [l3]; rfl, by rw [l4]; rfl⟩
    · rw [l1]; simp [hi]
    · rw [hrw i hi]
      refine ⟨by simp [rowV], fun j hj => ?_⟩
      simp [rowV, fv, startS, show j < rs.length + 1 by omega]
    · rw [l2]; simp [hi, startS]
end Go.Proofs.Ytghhanifakllpaa

/- The program's steps, in the clean executor: the whole. -/
namespace Go.Proofs.Ytghhanifakllpaa
open Go.Clean

variable {known : Known}
set_option maxHeartbeats 1000000 in
set_option maxRecDepth 10000 in
theorem steps_ok (K : KP known) (n : Nat) (rs : List (List F)) (va vb : Value) (bs : List F) (m : Mem) (hw0 : WF m) (hv : FM m va rs) (hb : (vb = nilV ∧ bs = []) ∨ (FL m vb bs ∧ bs.length = rs.length)) (hlen : ∀ i, i < rs.length → (rat' rs i).length = rs.length) (hpos : 0 < rs.length) (hlen2 : rs.length ≤ 128) {M : Mx}
    (hM : ∀ i j, i < rs.length → j < rs.length → M i j = fat (rat' rs i) j) (hMB : ∀ i, i < rs.length → M i rs.length = if bs.length = rs.length then fat bs i else fzero) {Q : Value → Mem → Prop}
    (hQ : ∀ m' kd s8 v l ρ rw, (∀ c, c < m.next → m'.at c = m.at c) → Lap m' kd (m.next + 2) s8 v l rs.length ρ rw → Conp l ρ rw rs.length (stepsS rs.length M).1 → Q (.tuple ⟨[.agg ⟨[v 1, v 2, v 3, v 4]⟩, .bool (stepsS rs.length M).2]⟩) m') :
    Gives (callN Try.prog known (n + 2) 42 [kA, va, vb]) m Q := by
  refine gives_fn (nt := 209) (K.non _ rfl _) Try.func42 rfl rfl rfl (Nat.le_of_ble_eq_true rfl) fun fr hn hd hargs => ?_
  have h0 : fr.at 0 = _ := hargs 0 _ rfl
  have h1 : fr.at 1 = _ := hargs 1 _ rfl
  have h2 : fr.at 2 = _ := hargs 2 _ rfl
  clear hargs
  obtain ⟨aa, ac, hva, _⟩ := id hv
  simp [h0, h1, hva, hn, kA, oneV, nilV]
  refine ⟨by simp [kL, fnV], ?_⟩
  have hold : ∀ c, c < m.next → (((m.nw ⟨kL, 1, false, false⟩).nw ⟨[Value.slice none 0 0, .slice none 0 0, .slice none 0 0, .slice none 0 0], 1, false, false⟩).nw ⟨[Value.slice none 0 0, .slice none 0 0, .slice none 0 0, .slice none 0 0], 1, false, false⟩).at c = m.at c := fun c hc => by
    simp
    rw [if_neg (by omega), if_neg (by omega), if_neg (by omega)]
  refine via (X := pSeed (bodyOf Try.f42)) (by kernel_rfl) (seed_loop K n (va := va) (vb := vb) (rs := rs) (bs := bs) (M := M) (kb := m.next) (r6 := m.next + 1) (s8 := m.next + 2) (base := m.next + 2) (kd := fun c => if c = m.next + 2 then 0 else 6) hw0 (by omega) hold hv hb hlen hpos hlen2 hM hMB ?_ ?_ ?_ ?_ ?_ ?_ ?_ ?_ ?_ ?_ ?_ ⟨?_, ?_, ?_, ?_, ?_, ?_⟩ fun fr2 m2 f1 f2 g3 g6 g8 g9 ho2 hS2 => ?_)
  · simp [hn]
  · simp [hd]
  · simp [h2]
  · simp
  · simp
  · simp
  · simp
  · simp [hva]
  · simp
  · simp
  · simp
  · exact ((Up.nw _ _).trans ((Up.nw _ _).trans (Up.nw _ _))).wf hw0
  · simp [rec4, nilV]
  · simp
  · intro k _ _
    exact ⟨rfl, .inl ⟨rfl, rfl⟩⟩
  · intro i hi; omega
  · intro i j hi; omega
  have hkb2 : m2.at m.next = some ⟨kL, 1, false, false⟩ := by rw [ho2 _ (by omega)]; simp; intro h; omega
  have hr62 : m2.at (m.next + 1) = some ⟨[Value.slice none 0 0, .slice none 0 0, .slice none 0 0, .slice none 0 0], 1, false, false⟩ := by rw [ho2 _ (by omega)]; simp
  have hold2 : ∀ c, c < m.next → m2.at c = m.at c := fun c hc => by rw [ho2 c (by omega), hold c hc]
  simp [f1, g9]
  refine via (X := qMain (bodyOf Try.f42)) (by kernel_rfl) (drive_loop K n (base := m.next + 2) (kb := m.next) (r6 := m.next + 1) (s8 := m.next + 2) (N := rs.length) (S := startS M) hlen2 ⟨?_, ?_, ?_, ?_, ?_, ?_, ?_, ?_⟩ hkb2 (by omega) ⟨_, hr62, rfl⟩ (by omega) hS2 ⟨rfl, rfl⟩ (fun fr3 m3 k hF ho hS3 hok => ?_) (fun fr3 m3 k kd3 v3 l3 ρ3 rw3 hF ho hL3 hC3 hr g7 hok => ?_))
  · simp [f1]
  · simp [f2]
  · simp [g3]
  · simp [g6]
  · simp [g8]
  · simp [g9]
  · simp
  · simp
  · obtain ⟨f1, f2, f3, f4, f5, f6, f8, f9⟩ := hF
    obtain ⟨kd3, v3, l3, ρ3, rw3, hL3, hC3⟩ := hS3
    have hc3 := hL3.cell
    simp [f1, f4, f5, hc3, rec4, ld79, takeN]
    refine storeQ_rule (y := ⟨[Value.slice none 0 0, .slice none 0 0, .slice none 0 0, .slice none 0 0], 1, false, false⟩) (by simp [ho (m.next + 1) (by omega), hr62]) rfl ?_ (lay_all _ _ rfl) fun m8 n8 _ e8 => ?_
    · simp [oneV_p hL3]
    simp only [Mem.next_rd, Mem.at_rd] at n8 e8
    have hw8 : WF m8 := fun c x hc => by
      rw [n8]
      rw [e8] at hc
      split at hc
      · have := hL3.wf _ _ hc3; omega
      · exact hL3.wf c x hc
    have h8 : m8.at (m.next + 1) = some ⟨[v3 1, v3 2, v3 3, v3 4], 1, false, false⟩ := by rw [e8, if_pos rfl]; rfl
    simp [f1, f2, f4, h8, ld79, takeN]
    have hQ' := hQ (m8.rd (m.next + 1)) kd3 (m.next + 2) v3 l3 ρ3 rw3 (fun c hc => by rw [Mem.at_rd, e8, if_neg (by omega), ho c (by omega), hold2 c hc]) ((hL3.frame hw8 fun c hc => by rw [e8, if_neg (by omega)]).same (Nat.le_refl _) fun _ => rfl) hC3
    rw [show (stepsS rs.length M).2 = true from hok] at hQ'
    exact hQ'
  · obtain ⟨f1, f2, f3, f4, f5, f6, f8, f9⟩ := hF
    simp [f2, f4, hr, g7, rec4, ld79, takeN]
    have hQ' := hQ (m3.rd (m.next + 1)) kd3 (m.next + 2) v3 l3 ρ3 rw3 (fun c hc => by rw [Mem.at_rd, ho c (by omega) (by omega), hold2 c hc]) (hL3.same (Nat.le_refl _) fun _ => rfl) hC3
    rw [show (stepsS rs.length M).2 = false from hok] at hQ'
    exact hQ'
end Go.Proofs.Ytghhanifakllpaa
