/- The document's answer for chapter 14, in the clean executor: Solve. -/
import Derived.Test.YtghhanifakllpaaY9
namespace Go.Proofs.Ytghhanifakllpaa
open Go.Clean

/-- Rows and a right side, as one matrix. -/
def M0F (rs : List (List F)) (bs : List F) : Mx := fun i j => (rat' rs i ++ [bs.getD i fzero]).getD j fzero
theorem M0F_in {rs : List (List F)} {bs : List F} {i j : Nat} (h : j < (rat' rs i).length) : M0F rs bs i j = fat (rat' rs i) j := by
  unfold M0F fat
  rw [List.getD_eq_getElem?_getD, List.getElem?_append_left h, List.getD_eq_getElem?_getD]
  simp [h]
theorem M0F_rhs {rs : List (List F)} {bs : List F} {i : Nat} {n : Nat} (h : (rat' rs i).length = n) : M0F rs bs i n = bs.getD i fzero := by
  unfold M0F
  rw [List.getD_eq_getElem?_getD, List.getElem?_append_right (by omega), h]
  simp
/-- What Solve answers. -/
def solveFF (rs : List (List F)) (bs : List F) : List F × Int :=
  if checkF rs ≠ 0 then ([], checkF rs)
  else if listF bs rs.length ≠ 0 then ([], listF bs rs.length)
  else match solvedF rs.length (M0F rs bs) with
    | none => ([], 141)
    | some x => ((List.range rs.length).map x, 0)
theorem check0 {rs : List (List F)} (h : checkF rs = 0) : 0 < rs.length ∧ rs.length ≤ 128 ∧ ∀ i, i < rs.length → (rat' rs i).length = rs.length := by
  unfold checkF at h
  split at h
  · cases h
  · split at h
    · rename_i h1 h2
      refine ⟨by omega, by omega, fun i hi => ?_⟩
      have := List.all_eq_true.1 h2 _ (rat_mem hi)
      simpa using this
    · cases h
theorem list0 {bs : List F} {n : Nat} (h : listF bs n = 0) : bs.length = n := by
  unfold listF at h
  split at h
  · assumption
  · cases h
theorem Lay.above {m m' : Mem} {kd : Nat → Nat} {base s5 : Nat} {v : Nat → Value} {l : Nat → List Value} {ok : Bool} {n : Nat} {ρ : Nat → Nat} {rw : Nat → List Value} (h : Lay m kd base s5 v l ok n ρ rw) (hw : WF m') (e : ∀ c, c < m.next → m'.at c = m.at c) : Lay m' kd base s5 v l ok n ρ rw :=
  ⟨hw, by rw [e _ (h.wf _ _ h.cell)]; exact h.cell, h.own, fun k h1 h5 => by
    obtain ⟨h0, hg⟩ := h.gl k h1 h5
    refine ⟨h0, ?_⟩
    rcases hg with hg | ⟨hg1, b, hg2, hg3, hg4, hg5⟩
    · exact .inl hg
    · exact .inr ⟨hg1, b, hg2, hg3, hg4, by rw [e b (h.wf _ _ hg5)]; exact hg5⟩, fun i hi => by
    obtain ⟨h1, h2, h3⟩ := h.row i hi
    exact ⟨h1, h2, by rw [e _ (h.wf _ _ h3)]; exact h3⟩, h.inj⟩
theorem wrap_pred (k : Nat) (h : k < 4611686018427387904) : IntKind.i64.wrap ((k : Int) - 1) = (k : Int) - 1 := by
  have e1 : (2 : Int) ^ 64 = 18446744073709551616 := by decide
  have e2 : (2 : Int) ^ 63 = 9223372036854775808 := by decide
  simp only [IntKind.wrap]
  simp [IntKind.bits, IntKind.signed, e1, e2]
  omega
theorem repeat_one (z : Value) : ∀ n, repeatL [z] n = List.replicate n z
  | 0 => rfl
  | n + 1 => by rw [repeatL, repeat_one z n]; rfl
theorem info25b : (match Try.prog.info? 25 with
    | some i => i.size == 1 && i.bytes == 8
    | none => false) = true := by kernel_rfl
theorem info25 : ∃ i, Try.prog.info? 25 = some i ∧ i.size = 1 ∧ i.bytes = 8 := by
  have h := info25b
  split at h
  · rename_i i hi
    simp only [Bool.and_eq_true, beq_iff_eq] at h
    exact ⟨i, hi, h.1, h.2⟩
  · cases h
theorem zero25 : zeroT Try.prog 25 = some (.float .f64 0) := by kernel_rfl
theorem gives_make24 {m : Mem} {Q : Value → Mem → Prop} (n : Nat) (hn : n ≤ 100000) (q : Q (.slice (some ⟨m.next, 0, none⟩) n n) (m.nw ⟨List.replicate n (.float .f64 0), 1, false, false⟩)) : Gives (makeSliceX Try.prog 24 (.int .i64 n) (.int .i64 n)) m Q := by
  obtain ⟨i, h1, h2, h3⟩ := info25
  unfold makeSliceX
  simp only [under24, h1, zero25, h2, h3]
  rw [gives_bind, gives_guard]
  refine ⟨?_, ?_⟩
  · simp [cellsV]
    omega
  · rw [gives_bind, gives_newX]
    have e : repeatL (cellsV (.float .f64 0)) ((n : Int).toNat) = List.replicate n (.float .f64 0) := by rw [Int.toNat_natCast]; exact repeat_one _ n
    rw [e]
    refine ⟨by simp [oneV], (gives_ret _ _ _).2 ?_⟩
    rw [Int.toNat_natCast]
    exact q

variable {known : Known}
/-- A slice whose array lies behind b0. -/
def Beyond (b0 : Nat) (v : Value) : Prop := ∀ a n c, v = .slice (some a) n c → b0 ≤ a.block
theorem Beyond.nil (b0 : Nat) : Beyond b0 (.slice none 0 0) := fun a n c h => by cases h
def boI (m4 : Mem) (s7 N : Nat) (R : Mx) (k : Nat) (fr : Fr) (m' : Mem) : Prop :=
  k ≤ N ∧ fr.n = 95 ∧ fr.d = [] ∧ fr.at 7 = .pointer (some ⟨s7, 0, none⟩) ∧ fr.at 8 = .int .i64 N ∧ fr.at 9 = .slice (some ⟨m4.next, 0, none⟩) N N ∧ fr.at 10 = .int .i64 ((k : Int) - 1) ∧
  (∀ c, c < m4.next → m'.at c = m4.at c) ∧ WF m' ∧ m4.next < m'.next ∧ ∃ xs, m'.at m4.next = some ⟨xs, 1, false, false⟩ ∧ xs.length = N ∧ ∀ j, j < N → xs[j]? = some (.float .f64 (cOf (backU N R k j)))
def biI (m5 : Mem) (xb s7 N : Nat) (R : Mx) (i : Nat) (q : Nat) (fr : Fr) (m' : Mem) : Prop :=
  ∃ j, j + q = N ∧ i < j ∧ fr.n = 95 ∧ fr.d = [] ∧ fr.at 7 = .pointer (some ⟨s7, 0, none⟩) ∧ fr.at 8 = .int .i64 N ∧ fr.at 9 = .slice (some ⟨xb, 0, none⟩) N N ∧ fr.at 10 = .int .i64 (i : Nat) ∧ fr.at 11 = .float .f64 (cOf (backI N R i j)) ∧ fr.at 12 = .int .i64 (j : Nat) ∧ Only m5 m'
def bfI (m5 : Mem) (xb N : Nat) (R : Mx) (q : Nat) (fr : Fr) (m' : Mem) : Prop :=
  ∃ i, i + q = N ∧ fr.n = 95 ∧ fr.d = [] ∧ fr.at 8 = .int .i64 N ∧ fr.at 9 = .slice (some ⟨xb, 0, none⟩) N N ∧ fr.at 13 = .int .i64 (i : Nat) ∧ (∀ k, k < i → ffin (backX N R N k) = true) ∧ Only m5 m'
set_option maxHeartbeats 1000000 in
set_option maxRecDepth 10000 in
theorem doc_solve (K : KN known) (hk : ∀ args, known 17 args = none) (n : Nat) (rs : List (List F)) (va vb : Value) (bs : List F) (m : Mem) (hw0 : WF m) (hv : FM m va rs) (hbv : FL m vb bs) (hlen : ∀ r ∈ rs, r.length ≤ 100000) (hlen2 : rs.length ≤ 100000) (hlb : bs.length ≤ 100000) {Q : Value → Mem → Prop}
    (hQ : ∀ m' v, (∀ c, c < m.next → m'.at c = m.at c) → WF m' → FL m' v (solveFF rs bs).1 → m.next ≤ m'.next ∧ Beyond m.next v → Q (.tuple ⟨[v, .int .i64 (solveFF rs bs).2]⟩) m') :
    Gives (callN Try.prog known (n + 4) 17 [va, vb]) m Q := by
  refine gives_fn (nt := 95) (hk _) Try.func17 rfl rfl rfl (Nat.le_of_ble_eq_true rfl) fun fr hn hd hargs => ?_
  have h0 : fr.at 0 = _ := hargs 0 _ rfl
  have h1 : fr.at 1 = _ := hargs 1 _ rfl
  clear hargs
  simp [h0, hn]
  refine doc_check K n rs va m hv hlen hlen2 fun m1 ho1 => ?_
  have hw1 := ho1.wf hw0
  obtain ⟨aa, ac, rfl, hax⟩ := id hv
  by_cases hc : checkF rs = 0
  · simp [hn, hc, h0, h1]
    refine list_ok K (n + 1) bs vb rs.length m1 (hbv.same ho1.2) hlb fun m2 ho2 => ?_
    have hw2 := ho2.wf hw1
    have ho02 := ho1.trans ho2
    by_cases hl : listF bs rs.length = 0
    · obtain ⟨p1, p2, p3⟩ := check0 hc
      have p4 := list0 hl
      simp [hn, hl, h0, h1]
      refine doc_steps K n rs _ vb bs m2 hw2 (hv.same ho02.2) (hbv.same ho02.2) p3 p1 p2 (M := M0F rs bs) (fun i j hi hj => M0F_in (by rw [p3 i hi]; exact hj)) (fun i hi => by rw [M0F_rhs (p3 i hi), if_pos p4]; simp [fat, List.getD, p4, hi]) fun m3 kd s5 v l ρ rw hold hL hC => ?_
      have hnx3 : m.next ≤ m3.next := by have := hL.own.2; have := hL.wf _ _ hL.cell; have : m2.next = m.next := ho02.1; omega
      simp [hn, oneV, nilV]
      refine storeQ_rule (y := ⟨[nilV, nilV, nilV, nilV, nilV, .bool false], 1, false, false⟩) (by simp [nilV]) rfl (by simp [oneV_v hL]; simp [oneV]) (lay6 _ _ _ _ _ _ _ _ _ _ _ _) fun m4 n4 _ e4 => ?_
      simp only [Mem.next_nw, Mem.at_nw] at n4 e4
      have hw4 : WF m4 := fun c x hc => by
        rw [n4]
        rw [e4] at hc
        split at hc
        · omega
        · have := hL.wf c x hc; omega
      have o4 : ∀ c, c < m3.next → m4.at c = m3.at c := fun c hc => by rw [e4, if_neg (by omega), if_neg (by omega)]
      have hL4 := hL.above hw4 o4
      have hs4 : m4.at m3.next = some ⟨[v 1, v 2, v 3, v 4, v 5, .bool (stepsS rs.length (M0F rs bs)).2], 1, false, false⟩ := by rw [e4, if_pos rfl]
      have hold4 : ∀ c, c < m.next → m4.at c = m.at c := fun c hc => by
        have h2 : m2.next = m.next := ho02.1
        have h3 : m2.next ≤ m3.next := by
          have := hL.own.2
          have := hL.wf _ _ hL.cell
          omega
        rw [o4 c (by omega), hold c (by omega), ho02.2 c]
      clear e4
      cases hok : (stepsS rs.length (M0F rs bs)).2 with
      | false =>
        have hF : solveFF rs bs = ([], 141) := by
          unfold solveFF solvedF
          rw [if_neg (by simp [hc]), if_neg (by simp [hl]), hok]
          rfl
        rw [hF] at hQ
        rw [hok] at hs4
        simp [hn, hd, hs4]
        exact hQ (m4.rd m3.next) _ hold4 (fun c x h => hw4 c x h) ⟨none, 0, rfl, .inl ⟨Loose.nil, rfl, rfl⟩⟩ ⟨by rw [Mem.next_rd]; omega, Beyond.nil _⟩
      | true =>
        rw [hok] at hs4
        have hwp := wrap_pred rs.length (by omega)
        simp [hn, hs4, h0, hwp]
        refine gives_make24 rs.length (by omega) ?_
        simp [hn, hwp]
        obtain ⟨S, hS⟩ : ∃ S, S = (stepsS rs.length (M0F rs bs)).1 := ⟨_, rfl⟩
        obtain ⟨N, hN⟩ : ∃ N, N = rs.length := ⟨_, rfl⟩
        rw [← hS, ← hN] at hC
        rw [hok, ← hN] at hL4
        simp only [← hN]
        have hNpos : 0 < N := by omega
        have hN2 : N ≤ 128 := by omega
        have hs7 : m3.next < m4.next := by omega
        refine code_loop (boI m4 m3.next N S.M) N (by omega) ⟨Nat.le_refl _, by simp [hn], by simp [hd], by simp, by simp, by simp, by simp, fun c hc => ?_, ?_, by simp, List.replicate N (.float .f64 0), by simp, by simp, fun j hj => ?_⟩ ?_
        · simp
          intro h; omega
        · intro c x hc
          simp at hc ⊢
          by_cases h : c = m4.next
          · omega
          · rw [if_neg h] at hc
            have := hw4 c x hc; omega
        · rw [backU_start]
          show _ = some (Value.float .f64 (cOf fzero))
          rw [cOf_zero]
          simp [hj]
        rintro k fr1 m5 ⟨hkN, f1, f2, f7, f8, f9, f10, hold5, hw5, hnx5, xs, hx1, hx2, hx3⟩
        have hL5 := hL4.above hw5 hold5
        have hs5' : m5.at m3.next = some ⟨[v 1, v 2, v 3, v 4, v 5, .bool true], 1, false, false⟩ := by rw [hold5 _ hs7]; exact hs4
        by_cases hk0 : k = 0
        · subst hk0
          simp [f1, f10]
          refine code_loop (bfI m5 m4.next N S.M) N (by omega) ⟨0, by omega, by simp [f1], by simp [f2], by simp [f8], by simp [f9], by simp, fun k hk => absurd hk (by omega), .refl _⟩ ?_
          rintro q fr2 m6 ⟨i, hiq, g1, g2, g8, g9, g13, hfin, ho6⟩
          have hx6 : m6.at m4.next = some ⟨xs, 1, false, false⟩ := by rw [ho6.2]; exact hx1
          have hold6 : ∀ c, c < m.next → m6.at c = m.at c := fun c hc => by
            have h2 : m2.next = m.next := ho02.1
            have h3 := hL.own.2
            have h4 := hL.wf _ _ hL.cell
            rw [ho6.2, hold5 c (by omega), hold4 c hc]
          have hw6 := ho6.wf hw5
          by_cases hi : i < N
          · have hxi := hx3 i hi
            have hwi := wrap_succ i (by omega)
            cases hf : ffin (backU N S.M 0 i) with
            | true =>
              simp [g1, g13, g8, g9, hi, hx6, hxi, idx24 _ _ _ _ _ _ hi, gives_fin K, hf, hwi]
              refine ⟨q - 1, by omega, i + 1, by omega, by simp [g1], by simp [g2], by simp [g8], by simp [g9], by simp, fun k hk => ?_, ho6.trans ⟨rfl, fun _ => rfl⟩⟩
              by_cases h : k = i
              · subst h; rw [← backU_end]; exact hf
              · exact hfin k (by omega)
            | false =>
              have hF : solveFF rs bs = ([], 141) := by
                unfold solveFF solvedF
                rw [if_neg (by simp [hc]), if_neg (by simp [hl]), hok, if_pos rfl, if_neg]
                rw [← hS, ← hN]
                intro h
                have := h i hi
                rw [← backU_end, hf] at this
                cases this
              rw [hF] at hQ
              simp [g1, g2, g13, g8, g9, hi, hx6, hxi, idx24 _ _ _ _ _ _ hi, gives_fin K, hf]
              exact hQ (m6.rd m4.next) _ hold6 (fun c x h => hw6 c x h) ⟨none, 0, rfl, .inl ⟨Loose.nil, rfl, rfl⟩⟩ ⟨by rw [Mem.next_rd, ho6.1]; omega, Beyond.nil _⟩
          · have hF : solveFF rs bs = ((List.range N).map (backX N S.M N), 0) := by
              unfold solveFF solvedF
              rw [if_neg (by simp [hc]), if_neg (by simp [hl]), hok, if_pos rfl, if_pos]
              · rw [← hS, ← hN]
              · rw [← hS, ← hN]
                intro k hk
                exact hfin k (by omega)
            rw [hF] at hQ
            simp [g1, g2, g13, g8, g9, hi]
            refine hQ m6 _ hold6 hw6 ⟨some ⟨m4.next, 0, none⟩, N, by simp, .inr ⟨m4.next, 0, _, rfl, hx6, fun k hk => ?_⟩⟩ ⟨by rw [ho6.1]; omega, fun a n c h => by cases h; show m.next ≤ m4.next; omega⟩
            simp only [List.length_map, List.length_range] at hk
            rw [Nat.zero_add, hx3 k hk, backU_end]
            simp [fat, List.getD, hk]
        · obtain ⟨i, rfl⟩ : ∃ i, k = i + 1 := ⟨k - 1, by omega⟩
          have e10 : ((i + 1 : Nat) : Int) - 1 = (i : Int) := by omega
          rw [e10] at f10
          have hi : i < N := by omega
          have hge : (0 : Int) ≤ (i : Int) := by omega
          obtain ⟨bB, hv2, _, hbb, hbB⟩ := hL5.blk (k := 2) (by omega) (by omega) (by rw [hC.rhs.1]; omega)
          rw [hC.rhs.1] at hv2
          obtain ⟨bA, hv1, _, _, hbA⟩ := hL5.blk (k := 1) (by omega) (by omega) (by rw [hC.hd.1]; omega)
          rw [hC.hd.1] at hv1
          obtain ⟨_, _, hri⟩ := hL5.row i hi
          have ebi := hC.rhs.2 i hi
          have hdi := hC.hd.2 i hi
          have hwi := wrap_succ i (by omega)
          simp [f1, f7, f8, f10, hge, hs5', hv2, lst, hbB, ebi, idx24 _ _ _ _ _ _ hi, hwi]
          refine code_loop (biI m5 m4.next m3.next N S.M i) (N - (i + 1)) (by omega) ⟨i + 1, by omega, by omega, by simp [f1], by simp [f2], by simp [f7], by simp [f8], by simp [f9], by simp [f10], by simp [backI_start], by simp, ⟨rfl, fun _ => rfl⟩⟩ ?_
          rintro q fr2 m6 ⟨j, hjq, hij, g1, g2, g7, g8, g9, g10, g11, g12, ho6⟩
          have hs6 : m6.at m3.next = some ⟨[v 1, v 2, v 3, v 4, v 5, .bool true], 1, false, false⟩ := by rw [ho6.2]; exact hs5'
          have hbA6 : m6.at bA = some ⟨l 1, 1, true, false⟩ := by rw [ho6.2]; exact hbA
          have hri6 : m6.at (ρ i) = some ⟨rw i, 1, true, false⟩ := by rw [ho6.2]; exact hri
          have hx6 : m6.at m4.next = some ⟨xs, 1, false, false⟩ := by rw [ho6.2]; exact hx1
          by_cases hj : j < N
          · have hwj := wrap_succ j (by omega)
            have eij := (hC.row i hi).2 j hj
            have hxj := hx3 j hj
            simp [g1, g8, g12, hj]
            refine code_draw (sil := silF) (K.silent _) (K.parC _) (by kernel_rfl) ?_
            simp [g1, g7, g8, g9, g10, g11, g12, hs6, hv1, lst, hbA6, hdi, hri6, eij, hx6, hxj, idx23 _ _ _ _ _ _ hi, idx24 _ _ _ _ _ _ hj, hwj]
            refine ⟨q - 1, by omega, j + 1, by omega, by omega, by simp [g1], by simp [g2], by simp [g7], by simp [g8], by simp [g9], by simp [g10], ?_, by simp, ho6.trans ⟨rfl, fun _ => rfl⟩⟩
            simp [backI_succ N S.M hij]
            rfl
          · have hjN : N = j := by omega
            subst hjN
            have eii := (hC.row i hi).2 i hi
            simp [g1, g7, g8, g9, g10, g11, g12, hs6, hv1, lst, hbA6, hdi, hri6, eii, idx23 _ _ _ _ _ _ hi, idx24 _ _ _ _ _ _ hi]
            refine storeQ_one (cs := xs) (sz := 1) (gr := false) (by simpa using hx6) (by simp [cellsV, oneV]) rfl (by omega) fun m7 n7 _ e7 => ?_
            simp only [Mem.next_rd, Mem.at_rd] at n7 e7
            have hwp := wrap_pred i (by omega)
            simp [g1, g10, hwp]
            refine ⟨i, by omega, by omega, by simp [g1], by simp [g2], by simp [g7], by simp [g8], by simp [g9], by simp, fun c hc => ?_, fun c x hc => ?_, by rw [n7, ho6.1]; exact hnx5, _, by rw [e7, if_pos rfl], by simp [hx2], fun j hj => ?_⟩
            · rw [e7, if_neg (by omega), ho6.2, hold5 c hc]
            · rw [n7, ho6.1]
              rw [e7] at hc
              split at hc
              · omega
              · rw [ho6.2] at hc; exact hw5 c x hc
            · rw [List.getElem?_set, backU_row N S.M hi]
              by_cases h : i = j
              · subst h; simp [hx2, hi]
              · rw [if_neg h]
                simp only [if_neg (fun hh => h hh.symm : ¬ j = i)]
                exact hx3 j hj
    · have hF : solveFF rs bs = ([], listF bs rs.length) := by unfold solveFF; rw [if_neg (by simp [hc]), if_pos hl]
      rw [hF] at hQ
      simp [hn, hd, hl]
      exact hQ m2 _ (fun c _ => ho02.2 c) hw2 ⟨none, 0, rfl, .inl ⟨Loose.nil, rfl, rfl⟩⟩ ⟨by rw [ho02.1]; exact Nat.le_refl _, Beyond.nil _⟩
  · simp [hn, hd, hc]
    have hF : solveFF rs bs = ([], checkF rs) := by unfold solveFF; rw [if_pos hc]
    rw [hF] at hQ
    exact hQ m1 _ (fun c _ => ho1.2 c) hw1 ⟨none, 0, rfl, .inl ⟨Loose.nil, rfl, rfl⟩⟩ ⟨by rw [ho1.1]; exact Nat.le_refl _, Beyond.nil _⟩
end Go.Proofs.Ytghhanifakllpaa
