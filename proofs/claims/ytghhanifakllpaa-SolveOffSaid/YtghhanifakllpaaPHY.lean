/- The program's Solve, in the clean executor. -/
import Derived.Test.YtghhanifakllpaaPFY
import Derived.Test.YtghhanifakllpaaZYY
set_option linter.unusedSimpArgs false
set_option linter.unusedVariables false
namespace Go.Proofs.Ytghhanifakllpaa
open Go.Clean

variable {known : Known}
/-- A list of one's own, made behind b0. -/
def OwnF (m : Mem) (b0 : Nat) (v : Value) (xs : List F) : Prop := (xs = [] ∧ v = nilV) ∨ ∃ b, 0 < xs.length ∧ v = lst b xs.length ∧ b0 ≤ b ∧ m.at b = some ⟨xs.map fv, 1, false, false⟩
theorem OwnF.fl {m : Mem} {b0 : Nat} {v : Value} {xs : List F} (h : OwnF m b0 v xs) : FL m v xs := by
  rcases h with ⟨rfl, rfl⟩ | ⟨b, h0, rfl, h1, h2⟩
  · exact FL.nil _
  · exact ⟨_, _, rfl, .inr ⟨b, 0, _, rfl, h2, fun i hi => by rw [Nat.zero_add]; exact fat_map _ hi⟩⟩
theorem OwnF.up {m m' : Mem} {b0 : Nat} {v : Value} {xs : List F} (h : OwnF m b0 v xs) (hw : WF m) (u : Up m m') : OwnF m' b0 v xs := by
  rcases h with h | ⟨b, h0, h1, h2, h3⟩
  · exact .inl h
  · exact .inr ⟨b, h0, h1, h2, u.at h3 hw⟩
theorem list_of {N : Nat} {cs : List Value} {g : Nat → F} (h1 : cs.length = N) (h2 : ∀ j, j < N → cs[j]? = some (.float .f64 (cOf (g j)))) : cs = ((List.range N).map g).map fv := by
  refine List.ext_getElem? fun j => ?_
  by_cases hj : j < N
  · rw [h2 j hj]; simp [hj, fv]
  · rw [List.getElem?_eq_none (by omega), List.getElem?_eq_none (by simp; omega)]

def wayI (m4 : Mem) (kb s10 N : Nat) (R : Mx) (k : Nat) (fr : Fr) (m' : Mem) : Prop :=
  k ≤ N ∧ fr.n = 111 ∧ fr.d = [] ∧ fr.at 3 = .pointer (some ⟨kb, 0, none⟩) ∧ fr.at 10 = .pointer (some ⟨s10, 0, none⟩) ∧ fr.at 12 = .int .i64 N ∧ fr.at 13 = .slice (some ⟨m4.next, 0, none⟩) N N ∧ fr.at 14 = .int .i64 ((k : Int) - 1) ∧
  (∀ c, c < m4.next → m'.at c = m4.at c) ∧ WF m' ∧ m4.next < m'.next ∧ ∃ xs, m'.at m4.next = some ⟨xs, 1, false, false⟩ ∧ xs.length = N ∧ ∀ j, j < N → xs[j]? = some (.float .f64 (cOf (backU N R k j)))
def wayJ (m5 : Mem) (kb xb s10 N : Nat) (R : Mx) (i : Nat) (q : Nat) (fr : Fr) (m' : Mem) : Prop :=
  ∃ j, j + q = N ∧ i < j ∧ fr.n = 111 ∧ fr.d = [] ∧ fr.at 3 = .pointer (some ⟨kb, 0, none⟩) ∧ fr.at 10 = .pointer (some ⟨s10, 0, none⟩) ∧ fr.at 12 = .int .i64 N ∧ fr.at 13 = .slice (some ⟨xb, 0, none⟩) N N ∧ fr.at 14 = .int .i64 (i : Nat) ∧ fr.at 15 = .float .f64 (cOf (backI N R i j)) ∧ fr.at 16 = .int .i64 (j : Nat) ∧ Only m5 m'
def wayF (m5 : Mem) (kb xb N : Nat) (R : Mx) (q : Nat) (fr : Fr) (m' : Mem) : Prop :=
  ∃ i, i + q = N ∧ fr.n = 111 ∧ fr.d = [] ∧ fr.at 3 = .pointer (some ⟨kb, 0, none⟩) ∧ fr.at 13 = .slice (some ⟨xb, 0, none⟩) N N ∧ fr.at 98 = .slice (some ⟨xb, 0, none⟩) N N ∧ fr.at 99 = .int .i64 N ∧ fr.at 100 = .int .i64 (i : Nat) ∧ (∀ k, k < i → ffin (backX N R N k) = true) ∧ Only m5 m'
set_option maxHeartbeats 1000000 in
set_option maxRecDepth 10000 in
theorem solved_ok (K : KP known) (n : Nat) (rs : List (List F)) (va vb : Value) (bs : List F) (m : Mem) (hw0 : WF m) (hv : FM m va rs) (hbv : FL m vb bs) (hlen : ∀ r ∈ rs, r.length ≤ 100000) (hlen2 : rs.length ≤ 100000) (hlb : bs.length ≤ 100000) {Q : Value → Mem → Prop}
    (hQ : ∀ m' v, Up m m' → OwnF m' m.next v (solveFF rs bs).1 → Q (.tuple ⟨[v, .int .i64 (solveFF rs bs).2]⟩) m') :
    Gives (callN Try.prog known (n + 4) 39 [kA, va, vb]) m Q := by
  refine gives_fn (nt := 111) (K.non _ rfl _) Try.func39 rfl rfl rfl (Nat.le_of_ble_eq_true rfl) fun fr hn hd hargs => ?_
  have h0 : fr.at 0 = _ := hargs 0 _ rfl
  have h1 : fr.at 1 = _ := hargs 1 _ rfl
  have h2 : fr.at 2 = _ := hargs 2 _ rfl
  clear hargs
  simp [h0, h1, hn, kA, ld74, kL, takeN]
  refine check_ok K n rs va _ ((Up.trans (Up.nw _ _) (Up.rd _ _)).wf hw0) ?_ hlen hlen2 fun m1 hu1 => ?_
  · refine hv.old hw0 fun c hc => ?_
    simp
    intro h; omega
  have hkb1 : m1.at m.next = some ⟨kL, 1, false, false⟩ := by rw [hu1.old _ (by simp)]; simp [kL]
  have hup1 : Up m m1 := (Up.trans (Up.nw _ _) (Up.rd _ _)).trans hu1
  have hn1 : m.next < m1.next := by
    have := hu1.next
    simp at this; omega
  clear hu1
  have hw1 := hup1.wf hw0
  obtain ⟨aa, ac, rfl, hax⟩ := id hv
  by_cases hc : checkF rs = 0
  · simp [hn, hc, h1, h2, hkb1, ld74, kL, takeN]
    refine beside_ok K (n + 1) bs vb rs.length _ ((Up.rd _ _).wf hw1) ((hbv.up hw0 hup1).same fun c => by simp) hlb fun m2 hu2' => ?_
    have hu2 : Up m1 m2 := (Up.rd _ _).trans hu2'
    have hw2 := hu2.wf hw1
    have hup2 := hup1.trans hu2
    have hkb2 := hu2.at hkb1 hw1
    have hn2 : m.next < m2.next := by have := hu2.next; omega
    clear hu2'
    by_cases hl : listF bs rs.length = 0
    · obtain ⟨p1, p2, p3⟩ := check0 hc
      have p4 := list0 hl
      simp [hn, hl, h1, h2, hkb2, ld74, kL, takeN]
      refine steps_ok K (n + 1) rs _ vb bs _ ((Up.rd _ _).wf hw2) ((hv.up hw0 hup2).same fun c => by simp) (.inr ⟨(hbv.up hw0 hup2).same fun c => by simp, p4⟩) p3 p1 p2 (M := M0F rs bs) (fun i j hi hj => M0F_in (by rw [p3 i hi]; exact hj)) (fun i hi => by rw [M0F_rhs (p3 i hi), if_pos p4]; simp [fat, List.getD, p4, hi]) fun m3 kd s8 v l ρ rw hold hL hC => ?_
      simp only [Mem.next_rd, Mem.at_rd] at hold hL
      have hs8' := hL.own.2
      have hs8'' := hL.wf _ _ hL.cell
      simp [hn, oneV, nilV]
      refine storeQ_rule (y := ⟨[nilV, nilV, nilV, nilV], 1, false, false⟩) (by simp [nilV]) rfl (by simp [oneV_p hL]) (lay4 _ _ _ _ _ _ _ _) fun m4 n4 _ e4 => ?_
      simp only [Mem.next_nw, Mem.at_nw] at n4 e4
      have hw4 : WF m4 := fun c x hc => by
        rw [n4]
        rw [e4] at hc
        by_cases h : c = m3.next
        · omega
        · rw [if_neg h, if_neg h] at hc
          have := hL.wf c x hc; omega
      have o4 : ∀ c, c < m3.next → m4.at c = m3.at c := fun c hc => by rw [e4, if_neg (by omega), if_neg (by omega)]
      have hL4 := hL.above hw4 o4
      have hs4 : m4.at m3.next = some ⟨[v 1, v 2, v 3, v 4], 1, false, false⟩ := by rw [e4, if_pos rfl]
      have hold4' : ∀ c, c < m2.next → m4.at c = m2.at c := fun c hc => by rw [o4 c (by omega), hold c hc]
      have hup4 : Up m m4 := hup2.trans ⟨by omega, hold4', fun _ => hw4⟩
      have hkb4 : m4.at m.next = some ⟨kL, 1, false, false⟩ := by rw [hold4' _ hn2]; exact hkb2
      have hn4 : m.next < m4.next := by omega
      clear e4
      cases hok : (stepsS rs.length (M0F rs bs)).2 with
      | false =>
        have hF : solveFF rs bs = ([], 141) := by
          unfold solveFF solvedF
          rw [if_neg (by simp [hc]), if_neg (by simp [hl]), hok]
          rfl
        rw [hF] at hQ
        simp [hn, hd]
        exact hQ m4 _ hup4 (.inl ⟨rfl, rfl⟩)
      | true =>
        have hwp := wrap_pred rs.length (by omega)
        simp [hn, h1, hwp]
        refine gives_make24 rs.length (by omega) ?_
        simp [hn, hwp]
        obtain ⟨S, hS⟩ : ∃ S, S = (stepsS rs.length (M0F rs bs)).1 := ⟨_, rfl⟩
        obtain ⟨N, hN⟩ : ∃ N, N = rs.length := ⟨_, rfl⟩
        rw [← hS, ← hN] at hC
        rw [← hN] at hL4
        simp only [← hN]
        have hNpos : 0 < N := by omega
        have hN2 : N ≤ 128 := by omega
        have hs7 : m3.next < m4.next := by omega
        refine code_loop (wayI m4 m.next m3.next N S.M) N (by omega) ⟨Nat.le_refl _, by simp [hn], by simp [hd], by simp, by simp, by simp, by simp, by simp, fun c hc => ?_, ?_, by simp, List.replicate N (.float .f64 0), by simp, by simp, fun j hj => ?_⟩ ?_
        · simp
          intro h; omega
        · exact (Up.nw _ _).wf hw4
        · rw [backU_start]
          show _ = some (Value.float .f64 (cOf fzero))
          rw [cOf_zero]
          simp [hj]
        rintro k fr1 m5 ⟨hkN, f1, f2, f3, f7, f8, f9, f10, hold5, hw5, hnx5, xs, hx1, hx2, hx3⟩
        have hL5 := hL4.above hw5 hold5
        have hs5' : m5.at m3.next = some ⟨[v 1, v 2, v 3, v 4], 1, false, false⟩ := by rw [hold5 _ hs7]; exact hs4
        have hkb5 : m5.at m.next = some ⟨kL, 1, false, false⟩ := by rw [hold5 _ hn4]; exact hkb4
        have hup5 : Up m m5 := hup4.trans ⟨by omega, hold5, fun _ => hw5⟩
        by_cases hk0 : k = 0
        · subst hk0
          simp [f1, f9, f10]
          refine code_loop (wayF m5 m.next m4.next N S.M) N (by omega) ⟨0, by omega, by simp [f1], by simp [f2], by simp [f3], by simp [f9], by simp, by simp, by simp, fun k hk => absurd hk (by omega), .refl _⟩ ?_
          rintro q fr2 m6 ⟨i, hiq, g1, g2, g3, g13, g98, g99, g100, hfin, ho6⟩
          have hx6 : m6.at m4.next = some ⟨xs, 1, false, false⟩ := by rw [ho6.2]; exact hx1
          have hkb6 : m6.at m.next = some ⟨kL, 1, false, false⟩ := by rw [ho6.2]; exact hkb5
          have hup6 : Up m m6 := hup5.trans (Up.only ho6)
          by_cases hi : i < N
          · have hxi := hx3 i hi
            have hwi := wrap_succ i (by omega)
            cases hf : ffin (backU N S.M 0 i) with
            | true =>
              simp [g1, g3, g13, g98, g99, g100, hi, hx6, hxi, hkb6, kL, idx24 _ _ _ _ _ _ hi, gives_fin2 K, hf, hwi]
              refine ⟨q - 1, by omega, i + 1, by omega, by simp [g1], by simp [g2], by simp [g3], by simp [g13], by simp [g98], by simp [g99], by simp, fun k hk => ?_, ho6.trans ⟨rfl, fun _ => rfl⟩⟩
              by_cases h : k = i
              · subst h; rw [← backU_end]; exact hf
              · exact hfin k (by omega)
            | false =>
              have hF : solveFF rs bs = ([], 141) := by
                unfold solveFF solvedF
                rw [if_neg (by simp [hc]), if_neg (by simp [hl]), hok, if_pos rfl, if_neg]
                rw [← hS, ← hN]
                intro h
                have := h i hi
                rw [← backU_end, hf] at this
                cases this
              rw [hF] at hQ
              simp [g1, g2, g3, g13, g98, g99, g100, hi, hx6, hxi, hkb6, kL, idx24 _ _ _ _ _ _ hi, gives_fin2 K, hf]
              exact hQ _ _ (hup6.trans (Up.only ⟨rfl, fun _ => rfl⟩)) (.inl ⟨rfl, rfl⟩)
          · have hF : solveFF rs bs = ((List.range N).map (backX N S.M N), 0) := by
              unfold solveFF solvedF
              rw [if_neg (by simp [hc]), if_neg (by simp [hl]), hok, if_pos rfl, if_pos]
              · rw [← hS, ← hN]
              · rw [← hS, ← hN]
                intro k hk
                exact hfin k (by omega)
            rw [hF] at hQ
            simp [g1, g2, g13, g98, g99, g100, hi]
            refine hQ m6 _ hup6 (.inr ⟨m4.next, by simpa using hNpos, by simp [lst], by omega, ?_⟩)
            rw [hx6, list_of (g := backX N S.M N) hx2 fun j hj => by rw [hx3 j hj, backU_end]]
        · obtain ⟨i, rfl⟩ : ∃ i, k = i + 1 := ⟨k - 1, by omega⟩
          have e10 : ((i + 1 : Nat) : Int) - 1 = (i : Int) := by omega
          rw [e10] at f10
          have hi : i < N := by omega
          have hge : (0 : Int) ≤ (i : Int) := by omega
          obtain ⟨bA, hv1, _, _, hbA⟩ := hL5.blk (k := 1) (by omega) (by omega) (by rw [hC.hd.1]; omega)
          rw [hC.hd.1] at hv1
          obtain ⟨_, _, hri⟩ := hL5.row i hi
          have ebi := (hC.row i hi).2 N (Nat.le_refl _)
          have hdi := hC.hd.2 i hi
          have hwi := wrap_succ i (by omega)
          simp [f1, f7, f8, f10, hge, hs5', hv1, lst, hbA, hdi, hri, ebi, idx23 _ _ _ _ _ _ hi, idx24 _ _ _ _ _ _ (show N < N + 1 by omega), hwi]
          refine code_loop (wayJ m5 m.next m4.next m3.next N S.M i) (N - (i + 1)) (by omega) ⟨i + 1, by omega, by omega, by simp [f1], by simp [f2], by simp [f3], by simp [f7], by simp [f8], by simp [f9], by simp [f10], by simp [backI_start], by simp, ⟨rfl, fun _ => rfl⟩⟩ ?_
          rintro q fr2 m6 ⟨j, hjq, hij, g1, g2, g3, g7, g8, g9, g10, g11, g12, ho6⟩
          have hs6 : m6.at m3.next = some ⟨[v 1, v 2, v 3, v 4], 1, false, false⟩ := by rw [ho6.2]; exact hs5'
          have hbA6 : m6.at bA = some ⟨l 1, 1, true, false⟩ := by rw [ho6.2]; exact hbA
          have hri6 : m6.at (ρ i) = some ⟨rw i, 1, false, false⟩ := by rw [ho6.2]; exact hri
          have hx6 : m6.at m4.next = some ⟨xs, 1, false, false⟩ := by rw [ho6.2]; exact hx1
          have hkb6 : m6.at m.next = some ⟨kL, 1, false, false⟩ := by rw [ho6.2]; exact hkb5
          by_cases hj : j < N
          · have hwj := wrap_succ j (by omega)
            have eij := (hC.row i hi).2 j (by omega)
            have hxj := hx3 j hj
            simp [g1, g8, g12, hj]
            refine code_draw (sil := silF) (K.kn.silent _) (K.kn.parC _) (by kernel_rfl) ?_
            simp [g1, g3, g7, g8, g9, g10, g11, g12, hs6, hv1, lst, hbA6, hdi, hri6, eij, hx6, hxj, hkb6, kL, idx23 _ _ _ _ _ _ hi, idx24 _ _ _ _ _ _ hj, idx24 _ _ _ _ _ _ (show j < N + 1 by omega), hwj, gives_less K]
            refine ⟨q - 1, by omega, j + 1, by omega, by omega, by simp [g1], by simp [g2], by simp [g3], by simp [g7], by simp [g8], by simp [g9], by simp [g10], ?_, by simp, ho6.trans ⟨rfl, fun _ => rfl⟩⟩
            simp [backI_succ N S.M hij]
          · have hjN : N = j := by omega
            subst hjN
            have eii := (hC.row i hi).2 i (by omega)
            simp [g1, g8, g12]
            refine code_draw (sil := silF) (K.kn.silent _) (K.kn.parC _) (by kernel_rfl) ?_
            simp [g1, g3, g7, g8, g9, g10, g11, g12, hs6, hv1, lst, hbA6, hdi, hri6, eii, hkb6, kL, idx23 _ _ _ _ _ _ hi, idx24 _ _ _ _ _ _ hi, idx24 _ _ _ _ _ _ (show i < N + 1 by omega), gives_over K]
            refine storeQ_one (cs := xs) (sz := 1) (gr := false) (by simpa using hx6) (by simp [cellsV, oneV]) rfl (by omega) fun m7 n7 _ e7 => ?_
            simp only [Mem.next_rd, Mem.at_rd] at n7 e7
            have hwp := wrap_pred i (by omega)
            simp [g1, g10, hwp]
            refine ⟨i, by omega, by omega, by simp [g1], by simp [g2], by simp [g3], by simp [g7], by simp [g8], by simp [g9], by simp, fun c hc => ?_, fun c x hc => ?_, by rw [n7, ho6.1]; exact hnx5, _, by rw [e7, if_pos rfl], by simp [hx2], fun j hj => ?_⟩
            · rw [e7, if_neg (by omega), ho6.2, hold5 c hc]
            · rw [n7, ho6.1]
              rw [e7] at hc
              split at hc
              · omega
              · rw [ho6.2] at hc; exact hw5 c x hc
            · rw [List.getElem?_set, backU_row N S.M hi]
              by_cases h : i = j
              · subst h; simp [hx2, hi]
              · rw [if_neg h]
                simp only [if_neg (fun hh => h hh.symm : ¬ j = i)]
                exact hx3 j hj
    · have hF : solveFF rs bs = ([], listF bs rs.length) := by unfold solveFF; rw [if_neg (by simp [hc]), if_pos hl]
      rw [hF] at hQ
      simp [hn, hd, hl]
      exact hQ m2 _ hup2 (.inl ⟨rfl, rfl⟩)
  · simp [hn, hd, hc]
    have hF : solveFF rs bs = ([], checkF rs) := by unfold solveFF; rw [if_pos hc]
    rw [hF] at hQ
    exact hQ m1 _ hup1 (.inl ⟨rfl, rfl⟩)
end Go.Proofs.Ytghhanifakllpaa

/- The program's Solve, Pivots, Det, in the clean executor. -/
namespace Go.Proofs.Ytghhanifakllpaa
open Go.Clean

variable {known : Known}
set_option maxRecDepth 10000 in
theorem solve_ok (K : KP known) (n : Nat) (rs : List (List F)) (va vb : Value) (bs : List F) (m : Mem) (hw0 : WF m) (hv : FM m va rs) (hbv : FL m vb bs) (hlen : ∀ r ∈ rs, r.length ≤ 100000) (hlen2 : rs.length ≤ 100000) (hlb : bs.length ≤ 100000) {Q : Value → Mem → Prop}
    (hQ : ∀ m' v, Up m m' → OwnF m' m.next v (solveFF rs bs).1 → Q (.tuple ⟨[v, .int .i64 (solveFF rs bs).2]⟩) m') :
    Gives (callN Try.prog known (n + 5) 8 [va, vb]) m Q := by
  refine gives_fn (nt := 12) (K.non _ rfl _) Try.func8 rfl rfl rfl (Nat.le_of_ble_eq_true rfl) fun fr hn hd hargs => ?_
  have h0 : fr.at 0 = _ := hargs 0 _ rfl
  have h1 : fr.at 1 = _ := hargs 1 _ rfl
  clear hargs
  simp [hn]
  refine floats_ok K (n + 3) m fun m1 hu1 => ?_
  simp [h0, h1, hn]
  refine solved_ok K n rs va vb bs m1 (hu1.wf hw0) (hv.up hw0 hu1) (hbv.up hw0 hu1) hlen hlen2 hlb fun m2 v hu2 hown => ?_
  simp [hn, hd, extractX]
  refine hQ m2 v (hu1.trans hu2) ?_
  rcases hown with h | ⟨b, h0, h1, h2, h3⟩
  · exact .inl h
  · exact .inr ⟨b, h0, h1, by have := hu1.next; omega, h3⟩

/-- A list of whole numbers of one's own, made behind b0; its block may grow. -/
def OwnI (m : Mem) (b0 : Nat) (v : Value) (xs : List Nat) : Prop := (xs = [] ∧ v = nilV) ∨ ∃ b, 0 < xs.length ∧ v = lst b xs.length ∧ b0 ≤ b ∧ m.at b = some ⟨xs.map fun (k : Nat) => Value.int .i64 k, 1, true, false⟩
theorem OwnI.up {m m' : Mem} {b0 : Nat} {v : Value} {xs : List Nat} (h : OwnI m b0 v xs) (hw : WF m) (u : Up m m') : OwnI m' b0 v xs := by
  rcases h with h | ⟨b, h0, h1, h2, h3⟩
  · exact .inl h
  · exact .inr ⟨b, h0, h1, h2, u.at h3 hw⟩
/-! ### Det -/
def dutI (m4 : Mem) (s7 : Nat) (pv : Value) (ps : List F) (os : List Bool) (q : Nat) (fr : Fr) (m' : Mem) : Prop :=
  ∃ i d, i + q = ps.length ∧ fr.n = 51 ∧ fr.d = [] ∧ fr.at 5 = .pointer (some ⟨s7, 0, none⟩) ∧ fr.at 6 = .bool true ∧ fr.at 7 = .float .f64 (cOf d) ∧ fr.at 23 = pv ∧ fr.at 24 = .int .i64 ps.length ∧ fr.at 25 = .int .i64 (i : Nat) ∧ Only m4 m' ∧ detGo ps os fone = detGo (ps.drop i) (os.drop i) d
def dutI' (m4 : Mem) (s7 : Nat) (ok : Bool) (pv : Value) (ps : List F) (os : List Bool) (q : Nat) (fr : Fr) (m' : Mem) : Prop :=
  ∃ i d, i + q = ps.length ∧ fr.n = 51 ∧ fr.d = [] ∧ fr.at 5 = .pointer (some ⟨s7, 0, none⟩) ∧ fr.at 6 = .bool ok ∧ fr.at 7 = .float .f64 (cOf d) ∧ fr.at 23 = pv ∧ fr.at 24 = .int .i64 ps.length ∧ fr.at 25 = .int .i64 (i : Nat) ∧ Only m4 m' ∧ detGo ps os fone = detGo (ps.drop i) (os.drop i) d
end Go.Proofs.Ytghhanifakllpaa

/- Plain: which floats are finite, the document's way and the program's. No program in sight. -/
namespace Go.Proofs.Ytghhanifakllpaa
open Go.Clean Ieee

theorem cmp_le {a b : Int} (h : a ≤ b) : (compare a b == Ordering.gt) = false := by
  show (compareOfLessAndEq a b == Ordering.gt) = false
  unfold compareOfLessAndEq
  by_cases h1 : a < b
  · rw [if_pos h1]; rfl
  · rw [if_neg h1, if_pos (by omega)]; rfl
theorem cmp_ge {a b : Int} (h : b ≤ a) : (compare a b == Ordering.lt) = false := by
  show (compareOfLessAndEq a b == Ordering.lt) = false
  unfold compareOfLessAndEq
  rw [if_neg (by omega)]
  by_cases h1 : a = b
  · rw [if_pos h1]; rfl
  · rw [if_neg h1]; rfl
/-- A word that is no NaN stands for an infinity or for a number of 53 digits at the most. -/
theorem read_kind (b : Nat) : (double.read b).isNaN = true ∨ (∃ s, double.read b = .infinity s) ∨ ∃ s m p, double.read b = .number s m p ∧ m < 9007199254740992 ∧ -1074 ≤ p ∧ p ≤ 971 := by
  have h1 : double.signWeight = 9223372036854775808 := by decide
  have h2 : double.infRung = 9218868437227405312 := by decide
  have h3 : double.binade = 4503599627370496 := by decide
  have h4 : double.leastPlace = -1074 := by decide
  unfold Format.read
  simp only [h1, h2, h3, h4]
  split
  · exact .inr (.inr ⟨_, _, _, rfl, by omega, by omega, by omega⟩)
  · split
    · exact .inr (.inr ⟨_, _, _, rfl, by omega, by omega, by omega⟩)
    · split
      · exact .inr (.inl ⟨_, rfl⟩)
      · exact .inl rfl
theorem read_abs (b : Nat) : double.read (b % 9223372036854775808) = match double.read b with
    | .number _ m p => .number false m p
    | .infinity _ => .infinity false
    | .nan _ t => .nan false t := by
  have h1 : double.signWeight = 9223372036854775808 := by decide
  unfold Format.read
  simp only [h1, Nat.mod_mod]
  have hs : (b % 9223372036854775808 / 9223372036854775808 % 2 == 1) = false := by
    have : b % 9223372036854775808 / 9223372036854775808 = 0 := Nat.div_eq_of_lt (Nat.mod_lt _ (by decide))
    rw [this]; rfl
  rw [hs]
  split
  · rfl
  · split
    · rfl
    · split <;> rfl
theorem read_big : double.read 9218868437227405311 = .number false 9007199254740991 971 := by decide
theorem read_low : double.read 18442240474082181119 = .number true 9007199254740991 971 := by decide
theorem signed_abs (s : Bool) (m k : Nat) : -((m <<< k : Nat) : Int) ≤ signed s m k ∧ signed s m k ≤ ((m <<< k : Nat) : Int) := by
  unfold signed
  generalize m <<< k = z
  cases s
  · simp only [Bool.false_eq_true, if_false]; omega
  · simp only [if_true]; omega
theorem big_up (m : Nat) (p : Int) (hm : m < 9007199254740992) (hp : p ≤ 971) : ((m <<< (p - min p 971).toNat : Nat) : Int) ≤ ((9007199254740991 <<< (971 - min p 971).toNat : Nat) : Int) := by
  have e : min p 971 = p := by omega
  rw [e, Int.sub_self]
  have h : m <<< (0 : Int).toNat = m := by simp
  rw [h]
  have : 9007199254740991 ≤ 9007199254740991 <<< (971 - p).toNat := by
    rw [Nat.shiftLeft_eq]
    exact Nat.le_mul_of_pos_right _ (Nat.two_pow_pos _)
  omega
/-- The document's way: neither nothing nor endless. -/
theorem fin_doc (b : Nat) (hb : isNo b = false) : ffin (some b) = !(double.order b 9218868437227405311 == some .gt || double.order b 18442240474082181119 == some .lt) := by
  have e : ffin (some b) = (double.order (b % 9223372036854775808) 9218868437227405311 == some .lt || double.order (b % 9223372036854775808) 9218868437227405311 == some .eq) := rfl
  rw [e]
  unfold Format.order
  rw [read_abs, read_big, read_low]
  rcases read_kind b with h | ⟨s, h⟩ | ⟨s, m, p, h, hm, hp1, hp2⟩
  · exact absurd hb (by rw [show isNo b = true from h]; simp)
  · rw [h]; cases s <;> rfl
  · rw [h]
    have hb := big_up m p hm hp2
    obtain ⟨h3, h4⟩ := signed_abs s m (p - min p 971).toNat
    have h5 : signed false m (p - min p 971).toNat = ((m <<< (p - min p 971).toNat : Nat) : Int) := rfl
    have h6 : signed false 9007199254740991 (971 - min p 971).toNat = ((9007199254740991 <<< (971 - min p 971).toNat : Nat) : Int) := rfl
    have h7 : signed true 9007199254740991 (971 - min p 971).toNat = -((9007199254740991 <<< (971 - min p 971).toNat : Nat) : Int) := rfl
    show (some (compare (signed false m (p - min p 971).toNat) (signed false 9007199254740991 (971 - min p 971).toNat)) == some .lt || some (compare (signed false m (p - min p 971).toNat) (signed false 9007199254740991 (971 - min p 971).toNat)) == some .eq) = !(some (compare (signed s m (p - min p 971).toNat) (signed false 9007199254740991 (971 - min p 971).toNat)) == some .gt || some (compare (signed s m (p - min p 971).toNat) (signed true 9007199254740991 (971 - min p 971).toNat)) == some .lt)
    have g1 := cmp_le (a := signed s m (p - min p 971).toNat) (b := signed false 9007199254740991 (971 - min p 971).toNat) (by rw [h6]; omega)
    have g2 := cmp_ge (a := signed s m (p - min p 971).toNat) (b := signed true 9007199254740991 (971 - min p 971).toNat) (by rw [h7]; omega)
    have g3 := cmp_le (a := signed false m (p - min p 971).toNat) (b := signed false 9007199254740991 (971 - min p 971).toNat) (by rw [h5, h6]; exact hb)
    generalize compare (signed s m (p - min p 971).toNat) (signed false 9007199254740991 (971 - min p 971).toNat) = c1 at g1 ⊢
    generalize compare (signed s m (p - min p 971).toNat) (signed true 9007199254740991 (971 - min p 971).toNat) = c2 at g2 ⊢
    generalize compare (signed false m (p - min p 971).toNat) (signed false 9007199254740991 (971 - min p 971).toNat) = c3 at g3 ⊢
    cases c1 <;> cases c2 <;> cases c3 <;> first | rfl | (cases g1; done) | (cases g2; done) | (cases g3; done)
theorem ffin_no {b : Nat} (hb : isNo b = true) : ffin (some b) = false := by
  show (double.order (b % 9223372036854775808) 9218868437227405311 == some .lt || double.order (b % 9223372036854775808) 9218868437227405311 == some .eq) = false
  unfold Format.order
  rw [order_nan_left (x := double.read (b % 9223372036854775808)) (show isNo (b % 9223372036854775808) = true by rw [isNo_mod]; exact hb)]
  rfl
theorem ffin_clr (x : F) : ffin (clr x) = ffin x := by
  cases x with
  | none => rw [clr_none]
  | some b =>
    rw [clr_some]
    cases hb : isNo b with
    | true => rw [fl_no hb, ffin_no hb]; rfl
    | false => rw [fl_yes hb]
theorem clr_clr (x : F) : clr (clr x) = clr x := by unfold clr; rw [show fl (cOf x) = clr x from rfl, cOf_clr]; rfl
theorem fdiv_clr (x y : F) : fdiv (clr x) (clr y) = fdiv x y := f2_clr (fun a b h => by simp [Format.div, quotient_nan_left (show (double.read a).isNaN = true from h)]) (fun a b h => by simp [Format.div, quotient_nan_right (show (double.read b).isNaN = true from h)]) x y
theorem fmul_clr (x y : F) : fmul (clr x) (clr y) = fmul x y := f2_clr (fun a b h => by simp [Format.mul, product_nan_left (show (double.read a).isNaN = true from h)]) (fun a b h => by simp [Format.mul, product_nan_right (show (double.read b).isNaN = true from h)]) x y
theorem fsub_clr (x y : F) : fsub (clr x) (clr y) = fsub x y := f2_clr (fun a b h => by simp [Format.sub, sum_nan_left (show (double.read a).isNaN = true from h)]) (fun a b h => by simp [Format.sub, sum_nan_right (show (double.read b).opposite.isNaN = true from opposite_nan.trans h)]) x y
theorem fless_clr (x y z : F) : fless (clr x) (clr y) (clr z) = fless x y z := by
  unfold fless
  rw [fmul_clr, ← fsub_clr (clr x) (fmul y z), clr_clr, fsub_clr]
theorem canon_cOf (x : F) : canon (cOf x) = cOf x := by
  rw [← cOf_fl]
  exact cOf_clr x
theorem canon_abs (x : F) : canon (cOf x % 9223372036854775808) = cOf (fabs x) := by
  cases x with
  | none => decide
  | some b =>
    show canon (canon b % 9223372036854775808) = canon (b % 9223372036854775808)
    cases hb : isNo b with
    | true =>
      rw [canon_no hb, canon_no (show isNo (b % 9223372036854775808) = true by rw [isNo_mod]; exact hb)]
      decide
    | false => rw [canon_yes hb]
end Go.Proofs.Ytghhanifakllpaa
