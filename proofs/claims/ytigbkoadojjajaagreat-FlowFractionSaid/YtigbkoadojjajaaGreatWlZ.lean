/- Flows in the clean executor: times. -/
import Derived.Test.YtigbkoadojjajaaGreatWjZ
import Derived.Test.YtigbkoadojjajaaGreatW4Z
set_option linter.unusedSimpArgs false
set_option linter.unusedVariables false
namespace Go.Proofs.YtigbkoadojjajaaGreat
open Go.Clean
def zf (l : List (C × G)) (i : Nat) : G := (l[i]?.map (·.2)).getD g0
theorem OW.zl {n0 : Nat} {m : Mem} {v : Value} {l : List (C × G)} (h : OW n0 m v (l.map (·.1))) (hl : ∀ p ∈ l, WC p.1 p.2) : ZL m v l.length (zf l) := by
  rcases h with ⟨h, rfl⟩ | ⟨h, b, h1, h2, _⟩
  · exact ⟨none, 0, by rw [List.map_eq_nil_iff.1 h]; rfl, .inl (by rw [List.map_eq_nil_iff.1 h]; rfl)⟩
  · rw [List.length_map] at h1
    refine ⟨_, _, h1, .inr ⟨b, 0, l.length, _, h1, Nat.le_refl _, h2, rfl, fun i hi => ⟨(l[i]).1, by simp [hi], ?_⟩⟩⟩
    unfold zf
    rw [List.getElem?_eq_getElem hi]
    exact hl _ (List.getElem_mem hi)
/-- Places within 4, as the law makes them. -/
def Near (l : List (C × G)) : Prop := ∀ p ∈ l, WC p.1 p.2 ∧ NB p.2 6
theorem zf_bn {l : List (C × G)} (h : Near l) (i : Nat) : BN (zf l i) Z6 := by
  unfold zf
  by_cases hi : i < l.length
  · rw [List.getElem?_eq_getElem hi]
    exact BN.real (by decide) (h _ (List.getElem_mem hi)).2
  · rw [List.getElem?_eq_none (by omega)]
    exact BN.zero' (by decide) rfl
theorem ofZ_le {zs : Nat → G} (hz : ∀ i, BN (zs i) Z6) {n : Nat} (hn : n ≤ 9) (t : Nat) : BN (ofZ zs n t) (DB t) := (BN.ofZ hz n t).mono (ofB_mono t hn) (BN.ofB BN.zz 9 t).2.1
theorem RP.full {m : Mem} {v : Value} {n k : Nat} {zs : Nat → G} (h : RP m v k (ofZ zs n)) (hk : k ≤ n + 1) : k = n + 1 := by
  by_cases e : k = n + 1
  · exact e
  · have := h.ends n (by omega)
    rw [ofZ_lead] at this
    exact absurd this (by decide)
def cst (g : G) : PG := fun k => if k = 0 then g else g0
theorem cv_cst (g : G) (b : PG) (t : Nat) : cv (cst g) b 1 t = gmul g (b t) := by
  show gadd g0 (gmul (cst g 0) (YtigbkoadojjajaaGreat.up 0 b t)) = _
  rw [zero_gadd]
  unfold cst YtigbkoadojjajaaGreat.up
  rw [if_pos rfl, if_pos (Nat.zero_le _), Nat.sub_zero]
theorem RP.congr {m : Mem} {v : Value} {n : Nat} {c d : PG} (h : RP m v n c) (e : ∀ k, c k = d k) : RP m v n d := by
  have : c = d := funext e
  rw [← this]; exact h
theorem rp_cst {m : Mem} {b : Nat} {z : C} {g : G} {gr ro : Bool} (hb : m.at b = some ⟨[cx z], 1, gr, ro⟩) (hz : WC z g) (hg : NB g far) : RP m (.slice (some ⟨b, 0, none⟩) 1 1) 1 (cst g) := by
  refine ⟨⟨b, 0, 1, _, rfl, Nat.le_refl _, hb, rfl, fun i hi => ⟨z, ?_, ?_⟩⟩, ⟨by decide, by decide, fun i => ?_, fun h => by omega⟩, fun k hk => ?_⟩
  · obtain rfl : i = 0 := by omega
    rfl
  · obtain rfl : i = 0 := by omega
    exact hz
  · unfold cst
    split
    · exact hg
    · unfold NB; decide
  · unfold cst
    rw [if_neg (by omega)]
theorem NB.le {g : G} {A B : Int} (h : NB g A) (hA : 0 ≤ A) (hAB : A ≤ B) : NB g B := h.mono hA hAB
section
set_option maxRecDepth 10000
/-- A number times a polynomial. -/
theorem scale_ok (d : Nat) {m : Mem} {b k : Nat} {vb : Value} {z : C} {g : G} {c : PG} {gr ro : Bool} (hw : MW m) (hb : m.at b = some ⟨[cx z], 1, gr, ro⟩) (hz : WC z g) (hg : NB g 36) (hc : RP m vb k c) (hk : k ≤ 60) (h0 : k = 1 → c 0 ≠ g0) (hcb : ∀ t, NB (c t) 16777216) {Q : Value → Mem → Prop}
    (hQ : ∀ m' v n', Up m m' → n' ≤ k → RP m' v n' (fun t => gmul g (c t)) → Q (.tuple ⟨[v, .int .i64 0]⟩) m') :
    Gives (callN Tryz.prog known (d + 10) 42 [.slice (some ⟨b, 0, none⟩) 1 1, vb]) m Q := by
  have ha := rp_cst (m := m) hb hz (hg.mono (by decide) (by decide))
  have hgc : ∀ t, NB (gmul g (c t)) (36 * 16777216) := fun t => hg.mul (hcb t)
  by_cases hg0 : g = g0
  · refine mul_nought d hw ha hc (by rw [hg0]; rfl) fun m' v u r => ?_
    refine hQ m' v 1 u hc.ok.pos (r.congr fun t => ?_)
    rw [hg0, zero_gmul]
  · refine mul_okR d hw ha hc (fun _ h => hg0 h) h0 (by omega) (A := 36) (B := 16777216) (by decide) (by decide) (by decide) (fun i => ?_) hcb (fun i t => ?_) fun m' v n' u hn r _ => hQ m' v n' u (by omega) (r.congr fun t => cv_cst g c t)
    · unfold cst
      split
      · exact hg
      · unfold NB; decide
    · match i with
      | 0 => exact (show NB g0 far by unfold NB; decide)
      | j + 1 =>
        have e : ∀ j, cv (cst g) c (j + 1) t = gmul g (c t) := by
          intro j
          induction j with
          | zero => exact cv_cst g c t
          | succ j ih =>
            show gadd (cv (cst g) c (j + 1) t) (gmul (cst g (j + 1)) _) = _
            rw [ih, show cst g (j + 1) = g0 from if_neg (by omega), zero_gmul, gadd_zero]
        rw [e j]
        exact (hgc t).mono (by decide) (by decide)
theorem times_ok (d : Nat) {m : Mem} {v : Value} {n : Nat} {zs : PG} {z : C} {g : G} (hw : MW m) (hz : WC z g) (hg : NB g 36) (hv : ZL m v n zs) (hn9 : n ≤ 9) (hzs : ∀ i, BN (zs i) Z6) {Q : Value → Mem → Prop}
    (hQ : ∀ m' v n', Up m m' → n' ≤ n + 1 → RP m' v n' (fun t => gmul g (ofZ zs n t)) → Q (.tuple ⟨[v, .int .i64 0]⟩) m') :
    Gives (callN Tryz.prog known (d + 11) 44 [cx z, v]) m Q := by
  refine gives_fn (nt := 22) rfl Tryz.func44 rfl rfl rfl (Nat.le_of_ble_eq_true rfl) fun fr hn hd hargs => ?_
  have h0 : fr.at 0 = _ := hargs 0 _ rfl
  have h1 : fr.at 1 = _ := hargs 1 _ rfl
  clear hargs
  simp [h0, h1, hn]
  refine of_ok _ hw hv (by omega) (fun i => (hzs i).2.2.mono (by decide) (by decide)) hzs (fun i t hi => Int.le_trans (ofB_mono t (show i ≤ 9 by omega)) (Int.le_trans (DB_le t) (by decide))) fun m1 v1 n1 u1 hn1 r1 => ?_
  obtain rfl := r1.full hn1
  simp [h0, h1, hn, hd]
  refine gives_build1 bs_C (cells_cx _) (one_cx _) ?_
  obtain ⟨m2, hm2⟩ : ∃ m2, m2 = m1.nw ⟨[cx z], 1, false, false⟩ := ⟨_, rfl⟩
  have u2 : Up m1 m2 := by rw [hm2]; exact Up.nw _ _
  have a2 : m2.at m1.next = some ⟨[cx z], 1, false, false⟩ := by rw [hm2]; simp
  simp [h0, h1, hn, hd]
  rw [← hm2]
  have w1 := u1.wf hw
  refine scale_ok _ (u2.wf w1) a2 hz hg (r1.up w1 u2) (by omega) (fun h => by
    obtain rfl : n = 0 := by omega
    exact (by decide : g1 ≠ g0)) (fun t => (ofZ_le hzs hn9 t).2.2.mono (ofZ_le hzs hn9 t).1 (DB_le t)) fun m3 v3 n3 u3 hn3 r3 => ?_
  simp [hn, hd]
  exact hQ m3 v3 n3 (u1.trans (u2.trans u3)) hn3 r3
end
end Go.Proofs.YtigbkoadojjajaaGreat

/- Flows in the clean executor: part. -/
namespace Go.Proofs.YtigbkoadojjajaaGreat
open Go.Clean
theorem cv_more {a b : PG} {k : Nat} (h : Ends a k) : ∀ {n : Nat}, k ≤ n → cv a b n = cv a b k := by
  intro n hn
  induction n with
  | zero => obtain rfl : k = 0 := by omega
            rfl
  | succ n ih =>
    by_cases e : k = n + 1
    · rw [e]
    · rw [← ih (by omega)]
      funext t
      show gadd (cv a b n t) (gmul (a n) _) = _
      rw [h n (by omega), zero_gmul, gadd_zero]
/-- An element, its place and strength as whole numbers. -/
abbrev W3 := El × G × G
structure EQ (q : W3) : Prop where
  ok : q.1.OK
  wa : WC q.1.a q.2.1
  ws : WC q.1.s q.2.2
  na : NB q.2.1 6
  ns : NB q.2.2 12
def partT (q : W3) (l : List (C × G)) : PG :=
  if q.1.k = 1 then fun t => gmul q.2.2 (ofZ (zf l) l.length t)
  else if q.1.k = 3 then fun t => gmul (gmul q.2.2 (-(q.1.n : Int), 0)) (ofZ (zf (lessL q.2.1 (q.1.n + 1) l)) (lessL q.2.1 (q.1.n + 1) l).length t)
  else cv (fun t => gmul (gmul q.2.2 ((q.1.n : Int), 0)) (ofZ (fun _ => q.2.1) (q.1.n - 1) t)) (ofZ (zf l) l.length) q.1.n
theorem scale_wc {z : C} {g : G} {k : Int} (h : WC z g) (hg : NB g 12) (hk : k.natAbs ≤ 3) : WC (cscale z (iF k)) (gmul g (k, 0)) ∧ NB (gmul g (k, 0)) 36 := by
  have hi : WF (iF k) k := WF.int k (by omega)
  obtain ⟨p1, p2⟩ := hg.parts (by decide)
  have b1 : (g.1 * k).natAbs < 9007199254740992 := by
    rw [Int.natAbs_mul]
    have := Nat.mul_le_mul p1 hk
    rw [show (12 : Int).toNat = 12 from rfl] at this
    omega
  have b2 : (g.2 * k).natAbs < 9007199254740992 := by
    rw [Int.natAbs_mul]
    have := Nat.mul_le_mul p2 hk
    rw [show (12 : Int).toNat = 12 from rfl] at this
    omega
  have e : gmul g (k, 0) = (g.1 * k, g.2 * k) := by
    show (g.1 * k - g.2 * 0, g.1 * 0 + g.2 * k) = _
    rw [Int.mul_zero, Int.mul_zero, Int.sub_zero, Int.zero_add]
  refine ⟨?_, ?_⟩
  · rw [e]
    exact ⟨h.1.mul hi b1, h.2.mul hi b2⟩
  · refine (hg.mul (B := 3) ?_).mono (by decide) (by decide)
    show k * k + 0 * 0 ≤ 3 * 3
    have : k = -3 ∨ k = -2 ∨ k = -1 ∨ k = 0 ∨ k = 1 ∨ k = 2 ∨ k = 3 := by omega
    rcases this with rfl | rfl | rfl | rfl | rfl | rfl | rfl <;> decide
theorem un_m1 : unX Tryz.prog .neg (.float .f64 4607182418800017408) = some (fv (iF (-1))) := by kernel_rfl
theorem un_m2 : unX Tryz.prog .neg (.float .f64 4611686018427387904) = some (fv (iF (-2))) := by kernel_rfl
theorem fp1 : Value.float .f64 4607182418800017408 = fv (iF 1) := by kernel_rfl
theorem fp2 : Value.float .f64 4611686018427387904 = fv (iF 2) := by kernel_rfl
theorem fp3 : Value.float .f64 4613937818241073152 = fv (iF 3) := by kernel_rfl
theorem cvj1 : convX Tryz.prog 25 3 (fv (iF 1)) = some (.int .i64 1) := by kernel_rfl
theorem cvj2 : convX Tryz.prog 25 3 (fv (iF 2)) = some (.int .i64 2) := by kernel_rfl
theorem cvj3 : convX Tryz.prog 25 3 (fv (iF 3)) = some (.int .i64 3) := by kernel_rfl
section
set_option maxRecDepth 10000
set_option maxHeartbeats 2000000 in
theorem foldsl_ok (d : Nat) {m : Mem} {k : Int} {p n : Nat} {a s : C} (hk : KP k p n) {Q : Value → Mem → Prop} (hQ : ∀ m', Up m m' → (m.log = [] → ∀ x ∈ m'.log, x.2 = m.next) → Q (.int .i64 (foldsN k n)) m') :
    Gives (callN Tryz.prog known (d + 1) 34 [elV k a s p]) m Q := by
  refine gives_fn (nt := 13) rfl Tryz.func34 rfl rfl rfl (Nat.le_of_ble_eq_true rfl) fun fr hn hd hargs => ?_
  have h0 : fr.at 0 = _ := hargs 0 _ rfl
  clear hargs
  obtain ⟨m1, hm1⟩ : ∃ m1, m1 = m.nw ⟨elL k a s p, 1, false, false⟩ := ⟨_, rfl⟩
  have u1 : Up m m1 := by rw [hm1]; exact Up.nw _ _
  have e1 : m1.at m.next = some ⟨elL k a s p, 1, false, false⟩ := by rw [hm1]; simp
  have l1 : m1.log = (true, m.next) :: m.log := by rw [hm1]; simp
  refine (code_seq _ _ _ _ _).2 ?_
  simp [h0, hn, -code_seq]
  rw [← hm1]
  have wr3 : IntKind.i64.wrap 3 = 3 := by kernel_rfl
  cases hk with
  | d1 =>
    simp [hn, hd, e1, cvi1, wr2]
    exact hQ _ (u1.trans (Up.same (by simp) fun c => by simp)) fun h x hx => by simp [l1, h] at hx; grind
  | d2 =>
    simp [hn, hd, e1, cvi2, wr3]
    exact hQ _ (u1.trans (Up.same (by simp) fun c => by simp)) fun h x hx => by simp [l1, h] at hx; grind
  | _ =>
    simp [hn, hd, e1]
    exact hQ _ (u1.trans (Up.same (by simp) fun c => by simp)) fun h x hx => by simp [l1, h] at hx; grind
end
end Go.Proofs.YtigbkoadojjajaaGreat

/- Flows in the clean executor: part. -/
namespace Go.Proofs.YtigbkoadojjajaaGreat
open Go.Clean
theorem lessL_sub (g : G) : ∀ (k : Nat) (l : List (C × G)), List.Sublist (lessL g k l) l
  | _, [] => by cases ‹Nat› <;> exact List.Sublist.refl _
  | 0, p :: l => (lessL_sub g 0 l).cons_cons p
  | k + 1, p :: l => by
    unfold lessL
    split
    · exact (lessL_sub g k l).cons p
    · exact (lessL_sub g (k + 1) l).cons_cons p
theorem Near.less {l : List (C × G)} (h : Near l) (g : G) (k : Nat) : Near (lessL g k l) := fun p hp => h p ((lessL_sub g k l).subset hp)
theorem less_len (l : List (C × G)) (g : G) (k : Nat) : (lessL g k l).length ≤ l.length := (lessL_sub g k l).length_le
theorem zl_rep {m : Mem} {b K : Nat} {z : C} {g : G} {gr ro : Bool} (hb : m.at b = some ⟨List.replicate K (cx z), 1, gr, ro⟩) (hz : WC z g) : ZL m (.slice (some ⟨b, 0, none⟩) K K) K (fun _ => g) :=
  ZL.of ⟨b, 0, K, _, rfl, Nat.le_refl _, hb, rfl, fun i hi => ⟨z, by simp [hi], hz⟩⟩
section
set_option maxRecDepth 10000
/-- The corner's product with the bottom. -/
theorem corner_ok (d : Nat) {m : Mem} {va vb : Value} {k n N : Nat} {s g : G} {zs : PG} (hw : MW m) (hs : NB s 36) (hg : BN g Z6) (hn : 1 ≤ n) (hn3 : n ≤ 3) (hk : k ≤ n) (ha : RP m va k (fun t => gmul s (ofZ (fun _ => g) (n - 1) t))) (hN : N ≤ 9) (hzs : ∀ i, BN (zs i) Z6) (hb : RP m vb (N + 1) (ofZ zs N)) {Q : Value → Mem → Prop}
    (hQ : ∀ m' v n', Up m m' → n' ≤ 12 → RP m' v n' (cv (fun t => gmul s (ofZ (fun _ => g) (n - 1) t)) (ofZ zs N) n) → Q (.tuple ⟨[v, .int .i64 0]⟩) m') :
    Gives (callN Tryz.prog known (d + 10) 42 [va, vb]) m Q := by
  have hcv : cv (fun t => gmul s (ofZ (fun _ => g) (n - 1) t)) (ofZ zs N) n = cv (fun t => gmul s (ofZ (fun _ => g) (n - 1) t)) (ofZ zs N) k := cv_more ha.ends hk
  have hda : ∀ t, BN (gmul s (ofZ (fun _ => g) (n - 1) t)) (DA t) := fun t => by
    have h1 := BN.ofZ (z := fun _ => g) (fun _ => hg) (n - 1) t
    have h2 : BN (ofZ (fun _ => g) (n - 1) t) (ofB Z6 2 t) := h1.mono (ofB_mono t (by omega)) (BN.ofB BN.zz 2 t).2.1
    exact (BN.real (by decide) hs).mul h2
  have hdb : ∀ t, BN (ofZ zs N t) (DB t) := fun t => ofZ_le hzs hN t
  have hda1 : ∀ t, (DA t).1 ≤ 1296 := fun t => by
    by_cases h : t < 3
    · exact of_decide_eq_true (all_lt (N := 3) (f := fun t => decide ((DA t).1 ≤ 1296)) (by kernel_rfl) h)
    · show (gmul (36, 0) (ofB Z6 2 t)).1 ≤ _
      rw [ofB_ends Z6 2 t (by omega), gmul_zero]; decide
  by_cases hs0 : s = g0
  · have hz : ∀ t, gmul s (ofZ (fun _ => g) (n - 1) t) = g0 := fun t => by rw [hs0, zero_gmul]
    have hk1 : k = 1 := by
      have h1 := ha.ok.pos
      by_cases h : k = 1
      · exact h
      · exact absurd (hz (k - 1)) (ha.ok.last (by omega))
    subst hk1
    refine mul_nought d hw ha hb (hz 0) fun m' v u r => ?_
    refine hQ m' v 1 u (by decide) (r.congr fun t => ?_)
    have e : cv (fun t => gmul s (ofZ (fun _ => g) (n - 1) t)) (ofZ zs N) n = cv (fun t => gmul s (ofZ (fun _ => g) (n - 1) t)) (ofZ zs N) 0 := cv_more (fun t _ => hz t) (Nat.zero_le _)
    rw [e]
    rfl
  · refine mul_okR d hw ha hb (fun h1 => ?_) (fun h1 => ?_) (by omega) (A := 1296) (B := 16777216) (by decide) (by decide) (by decide) (fun i => (hda i).2.2.mono (hda i).1 (hda1 i)) (fun i => (hdb i).2.2.mono (hdb i).1 (DB_le i)) (fun i t => ?_) fun m' v n' u hn' r _ => hQ m' v n' u (by omega) (by rw [hcv]; exact r)
    · subst h1
      have he := ha.ends (n - 1)
      intro h0
      by_cases h2 : n = 1
      · subst h2
        exact hs0 (by rw [← h0]; exact (gmul_one (x := s)).symm)
      · have := he (by omega)
        simp only [ofZ_lead] at this
        exact hs0 (by rw [← this]; exact (gmul_one (x := s)).symm)
    · obtain rfl : N = 0 := by omega
      exact (by decide : g1 ≠ g0)
    · have hlow : ∀ j, j ≤ 3 → NB (cv (fun t => gmul s (ofZ (fun _ => g) (n - 1) t)) (ofZ zs N) j t) far := fun j hj => by
        have h1 := BN.cv hda hdb j t
        exact h1.2.2.mono h1.1 (Int.le_trans (DA_cv j t hj) (Int.le_trans (DT_le t) (by decide)))
      by_cases hi : i ≤ 3
      · exact hlow i hi
      · rw [cv_more (k := 3) (fun t ht => by rw [ofZ_ends _ _ t (by omega), gmul_zero]) (by omega)]
        exact hlow 3 (Nat.le_refl _)
end
end Go.Proofs.YtigbkoadojjajaaGreat

/- Flows in the clean executor: part. -/
namespace Go.Proofs.YtigbkoadojjajaaGreat
open Go.Clean
theorem partT_1 {q : W3} {l : List (C × G)} (h : q.1.k = 1) : partT q l = fun t => gmul q.2.2 (ofZ (zf l) l.length t) := if_pos h
theorem partT_3 {q : W3} {l : List (C × G)} (h : q.1.k = 3) : partT q l = fun t => gmul (gmul q.2.2 (-(q.1.n : Int), 0)) (ofZ (zf (lessL q.2.1 (q.1.n + 1) l)) (lessL q.2.1 (q.1.n + 1) l).length t) := (if_neg (by omega)).trans (if_pos h)
theorem partT_4 {q : W3} {l : List (C × G)} (h : q.1.k = 4) : partT q l = cv (fun t => gmul (gmul q.2.2 ((q.1.n : Int), 0)) (ofZ (fun _ => q.2.1) (q.1.n - 1) t)) (ofZ (zf l) l.length) q.1.n := (if_neg (by omega)).trans (if_neg (by omega))
theorem KP.three {k : Int} {p n : Nat} (h : KP k p n) : (k = 1 ∧ p = 0 ∧ n = 0) ∨ (k = 3 ∧ unX Tryz.prog .neg (.float .f64 p) = some (fv (iF (-(n : Int)))) ∧ (n = 1 ∨ n = 2)) ∨
    (k = 4 ∧ Value.float .f64 p = fv (iF n) ∧ convX Tryz.prog 25 3 (fv (iF n)) = some (.int .i64 n) ∧ (n = 1 ∨ n = 2 ∨ n = 3)) := by
  cases h with
  | s => exact .inl ⟨rfl, rfl, rfl⟩
  | d1 => exact .inr (.inl ⟨rfl, un_m1, .inl rfl⟩)
  | d2 => exact .inr (.inl ⟨rfl, un_m2, .inr rfl⟩)
  | c1 => exact .inr (.inr ⟨rfl, fp1, cvj1, .inl rfl⟩)
  | c2 => exact .inr (.inr ⟨rfl, fp2, cvj2, .inr (.inl rfl)⟩)
  | c3 => exact .inr (.inr ⟨rfl, fp3, cvj3, .inr (.inr rfl)⟩)
section
set_option maxRecDepth 10000
set_option maxHeartbeats 2000000 in
theorem part_ok (d : Nat) {m : Mem} {vl vb : Value} {q : W3} {l : List (C × G)} (hw : MW m) (hq : EQ q) (hl : OW 0 m vl (l.map (·.1))) (hnl : Near l) (hl9 : l.length ≤ 9) (hb : RP m vb (l.length + 1) (ofZ (zf l) l.length)) {Q : Value → Mem → Prop}
    (hQ : ∀ m' v n', Up m m' → n' ≤ 12 → RP m' v n' (partT q l) → Q (.tuple ⟨[v, .int .i64 0]⟩) m') :
    Gives (callN Tryz.prog known (d + 13) 21 [q.1.val, vl, vb]) m Q := by
  refine gives_fn (nt := 84) rfl Tryz.func21 rfl rfl rfl (Nat.le_of_ble_eq_true rfl) fun fr hn hd hargs => ?_
  obtain ⟨⟨k, a, s, p, n⟩, g, gs⟩ := q
  obtain ⟨⟨hkp, -, -, -⟩, wa, ws, na, ns⟩ := hq
  have h0 : fr.at 0 = elV k a s p := hargs 0 _ rfl
  have h1 : fr.at 1 = _ := hargs 1 _ rfl
  have h2 : fr.at 2 = _ := hargs 2 _ rfl
  clear hargs
  simp only at hkp wa ws na ns
  obtain ⟨m1, hm1⟩ : ∃ m1, m1 = m.nw ⟨elL k a s p, 1, false, false⟩ := ⟨_, rfl⟩
  have u1 : Up m m1 := by rw [hm1]; exact Up.nw _ _
  have e1 : m1.at m.next = some ⟨elL k a s p, 1, false, false⟩ := by rw [hm1]; simp
  have n1 : m.next < m1.next := by rw [hm1]; simp
  refine (code_seq _ _ _ _ _).2 ?_
  simp [h0, hn, -code_seq]
  rw [← hm1]
  have w1 := u1.wf hw
  have hl1 := hl.up hw u1
  have hb1 := hb.up hw u1
  obtain ⟨kk, hkk⟩ : ∃ kk, kk = m1.next := ⟨_, rfl⟩
  clear hm1 hl hb
  rcases hkp.three with ⟨rfl, rfl, rfl⟩ | ⟨rfl, hneg, hn12⟩ | ⟨rfl, hfp, hcv, hn123⟩
  · simp [hn, hd, e1, h2]
    refine gives_build1 bs_C (cells_cx _) (one_cx _) ?_
    obtain ⟨m2, hm2⟩ : ∃ m2, m2 = ((m1.rd m.next).rd m.next).nw ⟨[cx s], 1, false, false⟩ := ⟨_, rfl⟩
    have u2 : Up m1 m2 := by rw [hm2]; exact (Up.rd _ _).trans ((Up.rd _ _).trans (Up.nw _ _))
    have a2 : m2.at m1.next = some ⟨[cx s], 1, false, false⟩ := by rw [hm2]; simp
    simp [hn, hd, h2]
    rw [← hm2]
    refine scale_ok _ (u2.wf w1) a2 ws (ns.mono (by decide) (by decide)) (hb1.up w1 u2) (by omega) (fun h => by
      have : l.length = 0 := by omega
      rw [this]
      exact (by decide : g1 ≠ g0)) (fun t => (ofZ_le (zf_bn hnl) hl9 t).2.2.mono (ofZ_le (zf_bn hnl) hl9 t).1 (DB_le t)) fun m3 v3 n3 u3 hn3 r3 => ?_
    simp [hn, hd]
    exact hQ m3 v3 n3 (u1.trans (u2.trans u3)) (by omega) r3
  · simp [hn, hd, e1, h2]
    refine code_draw_cls [0, 1, 0, 1, 0, 0, 0, 0, 1, 1, 2, 4, 4, 0, 0, 0, 0] kk (ms := [0, 1, 0, 4, 12, 31, 0, 0, 128, 0, 575, 2047, 4095, 8191, 8191, 32767, 65535]) (by kernel_rfl) rfl (by kernel_rfl) (by kernel_rfl) fun ops => ?_
    have hlt : m.next < kk := by omega
    simp [drawKQ, hn, hd, e1, h1, hneg, run_scale, hlt]
    refine foldsl_ok _ hkp fun m2 u2 l2 => ?_
    have u2' : Up m1 m2 := Up.trans (Up.same (by simp) fun c => by simp) u2
    have l2' : okL kk 2 m2.log := fun x hx => by rw [l2 rfl x hx, hkk]; simp
    have ef : foldsN 3 n = n + 1 := rfl
    have hsw := scale_wc (k := -(n : Int)) ws ns (by omega)
    simp [drawKQ, hn, hd, l2', ef]
    have u3 : ∀ L, Up m1 (m2.lg L) := fun L => u2'.trans (Up.same (by simp) fun c => by simp)
    have hwc : ∀ x ∈ l, WC x.1 x.2 := fun x hx => (hnl x hx).1
    rw [show ((n : Int) + 1) = ((n + 1 : Nat) : Int) by omega]
    refine less_ok (ps := l) (K := n + 1) _ ((u3 _).wf w1) ((hl1.up w1 (u3 _)).rl) (by omega) (by omega) hwc wa fun m4 v4 u4 w4 => ?_
    have hnl' := hnl.less g (n + 1)
    have u14 := (u3 _).trans u4
    simp [drawKQ, hn, hd]
    have u5 : ∀ L, Up m1 (m4.lg L) := fun L => u14.trans (Up.same (by simp) fun c => by simp)
    have z4 := w4.zl fun x hx => (hnl' x hx).1
    obtain ⟨m5, hm5⟩ : ∃ L, L = m4.lg [] := ⟨_, rfl⟩
    refine times_ok _ ((u5 _).wf w1) hsw.1 hsw.2 (n := (lessL g (n + 1) l).length) (zs := zf (lessL g (n + 1) l)) (w4.up (u14.wf w1) (Up.same (by simp) fun c => by simp) |>.zl fun x hx => (hnl' x hx).1) (Nat.le_trans (less_len l g (n + 1)) hl9) (zf_bn hnl') fun m6 v6 n6 u6 hn6 r6 => ?_
    have hlen6 := less_len l g (n + 1)
    simp [drawKQ, hn, hd]
    exact hQ _ v6 n6 (u1.trans ((u5 _).trans (u6.trans (Up.same (by simp) fun c => by simp)))) (by omega) (by
      rw [partT_3 rfl]
      exact r6.keep fun c => by simp)
  · simp [hn, hd, e1, h2]
    refine code_draw_cls [0, 1, 0, 1, 0, 0, 1, 2, 0, 1, 0, 0, 4, 4, 0, 0, 0, 0, 0] kk (ms := [0, 1, 0, 4, 15, 0, 32, 96, 0, 256, 768, 1792, 4095, 8191, 16383, 32767, 32767, 65535, 262143]) (by kernel_rfl) rfl (by kernel_rfl) (by kernel_rfl) fun ops => ?_
    have hlt : m.next < kk := by omega
    simp [drawKQ, hn, hd, e1, h1, hfp, hcv, run_scale, hlt]
    refine gives_build1 bs_C (cells_cx _) (one_cx _) ?_
    have hwn : IntKind.i64.wrap ((n : Int) - 1) = ((n - 1 : Nat) : Int) := wrap_pred n (by omega) (by omega)
    have hsw := scale_wc (k := (n : Int)) ws ns (by omega)
    have e1' : ∀ L, ((m1.lg L).nw ⟨[cx a], 1, false, false⟩).at m.next = some ⟨elL 4 a s p, 1, false, false⟩ := fun L => by simp [e1, show m.next ≠ m1.next by omega]
    obtain ⟨m2, hm2⟩ : ∃ m2, m2 = ((m1.lg []).nw ⟨[cx a], 1, false, false⟩).lg [] := ⟨_, rfl⟩
    have u2 : Up m1 m2 := by rw [hm2]; exact Up.trans (Up.trans (Up.same (by simp) fun c => by simp) (Up.nw (m1.lg []) ⟨[cx a], 1, false, false⟩)) (Up.same (by simp) fun c => by simp)
    have a2 : m2.at kk = some ⟨[cx a], 1, false, false⟩ := by rw [hm2]; simp [hkk]
    simp [drawKQ, hn, hd, e1, show m.next ≠ kk by omega, hfp, hcv, hlt, hkk.symm, hwn]
    rw [← hm2]
    refine repeat_ok _ (u2.wf w1) a2 (by omega) fun m3 b3 u3 nb3 nb3' a3 => ?_
    simp [drawKQ, hn, hd]
    have u13 := u2.trans u3
    have u4 : ∀ L, Up m1 (m3.lg L) := fun L => u13.trans (Up.same (by simp) fun c => by simp)
    have hgZ : BN g Z6 := BN.real (by decide) na
    refine times_ok _ ((u4 _).wf w1) hsw.1 hsw.2 (n := n - 1) (zs := fun _ => g) (zl_rep (z := a) (gr := false) (ro := false) (by simpa using a3) wa) (by omega) (fun _ => hgZ) fun m6 v6 n6 u6 hn6 r6 => ?_
    simp [drawKQ, hn, hd, yieldX, h2]
    have u6' : ∀ L, Up m1 (m6.lg L) := fun L => ((u4 _).trans u6).trans (Up.same (by simp) fun c => by simp)
    refine corner_ok _ ((u6' _).wf w1) (s := gmul gs ((n : Int), 0)) (g := g) (zs := zf l) (N := l.length) hsw.2 hgZ (n := n) (by omega) (by omega) (by omega) (r6.keep fun c => by simp) hl9 (zf_bn hnl) (hb1.up w1 (u6' _)) fun m7 v7 n7 u7 hn7 r7 => ?_
    simp [hn, hd]
    exact hQ _ v7 n7 (u1.trans ((u6' _).trans u7)) hn7 (by rw [partT_4 rfl]; exact r7)
end
end Go.Proofs.YtigbkoadojjajaaGreat

/- Flows in the clean executor: slices.Contains; bounds of the top. -/
namespace Go.Proofs.YtigbkoadojjajaaGreat
open Go.Clean
theorem rootsGo_mem {all : List (El × G)} : ∀ {l : List (El × G)} {seen : List G} {x : C × G}, x ∈ rootsGo all l seen → ∃ p ∈ l, x = (p.1.a, p.2) ∧ foldsN p.1.k p.1.n ≠ 0
  | [], _, _, h => by cases h
  | p :: l, seen, x, h => by
    rw [rootsGo_cons] at h
    split at h
    · obtain ⟨q, hq, e⟩ := rootsGo_mem h
      exact ⟨q, List.mem_cons_of_mem _ hq, e⟩
    · rename_i hn
      rcases List.mem_append.1 h with h | h
      · exact ⟨p, List.mem_cons_self .., (List.mem_replicate.1 h).2, fun e => hn (.inl e)⟩
      · obtain ⟨q, hq, e⟩ := rootsGo_mem h
        exact ⟨q, List.mem_cons_of_mem _ hq, e⟩
theorem rootsGo_len {all : List (El × G)} (ho : ∀ p ∈ all, p.1.OK) : ∀ {l : List (El × G)} {seen : List G}, (rootsGo all l seen).length ≤ 3 * l.length
  | [], _ => Nat.le_refl _
  | p :: l, seen => by
    rw [rootsGo_cons]
    have h1 := mostF_le (g := p.2) (k := 0) ho (by omega)
    split
    · have := rootsGo_len ho (l := l) (seen := seen)
      simp only [List.length_cons]
      omega
    · have := rootsGo_len ho (l := l) (seen := seen ++ [p.2])
      simp only [List.length_cons, List.length_append, List.length_replicate]
      omega
def pl (qs : List W3) : List (El × G) := qs.map fun q => (q.1, q.2.1)
def rl (qs : List W3) : List (C × G) := rootsGo (pl qs) (pl qs) []
theorem pl_pe {qs : List W3} (h : ∀ q ∈ qs, EQ q) : ∀ p ∈ pl qs, PE p := fun p hp => by
  obtain ⟨q, hq, rfl⟩ := List.mem_map.1 hp
  exact ⟨(h q hq).ok, (h q hq).wa⟩
theorem rl_near {qs : List W3} (h : ∀ q ∈ qs, EQ q) : Near (rl qs) := fun x hx => by
  obtain ⟨p, hp, rfl, _⟩ := rootsGo_mem hx
  obtain ⟨q, hq, rfl⟩ := List.mem_map.1 hp
  exact ⟨(h q hq).wa, (h q hq).na⟩
theorem rl_len {qs : List W3} (h : ∀ q ∈ qs, EQ q) (hl : qs.length ≤ 3) : (rl qs).length ≤ 9 := by
  have := rootsGo_len (all := pl qs) (l := pl qs) (seen := []) fun p hp => (pl_pe h p hp).ok
  have e : (pl qs).length = qs.length := by simp [pl]
  unfold rl
  omega
theorem KP.n3 {k : Int} {p n : Nat} (h : KP k p n) : n ≤ 3 := by cases h <;> decide
theorem KP.k3 {p n : Nat} (h : KP 3 p n) : 1 ≤ n ∧ n ≤ 2 := by cases h <;> decide
theorem KP.k4 {p n : Nat} (h : KP 4 p n) : 1 ≤ n ∧ n ≤ 3 := by cases h <;> decide
theorem partT_bn {q : W3} {l : List (C × G)} (hq : EQ q) (hn : Near l) (hl : l.length ≤ 9) (t : Nat) : BN (partT q l t) (DT t) := by
  have hkp := hq.ok.kp
  have hDT : ∀ t, BN (DT t) (DT t) := fun t => by
    have h := BN.mul (BN.real (g := (36, 0)) (B := 36) (by decide) (by unfold NB; decide)) (BN.ofB BN.zz 11 t)
    exact h
  have h36 : ∀ {s : G} {zs : PG} {n : Nat}, NB s 36 → (∀ i, BN (zs i) Z6) → n ≤ 9 → BN (gmul s (ofZ zs n t)) (DT t) := fun {s zs n} hs hz hn => by
    have h := BN.mul (BN.real (by decide) hs) (ofZ_le hz hn t)
    refine h.mono ?_ (hDT t).2.1
    have := DT_36 t
    show 36 * (ofB Z6 9 t).1 - 0 * (ofB Z6 9 t).2 ≤ _
    omega
  rcases hkp.three with ⟨h, _, _⟩ | ⟨h, _, hn12⟩ | ⟨h, _, _, hn123⟩
  · rw [partT_1 h]
    exact h36 (hq.ns.mono (by decide) (by decide)) (zf_bn hn) hl
  · rw [partT_3 h]
    exact h36 (scale_wc hq.ws hq.ns (by omega)).2 (zf_bn (hn.less _ _)) (Nat.le_trans (less_len _ _ _) hl)
  · rw [partT_4 h]
    have hda : ∀ t, BN (gmul (gmul q.2.2 ((q.1.n : Int), 0)) (ofZ (fun _ => q.2.1) (q.1.n - 1) t)) (DA t) := fun t => by
      have h1 := BN.ofZ (z := fun _ => q.2.1) (Z := Z6) (fun _ => BN.real (by decide) hq.na) (q.1.n - 1) t
      have h2 : BN (ofZ (fun _ => q.2.1) (q.1.n - 1) t) (ofB Z6 2 t) := h1.mono (ofB_mono t (by omega)) (BN.ofB BN.zz 2 t).2.1
      exact (BN.real (by decide) (scale_wc hq.ws hq.ns (by omega)).2).mul h2
    exact (BN.cv hda (fun t => ofZ_le (zf_bn hn) hl t) q.1.n t).mono (DA_cv _ t (by omega)) (hDT t).2.1
def topT (qs : List W3) (l : List (C × G)) : Nat → PG
  | 0 => fun _ => g0
  | j + 1 => fun k => gadd (topT qs l j k) (match qs[j]? with
    | some q => partT q l k
    | none => g0)
theorem topT_bn {qs : List W3} {l : List (C × G)} (hq : ∀ q ∈ qs, EQ q) (hn : Near l) (hl : l.length ≤ 9) (t : Nat) : ∀ j : Nat, BN (topT qs l j t) (gmul ((j : Int), 0) (DT t))
  | 0 => BN.zero' (by show 0 ≤ 0 * (DT t).1 - 0 * (DT t).2; omega) (by show 0 * (DT t).2 + 0 * (DT t).1 = 0; omega)
  | j + 1 => by
    have h1 := topT_bn hq hn hl t j
    have h2 : BN (match qs[j]? with
      | some q => partT q l t
      | none => g0) (DT t) := by
      split
      · rename_i q e
        exact partT_bn (hq q (List.mem_of_getElem? e)) hn hl t
      · have h := BN.mul (BN.real (g := (36, 0)) (B := 36) (by decide) (by unfold NB; decide)) (BN.ofB BN.zz 11 t)
        exact BN.zero' h.1 h.2.1
    have h3 := BN.add h1 h2
    have e : gadd (gmul ((j : Int), 0) (DT t)) (DT t) = gmul (((j + 1 : Nat) : Int), 0) (DT t) := by
      rw [show (((j + 1 : Nat) : Int), (0 : Int)) = gadd ((j : Int), 0) g1 from gext (by show ((j + 1 : Nat) : Int) = (j : Int) + 1; omega) rfl, add_gmul, one_gmul]
    rw [e] at h3
    exact h3
theorem topT_3 {qs : List W3} {l : List (C × G)} (hq : ∀ q ∈ qs, EQ q) (hn : Near l) (hl : l.length ≤ 9) (t : Nat) {j : Nat} (hj : j ≤ 3) : BN (topT qs l j t) (gmul (3, 0) (DT t)) := by
  have h := topT_bn hq hn hl t j
  have hd := BN.mul (BN.real (g := (36, 0)) (B := 36) (by decide) (by unfold NB; decide)) (BN.ofB BN.zz 11 t)
  have h0 : 0 ≤ (DT t).1 := hd.1
  have h1 : (DT t).2 = 0 := hd.2.1
  refine h.mono ?_ ?_
  · show (j : Int) * (DT t).1 - 0 * (DT t).2 ≤ 3 * (DT t).1 - 0 * (DT t).2
    have : (j : Int) * (DT t).1 ≤ 3 * (DT t).1 := Int.mul_le_mul_of_nonneg_right (by omega) h0
    omega
  · show 3 * (DT t).2 + 0 * (DT t).1 = 0
    rw [h1]; omega
end Go.Proofs.YtigbkoadojjajaaGreat

/- Flows in the clean executor: slices.Contains of floats. -/
namespace Go.Proofs.YtigbkoadojjajaaGreat
open Go.Clean
def cs4 : List Value := [fv (iF 1), fv (iF 2), fv (iF 3), fv (iF 4)]
theorem under_Fs : Tryz.prog.underlying 53 = some (.slice 25) := by kernel_rfl
theorem zero_f : zeroT Tryz.prog 25 = some (.float .f64 0) := by kernel_rfl
theorem gives_build4 {m : Mem} {Q : Value → Mem → Prop} (q : Q (.slice (some ⟨m.next, 0, none⟩) 4 4) (m.nw ⟨cs4, 1, false, false⟩)) : Gives (buildSliceX Tryz.prog 53 4 [(0, .float .f64 4607182418800017408), (1, .float .f64 4611686018427387904), (2, .float .f64 4613937818241073152), (3, .float .f64 4616189618054758400)]) m Q := by
  unfold buildSliceX
  simp only [under_Fs, size_f, zero_f]
  rw [gives_bind, gives_guard]
  refine ⟨rfl, ?_⟩
  have e : fillX (fun i => some (i * 1, 1)) (repeatL (cellsV (.float .f64 0)) 4) [(0, .float .f64 4607182418800017408), (1, .float .f64 4611686018427387904), (2, .float .f64 4613937818241073152), (3, .float .f64 4616189618054758400)] = some cs4 := by kernel_rfl
  rw [e]
  dsimp only
  rw [gives_bind, gives_newX]
  exact ⟨by kernel_rfl, (gives_ret _ _ _).2 q⟩
theorem len_Fs (a : Option Addr) (n c : Nat) : lenX Tryz.prog 53 (.slice a n c) = some (.int .i64 n) := len_slice under_Fs a n c
theorem idx_Fs (b o n c k : Nat) (q : IntKind) (hk : k < n) : indexAddrX Tryz.prog 53 (.slice (some ⟨b, o, none⟩) n c) (.int q (k : Int)) = some (.pointer (some ⟨b, o + k, none⟩)) := index_slice under_Fs size_f b o n c k q hk
theorem cs4_at {i : Nat} (h : i < 4) : cs4[i]? = some (fv (iF ((i : Int) + 1))) := by
  obtain rfl | rfl | rfl | rfl : i = 0 ∨ i = 1 ∨ i = 2 ∨ i = 3 := by omega
  all_goals rfl
def fxI (b n : Nat) (m : Mem) (k : Nat) (fr : Fr) (m' : Mem) : Prop := ∃ i, i + k = n - 1 ∧ fr.n = 19 ∧ fr.d = [] ∧ fr.at 0 = .slice (some ⟨b, 0, none⟩) 4 4 ∧ fr.at 1 = fv (iF (n : Int)) ∧ fr.at 7 = .int .i64 4 ∧ fr.at 8 = .int .i64 (i : Nat) ∧ Sm m m'
section
set_option maxRecDepth 10000
theorem findex_ok (d : Nat) {m : Mem} {b n : Nat} {gr ro : Bool} (hb : m.at b = some ⟨cs4, 1, gr, ro⟩) (hn : 1 ≤ n) (hn3 : n ≤ 3) {Q : Value → Mem → Prop} (hQ : ∀ m', Sm m m' → Q (.int .i64 ((n - 1 : Nat) : Int)) m') :
    Gives (callN Tryz.prog known (d + 1) 33 [.slice (some ⟨b, 0, none⟩) 4 4, fv (iF (n : Int))]) m Q := by
  refine gives_fn (nt := 19) rfl Tryz.func33 rfl rfl rfl (Nat.le_of_ble_eq_true rfl) fun fr hnn hd hargs => ?_
  have h0 : fr.at 0 = _ := hargs 0 _ rfl
  have h1 : fr.at 1 = _ := hargs 1 _ rfl
  clear hargs
  simp [h0, h1, hnn, len_Fs]
  refine code_loop (fxI b n m) (n - 1) (by omega) ⟨0, by omega, by simp [hnn], by simp [hd], by simp [h0], by simp [h1], by simp, by simp, Sm.refl m⟩ ?_
  rintro k f m' ⟨i, hik, f1, f2, f3, f4, f5, f6, hs⟩
  have hb' : m'.at b = some ⟨cs4, 1, gr, ro⟩ := by rw [hs.2]; exact hb
  have hi4 : (i : Int) < 4 := by omega
  have hw := wrap_succ i (by omega)
  have he := (WF.int (n : Int) (by omega)).eq (WF.int ((i : Int) + 1) (by omega))
  have he' : feq (iF (n : Int)) (iF ((i : Int) + 1)) = decide (k = 0) := by
    refine he.trans ?_
    by_cases hk : k = 0
    · rw [decide_eq_true (by omega), decide_eq_true hk]
    · rw [decide_eq_false (by omega), decide_eq_false hk]
  have hx := cs4_at (show i < 4 by omega)
  simp only [fv] at hx
  by_cases hk : k = 0
  · rw [decide_eq_true hk] at he'
    simp [f1, f2, f3, f4, f5, f6, hi4, idx_Fs _ _ _ _ _ _ (show i < 4 by omega), hb', hx, fv, he']
    obtain rfl : i = n - 1 := by omega
    exact hQ _ (hs.trans (Sm.rd _ _))
  · rw [decide_eq_false hk] at he'
    simp [f1, f2, f3, f4, f5, f6, hi4, idx_Fs _ _ _ _ _ _ (show i < 4 by omega), hb', hx, fv, he', hw]
    exact ⟨k - 1, by omega, i + 1, by omega, by simp [f1], by simp [f2], by simp [f3], by simp [f4, fv], by simp [f5], by simp, hs.trans (Sm.rd _ _)⟩
theorem fcontains_ok (d : Nat) {m : Mem} {b n : Nat} {gr ro : Bool} (hb : m.at b = some ⟨cs4, 1, gr, ro⟩) (hn : 1 ≤ n) (hn3 : n ≤ 3) {Q : Value → Mem → Prop} (hQ : ∀ m', Sm m m' → Q (.bool true) m') :
    Gives (callN Tryz.prog known (d + 2) 18 [.slice (some ⟨b, 0, none⟩) 4 4, fv (iF (n : Int))]) m Q := by
  refine gives_fn (nt := 9) rfl Tryz.func18 rfl rfl rfl (Nat.le_of_ble_eq_true rfl) fun fr hnn hd hargs => ?_
  have h0 : fr.at 0 = _ := hargs 0 _ rfl
  have h1 : fr.at 1 = _ := hargs 1 _ rfl
  clear hargs
  simp [h0, h1, hnn]
  refine findex_ok d hb hn hn3 fun m' hs => ?_
  have hge : (0 : Int) ≤ ((n - 1 : Nat) : Int) := by omega
  simp [hnn, hd, hge]
  exact hQ _ hs
end
end Go.Proofs.YtigbkoadojjajaaGreat
