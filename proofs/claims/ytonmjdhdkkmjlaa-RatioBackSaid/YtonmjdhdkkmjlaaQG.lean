/- Polynomials in the clean executor: products. -/
import Derived.Test.YtonmjdhdkkmjlaaQF
namespace Go.Proofs.Ytonmjdhdkkmjlaa
open Go.Clean

/-! ### make -/
def mkOK (P : Program) (t : TypeId) (v : Value) : Bool := match P.underlying t with
  | some (.slice e) => match P.info? e, zeroT P e with
    | some i, some z => i.size == 1 && (cellsV z).length == 1 && Nat.ble i.bytes 1024 && oneV v && (match cellsV z, v with
      | [.complex .f64 0 0], .complex .f64 0 0 => true
      | [.bool false], .bool false => true
      | _, _ => false)
    | _, _ => false
  | _ => false
theorem mk_L : mkOK Try.prog 24 (.complex .f64 0 0) = true := by kernel_rfl
theorem mk_B : mkOK Try.prog 71 (.bool false) = true := by kernel_rfl
theorem repeat_one (v : Value) : ∀ n, repeatL [v] n = List.replicate n v
  | 0 => rfl
  | n + 1 => by rw [List.replicate_succ, ← repeat_one v n]; rfl
theorem gives_make {P : Program} {t : TypeId} {v : Value} (h : mkOK P t v = true) {l c : Nat} {q q' : IntKind} (hl : l ≤ c) (hc : c ≤ 1048576) {m : Mem} {Q : Value → Mem → Prop} (hQ : Q (.slice (some ⟨m.next, 0, none⟩) l c) (m.nw ⟨List.replicate c v, 1, false, false⟩)) : Gives (makeSliceX P t (.int q l) (.int q' c)) m Q := by
  unfold mkOK at h
  split at h
  · rename_i e h1
    split at h
    · rename_i i z h2 h3
      simp only [Bool.and_eq_true, beq_iff_eq, Nat.ble_eq] at h
      obtain ⟨⟨⟨⟨h4, h5⟩, h6⟩, h7⟩, h8⟩ := h
      have hz : cellsV z = [v] := by
        split at h8
        · rename_i e1; exact e1
        · rename_i e1; exact e1
        · cases h8
      unfold makeSliceX
      simp only [h1, h2, h3]
      rw [gives_bind, gives_guard]
      refine ⟨?_, ?_⟩
      · simp only [Bool.and_eq_true, beq_iff_eq, decide_eq_true_eq, Nat.ble_eq, Nat.blt_eq]
        refine ⟨⟨⟨by omega, by omega⟩, by omega⟩, ?_⟩
        rw [Int.toNat_natCast]
        exact Nat.le_trans (Nat.mul_le_mul h6 hc) (by decide)
      · rw [gives_bind, gives_newX, hz, repeat_one, h4]
        refine ⟨?_, (gives_ret _ _ _).2 ?_⟩
        · rw [List.all_eq_true]
          intro u hu
          rw [List.eq_of_mem_replicate hu]
          exact h7
        · simpa using hQ
    · cases h
  · cases h
theorem cx_zero : Value.complex .f64 0 0 = cx (some 0, some 0) := by unfold cx; rw [cOf_zero]
theorem WC.zero : WC (some 0, some 0) g0 := ⟨WF.zero, WF.zero⟩
theorem CL.zeros (n : Nat) : CL (List.replicate n (Value.complex .f64 0 0)) n fun _ => g0 := by
  refine ⟨by simp, fun i hi => ⟨_, ?_, WC.zero⟩⟩
  rw [List.getElem?_replicate, if_pos hi, cx_zero]
/-- Which places have been come to. -/
def TL (cells : List Value) (n : Nat) (th : Nat → Bool) : Prop := cells.length = n ∧ ∀ i, i < n → cells[i]? = some (.bool (th i))
theorem TL.none (n : Nat) : TL (List.replicate n (Value.bool false)) n fun _ => false := by
  refine ⟨by simp, fun i hi => ?_⟩
  rw [List.getElem?_replicate, if_pos hi]
theorem TL.set {cells : List Value} {n : Nat} {th : Nat → Bool} (h : TL cells n th) {i : Nat} (hi : i < n) : TL (cells.set i (.bool true)) n fun k => if k = i then true else th k := by
  refine ⟨by rw [List.length_set]; exact h.1, fun k hk => ?_⟩
  rw [List.getElem?_set]
  show _ = some (Value.bool (if k = i then true else th k))
  by_cases hki : k = i
  · subst hki; rw [if_pos rfl, if_pos (by rw [h.1]; exact hk), if_pos rfl]
  · rw [if_neg (fun h => hki h.symm), if_neg hki]; exact h.2 k hk

/-- A list of one's own. -/
def OL (m0 m : Mem) (v : Value) : Prop := ∃ b o n k x, v = .slice (some ⟨b, o, none⟩) n k ∧ m0.next ≤ b ∧ m.at b = some x ∧ x.ro = false ∧ x.sz = 1
theorem OL.low {m0 m1 m : Mem} {v : Value} (h : OL m1 m v) (u : m0.next ≤ m1.next) : OL m0 m v := by
  obtain ⟨b, o, n, k, x, h1, h2, h3⟩ := h
  exact ⟨b, o, n, k, x, h1, Nat.le_trans u h2, h3⟩
section
set_option maxRecDepth 10000
structure MF (fr : Fr) (va vb : Value) (n k bo bt N i : Nat) : Prop where
  fn : fr.n = 88
  fd : fr.d = []
  a1 : fr.at 1 = vb
  a7 : fr.at 7 = .slice (some ⟨bo, 0, none⟩) N N
  a8 : fr.at 8 = .slice (some ⟨bt, 0, none⟩) N N
  a45 : fr.at 45 = va
  a46 : fr.at 46 = .int .i64 n
  a47 : fr.at 47 = .int .i64 (i : Nat)
structure MM (m m' : Mem) (bo bt N : Nat) (c : PG) : Prop where
  up : Up m m'
  bo1 : m.next ≤ bo
  bt1 : m.next ≤ bt
  ne : bo ≠ bt
  bo2 : bo < m'.next
  bt2 : bt < m'.next
  ex : ∃ cells tc th, m'.at bo = some ⟨cells, 1, false, false⟩ ∧ m'.at bt = some ⟨tc, 1, false, false⟩ ∧ CL cells N c ∧ TL tc N th ∧ ∀ k, k < N → th k = false → c k = g0
theorem MM.keep {m m' m2 : Mem} {bo bt N : Nat} {c e : PG} (h : MM m m' bo bt N c) (hs : Sm m' m2) (he : ∀ t, e t = c t) : MM m m2 bo bt N e := by
  obtain ⟨h1, h2, h3, h4, h5, h6, cells, tc, th, q1, q2, q3, q4, q5⟩ := h
  exact ⟨h1.trans hs.up, h2, h3, h4, by rw [hs.1]; exact h5, by rw [hs.1]; exact h6, cells, tc, th, by rw [hs.2]; exact q1, by rw [hs.2]; exact q2, q3.congr fun t _ => (he t).symm, q4, fun t ht hf => by rw [he]; exact q5 t ht hf⟩
def mlI (m : Mem) (va vb : Value) (n k bo bt N : Nat) (a b : PG) (j : Nat) (fr : Fr) (m' : Mem) : Prop := ∃ i, i + j = n ∧ MF fr va vb n k bo bt N i ∧ MM m m' bo bt N (cv a b i)
def mlJ (m : Mem) (va vb : Value) (n k bo bt N i : Nat) (a b : PG) (x : C) (q : Nat) (fr : Fr) (m' : Mem) : Prop := ∃ j, j + q = k ∧ MF fr va vb n k bo bt N i ∧ fr.at 9 = .int .i64 (i : Nat) ∧ fr.at 10 = cx x ∧ fr.at 52 = vb ∧ fr.at 53 = .int .i64 k ∧ fr.at 54 = .int .i64 (j : Nat) ∧ MM m m' bo bt N fun t => if t < i + j then cv a b (i + 1) t else cv a b i t
def mlS (m : Mem) (va vb : Value) (n k bo bt N i : Nat) (a b : PG) (r : Ex × Fr) (m' : Mem) : Prop := r.1 = .exit 2 ∧ MF r.2 va vb n k bo bt N i ∧ MM m m' bo bt N (cv a b (i + 1))
def mlR (m : Mem) (bo bt N n : Nat) (a b : PG) (r : Ex × Fr) (m' : Mem) : Prop := r.1 = .exit 0 ∧ r.2.n = 88 ∧ r.2.d = [] ∧ r.2.at 7 = .slice (some ⟨bo, 0, none⟩) N N ∧ MM m m' bo bt N (cv a b n)
def small : Int := 1048576
theorem cv_low {a b : PG} {i k : Nat} (h : k < i) : cv a b (i + 1) k = cv a b i k := by
  show gadd (cv a b i k) (gmul (a i) (up i b k)) = _
  unfold Ytonmjdhdkkmjlaa.up
  rw [if_neg (by omega), gmul_zero, gadd_zero]
theorem cv_high {a b : PG} {i k lb : Nat} (hb : Ends b lb) (h : i + lb ≤ k) : cv a b (i + 1) k = cv a b i k := by
  show gadd (cv a b i k) (gmul (a i) (up i b k)) = _
  unfold Ytonmjdhdkkmjlaa.up
  rw [if_pos (by omega), hb _ (by omega), gmul_zero, gadd_zero]
theorem cv_here {a b : PG} {i j : Nat} : cv a b (i + 1) (i + j) = gadd (cv a b i (i + j)) (gmul (a i) (b j)) := by
  show gadd (cv a b i (i + j)) (gmul (a i) (up i b (i + j))) = _
  unfold Ytonmjdhdkkmjlaa.up
  rw [if_pos (by omega), Nat.add_sub_cancel_left]
theorem mul_ok (d : Nat) {m : Mem} {va vb : Value} {n k : Nat} {a b : PG} (hw : MW m) (ha : RP m va n a) (hb : RP m vb k b) (ha0 : n = 1 → a 0 ≠ g0) (hb0 : k = 1 → b 0 ≠ g0) (hnk : n + k ≤ 66) (ha1 : ∀ i, NB (a i) small) (hb1 : ∀ i, NB (b i) small) (hc : ∀ i t, NB (cv a b i t) far) {Q : Value → Mem → Prop}
    (hQ : ∀ m' v n', Up m m' → n' ≤ n + k - 1 → RP m' v n' (cv a b n) → OL m m' v → Q (.tuple ⟨[v, .int .i64 0]⟩) m') :
    Gives (callN Try.prog known (d + 10) 11 [va, vb]) m Q := by
  refine gives_fn (nt := 88) rfl Try.func11 rfl rfl rfl (Nat.le_of_ble_eq_true rfl) fun fr hn hd hargs => ?_
  have h0 : fr.at 0 = _ := hargs 0 _ rfl
  have h1 : fr.at 1 = _ := hargs 1 _ rfl
  clear hargs
  have hn0 := ha.ok.pos
  have hk0 := hb.ok.pos
  obtain ⟨ba, oa, ka, xa, rfl, _, hba, _, hea⟩ := id ha.pl
  obtain ⟨bb, ob, kb, xb, rfl, _, hbb, _, heb⟩ := id hb.pl
  simp [h0, h1, hn]
  refine both_ok _ ha.pl ha.ok hb.pl hb.ok fun m1 hs => ?_
  simp [h0, h1, hn]
  refine none_ok _ (ha.pl.keep hs.2) hn0 ha0 fun m2 hs2 => ?_
  simp [h0, h1, hn, yieldX]
  refine none_ok _ ((hb.pl.keep hs.2).keep hs2.2) hk0 hb0 fun m3 hs3 => ?_
  have hs' := (hs.trans hs2).trans hs3
  obtain ⟨N, hN⟩ : ∃ N, N = n + k - 1 := ⟨_, rfl⟩
  have e1 : IntKind.i64.wrap ((n : Int) + (k : Int)) = (n : Int) + (k : Int) := by rw [wrap_add n k (by omega)]; simp
  have e2 : IntKind.i64.wrap ((n : Int) + (k : Int) - 1) = (N : Int) := by
    have := wrap_pred (n + k) (by omega) (by omega)
    rw [← hN] at this
    rw [← this]; simp
  have e3 : IntKind.i64.wrap ((n : Int) + (k : Int) - 2) = ((N - 1 : Nat) : Int) := by
    have := wrap_add (N - 1) 0 (by omega)
    rw [show ((n : Int) + (k : Int) - 2) = ((N - 1 : Nat) : Int) + ((0 : Nat) : Int) by omega]
    exact this
  simp [h0, h1, hn, e1, e2, e3, show ¬ 64 < ((N - 1 : Nat) : Int) by omega]
  refine gives_make mk_L (Nat.le_refl N) (by omega) ?_
  simp [h0, h1, hn]
  refine gives_make mk_B (Nat.le_refl N) (by omega) ?_
  simp [h0, h1, hn]
  have hu3 : Up m ((m3.nw ⟨List.replicate N (.complex .f64 0 0), 1, false, false⟩).nw ⟨List.replicate N (.bool false), 1, false, false⟩) := hs'.up.trans ((Up.nw _ _).trans (Up.nw _ _))
  have hn3 := hs'.1
  refine code_loop_post (mlR m m3.next (m3.next + 1) N n a b) (mlI m (.slice (some ⟨ba, oa, none⟩) n ka) (.slice (some ⟨bb, ob, none⟩) k kb) n k m3.next (m3.next + 1) N a b) n (by omega) ⟨0, by omega, ⟨by simp [hn], by simp [hd], by simp [h1], by simp, by simp, by simp, by simp, by simp⟩, hu3, by omega, by omega, by omega, by simp; omega, by simp, _, _, fun _ => false, by simp, by simp, CL.zeros N, TL.none N, fun _ _ _ => rfl⟩ ?_ ?_
  · rintro j fr' m' ⟨i, hij, ⟨f1, f2, f3, f4, f5, f6, f7, f8⟩, hM⟩
    by_cases hi : i < n
    · obtain ⟨x, hx, hwx⟩ := hea i hi
      have hma : m'.at ba = some xa := hM.up.at hba hw
      have hwi := wrap_succ i (by omega)
      simp [f1, f3, f4, f5, f6, f7, f8, hi, idx_L _ _ _ _ _ _ hi, hma, hx]
      refine code_loop_post (mlS m (.slice (some ⟨ba, oa, none⟩) n ka) (.slice (some ⟨bb, ob, none⟩) k kb) n k m3.next (m3.next + 1) N i a b) (mlJ m (.slice (some ⟨ba, oa, none⟩) n ka) (.slice (some ⟨bb, ob, none⟩) k kb) n k m3.next (m3.next + 1) N i a b x) k (by omega) ⟨0, by omega, ⟨by simp [f1], by simp [f2], by simp [f3], by simp [f4], by simp [f5], by simp [f6], by simp [f7], by simp [f8]⟩, by simp, by simp, by simp, by simp, by simp, ?_⟩ ?_ ?_
      · refine hM.keep (Sm.rd _ _) fun t => ?_
        by_cases h : t < i + 0
        · rw [if_pos h, cv_low (by omega)]
        · rw [if_neg h]
      · clear hM f1 f2 f3 f4 f5 f6 f7 f8 hma
        rintro q fr2 m2 ⟨jj, hjq, ⟨f1, f2, f3, f4, f5, f6, f7, f8⟩, f9, f10, f52, f53, f54, hM⟩
        by_cases hj : jj < k
        · obtain ⟨y, hy, hwy⟩ := heb jj hj
          have hmb : m2.at bb = some xb := hM.up.at hbb hw
          obtain ⟨u1, u2, u3, u4, u5, u6, cells, tc, th, q1, q2, q3, q4, q5⟩ := hM
          have hwj := wrap_succ jj (by omega)
          obtain ⟨p, hpe⟩ : ∃ p, p = i + jj := ⟨_, rfl⟩
          have hwij : IntKind.i64.wrap ((i : Int) + (jj : Int)) = (p : Int) := by rw [hpe]; exact wrap_add i jj (by omega)
          have hlt : p < N := by omega
          have hp : WC (cmul x y) (gmul (a i) (b jj)) := hwx.mul hwy (by decide) (by decide) (ha1 i) (hb1 jj) (by decide)
          obtain ⟨w, hwv, hww⟩ := q3.2 p hlt
          simp only [hpe, Nat.lt_irrefl, if_false] at hww
          rw [← hpe] at hww
          have hcell := q4.2 p hlt
          have hcv : cv a b (i + 1) p = gadd (cv a b i p) (gmul (a i) (b jj)) := by rw [hpe]; exact cv_here
          have hset : ∀ t, t < N → (if t < i + (jj + 1) then cv a b (i + 1) t else cv a b i t) = if t = p then cv a b (i + 1) p else if t < i + jj then cv a b (i + 1) t else cv a b i t := fun t _ => by
            by_cases h1 : t = p
            · rw [h1, if_pos (by omega), if_pos rfl]
            · rw [if_neg h1]
              by_cases h2 : t < i + jj
              · rw [if_pos h2, if_pos (by omega)]
              · rw [if_neg h2, if_neg (by omega)]
          have hfin : ∀ (z : C) (m3' : Mem), WC z (cv a b (i + 1) p) → (∀ c, m3'.at c = m2.at c) → m3'.next = m2.next → ∀ m4 m5 : Mem, m4.next = m3'.next → (∀ c, m4.at c = if c = m3.next then some ⟨cells.set p (cx z), 1, false, false⟩ else m3'.at c) → m5.next = m4.next → (∀ c, m5.at c = if c = m3.next + 1 then some ⟨tc.set p (.bool true), 1, false, false⟩ else m4.at c) →
              MM m m5 m3.next (m3.next + 1) N fun t => if t < i + (jj + 1) then cv a b (i + 1) t else cv a b i t := fun z m3' hz ha3 hn3' m4 m5 n4 e4 n5 e5 => by
            have hu4 : Up m m4 := (u1.trans (Up.same hn3' ha3)).wr (b := m3.next) u2 (by omega) n4 e4
            refine ⟨hu4.wr (b := m3.next + 1) u3 (by omega) n5 e5, u2, u3, u4, by omega, by omega, _, _, fun t => if t = p then true else th t, by rw [e5, if_neg (by omega), e4, if_pos rfl], by rw [e5, if_pos rfl], q3.set hlt hz hset, q4.set hlt, fun t ht hf => ?_⟩
            simp only at hf
            by_cases h1 : t = p
            · rw [if_pos h1] at hf; cases hf
            · rw [if_neg h1] at hf
              have h5 := q5 t ht hf
              show (if t < i + (jj + 1) then cv a b (i + 1) t else cv a b i t) = g0
              rw [hset t ht, if_neg h1]
              exact h5
          simp [f1, f3, f4, f5, f9, f10, f52, f53, f54, hj, idx_L _ _ _ _ _ _ hj, hmb, hy, run_mul, hwij, idx_B _ _ _ _ _ _ hlt, idx_L _ _ _ _ _ _ hlt, q1, q2, hcell]
          cases hth : th p with
          | true =>
            have hsum : WC (cadd w (cmul x y)) (cv a b (i + 1) p) := by
              rw [hcv]
              exact hww.addB hp (b := (far, 0)) (by rw [← hcv]; exact BN.real (by decide) (hc _ _)) (by decide)
            simp [f1, f4, f5, idx_L _ _ _ _ _ _ hlt, idx_B _ _ _ _ _ _ hlt, q1, hwv, run_add]
            refine storeQ_one (cs := cells) (sz := 1) (gr := false) (by simp [q1]) (by simp) (cells_cx _) (by rw [q3.1]; exact hlt) fun m4 n4 _ e4 => ?_
            simp only [Mem.next_rd, Mem.at_rd] at n4 e4
            simp [f1, f5, idx_B _ _ _ _ _ _ hlt]
            refine storeQ_one (cs := tc) (sz := 1) (gr := false) (by rw [e4, if_neg (by omega)]; exact q2) (by simp) rfl (by rw [q4.1]; exact hlt) fun m5 n5 _ e5 => ?_
            simp [f1, f54, hwj]
            exact ⟨q - 1, by omega, jj + 1, by omega, ⟨by simp [f1], by simp [f2], by simp [f3], by simp [f4], by simp [f5], by simp [f6], by simp [f7], by simp [f8]⟩, by simp [f9], by simp [f10], by simp [f52], by simp [f53], by simp, hfin _ m2 hsum (fun _ => rfl) rfl m4 m5 n4 e4 n5 e5⟩
          | false =>
            have hz0 := q5 p hlt hth
            simp only [hpe, Nat.lt_irrefl, if_false] at hz0
            have hsum : WC (cmul x y) (cv a b (i + 1) p) := by
              rw [hcv, hpe, hz0, zero_gadd]
              exact hp
            simp [f1, f4, f5, idx_L _ _ _ _ _ _ hlt, idx_B _ _ _ _ _ _ hlt]
            refine storeQ_one (cs := cells) (sz := 1) (gr := false) (by simp [q1]) (by simp) (cells_cx _) (by rw [q3.1]; exact hlt) fun m4 n4 _ e4 => ?_
            simp only [Mem.next_rd, Mem.at_rd] at n4 e4
            simp [f1, f5, idx_B _ _ _ _ _ _ hlt]
            refine storeQ_one (cs := tc) (sz := 1) (gr := false) (by rw [e4, if_neg (by omega)]; exact q2) (by simp) rfl (by rw [q4.1]; exact hlt) fun m5 n5 _ e5 => ?_
            simp [f1, f54, hwj]
            exact ⟨q - 1, by omega, jj + 1, by omega, ⟨by simp [f1], by simp [f2], by simp [f3], by simp [f4], by simp [f5], by simp [f6], by simp [f7], by simp [f8]⟩, by simp [f9], by simp [f10], by simp [f52], by simp [f53], by simp, hfin _ m2 hsum (fun _ => rfl) rfl m4 m5 n4 e4 n5 e5⟩
        · obtain rfl : jj = k := by omega
          simp [f1, f53, f54]
          refine ⟨rfl, ⟨by simp [f1], by simp [f2], by simp [f3], by simp [f4], by simp [f5], by simp [f6], by simp [f7], by simp [f8]⟩, hM.keep (Sm.refl _) fun t => ?_⟩
          by_cases h : t < i + jj
          · rw [if_pos h]
          · rw [if_neg h, cv_high hb.ends (by omega)]
      · rintro ⟨e, fr2⟩ m2 ⟨he', ⟨f1, f2, f3, f4, f5, f6, f7, f8⟩, hM2⟩
        obtain rfl : e = .exit 2 := he'
        simp only at f1 f2 f3 f4 f5 f6 f7 f8
        simp [f1, f8, hwi]
        exact ⟨j - 1, by omega, i + 1, by omega, ⟨by simp [f1], by simp [f2], by simp [f3], by simp [f4], by simp [f5], by simp [f6], by simp [f7], by simp⟩, hM2⟩
    · obtain rfl : i = n := by omega
      simp [f1, f3, f4, f5, f6, f7, f8]
      exact ⟨rfl, by simp [f1], by simp [f2], by simp [f4], hM⟩
  · rintro ⟨e, fr'⟩ m' ⟨he', f1, f2, f4, hM⟩
    obtain rfl : e = .exit 0 := he'
    simp only at f1 f2 f4
    obtain ⟨cells, tc, th, q1, q2, q3, q4, q5⟩ := hM.ex
    simp [f1, f4]
    refine answered_ok _ (PL.own q1 q3) (by omega) (by omega) (hc n) fun m2 n' hs2 h1 h2 h3 h4 => ?_
    simp [f1, f2]
    exact hQ m2 _ n' (hM.up.trans hs2.up) (by omega) ⟨((PL.own q1 q3).keep hs2.2).less h2 (Nat.le_refl _), ⟨h1, by omega, hc n, h4⟩, ends_of (fun t ht => cv_ends hb.ends n t (by omega)) h3⟩ ⟨_, _, _, _, _, rfl, hM.bo1, by rw [hs2.2]; exact q1, rfl, rfl⟩
end
end Go.Proofs.Ytonmjdhdkkmjlaa
