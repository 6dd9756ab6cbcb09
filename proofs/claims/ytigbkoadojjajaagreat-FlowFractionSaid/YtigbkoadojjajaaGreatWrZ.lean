/- Flows in the clean executor: flow.Fraction. -/
import Derived.Test.YtigbkoadojjajaaGreatWlZ
import Derived.Test.YtigbkoadojjajaaGreatQuZ
set_option linter.unusedSimpArgs false
set_option linter.unusedVariables false
namespace Go.Proofs.YtigbkoadojjajaaGreat
open Go.Clean
theorem RP.other {m m' : Mem} {v : Value} {n : Nat} {c : PG} (h : RP m v n c) {p : Nat} {x : Blk} (hp : m.at p = some ⟨[nilL, nilL], 1, false, false⟩) (e : ∀ b, m'.at b = if b = p then some x else m.at b) : RP m' v n c := by
  refine ⟨?_, h.ok, h.ends⟩
  obtain ⟨b, o, k, y, h1, h2, h3, h4, h5⟩ := h.pl
  refine ⟨b, o, k, y, h1, h2, ?_, h4, h5⟩
  rw [e]
  by_cases hb : b = p
  · subst hb
    rw [hp] at h3
    cases h3
    obtain ⟨z, hz, _⟩ := h5 0 h.ok.pos
    match o, hz with
    | 0, hz => cases hz
    | 1, hz => cases hz
    | o + 2, hz => simp at hz
  · rw [if_neg hb]
    exact h3
/-- A frame of Fraction's. -/
structure FF (fr : Fr) (p1 p2 : Nat) : Prop where
  fn : fr.n = 83
  fd : fr.d = []
  a1 : fr.at 1 = .pointer (some ⟨p1, 0, none⟩)
  a2 : fr.at 2 = .pointer (some ⟨p2, 0, none⟩)
/-- What lies in its memory. -/
structure FM (m0 m' : Mem) (v : Value) (p1 p2 : Nat) : Prop where
  up : Up m0 m'
  b2 : m0.next ≤ p2
  c1 : m'.at p1 = some ⟨[v], 1, false, false⟩
  c2 : m'.at p2 = some ⟨[nilL, nilL], 1, false, false⟩
theorem FM.to {m0 m m' : Mem} {v : Value} {p1 p2 : Nat} (h : FM m0 m v p1 p2) (hw : MW m0) (u : Up m m') : FM m0 m' v p1 p2 := ⟨h.up.trans u, h.b2, u.at h.c1 (h.up.wf hw), u.at h.c2 (h.up.wf hw)⟩
def faI (m0 : Mem) (v : Value) (p1 p2 n : Nat) (k : Nat) (fr : Fr) (m' : Mem) : Prop := ∃ i, i + k = n ∧ FF fr p1 p2 ∧ fr.at 23 = v ∧ fr.at 24 = .int .i64 (n : Nat) ∧ fr.at 25 = .int .i64 (i : Nat) ∧ FM m0 m' v p1 p2
def faR (m0 : Mem) (v : Value) (p1 p2 : Nat) : CQ := fun r m' => r.1 = .exit 0 ∧ FF r.2 p1 p2 ∧ FM m0 m' v p1 p2
def fbI (m0 : Mem) (v vl vb : Value) (p1 p2 : Nat) (qs : List W3) (l : List (C × G)) (k : Nat) (fr : Fr) (m' : Mem) : Prop := ∃ i nt, i + k = qs.length ∧ FF fr p1 p2 ∧ fr.at 8 = vl ∧ fr.at 9 = vb ∧ fr.at 54 = v ∧ fr.at 55 = .int .i64 qs.length ∧ fr.at 56 = .int .i64 (i : Nat) ∧ FM m0 m' v p1 p2 ∧
  OW m0.next m' vl (l.map (·.1)) ∧ RP m' vb (l.length + 1) (ofZ (zf l) l.length) ∧ nt ≤ 12 ∧ RP m' (fr.at 11) nt (topT qs l i)
def fbR (m0 : Mem) (v vb : Value) (p1 p2 : Nat) (qs : List W3) (l : List (C × G)) : CQ := fun r m' => r.1 = .exit 2 ∧ ∃ nt, FF r.2 p1 p2 ∧ r.2.at 9 = vb ∧ FM m0 m' v p1 p2 ∧ RP m' vb (l.length + 1) (ofZ (zf l) l.length) ∧ nt ≤ 12 ∧ RP m' (r.2.at 11) nt (topT qs l qs.length)
section
set_option maxRecDepth 10000
set_option maxHeartbeats 2000000 in
theorem fraction_ok (d : Nat) {m : Mem} {v : Value} {qs : List W3} (hw : MW m) (hv : EL m v (qs.map (·.1))) (hl : qs.length ≤ 3) (hqs : ∀ q ∈ qs, EQ q) {Q : Value → Mem → Prop}
    (hQ : ∀ m' vt nt vb, Up m m' → nt ≤ 12 → RP m' vt nt (topT qs (rl qs) qs.length) → RP m' vb ((rl qs).length + 1) (ofZ (zf (rl qs)) (rl qs).length) → Q (.tuple ⟨[frV vt vb, .bool true, .int .i64 0]⟩) m') :
    Gives (callN Tryz.prog known (d + 14) 7 [.agg ⟨[v]⟩]) m Q := by
  refine gives_fn (nt := 83) rfl Tryz.func7 rfl rfl rfl (Nat.le_of_ble_eq_true rfl) fun fr hn hd hargs => ?_
  have h0 : fr.at 0 = _ := hargs 0 _ rfl
  clear hargs
  have hlen := hv.len
  rw [List.length_map] at hlen
  obtain ⟨m1, hm1⟩ : ∃ m1, m1 = (m.nw ⟨[v], 1, false, false⟩).nw ⟨[nilL, nilL], 1, false, false⟩ := ⟨_, rfl⟩
  have u1 : Up m m1 := by rw [hm1]; exact (Up.nw _ _).trans (Up.nw _ _)
  have f1 : FM m m1 v m.next (m.next + 1) := ⟨u1, by omega, by rw [hm1]; simp, by rw [hm1]; simp⟩
  refine (code_seq _ _ _ _ _).2 ?_
  simp [h0, hn, hv.one, -code_seq]
  rw [← hm1]
  simp [hn, f1.c1]
  have hes : ∀ e ∈ qs.map (·.1), e.OK := fun e he => by
    obtain ⟨q, hq, rfl⟩ := List.mem_map.1 he
    exact (hqs q hq).ok
  have hl' : (qs.map (·.1)).length ≤ 3 := by simpa using hl
  have u1' : Up m (m1.rd m.next) := u1.trans (Up.rd _ _)
  refine fcheck_ok _ (u1'.wf hw) (hv.up hw u1') hl' hes fun m2 u2 => ?_
  have f2 := f1.to hw ((Up.rd _ _).trans u2)
  simp [hn, f2.c1, hlen]
  have f3 := f2.to hw (Up.rd m2 m.next)
  refine code_loop_post (faR m v m.next (m.next + 1)) (faI m v m.next (m.next + 1) qs.length) qs.length (by omega) ⟨0, by omega, ⟨by simp [hn], by simp [hd], by simp, by simp⟩, by simp, by simp, by simp, f3⟩ ?_ ?_
  · rintro k f m3 ⟨i, hik, ⟨g1, g2, g3, g4⟩, g5, g6, g7, fm⟩
    have hvm := hv.up hw fm.up
    by_cases hi : i < qs.length
    · have hq := hqs _ (List.getElem_mem hi)
      have hi' : i < (qs.map (·.1)).length := by simpa using hi
      rcases hvm with ⟨h, -⟩ | ⟨hne, b, hv2, hb2⟩
      · rw [List.map_eq_nil_iff.1 h] at hi
        simp at hi
      · rw [List.length_map] at hv2
        simp [g1, g5, g6, g7, hi, hv2, idx_El _ _ _ _ hi, hb2, ld_El' hi', zero_El]
        refine ⟨rfl, storeQ_rule (y := ⟨[.int .u8 0, .complex .f64 0 0, .complex .f64 0 0, .float .f64 0], 1, false, false⟩) (by simp) rfl (by rw [sto_El]; rfl) (l := (qs[i]'hi).1.cells) rfl fun m4 n4 l4 e4 => ?_⟩
        simp only [Mem.next_rd, Mem.next_nw, Mem.at_rd, Mem.at_nw] at n4 e4
        have u4 : Up m3 m4 := Up.wr (m1 := (m3.rd b).nw ⟨[.int .u8 0, .complex .f64 0 0, .complex .f64 0 0, .float .f64 0], 1, false, false⟩) (Up.trans (Up.rd _ _) (Up.nw _ _)) (Nat.le_refl _) (by simp) (by simpa using n4) (fun c => by simpa using e4 c)
        have e5 : m4.at m3.next = some ⟨elL qs[i].1.k qs[i].1.a qs[i].1.s qs[i].1.p, 1, false, false⟩ := by rw [e4, if_pos rfl]; rfl
        have hwi := wrap_succ i (by omega)
        have n34 : m3.next < m4.next := by omega
        by_cases hk4 : qs[i].1.k = 4
        · have hkp := hq.ok.kp
          rw [hk4] at hkp
          rcases hkp.three with ⟨h, _⟩ | ⟨h, _⟩ | ⟨_, hfp, _, hn123⟩
          · cases h
          · cases h
          · simp [g1, e5, hk4, yieldX, boolOf_bool]
            refine gives_build4 ?_
            obtain ⟨m5, hm5⟩ : ∃ m5, m5 = (m4.rd m3.next).nw ⟨cs4, 1, false, false⟩ := ⟨_, rfl⟩
            have u5 : Up m4 m5 := by rw [hm5]; exact (Up.rd _ _).trans (Up.nw _ _)
            have e6 : m5.at m3.next = some ⟨elL qs[i].1.k qs[i].1.a qs[i].1.s qs[i].1.p, 1, false, false⟩ := by rw [hm5]; simp [e5, show m3.next ≠ m4.next by omega]
            have e7 : m5.at m4.next = some ⟨cs4, 1, false, false⟩ := by rw [hm5]; simp
            rw [← hm5]
            simp [g1, e6, hfp, yieldX, boolOf_bool]
            refine fcontains_ok _ (n := qs[i].1.n) (gr := false) (ro := false) (by simpa using e7) (by omega) (by omega) fun m6 s6 => ?_
            simp [g1, g7, hwi, yieldX, boolOf_bool]
            rw [← hv2]
            exact ⟨k - 1, by omega, i + 1, by omega, ⟨by simp [g1], by simp [g2], by simp [g3], by simp [g4]⟩, by simp [g5], by simp [g6], by simp, fm.to hw (u4.trans (u5.trans ((Up.rd _ _).trans s6.up)))⟩
        · simp [g1, e5, hk4, yieldX, boolOf_bool, g7, hwi]
          rw [← hv2]
          exact ⟨k - 1, by omega, i + 1, by omega, ⟨by simp [g1], by simp [g2], by simp [g3], by simp [g4]⟩, by simp [g5], by simp [g6], by simp, fm.to hw (u4.trans (Up.rd _ _))⟩
    · have : i = qs.length := by omega
      subst this
      simp [g1, g6, g7]
      exact ⟨rfl, ⟨by simp [g1], by simp [g2], by simp [g3], by simp [g4]⟩, fm⟩
  · rintro ⟨e, f⟩ m3 ⟨he, ⟨g1, g2, g3, g4⟩, fm⟩
    obtain rfl : e = .exit 0 := he
    simp only at g1 g2 g3 g4
    simp [g1, g3, fm.c1]
    have hv3 := hv.up hw (fm.up.trans (Up.rd _ m.next))
    have hpl : pl qs = qs.map fun q => (q.1, q.2.1) := rfl
    refine roots_ok _ ((fm.up.trans (Up.rd _ m.next)).wf hw) (ps := pl qs) (by rw [hpl, List.map_map]; exact hv3) (by rw [hpl]; simpa using hl) (pl_pe hqs) fun m4 v4 u4 w4 => ?_
    have hnear := rl_near hqs
    have hlr := rl_len hqs hl
    have hrl : rootsGo (pl qs) (pl qs) [] = rl qs := rfl
    rw [hrl] at w4
    obtain ⟨l, hll⟩ : ∃ l, l = rl qs := ⟨_, rfl⟩
    rw [← hll] at w4 hnear hlr hQ
    clear hll hrl
    have f4 := fm.to hw ((Up.rd _ _).trans u4)
    have w4' : OW m.next m4 v4 (l.map (·.1)) := by
      rcases w4 with h | ⟨h, b, h1, h2, h3⟩
      · exact .inl h
      · exact .inr ⟨h, b, h1, h2, Nat.le_trans (fm.up.trans (Up.rd _ m.next)).next h3⟩
    simp [g1]
    have hz := w4'.zl fun x hx => (hnear x hx).1
    refine of_ok _ (f4.up.wf hw) hz (by omega) (fun i => (zf_bn hnear i).2.2.mono (by decide) (by decide)) (zf_bn hnear) (fun i t hi => Int.le_trans (ofB_mono t (show i ≤ 9 by omega)) (Int.le_trans (DB_le t) (by decide))) fun m5 v5 n5 u5 hn5 r5 => ?_
    obtain rfl := r5.full hn5
    have f5 := f4.to hw u5
    have w5 := w4'.up (f4.up.wf hw) u5
    simp [g1]
    rw [cx_zero]
    refine gives_build1 bs_C (cells_cx _) (one_cx _) ?_
    obtain ⟨m6, hm6⟩ : ∃ m6, m6 = m5.nw ⟨[cx (some 0, some 0)], 1, false, false⟩ := ⟨_, rfl⟩
    have u6 : Up m5 m6 := by rw [hm6]; exact Up.nw _ _
    have c6 : m6.at m5.next = some ⟨[cx (some 0, some 0)], 1, false, false⟩ := by rw [hm6]; simp
    have f6 := f5.to hw u6
    have w6 := w5.up (f5.up.wf hw) u6
    have r6 := r5.up (f5.up.wf hw) u6
    have t6 : RP m6 (.slice (some ⟨m5.next, 0, none⟩) 1 1) 1 (topT qs l 0) := (rp_cst c6 WC.zero (by unfold NB g0; decide)).congr fun k => by unfold cst; split <;> rfl
    rw [← hm6]
    simp [g1, g3, f6.c1, hlen]
    have u7 := Up.rd m6 m.next
    have mw6 := f6.up.wf hw
    refine code_loop_post (fbR m v v5 m.next (m.next + 1) qs l) (fbI m v v4 v5 m.next (m.next + 1) qs l) qs.length (by omega) ⟨0, 1, by omega, ⟨by simp [g1], by simp [g2], by simp [g3], by simp [g4]⟩, by simp, by simp, by simp, by simp, by simp, f6.to hw u7, w6.up mw6 u7, r6.up mw6 u7, by omega, by simpa using t6.up mw6 u7⟩ ?_ ?_
    · rintro k f m7 ⟨i, nt, hik, ⟨g1, g2, g3, g4⟩, g8, g9, g54, g55, g56, fm7, w7, r7, hnt, t7⟩
      have mw7 := fm7.up.wf hw
      by_cases hi : i < qs.length
      · have hq := hqs _ (List.getElem_mem hi)
        have hi' : i < (qs.map (·.1)).length := by simpa using hi
        have hwi := wrap_succ i (by omega)
        rcases hv.up hw fm7.up with ⟨h, -⟩ | ⟨hne, b, hv2, hb2⟩
        · rw [List.map_eq_nil_iff.1 h] at hi
          simp at hi
        · rw [List.length_map] at hv2
          simp [g1, g54, g55, g56, hi, hv2, idx_El _ _ _ _ hi, hb2, ld_El' hi', zero_El]
          refine ⟨rfl, storeQ_rule (y := ⟨[.int .u8 0, .complex .f64 0 0, .complex .f64 0 0, .float .f64 0], 1, false, false⟩) (by simp) rfl (by rw [sto_El]; rfl) (l := (qs[i]'hi).1.cells) rfl fun m8 n8 l8 e8 => ?_⟩
          simp only [Mem.next_rd, Mem.next_nw, Mem.at_rd, Mem.at_nw] at n8 e8
          have u8 : Up m7 m8 := Up.wr (m1 := (m7.rd b).nw ⟨[.int .u8 0, .complex .f64 0 0, .complex .f64 0 0, .float .f64 0], 1, false, false⟩) (Up.trans (Up.rd _ _) (Up.nw _ _)) (Nat.le_refl _) (by simp) (by simpa using n8) (fun c => by simpa using e8 c)
          have e9 : m8.at m7.next = some ⟨elL qs[i].1.k qs[i].1.a qs[i].1.s qs[i].1.p, 1, false, false⟩ := by rw [e8, if_pos rfl]; rfl
          have u9 : Up m7 (m8.rd m7.next) := u8.trans (Up.rd _ _)
          simp [g1, g8, g9, e9]
          have w9 : OW 0 (m8.rd m7.next) v4 (l.map (·.1)) := by
            rcases w7.up mw7 u9 with h | ⟨h, b, h1, h2, h3⟩
            · exact .inl h
            · exact .inr ⟨h, b, h1, h2, Nat.zero_le _⟩
          refine part_ok _ (u9.wf mw7) hq w9 hnear hlr (r7.up mw7 u9) fun m10 v10 n10 u10 hn10 r10 => ?_
          have u710 := u9.trans u10
          have hT : topT qs l (i + 1) = fun t => gadd (topT qs l i t) (partT qs[i] l t) := by
            funext t
            show gadd (topT qs l i t) (match qs[i]? with
              | some q => partT q l t
              | none => g0) = _
            rw [List.getElem?_eq_getElem hi]
          simp [g1, yieldX, boolOf_bool]
          refine add_ok _ (u710.wf mw7) (t7.up mw7 u710) r10 (fun t => ?_) fun m11 v11 n11 u11 hn11 r11 => ?_
          · have h := topT_3 hqs hnear hlr t (show i + 1 ≤ 3 by omega)
            rw [hT] at h
            refine h.2.2.mono h.1 ?_
            have h2 := DT_le t
            have e36 : far = 1099511627776 := rfl
            show 3 * (DT t).1 - 0 * (DT t).2 ≤ _
            omega
          · have u711 := u710.trans u11
            have hmx : n11 ≤ 12 := Nat.le_trans hn11 (Nat.max_le.2 ⟨hnt, hn10⟩)
            simp [g1, g56, hwi, yieldX, boolOf_bool]
            exact ⟨k - 1, by omega, i + 1, n11, by omega, ⟨by simp [g1], by simp [g2], by simp [g3], by simp [g4]⟩, by simp [g8], by simp [g9], by simp [g54, hv2], by simp [g55], by simp, by rw [← hv2]; exact fm7.to hw u711, w7.up mw7 u711, r7.up mw7 u711, hmx, by rw [hT]; simpa using r11⟩
      · have : i = qs.length := by omega
        subst this
        simp [g1, g55, g56]
        exact ⟨rfl, nt, ⟨by simp [g1], by simp [g2], by simp [g3], by simp [g4]⟩, by simp [g9], fm7, r7, hnt, by simpa using t7⟩
    · rintro ⟨e, f⟩ m7 ⟨he, nt, ⟨g1, g2, g3, g4⟩, g9, fm7, r7, hnt, t7⟩
      obtain rfl : e = .exit 2 := he
      simp only at g1 g2 g3 g4 g9 t7
      obtain ⟨vt, hvt⟩ : ∃ vt, vt = f.at 11 := ⟨_, rfl⟩
      rw [← hvt] at t7
      simp [g1, g2, g4, g9, ← hvt, build_F t7.pl.cells r7.pl.cells]
      refine storeQ_rule (y := ⟨[nilL, nilL], 1, false, false⟩) fm7.c2 rfl (by rw [sto_F]; simp [t7.pl.one', r7.pl.one']) (l := [vt, v5]) (by simp; rfl) fun m8 n8 l8 e8 => ?_
      have u8 : Up m m8 := fm7.up.wr (x := ⟨[vt, v5], 1, false, false⟩) fm7.b2 ((fm7.up.wf hw) _ _ fm7.c2) n8 (fun c => by rw [e8])
      have hvt8 : RP m8 vt nt (topT qs l qs.length) := t7.other fm7.c2 e8
      have hvb8 : RP m8 v5 (l.length + 1) (ofZ (zf l) l.length) := r7.other fm7.c2 e8
      have a8 : m8.at (m.next + 1) = some ⟨[vt, v5], 1, false, false⟩ := by rw [e8, if_pos rfl]
      simp [g1, g2, g4, a8]
      refine hQ _ vt nt v5 (u8.trans (Up.rd _ _)) hnt (hvt8.keep fun c => by simp) (hvb8.keep fun c => by simp)
end
end Go.Proofs.YtigbkoadojjajaaGreat

/- Flows in the clean executor: ratio.At. -/
namespace Go.Proofs.YtigbkoadojjajaaGreat
open Go.Clean
theorem under_A2 : Tryz.prog.underlying 90 = some (.array 2 33) := by kernel_rfl
theorem zero_A2 : zeroT Tryz.prog 90 = some (.agg ⟨[nilL, nilL]⟩) := by kernel_rfl
@[simp] theorem build_A2 {x y : Value} (hx : cellsV x = [x]) (hy : cellsV y = [y]) : buildX Tryz.prog 90 [(0, x), (1, y)] = some (.agg ⟨[x, y]⟩) := by
  unfold buildX
  simp only [zero_A2, under_A2, size_L]
  simp [fillX, layK, Nat.blt, Nat.ble, hx, hy]
@[simp] theorem index_A20 (x y : Value) : indexX Tryz.prog 90 (.agg ⟨[x, y]⟩) (.int .i64 0) = some x := by
  unfold indexX
  simp [under_A2, partX]
@[simp] theorem index_A21 (x y : Value) : indexX Tryz.prog 90 (.agg ⟨[x, y]⟩) (.int .i64 1) = some y := by
  unfold indexX
  simp [under_A2, partX]
section
set_option maxRecDepth 10000
theorem run_rnought (n : Nat) (x : C) (m : Mem) (Q : Value → Mem → Prop) : Gives (callN Tryz.prog known (n + 1) 76 [cx x]) m Q ↔ Q (.bool (cnought x)) m := by
  refine gives_pure (fun m => ?_) m Q
  refine gives_fn (nt := 11) rfl Tryz.func76 rfl rfl rfl (Nat.le_of_ble_eq_true rfl) fun fr hn hd hargs => ?_
  have h0 : fr.at 0 = _ := hargs 0 _ rfl
  clear hargs
  cases hg : feq x.1 (some 0) <;>
  simp [h0, hn, hd, cx, cnought, hg, yieldX, bin_z]
theorem rnone_ok (d : Nat) {m : Mem} {v : Value} {n : Nat} {c : PG} (hv : PL m v n c) (hn0 : 0 < n) (hc : c (n - 1) ≠ g0) {Q : Value → Mem → Prop} (hQ : ∀ m', Sm m m' → Q (.bool false) m') :
    Gives (callN Tryz.prog known (d + 2) 54 [v]) m Q := by
  refine gives_fn (nt := 12) rfl Tryz.func54 rfl rfl rfl (Nat.le_of_ble_eq_true rfl) fun fr hn hd hargs => ?_
  have h0 : fr.at 0 = _ := hargs 0 _ rfl
  clear hargs
  obtain ⟨b, o, k, x, rfl, _, hb, hs, he⟩ := hv
  by_cases h1 : n = 1
  · subst h1
    obtain ⟨z, hz, hwz⟩ := he 0 (by omega)
    have hl : cnought z = false := by rw [hwz.nought]; exact decide_eq_false hc
    have hi := idx_L b o 1 k 0 .i64 (by omega)
    simp at hi hz
    simp [h0, hn, hd, yieldX, hi, hb, hz, run_rnought, hl]
    exact hQ _ (Sm.rd _ _)
  · simp [h0, hn, hd, yieldX, show ¬ (n : Int) = 1 by omega]
    exact hQ _ (Sm.refl m)
def rkI (m : Mem) (va vb : Value) (j : Nat) (fr : Fr) (m' : Mem) : Prop := ∃ i, i + j = 2 ∧ fr.n = 23 ∧ fr.d = [] ∧ fr.at 1 = .pointer (some ⟨m.next, 0, none⟩) ∧ fr.at 10 = .agg ⟨[va, vb]⟩ ∧ fr.at 11 = .int .i64 (i : Nat) ∧ Up m m' ∧ m.next < m'.next ∧ m'.at m.next = some ⟨[va, vb], 1, false, false⟩
theorem rcheck_ok (d : Nat) {m : Mem} {va vb : Value} {n k : Nat} {a b : PG} (hw : MW m) (ha : RP m va n a) (hb : RP m vb k b) (hb0 : b (k - 1) ≠ g0) {Q : Value → Mem → Prop} (hQ : ∀ m', Up m m' → Q (.int .i64 0) m') :
    Gives (callN Tryz.prog known (d + 9) 25 [frV va vb]) m Q := by
  refine gives_fn (nt := 23) rfl Tryz.func25 rfl rfl rfl (Nat.le_of_ble_eq_true rfl) fun fr hn hd hargs => ?_
  have h0 : fr.at 0 = _ := hargs 0 _ rfl
  clear hargs
  have oa := ha.pl.one'
  have ob := hb.pl.one'
  simp [h0, hn, oa, ob, ha.pl.cells, hb.pl.cells]
  have hu1 := Up.nw m ⟨[va, vb], 1, false, false⟩
  refine code_loop (rkI m va vb) 2 (by omega) ⟨0, by omega, by simp [hn], by simp [hd], by simp, by simp, by simp, hu1.trans ((Up.rd _ _).trans (Up.rd _ _)), by simp, by simp⟩ ?_
  rintro j fr' m' ⟨i, hij, f1, f2, g1, g10, g11, hu, hlt, hm⟩
  have hw' := hu.wf hw
  by_cases h0 : i = 0
  · subst h0
    simp [f1, g10, g11]
    refine check_ok _ (ha.pl.up hw hu) ha.ok fun m2 hs => ?_
    have hw1 : IntKind.i64.wrap 1 = 1 := rfl
    simp [f1, g11, hw1]
    exact ⟨1, by omega, 1, by omega, by simp [f1], by simp [f2], by simp [g1], by simp [g10], by simp, hu.trans hs.up, by rw [hs.1]; exact hlt, by rw [hs.2]; exact hm⟩
  · by_cases h1 : i = 1
    · subst h1
      simp [f1, g10, g11]
      refine check_ok _ (hb.pl.up hw hu) hb.ok fun m2 hs => ?_
      have hw1 : IntKind.i64.wrap 2 = 2 := rfl
      simp [f1, g11, hw1]
      exact ⟨0, by omega, 2, by omega, by simp [f1], by simp [f2], by simp [g1], by simp [g10], by simp, hu.trans hs.up, by rw [hs.1]; exact hlt, by rw [hs.2]; exact hm⟩
    · obtain rfl : i = 2 := by omega
      simp [f1, g1, g11, hm]
      refine rnone_ok _ ((hb.pl.up hw hu).keep fun _ => by simp) hb.ok.pos hb0 fun m2 hs => ?_
      simp [f1, f2]
      exact hQ _ (hu.trans ((Up.rd _ _).trans hs.up))
theorem run_quot1 (n : Nat) (x y : C) (h : cnought y = false) (hf : cfin (cdiv x y) = true) (m : Mem) (Q : Value → Mem → Prop) : Gives (callN Tryz.prog known (n + 4) 56 [cx x, cx y]) m Q ↔ Q (.tuple ⟨[cx (cdiv x y), .int .i64 0]⟩) m := by
  refine gives_pure (fun m => ?_) m Q
  refine gives_fn (nt := 16) rfl Tryz.func56 rfl rfl rfl (Nat.le_of_ble_eq_true rfl) fun fr hn hd hargs => ?_
  have h0 : fr.at 0 = _ := hargs 0 _ rfl
  have h1 : fr.at 1 = _ := hargs 1 _ rfl
  clear hargs
  simp [h0, h1, hn, hd, run_rnought, h, run_div, run_finite, hf]
theorem rvalue_ok (d : Nat) {m : Mem} {va vb : Value} {n k : Nat} {a b D E : PG} {z : C} {g : G} (hw : MW m) (ha : RP m va n a) (hb : RP m vb k b) (hz : WC z g) (hg : NB g 6) (hD : ∀ t, BN (a t) (D t)) (hE : ∀ t, BN (b t) (E t)) (tD : (hs n D Z6).1 ≤ top) (tE : (hs k E Z6).1 ≤ top) (h0 : hs k b g ≠ g0)
    (hfin : ∀ u w, WC u (hs n a g) → WC w (hs k b g) → cfin (cdiv u w) = true) {Q : Value → Mem → Prop}
    (hQ : ∀ m' u w, Up m m' → WC u (hs n a g) → WC w (hs k b g) → Q (.tuple ⟨[cx (cdiv u w), .int .i64 0]⟩) m') :
    Gives (callN Tryz.prog known (d + 11) 26 [va, vb, cx z]) m Q := by
  refine gives_fn (nt := 34) rfl Tryz.func26 rfl rfl rfl (Nat.le_of_ble_eq_true rfl) fun fr hn hd hargs => ?_
  have h0' : fr.at 0 = _ := hargs 0 _ rfl
  have h1 : fr.at 1 = _ := hargs 1 _ rfl
  have h2 : fr.at 2 = _ := hargs 2 _ rfl
  clear hargs
  have hgf : NB g far := hg.mono (by decide) (by decide)
  have hgZ : BN g Z6 := BN.real (by decide) hg
  simp [h0', h2, hn]
  refine at_ok _ hw ha.pl ha.ok hz hgf hD hgZ (by decide) tD fun m1 u u1 wu => ?_
  simp [h1, h2, hn]
  refine at_ok _ (u1.wf hw) (hb.pl.up hw u1) hb.ok hz hgf hE hgZ (by decide) tE fun m2 w u2 ww => ?_
  have hc : cnought w = false := by rw [ww.nought]; exact decide_eq_false h0
  simp [hn]
  rw [run_quot1 _ _ _ hc (hfin u w wu ww)]
  simp [hn, hd]
  exact hQ _ u w (u1.trans u2) wu ww
theorem rat_ok (d : Nat) {m : Mem} {va vb : Value} {n k : Nat} {a b D E : PG} {z : C} {g : G} (hw : MW m) (ha : RP m va n a) (hb : RP m vb k b) (hb0 : b (k - 1) ≠ g0) (hz : WC z g) (hg : NB g 6) (hD : ∀ t, BN (a t) (D t)) (hE : ∀ t, BN (b t) (E t)) (tD : (hs n D Z6).1 ≤ top) (tE : (hs k E Z6).1 ≤ top) (h0 : hs k b g ≠ g0)
    (hfin : ∀ u w, WC u (hs n a g) → WC w (hs k b g) → cfin (cdiv u w) = true) {Q : Value → Mem → Prop}
    (hQ : ∀ m' u w, Up m m' → WC u (hs n a g) → WC w (hs k b g) → Q (.tuple ⟨[cx (cdiv u w), .int .i64 0]⟩) m') :
    Gives (callN Tryz.prog known (d + 12) 9 [frV va vb, cx z]) m Q := by
  refine gives_fn (nt := 20) rfl Tryz.func9 rfl rfl rfl (Nat.le_of_ble_eq_true rfl) fun fr hn hd hargs => ?_
  have h0' : fr.at 0 = _ := hargs 0 _ rfl
  have h1 : fr.at 1 = _ := hargs 1 _ rfl
  clear hargs
  have oa := ha.pl.one'
  have ob := hb.pl.one'
  simp [h0', h1, hn, oa, ob]
  have u1 : Up m ((m.nw ⟨[va, vb], 1, false, false⟩).rd m.next) := (Up.nw _ _).trans (Up.rd _ _)
  refine rcheck_ok _ (u1.wf hw) (ha.up hw u1) (hb.up hw u1) hb0 fun m2 u2 => ?_
  have U2 := u1.trans u2
  have h3 : m2.at m.next = some ⟨[va, vb], 1, false, false⟩ := by rw [u2.old _ (by simp)]; simp
  simp [h1, hn, h3]
  have u3 : Up m2 ((m2.rd m.next).rd m.next) := (Up.rd _ _).trans (Up.rd _ _)
  have U3 := U2.trans u3
  refine rvalue_ok _ (U3.wf hw) (ha.up hw U3) (hb.up hw U3) hz hg hD hE tD tE h0 hfin fun m' u w u' wu ww => ?_
  simp [hn, hd]
  exact hQ _ u w (U3.trans u') wu ww
end
end Go.Proofs.YtigbkoadojjajaaGreat

/- Plain: the fraction's top and bottom at a place, in whole numbers. -/
namespace Go.Proofs.YtigbkoadojjajaaGreat
def pr (zs : Nat → G) (g : G) : Nat → G
  | 0 => g1
  | n + 1 => gmul (pr zs g n) (gsub g (zs n))
theorem hs_pr (zs : Nat → G) (g : G) : ∀ n, hs (n + 1) (ofZ zs n) g = pr zs g n
  | 0 => by
    show gadd (gmul g0 g) (ofZ zs 0 0) = g1
    rw [zero_gmul, zero_gadd]; rfl
  | n + 1 => by rw [hs_ofZ, hs_pr zs g n]; rfl
theorem pr_front (zs : Nat → G) (g : G) : ∀ n, pr zs g (n + 1) = gmul (gsub g (zs 0)) (pr (fun i => zs (i + 1)) g n)
  | 0 => by
    show gmul g1 (gsub g (zs 0)) = gmul (gsub g (zs 0)) g1
    rw [one_gmul, gmul_one]
  | n + 1 => by
    show gmul (pr zs g (n + 1)) (gsub g (zs (n + 1))) = _
    rw [pr_front zs g n, gmul_assoc]
    rfl
def prodL (g : G) : List (C × G) → G
  | [] => g1
  | x :: l => gmul (gsub g x.2) (prodL g l)
theorem pr_list (g : G) : ∀ l : List (C × G), pr (zf l) g l.length = prodL g l
  | [] => rfl
  | x :: l => by
    show pr (zf (x :: l)) g (l.length + 1) = _
    rw [pr_front]
    show gmul (gsub g x.2) (pr (zf l) g l.length) = _
    rw [pr_list g l]; rfl
theorem hs_list (l : List (C × G)) (g : G) : hs (l.length + 1) (ofZ (zf l) l.length) g = prodL g l := by rw [hs_pr, pr_list]
theorem gpow_succ (z : G) (n : Nat) : gpow z (n + 1) = gmul (gpow z n) z := rfl
theorem gpow_front (z : G) (n : Nat) : gpow z (n + 1) = gmul z (gpow z n) := by rw [gpow_succ, gmul_comm]
/-- How often a place is in a list. -/
def cnt (a : G) : List (C × G) → Nat
  | [] => 0
  | x :: l => (if x.2 = a then 1 else 0) + cnt a l
theorem less_zero (a : G) : ∀ l : List (C × G), lessL a 0 l = l
  | [] => rfl
  | x :: l => by show x :: lessL a 0 l = _; rw [less_zero a l]
theorem prod_less (g a : G) : ∀ (l : List (C × G)) (k : Nat), k ≤ cnt a l → prodL g l = gmul (gpow (gsub g a) k) (prodL g (lessL a k l))
  | l, 0, _ => by rw [less_zero]; show _ = gmul g1 _; rw [one_gmul]
  | [], k + 1, h => by simp [cnt] at h
  | x :: l, k + 1, h => by
    unfold cnt at h
    unfold lessL
    by_cases hx : x.2 = a
    · rw [if_pos hx] at h
      rw [if_pos hx, gpow_front, gmul_assoc, ← prod_less g a l k (by omega), ← hx]
      rfl
    · rw [if_neg hx] at h
      rw [if_neg hx]
      show gmul (gsub g x.2) (prodL g l) = gmul _ (gmul (gsub g x.2) (prodL g (lessL a (k + 1) l)))
      rw [prod_less g a l (k + 1) (by omega), ← gmul_assoc, gmul_comm (gsub g x.2), gmul_assoc]
theorem cnt_app (a : G) : ∀ (l r : List (C × G)), cnt a (l ++ r) = cnt a l + cnt a r
  | [], r => by simp [cnt]
  | x :: l, r => by show _ + cnt a (l ++ r) = _ + cnt a l + cnt a r; rw [cnt_app a l r]; omega
theorem cnt_rep (a : G) (c : C) : ∀ k, cnt a (List.replicate k (c, a)) = k
  | 0 => rfl
  | k + 1 => by
    show (if a = a then 1 else 0) + cnt a (List.replicate k (c, a)) = _
    rw [if_pos rfl, cnt_rep a c k]; omega
theorem roots_cnt {all : List (El × G)} {p : El × G} (hf : foldsN p.1.k p.1.n ≠ 0) : ∀ {l : List (El × G)} {seen : List G}, p ∈ l → ¬ p.2 ∈ seen → mostF p.2 all 0 ≤ cnt p.2 (rootsGo all l seen)
  | q :: l, seen, hp, hs => by
    rw [rootsGo_cons]
    split
    · rename_i h
      rcases List.mem_cons.1 hp with rfl | hp
      · rcases h with h | h
        · exact absurd h hf
        · exact absurd h hs
      · exact roots_cnt hf hp hs
    · rw [cnt_app]
      by_cases e : q.2 = p.2
      · rw [e, cnt_rep]; omega
      · rcases List.mem_cons.1 hp with rfl | hp
        · exact absurd rfl e
        · have := roots_cnt (all := all) hf (l := l) (seen := seen ++ [q.2]) hp (by
            intro h
            rcases List.mem_append.1 h with h | h
            · exact hs h
            · exact e (List.mem_singleton.1 h).symm)
          omega
theorem rl_cnt {qs : List W3} {q : W3} (hq : q ∈ qs) (h3 : q.1.k = 3) : q.1.n + 1 ≤ cnt q.2.1 (rl qs) := by
  have hm : (q.1, q.2.1) ∈ pl qs := List.mem_map.2 ⟨q, hq, rfl⟩
  have hf : foldsN q.1.k q.1.n = q.1.n + 1 := by unfold foldsN; rw [if_pos h3]
  have h1 := mostF_mem (g := q.2.1) (k := 0) hm rfl
  have h2 := roots_cnt (all := pl qs) (p := (q.1, q.2.1)) (by show foldsN q.1.k q.1.n ≠ 0; omega) hm (seen := []) (by simp)
  simp only at h1 h2
  rw [hf] at h1
  exact Nat.le_trans h1 h2
theorem g_nz {x y : G} (hx : x ≠ g0) (hy : y ≠ g0) : gmul x y ≠ g0 := by
  intro h
  have h1 : x.1 * y.1 - x.2 * y.2 = 0 := congrArg Prod.fst h
  have h2 : x.1 * y.2 + x.2 * y.1 = 0 := congrArg Prod.snd h
  have e : (x.1 * x.1 + x.2 * x.2) * (y.1 * y.1 + y.2 * y.2) = (x.1 * y.1 - x.2 * y.2) * (x.1 * y.1 - x.2 * y.2) + (x.1 * y.2 + x.2 * y.1) * (x.1 * y.2 + x.2 * y.1) := by grind
  rw [h1, h2] at e
  have pos : ∀ {z : G}, z ≠ g0 → z.1 * z.1 + z.2 * z.2 ≠ 0 := fun {z} hz h => by
    have a := sq_nonneg z.1
    have b := sq_nonneg z.2
    have a0 : z.1 * z.1 = 0 := by omega
    have b0 : z.2 * z.2 = 0 := by omega
    exact hz (gext (by rcases Int.mul_eq_zero.1 a0 with h | h <;> exact h) (by rcases Int.mul_eq_zero.1 b0 with h | h <;> exact h))
  rcases Int.mul_eq_zero.1 (e.trans (by decide)) with h | h
  · exact pos hx h
  · exact pos hy h
theorem gsub_nz {x y : G} (h : x ≠ y) : gsub x y ≠ g0 := fun e => h (gext (by have := congrArg Prod.fst e; simp [gsub, g0] at this; omega) (by have := congrArg Prod.snd e; simp [gsub, g0] at this; omega))
theorem gpow_nz {z : G} (h : z ≠ g0) : ∀ n, gpow z n ≠ g0
  | 0 => by show g1 ≠ g0; decide
  | n + 1 => g_nz (gpow_nz h n) h
theorem prodL_nz {g : G} : ∀ {l : List (C × G)}, (∀ x ∈ l, x.2 ≠ g) → prodL g l ≠ g0
  | [], _ => by show g1 ≠ g0; decide
  | x :: l, h => g_nz (gsub_nz fun e => h x (List.mem_cons_self ..) e.symm) (prodL_nz fun y hy => h y (List.mem_cons_of_mem _ hy))
/-- An element's exact speed at g, as one whole number over another. -/
def numQ (q : W3) (g : G) : G := if q.1.k = 1 then q.2.2 else if q.1.k = 3 then gmul q.2.2 (-(q.1.n : Int), 0) else gmul (gmul q.2.2 ((q.1.n : Int), 0)) (gpow (gsub g q.2.1) (q.1.n - 1))
def denQ (q : W3) (g : G) : G := if q.1.k = 3 then gpow (gsub g q.2.1) (q.1.n + 1) else g1
theorem pr_const (a g : G) : ∀ n, pr (fun _ => a) g n = gpow (gsub g a) n
  | 0 => rfl
  | n + 1 => by show gmul (pr (fun _ => a) g n) (gsub g a) = _; rw [pr_const a g n]; rfl
theorem partT_val {qs : List W3} {q : W3} (hq : q ∈ qs) (ho : EQ q) (hl : (rl qs).length ≤ 9) (g : G) : gmul (hs 12 (partT q (rl qs)) g) (denQ q g) = gmul (numQ q g) (prodL g (rl qs)) := by
  have hB : ∀ l : List (C × G), l.length ≤ 9 → hs 12 (ofZ (zf l) l.length) g = prodL g l := fun l h => by
    rw [hs_more (show l.length + 1 ≤ 12 by omega) (ofZ_ends _ _), hs_list]
  have hsc : ∀ (s : G) (c : PG), hs 12 (fun t => gmul s (c t)) g = gmul s (hs 12 c g) := fun s c => tl_scale s c g 12 0
  rcases ho.ok.kp.three with ⟨h, _, _⟩ | ⟨h, _, hn12⟩ | ⟨h, _, _, hn123⟩
  · unfold numQ denQ
    rw [partT_1 h, if_pos h, if_neg (by omega), hsc, hB _ hl, gmul_one]
  · have e1 : numQ q g = gmul q.2.2 (-(q.1.n : Int), 0) := (if_neg (by omega)).trans (if_pos h)
    have e2 : denQ q g = gpow (gsub g q.2.1) (q.1.n + 1) := if_pos h
    rw [e1, e2, partT_3 h, hsc, hB _ (Nat.le_trans (less_len _ _ _) hl), prod_less g q.2.1 (rl qs) (q.1.n + 1) (rl_cnt hq h), gmul_assoc, gmul_comm (prodL g _)]
  · unfold numQ denQ
    rw [partT_4 h, if_neg (by omega), if_neg (by omega), if_neg (by omega), gmul_one, hs_cv (lb := (rl qs).length + 1) (ofZ_ends _ _) g 12 q.1.n (by omega), hs_list]
    have e : hs q.1.n (fun t => gmul (gmul q.2.2 ((q.1.n : Int), 0)) (ofZ (fun _ => q.2.1) (q.1.n - 1) t)) g = gmul (gmul q.2.2 ((q.1.n : Int), 0)) (hs q.1.n (ofZ (fun _ => q.2.1) (q.1.n - 1)) g) := tl_scale _ _ g q.1.n 0
    rw [e]
    obtain ⟨j, hj⟩ : ∃ j, q.1.n = j + 1 := ⟨q.1.n - 1, by omega⟩
    have e2 : hs q.1.n (ofZ (fun _ => q.2.1) (q.1.n - 1)) g = gpow (gsub g q.2.1) (q.1.n - 1) := by
      rw [hj, Nat.add_sub_cancel, hs_pr, pr_const]
    rw [e2]
theorem topT_val (qs : List W3) (l : List (C × G)) (g : G) (j : Nat) (hj : j ≤ qs.length) : hs 12 (topT qs l (j + 1)) g = gadd (hs 12 (topT qs l j) g) (hs 12 (fun k => match qs[j]? with
    | some q => partT q l k
    | none => g0) g) := tl_add _ _ g 12 0
end Go.Proofs.YtigbkoadojjajaaGreat

/- Plain: quotients of whole complex numbers in floats: they are finite; where they come out even, they are near. No program in sight. -/
set_option linter.unusedVariables false
set_option linter.unusedSimpArgs false
namespace Go.Proofs.YtigbkoadojjajaaGreat
open Ieee

theorem ab_int {n : Int} {k : Nat} (h : n.natAbs ≤ 2 ^ k) : Ab (n : Rat) (p2 k) := by
  rw [p2_nat]
  have e : ((2 ^ k : Nat) : Rat) = (((2 ^ k : Nat) : Int) : Rat) := rfl
  unfold Ab
  rw [e, ← Rat.intCast_neg]
  exact ⟨Rat.intCast_le_intCast.2 (by omega), Rat.intCast_le_intCast.2 (by omega)⟩
theorem one_int_abs {n : Int} (h : n ≠ 0) : 1 ≤ rabs (n : Rat) := by
  unfold rabs
  have e1 : (1 : Rat) = ((1 : Int) : Rat) := rfl
  have e0 : (0 : Rat) = ((0 : Int) : Rat) := rfl
  split
  · rename_i h0
    rw [e0] at h0
    have := Rat.intCast_le_intCast.1 h0
    rw [e1]; exact Rat.intCast_le_intCast.2 (by omega)
  · rename_i h0
    rw [e0] at h0
    have : ¬ 0 ≤ n := fun h1 => h0 (Rat.intCast_le_intCast.2 h1)
    rw [← Rat.intCast_neg, e1]; exact Rat.intCast_le_intCast.2 (by omega)
theorem p2_two (k : Int) : 2 * p2 k = p2 (k + 1) := by rw [← p2_one, ← p2_add, Int.add_comm]
theorem NB.p40 {g : G} (h : NB g (2 ^ 40)) : Ab (g.1 : Rat) (p2 40) ∧ Ab (g.2 : Rat) (p2 40) := by
  obtain ⟨h1, h2⟩ := h.parts (by decide)
  have e : ((2 ^ 40 : Int)).toNat = 2 ^ 40 := by decide
  rw [e] at h1 h2
  exact ⟨ab_int h1, ab_int h2⟩
end Go.Proofs.YtigbkoadojjajaaGreat
