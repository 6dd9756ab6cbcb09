/- Tracers in the clean executor: tracer.stepped. -/
import Derived.Test.YtjddmnfdnnbbhaaGreatW9Z
set_option linter.unusedSimpArgs false
set_option linter.unusedVariables false
namespace Go.Proofs.YtjddmnfdnnbbhaaGreat
open Go.Clean
/-- What stepped's boxes hold. -/
structure SB (m0 m : Mem) (v : Value) (a : Tr) (b0 b1 b2 b3 : Nat) : Prop where
  up : Up m0 m
  l0 : m0.next ≤ b0
  l1 : b0 < b1
  l2 : b1 < b2
  l3 : b2 < b3
  nx : b3 < m.next
  c0 : m.at b0 = some ⟨[v], 1, false, false⟩
  c1 : m.at b1 = some ⟨a.cells, 1, false, false⟩
  c2 : m.at b2 = some ⟨ruL, 1, false, false⟩
  c3 : m.at b3 = some ⟨tr0.cells, 1, false, false⟩
section
variable {m0 m m' : Mem} {v : Value} {a : Tr} {b0 b1 b2 b3 : Nat}
theorem SB.to (h : SB m0 m v a b0 b1 b2 b3) (hw : MW m0) (u : Up m m') : SB m0 m' v a b0 b1 b2 b3 :=
  have w := h.up.wf hw
  ⟨h.up.trans u, h.l0, h.l1, h.l2, h.l3, Nat.lt_of_lt_of_le h.nx u.next, u.at h.c0 w, u.at h.c1 w, u.at h.c2 w, u.at h.c3 w⟩
theorem SB.mk' (h1 : m0.next + 1 = b1) (h2 : b1 + 1 = b2) (h3 : b2 + 1 = b3) : SB m0 ((((m0.nw ⟨[v], 1, false, false⟩).nw ⟨a.cells, 1, false, false⟩).nw ⟨ruL, 1, false, false⟩).nw ⟨tr0.cells, 1, false, false⟩) v a m0.next b1 b2 b3 := by
  subst h1 h2 h3
  exact ⟨(Up.nw _ _).trans ((Up.nw _ _).trans ((Up.nw _ _).trans (Up.nw _ _))), by omega, by omega, by omega, by omega, by simp, by simp [show ¬ m0.next = m0.next + 1 + 1 by omega, show ¬ m0.next = m0.next + 1 + 1 + 1 by omega], by simp [show ¬ m0.next + 1 = m0.next + 1 + 1 + 1 by omega], by simp, by simp⟩
end
/-- What the frame holds. -/
structure SF (b0 b1 b2 b3 : Nat) (fr : Fr) : Prop where
  n : fr.n = 122
  d : fr.d = []
  a3 : fr.at 3 = .pointer (some ⟨b0, 0, none⟩)
  a4 : fr.at 4 = .pointer (some ⟨b1, 0, none⟩)
  a5 : fr.at 5 = .pointer (some ⟨b2, 0, none⟩)
  a6 : fr.at 6 = .pointer (some ⟨b3, 0, none⟩)
  a7 : fr.at 7 = endF b1
/-- The end: what is in the result's box. -/
theorem SB.put {m0 m : Mem} {v : Value} {a b : Tr} {b0 b1 b2 b3 : Nat} (h : SB m0 m v a b0 b1 b2 b3) {Q : Mem → Prop} (q : ∀ m', Up m0 m' → m'.at b3 = some ⟨b.cells, 1, false, false⟩ → Q m') : storeQ Tryz.prog 41 (.pointer (some ⟨b3, 0, none⟩)) b.val m Q := by
  have k1 := h.l0
  have k2 := h.l1
  have k3 := h.l2
  have k4 := h.l3
  exact storeQ_rule (y := ⟨tr0.cells, 1, false, false⟩) h.c3 rfl (by rw [sto_Tr]; simp) (l := b.cells) rfl fun m3 n3 l3 e3 => q m3 (h.up.wr (by omega) h.nx n3 e3) (by rw [e3, if_pos rfl])
def sm (w : C) : Nat → C
  | 0 => w
  | 1 => cadd w (cscale w two)
  | 2 => cadd (cadd w (cscale w two)) (cscale w two)
  | _ => cadd (cadd (cadd w (cscale w two)) (cscale w two)) w
def toP (w : C) (z : C) : C := cadd z (cscale (sm w 3) twelfth)
def hs3 : Value := .agg ⟨[fv quarter, fv quarter, fv half]⟩
theorem build_h : buildX Tryz.prog 81 [(0, fv quarter), (1, fv quarter), (2, fv half)] = some hs3 := by kernel_rfl
theorem idx_h0 : indexX Tryz.prog 81 hs3 (.int .i64 0) = some (fv quarter) := by kernel_rfl
theorem idx_h1 : indexX Tryz.prog 81 hs3 (.int .i64 1) = some (fv quarter) := by kernel_rfl
theorem idx_h2 : indexX Tryz.prog 81 hs3 (.int .i64 2) = some (fv half) := by kernel_rfl
theorem wrp1 : IntKind.i64.wrap 1 = 1 := by kernel_rfl
theorem wrp2 : IntKind.i64.wrap 2 = 2 := by kernel_rfl
theorem wrp3 : IntKind.i64.wrap 3 = 3 := by kernel_rfl
theorem build_Tr (z : C) (t : F) : buildX Tryz.prog 41 [(0, cx z), (1, fv t)] = some (Tr.val ⟨z, t, 0⟩) := by
  have h : (match Tryz.prog.underlying 41 with | some (.struct fs) => placesX Tryz.prog fs.toList | _ => none) = some [(0, 1), (1, 1), (2, 1)] := by kernel_rfl
  unfold buildX
  simp only [zero_Tr]
  split at h
  · rename_i fs e
    simp only [e, h]
    simp [fillX, layK, Nat.blt, Nat.ble, Tr.val]
  · cases h
def stI (m0 : Mem) (v : Value) (a : Tr) (w : C) (b0 b1 b2 b3 : Nat) (k : Nat) (fr : Fr) (m' : Mem) : Prop := ∃ i, i + k = 3 ∧ SF b0 b1 b2 b3 fr ∧ SB m0 m' v a b0 b1 b2 b3 ∧ fr.at 57 = hs3 ∧ fr.at 58 = .int .i64 (i : Nat) ∧ fr.at 11 = cx w ∧ fr.at 10 = cx (sm w i)
def stR (m0 : Mem) (v : Value) (a : Tr) (w : C) (b0 b1 b2 b3 : Nat) : CQ := fun r m' => r.1 = .exit 0 ∧ SF b0 b1 b2 b3 r.2 ∧ SB m0 m' v a b0 b1 b2 b3 ∧ r.2.at 10 = cx (sm w 3)
/-- What the step goes by. -/
structure Goes (es : List El) (w : C) (a b : Tr) : Prop where
  ok : Okay es
  way : ∀ z, way es z = w
  a0 : a.w = 0
  has : known 40 [boxV, cx a.z] = some (M.ret (.bool true))
  hz : cwithin a.z lim = true
  len : ∃ L, known 42 [cx w] = some (M.ret (fv L)) ∧ ((fle L quarter = true ∧ b = a.ends 2) ∨ (fle L quarter = false ∧ cwithin (cadd a.z (cscale w quarter)) lim = true ∧ cwithin (cadd a.z (cscale w half)) lim = true ∧
    cwithin (toP w a.z) lim = true ∧ fle (fabs (fadd a.t half)) lim = true ∧ ∃ q, known 40 [boxV, cx (toP w a.z)] = some (M.ret (.bool q)) ∧ b = if q then ⟨toP w a.z, fadd a.t half, 0⟩ else a.ends 3))
section
set_option maxRecDepth 10000
set_option maxHeartbeats 2000000 in
theorem stepped_ok (d : Nat) {m : Mem} {v : Value} {es : List El} {w : C} {a b : Tr} (hw : MW m) (hv : EL m v es) (h : Goes es w a b) {Q : Value → Mem → Prop} (hQ : ∀ m', Up m m' → Q b.val m') :
    Gives (callN Tryz.prog known (d + 12) 31 [.agg ⟨[v]⟩, a.val, ruV]) m Q := by
  obtain ⟨ok, hway, a0, has, hz, L, hlen, hc⟩ := h
  refine gives_fn (nt := 122) rfl Tryz.func31 rfl rfl rfl (Nat.le_of_ble_eq_true rfl) fun fr hn hd hargs => ?_
  have h0 : fr.at 0 = _ := hargs 0 _ rfl
  have h1 : fr.at 1 = _ := hargs 1 _ rfl
  have h2 : fr.at 2 = _ := hargs 2 _ rfl
  clear hargs
  refine (code_seq _ _ _ _ _).2 ?_
  simp [h0, h1, h2, hn, hv.one, zero_tr, -code_seq]
  obtain ⟨b0, hb0⟩ : ∃ b0, b0 = m.next := ⟨_, rfl⟩
  obtain ⟨b1, hb1⟩ : ∃ b1, m.next + 1 = b1 := ⟨_, rfl⟩
  obtain ⟨b2, hb2⟩ : ∃ b2, b1 + 1 = b2 := ⟨_, rfl⟩
  obtain ⟨b3, hb3⟩ : ∃ b3, b2 + 1 = b3 := ⟨_, rfl⟩
  simp only [hb1, hb2, hb3]
  obtain ⟨m1, hm1⟩ : ∃ m1, m1 = ((((m.nw ⟨[v], 1, false, false⟩).nw ⟨a.cells, 1, false, false⟩).nw ⟨ruL, 1, false, false⟩).nw ⟨tr0.cells, 1, false, false⟩) := ⟨_, rfl⟩
  have s1 : SB m m1 v a b0 b1 b2 b3 := by rw [hm1, hb0]; exact SB.mk' hb1 hb2 hb3
  rw [← hm1, ← hb0]
  clear hm1 hb0 hb1 hb2 hb3
  simp [hn, s1.c1, s1.c2, s1.c0, a0, gk _ has]
  have s2 : SB m (((((m1.rd b1).rd b2).rd b1).rd b0).rd b1) v a b0 b1 b2 b3 := s1.to hw (Up.same (by simp) fun c => by simp)
  refine way_ok d (s2.up.wf hw) (hv.up hw s2.up) ok hz fun m3 u3 => ?_
  have s3 := s2.to hw u3
  rw [hway]
  clear s2 u3 s1 h0 h1 h2
  simp [hn]
  refine code_draw_dyn (plan := [0, 1, 0, 4, 15]) (by kernel_rfl) ?_
  simp [drawQ, apartAll, apartL, Nat.testBit, hn, s3.c2, gk _ hlen, ruq, fle_fv]
  have s4 : SB m (m3.rd b2) v a b0 b1 b2 b3 := s3.to hw (Up.same (by simp) fun c => by simp)
  rcases hc with ⟨hs, rfl⟩ | ⟨hs, hz1, hz2, hto, htt, q, hq, rfl⟩
  · simp [hs, hn, funX]
    have s5 : SB m (m3.lg ((false, b2) :: m3.log)) v a b0 b1 b2 b3 := s3.to hw (Up.lg _ _)
    generalize m3.lg ((false, b2) :: m3.log) = m5 at s5 ⊢
    have k := s5.l0
    have k1 := s5.l1
    have k2 := s5.l2
    have k3 := s5.l3
    have k4 := s5.nx
    refine ended_ok (m0 := m) (k := 2) (b := b1) (a := a) _ hw s5.up (by omega) (by omega) s5.c1 fun m6 u6 n6 o6 => ?_
    simp [hn]
    refine storeQ_rule (y := ⟨tr0.cells, 1, false, false⟩) ((o6 b3 (by omega) (by omega)).trans s5.c3) rfl (by rw [sto_Tr]; simp) (l := (a.ends 2).cells) rfl fun m7 n7 l7 e7 => ?_
    have u7 := u6.wr (b := b3) (by omega) (by omega) n7 e7
    have c7 : m7.at b3 = some ⟨(a.ends 2).cells, 1, false, false⟩ := by rw [e7, if_pos rfl]
    simp [hn, hd, c7]
    exact hQ _ (u7.trans (Up.rd _ _))
  · simp [hs, hn, s3.c2, ruh, div_2, build_h]
    refine code_loop_post (stR m v a w b0 b1 b2 b3) (stI m v a w b0 b1 b2 b3) 3 (by omega) ⟨0, rfl, ⟨by simp [hn], by simp [hd], by simp, by simp, by simp, by simp, by simp [endF, ptr]⟩, s3.to hw (Up.same (by simp) fun c => by simp), by simp, by simp, by simp, by simp [sm]⟩ ?_ ?_
    · rintro k f m4 ⟨i, hik, F, s4, f57, f58, f11, f10⟩
      have fn := F.n
      have fd := F.d
      have f3 := F.a3
      have f4 := F.a4
      have f5 := F.a5
      have f6 := F.a6
      have f7 := F.a7
      have hzz : cwithin (cadd a.z (cscale w (if i = 2 then half else quarter))) lim = true := by split <;> assumption
      obtain rfl | rfl | rfl | rfl : i = 0 ∨ i = 1 ∨ i = 2 ∨ i = 3 := by omega
      · simp [fn, fd, f57, f58, idx_h0]
        refine code_draw_dyn (plan := [0, 0, 2, 0, 0, 24, 62, 127, 255, 511, 511, 1023, 4095]) (by kernel_rfl) ?_
        simp [drawQ, apartAll, apartL, Nat.testBit, fn, f3, f4, f11, s4.c0, s4.c1, run_scale, run_add]
        have s4' := s4.to hw (Up.lg m4 [])
        refine way_ok d (s4'.up.wf hw) (hv.up hw s4'.up) ok (by simpa using hzz) fun m6 u6 => ?_
        have s6 := s4'.to hw u6
        rw [hway]
        simp [drawQ, apartAll, apartL, Nat.testBit, fn, fv_two, run_scale, run_add, f10, f58, wrp1]
        refine ⟨2, by omega, 1, by omega, ⟨by simp [fn], by simp [fd], by simp [f3], by simp [f4], by simp [f5], by simp [f6], by simp [f7]⟩, s6.to hw (Up.lg _ _), by simp [f57], by simp, by simp, by simp [sm]⟩
      · simp [fn, fd, f57, f58, idx_h1]
        refine code_draw_dyn (plan := [0, 0, 2, 0, 0, 24, 62, 127, 255, 511, 511, 1023, 4095]) (by kernel_rfl) ?_
        simp [drawQ, apartAll, apartL, Nat.testBit, fn, f3, f4, f11, s4.c0, s4.c1, run_scale, run_add]
        have s4' := s4.to hw (Up.lg m4 [])
        refine way_ok d (s4'.up.wf hw) (hv.up hw s4'.up) ok (by simpa using hzz) fun m6 u6 => ?_
        have s6 := s4'.to hw u6
        rw [hway]
        simp [drawQ, apartAll, apartL, Nat.testBit, fn, fv_two, run_scale, run_add, f10, f58, wrp2]
        refine ⟨1, by omega, 2, by omega, ⟨by simp [fn], by simp [fd], by simp [f3], by simp [f4], by simp [f5], by simp [f6], by simp [f7]⟩, s6.to hw (Up.lg _ _), by simp [f57], by simp, by simp, by simp [sm]⟩
      · simp [fn, fd, f57, f58, idx_h2]
        refine code_draw_dyn (plan := [0, 0, 2, 0, 0, 24, 62, 127, 255, 511, 511, 1023, 4095]) (by kernel_rfl) ?_
        simp [drawQ, apartAll, apartL, Nat.testBit, fn, f3, f4, f11, s4.c0, s4.c1, run_scale, run_add]
        have s4' := s4.to hw (Up.lg m4 [])
        refine way_ok d (s4'.up.wf hw) (hv.up hw s4'.up) ok (by simpa using hzz) fun m6 u6 => ?_
        have s6 := s4'.to hw u6
        rw [hway]
        simp [drawQ, apartAll, apartL, Nat.testBit, fn, fv_two, run_scale, run_add, f10, f58, wrp3]
        refine ⟨0, by omega, 3, by omega, ⟨by simp [fn], by simp [fd], by simp [f3], by simp [f4], by simp [f5], by simp [f6], by simp [f7]⟩, s6.to hw (Up.lg _ _), by simp [f57], by simp, by simp, by simp [sm]⟩
      · simp [fn, f58]
        exact ⟨rfl, ⟨by simp [fn], by simp [fd], by simp [f3], by simp [f4], by simp [f5], by simp [f6], by simp [f7]⟩, s4, by simp [f10]⟩
    · rintro ⟨e, f⟩ m4 ⟨he, F, s4, f10⟩
      obtain rfl : e = .exit 0 := he
      simp only at F f10
      have fn := F.n
      have fd := F.d
      have f3 := F.a3
      have f4 := F.a4
      have f5 := F.a5
      have f6 := F.a6
      have f7 := F.a7
      simp [fn]
      refine code_draw_dyn (plan := [0, 1, 0, 0, 8, 24, 60, 127, 255]) (by kernel_rfl) ?_
      simp [drawQ, apartAll, apartL, Nat.testBit, fn, f4, f5, f10, s4.c1, s4.c2, ruh, div_6, run_scale, run_add]
      have hto' : cwithin (cadd a.z (cscale (sm w 3) twelfth)) lim = true := hto
      have hq' : known 40 [boxV, cx (cadd a.z (cscale (sm w 3) twelfth))] = some (M.ret (.bool q)) := hq
      simp [fn, f4, f5, run_tplace, hto', fadd_fv, fv_lim, run_fwithin, htt, yieldX, boolOf_bool, s4.c1, s4.c2, ruh, gk _ hq']
      have k := s4.l0
      have k1 := s4.l1
      have k2 := s4.l2
      have k3 := s4.l3
      have k4 := s4.nx
      cases q with
      | false =>
        simp [fn, f7, endF, ptr, funX]
        refine ended_ok (m0 := m) (k := 3) (b := b1) (a := a) _ hw ?_ (by omega) (by simp; omega) (by simpa using s4.c1) fun m6 u6 n6 o6 => ?_
        · exact (s4.to hw (Up.same (by simp) fun c => by simp)).up
        have c6 : m6.at b3 = some ⟨tr0.cells, 1, false, false⟩ := (o6 b3 (by simpa using k4) (by omega)).trans (by simpa using s4.c3)
        simp only [Mem.next_rd, Mem.next_lg] at n6
        simp [fn, f6]
        refine storeQ_rule (y := ⟨tr0.cells, 1, false, false⟩) c6 rfl (by rw [sto_Tr]; simp) (l := (a.ends 3).cells) rfl fun m7 n7 l7 e7 => ?_
        have u7 := u6.wr (b := b3) (by omega) (by omega) n7 e7
        have c7 : m7.at b3 = some ⟨(a.ends 3).cells, 1, false, false⟩ := by rw [e7, if_pos rfl]
        simp [fn, fd, f6, c7]
        exact hQ _ (u7.trans (Up.rd _ _))
      | true =>
        simp [fn, f4, f5, f6, s4.c1, s4.c2, ruh, fadd_fv, build_Tr]
        obtain ⟨b, hb⟩ : ∃ b : Tr, b = ⟨toP w a.z, fadd a.t half, 0⟩ := ⟨_, rfl⟩
        refine storeQ_rule (y := ⟨tr0.cells, 1, false, false⟩) (by simpa using s4.c3) rfl (by rw [sto_Tr]; simp) (l := b.cells) (by rw [hb]; rfl) fun m7 n7 l7 e7 => ?_
        simp only [Mem.next_rd, Mem.next_lg, Mem.at_rd, Mem.at_lg] at n7 e7
        have u7 := s4.up.wr (b := b3) (by omega) (by omega) n7 e7
        have c7 : m7.at b3 = some ⟨b.cells, 1, false, false⟩ := by rw [e7, if_pos rfl]
        simp [fn, fd, f6, c7]
        rw [hb]
        rw [← hb]
        simpa [hb] using hQ _ (u7.trans (Up.rd _ _))
end
end Go.Proofs.YtjddmnfdnnbbhaaGreat

/- Tracers in the clean executor: lists of tracers, their copies. -/
namespace Go.Clean
variable {P : Program} {m : Mem} {Q : Value → Mem → Prop}
/-- Elements behind an empty literal. -/
theorem gives_append_lit {t : TypeId} {sz : Nat} (h : appOK P t t sz = true) {b b2 o k c : Nat} {x : Blk} (ha : m.at b = some ⟨[], sz, false, false⟩) (hb : m.at b2 = some x) {new : List Value} (hn : takeN x.cells o (k * sz) = some new) (ho : new.all oneV = true) (hk : 0 < k) (hk2 : k ≤ 1048576)
    (q : Q (.slice (some ⟨m.next, 0, none⟩) k k) (((m.rd b2).rd b).nw ⟨new, sz, true, false⟩)) : Gives (appendX P t t (.slice (some ⟨b, 0, none⟩) 0 0) (.slice (some ⟨b2, o, none⟩) k c)) m Q := by
  obtain ⟨hsz, e, e', i, z, h1, h2, h3, h4, h5, h6⟩ := app_spec h
  unfold appendX
  simp only [h1, h3, h4, h6]
  rw [gives_bind, gives_guard]
  refine ⟨rfl, ?_⟩
  rw [gives_bind]
  unfold elemsX
  rw [gives_bind, gives_getB, hb, optQ_some, gives_ret, h5, hn]
  dsimp only
  rw [gives_bind, gives_getB, Mem.at_rd, ha, optQ_some, gives_bind, gives_guard]
  have hc : Nat.ble (0 + k) 0 = false := by rw [← Bool.not_eq_true, Nat.ble_eq]; omega
  refine ⟨by simp only [sliceLen, Bool.and_eq_true, beq_self_eq_true, true_and, Nat.ble_eq]; omega, ?_⟩
  simp only [sliceLen, hc, cond_false, Nat.zero_mul]
  have ht : takeN ([] : List Value) 0 0 = some [] := rfl
  rw [ht]
  dsimp only
  rw [gives_bind, gives_newX]
  refine ⟨by simpa using ho, (gives_ret _ _ _).2 ?_⟩
  rw [Nat.zero_add]
  exact q
def b0OK (P : Program) (t : TypeId) (sz : Nat) : Bool := match P.underlying t with
  | some (.slice e) => match sizeT P e, zeroT P e with
    | some n, some z => n == sz && n == (cellsV z).length && Nat.blt 0 n
    | _, _ => false
  | _ => false
theorem gives_build0 {t : TypeId} {sz : Nat} (h : b0OK P t sz = true) (q : Q (.slice (some ⟨m.next, 0, none⟩) 0 0) (m.nw ⟨[], sz, false, false⟩)) : Gives (buildSliceX P t 0 []) m Q := by
  unfold b0OK at h
  split at h
  · rename_i e h1
    split at h
    · rename_i n z h2 h3
      simp only [Bool.and_eq_true, beq_iff_eq] at h
      obtain ⟨⟨h4, h5⟩, h6⟩ := h
      unfold buildSliceX
      simp only [h1, h2, h3]
      rw [gives_bind, gives_guard]
      refine ⟨by simp only [Bool.and_eq_true, beq_iff_eq]; exact ⟨⟨h5, by rw [Nat.zero_mul]; rfl⟩, h6⟩, ?_⟩
      show Gives (newX [] n false >>= fun b => _) m Q
      rw [gives_bind, gives_newX, h4]
      exact ⟨rfl, (gives_ret _ _ _).2 q⟩
    · cases h
  · cases h
end Go.Clean
namespace Go.Proofs.YtjddmnfdnnbbhaaGreat
open Go.Clean
def flatT : List Tr → List Value
  | [] => []
  | a :: l => cx a.z :: fv a.t :: .int .u8 a.w :: flatT l
theorem takeN_flatT : ∀ (ts : List Tr) (i : Nat) (h : i < ts.length), takeN (flatT ts) (i * 3) 3 = some (ts[i]'h).cells
  | e :: l, 0, _ => by cases l <;> rfl
  | e :: l, i + 1, h => by
    rw [show (i + 1) * 3 = i * 3 + 1 + 1 + 1 by omega]
    exact takeN_flatT l i (by simpa using h)
theorem flatT_len : ∀ ts : List Tr, (flatT ts).length = ts.length * 3
  | [] => rfl
  | e :: l => by show (flatT l).length + 3 = (l.length + 1) * 3; rw [flatT_len l]; omega
theorem flatT_one : ∀ ts : List Tr, (flatT ts).all oneV = true
  | [] => rfl
  | e :: l => by simpa [flatT] using flatT_one l
theorem takeN_flatT0 : ∀ (ts : List Tr) (c : Nat), c ≤ ts.length → takeN (flatT ts) 0 (c * 3) = some (flatT (ts.take c))
  | ts, 0, _ => by cases ts <;> rfl
  | e :: l, c + 1, h => by
    rw [show (c + 1) * 3 = c * 3 + 1 + 1 + 1 by omega]
    have := takeN_flatT0 l c (by simpa using h)
    show Option.map (cx e.z :: ·) (Option.map (fv e.t :: ·) (Option.map ((Value.int .u8 e.w) :: ·) (takeN (flatT l) 0 (c * 3)))) = some (flatT ((e :: l).take (c + 1)))
    rw [this]
    rfl
theorem lay_flatT : ∀ (ts : List Tr) (i : Nat) (a : Tr), i < ts.length → lay (flatT ts) (i * 3) a.cells = some (flatT (ts.set i a))
  | e :: l, 0, a, _ => by cases l <;> rfl
  | e :: l, i + 1, a, h => by
    rw [show (i + 1) * 3 = i * 3 + 1 + 1 + 1 by omega]
    have := lay_flatT l i a (by simpa using h)
    show Option.map (cx e.z :: ·) (Option.map (fv e.t :: ·) (Option.map ((Value.int .u8 e.w) :: ·) (lay (flatT l) (i * 3) a.cells))) = some (flatT ((e :: l).set (i + 1) a))
    rw [this]
    rfl
theorem ld_T {ts : List Tr} {i : Nat} {a : Tr} (h : ts[i]? = some a) : ldX Tryz.prog 41 (flatT ts) (i * 3) = some a.val := by
  obtain ⟨hi, rfl⟩ := List.getElem?_eq_some_iff.1 h
  rw [ld_agg agg_Tr size_Tr, takeN_flatT ts i hi]; rfl
theorem under_T : Tryz.prog.underlying 34 = some (.slice 41) := by kernel_rfl
theorem under_Es : Tryz.prog.underlying 23 = some (.slice 51) := by kernel_rfl
@[simp] theorem len_T (a : Option Addr) (n c : Nat) : lenX Tryz.prog 34 (.slice a n c) = some (.int .i64 n) := len_slice under_T a n c
@[simp] theorem elt_T : elemT Tryz.prog 34 = 1 := by kernel_rfl
@[simp] theorem agg_T : Clean.isAgg Tryz.prog 34 = some false := by kernel_rfl
@[simp] theorem size_T : sizeT Tryz.prog 34 = some 1 := by kernel_rfl
@[simp] theorem ld_Ts (cs : List Value) (o : Nat) : ldX Tryz.prog 34 cs o = cs[o]? := ld_one agg_T cs o
@[simp] theorem sto_T (v : Value) : storeOK Tryz.prog 34 v = (1 == (cellsV v).length && (cellsV v).all oneV) := by unfold storeOK; rw [size_T]; rfl
@[simp] theorem zero_T : zeroT Tryz.prog 34 = some nilL := (by kernel_rfl : zeroT Tryz.prog 34 = some nilL).trans rfl
theorem idx_T (b len cap i : Nat) (h : i < len) : indexAddrX Tryz.prog 34 (.slice (some ⟨b, 0, none⟩) len cap) (.int .i64 (i : Int)) = some (.pointer (some ⟨b, i * 3, none⟩)) := by
  have e : indexAddrX Tryz.prog 34 (.slice (some ⟨b, 0, none⟩) len cap) (.int .i64 (i : Int)) = bif decide (0 ≤ (i : Int) ∧ (i : Int) < (len : Int)) then some (.pointer (some ⟨b, 0 + (i : Int).toNat * 3, none⟩)) else none := by kernel_rfl
  rw [e, show decide (0 ≤ (i : Int) ∧ (i : Int) < (len : Int)) = true by simp; omega]
  simp
@[simp] theorem bin_nil_T (xo yo : Operand) (a : Addr) (n c : Nat) : binX Tryz.prog .eql 34 xo yo (.slice (some a) n c) (.slice none 0 0) = some (.bool false) := by
  unfold binX
  simp [eqlX, isNilLit, nilType, under_T, isNil]
@[simp] theorem bin_nil_Es (xo yo : Operand) (a : Addr) (n c : Nat) : binX Tryz.prog .eql 23 xo yo (.slice (some a) n c) (.slice none 0 0) = some (.bool false) := by
  unfold binX
  simp [eqlX, isNilLit, nilType, under_Es, isNil]
theorem app_T : appOK Tryz.prog 34 34 3 = true := by kernel_rfl
theorem app_Es : appOK Tryz.prog 23 23 4 = true := by kernel_rfl
theorem b0_T : b0OK Tryz.prog 34 3 = true := by kernel_rfl
theorem b0_Es : b0OK Tryz.prog 23 4 = true := by kernel_rfl
/-- A list that lies somewhere. -/
structure LT (m : Mem) (v : Value) (b c cap : Nat) (ts : List Tr) : Prop where
  v : v = .slice (some ⟨b, 0, none⟩) c cap
  le : c ≤ ts.length
  at_ : ∃ gr, m.at b = some ⟨flatT ts, 3, gr, false⟩
theorem LT.up {m m' : Mem} {v : Value} {b c cap : Nat} {ts : List Tr} (h : LT m v b c cap ts) (hw : MW m) (u : Up m m') : LT m' v b c cap ts :=
  ⟨h.v, h.le, h.at_.imp fun _ h => u.at h hw⟩
/-- A list of one's own. -/
structure OT (m0 m : Mem) (v : Value) (b : Nat) (ts : List Tr) : Prop where
  v : v = .slice (some ⟨b, 0, none⟩) ts.length ts.length
  lo : m0.next ≤ b
  hi : b < m.next
  at_ : m.at b = some ⟨flatT ts, 3, true, false⟩
theorem OT.to {m0 m m' : Mem} {v : Value} {b : Nat} {ts : List Tr} (h : OT m0 m v b ts) (hw : MW m) (u : Up m m') : OT m0 m' v b ts :=
  ⟨h.v, h.lo, Nat.lt_of_lt_of_le h.hi u.next, u.at h.at_ hw⟩
theorem OT.lt {m0 m : Mem} {v : Value} {b : Nat} {ts : List Tr} (h : OT m0 m v b ts) : LT m v b ts.length ts.length ts := ⟨h.v, Nat.le_refl _, _, h.at_⟩
section
set_option maxRecDepth 10000
theorem cloneT_ok (d : Nat) {m : Mem} {v : Value} {b c cap : Nat} {ts : List Tr} (hw : MW m) (hv : LT m v b c cap ts) (hc0 : 0 < c) (hc1 : c ≤ 5000) {Q : Value → Mem → Prop}
    (hQ : ∀ m' v' b', Up m m' → OT m m' v' b' (ts.take c) → Q v' m') :
    Gives (callN Tryz.prog known (d + 1) 20 [v]) m Q := by
  refine gives_fn (nt := 8) rfl Tryz.func20 rfl rfl rfl (Nat.le_of_ble_eq_true rfl) fun fr hn hd hargs => ?_
  obtain ⟨rfl, hle, gr, hb⟩ := hv
  have h0 : fr.at 0 = _ := hargs 0 _ rfl
  clear hargs
  have hbn : b < m.next := hw b _ hb
  simp [h0, hn, hd]
  refine gives_build0 b0_T ?_
  simp [h0, hn, hd]
  refine gives_append_lit app_T (x := ⟨flatT ts, 3, gr, false⟩) (by simp) (by simp [show b ≠ m.next by omega, hb]) (takeN_flatT0 ts c hle) (flatT_one _) hc0 (by omega) ?_
  simp [hn, hd]
  have hl : (ts.take c).length = c := by simp; omega
  refine hQ _ _ (m.next + 1) ((Up.nw _ _).trans ((Up.rd _ _).trans ((Up.rd _ _).trans (Up.nw _ _)))) ⟨by rw [hl], by omega, by simp, by simp⟩
/-- The same, to the memory. -/
theorem cloneE_at (d : Nat) {m : Mem} {b gr : _} {es : List El} (hb : m.at b = some ⟨flat es, 4, gr, false⟩) (hbn : b < m.next) (hc0 : 0 < es.length) (hc1 : es.length ≤ 3) {Q : Value → Mem → Prop}
    (hQ : Q (.slice (some ⟨m.next + 1, 0, none⟩) es.length es.length) ((((m.nw ⟨[], 4, false, false⟩).rd b).rd m.next).nw ⟨flat es, 4, true, false⟩)) :
    Gives (callN Tryz.prog known (d + 1) 19 [.slice (some ⟨b, 0, none⟩) es.length es.length]) m Q := by
  refine gives_fn (nt := 8) rfl Tryz.func19 rfl rfl rfl (Nat.le_of_ble_eq_true rfl) fun fr hn hd hargs => ?_
  have h0 : fr.at 0 = _ := hargs 0 _ rfl
  clear hargs
  have fl : ∀ es : List El, (flat es).length = es.length * 4 := fun es => by
    induction es with
    | nil => rfl
    | cons e l ih => show (flat l).length + 4 = (l.length + 1) * 4; rw [ih]; omega
  have f1 : (flat es).all oneV = true := by
    clear hb hc0 hc1 h0 hQ
    induction es with
    | nil => rfl
    | cons e l ih =>
      have h : oneV (.float .f64 e.p) = true := rfl
      simpa [flat, h] using ih
  simp [h0, hn, hd]
  refine gives_build0 b0_Es ?_
  simp [h0, hn, hd]
  refine gives_append_lit app_Es (x := ⟨flat es, 4, gr, false⟩) (by simp) (by simp [show b ≠ m.next by omega, hb]) (new := flat es) (by rw [← fl]; exact takeN_all _) f1 hc0 (by omega) ?_
  simp [hn, hd]
  simpa using hQ
end
end Go.Proofs.YtjddmnfdnnbbhaaGreat

/- Tracers in the clean executor: what may be; how many go. -/
namespace Go.Proofs.YtjddmnfdnnbbhaaGreat
open Go.Clean
/-- A tracer that may be. -/
structure Tr.May (a : Tr) : Prop where
  z : cwithin a.z lim = true
  t : fle (fabs a.t) lim = true
  w : ¬ (4 : Int) < (a.w : Int)
def tcI (m0 : Mem) (b c cap : Nat) (ts : List Tr) (k : Nat) (fr : Fr) (m' : Mem) : Prop := ∃ i, i + k = c ∧ fr.n = 30 ∧ fr.d = [] ∧ fr.at 8 = .slice (some ⟨b, 0, none⟩) c cap ∧ fr.at 9 = .int .i64 (c : Nat) ∧ fr.at 10 = .int .i64 (i : Nat) ∧ LT m' (.slice (some ⟨b, 0, none⟩) c cap) b c cap ts ∧ Up m0 m'
def tcR (m0 : Mem) : CQ := fun r m' => r.1 = .exit 0 ∧ r.2.n = 30 ∧ r.2.d = [] ∧ Up m0 m'
/-- The check's answer, wherever it is asked. -/
def Chk (v : Value) (m : Mem) (e : Int) : Prop := ∀ (d : Nat) (m1 : Mem), Up m m1 → ∀ Q : Value → Mem → Prop, (∀ m', Up m1 m' → Q (.int .i64 e) m') → Gives (callN Tryz.prog known (d + 5) 28 [v]) m1 Q
section
set_option maxRecDepth 10000
set_option maxHeartbeats 2000000
theorem check_many {m : Mem} {b c cap : Nat} (hc : 4096 < c) (hc2 : c < 10000) : Chk (.slice (some ⟨b, 0, none⟩) c cap) m 4 := by
  intro d m1 u1 Q hQ
  refine gives_fn (nt := 30) rfl Tryz.func28 rfl rfl rfl (Nat.le_of_ble_eq_true rfl) fun fr hn hd hargs => ?_
  have h0 : fr.at 0 = _ := hargs 0 _ rfl
  clear hargs
  have hlt : (4096 : Int) < (c : Int) := by omega
  simp [h0, hn, hd, hlt]
  exact hQ _ (Up.refl _)
theorem check_ok {m : Mem} {v : Value} {b c cap : Nat} {ts : List Tr} (hw : MW m) (hv : LT m v b c cap ts) (hc : c ≤ 4096) (hts : ∀ i, i < c → ∃ a, ts[i]? = some a ∧ a.May) : Chk v m 0 := by
  intro d m1 u1 Q hQ
  have hv1 := hv.up hw u1
  have hw1 := u1.wf hw
  obtain rfl := hv.v
  refine gives_fn (nt := 30) rfl Tryz.func28 rfl rfl rfl (Nat.le_of_ble_eq_true rfl) fun fr hn hd hargs => ?_
  have h0 : fr.at 0 = _ := hargs 0 _ rfl
  clear hargs
  have hlt : ¬ (4096 : Int) < (c : Int) := by omega
  simp [h0, hn, hd, hlt]
  refine code_loop_post (tcR m1) (tcI m1 b c cap ts) c (by omega) ⟨0, by simp, by simp [hn], by simp [hd], by simp, by simp, by simp, hv1, Up.refl _⟩ ?_ ?_
  · rintro k f m2 ⟨i, hik, f1, f2, f3, f4, f5, v2, u2⟩
    by_cases hi : i < c
    · obtain ⟨a, ha, hm⟩ := hts i hi
      obtain ⟨gr, hb⟩ := v2.at_
      have w2 := u2.wf hw1
      simp [f1, f2, f3, f4, f5, hi, idx_T _ _ _ _ hi, hb, ld_T ha, zero_tr]
      refine storeQ_rule (y := ⟨tr0.cells, 1, false, false⟩) (by simp) rfl (by rw [sto_Tr]; simp) (l := a.cells) rfl fun m4 n4 l4 e4 => ?_
      simp only [Mem.next_rd, Mem.next_nw, Mem.at_rd, Mem.at_nw] at n4 e4
      have u4 : Up m2 m4 := Up.wr (m1 := (m2.rd b).nw ⟨tr0.cells, 1, false, false⟩) (Up.trans (Up.rd _ _) (Up.nw _ _)) (Nat.le_refl _) (by simp) (by simpa using n4) (fun c => by simpa using e4 c)
      have e5 : m4.at m2.next = some ⟨a.cells, 1, false, false⟩ := by rw [e4, if_pos rfl]
      simp [f1, e5, run_tplace, hm.z, hm.t, hm.w, fv_lim, run_fwithin, yieldX, boolOf_bool]
      simp [f1, f2, f5, wrap_succ i (by omega)]
      have u6 : Up m2 ((((m4.rd m2.next).rd m2.next).rd m2.next)) := u4.trans (Up.same (by simp) fun c => by simp)
      exact ⟨c - (i + 1), by omega, i + 1, by omega, by simp [f1], by simp [f2], by simp [f3], by simp [f4], by simp, v2.up w2 u6, u2.trans u6⟩
    · simp [f1, f2, f4, f5, hi]
      exact ⟨rfl, by simp [f1], by simp [f2], u2⟩
  · rintro ⟨e, f⟩ m2 ⟨he, f1, f2, u2⟩
    obtain rfl : e = .exit 0 := he
    simp only at f1 f2
    simp [f1, f2]
    exact hQ _ u2
theorem check_arg {m : Mem} {v : Value} {b cap : Nat} {ts : List Tr} {a : Tr} (hw : MW m) (hv : LT m v b 1 cap ts) (h0 : ts[0]? = some a) (hz : cwithin a.z lim = true) (ht : fle (fabs a.t) lim = true) (hw5 : a.w = 5) : Chk v m 2 := by
  intro d m1 u1 Q hQ
  have hv1 := hv.up hw u1
  have hw1 := u1.wf hw
  obtain rfl := hv.v
  refine gives_fn (nt := 30) rfl Tryz.func28 rfl rfl rfl (Nat.le_of_ble_eq_true rfl) fun fr hn hd hargs => ?_
  have a0 : fr.at 0 = _ := hargs 0 _ rfl
  clear hargs
  simp [a0, hn, hd]
  refine code_loop_post (fun r m' => r.1 = .ret ∧ r.2.n = 30 ∧ r.2.d = [] ∧ r.2.at 2 = .int .i64 2 ∧ Up m1 m') (fun k fr m' => k = 1 ∧ tcI m1 b 1 cap ts k fr m') 1 (by omega) ⟨rfl, 0, by simp, by simp [hn], by simp [hd], by simp, by simp, by simp, hv1, Up.refl _⟩ ?_ ?_
  · rintro k f m2 ⟨rfl, i, hik, f1, f2, f3, f4, f5, v2, u2⟩
    · obtain rfl : i = 0 := by omega
      obtain ⟨gr, hb⟩ := v2.at_
      have w2 := u2.wf hw1
      have hx := idx_T b 1 cap 0 (by omega)
      have hld := ld_T h0
      simp only [Nat.zero_mul, Int.natCast_zero] at hx hld
      simp [f1, f2, f3, f4, f5, hx, hb, hld, zero_tr]
      refine storeQ_rule (y := ⟨tr0.cells, 1, false, false⟩) (by simp) rfl (by rw [sto_Tr]; simp) (l := a.cells) rfl fun m4 n4 l4 e4 => ?_
      simp only [Mem.next_rd, Mem.next_nw, Mem.at_rd, Mem.at_nw] at n4 e4
      have u4 : Up m2 m4 := Up.wr (m1 := (m2.rd b).nw ⟨tr0.cells, 1, false, false⟩) (Up.trans (Up.rd _ _) (Up.nw _ _)) (Nat.le_refl _) (by simp) (by simpa using n4) (fun c => by simpa using e4 c)
      have e5 : m4.at m2.next = some ⟨a.cells, 1, false, false⟩ := by rw [e4, if_pos rfl]
      simp [f1, f2, e5, run_tplace, hz, ht, hw5, fv_lim, run_fwithin, yieldX, boolOf_bool]
      exact u2.trans (u4.trans (Up.same (by simp) fun c => by simp))
  · rintro ⟨e, f⟩ m2 ⟨he, f1, f2, f3, u2⟩
    obtain rfl : e = .ret := he
    simp only at f1 f2 f3
    simp [f1, f2, f3]
    exact hQ _ u2
theorem asked_ok (d : Nat) {m : Mem} {v vl : Value} {es : List El} {e : Int} (hw : MW m) (hv : EL m v es) (he : Okay es) (hl : Chk vl m e) (ho : oneV vl = true) {Q : Value → Mem → Prop} (hQ : ∀ m', Up m m' → Q (.int .i64 e) m') :
    Gives (callN Tryz.prog known (d + 7) 14 [.agg ⟨[v]⟩, vl, ruV]) m Q := by
  refine gives_fn (nt := 21) rfl Tryz.func14 rfl rfl rfl (Nat.le_of_ble_eq_true rfl) fun fr hn hd hargs => ?_
  have h0 : fr.at 0 = _ := hargs 0 _ rfl
  have h1 : fr.at 1 = _ := hargs 1 _ rfl
  have h2 : fr.at 2 = _ := hargs 2 _ rfl
  clear hargs
  refine (code_seq _ _ _ _ _).2 ?_
  simp [h0, h1, h2, hn, hv.one, -code_seq]
  obtain ⟨m1, hm1⟩ : ∃ m1, m1 = (m.nw ⟨[v], 1, false, false⟩).nw ⟨ruL, 1, false, false⟩ := ⟨_, rfl⟩
  have u1 : Up m m1 := by rw [hm1]; exact (Up.nw _ _).trans (Up.nw _ _)
  have c1 : m1.at m.next = some ⟨[v], 1, false, false⟩ := by rw [hm1]; simp
  have c2 : m1.at (m.next + 1) = some ⟨ruL, 1, false, false⟩ := by rw [hm1]; simp
  rw [← hm1]
  simp [hn, c1]
  have u2 := u1.trans (Up.rd m1 m.next)
  refine fcheck_ok _ (u2.wf hw) (hv.up hw u2) he.few (fun x hx => (he.all (some 0, some 0) x hx).ok) fun m3 u3 => ?_
  have u3' := u2.trans u3
  have c3 : m3.at (m.next + 1) = some ⟨ruL, 1, false, false⟩ := u3.at (by simpa using c2) (u2.wf hw)
  simp [hn, h1]
  refine hl _ _ u3' _ fun m4 u4 => ?_
  have c4 : m4.at (m.next + 1) = some ⟨ruL, 1, false, false⟩ := u4.at c3 (u3'.wf hw)
  have hck : known 29 [ruV] = some (M.ret (.int .i64 0)) := by rfl
  by_cases h : e = 0
  · subst h
    simp [hn, hd, c4, gk _ hck]
    exact hQ _ (u3'.trans (u4.trans (Up.rd _ _)))
  · simp [hn, hd, h]
    exact hQ _ (u3'.trans u4)
def lfI (m0 : Mem) (b c cap : Nat) (ts : List Tr) (z : Bool) (k : Nat) (fr : Fr) (m' : Mem) : Prop := ∃ i, i + k = c ∧ fr.n = 19 ∧ fr.d = [] ∧ fr.at 6 = .slice (some ⟨b, 0, none⟩) c cap ∧ fr.at 7 = .int .i64 (c : Nat) ∧ fr.at 8 = .int .i64 (i : Nat) ∧ fr.at 3 = .int .i64 ((if z then i else 0 : Nat) : Int) ∧ LT m' (.slice (some ⟨b, 0, none⟩) c cap) b c cap ts ∧ Up m0 m'
def lfR (m0 : Mem) (c : Nat) (z : Bool) : CQ := fun r m' => r.1 = .exit 0 ∧ r.2.n = 19 ∧ r.2.d = [] ∧ r.2.at 3 = .int .i64 ((if z then c else 0 : Nat) : Int) ∧ Up m0 m'
theorem left_ok (d : Nat) {m1 : Mem} {v : Value} {b c cap : Nat} {ts : List Tr} {z : Bool} (hw1 : MW m1) (hv : LT m1 v b c cap ts) (hc : c ≤ 4096) (hts : ∀ i, i < c → ∃ a, ts[i]? = some a ∧ decide ((a.w : Int) = 0) = z) {Q : Value → Mem → Prop}
    (hQ : ∀ m', Up m1 m' → Q (.int .i64 ((if z then c else 0 : Nat) : Int)) m') : Gives (callN Tryz.prog known (d + 1) 11 [v]) m1 Q := by
  have hv1 := hv
  obtain rfl := hv.v
  refine gives_fn (nt := 19) rfl Tryz.func11 rfl rfl rfl (Nat.le_of_ble_eq_true rfl) fun fr hn hd hargs => ?_
  have h0 : fr.at 0 = _ := hargs 0 _ rfl
  clear hargs
  simp [h0, hn, hd]
  refine code_loop_post (lfR m1 c z) (lfI m1 b c cap ts z) c (by omega) ⟨0, by simp, by simp [hn], by simp [hd], by simp, by simp, by simp, by simp, hv1, Up.refl _⟩ ?_ ?_
  · rintro k f m2 ⟨i, hik, f1, f2, f3, f4, f5, f6, v2, u2⟩
    by_cases hi : i < c
    · obtain ⟨a, ha, hm⟩ := hts i hi
      obtain ⟨gr, hb⟩ := v2.at_
      have w2 := u2.wf hw1
      simp [f1, f2, f3, f4, f5, hi, idx_T _ _ _ _ hi, hb, ld_T ha, zero_tr]
      refine storeQ_rule (y := ⟨tr0.cells, 1, false, false⟩) (by simp) rfl (by rw [sto_Tr]; simp) (l := a.cells) rfl fun m4 n4 l4 e4 => ?_
      simp only [Mem.next_rd, Mem.next_nw, Mem.at_rd, Mem.at_nw] at n4 e4
      have u4 : Up m2 m4 := Up.wr (m1 := (m2.rd b).nw ⟨tr0.cells, 1, false, false⟩) (Up.trans (Up.rd _ _) (Up.nw _ _)) (Nat.le_refl _) (by simp) (by simpa using n4) (fun c => by simpa using e4 c)
      have e5 : m4.at m2.next = some ⟨a.cells, 1, false, false⟩ := by rw [e4, if_pos rfl]
      have u6 : Up m2 (m4.rd m2.next) := u4.trans (Up.same (by simp) fun c => by simp)
      cases z with
      | true =>
        have hm' : a.w = 0 := by simpa using hm
        have f6' : f.at 3 = .int .i64 (i : Nat) := by simpa using f6
        simp [f1, f2, f5, e5, hm', f6', wrap_succ i (by omega)]
        exact ⟨c - (i + 1), by omega, i + 1, by omega, by simp [f1], by simp [f2], by simp [f3], by simp [f4], by simp, by simp, v2.up w2 u6, u2.trans u6⟩
      | false =>
        have hm' : ¬ a.w = 0 := by simpa using hm
        have f6' : f.at 3 = .int .i64 0 := by simpa using f6
        simp [f1, f2, f5, e5, hm', f6', wrap_succ i (by omega)]
        exact ⟨c - (i + 1), by omega, i + 1, by omega, by simp [f1], by simp [f2], by simp [f3], by simp [f4], by simp, by simp [f6'], v2.up w2 u6, u2.trans u6⟩
    · obtain rfl : i = c := by omega
      simp [f1, f2, f4, f5]
      exact ⟨rfl, by simp [f1], by simp [f2], by simp [f6], u2⟩
  · rintro ⟨e, f⟩ m2 ⟨he, f1, f2, f3, u2⟩
    obtain rfl : e = .exit 0 := he
    simp only at f1 f2 f3
    simp [f1, f2, f3]
    exact hQ _ u2
end
end Go.Proofs.YtjddmnfdnnbbhaaGreat
