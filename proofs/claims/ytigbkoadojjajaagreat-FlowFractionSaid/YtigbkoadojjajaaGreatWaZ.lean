/- Flows in the clean executor: flow.Speed. -/
import Derived.Test.YtigbkoadojjajaaGreatFeZ
set_option linter.unusedSimpArgs false
set_option linter.unusedVariables false
namespace Go.Proofs.YtigbkoadojjajaaGreat
open Go.Clean
def sumC (e : El) (v w : Value) : List Value := [.int .u8 e.k, cx e.a, cx e.s, .float .f64 e.p, v, w]
@[simp] theorem fa_one (s o : Nat) : fieldAddrX Tryz.prog 60 (.pointer (some ⟨s, o, none⟩)) 0 = some (.pointer (some ⟨s, o, none⟩)) := (by kernel_rfl : fieldAddrX Tryz.prog 60 (.pointer (some ⟨s, o, none⟩)) 0 = some (.pointer (some ⟨s, o, none⟩))).trans rfl
@[simp] theorem fa_sum0 (s : Nat) : fieldAddrX Tryz.prog 62 (.pointer (some ⟨s, 0, none⟩)) 0 = some (.pointer (some ⟨s, 0, none⟩)) := (by kernel_rfl : fieldAddrX Tryz.prog 62 (.pointer (some ⟨s, 0, none⟩)) 0 = some (.pointer (some ⟨s, 0, none⟩))).trans rfl
@[simp] theorem fa_sum1 (s : Nat) : fieldAddrX Tryz.prog 62 (.pointer (some ⟨s, 0, none⟩)) 1 = some (.pointer (some ⟨s, 4, none⟩)) := (by kernel_rfl : fieldAddrX Tryz.prog 62 (.pointer (some ⟨s, 0, none⟩)) 1 = some (.pointer (some ⟨s, 4, none⟩))).trans rfl
@[simp] theorem fa_sum2 (s : Nat) : fieldAddrX Tryz.prog 62 (.pointer (some ⟨s, 0, none⟩)) 2 = some (.pointer (some ⟨s, 5, none⟩)) := (by kernel_rfl : fieldAddrX Tryz.prog 62 (.pointer (some ⟨s, 0, none⟩)) 2 = some (.pointer (some ⟨s, 5, none⟩))).trans rfl
@[simp] theorem ld_sumE (e : El) (v w : Value) : ldX Tryz.prog 31 (sumC e v w) 0 = some e.val := (ld_agg agg_El size_El (sumC e v w) 0).trans rfl
@[simp] theorem ld_sumF (e : El) (v w : Value) : ldX Tryz.prog 29 (sumC e v w) 4 = some (.agg ⟨[v]⟩) := (ld_agg agg_Fw size_Fw (sumC e v w) 4).trans rfl
@[simp] theorem sum_4 (e : El) (v w : Value) : (sumC e v w)[4]? = some v := (Eq.refl (some v)).trans rfl
@[simp] theorem sum_5 (e : El) (v w : Value) : (sumC e v w)[5]? = some w := (Eq.refl (some w)).trans rfl
/-- The elements' speeds. -/
def spdE (e : El) (z : C) : C := spd e.k e.s (csub z e.a) e.n
def spds (es : List El) (z : C) (j : Nat) : C := match es[j]? with
  | some e => spdE e z
  | none => (some 0, some 0)
/-- An element that has a speed at z. -/
structure El.At (e : El) (z : C) : Prop where
  ok : e.OK
  h3 : e.k = 3 → cnought (csub z e.a) = false
  fin : cfin (spdE e z) = true
section
set_option maxRecDepth 10000
theorem onespeed_ok (d : Nat) {m : Mem} {S : Nat} {e : El} {v w : Value} {z : C} (hw : MW m) (he : e.At z) (hz : cwithin z lim = true) (hS : m.at S = some ⟨sumC e v w, 1, false, false⟩) {Q : Value → Mem → Prop} (hQ : ∀ m', Up m m' → Q (.tuple ⟨[cx (spdE e z), .int .i64 0]⟩) m') :
    Gives (callN Tryz.prog known (d + 8) 24 [.pointer (some ⟨S, 0, none⟩), cx z]) m Q := by
  refine gives_fn (nt := 14) rfl Tryz.func24 rfl rfl rfl (Nat.le_of_ble_eq_true rfl) fun fr hn hd hargs => ?_
  have h0 : fr.at 0 = _ := hargs 0 _ rfl
  have h1 : fr.at 1 = _ := hargs 1 _ rfl
  clear hargs
  simp [h0, h1, hn, hd, hS]
  refine espeed_ok d ((Up.rd m S).wf hw) he.ok.kp he.ok.ha he.ok.hs hz he.ok.h1 he.h3 he.fin fun m2 u2 => ?_
  simp [hn, hd]
  exact hQ _ ((Up.rd _ _).trans u2)
end
theorem app_C : appOK Tryz.prog 33 33 1 = true := by kernel_rfl
theorem bs_C : bsOK Tryz.prog 33 = true := by kernel_rfl
theorem WS.mk_rd {m : Mem} {S : Nat} {v : Value} {w : Nat → C} {n : Nat} (h : WS m v w n) : WS (m.rd S) v w n := by
  rcases h with h | ⟨h, b, h1, h2⟩
  · exact .inl h
  · exact .inr ⟨h, b, h1, by simpa using h2⟩
/-- A list of complex numbers of one's own. -/
def WO (n0 S : Nat) (m : Mem) (v : Value) (w : Nat → C) (n : Nat) : Prop := (n = 0 ∧ v = nilL) ∨ (0 < n ∧ ∃ b, v = .slice (some ⟨b, 0, none⟩) n n ∧ m.at b = some ⟨lw w n, 1, true, false⟩ ∧ n0 ≤ b ∧ b ≠ S)
theorem WO.ws {n0 S : Nat} {m : Mem} {v : Value} {w : Nat → C} {n : Nat} (h : WO n0 S m v w n) : WS m v w n := by
  rcases h with h | ⟨h, b, h1, h2, _⟩
  · exact .inl h
  · exact .inr ⟨h, b, h1, h2⟩
theorem WO.up {n0 S : Nat} {m m' : Mem} {v : Value} {w : Nat → C} {n : Nat} (h : WO n0 S m v w n) (hw : MW m) (u : Up m m') : WO n0 S m' v w n := by
  rcases h with h | ⟨h, b, h1, h2, h3⟩
  · exact .inl h
  · exact .inr ⟨h, b, h1, u.at h2 hw, h3⟩
theorem WO.push {m0 : Mem} {S b1 : Nat} {m : Mem} {v : Value} {w : Nat → C} {n : Nat} {x : C} {Q : Value → Mem → Prop} (h : WO m0.next S m v w n) (hx : x = w n) (hb1 : m.at b1 = some ⟨[cx x], 1, false, false⟩) (hw : MW m0) (hu : Up m0 m) (hS : S < m.next) (hn : n ≤ 3)
    (q : ∀ m' v', Up m0 m' → m.next ≤ m'.next → m'.at S = m.at S → WO m0.next S m' v' w (n + 1) → Q v' m') : Gives (appendX Tryz.prog 33 33 v (.slice (some ⟨b1, 0, none⟩) 1 1)) m Q := by
  subst hx
  have mw := hu.wf hw
  have h0 := hu.next
  rcases h with ⟨rfl, rfl⟩ | ⟨hp, b, rfl, h2, h3, h4⟩
  · refine gives_push app_C (b := m.next) (l := []) hb1 (.inl ⟨rfl, rfl⟩) rfl (one_cx _) (by decide) fun m2 n2 a2 o2 => ?_
    refine q _ _ ⟨by omega, fun c hc => by rw [o2 c (by omega) (by omega)]; exact hu.old c hc, fun _ c y hc => ?_⟩ (by omega) (o2 S (by omega) (by omega)) (.inr ⟨by omega, m.next, rfl, by rw [a2, lw_succ]; rfl, h0, by omega⟩)
    by_cases h1 : c = m.next
    · omega
    · rw [o2 c h1 h1] at hc
      have := mw c y hc
      omega
  · have hb := mw b _ h2
    have hl := lw_len w n
    refine gives_push app_C (b := b) (l := lw w n) hb1 (.inr ⟨fun h => by rw [h] at hl; simp at hl; omega, by rw [hl], h2, by omega⟩) (lw_one w n) (one_cx _) (by omega) fun m2 n2 a2 o2 => ?_
    rw [hl]
    refine q _ _ ⟨by omega, fun c hc => by rw [o2 c (by omega) (by omega)]; exact hu.old c hc, fun _ c y hc => ?_⟩ (by omega) (o2 S (fun h => h4 h.symm) (by omega)) (.inr ⟨by omega, m.next, rfl, by rw [a2, lw_succ], h0, by omega⟩)
    by_cases h1 : c = m.next
    · omega
    · by_cases h5 : c = b
      · omega
      · rw [o2 c h5 h1] at hc
        have := mw c y hc
        omega
def ptrS (S : Nat) : Value := .pointer (some ⟨S, 0, none⟩)
def funS (S : Nat) : Value := .func (.func 24) ⟨[ptrS S]⟩ ⟨[]⟩
def ovI (m0 : Mem) (S : Nat) (z : C) (v : Value) (es : List El) (k : Nat) (fr : Fr) (m' : Mem) : Prop := ∃ i, i + k = es.length ∧ fr.n = 71 ∧ fr.d = [] ∧ fr.at 0 = ptrS S ∧ fr.at 1 = cx z ∧ fr.at 2 = funS S ∧ fr.at 32 = v ∧ fr.at 33 = .int .i64 es.length ∧ fr.at 34 = .int .i64 i ∧
  Up m0 m' ∧ S < m'.next ∧ ∃ e w, m'.at S = some ⟨sumC e v w, 1, false, false⟩ ∧ WO m0.next S m' w (spds es z) i
def ovR (m0 : Mem) (S : Nat) (z : C) (v : Value) (es : List El) : CQ := fun r m' => r.1 = .exit 0 ∧ r.2.n = 71 ∧ r.2.d = [] ∧ r.2.at 0 = ptrS S ∧ Up m0 m' ∧ ∃ e w, m'.at S = some ⟨sumC e v w, 1, false, false⟩ ∧ WO m0.next S m' w (spds es z) es.length
section
set_option maxRecDepth 10000
set_option maxHeartbeats 2000000 in
theorem over_ok (d : Nat) {m0 m : Mem} {S : Nat} {e0 : El} {v : Value} {es : List El} {z : C} (hw : MW m0) (hv : EL m0 v es) (hl : es.length ≤ 3) (hes : ∀ e ∈ es, e.At z) (hz : cwithin z lim = true) (hfin : cfin (sumW (spds es z) es.length) = true)
    (u0 : Up m0 m) (hS0 : m0.next ≤ S) (hS1 : S < m.next) (hS : m.at S = some ⟨sumC e0 v nilL, 1, false, false⟩) {Q : Value → Mem → Prop} (hQ : ∀ m', Up m0 m' → Q (.tuple ⟨[cx (sumW (spds es z) es.length), .int .i64 0]⟩) m') :
    Gives (callN Tryz.prog known (d + 9) 23 [ptrS S, cx z, funS S]) m Q := by
  refine gives_fn (nt := 71) rfl Tryz.func23 rfl rfl rfl (Nat.le_of_ble_eq_true rfl) fun fr hn hd hargs => ?_
  have h0 : fr.at 0 = .pointer (some ⟨S, 0, none⟩) := hargs 0 _ rfl
  have h1 : fr.at 1 = _ := hargs 1 _ rfl
  have h2 : fr.at 2 = _ := hargs 2 _ rfl
  clear hargs
  have w1 := u0.wf hw
  simp [h0, h1, h2, hn, hd, hS]
  refine fcheck_ok _ ((Up.rd m S).wf w1) ((hv.up hw u0).up w1 (Up.rd _ _)) hl (fun e he => (hes e he).ok) fun m2 u2 => ?_
  have u2' : Up m m2 := (Up.rd m S).trans u2
  have e2 := u2'.at hS w1
  have n2 : S < m2.next := Nat.lt_of_lt_of_le hS1 u2'.next
  simp [h0, h1, h2, hn, hd, run_fplace, hz, e2, hv.len]
  refine code_loop_post (ovR m0 S z v es) (ovI m0 S z v es) es.length (by omega) ⟨0, by simp, by simp [hn], by simp [hd], by simp [h0, ptrS], by simp [h1], by simp [h2], by simp, by simp, by simp, u0.trans (u2'.trans (Up.rd _ _)), by simpa using n2, e0, nilL, by simpa using e2, .inl ⟨rfl, rfl⟩⟩ ?_ ?_
  · rintro k f m3 ⟨i, hik, f1, f2, f3, f4, f5, f6, f7, f8, u3, n3, e, w, hS3, hw3⟩
    have w3 := u3.wf hw
    have v3 := hv.up hw u3
    by_cases hi : i < es.length
    · have hat := hes _ (List.getElem_mem hi)
      rcases v3 with ⟨rfl, -⟩ | ⟨hne, b, hv2, hb2⟩
      · simp at hi
      · have hbS : b ≠ S := by
          rcases hv with ⟨rfl, -⟩ | ⟨_, b', hv', hb'⟩
          · simp at hi
          · rw [hv2] at hv'
            have hbb : b = b' := by injection hv' with h1; injection h1 with h1; injection h1
            have := hw b' _ hb'
            omega
        simp [f1, f2, f3, f4, f6, f7, f8, hi, hv2, idx_El _ _ _ _ hi, hb2, ld_El' hi, zero_El]
        refine ⟨rfl, storeQ_rule (y := ⟨[.int .u8 0, .complex .f64 0 0, .complex .f64 0 0, .float .f64 0], 1, false, false⟩) (by simp) rfl (by rw [sto_El]; rfl) (l := (es[i]'hi).cells) rfl fun m4 n4 l4 e4 => ?_⟩
        simp only [Mem.next_rd, Mem.next_nw, Mem.at_rd, Mem.at_nw] at n4 e4
        have u4 : Up m3 m4 := Up.wr (m1 := (m3.rd b).nw ⟨[.int .u8 0, .complex .f64 0 0, .complex .f64 0 0, .float .f64 0], 1, false, false⟩) (Up.trans (Up.rd _ _) (Up.nw _ _)) (Nat.le_refl _) (by simp) (by simpa using n4) (fun c => by simpa using e4 c)
        have e5 : m4.at m3.next = some ⟨elL es[i].k es[i].a es[i].s es[i].p, 1, false, false⟩ := by rw [e4, if_pos rfl]; rfl
        have eS : m4.at S = some ⟨sumC e v w, 1, false, false⟩ := u4.at hS3 w3
        have w4 := hw3.up w3 u4
        have n4' : S < m4.next := Nat.lt_of_lt_of_le n3 u4.next
        have u04 := u3.trans u4
        clear e4 l4 n4
        simp [f1, f3, ptrS, e5]
        refine storeQ_rule (y := ⟨sumC e v w, 1, false, false⟩) (by simpa using eS) rfl (by rw [sto_El]; rfl) (l := sumC es[i] v w) rfl fun m5 n5 l5 e5' => ?_
        simp only [Mem.next_rd, Mem.at_rd] at n5 e5'
        have u05 : Up m0 m5 := u04.wr (x := ⟨sumC es[i] v w, 1, false, false⟩) hS0 n4' n5 e5'
        have hS5 : m5.at S = some ⟨sumC es[i] v w, 1, false, false⟩ := by rw [e5', if_pos rfl]
        have w5 : WO m0.next S m5 w (spds es z) i := by
          rcases w4 with h | ⟨h, bb, q1, q2, q3, q4⟩
          · exact .inl h
          · exact .inr ⟨h, bb, q1, by rw [e5', if_neg q4]; exact q2, q3, q4⟩
        have mw5 := u05.wf hw
        have n5' : S < m5.next := by omega
        clear e5' l5 n5 u04 n4' w4 eS e5 u4
        simp [f1, f4, f5, funS, ptrS, funX]
        refine onespeed_ok _ mw5 hat hz hS5 fun m6 u6 => ?_
        have u06 := u05.trans u6
        have hS6 := u6.at hS5 mw5
        have w6 := w5.up mw5 u6
        have n6 := Nat.lt_of_lt_of_le n5' u6.next
        have mw6 := u06.wf hw
        clear u6 w5 hS5 u05 n5' mw5
        simp [f1, f3, ptrS, hS6]
        refine gives_build1 bs_C (cells_cx _) (one_cx _) ?_
        have hsp : spdE es[i] z = spds es z i := by unfold spds; rw [List.getElem?_eq_getElem hi]
        obtain ⟨m7, hm7⟩ : ∃ m7, m7 = (m6.rd S).nw ⟨[cx (spdE es[i] z)], 1, false, false⟩ := ⟨_, rfl⟩
        have u7 : Up m6 m7 := by rw [hm7]; exact Up.trans (Up.rd _ _) (Up.nw _ _)
        have a7 : m7.at m6.next = some ⟨[cx (spdE es[i] z)], 1, false, false⟩ := by rw [hm7]; simp
        have hS7 := u7.at hS6 mw6
        have w7 := w6.up mw6 u7
        have u07 := u06.trans u7
        have n7 := Nat.lt_of_lt_of_le n6 u7.next
        simp [f1, appC_slice]
        rw [← hm7]
        clear hm7 u7 w6 u06 hS6 n6 mw6
        refine w7.push hsp a7 hw u07 n7 (by omega) fun m8 v8 u08 n8 hS8 w8 => ?_
        rw [hS7] at hS8
        simp [f1]
        have hv8 : cellsV v8 = [v8] ∧ oneV v8 = true := by
          rcases w8 with ⟨h, -⟩ | ⟨_, b8, rfl, _⟩
          · omega
          · simp
        refine storeQ_one (cs := sumC es[i] v w) (sz := 1) (gr := false) hS8 (by simp [hv8]) hv8.1 (by simp [sumC]) fun m9 n9 l9 e9 => ?_
        have u09 : Up m0 m9 := u08.wr (x := ⟨sumC es[i] v v8, 1, false, false⟩) hS0 (Nat.lt_of_lt_of_le n7 n8) n9 e9
        have w9 : WO m0.next S m9 v8 (spds es z) (i + 1) := by
          rcases w8 with h | ⟨h, bb, q1, q2, q3, q4⟩
          · exact .inl h
          · exact .inr ⟨h, bb, q1, by rw [e9, if_neg q4]; exact q2, q3, q4⟩
        have hS9 : m9.at S = some ⟨sumC es[i] v v8, 1, false, false⟩ := by rw [e9, if_pos rfl]; rfl
        simp [f1, f8, wrap_succ i (by omega)]
        exact ⟨es.length - (i + 1), by omega, i + 1, by omega, by simp [f1], by simp [f2], by simp [f3], by simp [f4], by simp [f5], by simp [f6, hv2], by simp [f7], by simp, u09, by omega, es[i], v8, by rw [← hv2]; exact hS9, w9⟩
    · have : i = es.length := by omega
      subst this
      simp [f1, f2, f7, f8]
      exact ⟨rfl, by simp [f1], by simp [f2], by simp [f3], u3, e, w, hS3, hw3⟩
  · rintro ⟨e, f⟩ m3 ⟨he, f1, f2, f3, u3, e', w, hS3, hw3⟩
    obtain rfl : e = .exit 0 := he
    simp only at f1 f2 f3
    simp [f1, f2, f3, ptrS, hS3]
    refine psum_ok _ (WS.mk_rd hw3.ws) hl fun m4 u4 => ?_
    simp [f1, f2, run_finite, hfin]
    exact hQ _ (u3.trans ((Up.rd _ _).trans u4))
end
end Go.Proofs.YtigbkoadojjajaaGreat

/- Flows in the clean executor: flow.Speed. -/
namespace Go.Proofs.YtigbkoadojjajaaGreat
open Go.Clean
def e00 : El := ⟨0, (some 0, some 0), (some 0, some 0), 0, 0⟩
theorem zero_sum : zeroT Tryz.prog 62 = some (.agg ⟨sumC e00 nilL nilL⟩) := (by kernel_rfl : zeroT Tryz.prog 62 = some (.agg ⟨sumC e00 nilL nilL⟩))
theorem places_sum : (match Tryz.prog.underlying 62 with | some (.struct fs) => placesX Tryz.prog fs.toList | _ => none) = some [(0, 4), (4, 1), (5, 1)] := by kernel_rfl
theorem build_sum {v : Value} (hx : cellsV v = [v]) : buildX Tryz.prog 62 [(1, .agg ⟨[v]⟩)] = some (.agg ⟨sumC e00 v nilL⟩) := by
  have h := places_sum
  unfold buildX
  simp only [zero_sum]
  split at h
  · rename_i fs e
    simp only [e, h]
    simp [fillX, layK, Nat.blt, Nat.ble, sumC]
  · cases h
@[simp] theorem elt_sum : elemT Tryz.prog 62 = 1 := by kernel_rfl
section
set_option maxRecDepth 10000
set_option maxHeartbeats 2000000 in
theorem fspeed_ok (d : Nat) {m : Mem} {v : Value} {es : List El} {z : C} (hw : MW m) (hv : EL m v es) (hl : es.length ≤ 3) (hes : ∀ e ∈ es, e.At z) (hz : cwithin z lim = true) (hfin : cfin (sumW (spds es z) es.length) = true)
    {Q : Value → Mem → Prop} (hQ : ∀ m', Up m m' → Q (.tuple ⟨[cx (sumW (spds es z) es.length), .int .i64 0]⟩) m') :
    Gives (callN Tryz.prog known (d + 10) 8 [.agg ⟨[v]⟩, cx z]) m Q := by
  refine gives_fn (nt := 19) rfl Tryz.func8 rfl rfl rfl (Nat.le_of_ble_eq_true rfl) fun fr hn hd hargs => ?_
  have h0 : fr.at 0 = _ := hargs 0 _ rfl
  have h1 : fr.at 1 = _ := hargs 1 _ rfl
  clear hargs
  obtain ⟨m1, hm1⟩ : ∃ m1, m1 = m.nw ⟨[v], 1, false, false⟩ := ⟨_, rfl⟩
  have u1 : Up m m1 := by rw [hm1]; exact Up.nw _ _
  have e1 : m1.at m.next = some ⟨[v], 1, false, false⟩ := by rw [hm1]; simp
  refine (code_seq _ _ _ _ _).2 ?_
  simp [h0, hn, hv.one, -code_seq]
  rw [← hm1]
  have hso : (sumC e00 v nilL).all oneV = true := by
    show (oneV v && (oneV nilL && true)) = true
    rw [hv.one, one_nilL]; rfl
  obtain ⟨m2, hm2⟩ : ∃ m2, m2 = (m1.rd m.next).nw ⟨sumC e00 v nilL, 1, false, false⟩ := ⟨_, rfl⟩
  have u2 : Up m m2 := by rw [hm2]; exact u1.trans ((Up.rd _ _).trans (Up.nw _ _))
  have n2 : m2.next = m1.next + 1 := by rw [hm2]; simp
  have e2 : m2.at m1.next = some ⟨sumC e00 v nilL, 1, false, false⟩ := by rw [hm2]; simp
  simp [hn, hd, h1, e1, build_sum hv.cells, hso]
  rw [← hm2]
  refine over_ok d hw hv hl hes hz hfin u2 (Nat.le_trans u1.next (Nat.le_refl _)) (by omega) e2 fun m3 u3 => ?_
  simp [hn, hd]
  exact hQ _ u3
end
end Go.Proofs.YtigbkoadojjajaaGreat

/- Flows in the clean executor: like, folds, known. -/
namespace Go.Proofs.YtigbkoadojjajaaGreat
open Go.Clean
theorem bin_fne {P : Program} {t : TypeId} {xo yo : Operand} (x y : F) : binX P .neq t xo yo (.float .f64 (cOf x)) (.float .f64 (cOf y)) = some (.bool (!feq x y)) := by
  rw [bin_fcmp x y .neq rfl]
  unfold feq
  cases fcmp x y with
  | none => rfl
  | some o => cases o <;> rfl
section
set_option maxRecDepth 10000
theorem run_plike1 (n : Nat) (x y : F) {a b : Int} (hx : WF x a) (hy : WF y b) (m : Mem) (Q : Value → Mem → Prop) : Gives (callN Tryz.prog known (n + 1) 68 [fv x, fv y]) m Q ↔ Q (.bool (decide (a = b))) m := by
  refine gives_pure (fun m => ?_) m Q
  refine gives_fn (nt := 18) rfl Tryz.func68 rfl rfl rfl (Nat.le_of_ble_eq_true rfl) fun fr hn hd hargs => ?_
  have h0 : fr.at 0 = _ := hargs 0 _ rfl
  have h1 : fr.at 1 = _ := hargs 1 _ rfl
  clear hargs
  have e := hx.eq hy
  have ex := hx.eq hx
  have ey := hy.eq hy
  simp at ex ey
  refine (code_seq _ _ _ _ _).2 ?_
  simp [h0, hn, -code_seq]
  refine (code_seq _ _ _ _ _).2 (region_hid fun ops hops => ?_)
  have y3 : ∀ fr, yieldX ops fr 3 = boolOf (fr.at 8) := fun fr => by rw [hops]; rfl
  have y7 : ∀ fr, yieldX ops fr 7 = boolOf (fr.at 12) := fun fr => by rw [hops]; rfl
  clear hops
  by_cases hg : a = b
  · have e' : feq x y = true := by rw [e]; simp [hg]
    iterate 14 (refine (steps_cons _ _ _ _ _ _).2 ?_; simp [h0, h1, hn, fv, e', hg, boolOf_bool, -steps_cons, y3, y7])
    all_goals exact hd
  · have e' : feq x y = false := by rw [e]; simp [hg]
    iterate 14 (refine (steps_cons _ _ _ _ _ _).2 ?_; simp [h0, h1, hn, fv, e', ex, ey, hg, bin_fne, boolOf_bool, -steps_cons, y3, y7])
    all_goals exact hd
theorem run_plike (n : Nat) (x y : C) {g h : G} (hx : WC x g) (hy : WC y h) (m : Mem) (Q : Value → Mem → Prop) : Gives (callN Tryz.prog known (n + 2) 35 [cx x, cx y]) m Q ↔ Q (.bool (decide (g = h))) m := by
  refine gives_pure (fun m => ?_) m Q
  refine gives_fn (nt := 17) rfl Tryz.func35 rfl rfl rfl (Nat.le_of_ble_eq_true rfl) fun fr hn hd hargs => ?_
  have h0 : fr.at 0 = _ := hargs 0 _ rfl
  have h1 : fr.at 1 = _ := hargs 1 _ rfl
  clear hargs
  by_cases e1 : g.1 = h.1
  · simp [h0, h1, hn, hd, run_plike1 _ _ _ hx.1 hy.1, run_plike1 _ _ _ hx.2 hy.2, yieldX, e1]
    exact ⟨fun e2 => Prod.ext e1 e2, fun e => by rw [e]⟩
  · simp [h0, h1, hn, hd, run_plike1 _ _ _ hx.1 hy.1, run_plike1 _ _ _ hx.2 hy.2, yieldX, e1]
    exact fun e => e1 (by rw [e])
/-- How often an element's place is a root. -/
def foldsN (k : Int) (n : Nat) : Nat := if k = 3 then n + 1 else 0
set_option maxHeartbeats 2000000 in
theorem folds_ok (d : Nat) {m : Mem} {k : Int} {p n : Nat} {a s : C} (hk : KP k p n) {Q : Value → Mem → Prop} (hQ : ∀ m', Up m m' → Q (.int .i64 (foldsN k n)) m') :
    Gives (callN Tryz.prog known (d + 1) 34 [elV k a s p]) m Q := by
  refine gives_fn (nt := 13) rfl Tryz.func34 rfl rfl rfl (Nat.le_of_ble_eq_true rfl) fun fr hn hd hargs => ?_
  have h0 : fr.at 0 = _ := hargs 0 _ rfl
  clear hargs
  obtain ⟨m1, hm1⟩ : ∃ m1, m1 = m.nw ⟨elL k a s p, 1, false, false⟩ := ⟨_, rfl⟩
  have u1 : Up m m1 := by rw [hm1]; exact Up.nw _ _
  have e1 : m1.at m.next = some ⟨elL k a s p, 1, false, false⟩ := by rw [hm1]; simp
  refine (code_seq _ _ _ _ _).2 ?_
  simp [h0, hn, -code_seq]
  rw [← hm1]
  have wr3 : IntKind.i64.wrap 3 = 3 := by kernel_rfl
  cases hk with
  | d1 =>
    simp [hn, hd, e1, cvi1, wr2]
    exact hQ _ (u1.trans (Up.same (by simp) fun c => by simp))
  | d2 =>
    simp [hn, hd, e1, cvi2, wr3]
    exact hQ _ (u1.trans (Up.same (by simp) fun c => by simp))
  | _ =>
    simp [hn, hd, e1]
    exact hQ _ (u1.trans (Up.same (by simp) fun c => by simp))
end
end Go.Proofs.YtigbkoadojjajaaGreat

/- Flows in the clean executor: known. -/
namespace Go.Proofs.YtigbkoadojjajaaGreat
open Go.Clean
def knV (p : Nat) : Value := .func (.func 62) ⟨[]⟩ ⟨[.pointer (some ⟨p, 0, none⟩)]⟩
theorem fun_knV (p : Nat) : funX (knV p) = some (62, [], [.pointer (some ⟨p, 0, none⟩)]) := rfl
/-- A list of whole places in memory, grown one by one. -/
def WG (m : Mem) (v : Value) (w : Nat → C) (c : Nat → G) (n : Nat) : Prop := WS m v w n ∧ ∀ i, i < n → WC (w i) (c i)
section
set_option maxRecDepth 10000
theorem kn1_ok (d : Nat) {m : Mem} {p : Nat} {x z : C} {g h : G} (hx : WC x h) (hz : WC z g) (hp : m.at p = some ⟨[cx z], 1, false, false⟩) {Q : Value → Mem → Prop} (hQ : ∀ m', Sm m m' → Q (.bool (decide (h = g))) m') :
    Gives (callN Tryz.prog known (d + 3) 62 [cx x, .pointer (some ⟨p, 0, none⟩)]) m Q := by
  refine gives_fn (nt := 7) rfl Tryz.func62 rfl rfl rfl (Nat.le_of_ble_eq_true rfl) fun fr hn hd hargs => ?_
  have h0 : fr.at 0 = _ := hargs 0 _ rfl
  have h1 : fr.at 1 = _ := hargs 1 _ rfl
  clear hargs
  simp [h0, h1, hn, hd, hp, run_plike _ _ _ hx hz]
  exact hQ _ (Sm.rd _ _)
def kxI (n : Nat) (v : Value) (p : Nat) (c : Nat → G) (g : G) (m : Mem) (j : Nat) (fr : Fr) (m' : Mem) : Prop := ∃ i, i + j = n ∧ fr.n = 19 ∧ fr.d = [] ∧ fr.at 0 = v ∧ fr.at 1 = knV p ∧ fr.at 7 = .int .i64 n ∧ fr.at 8 = .int .i64 (i : Nat) ∧ Sm m m' ∧ ∀ t, t < i → c t ≠ g
theorem kindex_ok (d : Nat) {m : Mem} {v : Value} {n p : Nat} {w : Nat → C} {c : Nat → G} {z : C} {g : G} (hv : WG m v w c n) (hn1 : n < 1000) (hz : WC z g) (hp : m.at p = some ⟨[cx z], 1, false, false⟩) {Q : Value → Mem → Prop}
    (hQ : ∀ m' (i : Int), Sm m m' → (0 ≤ i ↔ ∃ t, t < n ∧ c t = g) → Q (.int .i64 i) m') :
    Gives (callN Tryz.prog known (d + 4) 80 [v, knV p]) m Q := by
  refine gives_fn (nt := 19) rfl Tryz.func80 rfl rfl rfl (Nat.le_of_ble_eq_true rfl) fun fr hn hd hargs => ?_
  have h0 : fr.at 0 = _ := hargs 0 _ rfl
  have h1 : fr.at 1 = _ := hargs 1 _ rfl
  clear hargs
  simp [h0, h1, hn, hv.1.len]
  refine code_loop (kxI n v p c g m) n (by omega) ⟨0, by omega, by simp [hn], by simp [hd], by simp [h0], by simp [h1], by simp, by simp, Sm.refl m, fun t ht => by omega⟩ ?_
  rintro j fr' m' ⟨i, hij, hn', hd', g0, g1, g7, g8, hsm, hnot⟩
  by_cases hi : i < n
  · obtain ⟨hws, hwc⟩ := hv
    rcases hws with ⟨rfl, -⟩ | ⟨_, b, rfl, hb⟩
    · omega
    · have hm : m'.at b = some ⟨lw w n, 1, true, false⟩ := by rw [hsm.2]; exact hb
      have hp' : m'.at p = some ⟨[cx z], 1, false, false⟩ := by rw [hsm.2]; exact hp
      have hw := wrap_succ i (by omega)
      simp [hn', g0, g1, g7, g8, hi, hm, idx_L _ _ _ _ _ _ hi, fun_knV]
      refine kn1_ok _ (hwc i hi) hz (by simpa using hp') fun m2 s2 => ?_
      by_cases hc : c i = g
      · simp [hn', g8, hc, hd']
        exact hQ _ _ (hsm.trans ((Sm.rd _ _).trans s2)) ⟨fun _ => ⟨i, hi, hc⟩, fun _ => by omega⟩
      · simp [hn', g8, hc, hw]
        exact ⟨j - 1, by omega, i + 1, by omega, by simp [hn'], by simp [hd'], by simp [g0], by simp [g1], by simp [g7], by simp, hsm.trans ((Sm.rd _ _).trans s2), fun t ht => by
          by_cases h : t = i
          · rw [h]; exact hc
          · exact hnot t (by omega)⟩
  · simp [hn', g0, g1, g7, g8, hi, hd']
    exact hQ _ _ hsm ⟨fun h => by omega, fun ⟨t, ht, e⟩ => absurd e (hnot t (by omega))⟩
theorem kcontains_ok (d : Nat) {m : Mem} {v : Value} {n p : Nat} {w : Nat → C} {c : Nat → G} {z : C} {g : G} (hv : WG m v w c n) (hn1 : n < 1000) (hz : WC z g) (hp : m.at p = some ⟨[cx z], 1, false, false⟩) {Q : Value → Mem → Prop}
    (hQ : ∀ m' (b : Bool), Sm m m' → (b = true ↔ ∃ t, t < n ∧ c t = g) → Q (.bool b) m') :
    Gives (callN Tryz.prog known (d + 5) 61 [v, knV p]) m Q := by
  refine gives_fn (nt := 9) rfl Tryz.func61 rfl rfl rfl (Nat.le_of_ble_eq_true rfl) fun fr hn hd hargs => ?_
  have h0 : fr.at 0 = _ := hargs 0 _ rfl
  have h1 : fr.at 1 = _ := hargs 1 _ rfl
  clear hargs
  simp [h0, h1, hn]
  refine kindex_ok d hv hn1 hz hp fun m' i hs hi => ?_
  simp [hn, hd]
  exact hQ _ _ hs (by simpa using hi)
theorem fknown_ok (d : Nat) {m : Mem} {v : Value} {n : Nat} {w : Nat → C} {c : Nat → G} {z : C} {g : G} (hw : MW m) (hv : WG m v w c n) (hn1 : n < 1000) (hz : WC z g) {Q : Value → Mem → Prop}
    (hQ : ∀ m' (b : Bool), Up m m' → (b = true ↔ ∃ t, t < n ∧ c t = g) → Q (.bool b) m') :
    Gives (callN Tryz.prog known (d + 6) 29 [v, cx z]) m Q := by
  refine gives_fn (nt := 8) rfl Tryz.func29 rfl rfl rfl (Nat.le_of_ble_eq_true rfl) fun fr hn hd hargs => ?_
  have h0 : fr.at 0 = _ := hargs 0 _ rfl
  have h1 : fr.at 1 = _ := hargs 1 _ rfl
  clear hargs
  obtain ⟨m1, hm1⟩ : ∃ m1, m1 = m.nw ⟨[cx z], 1, false, false⟩ := ⟨_, rfl⟩
  have u1 : Up m m1 := by rw [hm1]; exact Up.nw _ _
  have e1 : m1.at m.next = some ⟨[cx z], 1, false, false⟩ := by rw [hm1]; simp
  have hv1 : WG m1 v w c n := ⟨by
    rcases hv.1 with h | ⟨h, b, h1, h2⟩
    · exact .inl h
    · exact .inr ⟨h, b, h1, u1.at h2 hw⟩, hv.2⟩
  refine (code_seq _ _ _ _ _).2 ?_
  simp [h0, h1, hn, -code_seq]
  rw [← hm1]
  simp [h0, h1, hn]
  refine kcontains_ok d (p := m.next) hv1 hn1 hz e1 fun m' b hs hb => ?_
  simp [hn, hd]
  exact hQ _ _ (u1.trans hs.up) hb
end
end Go.Proofs.YtigbkoadojjajaaGreat
