/- Flows in the clean executor: the sum of the speeds. -/
import Derived.Test.YtjddmnfdnnbbhaaGreatW2Z
import Derived.Test.YtjddmnfdnnbbhaaGreatQAZ
set_option linter.unusedSimpArgs false
set_option linter.unusedVariables false
namespace Go.Clean
open Go Go.RowKit
section
variable {P : Program} {call : Caller} {ops : Array Oper} {fr : Fr} {m : Mem} {Q : Fr → Mem → Prop} {ty : TypeId} {pos : String} {af : Array Edge} {d : Option Tmp}
def nilO (o : Option Value) : Option Value := match o with
  | some (.pointer (some a)) => some (.pointer (some a))
  | some (.func (.func f) a b) => some (.func (.func f) a b)
  | _ => none
@[simp] theorem nilO_ptr (a : Addr) : nilO (some (.pointer (some a))) = some (.pointer (some a)) := (Eq.refl (some (Value.pointer (some a)))).trans rfl
@[simp] theorem step_nilCheck (x : Operand) : Gives (stepDX P call ops fr ⟨d, .nilCheck x, ty, pos, af, none⟩) m Q ↔ optQ (nilO (ev fr x)) fun v => putQ fr d Q v m := by
  rw [step_any rfl rfl]
  have e : opX P call fr ⟨d, .nilCheck x, ty, pos, af, none⟩ = M.lift (nilO (ev fr x)) := by
    unfold opX nilO
    dsimp only
    generalize ev fr x = o
    rcases o with _ | v
    · rfl
    · cases v with
      | pointer a => cases a <;> rfl
      | func f a b => cases f <;> rfl
      | _ => rfl
  rw [e]
  exact gives_lift' _
end
end Go.Clean
namespace Go.Proofs.YtjddmnfdnnbbhaaGreat
open Go.Clean
def lw (w : Nat → C) (n : Nat) : List Value := (List.range n).map fun i => cx (w i)
theorem lw_succ (w : Nat → C) (n : Nat) : lw w (n + 1) = lw w n ++ [cx (w n)] := by unfold lw; rw [List.range_succ, List.map_append]; rfl
@[simp] theorem lw_len (w : Nat → C) (n : Nat) : (lw w n).length = n := by simp [lw]
@[simp] theorem lw_get (w : Nat → C) {n i : Nat} (h : i < (lw w n).length) : (lw w n)[i] = cx (w i) := by simp [lw]
theorem lw_one (w : Nat → C) (n : Nat) : (lw w n).all oneV = true := by
  rw [List.all_eq_true]
  intro v hv
  obtain ⟨i, _, rfl⟩ := List.mem_map.1 hv
  rfl
/-- A list of complex numbers, grown one by one. -/
def WS (m : Mem) (v : Value) (w : Nat → C) (n : Nat) : Prop := (n = 0 ∧ v = nilL) ∨ (0 < n ∧ ∃ b, v = .slice (some ⟨b, 0, none⟩) n n ∧ m.at b = some ⟨lw w n, 1, true, false⟩)
theorem WS.len {m : Mem} {v : Value} {w : Nat → C} {n : Nat} (h : WS m v w n) : lenX Tryz.prog 97 v = some (.int .i64 n) := by
  rcases h with ⟨rfl, rfl⟩ | ⟨_, b, rfl, _⟩
  · unfold nilL; simp
  · simp
def smI (m0 : Mem) (v : Value) (w : Nat → C) (n : Nat) (k : Nat) (fr : Fr) (m' : Mem) : Prop := ∃ i, i + k = n ∧ fr.n = 23 ∧ fr.d = [] ∧ fr.at 0 = v ∧ fr.at 6 = .int .i64 n ∧ fr.at 7 = .int .i64 i ∧ fr.at 3 = cx (sumW w i) ∧ Up m0 m' ∧ WS m' v w n
def smR (m0 : Mem) (w : Nat → C) (n : Nat) : CQ := fun r m' => r.1 = .exit 0 ∧ r.2.n = 23 ∧ r.2.d = [] ∧ r.2.at 3 = cx (sumW w n) ∧ Up m0 m'
section
set_option maxRecDepth 10000
theorem run_fplace (n : Nat) (x : C) (h : cwithin x lim = true) (m : Mem) (Q : Value → Mem → Prop) : Gives (callN Tryz.prog known (n + 4) 70 [cx x]) m Q ↔ Q (.int .i64 0) m := by
  refine gives_pure (fun m => ?_) m Q
  refine gives_fn (nt := 6) rfl Tryz.func70 rfl rfl rfl (Nat.le_of_ble_eq_true rfl) fun fr hn hd hargs => ?_
  have h0 : fr.at 0 = _ := hargs 0 _ rfl
  clear hargs
  simp [h0, hn, hd, fv_lim, run_within, h]
set_option maxHeartbeats 2000000 in
theorem psum_ok (d : Nat) {m : Mem} {v : Value} {w : Nat → C} {n : Nat} (hv : WS m v w n) (hl : n ≤ 3) {Q : Value → Mem → Prop} (hQ : ∀ m', Up m m' → Q (cx (sumW w n)) m') :
    Gives (callN Tryz.prog known (d + 2) 71 [v]) m Q := by
  refine gives_fn (nt := 23) rfl Tryz.func71 rfl rfl rfl (Nat.le_of_ble_eq_true rfl) fun fr hn hd hargs => ?_
  have h0 : fr.at 0 = _ := hargs 0 _ rfl
  clear hargs
  simp [h0, hn, hv.len, cx_zero]
  refine code_loop_post (smR m w n) (smI m v w n) n (by omega) ⟨0, by simp, by simp [hn], by simp [hd], by simp [h0], by simp, by simp, by simp [sumW], Up.refl m, hv⟩ ?_ ?_
  · rintro k f m2 ⟨i, hik, f1, f2, f3, f4, f5, f6, u2, v2⟩
    by_cases hi : i < n
    · rcases v2 with ⟨rfl, -⟩ | ⟨hne, b, rfl, hb2⟩
      · omega
      · cases i with
        | zero =>
          have hx := idx_L b 0 n n 0 .i64 hne
          have hx0 : indexAddrX Tryz.prog 97 (.slice (some ⟨b, 0, none⟩) n n) (.int .i64 0) = some (.pointer (some ⟨b, 0, none⟩)) := hx
          simp [f1, f2, f3, f4, f5, hne, hx0, hb2, wr1]
          exact ⟨n - 1, by omega, 1, by omega, by simp [f1], by simp [f2], by simp [f3], by simp [f4], by simp, by simp [sumW], u2.trans (Up.rd _ _), .inr ⟨hne, b, rfl, by simpa using hb2⟩⟩
        | succ i =>
          obtain ⟨i', hi'⟩ : ∃ i', i' = i + 1 := ⟨_, rfl⟩
          rw [← hi'] at f5 hi hik f6
          have hc : ¬ i' = 0 := by omega
          simp [f1, f2, f3, f4, f5, f6, hi, hc, idx_L _ _ _ _ _ _ hi, hb2, run_add, wrap_succ i' (by omega)]
          exact ⟨n - (i' + 1), by omega, i' + 1, by omega, by simp [f1], by simp [f2], by simp [f3], by simp [f4], by simp, by simp [hi', sumW, cadd], u2.trans (Up.rd _ _), .inr ⟨hne, b, rfl, by simpa using hb2⟩⟩
    · have : i = n := by omega
      subst this
      simp [f1, f2, f4, f5]
      exact ⟨rfl, by simp [f1], by simp [f2], by simp [f6], u2⟩
  · rintro ⟨e, f⟩ m2 ⟨he, f1, f2, f3, u3⟩
    obtain rfl : e = .exit 0 := he
    simp only at f1 f2 f3
    simp [f1, f2, f3]
    exact hQ _ u3
end
end Go.Proofs.YtjddmnfdnnbbhaaGreat

/- Flows in the clean executor: flow.Speed. -/
namespace Go.Proofs.YtjddmnfdnnbbhaaGreat
open Go.Clean
def sumC (e : El) (v w : Value) : List Value := [.int .u8 e.k, cx e.a, cx e.s, .float .f64 e.p, v, w]
@[simp] theorem fa_one (s o : Nat) : fieldAddrX Tryz.prog 96 (.pointer (some ⟨s, o, none⟩)) 0 = some (.pointer (some ⟨s, o, none⟩)) := (by kernel_rfl : fieldAddrX Tryz.prog 96 (.pointer (some ⟨s, o, none⟩)) 0 = some (.pointer (some ⟨s, o, none⟩))).trans rfl
@[simp] theorem fa_sum0 (s : Nat) : fieldAddrX Tryz.prog 99 (.pointer (some ⟨s, 0, none⟩)) 0 = some (.pointer (some ⟨s, 0, none⟩)) := (by kernel_rfl : fieldAddrX Tryz.prog 99 (.pointer (some ⟨s, 0, none⟩)) 0 = some (.pointer (some ⟨s, 0, none⟩))).trans rfl
@[simp] theorem fa_sum1 (s : Nat) : fieldAddrX Tryz.prog 99 (.pointer (some ⟨s, 0, none⟩)) 1 = some (.pointer (some ⟨s, 4, none⟩)) := (by kernel_rfl : fieldAddrX Tryz.prog 99 (.pointer (some ⟨s, 0, none⟩)) 1 = some (.pointer (some ⟨s, 4, none⟩))).trans rfl
@[simp] theorem fa_sum2 (s : Nat) : fieldAddrX Tryz.prog 99 (.pointer (some ⟨s, 0, none⟩)) 2 = some (.pointer (some ⟨s, 5, none⟩)) := (by kernel_rfl : fieldAddrX Tryz.prog 99 (.pointer (some ⟨s, 0, none⟩)) 2 = some (.pointer (some ⟨s, 5, none⟩))).trans rfl
@[simp] theorem ld_sumE (e : El) (v w : Value) : ldX Tryz.prog 51 (sumC e v w) 0 = some e.val := (ld_agg agg_El size_El (sumC e v w) 0).trans rfl
@[simp] theorem ld_sumF (e : El) (v w : Value) : ldX Tryz.prog 25 (sumC e v w) 4 = some (.agg ⟨[v]⟩) := (ld_agg agg_Fw size_Fw (sumC e v w) 4).trans rfl
@[simp] theorem sum_4 (e : El) (v w : Value) : (sumC e v w)[4]? = some v := (Eq.refl (some v)).trans rfl
@[simp] theorem sum_5 (e : El) (v w : Value) : (sumC e v w)[5]? = some w := (Eq.refl (some w)).trans rfl
/-- The elements' speeds. -/
def spdE (e : El) (z : C) : C := spd e.k e.s (csub z e.a) e.n
def spds (es : List El) (z : C) (j : Nat) : C := match es[j]? with
  | some e => spdE e z
  | none => (some 0, some 0)
/-- An element that has a speed at z. -/
structure El.At (e : El) (z : C) : Prop where
  ok : e.OK
  h3 : e.k = 3 → cnought (csub z e.a) = false
  fin : cfin (spdE e z) = true
section
set_option maxRecDepth 10000
theorem onespeed_ok (d : Nat) {m : Mem} {S : Nat} {e : El} {v w : Value} {z : C} (hw : MW m) (he : e.At z) (hz : cwithin z lim = true) (hS : m.at S = some ⟨sumC e v w, 1, false, false⟩) {Q : Value → Mem → Prop} (hQ : ∀ m', Up m m' → Q (.tuple ⟨[cx (spdE e z), .int .i64 0]⟩) m') :
    Gives (callN Tryz.prog known (d + 8) 64 [.pointer (some ⟨S, 0, none⟩), cx z]) m Q := by
  refine gives_fn (nt := 14) rfl Tryz.func64 rfl rfl rfl (Nat.le_of_ble_eq_true rfl) fun fr hn hd hargs => ?_
  have h0 : fr.at 0 = _ := hargs 0 _ rfl
  have h1 : fr.at 1 = _ := hargs 1 _ rfl
  clear hargs
  simp [h0, h1, hn, hd, hS]
  refine espeed_ok d ((Up.rd m S).wf hw) he.ok.kp he.ok.ha he.ok.hs hz he.ok.h1 he.h3 he.fin fun m2 u2 => ?_
  simp [hn, hd]
  exact hQ _ ((Up.rd _ _).trans u2)
end
theorem app_C : appOK Tryz.prog 97 97 1 = true := by kernel_rfl
theorem bs_C : bsOK Tryz.prog 97 = true := by kernel_rfl
theorem WS.mk_rd {m : Mem} {S : Nat} {v : Value} {w : Nat → C} {n : Nat} (h : WS m v w n) : WS (m.rd S) v w n := by
  rcases h with h | ⟨h, b, h1, h2⟩
  · exact .inl h
  · exact .inr ⟨h, b, h1, by simpa using h2⟩
/-- A list of complex numbers of one's own. -/
def WO (n0 S : Nat) (m : Mem) (v : Value) (w : Nat → C) (n : Nat) : Prop := (n = 0 ∧ v = nilL) ∨ (0 < n ∧ ∃ b, v = .slice (some ⟨b, 0, none⟩) n n ∧ m.at b = some ⟨lw w n, 1, true, false⟩ ∧ n0 ≤ b ∧ b ≠ S)
theorem WO.ws {n0 S : Nat} {m : Mem} {v : Value} {w : Nat → C} {n : Nat} (h : WO n0 S m v w n) : WS m v w n := by
  rcases h with h | ⟨h, b, h1, h2, _⟩
  · exact .inl h
  · exact .inr ⟨h, b, h1, h2⟩
theorem WO.up {n0 S : Nat} {m m' : Mem} {v : Value} {w : Nat → C} {n : Nat} (h : WO n0 S m v w n) (hw : MW m) (u : Up m m') : WO n0 S m' v w n := by
  rcases h with h | ⟨h, b, h1, h2, h3⟩
  · exact .inl h
  · exact .inr ⟨h, b, h1, u.at h2 hw, h3⟩
theorem WO.push {m0 : Mem} {S b1 : Nat} {m : Mem} {v : Value} {w : Nat → C} {n : Nat} {x : C} {Q : Value → Mem → Prop} (h : WO m0.next S m v w n) (hx : x = w n) (hb1 : m.at b1 = some ⟨[cx x], 1, false, false⟩) (hw : MW m0) (hu : Up m0 m) (hS : S < m.next) (hn : n ≤ 3)
    (q : ∀ m' v', Up m0 m' → m.next ≤ m'.next → m'.at S = m.at S → WO m0.next S m' v' w (n + 1) → Q v' m') : Gives (appendX Tryz.prog 97 97 v (.slice (some ⟨b1, 0, none⟩) 1 1)) m Q := by
  subst hx
  have mw := hu.wf hw
  have h0 := hu.next
  rcases h with ⟨rfl, rfl⟩ | ⟨hp, b, rfl, h2, h3, h4⟩
  · refine gives_push app_C (b := m.next) (l := []) hb1 (.inl ⟨rfl, rfl⟩) rfl (one_cx _) (by decide) fun m2 n2 a2 o2 => ?_
    refine q _ _ ⟨by omega, fun c hc => by rw [o2 c (by omega) (by omega)]; exact hu.old c hc, fun _ c y hc => ?_⟩ (by omega) (o2 S (by omega) (by omega)) (.inr ⟨by omega, m.next, rfl, by rw [a2, lw_succ]; rfl, h0, by omega⟩)
    by_cases h1 : c = m.next
    · omega
    · rw [o2 c h1 h1] at hc
      have := mw c y hc
      omega
  · have hb := mw b _ h2
    have hl := lw_len w n
    refine gives_push app_C (b := b) (l := lw w n) hb1 (.inr ⟨fun h => by rw [h] at hl; simp at hl; omega, by rw [hl], h2, by omega⟩) (lw_one w n) (one_cx _) (by omega) fun m2 n2 a2 o2 => ?_
    rw [hl]
    refine q _ _ ⟨by omega, fun c hc => by rw [o2 c (by omega) (by omega)]; exact hu.old c hc, fun _ c y hc => ?_⟩ (by omega) (o2 S (fun h => h4 h.symm) (by omega)) (.inr ⟨by omega, m.next, rfl, by rw [a2, lw_succ], h0, by omega⟩)
    by_cases h1 : c = m.next
    · omega
    · by_cases h5 : c = b
      · omega
      · rw [o2 c h5 h1] at hc
        have := mw c y hc
        omega
def ptrS (S : Nat) : Value := .pointer (some ⟨S, 0, none⟩)
def funS (S : Nat) : Value := .func (.func 64) ⟨[ptrS S]⟩ ⟨[]⟩
def ovI (m0 : Mem) (S : Nat) (z : C) (v : Value) (es : List El) (k : Nat) (fr : Fr) (m' : Mem) : Prop := ∃ i, i + k = es.length ∧ fr.n = 71 ∧ fr.d = [] ∧ fr.at 0 = ptrS S ∧ fr.at 1 = cx z ∧ fr.at 2 = funS S ∧ fr.at 32 = v ∧ fr.at 33 = .int .i64 es.length ∧ fr.at 34 = .int .i64 i ∧
  Up m0 m' ∧ S < m'.next ∧ ∃ e w, m'.at S = some ⟨sumC e v w, 1, false, false⟩ ∧ WO m0.next S m' w (spds es z) i
def ovR (m0 : Mem) (S : Nat) (z : C) (v : Value) (es : List El) : CQ := fun r m' => r.1 = .exit 0 ∧ r.2.n = 71 ∧ r.2.d = [] ∧ r.2.at 0 = ptrS S ∧ Up m0 m' ∧ ∃ e w, m'.at S = some ⟨sumC e v w, 1, false, false⟩ ∧ WO m0.next S m' w (spds es z) es.length
section
set_option maxRecDepth 10000
set_option maxHeartbeats 2000000 in
theorem over_ok (d : Nat) {m0 m : Mem} {S : Nat} {e0 : El} {v : Value} {es : List El} {z : C} (hw : MW m0) (hv : EL m0 v es) (hl : es.length ≤ 3) (hes : ∀ e ∈ es, e.At z) (hz : cwithin z lim = true) (hfin : cfin (sumW (spds es z) es.length) = true)
    (u0 : Up m0 m) (hS0 : m0.next ≤ S) (hS1 : S < m.next) (hS : m.at S = some ⟨sumC e0 v nilL, 1, false, false⟩) {Q : Value → Mem → Prop} (hQ : ∀ m', Up m0 m' → Q (.tuple ⟨[cx (sumW (spds es z) es.length), .int .i64 0]⟩) m') :
    Gives (callN Tryz.prog known (d + 9) 63 [ptrS S, cx z, funS S]) m Q := by
  refine gives_fn (nt := 71) rfl Tryz.func63 rfl rfl rfl (Nat.le_of_ble_eq_true rfl) fun fr hn hd hargs => ?_
  have h0 : fr.at 0 = .pointer (some ⟨S, 0, none⟩) := hargs 0 _ rfl
  have h1 : fr.at 1 = _ := hargs 1 _ rfl
  have h2 : fr.at 2 = _ := hargs 2 _ rfl
  clear hargs
  have w1 := u0.wf hw
  simp [h0, h1, h2, hn, hd, hS]
  refine fcheck_ok _ ((Up.rd m S).wf w1) ((hv.up hw u0).up w1 (Up.rd _ _)) hl (fun e he => (hes e he).ok) fun m2 u2 => ?_
  have u2' : Up m m2 := (Up.rd m S).trans u2
  have e2 := u2'.at hS w1
  have n2 : S < m2.next := Nat.lt_of_lt_of_le hS1 u2'.next
  simp [h0, h1, h2, hn, hd, run_fplace, hz, e2, hv.len]
  refine code_loop_post (ovR m0 S z v es) (ovI m0 S z v es) es.length (by omega) ⟨0, by simp, by simp [hn], by simp [hd], by simp [h0, ptrS], by simp [h1], by simp [h2], by simp, by simp, by simp, u0.trans (u2'.trans (Up.rd _ _)), by simpa using n2, e0, nilL, by simpa using e2, .inl ⟨rfl, rfl⟩⟩ ?_ ?_
  · rintro k f m3 ⟨i, hik, f1, f2, f3, f4, f5, f6, f7, f8, u3, n3, e, w, hS3, hw3⟩
    have w3 := u3.wf hw
    have v3 := hv.up hw u3
    by_cases hi : i < es.length
    · have hat := hes _ (List.getElem_mem hi)
      rcases v3 with ⟨rfl, -⟩ | ⟨hne, b, gr, hv2, hb2⟩
      · simp at hi
      · have hbS : b ≠ S := by
          rcases hv with ⟨rfl, -⟩ | ⟨_, b', gr', hv', hb'⟩
          · simp at hi
          · rw [hv2] at hv'
            have hbb : b = b' := by injection hv' with h1; injection h1 with h1; injection h1
            have := hw b' _ hb'
            omega
        simp [f1, f2, f3, f4, f6, f7, f8, hi, hv2, idx_El _ _ _ _ hi, hb2, ld_El' hi, zero_El]
        refine ⟨rfl, storeQ_rule (y := ⟨[.int .u8 0, .complex .f64 0 0, .complex .f64 0 0, .float .f64 0], 1, false, false⟩) (by simp) rfl (by rw [sto_El]; rfl) (l := (es[i]'hi).cells) rfl fun m4 n4 l4 e4 => ?_⟩
        simp only [Mem.next_rd, Mem.next_nw, Mem.at_rd, Mem.at_nw] at n4 e4
        have u4 : Up m3 m4 := Up.wr (m1 := (m3.rd b).nw ⟨[.int .u8 0, .complex .f64 0 0, .complex .f64 0 0, .float .f64 0], 1, false, false⟩) (Up.trans (Up.rd _ _) (Up.nw _ _)) (Nat.le_refl _) (by simp) (by simpa using n4) (fun c => by simpa using e4 c)
        have e5 : m4.at m3.next = some ⟨elL es[i].k es[i].a es[i].s es[i].p, 1, false, false⟩ := by rw [e4, if_pos rfl]; rfl
        have eS : m4.at S = some ⟨sumC e v w, 1, false, false⟩ := u4.at hS3 w3
        have w4 := hw3.up w3 u4
        have n4' : S < m4.next := Nat.lt_of_lt_of_le n3 u4.next
        have u04 := u3.trans u4
        clear e4 l4 n4
        simp [f1, f3, ptrS, e5]
        refine storeQ_rule (y := ⟨sumC e v w, 1, false, false⟩) (by simpa using eS) rfl (by rw [sto_El]; rfl) (l := sumC es[i] v w) rfl fun m5 n5 l5 e5' => ?_
        simp only [Mem.next_rd, Mem.at_rd] at n5 e5'
        have u05 : Up m0 m5 := u04.wr (x := ⟨sumC es[i] v w, 1, false, false⟩) hS0 n4' n5 e5'
        have hS5 : m5.at S = some ⟨sumC es[i] v w, 1, false, false⟩ := by rw [e5', if_pos rfl]
        have w5 : WO m0.next S m5 w (spds es z) i := by
          rcases w4 with h | ⟨h, bb, q1, q2, q3, q4⟩
          · exact .inl h
          · exact .inr ⟨h, bb, q1, by rw [e5', if_neg q4]; exact q2, q3, q4⟩
        have mw5 := u05.wf hw
        have n5' : S < m5.next := by omega
        clear e5' l5 n5 u04 n4' w4 eS e5 u4
        simp [f1, f4, f5, funS, ptrS, funX]
        refine onespeed_ok _ mw5 hat hz hS5 fun m6 u6 => ?_
        have u06 := u05.trans u6
        have hS6 := u6.at hS5 mw5
        have w6 := w5.up mw5 u6
        have n6 := Nat.lt_of_lt_of_le n5' u6.next
        have mw6 := u06.wf hw
        clear u6 w5 hS5 u05 n5' mw5
        simp [f1, f3, ptrS, hS6]
        refine gives_build1 bs_C (cells_cx _) (one_cx _) ?_
        have hsp : spdE es[i] z = spds es z i := by unfold spds; rw [List.getElem?_eq_getElem hi]
        obtain ⟨m7, hm7⟩ : ∃ m7, m7 = (m6.rd S).nw ⟨[cx (spdE es[i] z)], 1, false, false⟩ := ⟨_, rfl⟩
        have u7 : Up m6 m7 := by rw [hm7]; exact Up.trans (Up.rd _ _) (Up.nw _ _)
        have a7 : m7.at m6.next = some ⟨[cx (spdE es[i] z)], 1, false, false⟩ := by rw [hm7]; simp
        have hS7 := u7.at hS6 mw6
        have w7 := w6.up mw6 u7
        have u07 := u06.trans u7
        have n7 := Nat.lt_of_lt_of_le n6 u7.next
        simp [f1, appC_slice]
        rw [← hm7]
        clear hm7 u7 w6 u06 hS6 n6 mw6
        refine w7.push hsp a7 hw u07 n7 (by omega) fun m8 v8 u08 n8 hS8 w8 => ?_
        rw [hS7] at hS8
        simp [f1]
        have hv8 : cellsV v8 = [v8] ∧ oneV v8 = true := by
          rcases w8 with ⟨h, -⟩ | ⟨_, b8, rfl, _⟩
          · omega
          · simp
        refine storeQ_one (cs := sumC es[i] v w) (sz := 1) (gr := false) hS8 (by simp [hv8]) hv8.1 (by simp [sumC]) fun m9 n9 l9 e9 => ?_
        have u09 : Up m0 m9 := u08.wr (x := ⟨sumC es[i] v v8, 1, false, false⟩) hS0 (Nat.lt_of_lt_of_le n7 n8) n9 e9
        have w9 : WO m0.next S m9 v8 (spds es z) (i + 1) := by
          rcases w8 with h | ⟨h, bb, q1, q2, q3, q4⟩
          · exact .inl h
          · exact .inr ⟨h, bb, q1, by rw [e9, if_neg q4]; exact q2, q3, q4⟩
        have hS9 : m9.at S = some ⟨sumC es[i] v v8, 1, false, false⟩ := by rw [e9, if_pos rfl]; rfl
        simp [f1, f8, wrap_succ i (by omega)]
        exact ⟨es.length - (i + 1), by omega, i + 1, by omega, by simp [f1], by simp [f2], by simp [f3], by simp [f4], by simp [f5], by simp [f6, hv2], by simp [f7], by simp, u09, by omega, es[i], v8, by rw [← hv2]; exact hS9, w9⟩
    · have : i = es.length := by omega
      subst this
      simp [f1, f2, f7, f8]
      exact ⟨rfl, by simp [f1], by simp [f2], by simp [f3], u3, e, w, hS3, hw3⟩
  · rintro ⟨e, f⟩ m3 ⟨he, f1, f2, f3, u3, e', w, hS3, hw3⟩
    obtain rfl : e = .exit 0 := he
    simp only at f1 f2 f3
    simp [f1, f2, f3, ptrS, hS3]
    refine psum_ok _ (WS.mk_rd hw3.ws) hl fun m4 u4 => ?_
    simp [f1, f2, run_finite, hfin]
    exact hQ _ (u3.trans ((Up.rd _ _).trans u4))
end
end Go.Proofs.YtjddmnfdnnbbhaaGreat

/- Flows in the clean executor: flow.Speed. -/
namespace Go.Proofs.YtjddmnfdnnbbhaaGreat
open Go.Clean
def e00 : El := ⟨0, (some 0, some 0), (some 0, some 0), 0, 0⟩
theorem zero_sum : zeroT Tryz.prog 99 = some (.agg ⟨sumC e00 nilL nilL⟩) := (by kernel_rfl : zeroT Tryz.prog 99 = some (.agg ⟨sumC e00 nilL nilL⟩))
theorem places_sum : (match Tryz.prog.underlying 99 with | some (.struct fs) => placesX Tryz.prog fs.toList | _ => none) = some [(0, 4), (4, 1), (5, 1)] := by kernel_rfl
theorem build_sum {v : Value} (hx : cellsV v = [v]) : buildX Tryz.prog 99 [(1, .agg ⟨[v]⟩)] = some (.agg ⟨sumC e00 v nilL⟩) := by
  have h := places_sum
  unfold buildX
  simp only [zero_sum]
  split at h
  · rename_i fs e
    simp only [e, h]
    simp [fillX, layK, Nat.blt, Nat.ble, sumC]
  · cases h
@[simp] theorem elt_sum : elemT Tryz.prog 99 = 1 := by kernel_rfl
section
set_option maxRecDepth 10000
set_option maxHeartbeats 2000000 in
theorem fspeed_ok (d : Nat) {m : Mem} {v : Value} {es : List El} {z : C} (hw : MW m) (hv : EL m v es) (hl : es.length ≤ 3) (hes : ∀ e ∈ es, e.At z) (hz : cwithin z lim = true) (hfin : cfin (sumW (spds es z) es.length) = true)
    {Q : Value → Mem → Prop} (hQ : ∀ m', Up m m' → Q (.tuple ⟨[cx (sumW (spds es z) es.length), .int .i64 0]⟩) m') :
    Gives (callN Tryz.prog known (d + 10) 50 [.agg ⟨[v]⟩, cx z]) m Q := by
  refine gives_fn (nt := 19) rfl Tryz.func50 rfl rfl rfl (Nat.le_of_ble_eq_true rfl) fun fr hn hd hargs => ?_
  have h0 : fr.at 0 = _ := hargs 0 _ rfl
  have h1 : fr.at 1 = _ := hargs 1 _ rfl
  clear hargs
  obtain ⟨m1, hm1⟩ : ∃ m1, m1 = m.nw ⟨[v], 1, false, false⟩ := ⟨_, rfl⟩
  have u1 : Up m m1 := by rw [hm1]; exact Up.nw _ _
  have e1 : m1.at m.next = some ⟨[v], 1, false, false⟩ := by rw [hm1]; simp
  refine (code_seq _ _ _ _ _).2 ?_
  simp [h0, hn, hv.one, -code_seq]
  rw [← hm1]
  have hso : (sumC e00 v nilL).all oneV = true := by
    show (oneV v && (oneV nilL && true)) = true
    rw [hv.one, one_nilL]; rfl
  obtain ⟨m2, hm2⟩ : ∃ m2, m2 = (m1.rd m.next).nw ⟨sumC e00 v nilL, 1, false, false⟩ := ⟨_, rfl⟩
  have u2 : Up m m2 := by rw [hm2]; exact u1.trans ((Up.rd _ _).trans (Up.nw _ _))
  have n2 : m2.next = m1.next + 1 := by rw [hm2]; simp
  have e2 : m2.at m1.next = some ⟨sumC e00 v nilL, 1, false, false⟩ := by rw [hm2]; simp
  simp [hn, hd, h1, e1, build_sum hv.cells, hso]
  rw [← hm2]
  refine over_ok d hw hv hl hes hz hfin u2 (Nat.le_trans u1.next (Nat.le_refl _)) (by omega) e2 fun m3 u3 => ?_
  simp [hn, hd]
  exact hQ _ u3
end
end Go.Proofs.YtjddmnfdnnbbhaaGreat

/- Tracers in the clean executor: types; the way of a flow. -/
namespace Go.Proofs.YtjddmnfdnnbbhaaGreat
open Go.Clean
/-! ### Types -/
structure Tr where
  z : C
  t : F
  w : Nat
def Tr.cells (a : Tr) : List Value := [cx a.z, fv a.t, .int .u8 a.w]
def Tr.val (a : Tr) : Value := .agg ⟨[cx a.z, fv a.t, .int .u8 a.w]⟩
section
@[simp] theorem one_fv (x : F) : oneV (fv x) = true := by cases x <;> rfl
@[simp] theorem cells_fv (x : F) : cellsV (fv x) = [fv x] := by cases x <;> rfl
@[simp] theorem cells_tr (a : Tr) : cellsV a.val = a.cells := rfl
@[simp] theorem one_tr (a : Tr) : a.cells.all oneV = true := by simp [Tr.cells]
@[simp] theorem len_tr (a : Tr) : a.cells.length = 3 := rfl
@[simp] theorem agg_Tr : Clean.isAgg Tryz.prog 41 = some true := by kernel_rfl
@[simp] theorem size_Tr : sizeT Tryz.prog 41 = some 3 := by kernel_rfl
@[simp] theorem elt_Tr : elemT Tryz.prog 41 = 1 := by kernel_rfl
theorem zero_Tr : zeroT Tryz.prog 41 = some (.agg ⟨[.complex .f64 0 0, .float .f64 0, .int .u8 0]⟩) := by kernel_rfl
@[simp] theorem ld_Tr (a : Tr) : ldX Tryz.prog 41 a.cells 0 = some a.val := (ld_agg agg_Tr size_Tr a.cells 0).trans rfl
theorem sto_Tr (v : Value) : storeOK Tryz.prog 41 v = (3 == (cellsV v).length && (cellsV v).all oneV) := by unfold storeOK; rw [size_Tr]; rfl
@[simp] theorem tr_0 (a : Tr) : a.cells[0]? = some (cx a.z) := (Eq.refl (some (cx a.z))).trans rfl
@[simp] theorem tr_1 (a : Tr) : a.cells[1]? = some (fv a.t) := (Eq.refl (some (fv a.t))).trans rfl
@[simp] theorem tr_2 (a : Tr) : a.cells[2]? = some (.int .u8 a.w) := (Eq.refl (some (.int .u8 a.w : Value))).trans rfl
@[simp] theorem fa_Tr0 (s o : Nat) : fieldAddrX Tryz.prog 41 (.pointer (some ⟨s, o, none⟩)) 0 = some (.pointer (some ⟨s, o, none⟩)) := (by kernel_rfl : fieldAddrX Tryz.prog 41 (.pointer (some ⟨s, o, none⟩)) 0 = some (.pointer (some ⟨s, o, none⟩))).trans rfl
@[simp] theorem fa_Tr1 (s : Nat) : fieldAddrX Tryz.prog 41 (.pointer (some ⟨s, 0, none⟩)) 1 = some (.pointer (some ⟨s, 1, none⟩)) := (by kernel_rfl : fieldAddrX Tryz.prog 41 (.pointer (some ⟨s, 0, none⟩)) 1 = some (.pointer (some ⟨s, 1, none⟩))).trans rfl
@[simp] theorem fa_Tr2 (s : Nat) : fieldAddrX Tryz.prog 41 (.pointer (some ⟨s, 0, none⟩)) 2 = some (.pointer (some ⟨s, 2, none⟩)) := (by kernel_rfl : fieldAddrX Tryz.prog 41 (.pointer (some ⟨s, 0, none⟩)) 2 = some (.pointer (some ⟨s, 2, none⟩))).trans rfl
/-! ### The rule -/
def ruL : List Value := [.float .f64 4602678819172646912, .int .i64 3, .float .f64 4598175219545276416, .complex .f64 13839561654909534208 13839561654909534208, .complex .f64 4616189618054758400 4616189618054758400]
@[simp] theorem cells_ru : cellsV ruV = ruL := by kernel_rfl
@[simp] theorem one_ru : ruL.all oneV = true := by kernel_rfl
@[simp] theorem elt_Ru : elemT Tryz.prog 31 = 1 := by kernel_rfl
@[simp] theorem ld_Ru : ldX Tryz.prog 31 ruL 0 = some ruV := (by kernel_rfl : ldX Tryz.prog 31 ruL 0 = some ruV).trans rfl
@[simp] theorem elt_Bx : elemT Tryz.prog 29 = 1 := by kernel_rfl
@[simp] theorem ld_Bx : ldX Tryz.prog 29 ruL 3 = some boxV := (by kernel_rfl : ldX Tryz.prog 29 ruL 3 = some boxV).trans rfl
@[simp] theorem ru_1 : ruL[1]? = some (.int .i64 3) := (Eq.refl (some (.int .i64 3 : Value))).trans rfl
@[simp] theorem fa_Ru0 (s : Nat) : fieldAddrX Tryz.prog 31 (.pointer (some ⟨s, 0, none⟩)) 0 = some (.pointer (some ⟨s, 0, none⟩)) := (by kernel_rfl : fieldAddrX Tryz.prog 31 (.pointer (some ⟨s, 0, none⟩)) 0 = some (.pointer (some ⟨s, 0, none⟩))).trans rfl
@[simp] theorem fa_Ru1 (s : Nat) : fieldAddrX Tryz.prog 31 (.pointer (some ⟨s, 0, none⟩)) 1 = some (.pointer (some ⟨s, 1, none⟩)) := (by kernel_rfl : fieldAddrX Tryz.prog 31 (.pointer (some ⟨s, 0, none⟩)) 1 = some (.pointer (some ⟨s, 1, none⟩))).trans rfl
@[simp] theorem fa_Ru2 (s : Nat) : fieldAddrX Tryz.prog 31 (.pointer (some ⟨s, 0, none⟩)) 2 = some (.pointer (some ⟨s, 2, none⟩)) := (by kernel_rfl : fieldAddrX Tryz.prog 31 (.pointer (some ⟨s, 0, none⟩)) 2 = some (.pointer (some ⟨s, 2, none⟩))).trans rfl
@[simp] theorem fa_Ru3 (s : Nat) : fieldAddrX Tryz.prog 31 (.pointer (some ⟨s, 0, none⟩)) 3 = some (.pointer (some ⟨s, 3, none⟩)) := (by kernel_rfl : fieldAddrX Tryz.prog 31 (.pointer (some ⟨s, 0, none⟩)) 3 = some (.pointer (some ⟨s, 3, none⟩))).trans rfl
end
theorem gk {v : Value} {f : FuncId} {args : List Value} (n : Nat) (h : known f args = some (M.ret v)) (m : Mem) (Q : Value → Mem → Prop) : Gives (callN Tryz.prog known (n + 1) f args) m Q ↔ Q v m := by
  rw [gives_known h, gives_ret]
/-! ### The way -/
def cconj (x : C) : C := (x.1, fneg x.2)
section
set_option maxRecDepth 10000
theorem run_conj (n : Nat) (x : C) (m : Mem) (Q : Value → Mem → Prop) : Gives (callN Tryz.prog known (n + 1) 51 [cx x]) m Q ↔ Q (cx (cconj x)) m := by
  refine gives_pure (fun m => ?_) m Q
  refine gives_fn (nt := 9) rfl Tryz.func51 rfl rfl rfl (Nat.le_of_ble_eq_true rfl) fun fr hn hd hargs => ?_
  have h0 : fr.at 0 = _ := hargs 0 _ rfl
  clear hargs
  simp [h0, hn, hd, fv, cx, cconj]
theorem run_tplace (n : Nat) (x : C) (m : Mem) (Q : Value → Mem → Prop) : Gives (callN Tryz.prog known (n + 4) 16 [cx x]) m Q ↔ Q (.bool (cwithin x lim)) m := by
  refine gives_pure (fun m => ?_) m Q
  refine gives_fn (nt := 5) rfl Tryz.func16 rfl rfl rfl (Nat.le_of_ble_eq_true rfl) fun fr hn hd hargs => ?_
  have h0 : fr.at 0 = _ := hargs 0 _ rfl
  clear hargs
  simp [h0, hn, hd, fv_lim, run_within]
/-- The stream that the law goes along. -/
def e1 : El := ⟨1, (some 0, some 0), (some 4607182418800017408, some 13835058055282163712), 0, 0⟩
def way (es : List El) (z : C) : C := cconj (sumW (spds es z) es.length)
structure Okay (es : List El) : Prop where
  few : es.length ≤ 3
  all : ∀ z, ∀ e ∈ es, e.At z
  fin : ∀ z, cfin (sumW (spds es z) es.length) = true
theorem okay1 : Okay [e1] := ⟨by decide, fun z e he => by
  obtain rfl := List.mem_singleton.1 he
  exact ⟨⟨.s, by decide, by decide, fun _ => by decide⟩, (fun h => by cases h), (by show cfin e1.s = true; decide)⟩, fun z => by show cfin e1.s = true; decide⟩
theorem okay0 : Okay [] := ⟨by decide, (fun z e he => by cases he), fun z => by show cfin (some 0, some 0) = true; decide⟩
theorem way_ok (d : Nat) {m : Mem} {v : Value} {es : List El} {z : C} (hw : MW m) (hv : EL m v es) (he : Okay es) (hz : cwithin z lim = true) {Q : Value → Mem → Prop} (hQ : ∀ m', Up m m' → Q (.tuple ⟨[cx (way es z), .int .i64 0]⟩) m') :
    Gives (callN Tryz.prog known (d + 11) 41 [.agg ⟨[v]⟩, cx z]) m Q := by
  refine gives_fn (nt := 19) rfl Tryz.func41 rfl rfl rfl (Nat.le_of_ble_eq_true rfl) fun fr hn hd hargs => ?_
  have h0 : fr.at 0 = _ := hargs 0 _ rfl
  have h1 : fr.at 1 = _ := hargs 1 _ rfl
  clear hargs
  obtain ⟨m1, hm1⟩ : ∃ m1, m1 = m.nw ⟨[v], 1, false, false⟩ := ⟨_, rfl⟩
  have u1 : Up m m1 := by rw [hm1]; exact Up.nw _ _
  have a1 : m1.at m.next = some ⟨[v], 1, false, false⟩ := by rw [hm1]; simp
  refine (code_seq _ _ _ _ _).2 ?_
  simp [h0, hn, hv.one, -code_seq]
  rw [← hm1]
  have u2 := u1.trans (Up.rd m1 m.next)
  simp [hn, hd, h1, a1]
  refine fspeed_ok d (u2.wf hw) (hv.up hw u2) he.few (he.all z) hz (he.fin z) fun m3 u3 => ?_
  simp [hn, hd, run_conj]
  exact hQ _ (u2.trans u3)
end
end Go.Proofs.YtjddmnfdnnbbhaaGreat

/- Tracers in the clean executor: one step on. -/
namespace Go.Proofs.YtjddmnfdnnbbhaaGreat
open Go.Clean
def half : F := some 4602678819172646912
def quarter : F := some 4598175219545276416
def two : F := some 4611686018427387904
def twelfth : F := some 4590669220166325589
section
variable {P : Program} {t : TypeId} {xo yo : Operand}
theorem fv_two : Value.float .f64 4611686018427387904 = fv two := by kernel_rfl
theorem fadd_fv (x y : F) : binX P .add t xo yo (fv x) (fv y) = some (fv (fadd x y)) := bin_fadd x y
theorem fle_fv (x y : F) : binX P .leq t xo yo (fv x) (fv y) = some (.bool (fle x y)) := bin_fle x y
theorem div_2 : binX P .quo t xo yo (fv half) (.float .f64 4611686018427387904) = some (fv quarter) := by kernel_rfl
theorem div_6 : binX P .quo t xo yo (fv half) (.float .f64 4618441417868443648) = some (fv twelfth) := by kernel_rfl
theorem ruh : ruL[0]? = some (fv half) := by kernel_rfl
theorem ruq : ruL[2]? = some (fv quarter) := by kernel_rfl
end
def Tr.ends (a : Tr) (w : Nat) : Tr := ⟨a.z, a.t, w⟩
theorem ok_u8 (k : Int) : storeOK Tryz.prog 5 (.int .u8 k) = true := by kernel_rfl
def ptr (b : Nat) : Value := .pointer (some ⟨b, 0, none⟩)
def endF (b : Nat) : Value := .func (.func 39) ⟨[]⟩ ⟨[ptr b]⟩
def tr0 : Tr := ⟨(some 0, some 0), some 0, 0⟩
theorem zero_tr : zeroT Tryz.prog 41 = some tr0.val := by kernel_rfl
section
set_option maxRecDepth 10000
theorem ended_ok (d : Nat) {m0 m : Mem} {b : Nat} {a : Tr} {k : Nat} (hw : MW m0) (hu : Up m0 m) (h0 : m0.next ≤ b) (h1 : b < m.next) (hb : m.at b = some ⟨a.cells, 1, false, false⟩) {Q : Value → Mem → Prop}
    (hQ : ∀ m', Up m0 m' → m.next ≤ m'.next → (∀ c, c < m.next → c ≠ b → m'.at c = m.at c) → Q (a.ends k).val m') : Gives (callN Tryz.prog known (d + 1) 39 [.int .u8 k, ptr b]) m Q := by
  refine gives_fn (nt := 7) rfl Tryz.func39 rfl rfl rfl (Nat.le_of_ble_eq_true rfl) fun fr hn hd hargs => ?_
  have a0 : fr.at 0 = _ := hargs 0 _ rfl
  have a1 : fr.at 1 = .pointer (some ⟨b, 0, none⟩) := hargs 1 _ rfl
  clear hargs
  have w0 := hu.wf hw
  obtain ⟨m1, hm1⟩ : ∃ m1, m1 = m.nw ⟨tr0.cells, 1, false, false⟩ := ⟨_, rfl⟩
  have u1 : Up m m1 := by rw [hm1]; exact Up.nw _ _
  have c1 : m1.at m.next = some ⟨tr0.cells, 1, false, false⟩ := by rw [hm1]; simp
  have n1 : m1.next = m.next + 1 := by rw [hm1]; simp
  have b1 := u1.at hb w0
  refine (code_seq _ _ _ _ _).2 ?_
  simp [hn, zero_tr, -code_seq]
  rw [← hm1]
  refine (code_seq _ _ _ _ _).2 ?_
  simp [hn, a0, a1, -code_seq]
  refine storeQ_one (cs := a.cells) (sz := 1) (gr := false) b1 (ok_u8 _) (by simp) (by simp) fun m2 n2 l2 e2 => ?_
  have b2 : m2.at b = some ⟨(a.ends k).cells, 1, false, false⟩ := by rw [e2, if_pos rfl]; rfl
  have c2 : m2.at m.next = some ⟨tr0.cells, 1, false, false⟩ := by rw [e2, if_neg (by omega)]; exact c1
  have u2 : Up m0 m2 := (hu.trans u1).wr h0 (by omega) n2 e2
  simp [hn, hd, a1, b2]
  refine storeQ_rule (y := ⟨tr0.cells, 1, false, false⟩) (by simpa using c2) rfl (by rw [sto_Tr]; simp) (l := (a.ends k).cells) rfl fun m3 n3 l3 e3 => ?_
  have u3 : Up m0 m3 := Up.wr (m1 := m2.rd b) (u2.trans (Up.rd _ _)) (Nat.le_trans h0 (Nat.le_of_lt h1)) (by simp; omega) n3 e3
  have c3 : m3.at m.next = some ⟨(a.ends k).cells, 1, false, false⟩ := by rw [e3, if_pos rfl]
  simp [hn, hd, c3]
  refine hQ _ (u3.trans (Up.rd _ _)) (by simp only [Mem.next_rd] at n3 ⊢; omega) fun c hc hne => ?_
  rw [Mem.at_rd, e3, if_neg (by omega), Mem.at_rd, e2, if_neg hne]
  exact u1.old c hc
end
end Go.Proofs.YtjddmnfdnnbbhaaGreat
