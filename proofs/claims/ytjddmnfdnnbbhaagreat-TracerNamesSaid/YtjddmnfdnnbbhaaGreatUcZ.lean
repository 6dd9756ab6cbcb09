/- Tracers in the clean executor: tracer.Rake, tracer.Cloud. -/
import Derived.Test.YtjddmnfdnnbbhaaGreatUaZ
set_option linter.unusedSimpArgs false
set_option linter.unusedVariables false
namespace Go.Clean
variable {P : Program} {m : Mem} {Q : Value → Mem → Prop}
def mkTOK (P : Program) (t : TypeId) (v : Value) (sz : Nat) : Bool := match P.underlying t with
  | some (.slice e) => match P.info? e, zeroT P e with
    | some i, some z => i.size == sz && (cellsV z).length == sz && Nat.blt 0 sz && Nat.ble i.bytes 1024 && eqVs (cellsV z) (cellsV v) && (cellsV v).all oneV
    | _, _ => false
  | _ => false
theorem all_repeat {l : List Value} (h : l.all oneV = true) : ∀ n, (repeatL l n).all oneV = true
  | 0 => rfl
  | n + 1 => by
    show (l ++ repeatL l n).all oneV = true
    rw [List.all_append, h, all_repeat h n]; rfl
theorem gives_makeT {t : TypeId} {v : Value} {sz : Nat} (h : mkTOK P t v sz = true) {n : Nat} {q q' : IntKind} (hn : n ≤ 1048576) (hQ : Q (.slice (some ⟨m.next, 0, none⟩) n n) (m.nw ⟨repeatL (cellsV v) n, sz, false, false⟩)) : Gives (makeSliceX P t (.int q n) (.int q' n)) m Q := by
  unfold mkTOK at h
  split at h
  · rename_i e h1
    split at h
    · rename_i i z h2 h3
      simp only [Bool.and_eq_true, beq_iff_eq, Nat.ble_eq, Nat.blt_eq] at h
      obtain ⟨⟨⟨⟨⟨h4, h5⟩, h6⟩, h7⟩, h8⟩, h9⟩ := h
      have hz := eqVs_eq h8
      unfold makeSliceX
      simp only [h1, h2, h3]
      rw [gives_bind, gives_guard]
      refine ⟨?_, ?_⟩
      · simp only [Bool.and_eq_true, beq_iff_eq, decide_eq_true_eq, Nat.ble_eq, Nat.blt_eq]
        refine ⟨⟨⟨by omega, by omega⟩, by omega⟩, ?_⟩
        rw [Int.toNat_natCast]
        exact Nat.le_trans (Nat.mul_le_mul h7 hn) (by decide)
      · rw [gives_bind, gives_newX, hz, h4]
        refine ⟨all_repeat h9 _, (gives_ret _ _ _).2 ?_⟩
        simpa using hQ
    · cases h
  · cases h
end Go.Clean
namespace Go.Proofs.YtjddmnfdnnbbhaaGreat
open Go Go.RowKit Go.Clean
theorem mk_T : mkTOK Tryz.prog 34 tr0.val 3 = true := by kernel_rfl
theorem repeat_T : ∀ n, repeatL (cellsV tr0.val) n = flatT (List.replicate n tr0)
  | 0 => rfl
  | n + 1 => by
    show cellsV tr0.val ++ repeatL (cellsV tr0.val) n = _
    rw [repeat_T n]; rfl
/-! ### coordinate -/
def fi (n : Int) : F := some (Ieee.double.write (.number (decide (n < 0)) n.natAbs 0))
theorem conv_fi (n : Int) : convX Tryz.prog 3 26 (.int .i64 n) = some (fv (fi n)) := by
  have h : convX Tryz.prog 3 26 (.int .i64 n) = some (.float .f64 (Ieee.double.write (.number (decide (n < 0)) n.natAbs 0))) := by kernel_rfl
  rw [h]
  unfold fv fi
  show _ = some (Value.float .f64 (canon _))
  rw [canon_yes (read_write_no _ rfl)]
theorem fsub_fv {P : Program} {t : TypeId} {xo yo : Operand} (x y : F) : binX P .sub t xo yo (fv x) (fv y) = some (fv (fsub x y)) := bin_fsub x y
theorem fmul_fv {P : Program} {t : TypeId} {xo yo : Operand} (x y : F) : binX P .mul t xo yo (fv x) (fv y) = some (fv (fmul x y)) := bin_fmul x y
theorem fdiv_fv {P : Program} {t : TypeId} {xo yo : Operand} (x y : F) : binX P .quo t xo yo (fv x) (fv y) = some (fv (fdiv x y)) := bin_fdiv x y
def co (a b : F) (k n : Nat) : F := if k = 0 then a else if k = n - 1 then b else fadd a (fmul (fdiv (fi k) (fi (n - 1 : Nat))) (fsub b a))
theorem wrap_pred (n : Nat) (h0 : 0 < n) (h : n < 4611686018427387904) : IntKind.i64.wrap ((n : Int) - 1) = ((n - 1 : Nat) : Int) := by
  have e1 : (2 : Int) ^ 64 = 18446744073709551616 := by decide
  have e2 : (2 : Int) ^ 63 = 9223372036854775808 := by decide
  simp only [IntKind.wrap]
  simp [IntKind.bits, IntKind.signed, e1, e2]
  omega
section
set_option maxRecDepth 10000
set_option maxHeartbeats 2000000
theorem run_co (d : Nat) (a b : F) (k n : Nat) (h0 : 0 < n) (hn : n ≤ 4096) (m : Mem) (Q : Value → Mem → Prop) : Gives (callN Tryz.prog known (d + 1) 17 [fv a, fv b, .int .i64 (k : Int), .int .i64 (n : Int)]) m Q ↔ Q (fv (co a b k n)) m := by
  refine gives_pure (fun m => ?_) m Q
  refine gives_fn (nt := 30) rfl Tryz.func17 rfl rfl rfl (Nat.le_of_ble_eq_true rfl) fun fr hn hd hargs => ?_
  have a0 : fr.at 0 = _ := hargs 0 _ rfl
  have a1 : fr.at 1 = _ := hargs 1 _ rfl
  have a2 : fr.at 2 = _ := hargs 2 _ rfl
  have a3 : fr.at 3 = _ := hargs 3 _ rfl
  clear hargs
  obtain ⟨n1, hn1⟩ : ∃ n1, n1 = n - 1 := ⟨_, rfl⟩
  have hw := wrap_pred n h0 (by omega)
  unfold co
  rw [← hn1] at hw ⊢
  by_cases hk : k = 0
  · subst hk
    simp [a0, a1, a2, a3, hn, hd]
  · have hki : ¬ (k : Int) = 0 := by omega
    by_cases hk1 : k = n1
    · have e1 : (k : Int) = (n1 : Int) := by omega
      simp [a0, a1, a2, a3, hn, hd, hw, hk, hki, hk1, e1]
      simp [hn, hd, show ¬ n1 = 0 by omega, a1, a3, hw]
    · have e1 : ¬ (k : Int) = (n1 : Int) := by omega
      simp [a0, a1, a2, a3, hn, hd, hw, hk, hki, hk1, e1, conv_fi, fsub_fv, fmul_fv, fdiv_fv, fadd_fv]
end
end Go.Proofs.YtjddmnfdnnbbhaaGreat

/- Tracers in the clean executor: tracer.Rake, tracer.Cloud. -/
namespace Go.Proofs.YtjddmnfdnnbbhaaGreat
open Go Go.RowKit Go.Clean
/-- The first i places are filled in. -/
def rk (f : Nat → C) (n i : Nat) : List Tr := (List.range n).map fun j => if j < i then ⟨f j, some 0, 0⟩ else tr0
theorem rk_len (f : Nat → C) (n i : Nat) : (rk f n i).length = n := by simp [rk]
theorem rk_get (f : Nat → C) {n i j : Nat} (h : j < n) : (rk f n i)[j]? = some (if j < i then ⟨f j, some 0, 0⟩ else tr0) := by simp [rk, h]
theorem rk_0 (f : Nat → C) (n : Nat) : rk f n 0 = List.replicate n tr0 := by
  apply List.ext_getElem?
  intro j
  by_cases h : j < n
  · rw [rk_get f h]; simp [h]
  · rw [List.getElem?_eq_none (by rw [rk_len]; omega), List.getElem?_eq_none (by simp; omega)]
theorem rk_set (f : Nat → C) {n i : Nat} (h : i < n) : (rk f n i).set i ⟨f i, some 0, 0⟩ = rk f n (i + 1) := by
  apply List.ext_getElem?
  intro j
  rw [List.getElem?_set, rk_len]
  by_cases hij : i = j
  · subst hij
    rw [if_pos rfl, if_pos h, rk_get f h, if_pos (by omega)]
  · rw [if_neg hij]
    by_cases hj : j < n
    · rw [rk_get f hj, rk_get f hj]
      by_cases h1 : j < i
      · rw [if_pos h1, if_pos (by omega)]
      · rw [if_neg h1, if_neg (by omega)]
    · rw [List.getElem?_eq_none (by rw [rk_len]; omega), List.getElem?_eq_none (by rw [rk_len]; omega)]
theorem flatT_set0 : ∀ (ts : List Tr) (i : Nat) (z : C) (a : Tr), ts[i]? = some a → (flatT ts).set (i * 3) (cx z) = flatT (ts.set i ⟨z, a.t, a.w⟩)
  | e :: l, 0, z, a, h => by
    obtain rfl : e = a := by simpa using h
    rfl
  | e :: l, i + 1, z, a, h => by
    rw [show (i + 1) * 3 = i * 3 + 1 + 1 + 1 by omega]
    have := flatT_set0 l i z a (by simpa using h)
    show cx e.z :: fv e.t :: Value.int .u8 e.w :: (flatT l).set (i * 3) (cx z) = _
    rw [this]
    rfl
def rkI (m0 : Mem) (b n : Nat) (f : Nat → C) (za zb : C) (k : Nat) (fr : Fr) (m' : Mem) : Prop := ∃ i, i + k = n ∧ fr.n = 52 ∧ fr.d = [] ∧ fr.at 0 = cx za ∧ fr.at 1 = cx zb ∧ fr.at 2 = .int .i64 (n : Nat) ∧ fr.at 8 = .slice (some ⟨b, 0, none⟩) n n ∧ fr.at 27 = .int .i64 (n : Nat) ∧ fr.at 28 = .int .i64 (i : Nat) ∧
  Up m0 m' ∧ b < m'.next ∧ m'.at b = some ⟨flatT (rk f n i), 3, false, false⟩
def rkR (m0 : Mem) (b n : Nat) (f : Nat → C) : CQ := fun r m' => r.1 = .exit 0 ∧ r.2.n = 52 ∧ r.2.d = [] ∧ r.2.at 8 = .slice (some ⟨b, 0, none⟩) n n ∧ Up m0 m' ∧ m'.at b = some ⟨flatT (rk f n n), 3, false, false⟩
section
set_option maxRecDepth 10000
set_option maxHeartbeats 4000000
theorem rake_ok (d : Nat) {m : Mem} {za zb : C} {n : Nat} (ha : cwithin za lim = true) (hb : cwithin zb lim = true) (h0 : 0 < n) (hn : n ≤ 4096) {Q : Value → Mem → Prop}
    (hQ : ∀ m' b, Up m m' → m.next ≤ b → LT m' (.slice (some ⟨b, 0, none⟩) n n) b n n (rk (fun k => (co za.1 zb.1 k n, co za.2 zb.2 k n)) n n) → Q (.tuple ⟨[.slice (some ⟨b, 0, none⟩) n n, .int .i64 0]⟩) m') :
    Gives (callN Tryz.prog known (d + 5) 7 [cx za, cx zb, .int .i64 (n : Int)]) m Q := by
  refine gives_fn (nt := 52) rfl Tryz.func7 rfl rfl rfl (Nat.le_of_ble_eq_true rfl) fun fr fn fd hargs => ?_
  have a0 : fr.at 0 = _ := hargs 0 _ rfl
  have a1 : fr.at 1 = _ := hargs 1 _ rfl
  have a2 : fr.at 2 = _ := hargs 2 _ rfl
  clear hargs
  have n1 : ¬ (n : Int) < 1 := by omega
  have n2 : ¬ (4096 : Int) < (n : Int) := by omega
  simp [a0, a1, a2, fn, fd, run_tplace, ha, hb, n1, n2, yieldX, boolOf_bool]
  refine gives_makeT mk_T (by omega) ?_
  rw [repeat_T]
  simp [fn]
  obtain ⟨b, hbb⟩ : ∃ b, b = m.next := ⟨_, rfl⟩
  rw [← hbb]
  refine code_loop_post (rkR m b n fun k => (co za.1 zb.1 k n, co za.2 zb.2 k n)) (rkI m b n (fun k => (co za.1 zb.1 k n, co za.2 zb.2 k n)) za zb) n (by omega) ⟨0, by simp, by simp [fn], by simp [fd], by simp [a0], by simp [a1], by simp [a2], by simp, by simp, by simp, Up.nw _ _, by simp [hbb], by simp [hbb, rk_0]⟩ ?_ ?_
  · rintro k f m2 ⟨i, hik, f1, f2, f0, fb, f3, f8, f27, f28, u2, hb2, c2⟩
    by_cases hi : i < n
    · have hset := flatT_set0 _ i (co za.1 zb.1 i n, co za.2 zb.2 i n) _ (rk_get (fun k => (co za.1 zb.1 k n, co za.2 zb.2 k n)) (i := i) hi)
      rw [if_neg (Nat.lt_irrefl i)] at hset
      have hset' := hset.trans (congrArg flatT (rk_set (fun k => (co za.1 zb.1 k n, co za.2 zb.2 k n)) hi))
      simp [f1, f0, fb, f3, f8, f27, f28, hi, run_co _ _ _ _ _ h0 hn, idx_T _ _ _ _ hi]
      refine storeQ_one (cs := flatT (rk (fun k => (co za.1 zb.1 k n, co za.2 zb.2 k n)) n i)) (sz := 3) (gr := false) c2 (by simp) (by simp) (by rw [flatT_len, rk_len]; omega) fun m3 n3 l3 e3 => ?_
      rw [hset'] at e3
      have u3 : Up m m3 := u2.wr (b := b) (by omega) hb2 n3 e3
      have c3 : m3.at b = some ⟨flatT (rk (fun k => (co za.1 zb.1 k n, co za.2 zb.2 k n)) n (i + 1)), 3, false, false⟩ := by rw [e3, if_pos rfl]
      simp [f1, f28, wrap_succ i (by omega)]
      exact ⟨n - (i + 1), by omega, i + 1, by omega, by simp [f1], by simp [f2], by simp [f0], by simp [fb], by simp [f3], by simp [f8], by simp [f27], by simp, u3, by omega, c3⟩
    · obtain rfl : i = n := by omega
      simp [f1, f2, f27, f28]
      exact ⟨rfl, by simp [f1], by simp [f2], by simp [f8], u2, c2⟩
  · rintro ⟨e, f⟩ m2 ⟨he, f1, f2, f8, u2, c2⟩
    obtain rfl : e = .exit 0 := he
    simp only at f1 f2 f8
    simp [f1, f2, f8]
    exact hQ _ b u2 (by omega) ⟨rfl, by rw [rk_len]; exact Nat.le_refl _, _, c2⟩
theorem rake_many (d : Nat) {m : Mem} {za zb : C} (ha : cwithin za lim = true) (hb : cwithin zb lim = true) {Q : Value → Mem → Prop} (hQ : Q (.tuple ⟨[nilL, .int .i64 2]⟩) m) :
    Gives (callN Tryz.prog known (d + 5) 7 [cx za, cx zb, .int .i64 4097]) m Q := by
  refine gives_fn (nt := 52) rfl Tryz.func7 rfl rfl rfl (Nat.le_of_ble_eq_true rfl) fun fr fn fd hargs => ?_
  have a0 : fr.at 0 = _ := hargs 0 _ rfl
  have a1 : fr.at 1 = _ := hargs 1 _ rfl
  have a2 : fr.at 2 = _ := hargs 2 _ rfl
  clear hargs
  simp [a0, a1, a2, fn, fd, run_tplace, ha, hb, yieldX, boolOf_bool]
  exact hQ
end
end Go.Proofs.YtjddmnfdnnbbhaaGreat

/- Tracers in the clean executor: tracer.Cloud. -/
namespace Go.Proofs.YtjddmnfdnnbbhaaGreat
open Go Go.RowKit Go.Clean
def bxV (lo hi : C) : Value := .agg ⟨[cx lo, cx hi]⟩
def bxL (lo hi : C) : List Value := [cx lo, cx hi]
@[simp] theorem cells_bx (lo hi : C) : cellsV (bxV lo hi) = bxL lo hi := rfl
@[simp] theorem one_bx (lo hi : C) : (bxL lo hi).all oneV = true := rfl
theorem agg_Bx : Clean.isAgg Tryz.prog 29 = some true := by kernel_rfl
theorem size_Bx : sizeT Tryz.prog 29 = some 2 := by kernel_rfl
@[simp] theorem ld_bx (lo hi : C) : ldX Tryz.prog 29 (bxL lo hi) 0 = some (bxV lo hi) := (ld_agg agg_Bx size_Bx (bxL lo hi) 0).trans rfl
@[simp] theorem bx_0 (lo hi : C) : (bxL lo hi)[0]? = some (cx lo) := (Eq.refl (some (cx lo))).trans rfl
@[simp] theorem bx_1 (lo hi : C) : (bxL lo hi)[1]? = some (cx hi) := (Eq.refl (some (cx hi))).trans rfl
@[simp] theorem fa_bx0 (s : Nat) : fieldAddrX Tryz.prog 29 (.pointer (some ⟨s, 0, none⟩)) 0 = some (.pointer (some ⟨s, 0, none⟩)) := (by kernel_rfl : fieldAddrX Tryz.prog 29 (.pointer (some ⟨s, 0, none⟩)) 0 = some (.pointer (some ⟨s, 0, none⟩))).trans rfl
@[simp] theorem fa_bx1 (s : Nat) : fieldAddrX Tryz.prog 29 (.pointer (some ⟨s, 0, none⟩)) 1 = some (.pointer (some ⟨s, 1, none⟩)) := (by kernel_rfl : fieldAddrX Tryz.prog 29 (.pointer (some ⟨s, 0, none⟩)) 1 = some (.pointer (some ⟨s, 1, none⟩))).trans rfl
theorem rem_3 (xo yo : Operand) (a : Int) : binX Tryz.prog .rem 3 xo yo (.int .i64 a) (.int .i64 3) = some (.int .i64 (a.tmod 3)) := rfl
theorem rem_64 (xo yo : Operand) (a : Int) : binX Tryz.prog .rem 3 xo yo (.int .i64 a) (.int .i64 64) = some (.int .i64 (a.tmod 64)) := rfl
theorem quo_3 (xo yo : Operand) (a : Int) : binX Tryz.prog .quo 3 xo yo (.int .i64 a) (.int .i64 3) = some (.int .i64 (IntKind.i64.wrap (a.tdiv 3))) := rfl
theorem quo_64 (xo yo : Operand) (a : Int) : binX Tryz.prog .quo 3 xo yo (.int .i64 a) (.int .i64 64) = some (.int .i64 (IntKind.i64.wrap (a.tdiv 64))) := rfl
theorem mul_32 (xo yo : Operand) : binX Tryz.prog .mul 3 xo yo (.int .i64 3) (.int .i64 2) = some (.int .i64 ((6 : Nat) : Int)) := by kernel_rfl
theorem mul_64 (xo yo : Operand) : binX Tryz.prog .mul 3 xo yo (.int .i64 64) (.int .i64 64) = some (.int .i64 ((4096 : Nat) : Int)) := by kernel_rfl
theorem q4_3 (xo yo : Operand) : binX Tryz.prog .quo 3 xo yo (.int .i64 4096) (.int .i64 3) = some (.int .i64 1365) := by kernel_rfl
theorem q4_64 (xo yo : Operand) : binX Tryz.prog .quo 3 xo yo (.int .i64 4096) (.int .i64 64) = some (.int .i64 64) := by kernel_rfl
theorem wrap_small (k : Nat) (h : k < 4611686018427387903) : IntKind.i64.wrap (k : Int) = (k : Int) := by
  have := wrap_add k 0 (by omega)
  simpa using this
/-- So wide and high a grid as the law asks for. -/
inductive Grid : Nat → Nat → Prop
  | a : Grid 3 2
  | b : Grid 64 64
structure GridOK (w h : Nat) : Prop where
  w0 : 0 < w
  h0 : 0 < h
  w1 : w ≤ 64
  h1 : h ≤ 64
  n : w * h ≤ 4096
  rem : ∀ (xo yo : Operand) (i : Nat), binX Tryz.prog .rem 3 xo yo (.int .i64 (i : Nat)) (.int .i64 (w : Nat)) = some (.int .i64 ((i % w : Nat) : Int))
  quo : ∀ (xo yo : Operand) (i : Nat), i < 4096 → binX Tryz.prog .quo 3 xo yo (.int .i64 (i : Nat)) (.int .i64 (w : Nat)) = some (.int .i64 ((i / w : Nat) : Int))
  mul : ∀ (xo yo : Operand), binX Tryz.prog .mul 3 xo yo (.int .i64 (w : Nat)) (.int .i64 (h : Nat)) = some (.int .i64 ((w * h : Nat) : Int))
  lim : ∃ k : Int, (∀ (xo yo : Operand), binX Tryz.prog .quo 3 xo yo (.int .i64 4096) (.int .i64 (w : Nat)) = some (.int .i64 k)) ∧ ¬ k < (h : Int)
theorem Grid.ok {w h : Nat} (g : Grid w h) : GridOK w h := by
  cases g with
  | a => exact ⟨by decide, by decide, by decide, by decide, by decide, fun xo yo i => (rem_3 xo yo i).trans (by rw [show ((i : Nat) : Int).tmod 3 = ((i % 3 : Nat) : Int) from rfl]), fun xo yo i hi => (quo_3 xo yo i).trans (by rw [show ((i : Nat) : Int).tdiv 3 = ((i / 3 : Nat) : Int) from rfl, wrap_small _ (by omega)]), fun xo yo => mul_32 xo yo, _, fun xo yo => q4_3 xo yo, by decide⟩
  | b => exact ⟨by decide, by decide, by decide, by decide, by decide, fun xo yo i => (rem_64 xo yo i).trans (by rw [show ((i : Nat) : Int).tmod 64 = ((i % 64 : Nat) : Int) from rfl]), fun xo yo i hi => (quo_64 xo yo i).trans (by rw [show ((i : Nat) : Int).tdiv 64 = ((i / 64 : Nat) : Int) from rfl, wrap_small _ (by omega)]), fun xo yo => mul_64 xo yo, _, fun xo yo => q4_64 xo yo, by decide⟩
def clF (lo hi : C) (w h : Nat) (i : Nat) : C := (co lo.1 hi.1 (i % w) w, co lo.2 hi.2 (i / w) h)
def clI (m0 : Mem) (pb b n w h : Nat) (lo hi : C) (k : Nat) (fr : Fr) (m' : Mem) : Prop := ∃ i, i + k = n ∧ fr.n = 85 ∧ fr.d = [] ∧ fr.at 3 = .pointer (some ⟨pb, 0, none⟩) ∧ fr.at 1 = .int .i64 (w : Nat) ∧ fr.at 2 = .int .i64 (h : Nat) ∧ fr.at 9 = .slice (some ⟨b, 0, none⟩) n n ∧ fr.at 50 = .int .i64 (n : Nat) ∧ fr.at 51 = .int .i64 (i : Nat) ∧
  Up m0 m' ∧ b < m'.next ∧ m'.at b = some ⟨flatT (rk (clF lo hi w h) n i), 3, false, false⟩ ∧ m'.at pb = some ⟨bxL lo hi, 1, false, false⟩
def clR (m0 : Mem) (b n w h : Nat) (lo hi : C) : CQ := fun r m' => r.1 = .exit 1 ∧ r.2.n = 85 ∧ r.2.d = [] ∧ r.2.at 9 = .slice (some ⟨b, 0, none⟩) n n ∧ Up m0 m' ∧ m'.at b = some ⟨flatT (rk (clF lo hi w h) n n), 3, false, false⟩
section
set_option maxRecDepth 10000
set_option maxHeartbeats 8000000
theorem cloud_ok (d : Nat) {m : Mem} {lo hi : C} {w h : Nat} (g : Grid w h) (hck : known 18 [bxV lo hi] = some (M.ret (.int .i64 0))) (ha : cwithin lo lim = true) (hb : cwithin hi lim = true) {Q : Value → Mem → Prop}
    (hQ : ∀ m' b, Up m m' → m.next ≤ b → LT m' (.slice (some ⟨b, 0, none⟩) (w * h) (w * h)) b (w * h) (w * h) (rk (clF lo hi w h) (w * h) (w * h)) → Q (.tuple ⟨[.slice (some ⟨b, 0, none⟩) (w * h) (w * h), .int .i64 0]⟩) m') :
    Gives (callN Tryz.prog known (d + 6) 8 [bxV lo hi, .int .i64 (w : Nat), .int .i64 (h : Nat)]) m Q := by
  have G := g.ok
  obtain ⟨kl, hkl, hklh⟩ := G.lim
  have G0 := G.w0
  have G1 := G.w1
  have G2 := G.h0
  have G3 := G.h1
  have G4 := G.n
  have G5 := G.mul
  obtain ⟨N, hN⟩ : ∃ N, N = w * h := ⟨_, rfl⟩
  rw [← hN] at hQ G4 G5
  have G6 : 0 < N := by rw [hN]; exact Nat.mul_pos G0 G2
  refine gives_fn (nt := 85) rfl Tryz.func8 rfl rfl rfl (Nat.le_of_ble_eq_true rfl) fun fr fn fd hargs => ?_
  have a0 : fr.at 0 = _ := hargs 0 _ rfl
  have a1 : fr.at 1 = _ := hargs 1 _ rfl
  have a2 : fr.at 2 = _ := hargs 2 _ rfl
  clear hargs
  obtain ⟨pb, hpb⟩ : ∃ pb, pb = m.next := ⟨_, rfl⟩
  obtain ⟨m1, hm1⟩ : ∃ m1, m1 = m.nw ⟨bxL lo hi, 1, false, false⟩ := ⟨_, rfl⟩
  have u1 : Up m m1 := by rw [hm1]; exact Up.nw _ _
  have c1 : m1.at pb = some ⟨bxL lo hi, 1, false, false⟩ := by rw [hm1, hpb]; simp
  have n1 : m1.next = pb + 1 := by rw [hm1, hpb]; simp
  refine (code_seq _ _ _ _ _).2 ?_
  simp [a0, fn, -code_seq]
  rw [← hm1, ← hpb]
  have i1 : ¬ (w : Int) < 1 := by omega
  have i2 : ¬ (h : Int) < 1 := by omega
  have i3 : ¬ (4096 : Int) < (w : Int) := by omega
  simp [a1, a2, fn, c1, gk _ hck, run_tplace, ha, hb, i1, i2, i3, hkl, hklh, G5, yieldX, boolOf_bool]
  refine gives_makeT mk_T (by omega) ?_
  rw [repeat_T]
  simp [fn]
  obtain ⟨b, hbb⟩ : ∃ b, b = m1.next := ⟨_, rfl⟩
  rw [← hbb]
  have w1 : b ≠ pb := by omega
  refine code_loop_post (clR m b N w h lo hi) (clI m pb b N w h lo hi) N (by omega) ⟨0, by simp, by simp [fn], by simp [fd], by simp, by simp [a1], by simp [a2], by simp, by simp, by simp, u1.trans (Up.trans (Up.same (by simp) fun c => by simp) (Up.nw _ _)), by simp [hbb], by simp [hbb, rk_0], by simp [hbb, c1, show ¬ pb = m1.next by omega]⟩ ?_ ?_
  · rintro k f m2 ⟨i, hik, f1, f2, f3, fw, fh, f9, f50, f51, u2, hb2, c2, p2⟩
    by_cases hi' : i < N
    · have hset := flatT_set0 _ i (clF lo hi w h i) _ (rk_get (clF lo hi w h) (i := i) hi')
      rw [if_neg (Nat.lt_irrefl i)] at hset
      have hset' := hset.trans (congrArg flatT (rk_set (clF lo hi w h) hi'))
      obtain ⟨x, hx⟩ : ∃ x, x = i % w := ⟨_, rfl⟩
      obtain ⟨y, hy⟩ : ∃ y, y = i / w := ⟨_, rfl⟩
      have hrem := fun xo yo => G.rem xo yo i
      have hquo := fun xo yo => G.quo xo yo i (by omega)
      have hcl : clF lo hi w h i = (co lo.1 hi.1 x w, co lo.2 hi.2 y h) := by rw [hx, hy]; rfl
      rw [← hx] at hrem
      rw [← hy] at hquo
      rw [hcl] at hset'
      clear hset hx hy hcl
      simp [f1, f3, fw, fh, f9, f50, f51, hi']
      refine code_draw_dyn (plan := [0, 0, 3, 0, 0, 24, 7, 127]) (by kernel_rfl) ?_
      simp [drawQ, apartAll, apartL, Nat.testBit, f1, fw, fh, hrem, hquo]
      refine code_draw_dyn (plan := [0, 0, 0, 4, 12, 0, 32, 96, 0, 0, 1020, 0, 2048, 6144, 0, 16384, 49152, 0, 0, 524284, 1048572, 2097151, 4194303, 8388607]) (by kernel_rfl) ?_
      simp [drawQ, apartAll, apartL, Nat.testBit, f1, f3, fw, fh, f9, p2, idx_T _ _ _ _ hi', run_co _ _ _ _ _ G0 (show w ≤ 4096 by omega), run_co _ _ _ _ _ G2 (show h ≤ 4096 by omega)]
      refine storeQ_one (cs := flatT (rk (clF lo hi w h) N i)) (sz := 3) (gr := false) (by simpa using c2) (by simp) (by simp) (by rw [flatT_len, rk_len]; omega) fun m3 n3 l3 e3 => ?_
      simp only [Mem.next_lg, Mem.at_lg, Mem.next_rd, Mem.at_rd] at n3 e3
      rw [hset'] at e3
      have u3 : Up m m3 := u2.wr (b := b) (by omega) hb2 n3 e3
      have c3 : m3.at b = some ⟨flatT (rk (clF lo hi w h) N (i + 1)), 3, false, false⟩ := by rw [e3, if_pos rfl]
      have p3 : m3.at pb = some ⟨bxL lo hi, 1, false, false⟩ := by rw [e3, if_neg (Ne.symm w1)]; exact p2
      simp [drawQ, apartAll, apartL, Nat.testBit, f1, f51, wrap_succ i (by omega)]
      exact ⟨N - (i + 1), by omega, i + 1, by omega, by simp [f1], by simp [f2], by simp [f3], by simp [fw], by simp [fh], by simp [f9], by simp [f50], by simp, u3.trans (Up.lg _ _), by simp; omega, by simpa using c3, by simpa using p3⟩
    · obtain rfl : i = N := by omega
      simp [f1, f2, f50, f51]
      exact ⟨rfl, by simp [f1], by simp [f2], by simp [f9], u2, c2⟩
  · rintro ⟨e, f⟩ m2 ⟨he, f1, f2, f9, u2, c2⟩
    obtain rfl : e = .exit 1 := he
    simp only at f1 f2 f9
    simp [f1, f2, f9]
    exact hQ _ b u2 (by omega) ⟨rfl, by rw [rk_len]; exact Nat.le_refl _, _, c2⟩
end
end Go.Proofs.YtjddmnfdnnbbhaaGreat

/- Tracers in the clean executor: Cloud's no; Same; the law's plain flow and rule. -/
namespace Go.Proofs.YtjddmnfdnnbbhaaGreat
open Go Go.RowKit Go.Clean
theorem boxV_eq : boxV = bxV (some 13839561654909534208, some 13839561654909534208) (some 4616189618054758400, some 4616189618054758400) := by kernel_rfl
section
set_option maxRecDepth 10000
set_option maxHeartbeats 4000000
theorem cloud_many (d : Nat) {m : Mem} {lo hi : C} {w h : Int} (hwh : (w = 64 ∧ h = 65) ∨ (w = 4611686018427387904 ∧ h = 4611686018427387904)) (hck : known 18 [bxV lo hi] = some (M.ret (.int .i64 0))) (ha : cwithin lo lim = true) (hb : cwithin hi lim = true) {Q : Value → Mem → Prop}
    (hQ : ∀ m', Up m m' → Q (.tuple ⟨[nilL, .int .i64 4]⟩) m') :
    Gives (callN Tryz.prog known (d + 6) 8 [bxV lo hi, .int .i64 w, .int .i64 h]) m Q := by
  refine gives_fn (nt := 85) rfl Tryz.func8 rfl rfl rfl (Nat.le_of_ble_eq_true rfl) fun fr fn fd hargs => ?_
  have a0 : fr.at 0 = _ := hargs 0 _ rfl
  have a1 : fr.at 1 = _ := hargs 1 _ rfl
  have a2 : fr.at 2 = _ := hargs 2 _ rfl
  clear hargs
  obtain ⟨pb, hpb⟩ : ∃ pb, pb = m.next := ⟨_, rfl⟩
  obtain ⟨m1, hm1⟩ : ∃ m1, m1 = m.nw ⟨bxL lo hi, 1, false, false⟩ := ⟨_, rfl⟩
  have u1 : Up m m1 := by rw [hm1]; exact Up.nw _ _
  have c1 : m1.at pb = some ⟨bxL lo hi, 1, false, false⟩ := by rw [hm1, hpb]; simp
  refine (code_seq _ _ _ _ _).2 ?_
  simp [a0, fn, -code_seq]
  rw [← hm1, ← hpb]
  rcases hwh with ⟨rfl, rfl⟩ | ⟨rfl, rfl⟩
  · simp [a1, a2, fn, fd, c1, gk _ hck, run_tplace, ha, hb, q4_64, yieldX, boolOf_bool]
    exact hQ _ (u1.trans (Up.same (by simp) fun c => by simp))
  · simp [a1, a2, fn, fd, c1, gk _ hck, run_tplace, ha, hb, yieldX, boolOf_bool]
    exact hQ _ (u1.trans (Up.same (by simp) fun c => by simp))
/-! ### Same -/
def eqI (m0 : Mem) (b1 b2 c k1 k2 : Nat) (ts1 ts2 : List Tr) (k : Nat) (fr : Fr) (m' : Mem) : Prop := ∃ i, i + k = c ∧ fr.n = 32 ∧ fr.d = [] ∧ fr.at 15 = .slice (some ⟨b1, 0, none⟩) c k1 ∧ fr.at 1 = .slice (some ⟨b2, 0, none⟩) c k2 ∧ fr.at 2 = .func (.func 23) ⟨[]⟩ ⟨[]⟩ ∧ fr.at 16 = .int .i64 (c : Nat) ∧ fr.at 17 = .int .i64 (i : Nat) ∧
  LT m' (.slice (some ⟨b1, 0, none⟩) c k1) b1 c k1 ts1 ∧ LT m' (.slice (some ⟨b2, 0, none⟩) c k2) b2 c k2 ts2 ∧ Up m0 m'
def eqR (m0 : Mem) : CQ := fun r m' => r.1 = .exit 0 ∧ r.2.n = 32 ∧ r.2.d = [] ∧ Up m0 m'
theorem same_ok (d : Nat) {m : Mem} {v1 v2 : Value} {b1 b2 c k1 k2 : Nat} {ts1 ts2 : List Tr} (hw : MW m) (h1 : LT m v1 b1 c k1 ts1) (h2 : LT m v2 b2 c k2 ts2) (hc : c ≤ 4096) (hts : ∀ i, i < c → ∃ a b, ts1[i]? = some a ∧ ts2[i]? = some b ∧ known 23 [a.val, b.val] = some (M.ret (.bool true))) {Q : Value → Mem → Prop}
    (hQ : ∀ m', Up m m' → Q (.bool true) m') : Gives (callN Tryz.prog known (d + 3) 10 [v1, v2]) m Q := by
  refine gives_fn (nt := 8) rfl Tryz.func10 rfl rfl rfl (Nat.le_of_ble_eq_true rfl) fun fr fn fd hargs => ?_
  have a0 : fr.at 0 = _ := hargs 0 _ rfl
  have a1 : fr.at 1 = _ := hargs 1 _ rfl
  clear hargs
  simp [a0, a1, fn]
  have h1' := h1
  have h2' := h2
  obtain ⟨rfl, -, -⟩ := h1
  obtain ⟨rfl, -, -⟩ := h2
  refine gives_fn (nt := 32) rfl Tryz.func22 rfl rfl rfl (Nat.le_of_ble_eq_true rfl) fun fq qn qd hargs => ?_
  have q0 : fq.at 0 = _ := hargs 0 _ rfl
  have q1 : fq.at 1 = _ := hargs 1 _ rfl
  have q2 : fq.at 2 = _ := hargs 2 _ rfl
  clear hargs
  simp [q0, q1, q2, qn]
  refine code_loop_post (eqR m) (eqI m b1 b2 c k1 k2 ts1 ts2) c (by omega) ⟨0, by simp, by simp [qn], by simp [qd], by simp, by simp [q1], by simp [q2], by simp, by simp, h1', h2', Up.refl _⟩ ?_ ?_
  · rintro k f m2 ⟨i, hik, f1, f2, f15, g1, g2, f16, f17, L1, L2, u2⟩
    by_cases hi : i < c
    · obtain ⟨a, b, ha, hb, hk⟩ := hts i hi
      obtain ⟨gr1, hb1⟩ := L1.at_
      obtain ⟨gr2, hb2⟩ := L2.at_
      have w2 := u2.wf hw
      simp [f1, f15, f16, f17, hi, idx_T _ _ _ _ hi, hb1, ld_T ha, zero_tr]
      refine storeQ_rule (y := ⟨tr0.cells, 1, false, false⟩) (by simp) rfl (by rw [sto_Tr]; simp) (l := a.cells) rfl fun m4 n4 l4 e4 => ?_
      simp only [Mem.next_rd, Mem.next_nw, Mem.at_rd, Mem.at_nw] at n4 e4
      have u4 : Up m2 m4 := Up.wr (m1 := (m2.rd b1).nw ⟨tr0.cells, 1, false, false⟩) (Up.trans (Up.rd _ _) (Up.nw _ _)) (Nat.le_refl _) (by simp) (by simpa using n4) (fun c => by simpa using e4 c)
      have e5 : m4.at m2.next = some ⟨a.cells, 1, false, false⟩ := by rw [e4, if_pos rfl]
      have hb4 := u4.at hb2 w2
      have w4 := u4.wf w2
      obtain ⟨pa, hpa⟩ : ∃ pa, pa = m2.next := ⟨_, rfl⟩
      rw [← hpa] at e5 ⊢
      clear e4 l4
      simp [f1, g1, idx_T _ _ _ _ hi, hb4, ld_T hb, zero_tr]
      refine storeQ_rule (y := ⟨tr0.cells, 1, false, false⟩) (by simp) rfl (by rw [sto_Tr]; simp) (l := b.cells) rfl fun m6 n6 l6 e6 => ?_
      simp only [Mem.next_rd, Mem.next_nw, Mem.at_rd, Mem.at_nw] at n6 e6
      have u6 : Up m4 m6 := Up.wr (m1 := (m4.rd b2).nw ⟨tr0.cells, 1, false, false⟩) (Up.trans (Up.rd _ _) (Up.nw _ _)) (Nat.le_refl _) (by simp) (by simpa using n6) (fun c => by simpa using e6 c)
      have e7 : m6.at m4.next = some ⟨b.cells, 1, false, false⟩ := by rw [e6, if_pos rfl]
      have e8 := u6.at e5 w4
      clear e6 l6
      simp [f1, g2, e7, e8, funX, gk _ hk]
      simp [f1, f17, wrap_succ i (by omega)]
      have u8 : Up m2 ((m6.rd pa).rd m4.next) := u4.trans (u6.trans (Up.same (by simp) fun c => by simp))
      exact ⟨c - (i + 1), by omega, i + 1, by omega, by simp [f1], by simp [f2], by simp [f15], by simp [g1], by simp [g2], by simp [f16], by simp, L1.up w2 u8, L2.up w2 u8, u2.trans u8⟩
    · obtain rfl : i = c := by omega
      simp [f1, f2, f16, f17]
      exact ⟨rfl, by simp [f1], by simp [f2], u2⟩
  · rintro ⟨e, f⟩ m2 ⟨he, f1, f2, u2⟩
    obtain rfl : e = .exit 0 := he
    simp only at f1 f2
    simp [f1, f2, fn, fd]
    exact hQ _ u2
end
end Go.Proofs.YtjddmnfdnnbbhaaGreat
