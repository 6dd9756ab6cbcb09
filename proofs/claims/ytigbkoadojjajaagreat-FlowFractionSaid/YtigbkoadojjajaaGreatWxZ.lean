/- The law's own functions: small whole numbers, powers; lists of elements that grow. -/
import Derived.Test.YtigbkoadojjajaaGreatWuZ
set_option linter.unusedSimpArgs false
set_option linter.unusedVariables false
namespace Go.Proofs.YtigbkoadojjajaaGreat
open Go.Clean
/-- A list of whole numbers, maybe none. -/
def IL (m : Mem) (v : Value) (n : Nat) (xs : Nat → Int) : Prop := ∃ a k, v = .slice a n k ∧ (n = 0 ∨ ∃ b o x, a = some ⟨b, o, none⟩ ∧ m.at b = some x ∧ ∀ i, i < n → x.cells[o + i]? = some (.int .i64 (xs i)))
theorem IL.up {m m' : Mem} {v : Value} {n : Nat} {xs : Nat → Int} (h : IL m v n xs) (hw : MW m) (u : Up m m') : IL m' v n xs := by
  obtain ⟨a, k, h1, h2⟩ := h
  refine ⟨a, k, h1, ?_⟩
  rcases h2 with h2 | ⟨b, o, x, e1, e2, e3⟩
  · exact .inl h2
  · exact .inr ⟨b, o, x, e1, u.at e2 hw, e3⟩
theorem isNo_WF {b : Nat} {n : Int} (h : WF (some b) n) : isNo b = false := by
  obtain ⟨b', e, s, m, k, h1, _⟩ := h
  cases e
  unfold isNo
  rw [h1]; rfl
theorem cOf_WF {b : Nat} {n : Int} (h : WF (some b) n) : cOf (some b) = b := canon_yes (isNo_WF h)
theorem bin_ceq {P : Program} {t : TypeId} {xo yo : Operand} (x y : C) : binX P .eql t xo yo (cx x) (cx y) = some (.bool (feq x.1 y.1 && feq x.2 y.2)) := by
  unfold cx binX
  simp only [isSum, eqlX, cond_false, Option.map_some, id]
  rw [order_c, order_c]; rfl
theorem WC.ceq {x y : C} {g h : G} (hx : WC x g) (hy : WC y h) : (feq x.1 y.1 && feq x.2 y.2) = decide (g = h) := by
  rw [hx.1.eq hy.1, hx.2.eq hy.2]
  by_cases h1 : g.1 = h.1
  · by_cases h2 : g.2 = h.2
    · rw [decide_eq_true h1, decide_eq_true h2, decide_eq_true (gext h1 h2)]; rfl
    · rw [decide_eq_false h2, decide_eq_false (fun e : g = h => h2 (by rw [e])), Bool.and_false]
  · rw [decide_eq_false h1, decide_eq_false (fun e : g = h => h1 (by rw [e])), Bool.false_and]
theorem floatX_fop (op : BinOp) (x y : F) (hop : op = .add ∨ op = .sub ∨ op = .mul ∨ op = .quo) : floatX op (cOf x) (cOf y) = fop op x y := by
  have h := fop_bits op (cOf x) (cOf y) hop
  have e : fop op (clr x) (clr y) = fop op x y := by
    rcases hop with rfl | rfl | rfl | rfl
    · exact f2_clr (fun a b h => by simp [Ieee.Format.add, sum_nan_left (show (Ieee.double.read a).isNaN = true from h)]) (fun a b h => by simp [Ieee.Format.add, sum_nan_right (show (Ieee.double.read b).isNaN = true from h)]) x y
    · exact f2_clr (fun a b h => by simp [Ieee.Format.sub, sum_nan_left (show (Ieee.double.read a).isNaN = true from h)]) (fun a b h => by simp [Ieee.Format.sub, sum_nan_right (show (Ieee.double.read b).opposite.isNaN = true from opposite_nan.trans h)]) x y
    · exact f2_clr (fun a b h => by simp [Ieee.Format.mul, product_nan_left (show (Ieee.double.read a).isNaN = true from h)]) (fun a b h => by simp [Ieee.Format.mul, product_nan_right (show (Ieee.double.read b).isNaN = true from h)]) x y
    · exact f2_clr (fun a b h => by simp [Ieee.Format.div, quotient_nan_left (show (Ieee.double.read a).isNaN = true from h)]) (fun a b h => by simp [Ieee.Format.div, quotient_nan_right (show (Ieee.double.read b).isNaN = true from h)]) x y
  have e2 : floatX op (cOf x) (cOf y) = fop op x y := by
    rw [← e]
    refine Eq.trans ?_ h.1.symm
    rcases hop with rfl | rfl | rfl | rfl <;> rfl
  exact e2
theorem RV.no {x : F} {q : Rat} (h : RV x q) : ∃ b, x = some b ∧ cOf x = b := by
  obtain ⟨b, s, mm, k, rfl, hr, _⟩ := h
  refine ⟨b, rfl, canon_yes ?_⟩
  unfold isNo
  rw [hr]; rfl
theorem bin_csubR {P : Program} {t : TypeId} {xo yo : Operand} {x y : C} {r s : Rat} (h1 : RV (fsub x.1 y.1) r) (h2 : RV (fsub x.2 y.2) s) : binX P .sub t xo yo (cx x) (cx y) = some (cx (csub x y)) := by
  have e1 := floatX_fop .sub x.1 y.1 (.inr (.inl rfl))
  have e2 := floatX_fop .sub x.2 y.2 (.inr (.inl rfl))
  obtain ⟨b1, hb1, hc1⟩ := h1.no
  obtain ⟨b2, hb2, hc2⟩ := h2.no
  have g1 : fop .sub x.1 y.1 = some b1 := hb1
  have g2 : fop .sub x.2 y.2 = some b2 := hb2
  rw [g1] at e1
  rw [g2] at e2
  unfold cx csub
  show binX P .sub t xo yo (.complex .f64 (cOf x.1) (cOf x.2)) (.complex .f64 (cOf y.1) (cOf y.2)) = some (.complex .f64 (cOf (fsub x.1 y.1)) (cOf (fsub x.2 y.2)))
  rw [hc1, hc2]
  unfold binX
  simp only [isSum, cond_true, e1, e2]
/-! ### small -/
theorem tmod_le (n : Int) {k : Nat} (hk : 0 < k) : (n.tmod k).natAbs < k := by
  rw [Int.natAbs_tmod]
  have := Nat.mod_lt n.natAbs hk
  simpa using this
theorem fv_iF (n : Int) (h : n.natAbs < 1000) : Value.float .f64 (Ieee.double.write (.number (decide (n < 0)) n.natAbs 0)) = fv (iF n) := by
  unfold fv iF
  rw [cOf_WF (WF.int n (by omega))]
theorem conv_int (n : Int) : convX Tryz.prog 3 25 (.int .i64 n) = some (.float .f64 (Ieee.double.write (.number (decide (n < 0)) n.natAbs 0))) := by kernel_rfl
theorem conv_s (n : Int) (h : n.natAbs < 1000) : convX Tryz.prog 3 25 (.int .i64 n) = some (fv (iF n)) := (conv_int n).trans (by rw [fv_iF n h])
theorem rem2 (xo yo : Operand) (a : Int) : binX Tryz.prog .rem 3 xo yo (.int .i64 a) (.int .i64 2) = some (.int .i64 (a.tmod 2)) := rfl
theorem rem3 (xo yo : Operand) (a : Int) : binX Tryz.prog .rem 3 xo yo (.int .i64 a) (.int .i64 3) = some (.int .i64 (a.tmod 3)) := rfl
theorem rem5 (xo yo : Operand) (a : Int) : binX Tryz.prog .rem 3 xo yo (.int .i64 a) (.int .i64 5) = some (.int .i64 (a.tmod 5)) := rfl
theorem rem9 (xo yo : Operand) (a : Int) : binX Tryz.prog .rem 3 xo yo (.int .i64 a) (.int .i64 9) = some (.int .i64 (a.tmod 9)) := rfl
section
set_option maxRecDepth 10000
theorem run_small (n : Nat) (a : Int) (k : Nat) (hk : k = 1 ∨ k = 2 ∨ k = 4 ∨ k = 8) (m : Mem) (Q : Value → Mem → Prop) : Gives (callN Tryz.prog known (n + 1) 5 [.int .i64 a, .int .i64 (k : Int)]) m Q ↔ Q (fv (iF (a.tmod ((k + 1 : Nat) : Int)))) m := by
  refine gives_pure (fun m => ?_) m Q
  refine gives_fn (nt := 10) rfl Tryz.func5 rfl rfl rfl (Nat.le_of_ble_eq_true rfl) fun fr hn hd hargs => ?_
  have h0 : fr.at 0 = _ := hargs 0 _ rfl
  have h1 : fr.at 1 = _ := hargs 1 _ rfl
  clear hargs
  have hb := tmod_le a (k := k + 1) (by omega)
  rcases hk with rfl | rfl | rfl | rfl
  · have w : IntKind.i64.wrap 2 = 2 := by kernel_rfl
    have hs := conv_s (a.tmod 2) (Nat.lt_trans hb (by decide))
    simp [h0, h1, hn, hd, w, rem2, hs]
  · have w : IntKind.i64.wrap 3 = 3 := by kernel_rfl
    have hs := conv_s (a.tmod 3) (Nat.lt_trans hb (by decide))
    simp [h0, h1, hn, hd, w, rem3, hs]
  · have w : IntKind.i64.wrap 5 = 5 := by kernel_rfl
    have hs := conv_s (a.tmod 5) (Nat.lt_trans hb (by decide))
    simp [h0, h1, hn, hd, w, rem5, hs]
  · have w : IntKind.i64.wrap 9 = 9 := by kernel_rfl
    have hs := conv_s (a.tmod 9) (Nat.lt_trans hb (by decide))
    simp [h0, h1, hn, hd, w, rem9, hs]
end
/-- 1 and the size of a small number, as a float. -/
theorem pow_bits (j : Int) (h : j.natAbs ≤ 2) : ∃ p, fadd (some 4607182418800017408) (fabs (iF j)) = some p ∧ cOf (some p) = p ∧ ((j.natAbs = 0 ∧ p = 4607182418800017408) ∨ (j.natAbs = 1 ∧ p = 4611686018427387904) ∨ (j.natAbs = 2 ∧ p = 4613937818241073152)) := by
  have : j = -2 ∨ j = -1 ∨ j = 0 ∨ j = 1 ∨ j = 2 := by omega
  rcases this with rfl | rfl | rfl | rfl | rfl
  · exact ⟨4613937818241073152, by kernel_rfl, by kernel_rfl, by decide⟩
  · exact ⟨4611686018427387904, by kernel_rfl, by kernel_rfl, by decide⟩
  · exact ⟨4607182418800017408, by kernel_rfl, by kernel_rfl, by decide⟩
  · exact ⟨4611686018427387904, by kernel_rfl, by kernel_rfl, by decide⟩
  · exact ⟨4613937818241073152, by kernel_rfl, by kernel_rfl, by decide⟩
/-! ### A list of elements that grows -/
theorem app_El : appOK Tryz.prog 27 27 4 = true := by kernel_rfl
theorem flat_len : ∀ es : List El, (flat es).length = es.length * 4
  | [] => rfl
  | e :: l => by show (flat l).length + 4 = (l.length + 1) * 4; rw [flat_len l]; omega
theorem flat_app : ∀ (a b : List El), flat (a ++ b) = flat a ++ flat b
  | [], b => rfl
  | e :: l, b => by show _ :: _ :: _ :: _ :: flat (l ++ b) = _; rw [flat_app l b]; rfl
theorem flat_one (es : List El) : (flat es).all oneV = true := by
  induction es with
  | nil => rfl
  | cons e l ih =>
    have h : oneV (.float .f64 e.p) = true := rfl
    simpa [flat, h] using ih
theorem EL.push {m0 m : Mem} {v : Value} {es : List El} {e : El} {b1 : Nat} {gr ro : Bool} {Q : Value → Mem → Prop} (h : EL m v es) (hb1 : m.at b1 = some ⟨e.cells, 4, gr, ro⟩) (hu : Up m0 m) (hw : MW m0) (hn : es.length ≤ 3) (hlow : ∀ b n k, v = .slice (some ⟨b, 0, none⟩) n k → m0.next ≤ b)
    (q : ∀ m' v', Up m0 m' → m.next < m'.next → EL m' v' (es ++ [e]) → (∀ b n k, v' = .slice (some ⟨b, 0, none⟩) n k → m.next ≤ b) → (∀ c y, m.at c = some y → y.grow = false → m'.at c = some y) → Q v' m') :
    Gives (appendX Tryz.prog 27 27 v (.slice (some ⟨b1, 0, none⟩) 1 1)) m Q := by
  have mw := hu.wf hw
  have hc : e.cells.all oneV = true := rfl
  have ht : takeN e.cells 0 (1 * 4) = some e.cells := rfl
  rcases h with ⟨rfl, rfl⟩ | ⟨hp, b, rfl, h2⟩
  · refine gives_append_new app_El hb1 ht hc (by omega) (by omega) ?_
    refine q _ _ (hu.trans ((Up.rd _ _).trans (Up.nw _ _))) (by simp) (.inr ⟨by simp, m.next, rfl, by simp; rfl⟩) (fun b n k hv => by
      injection hv with h1; injection h1 with h1; injection h1 with h1; omega) fun c y hc _ => ?_
    have := mw c y hc
    simp [hc, show c ≠ m.next by omega]
  · have hb := mw b _ h2
    have hlb := hlow b _ _ rfl
    refine gives_append_grow app_El h2 (by rw [flat_len]) hb1 ht (flat_one es) hc (by omega) (by omega) ?_
    have u1 : Up m0 (((m.rd b1).rd b).wr b none) := Up.gone (m1 := m) hu hlb (by simp) fun c => by simp
    refine q _ _ (u1.trans (Up.nw _ _)) (by simp) (.inr ⟨by simp, m.next, by simp, by simp [flat_app]; rfl⟩) (fun b n k hv => by
      injection hv with h1; injection h1 with h1; injection h1 with h1; omega) fun c y hc hg => ?_
    have := mw c y hc
    have hcb : c ≠ b := fun h => by
      subst h
      rw [h2] at hc
      cases hc
      cases hg
    simp [hc, hcb, show c ≠ m.next by omega]
theorem gives_build1E {m : Mem} {e : El} {Q : Value → Mem → Prop} (q : Q (.slice (some ⟨m.next, 0, none⟩) 1 1) (m.nw ⟨e.cells, 4, false, false⟩)) : Gives (buildSliceX Tryz.prog 27 1 [(0, e.val)]) m Q := by
  have hu : Tryz.prog.underlying 27 = some (.slice 31) := by kernel_rfl
  unfold buildSliceX
  simp only [hu, size_El, zero_El]
  rw [gives_bind, gives_guard]
  refine ⟨rfl, ?_⟩
  have e : fillX (fun i => some (i * 4, 4)) (repeatL (cellsV (.agg ⟨[.int .u8 0, .complex .f64 0 0, .complex .f64 0 0, .float .f64 0]⟩)) 1) [(0, e.val)] = some e.cells := rfl
  rw [e]
  dsimp only
  rw [gives_bind, gives_newX]
  exact ⟨rfl, (gives_ret _ _ _).2 q⟩
end Go.Proofs.YtigbkoadojjajaaGreat
