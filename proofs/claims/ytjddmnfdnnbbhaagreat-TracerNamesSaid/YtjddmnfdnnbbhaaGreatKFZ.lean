/- The clean executor: what is plain of numbers; each operation that turns no memory. -/
import Derived.Test.YtjddmnfdnnbbhaaGreatKEZ
import Derived.Laws.FloatArith
import Derived.Laws.Entries
set_option linter.unusedSimpArgs false
set_option linter.unusedVariables false
set_option linter.unusedVariables false
set_option linter.unusedSimpArgs false
namespace Go.Clean
open Go Go.RowKit Ieee

/-! ### Floats -/
theorem sum_nan_left {x y : Datum} (h : x.isNaN = true) : x.sum y = none := by cases x <;> simp_all [Datum.isNaN, Datum.sum]
theorem sum_nan_right {x y : Datum} (h : y.isNaN = true) : x.sum y = none := by cases x <;> cases y <;> simp_all [Datum.isNaN, Datum.sum]
theorem product_nan_left {x y : Datum} (h : x.isNaN = true) : x.product y = none := by cases x <;> simp_all [Datum.isNaN, Datum.product]
theorem product_nan_right {x y : Datum} (h : y.isNaN = true) : x.product y = none := by cases x <;> cases y <;> simp_all [Datum.isNaN, Datum.product]
theorem quotient_nan_left {n : Nat} {x y : Datum} (h : x.isNaN = true) : Datum.quotient n x y = none := by cases x <;> simp_all [Datum.isNaN, Datum.quotient]
theorem quotient_nan_right {n : Nat} {x y : Datum} (h : y.isNaN = true) : Datum.quotient n x y = none := by cases x <;> cases y <;> simp_all [Datum.isNaN, Datum.quotient]
theorem order_nan_left {x y : Datum} (h : x.isNaN = true) : x.order y = none := by cases x <;> simp_all [Datum.isNaN, Datum.order]
theorem order_nan_right {x y : Datum} (h : y.isNaN = true) : x.order y = none := by cases x <;> cases y <;> simp_all [Datum.isNaN, Datum.order]
theorem opposite_nan {x : Datum} : x.opposite.isNaN = x.isNaN := by cases x <;> rfl

theorem floatX_left {op : BinOp} {x : Nat} (h : isNaN x = true) (y : Nat) : floatX op x y = none := by
  unfold floatX
  split
  · simp [Format.add, sum_nan_left (show (double.read x).isNaN = true from h)]
  · simp [Format.sub, sum_nan_left (show (double.read x).isNaN = true from h)]
  · simp [Format.mul, product_nan_left (show (double.read x).isNaN = true from h)]
  · simp [Format.div, quotient_nan_left (show (double.read x).isNaN = true from h)]
  · rfl
theorem floatX_right {op : BinOp} {y : Nat} (h : isNaN y = true) (x : Nat) : floatX op x y = none := by
  unfold floatX
  split
  · simp [Format.add, sum_nan_right (show (double.read y).isNaN = true from h)]
  · simp [Format.sub, sum_nan_right (show (double.read y).opposite.isNaN = true from opposite_nan.trans h)]
  · simp [Format.mul, product_nan_right (show (double.read y).isNaN = true from h)]
  · simp [Format.div, quotient_nan_right (show (double.read y).isNaN = true from h)]
  · rfl
theorem floatX_FR {op : BinOp} {x x' y y' : Nat} (hx : FR x x') (hy : FR y y') : floatX op x' y' = floatX op x y := by
  rcases hx with rfl | ⟨h1, h2⟩
  · rcases hy with rfl | ⟨h1, h2⟩
    · rfl
    · rw [floatX_right h1, floatX_right h2]
  · rw [floatX_left h1, floatX_left h2]
theorem order_FR {x x' y y' : Nat} (hx : FR x x') (hy : FR y y') : double.order x' y' = double.order x y := by
  rcases hx with rfl | ⟨h1, h2⟩
  · rcases hy with rfl | ⟨h1, h2⟩
    · rfl
    · simp [Format.order, order_nan_right (show (double.read y).isNaN = true from h1), order_nan_right (show (double.read y').isNaN = true from h2)]
  · simp [Format.order, order_nan_left (show (double.read x).isNaN = true from h1), order_nan_left (show (double.read x').isNaN = true from h2)]
theorem nan_bits (s k : Nat) (h1 : s < 2) (h2 : k < 4503599627370495) : isNaN (s * 9223372036854775808 + 9218868437227405312 + 1 + k) = true := by
  have hw : double.signWeight = 9223372036854775808 := by decide
  have hi : double.infRung = 9218868437227405312 := by decide
  unfold isNaN Format.read
  simp only [hw, hi]
  have hm : (s * 9223372036854775808 + 9218868437227405312 + 1 + k) % 9223372036854775808 = 9218868437227405312 + 1 + k := by
    have : s = 0 ∨ s = 1 := by omega
    rcases this with rfl | rfl <;> omega
  have hb : double.binade = 4503599627370496 := by decide
  rw [hm]
  simp only [hb]
  rw [if_neg (by omega), if_neg (by omega), if_neg (by omega)]
  rfl
theorem cut_nan (x y t : Nat) : isNaN (Question.cut (.nanBits .f64 x y) t) = true := by
  show isNaN ((t % 2) * 2 ^ 63 + 0x7ff0000000000000 + 1 + (t / 2) % (2 ^ 52 - 1)) = true
  have e1 : (2 : Nat) ^ 63 = 9223372036854775808 := by decide
  have e2 : (2 : Nat) ^ 52 - 1 = 4503599627370495 := by decide
  rw [e1, e2]
  exact nan_bits _ _ (Nat.mod_lt _ (by decide)) (Nat.mod_lt _ (by decide))
theorem cut_nanMax (b : Bool) (x y t : Nat) : isNaN (Question.cut (.nanMinMax .f64 b x y) t) = true := by
  show isNaN ((t % 2) * 2 ^ 63 + 0x7ff0000000000000 + 1 + (t / 2) % (2 ^ 52 - 1)) = true
  have e1 : (2 : Nat) ^ 63 = 9223372036854775808 := by decide
  have e2 : (2 : Nat) ^ 52 - 1 = 4503599627370495 := by decide
  rw [e1, e2]
  exact nan_bits _ _ (Nat.mod_lt _ (by decide)) (Nat.mod_lt _ (by decide))
theorem noNum_nan : isNaN noNum = true := by decide
theorem isNaN_mod (b : Nat) : isNaN (b % 9223372036854775808) = isNaN b := by
  have hw : double.signWeight = 9223372036854775808 := by decide
  unfold isNaN Format.read
  simp only [hw, Nat.mod_mod]
  split
  · rfl
  · split
    · rfl
    · split <;> rfl
theorem xor_mod (b : Nat) : (b ^^^ 9223372036854775808) % 9223372036854775808 = b % 9223372036854775808 := by
  have h : (9223372036854775808 : Nat) = 2 ^ 63 := by decide
  rw [h, Nat.xor_mod_two_pow]
  simp
theorem isNaN_neg (b : Nat) : isNaN (b ^^^ 9223372036854775808) = isNaN b := by rw [← isNaN_mod (b ^^^ 9223372036854775808), xor_mod, isNaN_mod]
theorem FR.nan {x y : Nat} (hx : isNaN x = true) (hy : isNaN y = true) : FR x y := .inr ⟨hx, hy⟩
theorem FR.neg {x y : Nat} (h : FR x y) : FR (canon (x ^^^ 9223372036854775808)) (y ^^^ 9223372036854775808) := by
  unfold canon
  rcases h with rfl | ⟨h1, h2⟩
  · cases hn : isNaN (x ^^^ 9223372036854775808)
    · exact .refl _
    · exact .nan noNum_nan hn
  · rw [isNaN_neg, h1]
    exact .nan noNum_nan (by rw [isNaN_neg, h2])
theorem FR.eq {x y : Nat} (h : FR x y) (hx : isNaN x = false) : y = x := by
  rcases h with rfl | ⟨h1, h2⟩
  · rfl
  · rw [hx] at h1; cases h1

variable {P : Program} {N : Nat} {ρ : Env} {m m' : Mem} {w : World}

/-! ### What asks nothing of the world -/
theorem pureRun_run {α : Type} : ∀ (s : Sem α) {a : α}, pureRun P s = some a → ∀ w, s.run P w = .ok a w
  | .pure b, a, h, w => by obtain rfl : b = a := by simpa [pureRun] using h
                           rfl
  | .program k, a, h, w => by unfold pureRun at h; exact pureRun_run (k P) h w
  | .load _ _ _, _, h, _ => by simp [pureRun] at h
  | .store _ _ _ _, _, h, _ => by simp [pureRun] at h
  | .new _ _, _, h, _ => by simp [pureRun] at h
  | .shape _ _, _, h, _ => by simp [pureRun] at h
  | .freeze _ _ _, _, h, _ => by simp [pureRun] at h
  | .frozen _ _, _, h, _ => by simp [pureRun] at h
  | .getObj _ _, _, h, _ => by simp [pureRun] at h
  | .setObj _ _ _, _, h, _ => by simp [pureRun] at h
  | .choose _ _, _, h, _ => by simp [pureRun] at h
  | .sys _ _, _, h, _ => by simp [pureRun] at h
  | .mark _ _, _, h, _ => by simp [pureRun] at h
  | .halt _, _, h, _ => by simp [pureRun] at h

/-! ### Frames -/
def DR (ρ : Env) (d : FuncId × List Value) (d' : Deferred) : Prop := (∃ args cap : List Value, d' = { target := .fn (.func d.1) ⟨cap⟩, args := ⟨args⟩ } ∧ VRs ρ d.2 (args ++ cap)) ∨
  (d.2 = markV ∧ ∃ p, ρ d.1 = some p ∧ p.fin < p.off ∧ d' = { target := .collected p.blk, args := #[] })
theorem VRs.noMark {ρ : Env} {l l' : List Value} (h : VRs ρ l l') : isMark l = false := by
  unfold isMark
  split
  · obtain ⟨v', vs', _, h1, _⟩ := h.inv
    exact h1.elim
  · rfl
def DRs (ρ : Env) : List (FuncId × List Value) → List Deferred → Prop
  | [], l => l = []
  | d :: ds, l => ∃ d' ds', l = d' :: ds' ∧ DR ρ d d' ∧ DRs ρ ds ds'
theorem DRs.mono {ρ' : Env} (e : Ext ρ ρ') : ∀ {l : List (FuncId × List Value)} {l' : List Deferred}, DRs ρ l l' → DRs ρ' l l'
  | [], _, h => h
  | d :: ds, _, h => by
    obtain ⟨d', ds', rfl, h0, h3⟩ := h
    refine ⟨d', ds', rfl, ?_, h3.mono e⟩
    rcases h0 with ⟨args, cap, h1, h2⟩ | ⟨h1, p, h2, h4, h5⟩
    · exact .inl ⟨args, cap, h1, h2.mono e⟩
    · exact .inr ⟨h1, p, e _ _ h2, h4, h5⟩
structure FrR (ρ : Env) (fr : Fr) (a : Act) : Prop where
  size : a.tmps.size = fr.n
  tmps : ∀ t, VR ρ (fr.at t) (a.tmps.getD t undef)
  defers : DRs ρ fr.d a.defers
theorem FrR.mono {ρ' : Env} {fr : Fr} {a : Act} (h : FrR ρ fr a) (e : Ext ρ ρ') : FrR ρ' fr a := ⟨h.size, fun t => (h.tmps t).mono e, h.defers.mono e⟩
theorem ev_rel {fr : Fr} {a : Act} (h : FrR ρ fr a) {x : Operand} {v : Value} (he : ev fr x = some v) : VR ρ v (a.eval x) := by
  cases x with
  | tmp t => obtain rfl : fr.at t = v := by simpa [ev] using he
             exact h.tmps t
  | const c =>
    unfold ev at he
    cases hp : plainV c with
    | false => simp [hp] at he
    | true => simp [hp] at he; subst he; exact .plain hp
  | func f => obtain rfl : Value.func (.func f) #[] #[] = v := by simpa [ev] using he
              exact ⟨[], [], rfl, .nil, .nil⟩
  | global g => simp [ev] at he
theorem evs_rel {fr : Fr} {a : Act} (h : FrR ρ fr a) : ∀ {l : List Operand} {vs : List Value}, evs fr l = some vs → VRs ρ vs (l.map a.eval)
  | [], vs, he => by obtain rfl : [] = vs := by simpa [evs] using he
                     exact .nil
  | x :: l, vs, he => by
    unfold evs at he
    split at he
    · cases he
    · rename_i v hv
      split at he
      · cases he
      · rename_i us hus
        obtain rfl : v :: us = vs := by simpa using he
        exact .cons (ev_rel h hv) (evs_rel h hus)
theorem FrR.put {fr : Fr} {a : Act} (h : FrR ρ fr a) {dst : Option Tmp} {v v' : Value} (hv : VR ρ v v') {fr' : Fr} (hp : fr.put dst v m = some (fr', m')) : FrR ρ fr' (a.put dst v') ∧ m = m' := by
  unfold Fr.put at hp
  rw [putK_eq] at hp
  cases dst with
  | none => simp at hp; obtain ⟨rfl, rfl⟩ := hp; exact ⟨h, rfl⟩
  | some d =>
    simp only at hp
    split at hp
    · rename_i hd
      simp only [Option.some.injEq, Prod.mk.injEq] at hp
      obtain ⟨rfl, rfl⟩ := hp
      refine ⟨⟨by simp [Act.put, h.size], fun t => ?_, h.defers⟩, rfl⟩
      by_cases ht : t = d
      · subst ht
        have h1 : (Fr.mk (Trie.set (some v) (t + 1) fr.t t) fr.n fr.d).at t = v := by simp [Fr.at, Trie.get_set_same _ _ _ _ (Nat.lt_succ_self t)]
        have h2 : (a.put (some t) v').tmps.getD t undef = v' := by simp [Act.put, h.size, hd]
        rw [h1, h2]; exact hv
      · have h1 : (Fr.mk (Trie.set (some v) (d + 1) fr.t d) fr.n fr.d).at t = fr.at t := by simp [Fr.at, Trie.get_set_ne _ _ _ _ _ ht]
        have h2 : (a.put (some d) v').tmps.getD t undef = a.tmps.getD t undef := by simp [Act.put, Array.getD_eq_getD_getElem?, Array.getElem?_setIfInBounds, Ne.symm ht]
        rw [h1, h2]; exact h.tmps t
    · cases hp

theorem Does.of {s : Sem Value} {v v' : Value} {w' : World} {ρ' : Env} (h : s.run P w = .ok v' w') (ha : After N ρ m m' w v v' w' ρ') : Does P N ρ m m' w v (do pure (.value (← s))) :=
  Does.value (by rw [Sem.run_bind, h]; rfl) ha

/-! ### Values of what is looked at -/
theorem VR.int {k : IntKind} {n : Int} {v : Value} (h : VR ρ (.int k n) v) : v = .int k n := h
theorem VR.bool {b : Bool} {v : Value} (h : VR ρ (.bool b) v) : v = .bool b := h
theorem VR.str {s : ByteArray} {v : Value} (h : VR ρ (.string s) v) : v = .string s := h
theorem VR.flt {k : FloatKind} {x : Nat} {v : Value} (h : VR ρ (.float k x) v) : ∃ y, v = .float k y ∧ FR x y := h
theorem VR.cpx {k : FloatKind} {x y : Nat} {v : Value} (h : VR ρ (.complex k x y) v) : ∃ x' y', v = .complex k x' y' ∧ FR x x' ∧ FR y y' := h
theorem VR.ptr {b o : Nat} {v : Value} (h : VR ρ (.pointer (some ⟨b, o, none⟩)) v) : ∃ p, ρ b = some p ∧ v = .pointer (some ⟨p.blk, p.off + o, none⟩) := by
  obtain ⟨p, h1, _, h2⟩ := h
  exact ⟨p, h1, h2⟩
theorem VR.slc {b o n c : Nat} {v : Value} (h : VR ρ (.slice (some ⟨b, o, none⟩) n c) v) : ∃ p c', ρ b = some p ∧ v = .slice (some ⟨p.blk, p.off + o, none⟩) n c' ∧ n ≤ c ∧ c ≤ c' ∧ (p.exact = true → c' = c) ∧ p.off + o + c' * p.sz ≤ p.fin := by
  rcases h with ⟨p, c', h1, _, h2⟩ | h
  · exact ⟨p, c', h1, h2⟩
  · exact absurd rfl h.1
theorem VR.agg' {l : List Value} {v : Value} (h : VR ρ (.agg ⟨l⟩) v) : ∃ l', v = .agg ⟨l'⟩ ∧ VRs ρ l l' := h
theorem VR.tup {l : List Value} {v : Value} (h : VR ρ (.tuple ⟨l⟩) v) : ∃ l', v = .tuple ⟨l'⟩ ∧ VRs ρ l l' := h
theorem VR.fun' {f : Fn} {a b : List Value} {v : Value} (h : VR ρ (.func f ⟨a⟩ ⟨b⟩) v) : ∃ a' b', v = .func f ⟨a'⟩ ⟨b'⟩ ∧ VRs ρ a a' ∧ VRs ρ b b' := h

theorem add_off (k o n : Nat) : (⟨k, o, none⟩ : Addr).add n = ⟨k, o + n, none⟩ := by unfold Addr.add; split <;> simp_all

/-! ### The looks -/
theorem load_does {t : TypeId} {x x' v : Value} (hx : VR ρ x x') (h : loadX P t x m = some (v, m')) (hr : Rel N ρ m.t.get w) : ∃ v', (Instr.loadAt t x').run P w = .ok v' w ∧ VR ρ v v' ∧ m'.t = m.t := by
  unfold loadX at h
  split at h
  · rename_i b o
    obtain ⟨blk, m1, h1, h2⟩ := bind_some h
    obtain ⟨hb, rfl⟩ := getB_some h1
    obtain ⟨p, hp, rfl⟩ := hx.ptr
    simp only [Instr.loadAt, Instr.sureAddr, loadVar, Sem.run_bind, Sem.run_pure, Result.andThen_ok]
    match ha : Clean.isAgg P t, h2 with
    | some true, h2 =>
      rw [isAgg_run ha]
      simp only [Result.andThen_ok, if_true, Sem.run_bind]
      match hn : sizeT P t, h2 with
      | some n, h2 =>
        obtain ⟨ho, rfl⟩ := lift_some h2
        obtain ⟨l, hl, rfl⟩ := Option.map_eq_some_iff.1 ho
        obtain ⟨l', hl1, hl2, hl3⟩ := cells_read hr hb hp hl
        rw [sizeT_run hn]
        have := run_loadCells_list (P := P) w ⟨p.blk, p.off + o, none⟩ l' hl3
        rw [hl2] at this
        simp only [Result.andThen_ok, this, Sem.run_pure]
        exact ⟨_, rfl, ⟨l', rfl, hl1⟩, trivial⟩
      | none, h2 => exact (fail_some h2).elim
    | some false, h2 =>
      rw [isAgg_run ha]
      obtain ⟨ho, rfl⟩ := lift_some h2
      obtain ⟨v', hv1, hv2, _⟩ := hr.cell hb hp ho
      simp only [Result.andThen_ok, Bool.false_eq_true, if_false, run_load, hv1]
      exact ⟨v', rfl, hv2, trivial⟩
    | none, h2 => exact (fail_some h2).elim
  · exact (fail_some h).elim

theorem store_does {t : TypeId} {x x' y y' v : Value} (hx : VR ρ x x') (hy : VR ρ y y') (h : storeX P t x y m = some (v, m')) (hr : Rel N ρ m.t.get w) :
    ∃ w', (Instr.storeAt t x' y').run P w = .ok () w' ∧ v = undef ∧ Rel N ρ m'.t.get w' ∧ Keeps N w w' := by
  unfold storeX at h
  split at h
  · rename_i b o
    obtain ⟨blk, m1, h1, h2⟩ := bind_some h
    obtain ⟨hb, rfl⟩ := getB_some h1
    obtain ⟨u, m2, h3, h4⟩ := bind_some h2
    obtain ⟨hg, rfl⟩ := guard_some h3
    simp only [Bool.and_eq_true, Bool.not_eq_true', beq_iff_eq] at hg
    obtain ⟨⟨hro, hsz⟩, hone⟩ := hg
    obtain ⟨l, hl, h5⟩ := lay_some (g := fun l => do
      setB b (some { blk with cells := l })
      M.ret undef) h4
    obtain ⟨u2, m3, h6, h7⟩ := bind_some h5
    obtain ⟨hn, hget⟩ := setB_some h6
    obtain ⟨rfl, rfl⟩ := ret_some h7
    obtain ⟨p, hp, rfl⟩ := hx.ptr
    obtain ⟨w', hw1, hw2, hw3⟩ := write_run (P := P) (g' := m3.t.get) hr hb hp hro hl hy.cells hone hget
    refine ⟨w', ?_, rfl, hw2, hw3⟩
    have hlen : y'.cells.size = (cellsV y).length := by
      have := hy.cells.length
      rw [cellsV_eq y', Array.length_toList] at this
      exact this
    simp only [Instr.storeAt, Instr.sureAddr, storeVar, Sem.run_bind, Sem.run_pure, Result.andThen_ok, sizeT_run hsz, hlen]
    simp only [ne_eq, not_true_eq_false, if_false]
    rw [cellsV_eq] at hw1
    exact hw1
  · exact (fail_some h).elim

theorem field_size {f : Field} {n : Nat} (h : sizeT P f.type = some (n + 1)) (a : Addr) : (fieldPlace a f).run P w = .ok (a.add f.offset) w := by
  unfold fieldPlace
  rw [Sem.run_bind, sizeT_run h]
  simp

theorem fieldAddr_does {s : TypeId} {x x' v : Value} {f : Nat} (hx : VR ρ x x') (h : fieldAddrX P s x f = some v) : ∃ v', (Instr.fieldAt s x' f).run P w = .ok v' w ∧ VR ρ v v' := by
  unfold fieldAddrX at h
  split at h
  · rename_i fields b o hu
    split at h
    · rename_i g hg
      split at h
      · rename_i n hn
        obtain rfl := Option.some.inj h
        obtain ⟨p, hp, rfl⟩ := hx.ptr
        refine ⟨.pointer (some ⟨p.blk, p.off + (o + g.offset), none⟩), ?_, ⟨p, hp, rfl, rfl⟩⟩
        have hg' : fields[f]? = some g := by rw [← Array.getElem?_toList]; exact hg
        unfold Instr.fieldAt
        simp only [Sem.run_bind, run_underlying hu, Result.andThen_ok, hg', Instr.sureAddr, Sem.run_pure, field_size hn, add_off, Nat.add_assoc]
      · cases h
    · cases h
  · cases h

theorem indexAddr_does {t : TypeId} {x x' i i' v : Value} (hx : VR ρ x x') (hi : VR ρ i i') (h : indexAddrX P t x i = some v) : ∃ v', (Instr.indexAt t x' i').run P w = .ok v' w ∧ VR ρ v v' := by
  unfold indexAddrX at h
  split at h
  · rename_i e b o len cap k i hu
    split at h
    · rename_i n hn
      cases hd : decide (0 ≤ i ∧ i < (len : Int)) with
      | false => simp [hd] at h
      | true =>
        simp only [hd, cond_true, Option.some.injEq] at h
        subst h
        have hd' := of_decide_eq_true hd
        obtain rfl := hi.int
        obtain ⟨p, c', hp, rfl, _⟩ := hx.slc
        refine ⟨.pointer (some ⟨p.blk, p.off + (o + i.toNat * n), none⟩), ?_, ⟨p, hp, rfl, rfl⟩⟩
        unfold Instr.indexAt
        simp only [Sem.run_bind, asIntOf, Sem.run_pure, Result.andThen_ok, run_underlying hu, hd', and_self, if_true, sizeT_run hn, add_off, Nat.add_assoc]
    · cases h
  · rename_i len e b o k i hu
    split at h
    · rename_i n hn
      cases hd : decide (0 ≤ i ∧ i < (len : Int)) with
      | false => simp [hd] at h
      | true =>
        simp only [hd, cond_true, Option.some.injEq] at h
        subst h
        have hd' := of_decide_eq_true hd
        obtain rfl := hi.int
        obtain ⟨p, hp, rfl⟩ := hx.ptr
        refine ⟨.pointer (some ⟨p.blk, p.off + (o + i.toNat * n), none⟩), ?_, ⟨p, hp, rfl, rfl⟩⟩
        unfold Instr.indexAt
        simp only [Sem.run_bind, asIntOf, Sem.run_pure, Result.andThen_ok, run_underlying hu, hd', and_self, if_true, sizeT_run hn, add_off, Nat.add_assoc, Instr.sureAddr]
    · cases h
  · cases h

theorem part_does {t : TypeId} {cs cs' : List Value} {off : Nat} {v : Value} (hc : VRs ρ cs cs') (h : partX P t cs off = some v) : ∃ v', (part t ⟨cs'⟩ off).run P w = .ok v' w ∧ VR ρ v v' := by
  unfold partX at h
  unfold part
  split at h
  · rename_i ha
    split at h
    · rename_i n hn
      obtain ⟨l, hl, rfl⟩ := Option.map_eq_some_iff.1 h
      obtain ⟨l', hl', hll⟩ := hc.takeN hl
      obtain ⟨h1, h2⟩ := takeN_spec _ _ _ _ hl'
      simp only [Sem.run_bind, isAgg_run ha, Result.andThen_ok, if_true, sizeT_run hn, Sem.run_pure]
      refine ⟨_, rfl, ⟨l', ?_, hll⟩⟩
      congr 1
      apply Array.ext'
      simp only [Array.toList_extract]
      apply List.ext_getElem?
      intro j
      simp only [List.extract_eq_take_drop, List.getElem?_take, List.getElem?_drop]
      by_cases hj : j < n
      · rw [if_pos (by omega), h2 j hj]
      · rw [if_neg (by omega), List.getElem?_eq_none (by omega)]
    · cases h
  · rename_i ha
    obtain ⟨v', hv1, hv2⟩ := hc.get h
    have : (⟨cs'⟩ : Array Value)[off]? = some v' := by rw [← Array.getElem?_toList]; exact hv1
    simp only [Sem.run_bind, isAgg_run ha, Result.andThen_ok, Bool.false_eq_true, if_false, this, Sem.run_pure]
    exact ⟨v', rfl, hv2⟩
  · cases h

theorem fieldV_does {t : TypeId} {x x' v : Value} {f : Nat} (hx : VR ρ x x') (h : fieldX P t x f = some v) : ∃ v', (Instr.field t x' f).run P w = .ok v' w ∧ VR ρ v v' := by
  unfold fieldX at h
  split at h
  · rename_i fields cs hu
    split at h
    · rename_i g hg
      obtain ⟨cs', rfl, hcs⟩ := hx.agg'
      obtain ⟨v', h1, h2⟩ := part_does (P := P) (w := w) hcs h
      have hg' : fields[f]? = some g := by rw [← Array.getElem?_toList]; exact hg
      refine ⟨v', ?_, h2⟩
      unfold Instr.field
      simp only [Sem.run_bind, run_underlying hu, Result.andThen_ok, hg', asAgg, Sem.run_pure, h1]
    · cases h
  · cases h
theorem indexV_does {t : TypeId} {x x' i i' v : Value} (hx : VR ρ x x') (hi : VR ρ i i') (h : indexX P t x i = some v) : ∃ v', (Instr.index t x' i').run P w = .ok v' w ∧ VR ρ v v' := by
  unfold indexX at h
  split at h
  · rename_i len e cs k i hu
    split at h
    · rename_i n hn
      cases hd : decide (0 ≤ i ∧ i < (len : Int)) with
      | false => simp [hd] at h
      | true =>
        simp only [hd, cond_true] at h
        have hd' := of_decide_eq_true hd
        obtain rfl := hi.int
        obtain ⟨cs', rfl, hcs⟩ := hx.agg'
        obtain ⟨v', h1, h2⟩ := part_does (P := P) (w := w) hcs h
        refine ⟨v', ?_, h2⟩
        unfold Instr.index
        simp only [Sem.run_bind, asIntOf, Sem.run_pure, Result.andThen_ok, run_underlying hu, hd', and_self, if_true, sizeT_run hn, h1]
    · cases h
  · rename_i s k i hu
    cases hd : decide (0 ≤ i) with
    | false => simp [hd] at h
    | true =>
      simp only [hd, cond_true] at h
      have hd' := of_decide_eq_true hd
      obtain rfl := hi.int
      obtain rfl := hx.str
      obtain ⟨b, hb, rfl⟩ := Option.map_eq_some_iff.1 h
      refine ⟨_, ?_, VR.leaf (v := .int .u8 b.toNat) rfl⟩
      unfold Instr.index
      simp only [Sem.run_bind, asIntOf, Sem.run_pure, Result.andThen_ok, run_underlying hu, hd', if_true, hb]
  · cases h
theorem extract_does {x x' v : Value} {i : Nat} (hx : VR ρ x x') (h : extractX x i = some v) : ∃ v', (Instr.extract x' i).run P w = .ok v' w ∧ VR ρ v v' := by
  unfold extractX at h
  split at h
  · rename_i l
    obtain ⟨l', rfl, hl⟩ := hx.tup
    obtain ⟨v', h1, h2⟩ := hl.get h
    have : (⟨l'⟩ : Array Value)[i]? = some v' := by rw [← Array.getElem?_toList]; exact h1
    exact ⟨v', by simp [Instr.extract, this], h2⟩
  · cases h

end Go.Clean
