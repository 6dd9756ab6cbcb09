/- The clean executor: reckoning. -/
import Derived.Test.YtonmjdhdkkmjlaaKF
set_option linter.unusedVariables false
set_option linter.unusedSimpArgs false
namespace Go.Clean
open Go Go.RowKit Ieee
variable {P : Program} {N : Nat} {ρ : Env} {m m' : Mem} {w : World}

theorem pureV_some {s : Sem Value} {v : Value} (h : pureV P s = some v) : (∀ w, s.run P w = .ok v w) ∧ VR ρ v v := by
  unfold pureV at h
  split at h
  · rename_i u hu
    cases hl : leafV u with
    | false => simp [hl] at h
    | true =>
      simp only [hl, cond_true, Option.some.injEq] at h
      subst h
      exact ⟨pureRun_run _ hu, .leaf hl⟩
  · cases h

theorem guard_int (op : BinOp) (t : TypeId) (xo yo : Operand) (k k' : IntKind) (a b : Int) : (eqGuard op t xo yo (.int k a) (.int k' b)).run P w = .ok () w := by
  cases op <;> rfl
theorem guard_float (op : BinOp) (t : TypeId) (xo yo : Operand) (k k' : FloatKind) (a b : Nat) : (eqGuard op t xo yo (.float k a) (.float k' b)).run P w = .ok () w := by
  cases op <;> rfl
theorem guard_complex (op : BinOp) (t : TypeId) (xo yo : Operand) (k k' : FloatKind) (a b c d : Nat) : (eqGuard op t xo yo (.complex k a b) (.complex k' c d)).run P w = .ok () w := by
  cases op <;> rfl
theorem guard_pointer (op : BinOp) (t : TypeId) (xo yo : Operand) (a b : Option Addr) : (eqGuard op t xo yo (.pointer a) (.pointer b)).run P w = .ok () w := by
  cases op <;> rfl
theorem guard_slice (op : BinOp) (t : TypeId) (xo yo : Operand) (a b : Option Addr) (n c n' c' : Nat) : (eqGuard op t xo yo (.slice a n c) (.slice b n' c')).run P w = .ok () w := by
  cases op <;> rfl
theorem guard_func (op : BinOp) (t : TypeId) (xo yo : Operand) (x : Value) : (eqGuard op t xo yo x .nilFunc).run P w = .ok () w := by
  cases op <;> cases x <;> rfl

theorem bin_then {op : BinOp} {t : TypeId} {xo yo : Operand} {x y : Value} {r : Result Value} (hg : (eqGuard op t xo yo x y).run P w = .ok () w) (h : (binOp op t x y).run P w = r) :
    (do eqGuard op t xo yo x y; binOp op t x y).run P w = r := by
  rw [Sem.run_bind, hg]; exact h

theorem intX_does {op : BinOp} {t : TypeId} {k : IntKind} {a b : Int} {v : Value} (h : intX op k a b = some v) : (binOp op t (.int k a) (.int k b)).run P w = .ok v w ∧ VR ρ v v := by
  unfold intX at h
  split at h <;> first | (cases h; done) | skip
  all_goals
    obtain rfl := Option.some.inj h
    refine ⟨?_, .leaf rfl⟩
    simp [binOp, Op.intArith, Op.intCmp]
  all_goals first | rfl | (congr; done) | skip
  all_goals (congr 2)

theorem order_eq (a b : Nat) : FloatKind.f64.format.order a b = double.order a b := rfl

theorem cmpX_does {op : BinOp} {t : TypeId} {a b : Nat} {c : Bool} (ha : isArith op = false) (h : cmpX op (double.order a b) = some c) : (binOp op t (.float .f64 a) (.float .f64 b)).run P w = .ok (.bool c) w := by
  unfold cmpX at h
  split at h <;> first | (cases h; done) | skip
  all_goals
    obtain rfl := Option.some.inj h
    rfl

theorem arith_does {op : BinOp} {t : TypeId} {a b : Nat} (ha : isArith op = true) : (binOp op t (.float .f64 a) (.float .f64 b)).run P w = match floatX op a b with
    | some r => .ok (.float .f64 r) w
    | none => .ok (.float .f64 (Question.cut (.nanBits .f64 a b) (w.tape w.drawn (.nanBits .f64 a b)))) w.drew := by
  have key : (binOp op t (.float .f64 a) (.float .f64 b)) = Op.floatArith op .f64 a b := by cases op <;> first | rfl | (simp [isArith] at ha)
  rw [key]
  have e : FloatKind.f64.format = double := rfl
  cases op <;> first | (simp [isArith] at ha; done) | skip
  all_goals
    cases hr : floatX _ a b with
    | some r =>
      have hr' := hr
      simp only [floatX] at hr'
      simp [Op.floatArith, e, hr']
    | none =>
      have hr' := hr
      simp only [floatX] at hr'
      simp [Op.floatArith, e, hr', Question.forced]

theorem complexEq_does {op : BinOp} {t : TypeId} {f : Bool → Bool} {a b c d : Nat} (h : eqlX op = some f) : (binOp op t (.complex .f64 a b) (.complex .f64 c d)).run P w = .ok (.bool (f (double.order a c == some .eq && double.order b d == some .eq))) w := by
  unfold eqlX at h
  split at h <;> first | (cases h; done) | skip
  all_goals
    obtain rfl := Option.some.inj h
    rfl

theorem eq_ptr {t e : TypeId} (hu : P.underlying t = some (.pointer e)) (a : Option Addr) (d : Nat) : (Op.equalIn (d + 1) t (.pointer a) (.pointer none)).run P w = .ok a.isNone w := by
  unfold Op.equalIn
  rw [Sem.run_bind, run_underlying hu]
  cases a <;> rfl
theorem eq_slice {t e : TypeId} (hu : P.underlying t = some (.slice e)) (a : Option Addr) (n c n' c' d : Nat) : (Op.equalIn (d + 1) t (.slice a n c) (.slice none n' c')).run P w = .ok a.isNone w := by
  unfold Op.equalIn
  rw [Sem.run_bind, run_underlying hu]
  cases a <;> rfl
theorem eq_nilFunc {t : TypeId} {ps rs : Array TypeId} {vr : Bool} (hu : P.underlying t = some (.func ps rs vr)) (d : Nat) : (Op.equalIn (d + 1) t .nilFunc .nilFunc).run P w = .ok true w := by
  unfold Op.equalIn
  rw [Sem.run_bind, run_underlying hu]
  rfl
theorem eq_func {t : TypeId} {ps rs : Array TypeId} {vr : Bool} (hu : P.underlying t = some (.func ps rs vr)) (g : Fn) (u v : Array Value) (d : Nat) : (Op.equalIn (d + 1) t (.func g u v) .nilFunc).run P w = .ok false w := by
  unfold Op.equalIn
  rw [Sem.run_bind, run_underlying hu]
  rfl
theorem eq_then {op : BinOp} {t : TypeId} {f : Bool → Bool} {x y : Value} {b : Bool} (h : eqlX op = some f) (h1 : binOp .eql t x y = (do pure (.bool (← Op.equal t x y)))) (h2 : binOp .neq t x y = (do pure (.bool (!(← Op.equal t x y)))))
    (he : ∀ d, (Op.equalIn (d + 1) t x y).run P w = .ok b w) : (binOp op t x y).run P w = .ok (.bool (f b)) w := by
  have he' : (Op.equal t x y).run P w = .ok b w := he 9999
  unfold eqlX at h
  split at h <;> first | (cases h; done) | skip
  · obtain rfl := Option.some.inj h
    rw [h1, Sem.run_bind, he']; rfl
  · obtain rfl := Option.some.inj h
    rw [h2, Sem.run_bind, he']; rfl
theorem nil_ptr {op : BinOp} {t e : TypeId} {f : Bool → Bool} {xo yo : Operand} (h : eqlX op = some f) (hu : P.underlying t = some (.pointer e)) (a : Option Addr) :
    (do eqGuard op t xo yo (.pointer a) (.pointer none); binOp op t (.pointer a) (.pointer none)).run P w = .ok (.bool (f a.isNone)) w :=
  bin_then (guard_pointer _ _ _ _ _ _) (eq_then h rfl rfl (eq_ptr hu a))
theorem nil_slice {op : BinOp} {t e : TypeId} {f : Bool → Bool} {xo yo : Operand} (h : eqlX op = some f) (hu : P.underlying t = some (.slice e)) (a : Option Addr) (n c n' c' : Nat) :
    (do eqGuard op t xo yo (.slice a n c) (.slice none n' c'); binOp op t (.slice a n c) (.slice none n' c')).run P w = .ok (.bool (f a.isNone)) w :=
  bin_then (guard_slice _ _ _ _ _ _ _ _ _ _) (eq_then h rfl rfl (eq_slice hu a n c n' c'))
theorem nil_func {op : BinOp} {t : TypeId} {f : Bool → Bool} {xo yo : Operand} {ps rs : Array TypeId} {vr : Bool} (h : eqlX op = some f) (hu : P.underlying t = some (.func ps rs vr)) (x : Value) (b : Bool)
    (hx : (x = .nilFunc ∧ b = true) ∨ (∃ g u v, x = .func g u v) ∧ b = false) :
    (do eqGuard op t xo yo x .nilFunc; binOp op t x .nilFunc).run P w = .ok (.bool (f b)) w := by
  refine bin_then (guard_func _ _ _ _ _) ?_
  rcases hx with ⟨rfl, rfl⟩ | ⟨⟨g, u, v, rfl⟩, rfl⟩
  · exact eq_then h rfl rfl (eq_nilFunc hu)
  · exact eq_then h rfl rfl (eq_func hu g u v)

theorem nilEq_does {op : BinOp} {t : TypeId} {f : Bool → Bool} {xo yo : Operand} {x x' y y' : Value} {b : Bool} (h : eqlX op = some f) (hx : VR ρ x x') (hy : VR ρ y y') (hn : isNilLit y = true) (tx : nilType P t x = true) (ty : nilType P t y = true) (hb : isNil x = some b) :
    (do eqGuard op t xo yo x' y'; binOp op t x' y').run P w = .ok (.bool (f b)) w := by
  unfold nilType at tx
  split at tx <;> first | (cases tx; done) | skip
  · rename_i e a hu
    cases y with
    | pointer q =>
      cases q with
      | some q => simp [isNilLit] at hn
      | none =>
        obtain rfl : y' = .pointer none := hy
        cases a with
        | none =>
          obtain rfl : x' = .pointer none := hx
          obtain rfl : true = b := by simpa [isNil] using hb
          exact nil_ptr h hu none
        | some a =>
          obtain ⟨p, _, _, rfl⟩ := hx
          obtain rfl : false = b := by simpa [isNil] using hb
          exact nil_ptr h hu _
    | _ => simp [nilType, hu] at ty
  · rename_i e a n c hu
    cases y with
    | slice q n' c' =>
      cases q with
      | some q => simp [isNilLit] at hn
      | none =>
        obtain rfl : y' = .slice none n' c' := hy
        cases a with
        | none =>
          obtain rfl : x' = .slice none n c := hx
          obtain rfl : true = b := by simpa [isNil] using hb
          exact nil_slice h hu none _ _ _ _
        | some a =>
          obtain rfl : false = b := by simpa [isNil] using hb
          rcases hx with ⟨p, c1, _, _, rfl, _⟩ | ⟨_, _, _, a', rfl⟩
          · exact nil_slice h hu _ _ _ _ _
          · exact nil_slice h hu _ _ _ _ _
    | _ => simp [nilType, hu] at ty
  · rename_i ps rs vr hu
    cases y with
    | nilFunc =>
      obtain rfl : y' = .nilFunc := hy
      obtain rfl : x' = .nilFunc := hx
      obtain rfl : true = b := by simpa [isNil] using hb
      exact nil_func h hu _ _ (.inl ⟨rfl, rfl⟩)
    | func _ _ _ => simp [isNilLit] at hn
    | _ => simp [nilType, hu] at ty
  · rename_i ps rs vr g u v hu
    cases y with
    | nilFunc =>
      obtain rfl : y' = .nilFunc := hy
      obtain ⟨u⟩ := u
      obtain ⟨v⟩ := v
      obtain ⟨a', b', rfl, _⟩ := hx
      obtain rfl : false = b := by simpa [isNil] using hb
      exact nil_func h hu _ _ (.inr ⟨⟨_, _, _, rfl⟩, rfl⟩)
    | func _ _ _ => simp [isNilLit] at hn
    | _ => simp [nilType, hu] at ty

theorem VR.fltNaN {b : Nat} (h : isNaN b = true) : VR ρ (.float .f64 noNum) (.float .f64 b) := ⟨b, rfl, .nan noNum_nan h⟩

theorem bin_does {op : BinOp} {t : TypeId} {xo yo : Operand} {x x' y y' v : Value} (hx : VR ρ x x') (hy : VR ρ y y') (h : binX P op t xo yo x y = some v) :
    ∃ v' w', (do eqGuard op t xo yo x' y'; binOp op t x' y').run P w = .ok v' w' ∧ VR ρ v v' ∧ (w' = w ∨ w' = w.drew) := by
  unfold binX at h
  split at h
  · rename_i k a k' b
    obtain rfl := hx.int
    obtain rfl := hy.int
    by_cases hk : k = k'
    · subst hk
      simp only [decide_true, cond_true] at h
      split at h
      · rename_i u hu
        obtain rfl := Option.some.inj h
        obtain ⟨h1, h2⟩ := intX_does (P := P) (ρ := ρ) (w := w) (t := t) hu
        exact ⟨_, w, bin_then (guard_int _ _ _ _ _ _ _ _) h1, h2, .inl rfl⟩
      · obtain ⟨h1, h2⟩ := pureV_some (ρ := ρ) h
        exact ⟨_, w, bin_then (guard_int _ _ _ _ _ _ _ _) (h1 w), h2, .inl rfl⟩
    · simp only [hk, decide_false, cond_false] at h
      obtain ⟨h1, h2⟩ := pureV_some (ρ := ρ) h
      exact ⟨_, w, bin_then (guard_int _ _ _ _ _ _ _ _) (h1 w), h2, .inl rfl⟩
  · rename_i a b
    obtain ⟨a', rfl, ha⟩ := hx.flt
    obtain ⟨b', rfl, hb⟩ := hy.flt
    cases hop : isArith op with
    | true =>
      simp only [hop, cond_true] at h
      have hr := arith_does (P := P) (w := w) (t := t) (a := a') (b := b') hop
      rw [floatX_FR ha hb] at hr
      split at h
      · rename_i r hfr
        obtain rfl := Option.some.inj h
        rw [hfr] at hr
        exact ⟨_, w, bin_then (guard_float _ _ _ _ _ _ _ _) hr, .leaf rfl, .inl rfl⟩
      · rename_i hfr
        obtain rfl := Option.some.inj h
        rw [hfr] at hr
        exact ⟨_, _, bin_then (guard_float _ _ _ _ _ _ _ _) hr, .fltNaN (cut_nan _ _ _), .inr rfl⟩
    | false =>
      simp only [hop, cond_false] at h
      obtain ⟨c, hc, rfl⟩ := Option.map_eq_some_iff.1 h
      rw [← order_FR ha hb] at hc
      exact ⟨_, w, bin_then (guard_float _ _ _ _ _ _ _ _) (cmpX_does hop hc), .leaf rfl, .inl rfl⟩
  · rename_i a b c d
    obtain ⟨a', b', rfl, ha, hb⟩ := hx.cpx
    obtain ⟨c', d', rfl, hc, hd⟩ := hy.cpx
    obtain ⟨f, hf, rfl⟩ := Option.map_eq_some_iff.1 h
    refine ⟨_, w, bin_then (guard_complex _ _ _ _ _ _ _ _ _ _) (complexEq_does hf), ?_, .inl rfl⟩
    rw [order_FR ha hc, order_FR hb hd]
    exact .leaf rfl
  · obtain rfl := hx.bool
    obtain rfl := hy.bool
    obtain ⟨h1, h2⟩ := pureV_some (ρ := ρ) h
    exact ⟨_, w, h1 w, h2, .inl rfl⟩
  · obtain rfl := hx.str
    obtain rfl := hy.str
    obtain ⟨h1, h2⟩ := pureV_some (ρ := ρ) h
    exact ⟨_, w, h1 w, h2, .inl rfl⟩
  · split at h
    · cases h
    · rename_i f hf
      cases hc : (isNilLit y && nilType P t x && nilType P t y) with
      | false => simp [hc] at h
      | true =>
        simp only [hc, cond_true] at h
        simp only [Bool.and_eq_true] at hc
        obtain ⟨b, hb, rfl⟩ := Option.map_eq_some_iff.1 h
        exact ⟨_, w, nilEq_does hf hx hy hc.1.1 hc.1.2 hc.2 hb, .leaf rfl, .inl rfl⟩

theorem un_does {op : UnOp} {x x' v : Value} (hx : VR ρ x x') (h : unX P op x = some v) : ∃ v', (Op.unary op x').run P w = .ok v' w ∧ VR ρ v v' := by
  have hw : (2 : Nat) ^ (FloatKind.f64.format.exponentBits + FloatKind.f64.format.fractionBits) = 9223372036854775808 := by decide
  unfold unX at h
  split at h
  · rename_i b
    obtain rfl := Option.some.inj h
    obtain ⟨b', rfl, hb⟩ := hx.flt
    refine ⟨.float .f64 (b' ^^^ 9223372036854775808), ?_, _, rfl, hb.neg⟩
    simp [Op.unary, Op.negFloat, hw]
  · rename_i a b
    obtain rfl := Option.some.inj h
    obtain ⟨a', b', rfl, ha, hb⟩ := hx.cpx
    refine ⟨.complex .f64 (a' ^^^ 9223372036854775808) (b' ^^^ 9223372036854775808), ?_, _, _, rfl, ha.neg, hb.neg⟩
    simp [Op.unary, Op.negFloat, hw]
  · obtain rfl := hx.int
    obtain ⟨h1, h2⟩ := pureV_some (ρ := ρ) h
    exact ⟨_, h1 w, h2⟩
  · obtain rfl := hx.bool
    obtain ⟨h1, h2⟩ := pureV_some (ρ := ρ) h
    exact ⟨_, h1 w, h2⟩
  · cases h

theorem conv_does {s d : TypeId} {x x' v : Value} (hx : VR ρ x x') (h : convX P s d x = some v) : ∃ v', (convert s d x').run P w = .ok v' w ∧ VR ρ v v' := by
  unfold convX at h
  split at h
  · obtain rfl := hx.int
    obtain ⟨h1, h2⟩ := pureV_some (ρ := ρ) h
    exact ⟨_, h1 w, h2⟩
  · obtain rfl := hx.str
    obtain ⟨h1, h2⟩ := pureV_some (ρ := ρ) h
    exact ⟨_, h1 w, h2⟩
  · rename_i b
    obtain ⟨b', rfl, hb⟩ := hx.flt
    split at h
    · rename_i d1 hs hd
      obtain rfl := Option.some.inj h
      refine ⟨.float .f64 b', ?_, _, rfl, hb⟩
      unfold convert
      simp only [Sem.run_bind, run_underlying hs, run_underlying hd, Result.andThen_ok]
      cases d1 <;> simp [Conv.floatToFloat]
    · rename_i d1 k hs hd
      cases hn : isNaN b with
      | true => simp [hn] at h
      | false =>
        simp only [hn, cond_false] at h
        obtain rfl := hb.eq hn
        obtain ⟨h1, h2⟩ := pureV_some (ρ := ρ) h
        exact ⟨_, h1 w, h2⟩
    · cases h
  · rename_i a b
    obtain ⟨a', b', rfl, ha, hb⟩ := hx.cpx
    split at h
    · rename_i d1 hs hd
      obtain rfl := Option.some.inj h
      refine ⟨.complex .f64 a' b', ?_, _, _, rfl, ha, hb⟩
      unfold convert
      simp only [Sem.run_bind, run_underlying hs, run_underlying hd, Result.andThen_ok]
      cases d1 <;> simp [Conv.complexToComplex, Conv.floatToFloat]
    · cases h
  · cases h

end Go.Clean
