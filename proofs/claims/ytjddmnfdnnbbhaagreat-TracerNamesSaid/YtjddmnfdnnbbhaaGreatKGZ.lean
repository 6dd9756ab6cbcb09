/- The clean executor: reckoning. -/
import Derived.Test.YtjddmnfdnnbbhaaGreatKFZ
set_option linter.unusedSimpArgs false
set_option linter.unusedVariables false
set_option linter.unusedVariables false
set_option linter.unusedSimpArgs false
namespace Go.Clean
open Go Go.RowKit Ieee
variable {P : Program} {N : Nat} {ρ : Env} {m m' : Mem} {w : World}

theorem pureV_some {s : Sem Value} {v : Value} (h : pureV P s = some v) : (∀ w, s.run P w = .ok v w) ∧ VR ρ v v := by
  unfold pureV at h
  split at h
  · rename_i u hu
    cases hl : leafV u with
    | false => simp [hl] at h
    | true =>
      simp only [hl, cond_true, Option.some.injEq] at h
      subst h
      exact ⟨pureRun_run _ hu, .leaf hl⟩
  · cases h

theorem guard_int (op : BinOp) (t : TypeId) (xo yo : Operand) (k k' : IntKind) (a b : Int) : (eqGuard op t xo yo (.int k a) (.int k' b)).run P w = .ok () w := by
  cases op <;> rfl
theorem guard_float (op : BinOp) (t : TypeId) (xo yo : Operand) (k k' : FloatKind) (a b : Nat) : (eqGuard op t xo yo (.float k a) (.float k' b)).run P w = .ok () w := by
  cases op <;> rfl
theorem guard_complex (op : BinOp) (t : TypeId) (xo yo : Operand) (k k' : FloatKind) (a b c d : Nat) : (eqGuard op t xo yo (.complex k a b) (.complex k' c d)).run P w = .ok () w := by
  cases op <;> rfl
theorem guard_pointer (op : BinOp) (t : TypeId) (xo yo : Operand) (a b : Option Addr) : (eqGuard op t xo yo (.pointer a) (.pointer b)).run P w = .ok () w := by
  cases op <;> rfl
theorem guard_slice (op : BinOp) (t : TypeId) (xo yo : Operand) (a b : Option Addr) (n c n' c' : Nat) : (eqGuard op t xo yo (.slice a n c) (.slice b n' c')).run P w = .ok () w := by
  cases op <;> rfl
theorem guard_func (op : BinOp) (t : TypeId) (xo yo : Operand) (x : Value) : (eqGuard op t xo yo x .nilFunc).run P w = .ok () w := by
  cases op <;> cases x <;> rfl

theorem bin_then {op : BinOp} {t : TypeId} {xo yo : Operand} {x y : Value} {r : Result Value} (hg : (eqGuard op t xo yo x y).run P w = .ok () w) (h : (binOp op t x y).run P w = r) :
    (do eqGuard op t xo yo x y; binOp op t x y).run P w = r := by
  rw [Sem.run_bind, hg]; exact h

theorem intX_does {op : BinOp} {t : TypeId} {k : IntKind} {a b : Int} {v : Value} (h : intX op k a b = some v) : (binOp op t (.int k a) (.int k b)).run P w = .ok v w ∧ VR ρ v v := by
  unfold intX at h
  split at h <;> first | (cases h; done) | skip
  all_goals
    obtain rfl := Option.some.inj h
    refine ⟨?_, .leaf rfl⟩
    simp [binOp, Op.intArith, Op.intCmp]
  all_goals first | rfl | (congr; done) | skip
  all_goals (congr 2)

theorem cmpX_does {op : BinOp} {t : TypeId} {a b : Nat} {c : Bool} (ha : isArith op = false) (h : cmpX op (double.order a b) = some c) : (binOp op t (.float .f64 a) (.float .f64 b)).run P w = .ok (.bool c) w := by
  unfold cmpX at h
  split at h <;> first | (cases h; done) | skip
  all_goals
    obtain rfl := Option.some.inj h
    rfl

theorem arith_does {op : BinOp} {t : TypeId} {a b : Nat} (ha : isArith op = true) : (binOp op t (.float .f64 a) (.float .f64 b)).run P w = match floatX op a b with
    | some r => .ok (.float .f64 r) w
    | none => .ok (.float .f64 (Question.cut (.nanBits .f64 a b) (w.tape w.drawn (.nanBits .f64 a b)))) w.drew := by
  have key : (binOp op t (.float .f64 a) (.float .f64 b)) = Op.floatArith op .f64 a b := by cases op <;> first | rfl | (simp [isArith] at ha)
  rw [key]
  have e : FloatKind.f64.format = double := rfl
  cases op <;> first | (simp [isArith] at ha; done) | skip
  all_goals
    cases hr : floatX _ a b with
    | some r =>
      have hr' := hr
      simp only [floatX] at hr'
      simp [Op.floatArith, e, hr']
    | none =>
      have hr' := hr
      simp only [floatX] at hr'
      simp [Op.floatArith, e, hr', Question.forced]

theorem complexEq_does {op : BinOp} {t : TypeId} {f : Bool → Bool} {a b c d : Nat} (h : eqlX op = some f) : (binOp op t (.complex .f64 a b) (.complex .f64 c d)).run P w = .ok (.bool (f (double.order a c == some .eq && double.order b d == some .eq))) w := by
  unfold eqlX at h
  split at h <;> first | (cases h; done) | skip
  all_goals
    obtain rfl := Option.some.inj h
    rfl

theorem complexSum_does {op : BinOp} {t : TypeId} {a b c d r s : Nat} (h : isSum op = true) (h1 : floatX op a c = some r) (h2 : floatX op b d = some s) : (binOp op t (.complex .f64 a b) (.complex .f64 c d)).run P w = .ok (.complex .f64 r s) w := by
  have e : FloatKind.f64.format = double := rfl
  have key : (binOp op t (.complex .f64 a b) (.complex .f64 c d)) = (do pure (.complex .f64 (← Op.Complex.arith op .f64 a c) (← Op.Complex.arith op .f64 b d)) : Sem Value) := by
    cases op <;> first | rfl | (simp [isSum] at h)
  have ha : ∀ x y z : Nat, floatX op x y = some z → (Op.Complex.arith op .f64 x y).run P w = .ok z w := fun x y z hz => by
    unfold Op.Complex.arith
    have : (Op.floatArith op .f64 x y).run P w = .ok (.float .f64 z) w := by
      cases op <;> first | (simp [isSum] at h; done) | skip
      all_goals
        simp only [floatX] at hz
        simp [Op.floatArith, e, hz]
    rw [Sem.run_bind, this]
    rfl
  rw [key]
  simp [ha _ _ _ h1, ha _ _ _ h2]

theorem eq_ptr {t e : TypeId} (hu : P.underlying t = some (.pointer e)) (a : Option Addr) (d : Nat) : (Op.equalIn (d + 1) t (.pointer a) (.pointer none)).run P w = .ok a.isNone w := by
  unfold Op.equalIn
  rw [Sem.run_bind, run_underlying hu]
  cases a <;> rfl
theorem eq_slice {t e : TypeId} (hu : P.underlying t = some (.slice e)) (a : Option Addr) (n c n' c' d : Nat) : (Op.equalIn (d + 1) t (.slice a n c) (.slice none n' c')).run P w = .ok a.isNone w := by
  unfold Op.equalIn
  rw [Sem.run_bind, run_underlying hu]
  cases a <;> rfl
theorem eq_nilFunc {t : TypeId} {ps rs : Array TypeId} {vr : Bool} (hu : P.underlying t = some (.func ps rs vr)) (d : Nat) : (Op.equalIn (d + 1) t .nilFunc .nilFunc).run P w = .ok true w := by
  unfold Op.equalIn
  rw [Sem.run_bind, run_underlying hu]
  rfl
theorem eq_func {t : TypeId} {ps rs : Array TypeId} {vr : Bool} (hu : P.underlying t = some (.func ps rs vr)) (g : Fn) (u v : Array Value) (d : Nat) : (Op.equalIn (d + 1) t (.func g u v) .nilFunc).run P w = .ok false w := by
  unfold Op.equalIn
  rw [Sem.run_bind, run_underlying hu]
  rfl
theorem eq_then {op : BinOp} {t : TypeId} {f : Bool → Bool} {x y : Value} {b : Bool} (h : eqlX op = some f) (h1 : binOp .eql t x y = (do pure (.bool (← Op.equal t x y)))) (h2 : binOp .neq t x y = (do pure (.bool (!(← Op.equal t x y)))))
    (he : ∀ d, (Op.equalIn (d + 1) t x y).run P w = .ok b w) : (binOp op t x y).run P w = .ok (.bool (f b)) w := by
  have he' : (Op.equal t x y).run P w = .ok b w := he 9999
  unfold eqlX at h
  split at h <;> first | (cases h; done) | skip
  · obtain rfl := Option.some.inj h
    rw [h1, Sem.run_bind, he']; rfl
  · obtain rfl := Option.some.inj h
    rw [h2, Sem.run_bind, he']; rfl
theorem nil_ptr {op : BinOp} {t e : TypeId} {f : Bool → Bool} {xo yo : Operand} (h : eqlX op = some f) (hu : P.underlying t = some (.pointer e)) (a : Option Addr) :
    (do eqGuard op t xo yo (.pointer a) (.pointer none); binOp op t (.pointer a) (.pointer none)).run P w = .ok (.bool (f a.isNone)) w :=
  bin_then (guard_pointer _ _ _ _ _ _) (eq_then h rfl rfl (eq_ptr hu a))
theorem nil_slice {op : BinOp} {t e : TypeId} {f : Bool → Bool} {xo yo : Operand} (h : eqlX op = some f) (hu : P.underlying t = some (.slice e)) (a : Option Addr) (n c n' c' : Nat) :
    (do eqGuard op t xo yo (.slice a n c) (.slice none n' c'); binOp op t (.slice a n c) (.slice none n' c')).run P w = .ok (.bool (f a.isNone)) w :=
  bin_then (guard_slice _ _ _ _ _ _ _ _ _ _) (eq_then h rfl rfl (eq_slice hu a n c n' c'))
theorem nil_func {op : BinOp} {t : TypeId} {f : Bool → Bool} {xo yo : Operand} {ps rs : Array TypeId} {vr : Bool} (h : eqlX op = some f) (hu : P.underlying t = some (.func ps rs vr)) (x : Value) (b : Bool)
    (hx : (x = .nilFunc ∧ b = true) ∨ (∃ g u v, x = .func g u v) ∧ b = false) :
    (do eqGuard op t xo yo x .nilFunc; binOp op t x .nilFunc).run P w = .ok (.bool (f b)) w := by
  refine bin_then (guard_func _ _ _ _ _) ?_
  rcases hx with ⟨rfl, rfl⟩ | ⟨⟨g, u, v, rfl⟩, rfl⟩
  · exact eq_then h rfl rfl (eq_nilFunc hu)
  · exact eq_then h rfl rfl (eq_func hu g u v)

theorem nilEq_does {op : BinOp} {t : TypeId} {f : Bool → Bool} {xo yo : Operand} {x x' y y' : Value} {b : Bool} (h : eqlX op = some f) (hx : VR ρ x x') (hy : VR ρ y y') (hn : isNilLit y = true) (tx : nilType P t x = true) (ty : nilType P t y = true) (hb : isNil x = some b) :
    (do eqGuard op t xo yo x' y'; binOp op t x' y').run P w = .ok (.bool (f b)) w := by
  unfold nilType at tx
  split at tx <;> first | (cases tx; done) | skip
  · rename_i e a hu
    cases y with
    | pointer q =>
      cases q with
      | some q => simp [isNilLit] at hn
      | none =>
        obtain rfl : y' = .pointer none := hy
        cases a with
        | none =>
          obtain rfl : x' = .pointer none := hx
          obtain rfl : true = b := by simpa [isNil] using hb
          exact nil_ptr h hu none
        | some a =>
          obtain ⟨p, _, _, rfl⟩ := hx
          obtain rfl : false = b := by simpa [isNil] using hb
          exact nil_ptr h hu _
    | _ => simp [nilType, hu] at ty
  · rename_i e a n c hu
    cases y with
    | slice q n' c' =>
      cases q with
      | some q => simp [isNilLit] at hn
      | none =>
        obtain rfl : y' = .slice none n' c' := hy
        cases a with
        | none =>
          obtain rfl : x' = .slice none n c := hx
          obtain rfl : true = b := by simpa [isNil] using hb
          exact nil_slice h hu none _ _ _ _
        | some a =>
          obtain rfl : false = b := by simpa [isNil] using hb
          rcases hx with ⟨p, c1, _, _, rfl, _⟩ | ⟨_, _, _, a', rfl⟩
          · exact nil_slice h hu _ _ _ _ _
          · exact nil_slice h hu _ _ _ _ _
    | _ => simp [nilType, hu] at ty
  · rename_i ps rs vr hu
    cases y with
    | nilFunc =>
      obtain rfl : y' = .nilFunc := hy
      obtain rfl : x' = .nilFunc := hx
      obtain rfl : true = b := by simpa [isNil] using hb
      exact nil_func h hu _ _ (.inl ⟨rfl, rfl⟩)
    | func _ _ _ => simp [isNilLit] at hn
    | _ => simp [nilType, hu] at ty
  · rename_i ps rs vr g u v hu
    cases y with
    | nilFunc =>
      obtain rfl : y' = .nilFunc := hy
      obtain ⟨u⟩ := u
      obtain ⟨v⟩ := v
      obtain ⟨a', b', rfl, _⟩ := hx
      obtain rfl : false = b := by simpa [isNil] using hb
      exact nil_func h hu _ _ (.inr ⟨⟨_, _, _, rfl⟩, rfl⟩)
    | func _ _ _ => simp [isNilLit] at hn
    | _ => simp [nilType, hu] at ty

theorem VR.fltNaN {b : Nat} (h : isNaN b = true) : VR ρ (.float .f64 noNum) (.float .f64 b) := ⟨b, rfl, .nan noNum_nan h⟩

theorem sure_eq {v v' : Value} (hs : sureV v = true) (h : VR ρ v v') : v' = v := by
  cases v with
  | bool b => exact h.bool
  | int k n => exact h.int
  | float k x =>
    obtain ⟨y, rfl, hf⟩ : ∃ y, v' = .float k y ∧ FR x y := by unfold VR at h; exact h
    rw [hf.eq (by simpa [sureV] using hs)]
  | complex k x y =>
    obtain ⟨x', y', rfl, hx, hy⟩ : ∃ x' y', v' = .complex k x' y' ∧ FR x x' ∧ FR y y' := by unfold VR at h; exact h
    simp only [sureV, Bool.and_eq_true] at hs
    rw [hx.eq (by simpa using hs.1), hy.eq (by simpa using hs.2)]
  | _ => cases hs
theorem sures_eq : ∀ {l l' : List Value}, l.all sureV = true → VRs ρ l l' → l' = l
  | [], l', _, h => h
  | v :: l, l', hs, h => by
    obtain ⟨v', l2, rfl, h1, h2⟩ := h
    simp only [List.all_cons, Bool.and_eq_true] at hs
    rw [sure_eq hs.1 h1, sures_eq hs.2 h2]
theorem sure_agg {a : Array Value} {v' : Value} (hs : a.toList.all sureV = true) (h : VR ρ (.agg a) v') : v' = .agg a := by
  obtain ⟨l⟩ := a
  obtain ⟨l', rfl, h1⟩ : ∃ l', v' = .agg ⟨l'⟩ ∧ VRs ρ l l' := by unfold VR at h; exact h
  rw [sures_eq hs h1]
theorem bin_does {op : BinOp} {t : TypeId} {xo yo : Operand} {x x' y y' v : Value} (hx : VR ρ x x') (hy : VR ρ y y') (h : binX P op t xo yo x y = some v) :
    ∃ v' w', (do eqGuard op t xo yo x' y'; binOp op t x' y').run P w = .ok v' w' ∧ VR ρ v v' ∧ (w' = w ∨ w' = w.drew) := by
  unfold binX at h
  split at h
  · rename_i k a k' b
    obtain rfl := hx.int
    obtain rfl := hy.int
    by_cases hk : k = k'
    · subst hk
      simp only [decide_true, cond_true] at h
      split at h
      · rename_i u hu
        obtain rfl := Option.some.inj h
        obtain ⟨h1, h2⟩ := intX_does (P := P) (ρ := ρ) (w := w) (t := t) hu
        exact ⟨_, w, bin_then (guard_int _ _ _ _ _ _ _ _) h1, h2, .inl rfl⟩
      · obtain ⟨h1, h2⟩ := pureV_some (ρ := ρ) h
        exact ⟨_, w, bin_then (guard_int _ _ _ _ _ _ _ _) (h1 w), h2, .inl rfl⟩
    · simp only [hk, decide_false, cond_false] at h
      obtain ⟨h1, h2⟩ := pureV_some (ρ := ρ) h
      exact ⟨_, w, bin_then (guard_int _ _ _ _ _ _ _ _) (h1 w), h2, .inl rfl⟩
  · rename_i a b
    obtain ⟨a', rfl, ha⟩ := hx.flt
    obtain ⟨b', rfl, hb⟩ := hy.flt
    cases hop : isArith op with
    | true =>
      simp only [hop, cond_true] at h
      have hr := arith_does (P := P) (w := w) (t := t) (a := a') (b := b') hop
      rw [floatX_FR ha hb] at hr
      split at h
      · rename_i r hfr
        obtain rfl := Option.some.inj h
        rw [hfr] at hr
        exact ⟨_, w, bin_then (guard_float _ _ _ _ _ _ _ _) hr, .leaf rfl, .inl rfl⟩
      · rename_i hfr
        obtain rfl := Option.some.inj h
        rw [hfr] at hr
        exact ⟨_, _, bin_then (guard_float _ _ _ _ _ _ _ _) hr, .fltNaN (cut_nan _ _ _), .inr rfl⟩
    | false =>
      simp only [hop, cond_false] at h
      obtain ⟨c, hc, rfl⟩ := Option.map_eq_some_iff.1 h
      rw [← order_FR ha hb] at hc
      exact ⟨_, w, bin_then (guard_float _ _ _ _ _ _ _ _) (cmpX_does hop hc), .leaf rfl, .inl rfl⟩
  · rename_i a b c d
    obtain ⟨a', b', rfl, ha, hb⟩ := hx.cpx
    obtain ⟨c', d', rfl, hc, hd⟩ := hy.cpx
    cases hs : isSum op with
    | true =>
      simp only [hs, cond_true] at h
      split at h
      · rename_i r s h1 h2
        obtain rfl := Option.some.inj h
        rw [← floatX_FR ha hc] at h1
        rw [← floatX_FR hb hd] at h2
        exact ⟨_, w, bin_then (guard_complex _ _ _ _ _ _ _ _ _ _) (complexSum_does hs h1 h2), .leaf rfl, .inl rfl⟩
      · cases h
    | false =>
      simp only [hs, cond_false] at h
      obtain ⟨f, hf, rfl⟩ := Option.map_eq_some_iff.1 h
      refine ⟨_, w, bin_then (guard_complex _ _ _ _ _ _ _ _ _ _) (complexEq_does hf), ?_, .inl rfl⟩
      rw [order_FR ha hc, order_FR hb hd]
      exact .leaf rfl
  · obtain rfl := hx.bool
    obtain rfl := hy.bool
    obtain ⟨h1, h2⟩ := pureV_some (ρ := ρ) h
    exact ⟨_, w, h1 w, h2, .inl rfl⟩
  · obtain rfl := hx.str
    obtain rfl := hy.str
    obtain ⟨h1, h2⟩ := pureV_some (ρ := ρ) h
    exact ⟨_, w, h1 w, h2, .inl rfl⟩
  · rename_i a b
    cases hs : (a.toList.all sureV && b.toList.all sureV) with
    | false => rw [hs] at h; cases h
    | true =>
      rw [hs] at h
      simp only [Bool.and_eq_true] at hs
      obtain rfl := sure_agg hs.1 hx
      obtain rfl := sure_agg hs.2 hy
      obtain ⟨h1, h2⟩ := pureV_some (ρ := ρ) h
      exact ⟨_, w, h1 w, h2, .inl rfl⟩
  · split at h
    · cases h
    · rename_i f hf
      cases hc : (isNilLit y && nilType P t x && nilType P t y) with
      | false => simp [hc] at h
      | true =>
        simp only [hc, cond_true] at h
        simp only [Bool.and_eq_true] at hc
        obtain ⟨b, hb, rfl⟩ := Option.map_eq_some_iff.1 h
        exact ⟨_, w, nilEq_does hf hx hy hc.1.1 hc.1.2 hc.2 hb, .leaf rfl, .inl rfl⟩

theorem un_does {op : UnOp} {x x' v : Value} (hx : VR ρ x x') (h : unX P op x = some v) : ∃ v', (Op.unary op x').run P w = .ok v' w ∧ VR ρ v v' := by
  have hw : (2 : Nat) ^ (FloatKind.f64.format.exponentBits + FloatKind.f64.format.fractionBits) = 9223372036854775808 := by decide
  unfold unX at h
  split at h
  · rename_i b
    obtain rfl := Option.some.inj h
    obtain ⟨b', rfl, hb⟩ := hx.flt
    refine ⟨.float .f64 (b' ^^^ 9223372036854775808), ?_, _, rfl, hb.neg⟩
    simp [Op.unary, Op.negFloat, hw]
  · rename_i a b
    obtain rfl := Option.some.inj h
    obtain ⟨a', b', rfl, ha, hb⟩ := hx.cpx
    refine ⟨.complex .f64 (a' ^^^ 9223372036854775808) (b' ^^^ 9223372036854775808), ?_, _, _, rfl, ha.neg, hb.neg⟩
    simp [Op.unary, Op.negFloat, hw]
  · obtain rfl := hx.int
    obtain ⟨h1, h2⟩ := pureV_some (ρ := ρ) h
    exact ⟨_, h1 w, h2⟩
  · obtain rfl := hx.bool
    obtain ⟨h1, h2⟩ := pureV_some (ρ := ρ) h
    exact ⟨_, h1 w, h2⟩
  · cases h

theorem conv_does {s d : TypeId} {x x' v : Value} (hx : VR ρ x x') (h : convX P s d x = some v) : ∃ v', (convert s d x').run P w = .ok v' w ∧ VR ρ v v' := by
  unfold convX at h
  split at h
  · obtain rfl := hx.int
    obtain ⟨h1, h2⟩ := pureV_some (ρ := ρ) h
    exact ⟨_, h1 w, h2⟩
  · obtain rfl := hx.str
    obtain ⟨h1, h2⟩ := pureV_some (ρ := ρ) h
    exact ⟨_, h1 w, h2⟩
  · rename_i b
    obtain ⟨b', rfl, hb⟩ := hx.flt
    split at h
    · rename_i d1 hs hd
      obtain rfl := Option.some.inj h
      refine ⟨.float .f64 b', ?_, _, rfl, hb⟩
      unfold convert
      simp only [Sem.run_bind, run_underlying hs, run_underlying hd, Result.andThen_ok]
      cases d1 <;> simp [Conv.floatToFloat]
    · rename_i d1 k hs hd
      cases hn : isNaN b with
      | true => simp [hn] at h
      | false =>
        simp only [hn, cond_false] at h
        obtain rfl := hb.eq hn
        obtain ⟨h1, h2⟩ := pureV_some (ρ := ρ) h
        exact ⟨_, h1 w, h2⟩
    · cases h
  · rename_i a b
    obtain ⟨a', b', rfl, ha, hb⟩ := hx.cpx
    split at h
    · rename_i d1 hs hd
      obtain rfl := Option.some.inj h
      refine ⟨.complex .f64 a' b', ?_, _, _, rfl, ha, hb⟩
      unfold convert
      simp only [Sem.run_bind, run_underlying hs, run_underlying hd, Result.andThen_ok]
      cases d1 <;> simp [Conv.complexToComplex, Conv.floatToFloat]
    · cases h
  · cases h

end Go.Clean

/- The clean executor: making memory. -/
set_option linter.unusedVariables false
set_option linter.unusedSimpArgs false
namespace Go.Clean
open Go Go.RowKit
variable {P : Program} {N : Nat} {ρ : Env} {m m' : Mem} {w : World}

theorem cells_arr (v : Value) : v.cells = (cellsV v).toArray := by rw [cellsV_eq]

theorem newVar_run (t : TypeId) (v : Value) : (newVar t v).run P w = .ok ⟨w.heap.size, 0, none⟩ (w.alloc (.cells v.cells t (0, 0))) := by
  unfold newVar newRow
  rw [Sem.run_bind, run_newObj]; rfl
theorem newRow_run (t : TypeId) (c : Array Value) : (newRow t c).run P w = .ok ⟨w.heap.size, 0, none⟩ (w.alloc (.cells c t (0, 0))) := by
  unfold newRow
  rw [Sem.run_bind, run_newObj]; rfl

/-- A new variable of one's own. -/
theorem box_does {e : TypeId} {v v' : Value} {sz : Nat} {b : Nat} (hv : VR ρ v v') (h : newX (cellsV v) sz false m = some (b, m')) (hr : Rel N ρ m.t.get w) (hf : Fresh ρ m m') :
    ∃ ρ', After N ρ m m' w (.pointer (some ⟨b, 0, none⟩)) (.pointer (some ⟨w.heap.size, 0, none⟩)) (w.alloc (.cells v'.cells e (0, 0))) ρ' := by
  obtain ⟨ho, rfl, hn, hg⟩ := newX_some h
  refine ⟨_, After.new hr ho rfl hn hg hf hv.cells [] e ?_ (below_push hr.base _) ⟨_, Env.put_same _ _ _, rfl, rfl⟩⟩
  rw [List.append_nil, ← cells_arr]; rfl

theorem repeatL_length (z : List Value) : ∀ n, (repeatL z n).length = n * z.length
  | 0 => by simp [repeatL]
  | n + 1 => by simp [repeatL, repeatL_length z n, Nat.add_mul, Nat.add_comm]
theorem repeatL_get (z : List Value) : ∀ n i, i < n * z.length → (repeatL z n)[i]? = z[i % z.length]?
  | 0, i, h => by simp at h
  | n + 1, i, h => by
    unfold repeatL
    by_cases hi : i < z.length
    · rw [List.getElem?_append_left hi, Nat.mod_eq_of_lt hi]
    · rw [List.getElem?_append_right (by omega), repeatL_get z n (i - z.length) (by rw [Nat.add_mul] at h; omega), ← Nat.mod_eq_sub_mod (by omega)]
theorem zeros_eq (z : Array Value) (n : Nat) (hz : 0 < z.size) : ((Array.range (n * z.size)).map fun i => z[i % z.size]!) = (repeatL z.toList n).toArray := by
  apply Array.ext'
  simp only [Array.toList_map, Array.toList_range]
  apply List.ext_getElem?
  intro i
  by_cases hi : i < n * z.size
  · rw [List.getElem?_map, List.getElem?_range hi, repeatL_get _ _ _ (by simpa using hi)]
    have hm : i % z.size < z.size := Nat.mod_lt _ hz
    simp [hm]
  · rw [List.getElem?_eq_none (by simpa using hi), List.getElem?_eq_none (by rw [repeatL_length]; simpa using hi)]
theorem repeatL_plain {z : List Value} (h : VRs ρ z z) : ∀ n, VRs ρ (repeatL z n) (repeatL z n)
  | 0 => .nil
  | n + 1 => h.append (repeatL_plain h n)

/-- What 'fill' lays. -/
theorem foldl_lay (off : Nat) : ∀ (vs : List Value) (k : Nat) (cs : Array Value), ∀ j, ((vs.zipIdx k).foldl (fun cs (p : Value × Nat) => cs.setIfInBounds (off + p.2) p.1) cs)[j]? =
    if off + k ≤ j ∧ j < off + k + vs.length ∧ j < cs.size then vs[j - (off + k)]? else cs[j]?
  | [], k, cs, j => by simp only [List.zipIdx_nil, List.foldl_nil, List.length_nil]; rw [if_neg (by omega)]
  | v :: vs, k, cs, j => by
    simp only [List.zipIdx_cons, List.foldl_cons]
    rw [foldl_lay off vs (k + 1)]
    simp only [Array.size_setIfInBounds, Array.getElem?_setIfInBounds, List.length_cons]
    by_cases h1 : off + (k + 1) ≤ j ∧ j < off + (k + 1) + vs.length ∧ j < cs.size
    · rw [if_pos h1, if_pos (by omega), show j - (off + k) = (j - (off + (k + 1))) + 1 by omega, List.getElem?_cons_succ]
    · rw [if_neg h1]
      by_cases h2 : off + k = j
      · by_cases h3 : j < cs.size
        · rw [if_pos h2, if_pos (by omega), if_pos (by omega), ← h2]; simp
        · rw [if_pos h2, if_neg (by omega), if_neg (by omega), Array.getElem?_eq_none (by omega)]
      · rw [if_neg h2, if_neg (by omega)]

theorem VRs.lay : ∀ {cs cs' : List Value} {o : Nat} {vs vs' l : List Value}, VRs ρ cs cs' → VRs ρ vs vs' → lay cs o vs = some l → ∃ l', Clean.lay cs' o vs' = some l' ∧ VRs ρ l l'
  | [], cs', o, [], vs', l, hc, hv, h => by
    rw [hc.inv0, hv.inv0]
    obtain rfl : [] = l := by simpa [Clean.lay] using h
    exact ⟨[], by simp [Clean.lay], .nil⟩
  | c :: cs, cs', o, [], vs', l, hc, hv, h => by
    rw [hv.inv0]
    obtain ⟨c', r', rfl, _⟩ := hc.inv
    obtain rfl : c :: cs = l := by simpa [Clean.lay] using h
    exact ⟨_, by simp [Clean.lay], hc⟩
  | [], cs', o, v :: vs, vs', l, hc, hv, h => by simp [Clean.lay] at h
  | c :: cs, cs', 0, v :: vs, vs', l, hc, hv, h => by
    obtain ⟨c', r', rfl, h1, h2⟩ := hc.inv
    obtain ⟨v', s', rfl, h3, h4⟩ := hv.inv
    simp only [Clean.lay, Option.map_eq_some_iff] at h
    obtain ⟨q, hq, rfl⟩ := h
    obtain ⟨q', hq', hh⟩ := VRs.lay h2 h4 hq
    exact ⟨v' :: q', by simp [Clean.lay, hq'], .cons h3 hh⟩
  | c :: cs, cs', o + 1, v :: vs, vs', l, hc, hv, h => by
    obtain ⟨c', r', rfl, h1, h2⟩ := hc.inv
    obtain ⟨v', s', rfl, h3, h4⟩ := hv.inv
    simp only [Clean.lay, Option.map_eq_some_iff] at h
    obtain ⟨q, hq, rfl⟩ := h
    obtain ⟨q', hq', hh⟩ := VRs.lay h2 (.cons h3 h4) hq
    exact ⟨c' :: q', by simp [Clean.lay, hq'], .cons h1 hh⟩

theorem fold_lay (off : Nat) (vs : Array Value) (cs l : List Value) (h : lay cs off vs.toList = some l) : (vs.zipIdx.foldl (fun (cs : Array Value) (p : Value × Nat) => cs.setIfInBounds (off + p.2) p.1) (⟨cs⟩ : Array Value)) = ⟨l⟩ := by
  obtain ⟨l1, l2, l3⟩ := lay_spec _ _ _ _ h
  rw [← Array.foldl_toList, Array.toList_zipIdx]
  apply Array.ext'
  apply List.ext_getElem?
  intro j
  have := foldl_lay off vs.toList 0 ⟨cs⟩ j
  rw [Array.getElem?_toList, this, l3]
  simp only [Nat.add_zero]
  have hsz : (Array.mk cs).size = cs.length := rfl
  have hg : (Array.mk cs)[j]? = cs[j]? := by rw [← Array.getElem?_toList]
  rw [hsz, hg]
  by_cases h1 : off ≤ j ∧ j < off + vs.toList.length
  · rw [if_pos h1]
    by_cases h2 : j < cs.length
    · rw [if_pos ⟨h1.1, h1.2, h2⟩]
    · rcases l2 with l2 | l2
      · rw [l2] at h1; simp at h1; omega
      · omega
  · rw [if_neg h1, if_neg (by omega)]

theorem fill_does {place : Nat → Option (Nat × Nat)} : ∀ {ps : List (Nat × Value)} {ps' : List (Nat × Value)} {cs cs' r : List Value}, ps'.map (·.1) = ps.map (·.1) → VRs ρ (ps.map (·.2)) (ps'.map (·.2)) → VRs ρ cs cs' →
    fillX place cs ps = some r → ∃ r', Instr.fill place ⟨cs'⟩ ps' = some ⟨r'⟩ ∧ VRs ρ r r'
  | [], ps', cs, cs', r, h1, h2, hc, h => by
    have : ps' = [] := by simpa using h1
    subst this
    obtain rfl : cs = r := by simpa [fillX] using h
    exact ⟨cs', rfl, hc⟩
  | (i, v) :: ps, ps', cs, cs', r, h1, h2, hc, h => by
    cases ps' with
    | nil => simp at h1
    | cons q ps' =>
      obtain ⟨i', v'⟩ := q
      simp only [List.map_cons, List.cons.injEq] at h1
      obtain ⟨rfl, h1⟩ := h1
      simp only [List.map_cons] at h2
      obtain ⟨v2, vs2, heq, hv, h2⟩ := h2.inv
      simp only [List.cons.injEq] at heq
      obtain ⟨rfl, rfl⟩ := heq
      unfold fillX at h
      unfold Instr.fill
      split at h
      · cases h
      · rename_i off size hp
        rw [hp]
        cases hs : ((cellsV v).length == size && Nat.blt 0 size) with
        | false => simp [hs] at h
        | true =>
          simp only [hs, cond_true, layK_eq] at h
          simp only [Bool.and_eq_true, beq_iff_eq, Nat.blt_eq] at hs
          cases hl : lay cs off (cellsV v) with
          | none => simp [hl] at h
          | some l =>
            simp only [hl] at h
            obtain ⟨l1, l2, l3⟩ := lay_spec _ _ _ _ hl
            have hvl := hv.cells.length
            have hlen : v'.cells.size = size := by
              rw [cellsV_eq v', Array.length_toList] at hvl
              omega
            have hcl := hc.length
            have hfit : off + size ≤ cs.length := by
              rcases l2 with l2 | l2
              · rw [l2] at hs; simp at hs; omega
              · omega
            have hfit' : ¬ (size ≠ size ∨ off + size > cs'.length) := by omega
            obtain ⟨l', hl', hll⟩ := hc.lay hv.cells hl
            rw [cellsV_eq v'] at hl'
            have hfold := fold_lay off v'.cells cs' l' hl'
            obtain ⟨r', hr1, hr2⟩ := fill_does h1 h2 hll h
            refine ⟨r', ?_, hr2⟩
            simp only [hlen, List.size_toArray]
            rw [if_neg (by simpa using hfit')]
            rw [hfold]
            exact hr1

theorem parts_rel {fr : Fr} {a : Act} (h : FrR ρ fr a) : ∀ {l : List (Nat × Operand)} {vs : List (Nat × Value)}, parts fr l = some vs →
    (l.map fun p => (p.1, a.eval p.2)).map (·.1) = vs.map (·.1) ∧ VRs ρ (vs.map (·.2)) ((l.map fun p => (p.1, a.eval p.2)).map (·.2))
  | [], vs, he => by obtain rfl : [] = vs := by simpa [parts] using he
                     exact ⟨rfl, .nil⟩
  | (i, x) :: l, vs, he => by
    unfold parts at he
    split at he
    · cases he
    · rename_i v hv
      split at he
      · cases he
      · rename_i us hus
        obtain rfl : (i, v) :: us = vs := by simpa using he
        obtain ⟨h1, h2⟩ := parts_rel h hus
        exact ⟨by simp only [List.map_cons, h1], .cons (ev_rel h hv) h2⟩

theorem places_run : ∀ {l : List Field} {ps : List (Nat × Nat)}, placesX P l = some ps → (l.mapM (m := Sem) fun f => do pure (f.offset, ← sizeOf f.type)).run P w = .ok ps w
  | [], ps, h => by obtain rfl : [] = ps := by simpa [placesX] using h
                    rfl
  | f :: l, ps, h => by
    unfold placesX at h
    split at h
    · rename_i n q hn hq
      obtain rfl := Option.some.inj h
      rw [List.mapM_cons]
      simp only [Sem.run_bind, sizeT_run hn, Result.andThen_ok, Sem.run_pure, places_run hq]
    · cases h

theorem VR.cellsA {v v' : Value} (h : VR ρ v v') : VRs ρ (cellsV v) v'.cells.toList := by rw [← cellsV_eq]; exact h.cells
theorem arr_eta (c : Array Value) : c = ⟨c.toList⟩ := rfl

theorem build_does {t : TypeId} {ps : List (Nat × Value)} {ps' : Array (Nat × Value)} {v : Value} (h1 : ps'.toList.map (·.1) = ps.map (·.1)) (h2 : VRs ρ (ps.map (·.2)) (ps'.toList.map (·.2))) (h : buildX P t ps = some v) :
    ∃ v', (Instr.build t ps').run P w = .ok v' w ∧ VR ρ v v' := by
  unfold buildX at h
  split at h
  · cases h
  · rename_i z hz
    obtain ⟨hz1, hz2⟩ := zeroT_run (w := w) hz
    have hzc := (VR.plain (ρ := ρ) hz2).cellsA
    unfold Instr.build
    split at h
    · rename_i fields hu
      split at h
      · rename_i l hl
        obtain ⟨c, hc, rfl⟩ := Option.map_eq_some_iff.1 h
        obtain ⟨r', hr1, hr2⟩ := fill_does (place := (l[·]?)) h1 h2 hzc hc
        refine ⟨.agg ⟨r'⟩, ?_, r', rfl, hr2⟩
        have hm : (fields.mapM (m := Sem) fun f => do pure (f.offset, ← sizeOf f.type)).run P w = .ok l.toArray w := by
          rw [Array.mapM_eq_mapM_toList, Sem.run_map, places_run hl]; rfl
        rw [← arr_eta] at hr1
        have hfun : (fun (x : Nat) => l.toArray[x]?) = (fun (x : Nat) => l[x]?) := by funext x; simp
        simp only [Sem.run_bind, hz1, Result.andThen_ok, run_underlying hu, hm, hfun, hr1, Sem.run_pure]
      · cases h
    · rename_i k e hu
      split at h
      · rename_i n hn
        obtain ⟨c, hc, rfl⟩ := Option.map_eq_some_iff.1 h
        obtain ⟨r', hr1, hr2⟩ := fill_does h1 h2 hzc hc
        refine ⟨.agg ⟨r'⟩, ?_, r', rfl, hr2⟩
        rw [← arr_eta] at hr1
        simp only [Sem.run_bind, hz1, Result.andThen_ok, run_underlying hu, sizeT_run hn, hr1, Sem.run_pure]
      · cases h
    · cases h

theorem zeros_rel {e : TypeId} {z : Value} {n k : Nat} (hz : plainV z = true) (hk : k = (cellsV z).length) (hp : 0 < k) : VRs ρ (repeatL (cellsV z) n) ((Array.range (n * k)).map fun i => z.cells[i % z.cells.size]!).toList := by
  have hs : z.cells.size = k := by rw [cells_arr, hk]; rfl
  have := zeros_eq z.cells n (by omega)
  rw [hs] at this
  rw [hs, this, ← cellsV_eq]
  have := (VR.plain (ρ := ρ) hz).cells
  exact repeatL_plain this n

theorem buildSlice_does {t : TypeId} {len : Nat} {ps : List (Nat × Value)} {ps' : Array (Nat × Value)} {v : Value} (h1 : ps'.toList.map (·.1) = ps.map (·.1)) (h2 : VRs ρ (ps.map (·.2)) (ps'.toList.map (·.2)))
    (h : buildSliceX P t len ps m = some (v, m')) (hr : Rel N ρ m.t.get w) (hf : Fresh ρ m m') : ∃ v' w' ρ', (Instr.buildSlice t len ps').run P w = .ok v' w' ∧ After N ρ m m' w v v' w' ρ' := by
  unfold buildSliceX at h
  obtain ⟨e, hu⟩ : ∃ e, P.underlying t = some (.slice e) := by
    cases hu : P.underlying t with
    | none => simp only [hu] at h; exact (fail_some h).elim
    | some d => cases d <;> first | exact ⟨_, rfl⟩ | (simp only [hu] at h; exact (fail_some h).elim)
  simp only [hu] at h
  cases hn : sizeT P e with
  | none => simp only [hn] at h; exact (fail_some h).elim
  | some n =>
    cases hz : zeroT P e with
    | none => simp only [hn, hz] at h; exact (fail_some h).elim
    | some z =>
      simp only [hn, hz] at h
      obtain ⟨u, m1, h3, h4⟩ := bind_some h
      obtain ⟨hg, rfl⟩ := guard_some h3
      simp only [Bool.and_eq_true, beq_iff_eq, Nat.blt_eq, Nat.ble_eq] at hg
      obtain ⟨⟨hg1, hg2⟩, hg3⟩ := hg
      obtain ⟨hz1, hz2⟩ := zeroT_run (w := w) hz
      cases hc : fillX (fun i => some (i * n, n)) (repeatL (cellsV z) len) ps with
      | none => simp only [hc] at h4; exact (fail_some h4).elim
      | some c =>
        simp only [hc] at h4
        obtain ⟨b, m2, h5, h6⟩ := bind_some h4
        obtain ⟨rfl, rfl⟩ := ret_some h6
        obtain ⟨r', hr1, hr2⟩ := fill_does h1 h2 (zeros_rel (ρ := ρ) (e := e) (n := len) hz2 hg1 hg3) hc
        rw [← arr_eta] at hr1
        obtain ⟨ho, rfl, hnx, hget⟩ := newX_some h5
        have hlen : c.length = len * n := by
          have : ∀ {ps : List (Nat × Value)} {cs r : List Value}, fillX (fun i => some (i * n, n)) cs ps = some r → r.length = cs.length := by
            intro ps
            induction ps with
            | nil => intro cs r h; obtain rfl : cs = r := by simpa [fillX] using h
                     rfl
            | cons p ps ih =>
              intro cs r h
              unfold fillX at h
              simp only at h
              cases hb : ((cellsV p.2).length == n && Nat.blt 0 n) with
              | false => simp [hb] at h
              | true =>
                simp only [hb, cond_true, layK_eq] at h
                cases hl : lay cs (p.1 * n) (cellsV p.2) with
                | none => simp [hl] at h
                | some l =>
                  simp only [hl] at h
                  rw [ih h, (lay_spec _ _ _ _ hl).1]
          rw [this hc, repeatL_length, hg1]
        refine ⟨.slice (some ⟨w.heap.size, 0, none⟩) len len, w.alloc (.cells ⟨r'⟩ e (0, 0)), _, ?_, After.new hr ho rfl hnx hget hf hr2 [] e (by rw [List.append_nil]; rfl) (below_push hr.base _)
          (.inl ⟨_, len, Env.put_same _ _ _, rfl, rfl, Nat.le_refl _, Nat.le_refl _, fun _ => rfl, ?_⟩)⟩
        · unfold Instr.buildSlice
          by_cases h0 : len * n = 0
          · have hl0 : len = 0 := by
              rcases Nat.mul_eq_zero.1 h0 with h | h
              · exact h
              · omega
            subst hl0
            have hrr : ((Array.range (0 * n)).map fun i => z.cells[i % z.cells.size]!) = #[] := by simp
            have hrr2 : ((Array.range (0 * n)).map fun i => (#[] : Array Value)[i % (#[] : Array Value).size]!) = #[] := by simp
            rw [hrr] at hr1
            simp only [Sem.run_bind, run_underlying hu, Result.andThen_ok, sizeT_run hn, Nat.zero_mul, Nat.not_lt_zero, if_false, Sem.run_pure, if_true]
            simp only [Nat.zero_mul] at hrr2
            have hd : (Array.map (fun (_ : Nat) => (default : Value)) (Array.range 0)) = #[] := by simp
            simp [hd, hr1, newRow_run]
          · have hle : ¬ (len * n > 2 ^ 24) := by omega
            simp only [Sem.run_bind, run_underlying hu, Result.andThen_ok, sizeT_run hn, hle, if_false, Sem.run_pure, h0, hz1, hr1, newRow_run]
        · have := hr2.length
          simp only [List.length_nil, Nat.add_zero, Nat.zero_add]
          omega

end Go.Clean
