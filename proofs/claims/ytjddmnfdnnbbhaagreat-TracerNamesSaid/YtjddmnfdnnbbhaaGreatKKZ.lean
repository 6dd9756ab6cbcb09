/- The clean executor: calls, and each operation. -/
import Derived.Test.YtjddmnfdnnbbhaaGreatKJZ
set_option linter.unusedSimpArgs false
set_option linter.unusedVariables false
set_option linter.unusedVariables false
set_option linter.unusedSimpArgs false
namespace Go.Clean
open Go Go.RowKit
variable {P : Program} {N : Nat} {ρ : Env} {m m' : Mem} {w : World}

/-- A caller is right: what it answers, the model's call answers. -/
def CallOK (P : Program) (call : Caller) : Prop := ∀ f args m v m', call f args m = some (v, m') → ∀ N ρ w cargs, Rel N ρ m.t.get w → VRs ρ args cargs → Fresh ρ m m' → Does P N ρ m m' w v (callFunc f ⟨cargs⟩)

theorem Does.then {s s2 : Sem Next} {v : Value} (h : s.run P w = s2.run P w) (hd : Does P N ρ m m' w v s2) : Does P N ρ m m' w v s := by
  intro o a K Q hK
  rw [h]
  exact hd o a K Q hK

theorem len_does {t ty : TypeId} {ts : Array TypeId} {x x' v : Value} (ht : ts[0]? = some t) (hx : VR ρ x x') (h : lenX P t x = some v) : ∃ v', (Builtin.len_ ts ty #[x']).run P w = .ok v' w ∧ VR ρ v v' := by
  unfold lenX at h
  split at h
  · rename_i e a n c hu
    obtain rfl := Option.some.inj h
    cases a with
    | none =>
      obtain rfl := hx
      exact ⟨_, by simp [Builtin.len_, ht, run_underlying hu, goInt], rfl⟩
    | some a =>
      rcases hx with ⟨p, c', _, _, rfl, _⟩ | ⟨_, rfl, _, a', rfl⟩
      · exact ⟨_, by simp [Builtin.len_, ht, run_underlying hu, goInt], rfl⟩
      · exact ⟨_, by simp [Builtin.len_, ht, run_underlying hu, goInt], rfl⟩
  · rename_i s hu
    obtain rfl := Option.some.inj h
    obtain rfl := hx.str
    exact ⟨_, by simp [Builtin.len_, ht, run_underlying hu, goInt], rfl⟩
  · rename_i n e hu
    obtain rfl := Option.some.inj h
    exact ⟨_, by simp [Builtin.len_, ht, run_underlying hu, goInt], rfl⟩
  · cases h

theorem cap_does {t ty : TypeId} {ts : Array TypeId} {x x' v : Value} (ht : ts[0]? = some t) (hx : VR ρ x x') (h : capX P t x m = some (v, m')) (hr : Rel N ρ m.t.get w) : ∃ v', (Builtin.cap_ ts ty #[x']).run P w = .ok v' w ∧ After N ρ m m' w v v' w ρ := by
  unfold capX at h
  obtain ⟨e, hu⟩ : ∃ e, P.underlying t = some (.slice e) := by
    cases hu : P.underlying t with
    | none => simp only [hu] at h; exact (fail_some h).elim
    | some d => cases d <;> first | exact ⟨_, rfl⟩ | (simp only [hu] at h; exact (fail_some h).elim)
  simp only [hu] at h
  cases x <;> first | exact (fail_some h).elim | skip
  rename_i a n c
  cases a with
  | none =>
    simp only at h
    obtain ⟨rfl, rfl⟩ := ret_some h
    obtain rfl := hx
    exact ⟨_, by simp [Builtin.cap_, ht, run_underlying hu, goInt], .same hr rfl rfl⟩
  | some a =>
    simp only at h
    obtain ⟨blk, m1, h1, h2⟩ := bind_some h
    obtain ⟨hb, rfl⟩ := getB_some h1
    obtain ⟨u, m2, h3, h4⟩ := bind_some h2
    obtain ⟨hg, rfl⟩ := guard_some h3
    obtain ⟨rfl, rfl⟩ := ret_some h4
    rcases hx with ⟨p, c', hp, _, rfl, _, _, hex, _⟩ | ⟨_, _, rfl, a', rfl⟩
    rotate_left
    · exact ⟨_, by simp [Builtin.cap_, ht, run_underlying hu, goInt], .same hr rfl rfl⟩
    obtain ⟨q, q1, _, q3, _⟩ := hr.blk _ _ hb
    rw [hp] at q1
    obtain rfl := Option.some.inj q1
    have hpe : p.exact = true := by
      have : blk.grow = false := by simpa using hg
      rw [this] at q3
      simpa using q3.symm
    obtain rfl := hex hpe
    exact ⟨_, by simp [Builtin.cap_, ht, run_underlying hu, goInt], .same hr rfl rfl⟩

theorem max_does {ty : TypeId} {ts : Array TypeId} {a b a' b' : Nat} (ha : FR a a') (hb : FR b b') {v : Value} (h : (match Ieee.double.order a b with
      | some .lt => Value.float .f64 b
      | some .gt => Value.float .f64 a
      | some .eq => Value.float .f64 (bif (Ieee.double.read a).neg then b else a)
      | none => Value.float .f64 noNum) = v) : ∃ v' w', (Builtin.max_ ts ty #[.float .f64 a', .float .f64 b']).run P w = .ok v' w' ∧ VR ρ v v' ∧ (w' = w ∨ w' = w.drew) := by
  have e : FloatKind.f64.format = Ieee.double := rfl
  have ho := order_FR ha hb
  simp only [Builtin.max_, List.foldlM, Builtin.max2]
  cases hc : Ieee.double.order a b with
  | none =>
    rw [hc] at h ho
    simp only at h
    subst h
    refine ⟨.float .f64 (Question.cut (.nanMinMax .f64 true a' b') (w.tape w.drawn (.nanMinMax .f64 true a' b'))), w.drew, ?_, .fltNaN (cut_nanMax _ _ _ _), .inr rfl⟩
    simp [e, ho, Question.forced]
  | some c =>
    have hne : isNaN a = false ∧ isNaN b = false := by
      constructor
      · cases hn : isNaN a with
        | false => rfl
        | true =>
          have : Ieee.double.order a b = none := by simp [Ieee.Format.order, order_nan_left (show (Ieee.double.read a).isNaN = true from hn)]
          rw [this] at hc; cases hc
      · cases hn : isNaN b with
        | false => rfl
        | true =>
          have : Ieee.double.order a b = none := by simp [Ieee.Format.order, order_nan_right (show (Ieee.double.read b).isNaN = true from hn)]
          rw [this] at hc; cases hc
    obtain rfl := ha.eq hne.1
    obtain rfl := hb.eq hne.2
    rw [hc] at h
    cases c with
    | lt => simp only at h; subst h; exact ⟨_, w, by simp [e, hc], .leaf rfl, .inl rfl⟩
    | gt => simp only at h; subst h; exact ⟨_, w, by simp [e, hc], .leaf rfl, .inl rfl⟩
    | eq =>
      simp only at h; subst h
      refine ⟨.float .f64 (bif (Ieee.double.read a').neg then b' else a'), w, ?_, .leaf rfl, .inl rfl⟩
      have e2 : FloatKind.f64.decode a' = Ieee.double.read a' := rfl
      simp only [e, hc, e2]
      cases (Ieee.double.read a').neg <;> rfl

theorem funX_some {v : Value} {f : FuncId} {a b : List Value} (h : funX v = some (f, a, b)) : v = .func (.func f) ⟨a⟩ ⟨b⟩ := by
  unfold funX at h
  split at h
  · simp only [Option.some.injEq, Prod.mk.injEq] at h
    obtain ⟨rfl, rfl, rfl⟩ := h
    rfl
  · cases h

theorem After.either {v v' : Value} {w' : World} (hr : Rel N ρ m.t.get w) (ht : m'.t = m.t) (hv : VR ρ v v') (h : w' = w ∨ w' = w.drew) : After N ρ m m' w v v' w' ρ := by
  rcases h with rfl | rfl
  · exact .same hr ht hv
  · exact .drew hr ht hv

theorem iface_does {t : TypeId} {x x' v : Value} (hx : VR ρ x x') (h : ifaceX P t x = some v) : ∃ v', (Instr.makeInterface t x').run P w = .ok v' w ∧ VR ρ v v' := by
  unfold ifaceX at h
  split at h
  · cases h
  · rename_i d hd hu
    obtain rfl := Option.some.inj h
    refine ⟨.iface t x', ?_, x', rfl, hx⟩
    unfold Instr.makeInterface
    rw [Sem.run_bind, run_underlying hu]
    simp only [Result.andThen_ok]
    cases d with
    | interface m => exact absurd rfl (hd m)
    | _ => rfl
  · cases h

theorem assert_does {xt t : TypeId} {ok : Bool} {x x' v : Value} (hx : VR ρ x x') (h : assertX P x t ok = some v) : ∃ v', (Instr.typeAssert x' xt t ok).run P w = .ok v' w ∧ VR ρ v v' := by
  unfold assertX at h
  split at h
  · cases h
  · rename_i d hd hu
    have hz : ∀ v, ok = true → ((zeroT P t).map fun z => Value.tuple ⟨[z, .bool false]⟩) = some v → ∃ v', (do let z ← zeroValue t; pure (Value.tuple #[z, .bool false]) : Sem Value).run P w = .ok v' w ∧ VR ρ v v' := fun v _ hv => by
      obtain ⟨z, hz, rfl⟩ := Option.map_eq_some_iff.1 hv
      obtain ⟨h1, h2⟩ := zeroT_run (w := w) hz
      refine ⟨_, by rw [Sem.run_bind, h1]; rfl, [z, .bool false], rfl, .cons (.plain h2) (.cons (.leaf rfl) .nil)⟩
    cases x with
    | iface u y =>
      obtain ⟨y', rfl, hy⟩ := hx
      simp only at h
      cases hut : u == t with
      | true =>
        obtain rfl := eq_of_beq hut
        simp only [beq_self_eq_true, cond_true] at h
        refine ⟨if ok then .tuple #[y', .bool true] else y', ?_, ?_⟩
        · unfold Instr.typeAssert
          rw [Sem.run_bind, run_underlying hu]
          simp only [Result.andThen_ok]
          cases d with
          | interface m => exact absurd rfl (hd m)
          | _ => simp only [if_true]; rfl
        · obtain rfl := Option.some.inj h
          cases ok with
          | true => exact ⟨_, rfl, .cons hy (.cons (.leaf rfl) .nil)⟩
          | false => exact hy
      | false =>
        have hne : ¬ u = t := fun hh => by rw [hh] at hut; simp at hut
        simp only [hut, cond_false] at h
        cases ok with
        | false => cases h
        | true =>
          simp only [cond_true] at h
          obtain ⟨v', e1, e2⟩ := hz v rfl h
          refine ⟨v', ?_, e2⟩
          unfold Instr.typeAssert
          rw [Sem.run_bind, run_underlying hu]
          simp only [Result.andThen_ok]
          cases d with
          | interface m => exact absurd rfl (hd m)
          | _ => simp only [hne, if_false, if_true]; exact e1
    | nilIface =>
      obtain rfl : x' = .nilIface := hx
      simp only at h
      cases ok with
      | false => cases h
      | true =>
        simp only [cond_true] at h
        obtain ⟨v', e1, e2⟩ := hz v rfl h
        refine ⟨v', ?_, e2⟩
        unfold Instr.typeAssert
        rw [Sem.run_bind, run_underlying hu]
        simp only [Result.andThen_ok]
        cases d with
        | interface m => exact absurd rfl (hd m)
        | _ => simp only [if_true]; exact e1
    | _ => cases h
  · cases h

/-- The function behind a method. -/
theorem method_run {t : TypeId} {name : String} {f : FuncId} (h : methodX P t name = some f) (x : Value) (args : Array Value) : (callMethod (.iface t x) name args).run P w = (callFunc f (#[x] ++ args)).run P w := by
  unfold methodX at h
  cases hi : P.info? t with
  | none => simp [hi] at h
  | some i =>
    simp only [hi] at h
    cases hm : i.methods.find? (·.name == name) with
    | none => simp [hm] at h
    | some mm =>
      simp only [hm] at h
      split at h
      · rename_i f' ptr hp hf
        have key : (receiverAt t (.val x) ptr (if mm.path.isEmpty then some ((name.splitOn ".").getLastD name) else none)).run P w = .ok x w ∧ f' = f := by
          cases hu : P.underlying t with
          | none => simp [hu] at h
          | some d =>
            simp only [hu] at h
            unfold receiverAt
            rw [Sem.run_bind, run_underlying hu]
            simp only [Result.andThen_ok]
            cases d <;> cases ptr <;> simp at h <;> exact ⟨rfl, h⟩
        obtain ⟨k1, rfl⟩ := key
        obtain ⟨n, hn⟩ : ∃ n, P.types.size + Made.depth = n + 1 := ⟨P.types.size + Made.depth - 1, by have : 0 < Made.depth := by decide
                                                                                                      omega⟩
        have hmeth : (method (P.types.size + Made.depth) t x name).run P w = .ok (f', x) w := by
          rw [hn]
          unfold method
          have hfol : (follow mm.path.toList t (.val x)).run P w = .ok (t, .val x) w := by rw [hp]; rfl
          have hti : (typeInfo t).run P w = .ok i w := by simp [typeInfo, hi]
          rw [Sem.run_bind, hti]
          simp only [Result.andThen_ok, hm, Sem.run_bind, hfol, hf, k1]
          rfl
        simp only [callMethod, Sem.run_bind, run_program, Result.andThen_ok, hmeth]
      · cases h

theorem call_does {call : Caller} (hcall : CallOK P call) {fr : Fr} {a : Act} (hfr : FrR ρ fr a) {c : Call} {ty : TypeId} {v : Value} (h : callX P call fr c m = some (v, m')) (hr : Rel N ρ m.t.get w) (hf : Fresh ρ m m') :
    Does P N ρ m m' w v (do let d ← resolve a.eval c ty; invoke d.target d.args) := by
  have hargs : ∀ vs, evs fr c.args.toList = some vs → VRs ρ vs (c.args.map a.eval).toList := fun vs hv => by
    rw [Array.toList_map]; exact evs_rel hfr hv
  unfold callX at h
  cases hc : c.callee with
  | invoke r name =>
    simp only [hc] at h
    cases hg : ev fr r with
    | none => simp only [hg] at h; exact (fail_some h).elim
    | some u =>
      cases hvs : evs fr c.args.toList with
      | none => simp only [hg, hvs] at h; cases u <;> exact (fail_some h).elim
      | some vs =>
        cases u <;> first | (simp only [hg, hvs] at h; exact (fail_some h).elim) | skip
        rename_i t x
        simp only [hg, hvs] at h
        cases hm : methodX P t name with
        | none => simp only [hm] at h; exact (fail_some h).elim
        | some f =>
          simp only [hm] at h
          obtain ⟨x', he, hx⟩ := ev_rel hfr hg
          refine Does.then (s2 := callFunc f ⟨x' :: (c.args.map a.eval).toList⟩) ?_ (hcall f _ m v m' h N ρ w _ hr (.cons hx (hargs vs hvs)) hf)
          simp only [resolve, hc, Sem.run_bind, he, Sem.run_pure, Result.andThen_ok, invoke]
          have e1 : (#[Value.iface t x'] ++ c.args.map a.eval)[0]? = some (.iface t x') := by rw [Array.getElem?_append_left (by show 0 < 1; decide)]; rfl
          have e2 : (#[Value.iface t x'] ++ c.args.map a.eval).extract 1 (#[Value.iface t x'] ++ c.args.map a.eval).size = c.args.map a.eval := by
            apply Array.ext'; simp
            rw [List.take_of_length_le (by simp)]
          simp only [e1, e2]
          rw [method_run hm]
          congr 2
          apply Array.ext'
          simp
  | value g =>
    have key : ∀ (f : FuncId) (first cap vs : List Value), funX ((ev fr g).getD undef) = some (f, first, cap) → ev fr g ≠ none → evs fr c.args.toList = some vs → call f (first ++ vs ++ cap) m = some (v, m') →
        Does P N ρ m m' w v (do let d ← resolve a.eval c ty; invoke d.target d.args) := by
      intro f first cap vs hfun hne hvs hcl
      cases hg : ev fr g with
      | none => exact absurd hg hne
      | some u =>
        rw [hg] at hfun
        obtain rfl := funX_some hfun
        obtain ⟨first', cap', he, h1, h2⟩ := (ev_rel hfr hg).fun'
        refine Does.then (s2 := callFunc f ⟨first' ++ (c.args.map a.eval).toList ++ cap'⟩) ?_ (hcall f _ m v m' hcl N ρ w _ hr ((h1.append (hargs vs hvs)).append h2) hf)
        simp only [resolve, hc, Sem.run_bind, he, Deferred.ofValue, Sem.run_pure, Result.andThen_ok, invoke]
        congr 2
        apply Array.ext'
        simp
    cases g with
    | func f =>
      simp only [hc] at h
      cases hvs : evs fr c.args.toList with
      | none => simp only [hvs] at h; exact (fail_some h).elim
      | some vs =>
        simp only [hvs] at h
        exact key f [] [] vs rfl (by simp [ev]) hvs (by simpa using h)
    | tmp t =>
      simp only [hc] at h
      cases hg : ev fr (.tmp t) with
      | none => simp only [hg] at h; exact (fail_some h).elim
      | some u =>
        cases hvs : evs fr c.args.toList with
        | none => simp only [hg, hvs] at h; exact (fail_some h).elim
        | some vs =>
          simp only [hg, hvs] at h
          cases hfun : funX u with
          | none => simp only [hfun] at h; exact (fail_some h).elim
          | some q =>
            obtain ⟨f, first, cap⟩ := q
            simp only [hfun] at h
            exact key f first cap vs (by rw [hg]; exact hfun) (by rw [hg]; simp) hvs h
    | const t =>
      simp only [hc] at h
      cases hg : ev fr (.const t) with
      | none => simp only [hg] at h; exact (fail_some h).elim
      | some u =>
        cases hvs : evs fr c.args.toList with
        | none => simp only [hg, hvs] at h; exact (fail_some h).elim
        | some vs =>
          simp only [hg, hvs] at h
          cases hfun : funX u with
          | none => simp only [hfun] at h; exact (fail_some h).elim
          | some q =>
            obtain ⟨f, first, cap⟩ := q
            simp only [hfun] at h
            exact key f first cap vs (by rw [hg]; exact hfun) (by rw [hg]; simp) hvs h
    | global t =>
      simp only [hc, ev] at h
      exact (fail_some h).elim
  | builtin b =>
    simp only [hc] at h
    cases hvs : evs fr c.args.toList with
    | none => simp only [hvs] at h; exact (fail_some h).elim
    | some vs =>
      simp only [hvs] at h
      have hva := hargs vs hvs
      refine Does.then (s2 := builtin b c.argTypes ty (c.args.map fun | .const _ => true | _ => false) ⟨(c.args.map a.eval).toList⟩) (by simp only [resolve, hc, Sem.run_bind, Sem.run_pure, Result.andThen_ok, invoke]; rfl) ?_
      generalize (c.args.map a.eval).toList = cargs at hva
      generalize (c.args.map fun | .const _ => true | _ => false) = consts
      have hty : c.argTypes = ⟨c.argTypes.toList⟩ := rfl
      generalize c.argTypes.toList = ts at h hty
      rw [hty]
      split at h
      · -- append of zeros
        rename_i k n t u
        obtain ⟨s', r1, rfl, hs, hv2⟩ := hva.inv
        obtain ⟨x', r2, rfl, hx, hv3⟩ := hv2.inv
        obtain rfl := hv3.inv0
        obtain rfl := hx.int
        obtain rfl : s' = .slice none 0 0 := hs
        obtain ⟨v', w', ρ', e1, e2⟩ := zeros_does (ty := ty) (k := k) h hr hf
        exact Does.of e1 e2
      · -- append
        rename_i s x t u
        obtain ⟨s', r1, rfl, hs, hv2⟩ := hva.inv
        obtain ⟨x', r2, rfl, hx, hv3⟩ := hv2.inv
        obtain rfl := hv3.inv0
        obtain ⟨v', w', ρ', e1, e2⟩ := append_does (ty := ty) hs hx h hr hf
        exact Does.of e1 e2
      · -- len
        rename_i x t l
        obtain ⟨x', r1, rfl, hx, hv2⟩ := hva.inv
        obtain rfl := hv2.inv0
        obtain ⟨ho, rfl⟩ := lift_some h
        obtain ⟨v', e1, e2⟩ := len_does (P := P) (w := w) (ty := ty) (ts := ⟨t :: l⟩) rfl hx ho
        exact Does.of e1 (.same hr rfl e2)
      · -- copy
        rename_i d s t l
        obtain ⟨d', r1, rfl, hd, hv2⟩ := hva.inv
        obtain ⟨s', r2, rfl, hs, hv3⟩ := hv2.inv
        obtain rfl := hv3.inv0
        obtain ⟨v', w', e1, e2⟩ := copy_does (ty := ty) (ts := ⟨t :: l⟩) rfl hd hs h hr
        exact Does.of e1 e2
      · -- cap
        rename_i x t l
        obtain ⟨x', r1, rfl, hx, hv2⟩ := hva.inv
        obtain rfl := hv2.inv0
        obtain ⟨v', e1, e2⟩ := cap_does (ty := ty) (ts := ⟨t :: l⟩) rfl hx h hr
        exact Does.of e1 e2
      · -- real
        obtain ⟨x', r1, rfl, hx, hv2⟩ := hva.inv
        obtain rfl := hv2.inv0
        obtain ⟨re', im', rfl, h1, h2⟩ := hx.cpx
        obtain ⟨rfl, rfl⟩ := ret_some h
        exact Does.of (s := Builtin.real_ _ _ _) rfl (.same hr rfl ⟨_, rfl, h1⟩)
      · -- imag
        obtain ⟨x', r1, rfl, hx, hv2⟩ := hva.inv
        obtain rfl := hv2.inv0
        obtain ⟨re', im', rfl, h1, h2⟩ := hx.cpx
        obtain ⟨rfl, rfl⟩ := ret_some h
        exact Does.of (s := Builtin.imag_ _ _ _) rfl (.same hr rfl ⟨_, rfl, h2⟩)
      · -- complex
        obtain ⟨x', r1, rfl, hx, hv2⟩ := hva.inv
        obtain ⟨y', r2, rfl, hy, hv3⟩ := hv2.inv
        obtain rfl := hv3.inv0
        obtain ⟨re', rfl, h1⟩ := hx.flt
        obtain ⟨im', rfl, h2⟩ := hy.flt
        obtain ⟨rfl, rfl⟩ := ret_some h
        exact Does.of (s := Builtin.complex_ _ _ _) rfl (.same hr rfl ⟨_, _, rfl, h1, h2⟩)
      · -- max of integers
        rename_i _ k x k2 y
        obtain ⟨x', r1, rfl, hx, hv2⟩ := hva.inv
        obtain ⟨y', r2, rfl, hy, hv3⟩ := hv2.inv
        obtain rfl := hv3.inv0
        obtain rfl := hx.int
        obtain rfl := hy.int
        obtain ⟨rfl, rfl⟩ := ret_some h
        refine Does.of (s := Builtin.max_ _ _ _) (v' := .int k (if y > x then y else x)) rfl (.same hr rfl ?_)
        by_cases hxy : y > x
        · simp only [hxy, decide_true, cond_true, if_true]; exact .leaf rfl
        · simp only [hxy, decide_false, cond_false, if_false]; exact .leaf rfl
      · -- min of integers
        rename_i _ k x k2 y
        obtain ⟨x', r1, rfl, hx, hv2⟩ := hva.inv
        obtain ⟨y', r2, rfl, hy, hv3⟩ := hv2.inv
        obtain rfl := hv3.inv0
        obtain rfl := hx.int
        obtain rfl := hy.int
        obtain ⟨rfl, rfl⟩ := ret_some h
        refine Does.of (s := Builtin.min_ _ _ _) (v' := .int k (if y < x then y else x)) rfl (.same hr rfl ?_)
        by_cases hxy : y < x
        · simp only [hxy, decide_true, cond_true, if_true]; exact .leaf rfl
        · simp only [hxy, decide_false, cond_false, if_false]; exact .leaf rfl
      · -- max of floats
        rename_i _ x y
        obtain ⟨x', r1, rfl, hx, hv2⟩ := hva.inv
        obtain ⟨y', r2, rfl, hy, hv3⟩ := hv2.inv
        obtain rfl := hv3.inv0
        obtain ⟨x', rfl, h1⟩ := hx.flt
        obtain ⟨y', rfl, h2⟩ := hy.flt
        have h3 : (match Ieee.double.order x y with
            | some .lt => Value.float .f64 y
            | some .gt => Value.float .f64 x
            | some .eq => Value.float .f64 (bif (Ieee.double.read x).neg then y else x)
            | none => Value.float .f64 noNum) = v ∧ m = m' := by
          cases ho : Ieee.double.order x y with
          | none => simp only [ho] at h; exact ret_some h
          | some q => cases q <;> (simp only [ho] at h; exact ret_some h)
        obtain ⟨v', w', e1, e2, e3⟩ := max_does (P := P) (ρ := ρ) (w := w) (ty := ty) (ts := ⟨ts⟩) h1 h2 h3.1
        exact Does.of e1 (.either hr (by rw [h3.2]) e2 e3)
      · exact (fail_some h).elim

end Go.Clean
