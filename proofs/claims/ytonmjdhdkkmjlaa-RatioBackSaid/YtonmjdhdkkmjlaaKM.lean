/- The clean executor: a region that draws its order. The text's run, and every other order, come to the same. -/
import Derived.Test.YtonmjdhdkkmjlaaKK
set_option linter.unusedVariables false
set_option linter.unusedSimpArgs false
namespace Go.Clean
open Go Go.RowKit
variable {P : Program} {N : Nat} {ρ : Env} {m m' : Mem} {w : World}

/-! ### An operation looks at its own slots alone -/
def slots (o : Oper) : List Nat := o.op.operands.toList.filterMap fun
  | .tmp t => some t
  | _ => none

theorem ev_congr {fr fr' : Fr} {l : List Operand} (h : ∀ t, Operand.tmp t ∈ l → fr.at t = fr'.at t) {x : Operand} (hx : x ∈ l) : ev fr x = ev fr' x := by
  cases x with
  | tmp t => simp only [ev]; rw [h t hx]
  | const _ => rfl
  | global _ => rfl
  | func _ => rfl
theorem evs_congr {fr fr' : Fr} : ∀ {l : List Operand}, (∀ x ∈ l, ev fr x = ev fr' x) → evs fr l = evs fr' l
  | [], _ => rfl
  | x :: l, h => by
    unfold evs
    rw [h x (by simp), evs_congr (l := l) fun y hy => h y (by simp [hy])]
theorem evO_congr {fr fr' : Fr} {x : Option Operand} (h : ∀ y ∈ x, ev fr y = ev fr' y) : evO fr x = evO fr' x := by
  cases x with
  | none => rfl
  | some y => simp only [evO]; rw [h y rfl]
theorem parts_congr {fr fr' : Fr} : ∀ {l : List (Nat × Operand)}, (∀ p ∈ l, ev fr p.2 = ev fr' p.2) → parts fr l = parts fr' l
  | [], _ => rfl
  | (i, x) :: l, h => by
    unfold parts
    rw [h (i, x) (by simp), parts_congr (l := l) fun y hy => h y (by simp [hy])]

theorem opX_congr {call : Caller} {fr fr' : Fr} {o : Oper} (h : ∀ x ∈ o.op.operands.toList, ev fr x = ev fr' x) : opX P call fr o = opX P call fr' o := by
  unfold opX
  cases hop : o.op with
  | call c =>
    simp only [hop, Op.operands, Call.operands] at h ⊢
    unfold callX
    cases hc : c.callee with
    | invoke r n =>
      have h1 : ev fr r = ev fr' r := h r (by simp [hc])
      have h2 : evs fr c.args.toList = evs fr' c.args.toList := evs_congr fun x hx => h x (by simp at hx ⊢; exact .inr hx)
      simp only [h1, h2]
    | value g =>
      have h1 : ev fr g = ev fr' g := h g (by simp [hc])
      have h2 : evs fr c.args.toList = evs fr' c.args.toList := evs_congr fun x hx => h x (by simp at hx ⊢; exact .inr hx)
      cases g <;> simp only [h1, h2]
    | builtin b =>
      have h2 : evs fr c.args.toList = evs fr' c.args.toList := evs_congr fun x hx => h x (by simp at hx ⊢; exact .inr hx)
      simp only [h2]
  | build t ps =>
    simp only [hop, Op.operands] at h ⊢
    rw [parts_congr fun p hp => h p.2 (by simp; exact ⟨p.1, by simpa using hp⟩)]
  | buildSlice t n ps =>
    simp only [hop, Op.operands] at h ⊢
    rw [parts_congr fun p hp => h p.2 (by simp; exact ⟨p.1, by simpa using hp⟩)]
  | makeFunc f first cap =>
    simp only [hop, Op.operands] at h ⊢
    have h1 : evs fr first.toList = evs fr' first.toList := evs_congr fun x hx => h x (by simp at hx ⊢; exact .inl hx)
    have h2 : evs fr cap.toList = evs fr' cap.toList := evs_congr fun x hx => h x (by simp at hx ⊢; exact .inr hx)
    cases f <;> simp only [h1, h2]
  | slice t x lo hi mx =>
    simp only [hop, Op.operands] at h ⊢
    have h0 : ev fr x = ev fr' x := h x (by simp)
    have h1 : evO fr lo = evO fr' lo := evO_congr fun y hy => h y (by simp at hy ⊢; exact .inr (.inl hy))
    have h2 : evO fr hi = evO fr' hi := evO_congr fun y hy => h y (by simp at hy ⊢; exact .inr (.inr (.inl hy)))
    have h3 : evO fr mx = evO fr' mx := evO_congr fun y hy => h y (by simp at hy ⊢; exact .inr (.inr (.inr hy)))
    simp only [h0, h1, h2, h3]
  | _ =>
    simp only [hop, Op.operands] at h
    first
      | rfl
      | (simp at h; simp only [h])

theorem opX_slots {call : Caller} {fr fr' : Fr} {o : Oper} (h : ∀ t ∈ slots o, fr.at t = fr'.at t) : opX P call fr o = opX P call fr' o := by
  refine opX_congr fun x hx => ev_congr (l := o.op.operands.toList) (fun t ht => h t ?_) hx
  unfold slots
  exact List.mem_filterMap.2 ⟨_, ht, rfl⟩

theorem want_congr {ops : Array Oper} {fr fr' : Fr} {o : Oper} (h : ∀ t ∈ reads ops o, fr.at t = fr'.at t) : wantX ops fr o = wantX ops fr' o := by
  unfold wantX
  cases hg : o.guard with
  | none => rfl
  | some q =>
    obtain ⟨j, b⟩ := q
    simp only
    unfold yieldX
    cases hp : ops.toList[j]? with
    | none => rfl
    | some p =>
      simp only
      cases hd : p.dst with
      | none => rfl
      | some d =>
        simp only
        rw [h d (by unfold reads; simp only [hg, hp, hd]; simp)]

/-- Which slot an operation writes, and what. -/
theorem put_at {fr fr' : Fr} {dst : Option Tmp} {v : Value} (h : fr.put dst v m = some (fr', m')) : m' = m ∧ (fr'.n = fr.n ∧ fr'.d = fr.d) ∧ ∀ t, fr'.at t = if dst = some t then v else fr.at t := by
  unfold Fr.put at h
  rw [putK_eq] at h
  cases dst with
  | none => simp at h; obtain ⟨rfl, rfl⟩ := h; exact ⟨rfl, ⟨rfl, rfl⟩, fun t => by simp⟩
  | some d =>
    simp only at h
    split at h
    · simp only [Option.some.injEq, Prod.mk.injEq] at h
      obtain ⟨rfl, rfl⟩ := h
      refine ⟨rfl, ⟨rfl, rfl⟩, fun t => ?_⟩
      by_cases ht : t = d
      · subst ht; rw [if_pos rfl]; simp [Fr.at, Trie.get_set_same _ _ _ _ (Nat.lt_succ_self t)]
      · rw [if_neg (fun e => ht (by simpa using e.symm))]; simp [Fr.at, Trie.get_set_ne _ _ _ _ _ ht]
    · cases h
theorem put_again {fr fr' fr2 : Fr} {dst : Option Tmp} {v : Value} (h : fr.put dst v m = some (fr', m')) (hn : fr2.n = fr.n) (m2 : Mem) : ∃ fr2', fr2.put dst v m2 = some (fr2', m2) := by
  unfold Fr.put at h ⊢
  rw [putK_eq] at h ⊢
  cases dst with
  | none => exact ⟨_, rfl⟩
  | some d =>
    simp only at h ⊢
    split at h
    · rename_i hd; rw [hn, if_pos hd]; exact ⟨_, rfl⟩
    · cases h

/-- The same operation from another frame and memory that agree where it looks. -/
theorem step_again {call : Caller} (hloc : LocalC call) {ops : Array Oper} {fr fr' fr2 : Fr} {o : Oper} (h : stepX P call ops fr o m = some (fr', m')) (hm : m.log = []) (hn : fr2.n = fr.n) (hfr : ∀ t ∈ reads ops o, fr2.at t = fr.at t) :
    ∀ m2 : Mem, m2.log = [] → m2.next = m.next → (∀ p ∈ m'.log, m2.t.get p.2 = m.t.get p.2) → ∃ fr2' m2', stepX P call ops fr2 o m2 = some (fr2', m2') ∧ m2'.log = m'.log ∧ m2'.next = m'.next ∧
      (∀ b, (true, b) ∈ m'.log → m2'.t.get b = m'.t.get b) ∧ (∀ b, (true, b) ∉ m'.log → m2'.t.get b = m2.t.get b) ∧ (fr2'.n = fr2.n ∧ fr2'.d = fr2.d) ∧ (∀ t, o.dst = some t → fr2'.at t = fr'.at t) ∧ ∀ t, o.dst ≠ some t → fr2'.at t = fr2.at t := by
  intro m2 hl2 hn2 hag
  unfold stepX at h ⊢
  rw [want_congr hfr]
  cases hw : wantX ops fr o with
  | true =>
    simp only [hw, cond_true] at h ⊢
    obtain ⟨v, m1, h1, h2⟩ := bind_some h
    obtain ⟨hm1, hnf, hat⟩ := put_at h2
    subst hm1
    rw [opX_slots (fr := fr2) (fr' := fr) fun t ht => hfr t (by unfold reads; exact List.mem_append_left _ ht)]
    obtain ⟨nl, hlog, hnx, hfrm, hk⟩ := Local.opX (P := P) hloc fr o m v m' h1
    rw [hm, List.append_nil] at hlog
    obtain ⟨m2', e1, e2, e3, e4, e5⟩ := hk m2 hn2 (by rw [← hlog]; exact hag)
    rw [hl2, List.append_nil] at e2
    obtain ⟨fr2', e6⟩ := put_again h2 hn m2'
    obtain ⟨_, hnf2, hat2⟩ := put_at e6
    refine ⟨fr2', m2', ?_, by rw [e2, hlog], e3, by rw [hlog]; exact e4, by rw [hlog]; exact e5, hnf2, fun t ht => ?_, fun t ht => ?_⟩
    · show M.bnd _ _ m2 = _
      unfold M.bnd
      simp only [e1]; exact e6
    · rw [hat2, hat, if_pos ht, if_pos ht]
    · rw [hat2, if_neg ht]
  | false =>
    simp only [hw, cond_false] at h ⊢
    obtain ⟨hm1, hnf, hat⟩ := put_at h
    subst hm1
    obtain ⟨fr2', e6⟩ := put_again h hn m2
    obtain ⟨_, hnf2, hat2⟩ := put_at e6
    refine ⟨fr2', m2, e6, by rw [hl2, hm], hn2, fun b hb => by rw [hm] at hb; simp at hb, fun _ _ => rfl, hnf2, fun t ht => ?_, fun t ht => ?_⟩
    · rw [hat2, hat, if_pos ht, if_pos ht]
    · rw [hat2, if_neg ht]

theorem step_frame {call : Caller} (hloc : LocalC call) {ops : Array Oper} {fr fr' : Fr} {o : Oper} (h : stepX P call ops fr o m = some (fr', m')) (hm : m.log = []) : (fr'.n = fr.n ∧ fr'.d = fr.d) ∧ (∀ t, o.dst ≠ some t → fr'.at t = fr.at t) ∧ ∀ b, (true, b) ∉ m'.log → m'.t.get b = m.t.get b := by
  obtain ⟨nl, hlog, hnx, hfrm, _⟩ := Local.stepX (P := P) hloc ops fr o m fr' m' h
  rw [hm, List.append_nil] at hlog
  refine ⟨?_, fun t ht => ?_, fun b hb => hfrm b (by rw [← hlog]; exact hb)⟩
  all_goals
    unfold stepX at h
    cases hw : wantX ops fr o with
    | true =>
      simp only [hw, cond_true] at h
      obtain ⟨v, m1, h1, h2⟩ := bind_some h
      obtain ⟨_, hnf, hat⟩ := put_at h2
      first | exact hnf | (rw [hat, if_neg ht])
    | false =>
      simp only [hw, cond_false] at h
      obtain ⟨_, hnf, hat⟩ := put_at h
      first | exact hnf | (rw [hat, if_neg ht])

/-! ### The plan -/
/-- Who has come ahead of whom, read off the bits. -/
structure Plan (ops : Array Oper) (as : List Nat) : Prop where
  down : ∀ (k : Nat) (o : Oper), ops[k]? = some o → ∀ e ∈ o.after, Region.binds .any e = true → e.on < k
  path : ∀ (k : Nat) (o : Oper) (x : Nat), ops[k]? = some o → as[k]? = some x → ∀ j, x.testBit j = true → ∃ e ∈ o.after, Region.binds .any e = true ∧ (e.on = j ∨ ∃ y, as[e.on]? = some y ∧ y.testBit j = true)
  len : as.length = ops.size
  pairs : ∀ (i k : Nat) (o p : Oper) (y : Nat), i < k → ops[i]? = some o → ops[k]? = some p → as[k]? = some y → y.testBit i = true ∨ apartT ops o p = true

theorem ancs_spec : ∀ (l : List Oper) (i : Nat) (acc as : List Nat), ancs l i acc = some as → acc.length = i → ∃ r, as = acc.reverse ++ r ∧ r.length = l.length ∧
    ∀ k o, l[k]? = some o → (∀ e ∈ o.after, Region.binds .any e = true → e.on < i + k) ∧ ∀ x, r[k]? = some x → ∀ j, x.testBit j = true → ∃ e ∈ o.after, Region.binds .any e = true ∧ (e.on = j ∨ ∃ y, as[e.on]? = some y ∧ y.testBit j = true)
  | [], i, acc, as, h, hl => by
    obtain rfl : acc.reverse = as := by simpa [ancs] using h
    exact ⟨[], by simp, rfl, fun k o ho => by simp at ho⟩
  | o :: l, i, acc, as, h, hl => by
    unfold ancs at h
    cases hc : (o.after.toList.all fun e => !Region.binds .any e || Nat.blt e.on i) with
    | false => simp [hc] at h
    | true =>
      simp only [hc, cond_true, natK_eq] at h
      have hdown : ∀ e ∈ o.after, Region.binds .any e = true → e.on < i := fun e he hb => by
        have := List.all_eq_true.1 hc e (by simpa using he)
        simpa [hb, Nat.blt_eq] using this
      generalize hx : (o.after.toList.foldl (fun s e => bif Region.binds .any e then s ||| 2 ^ e.on ||| (acc.getD (i - 1 - e.on) 0) else s) 0) = x at h
      obtain ⟨r, hr1, hr2, hr3⟩ := ancs_spec l (i + 1) (x :: acc) as h (by simp [hl])
      have hfold : ∀ (es : List Edge) (s0 : Nat), ∀ j, (es.foldl (fun s e => bif Region.binds .any e then s ||| 2 ^ e.on ||| (acc.getD (i - 1 - e.on) 0) else s) s0).testBit j = true →
          s0.testBit j = true ∨ ∃ e ∈ es, Region.binds .any e = true ∧ (e.on = j ∨ (acc.getD (i - 1 - e.on) 0).testBit j = true) := by
        intro es
        induction es with
        | nil => intro s0 j hj; exact .inl hj
        | cons e es ih =>
          intro s0 j hj
          simp only [List.foldl_cons] at hj
          rcases ih _ j hj with h1 | ⟨e', he', hb', h2⟩
          · cases hb : Region.binds .any e with
            | false => simp only [hb, cond_false] at h1; exact .inl h1
            | true =>
              simp only [hb, cond_true, Nat.testBit_or, Bool.or_eq_true, Nat.testBit_two_pow] at h1
              rcases h1 with (h1 | h1) | h1
              · exact .inl h1
              · exact .inr ⟨e, by simp, hb, .inl (by simpa using h1)⟩
              · exact .inr ⟨e, by simp, hb, .inr h1⟩
          · exact .inr ⟨e', by simp [he'], hb', h2⟩
      refine ⟨x :: r, by rw [hr1]; simp, by simp [hr2], fun k p hk => ?_⟩
      cases k with
      | zero =>
        obtain rfl : o = p := by simpa using hk
        refine ⟨fun e he hb => by simpa using hdown e he hb, fun y hy j hj => ?_⟩
        obtain rfl : x = y := by simpa using hy
        rw [← hx] at hj
        rcases hfold _ _ j hj with h1 | ⟨e, he, hb, h2⟩
        · simp at h1
        · refine ⟨e, by simpa using he, hb, ?_⟩
          rcases h2 with h2 | h2
          · exact .inl h2
          · right
            have hlt := hdown e (by simpa using he) hb
            have hlt2 : i - 1 - e.on < acc.length := by omega
            refine ⟨acc[i - 1 - e.on], ?_, ?_⟩
            · rw [hr1, List.getElem?_append_left (by simp; omega), List.getElem?_reverse (by simp; omega)]
              rw [show (x :: acc).length - 1 - e.on = (i - 1 - e.on) + 1 by simp; omega]
              rw [List.getElem?_cons_succ, List.getElem?_eq_getElem hlt2]
            · simpa [List.getD, List.getElem?_eq_getElem hlt2] using h2
      | succ k =>
        obtain ⟨h1, h2⟩ := hr3 k p (by simpa using hk)
        exact ⟨fun e he hb => by have := h1 e he hb; omega, fun y hy j hj => h2 y (by simpa using hy) j hj⟩

theorem pairs_spec {ops : Array Oper} : ∀ (l : List (Oper × Nat)) (i : Nat), pairsT ops l i = true → ∀ a b (o p : Oper) (x y : Nat), a < b → l[a]? = some (o, x) → l[b]? = some (p, y) → y.testBit (i + a) = true ∨ apartT ops o p = true
  | [], _, _, a, b, o, p, x, y, _, ha, _ => by simp at ha
  | (q, z) :: l, i, h, a, b, o, p, x, y, hab, ha, hb => by
    unfold pairsT at h
    simp only [Bool.and_eq_true] at h
    cases b with
    | zero => omega
    | succ b =>
      cases a with
      | zero =>
        obtain ⟨rfl, rfl⟩ : q = o ∧ z = x := by simpa using ha
        have hb' : l[b]? = some (p, y) := by simpa using hb
        have hm : ((p, y), b) ∈ l.zipIdx := by
          rw [List.mem_zipIdx_iff_getElem?]; exact hb'
        have := List.all_eq_true.1 h.1 _ hm
        simpa using this
      | succ a =>
        have := pairs_spec l (i + 1) h.2 a b o p x y (by omega) (by simpa using ha) (by simpa using hb)
        rwa [show i + (a + 1) = i + 1 + a by omega]

theorem plan_ok {ops : Array Oper} {as : List Nat} (h : planX ops = some as) : Plan ops as := by
  unfold planX at h
  cases ha : ancs ops.toList 0 [] with
  | none => simp [ha] at h
  | some as' =>
    simp only [ha] at h
    cases hp : pairsT ops (ops.toList.zip as') 0 with
    | false => simp [hp] at h
    | true =>
      simp only [hp, cond_true, Option.some.injEq] at h
      subst h
      obtain ⟨r, h1, h2, h3⟩ := ancs_spec _ 0 [] as' ha rfl
      simp only [List.reverse_nil, List.nil_append] at h1
      subst h1
      refine ⟨fun k o ho e he hb => ?_, fun k o x ho hx j hj => ?_, by simpa using h2, fun i k o p y hik ho hp' hy => ?_⟩
      · have := (h3 k o (by simpa using ho)).1 e he hb; omega
      · exact (h3 k o (by simpa using ho)).2 x hx j hj
      · obtain ⟨x, hx⟩ : ∃ x, as'[i]? = some x := by
          have hi := (Array.getElem?_eq_some_iff.1 ho).1
          exact ⟨as'[i]'(by rw [h2]; simpa using hi), List.getElem?_eq_getElem _⟩
        have := pairs_spec _ 0 hp i k o p x y hik (by rw [List.getElem?_zip_eq_some]; exact ⟨by simpa using ho, hx⟩) (by rw [List.getElem?_zip_eq_some]; exact ⟨by simpa using hp', hy⟩)
        simpa using this

end Go.Clean

/- The clean executor: a region in whatever order. -/
set_option linter.unusedVariables false
set_option linter.unusedSimpArgs false
namespace Go.Clean
open Go Go.RowKit
variable {P : Program} {N : Nat} {ρ : Env} {m m' : Mem} {w : World}

abbrev Log := List (Bool × Nat)
theorem logged_some {α : Type} {f : M α} {a : α} {log : Log} (h : M.logged f m = some ((a, log), m')) : f { m with log := [] } = some (a, { m' with log := log }) ∧ m'.log = log ++ m.log := by
  unfold M.logged at h
  cases hf : f { m with log := [] } with
  | none => simp [hf] at h
  | some p =>
    obtain ⟨b, m1⟩ := p
    simp only [hf, Option.some.injEq, Prod.mk.injEq] at h
    obtain ⟨⟨rfl, rfl⟩, rfl⟩ := h
    exact ⟨rfl, rfl⟩
theorem apartAll_spec {a : Nat} {log : Log} : ∀ {r : List (Nat × Log)}, apartAll a log r = true → ∀ p ∈ r, a.testBit p.1 = true ∨ apartL log p.2 = true
  | [], _, p, hp => by simp at hp
  | (j, l) :: r, h, p, hp => by
    unfold apartAll at h
    simp only [Bool.and_eq_true, Bool.or_eq_true] at h
    rcases List.mem_cons.1 hp with rfl | hp
    · exact h.1
    · exact apartAll_spec h.2 p hp
theorem apartL_spec {l l' : Log} (h : apartL l l' = true) {x y : Bool} {b : Nat} (h1 : (x, b) ∈ l) (h2 : (y, b) ∈ l') : x = false ∧ y = false := by
  unfold apartL at h
  have := List.all_eq_true.1 (List.all_eq_true.1 h _ h1) _ h2
  simpa using this

/-- The text's run, step by step. -/
structure Trace (P : Program) (call : Caller) (ops : Array Oper) (as : List Nat) (F : Nat → Fr) (M : Nat → Mem) (G : Nat → Log) : Prop where
  step : ∀ k o, ops[k]? = some o → stepX P call ops (F k) o { M k with log := [] } = some (F (k + 1), { M (k + 1) with log := G k })
  apart : ∀ i k y, i < k → k < ops.size → as[k]? = some y → y.testBit i = true ∨ apartL (G k) (G i) = true

theorem draw_trace {call : Caller} {ops : Array Oper} : ∀ (l : List Oper) (as : List Nat) (i : Nat) (logs : List (Nat × Log)) (fr fr' : Fr) (m m' : Mem), drawX P call ops l as i logs fr m = some (fr', m') →
    ∃ (F : Nat → Fr) (M : Nat → Mem) (G : Nat → Log), F i = fr ∧ M i = m ∧ F (i + l.length) = fr' ∧ M (i + l.length) = m' ∧
      (∀ k o, l[k]? = some o → stepX P call ops (F (i + k)) o { M (i + k) with log := [] } = some (F (i + k + 1), { M (i + k + 1) with log := G (i + k) })) ∧
      ∀ k y, as[k]? = some y → k < l.length → (∀ p ∈ logs, y.testBit p.1 = true ∨ apartL (G (i + k)) p.2 = true) ∧ ∀ j, j < k → y.testBit (i + j) = true ∨ apartL (G (i + k)) (G (i + j)) = true
  | [], as, i, logs, fr, fr', m, m', h => by
    have h' : M.ret fr m = some (fr', m') := by cases as <;> exact h
    obtain ⟨rfl, rfl⟩ := ret_some h'
    exact ⟨fun _ => fr, fun _ => m, fun _ => [], rfl, rfl, rfl, rfl, fun k o ho => by simp at ho, fun k y _ hk => by simp at hk⟩
  | o :: l, [], i, logs, fr, fr', m, m', h => (fail_some h).elim
  | o :: l, a :: as, i, logs, fr, fr', m, m', h => by
    obtain ⟨q, m1, h1, h2⟩ := bind_some h
    obtain ⟨fr1, log⟩ := q
    obtain ⟨u, m2, h3, h4⟩ := bind_some h2
    obtain ⟨hg, rfl⟩ := guard_some h3
    obtain ⟨e1, e2⟩ := logged_some h1
    obtain ⟨F, M, G, f1, f2, f3, f4, f5, f6⟩ := draw_trace l as (i + 1) ((i, log) :: logs) fr1 fr' m1 m' h4
    refine ⟨fun j => if j = i then fr else F j, fun j => if j = i then m else M j, fun j => if j = i then log else G j, if_pos rfl, if_pos rfl, ?_, ?_, fun k p hk => ?_, fun k y hy hk => ?_⟩
    · simp only [List.length_cons]; rw [if_neg (by omega), show i + (l.length + 1) = i + 1 + l.length by omega]; exact f3
    · simp only [List.length_cons]; rw [if_neg (by omega), show i + (l.length + 1) = i + 1 + l.length by omega]; exact f4
    · cases k with
      | zero =>
        obtain rfl : o = p := by simpa using hk
        simp only [Nat.add_zero, if_true]
        rw [if_neg (by omega), if_neg (by omega), f1, f2]
        exact e1
      | succ k =>
        have := f5 k p (by simpa using hk)
        simp only
        rw [if_neg (by omega), if_neg (by omega), if_neg (by omega), if_neg (by omega), if_neg (by omega), show i + (k + 1) = i + 1 + k by omega]
        exact this
    · cases k with
      | zero =>
        obtain rfl : a = y := by simpa using hy
        simp only [Nat.add_zero, if_true]
        exact ⟨apartAll_spec hg, fun j hj => by omega⟩
      | succ k =>
        obtain ⟨g1, g2⟩ := f6 k y (by simpa using hy) (by simpa using hk)
        simp only
        rw [if_neg (by omega), show i + (k + 1) = i + 1 + k by omega]
        refine ⟨fun p hp => g1 p (by simp [hp]), fun j hj => ?_⟩
        cases j with
        | zero => rw [Nat.add_zero, if_pos rfl]; exact g1 (i, log) (by simp)
        | succ j => rw [if_neg (by omega), show i + (j + 1) = i + 1 + j by omega]; exact g2 j (by omega)

/-- Where a region stands, some of its operations done. -/
structure Inv (N : Nat) (ops : Array Oper) (F : Nat → Fr) (M : Nat → Mem) (G : Nat → Log) (ρ0 : Env) (w0 : World) (listed : Array Bool) (a : Act) (w : World) (T : Fr) (X : Mem) (ρ : Env) : Prop where
  size : listed.size = ops.size
  closed : ∀ (k : Nat) (o : Oper), ops[k]? = some o → listed.getD k false = true → ∀ e ∈ o.after, Region.binds .any e = true → listed.getD e.on false = true
  rel : Rel N ρ X.t.get w
  frame : FrR ρ T a
  tn : T.n = (F 0).n
  td : T.d = (F 0).d
  log : X.log = []
  mem : ∀ b j, j ≤ ops.size → (∀ k, k < ops.size → (true, b) ∈ G k → (listed.getD k false = true ↔ k < j)) → X.t.get b = (M j).t.get b
  tmps : ∀ t j, j ≤ ops.size → (∀ (k : Nat) (o : Oper), ops[k]? = some o → o.dst = some t → (listed.getD k false = true ↔ k < j)) → T.at t = (F j).at t
  ext : Ext ρ0 ρ
  dom : ∀ b, ρ0 b = none → ρ b ≠ none → ∃ k, listed.getD k false = true ∧ (M k).next ≤ b ∧ b < (M (k + 1)).next
  below : Keeps N w0 w
  marks : ∀ b p, ρ0 b = none → ρ b = some p → p.fin < p.off → w0.heap.size ≤ p.blk

section
variable {call : Caller} {ops : Array Oper} {as : List Nat} {F : Nat → Fr} {M : Nat → Mem} {G : Nat → Log} {ρ0 : Env} {w0 : World} {listed : Array Bool} {a : Act} {T : Fr} {X : Mem}

/-- All that an operation's bits name has come. -/
theorem Inv.come (h : Inv N ops F M G ρ0 w0 listed a w T X ρ) (pl : Plan ops as) : ∀ (k : Nat) (o : Oper) (y j : Nat), ops[k]? = some o → as[k]? = some y → (∀ e ∈ o.after, Region.binds .any e = true → listed.getD e.on false = true) → y.testBit j = true → listed.getD j false = true := by
  intro k
  induction k using Nat.strongRecOn with
  | _ k ih =>
    intro o y j ho hy hall hj
    obtain ⟨e, he, hb, h1⟩ := pl.path k o y ho hy j hj
    rcases h1 with rfl | ⟨z, hz, hzj⟩
    · exact hall e he hb
    · have hlt := pl.down k o ho e he hb
      have hsz := (Array.getElem?_eq_some_iff.1 ho).1
      obtain ⟨o2, ho2⟩ : ∃ o2, ops[e.on]? = some o2 := ⟨ops[e.on]'(by omega), Array.getElem?_eq_getElem _⟩
      exact ih e.on hlt o2 z j ho2 hz (h.closed e.on o2 ho2 (hall e he hb)) hzj

theorem getD_set (l : Array Bool) (k j : Nat) (hk : k < l.size) : (l.setIfInBounds k true).getD j false = if j = k then true else l.getD j false := by
  simp only [Array.getD_eq_getD_getElem?, Array.getElem?_setIfInBounds]
  by_cases h : k = j
  · subst h; simp [hk]
  · rw [if_neg h, if_neg (Ne.symm h)]

theorem as_get (pl : Plan ops as) {k : Nat} (hk : k < ops.size) : ∃ y, as[k]? = some y := ⟨as[k]'(by rw [pl.len]; exact hk), List.getElem?_eq_getElem _⟩

/-- An operation whose turn may have come finds what it looks at as the text's run has it. -/
theorem Inv.turn (h : Inv N ops F M G ρ0 w0 listed a w T X ρ) (pl : Plan ops as) (tr : Trace P call ops as F M G) {k : Nat} {o : Oper} (ho : ops[k]? = some o) (hun : listed.getD k false = false)
    (hall : ∀ e ∈ o.after, Region.binds .any e = true → listed.getD e.on false = true) : (∀ p ∈ G k, ∀ i, i < ops.size → (true, p.2) ∈ G i → (listed.getD i false = true ↔ i < k)) ∧
      ∀ t, (t ∈ reads ops o ∨ o.dst = some t) → ∀ (i : Nat) (q : Oper), ops[i]? = some q → q.dst = some t → (listed.getD i false = true ↔ i < k) := by
  have hk := (Array.getElem?_eq_some_iff.1 ho).1
  obtain ⟨y, hy⟩ := as_get pl hk
  have later : ∀ i, k < i → i < ops.size → ∀ z, as[i]? = some z → z.testBit k = true → ¬ listed.getD i false = true := by
    intro i hki hi z hz hb hl
    obtain ⟨q, hq⟩ : ∃ q, ops[i]? = some q := ⟨ops[i], Array.getElem?_eq_getElem _⟩
    have := h.come pl i q z k hq hz (h.closed i q hq hl) hb
    rw [hun] at this; cases this
  refine ⟨fun p hp i hi hw => ?_, fun t ht i q hq hd => ?_⟩
  · rcases Nat.lt_trichotomy i k with hlt | rfl | hgt
    · refine ⟨fun _ => hlt, fun _ => ?_⟩
      rcases tr.apart i k y hlt hk hy with hb | hap
      · exact h.come pl k o y i ho hy hall hb
      · have := apartL_spec hap (x := p.1) (b := p.2) hp hw
        simp at this
    · constructor
      · intro hl; rw [hun] at hl; cases hl
      · intro hlt; omega
    · obtain ⟨z, hz⟩ := as_get pl hi
      constructor
      · intro hl
        rcases tr.apart k i z hgt hi hz with hb | hap
        · exact absurd hl (later i hgt hi z hz hb)
        · have := apartL_spec hap (y := p.1) (b := p.2) hw hp
          simp at this
      · intro hlt; omega
  · have hi := (Array.getElem?_eq_some_iff.1 hq).1
    have hwq : t ∈ writes q := by unfold writes; simp [hd]
    have key : ∀ o1 o2, apartT ops o1 o2 = true → (t ∈ writes o1 → t ∉ reads ops o2 ∧ t ∉ writes o2) ∧ (t ∈ reads ops o1 → t ∉ writes o2) := by
      intro o1 o2 hap
      unfold apartT at hap
      simp only [Bool.and_eq_true, List.all_eq_true, Bool.not_eq_true', List.contains_eq_mem, decide_eq_false_iff_not] at hap
      exact ⟨fun h1 => hap.1 t h1, fun h1 => hap.2 t h1⟩
    rcases Nat.lt_trichotomy i k with hlt | rfl | hgt
    · refine ⟨fun _ => hlt, fun _ => ?_⟩
      rcases pl.pairs i k q o y hlt hq ho hy with hb | hap
      · exact h.come pl k o y i ho hy hall hb
      · have := (key q o hap).1 hwq
        rcases ht with ht | ht
        · exact absurd ht this.1
        · exact absurd (by unfold writes; simp [ht]) this.2
    · constructor
      · intro hl; rw [hun] at hl; cases hl
      · intro hlt; omega
    · obtain ⟨z, hz⟩ := as_get pl hi
      constructor
      · intro hl
        rcases pl.pairs k i o q z hgt ho hq hz with hb | hap
        · exact absurd hl (later i hgt hi z hz hb)
        · rcases ht with ht | ht
          · exact absurd hwq ((key o q hap).2 ht)
          · exact absurd hwq ((key o q hap).1 (by unfold writes; simp [ht])).2
      · intro hlt; omega

theorem Trace.fn (tr : Trace P call ops as F M G) (hloc : LocalC call) : ∀ k, k ≤ ops.size → (F k).n = (F 0).n ∧ (F k).d = (F 0).d
  | 0, _ => ⟨rfl, rfl⟩
  | k + 1, hk => by
    obtain ⟨o, ho⟩ : ∃ o, ops[k]? = some o := ⟨ops[k], Array.getElem?_eq_getElem _⟩
    obtain ⟨h1, h2⟩ := (step_frame hloc (tr.step k o ho) rfl).1
    obtain ⟨h3, h4⟩ := tr.fn hloc k (by omega)
    exact ⟨h1.trans h3, h2.trans h4⟩
theorem Trace.memStay (tr : Trace P call ops as F M G) (hloc : LocalC call) (b : Nat) : ∀ i j, i ≤ j → j ≤ ops.size → (∀ k, i ≤ k → k < j → (true, b) ∉ G k) → (M j).t.get b = (M i).t.get b := by
  intro i j hij
  induction j with
  | zero => intro _ _; obtain rfl : i = 0 := by omega
            rfl
  | succ j ih =>
    intro hj hno
    by_cases h : i = j + 1
    · rw [h]
    · obtain ⟨o, ho⟩ : ∃ o, ops[j]? = some o := ⟨ops[j], Array.getElem?_eq_getElem _⟩
      have h1 := (step_frame hloc (tr.step j o ho) rfl).2.2 b (hno j (by omega) (by omega))
      have h2 := ih (by omega) (by omega) fun k hk hk2 => hno k hk (by omega)
      exact h1.trans h2
theorem Trace.tmpStay (tr : Trace P call ops as F M G) (hloc : LocalC call) (t : Nat) : ∀ i j, i ≤ j → j ≤ ops.size → (∀ (k : Nat) (o : Oper), i ≤ k → k < j → ops[k]? = some o → o.dst ≠ some t) → (F j).at t = (F i).at t := by
  intro i j hij
  induction j with
  | zero => intro _ _; obtain rfl : i = 0 := by omega
            rfl
  | succ j ih =>
    intro hj hno
    by_cases h : i = j + 1
    · rw [h]
    · obtain ⟨o, ho⟩ : ∃ o, ops[j]? = some o := ⟨ops[j], Array.getElem?_eq_getElem _⟩
      have h1 := (step_frame hloc (tr.step j o ho) rfl).2.1 t (hno j o (by omega) (by omega) ho)
      have h2 := ih (by omega) (by omega) fun k o hk hk2 => hno k o hk (by omega)
      exact h1.trans h2
theorem Trace.nextMono (tr : Trace P call ops as F M G) (hloc : LocalC call) : ∀ i j, i ≤ j → j ≤ ops.size → (M i).next ≤ (M j).next := by
  intro i j hij
  induction j with
  | zero => intro _; obtain rfl : i = 0 := by omega
            exact Nat.le_refl _
  | succ j ih =>
    intro hj
    by_cases h : i = j + 1
    · rw [h]; exact Nat.le_refl _
    · obtain ⟨o, ho⟩ : ∃ o, ops[j]? = some o := ⟨ops[j], Array.getElem?_eq_getElem _⟩
      have h1 := next_mono (Local.stepX hloc ops (F j) o) (tr.step j o ho)
      exact Nat.le_trans (ih (by omega) (by omega)) h1


/-- At a turn: what the operation finds. -/
theorem Inv.finds (h : Inv N ops F M G ρ0 w0 listed a w T X ρ) (pl : Plan ops as) (tr : Trace P call ops as F M G) {k : Nat} {o : Oper} (ho : ops[k]? = some o) (hun : listed.getD k false = false)
    (hall : ∀ e ∈ o.after, Region.binds .any e = true → listed.getD e.on false = true) : (∀ p ∈ G k, X.t.get p.2 = (M k).t.get p.2) ∧ ∀ t, (t ∈ reads ops o ∨ o.dst = some t) → T.at t = (F k).at t := by
  have hk := (Array.getElem?_eq_some_iff.1 ho).1
  obtain ⟨h1, h2⟩ := h.turn pl tr ho hun hall
  exact ⟨fun p hp => h.mem p.2 k (by omega) fun i hi hw => h1 p hp i hi hw, fun t ht => h.tmps t k (by omega) fun i q hq hd => h2 t ht i q hq hd⟩

/-- One operation more. -/
theorem Inv.next (h : Inv N ops F M G ρ0 w0 listed a w T X ρ) (pl : Plan ops as) (tr : Trace P call ops as F M G) (hloc : LocalC call) {k : Nat} {o : Oper} (ho : ops[k]? = some o) (hun : listed.getD k false = false)
    (hall : ∀ e ∈ o.after, Region.binds .any e = true → listed.getD e.on false = true) {T' : Fr} {X' : Mem} (hlog : X'.log = G k) (hnx : X'.next = (M (k + 1)).next)
    (hw1 : ∀ b, (true, b) ∈ G k → X'.t.get b = (M (k + 1)).t.get b) (hw2 : ∀ b, (true, b) ∉ G k → X'.t.get b = X.t.get b) (hn : T'.n = T.n ∧ T'.d = T.d) (ht1 : ∀ t, o.dst = some t → T'.at t = (F (k + 1)).at t) (ht2 : ∀ t, o.dst ≠ some t → T'.at t = T.at t)
    {a' : Act} {w' : World} {ρ' : Env} (hf : AfterF N ρ { X with next := (M k).next, log := [] } X' w T' a' w' ρ') :
    Inv N ops F M G ρ0 w0 (listed.setIfInBounds k true) a' w' T' { X' with log := [] } ρ' := by
  have hk := (Array.getElem?_eq_some_iff.1 ho).1
  have hks : k < listed.size := by rw [h.size]; exact hk
  obtain ⟨t1, t2⟩ := h.turn pl tr ho hun hall
  refine ⟨by simp [h.size], fun i q hq hl e he hb => ?_, hf.rel, hf.frame, by rw [hn.1]; exact h.tn, by rw [hn.2]; exact h.td, rfl, fun b j hj hS => ?_, fun t j hj hS => ?_, h.ext.trans hf.ext, fun b hb hb' => ?_, h.below.trans hf.below, fun b p hb hp hm => by
    cases hc : ρ b with
    | none => exact Nat.le_trans h.below.size (hf.marks b p hc hp hm)
    | some q =>
      have := hf.ext b q hc
      rw [hp] at this
      obtain rfl := Option.some.inj this
      exact h.marks b p hb hc hm⟩
  · rw [getD_set _ _ _ hks] at hl ⊢
    by_cases hek : e.on = k
    · rw [if_pos hek]
    · rw [if_neg hek]
      by_cases hik : i = k
      · subst hik
        rw [ho] at hq
        obtain rfl := Option.some.inj hq
        exact hall e he hb
      · rw [if_neg hik] at hl
        exact h.closed i q hq hl e he hb
  · by_cases hw : (true, b) ∈ G k
    · -- k wrote it, and is its last writer so far
      have hkj : k < j := (hS k hk hw).1 (by rw [getD_set _ _ _ hks, if_pos rfl])
      show X'.t.get b = _
      rw [hw1 b hw]
      refine (tr.memStay hloc b (k + 1) j (by omega) hj fun i h1 h2 hwi => ?_).symm
      have hi : i < ops.size := by omega
      have := (hS i hi hwi).2 h2
      rw [getD_set _ _ _ hks, if_neg (by omega)] at this
      have := (t1 (true, b) hw i hi hwi).1 this
      omega
    · show X'.t.get b = _
      rw [hw2 b hw]
      refine h.mem b j hj fun i hi hwi => ?_
      have hik : i ≠ k := fun e => hw (e ▸ hwi)
      have := hS i hi hwi
      rwa [getD_set _ _ _ hks, if_neg hik] at this
  · by_cases hd : o.dst = some t
    · have hkj : k < j := (hS k o ho hd).1 (by rw [getD_set _ _ _ hks, if_pos rfl])
      rw [ht1 t hd]
      refine (tr.tmpStay hloc t (k + 1) j (by omega) hj fun i q h1 h2 hq hdi => ?_).symm
      have := (hS i q hq hdi).2 h2
      rw [getD_set _ _ _ hks, if_neg (by omega)] at this
      have := (t2 t (.inr hd) i q hq hdi).1 this
      omega
    · rw [ht2 t hd]
      refine h.tmps t j hj fun i q hq hdi => ?_
      have hik : i ≠ k := fun e => by subst e; rw [ho] at hq; obtain rfl := Option.some.inj hq; exact hd hdi
      have := hS i q hq hdi
      rwa [getD_set _ _ _ hks, if_neg hik] at this
  · by_cases hc : ρ b = none
    · have := hf.dom b hc hb'
      exact ⟨k, by rw [getD_set _ _ _ hks, if_pos rfl], this.1, by rw [← hnx]; exact this.2⟩
    · obtain ⟨i, h1, h2, h3⟩ := h.dom b hb hc
      refine ⟨i, ?_, h2, h3⟩
      rw [getD_set _ _ _ hks]
      split
      · rfl
      · exact h1

def unlisted (n : Nat) (listed : Array Bool) : List Nat := (List.range n).filter fun i => !listed.getD i false
theorem unlisted_set {n k : Nat} {listed : Array Bool} (hs : listed.size = n) (hk : k < n) (hun : listed.getD k false = false) : (unlisted n (listed.setIfInBounds k true)).length < (unlisted n listed).length := by
  have h1 : unlisted n (listed.setIfInBounds k true) = (unlisted n listed).filter fun i => i != k := by
    unfold unlisted
    rw [List.filter_filter]
    refine List.filter_congr fun i hi => ?_
    rw [getD_set _ _ _ (by omega)]
    by_cases hik : i = k
    · simp [hik]
    · simp [hik]
  rw [h1, List.length_filter_lt_length_iff_exists]
  refine ⟨k, ?_, by simp⟩
  unfold unlisted
  rw [List.mem_filter]
  exact ⟨List.mem_range.2 hk, by simp only [hun, Bool.not_false]⟩

/-- In whatever order. -/
theorem any_order {r : Option Nat} (hcall : CallOK P call) (hloc : LocalC call) (pl : Plan ops as) (tr : Trace P call ops as F M G) (hfresh : ∀ b, (M 0).next ≤ b → b < (M ops.size).next → ρ0 b = none) {Q : Exit → Act → World → Prop}
    (hQ : ∀ a' w' ρ', Ext ρ0 ρ' → (∀ b, ρ0 b = none → ρ' b ≠ none → (M 0).next ≤ b ∧ b < (M ops.size).next) → Rel N ρ' (M ops.size).t.get w' → FrR ρ' (F ops.size) a' → Keeps N w0 w' → (∀ b p, ρ0 b = none → ρ' b = some p → p.fin < p.off → w0.heap.size ≤ p.blk) → Q .normal a' w') :
    ∀ (fuel : Nat) (listed : Array Bool) (a : Act) (w : World) (T : Fr) (X : Mem) (ρ : Env), Inv N ops F M G ρ0 w0 listed a w T X ρ → (unlisted ops.size listed).length ≤ fuel → wpAnyIn (wideR r) 0 P .any ops Q fuel listed a w := by
  have hdone : ∀ (listed : Array Bool) (a : Act) (w : World) (T : Fr) (X : Mem) (ρ : Env), Inv N ops F M G ρ0 w0 listed a w T X ρ → Region.ready .any ops listed = [] → Q .normal a w := by
    intro listed a w T X ρ h hr
    have hfull : ∀ k, k < ops.size → listed.getD k false = true := by
      intro k
      induction k using Nat.strongRecOn with
      | _ k ih =>
        intro hk
        cases hl : listed.getD k false with
        | true => rfl
        | false =>
          exfalso
          obtain ⟨o, ho⟩ : ∃ o, ops[k]? = some o := ⟨ops[k], Array.getElem?_eq_getElem _⟩
          have : k ∈ Region.ready .any ops listed := by
            rw [mem_ready]
            refine ⟨?_, o, ho, fun e he hb => ?_⟩
            · have hks : k < listed.size := by rw [h.size]; exact hk
              simp only [Array.getD_eq_getD_getElem?, Array.getElem?_eq_getElem hks, Option.getD_some] at hl ⊢
              exact hl
            · have := pl.down k o ho e he hb
              exact ih e.on this (by omega)
          rw [hr] at this
          simp at this
    refine hQ a w ρ h.ext (fun b hb hb' => ?_) (h.rel.congr fun b => ?_) ⟨?_, fun t => ?_, by have := h.frame.defers; rw [h.td] at this; rw [(tr.fn hloc ops.size (Nat.le_refl _)).2]; exact this⟩ h.below h.marks
    · obtain ⟨k, h1, h2, h3⟩ := h.dom b hb hb'
      have hk : k < ops.size := by
        by_cases hk : k < ops.size
        · exact hk
        · rw [← h.size] at hk; simp [Array.getD_eq_getD_getElem?, Array.getElem?_eq_none (Nat.le_of_not_lt hk)] at h1
      have e1 := tr.nextMono hloc 0 k (by omega) (by omega)
      have e2 := tr.nextMono hloc (k + 1) ops.size (by omega) (Nat.le_refl _)
      omega
    · exact (h.mem b ops.size (Nat.le_refl _) fun k hk _ => ⟨fun _ => hk, fun _ => hfull k hk⟩).symm
    · rw [h.frame.size, h.tn, (tr.fn hloc ops.size (Nat.le_refl _)).1]
    · rw [← h.tmps t ops.size (Nat.le_refl _) fun k o ho _ => ⟨fun _ => (Array.getElem?_eq_some_iff.1 ho).1, fun _ => hfull k (Array.getElem?_eq_some_iff.1 ho).1⟩]
      exact h.frame.tmps t
  intro fuel
  induction fuel with
  | zero =>
    intro listed a w T X ρ h hu
    have hr : Region.ready .any ops listed = [] := by
      cases hr : Region.ready .any ops listed with
      | nil => rfl
      | cons k r =>
        exfalso
        have hm : k ∈ Region.ready .any ops listed := by rw [hr]; simp
        obtain ⟨h1, o, ho, _⟩ := mem_ready.1 hm
        have hk := (Array.getElem?_eq_some_iff.1 ho).1
        have hks : k < listed.size := by rw [h.size]; exact hk
        have : k ∈ unlisted ops.size listed := by
          unfold unlisted
          rw [List.mem_filter]
          refine ⟨List.mem_range.2 hk, ?_⟩
          simp only [Array.getD_eq_getD_getElem?, Array.getElem?_eq_getElem hks, Option.getD_some] at h1 ⊢
          rw [h1]; rfl
        have := List.length_pos_of_mem this
        omega
    exact ⟨hr, hdone listed a w T X ρ h hr⟩
  | succ fuel ih =>
    intro listed a w T X ρ h hu
    refine ⟨hdone listed a w T X ρ h, fun k hkr => ?_⟩
    obtain ⟨h1, o, ho, hall⟩ := mem_ready.1 hkr
    have hk := (Array.getElem?_eq_some_iff.1 ho).1
    have hks : k < listed.size := by rw [h.size]; exact hk
    have hun : listed.getD k false = false := by
      simp only [Array.getD_eq_getD_getElem?, Array.getElem?_eq_getElem hks, Option.getD_some] at h1 ⊢
      exact h1
    obtain ⟨f1, f2⟩ := h.finds pl tr ho hun hall
    have hstep := tr.step k o ho
    obtain ⟨T', X', e1, e2, e3, e4, e5, e6, e7, e8⟩ := step_again hloc hstep rfl (fr2 := T) (by rw [h.tn, (tr.fn hloc k (by omega)).1]) (fun t ht => f2 t (.inl ht)) { X with next := (M k).next, log := [] } rfl rfl f1
    have hfr : Fresh ρ { X with next := (M k).next, log := [] } X' := by
      intro b hb hb'
      rw [e3] at hb'
      simp only at hb hb'
      have n1 := tr.nextMono hloc 0 k (by omega) (by omega)
      have n2 := tr.nextMono hloc (k + 1) ops.size (by omega) (Nat.le_refl _)
      have h0 : ρ0 b = none := hfresh b (by omega) (by omega)
      by_cases hc : ρ b = none
      · exact hc
      · exfalso
        obtain ⟨i, i1, i2, i3⟩ := h.dom b h0 hc
        have hi : i < ops.size := by
          by_cases hi : i < ops.size
          · exact hi
          · rw [← h.size] at hi; simp [Array.getD_eq_getD_getElem?, Array.getElem?_eq_none (Nat.le_of_not_lt hi)] at i1
        have hik : i ≠ k := fun e => by subst e; rw [hun] at i1; cases i1
        rcases Nat.lt_or_gt_of_ne hik with hlt | hgt
        · have := tr.nextMono hloc (i + 1) k (by omega) (by omega); omega
        · have := tr.nextMono hloc (k + 1) i (by omega) (by omega); omega
    unfold wpOpIn
    simp only [ho]
    refine step_does hcall h.frame e1 (h.rel) hfr fun a' w' ρ' hf => ?_
    have hnext := h.next pl tr hloc ho hun hall (T' := T') (X' := X') e2 e3 e4 e5 e6 e7 e8 hf
    refine ih _ a' w' T' _ ρ' hnext ?_
    have := unlisted_set h.size hk hun
    omega

theorem region_any {r : Option Nat} (hcall : CallOK P call) (hloc : LocalC call) (hmix : P.follows .mixedOrders = true) {id : Nat} {fr fr' : Fr} {as : List Nat} (hp : planX ops = some as) (h : drawX P call ops ops.toList as 0 [] fr m = some (fr', m')) (hfr : FrR ρ fr a) (hr : Rel N ρ m.t.get w) (hf : Fresh ρ m m')
    {Q : Exit → Act → World → Prop} (hQ : ∀ a' w' ρ', AfterF N ρ m m' w fr' a' w' ρ' → Q .normal a' w') : (Code.region id ops true).wpIn (wideR r) 0 P Q a w := by
  have pl := plan_ok hp
  obtain ⟨F, M, G, f1, f2, f3, f4, f5, f6⟩ := draw_trace ops.toList as 0 [] fr fr' m m' h
  simp only [Nat.zero_add, Array.length_toList] at f3 f4 f5 f6
  have tr : Trace P call ops as F M G := ⟨fun k o ho => f5 k o (by simpa using ho), fun i k y hik hk hy => (f6 k y hy hk).2 i hik⟩
  refine wpIn_region_any hmix ?_
  have hbel : Keeps N w { w with drawn := w.drawn + 1 } := (Keeps.refl N w).drew
  have hl0 : ∀ k, (Array.replicate ops.size false).getD k false = false := fun k => by
    simp only [Array.getD_eq_getD_getElem?, Array.getElem?_replicate]; split <;> rfl
  refine any_order (N := N) (ρ0 := ρ) (w0 := w) hcall hloc pl tr (by rw [f2, f4]; exact hf) (fun a' w' ρ' g1 g2 g3 g4 g5 g6 => hQ a' w' ρ' ⟨g1, by rw [f2, f4] at g2; exact g2, by rw [f4] at g3; exact g3, by rw [f3] at g4; exact g4, g5, g6⟩)
    ops.size _ a _ fr { m with log := [] } ρ ⟨by simp, fun k o _ hl => ?_, hr.heap rfl, hfr, by rw [f1], by rw [f1], rfl, fun b j hj hS => ?_, fun t j hj hS => ?_, .refl ρ, fun b hb hb' => absurd hb hb', hbel, fun b p h h' => absurd (h.symm.trans h') (by simp)⟩ ?_
  · rw [hl0] at hl; cases hl
  · show m.t.get b = _
    rw [← f2]
    refine (tr.memStay hloc b 0 j (by omega) hj fun k _ hk hw => ?_).symm
    have := (hS k (by omega) hw).2 hk
    rw [hl0] at this; cases this
  · rw [← f1]
    refine (tr.tmpStay hloc t 0 j (by omega) hj fun k o _ hk ho hd => ?_).symm
    have := (hS k o ho hd).2 hk
    rw [hl0] at this; cases this
  · unfold unlisted
    exact Nat.le_trans (List.length_filter_le _ _) (by simp)

end

end Go.Clean
