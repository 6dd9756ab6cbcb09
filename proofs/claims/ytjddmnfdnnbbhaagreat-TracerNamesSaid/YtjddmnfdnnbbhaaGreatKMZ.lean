/- The clean executor: a region that draws its order. The text's run, and every other order, come to the same. -/
import Derived.Test.YtjddmnfdnnbbhaaGreatKLZ
set_option linter.unusedSimpArgs false
set_option linter.unusedVariables false
set_option linter.unusedVariables false
set_option linter.unusedSimpArgs false
namespace Go.Clean
open Go Go.RowKit
variable {P : Program} {N : Nat} {ρ : Env} {m m' : Mem} {w : World}

/-! ### An operation looks at its own slots alone -/
def slots (o : Oper) : List Nat := o.op.operands.toList.filterMap fun
  | .tmp t => some t
  | _ => none

theorem ev_congr {fr fr' : Fr} {l : List Operand} (h : ∀ t, Operand.tmp t ∈ l → fr.at t = fr'.at t) {x : Operand} (hx : x ∈ l) : ev fr x = ev fr' x := by
  cases x with
  | tmp t => simp only [ev]; rw [h t hx]
  | const _ => rfl
  | global _ => rfl
  | func _ => rfl
theorem evs_congr {fr fr' : Fr} : ∀ {l : List Operand}, (∀ x ∈ l, ev fr x = ev fr' x) → evs fr l = evs fr' l
  | [], _ => rfl
  | x :: l, h => by
    unfold evs
    rw [h x (by simp), evs_congr (l := l) fun y hy => h y (by simp [hy])]
theorem evO_congr {fr fr' : Fr} {x : Option Operand} (h : ∀ y ∈ x, ev fr y = ev fr' y) : evO fr x = evO fr' x := by
  cases x with
  | none => rfl
  | some y => simp only [evO]; rw [h y rfl]
theorem parts_congr {fr fr' : Fr} : ∀ {l : List (Nat × Operand)}, (∀ p ∈ l, ev fr p.2 = ev fr' p.2) → parts fr l = parts fr' l
  | [], _ => rfl
  | (i, x) :: l, h => by
    unfold parts
    rw [h (i, x) (by simp), parts_congr (l := l) fun y hy => h y (by simp [hy])]

theorem opX_congr {call : Caller} {fr fr' : Fr} {o : Oper} (h : ∀ x ∈ o.op.operands.toList, ev fr x = ev fr' x) : opX P call fr o = opX P call fr' o := by
  unfold opX
  cases hop : o.op with
  | call c =>
    simp only [hop, Op.operands, Call.operands] at h ⊢
    unfold callX
    cases hc : c.callee with
    | invoke r n =>
      have h1 : ev fr r = ev fr' r := h r (by simp [hc])
      have h2 : evs fr c.args.toList = evs fr' c.args.toList := evs_congr fun x hx => h x (by simp at hx ⊢; exact .inr hx)
      simp only [h1, h2]
    | value g =>
      have h1 : ev fr g = ev fr' g := h g (by simp [hc])
      have h2 : evs fr c.args.toList = evs fr' c.args.toList := evs_congr fun x hx => h x (by simp at hx ⊢; exact .inr hx)
      cases g <;> simp only [h1, h2]
    | builtin b =>
      have h2 : evs fr c.args.toList = evs fr' c.args.toList := evs_congr fun x hx => h x (by simp at hx ⊢; exact .inr hx)
      simp only [h2]
  | build t ps =>
    simp only [hop, Op.operands] at h ⊢
    rw [parts_congr fun p hp => h p.2 (by simp; exact ⟨p.1, by simpa using hp⟩)]
  | buildSlice t n ps =>
    simp only [hop, Op.operands] at h ⊢
    rw [parts_congr fun p hp => h p.2 (by simp; exact ⟨p.1, by simpa using hp⟩)]
  | makeFunc f first cap =>
    simp only [hop, Op.operands] at h ⊢
    have h1 : evs fr first.toList = evs fr' first.toList := evs_congr fun x hx => h x (by simp at hx ⊢; exact .inl hx)
    have h2 : evs fr cap.toList = evs fr' cap.toList := evs_congr fun x hx => h x (by simp at hx ⊢; exact .inr hx)
    cases f <;> simp only [h1, h2]
  | slice t x lo hi mx =>
    simp only [hop, Op.operands] at h ⊢
    have h0 : ev fr x = ev fr' x := h x (by simp)
    have h1 : evO fr lo = evO fr' lo := evO_congr fun y hy => h y (by simp at hy ⊢; exact .inr (.inl hy))
    have h2 : evO fr hi = evO fr' hi := evO_congr fun y hy => h y (by simp at hy ⊢; exact .inr (.inr (.inl hy)))
    have h3 : evO fr mx = evO fr' mx := evO_congr fun y hy => h y (by simp at hy ⊢; exact .inr (.inr (.inr hy)))
    simp only [h0, h1, h2, h3]
  | _ =>
    simp only [hop, Op.operands] at h
    first
      | rfl
      | (simp at h; simp only [h])

theorem opX_slots {call : Caller} {fr fr' : Fr} {o : Oper} (h : ∀ t ∈ slots o, fr.at t = fr'.at t) : opX P call fr o = opX P call fr' o := by
  refine opX_congr fun x hx => ev_congr (l := o.op.operands.toList) (fun t ht => h t ?_) hx
  unfold slots
  exact List.mem_filterMap.2 ⟨_, ht, rfl⟩

theorem want_congr {ops : Array Oper} {fr fr' : Fr} {o : Oper} (h : ∀ t ∈ reads ops o, fr.at t = fr'.at t) : wantX ops fr o = wantX ops fr' o := by
  unfold wantX
  cases hg : o.guard with
  | none => rfl
  | some q =>
    obtain ⟨j, b⟩ := q
    simp only
    unfold yieldX
    cases hp : ops.toList[j]? with
    | none => rfl
    | some p =>
      simp only
      cases hd : p.dst with
      | none => rfl
      | some d =>
        simp only
        rw [h d (by unfold reads; simp only [hg, hp, hd]; simp)]

/-- Which slot an operation writes, and what. -/
theorem put_at {fr fr' : Fr} {dst : Option Tmp} {v : Value} (h : fr.put dst v m = some (fr', m')) : m' = m ∧ (fr'.n = fr.n ∧ fr'.d = fr.d) ∧ ∀ t, fr'.at t = if dst = some t then v else fr.at t := by
  unfold Fr.put at h
  rw [putK_eq] at h
  cases dst with
  | none => simp at h; obtain ⟨rfl, rfl⟩ := h; exact ⟨rfl, ⟨rfl, rfl⟩, fun t => by simp⟩
  | some d =>
    simp only at h
    split at h
    · simp only [Option.some.injEq, Prod.mk.injEq] at h
      obtain ⟨rfl, rfl⟩ := h
      refine ⟨rfl, ⟨rfl, rfl⟩, fun t => ?_⟩
      by_cases ht : t = d
      · subst ht; rw [if_pos rfl]; simp [Fr.at, Trie.get_set_same _ _ _ _ (Nat.lt_succ_self t)]
      · rw [if_neg (fun e => ht (by simpa using e.symm))]; simp [Fr.at, Trie.get_set_ne _ _ _ _ _ ht]
    · cases h
theorem put_again {fr fr' fr2 : Fr} {dst : Option Tmp} {v : Value} (h : fr.put dst v m = some (fr', m')) (hn : fr2.n = fr.n) (m2 : Mem) : ∃ fr2', fr2.put dst v m2 = some (fr2', m2) := by
  unfold Fr.put at h ⊢
  rw [putK_eq] at h ⊢
  cases dst with
  | none => exact ⟨_, rfl⟩
  | some d =>
    simp only at h ⊢
    split at h
    · rename_i hd; rw [hn, if_pos hd]; exact ⟨_, rfl⟩
    · cases h

/-- The same operation from another frame and memory that agree where it looks. -/
theorem step_again {call : Caller} (hloc : LocalC call) {ops : Array Oper} {fr fr' fr2 : Fr} {o : Oper} (h : stepX P call ops fr o m = some (fr', m')) (hm : m.log = []) (hn : fr2.n = fr.n) (hfr : ∀ t ∈ reads ops o, fr2.at t = fr.at t) :
    ∀ m2 : Mem, m2.log = [] → m2.next = m.next → (∀ p ∈ m'.log, m2.t.get p.2 = m.t.get p.2) → ∃ fr2' m2', stepX P call ops fr2 o m2 = some (fr2', m2') ∧ m2'.log = m'.log ∧ m2'.next = m'.next ∧
      (∀ b, (true, b) ∈ m'.log → m2'.t.get b = m'.t.get b) ∧ (∀ b, (true, b) ∉ m'.log → m2'.t.get b = m2.t.get b) ∧ (fr2'.n = fr2.n ∧ fr2'.d = fr2.d) ∧ (∀ t, o.dst = some t → fr2'.at t = fr'.at t) ∧ ∀ t, o.dst ≠ some t → fr2'.at t = fr2.at t := by
  intro m2 hl2 hn2 hag
  unfold stepX at h ⊢
  rw [want_congr hfr]
  cases hw : wantX ops fr o with
  | true =>
    simp only [hw, cond_true] at h ⊢
    obtain ⟨v, m1, h1, h2⟩ := bind_some h
    obtain ⟨hm1, hnf, hat⟩ := put_at h2
    subst hm1
    rw [opX_slots (fr := fr2) (fr' := fr) fun t ht => hfr t (by unfold reads; exact List.mem_append_left _ ht)]
    obtain ⟨nl, hlog, hnx, hfrm, hk⟩ := Local.opX (P := P) hloc fr o m v m' h1
    rw [hm, List.append_nil] at hlog
    obtain ⟨m2', e1, e2, e3, e4, e5⟩ := hk m2 hn2 (by rw [← hlog]; exact hag)
    rw [hl2, List.append_nil] at e2
    obtain ⟨fr2', e6⟩ := put_again h2 hn m2'
    obtain ⟨_, hnf2, hat2⟩ := put_at e6
    refine ⟨fr2', m2', ?_, by rw [e2, hlog], e3, by rw [hlog]; exact e4, by rw [hlog]; exact e5, hnf2, fun t ht => ?_, fun t ht => ?_⟩
    · show M.bnd _ _ m2 = _
      unfold M.bnd
      simp only [e1]; exact e6
    · rw [hat2, hat, if_pos ht, if_pos ht]
    · rw [hat2, if_neg ht]
  | false =>
    simp only [hw, cond_false] at h ⊢
    obtain ⟨hm1, hnf, hat⟩ := put_at h
    subst hm1
    obtain ⟨fr2', e6⟩ := put_again h hn m2
    obtain ⟨_, hnf2, hat2⟩ := put_at e6
    refine ⟨fr2', m2, e6, by rw [hl2, hm], hn2, fun b hb => by rw [hm] at hb; simp at hb, fun _ _ => rfl, hnf2, fun t ht => ?_, fun t ht => ?_⟩
    · rw [hat2, hat, if_pos ht, if_pos ht]
    · rw [hat2, if_neg ht]

theorem step_frame {call : Caller} (hloc : LocalC call) {ops : Array Oper} {fr fr' : Fr} {o : Oper} (h : stepX P call ops fr o m = some (fr', m')) (hm : m.log = []) : (fr'.n = fr.n ∧ fr'.d = fr.d) ∧ (∀ t, o.dst ≠ some t → fr'.at t = fr.at t) ∧ ∀ b, (true, b) ∉ m'.log → m'.t.get b = m.t.get b := by
  obtain ⟨nl, hlog, hnx, hfrm, _⟩ := Local.stepX (P := P) hloc ops fr o m fr' m' h
  rw [hm, List.append_nil] at hlog
  refine ⟨?_, fun t ht => ?_, fun b hb => hfrm b (by rw [← hlog]; exact hb)⟩
  all_goals
    unfold stepX at h
    cases hw : wantX ops fr o with
    | true =>
      simp only [hw, cond_true] at h
      obtain ⟨v, m1, h1, h2⟩ := bind_some h
      obtain ⟨_, hnf, hat⟩ := put_at h2
      first | exact hnf | (rw [hat, if_neg ht])
    | false =>
      simp only [hw, cond_false] at h
      obtain ⟨_, hnf, hat⟩ := put_at h
      first | exact hnf | (rw [hat, if_neg ht])

/-! ### The plan -/
/-- Who has come ahead of whom, read off the bits. -/
structure Plan (ops : Array Oper) (as : List Nat) : Prop where
  down : ∀ (k : Nat) (o : Oper), ops[k]? = some o → ∀ e ∈ o.after, Region.binds .any e = true → e.on < k
  path : ∀ (k : Nat) (o : Oper) (x : Nat), ops[k]? = some o → as[k]? = some x → ∀ j, x.testBit j = true → ∃ e ∈ o.after, Region.binds .any e = true ∧ (e.on = j ∨ ∃ y, as[e.on]? = some y ∧ y.testBit j = true)
  len : as.length = ops.size
  pairs : ∀ (i k : Nat) (o p : Oper) (y : Nat), i < k → ops[i]? = some o → ops[k]? = some p → as[k]? = some y → y.testBit i = true ∨ apartT ops o p = true

theorem ancs_spec : ∀ (l : List Oper) (i : Nat) (acc as : List Nat), ancs l i acc = some as → acc.length = i → ∃ r, as = acc.reverse ++ r ∧ r.length = l.length ∧
    ∀ k o, l[k]? = some o → (∀ e ∈ o.after, Region.binds .any e = true → e.on < i + k) ∧ ∀ x, r[k]? = some x → ∀ j, x.testBit j = true → ∃ e ∈ o.after, Region.binds .any e = true ∧ (e.on = j ∨ ∃ y, as[e.on]? = some y ∧ y.testBit j = true)
  | [], i, acc, as, h, hl => by
    obtain rfl : acc.reverse = as := by simpa [ancs] using h
    exact ⟨[], by simp, rfl, fun k o ho => by simp at ho⟩
  | o :: l, i, acc, as, h, hl => by
    unfold ancs at h
    cases hc : (o.after.toList.all fun e => !Region.binds .any e || Nat.blt e.on i) with
    | false => simp [hc] at h
    | true =>
      simp only [hc, cond_true, natK_eq] at h
      have hdown : ∀ e ∈ o.after, Region.binds .any e = true → e.on < i := fun e he hb => by
        have := List.all_eq_true.1 hc e (by simpa using he)
        simpa [hb, Nat.blt_eq] using this
      generalize hx : (o.after.toList.foldl (fun s e => bif Region.binds .any e then s ||| 2 ^ e.on ||| (acc.getD (i - 1 - e.on) 0) else s) 0) = x at h
      obtain ⟨r, hr1, hr2, hr3⟩ := ancs_spec l (i + 1) (x :: acc) as h (by simp [hl])
      have hfold : ∀ (es : List Edge) (s0 : Nat), ∀ j, (es.foldl (fun s e => bif Region.binds .any e then s ||| 2 ^ e.on ||| (acc.getD (i - 1 - e.on) 0) else s) s0).testBit j = true →
          s0.testBit j = true ∨ ∃ e ∈ es, Region.binds .any e = true ∧ (e.on = j ∨ (acc.getD (i - 1 - e.on) 0).testBit j = true) := by
        intro es
        induction es with
        | nil => intro s0 j hj; exact .inl hj
        | cons e es ih =>
          intro s0 j hj
          simp only [List.foldl_cons] at hj
          rcases ih _ j hj with h1 | ⟨e', he', hb', h2⟩
          · cases hb : Region.binds .any e with
            | false => simp only [hb, cond_false] at h1; exact .inl h1
            | true =>
              simp only [hb, cond_true, Nat.testBit_or, Bool.or_eq_true, Nat.testBit_two_pow] at h1
              rcases h1 with (h1 | h1) | h1
              · exact .inl h1
              · exact .inr ⟨e, by simp, hb, .inl (by simpa using h1)⟩
              · exact .inr ⟨e, by simp, hb, .inr h1⟩
          · exact .inr ⟨e', by simp [he'], hb', h2⟩
      refine ⟨x :: r, by rw [hr1]; simp, by simp [hr2], fun k p hk => ?_⟩
      cases k with
      | zero =>
        obtain rfl : o = p := by simpa using hk
        refine ⟨fun e he hb => by simpa using hdown e he hb, fun y hy j hj => ?_⟩
        obtain rfl : x = y := by simpa using hy
        rw [← hx] at hj
        rcases hfold _ _ j hj with h1 | ⟨e, he, hb, h2⟩
        · simp at h1
        · refine ⟨e, by simpa using he, hb, ?_⟩
          rcases h2 with h2 | h2
          · exact .inl h2
          · right
            have hlt := hdown e (by simpa using he) hb
            have hlt2 : i - 1 - e.on < acc.length := by omega
            refine ⟨acc[i - 1 - e.on], ?_, ?_⟩
            · rw [hr1, List.getElem?_append_left (by simp; omega), List.getElem?_reverse (by simp; omega)]
              rw [show (x :: acc).length - 1 - e.on = (i - 1 - e.on) + 1 by simp; omega]
              rw [List.getElem?_cons_succ, List.getElem?_eq_getElem hlt2]
            · simpa [List.getD, List.getElem?_eq_getElem hlt2] using h2
      | succ k =>
        obtain ⟨h1, h2⟩ := hr3 k p (by simpa using hk)
        exact ⟨fun e he hb => by have := h1 e he hb; omega, fun y hy j hj => h2 y (by simpa using hy) j hj⟩

theorem pairs_spec {ops : Array Oper} : ∀ (l : List (Oper × Nat)) (i : Nat), pairsT ops l i = true → ∀ a b (o p : Oper) (x y : Nat), a < b → l[a]? = some (o, x) → l[b]? = some (p, y) → y.testBit (i + a) = true ∨ apartT ops o p = true
  | [], _, _, a, b, o, p, x, y, _, ha, _ => by simp at ha
  | (q, z) :: l, i, h, a, b, o, p, x, y, hab, ha, hb => by
    unfold pairsT at h
    simp only [Bool.and_eq_true] at h
    cases b with
    | zero => omega
    | succ b =>
      cases a with
      | zero =>
        obtain ⟨rfl, rfl⟩ : q = o ∧ z = x := by simpa using ha
        have hb' : l[b]? = some (p, y) := by simpa using hb
        have hm : ((p, y), b) ∈ l.zipIdx := by
          rw [List.mem_zipIdx_iff_getElem?]; exact hb'
        have := List.all_eq_true.1 h.1 _ hm
        simpa using this
      | succ a =>
        have := pairs_spec l (i + 1) h.2 a b o p x y (by omega) (by simpa using ha) (by simpa using hb)
        rwa [show i + (a + 1) = i + 1 + a by omega]

theorem plan_ok {ops : Array Oper} {as : List Nat} (h : planX ops = some as) : Plan ops as := by
  unfold planX at h
  cases ha : ancs ops.toList 0 [] with
  | none => simp [ha] at h
  | some as' =>
    simp only [ha] at h
    cases hp : pairsT ops (ops.toList.zip as') 0 with
    | false => simp [hp] at h
    | true =>
      simp only [hp, cond_true, Option.some.injEq] at h
      subst h
      obtain ⟨r, h1, h2, h3⟩ := ancs_spec _ 0 [] as' ha rfl
      simp only [List.reverse_nil, List.nil_append] at h1
      subst h1
      refine ⟨fun k o ho e he hb => ?_, fun k o x ho hx j hj => ?_, by simpa using h2, fun i k o p y hik ho hp' hy => ?_⟩
      · have := (h3 k o (by simpa using ho)).1 e he hb; omega
      · exact (h3 k o (by simpa using ho)).2 x hx j hj
      · obtain ⟨x, hx⟩ : ∃ x, as'[i]? = some x := by
          have hi := (Array.getElem?_eq_some_iff.1 ho).1
          exact ⟨as'[i]'(by rw [h2]; simpa using hi), List.getElem?_eq_getElem _⟩
        have := pairs_spec _ 0 hp i k o p x y hik (by rw [List.getElem?_zip_eq_some]; exact ⟨by simpa using ho, hx⟩) (by rw [List.getElem?_zip_eq_some]; exact ⟨by simpa using hp', hy⟩)
        simpa using this

end Go.Clean
