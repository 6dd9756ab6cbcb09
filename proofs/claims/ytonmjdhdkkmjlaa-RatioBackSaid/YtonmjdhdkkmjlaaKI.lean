/- The clean executor: make, slices of slices, append, copy. -/
import Derived.Test.YtonmjdhdkkmjlaaKG
import Derived.IntWalk
import Derived.Lib.AppendZeros
set_option linter.unusedVariables false
set_option linter.unusedSimpArgs false
namespace Go.Clean
open Go Go.RowKit
variable {P : Program} {N : Nat} {ρ : Env} {m m' : Mem} {w : World}

theorem zeroT_size {e : TypeId} {i : TypeInfo} (h : P.info? e = some i) : (sizeOf e).run P w = .ok i.size w := sizeT_run (by simp [sizeT, h])
theorem typeInfo_run {e : TypeId} {i : TypeInfo} (h : P.info? e = some i) : (typeInfo e).run P w = .ok i w := by simp [typeInfo, h]

theorem makeSlice_does {t : TypeId} {l l' c c' v : Value} (hl : VR ρ l l') (hc : VR ρ c c') (h : makeSliceX P t l c m = some (v, m')) (hr : Rel N ρ m.t.get w) (hf : Fresh ρ m m') :
    ∃ v' w' ρ', (Instr.makeSlice t l' c').run P w = .ok v' w' ∧ After N ρ m m' w v v' w' ρ' := by
  unfold makeSliceX at h
  obtain ⟨e, hu⟩ : ∃ e, P.underlying t = some (.slice e) := by
    cases hu : P.underlying t with
    | none => simp only [hu] at h; exact (fail_some h).elim
    | some d => cases d <;> first | exact ⟨_, rfl⟩ | (simp only [hu] at h; exact (fail_some h).elim)
  obtain ⟨k, ln, rfl⟩ : ∃ k n, l = .int k n := by
    cases l <;> first | exact ⟨_, _, rfl⟩ | (simp only [hu] at h; exact (fail_some h).elim)
  obtain ⟨k2, cn, rfl⟩ : ∃ k n, c = .int k n := by
    cases c <;> first | exact ⟨_, _, rfl⟩ | (simp only [hu] at h; exact (fail_some h).elim)
  obtain rfl := hl.int
  obtain rfl := hc.int
  simp only [hu] at h
  cases hi : P.info? e with
  | none => simp only [hi] at h; exact (fail_some h).elim
  | some i =>
    cases hz : zeroT P e with
    | none => simp only [hi, hz] at h; exact (fail_some h).elim
    | some z =>
      simp only [hi, hz] at h
      obtain ⟨u, m1, h3, h4⟩ := bind_some h
      obtain ⟨hg, rfl⟩ := guard_some h3
      simp only [Bool.and_eq_true, beq_iff_eq, Nat.blt_eq, Nat.ble_eq, decide_eq_true_eq] at hg
      obtain ⟨⟨⟨hg1, hg2⟩, hg3, hg4, hg5⟩, hg6⟩ := hg
      obtain ⟨b, m2, h5, h6⟩ := bind_some h4
      obtain ⟨rfl, rfl⟩ := ret_some h6
      obtain ⟨hz1, hz2⟩ := zeroT_run (w := w) hz
      have hzr := zeros_rel (ρ := ρ) (e := e) (n := cn.toNat) hz2 hg1 hg2
      obtain ⟨ho, rfl, hnx, hget⟩ := newX_some h5
      have w1 : IntKind.i64.wrap ln = ln := IntWalk.i64_in _ (by omega)
      have w2 : IntKind.i64.wrap cn = cn := IntWalk.i64_in _ (by omega)
      have hbytes : (i.bytes : Int) * cn ≤ 2 ^ 48 := by
        have : ((i.bytes * cn.toNat : Nat) : Int) ≤ 1099511627776 := Int.ofNat_le.2 hg6
        rw [Int.natCast_mul, Int.toNat_of_nonneg (by omega)] at this
        omega
      refine ⟨.slice (some ⟨w.heap.size, 0, none⟩) ln.toNat cn.toNat, w.alloc (.cells ((Array.range (cn.toNat * i.size)).map fun j => z.cells[j % z.cells.size]!) e (0, 0)), _, ?_,
        After.new hr ho rfl hnx hget hf hzr [] e (by rw [List.append_nil]; rfl) (below_push hr.base _) (.inl ⟨_, cn.toNat, Env.put_same _ _ _, rfl, rfl, by omega, Nat.le_refl _, fun _ => rfl, ?_⟩)⟩
      · unfold Instr.makeSlice
        have hcond : ¬ ((decide (cn < 0) || decide ((i.bytes : Int) * cn > 2 ^ 48) || decide (ln < 0) || decide (ln > cn)) = true) := by
          have b1 : decide (cn < 0) = false := decide_eq_false (by omega)
          have b2 : decide ((i.bytes : Int) * cn > 2 ^ 48) = false := decide_eq_false (Int.not_lt.2 hbytes)
          have b3 : decide (ln < 0) = false := decide_eq_false (by omega)
          have b4 : decide (ln > cn) = false := decide_eq_false (by omega)
          rw [b1, b2, b3, b4]
          exact Bool.false_ne_true
        simp only [Sem.run_bind, run_underlying hu, Result.andThen_ok, asInt, asIntOf, Sem.run_pure, typeInfo_run hi, w1, w2]
        rw [if_neg hcond]
        by_cases h0 : cn.toNat * i.size = 0
        · have hc0 : cn.toNat = 0 := by
            rcases Nat.mul_eq_zero.1 h0 with h | h
            · exact h
            · omega
          have hd : (Array.map (fun (j : Nat) => z.cells[j % z.cells.size]!) (Array.range (cn.toNat * i.size))) = #[] := by rw [h0]; simp
          have hd2 : (Array.map (fun (j : Nat) => (#[] : Array Value)[j % (#[] : Array Value).size]!) (Array.range (cn.toNat * i.size))) = #[] := by rw [h0]; simp
          simp only [Sem.run_bind, run_askRoom, Result.andThen_ok, zeroT_size hi, h0, if_true, Sem.run_pure]
          rw [h0] at hd hd2
          rw [hd, hd2]
          simp only [newRow_run, Result.andThen_ok]
        · simp only [Sem.run_bind, run_askRoom, Result.andThen_ok, zeroT_size hi, h0, if_false, Sem.run_pure, hz1, newRow_run]
      · have := hzr.length
        rw [repeatL_length, ← hg1] at this
        simp only [List.length_nil, Nat.add_zero, Nat.zero_add, this, Nat.le_refl]

def OVR (ρ : Env) : Option Value → Option Value → Prop
  | none, none => True
  | some v, some v' => VR ρ v v'
  | _, _ => False
theorem evO_rel {fr : Fr} {a : Act} (h : FrR ρ fr a) {x : Option Operand} {v : Option Value} (he : evO fr x = some v) : OVR ρ v (x.map a.eval) := by
  cases x with
  | none => obtain rfl : none = v := by simpa [evO] using he
            trivial
  | some x =>
    unfold evO at he
    obtain ⟨u, hu, rfl⟩ := Option.map_eq_some_iff.1 he
    exact ev_rel h hu



theorem int_of {x : Value} {α : Type} {f : IntKind → Int → Option α} {r : α} (h : (match x with | .int k i => f k i | _ => none) = some r) : ∃ k i, x = .int k i ∧ f k i = some r := by
  cases x <;> first | exact ⟨_, _, rfl, h⟩ | cases h

/-- A low or high bound that fits. -/
theorem boundX_some {x x' : Option Value} {d y n : Nat} (hx : OVR ρ x x') (h : boundX x d y = some n) :
    (x = none ∧ x' = none ∧ n = d) ∨ ∃ k i, x = some (.int k i) ∧ x' = some (.int k i) ∧ n = i.toNat ∧ 0 ≤ i ∧ i ≤ y := by
  unfold boundX at h
  cases x with
  | none =>
    cases x' with
    | none => exact .inl ⟨rfl, rfl, by simpa using h.symm⟩
    | some _ => exact hx.elim
  | some v =>
    cases x' with
    | none => exact hx.elim
    | some v' =>
      cases v <;> first | (simp at h; done) | skip
      rename_i k i
      obtain rfl : v' = .int k i := hx
      cases hd : decide (0 ≤ i ∧ i ≤ (y : Int)) with
      | false => simp [hd] at h
      | true =>
        simp only [hd, cond_true, Option.some.injEq] at h
        have := of_decide_eq_true hd
        exact .inr ⟨k, i, rfl, rfl, h.symm, this.1, this.2⟩
theorem sliceBound_run {k : IntKind} {i : Int} {y : Nat} {code : BoundsCode} (h0 : 0 ≤ i) (h1 : i ≤ y) : (Instr.sliceBound (.int k i) y code).run P w = .ok i.toNat w := by
  unfold Instr.sliceBound
  simp [asIntOf, h0, h1]

theorem low_run {lo' lo : Option Value} {h l c : Nat} {x : BoundsCode} (ho : OVR ρ lo lo') (e2 : boundX lo 0 h = some l) : (match lo' with
    | some v => (do let l ← Instr.sliceBound v h x; pure (l, h, c) : Sem (Nat × Nat × Nat))
    | none => (do let l ← pure 0; pure (l, h, c) : Sem (Nat × Nat × Nat))).run P w = .ok (l, h, c) w := by
  rcases boundX_some ho e2 with ⟨rfl, rfl, rfl⟩ | ⟨k, i, rfl, rfl, rfl, h0, h1⟩
  · rfl
  · simp only [Sem.run_bind, sliceBound_run h0 h1, Result.andThen_ok, Sem.run_pure]

theorem bounds_two {lo' hi' : Option Value} {lo hi : Option Value} {len cap cap' h l : Nat} (hc : cap ≤ cap') (ho : OVR ρ lo lo') (hh : OVR ρ hi hi') (e1 : boundX hi len cap = some h) (e2 : boundX lo 0 h = some l) :
    (Instr.sliceBounds true len cap' lo' hi' none).run P w = .ok (l, h, cap') w := by
  unfold Instr.sliceBounds
  rcases boundX_some hh e1 with ⟨rfl, rfl, rfl⟩ | ⟨k, i, rfl, rfl, rfl, h0, h1⟩
  · simp only [Sem.run_bind, Sem.run_pure, Result.andThen_ok]
    exact low_run ho e2
  · simp only [Sem.run_bind, Sem.run_pure, Result.andThen_ok, if_true, sliceBound_run h0 (show i ≤ (cap' : Int) by omega)]
    exact low_run ho e2

theorem sliceAt_slice {t e : TypeId} (hu : P.underlying t = some (.slice e)) (x : Value) (lo hi mx : Option Value) : (Instr.sliceAt t x lo hi mx).run P w = (Instr.slice t x lo hi mx).run P w := by
  unfold Instr.sliceAt
  rw [Sem.run_bind, run_underlying hu]; rfl

theorem slice_does {t : TypeId} {x x' v : Value} {lo lo' hi hi' mx mx' : Option Value} (hx : VR ρ x x') (hlo : OVR ρ lo lo') (hhi : OVR ρ hi hi') (hmx : OVR ρ mx mx') (h : sliceX P t x lo hi mx m = some (v, m')) (hr : Rel N ρ m.t.get w) (hf : Fresh ρ m m') :
    ∃ v' ρ', (Instr.sliceAt t x' lo' hi' mx').run P w = .ok v' w ∧ After N ρ m m' w v v' w ρ' := by
  unfold sliceX at h
  cases hu : P.underlying t with
  | none => simp only [hu] at h; exact (fail_some h).elim
  | some d =>
    cases d with
    | slice e =>
      rw [sliceAt_slice hu]
      by_cases hnil : x = .slice none 0 0
      · subst hnil
        obtain rfl : x' = .slice none 0 0 := hx
        simp only [hu] at h
        cases hn : sizeT P e with
        | none => simp only [hn] at h; exact (fail_some h).elim
        | some n =>
        cases mx with
        | some _ => simp only [hn] at h; exact (fail_some h).elim
        | none =>
        cases mx' with
        | some _ => exact hmx.elim
        | none =>
        cases e1 : boundX hi 0 0 with
        | none => simp only [hn, e1] at h; exact (fail_some h).elim
        | some hh =>
        cases e2 : boundX lo 0 0 with
        | none => simp only [hn, e1, e2] at h; exact (fail_some h).elim
        | some l =>
        simp only [hn, e1, e2] at h
        obtain ⟨rfl, rfl⟩ := ret_some h
        have hh0 : hh = 0 := by
          rcases boundX_some hhi e1 with ⟨_, _, rfl⟩ | ⟨k, i, _, _, rfl, h0, h1⟩ <;> omega
        subst hh0
        have hl0 : l = 0 := by
          rcases boundX_some hlo e2 with ⟨_, _, rfl⟩ | ⟨k, i, _, _, rfl, h0, h1⟩ <;> omega
        subst hl0
        refine ⟨.slice none 0 0, ρ, ?_, .same hr rfl rfl⟩
        unfold Instr.slice
        simp only [Sem.run_bind, run_underlying hu, Result.andThen_ok]
        have hb2 := bounds_two (P := P) (w := w) (ρ := ρ) (Nat.le_refl 0) hlo hhi e1 e2
        simp only [hb2, Result.andThen_ok, sizeT_run hn, Sem.run_pure, if_true, Nat.sub_self]
      obtain ⟨b, o, len, cap, rfl⟩ : ∃ b o len cap, x = .slice (some ⟨b, o, none⟩) len cap := by
        cases x with
        | slice a n c =>
          cases a with
          | none =>
            cases n with
            | zero =>
              cases c with
              | zero => exact absurd rfl hnil
              | succ c => simp only [hu] at h; exact (fail_some h).elim
            | succ n => simp only [hu] at h; exact (fail_some h).elim
          | some a =>
            obtain ⟨b, o, s⟩ := a
            cases s with
            | none => exact ⟨_, _, _, _, rfl⟩
            | some s => simp only [hu] at h; exact (fail_some h).elim
        | _ => simp only [hu] at h; exact (fail_some h).elim
      obtain ⟨p, c', hp, rfl, hlc, hcc, hex, hfin⟩ := hx.slc
      simp only [hu] at h
      cases hn : sizeT P e with
      | none => simp only [hn] at h; exact (fail_some h).elim
      | some n =>
        simp only [hn] at h
        obtain ⟨blk, m1, h1, h2⟩ := bind_some h
        obtain ⟨hb, rfl⟩ := getB_some h1
        obtain ⟨u, m2, h3, h4⟩ := bind_some h2
        obtain ⟨hg, rfl⟩ := guard_some h3
        simp only [beq_iff_eq] at hg
        obtain ⟨q, q1, q2, q3, _⟩ := hr.blk b blk hb
        rw [hp] at q1
        obtain rfl : p = q := by simpa using q1
        have hmono : ∀ (k : Nat) (c : Nat), k + c ≤ c' → p.off + (o + k * n) + c * p.sz ≤ p.fin := by
          intro k c hk
          have h9 : (k + c) * p.sz ≤ c' * p.sz := Nat.mul_le_mul_right _ hk
          rw [Nat.add_mul] at h9
          have : n = p.sz := by rw [← hg, q2]
          rw [this]; omega
        have hmono0 : ∀ (c : Nat), c ≤ c' → p.off + o + c * p.sz ≤ p.fin := by
          intro c hk
          have h9 : c * p.sz ≤ c' * p.sz := Nat.mul_le_mul_right _ hk
          omega
        unfold Instr.slice
        simp only [Sem.run_bind, run_underlying hu, Result.andThen_ok]
        cases mx with
        | none =>
          cases mx' with
          | some _ => exact hmx.elim
          | none =>
            simp only at h4
            cases e1 : boundX hi len cap with
            | none => simp only [e1] at h4; exact (fail_some h4).elim
            | some hh =>
              simp only [e1] at h4
              cases e2 : boundX lo 0 hh with
              | none => simp only [e2] at h4; exact (fail_some h4).elim
              | some l =>
                simp only [e2] at h4
                have hb2 := bounds_two (P := P) (w := w) (ρ := ρ) hcc hlo hhi e1 e2
                simp only [hb2, Result.andThen_ok, sizeT_run hn, Sem.run_pure]
                have hhcap : hh ≤ cap := by
                  rcases boundX_some hhi e1 with ⟨_, _, rfl⟩ | ⟨k, i, _, _, rfl, h0, h1⟩ <;> omega
                have hlh : l ≤ hh := by
                  rcases boundX_some hlo e2 with ⟨_, _, rfl⟩ | ⟨k, i, _, _, rfl, h0, h1⟩ <;> omega
                cases hc : (!(cap == l) || l == 0 || !blk.grow) with
                | true =>
                  simp only [hc, cond_true] at h4
                  obtain ⟨rfl, rfl⟩ := ret_some h4
                  refine ⟨_, ρ, rfl, After.same hr rfl ?_⟩
                  by_cases hcl : cap = l
                  · -- the capacity is used up
                    have hcb : (cap == l) = true := by simpa using hcl
                    rw [hcb]
                    by_cases hl0 : l = 0
                    · refine .inl ⟨p, c' - l, hp, rfl, ?_, by omega, by omega, fun hx => by have := hex hx; omega, ?_⟩
                      · simp only [cond_true, hl0, Option.map_some, Nat.zero_mul, add_off, Nat.add_zero]; split <;> rfl
                      · simp only [cond_true]; exact hmono0 _ (by omega)
                    · have hgr : blk.grow = false := by
                        rw [hcb] at hc
                        have : (l == 0) = false := by simpa using hl0
                        rw [this] at hc; simpa using hc
                      have hexact : p.exact = true := by rw [q3] at hgr; simpa using hgr
                      have hc' := hex hexact
                      refine .inl ⟨p, c' - l, hp, rfl, ?_, by omega, by omega, fun hx => by have := hex hx; omega, ?_⟩
                      · rw [if_pos (by omega)]; rfl
                      · simp only [cond_true]; exact hmono0 _ (by omega)
                  · have hcb : (cap == l) = false := by simpa using hcl
                    rw [hcb]
                    refine .inl ⟨p, c' - l, hp, rfl, ?_, by omega, by omega, fun hx => by have := hex hx; omega, ?_⟩
                    · rw [if_neg (by omega)]; simp only [cond_false, Option.map_some, add_off, Nat.add_assoc]
                    · simp only [cond_false]; exact hmono _ _ (by omega)
                | false =>
                  simp only [hc, cond_false] at h4
                  obtain ⟨b', m3, h5, h6⟩ := bind_some h4
                  obtain ⟨rfl, rfl⟩ := ret_some h6
                  rw [newB_eq] at h5
                  simp only [Option.some.injEq, Prod.mk.injEq] at h5
                  obtain ⟨rfl, rfl⟩ := h5
                  simp only [Bool.or_eq_false_iff, Bool.not_eq_false', beq_iff_eq] at hc
                  obtain ⟨⟨hc1, hc2⟩, hc3⟩ := hc
                  have hhl : hh = l := by omega
                  have hfree : ρ m.next = none := hf m.next (Nat.le_refl _) (Nat.lt_succ_self _)
                  generalize hoff : (if c' = l then o else o + l * n) = off
                  have haddr : (if c' = l then some (⟨p.blk, p.off + o, none⟩ : Addr) else (some (⟨p.blk, p.off + o, none⟩ : Addr)).map (·.add (l * n))) = some ⟨p.blk, p.off + off, none⟩ := by
                    rw [← hoff]
                    split
                    · rfl
                    · simp only [Option.map_some, add_off, Nat.add_assoc]
                  refine ⟨.slice (some ⟨p.blk, p.off + off, none⟩) (hh - l) (c' - l), ρ.put m.next ⟨p.blk, p.off + off, p.off + off + (c' - l) * n, n, false⟩, ?_, ?_⟩
                  · rw [haddr]
                  · refine ⟨Env.ext hfree _, fun c hc hc' => ?_, ?_, (.inl ⟨_, c' - l, Env.put_same _ _ _, rfl, by rw [hhl, Nat.sub_self]; rfl, Nat.le_refl _, Nat.zero_le _, fun hx => by simp at hx, by simp only [Nat.add_zero, Nat.le_refl]⟩), .refl N w, fun c s hc hs hm => by
                      by_cases hcm : c = m.next
                      · subst hcm
                        rw [Env.put_same] at hs
                        obtain rfl := Option.some.inj hs
                        simp only at hm; omega
                      · rw [Env.put_ne _ _ hcm] at hs; exact absurd (hc.symm.trans hs) (by simp)⟩
                    · by_cases hcm : c = m.next
                      · subst hcm; exact ⟨Nat.le_refl _, Nat.lt_succ_self _⟩
                      · rw [Env.put_ne _ _ hcm] at hc'; exact absurd hc hc'
                    · have hget : ∀ c, (Trie.set (some { cells := [], sz := n, grow := true, ro := true : Blk }) (m.next + 1) m.t m.next).get c = if c = m.next then some { cells := [], sz := n, grow := true, ro := true } else m.t.get c := by
                        intro c
                        by_cases hcm : c = m.next
                        · subst hcm; rw [if_pos rfl]; exact Trie.get_set_same _ _ _ _ (Nat.lt_succ_self _)
                        · rw [if_neg hcm]; exact Trie.get_set_ne _ _ _ _ _ hcm
                      have hmk : ∀ c x s, (Trie.set (some { cells := [], sz := n, grow := true, ro := true : Blk }) (m.next + 1) m.t m.next).get c = some x → (ρ.put m.next ⟨p.blk, p.off + off, p.off + off + (c' - l) * n, n, false⟩) c = some s → s.fin < s.off → m.t.get c = some x ∧ ρ c = some s := fun c x s hx hs hm => by
                        by_cases hcm : c = m.next
                        · rw [hcm, Env.put_same] at hs
                          obtain rfl := Option.some.inj hs
                          simp only at hm; omega
                        · rw [hget, if_neg hcm] at hx
                          rw [Env.put_ne _ _ hcm] at hs
                          exact ⟨hx, hs⟩
                      refine ⟨hr.base, fun c x hx => ?_, fun c c2 x x2 s s2 hne hx hx2 hro hro2 hs hs2 => ?_, fun c x s hx hs hm => by
                        obtain ⟨hx1, hs1⟩ := hmk c x s hx hs hm
                        obtain ⟨h1, h2, h3⟩ := hr.marks c x s hx1 hs1 hm
                        refine ⟨h1, h2, fun c' x' s' hne' hx' hs' hm' => ?_⟩
                        obtain ⟨hx2, hs2⟩ := hmk c' x' s' hx' hs' hm'
                        exact h3 c' x' s' hne' hx2 hs2 hm'⟩
                      · rw [hget] at hx
                        by_cases hcm : c = m.next
                        · subst hcm
                          rw [if_pos rfl] at hx
                          obtain rfl := Option.some.inj hx
                          exact ⟨_, Env.put_same _ _ _, rfl, rfl, fun i v hi => by simp at hi, fun _ => .inl rfl, fun hh => by simp at hh⟩
                        · rw [if_neg hcm] at hx
                          obtain ⟨s, s1, s2, s3, s4, s5, s6⟩ := hr.blk c x hx
                          refine ⟨s, by rw [Env.put_ne _ _ hcm]; exact s1, s2, s3, fun i v hi => ?_, s5, s6⟩
                          obtain ⟨v', t1, t2, t3⟩ := s4 i v hi
                          exact ⟨v', t1, t2.mono (Env.ext hfree _), t3⟩
                      · rw [hget] at hx hx2
                        have hcm : c ≠ m.next := fun hcm => by rw [if_pos hcm] at hx; obtain rfl := Option.some.inj hx; simp at hro
                        have hcm2 : c2 ≠ m.next := fun hcm => by rw [if_pos hcm] at hx2; obtain rfl := Option.some.inj hx2; simp at hro2
                        rw [if_neg hcm] at hx
                        rw [if_neg hcm2] at hx2
                        rw [Env.put_ne _ _ hcm] at hs
                        rw [Env.put_ne _ _ hcm2] at hs2
                        exact hr.apart c c2 x x2 s s2 hne hx hx2 hro hro2 hs hs2
        | some mv =>
          cases mx' with
          | none => exact hmx.elim
          | some mv' =>
            cases mv <;> first | (simp only at h4; exact (fail_some h4).elim) | skip
            rename_i k j
            obtain rfl : mv' = .int k j := hmx
            cases hi with
            | none => simp only at h4; exact (fail_some h4).elim
            | some hv =>
              cases hi' with
              | none => exact hhi.elim
              | some hv' =>
                cases hv <;> first | (simp only at h4; exact (fail_some h4).elim) | skip
                rename_i k2 hh
                obtain rfl : hv' = .int k2 hh := hhi
                simp only at h4
                obtain ⟨u2, m3, h5, h6⟩ := bind_some h4
                obtain ⟨hg2, rfl⟩ := guard_some h5
                simp only [decide_eq_true_eq] at hg2
                obtain ⟨g1, g2, g3, g4⟩ := hg2
                cases e2 : boundX lo 0 hh.toNat with
                | none => simp only [e2] at h6; exact (fail_some h6).elim
                | some l =>
                  simp only [e2] at h6
                  obtain ⟨rfl, rfl⟩ := ret_some h6
                  have hb2 : (Instr.sliceBounds true len c' lo' (some (.int k2 hh)) (some (.int k j))).run P w = .ok (l, hh.toNat, j.toNat) w := by
                    unfold Instr.sliceBounds
                    simp only [Sem.run_bind, if_true, sliceBound_run g1 (show j ≤ (c' : Int) by omega), Result.andThen_ok, sliceBound_run g3 (show hh ≤ (j.toNat : Int) by omega), Option.isSome_some]
                    exact low_run hlo e2
                  have hlh : l ≤ hh.toNat := by
                    rcases boundX_some hlo e2 with ⟨_, _, rfl⟩ | ⟨k, i, _, _, rfl, h0, h1⟩ <;> omega
                  simp only [hb2, Result.andThen_ok, sizeT_run hn, Sem.run_pure]
                  refine ⟨_, ρ, rfl, After.same hr rfl ?_⟩
                  by_cases hcl : j.toNat = l
                  · have hcb : (j.toNat == l) = true := by simpa using hcl
                    rw [hcb]
                    refine .inl ⟨p, j.toNat - l, hp, rfl, ?_, by omega, Nat.le_refl _, fun _ => rfl, ?_⟩
                    · rw [if_pos hcl]; rfl
                    · simp only [cond_true]; exact hmono0 _ (by omega)
                  · have hcb : (j.toNat == l) = false := by simpa using hcl
                    rw [hcb]
                    refine .inl ⟨p, j.toNat - l, hp, rfl, ?_, by omega, Nat.le_refl _, fun _ => rfl, ?_⟩
                    · rw [if_neg hcl]; simp only [cond_false, Option.map_some, add_off, Nat.add_assoc]
                    · simp only [cond_false]; exact hmono _ _ (by omega)
    | array k e =>
      obtain ⟨b, o, rfl⟩ : ∃ b o, x = .pointer (some ⟨b, o, none⟩) := by
        cases x with
        | pointer a =>
          cases a with
          | none => simp only [hu] at h; exact (fail_some h).elim
          | some a =>
            obtain ⟨b, o, s⟩ := a
            cases s with
            | none => exact ⟨_, _, rfl⟩
            | some s => simp only [hu] at h; exact (fail_some h).elim
        | _ => simp only [hu] at h; exact (fail_some h).elim
      obtain ⟨p, hp, rfl⟩ := hx.ptr
      simp only [hu] at h
      cases hn : sizeT P e with
      | none => simp only [hn] at h; exact (fail_some h).elim
      | some n =>
        cases lo with
        | some _ => simp only [hn] at h; exact (fail_some h).elim
        | none =>
          cases hi with
          | some _ => simp only [hn] at h; exact (fail_some h).elim
          | none =>
            cases mx with
            | some _ => simp only [hn] at h; exact (fail_some h).elim
            | none =>
              cases lo' with
              | some _ => exact hlo.elim
              | none =>
                cases hi' with
                | some _ => exact hhi.elim
                | none =>
                  cases mx' with
                  | some _ => exact hmx.elim
                  | none =>
                    simp only [hn] at h
                    obtain ⟨blk, m1, h1, h2⟩ := bind_some h
                    obtain ⟨hb, rfl⟩ := getB_some h1
                    obtain ⟨u, m2, h3, h4⟩ := bind_some h2
                    obtain ⟨hg, rfl⟩ := guard_some h3
                    obtain ⟨rfl, rfl⟩ := ret_some h4
                    simp only [Bool.and_eq_true, beq_iff_eq, Bool.not_eq_true', Nat.ble_eq] at hg
                    obtain ⟨⟨hg1, hg2⟩, hg3⟩ := hg
                    have hro := hg2
                    obtain ⟨q, q1, q2, q3, q4, q5, q6⟩ := hr.blk b blk hb
                    rw [hp] at q1
                    obtain rfl : p = q := by simpa using q1
                    refine ⟨.slice (some ⟨p.blk, p.off + o, none⟩) k k, ρ, ?_, After.same hr rfl ?_⟩
                    · unfold Instr.sliceAt
                      simp only [Sem.run_bind, run_underlying hu, Result.andThen_ok, Instr.sureAddr, Sem.run_pure, Instr.sliceBounds, sizeT_run hn, Nat.sub_zero]
                      congr 2
                      split
                      · rfl
                      · simp [Addr.add]
                    · obtain ⟨r1, r2, _⟩ := q6 hg2
                      refine .inl ⟨p, k, hp, rfl, rfl, Nat.le_refl _, Nat.le_refl _, fun _ => rfl, ?_⟩
                      show p.off + o + k * p.sz ≤ p.fin
                      have hsz : n = p.sz := by rw [← hg1, q2]
                      rw [← hsz]; omega
    | _ => simp only [hu] at h; exact (fail_some h).elim

end Go.Clean

/- The clean executor: append and copy. -/
set_option linter.unusedVariables false
set_option linter.unusedSimpArgs false
namespace Go.Clean
open Go Go.RowKit
variable {P : Program} {N : Nat} {ρ : Env} {m m' : Mem} {w : World}

/-- What a block of the clean memory asks of the heap. -/
def Stands (N : Nat) (ρ : Env) (w : World) (b : Nat) (x : Blk) : Prop := ∃ p, ρ b = some p ∧ x.sz = p.sz ∧ x.grow = !p.exact ∧
    (∀ i v, x.cells[i]? = some v → ∃ v', w.cell? ⟨p.blk, p.off + i, none⟩ = some v' ∧ VR ρ v v' ∧ oneV v = true) ∧
    (x.ro = true → x.cells = [] ∨ p.blk < N) ∧
    (x.ro = false → N ≤ p.blk ∧ p.off + x.cells.length ≤ p.fin ∧ ∃ c T, w.heap[p.blk]? = some (.cells c T (0, 0)) ∧ p.fin ≤ c.size)

/-- The other blocks do not feel a store into one's own place. -/
theorem Rel.others {g : Nat → Option Blk} (h : Rel N ρ g w) {b : Nat} {x : Blk} {p : Place} (hb : g b = some x) (hp : ρ b = some p) (hro : x.ro = false) {c : Array Value} {T : TypeId} (hc : w.heap[p.blk]? = some (.cells c T (0, 0)))
    {lo hi : Nat} (hlo : p.off ≤ lo) (hhi : hi ≤ p.fin) {c' : Array Value} (hc' : c'.size = c.size) (hcc : ∀ j, ¬ (lo ≤ j ∧ j < hi) → c'[j]? = c[j]?) {w' : World}
    (hw : w'.heap[p.blk]? = some (.cells c' T (0, 0))) (hw' : ∀ k, k ≠ p.blk → w'.heap[k]? = w.heap[k]?) : ∀ d y, d ≠ b → g d = some y → Stands N ρ w' d y := by
  intro d y hdb hd
  obtain ⟨q, q1, q2, q3, q4, q5, q6⟩ := h.blk b x hb
  rw [hp] at q1
  obtain rfl : p = q := by simpa using q1
  obtain ⟨r1, r2, _⟩ := q6 hro
  have hcell : ∀ k i, k ≠ p.blk → w'.cell? ⟨k, i, none⟩ = w.cell? ⟨k, i, none⟩ := fun k i hk => World.cell?_of_block (hw' k hk)
  obtain ⟨s, s1, s2, s3, s4, s5, s6⟩ := h.blk d y hd
  refine ⟨s, s1, s2, s3, fun i v hi => ?_, s5, fun hr => ?_⟩
  · obtain ⟨v', hv1, hv2, hv3⟩ := s4 i v hi
    refine ⟨v', ?_, hv2, hv3⟩
    by_cases hk : s.blk = p.blk
    · rw [hk, cell_row w' _ _ c' T _ hw, hcc, ← cell_row w _ _ c T _ hc, ← hk]
      · exact hv1
      · cases hr : y.ro with
        | true =>
          rcases s5 hr with h0 | h0
          · rw [h0] at hi; simp at hi
          · omega
        | false =>
          obtain ⟨t1, t2, _⟩ := s6 hr
          have hi' := (List.getElem?_eq_some_iff.1 hi).1
          rcases h.apart d b y x s p hdb hd hb hr hro s1 hp with h1 | h1 | h1
          · exact absurd hk h1
          · omega
          · omega
    · rw [hcell _ _ hk]; exact hv1
  · obtain ⟨t1, t2, c1, T1, t3, t4⟩ := s6 hr
    refine ⟨t1, t2, ?_⟩
    by_cases hk : s.blk = p.blk
    · rw [hk, hc] at t3
      simp only [Option.some.injEq, Obj.cells.injEq, and_true] at t3
      obtain ⟨rfl, rfl⟩ := t3
      exact ⟨c', T, by rw [hk]; exact hw, by rw [hc']; exact t4⟩
    · exact ⟨c1, T1, by rw [hw' _ hk]; exact t3, t4⟩

theorem Stands.mono {ρ' : Env} {b : Nat} {x : Blk} (h : Stands N ρ w b x) (e : Ext ρ ρ') : Stands N ρ' w b x := by
  obtain ⟨p, h1, h2, h3, h4, h5, h6⟩ := h
  exact ⟨p, e _ _ h1, h2, h3, fun i v hi => by obtain ⟨v', a, b, c⟩ := h4 i v hi; exact ⟨v', a, b.mono e, c⟩, h5, h6⟩

/-- An append in place: the old block is given up, the new one begins where the slice began. -/
theorem Rel.extend {g g' : Nat → Option Blk} (h : Rel N ρ g w) {b b' : Nat} {x : Blk} {p : Place} (hb : g b = some x) (hp : ρ b = some p) (hro : x.ro = false) (hgr : x.grow = true) {o L : Nat} (hend : o + L = x.cells.length) {old new news : List Value}
    (hold : takeN x.cells o L = some old) (hv : VRs ρ new news) (ho : new.all oneV = true) (hfit : p.off + x.cells.length + new.length ≤ p.fin) (hb' : ρ b' = none)
    (e : ∀ d, g' d = if d = b' then some { cells := old ++ new, sz := x.sz, grow := true, ro := false } else if d = b then none else g d) :
    ∃ w', (storeCells ⟨p.blk, p.off + x.cells.length, none⟩ news).run P w = .ok () w' ∧ Rel N (ρ.put b' ⟨p.blk, p.off + o, p.fin, p.sz, false⟩) g' w' ∧ Keeps N w w' := by
  obtain ⟨q, q1, q2, q3, q4, q5, q6⟩ := h.blk b x hb
  rw [hp] at q1
  obtain rfl : p = q := by simpa using q1
  obtain ⟨r1, r2, c, T, r3, r4⟩ := q6 hro
  have hlen := hv.length
  obtain ⟨ho1, ho2⟩ := takeN_spec _ _ _ _ hold
  have hrun := run_storeCells_at P p.blk (p.off + x.cells.length) T news 0 c w r3 (by omega) (hv.one ho)
  simp only [Nat.add_zero] at hrun
  have hext := Env.ext hb' ⟨p.blk, p.off + o, p.fin, p.sz, false⟩
  generalize hcd : (c.toList.take (p.off + x.cells.length) ++ news ++ c.toList.drop (p.off + x.cells.length + news.length)).toArray = c' at hrun
  have hsz : c'.size = c.size := by
    rw [← hcd]
    simp only [List.size_toArray, List.length_append, List.length_take, List.length_drop, Array.length_toList]; omega
  have hget : ∀ j, c'[j]? = if p.off + x.cells.length ≤ j ∧ j < p.off + x.cells.length + news.length then news[j - (p.off + x.cells.length)]? else c[j]? := by
    intro j
    rw [← hcd, List.getElem?_toArray, List.append_assoc]
    have hl1 : (c.toList.take (p.off + x.cells.length)).length = p.off + x.cells.length := by rw [List.length_take, Array.length_toList]; omega
    by_cases h1 : j < p.off + x.cells.length
    · rw [if_neg (by omega), List.getElem?_append_left (by omega), List.getElem?_take, if_pos h1]; simp
    · rw [List.getElem?_append_right (by omega), hl1]
      by_cases h3 : j < p.off + x.cells.length + news.length
      · rw [if_pos (by omega), List.getElem?_append_left (by omega)]
      · rw [if_neg (by omega), List.getElem?_append_right (by omega), List.getElem?_drop, ← Array.getElem?_toList]; congr 1; omega
  have hw := setRow_heap w p.blk c c' T _ r3
  have hw' : ∀ k, k ≠ p.blk → (w.setRow p.blk c').heap[k]? = w.heap[k]? := fun k hk => setRow_other w p.blk k _ hk
  have hoth := h.others hb hp hro r3 (lo := p.off + x.cells.length) (hi := p.off + x.cells.length + news.length) (by omega) (by omega) hsz (fun j hj => by rw [hget, if_neg hj]) hw hw'
  have hmk : ∀ d y s, g' d = some y → (ρ.put b' ⟨p.blk, p.off + o, p.fin, p.sz, false⟩) d = some s → s.fin < s.off → g d = some y ∧ ρ d = some s := fun d y s hd hs hm => by
    by_cases hdb : d = b'
    · rw [hdb, Env.put_same] at hs
      obtain rfl := Option.some.inj hs
      simp only at hm
      omega
    · rw [e, if_neg hdb] at hd
      rw [Env.put_ne _ _ hdb] at hs
      by_cases hb2 : d = b
      · rw [if_pos hb2] at hd; cases hd
      · rw [if_neg hb2] at hd; exact ⟨hd, hs⟩
  refine ⟨_, hrun, ⟨by simp [World.setRow]; exact h.base, fun d y hd => ?_, fun d d' y y' s s' hne hd hd' hr hr' hs hs' => ?_, fun d y s hd hs hm => by
    obtain ⟨hd1, hs1⟩ := hmk d y s hd hs hm
    obtain ⟨h1, h2, h3⟩ := h.marks d y s hd1 hs1 hm
    have hne : s.blk ≠ p.blk := fun hh => by rw [hh, r3] at h2; simp at h2
    refine ⟨h1, by rw [hw' _ hne]; exact h2, fun d' y' s' hne' hd' hs' hm' => ?_⟩
    obtain ⟨hd2, hs2⟩ := hmk d' y' s' hd' hs' hm'
    exact h3 d' y' s' hne' hd2 hs2 hm'⟩, Keeps.row r1 r3 rfl rfl rfl (by simp [World.setRow]) (fun k _ hk => setRow_other w p.blk k _ hk)⟩
  · rw [e] at hd
    by_cases hdb' : d = b'
    · subst hdb'
      rw [if_pos rfl] at hd
      obtain rfl := Option.some.inj hd
      refine ⟨_, Env.put_same _ _ _, q2, rfl, fun i v hi => ?_, fun hr => by simp at hr, fun _ => ⟨r1, ?_, c', T, hw, by rw [hsz]; exact r4⟩⟩
      · rw [cell_row _ _ _ c' T _ hw, hget]
        simp only at hi ⊢
        by_cases hlt : i < L
        · rw [if_neg (by omega)]
          rw [List.getElem?_append_left (by omega), ho2 i hlt] at hi
          obtain ⟨v', t1, t2, t3⟩ := q4 _ v hi
          rw [cell_row w _ _ c T _ r3] at t1
          exact ⟨v', by rw [← t1]; congr 1; omega, t2.mono hext, t3⟩
        · rw [List.getElem?_append_right (by omega), ho1] at hi
          have hlt2 := (List.getElem?_eq_some_iff.1 hi).1
          rw [if_pos (by omega)]
          obtain ⟨v', t1, t2⟩ := hv.get hi
          exact ⟨v', by rw [← t1]; congr 1; omega, t2.mono hext, VRs.oneV_get ho hi⟩
      · simp only [List.length_append, ho1]; omega
    · rw [if_neg hdb'] at hd
      by_cases hdb : d = b
      · rw [if_pos hdb] at hd; cases hd
      · rw [if_neg hdb] at hd
        exact (hoth d y hdb hd).mono hext
  · rw [e] at hd hd'
    have key : ∀ d y s, d ≠ b' → (if d = b' then some { cells := old ++ new, sz := x.sz, grow := true, ro := false : Blk } else if d = b then none else g d) = some y → y.ro = false → (ρ.put b' ⟨p.blk, p.off + o, p.fin, p.sz, false⟩) d = some s →
        g d = some y ∧ ρ d = some s ∧ d ≠ b := fun d y s hdb hd hr hs => by
      rw [if_neg hdb] at hd
      rw [Env.put_ne _ _ hdb] at hs
      by_cases hb2 : d = b
      · rw [if_pos hb2] at hd; cases hd
      · rw [if_neg hb2] at hd; exact ⟨hd, hs, hb2⟩
    by_cases hdb : d = b'
    · have hdb' : d' ≠ b' := fun hh => hne (hdb.trans hh.symm)
      obtain ⟨k1, k2, k3⟩ := key d' y' s' hdb' hd' hr' hs'
      rw [hdb, Env.put_same] at hs
      obtain rfl := Option.some.inj hs
      have := h.apart d' b y' x s' p k3 k1 hb hr' hro k2 hp
      simp only
      rcases this with h1 | h1 | h1
      · exact .inl (Ne.symm h1)
      · exact .inr (.inr (by omega))
      · exact .inr (.inl (by omega))
    · obtain ⟨k1, k2, k3⟩ := key d y s hdb hd hr hs
      by_cases hdb' : d' = b'
      · rw [hdb', Env.put_same] at hs'
        obtain rfl := Option.some.inj hs'
        have := h.apart d b y x s p k3 k1 hb hr hro k2 hp
        simp only
        rcases this with h1 | h1 | h1
        · exact .inl h1
        · exact .inr (.inl (by omega))
        · exact .inr (.inr (by omega))
      · obtain ⟨l1, l2, l3⟩ := key d' y' s' hdb' hd' hr' hs'
        exact h.apart d d' y y' s s' hne k1 l1 hr hr' k2 l2

/-- What is appended, read. -/
theorem elems_does {x x' : Value} {n : Nat} {new : List Value} (hx : VR ρ x x') (h : elemsX x n m = some (some new, m')) (hr : Rel N ρ m.t.get w) :
    m'.t = m.t ∧ m'.next = m.next ∧ ((∃ c, x = .slice none 0 c ∧ x' = .slice none 0 c ∧ new = []) ∨
      ∃ (a : Addr) (k c' : Nat) (news : List Value), sliceLen x = k ∧ x' = .slice (some a) k c' ∧ VRs ρ new news ∧ news.length = k * n ∧ ∀ j v, news[j]? = some v → w.cell? (a.add j) = some v) := by
  unfold elemsX at h
  split at h
  · obtain ⟨h1, rfl⟩ := ret_some h
    obtain rfl := Option.some.inj h1
    exact ⟨rfl, rfl, .inl ⟨_, rfl, hx, rfl⟩⟩
  · rename_i b o k c
    obtain ⟨blk, m1, h1, h2⟩ := bind_some h
    obtain ⟨hb, rfl⟩ := getB_some h1
    obtain ⟨h3, rfl⟩ := ret_some h2
    obtain ⟨p, c', hp, rfl, _⟩ := hx.slc
    obtain ⟨r', t1, t2, t3⟩ := cells_read hr hb hp h3
    exact ⟨rfl, rfl, .inr ⟨_, k, c', r', rfl, rfl, t1, t2, t3⟩⟩
  · obtain ⟨h1, rfl⟩ := ret_some h
    obtain rfl := Option.some.inj h1
    rcases hx with ⟨p, c', hp, hs, _⟩ | ⟨_, _, _, a', rfl⟩
    · cases hs
    · exact ⟨rfl, rfl, .inr ⟨a', 0, 0, [], rfl, rfl, .nil, by simp, fun j v hj => by simp at hj⟩⟩
  · obtain ⟨h1, rfl⟩ := ret_some h
    cases h1

theorem append_room {t ty e : TypeId} {i : TypeInfo} (ht : P.underlying t = some (.slice e)) (hi : P.info? e = some i) {base : Option Addr} {n c xl : Nat} {x' : Value} {news : List Value} {w' : World} (hlen : (Builtin.lenOf x').run P w = .ok xl w)
    (hf : (Builtin.firstCells i.size xl x').run P w = .ok news.toArray w) (hroom : n + xl ≤ c)
    (hst : (match base with
      | some a => storeCells (a.add (n * i.size)) news
      | none => pure ()).run P w = .ok () w') :
    (Builtin.append_ #[t, t] ty #[.slice base n c, x']).run P w = .ok (.slice base (n + xl) c) w' := by
  cases base with
  | none =>
    obtain ⟨rfl⟩ : w = w' := by simpa using hst
    simp [Builtin.append_, run_underlying ht, sizeOf, typeInfo, hi, hlen, hroom, hf]
  | some a =>
    simp only at hst
    simp [Builtin.append_, run_underlying ht, sizeOf, typeInfo, hi, hlen, hroom, hf, hst]

theorem cap_fit (z : Value) {i : TypeInfo} (h1 : i.size = (cellsV z).length) (k : Nat) : (Builtin.zeroCells z.cells k).size = k * i.size := by
  rw [size_zeroCells, cells_arr, h1]; rfl

theorem append_does {t u ty : TypeId} {s s' x x' v : Value} (hs : VR ρ s s') (hx : VR ρ x x') (h : appendX P t u s x m = some (v, m')) (hr : Rel N ρ m.t.get w) (hf : Fresh ρ m m') :
    ∃ v' w' ρ', (Builtin.append_ #[t, u] ty #[s', x']).run P w = .ok v' w' ∧ After N ρ m m' w v v' w' ρ' := by
  unfold appendX at h
  obtain ⟨e, hu⟩ : ∃ e, P.underlying t = some (.slice e) := by
    cases hu : P.underlying t with
    | none => simp only [hu] at h; exact (fail_some h).elim
    | some d => cases d <;> first | exact ⟨_, rfl⟩ | (simp only [hu] at h; exact (fail_some h).elim)
  obtain ⟨e', hu'⟩ : ∃ e, P.underlying u = some (.slice e) := by
    cases hu' : P.underlying u with
    | none => simp only [hu, hu'] at h; exact (fail_some h).elim
    | some d => cases d <;> first | exact ⟨_, rfl⟩ | (simp only [hu, hu'] at h; exact (fail_some h).elim)
  simp only [hu, hu'] at h
  cases hi : P.info? e with
  | none => simp only [hi] at h; exact (fail_some h).elim
  | some i =>
  cases hz : zeroT P e with
  | none => simp only [hi, hz] at h; exact (fail_some h).elim
  | some z =>
  simp only [hi, hz] at h
  obtain ⟨u1, m1, h1, h2⟩ := bind_some h
  obtain ⟨hg, rfl⟩ := guard_some h1
  simp only [Bool.and_eq_true, beq_iff_eq, Nat.blt_eq, Nat.ble_eq] at hg
  obtain ⟨⟨⟨hg1, hg2⟩, rfl⟩, hg3⟩ := hg
  obtain ⟨i', hi', hz', hzp⟩ := zeroT_info hz
  rw [hi] at hi'
  obtain rfl := Option.some.inj hi'
  obtain ⟨onew, m2, h3, h4⟩ := bind_some h2
  cases onew with
  | none => simp only at h4; exact (fail_some h4).elim
  | some new =>
  simp only at h4
  obtain ⟨ht2, hn2, hcase⟩ := elems_does hx h3 hr
  -- the appended cells in general
  obtain ⟨xl, news, hxl, hnew, hlen, hcells, hnl⟩ : ∃ xl news, sliceLen x = xl ∧ VRs ρ new news ∧ (∀ w, (Builtin.lenOf x').run P w = .ok xl w) ∧ (∀ w1 : World, w1.heap = w.heap → (Builtin.firstCells i.size xl x').run P w1 = .ok news.toArray w1) ∧ news.length = xl * i.size := by
    rcases hcase with ⟨c, rfl, rfl, rfl⟩ | ⟨a, k, c', news, hk, rfl, hv, hl, hc⟩
    · exact ⟨0, [], rfl, .nil, fun _ => rfl, fun w1 _ => run_firstCells_none _ _ _ _ _, by simp⟩
    · refine ⟨k, news, hk, hv, fun _ => rfl, fun w1 he => ?_, hl⟩
      exact run_firstCells_some (P := P) w1 i.size k a k c' news hl (fun j v hj => by have := hc j v hj; rw [← this]; simp [World.cell?, he])
  rw [hxl] at h4
  have hr2 : Rel N ρ m2.t.get w := by rw [ht2]; exact hr
  cases s with
  | slice a n c =>
    cases a with
    | none =>
      cases n with
      | succ n => simp only at h4; exact (fail_some h4).elim
      | zero =>
      cases c with
      | succ c => simp only at h4; exact (fail_some h4).elim
      | zero =>
      obtain rfl : s' = .slice none 0 0 := hs
      simp only at h4
      by_cases hx0 : xl = 0
      · subst hx0
        simp only [beq_self_eq_true, cond_true] at h4
        obtain ⟨rfl, rfl⟩ := ret_some h4
        exact ⟨_, w, ρ, append_room (w' := w) hu hi (hlen w) (hcells w rfl) (Nat.le_refl _) rfl, After.same hr ht2 rfl⟩
      · have hb0 : (xl == 0) = false := by simpa using hx0
        simp only [hb0, cond_false] at h4
        obtain ⟨u3, m3, h5, h6⟩ := bind_some h4
        obtain ⟨hg4, rfl⟩ := guard_some h5
        simp only [Nat.ble_eq] at hg4
        obtain ⟨b, m4, h7, h8⟩ := bind_some h6
        obtain ⟨rfl, rfl⟩ := ret_some h8
        obtain ⟨ho, rfl, hnx, hget⟩ := newX_some h7
        rcases hcase with ⟨c, rfl, rfl, rfl⟩ | ⟨a, k, c', news', hk, rfl, hv, hl, hc⟩
        · exact absurd hxl.symm hx0
        · obtain rfl : k = xl := hk.symm.trans hxl
          have hb48 : k * i.bytes ≤ 281474976710656 := Nat.le_trans (Nat.mul_le_mul hg4 hg3) (by decide)
          have hrun := run_append_nil (P := P) w t ty e i z hu hi hz' a k c' news' hl hc (by omega) (by omega) hb48
          have hcap := grownCap_ge w k 0 e
          suffices hA : ∃ ρ', After N ρ m m4 w _ _ _ ρ' from ⟨_, _, hA.choose, hrun, hA.choose_spec⟩
          rw [hn2] at hnx hget ⊢
          refine ⟨_, After.new (b := m.next) (g := m2.t.get) hr2 ho rfl hnx hget (fun b hb1 hb2 => hf b hb1 (by omega)) hv (Builtin.zeroCells z.cells (grownCap w k 0 e - k)).toList e ?_ ?_ (.inl ⟨_, grownCap w k 0 e, Env.put_same _ _ _, rfl, rfl, Nat.le_refl _, hcap, fun hx => by simp at hx, ?_⟩)⟩
          · show (w.drew.alloc _).heap = _
            have : (news' ++ (Builtin.zeroCells z.cells (grownCap w k 0 e - k)).toList).toArray = news'.toArray ++ Builtin.zeroCells z.cells (grownCap w k 0 e - k) := by simp
            rw [this]; rfl
          · exact (Keeps.refl N w).drew.alloc hr.base _
          · show 0 + 0 + grownCap w k 0 e * i.size ≤ news'.length + (Builtin.zeroCells z.cells (grownCap w k 0 e - k)).toList.length
            have e1 : (Builtin.zeroCells z.cells (grownCap w k 0 e - k)).toList.length = (grownCap w k 0 e - k) * i.size := by rw [Array.length_toList]; exact cap_fit z hg1 _
            rw [e1, hl, ← Nat.add_mul]
            simp only [Nat.zero_add]
            exact Nat.mul_le_mul_right _ (by omega)
    | some a =>
      obtain ⟨b, o, sp⟩ := a
      cases sp with
      | some _ => simp only at h4; exact (fail_some h4).elim
      | none =>
      simp only at h4
      obtain ⟨p, c', hp, rfl, hnc, hcc, hex, hfin⟩ := hs.slc
      obtain ⟨blk, m3, h5, h6⟩ := bind_some h4
      obtain ⟨hb, rfl⟩ := getB_some h5
      obtain ⟨u3, m4, h7, h8⟩ := bind_some h6
      obtain ⟨hg4, rfl⟩ := guard_some h7
      simp only [Bool.and_eq_true, beq_iff_eq, Nat.ble_eq] at hg4
      obtain ⟨hg4, hg5⟩ := hg4
      obtain ⟨q, q1, q2, q3, q4, q5, q6⟩ := hr2.blk b blk hb
      rw [hp] at q1
      obtain rfl : p = q := by simpa using q1
      have hsz : p.sz = i.size := by rw [← q2, hg4]
      by_cases hroom : n + xl ≤ c
      · have hble : Nat.ble (n + xl) c = true := by simpa using hroom
        simp only [hble, cond_true] at h8
        by_cases hx0 : xl = 0
        · subst hx0
          simp only [beq_self_eq_true, cond_true] at h8
          obtain ⟨rfl, rfl⟩ := ret_some h8
          have hn0 : news = [] := List.eq_nil_of_length_eq_zero (by rw [hnl, Nat.zero_mul])
          subst hn0
          exact ⟨_, w, ρ, append_room (w' := w) hu hi (hlen w) (hcells w rfl) (by omega) rfl, After.same hr ht2 (.inl ⟨p, c', hp, rfl, rfl, hnc, hcc, hex, hfin⟩)⟩
        · have hb0 : (xl == 0) = false := by simpa using hx0
          simp only [hb0, cond_false] at h8
          obtain ⟨u4, m5, h9, h10⟩ := bind_some h8
          obtain ⟨hg6, rfl⟩ := guard_some h9
          simp only [Bool.and_eq_true, Bool.not_eq_true'] at hg6
          obtain ⟨l, hl, h11⟩ := lay_some (g := fun l => do
            setB b (some { blk with cells := l })
            M.ret (Value.slice (some ⟨b, o, none⟩) (n + xl) c)) h10
          obtain ⟨u5, m6, h12, h13⟩ := bind_some h11
          obtain ⟨hnx, hget⟩ := setB_some h12
          obtain ⟨rfl, rfl⟩ := ret_some h13
          obtain ⟨w', hw1, hw2, hw3⟩ := write_run (P := P) (g' := m6.t.get) hr2 hb hp hg6.1 hl hnew hg6.2 hget
          refine ⟨_, w', ρ, append_room (w' := w') hu hi (hlen w) (hcells w rfl) (by omega) ?_, ⟨.refl ρ, fun b h h' => absurd h h', hw2, .inl ⟨p, c', hp, rfl, rfl, by omega, hcc, hex, hfin⟩, hw3, fun b p h h' => absurd (h.symm.trans h') (by simp)⟩⟩
          simp only [add_off, Nat.add_assoc]
          rw [← Nat.add_assoc] at hw1
          rw [← Nat.add_assoc]
          exact hw1
      · have hble : Nat.ble (n + xl) c = false := by rw [← Bool.not_eq_true, Nat.ble_eq]; exact hroom
        simp only [hble, cond_false] at h8
        cases hold : takeN blk.cells o (n * i.size) with
        | none => simp only [hold] at h8; exact (fail_some h8).elim
        | some old =>
        simp only [hold] at h8
        -- growing: a new row
        have hxs : ∃ (a : Addr) (k c1 : Nat) (news' : List Value), k = xl ∧ x' = .slice (some a) k c1 ∧ VRs ρ new news' ∧ news'.length = k * i.size ∧ ∀ j v, news'[j]? = some v → w.cell? (a.add j) = some v := by
          rcases hcase with ⟨c1, rfl, rfl, rfl⟩ | ⟨a, k, c1, news', hk, rfl, hv, hl, hc⟩
          · have : xl = 0 := hxl.symm
            omega
          · exact ⟨a, k, c1, news', hk.symm.trans hxl, rfl, hv, hl, hc⟩
        obtain ⟨a, k, c1, news', rfl, rfl, hv, hl, hc⟩ := hxs
        obtain ⟨olds, ho1, ho2, ho3⟩ := cells_read hr2 hb hp hold
        have hb48 : (n + k) * i.bytes ≤ 140737488355328 := Nat.le_trans (Nat.mul_le_mul hg5 hg3) (by decide)
        have grow : ∀ (g : Nat → Option Blk), Rel N ρ g w → ∀ m7, c' < n + k → newX (old ++ new) i.size true m7 = some (m.next, m') → m7.next = m.next → (∀ d, m7.t.get d = g d) →
            ∃ v' w' ρ', (Builtin.append_ #[t, t] ty #[.slice (some ⟨p.blk, p.off + o, none⟩) n c', .slice (some a) k c1]).run P w = .ok v' w' ∧ After N ρ m m' w (.slice (some ⟨m.next, 0, none⟩) (n + k) (n + k)) v' w' ρ' := by
          intro g hrg m7 hlt hnew7 hnx7 hgg
          obtain ⟨ho, hmm, hnx, hget⟩ := newX_some hnew7
          have hrun := run_append_grow (P := P) w t ty e i z hu hi hz' ⟨p.blk, p.off + o, none⟩ n c' olds ho2 ho3 a k c1 news' hl hc hlt (by omega) (growslice_fits hlt hb48)
          have hcap := grownCap_ge w (n + k) c' e
          suffices hA : ∃ ρ', After N ρ m m' w _ _ _ ρ' from ⟨_, _, hA.choose, hrun, hA.choose_spec⟩
          rw [hnx7] at hnx hget
          refine ⟨_, After.new (b := m.next) (g := g) hrg ho rfl hnx (fun d => by rw [hget, hgg]) hf (ho1.append hv) (Builtin.zeroCells z.cells (grownCap w (n + k) c' e - (n + k))).toList e ?_ ?_
            (.inl ⟨_, grownCap w (n + k) c' e, Env.put_same _ _ _, rfl, rfl, Nat.le_refl _, hcap, fun hx => by simp at hx, ?_⟩)⟩
          · show (w.drew.alloc _).heap = _
            have : (olds ++ news' ++ (Builtin.zeroCells z.cells (grownCap w (n + k) c' e - (n + k))).toList).toArray = olds.toArray ++ news'.toArray ++ Builtin.zeroCells z.cells (grownCap w (n + k) c' e - (n + k)) := by simp
            rw [this]; rfl
          · exact (Keeps.refl N w).drew.alloc hr.base _
          · show 0 + 0 + grownCap w (n + k) c' e * i.size ≤ (olds ++ news').length + (Builtin.zeroCells z.cells (grownCap w (n + k) c' e - (n + k))).toList.length
            have e1 : (Builtin.zeroCells z.cells (grownCap w (n + k) c' e - (n + k))).toList.length = (grownCap w (n + k) c' e - (n + k)) * i.size := by rw [Array.length_toList]; exact cap_fit z hg1 _
            rw [e1, List.length_append, ho2, hl, ← Nat.add_mul, ← Nat.add_mul]
            simp only [Nat.zero_add]
            exact Nat.mul_le_mul_right _ (by omega)
        cases hgr : blk.grow with
        | false =>
          simp only [hgr, cond_false] at h8
          obtain ⟨b', m5, h9, h10⟩ := bind_some h8
          obtain ⟨rfl, rfl⟩ := ret_some h10
          obtain ⟨_, hbm, _, _⟩ := newX_some h9
          obtain rfl : b' = m.next := by rw [hbm]; exact hn2
          have hexact : p.exact = true := by rw [q3] at hgr; simpa using hgr
          have := hex hexact
          exact grow m2.t.get hr2 _ (by omega) h9 hn2 (fun _ => rfl)
        | true =>
          simp only [hgr, cond_true] at h8
          obtain ⟨u4, m5, h9, h10⟩ := bind_some h8
          obtain ⟨hg6, rfl⟩ := guard_some h9
          simp only [Bool.and_eq_true, beq_iff_eq, Bool.not_eq_true'] at hg6
          obtain ⟨u5, m6, h11, h12⟩ := bind_some h10
          obtain ⟨hnx6, hget6⟩ := setB_some h11
          obtain ⟨b', m7, h13, h14⟩ := bind_some h12
          obtain ⟨rfl, rfl⟩ := ret_some h14
          obtain ⟨ho7, hbm, hnx7, hget7⟩ := newX_some h13
          have hmn : m6.next = m.next := by rw [hnx6]; exact hn2
          obtain rfl : b' = m.next := by rw [hbm, hmn]
          by_cases hlt : c' < n + k
          · exact grow m6.t.get (hr2.kill b hget6) m6 hlt h13 hmn (fun _ => rfl)
          · have hfree : ρ m.next = none := hf m.next (Nat.le_refl _) (by omega)
            have hones : new.all oneV = true := by rw [List.all_append] at ho7; simp only [Bool.and_eq_true] at ho7; exact ho7.2
            have hmul : (n + k) * p.sz ≤ c' * p.sz := Nat.mul_le_mul_right _ (by omega)
            have hnl2 : new.length = k * i.size := by rw [← hv.length, hl]
            obtain ⟨w', e1, e2, e3⟩ := Rel.extend (P := P) (g' := m7.t.get) hr2 hb hp hg6.2 hgr (o := o) (L := n * i.size) hg6.1 hold hv hones (by rw [← hg6.1, hnl2]; rw [hsz, Nat.add_mul] at hmul; rw [hsz] at hfin; omega) hfree (by
              intro d
              rw [hget7, hget6, hmn, hg4])
            refine ⟨_, w', _, append_room (w' := w') hu hi rfl (run_firstCells_some (P := P) w i.size k a k c1 news' hl hc) (Nat.le_of_not_lt hlt) ?_, ⟨Env.ext hfree _, fun d hd hd' => ?_, e2, (.inl ⟨_, c', Env.put_same _ _ _, rfl, rfl, Nat.le_refl _, by omega, fun hx => by simp at hx, hfin⟩), e3, fun d s hd hs hm => by
              by_cases hdm : d = m.next
              · subst hdm
                rw [Env.put_same] at hs
                obtain rfl := Option.some.inj hs
                simp only at hm; omega
              · rw [Env.put_ne _ _ hdm] at hs; exact absurd (hd.symm.trans hs) (by simp)⟩⟩
            · simp only [add_off]
              rw [Nat.add_assoc, hg6.1]
              exact e1
            · by_cases hdm : d = m.next
              · subst hdm; exact ⟨Nat.le_refl _, by omega⟩
              · rw [Env.put_ne _ _ hdm] at hd'; exact absurd hd hd'
  | _ => simp only at h4; exact (fail_some h4).elim

/-- So many zeros, appended to nothing. -/
theorem zeros_does {t u ty : TypeId} {k : IntKind} {n : Int} {v : Value} (h : zerosX P t u n m = some (v, m')) (hr : Rel N ρ m.t.get w) (hf : Fresh ρ m m') :
    ∃ v' w' ρ', (Builtin.append_ #[t, u] ty #[.slice none 0 0, .int k n]).run P w = .ok v' w' ∧ After N ρ m m' w v v' w' ρ' := by
  unfold zerosX at h
  obtain ⟨e, hu⟩ : ∃ e, P.underlying t = some (.slice e) := by
    cases hu : P.underlying t with
    | none => simp only [hu] at h; exact (fail_some h).elim
    | some d => cases d <;> first | exact ⟨_, rfl⟩ | (simp only [hu] at h; exact (fail_some h).elim)
  obtain ⟨kn, hu'⟩ : ∃ kn, P.underlying u = some (.int kn) := by
    cases hu' : P.underlying u with
    | none => simp only [hu, hu'] at h; exact (fail_some h).elim
    | some d => cases d <;> first | exact ⟨_, rfl⟩ | (simp only [hu, hu'] at h; exact (fail_some h).elim)
  simp only [hu, hu'] at h
  cases hi : P.info? e with
  | none => simp only [hi] at h; exact (fail_some h).elim
  | some i =>
  cases hz : zeroT P e with
  | none => simp only [hi, hz] at h; exact (fail_some h).elim
  | some z =>
  simp only [hi, hz] at h
  obtain ⟨u1, m1, h1, h2⟩ := bind_some h
  obtain ⟨hg, rfl⟩ := guard_some h1
  simp only [Bool.and_eq_true, beq_iff_eq, Nat.blt_eq, Nat.ble_eq, decide_eq_true_eq] at hg
  obtain ⟨⟨⟨hg1, hg2⟩, hg3, hg4⟩, hg5⟩ := hg
  obtain ⟨i', hi', hz', hzp⟩ := zeroT_info hz
  rw [hi] at hi'
  obtain rfl := Option.some.inj hi'
  obtain ⟨b, m2, h5, h6⟩ := bind_some h2
  obtain ⟨rfl, rfl⟩ := ret_some h6
  obtain ⟨ho, rfl, hnx, hget⟩ := newX_some h5
  obtain ⟨q, rfl⟩ := Int.eq_ofNat_of_zero_le (show 0 ≤ n by omega)
  have hq : ((q : Int)).toNat = q := Int.toNat_natCast q
  rw [hq] at *
  have hb48 : q * i.bytes ≤ 281474976710656 := Nat.le_trans (Nat.mul_le_mul (show q ≤ 1048576 by omega) hg5) (by decide)
  have hrun := Lib.run_append_nil_zeros (P := P) w t u ty e i z k kn hu hu' hi hz' q (by omega) hg2 (by omega) hb48
  have hcap := grownCap_ge w q 0 e
  have hzr := zeros_rel (ρ := ρ) (e := e) (n := q) hzp hg1 hg2
  suffices hA : ∃ ρ', After N ρ m m2 w _ _ _ ρ' from ⟨_, _, hA.choose, hrun, hA.choose_spec⟩
  refine ⟨_, After.new (b := m.next) (g := m.t.get) hr ho rfl hnx hget hf hzr (Builtin.zeroCells z.cells (grownCap w q 0 e - q)).toList e ?_ ?_ (.inl ⟨_, grownCap w q 0 e, Env.put_same _ _ _, rfl, rfl, Nat.le_refl _, hcap, fun hx => by simp at hx, ?_⟩)⟩
  · have hs : z.cells.size = i.size := by rw [cells_arr, hg1]; rfl
    have e1 : (((Array.range (q * i.size)).map fun j => z.cells[j % z.cells.size]!).toList ++ (Builtin.zeroCells z.cells (grownCap w q 0 e - q)).toList).toArray = Builtin.zeroCells z.cells q ++ Builtin.zeroCells z.cells (grownCap w q 0 e - q) := by
      rw [← hs]
      apply Array.ext'
      simp [Builtin.zeroCells]
    show (w.drew.alloc _).heap = _
    rw [e1]; rfl
  · exact (Keeps.refl N w).drew.alloc hr.base _
  · have e1 : (Builtin.zeroCells z.cells (grownCap w q 0 e - q)).toList.length = (grownCap w q 0 e - q) * i.size := by rw [Array.length_toList]; exact cap_fit z hg1 _
    have e0 : ((Array.range (q * i.size)).map fun j => z.cells[j % z.cells.size]!).toList.length = q * i.size := by rw [Array.length_toList, Array.size_map, Array.size_range]
    rw [e1, e0, ← Nat.add_mul]
    simp only [Nat.zero_add]
    exact Nat.mul_le_mul_right _ (by omega)

/-- What is copied, read. -/
theorem taken_does {x x' : Value} {n k : Nat} {new : List Value} (hx : VR ρ x x') (h : takenX x n k m = some (some new, m')) (hr : Rel N ρ m.t.get w) :
    m'.t = m.t ∧ m'.next = m.next ∧ ∃ news, VRs ρ new news ∧ (Builtin.lenOf x').run P w = .ok (sliceLen x) w ∧ (Builtin.firstCells k (Nat.min (sliceLen x) n) x').run P w = .ok news.toArray w := by
  unfold takenX at h
  split at h
  · obtain ⟨h1, rfl⟩ := ret_some h
    obtain rfl := Option.some.inj h1
    obtain rfl := hx
    exact ⟨rfl, rfl, [], .nil, rfl, run_firstCells_none _ _ _ _ _⟩
  · rename_i b o j c
    obtain ⟨blk, m1, h1, h2⟩ := bind_some h
    obtain ⟨hb, rfl⟩ := getB_some h1
    obtain ⟨h3, rfl⟩ := ret_some h2
    obtain ⟨p, c', hp, rfl, _⟩ := hx.slc
    obtain ⟨r', t1, t2, t3⟩ := cells_read hr hb hp h3
    exact ⟨rfl, rfl, r', t1, rfl, run_firstCells_some (P := P) w k _ _ _ _ r' t2 t3⟩
  · obtain ⟨h1, rfl⟩ := ret_some h
    cases h1

theorem copy_does {t ty : TypeId} {ts : Array TypeId} {d d' s s' v : Value} (ht : ts[0]? = some t) (hd : VR ρ d d') (hs : VR ρ s s') (h : copyX P t d s m = some (v, m')) (hr : Rel N ρ m.t.get w) :
    ∃ v' w', (Builtin.copy_ ts ty #[d', s']).run P w = .ok v' w' ∧ After N ρ m m' w v v' w' ρ := by
  unfold copyX at h
  obtain ⟨e, hu⟩ : ∃ e, P.underlying t = some (.slice e) := by
    cases hu : P.underlying t with
    | none => simp only [hu] at h; exact (fail_some h).elim
    | some d => cases d <;> first | exact ⟨_, rfl⟩ | (simp only [hu] at h; exact (fail_some h).elim)
  simp only [hu] at h
  cases d with
  | slice a n c =>
    cases a with
    | none =>
      cases n with
      | succ n => simp only at h; exact (fail_some h).elim
      | zero =>
        obtain rfl : d' = .slice none 0 c := hd
        simp only at h
        cases hk : sizeT P e with
        | none => simp only [hk] at h; exact (fail_some h).elim
        | some k =>
          simp only [hk] at h
          obtain ⟨onew, m1, h1, h2⟩ := bind_some h
          cases onew with
          | none => simp only at h2; exact (fail_some h2).elim
          | some new =>
            simp only at h2
            obtain ⟨rfl, rfl⟩ := ret_some h2
            obtain ⟨t1, t2, news, t3, t4, t5⟩ := taken_does (P := P) hs h1 hr
            refine ⟨.int .i64 0, w, ?_, After.same hr t1 rfl⟩
            have h0 : Nat.min (sliceLen s) 0 = 0 := Nat.min_zero _
            rw [h0] at t5
            simp [Builtin.copy_, ht, run_underlying hu, t4, sizeT_run hk, h0, t5, goInt]
    | some a =>
      obtain ⟨b, o, sp⟩ := a
      cases sp with
      | some _ => simp only at h; exact (fail_some h).elim
      | none =>
        obtain ⟨p, c', hp, rfl, _⟩ := hd.slc
        simp only at h
        cases hk : sizeT P e with
        | none => simp only [hk] at h; exact (fail_some h).elim
        | some k =>
          simp only [hk] at h
          obtain ⟨onew, m1, h1, h2⟩ := bind_some h
          cases onew with
          | none => simp only at h2; exact (fail_some h2).elim
          | some new =>
            simp only at h2
            obtain ⟨t1, t2, news, t3, t4, t5⟩ := taken_does (P := P) hs h1 hr
            obtain ⟨blk, m2, h3, h4⟩ := bind_some h2
            obtain ⟨hb, rfl⟩ := getB_some h3
            obtain ⟨u, m3, h5, h6⟩ := bind_some h4
            obtain ⟨hg, rfl⟩ := guard_some h5
            simp only [Bool.and_eq_true, Bool.not_eq_true'] at hg
            obtain ⟨l, hl, h7⟩ := lay_some (g := fun l => do
              setB b (some { blk with cells := l })
              M.ret (Value.int .i64 (Nat.min (sliceLen s) n))) h6
            obtain ⟨u2, m4, h8, h9⟩ := bind_some h7
            obtain ⟨hnx, hget⟩ := setB_some h8
            obtain ⟨rfl, rfl⟩ := ret_some h9
            have hr1 : Rel N ρ m1.t.get w := by rw [t1]; exact hr
            obtain ⟨w', hw1, hw2, hw3⟩ := write_run (P := P) (g' := m4.t.get) hr1 hb hp hg.1 hl t3 hg.2 hget
            refine ⟨_, w', ?_, ⟨.refl ρ, fun b h h' => absurd h h', hw2, rfl, hw3, fun b p h h' => absurd (h.symm.trans h') (by simp)⟩⟩
            simp [Builtin.copy_, ht, run_underlying hu, t4, sizeT_run hk, t5, goInt, hw1]
  | _ => simp only at h; exact (fail_some h).elim

end Go.Clean
