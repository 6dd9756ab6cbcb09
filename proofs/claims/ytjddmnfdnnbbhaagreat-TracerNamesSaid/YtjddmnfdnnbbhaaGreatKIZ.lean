/- The clean executor: make, slices of slices, append, copy. -/
import Derived.Test.YtjddmnfdnnbbhaaGreatKGZ
import Derived.IntWalk
set_option linter.unusedSimpArgs false
set_option linter.unusedVariables false
set_option linter.unusedVariables false
set_option linter.unusedSimpArgs false
namespace Go.Clean
open Go Go.RowKit
variable {P : Program} {N : Nat} {ρ : Env} {m m' : Mem} {w : World}

theorem zeroT_size {e : TypeId} {i : TypeInfo} (h : P.info? e = some i) : (sizeOf e).run P w = .ok i.size w := sizeT_run (by simp [sizeT, h])
theorem typeInfo_run {e : TypeId} {i : TypeInfo} (h : P.info? e = some i) : (typeInfo e).run P w = .ok i w := by simp [typeInfo, h]

theorem makeSlice_does {t : TypeId} {l l' c c' v : Value} (hl : VR ρ l l') (hc : VR ρ c c') (h : makeSliceX P t l c m = some (v, m')) (hr : Rel N ρ m.t.get w) (hf : Fresh ρ m m') :
    ∃ v' w' ρ', (Instr.makeSlice t l' c').run P w = .ok v' w' ∧ After N ρ m m' w v v' w' ρ' := by
  unfold makeSliceX at h
  obtain ⟨e, hu⟩ : ∃ e, P.underlying t = some (.slice e) := by
    cases hu : P.underlying t with
    | none => simp only [hu] at h; exact (fail_some h).elim
    | some d => cases d <;> first | exact ⟨_, rfl⟩ | (simp only [hu] at h; exact (fail_some h).elim)
  obtain ⟨k, ln, rfl⟩ : ∃ k n, l = .int k n := by
    cases l <;> first | exact ⟨_, _, rfl⟩ | (simp only [hu] at h; exact (fail_some h).elim)
  obtain ⟨k2, cn, rfl⟩ : ∃ k n, c = .int k n := by
    cases c <;> first | exact ⟨_, _, rfl⟩ | (simp only [hu] at h; exact (fail_some h).elim)
  obtain rfl := hl.int
  obtain rfl := hc.int
  simp only [hu] at h
  cases hi : P.info? e with
  | none => simp only [hi] at h; exact (fail_some h).elim
  | some i =>
    cases hz : zeroT P e with
    | none => simp only [hi, hz] at h; exact (fail_some h).elim
    | some z =>
      simp only [hi, hz] at h
      obtain ⟨u, m1, h3, h4⟩ := bind_some h
      obtain ⟨hg, rfl⟩ := guard_some h3
      simp only [Bool.and_eq_true, beq_iff_eq, Nat.blt_eq, Nat.ble_eq, decide_eq_true_eq] at hg
      obtain ⟨⟨⟨hg1, hg2⟩, hg3, hg4, hg5⟩, hg6⟩ := hg
      obtain ⟨b, m2, h5, h6⟩ := bind_some h4
      obtain ⟨rfl, rfl⟩ := ret_some h6
      obtain ⟨hz1, hz2⟩ := zeroT_run (w := w) hz
      have hzr := zeros_rel (ρ := ρ) (e := e) (n := cn.toNat) hz2 hg1 hg2
      obtain ⟨ho, rfl, hnx, hget⟩ := newX_some h5
      have w1 : IntKind.i64.wrap ln = ln := IntWalk.i64_in _ (by omega)
      have w2 : IntKind.i64.wrap cn = cn := IntWalk.i64_in _ (by omega)
      have hbytes : (i.bytes : Int) * cn ≤ 2 ^ 48 := by
        have : ((i.bytes * cn.toNat : Nat) : Int) ≤ 1099511627776 := Int.ofNat_le.2 hg6
        rw [Int.natCast_mul, Int.toNat_of_nonneg (by omega)] at this
        omega
      refine ⟨.slice (some ⟨w.heap.size, 0, none⟩) ln.toNat cn.toNat, w.alloc (.cells ((Array.range (cn.toNat * i.size)).map fun j => z.cells[j % z.cells.size]!) e (0, 0)), _, ?_,
        After.new hr ho rfl hnx hget hf hzr [] e (by rw [List.append_nil]; rfl) (below_push hr.base _) (.inl ⟨_, cn.toNat, Env.put_same _ _ _, rfl, rfl, by omega, Nat.le_refl _, fun _ => rfl, ?_⟩)⟩
      · unfold Instr.makeSlice
        have hcond : ¬ ((decide (cn < 0) || decide ((i.bytes : Int) * cn > 2 ^ 48) || decide (ln < 0) || decide (ln > cn)) = true) := by
          have b1 : decide (cn < 0) = false := decide_eq_false (by omega)
          have b2 : decide ((i.bytes : Int) * cn > 2 ^ 48) = false := decide_eq_false (Int.not_lt.2 hbytes)
          have b3 : decide (ln < 0) = false := decide_eq_false (by omega)
          have b4 : decide (ln > cn) = false := decide_eq_false (by omega)
          rw [b1, b2, b3, b4]
          exact Bool.false_ne_true
        simp only [Sem.run_bind, run_underlying hu, Result.andThen_ok, asInt, asIntOf, Sem.run_pure, typeInfo_run hi, w1, w2]
        rw [if_neg hcond]
        by_cases h0 : cn.toNat * i.size = 0
        · have hc0 : cn.toNat = 0 := by
            rcases Nat.mul_eq_zero.1 h0 with h | h
            · exact h
            · omega
          have hd : (Array.map (fun (j : Nat) => z.cells[j % z.cells.size]!) (Array.range (cn.toNat * i.size))) = #[] := by rw [h0]; simp
          have hd2 : (Array.map (fun (j : Nat) => (#[] : Array Value)[j % (#[] : Array Value).size]!) (Array.range (cn.toNat * i.size))) = #[] := by rw [h0]; simp
          simp only [Sem.run_bind, run_askRoom, Result.andThen_ok, zeroT_size hi, h0, if_true, Sem.run_pure]
          rw [h0] at hd hd2
          rw [hd, hd2]
          simp only [newRow_run, Result.andThen_ok]
        · simp only [Sem.run_bind, run_askRoom, Result.andThen_ok, zeroT_size hi, h0, if_false, Sem.run_pure, hz1, newRow_run]
      · have := hzr.length
        rw [repeatL_length, ← hg1] at this
        simp only [List.length_nil, Nat.add_zero, Nat.zero_add, this, Nat.le_refl]

def OVR (ρ : Env) : Option Value → Option Value → Prop
  | none, none => True
  | some v, some v' => VR ρ v v'
  | _, _ => False
theorem evO_rel {fr : Fr} {a : Act} (h : FrR ρ fr a) {x : Option Operand} {v : Option Value} (he : evO fr x = some v) : OVR ρ v (x.map a.eval) := by
  cases x with
  | none => obtain rfl : none = v := by simpa [evO] using he
            trivial
  | some x =>
    unfold evO at he
    obtain ⟨u, hu, rfl⟩ := Option.map_eq_some_iff.1 he
    exact ev_rel h hu



/-- A low or high bound that fits. -/
theorem boundX_some {x x' : Option Value} {d y n : Nat} (hx : OVR ρ x x') (h : boundX x d y = some n) :
    (x = none ∧ x' = none ∧ n = d) ∨ ∃ k i, x = some (.int k i) ∧ x' = some (.int k i) ∧ n = i.toNat ∧ 0 ≤ i ∧ i ≤ y := by
  unfold boundX at h
  cases x with
  | none =>
    cases x' with
    | none => exact .inl ⟨rfl, rfl, by simpa using h.symm⟩
    | some _ => exact hx.elim
  | some v =>
    cases x' with
    | none => exact hx.elim
    | some v' =>
      cases v <;> first | (simp at h; done) | skip
      rename_i k i
      obtain rfl : v' = .int k i := hx
      cases hd : decide (0 ≤ i ∧ i ≤ (y : Int)) with
      | false => simp [hd] at h
      | true =>
        simp only [hd, cond_true, Option.some.injEq] at h
        have := of_decide_eq_true hd
        exact .inr ⟨k, i, rfl, rfl, h.symm, this.1, this.2⟩
theorem sliceBound_run {k : IntKind} {i : Int} {y : Nat} {code : BoundsCode} (h0 : 0 ≤ i) (h1 : i ≤ y) : (Instr.sliceBound (.int k i) y code).run P w = .ok i.toNat w := by
  unfold Instr.sliceBound
  simp [asIntOf, h0, h1]

theorem low_run {lo' lo : Option Value} {h l c : Nat} {x : BoundsCode} (ho : OVR ρ lo lo') (e2 : boundX lo 0 h = some l) : (match lo' with
    | some v => (do let l ← Instr.sliceBound v h x; pure (l, h, c) : Sem (Nat × Nat × Nat))
    | none => (do let l ← pure 0; pure (l, h, c) : Sem (Nat × Nat × Nat))).run P w = .ok (l, h, c) w := by
  rcases boundX_some ho e2 with ⟨rfl, rfl, rfl⟩ | ⟨k, i, rfl, rfl, rfl, h0, h1⟩
  · rfl
  · simp only [Sem.run_bind, sliceBound_run h0 h1, Result.andThen_ok, Sem.run_pure]

theorem bounds_two {lo' hi' : Option Value} {lo hi : Option Value} {len cap cap' h l : Nat} (hc : cap ≤ cap') (ho : OVR ρ lo lo') (hh : OVR ρ hi hi') (e1 : boundX hi len cap = some h) (e2 : boundX lo 0 h = some l) :
    (Instr.sliceBounds true len cap' lo' hi' none).run P w = .ok (l, h, cap') w := by
  unfold Instr.sliceBounds
  rcases boundX_some hh e1 with ⟨rfl, rfl, rfl⟩ | ⟨k, i, rfl, rfl, rfl, h0, h1⟩
  · simp only [Sem.run_bind, Sem.run_pure, Result.andThen_ok]
    exact low_run ho e2
  · simp only [Sem.run_bind, Sem.run_pure, Result.andThen_ok, if_true, sliceBound_run h0 (show i ≤ (cap' : Int) by omega)]
    exact low_run ho e2

theorem sliceAt_slice {t e : TypeId} (hu : P.underlying t = some (.slice e)) (x : Value) (lo hi mx : Option Value) : (Instr.sliceAt t x lo hi mx).run P w = (Instr.slice t x lo hi mx).run P w := by
  unfold Instr.sliceAt
  rw [Sem.run_bind, run_underlying hu]; rfl

theorem slice_does {t : TypeId} {x x' v : Value} {lo lo' hi hi' mx mx' : Option Value} (hx : VR ρ x x') (hlo : OVR ρ lo lo') (hhi : OVR ρ hi hi') (hmx : OVR ρ mx mx') (h : sliceX P t x lo hi mx m = some (v, m')) (hr : Rel N ρ m.t.get w) (hf : Fresh ρ m m') :
    ∃ v' ρ', (Instr.sliceAt t x' lo' hi' mx').run P w = .ok v' w ∧ After N ρ m m' w v v' w ρ' := by
  unfold sliceX at h
  cases hu : P.underlying t with
  | none => simp only [hu] at h; exact (fail_some h).elim
  | some d =>
    cases d with
    | slice e =>
      rw [sliceAt_slice hu]
      by_cases hnil : x = .slice none 0 0
      · subst hnil
        obtain rfl : x' = .slice none 0 0 := hx
        simp only [hu] at h
        cases hn : sizeT P e with
        | none => simp only [hn] at h; exact (fail_some h).elim
        | some n =>
        cases mx with
        | some _ => simp only [hn] at h; exact (fail_some h).elim
        | none =>
        cases mx' with
        | some _ => exact hmx.elim
        | none =>
        cases e1 : boundX hi 0 0 with
        | none => simp only [hn, e1] at h; exact (fail_some h).elim
        | some hh =>
        cases e2 : boundX lo 0 0 with
        | none => simp only [hn, e1, e2] at h; exact (fail_some h).elim
        | some l =>
        simp only [hn, e1, e2] at h
        obtain ⟨rfl, rfl⟩ := ret_some h
        have hh0 : hh = 0 := by
          rcases boundX_some hhi e1 with ⟨_, _, rfl⟩ | ⟨k, i, _, _, rfl, h0, h1⟩ <;> omega
        subst hh0
        have hl0 : l = 0 := by
          rcases boundX_some hlo e2 with ⟨_, _, rfl⟩ | ⟨k, i, _, _, rfl, h0, h1⟩ <;> omega
        subst hl0
        refine ⟨.slice none 0 0, ρ, ?_, .same hr rfl rfl⟩
        unfold Instr.slice
        simp only [Sem.run_bind, run_underlying hu, Result.andThen_ok]
        have hb2 := bounds_two (P := P) (w := w) (ρ := ρ) (Nat.le_refl 0) hlo hhi e1 e2
        simp only [hb2, Result.andThen_ok, sizeT_run hn, Sem.run_pure, if_true, Nat.sub_self]
      obtain ⟨b, o, len, cap, rfl⟩ : ∃ b o len cap, x = .slice (some ⟨b, o, none⟩) len cap := by
        cases x with
        | slice a n c =>
          cases a with
          | none =>
            cases n with
            | zero =>
              cases c with
              | zero => exact absurd rfl hnil
              | succ c => simp only [hu] at h; exact (fail_some h).elim
            | succ n => simp only [hu] at h; exact (fail_some h).elim
          | some a =>
            obtain ⟨b, o, s⟩ := a
            cases s with
            | none => exact ⟨_, _, _, _, rfl⟩
            | some s => simp only [hu] at h; exact (fail_some h).elim
        | _ => simp only [hu] at h; exact (fail_some h).elim
      obtain ⟨p, c', hp, rfl, hlc, hcc, hex, hfin⟩ := hx.slc
      simp only [hu] at h
      cases hn : sizeT P e with
      | none => simp only [hn] at h; exact (fail_some h).elim
      | some n =>
        simp only [hn] at h
        obtain ⟨blk, m1, h1, h2⟩ := bind_some h
        obtain ⟨hb, rfl⟩ := getB_some h1
        obtain ⟨u, m2, h3, h4⟩ := bind_some h2
        obtain ⟨hg, rfl⟩ := guard_some h3
        simp only [beq_iff_eq] at hg
        obtain ⟨q, q1, q2, q3, _⟩ := hr.blk b blk hb
        rw [hp] at q1
        obtain rfl : p = q := by simpa using q1
        have hmono : ∀ (k : Nat) (c : Nat), k + c ≤ c' → p.off + (o + k * n) + c * p.sz ≤ p.fin := by
          intro k c hk
          have h9 : (k + c) * p.sz ≤ c' * p.sz := Nat.mul_le_mul_right _ hk
          rw [Nat.add_mul] at h9
          have : n = p.sz := by rw [← hg, q2]
          rw [this]; omega
        have hmono0 : ∀ (c : Nat), c ≤ c' → p.off + o + c * p.sz ≤ p.fin := by
          intro c hk
          have h9 : c * p.sz ≤ c' * p.sz := Nat.mul_le_mul_right _ hk
          omega
        unfold Instr.slice
        simp only [Sem.run_bind, run_underlying hu, Result.andThen_ok]
        cases mx with
        | none =>
          cases mx' with
          | some _ => exact hmx.elim
          | none =>
            simp only at h4
            cases e1 : boundX hi len cap with
            | none => simp only [e1] at h4; exact (fail_some h4).elim
            | some hh =>
              simp only [e1] at h4
              cases e2 : boundX lo 0 hh with
              | none => simp only [e2] at h4; exact (fail_some h4).elim
              | some l =>
                simp only [e2] at h4
                have hb2 := bounds_two (P := P) (w := w) (ρ := ρ) hcc hlo hhi e1 e2
                simp only [hb2, Result.andThen_ok, sizeT_run hn, Sem.run_pure]
                have hhcap : hh ≤ cap := by
                  rcases boundX_some hhi e1 with ⟨_, _, rfl⟩ | ⟨k, i, _, _, rfl, h0, h1⟩ <;> omega
                have hlh : l ≤ hh := by
                  rcases boundX_some hlo e2 with ⟨_, _, rfl⟩ | ⟨k, i, _, _, rfl, h0, h1⟩ <;> omega
                cases hc : (!(cap == l) || l == 0 || !blk.grow) with
                | true =>
                  simp only [hc, cond_true] at h4
                  obtain ⟨rfl, rfl⟩ := ret_some h4
                  refine ⟨_, ρ, rfl, After.same hr rfl ?_⟩
                  by_cases hcl : cap = l
                  · -- the capacity is used up
                    have hcb : (cap == l) = true := by simpa using hcl
                    rw [hcb]
                    by_cases hl0 : l = 0
                    · refine .inl ⟨p, c' - l, hp, rfl, ?_, by omega, by omega, fun hx => by have := hex hx; omega, ?_⟩
                      · simp only [cond_true, hl0, Option.map_some, Nat.zero_mul, add_off, Nat.add_zero]; split <;> rfl
                      · simp only [cond_true]; exact hmono0 _ (by omega)
                    · have hgr : blk.grow = false := by
                        rw [hcb] at hc
                        have : (l == 0) = false := by simpa using hl0
                        rw [this] at hc; simpa using hc
                      have hexact : p.exact = true := by rw [q3] at hgr; simpa using hgr
                      have hc' := hex hexact
                      refine .inl ⟨p, c' - l, hp, rfl, ?_, by omega, by omega, fun hx => by have := hex hx; omega, ?_⟩
                      · rw [if_pos (by omega)]; rfl
                      · simp only [cond_true]; exact hmono0 _ (by omega)
                  · have hcb : (cap == l) = false := by simpa using hcl
                    rw [hcb]
                    refine .inl ⟨p, c' - l, hp, rfl, ?_, by omega, by omega, fun hx => by have := hex hx; omega, ?_⟩
                    · rw [if_neg (by omega)]; simp only [cond_false, Option.map_some, add_off, Nat.add_assoc]
                    · simp only [cond_false]; exact hmono _ _ (by omega)
                | false =>
                  simp only [hc, cond_false] at h4
                  obtain ⟨b', m3, h5, h6⟩ := bind_some h4
                  obtain ⟨rfl, rfl⟩ := ret_some h6
                  rw [newB_eq] at h5
                  simp only [Option.some.injEq, Prod.mk.injEq] at h5
                  obtain ⟨rfl, rfl⟩ := h5
                  simp only [Bool.or_eq_false_iff, Bool.not_eq_false', beq_iff_eq] at hc
                  obtain ⟨⟨hc1, hc2⟩, hc3⟩ := hc
                  have hhl : hh = l := by omega
                  have hfree : ρ m.next = none := hf m.next (Nat.le_refl _) (Nat.lt_succ_self _)
                  generalize hoff : (if c' = l then o else o + l * n) = off
                  have haddr : (if c' = l then some (⟨p.blk, p.off + o, none⟩ : Addr) else (some (⟨p.blk, p.off + o, none⟩ : Addr)).map (·.add (l * n))) = some ⟨p.blk, p.off + off, none⟩ := by
                    rw [← hoff]
                    split
                    · rfl
                    · simp only [Option.map_some, add_off, Nat.add_assoc]
                  refine ⟨.slice (some ⟨p.blk, p.off + off, none⟩) (hh - l) (c' - l), ρ.put m.next ⟨p.blk, p.off + off, p.off + off + (c' - l) * n, n, false⟩, ?_, ?_⟩
                  · rw [haddr]
                  · refine ⟨Env.ext hfree _, fun c hc hc' => ?_, ?_, (.inl ⟨_, c' - l, Env.put_same _ _ _, rfl, by rw [hhl, Nat.sub_self]; rfl, Nat.le_refl _, Nat.zero_le _, fun hx => by simp at hx, by simp only [Nat.add_zero, Nat.le_refl]⟩), .refl N w, fun c s hc hs hm => by
                      by_cases hcm : c = m.next
                      · subst hcm
                        rw [Env.put_same] at hs
                        obtain rfl := Option.some.inj hs
                        simp only at hm; omega
                      · rw [Env.put_ne _ _ hcm] at hs; exact absurd (hc.symm.trans hs) (by simp)⟩
                    · by_cases hcm : c = m.next
                      · subst hcm; exact ⟨Nat.le_refl _, Nat.lt_succ_self _⟩
                      · rw [Env.put_ne _ _ hcm] at hc'; exact absurd hc hc'
                    · have hget : ∀ c, (Trie.set (some { cells := [], sz := n, grow := true, ro := true : Blk }) (m.next + 1) m.t m.next).get c = if c = m.next then some { cells := [], sz := n, grow := true, ro := true } else m.t.get c := by
                        intro c
                        by_cases hcm : c = m.next
                        · subst hcm; rw [if_pos rfl]; exact Trie.get_set_same _ _ _ _ (Nat.lt_succ_self _)
                        · rw [if_neg hcm]; exact Trie.get_set_ne _ _ _ _ _ hcm
                      have hmk : ∀ c x s, (Trie.set (some { cells := [], sz := n, grow := true, ro := true : Blk }) (m.next + 1) m.t m.next).get c = some x → (ρ.put m.next ⟨p.blk, p.off + off, p.off + off + (c' - l) * n, n, false⟩) c = some s → s.fin < s.off → m.t.get c = some x ∧ ρ c = some s := fun c x s hx hs hm => by
                        by_cases hcm : c = m.next
                        · rw [hcm, Env.put_same] at hs
                          obtain rfl := Option.some.inj hs
                          simp only at hm; omega
                        · rw [hget, if_neg hcm] at hx
                          rw [Env.put_ne _ _ hcm] at hs
                          exact ⟨hx, hs⟩
                      refine ⟨hr.base, fun c x hx => ?_, fun c c2 x x2 s s2 hne hx hx2 hro hro2 hs hs2 => ?_, fun c x s hx hs hm => by
                        obtain ⟨hx1, hs1⟩ := hmk c x s hx hs hm
                        obtain ⟨h1, h2, h3⟩ := hr.marks c x s hx1 hs1 hm
                        refine ⟨h1, h2, fun c' x' s' hne' hx' hs' hm' => ?_⟩
                        obtain ⟨hx2, hs2⟩ := hmk c' x' s' hx' hs' hm'
                        exact h3 c' x' s' hne' hx2 hs2 hm'⟩
                      · rw [hget] at hx
                        by_cases hcm : c = m.next
                        · subst hcm
                          rw [if_pos rfl] at hx
                          obtain rfl := Option.some.inj hx
                          exact ⟨_, Env.put_same _ _ _, rfl, rfl, fun i v hi => by simp at hi, fun _ => .inl rfl, fun hh => by simp at hh⟩
                        · rw [if_neg hcm] at hx
                          obtain ⟨s, s1, s2, s3, s4, s5, s6⟩ := hr.blk c x hx
                          refine ⟨s, by rw [Env.put_ne _ _ hcm]; exact s1, s2, s3, fun i v hi => ?_, s5, s6⟩
                          obtain ⟨v', t1, t2, t3⟩ := s4 i v hi
                          exact ⟨v', t1, t2.mono (Env.ext hfree _), t3⟩
                      · rw [hget] at hx hx2
                        have hcm : c ≠ m.next := fun hcm => by rw [if_pos hcm] at hx; obtain rfl := Option.some.inj hx; simp at hro
                        have hcm2 : c2 ≠ m.next := fun hcm => by rw [if_pos hcm] at hx2; obtain rfl := Option.some.inj hx2; simp at hro2
                        rw [if_neg hcm] at hx
                        rw [if_neg hcm2] at hx2
                        rw [Env.put_ne _ _ hcm] at hs
                        rw [Env.put_ne _ _ hcm2] at hs2
                        exact hr.apart c c2 x x2 s s2 hne hx hx2 hro hro2 hs hs2
        | some mv =>
          cases mx' with
          | none => exact hmx.elim
          | some mv' =>
            cases mv <;> first | (simp only at h4; exact (fail_some h4).elim) | skip
            rename_i k j
            obtain rfl : mv' = .int k j := hmx
            cases hi with
            | none => simp only at h4; exact (fail_some h4).elim
            | some hv =>
              cases hi' with
              | none => exact hhi.elim
              | some hv' =>
                cases hv <;> first | (simp only at h4; exact (fail_some h4).elim) | skip
                rename_i k2 hh
                obtain rfl : hv' = .int k2 hh := hhi
                simp only at h4
                obtain ⟨u2, m3, h5, h6⟩ := bind_some h4
                obtain ⟨hg2, rfl⟩ := guard_some h5
                simp only [decide_eq_true_eq] at hg2
                obtain ⟨g1, g2, g3, g4⟩ := hg2
                cases e2 : boundX lo 0 hh.toNat with
                | none => simp only [e2] at h6; exact (fail_some h6).elim
                | some l =>
                  simp only [e2] at h6
                  obtain ⟨rfl, rfl⟩ := ret_some h6
                  have hb2 : (Instr.sliceBounds true len c' lo' (some (.int k2 hh)) (some (.int k j))).run P w = .ok (l, hh.toNat, j.toNat) w := by
                    unfold Instr.sliceBounds
                    simp only [Sem.run_bind, if_true, sliceBound_run g1 (show j ≤ (c' : Int) by omega), Result.andThen_ok, sliceBound_run g3 (show hh ≤ (j.toNat : Int) by omega), Option.isSome_some]
                    exact low_run hlo e2
                  have hlh : l ≤ hh.toNat := by
                    rcases boundX_some hlo e2 with ⟨_, _, rfl⟩ | ⟨k, i, _, _, rfl, h0, h1⟩ <;> omega
                  simp only [hb2, Result.andThen_ok, sizeT_run hn, Sem.run_pure]
                  refine ⟨_, ρ, rfl, After.same hr rfl ?_⟩
                  by_cases hcl : j.toNat = l
                  · have hcb : (j.toNat == l) = true := by simpa using hcl
                    rw [hcb]
                    refine .inl ⟨p, j.toNat - l, hp, rfl, ?_, by omega, Nat.le_refl _, fun _ => rfl, ?_⟩
                    · rw [if_pos hcl]; rfl
                    · simp only [cond_true]; exact hmono0 _ (by omega)
                  · have hcb : (j.toNat == l) = false := by simpa using hcl
                    rw [hcb]
                    refine .inl ⟨p, j.toNat - l, hp, rfl, ?_, by omega, Nat.le_refl _, fun _ => rfl, ?_⟩
                    · rw [if_neg hcl]; simp only [cond_false, Option.map_some, add_off, Nat.add_assoc]
                    · simp only [cond_false]; exact hmono _ _ (by omega)
    | array k e =>
      obtain ⟨b, o, rfl⟩ : ∃ b o, x = .pointer (some ⟨b, o, none⟩) := by
        cases x with
        | pointer a =>
          cases a with
          | none => simp only [hu] at h; exact (fail_some h).elim
          | some a =>
            obtain ⟨b, o, s⟩ := a
            cases s with
            | none => exact ⟨_, _, rfl⟩
            | some s => simp only [hu] at h; exact (fail_some h).elim
        | _ => simp only [hu] at h; exact (fail_some h).elim
      obtain ⟨p, hp, rfl⟩ := hx.ptr
      simp only [hu] at h
      cases hn : sizeT P e with
      | none => simp only [hn] at h; exact (fail_some h).elim
      | some n =>
        cases lo with
        | some _ => simp only [hn] at h; exact (fail_some h).elim
        | none =>
          cases hi with
          | some _ => simp only [hn] at h; exact (fail_some h).elim
          | none =>
            cases mx with
            | some _ => simp only [hn] at h; exact (fail_some h).elim
            | none =>
              cases lo' with
              | some _ => exact hlo.elim
              | none =>
                cases hi' with
                | some _ => exact hhi.elim
                | none =>
                  cases mx' with
                  | some _ => exact hmx.elim
                  | none =>
                    simp only [hn] at h
                    obtain ⟨blk, m1, h1, h2⟩ := bind_some h
                    obtain ⟨hb, rfl⟩ := getB_some h1
                    obtain ⟨u, m2, h3, h4⟩ := bind_some h2
                    obtain ⟨hg, rfl⟩ := guard_some h3
                    obtain ⟨rfl, rfl⟩ := ret_some h4
                    simp only [Bool.and_eq_true, beq_iff_eq, Bool.not_eq_true', Nat.ble_eq] at hg
                    obtain ⟨⟨hg1, hg2⟩, hg3⟩ := hg
                    have hro := hg2
                    obtain ⟨q, q1, q2, q3, q4, q5, q6⟩ := hr.blk b blk hb
                    rw [hp] at q1
                    obtain rfl : p = q := by simpa using q1
                    refine ⟨.slice (some ⟨p.blk, p.off + o, none⟩) k k, ρ, ?_, After.same hr rfl ?_⟩
                    · unfold Instr.sliceAt
                      simp only [Sem.run_bind, run_underlying hu, Result.andThen_ok, Instr.sureAddr, Sem.run_pure, Instr.sliceBounds, sizeT_run hn, Nat.sub_zero]
                      congr 2
                      split
                      · rfl
                      · simp [Addr.add]
                    · obtain ⟨r1, r2, _⟩ := q6 hg2
                      refine .inl ⟨p, k, hp, rfl, rfl, Nat.le_refl _, Nat.le_refl _, fun _ => rfl, ?_⟩
                      show p.off + o + k * p.sz ≤ p.fin
                      have hsz : n = p.sz := by rw [← hg1, q2]
                      rw [← hsz]; omega
    | _ => simp only [hu] at h; exact (fail_some h).elim

end Go.Clean
