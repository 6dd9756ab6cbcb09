/- Words in the clean executor: a shorter row copied, rows cut on both sides, a row trimmed with no write. -/
import Derived.Test.YtghhanifakllpaaBmY
set_option linter.unusedSimpArgs false
set_option linter.unusedVariables false
namespace Go.Proofs.Ytghhanifakllpaa
open Go.Clean

section
variable {m : Mem} {Q : Value → Mem → Prop}
theorem gives_copyS {v : Value} {l l0 : List Nat} {b : Nat} (h : WL m v l) (hb : m.at b = some ⟨wc l0, 1, false, false⟩) (hl : l.length ≤ l0.length)
    (hQ : ∀ m', m'.next = m.next → (∀ c, m'.at c = if c = b then some ⟨wc (l ++ l0.drop l.length), 1, false, false⟩ else m.at c) → Q (.int .i64 l.length) m') :
    Gives (copyX Try.prog 52 (.slice (some ⟨b, 0, none⟩) l0.length l0.length) v) m Q := by
  unfold copyX
  simp only [under_W, size_w]
  rw [gives_bind]
  have emin : Nat.min l.length l0.length = l.length := Nat.min_eq_left hl
  have key : ∀ m1 : Mem, m1.next = m.next → (∀ c, m1.at c = m.at c) → Gives (do
      let blk ← getB b
      M.guard (!blk.ro && (wc l).all oneV)
      fun m => layK blk.cells 0 (wc l) fun
        | some l' => (do setB b (some { blk with cells := l' }); M.ret (Value.int .i64 (Nat.min (sliceLen v) l0.length))) m
        | none => none) m1 Q := fun m1 hn he => by
    rw [gives_bind, gives_getB, he, hb, optQ_some]
    refine (gives_bind _ _ _ _).2 ((gives_guard _ _ _).2 ⟨by simp [wc_one], ?_⟩)
    refine (gives_laid _ _ _ (fun l' => (do setB b (some { (⟨wc l0, 1, false, false⟩ : Blk) with cells := l' }); M.ret (Value.int .i64 (Nat.min (sliceLen v) l0.length)))) _ _).2 ?_
    have ed : (wc l0).drop (wc l).length = wc (l0.drop l.length) := by rw [wc_len]; unfold wc; rw [List.map_drop]
    rw [lay_over _ _ (by rw [wc_len, wc_len]; exact hl), ed, ← wc_app, optQ_some, gives_bind, gives_setB, gives_ret]
    have e : Nat.min (sliceLen v) l0.length = l.length := by
      obtain ⟨a, k, rfl⟩ := h.val
      exact emin
    rw [e]
    exact hQ _ (by simp [hn]) (fun c => by simp [he])
  rcases h.take with ⟨rfl, rfl⟩ | ⟨b2, o2, k2, x2, rfl, h2, h3⟩
  · exact (gives_ret _ _ _).2 (key m rfl fun _ => rfl)
  · unfold takenX
    rw [gives_bind, gives_getB, h2, optQ_some, gives_ret]
    rw [emin, h3]
    exact key _ (by simp) fun c => by simp
theorem gives_cutB {b o len cap lo k : Nat} {q q' : IntKind} {x : Blk} (hb : m.at b = some x) (hs : x.sz = 1) (hg : x.grow = false) (hlo : lo ≤ k) (hk : k ≤ cap) (hc : lo < cap) (h : Q (.slice (some ⟨b, o + lo, none⟩) (k - lo) (cap - lo)) (m.rd b)) :
    Gives (sliceX Try.prog 52 (.slice (some ⟨b, o, none⟩) len cap) (some (.int q' lo)) (some (.int q k)) none) m Q := by
  unfold sliceX
  simp only [under_W, size_w]
  rw [gives_bind, gives_getB, hb, optQ_some, gives_bind, gives_guard]
  refine ⟨by rw [hs]; rfl, ?_⟩
  have e1 : boundX (some (Value.int q (k : Int))) len cap = some k := by
    show (bif decide (0 ≤ (k : Int) ∧ (k : Int) ≤ (cap : Int)) then some (Int.toNat (k : Int)) else none) = some k
    have : decide (0 ≤ (k : Int) ∧ (k : Int) ≤ (cap : Int)) = true := by simp; omega
    rw [this]; simp
  have e2 : boundX (some (Value.int q' (lo : Int))) 0 k = some lo := by
    show (bif decide (0 ≤ (lo : Int) ∧ (lo : Int) ≤ (k : Int)) then some (Int.toNat (lo : Int)) else none) = some lo
    have : decide (0 ≤ (lo : Int) ∧ (lo : Int) ≤ (k : Int)) = true := by simp; omega
    rw [this]; simp
  have e3 : (cap == lo) = false := by simp; omega
  simp only [e1, e2, e3, hg, Nat.mul_one, Bool.not_false, Bool.true_or, Bool.or_true, cond_true, cond_false]
  rw [gives_ret]
  exact h
end
/-- What has been logged meanwhile only reads. -/
def RdL (m m' : Mem) : Prop := ∃ nl, m'.log = nl ++ m.log ∧ readsL nl = true
theorem RdL.refl (m : Mem) : RdL m m := ⟨[], rfl, rfl⟩
theorem RdL.trans {m m1 m2 : Mem} (h : RdL m m1) (k : RdL m1 m2) : RdL m m2 := by
  obtain ⟨l, h1, h2⟩ := h
  obtain ⟨l', k1, k2⟩ := k
  refine ⟨l' ++ l, by rw [k1, h1, List.append_assoc], ?_⟩
  unfold readsL at *
  rw [List.all_append, h2, k2]; rfl
theorem RdL.rd (m : Mem) (b : Nat) : RdL m (m.rd b) := ⟨[(false, b)], rfl, rfl⟩
theorem RdL.reads {m m' : Mem} (h : RdL m m') (h0 : m.log = []) : readsL m'.log = true := by
  obtain ⟨l, h1, h2⟩ := h
  rw [h1, h0, List.append_nil]; exact h2
section
set_option maxRecDepth 10000
def trJ (m : Mem) (v : Value) (l : List Nat) (q : Nat) (fr : Fr) (m' : Mem) : Prop := q ≤ l.length ∧ trimN l l.length = trimN l q ∧ fr.n = 21 ∧ fr.d = [] ∧ fr.at 0 = v ∧ fr.at 3 = .int .i64 (q : Nat) ∧ Only m m' ∧ RdL m m'
theorem trimR_ok (n : Nat) {m : Mem} {v : Value} {l : List Nat} (h : WL m v l) (hl : l.length < 1000000) {Q : Value → Mem → Prop} (hQ : ∀ m' v', Only m m' → RdL m m' → WL m' v' (trimL l) → Q v' m') :
    Gives (callN Try.prog kn1 (n + 1) 82 [v]) m Q := by
  refine gives_fn (nt := 21) rfl Try.func82 rfl rfl rfl (Nat.le_of_ble_eq_true rfl) fun fr hn hd hargs => ?_
  have h0 : fr.at 0 = _ := hargs 0 _ rfl
  clear hargs
  simp [h0, hn, h.len]
  refine code_loop (trJ m v l) l.length (by omega) ⟨Nat.le_refl _, rfl, by simp [hn], by simp [hd], by simp [h0], by simp, Only.refl m, RdL.refl m⟩ ?_
  clear hn hd h0
  rintro q fr m' ⟨hq, htr, hn, hd, h0, h3, ho, hr⟩
  by_cases hq0 : 0 < q
  · obtain ⟨b, o, k, x, hv, hk, hb, hs, hg, hx⟩ := (h.only ho).get (by omega)
    have hwq := wrap_prd q hq0 (by omega)
    obtain ⟨q1, hq1⟩ : ∃ q1, q1 = q - 1 := ⟨_, rfl⟩
    rw [← hq1] at hwq
    have hx1 := hx q1 (by omega)
    rw [hv] at h0
    by_cases hz : wat l q1 = 0
    · rw [hz] at hx1
      simp at hx1
      simp [hn, h0, h3, hq0, hwq, idx_W _ _ _ _ _ _ (show q1 < l.length by omega), hb, hx1, yieldX, boolOf_bool]
      refine ⟨q1, by omega, by omega, ?_, by simp [hn], by simp [hd], by simp [h0, hv], by simp, ho.trans (Only.rd' _ _), hr.trans (RdL.rd _ _)⟩
      rw [htr, show q = q1 + 1 by omega]
      show (if wat l q1 = 0 then trimN l q1 else q1 + 1) = _
      rw [if_pos hz]
    · simp [hn, h0, h3, hq0, hwq, idx_W _ _ _ _ _ _ (show q1 < l.length by omega), hb, hx1, hz, yieldX, boolOf_bool]
      have ht : trimN l l.length = q := by
        rw [htr, show q = q1 + 1 by omega]
        show (if wat l q1 = 0 then trimN l q1 else q1 + 1) = _
        rw [if_neg hz]
      refine gives_cut (by simpa using hb) hs (by omega) ?_
      simp [hn, hd]
      refine hQ _ _ (ho.trans ((Only.rd' _ _).trans (Only.rd' _ _))) (hr.trans ((RdL.rd _ _).trans (RdL.rd _ _))) ?_
      have hw := (h.only ho)
      rw [hv] at hw
      have := hw.cut (n := q) (m' := (m'.rd b).rd b) (fun c y hc => by simpa using hc) hq
      unfold trimL
      rw [ht]
      exact this
  · obtain rfl : q = 0 := by omega
    simp [hn, h0, h3, yieldX, boolOf_bool]
    have ht : trimN l l.length = 0 := htr
    rcases (h.only ho).lie with ⟨hl0, hv⟩ | ⟨b, o, k, x, hv, hk, hb, hs, hg, hx⟩
    · rw [hv]
      refine gives_cut0 ?_
      simp [hn, hd]
      refine hQ _ _ ho hr ?_
      rw [hl0]
      exact WL.nil _
    · rw [hv]
      refine gives_cut (k := 0) hb hs (by omega) ?_
      simp [hn, hd]
      refine hQ _ _ (ho.trans (Only.rd' _ _)) (hr.trans (RdL.rd _ _)) ?_
      have hw := (h.only ho)
      rw [hv] at hw
      have := hw.cut (n := 0) (m' := m'.rd b) (fun c y hc => by simpa using hc) (by omega)
      unfold trimL
      rw [ht]
      exact this
end
end Go.Proofs.Ytghhanifakllpaa

/- Words in the clean executor: long division. -/
namespace Go.Proofs.Ytghhanifakllpaa
open Go.Clean

theorem lift_len {b lv : List Nat} {s : Nat} (tb : Tr b) (hb : Wd b) (tv : Tr lv) (hv : Wd lv) (h0 : 0 < b.length) (hs : s = 32 - lenN (wat b (b.length - 1))) (e : wv lv = wv b * 2 ^ s) :
    lv.length = b.length ∧ 2147483648 ≤ wat lv (b.length - 1) ∧ pw (b.length - 1) * 2147483648 ≤ wv lv ∧ s < 32 ∧ wv lv < pw b.length := by
  obtain ⟨n1, hn1⟩ : ∃ n1, b.length = n1 + 1 := ⟨b.length - 1, by omega⟩
  have hn1' : b.length - 1 = n1 := by omega
  rw [hn1'] at hs ⊢
  obtain ⟨top, ht⟩ : ∃ top, top = wat b n1 := ⟨_, rfl⟩
  have ht0 : 0 < top := by
    have := tr_last tb h0
    rw [hn1'] at this
    have h2 : wat b n1 ≠ 0 := this
    omega
  have ht32 : top < 4294967296 := by rw [ht]; exact wat_lt hb _
  obtain ⟨L, hL⟩ : ∃ L, L = lenN top := ⟨_, rfl⟩
  have hLp := lenN_pos ht0
  rw [← hL] at hLp
  have hL1 : 1 ≤ L := by
    rcases Nat.eq_zero_or_pos L with h | h
    · rw [h] at hLp; simp at hLp; omega
    · exact h
  have hL32 : L ≤ 32 := by
    by_cases h : L ≤ 32
    · exact h
    · have : 2 ^ 32 ≤ 2 ^ (L - 1) := Nat.pow_le_pow_right (by decide) (by omega)
      omega
  rw [← ht, ← hL] at hs
  have e1 : wv b = wv (b.take n1) + pw n1 * top := by
    have := wv_next b n1
    rw [← hn1, List.take_length, ← ht] at this
    exact this
  have hlow : wv (b.take n1) < pw n1 := by
    have := wv_lt (hb.take n1)
    rw [List.length_take, Nat.min_eq_left (by omega)] at this
    exact this
  obtain ⟨T, hT⟩ : ∃ T, T = 2 ^ s := ⟨_, rfl⟩
  have hT1 : 2147483648 ≤ top * T := by
    have h1 : 2 ^ (L - 1) * 2 ^ s = 2147483648 := by rw [← Nat.pow_add, show L - 1 + s = 31 by omega]
    have := Nat.mul_le_mul_right (2 ^ s) hLp.1
    rw [h1] at this
    rw [hT]; exact this
  have hT2 : (top + 1) * T ≤ 4294967296 := by
    have h1 : 2 ^ L * 2 ^ s = 4294967296 := by rw [← Nat.pow_add, show L + s = 32 by omega]
    have := Nat.mul_le_mul_right (2 ^ s) hLp.2
    rw [h1] at this
    rw [hT]; exact this
  rw [← hT] at e
  have g1 : pw n1 * 2147483648 ≤ wv lv := by
    rw [e, e1, Nat.add_mul, Nat.mul_assoc]
    have := Nat.mul_le_mul_left (pw n1) hT1
    omega
  have g2 : wv lv < pw (n1 + 1) := by
    have hTp : 0 < T := by rw [hT]; exact Nat.two_pow_pos s
    have h1 : wv b < pw n1 * (top + 1) := by rw [e1, Nat.mul_add]; omega
    have h2 : wv b * T < pw n1 * (top + 1) * T := Nat.mul_lt_mul_of_pos_right h1 hTp
    have h3 := Nat.mul_le_mul_left (pw n1) hT2
    rw [← Nat.mul_assoc] at h3
    rw [e, pw_succ]
    omega
  have hpp := pw_pos n1
  have l1 : lv.length ≤ n1 + 1 := by
    by_cases h : lv.length ≤ n1 + 1
    · exact h
    · have h1 := tr_ge tv (by omega)
      have h2 := pw_mono (show n1 + 1 ≤ lv.length - 1 by omega)
      omega
  have l2 : n1 + 1 ≤ lv.length := by
    by_cases h : n1 + 1 ≤ lv.length
    · exact h
    · have h1 := wv_lt hv
      have h2 := pw_mono (show lv.length ≤ n1 by omega)
      omega
  have hle : lv.length = n1 + 1 := by omega
  refine ⟨by omega, ?_, g1, by omega, by rw [hn1]; exact g2⟩
  have e2 : wv lv = wv (lv.take n1) + pw n1 * wat lv n1 := by
    have := wv_next lv n1
    rw [← hle, List.take_length] at this
    exact this
  have hlow2 : wv (lv.take n1) < pw n1 := by
    have := wv_lt (hv.take n1)
    rw [List.length_take, Nat.min_eq_left (by omega)] at this
    exact this
  have h3 : pw n1 * 2147483648 < pw n1 * (wat lv n1 + 1) := by rw [Nat.mul_add]; omega
  have := Nat.lt_of_mul_lt_mul_left h3
  omega
theorem gives_copyN {m : Mem} {Q : Value → Mem → Prop} {v : Value} {l l0 : List Nat} {b N : Nat} (h : WL m v l) (hb : m.at b = some ⟨wc l0, 1, false, false⟩) (hN : l0.length = N) (hl : l.length ≤ N)
    (hQ : ∀ m', m'.next = m.next → (∀ c, m'.at c = if c = b then some ⟨wc (l ++ l0.drop l.length), 1, false, false⟩ else m.at c) → Q (.int .i64 l.length) m') :
    Gives (copyX Try.prog 52 (.slice (some ⟨b, 0, none⟩) N N) v) m Q := by
  subst hN
  exact gives_copyS h hb hl hQ
theorem wat_drop (l : List Nat) (j t : Nat) : wat (l.drop j) t = wat l (j + t) := by simp [wat, List.getD, List.getElem?_drop]
theorem trimL_le (l : List Nat) : (trimL l).length ≤ l.length := by
  have := trimN_le l l.length
  unfold trimL
  rw [List.length_take]; omega
structure DvF (fr : Fr) (bu bq N M nb s : Nat) (vv : Value) : Prop where
  n : fr.n = 90
  d : fr.d = []
  f8 : fr.at 8 = .int .i64 (s : Nat)
  f9 : fr.at 9 = vv
  f10 : fr.at 10 = .slice (some ⟨bu, 0, none⟩) N N
  f11 : fr.at 11 = .int .i64 (nb : Nat)
  f12 : fr.at 12 = .slice (some ⟨bq, 0, none⟩) M M
structure DvM (m0 m' : Mem) (bu bq N M nb V W q : Nat) (U Q : List Nat) : Prop where
  next : m'.next = m0.next
  old : ∀ c, c ≠ bu → c ≠ bq → m'.at c = m0.at c
  au : m'.at bu = some ⟨wc U, 1, false, false⟩
  aq : m'.at bq = some ⟨wc Q, 1, false, false⟩
  wu : Wd U
  wq : Wd Q
  lu : U.length = N
  lq : Q.length = M
  z : ∀ t, q + nb ≤ t → wat U t = 0
  lt : wv (U.drop q) < V
  sum : wv U + V * (pw q * wv (Q.drop q)) = W
def dvI (m0 : Mem) (bu bq N M nb s V W : Nat) (vv : Value) (q : Nat) (fr : Fr) (m' : Mem) : Prop := ∃ U Q, DvF fr bu bq N M nb s vv ∧ fr.at 13 = .int .i64 ((q : Int) - 1) ∧ q ≤ M ∧ DvM m0 m' bu bq N M nb V W q U Q
theorem DvM.step {m0 m1 m2 m3 : Mem} {bu bq N M nb V W j : Nat} {U Q S' : List Nat} (h : DvM m0 m1 bu bq N M nb V W (j + 1) U Q) (hV : V < pw nb) (hV0 : 0 < V) (hj : j + 1 ≤ M) (hM : M + nb = N) (hne : bu ≠ bq) (hU : UW m1 m2 bu (U.take j) S') (hl : S'.length = (U.drop j).length) (hz : ∀ t, nb < t → wat S' t = 0) (hv : wv S' = wv (U.drop j) % V)
    (n3 : m3.next = m2.next) (e3 : ∀ c, m3.at c = if c = bq then some ⟨(wc Q).set j (.int .u32 ((wv (U.drop j) / V : Nat) : Int)), 1, false, false⟩ else m2.at c) : DvM m0 m3 bu bq N M nb V W j (U.take j ++ S') (Q.set j (wv (U.drop j) / V)) := by
  have hlu := h.lu
  have hlq := h.lq
  have hP : (U.take j).length = j := by rw [List.length_take]; omega
  have hSl : S'.length = N - j := by rw [hl, List.length_drop]; omega
  have hSV : wv S' < V := by rw [hv]; exact Nat.mod_lt _ hV0
  have hdr : (U.take j ++ S').drop j = S' := List.drop_left' hP
  have hq32 : wv (U.drop j) / V < 4294967296 := by
    refine Nat.div_lt_of_lt_mul ?_
    have h1 := wv_far U j
    have h2 := wat_lt h.wu j
    have h3 := h.lt
    have h4 : 4294967296 * (wv (U.drop (j + 1)) + 1) ≤ 4294967296 * V := Nat.mul_le_mul_left _ h3
    rw [Nat.mul_comm V]
    omega
  have hn0 : wat S' nb = 0 := by
    rcases Nat.eq_zero_or_pos (wat S' nb) with h1 | h1
    · exact h1
    · have h2 := wv_top hz
      have h3 := Nat.mul_le_mul_left (pw nb) h1
      omega
  refine ⟨by rw [n3, hU.next, h.next], fun c h1 h2 => ?_, ?_, ?_, (h.wu.take j).app hU.wd, h.wq.set j hq32, by rw [List.length_append, hP]; omega, by simp [hlq], fun t ht => ?_, by rw [hdr]; exact hSV, ?_⟩
  · rw [e3, if_neg h2, hU.old c h1]; exact h.old c h1 h2
  · rw [e3, if_neg hne]; exact hU.at'
  · rw [e3, if_pos rfl, wc_set]
  · have e : wat (U.take j ++ S') t = wat S' (t - j) := by
      have := wat_drop (U.take j ++ S') j (t - j)
      rw [hdr, show j + (t - j) = t by omega] at this
      exact this.symm
    rw [e]
    by_cases h1 : t - j = nb
    · rw [h1]; exact hn0
    · exact hz _ (by omega)
  · have e1 : wv U = wv (U.take j) + pw j * wv (U.drop j) := wv_cut U j (by omega)
    have e2 : wv (U.take j ++ S') = wv (U.take j) + pw j * wv S' := by rw [wv_append, hP]
    have e4 : wv ((Q.set j (wv (U.drop j) / V)).drop j) = wv (U.drop j) / V + 4294967296 * wv (Q.drop (j + 1)) := by
      rw [wv_far, wat_set (by omega), if_pos rfl]
      congr 2
      rw [List.drop_set_of_lt (by omega)]
    have e5 := Nat.div_add_mod (wv (U.drop j)) V
    rw [← hv] at e5
    have hs := h.sum
    rw [pw_succ] at hs
    rw [e2, e4]
    obtain ⟨X, hX⟩ : ∃ X, X = wv (Q.drop (j + 1)) := ⟨_, rfl⟩
    obtain ⟨D, hD⟩ : ∃ D, D = wv (U.drop j) / V := ⟨_, rfl⟩
    obtain ⟨R, hR⟩ : ∃ R, R = wv S' := ⟨_, rfl⟩
    obtain ⟨p, hp⟩ : ∃ p, p = pw j := ⟨_, rfl⟩
    rw [← hX, ← hp] at hs
    rw [← hD, ← hR] at e5
    rw [← hX, ← hD, ← hR, ← hp]
    rw [e1, ← e5, ← hp] at hs
    rw [← hs]
    rw [Nat.mul_add p, Nat.mul_add p, Nat.mul_add V, Nat.mul_left_comm p V D, Nat.mul_left_comm p 4294967296 X, Nat.mul_assoc 4294967296 p X]
    omega
theorem figure_at (e : Nat) {m : Mem} {bu ku n j : Nat} {P S v : List Nat} {vv : Value} {bv ov kv : Nat} {xv : Blk} (hP : P.length = j) (hat : m.at bu = some ⟨wc (P ++ S), 1, false, false⟩) (hS : Wd S) (hn2 : 2 ≤ n) (hnS : n + 1 ≤ S.length) (hz : ∀ t, n < t → wat S t = 0)
    (hvd : Wd v) (hvn : v.length = n) (hB : RdW m vv v bv ov kv xv) (hne : bv ≠ bu) (htop : 2147483648 ≤ wat v (n - 1)) (hlt : wv S < 4294967296 * wv v) (hsz : j + n < 1000000) {Q : Value → Mem → Prop}
    (hQ : ∀ m' S', UW m m' bu P S' → S'.length = S.length → (∀ t, n < t → wat S' t = 0) → wv S' = wv S % wv v → Q (.int .u32 ((wv S / wv v : Nat) : Int)) m') :
    Gives (callN Try.prog kn1 (e + 1) 106 [.slice (some ⟨bu, j, none⟩) (n + 1) ku, vv]) m Q := by
  subst hP
  exact figure_ok e hat hS hn2 hnS hz hvd hvn hB hne htop hlt hsz hQ
section
set_option maxRecDepth 10000
set_option maxHeartbeats 4000000 in
theorem divW_rest (e : Nat) {fr : Fr} {m : Mem} {va vb : Value} {a b : List Nat} (hw : WF m) (ha : WL m va a) (hb : WL m vb b) (ta : Tr a) (tb : Tr b) (hl : a.length < 300000) (hn2 : 2 ≤ b.length) (hab : b.length ≤ a.length) (hn : fr.n = 90) (hd : fr.d = []) (h0 : fr.at 0 = va) (h1 : fr.at 1 = vb) {Q : Value → Mem → Prop}
    (hQ : ∀ m' vq vr lq lr, Up m m' → WL m' vq lq → WL m' vr lr → Tr lq → Tr lr → lq.length ≤ a.length → lr.length ≤ a.length → wv lq = wv a / wv b → wv lr = wv a % wv b → Q (.tuple ⟨[vq, vr]⟩) m') :
    Gives (codeX Try.prog (callN Try.prog kn1 (e + 3)) (sRn 3 (bodyOf Try.f84)) fr) m (fnQ Try.prog [.tmp 4, .tmp 5] Q) := by
  obtain ⟨b1, o1, k1, x1, hB⟩ := hb.rd (by omega)
  have hbl := hB.val
  obtain ⟨nb, hnb⟩ : ∃ x, x = b.length := ⟨_, rfl⟩
  obtain ⟨n1, hn1⟩ : ∃ x, x = nb - 1 := ⟨_, rfl⟩
  have hwn : IntKind.i64.wrap ((nb : Int) - 1) = (n1 : Int) := by rw [hn1]; exact wrap_prd nb (by omega) (by omega)
  have lenB := hb.len
  have g1 := hB.get n1 (by omega)
  obtain ⟨top, ht⟩ : ∃ top, top = wat b n1 := ⟨_, rfl⟩
  rw [← ht] at g1
  have e1 := hB.at'
  have ht32 : top < 4294967296 := by rw [ht]; exact wat_lt hb.wd _
  rw [← hnb] at hbl lenB
  rw [hbl] at h1 lenB
  have ht0 : 0 < top := by
    have := tr_last tb (by omega)
    have h2 : wat b (b.length - 1) ≠ 0 := this
    rw [ht, hn1, hnb]; omega
  have hL32 : lenN top ≤ 32 := by
    by_cases h : lenN top ≤ 32
    · exact h
    · have : 2 ^ 32 ≤ 2 ^ (lenN top - 1) := Nat.pow_le_pow_right (by decide) (by omega)
      have := (lenN_pos ht0).1
      omega
  obtain ⟨s, hs⟩ : ∃ x, x = 32 - lenN top := ⟨_, rfl⟩
  have hs32 : s ≤ 32 := by omega
  refine via (X := .seq (.region _ _ _) _) rfl ?_
  simp [hn, h0, h1, lenB, hwn, idx_W _ _ _ _ _ _ (show n1 < nb by omega), e1, g1]
  refine lead_ok (e + 1) ht32 ?_ hL32
  rw [← hs]
  simp [hn, h0, h1]
  rw [← hbl]
  have u1 : Up m ((m.rd b1)) := Up.rd _ _
  refine up_ok (e + 1) (c := s) (u1.wf hw) (hb.up hw u1) (by omega) (by omega) fun m2 vv lv u2 hvv _ tv hvw => ?_
  have u02 := u1.trans u2
  have hlv := lift_len tb hb.wd tv hvv.wd (by omega) (by rw [hs, ht, hn1, hnb]) hvw
  obtain ⟨hvl, htop, hvge, hs31, hvlt⟩ := hlv
  rw [← hnb] at hvl htop hvge hvlt
  obtain ⟨na, hna⟩ : ∃ x, x = a.length := ⟨_, rfl⟩
  obtain ⟨N, hN⟩ : ∃ x, x = na + 1 := ⟨_, rfl⟩
  have hwN : IntKind.i64.wrap ((na : Int) + 1) = (N : Int) := by rw [hN]; exact wrap_succ na (by omega)
  have lenA := ha.len
  rw [← hna] at lenA
  simp [hn, h0, lenA, hwN]
  refine gives_makeW (by omega) ?_
  simp [hn, h0]
  obtain ⟨bu, hbu⟩ : ∃ x, x = m2.next := ⟨_, rfl⟩
  rw [← hbu]
  have u3 : Up m2 (m2.nw ⟨wc (List.replicate N 0), 1, false, false⟩) := Up.nw _ _
  have u03 := u02.trans u3
  refine up_ok (e + 1) (c := s) (u03.wf hw) (ha.up hw u03) (by omega) (by omega) fun m4 vw lw u4 hvw4 hwl tw hww => ?_
  have u04 := u03.trans u4
  have hbu4 : m4.at bu = some ⟨wc (List.replicate N 0), 1, false, false⟩ := by
    rw [u4.old bu (by simp; omega), hbu]; simp
  have hNl : (List.replicate N 0).length = N := by simp
  have hbulo : m.next ≤ bu := by rw [hbu]; exact u02.next
  have hbu4n : bu < m4.next := by have := u4.next; simp at this; omega
  simp [hn]
  refine gives_copyN hvw4 hbu4 hNl (by omega) fun m5 n5 e5 => ?_
  have lenV := hvv.len
  rw [hvl] at lenV
  obtain ⟨M1, hM1⟩ : ∃ x, x = na - nb := ⟨_, rfl⟩
  obtain ⟨M, hM⟩ : ∃ x, x = M1 + 1 := ⟨_, rfl⟩
  have hwM1 : IntKind.i64.wrap ((na : Int) - (nb : Int)) = (M1 : Int) := by rw [w63 _ (by omega) (by omega)]; omega
  have hwM : IntKind.i64.wrap ((M1 : Int) + 1) = (M : Int) := by rw [hM]; exact wrap_succ M1 (by omega)
  simp [hn, h0, lenA, lenV, hwM1, hwM]
  refine gives_makeW (by omega) ?_
  obtain ⟨bq, hbq⟩ : ∃ x, x = m5.next := ⟨_, rfl⟩
  rw [← hbq]
  obtain ⟨m6, hm6⟩ : ∃ x, x = m5.nw ⟨wc (List.replicate M 0), 1, false, false⟩ := ⟨_, rfl⟩
  rw [← hm6]
  simp [hn, h0, lenA, lenV, hwM1]
  obtain ⟨V, hV⟩ : ∃ x, x = wv lv := ⟨_, rfl⟩
  obtain ⟨W, hW⟩ : ∃ x, x = wv lw := ⟨_, rfl⟩
  obtain ⟨bv, ov, kv, xv, hBv⟩ := hvv.rd (by omega)
  have hw2 := u02.wf hw
  have hbvu : bv < bu := by rw [hbu]; exact hw2 bv xv hBv.at'
  have hne : bu ≠ bq := by omega
  have n6 : m6.next = bq + 1 := by rw [hm6]; simp [hbq]
  have a6 : ∀ c, m6.at c = if c = bq then some ⟨wc (List.replicate M 0), 1, false, false⟩ else m5.at c := fun c => by rw [hm6]; simp [hbq]
  have u05 : Up m m5 := u04.wr hbulo hbu4n n5 e5
  have u06 : Up m m6 := by rw [hm6]; exact u05.trans (Up.nw _ _)
  have hpn := pw_pos (nb - 1)
  have hV0 : 0 < V := by omega
  have hVlt : V < pw nb := by omega
  have hVge : pw (nb - 1) * 2147483648 ≤ V := by omega
  obtain ⟨U0, hU0⟩ : ∃ x, x = lw ++ (List.replicate N 0).drop lw.length := ⟨_, rfl⟩
  rw [← hU0] at e5
  have wU0 : wv U0 = W := by rw [hU0, wv_append, List.drop_replicate, wv_zeros]; omega
  have lU0 : U0.length = N := by rw [hU0]; simp; omega
  have dU0 : Wd U0 := by
    rw [hU0]
    exact hvw4.wd.app ((Wd.zeros N).drop _)
  have hWlt : W < pw M * V := by
    have h1 : wv a < pw na := by rw [hna]; exact wv_lt ha.wd
    have h2 : 2 ^ s ≤ 2147483648 := by
      have := Nat.pow_le_pow_right (show 0 < 2 by decide) (show s ≤ 31 by omega)
      exact this
    have h3 : W ≤ wv a * 2147483648 := by rw [hW, hww]; exact Nat.mul_le_mul_left _ h2
    have h4 : pw M * (pw (nb - 1) * 2147483648) ≤ pw M * V := Nat.mul_le_mul_left _ hVge
    rw [← Nat.mul_assoc, ← pw_add, show M + (nb - 1) = na by omega] at h4
    omega
  have hDM : DvM m6 m6 bu bq N M nb V W M U0 (List.replicate M 0) := by
    refine ⟨rfl, fun _ _ _ => rfl, by rw [a6, if_neg hne, e5, if_pos rfl], by rw [a6, if_pos rfl], dU0, Wd.zeros M, lU0, by simp, fun t ht => wat_far (by omega), ?_, ?_⟩
    · rw [wv_drop_div _ dU0, wU0]
      exact Nat.div_lt_of_lt_mul hWlt
    · rw [wU0, List.drop_eq_nil_of_le (by simp)]
      simp [wv]
  have vat6 : ∀ c, c < bu → m6.at c = m2.at c := fun c hc => by
    rw [a6, if_neg (by omega), e5, if_neg (by omega), u4.old c (by simp; omega)]
    simp; omega
  have hM1' : ((M1 : Nat) : Int) = (M : Int) - 1 := by omega
  refine code_loop (dvI m6 bu bq N M nb s V W vv) M (by omega) ⟨U0, List.replicate M 0, ⟨by simp [hn], by simp [hd], by simp, by simp, by simp, by simp, by simp⟩, by simp [hM1'], Nat.le_refl _, hDM⟩ ?_
  clear hn hd h0 h1 hDM
  rintro q fr m7 ⟨U, Qs, F, f13, hqM, hD⟩
  have hn := F.n
  have hd := F.d
  have f8 := F.f8
  have f9 := F.f9
  have f10 := F.f10
  have f11 := F.f11
  have f12 := F.f12
  cases q with
  | succ j =>
    have f13' : fr.at 13 = .int .i64 (j : Int) := by rw [f13]; congr 1; omega
    have hge : (0 : Int) ≤ (j : Int) := by omega
    obtain ⟨jn, hjn⟩ : ∃ x, x = j + nb := ⟨_, rfl⟩
    obtain ⟨jh, hjh⟩ : ∃ x, x = jn + 1 := ⟨_, rfl⟩
    have hw1 : IntKind.i64.wrap ((j : Int) + (nb : Int)) = (jn : Int) := by rw [hjn]; exact wrap_add j nb (by omega)
    have hw2' : IntKind.i64.wrap ((jn : Int) + 1) = (jh : Int) := by rw [hjh]; exact wrap_succ jn (by omega)
    have hwj : IntKind.i64.wrap ((j : Int) - 1) = (j : Int) - 1 := w63 _ (by omega) (by omega)
    simp [hn, f9, f10, f11, f12, f13', hge, hw1, hw2']
    refine gives_cutB hD.au rfl rfl (by omega) (by omega) (by omega) ?_
    have hP : (U.take j).length = j := by rw [List.length_take]; have := hD.lu; omega
    simp [hn, f9]
    rw [show jh - j = nb + 1 by omega]
    have hDz := hD.z
    have hDl := hD.lt
    have hDlu := hD.lu
    have hwf := wv_far U j
    have hwt := wat_lt hD.wu j
    refine figure_at (e + 2) (P := U.take j) (S := U.drop j) (v := lv) hP (by simp [hD.au]) (hD.wu.drop j) (by omega) (by rw [List.length_drop]; omega) (fun t ht => by rw [wat_drop]; exact hDz _ (by omega)) hvv.wd hvl ⟨hBv.val, by simp only [Mem.at_rd]; rw [hD.old bv (by omega) (by omega), vat6 bv hbvu]; exact hBv.at', hBv.get⟩ (by omega) htop (by omega) (by omega) fun m8 S' hUW hSl hz' hvS => ?_
    rw [← hV] at hvS ⊢
    have aq8 : m8.at bq = some ⟨wc Qs, 1, false, false⟩ := by rw [hUW.old bq (by omega)]; simp [hD.aq]
    simp [hn, idx_W _ _ _ _ _ _ (show j < M by omega)]
    refine storeQ_one (cs := wc Qs) (sz := 1) (gr := false) aq8 (by simp) (cells_int _ _) (by rw [wc_len, hD.lq]; omega) fun m9 n9 _ e9 => ?_
    simp [hn, f13', hwj]
    have hUW' : UW m7 m8 bu (U.take j) S' := ⟨by rw [hUW.next]; simp, fun c hc => by rw [hUW.old c hc]; simp, hUW.at', hUW.wd⟩
    have hst := hD.step hVlt hV0 hqM (by omega) hne hUW' hSl hz' hvS n9 (by simpa using e9)
    exact ⟨j, by omega, _, _, ⟨by simp [hn], by simp [hd], by simp [f8], by simp [f9], by simp [f10], by simp [f11], by simp [f12]⟩, by simp, by omega, hst⟩
  | zero =>
    have f13' : fr.at 13 = .int .i64 (-1) := by rw [f13]; rfl
    simp [hn, f13']
    have hlu := hD.lu
    have hlq := hD.lq
    have hUV : wv U < V := by have := hD.lt; simpa using this
    have hsum : wv U + V * wv Qs = W := by
      have := hD.sum
      rw [pw_zero, Nat.one_mul, List.drop_zero] at this
      exact this
    have hQv : wv Qs = wv a / wv b := by
      have h1 : W / V = wv Qs := by
        rw [← hsum, Nat.add_mul_div_left _ _ hV0, Nat.div_eq_of_lt hUV, Nat.zero_add]
      rw [← h1, hW, hV, hww, hvw, Nat.mul_div_mul_right _ _ (Nat.two_pow_pos s)]
    have hUv : wv U = wv a % wv b * 2 ^ s := by
      have h1 : W % V = wv U := by
        rw [← hsum, Nat.add_mul_mod_self_left, Nat.mod_eq_of_lt hUV]
      rw [← h1, hW, hV, hww, hvw, Nat.mul_mod_mul_right]
    have u07 : Up m m7 := by
      refine ⟨by rw [hD.next]; exact u06.next, fun c hc => by have h9 := u05.next; rw [hD.old c (by omega) (by omega)]; exact u06.old c hc, fun w c y hc => ?_⟩
      rw [hD.next, n6]
      by_cases h1 : c = bu
      · omega
      · by_cases h2 : c = bq
        · omega
        · rw [hD.old c h1 h2] at hc
          have := u06.wf w c y hc
          omega
    have w7 : WF m7 := u07.wf hw
    have WQ : WL m7 (.slice (some ⟨bq, 0, none⟩) M M) Qs := by
      have := WL.own hD.aq hD.wq
      rw [hlq] at this
      exact this
    have WU : WL m7 (.slice (some ⟨bu, 0, none⟩) N N) U := by
      have := WL.own hD.au hD.wu
      rw [hlu] at this
      exact this
    refine code_draw_dyn (plan := [0, 1, 0, 0, 12, 31, 0, 127, 255, 511]) (by kernel_rfl) ?_
    simp [drawQ, apartAll, Nat.testBit, hn, f12]
    refine trimR_ok (e + 2) (WQ.only ⟨by simp, fun c => by simp⟩) (by omega) fun m8 vq o8 r8 W8 => ?_
    have hr8 := r8.reads rfl
    have hap : apartL [(false, bu)] m8.log = true := apartL_rd rfl hr8
    have hap0 : ∀ l, apartL [] l = true := fun l => rfl
    simp [drawQ, apartAll, Nat.testBit, hn, f10, f11, hap0]
    refine gives_cut (k := nb) (x := ⟨wc U, 1, false, false⟩) (by simp [o8.2, hD.au]) rfl (by omega) ?_
    simp [drawQ, apartAll, Nat.testBit, hn, hap, hap0]
    refine ⟨rfl, ?_⟩
    have o78 : Only m7 (m8.lg []) := ⟨by simp [o8.1], fun c => by simp [o8.2]⟩
    have WU8 : WL (m8.lg []) (.slice (some ⟨bu, 0, none⟩) nb N) (U.take nb) := by
      have h9 := WU.only o78
      rw [← hlu] at h9 ⊢
      exact h9.cut (fun _ _ h => h) (by omega)
    refine trimR_ok (e + 2) WU8 (by rw [List.length_take]; omega) fun m9 vt o9 r9 W9 => ?_
    have tv9 : Tr (trimL (U.take nb)) := tr_trim _
    have hwt : wv (trimL (U.take nb)) = wv a % wv b * 2 ^ s := by
      rw [wv_trim, ← hUv]
      exact (wv_top (n := nb) (fun t ht => hD.z t (by omega))).symm ▸ (by rw [hD.z nb (by omega)]; simp)
    simp [drawQ, apartAll, Nat.testBit, hn, hap0, f8]
    have o79 : Only m7 (m9.lg []) := by
      have : Only m8 m9 := ⟨by rw [o9.1]; simp, fun c => by rw [o9.2]; simp⟩
      have h8 : Only m7 m8 := ⟨by rw [o8.1]; simp, fun c => by rw [o8.2]; simp⟩
      exact (h8.trans this).trans ⟨by simp, fun c => by simp⟩
    have w9 : WF (m9.lg []) := o79.wf w7
    refine down_ok (e + 1) (c := s) w9 (W9.only ⟨by simp, fun c => by simp⟩) (by have := trimL_le (U.take nb); rw [List.length_take] at this; omega) (by omega) fun m10 vr lr u10 W10 hlr tr10 hvr => ?_
    rw [hwt, Nat.mul_div_cancel _ (Nat.two_pow_pos s)] at hvr
    simp [drawQ, apartAll, Nat.testBit, hn, hap0, hd]
    have o89 : Only m8 (m9.lg []) := ⟨by simp [o9.1], fun c => by simp [o9.2]⟩
    have w8 : WF m8 := Only.wf ⟨by rw [o8.1]; simp, fun c => by rw [o8.2]; simp⟩ w7
    refine hQ _ _ _ _ _ ((u07.trans (Up.only o79)).trans (u10.trans (Up.only ⟨by simp, fun c => by simp⟩))) (((W8.only o89).up w9 u10).only ⟨by simp, fun c => by simp⟩) (W10.only ⟨by simp, fun c => by simp⟩) (tr_trim _) tr10 ?_ ?_ (by rw [wv_trim, hQv]) hvr
    · have := trimL_le Qs
      omega
    · have := trimL_le (U.take nb)
      rw [List.length_take] at this; omega
theorem divWords_ok (e : Nat) {m : Mem} {va vb : Value} {a b : List Nat} (hw : WF m) (ha : WL m va a) (hb : WL m vb b) (ta : Tr a) (tb : Tr b) (hl : a.length < 300000) (hlb : b.length < 300000) (h0b : 0 < b.length) {Q : Value → Mem → Prop}
    (hQ : ∀ m' vq vr lq lr, Up m m' → WL m' vq lq → WL m' vr lr → Tr lq → Tr lr → lq.length ≤ a.length → lr.length ≤ a.length + 1 → wv lq = wv a / wv b → wv lr = wv a % wv b → Q (.tuple ⟨[vq, vr]⟩) m') :
    Gives (callN Try.prog kn1 (e + 4) 84 [va, vb]) m Q := by
  refine gives_fn (nt := 90) rfl Try.func84 rfl rfl rfl (Nat.le_of_ble_eq_true rfl) fun fr hn hd hargs => ?_
  have h0 : fr.at 0 = _ := hargs 0 _ rfl
  have h1 : fr.at 1 = _ := hargs 1 _ rfl
  clear hargs
  refine (code_seq _ _ _ _ _).2 ?_
  simp [hn, -code_seq]
  refine (code_seq _ _ _ _ _).2 ((code_seq _ _ _ _ _).2 ?_)
  simp [h0, h1, hn, -code_seq]
  refine cmpWords_ok (e + 2) ha hb ta tb (by omega) (by omega) fun m1 o1 => ?_
  by_cases hlt : wv a < wv b
  · have hc : cmpN (wv a) (wv b) = -1 := if_pos hlt
    simp [hc, hn, h0, -code_seq]
    simp [hn, h0]
    have u1 : Up m (m1) := Up.only o1
    refine copied_ok (e + 2) (u1.wf hw) (ha.only o1) (by omega) fun m2 bo u2 hbo hb2 => ?_
    simp [hn, hd]
    refine hQ _ _ _ [] a (u1.trans u2) (WL.nil _) (WL.own hb2 ha.wd) Tr.nil ta (by simp) (by omega) ?_ ?_
    · rw [Nat.div_eq_of_lt hlt]; rfl
    · rw [Nat.mod_eq_of_lt hlt]
  · have hc : ¬ cmpN (wv a) (wv b) < 0 := by
      unfold cmpN
      rw [if_neg hlt]
      split <;> omega
    simp [hc, hn, h0, -code_seq]
    by_cases h1b : b.length = 1
    · refine (code_seq _ _ _ _ _).2 ((code_seq _ _ _ _ _).2 ?_)
      obtain ⟨b1, o', k1, x1, hB⟩ := (hb.only o1).rd (by omega)
      have hbv := hB.val
      rw [h1b] at hbv
      have g0 := hB.get 0 (by omega)
      have e1 := hB.at'
      have lenB := hb.len
      rw [hbv] at h1 lenB
      obtain ⟨dd, hdd⟩ : ∃ x, x = wat b 0 := ⟨_, rfl⟩
      rw [← hdd] at g0
      have hwb : wv b = dd := by
        have h5 := wv_far b 0
        rw [List.drop_zero, List.drop_eq_nil_of_le (by omega)] at h5
        have h6 : wv [] = 0 := rfl
        omega
      have hd0 : 0 < dd := by
        have h5 := tr_pos tb (by intro h; rw [h] at h0b; simp at h0b)
        omega
      have hd32 : dd < 4294967296 := by rw [hdd]; exact wat_lt hb.wd _
      have i0 := idx_W b1 o' 1 k1 0 .i64 (by omega)
      simp only [Nat.add_zero] at i0
      rw [h1b] at lenB
      have i0' : indexAddrX Try.prog 52 (.slice (some ⟨b1, o', none⟩) 1 k1) (.int .i64 0) = some (.pointer (some ⟨b1, o', none⟩)) := i0
      simp only [Nat.add_zero] at g0
      simp [hn, h0, h1, lenB, i0', e1, g0]
      refine divSmall_ok (e + 1) ((Up.only (o1.trans (Only.rd' _ _))).wf hw) (ha.only (o1.trans (Only.rd' _ _))) (by omega) hd0 hd32 fun m2 v2 l2 u2 W2 hl2 t2 hv2 => ?_
      simp [hn]
      refine gives_build1W (wv a % dd) ?_
      simp [hn]
      have u3 : Up m2 (m2.nw ⟨wc [wv a % dd], 1, false, false⟩) := Up.nw _ _
      have hdm : wv a % dd < 4294967296 := Nat.lt_trans (Nat.mod_lt _ hd0) hd32
      have W3 : WL (m2.nw ⟨wc [wv a % dd], 1, false, false⟩) (.slice (some ⟨m2.next, 0, none⟩) 1 1) [wv a % dd] := WL.own (l := [wv a % dd]) (by simp) (fun x hx => by rw [List.mem_singleton.1 hx]; exact hdm)
      have uu : Up m m2 := (Up.only (o1.trans (Only.rd' _ _))).trans u2
      refine trim_ok (e + 2) W3 (by simp) fun m4 v4 o4 W4 => ?_
      simp [hn, hd]
      refine hQ _ _ _ _ _ (uu.trans (u3.trans (Up.only o4))) (W2.up (uu.wf hw) (u3.trans (Up.only o4))) W4 t2 (tr_trim _) (by omega) ?_ (by rw [hv2, hwb]) ?_
      · have := trimL_le [wv a % dd]
        simp at this; omega
      · rw [wv_trim, hwb]
        show wv a % dd + 4294967296 * wv [] = _
        have h6 : wv [] = 0 := rfl
        omega
    · refine (code_seq _ _ _ _ _).2 ((code_seq _ _ _ _ _).2 ?_)
      have hb1 : ¬ ((b.length : Int) = 1) := by omega
      simp [hn, h0, h1, hb.len, hb1, -code_seq]
      have hab : b.length ≤ a.length := by
        by_cases h : b.length ≤ a.length
        · exact h
        · have := tr_len ha.wd tb (show a.length < b.length by omega)
          omega
      refine via (X := sRn 3 (bodyOf Try.f84)) (by kernel_rfl) (divW_rest e (o1.wf hw) (ha.only o1) (hb.only o1) ta tb hl (by omega) hab (by simp [hn]) (by simp [hd]) (by simp [h0]) (by simp [h1]) fun m' vq vr lq lr u h1 h2 h3 h4 h5 h6 h7 h8 => hQ m' vq vr lq lr ((Up.only o1).trans u) h1 h2 h3 h4 h5 (by omega) h7 h8)
end
end Go.Proofs.Ytghhanifakllpaa
