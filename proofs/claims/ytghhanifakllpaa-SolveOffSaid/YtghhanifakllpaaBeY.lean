/- Words in the clean executor: made, copied, out of a number, held against each other. -/
import Derived.Test.YtghhanifakllpaaBbY
set_option linter.unusedSimpArgs false
set_option linter.unusedVariables false
namespace Go.Proofs.Ytghhanifakllpaa
open Go.Clean

section
@[simp] theorem zero_w : zeroT Try.prog 113 = some (.int .u32 0) := (by kernel_rfl : zeroT Try.prog 113 = some (.int .u32 0)).trans rfl
variable {m : Mem} {Q : Value → Mem → Prop}
theorem repeat_wc (n : Nat) : repeatL [Value.int .u32 0] n = wc (List.replicate n 0) := by
  induction n with
  | zero => rfl
  | succ n ih => show [Value.int .u32 0] ++ repeatL [Value.int .u32 0] n = _; rw [ih]; rfl
theorem gives_makeW {n : Nat} {q q' : IntKind} (hn : n ≤ 10000000) (hQ : Q (.slice (some ⟨m.next, 0, none⟩) n n) (m.nw ⟨wc (List.replicate n 0), 1, false, false⟩)) : Gives (makeSliceX Try.prog 52 (.int q n) (.int q' n)) m Q := by
  have hi : (match Try.prog.info? 113 with | some i => i.size == 1 && Nat.ble i.bytes 1024 | none => false) = true := by kernel_rfl
  unfold makeSliceX
  cases h : Try.prog.info? 113 with
  | none => simp only [h] at hi; cases hi
  | some i =>
    simp only [h, Bool.and_eq_true, beq_iff_eq, Nat.ble_eq] at hi
    obtain ⟨h1, h2⟩ := hi
    simp only [under_W, h, zero_w, cells_int]
    rw [gives_bind, gives_guard]
    refine ⟨?_, ?_⟩
    · simp only [Bool.and_eq_true, beq_iff_eq, decide_eq_true_eq, Nat.ble_eq, Nat.blt_eq, h1]
      refine ⟨⟨⟨rfl, by omega⟩, by omega⟩, ?_⟩
      rw [Int.toNat_natCast]
      exact Nat.le_trans (Nat.mul_le_mul h2 hn) (by decide)
    · rw [gives_bind, gives_newX, h1, Int.toNat_natCast, repeat_wc]
      exact ⟨wc_one _, (gives_ret _ _ _).2 hQ⟩
theorem gives_build2W (x y : Nat) (q : Q (.slice (some ⟨m.next, 0, none⟩) 2 2) (m.nw ⟨wc [x, y], 1, false, false⟩)) : Gives (buildSliceX Try.prog 52 2 [(0, .int .u32 (x : Int)), (1, .int .u32 (y : Int))]) m Q := by
  unfold buildSliceX
  simp only [under_W, size_w, zero_w, cells_int]
  rw [gives_bind, gives_guard]
  refine ⟨rfl, ?_⟩
  have hrep : fillX (fun i => some (i * 1, 1)) (repeatL [Value.int .u32 0] 2) [(0, .int .u32 (x : Int)), (1, .int .u32 (y : Int))] = some (wc [x, y]) := by
    simp [fillX, layK, repeatL, Nat.blt, Nat.ble, wc]
  rw [hrep]
  show Gives (newX (wc [x, y]) 1 false >>= fun b => M.ret (Value.slice (some ⟨b, 0, none⟩) 2 2)) m Q
  rw [gives_bind, gives_newX]
  exact ⟨wc_one _, (gives_ret _ _ _).2 q⟩
theorem gives_build1W (x : Nat) (q : Q (.slice (some ⟨m.next, 0, none⟩) 1 1) (m.nw ⟨wc [x], 1, false, false⟩)) : Gives (buildSliceX Try.prog 52 1 [(0, .int .u32 (x : Int))]) m Q := by
  unfold buildSliceX
  simp only [under_W, size_w, zero_w, cells_int]
  rw [gives_bind, gives_guard]
  refine ⟨rfl, ?_⟩
  have hrep : fillX (fun i => some (i * 1, 1)) (repeatL [Value.int .u32 0] 1) [(0, .int .u32 (x : Int))] = some (wc [x]) := by
    simp [fillX, layK, repeatL, Nat.blt, Nat.ble, wc]
  rw [hrep]
  show Gives (newX (wc [x]) 1 false >>= fun b => M.ret (Value.slice (some ⟨b, 0, none⟩) 1 1)) m Q
  rw [gives_bind, gives_newX]
  exact ⟨wc_one _, (gives_ret _ _ _).2 q⟩
theorem WL.take {m : Mem} {v : Value} {l : List Nat} (h : WL m v l) : (l = [] ∧ v = .slice none 0 0) ∨ ∃ b o k x, v = .slice (some ⟨b, o, none⟩) l.length k ∧ m.at b = some x ∧ takeN x.cells o (l.length * 1) = some (wc l) := by
  rcases h.lie with h1 | ⟨b, o, k, x, h1, h2, h3, h4, h5, h6⟩
  · exact .inl h1
  · refine .inr ⟨b, o, k, x, h1, h3, ?_⟩
    rw [Nat.mul_one]
    refine takeN_get _ _ _ _ (wc_len l) (fun i hi => by rw [h6 i hi, wc_get hi]) ?_
    by_cases h0 : l.length = 0
    · exact .inl h0
    · have := (List.getElem?_eq_some_iff.1 (h6 (l.length - 1) (by omega))).1
      exact .inr (by omega)
/-- All words of another row. -/
theorem gives_copyW {m0 : Mem} {v : Value} {l l0 : List Nat} {b : Nat} (h : WL m v l) (hb : m.at b = some ⟨wc l0, 1, false, false⟩) (hl : l0.length = l.length)
    (hQ : ∀ m', m'.next = m.next → (∀ c, m'.at c = if c = b then some ⟨wc l, 1, false, false⟩ else m.at c) → Q (.int .i64 l.length) m') :
    Gives (copyX Try.prog 52 (.slice (some ⟨b, 0, none⟩) l.length l.length) v) m Q := by
  unfold copyX
  simp only [under_W, size_w]
  rw [gives_bind]
  have key : ∀ m1 : Mem, m1.next = m.next → (∀ c, m1.at c = m.at c) → Gives (do
      let blk ← getB b
      M.guard (!blk.ro && (wc l).all oneV)
      fun m => layK blk.cells 0 (wc l) fun
        | some l' => (do setB b (some { blk with cells := l' }); M.ret (Value.int .i64 (Nat.min (sliceLen v) l.length))) m
        | none => none) m1 Q := fun m1 hn he => by
    rw [gives_bind, gives_getB, he, hb, optQ_some]
    refine (gives_bind _ _ _ _).2 ((gives_guard _ _ _).2 ⟨by simp [wc_one], ?_⟩)
    refine (gives_laid _ _ _ (fun l' => (do setB b (some { (⟨wc l0, 1, false, false⟩ : Blk) with cells := l' }); M.ret (Value.int .i64 (Nat.min (sliceLen v) l.length)))) _ _).2 ?_
    rw [lay_over _ _ (by rw [wc_len, wc_len, hl]; exact Nat.le_refl _), List.drop_eq_nil_of_le (by rw [wc_len, wc_len, hl]; exact Nat.le_refl _), List.append_nil, optQ_some, gives_bind, gives_setB, gives_ret]
    have e : Nat.min (sliceLen v) l.length = l.length := by
      obtain ⟨a, k, rfl⟩ := h.val
      exact Nat.min_self _
    rw [e]
    exact hQ _ (by simp [hn]) (fun c => by simp [he])
  rcases h.take with ⟨rfl, rfl⟩ | ⟨b2, o2, k2, x2, rfl, h2, h3⟩
  · exact (gives_ret _ _ _).2 (key m rfl fun _ => rfl)
  · unfold takenX
    rw [gives_bind, gives_getB, h2, optQ_some, gives_ret]
    rw [show Nat.min l.length l.length = l.length from Nat.min_self _, h3]
    exact key _ (by simp) fun c => by simp
end
section
set_option maxRecDepth 10000
theorem copied_ok (n : Nat) {m : Mem} {v : Value} {l : List Nat} (hw : WF m) (h : WL m v l) (hl : l.length < 1000000) {Q : Value → Mem → Prop} (hQ : ∀ m' b, Up m m' → m.next ≤ b → m'.at b = some ⟨wc l, 1, false, false⟩ → Q (.slice (some ⟨b, 0, none⟩) l.length l.length) m') :
    Gives (callN Try.prog kn1 (n + 1) 78 [v]) m Q := by
  refine gives_fn (nt := 11) rfl Try.func78 rfl rfl rfl (Nat.le_of_ble_eq_true rfl) fun fr hn hd hargs => ?_
  have h0 : fr.at 0 = _ := hargs 0 _ rfl
  clear hargs
  simp [h0, hn, h.len]
  refine gives_makeW (by omega) ?_
  simp [h0, hn]
  have u := Up.nw m ⟨wc (List.replicate l.length 0), 1, false, false⟩
  refine gives_copyW (m0 := m) (l0 := List.replicate l.length 0) (h.up hw u) (by simp) (by simp) fun m' hn' he => ?_
  simp [hn, hd]
  exact hQ m' m.next (u.wr (b := m.next) (Nat.le_refl _) (by simp) hn' he) (Nat.le_refl _) (by rw [he, if_pos rfl])
theorem fromUint_ok (n : Nat) {m : Mem} {x : Nat} (hx : x < 18446744073709551616) {Q : Value → Mem → Prop} (hQ : ∀ m' v l, Up m m' → WL m' v l → l.length ≤ 2 → Tr l → wv l = x → Q v m') :
    Gives (callN Try.prog kn1 (n + 2) 75 [.int .u64 (x : Int)]) m Q := by
  refine gives_fn (nt := 10) rfl Try.func75 rfl rfl rfl (Nat.le_of_ble_eq_true rfl) fun fr hn hd hargs => ?_
  have h0 : fr.at 0 = _ := hargs 0 _ rfl
  clear hargs
  have e2 : x / 4294967296 % 4294967296 = x / 4294967296 := Nat.mod_eq_of_lt (by omega)
  obtain ⟨lo, hlo⟩ : ∃ y, y = x % 4294967296 := ⟨_, rfl⟩
  obtain ⟨hi, hhi⟩ : ∃ y, y = x / 4294967296 := ⟨_, rfl⟩
  have c1 := cv64_32 x
  have c2 := cv64_32 hi
  rw [hhi, e2] at c2
  rw [← hlo] at c1
  rw [← hhi] at c2
  have s1 : ∀ {P : Program} {t : TypeId} {xo yo : Operand} {k' : IntKind}, binX P .shr t xo yo (.int .u64 (x : Int)) (.int k' 32) = some (.int .u64 ((hi : Nat) : Int)) := fun {P t xo yo k'} => by rw [hhi]; exact bin_shr32 x
  simp [h0, hn, c1, c2, s1]
  refine gives_build2W lo hi ?_
  simp [hn]
  have hd2 : Wd [lo, hi] := fun y hy => by
    simp at hy
    rcases hy with rfl | rfl <;> omega
  refine trim_ok n (WL.own (b := m.next) (l := [lo, hi]) (by simp) hd2) (by simp) fun m' v' ho hw' => ?_
  simp [hn, hd]
  refine hQ m' v' _ ((Up.nw m _).trans (Up.only ho)) hw' ?_ (tr_trim _) ?_
  · unfold trimL
    rw [List.length_take]
    exact Nat.min_le_right _ _
  · rw [wv_trim]
    show lo + 4294967296 * (hi + 4294967296 * 0) = x
    omega
/-- How whole numbers are held against each other. -/
def cmpN (a b : Nat) : Int := if a < b then -1 else if b < a then 1 else 0
def cwI (m : Mem) (va vb : Value) (a b : List Nat) (q : Nat) (fr : Fr) (m' : Mem) : Prop := q ≤ a.length ∧ (∀ j, q ≤ j → j < a.length → wat a j = wat b j) ∧ fr.n = 41 ∧ fr.d = [] ∧ fr.at 0 = va ∧ fr.at 1 = vb ∧ fr.at 5 = .int .i64 ((q : Int) - 1) ∧ Only m m'
theorem cmpWords_ok (n : Nat) {m : Mem} {va vb : Value} {a b : List Nat} (ha : WL m va a) (hb : WL m vb b) (ta : Tr a) (tb : Tr b) (hl : a.length < 1000000) (hlb : b.length < 1000000) {Q : Value → Mem → Prop} (hQ : ∀ m', Only m m' → Q (.int .i64 (cmpN (wv a) (wv b))) m') :
    Gives (callN Try.prog kn1 (n + 1) 65 [va, vb]) m Q := by
  refine gives_fn (nt := 41) rfl Try.func65 rfl rfl rfl (Nat.le_of_ble_eq_true rfl) fun fr hn hd hargs => ?_
  have h0 : fr.at 0 = _ := hargs 0 _ rfl
  have h1 : fr.at 1 = _ := hargs 1 _ rfl
  clear hargs
  by_cases hlen : a.length = b.length
  · simp [h0, h1, hn, ha.len, hb.len, hlen]
    have hwl : IntKind.i64.wrap ((b.length : Int) - 1) = (b.length : Int) - 1 := by
      by_cases h : b.length = 0
      · rw [h]; rfl
      · rw [wrap_prd b.length (by omega) (by omega)]; omega
    simp [hwl]
    refine code_loop (cwI m va vb a b) a.length (by omega) ⟨Nat.le_refl _, fun j h1 h2 => by omega, by simp [hn], by simp [hd], by simp [h0], by simp [h1], by simp [hlen], Only.refl m⟩ ?_
    clear hn hd h0 h1 hwl
    rintro q fr m' ⟨hq, heq, hn, hd, h0, h1, h5, ho⟩
    by_cases hq0 : 0 < q
    · obtain ⟨b1, o1, k1, x1, hv1, hk1, hb1, hs1, hg1, hx1⟩ := (ha.only ho).get (by omega)
      obtain ⟨b2, o2, k2, x2, hv2, hk2, hb2, hs2, hg2, hx2⟩ := (hb.only ho).get (by omega)
      obtain ⟨q1, hq1⟩ : ∃ q1, q1 = q - 1 := ⟨_, rfl⟩
      have h5' : fr.at 5 = .int .i64 (q1 : Nat) := by rw [h5]; congr 1; omega
      have y1 := hx1 q1 (by omega)
      have y2 := hx2 q1 (by omega)
      rw [hv1] at h0
      rw [hv2] at h1
      have hwq : IntKind.i64.wrap ((q1 : Int) - 1) = (q1 : Int) - 1 := by
        by_cases h : q1 = 0
        · rw [h]; rfl
        · rw [wrap_prd q1 (by omega) (by omega)]; omega
      have hge : (0 : Int) ≤ (q1 : Int) := by omega
      by_cases hlt : wat a q1 < wat b q1
      · have hc : cmpN (wv a) (wv b) = -1 := if_pos (cmp_high ha.wd hb.wd hlen (show q1 < a.length by omega) (fun j h1 h2 => heq j (by omega) h2) hlt)
        simp [hn, h0, h1, h5', hge]
        refine code_draw_dyn (plan := [0, 0, 3, 7, 0, 0, 48, 112, 255]) (by kernel_rfl) ?_
        simp [drawQ, apartAll, apartL, Nat.testBit, hn, h0, h1, h5', idx_W _ _ _ _ _ _ (show q1 < a.length by omega), idx_W _ _ _ _ _ _ (show q1 < b.length by omega), hb1, hb2, y1, y2, hlt, hd]
        rw [hc] at hQ
        exact hQ _ (ho.trans ⟨by simp, fun c => by simp⟩)
      · simp [hn, h0, h1, h5', hge]
        refine code_draw_dyn (plan := [0, 0, 3, 7, 0, 0, 48, 112, 255]) (by kernel_rfl) ?_
        simp [drawQ, apartAll, apartL, Nat.testBit, hn, h0, h1, h5', idx_W _ _ _ _ _ _ (show q1 < a.length by omega), idx_W _ _ _ _ _ _ (show q1 < b.length by omega), hb1, hb2, y1, y2, hlt]
        refine code_draw_dyn (plan := [0, 0, 3, 7, 0, 0, 48, 112, 255]) (by kernel_rfl) ?_
        by_cases hgt : wat b q1 < wat a q1
        · simp [drawQ, apartAll, apartL, Nat.testBit, hn, h0, h1, h5', idx_W _ _ _ _ _ _ (show q1 < a.length by omega), idx_W _ _ _ _ _ _ (show q1 < b.length by omega), hb1, hb2, y1, y2, hlt, hgt, hd]
          have hc : cmpN (wv a) (wv b) = 1 := by
            have h := cmp_high hb.wd ha.wd hlen.symm (show q1 < b.length by omega) (fun j h1 h2 => (heq j (by omega) (by omega)).symm) hgt
            unfold cmpN
            rw [if_neg (by omega), if_pos h]
          rw [hc] at hQ
          exact hQ _ (ho.trans ⟨by simp, fun c => by simp⟩)
        · simp [drawQ, apartAll, apartL, Nat.testBit, hn, h0, h1, h5', idx_W _ _ _ _ _ _ (show q1 < a.length by omega), idx_W _ _ _ _ _ _ (show q1 < b.length by omega), hb1, hb2, y1, y2, hlt, hgt, hwq]
          refine ⟨q1, by omega, by omega, fun j hj1 hj2 => ?_, by simp [hn], by simp [hd], by simp [h0, hv1], by simp [h1, hv2], by simp, ho.trans ⟨by simp, fun c => by simp⟩⟩
          by_cases hjq : j = q1
          · rw [hjq]; omega
          · exact heq j (by omega) hj2
    · obtain rfl : q = 0 := by omega
      have e : a = b := eq_words hlen fun j hj => heq j (by omega) hj
      have hc : cmpN (wv a) (wv b) = 0 := by rw [e]; unfold cmpN; rw [if_neg (by omega), if_neg (by omega)]
      rw [hc] at hQ
      simp at h5
      simp [hn, hd, h5]
      exact hQ _ ho
  · by_cases hlt : a.length < b.length
    · have hc : cmpN (wv a) (wv b) = -1 := if_pos (tr_len ha.wd tb hlt)
      rw [hc] at hQ
      simp [h0, h1, hn, hd, ha.len, hb.len, hlt, show ¬ (a.length : Int) = (b.length : Int) by omega]
      exact hQ _ (Only.refl m)
    · have h2 := tr_len hb.wd ta (show b.length < a.length by omega)
      have hc : cmpN (wv a) (wv b) = 1 := by unfold cmpN; rw [if_neg (by omega), if_pos h2]
      rw [hc] at hQ
      simp [h0, h1, hn, hd, ha.len, hb.len, hlt, show ¬ (a.length : Int) = (b.length : Int) by omega]
      exact hQ _ (Only.refl m)
end
end Go.Proofs.Ytghhanifakllpaa

/- Words in the clean executor: sums. -/
namespace Go.Proofs.Ytghhanifakllpaa
open Go.Clean

/-- Words of one's own that are being made. -/
structure OWn (m m' : Mem) (b : Nat) (l : List Nat) : Prop where
  up : Up m m'
  lo : m.next ≤ b
  at' : m'.at b = some ⟨wc l, 1, false, false⟩
  wd : Wd l
theorem OWn.first (m : Mem) (n : Nat) : OWn m (m.nw ⟨wc (List.replicate n 0), 1, false, false⟩) m.next (List.replicate n 0) := ⟨Up.nw _ _, Nat.le_refl _, by simp, Wd.zeros n⟩
theorem OWn.next {m m1 m2 : Mem} {b : Nat} {l : List Nat} (h : OWn m m1 b l) (hw : WF m) (u : Up m1 m2) : OWn m m2 b l := ⟨h.up.trans u, h.lo, u.at h.at' (h.up.wf hw), h.wd⟩
theorem OWn.only {m m1 m2 : Mem} {b : Nat} {l : List Nat} (h : OWn m m1 b l) (u : Only m1 m2) : OWn m m2 b l := ⟨h.up.trans (Up.only u), h.lo, by rw [u.2]; exact h.at', h.wd⟩
theorem OWn.set {m m1 m4 : Mem} {b i x : Nat} {l : List Nat} (h : OWn m m1 b l) (hw : WF m) (hx : x < 4294967296) (n4 : m4.next = m1.next) (e4 : ∀ c, m4.at c = if c = b then some ⟨(wc l).set i (.int .u32 (x : Int)), 1, false, false⟩ else m1.at c) : OWn m m4 b (l.set i x) :=
  ⟨h.up.wr h.lo (h.up.wf hw b _ h.at') n4 e4, h.lo, by rw [e4, if_pos rfl, wc_set], h.wd.set i hx⟩
theorem OWn.wl {m m' : Mem} {b : Nat} {l : List Nat} (h : OWn m m' b l) : WL m' (.slice (some ⟨b, 0, none⟩) l.length l.length) l := WL.own h.at' h.wd
/-- What a word is read as. -/
structure RdW (m : Mem) (v : Value) (l : List Nat) (b o k : Nat) (x : Blk) : Prop where
  val : v = .slice (some ⟨b, o, none⟩) l.length k
  at' : m.at b = some x
  get : ∀ i, i < l.length → x.cells[o + i]? = some (.int .u32 ((wat l i : Nat) : Int))
theorem WL.rd {m : Mem} {v : Value} {l : List Nat} (h : WL m v l) (h0 : 0 < l.length) : ∃ b o k x, RdW m v l b o k x := by
  obtain ⟨b, o, k, x, h1, _, h3, _, _, h6⟩ := h.get h0
  exact ⟨b, o, k, x, h1, h3, h6⟩
section
set_option maxRecDepth 10000
def adI (m : Mem) (va vb : Value) (a b : List Nat) (bo : Nat) (q : Nat) (fr : Fr) (m' : Mem) : Prop := ∃ i c l, i + q = a.length ∧ fr.n = 59 ∧ fr.d = [] ∧ fr.at 0 = va ∧ fr.at 1 = vb ∧ fr.at 5 = .slice (some ⟨bo, 0, none⟩) (a.length + 1) (a.length + 1) ∧ fr.at 6 = .int .u64 (c : Nat) ∧ fr.at 7 = .int .i64 (i : Nat) ∧ OWn m m' bo l ∧ l.length = a.length + 1 ∧ c ≤ 1 ∧ wv (l.take i) + pw i * c = wv (a.take i) + wv (b.take i)
set_option maxHeartbeats 1000000 in
theorem addW_rest (n : Nat) {fr : Fr} {m : Mem} {va vb : Value} {a b : List Nat} (hw : WF m) (ha : WL m va a) (hb : WL m vb b) (hl : a.length < 900000) (hab : b.length ≤ a.length) (hn : fr.n = 59) (hd : fr.d = []) (h0 : fr.at 0 = va) (h1 : fr.at 1 = vb) {Q : Value → Mem → Prop}
    (hQ : ∀ m' v l, Up m m' → WL m' v l → l.length ≤ a.length + 1 → Tr l → wv l = wv a + wv b → Q v m') :
    Gives (codeX Try.prog (callN Try.prog kn1 (n + 1)) (sRn 2 (bodyOf Try.f108)) fr) m (fnQ Try.prog [.tmp 4] Q) := by
  obtain ⟨n1, hn1⟩ : ∃ x, x = a.length + 1 := ⟨_, rfl⟩
  have hwl : IntKind.i64.wrap ((a.length : Int) + 1) = (n1 : Int) := by rw [hn1]; exact wrap_succ a.length (by omega)
  refine via (X := .seq (.region _ _ _) _) rfl ?_
  simp [hn, h0, ha.len, hwl]
  refine gives_makeW (by omega) ?_
  simp [hn]
  refine code_loop (adI m va vb a b m.next) a.length (by omega) ⟨0, 0, _, by omega, by simp [hn], by simp [hd], by simp [h0], by simp [h1], by simp [hn1], by simp, by simp, OWn.first m n1, by simp [hn1], by omega, by simp [wv]⟩ ?_
  clear hn hd h0 h1
  rintro q fr m' ⟨i, c, l, hiq, hn, hd, h0, h1, h5, h6, h7, hO, hll, hc, hv⟩
  by_cases hi : i < a.length
  · obtain ⟨b1, o1, k1, x1, hA⟩ := (ha.up hw hO.up).rd (by omega)
    have y1 := hA.get i hi
    have e1 := hA.at'
    rw [hA.val] at h0
    have hai := wat_lt ha.wd i
    have hbi := wat_lt hb.wd i
    have cv := cv32_64 _ hai
    obtain ⟨t1, ht1⟩ : ∃ t, t = wat a i + c := ⟨_, rfl⟩
    have hw1 : IntKind.u64.wrap (((wat a i : Nat) : Int) + ((c : Nat) : Int)) = (t1 : Int) := by rw [ht1]; exact w64_add (by omega)
    obtain ⟨t, ht⟩ : ∃ t, t = wat a i + c + wat b i := ⟨_, rfl⟩
    have hwi := wrap_succ i (by omega)
    have hnew : wv (l.take i) + pw i * (t % 4294967296) + pw (i + 1) * (t / 4294967296) = wv (a.take (i + 1)) + wv (b.take (i + 1)) := by
      rw [wv_next a, wv_next b, pw_succ]
      have h2 := carry_step (p := pw i) (x := t % 4294967296) (c := t / 4294967296) (t := t) (by omega)
      have h3 : pw i * t = pw i * wat a i + pw i * c + pw i * wat b i := by rw [ht, Nat.mul_add, Nat.mul_add]
      omega
    have lenA := ha.len
    have lenB := hb.len
    rw [hA.val] at lenA
    have s32 : ∀ {P : Program} {t' : TypeId} {xo yo : Operand} {k' : IntKind}, binX P .shr t' xo yo (.int .u64 (t : Int)) (.int k' 32) = some (.int .u64 ((t / 4294967296 : Nat) : Int)) := fun {P t' xo yo k'} => bin_shr32 t
    have c32 := cv64_32 t
    by_cases hib : i < b.length
    · obtain ⟨b2, o2, k2, x2, hB⟩ := (hb.up hw hO.up).rd (by omega)
      have y2 := hB.get i hib
      have e2 := hB.at'
      rw [hB.val] at h1
      have cvb := cv32_64 _ hbi
      have hw2 : IntKind.u64.wrap ((t1 : Int) + ((wat b i : Nat) : Int)) = (t : Int) := by rw [ht, ← ht1]; exact w64_add (by omega)
      simp [hn, h0, h1, h5, h6, h7, hi, hib, idx_W _ _ _ _ _ _ hi, idx_W _ _ _ _ _ _ hib, idx_W _ _ _ _ _ _ (show i < a.length + 1 by omega), e1, y1, e2, y2, cv, cvb, hw1, hw2, c32]
      refine storeQ_one (cs := wc l) (sz := 1) (gr := false) (by simp [hO.at']) (by simp) (cells_int _ _) (by rw [wc_len]; omega) fun m4 n4 _ e4 => ?_
      simp only [Mem.next_rd, Mem.at_rd] at n4 e4
      simp [hn, h7, s32, hwi]
      have hO4 := hO.set hw (Nat.mod_lt t (by decide : 0 < 4294967296)) n4 e4
      exact ⟨q - 1, by omega, i + 1, t / 4294967296, l.set i (t % 4294967296), by omega, by simp [hn], by simp [hd], by simp [h0, hA.val], by simp [h1, hB.val], by simp [h5], by simp, by simp, hO4, by simp [hll], by omega, by rw [take_set_next (by omega)]; exact hnew⟩
    · have hb0 : wat b i = 0 := wat_far (by omega)
      obtain rfl : t = t1 := by omega
      simp [hn, h0, h1, lenB, h5, h6, h7, hi, hib, idx_W _ _ _ _ _ _ hi, idx_W _ _ _ _ _ _ (show i < a.length + 1 by omega), e1, y1, cv, hw1, c32]
      refine storeQ_one (cs := wc l) (sz := 1) (gr := false) (by simp [hO.at']) (by simp) (cells_int _ _) (by rw [wc_len]; omega) fun m4 n4 _ e4 => ?_
      simp only [Mem.next_rd, Mem.at_rd] at n4 e4
      simp [hn, h7, s32, hwi]
      have hO4 := hO.set hw (Nat.mod_lt t (by decide : 0 < 4294967296)) n4 e4
      exact ⟨q - 1, by omega, i + 1, t / 4294967296, l.set i (t % 4294967296), by omega, by simp [hn], by simp [hd], by simp [h0, hA.val], by simp [h1], by simp [h5], by simp, by simp, hO4, by simp [hll], by omega, by rw [take_set_next (by omega)]; exact hnew⟩
  · obtain rfl : i = a.length := by omega
    have e : wv (b.take a.length) = wv b := wv_all hab
    rw [e, List.take_length] at hv
    obtain ⟨n1', hn1'⟩ : ∃ x, x = a.length + 1 := ⟨_, rfl⟩
    have c32 := cv64_32 c
    rw [Nat.mod_eq_of_lt (by omega)] at c32
    simp [hn, h0, h5, h6, h7, ha.len, c32, idx_W _ _ _ _ _ _ (show a.length < a.length + 1 by omega)]
    refine storeQ_one (cs := wc l) (sz := 1) (gr := false) (by simp [hO.at']) (by simp) (cells_int _ _) (by rw [wc_len]; omega) fun m4 n4 _ e4 => ?_
    try simp only [Mem.next_rd, Mem.at_rd] at n4 e4
    have hO4 := hO.set hw (show c < 4294967296 by omega) n4 e4
    have hWL := hO4.wl
    simp only [List.length_set, hll] at hWL
    simp [hn, h5]
    refine trim_ok n hWL (by simp; omega) fun m5 v5 ho5 hw5 => ?_
    simp [hn, hd]
    refine hQ m5 v5 _ (hO4.up.trans (Up.only ho5)) hw5 ?_ (tr_trim _) ?_
    · unfold trimL
      rw [List.length_take]
      simp; omega
    · have h6 := take_set_next (l := l) (i := a.length) (x := c) (by omega)
      rw [wv_all (by simp; omega)] at h6
      rw [wv_trim, h6, hv]
theorem addWords_ok (n : Nat) {m : Mem} {va vb : Value} {a b : List Nat} (hw : WF m) (ha : WL m va a) (hb : WL m vb b) (hl : a.length < 900000) (hlb : b.length < 900000) {Q : Value → Mem → Prop}
    (hQ : ∀ m' v l, Up m m' → WL m' v l → l.length ≤ max a.length b.length + 1 → Tr l → wv l = wv a + wv b → Q v m') :
    Gives (callN Try.prog kn1 (n + 2) 108 [va, vb]) m Q := by
  refine gives_fn (nt := 59) rfl Try.func108 rfl rfl rfl (Nat.le_of_ble_eq_true rfl) fun fr hn hd hargs => ?_
  have h0 : fr.at 0 = _ := hargs 0 _ rfl
  have h1 : fr.at 1 = _ := hargs 1 _ rfl
  clear hargs
  by_cases hab : a.length < b.length
  · refine (code_seq _ _ _ _ _).2 ?_
    simp [hn, -code_seq]
    refine (code_seq _ _ _ _ _).2 ((code_seq _ _ _ _ _).2 ?_)
    simp [h0, h1, hn, ha.len, hb.len, hab, -code_seq]
    refine via (X := sRn 2 (bodyOf Try.f108)) (by kernel_rfl) (addW_rest n hw hb ha hlb (by omega) (by simp [hn]) (by simp [hd]) (by simp) (by simp) fun m' v l u h1 h2 h3 h4 => hQ m' v l u h1 (by omega) h3 (by omega))
  · refine (code_seq _ _ _ _ _).2 ?_
    simp [hn, -code_seq]
    refine (code_seq _ _ _ _ _).2 ((code_seq _ _ _ _ _).2 ?_)
    simp [h0, h1, hn, ha.len, hb.len, hab, -code_seq]
    refine via (X := sRn 2 (bodyOf Try.f108)) (by kernel_rfl) (addW_rest n hw ha hb hl (by omega) (by simp [hn]) (by simp [hd]) (by simp [h0]) (by simp [h1]) fun m' v l u h1 h2 h3 h4 => hQ m' v l u h1 (by omega) h3 (by omega))
end
end Go.Proofs.Ytghhanifakllpaa
