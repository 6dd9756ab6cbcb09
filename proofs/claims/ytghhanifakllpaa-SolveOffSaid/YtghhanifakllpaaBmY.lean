/- Words in the clean executor: a figure of a quotient. -/
import Derived.Test.YtghhanifakllpaaBkY
set_option linter.unusedSimpArgs false
set_option linter.unusedVariables false
namespace Go.Proofs.Ytghhanifakllpaa
open Go.Clean

theorem wc_app (P S : List Nat) : wc (P ++ S) = wc P ++ wc S := by unfold wc; rw [List.map_append]
theorem app_get {P S : List Nat} {i : Nat} (hi : i < S.length) : (wc (P ++ S))[P.length + i]? = some (.int .u32 ((wat S i : Nat) : Int)) := by
  rw [wc_app, List.getElem?_append_right (by rw [wc_len]; omega), wc_len, Nat.add_sub_cancel_left]
  exact wc_get hi
theorem app_set (P S : List Nat) (i x : Nat) : (wc (P ++ S)).set (P.length + i) (.int .u32 (x : Int)) = wc (P ++ S.set i x) := by
  rw [wc_set, List.set_append_right _ _ (by omega), Nat.add_sub_cancel_left]
/-- A row whose end is being worked on. -/
structure UW (m m' : Mem) (bu : Nat) (P S : List Nat) : Prop where
  next : m'.next = m.next
  old : ∀ c, c ≠ bu → m'.at c = m.at c
  at' : m'.at bu = some ⟨wc (P ++ S), 1, false, false⟩
  wd : Wd S
theorem UW.only {m m1 m2 : Mem} {bu : Nat} {P S : List Nat} (h : UW m m1 bu P S) (u : Only m1 m2) : UW m m2 bu P S := ⟨u.1.trans h.next, fun c hc => (u.2 c).trans (h.old c hc), (u.2 bu).trans h.at', h.wd⟩
theorem UW.set {m m1 m4 : Mem} {bu i x : Nat} {P S : List Nat} (h : UW m m1 bu P S) (hx : x < 4294967296) (n4 : m4.next = m1.next) (e4 : ∀ c, m4.at c = if c = bu then some ⟨(wc (P ++ S)).set (P.length + i) (.int .u32 (x : Int)), 1, false, false⟩ else m1.at c) : UW m m4 bu P (S.set i x) :=
  ⟨n4.trans h.next, fun c hc => by rw [e4, if_neg hc]; exact h.old c hc, by rw [e4, if_pos rfl, app_set], h.wd.set i hx⟩
theorem wv_zero_above {S : List Nat} {n : Nat} (hz : ∀ t, n < t → wat S t = 0) : ∀ k, n + 1 ≤ k → wv (S.take k) = wv (S.take (n + 1)) := by
  intro k
  induction k with
  | zero => intro h; omega
  | succ k ih =>
    intro h
    by_cases hk : n + 1 = k + 1
    · rw [hk]
    · rw [wv_next, hz k (by omega), Nat.mul_zero, Nat.add_zero]
      exact ih (by omega)
theorem wv_top {S : List Nat} {n : Nat} (hz : ∀ t, n < t → wat S t = 0) : wv S = wv (S.take n) + pw n * wat S n := by
  have h := wv_zero_above hz (max S.length (n + 1)) (by omega)
  rw [List.take_of_length_le (by omega)] at h
  rw [h, wv_next]
section
set_option maxRecDepth 10000
theorem and32 {P : Program} {t' : TypeId} {xo yo : Operand} (x : Nat) (h : x < 18446744073709551616) : binX P .and t' xo yo (.int .u64 (x : Int)) (.int .u64 4294967295) = some (.int .u64 ((x % 4294967296 : Nat) : Int)) := by
  have e := bin_and64 (P := P) (t := t') (xo := xo) (yo := yo) x 4294967295 h (by decide)
  rw [show (4294967295 : Nat) = 2 ^ 32 - 1 from rfl, Nat.and_two_pow_sub_one_eq_mod] at e
  exact e
structure FgF (fr : Fr) (vu vv : Value) (N tp : Nat) : Prop where
  n : fr.n = 165
  d : fr.d = []
  f0 : fr.at 0 = vu
  f1 : fr.at 1 = vv
  f5 : fr.at 5 = .int .i64 (N : Nat)
  f6 : fr.at 6 = .int .u64 (tp : Nat)
def f1I (m : Mem) (vu vv : Value) (n tp num qq : Nat) (k : Nat) (fr : Fr) (m' : Mem) : Prop := ∃ g r, k = (4294967295 - r) / 2147483648 ∧ FgF fr vu vv n tp ∧ fr.at 8 = .int .u64 (g : Nat) ∧ fr.at 9 = .int .u64 (r : Nat) ∧ Only m m' ∧ r < 4294967296 ∧ g * tp + r = num ∧ qq ≤ g ∧ g < 8589934592
def f1R (m : Mem) (vu vv : Value) (n tp num qq v2 u2 : Nat) (r : Ex × Fr) (m' : Mem) : Prop := r.1 = .exit 0 ∧ ∃ g, FgF r.2 vu vv n tp ∧ r.2.at 8 = .int .u64 (g : Nat) ∧ Only m m' ∧ qq ≤ g ∧ g < 4294967296 ∧ g * (tp * 4294967296 + v2) ≤ num * 4294967296 + u2
def f2I (m : Mem) (vu vv : Value) (n tp g bu : Nat) (P S v : List Nat) (k : Nat) (fr : Fr) (m' : Mem) : Prop := ∃ i c b S1, i + k = n ∧ FgF fr vu vv n tp ∧ fr.at 8 = .int .u64 (g : Nat) ∧ fr.at 10 = .int .u64 (c : Nat) ∧ fr.at 11 = .int .u64 (b : Nat) ∧ fr.at 12 = .int .i64 (i : Nat) ∧ UW m m' bu P S1 ∧ S1.length = S.length ∧ c < 4294967296 ∧ b ≤ 1 ∧ (∀ t, i ≤ t → wat S1 t = wat S t) ∧ wv (S1.take i) + g * wv (v.take i) = wv (S.take i) + pw i * (c + b)
def f2R (m : Mem) (vu vv : Value) (n tp g bu : Nat) (P S v : List Nat) (r : Ex × Fr) (m' : Mem) : Prop := r.1 = .exit 2 ∧ ∃ c b S1, FgF r.2 vu vv n tp ∧ r.2.at 8 = .int .u64 (g : Nat) ∧ r.2.at 10 = .int .u64 (c : Nat) ∧ r.2.at 11 = .int .u64 (b : Nat) ∧ UW m m' bu P S1 ∧ S1.length = S.length ∧ c < 4294967296 ∧ b ≤ 1 ∧ (∀ t, n ≤ t → wat S1 t = wat S t) ∧ wv (S1.take n) + g * wv v = wv (S.take n) + pw n * (c + b)
def f3I (m : Mem) (vu vv : Value) (n tp g bu : Nat) (P S v : List Nat) (k : Nat) (fr : Fr) (m' : Mem) : Prop := ∃ i c S1, i + k = n ∧ FgF fr vu vv n tp ∧ fr.at 8 = .int .u64 (g : Nat) ∧ fr.at 16 = .int .u64 (c : Nat) ∧ fr.at 17 = .int .i64 (i : Nat) ∧ UW m m' bu P S1 ∧ S1.length = S.length ∧ c ≤ 1 ∧ (∀ t, i ≤ t → wat S1 t = wat S t) ∧ wv (S1.take i) + pw i * c = wv (S.take i) + wv (v.take i)
def f3R (m : Mem) (vu vv : Value) (n tp g bu : Nat) (P S v : List Nat) (r : Ex × Fr) (m' : Mem) : Prop := r.1 = .exit 4 ∧ ∃ c S1, FgF r.2 vu vv n tp ∧ r.2.at 8 = .int .u64 (g : Nat) ∧ r.2.at 16 = .int .u64 (c : Nat) ∧ UW m m' bu P S1 ∧ S1.length = S.length ∧ c ≤ 1 ∧ (∀ t, n ≤ t → wat S1 t = wat S t) ∧ wv (S1.take n) + pw n * c = wv (S.take n) + wv v
set_option maxHeartbeats 8000000 in
theorem figure_ok (e : Nat) {m : Mem} {bu ku n : Nat} {P S v : List Nat} {vv : Value} {bv ov kv : Nat} {xv : Blk} (hat : m.at bu = some ⟨wc (P ++ S), 1, false, false⟩) (hS : Wd S) (hn2 : 2 ≤ n) (hnS : n + 1 ≤ S.length) (hz : ∀ t, n < t → wat S t = 0)
    (hvd : Wd v) (hvn : v.length = n) (hB : RdW m vv v bv ov kv xv) (hne : bv ≠ bu) (htop : 2147483648 ≤ wat v (n - 1)) (hlt : wv S < 4294967296 * wv v) (hsz : P.length + n < 1000000) {Q : Value → Mem → Prop}
    (hQ : ∀ m' S', UW m m' bu P S' → S'.length = S.length → (∀ t, n < t → wat S' t = 0) → wv S' = wv S % wv v → Q (.int .u32 ((wv S / wv v : Nat) : Int)) m') :
    Gives (callN Try.prog kn1 (e + 1) 106 [.slice (some ⟨bu, P.length, none⟩) (n + 1) ku, vv]) m Q := by
  refine gives_fn (nt := 165) rfl Try.func106 rfl rfl rfl (Nat.le_of_ble_eq_true rfl) fun fr hn hd hargs => ?_
  have h0 : fr.at 0 = _ := hargs 0 _ rfl
  have h1 : fr.at 1 = _ := hargs 1 _ rfl
  clear hargs
  obtain ⟨n1, hn1⟩ : ∃ x, x = n - 1 := ⟨_, rfl⟩
  obtain ⟨n2, hn2'⟩ : ∃ x, x = n - 2 := ⟨_, rfl⟩
  obtain ⟨N, hN⟩ : ∃ x, x = n + 1 := ⟨_, rfl⟩
  have hwn1 : IntKind.i64.wrap ((n : Int) - 1) = (n1 : Int) := by rw [hn1]; exact wrap_prd n (by omega) (by omega)
  have hwn2 : IntKind.i64.wrap ((n : Int) - 2) = (n2 : Int) := by
    have := wrap_add n2 0 (by omega)
    rw [show ((n : Int) - 2) = (n2 : Int) + ((0 : Nat) : Int) by omega]
    exact this
  have eV := hB.val
  rw [hvn] at eV
  obtain ⟨tp, htp⟩ : ∃ x, x = wat v n1 := ⟨_, rfl⟩
  obtain ⟨v2, hv2⟩ : ∃ x, x = wat v n2 := ⟨_, rfl⟩
  have hget := hB.get
  have gt := hget n1 (by omega)
  have g2 := hget n2 (by omega)
  rw [← htp] at gt
  rw [← hv2] at g2
  have atv := hB.at'
  have tp32 : tp < 4294967296 := by rw [htp]; exact wat_lt hvd _
  have v232 : v2 < 4294967296 := by rw [hv2]; exact wat_lt hvd _
  have tpge : 2147483648 ≤ tp := by rw [htp, hn1]; exact htop
  obtain ⟨un, hun⟩ : ∃ x, x = wat S n := ⟨_, rfl⟩
  obtain ⟨um, hum⟩ : ∃ x, x = wat S n1 := ⟨_, rfl⟩
  obtain ⟨u2, hu2⟩ : ∃ x, x = wat S n2 := ⟨_, rfl⟩
  have un32 : un < 4294967296 := by rw [hun]; exact wat_lt hS _
  have um32 : um < 4294967296 := by rw [hum]; exact wat_lt hS _
  have u232 : u2 < 4294967296 := by rw [hu2]; exact wat_lt hS _
  have a1 := app_get (P := P) (S := S) (i := n) (by omega)
  have a2 := app_get (P := P) (S := S) (i := n1) (by omega)
  have a3 := app_get (P := P) (S := S) (i := n2) (by omega)
  rw [← hun] at a1
  rw [← hum] at a2
  rw [← hu2] at a3
  have cvt := cv32_64 tp tp32
  have cvn := cv32_64 un un32
  have cvm := cv32_64 um um32
  have cv2 := cv32_64 u2 u232
  have cvv2 := cv32_64 v2 v232
  -- worths
  obtain ⟨V, hVd⟩ : ∃ x, x = wv v := ⟨_, rfl⟩
  obtain ⟨D, hDd⟩ : ∃ x, x = wv S := ⟨_, rfl⟩
  obtain ⟨p, hp⟩ : ∃ x, x = pw n2 := ⟨_, rfl⟩
  have hpp : 0 < p := by rw [hp]; exact pw_pos _
  have pn1 : pw n1 = 4294967296 * p := by rw [hp, ← pw_succ]; congr 1; omega
  have pn : pw n = 4294967296 * (4294967296 * p) := by rw [← pn1, ← pw_succ]; congr 1; omega
  have en : n = n1 + 1 := by omega
  have en1 : n1 = n2 + 1 := by omega
  have wV : V = wv (v.take n2) + p * v2 + 4294967296 * (p * tp) := by
    have x1 : wv v = wv (v.take n1) + pw n1 * wat v n1 := by
      have := wv_next v n1
      rw [← en, ← hvn, List.take_length] at this
      exact this
    have x2 : wv (v.take n1) = wv (v.take n2) + pw n2 * wat v n2 := by
      have := wv_next v n2
      rw [← en1] at this
      exact this
    rw [hVd, x1, x2, ← htp, ← hv2, ← hp, pn1, Nat.mul_assoc]
  have wVl : wv (v.take n2) < p := by
    have := wv_lt (hvd.take n2)
    rw [List.length_take, Nat.min_eq_left (by omega), ← hp] at this
    exact this
  have wD : D = wv (S.take n) + pw n * un := by rw [hDd, hun]; exact wv_top hz
  have wD2 : wv (S.take n) = wv (S.take n2) + p * u2 + 4294967296 * (p * um) := by
    have x1 : wv (S.take n) = wv (S.take n1) + pw n1 * wat S n1 := by
      have := wv_next S n1
      rw [← en] at this
      exact this
    have x2 : wv (S.take n1) = wv (S.take n2) + pw n2 * wat S n2 := by
      have := wv_next S n2
      rw [← en1] at this
      exact this
    rw [x1, x2, ← hum, ← hu2, ← hp, pn1, Nat.mul_assoc]
  have wSl : wv (S.take n2) < p := by
    have := wv_lt (hS.take n2)
    rw [List.length_take, Nat.min_eq_left (by omega), ← hp] at this
    exact this
  have wTn : wv (S.take n) < pw n := by
    have := wv_lt (hS.take n)
    rw [List.length_take, Nat.min_eq_left (by omega)] at this
    exact this
  rw [← hVd, ← hDd] at hlt
  obtain ⟨num, hnum⟩ : ∃ x, x = un * 4294967296 + um := ⟨_, rfl⟩
  have eT : (tp * 4294967296 + v2) * p = 4294967296 * (p * tp) + p * v2 := by
    rw [Nat.add_mul, Nat.mul_comm v2 p, Nat.mul_comm tp, Nat.mul_assoc, Nat.mul_comm tp p]
  have V1 : (tp * 4294967296 + v2) * p ≤ V := by rw [wV, eT]; omega
  have V2 : V < (tp * 4294967296 + v2 + 1) * p := by rw [Nat.add_mul _ 1, eT, wV]; omega
  have V3 : 4294967296 * p ≤ V := by
    have : p * 1 ≤ p * tp := Nat.mul_le_mul_left _ (by omega)
    omega
  have hV0 : 0 < V := by omega
  have eN : (num * 4294967296 + u2) * p = 4294967296 * (4294967296 * p) * un + 4294967296 * (p * um) + p * u2 := by
    rw [hnum, Nat.add_mul, Nat.add_mul, Nat.add_mul]
    have x1 : un * 4294967296 * 4294967296 * p = 4294967296 * (4294967296 * p) * un := by
      rw [Nat.mul_comm _ un, Nat.mul_assoc un, Nat.mul_assoc un, Nat.mul_assoc 4294967296 4294967296 p]
    have x2 : um * 4294967296 * p = 4294967296 * (p * um) := by rw [Nat.mul_comm um, Nat.mul_assoc, Nat.mul_comm um]
    rw [x1, x2, Nat.mul_comm u2]
  have D1 : (num * 4294967296 + u2) * p ≤ D := by rw [eN, wD, wD2, pn]; omega
  have D2 : D < (num * 4294967296 + u2 + 1) * p := by rw [Nat.add_mul _ 1, eN, wD, wD2, pn]; omega
  have untp : un ≤ tp := by
    refine fig_top (B := 4294967296) (V := V) (P := 4294967296 * p) (w := D) ?_ hlt ?_
    · rw [wD, pn, Nat.mul_comm un]; omega
    · have : (tp + 1) * (4294967296 * p) = 4294967296 * (p * tp) + 4294967296 * p := by rw [Nat.add_mul, Nat.one_mul, Nat.mul_comm tp, Nat.mul_assoc]
      rw [this, wV]
      have h5 : p * (v2 + 1) ≤ p * 4294967296 := Nat.mul_le_mul_left _ v232
      rw [Nat.mul_add] at h5
      omega
  obtain ⟨qq, hqq⟩ : ∃ x, x = D / V := ⟨_, rfl⟩
  have qV : qq * V ≤ D := by rw [hqq]; exact Nat.div_mul_le_self D V
  have qB : qq < 4294967296 := by rw [hqq]; exact Nat.div_lt_of_lt_mul (by rw [Nat.mul_comm]; exact hlt)
  have qmod : D % V = D - qq * V := by rw [hqq, Nat.mul_comm]; exact (Nat.sub_eq_of_eq_add (by rw [Nat.add_comm]; exact (Nat.div_add_mod D V).symm)).symm
  have qlt : D < qq * V + V := by have := Nat.lt_div_mul_add (a := D) hV0; rw [← hqq] at this; exact this
  have hnum64 : num < 18446744073709551616 := by omega
  obtain ⟨r1, hr1⟩ : ∃ x, x = un * 4294967296 := ⟨_, rfl⟩
  have sh1 : ∀ {P : Program} {t' : TypeId} {xo yo : Operand} {k' : IntKind}, binX P .shl t' xo yo (.int .u64 (un : Int)) (.int k' 32) = some (.int .u64 (r1 : Int)) := fun {P t' xo yo k'} => by rw [hr1]; exact bin_shl32 _ un32
  have hor : ∀ {P : Program} {t' : TypeId} {xo yo : Operand}, binX P .or t' xo yo (.int .u64 (r1 : Int)) (.int .u64 (um : Int)) = some (.int .u64 (num : Int)) := fun {P t' xo yo} => by
    rw [bin_or64 _ _ (by omega) (by omega), hnum, hr1]
    congr 3
    exact or_add un _ 32 um32
  obtain ⟨g0, hg0⟩ : ∃ x, x = num / tp := ⟨_, rfl⟩
  obtain ⟨s0, hs0⟩ : ∃ x, x = num % tp := ⟨_, rfl⟩
  have gs0 : g0 * tp + s0 = num := by rw [hg0, hs0, Nat.mul_comm]; exact Nat.div_add_mod num tp
  have s0lt : s0 < tp := by rw [hs0]; exact Nat.mod_lt _ (by omega)
  have Bq : ∀ {P : Program} {t' : TypeId} {xo yo : Operand}, binX P .quo t' xo yo (.int .u64 (num : Int)) (.int .u64 (tp : Int)) = some (.int .u64 (g0 : Int)) := fun {P t' xo yo} => by rw [hg0]; exact bin_quo num tp (by omega) hnum64
  have Br : ∀ {P : Program} {t' : TypeId} {xo yo : Operand}, binX P .rem t' xo yo (.int .u64 (num : Int)) (.int .u64 (tp : Int)) = some (.int .u64 (s0 : Int)) := fun {P t' xo yo} => by rw [hs0]; exact bin_rem num tp (by omega)
  have qg0 : qq ≤ g0 := by
    rw [hg0]
    refine (Nat.le_div_iff_mul_le (by omega)).2 ?_
    -- q * tp <= num
    by_cases h : qq * tp ≤ num
    · exact h
    · exfalso
      have h5 : (num + 1) * (4294967296 * p) ≤ qq * tp * (4294967296 * p) := Nat.mul_le_mul_right _ (by omega)
      have h6 : qq * tp * (4294967296 * p) ≤ qq * V := by
        rw [Nat.mul_assoc]
        refine Nat.mul_le_mul_left _ ?_
        rw [wV, Nat.mul_comm tp, Nat.mul_assoc]; omega
      have h7 : (num + 1) * (4294967296 * p) = (num * 4294967296 + 4294967296) * p := by
        rw [← Nat.mul_assoc, Nat.add_mul, Nat.one_mul]
      have h8 : (num * 4294967296 + u2 + 1) * p ≤ (num * 4294967296 + 4294967296) * p := Nat.mul_le_mul_right _ (by omega)
      omega
  have g0lt : g0 < 8589934592 := by
    rw [hg0]
    refine Nat.div_lt_of_lt_mul ?_
    have : 2147483648 * 8589934592 ≤ tp * 8589934592 := Nat.mul_le_mul_right _ tpge
    omega
  rw [hN.symm] at h0
  rw [eV] at h1
  simp [hn, h0, h1, hwn1, idx_W _ _ _ _ _ _ (show n1 < n by omega), atv, gt, cvt]
  refine code_draw_dyn (plan := [0, 0, 3, 7, 15, 31, 0, 0, 128, 448, 960, 1984, 4095, 8191]) (by kernel_rfl) ?_
  simp [drawQ, apartAll, apartL, Nat.testBit, hn, h0, h1, hwn1, idx_W _ _ _ _ _ _ (show n < N by omega), idx_W _ _ _ _ _ _ (show n1 < N by omega), hat, a1, a2, cvn, cvm, sh1, hor, Bq, Br]
  refine code_loop_post (f1R m (.slice (some ⟨bu, P.length, none⟩) N ku) (.slice (some ⟨bv, ov, none⟩) n kv) n tp num qq v2 u2) (f1I m (.slice (some ⟨bu, P.length, none⟩) N ku) (.slice (some ⟨bv, ov, none⟩) n kv) n tp num qq) ((4294967295 - s0) / 2147483648) (by omega) ⟨g0, s0, rfl, ⟨by simp [hn], by simp [hd], by simp [h0], by simp [h1], by simp, by simp⟩, by simp, by simp, ⟨by simp, fun c => by simp⟩, by omega, gs0, qg0, g0lt⟩ ?_ ?_
  · clear hn hd h0 h1
    rintro k fr m' ⟨g, r, hk, F, f8, f9, ho, hr, hgr, hqg, hg⟩
    have e1 := (ho.2 bv).trans atv
    have e2 := (ho.2 bu).trans hat
    have hn := F.n
    have hd := F.d
    have h0 := F.f0
    have h1 := F.f1
    have h5 := F.f5
    have h6 := F.f6
    obtain ⟨gv, hgv⟩ : ∃ x, x = g * v2 := ⟨_, rfl⟩
    obtain ⟨rs, hrs⟩ : ∃ x, x = r * 4294967296 := ⟨_, rfl⟩
    obtain ⟨ru, hru⟩ : ∃ x, x = rs + u2 := ⟨_, rfl⟩
    have shr : ∀ {P : Program} {t' : TypeId} {xo yo : Operand} {k' : IntKind}, binX P .shl t' xo yo (.int .u64 (r : Int)) (.int k' 32) = some (.int .u64 (rs : Int)) := fun {P t' xo yo k'} => by rw [hrs]; exact bin_shl32 _ hr
    have hor2 : ∀ {P : Program} {t' : TypeId} {xo yo : Operand}, binX P .or t' xo yo (.int .u64 (rs : Int)) (.int .u64 (u2 : Int)) = some (.int .u64 (ru : Int)) := fun {P t' xo yo} => by
      rw [bin_or64 _ _ (by omega) (by omega), hru, hrs]
      congr 3
      exact or_add r _ 32 u232
    have hdec : 4294967296 ≤ g ∨ ru < gv → qq + 1 ≤ g := fun h => fig_dec hgr D2 V1 qV qB hqg (by rw [← hgv, ← hrs, ← hru]; exact h)
    have hg1 : qq + 1 ≤ g → IntKind.u64.wrap ((g : Int) - 1) = ((g - 1 : Nat) : Int) := fun h => by
      have := @w64_sub g 1 (by omega) (by omega)
      exact this
    have hrt : IntKind.u64.wrap ((r : Int) + (tp : Int)) = ((r + tp : Nat) : Int) := w64_add (by omega)
    have hgt : qq + 1 ≤ g → (g - 1) * tp + (r + tp) = num := fun h => by
      obtain ⟨g', rfl⟩ : ∃ g', g = g' + 1 := ⟨g - 1, by omega⟩
      rw [Nat.add_sub_cancel, ← hgr, Nat.add_mul]; omega
    have hfin : qq + 1 ≤ g → 4294967296 ≤ r + tp → g - 1 < 4294967296 ∧ (g - 1) * (tp * 4294967296 + v2) ≤ num * 4294967296 + u2 := fun h hB => by
      have e := hgt h
      have hl : g - 1 < 4294967296 := by
        by_cases hh : g - 1 < 4294967296
        · exact hh
        · exfalso
          have h7 : 4294967296 * tp ≤ (g - 1) * tp := Nat.mul_le_mul_right _ (by omega)
          omega
      refine ⟨hl, ?_⟩
      have h8 : (g - 1) * v2 ≤ 4294967295 * 4294967295 := Nat.mul_le_mul (by omega) (by omega)
      rw [Nat.mul_add, ← Nat.mul_assoc]
      omega
    simp [hn]
    refine code_draw_reads (plan := [0,1,3,7,7,7,39,119,247,503,1023,7,2055,7,7,16391,57351,122887,253959,522247,1048575,2097151]) (by kernel_rfl) rfl (by kernel_rfl) fun ops hy => ?_
    have hy2 := hy 2 48 rfl
    clear hy
    by_cases hgB : 4294967296 ≤ g
    · have hgB' : (4294967296 : Int) ≤ (g : Int) := by omega
      simp [drawRQ, hy2, hn, h0, h1, h5, h6, f8, f9, hgB']
      have hq1 : qq + 1 ≤ g := hdec (.inl hgB)
      by_cases hrB : 4294967296 ≤ r + tp
      · have hrB' : (4294967296 : Int) ≤ ((r + tp : Nat) : Int) := by omega
        simp only [hg1 hq1, hrt, hrB']
        simp
        refine ⟨rfl, g - 1, ⟨by simp [hn], by simp [hd], by simp [h0], by simp [h1], by simp [h5], by simp [h6]⟩, by simp, ho.trans ⟨by simp, fun c => by simp⟩, by omega, ?_, ?_⟩
        · exact (hfin hq1 hrB).1
        · exact (hfin hq1 hrB).2
      · have hrB' : ¬ (4294967296 : Int) ≤ ((r + tp : Nat) : Int) := by omega
        simp only [hg1 hq1, hrt, hrB']
        simp
        exact ⟨(4294967295 - (r + tp)) / 2147483648, by omega, g - 1, r + tp, rfl, ⟨by simp [hn], by simp [hd], by simp [h0], by simp [h1], by simp [h5], by simp [h6]⟩, by simp, by simp, ho.trans ⟨by simp, fun c => by simp⟩, by omega, hgt hq1, by omega, by omega⟩
    · have hgB' : ¬ (4294967296 : Int) ≤ (g : Int) := by omega
      have hgm : IntKind.u64.wrap ((g : Int) * (v2 : Int)) = (gv : Int) := by
        rw [hgv]
        refine w64_mul ?_
        have := Nat.mul_le_mul (show g ≤ 4294967295 by omega) (show v2 ≤ 4294967295 by omega)
        omega
      by_cases hgr : ru < gv
      · simp [drawRQ, hy2, hn, h0, h1, h5, h6, f8, f9, hgB', hwn2, idx_W _ _ _ _ _ _ (show n2 < n by omega), idx_W _ _ _ _ _ _ (show n2 < N by omega), e1, e2, g2, a3, cv2, cvv2, shr, hor2, hgm, hgr]
        have hq1 : qq + 1 ≤ g := hdec (.inr hgr)
        by_cases hrB : 4294967296 ≤ r + tp
        · have hrB' : (4294967296 : Int) ≤ ((r + tp : Nat) : Int) := by omega
          simp only [hg1 hq1, hrt, hrB']
          simp
          refine ⟨rfl, g - 1, ⟨by simp [hn], by simp [hd], by simp [h0], by simp [h1], by simp [h5], by simp [h6]⟩, by simp, ho.trans ⟨by simp, fun c => by simp⟩, by omega, ?_, ?_⟩
          · exact (hfin hq1 hrB).1
          · exact (hfin hq1 hrB).2
        · have hrB' : ¬ (4294967296 : Int) ≤ ((r + tp : Nat) : Int) := by omega
          simp only [hg1 hq1, hrt, hrB']
          simp
          exact ⟨(4294967295 - (r + tp)) / 2147483648, by omega, g - 1, r + tp, rfl, ⟨by simp [hn], by simp [hd], by simp [h0], by simp [h1], by simp [h5], by simp [h6]⟩, by simp, by simp, ho.trans ⟨by simp, fun c => by simp⟩, by omega, hgt hq1, by omega, by omega⟩
      · simp [drawRQ, hy2, hn, h0, h1, h5, h6, f8, f9, hgB', hwn2, idx_W _ _ _ _ _ _ (show n2 < n by omega), idx_W _ _ _ _ _ _ (show n2 < N by omega), e1, e2, g2, a3, cv2, cvv2, shr, hor2, hgm, hgr]
        refine ⟨rfl, g, ⟨by simp [hn], by simp [hd], by simp [h0], by simp [h1], by simp [h5], by simp [h6]⟩, by simp [f8], ho.trans ⟨by simp, fun c => by simp⟩, by omega, by omega, ?_⟩
        rw [Nat.mul_add, ← Nat.mul_assoc]
        omega
  · rintro ⟨rx, fr1⟩ m1 ⟨rfl, g, F, f8, ho, hqg, hgB, hgn⟩
    replace F : FgF fr1 _ _ _ _ := F
    replace f8 : fr1.at 8 = _ := f8
    have hnF := F.n
    have hd1 := F.d
    have h01 := F.f0
    have h11 := F.f1
    have h51 := F.f5
    have h61 := F.f6
    simp [hnF]
    have gV : g * V < D + V := fig_fin hgn D1 V2 V3 hgB
    have hU1 : UW m m1 bu P S := ⟨ho.1, fun c _ => ho.2 c, (ho.2 bu).trans hat, hS⟩
    refine code_loop_post (f2R m (.slice (some ⟨bu, P.length, none⟩) N ku) (.slice (some ⟨bv, ov, none⟩) n kv) n tp g bu P S v) (f2I m (.slice (some ⟨bu, P.length, none⟩) N ku) (.slice (some ⟨bv, ov, none⟩) n kv) n tp g bu P S v) n (by omega) ⟨0, 0, 0, S, by omega, ⟨by simp [hnF], by simp [hd1], by simp [h01], by simp [h11], by simp [h51], by simp [h61]⟩, by simp [f8], by simp, by simp, by simp, hU1.only ⟨by simp, fun c => by simp⟩, rfl, by omega, by omega, fun t _ => rfl, by simp [wv]⟩ ?_ ?_
    · clear hnF hd1 h01 h11 h51 h61 F f8 ho hU1
      rintro k fr m2 ⟨i, c, b, S1, hik, F, f8, f10, f11, f12, hU, hSl, hc, hb, hS1, hv⟩
      have hn := F.n
      have hd := F.d
      have h0 := F.f0
      have h1 := F.f1
      have h5 := F.f5
      by_cases hi : i < n
      · have e1 := (hU.old bv hne).trans atv
        have e2 := hU.at'
        have gi := hget i (by omega)
        have ai := app_get (P := P) (S := S1) (i := i) (by omega)
        obtain ⟨vi, hvi⟩ : ∃ x, x = wat v i := ⟨_, rfl⟩
        obtain ⟨si, hsi⟩ : ∃ x, x = wat S1 i := ⟨_, rfl⟩
        rw [← hvi] at gi
        rw [← hsi] at ai
        have vi32 : vi < 4294967296 := by rw [hvi]; exact wat_lt hvd _
        have si32 : si < 4294967296 := by rw [hsi]; exact wat_lt hU.wd _
        have cvv := cv32_64 vi vi32
        have cvs := cv32_64 si si32
        obtain ⟨gp, hgp⟩ : ∃ x, x = g * vi := ⟨_, rfl⟩
        have hgl : gp ≤ 4294967295 * 4294967295 := by rw [hgp]; exact Nat.mul_le_mul (by omega) (by omega)
        have hwp : IntKind.u64.wrap ((g : Int) * (vi : Int)) = (gp : Int) := by rw [hgp]; exact w64_mul (by rw [← hgp]; omega)
        obtain ⟨x13, h13⟩ : ∃ x, x = gp + c := ⟨_, rfl⟩
        have hw13 : IntKind.u64.wrap ((gp : Int) + (c : Int)) = (x13 : Int) := by rw [h13]; exact w64_add (by omega)
        have s32 : ∀ {P : Program} {t' : TypeId} {xo yo : Operand} {k' : IntKind}, binX P .shr t' xo yo (.int .u64 (x13 : Int)) (.int k' 32) = some (.int .u64 ((x13 / 4294967296 : Nat) : Int)) := fun {P t' xo yo k'} => bin_shr32 x13
        obtain ⟨lo, hlo⟩ : ∃ x, x = x13 % 4294967296 := ⟨_, rfl⟩
        obtain ⟨hi', hhi⟩ : ∃ x, x = x13 / 4294967296 := ⟨_, rfl⟩
        have sAnd : ∀ {P : Program} {t' : TypeId} {xo yo : Operand}, binX P .and t' xo yo (.int .u64 (x13 : Int)) (.int .u64 4294967295) = some (.int .u64 (lo : Int)) := fun {P t' xo yo} => by rw [hlo]; exact and32 x13 (by omega)
        obtain ⟨y1, hy1⟩ : ∃ x, x = (si + 18446744073709551616 - lo) % 18446744073709551616 := ⟨_, rfl⟩
        have hwy : IntKind.u64.wrap ((si : Int) - (lo : Int)) = (y1 : Int) := by rw [hy1]; exact w64_subN (by omega)
        obtain ⟨y, hy⟩ : ∃ x, x = (y1 + 18446744073709551616 - b) % 18446744073709551616 := ⟨_, rfl⟩
        have hwy2 : IntKind.u64.wrap ((y1 : Int) - (b : Int)) = (y : Int) := by rw [hy]; exact w64_subN (by omega)
        have c32 := cv64_32 y
        have s63 : ∀ {P : Program} {t' : TypeId} {xo yo : Operand} {k' : IntKind}, binX P .shr t' xo yo (.int .u64 (y : Int)) (.int k' 63) = some (.int .u64 ((y / 9223372036854775808 : Nat) : Int)) := fun {P t' xo yo k'} => bin_shr63 y
        have hwi := wrap_succ i (by omega)
        simp [hn, h0, h1, h5, f8, f10, f11, f12, hi, idx_W _ _ _ _ _ _ hi, idx_W _ _ _ _ _ _ (show i < N by omega), e1, gi, e2, ai, cvv, cvs, hwp, hw13, s32, sAnd, hwy, hwy2, c32]
        refine storeQ_one (cs := wc (P ++ S1)) (sz := 1) (gr := false) (by simp [e2]) (by simp) (cells_int _ _) (by rw [wc_len, List.length_append]; omega) fun m4 n4 _ e4 => ?_
        simp only [Mem.next_rd, Mem.at_rd] at n4 e4
        simp [hn, f12, s63, hwi]
        have hU4 := hU.set (i := i) (x := y % 4294967296) (Nat.mod_lt y (by decide : 0 < 4294967296)) n4 (fun c => by rw [e4 c, Int.natCast_emod]; rfl)
        have hw : y % 4294967296 + lo + b = si + 4294967296 * (y / 9223372036854775808) := by omega
        have hx13 : gp + c = lo + 4294967296 * (x13 / 4294967296) := by omega
        refine ⟨k - 1, by omega, i + 1, x13 / 4294967296, y / 9223372036854775808, S1.set i (y % 4294967296), by omega, ⟨by simp [hn], by simp [hd], by simp [h0], by simp [h1], by simp [h5], by simp [F.f6]⟩, by simp [f8], by simp, by simp, by simp, hU4.only ⟨by simp, fun c => by simp⟩, by simp [hSl], by omega, by omega, fun t ht => ?_, ?_⟩
        · rw [wat_set (by omega), if_neg (by omega)]
          exact hS1 t (by omega)
        · rw [take_set_next (by omega), wv_next v, wv_next S, pw_succ, ← hvi, ← hS1 i (by omega), ← hsi, Nat.mul_add g, Nat.mul_left_comm g, ← hgp, Nat.mul_comm 4294967296 (pw i), Nat.mul_assoc]
          have h2 : pw i * (y % 4294967296) + pw i * gp + pw i * (c + b) = pw i * si + pw i * (4294967296 * (x13 / 4294967296 + y / 9223372036854775808)) := by
            rw [← Nat.mul_add, ← Nat.mul_add, ← Nat.mul_add]
            congr 1
            omega
          omega
      · obtain rfl : i = n := by omega
        have ev : wv (v.take i) = wv v := wv_all (by omega)
        rw [ev] at hv
        simp [hn, h5, f12]
        exact ⟨rfl, c, b, S1, ⟨by simp [hn], by simp [hd], by simp [h0], by simp [h1], by simp [h5], by simp [F.f6]⟩, by simp [f8], by simp [f10], by simp [f11], hU.only ⟨by simp, fun c => by simp⟩, hSl, hc, hb, hS1, hv⟩
    · clear hnF hd1 h01 h11 h51 h61 F f8 ho hU1
      rintro ⟨rx, fr2⟩ m2 ⟨rfl, c, b, S1, F, f8, f10, f11, hU, hSl, hc, hb, hS1, hv⟩
      replace F : FgF fr2 _ _ _ _ := F
      replace f8 : fr2.at 8 = _ := f8
      replace f10 : fr2.at 10 = _ := f10
      replace f11 : fr2.at 11 = _ := f11
      have hn := F.n
      have hd := F.d
      have h0 := F.f0
      have h1 := F.f1
      have h5 := F.f5
      have e2 := hU.at'
      have ai := app_get (P := P) (S := S1) (i := n) (by omega)
      rw [hS1 n (Nat.le_refl _), ← hun] at ai
      obtain ⟨y1, hy1⟩ : ∃ x, x = (un + 18446744073709551616 - c) % 18446744073709551616 := ⟨_, rfl⟩
      have hwy : IntKind.u64.wrap ((un : Int) - (c : Int)) = (y1 : Int) := by rw [hy1]; exact w64_subN (by omega)
      obtain ⟨y, hy⟩ : ∃ x, x = (y1 + 18446744073709551616 - b) % 18446744073709551616 := ⟨_, rfl⟩
      have hwy2 : IntKind.u64.wrap ((y1 : Int) - (b : Int)) = (y : Int) := by rw [hy]; exact w64_subN (by omega)
      have c32 := cv64_32 y
      have s63 : ∀ {P : Program} {t' : TypeId} {xo yo : Operand} {k' : IntKind}, binX P .shr t' xo yo (.int .u64 (y : Int)) (.int k' 63) = some (.int .u64 ((y / 9223372036854775808 : Nat) : Int)) := fun {P t' xo yo k'} => bin_shr63 y
      simp [hn, h0, h1, h5, f8, f10, f11, idx_W _ _ _ _ _ _ (show n < N by omega), e2, ai, cvn, hwy, hwy2, c32]
      refine storeQ_one (cs := wc (P ++ S1)) (sz := 1) (gr := false) (by simp [e2]) (by simp) (cells_int _ _) (by rw [wc_len, List.length_append]; omega) fun m4 n4 _ e4 => ?_
      simp only [Mem.next_rd, Mem.at_rd] at n4 e4
      have hU4 := hU.set (i := n) (x := y % 4294967296) (Nat.mod_lt y (by decide : 0 < 4294967296)) n4 (fun c => by rw [e4 c, Int.natCast_emod]; rfl)
      rw [← hVd] at hv
      obtain ⟨A, hA⟩ : ∃ x, x = wv (S1.take n) := ⟨_, rfl⟩
      obtain ⟨pN, hpN⟩ : ∃ x, x = pw n := ⟨_, rfl⟩
      obtain ⟨gV', hgV'⟩ : ∃ x, x = g * V := ⟨_, rfl⟩
      have hAl : A < pN := by
        have := wv_lt (hU.wd.take n)
        rw [List.length_take, Nat.min_eq_left (by omega), ← hA, ← hpN] at this
        exact this
      rw [← hA, ← hpN, ← hgV'] at hv
      rw [← hpN] at wD wTn
      rw [← hgV'] at gV
      have hVp : V ≤ pN := by
        have := wv_lt hvd
        rw [hvn, ← hVd, ← hpN] at this
        omega
      have hset : ∀ S' : List Nat, S'.length = S1.length → ∀ x, (∀ t, n < t → wat S' t = wat S1 t) → (∀ t, n < t → wat (S'.set n x) t = 0) ∧ wv (S'.set n x) = wv (S'.take n) + pN * x := fun S' hS' x hh => by
        have h1 : ∀ t, n < t → wat (S'.set n x) t = 0 := fun t ht => by
          rw [wat_set (by omega), if_neg (by omega), hh t ht, hS1 t (by omega)]
          exact hz t ht
        refine ⟨h1, ?_⟩
        rw [wv_top h1, wat_set (by omega), if_pos rfl, hpN]
        congr 2
        rw [List.take_set, List.set_eq_of_length_le (by rw [List.length_take]; omega)]
      by_cases hcb : c + b ≤ un
      · have hyv : y = un - (c + b) := by omega
        have h63 : y / 9223372036854775808 = 0 := by omega
        have hym : y % 4294967296 = y := by omega
        rw [h63] at s63
        rw [hym] at hU4
        have hp1 : pN * un = pN * (c + b) + pN * y := by rw [← Nat.mul_add]; congr 1; omega
        have hge : g ≤ qq := by
          rw [hqq]
          refine (Nat.le_div_iff_mul_le hV0).2 ?_
          rw [← hgV']; omega
        obtain rfl : g = qq := by omega
        have c32g := cv64_32 g
        rw [Nat.mod_eq_of_lt hgB] at c32g
        simp [hn, hd, f8, @s63, c32g]
        have e5 := hset S1 rfl y (fun t _ => rfl)
        rw [← hVd, ← hDd] at hQ
        rw [← hqq] at hQ
        refine hQ _ (S1.set n y) hU4 (by simp [hSl]) e5.1 ?_
        rw [e5.2, qmod, ← hgV', ← hA]
        omega
      · have h63 : y / 9223372036854775808 = 1 := by omega
        have hd1 : pN * 1 ≤ pN * (c + b - un) := Nat.mul_le_mul_left _ (by omega)
        have hp1 : pN * (c + b) = pN * (c + b - un) + pN * un := by rw [← Nat.mul_add]; congr 1; omega
        have hcb1 : c + b - un = 1 := by
          by_cases h2 : c + b - un ≤ 1
          · omega
          · have := Nat.mul_le_mul_left pN (show 2 ≤ c + b - un by omega)
            omega
        have hg : g = qq + 1 := by
          have g1 : qq + 1 ≤ g := by
            by_cases hh : qq + 1 ≤ g
            · exact hh
            · have := Nat.mul_le_mul_right V (show g ≤ qq by omega)
              omega
          have g2 : g ≤ qq + 1 := by
            by_cases hh : g ≤ qq + 1
            · exact hh
            · have := Nat.mul_le_mul_right V (show qq + 2 ≤ g by omega)
              rw [Nat.add_mul] at this
              omega
          omega
        have hym : y % 4294967296 = 4294967295 := by omega
        rw [h63] at s63
        rw [hym] at hU4
        simp [hn, f8, @s63]
        obtain ⟨S2, hS2⟩ : ∃ x, x = S1.set n 4294967295 := ⟨_, rfl⟩
        have hS2l : S2.length = S.length := by rw [hS2]; simp [hSl]
        have hS2t : wv (S2.take n) = A := by
          rw [hS2, List.take_set, List.set_eq_of_length_le (by rw [List.length_take]; omega), hA]
        have hS2n : wat S2 n = 4294967295 := by rw [hS2, wat_set (by omega), if_pos rfl]
        have hS2z : ∀ t, n < t → wat S2 t = wat S1 t := fun t ht => by rw [hS2, wat_set (by omega), if_neg (by omega)]
        rw [← hS2] at hU4
        refine code_loop_post (f3R m (.slice (some ⟨bu, P.length, none⟩) N ku) (.slice (some ⟨bv, ov, none⟩) n kv) n tp g bu P S2 v) (f3I m (.slice (some ⟨bu, P.length, none⟩) N ku) (.slice (some ⟨bv, ov, none⟩) n kv) n tp g bu P S2 v) n (by omega) ⟨0, 0, S2, by omega, ⟨by simp [hn], by simp [hd], by simp [h0], by simp [h1], by simp [h5], by simp [F.f6]⟩, by simp [f8], by simp, by simp, hU4, rfl, by omega, fun t _ => rfl, by simp [wv]⟩ ?_ ?_
        · clear hn hd h0 h1 h5 F f8 f10 f11 hU hU4
          rintro k fr m5 ⟨i, c3, S3, hik, F, f8, f16, f17, hU, hSl3, hc3, hS3, hv3⟩
          have hn := F.n
          have hd := F.d
          have h0 := F.f0
          have h1 := F.f1
          have h5 := F.f5
          by_cases hi : i < n
          · have e1 := (hU.old bv hne).trans atv
            have e2 := hU.at'
            have gi := hget i (by omega)
            have ai := app_get (P := P) (S := S3) (i := i) (by omega)
            obtain ⟨vi, hvi⟩ : ∃ x, x = wat v i := ⟨_, rfl⟩
            obtain ⟨si, hsi⟩ : ∃ x, x = wat S3 i := ⟨_, rfl⟩
            rw [← hvi] at gi
            rw [← hsi] at ai
            have vi32 : vi < 4294967296 := by rw [hvi]; exact wat_lt hvd _
            have si32 : si < 4294967296 := by rw [hsi]; exact wat_lt hU.wd _
            have cvv := cv32_64 vi vi32
            have cvs := cv32_64 si si32
            obtain ⟨z1, hz1⟩ : ∃ x, x = si + vi := ⟨_, rfl⟩
            have hw1 : IntKind.u64.wrap ((si : Int) + (vi : Int)) = (z1 : Int) := by rw [hz1]; exact w64_add (by omega)
            obtain ⟨z, hz2⟩ : ∃ x, x = z1 + c3 := ⟨_, rfl⟩
            have hw2 : IntKind.u64.wrap ((z1 : Int) + (c3 : Int)) = (z : Int) := by rw [hz2]; exact w64_add (by omega)
            have s32 : ∀ {P : Program} {t' : TypeId} {xo yo : Operand} {k' : IntKind}, binX P .shr t' xo yo (.int .u64 (z : Int)) (.int k' 32) = some (.int .u64 ((z / 4294967296 : Nat) : Int)) := fun {P t' xo yo k'} => bin_shr32 z
            have c32 := cv64_32 z
            have hwi := wrap_succ i (by omega)
            simp [hn, h5, f17, hi]
            refine code_draw_reads (plan := [0, 0, 3, 7, 15, 0, 0, 96, 224, 480, 1023, 0, 4095, 8191]) (by kernel_rfl) rfl (by kernel_rfl) fun ops _ => ?_
            simp [drawRQ, hn, h0, h1, h5, f8, f16, f17, idx_W _ _ _ _ _ _ hi, idx_W _ _ _ _ _ _ (show i < N by omega), e1, gi, e2, ai, cvv, cvs, hw1, hw2, c32]
            refine storeQ_one (cs := wc (P ++ S3)) (sz := 1) (gr := false) (by simp [e2]) (by simp) (cells_int _ _) (by rw [wc_len, List.length_append]; omega) fun m6 n6 _ e6 => ?_
            simp [Mem.next_rd, Mem.at_rd] at n6 e6
            simp [hn, f17, s32, hwi]
            have hU4 := hU.set (i := i) (x := z % 4294967296) (Nat.mod_lt z (by decide : 0 < 4294967296)) n6 (fun c => by rw [e6 c, Int.natCast_emod]; rfl)
            refine ⟨k - 1, by omega, i + 1, z / 4294967296, S3.set i (z % 4294967296), by omega, ⟨by simp [hn], by simp [hd], by simp [h0], by simp [h1], by simp [h5], by simp [F.f6]⟩, by simp [f8], by simp, by simp, hU4.only ⟨by simp, fun c => by simp⟩, by simp [hSl3], by omega, fun t ht => ?_, ?_⟩
            · rw [wat_set (by omega), if_neg (by omega)]
              exact hS3 t (by omega)
            · rw [take_set_next (by omega), wv_next v, wv_next S2, pw_succ, ← hvi, ← hS3 i (by omega), ← hsi, Nat.mul_comm 4294967296 (pw i), Nat.mul_assoc]
              have h2 : pw i * (z % 4294967296) + pw i * (4294967296 * (z / 4294967296)) = pw i * si + pw i * vi + pw i * c3 := by
                rw [← Nat.mul_add, ← Nat.mul_add, ← Nat.mul_add]
                congr 1
                omega
              omega
          · obtain rfl : i = n := by omega
            have ev : wv (v.take i) = wv v := wv_all (by omega)
            rw [ev] at hv3
            simp [hn, h5, f17]
            exact ⟨rfl, c3, S3, ⟨by simp [hn], by simp [hd], by simp [h0], by simp [h1], by simp [h5], by simp [F.f6]⟩, by simp [f8], by simp [f16], hU.only ⟨by simp, fun c => by simp⟩, hSl3, hc3, hS3, hv3⟩
        · clear hn hd h0 h1 h5 F f8 f10 f11 hU4
          rintro ⟨rx, fr3⟩ m5 ⟨rfl, c3, S3, F, f8, f16, hU3, hSl3, hc3, hS3, hv3⟩
          replace F : FgF fr3 _ _ _ _ := F
          replace f8 : fr3.at 8 = _ := f8
          replace f16 : fr3.at 16 = _ := f16
          have hn := F.n
          have hd := F.d
          have h0 := F.f0
          have h1 := F.f1
          have h5 := F.f5
          have e2 := hU3.at'
          have ai := app_get (P := P) (S := S3) (i := n) (by omega)
          rw [hS3 n (Nat.le_refl _), hS2n] at ai
          rw [← hVd, ← hpN, hS2t] at hv3
          have hA3 : wv (S3.take n) < pN := by
            have := wv_lt (hU3.wd.take n)
            rw [List.length_take, Nat.min_eq_left (by omega), ← hpN] at this
            exact this
          have hgq : gV' = qq * V + V := by rw [hgV', hg, Nat.add_mul, Nat.one_mul]
          obtain ⟨qV', hqV'⟩ : ∃ x, x = qq * V := ⟨_, rfl⟩
          rw [← hqV'] at qV qlt qmod hgq
          have hc31 : c3 = 1 := by
            rcases Nat.eq_zero_or_pos c3 with h | h
            · rw [h] at hv3
              omega
            · omega
          rw [hc31] at hv3 f16
          have c1 := cv64_32 1
          have c32g := cv64_32 qq
          rw [Nat.mod_eq_of_lt qB] at c32g
          have hwg : IntKind.u64.wrap ((g : Int) - 1) = (qq : Int) := by
            rw [hg]
            have := @w64_sub (qq + 1) 1 (by omega) (by omega)
            exact this
          simp only [show (1 : Nat) % 4294967296 = 1 from rfl] at c1
          have ai' : (wc (P ++ S3))[P.length + n]? = some (.int .u32 4294967295) := ai
          have c1' : convX Try.prog 83 113 (.int .u64 1) = some (.int .u32 1) := c1
          have f16' : fr3.at 16 = .int .u64 1 := f16
          simp [hn, h0, h1, h5, f8, f16', idx_W _ _ _ _ _ _ (show n < N by omega), e2, ai', c1', show IntKind.u32.wrap 4294967296 = 0 from rfl]
          refine storeQ_one (cs := wc (P ++ S3)) (sz := 1) (gr := false) (by simp [e2]) (by simp) (cells_int _ _) (by rw [wc_len, List.length_append]; omega) fun m6 n6 _ e6 => ?_
          simp [Mem.next_rd, Mem.at_rd] at n6 e6
          have hU5 := hU3.set (i := n) (x := 0) (by decide) n6 (fun c => by rw [e6 c]; rfl)
          simp [hn, hd, f8, hwg, c32g]
          have e5 := hset S3 (by omega) 0 (fun t ht => by rw [hS3 t (by omega), hS2z t ht])
          rw [← hVd, ← hDd] at hQ
          rw [← hqq] at hQ
          refine hQ _ (S3.set n 0) hU5 (by simp [hSl3, hS2l]) e5.1 ?_
          have hpe : pN * (c + b - un) = pN := by rw [hcb1, Nat.mul_one]
          rw [e5.2, qmod]
          omega
end
end Go.Proofs.Ytghhanifakllpaa
