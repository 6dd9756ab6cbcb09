/- Words in the clean executor: the common part of two (Lehmer). -/
import Derived.Test.YtghhanifakllpaaBnY
set_option linter.unusedSimpArgs false
set_option linter.unusedVariables false
namespace Go.Proofs.Ytghhanifakllpaa
open Go.Clean

theorem lenN_half {x y : Nat} (h : 2 * y ≤ x) (hx : 0 < x) : lenN y < lenN x := by
  have h1 := lenN_pos hx
  have hl : 1 ≤ lenN x := by
    rcases Nat.eq_zero_or_pos (lenN x) with h | h
    · rw [h] at h1; simp at h1; omega
    · exact h
  rcases Nat.eq_zero_or_pos y with rfl | hy
  · show lenN 0 < _
    have : lenN 0 = 0 := rfl
    omega
  · have h2 := lenN_pos hy
    by_cases hh : lenN y < lenN x
    · exact hh
    · exfalso
      have h3 : 2 ^ lenN x ≤ 2 ^ (lenN y - 1 + 1) := Nat.pow_le_pow_right (by decide) (by omega)
      rw [Nat.pow_succ] at h3
      omega
theorem lenN_lt {x j : Nat} (h : x < 2 ^ j) : lenN x ≤ j := by
  rcases Nat.eq_zero_or_pos x with rfl | hx
  · exact Nat.zero_le _
  · by_cases hh : lenN x ≤ j
    · exact hh
    · have h1 := (lenN_pos hx).1
      have h2 : 2 ^ j ≤ 2 ^ (lenN x - 1) := Nat.pow_le_pow_right (by decide) (by omega)
      omega
theorem half_mod {x y : Nat} (hy : 0 < y) (hxy : y ≤ x) : 2 * (y * (x % y)) ≤ x * y := by
  have h1 := Nat.div_add_mod x y
  have h2 := Nat.mod_lt x hy
  have h3 : y * 1 ≤ y * (x / y) := Nat.mul_le_mul_left y ((Nat.le_div_iff_mul_le hy).2 (by omega))
  rw [Nat.mul_left_comm, Nat.mul_comm x y]
  exact Nat.mul_le_mul_left y (by omega)
theorem half_blend {a b A B u1 u2 v1 v2 : Int} (ha : a = v2 * A + v1 * B) (hb : b = u2 * A + u1 * B) (hB : 0 ≤ B) (hBA : B ≤ A) (h1 : 1 ≤ v1) (h2 : 1 ≤ v2) (h3 : 1 ≤ u2) (h4 : 0 ≤ u1) : 2 * (A * B) ≤ a * b ∧ A ≤ a ∧ B ≤ b := by
  have m1 := Int.mul_le_mul_of_nonneg_right h2 (show 0 ≤ A by omega)
  have m2 := Int.mul_le_mul_of_nonneg_right h1 hB
  have m3 := Int.mul_le_mul_of_nonneg_right h3 (show 0 ≤ A by omega)
  have m4 := Int.mul_nonneg h4 hB
  have k1 : A + B ≤ a := by omega
  have k2 : A ≤ b := by omega
  refine ⟨?_, by omega, by omega⟩
  have k3 : (A + B) * A ≤ a * b := Int.mul_le_mul k1 k2 (by omega) (by omega)
  rw [Int.add_mul, Int.mul_comm B A] at k3
  have k4 := Int.mul_le_mul_of_nonneg_left hBA (show 0 ≤ A by omega)
  omega
theorem tr_le_len {a b : List Nat} (ha : Wd a) (tb : Tr b) (h : wv b ≤ wv a) : b.length ≤ a.length := by
  by_cases hh : b.length ≤ a.length
  · exact hh
  · have := tr_len ha tb (show a.length < b.length by omega)
    omega
/-- What the inner loop keeps: these steps, and those before. -/
structure LP (x0 y0 x y u0 u1 u2 v0 v1 v2 : Nat) (s : Int) (ev : Bool) : Prop where
  ls : LS x0 y0 s x y u1 u2 v1 v2
  yx : y ≤ x
  xx : x ≤ x0
  hu : (u1 : Int) ≤ v1 ∨ (v1 : Int) = 0 ∧ (u1 : Int) = 1 ∧ (u2 : Int) = 0
  u2p : 1 ≤ u2 ∨ v1 = 0
  he : ev = decide (s = -1)
  l1 : v1 < 1152921504606846976
  l2 : v2 < 1152921504606846976
  v12 : v1 ≤ v2
  prev : v0 = 0 ∨ ∃ px py : Int, LS x0 y0 (-s) px py u0 u1 v0 v1 ∧ 1 ≤ v0 ∧ 1 ≤ u1 ∧ u0 ≤ v0 ∧ v0 ≤ v1 ∧ (v1 : Int) ≤ py ∧ py + v0 + v1 ≤ px
theorem LP.first {x0 y0 : Nat} (h : y0 ≤ x0) : LP x0 y0 x0 y0 0 1 0 0 0 1 1 false := ⟨LS.first (by omega), h, Nat.le_refl _, .inr ⟨rfl, rfl, rfl⟩, .inr rfl, rfl, by decide, by decide, by decide, .inl rfl⟩
theorem LP.small {x0 y0 x y u0 u1 u2 v0 v1 v2 : Nat} {s : Int} {ev : Bool} (h : LP x0 y0 x y u0 u1 u2 v0 v1 v2 s ev) (hy : v2 ≤ y) (hx0 : x0 < 1152921504606846976) : v2 < 1073741824 := by
  have h1 := h.ls.whole
  have h2 := h.ls.v2p
  by_cases hh : v2 < 1073741824
  · exact hh
  · exfalso
    have h3 : v2 * x + v1 * y = x0 := by omega
    have h4 : 1073741824 * 1073741824 ≤ v2 * x := Nat.mul_le_mul (by omega) (by have := h.yx; omega)
    omega
theorem LP.next {x0 y0 x y u0 u1 u2 v0 v1 v2 : Nat} {s : Int} {ev : Bool} (h : LP x0 y0 x y u0 u1 u2 v0 v1 v2 s ev) (hy : v2 ≤ y) (hx : v1 + v2 ≤ x - y) (hx0 : x0 < 1152921504606846976) :
    LP x0 y0 y (x - x / y * y) u1 u2 (u1 + x / y * u2) v1 v2 (v1 + x / y * v2) (-s) (!ev) ∧ x / y * y ≤ x ∧ u1 + x / y * u2 < 1152921504606846976 ∧ v1 + x / y * v2 < 1152921504606846976 ∧ lenN (y * (x - x / y * y)) < lenN (x * y) := by
  have hl := h.ls
  have hv2 : 1 ≤ v2 := by have := hl.v2p; omega
  have hyx := h.yx
  obtain ⟨q, hq⟩ : ∃ q, q = x / y := ⟨_, rfl⟩
  have hqy : q * y ≤ x := by rw [hq]; exact Nat.div_mul_le_self x y
  have hq1 : 1 ≤ q := by rw [hq]; exact (Nat.le_div_iff_mul_le (by omega)).2 (by omega)
  have hmod : x - q * y = x % y := by
    have := Nat.div_add_mod x y
    rw [hq, Nat.mul_comm]; omega
  have hlt : x - q * y < y := by rw [hmod]; exact Nat.mod_lt _ (by omega)
  have hcast : ((x - q * y : Nat) : Int) = (x : Int) - (q : Int) * (y : Int) := by rw [← Int.natCast_mul]; omega
  have hn := hl.next (q := (q : Int)) (by omega) (by rw [← hcast]; omega) h.hu
  rw [← hcast] at hn
  have e1 : (u1 : Int) + (q : Int) * (u2 : Int) = ((u1 + q * u2 : Nat) : Int) := by rw [Int.natCast_add, Int.natCast_mul]
  have e2 : (v1 : Int) + (q : Int) * (v2 : Int) = ((v1 + q * v2 : Nat) : Int) := by rw [Int.natCast_add, Int.natCast_mul]
  rw [e1, e2] at hn
  have hwh := hn.whole
  have hxx := h.xx
  have hvb : v1 + q * v2 ≤ x0 := by
    have h3 : (v1 + q * v2) * y + v2 * (x - q * y) = x0 := by
      have h5 : (((v1 + q * v2) * y + v2 * (x - q * y) : Nat) : Int) = (x0 : Int) := by rw [Int.natCast_add, Int.natCast_mul, Int.natCast_mul]; exact hwh
      omega
    have h4 : (v1 + q * v2) * 1 ≤ (v1 + q * v2) * y := Nat.mul_le_mul_left _ (by omega)
    omega
  have hub : u1 + q * u2 ≤ v1 + q * v2 := by have := hn.uv2; omega
  rw [← hq]
  refine ⟨⟨hn, by omega, by omega, .inl (by have := hl.uv2; omega), ?_, ?_, h.l2, by omega, by have := Nat.mul_le_mul_right v2 hq1; omega, ?_⟩, hqy, by omega, by omega, ?_⟩
  · refine .inl ?_
    rcases h.u2p with h1 | h1
    · have : 1 * 1 ≤ q * u2 := Nat.mul_le_mul hq1 h1
      omega
    · rcases h.hu with h2 | ⟨_, h2, _⟩
      · have := hl.det
        have h6 : (u1 : Int) = 0 := by omega
        rw [h6, h1] at this
        simp at this
        rcases hl.hs with h7 | h7 <;> omega
      · omega
  · rw [h.he]
    rcases hl.hs with rfl | rfl <;> rfl
  · by_cases h0 : v1 = 0
    · exact .inl h0
    · refine .inr ⟨x, y, by rw [Int.neg_neg]; exact hl, by omega, ?_, ?_, h.v12, by omega, by omega⟩
      · rcases h.u2p with h1 | h1
        · exact h1
        · exact absurd h1 h0
      · rcases h.hu with h2 | ⟨h2, _⟩
        · omega
        · omega
  · rw [hmod]
    exact lenN_half (half_mod (by omega) hyx) (Nat.mul_pos (by omega) (by omega))
theorem LP.ends {x0 y0 x y u0 u1 u2 v0 v1 v2 : Nat} {s : Int} {ev : Bool} (h : LP x0 y0 x y u0 u1 u2 v0 v1 v2 s ev) (h0 : v0 ≠ 0) (hx0 : x0 < 1152921504606846976) {a b P : Nat} (ha : x0 = a / P) (hb : y0 = b / P) (hP : 0 < P) :
    u0 < 1073741824 ∧ u1 < 1073741824 ∧ v0 < 1073741824 ∧ v1 < 1073741824 ∧ ∃ A B : Nat, (ev = true → (A : Int) = (u0 : Int) * a + -(v0 : Int) * b ∧ (B : Int) = -(u1 : Int) * a + (v1 : Int) * b) ∧ (ev = false → (A : Int) = -(u0 : Int) * a + (v0 : Int) * b ∧ (B : Int) = (u1 : Int) * a + -(v1 : Int) * b) ∧
      Nat.gcd A B = Nat.gcd a b ∧ B ≤ A ∧ A ≤ a ∧ B ≤ b ∧ 2 * (A * B) ≤ a * b := by
  rcases h.prev with h1 | ⟨px, py, hl, hv0, hu1, huv, hvv, hpy, hpx⟩
  · exact absurd h1 h0
  have hw := hl.whole
  have hv1 : v1 < 1073741824 := by
    by_cases hh : v1 < 1073741824
    · exact hh
    · exfalso
      have h4 : (1073741824 : Int) * 1073741824 ≤ v1 * px := Int.mul_le_mul (by omega) (by omega) (by omega) (by omega)
      have h5 : 0 ≤ (v0 : Int) * py := Int.mul_nonneg (by omega) (by omega)
      omega
  have huv1 := hl.uv2
  refine ⟨by omega, by omega, by omega, hv1, ?_⟩
  have ea := Nat.div_add_mod a P
  have eb := Nat.div_add_mod b P
  have la := Nat.mod_lt a hP
  have lb := Nat.mod_lt b hP
  rw [← ha, Nat.mul_comm] at ea
  rw [← hb, Nat.mul_comm] at eb
  have ea' : (a : Int) = x0 * P + (a % P : Nat) := by rw [← Int.natCast_mul]; omega
  have eb' : (b : Int) = y0 * P + (b % P : Nat) := by rw [← Int.natCast_mul]; omega
  obtain ⟨g1, g2⟩ := hl.good (by omega) (by omega) ea' eb' (by omega) (by omega) (by omega) (by omega) hpy hpx
  obtain ⟨A, hA⟩ : ∃ A : Nat, (A : Int) = -s * ((u0 : Int) * a - (v0 : Int) * b) := ⟨(-s * ((u0 : Int) * a - (v0 : Int) * b)).toNat, by omega⟩
  obtain ⟨B, hB⟩ : ∃ B : Nat, (B : Int) = -s * ((v1 : Int) * b - (u1 : Int) * a) := ⟨(-s * ((v1 : Int) * b - (u1 : Int) * a)).toNat, by omega⟩
  rw [← hA, ← hB] at g2
  obtain ⟨k1, k2⟩ := hl.back hA hB
  obtain ⟨f1, f2, f3⟩ := half_blend k1 k2 (by omega) g2 (by omega) (by omega) (by omega) (by omega)
  refine ⟨A, B, fun he => ?_, fun he => ?_, gcd_lin hA hB k1 k2, by omega, by omega, by omega, ?_⟩
  · rw [h.he] at he
    have hs : s = -1 := of_decide_eq_true he
    rw [hA, hB, hs]
    constructor <;> grind
  · rw [h.he] at he
    have hs : s = 1 := by
      have := of_decide_eq_false he
      rcases h.ls.hs with h | h
      · exact h
      · exact absurd h this
    rw [hA, hB, hs]
    constructor <;> grind
  · have : ((2 * (A * B) : Nat) : Int) ≤ ((a * b : Nat) : Int) := by rw [Int.natCast_mul, Int.natCast_mul, Int.natCast_mul]; exact f1
    omega
end Go.Proofs.Ytghhanifakllpaa

/- Words in the clean executor: the common part of two, walked. -/
namespace Go.Proofs.Ytghhanifakllpaa
open Go.Clean
section
set_option maxRecDepth 10000
structure CmF (fr : Fr) (va vb : Value) : Prop where
  n : fr.n = 145
  d : fr.d = []
  f0 : fr.at 0 = va
  f1 : fr.at 1 = vb
structure CmS (fr : Fr) (x y u0 u1 u2 v0 v1 v2 : Nat) (ev : Bool) : Prop where
  f6 : fr.at 6 = .int .u64 (x : Int)
  f7 : fr.at 7 = .int .u64 (y : Int)
  f8 : fr.at 8 = .int .u64 (u0 : Int)
  f9 : fr.at 9 = .int .u64 (u1 : Int)
  f10 : fr.at 10 = .int .u64 (u2 : Int)
  f11 : fr.at 11 = .int .u64 (v0 : Int)
  f12 : fr.at 12 = .int .u64 (v1 : Int)
  f13 : fr.at 13 = .int .u64 (v2 : Int)
  f14 : fr.at 14 = .bool ev
def cmI (m : Mem) (va vb : Value) (x0 y0 : Nat) (k : Nat) (fr : Fr) (m' : Mem) : Prop := ∃ x y u0 u1 u2 v0 v1 v2 s ev, k = lenN (x * y) ∧ CmF fr va vb ∧ CmS fr x y u0 u1 u2 v0 v1 v2 ev ∧ Only m m' ∧ LP x0 y0 x y u0 u1 u2 v0 v1 v2 s ev
def cmR (m : Mem) (va vb : Value) (x0 y0 : Nat) (r : Ex × Fr) (m' : Mem) : Prop := r.1 = .exit 2 ∧ ∃ x y u0 u1 u2 v0 v1 v2 s ev, CmF r.2 va vb ∧ CmS r.2 x y u0 u1 u2 v0 v1 v2 ev ∧ Only m m' ∧ LP x0 y0 x y u0 u1 u2 v0 v1 v2 s ev
def cmO (m : Mem) (G L : Nat) (k : Nat) (fr : Fr) (m' : Mem) : Prop := ∃ va vb a b, k = lenN (wv a * wv b) ∧ CmF fr va vb ∧ Up m m' ∧ WL m' va a ∧ WL m' vb b ∧ Tr a ∧ Tr b ∧ a.length ≤ L ∧ b.length ≤ L ∧ wv b ≤ wv a ∧ Nat.gcd (wv a) (wv b) = G
def cmQ (m : Mem) (G L : Nat) (r : Ex × Fr) (m' : Mem) : Prop := r.1 = .exit 0 ∧ ∃ va vb a b, CmF r.2 va vb ∧ Up m m' ∧ WL m' va a ∧ WL m' vb b ∧ Tr a ∧ Tr b ∧ a.length ≤ L ∧ b.length ≤ 2 ∧ wv b ≤ wv a ∧ Nat.gcd (wv a) (wv b) = G
def euI (m : Mem) (G : Nat) (k : Nat) (fr : Fr) (m' : Mem) : Prop := ∃ x y, k = lenN (x * y) ∧ x < 18446744073709551616 ∧ fr.n = 145 ∧ fr.d = [] ∧ fr.at 20 = .int .u64 (x : Int) ∧ fr.at 21 = .int .u64 (y : Int) ∧ Only m m' ∧ y ≤ x ∧ Nat.gcd x y = G
def euR (m : Mem) (G : Nat) (r : Ex × Fr) (m' : Mem) : Prop := r.1 = .exit 5 ∧ ∃ x : Nat, x < 18446744073709551616 ∧ r.2.n = 145 ∧ r.2.d = [] ∧ r.2.at 20 = .int .u64 (x : Int) ∧ Only m m' ∧ x = G
set_option maxHeartbeats 4000000 in
theorem common_rest (e : Nat) {fr : Fr} {m : Mem} {va vb : Value} {a b : List Nat} {L : Nat} (hw : WF m) (ha : WL m va a) (hb : WL m vb b) (ta : Tr a) (tb : Tr b) (hla : a.length ≤ L) (hlb : b.length ≤ L) (hL : L ≤ 60000) (hba : wv b ≤ wv a) (F : CmF fr va vb) {Q : Value → Mem → Prop}
    (hQ : ∀ m' v l, Up m m' → WL m' v l → l.length ≤ max L 2 → Tr l → wv l = Nat.gcd (wv a) (wv b) → Q v m') :
    Gives (codeX Try.prog (callN Try.prog kn1 (e + 4)) (sRn 2 (bodyOf Try.f83)) fr) m (fnQ Try.prog [.tmp 4] Q) := by
  obtain ⟨G, hG⟩ : ∃ G, G = Nat.gcd (wv a) (wv b) := ⟨_, rfl⟩
  rw [← hG] at hQ
  refine via (X := .seq (.block _ (.loop _)) _) rfl ?_
  have hn := F.n
  simp [hn]
  have hk0 : lenN (wv a * wv b) < 4000000 := by
    have h1 := Nat.lt_of_lt_of_le (wv_lt ha.wd) (pw_mono hla)
    have h2 := Nat.lt_of_lt_of_le (wv_lt hb.wd) (pw_mono hlb)
    have h3 : wv a * wv b < pw L * pw L := Nat.mul_lt_mul'' h1 h2
    rw [← pw_add, pw_two] at h3
    have := lenN_lt h3
    omega
  refine code_loop_post (cmQ m G L) (cmO m G L) _ hk0 ⟨va, vb, a, b, rfl, F, Up.refl m, ha, hb, ta, tb, hla, hlb, hba, hG.symm⟩ ?_ ?_
  · clear hn F hk0 hG hba hla hlb ta tb ha hb hQ
    rintro k fr m1 ⟨va, vb, a, b, hk, F, u1, ha, hb, ta, tb, hla, hlb, hba, hG⟩
    have hw1 := u1.wf hw
    have hn := F.n
    have hd := F.d
    have h0 := F.f0
    have h1 := F.f1
    by_cases hlb2 : 2 < b.length
    · have hlb2' : (2 : Int) < (b.length : Int) := by omega
      simp [hn, h0, h1, hb.len, hlb2']
      refine bitLen_ok (e + 2) ha ta (by omega) fun m2 o2 => ?_
      have hab := tr_le_len ha.wd tb hba
      have hbig : pw 2 ≤ wv b := Nat.le_trans (pw_mono (by omega)) (tr_ge tb (by omega))
      have hpw2 : pw 2 = 18446744073709551616 := rfl
      have hln := lenN_pos (show 0 < wv a by omega)
      obtain ⟨N, hN⟩ : ∃ N, N = lenN (wv a) := ⟨_, rfl⟩
      rw [← hN] at hln ⊢
      have hN64 : 64 < N := by
        by_cases h : 64 < N
        · exact h
        · have : 2 ^ N ≤ 2 ^ 64 := Nat.pow_le_pow_right (by decide) (by omega)
          omega
      have hNL : N < 2000000 := by
        have h3 := Nat.lt_of_lt_of_le (wv_lt ha.wd) (pw_mono hla)
        rw [pw_two] at h3
        have := lenN_lt h3
        omega
      obtain ⟨c, hc⟩ : ∃ c, c = N - 60 := ⟨_, rfl⟩
      have hwc : IntKind.i64.wrap ((N : Int) - 60) = (c : Int) := by rw [w63 _ (by omega) (by omega)]; omega
      simp [hn, h0, h1, hwc]
      have hP : 0 < 2 ^ c := Nat.two_pow_pos c
      have e60 : 2 ^ N = 2 ^ c * 1152921504606846976 := by
        rw [show (1152921504606846976 : Nat) = 2 ^ 60 from rfl, ← Nat.pow_add]; congr 1; omega
      have hx60 : wv a / 2 ^ c < 1152921504606846976 := Nat.div_lt_of_lt_mul (by rw [← e60]; exact hln.2)
      have hyx0 : wv b / 2 ^ c ≤ wv a / 2 ^ c := Nat.div_le_div_right hba
      obtain ⟨x0, hx0⟩ : ∃ x, x = wv a / 2 ^ c := ⟨_, rfl⟩
      obtain ⟨y0, hy0⟩ : ∃ x, x = wv b / 2 ^ c := ⟨_, rfl⟩
      rw [← hx0] at hx60 hyx0
      rw [← hy0] at hyx0
      refine topBits_ok (e + 3) (ha.only o2) (by omega) (by omega) fun m3 o3 => ?_
      rw [← hx0, Nat.mod_eq_of_lt (by omega)]
      simp [hn, h0, h1]
      refine topBits_ok (e + 3) ((hb.only o2).only o3) (by omega) (by omega) fun m4 o4 => ?_
      rw [← hy0, Nat.mod_eq_of_lt (by omega)]
      have o14 := (o2.trans o3).trans o4
      simp [hn]
      have hkk : lenN (x0 * y0) < 4000000 := by
        have h3 : x0 * y0 < 2 ^ 120 := by
          have := Nat.mul_le_mul (show x0 ≤ 1152921504606846975 by omega) (show y0 ≤ 1152921504606846975 by omega)
          omega
        have := lenN_lt h3
        omega
      refine code_loop_post (cmR m1 va vb x0 y0) (cmI m1 va vb x0 y0) _ hkk ⟨x0, y0, 0, 1, 0, 0, 0, 1, 1, false, rfl, ⟨by simp [hn], by simp [hd], by simp [h0], by simp [h1]⟩, ⟨by simp, by simp, by simp, by simp, by simp, by simp, by simp, by simp, by simp⟩, o14, LP.first hyx0⟩ ?_ ?_
      · clear hn hd h0 h1 F
        rintro k' fr m5 ⟨x, y, u0, u1', u2, v0, v1, v2, s, ev, hk', F, S, o5, hLP⟩
        have hn := F.n
        have hd := F.d
        have h0 := F.f0
        have h1 := F.f1
        have f6 := S.f6
        have f7 := S.f7
        have f8 := S.f8
        have f9 := S.f9
        have f10 := S.f10
        have f11 := S.f11
        have f12 := S.f12
        have f13 := S.f13
        have f14 := S.f14
        have hyx := hLP.yx
        have hxx := hLP.xx
        have l1 := hLP.l1
        have l2 := hLP.l2
        obtain ⟨xy, hxy⟩ : ∃ t, t = x - y := ⟨_, rfl⟩
        obtain ⟨vs, hvs⟩ : ∃ t, t = v1 + v2 := ⟨_, rfl⟩
        have hwxy : IntKind.u64.wrap ((x : Int) - (y : Int)) = (xy : Int) := by rw [hxy]; exact w64_sub hyx (by omega)
        have hwvs : IntKind.u64.wrap ((v1 : Int) + (v2 : Int)) = (vs : Int) := by rw [hvs]; exact w64_add (by omega)
        by_cases hy : v2 ≤ y
        · by_cases hx : vs ≤ xy
          · have hv2p := hLP.ls.v2p
            obtain ⟨hN, hqy, hu2, hv2, hlen⟩ := hLP.next hy (by omega) hx60
            have huvp := hLP.ls.u2n
            obtain ⟨q, hq⟩ : ∃ q, q = x / y := ⟨_, rfl⟩
            rw [← hq] at hN hqy hu2 hv2 hlen
            have Bq : ∀ {P : Program} {t' : TypeId} {xo yo : Operand}, binX P .quo t' xo yo (.int .u64 (x : Int)) (.int .u64 (y : Int)) = some (.int .u64 (q : Int)) := fun {P t' xo yo} => by rw [hq]; exact bin_quo x y (by omega) (by omega)
            obtain ⟨qy, hqy'⟩ : ∃ t, t = q * y := ⟨_, rfl⟩
            obtain ⟨qu, hqu⟩ : ∃ t, t = q * u2 := ⟨_, rfl⟩
            obtain ⟨qv, hqv⟩ : ∃ t, t = q * v2 := ⟨_, rfl⟩
            have hw1 : IntKind.u64.wrap ((q : Int) * (y : Int)) = (qy : Int) := by rw [hqy']; exact w64_mul (by omega)
            have hw2 : IntKind.u64.wrap ((q : Int) * (u2 : Int)) = (qu : Int) := by rw [hqu]; exact w64_mul (by omega)
            have hw3 : IntKind.u64.wrap ((q : Int) * (v2 : Int)) = (qv : Int) := by rw [hqv]; exact w64_mul (by omega)
            rw [← hqy', ← hqu, ← hqv] at hN
            rw [← hqu] at hu2
            rw [← hqv] at hv2
            rw [← hqy'] at hlen hqy
            obtain ⟨y', hy'⟩ : ∃ t, t = x - qy := ⟨_, rfl⟩
            obtain ⟨u2', hu2'⟩ : ∃ t, t = u1' + qu := ⟨_, rfl⟩
            obtain ⟨v2', hv2'⟩ : ∃ t, t = v1 + qv := ⟨_, rfl⟩
            have hw4 : IntKind.u64.wrap ((x : Int) - (qy : Int)) = (y' : Int) := by rw [hy']; exact w64_sub hqy (by omega)
            have hw5 : IntKind.u64.wrap ((u1' : Int) + (qu : Int)) = (u2' : Int) := by rw [hu2']; exact w64_add (by omega)
            have hw6 : IntKind.u64.wrap ((v1 : Int) + (qv : Int)) = (v2' : Int) := by rw [hv2']; exact w64_add (by omega)
            rw [← hy'] at hN hlen
            rw [← hu2', ← hv2'] at hN
            simp [hn, h0, h1, f6, f7, f8, f9, f10, f11, f12, f13, f14, hwxy, hwvs, hy, hx, yieldX, boolOf_bool, Bq, hw1, hw2, hw3, hw4, hw5, hw6]
            exact ⟨lenN (y * y'), by omega, y, y', u1', u2, u2', v1, v2, v2', -s, !ev, rfl, ⟨by simp [hn], by simp [hd], by simp [h0], by simp [h1]⟩, ⟨by simp, by simp, by simp, by simp, by simp, by simp, by simp, by simp, by simp⟩, o5, hN⟩
          · simp [hn, h0, h1, f6, f7, f8, f9, f10, f11, f12, f13, f14, hwxy, hwvs, hy, hx, yieldX, boolOf_bool]
            exact ⟨rfl, x, y, u0, u1', u2, v0, v1, v2, s, ev, ⟨by simp [hn], by simp [hd], by simp [h0], by simp [h1]⟩, ⟨by simp [f6], by simp [f7], by simp [f8], by simp [f9], by simp [f10], by simp [f11], by simp [f12], by simp [f13], by simp [f14]⟩, o5, hLP⟩
        · simp [hn, h0, h1, f6, f7, f8, f9, f10, f11, f12, f13, f14, hwxy, hwvs, hy, yieldX, boolOf_bool]
          exact ⟨rfl, x, y, u0, u1', u2, v0, v1, v2, s, ev, ⟨by simp [hn], by simp [hd], by simp [h0], by simp [h1]⟩, ⟨by simp [f6], by simp [f7], by simp [f8], by simp [f9], by simp [f10], by simp [f11], by simp [f12], by simp [f13], by simp [f14]⟩, o5, hLP⟩
      · clear hn hd h0 h1 F
        rintro ⟨rx, fr5⟩ m5 ⟨rfl, x, y, u0, u1', u2, v0, v1, v2, s, ev, F, S, o5, hLP⟩
        replace F : CmF fr5 va vb := F
        replace S : CmS fr5 x y u0 u1' u2 v0 v1 v2 ev := S
        have hn := F.n
        have hd := F.d
        have h0 := F.f0
        have h1 := F.f1
        have f8 := S.f8
        have f9 := S.f9
        have f11 := S.f11
        have f12 := S.f12
        have f14 := S.f14
        have hw5 : WF m5 := o5.wf hw1
        have u15 := u1.trans (Up.only o5)
        have hb0 : 0 < wv b := by omega
        by_cases hv0 : v0 = 0
        · rw [hv0] at f11
          have f11' : fr5.at 11 = .int .u64 0 := f11
          simp [hn, h0, h1, f11']
          refine divWords_ok e hw5 (ha.only o5) (hb.only o5) ta tb (by omega) (by omega) (by omega) fun m6 vq vr lq lr u6 W6 W6' t6 t6' _ _ hvq hvr => ?_
          simp [hn, h1]
          have hrb : wv lr < wv b := by rw [hvr]; exact Nat.mod_lt _ hb0
          have hlr := tr_le_len hb.wd t6' (Nat.le_of_lt hrb)
          refine ⟨lenN (wv b * wv lr), ?_, vb, vr, b, lr, rfl, ⟨by simp [hn], by simp [hd], by simp, by simp⟩, u15.trans u6, (hb.only o5).up hw5 u6, W6', tb, t6', hlb, by omega, by omega, ?_⟩
          · rw [hk, hvr]
            exact lenN_half (half_mod hb0 hba) (Nat.mul_pos (by omega) hb0)
          · rw [hvr, gcd_step]; exact hG
        · obtain ⟨c1, c2, c3, c4, A, B, hA1, hA2, hg, hBA, hAa, hBb, hhalf⟩ := hLP.ends hv0 hx60 hx0 hy0 hP
          have hv0' : ¬ ((v0 : Int) = 0) := by omega
          have k1 := cv64_i u0 (by omega)
          have k2 := cv64_i u1' (by omega)
          have k3 := cv64_i v0 (by omega)
          have k4 := cv64_i v1 (by omega)
          have g1 : ∀ {P : Program}, unX P .neg (.int .i64 (u0 : Int)) = some (.int .i64 (-(u0 : Int))) := fun {P} => un_negI _ (by omega) (by omega)
          have g2 : ∀ {P : Program}, unX P .neg (.int .i64 (u1' : Int)) = some (.int .i64 (-(u1' : Int))) := fun {P} => un_negI _ (by omega) (by omega)
          have g3 : ∀ {P : Program}, unX P .neg (.int .i64 (v0 : Int)) = some (.int .i64 (-(v0 : Int))) := fun {P} => un_negI _ (by omega) (by omega)
          have g4 : ∀ {P : Program}, unX P .neg (.int .i64 (v1 : Int)) = some (.int .i64 (-(v1 : Int))) := fun {P} => un_negI _ (by omega) (by omega)
          have hfin : ∀ (m7 : Mem) (fr7 : Fr) (vA vB : Value) (lA lB : List Nat), CmF fr7 vA vB → Up m5 m7 → WL m7 vA lA → WL m7 vB lB → Tr lA → Tr lB → wv lA = A → wv lB = B → ∃ j, j < k ∧ cmO m G L j fr7 m7 := fun m7 fr7 vA vB lA lB F7 u7 WA WB tA tB eA eB => by
            have lA' := tr_le_len ha.wd tA (by omega)
            have lB' := tr_le_len hb.wd tB (by omega)
            refine ⟨lenN (wv lA * wv lB), ?_, vA, vB, lA, lB, rfl, F7, u15.trans u7, WA, WB, tA, tB, by omega, by omega, by omega, by rw [eA, eB, hg, hG]⟩
            rw [hk, eA, eB]
            exact lenN_half hhalf (Nat.mul_pos (by omega) hb0)
          cases ev with
          | true =>
            obtain ⟨eA, eB⟩ := hA1 rfl
            simp [hn, h0, h1, f8, f9, f11, f12, f14, hv0, k1, k2, k3, k4, @g1, @g2, @g3, @g4]
            refine blend_ok (R := A) (e + 2) hw5 (ha.only o5) (hb.only o5) (by omega) hab (by omega) (by omega) (by omega) (by omega) eA fun m6 v6 l6 u6 W6 _ t6 e6 => ?_
            simp [hn, h0, h1, f8, f9, f11, f12, k1, k2, k3, k4, @g1, @g2, @g3, @g4]
            refine blend_ok (R := B) (e + 2) (u6.wf hw5) ((ha.only o5).up hw5 u6) ((hb.only o5).up hw5 u6) (by omega) hab (by omega) (by omega) (by omega) (by omega) eB fun m7 v7 l7 u7 W7 _ t7 e7 => ?_
            simp [hn]
            exact hfin _ _ v6 v7 l6 l7 ⟨by simp [hn], by simp [hd], by simp, by simp⟩ (u6.trans u7) (W6.up (u6.wf hw5) u7) W7 t6 t7 e6 e7
          | false =>
            obtain ⟨eA, eB⟩ := hA2 rfl
            simp [hn, h0, h1, f8, f9, f11, f12, f14, hv0, k1, k2, k3, k4, @g1, @g2, @g3, @g4]
            refine blend_ok (R := A) (e + 2) hw5 (ha.only o5) (hb.only o5) (by omega) hab (by omega) (by omega) (by omega) (by omega) eA fun m6 v6 l6 u6 W6 _ t6 e6 => ?_
            simp [hn, h0, h1, f8, f9, f11, f12, k1, k2, k3, k4, @g1, @g2, @g3, @g4]
            refine blend_ok (R := B) (e + 2) (u6.wf hw5) ((ha.only o5).up hw5 u6) ((hb.only o5).up hw5 u6) (by omega) hab (by omega) (by omega) (by omega) (by omega) eB fun m7 v7 l7 u7 W7 _ t7 e7 => ?_
            simp [hn]
            exact hfin _ _ v6 v7 l6 l7 ⟨by simp [hn], by simp [hd], by simp, by simp⟩ (u6.trans u7) (W6.up (u6.wf hw5) u7) W7 t6 t7 e6 e7
    · have hlb2' : ¬ (2 : Int) < (b.length : Int) := by omega
      simp [hn, h0, h1, hb.len, hlb2']
      exact ⟨rfl, va, vb, a, b, ⟨by simp [hn], by simp [hd], by simp [h0], by simp [h1]⟩, u1, ha, hb, ta, tb, hla, by omega, hba, hG⟩
  · rintro ⟨rx, fr1⟩ m1 ⟨rfl, va, vb, a, b, F, u1, ha, hb, ta, tb, hla, hlb, hba, hG⟩
    replace F : CmF fr1 va vb := F
    have hw1 := u1.wf hw
    have hn := F.n
    have hd := F.d
    have h0 := F.f0
    have h1 := F.f1
    by_cases hb0 : b.length = 0
    · simp [hn, h0, h1, hb.len, hb0]
      refine copied_ok (e + 3) hw1 ha (by omega) fun m2 bo u2 hbo hb2 => ?_
      simp [hn, hd]
      refine hQ _ _ a (u1.trans u2) (WL.own hb2 ha.wd) (by omega) ta ?_
      have hb1 : b = [] := List.eq_nil_of_length_eq_zero hb0
      rw [← hG, hb1]
      exact (Nat.gcd_zero_right _).symm
    · have hb0' : ¬ b = [] := by rintro rfl; simp at hb0
      simp [hn, h0, h1, hb.len, hb0']
      refine divWords_ok e hw1 ha hb ta tb (by omega) (by omega) (by omega) fun m2 vq vr lq lr u2 W2 W2' t2 t2' _ _ hvq hvr => ?_
      have hbp : 0 < wv b := by
        refine tr_pos tb ?_
        rintro rfl
        simp at hb0
      have hrb : wv lr < wv b := by rw [hvr]; exact Nat.mod_lt _ hbp
      have hlr := tr_le_len hb.wd t2' (Nat.le_of_lt hrb)
      simp [hn, h1]
      refine toUint_ok (e + 3) (hb.up hw1 u2) hlb fun m3 o3 => ?_
      simp [hn]
      refine toUint_ok (e + 3) (W2'.only o3) (by omega) fun m4 o4 => ?_
      simp [hn]
      have hb64 : wv b < 18446744073709551616 := Nat.lt_of_lt_of_le (wv_lt hb.wd) (pw_mono hlb)
      have hgc : Nat.gcd (wv b) (wv lr) = G := by rw [hvr, gcd_step]; exact hG
      have u24 : Up m1 m4 := u2.trans (Up.only (o3.trans o4))
      have hkk : lenN (wv b * wv lr) < 4000000 := by
        have h3 : wv b * wv lr < 2 ^ 128 := by
          have := Nat.mul_le_mul (show wv b ≤ 18446744073709551615 by omega) (show wv lr ≤ 18446744073709551615 by omega)
          omega
        have := lenN_lt h3
        omega
      refine code_loop_post (euR m4 G) (euI m4 G) _ hkk ⟨wv b, wv lr, rfl, by omega, by simp [hn], by simp [hd], by simp, by simp, Only.refl _, by omega, hgc⟩ ?_ ?_
      · clear hn hd h0 h1 F
        rintro k fr m5 ⟨x, y, hk, hx, hn, hd, f20, f21, o5, hyx, hg⟩
        by_cases hy : y = 0
        · simp [hn, f20, f21, hy]
          refine ⟨rfl, x, hx, by simp [hn], by simp [hd], by simp [f20], o5, ?_⟩
          rw [← hg, hy, Nat.gcd_zero_right]
        · obtain ⟨r, hr⟩ : ∃ r, r = x % y := ⟨_, rfl⟩
          have Br : ∀ {P : Program} {t' : TypeId} {xo yo : Operand}, binX P .rem t' xo yo (.int .u64 (x : Int)) (.int .u64 (y : Int)) = some (.int .u64 (r : Int)) := fun {P t' xo yo} => by rw [hr]; exact bin_rem x y (by omega)
          have hry : r < y := by rw [hr]; exact Nat.mod_lt _ (by omega)
          simp [hn, f20, f21, hy, Br]
          refine code_draw_reads (plan := [0, 0, 0, 6, 3, 31]) (by kernel_rfl) rfl (by kernel_rfl) fun ops _ => ?_
          simp [drawRQ, hn, f20, f21, Br]
          refine ⟨lenN (y * r), ?_, y, r, rfl, by omega, by simp [hn], by simp [hd], by simp, by simp, o5.trans ⟨by simp, fun c => by simp⟩, by omega, ?_⟩
          · rw [hk, hr]
            exact lenN_half (half_mod (by omega) hyx) (Nat.mul_pos (by omega) (by omega))
          · rw [hr, gcd_step]; exact hg
      · clear hn hd h0 h1 F
        rintro ⟨rx, fr5⟩ m5 ⟨rfl, x, hx, hn, hd, f20, o5, hg⟩
        replace hn : fr5.n = _ := hn
        replace hd : fr5.d = _ := hd
        replace f20 : fr5.at 20 = _ := f20
        simp [hn, f20]
        have u5 : Up m m5 := (u1.trans u24).trans (Up.only o5)
        refine fromUint_ok (e + 2) hx fun m6 v6 l6 u6 W6 h6 t6 e6 => ?_
        simp [hn, hd]
        exact hQ _ _ l6 (u5.trans u6) W6 (by omega) t6 (by rw [e6]; exact hg)
theorem common_ok (e : Nat) {m : Mem} {va vb : Value} {a b : List Nat} {L : Nat} (hw : WF m) (ha : WL m va a) (hb : WL m vb b) (ta : Tr a) (tb : Tr b) (hla : a.length ≤ L) (hlb : b.length ≤ L) (hL : L ≤ 60000) {Q : Value → Mem → Prop}
    (hQ : ∀ m' v l, Up m m' → WL m' v l → l.length ≤ max L 2 → Tr l → wv l = Nat.gcd (wv a) (wv b) → Q v m') :
    Gives (callN Try.prog kn1 (e + 5) 83 [va, vb]) m Q := by
  refine gives_fn (nt := 145) rfl Try.func83 rfl rfl rfl (Nat.le_of_ble_eq_true rfl) fun fr hn hd hargs => ?_
  have h0 : fr.at 0 = _ := hargs 0 _ rfl
  have h1 : fr.at 1 = _ := hargs 1 _ rfl
  clear hargs
  refine (code_seq _ _ _ _ _).2 ?_
  simp [hn, -code_seq]
  refine (code_seq _ _ _ _ _).2 ((code_seq _ _ _ _ _).2 ?_)
  simp [h0, h1, hn, -code_seq]
  refine cmpWords_ok (e + 3) ha hb ta tb (by omega) (by omega) fun m1 o1 => ?_
  by_cases hlt : wv a < wv b
  · have hc : cmpN (wv a) (wv b) = -1 := if_pos hlt
    simp [hc, hn, h0, h1, -code_seq]
    refine via (X := sRn 2 (bodyOf Try.f83)) (by kernel_rfl) (common_rest e (o1.wf hw) (hb.only o1) (ha.only o1) tb ta hlb hla hL (by omega) ⟨by simp [hn], by simp [hd], by simp, by simp⟩ fun m' v l u h1 h2 h3 h4 => hQ m' v l ((Up.only o1).trans u) h1 h2 h3 (by rw [h4, Nat.gcd_comm]))
  · have hc : ¬ cmpN (wv a) (wv b) < 0 := by
      unfold cmpN
      rw [if_neg hlt]
      split <;> omega
    simp [hc, hn, h0, h1, -code_seq]
    refine via (X := sRn 2 (bodyOf Try.f83)) (by kernel_rfl) (common_rest e (o1.wf hw) (ha.only o1) (hb.only o1) ta tb hla hlb hL (by omega) ⟨by simp [hn], by simp [hd], by simp [h0], by simp [h1]⟩ fun m' v l u h1 h2 h3 h4 => hQ m' v l ((Up.only o1).trans u) h1 h2 h3 h4)
end
end Go.Proofs.Ytghhanifakllpaa
