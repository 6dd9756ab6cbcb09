/- Words in the clean executor: differences, products. -/
import Derived.Test.YtghhanifakllpaaBeY
set_option linter.unusedSimpArgs false
set_option linter.unusedVariables false
namespace Go.Proofs.Ytghhanifakllpaa
open Go.Clean

theorem w64_subN {a b : Nat} (h : b ≤ 18446744073709551616) : IntKind.u64.wrap ((a : Int) - (b : Int)) = (((a + 18446744073709551616 - b) % 18446744073709551616 : Nat) : Int) := by rw [w64]; omega
section
set_option maxRecDepth 10000
def sbI (m : Mem) (va vb : Value) (a b : List Nat) (bo : Nat) (q : Nat) (fr : Fr) (m' : Mem) : Prop := ∃ i c l, i + q = a.length ∧ fr.n = 45 ∧ fr.d = [] ∧ fr.at 0 = va ∧ fr.at 1 = vb ∧ fr.at 5 = .slice (some ⟨bo, 0, none⟩) a.length a.length ∧ fr.at 6 = .int .u64 (c : Nat) ∧ fr.at 7 = .int .i64 (i : Nat) ∧ OWn m m' bo l ∧ l.length = a.length ∧ c ≤ 1 ∧ wv (l.take i) + wv (b.take i) = wv (a.take i) + pw i * c
set_option maxHeartbeats 1000000 in
theorem subWords_ok (n : Nat) {m : Mem} {va vb : Value} {a b : List Nat} (hw : WF m) (ha : WL m va a) (hb : WL m vb b) (tb : Tr b) (hl : a.length < 900000) (hle : wv b ≤ wv a) {Q : Value → Mem → Prop}
    (hQ : ∀ m' v l, Up m m' → WL m' v l → l.length ≤ a.length → Tr l → wv l = wv a - wv b → Q v m') :
    Gives (callN Try.prog kn1 (n + 2) 109 [va, vb]) m Q := by
  refine gives_fn (nt := 45) rfl Try.func109 rfl rfl rfl (Nat.le_of_ble_eq_true rfl) fun fr hn hd hargs => ?_
  have h0 : fr.at 0 = _ := hargs 0 _ rfl
  have h1 : fr.at 1 = _ := hargs 1 _ rfl
  clear hargs
  have hab : b.length ≤ a.length := by
    by_cases h : b.length ≤ a.length
    · exact h
    · have := tr_len ha.wd tb (show a.length < b.length by omega)
      omega
  simp [h0, hn, ha.len]
  refine gives_makeW (by omega) ?_
  simp [hn]
  refine code_loop (sbI m va vb a b m.next) a.length (by omega) ⟨0, 0, _, by omega, by simp [hn], by simp [hd], by simp [h0], by simp [h1], by simp, by simp, by simp, OWn.first m a.length, by simp, by omega, by simp [wv]⟩ ?_
  clear hn hd h0 h1
  rintro q fr m' ⟨i, c, l, hiq, hn, hd, h0, h1, h5, h6, h7, hO, hll, hc, hv⟩
  by_cases hi : i < a.length
  · obtain ⟨b1, o1, k1, x1, hA⟩ := (ha.up hw hO.up).rd (by omega)
    have y1 := hA.get i hi
    have e1 := hA.at'
    rw [hA.val] at h0
    have hai := wat_lt ha.wd i
    have hbi := wat_lt hb.wd i
    have cv := cv32_64 _ hai
    obtain ⟨t1, ht1⟩ : ∃ t, t = (wat a i + 18446744073709551616 - c) % 18446744073709551616 := ⟨_, rfl⟩
    have hw1 : IntKind.u64.wrap (((wat a i : Nat) : Int) - ((c : Nat) : Int)) = (t1 : Int) := by rw [ht1]; exact w64_subN (by omega)
    obtain ⟨t, ht⟩ : ∃ t, t = (t1 + 18446744073709551616 - wat b i) % 18446744073709551616 := ⟨_, rfl⟩
    have hwi := wrap_succ i (by omega)
    have hword : t % 4294967296 + wat b i + c = wat a i + 4294967296 * (t / 9223372036854775808) := by omega
    have hnew : wv (l.take i) + pw i * (t % 4294967296) + wv (b.take (i + 1)) = wv (a.take (i + 1)) + pw (i + 1) * (t / 9223372036854775808) := by
      rw [wv_next a, wv_next b, pw_succ]
      have h2 : pw i * (t % 4294967296) + pw i * wat b i + pw i * c = pw i * wat a i + 4294967296 * pw i * (t / 9223372036854775808) := by
        rw [← Nat.mul_add, ← Nat.mul_add, hword, Nat.mul_add, Nat.mul_comm 4294967296 (pw i), Nat.mul_assoc]
      omega
    have lenA := ha.len
    have lenB := hb.len
    rw [hA.val] at lenA
    have s63 : ∀ {P : Program} {t' : TypeId} {xo yo : Operand} {k' : IntKind}, binX P .shr t' xo yo (.int .u64 (t : Int)) (.int k' 63) = some (.int .u64 ((t / 9223372036854775808 : Nat) : Int)) := fun {P t' xo yo k'} => bin_shr63 t
    have c32 := cv64_32 t
    by_cases hib : i < b.length
    · obtain ⟨b2, o2, k2, x2, hB⟩ := (hb.up hw hO.up).rd (by omega)
      have y2 := hB.get i hib
      have e2 := hB.at'
      rw [hB.val] at h1
      have cvb := cv32_64 _ hbi
      have hw2 : IntKind.u64.wrap ((t1 : Int) - ((wat b i : Nat) : Int)) = (t : Int) := by rw [ht]; exact w64_subN (by omega)
      simp [hn, h0, h1, h5, h6, h7, hi, hib, idx_W _ _ _ _ _ _ hi, idx_W _ _ _ _ _ _ hib, e1, y1, e2, y2, cv, cvb, hw1, hw2, c32]
      refine storeQ_one (cs := wc l) (sz := 1) (gr := false) (by simp [hO.at']) (by simp) (cells_int _ _) (by rw [wc_len]; omega) fun m4 n4 _ e4 => ?_
      simp only [Mem.next_rd, Mem.at_rd] at n4 e4
      simp [hn, h7, s63, hwi]
      have hO4 := hO.set hw (Nat.mod_lt t (by decide : 0 < 4294967296)) n4 e4
      exact ⟨q - 1, by omega, i + 1, t / 9223372036854775808, l.set i (t % 4294967296), by omega, by simp [hn], by simp [hd], by simp [h0, hA.val], by simp [h1, hB.val], by simp [h5], by simp, by simp, hO4, by simp [hll], by omega, by rw [take_set_next (by omega)]; exact hnew⟩
    · have hb0 : wat b i = 0 := wat_far (by omega)
      obtain rfl : t = t1 := by omega
      simp [hn, h0, h1, lenB, h5, h6, h7, hi, hib, idx_W _ _ _ _ _ _ hi, e1, y1, cv, hw1, c32]
      refine storeQ_one (cs := wc l) (sz := 1) (gr := false) (by simp [hO.at']) (by simp) (cells_int _ _) (by rw [wc_len]; omega) fun m4 n4 _ e4 => ?_
      simp only [Mem.next_rd, Mem.at_rd] at n4 e4
      simp [hn, h7, s63, hwi]
      have hO4 := hO.set hw (Nat.mod_lt t (by decide : 0 < 4294967296)) n4 e4
      exact ⟨q - 1, by omega, i + 1, t / 9223372036854775808, l.set i (t % 4294967296), by omega, by simp [hn], by simp [hd], by simp [h0, hA.val], by simp [h1], by simp [h5], by simp, by simp, hO4, by simp [hll], by omega, by rw [take_set_next (by omega)]; exact hnew⟩
  · obtain rfl : i = a.length := by omega
    have e : wv (b.take a.length) = wv b := wv_all hab
    have e' : wv (l.take a.length) = wv l := wv_all (by omega)
    rw [e, e', List.take_length] at hv
    have hlt := wv_lt hO.wd
    rw [hll] at hlt
    have hc0 : c = 0 := by
      rcases Nat.eq_zero_or_pos c with h | h
      · exact h
      · obtain rfl : c = 1 := by omega
        rw [Nat.mul_one] at hv
        omega
    subst hc0
    have hWL := hO.wl
    rw [hll] at hWL
    simp [hn, h0, h5, h7, ha.len]
    refine trim_ok n hWL (by omega) fun m5 v5 ho5 hw5 => ?_
    simp [hn, hd]
    refine hQ m5 v5 _ (hO.up.trans (Up.only ho5)) hw5 ?_ (tr_trim _) ?_
    · unfold trimL
      rw [List.length_take]
      omega
    · rw [wv_trim]; omega
structure MuF (fr : Fr) (va vb : Value) (bo N i : Nat) : Prop where
  n : fr.n = 70
  d : fr.d = []
  f0 : fr.at 0 = va
  f1 : fr.at 1 = vb
  f5 : fr.at 5 = .slice (some ⟨bo, 0, none⟩) N N
  f6 : fr.at 6 = .int .i64 (i : Nat)
def muI (m : Mem) (va vb : Value) (a b : List Nat) (bo N : Nat) (q : Nat) (fr : Fr) (m' : Mem) : Prop := ∃ i l, i + q = a.length ∧ MuF fr va vb bo N i ∧ OWn m m' bo l ∧ l.length = N ∧ wv l = wv (a.take i) * wv b ∧ ∀ j, i + b.length ≤ j → wat l j = 0
def mvI (m : Mem) (va vb : Value) (b l0 : List Nat) (bo N i x : Nat) (q : Nat) (fr : Fr) (m' : Mem) : Prop := ∃ j c l, j + q = b.length ∧ MuF fr va vb bo N i ∧ fr.at 7 = .int .u64 (c : Nat) ∧ fr.at 8 = .int .u64 (x : Nat) ∧ fr.at 9 = .int .i64 (j : Nat) ∧ OWn m m' bo l ∧ l.length = N ∧ c < 4294967296 ∧ wv l + pw (i + j) * c = wv l0 + pw i * x * wv (b.take j) ∧ ∀ t, i + j ≤ t → wat l t = wat l0 t
def mvR (m : Mem) (va vb : Value) (b l0 : List Nat) (bo N i x : Nat) (r : Ex × Fr) (m' : Mem) : Prop := r.1 = .exit 2 ∧ ∃ c l, MuF r.2 va vb bo N i ∧ r.2.at 7 = .int .u64 (c : Nat) ∧ OWn m m' bo l ∧ l.length = N ∧ c < 4294967296 ∧ wv l + pw (i + b.length) * c = wv l0 + pw i * x * wv b ∧ ∀ t, i + b.length ≤ t → wat l t = wat l0 t
set_option maxHeartbeats 2000000 in
theorem mulWords_ok (n : Nat) {m : Mem} {va vb : Value} {a b : List Nat} (hw : WF m) (ha : WL m va a) (hb : WL m vb b) (hl : a.length < 400000) (hlb : b.length < 400000) {Q : Value → Mem → Prop}
    (hQ : ∀ m' v l, Up m m' → WL m' v l → l.length ≤ a.length + b.length → Tr l → wv l = wv a * wv b → Q v m') :
    Gives (callN Try.prog kn1 (n + 2) 61 [va, vb]) m Q := by
  refine gives_fn (nt := 70) rfl Try.func61 rfl rfl rfl (Nat.le_of_ble_eq_true rfl) fun fr hn hd hargs => ?_
  have h0 : fr.at 0 = _ := hargs 0 _ rfl
  have h1 : fr.at 1 = _ := hargs 1 _ rfl
  clear hargs
  obtain ⟨N, hN⟩ : ∃ N, N = a.length + b.length := ⟨_, rfl⟩
  have hwN : IntKind.i64.wrap ((a.length : Int) + (b.length : Int)) = (N : Int) := by rw [hN]; exact wrap_add _ _ (by omega)
  simp [h0, h1, hn, ha.len, hb.len, hwN]
  refine gives_makeW (by omega) ?_
  simp [hn]
  refine code_loop (muI m va vb a b m.next N) a.length (by omega) ⟨0, _, by omega, ⟨by simp [hn], by simp [hd], by simp [h0], by simp [h1], by simp, by simp⟩, OWn.first m N, by simp, by simp [wv, wv_zeros], fun j _ => by unfold wat; simp [List.getD, List.getElem?_replicate]; split <;> simp⟩ ?_
  clear hn hd h0 h1
  rintro q fr m' ⟨i, l, hiq, F, hO, hll, hv, hz⟩
  have hn := F.n
  have lenA := ha.len
  have lenB := hb.len
  by_cases hi : i < a.length
  · obtain ⟨b1, o1, k1, x1, hA⟩ := (ha.up hw hO.up).rd (by omega)
    have y1 := hA.get i hi
    have e1 := hA.at'
    have f0 := F.f0
    rw [hA.val] at f0 lenA
    have hai := wat_lt ha.wd i
    have cv := cv32_64 _ hai
    have hwi := wrap_succ i (by omega)
    simp [hn, f0, F.f6, hi, lenA, idx_W _ _ _ _ _ _ hi, e1, y1, cv]
    refine code_loop_post (mvR m va vb b l m.next N i (wat a i)) (mvI m va vb b l m.next N i (wat a i)) b.length (by omega) ⟨0, 0, l, by omega, ⟨by simp [hn], by simp [F.d], by simp [F.f0], by simp [F.f1], by simp [F.f5], by simp [F.f6]⟩, by simp, by simp, by simp, hO.only (Only.rd' _ _), hll, by omega, by simp [wv], fun _ _ => rfl⟩ ?_ ?_
    · clear hn F f0 hO
      rintro q2 fr2 m2 ⟨j, c, l2, hjq, F, f7, f8, f9, hO, hl2, hc, hv2, hz2⟩
      have hn := F.n
      by_cases hj : j < b.length
      · obtain ⟨b2, o2, k2, x2, hB⟩ := (hb.up hw hO.up).rd (by omega)
        have y2 := hB.get j hj
        have e2 := hB.at'
        have f1 := F.f1
        rw [hB.val] at f1 lenB
        have hbj := wat_lt hb.wd j
        have cvb := cv32_64 _ hbj
        have hwj := wrap_succ j (by omega)
        obtain ⟨s, hs⟩ : ∃ s, s = i + j := ⟨_, rfl⟩
        have hws : IntKind.i64.wrap ((i : Int) + (j : Int)) = (s : Int) := by rw [hs]; exact wrap_add _ _ (by omega)
        have hsN : s < N := by omega
        have hold := wat_lt hO.wd s
        have cvo := cv32_64 _ hold
        have hget : (wc l2)[s]? = some (.int .u32 ((wat l2 s : Nat) : Int)) := wc_get (by omega)
        obtain ⟨p, hp⟩ : ∃ p, p = wat a i * wat b j := ⟨_, rfl⟩
        have hp1 : p ≤ 4294967295 * 4294967295 := by rw [hp]; exact Nat.mul_le_mul (by omega) (by omega)
        have hwp : IntKind.u64.wrap (((wat a i : Nat) : Int) * ((wat b j : Nat) : Int)) = (p : Int) := by rw [hp]; exact w64_mul (by omega)
        obtain ⟨p2, hp2⟩ : ∃ p2, p2 = p + wat l2 s := ⟨_, rfl⟩
        have hwp2 : IntKind.u64.wrap ((p : Int) + ((wat l2 s : Nat) : Int)) = (p2 : Int) := by rw [hp2]; exact w64_add (by omega)
        obtain ⟨t, ht⟩ : ∃ t, t = p2 + c := ⟨_, rfl⟩
        have hwt : IntKind.u64.wrap ((p2 : Int) + (c : Int)) = (t : Int) := by rw [ht]; exact w64_add (by omega)
        have s32 : ∀ {P : Program} {t' : TypeId} {xo yo : Operand} {k' : IntKind}, binX P .shr t' xo yo (.int .u64 (t : Int)) (.int k' 32) = some (.int .u64 ((t / 4294967296 : Nat) : Int)) := fun {P t' xo yo k'} => bin_shr32 t
        have c32 := cv64_32 t
        simp [hn, f1, f9, hj, lenB]
        refine code_draw_dyn (plan := [0, 0, 0, 6, 14, 30, 63, 0, 0, 0, 768, 1920, 3968, 8064, 16383, 0, 65535, 131071]) (by kernel_rfl) ?_
        simp [drawQ, apartAll, apartL, Nat.testBit, hn, f1, F.f5, F.f6, f7, f8, f9, idx_W _ _ _ _ _ _ hj, idx_W _ _ _ _ _ _ hsN, e2, y2, cvb, hO.at', hget, hws, cvo, hwp, hwp2, hwt, c32]
        refine storeQ_one (cs := wc l2) (sz := 1) (gr := false) (by simp [hO.at']) (by simp) (cells_int _ _) (by rw [wc_len]; omega) fun m4 n4 _ e4 => ?_
        simp only [Mem.next_rd, Mem.at_rd, Mem.next_lg, Mem.at_lg] at n4 e4
        simp [hn, f9, s32, hwj]
        have hO4 := hO.set hw (Nat.mod_lt t (by decide : 0 < 4294967296)) n4 e4
        have hset := wv_set (l := l2) (i := s) (x := t % 4294967296) (by omega)
        refine ⟨q2 - 1, by omega, j + 1, t / 4294967296, l2.set s (t % 4294967296), by omega, ⟨by simp [hn], by simp [F.d], by simp [F.f0], by simp [F.f1], by simp [F.f5], by simp [F.f6]⟩, by simp, by simp [f8], by simp, hO4, by simp [hl2], by omega, ?_, fun t' ht' => ?_⟩
        · have h2 := carry_step (p := pw s) (x := t % 4294967296) (c := t / 4294967296) (t := t) (by omega)
          have h3 : pw s * t = pw s * p + pw s * wat l2 s + pw s * c := by rw [ht, hp2, Nat.mul_add, Nat.mul_add]
          have h4 : pw i * wat a i * wv (b.take (j + 1)) = pw i * wat a i * wv (b.take j) + pw s * p := by
            rw [wv_next, Nat.mul_add, hs, pw_add, hp]
            congr 1
            rw [Nat.mul_assoc, Nat.mul_assoc, Nat.mul_left_comm (wat a i)]
          have h5 : pw (i + (j + 1)) = 4294967296 * pw s := by rw [hs, ← Nat.add_assoc, pw_succ]
          rw [h4, h5]
          rw [← hs] at hv2
          have h6 : l2.getD s 0 = wat l2 s := rfl
          rw [h6] at hset
          omega
        · rw [wat_set (by omega), if_neg (by omega)]
          exact hz2 t' (by omega)
      · obtain rfl : j = b.length := by omega
        rw [List.take_length] at hv2
        simp [hn, F.f1, f9, lenB]
        exact ⟨rfl, c, l2, ⟨by simp [hn], by simp [F.d], by simp [F.f0], by simp [F.f1], by simp [F.f5], by simp [F.f6]⟩, by simp [f7], hO, hl2, hc, hv2, hz2⟩
    · clear hn F f0 hO
      rintro ⟨e, fr2⟩ m2 ⟨he', c, l2, F, f7, hO, hl2, hc, hv2, hz2⟩
      obtain rfl : e = .exit 2 := he'
      simp only at F f7
      have hn := F.n
      obtain ⟨s, hs⟩ : ∃ s, s = i + b.length := ⟨_, rfl⟩
      have hws : IntKind.i64.wrap ((i : Int) + (b.length : Int)) = (s : Int) := by rw [hs]; exact wrap_add _ _ (by omega)
      have hsN : s < N := by omega
      have c32 := cv64_32 c
      rw [Nat.mod_eq_of_lt hc] at c32
      simp [hn, F.f1, F.f5, F.f6, f7, lenB, hws, c32, idx_W _ _ _ _ _ _ hsN]
      refine storeQ_one (cs := wc l2) (sz := 1) (gr := false) (by simp [hO.at']) (by simp) (cells_int _ _) (by rw [wc_len]; omega) fun m4 n4 _ e4 => ?_
      try simp only [Mem.next_rd, Mem.at_rd] at n4 e4
      have hO4 := hO.set hw hc n4 e4
      simp [hn, F.f6, hwi]
      refine ⟨q - 1, by omega, i + 1, l2.set s c, by omega, ⟨by simp [hn], by simp [F.d], by simp [F.f0], by simp [F.f1], by simp [F.f5], by simp⟩, hO4, by simp [hl2], ?_, fun t ht => ?_⟩
      · have hset := wv_set (l := l2) (i := s) (x := c) (by omega)
        have h6 : l2.getD s 0 = 0 := by
          have h7 := hz2 s (by omega)
          rw [hz s (by omega)] at h7
          exact h7
        rw [h6, Nat.mul_zero, Nat.add_zero] at hset
        rw [← hs, hv] at hv2
        rw [hset, hv2, wv_next, Nat.add_mul]
      · rw [wat_set (by omega), if_neg (by omega), hz2 t (by omega)]
        exact hz t (by omega)
  · obtain rfl : i = a.length := by omega
    rw [List.take_length] at hv
    have hWL := hO.wl
    rw [hll] at hWL
    simp [hn, F.f0, F.f5, F.f6, lenA]
    refine trim_ok n hWL (by omega) fun m5 v5 ho5 hw5 => ?_
    simp [hn, F.d]
    refine hQ m5 v5 _ (hO.up.trans (Up.only ho5)) hw5 ?_ (tr_trim _) ?_
    · unfold trimL
      rw [List.length_take]
      omega
    · rw [wv_trim]; exact hv
end
end Go.Proofs.Ytghhanifakllpaa

/- Words in the clean executor: shifted up, by one word, as a number. -/
namespace Go.Proofs.Ytghhanifakllpaa
open Go.Clean

section
theorem cvS (s : Nat) (h : s < 9223372036854775808) : convX Try.prog 3 96 (.int .i64 (s : Int)) = some (.int .u64 (s : Int)) := by
  have e : convX Try.prog 3 96 (.int .i64 (s : Int)) = some (.int .u64 (IntKind.u64.wrap (s : Int))) := by kernel_rfl
  rw [e, w64_nat (by omega)]
end
theorem mul_pow_mod (a s : Nat) (hs : s ≤ 32) : a * 2 ^ s % 4294967296 = a % 2 ^ (32 - s) * 2 ^ s := by
  have e : (4294967296 : Nat) = 2 ^ (32 - s) * 2 ^ s := by rw [← Nat.pow_add, show 32 - s + s = 32 by omega]
  rw [e, Nat.mul_mod_mul_right]
theorem low_room {a s o : Nat} (hs : s ≤ 32) (ho : o < 2 ^ s) : o + a * 2 ^ s % 4294967296 < 4294967296 := by
  rw [mul_pow_mod a s hs]
  have h1 := Nat.mod_lt a (Nat.two_pow_pos (32 - s))
  have h2 : (a % 2 ^ (32 - s) + 1) * 2 ^ s ≤ 2 ^ (32 - s) * 2 ^ s := Nat.mul_le_mul_right _ h1
  rw [← Nat.pow_add, show 32 - s + s = 32 by omega, Nat.add_mul] at h2
  omega
theorem low_or {a s o : Nat} (hs : s ≤ 32) (ho : o < 2 ^ s) : o ||| (a * 2 ^ s % 4294967296) = o + a * 2 ^ s % 4294967296 := by
  rw [mul_pow_mod a s hs]
  exact or_add' _ _ _ ho
section
set_option maxRecDepth 10000
def upI (m : Mem) (va : Value) (a : List Nat) (bo N k s : Nat) (q : Nat) (fr : Fr) (m' : Mem) : Prop := ∃ i l, i + q = a.length ∧ fr.n = 62 ∧ fr.d = [] ∧ fr.at 0 = va ∧ fr.at 5 = .int .i64 (k : Nat) ∧ fr.at 6 = .int .u64 (s : Nat) ∧ fr.at 7 = .slice (some ⟨bo, 0, none⟩) N N ∧ fr.at 8 = .int .i64 (i : Nat) ∧ OWn m m' bo l ∧ l.length = N ∧ wv l = pw k * (wv (a.take i) * 2 ^ s) ∧ (∀ t, i + k < t → wat l t = 0) ∧ wat l (i + k) < 2 ^ s
set_option maxHeartbeats 2000000 in
theorem up_ok (n : Nat) {m : Mem} {va : Value} {a : List Nat} {c : Nat} (hw : WF m) (ha : WL m va a) (hl : a.length < 400000) (hc : c < 10000000) {Q : Value → Mem → Prop}
    (hQ : ∀ m' v l, Up m m' → WL m' v l → l.length ≤ a.length + c / 32 + 1 → Tr l → wv l = wv a * 2 ^ c → Q v m') :
    Gives (callN Try.prog kn1 (n + 2) 76 [va, .int .i64 (c : Int)]) m Q := by
  refine gives_fn (nt := 62) rfl Try.func76 rfl rfl rfl (Nat.le_of_ble_eq_true rfl) fun fr hn hd hargs => ?_
  have h0 : fr.at 0 = _ := hargs 0 _ rfl
  have h1 : fr.at 1 = _ := hargs 1 _ rfl
  clear hargs
  by_cases ha0 : a.length = 0
  · have e : a = [] := List.eq_nil_of_length_eq_zero ha0
    simp [h0, hn, hd, ha.len, ha0]
    refine hQ m _ [] (Up.refl m) (WL.nil m) (by simp) Tr.nil (by rw [e]; simp [wv])
  · obtain ⟨k, hk⟩ : ∃ k, k = c / 32 := ⟨_, rfl⟩
    obtain ⟨s, hs⟩ : ∃ s, s = c % 32 := ⟨_, rfl⟩
    have q1 : ∀ {P : Program} {t : TypeId} {xo yo : Operand}, binX P .quo t xo yo (.int .i64 (c : Int)) (.int .i64 32) = some (.int .i64 (k : Int)) := fun {P t xo yo} => by rw [hk]; exact bin_quo32 c (by omega)
    have q2 : ∀ {P : Program} {t : TypeId} {xo yo : Operand}, binX P .rem t xo yo (.int .i64 (c : Int)) (.int .i64 32) = some (.int .i64 (s : Int)) := fun {P t xo yo} => by rw [hs]; exact bin_rem32 c
    have q3 := cvS s (by omega)
    obtain ⟨N0, hN0⟩ : ∃ N, N = a.length + k := ⟨_, rfl⟩
    obtain ⟨N, hN⟩ : ∃ N, N = N0 + 1 := ⟨_, rfl⟩
    have hwN0 : IntKind.i64.wrap ((a.length : Int) + (k : Int)) = (N0 : Int) := by rw [hN0]; exact wrap_add _ _ (by omega)
    have hwN : IntKind.i64.wrap ((N0 : Int) + 1) = (N : Int) := by rw [hN]; exact wrap_succ _ (by omega)
    have hane : ¬ a = [] := fun e => ha0 (by rw [e]; rfl)
    simp [h0, h1, hn, ha.len, hane, q1, q2, q3, hwN0, hwN]
    refine gives_makeW (by omega) ?_
    simp [hn]
    refine code_loop (upI m va a m.next N k s) a.length (by omega) ⟨0, _, by omega, by simp [hn], by simp [hd], by simp [h0], by simp, by simp, by simp, by simp, OWn.first m N, by simp, by simp [wv, wv_zeros], fun j _ => by unfold wat; simp [List.getD, List.getElem?_replicate]; split <;> simp, ?_⟩ ?_
    · have : wat (List.replicate N 0) (0 + k) = 0 := by unfold wat; simp [List.getD, List.getElem?_replicate]; split <;> simp
      rw [this]; exact Nat.two_pow_pos s
    clear hn hd h0 h1
    rintro q fr m' ⟨i, l, hiq, hn, hd, h0, h5, h6, h7, h8, hO, hll, hv, hz, hold⟩
    by_cases hi : i < a.length
    · obtain ⟨b1, o1, k1, x1, hA⟩ := (ha.up hw hO.up).rd (by omega)
      have y1 := hA.get i hi
      have e1 := hA.at'
      rw [hA.val] at h0
      have lenA := ha.len
      rw [hA.val] at lenA
      have hai := wat_lt ha.wd i
      have cv := cv32_64 _ hai
      have hs32 : s ≤ 32 := by omega
      have hp32 : 2 ^ s ≤ 4294967296 := Nat.pow_le_pow_right (n := 2) (by decide) hs32
      obtain ⟨t, ht⟩ : ∃ t, t = wat a i * 2 ^ s := ⟨_, rfl⟩
      have ht64 : t < 18446744073709551616 := by
        have : wat a i * 2 ^ s ≤ 4294967295 * 4294967296 := Nat.mul_le_mul (by omega) hp32
        omega
      have sh1 : ∀ {P : Program} {t' : TypeId} {xo yo : Operand}, binX P .shl t' xo yo (.int .u64 ((wat a i : Nat) : Int)) (.int .u64 (s : Int)) = some (.int .u64 (t : Int)) := fun {P t' xo yo} => by rw [ht]; exact bin_shlU _ _ (by omega) (by omega)
      have s32 : ∀ {P : Program} {t' : TypeId} {xo yo : Operand} {k' : IntKind}, binX P .shr t' xo yo (.int .u64 (t : Int)) (.int k' 32) = some (.int .u64 ((t / 4294967296 : Nat) : Int)) := fun {P t' xo yo k'} => bin_shr32 t
      obtain ⟨lo, hlo⟩ : ∃ lo, lo = t % 4294967296 := ⟨_, rfl⟩
      obtain ⟨hi', hhi⟩ : ∃ h, h = t / 4294967296 := ⟨_, rfl⟩
      have hhi32 : hi' < 2 ^ s := by
        rw [hhi, ht]
        refine Nat.div_lt_of_lt_mul ?_
        exact Nat.mul_lt_mul_of_pos_right hai (Nat.two_pow_pos s)
      have c32 := cv64_32 t
      rw [← hlo] at c32
      rw [← hhi] at s32
      have c32' := cv64_32 hi'
      rw [Nat.mod_eq_of_lt (by omega)] at c32'
      obtain ⟨p, hp⟩ : ∃ p, p = i + k := ⟨_, rfl⟩
      obtain ⟨p1, hp1⟩ : ∃ p1, p1 = p + 1 := ⟨_, rfl⟩
      have hwp : IntKind.i64.wrap ((i : Int) + (k : Int)) = (p : Int) := by rw [hp]; exact wrap_add _ _ (by omega)
      have hwp1 : IntKind.i64.wrap ((p : Int) + 1) = (p1 : Int) := by rw [hp1]; exact wrap_succ _ (by omega)
      have hwi := wrap_succ i (by omega)
      rw [← hp] at hold
      obtain ⟨o, ho⟩ : ∃ o, o = wat l p := ⟨_, rfl⟩
      rw [← ho] at hold
      have hor : ∀ {P : Program} {t' : TypeId} {xo yo : Operand}, binX P .or t' xo yo (.int .u32 (o : Int)) (.int .u32 (lo : Int)) = some (.int .u32 ((o + lo : Nat) : Int)) := fun {P t' xo yo} => by
        rw [bin_or32 _ _ (by omega) (by omega)]
        congr 3
        rw [hlo, ht]
        exact low_or hs32 hold
      have hroom : o + lo < 4294967296 := by rw [hlo, ht]; exact low_room hs32 hold
      obtain ⟨w, hwd⟩ : ∃ w, w = o + lo := ⟨_, rfl⟩
      rw [← hwd] at hor hroom
      have hget : (wc l)[p]? = some (.int .u32 (o : Int)) := by rw [ho]; exact wc_get (by omega)
      simp [hn, h0, h5, h6, h7, h8, hi, lenA, idx_W _ _ _ _ _ _ hi, e1, y1, cv, sh1, hwp, idx_W _ _ _ _ _ _ (show p < N by omega), hO.at', hget, c32, hor]
      refine storeQ_one (cs := wc l) (sz := 1) (gr := false) (by simp [hO.at']) (by simp) (cells_int _ _) (by rw [wc_len]; omega) fun m4 n4 _ e4 => ?_
      simp only [Mem.next_rd, Mem.at_rd] at n4 e4
      have hO4 := hO.set hw hroom n4 e4
      simp [hn, h5, h7, h8, hwp, hwp1, s32, c32', idx_W _ _ _ _ _ _ (show p1 < N by omega)]
      refine storeQ_one (cs := wc (l.set p w)) (sz := 1) (gr := false) (by simp [hO4.at']) (by simp) (cells_int _ _) (by rw [wc_len]; simp; omega) fun m5 n5 _ e5 => ?_
      try simp only [Mem.next_rd, Mem.at_rd] at n5 e5
      have hO5 := hO4.set hw (show hi' < 4294967296 by omega) n5 e5
      simp [hn, h8, hwi]
      have w1 := wv_set (l := l) (i := p) (x := w) (by omega)
      have w2 := wv_set (l := l.set p w) (i := p1) (x := hi') (by simp; omega)
      have w3 : (l.set p w).getD p1 0 = 0 := by
        show wat (l.set p w) p1 = 0
        rw [wat_set (by omega), if_neg (by omega)]
        exact hz p1 (by omega)
      have w4 : l.getD p 0 = o := ho.symm
      rw [w3, Nat.mul_zero, Nat.add_zero] at w2
      rw [w4] at w1
      refine ⟨q - 1, by omega, i + 1, (l.set p w).set p1 hi', by omega, by simp [hn], by simp [hd], by simp [h0, hA.val], by simp [h5], by simp [h6], by simp [h7], by simp, hO5, by simp [hll], ?_, fun t' ht' => ?_, ?_⟩
      · have h2 := carry_step (p := pw p) (x := lo) (c := hi') (t := t) (by omega)
        have h3 : pw k * (wv (a.take (i + 1)) * 2 ^ s) = pw k * (wv (a.take i) * 2 ^ s) + pw p * t := by
          rw [wv_next, Nat.add_mul, Nat.mul_add, ht, hp, pw_add]
          congr 1
          rw [Nat.mul_comm (pw i) (pw k), Nat.mul_assoc, Nat.mul_assoc]
        have h4 : pw p1 = 4294967296 * pw p := by rw [hp1, pw_succ]
        have h5 : pw p * w = pw p * o + pw p * lo := by rw [hwd, Nat.mul_add]
        rw [h4] at w2
        rw [h3]
        omega
      · rw [wat_set (by simp; omega), if_neg (by omega), wat_set (by omega), if_neg (by omega)]
        exact hz t' (by omega)
      · rw [wat_set (by simp; omega), if_pos (by omega)]
        exact hhi32
    · obtain rfl : i = a.length := by omega
      rw [List.take_length] at hv
      have hWL := hO.wl
      rw [hll] at hWL
      simp [hn, h0, h7, h8, ha.len]
      refine trim_ok n hWL (by omega) fun m5 v5 ho5 hw5 => ?_
      simp [hn, hd]
      refine hQ m5 v5 _ (hO.up.trans (Up.only ho5)) hw5 ?_ (tr_trim _) ?_
      · unfold trimL
        rw [List.length_take]
        omega
      · rw [wv_trim, hv, pw_two, Nat.mul_left_comm, ← Nat.pow_add, show 32 * k + s = c by omega]
def dsI (m : Mem) (va : Value) (a : List Nat) (bo dd : Nat) (q : Nat) (fr : Fr) (m' : Mem) : Prop := ∃ r l, q ≤ a.length ∧ fr.n = 44 ∧ fr.d = [] ∧ fr.at 0 = va ∧ fr.at 1 = .int .u32 (dd : Nat) ∧ fr.at 6 = .slice (some ⟨bo, 0, none⟩) a.length a.length ∧ fr.at 7 = .int .u64 (r : Nat) ∧ fr.at 8 = .int .i64 ((q : Int) - 1) ∧ OWn m m' bo l ∧ l.length = a.length ∧ r < dd ∧ wv (a.drop q) = dd * wv (l.drop q) + r
set_option maxHeartbeats 2000000 in
theorem divSmall_ok (n : Nat) {m : Mem} {va : Value} {a : List Nat} {dd : Nat} (hw : WF m) (ha : WL m va a) (hl : a.length < 900000) (hd0 : 0 < dd) (hd1 : dd < 4294967296) {Q : Value → Mem → Prop}
    (hQ : ∀ m' v l, Up m m' → WL m' v l → l.length ≤ a.length → Tr l → wv l = wv a / dd → Q (.tuple ⟨[v, .int .u32 ((wv a % dd : Nat) : Int)]⟩) m') :
    Gives (callN Try.prog kn1 (n + 2) 104 [va, .int .u32 (dd : Int)]) m Q := by
  refine gives_fn (nt := 44) rfl Try.func104 rfl rfl rfl (Nat.le_of_ble_eq_true rfl) fun fr hn hd hargs => ?_
  have h0 : fr.at 0 = _ := hargs 0 _ rfl
  have h1 : fr.at 1 = _ := hargs 1 _ rfl
  clear hargs
  have hwl : IntKind.i64.wrap ((a.length : Int) - 1) = (a.length : Int) - 1 := by
    by_cases h : a.length = 0
    · rw [h]; rfl
    · rw [wrap_prd a.length (by omega) (by omega)]; omega
  simp [h0, hn, ha.len]
  refine gives_makeW (by omega) ?_
  simp [hn, h0, ha.len, hwl]
  refine code_loop (dsI m va a m.next dd) a.length (by omega) ⟨0, _, Nat.le_refl _, by simp [hn], by simp [hd], by simp [h0], by simp [h1], by simp, by simp, by simp, OWn.first m a.length, by simp, hd0, by simp [wv]⟩ ?_
  clear hn hd h0 h1 hwl
  rintro q fr m' ⟨r, l, hq, hn, hd, h0, h1, h6, h7, h8, hO, hll, hr, hv⟩
  by_cases hq0 : 0 < q
  · obtain ⟨b1, o1, k1, x1, hA⟩ := (ha.up hw hO.up).rd (by omega)
    obtain ⟨i, hi⟩ : ∃ i, i = q - 1 := ⟨_, rfl⟩
    have hi' : i < a.length := by omega
    have y1 := hA.get i hi'
    have e1 := hA.at'
    rw [hA.val] at h0
    have hai := wat_lt ha.wd i
    have cv := cv32_64 _ hai
    have cvd := cv32_64 _ hd1
    have h8' : fr.at 8 = .int .i64 (i : Nat) := by rw [h8]; congr 1; omega
    have hge : (0 : Int) ≤ (i : Int) := by omega
    have hwi : IntKind.i64.wrap ((i : Int) - 1) = (i : Int) - 1 := by
      by_cases h : i = 0
      · rw [h]; rfl
      · rw [wrap_prd i (by omega) (by omega)]; omega
    obtain ⟨r1, hr1⟩ : ∃ x, x = r * 4294967296 := ⟨_, rfl⟩
    have sh1 : ∀ {P : Program} {t' : TypeId} {xo yo : Operand} {k' : IntKind}, binX P .shl t' xo yo (.int .u64 (r : Int)) (.int k' 32) = some (.int .u64 (r1 : Int)) := fun {P t' xo yo k'} => by rw [hr1]; exact bin_shl32 r (by omega)
    obtain ⟨t, ht⟩ : ∃ t, t = r1 + wat a i := ⟨_, rfl⟩
    have hor : ∀ {P : Program} {t' : TypeId} {xo yo : Operand}, binX P .or t' xo yo (.int .u64 (r1 : Int)) (.int .u64 ((wat a i : Nat) : Int)) = some (.int .u64 (t : Int)) := fun {P t' xo yo} => by
      rw [bin_or64 _ _ (by omega) (by omega), ht, hr1]
      congr 3
      exact or_add r _ 32 hai
    obtain ⟨f, hf⟩ : ∃ f, f = t / dd := ⟨_, rfl⟩
    obtain ⟨g, hg⟩ : ∃ g, g = t % dd := ⟨_, rfl⟩
    have hq1 : ∀ {P : Program} {t' : TypeId} {xo yo : Operand}, binX P .quo t' xo yo (.int .u64 (t : Int)) (.int .u64 (dd : Int)) = some (.int .u64 (f : Int)) := fun {P t' xo yo} => by rw [hf]; exact bin_quo t dd hd0 (by omega)
    have hq2 : ∀ {P : Program} {t' : TypeId} {xo yo : Operand}, binX P .rem t' xo yo (.int .u64 (t : Int)) (.int .u64 (dd : Int)) = some (.int .u64 (g : Int)) := fun {P t' xo yo} => by rw [hg]; exact bin_rem t dd hd0
    have hfB : f < 4294967296 := by
      rw [hf, ht, hr1]
      refine Nat.div_lt_of_lt_mul ?_
      have : (r + 1) * 4294967296 ≤ dd * 4294967296 := Nat.mul_le_mul_right _ hr
      omega
    have hgd : g < dd := by rw [hg]; exact Nat.mod_lt _ hd0
    have htfg : t = dd * f + g := by rw [hf, hg]; exact (Nat.div_add_mod t dd).symm
    have c32 := cv64_32 f
    rw [Nat.mod_eq_of_lt hfB] at c32
    simp [hn, h0, h1, h6, h7, h8', hge, idx_W _ _ _ _ _ _ hi', e1, y1, cv, cvd, sh1, hor, hq1, c32]
    refine storeQ_one (cs := wc l) (sz := 1) (gr := false) (by simp [hO.at']) (by simp) (cells_int _ _) (by rw [wc_len]; omega) fun m4 n4 _ e4 => ?_
    simp only [Mem.next_rd, Mem.at_rd] at n4 e4
    have hO4 := hO.set hw hfB n4 e4
    simp [hn, h1, h8', cvd, hq2, hwi]
    refine ⟨i, by omega, g, l.set i f, by omega, by simp [hn], by simp [hd], by simp [h0, hA.val], by simp [h1], by simp [h6], by simp, by simp, hO4, by simp [hll], hgd, ?_⟩
    have d1 : wv (a.drop i) = wat a i + 4294967296 * wv (a.drop (i + 1)) := wv_drop hi'
    have d2 : wv ((l.set i f).drop i) = wat (l.set i f) i + 4294967296 * wv ((l.set i f).drop (i + 1)) := wv_drop (by simp; omega)
    have d3 : (l.set i f).drop (i + 1) = l.drop (i + 1) := by rw [List.drop_set_of_lt (by omega)]
    rw [wat_set (by omega), if_pos rfl, d3] at d2
    rw [show q = i + 1 by omega] at hv
    rw [d1, d2, hv, Nat.mul_add, Nat.mul_add, Nat.mul_left_comm dd]
    omega
  · obtain rfl : q = 0 := by omega
    simp at h8 hv
    have hWL := hO.wl
    rw [hll] at hWL
    have c32 := cv64_32 r
    rw [Nat.mod_eq_of_lt (by omega)] at c32
    simp [hn, h6, h8]
    refine trim_ok n hWL (by omega) fun m5 v5 ho5 hw5 => ?_
    simp [hn, hd, h7, c32]
    have hrem : wv a % dd = r := by rw [hv, Nat.mul_add_mod]; exact Nat.mod_eq_of_lt hr
    have hquo : wv a / dd = wv l := by rw [hv, Nat.mul_add_div hd0, Nat.div_eq_of_lt hr, Nat.add_zero]
    have := hQ m5 v5 _ (hO.up.trans (Up.only ho5)) hw5 (by unfold trimL; rw [List.length_take]; omega) (tr_trim _) (by rw [wv_trim, hquo])
    rw [hrem] at this
    exact this
theorem toUint_ok (n : Nat) {m : Mem} {va : Value} {a : List Nat} (ha : WL m va a) (hl : a.length ≤ 2) {Q : Value → Mem → Prop} (hQ : ∀ m', Only m m' → Q (.int .u64 ((wv a : Nat) : Int)) m') :
    Gives (callN Try.prog kn1 (n + 1) 103 [va]) m Q := by
  refine gives_fn (nt := 22) rfl Try.func103 rfl rfl rfl (Nat.le_of_ble_eq_true rfl) fun fr hn hd hargs => ?_
  have h0 : fr.at 0 = _ := hargs 0 _ rfl
  clear hargs
  have lenA := ha.len
  match a, ha, hl, lenA with
  | [], ha, _, lenA =>
    simp at lenA
    simp [hn, hd, h0, lenA]
    exact hQ m (Only.refl m)
  | [x], ha, _, lenA =>
    obtain ⟨b1, o1, k1, x1, hA⟩ := ha.rd (by simp)
    have y1 := hA.get 0 (by simp)
    have e1 := hA.at'
    have hx : x < 4294967296 := ha.wd x (by simp)
    have cv := cv32_64 _ hx
    rw [hA.val] at h0
    have i0 := idx_W b1 o1 1 k1 0 .i64 (by omega)
    simp [wat] at y1 i0 lenA
    have hor : ∀ {P : Program} {t' : TypeId} {xo yo : Operand}, binX P .or t' xo yo (.int .u64 0) (.int .u64 (x : Int)) = some (.int .u64 (x : Int)) := fun {P t' xo yo} => by
      have := bin_or64 (P := P) (t := t') (xo := xo) (yo := yo) 0 x (by decide) (by omega)
      simpa using this
    simp [hn, hd, h0, i0, e1, y1, cv, hor]
    have := hQ _ (Only.rd' m b1)
    simpa [wv] using this
  | [x, y], ha, _, lenA =>
    obtain ⟨b1, o1, k1, x1, hA⟩ := ha.rd (by simp)
    have y0 := hA.get 0 (by simp)
    have y1 := hA.get 1 (by simp)
    have e1 := hA.at'
    have hx : x < 4294967296 := ha.wd x (by simp)
    have hy : y < 4294967296 := ha.wd y (by simp)
    have cv := cv32_64 _ hx
    have cv' := cv32_64 _ hy
    rw [hA.val] at h0
    have i0 := idx_W b1 o1 2 k1 0 .i64 (by omega)
    have i1 := idx_W b1 o1 2 k1 1 .i64 (by omega)
    simp [wat] at y0 y1 i0 i1 lenA
    obtain ⟨r1, hr1⟩ : ∃ z, z = y * 4294967296 := ⟨_, rfl⟩
    have sh1 : ∀ {P : Program} {t' : TypeId} {xo yo : Operand} {k' : IntKind}, binX P .shl t' xo yo (.int .u64 (y : Int)) (.int k' 32) = some (.int .u64 (r1 : Int)) := fun {P t' xo yo k'} => by rw [hr1]; exact bin_shl32 y hy
    obtain ⟨t, ht⟩ : ∃ t, t = r1 + x := ⟨_, rfl⟩
    have hor : ∀ {P : Program} {t' : TypeId} {xo yo : Operand}, binX P .or t' xo yo (.int .u64 (r1 : Int)) (.int .u64 (x : Int)) = some (.int .u64 (t : Int)) := fun {P t' xo yo} => by
      rw [bin_or64 _ _ (by omega) (by omega), ht, hr1]
      congr 3
      exact or_add y _ 32 hx
    simp [hn, hd, h0, i0, i1, e1, y0, y1, cv, cv', sh1, hor]
    have := hQ _ ((Only.rd' m b1).trans (Only.rd' _ b1))
    have e : wv [x, y] = t := by show x + 4294967296 * (y + 4294967296 * 0) = t; omega
    rw [e] at this
    exact this
  | _ :: _ :: _ :: _, _, hl, _ => simp at hl
end
end Go.Proofs.Ytghhanifakllpaa
