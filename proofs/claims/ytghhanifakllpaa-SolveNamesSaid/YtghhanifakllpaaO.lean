/- package solve over float64: Det. -/
import Derived.Test.YtghhanifakllpaaK
namespace Go.Proofs.Ytghhanifakllpaa
open Go.RowKit

@[go_sem] theorem run_unary_neg_f64 (P : Program) (w : World) (b : Nat) : (Op.unary .neg (.float .f64 b)).run P w = .ok (.float .f64 (b ^^^ 9223372036854775808)) w := by
  have h : Op.unary .neg (.float .f64 b) = pure (.float .f64 (b ^^^ 9223372036854775808)) := rfl
  rw [h]
  simp
theorem W64_neg {b : Nat} (h : W64 b) : W64 (b ^^^ 9223372036854775808) := by
  unfold W64 at *
  exact Nat.xor_lt_two_pow (n := 64) (by omega) (by omega)
theorem goS_len (n : Nat) : ∀ (k c : Nat) (s : Sys), s.piv.length = s.odd.length → (goS n k c s).1.piv.length = (goS n k c s).1.odd.length ∧ s.piv.length + (if k = 0 then 0 else 1) ≤ (goS n k c s).1.piv.length ∧ (goS n k c s).1.piv.length ≤ s.piv.length + k
  | 0, c, s, h => ⟨h, Nat.le_refl _, Nat.le_refl _⟩
  | k + 1, c, s, h => by
    unfold goS
    split
    · simp [noteS, h]
    · have ih := goS_len n k (c + 1) (stepS n c s) (by simp [stepS, noteS, h])
      have hl : (stepS n c s).piv.length = s.piv.length + 1 := by simp [stepS, noteS]
      refine ⟨ih.1, ?_, ?_⟩
      · have := ih.2.1
        rw [hl] at this
        rw [if_neg (Nat.succ_ne_zero k)]
        omega
      · have := ih.2.2
        rw [hl] at this
        omega
theorem steps_len (n : Nat) (M : Mx) (hn : 0 < n) : (stepsS n M).1.piv.length = (stepsS n M).1.odd.length ∧ 0 < (stepsS n M).1.piv.length ∧ (stepsS n M).1.piv.length ≤ n := by
  have h := goS_len n n 0 (startS M) rfl
  have e : (startS M).piv.length = 0 := rfl
  rw [e, if_neg (by omega)] at h
  unfold stepsS
  exact ⟨h.1, by omega, by omega⟩
/-- Det's answer, or what is wrong. -/
def detA (rows : List (List Nat)) : F × Int :=
  if checkF (bitsF rows) ≠ 0 then (fzero, checkF (bitsF rows))
  else match detF rows.length (M0 rows fun _ => 0) with
    | none => (fzero, 6)
    | some d => (d, 0)
def DetPost (x : F × Int) (w : World) (e : Ending) (w' : World) : Prop :=
  ∃ r, e = .returned (.tuple #[.float .f64 r, .int .i64 x.2]) ∧ Below w.heap.size w w' ∧ W64 r ∧ fl r = x.1
/-- The places from k on, of a list of pivots and one of signs. -/
theorem detGo_step (ps : List F) (os : List Bool) (k : Nat) (d : F) (h1 : k < ps.length) (h2 : k < os.length) :
    detGo (ps.drop k) (os.drop k) d = if feq (ps.getD k none) fzero then none else detGo (ps.drop (k + 1)) (os.drop (k + 1)) (if os.getD k false then fneg (fmul d (ps.getD k none)) else fmul d (ps.getD k none)) := by
  rw [List.drop_eq_getElem_cons h1, List.drop_eq_getElem_cons h2, detGo]
  simp [List.getD, h1, h2]
theorem detGo_end (ps : List F) (os : List Bool) (d : F) : detGo (ps.drop ps.length) os d = some d := by
  rw [List.drop_length]
  cases os <;> rfl

set_option maxRecDepth 100000 in
set_option maxHeartbeats 20000000 in
theorem det_any (v : Value) (rows : List (List Nat)) (w : World) (hv : Mat w v rows) (hn : rows.length ≤ 1000000) (hm : ∀ r ∈ rows, r.length ≤ 1000000) :
    Calls Try.prog 10 #[v] w (DetPost (detA rows) w) := by
  have HV := Lib.hid hv
  have HN := Lib.hid hn
  have HM := Lib.hid hm
  clear hn hm
  obtain ⟨ch, hch⟩ : ∃ ch, checkF (bitsF rows) = ch := ⟨_, rfl⟩
  have HCH := Lib.hid hch
  by_cases h0 : ch = 0
  · subst h0
    have hz := checkF_zero hch
    have HZ := Lib.hid hz
    obtain ⟨n, hnr⟩ : ∃ n, rows.length = n := ⟨_, rfl⟩
    have hn0 : 0 < n := by omega
    obtain ⟨a, m, ac, rfl, hm, hcs⟩ := hv
    obtain ⟨ab, aoff, rfl, _⟩ := hcs.resolve_left (by omega)
    obtain rfl : n = m := by omega
    have HNR := Lib.hid hnr
    clear hch hz hcs hm hnr
    go_enter Try.func10, Try.ntmps10
    go_wp2_with fail
    refine (floats_any _).mono ?_
    rintro e w1 ⟨rfl, hb1⟩
    go_wp2_with fail
    refine (check_any _ rows _ (HV.out.below hb1) HN.out HM.out).mono ?_
    rw [HCH.out]
    rintro e w2 ⟨rfl, hb2⟩
    go_wp2_with fail
    refine (floats_any _).mono ?_
    rintro e w3 ⟨rfl, hb3⟩
    have HV3 := Lib.hid (((HV.out.below hb1).below hb2).below hb3)
    go_wp2_with fail
    refine (steps_any ab aoff n ac rows (fun _ => 0) _ _ (by have := HZ.out.2.1; have := HNR.out; omega) hn0 (HV3.out.rows hn0 (by have h := HZ.out.2.2; rw [HNR.out] at h; exact h)) (by rw [← HNR.out]; exact HV3.out.words) (fun _ _ => by unfold W64; decide) (.inl ⟨rfl, fun _ _ => rfl⟩)).mono ?_
    rintro e w4 ⟨R, rv, fv, pv, ov, rfl, hb4, hs4⟩
    have hlen := steps_len n (M0 rows fun _ => 0) hn0
    obtain ⟨st, hst⟩ : ∃ st, stepsS n (M0 rows fun _ => 0) = st := ⟨_, rfl⟩
    obtain ⟨S, ok⟩ := st
    rw [hst] at hs4 hlen ⊢
    dsimp only at hlen
    have HST := Lib.hid hst
    obtain ⟨gr, cr, rfl, _, _⟩ := owns_form hs4.ownR hn0
    obtain ⟨gf, cf, rfl, _, _⟩ := owns_form hs4.ownF hn0
    obtain ⟨pb, hpw, hpf, hpo⟩ := hs4.ownP
    have hoo := hs4.ownO
    obtain ⟨L, hL⟩ : ∃ L, pb.length = L := ⟨_, rfl⟩
    have hpl : S.piv.length = L := by rw [← hpf, List.length_map]; exact hL
    have hol : S.odd.length = L := by rw [← hlen.1]; exact hpl
    have hL0 : 0 < L := by have := hlen.2.1; omega
    have hLn : L ≤ 128 := by have := hlen.2.2; have := HZ.out.2.1; have := HNR.out; omega
    rw [hL] at hpo
    rw [hol] at hoo
    obtain ⟨gp, cp, rfl, _, hcp⟩ := owns_form hpo hL0
    obtain ⟨gq, co, rfl, _, hco⟩ := owns_form hoo hL0
    have HPF : Hid (∀ k, k < L → ∃ b, w4.cell? ⟨gp, k, none⟩ = some (.float .f64 b) ∧ W64 b ∧ fl b = S.piv.getD k none) := fun k hk => by
      refine ⟨pb.getD k 0, ?_, W_getD hpw (by omega), ?_⟩
      · rw [hpo.cellAt k (by omega)]
        simp [flV, List.getD, show k < pb.length by omega]
      · rw [← hpf]
        simp [List.getD, show k < pb.length by omega]
    have HOF : Hid (∀ k, k < L → w4.cell? ⟨gq, k, none⟩ = some (.bool (S.odd.getD k false))) := fun k hk => by
      rw [hoo.cellAt k (by omega)]
      simp [List.getD, show k < S.odd.length by omega]
    have HGS : Hid (∀ k d, k < L → detGo (S.piv.drop k) (S.odd.drop k) d = if feq (S.piv.getD k none) fzero then none else detGo (S.piv.drop (k + 1)) (S.odd.drop (k + 1)) (if S.odd.getD k false then fneg (fmul d (S.piv.getD k none)) else fmul d (S.piv.getD k none))) := fun k d hk => detGo_step _ _ k d (by omega) (by omega)
    have HGE : Hid (∀ d, detGo (S.piv.drop L) (S.odd.drop L) d = some d) := fun d => by rw [← hpl]; exact detGo_end _ _ d
    have HB : Hid (Below w.heap.size w w4) := ((hb1.trans (hb2.mono hb1.size)).trans (hb3.mono (Nat.le_trans hb1.size hb2.size))).trans (hb4.mono (Nat.le_trans (Nat.le_trans hb1.size hb2.size) hb3.size))
    clear hs4 hb1 hb2 hb3 hb4 hpo hoo hpf hpw hpl hol hlen hL hst
    obtain ⟨w5, hw5⟩ : ∃ w5, w5 = w4.alloc (.cells #[.slice (some ⟨gr, 0, none⟩) n cr, .slice (some ⟨gf, 0, none⟩) n cf, .slice (some ⟨gp, 0, none⟩) L cp, .slice (some ⟨gq, 0, none⟩) L co] 79) := ⟨_, rfl⟩
    have h45 : Below w4.heap.size w4 w5 := by rw [hw5]; exact (Below.refl _ _).alloc (Nat.le_refl _) _
    go_upto_region 5 with fail
    rw [← hw5]
    have HWQ := Lib.hid hw5
    clear hw5
    have HB5 : Hid (Below w.heap.size w w5) := HB.out.trans (h45.mono HB.out.size)
    have HS5 : Hid (w5.cell? ⟨w4.heap.size, 2, none⟩ = some (.slice (some ⟨gp, 0, none⟩) L cp) ∧ w5.cell? ⟨w4.heap.size, 3, none⟩ = some (.slice (some ⟨gq, 0, none⟩) L co)) := by
      unfold Hid
      rw [HWQ.out]
      constructor <;> (unfold World.cell?; rw [show (w4.alloc (.cells #[.slice (some ⟨gr, 0, none⟩) n cr, .slice (some ⟨gf, 0, none⟩) n cf, .slice (some ⟨gp, 0, none⟩) L cp, .slice (some ⟨gq, 0, none⟩) L co] 79)).heap[w4.heap.size]? = _ from heap_alloc_new w4 _]; rfl)
    have HP5 : Hid (∀ k, k < L → ∃ b, w5.cell? ⟨gp, k, none⟩ = some (.float .f64 b) ∧ W64 b ∧ fl b = S.piv.getD k none) := fun k hk => by
      obtain ⟨b, h1, h2⟩ := HPF.out k hk
      exact ⟨b, (h45.cell (p := ⟨gp, k, none⟩) (World.block_lt_of_cell? _ _ h1)).trans h1, h2⟩
    have HO5 : Hid (∀ k, k < L → w5.cell? ⟨gq, k, none⟩ = some (.bool (S.odd.getD k false))) := fun k hk => by
      have h1 := HOF.out k hk
      exact (h45.cell (p := ⟨gq, k, none⟩) (World.block_lt_of_cell? _ _ h1)).trans h1
    obtain ⟨s2, s3⟩ := HS5.out
    clear HWQ h45 HPF HOF HB HV3
    go_wp2_with fail
    go_loopw [7, 25] (fun d i wr => ∃ k b m : Nat, k ≤ L ∧ i = .int .i64 k ∧ d = .float .f64 b ∧ W64 b ∧ Hid (detGo (S.piv.drop k) (S.odd.drop k) (fl b) = detGo S.piv S.odd fone) ∧ wr = w5.drewN m) (fun _ i _ => L - (intOf i).toNat)
    case atStart => exact ⟨0, _, 0, Nat.zero_le _, rfl, rfl, by unfold W64; decide, rfl, rfl⟩
    case round =>
      obtain ⟨k, b, m, hk, rfl, rfl, hwb, hd, rfl⟩ := hrel
      by_cases hlt : k < L
      · obtain ⟨x, c1, hwx, hfx⟩ := HP5.out k hlt
        have c2 := HO5.out k hlt
        have hgs := HGS.out k (fl b) hlt
        rw [← hfx] at hgs
        obtain ⟨r, mr, hrun, hwr, hfr⟩ := farith .mul (by simp) 25 b x (w5.drewN m)
        have HWR := Lib.hid hwr
        have HFR : Hid (fl r = fmul (fl b) (fl x)) := hfr
        obtain ⟨od, hod⟩ : ∃ od, S.odd.getD k false = od := ⟨_, rfl⟩
        rw [hod] at c2 hgs
        have HGK := Lib.hid hgs
        have HD := hd
        have j1 : (0 : Int) ≤ (k : Int) := by omega
        have j2 : (k : Int) < (L : Int) := by omega
        clear hgs hfx hwr hfr hod hd
        cases hz : (FloatKind.f64.format.order x 0 == some Ordering.eq)
        · cases od
          · have hz2 : feq (fl x) fzero = false := by rw [feq0_bits rfl]; exact hz
            have HDN : Hid (detGo (S.piv.drop (k + 1)) (S.odd.drop (k + 1)) (fl r) = detGo S.piv S.odd fone) := by
              have h := HGK.out
              rw [hz2] at h
              unfold Hid
              rw [← HD.out, h, HFR.out]; rfl
            clear hz2 HGK HD
            go_wp2_with fail
            go_roundw
            case rel => exact ⟨k + 1, r, m + mr, by omega, by go_num, rfl, HWR.out, HDN.out, rfl⟩
            case measure => simp [intOf]; omega
          · have hz2 : feq (fl x) fzero = false := by rw [feq0_bits rfl]; exact hz
            have HDN : Hid (detGo (S.piv.drop (k + 1)) (S.odd.drop (k + 1)) (fl (r ^^^ 9223372036854775808)) = detGo S.piv S.odd fone) := by
              have h := HGK.out
              rw [hz2] at h
              unfold Hid
              rw [← HD.out, h, fneg_bits, HFR.out]; rfl
            have HWN : Hid (W64 (r ^^^ 9223372036854775808)) := W64_neg HWR.out
            clear hz2 HGK HD
            go_wp2_with fail
            go_roundw
            case rel => exact ⟨k + 1, _, m + mr, by omega, by go_num, rfl, HWN.out, HDN.out, rfl⟩
            case measure => simp [intOf]; omega
        · have hz2 : feq (fl x) fzero = true := by rw [feq0_bits rfl]; exact hz
          have HP : Hid (detA rows = (fzero, 0)) := by
            have h := HGK.out
            rw [hz2, HD.out, if_pos rfl] at h
            unfold Hid detA detF
            rw [HCH.out, HNR.out, HST.out]
            dsimp only
            rw [h]; rfl
          clear hz2 HGK HD
          go_wp2_with fail
          go_ret2
          exact ⟨0, by rw [HP.out]; rfl, HB5.out.trans ((Keep.drewN w5 m).below HB5.out.size fun _ _ h => h), by unfold W64; decide, by rw [HP.out]; show fl 0 = fzero; decide⟩
      · obtain rfl : L = k := by omega
        have HE : Hid (detGo S.piv S.odd fone = some (fl b)) := by unfold Hid; rw [← hd.out]; exact HGE.out _
        have HK := Lib.hid ((Keep.drewN w5 m).below HB5.out.size fun _ _ h => h)
        have HPA : Hid (ok = false → detA rows = (fzero, 6)) := fun h => by
          subst h
          unfold detA detF
          rw [HCH.out, HNR.out, HST.out]
          dsimp only
          rw [HE.out]; rfl
        have HPB : Hid (ok = true → detA rows = if finB b then (fl b, 0) else (fzero, 6)) := fun h => by
          subst h
          unfold detA detF
          rw [HCH.out, HNR.out, HST.out]
          dsimp only
          rw [HE.out, finB_eq]
          cases hff : ffin (fl b) <;> simp [hff]
        have HWB := Lib.hid hwb
        clear hd hwb HE HGE HGS HP5 HO5
        cases ok
        · have HP := Lib.hid (HPA.out rfl)
          clear HPA HPB
          go_wp2_with (go_at_call 43; refine (finite_any _ _ HWB.out).mono ?_; rintro e w' ⟨rfl, rfl⟩)
          go_ret2
          exact ⟨0, by rw [HP.out]; rfl, HB5.out.trans HK.out, by unfold W64; decide, by rw [HP.out]; show fl 0 = fzero; decide⟩
        · have hP := HPB.out rfl
          cases hfin : finB b
          · rw [hfin] at hP
            have HP := Lib.hid hP
            clear HPA HPB hP
            go_wp2_with (go_at_call 43; refine (finite_any _ _ HWB.out).mono ?_; rintro e w' ⟨rfl, rfl⟩)
            go_ret2
            exact ⟨0, by rw [HP.out]; rfl, HB5.out.trans HK.out, by unfold W64; decide, by rw [HP.out]; show fl 0 = fzero; decide⟩
          · rw [hfin] at hP
            have HP := Lib.hid hP
            clear HPA HPB hP
            go_wp2_with (go_at_call 43; refine (finite_any _ _ HWB.out).mono ?_; rintro e w' ⟨rfl, rfl⟩)
            go_ret2
            exact ⟨b, by rw [HP.out]; rfl, HB5.out.trans HK.out, HWB.out, by rw [HP.out]; rfl⟩
  · clear hv
    obtain ⟨a, m, ac, rfl, _⟩ := id HV.out
    have HP : Hid (detA rows = (fzero, ch)) := by unfold Hid detA; rw [HCH.out, if_pos h0]
    have hne : (ch != 0) = true := by rw [bne_iff_ne]; exact h0
    go_enter Try.func10, Try.ntmps10
    go_wp2_with fail
    refine (floats_any _).mono ?_
    rintro e w1 ⟨rfl, hb1⟩
    go_wp2_with fail
    refine (check_any _ rows _ (HV.out.below hb1) HN.out HM.out).mono ?_
    rw [HCH.out]
    rintro e w2 ⟨rfl, hb2⟩
    go_wp2_with fail
    go_ret2
    exact ⟨0, by rw [HP.out]; rfl, hb1.trans (hb2.mono hb1.size), by unfold W64; decide, by rw [HP.out]; show fl 0 = fzero; decide⟩
end Go.Proofs.Ytghhanifakllpaa
