/- The program's Off, in the clean executor. -/
import Derived.Test.YtghhanifakllpaaPI
namespace Go.Proofs.Ytghhanifakllpaa
open Go.Clean

variable {known : Known}
theorem zero24 : zeroT Try.prog 24 = some (.slice none 0 0) := by kernel_rfl
theorem gives_build2 {a a' : Option Addr} {n n' c c' : Nat} {m : Mem} {Q : Value → Mem → Prop} (q : Q (.slice (some ⟨m.next, 0, none⟩) 2 2) (m.nw ⟨[.slice a n c, .slice a' n' c'], 1, false, false⟩)) : Gives (buildSliceX Try.prog 23 2 [(0, .slice a n c), (1, .slice a' n' c')]) m Q := by
  unfold buildSliceX
  simp only [under23, size24, zero24]
  rw [gives_bind, gives_guard]
  refine ⟨rfl, ?_⟩
  have hfill : fillX (fun i => some (i * 1, 1)) (repeatL (cellsV (.slice none 0 0)) 2) [(0, .slice a n c), (1, .slice a' n' c')] = some [.slice a n c, .slice a' n' c'] := rfl
  rw [hfill]
  dsimp only
  rw [gives_bind, gives_newX]
  exact ⟨by simp [oneV], (gives_ret _ _ _).2 q⟩
theorem FL.cell {m : Mem} {v : Value} {xs : List F} (h : FL m v xs) : cellsV v = [v] ∧ oneV v = true := by
  obtain ⟨a, c, rfl, _⟩ := h
  exact ⟨rfl, rfl⟩
def pairI (m : Mem) (va vx vb : Value) (l8 bl N : Nat) (xs bs : List F) (q : Nat) (fr : Fr) (m' : Mem) : Prop :=
  ∃ i, i + q = 2 ∧ fr.n = 80 ∧ fr.d = [] ∧ fr.at 0 = va ∧ fr.at 1 = vx ∧ fr.at 2 = vb ∧ fr.at 8 = .pointer (some ⟨l8, 0, none⟩) ∧ fr.at 28 = .slice (some ⟨bl, 0, none⟩) 2 2 ∧ fr.at 29 = .int .i64 2 ∧ fr.at 30 = .int .i64 (i : Nat) ∧ (0 < i → listF xs N = 0) ∧ (1 < i → listF bs N = 0) ∧ Up m m'
def rowsO (m4 : Mem) (va vx vb : Value) (rs : List (List F)) (xs bs : List F) (q : Nat) (fr : Fr) (m' : Mem) : Prop :=
  ∃ i, i + q = rs.length ∧ fr.n = 80 ∧ fr.d = [] ∧ fr.at 1 = vx ∧ fr.at 2 = vb ∧ fr.at 13 = .float .f64 (cOf (offTo fmax rs.length (MF rs) (fat xs) (fat bs) i)) ∧ fr.at 43 = va ∧ fr.at 44 = .int .i64 rs.length ∧ fr.at 45 = .int .i64 (i : Nat) ∧ Only m4 m'
def dotsO (m4 : Mem) (va vx vb vr : Value) (rs : List (List F)) (xs bs : List F) (i : Nat) (q : Nat) (fr : Fr) (m' : Mem) : Prop :=
  ∃ j, j + q = rs.length ∧ fr.n = 80 ∧ fr.d = [] ∧ fr.at 1 = vx ∧ fr.at 2 = vb ∧ fr.at 13 = .float .f64 (cOf (offTo fmax rs.length (MF rs) (fat xs) (fat bs) i)) ∧ fr.at 43 = va ∧ fr.at 44 = .int .i64 rs.length ∧ fr.at 45 = .int .i64 (i : Nat) ∧ fr.at 14 = .int .i64 (i : Nat) ∧ fr.at 16 = .float .f64 (cOf (dotTo (MF rs) (fat xs) i j)) ∧ fr.at 50 = vr ∧ fr.at 51 = .int .i64 rs.length ∧ fr.at 52 = .int .i64 (j : Nat) ∧ Only m4 m'
set_option maxHeartbeats 1000000 in
set_option maxRecDepth 10000 in
theorem off_ok (K : KP known) (n : Nat) (rs : List (List F)) (va vx vb : Value) (xs bs : List F) (m : Mem) (hw0 : WF m) (hv : FM m va rs) (hxv : FL m vx xs) (hbv : FL m vb bs) (hlen : ∀ r ∈ rs, r.length ≤ 100000) (hlen2 : rs.length ≤ 100000) (hlx : xs.length ≤ 100000) (hlb : bs.length ≤ 100000) {Q : Value → Mem → Prop}
    (hQ : ∀ m', Up m m' → Q (.tuple ⟨[.float .f64 (cOf (offFF rs xs bs).1), .int .i64 (offFF rs xs bs).2]⟩) m') :
    Gives (callN Try.prog known (n + 4) 13 [va, vx, vb]) m Q := by
  refine gives_fn (nt := 80) (K.non _ rfl _) Try.func13 rfl rfl rfl (Nat.le_of_ble_eq_true rfl) fun fr hn hd hargs => ?_
  have h0 : fr.at 0 = _ := hargs 0 _ rfl
  have h1 : fr.at 1 = _ := hargs 1 _ rfl
  have h2 : fr.at 2 = _ := hargs 2 _ rfl
  clear hargs
  obtain ⟨lz, hz, hlz, hoz⟩ := zero74
  have hoz' : ∀ x ∈ lz, oneV x = true := List.all_eq_true.1 hoz
  simp [hn]
  refine floats_ok K (n + 2) m fun m0 hu0 => ?_
  simp [hn, hz, kA]
  refine ⟨hoz', ?_⟩
  refine storeQ_rule (y := ⟨lz, 1, false, false⟩) (l := kL) (by simp) rfl (by simp [kL]) (lay_all _ _ (by rw [hlz]; rfl)) fun m1 n1 _ e1 => ?_
  simp only [Mem.next_nw, Mem.at_nw] at n1 e1
  have hu1 : Up m0 m1 := (Up.nw m0 ⟨lz, 1, false, false⟩).wr (b := m0.next) (x := ⟨kL, 1, false, false⟩) (Nat.le_refl _) (by simp) (by rw [n1]; simp) (fun c => by rw [e1]; by_cases h : c = m0.next <;> simp [h])
  have hup1 := hu0.trans hu1
  have hk1 : m1.at m0.next = some ⟨kL, 1, false, false⟩ := by rw [e1, if_pos rfl]
  have hl1 : m0.next < m1.next := by omega
  clear e1
  simp [hn, h0, h1, h2, hk1, ld74, kL, takeN]
  refine check_ok K n rs va _ ((Up.rd _ _).wf (hup1.wf hw0)) ((hv.up hw0 hup1).same fun c => by simp) hlen hlen2 fun m2 hu2 => ?_
  have hup2 : Up m m2 := hup1.trans ((Up.rd _ _).trans hu2)
  have hk2 : m2.at m0.next = some ⟨kL, 1, false, false⟩ := by rw [hu2.old _ (by simpa using hl1)]; simp [hk1, kL]
  have hl2 : m0.next < m2.next := by have := hu2.next; simp at this; omega
  clear hu2 hk1
  by_cases hc : checkF rs = 0
  · obtain ⟨p1, p2, p3⟩ := check0 hc
    simp [hn, hc, h1, h2]
    obtain ⟨xa, xc, hvx, _⟩ := id hxv
    obtain ⟨ya, yc, hvb, _⟩ := id hbv
    rw [hvx, hvb]
    refine gives_build2 ?_
    rw [← hvx, ← hvb]
    simp [hn]
    have hupS : Up m (m2.nw ⟨[vx, vb], 1, false, false⟩) := hup2.trans (Up.nw _ _)
    refine code_loop (pairI (m2.nw ⟨[vx, vb], 1, false, false⟩) va vx vb m0.next m2.next rs.length xs bs) 2 (by omega) ⟨0, by simp, by simp [hn], by simp [hd], by simp [h0], by simp [h1], by simp [h2], by simp, by simp, by simp, by simp, fun h => absurd h (by omega), fun h => absurd h (by omega), Up.refl _⟩ ?_
    rintro q fr1 m3 ⟨i, hiq, f1, f2, f00, f01, f02, f8, f28, f29, f30, hx0, hb0, hu3⟩
    have hup3 := hupS.trans hu3
    have hk3 : m3.at m0.next = some ⟨kL, 1, false, false⟩ := by rw [hu3.old _ (by simp; omega)]; simp [hk2]; intro h; omega
    have hbl3 : m3.at m2.next = some ⟨[vx, vb], 1, false, false⟩ := by rw [hu3.old _ (by simp)]; simp
    obtain ⟨aa, ac, hva, _⟩ := id hv
    have hw3 := hup3.wf hw0
    by_cases hi : i < 2
    · have hii : ((i : Nat) : Int) < 2 := by omega
      have hwi := wrap_succ i (by omega)
      obtain ⟨ys, vy, hy, hyl, hyc, hy1, hy2⟩ : ∃ ys vy, FL m vy ys ∧ ys.length ≤ 100000 ∧ ([vx, vb] : List Value)[i]? = some vy ∧ (listF ys rs.length ≠ 0 → offFF rs xs bs = (fzero, listF ys rs.length)) ∧ (listF ys rs.length = 0 → (0 < i + 1 → listF xs rs.length = 0) ∧ (1 < i + 1 → listF bs rs.length = 0)) := by
        rcases (show i = 0 ∨ i = 1 by omega) with rfl | rfl
        · exact ⟨xs, vx, hxv, hlx, rfl, fun h => by unfold offFF; simp [hc, h], fun h => ⟨fun _ => h, fun h => absurd h (by omega)⟩⟩
        · exact ⟨bs, vb, hbv, hlb, rfl, fun h => by unfold offFF; simp [hc, h, hx0 (by omega)], fun h => ⟨fun _ => hx0 (by omega), fun _ => h⟩⟩
      simp [f1, f00, f8, f28, f29, f30, hii, idx23 _ _ _ _ _ _ hi, hbl3, hyc, hk3, ld74, kL, takeN, hva]
      refine beside_ok K (n + 1) ys vy rs.length _ ((Up.trans (Up.rd _ _) (Up.rd _ _)).wf hw3) ((hy.up hw0 hup3).same fun c => by simp) hyl fun m4 hu4 => ?_
      have hu4' : Up m3 m4 := (Up.trans (Up.rd _ _) (Up.rd _ _)).trans hu4
      by_cases hl : listF ys rs.length = 0
      · simp [f1, f30, hl, hwi]
        exact ⟨q - 1, by omega, i + 1, by omega, by simp [f1], by simp [f2], by simp [f00, hva], by simp [f01], by simp [f02], by simp [f8], by simp [f28], by simp [f29], by simp, (hy2 hl).1, (hy2 hl).2, hu3.trans hu4'⟩
      · rw [hy1 hl, cOf_zero] at hQ
        simp [f1, f2, hl]
        exact hQ _ (hup3.trans hu4')
    · have hi' : i = 2 := by omega
      subst hi'
      have hlx0 := hx0 (by omega)
      have hlb0 := hb0 (by omega)
      have p4 := list0 hlx0
      have p5 := list0 hlb0
      obtain ⟨ab, ao, ax, ac, rfl, hab, hac⟩ := (hv.up hw0 hup3).get p1
      obtain ⟨xb, xo, xx, xc, rfl, hxb, hxc⟩ := (hxv.up hw0 hup3).get (by omega)
      obtain ⟨bb, bo, bx, bc, rfl, hbb, hbc⟩ := (hbv.up hw0 hup3).get (by omega)
      simp [f1, f00, f29, f30]
      refine code_loop (rowsO m3 _ _ _ rs xs bs) rs.length (by omega) ⟨0, by simp, by simp [f1], by simp [f2], by simp [f01]; rfl, by simp [f02]; rfl, by simp [offTo, cOf_zero], by simp; rfl, by simp, by simp, .refl _⟩ ?_
      rintro q2 fr2 m4 ⟨i, hiq, g1, g2, g01, g02, g13, g43, g44, g45, ho4⟩
      by_cases hi : i < rs.length
      · obtain ⟨u, hu, hfl⟩ := hac i hi
        have hri := p3 i hi
        obtain ⟨ub, uo, ux, uc, rfl, hub, huc⟩ := hfl.get (by omega)
        have hab4 : m4.at ab = some ax := by rw [ho4.2]; exact hab
        simp [g1, g43, g44, g45, hi, idx23 _ _ _ _ _ _ hi, hab4, hu, hri]
        refine code_loop (dotsO m4 _ _ _ (.slice (some ⟨ub, uo, none⟩) rs.length uc) rs xs bs i) rs.length (by omega) ⟨0, by simp, by simp [g1], by simp [g2], by simp [g01]; rfl, by simp [g02]; rfl, by simp [g13], by simp [g43]; rfl, by simp [g44], by simp [g45], by simp, by simp [dotTo, cOf_zero], by simp, by simp, by simp, ⟨rfl, fun _ => rfl⟩⟩ ?_
        rintro q3 fr3 m5 ⟨j, hjq, k1, k2, k01, k02, k13, k43, k44, k45, k14, k16, k50, k51, k52, ho5⟩
        have hoall := ho4.trans ho5
        have hxb5 : m5.at xb = some xx := by rw [hoall.2]; exact hxb
        have hbb5 : m5.at bb = some bx := by rw [hoall.2]; exact hbb
        have hub5 : m5.at ub = some ux := by rw [hoall.2]; exact hub
        have hwi := wrap_succ i (by omega)
        by_cases hj : j < rs.length
        · have huj := huc j (by omega)
          have hxj := hxc j (by omega)
          have hwj := wrap_succ j (by omega)
          simp [k1, k01, k16, k50, k51, k52, hj, idx24 _ _ _ _ _ _ hj, idx24 _ _ _ _ _ _ (show j < xs.length by omega), hub5, huj, hxb5, hxj, hwj]
          exact ⟨q3 - 1, by omega, j + 1, by omega, by simp [k1], by simp [k2], by simp [k01], by simp [k02], by simp [k13], by simp [k43], by simp [k44], by simp [k45], by simp [k14], by simp [dotTo, MF], by simp [k50], by simp [k51], by simp, ho5.trans ⟨rfl, fun _ => rfl⟩⟩
        · have hjN : j = rs.length := by omega
          subst hjN
          have hbi := hbc i (by omega)
          simp [k1, k02, k13, k14, k16, k45, k51, k52, hbb5, hbi, idx24 _ _ _ _ _ _ (show i < bs.length by omega), gives_abs K, gives_known (K.kn.max _ _), gives_ret, hwi]
          exact ⟨q2 - 1, by omega, i + 1, by omega, by simp [k1], by simp [k2], by simp [k01], by simp [k02], by simp [offTo], by simp [k43], by simp [k44], by simp, (ho4.trans ho5).trans ⟨rfl, fun _ => rfl⟩⟩
      · have hi' : i = rs.length := by omega
        subst hi'
        cases hf : ffin (offTo fmax rs.length (MF rs) (fat xs) (fat bs) rs.length) with
        | true =>
          have hF : offFF rs xs bs = (offTo fmax rs.length (MF rs) (fat xs) (fat bs) rs.length, 0) := by unfold offFF; simp [hc, hlx0, hlb0, hf]
          rw [hF] at hQ
          simp [g1, g2, g13, g44, g45, gives_fin2 K, hf]
          exact hQ _ (hup3.trans (Up.only ho4))
        | false =>
          have hF : offFF rs xs bs = (fzero, 6) := by unfold offFF; simp [hc, hlx0, hlb0, hf]
          rw [hF, cOf_zero] at hQ
          simp [g1, g2, g13, g44, g45, gives_fin2 K, hf]
          exact hQ _ (hup3.trans (Up.only ho4))
  · simp [hn, hd, hc]
    have hF : offFF rs xs bs = (fzero, checkF rs) := by unfold offFF; rw [if_pos hc]
    rw [hF, cOf_zero] at hQ
    exact hQ m2 hup2
end Go.Proofs.Ytghhanifakllpaa
