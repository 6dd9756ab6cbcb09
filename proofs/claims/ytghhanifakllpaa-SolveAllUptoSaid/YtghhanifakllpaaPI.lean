/- The program's Solve, Pivots, Det, in the clean executor. -/
import Derived.Test.YtghhanifakllpaaPH
namespace Go.Proofs.Ytghhanifakllpaa
open Go.Clean

variable {known : Known}
set_option maxRecDepth 10000 in
theorem solve_ok (K : KP known) (n : Nat) (rs : List (List F)) (va vb : Value) (bs : List F) (m : Mem) (hw0 : WF m) (hv : FM m va rs) (hbv : FL m vb bs) (hlen : ∀ r ∈ rs, r.length ≤ 100000) (hlen2 : rs.length ≤ 100000) (hlb : bs.length ≤ 100000) {Q : Value → Mem → Prop}
    (hQ : ∀ m' v, Up m m' → OwnF m' m.next v (solveFF rs bs).1 → Q (.tuple ⟨[v, .int .i64 (solveFF rs bs).2]⟩) m') :
    Gives (callN Try.prog known (n + 5) 8 [va, vb]) m Q := by
  refine gives_fn (nt := 12) (K.non _ rfl _) Try.func8 rfl rfl rfl (Nat.le_of_ble_eq_true rfl) fun fr hn hd hargs => ?_
  have h0 : fr.at 0 = _ := hargs 0 _ rfl
  have h1 : fr.at 1 = _ := hargs 1 _ rfl
  clear hargs
  simp [hn]
  refine floats_ok K (n + 3) m fun m1 hu1 => ?_
  simp [h0, h1, hn]
  refine solved_ok K n rs va vb bs m1 (hu1.wf hw0) (hv.up hw0 hu1) (hbv.up hw0 hu1) hlen hlen2 hlb fun m2 v hu2 hown => ?_
  simp [hn, hd, extractX]
  refine hQ m2 v (hu1.trans hu2) ?_
  rcases hown with h | ⟨b, h0, h1, h2, h3⟩
  · exact .inl h
  · exact .inr ⟨b, h0, h1, by have := hu1.next; omega, h3⟩

/-- A list of whole numbers of one's own, made behind b0; its block may grow. -/
def OwnI (m : Mem) (b0 : Nat) (v : Value) (xs : List Nat) : Prop := (xs = [] ∧ v = nilV) ∨ ∃ b, 0 < xs.length ∧ v = lst b xs.length ∧ b0 ≤ b ∧ m.at b = some ⟨xs.map fun (k : Nat) => Value.int .i64 k, 1, true, false⟩
theorem OwnI.il {m : Mem} {b0 : Nat} {v : Value} {xs : List Nat} (h : OwnI m b0 v xs) : IL m v xs := by
  rcases h with ⟨rfl, rfl⟩ | ⟨b, h0, rfl, h1, h2⟩
  · exact IL.nil _
  · exact ⟨_, _, rfl, .inr ⟨b, 0, _, rfl, h2, fun i hi => by rw [Nat.zero_add]; simp [List.getD, hi]⟩⟩
theorem OwnI.up {m m' : Mem} {b0 : Nat} {v : Value} {xs : List Nat} (h : OwnI m b0 v xs) (hw : WF m) (u : Up m m') : OwnI m' b0 v xs := by
  rcases h with h | ⟨b, h0, h1, h2, h3⟩
  · exact .inl h
  · exact .inr ⟨b, h0, h1, h2, u.at h3 hw⟩
theorem ints_of {N : Nat} {cs : List Value} {g : Nat → Nat} (h1 : cs.length = N) (h2 : ∀ j, j < N → cs[j]? = some (.int .i64 (g j : Nat))) : cs = ((List.range N).map g).map fun (k : Nat) => Value.int .i64 k := by
  refine List.ext_getElem? fun j => ?_
  by_cases hj : j < N
  · rw [h2 j hj]; simp [hj]
  · rw [List.getElem?_eq_none (by omega), List.getElem?_eq_none (by simp; omega)]
set_option maxHeartbeats 400000 in
set_option maxRecDepth 10000 in
theorem pivots_ok (K : KP known) (n : Nat) (rs : List (List F)) (va : Value) (m : Mem) (hw0 : WF m) (hv : FM m va rs) (hlen : ∀ r ∈ rs, r.length ≤ 100000) (hlen2 : rs.length ≤ 100000) {Q : Value → Mem → Prop}
    (hQ : ∀ m' v, Up m m' → OwnI m' m.next v (pivotsFF rs).1 → Q (.tuple ⟨[v, .int .i64 (pivotsFF rs).2]⟩) m') :
    Gives (callN Try.prog known (n + 4) 9 [va]) m Q := by
  refine gives_fn (nt := 23) (K.non _ rfl _) Try.func9 rfl rfl rfl (Nat.le_of_ble_eq_true rfl) fun fr hn hd hargs => ?_
  have h0 : fr.at 0 = _ := hargs 0 _ rfl
  clear hargs
  simp [hn]
  refine floats_ok K (n + 2) m fun m0 hu0 => ?_
  have hw0' := hu0.wf hw0
  simp [h0, hn]
  refine check_ok K n rs va _ hw0' (hv.up hw0 hu0) hlen hlen2 fun m1' hu1' => ?_
  have hup1' := hu0.trans hu1'
  by_cases hc : checkF rs = 0
  · obtain ⟨p1, p2, p3⟩ := check0 hc
    simp [hn, hc, h0]
    refine floats_ok K (n + 2) m1' fun m1 hu1 => ?_
    have hup1 := hup1'.trans hu1
    have hw1 := hup1.wf hw0
    simp [hn, h0]
    refine steps_ok K (n + 1) rs va _ [] m1 hw1 (hv.up hw0 hup1) (.inl ⟨rfl, rfl⟩) p3 p1 p2 (M := M0F rs []) (fun i j hi hj => M0F_in (by rw [p3 i hi]; exact hj)) (fun i hi => by rw [M0F_rhs (p3 i hi), if_neg (by simp; omega)]; rfl) fun m3 kd s8 v l ρ rw hold hL hC => ?_
    have hs8' := hL.own.2
    have hs8'' := hL.wf _ _ hL.cell
    simp [hn, oneV, nilV, extractX]
    refine storeQ_rule (y := ⟨[nilV, nilV, nilV, nilV], 1, false, false⟩) (by simp [nilV]) rfl (by simp [oneV_p hL]) (lay4 _ _ _ _ _ _ _ _) fun m4 n4 _ e4 => ?_
    simp only [Mem.next_nw, Mem.at_nw] at n4 e4
    have hw4 : WF m4 := fun c x hc => by
      rw [n4]
      rw [e4] at hc
      by_cases h : c = m3.next
      · omega
      · rw [if_neg h, if_neg h] at hc
        have := hL.wf c x hc; omega
    have o4 : ∀ c, c < m3.next → m4.at c = m3.at c := fun c hc => by rw [e4, if_neg (by omega), if_neg (by omega)]
    have hL4 := hL.above hw4 o4
    have hs4 : m4.at m3.next = some ⟨[v 1, v 2, v 3, v 4], 1, false, false⟩ := by rw [e4, if_pos rfl]
    have hup4 : Up m m4 := hup1.trans ⟨by omega, fun c hc => by rw [o4 c (by omega), hold c hc], fun _ => hw4⟩
    clear e4
    cases hok : (stepsS rs.length (M0F rs [])).2 with
    | false =>
      have hF : pivotsFF rs = ([], 141) := by
        unfold pivotsFF
        rw [if_neg (by simp [hc]), hok]
        rfl
      rw [hF] at hQ
      simp [hn, hd]
      exact hQ m4 _ hup4 (.inl ⟨rfl, rfl⟩)
    | true =>
      have hF : pivotsFF rs = ((List.range rs.length).map (stepsS rs.length (M0F rs [])).1.first, 0) := by
        unfold pivotsFF
        rw [if_neg (by simp [hc]), hok]
        rfl
      rw [hF] at hQ
      obtain ⟨bR, hv3, _, hbb, hbR⟩ := hL4.blk (k := 2) (by omega) (by omega) (by rw [hC.ord.1]; omega)
      rw [hC.ord.1] at hv3
      simp [hn, hd, hs4]
      refine hQ _ _ (hup4.trans (Up.only ⟨rfl, fun _ => rfl⟩)) (.inr ⟨bR, by simpa using p1, by simp [hv3], by have := hup1.next; omega, ?_⟩)
      simp only [Mem.at_rd]
      rw [hbR, ints_of (g := (stepsS rs.length (M0F rs [])).1.first) hC.ord.1 hC.ord.2]
  · simp [hn, hd, hc]
    have hF : pivotsFF rs = ([], checkF rs) := by unfold pivotsFF; rw [if_pos hc]
    rw [hF] at hQ
    exact hQ m1' _ hup1' (.inl ⟨rfl, rfl⟩)

/-! ### Det -/
def dutI (m4 : Mem) (s7 : Nat) (pv : Value) (ps : List F) (os : List Bool) (q : Nat) (fr : Fr) (m' : Mem) : Prop :=
  ∃ i d, i + q = ps.length ∧ fr.n = 51 ∧ fr.d = [] ∧ fr.at 5 = .pointer (some ⟨s7, 0, none⟩) ∧ fr.at 6 = .bool true ∧ fr.at 7 = .float .f64 (cOf d) ∧ fr.at 23 = pv ∧ fr.at 24 = .int .i64 ps.length ∧ fr.at 25 = .int .i64 (i : Nat) ∧ Only m4 m' ∧ detGo ps os fone = detGo (ps.drop i) (os.drop i) d
def dutI' (m4 : Mem) (s7 : Nat) (ok : Bool) (pv : Value) (ps : List F) (os : List Bool) (q : Nat) (fr : Fr) (m' : Mem) : Prop :=
  ∃ i d, i + q = ps.length ∧ fr.n = 51 ∧ fr.d = [] ∧ fr.at 5 = .pointer (some ⟨s7, 0, none⟩) ∧ fr.at 6 = .bool ok ∧ fr.at 7 = .float .f64 (cOf d) ∧ fr.at 23 = pv ∧ fr.at 24 = .int .i64 ps.length ∧ fr.at 25 = .int .i64 (i : Nat) ∧ Only m4 m' ∧ detGo ps os fone = detGo (ps.drop i) (os.drop i) d
set_option maxHeartbeats 1000000 in
set_option maxRecDepth 10000 in
theorem det_ok (K : KP known) (n : Nat) (rs : List (List F)) (va : Value) (m : Mem) (hw0 : WF m) (hv : FM m va rs) (hlen : ∀ r ∈ rs, r.length ≤ 100000) (hlen2 : rs.length ≤ 100000) {Q : Value → Mem → Prop}
    (hQ : ∀ m', Up m m' → Q (.tuple ⟨[.float .f64 (cOf (detFF rs).1), .int .i64 (detFF rs).2]⟩) m') :
    Gives (callN Try.prog known (n + 4) 10 [va]) m Q := by
  refine gives_fn (nt := 51) (K.non _ rfl _) Try.func10 rfl rfl rfl (Nat.le_of_ble_eq_true rfl) fun fr hn hd hargs => ?_
  have h0 : fr.at 0 = _ := hargs 0 _ rfl
  clear hargs
  simp [hn]
  refine floats_ok K (n + 2) m fun m0 hu0 => ?_
  have hw0' := hu0.wf hw0
  simp [h0, hn]
  refine check_ok K n rs va _ hw0' (hv.up hw0 hu0) hlen hlen2 fun m1' hu1' => ?_
  have hup1' := hu0.trans hu1'
  by_cases hc : checkF rs = 0
  · obtain ⟨p1, p2, p3⟩ := check0 hc
    simp [hn, hc, h0]
    refine floats_ok K (n + 2) m1' fun m1 hu1 => ?_
    have hup1 := hup1'.trans hu1
    have hw1 := hup1.wf hw0
    simp [hn, h0]
    refine steps_ok K (n + 1) rs va _ [] m1 hw1 (hv.up hw0 hup1) (.inl ⟨rfl, rfl⟩) p3 p1 p2 (M := M0F rs []) (fun i j hi hj => M0F_in (by rw [p3 i hi]; exact hj)) (fun i hi => by rw [M0F_rhs (p3 i hi), if_neg (by simp; omega)]; rfl) fun m3 kd s8 v l ρ rw hold hL hC => ?_
    have hs8' := hL.own.2
    have hs8'' := hL.wf _ _ hL.cell
    simp [hn, oneV, nilV, extractX]
    refine storeQ_rule (y := ⟨[nilV, nilV, nilV, nilV], 1, false, false⟩) (by simp [nilV]) rfl (by simp [oneV_p hL]) (lay4 _ _ _ _ _ _ _ _) fun m4 n4 _ e4 => ?_
    simp only [Mem.next_nw, Mem.at_nw] at n4 e4
    have hw4 : WF m4 := fun c x hc => by
      rw [n4]
      rw [e4] at hc
      by_cases h : c = m3.next
      · omega
      · rw [if_neg h, if_neg h] at hc
        have := hL.wf c x hc; omega
    have o4 : ∀ c, c < m3.next → m4.at c = m3.at c := fun c hc => by rw [e4, if_neg (by omega), if_neg (by omega)]
    have hL4 := hL.above hw4 o4
    have hs4 : m4.at m3.next = some ⟨[v 1, v 2, v 3, v 4], 1, false, false⟩ := by rw [e4, if_pos rfl]
    have hup4 : Up m m4 := hup1.trans ⟨by omega, fun c hc => by rw [o4 c (by omega), hold c hc], fun _ => hw4⟩
    clear e4
    have hlens := goS_len' rs.length rs.length 0 (startS (M0F rs [])) rfl
    change (stepsS rs.length (M0F rs [])).1.piv.length = (stepsS rs.length (M0F rs [])).1.odd.length ∧ (stepsS rs.length (M0F rs [])).1.piv.length ≤ 0 + rs.length at hlens
    obtain ⟨ps, hps⟩ : ∃ ps, ps = (stepsS rs.length (M0F rs [])).1.piv := ⟨_, rfl⟩
    obtain ⟨os, hos⟩ : ∃ os, os = (stepsS rs.length (M0F rs [])).1.odd := ⟨_, rfl⟩
    have hP := hC.piv
    have hO := hC.odd
    rw [← hps] at hlens hP
    rw [← hos] at hlens hO
    have hdet : detF rs.length (M0F rs []) = match detGo ps os fone with
        | none => some fzero
        | some d => if (stepsS rs.length (M0F rs [])).2 && ffin d then some d else none := by rw [hps, hos]; rfl
    have h4len : (l 3).length = ps.length := by rw [hP]; simp
    have h5len : (l 4).length = os.length := by rw [hO]; simp
    have hv4l : ∃ a, v 3 = .slice a ps.length ps.length := by
      rcases (hL4.gl 3 (by omega) (by omega)).2 with ⟨g1, g2⟩ | ⟨_, b, g2, _⟩
      · rw [g1] at h4len; exact ⟨none, by rw [g2, ← h4len]; rfl⟩
      · exact ⟨some ⟨b, 0, none⟩, by rw [g2, h4len]; rfl⟩
    obtain ⟨a4, hv4l⟩ := hv4l
    obtain ⟨ok, hok⟩ : ∃ ok, ok = (stepsS rs.length (M0F rs [])).2 := ⟨_, rfl⟩
    rw [← hok] at hdet
    simp [hn, hs4, hv4l, ← hok]
    refine code_loop (dutI' m4 m3.next ok (.slice a4 ps.length ps.length) ps os) ps.length (by omega) ⟨0, fone, by simp, by simp [hn], by simp [hd], by simp, by simp, by simp [cOf_one], by simp, by simp, by simp, ⟨rfl, fun _ => rfl⟩, rfl⟩ ?_
    rintro q fr2 m6 ⟨i, d, hiq, g1, g2, g5, g6, g7, g23, g24, g25, ho6, hgo⟩
    have hs6 : m6.at m3.next = some ⟨[v 1, v 2, v 3, v 4], 1, false, false⟩ := by rw [ho6.2]; exact hs4
    have hup6 : Up m m6 := hup4.trans (Up.only ho6)
    by_cases hi : i < ps.length
    · obtain ⟨bP, hv4, _, _, hbP⟩ := hL4.blk (k := 3) (by omega) (by omega) (by omega)
      obtain ⟨bO, hv5, _, _, hbO⟩ := hL4.blk (k := 4) (by omega) (by omega) (by omega)
      rw [h4len, hv4l] at hv4
      obtain rfl : a4 = some ⟨bP, 0, none⟩ := by unfold lst at hv4; simpa using hv4
      rw [h5len, ← hlens.1] at hv5
      have hbP6 : m6.at bP = some ⟨l 3, 1, true, false⟩ := by rw [ho6.2]; exact hbP
      have hbO6 : m6.at bO = some ⟨l 4, 1, true, false⟩ := by rw [ho6.2]; exact hbO
      have ep : (l 3)[i]? = some (.float .f64 (cOf (fat ps i))) := by rw [hP]; exact fat_map ps hi
      have eo : (l 4)[i]? = some (.bool (os.getD i false)) := by rw [hO]; simp [List.getD, show i < os.length by omega]
      have hwi := wrap_succ i (by omega)
      rw [detGo_at ps os i d hi (by omega)] at hgo
      cases hq : feq (fat ps i) fzero with
      | true =>
        rw [hq, if_pos rfl] at hgo
        have hF : detFF rs = (fzero, 0) := by
          unfold detFF
          rw [if_neg (by simp [hc]), hdet, hgo]
        rw [hF, cOf_zero] at hQ
        simp [g1, g2, g5, g6, g7, g23, g24, g25, hs6, lst, hbP6, ep, hi, idx24 _ _ _ _ _ _ hi, hq]
        exact hQ _ (hup6.trans (Up.only ⟨rfl, fun _ => rfl⟩))
      | false =>
        rw [hq, if_neg (by simp)] at hgo
        cases ho : os.getD i false with
        | true =>
          rw [ho, if_pos rfl] at hgo
          rw [ho] at eo
          simp [g1, g2, g5, g6, g7, g23, g24, g25, hs6, hv5, lst, hbP6, hbO6, ep, eo, hi, idx24 _ _ _ _ _ _ hi, idx77 _ _ _ _ _ _ hi, hq, hwi]
          exact ⟨q - 1, by omega, i + 1, _, by omega, by simp [g1], by simp [g2], by simp [g5], by simp [g6], by simp, by simp [g23], by simp [g24], by simp, ho6.trans ⟨rfl, fun _ => rfl⟩, hgo⟩
        | false =>
          rw [ho, if_neg (by simp)] at hgo
          rw [ho] at eo
          simp [g1, g2, g5, g6, g7, g23, g24, g25, hs6, hv5, lst, hbP6, hbO6, ep, eo, hi, idx24 _ _ _ _ _ _ hi, idx77 _ _ _ _ _ _ hi, hq, hwi]
          exact ⟨q - 1, by omega, i + 1, _, by omega, by simp [g1], by simp [g2], by simp [g5], by simp [g6], by simp, by simp [g23], by simp [g24], by simp, ho6.trans ⟨rfl, fun _ => rfl⟩, hgo⟩
    · have hi' : i = ps.length := by omega
      subst hi'
      rw [detGo_done] at hgo
      rw [hgo] at hdet
      cases hk : ok with
      | false =>
        rw [hk] at hdet g6
        have hF : detFF rs = (fzero, 6) := by
          unfold detFF
          rw [if_neg (by simp [hc]), hdet]
          rfl
        rw [hF, cOf_zero] at hQ
        simp [g1, g2, g6, g7, g24, g25, gives_fin2 K, yieldX]
        exact hQ _ hup6
      | true =>
        rw [hk] at hdet g6
        cases hf : ffin d with
        | false =>
          have hF : detFF rs = (fzero, 6) := by
            unfold detFF
            rw [if_neg (by simp [hc]), hdet]
            simp [hf]
          rw [hF, cOf_zero] at hQ
          simp [g1, g2, g6, g7, g24, g25, gives_fin2 K, yieldX, hf]
          exact hQ _ hup6
        | true =>
          have hF : detFF rs = (d, 0) := by
            unfold detFF
            rw [if_neg (by simp [hc]), hdet]
            simp [hf]
          rw [hF] at hQ
          simp [g1, g2, g6, g7, g24, g25, gives_fin2 K, yieldX, hf]
          exact hQ _ hup6
  · simp [hn, hd, hc]
    have hF : detFF rs = (fzero, checkF rs) := by unfold detFF; rw [if_pos hc]
    rw [hF, cOf_zero] at hQ
    exact hQ m1' hup1'
end Go.Proofs.Ytghhanifakllpaa
