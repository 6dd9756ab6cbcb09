/- The document's answer for chapter 14, in the clean executor: Pivots, Det, Off. -/
import Derived.Test.YtghhanifakllpaaYA
namespace Go.Proofs.Ytghhanifakllpaa
open Go.Clean

variable {known : Known}
/-- A slice whose elements are these whole numbers. -/
def IL (m : Mem) (v : Value) (xs : List Nat) : Prop :=
  ∃ a c, v = .slice a xs.length c ∧ ((a = none ∧ xs.length = 0 ∧ c = 0) ∨ ∃ b o x, a = some ⟨b, o, none⟩ ∧ m.at b = some x ∧ ∀ (i : Nat), i < xs.length → x.cells[o + i]? = some (.int .i64 (xs.getD i 0 : Nat)))
def pivotsFF (rs : List (List F)) : List Nat × Int :=
  if checkF rs ≠ 0 then ([], checkF rs)
  else if (stepsS rs.length (M0F rs [])).2 then ((List.range rs.length).map (stepsS rs.length (M0F rs [])).1.first, 0) else ([], 141)
theorem FL.nil (m : Mem) : FL m (.slice none 0 0) [] := ⟨none, 0, rfl, .inl ⟨Loose.nil, rfl, rfl⟩⟩
theorem IL.nil (m : Mem) : IL m (.slice none 0 0) [] := ⟨none, 0, rfl, .inl ⟨rfl, rfl, rfl⟩⟩

set_option maxHeartbeats 1000000 in
set_option maxRecDepth 10000 in
theorem doc_pivots (K : KN known) (hk : ∀ args, known 18 args = none) (n : Nat) (rs : List (List F)) (va : Value) (m : Mem) (hw0 : WF m) (hv : FM m va rs) (hlen : ∀ r ∈ rs, r.length ≤ 100000) (hlen2 : rs.length ≤ 100000) {Q : Value → Mem → Prop}
    (hQ : ∀ m' v, (∀ c, c < m.next → m'.at c = m.at c) → WF m' → IL m' v (pivotsFF rs).1 → m.next ≤ m'.next ∧ Beyond m.next v → Q (.tuple ⟨[v, .int .i64 (pivotsFF rs).2]⟩) m') :
    Gives (callN Try.prog known (n + 4) 18 [va]) m Q := by
  refine gives_fn (nt := 18) (hk _) Try.func18 rfl rfl rfl (Nat.le_of_ble_eq_true rfl) fun fr hn hd hargs => ?_
  have h0 : fr.at 0 = _ := hargs 0 _ rfl
  clear hargs
  simp [h0, hn]
  refine doc_check K n rs va m hv hlen hlen2 fun m1 ho1 => ?_
  have hw1 := ho1.wf hw0
  by_cases hc : checkF rs = 0
  · obtain ⟨p1, p2, p3⟩ := check0 hc
    simp [hn, hc, h0]
    refine doc_steps K n rs _ _ [] m1 hw1 (hv.same ho1.2) (FL.nil _) p3 p1 p2 (M := M0F rs []) (fun i j hi hj => M0F_in (by rw [p3 i hi]; exact hj)) (fun i hi => by rw [M0F_rhs (p3 i hi), if_neg (by simp; omega)]; rfl) fun m3 kd s5 v l ρ rw hold hL hC => ?_
    have hnx3 : m.next < m3.next := by have := hL.own.2; have := hL.wf _ _ hL.cell; have : m1.next = m.next := ho1.1; omega
    simp [hn, oneV, nilV]
    refine storeQ_rule (y := ⟨[nilV, nilV, nilV, nilV, nilV, .bool false], 1, false, false⟩) (by simp [nilV]) rfl (by simp [oneV_v hL]; simp [oneV]) (lay6 _ _ _ _ _ _ _ _ _ _ _ _) fun m4 n4 _ e4 => ?_
    simp only [Mem.next_nw, Mem.at_nw] at n4 e4
    have hw4 : WF m4 := fun c x hc => by
      rw [n4]
      rw [e4] at hc
      by_cases h : c = m3.next
      · omega
      · rw [if_neg h, if_neg h] at hc
        have := hL.wf c x hc; omega
    have o4 : ∀ c, c < m3.next → m4.at c = m3.at c := fun c hc => by rw [e4, if_neg (by omega), if_neg (by omega)]
    have hL4 := hL.above hw4 o4
    have hs4 : m4.at m3.next = some ⟨[v 1, v 2, v 3, v 4, v 5, .bool (stepsS rs.length (M0F rs [])).2], 1, false, false⟩ := by rw [e4, if_pos rfl]
    have hold4 : ∀ c, c < m.next → m4.at c = m.at c := fun c hc => by
      have h2 : m1.next = m.next := ho1.1
      have := hL.own.2
      have := hL.wf _ _ hL.cell
      rw [o4 c (by omega), hold c (by omega), ho1.2 c]
    clear e4
    cases hok : (stepsS rs.length (M0F rs [])).2 with
    | false =>
      have hF : pivotsFF rs = ([], 141) := by
        unfold pivotsFF
        rw [if_neg (by simp [hc]), hok]
        rfl
      rw [hF] at hQ
      rw [hok] at hs4
      simp [hn, hd, hs4]
      exact hQ (m4.rd m3.next) _ hold4 (fun c x h => hw4 c x h) (IL.nil _) ⟨by rw [Mem.next_rd]; omega, Beyond.nil _⟩
    | true =>
      have hF : pivotsFF rs = ((List.range rs.length).map (stepsS rs.length (M0F rs [])).1.first, 0) := by
        unfold pivotsFF
        rw [if_neg (by simp [hc]), hok]
        rfl
      rw [hF] at hQ
      rw [hok] at hs4
      obtain ⟨bR, hv3, _, hbRb, hbR⟩ := hL4.blk (k := 3) (by omega) (by omega) (by rw [hC.ord.1]; omega)
      rw [hC.ord.1] at hv3
      simp [hn, hd, hs4]
      refine hQ ((m4.rd m3.next).rd m3.next) _ hold4 (fun c x h => hw4 c x h) ⟨some ⟨bR, 0, none⟩, rs.length, by rw [hv3]; simp [lst], .inr ⟨bR, 0, _, rfl, hbR, fun i hi => ?_⟩⟩ ⟨by rw [Mem.next_rd, Mem.next_rd]; omega, fun a n c h => by rw [hv3] at h; cases h; show m.next ≤ bR; have : m1.next = m.next := ho1.1; omega⟩
      simp only [List.length_map, List.length_range] at hi
      rw [Nat.zero_add, hC.ord.2 i hi]
      simp [List.getD, hi]
  · simp [hn, hd, hc]
    have hF : pivotsFF rs = ([], checkF rs) := by unfold pivotsFF; rw [if_pos hc]
    rw [hF] at hQ
    exact hQ m1 _ (fun c _ => ho1.2 c) hw1 (IL.nil _) ⟨by rw [ho1.1]; exact Nat.le_refl _, Beyond.nil _⟩

/-! ### Det -/
theorem cOf_neg (x : F) : canon (cOf x ^^^ 9223372036854775808) = cOf (fneg x) := by
  rw [← cOf_fl, fneg_bits]
  cases x with
  | none => show cOf (fneg (fl noNum)) = _; rw [fl_noNum]
  | some b =>
    show cOf (fneg (fl (canon b))) = canon (b ^^^ 9223372036854775808)
    rw [fl_canon, ← cOf_fl (b ^^^ 9223372036854775808), fneg_bits]
@[simp] theorem un_neg {P : Program} (x : F) : unX P .neg (.float .f64 (cOf x)) = some (.float .f64 (cOf (fneg x))) := by
  show some (Value.float .f64 (canon (cOf x ^^^ 9223372036854775808))) = _
  rw [cOf_neg]
def detFF (rs : List (List F)) : F × Int :=
  if checkF rs ≠ 0 then (fzero, checkF rs)
  else match detF rs.length (M0F rs []) with
    | none => (fzero, 6)
    | some d => (d, 0)
theorem detGo_at (ps : List F) (os : List Bool) (k : Nat) (d : F) (h1 : k < ps.length) (h2 : k < os.length) :
    detGo (ps.drop k) (os.drop k) d = if feq (fat ps k) fzero then none else detGo (ps.drop (k + 1)) (os.drop (k + 1)) (if os.getD k false then fneg (fmul d (fat ps k)) else fmul d (fat ps k)) := by
  rw [List.drop_eq_getElem_cons h1, List.drop_eq_getElem_cons h2, detGo]
  simp [fat, List.getD, h1, h2]
theorem detGo_done (ps : List F) (os : List Bool) (d : F) : detGo (ps.drop ps.length) os d = some d := by
  rw [List.drop_length]
  cases os <;> rfl
theorem goS_len' (n : Nat) : ∀ (k c : Nat) (s : Sys), s.piv.length = s.odd.length → (goS n k c s).1.piv.length = (goS n k c s).1.odd.length ∧ (goS n k c s).1.piv.length ≤ s.piv.length + k
  | 0, c, s, h => ⟨h, Nat.le_refl _⟩
  | k + 1, c, s, h => by
    unfold goS
    split
    · simp [noteS, h]
    · have ih := goS_len' n k (c + 1) (stepS n c s) (by simp [stepS, noteS, h])
      have hl : (stepS n c s).piv.length = s.piv.length + 1 := by simp [stepS, noteS]
      exact ⟨ih.1, by omega⟩
def detI (m4 : Mem) (s7 : Nat) (ps : List F) (os : List Bool) (q : Nat) (fr : Fr) (m' : Mem) : Prop :=
  ∃ i d, i + q = ps.length ∧ fr.n = 53 ∧ fr.d = [] ∧ fr.at 5 = .pointer (some ⟨s7, 0, none⟩) ∧ fr.at 6 = .float .f64 (cOf d) ∧ fr.at 7 = .int .i64 (i : Nat) ∧ Only m4 m' ∧ detGo ps os fone = detGo (ps.drop i) (os.drop i) d
set_option maxHeartbeats 1000000 in
set_option maxRecDepth 10000 in
theorem doc_det (K : KN known) (hk : ∀ args, known 19 args = none) (n : Nat) (rs : List (List F)) (va : Value) (m : Mem) (hw0 : WF m) (hv : FM m va rs) (hlen : ∀ r ∈ rs, r.length ≤ 100000) (hlen2 : rs.length ≤ 100000) {Q : Value → Mem → Prop}
    (hQ : ∀ m', (∀ c, c < m.next → m'.at c = m.at c) → WF m' → m.next ≤ m'.next → Q (.tuple ⟨[.float .f64 (cOf (detFF rs).1), .int .i64 (detFF rs).2]⟩) m') :
    Gives (callN Try.prog known (n + 4) 19 [va]) m Q := by
  refine gives_fn (nt := 53) (hk _) Try.func19 rfl rfl rfl (Nat.le_of_ble_eq_true rfl) fun fr hn hd hargs => ?_
  have h0 : fr.at 0 = _ := hargs 0 _ rfl
  clear hargs
  simp [h0, hn]
  refine doc_check K n rs va m hv hlen hlen2 fun m1 ho1 => ?_
  have hw1 := ho1.wf hw0
  by_cases hc : checkF rs = 0
  · obtain ⟨p1, p2, p3⟩ := check0 hc
    simp [hn, hc, h0]
    refine doc_steps K n rs _ _ [] m1 hw1 (hv.same ho1.2) (FL.nil _) p3 p1 p2 (M := M0F rs []) (fun i j hi hj => M0F_in (by rw [p3 i hi]; exact hj)) (fun i hi => by rw [M0F_rhs (p3 i hi), if_neg (by simp; omega)]; rfl) fun m3 kd s5 v l ρ rw hold hL hC => ?_
    have hnx3 : m.next < m3.next := by have := hL.own.2; have := hL.wf _ _ hL.cell; have : m1.next = m.next := ho1.1; omega
    simp [hn, oneV, nilV]
    refine storeQ_rule (y := ⟨[nilV, nilV, nilV, nilV, nilV, .bool false], 1, false, false⟩) (by simp [nilV]) rfl (by simp [oneV_v hL]; simp [oneV]) (lay6 _ _ _ _ _ _ _ _ _ _ _ _) fun m4 n4 _ e4 => ?_
    simp only [Mem.next_nw, Mem.at_nw] at n4 e4
    have hw4 : WF m4 := fun c x hc => by
      rw [n4]
      rw [e4] at hc
      by_cases h : c = m3.next
      · omega
      · rw [if_neg h, if_neg h] at hc
        have := hL.wf c x hc; omega
    have o4 : ∀ c, c < m3.next → m4.at c = m3.at c := fun c hc => by rw [e4, if_neg (by omega), if_neg (by omega)]
    have hL4 := hL.above hw4 o4
    have hs4 : m4.at m3.next = some ⟨[v 1, v 2, v 3, v 4, v 5, .bool (stepsS rs.length (M0F rs [])).2], 1, false, false⟩ := by rw [e4, if_pos rfl]
    have hold4 : ∀ c, c < m.next → m4.at c = m.at c := fun c hc => by
      have h2 : m1.next = m.next := ho1.1
      have := hL.own.2
      have := hL.wf _ _ hL.cell
      rw [o4 c (by omega), hold c (by omega), ho1.2 c]
    clear e4
    have hlens := goS_len' rs.length rs.length 0 (startS (M0F rs [])) rfl
    change (stepsS rs.length (M0F rs [])).1.piv.length = (stepsS rs.length (M0F rs [])).1.odd.length ∧ (stepsS rs.length (M0F rs [])).1.piv.length ≤ 0 + rs.length at hlens
    obtain ⟨ps, hps⟩ : ∃ ps, ps = (stepsS rs.length (M0F rs [])).1.piv := ⟨_, rfl⟩
    obtain ⟨os, hos⟩ : ∃ os, os = (stepsS rs.length (M0F rs [])).1.odd := ⟨_, rfl⟩
    have hP := hC.piv
    have hO := hC.odd
    rw [← hps] at hlens hP
    rw [← hos] at hlens hO
    have hdet : detF rs.length (M0F rs []) = match detGo ps os fone with
        | none => some fzero
        | some d => if (stepsS rs.length (M0F rs [])).2 && ffin d then some d else none := by rw [hps, hos]; rfl
    have h4len : (l 4).length = ps.length := by rw [hP]; simp
    have h5len : (l 5).length = os.length := by rw [hO]; simp
    have hv4l : ∃ a, v 4 = .slice a ps.length ps.length := by
      rcases (hL4.gl 4 (by omega) (by omega)).2 with ⟨g1, g2⟩ | ⟨_, b, g2, _⟩
      · rw [g1] at h4len; exact ⟨none, by rw [g2, ← h4len]; rfl⟩
      · exact ⟨some ⟨b, 0, none⟩, by rw [g2, h4len]; rfl⟩
    obtain ⟨a4, hv4l⟩ := hv4l
    have hone : (4607182418800017408 : Nat) = cOf fone := cOf_one.symm
    simp [hn]
    refine code_loop (detI m4 m3.next ps os) ps.length (by omega) ⟨0, fone, by simp, by simp [hn], by simp [hd], by simp, by simp [cOf_one], by simp, .refl _, rfl⟩ ?_
    rintro q fr2 m6 ⟨i, d, hiq, g1, g2, g5, g6, g7, ho6, hgo⟩
    have hs6 : m6.at m3.next = some ⟨[v 1, v 2, v 3, v 4, v 5, .bool (stepsS rs.length (M0F rs [])).2], 1, false, false⟩ := by rw [ho6.2]; exact hs4
    have hold6 : ∀ c, c < m.next → m6.at c = m.at c := fun c hc => by rw [ho6.2, hold4 c hc]
    have hw6 := ho6.wf hw4
    have hnx6 : m.next ≤ m6.next := by rw [ho6.1]; omega
    by_cases hi : i < ps.length
    · obtain ⟨bP, hv4, _, _, hbP⟩ := hL4.blk (k := 4) (by omega) (by omega) (by omega)
      obtain ⟨bO, hv5, _, _, hbO⟩ := hL4.blk (k := 5) (by omega) (by omega) (by omega)
      rw [h4len] at hv4
      rw [h5len, ← hlens.1] at hv5
      have hbP6 : m6.at bP = some ⟨l 4, 1, true, false⟩ := by rw [ho6.2]; exact hbP
      have hbO6 : m6.at bO = some ⟨l 5, 1, true, false⟩ := by rw [ho6.2]; exact hbO
      have ep : (l 4)[i]? = some (.float .f64 (cOf (fat ps i))) := by rw [hP]; exact fat_map ps hi
      have eo : (l 5)[i]? = some (.bool (os.getD i false)) := by rw [hO]; simp [List.getD, show i < os.length by omega]
      have hwi := wrap_succ i (by omega)
      rw [detGo_at ps os i d hi (by omega)] at hgo
      cases hq : feq (fat ps i) fzero with
      | true =>
        rw [hq, if_pos rfl] at hgo
        have hF : detFF rs = (fzero, 0) := by
          unfold detFF
          rw [if_neg (by simp [hc]), hdet, hgo]
        rw [hF, cOf_zero] at hQ
        simp [g1, g2, g5, g6, g7, hs6, hv4, lst, hbP6, ep, hi, idx24 _ _ _ _ _ _ hi, hq]
        exact hQ _ hold6 (fun c x h => hw6 c x h) hnx6
      | false =>
        rw [hq, if_neg (by simp)] at hgo
        cases ho : os.getD i false with
        | true =>
          rw [ho, if_pos rfl] at hgo
          rw [ho] at eo
          simp [g1, g2, g5, g6, g7, hs6, hv4, hv5, lst, hbP6, hbO6, ep, eo, hi, idx24 _ _ _ _ _ _ hi, idx77 _ _ _ _ _ _ hi, hq, hwi]
          exact ⟨q - 1, by omega, i + 1, _, by omega, by simp [g1], by simp [g2], by simp [g5], by simp, by simp, ho6.trans ⟨rfl, fun _ => rfl⟩, hgo⟩
        | false =>
          rw [ho, if_neg (by simp)] at hgo
          rw [ho] at eo
          simp [g1, g2, g5, g6, g7, hs6, hv4, hv5, lst, hbP6, hbO6, ep, eo, hi, idx24 _ _ _ _ _ _ hi, idx77 _ _ _ _ _ _ hi, hq, hwi]
          exact ⟨q - 1, by omega, i + 1, _, by omega, by simp [g1], by simp [g2], by simp [g5], by simp, by simp, ho6.trans ⟨rfl, fun _ => rfl⟩, hgo⟩
    · have hi' : i = ps.length := by omega
      subst hi'
      rw [detGo_done] at hgo
      rw [hgo] at hdet
      cases hok : (stepsS rs.length (M0F rs [])).2 with
      | false =>
        rw [hok] at hdet hs6
        have hF : detFF rs = (fzero, 6) := by
          unfold detFF
          rw [if_neg (by simp [hc]), hdet]
          rfl
        rw [hF, cOf_zero] at hQ
        simp [g1, g2, g5, g6, g7, hs6, hv4l, gives_fin K, yieldX]
        exact hQ _ hold6 (fun c x h => hw6 c x h) hnx6
      | true =>
        rw [hok] at hdet hs6
        cases hf : ffin d with
        | false =>
          have hF : detFF rs = (fzero, 6) := by
            unfold detFF
            rw [if_neg (by simp [hc]), hdet]
            simp [hf]
          rw [hF, cOf_zero] at hQ
          simp [g1, g2, g5, g6, g7, hs6, hv4l, gives_fin K, yieldX, hf]
          exact hQ _ hold6 (fun c x h => hw6 c x h) hnx6
        | true =>
          have hF : detFF rs = (d, 0) := by
            unfold detFF
            rw [if_neg (by simp [hc]), hdet]
            simp [hf]
          rw [hF] at hQ
          simp [g1, g2, g5, g6, g7, hs6, hv4l, gives_fin K, yieldX, hf]
          exact hQ _ hold6 (fun c x h => hw6 c x h) hnx6
  · simp [hn, hd, hc]
    have hF : detFF rs = (fzero, checkF rs) := by unfold detFF; rw [if_pos hc]
    rw [hF, cOf_zero] at hQ
    exact hQ m1 (fun c _ => ho1.2 c) hw1 (by rw [ho1.1]; exact Nat.le_refl _)

/-! ### Off -/
def MF (rs : List (List F)) : Mx := fun i j => fat (rat' rs i) j
def offFF (rs : List (List F)) (xs bs : List F) : F × Int :=
  if checkF rs ≠ 0 then (fzero, checkF rs)
  else if listF xs rs.length ≠ 0 then (fzero, listF xs rs.length)
  else if listF bs rs.length ≠ 0 then (fzero, listF bs rs.length)
  else if ffin (offTo fmax rs.length (MF rs) (fat xs) (fat bs) rs.length) then (offTo fmax rs.length (MF rs) (fat xs) (fat bs) rs.length, 0) else (fzero, 6)
def offI (m4 : Mem) (va vx vb : Value) (rs : List (List F)) (xs bs : List F) (q : Nat) (fr : Fr) (m' : Mem) : Prop :=
  ∃ i, i + q = rs.length ∧ fr.n = 71 ∧ fr.d = [] ∧ fr.at 0 = va ∧ fr.at 1 = vx ∧ fr.at 2 = vb ∧ fr.at 9 = .float .f64 (cOf (offTo fmax rs.length (MF rs) (fat xs) (fat bs) i)) ∧ fr.at 10 = .int .i64 (i : Nat) ∧ Only m4 m'
def dotI (m4 : Mem) (va vx vb : Value) (rs : List (List F)) (xs bs : List F) (i : Nat) (q : Nat) (fr : Fr) (m' : Mem) : Prop :=
  ∃ j, j + q = rs.length ∧ fr.n = 71 ∧ fr.d = [] ∧ fr.at 0 = va ∧ fr.at 1 = vx ∧ fr.at 2 = vb ∧ fr.at 9 = .float .f64 (cOf (offTo fmax rs.length (MF rs) (fat xs) (fat bs) i)) ∧ fr.at 10 = .int .i64 (i : Nat) ∧ fr.at 11 = .float .f64 (cOf (dotTo (MF rs) (fat xs) i j)) ∧ fr.at 12 = .int .i64 (j : Nat) ∧ Only m4 m'
theorem FL.get {m : Mem} {v : Value} {xs : List F} (h : FL m v xs) (hpos : 0 < xs.length) : ∃ b o x c, v = .slice (some ⟨b, o, none⟩) xs.length c ∧ m.at b = some x ∧ ∀ i, i < xs.length → x.cells[o + i]? = some (.float .f64 (cOf (fat xs i))) := by
  obtain ⟨a, c, rfl, h2⟩ := h
  rcases h2 with h2 | ⟨b, o, x, rfl, e2, e3⟩
  · omega
  · exact ⟨b, o, x, c, rfl, e2, e3⟩
theorem FM.get {m : Mem} {v : Value} {rs : List (List F)} (h : FM m v rs) (hpos : 0 < rs.length) : ∃ b o x c, v = .slice (some ⟨b, o, none⟩) rs.length c ∧ m.at b = some x ∧ ∀ i, i < rs.length → ∃ u, x.cells[o + i]? = some u ∧ FL m u (rat' rs i) := by
  obtain ⟨a, c, rfl, h2⟩ := h
  rcases h2 with h2 | ⟨b, o, x, rfl, e2, e3⟩
  · omega
  · exact ⟨b, o, x, c, rfl, e2, e3⟩
set_option maxHeartbeats 1000000 in
set_option maxRecDepth 10000 in
theorem doc_off (K : KN known) (hk : ∀ args, known 20 args = none) (n : Nat) (rs : List (List F)) (va vx vb : Value) (xs bs : List F) (m : Mem) (hw0 : WF m) (hv : FM m va rs) (hxv : FL m vx xs) (hbv : FL m vb bs) (hlen : ∀ r ∈ rs, r.length ≤ 100000) (hlen2 : rs.length ≤ 100000) (hlx : xs.length ≤ 100000) (hlb : bs.length ≤ 100000) {Q : Value → Mem → Prop}
    (hQ : ∀ m', Only m m' → Q (.tuple ⟨[.float .f64 (cOf (offFF rs xs bs).1), .int .i64 (offFF rs xs bs).2]⟩) m') :
    Gives (callN Try.prog known (n + 4) 20 [va, vx, vb]) m Q := by
  refine gives_fn (nt := 71) (hk _) Try.func20 rfl rfl rfl (Nat.le_of_ble_eq_true rfl) fun fr hn hd hargs => ?_
  have h0 : fr.at 0 = _ := hargs 0 _ rfl
  have h1 : fr.at 1 = _ := hargs 1 _ rfl
  have h2 : fr.at 2 = _ := hargs 2 _ rfl
  clear hargs
  simp [h0, hn]
  refine doc_check K n rs va m hv hlen hlen2 fun m1 ho1 => ?_
  by_cases hc : checkF rs = 0
  · obtain ⟨p1, p2, p3⟩ := check0 hc
    obtain ⟨ab, ao, ax, ac, rfl, hab, hac⟩ := hv.get p1
    simp [hn, hc, h0, h1]
    refine list_ok K (n + 1) xs vx rs.length m1 (hxv.same ho1.2) hlx fun m2 ho2 => ?_
    by_cases hl : listF xs rs.length = 0
    · have p4 := list0 hl
      simp [hn, hl, h0, h2]
      have ho12 := ho1.trans ho2
      refine list_ok K (n + 1) bs vb rs.length m2 (hbv.same ho12.2) hlb fun m3 ho3 => ?_
      have ho := ho12.trans ho3
      by_cases hl2 : listF bs rs.length = 0
      · have p5 := list0 hl2
        obtain ⟨xb, xo, xx, xc, rfl, hxb, hxc⟩ := hxv.get (by omega)
        obtain ⟨bb, bo, bx, bc, rfl, hbb, hbc⟩ := hbv.get (by omega)
        simp [hn, hl2]
        refine code_loop (offI m3 _ _ _ rs xs bs) rs.length (by omega) ⟨0, by simp, by simp [hn], by simp [hd], by simp [h0]; rfl, by simp [h1]; rfl, by simp [h2]; rfl, by simp [offTo, cOf_zero], by simp, .refl _⟩ ?_
        rintro q fr1 m4 ⟨i, hiq, f1, f2, f00, f01, f02, f9, f10, ho4⟩
        by_cases hi : i < rs.length
        · simp [f1, f00, f10, hi]
          refine code_loop (dotI m4 _ _ _ rs xs bs i) rs.length (by omega) ⟨0, by simp, by simp [f1], by simp [f2], by simp [f00]; rfl, by simp [f01]; rfl, by simp [f02]; rfl, by simp [f9], by simp [f10], by simp [dotTo, cOf_zero], by simp, .refl _⟩ ?_
          rintro q2 fr2 m5 ⟨j, hjq, g1, g2, g00, g01, g02, g9, g10, g11, g12, ho5⟩
          have hoall := (ho.trans ho4).trans ho5
          have hab5 : m5.at ab = some ax := by rw [hoall.2]; exact hab
          have hxb5 : m5.at xb = some xx := by rw [hoall.2]; exact hxb
          have hbb5 : m5.at bb = some bx := by rw [hoall.2]; exact hbb
          have hwi := wrap_succ i (by omega)
          by_cases hj : j < rs.length
          · obtain ⟨u, hu, hfl⟩ := hac i hi
            have hri := p3 i hi
            obtain ⟨ub, uo, ux, uc, rfl, hub, huc⟩ := hfl.get (by omega)
            have hub5 : m5.at ub = some ux := by rw [hoall.2]; exact hub
            have huj := huc j (by omega)
            have hxj := hxc j (by omega)
            have hwj := wrap_succ j (by omega)
            simp [g1, g00, g12, hj]
            refine code_draw (sil := silF) (K.silent _) (K.parC _) (by kernel_rfl) ?_
            simp [g1, g00, g01, g10, g11, g12, hab5, hu, hub5, huj, hxb5, hxj, idx23 _ _ _ _ _ _ hi, idx24 _ _ _ _ _ _ (show j < (rat' rs i).length by omega), idx24 _ _ _ _ _ _ (show j < xs.length by omega), hwj]
            exact ⟨q2 - 1, by omega, j + 1, by omega, by simp [g1], by simp [g2], by simp [g00], by simp [g01], by simp [g02], by simp [g9], by simp [g10], by simp [dotTo, MF], by simp, ho5.trans ⟨rfl, fun _ => rfl⟩⟩
          · have hjN : j = rs.length := by omega
            subst hjN
            have hbi := hbc i (by omega)
            simp [g1, g00, g02, g9, g10, g11, g12, hbb5, hbi, idx24 _ _ _ _ _ _ (show i < bs.length by omega), gives_known (K.abs _), gives_known (K.max _ _), gives_ret, hwi]
            exact ⟨q - 1, by omega, i + 1, by omega, by simp [g1], by simp [g2], by simp [g00], by simp [g01], by simp [g02], by simp [offTo], by simp, (ho4.trans ho5).trans ⟨rfl, fun _ => rfl⟩⟩
        · have hi' : i = rs.length := by omega
          subst hi'
          cases hf : ffin (offTo fmax rs.length (MF rs) (fat xs) (fat bs) rs.length) with
          | true =>
            have hF : offFF rs xs bs = (offTo fmax rs.length (MF rs) (fat xs) (fat bs) rs.length, 0) := by unfold offFF; simp [hc, hl, hl2, hf]
            rw [hF] at hQ
            simp [f1, f2, f00, f9, f10, gives_fin K, hf]
            exact hQ _ (ho.trans ho4)
          | false =>
            have hF : offFF rs xs bs = (fzero, 6) := by unfold offFF; simp [hc, hl, hl2, hf]
            rw [hF, cOf_zero] at hQ
            simp [f1, f2, f00, f9, f10, gives_fin K, hf]
            exact hQ _ (ho.trans ho4)
      · simp [hn, hd, hl2]
        have hF : offFF rs xs bs = (fzero, listF bs rs.length) := by unfold offFF; simp [hc, hl, hl2]
        rw [hF, cOf_zero] at hQ
        exact hQ m3 ho
    · simp [hn, hd, hl]
      have hF : offFF rs xs bs = (fzero, listF xs rs.length) := by unfold offFF; simp [hc, hl]
      rw [hF, cOf_zero] at hQ
      exact hQ m2 (ho1.trans ho2)
  · simp [hn, hd, hc]
    have hF : offFF rs xs bs = (fzero, checkF rs) := by unfold offFF; rw [if_pos hc]
    rw [hF, cOf_zero] at hQ
    exact hQ m1 ho1
end Go.Proofs.Ytghhanifakllpaa
