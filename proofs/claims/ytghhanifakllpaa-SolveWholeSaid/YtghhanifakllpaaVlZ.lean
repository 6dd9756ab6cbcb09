/- The law's own: small, a system of small whole numbers out of a list. -/
import Derived.Test.YtghhanifakllpaaVkZ
set_option linter.unusedSimpArgs false
set_option linter.unusedVariables false
namespace Go.Proofs.Ytghhanifakllpaa
open Go.Clean
section
variable {m : Mem} {Q : Value → Mem → Prop}
/-- The first so many floats of a list. -/
theorem gives_cutF {b o len cap : Nat} {x : Blk} {q : IntKind} {k : Nat} (hb : m.at b = some x) (hs : x.sz = 1) (hk : k ≤ cap) (h : Q (.slice (some ⟨b, o, none⟩) k cap) (m.rd b)) :
    Gives (sliceX Try.prog 24 (.slice (some ⟨b, o, none⟩) len cap) none (some (.int q (k : Int))) none) m Q := by
  unfold sliceX
  simp only [under24, size25]
  rw [gives_bind, gives_getB, hb, optQ_some, gives_bind, gives_guard]
  refine ⟨by rw [hs]; rfl, ?_⟩
  have e1 : boundX (some (Value.int q (k : Int))) len cap = some k := by
    show (bif decide (0 ≤ (k : Int) ∧ (k : Int) ≤ (cap : Int)) then some (Int.toNat (k : Int)) else none) = some k
    have : decide (0 ≤ (k : Int) ∧ (k : Int) ≤ (cap : Int)) = true := by simp; omega
    rw [this]; simp
  have e2 : boundX none 0 k = some 0 := rfl
  simp only [e1, e2, Nat.zero_mul, Nat.add_zero, Nat.sub_zero, beq_self_eq_true, Bool.or_true, Bool.true_or, cond_true]
  rw [gives_ret]
  cases hc : cap == 0 <;> exact h
end
/-- A list that grows, in a block of its own. -/
def Gr (m : Mem) (b : Nat) (v : Value) (l : List Value) : Prop := (l = [] ∧ v = .slice none 0 0) ∨ (l ≠ [] ∧ v = .slice (some ⟨b, 0, none⟩) l.length l.length ∧ m.at b = some ⟨l, 1, true, false⟩ ∧ b < m.next)
theorem Gr.keep {m m' : Mem} {b : Nat} {v : Value} {l : List Value} (h : Gr m b v l) (hn : m.next ≤ m'.next) (e : l ≠ [] → m'.at b = m.at b) : Gr m' b v l := by
  rcases h with h | ⟨h1, h2, h3, h4⟩
  · exact .inl h
  · exact .inr ⟨h1, h2, (e h1).trans h3, by omega⟩
theorem push2 {t : TypeId} (h : appOK Try.prog t t 1 = true) {m : Mem} {b : Nat} {v x : Value} {l : List Value} {Q : Value → Mem → Prop} (hg : Gr m b v l) (hoo : l.all oneV = true) (ho : oneV x = true) (hk : l.length < 1000) (hw : WF m)
    (q : ∀ m', m'.next = m.next + 2 → Gr m' (m.next + 1) (.slice (some ⟨m.next + 1, 0, none⟩) (l.length + 1) (l.length + 1)) (l ++ [x]) → (∀ c, c < m.next → (l ≠ [] → c ≠ b) → m'.at c = m.at c) → WF m' → Q (.slice (some ⟨m.next + 1, 0, none⟩) (l.length + 1) (l.length + 1)) m') :
    Gives (appendX Try.prog t t v (.slice (some ⟨m.next, 0, none⟩) 1 1)) (m.nw ⟨[x], 1, false, false⟩) Q := by
  rcases hg with ⟨rfl, rfl⟩ | ⟨h1, rfl, h3, h4⟩
  · refine gives_push h (b := m.next + 1) (l := []) (x := x) (by simp) (.inl ⟨rfl, rfl⟩) rfl ho (by simp) fun m2 n2 a2 o2 => ?_
    simp only [Mem.next_nw, Mem.at_nw] at n2 a2 o2
    refine q m2 (by omega) (.inr ⟨by simp, by simp, a2, by omega⟩) (fun c hc _ => by rw [o2 c (by omega) (by omega), if_neg (by omega)]) fun c y hc => ?_
    by_cases h1 : c < m.next + 2
    · omega
    · rw [o2 c (by omega) (by omega), if_neg (by omega)] at hc
      have := hw c y hc; omega
  · refine gives_push h (b := b) (l := l) (x := x) (by simp) (.inr ⟨h1, rfl, by simp [show b ≠ m.next by omega, h3], by simp; omega⟩) hoo ho (by omega) fun m2 n2 a2 o2 => ?_
    simp only [Mem.next_nw, Mem.at_nw] at n2 a2 o2
    refine q m2 (by omega) (.inr ⟨by simp, by simp, a2, by omega⟩) (fun c hc hb => by rw [o2 c (hb h1) (by omega), if_neg (by omega)]) fun c y hc => ?_
    by_cases h5 : c < m.next + 2
    · omega
    · rw [o2 c (by omega) (by omega), if_neg (by omega)] at hc
      have := hw c y hc; omega

/-- A list of whole numbers, maybe none. -/
def ILz (m : Mem) (v : Value) (n : Nat) (xs : Nat → Int) : Prop := ∃ a k, v = .slice a n k ∧ (n = 0 ∨ ∃ b o x, a = some ⟨b, o, none⟩ ∧ m.at b = some x ∧ ∀ i, i < n → x.cells[o + i]? = some (.int .i64 (xs i)))
theorem ILz.up {m m' : Mem} {v : Value} {n : Nat} {xs : Nat → Int} (h : ILz m v n xs) (hw : WF m) (u : Up m m') : ILz m' v n xs := by
  obtain ⟨a, k, h1, h2⟩ := h
  refine ⟨a, k, h1, ?_⟩
  rcases h2 with h2 | ⟨b, o, x, e1, e2, e3⟩
  · exact .inl h2
  · exact .inr ⟨b, o, x, e1, u.at e2 hw, e3⟩
/-- What small makes of a list: row i, place j. -/
def Kx (N : Nat) (xs : Nat → Int) (k i j : Nat) : Int := if i * (k + 1) + j < N then (xs (i * (k + 1) + j)).tmod 9 else 0
theorem tmod9 (a : Int) : -8 ≤ a.tmod 9 ∧ a.tmod 9 ≤ 8 := by
  have h : (a.tmod 9).natAbs = a.natAbs % 9 := by rw [Int.natAbs_tmod]; rfl
  omega
theorem tmod3 (a : Int) : -2 ≤ a.tmod 3 ∧ a.tmod 3 ≤ 2 := by
  have h : (a.tmod 3).natAbs = a.natAbs % 3 := by rw [Int.natAbs_tmod]; rfl
  omega
theorem Kx_le (N : Nat) (xs : Nat → Int) (k i j : Nat) : -8 ≤ Kx N xs k i j ∧ Kx N xs k i j ≤ 8 := by
  unfold Kx
  split
  · exact tmod9 _
  · omega
noncomputable def fiv (k : Int) : Value := .float .f64 (fi k)
noncomputable def rowL (K : Nat → Nat → Int) (i j : Nat) : List Value := (List.range j).map fun t => fiv (K i t)
noncomputable def rhsL (K : Nat → Nat → Int) (k i : Nat) : List Value := (List.range i).map fun r => fiv (K r k)
def hdC (k : Nat) (ρ : Nat → Nat) (r : Nat) : Value := .slice (some ⟨ρ r, 0, none⟩) k (k + 1)
def hdL (k : Nat) (ρ : Nat → Nat) (i : Nat) : List Value := (List.range i).map (hdC k ρ)
theorem rowL_succ (K : Nat → Nat → Int) (i j : Nat) : rowL K i j ++ [fiv (K i j)] = rowL K i (j + 1) := by unfold rowL; rw [List.range_succ, List.map_append]; rfl
theorem rhsL_succ (K : Nat → Nat → Int) (k i : Nat) : rhsL K k i ++ [fiv (K i k)] = rhsL K k (i + 1) := by unfold rhsL; rw [List.range_succ, List.map_append]; rfl
theorem hdL_succ (k : Nat) (ρ : Nat → Nat) (i b : Nat) : hdL k ρ i ++ [.slice (some ⟨b, 0, none⟩) k (k + 1)] = hdL k (fun r => if r = i then b else ρ r) (i + 1) := by
  unfold hdL
  rw [List.range_succ, List.map_append]
  refine congr (congrArg _ (List.map_congr_left fun r hr => ?_)) ?_
  · have := List.mem_range.1 hr
    unfold hdC
    dsimp only
    rw [if_neg (by omega)]
  · show [_] = [hdC k _ i]
    unfold hdC
    dsimp only
    rw [if_pos rfl]
theorem rowL_len (K : Nat → Nat → Int) (i j : Nat) : (rowL K i j).length = j := by unfold rowL; simp
theorem rhsL_len (K : Nat → Nat → Int) (k i : Nat) : (rhsL K k i).length = i := by unfold rhsL; simp
theorem hdL_len (k : Nat) (ρ : Nat → Nat) (i : Nat) : (hdL k ρ i).length = i := by unfold hdL; simp
theorem rowL_one (K : Nat → Nat → Int) (i j : Nat) : (rowL K i j).all oneV = true := by unfold rowL; simp [fiv]; exact fun _ _ => rfl
theorem rhsL_one (K : Nat → Nat → Int) (k i : Nat) : (rhsL K k i).all oneV = true := by unfold rhsL; simp [fiv]; exact fun _ _ => rfl
theorem hdL_one (k : Nat) (ρ : Nat → Nat) (i : Nat) : (hdL k ρ i).all oneV = true := by unfold hdL; simp [hdC]; exact fun _ _ => rfl
theorem ne_nil {l : List Value} (h : l ≠ []) : 0 < l.length := List.length_pos_iff.2 h
/-- The rows that are made so far, and right sides. -/
structure SmO (m m' : Mem) (K : Nat → Nat → Int) (k i : Nat) (va vb : Value) (ρ : Nat → Nat) (ba bb : Nat) : Prop where
  up : Up m m'
  w : WF m'
  ga : Gr m' ba va (hdL k ρ i)
  gb : Gr m' bb vb (rhsL K k i)
  rows : ∀ r, r < i → m'.at (ρ r) = some ⟨rowL K r (k + 1), 1, true, false⟩ ∧ m.next ≤ ρ r ∧ ρ r < m'.next ∧ ρ r ≠ ba ∧ ρ r ≠ bb
  dab : 0 < i → ba ≠ bb ∧ m.next ≤ ba ∧ m.next ≤ bb
/-- And the row at hand. -/
structure SmM (m m' : Mem) (K : Nat → Nat → Int) (k i j : Nat) (va vb vr : Value) (ρ : Nat → Nat) (ba bb br : Nat) : Prop where
  o : SmO m m' K k i va vb ρ ba bb
  gr : Gr m' br vr (rowL K i j)
  dr : 0 < j → m.next ≤ br ∧ (0 < i → br ≠ ba ∧ br ≠ bb) ∧ ∀ r, r < i → ρ r ≠ br
/-- Another list was pushed on, that none of these is. -/
theorem SmO.keep {m m1 m2 : Mem} {K : Nat → Nat → Int} {k i : Nat} {va vb : Value} {ρ : Nat → Nat} {ba bb b : Nat} (s : SmO m m1 K k i va vb ρ ba bb) (hn : m1.next ≤ m2.next) (hw : WF m2) {e0 : Prop} (e : ∀ c, c < m1.next → (e0 → c ≠ b) → m2.at c = m1.at c)
    (hb : e0 → m.next ≤ b ∧ (0 < i → b ≠ ba ∧ b ≠ bb) ∧ ∀ r, r < i → ρ r ≠ b) : SmO m m2 K k i va vb ρ ba bb := by
  have hu := s.up.next
  refine ⟨⟨by omega, fun c hc => ?_, fun _ => hw⟩, hw, s.ga.keep hn fun h => ?_, s.gb.keep hn fun h => ?_, fun r hr => ?_, s.dab⟩
  · rw [e c (by omega) (fun h0 => by have := (hb h0).1; omega)]; exact s.up.old c hc
  · have hi := ne_nil h
    rw [hdL_len] at hi
    rcases s.ga with ⟨h1, _⟩ | ⟨_, _, _, h4⟩
    · exact absurd h1 h
    · exact e ba h4 fun h0 => Ne.symm ((hb h0).2.1 hi).1
  · have hi := ne_nil h
    rw [rhsL_len] at hi
    rcases s.gb with ⟨h1, _⟩ | ⟨_, _, _, h4⟩
    · exact absurd h1 h
    · exact e bb h4 fun h0 => Ne.symm ((hb h0).2.1 hi).2
  · obtain ⟨q1, q2, q3, q4, q5⟩ := s.rows r hr
    exact ⟨by rw [e _ q3 fun h0 => (hb h0).2.2 r hr]; exact q1, q2, by omega, q4, q5⟩
theorem SmM.push {m m1 m2 : Mem} {K : Nat → Nat → Int} {k i j : Nat} {va vb vr vr' : Value} {ρ : Nat → Nat} {ba bb br : Nat} (s : SmM m m1 K k i j va vb vr ρ ba bb br) (hn : m2.next = m1.next + 2) (hg : Gr m2 (m1.next + 1) vr' (rowL K i j ++ [fiv (K i j)]))
    (e : ∀ c, c < m1.next → (rowL K i j ≠ [] → c ≠ br) → m2.at c = m1.at c) (hw : WF m2) : SmM m m2 K k i (j + 1) va vb vr' ρ ba bb (m1.next + 1) := by
  rw [rowL_succ] at hg
  have hu := s.o.up.next
  refine ⟨s.o.keep (by omega) hw e (fun h => s.dr (by have := ne_nil h; rw [rowL_len] at this; exact this)), hg, fun _ => ⟨by omega, fun hi => ?_, fun r hr => by have := (s.o.rows r hr).2.2.1; omega⟩⟩
  have h1 : ba < m1.next := by
    rcases s.o.ga with ⟨h, _⟩ | ⟨_, _, _, h4⟩
    · have := congrArg List.length h; rw [hdL_len] at this; simp at this; omega
    · exact h4
  have h2 : bb < m1.next := by
    rcases s.o.gb with ⟨h, _⟩ | ⟨_, _, _, h4⟩
    · have := congrArg List.length h; rw [rhsL_len] at this; simp at this; omega
    · exact h4
  omega
theorem SmM.done {m m1 m2 m3 : Mem} {K : Nat → Nat → Int} {k i : Nat} {va vb vr va' vb' : Value} {ρ : Nat → Nat} {ba bb br : Nat} (s : SmM m m1 K k i (k + 1) va vb vr ρ ba bb br) (n2 : m2.next = m1.next + 2) (g2 : Gr m2 (m1.next + 1) vb' (rhsL K k i ++ [fiv (K i k)]))
    (e2 : ∀ c, c < m1.next → (rhsL K k i ≠ [] → c ≠ bb) → m2.at c = m1.at c) (n3 : m3.next = m2.next + 2) (g3 : Gr m3 (m2.next + 1) va' (hdL k ρ i ++ [.slice (some ⟨br, 0, none⟩) k (k + 1)])) (e3 : ∀ c, c < m2.next → (hdL k ρ i ≠ [] → c ≠ ba) → m3.at c = m2.at c) (w3 : WF m3) :
    SmO m m3 K k (i + 1) va' vb' (fun r => if r = i then br else ρ r) (m2.next + 1) (m1.next + 1) := by
  rw [rhsL_succ] at g2
  rw [hdL_succ] at g3
  have hu := s.o.up.next
  have hi1 : rhsL K k i ≠ [] → 0 < i := fun h => by have := ne_nil h; rwa [rhsL_len] at this
  have hi2 : hdL k ρ i ≠ [] → 0 < i := fun h => by have := ne_nil h; rwa [hdL_len] at this
  have hba : hdL k ρ i ≠ [] → m.next ≤ ba ∧ ba < m1.next := fun h => by
    refine ⟨(s.o.dab (hi2 h)).2.1, ?_⟩
    rcases s.o.ga with ⟨h1, _⟩ | ⟨_, _, _, h4⟩
    · exact absurd h1 h
    · exact h4
  have hbb : rhsL K k i ≠ [] → m.next ≤ bb := fun h => (s.o.dab (hi1 h)).2.2
  have hr : m1.at br = some ⟨rowL K i (k + 1), 1, true, false⟩ ∧ br < m1.next := by
    rcases s.gr with ⟨h1, _⟩ | ⟨_, _, h3, h4⟩
    · have := congrArg List.length h1; rw [rowL_len] at this; simp at this
    · exact ⟨h3, h4⟩
  have hd := s.dr (by omega)
  refine ⟨⟨by omega, fun c hc => ?_, fun _ => w3⟩, w3, g3, g2.keep (by omega) fun _ => e3 _ (by omega) fun h => by have := hba h; omega, fun r hr' => ?_, fun _ => by omega⟩
  · rw [e3 c (by omega) (fun h => by have := hba h; omega), e2 c (by omega) (fun h => by have := hbb h; omega)]
    exact s.o.up.old c hc
  · by_cases h : r = i
    · subst h
      simp only [if_true]
      refine ⟨?_, hd.1, by omega, by omega, by omega⟩
      rw [e3 br (by omega) (fun h => (hd.2.1 (hi2 h)).1), e2 br hr.2 (fun h => (hd.2.1 (hi1 h)).2)]
      exact hr.1
    · simp only [h, if_false]
      obtain ⟨q1, q2, q3, q4, q5⟩ := s.o.rows r (by omega)
      refine ⟨?_, q2, by omega, by omega, by omega⟩
      rw [e3 _ (by omega) (fun _ => q4), e2 _ q3 (fun _ => q5)]
      exact q1
theorem bin_rem3 (xo yo : Operand) (a : Int) : binX Try.prog .rem 3 xo yo (.int .i64 a) (.int .i64 3) = some (.int .i64 (a.tmod 3)) := Eq.trans rfl rfl
theorem bin_rem9 (xo yo : Operand) (a : Int) : binX Try.prog .rem 3 xo yo (.int .i64 a) (.int .i64 9) = some (.int .i64 (a.tmod 9)) := Eq.trans rfl rfl
def smoI (m : Mem) (vl : Value) (N : Nat) (xs : Nat → Int) (k : Nat) (q : Nat) (fr : Fr) (m' : Mem) : Prop := ∃ i va vb ρ ba bb, i + q = k ∧ fr.n = 60 ∧ fr.d = [] ∧ fr.at 1 = vl ∧ fr.at 6 = .int .i64 (k : Nat) ∧ fr.at 7 = .int .i64 ((i * (k + 1) : Nat) : Int) ∧ fr.at 8 = va ∧ fr.at 9 = vb ∧ fr.at 10 = .int .i64 (i : Nat) ∧ SmO m m' (Kx N xs k) k i va vb ρ ba bb
def smrI (m : Mem) (vl : Value) (N : Nat) (xs : Nat → Int) (k i : Nat) (q : Nat) (fr : Fr) (m' : Mem) : Prop := ∃ j va vb vr ρ ba bb br, j + q = k + 1 ∧ fr.n = 60 ∧ fr.d = [] ∧ fr.at 1 = vl ∧ fr.at 6 = .int .i64 (k : Nat) ∧ fr.at 7 = .int .i64 ((i * (k + 1) + j : Nat) : Int) ∧ fr.at 8 = va ∧ fr.at 9 = vb ∧ fr.at 10 = .int .i64 (i : Nat) ∧ fr.at 11 = vr ∧ fr.at 12 = .int .i64 (j : Nat) ∧ SmM m m' (Kx N xs k) k i j va vb vr ρ ba bb br
section
set_option maxRecDepth 10000
set_option maxHeartbeats 4000000 in
theorem small_ok (e : Nat) {m : Mem} {vl : Value} {nn : Int} {N : Nat} {xs : Nat → Int} (hw : WF m) (hv : ILz m vl N xs) {Q : Value → Mem → Prop}
    (hQ : ∀ m' k va vb ρ ba bb, 1 ≤ k → k ≤ 3 → SmO m m' (Kx N xs k) k k va vb ρ ba bb → Q (.tuple ⟨[va, vb]⟩) m') :
    Gives (callN Try.prog kn1 (e + 1) 25 [.int .i64 nn, vl]) m Q := by
  refine gives_fn (nt := 60) rfl Try.func25 rfl rfl rfl (Nat.le_of_ble_eq_true rfl) fun fr hn hd hargs => ?_
  have h0 : fr.at 0 = _ := hargs 0 _ rfl
  have h1 : fr.at 1 = _ := hargs 1 _ rfl
  clear hargs
  obtain ⟨al, cl, hvl, hel⟩ := id hv
  have hlen : lenX Try.prog 29 vl = some (.int .i64 N) := by rw [hvl]; simp
  have t3 := tmod3 nn
  obtain ⟨k, hk⟩ : ∃ k : Nat, (k : Int) = (nn.tmod 3 + 3).tmod 3 + 1 := ⟨((nn.tmod 3 + 3).tmod 3 + 1).toNat, by
    have : 0 ≤ (nn.tmod 3 + 3).tmod 3 := by rw [Int.tmod_eq_emod_of_nonneg (by omega)]; omega
    omega⟩
  have hk13 : 1 ≤ k ∧ k ≤ 3 := by
    have : (nn.tmod 3 + 3).tmod 3 = (nn.tmod 3 + 3) % 3 := Int.tmod_eq_emod_of_nonneg (by omega)
    omega
  have hk1 : IntKind.i64.wrap (nn.tmod 3 + 3) = nn.tmod 3 + 3 := w63 _ (by omega) (by omega)
  have hk2 : IntKind.i64.wrap ((nn.tmod 3 + 3).tmod 3 + 1) = (k : Int) := by rw [← hk]; exact w63 _ (by omega) (by omega)
  simp [hn, h0, h1, bin_rem3, hk1, hk2]
  refine code_loop (smoI m vl N xs k) k (by omega) ⟨0, .slice none 0 0, .slice none 0 0, fun _ => 0, 0, 0, by omega, by simp [hn], by simp [hd], by simp [h1], by simp, by simp, by simp, by simp, by simp, ⟨Up.refl m, hw, .inl ⟨rfl, rfl⟩, .inl ⟨rfl, rfl⟩, fun r hr => by omega, fun h => by omega⟩⟩ ?_
  clear hn hd h0 h1
  rintro q fr m1 ⟨i, va, vb, ρ, ba, bb, hiq, hn, hd, h1, h6, h7, h8, h9, h10, S⟩
  by_cases hi : i < k
  · simp [hn, h6, h10, hi]
    refine code_loop (smrI m vl N xs k i) (k + 1) (by omega) ⟨0, va, vb, .slice none 0 0, ρ, ba, bb, 0, by omega, by simp [hn], by simp [hd], by simp [h1], by simp [h6], by simp [h7], by simp [h8], by simp [h9], by simp [h10], by simp, by simp, ⟨S, .inl ⟨rfl, rfl⟩, fun h => by omega⟩⟩ ?_
    clear hn hd h1 h6 h7 h8 h9 h10 S
    rintro q2 fr m2 ⟨j, va, vb, vr, ρ, ba, bb, br, hjq, hn, hd, h1, h6, h7, h8, h9, h10, h11, h12, S⟩
    by_cases hj : j ≤ k
    · have hj' : (j : Int) ≤ (k : Int) := by omega
      obtain ⟨a, ha⟩ : ∃ a, a = i * (k + 1) + j := ⟨_, rfl⟩
      have hale : a ≤ 100 := by
        have : i * (k + 1) ≤ 3 * 4 := Nat.mul_le_mul (by omega) (by omega)
        omega
      rw [← ha] at h7
      have hwa := wrap_succ a (by omega)
      have hwj := wrap_succ j (by omega)
      have hKb := Kx_le N xs k i j
      have hcv := fi_to hKb.1 hKb.2
      have ev : fr.at 1 = .slice al N cl := by rw [h1, hvl]
      rw [hvl] at hlen
      by_cases haN : a < N
      · obtain ⟨b0, o0, x0, ha0, hb0, hx0⟩ := hel.resolve_left (by omega)
        have hK : Kx N xs k i j = (xs a).tmod 9 := by unfold Kx; rw [← ha, if_pos haN]
        rw [hK] at hcv
        have hm2 : m2.at b0 = some x0 := S.o.up.at hb0 hw
        rw [ha0] at ev hlen
        simp [hn, h6, h7, h11, h12, ev, hlen, haN, hj, hj', idx29 _ _ _ _ _ _ haN, hm2, hx0 a haN, bin_rem9, hcv, hwa]
        refine gives_build1 bs24 rfl rfl ?_
        simp [hn]
        refine push2 (m := m2.rd b0) app24 (b := br) (l := rowL (Kx N xs k) i j) (x := .float .f64 (fi ((xs a).tmod 9))) (S.gr.keep (by simp) fun _ => by simp) (rowL_one _ _ _) rfl (by rw [rowL_len]; omega) (fun c y hc => by simp at hc ⊢; exact S.o.w c y hc) fun m3 n3 g3 e3 w3 => ?_
        simp only [Mem.next_rd, Mem.at_rd] at n3 g3 e3
        rw [show Value.float .f64 (fi ((xs a).tmod 9)) = fiv (Kx N xs k i j) by rw [hK]; rfl] at g3
        simp [hn, h12, hwj]
        refine ⟨q2 - 1, by omega, j + 1, va, vb, _, ρ, ba, bb, m2.next + 1, by omega, by simp [hn], by simp [hd], by simp [h1], by simp [h6], ?_, by simp [h8], by simp [h9], by simp [h10], rfl, by simp, ?_⟩
        · simp [ha]; omega
        · simp
          exact S.push n3 g3 e3 w3
      · have haN' : ¬ (a : Int) < (N : Int) := by omega
        have hK : Kx N xs k i j = 0 := by unfold Kx; rw [← ha, if_neg haN]
        rw [hK] at hcv
        simp [hn, h6, h7, h11, h12, ev, hlen, haN, haN', hj, hj', bin_rem9, hcv, hwa]
        refine gives_build1 bs24 rfl rfl ?_
        simp [hn]
        refine push2 (m := m2) app24 (b := br) (l := rowL (Kx N xs k) i j) (x := .float .f64 (fi 0)) S.gr (rowL_one _ _ _) rfl (by rw [rowL_len]; omega) S.o.w fun m3 n3 g3 e3 w3 => ?_
        rw [show Value.float .f64 (fi 0) = fiv (Kx N xs k i j) by rw [hK]; rfl] at g3
        simp [hn, h12, hwj]
        refine ⟨q2 - 1, by omega, j + 1, va, vb, _, ρ, ba, bb, m2.next + 1, by omega, by simp [hn], by simp [hd], by simp [h1], by simp [h6], ?_, by simp [h8], by simp [h9], by simp [h10], rfl, by simp, ?_⟩
        · simp [ha]; omega
        · simp
          exact S.push n3 g3 e3 w3
    · have hjk : j = k + 1 := by omega
      rw [hjk] at S
      have hj' : ¬ (j : Int) ≤ (k : Int) := by omega
      have hrw : rowL (Kx N xs k) i (k + 1) ≠ [] := by intro h; have := congrArg List.length h; rw [rowL_len] at this; simp at this
      obtain ⟨r2, r3, r4⟩ := S.gr.resolve_left (fun h => hrw h.1) |>.2
      rw [rowL_len] at r2
      have ecell : (rowL (Kx N xs k) i (k + 1))[k]? = some (.float .f64 (fi (Kx N xs k i k))) := by unfold rowL; simp; rfl
      rw [r2] at h11
      have hwi := wrap_succ i (by omega)
      simp [hn, h6, h9, h11, h12, hj, hj', idx24 _ _ _ _ _ _ (show k < k + 1 by omega), r3, ecell]
      refine gives_build1 bs24 rfl rfl ?_
      simp [hn]
      refine push2 (m := m2.rd br) app24 (b := bb) (l := rhsL (Kx N xs k) k i) (x := fiv (Kx N xs k i k)) (S.o.gb.keep (by simp) fun _ => by simp) (rhsL_one _ _ _) rfl (by rw [rhsL_len]; omega) (fun c y hc => by simp at hc ⊢; exact S.o.w c y hc) fun m3 n3 g3 e3 w3 => ?_
      simp only [Mem.next_rd, Mem.at_rd] at n3 g3 e3
      have hbr : m3.at br = some ⟨rowL (Kx N xs k) i (k + 1), 1, true, false⟩ := by
        have hd := S.dr (by omega)
        rw [e3 br r4 fun h => (hd.2.1 (by have := ne_nil h; rwa [rhsL_len] at this)).2]; exact r3
      simp [hn, h6, h8, h11]
      refine gives_cutF hbr rfl (show k ≤ k + 1 by omega) ?_
      simp [hn]
      refine gives_build1 bs23 rfl rfl ?_
      simp [hn]
      refine push2 (m := m3.rd br) app23 (b := ba) (l := hdL k ρ i) (x := .slice (some ⟨br, 0, none⟩) k (k + 1)) ?_ (hdL_one _ _ _) rfl (by rw [hdL_len]; omega) (fun c y hc => by simp at hc ⊢; exact w3 c y hc) fun m4 n4 g4 e4 w4 => ?_
      · refine S.o.ga.keep (by simp; omega) fun h => ?_
        have hi0 : 0 < i := by have := ne_nil h; rwa [hdL_len] at this
        have hba : ba < m2.next := by
          rcases S.o.ga with ⟨h1, _⟩ | ⟨_, _, _, h4⟩
          · exact absurd h1 h
          · exact h4
        simp
        exact e3 ba hba fun _ => (S.o.dab hi0).1
      simp only [Mem.next_rd, Mem.at_rd] at n4 g4 e4
      have D := S.done n3 g3 e3 n4 g4 e4 w4
      simp [hn, h10, hwi]
      refine ⟨q - 1, by omega, i + 1, _, _, fun r => if r = i then br else ρ r, m3.next + 1, m2.next + 1, by omega, by simp [hn], by simp [hd], by simp [h1], by simp [h6], ?_, rfl, rfl, by simp, ?_⟩
      · have e1 : (i + 1) * (k + 1) = i * (k + 1) + (k + 1) := by rw [Nat.add_mul, Nat.one_mul]
        rw [e1]
        simp [h7, hjk]
      · simp
        exact D
  · have hik : i = k := by omega
    have hi' : ¬ (i : Int) < (k : Int) := by omega
    simp [hn, hd, h6, h8, h9, h10, hi, hi']
    rw [hik] at S
    exact hQ m1 k va vb ρ ba bb hk13.1 hk13.2 S
end
/-- The rows and right sides, as lists. -/
noncomputable def rowsK (K : Nat → Nat → Int) (k : Nat) : List (List F) := (List.range k).map fun i => (List.range k).map fun j => some (fi (K i j))
noncomputable def rhsK (K : Nat → Nat → Int) (k : Nat) : List F := (List.range k).map fun i => some (fi (K i k))
theorem rat_rowsK {K : Nat → Nat → Int} {k i : Nat} (hi : i < k) : rat' (rowsK K k) i = (List.range k).map fun j => some (fi (K i j)) := by
  unfold rat' rowsK; simp [hi]
theorem fat_rowsK {K : Nat → Nat → Int} {k i j : Nat} (hi : i < k) (hj : j < k) : fat (rat' (rowsK K k) i) j = some (fi (K i j)) := by
  rw [rat_rowsK hi]; unfold fat; simp [hj]
theorem fat_rhsK {K : Nat → Nat → Int} {k i : Nat} (hi : i < k) : fat (rhsK K k) i = some (fi (K i k)) := by
  unfold fat rhsK; simp [hi]
theorem IntM.rows {K : Nat → Nat → Int} {k : Nat} (h : ∀ i j, -8 ≤ K i j ∧ K i j ≤ 8) : IntM k K (rowsK K k) :=
  ⟨by simp [rowsK], fun i hi => by rw [rat_rowsK hi]; simp, fun i j hi hj => fat_rowsK hi hj, fun i j _ _ => (h i j).1, fun i j _ _ => (h i j).2⟩
theorem SmO.fm {m m' : Mem} {K : Nat → Nat → Int} {k : Nat} {va vb : Value} {ρ : Nat → Nat} {ba bb : Nat} (hk : 1 ≤ k) (S : SmO m m' K k k va vb ρ ba bb) (h : ∀ i j, -8 ≤ K i j ∧ K i j ≤ 8) : FM m' va (rowsK K k) := by
  have hl : (rowsK K k).length = k := by simp [rowsK]
  rcases S.ga with ⟨h1, _⟩ | ⟨_, h2, h3, _⟩
  · have := congrArg List.length h1; rw [hdL_len] at this; simp at this; omega
  · rw [hdL_len] at h2
    refine ⟨_, _, by rw [hl]; exact h2, .inr ⟨ba, 0, _, rfl, h3, fun i hi => ?_⟩⟩
    rw [hl] at hi
    obtain ⟨q1, _⟩ := S.rows i hi
    refine ⟨hdC k ρ i, by unfold hdL; simp [hi], ?_⟩
    have hrl : (rat' (rowsK K k) i).length = k := by rw [rat_rowsK hi]; simp
    refine ⟨_, _, by rw [hrl]; rfl, .inr ⟨ρ i, 0, _, rfl, q1, fun j hj => ?_⟩⟩
    rw [hrl] at hj
    rw [fat_rowsK hi hj, fi_no (h i j).1 (h i j).2]
    unfold rowL
    simp [show j < k + 1 by omega]; rfl
theorem SmO.fl {m m' : Mem} {K : Nat → Nat → Int} {k : Nat} {va vb : Value} {ρ : Nat → Nat} {ba bb : Nat} (hk : 1 ≤ k) (S : SmO m m' K k k va vb ρ ba bb) (h : ∀ i j, -8 ≤ K i j ∧ K i j ≤ 8) : FL m' vb (rhsK K k) := by
  have hl : (rhsK K k).length = k := by simp [rhsK]
  rcases S.gb with ⟨h1, _⟩ | ⟨_, h2, h3, _⟩
  · have := congrArg List.length h1; rw [rhsL_len] at this; simp at this; omega
  · rw [rhsL_len] at h2
    refine ⟨_, _, by rw [hl]; exact h2, .inr ⟨bb, 0, _, rfl, h3, fun i hi => ?_⟩⟩
    rw [hl] at hi
    rw [fat_rhsK hi, fi_no (h i k).1 (h i k).2]
    unfold rhsL
    simp [hi]; rfl
end Go.Proofs.Ytghhanifakllpaa

/- Floats as fractions: worth in units of 2^-1074, small whole numbers, near. -/
namespace Go.Proofs.Ytghhanifakllpaa
open Go.Clean Ieee
theorem lpv : double.leastPlace = -1074 := by decide
theorem read_fin {b : Nat} (hf : exF b ≠ 2047) : ∃ s m k, double.read b = .number s m k ∧ s = (b / 9223372036854775808 % 2 == 1) ∧ m = maN b ∧ k = ((exN b - 1 : Nat) : Int) + -1074 := by
  have hw : double.signWeight = 9223372036854775808 := by decide
  have hi : double.infRung = 9218868437227405312 := by decide
  have hb : double.binade = 4503599627370496 := by decide
  unfold Format.read
  simp only [hw, hi, hb, lpv]
  have hex : b % 9223372036854775808 / 4503599627370496 = exF b := by unfold exF; omega
  have hma : b % 9223372036854775808 % 4503599627370496 = maF b := by unfold maF; omega
  have hex2 : exF b < 2048 := by unfold exF; omega
  have hma2 : maF b < 4503599627370496 := by unfold maF; omega
  obtain ⟨r, hr⟩ : ∃ r, r = b % 9223372036854775808 := ⟨_, rfl⟩
  rw [← hr] at hex hma ⊢
  by_cases h1 : r < 4503599627370496
  · rw [if_pos h1]
    have hz : exF b = 0 := by omega
    refine ⟨_, _, _, rfl, rfl, ?_, ?_⟩
    · unfold maN; rw [if_pos hz]; omega
    · unfold exN; rw [if_pos hz]; rfl
  · rw [if_neg h1, if_pos (by omega)]
    have hz : exF b ≠ 0 := by omega
    refine ⟨_, _, _, rfl, rfl, ?_, ?_⟩
    · unfold maN; rw [if_neg hz]; omega
    · unfold exN; rw [if_neg hz, hex]; omega
theorem fin_ex {b : Nat} (h : Nu.Fi (some b)) : exF b ≠ 2047 ∧ Clean.isNaN b = false := by
  obtain ⟨b', s, m, k, e, h1⟩ := h
  cases e
  refine ⟨fun he => ?_, ?_⟩
  · have hw : double.signWeight = 9223372036854775808 := by decide
    have hi : double.infRung = 9218868437227405312 := by decide
    have hb : double.binade = 4503599627370496 := by decide
    have hex : b % 9223372036854775808 / 4503599627370496 = exF b := by unfold exF; omega
    unfold Format.read at h1
    simp only [hw, hi, hb] at h1
    rw [if_neg (by omega), if_neg (by omega)] at h1
    split at h1 <;> exact absurd h1 (by simp)
  · show (double.read b).isNaN = false
    rw [h1]; rfl
theorem vq_wth {b : Nat} (hb : b < 18446744073709551616) (hf : exF b ≠ 2047) : Nu.Fi (some b) ∧ Nu.vq (some b) * Nu.p2 1074 = ((wth b : Int) : Rat) := by
  obtain ⟨s, m, k, h1, hs, hm, hk⟩ := read_fin hf
  refine ⟨⟨b, s, m, k, rfl, h1⟩, ?_⟩
  rw [Nu.vq_some h1]
  unfold Nu.nv
  rw [hk, Nu.p2_add, Rat.mul_assoc, Rat.mul_assoc, Rat.mul_assoc, ← Nu.p2_add, show (-1074 : Int) + 1074 = 0 by decide, Nu.p2_zero, Rat.mul_one, ← Nu.nat_p2, hm]
  have hsd : s = decide (b / 9223372036854775808 = 1) := by
    rw [hs]
    have : b / 9223372036854775808 < 2 := by omega
    by_cases h : b / 9223372036854775808 = 1
    · rw [h]; rfl
    · rw [show b / 9223372036854775808 = 0 by omega]; rfl
  unfold wth
  rw [← hsd]
  unfold sgn Nu.sg
  cases s
  · simp only [Bool.false_eq_true, if_false, cond_false]
    rw [Rat.one_mul]; rfl
  · simp only [if_true, cond_true]
    rw [Rat.intCast_neg]
    show -1 * _ = -_
    have : (((maN b * 2 ^ (exN b - 1) : Nat) : Int) : Rat) = ((maN b * 2 ^ (exN b - 1) : Nat) : Rat) := rfl
    rw [this]; grind
theorem ipow (n : Nat) : (((2 ^ n : Int)) : Rat) = Nu.p2 (n : Int) := by
  rw [Nu.p2_nat]
  have : ((2 ^ n : Nat) : Int) = 2 ^ n := by simp
  show ((2 ^ n : Int) : Rat) = (((2 ^ n : Nat) : Int) : Rat)
  rw [this]
theorem npow (n : Nat) : (((2 ^ n : Nat)) : Rat) = Nu.p2 (n : Int) := (Nu.p2_nat n).symm
theorem fi_rv {k : Int} (h1 : -8 ≤ k) (h2 : k ≤ 8) : Nu.RV (some (fi k)) ((k : Int) : Rat) := by
  have hp := List.all_eq_true.1 fi_plain k (mem_small h1 h2)
  simp only [Bool.and_eq_true, decide_eq_true_eq] at hp
  have hw := List.all_eq_true.1 fi_worth k (mem_small h1 h2)
  simp only [decide_eq_true_eq] at hw
  obtain ⟨a, b⟩ := vq_wth hp.1.2 hp.2
  rw [hw] at b
  have e : (((k * 2 ^ 1074 : Int)) : Rat) = (k : Rat) * Nu.p2 1074 := by
    rw [Rat.intCast_mul, ipow 1074]; rfl
  rw [e] at b
  have := Nu.cancel_pos (Nu.p2_pos 1074) b
  rw [← this]; exact a.rv
theorem natAbs_rabs (T : Int) : ((T.natAbs : Nat) : Rat) = Nu.rabs (T : Rat) := by
  unfold Nu.rabs
  by_cases h : 0 ≤ T
  · have h1 : ((0 : Int) : Rat) ≤ ((T : Int) : Rat) := Rat.intCast_le_intCast.2 h
    have e0 : ((0 : Int) : Rat) = 0 := rfl
    rw [e0] at h1
    rw [if_pos h1]
    have : ((T.natAbs : Nat) : Int) = T := by omega
    have e : ((T.natAbs : Nat) : Rat) = (((T.natAbs : Nat) : Int) : Rat) := rfl
    rw [e, this]
  · have h1 : ((T : Int) : Rat) ≤ ((-1 : Int) : Rat) := Rat.intCast_le_intCast.2 (by omega)
    have e0 : ((-1 : Int) : Rat) = -1 := rfl
    rw [e0] at h1
    rw [if_neg (by grind)]
    have : ((T.natAbs : Nat) : Int) = -T := by omega
    have e : ((T.natAbs : Nat) : Rat) = (((T.natAbs : Nat) : Int) : Rat) := rfl
    rw [e, this, Rat.intCast_neg]
theorem qz5 (q Z d n : Rat) : q * Z * d - n * Z = Z * (q * d - n) := by grind
theorem qz4 (Z a r p : Rat) : Z * (a * r) * p = Z * r * (a * p) := by grind
/-- What near asks. -/
theorem near_law {b : Nat} {num dn : Int} {p : Nat} (hb : b < 18446744073709551616) (hf : exF b ≠ 2047) (hd : dn ≠ 0) (h : Nu.Ab (Nu.vq (some b) * ((dn : Int) : Rat) - ((num : Int) : Rat)) (Nu.p2 (-(p : Int)) * Nu.rabs ((dn : Int) : Rat))) :
    (wth b * (dn.natAbs : Int) + -(if dn < 0 then -num else num) * 2 ^ 1074).natAbs * 2 ^ p ≤ 2 ^ 1074 * dn.natAbs := by
  obtain ⟨_, hw⟩ := vq_wth hb hf
  obtain ⟨T, hT⟩ : ∃ T, T = wth b * (dn.natAbs : Int) + -(if dn < 0 then -num else num) * 2 ^ 1074 := ⟨_, rfl⟩
  rw [← hT]
  have hZ := Nu.p2_pos 1074
  have eZ : (((2 ^ 1074 : Int)) : Rat) = Nu.p2 1074 := by rw [ipow 1074]; rfl
  have hD : (((dn.natAbs : Nat) : Int) : Rat) = Nu.rabs (dn : Rat) := natAbs_rabs dn
  have hTr : Nu.rabs ((T : Int) : Rat) = Nu.p2 1074 * Nu.rabs (Nu.vq (some b) * ((dn : Int) : Rat) - ((num : Int) : Rat)) := by
    have e1 : Nu.p2 1074 = Nu.rabs (Nu.p2 1074) := by unfold Nu.rabs; rw [if_pos (Rat.le_of_lt hZ)]
    have e2 : ((T : Int) : Rat) = Nu.vq (some b) * Nu.p2 1074 * Nu.rabs (dn : Rat) - ((if dn < 0 then -num else num : Int) : Rat) * Nu.p2 1074 := by
      rw [hT, Rat.intCast_add, Rat.intCast_mul, Rat.intCast_mul, Rat.intCast_neg, hD, eZ, hw]; grind
    rw [e1, ← Nu.rabs_mul, e2]
    by_cases hn : dn < 0
    · rw [if_pos hn]
      have h1 : ((dn : Int) : Rat) ≤ ((-1 : Int) : Rat) := Rat.intCast_le_intCast.2 (by omega)
      have e0 : ((-1 : Int) : Rat) = -1 := rfl
      rw [e0] at h1
      have e3 : Nu.rabs (dn : Rat) = -(dn : Rat) := by unfold Nu.rabs; rw [if_neg (by grind)]
      rw [e3, Rat.intCast_neg]
      have e4 : Nu.vq (some b) * Nu.p2 1074 * -(dn : Rat) - -(num : Rat) * Nu.p2 1074 = -(Nu.p2 1074 * (Nu.vq (some b) * (dn : Rat) - (num : Rat))) := by grind
      rw [e4]
      unfold Nu.rabs; split <;> split <;> grind
    · rw [if_neg hn]
      have h1 : ((0 : Int) : Rat) ≤ ((dn : Int) : Rat) := Rat.intCast_le_intCast.2 (by omega)
      have e0 : ((0 : Int) : Rat) = 0 := rfl
      rw [e0] at h1
      have e3 : Nu.rabs (dn : Rat) = (dn : Rat) := by unfold Nu.rabs; rw [if_pos h1]
      rw [e3]
      exact congrArg Nu.rabs (qz5 _ _ _ _)
  have h2 := Nu.rabs_ab.2 h
  have hpp : Nu.p2 (-(p : Int)) * Nu.p2 (p : Int) = 1 := by rw [← Nu.p2_add, show -(p : Int) + (p : Int) = 0 by omega, Nu.p2_zero]
  have hp := Nu.p2_pos (p : Int)
  have h3 := Rat.mul_le_mul_of_nonneg_left h2 (Rat.le_of_lt hZ)
  rw [← hTr] at h3
  have h4 := Rat.mul_le_mul_of_nonneg_right h3 (Rat.le_of_lt hp)
  obtain ⟨Zn, hZn⟩ : ∃ Zn : Nat, Zn = 2 ^ 1074 := ⟨_, rfl⟩
  have e6 : ((Zn : Nat) : Rat) = Nu.p2 1074 := by rw [hZn, npow 1074]; rfl
  rw [← hZn]
  have h5 : ((T.natAbs * 2 ^ p : Nat) : Rat) ≤ ((Zn * dn.natAbs : Nat) : Rat) := by
    clear hZn
    rw [Nu.nat_p2, Rat.natCast_mul, natAbs_rabs T]
    have e5 : ((dn.natAbs : Nat) : Rat) = Nu.rabs (dn : Rat) := natAbs_rabs dn
    rw [e5, e6]
    refine Rat.le_trans h4 ?_
    rw [qz4, hpp, Rat.mul_one]
    exact Rat.le_refl
  exact Rat.natCast_le_natCast.1 h5
end Go.Proofs.Ytghhanifakllpaa
