/- The law of poles in the clean executor: rows that grow; what is off. -/
import Derived.Test.YtonmjdhdkkmjlaaSC
import Derived.Test.YtonmjdhdkkmjlaaRL
namespace Go.Proofs.Ytonmjdhdkkmjlaa
open Go.Clean

/-! ### Rows that grow -/
theorem push_up {m m1 m5 : Mem} {b : Nat} (u : Up m m1) (hn : m5.next = m1.next + 1) (hb : m.next ≤ b) (hb2 : b ≤ m1.next) (h : ∀ c, c ≠ b → c ≠ m1.next → m5.at c = m1.at c) : Up m m5 := by
  have hu := u.next
  refine ⟨by omega, fun c hc => ?_, fun w c y hc => ?_⟩
  · rw [h c (by omega) (by omega)]; exact u.old c hc
  · by_cases h1 : c = b
    · omega
    · by_cases h2 : c = m1.next
      · omega
      · rw [h c h1 h2] at hc
        have := u.wf w c y hc
        omega
def GZ (m0 m : Mem) (v : Value) (l : List Value) (r : Nat) (zC : Nat → C) : Prop := l.length = r ∧ (∀ i, i < r → l[i]? = some (cx (zC i))) ∧ ((r = 0 ∧ v = .slice none 0 0) ∨ ∃ b, v = .slice (some ⟨b, 0, none⟩) r r ∧ m.at b = some ⟨l, 1, true, false⟩ ∧ m0.next ≤ b)
def GP (m0 m : Mem) (v : Value) (l : List Value) (r : Nat) (zC rC : Nat → C) : Prop := PC l r zC rC ∧ ((r = 0 ∧ v = .slice none 0 0) ∨ ∃ b, v = .slice (some ⟨b, 0, none⟩) r r ∧ m.at b = some ⟨l, 2, true, false⟩ ∧ m0.next ≤ b)
theorem GZ.val {m0 m : Mem} {v : Value} {l : List Value} {r : Nat} {zC : Nat → C} (h : GZ m0 m v l r zC) : ∃ a, v = .slice a r r := by
  rcases h.2.2 with ⟨rfl, rfl⟩ | ⟨b, rfl, _⟩
  · exact ⟨_, rfl⟩
  · exact ⟨_, rfl⟩
theorem GP.val {m0 m : Mem} {v : Value} {l : List Value} {r : Nat} {zC rC : Nat → C} (h : GP m0 m v l r zC rC) : ∃ a, v = .slice a r r := by
  rcases h.2 with ⟨rfl, rfl⟩ | ⟨b, rfl, _⟩
  · exact ⟨_, rfl⟩
  · exact ⟨_, rfl⟩
theorem GZ.keep {m0 m m' : Mem} {v : Value} {l : List Value} {r : Nat} {zC : Nat → C} (h : GZ m0 m v l r zC) (e : ∀ c l, m.at c = some ⟨l, 1, true, false⟩ → m'.at c = m.at c) : GZ m0 m' v l r zC := by
  refine ⟨h.1, h.2.1, ?_⟩
  rcases h.2.2 with h1 | ⟨b, h1, h2, h3⟩
  · exact .inl h1
  · exact .inr ⟨b, h1, by rw [e b l h2]; exact h2, h3⟩
theorem GP.keep {m0 m m' : Mem} {v : Value} {l : List Value} {r : Nat} {zC rC : Nat → C} (h : GP m0 m v l r zC rC) (e : ∀ c l, m.at c = some ⟨l, 2, true, false⟩ → m'.at c = m.at c) : GP m0 m' v l r zC rC := by
  refine ⟨h.1, ?_⟩
  rcases h.2 with h1 | ⟨b, h1, h2, h3⟩
  · exact .inl h1
  · exact .inr ⟨b, h1, by rw [e b l h2]; exact h2, h3⟩
theorem GZ.up {m0 m m' : Mem} {v : Value} {l : List Value} {r : Nat} {zC : Nat → C} (h : GZ m0 m v l r zC) (hw : MW m) (u : Up m m') : GZ m0 m' v l r zC := h.keep fun c l hc => by rw [u.at hc hw, hc]
theorem GP.up {m0 m m' : Mem} {v : Value} {l : List Value} {r : Nat} {zC rC : Nat → C} (h : GP m0 m v l r zC rC) (hw : MW m) (u : Up m m') : GP m0 m' v l r zC rC := h.keep fun c l hc => by rw [u.at hc hw, hc]
theorem GP.pol {m0 m : Mem} {v : Value} {l : List Value} {r : Nat} {zC rC : Nat → C} (h : GP m0 m v l r zC rC) : PoL m v r zC rC := by
  rcases h.2 with h1 | ⟨b, h1, h2, _⟩
  · exact .inl h1
  · exact .inr ⟨b, l, true, h1, h2, h.1⟩
theorem GZ.al {m0 m : Mem} {v : Value} {l : List Value} {r : Nat} {zC : Nat → C} {zG : Nat → G} (h : GZ m0 m v l r zC) (hz : ∀ i, i < r → WC (zC i) (zG i)) : AL m v r zC zG := by
  refine ⟨h.val, fun h0 => ?_⟩
  rcases h.2.2 with ⟨h1, _⟩ | ⟨b, h1, h2, _⟩
  · omega
  · rw [h1]
    exact PX.own h2 ⟨h.1, fun i hi => ⟨h.2.1 i hi, hz i hi⟩⟩
section
variable {m0 m : Mem} {Q : Value → Mem → Prop}
theorem push_z {v : Value} {l : List Value} {r b1 : Nat} {zC : Nat → C} (u : Up m0 m) (hw0 : MW m0) (h : GZ m0 m v l r zC) (hx : m.at b1 = some ⟨[cx (zC r)], 1, false, false⟩) (hr : r < 1000)
    (hQ : ∀ m' v', Up m0 m' → m'.next = m.next + 1 → GZ m0 m' v' (l ++ [cx (zC r)]) (r + 1) zC → (∀ c l, m.at c = some ⟨l, 2, true, false⟩ → m'.at c = m.at c) → Q v' m') :
    Gives (appendX Try.prog 24 24 v (.slice (some ⟨b1, 0, none⟩) 1 1)) m Q := by
  have hw := u.wf hw0
  obtain ⟨h1, h2, h3⟩ := h
  have hone : l.all oneV = true := by
    rw [List.all_eq_true]
    intro y hy
    obtain ⟨i, hi, hy⟩ := List.mem_iff_getElem.1 hy
    have h4 := h2 i (by omega)
    rw [List.getElem?_eq_getElem hi, hy] at h4
    cases h4; exact one_cx _
  have hget : ∀ i, i < r + 1 → (l ++ [cx (zC r)])[i]? = some (cx (zC i)) := fun i hi => by
    by_cases hir : i = r
    · subst hir
      rw [List.getElem?_append_right (by omega), h1, Nat.sub_self]; rfl
    · rw [List.getElem?_append_left (by omega)]; exact h2 i (by omega)
  have hlen : (l ++ [cx (zC r)]).length = r + 1 := by simp [h1]
  rcases h3 with ⟨h3, h4⟩ | ⟨b, h3, h4, h5⟩
  · have hl0 : l = [] := List.eq_nil_of_length_eq_zero (by omega)
    refine gives_push app_L (b := m.next) hx (.inl ⟨hl0, h4⟩) hone (one_cx _) (by omega) fun m' n' a' e' => ?_
    rw [h1]
    refine hQ m' _ (push_up u n' u.next (Nat.le_refl _) e') n' ⟨hlen, hget, .inr ⟨m.next, rfl, a', u.next⟩⟩ fun c l2 hc => e' c ?_ ?_
    · have := hw c _ hc; omega
    · have := hw c _ hc; omega
  · have hb := hw b _ h4
    by_cases hl : l = []
    · have hr0 : r = 0 := by rw [hl] at h1; simpa using h1.symm
      subst hr0
      subst hl
      rw [h3]
      have hx2 : takeN [cx (zC 0)] 0 (1 * 1) = some [cx (zC 0)] := rfl
      refine gives_append_grow app_L (old := []) h4 rfl hx hx2 rfl (by simp) (by omega) (by omega) ?_
      refine hQ _ _ (push_up (b := b) u (m5 := (((m.rd b1).rd b).wr b none).nw ⟨[] ++ [cx (zC 0)], 1, true, false⟩) (by simp) h5 (by omega) fun c h1 h2 => by simp [h1, h2]) (by simp) ⟨by simp, hget, .inr ⟨m.next, by simp, by simp, u.next⟩⟩ fun c l2 hc => ?_
      have : c ≠ b := fun e => by rw [e, h4] at hc; cases hc
      have := hw c _ hc
      simp [show c ≠ b by assumption, show c ≠ m.next by omega]
    · refine gives_push app_L (b := b) hx (.inr ⟨hl, by rw [h1]; exact h3, h4, by omega⟩) hone (one_cx _) (by omega) fun m' n' a' e' => ?_
      rw [h1]
      refine hQ m' _ (push_up u n' h5 (by omega) e') n' ⟨hlen, hget, .inr ⟨m.next, rfl, a', u.next⟩⟩ fun c l2 hc => e' c ?_ ?_
      · exact fun e => by rw [e, h4] at hc; cases hc
      · have := hw c _ hc; omega
theorem push_p {v : Value} {l : List Value} {r b1 : Nat} {zC rC : Nat → C} (u : Up m0 m) (hw0 : MW m0) (h : GP m0 m v l r zC rC) (hx : m.at b1 = some ⟨[cx (zC r), cx (rC r)], 2, false, false⟩) (hr : r < 1000)
    (hQ : ∀ m' v', Up m0 m' → m'.next = m.next + 1 → GP m0 m' v' (l ++ [cx (zC r), cx (rC r)]) (r + 1) zC rC → (∀ c l, m.at c = some ⟨l, 1, true, false⟩ → m'.at c = m.at c) → Q v' m') :
    Gives (appendX Try.prog 54 54 v (.slice (some ⟨b1, 0, none⟩) 1 1)) m Q := by
  have hw := u.wf hw0
  obtain ⟨h1, h3⟩ := h
  rcases h3 with ⟨h3, h4⟩ | ⟨b, h3, h4, h5⟩
  · refine gives_pushP (b := m.next) hx (.inl ⟨h3, h4⟩) h1.1 h1.one (by omega) fun m' n' a' e' => ?_
    refine hQ m' _ (push_up u n' u.next (Nat.le_refl _) e') n' ⟨h1.push, .inr ⟨m.next, rfl, a', u.next⟩⟩ fun c l2 hc => e' c ?_ ?_
    · have := hw c _ hc; omega
    · have := hw c _ hc; omega
  · have hb := hw b _ h4
    refine gives_pushP (b := b) hx (.inr ⟨h3, h4, by omega⟩) h1.1 h1.one (by omega) fun m' n' a' e' => ?_
    refine hQ m' _ (push_up u n' h5 (by omega) e') n' ⟨h1.push, .inr ⟨m.next, rfl, a', u.next⟩⟩ fun c l2 hc => e' c ?_ ?_
    · exact fun e => by rw [e, h4] at hc; cases hc
    · have := hw c _ hc; omega
end

/-! ### What is off -/
theorem RV.no {x : F} {q : Rat} (h : RV x q) : ∃ b, x = some b ∧ cOf x = b := by
  obtain ⟨b, s, mm, k, rfl, hr, _⟩ := h
  refine ⟨b, rfl, canon_yes ?_⟩
  unfold isNo
  rw [hr]; rfl
theorem bin_csubR {P : Program} {t : TypeId} {xo yo : Operand} {x y : C} {r s : Rat} (h1 : RV (fsub x.1 y.1) r) (h2 : RV (fsub x.2 y.2) s) : binX P .sub t xo yo (cx x) (cx y) = some (cx (csub x y)) := by
  have e1 := floatX_fop .sub x.1 y.1 (.inr (.inl rfl))
  have e2 := floatX_fop .sub x.2 y.2 (.inr (.inl rfl))
  obtain ⟨b1, hb1, hc1⟩ := h1.no
  obtain ⟨b2, hb2, hc2⟩ := h2.no
  have g1 : fop .sub x.1 y.1 = some b1 := hb1
  have g2 : fop .sub x.2 y.2 = some b2 := hb2
  rw [g1] at e1
  rw [g2] at e2
  unfold cx csub
  show binX P .sub t xo yo (.complex .f64 (cOf x.1) (cOf x.2)) (.complex .f64 (cOf y.1) (cOf y.2)) = some (.complex .f64 (cOf (fsub x.1 y.1)) (cOf (fsub x.2 y.2)))
  rw [hc1, hc2]
  unfold binX
  simp only [isSum, cond_true, e1, e2]
theorem bin_cneq_no {P : Program} {t : TypeId} {xo yo : Operand} {x : C} {g : G} (hx : WC x g) : binX P .neq t xo yo (cx x) (cx x) = some (.bool false) := by
  have h : (feq x.1 x.1 && feq x.2 x.2) = true := hx.ceq hx
  have e : binX P .neq t xo yo (cx x) (cx x) = some (.bool (!(feq x.1 x.1 && feq x.2 x.2))) := by
    unfold cx binX
    simp only [isSum, eqlX, cond_false, Option.map_some]
    rw [order_c, order_c]; rfl
  rw [e, h]; rfl
def f40 : F := some 4427038433705197568
theorem fv_f40 : Value.float .f64 4427038433705197568 = fv f40 := by
  have : cOf f40 = 4427038433705197568 := by decide
  unfold fv; rw [this]
theorem bin_f40 {P : Program} {t : TypeId} {xo yo : Operand} (x : F) : binX P .leq t xo yo (fv x) (.float .f64 4427038433705197568) = some (.bool (fle x f40)) := by
  rw [fv_f40]
  exact bin_fle x f40
theorem run_absF (x : F) (n : Nat) (m : Mem) (Q : Value → Mem → Prop) : Gives (callN Try.prog known (n + 1) 36 [fv x]) m Q ↔ Q (fv (fabs x)) m := run_abs x n m Q
theorem RV.f40 : RV f40 (p2 (-40)) := by
  refine ⟨_, false, 4503599627370496, -92, rfl, by decide, ?_⟩
  unfold nv sg
  have : ((4503599627370496 : Nat) : Rat) = p2 52 := by rw [show p2 52 = ((2 ^ 52 : Nat) : Rat) from p2_nat 52]
  rw [this, ← p2_add]
  simp
theorem off_small {x y : F} {r : Rat} {t : Int} (hx : RV x r) (hy : WF y t) (hn : Nr r (t : Rat) (p2 (-43))) : ∃ s, RV (fsub x y) s ∧ fle (fabs (fsub x y)) f40 = true := by
  have hab : Ab (r - (t : Rat)) (p2 (-43)) := nr_ab.1 hn
  obtain ⟨s, hs, hns⟩ := RV.sub hx hy.rv hab (p2_mono (by decide))
  refine ⟨s, hs, ?_⟩
  rw [hs.abs.le RV.f40, decide_eq_true_iff]
  refine ab_rabs ?_
  have h1 : e53 (p2 (-43)) ≤ p2 (-43) := by
    have a1 : p2 (-43) * p2 (-53) = p2 (-96) := by rw [← p2_add]; rfl
    have a2 : p2 (-96) ≤ p2 (-44) := p2_mono (by decide)
    have a3 : p2 (-1075) ≤ p2 (-44) := p2_mono (by decide)
    have a4 : 2 * p2 (-44) = p2 (-43) := by rw [p2_two]; rfl
    unfold e53
    rw [a1]
    grind
  have h2 : 2 * p2 (-43) ≤ p2 (-40) := by rw [p2_two]; exact p2_mono (by decide)
  unfold Nr at hns
  unfold Ab at hab ⊢
  grind
end Go.Proofs.Ytonmjdhdkkmjlaa
