/- A region that draws its order: a load may be taken first where nobody who can come ahead of operation L writes its cell, L being one that waits for the load; behind L nothing is asked of the world any more. Several such conditions side by side. (After OrdersHeld's law, with the conditions on the world let go.) -/
import Derived.OrdersHeld
import Derived.RegionTactic
namespace Go
section
variable {P : Program} {ops : Array Oper} {Q : Exit → Act → World → Prop} {md : Region.Mode} {T : List ((World → Prop) × Option Nat)}

/-- Has operation L come up? ('none': never.) -/
def gone (L : Option Nat) (listed : Array Bool) : Bool := match L with | none => false | some l => listed.getD l true
/-- Each condition holds, as long as its operation has not come up. -/
def Till (T : List ((World → Prop) × Option Nat)) (listed : Array Bool) (w : World) : Prop := ∀ p ∈ T, gone p.2 listed = false → p.1 w
theorem gone_set {L : Option Nat} {i : Nat} {listed : Array Bool} (h : L ≠ some i) : gone L (listed.setIfInBounds i true) = gone L listed := by
  cases L with
  | none => rfl
  | some l => exact getD_set_ne true (fun e => h (by rw [e]))

def wpAnyG (P : Program) (md : Region.Mode) (ops : Array Oper) (Q : Exit → Act → World → Prop) (T : List ((World → Prop) × Option Nat)) : Nat → Array Bool → Act → World → Prop
  | 0, listed, a, w => Region.ready md ops listed = [] ∧ Q .normal a w
  | fuel + 1, listed, a, w =>
    (Region.ready md ops listed = [] → Q .normal a w) ∧
    ∀ i ∈ Region.ready md ops listed, wpOp P ops Q i (fun a' w' => Till T (listed.setIfInBounds i true) w' ∧ wpAnyG P md ops Q T fuel (listed.setIfInBounds i true) a' w') a w

theorem wpAny_of_till : ∀ (fuel : Nat) (listed : Array Bool) (a : Act) (w : World), wpAnyG P md ops Q T fuel listed a w → wpAny P md ops Q fuel listed a w
  | 0, _, _, _, h => h
  | fuel + 1, _, _, _, h => ⟨h.1, fun i hi => wpOp_mono (fun a' w' h' => wpAny_of_till fuel _ a' w' h'.2) (h.2 i hi)⟩

/-- Operation L waits for i. -/
def waits (md : Region.Mode) (ops : Array Oper) (L : Option Nat) (i : Nat) : Bool := match L with
  | none => true
  | some l => ((ops[l]?).map fun o => o.after.any fun e => Region.binds md e && e.on == i).getD false && l != i

/-- i is none of the conditions' operations. -/
def notLate (T : List ((World → Prop) × Option Nat)) (i : Nat) : Bool := T.all fun p => p.2 != some i
theorem notLate_ne {i : Nat} (h : notLate T i = true) : ∀ p ∈ T, p.2 ≠ some i := fun p hp => by
  have := List.all_eq_true.1 h p hp
  simpa using this

theorem till_set {i : Nat} {listed : Array Bool} {w : World} (hT : notLate T i = true) (h : Till T listed w) : Till T (listed.setIfInBounds i true) w := fun p hp hl =>
  h p hp (by rw [gone_set (notLate_ne hT p hp)] at hl; exact hl)
theorem till_unset {i j : Nat} {listed : Array Bool} {w : World} (hT : notLate T i = true) (hji : j ≠ i) (h : Till T ((listed.setIfInBounds i true).setIfInBounds j true) w) : Till T (listed.setIfInBounds j true) w := fun p hp hl =>
  h p hp (by rw [Array.setIfInBounds_comm _ _ (Ne.symm hji), gone_set (notLate_ne hT p hp)]; exact hl)

/-- Operation i may be taken first: under condition p, or whatever the world. -/
theorem wpAnyG_first {i : Nat} {oi : Oper} {v : Value} (hi : ops[i]? = some oi) (hsel : ∀ (j : Nat) (o : Oper) cs b, ops[j]? = some o → o.op ≠ .select cs b)
    (hQ : ∀ c a w, Q (.panic c) (a.put oi.dst v) w → Q (.panic c) a w) (hT : notLate T i = true) (p : (World → Prop) × Option Nat) (hp : (p ∈ T ∧ waits md ops p.2 i = true) ∨ ∀ w, p.1 w) :
    ∀ (fuel : Nat) (listed : Array Bool) (a : Act) (w : World),
      (∀ j oj, ops[j]? = some oj → j ≠ i → listed.getD j true = false → (∀ e ∈ oj.after, Region.binds md e = true → e.on ≠ i) → oi.apart ops oj = true) →
      i ∈ Region.ready md ops listed → YieldsIf P ops p.1 oi v a → ((∀ w, p.1 w) ∨ gone p.2 listed = false) → Till T listed w →
      wpAnyG P md ops Q T fuel (listed.setIfInBounds i true) (a.put oi.dst v) w → wpAnyG P md ops Q T (fuel + 1) listed a w := by
  have hwait : ∀ j oj, ops[j]? = some oj → (∀ e ∈ oj.after, Region.binds md e = true → e.on ≠ i) → (∀ w, p.1 w) ∨ p.2 ≠ some j := by
    intro j oj hoj hnot
    rcases hp with ⟨hpT, hL⟩ | hp
    · right
      intro hpj
      unfold waits at hL
      rw [hpj] at hL
      simp only [hoj, Option.map_some, Option.getD_some, Bool.and_eq_true] at hL
      obtain ⟨e, he, hb⟩ := Array.any_eq_true'.1 hL.1
      simp only [Bool.and_eq_true, beq_iff_eq] at hb
      exact hnot e he hb.1 hb.2
    · exact .inl hp
  have hS : ∀ (listed : Array Bool) (w : World), ((∀ w, p.1 w) ∨ gone p.2 listed = false) → Till T listed w → p.1 w := by
    intro listed w hl ht
    rcases hl with hl | hl
    · exact hl w
    · rcases hp with ⟨hpT, _⟩ | hp
      · exact ht p hpT hl
      · exact hp w
  intro fuel
  induction fuel with
  | zero =>
    intro listed a w _ hr hy hLs ht H
    refine ⟨fun h => (by rw [h] at hr; cases hr), fun j hj => ?_⟩
    by_cases hji : j = i
    · subst hji; exact hy.wpOp hi (hS _ _ hLs ht) ⟨till_set hT ht, H⟩
    · have := ready_mono hj hji
      rw [H.1] at this
      cases this
  | succ fuel ih =>
    intro listed a w hfree hr hy hLs ht H
    refine ⟨fun h => (by rw [h] at hr; cases hr), fun j hj => ?_⟩
    by_cases hji : j = i
    · subst hji; exact hy.wpOp hi (hS _ _ hLs ht) ⟨till_set hT ht, H⟩
    · have h1 := H.2 j (ready_mono hj hji)
      obtain ⟨hjun, oj, hoj, hall⟩ := mem_ready.1 hj
      have hnot : ∀ e ∈ oj.after, Region.binds md e = true → e.on ≠ i := fun e he hb heq => by
        have h1 := hall e he hb
        have h0 := (mem_ready.1 hr).1
        rw [heq] at h1
        rcases Nat.lt_or_ge i listed.size with h' | h'
        · simp [h'] at h0 h1; rw [h0] at h1; cases h1
        · simp [Array.getElem?_eq_none h'] at h1
      have hLs' : (∀ w, p.1 w) ∨ gone p.2 (listed.setIfInBounds j true) = false := by
        rcases hLs with h | h
        · exact .inl h
        · rcases hwait j oj hoj hnot with h' | h'
          · exact .inl h'
          · right; rw [gone_set h']; exact h
      have h2 := wpOp_putIf hoj (hfree j oj hoj hji hjun hnot) (fun cs b => hsel i oi cs b hi) (fun cs b => hsel j oj cs b hoj) hQ hy h1
      have hfree' : ∀ k ok, ops[k]? = some ok → k ≠ i → (listed.setIfInBounds j true).getD k true = false →
          (∀ e ∈ ok.after, Region.binds md e = true → e.on ≠ i) → oi.apart ops ok = true := fun k ok hk hki hun hno => by
        refine hfree k ok hk hki ?_ hno
        by_cases hjk : j = k
        · subst hjk; exact hjun
        · rw [getD_set_ne true hjk] at hun; exact hun
      refine wpOp_mono (fun a' w' h3 => ⟨till_unset hT hji h3.2.1, ih (listed.setIfInBounds j true) a' w' hfree' (ready_mono hr (Ne.symm hji)) h3.1 hLs' (till_unset hT hji h3.2.1) ?_⟩) h2
      rw [Array.setIfInBounds_comm _ _ hji]
      exact h3.2.2

/-- A load (or whatever leans on condition p alone), first. -/
theorem wpAnyG_take (p : (World → Prop) × Option Nat) {i : Nat} {oi : Oper} {v : Value} {fuel : Nat} {listed : Array Bool} {a : Act} {w : World} (hi : ops[i]? = some oi)
    (hs : Region.noSelect ops = true) (hf : Region.free md ops listed i = true) (hr : (Region.ready md ops listed).contains i = true) (hT : notLate T i = true) (hL : waits md ops p.2 i = true) (hLl : gone p.2 listed = false) (hpT : p ∈ T)
    (hQ : ∀ c a w, Q (.panic c) (a.put oi.dst v) w → Q (.panic c) a w) (hS : Till T listed w) (hw : Region.wanted oi (yielded ops a.tmps) = true) (hy : ∀ w, p.1 w → (execOp a.eval oi).run P w = .ok (.value v) w)
    (h : Till T (listed.setIfInBounds i true) w → wpAnyG P md ops Q T fuel (listed.setIfInBounds i true) (a.put oi.dst v) w) : wpAnyG P md ops Q T (fuel + 1) listed a w :=
  wpAnyG_first hi (Region.noSelect_spec hs) hQ hT p (.inl ⟨hpT, hL⟩) fuel listed a w (Region.free_spec hi hf) (by simpa using hr) (.inl ⟨hw, hy⟩) (.inr hLl) hS (h (till_set hT hS))
/-- What yields in whatever world, first. -/
theorem wpAnyG_takeW {i : Nat} {oi : Oper} {v : Value} {fuel : Nat} {listed : Array Bool} {a : Act} {w : World} (hi : ops[i]? = some oi)
    (hs : Region.noSelect ops = true) (hf : Region.free md ops listed i = true) (hr : (Region.ready md ops listed).contains i = true) (hT : notLate T i = true)
    (hQ : ∀ c a w, Q (.panic c) (a.put oi.dst v) w → Q (.panic c) a w) (hS : Till T listed w) (hw : Region.wanted oi (yielded ops a.tmps) = true) (hy : ∀ w, (execOp a.eval oi).run P w = .ok (.value v) w)
    (h : Till T (listed.setIfInBounds i true) w → wpAnyG P md ops Q T fuel (listed.setIfInBounds i true) (a.put oi.dst v) w) : wpAnyG P md ops Q T (fuel + 1) listed a w :=
  wpAnyG_first hi (Region.noSelect_spec hs) hQ hT (fun _ => True, none) (.inr fun _ => trivial) fuel listed a w (Region.free_spec hi hf) (by simpa using hr) (.inl ⟨hw, fun w _ => hy w⟩) (.inl fun _ => trivial) hS (h (till_set hT hS))

theorem till_one {A : World → Prop} {L : Option Nat} {listed : Array Bool} {w : World} (h : A w) : Till [(A, L)] listed w := fun p hp _ => by
  rw [List.mem_singleton.1 hp]; exact h
theorem till_past {A : World → Prop} {L : Option Nat} {listed : Array Bool} {w : World} (h : gone L listed = true) : Till [(A, L)] listed w := fun p hp hl => by
  rw [List.mem_singleton.1 hp] at hl; rw [h] at hl; cases hl

theorem till_two {A B : World → Prop} {L M : Option Nat} {listed : Array Bool} {w : World} (h : gone L listed = false → A w) (h2 : gone M listed = false → B w) : Till [(A, L), (B, M)] listed w := fun p hp hl => by
  rcases List.mem_cons.1 hp with rfl | hp
  · exact h hl
  · rw [List.mem_singleton.1 hp] at hl ⊢; exact h2 hl

def AllReadyG (P : Program) (md : Region.Mode) (ops : Array Oper) (Q : Exit → Act → World → Prop) (T : List ((World → Prop) × Option Nat)) (fuel : Nat) (listed : Array Bool) (a : Act) (w : World) (rs : List Nat) : Prop :=
  ∀ i ∈ rs, wpOp P ops Q i (fun a' w' => Till T (listed.setIfInBounds i true) w' ∧ wpAnyG P md ops Q T fuel (listed.setIfInBounds i true) a' w') a w
theorem AllReadyG.nil {fuel : Nat} {listed : Array Bool} {a : Act} {w : World} : AllReadyG P md ops Q T fuel listed a w [] := fun _ h => by cases h
/-- One that may come up: behind it the conditions are to be shown anew. -/
theorem AllReadyG.cons {fuel : Nat} {listed : Array Bool} {a : Act} {w : World} {i : Nat} {o : Oper} {rs : List Nat} (ho : ops[i]? = some o)
    (h : ∀ K : Act → World → Prop, (∀ a' w', Till T (listed.setIfInBounds i true) w' → (Till T (listed.setIfInBounds i true) w' → wpAnyG P md ops Q T fuel (listed.setIfInBounds i true) a' w') → K a' w') →
      if Region.wanted o (yielded ops a.tmps) = true then Oper.wp P o a w K Q else K (a.put o.dst undef) w)
    (hs : AllReadyG P md ops Q T fuel listed a w rs) : AllReadyG P md ops Q T fuel listed a w (i :: rs) := fun j hj => by
  rcases List.mem_cons.1 hj with rfl | hj
  · have h' := h _ (fun a' w' h1 h2 => And.intro h1 (h2 h1))
    unfold wpOp
    simp only [ho]
    split
    · rename_i hw; rw [if_pos hw] at h'; exact .inl h'
    · rename_i hw; rw [if_neg hw] at h'; exact h'
  · exact hs j hj
theorem wpAnyG_ready {rs : List Nat} {fuel : Nat} {listed : Array Bool} {a : Act} {w : World} (hr : Region.ready md ops listed = rs) (hne : rs ≠ [])
    (h : AllReadyG P md ops Q T fuel listed a w rs) : wpAnyG P md ops Q T (fuel + 1) listed a w :=
  ⟨fun h0 => absurd (hr ▸ h0) hne, hr ▸ h⟩
theorem wpAnyG_done {listed : Array Bool} {a : Act} {w : World} (hr : Region.ready md ops listed = []) (h : Q .normal a w) :
    ∀ fuel, wpAnyG P md ops Q T fuel listed a w
  | 0 => ⟨hr, h⟩
  | _ + 1 => ⟨fun _ => h, by rw [hr]; simp⟩
theorem wp_region_till {id : Nat} {a : Act} {w : World} (T : List ((World → Prop) × Option Nat)) (hm : P.follows .mixedOrders = true)
    (hS : Till T (Array.replicate ops.size false) w.drew)
    (h : Till T (Array.replicate ops.size false) w.drew → wpAnyG P .any ops Q T ops.size (Array.replicate ops.size false) a w.drew) : (Code.region id ops true).wp P Q a w :=
  wp_region_any hm (wpAny_of_till _ _ _ _ (h hS))
end
end Go
