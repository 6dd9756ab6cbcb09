/- The clean executor: how its values and its memory stand to the model's. -/
import Derived.Test.YtjddmnfdnnbbhaaGreatKBZ
import Derived.Laws.AppendOwn
import Derived.Laws.IdiomCopy
import Derived.Laws.CopyRow
set_option linter.unusedSimpArgs false
set_option linter.unusedVariables false
set_option linter.unusedVariables false
set_option linter.unusedSimpArgs false
namespace Go.Clean
open Go Go.RowKit

/-- Where a block of the clean memory lies: from 'off' up to 'fin' in a row of the heap; how wide an element is; is a slice's capacity known? -/
structure Place where
  blk : Nat
  off : Nat
  fin : Nat
  sz : Nat
  exact : Bool
abbrev Env := Nat → Option Place

def FR (x y : Nat) : Prop := x = y ∨ (isNaN x = true ∧ isNaN y = true)
theorem FR.refl (x : Nat) : FR x x := .inl rfl

mutual
/-- A clean value stands for a value of the model. -/
def VR (ρ : Env) : Value → Value → Prop
  | .bool b, v => v = .bool b
  | .int k n, v => v = .int k n
  | .float k x, v => ∃ y, v = .float k y ∧ FR x y
  | .complex k x y, v => ∃ x' y', v = .complex k x' y' ∧ FR x x' ∧ FR y y'
  | .string s, v => v = .string s
  | .pointer none, v => v = .pointer none
  | .pointer (some a), v => ∃ p, ρ a.block = some p ∧ a.spot = none ∧ v = .pointer (some ⟨p.blk, p.off + a.off, none⟩)
  | .slice none n c, v => v = .slice none n c
  | .slice (some a) n c, v => (∃ p c', ρ a.block = some p ∧ a.spot = none ∧ v = .slice (some ⟨p.blk, p.off + a.off, none⟩) n c' ∧ n ≤ c ∧ c ≤ c' ∧ (p.exact = true → c' = c) ∧ p.off + a.off + c' * p.sz ≤ p.fin) ∨ (a.spot ≠ none ∧ n = 0 ∧ c = 0 ∧ ∃ a', v = .slice (some a') 0 0)
  | .func f ⟨a⟩ ⟨b⟩, v => ∃ a' b', v = .func f ⟨a'⟩ ⟨b'⟩ ∧ VRs ρ a a' ∧ VRs ρ b b'
  | .nilFunc, v => v = .nilFunc
  | .nilIface, v => v = .nilIface
  | .iface t x, v => ∃ x', v = .iface t x' ∧ VR ρ x x'
  | .agg ⟨l⟩, v => ∃ l', v = .agg ⟨l'⟩ ∧ VRs ρ l l'
  | .tuple ⟨l⟩, v => ∃ l', v = .tuple ⟨l'⟩ ∧ VRs ρ l l'
  | _, _ => False
def VRs (ρ : Env) : List Value → List Value → Prop
  | [], l => l = []
  | v :: vs, l => ∃ v' vs', l = v' :: vs' ∧ VR ρ v v' ∧ VRs ρ vs vs'
end

def Ext (ρ ρ' : Env) : Prop := ∀ b p, ρ b = some p → ρ' b = some p
theorem Ext.refl (ρ : Env) : Ext ρ ρ := fun _ _ h => h
theorem Ext.trans {ρ ρ' ρ'' : Env} (h : Ext ρ ρ') (k : Ext ρ' ρ'') : Ext ρ ρ'' := fun b p hb => k b p (h b p hb)

mutual
theorem VR.mono {ρ ρ' : Env} (h : Ext ρ ρ') : ∀ (v v' : Value), VR ρ v v' → VR ρ' v v'
  | .bool _, _, hv => hv
  | .int _ _, _, hv => hv
  | .float _ _, _, hv => hv
  | .complex _ _ _, _, hv => hv
  | .string _, _, hv => hv
  | .pointer none, _, hv => hv
  | .pointer (some _), _, hv => by
    unfold VR at hv ⊢
    obtain ⟨p, hp, r⟩ := hv
    exact ⟨p, h _ _ hp, r⟩
  | .slice none _ _, _, hv => hv
  | .slice (some _) _ _, _, hv => by
    unfold VR at hv ⊢
    rcases hv with ⟨p, c', hp, r⟩ | hv
    · exact .inl ⟨p, c', h _ _ hp, r⟩
    · exact .inr hv
  | .func _ ⟨a⟩ ⟨b⟩, _, hv => by
    unfold VR at hv ⊢
    obtain ⟨a', b', e, ha, hb⟩ := hv
    exact ⟨a', b', e, VRs.mono h a a' ha, VRs.mono h b b' hb⟩
  | .nilFunc, _, hv => hv
  | .nilIface, _, hv => hv
  | .agg ⟨l⟩, _, hv => by
    unfold VR at hv ⊢
    obtain ⟨l', e, hl⟩ := hv
    exact ⟨l', e, VRs.mono h l l' hl⟩
  | .tuple ⟨l⟩, _, hv => by
    unfold VR at hv ⊢
    obtain ⟨l', e, hl⟩ := hv
    exact ⟨l', e, VRs.mono h l l' hl⟩
  | .map _, _, hv => hv
  | .chan _, _, hv => hv
  | .iface t x, _, hv => by
    unfold VR at hv ⊢
    obtain ⟨x', e, hx⟩ := hv
    exact ⟨x', e, VR.mono h x x' hx⟩
theorem VRs.mono {ρ ρ' : Env} (h : Ext ρ ρ') : ∀ (l l' : List Value), VRs ρ l l' → VRs ρ' l l'
  | [], _, hv => hv
  | v :: vs, _, hv => by
    unfold VRs at hv ⊢
    obtain ⟨v', vs', e, hv, hvs⟩ := hv
    exact ⟨v', vs', e, VR.mono h v v' hv, VRs.mono h vs vs' hvs⟩
end

theorem VRs.nil {ρ : Env} : VRs ρ [] [] := by unfold VRs; rfl
theorem VRs.cons {ρ : Env} {v v' : Value} {l l' : List Value} (h : VR ρ v v') (hl : VRs ρ l l') : VRs ρ (v :: l) (v' :: l') := by unfold VRs; exact ⟨_, _, rfl, h, hl⟩
theorem VRs.inv {ρ : Env} {v : Value} {l l' : List Value} (h : VRs ρ (v :: l) l') : ∃ v' vs', l' = v' :: vs' ∧ VR ρ v v' ∧ VRs ρ l vs' := by unfold VRs at h; exact h
theorem VRs.inv0 {ρ : Env} {l' : List Value} (h : VRs ρ [] l') : l' = [] := by unfold VRs at h; exact h
theorem VRs.length {ρ : Env} : ∀ {l l' : List Value}, VRs ρ l l' → l'.length = l.length
  | [], _, h => by rw [h.inv0]
  | v :: l, _, h => by
    obtain ⟨v', vs', rfl, _, hl⟩ := h.inv
    simp [hl.length]
theorem VRs.get {ρ : Env} : ∀ {l l' : List Value} {i : Nat} {v : Value}, VRs ρ l l' → l[i]? = some v → ∃ v', l'[i]? = some v' ∧ VR ρ v v'
  | [], _, i, v, h, hi => by simp at hi
  | x :: l, _, 0, v, h, hi => by
    obtain ⟨v', vs', rfl, hv, _⟩ := h.inv
    obtain rfl : x = v := by simpa using hi
    exact ⟨v', rfl, hv⟩
  | x :: l, _, i + 1, v, h, hi => by
    obtain ⟨v', vs', rfl, _, hl⟩ := h.inv
    exact hl.get (i := i) hi
theorem VRs.append {ρ : Env} : ∀ {l l' m m' : List Value}, VRs ρ l l' → VRs ρ m m' → VRs ρ (l ++ m) (l' ++ m')
  | [], _, _, _, h, hm => by rw [h.inv0]; exact hm
  | v :: l, _, _, _, h, hm => by
    obtain ⟨v', vs', rfl, hv, hl⟩ := h.inv
    exact .cons hv (hl.append hm)
theorem VRs.takeN {ρ : Env} : ∀ {l l' : List Value} {o n : Nat} {r : List Value}, VRs ρ l l' → takeN l o n = some r → ∃ r', takeN l' o n = some r' ∧ VRs ρ r r'
  | l, l', o, 0, r, h, ht => by
    cases l <;> cases o <;> (simp [Clean.takeN] at ht; subst ht) <;> cases l' <;> exact ⟨[], by simp [Clean.takeN], .nil⟩
  | [], _, o, n + 1, r, h, ht => by simp [Clean.takeN] at ht
  | x :: l, _, 0, n + 1, r, h, ht => by
    obtain ⟨v', vs', rfl, hv, hl⟩ := h.inv
    simp only [Clean.takeN, Option.map_eq_some_iff] at ht
    obtain ⟨q, hq, rfl⟩ := ht
    obtain ⟨q', hq', hr⟩ := hl.takeN hq
    exact ⟨v' :: q', by simp [Clean.takeN, hq'], .cons hv hr⟩
  | x :: l, _, o + 1, n + 1, r, h, ht => by
    obtain ⟨v', vs', rfl, hv, hl⟩ := h.inv
    simp only [Clean.takeN] at ht
    obtain ⟨q', hq', hr⟩ := hl.takeN ht
    exact ⟨q', by simp [Clean.takeN, hq'], hr⟩
theorem takeN_spec {α : Type} : ∀ (l : List α) (o n : Nat) (r : List α), takeN l o n = some r → r.length = n ∧ ∀ j, j < n → r[j]? = l[o + j]?
  | l, o, 0, r, h => by
    cases l <;> cases o <;> (simp [Clean.takeN] at h; subst h; exact ⟨rfl, fun j hj => by omega⟩)
  | [], o, n + 1, r, h => by simp [Clean.takeN] at h
  | x :: l, 0, n + 1, r, h => by
    simp only [Clean.takeN, Option.map_eq_some_iff] at h
    obtain ⟨q, hq, rfl⟩ := h
    obtain ⟨h1, h2⟩ := takeN_spec l 0 n q hq
    refine ⟨by simp [h1], fun j hj => ?_⟩
    cases j with
    | zero => rfl
    | succ j => have := h2 j (by omega); simpa [Nat.add_comm] using this
  | x :: l, o + 1, n + 1, r, h => by
    simp only [Clean.takeN] at h
    obtain ⟨h1, h2⟩ := takeN_spec l o (n + 1) r h
    refine ⟨h1, fun j hj => ?_⟩
    rw [h2 j hj, show o + 1 + j = (o + j) + 1 by omega]
    rfl
theorem lay_spec : ∀ (cs : List Value) (o : Nat) (vs r : List Value), lay cs o vs = some r → r.length = cs.length ∧ (vs = [] ∨ o + vs.length ≤ cs.length) ∧
    ∀ j, r[j]? = if o ≤ j ∧ j < o + vs.length then vs[j - o]? else cs[j]?
  | [], o, [], r, h => by
    obtain rfl : [] = r := by simpa [lay] using h
    exact ⟨rfl, .inl rfl, fun j => by simp⟩
  | c :: cs, o, [], r, h => by
    obtain rfl : c :: cs = r := by simpa [lay] using h
    exact ⟨rfl, .inl rfl, fun j => by rw [if_neg (by simp only [List.length_nil]; omega)]⟩
  | [], o, v :: vs, r, h => by simp [lay] at h
  | c :: cs, 0, v :: vs, r, h => by
    simp only [lay, Option.map_eq_some_iff] at h
    obtain ⟨q, hq, rfl⟩ := h
    obtain ⟨h1, h2, h3⟩ := lay_spec cs 0 vs q hq
    refine ⟨by simp [h1], .inr ?_, fun j => ?_⟩
    · rcases h2 with h2 | h2
      · subst h2; simp
      · simp at h2 ⊢; omega
    · cases j with
      | zero => simp
      | succ j =>
        have := h3 j
        simp only [List.getElem?_cons_succ, this, List.length_cons]
        by_cases hj : j < vs.length
        · rw [if_pos (by omega), if_pos (by omega)]; simp
        · rw [if_neg (by omega), if_neg (by omega)]
  | c :: cs, o + 1, v :: vs, r, h => by
    simp only [lay, Option.map_eq_some_iff] at h
    obtain ⟨q, hq, rfl⟩ := h
    obtain ⟨h1, h2, h3⟩ := lay_spec cs o (v :: vs) q hq
    refine ⟨by simp [h1], .inr ?_, fun j => ?_⟩
    · rcases h2 with h2 | h2
      · cases h2
      · simp at h2 ⊢; omega
    · cases j with
      | zero => rw [if_neg (by omega)]; rfl
      | succ j =>
        have := h3 j
        simp only [List.getElem?_cons_succ, this]
        by_cases hj : o ≤ j ∧ j < o + (v :: vs).length
        · rw [if_pos hj, if_pos (by omega)]; congr 1; omega
        · rw [if_neg hj, if_neg (by omega)]

theorem VR.leaf {ρ : Env} {v : Value} (h : leafV v = true) : VR ρ v v := by
  unfold leafV at h
  split at h <;> first | (cases h; done) | skip
  all_goals first
    | (unfold VR; rfl)
    | exact ⟨_, rfl, .refl _⟩
    | exact ⟨_, _, rfl, .refl _, .refl _⟩
    | exact ⟨_, _, rfl, .nil, .nil⟩
theorem VRs.leaf {ρ : Env} : ∀ {l : List Value}, l.all leafV = true → VRs ρ l l
  | [], _ => .nil
  | v :: l, h => by
    simp only [List.all_cons, Bool.and_eq_true] at h
    exact .cons (.leaf h.1) (VRs.leaf h.2)
theorem VR.plain {ρ : Env} {v : Value} (h : plainV v = true) : VR ρ v v := by
  unfold plainV at h
  split at h
  · exact ⟨_, rfl, .leaf h⟩
  · exact ⟨_, rfl, .leaf h⟩
  · exact .leaf h
theorem VR.undef {ρ : Env} : VR ρ undef undef := ⟨[], rfl, .nil⟩

theorem cellsV_eq (v : Value) : (cellsV v) = v.cells.toList := by
  cases v <;> rfl
theorem VR.cells {ρ : Env} {v v' : Value} (h : VR ρ v v') : VRs ρ (cellsV v) (cellsV v') := by
  cases v with
  | agg c =>
    obtain ⟨l⟩ := c
    obtain ⟨l', rfl, hl⟩ := h
    exact hl
  | bool _ | int _ _ | string _ | nilFunc | nilIface =>
    unfold VR at h; subst h; exact .cons (by unfold VR; rfl) .nil
  | float _ _ =>
    have h0 := h; obtain ⟨y, rfl, _⟩ := h; exact .cons h0 .nil
  | complex _ _ _ => have h0 := h; obtain ⟨y, z, rfl, _⟩ := h; exact .cons h0 .nil
  | pointer a => cases a with
    | none => unfold VR at h; subst h; exact .cons (by unfold VR; rfl) .nil
    | some a => have h0 := h; obtain ⟨p, _, _, rfl⟩ := h; exact .cons h0 .nil
  | slice a n c => cases a with
    | none => unfold VR at h; subst h; exact .cons (by unfold VR; rfl) .nil
    | some a => have h0 := h; rcases h with ⟨p, c', _, _, rfl, _⟩ | ⟨_, _, _, a', rfl⟩ <;> exact .cons h0 .nil
  | func f a b =>
    obtain ⟨a⟩ := a; obtain ⟨b⟩ := b
    have h0 := h; obtain ⟨a', b', rfl, _⟩ := h; exact .cons h0 .nil
  | tuple c => obtain ⟨l⟩ := c; have h0 := h; obtain ⟨l', rfl, _⟩ := h; exact .cons h0 .nil
  | map _ => exact h.elim
  | chan _ => exact h.elim
  | iface _ _ => have h0 := h; obtain ⟨x', rfl, _⟩ := h; exact .cons h0 .nil
theorem VR.one {ρ : Env} {v v' : Value} (h : VR ρ v v') (ho : oneV v = true) : v'.oneCell' = true := by
  cases v with
  | agg c => simp [oneV] at ho
  | tuple c => simp [oneV] at ho
  | bool _ | int _ _ | string _ | nilFunc | nilIface => unfold VR at h; subst h; rfl
  | float _ _ => obtain ⟨y, rfl, _⟩ := h; rfl
  | complex _ _ _ => obtain ⟨y, z, rfl, _⟩ := h; rfl
  | pointer a => cases a with
    | none => unfold VR at h; subst h; rfl
    | some a => obtain ⟨p, _, _, rfl⟩ := h; rfl
  | slice a n c => cases a with
    | none => unfold VR at h; subst h; rfl
    | some a => rcases h with ⟨p, c', _, _, rfl, _⟩ | ⟨_, _, _, a', rfl⟩ <;> rfl
  | func f a b => obtain ⟨a⟩ := a; obtain ⟨b⟩ := b; obtain ⟨a', b', rfl, _⟩ := h; rfl
  | map _ => exact h.elim
  | chan _ => exact h.elim
  | iface _ _ => obtain ⟨x', rfl, _⟩ := h; rfl
theorem VRs.one {ρ : Env} : ∀ {l l' : List Value}, VRs ρ l l' → l.all oneV = true → ∀ u ∈ l', u.oneCell' = true
  | [], _, h, _, u, hu => by rw [h.inv0] at hu; simp at hu
  | v :: l, _, h, ho, u, hu => by
    obtain ⟨v', vs', rfl, hv, hl⟩ := h.inv
    simp only [List.all_cons, Bool.and_eq_true] at ho
    rcases List.mem_cons.1 hu with rfl | hu
    · exact hv.one ho.1
    · exact VRs.one hl ho.2 u hu

/-! ### The memory -/
/-- The clean memory's blocks, as they lie in the heap: those of one's own from N on, apart from one another. -/
structure Rel (N : Nat) (ρ : Env) (g : Nat → Option Blk) (w : World) : Prop where
  base : N ≤ w.heap.size
  blk : ∀ b x, g b = some x → ∃ p, ρ b = some p ∧ x.sz = p.sz ∧ x.grow = !p.exact ∧
    (∀ i v, x.cells[i]? = some v → ∃ v', w.cell? ⟨p.blk, p.off + i, none⟩ = some v' ∧ VR ρ v v' ∧ oneV v = true) ∧
    (x.ro = true → x.cells = [] ∨ p.blk < N) ∧
    (x.ro = false → N ≤ p.blk ∧ p.off + x.cells.length ≤ p.fin ∧ ∃ c T, w.heap[p.blk]? = some (.cells c T (0, 0)) ∧ p.fin ≤ c.size)
  apart : ∀ b b' x x' p p', b ≠ b' → g b = some x → g b' = some x' → x.ro = false → x'.ro = false → ρ b = some p → ρ b' = some p' → p.blk ≠ p'.blk ∨ p.fin ≤ p'.off ∨ p'.fin ≤ p.off
  marks : ∀ b x p, g b = some x → ρ b = some p → p.fin < p.off → N ≤ p.blk ∧ w.heap[p.blk]? = some (.deferred (some [])) ∧ ∀ b' x' p', b' ≠ b → g b' = some x' → ρ b' = some p' → p'.fin < p'.off → p'.blk ≠ p.blk

theorem Rel.heap {N : Nat} {ρ : Env} {g : Nat → Option Blk} {w w' : World} (h : Rel N ρ g w) (e : w'.heap = w.heap) : Rel N ρ g w' := by
  have hc : ∀ a, w'.cell? a = w.cell? a := fun a => by simp [World.cell?, e]
  refine ⟨by rw [e]; exact h.base, fun b x hb => ?_, h.apart, fun b x p hb hp hm => by rw [e]; exact h.marks b x p hb hp hm⟩
  obtain ⟨p, h1, h2, h3, h4, h5, h6⟩ := h.blk b x hb
  exact ⟨p, h1, h2, h3, fun i v hi => by rw [hc]; exact h4 i v hi, h5, fun hr => by rw [e]; exact h6 hr⟩
theorem Rel.congr {N : Nat} {ρ : Env} {g g' : Nat → Option Blk} {w : World} (h : Rel N ρ g w) (e : ∀ b, g' b = g b) : Rel N ρ g' w := by
  have : g' = g := funext e
  rw [this]; exact h

/-- A block is given up. -/
theorem Rel.kill {N : Nat} {ρ : Env} {g g' : Nat → Option Blk} {w : World} (h : Rel N ρ g w) (b : Nat) (e : ∀ c, g' c = if c = b then none else g c) : Rel N ρ g' w := by
  have hk : ∀ c x, g' c = some x → g c = some x := fun c x hc => by
    rw [e] at hc; split at hc
    · cases hc
    · exact hc
  exact ⟨h.base, fun c x hc => h.blk c x (hk c x hc), fun c c' x x' p p' hne hc hc' => h.apart c c' x x' p p' hne (hk c x hc) (hk c' x' hc'),
    fun c x p hc hp hm => by
      obtain ⟨h1, h2, h3⟩ := h.marks c x p (hk c x hc) hp hm
      exact ⟨h1, h2, fun c' x' p' hne hc' => h3 c' x' p' hne (hk c' x' hc')⟩⟩

theorem Rel.cell {N : Nat} {ρ : Env} {g : Nat → Option Blk} {w : World} (h : Rel N ρ g w) {b : Nat} {x : Blk} {p : Place} (hb : g b = some x) (hp : ρ b = some p) {i : Nat} {v : Value} (hi : x.cells[i]? = some v) :
    ∃ v', w.cell? ⟨p.blk, p.off + i, none⟩ = some v' ∧ VR ρ v v' ∧ oneV v = true := by
  obtain ⟨q, hq, _, _, h4, _⟩ := h.blk b x hb
  rw [hp] at hq
  obtain rfl : p = q := by simpa using hq
  exact h4 i v hi

def Env.put (ρ : Env) (b : Nat) (p : Place) : Env := fun c => if c = b then some p else ρ c
theorem Env.ext {ρ : Env} {b : Nat} (h : ρ b = none) (p : Place) : Ext ρ (ρ.put b p) := fun c q hc => by
  unfold Env.put
  split
  · subst_vars; rw [h] at hc; cases hc
  · exact hc
theorem Env.put_same (ρ : Env) (b : Nat) (p : Place) : ρ.put b p b = some p := by simp [Env.put]
theorem Env.put_ne (ρ : Env) {b c : Nat} (p : Place) (h : c ≠ b) : ρ.put b p c = ρ c := by simp [Env.put, h]

theorem VRs.oneV_get {l : List Value} (h : l.all oneV = true) {i : Nat} {v : Value} (hi : l[i]? = some v) : oneV v = true :=
  List.all_eq_true.1 h v (List.mem_of_getElem? hi)

/-- A new row. -/
theorem Rel.new {N : Nat} {ρ : Env} {g g' : Nat → Option Blk} {w w' : World} (h : Rel N ρ g w) {b : Nat} (hb : ρ b = none) (cells : List Value) (sz : Nat) (grow : Bool) (ho : cells.all oneV = true)
    (cs : List Value) (hv : VRs ρ cells cs) (rest : List Value) (T : TypeId)
    (hw : w'.heap = w.heap.push (.cells (cs ++ rest).toArray T (0, 0)))
    (e : ∀ c, g' c = if c = b then some { cells, sz, grow, ro := false } else g c) :
    Rel N (ρ.put b ⟨w.heap.size, 0, cs.length + rest.length, sz, !grow⟩) g' w' := by
  have hold : ∀ k, k < w.heap.size → w'.heap[k]? = w.heap[k]? := fun k hk => by rw [hw, Array.getElem?_push, if_neg (by omega)]
  have hnew : w'.heap[w.heap.size]? = some (.cells (cs ++ rest).toArray T (0, 0)) := by rw [hw]; simp
  have hcell : ∀ k o, k < w.heap.size → w'.cell? ⟨k, o, none⟩ = w.cell? ⟨k, o, none⟩ := fun k o hk => World.cell?_of_block (hold k hk)
  have hx := Env.ext hb ⟨w.heap.size, 0, cs.length + rest.length, sz, !grow⟩
  have hmk : ∀ c x p, g' c = some x → (ρ.put b ⟨w.heap.size, 0, cs.length + rest.length, sz, !grow⟩) c = some p → p.fin < p.off → c ≠ b ∧ g c = some x ∧ ρ c = some p := fun c x p hc hp hm => by
    by_cases hcb : c = b
    · rw [hcb, Env.put_same] at hp
      obtain rfl := Option.some.inj hp
      simp at hm
    · rw [e, if_neg hcb] at hc
      rw [Env.put_ne _ _ hcb] at hp
      exact ⟨hcb, hc, hp⟩
  refine ⟨by rw [hw]; simp; exact Nat.le_succ_of_le h.base, fun c x hc => ?_, fun c c' x x' p p' hne hc hc' hr hr' hp hp' => ?_, fun c x p hc hp hm => by
    obtain ⟨_, hc1, hp1⟩ := hmk c x p hc hp hm
    obtain ⟨h1, h2, h3⟩ := h.marks c x p hc1 hp1 hm
    refine ⟨h1, by rw [hold _ (Array.getElem?_eq_some_iff.1 h2).1]; exact h2, fun c' x' p' hne hc' hp' hm' => ?_⟩
    obtain ⟨_, hc2, hp2⟩ := hmk c' x' p' hc' hp' hm'
    exact h3 c' x' p' hne hc2 hp2 hm'⟩
  · rw [e] at hc
    by_cases hcb : c = b
    · subst hcb
      simp only [if_true, Option.some.injEq] at hc
      subst hc
      refine ⟨_, Env.put_same _ _ _, rfl, by simp, fun i v hi => ?_, fun hr => by simp at hr, fun _ => ⟨h.base, by simp [hv.length], _, T, hnew, by simp⟩⟩
      obtain ⟨v', hi', hvv⟩ := hv.get hi
      refine ⟨v', ?_, hvv.mono hx, VRs.oneV_get ho hi⟩
      simp only [World.cell?, hnew, Nat.zero_add]
      simp only [Option.isSome_none, Bool.false_eq_true, if_false]
      rw [List.getElem?_toArray, List.getElem?_append_left (List.getElem?_eq_some_iff.1 hi').1]
      exact hi'
    · rw [if_neg hcb] at hc
      obtain ⟨p, h1, h2, h3, h4, h5, h6⟩ := h.blk c x hc
      refine ⟨p, by rw [Env.put_ne _ _ hcb]; exact h1, h2, h3, fun i v hi => ?_, h5, fun hr => ?_⟩
      · obtain ⟨v', hv1, hv2, hv3⟩ := h4 i v hi
        refine ⟨v', ?_, hv2.mono hx, hv3⟩
        rw [hcell _ _ ?_]; exact hv1
        by_cases hlt : p.blk < w.heap.size
        · exact hlt
        · simp [World.cell?, Array.getElem?_eq_none (Nat.le_of_not_lt hlt)] at hv1
      · obtain ⟨q1, q2, c0, T0, q3, q4⟩ := h6 hr
        exact ⟨q1, q2, c0, T0, by rw [hold _ (Array.getElem?_eq_some_iff.1 q3).1]; exact q3, q4⟩
  · rw [e] at hc hc'
    have key : ∀ c x p, c ≠ b → g c = some x → x.ro = false → ρ c = some p → p.blk ≠ w.heap.size := fun c x p _ hc hr hp heq => by
      obtain ⟨q, h1, _, _, _, _, h6⟩ := h.blk c x hc
      obtain ⟨_, _, c0, T0, q3, _⟩ := h6 hr
      rw [hp] at h1
      obtain rfl : p = q := by simpa using h1
      rw [heq] at q3
      simp at q3
    by_cases hcb : c = b
    · have hcb' : c' ≠ b := fun h => hne (hcb.trans h.symm)
      rw [if_neg hcb'] at hc'
      rw [Env.put_ne _ _ hcb'] at hp'
      rw [hcb, Env.put_same] at hp
      obtain rfl := Option.some.inj hp
      exact .inl (fun h => key c' x' p' hcb' hc' hr' hp' h.symm)
    · rw [if_neg hcb] at hc
      rw [Env.put_ne _ _ hcb] at hp
      by_cases hcb' : c' = b
      · rw [hcb', Env.put_same] at hp'
        obtain rfl := Option.some.inj hp'
        exact .inl (key c x p hcb hc hr hp)
      · rw [if_neg hcb'] at hc'
        rw [Env.put_ne _ _ hcb'] at hp'
        exact h.apart c c' x x' p p' hne hc hc' hr hr' hp hp'

end Go.Clean
