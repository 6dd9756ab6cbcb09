/- The clean executor: how its values and its memory stand to the model's. -/
import Derived.Test.YtonmjdhdkkmjlaaKA
import Derived.Laws.AppendOwn
import Derived.Laws.IdiomCopy
import Derived.Laws.CopyRow
import Derived.RangeFuncOne
import Derived.RangeFuncLeaves
import Derived.Laws.FloatArith
import Derived.Laws.Entries
set_option linter.unusedVariables false
set_option linter.unusedSimpArgs false
namespace Go.Clean
open Go Go.RowKit

/-- Where a block of the clean memory lies: from 'off' up to 'fin' in a row of the heap; how wide an element is; is a slice's capacity known? -/
structure Place where
  blk : Nat
  off : Nat
  fin : Nat
  sz : Nat
  exact : Bool
abbrev Env := Nat → Option Place

def FR (x y : Nat) : Prop := x = y ∨ (isNaN x = true ∧ isNaN y = true)
theorem FR.refl (x : Nat) : FR x x := .inl rfl

mutual
/-- A clean value stands for a value of the model. -/
def VR (ρ : Env) : Value → Value → Prop
  | .bool b, v => v = .bool b
  | .int k n, v => v = .int k n
  | .float k x, v => ∃ y, v = .float k y ∧ FR x y
  | .complex k x y, v => ∃ x' y', v = .complex k x' y' ∧ FR x x' ∧ FR y y'
  | .string s, v => v = .string s
  | .pointer none, v => v = .pointer none
  | .pointer (some a), v => ∃ p, ρ a.block = some p ∧ a.spot = none ∧ v = .pointer (some ⟨p.blk, p.off + a.off, none⟩)
  | .slice none n c, v => v = .slice none n c
  | .slice (some a) n c, v => (∃ p c', ρ a.block = some p ∧ a.spot = none ∧ v = .slice (some ⟨p.blk, p.off + a.off, none⟩) n c' ∧ n ≤ c ∧ c ≤ c' ∧ (p.exact = true → c' = c) ∧ p.off + a.off + c' * p.sz ≤ p.fin) ∨ (a.spot ≠ none ∧ n = 0 ∧ c = 0 ∧ ∃ a', v = .slice (some a') 0 0)
  | .func f ⟨a⟩ ⟨b⟩, v => ∃ a' b', v = .func f ⟨a'⟩ ⟨b'⟩ ∧ VRs ρ a a' ∧ VRs ρ b b'
  | .nilFunc, v => v = .nilFunc
  | .nilIface, v => v = .nilIface
  | .iface t x, v => ∃ x', v = .iface t x' ∧ VR ρ x x'
  | .agg ⟨l⟩, v => ∃ l', v = .agg ⟨l'⟩ ∧ VRs ρ l l'
  | .tuple ⟨l⟩, v => ∃ l', v = .tuple ⟨l'⟩ ∧ VRs ρ l l'
  | _, _ => False
def VRs (ρ : Env) : List Value → List Value → Prop
  | [], l => l = []
  | v :: vs, l => ∃ v' vs', l = v' :: vs' ∧ VR ρ v v' ∧ VRs ρ vs vs'
end

def Ext (ρ ρ' : Env) : Prop := ∀ b p, ρ b = some p → ρ' b = some p
theorem Ext.refl (ρ : Env) : Ext ρ ρ := fun _ _ h => h
theorem Ext.trans {ρ ρ' ρ'' : Env} (h : Ext ρ ρ') (k : Ext ρ' ρ'') : Ext ρ ρ'' := fun b p hb => k b p (h b p hb)

mutual
theorem VR.mono {ρ ρ' : Env} (h : Ext ρ ρ') : ∀ (v v' : Value), VR ρ v v' → VR ρ' v v'
  | .bool _, _, hv => hv
  | .int _ _, _, hv => hv
  | .float _ _, _, hv => hv
  | .complex _ _ _, _, hv => hv
  | .string _, _, hv => hv
  | .pointer none, _, hv => hv
  | .pointer (some _), _, hv => by
    unfold VR at hv ⊢
    obtain ⟨p, hp, r⟩ := hv
    exact ⟨p, h _ _ hp, r⟩
  | .slice none _ _, _, hv => hv
  | .slice (some _) _ _, _, hv => by
    unfold VR at hv ⊢
    rcases hv with ⟨p, c', hp, r⟩ | hv
    · exact .inl ⟨p, c', h _ _ hp, r⟩
    · exact .inr hv
  | .func _ ⟨a⟩ ⟨b⟩, _, hv => by
    unfold VR at hv ⊢
    obtain ⟨a', b', e, ha, hb⟩ := hv
    exact ⟨a', b', e, VRs.mono h a a' ha, VRs.mono h b b' hb⟩
  | .nilFunc, _, hv => hv
  | .nilIface, _, hv => hv
  | .agg ⟨l⟩, _, hv => by
    unfold VR at hv ⊢
    obtain ⟨l', e, hl⟩ := hv
    exact ⟨l', e, VRs.mono h l l' hl⟩
  | .tuple ⟨l⟩, _, hv => by
    unfold VR at hv ⊢
    obtain ⟨l', e, hl⟩ := hv
    exact ⟨l', e, VRs.mono h l l' hl⟩
  | .map _, _, hv => hv
  | .chan _, _, hv => hv
  | .iface t x, _, hv => by
    unfold VR at hv ⊢
    obtain ⟨x', e, hx⟩ := hv
    exact ⟨x', e, VR.mono h x x' hx⟩
theorem VRs.mono {ρ ρ' : Env} (h : Ext ρ ρ') : ∀ (l l' : List Value), VRs ρ l l' → VRs ρ' l l'
  | [], _, hv => hv
  | v :: vs, _, hv => by
    unfold VRs at hv ⊢
    obtain ⟨v', vs', e, hv, hvs⟩ := hv
    exact ⟨v', vs', e, VR.mono h v v' hv, VRs.mono h vs vs' hvs⟩
end

theorem VRs.nil {ρ : Env} : VRs ρ [] [] := by unfold VRs; rfl
theorem VRs.cons {ρ : Env} {v v' : Value} {l l' : List Value} (h : VR ρ v v') (hl : VRs ρ l l') : VRs ρ (v :: l) (v' :: l') := by unfold VRs; exact ⟨_, _, rfl, h, hl⟩
theorem VRs.inv {ρ : Env} {v : Value} {l l' : List Value} (h : VRs ρ (v :: l) l') : ∃ v' vs', l' = v' :: vs' ∧ VR ρ v v' ∧ VRs ρ l vs' := by unfold VRs at h; exact h
theorem VRs.inv0 {ρ : Env} {l' : List Value} (h : VRs ρ [] l') : l' = [] := by unfold VRs at h; exact h
theorem VRs.length {ρ : Env} : ∀ {l l' : List Value}, VRs ρ l l' → l'.length = l.length
  | [], _, h => by rw [h.inv0]
  | v :: l, _, h => by
    obtain ⟨v', vs', rfl, _, hl⟩ := h.inv
    simp [hl.length]
theorem VRs.get {ρ : Env} : ∀ {l l' : List Value} {i : Nat} {v : Value}, VRs ρ l l' → l[i]? = some v → ∃ v', l'[i]? = some v' ∧ VR ρ v v'
  | [], _, i, v, h, hi => by simp at hi
  | x :: l, _, 0, v, h, hi => by
    obtain ⟨v', vs', rfl, hv, _⟩ := h.inv
    obtain rfl : x = v := by simpa using hi
    exact ⟨v', rfl, hv⟩
  | x :: l, _, i + 1, v, h, hi => by
    obtain ⟨v', vs', rfl, _, hl⟩ := h.inv
    exact hl.get (i := i) hi
theorem VRs.append {ρ : Env} : ∀ {l l' m m' : List Value}, VRs ρ l l' → VRs ρ m m' → VRs ρ (l ++ m) (l' ++ m')
  | [], _, _, _, h, hm => by rw [h.inv0]; exact hm
  | v :: l, _, _, _, h, hm => by
    obtain ⟨v', vs', rfl, hv, hl⟩ := h.inv
    exact .cons hv (hl.append hm)
theorem VRs.takeN {ρ : Env} : ∀ {l l' : List Value} {o n : Nat} {r : List Value}, VRs ρ l l' → takeN l o n = some r → ∃ r', takeN l' o n = some r' ∧ VRs ρ r r'
  | l, l', o, 0, r, h, ht => by
    cases l <;> cases o <;> (simp [Clean.takeN] at ht; subst ht) <;> cases l' <;> exact ⟨[], by simp [Clean.takeN], .nil⟩
  | [], _, o, n + 1, r, h, ht => by simp [Clean.takeN] at ht
  | x :: l, _, 0, n + 1, r, h, ht => by
    obtain ⟨v', vs', rfl, hv, hl⟩ := h.inv
    simp only [Clean.takeN, Option.map_eq_some_iff] at ht
    obtain ⟨q, hq, rfl⟩ := ht
    obtain ⟨q', hq', hr⟩ := hl.takeN hq
    exact ⟨v' :: q', by simp [Clean.takeN, hq'], .cons hv hr⟩
  | x :: l, _, o + 1, n + 1, r, h, ht => by
    obtain ⟨v', vs', rfl, hv, hl⟩ := h.inv
    simp only [Clean.takeN] at ht
    obtain ⟨q', hq', hr⟩ := hl.takeN ht
    exact ⟨q', by simp [Clean.takeN, hq'], hr⟩
theorem takeN_spec {α : Type} : ∀ (l : List α) (o n : Nat) (r : List α), takeN l o n = some r → r.length = n ∧ ∀ j, j < n → r[j]? = l[o + j]?
  | l, o, 0, r, h => by
    cases l <;> cases o <;> (simp [Clean.takeN] at h; subst h; exact ⟨rfl, fun j hj => by omega⟩)
  | [], o, n + 1, r, h => by simp [Clean.takeN] at h
  | x :: l, 0, n + 1, r, h => by
    simp only [Clean.takeN, Option.map_eq_some_iff] at h
    obtain ⟨q, hq, rfl⟩ := h
    obtain ⟨h1, h2⟩ := takeN_spec l 0 n q hq
    refine ⟨by simp [h1], fun j hj => ?_⟩
    cases j with
    | zero => rfl
    | succ j => have := h2 j (by omega); simpa [Nat.add_comm] using this
  | x :: l, o + 1, n + 1, r, h => by
    simp only [Clean.takeN] at h
    obtain ⟨h1, h2⟩ := takeN_spec l o (n + 1) r h
    refine ⟨h1, fun j hj => ?_⟩
    rw [h2 j hj, show o + 1 + j = (o + j) + 1 by omega]
    rfl
theorem lay_spec : ∀ (cs : List Value) (o : Nat) (vs r : List Value), lay cs o vs = some r → r.length = cs.length ∧ (vs = [] ∨ o + vs.length ≤ cs.length) ∧
    ∀ j, r[j]? = if o ≤ j ∧ j < o + vs.length then vs[j - o]? else cs[j]?
  | [], o, [], r, h => by
    obtain rfl : [] = r := by simpa [lay] using h
    exact ⟨rfl, .inl rfl, fun j => by simp⟩
  | c :: cs, o, [], r, h => by
    obtain rfl : c :: cs = r := by simpa [lay] using h
    exact ⟨rfl, .inl rfl, fun j => by rw [if_neg (by simp only [List.length_nil]; omega)]⟩
  | [], o, v :: vs, r, h => by simp [lay] at h
  | c :: cs, 0, v :: vs, r, h => by
    simp only [lay, Option.map_eq_some_iff] at h
    obtain ⟨q, hq, rfl⟩ := h
    obtain ⟨h1, h2, h3⟩ := lay_spec cs 0 vs q hq
    refine ⟨by simp [h1], .inr ?_, fun j => ?_⟩
    · rcases h2 with h2 | h2
      · subst h2; simp
      · simp at h2 ⊢; omega
    · cases j with
      | zero => simp
      | succ j =>
        have := h3 j
        simp only [List.getElem?_cons_succ, this, List.length_cons]
        by_cases hj : j < vs.length
        · rw [if_pos (by omega), if_pos (by omega)]; simp
        · rw [if_neg (by omega), if_neg (by omega)]
  | c :: cs, o + 1, v :: vs, r, h => by
    simp only [lay, Option.map_eq_some_iff] at h
    obtain ⟨q, hq, rfl⟩ := h
    obtain ⟨h1, h2, h3⟩ := lay_spec cs o (v :: vs) q hq
    refine ⟨by simp [h1], .inr ?_, fun j => ?_⟩
    · rcases h2 with h2 | h2
      · cases h2
      · simp at h2 ⊢; omega
    · cases j with
      | zero => rw [if_neg (by omega)]; rfl
      | succ j =>
        have := h3 j
        simp only [List.getElem?_cons_succ, this]
        by_cases hj : o ≤ j ∧ j < o + (v :: vs).length
        · rw [if_pos hj, if_pos (by omega)]; congr 1; omega
        · rw [if_neg hj, if_neg (by omega)]

theorem VR.leaf {ρ : Env} {v : Value} (h : leafV v = true) : VR ρ v v := by
  unfold leafV at h
  split at h <;> first | (cases h; done) | skip
  all_goals first
    | (unfold VR; rfl)
    | exact ⟨_, rfl, .refl _⟩
    | exact ⟨_, _, rfl, .refl _, .refl _⟩
    | exact ⟨_, _, rfl, .nil, .nil⟩
theorem VRs.leaf {ρ : Env} : ∀ {l : List Value}, l.all leafV = true → VRs ρ l l
  | [], _ => .nil
  | v :: l, h => by
    simp only [List.all_cons, Bool.and_eq_true] at h
    exact .cons (.leaf h.1) (VRs.leaf h.2)
theorem VR.plain {ρ : Env} {v : Value} (h : plainV v = true) : VR ρ v v := by
  unfold plainV at h
  split at h
  · exact ⟨_, rfl, .leaf h⟩
  · exact ⟨_, rfl, .leaf h⟩
  · exact .leaf h
theorem VR.undef {ρ : Env} : VR ρ undef undef := ⟨[], rfl, .nil⟩

theorem cellsV_eq (v : Value) : (cellsV v) = v.cells.toList := by
  cases v <;> rfl
theorem VR.cells {ρ : Env} {v v' : Value} (h : VR ρ v v') : VRs ρ (cellsV v) (cellsV v') := by
  cases v with
  | agg c =>
    obtain ⟨l⟩ := c
    obtain ⟨l', rfl, hl⟩ := h
    exact hl
  | bool _ | int _ _ | string _ | nilFunc | nilIface =>
    unfold VR at h; subst h; exact .cons (by unfold VR; rfl) .nil
  | float _ _ =>
    have h0 := h; obtain ⟨y, rfl, _⟩ := h; exact .cons h0 .nil
  | complex _ _ _ => have h0 := h; obtain ⟨y, z, rfl, _⟩ := h; exact .cons h0 .nil
  | pointer a => cases a with
    | none => unfold VR at h; subst h; exact .cons (by unfold VR; rfl) .nil
    | some a => have h0 := h; obtain ⟨p, _, _, rfl⟩ := h; exact .cons h0 .nil
  | slice a n c => cases a with
    | none => unfold VR at h; subst h; exact .cons (by unfold VR; rfl) .nil
    | some a => have h0 := h; rcases h with ⟨p, c', _, _, rfl, _⟩ | ⟨_, _, _, a', rfl⟩ <;> exact .cons h0 .nil
  | func f a b =>
    obtain ⟨a⟩ := a; obtain ⟨b⟩ := b
    have h0 := h; obtain ⟨a', b', rfl, _⟩ := h; exact .cons h0 .nil
  | tuple c => obtain ⟨l⟩ := c; have h0 := h; obtain ⟨l', rfl, _⟩ := h; exact .cons h0 .nil
  | map _ => exact h.elim
  | chan _ => exact h.elim
  | iface _ _ => have h0 := h; obtain ⟨x', rfl, _⟩ := h; exact .cons h0 .nil
theorem VR.one {ρ : Env} {v v' : Value} (h : VR ρ v v') (ho : oneV v = true) : v'.oneCell' = true := by
  cases v with
  | agg c => simp [oneV] at ho
  | tuple c => simp [oneV] at ho
  | bool _ | int _ _ | string _ | nilFunc | nilIface => unfold VR at h; subst h; rfl
  | float _ _ => obtain ⟨y, rfl, _⟩ := h; rfl
  | complex _ _ _ => obtain ⟨y, z, rfl, _⟩ := h; rfl
  | pointer a => cases a with
    | none => unfold VR at h; subst h; rfl
    | some a => obtain ⟨p, _, _, rfl⟩ := h; rfl
  | slice a n c => cases a with
    | none => unfold VR at h; subst h; rfl
    | some a => rcases h with ⟨p, c', _, _, rfl, _⟩ | ⟨_, _, _, a', rfl⟩ <;> rfl
  | func f a b => obtain ⟨a⟩ := a; obtain ⟨b⟩ := b; obtain ⟨a', b', rfl, _⟩ := h; rfl
  | map _ => exact h.elim
  | chan _ => exact h.elim
  | iface _ _ => obtain ⟨x', rfl, _⟩ := h; rfl
theorem VRs.one {ρ : Env} : ∀ {l l' : List Value}, VRs ρ l l' → l.all oneV = true → ∀ u ∈ l', u.oneCell' = true
  | [], _, h, _, u, hu => by rw [h.inv0] at hu; simp at hu
  | v :: l, _, h, ho, u, hu => by
    obtain ⟨v', vs', rfl, hv, hl⟩ := h.inv
    simp only [List.all_cons, Bool.and_eq_true] at ho
    rcases List.mem_cons.1 hu with rfl | hu
    · exact hv.one ho.1
    · exact VRs.one hl ho.2 u hu

/-! ### The memory -/
/-- The clean memory's blocks, as they lie in the heap: those of one's own from N on, apart from one another. -/
structure Rel (N : Nat) (ρ : Env) (g : Nat → Option Blk) (w : World) : Prop where
  base : N ≤ w.heap.size
  blk : ∀ b x, g b = some x → ∃ p, ρ b = some p ∧ x.sz = p.sz ∧ x.grow = !p.exact ∧
    (∀ i v, x.cells[i]? = some v → ∃ v', w.cell? ⟨p.blk, p.off + i, none⟩ = some v' ∧ VR ρ v v' ∧ oneV v = true) ∧
    (x.ro = true → x.cells = [] ∨ p.blk < N) ∧
    (x.ro = false → N ≤ p.blk ∧ p.off + x.cells.length ≤ p.fin ∧ ∃ c T, w.heap[p.blk]? = some (.cells c T (0, 0)) ∧ p.fin ≤ c.size)
  apart : ∀ b b' x x' p p', b ≠ b' → g b = some x → g b' = some x' → x.ro = false → x'.ro = false → ρ b = some p → ρ b' = some p' → p.blk ≠ p'.blk ∨ p.fin ≤ p'.off ∨ p'.fin ≤ p.off
  marks : ∀ b x p, g b = some x → ρ b = some p → p.fin < p.off → N ≤ p.blk ∧ w.heap[p.blk]? = some (.deferred (some [])) ∧ ∀ b' x' p', b' ≠ b → g b' = some x' → ρ b' = some p' → p'.fin < p'.off → p'.blk ≠ p.blk

theorem Rel.heap {N : Nat} {ρ : Env} {g : Nat → Option Blk} {w w' : World} (h : Rel N ρ g w) (e : w'.heap = w.heap) : Rel N ρ g w' := by
  have hc : ∀ a, w'.cell? a = w.cell? a := fun a => by simp [World.cell?, e]
  refine ⟨by rw [e]; exact h.base, fun b x hb => ?_, h.apart, fun b x p hb hp hm => by rw [e]; exact h.marks b x p hb hp hm⟩
  obtain ⟨p, h1, h2, h3, h4, h5, h6⟩ := h.blk b x hb
  exact ⟨p, h1, h2, h3, fun i v hi => by rw [hc]; exact h4 i v hi, h5, fun hr => by rw [e]; exact h6 hr⟩
theorem Rel.congr {N : Nat} {ρ : Env} {g g' : Nat → Option Blk} {w : World} (h : Rel N ρ g w) (e : ∀ b, g' b = g b) : Rel N ρ g' w := by
  have : g' = g := funext e
  rw [this]; exact h

/-- A block is given up. -/
theorem Rel.kill {N : Nat} {ρ : Env} {g g' : Nat → Option Blk} {w : World} (h : Rel N ρ g w) (b : Nat) (e : ∀ c, g' c = if c = b then none else g c) : Rel N ρ g' w := by
  have hk : ∀ c x, g' c = some x → g c = some x := fun c x hc => by
    rw [e] at hc; split at hc
    · cases hc
    · exact hc
  exact ⟨h.base, fun c x hc => h.blk c x (hk c x hc), fun c c' x x' p p' hne hc hc' => h.apart c c' x x' p p' hne (hk c x hc) (hk c' x' hc'),
    fun c x p hc hp hm => by
      obtain ⟨h1, h2, h3⟩ := h.marks c x p (hk c x hc) hp hm
      exact ⟨h1, h2, fun c' x' p' hne hc' => h3 c' x' p' hne (hk c' x' hc')⟩⟩

theorem Rel.cell {N : Nat} {ρ : Env} {g : Nat → Option Blk} {w : World} (h : Rel N ρ g w) {b : Nat} {x : Blk} {p : Place} (hb : g b = some x) (hp : ρ b = some p) {i : Nat} {v : Value} (hi : x.cells[i]? = some v) :
    ∃ v', w.cell? ⟨p.blk, p.off + i, none⟩ = some v' ∧ VR ρ v v' ∧ oneV v = true := by
  obtain ⟨q, hq, _, _, h4, _⟩ := h.blk b x hb
  rw [hp] at hq
  obtain rfl : p = q := by simpa using hq
  exact h4 i v hi

def Env.put (ρ : Env) (b : Nat) (p : Place) : Env := fun c => if c = b then some p else ρ c
theorem Env.ext {ρ : Env} {b : Nat} (h : ρ b = none) (p : Place) : Ext ρ (ρ.put b p) := fun c q hc => by
  unfold Env.put
  split
  · subst_vars; rw [h] at hc; cases hc
  · exact hc
theorem Env.put_same (ρ : Env) (b : Nat) (p : Place) : ρ.put b p b = some p := by simp [Env.put]
theorem Env.put_ne (ρ : Env) {b c : Nat} (p : Place) (h : c ≠ b) : ρ.put b p c = ρ c := by simp [Env.put, h]

theorem VRs.oneV_get {l : List Value} (h : l.all oneV = true) {i : Nat} {v : Value} (hi : l[i]? = some v) : oneV v = true :=
  List.all_eq_true.1 h v (List.mem_of_getElem? hi)

/-- A new row. -/
theorem Rel.new {N : Nat} {ρ : Env} {g g' : Nat → Option Blk} {w w' : World} (h : Rel N ρ g w) {b : Nat} (hb : ρ b = none) (cells : List Value) (sz : Nat) (grow : Bool) (ho : cells.all oneV = true)
    (cs : List Value) (hv : VRs ρ cells cs) (rest : List Value) (T : TypeId)
    (hw : w'.heap = w.heap.push (.cells (cs ++ rest).toArray T (0, 0)))
    (e : ∀ c, g' c = if c = b then some { cells, sz, grow, ro := false } else g c) :
    Rel N (ρ.put b ⟨w.heap.size, 0, cs.length + rest.length, sz, !grow⟩) g' w' := by
  have hold : ∀ k, k < w.heap.size → w'.heap[k]? = w.heap[k]? := fun k hk => by rw [hw, Array.getElem?_push, if_neg (by omega)]
  have hnew : w'.heap[w.heap.size]? = some (.cells (cs ++ rest).toArray T (0, 0)) := by rw [hw]; simp
  have hcell : ∀ k o, k < w.heap.size → w'.cell? ⟨k, o, none⟩ = w.cell? ⟨k, o, none⟩ := fun k o hk => World.cell?_of_block (hold k hk)
  have hx := Env.ext hb ⟨w.heap.size, 0, cs.length + rest.length, sz, !grow⟩
  have hmk : ∀ c x p, g' c = some x → (ρ.put b ⟨w.heap.size, 0, cs.length + rest.length, sz, !grow⟩) c = some p → p.fin < p.off → c ≠ b ∧ g c = some x ∧ ρ c = some p := fun c x p hc hp hm => by
    by_cases hcb : c = b
    · rw [hcb, Env.put_same] at hp
      obtain rfl := Option.some.inj hp
      simp at hm
    · rw [e, if_neg hcb] at hc
      rw [Env.put_ne _ _ hcb] at hp
      exact ⟨hcb, hc, hp⟩
  refine ⟨by rw [hw]; simp; exact Nat.le_succ_of_le h.base, fun c x hc => ?_, fun c c' x x' p p' hne hc hc' hr hr' hp hp' => ?_, fun c x p hc hp hm => by
    obtain ⟨_, hc1, hp1⟩ := hmk c x p hc hp hm
    obtain ⟨h1, h2, h3⟩ := h.marks c x p hc1 hp1 hm
    refine ⟨h1, by rw [hold _ (Array.getElem?_eq_some_iff.1 h2).1]; exact h2, fun c' x' p' hne hc' hp' hm' => ?_⟩
    obtain ⟨_, hc2, hp2⟩ := hmk c' x' p' hc' hp' hm'
    exact h3 c' x' p' hne hc2 hp2 hm'⟩
  · rw [e] at hc
    by_cases hcb : c = b
    · subst hcb
      simp only [if_true, Option.some.injEq] at hc
      subst hc
      refine ⟨_, Env.put_same _ _ _, rfl, by simp, fun i v hi => ?_, fun hr => by simp at hr, fun _ => ⟨h.base, by simp [hv.length], _, T, hnew, by simp⟩⟩
      obtain ⟨v', hi', hvv⟩ := hv.get hi
      refine ⟨v', ?_, hvv.mono hx, VRs.oneV_get ho hi⟩
      simp only [World.cell?, hnew, Nat.zero_add]
      simp only [Option.isSome_none, Bool.false_eq_true, if_false]
      rw [List.getElem?_toArray, List.getElem?_append_left (List.getElem?_eq_some_iff.1 hi').1]
      exact hi'
    · rw [if_neg hcb] at hc
      obtain ⟨p, h1, h2, h3, h4, h5, h6⟩ := h.blk c x hc
      refine ⟨p, by rw [Env.put_ne _ _ hcb]; exact h1, h2, h3, fun i v hi => ?_, h5, fun hr => ?_⟩
      · obtain ⟨v', hv1, hv2, hv3⟩ := h4 i v hi
        refine ⟨v', ?_, hv2.mono hx, hv3⟩
        rw [hcell _ _ ?_]; exact hv1
        by_cases hlt : p.blk < w.heap.size
        · exact hlt
        · simp [World.cell?, Array.getElem?_eq_none (Nat.le_of_not_lt hlt)] at hv1
      · obtain ⟨q1, q2, c0, T0, q3, q4⟩ := h6 hr
        exact ⟨q1, q2, c0, T0, by rw [hold _ (Array.getElem?_eq_some_iff.1 q3).1]; exact q3, q4⟩
  · rw [e] at hc hc'
    have key : ∀ c x p, c ≠ b → g c = some x → x.ro = false → ρ c = some p → p.blk ≠ w.heap.size := fun c x p _ hc hr hp heq => by
      obtain ⟨q, h1, _, _, _, _, h6⟩ := h.blk c x hc
      obtain ⟨_, _, c0, T0, q3, _⟩ := h6 hr
      rw [hp] at h1
      obtain rfl : p = q := by simpa using h1
      rw [heq] at q3
      simp at q3
    by_cases hcb : c = b
    · have hcb' : c' ≠ b := fun h => hne (hcb.trans h.symm)
      rw [if_neg hcb'] at hc'
      rw [Env.put_ne _ _ hcb'] at hp'
      rw [hcb, Env.put_same] at hp
      obtain rfl := Option.some.inj hp
      exact .inl (fun h => key c' x' p' hcb' hc' hr' hp' h.symm)
    · rw [if_neg hcb] at hc
      rw [Env.put_ne _ _ hcb] at hp
      by_cases hcb' : c' = b
      · rw [hcb', Env.put_same] at hp'
        obtain rfl := Option.some.inj hp'
        exact .inl (key c x p hcb hc hr hp)
      · rw [if_neg hcb'] at hc'
        rw [Env.put_ne _ _ hcb'] at hp'
        exact h.apart c c' x x' p p' hne hc hc' hr hr' hp hp'

end Go.Clean

/- The clean executor: what each operation that makes or turns memory does, in the model. -/
set_option linter.unusedVariables false
set_option linter.unusedSimpArgs false
namespace Go.Clean
open Go Go.RowKit
variable {P : Program} {N : Nat} {ρ : Env} {m m' : Mem} {w : World}

/-! ### Taking pieces apart -/
theorem bind_some {α β : Type} {f : M α} {g : α → M β} {b : β} (h : (f >>= g) m = some (b, m')) : ∃ a m1, f m = some (a, m1) ∧ g a m1 = some (b, m') := by
  change M.bnd f g m = _ at h
  unfold M.bnd at h
  cases hf : f m with
  | none => simp [hf] at h
  | some p => obtain ⟨a, m1⟩ := p; simp only [hf] at h; exact ⟨a, m1, rfl, h⟩
theorem ret_some {α : Type} {a b : α} (h : M.ret a m = some (b, m')) : a = b ∧ m = m' := by simpa [M.ret] using h
theorem fail_some {α : Type} {b : α} (h : (M.fail : M α) m = some (b, m')) : False := by simp [M.fail] at h
theorem lift_some {α : Type} {o : Option α} {b : α} (h : M.lift o m = some (b, m')) : o = some b ∧ m = m' := by
  cases o with
  | none => simp [M.lift] at h
  | some a => simp [M.lift] at h; exact ⟨by rw [h.1], h.2⟩
theorem guard_some {c : Bool} {u : Unit} (h : M.guard c m = some (u, m')) : c = true ∧ m = m' := by
  cases c with
  | false => simp [M.guard] at h
  | true => simp [M.guard] at h; exact ⟨rfl, h⟩
theorem getB_some {b : Nat} {x : Blk} (h : getB b m = some (x, m')) : m.t.get b = some x ∧ m' = { m with log := (false, b) :: m.log } := by
  unfold getB at h
  cases hb : m.t.get b with
  | none => simp [hb] at h
  | some y => simp [hb] at h; exact ⟨by rw [h.1], h.2.symm⟩
theorem lay_some {α : Type} {cs : List Value} {o : Nat} {vs : List Value} {g : List Value → M α} {b : α} (h : (fun m => layK cs o vs fun
      | some l => g l m
      | none => none) m = some (b, m')) : ∃ l, lay cs o vs = some l ∧ g l m = some (b, m') := by
  simp only [layK_eq] at h
  cases hl : lay cs o vs with
  | none => simp [hl] at h
  | some l => simp [hl] at h; exact ⟨l, rfl, h⟩

/-- What a piece keeps: all below N, and whatever is no cells. -/
structure Keeps (N : Nat) (w w' : World) : Prop where
  below : Below N w w'
  others : KeepsOthers w w'
theorem Keeps.refl (N : Nat) (w : World) : Keeps N w w := ⟨.refl N w, .refl w⟩
theorem Keeps.trans {w w1 w2 : World} (h : Keeps N w w1) (k : Keeps N w1 w2) : Keeps N w w2 := ⟨h.below.trans k.below, h.others.trans k.others⟩
theorem Keeps.size {w w' : World} (h : Keeps N w w') : w.heap.size ≤ w'.heap.size := h.below.size
theorem Keeps.block {w w' : World} (h : Keeps N w w') : ∀ k, k < N → w'.heap[k]? = w.heap[k]? := h.below.block
theorem Keeps.drew {w w' : World} (h : Keeps N w w') : Keeps N w w'.drew := ⟨h.below.drew, ⟨h.others.size, h.others.same⟩⟩
theorem Keeps.alloc {w w' : World} (h : Keeps N w w') (hN : N ≤ w.heap.size) (o : Obj) : Keeps N w (w'.alloc o) := ⟨h.below.alloc (Nat.le_trans hN h.below.size) o, h.others.trans (.alloc w' o)⟩
/-- All that was there lies as it lay. -/
theorem Keeps.of_below {w w' : World} (hN : N ≤ w.heap.size) (h : Below w.heap.size w w') : Keeps N w w' :=
  ⟨h.mono hN, ⟨h.size, fun k o hk _ => by rw [h.block k (Array.getElem?_eq_some_iff.1 hk).1]; exact hk⟩⟩
/-- A block of cells turns. -/
theorem Keeps.row {w w' : World} {k : Nat} (hk : N ≤ k) {c : Array Value} {T : TypeId} {fr : Nat × Nat} (hc : w.heap[k]? = some (.cells c T fr)) (h1 : w'.os = w.os) (h2 : w'.tape = w.tape) (h3 : w'.output = w.output)
    (hs : w.heap.size ≤ w'.heap.size) (hw : ∀ j, j < w.heap.size → j ≠ k → w'.heap[j]? = w.heap[j]?) : Keeps N w w' :=
  ⟨⟨h1, h2, h3, hs, fun j hj => hw j (by have := (Array.getElem?_eq_some_iff.1 hc).1; omega) (by omega)⟩, ⟨hs, fun j o hj ho => by
    by_cases e : j = k
    · subst e; rw [hc] at hj; obtain rfl := Option.some.inj hj; exact absurd ho (by simp [Obj.isCells])
    · rw [hw j (Array.getElem?_eq_some_iff.1 hj).1 e]; exact hj⟩⟩

/-- What a piece that answers v leaves: the same memory, and more. -/
structure After (N : Nat) (ρ : Env) (m m' : Mem) (w : World) (v v' : Value) (w' : World) (ρ' : Env) : Prop where
  ext : Ext ρ ρ'
  dom : ∀ b, ρ b = none → ρ' b ≠ none → m.next ≤ b ∧ b < m'.next
  rel : Rel N ρ' m'.t.get w'
  val : VR ρ' v v'
  below : Keeps N w w'
  marks : ∀ b p, ρ b = none → ρ' b = some p → p.fin < p.off → w.heap.size ≤ p.blk

def Fresh (ρ : Env) (m m' : Mem) : Prop := ∀ b, m.next ≤ b → b < m'.next → ρ b = none

/-- A frame of a function's own (none), or a round's. -/
abbrev wideR (r : Option Nat) : Fence := { Fence.wide with round := r }

/-- An operation of the model, whatever stands behind it. -/
def Does (P : Program) (N : Nat) (ρ : Env) (m m' : Mem) (w : World) (v : Value) (s : Sem Next) : Prop :=
  ∀ (r : Option Nat) (o : Oper) (a : Act) (K : Act → World → Prop) (Q : Exit → Act → World → Prop), (∀ v' w' ρ', After N ρ m m' w v v' w' ρ' → K (a.put o.dst v') w') → o.uponIn (wideR r) 0 P a K Q (s.run P w)

theorem Does.value {s : Sem Next} {v v' : Value} {w' : World} {ρ' : Env} (h : s.run P w = .ok (.value v') w') (ha : After N ρ m m' w v v' w' ρ') : Does P N ρ m m' w v s := by
  intro r o a K Q hK
  rw [h]
  exact hK v' w' ρ' ha
theorem Does.skip {s : Sem Next} {w' : World} {ρ' : Env} (h : s.run P w = .ok .skip w') (ha : After N ρ m m' w undef undef w' ρ') : Does P N ρ m m' w undef s := by
  intro r o a K Q hK
  rw [h]
  exact hK undef w' ρ' ha

/-- Nothing has turned. -/
theorem After.same {v v' : Value} (hr : Rel N ρ m.t.get w) (ht : m'.t = m.t) (hv : VR ρ v v') : After N ρ m m' w v v' w ρ :=
  ⟨.refl ρ, fun b h h' => absurd h h', by rw [ht]; exact hr, hv, .refl N w, fun b p h h' => absurd (h.symm.trans h') (by simp)⟩
theorem After.drew {v v' : Value} (hr : Rel N ρ m.t.get w) (ht : m'.t = m.t) (hv : VR ρ v v') : After N ρ m m' w v v' w.drew ρ :=
  ⟨.refl ρ, fun b h h' => absurd h h', by rw [ht]; exact hr.heap rfl, hv, (Keeps.refl N w).drew, fun b p h h' => absurd (h.symm.trans h') (by simp)⟩

/-! ### A new row -/
theorem newX_some {cells : List Value} {sz : Nat} {grow : Bool} {b : Nat} (h : newX cells sz grow m = some (b, m')) : cells.all oneV = true ∧ b = m.next ∧ m'.next = m.next + 1 ∧
    ∀ c, m'.t.get c = if c = m.next then some { cells, sz, grow, ro := false } else m.t.get c := by
  unfold newX at h
  obtain ⟨u, m1, h1, h2⟩ := bind_some h
  obtain ⟨ho, rfl⟩ := guard_some h1
  rw [valsK_eq, newB_eq] at h2
  simp only [Option.some.injEq, Prod.mk.injEq] at h2
  obtain ⟨rfl, rfl⟩ := h2
  refine ⟨ho, rfl, rfl, fun c => ?_⟩
  by_cases hc : c = m.next
  · subst hc; rw [if_pos rfl]; exact Trie.get_set_same _ _ _ _ (Nat.lt_succ_self _)
  · rw [if_neg hc]; exact Trie.get_set_ne _ _ _ _ _ hc

theorem After.new {g : Nat → Option Blk} {b : Nat} (hr : Rel N ρ g w) {cells : List Value} {sz : Nat} {grow : Bool} (ho : cells.all oneV = true) (hb : b = m.next) (hn : m'.next = m.next + 1)
    (hg : ∀ c, m'.t.get c = if c = m.next then some { cells, sz, grow, ro := false } else g c) (hf : Fresh ρ m m') {cs : List Value} (hv : VRs ρ cells cs) (rest : List Value) (T : TypeId) {w' : World}
    (hw : w'.heap = w.heap.push (.cells (cs ++ rest).toArray T (0, 0))) (hbl : Keeps N w w') {v v' : Value} (hval : VR (ρ.put m.next ⟨w.heap.size, 0, cs.length + rest.length, sz, !grow⟩) v v') :
    After N ρ m m' w v v' w' (ρ.put m.next ⟨w.heap.size, 0, cs.length + rest.length, sz, !grow⟩) := by
  have hfree : ρ m.next = none := hf m.next (Nat.le_refl _) (by omega)
  refine ⟨Env.ext hfree _, fun c hc hc' => ?_, Rel.new hr hfree cells sz grow ho cs hv rest T hw hg, hval, hbl, fun c p hc hp hm => by
    by_cases h : c = m.next
    · subst h
      rw [Env.put_same] at hp
      obtain rfl := Option.some.inj hp
      simp at hm
    · rw [Env.put_ne _ _ h] at hp; exact absurd (hc.symm.trans hp) (by simp)⟩
  by_cases h : c = m.next
  · subst h; exact ⟨Nat.le_refl _, by omega⟩
  · rw [Env.put_ne _ _ h] at hc'; exact absurd hc hc'

theorem below_push (hN : N ≤ w.heap.size) (o : Obj) : Keeps N w (w.alloc o) := (Keeps.refl N w).alloc hN o

/-! ### A store -/
theorem setB_some {b : Nat} {x : Option Blk} {u : Unit} (h : setB b x m = some (u, m')) : m'.next = m.next ∧ ∀ c, m'.t.get c = if c = b then x else m.t.get c := by
  rw [setB_eq] at h
  simp only [Option.some.injEq, Prod.mk.injEq, true_and] at h
  subst h
  refine ⟨rfl, fun c => ?_⟩
  by_cases hc : c = b
  · subst hc; rw [if_pos rfl]; exact Trie.get_set_same _ _ _ _ (Nat.lt_succ_self _)
  · rw [if_neg hc]; exact Trie.get_set_ne _ _ _ _ _ hc

theorem cell_row (w : World) (k o : Nat) (c : Array Value) (T : TypeId) (fr : Nat × Nat) (h : w.heap[k]? = some (.cells c T fr)) : w.cell? ⟨k, o, none⟩ = c[o]? := by
  simp [World.cell?, h]

/-- Cells of one's own are written. -/
theorem Rel.write {g g' : Nat → Option Blk} (h : Rel N ρ g w) {b : Nat} {x : Blk} {p : Place} (hb : g b = some x) (hp : ρ b = some p) (hro : x.ro = false) {o : Nat} {vs vs' cells : List Value}
    (hl : lay x.cells o vs = some cells) (hv : VRs ρ vs vs') (ho : vs.all oneV = true) {c : Array Value} {T : TypeId} (hc : w.heap[p.blk]? = some (.cells c T (0, 0)))
    (e : ∀ d, g' d = if d = b then some { x with cells } else g d) {c' : Array Value} (hc' : c'.size = c.size) (hcc : ∀ j, c'[j]? = if p.off + o ≤ j ∧ j < p.off + o + vs'.length then vs'[j - (p.off + o)]? else c[j]?)
    {w' : World} (hs : w'.heap.size = w.heap.size) (hw : w'.heap[p.blk]? = some (.cells c' T (0, 0))) (hw' : ∀ k, k ≠ p.blk → w'.heap[k]? = w.heap[k]?) : Rel N ρ g' w' := by
  obtain ⟨l1, l2, l3⟩ := lay_spec _ _ _ _ hl
  have hlen := hv.length
  obtain ⟨q, q1, q2, q3, q4, q5, q6⟩ := h.blk b x hb
  rw [hp] at q1
  obtain rfl : p = q := by simpa using q1
  obtain ⟨r1, r2, c0, T0, r3, r4⟩ := q6 hro
  rw [hc] at r3
  simp only [Option.some.injEq, Obj.cells.injEq, and_true] at r3
  obtain ⟨rfl, rfl⟩ := r3
  have hcell : ∀ k i, k ≠ p.blk → w'.cell? ⟨k, i, none⟩ = w.cell? ⟨k, i, none⟩ := fun k i hk => World.cell?_of_block (hw' k hk)
  have hmk : ∀ d y p, g' d = some y → ρ d = some p → p.fin < p.off → ∃ y0, g d = some y0 := fun d y s hd hs hm => by
    by_cases hdb : d = b
    · exact ⟨x, by rw [hdb]; exact hb⟩
    · rw [e, if_neg hdb] at hd; exact ⟨y, hd⟩
  refine ⟨by rw [hs]; exact h.base, fun d y hd => ?_, fun d d' y y' s s' hne hd hd' hr hr' hs hs' => ?_, fun d y s hd hs hm => by
    obtain ⟨y0, hy0⟩ := hmk d y s hd hs hm
    obtain ⟨h1, h2, h3⟩ := h.marks d y0 s hy0 hs hm
    have hne : s.blk ≠ p.blk := fun hh => by rw [hh, hc] at h2; simp at h2
    refine ⟨h1, by rw [hw' _ hne]; exact h2, fun d' y' s' hne' hd' hs' hm' => ?_⟩
    obtain ⟨y1, hy1⟩ := hmk d' y' s' hd' hs' hm'
    exact h3 d' y1 s' hne' hy1 hs' hm'⟩
  · rw [e] at hd
    by_cases hdb : d = b
    · subst hdb
      rw [if_pos rfl] at hd
      obtain rfl : ({ x with cells } : Blk) = y := by simpa using hd
      refine ⟨p, hp, q2, q3, fun i v hi => ?_, fun hr => absurd hr (by simp [hro]), fun _ => ⟨r1, by simp only [l1]; exact r2, c', T, hw, by rw [hc']; exact r4⟩⟩
      simp only [l3] at hi
      rw [cell_row w' _ _ c' T _ hw, hcc]
      by_cases hin : o ≤ i ∧ i < o + vs.length
      · rw [if_pos hin] at hi
        rw [if_pos (by omega)]
        obtain ⟨v', hv1, hv2⟩ := hv.get hi
        exact ⟨v', by rw [← hv1]; congr 1; omega, hv2, VRs.oneV_get ho hi⟩
      · rw [if_neg hin] at hi
        rw [if_neg (by omega)]
        obtain ⟨v', hv1, hv2, hv3⟩ := q4 i v hi
        rw [cell_row w _ _ c T _ hc] at hv1
        exact ⟨v', hv1, hv2, hv3⟩
    · rw [if_neg hdb] at hd
      obtain ⟨s, s1, s2, s3, s4, s5, s6⟩ := h.blk d y hd
      refine ⟨s, s1, s2, s3, fun i v hi => ?_, s5, fun hr => ?_⟩
      · obtain ⟨v', hv1, hv2, hv3⟩ := s4 i v hi
        refine ⟨v', ?_, hv2, hv3⟩
        by_cases hk : s.blk = p.blk
        · rw [hk, cell_row w' _ _ c' T _ hw, hcc, if_neg, ← cell_row w _ _ c T _ hc, ← hk]
          · exact hv1
          · cases hr : y.ro with
            | true =>
              rcases s5 hr with h0 | h0
              · rw [h0] at hi; simp at hi
              · omega
            | false =>
              obtain ⟨t1, t2, _⟩ := s6 hr
              have hi' := (List.getElem?_eq_some_iff.1 hi).1
              rcases h.apart d b y x s p hdb hd hb hr hro s1 hp with h1 | h1 | h1
              · exact absurd hk h1
              · rcases l2 with h2 | h2
                · subst h2; simp only [List.length_nil] at hlen; omega
                · omega
              · rcases l2 with h2 | h2
                · subst h2; simp only [List.length_nil] at hlen; omega
                · omega
        · rw [hcell _ _ hk]; exact hv1
      · obtain ⟨t1, t2, c1, T1, t3, t4⟩ := s6 hr
        refine ⟨t1, t2, ?_⟩
        by_cases hk : s.blk = p.blk
        · rw [hk, hc] at t3
          simp only [Option.some.injEq, Obj.cells.injEq, and_true] at t3
          obtain ⟨rfl, rfl⟩ := t3
          exact ⟨c', T, by rw [hk]; exact hw, by rw [hc']; exact t4⟩
        · exact ⟨c1, T1, by rw [hw' _ hk]; exact t3, t4⟩
  · rw [e] at hd hd'
    have key : ∀ d y, (if d = b then some { x with cells } else g d) = some y → ∃ y0, g d = some y0 ∧ y0.ro = y.ro := fun d y hd => by
      by_cases hdb : d = b
      · rw [if_pos hdb] at hd; subst hdb; exact ⟨x, hb, by have h9 := Option.some.inj ‹some _ = some y›; rw [← h9]⟩
      · rw [if_neg hdb] at hd; exact ⟨y, hd, rfl⟩
    obtain ⟨y0, hy0, hy0r⟩ := key d y hd
    obtain ⟨y1, hy1, hy1r⟩ := key d' y' hd'
    exact h.apart d d' y0 y1 s s' hne hy0 hy1 (by rw [hy0r]; exact hr) (by rw [hy1r]; exact hr') hs hs'

/-- The model's storeCells over cells of one's own. -/
theorem write_run {g g' : Nat → Option Blk} (h : Rel N ρ g w) {b : Nat} {x : Blk} {p : Place} (hb : g b = some x) (hp : ρ b = some p) (hro : x.ro = false) {o : Nat} {vs vs' cells : List Value}
    (hl : lay x.cells o vs = some cells) (hv : VRs ρ vs vs') (ho : vs.all oneV = true) (e : ∀ d, g' d = if d = b then some { x with cells } else g d) :
    ∃ w', (storeCells ⟨p.blk, p.off + o, none⟩ vs').run P w = .ok () w' ∧ Rel N ρ g' w' ∧ Keeps N w w' := by
  obtain ⟨l1, l2, l3⟩ := lay_spec _ _ _ _ hl
  have hlen := hv.length
  obtain ⟨q, q1, q2, q3, q4, q5, q6⟩ := h.blk b x hb
  rw [hp] at q1
  obtain rfl : p = q := by simpa using q1
  obtain ⟨r1, r2, c, T, r3, r4⟩ := q6 hro
  rcases l2 with h2 | h2
  · subst h2
    have : vs' = [] := by simpa using hlen
    subst this
    have hc : cells = x.cells := by
      apply List.ext_getElem?; intro j; rw [l3, if_neg (by simp only [List.length_nil]; omega)]
    refine ⟨w, rfl, h.congr fun d => ?_, .refl N w⟩
    rw [e, hc]
    by_cases hd : d = b
    · rw [if_pos hd, hd, hb]
    · rw [if_neg hd]
  · have hfit : p.off + o + 0 + vs'.length ≤ c.size := by omega
    have hrun := run_storeCells_at P p.blk (p.off + o) T vs' 0 c w r3 hfit (hv.one ho)
    simp only [Nat.add_zero] at hrun
    refine ⟨_, hrun, h.write hb hp hro hl hv ho r3 e (c' := (c.toList.take (p.off + o) ++ vs' ++ c.toList.drop (p.off + o + vs'.length)).toArray) ?_ ?_ ?_ (setRow_heap w p.blk c _ T _ r3) (fun k hk => setRow_other w p.blk k _ hk), ?_⟩
    · simp only [List.size_toArray, List.length_append, List.length_take, List.length_drop, Array.length_toList]; omega
    · intro j
      rw [List.getElem?_toArray, List.append_assoc]
      have hl1 : (c.toList.take (p.off + o)).length = p.off + o := by rw [List.length_take, Array.length_toList]; omega
      by_cases h1 : j < p.off + o
      · rw [if_neg (by omega), List.getElem?_append_left (by omega), List.getElem?_take, if_pos h1]; simp
      · rw [List.getElem?_append_right (by omega), hl1]
        by_cases h3 : j < p.off + o + vs'.length
        · rw [if_pos (by omega), List.getElem?_append_left (by omega)]
        · rw [if_neg (by omega), List.getElem?_append_right (by omega), List.getElem?_drop, ← Array.getElem?_toList]; congr 1; omega
    · simp [World.setRow]
    · exact Keeps.row r1 r3 rfl rfl rfl (by simp [World.setRow]) (fun k _ hk => setRow_other w p.blk k _ hk)

/-! ### Types -/
theorem sizeT_run {t : TypeId} {n : Nat} (h : sizeT P t = some n) : (sizeOf t).run P w = .ok n w := by
  unfold sizeT at h
  obtain ⟨i, hi, rfl⟩ := Option.map_eq_some_iff.1 h
  simp [sizeOf, typeInfo, hi]
theorem isAgg_run {t : TypeId} {b : Bool} (h : Clean.isAgg P t = some b) : (Go.isAgg t).run P w = .ok b w := by
  unfold Clean.isAgg at h
  unfold Go.isAgg
  rw [Sem.run_bind]
  split at h
  · obtain rfl : true = b := by simpa using h
    rename_i hu; rw [run_underlying hu]; rfl
  · obtain rfl : true = b := by simpa using h
    rename_i hu; rw [run_underlying hu]; rfl
  · obtain rfl : false = b := by simpa using h
    rename_i d h1 h2 hu; rw [run_underlying hu]
    simp only [Result.andThen_ok]
    cases d with
    | struct f => exact absurd rfl (h1 f)
    | array n e => exact absurd rfl (h2 n e)
    | _ => rfl
  · cases h
theorem zeroT_run {t : TypeId} {z : Value} (h : zeroT P t = some z) : (zeroValue t).run P w = .ok z w ∧ plainV z = true := by
  unfold zeroT at h
  split at h
  · rename_i i hi
    split at h
    · rename_i z' hz
      cases hp : plainV z' with
      | false => simp [hp] at h
      | true =>
        simp [hp] at h
        subst h
        exact ⟨by simp [zeroValue, typeInfo, hi, hz], hp⟩
    · cases h
  · cases h
theorem zeroT_info {t : TypeId} {z : Value} (h : zeroT P t = some z) : ∃ i, P.info? t = some i ∧ i.zero = some z ∧ plainV z = true := by
  unfold zeroT at h
  split at h
  · rename_i i hi
    split at h
    · rename_i z' hz
      cases hp : plainV z' with
      | false => simp [hp] at h
      | true =>
        simp [hp] at h
        subst h
        exact ⟨i, hi, hz, hp⟩
    · cases h
  · cases h

/-- The cells of a block, read. -/
theorem cells_read {g : Nat → Option Blk} (h : Rel N ρ g w) {b : Nat} {x : Blk} {p : Place} (hb : g b = some x) (hp : ρ b = some p) {o n : Nat} {r : List Value} (ht : takeN x.cells o n = some r) :
    ∃ r', VRs ρ r r' ∧ r'.length = n ∧ (∀ j v, r'[j]? = some v → w.cell? ((⟨p.blk, p.off + o, none⟩ : Addr).add j) = some v) := by
  obtain ⟨hl, hj⟩ := takeN_spec _ _ _ _ ht
  have key : ∀ k (r : List Value), (∀ j, j < r.length → r[j]? = x.cells[o + k + j]?) → ∃ r', VRs ρ r r' ∧ (∀ j v, r'[j]? = some v → w.cell? ⟨p.blk, p.off + o + k + j, none⟩ = some v) := by
    intro k r
    induction r generalizing k with
    | nil => intro _; exact ⟨[], .nil, fun j v hv => by simp at hv⟩
    | cons v r ih =>
      intro hr
      have h0 := hr 0 (by simp)
      obtain ⟨v', hv1, hv2, _⟩ := h.cell hb hp (i := o + k) (v := v) (by simpa using h0.symm)
      obtain ⟨r', hr1, hr2⟩ := ih (k + 1) (fun j hj => by have := hr (j + 1) (by simpa using hj); rw [show o + (k + 1) + j = o + k + (j + 1) by omega]; simpa using this)
      refine ⟨v' :: r', .cons hv2 hr1, fun j u hu => ?_⟩
      cases j with
      | zero => obtain rfl : v' = u := by simpa using hu
                rw [← hv1]; congr 2; omega
      | succ j => rw [show p.off + o + k + (j + 1) = p.off + o + (k + 1) + j by omega]; exact hr2 j u (by simpa using hu)
  obtain ⟨r', h1, h2⟩ := key 0 r (fun j hj' => by rw [Nat.add_zero]; exact hj j (by omega))
  refine ⟨r', h1, by rw [h1.length, hl], fun j v hv => ?_⟩
  have : (⟨p.blk, p.off + o, none⟩ : Addr).add j = ⟨p.blk, p.off + o + j, none⟩ := by unfold Addr.add; split <;> simp_all
  rw [this]
  have := h2 j v hv
  simpa using this

end Go.Clean

/- The clean executor: what is plain of numbers; each operation that turns no memory. -/
set_option linter.unusedVariables false
set_option linter.unusedSimpArgs false
namespace Go.Clean
open Go Go.RowKit Ieee

/-! ### Floats -/
theorem sum_nan_left {x y : Datum} (h : x.isNaN = true) : x.sum y = none := by cases x <;> simp_all [Datum.isNaN, Datum.sum]
theorem sum_nan_right {x y : Datum} (h : y.isNaN = true) : x.sum y = none := by cases x <;> cases y <;> simp_all [Datum.isNaN, Datum.sum]
theorem product_nan_left {x y : Datum} (h : x.isNaN = true) : x.product y = none := by cases x <;> simp_all [Datum.isNaN, Datum.product]
theorem product_nan_right {x y : Datum} (h : y.isNaN = true) : x.product y = none := by cases x <;> cases y <;> simp_all [Datum.isNaN, Datum.product]
theorem quotient_nan_left {n : Nat} {x y : Datum} (h : x.isNaN = true) : Datum.quotient n x y = none := by cases x <;> simp_all [Datum.isNaN, Datum.quotient]
theorem quotient_nan_right {n : Nat} {x y : Datum} (h : y.isNaN = true) : Datum.quotient n x y = none := by cases x <;> cases y <;> simp_all [Datum.isNaN, Datum.quotient]
theorem order_nan_left {x y : Datum} (h : x.isNaN = true) : x.order y = none := by cases x <;> simp_all [Datum.isNaN, Datum.order]
theorem order_nan_right {x y : Datum} (h : y.isNaN = true) : x.order y = none := by cases x <;> cases y <;> simp_all [Datum.isNaN, Datum.order]
theorem opposite_nan {x : Datum} : x.opposite.isNaN = x.isNaN := by cases x <;> rfl

theorem floatX_left {op : BinOp} {x : Nat} (h : isNaN x = true) (y : Nat) : floatX op x y = none := by
  unfold floatX
  split
  · simp [Format.add, sum_nan_left (show (double.read x).isNaN = true from h)]
  · simp [Format.sub, sum_nan_left (show (double.read x).isNaN = true from h)]
  · simp [Format.mul, product_nan_left (show (double.read x).isNaN = true from h)]
  · simp [Format.div, quotient_nan_left (show (double.read x).isNaN = true from h)]
  · rfl
theorem floatX_right {op : BinOp} {y : Nat} (h : isNaN y = true) (x : Nat) : floatX op x y = none := by
  unfold floatX
  split
  · simp [Format.add, sum_nan_right (show (double.read y).isNaN = true from h)]
  · simp [Format.sub, sum_nan_right (show (double.read y).opposite.isNaN = true from opposite_nan.trans h)]
  · simp [Format.mul, product_nan_right (show (double.read y).isNaN = true from h)]
  · simp [Format.div, quotient_nan_right (show (double.read y).isNaN = true from h)]
  · rfl
theorem floatX_FR {op : BinOp} {x x' y y' : Nat} (hx : FR x x') (hy : FR y y') : floatX op x' y' = floatX op x y := by
  rcases hx with rfl | ⟨h1, h2⟩
  · rcases hy with rfl | ⟨h1, h2⟩
    · rfl
    · rw [floatX_right h1, floatX_right h2]
  · rw [floatX_left h1, floatX_left h2]
theorem order_FR {x x' y y' : Nat} (hx : FR x x') (hy : FR y y') : double.order x' y' = double.order x y := by
  rcases hx with rfl | ⟨h1, h2⟩
  · rcases hy with rfl | ⟨h1, h2⟩
    · rfl
    · simp [Format.order, order_nan_right (show (double.read y).isNaN = true from h1), order_nan_right (show (double.read y').isNaN = true from h2)]
  · simp [Format.order, order_nan_left (show (double.read x).isNaN = true from h1), order_nan_left (show (double.read x').isNaN = true from h2)]
theorem nan_bits (s k : Nat) (h1 : s < 2) (h2 : k < 4503599627370495) : isNaN (s * 9223372036854775808 + 9218868437227405312 + 1 + k) = true := by
  have hw : double.signWeight = 9223372036854775808 := by decide
  have hi : double.infRung = 9218868437227405312 := by decide
  unfold isNaN Format.read
  simp only [hw, hi]
  have hm : (s * 9223372036854775808 + 9218868437227405312 + 1 + k) % 9223372036854775808 = 9218868437227405312 + 1 + k := by
    have : s = 0 ∨ s = 1 := by omega
    rcases this with rfl | rfl <;> omega
  have hb : double.binade = 4503599627370496 := by decide
  rw [hm]
  simp only [hb]
  rw [if_neg (by omega), if_neg (by omega), if_neg (by omega)]
  rfl
theorem cut_nan (x y t : Nat) : isNaN (Question.cut (.nanBits .f64 x y) t) = true := by
  show isNaN ((t % 2) * 2 ^ 63 + 0x7ff0000000000000 + 1 + (t / 2) % (2 ^ 52 - 1)) = true
  have e1 : (2 : Nat) ^ 63 = 9223372036854775808 := by decide
  have e2 : (2 : Nat) ^ 52 - 1 = 4503599627370495 := by decide
  rw [e1, e2]
  exact nan_bits _ _ (Nat.mod_lt _ (by decide)) (Nat.mod_lt _ (by decide))
theorem cut_nanMax (b : Bool) (x y t : Nat) : isNaN (Question.cut (.nanMinMax .f64 b x y) t) = true := by
  show isNaN ((t % 2) * 2 ^ 63 + 0x7ff0000000000000 + 1 + (t / 2) % (2 ^ 52 - 1)) = true
  have e1 : (2 : Nat) ^ 63 = 9223372036854775808 := by decide
  have e2 : (2 : Nat) ^ 52 - 1 = 4503599627370495 := by decide
  rw [e1, e2]
  exact nan_bits _ _ (Nat.mod_lt _ (by decide)) (Nat.mod_lt _ (by decide))
theorem noNum_nan : isNaN noNum = true := by decide
theorem isNaN_mod (b : Nat) : isNaN (b % 9223372036854775808) = isNaN b := by
  have hw : double.signWeight = 9223372036854775808 := by decide
  unfold isNaN Format.read
  simp only [hw, Nat.mod_mod]
  split
  · rfl
  · split
    · rfl
    · split <;> rfl
theorem xor_mod (b : Nat) : (b ^^^ 9223372036854775808) % 9223372036854775808 = b % 9223372036854775808 := by
  have h : (9223372036854775808 : Nat) = 2 ^ 63 := by decide
  rw [h, Nat.xor_mod_two_pow]
  simp
theorem isNaN_neg (b : Nat) : isNaN (b ^^^ 9223372036854775808) = isNaN b := by rw [← isNaN_mod (b ^^^ 9223372036854775808), xor_mod, isNaN_mod]
theorem FR.nan {x y : Nat} (hx : isNaN x = true) (hy : isNaN y = true) : FR x y := .inr ⟨hx, hy⟩
theorem FR.neg {x y : Nat} (h : FR x y) : FR (canon (x ^^^ 9223372036854775808)) (y ^^^ 9223372036854775808) := by
  unfold canon
  rcases h with rfl | ⟨h1, h2⟩
  · cases hn : isNaN (x ^^^ 9223372036854775808)
    · exact .refl _
    · exact .nan noNum_nan hn
  · rw [isNaN_neg, h1]
    exact .nan noNum_nan (by rw [isNaN_neg, h2])
theorem FR.eq {x y : Nat} (h : FR x y) (hx : isNaN x = false) : y = x := by
  rcases h with rfl | ⟨h1, h2⟩
  · rfl
  · rw [hx] at h1; cases h1

variable {P : Program} {N : Nat} {ρ : Env} {m m' : Mem} {w : World}

/-! ### What asks nothing of the world -/
theorem pureRun_run {α : Type} : ∀ (s : Sem α) {a : α}, pureRun P s = some a → ∀ w, s.run P w = .ok a w
  | .pure b, a, h, w => by obtain rfl : b = a := by simpa [pureRun] using h
                           rfl
  | .program k, a, h, w => by unfold pureRun at h; exact pureRun_run (k P) h w
  | .load _ _ _, _, h, _ => by simp [pureRun] at h
  | .store _ _ _ _, _, h, _ => by simp [pureRun] at h
  | .new _ _, _, h, _ => by simp [pureRun] at h
  | .shape _ _, _, h, _ => by simp [pureRun] at h
  | .freeze _ _ _, _, h, _ => by simp [pureRun] at h
  | .frozen _ _, _, h, _ => by simp [pureRun] at h
  | .getObj _ _, _, h, _ => by simp [pureRun] at h
  | .setObj _ _ _, _, h, _ => by simp [pureRun] at h
  | .choose _ _, _, h, _ => by simp [pureRun] at h
  | .sys _ _, _, h, _ => by simp [pureRun] at h
  | .mark _ _, _, h, _ => by simp [pureRun] at h
  | .halt _, _, h, _ => by simp [pureRun] at h

/-! ### Frames -/
def DR (ρ : Env) (d : FuncId × List Value) (d' : Deferred) : Prop := (∃ args cap : List Value, d' = { target := .fn (.func d.1) ⟨cap⟩, args := ⟨args⟩ } ∧ VRs ρ d.2 (args ++ cap)) ∨
  (d.2 = markV ∧ ∃ p, ρ d.1 = some p ∧ p.fin < p.off ∧ d' = { target := .collected p.blk, args := #[] })
theorem VRs.noMark {ρ : Env} {l l' : List Value} (h : VRs ρ l l') : isMark l = false := by
  unfold isMark
  split
  · obtain ⟨v', vs', _, h1, _⟩ := h.inv
    exact h1.elim
  · rfl
def DRs (ρ : Env) : List (FuncId × List Value) → List Deferred → Prop
  | [], l => l = []
  | d :: ds, l => ∃ d' ds', l = d' :: ds' ∧ DR ρ d d' ∧ DRs ρ ds ds'
theorem DRs.mono {ρ' : Env} (e : Ext ρ ρ') : ∀ {l : List (FuncId × List Value)} {l' : List Deferred}, DRs ρ l l' → DRs ρ' l l'
  | [], _, h => h
  | d :: ds, _, h => by
    obtain ⟨d', ds', rfl, h0, h3⟩ := h
    refine ⟨d', ds', rfl, ?_, h3.mono e⟩
    rcases h0 with ⟨args, cap, h1, h2⟩ | ⟨h1, p, h2, h4, h5⟩
    · exact .inl ⟨args, cap, h1, h2.mono e⟩
    · exact .inr ⟨h1, p, e _ _ h2, h4, h5⟩
structure FrR (ρ : Env) (fr : Fr) (a : Act) : Prop where
  size : a.tmps.size = fr.n
  tmps : ∀ t, VR ρ (fr.at t) (a.tmps.getD t undef)
  defers : DRs ρ fr.d a.defers
theorem FrR.mono {ρ' : Env} {fr : Fr} {a : Act} (h : FrR ρ fr a) (e : Ext ρ ρ') : FrR ρ' fr a := ⟨h.size, fun t => (h.tmps t).mono e, h.defers.mono e⟩
theorem ev_rel {fr : Fr} {a : Act} (h : FrR ρ fr a) {x : Operand} {v : Value} (he : ev fr x = some v) : VR ρ v (a.eval x) := by
  cases x with
  | tmp t => obtain rfl : fr.at t = v := by simpa [ev] using he
             exact h.tmps t
  | const c =>
    unfold ev at he
    cases hp : plainV c with
    | false => simp [hp] at he
    | true => simp [hp] at he; subst he; exact .plain hp
  | func f => obtain rfl : Value.func (.func f) #[] #[] = v := by simpa [ev] using he
              exact ⟨[], [], rfl, .nil, .nil⟩
  | global g => simp [ev] at he
theorem evs_rel {fr : Fr} {a : Act} (h : FrR ρ fr a) : ∀ {l : List Operand} {vs : List Value}, evs fr l = some vs → VRs ρ vs (l.map a.eval)
  | [], vs, he => by obtain rfl : [] = vs := by simpa [evs] using he
                     exact .nil
  | x :: l, vs, he => by
    unfold evs at he
    split at he
    · cases he
    · rename_i v hv
      split at he
      · cases he
      · rename_i us hus
        obtain rfl : v :: us = vs := by simpa using he
        exact .cons (ev_rel h hv) (evs_rel h hus)
theorem FrR.put {fr : Fr} {a : Act} (h : FrR ρ fr a) {dst : Option Tmp} {v v' : Value} (hv : VR ρ v v') {fr' : Fr} (hp : fr.put dst v m = some (fr', m')) : FrR ρ fr' (a.put dst v') ∧ m = m' := by
  unfold Fr.put at hp
  rw [putK_eq] at hp
  cases dst with
  | none => simp at hp; obtain ⟨rfl, rfl⟩ := hp; exact ⟨h, rfl⟩
  | some d =>
    simp only at hp
    split at hp
    · rename_i hd
      simp only [Option.some.injEq, Prod.mk.injEq] at hp
      obtain ⟨rfl, rfl⟩ := hp
      refine ⟨⟨by simp [Act.put, h.size], fun t => ?_, h.defers⟩, rfl⟩
      by_cases ht : t = d
      · subst ht
        have h1 : (Fr.mk (Trie.set (some v) (t + 1) fr.t t) fr.n fr.d).at t = v := by simp [Fr.at, Trie.get_set_same _ _ _ _ (Nat.lt_succ_self t)]
        have h2 : (a.put (some t) v').tmps.getD t undef = v' := by simp [Act.put, h.size, hd]
        rw [h1, h2]; exact hv
      · have h1 : (Fr.mk (Trie.set (some v) (d + 1) fr.t d) fr.n fr.d).at t = fr.at t := by simp [Fr.at, Trie.get_set_ne _ _ _ _ _ ht]
        have h2 : (a.put (some d) v').tmps.getD t undef = a.tmps.getD t undef := by simp [Act.put, Array.getD_eq_getD_getElem?, Array.getElem?_setIfInBounds, Ne.symm ht]
        rw [h1, h2]; exact h.tmps t
    · cases hp

theorem Does.of {s : Sem Value} {v v' : Value} {w' : World} {ρ' : Env} (h : s.run P w = .ok v' w') (ha : After N ρ m m' w v v' w' ρ') : Does P N ρ m m' w v (do pure (.value (← s))) :=
  Does.value (by rw [Sem.run_bind, h]; rfl) ha

/-! ### Values of what is looked at -/
theorem VR.int {k : IntKind} {n : Int} {v : Value} (h : VR ρ (.int k n) v) : v = .int k n := h
theorem VR.bool {b : Bool} {v : Value} (h : VR ρ (.bool b) v) : v = .bool b := h
theorem VR.str {s : ByteArray} {v : Value} (h : VR ρ (.string s) v) : v = .string s := h
theorem VR.flt {k : FloatKind} {x : Nat} {v : Value} (h : VR ρ (.float k x) v) : ∃ y, v = .float k y ∧ FR x y := h
theorem VR.cpx {k : FloatKind} {x y : Nat} {v : Value} (h : VR ρ (.complex k x y) v) : ∃ x' y', v = .complex k x' y' ∧ FR x x' ∧ FR y y' := h
theorem VR.ptr {b o : Nat} {v : Value} (h : VR ρ (.pointer (some ⟨b, o, none⟩)) v) : ∃ p, ρ b = some p ∧ v = .pointer (some ⟨p.blk, p.off + o, none⟩) := by
  obtain ⟨p, h1, _, h2⟩ := h
  exact ⟨p, h1, h2⟩
theorem VR.slc {b o n c : Nat} {v : Value} (h : VR ρ (.slice (some ⟨b, o, none⟩) n c) v) : ∃ p c', ρ b = some p ∧ v = .slice (some ⟨p.blk, p.off + o, none⟩) n c' ∧ n ≤ c ∧ c ≤ c' ∧ (p.exact = true → c' = c) ∧ p.off + o + c' * p.sz ≤ p.fin := by
  rcases h with ⟨p, c', h1, _, h2⟩ | h
  · exact ⟨p, c', h1, h2⟩
  · exact absurd rfl h.1
theorem VR.agg' {l : List Value} {v : Value} (h : VR ρ (.agg ⟨l⟩) v) : ∃ l', v = .agg ⟨l'⟩ ∧ VRs ρ l l' := h
theorem VR.tup {l : List Value} {v : Value} (h : VR ρ (.tuple ⟨l⟩) v) : ∃ l', v = .tuple ⟨l'⟩ ∧ VRs ρ l l' := h
theorem VR.fun' {f : Fn} {a b : List Value} {v : Value} (h : VR ρ (.func f ⟨a⟩ ⟨b⟩) v) : ∃ a' b', v = .func f ⟨a'⟩ ⟨b'⟩ ∧ VRs ρ a a' ∧ VRs ρ b b' := h

theorem add_off (k o n : Nat) : (⟨k, o, none⟩ : Addr).add n = ⟨k, o + n, none⟩ := by unfold Addr.add; split <;> simp_all

/-! ### The looks -/
theorem load_does {t : TypeId} {x x' v : Value} (hx : VR ρ x x') (h : loadX P t x m = some (v, m')) (hr : Rel N ρ m.t.get w) : ∃ v', (Instr.loadAt t x').run P w = .ok v' w ∧ VR ρ v v' ∧ m'.t = m.t := by
  unfold loadX at h
  split at h
  · rename_i b o
    obtain ⟨blk, m1, h1, h2⟩ := bind_some h
    obtain ⟨hb, rfl⟩ := getB_some h1
    obtain ⟨p, hp, rfl⟩ := hx.ptr
    simp only [Instr.loadAt, Instr.sureAddr, loadVar, Sem.run_bind, Sem.run_pure, Result.andThen_ok]
    match ha : Clean.isAgg P t, h2 with
    | some true, h2 =>
      rw [isAgg_run ha]
      simp only [Result.andThen_ok, if_true, Sem.run_bind]
      match hn : sizeT P t, h2 with
      | some n, h2 =>
        obtain ⟨ho, rfl⟩ := lift_some h2
        obtain ⟨l, hl, rfl⟩ := Option.map_eq_some_iff.1 ho
        obtain ⟨l', hl1, hl2, hl3⟩ := cells_read hr hb hp hl
        rw [sizeT_run hn]
        have := run_loadCells_list (P := P) w ⟨p.blk, p.off + o, none⟩ l' hl3
        rw [hl2] at this
        simp only [Result.andThen_ok, this, Sem.run_pure]
        exact ⟨_, rfl, ⟨l', rfl, hl1⟩, trivial⟩
      | none, h2 => exact (fail_some h2).elim
    | some false, h2 =>
      rw [isAgg_run ha]
      obtain ⟨ho, rfl⟩ := lift_some h2
      obtain ⟨v', hv1, hv2, _⟩ := hr.cell hb hp ho
      simp only [Result.andThen_ok, Bool.false_eq_true, if_false, run_load, hv1]
      exact ⟨v', rfl, hv2, trivial⟩
    | none, h2 => exact (fail_some h2).elim
  · exact (fail_some h).elim

theorem store_does {t : TypeId} {x x' y y' v : Value} (hx : VR ρ x x') (hy : VR ρ y y') (h : storeX P t x y m = some (v, m')) (hr : Rel N ρ m.t.get w) :
    ∃ w', (Instr.storeAt t x' y').run P w = .ok () w' ∧ v = undef ∧ Rel N ρ m'.t.get w' ∧ Keeps N w w' := by
  unfold storeX at h
  split at h
  · rename_i b o
    obtain ⟨blk, m1, h1, h2⟩ := bind_some h
    obtain ⟨hb, rfl⟩ := getB_some h1
    obtain ⟨u, m2, h3, h4⟩ := bind_some h2
    obtain ⟨hg, rfl⟩ := guard_some h3
    simp only [Bool.and_eq_true, Bool.not_eq_true', beq_iff_eq] at hg
    obtain ⟨⟨hro, hsz⟩, hone⟩ := hg
    obtain ⟨l, hl, h5⟩ := lay_some (g := fun l => do
      setB b (some { blk with cells := l })
      M.ret undef) h4
    obtain ⟨u2, m3, h6, h7⟩ := bind_some h5
    obtain ⟨hn, hget⟩ := setB_some h6
    obtain ⟨rfl, rfl⟩ := ret_some h7
    obtain ⟨p, hp, rfl⟩ := hx.ptr
    obtain ⟨w', hw1, hw2, hw3⟩ := write_run (P := P) (g' := m3.t.get) hr hb hp hro hl hy.cells hone hget
    refine ⟨w', ?_, rfl, hw2, hw3⟩
    have hlen : y'.cells.size = (cellsV y).length := by
      have := hy.cells.length
      rw [cellsV_eq y', Array.length_toList] at this
      exact this
    simp only [Instr.storeAt, Instr.sureAddr, storeVar, Sem.run_bind, Sem.run_pure, Result.andThen_ok, sizeT_run hsz, hlen]
    simp only [ne_eq, not_true_eq_false, if_false]
    rw [cellsV_eq] at hw1
    exact hw1
  · exact (fail_some h).elim

theorem field_size {f : Field} {n : Nat} (h : sizeT P f.type = some (n + 1)) (a : Addr) : (fieldPlace a f).run P w = .ok (a.add f.offset) w := by
  unfold fieldPlace
  rw [Sem.run_bind, sizeT_run h]
  simp

theorem fieldAddr_does {s : TypeId} {x x' v : Value} {f : Nat} (hx : VR ρ x x') (h : fieldAddrX P s x f = some v) : ∃ v', (Instr.fieldAt s x' f).run P w = .ok v' w ∧ VR ρ v v' := by
  unfold fieldAddrX at h
  split at h
  · rename_i fields b o hu
    split at h
    · rename_i g hg
      split at h
      · rename_i n hn
        obtain rfl := Option.some.inj h
        obtain ⟨p, hp, rfl⟩ := hx.ptr
        refine ⟨.pointer (some ⟨p.blk, p.off + (o + g.offset), none⟩), ?_, ⟨p, hp, rfl, rfl⟩⟩
        have hg' : fields[f]? = some g := by rw [← Array.getElem?_toList]; exact hg
        unfold Instr.fieldAt
        simp only [Sem.run_bind, run_underlying hu, Result.andThen_ok, hg', Instr.sureAddr, Sem.run_pure, field_size hn, add_off, Nat.add_assoc]
      · cases h
    · cases h
  · cases h

theorem indexAddr_does {t : TypeId} {x x' i i' v : Value} (hx : VR ρ x x') (hi : VR ρ i i') (h : indexAddrX P t x i = some v) : ∃ v', (Instr.indexAt t x' i').run P w = .ok v' w ∧ VR ρ v v' := by
  unfold indexAddrX at h
  split at h
  · rename_i e b o len cap k i hu
    split at h
    · rename_i n hn
      cases hd : decide (0 ≤ i ∧ i < (len : Int)) with
      | false => simp [hd] at h
      | true =>
        simp only [hd, cond_true, Option.some.injEq] at h
        subst h
        have hd' := of_decide_eq_true hd
        obtain rfl := hi.int
        obtain ⟨p, c', hp, rfl, _⟩ := hx.slc
        refine ⟨.pointer (some ⟨p.blk, p.off + (o + i.toNat * n), none⟩), ?_, ⟨p, hp, rfl, rfl⟩⟩
        unfold Instr.indexAt
        simp only [Sem.run_bind, asIntOf, Sem.run_pure, Result.andThen_ok, run_underlying hu, hd', and_self, if_true, sizeT_run hn, add_off, Nat.add_assoc]
    · cases h
  · rename_i len e b o k i hu
    split at h
    · rename_i n hn
      cases hd : decide (0 ≤ i ∧ i < (len : Int)) with
      | false => simp [hd] at h
      | true =>
        simp only [hd, cond_true, Option.some.injEq] at h
        subst h
        have hd' := of_decide_eq_true hd
        obtain rfl := hi.int
        obtain ⟨p, hp, rfl⟩ := hx.ptr
        refine ⟨.pointer (some ⟨p.blk, p.off + (o + i.toNat * n), none⟩), ?_, ⟨p, hp, rfl, rfl⟩⟩
        unfold Instr.indexAt
        simp only [Sem.run_bind, asIntOf, Sem.run_pure, Result.andThen_ok, run_underlying hu, hd', and_self, if_true, sizeT_run hn, add_off, Nat.add_assoc, Instr.sureAddr]
    · cases h
  · cases h

theorem part_does {t : TypeId} {cs cs' : List Value} {off : Nat} {v : Value} (hc : VRs ρ cs cs') (h : partX P t cs off = some v) : ∃ v', (part t ⟨cs'⟩ off).run P w = .ok v' w ∧ VR ρ v v' := by
  unfold partX at h
  unfold part
  split at h
  · rename_i ha
    split at h
    · rename_i n hn
      obtain ⟨l, hl, rfl⟩ := Option.map_eq_some_iff.1 h
      obtain ⟨l', hl', hll⟩ := hc.takeN hl
      obtain ⟨h1, h2⟩ := takeN_spec _ _ _ _ hl'
      simp only [Sem.run_bind, isAgg_run ha, Result.andThen_ok, if_true, sizeT_run hn, Sem.run_pure]
      refine ⟨_, rfl, ⟨l', ?_, hll⟩⟩
      congr 1
      apply Array.ext'
      simp only [Array.toList_extract]
      apply List.ext_getElem?
      intro j
      simp only [List.extract_eq_take_drop, List.getElem?_take, List.getElem?_drop]
      by_cases hj : j < n
      · rw [if_pos (by omega), h2 j hj]
      · rw [if_neg (by omega), List.getElem?_eq_none (by omega)]
    · cases h
  · rename_i ha
    obtain ⟨v', hv1, hv2⟩ := hc.get h
    have : (⟨cs'⟩ : Array Value)[off]? = some v' := by rw [← Array.getElem?_toList]; exact hv1
    simp only [Sem.run_bind, isAgg_run ha, Result.andThen_ok, Bool.false_eq_true, if_false, this, Sem.run_pure]
    exact ⟨v', rfl, hv2⟩
  · cases h

theorem fieldV_does {t : TypeId} {x x' v : Value} {f : Nat} (hx : VR ρ x x') (h : fieldX P t x f = some v) : ∃ v', (Instr.field t x' f).run P w = .ok v' w ∧ VR ρ v v' := by
  unfold fieldX at h
  split at h
  · rename_i fields cs hu
    split at h
    · rename_i g hg
      obtain ⟨cs', rfl, hcs⟩ := hx.agg'
      obtain ⟨v', h1, h2⟩ := part_does (P := P) (w := w) hcs h
      have hg' : fields[f]? = some g := by rw [← Array.getElem?_toList]; exact hg
      refine ⟨v', ?_, h2⟩
      unfold Instr.field
      simp only [Sem.run_bind, run_underlying hu, Result.andThen_ok, hg', asAgg, Sem.run_pure, h1]
    · cases h
  · cases h
theorem indexV_does {t : TypeId} {x x' i i' v : Value} (hx : VR ρ x x') (hi : VR ρ i i') (h : indexX P t x i = some v) : ∃ v', (Instr.index t x' i').run P w = .ok v' w ∧ VR ρ v v' := by
  unfold indexX at h
  split at h
  · rename_i len e cs k i hu
    split at h
    · rename_i n hn
      cases hd : decide (0 ≤ i ∧ i < (len : Int)) with
      | false => simp [hd] at h
      | true =>
        simp only [hd, cond_true] at h
        have hd' := of_decide_eq_true hd
        obtain rfl := hi.int
        obtain ⟨cs', rfl, hcs⟩ := hx.agg'
        obtain ⟨v', h1, h2⟩ := part_does (P := P) (w := w) hcs h
        refine ⟨v', ?_, h2⟩
        unfold Instr.index
        simp only [Sem.run_bind, asIntOf, Sem.run_pure, Result.andThen_ok, run_underlying hu, hd', and_self, if_true, sizeT_run hn, h1]
    · cases h
  · rename_i s k i hu
    cases hd : decide (0 ≤ i) with
    | false => simp [hd] at h
    | true =>
      simp only [hd, cond_true] at h
      have hd' := of_decide_eq_true hd
      obtain rfl := hi.int
      obtain rfl := hx.str
      obtain ⟨b, hb, rfl⟩ := Option.map_eq_some_iff.1 h
      refine ⟨_, ?_, VR.leaf (v := .int .u8 b.toNat) rfl⟩
      unfold Instr.index
      simp only [Sem.run_bind, asIntOf, Sem.run_pure, Result.andThen_ok, run_underlying hu, hd', if_true, hb]
  · cases h
theorem extract_does {x x' v : Value} {i : Nat} (hx : VR ρ x x') (h : extractX x i = some v) : ∃ v', (Instr.extract x' i).run P w = .ok v' w ∧ VR ρ v v' := by
  unfold extractX at h
  split at h
  · rename_i l
    obtain ⟨l', rfl, hl⟩ := hx.tup
    obtain ⟨v', h1, h2⟩ := hl.get h
    have : (⟨l'⟩ : Array Value)[i]? = some v' := by rw [← Array.getElem?_toList]; exact h1
    exact ⟨v', by simp [Instr.extract, this], h2⟩
  · cases h

end Go.Clean
