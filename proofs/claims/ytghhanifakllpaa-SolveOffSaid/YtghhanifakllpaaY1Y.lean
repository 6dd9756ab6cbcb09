/- The document's answer for chapter 14, in the clean executor: lists and systems that may be. -/
import Derived.Test.YtghhanifakllpaaZYY
import Derived.Test.YtghhanifakllpaaProg
set_option linter.unusedSimpArgs false
set_option linter.unusedVariables false
namespace Go.Proofs.Ytghhanifakllpaa
open Go.Clean

/-- math.Max's bits of two floats' bits, whatever it is. -/
def archR' (x y : Nat) : Nat :=
  let a := FloatKind.f64.decode x
  let b := FloatKind.f64.decode y
  if a == .infinity false || b == .infinity false then FloatKind.f64.encode (.infinity false)
  else if a.isNaN || b.isNaN then 0x7FF8000000000001
  else if a.isZero && b.isZero then (if a.neg == false then x else y)
  else if a.order b == some .gt then x else y
def fmax (x y : F) : F := fl (archR' (cOf x) (cOf y))
/-- What the executor takes for known, as far as this needs it. -/
structure KN (known : Known) : Prop where
  fin : ∀ x, known 50 [.float .f64 (cOf x)] = some (M.ret (.bool (ffin x)))
  abs : ∀ x, known 31 [.float .f64 (cOf x)] = some (M.ret (.float .f64 (cOf (fabs x))))
  max : ∀ x y, known 46 [.float .f64 (cOf x), .float .f64 (cOf y)] = some (M.ret (.float .f64 (cOf (fmax x y))))
  list : ∀ args, known 48 args = none
  check : ∀ args, known 47 args = none
  rows : ∀ args, known 73 args = none
  steps : ∀ args, known 49 args = none
  par : ∀ f args g, known f args = some g → Par g
  sil : ∀ f, (f = 50 ∨ f = 31 ∨ f = 46) → ∀ args, ∃ g, known f args = some g ∧ Nl g

def silF (f : FuncId) : Bool := f == 50 || f == 31 || f == 46
theorem KN.silent {known : Known} (K : KN known) (n : Nat) : SilOK silF (callN Try.prog known (n + 1)) := by
  intro f hf args m a m' h
  obtain ⟨g, h1, h2⟩ := K.sil f (by simpa [silF, or_assoc] using hf) args
  have e : callN Try.prog known (n + 1) f args = g := by
    conv => lhs; unfold callN
    simp only [h1]
  rw [e] at h
  exact h2 m a m' h
theorem KN.parC {known : Known} (K : KN known) (n : Nat) : ParC (callN Try.prog known n) := Par.callN (fun f args g h => K.par f args g h) n

def listF (xs : List F) (n : Nat) : Int := if xs.length = n then (if xs.all ffin then 0 else 5) else 140

variable {known : Known}
theorem all_take_f (xs : List F) (k : Nat) (h : k < xs.length) : (xs.take (k + 1)).all ffin = ((xs.take k).all ffin && ffin (fat xs k)) := by
  rw [List.take_succ_eq_append_getElem h, List.all_append]
  simp [fat, List.getD, h]
theorem all_not_f (xs : List F) (k : Nat) (h : k < xs.length) (hf : ffin (fat xs k) = false) : xs.all ffin = false := by
  rw [List.all_eq_false]
  refine ⟨fat xs k, ?_, by rw [hf]; simp⟩
  simp [fat, List.getD, h]

def listI (xs : List F) (a : Option Addr) (c : Nat) (m : Mem) (j : Nat) (fr : Fr) (m' : Mem) : Prop := ∃ i, i + j = xs.length ∧ fr.n = 23 ∧ fr.d = [] ∧ fr.at 0 = .slice a xs.length c ∧ fr.at 1 = .int .i64 xs.length ∧ fr.at 5 = .int .i64 (i : Nat) ∧ (xs.take i).all ffin = true ∧ Only m m'
end Go.Proofs.Ytghhanifakllpaa

/- The document's answer for chapter 14, in the clean executor: systems that may be; a copy of the rows. -/
namespace Go.Proofs.Ytghhanifakllpaa
open Go.Clean

variable {known : Known}
def rat' (rs : List (List F)) (i : Nat) : List F := rs.getD i []
/-- A slice of slices of floats. -/
def FM (m : Mem) (v : Value) (rs : List (List F)) : Prop :=
  ∃ a c, v = .slice a rs.length c ∧ ((a = none ∧ rs.length = 0 ∧ c = 0) ∨ ∃ b o x, a = some ⟨b, o, none⟩ ∧ m.at b = some x ∧ ∀ (i : Nat), i < rs.length → ∃ u, x.cells[o + i]? = some u ∧ FL m u (rat' rs i))
theorem FM.same {m m' : Mem} {v : Value} {rs : List (List F)} (h : FM m v rs) (e : ∀ b, m'.at b = m.at b) : FM m' v rs := by
  obtain ⟨a, c, h1, h2⟩ := h
  refine ⟨a, c, h1, ?_⟩
  rcases h2 with h2 | ⟨b, o, x, e1, e2, e3⟩
  · exact .inl h2
  · refine .inr ⟨b, o, x, e1, by rw [e]; exact e2, fun i hi => ?_⟩
    obtain ⟨u, h4, h5⟩ := e3 i hi
    exact ⟨u, h4, h5.same e⟩

theorem FM.old {m m' : Mem} {v : Value} {rs : List (List F)} (h : FM m v rs) (hw : WF m) (e : ∀ b, b < m.next → m'.at b = m.at b) : FM m' v rs := by
  obtain ⟨a, c, h1, h2⟩ := h
  refine ⟨a, c, h1, ?_⟩
  rcases h2 with h2 | ⟨b, o, x, e1, e2, e3⟩
  · exact .inl h2
  · refine .inr ⟨b, o, x, e1, by rw [e b (hw b x e2)]; exact e2, fun i hi => ?_⟩
    obtain ⟨u, h4, h5⟩ := e3 i hi
    exact ⟨u, h4, h5.old hw e⟩
theorem mem_rat {rs : List (List F)} {r : List F} (h : r ∈ rs) : ∃ i, i < rs.length ∧ rat' rs i = r := by
  obtain ⟨i, hi, rfl⟩ := List.getElem_of_mem h
  exact ⟨i, hi, by simp [rat', List.getD, hi]⟩
theorem rat_mem {rs : List (List F)} {i : Nat} (h : i < rs.length) : rat' rs i ∈ rs := by simp [rat', List.getD, h]
theorem chk4 {rs : List (List F)} (h : rs.length < 1 ∨ 128 < rs.length) : checkF rs = 4 := by unfold checkF; rw [if_pos (by omega)]
theorem chk140 {rs : List (List F)} (h : ¬ (rs.length < 1 ∨ 128 < rs.length)) {i : Nat} (hi : i < rs.length) (hl : (rat' rs i).length ≠ rs.length) : checkF rs = 140 := by
  unfold checkF
  rw [if_neg (by omega), if_neg]
  rw [List.all_eq_true]
  intro k
  have := k _ (rat_mem hi)
  simp at this
  exact hl this
theorem chkL {rs : List (List F)} (hl : ∀ k, k < rs.length → (rat' rs k).length = rs.length) : rs.all (fun r => r.length == rs.length) = true := by
  rw [List.all_eq_true]
  intro r hr
  obtain ⟨i, hi, rfl⟩ := mem_rat hr
  simp [hl i hi]
theorem chk5 {rs : List (List F)} (h : ¬ (rs.length < 1 ∨ 128 < rs.length)) (hl : ∀ k, k < rs.length → (rat' rs k).length = rs.length) {i : Nat} (hi : i < rs.length) (hf : (rat' rs i).all ffin = false) : checkF rs = 5 := by
  unfold checkF
  rw [if_neg (by omega), if_pos (chkL hl), if_neg]
  rw [List.all_eq_true]
  intro k
  have := k _ (rat_mem hi)
  rw [hf] at this; cases this
theorem chk0 {rs : List (List F)} (h : ¬ (rs.length < 1 ∨ 128 < rs.length)) (hl : ∀ k, k < rs.length → (rat' rs k).length = rs.length) (hf : ∀ k, k < rs.length → (rat' rs k).all ffin = true) : checkF rs = 0 := by
  unfold checkF
  rw [if_neg (by omega), if_pos (chkL hl), if_pos]
  rw [List.all_eq_true]
  intro r hr
  obtain ⟨i, hi, rfl⟩ := mem_rat hr
  exact hf i hi

def chkI1 (rs : List (List F)) (a : Option Addr) (c : Nat) (m : Mem) (j : Nat) (fr : Fr) (m' : Mem) : Prop := ∃ i, i + j = rs.length ∧ fr.n = 44 ∧ fr.d = [] ∧ fr.at 0 = .slice a rs.length c ∧ fr.at 3 = .int .i64 (i : Nat) ∧ (∀ k, k < i → (rat' rs k).length = rs.length) ∧ Only m m'
def chkI2 (rs : List (List F)) (a : Option Addr) (c : Nat) (m : Mem) (j : Nat) (fr : Fr) (m' : Mem) : Prop := ∃ i, i + j = rs.length ∧ fr.n = 44 ∧ fr.d = [] ∧ fr.at 0 = .slice a rs.length c ∧ fr.at 4 = .int .i64 (i : Nat) ∧ (∀ k, k < i → (rat' rs k).all ffin = true) ∧ Only m m'
end Go.Proofs.Ytghhanifakllpaa

/- The document's answer for chapter 14, in the clean executor: the rows' copy. -/
namespace Go.Proofs.Ytghhanifakllpaa
open Go.Clean

variable {known : Known}
def hdr (n : Nat) (ρ : Nat → Nat) (i : Nat) : Value := .slice (some ⟨ρ i, 0, none⟩) n n
structure RowsAt (m m' : Mem) (rs : List (List F)) (n i : Nat) (ρ : Nat → Nat) : Prop where
  next : m.next ≤ m'.next
  old : ∀ c, c < m.next → m'.at c = m.at c
  row : ∀ k, k < i → m.next ≤ ρ k ∧ ρ k < m'.next ∧ m'.at (ρ k) = some ⟨(rat' rs k).map fv, 1, true, false⟩
  inj : ∀ k j, k < j → j < i → ρ k < ρ j
  wf : WF m'
def rowsI (rs : List (List F)) (v : Value) (m : Mem) (j : Nat) (fr : Fr) (m' : Mem) : Prop := ∃ i ρ, i + j = rs.length ∧ fr.n = 23 ∧ fr.d = [] ∧ fr.at 0 = v ∧ fr.at 4 = .int .i64 (i : Nat) ∧ RowsAt m m' rs rs.length i ρ ∧
  ((i = 0 ∧ fr.at 3 = .slice none 0 0) ∨ ∃ b, fr.at 3 = .slice (some ⟨b, 0, none⟩) i i ∧ m.next ≤ b ∧ b < m'.next ∧ m'.at b = some ⟨(List.range i).map (hdr rs.length ρ), 1, true, false⟩ ∧ (∀ k, k < i → ρ k < b) ∧ 0 < i)
end Go.Proofs.Ytghhanifakllpaa

/- The document's system in the clean memory: a record of five lists, rows apart. No program. -/
namespace Go.Proofs.Ytghhanifakllpaa
open Go.Clean

def nilV : Value := .slice none 0 0
def lst (b n : Nat) : Value := .slice (some ⟨b, 0, none⟩) n n
def rec5 (v : Nat → Value) (ok : Bool) : Blk := ⟨[v 1, v 2, v 3, v 4, v 5, .bool ok], 1, false, false⟩
structure Lay (m : Mem) (kd : Nat → Nat) (base s5 : Nat) (v : Nat → Value) (l : Nat → List Value) (ok : Bool) (n : Nat) (ρ : Nat → Nat) (rw : Nat → List Value) : Prop where
  wf : WF m
  cell : m.at s5 = some (rec5 v ok)
  own : kd s5 = 0 ∧ base ≤ s5
  gl : ∀ k, 1 ≤ k → k ≤ 5 → (l k).all oneV = true ∧ ((l k = [] ∧ v k = nilV) ∨ (l k ≠ [] ∧ ∃ b, v k = lst b (l k).length ∧ kd b = k ∧ base ≤ b ∧ m.at b = some ⟨l k, 1, true, false⟩))
  row : ∀ i, i < n → 6 ≤ kd (ρ i) ∧ base ≤ ρ i ∧ m.at (ρ i) = some ⟨rw i, 1, true, false⟩
  inj : ∀ i j, i < n → j < n → ρ i = ρ j → i = j

section
variable {m m' : Mem} {kd : Nat → Nat} {base s5 : Nat} {v : Nat → Value} {l : Nat → List Value} {ok : Bool} {n : Nat} {ρ : Nat → Nat} {rw : Nat → List Value}
theorem Lay.same (h : Lay m kd base s5 v l ok n ρ rw) (hn : m.next ≤ m'.next) (e : ∀ c, m'.at c = m.at c) : Lay m' kd base s5 v l ok n ρ rw :=
  ⟨fun b x hb => Nat.lt_of_lt_of_le (h.wf b x (by rw [← e]; exact hb)) hn, by rw [e]; exact h.cell, h.own, fun k h1 h5 => by
    obtain ⟨h0, hg⟩ := h.gl k h1 h5
    refine ⟨h0, ?_⟩
    rcases hg with hg | ⟨hg1, b, hg2, hg3, hg4, hg5⟩
    · exact .inl hg
    · exact .inr ⟨hg1, b, hg2, hg3, hg4, by rw [e]; exact hg5⟩, fun i hi => by
    obtain ⟨h1, h2, h3⟩ := h.row i hi
    exact ⟨h1, h2, by rw [e]; exact h3⟩, h.inj⟩

/-- One list's block, of a list that is not empty. -/
theorem Lay.blk (h : Lay m kd base s5 v l ok n ρ rw) {k : Nat} (h1 : 1 ≤ k) (h5 : k ≤ 5) (hne : 0 < (l k).length) : ∃ b, v k = lst b (l k).length ∧ kd b = k ∧ base ≤ b ∧ m.at b = some ⟨l k, 1, true, false⟩ := by
  obtain ⟨_, hg⟩ := h.gl k h1 h5
  rcases hg with ⟨hg, _⟩ | ⟨_, hg⟩
  · rw [hg] at hne; simp at hne
  · exact hg

/-- An element of a list is turned. -/
theorem Lay.setL (h : Lay m kd base s5 v l ok n ρ rw) {k : Nat} (h1 : 1 ≤ k) (h5 : k ≤ 5) {b : Nat} (hv : v k = lst b (l k).length) (hne : 0 < (l k).length) {x : Value} (hx : oneV x = true) (j : Nat) (hn : m'.next = m.next) (e : ∀ c, m'.at c = if c = b then some ⟨(l k).set j x, 1, true, false⟩ else m.at c) :
    Lay m' kd base s5 v (fun q => if q = k then (l k).set j x else l q) ok n ρ rw := by
  obtain ⟨b', hv', hb1, hb2, hb3⟩ := h.blk h1 h5 hne
  obtain rfl : b = b' := by rw [hv] at hv'; unfold lst at hv'; simpa using hv'
  have hlt := h.wf b _ hb3
  have ne : ∀ c, kd c ≠ k → m'.at c = m.at c := fun c hc => by rw [e, if_neg (fun hh => hc (by rw [hh]; exact hb1))]
  refine ⟨fun c y hc => ?_, by rw [ne s5 (by have := h.own.1; omega)]; exact h.cell, h.own, fun q q1 q5 => ?_, fun i hi => ?_, h.inj⟩
  · rw [hn]
    rw [e] at hc
    split at hc
    · subst_vars; exact hlt
    · exact h.wf c y hc
  · by_cases hq : q = k
    · subst hq
      simp only [if_true]
      refine ⟨?_, .inr ⟨?_, b, by rw [List.length_set]; exact hv, hb1, hb2, by rw [e, if_pos rfl]⟩⟩
      · rw [List.all_eq_true]
        intro y hy
        rcases List.mem_or_eq_of_mem_set hy with hy | hy
        · exact List.all_eq_true.1 (h.gl q h1 h5).1 y hy
        · rw [hy]; exact hx
      · intro h0
        have := congrArg List.length h0
        rw [List.length_set] at this
        simp at this
        rw [this] at hne; simp at hne
    · simp only [if_neg hq]
      obtain ⟨h0, hg⟩ := h.gl q q1 q5
      refine ⟨h0, ?_⟩
      rcases hg with hg | ⟨hg1, b2, hg2, hg3, hg4, hg5⟩
      · exact .inl hg
      · exact .inr ⟨hg1, b2, hg2, hg3, hg4, by rw [ne b2 (by omega)]; exact hg5⟩
  · obtain ⟨r1, r2, r3⟩ := h.row i hi
    exact ⟨r1, r2, by rw [ne _ (by omega)]; exact r3⟩

/-- An element of a row is turned. -/
theorem Lay.setRow (h : Lay m kd base s5 v l ok n ρ rw) {i : Nat} (hi : i < n) (x : Value) (j : Nat) (hn : m'.next = m.next) (e : ∀ c, m'.at c = if c = ρ i then some ⟨(rw i).set j x, 1, true, false⟩ else m.at c) :
    Lay m' kd base s5 v l ok n ρ (fun q => if q = i then (rw i).set j x else rw q) := by
  obtain ⟨r1, r2, r3⟩ := h.row i hi
  have hlt := h.wf _ _ r3
  have ne : ∀ c, kd c < 6 → m'.at c = m.at c := fun c hc => by rw [e, if_neg (fun hh => by rw [hh] at hc; omega)]
  refine ⟨fun c y hc => ?_, by rw [ne s5 (by have := h.own.1; omega)]; exact h.cell, h.own, fun q q1 q5 => ?_, fun q hq => ?_, h.inj⟩
  · rw [hn]
    rw [e] at hc
    split at hc
    · subst_vars; exact hlt
    · exact h.wf c y hc
  · obtain ⟨h0, hg⟩ := h.gl q q1 q5
    refine ⟨h0, ?_⟩
    rcases hg with hg | ⟨hg1, b2, hg2, hg3, hg4, hg5⟩
    · exact .inl hg
    · exact .inr ⟨hg1, b2, hg2, hg3, hg4, by rw [ne b2 (by omega)]; exact hg5⟩
  · obtain ⟨s1, s2, s3⟩ := h.row q hq
    refine ⟨s1, s2, ?_⟩
    by_cases hqi : q = i
    · subst hqi; simp only [if_true]; rw [e, if_pos rfl]
    · simp only [if_neg hqi]
      rw [e, if_neg (fun hh => hqi (h.inj q i hq hi hh))]
      exact s3

/-- The rows in another order. -/
theorem Lay.swap (h : Lay m kd base s5 v l ok n ρ rw) {c p : Nat} (hc : c < n) (hp : p < n) : Lay m kd base s5 v l ok n (fun i => ρ (sw c p i)) (fun i => rw (sw c p i)) :=
  ⟨h.wf, h.cell, h.own, h.gl, fun i hi => h.row _ (sw_lt hc hp hi), fun i j hi hj e => sw_inj (h.inj _ _ (sw_lt hc hp hi) (sw_lt hc hp hj) e)⟩

/-- One more element behind a list: what append comes to, and the record behind the store. -/
theorem Lay.append (h : Lay m kd base s5 v l ok n ρ rw) (hb0 : base ≤ m.next) {k : Nat} (h1 : 1 ≤ k) (h5 : k ≤ 5) {P : Program} {t : TypeId} (happ : appOK P t t 1 = true) {m1 : Mem} {x : Value} (hx : oneV x = true) (hl : (l k).length < 100000)
    (e0 : m1.next = m.next + 1) (e1 : m1.at m.next = some ⟨[x], 1, false, false⟩) (e2 : ∀ c, c ≠ m.next → m1.at c = m.at c) {Q : Value → Mem → Prop}
    (q : ∀ m2, m2.next = m.next + 2 → m2.at s5 = some (rec5 v ok) → (∀ c, c < base → m2.at c = m.at c) →
      (∀ m' w, m'.next = m2.next → w = (fun j => if j = k then lst (m.next + 1) ((l k).length + 1) else v j) → (∀ c, m'.at c = if c = s5 then some (rec5 w ok) else m2.at c) → Lay m' (fun c => if c = m.next + 1 then k else kd c) base s5 w (fun j => if j = k then l k ++ [x] else l j) ok n ρ rw) →
      Q (lst (m.next + 1) ((l k).length + 1)) m2) : Gives (appendX P t t (v k) (.slice (some ⟨m.next, 0, none⟩) 1 1)) m1 Q := by
  have hs5 := h.wf _ _ h.cell
  obtain ⟨h0, hg⟩ := h.gl k h1 h5
  obtain ⟨b, hb⟩ : ∃ b, ((l k = [] ∧ v k = nilV ∧ b = m.next + 1)) ∨ (l k ≠ [] ∧ v k = lst b (l k).length ∧ kd b = k ∧ base ≤ b ∧ m.at b = some ⟨l k, 1, true, false⟩ ∧ b < m.next) := by
    rcases hg with ⟨g1, g2⟩ | ⟨g1, b, g2, g3, g4, g5⟩
    · exact ⟨_, .inl ⟨g1, g2, rfl⟩⟩
    · exact ⟨b, .inr ⟨g1, g2, g3, g4, g5, h.wf _ _ g5⟩⟩
  refine gives_push (b := b) happ e1 (l := l k) ?_ h0 hx (by omega) fun m2 n2 a2 o2 => ?_
  · rcases hb with ⟨g1, g2, _⟩ | ⟨g1, g2, g3, g4, g5, g6⟩
    · exact .inl ⟨g1, g2⟩
    · exact .inr ⟨g1, g2, by rw [e2 b (by omega)]; exact g5, by omega⟩
  rw [e0] at n2 a2 o2 ⊢
  have nb : ∀ c, c < m.next → kd c ≠ k → c ≠ b := fun c hc hk hh => by
    subst hh
    rcases hb with ⟨_, _, g⟩ | ⟨_, _, g, _⟩
    · omega
    · exact hk g
  have old : ∀ c, c < m.next → kd c ≠ k → m2.at c = m.at c := fun c hc hk => by rw [o2 c (nb c hc hk) (by omega), e2 c (by omega)]
  refine q m2 n2 (by rw [old s5 hs5 (by have := h.own.1; omega)]; exact h.cell) (fun c hc => ?_) fun m' w hn' hw he => ?_
  · have hcb : c ≠ b := by
      rcases hb with ⟨_, _, g⟩ | ⟨_, _, _, g, _⟩ <;> omega
    rw [o2 c hcb (by omega), e2 c (by omega)]
  · have old' : ∀ c, c < m.next → kd c ≠ k → c ≠ s5 → m'.at c = m.at c := fun c h1 h2 h3 => by rw [he, if_neg h3, old c h1 h2]
    have knew : ∀ c, c < m.next → (if c = m.next + 1 then k else kd c) = kd c := fun c hc => by rw [if_neg (by omega)]
    refine ⟨fun c y hc => ?_, by rw [he, if_pos rfl], ⟨by rw [knew _ hs5]; exact h.own.1, h.own.2⟩, fun q q1 q5 => ?_, fun i hi => ?_, h.inj⟩
    · rw [hn', n2]
      rw [he] at hc
      split at hc
      · omega
      · by_cases hcb : c = b
        · rcases hb with ⟨_, _, g⟩ | ⟨_, _, _, _, _, g⟩
          · omega
          · omega
        · by_cases hcn : c = m.next + 1
          · omega
          · rw [o2 c hcb hcn] at hc
            by_cases hcm : c = m.next
            · omega
            · rw [e2 c hcm] at hc
              have := h.wf c y hc
              omega
    · by_cases hq : q = k
      · subst hq
        simp only [if_true]
        refine ⟨by rw [List.all_append, h0]; simp [hx], .inr ⟨by simp, m.next + 1, by rw [hw]; simp, by simp, by omega, by rw [he, if_neg (by omega), a2]⟩⟩
      · simp only [if_neg hq]
        obtain ⟨g0, hg'⟩ := h.gl q q1 q5
        refine ⟨g0, ?_⟩
        rcases hg' with ⟨g1, g2⟩ | ⟨hg1, b2, hg2, hg3, hg4, hg5⟩
        · exact .inl ⟨g1, by rw [hw]; simp only [if_neg hq]; exact g2⟩
        · have hb2 := h.wf _ _ hg5
          have hb2s : b2 ≠ s5 := fun hh => by have := h.own.1; rw [hh] at hg3; omega
          exact .inr ⟨hg1, b2, by rw [hw]; simp only [if_neg hq]; exact hg2, by rw [knew _ hb2]; exact hg3, hg4, by rw [old' b2 hb2 (by omega) hb2s]; exact hg5⟩
    · obtain ⟨s1, s2, s3⟩ := h.row i hi
      have hlt := h.wf _ _ s3
      have hs : ρ i ≠ s5 := fun hh => by have := h.own.1; rw [hh] at s1; omega
      exact ⟨by rw [knew _ hlt]; exact s1, s2, by rw [old' _ hlt (by omega) hs]; exact s3⟩
end
end Go.Proofs.Ytghhanifakllpaa

/- The document's steps, in the clean executor: the start, and the lists beside the rows. -/
namespace Go.Proofs.Ytghhanifakllpaa
open Go.Clean

variable {known : Known}
@[simp] theorem fa88_0 (s : Nat) : fieldAddrX Try.prog 88 (.pointer (some ⟨s, 0, none⟩)) 0 = some (.pointer (some ⟨s, 0, none⟩)) := by kernel_rfl
@[simp] theorem fa88_1 (s : Nat) : fieldAddrX Try.prog 88 (.pointer (some ⟨s, 0, none⟩)) 1 = some (.pointer (some ⟨s, 1, none⟩)) := by kernel_rfl
@[simp] theorem fa88_2 (s : Nat) : fieldAddrX Try.prog 88 (.pointer (some ⟨s, 0, none⟩)) 2 = some (.pointer (some ⟨s, 2, none⟩)) := by kernel_rfl
@[simp] theorem fa88_3 (s : Nat) : fieldAddrX Try.prog 88 (.pointer (some ⟨s, 0, none⟩)) 3 = some (.pointer (some ⟨s, 3, none⟩)) := by kernel_rfl
@[simp] theorem fa88_4 (s : Nat) : fieldAddrX Try.prog 88 (.pointer (some ⟨s, 0, none⟩)) 4 = some (.pointer (some ⟨s, 4, none⟩)) := by kernel_rfl
@[simp] theorem fa88_5 (s : Nat) : fieldAddrX Try.prog 88 (.pointer (some ⟨s, 0, none⟩)) 5 = some (.pointer (some ⟨s, 5, none⟩)) := by kernel_rfl
@[simp] theorem agg88 : Clean.isAgg Try.prog 88 = some true := by kernel_rfl
@[simp] theorem size88 : sizeT Try.prog 88 = some 6 := by kernel_rfl
@[simp] theorem elem88 : elemT Try.prog 88 = 1 := by kernel_rfl
@[simp] theorem zero88 : zeroT Try.prog 88 = some (.agg ⟨[nilV, nilV, nilV, nilV, nilV, .bool false]⟩) := by kernel_rfl
@[simp] theorem sto88 (v : Value) : storeOK Try.prog 88 v = (6 == (cellsV v).length && (cellsV v).all oneV) := by unfold storeOK; rw [size88]; rfl
@[simp] theorem cells_agg (l : List Value) : cellsV (.agg ⟨l⟩) = l := rfl

def L1I (m : Mem) (vin bin : Value) (rs : List (List F)) (M : Mx) (r4 base : Nat) (j : Nat) (fr : Fr) (m' : Mem) : Prop :=
  ∃ i kd s5 v l ρ rw, i + j = rs.length ∧ fr.n = 244 ∧ fr.d = [] ∧ fr.at 0 = vin ∧ fr.at 1 = bin ∧ fr.at 4 = .pointer (some ⟨r4, 0, none⟩) ∧ fr.at 5 = .pointer (some ⟨s5, 0, none⟩) ∧ fr.at 6 = .int .i64 rs.length ∧ fr.at 7 = .int .i64 (i : Nat) ∧
  base ≤ m'.next ∧ (∀ c, c < m.next → m'.at c = m.at c) ∧ (∃ y, m'.at r4 = some ⟨y, 1, false, false⟩ ∧ y.length = 6) ∧ Lay m' kd base s5 v l true rs.length ρ rw ∧ l 1 = (List.range rs.length).map (hdr rs.length ρ) ∧ (∀ i, i < rs.length → rw i = (rat' rs i).map fv) ∧
  l 2 = (List.range i).map (fun i => fv (M i rs.length)) ∧ l 3 = (List.range i).map (fun (i : Nat) => .int .i64 i) ∧ l 4 = [] ∧ l 5 = []

end Go.Proofs.Ytghhanifakllpaa

/- The document's steps, in the clean executor: one row, by the column's pivot. -/
namespace Go.Proofs.Ytghhanifakllpaa
open Go.Clean

def sL : Code → Code
  | .seq a _ => a
  | c => c
def sR : Code → Code
  | .seq _ b => b
  | c => c
def inB : Code → Code
  | .block _ c => c
  | .loop c => c
  | c => c
def bodyOf (fn : Func) : Code := fn.body.getD .skip
theorem via {P : Program} {call : Caller} {L X : Code} (h : L = X) {fr : Fr} {m : Mem} {Q : CQ} (g : Gives (codeX P call X fr) m Q) : Gives (codeX P call L fr) m Q := h ▸ g

/-- What the record and its lists hold. -/
structure Cont (l : Nat → List Value) (ρ : Nat → Nat) (rw : Nat → List Value) (N : Nat) (S : Sys) : Prop where
  hd : (l 1).length = N ∧ ∀ i, i < N → (l 1)[i]? = some (.slice (some ⟨ρ i, 0, none⟩) N N)
  row : ∀ i, i < N → (rw i).length = N ∧ ∀ j, j < N → (rw i)[j]? = some (.float .f64 (cOf (S.M i j)))
  rhs : (l 2).length = N ∧ ∀ i, i < N → (l 2)[i]? = some (.float .f64 (cOf (S.M i N)))
  ord : (l 3).length = N ∧ ∀ i, i < N → (l 3)[i]? = some (.int .i64 (S.first i : Nat))
  piv : l 4 = S.piv.map fv
  odd : l 5 = S.odd.map .bool
def SysAt (m : Mem) (base s5 : Nat) (ok : Bool) (N : Nat) (S : Sys) : Prop := ∃ kd v l ρ rw, Lay m kd base s5 v l ok N ρ rw ∧ Cont l ρ rw N S
def Old (b : Nat) (m m' : Mem) : Prop := ∀ c, c < b → m'.at c = m.at c
theorem Old.refl (b : Nat) (m : Mem) : Old b m m := fun _ _ => rfl
theorem Old.trans {b : Nat} {m m1 m2 : Mem} (h : Old b m m1) (k : Old b m1 m2) : Old b m m2 := fun c hc => (k c hc).trans (h c hc)
structure FB (fr : Fr) (r4 s5 N k : Nat) : Prop where
  n : fr.n = 244
  d : fr.d = []
  a4 : fr.at 4 = .pointer (some ⟨r4, 0, none⟩)
  a5 : fr.at 5 = .pointer (some ⟨s5, 0, none⟩)
  a6 : fr.at 6 = .int .i64 N
  a8 : fr.at 8 = .int .i64 (k : Nat)

section
variable {m m' : Mem} {base s5 N : Nat} {ok : Bool} {S : Sys}
theorem Cont.setRow {l : Nat → List Value} {ρ : Nat → Nat} {rw : Nat → List Value} (h : Cont l ρ rw N S) {i j : Nat} (hi : i < N) (hj : j < N) (x : F) {M' : Mx} (hM : ∀ a b, a < N → b ≤ N → M' a b = if a = i ∧ b = j then x else S.M a b) :
    Cont l ρ (fun q => if q = i then (rw i).set j (.float .f64 (cOf x)) else rw q) N { S with M := M' } := by
  refine ⟨h.hd, fun a ha => ?_, ⟨h.rhs.1, fun a ha => ?_⟩, h.ord, h.piv, h.odd⟩
  · by_cases hai : a = i
    · subst hai
      simp only [if_true, List.length_set]
      refine ⟨(h.row a ha).1, fun b hb => ?_⟩
      rw [List.getElem?_set]
      show _ = some (Value.float .f64 (cOf (M' a b)))
      rw [hM a b ha (by omega)]
      by_cases hbj : j = b
      · subst hbj
        rw [if_pos rfl, if_pos (by rw [(h.row a ha).1]; exact hb), if_pos ⟨rfl, rfl⟩]
      · rw [if_neg hbj, if_neg (by omega)]
        exact (h.row a ha).2 b hb
    · simp only [if_neg hai]
      refine ⟨(h.row a ha).1, fun b hb => ?_⟩
      show _ = some (Value.float .f64 (cOf (M' a b)))
      rw [hM a b ha (by omega), if_neg (by omega)]
      exact (h.row a ha).2 b hb
  · show _ = some (Value.float .f64 (cOf (M' a N)))
    rw [hM a N ha (by omega), if_neg (by omega)]
    exact h.rhs.2 a ha
end

/-! ### One row -/
def pMain (c : Code) : Code := inB (sR (sL (sR (sR (sR (sR c))))))
def pY (c : Code) : Code := inB (sL (sR (inB (pMain c))))
def pPiv (c : Code) : Code := inB (sR (sL (sR (pY c))))
def pElim (c : Code) : Code := inB (sR (sR (sR (sR (sR (sR (sR (sR (sR (sR (sR (pY c))))))))))))
def pRow (c : Code) : Code := inB (sR (sL (sR (inB (sL (sR (inB (pElim c))))))))

def rowI (m : Mem) (base r4 s5 N k i : Nat) (f : F) (S : Sys) (q : Nat) (fr : Fr) (m' : Mem) : Prop :=
  ∃ j, j + q = N ∧ k < j ∧ FB fr r4 s5 N k ∧ fr.at 13 = .int .i64 (i : Nat) ∧ fr.at 14 = .float .f64 (cOf f) ∧ fr.at 15 = .int .i64 (j : Nat) ∧ Old base m m' ∧ SysAt m' base s5 true N { S with M := part N S.M k i j }
end Go.Proofs.Ytghhanifakllpaa

/- The document's steps, in the clean executor: all rows below the pivot's; the pivot's row. -/
namespace Go.Proofs.Ytghhanifakllpaa
open Go.Clean

def elimI (m : Mem) (base r4 s5 N k : Nat) (S : Sys) (q : Nat) (fr : Fr) (m' : Mem) : Prop :=
  ∃ i, i + q = N ∧ k < i ∧ FB fr r4 s5 N k ∧ fr.at 13 = .int .i64 (i : Nat) ∧ Old base m m' ∧ SysAt m' base s5 true N { S with M := part N S.M k i (k + 1) }
/-! ### The pivot's row -/
def pivI (m : Mem) (base r4 s5 N k : Nat) (S : Sys) (q : Nat) (fr : Fr) (m' : Mem) : Prop :=
  ∃ i, i + q = N ∧ k < i ∧ FB fr r4 s5 N k ∧ fr.at 10 = .int .i64 (i : Nat) ∧ fr.at 9 = .int .i64 (pickI S.M k i : Nat) ∧ Only m m'
end Go.Proofs.Ytghhanifakllpaa

/- The document's steps, in the clean executor: the main loop. -/
namespace Go.Proofs.Ytghhanifakllpaa
open Go.Clean

section
variable {m m' : Mem} {kd : Nat → Nat} {base s5 : Nat} {v : Nat → Value} {l : Nat → List Value} {ok : Bool} {n : Nat} {ρ : Nat → Nat} {rw : Nat → List Value}
/-- A list is turned. -/
theorem Lay.putL (h : Lay m kd base s5 v l ok n ρ rw) {k : Nat} (h1 : 1 ≤ k) (h5 : k ≤ 5) {b : Nat} (hv : v k = lst b (l k).length) (hne : 0 < (l k).length) {L : List Value} (hx : L.all oneV = true) (hL : L.length = (l k).length) (hn : m'.next = m.next) (e : ∀ c, m'.at c = if c = b then some ⟨L, 1, true, false⟩ else m.at c) :
    Lay m' kd base s5 v (fun q => if q = k then L else l q) ok n ρ rw := by
  obtain ⟨b', hv', hb1, hb2, hb3⟩ := h.blk h1 h5 hne
  obtain rfl : b = b' := by rw [hv] at hv'; unfold lst at hv'; simpa using hv'
  have hlt := h.wf b _ hb3
  have ne : ∀ c, kd c ≠ k → m'.at c = m.at c := fun c hc => by rw [e, if_neg (fun hh => hc (by rw [hh]; exact hb1))]
  refine ⟨fun c y hc => ?_, by rw [ne s5 (by have := h.own.1; omega)]; exact h.cell, h.own, fun q q1 q5 => ?_, fun i hi => ?_, h.inj⟩
  · rw [hn]
    rw [e] at hc
    split at hc
    · subst_vars; exact hlt
    · exact h.wf c y hc
  · by_cases hq : q = k
    · subst hq
      simp only [if_true]
      refine ⟨hx, .inr ⟨?_, b, by rw [hL]; exact hv, hb1, hb2, by rw [e, if_pos rfl]⟩⟩
      intro h0
      have := congrArg List.length h0
      rw [hL] at this
      simp at this
      rw [this] at hne; simp at hne
    · simp only [if_neg hq]
      obtain ⟨h0, hg⟩ := h.gl q q1 q5
      refine ⟨h0, ?_⟩
      rcases hg with hg | ⟨hg1, b2, hg2, hg3, hg4, hg5⟩
      · exact .inl hg
      · exact .inr ⟨hg1, b2, hg2, hg3, hg4, by rw [ne b2 (by omega)]; exact hg5⟩
  · obtain ⟨r1, r2, r3⟩ := h.row i hi
    exact ⟨r1, r2, by rw [ne _ (by omega)]; exact r3⟩
end
theorem set2_one {L : List Value} (h : L.all oneV = true) {x y : Value} (hx : oneV x = true) (hy : oneV y = true) (i j : Nat) : ((L.set i x).set j y).all oneV = true := by
  rw [List.all_eq_true]
  intro u hu
  rcases List.mem_or_eq_of_mem_set hu with hu | hu
  · rcases List.mem_or_eq_of_mem_set hu with hu | hu
    · exact List.all_eq_true.1 h u hu
    · rw [hu]; exact hx
  · rw [hu]; exact hy
/-- Two places of a list change. -/
theorem swap_get {N : Nat} {L : List Value} {g : Nat → Value} (hl : L.length = N) (h : ∀ i, i < N → L[i]? = some (g i)) {k p : Nat} (hk : k < N) (hp : p < N) {i : Nat} (hi : i < N) : ((L.set k (g p)).set p (g k))[i]? = some (g (sw k p i)) := by
  rw [List.getElem?_set, List.getElem?_set]
  unfold sw
  by_cases h1 : p = i
  · subst h1
    rw [if_pos rfl, if_pos (by rw [List.length_set, hl]; exact hp)]
    by_cases h2 : p = k
    · subst h2; simp
    · rw [if_neg h2, if_pos rfl]
  · rw [if_neg h1]
    by_cases h2 : k = i
    · subst h2
      rw [if_pos rfl, if_pos (by rw [hl]; exact hk), if_pos rfl]
    · rw [if_neg h2, if_neg (fun hh => h2 hh.symm), if_neg (fun hh => h1 hh.symm)]
      exact h i hi
theorem Cont.swapped {N : Nat} {S : Sys} {l : Nat → List Value} {ρ : Nat → Nat} {rw : Nat → List Value} (h : Cont l ρ rw N S) {k p : Nat} (hk : k < N) (hp : p < N) {l' : Nat → List Value}
    (e1 : l' 1 = ((l 1).set k (.slice (some ⟨ρ p, 0, none⟩) N N)).set p (.slice (some ⟨ρ k, 0, none⟩) N N)) (e2 : l' 2 = ((l 2).set k (.float .f64 (cOf (S.M p N)))).set p (.float .f64 (cOf (S.M k N)))) (e3 : l' 3 = ((l 3).set k (.int .i64 (S.first p : Nat))).set p (.int .i64 (S.first k : Nat))) (e4 : l' 4 = l 4) (e5 : l' 5 = l 5) :
    Cont l' (fun i => ρ (sw k p i)) (fun i => rw (sw k p i)) N { S with M := swapM S.M k p, first := swapM S.first k p } := by
  refine ⟨⟨by rw [e1]; simp [h.hd.1], fun i hi => ?_⟩, fun i hi => h.row _ (sw_lt hk hp hi), ⟨by rw [e2]; simp [h.rhs.1], fun i hi => ?_⟩, ⟨by rw [e3]; simp [h.ord.1], fun i hi => ?_⟩, by rw [e4]; exact h.piv, by rw [e5]; exact h.odd⟩
  · rw [e1]; exact swap_get (g := fun i => .slice (some ⟨ρ i, 0, none⟩) N N) h.hd.1 h.hd.2 hk hp hi
  · rw [e2]; exact swap_get (g := fun i => .float .f64 (cOf (S.M i N))) h.rhs.1 h.rhs.2 hk hp hi
  · rw [e3]; exact swap_get (g := fun i => .int .i64 (S.first i : Nat)) h.ord.1 h.ord.2 hk hp hi

theorem Lay.frame {m m' : Mem} {kd : Nat → Nat} {base s5 : Nat} {v : Nat → Value} {l : Nat → List Value} {ok : Bool} {n : Nat} {ρ : Nat → Nat} {rw : Nat → List Value} (h : Lay m kd base s5 v l ok n ρ rw) (hw : WF m') (e : ∀ c, base ≤ c → m'.at c = m.at c) : Lay m' kd base s5 v l ok n ρ rw :=
  ⟨hw, by rw [e _ h.own.2]; exact h.cell, h.own, fun k h1 h5 => by
    obtain ⟨h0, hg⟩ := h.gl k h1 h5
    refine ⟨h0, ?_⟩
    rcases hg with hg | ⟨hg1, b, hg2, hg3, hg4, hg5⟩
    · exact .inl hg
    · exact .inr ⟨hg1, b, hg2, hg3, hg4, by rw [e b hg4]; exact hg5⟩, fun i hi => by
    obtain ⟨h1, h2, h3⟩ := h.row i hi
    exact ⟨h1, h2, by rw [e _ h2]; exact h3⟩, h.inj⟩
theorem lay_all : ∀ (cs vs : List Value), cs.length = vs.length → lay cs 0 vs = some vs
  | [], [], _ => rfl
  | [], _ :: _, h => by simp at h
  | _ :: _, [], h => by simp at h
  | c :: cs, v :: vs, h => by rw [lay, lay_all cs vs (by simpa using h)]; rfl
@[simp] theorem bin_feq0 {P : Program} {t : TypeId} {xo yo : Operand} (x : F) : binX P .eql t xo yo (.float .f64 (cOf x)) (.float .f64 0) = some (.bool (feq x fzero)) := by
  have := bin_feq (P := P) (t := t) (xo := xo) (yo := yo) x fzero
  rwa [cOf_zero] at this

def mainI (m : Mem) (base r4 s5 N : Nat) (R : Sys × Bool) (q : Nat) (fr : Fr) (m' : Mem) : Prop :=
  ∃ k S, k + q = N ∧ FB fr r4 s5 N k ∧ Old base m m' ∧ SysAt m' base s5 true N S ∧ goS N q k S = R ∧ S.piv.length = k ∧ S.odd.length = k
end Go.Proofs.Ytghhanifakllpaa

/- The document's steps, in the clean executor: the whole. -/
namespace Go.Proofs.Ytghhanifakllpaa
open Go.Clean

variable {known : Known}
end Go.Proofs.Ytghhanifakllpaa
