/- Poles in the clean executor: types, rows of poles. -/
import Derived.Test.YtonmjdhdkkmjlaaRI
import Derived.Test.YtonmjdhdkkmjlaaBk
namespace Go.Proofs.Ytonmjdhdkkmjlaa
open Go.Clean

def poV (z r : C) : Value := .agg ⟨[cx z, cx r]⟩
section
@[simp] theorem agg_P : Clean.isAgg Try.prog 56 = some true := by kernel_rfl
@[simp] theorem size_P : sizeT Try.prog 56 = some 2 := by kernel_rfl
@[simp] theorem elt_P : elemT Try.prog 56 = 1 := by kernel_rfl
@[simp] theorem zero_P : zeroT Try.prog 56 = some (poV (some 0, some 0) (some 0, some 0)) := by
  have h : zeroT Try.prog 56 = some (.agg ⟨[.complex .f64 0 0, .complex .f64 0 0]⟩) := by kernel_rfl
  rw [h, cx_zero]; rfl
theorem ld_P (cs : List Value) (o : Nat) : ldX Try.prog 56 cs o = (takeN cs o 2).map fun l => .agg ⟨l⟩ := ld_agg agg_P size_P cs o
@[simp] theorem cells_poV (z r : C) : cellsV (poV z r) = [cx z, cx r] := by cases z <;> rfl
@[simp] theorem plain_poV (z r : C) : plainV (poV z r) = plainV (.agg ⟨[cx z, cx r]⟩) := by cases z <;> rfl
theorem under_Q : Try.prog.underlying 54 = some (.slice 56) := by kernel_rfl
@[simp] theorem len_Q (a : Option Addr) (n c : Nat) : lenX Try.prog 54 (.slice a n c) = some (.int .i64 n) := len_slice under_Q a n c
theorem idx_Q (b o n c k : Nat) (q : IntKind) (hk : k < n) : indexAddrX Try.prog 54 (.slice (some ⟨b, o, none⟩) n c) (.int q (k : Int)) = some (.pointer (some ⟨b, o + k * 2, none⟩)) := by
  unfold indexAddrX
  simp only [under_Q, size_P]
  have : decide (0 ≤ (k : Int) ∧ (k : Int) < (n : Int)) = true := by simp; omega
  rw [this]
  simp
theorem app_Q : appOK Try.prog 54 54 2 = true := by kernel_rfl
theorem fa_gen {P : Program} {s : TypeId} {f off : Nat} (h : (match P.underlying s with
    | some (.struct fs) => (match fs.toList[f]? with
      | some g => (match sizeT P g.type with
        | some (_ + 1) => some g.offset
        | _ => none)
      | none => none)
    | _ => none) = some off) (b o : Nat) : fieldAddrX P s (.pointer (some ⟨b, o, none⟩)) f = some (.pointer (some ⟨b, o + off, none⟩)) := by
  unfold fieldAddrX
  cases h1 : P.underlying s with
  | none => simp only [h1] at h; cases h
  | some d =>
    cases d with
    | struct fs =>
      simp only [h1] at h
      cases h2 : fs.toList[f]? with
      | none => simp only [h2] at h; cases h
      | some g =>
        simp only [h2] at h
        cases h3 : sizeT P g.type with
        | none => simp only [h3] at h; cases h
        | some n =>
          cases n with
          | zero => simp only [h3] at h; cases h
          | succ n =>
            simp only [h3, Option.some.injEq] at h
            simp only [h2, h3, h]
    | _ => simp only [h1] at h; cases h
@[simp] theorem fa_P0 (b o : Nat) : fieldAddrX Try.prog 56 (.pointer (some ⟨b, o, none⟩)) 0 = some (.pointer (some ⟨b, o, none⟩)) := (fa_gen (off := 0) (by kernel_rfl) b o).trans rfl
@[simp] theorem fa_P1 (b o : Nat) : fieldAddrX Try.prog 56 (.pointer (some ⟨b, o, none⟩)) 1 = some (.pointer (some ⟨b, o + 1, none⟩)) := fa_gen (by kernel_rfl) b o
theorem places_P : (match Try.prog.underlying 56 with | some (.struct fs) => placesX Try.prog fs.toList | _ => none) = some [(0, 1), (1, 1)] := by kernel_rfl
@[simp] theorem build_P (z r : C) : buildX Try.prog 56 [(0, cx z), (1, cx r)] = some (poV z r) := by
  have h := places_P
  unfold buildX
  simp only [zero_P]
  split at h
  · rename_i fs e
    simp only [e, h]
    simp only [cells_poV]
    simp [fillX, layK, Nat.blt, Nat.ble, poV]
  · cases h
theorem sto_P (v : Value) : storeOK Try.prog 56 v = (2 == (cellsV v).length && (cellsV v).all oneV) := by unfold storeOK; rw [size_P]; rfl
end
theorem lay_two (cs : List Value) (o : Nat) (v w : Value) (h : o + 1 < cs.length) : lay cs o [v, w] = some ((cs.set o v).set (o + 1) w) := by
  induction cs generalizing o with
  | nil => simp at h
  | cons c cs ih =>
    cases o with
    | zero =>
      cases cs with
      | nil => simp at h
      | cons d cs => simp [lay]
    | succ o =>
      rw [lay, ih _ (by simpa using h)]
      simp
/-- These cells are these poles. -/
def PC (cells : List Value) (n : Nat) (zs rs : Nat → C) : Prop := cells.length = n * 2 ∧ ∀ i, i < n → cells[i * 2]? = some (cx (zs i)) ∧ cells[i * 2 + 1]? = some (cx (rs i))
theorem PC.take {cells : List Value} {n : Nat} {zs rs : Nat → C} (h : PC cells n zs rs) {i : Nat} (hi : i < n) : takeN cells (i * 2) 2 = some [cx (zs i), cx (rs i)] := by
  obtain ⟨h1, h2⟩ := h.2 i hi
  refine takeN_get _ _ _ _ rfl (fun j hj => ?_) (.inr (by rw [h.1]; omega))
  have : j = 0 ∨ j = 1 := by omega
  rcases this with rfl | rfl
  · exact h1
  · exact h2
theorem PC.ld {cells : List Value} {n : Nat} {zs rs : Nat → C} (h : PC cells n zs rs) {i : Nat} (hi : i < n) : ldX Try.prog 56 cells (i * 2) = some (poV (zs i) (rs i)) := by
  rw [ld_P, h.take hi]; rfl
theorem PC.one {cells : List Value} {n : Nat} {zs rs : Nat → C} (h : PC cells n zs rs) : cells.all oneV = true := by
  rw [List.all_eq_true]
  intro v hv
  obtain ⟨i, hi, hv⟩ := List.mem_iff_getElem.1 hv
  rw [h.1] at hi
  obtain ⟨h1, h2⟩ := h.2 (i / 2) (by omega)
  have hi' : i < cells.length := by rw [h.1]; exact hi
  have hc : i = i / 2 * 2 ∨ i = i / 2 * 2 + 1 := by omega
  have hget : cells[i]? = some v := by rw [List.getElem?_eq_getElem hi', hv]
  rcases hc with hc | hc
  · rw [← hc, hget] at h1
    cases h1; exact one_cx _
  · rw [← hc, hget] at h2
    cases h2; exact one_cx _
theorem PC.push {cells : List Value} {n : Nat} {zs rs : Nat → C} (h : PC cells n zs rs) : PC (cells ++ [cx (zs n), cx (rs n)]) (n + 1) zs rs := by
  refine ⟨by simp [h.1]; omega, fun i hi => ?_⟩
  by_cases hin : i = n
  · subst hin
    rw [List.getElem?_append_right (by rw [h.1]; omega), List.getElem?_append_right (by rw [h.1]; omega), h.1]
    exact ⟨by rw [Nat.sub_self]; rfl, by rw [show i * 2 + 1 - i * 2 = 1 by omega]; rfl⟩
  · obtain ⟨h1, h2⟩ := h.2 i (by omega)
    rw [List.getElem?_append_left (by rw [h.1]; omega), List.getElem?_append_left (by rw [h.1]; omega)]
    exact ⟨h1, h2⟩
theorem PC.nil (zs rs : Nat → C) : PC [] 0 zs rs := ⟨rfl, fun i hi => by omega⟩
theorem PC.set {cells : List Value} {n : Nat} {zs rs zs' rs' : Nat → C} (h : PC cells n zs rs) {i : Nat} (hi : i < n) (e : ∀ k, k ≠ i → zs' k = zs k ∧ rs' k = rs k) : PC ((cells.set (i * 2) (cx (zs' i))).set (i * 2 + 1) (cx (rs' i))) n zs' rs' := by
  refine ⟨by simp [h.1], fun k hk => ?_⟩
  simp only [List.getElem?_set, List.length_set, h.1]
  by_cases hki : k = i
  · subst hki
    refine ⟨?_, ?_⟩
    · rw [if_neg (by omega), if_pos rfl, if_pos (by omega)]
    · rw [if_pos rfl, if_pos (by omega)]
  · obtain ⟨h1, h2⟩ := h.2 k hk
    obtain ⟨e1, e2⟩ := e k hki
    rw [e1, e2]
    refine ⟨?_, ?_⟩
    · rw [if_neg (by omega), if_neg (by omega)]; exact h1
    · rw [if_neg (by omega), if_neg (by omega)]; exact h2
theorem repeat_two (a b : Value) : ∀ n, (repeatL [a, b] n).length = n * 2 ∧ ∀ i, i < n → (repeatL [a, b] n)[i * 2]? = some a ∧ (repeatL [a, b] n)[i * 2 + 1]? = some b
  | 0 => ⟨rfl, fun i hi => by omega⟩
  | n + 1 => by
    obtain ⟨h1, h2⟩ := repeat_two a b n
    refine ⟨by show ([a, b] ++ repeatL [a, b] n).length = _; simp [h1]; omega, fun i hi => ?_⟩
    show ([a, b] ++ repeatL [a, b] n)[i * 2]? = _ ∧ ([a, b] ++ repeatL [a, b] n)[i * 2 + 1]? = _
    cases i with
    | zero => exact ⟨rfl, rfl⟩
    | succ i =>
      have e : (i + 1) * 2 = i * 2 + 2 := by omega
      rw [e]
      exact h2 i (by omega)
theorem PC.zeros (n : Nat) : PC (repeatL [cx (some 0, some 0), cx (some 0, some 0)] n) n (fun _ => (some 0, some 0)) fun _ => (some 0, some 0) := repeat_two _ _ n
section
variable {m : Mem} {Q : Value → Mem → Prop}
theorem gives_makeP {n : Nat} {q q' : IntKind} (hn : n ≤ 1048576) (hQ : ∀ cells, PC cells n (fun _ => (some 0, some 0)) (fun _ => (some 0, some 0)) → Q (.slice (some ⟨m.next, 0, none⟩) n n) (m.nw ⟨cells, 2, false, false⟩)) : Gives (makeSliceX Try.prog 54 (.int q n) (.int q' n)) m Q := by
  have hi : (match Try.prog.info? 56 with | some i => i.size == 2 && Nat.ble i.bytes 1024 | none => false) = true := by kernel_rfl
  unfold makeSliceX
  cases h : Try.prog.info? 56 with
  | none => simp only [h] at hi; cases hi
  | some i =>
    simp only [h, Bool.and_eq_true, beq_iff_eq, Nat.ble_eq] at hi
    obtain ⟨h1, h2⟩ := hi
    simp only [under_Q, h, zero_P, cells_poV]
    rw [gives_bind, gives_guard]
    refine ⟨?_, ?_⟩
    · simp only [Bool.and_eq_true, beq_iff_eq, decide_eq_true_eq, Nat.ble_eq, Nat.blt_eq, h1]
      refine ⟨⟨⟨rfl, by omega⟩, by omega⟩, ?_⟩
      rw [Int.toNat_natCast]
      exact Nat.le_trans (Nat.mul_le_mul h2 hn) (by decide)
    · rw [gives_bind, gives_newX, h1, Int.toNat_natCast]
      have hz := PC.zeros n
      refine ⟨hz.one, (gives_ret _ _ _).2 ?_⟩
      exact hQ _ hz
theorem gives_build1P (z r : C) (q : Q (.slice (some ⟨m.next, 0, none⟩) 1 1) (m.nw ⟨[cx z, cx r], 2, false, false⟩)) : Gives (buildSliceX Try.prog 54 1 [(0, poV z r)]) m Q := by
  unfold buildSliceX
  simp only [under_Q, size_P, zero_P, cells_poV]
  rw [gives_bind, gives_guard]
  refine ⟨rfl, ?_⟩
  have hrep : fillX (fun i => some (i * 2, 2)) (repeatL [cx (some 0, some 0), cx (some 0, some 0)] 1) [(0, poV z r)] = some [cx z, cx r] := by
    simp [fillX, layK, repeatL, Nat.blt, Nat.ble]
  rw [hrep]
  show Gives (newX [cx z, cx r] 2 false >>= fun b => M.ret (Value.slice (some ⟨b, 0, none⟩) 1 1)) m Q
  rw [gives_bind, gives_newX]
  exact ⟨by simp, (gives_ret _ _ _).2 q⟩
/-- One more pole. -/
theorem gives_pushP {b1 b n : Nat} {v : Value} {z r : C} {l : List Value} (hx : m.at b1 = some ⟨[cx z, cx r], 2, false, false⟩) (hl : (n = 0 ∧ v = .slice none 0 0) ∨ (v = .slice (some ⟨b, 0, none⟩) n n ∧ m.at b = some ⟨l, 2, true, false⟩ ∧ b ≠ m.next)) (hln : l.length = n * 2)
    (hoo : l.all oneV = true) (hk : n < 1048576)
    (q : ∀ m', m'.next = m.next + 1 → m'.at m.next = some ⟨l ++ [cx z, cx r], 2, true, false⟩ → (∀ c, c ≠ b → c ≠ m.next → m'.at c = m.at c) → Q (.slice (some ⟨m.next, 0, none⟩) (n + 1) (n + 1)) m') :
    Gives (appendX Try.prog 54 54 v (.slice (some ⟨b1, 0, none⟩) 1 1)) m Q := by
  rcases hl with ⟨rfl, rfl⟩ | ⟨rfl, hb, hbn⟩
  · obtain rfl : l = [] := List.eq_nil_of_length_eq_zero (by omega)
    refine gives_append_new app_Q hx (new := [cx z, cx r]) rfl (by simp) (by omega) (by omega) (q _ rfl ?_ ?_)
    · simp
    · intro c _ hc; simp [hc]
  · refine gives_append_grow app_Q hb hln hx (new := [cx z, cx r]) rfl hoo (by simp) (by omega) (by omega) (q _ rfl ?_ ?_)
    · simp
    · intro c hc hc2; simp [hc, hc2]
end
@[simp] theorem nd_slice {d : Option Tmp} {ty : TypeId} {pos : String} {af : Array Edge} {g : Option (Nat × Bool)} (t : TypeId) (x : Operand) (lo hi mx : Option Operand) : isDefer ⟨d, .slice t x lo hi mx, ty, pos, af, g⟩ = false := by cases d <;> rfl
theorem single_rp {m : Mem} {b : Nat} {z : C} {r : G} {gr : Bool} (hb : m.at b = some ⟨[cx z], 1, gr, false⟩) (hz : WC z r) (hr : NB r 12) : RP m (.slice (some ⟨b, 0, none⟩) 1 1) 1 (single r) := by
  refine ⟨PL.own hb ⟨rfl, fun j hj => ?_⟩, ⟨by omega, by omega, fun j => ?_, fun h => by omega⟩, fun t ht => if_neg (by omega)⟩
  · obtain rfl : j = 0 := by omega
    exact ⟨z, rfl, hz⟩
  · unfold single
    split
    · exact hr.mono (by decide) (by decide)
    · unfold NB; decide
theorem single_small {r : G} (hr : NB r 12) (j : Nat) : NB (single r j) small := by
  unfold single
  split
  · exact hr.mono (by decide) (by decide)
  · unfold NB; decide
theorem apart_hid2 {nl : List (Bool × Nat)} {B : List Nat} (h : ∀ p ∈ nl, p.2 ∉ B) {l : List (Bool × Nat)} (hl : ∀ p ∈ l, p.2 ∈ B) : apartL nl l = true := by
  unfold apartL
  rw [List.all_eq_true]
  rintro ⟨x, b⟩ hx
  rw [List.all_eq_true]
  rintro ⟨y, c⟩ hy
  have h2 : c ∈ B := hl (y, c) hy
  have : b ≠ c := fun e => h (x, b) hx (e ▸ h2)
  simp [this]
/-- The region of this number. -/
def findR (id : Nat) : Code → Option Code
  | .region i ops dr => bif i == id then some (.region i ops dr) else none
  | .seq a b => (findR id a).or (findR id b)
  | .cond _ a b => (findR id a).or (findR id b)
  | .block _ c => findR id c
  | .loop c => findR id c
  | .scope c => findR id c
  | .rangeFunc _ _ a b => (findR id a).or (findR id b)
  | _ => none
def rgn (id : Nat) (fn : Func) : Code := (findR id (bodyOf fn)).getD .skip
/-- From there on. -/
theorem gives_slice_from {m : Mem} {Q : Value → Mem → Prop} {b o len cap k : Nat} {q : IntKind} {x : Blk} (hb : m.at b = some x) (hs : x.sz = 1) (hg : x.grow = false) (h1 : k ≤ len) (h2 : len ≤ cap) (h : Q (.slice (some ⟨b, if cap = k then o else o + k, none⟩) (len - k) (cap - k)) (m.rd b)) :
    Gives (sliceX Try.prog 24 (.slice (some ⟨b, o, none⟩) len cap) (some (.int q k)) none none) m Q := by
  unfold sliceX
  simp only [under_L, size_c]
  rw [gives_bind, gives_getB, hb, optQ_some, gives_bind, gives_guard]
  refine ⟨by rw [hs]; rfl, ?_⟩
  have e1 : boundX (some (Value.int q (k : Int))) 0 len = some k := by
    show (bif decide (0 ≤ (k : Int) ∧ (k : Int) ≤ (len : Int)) then some (Int.toNat (k : Int)) else none) = some k
    have : decide (0 ≤ (k : Int) ∧ (k : Int) ≤ (len : Int)) = true := by simp; omega
    rw [this]; simp
  have e2 : boundX none len cap = some len := rfl
  simp only [e1, e2, hg, Bool.not_false, Bool.or_true, cond_true, Nat.mul_one]
  refine (gives_ret _ _ _).2 ?_
  by_cases hc : cap = k
  · subst hc
    simpa using h
  · have : (cap == k) = false := by simp [hc]
    rw [this, cond_false]
    simpa [hc] using h
/-- Nothing behind something. -/
theorem gives_append_same {m : Mem} {Q : Value → Mem → Prop} {b b2 o n c : Nat} {x y : Blk} (ha : m.at b = some x) (hs : x.sz = 1) (hb : m.at b2 = some y) (hn : n ≤ 1048576) (q : Q (.slice (some ⟨b, 0, none⟩) n n) ((m.rd b2).rd b)) : Gives (appendX Try.prog 24 24 (.slice (some ⟨b, 0, none⟩) n n) (.slice (some ⟨b2, o, none⟩) 0 c)) m Q := by
  obtain ⟨hsz, e, e', i, z, h1, h2, h3, h4, h5, h6⟩ := app_spec app_L
  unfold appendX
  simp only [h1, h3, h4, h6]
  rw [gives_bind, gives_guard]
  refine ⟨rfl, ?_⟩
  rw [gives_bind]
  unfold elemsX
  rw [gives_bind, gives_getB, hb, optQ_some, gives_ret]
  have ht : takeN y.cells o (0 * i.size) = some [] := by rw [Nat.zero_mul]; cases y.cells <;> cases o <;> rfl
  rw [ht]
  dsimp only
  rw [gives_bind, gives_getB, Mem.at_rd, ha, optQ_some, gives_bind, gives_guard]
  have hc : Nat.ble (n + 0) n = true := by rw [Nat.ble_eq]; omega
  refine ⟨by simp only [sliceLen, Bool.and_eq_true, beq_iff_eq, Nat.ble_eq]; omega, ?_⟩
  simp only [sliceLen, hc, cond_true]
  exact (gives_ret _ _ _).2 q
theorem oth_cl {cells : List Value} {n i : Nat} {zC : Nat → C} {zG : Nat → G} (h : CX cells n zC zG) (hi : i < n) : CL (cells.take i ++ cells.drop (i + 1)) (n - 1) (oth zG i) := by
  have hl := h.1
  refine ⟨by simp; omega, fun j hj => ?_⟩
  unfold oth
  by_cases hji : j < i
  · rw [if_pos hji, List.getElem?_append_left (by simp; omega), List.getElem?_take_of_lt hji]
    exact ⟨_, h.2 j (by omega)⟩
  · rw [if_neg hji, List.getElem?_append_right (by simp; omega), List.length_take, List.getElem?_drop, show i + 1 + (j - min i cells.length) = j + 1 by omega]
    exact ⟨_, h.2 (j + 1) (by omega)⟩
section
set_option maxRecDepth 10000
theorem run_placed (n : Nat) (x : C) (m : Mem) (Q : Value → Mem → Prop) : Gives (callN Try.prog known (n + 4) 69 [cx x]) m Q ↔ Q (.bool (cwithin x lim)) m := by
  refine gives_pure (fun m => ?_) m Q
  refine gives_fn (nt := 5) rfl Try.func69 rfl rfl rfl (Nat.le_of_ble_eq_true rfl) fun fr hn hd hargs => ?_
  have h0 : fr.at 0 = _ := hargs 0 _ rfl
  clear hargs
  simp [h0, hn, hd, fv_lim, run_within]
/-- A list of numbers whose floats are told. -/
structure PX0 (m : Mem) (v : Value) (n : Nat) (zs : Nat → C) (c : PG) : Prop where
  val : ∃ a k, v = .slice a n k
  px : 0 < n → PX m v n zs c
end
end Go.Proofs.Ytonmjdhdkkmjlaa

/- Fractions out of poles, in the clean executor. -/
namespace Go.Proofs.Ytonmjdhdkkmjlaa
open Go.Clean

/-- A row of poles. -/
def PoL (m : Mem) (v : Value) (n : Nat) (zC rC : Nat → C) : Prop := (n = 0 ∧ v = .slice none 0 0) ∨ ∃ b l gr, v = .slice (some ⟨b, 0, none⟩) n n ∧ m.at b = some ⟨l, 2, gr, false⟩ ∧ PC l n zC rC
theorem PoL.val {m : Mem} {v : Value} {n : Nat} {zC rC : Nat → C} (h : PoL m v n zC rC) : ∃ a, v = .slice a n n := by
  rcases h with ⟨rfl, rfl⟩ | ⟨b, l, gr, rfl, _⟩
  · exact ⟨_, rfl⟩
  · exact ⟨_, rfl⟩
theorem PoL.up {m m' : Mem} {v : Value} {n : Nat} {zC rC : Nat → C} (h : PoL m v n zC rC) (hw : MW m) (u : Up m m') : PoL m' v n zC rC := by
  rcases h with h | ⟨b, l, gr, h1, h2, h3⟩
  · exact .inl h
  · exact .inr ⟨b, l, gr, h1, u.at h2 hw, h3⟩
theorem store_P {m : Mem} (z r : C) {Q : Mem → Prop} (h : ∀ m2, m2.next = m.next + 1 → Up m m2 → m2.at m.next = some ⟨[cx z, cx r], 1, false, false⟩ → Q m2) :
    storeQ Try.prog 56 (.pointer (some ⟨m.next, 0, none⟩)) (poV z r) (m.nw ⟨[cx (some 0, some 0), cx (some 0, some 0)], 1, false, false⟩) Q := by
  refine storeQ_rule (y := ⟨[cx (some 0, some 0), cx (some 0, some 0)], 1, false, false⟩) (by simp) rfl (by rw [sto_P]; simp) (l := [cx z, cx r]) (by simp [lay]) fun m2 n2 _ e2 => ?_
  simp only [Mem.next_nw, Mem.at_nw] at n2 e2
  have u : Up m m2 := (Up.nw m ⟨[cx (some 0, some 0), cx (some 0, some 0)], 1, false, false⟩).wr (b := m.next) (x := ⟨[cx z, cx r], 1, false, false⟩) (Nat.le_refl _) (by simp) (by simpa using n2) (fun c => by rw [e2, Mem.at_nw])
  exact h m2 n2 u (by rw [e2, if_pos rfl])
/-- Some numbers of a row are told. -/
def AtL (cells : List Value) (n i : Nat) (zC : Nat → C) : Prop := cells.length = n ∧ ∀ t, t < i → cells[t]? = some (cx (zC t))
def ofV (bw bo be : Nat) : List (FuncId × List Value) := [(68, [.pointer (some ⟨bw, 0, none⟩), .pointer (some ⟨bo, 0, none⟩), .pointer (some ⟨be, 0, none⟩)])]
structure RF (fr : Fr) (v : Value) (N bo be bw ba : Nat) : Prop where
  n : fr.n = 116
  d : fr.d = ofV bw bo be
  f0 : fr.at 0 = v
  f1 : fr.at 1 = nilL
  f4 : fr.at 4 = .pointer (some ⟨bo, 0, none⟩)
  f5 : fr.at 5 = .pointer (some ⟨be, 0, none⟩)
  f6 : fr.at 6 = .pointer (some ⟨bw, 0, none⟩)
  f7 : fr.at 7 = .slice (some ⟨ba, 0, none⟩) N N
def roI (m : Mem) (v : Value) (n bo be bw ba : Nat) (zC : Nat → C) (q : Nat) (fr : Fr) (m' : Mem) : Prop := ∃ i cells, i + q = n ∧ RF fr v n bo be bw ba ∧ fr.at 24 = v ∧ fr.at 25 = .int .i64 n ∧ fr.at 26 = .int .i64 (i : Nat) ∧ RS m m' bo be bw nilL nilL ∧ m.next ≤ ba ∧ ba ≠ bo ∧ ba ≠ be ∧ ba ≠ bw ∧ m'.at ba = some ⟨cells, 1, false, false⟩ ∧ AtL cells n i zC
def roR (m : Mem) (v : Value) (n bo be bw ba : Nat) (zC : Nat → C) (r : Ex × Fr) (m' : Mem) : Prop := r.1 = .exit 0 ∧ ∃ cells, RF r.2 v n bo be bw ba ∧ RS m m' bo be bw nilL nilL ∧ m.next ≤ ba ∧ ba ≠ bo ∧ ba ≠ be ∧ ba ≠ bw ∧ m'.at ba = some ⟨cells, 1, false, false⟩ ∧ AtL cells n n zC
def roJ (m : Mem) (v : Value) (n bo be bw ba : Nat) (cells : List Value) (vb : Value) (zG rG : Nat → G) (q : Nat) (fr : Fr) (m' : Mem) : Prop := ∃ i vt nt, i + q = n ∧ RF fr v n bo be bw ba ∧ fr.at 77 = v ∧ fr.at 78 = .int .i64 n ∧ fr.at 79 = .int .i64 (i : Nat) ∧ RS m m' bo be bw vt vb ∧ RP m' vt nt (tp zG rG n i) ∧ nt ≤ 3 ∧ RP m' vb (n + 1) (ofZ zG n) ∧ m'.at ba = some ⟨cells, 1, false, false⟩
def roE (m : Mem) (v : Value) (n bo be bw ba : Nat) (vb : Value) (zG rG : Nat → G) (r : Ex × Fr) (m' : Mem) : Prop := r.1 = .exit 2 ∧ ∃ vt nt, RF r.2 v n bo be bw ba ∧ RS m m' bo be bw vt vb ∧ RP m' vt nt (tp zG rG n n) ∧ nt ≤ 3 ∧ RP m' vb (n + 1) (ofZ zG n)
theorem take_ok {cells : List Value} {n i : Nat} (hl : cells.length = n) (hi : i ≤ n) : takeN cells 0 (i * 1) = some (cells.take i) := by
  refine takeN_get _ _ _ _ (by simp; omega) (fun j hj => ?_) (.inr (by omega))
  rw [List.getElem?_take_of_lt (by omega), Nat.zero_add]
theorem drop_ok {cells : List Value} {n i : Nat} (hl : cells.length = n) (hi : i < n) : takeN cells (i + 1) ((n - (i + 1)) * 1) = some (cells.drop (i + 1)) := by
  refine takeN_get _ _ _ _ (by simp; omega) (fun j hj => ?_) (.inr (by omega))
  rw [List.getElem?_drop]
theorem ones {cells l : List Value} (h : cells.all oneV = true) (hs : ∀ v ∈ l, v ∈ cells) : l.all oneV = true := by
  rw [List.all_eq_true] at h ⊢
  exact fun v hv => h v (hs v hv)
section
set_option maxRecDepth 10000
theorem gives_take0 {m : Mem} {ba k c : Nat} {x : Blk} (hk : k = 0) (hb : m.at ba = some x) {o : Nat} {Q : Value → Mem → Prop} (q : Q nilL (m.rd ba)) : Gives (appendX Try.prog 24 24 (.slice none 0 0) (.slice (some ⟨ba, o, none⟩) k c)) m Q := by
  subst hk
  exact gives_append_empty app_L hb q
theorem gives_same0 {m : Mem} {Q : Value → Mem → Prop} {b b2 o k n c : Nat} {x y : Blk} (hk : k = 0) (ha : m.at b = some x) (hs : x.sz = 1) (hb : m.at b2 = some y) (hn : n ≤ 1048576) (q : Q (.slice (some ⟨b, 0, none⟩) n n) ((m.rd b2).rd b)) : Gives (appendX Try.prog 24 24 (.slice (some ⟨b, 0, none⟩) n n) (.slice (some ⟨b2, o, none⟩) k c)) m Q := by
  subst hk
  exact gives_append_same ha hs hb hn q
/-- All places but one, in memory. -/
theorem oth_region (e : Nat) {fr : Fr} {m : Mem} {v : Value} {n bo be bw ba i b12 : Nat} {cells : List Value} {zC : Nat → C} {zG : Nat → G} (F : RF fr v n bo be bw ba) (f11 : fr.at 11 = .int .i64 (i : Nat)) (f12 : fr.at 12 = .pointer (some ⟨b12, 0, none⟩)) (f77 : fr.at 77 = v) (f78 : fr.at 78 = .int .i64 n) (f79 : fr.at 79 = .int .i64 (i : Nat))
    (hwm : MW m) (hat : m.at ba = some ⟨cells, 1, false, false⟩) (hcx : CX cells n zC zG) (hi : i < n) (hn3 : n ≤ 3) {Q : CQ}
    (hQ : ∀ fr2 m2 w, RF fr2 v n bo be bw ba → fr2.at 11 = .int .i64 (i : Nat) → fr2.at 12 = .pointer (some ⟨b12, 0, none⟩) → fr2.at 77 = v → fr2.at 78 = .int .i64 n → fr2.at 79 = .int .i64 (i : Nat) → fr2.at 13 = w → Up m m2 → ZL m2 w (n - 1) (oth zG i) → Q (.normal, fr2) m2) :
    Gives (codeX Try.prog (callN Try.prog known e) (rgn 27 Try.f34) fr) m Q := by
  have hl := hcx.1
  have hcl := oth_cl hcx hi
  have hone := hcx.cl.one
  have hnn := F.n
  obtain ⟨i1, hi1⟩ : ∃ x, x = i + 1 := ⟨_, rfl⟩
  have hwi : IntKind.i64.wrap ((i : Int) + 1) = (i1 : Int) := by rw [hi1]; exact wrap_succ i (by omega)
  have hdr := drop_ok hl hi
  rw [← hi1] at hdr
  refine via (X := .region _ _ _) rfl ?_
  refine code_draw_dyn (plan := [0, 0, 3, 7, 0, 0, 32, 112, 255, 511]) (by kernel_rfl) ?_
  simp [drawQ, apartAll, apartL, Nat.testBit, hnn, F.f7, f11]
  refine gives_slice_hi hat rfl (by omega) ?_
  simp [drawQ, apartAll, apartL, Nat.testBit, hnn, F.f7, f11]
  by_cases hi0 : i = 0
  · refine gives_take0 hi0 (x := ⟨cells, 1, false, false⟩) (by simpa using hat) ?_
    simp [drawQ, apartAll, apartL, Nat.testBit, hnn, F.f7, f11, hwi]
    refine gives_slice_from (x := ⟨cells, 1, false, false⟩) (by simpa using hat) rfl rfl (by omega) (Nat.le_refl _) ?_
    simp [drawQ, apartAll, apartL, Nat.testBit, hnn, F.f7, f11, hwi]
    by_cases hn1 : n = i1
    · refine gives_take0 (by omega) (x := ⟨cells, 1, false, false⟩) (by simpa using hat) ?_
      simp [drawQ, apartAll, apartL, Nat.testBit, hnn, F.f7, f11, hwi]
      exact hQ _ _ nilL ⟨by simp [hnn], by simp [F.d], by simp [F.f0], by simp [F.f1], by simp [F.f4], by simp [F.f5], by simp [F.f6], by simp [F.f7]⟩ (by simp [f11]) (by simp [f12]) (by simp [f77]) (by simp [f78]) (by simp [f79]) (by simp) (Up.same (by simp) fun c => by simp) ⟨none, 0, by rw [show n - 1 = 0 by omega]; rfl, .inl (by omega)⟩
    · rw [if_neg hn1]
      refine gives_append_new app_L (x := ⟨cells, 1, false, false⟩) (by simpa using hat) hdr (ones hone fun v hv => List.mem_of_mem_drop hv) (by omega) (by omega) ?_
      simp [drawQ, apartAll, apartL, Nat.testBit, hnn, F.f7, f11, hwi]
      have hc : CL (cells.drop i1) (n - 1) (oth zG i) := by
        have h := hcl
        rw [← hi1, hi0] at h
        rw [hi0]
        exact h
      have hpl := PL.own (m := m.nw ⟨cells.drop i1, 1, true, false⟩) (b := m.next) (gr := true) (ro := false) (by simp) hc
      rw [show n - 1 = n - i1 by omega] at hpl
      refine hQ _ _ (.slice (some ⟨m.next, 0, none⟩) (n - i1) (n - i1)) ⟨by simp [hnn], by simp [F.d], by simp [F.f0], by simp [F.f1], by simp [F.f4], by simp [F.f5], by simp [F.f6], by simp [F.f7]⟩ (by simp [f11]) (by simp [f12]) (by simp [f77]) (by simp [f78]) (by simp [f79]) (by simp) ((Up.nw m ⟨cells.drop i1, 1, true, false⟩).trans (Up.same (by simp) fun c => by simp)) ?_
      rw [show n - 1 = n - i1 by omega]
      exact ZL.of (hpl.keep fun c => by simp)
  · refine gives_append_new app_L (x := ⟨cells, 1, false, false⟩) (by simpa using hat) (take_ok hl (by omega)) (ones hone fun v hv => List.mem_of_mem_take hv) (by omega) (by omega) ?_
    simp [drawQ, apartAll, apartL, Nat.testBit, hnn, F.f7, f11, hwi]
    have hbn : ba ≠ m.next := by have := hwm ba _ hat; omega
    refine gives_slice_from (x := ⟨cells, 1, false, false⟩) (by simpa [hbn] using hat) rfl rfl (by omega) (Nat.le_refl _) ?_
    simp [drawQ, apartAll, apartL, Nat.testBit, hnn, F.f7, f11, hwi, hbn]
    by_cases hn1 : n = i1
    · refine gives_same0 (by omega) (x := ⟨cells.take i, 1, true, false⟩) (y := ⟨cells, 1, false, false⟩) (by simp) rfl (by simpa [hbn] using hat) (by omega) ?_
      simp [drawQ, apartAll, apartL, Nat.testBit, hnn, F.f7, f11, hwi, hbn]
      have hc : CL (cells.take i) (n - 1) (oth zG i) := by
        have h := hcl
        rw [List.drop_eq_nil_of_le (by omega), List.append_nil] at h
        exact h
      have hpl := PL.own (m := m.nw ⟨cells.take i, 1, true, false⟩) (b := m.next) (gr := true) (ro := false) (by simp) hc
      rw [show n - 1 = i by omega] at hpl
      refine hQ _ _ (.slice (some ⟨m.next, 0, none⟩) i i) ⟨by simp [hnn], by simp [F.d], by simp [F.f0], by simp [F.f1], by simp [F.f4], by simp [F.f5], by simp [F.f6], by simp [F.f7]⟩ (by simp [f11]) (by simp [f12]) (by simp [f77]) (by simp [f78]) (by simp [f79]) (by simp) ((Up.nw m ⟨cells.take i, 1, true, false⟩).trans (Up.same (by simp) fun c => by simp)) ?_
      rw [show n - 1 = i by omega]
      exact ZL.of (hpl.keep fun c => by simp)
    · rw [if_neg hn1]
      refine gives_append_grow app_L (old := cells.take i) (x := ⟨cells, 1, false, false⟩) (by simp) (by simp; omega) (by simpa [hbn] using hat) hdr (ones hone fun v hv => List.mem_of_mem_take hv) (ones hone fun v hv => List.mem_of_mem_drop hv) (by omega) (by omega) ?_
      simp [drawQ, apartAll, apartL, Nat.testBit, hnn, F.f7, f11, hwi, hbn]
      have e : i + (n - i1) = n - 1 := by omega
      have hc : CL (cells.take i ++ cells.drop i1) (n - 1) (oth zG i) := by rw [hi1]; exact hcl
      refine hQ _ _ (.slice (some ⟨m.next + 1, 0, none⟩) (i + (n - i1)) (i + (n - i1))) ⟨by simp [hnn], by simp [F.d], by simp [F.f0], by simp [F.f1], by simp [F.f4], by simp [F.f5], by simp [F.f6], by simp [F.f7]⟩ (by simp [f11]) (by simp [f12]) (by simp [f77]) (by simp [f78]) (by simp [f79]) (by simp) ?_ ?_
      · refine ⟨by simp; omega, fun c hc => ?_, fun w c y hc => ?_⟩
        · simp [show c ≠ m.next by omega, show c ≠ m.next + 1 by omega]
        · by_cases h1 : c = m.next + 1
          · simp; omega
          · by_cases h2 : c = m.next
            · simp [h2] at hc
            · simp [h1, h2] at hc
              have := w c y hc
              simp; omega
      · rw [e]
        exact ZL.of (PL.own (gr := true) (ro := false) (by simp) hc)
theorem ddef_of (d : Nat) {m : Mem} {bw bo be k : Nat} {vt vb : Value} {b : PG} {g1 g2 g3 : Bool} (hW : m.at bw = some ⟨[.int .i64 0], 1, g1, false⟩) (hO : m.at bo = some ⟨[vt, vb], 1, g2, false⟩) (hE : m.at be = some ⟨[.int .i64 0], 1, g3, false⟩) (hb : RP m vb k b) (hb0 : b (k - 1) ≠ g0)
    {Q : Value → Mem → Prop} (hQ : ∀ v m', Sm m m' → Q v m') :
    Gives (deferredX Try.prog (callN Try.prog known (d + 3)) 68 [.pointer (some ⟨bw, 0, none⟩), .pointer (some ⟨bo, 0, none⟩), .pointer (some ⟨be, 0, none⟩)]) m Q := by
  refine gives_deferred (nt := 4) Try.func68 rfl rfl rfl (Nat.le_of_ble_eq_true rfl) fun fr hn hd hargs => ?_
  have h0 : fr.at 0 = _ := hargs 0 _ rfl
  have h1 : fr.at 1 = _ := hargs 1 _ rfl
  have h2 : fr.at 2 = _ := hargs 2 _ rfl
  clear hargs
  simp [h0, h1, h2, hn]
  refine look_ok _ hW hO hE hb hb0 fun m' hs => ?_
  simp [hn, hd]
  exact hQ _ _ hs
set_option maxHeartbeats 4000000 in
theorem rof_ok (d : Nat) {m : Mem} {v : Value} {n : Nat} {zC rC : Nat → C} {zG rG : Nat → G} (hw : MW m) (hn3 : n ≤ 3) (hv : PoL m v n zC rC) (hz : ∀ i, i < n → WC (zC i) (zG i)) (hr : ∀ i, i < n → WC (rC i) (rG i)) (nz : ∀ i, NB (zG i) 12) (nr : ∀ i, NB (rG i) 12) {Q : Value → Mem → Prop}
    (hQ : ∀ m' vt vb nt, Up m m' → nt ≤ 3 → RP m' vt nt (tp zG rG n n) → RP m' vb (n + 1) (ofZ zG n) → Q (.tuple ⟨[frV vt vb, .int .i64 0]⟩) m') :
    Gives (callN Try.prog known (d + 12) 34 [v, .slice none 0 0]) m Q := by
  refine gives_fnD (nt := 116) rfl Try.func34 rfl rfl rfl (Nat.le_of_ble_eq_true rfl) fun fr hn hd hargs => ?_
  have h0 : fr.at 0 = _ := hargs 0 _ rfl
  have h1 : fr.at 1 = _ := hargs 1 _ rfl
  clear hargs
  obtain ⟨a, hva⟩ := hv.val
  have hlen : lenX Try.prog 54 v = some (.int .i64 n) := by rw [hva]; exact len_Q _ _ _
  simp [h0, h1, hn]
  obtain ⟨m0, hm0⟩ : ∃ x : Mem, x = (((m.nw ⟨[nilL, nilL], 1, false, false⟩).nw ⟨[.int .i64 0], 1, false, false⟩).nw ⟨[.int .i64 0], 1, false, false⟩) := ⟨_, rfl⟩
  rw [← hm0]
  obtain ⟨bw, hbw⟩ : ∃ x, x = m.next + 1 + 1 := ⟨_, rfl⟩
  rw [← hbw]
  obtain ⟨be, hbe⟩ : ∃ x, x = m.next + 1 := ⟨_, rfl⟩
  rw [← hbe]
  obtain ⟨bo, hbo⟩ : ∃ x, x = m.next := ⟨_, rfl⟩
  rw [← hbo]
  have u0 : Up m m0 := by
    rw [hm0]
    exact (Up.nw _ _).trans ((Up.nw _ _).trans (Up.nw _ _))
  have n0 : m0.next = m.next + 3 := by rw [hm0]; simp
  have f2 : m0.at bo = some ⟨[nilL, nilL], 1, false, false⟩ := by rw [hm0, hbo]; simp [Nat.add_assoc]
  have f3 : m0.at be = some ⟨[.int .i64 0], 1, false, false⟩ := by rw [hm0, hbe]; simp [Nat.add_assoc]
  have f4 : m0.at bw = some ⟨[.int .i64 0], 1, false, false⟩ := by rw [hm0, hbw]; simp [Nat.add_assoc]
  have w0 := u0.wf hw
  clear hm0
  have S0 : RS m m0 bo be bw nilL nilL := ⟨u0, by omega, by omega, by omega, by omega, by omega, by omega, f2, f3, f4⟩
  refine Clean.step_defer (deferX_tmp (t := 16) (f := 68) (first := []) (cap := [.pointer (some ⟨bw, 0, none⟩), .pointer (some ⟨bo, 0, none⟩), .pointer (some ⟨be, 0, none⟩)]) (by simp)) ?_
  simp [hn, h0, hlen, show ¬ 64 < (n : Int) by omega]
  refine gives_make mk_L (Nat.le_refl n) (by omega) ?_
  obtain ⟨ba, hba⟩ : ∃ x, x = m0.next := ⟨_, rfl⟩
  rw [← hba]
  simp [hn, h0, hlen]
  obtain ⟨m1, hm1⟩ : ∃ x : Mem, x = m0.nw ⟨List.replicate n (.complex .f64 0 0), 1, false, false⟩ := ⟨_, rfl⟩
  rw [← hm1]
  have u1 : Up m0 m1 := by rw [hm1]; exact Up.nw _ _
  have f1 : m1.at ba = some ⟨List.replicate n (.complex .f64 0 0), 1, false, false⟩ := by rw [hm1, hba]; simp
  clear hm1
  refine code_loop_post (roR m v n bo be bw ba zC) (roI m v n bo be bw ba zC) n (by omega) ⟨0, _, by omega, ⟨by simp [hn], by simp [hd, ofV], by simp [h0], by simp [h1, nilL], by simp, by simp, by simp, by simp⟩, by simp [h0], by simp, by simp, S0.next hw u1, by omega, by omega, by omega, by omega, f1, by simp, fun t ht => by omega⟩ ?_ ?_
  · clear hn hd h0 h1
    rintro q fr' m' ⟨i, cells, hiq, F, f24, f25, f26, S, b1, b2, b3, b4, hat, hcl⟩
    have hnn := F.n
    by_cases hi : i < n
    · obtain ⟨b, l, gr, hvb, hb, hpc⟩ := hv.resolve_left (by omega)
      have hm : m'.at b = some ⟨l, 2, gr, false⟩ := S.up.at hb hw
      have f24' : fr'.at 24 = .slice (some ⟨b, 0, none⟩) n n := by rw [f24, hvb]
      have hwi := wrap_succ i (by omega)
      simp [hnn, f24', f25, f26, hi, idx_Q _ _ _ _ _ _ hi, hm, hpc.ld hi]
      refine store_P (m := m'.rd b) (zC i) (rC i) fun m2 n2 u2 hp => ?_
      have hpz : cwithin (zC i) lim = true := (hz i hi).place ((nz i).mono (by decide) (by decide))
      have hpr : cwithin (rC i) lim = true := (hr i hi).place ((nr i).mono (by decide) (by decide))
      simp only [Mem.next_rd] at n2 hp
      have U2 : Up m' m2 := (Up.rd _ _).trans u2
      have S2 := S.next hw U2
      have hat2 := U2.at hat (S.up.wf hw)
      simp [hnn, hp, run_placed, hpz, hpr, yieldX, boolOf_bool, F.f7, idx_L _ _ _ _ _ _ hi]
      have hcells : i < cells.length := by rw [hcl.1]; exact hi
      refine storeQ_one (cs := cells) (sz := 1) (gr := false) (by simp [hat2]) (by simp) (cells_cx _) hcells fun m4 n4 _ e4 => ?_
      simp only [Mem.next_rd, Mem.at_rd] at n4 e4
      simp [hnn, f26, hwi]
      have hbn : ba < m2.next := S2.up.wf hw ba _ hat2
      refine ⟨q - 1, by omega, i + 1, _, by omega, ⟨by simp [hnn], by simp [F.d], by simp [F.f0], by simp [F.f1], by simp [F.f4], by simp [F.f5], by simp [F.f6], by simp [F.f7]⟩, by simp [f24], by simp [f25], by simp,
        ⟨S2.up.wr b1 hbn n4 e4, S2.lo, S2.le, S2.lw, S2.oe, S2.ow, S2.ew, by rw [e4, if_neg b2.symm]; exact S2.at_o, by rw [e4, if_neg b3.symm]; exact S2.at_e, by rw [e4, if_neg b4.symm]; exact S2.at_w⟩, b1, b2, b3, b4, by rw [e4, if_pos rfl], by rw [List.length_set]; exact hcl.1, fun t ht => ?_⟩
      rw [List.getElem?_set]
      by_cases hti : i = t
      · rw [if_pos hti, if_pos hcells, hti]
      · rw [if_neg hti]; exact hcl.2 t (by omega)
    · obtain rfl : i = n := by omega
      simp [hnn, f25, f26]
      exact ⟨rfl, cells, ⟨by simp [hnn], by simp [F.d], by simp [F.f0], by simp [F.f1], by simp [F.f4], by simp [F.f5], by simp [F.f6], by simp [F.f7]⟩, S, b1, b2, b3, b4, hat, hcl⟩
  · rintro ⟨e, fr'⟩ m' ⟨he', cells, F, S, b1, b2, b3, b4, hat, hcl⟩
    obtain rfl : e = .exit 0 := he'
    have hnn := F.n
    simp only at hnn F
    have hfar : ∀ i, NB (zG i) far := fun i => (nz i).mono (by decide) (by decide)
    have hcx : CX cells n zC zG := ⟨hcl.1, fun i hi => ⟨hcl.2 i hi, hz i hi⟩⟩
    have hzl : ZL m' (.slice (some ⟨ba, 0, none⟩) n n) n zG := ZL.of (PX.own hat hcx).pl
    have w1 := S.up.wf hw
    simp [hnn, F.f1, F.f7, nilL]
    refine of_ok _ w1 hzl (by omega) hfar (fun i => near12 (nz i)) (fun i t hi => of_near nz i t (by omega)) fun m2 vb kb u2 hkb hpb => ?_
    have hkb1 : kb = n + 1 := by
      by_cases h : kb = n + 1
      · exact h
      · have h1 := hpb.ends n (by omega)
        rw [ofZ_lead] at h1
        exact absurd h1 (by decide)
    subst hkb1
    have S2 := S.next hw u2
    have w2 := S2.up.wf hw
    simp [hnn, F.f4, F.f5, extractX]
    refine storeQ_one (cs := [nilL, nilL]) (sz := 1) (gr := false) S2.at_o (by simp [hpb.pl.cells, hpb.pl.one']) hpb.pl.cells (by simp) fun m3 n3 _ e3 => ?_
    simp only [List.set_cons_zero, List.set_cons_succ] at e3
    have S3 := S2.put hw n3 e3
    have hpb3 : RP m3 vb (n + 1) _ := hpb.beside S2.at_o (isSl2 trivial trivial) fun c hc => by rw [e3, if_neg hc]
    simp [hnn, F.f5]
    refine storeQ_one (cs := [.int .i64 0]) (sz := 1) (gr := false) S3.at_e (by simp) rfl (by simp) fun m4 n4 _ e4 => ?_
    simp only [List.set_cons_zero] at e4
    have S4 := S3.pute hw n4 e4
    have hpb4 : RP m4 vb (n + 1) _ := hpb3.beside S3.at_e (isSl1 trivial) fun c hc => by rw [e4, if_neg hc]
    have hat4 : m4.at ba = some ⟨cells, 1, false, false⟩ := by rw [e4, if_neg b3, e3, if_neg b2]; exact u2.at hat w1
    have w4 := S4.up.wf hw
    simp [hnn, F.f5, S4.at_e, cx_zero]
    refine gives_build1 bs_L (cells_cx _) (one_cx _) ?_
    have u5 : Up m4 ((m4.rd be).nw ⟨[cx (some 0, some 0)], 1, false, false⟩) := (Up.rd _ _).trans (Up.nw _ _)
    obtain ⟨m5, hm5⟩ : ∃ x : Mem, x = (m4.rd be).nw ⟨[cx (some 0, some 0)], 1, false, false⟩ := ⟨_, rfl⟩
    rw [← hm5] at u5 ⊢
    have hp5 : PL m5 (.slice (some ⟨m4.next, 0, none⟩) 1 1) 1 fun _ => g0 := PL.own (gr := false) (ro := false) (cells := [cx (some 0, some 0)]) (by rw [hm5]; simp) ⟨rfl, fun i hi => ⟨_, by rw [show i = 0 by omega]; rfl, WC.zero⟩⟩
    clear hm5
    have S5 := S4.next hw u5
    obtain ⟨b0, hb0⟩ : ∃ x, x = m4.next := ⟨_, rfl⟩
    simp only [Mem.next_rd, ← hb0] at hp5 ⊢
    simp [hnn, F.f4]
    refine storeQ_one (cs := [nilL, vb]) (sz := 1) (gr := false) S5.at_o (by simp) (by simp) (by simp) fun m6 n6 _ e6 => ?_
    simp only [List.set_cons_zero, List.set_cons_succ] at e6
    have S6 := S5.put hw n6 e6
    have hpb6 : RP m6 vb (n + 1) (ofZ zG n) := (hpb4.up w4 u5).beside S5.at_o (isSl2 trivial hpb.pl.isSl) fun c hc => by rw [e6, if_neg hc]
    have hat6 : m6.at ba = some ⟨cells, 1, false, false⟩ := by rw [e6, if_neg b2]; exact u5.at hat4 w4
    have hpt6 : RP m6 (.slice (some ⟨b0, 0, none⟩) 1 1) 1 (tp zG rG n 0) := by
      have h : RP m5 (.slice (some ⟨b0, 0, none⟩) 1 1) 1 (tp zG rG n 0) := ⟨hp5, ⟨by omega, by omega, fun i => by unfold tp NB; decide, fun h => by omega⟩, fun t _ => rfl⟩
      exact h.beside S5.at_o (isSl2 trivial hpb.pl.isSl) fun c hc => by rw [e6, if_neg hc]
    simp [hnn, F.f1, F.f0, hlen, nilL]
    clear hn hd h0 h1
    refine code_loop_post (roE m v n bo be bw ba vb zG rG) (roJ m v n bo be bw ba cells vb zG rG) n (by omega) ⟨0, _, 1, by omega, ⟨by simp [hnn], by simp [F.d], by simp [F.f0], by simp [F.f1], by simp [F.f4], by simp [F.f5], by simp [F.f6], by simp [F.f7]⟩, by simp [F.f0], by simp, by simp, S6, hpt6, by omega, hpb6, hat6⟩ ?_ ?_
    · clear hnn F hat S S2 S3 S4 S5 S6 hpb hpb3 hpb4 hpb6 hpt6 hat4 hat6
      rintro q fr' m' ⟨i, vt, nt, hiq, F, f77, f78, f79, S, hpt, hnt, hpb, hat⟩
      have hnn := F.n
      by_cases hi : i < n
      · obtain ⟨b, l, gr, hvb, hb, hpc⟩ := hv.resolve_left (by omega)
        have hm : m'.at b = some ⟨l, 2, gr, false⟩ := S.up.at hb hw
        have f77' : fr'.at 77 = .slice (some ⟨b, 0, none⟩) n n := by rw [f77, hvb]
        have hwi := wrap_succ i (by omega)
        simp [hnn, f77', f78, f79, hi, idx_Q _ _ _ _ _ _ hi, hm, hpc.ld hi]
        refine store_P (m := m'.rd b) (zC i) (rC i) fun m2 n2 u2 hp => ?_
        simp only [Mem.next_rd] at n2 hp
        obtain ⟨b12, hb12⟩ : ∃ x, x = m'.next := ⟨_, rfl⟩
        rw [← hb12] at hp ⊢
        have U2 : Up m' m2 := (Up.rd _ _).trans u2
        have S2 := S.next hw U2
        have w' := S.up.wf hw
        simp [hnn, F.f6, S2.at_w]
        have r2 : Up m2 (m2.rd bw) := Up.rd _ _
        have S2r := S2.next hw r2
        refine via (X := rgn 27 Try.f34) (by kernel_rfl) (oth_region (v := v) (n := n) (bo := bo) (be := be) (bw := bw) (ba := ba) (b12 := b12) (i := i) (d + 11) ⟨by simp [hnn], by simp [F.d], by simp [F.f0], by simp [F.f1], by simp [F.f4], by simp [F.f5], by simp [F.f6], by simp [F.f7]⟩ (by simp) (by simp) (by simp [f77]) (by simp [f78]) (by simp [f79]) (S2r.up.wf hw) (by simpa using U2.at hat w') hcx hi hn3 fun fr2 m3 w F2 f11 f12 f77 f78 f79 f13 u3 hzo => ?_)
        have S3 := S2r.next hw u3
        have hp3 : m3.at b12 = some ⟨[cx (zC i), cx (rC i)], 1, false, false⟩ := (r2.trans u3).at hp (S2.up.wf hw)
        clear hnn F
        have hnn := F2.n
        simp [hnn, f13]
        refine of_ok (zs := oth zG i) _ (S3.up.wf hw) hzo (by omega) (fun j => (oth_nb nz i j).mono (by decide) (by decide)) (fun j => near12 (oth_nb nz i j)) (fun j t hj => of_near (oth_nb nz i) j t (by omega)) fun m4 vq kq u4 hkq hq => ?_
        have S4 := S3.next hw u4
        have w3 := S3.up.wf hw
        have hp4 := u4.at hp3 w3
        have w4 := S4.up.wf hw
        have U4 : Up m' m4 := U2.trans (r2.trans (u3.trans u4))
        have hpt4 := hpt.up w' U4
        have hpb4 := hpb.up w' U4
        have hat4 := U4.at hat w'
        simp [hnn, extractX, yieldX, boolOf_bool]
        refine code_draw_dyn (plan := [0, 1, 0, 4, 12, 0, 60, 127, 255, 511]) (by kernel_rfl) ?_
        simp [drawQ, apartAll, apartL, Nat.testBit, hnn, F2.f4, F2.f6, f12, S4.at_o, hp4]
        refine gives_build1 bs_L (cells_cx _) (one_cx _) ?_
        simp [drawQ, apartAll, apartL, Nat.testBit, hnn, F2.f4, F2.f6, f12, S4.at_o, hp4]
        have hbn : bo < m4.next := w4 bo _ S4.at_o
        refine ⟨by omega, ?_⟩
        obtain ⟨m5, hm5⟩ : ∃ x, x = ((m4.lg []).nw ⟨[cx (rC i)], 1, false, false⟩).lg [] := ⟨_, rfl⟩
        have lg5 : m5.log = [] := by rw [hm5]; simp
        rw [← hm5]
        have u5 : Up m4 m5 := by rw [hm5]; exact (Up.same (by simp) fun c => by simp).trans ((Up.nw (m4.lg []) ⟨[cx (rC i)], 1, false, false⟩).trans (Up.same (by simp) fun c => by simp))
        have ps5 : RP m5 (.slice (some ⟨m4.next, 0, none⟩) 1 1) 1 (single (rG i)) := single_rp (z := rC i) (gr := false) (by rw [hm5]; simp) (hr i hi) (nr i)
        clear hm5
        have S5 := S4.next hw u5
        have w5 := S5.up.wf hw
        refine wmul_hid2 d [bo] w5 (fun b hb => by obtain rfl := List.mem_singleton.1 hb; exact ⟨_, S5.at_o, isSl2 hpt.pl.isSl hpb.pl.isSl⟩) (fun hb => S5.ow (List.mem_singleton.1 hb).symm) S5.at_w ps5 (hq.up w4 u5) (by omega)
          (single_small (nr i)) (fun j => nb_of (of_bn (oth_nb nz i) (by omega) j) (by decide)) (fun j t => cvs_far (oth_nb nz i) (nr i) (by omega) j t) fun m6 v1 n1 nl u6 l1 p1 o1 hlg hnl => ?_
        have e1 : apartL nl [(false, bo)] = true := apart_hid2 hnl (by simp)
        have S6 := S5.next hw u6
        have w6 := S6.up.wf hw
        rw [lg5, List.append_nil] at hlg
        simp [drawQ, apartAll, Nat.testBit, hnn, hlg, apart_nil, apart_nil2, apart_rr, e1, F2.f6]
        have u7 : Up m6 (m6.lg []) := Up.same (by simp) fun c => by simp
        have S7 := S6.next hw u7
        have U7 := u5.trans (u6.trans u7)
        refine wadd_ok d (S7.up.wf hw) S7.at_w (hpt4.up w4 U7) (p1.up w6 u7) (fun j => nb_of (tp_bn' nz nr hn3 (i := i + 1) (by omega) j) (by decide)) fun m8 v2 n2 u8 l2 p2 => ?_
        have S8 := S7.next hw u8
        have w8 := S8.up.wf hw
        have U8 := U7.trans u8
        simp [drawQ, apartAll, Nat.testBit, hnn, hlg, apart_nil, apart_nil2, apart_rr, e1, F2.f4]
        refine storeQ_one (cs := [vt, vb]) (sz := 1) (gr := false) (by simpa using S8.at_o) (by simp [p2.pl.cells, p2.pl.one']) p2.pl.cells (by simp) fun m9 n9 lg9 e9 => ?_
        simp only [Mem.next_lg, Mem.at_lg, List.set_cons_zero] at n9 e9
        have S9 := S8.put hw n9 e9
        have p9 : RP m9 v2 n2 (tp zG rG n (i + 1)) := RP.beside (m := m8) p2 S8.at_o (isSl2 hpt.pl.isSl hpb.pl.isSl) fun c hc => by rw [e9, if_neg hc]
        have hpb9 : RP m9 vb (n + 1) (ofZ zG n) := (hpb4.up w4 U8).beside S8.at_o (isSl2 hpt.pl.isSl hpb.pl.isSl) fun c hc => by rw [e9, if_neg hc]
        have hat9 : m9.at ba = some ⟨cells, 1, false, false⟩ := by rw [e9, if_neg b2]; exact U8.at hat4 w4
        have w9 := S9.up.wf hw
        simp [drawQ, apartAll, Nat.testBit, hnn, lg9, apart_nil, apart_nil2, f79, hwi]
        have u10 : ∀ l, Up m9 (m9.lg l) := fun l => Up.same (by simp) fun c => by simp
        exact ⟨q - 1, by omega, i + 1, v2, n2, by omega, ⟨by simp [hnn], by simp [F2.d], by simp [F2.f0], by simp [F2.f1], by simp [F2.f4], by simp [F2.f5], by simp [F2.f6], by simp [F2.f7]⟩, by simp [f77], by simp [f78], by simp, S9.next hw (u10 _), p9.up w9 (u10 _), by omega, hpb9.up w9 (u10 _), (u10 _).at hat9 w9⟩
      · obtain rfl : i = n := by omega
        simp [hnn, f78, f79]
        exact ⟨rfl, vt, nt, ⟨by simp [hnn], by simp [F.d], by simp [F.f0], by simp [F.f1], by simp [F.f4], by simp [F.f5], by simp [F.f6], by simp [F.f7]⟩, S, hpt, hnt, hpb⟩
    · rintro ⟨e, fr'⟩ m' ⟨he', vt, nt, F, S, hpt, hnt, hpb⟩
      obtain rfl : e = .exit 2 := he'
      simp only at F
      have hnn := F.n
      simp [hnn, F.f4, F.f5, S.at_o]
      have r9 : Up m' (m'.rd bo) := Up.rd _ _
      have S10 := S.next hw r9
      have w9 := S.up.wf hw
      refine storeQ_rule S10.at_o rfl (by rw [sto_F]; simp [hpt.pl.one', hpb.pl.one']) (l := [vt, vb]) (by simp [lay]) fun m10 n10 _ e10 => ?_
      have S11 := S10.put hw n10 e10
      have k3' := (hpt.up w9 r9).beside S10.at_o (isSl2 hpt.pl.isSl hpb.pl.isSl) fun c hc => show m10.at c = _ by rw [e10, if_neg hc]
      have k4' := (hpb.up w9 r9).beside S10.at_o (isSl2 hpt.pl.isSl hpb.pl.isSl) fun c hc => show m10.at c = _ by rw [e10, if_neg hc]
      simp [hnn, F.f5]
      refine storeQ_one (cs := [.int .i64 0]) (sz := 1) (gr := false) S11.at_e (by simp) rfl (by simp) fun m11 n11 _ e11 => ?_
      simp only [List.set_cons_zero] at e11
      have S12 := S11.pute hw n11 e11
      have j3 := k3'.beside S11.at_e (isSl1 trivial) fun c hc => show m11.at c = _ by rw [e11, if_neg hc]
      have j4 := k4'.beside S11.at_e (isSl1 trivial) fun c hc => show m11.at c = _ by rw [e11, if_neg hc]
      simp [hnn]
      have hb4 : ofZ zG n (n + 1 - 1) ≠ g0 := by rw [Nat.add_sub_cancel, ofZ_lead]; decide
      refine fnD_ret (by simp [F.d, ofV]) rfl (ddef_of (d + 8) S12.at_w S12.at_o S12.at_e j4 hb4 fun v m12 hs => ?_)
      simp [F.f4, F.f5, hs.2, S12.at_o, S12.at_e]
      have r12 : Sm m12 ((m12.rd bo).rd be) := (Sm.rd _ _).trans (Sm.rd _ _)
      have hs' := hs.trans r12
      exact hQ _ vt vb nt (S12.up.trans hs'.up) hnt (j3.keep hs'.2) (j4.keep hs'.2)
end
end Go.Proofs.Ytonmjdhdkkmjlaa
