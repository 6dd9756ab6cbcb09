/- The document's steps, in the clean executor: one row, by the column's pivot. -/
import Derived.Test.YtghhanifakllpaaY1
namespace Go.Proofs.Ytghhanifakllpaa
open Go.Clean

def sL : Code → Code
  | .seq a _ => a
  | c => c
def sR : Code → Code
  | .seq _ b => b
  | c => c
def inB : Code → Code
  | .block _ c => c
  | .loop c => c
  | c => c
def bodyOf (fn : Func) : Code := fn.body.getD .skip
theorem via {P : Program} {call : Caller} {L X : Code} (h : L = X) {fr : Fr} {m : Mem} {Q : CQ} (g : Gives (codeX P call X fr) m Q) : Gives (codeX P call L fr) m Q := h ▸ g

/-- What the record and its lists hold. -/
structure Cont (l : Nat → List Value) (ρ : Nat → Nat) (rw : Nat → List Value) (N : Nat) (S : Sys) : Prop where
  hd : (l 1).length = N ∧ ∀ i, i < N → (l 1)[i]? = some (.slice (some ⟨ρ i, 0, none⟩) N N)
  row : ∀ i, i < N → (rw i).length = N ∧ ∀ j, j < N → (rw i)[j]? = some (.float .f64 (cOf (S.M i j)))
  rhs : (l 2).length = N ∧ ∀ i, i < N → (l 2)[i]? = some (.float .f64 (cOf (S.M i N)))
  ord : (l 3).length = N ∧ ∀ i, i < N → (l 3)[i]? = some (.int .i64 (S.first i : Nat))
  piv : l 4 = S.piv.map fv
  odd : l 5 = S.odd.map .bool
def SysAt (m : Mem) (base s5 : Nat) (ok : Bool) (N : Nat) (S : Sys) : Prop := ∃ kd v l ρ rw, Lay m kd base s5 v l ok N ρ rw ∧ Cont l ρ rw N S
def Old (b : Nat) (m m' : Mem) : Prop := ∀ c, c < b → m'.at c = m.at c
theorem Old.refl (b : Nat) (m : Mem) : Old b m m := fun _ _ => rfl
theorem Old.trans {b : Nat} {m m1 m2 : Mem} (h : Old b m m1) (k : Old b m1 m2) : Old b m m2 := fun c hc => (k c hc).trans (h c hc)
structure FB (fr : Fr) (r4 s5 N k : Nat) : Prop where
  n : fr.n = 244
  d : fr.d = []
  a4 : fr.at 4 = .pointer (some ⟨r4, 0, none⟩)
  a5 : fr.at 5 = .pointer (some ⟨s5, 0, none⟩)
  a6 : fr.at 6 = .int .i64 N
  a8 : fr.at 8 = .int .i64 (k : Nat)

section
variable {m m' : Mem} {base s5 N : Nat} {ok : Bool} {S : Sys}
theorem Cont.setRow {l : Nat → List Value} {ρ : Nat → Nat} {rw : Nat → List Value} (h : Cont l ρ rw N S) {i j : Nat} (hi : i < N) (hj : j < N) (x : F) {M' : Mx} (hM : ∀ a b, a < N → b ≤ N → M' a b = if a = i ∧ b = j then x else S.M a b) :
    Cont l ρ (fun q => if q = i then (rw i).set j (.float .f64 (cOf x)) else rw q) N { S with M := M' } := by
  refine ⟨h.hd, fun a ha => ?_, ⟨h.rhs.1, fun a ha => ?_⟩, h.ord, h.piv, h.odd⟩
  · by_cases hai : a = i
    · subst hai
      simp only [if_true, List.length_set]
      refine ⟨(h.row a ha).1, fun b hb => ?_⟩
      rw [List.getElem?_set]
      show _ = some (Value.float .f64 (cOf (M' a b)))
      rw [hM a b ha (by omega)]
      by_cases hbj : j = b
      · subst hbj
        rw [if_pos rfl, if_pos (by rw [(h.row a ha).1]; exact hb), if_pos ⟨rfl, rfl⟩]
      · rw [if_neg hbj, if_neg (by omega)]
        exact (h.row a ha).2 b hb
    · simp only [if_neg hai]
      refine ⟨(h.row a ha).1, fun b hb => ?_⟩
      show _ = some (Value.float .f64 (cOf (M' a b)))
      rw [hM a b ha (by omega), if_neg (by omega)]
      exact (h.row a ha).2 b hb
  · show _ = some (Value.float .f64 (cOf (M' a N)))
    rw [hM a N ha (by omega), if_neg (by omega)]
    exact h.rhs.2 a ha
end

/-! ### One row -/
def pMain (c : Code) : Code := inB (sR (sL (sR (sR (sR (sR c))))))
def pY (c : Code) : Code := inB (sL (sR (inB (pMain c))))
def pPiv (c : Code) : Code := inB (sR (sL (sR (pY c))))
def pElim (c : Code) : Code := inB (sR (sR (sR (sR (sR (sR (sR (sR (sR (sR (sR (pY c))))))))))))
def pRow (c : Code) : Code := inB (sR (sL (sR (inB (sL (sR (inB (pElim c))))))))

def rowI (m : Mem) (base r4 s5 N k i : Nat) (f : F) (S : Sys) (q : Nat) (fr : Fr) (m' : Mem) : Prop :=
  ∃ j, j + q = N ∧ k < j ∧ FB fr r4 s5 N k ∧ fr.at 13 = .int .i64 (i : Nat) ∧ fr.at 14 = .float .f64 (cOf f) ∧ fr.at 15 = .int .i64 (j : Nat) ∧ Old base m m' ∧ SysAt m' base s5 true N { S with M := part N S.M k i j }
set_option maxRecDepth 10000 in
theorem row_loop {known : Known} (K : KN known) (n : Nat) {fr : Fr} {m : Mem} {base r4 s5 N k i : Nat} {S : Sys} (hki : k < i) (hiN : i < N) (hN : N ≤ 128) (hF : FB fr r4 s5 N k) (h13 : fr.at 13 = .int .i64 (i : Nat)) (h14 : fr.at 14 = .float .f64 (cOf (fdiv (S.M i k) (S.M k k)))) (h15 : fr.at 15 = .int .i64 ((k + 1 : Nat) : Int))
    (hS : SysAt m base s5 true N { S with M := part N S.M k i (k + 1) }) {Q : CQ} (hQ : ∀ fr' m', FB fr' r4 s5 N k → fr'.at 13 = .int .i64 (i : Nat) → fr'.at 14 = .float .f64 (cOf (fdiv (S.M i k) (S.M k k))) → Old base m m' → SysAt m' base s5 true N { S with M := part N S.M k i N } → Q (.exit 8, fr') m') :
    Gives (codeX Try.prog (callN Try.prog known (n + 2)) (pRow (bodyOf Try.f49)) fr) m Q := by
  refine via (X := .loop _) rfl ?_
  refine code_loop (rowI m base r4 s5 N k i (fdiv (S.M i k) (S.M k k)) S) (N - (k + 1)) (by omega) ⟨k + 1, by omega, by omega, hF, h13, h14, h15, .refl _ _, hS⟩ ?_
  rintro q fr' m' ⟨j, hjq, hkj, ⟨f1, f2, f3, f4, f5, f6⟩, g13, g14, g15, ho, kd, v, l, ρ, rw, hL, hC⟩
  by_cases hj : j < N
  · simp [f1, f5, g15, hj]
    refine code_draw (sil := silF) (K.silent _) (K.parC _) (by kernel_rfl) ?_
    have hcell := hL.cell
    obtain ⟨bA, hv1, _, _, hbA⟩ := hL.blk (k := 1) (by omega) (by omega) (by rw [hC.hd.1]; omega)
    rw [hC.hd.1] at hv1
    obtain ⟨_, _, hri⟩ := hL.row i hiN
    obtain ⟨_, _, hrk⟩ := hL.row k (by omega)
    have hdi := hC.hd.2 i hiN
    have hdk := hC.hd.2 k (by omega)
    have eij := (hC.row i hiN).2 j hj
    have ekj := (hC.row k (by omega)).2 j hj
    have hi2 : i < N := hiN
    have eij' : (rw i)[j]? = some (.float .f64 (cOf (S.M i j))) := by rw [eij]; show some (Value.float .f64 (cOf (part N S.M k i j i j))) = _; rw [part_at]
    have ekj' : (rw k)[j]? = some (.float .f64 (cOf (S.M k j))) := by rw [ekj]; show some (Value.float .f64 (cOf (part N S.M k i j k j))) = _; rw [part_top]
    clear eij ekj
    have hw := wrap_succ j (by omega)
    simp [f1, f4, f6, g13, g14, g15, hcell, rec5, hv1, lst, hbA, hdi, hdk, hri, hrk, eij', ekj', idx23 _ _ _ _ _ _ hiN, idx23 _ _ _ _ _ _ (show k < N by omega), idx24 _ _ _ _ _ _ hj]
    refine storeQ_one (cs := rw i) (sz := 1) (gr := true) (by simpa using hri) (by simp [cellsV, oneV]) rfl (by rw [(hC.row i hiN).1]; exact hj) fun m3 n3 _ e3 => ?_
    simp only [Mem.next_rd, Mem.at_rd] at n3 e3
    simp [f1, g15, hw]
    have hp : ∀ a b, a < N → b ≤ N → part N S.M k i (j + 1) a b = if a = i ∧ b = j then fsub (S.M i j) (fmul (fdiv (S.M i k) (S.M k k)) (S.M k j)) else part N S.M k i j a b := fun a b _ _ => by
      rw [← part_set N S.M hki hiN hkj (by omega)]; rfl
    refine ⟨q - 1, by omega, j + 1, by omega, by omega, ⟨by simp [f1], by simp [f2], by simp [f3], by simp [f4], by simp [f5], by simp [f6]⟩, by simp [g13], by simp [g14], by simp, ho.trans fun c hc => ?_, _, _, _, _, _, hL.setRow hiN _ j n3 e3, hC.setRow hiN hj _ hp⟩
    rw [e3, if_neg]
    have := (hL.row i hiN).2.1
    omega
  · have : j = N := by omega
    subst this
    simp [f1, f5, g15]
    exact hQ _ m' ⟨by simp [f1], by simp [f2], by simp [f3], by simp [f4], by simp [f5], by simp [f6]⟩ (by simp [g13]) (by simp [g14]) ho ⟨kd, v, l, ρ, rw, hL, hC⟩
end Go.Proofs.Ytghhanifakllpaa

/- The document's steps, in the clean executor: all rows below the pivot's; the pivot's row. -/
namespace Go.Proofs.Ytghhanifakllpaa
open Go.Clean

theorem Cont.setRhs {N : Nat} {S : Sys} {l : Nat → List Value} {ρ : Nat → Nat} {rw : Nat → List Value} (h : Cont l ρ rw N S) {i : Nat} (hi : i < N) (x : F) {M' : Mx} (hM : ∀ a b, a < N → b ≤ N → M' a b = if a = i ∧ b = N then x else S.M a b) :
    Cont (fun q => if q = 2 then (l 2).set i (.float .f64 (cOf x)) else l q) ρ rw N { S with M := M' } := by
  refine ⟨by simpa using h.hd, fun a ha => ⟨(h.row a ha).1, fun b hb => ?_⟩, ⟨?_, fun a ha => ?_⟩, by simpa using h.ord, by simpa using h.piv, by simpa using h.odd⟩
  · show _ = some (Value.float .f64 (cOf (M' a b)))
    rw [hM a b ha (by omega), if_neg (by omega)]
    exact (h.row a ha).2 b hb
  · simp only [if_true, List.length_set]; exact h.rhs.1
  · simp only [if_true]
    rw [List.getElem?_set]
    show _ = some (Value.float .f64 (cOf (M' a N)))
    rw [hM a N ha (by omega)]
    by_cases hai : i = a
    · subst hai
      rw [if_pos rfl, if_pos (by rw [h.rhs.1]; exact hi), if_pos ⟨rfl, rfl⟩]
    · rw [if_neg hai, if_neg (by omega)]
      exact h.rhs.2 a ha

def elimI (m : Mem) (base r4 s5 N k : Nat) (S : Sys) (q : Nat) (fr : Fr) (m' : Mem) : Prop :=
  ∃ i, i + q = N ∧ k < i ∧ FB fr r4 s5 N k ∧ fr.at 13 = .int .i64 (i : Nat) ∧ Old base m m' ∧ SysAt m' base s5 true N { S with M := part N S.M k i (k + 1) }
set_option maxRecDepth 10000 in
theorem elim_loop {known : Known} (K : KN known) (n : Nat) {fr : Fr} {m : Mem} {base r4 s5 N k : Nat} {S : Sys} (hkN : k < N) (hN : N ≤ 128) (hF : FB fr r4 s5 N k) (h13 : fr.at 13 = .int .i64 ((k + 1 : Nat) : Int))
    (hS : SysAt m base s5 true N S) {Q : CQ} (hQ : ∀ fr' m', FB fr' r4 s5 N k → Old base m m' → SysAt m' base s5 true N { S with M := elimM N S.M k } → Q (.exit 6, fr') m') :
    Gives (codeX Try.prog (callN Try.prog known (n + 2)) (pElim (bodyOf Try.f49)) fr) m Q := by
  refine via (X := .loop _) rfl ?_
  refine code_loop (elimI m base r4 s5 N k S) (N - (k + 1)) (by omega) ⟨k + 1, by omega, by omega, hF, h13, .refl _ _, by rw [part_start]; exact hS⟩ ?_
  rintro q fr' m' ⟨i, hiq, hki, ⟨f1, f2, f3, f4, f5, f6⟩, g13, ho, hSys⟩
  by_cases hi : i < N
  · simp [f1, f5, g13, hi]
    refine code_draw (sil := silF) (K.silent _) (K.parC _) (by kernel_rfl) ?_
    obtain ⟨kd, v, l, ρ, rw, hL, hC⟩ := id hSys
    have hcell := hL.cell
    obtain ⟨bA, hv1, _, _, hbA⟩ := hL.blk (k := 1) (by omega) (by omega) (by rw [hC.hd.1]; omega)
    rw [hC.hd.1] at hv1
    obtain ⟨_, _, hri⟩ := hL.row i hi
    obtain ⟨_, _, hrk⟩ := hL.row k hkN
    have hdi := hC.hd.2 i hi
    have hdk := hC.hd.2 k hkN
    have eik : (rw i)[k]? = some (.float .f64 (cOf (S.M i k))) := by rw [(hC.row i hi).2 k hkN]; show some (Value.float .f64 (cOf (part N S.M k i (k + 1) i k))) = _; rw [part_col]
    have ekk : (rw k)[k]? = some (.float .f64 (cOf (S.M k k))) := by rw [(hC.row k hkN).2 k hkN]; show some (Value.float .f64 (cOf (part N S.M k i (k + 1) k k))) = _; rw [part_top]
    have hwk := wrap_succ k (by omega)
    have hw := wrap_succ i (by omega)
    simp [f1, f4, f6, g13, hcell, rec5, hv1, lst, hbA, hdi, hdk, hri, hrk, eik, ekk, hwk, idx23 _ _ _ _ _ _ hi, idx23 _ _ _ _ _ _ hkN, idx24 _ _ _ _ _ _ hkN]
    refine row_loop K n (base := base) (r4 := r4) (s5 := s5) (N := N) (k := k) (i := i) (S := S) hki hi hN ⟨by simp [f1], by simp [f2], by simp [f3], by simp [f4], by simp [f5], by simp [f6]⟩ (by simp [g13]) (by simp) (by simp) (?_ : SysAt _ base s5 true N { S with M := part N S.M k i (k + 1) }) fun fr2 m2 hF2 g13' g14 ho2 hS2 => ?_
    · exact ⟨kd, v, l, ρ, rw, hL.same (by simp) (fun c => by simp), hC⟩
    clear hcell hv1 hbA hri hrk hdi hdk eik ekk hL hC
    obtain ⟨f1, f2, f3, f4, f5, f6⟩ := hF2
    obtain ⟨kd, v, l, ρ, rw, hL, hC⟩ := id hS2
    simp
    refine code_draw (sil := silF) (K.silent _) (K.parC _) (by kernel_rfl) ?_
    have hcell := hL.cell
    obtain ⟨bB, hv2, _, hbb, hbB⟩ := hL.blk (k := 2) (by omega) (by omega) (by rw [hC.rhs.1]; omega)
    rw [hC.rhs.1] at hv2
    have ei : (l 2)[i]? = some (.float .f64 (cOf (S.M i N))) := by rw [hC.rhs.2 i hi]; show some (Value.float .f64 (cOf (part N S.M k i N i N))) = _; rw [part_at]
    have ek : (l 2)[k]? = some (.float .f64 (cOf (S.M k N))) := by rw [hC.rhs.2 k hkN]; show some (Value.float .f64 (cOf (part N S.M k i N k N))) = _; rw [part_top]
    simp [f1, f4, f6, g13', g14, hcell, rec5, hv2, lst, hbB, ei, ek, idx24 _ _ _ _ _ _ hi, idx24 _ _ _ _ _ _ hkN]
    refine storeQ_one (cs := l 2) (sz := 1) (gr := true) (by simpa using hbB) (by simp [cellsV, oneV]) rfl (by rw [hC.rhs.1]; exact hi) fun m3 n3 _ e3 => ?_
    simp only [Mem.next_rd, Mem.at_rd] at n3 e3
    simp [f1, g13', hw]
    have hp : ∀ a b, a < N → b ≤ N → part N S.M k i (N + 1) a b = if a = i ∧ b = N then fsub (S.M i N) (fmul (fdiv (S.M i k) (S.M k k)) (S.M k N)) else part N S.M k i N a b := fun a b _ _ => by
      rw [← part_set N S.M hki hi hkN (Nat.le_refl _)]; rfl
    rw [part_row] at hp
    refine ⟨q - 1, by omega, i + 1, by omega, by omega, ⟨by simp [f1], by simp [f2], by simp [f3], by simp [f4], by simp [f5], by simp [f6]⟩, by simp, (ho.trans (fun c hc => ho2 c hc)).trans fun c hc => ?_, _, _, _, _, _, hL.setL (k := 2) (by omega) (by omega) (b := bB) (by rw [hC.rhs.1]; exact hv2) (by rw [hC.rhs.1]; omega) rfl i n3 e3, hC.setRhs hi _ hp⟩
    rw [e3, if_neg]
    omega
  · have : i = N := by omega
    subst this
    simp [f1, f5, g13]
    rw [part_end] at hSys
    exact hQ _ m' ⟨by simp [f1], by simp [f2], by simp [f3], by simp [f4], by simp [f5], by simp [f6]⟩ ho hSys

/-! ### The pivot's row -/
def pivI (m : Mem) (base r4 s5 N k : Nat) (S : Sys) (q : Nat) (fr : Fr) (m' : Mem) : Prop :=
  ∃ i, i + q = N ∧ k < i ∧ FB fr r4 s5 N k ∧ fr.at 10 = .int .i64 (i : Nat) ∧ fr.at 9 = .int .i64 (pickI S.M k i : Nat) ∧ Only m m'
set_option maxRecDepth 10000 in
theorem piv_loop {known : Known} (K : KN known) (n : Nat) {fr : Fr} {m : Mem} {base r4 s5 N k : Nat} {S : Sys} (hkN : k < N) (hN : N ≤ 128) (hF : FB fr r4 s5 N k) (h10 : fr.at 10 = .int .i64 ((k + 1 : Nat) : Int)) (h9 : fr.at 9 = .int .i64 (k : Nat))
    (hS : SysAt m base s5 true N S) {Q : CQ} (hQ : ∀ fr' m', FB fr' r4 s5 N k → fr'.at 9 = .int .i64 (pick N S.M k : Nat) → Only m m' → Q (.exit 4, fr') m') :
    Gives (codeX Try.prog (callN Try.prog known (n + 2)) (pPiv (bodyOf Try.f49)) fr) m Q := by
  refine via (X := .loop _) rfl ?_
  refine code_loop (pivI m base r4 s5 N k S) (N - (k + 1)) (by omega) ⟨k + 1, by omega, by omega, hF, h10, by rw [pickI_start]; exact h9, .refl _⟩ ?_
  rintro q fr' m' ⟨i, hiq, hki, ⟨f1, f2, f3, f4, f5, f6⟩, g10, g9, ho⟩
  by_cases hi : i < N
  · simp [f1, f5, g10, hi]
    refine code_draw (sil := silF) (K.silent _) (K.parC _) (by kernel_rfl) ?_
    obtain ⟨kd, v, l, ρ, rw, hL, hC⟩ := id hS
    have hL := hL.same (m' := m') (by rw [ho.1]; exact Nat.le_refl _) ho.2
    have hcell := hL.cell
    obtain ⟨bA, hv1, _, _, hbA⟩ := hL.blk (k := 1) (by omega) (by omega) (by rw [hC.hd.1]; omega)
    rw [hC.hd.1] at hv1
    have hpl := pickI_lt S.M hki
    obtain ⟨p, hp⟩ : ∃ p, p = pickI S.M k i := ⟨_, rfl⟩
    rw [← hp] at hpl g9
    have hpN : p < N := by omega
    obtain ⟨_, _, hri⟩ := hL.row i hi
    obtain ⟨_, _, hrp⟩ := hL.row p hpN
    have hdi := hC.hd.2 i hi
    have hdp := hC.hd.2 p hpN
    have eik := (hC.row i hi).2 k hkN
    have epk := (hC.row p hpN).2 k hkN
    have hw := wrap_succ i (by omega)
    have hstep := pickI_succ S.M hki
    rw [← hp] at hstep
    cases hg : fgt (fabs (S.M i k)) (fabs (S.M p k)) with
    | true =>
      rw [hg, if_pos rfl] at hstep
      simp [f1, f4, f6, g10, g9, hcell, rec5, hv1, lst, hbA, hdi, hdp, hri, hrp, eik, epk, hw, idx23 _ _ _ _ _ _ hi, idx23 _ _ _ _ _ _ hpN, idx24 _ _ _ _ _ _ hkN, gives_known (K.abs _), gives_ret, hg]
      refine ⟨q - 1, by omega, i + 1, by omega, by omega, ⟨by simp [f1], by simp [f2], by simp [f3], by simp [f4], by simp [f5], by simp [f6]⟩, by simp, by simp [hstep], ho.trans ⟨rfl, fun _ => rfl⟩⟩
    | false =>
      rw [hg, if_neg (by simp)] at hstep
      simp [f1, f4, f6, g10, g9, hcell, rec5, hv1, lst, hbA, hdi, hdp, hri, hrp, eik, epk, hw, idx23 _ _ _ _ _ _ hi, idx23 _ _ _ _ _ _ hpN, idx24 _ _ _ _ _ _ hkN, gives_known (K.abs _), gives_ret, hg]
      refine ⟨q - 1, by omega, i + 1, by omega, by omega, ⟨by simp [f1], by simp [f2], by simp [f3], by simp [f4], by simp [f5], by simp [f6]⟩, by simp, by simp [hstep, g9], ho.trans ⟨rfl, fun _ => rfl⟩⟩
  · have : i = N := by omega
    subst this
    rw [pickI_end] at g9
    simp [f1, f5, g10]
    exact hQ _ m' ⟨by simp [f1], by simp [f2], by simp [f3], by simp [f4], by simp [f5], by simp [f6]⟩ (by simp [g9]) ho
end Go.Proofs.Ytghhanifakllpaa
