/- The document's steps, in the clean executor: the main loop. -/
import Derived.Test.YtghhanifakllpaaY6
namespace Go.Proofs.Ytghhanifakllpaa
open Go.Clean

section
variable {m m' : Mem} {kd : Nat → Nat} {base s5 : Nat} {v : Nat → Value} {l : Nat → List Value} {ok : Bool} {n : Nat} {ρ : Nat → Nat} {rw : Nat → List Value}
/-- A list is turned. -/
theorem Lay.putL (h : Lay m kd base s5 v l ok n ρ rw) {k : Nat} (h1 : 1 ≤ k) (h5 : k ≤ 5) {b : Nat} (hv : v k = lst b (l k).length) (hne : 0 < (l k).length) {L : List Value} (hx : L.all oneV = true) (hL : L.length = (l k).length) (hn : m'.next = m.next) (e : ∀ c, m'.at c = if c = b then some ⟨L, 1, true, false⟩ else m.at c) :
    Lay m' kd base s5 v (fun q => if q = k then L else l q) ok n ρ rw := by
  obtain ⟨b', hv', hb1, hb2, hb3⟩ := h.blk h1 h5 hne
  obtain rfl : b = b' := by rw [hv] at hv'; unfold lst at hv'; simpa using hv'
  have hlt := h.wf b _ hb3
  have ne : ∀ c, kd c ≠ k → m'.at c = m.at c := fun c hc => by rw [e, if_neg (fun hh => hc (by rw [hh]; exact hb1))]
  refine ⟨fun c y hc => ?_, by rw [ne s5 (by have := h.own.1; omega)]; exact h.cell, h.own, fun q q1 q5 => ?_, fun i hi => ?_, h.inj⟩
  · rw [hn]
    rw [e] at hc
    split at hc
    · subst_vars; exact hlt
    · exact h.wf c y hc
  · by_cases hq : q = k
    · subst hq
      simp only [if_true]
      refine ⟨hx, .inr ⟨?_, b, by rw [hL]; exact hv, hb1, hb2, by rw [e, if_pos rfl]⟩⟩
      intro h0
      have := congrArg List.length h0
      rw [hL] at this
      simp at this
      rw [this] at hne; simp at hne
    · simp only [if_neg hq]
      obtain ⟨h0, hg⟩ := h.gl q q1 q5
      refine ⟨h0, ?_⟩
      rcases hg with hg | ⟨hg1, b2, hg2, hg3, hg4, hg5⟩
      · exact .inl hg
      · exact .inr ⟨hg1, b2, hg2, hg3, hg4, by rw [ne b2 (by omega)]; exact hg5⟩
  · obtain ⟨r1, r2, r3⟩ := h.row i hi
    exact ⟨r1, r2, by rw [ne _ (by omega)]; exact r3⟩
end
theorem set2_one {L : List Value} (h : L.all oneV = true) {x y : Value} (hx : oneV x = true) (hy : oneV y = true) (i j : Nat) : ((L.set i x).set j y).all oneV = true := by
  rw [List.all_eq_true]
  intro u hu
  rcases List.mem_or_eq_of_mem_set hu with hu | hu
  · rcases List.mem_or_eq_of_mem_set hu with hu | hu
    · exact List.all_eq_true.1 h u hu
    · rw [hu]; exact hx
  · rw [hu]; exact hy
/-- Two places of a list change. -/
theorem swap_get {N : Nat} {L : List Value} {g : Nat → Value} (hl : L.length = N) (h : ∀ i, i < N → L[i]? = some (g i)) {k p : Nat} (hk : k < N) (hp : p < N) {i : Nat} (hi : i < N) : ((L.set k (g p)).set p (g k))[i]? = some (g (sw k p i)) := by
  rw [List.getElem?_set, List.getElem?_set]
  unfold sw
  by_cases h1 : p = i
  · subst h1
    rw [if_pos rfl, if_pos (by rw [List.length_set, hl]; exact hp)]
    by_cases h2 : p = k
    · subst h2; simp
    · rw [if_neg h2, if_pos rfl]
  · rw [if_neg h1]
    by_cases h2 : k = i
    · subst h2
      rw [if_pos rfl, if_pos (by rw [hl]; exact hk), if_pos rfl]
    · rw [if_neg h2, if_neg (fun hh => h2 hh.symm), if_neg (fun hh => h1 hh.symm)]
      exact h i hi
theorem Cont.swapped {N : Nat} {S : Sys} {l : Nat → List Value} {ρ : Nat → Nat} {rw : Nat → List Value} (h : Cont l ρ rw N S) {k p : Nat} (hk : k < N) (hp : p < N) {l' : Nat → List Value}
    (e1 : l' 1 = ((l 1).set k (.slice (some ⟨ρ p, 0, none⟩) N N)).set p (.slice (some ⟨ρ k, 0, none⟩) N N)) (e2 : l' 2 = ((l 2).set k (.float .f64 (cOf (S.M p N)))).set p (.float .f64 (cOf (S.M k N)))) (e3 : l' 3 = ((l 3).set k (.int .i64 (S.first p : Nat))).set p (.int .i64 (S.first k : Nat))) (e4 : l' 4 = l 4) (e5 : l' 5 = l 5) :
    Cont l' (fun i => ρ (sw k p i)) (fun i => rw (sw k p i)) N { S with M := swapM S.M k p, first := swapM S.first k p } := by
  refine ⟨⟨by rw [e1]; simp [h.hd.1], fun i hi => ?_⟩, fun i hi => h.row _ (sw_lt hk hp hi), ⟨by rw [e2]; simp [h.rhs.1], fun i hi => ?_⟩, ⟨by rw [e3]; simp [h.ord.1], fun i hi => ?_⟩, by rw [e4]; exact h.piv, by rw [e5]; exact h.odd⟩
  · rw [e1]; exact swap_get (g := fun i => .slice (some ⟨ρ i, 0, none⟩) N N) h.hd.1 h.hd.2 hk hp hi
  · rw [e2]; exact swap_get (g := fun i => .float .f64 (cOf (S.M i N))) h.rhs.1 h.rhs.2 hk hp hi
  · rw [e3]; exact swap_get (g := fun i => .int .i64 (S.first i : Nat)) h.ord.1 h.ord.2 hk hp hi

theorem Lay.frame {m m' : Mem} {kd : Nat → Nat} {base s5 : Nat} {v : Nat → Value} {l : Nat → List Value} {ok : Bool} {n : Nat} {ρ : Nat → Nat} {rw : Nat → List Value} (h : Lay m kd base s5 v l ok n ρ rw) (hw : WF m') (e : ∀ c, base ≤ c → m'.at c = m.at c) : Lay m' kd base s5 v l ok n ρ rw :=
  ⟨hw, by rw [e _ h.own.2]; exact h.cell, h.own, fun k h1 h5 => by
    obtain ⟨h0, hg⟩ := h.gl k h1 h5
    refine ⟨h0, ?_⟩
    rcases hg with hg | ⟨hg1, b, hg2, hg3, hg4, hg5⟩
    · exact .inl hg
    · exact .inr ⟨hg1, b, hg2, hg3, hg4, by rw [e b hg4]; exact hg5⟩, fun i hi => by
    obtain ⟨h1, h2, h3⟩ := h.row i hi
    exact ⟨h1, h2, by rw [e _ h2]; exact h3⟩, h.inj⟩
theorem lay_all : ∀ (cs vs : List Value), cs.length = vs.length → lay cs 0 vs = some vs
  | [], [], _ => rfl
  | [], _ :: _, h => by simp at h
  | _ :: _, [], h => by simp at h
  | c :: cs, v :: vs, h => by rw [lay, lay_all cs vs (by simpa using h)]; rfl
@[simp] theorem bin_feq0 {P : Program} {t : TypeId} {xo yo : Operand} (x : F) : binX P .eql t xo yo (.float .f64 (cOf x)) (.float .f64 0) = some (.bool (feq x fzero)) := by
  have := bin_feq (P := P) (t := t) (xo := xo) (yo := yo) x fzero
  rwa [cOf_zero] at this

theorem oneV_v {m : Mem} {kd : Nat → Nat} {base s5 : Nat} {v : Nat → Value} {l : Nat → List Value} {ok : Bool} {n : Nat} {ρ : Nat → Nat} {rw : Nat → List Value} (h : Lay m kd base s5 v l ok n ρ rw) : oneV (v 1) = true ∧ oneV (v 2) = true ∧ oneV (v 3) = true ∧ oneV (v 4) = true ∧ oneV (v 5) = true := by
  have key : ∀ k, 1 ≤ k → k ≤ 5 → oneV (v k) = true := fun k h1 h5 => by
    rcases (h.gl k h1 h5).2 with ⟨_, hg⟩ | ⟨_, b, hg, _⟩ <;> rw [hg] <;> rfl
  exact ⟨key 1 (by omega) (by omega), key 2 (by omega) (by omega), key 3 (by omega) (by omega), key 4 (by omega) (by omega), key 5 (by omega) (by omega)⟩
def mainI (m : Mem) (base r4 s5 N : Nat) (R : Sys × Bool) (q : Nat) (fr : Fr) (m' : Mem) : Prop :=
  ∃ k S, k + q = N ∧ FB fr r4 s5 N k ∧ Old base m m' ∧ SysAt m' base s5 true N S ∧ goS N q k S = R ∧ S.piv.length = k ∧ S.odd.length = k
set_option maxHeartbeats 400000 in
set_option maxRecDepth 10000 in
theorem main_loop {known : Known} (K : KN known) (n : Nat) {fr : Fr} {m : Mem} {base r4 s5 N : Nat} {S : Sys} (hN : N ≤ 128) (hF : FB fr r4 s5 N 0) (hr4 : ∃ y, m.at r4 = some ⟨y, 1, false, false⟩ ∧ y.length = 6) (hr4b : r4 < base)
    (hS : SysAt m base s5 true N S) (hS0 : S.piv.length = 0 ∧ S.odd.length = 0) {Q : CQ} (hQ1 : ∀ fr' m' k, FB fr' r4 s5 N k → Old base m m' → SysAt m' base s5 true N (goS N N 0 S).1 → (goS N N 0 S).2 = true → Q (.exit 2, fr') m')
    (hQ2 : ∀ fr' m' k kd v l ρ rw, FB fr' r4 s5 N k → (∀ c, c < base → c ≠ r4 → m'.at c = m.at c) → Lay m' kd base s5 v l false N ρ rw → Cont l ρ rw N (goS N N 0 S).1 → m'.at r4 = some (rec5 v false) → (goS N N 0 S).2 = false → Q (.ret, fr') m') :
    Gives (codeX Try.prog (callN Try.prog known (n + 2)) (pMain (bodyOf Try.f49)) fr) m Q := by
  refine via (X := .loop _) rfl ?_
  obtain ⟨R, hR⟩ : ∃ R, R = goS N N 0 S := ⟨_, rfl⟩
  rw [← hR] at hQ1 hQ2
  refine code_loop (mainI m base r4 s5 N R) N (by omega) ⟨0, S, by omega, hF, .refl _ _, hS, hR.symm, hS0.1, hS0.2⟩ ?_
  clear hF hS0 hS hR S
  clear fr
  rintro q fr' m' ⟨k, S, hkq, ⟨f1, f2, f3, f4, f5, f6⟩, ho, hSys, hgo, hlp, hlo⟩
  by_cases hk : k < N
  · have hwk := wrap_succ k (by omega)
    simp [f1, f5, f6, hk, hwk]
    refine piv_loop K n (base := base) (r4 := r4) (s5 := s5) (N := N) (k := k) (S := S) hk hN ⟨by simp [f1], by simp [f2], by simp [f3], by simp [f4], by simp [f5], by simp [f6]⟩ (by simp) (by simp [f6]) hSys fun fr2 m2 hF2 g9 ho2 => ?_
    clear f1 f2 f3 f4 f5 f6
    obtain ⟨f1, f2, f3, f4, f5, f6⟩ := hF2
    obtain ⟨p, hp⟩ : ∃ p, p = pick N S.M k := ⟨_, rfl⟩
    have hpl := pick_lt S.M hk
    rw [← hp] at g9 hpl
    have hpN : p < N := hpl.2
    obtain ⟨kd, v, l, ρ, rw, hL, hC⟩ := id hSys
    have hL := hL.same (m' := m2) (by rw [ho2.1]; exact Nat.le_refl _) ho2.2
    have hcell := hL.cell
    obtain ⟨bA, hv1, _, _, hbA⟩ := hL.blk (k := 1) (by omega) (by omega) (by rw [hC.hd.1]; omega)
    rw [hC.hd.1] at hv1
    obtain ⟨_, _, hrp⟩ := hL.row p hpN
    have hdp := hC.hd.2 p hpN
    have epk := (hC.row p hpN).2 k hk
    simp [f1, f4, f6, g9, hcell, rec5, hv1, lst, hbA, hdp, hrp, epk, idx23 _ _ _ _ _ _ hpN, idx24 _ _ _ _ _ _ hk]
    refine gives_build1 bs24 rfl rfl ?_
    simp [f1]
    have hbne : (!decide ((p : Int) = (k : Int))) = (p != k) := by
      by_cases h : p = k
      · simp [h]
      · have : ¬ (p : Int) = (k : Int) := by omega
        simp [h, this, bne]
    have hs5 := hL.wf _ _ hcell
    have hbs := hL.own.2
    refine hL.append (k := 4) (by omega) (by omega) (by omega) app24 (x := fv (S.M p k)) rfl (by rw [hC.piv]; simp; omega) ?_ ?_ ?_ fun m3 n3 s3 o3 mk3 => ?_
    · simp
    · simp [fv]
    · intro c hc; simp [hc]
    simp [f1, f4, lst]
    refine storeQ_one (cs := [v 1, v 2, v 3, v 4, v 5, .bool true]) (sz := 1) (gr := false) (by simpa [rec5] using s3) (by simp [cellsV, oneV]) rfl (by simp) fun m4 n4 _ e4 => ?_
    have hL4 := mk3 m4 _ n4 rfl (fun c => by rw [e4]; simp [rec5, lst])
    have ho4 : Old base m m4 := (ho.trans fun c hc => ho2.2 c).trans fun c hc => by rw [e4, if_neg (by omega), o3 c hc]
    obtain ⟨v4, hv4⟩ : ∃ v4, v4 = fun j => if j = 4 then lst (m2.next + 1) ((l 4).length + 1) else v j := ⟨_, rfl⟩
    rw [← hv4] at hL4
    have hc4 := hL4.cell
    clear e4 mk3 o3 s3
    simp [f1, f4, f6, g9, hc4, rec5]
    refine gives_build1 bs77 rfl rfl ?_
    simp [f1]
    refine hL4.append (k := 5) (by omega) (by omega) (by omega) app77 (x := .bool (p != k)) rfl (by simp [hC.odd]; omega) ?_ ?_ ?_ fun m5 n5 s5' o5 mk5 => ?_
    · simp
    · rw [Mem.at_nw, if_pos (by simp), hbne]
    · intro c hc; simp [hc]
    simp [f1, f4, lst]
    refine storeQ_one (cs := [v4 1, v4 2, v4 3, v4 4, v4 5, .bool true]) (sz := 1) (gr := false) (by simpa [rec5] using s5') (by simp [cellsV, oneV]) rfl (by simp) fun m6 n6 _ e6 => ?_
    have hL6 := mk5 m6 _ n6 rfl (fun c => by rw [e6]; simp [rec5, lst])
    have ho6 : Old base m m6 := ho4.trans fun c hc => by rw [e6, if_neg (by omega), o5 c hc]
    obtain ⟨v6, hv6⟩ : ∃ v6, v6 = fun j => if j = 5 then lst (m4.next + 1) (((fun j => if j = 4 then l 4 ++ [fv (S.M p k)] else l j) 5).length + 1) else v4 j := ⟨_, rfl⟩
    rw [← hv6] at hL6
    obtain ⟨l6, hl6⟩ : ∃ l6 : Nat → List Value, l6 = fun j => if j = 5 then (fun j => if j = 4 then l 4 ++ [fv (S.M p k)] else l j) 5 ++ [.bool (p != k)] else (fun j => if j = 4 then l 4 ++ [fv (S.M p k)] else l j) j := ⟨_, rfl⟩
    rw [← hl6] at hL6
    have hc6 := hL6.cell
    have hC6 : Cont l6 ρ rw N (noteS N k S) := by
      refine ⟨by rw [hl6]; simpa using hC.hd, hC.row, by rw [hl6]; simpa [noteS] using hC.rhs, by rw [hl6]; simpa [noteS] using hC.ord, ?_, ?_⟩
      · rw [hl6]; simp [noteS, hC.piv, hp]
      · rw [hl6]; simp [noteS, hC.odd, hp]
    clear e6 mk5 o5 s5' hcell hbA hv1 hrp hdp epk
    have hbad : bad (S.M (pick N S.M k) k) = (feq (S.M p k) fzero || !ffin (S.M p k)) := by rw [← hp]; rfl
    cases hq : feq (S.M p k) fzero with
    | true =>
      have hgoR : R = (noteS N k S, false) := by
        rw [← hgo, show q = (q - 1) + 1 by omega, goS, if_pos (by rw [hbad, hq]; rfl)]
      obtain ⟨y4, hy4, hy4l⟩ := hr4
      simp [f1, f4, gives_fin K, yieldX, hq]
      refine storeQ_one (cs := [v6 1, v6 2, v6 3, v6 4, v6 5, .bool true]) (sz := 1) (gr := false) (by simpa [rec5] using hc6) (by simp [cellsV, oneV]) rfl (by simp) fun m7 n7 _ e7 => ?_
      have hL7 := hL6.setOk false n7 (fun c => by rw [e7]; simp [rec5])
      have hc7 := hL7.cell
      have ho7 : Old base m m7 := ho6.trans fun c hc => by rw [e7, if_neg (by omega)]
      simp [f1, f3, f4, hc7, rec5, ld88, takeN]
      refine storeQ_rule (y := ⟨y4, 1, false, false⟩) (by simp [ho7 r4 hr4b, hy4]) rfl ?_ (lay_all _ _ (by rw [hy4l]; rfl)) fun m8 n8 _ e8 => ?_
      · have h7 := fun k => (hL7.gl k)
        simp [oneV_v hL7]
        simp [oneV]
      simp only [Mem.next_rd, Mem.at_rd] at n8 e8
      simp
      have hw8 : WF m8 := fun c x hc => by
        rw [n8]
        rw [e8] at hc
        split at hc
        · have := hL7.wf s5 _ hc7; omega
        · exact hL7.wf c x hc
      refine hQ2 _ m8 k _ _ _ _ _ ⟨by simp [f1], by simp [f2], by simp [f3], by simp [f4], by simp [f5], by simp [f6]⟩ (fun c hc hc4 => by rw [e8, if_neg hc4]; exact ho7 c hc) (hL7.frame hw8 fun c hc => by rw [e8, if_neg (by omega)]) (by rw [hgoR]; exact hC6) (by rw [e8, if_pos rfl]; rfl) (by rw [hgoR])
    | false =>
      cases hf : ffin (S.M p k) with
      | false =>
        have hgoR : R = (noteS N k S, false) := by
          rw [← hgo, show q = (q - 1) + 1 by omega, goS, if_pos (by rw [hbad, hq, hf]; rfl)]
        obtain ⟨y4, hy4, hy4l⟩ := hr4
        simp [f1, f4, gives_fin K, yieldX, hq, hf]
        refine storeQ_one (cs := [v6 1, v6 2, v6 3, v6 4, v6 5, .bool true]) (sz := 1) (gr := false) (by simpa [rec5] using hc6) (by simp [cellsV, oneV]) rfl (by simp) fun m7 n7 _ e7 => ?_
        have hL7 := hL6.setOk false n7 (fun c => by rw [e7]; simp [rec5])
        have hc7 := hL7.cell
        have ho7 : Old base m m7 := ho6.trans fun c hc => by rw [e7, if_neg (by omega)]
        simp [f1, f3, f4, hc7, rec5, ld88, takeN]
        refine storeQ_rule (y := ⟨y4, 1, false, false⟩) (by simp [ho7 r4 hr4b, hy4]) rfl ?_ (lay_all _ _ (by rw [hy4l]; rfl)) fun m8 n8 _ e8 => ?_
        · have h7 := fun k => (hL7.gl k)
          simp [oneV_v hL7]
          simp [oneV]
        simp only [Mem.next_rd, Mem.at_rd] at n8 e8
        simp
        have hw8 : WF m8 := fun c x hc => by
          rw [n8]
          rw [e8] at hc
          split at hc
          · have := hL7.wf s5 _ hc7; omega
          · exact hL7.wf c x hc
        refine hQ2 _ m8 k _ _ _ _ _ ⟨by simp [f1], by simp [f2], by simp [f3], by simp [f4], by simp [f5], by simp [f6]⟩ (fun c hc hc4 => by rw [e8, if_neg hc4]; exact ho7 c hc) (hL7.frame hw8 fun c hc => by rw [e8, if_neg (by omega)]) (by rw [hgoR]; exact hC6) (by rw [e8, if_pos rfl]; rfl) (by rw [hgoR])
      | true =>
        have hgoR : R = goS N (q - 1) (k + 1) (stepS N k S) := by
          rw [← hgo, show q = (q - 1) + 1 by omega, goS, if_neg (by rw [hbad, hq, hf]; simp)]
          rfl
        simp [f1, gives_fin K, yieldX, hq, hf]
        -- the rows change places
        refine code_draw_dyn (plan := [0, 1, 0, 0, 8, 0, 0, 64, 0, 448, 960, 0, 2048, 0, 14336, 30720, 65479, 131015, 262143, 524287]) (by kernel_rfl) ?_
        obtain ⟨bA, hv1, hkA, _, hbA⟩ := hL6.blk (k := 1) (by omega) (by omega) (by rw [hC6.hd.1]; omega)
        rw [hC6.hd.1] at hv1
        have hdp := hC6.hd.2 p hpN
        have hdk := hC6.hd.2 k hk
        have hne : ¬ bA = s5 := fun h => by have := hL6.own.1; rw [h] at hkA; omega
        have hne' : ¬ s5 = bA := fun h => hne h.symm
        simp [f1, f4, f6, g9, hc6, rec5, hv1, lst, hbA, hdp, hdk, idx23 _ _ _ _ _ _ hpN, idx23 _ _ _ _ _ _ hk, drawQ, apartAll, apartL]
        refine storeQ_one (cs := l6 1) (sz := 1) (gr := true) (by simpa using hbA) (by simp [cellsV, oneV]) rfl (by rw [hC6.hd.1]; exact hk) fun m7 n7 g7 e7 => ?_
        simp only [Mem.next_rd, Mem.at_rd, Mem.next_lg, Mem.at_lg, Mem.log_lg] at n7 e7 g7
        simp [f1, f4, f6, g9, g7, hne, hne', idx23 _ _ _ _ _ _ hpN, drawQ, apartAll, apartL, Nat.testBit]
        refine storeQ_one (cs := (l6 1).set k (.slice (some ⟨ρ p, 0, none⟩) N N)) (sz := 1) (gr := true) (by simp [e7]) (by simp [cellsV, oneV]) rfl (by rw [List.length_set, hC6.hd.1]; exact hpN) fun m8 n8 _ e8 => ?_
        simp only [Mem.next_rd, Mem.at_rd, Mem.next_lg, Mem.at_lg, Mem.log_lg] at n8 e8
        obtain ⟨l8, hl8⟩ : ∃ l8 : Nat → List Value, l8 = fun q => if q = 1 then ((l6 1).set k (.slice (some ⟨ρ p, 0, none⟩) N N)).set p (.slice (some ⟨ρ k, 0, none⟩) N N) else l6 q := ⟨_, rfl⟩
        have hL8 := hL6.putL (m' := m8) (k := 1) (by omega) (by omega) (b := bA) (by rw [hC6.hd.1]; exact hv1) (by rw [hC6.hd.1]; omega) (set2_one (hL6.gl 1 (by omega) (by omega)).1 (x := .slice (some ⟨ρ p, 0, none⟩) N N) (y := .slice (some ⟨ρ k, 0, none⟩) N N) rfl rfl k p) (by simp) (by rw [n8, n7]) (fun c => by rw [e8, e7]; by_cases h : c = bA <;> simp [h])
        rw [← hl8] at hL8
        have ho8 : Old base m m8 := ho6.trans fun c hc => by rw [e8, e7, if_neg (by omega), if_neg (by omega)]
        have hc8 := hL8.cell
        clear e7 e8 hbA g7
        simp [drawQ, apartAll, apartL, Nat.testBit]
        -- the right sides change places
        refine code_draw_dyn (plan := [0, 1, 0, 0, 8, 0, 0, 64, 0, 448, 960, 0, 2048, 0, 14336, 30720, 65479, 131015, 262143, 524287]) (by kernel_rfl) ?_
        have e82 : l8 2 = l6 2 := by rw [hl8]; rfl
        obtain ⟨bB, hv2, hkB, hbB0, hbB⟩ := hL8.blk (k := 2) (by omega) (by omega) (by rw [e82, hC6.rhs.1]; omega)
        rw [e82, hC6.rhs.1] at hv2
        rw [e82] at hbB
        have hdp2 : (l6 2)[p]? = some (.float .f64 (cOf (S.M p N))) := hC6.rhs.2 p hpN
        have hdk2 : (l6 2)[k]? = some (.float .f64 (cOf (S.M k N))) := hC6.rhs.2 k hk
        have hneB : ¬ bB = s5 := fun h => by have := hL8.own.1; rw [h] at hkB; omega
        have hneB' : ¬ s5 = bB := fun h => hneB h.symm
        simp [f1, f4, f6, g9, hc8, rec5, hv2, lst, hbB, hdp2, hdk2, idx24 _ _ _ _ _ _ hpN, idx24 _ _ _ _ _ _ hk, drawQ, apartAll, apartL]
        refine storeQ_one (cs := l6 2) (sz := 1) (gr := true) (by simpa using hbB) (by simp [cellsV, oneV]) rfl (by rw [hC6.rhs.1]; exact hk) fun m9 n9 g9' e9 => ?_
        simp only [Mem.next_rd, Mem.at_rd, Mem.next_lg, Mem.at_lg, Mem.log_lg] at n9 e9 g9'
        simp [f1, f4, f6, g9, g9', hneB, hneB', idx24 _ _ _ _ _ _ hpN, drawQ, apartAll, apartL, Nat.testBit]
        refine storeQ_one (cs := (l6 2).set k (.float .f64 (cOf (S.M p N)))) (sz := 1) (gr := true) (by simp [e9]) (by simp [cellsV, oneV]) rfl (by rw [List.length_set, hC6.rhs.1]; exact hpN) fun m10 n10 _ e10 => ?_
        simp only [Mem.next_rd, Mem.at_rd, Mem.next_lg, Mem.at_lg, Mem.log_lg] at n10 e10
        obtain ⟨l10, hl10⟩ : ∃ l10 : Nat → List Value, l10 = fun q => if q = 2 then ((l6 2).set k (.float .f64 (cOf (S.M p N)))).set p (.float .f64 (cOf (S.M k N))) else l8 q := ⟨_, rfl⟩
        have hL10 := hL8.putL (m' := m10) (k := 2) (by omega) (by omega) (b := bB) (by rw [e82, hC6.rhs.1]; exact hv2) (by rw [e82, hC6.rhs.1]; omega) (set2_one (hL6.gl 2 (by omega) (by omega)).1 (x := .float .f64 (cOf (S.M p N))) (y := .float .f64 (cOf (S.M k N))) rfl rfl k p) (by simp [e82]) (by rw [n10, n9]) (fun c => by rw [e10, e9]; by_cases h : c = bB <;> simp [h])
        rw [← hl10] at hL10
        have ho10 : Old base m m10 := ho8.trans fun c hc => by rw [e10, e9, if_neg (by omega), if_neg (by omega)]
        have hc10 := hL10.cell
        clear e9 e10 hbB g9'
        simp [drawQ, apartAll, apartL, Nat.testBit]
        -- the rows' numbers change places
        refine code_draw_dyn (plan := [0, 1, 0, 0, 8, 0, 0, 64, 0, 448, 960, 0, 2048, 0, 14336, 30720, 65479, 131015, 262143, 524287]) (by kernel_rfl) ?_
        have e103 : l10 3 = l6 3 := by rw [hl10, hl8]; rfl
        obtain ⟨bR, hv3, hkR, hbR0, hbR⟩ := hL10.blk (k := 3) (by omega) (by omega) (by rw [e103, hC6.ord.1]; omega)
        rw [e103, hC6.ord.1] at hv3
        rw [e103] at hbR
        have hdp3 : (l6 3)[p]? = some (.int .i64 (S.first p : Nat)) := hC6.ord.2 p hpN
        have hdk3 : (l6 3)[k]? = some (.int .i64 (S.first k : Nat)) := hC6.ord.2 k hk
        have hneR : ¬ bR = s5 := fun h => by have := hL10.own.1; rw [h] at hkR; omega
        have hneR' : ¬ s5 = bR := fun h => hneR h.symm
        simp [f1, f4, f6, g9, hc10, rec5, hv3, lst, hbR, hdp3, hdk3, idx29 _ _ _ _ _ _ hpN, idx29 _ _ _ _ _ _ hk, drawQ, apartAll, apartL]
        refine storeQ_one (cs := l6 3) (sz := 1) (gr := true) (by simpa using hbR) (by simp [cellsV, oneV]) rfl (by rw [hC6.ord.1]; exact hk) fun m11 n11 g11 e11 => ?_
        simp only [Mem.next_rd, Mem.at_rd, Mem.next_lg, Mem.at_lg, Mem.log_lg] at n11 e11 g11
        simp [f1, f4, f6, g9, g11, hneR, hneR', idx29 _ _ _ _ _ _ hpN, drawQ, apartAll, apartL, Nat.testBit]
        refine storeQ_one (cs := (l6 3).set k (.int .i64 (S.first p : Nat))) (sz := 1) (gr := true) (by simp [e11]) (by simp [cellsV, oneV]) rfl (by rw [List.length_set, hC6.ord.1]; exact hpN) fun m12 n12 _ e12 => ?_
        simp only [Mem.next_rd, Mem.at_rd, Mem.next_lg, Mem.at_lg, Mem.log_lg] at n12 e12
        obtain ⟨l12, hl12⟩ : ∃ l12 : Nat → List Value, l12 = fun q => if q = 3 then ((l6 3).set k (.int .i64 (S.first p : Nat))).set p (.int .i64 (S.first k : Nat)) else l10 q := ⟨_, rfl⟩
        have hL12 := hL10.putL (m' := m12) (k := 3) (by omega) (by omega) (b := bR) (by rw [e103, hC6.ord.1]; exact hv3) (by rw [e103, hC6.ord.1]; omega) (set2_one (hL6.gl 3 (by omega) (by omega)).1 (x := .int .i64 (S.first p : Nat)) (y := .int .i64 (S.first k : Nat)) rfl rfl k p) (by simp [e103]) (by rw [n12, n11]) (fun c => by rw [e12, e11]; by_cases h : c = bR <;> simp [h])
        rw [← hl12] at hL12
        have ho12 : Old base m m12 := ho10.trans fun c hc => by rw [e12, e11, if_neg (by omega), if_neg (by omega)]
        clear e11 e12 hbR g11
        simp [drawQ, apartAll, apartL, Nat.testBit, f1, f6, hwk]
        have hCs : Cont l12 (fun i => ρ (sw k p i)) (fun i => rw (sw k p i)) N { noteS N k S with M := swapM S.M k p, first := swapM S.first k p } := by
          refine hC6.swapped hk hpN ?_ ?_ ?_ ?_ ?_
          · rw [hl12, hl10, hl8]; rfl
          · rw [hl12, hl10]; rfl
          · rw [hl12]; rfl
          · rw [hl12, hl10, hl8]; rfl
          · rw [hl12, hl10, hl8]; rfl
        have hLs := hL12.swap hk hpN
        obtain ⟨S', hS'⟩ : ∃ S' : Sys, S' = { noteS N k S with M := swapM S.M k p, first := swapM S.first k p } := ⟨_, rfl⟩
        rw [← hS'] at hCs
        have hSS : ∀ m' : Mem, m'.next = m12.next → (∀ c, m'.at c = m12.at c) → SysAt m' base s5 true N S' := fun m' h1 h2 => ⟨_, _, _, _, _, hLs.same (by rw [h1]; exact Nat.le_refl _) h2, hCs⟩
        refine via (X := pElim (bodyOf Try.f49)) (by kernel_rfl) (elim_loop K n (base := base) (r4 := r4) (s5 := s5) (N := N) (k := k) (S := S') hk hN ⟨by simp [f1], by simp [f2], by simp [f3], by simp [f4], by simp [f5], by simp [f6]⟩ ?_ (hSS _ ?_ ?_) fun fr3 m13 hF3 ho13 hS13 => ?_)
        · simp
        · rfl
        · intro c; rfl
        obtain ⟨f1, f2, f3, f4, f5, f6⟩ := hF3
        simp [f1, f6, hwk]
        refine ⟨q - 1, by omega, k + 1, stepS N k S, by omega, ⟨by simp [f1], by simp [f2], by simp [f3], by simp [f4], by simp [f5], by simp⟩, ho12.trans ho13, ?_, hgoR.symm, ?_, ?_⟩
        · rw [hS'] at hS13
          unfold stepS
          rw [← hp]
          exact hS13
        · simp [stepS, noteS, hlp]
        · simp [stepS, noteS, hlo]
  · have hk' : k = N := by omega
    have hq0 : q = 0 := by omega
    subst hq0
    have hgoR : R = (S, true) := by rw [← hgo]; rfl
    simp [f1, f5, f6, hk]
    refine hQ1 _ m' k ⟨by simp [f1], by simp [f2], by simp [f3], by simp [f4], by simp [f5], by simp [f6]⟩ ho ?_ ?_
    · rw [hgoR]; exact hSys
    · rw [hgoR]
end Go.Proofs.Ytghhanifakllpaa
