/- Tracers in the clean executor: a round of tracer.steps. -/
import Derived.Test.YtjddmnfdnnbbhaaGreatU3Z
set_option linter.unusedSimpArgs false
set_option linter.unusedVariables false
namespace Go.Proofs.YtjddmnfdnnbbhaaGreat
open Go.Clean
/-- Memory that grows, and turns at X alone. -/
structure UpX (X : Nat → Prop) (m m' : Mem) : Prop where
  next : m.next ≤ m'.next
  old : ∀ c, c < m.next → ¬ X c → m'.at c = m.at c
  wf : MW m → MW m'
section
variable {X Y : Nat → Prop} {m m' m1 m2 : Mem}
theorem UpX.of (h : Up m m') : UpX X m m' := ⟨h.next, fun c hc _ => h.old c hc, h.wf⟩
theorem UpX.trans (h : UpX X m m1) (k : UpX X m1 m2) : UpX X m m2 := ⟨Nat.le_trans h.next k.next, fun c hc hx => (k.old c (Nat.lt_of_lt_of_le hc h.next) hx).trans (h.old c hc hx), fun w => k.wf (h.wf w)⟩
theorem UpX.mono (h : UpX X m m') (hx : ∀ c, c < m.next → X c → Y c) : UpX Y m m' := ⟨h.next, fun c hc hy => h.old c hc fun x => hy (hx c hc x), h.wf⟩
theorem UpX.at (h : UpX X m m') {b : Nat} {x : Blk} (hb : m.at b = some x) (hx : ¬ X b) (hw : MW m) : m'.at b = some x := by rw [h.old b (hw b x hb) hx]; exact hb
theorem UpX.wr (h : UpX X m m1) {b : Nat} {x : Blk} (hb : X b ∨ m.next ≤ b) (hb2 : b < m1.next) (hn : m'.next = m1.next) (e : ∀ c, m'.at c = if c = b then some x else m1.at c) : UpX X m m' :=
  ⟨by rw [hn]; exact h.next, fun c hc hx => by
    have hcb : c ≠ b := by
      rintro rfl
      rcases hb with hb | hb
      · exact hx hb
      · omega
    rw [e, if_neg hcb]; exact h.old c hc hx, fun w c y hc => by
    rw [hn]
    rw [e] at hc
    split at hc
    · omega
    · exact h.wf w c y hc⟩
theorem EL.upX {v : Value} {es : List El} (h : EL m v es) (hw : MW m) (hx : ∀ b n k, v = .slice (some ⟨b, 0, none⟩) n k → ¬ X b) (u : UpX X m m') : EL m' v es := by
  rcases h with h | ⟨h, b, gr, h1, h2⟩
  · exact .inl h
  · exact .inr ⟨h, b, gr, h1, u.at h2 (hx b _ _ h1) hw⟩
end
/-- The round's code behind yield. -/
noncomputable def rdC : Code := sR (inB (sL (sR (inB (inB (sR (sR (bodyOf Tryz.f30))))))))
/-- What the frame holds throughout. -/
structure RF (fr : Fr) (l p1 p2 p3 p4 bn c k : Nat) : Prop where
  n : fr.n = 58
  d : fr.d = []
  a0 : fr.at 0 = yieldV l
  a1 : fr.at 1 = ptr p1
  a2 : fr.at 2 = ptr p2
  a3 : fr.at 3 = ptr p3
  a4 : fr.at 4 = ptr p4
  a6 : fr.at 6 = .slice (some ⟨bn, 0, none⟩) c c
  a7 : fr.at 7 = .int .i64 (k : Nat)
def mixT (a b : Tr) (c i : Nat) : List Tr := List.replicate i b ++ List.replicate (c - i) a
theorem mixT_len (a b : Tr) {c i : Nat} (h : i ≤ c) : (mixT a b c i).length = c := by simp [mixT]; omega
theorem mixT_get (a b : Tr) {c i : Nat} (h : i < c) : (mixT a b c i)[i]? = some a := by
  unfold mixT
  rw [List.getElem?_append_right (by simp), List.length_replicate, Nat.sub_self, List.getElem?_replicate, if_pos (by omega)]
theorem mixT_get0 (a b : Tr) {c i : Nat} (h : i < c) : (mixT a b c 0)[i]? = some a := by
  unfold mixT
  rw [List.replicate_zero, List.nil_append, Nat.sub_zero, List.getElem?_replicate, if_pos h]
theorem mixT_set (a b : Tr) {c i : Nat} (h : i < c) : (mixT a b c i).set i b = mixT a b c (i + 1) := by
  unfold mixT
  obtain ⟨j, hj⟩ : ∃ j, c - i = j + 1 := ⟨c - i - 1, by omega⟩
  rw [hj, List.replicate_succ, show c - (i + 1) = j by omega, List.set_append, if_neg (by simp)]
  simp [List.replicate_succ']
theorem mixT_get' (a b : Tr) {c i : Nat} (h : i < c) : (mixT a b c (i + 1))[i]? = some b := by
  unfold mixT
  rw [List.getElem?_append_left (by simp)]
  simp
/-- A step that is one. -/
def Neq (a b : Tr) : Prop := binX Tryz.prog .neq 41 (.tmp 46) (.tmp 47) b.val a.val = some (.bool true)
structure RM (m0 m : Mem) (v : Value) (es : List El) (p3 p4 bn : Nat) : Prop where
  up : UpX (· = bn) m0 m
  b3 : m.at p3 = some ⟨[v], 1, false, false⟩
  b4 : m.at p4 = some ⟨ruL, 1, false, false⟩
  el : EL m v es
  hn : bn < m.next
theorem RM.to {m0 m m' : Mem} {v : Value} {es : List El} {p3 p4 bn : Nat} (h : RM m0 m v es p3 p4 bn) (hw : MW m0) (u : UpX (· = bn) m m') (h3 : p3 ≠ bn) (h4 : p4 ≠ bn) (he : ∀ b n k, v = .slice (some ⟨b, 0, none⟩) n k → b ≠ bn) : RM m0 m' v es p3 p4 bn :=
  have w := h.up.wf hw
  ⟨h.up.trans u, u.at h.b3 h3 w, u.at h.b4 h4 w, h.el.upX w he u, Nat.lt_of_lt_of_le h.hn u.next⟩
def rdI (m0 : Mem) (v : Value) (es : List El) (l p1 p2 p3 p4 bn c k : Nat) (a b : Tr) (j : Nat) (fr : Fr) (m' : Mem) : Prop := ∃ i, i + j = c ∧ RF fr l p1 p2 p3 p4 bn c k ∧ fr.at 24 = .slice (some ⟨bn, 0, none⟩) c c ∧ fr.at 25 = .int .i64 (c : Nat) ∧ fr.at 26 = .int .i64 (i : Nat) ∧
  fr.at 8 = .bool (decide (0 < i) && decide (a.w = 0)) ∧ RM m0 m' v es p3 p4 bn ∧ m'.at bn = some ⟨flatT (mixT a b c (if a.w = 0 then i else 0)), 3, true, false⟩
def rdR (m0 : Mem) (v : Value) (es : List El) (l p1 p2 p3 p4 bn c k : Nat) (a b : Tr) : CQ := fun r m' => r.1 = .exit 2 ∧ RF r.2 l p1 p2 p3 p4 bn c k ∧ r.2.at 8 = .bool (decide (0 < c) && decide (a.w = 0)) ∧ RM m0 m' v es p3 p4 bn ∧ m'.at bn = some ⟨flatT (mixT a b c (if a.w = 0 then c else 0)), 3, true, false⟩
section
set_option maxRecDepth 10000
set_option maxHeartbeats 4000000
theorem round_ok (d : Nat) {fr : Fr} {m0 : Mem} {v : Value} {es : List El} {l p1 p2 p3 p4 bn c k : Nat} {w : C} {a b : Tr} (hw : MW m0) (hF : RF fr l p1 p2 p3 p4 bn c k) (hM : RM m0 m0 v es p3 p4 bn) (hb : m0.at bn = some ⟨flatT (List.replicate c a), 3, true, false⟩)
    (h3 : p3 ≠ bn) (h4 : p4 ≠ bn) (he : ∀ b n k, v = .slice (some ⟨b, 0, none⟩) n k → b ≠ bn) (hc0 : 0 < c) (hc : c ≤ 4096) (hg : a.w = 0 → Goes es w a b ∧ Neq a b) {Q : CQ}
    (q0 : a.w = 0 → ∀ fr' m', RF fr' l p1 p2 p3 p4 bn c k → UpX (· = bn) m0 m' → m'.at bn = some ⟨flatT (List.replicate c b), 3, true, false⟩ → Q (.normal, fr') m')
    (q1 : a.w ≠ 0 → ∀ fr' m', RF fr' l p1 p2 p3 p4 bn c k → UpX (· = bn) m0 m' → Q (.ret, fr') m') :
    Gives (codeX Tryz.prog (callN Tryz.prog known (d + 13)) rdC fr) m0 Q := by
  refine via (X := .seq (.region _ _ _) _) rfl ?_
  have f1 := hF.n
  have f2 := hF.d
  have f0 := hF.a0
  have fp1 := hF.a1
  have fp2 := hF.a2
  have fp3 := hF.a3
  have fp4 := hF.a4
  have f6 := hF.a6
  have f7 := hF.a7
  simp [f1, f6]
  refine code_loop_post (rdR m0 v es l p1 p2 p3 p4 bn c k a b) (rdI m0 v es l p1 p2 p3 p4 bn c k a b) c (by omega) ⟨0, by simp, ⟨by simp [f1], by simp [f2], by simp [f0], by simp [fp1], by simp [fp2], by simp [fp3], by simp [fp4], by simp [f6], by simp [f7]⟩, by simp, by simp, by simp, by simp, hM, by simpa [mixT] using hb⟩ ?_ ?_
  · clear f1 f2 f0 fp1 fp2 fp3 fp4 f6 f7
    rintro j f m2 ⟨i, hik, F, f24, f25, f26, f8, M, hb2⟩
    have f1 := F.n
    have f2 := F.d
    have f0 := F.a0
    have fp1 := F.a1
    have fp2 := F.a2
    have fp3 := F.a3
    have fp4 := F.a4
    have f6 := F.a6
    have f7 := F.a7
    have w2 := M.up.wf hw
    by_cases hi : i < c
    · have hget : (mixT a b c (if a.w = 0 then i else 0))[i]? = some a := by
        split
        · exact mixT_get a b hi
        · exact mixT_get0 a b hi
      simp [f1, f2, f24, f25, f26, hi, idx_T _ _ _ _ hi, hb2, ld_T hget, zero_tr]
      refine storeQ_rule (y := ⟨tr0.cells, 1, false, false⟩) (by simp) rfl (by rw [sto_Tr]; simp) (l := a.cells) rfl fun m4 n4 l4 e4 => ?_
      simp only [Mem.next_rd, Mem.next_nw, Mem.at_rd, Mem.at_nw] at n4 e4
      have u4 : Up m2 m4 := Up.wr (m1 := (m2.rd bn).nw ⟨tr0.cells, 1, false, false⟩) (Up.trans (Up.rd _ _) (Up.nw _ _)) (Nat.le_refl _) (by simp) (by simpa using n4) (fun c => by simpa using e4 c)
      have e5 : m4.at m2.next = some ⟨a.cells, 1, false, false⟩ := by rw [e4, if_pos rfl]
      have M4 := M.to hw (UpX.of u4) h3 h4 he
      have hb4 := u4.at hb2 w2
      have w4 := M4.up.wf hw
      have hlt : m2.next < m4.next := by omega
      clear e4 l4
      by_cases ha : a.w = 0
      · obtain ⟨hgo, hneq⟩ := hg ha
        have hneq' : binX Tryz.prog .neq 41 (.tmp 46) (.tmp 47) b.val a.val = some (.bool true) := hneq
        simp [f1, e5, ha, fp3, fp4, f6, ptr, M4.b3, M4.b4]
        have uM : Up m4 ((((m4.rd m2.next).rd p3).rd m2.next).rd p4) := Up.same (by simp) fun c => by simp
        have M5 := M4.to hw (UpX.of uM) h3 h4 he
        refine stepped_ok (d + 1) (M5.up.wf hw) M5.el hgo fun m6 u6 => ?_
        have u46 := uM.trans u6
        have M6 := M5.to hw (UpX.of u6) h3 h4 he
        have hb6 := u46.at hb4 w4
        have c6 := u46.at e5 w4
        have hlt6 : m2.next < m6.next := Nat.lt_of_lt_of_le hlt u46.next
        have w6 := M6.up.wf hw
        have hne : m2.next ≠ bn := Nat.ne_of_gt M.hn
        clear uM u46 hb4 u4 e5 M5 u6
        have hset := lay_flatT (mixT a b c (if a.w = 0 then i else 0)) i b (by rw [if_pos ha, mixT_len a b (by omega)]; exact hi)
        rw [if_pos ha, mixT_set a b hi] at hset
        rw [if_pos ha] at hb6
        simp [f1, idx_T _ _ _ _ hi]
        refine storeQ_rule (y := ⟨flatT (mixT a b c i), 3, true, false⟩) hb6 rfl (by rw [sto_Tr]; simp) (l := flatT (mixT a b c (i + 1))) hset fun m7 n7 l7 e7 => ?_
        have u7 : UpX (· = bn) m6 m7 := (UpX.of (Up.refl m6)).wr (.inl rfl) M6.hn n7 e7
        have M7 := M6.to hw u7 h3 h4 he
        have hb7 : m7.at bn = some ⟨flatT (mixT a b c (i + 1)), 3, true, false⟩ := by rw [e7, if_pos rfl]
        have c7 := u7.at c6 hne w6
        have f8' : f.at 8 = .bool (decide (0 < i)) := by rw [f8, decide_eq_true ha, Bool.and_true]
        have hld := ld_T (mixT_get' a b hi)
        clear e7 l7 hset hb6 c6
        simp [f1]
        refine code_draw_dyn (plan := [0, 1, 3, 3, 15, 31, 3, 127, 255, 511]) (by kernel_rfl) ?_
        have hx := idx_T bn c c i hi
        by_cases hi0 : 0 < i
        · simp [drawQ, apartAll, apartL, Nat.testBit, f1, f8', hi0, f26, yieldX, boolOf_bool, wrap_succ i (by omega)]
          exact ⟨c - (i + 1), by omega, i + 1, by omega, ⟨by simp [f1], by simp [f2], by simp [f0], by simp [fp1], by simp [fp2], by simp [fp3], by simp [fp4], by simp [f6], by simp [f7]⟩, by simp [f24], by simp [f25], by simp, by simp [ha], M7.to hw (UpX.of (Up.same (by simp) fun c => by simp)) h3 h4 he, by simpa [ha] using hb7⟩
        · obtain rfl : i = 0 := by omega
          simp only [Nat.zero_mul, Int.natCast_zero, Nat.zero_add] at hx hb7 hld
          simp [drawQ, apartAll, apartL, Nat.testBit, f1, f8', f6, f26, hx, hb7, hld, c7, hneq' , yieldX, boolOf_bool, wr1]
          exact ⟨c - 1, by omega, 1, by omega, ⟨by simp [f1], by simp [f2], by simp [f0], by simp [fp1], by simp [fp2], by simp [fp3], by simp [fp4], by simp [f6], by simp [f7]⟩, by simp [f24], by simp [f25], by simp, by simp [ha], M7.to hw (UpX.of (Up.same (by simp) fun c => by simp)) h3 h4 he, by simpa [ha] using hb7⟩
      · have M5 : RM m0 (m4.rd m2.next) v es p3 p4 bn := M4.to hw (UpX.of (Up.rd _ _)) h3 h4 he
        simp [f1, f26, e5, ha, wrap_succ i (by omega)]
        exact ⟨c - (i + 1), by omega, i + 1, by omega, ⟨by simp [f1], by simp [f2], by simp [f0], by simp [fp1], by simp [fp2], by simp [fp3], by simp [fp4], by simp [f6], by simp [f7]⟩, by simp [f24], by simp [f25], by simp, by simp [f8, ha], M5, by simpa [ha] using hb4⟩
    · obtain rfl : i = c := by omega
      simp [f1, f2, f25, f26]
      exact ⟨rfl, ⟨by simp [f1], by simp [f2], by simp [f0], by simp [fp1], by simp [fp2], by simp [fp3], by simp [fp4], by simp [f6], by simp [f7]⟩, by simpa using f8, M, hb2⟩
  · clear f1 f2 f0 fp1 fp2 fp3 fp4 f6 f7
    rintro ⟨e, f⟩ m2 ⟨he', F, f8, M, hb2⟩
    obtain rfl : e = .exit 2 := he'
    simp only at F f8
    have f1 := F.n
    have f2 := F.d
    have f0 := F.a0
    have fp1 := F.a1
    have fp2 := F.a2
    have fp3 := F.a3
    have fp4 := F.a4
    have f6 := F.a6
    have f7 := F.a7
    by_cases ha : a.w = 0
    · have f8' : f.at 8 = .bool true := by rw [f8, decide_eq_true ha, decide_eq_true hc0]; rfl
      rw [if_pos ha] at hb2
      simp [f1, f8', yieldX, boolOf_bool]
      exact q0 ha _ _ ⟨by simp [f1], by simp [f2], by simp [f0], by simp [fp1], by simp [fp2], by simp [fp3], by simp [fp4], by simp [f6], by simp [f7]⟩ M.up (by simpa [mixT] using hb2)
    · have f8' : f.at 8 = .bool false := by rw [f8, decide_eq_false ha, Bool.and_false]
      rw [if_neg ha] at hb2
      simp [f1, f8', f6, yieldX, boolOf_bool]
      have hl : LT m2 (.slice (some ⟨bn, 0, none⟩) c c) bn c c (mixT a b c 0) := ⟨rfl, by rw [mixT_len a b (by omega)]; exact Nat.le_refl _, _, hb2⟩
      refine left_ok (z := false) _ (M.up.wf hw) hl hc (fun i hi => ⟨a, mixT_get0 a b hi, by simpa using ha⟩) fun m3 u3 => ?_
      simp [f1, yieldX, boolOf_bool]
      exact q1 ha _ _ ⟨by simp [f1], by simp [f2], by simp [f0], by simp [fp1], by simp [fp2], by simp [fp3], by simp [fp4], by simp [f6], by simp [f7]⟩ (M.up.trans (UpX.of u3))
end
end Go.Proofs.YtjddmnfdnnbbhaaGreat

/- Tracers in the clean executor: tracer.steps goes through the steps, whoever asks. -/
namespace Go.Clean
open Go Go.RowKit
theorem at_put {args : List Value} {n i : Nat} {v : Value} (hi : args[i]? = some v) : (⟨putArgs args 0 .leaf, n, []⟩ : Fr).at i = v := by
  show ((putArgs args 0 .leaf).get i).getD undef = v
  have hlt : i < args.length := (List.getElem?_eq_some_iff.1 hi).1
  rw [putArgs_get, if_pos (by omega)]
  simp only [Nat.sub_zero, hi]; rfl
theorem finX_nil {P : Program} {base : Nat} {fn : Func} {fr : Fr} {m : Mem} {Q : Value → Mem → Prop} (hd : fr.d = []) (h : Gives (do
    let vs ← resX P fr fn.results.toList
    match vs with
    | [v] => M.ret v
    | vs => M.ret (Value.tuple ⟨vs⟩)) m Q) : Gives (finX P base fn fr) m Q := by
  unfold finX endX
  dsimp only
  rw [gives_bind, hd]
  unfold runDX
  rw [gives_ret]
  exact h
theorem finT_none {σ : Type} {P : Program} {base : Nat} {fn : Func} {fr : Fr} {m : Mem} {Q : σ → Value → Mem → Prop} {e : Ex} {s : σ} (hr : fn.results.toList = []) (hd : fr.d = []) (he : e = .normal ∨ e = .ret) (h : Q s (.tuple ⟨[]⟩) m) : finT P base fn Q e s fr m := by
  refine ⟨he, finX_nil hd ?_⟩
  rw [hr, gives_bind]
  exact (gives_ret _ _ _).2 ((gives_ret _ _ _).2 h)
end Go.Clean
namespace Go.Proofs.YtjddmnfdnnbbhaaGreat
open Go Go.RowKit Go.Clean
variable {σ : Type}
theorem UpX.own {X : Nat → Prop} {m0 m m' : Mem} {bn : Nat} (h : UpX X m0 m) (k : UpX (· = bn) m m') (hb : m0.next ≤ bn) : UpX X m0 m' :=
  ⟨Nat.le_trans h.next k.next, fun c hc hx => (k.old c (Nat.lt_of_lt_of_le hc h.next) (by omega)).trans (h.old c hc hx), fun w => k.wf (h.wf w)⟩
/-- What the iterator has at hand. -/
structure IT (X : Nat → Prop) (m0 : Mem) (v : Value) (es : List El) (p1 p2 p3 p4 : Nat) (vl : Value) (bl c cap : Nat) (ts : List Tr) (n : Nat) : Prop where
  wf : MW m0
  x0 : ∀ x, X x → x < m0.next
  b1 : m0.at p1 = some ⟨[vl], 1, false, false⟩
  b2 : m0.at p2 = some ⟨[.int .i64 n], 1, false, false⟩
  b3 : m0.at p3 = some ⟨[v], 1, false, false⟩
  b4 : m0.at p4 = some ⟨ruL, 1, false, false⟩
  lt : LT m0 vl bl c cap ts
  el : EL m0 v es
  x1 : ¬ X p1
  x2 : ¬ X p2
  x3 : ¬ X p3
  x4 : ¬ X p4
  xe : ∀ b n k, v = .slice (some ⟨b, 0, none⟩) n k → ¬ X b
structure GoesBy (es : List El) (tr : Nat → Tr) (n : Nat) : Prop where
  step : ∀ k, k ≤ n → (tr k).w = 0 → (∃ w, Goes es w (tr k) (tr (k + 1))) ∧ Neq (tr k) (tr (k + 1))
def stepsI (X : Nat → Prop) (m0 : Mem) (l p1 p2 p3 p4 c n : Nat) (tr : Nat → Tr) (Cn : Nat → σ → Mem → Prop) (j : Nat) (t : Bool × σ) (fr : Fr) (m : Mem) : Prop := ∃ k s1 bn, j + k = n + 1 ∧ t = (true, s1) ∧ RF fr l p1 p2 p3 p4 bn c k ∧ UpX X m0 m ∧ m0.next ≤ bn ∧ bn < m.next ∧
  m.at bn = some ⟨flatT (List.replicate c (tr k)), 3, true, false⟩ ∧ ∀ m'', Up m m'' → Cn k s1 m''
section
set_option maxRecDepth 10000
set_option maxHeartbeats 4000000
theorem steps_ok {B : Go.Clean.Start Tryz.prog (Bool × σ)} (hB : B.OK) {base : Nat} {X : Nat → Prop} {m0 : Mem} {v : Value} {es : List El} {p1 p2 p3 p4 : Nat} {vl : Value} {bl c cap : Nat} {ts : List Tr} {n l : Nat} {tr : Nat → Tr} {s : σ} {cd : Code} {fn : Func}
    (hfn : Tryz.prog.funcs[30]? = some fn) (hcd : fn.body = some cd)
    (h : IT X m0 v es p1 p2 p3 p4 vl bl c cap ts n) (hts : ∀ i, i < c → ts[i]? = some (tr 0)) (hc0 : 0 < c) (hc : c ≤ 4096) (hn : n ≤ 16384) (hg : GoesBy es tr n) (Cn : Nat → σ → Mem → Prop) (Dn : σ → Mem → Prop) (hs : ∀ m1, Up m0 m1 → Cn 0 s m1)
    (hY : ∀ k s1 mi v' b', k ≤ n → Cn k s1 mi → UpX X m0 mi → OT m0 mi v' b' (List.replicate c (tr k)) → ∀ Q' : Bool → Bool × σ → Mem → Prop, (∀ s' m', UpX X mi m' → (∀ m'', UpX (fun x => m0.next ≤ x ∧ x ≠ b') m' m'' → Cn (k + 1) s' m'') → Q' true (true, s') m') → (∀ s' m', UpX X mi m' → Dn s' m' → Q' false (false, s') m') → TY B l [.int .i64 k, v'] (true, s1) mi Q')
    {F : Bool × σ → Mem → Prop} (hF1 : ∀ k s' m', k ≤ n → (k = n ∨ (tr k).w ≠ 0) → Cn (k + 1) s' m' → UpX X m0 m' → F (true, s') m') (hF2 : ∀ s' m', Dn s' m' → UpX X m0 m' → F (false, s') m') :
    TS B none cd (true, s) ⟨putArgs (yieldV l :: [ptr p1, ptr p2, ptr p3, ptr p4]) 0 .leaf, fn.ntmps, []⟩ m0 (finT Tryz.prog base fn fun t _ m' => F t m') := by
  obtain rfl : Tryz.f30 = fn := by
    have := Tryz.func30
    rw [this] at hfn
    exact Option.some.inj hfn
  have hcd' : Tryz.f30.body = some (bodyOf Tryz.f30) := rfl
  rw [hcd'] at hcd
  obtain rfl := Option.some.inj hcd
  have hbody : ∃ c, bodyOf Tryz.f30 = c := ⟨_, rfl⟩
  obtain ⟨cc, hcc⟩ := hbody
  generalize hfr : (⟨putArgs (yieldV l :: [ptr p1, ptr p2, ptr p3, ptr p4]) 0 .leaf, (Tryz.f30).ntmps, []⟩ : Fr) = fr
  have f1 : fr.n = 58 := by rw [← hfr]; exact Tryz.ntmps30
  have f2 : fr.d = [] := by rw [← hfr]
  have f0 : fr.at 0 = yieldV l := by rw [← hfr]; exact at_put rfl
  have fp1 : fr.at 1 = ptr p1 := by rw [← hfr]; exact at_put rfl
  have fp2 : fr.at 2 = ptr p2 := by rw [← hfr]; exact at_put rfl
  have fp3 : fr.at 3 = ptr p3 := by rw [← hfr]; exact at_put rfl
  have fp4 : fr.at 4 = ptr p4 := by rw [← hfr]; exact at_put rfl
  clear hfr
  have tk : ts.take c = List.replicate c (tr 0) := by
    apply List.ext_getElem?
    intro i
    rw [List.getElem?_take, List.getElem?_replicate]
    split
    · rename_i hi; exact hts i hi
    · rfl
  have E := exec_ok 20
  refine TS.seq (TS.gives E hB (.inl rfl) ?_)
  simp [f1, fp1, ptr, h.b1]
  refine cloneT_ok _ ((Up.rd m0 p1).wf h.wf) (h.lt.up h.wf (Up.rd _ _)) hc0 (by omega) fun m1 v1 bn u1 o1 => ?_
  rw [tk] at o1
  obtain ⟨rfl, o2, o3, o4⟩ := o1
  have u1' := (Up.rd m0 p1).trans u1
  simp only [List.length_replicate, Mem.next_rd] at o2 o3 o4 ⊢
  simp [f1]
  refine TS.seq (TS.gives E hB (.inl rfl) ?_)
  simp [f1]
  refine TS.block (TS.loop (stepsI X m0 l p1 p2 p3 p4 c n tr Cn) (n + 1) ⟨0, s, bn, by omega, rfl, ⟨by simp [f1], by simp [f2], by simp [f0], by simp [fp1], by simp [fp2], by simp [fp3], by simp [fp4], by simp, by simp⟩, UpX.of u1', o2, o3, o4, fun m'' u => hs _ (u1'.trans u)⟩ ?_)
  clear f1 f2 f0 fp1 fp2 fp3 fp4 o2 o3 o4 u1 u1' hs
  rintro j t f m2 ⟨k, s1, bb, hjk, rfl, Fr, U, g1, g2, g3, hC⟩
  have f1 := Fr.n
  have f2 := Fr.d
  have f0 := Fr.a0
  have fp1 := Fr.a1
  have fp2 := Fr.a2
  have fp3 := Fr.a3
  have fp4 := Fr.a4
  have f6 := Fr.a6
  have f7 := Fr.a7
  have w2 := U.wf h.wf
  have hb2 := U.at h.b2 h.x2 h.wf
  refine TS.seq (TS.gives E hB (.inl rfl) ?_)
  by_cases hk : k ≤ n
  · have hkn : (k : Int) ≤ (n : Int) := by omega
    simp [f1, f7, fp2, ptr, hb2, hkn, hk]
    have uu : Up m2 (m2.rd p2) := Up.rd _ _
    refine TS.seq (TS.block ?_)
    refine TS.seq (TS.seq (TS.region ?_))
    refine TO.step E hB (.inl rfl) ?_
    simp [f1, f0]
    refine TO.step E hB (.inl rfl) ?_
    simp [f1, f7]
    refine TO.step E hB (.inl rfl) ?_
    simp [f1, f6]
    refine TO.step E hB (.inl rfl) ?_
    simp [f1]
    have l2 : LT (m2.rd p2) (.slice (some ⟨bb, 0, none⟩) c c) bb c c (List.replicate c (tr k)) := ⟨rfl, by simp, true, by simpa using g3⟩
    refine cloneT_ok _ ((Up.rd m2 p2).wf w2) l2 hc0 (by omega) fun m3 v3 b3 u3 o3 => ?_
    rw [List.take_of_length_le (by simp)] at o3
    have u23 := uu.trans u3
    have U3 := U.trans (UpX.of u23)
    have g3' := u23.at g3 w2
    have hb3 : b3 ≠ bb := by have := o3.lo; simp only [Mem.next_rd] at this; omega
    have o3' : OT m0 m3 v3 b3 (List.replicate c (tr k)) := ⟨o3.v, Nat.le_trans U.next (by have := o3.lo; simpa using this), o3.hi, o3.at_⟩
    simp [f1]
    refine TO.yield hB (Link.refl B) (ly := l) (vs := [.int .i64 k, v3]) (by simp) (by simp) (by simp [f1]) ?_
    refine hY k s1 m3 v3 b3 hk (hC m3 u23) U3 o3' _ (fun s' m4 u4 c4 => ?_) (fun s' m4 u4 d4 => ?_)
    · refine TO.gives E hB (.inl rfl) ?_
      simp [f1]
      refine TS.cond (b := false) (by simp [f1]) ?_
      simp only [Bool.false_eq_true, if_false]
      refine TS.skip ?_
      simp only [seqT_normal]
      have U4 := U3.trans u4
      have xbb : ¬ X bb := fun hx => by have := h.x0 bb hx; omega
      have w3 := U3.wf h.wf
      have w4 := U4.wf h.wf
      have g4 := u4.at g3' xbb w3
      have h3 : p3 ≠ bb := fun he => by have := h.wf p3 _ h.b3; omega
      have h4 : p4 ≠ bb := fun he => by have := h.wf p4 _ h.b4; omega
      have he : ∀ b n k, v = .slice (some ⟨b, 0, none⟩) n k → b ≠ bb := fun b n' k' hv hbb => by
        rcases h.el with ⟨-, hv'⟩ | ⟨-, b', gr, hv', hat⟩
        · rw [hv'] at hv; cases hv
        · rw [hv] at hv'
          have : b = b' := by injection hv' with h1; injection h1 with h1; injection h1
          have := h.wf b' _ hat
          omega
      have M4 : RM m4 m4 v es p3 p4 bb := ⟨UpX.of (Up.refl m4), U4.at h.b3 h.x3 h.wf, U4.at h.b4 h.x4 h.wf, h.el.upX h.wf h.xe U4, Nat.lt_of_lt_of_le (Nat.lt_of_lt_of_le g2 u23.next) u4.next⟩
      have hstep : ∃ w, (tr k).w = 0 → Goes es w (tr k) (tr (k + 1)) ∧ Neq (tr k) (tr (k + 1)) := by
        by_cases hz : (tr k).w = 0
        · obtain ⟨⟨w, h1⟩, h2⟩ := hg.step k hk hz
          exact ⟨w, fun _ => ⟨h1, h2⟩⟩
        · exact ⟨(some 0, some 0), fun hz' => absurd hz' hz⟩
      obtain ⟨w, hstep⟩ := hstep
      refine TS.gives E hB (.inl rfl) (via (X := rdC) rfl (round_ok 7 (l := l) (p1 := p1) (p2 := p2) (k := k) w4 ⟨by simp [f1], by simp [f2], by simp [f0], by simp [fp1], by simp [fp2], by simp [fp3], by simp [fp4], by simp [f6], by simp [f7]⟩ M4 g4 h3 h4 he hc0 hc hstep ?_ ?_))
      · intro hz f' m5 F5 u5 g5
        simp
        have h1 := F5.n
        have h2 := F5.d
        have h0 := F5.a0
        have hp1 := F5.a1
        have hp2 := F5.a2
        have hp3 := F5.a3
        have hp4 := F5.a4
        have h6 := F5.a6
        have h7 := F5.a7
        refine TS.gives E hB (.inl rfl) ?_
        simp [h1, h7, wrap_succ k (by omega)]
        exact ⟨n - k, by omega, k + 1, s', bb, by omega, rfl, ⟨by simp [h1], by simp [h2], by simp [h0], by simp [hp1], by simp [hp2], by simp [hp3], by simp [hp4], by simp [h6], by simp⟩, U4.own u5 g1, g1, Nat.lt_of_lt_of_le M4.hn u5.next, g5, fun m'' u => c4 m'' ((u5.mono fun x _ hx => ⟨by omega, by omega⟩).trans (UpX.of u))⟩
      · intro hz f' m5 F5 u5
        simp
        exact finT_none rfl F5.d (.inr rfl) (hF1 k s' m5 hk (.inr hz) (c4 m5 (u5.mono fun x _ hx => ⟨by omega, by omega⟩)) (U4.own u5 g1))
    · refine TO.gives E hB (.inl rfl) ?_
      simp [f1]
      refine TS.cond (b := true) (by simp [f1]) ?_
      simp only [if_true]
      refine TS.ret ?_
      simp
      exact finT_none rfl (by simp [f2]) (.inr rfl) (hF2 s' m4 d4 (U3.trans u4))
  · obtain rfl : k = n + 1 := by omega
    have hkn : ¬ (n : Int) + 1 ≤ (n : Int) := by omega
    simp [f1, f7, fp2, ptr, hb2, hkn]
    exact finT_none rfl (by simp [f2]) (.inl rfl) (hF1 n s1 _ (Nat.le_refl _) (.inl rfl) (hC _ (Up.rd _ _)) (U.trans (UpX.of (Up.rd _ _))))
end
end Go.Proofs.YtjddmnfdnnbbhaaGreat

/- Tracers in the clean executor: tracer.steps, tracer.Run. -/
namespace Go.Proofs.YtjddmnfdnnbbhaaGreat
open Go Go.RowKit Go.Clean
def itF (p1 p2 p3 p4 : Nat) : Value := .func (.func 30) ⟨[]⟩ ⟨[ptr p1, ptr p2, ptr p3, ptr p4]⟩
section
set_option maxRecDepth 10000
set_option maxHeartbeats 2000000
theorem mkSteps_ok (d : Nat) {m : Mem} {v vl : Value} {n : Nat} (hv : oneV v = true) (hl : oneV vl = true) (hlc : cellsV vl = [vl]) {Q : Value → Mem → Prop}
    (hQ : ∀ m' p1 p2 p3 p4, Up m m' → m.next ≤ p1 → m.next ≤ p2 → m.next ≤ p3 → m.next ≤ p4 → m'.at p1 = some ⟨[vl], 1, false, false⟩ → m'.at p2 = some ⟨[.int .i64 n], 1, false, false⟩ → m'.at p3 = some ⟨[v], 1, false, false⟩ → m'.at p4 = some ⟨ruL, 1, false, false⟩ → Q (itF p1 p2 p3 p4) m') :
    Gives (callN Tryz.prog known (d + 1) 15 [.agg ⟨[v]⟩, vl, ruV, .int .i64 n]) m Q := by
  refine gives_fn (nt := 10) rfl Tryz.func15 rfl rfl rfl (Nat.le_of_ble_eq_true rfl) fun fr hn hd hargs => ?_
  have h0 : fr.at 0 = _ := hargs 0 _ rfl
  have h1 : fr.at 1 = _ := hargs 1 _ rfl
  have h2 : fr.at 2 = _ := hargs 2 _ rfl
  have h3 : fr.at 3 = _ := hargs 3 _ rfl
  clear hargs
  simp [h0, h1, h2, h3, hn, hd, hv, hl, hlc]
  exact hQ _ (m.next + 1) (m.next + 1 + 1 + 1) m.next (m.next + 1 + 1) ((Up.nw _ _).trans ((Up.nw _ _).trans ((Up.nw _ _).trans (Up.nw _ _)))) (by omega) (by omega) (by omega) (by omega) (by simp [show ¬ m.next + 1 = m.next + 1 + 1 + 1 by omega]) (by simp) (by simp [show ¬ m.next = m.next + 1 + 1 by omega, show ¬ m.next = m.next + 1 + 1 + 1 by omega]) (by simp)
end
end Go.Proofs.YtjddmnfdnnbbhaaGreat
