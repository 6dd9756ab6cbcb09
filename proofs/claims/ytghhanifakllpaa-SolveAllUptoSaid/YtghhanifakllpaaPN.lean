/- The law SolveAll, in the clean executor: behind the calls. -/
import Derived.Test.YtghhanifakllpaaPK
namespace Go.Proofs.Ytghhanifakllpaa
open Go.Clean

variable {known : Known}
def sRn : Nat → Code → Code
  | 0, c => c
  | n + 1, c => sRn n (sR c)
theorem FL.keep {m m' : Mem} {v : Value} {xs : List F} (h : FL m v xs) (e : ∀ a n c, v = .slice (some a) n c → ∀ x, m.at a.block = some x → m'.at a.block = m.at a.block) : FL m' v xs := by
  obtain ⟨a, c, rfl, h2⟩ := h
  refine ⟨a, c, rfl, ?_⟩
  rcases h2 with h2 | ⟨b, o, x, rfl, e2, e3⟩
  · exact .inl h2
  · exact .inr ⟨b, o, x, rfl, by rw [e _ _ _ rfl x e2]; exact e2, e3⟩
theorem IL.keep {m m' : Mem} {v : Value} {xs : List Nat} (h : IL m v xs) (e : ∀ a n c, v = .slice (some a) n c → m'.at a.block = m.at a.block) : IL m' v xs := by
  obtain ⟨a, c, rfl, h2⟩ := h
  refine ⟨a, c, rfl, ?_⟩
  rcases h2 with h2 | ⟨b, o, x, rfl, e2, e3⟩
  · exact .inl h2
  · exact .inr ⟨b, o, x, rfl, by rw [e _ _ _ rfl]; exact e2, e3⟩

/-! ### The last three regions -/
def boolOf : Value → Option Bool
  | .bool b => some b
  | _ => none
theorem boolOf_bool (b : Bool) : boolOf (.bool b) = some b := by simp [boolOf]
theorem region_hid {P : Program} {call : Caller} {id : Nat} {ops : Array Oper} {fr : Fr} {m : Mem} {Q : CQ} (h : ∀ ops' : Array Oper, ops' = ops → Gives (stepsX P call ops' ops.toList fr) m (regQ Q)) : Gives (codeX P call (.region id ops false) fr) m Q := (code_region id ops fr m Q).2 (h ops rfl)
section
variable {P : Program} {call : Caller} {ops : Array Oper} {l : List Oper} {fr : Fr} {m : Mem} {Q : Fr → Mem → Prop} {p a b tp ta tb te tk i B : Nat} {ty1 ty2 ty3 ty4 ty5 tt uu : TypeId} {pos1 pos2 pos3 pos4 pos5 : String} {af1 af2 af3 af4 af5 : Array Edge} {e : Int}
theorem grp_and (hy : ∀ fr, yieldX ops fr i = boolOf (fr.at tp)) (hn : tp < fr.n ∧ ta < fr.n ∧ tk < fr.n) (hB : B ≤ tp ∧ B ≤ ta ∧ B ≤ tk ∧ tp ≠ ta ∧ a ≠ tp) (hp : fr.at p = .bool true) (ha : fr.at a = .bool true)
    (h : ∀ fr', fr'.n = fr.n → fr'.d = fr.d → fr'.at tk = .bool true → (∀ t, t < B → fr'.at t = fr.at t) → Gives (stepsX P call ops l fr') m Q) :
    Gives (stepsX P call ops (⟨some tp, .move (.tmp p), ty1, pos1, af1, none⟩ :: ⟨some ta, .move (.tmp a), ty2, pos2, af2, some (i, true)⟩ :: ⟨some tk, .pick (.tmp tp) (.tmp ta) (.const (.bool false)), ty3, pos3, af3, none⟩ :: l) fr) m Q := by
  obtain ⟨h1, h2, h3, h4, h5⟩ := hB
  simp [hn, hy, hp, ha, boolOf_bool, h4, h5]
  refine h _ (by simp) (by simp) (by simp) fun t ht => ?_
  simp only [Fr.at_upd]
  rw [if_neg (by omega), if_neg (by omega), if_neg (by omega)]
theorem grp_eq (hy : ∀ fr, yieldX ops fr i = boolOf (fr.at tp)) (hn : tp < fr.n ∧ ta < fr.n ∧ tb < fr.n ∧ te < fr.n ∧ tk < fr.n) (hB : B ≤ tp ∧ B ≤ ta ∧ B ≤ tb ∧ B ≤ te ∧ B ≤ tk ∧ tp ≠ ta ∧ tp ≠ tb ∧ tp ≠ te ∧ ta ≠ tb ∧ a ≠ tp ∧ b ≠ tp ∧ b ≠ ta) (hp : fr.at p = .bool true) (ha : fr.at a = .int .i64 e) (hb : fr.at b = .int .i64 e)
    (h : ∀ fr', fr'.n = fr.n → fr'.d = fr.d → fr'.at tk = .bool true → (∀ t, t < B → fr'.at t = fr.at t) → Gives (stepsX P call ops l fr') m Q) :
    Gives (stepsX P call ops (⟨some tp, .move (.tmp p), ty1, pos1, af1, none⟩ :: ⟨some ta, .move (.tmp a), ty2, pos2, af2, some (i, true)⟩ :: ⟨some tb, .move (.tmp b), ty3, pos3, af3, some (i, true)⟩ :: ⟨some te, .binOp .eql tt (.tmp ta) (.tmp tb) uu, ty4, pos4, af4, some (i, true)⟩ :: ⟨some tk, .pick (.tmp tp) (.tmp te) (.const (.bool false)), ty5, pos5, af5, none⟩ :: l) fr) m Q := by
  obtain ⟨h1, h2, h3, h4, h5, h6, h7, h8, h9, h10, h11, h12⟩ := hB
  simp [hn, hy, hp, ha, hb, boolOf_bool, h6, h7, h8, h9, h10, h11, h12]
  refine h _ (by simp) (by simp) (by simp) fun t ht => ?_
  simp only [Fr.at_upd]
  rw [if_neg (by omega), if_neg (by omega), if_neg (by omega), if_neg (by omega), if_neg (by omega)]
theorem grp_call {f : FuncId} {va vb : Value} {R : Mem → Prop} {ts : Array TypeId} (hy : ∀ fr, yieldX ops fr i = boolOf (fr.at tp)) (hn : tp < fr.n ∧ ta < fr.n ∧ tb < fr.n ∧ te < fr.n ∧ tk < fr.n) (hB : B ≤ tp ∧ B ≤ ta ∧ B ≤ tb ∧ B ≤ te ∧ B ≤ tk ∧ tp ≠ ta ∧ tp ≠ tb ∧ tp ≠ te ∧ ta ≠ tb ∧ a ≠ tp ∧ b ≠ tp ∧ b ≠ ta) (hp : fr.at p = .bool true) (ha : fr.at a = va) (hb : fr.at b = vb)
    (hc : Gives (call f [va, vb]) m fun v m' => v = .bool true ∧ R m')
    (h : ∀ fr' m', fr'.n = fr.n → fr'.d = fr.d → fr'.at tk = .bool true → (∀ t, t < B → fr'.at t = fr.at t) → R m' → Gives (stepsX P call ops l fr') m' Q) :
    Gives (stepsX P call ops (⟨some tp, .move (.tmp p), ty1, pos1, af1, none⟩ :: ⟨some ta, .move (.tmp a), ty2, pos2, af2, some (i, true)⟩ :: ⟨some tb, .move (.tmp b), ty3, pos3, af3, some (i, true)⟩ :: ⟨some te, .call ⟨.value (.func f), #[.tmp ta, .tmp tb], ts⟩, ty4, pos4, af4, some (i, true)⟩ :: ⟨some tk, .pick (.tmp tp) (.tmp te) (.const (.bool false)), ty5, pos5, af5, none⟩ :: l) fr) m Q := by
  obtain ⟨h1, h2, h3, h4, h5, h6, h7, h8, h9, h10, h11, h12⟩ := hB
  simp [hn, hy, hp, ha, hb, boolOf_bool, h6, h7, h8, h9, h10, h11, h12]
  refine hc.mono fun v m' hv => ?_
  obtain ⟨rfl, hR⟩ := hv
  simp [hn, hy, hp, boolOf_bool, h6, h7, h8]
  refine h _ m' (by simp) (by simp) (by simp) (fun t ht => ?_) hR
  simp only [Fr.at_upd]
  rw [if_neg (by omega), if_neg (by omega), if_neg (by omega), if_neg (by omega), if_neg (by omega)]
theorem grp_first {f : FuncId} {va vb : Value} {R : Mem → Prop} {ts : Array TypeId} (hn : ta < fr.n ∧ tb < fr.n ∧ te < fr.n) (hB : B ≤ ta ∧ B ≤ tb ∧ B ≤ te ∧ ta ≠ tb ∧ b ≠ ta) (ha : fr.at a = va) (hb : fr.at b = vb)
    (hc : Gives (call f [va, vb]) m fun v m' => v = .bool true ∧ R m')
    (h : ∀ fr' m', fr'.n = fr.n → fr'.d = fr.d → fr'.at te = .bool true → (∀ t, t < B → fr'.at t = fr.at t) → R m' → Gives (stepsX P call ops l fr') m' Q) :
    Gives (stepsX P call ops (⟨some ta, .move (.tmp a), ty2, pos2, af2, none⟩ :: ⟨some tb, .move (.tmp b), ty3, pos3, af3, none⟩ :: ⟨some te, .call ⟨.value (.func f), #[.tmp ta, .tmp tb], ts⟩, ty4, pos4, af4, none⟩ :: l) fr) m Q := by
  obtain ⟨h1, h2, h3, h4, h5⟩ := hB
  simp [hn, ha, hb, h4, h5]
  refine hc.mono fun v m' hv => ?_
  obtain ⟨rfl, hR⟩ := hv
  simp [hn]
  refine h _ m' (by simp) (by simp) (by simp) (fun t ht => ?_) hR
  simp only [Fr.at_upd]
  rw [if_neg (by omega), if_neg (by omega), if_neg (by omega)]
end
set_option maxHeartbeats 2000000 in
set_option maxRecDepth 10000 in
theorem law_end (n : Nat) {fr : Fr} {m : Mem} {e1 e2 e3 e4 : Int}
    (hn : fr.n = 226) (hd : fr.d = []) (g14 : fr.at 14 = .int .i64 e1) (g16 : fr.at 16 = .int .i64 e2) (g18 : fr.at 18 = .int .i64 e3) (g20 : fr.at 20 = .int .i64 e4)
    (g22 : fr.at 22 = .int .i64 e1) (g24 : fr.at 24 = .int .i64 e2) (g26 : fr.at 26 = .int .i64 e3) (g28 : fr.at 28 = .int .i64 e4) (g29 : fr.at 29 = .bool true) (g31 : fr.at 31 = .int .i64 e1) (g33 : fr.at 33 = .int .i64 e2) (g37 : fr.at 37 = .bool true) (g38 : fr.at 38 = .bool true)
    {Q : CQ} (hQ : ∀ fr', fr'.d = [] → fr'.at 6 = .bool true → Q (.ret, fr') m) :
    Gives (codeX Try.prog (callN Try.prog known n) (sRn 24 (bodyOf Try.f4)) fr) m Q := by
  refine via (X := .seq (.region _ _ _) .ret) rfl ?_
  refine (code_seq _ _ _ _ _).2 (region_hid fun ops hops => ?_)
  have y1 : ∀ fr, yieldX ops fr 1 = boolOf (fr.at 190) := fun fr => by rw [hops]; rfl
  have y4 : ∀ fr, yieldX ops fr 4 = boolOf (fr.at 193) := fun fr => by rw [hops]; rfl
  have y7 : ∀ fr, yieldX ops fr 7 = boolOf (fr.at 196) := fun fr => by rw [hops]; rfl
  have y12 : ∀ fr, yieldX ops fr 12 = boolOf (fr.at 201) := fun fr => by rw [hops]; rfl
  have y17 : ∀ fr, yieldX ops fr 17 = boolOf (fr.at 206) := fun fr => by rw [hops]; rfl
  have y22 : ∀ fr, yieldX ops fr 22 = boolOf (fr.at 211) := fun fr => by rw [hops]; rfl
  have y27 : ∀ fr, yieldX ops fr 27 = boolOf (fr.at 216) := fun fr => by rw [hops]; rfl
  have y32 : ∀ fr, yieldX ops fr 32 = boolOf (fr.at 221) := fun fr => by rw [hops]; rfl
  clear hops
  refine (steps_cons _ _ _ _ _ _).2 ((step_move _).2 ?_)
  simp only [ev_tmp, optQ_some, putQ_some, stepsQ_eq]
  refine ⟨by rw [hn]; exact Nat.le_of_ble_eq_true rfl, ?_⟩
  obtain ⟨f0, hf0⟩ : ∃ f0, f0 = fr.upd 189 (fr.at 29) := ⟨_, rfl⟩
  rw [← hf0]
  have n0 : f0.n = 226 := by rw [hf0]; simp [hn]
  have d0 : f0.d = [] := by rw [hf0]; simp [hd]
  have p0 : f0.at 189 = .bool true := by rw [hf0]; simp [g29]
  have k0 : ∀ t, t < 189 → f0.at t = fr.at t := fun t ht => by rw [hf0, Fr.at_upd, if_neg (by omega)]
  clear hf0
  refine grp_and (B := 189) y1 (by omega) (by omega) p0 (by rw [k0 _ (by omega)]; exact g37) fun f1 n1 d1 p1 k1 => ?_
  refine grp_and (B := 189) y4 (by omega) (by omega) p1 (by rw [k1 _ (by omega), k0 _ (by omega)]; exact g38) fun f2 n2 d2 p2 k2 => ?_
  have K2 : ∀ t, t < 189 → f2.at t = fr.at t := fun t ht => by rw [k2 t ht, k1 t ht, k0 t ht]
  refine grp_eq (B := 189) (e := e1) y7 (by omega) (by omega) p2 (by rw [K2 _ (by omega)]; exact g14) (by rw [K2 _ (by omega)]; exact g22) fun f3 n3 d3 p3 k3 => ?_
  have K3 : ∀ t, t < 189 → f3.at t = fr.at t := fun t ht => by rw [k3 t ht, K2 t ht]
  refine grp_eq (B := 189) (e := e2) y12 (by omega) (by omega) p3 (by rw [K3 _ (by omega)]; exact g16) (by rw [K3 _ (by omega)]; exact g24) fun f4 n4 d4 p4 k4 => ?_
  have K4 : ∀ t, t < 189 → f4.at t = fr.at t := fun t ht => by rw [k4 t ht, K3 t ht]
  refine grp_eq (B := 189) (e := e3) y17 (by omega) (by omega) p4 (by rw [K4 _ (by omega)]; exact g18) (by rw [K4 _ (by omega)]; exact g26) fun f5 n5 d5 p5 k5 => ?_
  have K5 : ∀ t, t < 189 → f5.at t = fr.at t := fun t ht => by rw [k5 t ht, K4 t ht]
  refine grp_eq (B := 189) (e := e4) y22 (by omega) (by omega) p5 (by rw [K5 _ (by omega)]; exact g20) (by rw [K5 _ (by omega)]; exact g28) fun f6 n6 d6 p6 k6 => ?_
  have K6 : ∀ t, t < 189 → f6.at t = fr.at t := fun t ht => by rw [k6 t ht, K5 t ht]
  refine grp_eq (B := 189) (e := e1) y27 (by omega) (by omega) p6 (by rw [K6 _ (by omega)]; exact g31) (by rw [K6 _ (by omega)]; exact g22) fun f7 n7 d7 p7 k7 => ?_
  have K7 : ∀ t, t < 189 → f7.at t = fr.at t := fun t ht => by rw [k7 t ht, K6 t ht]
  refine grp_eq (B := 189) (e := e2) y32 (by omega) (by omega) p7 (by rw [K7 _ (by omega)]; exact g33) (by rw [K7 _ (by omega)]; exact g24) fun f8 n8 d8 p8 k8 => ?_
  simp [show f8.n = 226 by omega, p8]
  exact hQ _ (by simp [d8, d7, d6, d5, d4, d3, d2, d1, d0]) (by simp)
set_option maxHeartbeats 1000000 in
set_option maxRecDepth 10000 in
theorem law_last (K : KQ known) (n : Nat) {fr : Fr} {m : Mem} {rs : List (List F)} {xs bs sol : List F} {piv : List Nat} {va vx vb vr vu vv vt vq vw vz : Value} {e1 e2 e3 e4 : Int} {ex ey : Int}
    (hn : fr.n = 226) (hd : fr.d = []) (g0 : fr.at 0 = va) (g1 : fr.at 1 = vx) (g2 : fr.at 2 = vb) (g9 : fr.at 9 = vr) (g11 : fr.at 11 = vu) (g12 : fr.at 12 = vv) (g14 : fr.at 14 = .int .i64 e1) (g16 : fr.at 16 = .int .i64 e2) (g18 : fr.at 18 = .int .i64 e3) (g20 : fr.at 20 = .int .i64 e4)
    (g21 : fr.at 21 = vt) (g22 : fr.at 22 = .int .i64 e1) (g23 : fr.at 23 = vq) (g24 : fr.at 24 = .int .i64 e2) (g26 : fr.at 26 = .int .i64 e3) (g28 : fr.at 28 = .int .i64 e4) (g29 : fr.at 29 = .bool true) (g30 : fr.at 30 = vw) (g31 : fr.at 31 = .int .i64 e1) (g32 : fr.at 32 = vz) (g33 : fr.at 33 = .int .i64 e2)
    (ha : FM m va rs) (hr : FM m vr rs) (hx : FL m vx xs) (hu : FL m vu xs) (hb : FL m vb bs) (hv : FL m vv bs) (ht : FL m vt sol) (hw : FL m vw sol) (hq : IL m vq piv) (hz : IL m vz piv) (l1 : rs.length ≤ 100000) (l2 : ∀ r ∈ rs, r.length ≤ 100000) (l3 : xs.length ≤ 100000) (l4 : bs.length ≤ 100000) (l5 : sol.length ≤ 100000) (l6 : piv.length ≤ 100000)
    {Q : CQ} (hQ : ∀ fr' m', fr'.d = [] → fr'.at 6 = .bool true → Only m m' → Q (.ret, fr') m') :
    Gives (codeX Try.prog (callN Try.prog known (n + 4)) (sRn 22 (bodyOf Try.f4)) fr) m Q := by
  refine via (X := .seq (.region _ _ _) (.seq (.region _ _ _) _)) rfl ?_
  refine (code_seq _ _ _ _ _).2 (region_hid fun ops hops => ?_)
  have y3 : ∀ fr, yieldX ops fr 3 = boolOf (fr.at 171) := fun fr => by rw [hops]; rfl
  clear hops
  refine grp_first (B := 168) (va := vw) (vb := vt) (R := fun m' => Only m m') (by omega) (by omega) g30 g21 (sameFloats_ok K (n + 1) sol _ _ _ hw ht l5 fun m1 ho1 => ⟨rfl, ho1⟩) fun f1 m1 n1 d1 p1 k1 ho1 => ?_
  refine grp_call (B := 168) (va := vz) (vb := vq) (R := fun m' => Only m m') y3 (by omega) (by omega) p1 (by rw [k1 _ (by omega)]; exact g32) (by rw [k1 _ (by omega)]; exact g23) (ints_ok K (n + 2) piv _ _ _ (hz.keep fun _ _ _ _ => ho1.2 _) (hq.keep fun _ _ _ _ => ho1.2 _) l6 fun m2 ho2 => ⟨rfl, ho1.trans ho2⟩) fun f2 m2 n2 d2 p2 k2 ho2 => ?_
  have K2 : ∀ t, t < 168 → f2.at t = fr.at t := fun t ht => by rw [k2 t ht, k1 t ht]
  refine (steps_cons _ _ _ _ _ _).2 ((step_assign _).2 ?_)
  simp only [ev_tmp, optQ_some, putQ_some, stepsQ_eq, p2]
  refine ⟨by rw [n2, n1, hn]; exact Nat.le_of_ble_eq_true rfl, (steps_nil _ _ _ _).2 ?_⟩
  obtain ⟨f3, hf3⟩ : ∃ f3, f3 = f2.upd 37 (.bool true) := ⟨_, rfl⟩
  rw [← hf3]
  show Gives (codeX _ _ _ f3) _ _
  have n3 : f3.n = 226 := by rw [hf3]; simp; omega
  have d3 : f3.d = [] := by rw [hf3]; simp [d2, d1, hd]
  have K3 : ∀ t, t < 168 → t ≠ 37 → f3.at t = fr.at t := fun t ht h => by rw [hf3, Fr.at_upd, if_neg h, K2 t ht]
  have q3 : f3.at 37 = .bool true := by rw [hf3]; simp
  clear hf3 p2 k2 K2 k1 p1 y3
  refine via (X := .seq (.region _ _ _) _) rfl ?_
  refine (code_seq _ _ _ _ _).2 (region_hid fun ops hops => ?_)
  have y3 : ∀ fr, yieldX ops fr 3 = boolOf (fr.at 179) := fun fr => by rw [hops]; rfl
  have y8 : ∀ fr, yieldX ops fr 8 = boolOf (fr.at 184) := fun fr => by rw [hops]; rfl
  clear hops
  refine grp_first (B := 168) (va := vr) (vb := va) (R := fun m' => Only m m') (by omega) (by omega) (by rw [K3 _ (by omega) (by omega)]; exact g9) (by rw [K3 _ (by omega) (by omega)]; exact g0) (kept_ok K n rs _ _ _ (hr.same ho2.2) (ha.same ho2.2) l1 l2 fun m3 ho3 => ⟨rfl, ho2.trans ho3⟩) fun f4 m4 n4 d4 p4 k4 ho4 => ?_
  refine grp_call (B := 168) (va := vu) (vb := vx) (R := fun m' => Only m m') y3 (by omega) (by omega) p4 (by rw [k4 _ (by omega), K3 _ (by omega) (by omega)]; exact g11) (by rw [k4 _ (by omega), K3 _ (by omega) (by omega)]; exact g1) (sameFloats_ok K (n + 1) xs _ _ _ (hu.same ho4.2) (hx.same ho4.2) l3 fun m5 ho5 => ⟨rfl, ho4.trans ho5⟩) fun f5 m5 n5 d5 p5 k5 ho5 => ?_
  refine grp_call (B := 168) (va := vv) (vb := vb) (R := fun m' => Only m m') y8 (by omega) (by omega) p5 (by rw [k5 _ (by omega), k4 _ (by omega), K3 _ (by omega) (by omega)]; exact g12) (by rw [k5 _ (by omega), k4 _ (by omega), K3 _ (by omega) (by omega)]; exact g2) (sameFloats_ok K (n + 1) bs _ _ _ (hv.same ho5.2) (hb.same ho5.2) l4 fun m6 ho6 => ⟨rfl, ho5.trans ho6⟩) fun f6 m6 n6 d6 p6 k6 ho6 => ?_
  have K6 : ∀ t, t < 168 → t ≠ 37 → f6.at t = fr.at t := fun t ht h => by rw [k6 t ht, k5 t ht, k4 t ht, K3 t ht h]
  have q6 : f6.at 37 = .bool true := by rw [k6 _ (by omega), k5 _ (by omega), k4 _ (by omega)]; exact q3
  refine (steps_cons _ _ _ _ _ _).2 ((step_assign _).2 ?_)
  simp only [ev_tmp, optQ_some, putQ_some, stepsQ_eq, p6]
  refine ⟨by rw [n6, n5, n4, n3]; exact Nat.le_of_ble_eq_true rfl, (steps_nil _ _ _ _).2 ?_⟩
  show Gives (codeX _ _ _ (f6.upd 38 (.bool true))) _ _
  refine via (X := sRn 24 (bodyOf Try.f4)) (by kernel_rfl) (law_end (n + 4) (e1 := e1) (e2 := e2) (e3 := e3) (e4 := e4) ?_ ?_ ?_ ?_ ?_ ?_ ?_ ?_ ?_ ?_ ?_ ?_ ?_ ?_ ?_ fun fr' h1 h2 => hQ fr' m6 h1 h2 ho6)
  · simp; omega
  · simp [d6, d5, d4, d3]
  · simp [K6, g14]
  · simp [K6, g16]
  · simp [K6, g18]
  · simp [K6, g20]
  · simp [K6, g22]
  · simp [K6, g24]
  · simp [K6, g26]
  · simp [K6, g28]
  · simp [K6, g29]
  · simp [K6, g31]
  · simp [K6, g33]
  · simp [q6]
  · simp
end Go.Proofs.Ytghhanifakllpaa

/- The law SolveAll, in the clean executor: its loops over the answers. -/
namespace Go.Proofs.Ytghhanifakllpaa
open Go.Clean

variable {known : Known}
/-- A list in memory, of any contents. -/
def StS (m : Mem) (v : Value) (g : Bool) (n b : Nat) : Prop := (n = 0 ∧ v = nilV) ∨ (0 < n ∧ v = lst b n ∧ ∃ cells, m.at b = some ⟨cells, 1, g, false⟩ ∧ cells.length = n ∧ cells.all oneV = true)
theorem StS.other {m m' : Mem} {v : Value} {g : Bool} {n b : Nat} (h : StS m v g n b) (e : 0 < n → m'.at b = m.at b) : StS m' v g n b := by
  rcases h with h | ⟨h1, h2, cells, h3, h4⟩
  · exact .inl h
  · exact .inr ⟨h1, h2, cells, by rw [e h1]; exact h3, h4⟩
theorem gives_append_keep {P : Program} {t u : TypeId} {sz : Nat} (h : appOK P t u sz = true) {b n b2 o k c : Nat} {m : Mem} {Q : Value → Mem → Prop} {old : List Value} (ha : m.at b = some ⟨old, sz, false, false⟩) (hlen : old.length = n * sz) {x : Blk} (hb : m.at b2 = some x) {new : List Value} (hn : takeN x.cells o (k * sz) = some new)
    (hoo : old.all oneV = true) (ho : new.all oneV = true) (hk : 0 < k) (hk2 : n + k ≤ 1048576)
    (q : Q (.slice (some ⟨m.next, 0, none⟩) (n + k) (n + k)) (((m.rd b2).rd b).nw ⟨old ++ new, sz, true, false⟩)) : Gives (appendX P t u (.slice (some ⟨b, 0, none⟩) n n) (.slice (some ⟨b2, o, none⟩) k c)) m Q := by
  obtain ⟨hsz, e, e', i, z, h1, h2, h3, h4, h5, h6⟩ := app_spec h
  unfold appendX
  simp only [h1, h2, h3, h4, h6]
  rw [gives_bind, gives_guard]
  refine ⟨rfl, ?_⟩
  rw [gives_bind]
  unfold elemsX
  rw [gives_bind, gives_getB, hb, optQ_some, gives_ret, h5, hn]
  dsimp only
  rw [gives_bind, gives_getB, Mem.at_rd, ha, optQ_some, gives_bind, gives_guard]
  have hc : Nat.ble (n + k) n = false := by rw [← Bool.not_eq_true, Nat.ble_eq]; omega
  have ht : takeN old 0 (n * sz) = some old := by rw [← hlen]; exact takeN_all old
  refine ⟨by simp only [sliceLen, Bool.and_eq_true, beq_self_eq_true, true_and, Nat.ble_eq]; exact hk2, ?_⟩
  simp only [sliceLen, hc, cond_false, ht]
  rw [gives_bind, gives_newX]
  refine ⟨by rw [List.all_append, hoo, ho]; rfl, (gives_ret _ _ _).2 ?_⟩
  exact q
/-- One more element behind any list of one's own. -/
theorem gives_more {P : Program} {t : TypeId} (h : appOK P t t 1 = true) {b1 : Nat} {v x : Value} {g : Bool} {n b : Nat} {m : Mem} {Q : Value → Mem → Prop} (hw : WF m) (hx : m.at b1 = some ⟨[x], 1, false, false⟩) (hs : StS m v g n b) (ho : oneV x = true) (hk : n < 100000)
    (q : ∀ m', m'.next = m.next + 1 → WF m' → (∀ c, c ≠ m.next → (c = b → n = 0) → m'.at c = m.at c) → StS m' (lst m.next (n + 1)) true (n + 1) m.next → Q (lst m.next (n + 1)) m') :
    Gives (appendX P t t v (.slice (some ⟨b1, 0, none⟩) 1 1)) m Q := by
  rcases hs with ⟨rfl, rfl⟩ | ⟨hpos, rfl, cells, h3, h4, h5⟩
  · refine gives_append_new h hx (new := [x]) rfl (by simp [ho]) (by omega) (by omega) (q _ (by simp) ?_ ?_ (.inr ⟨by omega, rfl, [x], by simp, rfl, by simp [ho]⟩))
    · exact ((Up.rd _ _).trans (Up.nw _ _)).wf hw
    · intro c hc _; simp [hc]
  · unfold lst
    have hbn := hw _ _ h3
    cases g with
    | false =>
      refine gives_append_keep h h3 (by simp [h4]) hx (new := [x]) rfl h5 (by simp [ho]) (by omega) (by omega) (q _ (by simp) ?_ ?_ (.inr ⟨by omega, rfl, cells ++ [x], by simp, by simp [h4], by rw [List.all_append, h5]; simp [ho]⟩))
      · exact (((Up.rd _ _).trans (Up.rd _ _)).trans (Up.nw _ _)).wf hw
      · intro c hc _; simp [hc]
    | true =>
      refine gives_append_grow h h3 (by simp [h4]) hx (new := [x]) rfl h5 (by simp [ho]) (by omega) (by omega) (q _ (by simp) ?_ ?_ (.inr ⟨by omega, rfl, cells ++ [x], by simp, by simp [h4], by rw [List.all_append, h5]; simp [ho]⟩))
      · intro c y hc
        simp at hc ⊢
        by_cases h1 : c = m.next
        · omega
        · rw [if_neg h1] at hc
          by_cases h2 : c = b
          · rw [if_pos h2] at hc; cases hc
          · rw [if_neg h2] at hc
            have := hw c y hc; omega
      · intro c hc hcb
        simp
        rw [if_neg hc, if_neg (fun h => by have := hcb h; omega)]

def lp1 (fr0 : Fr) (m : Mem) (vs vp : Value) (n1 n2 bs bp : Nat) (q : Nat) (fr : Fr) (m' : Mem) : Prop :=
  ∃ i, i + q = n1 ∧ fr.n = 226 ∧ fr.d = [] ∧ (∀ t, t < 34 → fr.at t = fr0.at t) ∧ fr.at 34 = .int .i64 (i : Nat) ∧ m'.next = m.next ∧ WF m' ∧ StS m' vs false n1 bs ∧ StS m' vp true n2 bp ∧ ∀ c, (c = bs → n1 = 0) → (c = bp → n2 = 0) → m'.at c = m.at c
def lp2 (fr0 : Fr) (m : Mem) (vs vp : Value) (n1 n2 bs bp : Nat) (q : Nat) (fr : Fr) (m' : Mem) : Prop :=
  ∃ i, i + q = n2 ∧ fr.n = 226 ∧ fr.d = [] ∧ (∀ t, t < 34 → fr.at t = fr0.at t) ∧ fr.at 35 = .int .i64 (i : Nat) ∧ m'.next = m.next ∧ WF m' ∧ StS m' vs false n1 bs ∧ StS m' vp true n2 bp ∧ ∀ c, (c = bs → n1 = 0) → (c = bp → n2 = 0) → m'.at c = m.at c
def lp3 (fr0 : Fr) (m : Mem) (n1 n2 bs bp : Nat) (q : Nat) (fr : Fr) (m' : Mem) : Prop :=
  ∃ i g ks kp cs cp, i + q = 9 ∧ fr.n = 226 ∧ fr.d = [] ∧ (∀ t, t < 34 → t ≠ 13 → t ≠ 15 → fr.at t = fr0.at t) ∧ fr.at 36 = .int .i64 (i : Nat) ∧ m.next ≤ m'.next ∧ WF m' ∧ ks ≤ n1 + i ∧ kp ≤ n2 + i ∧ StS m' (fr.at 13) g ks cs ∧ StS m' (fr.at 15) true kp cp ∧
  (0 < ks → 0 < kp → cs ≠ cp) ∧ (0 < ks → m.next ≤ cs ∨ (cs = bs ∧ 0 < n1)) ∧ (0 < kp → m.next ≤ cp ∨ (cp = bp ∧ 0 < n2)) ∧ ∀ c, c < m.next → (c = bs → n1 = 0) → (c = bp → n2 = 0) → m'.at c = m.at c
set_option maxHeartbeats 1000000 in
set_option maxRecDepth 10000 in
theorem law_loops (n : Nat) {fr : Fr} {m : Mem} {vs vp : Value} {n1 n2 bs bp : Nat} (hw : WF m) (hn : fr.n = 226) (hd : fr.d = []) (g13 : fr.at 13 = vs) (g15 : fr.at 15 = vp) (hs : StS m vs false n1 bs) (hp : StS m vp true n2 bp) (hne : 0 < n1 → 0 < n2 → bs ≠ bp) (hn1 : n1 ≤ 1000) (hn2 : n2 ≤ 1000)
    {Q : CQ} (hQ : ∀ fr' m', fr'.n = 226 → fr'.d = [] → (∀ t, t < 34 → t ≠ 13 → t ≠ 15 → fr'.at t = fr.at t) → (∀ c, c < m.next → (c = bs → n1 = 0) → (c = bp → n2 = 0) → m'.at c = m.at c) → Gives (codeX Try.prog (callN Try.prog known n) (sRn 22 (bodyOf Try.f4)) fr') m' Q) :
    Gives (codeX Try.prog (callN Try.prog known n) (sRn 19 (bodyOf Try.f4)) fr) m Q := by
  refine via (X := .seq (.seq (.region _ _ _) (.block _ (.loop _))) (sRn 20 (bodyOf Try.f4))) rfl ?_
  simp only [code_seq, code_block]
  simp [hn]
  refine code_loop (lp1 fr m vs vp n1 n2 bs bp) n1 (by omega) ⟨0, by omega, by simp [hn], by simp [hd], fun t ht => by simp only [Fr.at_upd]; rw [if_neg (by omega)], by simp, rfl, hw, hs, hp, fun _ _ _ => rfl⟩ ?_
  obtain ⟨a13, hv13⟩ : ∃ a, vs = .slice a n1 n1 := by
    rcases hs with ⟨h1, h2⟩ | ⟨_, h2, _⟩
    · exact ⟨none, by rw [h2, h1]; rfl⟩
    · exact ⟨_, h2⟩
  obtain ⟨a15, hv15⟩ : ∃ a, vp = .slice a n2 n2 := by
    rcases hp with ⟨h1, h2⟩ | ⟨_, h2, _⟩
    · exact ⟨none, by rw [h2, h1]; rfl⟩
    · exact ⟨_, h2⟩
  rintro q fr' m' ⟨i, hiq, f1, f2, K, g34, hnx, hw', hs', hp', hold⟩
  have e13 : fr'.at 13 = .slice a13 n1 n1 := by rw [K 13 (by omega), g13, hv13]
  by_cases hi : i < n1
  · rcases id hs' with ⟨h, _⟩ | ⟨_, hvs, cells, hc1, hc2, hc3⟩
    · omega
    obtain rfl : a13 = some ⟨bs, 0, none⟩ := by rw [hvs] at hv13; unfold lst at hv13; simpa using hv13.symm
    have hwi := wrap_succ i (by omega)
    simp [f1, e13, g34, hi, idx24 _ _ _ _ _ _ hi]
    refine storeQ_one (cs := cells) (sz := 1) (gr := false) hc1 (by simp [cellsV, oneV]) rfl (by omega) fun m3 n3 _ e3 => ?_
    simp [f1, g34, hwi]
    refine ⟨q - 1, by omega, i + 1, by omega, by simp [f1], by simp [f2], fun t ht => ?_, by simp, by omega, fun c y hc => ?_, .inr ⟨by omega, hvs, _, by rw [e3, if_pos rfl], by simp [hc2], ?_⟩, hp'.other fun h => ?_, fun c h1 h2 => ?_⟩
    · simp only [Fr.at_upd]
      rw [if_neg (by omega), if_neg (by omega), if_neg (by omega), if_neg (by omega), if_neg (by omega), if_neg (by omega), if_neg (by omega), if_neg (by omega), if_neg (by omega), if_neg (by omega)]
      exact K t ht
    · rw [n3]
      rw [e3] at hc
      split at hc
      · subst_vars; exact hw' _ _ hc1
      · exact hw' c y hc
    · rw [List.all_eq_true]
      intro y hy
      rcases List.mem_or_eq_of_mem_set hy with hy | hy
      · exact List.all_eq_true.1 hc3 y hy
      · rw [hy]; rfl
    · rw [e3, if_neg (fun hh => hne (by omega) h hh.symm)]
    · rw [e3, if_neg (fun hh => by have := h1 hh; omega), hold c h1 h2]
  · simp [f1, e13, g34, hi]
    obtain ⟨fr1, hfr1⟩ : ∃ f, f = (((fr'.upd 140 (.int .i64 (i : Nat))).upd 141 (.slice a13 n1 n1)).upd 142 (.int .i64 (n1 : Nat))).upd 143 (.bool false) := ⟨_, rfl⟩
    rw [← hfr1]
    have k1 : fr1.n = 226 := by rw [hfr1]; simp [f1]
    have k2 : fr1.d = [] := by rw [hfr1]; simp [f2]
    have K1 : ∀ t, t < 34 → fr1.at t = fr.at t := fun t ht => by
      rw [hfr1]
      simp only [Fr.at_upd]
      rw [if_neg (by omega), if_neg (by omega), if_neg (by omega), if_neg (by omega)]
      exact K t ht
    clear hfr1 f1 f2 K g34 e13 hi hiq hs hp hw
    clear fr' i q
    refine via (X := .seq (.seq (.region _ _ _) (.block _ (.loop _))) (sRn 21 (bodyOf Try.f4))) rfl ?_
    simp only [code_seq, code_block]
    simp [k1]
    refine code_loop (lp2 fr m vs vp n1 n2 bs bp) n2 (by omega) ⟨0, by omega, by simp [k1], by simp [k2], fun t ht => by simp only [Fr.at_upd]; rw [if_neg (by omega)]; exact K1 t ht, by simp, hnx, hw', hs', hp', hold⟩ ?_
    clear hw' hs' hp' hold hnx K1 k2 k1
    clear fr1 m'
    rintro q fr' m' ⟨i, hiq, f1, f2, K, g35, hnx, hw', hs', hp', hold⟩
    have e15 : fr'.at 15 = .slice a15 n2 n2 := by rw [K 15 (by omega), g15, hv15]
    by_cases hi : i < n2
    · rcases id hp' with ⟨h, _⟩ | ⟨_, hvs, cells, hc1, hc2, hc3⟩
      · omega
      obtain rfl : a15 = some ⟨bp, 0, none⟩ := by rw [hvs] at hv15; unfold lst at hv15; simpa using hv15.symm
      have hwi := wrap_succ i (by omega)
      simp [f1, e15, g35, hi, idx29 _ _ _ _ _ _ hi]
      refine storeQ_one (cs := cells) (sz := 1) (gr := true) hc1 (by simp [cellsV, oneV]) rfl (by omega) fun m3 n3 _ e3 => ?_
      simp [f1, g35, hwi]
      refine ⟨q - 1, by omega, i + 1, by omega, by simp [f1], by simp [f2], fun t ht => ?_, by simp, by omega, fun c y hc => ?_, hs'.other fun h => ?_, .inr ⟨by omega, hvs, _, by rw [e3, if_pos rfl], by simp [hc2], ?_⟩, fun c h1 h2 => ?_⟩
      · simp only [Fr.at_upd]
        rw [if_neg (by omega), if_neg (by omega), if_neg (by omega), if_neg (by omega), if_neg (by omega), if_neg (by omega), if_neg (by omega), if_neg (by omega), if_neg (by omega), if_neg (by omega)]
        exact K t ht
      · rw [n3]
        rw [e3] at hc
        split at hc
        · subst_vars; exact hw' _ _ hc1
        · exact hw' c y hc
      · rw [e3, if_neg (fun hh => hne h (by omega) hh)]
      · rw [List.all_eq_true]
        intro y hy
        rcases List.mem_or_eq_of_mem_set hy with hy | hy
        · exact List.all_eq_true.1 hc3 y hy
        · rw [hy]; rfl
      · rw [e3, if_neg (fun hh => by have := h2 hh; omega), hold c h1 h2]
    · simp [f1, e15, g35, hi]
      obtain ⟨fr1, hfr1⟩ : ∃ f, f = (((fr'.upd 149 (.int .i64 (i : Nat))).upd 150 (.slice a15 n2 n2)).upd 151 (.int .i64 (n2 : Nat))).upd 152 (.bool false) := ⟨_, rfl⟩
      rw [← hfr1]
      have k1 : fr1.n = 226 := by rw [hfr1]; simp [f1]
      have k2 : fr1.d = [] := by rw [hfr1]; simp [f2]
      have K1 : ∀ t, t < 34 → fr1.at t = fr.at t := fun t ht => by
        rw [hfr1]
        simp only [Fr.at_upd]
        rw [if_neg (by omega), if_neg (by omega), if_neg (by omega), if_neg (by omega)]
        exact K t ht
      clear hfr1 f1 f2 K g35 e15 hi hiq
      clear fr' i q
      refine via (X := .seq (.seq (.region _ _ _) (.block _ (.loop _))) (sRn 22 (bodyOf Try.f4))) rfl ?_
      simp only [code_seq, code_block]
      simp [k1]
      have b1 : 0 < n1 → bs < m.next := fun h => by
        rcases hs' with ⟨h1, _⟩ | ⟨_, _, cells, hc1, _⟩
        · omega
        · rw [← hnx]; exact hw' _ _ hc1
      have b2 : 0 < n2 → bp < m.next := fun h => by
        rcases hp' with ⟨h1, _⟩ | ⟨_, _, cells, hc1, _⟩
        · omega
        · rw [← hnx]; exact hw' _ _ hc1
      refine code_loop (lp3 fr m n1 n2 bs bp) 9 (by omega) ⟨0, false, n1, n2, bs, bp, by omega, by simp [k1], by simp [k2], fun t ht _ _ => by simp only [Fr.at_upd]; rw [if_neg (by omega)]; exact K1 t ht, by simp, by rw [hnx]; exact Nat.le_refl _, hw', by omega, by omega, by simp only [Fr.at_upd]; rw [if_neg (by omega), K1 13 (by omega), g13]; exact hs', by simp only [Fr.at_upd]; rw [if_neg (by omega), K1 15 (by omega), g15]; exact hp', hne, fun h => .inr ⟨rfl, h⟩, fun h => .inr ⟨rfl, h⟩, fun c _ h1 h2 => hold c h1 h2⟩ ?_
      clear hw' hs' hp' hold hnx K1 k2 k1
      clear fr1 m'
      rintro q fr' m' ⟨i, g, ks, kp, cs, cp, hiq, f1, f2, K, g36, hnx, hw', hks, hkp, hs', hp', hne', hcs, hcp, hold⟩
      by_cases hi : i < 9
      · have hi' : ((i : Nat) : Int) < 9 := by omega
        have hwi := wrap_succ i (by omega)
        simp [f1, g36, hi']
        refine gives_build1 bs24 rfl rfl ?_
        simp [f1]
        obtain ⟨a, c, hv⟩ : ∃ a, ∃ c : Nat, fr'.at 13 = .slice a ks ks := by
          rcases hs' with ⟨h1, h2⟩ | ⟨_, h2, _⟩
          · exact ⟨none, 0, by rw [h2, h1]; rfl⟩
          · exact ⟨_, 0, h2⟩
        refine gives_more app24 (b1 := m'.next) (x := .float .f64 4666175065920897024) (g := g) (n := ks) (b := cs) ((Up.nw _ _).wf hw') (by simp) (hs'.other fun h => ?_) rfl (by omega) fun m2 n2' w2 o2 s2 => ?_
        · rcases hs' with ⟨h1, _⟩ | ⟨_, _, cells, hc1, _⟩
          · omega
          · have := hw' _ _ hc1
            simp only [Mem.at_nw]; rw [if_neg (by omega)]
        simp only [Mem.next_nw] at n2' s2
        simp [f1, lst]
        refine gives_build1 bs29 rfl rfl ?_
        simp [f1]
        have hsP : StS (m2.nw ⟨[.int .i64 9004], 1, false, false⟩) (fr'.at 15) true kp cp := by
          refine hp'.other fun h => ?_
          rcases hp' with ⟨h1, _⟩ | ⟨_, _, cells, hc1, _⟩
          · omega
          · have hlt := hw' _ _ hc1
            simp only [Mem.at_nw]
            rw [if_neg (by omega), o2 cp (by simp; omega) (fun hh => by
              by_cases hz : ks = 0
              · exact hz
              · exact absurd hh.symm (hne' (by omega) h)), Mem.at_nw, if_neg (by omega)]
        refine gives_more app29 (b1 := m2.next) (x := .int .i64 9004) (g := true) (n := kp) (b := cp) ((Up.nw _ _).wf w2) (by simp) hsP rfl (by omega) fun m4 n4 w4 o4 s4 => ?_
        simp only [Mem.next_nw] at n4 s4 o4
        simp [f1, g36, hwi]
        have hcp' : 0 < kp → cp < m'.next := fun h => by
          rcases hp' with ⟨h1, _⟩ | ⟨_, _, cells, hc1, _⟩
          · omega
          · exact hw' _ _ hc1
        have hcs' : 0 < ks → cs < m'.next := fun h => by
          rcases hs' with ⟨h1, _⟩ | ⟨_, _, cells, hc1, _⟩
          · omega
          · exact hw' _ _ hc1
        have keep : ∀ c, c ≠ m2.next → c ≠ m2.next + 1 → (c = cp → kp = 0) → m4.at c = m2.at c := fun c h1 h2 h3 => by
          rw [o4 c h2 h3, Mem.at_nw, if_neg h1]
        refine ⟨q - 1, by omega, i + 1, true, ks + 1, kp + 1, m'.next + 1, m2.next + 1, by omega, by simp [f1], by simp [f2], fun t h1 h2 h3 => ?_, by simp, by omega, w4, by omega, by omega, ?_, ?_, fun _ _ => by omega, fun _ => .inl (by omega), fun _ => .inl (by omega), fun c h1 h2 h3 => ?_⟩
        · simp only [Fr.at_upd]
          rw [if_neg (by omega), if_neg (by omega), if_neg (by omega), if_neg h3, if_neg (by omega), if_neg (by omega), if_neg (by omega), if_neg h2, if_neg (by omega), if_neg (by omega), if_neg (by omega), if_neg (by omega), if_neg (by omega)]
          exact K t h1 h2 h3
        · simp
          refine (StS.other (m := m2) (b := m'.next + 1) (by simpa [lst] using s2) fun _ => keep _ (by omega) (by omega) fun h => ?_)
          by_cases hz : kp = 0
          · exact hz
          · have := hcp' (by omega); omega
        · simp
          exact s4
        · rw [keep c (by omega) (by omega) fun h => ?_, o2 c (by simp; omega) fun h => ?_, Mem.at_nw, if_neg (by omega), hold c h1 h2 h3]
          · by_cases hz : ks = 0
            · exact hz
            · rcases hcs (by omega) with h4 | ⟨h4, h5⟩
              · omega
              · have := h2 (by omega); omega
          · by_cases hz : kp = 0
            · exact hz
            · rcases hcp (by omega) with h4 | ⟨h4, h5⟩
              · omega
              · have := h3 (by omega); omega
      · have hi' : ¬ ((i : Nat) : Int) < 9 := by omega
        simp [f1, g36, hi']
        exact hQ _ m' (by simp [f1]) (by simp [f2]) (fun t h1 h2 h3 => by simp only [Fr.at_upd]; rw [if_neg (by omega), if_neg (by omega)]; exact K t h1 h2 h3) hold
end Go.Proofs.Ytghhanifakllpaa

/- The law SolveAll, in the clean executor: its calls. -/
namespace Go.Proofs.Ytghhanifakllpaa
open Go.Clean

section
variable {P : Program} {call : Caller} {fr : Fr} {m : Mem} {Q : CQ} {id a b c ta tb tc te tm tx ty da db B : Nat} {ty1 ty2 ty3 ty4 ty5 ty6 ty7 ty8 ty9 : TypeId} {pos1 pos2 pos3 pos4 pos5 pos6 pos7 pos8 pos9 : String} {af1 af2 af3 af4 af5 af6 af7 af8 af9 : Array Edge} {f : FuncId} {ts : Array TypeId} {va vb vc : Value} {R : Value → Value → Mem → Prop}
theorem tail_ok (hn : tm < fr.n ∧ tx < fr.n ∧ ty < fr.n ∧ da < fr.n ∧ db < fr.n) (hB : B ≤ tm ∧ B ≤ tx ∧ B ≤ ty ∧ tm ≠ tx ∧ tx ≠ ty ∧ ty ≠ da ∧ da ≠ db) {ops : Array Oper} {v1 v2 : Value} (hv : fr.at te = .tuple ⟨[v1, v2]⟩)
    (h : ∀ fr', fr'.n = fr.n → fr'.d = fr.d → fr'.at da = v1 → fr'.at db = v2 → (∀ t, t < B → t ≠ da → t ≠ db → fr'.at t = fr.at t) → Q (.normal, fr') m) :
    Gives (stepsX P call ops [⟨some tm, .move (.tmp te), ty4, pos4, af4, none⟩, ⟨some tx, .extract (.tmp tm) 0, ty5, pos5, af5, none⟩, ⟨some ty, .extract (.tmp tm) 1, ty6, pos6, af6, none⟩, ⟨some da, .assign (.tmp tx), ty7, pos7, af7, none⟩, ⟨some db, .assign (.tmp ty), ty8, pos8, af8, none⟩] fr) m (regQ Q) := by
  obtain ⟨h1, h2, h3, h4, h5, h6, h7⟩ := hB
  simp [hn, hv, h4, h5, h6, extractX]
  refine h _ (by simp) (by simp) (by simp [h7]) (by simp) fun t ht g1 g2 => ?_
  simp only [Fr.at_upd]
  rw [if_neg g2, if_neg g1, if_neg (by omega), if_neg (by omega), if_neg (by omega)]
theorem reg_call2 (hn : ta < fr.n ∧ tb < fr.n ∧ te < fr.n ∧ tm < fr.n ∧ tx < fr.n ∧ ty < fr.n ∧ da < fr.n ∧ db < fr.n) (hB : B ≤ ta ∧ B ≤ tb ∧ B ≤ te ∧ B ≤ tm ∧ B ≤ tx ∧ B ≤ ty ∧ ta ≠ tb ∧ b ≠ ta ∧ tm ≠ tx ∧ tx ≠ ty ∧ ty ≠ da ∧ da ≠ db) (ha : fr.at a = va) (hb : fr.at b = vb)
    (hc : Gives (call f [va, vb]) m fun v m' => ∃ v1 v2, v = .tuple ⟨[v1, v2]⟩ ∧ R v1 v2 m')
    (h : ∀ fr' m' v1 v2, R v1 v2 m' → fr'.n = fr.n → fr'.d = fr.d → fr'.at da = v1 → fr'.at db = v2 → (∀ t, t < B → t ≠ da → t ≠ db → fr'.at t = fr.at t) → Q (.normal, fr') m') :
    Gives (codeX P call (.region id #[⟨some ta, .move (.tmp a), ty1, pos1, af1, none⟩, ⟨some tb, .move (.tmp b), ty2, pos2, af2, none⟩, ⟨some te, .call ⟨.value (.func f), #[.tmp ta, .tmp tb], ts⟩, ty3, pos3, af3, none⟩, ⟨some tm, .move (.tmp te), ty4, pos4, af4, none⟩, ⟨some tx, .extract (.tmp tm) 0, ty5, pos5, af5, none⟩, ⟨some ty, .extract (.tmp tm) 1, ty6, pos6, af6, none⟩, ⟨some da, .assign (.tmp tx), ty7, pos7, af7, none⟩, ⟨some db, .assign (.tmp ty), ty8, pos8, af8, none⟩] false) fr) m Q := by
  obtain ⟨h1, h2, h3, h4, h5, h6, h7, h8, h9, h10, h11, h12⟩ := hB
  obtain ⟨n1, n2, n3, n4⟩ := hn
  refine (code_region _ _ _ _ _).2 ((steps_cons _ _ _ _ _ _).2 ((step_move _).2 ?_))
  simp [n1, n2, ha, hb, h7, h8]
  refine hc.mono fun v m' hv => ?_
  obtain ⟨v1, v2, rfl, hR⟩ := hv
  simp only [putQ_some, Fr.n_upd]
  refine ⟨n3, ?_⟩
  refine tail_ok (B := B) (v1 := v1) (v2 := v2) (by simpa using n4) ⟨h4, h5, h6, h9, h10, h11, h12⟩ (by simp) fun fr' e1 e2 e3 e4 e5 => h fr' m' v1 v2 hR (by rw [e1]; simp) (by rw [e2]; simp) e3 e4 fun t ht g1 g2 => ?_
  rw [e5 t ht g1 g2]
  simp only [Fr.at_upd]
  rw [if_neg (by omega), if_neg (by omega), if_neg (by omega)]
theorem reg_call1 (hn : ta < fr.n ∧ te < fr.n ∧ tm < fr.n ∧ tx < fr.n ∧ ty < fr.n ∧ da < fr.n ∧ db < fr.n) (hB : B ≤ ta ∧ B ≤ te ∧ B ≤ tm ∧ B ≤ tx ∧ B ≤ ty ∧ tm ≠ tx ∧ tx ≠ ty ∧ ty ≠ da ∧ da ≠ db) (ha : fr.at a = va)
    (hc : Gives (call f [va]) m fun v m' => ∃ v1 v2, v = .tuple ⟨[v1, v2]⟩ ∧ R v1 v2 m')
    (h : ∀ fr' m' v1 v2, R v1 v2 m' → fr'.n = fr.n → fr'.d = fr.d → fr'.at da = v1 → fr'.at db = v2 → (∀ t, t < B → t ≠ da → t ≠ db → fr'.at t = fr.at t) → Q (.normal, fr') m') :
    Gives (codeX P call (.region id #[⟨some ta, .move (.tmp a), ty1, pos1, af1, none⟩, ⟨some te, .call ⟨.value (.func f), #[.tmp ta], ts⟩, ty3, pos3, af3, none⟩, ⟨some tm, .move (.tmp te), ty4, pos4, af4, none⟩, ⟨some tx, .extract (.tmp tm) 0, ty5, pos5, af5, none⟩, ⟨some ty, .extract (.tmp tm) 1, ty6, pos6, af6, none⟩, ⟨some da, .assign (.tmp tx), ty7, pos7, af7, none⟩, ⟨some db, .assign (.tmp ty), ty8, pos8, af8, none⟩] false) fr) m Q := by
  obtain ⟨h1, h3, h4, h5, h6, h9, h10, h11, h12⟩ := hB
  obtain ⟨n1, n3, n4⟩ := hn
  refine (code_region _ _ _ _ _).2 ((steps_cons _ _ _ _ _ _).2 ((step_move _).2 ?_))
  simp [n1, ha]
  refine hc.mono fun v m' hv => ?_
  obtain ⟨v1, v2, rfl, hR⟩ := hv
  simp only [putQ_some, Fr.n_upd]
  refine ⟨n3, ?_⟩
  refine tail_ok (B := B) (v1 := v1) (v2 := v2) (by simpa using n4) ⟨h4, h5, h6, h9, h10, h11, h12⟩ (by simp) fun fr' e1 e2 e3 e4 e5 => h fr' m' v1 v2 hR (by rw [e1]; simp) (by rw [e2]; simp) e3 e4 fun t ht g1 g2 => ?_
  rw [e5 t ht g1 g2]
  simp only [Fr.at_upd]
  rw [if_neg (by omega), if_neg (by omega)]
theorem reg_call3 (hn : ta < fr.n ∧ tb < fr.n ∧ tc < fr.n ∧ te < fr.n ∧ tm < fr.n ∧ tx < fr.n ∧ ty < fr.n ∧ da < fr.n ∧ db < fr.n) (hB : B ≤ ta ∧ B ≤ tb ∧ B ≤ tc ∧ B ≤ te ∧ B ≤ tm ∧ B ≤ tx ∧ B ≤ ty ∧ ta ≠ tb ∧ b ≠ ta ∧ ta ≠ tc ∧ tb ≠ tc ∧ c ≠ ta ∧ c ≠ tb ∧ tm ≠ tx ∧ tx ≠ ty ∧ ty ≠ da ∧ da ≠ db) (ha : fr.at a = va) (hb : fr.at b = vb) (hcc : fr.at c = vc)
    (hc : Gives (call f [va, vb, vc]) m fun v m' => ∃ v1 v2, v = .tuple ⟨[v1, v2]⟩ ∧ R v1 v2 m')
    (h : ∀ fr' m' v1 v2, R v1 v2 m' → fr'.n = fr.n → fr'.d = fr.d → fr'.at da = v1 → fr'.at db = v2 → (∀ t, t < B → t ≠ da → t ≠ db → fr'.at t = fr.at t) → Q (.normal, fr') m') :
    Gives (codeX P call (.region id #[⟨some ta, .move (.tmp a), ty1, pos1, af1, none⟩, ⟨some tb, .move (.tmp b), ty2, pos2, af2, none⟩, ⟨some tc, .move (.tmp c), ty9, pos9, af9, none⟩, ⟨some te, .call ⟨.value (.func f), #[.tmp ta, .tmp tb, .tmp tc], ts⟩, ty3, pos3, af3, none⟩, ⟨some tm, .move (.tmp te), ty4, pos4, af4, none⟩, ⟨some tx, .extract (.tmp tm) 0, ty5, pos5, af5, none⟩, ⟨some ty, .extract (.tmp tm) 1, ty6, pos6, af6, none⟩, ⟨some da, .assign (.tmp tx), ty7, pos7, af7, none⟩, ⟨some db, .assign (.tmp ty), ty8, pos8, af8, none⟩] false) fr) m Q := by
  obtain ⟨h1, h2, h2', h3, h4, h5, h6, h7, h8, g7, g8, k7, k8, h9, h10, h11, h12⟩ := hB
  obtain ⟨n1, n2, n2', n3, n4⟩ := hn
  refine (code_region _ _ _ _ _).2 ((steps_cons _ _ _ _ _ _).2 ((step_move _).2 ?_))
  simp [n1, n2, n2', ha, hb, hcc, h7, h8, g7, g8, k7, k8]
  refine hc.mono fun v m' hv => ?_
  obtain ⟨v1, v2, rfl, hR⟩ := hv
  simp only [putQ_some, Fr.n_upd]
  refine ⟨n3, ?_⟩
  refine tail_ok (B := B) (v1 := v1) (v2 := v2) (by simpa using n4) ⟨h4, h5, h6, h9, h10, h11, h12⟩ (by simp) fun fr' e1 e2 e3 e4 e5 => h fr' m' v1 v2 hR (by rw [e1]; simp) (by rw [e2]; simp) e3 e4 fun t ht g1 g2 => ?_
  rw [e5 t ht g1 g2]
  simp only [Fr.at_upd]
  rw [if_neg (by omega), if_neg (by omega), if_neg (by omega), if_neg (by omega)]
end
end Go.Proofs.Ytghhanifakllpaa
