/- Flows in the clean executor: less. -/
import Derived.Test.YtigbkoadojjajaaGreatWaZ
set_option linter.unusedSimpArgs false
set_option linter.unusedVariables false
namespace Go.Proofs.YtigbkoadojjajaaGreat
open Go.Clean
/-- A list of complex numbers that is read. -/
def RL (m : Mem) (v : Value) (l : List C) : Prop := (l = [] ∧ ∃ k, v = .slice none 0 k) ∨ (l ≠ [] ∧ ∃ b k x, v = .slice (some ⟨b, 0, none⟩) l.length k ∧ m.at b = some x ∧ ∀ (i : Nat) (z : C), l[i]? = some z → x.cells[i]? = some (cx z))
theorem RL.len {m : Mem} {v : Value} {l : List C} (h : RL m v l) : lenX Tryz.prog 33 v = some (.int .i64 l.length) := by
  rcases h with ⟨rfl, k, rfl⟩ | ⟨_, b, k, x, rfl, _⟩ <;> simp
theorem RL.up {m m' : Mem} {v : Value} {l : List C} (h : RL m v l) (hw : MW m) (u : Up m m') : RL m' v l := by
  rcases h with h | ⟨h, b, k, x, h1, h2, h3⟩
  · exact .inl h
  · exact .inr ⟨h, b, k, x, h1, u.at h2 hw, h3⟩
/-- A list of one's own, as a list. -/
def wl (l : List C) (i : Nat) : C := l[i]?.getD (none, none)
def OW (n0 : Nat) (m : Mem) (v : Value) (l : List C) : Prop := (l = [] ∧ v = nilL) ∨ (l ≠ [] ∧ ∃ b, v = .slice (some ⟨b, 0, none⟩) l.length l.length ∧ m.at b = some ⟨l.map cx, 1, true, false⟩ ∧ n0 ≤ b)
theorem OW.rl {n0 : Nat} {m : Mem} {v : Value} {l : List C} (h : OW n0 m v l) : RL m v l := by
  rcases h with ⟨rfl, rfl⟩ | ⟨h, b, h1, h2, _⟩
  · exact .inl ⟨rfl, 0, rfl⟩
  · exact .inr ⟨h, b, _, _, h1, h2, fun i z hz => by simp [hz]⟩
theorem OW.up {n0 : Nat} {m m' : Mem} {v : Value} {l : List C} (h : OW n0 m v l) (hw : MW m) (u : Up m m') : OW n0 m' v l := by
  rcases h with h | ⟨h, b, h1, h2, h3⟩
  · exact .inl h
  · exact .inr ⟨h, b, h1, u.at h2 hw, h3⟩
theorem all_cx (l : List C) : (l.map cx).all oneV = true := by
  rw [List.all_eq_true]
  intro v hv
  obtain ⟨i, _, rfl⟩ := List.mem_map.1 hv
  rfl
theorem OW.push {m0 : Mem} {b1 : Nat} {m : Mem} {v : Value} {l : List C} {x : C} {Q : Value → Mem → Prop} (h : OW m0.next m v l) (hb1 : m.at b1 = some ⟨[cx x], 1, false, false⟩) (hw : MW m0) (hu : Up m0 m) (hn : l.length ≤ 1000)
    (q : ∀ m' v', Up m0 m' → m.next ≤ m'.next → OW m0.next m' v' (l ++ [x]) → (∀ c y, m.at c = some y → (∀ k, v ≠ .slice (some ⟨c, 0, none⟩) l.length k) → m'.at c = some y) → Q v' m') : Gives (appendX Tryz.prog 33 33 v (.slice (some ⟨b1, 0, none⟩) 1 1)) m Q := by
  have mw := hu.wf hw
  have h0 := hu.next
  rcases h with ⟨rfl, rfl⟩ | ⟨hp, b, rfl, h2, h3⟩
  · refine gives_push app_C (b := m.next) (l := []) hb1 (.inl ⟨rfl, rfl⟩) rfl (one_cx _) (by decide) fun m2 n2 a2 o2 => ?_
    refine q _ _ ⟨by omega, fun c hc => by rw [o2 c (by omega) (by omega)]; exact hu.old c hc, fun _ c y hc => ?_⟩ (by omega) (.inr ⟨by simp, m.next, rfl, a2, h0⟩) (fun c y hc _ => by
      have := mw c y hc
      rw [o2 c (by omega) (by omega)]; exact hc)
    by_cases h1 : c = m.next
    · omega
    · rw [o2 c h1 h1] at hc
      have := mw c y hc
      omega
  · have hb := mw b _ h2
    refine gives_push app_C (b := b) (l := l.map cx) hb1 (.inr ⟨by simpa using hp, by simp, h2, by omega⟩) (all_cx l) (one_cx _) (by simp; omega) fun m2 n2 a2 o2 => ?_
    refine q _ _ ⟨by omega, fun c hc => by rw [o2 c (by omega) (by omega)]; exact hu.old c hc, fun _ c y hc => ?_⟩ (by omega) (.inr ⟨by simp, m.next, by simp, by rw [a2]; simp, h0⟩) (fun c y hc hne => by
      have := mw c y hc
      rw [o2 c (fun h => hne _ (by rw [h])) (by omega)]; exact hc)
    by_cases h1 : c = m.next
    · omega
    · by_cases h5 : c = b
      · omega
      · rw [o2 c h5 h1] at hc
        have := mw c y hc
        omega
/-- Without the first so many that lie at g. -/
def lessL (g : G) : Nat → List (C × G) → List (C × G)
  | _, [] => []
  | 0, p :: l => p :: lessL g 0 l
  | k + 1, p :: l => if p.2 = g then lessL g k l else p :: lessL g (k + 1) l
def lsI (m0 : Mem) (v : Value) (z : C) (g : G) (K : Nat) (ps : List (C × G)) (j : Nat) (fr : Fr) (m' : Mem) : Prop := ∃ (i k : Nat) (dn : List (C × G)) (v7 : Value), i + j = ps.length ∧ fr.n = 31 ∧ fr.d = [] ∧ fr.at 1 = cx z ∧ fr.at 2 = .int .i64 k ∧ fr.at 7 = v7 ∧ fr.at 10 = v ∧ fr.at 11 = .int .i64 ps.length ∧ fr.at 12 = .int .i64 i ∧
  k ≤ 1000 ∧ dn.length ≤ i ∧ Up m0 m' ∧ OW m0.next m' v7 (dn.map (·.1)) ∧ dn ++ lessL g k (ps.drop i) = lessL g K ps
def lsR (m0 : Mem) (g : G) (K : Nat) (ps : List (C × G)) : CQ := fun r m' => r.1 = .exit 0 ∧ r.2.n = 31 ∧ r.2.d = [] ∧ Up m0 m' ∧ OW m0.next m' (r.2.at 7) ((lessL g K ps).map (·.1))
section
set_option maxRecDepth 10000
set_option maxHeartbeats 2000000 in
theorem less_ok (d : Nat) {m : Mem} {v : Value} {ps : List (C × G)} {K : Nat} {z : C} {g : G} (hw : MW m) (hv : RL m v (ps.map (·.1))) (hl : ps.length ≤ 1000) (hK : K ≤ 1000) (hps : ∀ p ∈ ps, WC p.1 p.2) (hz : WC z g) {Q : Value → Mem → Prop}
    (hQ : ∀ m' v', Up m m' → OW m.next m' v' ((lessL g K ps).map (·.1)) → Q v' m') :
    Gives (callN Tryz.prog known (d + 3) 46 [v, cx z, .int .i64 (K : Int)]) m Q := by
  refine gives_fn (nt := 31) rfl Tryz.func46 rfl rfl rfl (Nat.le_of_ble_eq_true rfl) fun fr hn hd hargs => ?_
  have h0 : fr.at 0 = _ := hargs 0 _ rfl
  have h1 : fr.at 1 = _ := hargs 1 _ rfl
  have h2 : fr.at 2 = _ := hargs 2 _ rfl
  clear hargs
  have hlen := hv.len
  rw [List.length_map] at hlen
  simp [h0, hn, hlen]
  refine code_loop_post (lsR m g K ps) (lsI m v z g K ps) ps.length (by omega) ⟨0, K, [], nilL, by simp, by simp [hn], by simp [hd], by simp [h1], by simp [h2], by simp [nilL], by simp, by simp, by simp, hK, by simp, Up.refl m, .inl ⟨rfl, rfl⟩, by simp⟩ ?_ ?_
  · rintro j f m2 ⟨i, k, dn, v7, hij, f1, f2, f3, f4, f5, f6, f7, f8, hk, hdn, u2, w2, hsum⟩
    by_cases hi : i < ps.length
    · rcases hv.up hw u2 with ⟨h, -⟩ | ⟨_, b, kk, x, hv', hb, hx⟩
      · rw [List.map_eq_nil_iff.1 h] at hi
        simp at hi
      · have hxi := hx i (ps[i]).1 (by simp [hi])
        have hwc := hps _ (List.getElem_mem hi)
        rw [List.length_map] at hv'
        have hlk := run_plike (Q := fun _ _ => True) d _ _ hwc hz
        by_cases hrm : 0 < k ∧ (ps[i]).2 = g
        · obtain ⟨k', hk'⟩ : ∃ k', k = k' + 1 := ⟨k - 1, by omega⟩
          have hkp : 0 < k := by omega
          have hwk : IntKind.i64.wrap ((k : Int) - 1) = (k' : Int) := by rw [wrap_pred k (by omega) (by omega)]; omega
          simp [f1, f3, f4, f6, f7, f8, hi, hv', idx_L _ _ _ _ _ _ hi, hb, hxi, yieldX, boolOf_bool, hkp, run_plike _ _ _ hwc hz, hrm.2, hwk]
          have hst : lessL g k (ps.drop i) = lessL g k' (ps.drop (i + 1)) := by
            rw [List.drop_eq_getElem_cons hi, hk']
            exact if_pos hrm.2
          simp [f1, f8, wrap_succ i (by omega)]
          exact ⟨ps.length - (i + 1), by omega, i + 1, k', dn, v7, by omega, by simp [f1], by simp [f2], by simp [f3], by simp, by simp [f5], by simp [f6, hv'], by simp [f7], by simp, by omega, by omega, u2.trans (Up.rd _ _), w2.up (u2.wf hw) (Up.rd _ _), by rw [← hsum, hst]⟩
        · have hnm : (ps[i]).2 = g → k = 0 := fun h => by
            by_cases h0 : k = 0
            · exact h0
            · exact absurd ⟨by omega, h⟩ hrm
          have hst : lessL g k (ps.drop i) = ps[i] :: lessL g k (ps.drop (i + 1)) := by
            rw [List.drop_eq_getElem_cons hi]
            cases k with
            | zero => rfl
            | succ k => exact if_neg fun h => by have := hnm h; omega
          by_cases hk0 : k = 0
          · have hkn : ¬ 0 < k := by omega
            simp [f1, f3, f4, f6, f7, f8, hi, hv', idx_L _ _ _ _ _ _ hi, hb, hxi, yieldX, boolOf_bool, hkn]
            refine gives_build1 bs_C (cells_cx _) (one_cx _) ?_
            obtain ⟨m3, hm3⟩ : ∃ m3, m3 = (m2.rd b).nw ⟨[cx (ps[i]).1], 1, false, false⟩ := ⟨_, rfl⟩
            have u3 : Up m2 m3 := by rw [hm3]; exact Up.trans (Up.rd _ _) (Up.nw _ _)
            have a3 : m3.at m2.next = some ⟨[cx (ps[i]).1], 1, false, false⟩ := by rw [hm3]; simp
            simp [f1, f5, appC_slice]
            rw [← hm3]
            refine (w2.up (u2.wf hw) u3).push a3 hw (u2.trans u3) (by simp; omega) fun m4 v4 u4 _ w4 _ => ?_
            simp [f1, f8, wrap_succ i (by omega)]
            exact ⟨ps.length - (i + 1), by omega, i + 1, k, dn ++ [ps[i]], v4, by omega, by simp [f1], by simp [f2], by simp [f3], by simp [f4], by simp, by simp [f6, hv'], by simp [f7], by simp, hk, by simp; omega, u4, by simpa using w4, by rw [List.append_assoc, ← hsum, hst]; rfl⟩
          · have hkp : 0 < k := by omega
            have hne : ¬ (ps[i]).2 = g := fun h => hk0 (hnm h)
            simp [f1, f3, f4, f6, f7, f8, hi, hv', idx_L _ _ _ _ _ _ hi, hb, hxi, yieldX, boolOf_bool, hkp, run_plike _ _ _ hwc hz, hne]
            refine gives_build1 bs_C (cells_cx _) (one_cx _) ?_
            obtain ⟨m3, hm3⟩ : ∃ m3, m3 = (m2.rd b).nw ⟨[cx (ps[i]).1], 1, false, false⟩ := ⟨_, rfl⟩
            have u3 : Up m2 m3 := by rw [hm3]; exact Up.trans (Up.rd _ _) (Up.nw _ _)
            have a3 : m3.at m2.next = some ⟨[cx (ps[i]).1], 1, false, false⟩ := by rw [hm3]; simp
            simp [f1, f5, appC_slice]
            rw [← hm3]
            refine (w2.up (u2.wf hw) u3).push a3 hw (u2.trans u3) (by simp; omega) fun m4 v4 u4 _ w4 _ => ?_
            simp [f1, f8, wrap_succ i (by omega)]
            exact ⟨ps.length - (i + 1), by omega, i + 1, k, dn ++ [ps[i]], v4, by omega, by simp [f1], by simp [f2], by simp [f3], by simp [f4], by simp, by simp [f6, hv'], by simp [f7], by simp, hk, by simp; omega, u4, by simpa using w4, by rw [List.append_assoc, ← hsum, hst]; rfl⟩
    · have he : i = ps.length := by omega
      subst he
      simp [f1, f7, f8]
      rw [List.drop_length] at hsum
      have : lessL g k [] = [] := by cases k <;> rfl
      rw [this, List.append_nil] at hsum
      exact ⟨rfl, by simp [f1], by simp [f2], u2, by rw [← hsum]; simpa [f5] using w2⟩
  · rintro ⟨e, f⟩ m2 ⟨he, f1, f2, u2, w2⟩
    obtain rfl : e = .exit 0 := he
    simp only at f1 f2 w2
    simp [f1, f2]
    exact hQ _ _ u2 w2
end
end Go.Proofs.YtigbkoadojjajaaGreat

/- Flows in the clean executor: products with nought. -/
namespace Go.Proofs.YtigbkoadojjajaaGreat
open Go.Clean
section
set_option maxRecDepth 10000
theorem none_yes (d : Nat) {m : Mem} {v : Value} {c : PG} (hv : PL m v 1 c) (hc : c 0 = g0) {Q : Value → Mem → Prop} (hQ : ∀ m', Sm m m' → Q (.bool true) m') :
    Gives (callN Tryz.prog known (d + 2) 72 [v]) m Q := by
  refine gives_fn (nt := 12) rfl Tryz.func72 rfl rfl rfl (Nat.le_of_ble_eq_true rfl) fun fr hn hd hargs => ?_
  have h0 : fr.at 0 = _ := hargs 0 _ rfl
  clear hargs
  obtain ⟨b, o, k, x, rfl, _, hb, hs, he⟩ := hv
  obtain ⟨z, hz, hwz⟩ := he 0 (by omega)
  have hl : cnought z = true := by rw [hwz.nought]; exact decide_eq_true hc
  have hi := idx_L b o 1 k 0 .i64 (by omega)
  simp at hi hz
  simp [h0, hn, hd, yieldX, hi, hb, hz, run_nought, hl]
  exact hQ _ (Sm.rd _ _)
theorem mul_nought (d : Nat) {m : Mem} {va vb : Value} {k : Nat} {a b : PG} (hw : MW m) (ha : RP m va 1 a) (hb : RP m vb k b) (ha0 : a 0 = g0) {Q : Value → Mem → Prop}
    (hQ : ∀ m' v, Up m m' → RP m' v 1 (fun _ => g0) → Q (.tuple ⟨[v, .int .i64 0]⟩) m') :
    Gives (callN Tryz.prog known (d + 10) 42 [va, vb]) m Q := by
  refine gives_fn (nt := 88) rfl Tryz.func42 rfl rfl rfl (Nat.le_of_ble_eq_true rfl) fun fr hn hd hargs => ?_
  have h0 : fr.at 0 = _ := hargs 0 _ rfl
  have h1 : fr.at 1 = _ := hargs 1 _ rfl
  clear hargs
  obtain ⟨ba, oa, ka, xa, rfl, _, hba, _, hea⟩ := id ha.pl
  obtain ⟨bb, ob, kb, xb, rfl, _, hbb, _, heb⟩ := id hb.pl
  simp [h0, h1, hn]
  refine both_ok _ ha.pl ha.ok hb.pl hb.ok fun m1 hs => ?_
  simp [h0, h1, hn]
  refine none_yes _ (ha.pl.keep hs.2) ha0 fun m2 hs2 => ?_
  simp [h0, h1, hn, yieldX]
  rw [cx_zero]
  refine gives_build1 bs_C (cells_cx _) (one_cx _) ?_
  have u2 := (hs.trans hs2).up
  simp [hn, hd]
  have hpl : PL (m2.nw ⟨[cx (some 0, some 0)], 1, false, false⟩) (.slice (some ⟨m2.next, 0, none⟩) 1 1) 1 (fun _ => g0) := by
    refine ⟨m2.next, 0, 1, ⟨[cx (some 0, some 0)], 1, false, false⟩, rfl, Nat.le_refl _, by simp, rfl, fun i hi => ⟨(some 0, some 0), ?_, WC.zero⟩⟩
    obtain rfl : i = 0 := by omega
    rfl
  exact hQ _ _ (u2.trans (Up.nw m2 ⟨[cx (some 0, some 0)], 1, false, false⟩)) ⟨hpl, ⟨by decide, by decide, fun _ => by unfold NB; decide, fun h => by omega⟩, fun _ _ => rfl⟩
end
end Go.Proofs.YtigbkoadojjajaaGreat

/- Flows in the clean executor: slices.Repeat. -/
namespace Go.Proofs.YtigbkoadojjajaaGreat
open Go.Clean
set_option maxRecDepth 100000
theorem gives_of {f : M Value} {m : Mem} {v : Value} {Q : Value → Mem → Prop} (h : f m = some (v, m)) (q : Q v m) : Gives f m Q := ⟨v, m, h, q⟩
theorem bmul0 (d : Nat) (m : Mem) : callN Tryz.prog known (d + 3) 69 [.int .u64 1, .int .u64 0] m = some (.tuple ⟨[.int .u64 0, .int .u64 0]⟩, m) := by kernel_rfl
theorem bmul1 (d : Nat) (m : Mem) : callN Tryz.prog known (d + 3) 69 [.int .u64 1, .int .u64 1] m = some (.tuple ⟨[.int .u64 0, .int .u64 1]⟩, m) := by kernel_rfl
theorem bmul2 (d : Nat) (m : Mem) : callN Tryz.prog known (d + 3) 69 [.int .u64 1, .int .u64 2] m = some (.tuple ⟨[.int .u64 0, .int .u64 2]⟩, m) := by kernel_rfl
theorem bmul3 (d : Nat) (m : Mem) : callN Tryz.prog known (d + 3) 69 [.int .u64 1, .int .u64 3] m = some (.tuple ⟨[.int .u64 0, .int .u64 3]⟩, m) := by kernel_rfl
theorem bmul (d : Nat) (m : Mem) (K : Nat) (h : K ≤ 3) {Q : Value → Mem → Prop} (q : Q (.tuple ⟨[.int .u64 0, .int .u64 (K : Int)]⟩) m) : Gives (callN Tryz.prog known (d + 3) 69 [.int .u64 1, .int .u64 (K : Int)]) m Q := by
  obtain rfl | rfl | rfl | rfl : K = 0 ∨ K = 1 ∨ K = 2 ∨ K = 3 := by omega
  · exact gives_of (bmul0 d m) q
  · exact gives_of (bmul1 d m) q
  · exact gives_of (bmul2 d m) q
  · exact gives_of (bmul3 d m) q
theorem gives_copy {P : Program} {t e : TypeId} (h : P.underlying t = some (.slice e)) (hs : sizeT P e = some 1) {m : Mem} {b o n c b2 o2 k c2 : Nat} {x y : Blk} {new l : List Value} {Q : Value → Mem → Prop} (hb : m.at b = some x) (hb2 : m.at b2 = some y)
    (hn : takeN y.cells o2 (Nat.min k n) = some new) (hro : x.ro = false) (ho : new.all oneV = true) (hl : lay x.cells o new = some l) (q : Q (.int .i64 (Nat.min k n)) (((m.rd b2).rd b).wr b (some { x with cells := l }))) :
    Gives (copyX P t (.slice (some ⟨b, o, none⟩) n c) (.slice (some ⟨b2, o2, none⟩) k c2)) m Q := by
  unfold copyX
  simp only [h, hs]
  have e1 : Gives (takenX (.slice (some ⟨b2, o2, none⟩) k c2) n 1) m fun a m' => a = some new ∧ m' = m.rd b2 := by
    show Gives (getB b2 >>= fun blk => M.ret (takeN blk.cells o2 (Nat.min k n * 1))) m _
    rw [gives_bind, gives_getB, hb2, optQ_some, gives_ret, Nat.mul_one]
    exact ⟨hn, rfl⟩
  rw [gives_bind]
  refine e1.mono fun a m' h1 => ?_
  obtain ⟨rfl, rfl⟩ := h1
  dsimp only
  rw [gives_bind, gives_getB, Mem.at_rd, hb, optQ_some]
  refine (gives_bind _ _ _ _).2 ((gives_guard _ _ _).2 ⟨by rw [hro, ho]; rfl, ?_⟩)
  refine (gives_laid _ _ _ (fun l => (do setB b (some { x with cells := l }); M.ret (Value.int .i64 (Nat.min k n)))) _ _).2 ?_
  rw [hl, optQ_some, gives_bind, gives_setB, gives_ret]
  exact q
theorem gives_slice_lo {b len cap k : Nat} {q : IntKind} {m : Mem} {Q : Value → Mem → Prop} {x : Blk} (hb : m.at b = some x) (hs : x.sz = 1) (hk : k < len) (hc : len ≤ cap) (h : Q (.slice (some ⟨b, k, none⟩) (len - k) (cap - k)) (m.rd b)) :
    Gives (sliceX Tryz.prog 33 (.slice (some ⟨b, 0, none⟩) len cap) (some (.int q k)) none none) m Q := by
  unfold sliceX
  simp only [under_L, size_c]
  rw [gives_bind, gives_getB, hb, optQ_some, gives_bind, gives_guard]
  refine ⟨by rw [hs]; rfl, ?_⟩
  have e1 : boundX (some (Value.int q (k : Int))) 0 len = some k := by
    show (bif decide (0 ≤ (k : Int) ∧ (k : Int) ≤ (len : Int)) then some (Int.toNat (k : Int)) else none) = some k
    have : decide (0 ≤ (k : Int) ∧ (k : Int) ≤ (len : Int)) = true := by simp; omega
    rw [this]; simp
  have e2 : boundX none len cap = some len := rfl
  have e3 : (cap == k) = false := by rw [beq_eq_false_iff_ne]; omega
  simp only [e1, e2, e3, Nat.zero_add, Nat.mul_one, cond_false, Bool.not_false, Bool.true_or, cond_true]
  rw [gives_ret]
  exact h
theorem cv_iu (K : Nat) (h : K ≤ 3) : convX Tryz.prog 3 106 (.int .i64 (K : Int)) = some (.int .u64 (K : Int)) := by
  obtain rfl | rfl | rfl | rfl : K = 0 ∨ K = 1 ∨ K = 2 ∨ K = 3 := by omega
  all_goals kernel_rfl
theorem cv_iu1 : convX Tryz.prog 3 106 (.int .i64 1) = some (.int .u64 1) := by kernel_rfl
theorem cv_ui (K : Nat) (h : K ≤ 3) : convX Tryz.prog 106 3 (.int .u64 (K : Int)) = some (.int .i64 (K : Int)) := by
  obtain rfl | rfl | rfl | rfl : K = 0 ∨ K = 1 ∨ K = 2 ∨ K = 3 := by omega
  all_goals kernel_rfl
@[simp] theorem nd_slice {d : Option Tmp} {ty : TypeId} {pos : String} {af : Array Edge} {g : Option (Nat × Bool)} (t : TypeId) (x : Operand) (lo hi mx : Option Operand) : isDefer ⟨d, .slice t x lo hi mx, ty, pos, af, g⟩ = false := by cases d <;> rfl
def rpI (m0 : Mem) (a : Value) (b K : Nat) (k : Nat) (fr : Fr) (m' : Mem) : Prop := ∃ j, j + k = K ∧ (0 < j ∨ K = 0) ∧ fr.n = 48 ∧ fr.d = [] ∧ fr.at 7 = .slice (some ⟨b, 0, none⟩) K K ∧ fr.at 8 = .int .i64 (j : Nat) ∧
  Up m0 m' ∧ m0.next ≤ b ∧ b < m'.next ∧ m'.at b = some ⟨List.replicate j a ++ List.replicate k (.complex .f64 0 0), 1, false, false⟩
def rpR (m0 : Mem) (a : Value) (b K : Nat) : CQ := fun r m' => r.1 = .exit 0 ∧ r.2.n = 48 ∧ r.2.d = [] ∧ r.2.at 7 = .slice (some ⟨b, 0, none⟩) K K ∧ Up m0 m' ∧ m0.next ≤ b ∧ b < m'.next ∧ m'.at b = some ⟨List.replicate K a, 1, false, false⟩
set_option maxHeartbeats 2000000 in
theorem repeat_ok (d : Nat) {m : Mem} {p K : Nat} {z : C} (hw : MW m) (hp : m.at p = some ⟨[cx z], 1, false, false⟩) (hK : K ≤ 3) {Q : Value → Mem → Prop}
    (hQ : ∀ m' b, Up m m' → m.next ≤ b → b < m'.next → m'.at b = some ⟨List.replicate K (cx z), 1, false, false⟩ → Q (.slice (some ⟨b, 0, none⟩) K K) m') :
    Gives (callN Tryz.prog known (d + 4) 36 [.slice (some ⟨p, 0, none⟩) 1 1, .int .i64 (K : Int)]) m Q := by
  refine gives_fn (nt := 48) rfl Tryz.func36 rfl rfl rfl (Nat.le_of_ble_eq_true rfl) fun fr hn hd hargs => ?_
  have h0 : fr.at 0 = _ := hargs 0 _ rfl
  have h1 : fr.at 1 = _ := hargs 1 _ rfl
  clear hargs
  have hK0 : ¬ (K : Int) < 0 := by omega
  simp [h0, h1, hn, hd, hK0, cv_iu K hK, cv_iu1]
  refine bmul _ _ K hK ?_
  have hK1 : ¬ (9223372036854775807 : Int) < (K : Int) := by omega
  simp [h0, hn, hd, yieldX, hK1, cv_ui K hK]
  refine gives_make (l := K) mk_L (Nat.le_refl _) (by omega) ?_
  simp [h0, hn]
  have hlt : p ≠ m.next := fun h => by have := hw p _ hp; omega
  refine gives_copy (x := ⟨List.replicate K (.complex .f64 0 0), 1, false, false⟩) (y := ⟨[cx z], 1, false, false⟩) (new := List.replicate (Nat.min 1 K) (cx z)) (l := List.replicate (Nat.min 1 K) (cx z) ++ List.replicate (K - Nat.min 1 K) (.complex .f64 0 0)) under_L size_c (by simp) (by simp [hlt, hp]) ?_ rfl ?_ ?_ ?_
  · obtain rfl | rfl | rfl | rfl : K = 0 ∨ K = 1 ∨ K = 2 ∨ K = 3 := by omega
    all_goals rfl
  · obtain rfl | rfl | rfl | rfl : K = 0 ∨ K = 1 ∨ K = 2 ∨ K = 3 := by omega
    all_goals rfl
  · obtain rfl | rfl | rfl | rfl : K = 0 ∨ K = 1 ∨ K = 2 ∨ K = 3 := by omega
    all_goals rfl
  obtain ⟨q, hq⟩ : ∃ q, q = Nat.min 1 K := ⟨_, rfl⟩
  have hqK : q ≤ K := by rw [hq]; exact Nat.min_le_right 1 K
  have hq1 : q = 1 ∨ K = 0 := by
    by_cases h : K = 0
    · exact .inr h
    · exact .inl (by rw [hq]; exact Nat.min_eq_left (by omega))
  rw [← hq]
  clear hq
  obtain ⟨M, hM⟩ : ∃ M, M = (((m.nw ⟨List.replicate K (.complex .f64 0 0), 1, false, false⟩).rd p).rd m.next).wr m.next (some ⟨List.replicate (q) (cx z) ++ List.replicate (K - q) (.complex .f64 0 0), 1, false, false⟩) := ⟨_, rfl⟩
  have uM : Up m M := by
    rw [hM]
    exact Up.wr (m1 := ((m.nw ⟨List.replicate K (.complex .f64 0 0), 1, false, false⟩).rd p).rd m.next) ((Up.nw _ _).trans ((Up.rd _ p).trans (Up.rd _ m.next))) (b := m.next) (x := ⟨List.replicate (q) (cx z) ++ List.replicate (K - q) (.complex .f64 0 0), 1, false, false⟩) (Nat.le_refl _) (by simp) (by simp) (fun c => by simp)
  have aM : M.at m.next = some ⟨List.replicate (q) (cx z) ++ List.replicate (K - q) (.complex .f64 0 0), 1, false, false⟩ := by rw [hM]; simp
  have nM : m.next < M.next := by rw [hM]; simp
  rw [← hM]
  clear hM
  simp [hn]
  refine code_loop_post (rpR m (cx z) m.next K) (rpI m (cx z) m.next K) (K - q) (by omega) ⟨q, by omega, by omega, by simp [hn], by simp [hd], by simp, by simp, uM, Nat.le_refl _, nM, aM⟩ ?_ ?_
  · rintro k f m2 ⟨j, hjk, hj, f1, f2, f3, f4, u2, n2, n3, a2⟩
    by_cases hk : k = 0
    · subst hk
      obtain rfl : j = K := by omega
      simp [f1, f3, f4]
      exact ⟨rfl, by simp [f1], by simp [f2], by simp [f3], u2, n2, n3, by rw [a2]; simp⟩
    · have hjK : (j : Int) < (K : Int) := by omega
      simp [f1, f3, f4, hjK]
      refine code_draw_dyn (plan := [0, 0, 0, 6, 0, 0, 48, 126, 255, 511]) (by kernel_rfl) ?_
      simp [drawQ, apartAll, apartL, Nat.testBit, f1, f3, f4]
      refine gives_slice_lo (x := ⟨List.replicate j (cx z) ++ List.replicate k (.complex .f64 0 0), 1, false, false⟩) (by simp [a2]) rfl (by omega) (Nat.le_refl _) ?_
      simp [drawQ, apartAll, apartL, Nat.testBit, f1, f3, f4]
      refine gives_slice_hi (x := ⟨List.replicate j (cx z) ++ List.replicate k (.complex .f64 0 0), 1, false, false⟩) (by simp [a2]) rfl (by omega) ?_
      simp [drawQ, apartAll, apartL, Nat.testBit, f1, f3, f4]
      obtain ⟨c, hc⟩ : ∃ c, c = Nat.min j (K - j) := ⟨_, rfl⟩
      have hck : c ≤ K - j := by rw [hc]; exact Nat.min_le_right ..
      obtain ⟨k', hk'⟩ : ∃ k', k' + c = k := ⟨k - c, by omega⟩
      have hc0 : 0 < c := by rw [hc]; exact Nat.lt_min.2 ⟨by omega, by omega⟩
      have hcj : c ≤ j := by rw [hc]; exact Nat.min_le_left ..
      have hcase : (j = 1 ∧ k = 1 ∧ c = 1) ∨ (j = 1 ∧ k = 2 ∧ c = 1) ∨ (j = 2 ∧ k = 1 ∧ c = 1) := by omega
      refine gives_copy (x := ⟨List.replicate j (cx z) ++ List.replicate k (.complex .f64 0 0), 1, false, false⟩) (y := ⟨List.replicate j (cx z) ++ List.replicate k (.complex .f64 0 0), 1, false, false⟩) (new := List.replicate c (cx z)) (l := List.replicate (j + c) (cx z) ++ List.replicate k' (.complex .f64 0 0)) under_L size_c (by simp [a2]) (by simp [a2]) ?_ rfl ?_ ?_ ?_
      · rw [← hc]
        obtain ⟨rfl, rfl, rfl⟩ | ⟨rfl, rfl, rfl⟩ | ⟨rfl, rfl, rfl⟩ := hcase
        all_goals rfl
      · obtain ⟨rfl, rfl, rfl⟩ | ⟨rfl, rfl, rfl⟩ | ⟨rfl, rfl, rfl⟩ := hcase
        all_goals rfl
      · obtain rfl : k' = k - c := by omega
        obtain ⟨rfl, rfl, h⟩ | ⟨rfl, rfl, h⟩ | ⟨rfl, rfl, h⟩ := hcase
        all_goals
          rw [h]
          rfl
      rw [← hc]
      have hw2 : IntKind.i64.wrap ((j : Int) + (c : Int)) = ((j + c : Nat) : Int) := wrap_add j c (by omega)
      simp [drawQ, apartAll, apartL, Nat.testBit, f1, hw2]
      exact ⟨k', by omega, j + c, by omega, by omega, by simp [f1], by simp [f2], by simp [f3], by simp, Up.wr (m1 := m2) (x := ⟨List.replicate (j + c) (cx z) ++ List.replicate k' (.complex .f64 0 0), 1, false, false⟩) u2 n2 n3 (by simp) (fun b => by simp), n2, by simpa using n3, by simp⟩
  · rintro ⟨e, f⟩ m2 ⟨he, f1, f2, f3, u2, n2, n3, a2⟩
    obtain rfl : e = .exit 0 := he
    simp only at f1 f2 f3
    simp [f1, f2, f3]
    exact hQ _ _ u2 n2 n3 a2
end Go.Proofs.YtigbkoadojjajaaGreat

/- Flows in the clean executor: rootsOf. -/
namespace Go.Proofs.YtigbkoadojjajaaGreat
open Go.Clean
section
variable {P : Program} {call : Caller} {ops : Array Oper} {fr : Fr} {m : Mem} {Q : Fr → Mem → Prop} {ty : TypeId} {pos : String} {af : Array Edge} {d : Option Tmp}
def maxX : Value → Value → Option Value
  | .int k a, .int _ b => some (.int k (bif decide (b > a) then b else a))
  | .float .f64 a, .float .f64 b => match Ieee.double.order a b with
    | some .lt => some (.float .f64 b)
    | some .gt => some (.float .f64 a)
    | some .eq => some (.float .f64 (bif (Ieee.double.read a).neg then b else a))
    | none => some (.float .f64 noNum)
  | _, _ => none
@[simp] theorem maxX_int (k q : IntKind) (a b : Nat) : maxX (.int k (a : Int)) (.int q (b : Int)) = some (.int k ((Nat.max a b : Nat) : Int)) := by
  unfold maxX
  by_cases h : a < b
  · have h1 : ((b : Int) > (a : Int)) := by omega
    simp only [h1, decide_true, cond_true]
    rw [show Nat.max a b = b from Nat.max_eq_right (Nat.le_of_lt h)]
  · have h1 : ¬ ((b : Int) > (a : Int)) := by omega
    simp only [h1, decide_false, cond_false]
    rw [show Nat.max a b = a from Nat.max_eq_left (by omega)]
@[simp] theorem step_max (x y : Operand) (t u : TypeId) : Gives (stepDX P call ops fr ⟨d, .call ⟨.builtin .max, #[x, y], #[t, u]⟩, ty, pos, af, none⟩) m Q ↔ optQ (ev fr x) fun v => optQ (ev fr y) fun w => optQ (maxX v w) fun r => putQ fr d Q r m := by
  rw [step_any rfl rfl]
  unfold opX callX
  simp only [evs_cons, evs_nil]
  cases ev fr x with
  | none => exact gives_fail _ _
  | some v =>
    cases ev fr y with
    | none => exact gives_fail _ _
    | some w =>
      refine Iff.trans ?_ (gives_lift (maxX v w) m (putQ fr d Q))
      simp only [ocons_some, optQ_some]
      cases v with
      | float k a =>
        cases k <;> cases w <;> try exact Iff.rfl
        rename_i q b
        cases q
        · exact Iff.rfl
        · show Gives (match Ieee.double.order a b with
                  | some .lt => M.ret (.float .f64 b)
                  | some .gt => M.ret (.float .f64 a)
                  | some .eq => M.ret (.float .f64 (bif (Ieee.double.read a).neg then b else a))
                  | none => M.ret (.float .f64 noNum)) m (putQ fr d Q) ↔ Gives (M.lift (match Ieee.double.order a b with
                  | some .lt => some (.float .f64 b)
                  | some .gt => some (.float .f64 a)
                  | some .eq => some (.float .f64 (bif (Ieee.double.read a).neg then b else a))
                  | none => some (.float .f64 noNum))) m (putQ fr d Q)
          cases Ieee.double.order a b with
          | none => exact Iff.rfl
          | some o => cases o <;> exact Iff.rfl
      | _ => cases w <;> exact Iff.rfl
end
theorem OW.app {m0 : Mem} {b1 c1 : Nat} {m : Mem} {v : Value} {l new : List C} {gr ro : Bool} {Q : Value → Mem → Prop} (h : OW m0.next m v l) (hb1 : m.at b1 = some ⟨new.map cx, 1, gr, ro⟩) (hne : new ≠ []) (hw : MW m0) (hu : Up m0 m) (hn : l.length + new.length ≤ 1000)
    (q : ∀ m' v', Up m0 m' → m'.next = m.next + 1 → OW m0.next m' v' (l ++ new) → (∀ b n k, v' = .slice (some ⟨b, 0, none⟩) n k → b = m.next) → (∀ c y, m.at c = some y → (∀ k, v ≠ .slice (some ⟨c, 0, none⟩) l.length k) → m'.at c = some y) → Q v' m') :
    Gives (appendX Tryz.prog 33 33 v (.slice (some ⟨b1, 0, none⟩) new.length c1)) m Q := by
  have mw := hu.wf hw
  have h0 := hu.next
  have hlen : 0 < new.length := List.length_pos_iff.2 hne
  have ht : takeN (new.map cx) 0 (new.length * 1) = some (new.map cx) := takeN_get _ _ _ _ (by simp) (fun i hi => by rw [Nat.zero_add]) (.inr (by simp))
  rcases h with ⟨rfl, rfl⟩ | ⟨hp, b, rfl, h2, h3⟩
  · refine gives_append_new app_C hb1 ht (all_cx new) hlen (by simp at hn; omega) ?_
    refine q _ _ (hu.trans ((Up.rd _ _).trans (Up.nw _ _))) (by simp) (.inr ⟨by simpa using hne, m.next, by simp, by simp, h0⟩) (fun b n k hv => by
      injection hv with h1; injection h1 with h1; injection h1 with h1; exact h1.symm) fun c y hc _ => ?_
    have := mw c y hc
    simp [hc, show c ≠ m.next by omega]
  · have hb := mw b _ h2
    refine gives_append_grow app_C h2 (by simp) hb1 ht (all_cx l) (all_cx new) hlen (by omega) ?_
    have u1 : Up m0 (((m.rd b1).rd b).wr b none) := Up.gone (m1 := m) hu h3 (by simp) fun c => by simp
    refine q _ _ (u1.trans (Up.nw _ _)) (by simp) (.inr ⟨by simp [hp], m.next, by simp, by simp, h0⟩) (fun b n k hv => by
      injection hv with h1; injection h1 with h1; injection h1 with h1; exact h1.symm) fun c y hc hne => ?_
    have := mw c y hc
    have hcb : c ≠ b := fun h => hne _ (by rw [h])
    simp [hc, hcb, show c ≠ m.next by omega]
/-! ### The roots, plainly -/
def mostF (g : G) : List (El × G) → Nat → Nat
  | [], k => k
  | p :: l, k => mostF g l (if g = p.2 then Nat.max k (foldsN p.1.k p.1.n) else k)
def rootsGo (all : List (El × G)) : List (El × G) → List G → List (C × G)
  | [], _ => []
  | p :: l, seen => if foldsN p.1.k p.1.n = 0 ∨ p.2 ∈ seen then rootsGo all l seen else List.replicate (mostF p.2 all 0) (p.1.a, p.2) ++ rootsGo all l (seen ++ [p.2])
theorem KP.folds {k : Int} {p n : Nat} (h : KP k p n) : foldsN k n ≤ 3 := by cases h <;> decide
theorem mostF_le {g : G} : ∀ {l : List (El × G)} {k : Nat}, (∀ p ∈ l, p.1.OK) → k ≤ 3 → mostF g l k ≤ 3
  | [], k, _, h => h
  | p :: l, k, ho, h => by
    unfold mostF
    refine mostF_le (fun q hq => ho q (List.mem_cons_of_mem _ hq)) ?_
    split
    · exact Nat.max_le.2 ⟨h, (ho p (List.mem_cons_self ..)).kp.folds⟩
    · exact h
theorem mostF_ge {g : G} : ∀ {l : List (El × G)} {k : Nat}, k ≤ mostF g l k
  | [], k => Nat.le_refl _
  | p :: l, k => by
    refine Nat.le_trans ?_ (mostF_ge (l := l))
    split
    · exact Nat.le_max_left ..
    · exact Nat.le_refl _
theorem mostF_mem {g : G} : ∀ {l : List (El × G)} {k : Nat} {p : El × G}, p ∈ l → p.2 = g → foldsN p.1.k p.1.n ≤ mostF g l k
  | q :: l, k, p, hp, hg => by
    rcases List.mem_cons.1 hp with rfl | hp
    · refine Nat.le_trans ?_ (mostF_ge (l := l))
      rw [if_pos hg.symm]
      exact Nat.le_max_right ..
    · exact mostF_mem (l := l) hp hg
end Go.Proofs.YtigbkoadojjajaaGreat
