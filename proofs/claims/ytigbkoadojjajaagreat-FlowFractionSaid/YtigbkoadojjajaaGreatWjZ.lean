/- Flows in the clean executor: rootsOf. -/
import Derived.Test.YtigbkoadojjajaaGreatWeZ
set_option linter.unusedSimpArgs false
set_option linter.unusedVariables false
namespace Go.Proofs.YtigbkoadojjajaaGreat
open Go.Clean
theorem OW.wg {n0 : Nat} {m : Mem} {v : Value} {l : List (C × G)} (h : OW n0 m v (l.map (·.1))) (hl : ∀ p ∈ l, WC p.1 p.2) : WG m v (wl (l.map (·.1))) (fun i => (l[i]?.map (·.2)).getD g0) l.length := by
  have hlw : lw (wl (l.map (·.1))) l.length = (l.map (·.1)).map cx := by
    apply List.ext_getElem
    · simp
    · intro i h1 h2
      simp at h1 h2
      simp [lw, wl, h1]
  refine ⟨?_, fun i hi => by simp [wl, hi]; exact hl _ (List.getElem_mem hi)⟩
  rcases h with ⟨h, rfl⟩ | ⟨h, b, h1, h2, _⟩
  · left
    exact ⟨by simpa using h, rfl⟩
  · right
    refine ⟨List.length_pos_iff.2 (by simpa using h), b, by simpa using h1, by rw [hlw]; exact h2⟩
theorem wg_mem {l : List (C × G)} {g : G} : (∃ t, t < l.length ∧ (l[t]?.map (·.2)).getD g0 = g) ↔ g ∈ l.map (·.2) := by
  constructor
  · rintro ⟨t, h, e⟩
    rw [List.getElem?_eq_getElem h] at e
    exact List.mem_map.2 ⟨_, List.getElem_mem h, e⟩
  · intro h
    obtain ⟨p, hp, e⟩ := List.mem_map.1 h
    obtain ⟨t, ht, rfl⟩ := List.getElem_of_mem hp
    exact ⟨t, ht, by rw [List.getElem?_eq_getElem ht]; exact e⟩
/-- The flow's elements with their places, as whole numbers. -/
structure PE (p : El × G) : Prop where
  ok : p.1.OK
  wc : WC p.1.a p.2
theorem OW.ne {n0 : Nat} {m : Mem} {v : Value} {l : List C} (h : OW n0 m v l) {c : Nat} {cs : List Value} {sz : Nat} {ro : Bool} (hc : m.at c = some ⟨cs, sz, false, ro⟩) (k : Nat) : v ≠ .slice (some ⟨c, 0, none⟩) l.length k := by
  intro e
  rcases h with ⟨_, rfl⟩ | ⟨_, b, rfl, h2, _⟩
  · cases e
  · injection e with h1; injection h1 with h1; injection h1 with h1
    subst h1
    rw [h2] at hc
    cases hc
theorem rootsGo_cons (all : List (El × G)) (p : El × G) (l : List (El × G)) (seen : List G) : rootsGo all (p :: l) seen = if foldsN p.1.k p.1.n = 0 ∨ p.2 ∈ seen then rootsGo all l seen else List.replicate (mostF p.2 all 0) (p.1.a, p.2) ++ rootsGo all l (seen ++ [p.2]) := rfl
theorem OW.frame {n0 : Nat} {m m' : Mem} {v : Value} {l : List C} (h : OW n0 m v l) (f : ∀ b n k x, v = .slice (some ⟨b, 0, none⟩) n k → m.at b = some x → m'.at b = some x) : OW n0 m' v l := by
  rcases h with h | ⟨h, b, h1, h2, h3⟩
  · exact .inl h
  · exact .inr ⟨h, b, h1, f b _ _ _ h1 h2, h3⟩
theorem OW.old {n0 : Nat} {m : Mem} {v : Value} {l : List C} (h : OW n0 m v l) (hw : MW m) {b n k : Nat} (e : v = .slice (some ⟨b, 0, none⟩) n k) : b < m.next := by
  rcases h with ⟨_, rfl⟩ | ⟨h, b', h1, h2, h3⟩
  · cases e
  · rw [h1] at e
    injection e with e1; injection e1 with e1; injection e1 with e1
    subst e1
    exact hw _ _ h2
structure RF (fr : Fr) (p0 : Nat) (v : Value) (n i : Nat) : Prop where
  fn : fr.n = 57
  fd : fr.d = []
  a1 : fr.at 1 = .pointer (some ⟨p0, 0, none⟩)
  a11 : fr.at 11 = v
  a12 : fr.at 12 = .int .i64 (n : Nat)
  a13 : fr.at 13 = .int .i64 (i : Nat)
def rjI (mS : Mem) (v q3 q4 : Value) (p0 p6 i : Nat) (g : G) (ps : List (El × G)) (q : Nat) (fr : Fr) (m' : Mem) : Prop := ∃ j K, j + q = ps.length ∧ RF fr p0 v ps.length i ∧ fr.at 3 = q3 ∧ fr.at 4 = q4 ∧ fr.at 6 = .pointer (some ⟨p6, 0, none⟩) ∧ fr.at 7 = .int .i64 (K : Nat) ∧ fr.at 32 = v ∧ fr.at 33 = .int .i64 ps.length ∧ fr.at 34 = .int .i64 (j : Nat) ∧
  Up mS m' ∧ mostF g (ps.drop j) K = mostF g ps 0
def rjR (mS : Mem) (v q3 q4 : Value) (p0 p6 i : Nat) (g : G) (ps : List (El × G)) : CQ := fun r m' => r.1 = .exit 2 ∧ RF r.2 p0 v ps.length i ∧ r.2.at 3 = q3 ∧ r.2.at 4 = q4 ∧ r.2.at 6 = .pointer (some ⟨p6, 0, none⟩) ∧ r.2.at 7 = .int .i64 (mostF g ps 0 : Nat) ∧ Up mS m'
def roI (m0 : Mem) (v : Value) (p0 : Nat) (ps : List (El × G)) (k : Nat) (fr : Fr) (m' : Mem) : Prop := ∃ (i : Nat) (sn out : List (C × G)), i + k = ps.length ∧ RF fr p0 v ps.length i ∧ Up m0 m' ∧ m0.next ≤ p0 ∧ m'.at p0 = some ⟨[v], 1, false, false⟩ ∧
  OW m0.next m' (fr.at 3) (sn.map (·.1)) ∧ OW m0.next m' (fr.at 4) (out.map (·.1)) ∧ (∀ b n k n' k', fr.at 3 = .slice (some ⟨b, 0, none⟩) n k → fr.at 4 ≠ .slice (some ⟨b, 0, none⟩) n' k') ∧ (∀ p ∈ sn, WC p.1 p.2) ∧ sn.length ≤ i ∧ out.length ≤ 3 * i ∧
  out ++ rootsGo ps (ps.drop i) (sn.map (·.2)) = rootsGo ps ps []
def roR (m0 : Mem) (ps : List (El × G)) : CQ := fun r m' => r.1 = .exit 0 ∧ r.2.n = 57 ∧ r.2.d = [] ∧ Up m0 m' ∧ OW m0.next m' (r.2.at 4) ((rootsGo ps ps []).map (·.1))
section
set_option maxRecDepth 10000
set_option maxHeartbeats 2000000 in
theorem roots_ok (d : Nat) {m : Mem} {v : Value} {ps : List (El × G)} (hw : MW m) (hv : EL m v (ps.map (·.1))) (hl : ps.length ≤ 3) (hps : ∀ p ∈ ps, PE p) {Q : Value → Mem → Prop}
    (hQ : ∀ m' v', Up m m' → OW m.next m' v' ((rootsGo ps ps []).map (·.1)) → Q v' m') :
    Gives (callN Tryz.prog known (d + 8) 19 [.agg ⟨[v]⟩]) m Q := by
  refine gives_fn (nt := 57) rfl Tryz.func19 rfl rfl rfl (Nat.le_of_ble_eq_true rfl) fun fr hn hd hargs => ?_
  have h0 : fr.at 0 = _ := hargs 0 _ rfl
  clear hargs
  obtain ⟨m1, hm1⟩ : ∃ m1, m1 = m.nw ⟨[v], 1, false, false⟩ := ⟨_, rfl⟩
  have u1 : Up m m1 := by rw [hm1]; exact Up.nw _ _
  have e1 : m1.at m.next = some ⟨[v], 1, false, false⟩ := by rw [hm1]; simp
  have hlen := hv.len
  rw [List.length_map] at hlen
  refine (code_seq _ _ _ _ _).2 ?_
  simp [h0, hn, hv.one, -code_seq]
  rw [← hm1]
  simp [hn, e1, hlen]
  refine code_loop_post (roR m ps) (roI m v m.next ps) ps.length (by omega) ⟨0, [], [], by omega, ⟨by simp [hn], by simp [hd], by simp, by simp, by simp, by simp⟩, u1.trans (Up.rd _ _), Nat.le_refl _, by simpa using e1, .inl ⟨rfl, by simp [nilL]⟩, .inl ⟨rfl, by simp [nilL]⟩, by simp, by simp, by simp, by simp, by simp⟩ ?_ ?_
  · rintro k f m2 ⟨i, sn, out, hik, ⟨f1, f2, f3, f4, f5, f6⟩, u2, hp0, a2, w3, w4, hap, hsn, hsl, hol, hsum⟩
    have w2 := u2.wf hw
    by_cases hi : i < ps.length
    · have hat := hps _ (List.getElem_mem hi)
      have hi' : i < (ps.map (·.1)).length := by simpa using hi
      rcases hv.up hw u2 with ⟨h, -⟩ | ⟨hne, b, hv2, hb2⟩
      · rw [List.map_eq_nil_iff.1 h] at hi
        simp at hi
      · rw [List.length_map] at hv2
        simp [f1, f4, f5, f6, hi, hv2, idx_El _ _ _ _ hi, hb2, ld_El' hi', zero_El]
        refine ⟨rfl, storeQ_rule (y := ⟨[.int .u8 0, .complex .f64 0 0, .complex .f64 0 0, .float .f64 0], 1, false, false⟩) (by simp) rfl (by rw [sto_El]; rfl) (l := (ps[i]'hi).1.cells) rfl fun m4 n4 l4 e4 => ?_⟩
        simp only [Mem.next_rd, Mem.next_nw, Mem.at_rd, Mem.at_nw] at n4 e4
        have u4 : Up m2 m4 := Up.wr (m1 := (m2.rd b).nw ⟨[.int .u8 0, .complex .f64 0 0, .complex .f64 0 0, .float .f64 0], 1, false, false⟩) (Up.trans (Up.rd _ _) (Up.nw _ _)) (Nat.le_refl _) (by simp) (by simpa using n4) (fun c => by simpa using e4 c)
        have e5 : m4.at m2.next = some ⟨elL ps[i].1.k ps[i].1.a ps[i].1.s ps[i].1.p, 1, false, false⟩ := by rw [e4, if_pos rfl]; rfl
        obtain ⟨p6, hp6⟩ : ∃ p6, p6 = m2.next := ⟨_, rfl⟩
        rw [← hp6] at e5
        rw [← hp6]
        have u04 := u2.trans u4
        have n6 : p6 < m4.next := by omega
        have w34 := w3.up w2 u4
        have w44 := w4.up w2 u4
        have a4 := u4.at a2 w2
        clear e4 l4 n4 w3 w4
        have mw4 := u04.wf hw
        simp [f1, e5]
        refine folds_ok _ hat.ok.kp fun m5 u5 => ?_
        have u5' : Up m4 m5 := (Up.rd m4 p6).trans u5
        have u05 := u04.trans u5'
        have mw5 := u05.wf hw
        have n65 := Nat.lt_of_lt_of_le n6 u5'.next
        have w35 := w34.up mw4 u5'
        have w45 := w44.up mw4 u5'
        have a5 := u5'.at a4 mw4
        have e6 := u5'.at e5 mw4
        clear u5 u5' w34 w44 a4 e5 mw4 n6
        have hdrop : ps.drop i = ps[i] :: ps.drop (i + 1) := List.drop_eq_getElem_cons hi
        have hwi := wrap_succ i (by omega)
        by_cases hf : foldsN ps[i].1.k ps[i].1.n = 0
        · simp [f1, f6, hf, yieldX, boolOf_bool, hwi]
          rw [hdrop] at hsum
          rw [rootsGo_cons] at hsum
          rw [if_pos (.inl hf)] at hsum
          exact ⟨k - 1, by omega, i + 1, sn, out, by omega, ⟨by simp [f1], by simp [f2], by simp [f3], by simp [f4, hv2], by simp [f5], by simp⟩, u05, hp0, by rw [← hv2]; exact a5, by simpa using w35, by simpa using w45, by simpa using hap, hsn, by omega, by omega, hsum⟩
        · simp [f1, hf, yieldX, boolOf_bool, e6]
          have w36 := w35.up mw5 (Up.rd m5 p6)
          refine fknown_ok _ ((Up.rd m5 p6).wf mw5) (w36.wg hsn) (by omega) hat.wc fun m6 kn u6 hkn => ?_
          have hkn' := hkn.trans wg_mem
          have u6' : Up m5 m6 := (Up.rd m5 p6).trans u6
          have u06 := u05.trans u6'
          have mw6 := u06.wf hw
          have n66 := Nat.lt_of_lt_of_le n65 u6'.next
          have w37 := w35.up mw5 u6'
          have w47 := w45.up mw5 u6'
          have a6 := u6'.at a5 mw5
          have e7 := u6'.at e6 mw5
          clear u6 u6' w35 w45 w36 a5 e6 mw5 n65 hkn
          cases kn with
          | true =>
            have hk2 := hkn'.1 rfl
            simp [f1, f6, hwi]
            rw [hdrop] at hsum
            rw [rootsGo_cons] at hsum
            rw [if_pos (.inr hk2)] at hsum
            exact ⟨k - 1, by omega, i + 1, sn, out, by omega, ⟨by simp [f1], by simp [f2], by simp [f3], by simp [f4, hv2], by simp [f5], by simp⟩, u06, hp0, by rw [← hv2]; exact a6, by simpa using w37, by simpa using w47, by simpa using hap, hsn, by omega, by omega, hsum⟩
          | false =>
            have hk2 : ¬ ps[i].2 ∈ sn.map (·.2) := fun h => by have := hkn'.2 h; cases this
            simp [f1, e7]
            refine gives_build1 bs_C (cells_cx _) (one_cx _) ?_
            obtain ⟨m7, hm7⟩ : ∃ m7, m7 = (m6.rd p6).nw ⟨[cx ps[i].1.a], 1, false, false⟩ := ⟨_, rfl⟩
            have u7 : Up m6 m7 := by rw [hm7]; exact Up.trans (Up.rd _ _) (Up.nw _ _)
            have c7 : m7.at m6.next = some ⟨[ps[i].1.a].map cx, 1, false, false⟩ := by rw [hm7]; simp
            have w38 := w37.up mw6 u7
            have w48 := w47.up mw6 u7
            have a7 := u7.at a6 mw6
            have e8 := u7.at e7 mw6
            have u07 := u06.trans u7
            have mw7 := u07.wf hw
            have n67 := Nat.lt_of_lt_of_le n66 u7.next
            simp [f1]
            rw [← hm7]
            clear hm7 u7 w37 w47 a6 e7 mw6 u06 n66
            refine w38.app (new := [ps[i].1.a]) (c1 := 1) c7 (by simp) hw u07 (by simp; omega) fun m8 v8 u08 n8 w39 hb8 fr8 => ?_
            have hn3 : ∀ b n k, f.at 4 = .slice (some ⟨b, 0, none⟩) n k → ∀ k', f.at 3 ≠ .slice (some ⟨b, 0, none⟩) (sn.map (·.1)).length k' := fun b n k h4 k' h3 => hap b _ _ _ _ h3 h4
            have w49 : OW m.next m8 (f.at 4) (out.map (·.1)) := w48.frame fun b n k x hb hx => fr8 b x hx (hn3 b n k hb)
            have a8 := fr8 _ _ a7 fun k => w38.ne a7 k
            have e9 := fr8 _ _ e8 fun k => w38.ne e8 k
            have hap8 : ∀ b n k n' k', v8 = .slice (some ⟨b, 0, none⟩) n k → f.at 4 ≠ .slice (some ⟨b, 0, none⟩) n' k' := fun b n k n' k' h1 h2 => by
              have := hb8 b n k h1
              have := w48.old mw7 h2
              omega
            have mw8 := u08.wf hw
            have n68 : p6 < m8.next := by omega
            clear w38 w48 a7 e8 u07 mw7 n67 hn3 fr8 hb8 c7 hap
            obtain ⟨M0, hM0⟩ : ∃ M0, M0 = m8.rd m.next := ⟨_, rfl⟩
            have uM : Up m8 M0 := by rw [hM0]; exact Up.rd _ _
            simp [f1, f3, a8, hv2, len_Els]
            rw [← hM0]
            clear hM0
            have u0M := u08.trans uM
            have mwM := u0M.wf hw
            have aM := uM.at a8 mw8
            have eM := uM.at e9 mw8
            have w3M := w39.up mw8 uM
            have w4M := w49.up mw8 uM
            have vM := hv.up hw u0M
            have nM : p6 < M0.next := Nat.lt_of_lt_of_le n68 uM.next
            clear w39 w49 a8 e9 mw8 n68 u08 uM n8
            refine code_loop_post (rjR M0 v v8 (f.at 4) m.next p6 i ps[i].2 ps) (rjI M0 v v8 (f.at 4) m.next p6 i ps[i].2 ps) ps.length (by omega) ⟨0, 0, by omega, ⟨by simp [f1], by simp [f2], by simp [f3], by simp [f4, hv2], by simp [f5], by simp [f6]⟩, by simp, by simp, by simp, by simp, by simp [hv2], by simp, by simp, Up.refl _, by simp⟩ ?_ ?_
            · rintro q f' m9 ⟨j, K, hjq, ⟨g1, g2, g3, g4, g5, g6⟩, k3, k4, k6, k7, k32, k33, k34, u9, hm9⟩
              have mw9 := u9.wf mwM
              have e9 := u9.at eM mwM
              by_cases hj : j < ps.length
              · have hatj := hps _ (List.getElem_mem hj)
                have hj' : j < (ps.map (·.1)).length := by simpa using hj
                rcases vM.up mwM u9 with ⟨h, -⟩ | ⟨hne', b', hv3, hb3⟩
                · rw [List.map_eq_nil_iff.1 h] at hi
                  simp at hi
                · rw [List.length_map] at hv3
                  have hwj := wrap_succ j (by omega)
                  simp [g1, k32, k33, k34, hj, hv3, idx_El _ _ _ _ hj, hb3, ld_El' hj', zero_El]
                  refine ⟨rfl, storeQ_rule (y := ⟨[.int .u8 0, .complex .f64 0 0, .complex .f64 0 0, .float .f64 0], 1, false, false⟩) (by simp) rfl (by rw [sto_El]; rfl) (l := (ps[j]'hj).1.cells) rfl fun m10 n10 l10 e10 => ?_⟩
                  simp only [Mem.next_rd, Mem.next_nw, Mem.at_rd, Mem.at_nw] at n10 e10
                  have u10 : Up m9 m10 := Up.wr (m1 := (m9.rd b').nw ⟨[.int .u8 0, .complex .f64 0 0, .complex .f64 0 0, .float .f64 0], 1, false, false⟩) (Up.trans (Up.rd _ _) (Up.nw _ _)) (Nat.le_refl _) (by simp) (by simpa using n10) (fun c => by simpa using e10 c)
                  have e11 : m10.at m9.next = some ⟨elL ps[j].1.k ps[j].1.a ps[j].1.s ps[j].1.p, 1, false, false⟩ := by rw [e10, if_pos rfl]; rfl
                  have e6' := u10.at e9 mw9
                  simp [g1, k6, e6', e11, run_plike _ _ _ hat.wc hatj.wc]
                  have hdj : ps.drop j = ps[j] :: ps.drop (j + 1) := List.drop_eq_getElem_cons hj
                  have hst : mostF ps[i].2 (ps.drop j) K = mostF ps[i].2 (ps.drop (j + 1)) (if ps[i].2 = ps[j].2 then Nat.max K (foldsN ps[j].1.k ps[j].1.n) else K) := by rw [hdj]; rfl
                  have u11 : Up M0 ((m10.rd p6).rd m9.next) := u9.trans (u10.trans ((Up.rd _ _).trans (Up.rd _ _)))
                  by_cases hg : ps[i].2 = ps[j].2
                  · have hg' : WC ps[j].1.a ps[i].2 := by rw [hg]; exact hatj.wc
                    rw [if_pos hg] at hst
                    simp [g1, hg, k7, e11]
                    refine folds_ok _ hatj.ok.kp fun m12 u12 => ?_
                    simp [g1, k34, hwj]
                    rw [← hg, ← hv3]
                    exact ⟨q - 1, by omega, j + 1, _, by omega, ⟨by simp [g1], by simp [g2], by simp [g3], by simp [g4], by simp [g5], by simp [g6]⟩, by simp [k3], by simp [k4], by simp [k6], by simp; rfl, by simp [k32], by simp [k33], by simp, u11.trans ((Up.rd _ _).trans u12), by rw [← hst, hm9]⟩
                  · rw [if_neg hg] at hst
                    simp [g1, hg, k34, hwj]
                    rw [← hv3]
                    exact ⟨q - 1, by omega, j + 1, _, by omega, ⟨by simp [g1], by simp [g2], by simp [g3], by simp [g4], by simp [g5], by simp [g6]⟩, by simp [k3], by simp [k4], by simp [k6], by simp [k7]; rfl, by simp [k32], by simp [k33], by simp, u11, by rw [← hst, hm9]⟩
              · have he : j = ps.length := by omega
                subst he
                simp [g1, k33, k34]
                rw [List.drop_length] at hm9
                exact ⟨rfl, ⟨by simp [g1], by simp [g2], by simp [g3], by simp [g4], by simp [g5], by simp [g6]⟩, by simp [k3], by simp [k4], by simp [k6], by rw [← hm9]; simp [k7, mostF], u9⟩
            · rintro ⟨e, f'⟩ m9 ⟨he, ⟨g1, g2, g3, g4, g5, g6⟩, k3, k4, k6, k7, u9⟩
              obtain rfl : e = .exit 2 := he
              simp only at g1 g2 g3 g4 g5 g6 k3 k4 k6 k7
              have e9 := u9.at eM mwM
              simp [g1, k4, k6, k7, e9]
              refine gives_build1 bs_C (cells_cx _) (one_cx _) ?_
              obtain ⟨K, hK⟩ : ∃ K, K = mostF ps[i].2 ps 0 := ⟨_, rfl⟩
              have hK3 : K ≤ 3 := by rw [hK]; exact mostF_le (fun p hp => (hps p hp).ok) (by omega)
              have hK0 : 0 < K := by
                have := mostF_mem (g := ps[i].2) (k := 0) (List.getElem_mem hi) rfl
                rw [← hK] at this
                omega
              obtain ⟨m10, hm10⟩ : ∃ m10, m10 = (m9.rd p6).nw ⟨[cx ps[i].1.a], 1, false, false⟩ := ⟨_, rfl⟩
              have u10 : Up m9 m10 := by rw [hm10]; exact Up.trans (Up.rd _ _) (Up.nw _ _)
              have c10 : m10.at m9.next = some ⟨[cx ps[i].1.a], 1, false, false⟩ := by rw [hm10]; simp
              have u010 := u9.trans u10
              simp [g1, k7]
              rw [← hm10, ← hK]
              clear hm10 u10
              refine repeat_ok _ (u010.wf mwM) c10 hK3 fun m11 b11 u11 hb11 hb11' c11 => ?_
              have u011 := u010.trans u11
              have u0m11 := u0M.trans u011
              have mw11 := u0m11.wf hw
              have w3n := w3M.up mwM u011
              have w4n := w4M.up mwM u011
              have an := u011.at aM mwM
              simp [g1]
              have hlr : (List.replicate K ps[i].1.a).length = K := by simp
              refine (show Gives (appendX Tryz.prog 33 33 (f.at 4) (.slice (some ⟨b11, 0, none⟩) (List.replicate K ps[i].1.a).length K)) m11 _ → _ from fun h => by rw [hlr] at h; exact h) ?_
              refine w4n.app (new := List.replicate K ps[i].1.a) (c1 := K) (gr := false) (ro := false) (by rw [c11, List.map_replicate]) (by intro h; rw [List.replicate_eq_nil_iff] at h; omega) hw u0m11 (by simp; omega) fun m12 v12 u12 n12 w12 hb12 fr12 => ?_
              have hn4 : ∀ b n k, v8 = .slice (some ⟨b, 0, none⟩) n k → ∀ k', f.at 4 ≠ .slice (some ⟨b, 0, none⟩) (out.map (·.1)).length k' := fun b n k h8 k' h4 => hap8 b _ _ _ _ h8 h4
              have w312 : OW m.next m12 v8 (sn.map (·.1) ++ [ps[i].1.a]) := w3n.frame fun b n k x hb hx => fr12 b x hx (hn4 b n k hb)
              have a12 := fr12 _ _ an fun k => w4n.ne an k
              have hap12 : ∀ b n k n' k', v8 = .slice (some ⟨b, 0, none⟩) n k → v12 ≠ .slice (some ⟨b, 0, none⟩) n' k' := fun b n k n' k' h1 h2 => by
                have := hb12 b n' k' h2
                have := w3n.old mw11 h1
                omega
              simp [g1, g6, hwi]
              rw [hdrop, rootsGo_cons, if_neg (by intro h; rcases h with h | h; exact hf h; exact hk2 h), ← hK] at hsum
              exact ⟨k - 1, by omega, i + 1, sn ++ [(ps[i].1.a, ps[i].2)], out ++ List.replicate K (ps[i].1.a, ps[i].2), by omega, ⟨by simp [g1], by simp [g2], by simp [g3], by simp [g4, hv2], by simp [g5], by simp⟩, u12, hp0, by rw [← hv2]; exact a12, by simpa [k3] using w312, by simpa using w12, by simpa [k3] using hap12, by
                intro p hp
                rcases List.mem_append.1 hp with hp | hp
                · exact hsn p hp
                · rw [List.mem_singleton.1 hp]; exact hat.wc, by simp; omega, by simp; omega, by simpa using hsum⟩
    · have he : i = ps.length := by omega
      subst he
      simp [f1, f5, f6]
      rw [List.drop_length] at hsum
      rw [show rootsGo ps [] (sn.map (·.2)) = [] from rfl, List.append_nil] at hsum
      exact ⟨rfl, by simp [f1], by simp [f2], u2, by rw [← hsum]; simpa using w4⟩
  · rintro ⟨e, f⟩ m2 ⟨he, f1, f2, u2, w2⟩
    obtain rfl : e = .exit 0 := he
    simp only at f1 f2 w2
    simp [f1, f2]
    exact hQ _ _ u2 w2
end
end Go.Proofs.YtigbkoadojjajaaGreat

/- Flows in the clean executor: products of polynomials of larger numbers; times. -/
namespace Go.Proofs.YtigbkoadojjajaaGreat
open Go.Clean
section
set_option maxRecDepth 10000
theorem mul_okR (d : Nat) {m : Mem} {va vb : Value} {n k : Nat} {a b : PG} (hw : MW m) (ha : RP m va n a) (hb : RP m vb k b) (ha0 : n = 1 → a 0 ≠ g0) (hb0 : k = 1 → b 0 ≠ g0) (hnk : n + k ≤ 66) {A B : Int} (hA : 0 ≤ A) (hB : 0 ≤ B) (hAB : A * B ≤ top) (ha1 : ∀ i, NB (a i) A) (hb1 : ∀ i, NB (b i) B) (hc : ∀ i t, NB (cv a b i t) far) {Q : Value → Mem → Prop}
    (hQ : ∀ m' v n', Up m m' → n' ≤ n + k - 1 → RP m' v n' (cv a b n) → OL m m' v → Q (.tuple ⟨[v, .int .i64 0]⟩) m') :
    Gives (callN Tryz.prog known (d + 10) 42 [va, vb]) m Q := by
  refine gives_fn (nt := 88) rfl Tryz.func42 rfl rfl rfl (Nat.le_of_ble_eq_true rfl) fun fr hn hd hargs => ?_
  have h0 : fr.at 0 = _ := hargs 0 _ rfl
  have h1 : fr.at 1 = _ := hargs 1 _ rfl
  clear hargs
  have hn0 := ha.ok.pos
  have hk0 := hb.ok.pos
  obtain ⟨ba, oa, ka, xa, rfl, _, hba, _, hea⟩ := id ha.pl
  obtain ⟨bb, ob, kb, xb, rfl, _, hbb, _, heb⟩ := id hb.pl
  simp [h0, h1, hn]
  refine both_ok _ ha.pl ha.ok hb.pl hb.ok fun m1 hs => ?_
  simp [h0, h1, hn]
  refine none_ok _ (ha.pl.keep hs.2) hn0 ha0 fun m2 hs2 => ?_
  simp [h0, h1, hn, yieldX]
  refine none_ok _ ((hb.pl.keep hs.2).keep hs2.2) hk0 hb0 fun m3 hs3 => ?_
  have hs' := (hs.trans hs2).trans hs3
  obtain ⟨N, hN⟩ : ∃ N, N = n + k - 1 := ⟨_, rfl⟩
  have e1 : IntKind.i64.wrap ((n : Int) + (k : Int)) = (n : Int) + (k : Int) := by rw [wrap_add n k (by omega)]; simp
  have e2 : IntKind.i64.wrap ((n : Int) + (k : Int) - 1) = (N : Int) := by
    have := wrap_pred (n + k) (by omega) (by omega)
    rw [← hN] at this
    rw [← this]; simp
  have e3 : IntKind.i64.wrap ((n : Int) + (k : Int) - 2) = ((N - 1 : Nat) : Int) := by
    have := wrap_add (N - 1) 0 (by omega)
    rw [show ((n : Int) + (k : Int) - 2) = ((N - 1 : Nat) : Int) + ((0 : Nat) : Int) by omega]
    exact this
  simp [h0, h1, hn, e1, e2, e3, show ¬ 64 < ((N - 1 : Nat) : Int) by omega]
  refine gives_make mk_L (Nat.le_refl N) (by omega) ?_
  simp [h0, h1, hn]
  refine gives_make mk_B (Nat.le_refl N) (by omega) ?_
  simp [h0, h1, hn]
  have hu3 : Up m ((m3.nw ⟨List.replicate N (.complex .f64 0 0), 1, false, false⟩).nw ⟨List.replicate N (.bool false), 1, false, false⟩) := hs'.up.trans ((Up.nw _ _).trans (Up.nw _ _))
  have hn3 := hs'.1
  refine code_loop_post (mlR m m3.next (m3.next + 1) N n a b) (mlI m (.slice (some ⟨ba, oa, none⟩) n ka) (.slice (some ⟨bb, ob, none⟩) k kb) n k m3.next (m3.next + 1) N a b) n (by omega) ⟨0, by omega, ⟨by simp [hn], by simp [hd], by simp [h1], by simp, by simp, by simp, by simp, by simp⟩, hu3, by omega, by omega, by omega, by simp; omega, by simp, _, _, fun _ => false, by simp, by simp, CL.zeros N, TL.none N, fun _ _ _ => rfl⟩ ?_ ?_
  · rintro j fr' m' ⟨i, hij, ⟨f1, f2, f3, f4, f5, f6, f7, f8⟩, hM⟩
    by_cases hi : i < n
    · obtain ⟨x, hx, hwx⟩ := hea i hi
      have hma : m'.at ba = some xa := hM.up.at hba hw
      have hwi := wrap_succ i (by omega)
      simp [f1, f3, f4, f5, f6, f7, f8, hi, idx_L _ _ _ _ _ _ hi, hma, hx]
      refine code_loop_post (mlS m (.slice (some ⟨ba, oa, none⟩) n ka) (.slice (some ⟨bb, ob, none⟩) k kb) n k m3.next (m3.next + 1) N i a b) (mlJ m (.slice (some ⟨ba, oa, none⟩) n ka) (.slice (some ⟨bb, ob, none⟩) k kb) n k m3.next (m3.next + 1) N i a b x) k (by omega) ⟨0, by omega, ⟨by simp [f1], by simp [f2], by simp [f3], by simp [f4], by simp [f5], by simp [f6], by simp [f7], by simp [f8]⟩, by simp, by simp, by simp, by simp, by simp, ?_⟩ ?_ ?_
      · refine hM.keep (Sm.rd _ _) fun t => ?_
        by_cases h : t < i + 0
        · rw [if_pos h, cv_low (by omega)]
        · rw [if_neg h]
      · clear hM f1 f2 f3 f4 f5 f6 f7 f8 hma
        rintro q fr2 m2 ⟨jj, hjq, ⟨f1, f2, f3, f4, f5, f6, f7, f8⟩, f9, f10, f52, f53, f54, hM⟩
        by_cases hj : jj < k
        · obtain ⟨y, hy, hwy⟩ := heb jj hj
          have hmb : m2.at bb = some xb := hM.up.at hbb hw
          obtain ⟨u1, u2, u3, u4, u5, u6, cells, tc, th, q1, q2, q3, q4, q5⟩ := hM
          have hwj := wrap_succ jj (by omega)
          obtain ⟨p, hpe⟩ : ∃ p, p = i + jj := ⟨_, rfl⟩
          have hwij : IntKind.i64.wrap ((i : Int) + (jj : Int)) = (p : Int) := by rw [hpe]; exact wrap_add i jj (by omega)
          have hlt : p < N := by omega
          have hp : WC (cmul x y) (gmul (a i) (b jj)) := hwx.mul hwy hA hB (ha1 i) (hb1 jj) hAB
          obtain ⟨w, hwv, hww⟩ := q3.2 p hlt
          simp only [hpe, Nat.lt_irrefl, if_false] at hww
          rw [← hpe] at hww
          have hcell := q4.2 p hlt
          have hcv : cv a b (i + 1) p = gadd (cv a b i p) (gmul (a i) (b jj)) := by rw [hpe]; exact cv_here
          have hset : ∀ t, t < N → (if t < i + (jj + 1) then cv a b (i + 1) t else cv a b i t) = if t = p then cv a b (i + 1) p else if t < i + jj then cv a b (i + 1) t else cv a b i t := fun t _ => by
            by_cases h1 : t = p
            · rw [h1, if_pos (by omega), if_pos rfl]
            · rw [if_neg h1]
              by_cases h2 : t < i + jj
              · rw [if_pos h2, if_pos (by omega)]
              · rw [if_neg h2, if_neg (by omega)]
          have hfin : ∀ (z : C) (m3' : Mem), WC z (cv a b (i + 1) p) → (∀ c, m3'.at c = m2.at c) → m3'.next = m2.next → ∀ m4 m5 : Mem, m4.next = m3'.next → (∀ c, m4.at c = if c = m3.next then some ⟨cells.set p (cx z), 1, false, false⟩ else m3'.at c) → m5.next = m4.next → (∀ c, m5.at c = if c = m3.next + 1 then some ⟨tc.set p (.bool true), 1, false, false⟩ else m4.at c) →
              MM m m5 m3.next (m3.next + 1) N fun t => if t < i + (jj + 1) then cv a b (i + 1) t else cv a b i t := fun z m3' hz ha3 hn3' m4 m5 n4 e4 n5 e5 => by
            have hu4 : Up m m4 := (u1.trans (Up.same hn3' ha3)).wr (b := m3.next) u2 (by omega) n4 e4
            refine ⟨hu4.wr (b := m3.next + 1) u3 (by omega) n5 e5, u2, u3, u4, by omega, by omega, _, _, fun t => if t = p then true else th t, by rw [e5, if_neg (by omega), e4, if_pos rfl], by rw [e5, if_pos rfl], q3.set hlt hz hset, q4.set hlt, fun t ht hf => ?_⟩
            simp only at hf
            by_cases h1 : t = p
            · rw [if_pos h1] at hf; cases hf
            · rw [if_neg h1] at hf
              have h5 := q5 t ht hf
              show (if t < i + (jj + 1) then cv a b (i + 1) t else cv a b i t) = g0
              rw [hset t ht, if_neg h1]
              exact h5
          simp [f1, f3, f4, f5, f9, f10, f52, f53, f54, hj, idx_L _ _ _ _ _ _ hj, hmb, hy, run_mul, hwij, idx_B _ _ _ _ _ _ hlt, idx_L _ _ _ _ _ _ hlt, q1, q2, hcell]
          cases hth : th p with
          | true =>
            have hsum : WC (cadd w (cmul x y)) (cv a b (i + 1) p) := by
              rw [hcv]
              exact hww.addB hp (b := (far, 0)) (by rw [← hcv]; exact BN.real (by decide) (hc _ _)) (by decide)
            simp [f1, f4, f5, idx_L _ _ _ _ _ _ hlt, idx_B _ _ _ _ _ _ hlt, q1, hwv, run_add]
            refine storeQ_one (cs := cells) (sz := 1) (gr := false) (by simp [q1]) (by simp) (cells_cx _) (by rw [q3.1]; exact hlt) fun m4 n4 _ e4 => ?_
            simp only [Mem.next_rd, Mem.at_rd] at n4 e4
            simp [f1, f5, idx_B _ _ _ _ _ _ hlt]
            refine storeQ_one (cs := tc) (sz := 1) (gr := false) (by rw [e4, if_neg (by omega)]; exact q2) (by simp) rfl (by rw [q4.1]; exact hlt) fun m5 n5 _ e5 => ?_
            simp [f1, f54, hwj]
            exact ⟨q - 1, by omega, jj + 1, by omega, ⟨by simp [f1], by simp [f2], by simp [f3], by simp [f4], by simp [f5], by simp [f6], by simp [f7], by simp [f8]⟩, by simp [f9], by simp [f10], by simp [f52], by simp [f53], by simp, hfin _ m2 hsum (fun _ => rfl) rfl m4 m5 n4 e4 n5 e5⟩
          | false =>
            have hz0 := q5 p hlt hth
            simp only [hpe, Nat.lt_irrefl, if_false] at hz0
            have hsum : WC (cmul x y) (cv a b (i + 1) p) := by
              rw [hcv, hpe, hz0, zero_gadd]
              exact hp
            simp [f1, f4, f5, idx_L _ _ _ _ _ _ hlt, idx_B _ _ _ _ _ _ hlt]
            refine storeQ_one (cs := cells) (sz := 1) (gr := false) (by simp [q1]) (by simp) (cells_cx _) (by rw [q3.1]; exact hlt) fun m4 n4 _ e4 => ?_
            simp only [Mem.next_rd, Mem.at_rd] at n4 e4
            simp [f1, f5, idx_B _ _ _ _ _ _ hlt]
            refine storeQ_one (cs := tc) (sz := 1) (gr := false) (by rw [e4, if_neg (by omega)]; exact q2) (by simp) rfl (by rw [q4.1]; exact hlt) fun m5 n5 _ e5 => ?_
            simp [f1, f54, hwj]
            exact ⟨q - 1, by omega, jj + 1, by omega, ⟨by simp [f1], by simp [f2], by simp [f3], by simp [f4], by simp [f5], by simp [f6], by simp [f7], by simp [f8]⟩, by simp [f9], by simp [f10], by simp [f52], by simp [f53], by simp, hfin _ m2 hsum (fun _ => rfl) rfl m4 m5 n4 e4 n5 e5⟩
        · obtain rfl : jj = k := by omega
          simp [f1, f53, f54]
          refine ⟨rfl, ⟨by simp [f1], by simp [f2], by simp [f3], by simp [f4], by simp [f5], by simp [f6], by simp [f7], by simp [f8]⟩, hM.keep (Sm.refl _) fun t => ?_⟩
          by_cases h : t < i + jj
          · rw [if_pos h]
          · rw [if_neg h, cv_high hb.ends (by omega)]
      · rintro ⟨e, fr2⟩ m2 ⟨he', ⟨f1, f2, f3, f4, f5, f6, f7, f8⟩, hM2⟩
        obtain rfl : e = .exit 2 := he'
        simp only at f1 f2 f3 f4 f5 f6 f7 f8
        simp [f1, f8, hwi]
        exact ⟨j - 1, by omega, i + 1, by omega, ⟨by simp [f1], by simp [f2], by simp [f3], by simp [f4], by simp [f5], by simp [f6], by simp [f7], by simp⟩, hM2⟩
    · obtain rfl : i = n := by omega
      simp [f1, f3, f4, f5, f6, f7, f8]
      exact ⟨rfl, by simp [f1], by simp [f2], by simp [f4], hM⟩
  · rintro ⟨e, fr'⟩ m' ⟨he', f1, f2, f4, hM⟩
    obtain rfl : e = .exit 0 := he'
    simp only at f1 f2 f4
    obtain ⟨cells, tc, th, q1, q2, q3, q4, q5⟩ := hM.ex
    simp [f1, f4]
    refine answered_ok _ (PL.own q1 q3) (by omega) (by omega) (hc n) fun m2 n' hs2 h1 h2 h3 h4 => ?_
    simp [f1, f2]
    exact hQ m2 _ n' (hM.up.trans hs2.up) (by omega) ⟨((PL.own q1 q3).keep hs2.2).less h2 (Nat.le_refl _), ⟨h1, by omega, hc n, h4⟩, ends_of (fun t ht => cv_ends hb.ends n t (by omega)) h3⟩ ⟨_, _, _, _, _, rfl, hM.bo1, by rw [hs2.2]; exact q1, rfl, rfl⟩
end
/-! ### Bounds -/
def Z6 : G := (6, 0)
theorem ofB_ends (Z : G) : ∀ i, Ends (ofB Z i) (i + 1)
  | 0, k, h => by unfold ofB; rw [if_neg (by omega)]
  | i + 1, k, h => by
    show gadd (YtigbkoadojjajaaGreat.up 1 (ofB Z i) k) (gmul Z (ofB Z i k)) = g0
    unfold YtigbkoadojjajaaGreat.up
    rw [if_pos (by omega), ofB_ends Z i (k - 1) (by omega), ofB_ends Z i k (by omega), gmul_zero, gadd_zero]
theorem BN.ofB {Z : G} (hZ : BN Z Z) (i t : Nat) : BN (ofB Z i t) (ofB Z i t) := by
  have h := BN.ofZ (z := fun _ => Z) (fun _ => hZ) i t
  refine ⟨h.1, h.2.1, ?_⟩
  unfold NB
  rw [h.2.1]; simp
theorem BN.zz : BN Z6 Z6 := ⟨by decide, rfl, by unfold NB; decide⟩
theorem ofB_mono (t : Nat) {i j : Nat} (h : i ≤ j) : (ofB Z6 i t).1 ≤ (ofB Z6 j t).1 := by
  induction j with
  | zero => obtain rfl : i = 0 := by omega
            exact Int.le_refl _
  | succ j ih =>
    by_cases hij : i = j + 1
    · subst hij; exact Int.le_refl _
    · refine Int.le_trans (ih (by omega)) ?_
      have h1 := BN.up (BN.ofB BN.zz j) 1 t
      have h2 := BN.ofB BN.zz j t
      show _ ≤ (YtigbkoadojjajaaGreat.up 1 (ofB Z6 j) t).1 + (6 * (ofB Z6 j t).1 - 0 * (ofB Z6 j t).2)
      have h3 := h1.1
      have h4 := h2.1
      omega
def DB : PG := ofB Z6 9
def DT : PG := fun k => gmul (36, 0) (ofB Z6 11 k)
def DA : PG := fun k => gmul (36, 0) (ofB Z6 2 k)
theorem all_lt {N : Nat} {f : Nat → Bool} (h : (List.range N).all f = true) {t : Nat} (ht : t < N) : f t = true := List.all_eq_true.1 h t (List.mem_range.2 ht)
theorem DB_le (t : Nat) : (DB t).1 ≤ 16777216 := by
  by_cases h : t < 10
  · exact of_decide_eq_true (all_lt (N := 10) (f := fun t => decide ((DB t).1 ≤ 16777216)) (by kernel_rfl) h)
  · rw [show DB t = g0 from ofB_ends Z6 9 t (by omega)]; decide
theorem DT_le (t : Nat) : (DT t).1 ≤ 68719476736 := by
  by_cases h : t < 12
  · exact of_decide_eq_true (all_lt (N := 12) (f := fun t => decide ((DT t).1 ≤ 68719476736)) (by kernel_rfl) h)
  · show (gmul (36, 0) (ofB Z6 11 t)).1 ≤ _
    rw [ofB_ends Z6 11 t (by omega), gmul_zero]; decide
theorem DA_cv (i t : Nat) (hi : i ≤ 3) : (cv DA DB i t).1 ≤ (DT t).1 := by
  by_cases h : t < 12
  · have h1 := all_lt (N := 12) (f := fun t => (List.range 4).all fun i => decide ((cv DA DB i t).1 ≤ (DT t).1)) (by kernel_rfl) h
    exact of_decide_eq_true (all_lt h1 (show i < 4 by omega))
  · have e : DT t = g0 := by
      show gmul (36, 0) (ofB Z6 11 t) = _
      rw [ofB_ends Z6 11 t (by omega), gmul_zero]
    have e2 : cv DA DB i t = g0 := cv_ends (b := DB) (lb := 10) (ofB_ends Z6 9) i t (by omega)
    rw [e, e2]
    exact Int.le_refl _
theorem DB_hs (n : Nat) (hn : n ≤ 10) : (hs n DB Z6).1 ≤ top := of_decide_eq_true (all_lt (N := 11) (f := fun n => decide ((hs n DB Z6).1 ≤ top)) (by kernel_rfl) (show n < 11 by omega))
theorem DT_hs (n : Nat) (hn : n ≤ 12) : (hs n (fun k => gmul (3, 0) (DT k)) Z6).1 ≤ top := of_decide_eq_true (all_lt (N := 13) (f := fun n => decide ((hs n (fun k => gmul (3, 0) (DT k)) Z6).1 ≤ top)) (by kernel_rfl) (show n < 13 by omega))
theorem DT_36 (t : Nat) : (ofB Z6 9 t).1 * 36 ≤ (DT t).1 := by
  have h := ofB_mono t (show 9 ≤ 11 by decide)
  show _ ≤ 36 * (ofB Z6 11 t).1 - 0 * (ofB Z6 11 t).2
  omega
end Go.Proofs.YtigbkoadojjajaaGreat
