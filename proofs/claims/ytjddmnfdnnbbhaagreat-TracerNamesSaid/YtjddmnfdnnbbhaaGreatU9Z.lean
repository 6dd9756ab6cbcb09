/- Tracers in the clean executor: tracer.Run. -/
import Derived.Test.YtjddmnfdnnbbhaaGreatU6Z
set_option linter.unusedSimpArgs false
set_option linter.unusedVariables false
namespace Go.Clean
open Go Go.RowKit
theorem gives_round2 {s t : Tmp} {u v : Value} {fr : Fr} {m : Mem} {Q : Fr → Mem → Prop} (hs : s < fr.n) (ht : t < fr.n) (h : Q ((fr.upd s u).upd t v) m) : Gives (putRound [s, t] [u, v] fr) m Q := by
  unfold putRound
  rw [gives_bind]
  refine (gives_put _ _ _ _ _).2 ?_
  rw [putQ_some]
  refine ⟨hs, ?_⟩
  unfold putRound
  rw [gives_bind]
  refine (gives_put _ _ _ _ _).2 ?_
  rw [putQ_some]
  refine ⟨by simpa using ht, ?_⟩
  unfold putRound
  exact (gives_ret _ _ _).2 h
/-- The way out behind one mark. -/
theorem finT_mark {σ : Type} {P : Program} {base : Nat} {fn : Func} {fr : Fr} {m : Mem} {Q : σ → Value → Mem → Prop} {e : Ex} {s : σ} {b : Nat} {x : Blk} (hd : fr.d = [(b, markV)]) (hb : base ≤ b) (hm : m.at b = some x) (hn : b < m.next) (he : e = .normal ∨ e = .ret)
    (h : Gives (do
    let vs ← resX P fr fn.results.toList
    match vs with
    | [v] => M.ret v
    | vs => M.ret (Value.tuple ⟨vs⟩)) ((m.rd b).wr b none) (Q s)) : finT P base fn Q e s fr m := by
  refine ⟨he, ?_⟩
  unfold finX endX
  dsimp only
  rw [gives_bind, hd]
  have hk : isMark markV = true := rfl
  unfold runDX
  rw [hk, cond_true, gives_bind]
  refine ⟨m.next, m, rfl, ?_⟩
  dsimp only
  rw [gives_bind, gives_guard]
  refine ⟨by simp only [Bool.and_eq_true, Nat.ble_eq, Nat.blt_eq]; exact ⟨hb, hn⟩, ?_⟩
  rw [gives_bind, gives_getB, hm, optQ_some, gives_bind, gives_setB]
  unfold runDX
  rw [gives_ret]
  exact h
theorem resX_tmp2 {P : Program} {fr : Fr} {a b : Tmp} {m : Mem} {Q : Value → Mem → Prop} (h : Q (.tuple ⟨[fr.at a, fr.at b]⟩) m) : Gives (do
    let vs ← resX P fr [.tmp a, .tmp b]
    match vs with
    | [v] => M.ret v
    | vs => M.ret (Value.tuple ⟨vs⟩)) m Q := by
  rw [gives_bind]
  unfold resX
  rw [gives_bind]
  unfold resX
  rw [gives_bind]
  unfold resX
  exact (gives_ret _ _ _).2 ((gives_ret _ _ _).2 ((gives_ret _ _ _).2 ((gives_ret _ _ _).2 h)))
end Go.Clean
namespace Go.Proofs.YtjddmnfdnnbbhaaGreat
open Go Go.RowKit Go.Clean
def runC (bo c : Nat) (tr : Nat → Tr) (m0 : Mem) (k : Nat) (_ : Unit) (m : Mem) : Prop := (∃ x, m.at bo = some ⟨[x], 1, false, false⟩) ∧ (k = 0 ∨ ∃ b' v', OT m0 m v' b' (List.replicate c (tr (k - 1))) ∧ m.at bo = some ⟨[v'], 1, false, false⟩)
section
set_option maxRecDepth 10000
set_option maxHeartbeats 4000000
theorem run_ok {m : Mem} {v vl : Value} {es : List El} {bl c cap : Nat} {ts : List Tr} {n : Nat} {tr : Nat → Tr} (hw : MW m) (hv : EL m v es) (he : Okay es) (hl : LT m vl bl c cap ts) (hts : ∀ i, i < c → ts[i]? = some (tr 0)) (hm : (tr 0).May) (hc0 : 0 < c) (hc : c ≤ 4096) (hn : n ≤ 16384) (hg : GoesBy es tr n) {Q : Value → Mem → Prop}
    (hQ : ∀ m' v' b' k, k ≤ n → (k = n ∨ (tr k).w ≠ 0) → Up m m' → OT m m' v' b' (List.replicate c (tr k)) → Q (.tuple ⟨[v', .int .i64 0]⟩) m') :
    TF Tryz.prog 6 [.agg ⟨[v]⟩, vl, ruV, .int .i64 n] m Q := by
  have E := exec_ok 20
  refine TF.body E Tryz.func6 rfl (Nat.le_of_ble_eq_true rfl) fun B hB hBm => ?_
  generalize hfr : (⟨putArgs [.agg ⟨[v]⟩, vl, ruV, .int .i64 n] 0 .leaf, (Tryz.f6).ntmps, []⟩ : Fr) = fr
  have f1 : fr.n = 36 := by rw [← hfr]; exact Tryz.ntmps6
  have f2 : fr.d = [] := by rw [← hfr]
  have a0 : fr.at 0 = .agg ⟨[v]⟩ := by rw [← hfr]; exact at_put rfl
  have a1 : fr.at 1 = vl := by rw [← hfr]; exact at_put rfl
  have a2 : fr.at 2 = ruV := by rw [← hfr]; exact at_put rfl
  have a3 : fr.at 3 = .int .i64 n := by rw [← hfr]; exact at_put rfl
  clear hfr
  have ovl : oneV vl = true := by rw [hl.v]; simp
  have cvl : cellsV vl = [vl] := by rw [hl.v]; simp
  refine TS.seq (TS.gives E hB (.inl rfl) ?_)
  simp [f1, a0, a2, hv.one]
  obtain ⟨m1, hm1⟩ : ∃ m1, m1 = (m.nw ⟨[v], 1, false, false⟩).nw ⟨ruL, 1, false, false⟩ := ⟨_, rfl⟩
  have u1 : Up m m1 := by rw [hm1]; exact (Up.nw _ _).trans (Up.nw _ _)
  have c1 : m1.at m.next = some ⟨[v], 1, false, false⟩ := by rw [hm1]; simp
  have c2 : m1.at (m.next + 1) = some ⟨ruL, 1, false, false⟩ := by rw [hm1]; simp
  rw [← hm1]
  have hchk := check_ok (m := m) hw hl hc fun i hi => ⟨tr 0, hts i hi, hm⟩
  refine TS.seq (TS.gives E hB (.inl rfl) ?_)
  simp [f1, a1, c1, c2]
  have u2 : Up m ((m1.rd m.next).rd (m.next + 1)) := u1.trans (Up.same (by simp) fun c => by simp)
  refine asked_ok _ (u2.wf hw) (hv.up hw u2) he (e := 0) (fun d m3 u3 => hchk d m3 (u2.trans u3)) ovl fun m3 u3 => ?_
  have u3' := u2.trans u3
  have d1 := u3.at (show ((m1.rd m.next).rd (m.next + 1)).at m.next = _ by simpa using c1) (u2.wf hw)
  have d2 := u3.at (show ((m1.rd m.next).rd (m.next + 1)).at (m.next + 1) = _ by simpa using c2) (u2.wf hw)
  simp [f1]
  refine TS.seq (TS.gives E hB (.inl rfl) ?_)
  have hn0 : ¬ (n : Int) < 0 := by omega
  have hn1 : ¬ (16384 : Int) < (n : Int) := by omega
  simp [f1, a3, hn0, hn1, yieldX, boolOf_bool]
  refine TS.seq (TS.gives E hB (.inl rfl) ?_)
  simp [f1]
  obtain ⟨m4, hm4⟩ : ∃ m4, m4 = m3.nw ⟨[nilL], 1, false, false⟩ := ⟨_, rfl⟩
  have u4 : Up m3 m4 := by rw [hm4]; exact Up.nw _ _
  have c4 : m4.at m3.next = some ⟨[nilL], 1, false, false⟩ := by rw [hm4]; simp
  have n4 : m4.next = m3.next + 1 := by rw [hm4]; simp
  rw [← hm4]
  have w3 := u3'.wf hw
  have w4 := u4.wf w3
  have e1 := u4.at d1 w3
  have e2 := u4.at d2 w3
  clear hm4 hm1 d1 d2
  refine TS.seq (TS.seq (TS.gives E hB (.inl rfl) ?_))
  simp [f1, a1, a3, e1, e2]
  have u5 : Up m4 ((m4.rd m.next).rd (m.next + 1)) := Up.same (by simp) fun c => by simp
  refine mkSteps_ok _ hv.one ovl cvl fun m6 p1 p2 p3 p4 u6 l1 l2 l3 l4 q1 q2 q3 q4 => ?_
  simp [f1]
  have u46 := u5.trans u6
  have w6 := u46.wf w4
  have U6 := u3'.trans (u4.trans u46)
  have hbo := u46.at c4 w4
  obtain ⟨bo, hboe⟩ : ∃ bo, bo = m3.next := ⟨_, rfl⟩
  rw [← hboe] at hbo ⊢
  have hbl : m.next ≤ bo := by rw [hboe]; exact u3'.next
  have hb4 : bo < m4.next := by omega
  simp only [Mem.next_rd] at l1 l2 l3 l4
  obtain ⟨m7, hm7⟩ : ∃ m7, m7 = m6.nw markB := ⟨_, rfl⟩
  have u7 : Up m6 m7 := by rw [hm7]; exact Up.nw _ _
  have k7 : m7.at m6.next = some markB := by rw [hm7]; simp
  have n7 : m7.next = m6.next + 1 := by rw [hm7]; simp
  have w7 := u7.wf w6
  have U7 := U6.trans u7
  have hle := hv.up hw U7
  have IT7 : IT (· = bo) m7 v es p1 p2 p3 p4 vl bl c cap ts n := ⟨w7, fun x hx => by rw [hx]; have := u46.next; omega, u7.at q1 w6, u7.at q2 w6, u7.at q3 w6, u7.at q4 w6, hl.up hw U7, hle, by omega, by omega, by omega, by omega, fun b n' k' hv' hb => by
    rcases hv with ⟨-, hv2⟩ | ⟨-, b', gr, hv2, hat⟩
    · rw [hv2] at hv'; cases hv'
    · rw [hv'] at hv2
      have : b = b' := by injection hv2 with h1; injection h1 with h1; injection h1
      have := hw b' _ hat
      omega⟩
  refine (show ∀ fg : Fr, fg.n = 36 → fg.d = [] → fg.at 11 = .pointer (some ⟨bo, 0, none⟩) → fg.at 31 = itF p1 p2 p3 p4 → TS B none _ () fg m6 _ from ?_) _ (by simp [f1]) (by simp [f2]) (by simp) (by simp)
  clear f1 f2 a0 a1 a2 a3 e1 e2 u5
  intro fg f1 f2 f11 f31
  refine TS.block (TS.range E hB (it := 30) (caps := [ptr p1, ptr p2, ptr p3, ptr p4]) (by simp [f31, itF]) Tryz.func30 rfl (Nat.le_of_ble_eq_true rfl) rfl fun l B2 ok2 hbs hty => ?_)
  rw [← hm7]
  refine steps_ok ok2 Tryz.func30 rfl IT7 hts hc0 hc hn hg (runC bo c tr m7) (fun _ _ => False) (fun m1 u => ⟨⟨_, u.at (u7.at hbo w6) w7⟩, .inl rfl⟩) ?_ ?_ (fun _ _ h => h.elim)
  · intro k s1 mi v' b' hk hC U o Q' hq1 hq2
    refine hty _ _ _ _ ?_
    refine gives_round2 (by simp [f1]) (by simp [f1]) ?_
    obtain ⟨rfl, o2, o3, o4⟩ := o
    obtain ⟨fh, hfh⟩ : ∃ fh : Fr, fh = { fg with d := [] } := ⟨_, rfl⟩
    have h1 : fh.n = 36 := by rw [hfh]; exact f1
    have h2 : fh.d = [] := by rw [hfh]
    have h11 : fh.at 11 = .pointer (some ⟨bo, 0, none⟩) := by rw [hfh]; exact f11
    rw [← hfh]
    clear hfh
    simp [h1]
    intro B4 ok4 lk4
    refine TS.gives E ok4 (.inr rfl) ?_
    obtain ⟨⟨x, hx⟩, -⟩ := hC
    have hbm : bo < m7.next := by have := u46.next; omega
    simp [h1, h11]
    refine storeQ_one (cs := [x]) (sz := 1) (gr := false) hx (by simp) (by simp) (by simp) fun m8 n8 l8 e8 => ?_
    have hb8 : m8.at bo = some ⟨[.slice (some ⟨b', 0, none⟩) c c], 1, false, false⟩ := by rw [e8, if_pos rfl]; rfl
    have u8 : UpX (· = bo) mi m8 := (UpX.of (Up.refl mi)).wr (.inl rfl) (Nat.lt_of_lt_of_le hbm U.next) n8 e8
    have hbb : b' ≠ bo := by omega
    have hb8' : m8.at b' = some ⟨flatT (List.replicate c (tr k)), 3, true, false⟩ := by rw [e8, if_neg hbb]; exact o4
    simp
    simp only [List.length_replicate] at *
    refine hq1 () m8 u8 fun m'' u'' => ⟨⟨.slice (some ⟨b', 0, none⟩) c c, ?_⟩,   .inr ⟨b', .slice (some ⟨b', 0, none⟩) c c, ⟨by simp, o2, ?_, ?_⟩, ?_⟩⟩
    · exact (u''.old bo (by omega) (by omega)).trans hb8
    · have := u''.next; omega
    · exact (u''.old b' (by omega) (by omega)).trans (by simpa using hb8')
    · simpa using (u''.old bo (by omega) (by omega)).trans hb8
  · intro k s' m' hk hend hC U
    obtain ⟨-, hC⟩ := hC
    rcases hC with hC | ⟨b', v', o, hb'⟩
    · omega
    simp only [if_true, blockT_normal, seqT_normal, Nat.add_sub_cancel] at o ⊢
    have w' := U.wf w7
    have hmk : m'.at m6.next = some markB := U.at k7 (by have := u46.next; omega) w7
    have hold : ∀ x, x < m.next → m'.at x = m.at x := fun x hx => (U.old x (by have := U7.next; omega) (by omega)).trans (U7.old x hx)
    obtain ⟨fk, hfk⟩ : ∃ fk : Fr, fk = { fg with d := (m6.next, markV) :: fg.d } := ⟨_, rfl⟩
    have h1 : fk.n = 36 := by rw [hfk]; exact f1
    have h2 : fk.d = [(m6.next, markV)] := by rw [hfk, ← f2]
    have h11 : fk.at 11 = .pointer (some ⟨bo, 0, none⟩) := by rw [hfk]; exact f11
    rw [← hfk]
    clear hfk
    refine TS.gives E hB (.inl rfl) ?_
    simp [h1, h11, hb']
    have hmn : m6.next < m'.next := by have := U.next; omega
    have hm6 : m.next ≤ m6.next := U6.next
    refine finT_mark (b := m6.next) (x := markB) (by simp [h2]) hm6 (by simpa using hmk) (by simpa using hmn) (.inr rfl) ?_
    refine resX_tmp2 ?_
    simp [h1]
    have hbk : b' ≠ m6.next := by have := o.lo; omega
    refine hQ _ _ b' k hk hend ⟨by simp; omega, fun x hx => ?_, fun _ x y hx => ?_⟩ ⟨o.v, by have := o.lo; omega, by simpa using o.hi, by simp [hbk, o.at_]⟩
    · simp [show x ≠ m6.next by omega]
      exact hold x hx
    · by_cases hxk : x = m6.next
      · simp [hxk] at hx
      · simp [hxk] at hx
        simpa using w' x y hx
end
end Go.Proofs.YtjddmnfdnnbbhaaGreat
