/- The clean executor: a range over a function whose rounds are known. -/
import Derived.Test.YtjddmnfdnnbbhaaGreatKNZ
import Derived.LoopNIn
set_option linter.unusedSimpArgs false
set_option linter.unusedVariables false
set_option linter.unusedVariables false
set_option linter.unusedSimpArgs false
namespace Go.Clean
open Go Go.RowKit
variable {P : Program} {N : Nat} {ρ : Env} {m m' : Mem} {w : World}

def markB : Blk := { cells := [], sz := 0, grow := false, ro := true }

/-- A mark is laid. -/
theorem Rel.mark {g g' : Nat → Option Blk} {w' : World} (h : Rel N ρ g w) {b : Nat} (hb : ρ b = none) (hold : ∀ k, k < w.heap.size → w'.heap[k]? = w.heap[k]?) (hsz : w.heap.size ≤ w'.heap.size)
    (hD : w'.heap[w.heap.size]? = some (.deferred (some []))) (e : ∀ c, g' c = if c = b then some markB else g c) : Rel N (ρ.put b ⟨w.heap.size, 1, 0, 0, true⟩) g' w' := by
  have hcell : ∀ k o v, w.cell? ⟨k, o, none⟩ = some v → w'.cell? ⟨k, o, none⟩ = some v := fun k o v hv => by
    by_cases hlt : k < w.heap.size
    · rw [World.cell?_of_block (hold k hlt)]; exact hv
    · simp [World.cell?, Array.getElem?_eq_none (Nat.le_of_not_lt hlt)] at hv
  have hx := Env.ext hb ⟨w.heap.size, 1, 0, 0, true⟩
  have hmk : ∀ c x p, c ≠ b → g' c = some x → (ρ.put b ⟨w.heap.size, 1, 0, 0, true⟩) c = some p → g c = some x ∧ ρ c = some p := fun c x p hcb hc hp => by
    rw [e, if_neg hcb] at hc
    rw [Env.put_ne _ _ hcb] at hp
    exact ⟨hc, hp⟩
  refine ⟨Nat.le_trans h.base hsz, fun c x hc => ?_, fun c c' x x' p p' hne hc hc' hr hr' hp hp' => ?_, fun c x p hc hp hm => ?_⟩
  · by_cases hcb : c = b
    · subst hcb
      rw [e, if_pos rfl] at hc
      obtain rfl := Option.some.inj hc
      exact ⟨_, Env.put_same _ _ _, rfl, rfl, fun i v hi => by simp [markB] at hi, fun _ => .inl rfl, fun hr => by simp [markB] at hr⟩
    · rw [e, if_neg hcb] at hc
      obtain ⟨p, h1, h2, h3, h4, h5, h6⟩ := h.blk c x hc
      refine ⟨p, by rw [Env.put_ne _ _ hcb]; exact h1, h2, h3, fun i v hi => ?_, h5, fun hr => ?_⟩
      · obtain ⟨v', hv1, hv2, hv3⟩ := h4 i v hi
        exact ⟨v', hcell _ _ _ hv1, hv2.mono hx, hv3⟩
      · obtain ⟨q1, q2, c0, T0, q3, q4⟩ := h6 hr
        exact ⟨q1, q2, c0, T0, by rw [hold _ (Array.getElem?_eq_some_iff.1 q3).1]; exact q3, q4⟩
  · have h1 : c ≠ b := fun hh => by rw [e, if_pos hh] at hc; obtain rfl := Option.some.inj hc; simp [markB] at hr
    have h2 : c' ≠ b := fun hh => by rw [e, if_pos hh] at hc'; obtain rfl := Option.some.inj hc'; simp [markB] at hr'
    obtain ⟨a1, a2⟩ := hmk c x p h1 hc hp
    obtain ⟨b1, b2⟩ := hmk c' x' p' h2 hc' hp'
    exact h.apart c c' x x' p p' hne a1 b1 hr hr' a2 b2
  · have key : ∀ c x p, c ≠ b → g' c = some x → (ρ.put b ⟨w.heap.size, 1, 0, 0, true⟩) c = some p → p.fin < p.off → p.blk < w.heap.size := fun c x p hcb hc hp hm => by
      obtain ⟨a1, a2⟩ := hmk c x p hcb hc hp
      obtain ⟨_, h2, _⟩ := h.marks c x p a1 a2 hm
      exact (Array.getElem?_eq_some_iff.1 h2).1
    by_cases hcb : c = b
    · rw [hcb, Env.put_same] at hp
      obtain rfl := Option.some.inj hp
      refine ⟨h.base, hD, fun c' x' p' hne hc' hp' hm' => ?_⟩
      have := key c' x' p' (fun hh => hne (hh.trans hcb.symm)) hc' hp' hm'
      simp only; omega
    · obtain ⟨a1, a2⟩ := hmk c x p hcb hc hp
      obtain ⟨h1, h2, h3⟩ := h.marks c x p a1 a2 hm
      have hlt := (Array.getElem?_eq_some_iff.1 h2).1
      refine ⟨h1, by rw [hold _ hlt]; exact h2, fun c' x' p' hne hc' hp' hm' => ?_⟩
      by_cases hcb' : c' = b
      · rw [hcb', Env.put_same] at hp'
        obtain rfl := Option.some.inj hp'
        simp only; omega
      · obtain ⟨b1, b2⟩ := hmk c' x' p' hcb' hc' hp'
        exact h3 c' x' p' hne b1 b2 hm'

/-- What is no cells, and no mark, turns. -/
theorem Rel.putObj {g : Nat → Option Blk} (h : Rel N ρ g w) {l : Nat} {o : Obj} (o' : Obj) (hl : w.heap[l]? = some o) (hc : o.isCells = false) (hd : o ≠ .deferred (some [])) : Rel N ρ g (w.putObj l o') := by
  refine ⟨by simp only [World.putObj_size]; exact h.base, fun b x hb => ?_, h.apart, fun b x p hb hp hm => ?_⟩
  · obtain ⟨p, h1, h2, h3, h4, h5, h6⟩ := h.blk b x hb
    refine ⟨p, h1, h2, h3, fun i v hi => ?_, h5, fun hr => ?_⟩
    · obtain ⟨v', hv1, hv2, hv3⟩ := h4 i v hi
      obtain ⟨q, q1, q2⟩ := cells_of_cell hv1
      refine ⟨v', ?_, hv2, hv3⟩
      rw [World.cell?_of_block (World.putObj_heap_other fun hh => ?_)]
      · exact hv1
      · simp only at q1 hh; rw [hh, hl] at q1; obtain rfl := Option.some.inj q1; rw [hc] at q2; cases q2
    · obtain ⟨q1, q2, c0, T0, q3, q4⟩ := h6 hr
      refine ⟨q1, q2, c0, T0, ?_, q4⟩
      rw [World.putObj_heap_other fun hh => ?_]
      · exact q3
      · rw [hh, hl] at q3; obtain rfl := Option.some.inj q3; simp [Obj.isCells] at hc
  · obtain ⟨h1, h2, h3⟩ := h.marks b x p hb hp hm
    refine ⟨h1, ?_, h3⟩
    rw [World.putObj_heap_other fun hh => ?_]
    · exact h2
    · rw [hh, hl] at h2; exact hd (Option.some.inj h2)

/-- A mark is come to. -/
theorem Rel.unmark {g g' : Nat → Option Blk} (h : Rel N ρ g w) {b : Nat} {x : Blk} {p : Place} (hb : g b = some x) (hp : ρ b = some p) (hm : p.fin < p.off) (o' : Obj) (e : ∀ c, g' c = if c = b then none else g c) : Rel N ρ g' (w.putObj p.blk o') := by
  obtain ⟨m1, m2, m3⟩ := h.marks b x p hb hp hm
  have hk := h.kill b e
  have hg : ∀ c y, g' c = some y → c ≠ b ∧ g c = some y := fun c y hc => by
    rw [e] at hc; split at hc
    · cases hc
    · exact ⟨‹_›, hc⟩
  refine ⟨by simp only [World.putObj_size]; exact h.base, fun c y hc => ?_, hk.apart, fun c y q hc hq hmq => ?_⟩
  · obtain ⟨q, h1, h2, h3, h4, h5, h6⟩ := hk.blk c y hc
    refine ⟨q, h1, h2, h3, fun i v hi => ?_, h5, fun hr => ?_⟩
    · obtain ⟨v', hv1, hv2, hv3⟩ := h4 i v hi
      obtain ⟨r, r1, r2⟩ := cells_of_cell hv1
      refine ⟨v', ?_, hv2, hv3⟩
      rw [World.cell?_of_block (World.putObj_heap_other fun hh => ?_)]
      · exact hv1
      · simp only at r1 hh; rw [hh, m2] at r1; obtain rfl := Option.some.inj r1; simp [Obj.isCells] at r2
    · obtain ⟨q1, q2, c0, T0, q3, q4⟩ := h6 hr
      refine ⟨q1, q2, c0, T0, ?_, q4⟩
      rw [World.putObj_heap_other fun hh => ?_]
      · exact q3
      · rw [hh, m2] at q3; simp at q3
  · obtain ⟨hcb, hc1⟩ := hg c y hc
    obtain ⟨h1, h2, h3⟩ := h.marks c y q hc1 hq hmq
    refine ⟨h1, ?_, fun c' y' q' hne hc' hq' hm' => h3 c' y' q' hne (hg c' y' hc').2 hq' hm'⟩
    rw [World.putObj_heap_other (m3 c y q hcb hc1 hq hmq)]
    exact h2

theorem Keeps.putObj {w W : World} (h : Keeps N w W) {l : Nat} (hl : w.heap.size ≤ l) (hN : N ≤ w.heap.size) (o : Obj) : Keeps N w (W.putObj l o) :=
  ⟨⟨h.below.os, h.below.tape, h.below.output, by simp only [World.putObj_size]; exact h.size, fun k hk => by rw [World.putObj_heap_other (by omega)]; exact h.block k hk⟩,
   ⟨by simp only [World.putObj_size]; exact h.size, fun k o' hk ho => by
     have := (Array.getElem?_eq_some_iff.1 hk).1
     rw [World.putObj_heap_other (by omega)]; exact h.others.same k o' hk ho⟩⟩

/-- What a function is known to yield: the elements of a row, from the last to the first. -/
def BackOK (P : Program) : Prop := ∀ it fn, P.funcs[it]? = some fn → isBack fn.name = true → ∀ (l : Nat) (bx : Addr) (n : Nat) (w : World) (R : Ending → World → Prop) (I : Nat → World → Prop) (S : World → Prop),
  I n w → n ≤ 1048576 →
  (∃ ad c, w.cell? bx = some (.slice ad n c)) →
  (∀ i W, i < n → I (i + 1) W → ∃ ad c x, W.cell? bx = some (.slice (some ad) n c) ∧ ad.spot = none ∧ W.cell? ⟨ad.block, ad.off + i, none⟩ = some x ∧
    ∃ f tmps assign body, (Instr.yield l #[.int .i64 i, x]).run P W = .ok (.round l f tmps assign body) W ∧
      RoundIn (wideR none) 0 P l f tmps assign body W (fun e W' => (e = .returned (.bool true) ∧ I i W') ∨ (e = .returned (.bool false) ∧ S W'))) →
  (∀ W, I 0 W → R (.returned (.tuple #[])) W) → (∀ W, S W → R (.returned (.tuple #[])) W) →
  (∀ args W, (callFunc it args).run P W = .ok (.enter it args) W) ∧ CallsIn (wideR none) 0 P it #[.func (.yield l) #[] #[], .pointer (some bx)] w R

theorem cellX_some {a : Addr} {v : Value} (h : cellX a m = some (v, m')) : a.spot = none ∧ m'.t = m.t ∧ m'.next = m.next ∧ ∃ x, m.t.get a.block = some x ∧ x.cells[a.off]? = some v := by
  unfold cellX at h
  split at h
  · rename_i b o
    obtain ⟨blk, m1, h1, h2⟩ := bind_some h
    obtain ⟨h3, rfl⟩ := getB_some h1
    cases hc : blk.cells[o]? with
    | none => simp only [hc] at h2; exact (fail_some h2).elim
    | some u =>
      simp only [hc] at h2
      obtain ⟨rfl, rfl⟩ := ret_some h2
      exact ⟨rfl, rfl, rfl, blk, h3, hc⟩
  · exact (fail_some h).elim

theorem putRound_rel : ∀ (ts : List Tmp) (vs vs' : List Value) {fr fr' : Fr} {a : Act}, FrR ρ fr a → VRs ρ vs vs' → putRound ts vs fr m = some (fr', m') →
    m' = m ∧ ts.length = vs'.length ∧ FrR ρ fr' { a with tmps := (ts.zip vs').foldl (fun tmps (t, v) => tmps.setIfInBounds t v) a.tmps }
  | t :: ts, v :: vs, vs', fr, fr', a, hfr, hv, h => by
    obtain ⟨v', vs'', rfl, hv1, hv2⟩ := hv.inv
    obtain ⟨fr1, m1, h1, h2⟩ := bind_some h
    obtain ⟨hfr1, rfl⟩ := hfr.put hv1 h1
    obtain ⟨e1, e2, e3⟩ := putRound_rel ts vs vs'' hfr1 hv2 h2
    exact ⟨e1, by simp [e2], e3⟩
  | [], [], vs', fr, fr', a, hfr, hv, h => by
    obtain rfl := hv.inv0
    obtain ⟨rfl, rfl⟩ := ret_some h
    exact ⟨rfl, rfl, hfr⟩
  | [], _ :: _, _, _, _, _, _, _, h => (fail_some h).elim
  | _ :: _, [], _, _, _, _, _, _, h => (fail_some h).elim

theorem backV_some {v : Value} {bx : Addr} (h : backV P v = some bx) : ∃ it fn, v = .func (.func it) ⟨[]⟩ ⟨[.pointer (some bx)]⟩ ∧ P.funcs[it]? = some fn ∧ isBack fn.name = true := by
  unfold backV at h
  split at h
  · rename_i it b
    cases hfn : P.funcs[it]? with
    | none => simp [hfn] at h
    | some fn =>
      simp only [hfn] at h
      cases hb : isBack fn.name with
      | false => simp [hb] at h
      | true =>
        simp only [hb, cond_true, Option.some.injEq] at h
        subst h
        exact ⟨it, fn, rfl, hfn, hb⟩
  · cases h

theorem AfterF.putObj {fr : Fr} {a : Act} {W : World} {ρ' : Env} (h : AfterF N ρ m m' w fr a W ρ') {l : Nat} {r : Loop} (hl : W.heap[l]? = some (.loop r)) (hlw : w.heap.size ≤ l) (hN : N ≤ w.heap.size) (o : Obj) : AfterF N ρ m m' w fr a (W.putObj l o) ρ' :=
  ⟨h.ext, h.dom, h.rel.putObj o hl rfl (by simp), h.frame, h.below.putObj hlw hN o, h.marks⟩

theorem AfterF.memo {m1 : Mem} {w1 w2 : World} {ρ1 ρ2 : Env} {fr1 fr2 : Fr} {a1 a2 : Act} (h1 : AfterF N ρ m m1 w fr1 a1 w1 ρ1) (h2 : AfterF N ρ1 m1 m' w1 fr2 a2 w2 ρ2) (hn : m.next ≤ m1.next) (hn' : m1.next ≤ m'.next) : AfterF N ρ m m' w fr1 a1 w2 ρ2 :=
  h1.trans (fr2 := fr1) (a2 := a1) ⟨h2.ext, h2.dom, h2.rel, h1.frame.mono h2.ext, h2.below, h2.marks⟩ hn hn'

/-- The same memory, looked at. -/
theorem AfterF.look {m1 : Mem} {fr : Fr} {a : Act} {W : World} {ρ' : Env} (h : AfterF N ρ m m' w fr a W ρ') (ht : m1.t = m'.t) (hn : m1.next = m'.next) : AfterF N ρ m m1 w fr a W ρ' :=
  ⟨h.ext, fun b hb hb' => by rw [hn]; exact h.dom b hb hb', by rw [ht]; exact h.rel, h.frame, h.below, h.marks⟩

def exitOf : Ex → Exit
  | .normal => .normal
  | .exit i => .exit i
  | .ret => .ret

/-- A piece of code is done by the model as the executor does it. -/
def CodeOK (P : Program) (call : Caller) (N : Nat) (c : Code) : Prop := ∀ (r : Option Nat) (fr fr' : Fr) (e : Ex) (a : Act) (m m' : Mem) (w : World) (ρ : Env) (Q : Exit → Act → World → Prop), (r = none ∨ noDefer c = true) →
  codeX P call c fr m = some ((e, fr'), m') → FrR ρ fr a → Rel N ρ m.t.get w → Fresh ρ m m' → (∀ a' w' ρ', AfterF N ρ m m' w fr' a' w' ρ' → Q (exitOf e) a' w') → c.wpIn (wideR r) 0 P Q a w

def codeOf : Ex → Code
  | .exit i => .exit i
  | _ => .ret

theorem range_does {call : Caller} (hback : BackOK P) {assign body : Code} (hA : CodeOK P call N assign) (hB : CodeOK P call N body) (la : ∀ fr, Local (codeX P call assign fr)) (lb : ∀ fr, Local (codeX P call body fr)) (nda : noDefer assign = true) (ndb : noDefer body = true)
    {g : Operand} {ps : Array Tmp} {fr : Fr} {a : Act} (hfr : FrR ρ fr a) {v : Value} (hev : ev fr g = some v) {bx : Addr} (hbx : backV P v = some bx) {b n c : Nat} {ad : Option Addr} {m1 m2 : Mem} {e : Ex} (h1 : newM m = some (b, m1)) (h2 : cellX bx m1 = some (.slice ad n c, m2)) (hn : n ≤ 1048576)
    (h3 : backX (codeX P call assign) (codeX P call body) bx n ps.toList { fr with d := [] } n m2 = some (e, m')) (hr : Rel N ρ m.t.get w) (hf : Fresh ρ m m') {Q : Exit → Act → World → Prop}
    (hQ : ∀ a' w' ρ', AfterF N ρ m m' w { fr with d := (b, markV) :: fr.d } a' w' ρ' → Q (exitOf e) a' w') : (Code.rangeFunc g ps assign body).wpIn (wideR none) 0 P Q a w := by
  obtain ⟨it, fn, rfl, hfn, hname⟩ := backV_some hbx
  obtain ⟨first', cap', hg, hv1, hv2⟩ := (ev_rel hfr hev).fun'
  obtain rfl := hv1.inv0
  obtain ⟨p', r1, rfl, hp', hr1⟩ := hv2.inv
  obtain rfl := hr1.inv0
  obtain ⟨pl, hpl, hspot, rfl⟩ := hp'
  have hne : newB markB m = some (b, m1) := h1
  rw [newB_eq] at hne
  simp only [Option.some.injEq, Prod.mk.injEq] at hne
  obtain ⟨rfl, hm1⟩ := hne
  have hnx1 : m1.next = m.next + 1 := by rw [← hm1]
  have hget : ∀ c, m1.t.get c = if c = m.next then some markB else m.t.get c := fun c => by
    rw [← hm1]
    by_cases hc : c = m.next
    · subst hc; rw [if_pos rfl]; exact Trie.get_set_same _ _ _ _ (Nat.lt_succ_self _)
    · rw [if_neg hc]; exact Trie.get_set_ne _ _ _ _ _ hc
  obtain ⟨_, ht2, hn2, x2, hx2, hc2⟩ := cellX_some h2
  have hback_next : ∀ i (mi : Mem), backX (codeX P call assign) (codeX P call body) bx n ps.toList { fr with d := [] } i mi = some (e, m') → mi.next ≤ m'.next := fun i mi h => next_mono (Local.backX la lb bx n ps.toList _ i) h
  have hle2 := hback_next n m2 h3
  have hfree : ρ m.next = none := hf m.next (Nat.le_refl _) (by omega)
  refine wpIn_rangeFunc ?_
  intro f0 hf0
  obtain ⟨rec, hrec⟩ : ∃ rec : LoopState → Option Code → Loop, rec = fun st pe => { state := st, pending := pe, fn := f0, tmps := a.tmps, params := ps, assign, body, defers := w.heap.size } := ⟨_, rfl⟩
  obtain ⟨W1, hW1⟩ : ∃ W1, (w.alloc (.deferred (some []))).alloc (.loop (rec .ready none)) = W1 := ⟨_, rfl⟩
  have hL1 : W1.heap[w.heap.size + 1]? = some (.loop (rec .ready none)) := by
    rw [← hW1]; have := World.alloc_heap_new (w.alloc (.deferred (some []))) (.loop (rec .ready none)); rwa [World.size_alloc] at this
  have hK1 : W1.heap[w.heap.size]? = some (.deferred (some [])) := by
    rw [← hW1]; exact (Below.heap_alloc _ _ _ (by simp)).trans (World.alloc_heap_new w _)
  have hold : ∀ k, k < w.heap.size → W1.heap[k]? = w.heap[k]? := fun k hk => by
    rw [← hW1]; exact (Below.heap_alloc _ _ _ (by simp; omega)).trans (Below.heap_alloc _ _ _ hk)
  have hsz : w.heap.size ≤ W1.heap.size := by rw [← hW1]; simp; omega
  have hkeep : Keeps N w W1 := by rw [← hW1]; exact ((Keeps.refl N w).alloc hr.base _).alloc hr.base _
  have hrel1 := Rel.mark hr hfree hold hsz hK1 hget
  have hext1 := Env.ext hfree ⟨w.heap.size, 1, 0, 0, true⟩
  have hAF1 : AfterF N ρ m m1 w { fr with d := (m.next, markV) :: fr.d } { a with defers := { target := .collected w.heap.size, args := #[] } :: a.defers } W1 (ρ.put m.next ⟨w.heap.size, 1, 0, 0, true⟩) := by
    refine ⟨hext1, fun c hc hc' => ?_, hrel1, ⟨hfr.size, fun t => (hfr.tmps t).mono hext1, ⟨_, _, rfl, .inr ⟨rfl, _, Env.put_same _ _ _, by simp, rfl⟩, hfr.defers.mono hext1⟩⟩, hkeep, fun c p hc hp hm => ?_⟩
    · by_cases h : c = m.next
      · subst h; omega
      · rw [Env.put_ne _ _ h] at hc'; exact absurd hc hc'
    · by_cases h : c = m.next
      · rw [h, Env.put_same] at hp
        obtain rfl := Option.some.inj hp
        exact Nat.le_refl _
      · rw [Env.put_ne _ _ h] at hp; exact absurd (hc.symm.trans hp) (by simp)
  have hlw : w.heap.size ≤ w.heap.size + 1 := Nat.le_succ _
  obtain ⟨I, hI⟩ : ∃ I : Nat → World → Prop, I = fun i W => ∃ mi ρi, AfterF N ρ m mi w { fr with d := (m.next, markV) :: fr.d } { a with defers := { target := .collected w.heap.size, args := #[] } :: a.defers } W ρi ∧ W.heap[w.heap.size + 1]? = some (.loop (rec .ready none)) ∧
    backX (codeX P call assign) (codeX P call body) bx n ps.toList { fr with d := [] } i mi = some (e, m') ∧ m1.next ≤ mi.next ∧ ρi bx.block = some pl := ⟨_, rfl⟩
  obtain ⟨S, hS⟩ : ∃ S : World → Prop, S = fun W => ∃ ρi, AfterF N ρ m m' w { fr with d := (m.next, markV) :: fr.d } { a with defers := { target := .collected w.heap.size, args := #[] } :: a.defers } W ρi ∧
    W.heap[w.heap.size + 1]? = some (.loop (rec .done (some (codeOf e)))) ∧ e ≠ .normal := ⟨_, rfl⟩
  have hbl := hback it fn hfn hname (w.heap.size + 1) ⟨pl.blk, pl.off + bx.off, none⟩ n W1 (rangePost (wideR none) 0 P (w.heap.size + 1) Q { a with defers := [{ target := .collected w.heap.size, args := #[] }] ++ a.defers }) I S
    (by rw [hI]; exact ⟨m2, _, hAF1.look ht2 hn2, hL1, h3, by omega, hext1 _ _ hpl⟩) hn
    (by
      obtain ⟨v', e1, e2, _⟩ := hrel1.cell hx2 (hext1 _ _ hpl) hc2
      have : ∃ ad' c', v' = .slice ad' n c' := by
        cases ad with
        | none => exact ⟨_, _, e2⟩
        | some q =>
          rcases e2 with ⟨_, c', _, _, h, _⟩ | ⟨_, h0, _, a', h⟩
          · exact ⟨_, _, h⟩
          · exact ⟨some a', 0, by rw [h0]; exact h⟩
      obtain ⟨ad', c', rfl⟩ := this
      exact ⟨ad', c', e1⟩)
    (by
      intro i W hin hi
      rw [hI] at hi
      obtain ⟨mi, ρi, hAF, hl, hbk, hnx, hbp⟩ := hi
      unfold backX at hbk
      obtain ⟨sv, ma, ha1, ha2⟩ := bind_some hbk
      obtain ⟨_, hta, hna, xa, hxa, hca⟩ := cellX_some ha1
      cases sv <;> first | exact (fail_some ha2).elim | skip
      rename_i sad k c3
      cases sad with
      | none => exact (fail_some ha2).elim
      | some q =>
      simp only at ha2
      obtain ⟨u, mb, hb1, hb2⟩ := bind_some ha2
      obtain ⟨hkn, rfl⟩ := guard_some hb1
      have hkn : k = n := by simpa using hkn
      subst hkn
      obtain ⟨x, mc, hc1, hc3⟩ := bind_some hb2
      obtain ⟨hqs, htc, hnc, xc, hxc, hcc⟩ := cellX_some hc1
      simp only at hxc hcc hqs
      obtain ⟨fr1, md, hd1, hd2⟩ := bind_some hc3
      obtain ⟨qa, me, he1, he2⟩ := bind_some hd2
      obtain ⟨ea, fr2⟩ := qa
      obtain ⟨v', e1, e2, _⟩ := hAF.rel.cell hxa hbp hca
      rcases e2 with ⟨pq, c', hpq, _, rfl, _⟩ | ⟨hsp, _⟩
      rotate_left
      · exact absurd hqs hsp
      rw [hta] at hxc
      obtain ⟨x', g1, g2, _⟩ := hAF.rel.cell hxc hpq hcc
      have hfr0 : FrR ρi { fr with d := [] } { tmps := a.tmps, defers := [] } := ⟨hAF.frame.size, hAF.frame.tmps, rfl⟩
      obtain ⟨hmd, hlen, hfr1⟩ := putRound_rel ps.toList [.int .i64 i, x] [.int .i64 i, x'] hfr0 (.cons (.leaf rfl) (.cons g2 .nil)) hd1
      subst hmd
      have hAFd : AfterF N ρ m md w _ _ W ρi := hAF.look (htc.trans hta) (hnc.trans hna)
      have hy := run_yield (P := P) (args := #[.int .i64 i, x']) hl (by rw [hrec]; simpa using hlen.symm)
      rw [hrec] at hy
      refine ⟨⟨pq.blk, pq.off + q.off, none⟩, c', x', e1, rfl, by rw [← g1, Nat.add_assoc], f0, _, assign, body, hy, ?_⟩
      refine roundIn_of_wpIn (F := wideR none) trivial ?_
      have htmps : (ps.zip #[Value.int .i64 i, x']).foldl (fun tmps (x : Tmp × Value) => tmps.setIfInBounds x.1 x.2) a.tmps = (ps.toList.zip [Value.int .i64 i, x']).foldl (fun tmps (x : Tmp × Value) => tmps.setIfInBounds x.1 x.2) a.tmps := by
        rw [← Array.foldl_toList]; simp
      have hfr1' : FrR ρi fr1 { tmps := (ps.zip #[Value.int .i64 i, x']).foldl (fun tmps (x : Tmp × Value) => tmps.setIfInBounds x.1 x.2) a.tmps, defers := [] } := by rw [htmps]; exact hfr1
      have n1 := next_mono (la fr1) he1
      cases ea with
      | exit i => exact (fail_some he2).elim
      | ret => exact (fail_some he2).elim
      | normal =>
      simp only at he2
      obtain ⟨qb, mf, hk1, hk2⟩ := bind_some he2
      obtain ⟨eb, fr3⟩ := qb
      have n2 := next_mono (lb fr2) hk1
      have n3 : mf.next ≤ m'.next := by
        cases eb with
        | normal => exact hback_next i mf hk2
        | exit j => obtain ⟨_, rfl⟩ := ret_some hk2; exact Nat.le_refl _
        | ret => obtain ⟨_, rfl⟩ := ret_some hk2; exact Nat.le_refl _
      have hmn : m.next ≤ md.next := by omega
      refine hA (some (w.heap.size + 1)) fr1 fr2 .normal _ md me W ρi _ (.inr nda) he1 hfr1' hAFd.rel ((hAFd.fresh hf hmn).left (by omega)) fun a4 w4 ρ4 hA4 => ?_
      have hl4 := hA4.below.others.same _ _ hl rfl
      have hAF4 := hAFd.memo hA4 hmn n1
      refine ⟨_, run_beginRound hl4 (by rw [hrec]), ?_⟩
      have hA5 := hAF4.putObj hl4 hlw hr.base (.loop { rec .ready none with state := .busy })
      have hlt4 := (Array.getElem?_eq_some_iff.1 hl4).1
      have hl5 : (w4.putObj (w.heap.size + 1) (.loop { rec .ready none with state := .busy })).heap[w.heap.size + 1]? = some (.loop { rec .ready none with state := .busy }) := World.putObj_heap_same hlt4
      refine hB (some (w.heap.size + 1)) fr2 fr3 eb _ me mf _ ρ4 _ (.inr ndb) hk1 hA4.frame hA5.rel ((hA5.fresh hf (by omega)).left (by omega)) fun a6 w6 ρ6 hA6 => ?_
      have hl6 := hA6.below.others.same _ _ hl5 rfl
      have hAF6 := hA5.memo hA6 (by omega) n2
      have hlt6 := (Array.getElem?_eq_some_iff.1 hl6).1
      have hbp6 : ρ6 bx.block = some pl := hA6.ext _ _ (hA4.ext _ _ hbp)
      have fin : ∀ jump : Option Code, (Instr.endRound (w.heap.size + 1) jump).run P w6 = .ok (.bool jump.isNone) (w6.putObj (w.heap.size + 1) (.loop (rec (if jump.isNone then .ready else .done) jump))) := fun jump => by
        have := run_endRound (P := P) jump hl6
        rw [hrec] at this ⊢
        exact this
      cases eb with
      | normal =>
        refine ⟨_, _, fin none, .inl ⟨rfl, ?_⟩⟩
        rw [hI]
        exact ⟨mf, ρ6, hAF6.putObj hl6 hlw hr.base _, World.putObj_heap_same hlt6, hk2, by omega, hbp6⟩
      | exit j =>
        obtain ⟨rfl, rfl⟩ := ret_some hk2
        refine ⟨_, _, fin (some (.exit j)), .inr ⟨rfl, ?_⟩⟩
        rw [hS]
        exact ⟨ρ6, hAF6.putObj hl6 hlw hr.base _, World.putObj_heap_same hlt6, by simp⟩
      | ret =>
        obtain ⟨rfl, rfl⟩ := ret_some hk2
        refine ⟨_, _, fin (some .ret), .inr ⟨rfl, ?_⟩⟩
        rw [hS]
        exact ⟨ρ6, hAF6.putObj hl6 hlw hr.base _, World.putObj_heap_same hlt6, by simp⟩)
    (by
      intro W hi
      rw [hI] at hi
      obtain ⟨mi, ρi, hAF, hl, hbk, _, _⟩ := hi
      obtain ⟨rfl, rfl⟩ := ret_some hbk
      exact ⟨none, _, by have := run_endLoop (P := P) hl (by rw [hrec]; simp); rw [hrec] at this; exact this, hQ _ _ ρi (hAF.putObj hl hlw hr.base _)⟩)
    (by
      intro W hs
      rw [hS] at hs
      obtain ⟨ρi, hAF, hl, hen⟩ := hs
      have hend := run_endLoop (P := P) hl (by rw [hrec]; simp)
      rw [hrec] at hend
      refine ⟨some (codeOf e), _, hend, ?_⟩
      have hq := hQ _ _ ρi (hAF.putObj hl hlw hr.base (.loop { rec .done (some (codeOf e)) with state := .exhausted }))
      rw [hrec] at hq
      cases e with
      | normal => exact absurd rfl hen
      | exit j => exact wpIn_exit hq
      | ret => exact wpIn_ret hq)
  refine ⟨w.heap.size + 1, [{ target := .collected w.heap.size, args := #[] }], W1, { target := .fn (.func it) ⟨[.pointer (some ⟨pl.blk, pl.off + bx.off, none⟩)]⟩, args := #[.func (.yield (w.heap.size + 1)) #[] #[]] }, W1, it,
    #[.func (.yield (w.heap.size + 1)) #[] #[]] ++ ⟨[.pointer (some ⟨pl.blk, pl.off + bx.off, none⟩)]⟩, W1, ?_, ?_, ?_, ?_, fun h => by simp [Fence.wide] at h, ?_⟩
  · rw [← hW1, hrec]; exact run_enterLoop_outer _ _ _ _ _
  · simp only [resolve, hg]
    simp [go_sem]
  · intro f' hf'; trivial
  · simp [invoke, go_sem, hbl.1]
  · exact hbl.2

end Go.Clean
