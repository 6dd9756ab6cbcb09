/- The clean executor: append and copy. -/
import Derived.Test.YtjddmnfdnnbbhaaGreatKIZ
import Derived.Lib.AppendZeros
set_option linter.unusedSimpArgs false
set_option linter.unusedVariables false
set_option linter.unusedVariables false
set_option linter.unusedSimpArgs false
namespace Go.Clean
open Go Go.RowKit
variable {P : Program} {N : Nat} {ρ : Env} {m m' : Mem} {w : World}

/-- What a block of the clean memory asks of the heap. -/
def Stands (N : Nat) (ρ : Env) (w : World) (b : Nat) (x : Blk) : Prop := ∃ p, ρ b = some p ∧ x.sz = p.sz ∧ x.grow = !p.exact ∧
    (∀ i v, x.cells[i]? = some v → ∃ v', w.cell? ⟨p.blk, p.off + i, none⟩ = some v' ∧ VR ρ v v' ∧ oneV v = true) ∧
    (x.ro = true → x.cells = [] ∨ p.blk < N) ∧
    (x.ro = false → N ≤ p.blk ∧ p.off + x.cells.length ≤ p.fin ∧ ∃ c T, w.heap[p.blk]? = some (.cells c T (0, 0)) ∧ p.fin ≤ c.size)

/-- The other blocks do not feel a store into one's own place. -/
theorem Rel.others {g : Nat → Option Blk} (h : Rel N ρ g w) {b : Nat} {x : Blk} {p : Place} (hb : g b = some x) (hp : ρ b = some p) (hro : x.ro = false) {c : Array Value} {T : TypeId} (hc : w.heap[p.blk]? = some (.cells c T (0, 0)))
    {lo hi : Nat} (hlo : p.off ≤ lo) (hhi : hi ≤ p.fin) {c' : Array Value} (hc' : c'.size = c.size) (hcc : ∀ j, ¬ (lo ≤ j ∧ j < hi) → c'[j]? = c[j]?) {w' : World}
    (hw : w'.heap[p.blk]? = some (.cells c' T (0, 0))) (hw' : ∀ k, k ≠ p.blk → w'.heap[k]? = w.heap[k]?) : ∀ d y, d ≠ b → g d = some y → Stands N ρ w' d y := by
  intro d y hdb hd
  obtain ⟨q, q1, q2, q3, q4, q5, q6⟩ := h.blk b x hb
  rw [hp] at q1
  obtain rfl : p = q := by simpa using q1
  obtain ⟨r1, r2, _⟩ := q6 hro
  have hcell : ∀ k i, k ≠ p.blk → w'.cell? ⟨k, i, none⟩ = w.cell? ⟨k, i, none⟩ := fun k i hk => World.cell?_of_block (hw' k hk)
  obtain ⟨s, s1, s2, s3, s4, s5, s6⟩ := h.blk d y hd
  refine ⟨s, s1, s2, s3, fun i v hi => ?_, s5, fun hr => ?_⟩
  · obtain ⟨v', hv1, hv2, hv3⟩ := s4 i v hi
    refine ⟨v', ?_, hv2, hv3⟩
    by_cases hk : s.blk = p.blk
    · rw [hk, cell_row w' _ _ c' T _ hw, hcc, ← cell_row w _ _ c T _ hc, ← hk]
      · exact hv1
      · cases hr : y.ro with
        | true =>
          rcases s5 hr with h0 | h0
          · rw [h0] at hi; simp at hi
          · omega
        | false =>
          obtain ⟨t1, t2, _⟩ := s6 hr
          have hi' := (List.getElem?_eq_some_iff.1 hi).1
          rcases h.apart d b y x s p hdb hd hb hr hro s1 hp with h1 | h1 | h1
          · exact absurd hk h1
          · omega
          · omega
    · rw [hcell _ _ hk]; exact hv1
  · obtain ⟨t1, t2, c1, T1, t3, t4⟩ := s6 hr
    refine ⟨t1, t2, ?_⟩
    by_cases hk : s.blk = p.blk
    · rw [hk, hc] at t3
      simp only [Option.some.injEq, Obj.cells.injEq, and_true] at t3
      obtain ⟨rfl, rfl⟩ := t3
      exact ⟨c', T, by rw [hk]; exact hw, by rw [hc']; exact t4⟩
    · exact ⟨c1, T1, by rw [hw' _ hk]; exact t3, t4⟩

theorem Stands.mono {ρ' : Env} {b : Nat} {x : Blk} (h : Stands N ρ w b x) (e : Ext ρ ρ') : Stands N ρ' w b x := by
  obtain ⟨p, h1, h2, h3, h4, h5, h6⟩ := h
  exact ⟨p, e _ _ h1, h2, h3, fun i v hi => by obtain ⟨v', a, b, c⟩ := h4 i v hi; exact ⟨v', a, b.mono e, c⟩, h5, h6⟩

/-- An append in place: the old block is given up, the new one begins where the slice began. -/
theorem Rel.extend {g g' : Nat → Option Blk} (h : Rel N ρ g w) {b b' : Nat} {x : Blk} {p : Place} (hb : g b = some x) (hp : ρ b = some p) (hro : x.ro = false) (hgr : x.grow = true) {o L : Nat} (hend : o + L = x.cells.length) {old new news : List Value}
    (hold : takeN x.cells o L = some old) (hv : VRs ρ new news) (ho : new.all oneV = true) (hfit : p.off + x.cells.length + new.length ≤ p.fin) (hb' : ρ b' = none)
    (e : ∀ d, g' d = if d = b' then some { cells := old ++ new, sz := x.sz, grow := true, ro := false } else if d = b then none else g d) :
    ∃ w', (storeCells ⟨p.blk, p.off + x.cells.length, none⟩ news).run P w = .ok () w' ∧ Rel N (ρ.put b' ⟨p.blk, p.off + o, p.fin, p.sz, false⟩) g' w' ∧ Keeps N w w' := by
  obtain ⟨q, q1, q2, q3, q4, q5, q6⟩ := h.blk b x hb
  rw [hp] at q1
  obtain rfl : p = q := by simpa using q1
  obtain ⟨r1, r2, c, T, r3, r4⟩ := q6 hro
  have hlen := hv.length
  obtain ⟨ho1, ho2⟩ := takeN_spec _ _ _ _ hold
  have hrun := run_storeCells_at P p.blk (p.off + x.cells.length) T news 0 c w r3 (by omega) (hv.one ho)
  simp only [Nat.add_zero] at hrun
  have hext := Env.ext hb' ⟨p.blk, p.off + o, p.fin, p.sz, false⟩
  generalize hcd : (c.toList.take (p.off + x.cells.length) ++ news ++ c.toList.drop (p.off + x.cells.length + news.length)).toArray = c' at hrun
  have hsz : c'.size = c.size := by
    rw [← hcd]
    simp only [List.size_toArray, List.length_append, List.length_take, List.length_drop, Array.length_toList]; omega
  have hget : ∀ j, c'[j]? = if p.off + x.cells.length ≤ j ∧ j < p.off + x.cells.length + news.length then news[j - (p.off + x.cells.length)]? else c[j]? := by
    intro j
    rw [← hcd, List.getElem?_toArray, List.append_assoc]
    have hl1 : (c.toList.take (p.off + x.cells.length)).length = p.off + x.cells.length := by rw [List.length_take, Array.length_toList]; omega
    by_cases h1 : j < p.off + x.cells.length
    · rw [if_neg (by omega), List.getElem?_append_left (by omega), List.getElem?_take, if_pos h1]; simp
    · rw [List.getElem?_append_right (by omega), hl1]
      by_cases h3 : j < p.off + x.cells.length + news.length
      · rw [if_pos (by omega), List.getElem?_append_left (by omega)]
      · rw [if_neg (by omega), List.getElem?_append_right (by omega), List.getElem?_drop, ← Array.getElem?_toList]; congr 1; omega
  have hw := setRow_heap w p.blk c c' T _ r3
  have hw' : ∀ k, k ≠ p.blk → (w.setRow p.blk c').heap[k]? = w.heap[k]? := fun k hk => setRow_other w p.blk k _ hk
  have hoth := h.others hb hp hro r3 (lo := p.off + x.cells.length) (hi := p.off + x.cells.length + news.length) (by omega) (by omega) hsz (fun j hj => by rw [hget, if_neg hj]) hw hw'
  have hmk : ∀ d y s, g' d = some y → (ρ.put b' ⟨p.blk, p.off + o, p.fin, p.sz, false⟩) d = some s → s.fin < s.off → g d = some y ∧ ρ d = some s := fun d y s hd hs hm => by
    by_cases hdb : d = b'
    · rw [hdb, Env.put_same] at hs
      obtain rfl := Option.some.inj hs
      simp only at hm
      omega
    · rw [e, if_neg hdb] at hd
      rw [Env.put_ne _ _ hdb] at hs
      by_cases hb2 : d = b
      · rw [if_pos hb2] at hd; cases hd
      · rw [if_neg hb2] at hd; exact ⟨hd, hs⟩
  refine ⟨_, hrun, ⟨by simp [World.setRow]; exact h.base, fun d y hd => ?_, fun d d' y y' s s' hne hd hd' hr hr' hs hs' => ?_, fun d y s hd hs hm => by
    obtain ⟨hd1, hs1⟩ := hmk d y s hd hs hm
    obtain ⟨h1, h2, h3⟩ := h.marks d y s hd1 hs1 hm
    have hne : s.blk ≠ p.blk := fun hh => by rw [hh, r3] at h2; simp at h2
    refine ⟨h1, by rw [hw' _ hne]; exact h2, fun d' y' s' hne' hd' hs' hm' => ?_⟩
    obtain ⟨hd2, hs2⟩ := hmk d' y' s' hd' hs' hm'
    exact h3 d' y' s' hne' hd2 hs2 hm'⟩, Keeps.row r1 r3 rfl rfl rfl (by simp [World.setRow]) (fun k _ hk => setRow_other w p.blk k _ hk)⟩
  · rw [e] at hd
    by_cases hdb' : d = b'
    · subst hdb'
      rw [if_pos rfl] at hd
      obtain rfl := Option.some.inj hd
      refine ⟨_, Env.put_same _ _ _, q2, rfl, fun i v hi => ?_, fun hr => by simp at hr, fun _ => ⟨r1, ?_, c', T, hw, by rw [hsz]; exact r4⟩⟩
      · rw [cell_row _ _ _ c' T _ hw, hget]
        simp only at hi ⊢
        by_cases hlt : i < L
        · rw [if_neg (by omega)]
          rw [List.getElem?_append_left (by omega), ho2 i hlt] at hi
          obtain ⟨v', t1, t2, t3⟩ := q4 _ v hi
          rw [cell_row w _ _ c T _ r3] at t1
          exact ⟨v', by rw [← t1]; congr 1; omega, t2.mono hext, t3⟩
        · rw [List.getElem?_append_right (by omega), ho1] at hi
          have hlt2 := (List.getElem?_eq_some_iff.1 hi).1
          rw [if_pos (by omega)]
          obtain ⟨v', t1, t2⟩ := hv.get hi
          exact ⟨v', by rw [← t1]; congr 1; omega, t2.mono hext, VRs.oneV_get ho hi⟩
      · simp only [List.length_append, ho1]; omega
    · rw [if_neg hdb'] at hd
      by_cases hdb : d = b
      · rw [if_pos hdb] at hd; cases hd
      · rw [if_neg hdb] at hd
        exact (hoth d y hdb hd).mono hext
  · rw [e] at hd hd'
    have key : ∀ d y s, d ≠ b' → (if d = b' then some { cells := old ++ new, sz := x.sz, grow := true, ro := false : Blk } else if d = b then none else g d) = some y → y.ro = false → (ρ.put b' ⟨p.blk, p.off + o, p.fin, p.sz, false⟩) d = some s →
        g d = some y ∧ ρ d = some s ∧ d ≠ b := fun d y s hdb hd hr hs => by
      rw [if_neg hdb] at hd
      rw [Env.put_ne _ _ hdb] at hs
      by_cases hb2 : d = b
      · rw [if_pos hb2] at hd; cases hd
      · rw [if_neg hb2] at hd; exact ⟨hd, hs, hb2⟩
    by_cases hdb : d = b'
    · have hdb' : d' ≠ b' := fun hh => hne (hdb.trans hh.symm)
      obtain ⟨k1, k2, k3⟩ := key d' y' s' hdb' hd' hr' hs'
      rw [hdb, Env.put_same] at hs
      obtain rfl := Option.some.inj hs
      have := h.apart d' b y' x s' p k3 k1 hb hr' hro k2 hp
      simp only
      rcases this with h1 | h1 | h1
      · exact .inl (Ne.symm h1)
      · exact .inr (.inr (by omega))
      · exact .inr (.inl (by omega))
    · obtain ⟨k1, k2, k3⟩ := key d y s hdb hd hr hs
      by_cases hdb' : d' = b'
      · rw [hdb', Env.put_same] at hs'
        obtain rfl := Option.some.inj hs'
        have := h.apart d b y x s p k3 k1 hb hr hro k2 hp
        simp only
        rcases this with h1 | h1 | h1
        · exact .inl h1
        · exact .inr (.inl (by omega))
        · exact .inr (.inr (by omega))
      · obtain ⟨l1, l2, l3⟩ := key d' y' s' hdb' hd' hr' hs'
        exact h.apart d d' y y' s s' hne k1 l1 hr hr' k2 l2

/-- What is appended, read. -/
theorem elems_does {x x' : Value} {n : Nat} {new : List Value} (hx : VR ρ x x') (h : elemsX x n m = some (some new, m')) (hr : Rel N ρ m.t.get w) :
    m'.t = m.t ∧ m'.next = m.next ∧ ((∃ c, x = .slice none 0 c ∧ x' = .slice none 0 c ∧ new = []) ∨
      ∃ (a : Addr) (k c' : Nat) (news : List Value), sliceLen x = k ∧ x' = .slice (some a) k c' ∧ VRs ρ new news ∧ news.length = k * n ∧ ∀ j v, news[j]? = some v → w.cell? (a.add j) = some v) := by
  unfold elemsX at h
  split at h
  · obtain ⟨h1, rfl⟩ := ret_some h
    obtain rfl := Option.some.inj h1
    exact ⟨rfl, rfl, .inl ⟨_, rfl, hx, rfl⟩⟩
  · rename_i b o k c
    obtain ⟨blk, m1, h1, h2⟩ := bind_some h
    obtain ⟨hb, rfl⟩ := getB_some h1
    obtain ⟨h3, rfl⟩ := ret_some h2
    obtain ⟨p, c', hp, rfl, _⟩ := hx.slc
    obtain ⟨r', t1, t2, t3⟩ := cells_read hr hb hp h3
    exact ⟨rfl, rfl, .inr ⟨_, k, c', r', rfl, rfl, t1, t2, t3⟩⟩
  · obtain ⟨h1, rfl⟩ := ret_some h
    obtain rfl := Option.some.inj h1
    rcases hx with ⟨p, c', hp, hs, _⟩ | ⟨_, _, _, a', rfl⟩
    · cases hs
    · exact ⟨rfl, rfl, .inr ⟨a', 0, 0, [], rfl, rfl, .nil, by simp, fun j v hj => by simp at hj⟩⟩
  · obtain ⟨h1, rfl⟩ := ret_some h
    cases h1

theorem append_room {t ty e : TypeId} {i : TypeInfo} (ht : P.underlying t = some (.slice e)) (hi : P.info? e = some i) {base : Option Addr} {n c xl : Nat} {x' : Value} {news : List Value} {w' : World} (hlen : (Builtin.lenOf x').run P w = .ok xl w)
    (hf : (Builtin.firstCells i.size xl x').run P w = .ok news.toArray w) (hroom : n + xl ≤ c)
    (hst : (match base with
      | some a => storeCells (a.add (n * i.size)) news
      | none => pure ()).run P w = .ok () w') :
    (Builtin.append_ #[t, t] ty #[.slice base n c, x']).run P w = .ok (.slice base (n + xl) c) w' := by
  cases base with
  | none =>
    obtain ⟨rfl⟩ : w = w' := by simpa using hst
    simp [Builtin.append_, run_underlying ht, sizeOf, typeInfo, hi, hlen, hroom, hf]
  | some a =>
    simp only at hst
    simp [Builtin.append_, run_underlying ht, sizeOf, typeInfo, hi, hlen, hroom, hf, hst]

theorem cap_fit (z : Value) {i : TypeInfo} (h1 : i.size = (cellsV z).length) (k : Nat) : (Builtin.zeroCells z.cells k).size = k * i.size := by
  rw [size_zeroCells, cells_arr, h1]; rfl

theorem append_does {t u ty : TypeId} {s s' x x' v : Value} (hs : VR ρ s s') (hx : VR ρ x x') (h : appendX P t u s x m = some (v, m')) (hr : Rel N ρ m.t.get w) (hf : Fresh ρ m m') :
    ∃ v' w' ρ', (Builtin.append_ #[t, u] ty #[s', x']).run P w = .ok v' w' ∧ After N ρ m m' w v v' w' ρ' := by
  unfold appendX at h
  obtain ⟨e, hu⟩ : ∃ e, P.underlying t = some (.slice e) := by
    cases hu : P.underlying t with
    | none => simp only [hu] at h; exact (fail_some h).elim
    | some d => cases d <;> first | exact ⟨_, rfl⟩ | (simp only [hu] at h; exact (fail_some h).elim)
  obtain ⟨e', hu'⟩ : ∃ e, P.underlying u = some (.slice e) := by
    cases hu' : P.underlying u with
    | none => simp only [hu, hu'] at h; exact (fail_some h).elim
    | some d => cases d <;> first | exact ⟨_, rfl⟩ | (simp only [hu, hu'] at h; exact (fail_some h).elim)
  simp only [hu, hu'] at h
  cases hi : P.info? e with
  | none => simp only [hi] at h; exact (fail_some h).elim
  | some i =>
  cases hz : zeroT P e with
  | none => simp only [hi, hz] at h; exact (fail_some h).elim
  | some z =>
  simp only [hi, hz] at h
  obtain ⟨u1, m1, h1, h2⟩ := bind_some h
  obtain ⟨hg, rfl⟩ := guard_some h1
  simp only [Bool.and_eq_true, beq_iff_eq, Nat.blt_eq, Nat.ble_eq] at hg
  obtain ⟨⟨⟨hg1, hg2⟩, rfl⟩, hg3⟩ := hg
  obtain ⟨i', hi', hz', hzp⟩ := zeroT_info hz
  rw [hi] at hi'
  obtain rfl := Option.some.inj hi'
  obtain ⟨onew, m2, h3, h4⟩ := bind_some h2
  cases onew with
  | none => simp only at h4; exact (fail_some h4).elim
  | some new =>
  simp only at h4
  obtain ⟨ht2, hn2, hcase⟩ := elems_does hx h3 hr
  -- the appended cells in general
  obtain ⟨xl, news, hxl, hnew, hlen, hcells, hnl⟩ : ∃ xl news, sliceLen x = xl ∧ VRs ρ new news ∧ (∀ w, (Builtin.lenOf x').run P w = .ok xl w) ∧ (∀ w1 : World, w1.heap = w.heap → (Builtin.firstCells i.size xl x').run P w1 = .ok news.toArray w1) ∧ news.length = xl * i.size := by
    rcases hcase with ⟨c, rfl, rfl, rfl⟩ | ⟨a, k, c', news, hk, rfl, hv, hl, hc⟩
    · exact ⟨0, [], rfl, .nil, fun _ => rfl, fun w1 _ => run_firstCells_none _ _ _ _ _, by simp⟩
    · refine ⟨k, news, hk, hv, fun _ => rfl, fun w1 he => ?_, hl⟩
      exact run_firstCells_some (P := P) w1 i.size k a k c' news hl (fun j v hj => by have := hc j v hj; rw [← this]; simp [World.cell?, he])
  rw [hxl] at h4
  have hr2 : Rel N ρ m2.t.get w := by rw [ht2]; exact hr
  cases s with
  | slice a n c =>
    cases a with
    | none =>
      cases n with
      | succ n => simp only at h4; exact (fail_some h4).elim
      | zero =>
      cases c with
      | succ c => simp only at h4; exact (fail_some h4).elim
      | zero =>
      obtain rfl : s' = .slice none 0 0 := hs
      simp only at h4
      by_cases hx0 : xl = 0
      · subst hx0
        simp only [beq_self_eq_true, cond_true] at h4
        obtain ⟨rfl, rfl⟩ := ret_some h4
        exact ⟨_, w, ρ, append_room (w' := w) hu hi (hlen w) (hcells w rfl) (Nat.le_refl _) rfl, After.same hr ht2 rfl⟩
      · have hb0 : (xl == 0) = false := by simpa using hx0
        simp only [hb0, cond_false] at h4
        obtain ⟨u3, m3, h5, h6⟩ := bind_some h4
        obtain ⟨hg4, rfl⟩ := guard_some h5
        simp only [Nat.ble_eq] at hg4
        obtain ⟨b, m4, h7, h8⟩ := bind_some h6
        obtain ⟨rfl, rfl⟩ := ret_some h8
        obtain ⟨ho, rfl, hnx, hget⟩ := newX_some h7
        rcases hcase with ⟨c, rfl, rfl, rfl⟩ | ⟨a, k, c', news', hk, rfl, hv, hl, hc⟩
        · exact absurd hxl.symm hx0
        · obtain rfl : k = xl := hk.symm.trans hxl
          have hb48 : k * i.bytes ≤ 281474976710656 := Nat.le_trans (Nat.mul_le_mul hg4 hg3) (by decide)
          have hrun := run_append_nil (P := P) w t ty e i z hu hi hz' a k c' news' hl hc (by omega) (by omega) hb48
          have hcap := grownCap_ge w k 0 e
          suffices hA : ∃ ρ', After N ρ m m4 w _ _ _ ρ' from ⟨_, _, hA.choose, hrun, hA.choose_spec⟩
          rw [hn2] at hnx hget ⊢
          refine ⟨_, After.new (b := m.next) (g := m2.t.get) hr2 ho rfl hnx hget (fun b hb1 hb2 => hf b hb1 (by omega)) hv (Builtin.zeroCells z.cells (grownCap w k 0 e - k)).toList e ?_ ?_ (.inl ⟨_, grownCap w k 0 e, Env.put_same _ _ _, rfl, rfl, Nat.le_refl _, hcap, fun hx => by simp at hx, ?_⟩)⟩
          · show (w.drew.alloc _).heap = _
            have : (news' ++ (Builtin.zeroCells z.cells (grownCap w k 0 e - k)).toList).toArray = news'.toArray ++ Builtin.zeroCells z.cells (grownCap w k 0 e - k) := by simp
            rw [this]; rfl
          · exact (Keeps.refl N w).drew.alloc hr.base _
          · show 0 + 0 + grownCap w k 0 e * i.size ≤ news'.length + (Builtin.zeroCells z.cells (grownCap w k 0 e - k)).toList.length
            have e1 : (Builtin.zeroCells z.cells (grownCap w k 0 e - k)).toList.length = (grownCap w k 0 e - k) * i.size := by rw [Array.length_toList]; exact cap_fit z hg1 _
            rw [e1, hl, ← Nat.add_mul]
            simp only [Nat.zero_add]
            exact Nat.mul_le_mul_right _ (by omega)
    | some a =>
      obtain ⟨b, o, sp⟩ := a
      cases sp with
      | some _ => simp only at h4; exact (fail_some h4).elim
      | none =>
      simp only at h4
      obtain ⟨p, c', hp, rfl, hnc, hcc, hex, hfin⟩ := hs.slc
      obtain ⟨blk, m3, h5, h6⟩ := bind_some h4
      obtain ⟨hb, rfl⟩ := getB_some h5
      obtain ⟨u3, m4, h7, h8⟩ := bind_some h6
      obtain ⟨hg4, rfl⟩ := guard_some h7
      simp only [Bool.and_eq_true, beq_iff_eq, Nat.ble_eq] at hg4
      obtain ⟨hg4, hg5⟩ := hg4
      obtain ⟨q, q1, q2, q3, q4, q5, q6⟩ := hr2.blk b blk hb
      rw [hp] at q1
      obtain rfl : p = q := by simpa using q1
      have hsz : p.sz = i.size := by rw [← q2, hg4]
      by_cases hroom : n + xl ≤ c
      · have hble : Nat.ble (n + xl) c = true := by simpa using hroom
        simp only [hble, cond_true] at h8
        by_cases hx0 : xl = 0
        · subst hx0
          simp only [beq_self_eq_true, cond_true] at h8
          obtain ⟨rfl, rfl⟩ := ret_some h8
          have hn0 : news = [] := List.eq_nil_of_length_eq_zero (by rw [hnl, Nat.zero_mul])
          subst hn0
          exact ⟨_, w, ρ, append_room (w' := w) hu hi (hlen w) (hcells w rfl) (by omega) rfl, After.same hr ht2 (.inl ⟨p, c', hp, rfl, rfl, hnc, hcc, hex, hfin⟩)⟩
        · have hb0 : (xl == 0) = false := by simpa using hx0
          simp only [hb0, cond_false] at h8
          obtain ⟨u4, m5, h9, h10⟩ := bind_some h8
          obtain ⟨hg6, rfl⟩ := guard_some h9
          simp only [Bool.and_eq_true, Bool.not_eq_true'] at hg6
          obtain ⟨l, hl, h11⟩ := lay_some (g := fun l => do
            setB b (some { blk with cells := l })
            M.ret (Value.slice (some ⟨b, o, none⟩) (n + xl) c)) h10
          obtain ⟨u5, m6, h12, h13⟩ := bind_some h11
          obtain ⟨hnx, hget⟩ := setB_some h12
          obtain ⟨rfl, rfl⟩ := ret_some h13
          obtain ⟨w', hw1, hw2, hw3⟩ := write_run (P := P) (g' := m6.t.get) hr2 hb hp hg6.1 hl hnew hg6.2 hget
          refine ⟨_, w', ρ, append_room (w' := w') hu hi (hlen w) (hcells w rfl) (by omega) ?_, ⟨.refl ρ, fun b h h' => absurd h h', hw2, .inl ⟨p, c', hp, rfl, rfl, by omega, hcc, hex, hfin⟩, hw3, fun b p h h' => absurd (h.symm.trans h') (by simp)⟩⟩
          simp only [add_off, Nat.add_assoc]
          rw [← Nat.add_assoc] at hw1
          rw [← Nat.add_assoc]
          exact hw1
      · have hble : Nat.ble (n + xl) c = false := by rw [← Bool.not_eq_true, Nat.ble_eq]; exact hroom
        simp only [hble, cond_false] at h8
        cases hold : takeN blk.cells o (n * i.size) with
        | none => simp only [hold] at h8; exact (fail_some h8).elim
        | some old =>
        simp only [hold] at h8
        -- growing: a new row
        have hxs : ∃ (a : Addr) (k c1 : Nat) (news' : List Value), k = xl ∧ x' = .slice (some a) k c1 ∧ VRs ρ new news' ∧ news'.length = k * i.size ∧ ∀ j v, news'[j]? = some v → w.cell? (a.add j) = some v := by
          rcases hcase with ⟨c1, rfl, rfl, rfl⟩ | ⟨a, k, c1, news', hk, rfl, hv, hl, hc⟩
          · have : xl = 0 := hxl.symm
            omega
          · exact ⟨a, k, c1, news', hk.symm.trans hxl, rfl, hv, hl, hc⟩
        obtain ⟨a, k, c1, news', rfl, rfl, hv, hl, hc⟩ := hxs
        obtain ⟨olds, ho1, ho2, ho3⟩ := cells_read hr2 hb hp hold
        have hb48 : (n + k) * i.bytes ≤ 140737488355328 := Nat.le_trans (Nat.mul_le_mul hg5 hg3) (by decide)
        have grow : ∀ (g : Nat → Option Blk), Rel N ρ g w → ∀ m7, c' < n + k → newX (old ++ new) i.size true m7 = some (m.next, m') → m7.next = m.next → (∀ d, m7.t.get d = g d) →
            ∃ v' w' ρ', (Builtin.append_ #[t, t] ty #[.slice (some ⟨p.blk, p.off + o, none⟩) n c', .slice (some a) k c1]).run P w = .ok v' w' ∧ After N ρ m m' w (.slice (some ⟨m.next, 0, none⟩) (n + k) (n + k)) v' w' ρ' := by
          intro g hrg m7 hlt hnew7 hnx7 hgg
          obtain ⟨ho, hmm, hnx, hget⟩ := newX_some hnew7
          have hrun := run_append_grow (P := P) w t ty e i z hu hi hz' ⟨p.blk, p.off + o, none⟩ n c' olds ho2 ho3 a k c1 news' hl hc hlt (by omega) (growslice_fits hlt hb48)
          have hcap := grownCap_ge w (n + k) c' e
          suffices hA : ∃ ρ', After N ρ m m' w _ _ _ ρ' from ⟨_, _, hA.choose, hrun, hA.choose_spec⟩
          rw [hnx7] at hnx hget
          refine ⟨_, After.new (b := m.next) (g := g) hrg ho rfl hnx (fun d => by rw [hget, hgg]) hf (ho1.append hv) (Builtin.zeroCells z.cells (grownCap w (n + k) c' e - (n + k))).toList e ?_ ?_
            (.inl ⟨_, grownCap w (n + k) c' e, Env.put_same _ _ _, rfl, rfl, Nat.le_refl _, hcap, fun hx => by simp at hx, ?_⟩)⟩
          · show (w.drew.alloc _).heap = _
            have : (olds ++ news' ++ (Builtin.zeroCells z.cells (grownCap w (n + k) c' e - (n + k))).toList).toArray = olds.toArray ++ news'.toArray ++ Builtin.zeroCells z.cells (grownCap w (n + k) c' e - (n + k)) := by simp
            rw [this]; rfl
          · exact (Keeps.refl N w).drew.alloc hr.base _
          · show 0 + 0 + grownCap w (n + k) c' e * i.size ≤ (olds ++ news').length + (Builtin.zeroCells z.cells (grownCap w (n + k) c' e - (n + k))).toList.length
            have e1 : (Builtin.zeroCells z.cells (grownCap w (n + k) c' e - (n + k))).toList.length = (grownCap w (n + k) c' e - (n + k)) * i.size := by rw [Array.length_toList]; exact cap_fit z hg1 _
            rw [e1, List.length_append, ho2, hl, ← Nat.add_mul, ← Nat.add_mul]
            simp only [Nat.zero_add]
            exact Nat.mul_le_mul_right _ (by omega)
        cases hgr : blk.grow with
        | false =>
          simp only [hgr, cond_false] at h8
          obtain ⟨b', m5, h9, h10⟩ := bind_some h8
          obtain ⟨rfl, rfl⟩ := ret_some h10
          obtain ⟨_, hbm, _, _⟩ := newX_some h9
          obtain rfl : b' = m.next := by rw [hbm]; exact hn2
          have hexact : p.exact = true := by rw [q3] at hgr; simpa using hgr
          have := hex hexact
          exact grow m2.t.get hr2 _ (by omega) h9 hn2 (fun _ => rfl)
        | true =>
          simp only [hgr, cond_true] at h8
          obtain ⟨u4, m5, h9, h10⟩ := bind_some h8
          obtain ⟨hg6, rfl⟩ := guard_some h9
          simp only [Bool.and_eq_true, beq_iff_eq, Bool.not_eq_true'] at hg6
          obtain ⟨u5, m6, h11, h12⟩ := bind_some h10
          obtain ⟨hnx6, hget6⟩ := setB_some h11
          obtain ⟨b', m7, h13, h14⟩ := bind_some h12
          obtain ⟨rfl, rfl⟩ := ret_some h14
          obtain ⟨ho7, hbm, hnx7, hget7⟩ := newX_some h13
          have hmn : m6.next = m.next := by rw [hnx6]; exact hn2
          obtain rfl : b' = m.next := by rw [hbm, hmn]
          by_cases hlt : c' < n + k
          · exact grow m6.t.get (hr2.kill b hget6) m6 hlt h13 hmn (fun _ => rfl)
          · have hfree : ρ m.next = none := hf m.next (Nat.le_refl _) (by omega)
            have hones : new.all oneV = true := by rw [List.all_append] at ho7; simp only [Bool.and_eq_true] at ho7; exact ho7.2
            have hmul : (n + k) * p.sz ≤ c' * p.sz := Nat.mul_le_mul_right _ (by omega)
            have hnl2 : new.length = k * i.size := by rw [← hv.length, hl]
            obtain ⟨w', e1, e2, e3⟩ := Rel.extend (P := P) (g' := m7.t.get) hr2 hb hp hg6.2 hgr (o := o) (L := n * i.size) hg6.1 hold hv hones (by rw [← hg6.1, hnl2]; rw [hsz, Nat.add_mul] at hmul; rw [hsz] at hfin; omega) hfree (by
              intro d
              rw [hget7, hget6, hmn, hg4])
            refine ⟨_, w', _, append_room (w' := w') hu hi rfl (run_firstCells_some (P := P) w i.size k a k c1 news' hl hc) (Nat.le_of_not_lt hlt) ?_, ⟨Env.ext hfree _, fun d hd hd' => ?_, e2, (.inl ⟨_, c', Env.put_same _ _ _, rfl, rfl, Nat.le_refl _, by omega, fun hx => by simp at hx, hfin⟩), e3, fun d s hd hs hm => by
              by_cases hdm : d = m.next
              · subst hdm
                rw [Env.put_same] at hs
                obtain rfl := Option.some.inj hs
                simp only at hm; omega
              · rw [Env.put_ne _ _ hdm] at hs; exact absurd (hd.symm.trans hs) (by simp)⟩⟩
            · simp only [add_off]
              rw [Nat.add_assoc, hg6.1]
              exact e1
            · by_cases hdm : d = m.next
              · subst hdm; exact ⟨Nat.le_refl _, by omega⟩
              · rw [Env.put_ne _ _ hdm] at hd'; exact absurd hd hd'
  | _ => simp only at h4; exact (fail_some h4).elim

/-- So many zeros, appended to nothing. -/
theorem zeros_does {t u ty : TypeId} {k : IntKind} {n : Int} {v : Value} (h : zerosX P t u n m = some (v, m')) (hr : Rel N ρ m.t.get w) (hf : Fresh ρ m m') :
    ∃ v' w' ρ', (Builtin.append_ #[t, u] ty #[.slice none 0 0, .int k n]).run P w = .ok v' w' ∧ After N ρ m m' w v v' w' ρ' := by
  unfold zerosX at h
  obtain ⟨e, hu⟩ : ∃ e, P.underlying t = some (.slice e) := by
    cases hu : P.underlying t with
    | none => simp only [hu] at h; exact (fail_some h).elim
    | some d => cases d <;> first | exact ⟨_, rfl⟩ | (simp only [hu] at h; exact (fail_some h).elim)
  obtain ⟨kn, hu'⟩ : ∃ kn, P.underlying u = some (.int kn) := by
    cases hu' : P.underlying u with
    | none => simp only [hu, hu'] at h; exact (fail_some h).elim
    | some d => cases d <;> first | exact ⟨_, rfl⟩ | (simp only [hu, hu'] at h; exact (fail_some h).elim)
  simp only [hu, hu'] at h
  cases hi : P.info? e with
  | none => simp only [hi] at h; exact (fail_some h).elim
  | some i =>
  cases hz : zeroT P e with
  | none => simp only [hi, hz] at h; exact (fail_some h).elim
  | some z =>
  simp only [hi, hz] at h
  obtain ⟨u1, m1, h1, h2⟩ := bind_some h
  obtain ⟨hg, rfl⟩ := guard_some h1
  simp only [Bool.and_eq_true, beq_iff_eq, Nat.blt_eq, Nat.ble_eq, decide_eq_true_eq] at hg
  obtain ⟨⟨⟨hg1, hg2⟩, hg3, hg4⟩, hg5⟩ := hg
  obtain ⟨i', hi', hz', hzp⟩ := zeroT_info hz
  rw [hi] at hi'
  obtain rfl := Option.some.inj hi'
  obtain ⟨b, m2, h5, h6⟩ := bind_some h2
  obtain ⟨rfl, rfl⟩ := ret_some h6
  obtain ⟨ho, rfl, hnx, hget⟩ := newX_some h5
  obtain ⟨q, rfl⟩ := Int.eq_ofNat_of_zero_le (show 0 ≤ n by omega)
  have hq : ((q : Int)).toNat = q := Int.toNat_natCast q
  rw [hq] at *
  have hb48 : q * i.bytes ≤ 281474976710656 := Nat.le_trans (Nat.mul_le_mul (show q ≤ 1048576 by omega) hg5) (by decide)
  have hrun := Lib.run_append_nil_zeros (P := P) w t u ty e i z k kn hu hu' hi hz' q (by omega) hg2 (by omega) hb48
  have hcap := grownCap_ge w q 0 e
  have hzr := zeros_rel (ρ := ρ) (e := e) (n := q) hzp hg1 hg2
  suffices hA : ∃ ρ', After N ρ m m2 w _ _ _ ρ' from ⟨_, _, hA.choose, hrun, hA.choose_spec⟩
  refine ⟨_, After.new (b := m.next) (g := m.t.get) hr ho rfl hnx hget hf hzr (Builtin.zeroCells z.cells (grownCap w q 0 e - q)).toList e ?_ ?_ (.inl ⟨_, grownCap w q 0 e, Env.put_same _ _ _, rfl, rfl, Nat.le_refl _, hcap, fun hx => by simp at hx, ?_⟩)⟩
  · have hs : z.cells.size = i.size := by rw [cells_arr, hg1]; rfl
    have e1 : (((Array.range (q * i.size)).map fun j => z.cells[j % z.cells.size]!).toList ++ (Builtin.zeroCells z.cells (grownCap w q 0 e - q)).toList).toArray = Builtin.zeroCells z.cells q ++ Builtin.zeroCells z.cells (grownCap w q 0 e - q) := by
      rw [← hs]
      apply Array.ext'
      simp [Builtin.zeroCells]
    show (w.drew.alloc _).heap = _
    rw [e1]; rfl
  · exact (Keeps.refl N w).drew.alloc hr.base _
  · have e1 : (Builtin.zeroCells z.cells (grownCap w q 0 e - q)).toList.length = (grownCap w q 0 e - q) * i.size := by rw [Array.length_toList]; exact cap_fit z hg1 _
    have e0 : ((Array.range (q * i.size)).map fun j => z.cells[j % z.cells.size]!).toList.length = q * i.size := by rw [Array.length_toList, Array.size_map, Array.size_range]
    rw [e1, e0, ← Nat.add_mul]
    simp only [Nat.zero_add]
    exact Nat.mul_le_mul_right _ (by omega)

/-- What is copied, read. -/
theorem taken_does {x x' : Value} {n k : Nat} {new : List Value} (hx : VR ρ x x') (h : takenX x n k m = some (some new, m')) (hr : Rel N ρ m.t.get w) :
    m'.t = m.t ∧ m'.next = m.next ∧ ∃ news, VRs ρ new news ∧ (Builtin.lenOf x').run P w = .ok (sliceLen x) w ∧ (Builtin.firstCells k (Nat.min (sliceLen x) n) x').run P w = .ok news.toArray w := by
  unfold takenX at h
  split at h
  · obtain ⟨h1, rfl⟩ := ret_some h
    obtain rfl := Option.some.inj h1
    obtain rfl := hx
    exact ⟨rfl, rfl, [], .nil, rfl, run_firstCells_none _ _ _ _ _⟩
  · rename_i b o j c
    obtain ⟨blk, m1, h1, h2⟩ := bind_some h
    obtain ⟨hb, rfl⟩ := getB_some h1
    obtain ⟨h3, rfl⟩ := ret_some h2
    obtain ⟨p, c', hp, rfl, _⟩ := hx.slc
    obtain ⟨r', t1, t2, t3⟩ := cells_read hr hb hp h3
    exact ⟨rfl, rfl, r', t1, rfl, run_firstCells_some (P := P) w k _ _ _ _ r' t2 t3⟩
  · obtain ⟨h1, rfl⟩ := ret_some h
    cases h1

theorem copy_does {t ty : TypeId} {ts : Array TypeId} {d d' s s' v : Value} (ht : ts[0]? = some t) (hd : VR ρ d d') (hs : VR ρ s s') (h : copyX P t d s m = some (v, m')) (hr : Rel N ρ m.t.get w) :
    ∃ v' w', (Builtin.copy_ ts ty #[d', s']).run P w = .ok v' w' ∧ After N ρ m m' w v v' w' ρ := by
  unfold copyX at h
  obtain ⟨e, hu⟩ : ∃ e, P.underlying t = some (.slice e) := by
    cases hu : P.underlying t with
    | none => simp only [hu] at h; exact (fail_some h).elim
    | some d => cases d <;> first | exact ⟨_, rfl⟩ | (simp only [hu] at h; exact (fail_some h).elim)
  simp only [hu] at h
  cases d with
  | slice a n c =>
    cases a with
    | none =>
      cases n with
      | succ n => simp only at h; exact (fail_some h).elim
      | zero =>
        obtain rfl : d' = .slice none 0 c := hd
        simp only at h
        cases hk : sizeT P e with
        | none => simp only [hk] at h; exact (fail_some h).elim
        | some k =>
          simp only [hk] at h
          obtain ⟨onew, m1, h1, h2⟩ := bind_some h
          cases onew with
          | none => simp only at h2; exact (fail_some h2).elim
          | some new =>
            simp only at h2
            obtain ⟨rfl, rfl⟩ := ret_some h2
            obtain ⟨t1, t2, news, t3, t4, t5⟩ := taken_does (P := P) hs h1 hr
            refine ⟨.int .i64 0, w, ?_, After.same hr t1 rfl⟩
            have h0 : Nat.min (sliceLen s) 0 = 0 := Nat.min_zero _
            rw [h0] at t5
            simp [Builtin.copy_, ht, run_underlying hu, t4, sizeT_run hk, h0, t5, goInt]
    | some a =>
      obtain ⟨b, o, sp⟩ := a
      cases sp with
      | some _ => simp only at h; exact (fail_some h).elim
      | none =>
        obtain ⟨p, c', hp, rfl, _⟩ := hd.slc
        simp only at h
        cases hk : sizeT P e with
        | none => simp only [hk] at h; exact (fail_some h).elim
        | some k =>
          simp only [hk] at h
          obtain ⟨onew, m1, h1, h2⟩ := bind_some h
          cases onew with
          | none => simp only at h2; exact (fail_some h2).elim
          | some new =>
            simp only at h2
            obtain ⟨t1, t2, news, t3, t4, t5⟩ := taken_does (P := P) hs h1 hr
            obtain ⟨blk, m2, h3, h4⟩ := bind_some h2
            obtain ⟨hb, rfl⟩ := getB_some h3
            obtain ⟨u, m3, h5, h6⟩ := bind_some h4
            obtain ⟨hg, rfl⟩ := guard_some h5
            simp only [Bool.and_eq_true, Bool.not_eq_true'] at hg
            obtain ⟨l, hl, h7⟩ := lay_some (g := fun l => do
              setB b (some { blk with cells := l })
              M.ret (Value.int .i64 (Nat.min (sliceLen s) n))) h6
            obtain ⟨u2, m4, h8, h9⟩ := bind_some h7
            obtain ⟨hnx, hget⟩ := setB_some h8
            obtain ⟨rfl, rfl⟩ := ret_some h9
            have hr1 : Rel N ρ m1.t.get w := by rw [t1]; exact hr
            obtain ⟨w', hw1, hw2, hw3⟩ := write_run (P := P) (g' := m4.t.get) hr1 hb hp hg.1 hl t3 hg.2 hget
            refine ⟨_, w', ?_, ⟨.refl ρ, fun b h h' => absurd h h', hw2, rfl, hw3, fun b p h h' => absurd (h.symm.trans h') (by simp)⟩⟩
            simp [Builtin.copy_, ht, run_underlying hu, t4, sizeT_run hk, t5, goInt, hw1]
  | _ => simp only at h; exact (fail_some h).elim

end Go.Clean
