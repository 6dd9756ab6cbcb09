/- package solve over float64: the walk of steps. (Printed by gensteps.py.) -/
import Derived.Test.YtghhanifakllpaaF
namespace Go.Proofs.Ytghhanifakllpaa
open Go.RowKit

set_option maxRecDepth 100000 in
set_option maxHeartbeats 40000000 in
theorem steps_any (ab aoff n ac : Nat) (rows : List (List Nat)) (rhs : Nat → Nat) (bv : Value) (w : World) (hn : n ≤ 128) (hn0 : 0 < n)
    (hA : ∀ i, i < n → ∃ rb ro rc, w.cell? ⟨ab, aoff + i, none⟩ = some (.slice (some ⟨rb, ro, none⟩) n rc) ∧ (rows.getD i []).length = n ∧ ∀ j, j < n → w.cell? ⟨rb, ro + j, none⟩ = some (flV ((rows.getD i []).getD j 0)))
    (hWW : ∀ i, i < n → ∀ x ∈ rows.getD i [], W64 x) (hWr : ∀ i, i < n → W64 (rhs i))
    (hB : (bv = .slice none 0 0 ∧ ∀ i, i < n → rhs i = 0) ∨ ∃ bb boff bc, bv = .slice (some ⟨bb, boff, none⟩) n bc ∧ ∀ i, i < n → w.cell? ⟨bb, boff + i, none⟩ = some (.float .f64 (rhs i))) :
    Calls Try.prog 42 #[.agg kF, .slice (some ⟨ab, aoff, none⟩) n ac, bv] w (StepsPost n (M0 rows rhs) w) := by
  have HA := Lib.hid hA
  have HB := Lib.hid hB
  have HLN : Hid (∀ i, i < n → (rows.getD i []).length = n) := fun i hi => by obtain ⟨_, _, _, _, h, _⟩ := hA i hi; exact h
  have HWW := Lib.hid hWW
  have HWR := Lib.hid hWr
  have hab : ab < w.heap.size := by
    obtain ⟨_, _, _, h, _⟩ := hA 0 hn0
    exact World.block_lt_of_cell? w _ h
  clear hA hB hWW hWr
  unfold kF
  go_enter Try.func42, Try.ntmps42
  go_wp2_with fail
  go_loopw [25] (fun i wr => ∃ k : Nat, k ≤ n ∧ i = .int .i64 k ∧ ∃ R rv fv, L1 rows rhs w.heap.size n k R rv fv w wr) (fun i _ => n - (intOf i).toNat)
  case atStart =>
    exact ⟨0, Nat.zero_le _, rfl, fun _ => 0, .slice none 0 0, .slice none 0 0, L1.start rows rhs n w⟩
  case round =>
    obtain ⟨k, hk, rfl, R, rv, fv, HL⟩ := hrel
    by_cases hlt : k < n
    · obtain ⟨rb, ro, rc, hc0, hrl, hcs0⟩ := HA.out k hlt
      have hrk : ∃ r, rows.getD k [] = r := ⟨_, rfl⟩
      obtain ⟨r, hr⟩ := hrk
      rw [hr] at hrl hcs0
      have HRK := Lib.hid hr
      clear hr
      have hc : wr.cell? ⟨ab, aoff + k, none⟩ = some (.slice (some ⟨rb, ro, none⟩) n rc) := (HL.below.cell (p := ⟨ab, aoff + k, none⟩) hab).trans hc0
      have hsrc := row_src hrl fun j hj => (HL.below.cell (p := ⟨rb, ro + j, none⟩) (World.block_lt_of_cell? w _ (hcs0 j hj))).trans (hcs0 j hj)
      have hsrc2 : ∀ j v, (r.map flV)[j]? = some v → (wr.alloc (.cells (madeCells #[Value.float .f64 0] (n + 1)) 25)).cell? ((⟨rb, ro, none⟩ : Addr).add j) = some v := fun j v hv => (World.cell?_alloc_lt _ _ _ (World.block_lt_of_cell? _ _ (hsrc j v hv))).trans (hsrc j v hv)
      have hlen : (r.map flV).length = n := by rw [List.length_map]; exact hrl
      have hcp : (r.map flV).length = Nat.min n (n + 1) := by rw [hlen]; exact (Nat.min_eq_left (by omega)).symm
      have hpos : 0 < (r.map flV).length → (some ⟨wr.heap.size, 0, none⟩ : Option Addr) = some ⟨wr.heap.size, 0, none⟩ ∧ ∃ ad, (some ⟨rb, ro, none⟩ : Option Addr) = some ad ∧ ∀ j v, (r.map flV)[j]? = some v → (wr.alloc (.cells (madeCells #[Value.float .f64 0] (n + 1)) 25)).cell? (ad.add j) = some v := fun _ => ⟨rfl, _, rfl, hsrc2⟩
      have hfit : 0 + (r.map flV).length ≤ (madeCells #[Value.float .f64 0] (n + 1)).toList.length := by rw [hlen, toList_madeCells_one, List.length_replicate]; omega
      have hone : ∀ v ∈ r.map flV, v.oneCell' = true := by
        intro v hv
        obtain ⟨x, _, rfl⟩ := List.mem_map.1 hv
        rfl
      generalize hcs : r.map flV = cs at *
      have HCS := Lib.hid hcs
      have HP1 := Lib.hid hcp
      have HP2 := Lib.hid hpos
      have HP3 := Lib.hid hfit
      have HP4 := Lib.hid hone
      have HP5 := Lib.hid hlen
      clear hcs0 hc0 hsrc hsrc2 hcs hcp hpos hfit hone hlen hrl
      obtain ⟨i0, hi, hz0, hz1, hz2⟩ := info_parts info_f
      have hb1 : i0.bytes * (n + 1) ≤ 281474976710656 := by rw [hz2]; omega
      have HZ := Lib.hid hz2
      have HB1 := Lib.hid hb1
      clear hz2 hb1
      have hgx : (wr.alloc (.cells (madeCells #[Value.float .f64 0] (n + 1)) 25)).heap[wr.heap.size]? = some (.cells (madeCells #[Value.float .f64 0] (n + 1)).toList.toArray 25 (0, 0)) := by rw [Array.toArray_toList]; exact heap_alloc_new wr _
      have hbx : Below wr.heap.size wr (wr.alloc (.cells (madeCells #[Value.float .f64 0] (n + 1)) 25)) := (Below.refl _ _).alloc (Nat.le_refl _) _
      have HGX := Lib.hid hgx
      have HBX := Lib.hid hbx
      clear hgx hbx
      go_upto_region 7 with (first | (at_make; refine wpList_make_row _ rfl _ _ _ rfl _ i0 _ Try.underlying24 hi hz0 hz1 rfl _ _ (n + 1) rfl rfl HB1.out (by omega) ?_) | fail)
      go_upto_region 8 with (first | (refine wpList_copy_splice rfl (.tmp 33) (.tmp 34) 24 24 rfl 25 Try.underlying24 hfsz (some ⟨wr.heap.size, 0, none⟩) (some ⟨rb, ro, none⟩) (n + 1) (n + 1) n rc rfl rfl wr.heap.size 0 _ 25 HGX.out cs HP1.out HP2.out HP3.out HP4.out wr.heap.size wr HBX.out (Nat.le_refl _) ?_; intro w1 hg1 hb1'; obtain ⟨hg2, hq1, hq2⟩ := own_cells HP5.out hg1.out; have HG2 := Lib.hid hg2; have HB2 := Lib.hid hb1'; clear hg1 hg2 hb1') | fail)
      clear HP1 HP2 HP3 HP4 HB1 HBX HGX
      have hqs : ∀ (wq : World) (x : Option Addr) (p q p' q' : Nat), (binOp .neq 24 (.slice x p q) (.slice none p' q')).run Try.prog wq = .ok (.bool (!x.isNone)) wq := fun wq x p q p' q' => run_neq_slice_nil_any wq _ _ x p q p' q' Try.underlying24
      have hgl : wr.heap.size < w1.heap.size := lt_of_block HG2.out
      rcases HB.out with ⟨rfl, hr0⟩ | ⟨bb, boff, bc, rfl, hbc⟩
      focus
        have hr0k := hr0 k hlt
        have HW1 : Hid (Below wr.heap.size wr w1 ∧ w1.heap[wr.heap.size]? = some (.cells (cs ++ [Value.float .f64 (rhs k)]).toArray 25 (0, 0))) := ⟨HB2.out, by rw [hr0k]; exact HG2.out⟩
        clear hr0 hr0k HG2 HB2 hq1 hq2
        go_upto_region 10 with fail
        obtain ⟨w2, hw2⟩ : ∃ w2, w2 = w1 := ⟨_, rfl⟩
        rw [← hw2] at HW1
        rw [← hw2]
        have HW2 := HW1
        clear hw2 HW1 hgl w1
      rotate_left
      focus
        have hb0 : wr.cell? ⟨bb, boff + k, none⟩ = some (.float .f64 (rhs k)) := (HL.below.cell (p := ⟨bb, boff + k, none⟩) (World.block_lt_of_cell? w _ (hbc k hlt))).trans (hbc k hlt)
        have hq3 : w1.cell? ⟨bb, boff + k, none⟩ = some (.float .f64 (rhs k)) := (HB2.out.cell (p := ⟨bb, boff + k, none⟩) (World.block_lt_of_cell? wr _ hb0)).trans hb0
        have HW1 : Hid (Below wr.heap.size wr (w1.setCell ⟨wr.heap.size, n, none⟩ (.float .f64 (rhs k))) ∧ (w1.setCell ⟨wr.heap.size, n, none⟩ (.float .f64 (rhs k))).heap[wr.heap.size]? = some (.cells (cs ++ [Value.float .f64 (rhs k)]).toArray 25 (0, 0))) :=
          ⟨HB2.out.setCell (Nat.le_refl _) _, own_set HP5.out HG2.out⟩
        clear hbc hb0 HG2 HB2
        go_upto_region 10 with fail
        obtain ⟨w2, hw2⟩ : ∃ w2, w2 = w1.setCell ⟨wr.heap.size, n, none⟩ (Value.float .f64 (rhs k)) := ⟨_, rfl⟩
        rw [← hw2] at HW1
        rw [← hw2]
        have HW2 := HW1
        clear hw2 HW1 hgl hq1 hq2 hq3 w1
      all_goals
        have HL2 : Hid (L1 rows rhs w.heap.size n k R rv fv w w2) := HL.keep (Keep.ofBelow HW2.out.1)
        have HOWN : Hid (w2.heap[wr.heap.size]? = some (.cells (rowCells rows rhs k).toArray 25 (0, 0)) ∧ w.heap.size + 3 ≤ wr.heap.size ∧ ∀ j, j < k → R j ≠ wr.heap.size) := by
          refine ⟨?_, ?_, ?_⟩
          · rw [HW2.out.2, ← HCS.out, ← HRK.out]; rfl
          · have := HL.sys.lt; omega
          · intro j hj e
            have := lt_of_block (HL.row j hj).1
            omega
        have HLT : Hid (∀ g, rv.ownBlock = some g → g < w2.heap.size) := fun g hg => (HL2.out.ownR.lt g hg).2
        have HN1 : Hid (rv.ownBlock ≠ some (w.heap.size + 2)) := fun h => by have := HL2.out.ownR.lt _ h; omega
        have HN2 : Hid (fv.ownBlock ≠ some (w.heap.size + 2)) := fun h => by have := HL2.out.ownF.lt _ h; omega
        have hwz : w.heap.size + 2 < w2.heap.size := HL2.out.sys.lt
        have hs0 : SysB w2.drew (w.heap.size + 2) rv fv (.slice none 0 0) (.slice none 0 0) := HL2.out.sys
        have hR0 : w2.drew.ownsRow (w.heap.size + 3) 24 1 rv k ((List.range k).map fun j => rowV n (R j)) := HL2.out.ownR
        have hF0 : w2.drew.ownsRow (w.heap.size + 3) 3 1 fv k ((List.range k).map fun j : Nat => Value.int .i64 j) := HL2.out.ownF
        have hq0 : Keep (XL w.heap.size rv fv) w2 w2.drew := (Keep.drew w2).all
        clear hc HL HA HB HLN HWW HWR
        as_aux_lemma =>
          refine wp_region_till [(fun w' : World => SysB w' (w.heap.size + 2) rv fv (.slice none 0 0) (.slice none 0 0), some 11)] (by kernel_rfl) ?_ (fun hT => ?_)
          · exact till_one hs0
          refine wpAnyG_takeW (i := 0) (oi := ⟨some 45, Op.fieldAddr 79 (Operand.tmp 8) 0, _, _, _, none⟩) (v := ?_) rfl (by kernel_rfl) (by kernel_rfl) (by kernel_rfl) (by kernel_rfl) (fun _ _ _ h => h) hT rfl ?_ (fun hT => ?_)
          rotate_left
          · intro wq; go_simp; rfl
          simp only [Act.put, List.setIfInBounds_toArray, List.set_cons_zero, List.set_cons_succ]
          refine wpAnyG_take (fun w' : World => SysB w' (w.heap.size + 2) rv fv (.slice none 0 0) (.slice none 0 0), some 11) (i := 1) (oi := ⟨some 46, Op.load 23 (Operand.tmp 45), _, _, _, none⟩) (v := ?_) rfl (by kernel_rfl) (by kernel_rfl) (by kernel_rfl) (by kernel_rfl) (by kernel_rfl) (by kernel_rfl) (by simp) (fun _ _ _ h => h) hT rfl ?_ (fun hT => ?_)
          rotate_left
          · intro wq hSw; obtain ⟨c0, c1, c2, c3⟩ := hSw.cells; go_simp; rfl
          simp only [Act.put, List.setIfInBounds_toArray, List.set_cons_zero, List.set_cons_succ]
          refine wpAnyG_takeW (i := 2) (oi := ⟨some 47, Op.move (Operand.tmp 12), _, _, _, none⟩) (v := ?_) rfl (by kernel_rfl) (by kernel_rfl) (by kernel_rfl) (by kernel_rfl) (fun _ _ _ h => h) hT rfl ?_ (fun hT => ?_)
          rotate_left
          · intro wq; go_simp; rfl
          simp only [Act.put, List.setIfInBounds_toArray, List.set_cons_zero, List.set_cons_succ]
          refine wpAnyG_takeW (i := 5) (oi := ⟨some 50, Op.fieldAddr 79 (Operand.tmp 8) 1, _, _, _, none⟩) (v := ?_) rfl (by kernel_rfl) (by kernel_rfl) (by kernel_rfl) (by kernel_rfl) (fun _ _ _ h => h) hT rfl ?_ (fun hT => ?_)
          rotate_left
          · intro wq; go_simp; rfl
          simp only [Act.put, List.setIfInBounds_toArray, List.set_cons_zero, List.set_cons_succ]
          refine wpAnyG_take (fun w' : World => SysB w' (w.heap.size + 2) rv fv (.slice none 0 0) (.slice none 0 0), some 11) (i := 6) (oi := ⟨some 51, Op.load 29 (Operand.tmp 50), _, _, _, none⟩) (v := ?_) rfl (by kernel_rfl) (by kernel_rfl) (by kernel_rfl) (by kernel_rfl) (by kernel_rfl) (by kernel_rfl) (by simp) (fun _ _ _ h => h) hT rfl ?_ (fun hT => ?_)
          rotate_left
          · intro wq hSw; obtain ⟨c0, c1, c2, c3⟩ := hSw.cells; go_simp; rfl
          simp only [Act.put, List.setIfInBounds_toArray, List.set_cons_zero, List.set_cons_succ]
          refine wpAnyG_takeW (i := 7) (oi := ⟨some 52, Op.move (Operand.tmp 10), _, _, _, none⟩) (v := ?_) rfl (by kernel_rfl) (by kernel_rfl) (by kernel_rfl) (by kernel_rfl) (fun _ _ _ h => h) hT rfl ?_ (fun hT => ?_)
          rotate_left
          · intro wq; go_simp; rfl
          simp only [Act.put, List.setIfInBounds_toArray, List.set_cons_zero, List.set_cons_succ]
          refine wpAnyG_ready (rs := [3, 8]) (by kernel_rfl) (by simp) ?_
          refine AllReadyG.cons (o := ⟨some 48, Op.buildSlice 23 1 #[(0, Operand.tmp 47)], _, _, _, none⟩) rfl (fun K hK => ?_) ?_
          · skip
            refine step_of rfl (wp_build1 elem_rows (.tmp 47) rfl (rowV n wr.heap.size) rfl rfl (fun b1 W1 hb1 he1 hl1 hk1 => ?_))
            have hs1 := hs0.keep hk1 id
            have hR1 := hk1.owns hR0 (fun _ _ h => h)
            have hF1 := hk1.owns hF0 (fun _ _ h => h)
            have hq1 := hq0.trans hk1.all
            refine hK _ _ (till_one hs1) (fun hT => ?_)
            try simp only [Act.put, List.setIfInBounds_toArray, List.set_cons_zero, List.set_cons_succ]
            refine wpAnyG_ready (rs := [4, 8]) (by kernel_rfl) (by simp) ?_
            refine AllReadyG.cons (o := ⟨some 49, Op.call { callee := Callee.builtin Builtin.append, args := #[Operand.tmp 46, Operand.tmp 48], argTypes := #[23, 23] }, _, _, _, none⟩) rfl (fun K hK => ?_) ?_
            · skip
              have hz1 := hq1.size
              refine step_of rfl (wp_append1 elem_rows (.tmp 46) (.tmp 48) rfl (w.heap.size + 3) rv k _ rfl hR1 b1 (rowV n wr.heap.size) rfl hb1 rfl (by omega) (by decide) (by omega) (fun g4 c4 W2 hR2 hk4 ho4 hl4 => ?_))
              have hs2 := hs1.keep hk4 HN1.out
              have hF2 := hk4.owns hF1 (fun g hg1 hg2 => owns_apart hR1 hF1 (by decide) g hg2 hg1)
              have hq2 := hq1.trans (hk4.wide fun _ _ h => .inr (.inl h))
              refine hK _ _ (till_one hs2) (fun hT => ?_)
              try simp only [Act.put, List.setIfInBounds_toArray, List.set_cons_zero, List.set_cons_succ]
              refine wpAnyG_takeW (i := 10) (oi := ⟨some 55, Op.fieldAddr 79 (Operand.tmp 8) 0, _, _, _, none⟩) (v := ?_) rfl (by kernel_rfl) (by kernel_rfl) (by kernel_rfl) (by kernel_rfl) (fun _ _ _ h => h) hT rfl ?_ (fun hT => ?_)
              rotate_left
              · intro wq; go_simp; rfl
              simp only [Act.put, List.setIfInBounds_toArray, List.set_cons_zero, List.set_cons_succ]
              refine wpAnyG_ready (rs := [8]) (by kernel_rfl) (by simp) ?_
              refine AllReadyG.cons (o := ⟨some 53, Op.buildSlice 29 1 #[(0, Operand.tmp 52)], _, _, _, none⟩) rfl (fun K hK => ?_) ?_
              · skip
                refine step_of rfl (wp_build1 elem_ints (.tmp 52) rfl (.int .i64 k) rfl rfl (fun b2 W3 hb2 he2 hl2 hk2 => ?_))
                have hs3 := hs2.keep hk2 id
                have hR3 := hk2.owns hR2 (fun _ _ h => h)
                have hF3 := hk2.owns hF2 (fun _ _ h => h)
                have hq3 := hq2.trans hk2.all
                refine hK _ _ (till_one hs3) (fun hT => ?_)
                try simp only [Act.put, List.setIfInBounds_toArray, List.set_cons_zero, List.set_cons_succ]
                refine wpAnyG_ready (rs := [9]) (by kernel_rfl) (by simp) ?_
                refine AllReadyG.cons (o := ⟨some 54, Op.call { callee := Callee.builtin Builtin.append, args := #[Operand.tmp 51, Operand.tmp 53], argTypes := #[29, 29] }, _, _, _, none⟩) rfl (fun K hK => ?_) ?_
                · skip
                  have hz3 := hq3.size
                  refine step_of rfl (wp_append1 elem_ints (.tmp 51) (.tmp 53) rfl (w.heap.size + 3) fv k _ rfl hF3 b2 (.int .i64 k) rfl hb2 rfl (by omega) (by decide) (by omega) (fun g9 c9 W4 hF4 hk9 ho9 hl9 => ?_))
                  have hs4 := hs3.keep hk9 HN2.out
                  have hR4 := hk9.owns hR3 (fun g hg1 hg2 => owns_apart hR3 hF3 (by decide) g hg1 hg2)
                  have hq4 := hq3.trans (hk9.wide fun _ _ h => .inr (.inr h))
                  refine hK _ _ (till_one hs4) (fun hT => ?_)
                  try simp only [Act.put, List.setIfInBounds_toArray, List.set_cons_zero, List.set_cons_succ]
                  refine wpAnyG_ready (rs := [11]) (by kernel_rfl) (by simp) ?_
                  refine AllReadyG.cons (o := ⟨none, Op.store 23 (Operand.tmp 55) (Operand.tmp 49), _, _, _, none⟩) rfl (fun K hK => ?_) ?_
                  · skip
                    obtain ⟨q0, q1, q2, q3⟩ := hs4.cells
                    have z0 := hs4.free 0
                    have z1 := hs4.free 1
                    have z2 := hs4.free 2
                    have z3 := hs4.free 3
                    go_simp
                    refine hK _ _ (till_past rfl) (fun hT => ?_)
                    try simp only [Act.put, List.setIfInBounds_toArray, List.set_cons_zero, List.set_cons_succ]
                    refine wpAnyG_takeW (i := 12) (oi := ⟨some 56, Op.fieldAddr 79 (Operand.tmp 8) 1, _, _, _, none⟩) (v := ?_) rfl (by kernel_rfl) (by kernel_rfl) (by kernel_rfl) (by kernel_rfl) (fun _ _ _ h => h) hT rfl ?_ (fun hT => ?_)
                    rotate_left
                    · intro wq; go_simp; rfl
                    simp only [Act.put, List.setIfInBounds_toArray, List.set_cons_zero, List.set_cons_succ]
                    refine wpAnyG_ready (rs := [13]) (by kernel_rfl) (by simp) ?_
                    refine AllReadyG.cons (o := ⟨none, Op.store 29 (Operand.tmp 56) (Operand.tmp 54), _, _, _, none⟩) rfl (fun K hK => ?_) ?_
                    · skip
                      go_simp
                      refine hK _ _ (till_past rfl) (fun hT => ?_)
                      try simp only [Act.put, List.setIfInBounds_toArray, List.set_cons_zero, List.set_cons_succ]
                      refine wpAnyG_done (by kernel_rfl) ?_ _
                      have HX := Lib.hid (HL2.out.step HOWN.out hs4 hR4 hF4 hq4)
                      clear hs4 hR4 hF4 hq4
                      go_wp2_with fail
                      go_roundw
                      case rel => exact ⟨k + 1, by omega, by go_num, _, _, _, HX.out⟩
                      case measure => simp [intOf]; omega
                    exact AllReadyG.nil
                  exact AllReadyG.nil
                exact AllReadyG.nil
              exact AllReadyG.nil
            refine AllReadyG.cons (o := ⟨some 53, Op.buildSlice 29 1 #[(0, Operand.tmp 52)], _, _, _, none⟩) rfl (fun K hK => ?_) ?_
            · skip
              refine step_of rfl (wp_build1 elem_ints (.tmp 52) rfl (.int .i64 k) rfl rfl (fun b2 W2 hb2 he2 hl2 hk2 => ?_))
              have hs2 := hs1.keep hk2 id
              have hR2 := hk2.owns hR1 (fun _ _ h => h)
              have hF2 := hk2.owns hF1 (fun _ _ h => h)
              have hq2 := hq1.trans hk2.all
              replace hb1 := hk2.heap hb1 id
              refine hK _ _ (till_one hs2) (fun hT => ?_)
              try simp only [Act.put, List.setIfInBounds_toArray, List.set_cons_zero, List.set_cons_succ]
              refine wpAnyG_ready (rs := [4]) (by kernel_rfl) (by simp) ?_
              refine AllReadyG.cons (o := ⟨some 49, Op.call { callee := Callee.builtin Builtin.append, args := #[Operand.tmp 46, Operand.tmp 48], argTypes := #[23, 23] }, _, _, _, none⟩) rfl (fun K hK => ?_) ?_
              · skip
                have hz2 := hq2.size
                refine step_of rfl (wp_append1 elem_rows (.tmp 46) (.tmp 48) rfl (w.heap.size + 3) rv k _ rfl hR2 b1 (rowV n wr.heap.size) rfl hb1 rfl (by omega) (by decide) (by omega) (fun g4 c4 W3 hR3 hk4 ho4 hl4 => ?_))
                have hs3 := hs2.keep hk4 HN1.out
                have hF3 := hk4.owns hF2 (fun g hg1 hg2 => owns_apart hR2 hF2 (by decide) g hg2 hg1)
                have hq3 := hq2.trans (hk4.wide fun _ _ h => .inr (.inl h))
                replace hb2 := hk4.heap hb2 (fun h => by have := HLT.out _ h; have hdz : w2.drew.heap.size = w2.heap.size := rfl; omega)
                refine hK _ _ (till_one hs3) (fun hT => ?_)
                try simp only [Act.put, List.setIfInBounds_toArray, List.set_cons_zero, List.set_cons_succ]
                refine wpAnyG_takeW (i := 10) (oi := ⟨some 55, Op.fieldAddr 79 (Operand.tmp 8) 0, _, _, _, none⟩) (v := ?_) rfl (by kernel_rfl) (by kernel_rfl) (by kernel_rfl) (by kernel_rfl) (fun _ _ _ h => h) hT rfl ?_ (fun hT => ?_)
                rotate_left
                · intro wq; go_simp; rfl
                simp only [Act.put, List.setIfInBounds_toArray, List.set_cons_zero, List.set_cons_succ]
                refine wpAnyG_ready (rs := [9]) (by kernel_rfl) (by simp) ?_
                refine AllReadyG.cons (o := ⟨some 54, Op.call { callee := Callee.builtin Builtin.append, args := #[Operand.tmp 51, Operand.tmp 53], argTypes := #[29, 29] }, _, _, _, none⟩) rfl (fun K hK => ?_) ?_
                · skip
                  have hz3 := hq3.size
                  refine step_of rfl (wp_append1 elem_ints (.tmp 51) (.tmp 53) rfl (w.heap.size + 3) fv k _ rfl hF3 b2 (.int .i64 k) rfl hb2 rfl (by omega) (by decide) (by omega) (fun g9 c9 W4 hF4 hk9 ho9 hl9 => ?_))
                  have hs4 := hs3.keep hk9 HN2.out
                  have hR4 := hk9.owns hR3 (fun g hg1 hg2 => owns_apart hR3 hF3 (by decide) g hg1 hg2)
                  have hq4 := hq3.trans (hk9.wide fun _ _ h => .inr (.inr h))
                  refine hK _ _ (till_one hs4) (fun hT => ?_)
                  try simp only [Act.put, List.setIfInBounds_toArray, List.set_cons_zero, List.set_cons_succ]
                  refine wpAnyG_ready (rs := [11]) (by kernel_rfl) (by simp) ?_
                  refine AllReadyG.cons (o := ⟨none, Op.store 23 (Operand.tmp 55) (Operand.tmp 49), _, _, _, none⟩) rfl (fun K hK => ?_) ?_
                  · skip
                    obtain ⟨q0, q1, q2, q3⟩ := hs4.cells
                    have z0 := hs4.free 0
                    have z1 := hs4.free 1
                    have z2 := hs4.free 2
                    have z3 := hs4.free 3
                    go_simp
                    refine hK _ _ (till_past rfl) (fun hT => ?_)
                    try simp only [Act.put, List.setIfInBounds_toArray, List.set_cons_zero, List.set_cons_succ]
                    refine wpAnyG_takeW (i := 12) (oi := ⟨some 56, Op.fieldAddr 79 (Operand.tmp 8) 1, _, _, _, none⟩) (v := ?_) rfl (by kernel_rfl) (by kernel_rfl) (by kernel_rfl) (by kernel_rfl) (fun _ _ _ h => h) hT rfl ?_ (fun hT => ?_)
                    rotate_left
                    · intro wq; go_simp; rfl
                    simp only [Act.put, List.setIfInBounds_toArray, List.set_cons_zero, List.set_cons_succ]
                    refine wpAnyG_ready (rs := [13]) (by kernel_rfl) (by simp) ?_
                    refine AllReadyG.cons (o := ⟨none, Op.store 29 (Operand.tmp 56) (Operand.tmp 54), _, _, _, none⟩) rfl (fun K hK => ?_) ?_
                    · skip
                      go_simp
                      refine hK _ _ (till_past rfl) (fun hT => ?_)
                      try simp only [Act.put, List.setIfInBounds_toArray, List.set_cons_zero, List.set_cons_succ]
                      refine wpAnyG_done (by kernel_rfl) ?_ _
                      have HX := Lib.hid (HL2.out.step HOWN.out hs4 hR4 hF4 hq4)
                      clear hs4 hR4 hF4 hq4
                      go_wp2_with fail
                      go_roundw
                      case rel => exact ⟨k + 1, by omega, by go_num, _, _, _, HX.out⟩
                      case measure => simp [intOf]; omega
                    exact AllReadyG.nil
                  exact AllReadyG.nil
                exact AllReadyG.nil
              exact AllReadyG.nil
            exact AllReadyG.nil
          refine AllReadyG.cons (o := ⟨some 53, Op.buildSlice 29 1 #[(0, Operand.tmp 52)], _, _, _, none⟩) rfl (fun K hK => ?_) ?_
          · skip
            refine step_of rfl (wp_build1 elem_ints (.tmp 52) rfl (.int .i64 k) rfl rfl (fun b2 W1 hb2 he2 hl2 hk2 => ?_))
            have hs1 := hs0.keep hk2 id
            have hR1 := hk2.owns hR0 (fun _ _ h => h)
            have hF1 := hk2.owns hF0 (fun _ _ h => h)
            have hq1 := hq0.trans hk2.all
            refine hK _ _ (till_one hs1) (fun hT => ?_)
            try simp only [Act.put, List.setIfInBounds_toArray, List.set_cons_zero, List.set_cons_succ]
            refine wpAnyG_ready (rs := [3]) (by kernel_rfl) (by simp) ?_
            refine AllReadyG.cons (o := ⟨some 48, Op.buildSlice 23 1 #[(0, Operand.tmp 47)], _, _, _, none⟩) rfl (fun K hK => ?_) ?_
            · skip
              refine step_of rfl (wp_build1 elem_rows (.tmp 47) rfl (rowV n wr.heap.size) rfl rfl (fun b1 W2 hb1 he1 hl1 hk1 => ?_))
              have hs2 := hs1.keep hk1 id
              have hR2 := hk1.owns hR1 (fun _ _ h => h)
              have hF2 := hk1.owns hF1 (fun _ _ h => h)
              have hq2 := hq1.trans hk1.all
              replace hb2 := hk1.heap hb2 id
              refine hK _ _ (till_one hs2) (fun hT => ?_)
              try simp only [Act.put, List.setIfInBounds_toArray, List.set_cons_zero, List.set_cons_succ]
              refine wpAnyG_ready (rs := [4]) (by kernel_rfl) (by simp) ?_
              refine AllReadyG.cons (o := ⟨some 49, Op.call { callee := Callee.builtin Builtin.append, args := #[Operand.tmp 46, Operand.tmp 48], argTypes := #[23, 23] }, _, _, _, none⟩) rfl (fun K hK => ?_) ?_
              · skip
                have hz2 := hq2.size
                refine step_of rfl (wp_append1 elem_rows (.tmp 46) (.tmp 48) rfl (w.heap.size + 3) rv k _ rfl hR2 b1 (rowV n wr.heap.size) rfl hb1 rfl (by omega) (by decide) (by omega) (fun g4 c4 W3 hR3 hk4 ho4 hl4 => ?_))
                have hs3 := hs2.keep hk4 HN1.out
                have hF3 := hk4.owns hF2 (fun g hg1 hg2 => owns_apart hR2 hF2 (by decide) g hg2 hg1)
                have hq3 := hq2.trans (hk4.wide fun _ _ h => .inr (.inl h))
                replace hb2 := hk4.heap hb2 (fun h => by have := HLT.out _ h; have hdz : w2.drew.heap.size = w2.heap.size := rfl; omega)
                refine hK _ _ (till_one hs3) (fun hT => ?_)
                try simp only [Act.put, List.setIfInBounds_toArray, List.set_cons_zero, List.set_cons_succ]
                refine wpAnyG_takeW (i := 10) (oi := ⟨some 55, Op.fieldAddr 79 (Operand.tmp 8) 0, _, _, _, none⟩) (v := ?_) rfl (by kernel_rfl) (by kernel_rfl) (by kernel_rfl) (by kernel_rfl) (fun _ _ _ h => h) hT rfl ?_ (fun hT => ?_)
                rotate_left
                · intro wq; go_simp; rfl
                simp only [Act.put, List.setIfInBounds_toArray, List.set_cons_zero, List.set_cons_succ]
                refine wpAnyG_ready (rs := [9]) (by kernel_rfl) (by simp) ?_
                refine AllReadyG.cons (o := ⟨some 54, Op.call { callee := Callee.builtin Builtin.append, args := #[Operand.tmp 51, Operand.tmp 53], argTypes := #[29, 29] }, _, _, _, none⟩) rfl (fun K hK => ?_) ?_
                · skip
                  have hz3 := hq3.size
                  refine step_of rfl (wp_append1 elem_ints (.tmp 51) (.tmp 53) rfl (w.heap.size + 3) fv k _ rfl hF3 b2 (.int .i64 k) rfl hb2 rfl (by omega) (by decide) (by omega) (fun g9 c9 W4 hF4 hk9 ho9 hl9 => ?_))
                  have hs4 := hs3.keep hk9 HN2.out
                  have hR4 := hk9.owns hR3 (fun g hg1 hg2 => owns_apart hR3 hF3 (by decide) g hg1 hg2)
                  have hq4 := hq3.trans (hk9.wide fun _ _ h => .inr (.inr h))
                  refine hK _ _ (till_one hs4) (fun hT => ?_)
                  try simp only [Act.put, List.setIfInBounds_toArray, List.set_cons_zero, List.set_cons_succ]
                  refine wpAnyG_ready (rs := [11]) (by kernel_rfl) (by simp) ?_
                  refine AllReadyG.cons (o := ⟨none, Op.store 23 (Operand.tmp 55) (Operand.tmp 49), _, _, _, none⟩) rfl (fun K hK => ?_) ?_
                  · skip
                    obtain ⟨q0, q1, q2, q3⟩ := hs4.cells
                    have z0 := hs4.free 0
                    have z1 := hs4.free 1
                    have z2 := hs4.free 2
                    have z3 := hs4.free 3
                    go_simp
                    refine hK _ _ (till_past rfl) (fun hT => ?_)
                    try simp only [Act.put, List.setIfInBounds_toArray, List.set_cons_zero, List.set_cons_succ]
                    refine wpAnyG_takeW (i := 12) (oi := ⟨some 56, Op.fieldAddr 79 (Operand.tmp 8) 1, _, _, _, none⟩) (v := ?_) rfl (by kernel_rfl) (by kernel_rfl) (by kernel_rfl) (by kernel_rfl) (fun _ _ _ h => h) hT rfl ?_ (fun hT => ?_)
                    rotate_left
                    · intro wq; go_simp; rfl
                    simp only [Act.put, List.setIfInBounds_toArray, List.set_cons_zero, List.set_cons_succ]
                    refine wpAnyG_ready (rs := [13]) (by kernel_rfl) (by simp) ?_
                    refine AllReadyG.cons (o := ⟨none, Op.store 29 (Operand.tmp 56) (Operand.tmp 54), _, _, _, none⟩) rfl (fun K hK => ?_) ?_
                    · skip
                      go_simp
                      refine hK _ _ (till_past rfl) (fun hT => ?_)
                      try simp only [Act.put, List.setIfInBounds_toArray, List.set_cons_zero, List.set_cons_succ]
                      refine wpAnyG_done (by kernel_rfl) ?_ _
                      have HX := Lib.hid (HL2.out.step HOWN.out hs4 hR4 hF4 hq4)
                      clear hs4 hR4 hF4 hq4
                      go_wp2_with fail
                      go_roundw
                      case rel => exact ⟨k + 1, by omega, by go_num, _, _, _, HX.out⟩
                      case measure => simp [intOf]; omega
                    exact AllReadyG.nil
                  exact AllReadyG.nil
                exact AllReadyG.nil
              exact AllReadyG.nil
            exact AllReadyG.nil
          exact AllReadyG.nil
    · obtain rfl : n = k := by omega
      have HL2 := Lib.hid (L2.of_L1 HL HLN.out HWW.out HWR.out)
      clear HL HA HB HLN HWW HWR hk
      go_wp2_with fail
      go_loopw [59] (fun i wr => ∃ c : Nat, c ≤ n ∧ i = .int .i64 c ∧ ∃ R s rv fv pv ov, L2 w.heap.size n R s rv fv pv ov w wr ∧ Hid (goS n (n - c) c s = stepsS n (M0 rows rhs)) ∧ Hid (s.odd.length = c ∧ s.piv.length = c)) (fun i _ => n - (intOf i).toNat)
      case atStart => exact ⟨0, Nat.zero_le _, rfl, R, _, rv, fv, _, _, HL2.out, rfl, ⟨rfl, rfl⟩⟩
      case round =>
        clear HL2
        obtain ⟨c, hc, rfl, R, s, rv, fv, pv, ov, HX, HG, HO⟩ := hrel
        by_cases hcn : c < n
        · obtain ⟨gr, cr, rfl, hcr1, hcr2⟩ := owns_form HX.sat.ownR hn0
          obtain ⟨gf, cf, rfl, hcf1, hcf2⟩ := owns_form HX.sat.ownF hn0
          unfold maxLen at hcr2 hcf2
          have HL2 := Lib.hid HX
          clear HX
          obtain ⟨wo, rfl⟩ : ∃ wo : World, wo = wr := ⟨_, rfl⟩
          go_wp2_with fail
          go_loopw [14, 15] (fun p i wr => ∃ j : Nat, c < j ∧ j ≤ n ∧ p = .int .i64 (pickI s.M c j : Nat) ∧ i = .int .i64 j ∧ L2 w.heap.size n R s (.slice (some ⟨gr, 0, none⟩) n cr) (.slice (some ⟨gf, 0, none⟩) n cf) pv ov w wr) (fun _ i _ => n - (intOf i).toNat)
          case atStart => exact ⟨c + 1, by omega, by omega, by rw [pickI_start], by go_num, HL2.out⟩
          case round =>
            clear HL2
            obtain ⟨j, hcj, hjn, rfl, rfl, HX⟩ := hrel
            have hpk := pickI_lt s.M hcj
            have hps := pickI_succ s.M hcj
            have HPE := Lib.hid (pickI_end s.M n c)
            by_cases hlt : j < n
            · obtain ⟨p, hp⟩ : ∃ p, pickI s.M c j = p := ⟨_, rfl⟩
              rw [hp] at hpk hps ⊢
              clear hp HPE
              obtain ⟨b1, e1, _, hw1, hf1⟩ := HX.sat.num (i := j) (j := c) hlt (by omega)
              obtain ⟨b2, e2, _, hw2, hf2⟩ := HX.sat.num (i := p) (j := c) (by omega) (by omega)
              have e3 := (HX.sat.rowCell (i := j) hlt).1
              have e4 := (HX.sat.rowCell (i := p) (by omega)).1
              obtain ⟨qb0, qb1, qb2, qb3⟩ := HX.box.cells
              obtain ⟨qs0, qs1, qs2, qs3⟩ := HX.sys.cells
              rw [fgt_bits hf1 hf2] at hps
              have HPS := Lib.hid hps
              have HL3 := Lib.hid HX
              obtain ⟨hpk1, hpk2⟩ := hpk
              have i1 : (0 : Int) ≤ (j : Int) := by omega
              have i2 : (j : Int) < (n : Int) := by omega
              have i3 : (0 : Int) ≤ (p : Int) := by omega
              have i4 : (p : Int) < (n : Int) := by omega
              have i5 : (0 : Int) ≤ (c : Int) := by omega
              have i6 : (c : Int) < ((n : Int) + 1) := by omega
              clear hps hf1 hf2 HX
              obtain ⟨w3, rfl⟩ : ∃ w3 : World, w3 = wr := ⟨_, rfl⟩
              go_upto_region 19 with fail
              as_aux_lemma =>
                refine wp_region_till [(fun w' : World => ∃ m, w' = World.drewN w3 m, none)] (by kernel_rfl) ?_ (fun hT => ?_)
                · exact till_one ⟨1, rfl⟩
                refine wpAnyG_takeW (i := 0) (oi := ⟨some 70, Op.fieldAddr 74 (Operand.tmp 3) 0, _, _, _, none⟩) (v := ?_) rfl (by kernel_rfl) (by kernel_rfl) (by kernel_rfl) (by kernel_rfl) (fun _ _ _ h => h) hT rfl ?_ (fun hT => ?_)
                rotate_left
                · intro wq; go_simp; rfl
                simp only [Act.put, List.setIfInBounds_toArray, List.set_cons_zero, List.set_cons_succ]
                refine wpAnyG_take (fun w' : World => ∃ m, w' = World.drewN w3 m, none) (i := 1) (oi := ⟨some 71, Op.load 59 (Operand.tmp 70), _, _, _, none⟩) (v := ?_) rfl (by kernel_rfl) (by kernel_rfl) (by kernel_rfl) (by kernel_rfl) (by kernel_rfl) (by kernel_rfl) (by simp) (fun _ _ _ h => h) hT rfl ?_ (fun hT => ?_)
                rotate_left
                · intro wq hSw; obtain ⟨mw, rfl⟩ := hSw; go_simp; rfl
                simp only [Act.put, List.setIfInBounds_toArray, List.set_cons_zero, List.set_cons_succ]
                refine wpAnyG_takeW (i := 2) (oi := ⟨some 72, Op.fieldAddr 79 (Operand.tmp 8) 0, _, _, _, none⟩) (v := ?_) rfl (by kernel_rfl) (by kernel_rfl) (by kernel_rfl) (by kernel_rfl) (fun _ _ _ h => h) hT rfl ?_ (fun hT => ?_)
                rotate_left
                · intro wq; go_simp; rfl
                simp only [Act.put, List.setIfInBounds_toArray, List.set_cons_zero, List.set_cons_succ]
                refine wpAnyG_take (fun w' : World => ∃ m, w' = World.drewN w3 m, none) (i := 3) (oi := ⟨some 73, Op.load 23 (Operand.tmp 72), _, _, _, none⟩) (v := ?_) rfl (by kernel_rfl) (by kernel_rfl) (by kernel_rfl) (by kernel_rfl) (by kernel_rfl) (by kernel_rfl) (by simp) (fun _ _ _ h => h) hT rfl ?_ (fun hT => ?_)
                rotate_left
                · intro wq hSw; obtain ⟨mw, rfl⟩ := hSw; go_simp; rfl
                simp only [Act.put, List.setIfInBounds_toArray, List.set_cons_zero, List.set_cons_succ]
                refine wpAnyG_takeW (i := 4) (oi := ⟨some 74, Op.move (Operand.tmp 15), _, _, _, none⟩) (v := ?_) rfl (by kernel_rfl) (by kernel_rfl) (by kernel_rfl) (by kernel_rfl) (fun _ _ _ h => h) hT rfl ?_ (fun hT => ?_)
                rotate_left
                · intro wq; go_simp; rfl
                simp only [Act.put, List.setIfInBounds_toArray, List.set_cons_zero, List.set_cons_succ]
                refine wpAnyG_takeW (i := 5) (oi := ⟨some 75, Op.indexAddr 23 (Operand.tmp 73) (Operand.tmp 74), _, _, _, none⟩) (v := ?_) rfl (by kernel_rfl) (by kernel_rfl) (by kernel_rfl) (by kernel_rfl) (fun _ _ _ h => h) hT rfl ?_ (fun hT => ?_)
                rotate_left
                · intro wq; go_simp; rfl
                simp only [Act.put, List.setIfInBounds_toArray, List.set_cons_zero, List.set_cons_succ]
                refine wpAnyG_take (fun w' : World => ∃ m, w' = World.drewN w3 m, none) (i := 6) (oi := ⟨some 76, Op.load 24 (Operand.tmp 75), _, _, _, none⟩) (v := ?_) rfl (by kernel_rfl) (by kernel_rfl) (by kernel_rfl) (by kernel_rfl) (by kernel_rfl) (by kernel_rfl) (by simp) (fun _ _ _ h => h) hT rfl ?_ (fun hT => ?_)
                rotate_left
                · intro wq hSw; obtain ⟨mw, rfl⟩ := hSw; go_simp; rfl
                simp only [Act.put, List.setIfInBounds_toArray, List.set_cons_zero, List.set_cons_succ]
                refine wpAnyG_takeW (i := 7) (oi := ⟨some 77, Op.move (Operand.tmp 13), _, _, _, none⟩) (v := ?_) rfl (by kernel_rfl) (by kernel_rfl) (by kernel_rfl) (by kernel_rfl) (fun _ _ _ h => h) hT rfl ?_ (fun hT => ?_)
                rotate_left
                · intro wq; go_simp; rfl
                simp only [Act.put, List.setIfInBounds_toArray, List.set_cons_zero, List.set_cons_succ]
                refine wpAnyG_takeW (i := 8) (oi := ⟨some 78, Op.indexAddr 24 (Operand.tmp 76) (Operand.tmp 77), _, _, _, none⟩) (v := ?_) rfl (by kernel_rfl) (by kernel_rfl) (by kernel_rfl) (by kernel_rfl) (fun _ _ _ h => h) hT rfl ?_ (fun hT => ?_)
                rotate_left
                · intro wq; go_simp; rfl
                simp only [Act.put, List.setIfInBounds_toArray, List.set_cons_zero, List.set_cons_succ]
                refine wpAnyG_take (fun w' : World => ∃ m, w' = World.drewN w3 m, none) (i := 9) (oi := ⟨some 79, Op.load 25 (Operand.tmp 78), _, _, _, none⟩) (v := ?_) rfl (by kernel_rfl) (by kernel_rfl) (by kernel_rfl) (by kernel_rfl) (by kernel_rfl) (by kernel_rfl) (by simp) (fun _ _ _ h => h) hT rfl ?_ (fun hT => ?_)
                rotate_left
                · intro wq hSw; obtain ⟨mw, rfl⟩ := hSw; go_simp; rfl
                simp only [Act.put, List.setIfInBounds_toArray, List.set_cons_zero, List.set_cons_succ]
                refine wpAnyG_takeW (i := 11) (oi := ⟨some 81, Op.fieldAddr 74 (Operand.tmp 3) 0, _, _, _, none⟩) (v := ?_) rfl (by kernel_rfl) (by kernel_rfl) (by kernel_rfl) (by kernel_rfl) (fun _ _ _ h => h) hT rfl ?_ (fun hT => ?_)
                rotate_left
                · intro wq; go_simp; rfl
                simp only [Act.put, List.setIfInBounds_toArray, List.set_cons_zero, List.set_cons_succ]
                refine wpAnyG_take (fun w' : World => ∃ m, w' = World.drewN w3 m, none) (i := 12) (oi := ⟨some 82, Op.load 59 (Operand.tmp 81), _, _, _, none⟩) (v := ?_) rfl (by kernel_rfl) (by kernel_rfl) (by kernel_rfl) (by kernel_rfl) (by kernel_rfl) (by kernel_rfl) (by simp) (fun _ _ _ h => h) hT rfl ?_ (fun hT => ?_)
                rotate_left
                · intro wq hSw; obtain ⟨mw, rfl⟩ := hSw; go_simp; rfl
                simp only [Act.put, List.setIfInBounds_toArray, List.set_cons_zero, List.set_cons_succ]
                refine wpAnyG_takeW (i := 13) (oi := ⟨some 83, Op.fieldAddr 79 (Operand.tmp 8) 0, _, _, _, none⟩) (v := ?_) rfl (by kernel_rfl) (by kernel_rfl) (by kernel_rfl) (by kernel_rfl) (fun _ _ _ h => h) hT rfl ?_ (fun hT => ?_)
                rotate_left
                · intro wq; go_simp; rfl
                simp only [Act.put, List.setIfInBounds_toArray, List.set_cons_zero, List.set_cons_succ]
                refine wpAnyG_take (fun w' : World => ∃ m, w' = World.drewN w3 m, none) (i := 14) (oi := ⟨some 84, Op.load 23 (Operand.tmp 83), _, _, _, none⟩) (v := ?_) rfl (by kernel_rfl) (by kernel_rfl) (by kernel_rfl) (by kernel_rfl) (by kernel_rfl) (by kernel_rfl) (by simp) (fun _ _ _ h => h) hT rfl ?_ (fun hT => ?_)
                rotate_left
                · intro wq hSw; obtain ⟨mw, rfl⟩ := hSw; go_simp; rfl
                simp only [Act.put, List.setIfInBounds_toArray, List.set_cons_zero, List.set_cons_succ]
                refine wpAnyG_takeW (i := 15) (oi := ⟨some 85, Op.move (Operand.tmp 14), _, _, _, none⟩) (v := ?_) rfl (by kernel_rfl) (by kernel_rfl) (by kernel_rfl) (by kernel_rfl) (fun _ _ _ h => h) hT rfl ?_ (fun hT => ?_)
                rotate_left
                · intro wq; go_simp; rfl
                simp only [Act.put, List.setIfInBounds_toArray, List.set_cons_zero, List.set_cons_succ]
                refine wpAnyG_takeW (i := 16) (oi := ⟨some 86, Op.indexAddr 23 (Operand.tmp 84) (Operand.tmp 85), _, _, _, none⟩) (v := ?_) rfl (by kernel_rfl) (by kernel_rfl) (by kernel_rfl) (by kernel_rfl) (fun _ _ _ h => h) hT rfl ?_ (fun hT => ?_)
                rotate_left
                · intro wq; go_simp; rfl
                simp only [Act.put, List.setIfInBounds_toArray, List.set_cons_zero, List.set_cons_succ]
                refine wpAnyG_take (fun w' : World => ∃ m, w' = World.drewN w3 m, none) (i := 17) (oi := ⟨some 87, Op.load 24 (Operand.tmp 86), _, _, _, none⟩) (v := ?_) rfl (by kernel_rfl) (by kernel_rfl) (by kernel_rfl) (by kernel_rfl) (by kernel_rfl) (by kernel_rfl) (by simp) (fun _ _ _ h => h) hT rfl ?_ (fun hT => ?_)
                rotate_left
                · intro wq hSw; obtain ⟨mw, rfl⟩ := hSw; go_simp; rfl
                simp only [Act.put, List.setIfInBounds_toArray, List.set_cons_zero, List.set_cons_succ]
                refine wpAnyG_takeW (i := 18) (oi := ⟨some 88, Op.move (Operand.tmp 13), _, _, _, none⟩) (v := ?_) rfl (by kernel_rfl) (by kernel_rfl) (by kernel_rfl) (by kernel_rfl) (fun _ _ _ h => h) hT rfl ?_ (fun hT => ?_)
                rotate_left
                · intro wq; go_simp; rfl
                simp only [Act.put, List.setIfInBounds_toArray, List.set_cons_zero, List.set_cons_succ]
                refine wpAnyG_takeW (i := 19) (oi := ⟨some 89, Op.indexAddr 24 (Operand.tmp 87) (Operand.tmp 88), _, _, _, none⟩) (v := ?_) rfl (by kernel_rfl) (by kernel_rfl) (by kernel_rfl) (by kernel_rfl) (fun _ _ _ h => h) hT rfl ?_ (fun hT => ?_)
                rotate_left
                · intro wq; go_simp; rfl
                simp only [Act.put, List.setIfInBounds_toArray, List.set_cons_zero, List.set_cons_succ]
                refine wpAnyG_take (fun w' : World => ∃ m, w' = World.drewN w3 m, none) (i := 20) (oi := ⟨some 90, Op.load 25 (Operand.tmp 89), _, _, _, none⟩) (v := ?_) rfl (by kernel_rfl) (by kernel_rfl) (by kernel_rfl) (by kernel_rfl) (by kernel_rfl) (by kernel_rfl) (by simp) (fun _ _ _ h => h) hT rfl ?_ (fun hT => ?_)
                rotate_left
                · intro wq hSw; obtain ⟨mw, rfl⟩ := hSw; go_simp; rfl
                simp only [Act.put, List.setIfInBounds_toArray, List.set_cons_zero, List.set_cons_succ]
                refine wpAnyG_ready (rs := [10]) (by kernel_rfl) (by simp) ?_
                refine AllReadyG.cons (o := ⟨some 80, Op.call { callee := Callee.value (Operand.tmp 71), args := #[Operand.tmp 79], argTypes := #[25] }, _, _, _, none⟩) rfl (fun K hK => ?_) ?_
                · skip
                  go_simp
                  refine (abs_any _ _ hw1).mono ?_
                  rintro e we ⟨rfl, rfl⟩
                  refine hK _ _ (till_one ⟨1, rfl⟩) (fun hT => ?_)
                  try simp only [Act.put, List.setIfInBounds_toArray, List.set_cons_zero, List.set_cons_succ]
                  refine wpAnyG_ready (rs := [21]) (by kernel_rfl) (by simp) ?_
                  refine AllReadyG.cons (o := ⟨some 91, Op.call { callee := Callee.value (Operand.tmp 82), args := #[Operand.tmp 90], argTypes := #[25] }, _, _, _, none⟩) rfl (fun K hK => ?_) ?_
                  · skip
                    go_simp
                    refine (abs_any _ _ hw2).mono ?_
                    rintro e we ⟨rfl, rfl⟩
                    refine hK _ _ (till_one ⟨1, rfl⟩) (fun hT => ?_)
                    try simp only [Act.put, List.setIfInBounds_toArray, List.set_cons_zero, List.set_cons_succ]
                    refine wpAnyG_takeW (i := 22) (oi := ⟨some 92, Op.binOp BinOp.gtr 25 (Operand.tmp 80) (Operand.tmp 91) 25, _, _, _, none⟩) (v := ?_) rfl (by kernel_rfl) (by kernel_rfl) (by kernel_rfl) (by kernel_rfl) (fun _ _ _ h => h) hT rfl ?_ (fun hT => ?_)
                    rotate_left
                    · intro wq; go_simp; rfl
                    simp only [Act.put, List.setIfInBounds_toArray, List.set_cons_zero, List.set_cons_succ]
                    refine wpAnyG_done (by kernel_rfl) ?_ _
                    have HW3 := Lib.hid (HL3.out.drewN 1)
                    clear HL3 hT
                    cases hgt : (FloatKind.f64.format.order (absB b1) (absB b2) == some Ordering.gt)
                    all_goals
                      go_wp2_with fail
                      go_roundw
                      case rel => exact ⟨j + 1, by omega, by omega, by rw [HPS.out, hgt]; rfl, by go_num, HW3.out⟩
                      case measure => simp [intOf]; omega
                  exact AllReadyG.nil
                exact AllReadyG.nil
            · obtain rfl : n = j := by omega
              rw [HPE.out] at hpk ⊢
              clear hps HPE hlt
              obtain ⟨p, hp⟩ : ∃ p, pick n s.M c = p := ⟨_, rfl⟩
              rw [hp] at hpk ⊢
              have HP := Lib.hid hp
              obtain ⟨hpk1, hpk2⟩ := hpk
              clear hp
              obtain ⟨b, e1, _, hwb, hfb⟩ := HX.sat.num (i := p) (j := c) (by omega) (by omega)
              have e4 := (HX.sat.rowCell (i := p) (by omega)).1
              obtain ⟨qs0, qs1, qs2, qs3⟩ := HX.sys.cells
              have i3 : (0 : Int) ≤ (p : Int) := by omega
              have i4 : (p : Int) < (n : Int) := by omega
              have i5 : (0 : Int) ≤ (c : Int) := by omega
              have i6 : (c : Int) < ((n : Int) + 1) := by omega
              have HFB := Lib.hid hfb
              have HL3 := Lib.hid HX
              clear hfb HX
              obtain ⟨w2, rfl⟩ : ∃ w2 : World, w2 = wr := ⟨_, rfl⟩
              go_upto_region 22 with fail
              go_cut [] (fun wc => ∃ pv' ov', L2 w.heap.size n R { s with piv := s.piv ++ [s.M p c], odd := s.odd ++ [(p : Int) != (c : Int)] } (.slice (some ⟨gr, 0, none⟩) n cr) (.slice (some ⟨gf, 0, none⟩) n cf) pv' ov' w wc)
              case first =>
                obtain ⟨pb, hpb⟩ := HL3.out.sat.ownP
                have hpl : pb.length ≤ 128 := by
                  have h1 := congrArg List.length hpb.2.1
                  rw [List.length_map] at h1
                  have h2 := HO.out.2
                  omega
                have hol : s.odd.length ≤ 128 := by have h2 := HO.out.1; omega
                have HPB := Lib.hid hpb
                have HLT : Hid (∀ g, pv.ownBlock = some g → g < w2.heap.size) := fun g hg => (HPB.out.2.2.lt g hg).2
                have HN1 : Hid (pv.ownBlock ≠ some (w.heap.size + 2)) := fun h => by have := HPB.out.2.2.lt _ h; omega
                have HN2 : Hid (ov.ownBlock ≠ some (w.heap.size + 2)) := fun h => by have := HL3.out.sat.ownO.lt _ h; omega
                have hwz : w.heap.size + 2 < w2.heap.size := HL3.out.sys.lt
                have hs0 : SysB w2.drew (w.heap.size + 2) (.slice (some ⟨gr, 0, none⟩) n cr) (.slice (some ⟨gf, 0, none⟩) n cf) pv ov := HL3.out.sys
                have hR0 : w2.drew.ownsRow (w.heap.size + 3) 25 1 pv pb.length (pb.map flV) := HPB.out.2.2
                have hF0 : w2.drew.ownsRow (w.heap.size + 3) 4 1 ov s.odd.length (s.odd.map Value.bool) := HL3.out.sat.ownO
                have hq0 : Keep (fun g => g = w.heap.size + 2 ∨ pv.ownBlock = some g ∨ ov.ownBlock = some g) w2 w2.drew := (Keep.drew w2).all
                clear hpb e1 e4
                as_aux_lemma =>
                  refine wp_region_till [(fun w' : World => SysB w' (w.heap.size + 2) (.slice (some ⟨gr, 0, none⟩) n cr) (.slice (some ⟨gf, 0, none⟩) n cf) pv ov, some 13)] (by kernel_rfl) ?_ (fun hT => ?_)
                  · exact till_one hs0
                  refine wpAnyG_takeW (i := 0) (oi := ⟨some 102, Op.fieldAddr 79 (Operand.tmp 8) 2, _, _, _, none⟩) (v := ?_) rfl (by kernel_rfl) (by kernel_rfl) (by kernel_rfl) (by kernel_rfl) (fun _ _ _ h => h) hT rfl ?_ (fun hT => ?_)
                  rotate_left
                  · intro wq; go_simp; rfl
                  simp only [Act.put, List.setIfInBounds_toArray, List.set_cons_zero, List.set_cons_succ]
                  refine wpAnyG_take (fun w' : World => SysB w' (w.heap.size + 2) (.slice (some ⟨gr, 0, none⟩) n cr) (.slice (some ⟨gf, 0, none⟩) n cf) pv ov, some 13) (i := 1) (oi := ⟨some 103, Op.load 24 (Operand.tmp 102), _, _, _, none⟩) (v := ?_) rfl (by kernel_rfl) (by kernel_rfl) (by kernel_rfl) (by kernel_rfl) (by kernel_rfl) (by kernel_rfl) (by simp) (fun _ _ _ h => h) hT rfl ?_ (fun hT => ?_)
                  rotate_left
                  · intro wq hSw; obtain ⟨c0, c1, c2, c3⟩ := hSw.cells; go_simp; rfl
                  simp only [Act.put, List.setIfInBounds_toArray, List.set_cons_zero, List.set_cons_succ]
                  refine wpAnyG_takeW (i := 2) (oi := ⟨some 104, Op.move (Operand.tmp 16), _, _, _, none⟩) (v := ?_) rfl (by kernel_rfl) (by kernel_rfl) (by kernel_rfl) (by kernel_rfl) (fun _ _ _ h => h) hT rfl ?_ (fun hT => ?_)
                  rotate_left
                  · intro wq; go_simp; rfl
                  simp only [Act.put, List.setIfInBounds_toArray, List.set_cons_zero, List.set_cons_succ]
                  refine wpAnyG_takeW (i := 5) (oi := ⟨some 107, Op.fieldAddr 79 (Operand.tmp 8) 3, _, _, _, none⟩) (v := ?_) rfl (by kernel_rfl) (by kernel_rfl) (by kernel_rfl) (by kernel_rfl) (fun _ _ _ h => h) hT rfl ?_ (fun hT => ?_)
                  rotate_left
                  · intro wq; go_simp; rfl
                  simp only [Act.put, List.setIfInBounds_toArray, List.set_cons_zero, List.set_cons_succ]
                  refine wpAnyG_take (fun w' : World => SysB w' (w.heap.size + 2) (.slice (some ⟨gr, 0, none⟩) n cr) (.slice (some ⟨gf, 0, none⟩) n cf) pv ov, some 13) (i := 6) (oi := ⟨some 108, Op.load 77 (Operand.tmp 107), _, _, _, none⟩) (v := ?_) rfl (by kernel_rfl) (by kernel_rfl) (by kernel_rfl) (by kernel_rfl) (by kernel_rfl) (by kernel_rfl) (by simp) (fun _ _ _ h => h) hT rfl ?_ (fun hT => ?_)
                  rotate_left
                  · intro wq hSw; obtain ⟨c0, c1, c2, c3⟩ := hSw.cells; go_simp; rfl
                  simp only [Act.put, List.setIfInBounds_toArray, List.set_cons_zero, List.set_cons_succ]
                  refine wpAnyG_takeW (i := 7) (oi := ⟨some 109, Op.move (Operand.tmp 14), _, _, _, none⟩) (v := ?_) rfl (by kernel_rfl) (by kernel_rfl) (by kernel_rfl) (by kernel_rfl) (fun _ _ _ h => h) hT rfl ?_ (fun hT => ?_)
                  rotate_left
                  · intro wq; go_simp; rfl
                  simp only [Act.put, List.setIfInBounds_toArray, List.set_cons_zero, List.set_cons_succ]
                  refine wpAnyG_takeW (i := 8) (oi := ⟨some 110, Op.move (Operand.tmp 13), _, _, _, none⟩) (v := ?_) rfl (by kernel_rfl) (by kernel_rfl) (by kernel_rfl) (by kernel_rfl) (fun _ _ _ h => h) hT rfl ?_ (fun hT => ?_)
                  rotate_left
                  · intro wq; go_simp; rfl
                  simp only [Act.put, List.setIfInBounds_toArray, List.set_cons_zero, List.set_cons_succ]
                  refine wpAnyG_takeW (i := 9) (oi := ⟨some 111, Op.binOp BinOp.neq 3 (Operand.tmp 109) (Operand.tmp 110) 3, _, _, _, none⟩) (v := ?_) rfl (by kernel_rfl) (by kernel_rfl) (by kernel_rfl) (by kernel_rfl) (fun _ _ _ h => h) hT rfl ?_ (fun hT => ?_)
                  rotate_left
                  · intro wq; go_simp; rfl
                  simp only [Act.put, List.setIfInBounds_toArray, List.set_cons_zero, List.set_cons_succ]
                  refine wpAnyG_ready (rs := [3, 10]) (by kernel_rfl) (by simp) ?_
                  refine AllReadyG.cons (o := ⟨some 105, Op.buildSlice 24 1 #[(0, Operand.tmp 104)], _, _, _, none⟩) rfl (fun K hK => ?_) ?_
                  · skip
                    refine step_of rfl (wp_build1 elem_floats (.tmp 104) rfl (.float .f64 b) rfl rfl (fun b1 W1 hb1 he1 hl1 hk1 => ?_))
                    have hs1 := hs0.keep hk1 id
                    have hR1 := hk1.owns hR0 (fun _ _ h => h)
                    have hF1 := hk1.owns hF0 (fun _ _ h => h)
                    have hq1 := hq0.trans hk1.all
                    refine hK _ _ (till_one hs1) (fun hT => ?_)
                    try simp only [Act.put, List.setIfInBounds_toArray, List.set_cons_zero, List.set_cons_succ]
                    refine wpAnyG_ready (rs := [4, 10]) (by kernel_rfl) (by simp) ?_
                    refine AllReadyG.cons (o := ⟨some 106, Op.call { callee := Callee.builtin Builtin.append, args := #[Operand.tmp 103, Operand.tmp 105], argTypes := #[24, 24] }, _, _, _, none⟩) rfl (fun K hK => ?_) ?_
                    · skip
                      have hz1 := hq1.size
                      refine step_of rfl (wp_append1 elem_floats (.tmp 103) (.tmp 105) rfl (w.heap.size + 3) pv pb.length _ rfl hR1 b1 (.float .f64 b) rfl hb1 rfl (by omega) (by decide) (by omega) (fun g4 c4 W2 hR2 hk4 ho4 hl4 => ?_))
                      have hs2 := hs1.keep hk4 HN1.out
                      have hF2 := hk4.owns hF1 (fun g hg1 hg2 => owns_apart hR1 hF1 (by decide) g hg2 hg1)
                      have hq2 := hq1.trans (hk4.wide fun _ _ h => .inr (.inl h))
                      refine hK _ _ (till_one hs2) (fun hT => ?_)
                      try simp only [Act.put, List.setIfInBounds_toArray, List.set_cons_zero, List.set_cons_succ]
                      refine wpAnyG_takeW (i := 12) (oi := ⟨some 114, Op.fieldAddr 79 (Operand.tmp 8) 2, _, _, _, none⟩) (v := ?_) rfl (by kernel_rfl) (by kernel_rfl) (by kernel_rfl) (by kernel_rfl) (fun _ _ _ h => h) hT rfl ?_ (fun hT => ?_)
                      rotate_left
                      · intro wq; go_simp; rfl
                      simp only [Act.put, List.setIfInBounds_toArray, List.set_cons_zero, List.set_cons_succ]
                      refine wpAnyG_ready (rs := [10]) (by kernel_rfl) (by simp) ?_
                      refine AllReadyG.cons (o := ⟨some 112, Op.buildSlice 77 1 #[(0, Operand.tmp 111)], _, _, _, none⟩) rfl (fun K hK => ?_) ?_
                      · skip
                        refine step_of rfl (wp_build1 elem_bools (.tmp 111) rfl (.bool ((p : Int) != (c : Int))) rfl rfl (fun b2 W3 hb2 he2 hl2 hk2 => ?_))
                        have hs3 := hs2.keep hk2 id
                        have hR3 := hk2.owns hR2 (fun _ _ h => h)
                        have hF3 := hk2.owns hF2 (fun _ _ h => h)
                        have hq3 := hq2.trans hk2.all
                        refine hK _ _ (till_one hs3) (fun hT => ?_)
                        try simp only [Act.put, List.setIfInBounds_toArray, List.set_cons_zero, List.set_cons_succ]
                        refine wpAnyG_ready (rs := [11]) (by kernel_rfl) (by simp) ?_
                        refine AllReadyG.cons (o := ⟨some 113, Op.call { callee := Callee.builtin Builtin.append, args := #[Operand.tmp 108, Operand.tmp 112], argTypes := #[77, 77] }, _, _, _, none⟩) rfl (fun K hK => ?_) ?_
                        · skip
                          have hz3 := hq3.size
                          refine step_of rfl (wp_append1 elem_bools (.tmp 108) (.tmp 112) rfl (w.heap.size + 3) ov s.odd.length _ rfl hF3 b2 (.bool ((p : Int) != (c : Int))) rfl hb2 rfl (by omega) (by decide) (by omega) (fun g9 c9 W4 hF4 hk9 ho9 hl9 => ?_))
                          have hs4 := hs3.keep hk9 HN2.out
                          have hR4 := hk9.owns hR3 (fun g hg1 hg2 => owns_apart hR3 hF3 (by decide) g hg1 hg2)
                          have hq4 := hq3.trans (hk9.wide fun _ _ h => .inr (.inr h))
                          refine hK _ _ (till_one hs4) (fun hT => ?_)
                          try simp only [Act.put, List.setIfInBounds_toArray, List.set_cons_zero, List.set_cons_succ]
                          refine wpAnyG_ready (rs := [13]) (by kernel_rfl) (by simp) ?_
                          refine AllReadyG.cons (o := ⟨none, Op.store 24 (Operand.tmp 114) (Operand.tmp 106), _, _, _, none⟩) rfl (fun K hK => ?_) ?_
                          · skip
                            obtain ⟨q0, q1, q2, q3⟩ := hs4.cells
                            have z0 := hs4.free 0
                            have z1 := hs4.free 1
                            have z2 := hs4.free 2
                            have z3 := hs4.free 3
                            go_simp
                            refine hK _ _ (till_past rfl) (fun hT => ?_)
                            try simp only [Act.put, List.setIfInBounds_toArray, List.set_cons_zero, List.set_cons_succ]
                            refine wpAnyG_takeW (i := 14) (oi := ⟨some 115, Op.fieldAddr 79 (Operand.tmp 8) 3, _, _, _, none⟩) (v := ?_) rfl (by kernel_rfl) (by kernel_rfl) (by kernel_rfl) (by kernel_rfl) (fun _ _ _ h => h) hT rfl ?_ (fun hT => ?_)
                            rotate_left
                            · intro wq; go_simp; rfl
                            simp only [Act.put, List.setIfInBounds_toArray, List.set_cons_zero, List.set_cons_succ]
                            refine wpAnyG_ready (rs := [15]) (by kernel_rfl) (by simp) ?_
                            refine AllReadyG.cons (o := ⟨none, Op.store 77 (Operand.tmp 115) (Operand.tmp 113), _, _, _, none⟩) rfl (fun K hK => ?_) ?_
                            · skip
                              go_simp
                              refine hK _ _ (till_past rfl) (fun hT => ?_)
                              try simp only [Act.put, List.setIfInBounds_toArray, List.set_cons_zero, List.set_cons_succ]
                              refine wpAnyG_done (by kernel_rfl) ?_ _
                              have HX := Lib.hid (HL3.out.note hwb HFB.out pb HPB.out hs4 hR4 (ho4.elim (fun h => .inl (by rw [h]; rfl)) (fun h => .inr ⟨g4, rfl, by omega⟩)) hF4 hq4)
                              clear hs4 hR4 hF4 hq4
                              go_wp2_with fail
                              go_meet
                              exact ⟨_, _, HX.out⟩
                            exact AllReadyG.nil
                          exact AllReadyG.nil
                        exact AllReadyG.nil
                      exact AllReadyG.nil
                    refine AllReadyG.cons (o := ⟨some 112, Op.buildSlice 77 1 #[(0, Operand.tmp 111)], _, _, _, none⟩) rfl (fun K hK => ?_) ?_
                    · skip
                      refine step_of rfl (wp_build1 elem_bools (.tmp 111) rfl (.bool ((p : Int) != (c : Int))) rfl rfl (fun b2 W2 hb2 he2 hl2 hk2 => ?_))
                      have hs2 := hs1.keep hk2 id
                      have hR2 := hk2.owns hR1 (fun _ _ h => h)
                      have hF2 := hk2.owns hF1 (fun _ _ h => h)
                      have hq2 := hq1.trans hk2.all
                      replace hb1 := hk2.heap hb1 id
                      refine hK _ _ (till_one hs2) (fun hT => ?_)
                      try simp only [Act.put, List.setIfInBounds_toArray, List.set_cons_zero, List.set_cons_succ]
                      refine wpAnyG_ready (rs := [4]) (by kernel_rfl) (by simp) ?_
                      refine AllReadyG.cons (o := ⟨some 106, Op.call { callee := Callee.builtin Builtin.append, args := #[Operand.tmp 103, Operand.tmp 105], argTypes := #[24, 24] }, _, _, _, none⟩) rfl (fun K hK => ?_) ?_
                      · skip
                        have hz2 := hq2.size
                        refine step_of rfl (wp_append1 elem_floats (.tmp 103) (.tmp 105) rfl (w.heap.size + 3) pv pb.length _ rfl hR2 b1 (.float .f64 b) rfl hb1 rfl (by omega) (by decide) (by omega) (fun g4 c4 W3 hR3 hk4 ho4 hl4 => ?_))
                        have hs3 := hs2.keep hk4 HN1.out
                        have hF3 := hk4.owns hF2 (fun g hg1 hg2 => owns_apart hR2 hF2 (by decide) g hg2 hg1)
                        have hq3 := hq2.trans (hk4.wide fun _ _ h => .inr (.inl h))
                        replace hb2 := hk4.heap hb2 (fun h => by have := HLT.out _ h; have hdz : w2.drew.heap.size = w2.heap.size := rfl; omega)
                        refine hK _ _ (till_one hs3) (fun hT => ?_)
                        try simp only [Act.put, List.setIfInBounds_toArray, List.set_cons_zero, List.set_cons_succ]
                        refine wpAnyG_takeW (i := 12) (oi := ⟨some 114, Op.fieldAddr 79 (Operand.tmp 8) 2, _, _, _, none⟩) (v := ?_) rfl (by kernel_rfl) (by kernel_rfl) (by kernel_rfl) (by kernel_rfl) (fun _ _ _ h => h) hT rfl ?_ (fun hT => ?_)
                        rotate_left
                        · intro wq; go_simp; rfl
                        simp only [Act.put, List.setIfInBounds_toArray, List.set_cons_zero, List.set_cons_succ]
                        refine wpAnyG_ready (rs := [11]) (by kernel_rfl) (by simp) ?_
                        refine AllReadyG.cons (o := ⟨some 113, Op.call { callee := Callee.builtin Builtin.append, args := #[Operand.tmp 108, Operand.tmp 112], argTypes := #[77, 77] }, _, _, _, none⟩) rfl (fun K hK => ?_) ?_
                        · skip
                          have hz3 := hq3.size
                          refine step_of rfl (wp_append1 elem_bools (.tmp 108) (.tmp 112) rfl (w.heap.size + 3) ov s.odd.length _ rfl hF3 b2 (.bool ((p : Int) != (c : Int))) rfl hb2 rfl (by omega) (by decide) (by omega) (fun g9 c9 W4 hF4 hk9 ho9 hl9 => ?_))
                          have hs4 := hs3.keep hk9 HN2.out
                          have hR4 := hk9.owns hR3 (fun g hg1 hg2 => owns_apart hR3 hF3 (by decide) g hg1 hg2)
                          have hq4 := hq3.trans (hk9.wide fun _ _ h => .inr (.inr h))
                          refine hK _ _ (till_one hs4) (fun hT => ?_)
                          try simp only [Act.put, List.setIfInBounds_toArray, List.set_cons_zero, List.set_cons_succ]
                          refine wpAnyG_ready (rs := [13]) (by kernel_rfl) (by simp) ?_
                          refine AllReadyG.cons (o := ⟨none, Op.store 24 (Operand.tmp 114) (Operand.tmp 106), _, _, _, none⟩) rfl (fun K hK => ?_) ?_
                          · skip
                            obtain ⟨q0, q1, q2, q3⟩ := hs4.cells
                            have z0 := hs4.free 0
                            have z1 := hs4.free 1
                            have z2 := hs4.free 2
                            have z3 := hs4.free 3
                            go_simp
                            refine hK _ _ (till_past rfl) (fun hT => ?_)
                            try simp only [Act.put, List.setIfInBounds_toArray, List.set_cons_zero, List.set_cons_succ]
                            refine wpAnyG_takeW (i := 14) (oi := ⟨some 115, Op.fieldAddr 79 (Operand.tmp 8) 3, _, _, _, none⟩) (v := ?_) rfl (by kernel_rfl) (by kernel_rfl) (by kernel_rfl) (by kernel_rfl) (fun _ _ _ h => h) hT rfl ?_ (fun hT => ?_)
                            rotate_left
                            · intro wq; go_simp; rfl
                            simp only [Act.put, List.setIfInBounds_toArray, List.set_cons_zero, List.set_cons_succ]
                            refine wpAnyG_ready (rs := [15]) (by kernel_rfl) (by simp) ?_
                            refine AllReadyG.cons (o := ⟨none, Op.store 77 (Operand.tmp 115) (Operand.tmp 113), _, _, _, none⟩) rfl (fun K hK => ?_) ?_
                            · skip
                              go_simp
                              refine hK _ _ (till_past rfl) (fun hT => ?_)
                              try simp only [Act.put, List.setIfInBounds_toArray, List.set_cons_zero, List.set_cons_succ]
                              refine wpAnyG_done (by kernel_rfl) ?_ _
                              have HX := Lib.hid (HL3.out.note hwb HFB.out pb HPB.out hs4 hR4 (ho4.elim (fun h => .inl (by rw [h]; rfl)) (fun h => .inr ⟨g4, rfl, by omega⟩)) hF4 hq4)
                              clear hs4 hR4 hF4 hq4
                              go_wp2_with fail
                              go_meet
                              exact ⟨_, _, HX.out⟩
                            exact AllReadyG.nil
                          exact AllReadyG.nil
                        exact AllReadyG.nil
                      exact AllReadyG.nil
                    exact AllReadyG.nil
                  refine AllReadyG.cons (o := ⟨some 112, Op.buildSlice 77 1 #[(0, Operand.tmp 111)], _, _, _, none⟩) rfl (fun K hK => ?_) ?_
                  · skip
                    refine step_of rfl (wp_build1 elem_bools (.tmp 111) rfl (.bool ((p : Int) != (c : Int))) rfl rfl (fun b2 W1 hb2 he2 hl2 hk2 => ?_))
                    have hs1 := hs0.keep hk2 id
                    have hR1 := hk2.owns hR0 (fun _ _ h => h)
                    have hF1 := hk2.owns hF0 (fun _ _ h => h)
                    have hq1 := hq0.trans hk2.all
                    refine hK _ _ (till_one hs1) (fun hT => ?_)
                    try simp only [Act.put, List.setIfInBounds_toArray, List.set_cons_zero, List.set_cons_succ]
                    refine wpAnyG_ready (rs := [3]) (by kernel_rfl) (by simp) ?_
                    refine AllReadyG.cons (o := ⟨some 105, Op.buildSlice 24 1 #[(0, Operand.tmp 104)], _, _, _, none⟩) rfl (fun K hK => ?_) ?_
                    · skip
                      refine step_of rfl (wp_build1 elem_floats (.tmp 104) rfl (.float .f64 b) rfl rfl (fun b1 W2 hb1 he1 hl1 hk1 => ?_))
                      have hs2 := hs1.keep hk1 id
                      have hR2 := hk1.owns hR1 (fun _ _ h => h)
                      have hF2 := hk1.owns hF1 (fun _ _ h => h)
                      have hq2 := hq1.trans hk1.all
                      replace hb2 := hk1.heap hb2 id
                      refine hK _ _ (till_one hs2) (fun hT => ?_)
                      try simp only [Act.put, List.setIfInBounds_toArray, List.set_cons_zero, List.set_cons_succ]
                      refine wpAnyG_ready (rs := [4]) (by kernel_rfl) (by simp) ?_
                      refine AllReadyG.cons (o := ⟨some 106, Op.call { callee := Callee.builtin Builtin.append, args := #[Operand.tmp 103, Operand.tmp 105], argTypes := #[24, 24] }, _, _, _, none⟩) rfl (fun K hK => ?_) ?_
                      · skip
                        have hz2 := hq2.size
                        refine step_of rfl (wp_append1 elem_floats (.tmp 103) (.tmp 105) rfl (w.heap.size + 3) pv pb.length _ rfl hR2 b1 (.float .f64 b) rfl hb1 rfl (by omega) (by decide) (by omega) (fun g4 c4 W3 hR3 hk4 ho4 hl4 => ?_))
                        have hs3 := hs2.keep hk4 HN1.out
                        have hF3 := hk4.owns hF2 (fun g hg1 hg2 => owns_apart hR2 hF2 (by decide) g hg2 hg1)
                        have hq3 := hq2.trans (hk4.wide fun _ _ h => .inr (.inl h))
                        replace hb2 := hk4.heap hb2 (fun h => by have := HLT.out _ h; have hdz : w2.drew.heap.size = w2.heap.size := rfl; omega)
                        refine hK _ _ (till_one hs3) (fun hT => ?_)
                        try simp only [Act.put, List.setIfInBounds_toArray, List.set_cons_zero, List.set_cons_succ]
                        refine wpAnyG_takeW (i := 12) (oi := ⟨some 114, Op.fieldAddr 79 (Operand.tmp 8) 2, _, _, _, none⟩) (v := ?_) rfl (by kernel_rfl) (by kernel_rfl) (by kernel_rfl) (by kernel_rfl) (fun _ _ _ h => h) hT rfl ?_ (fun hT => ?_)
                        rotate_left
                        · intro wq; go_simp; rfl
                        simp only [Act.put, List.setIfInBounds_toArray, List.set_cons_zero, List.set_cons_succ]
                        refine wpAnyG_ready (rs := [11]) (by kernel_rfl) (by simp) ?_
                        refine AllReadyG.cons (o := ⟨some 113, Op.call { callee := Callee.builtin Builtin.append, args := #[Operand.tmp 108, Operand.tmp 112], argTypes := #[77, 77] }, _, _, _, none⟩) rfl (fun K hK => ?_) ?_
                        · skip
                          have hz3 := hq3.size
                          refine step_of rfl (wp_append1 elem_bools (.tmp 108) (.tmp 112) rfl (w.heap.size + 3) ov s.odd.length _ rfl hF3 b2 (.bool ((p : Int) != (c : Int))) rfl hb2 rfl (by omega) (by decide) (by omega) (fun g9 c9 W4 hF4 hk9 ho9 hl9 => ?_))
                          have hs4 := hs3.keep hk9 HN2.out
                          have hR4 := hk9.owns hR3 (fun g hg1 hg2 => owns_apart hR3 hF3 (by decide) g hg1 hg2)
                          have hq4 := hq3.trans (hk9.wide fun _ _ h => .inr (.inr h))
                          refine hK _ _ (till_one hs4) (fun hT => ?_)
                          try simp only [Act.put, List.setIfInBounds_toArray, List.set_cons_zero, List.set_cons_succ]
                          refine wpAnyG_ready (rs := [13]) (by kernel_rfl) (by simp) ?_
                          refine AllReadyG.cons (o := ⟨none, Op.store 24 (Operand.tmp 114) (Operand.tmp 106), _, _, _, none⟩) rfl (fun K hK => ?_) ?_
                          · skip
                            obtain ⟨q0, q1, q2, q3⟩ := hs4.cells
                            have z0 := hs4.free 0
                            have z1 := hs4.free 1
                            have z2 := hs4.free 2
                            have z3 := hs4.free 3
                            go_simp
                            refine hK _ _ (till_past rfl) (fun hT => ?_)
                            try simp only [Act.put, List.setIfInBounds_toArray, List.set_cons_zero, List.set_cons_succ]
                            refine wpAnyG_takeW (i := 14) (oi := ⟨some 115, Op.fieldAddr 79 (Operand.tmp 8) 3, _, _, _, none⟩) (v := ?_) rfl (by kernel_rfl) (by kernel_rfl) (by kernel_rfl) (by kernel_rfl) (fun _ _ _ h => h) hT rfl ?_ (fun hT => ?_)
                            rotate_left
                            · intro wq; go_simp; rfl
                            simp only [Act.put, List.setIfInBounds_toArray, List.set_cons_zero, List.set_cons_succ]
                            refine wpAnyG_ready (rs := [15]) (by kernel_rfl) (by simp) ?_
                            refine AllReadyG.cons (o := ⟨none, Op.store 77 (Operand.tmp 115) (Operand.tmp 113), _, _, _, none⟩) rfl (fun K hK => ?_) ?_
                            · skip
                              go_simp
                              refine hK _ _ (till_past rfl) (fun hT => ?_)
                              try simp only [Act.put, List.setIfInBounds_toArray, List.set_cons_zero, List.set_cons_succ]
                              refine wpAnyG_done (by kernel_rfl) ?_ _
                              have HX := Lib.hid (HL3.out.note hwb HFB.out pb HPB.out hs4 hR4 (ho4.elim (fun h => .inl (by rw [h]; rfl)) (fun h => .inr ⟨g4, rfl, by omega⟩)) hF4 hq4)
                              clear hs4 hR4 hF4 hq4
                              go_wp2_with fail
                              go_meet
                              exact ⟨_, _, HX.out⟩
                            exact AllReadyG.nil
                          exact AllReadyG.nil
                        exact AllReadyG.nil
                      exact AllReadyG.nil
                    exact AllReadyG.nil
                  exact AllReadyG.nil
              case rest =>
                obtain ⟨pv', ov', HX⟩ := hcut
                clear HL3 e1 e4 qs0 qs1 qs2 qs3
                obtain ⟨qb0, qb1, qb2, qb3⟩ := HX.box.cells
                obtain ⟨qs0, qs1, qs2, qs3⟩ := HX.sys.cells
                obtain ⟨qr0, qr1, qr2, qr3⟩ := HX.res.cells
                have z0 := HX.res.free 0
                have z1 := HX.res.free 1
                have z2 := HX.res.free 2
                have z3 := HX.res.free 3
                obtain ⟨hsp, hso⟩ := HX.sat.ones
                have HL4 := Lib.hid HX
                clear HX
                cases hz : (FloatKind.f64.format.order b 0 == some Ordering.eq)
                · cases hf : finB b
                  · have HRES : Hid (stepsS n (M0 rows rhs) = ({ s with piv := s.piv ++ [s.M p c], odd := s.odd ++ [(p : Int) != (c : Int)] }, false)) := by
                      have h1 := goS_bad hcn (show bad (s.M (pick n s.M c) c) = true by rw [HP.out, bad_bits HFB.out, hz, hf]; rfl)
                      unfold Hid
                      rw [← HG.out, h1, noteS, HP.out, int_bne]
                    go_wp2_with (go_at_call 43; refine (finite_any _ _ hwb).mono ?_; rintro e w' ⟨rfl, rfl⟩)
                    exact bodyPost_ret (v := .tuple #[.agg #[.slice (some ⟨gr, 0, none⟩) n cr, .slice (some ⟨gf, 0, none⟩) n cf, pv', ov'], .bool false]) (by simp [results, Try.results42, go_sem, *]) rfl ⟨R, _, _, _, _, by rw [HRES.out], HL4.out.filled.1, by rw [HRES.out]; exact HL4.out.filled.2⟩
                  · -- a pivot that may be
                    have HGO : Hid (goS n (n - c) c s = goS n (n - (c + 1)) (c + 1) (stepS n c s)) := goS_good hcn (by rw [HP.out, bad_bits HFB.out, hz, hf]; rfl)
                    go_upto_region 25 with (go_at_call 43; refine (finite_any _ _ hwb).mono ?_; rintro e w' ⟨rfl, rfl⟩)
                    clear qb0 qb1 qb2 qb3 qs0 qs1 qs2 qs3 qr0 qr1 qr2 qr3 z0 z1 z2 z3 hsp hso
                    have i7 : (c : Int) < (n : Int) := by omega
                    have hgb : w.heap.size + 3 ≤ gr := (HL4.out.sat.ownR.lt gr rfl).1
                    have hgf : w.heap.size + 3 ≤ gf := (HL4.out.sat.ownF.lt gf rfl).1
                    have hJr : ¬ Just1 gr (w.heap.size + 2) := by unfold Just1; omega
                    have hJf : ¬ Just1 gf (w.heap.size + 2) := by unfold Just1; omega
                    go_cut [] (fun wx => L2 w.heap.size n (swapM R c p) { s with M := swapM s.M c p, piv := s.piv ++ [s.M p c], odd := s.odd ++ [(p : Int) != (c : Int)] } (.slice (some ⟨gr, 0, none⟩) n cr) (.slice (some ⟨gf, 0, none⟩) n cf) pv' ov' w wx)
                    case first =>
                      obtain ⟨f1, f2⟩ := HL4.out.sat.rowCell (i := c) hcn
                      obtain ⟨f3, f4⟩ := HL4.out.sat.rowCell (i := p) hpk2
                      have hA0 : SysB wc.drew (w.heap.size + 2) (.slice (some ⟨gr, 0, none⟩) n cr) (.slice (some ⟨gf, 0, none⟩) n cf) pv' ov' := HL4.out.sys
                      have hB0 : wc.drew.cell? ⟨gr, p, none⟩ = some (.slice (some ⟨R p, 0, none⟩) (n + 1) (n + 1)) ∧ wc.drew.cell? ⟨gr, c, none⟩ = some (.slice (some ⟨R c, 0, none⟩) (n + 1) (n + 1)) := ⟨f3, f1⟩
                      have HA0 := Lib.hid hA0
                      have HB0 := Lib.hid hB0
                      clear hA0 hB0
                      as_aux_lemma =>
                        refine wp_region_till [(fun w' : World => SysB w' (w.heap.size + 2) (.slice (some ⟨gr, 0, none⟩) n cr) (.slice (some ⟨gf, 0, none⟩) n cf) pv' ov', some 19), (fun w' : World => w'.cell? ⟨gr, p, none⟩ = some (.slice (some ⟨R p, 0, none⟩) (n + 1) (n + 1)) ∧ w'.cell? ⟨gr, c, none⟩ = some (.slice (some ⟨R c, 0, none⟩) (n + 1) (n + 1)), some 17)] (by kernel_rfl) ?_ (fun hT => ?_)
                        · exact till_two (fun _ => HA0.out) (fun _ => HB0.out)
                        refine wpAnyG_takeW (i := 0) (oi := ⟨some 126, Op.fieldAddr 79 (Operand.tmp 8) 0, _, _, _, none⟩) (v := ?_) rfl (by kernel_rfl) (by kernel_rfl) (by kernel_rfl) (by kernel_rfl) (fun _ _ _ h => h) hT rfl ?_ (fun hT => ?_)
                        rotate_left
                        · intro wq; go_simp; rfl
                        simp only [Act.put, List.setIfInBounds_toArray, List.set_cons_zero, List.set_cons_succ]
                        refine wpAnyG_take (fun w' : World => SysB w' (w.heap.size + 2) (.slice (some ⟨gr, 0, none⟩) n cr) (.slice (some ⟨gf, 0, none⟩) n cf) pv' ov', some 19) (i := 1) (oi := ⟨some 127, Op.load 23 (Operand.tmp 126), _, _, _, none⟩) (v := ?_) rfl (by kernel_rfl) (by kernel_rfl) (by kernel_rfl) (by kernel_rfl) (by kernel_rfl) (by kernel_rfl) (by simp) (fun _ _ _ h => h) hT rfl ?_ (fun hT => ?_)
                        rotate_left
                        · intro wq hSw; obtain ⟨c0, c1, c2, c3⟩ := hSw.cells; go_simp; rfl
                        simp only [Act.put, List.setIfInBounds_toArray, List.set_cons_zero, List.set_cons_succ]
                        refine wpAnyG_takeW (i := 2) (oi := ⟨some 128, Op.move (Operand.tmp 13), _, _, _, none⟩) (v := ?_) rfl (by kernel_rfl) (by kernel_rfl) (by kernel_rfl) (by kernel_rfl) (fun _ _ _ h => h) hT rfl ?_ (fun hT => ?_)
                        rotate_left
                        · intro wq; go_simp; rfl
                        simp only [Act.put, List.setIfInBounds_toArray, List.set_cons_zero, List.set_cons_succ]
                        refine wpAnyG_takeW (i := 3) (oi := ⟨some 129, Op.fieldAddr 79 (Operand.tmp 8) 0, _, _, _, none⟩) (v := ?_) rfl (by kernel_rfl) (by kernel_rfl) (by kernel_rfl) (by kernel_rfl) (fun _ _ _ h => h) hT rfl ?_ (fun hT => ?_)
                        rotate_left
                        · intro wq; go_simp; rfl
                        simp only [Act.put, List.setIfInBounds_toArray, List.set_cons_zero, List.set_cons_succ]
                        refine wpAnyG_take (fun w' : World => SysB w' (w.heap.size + 2) (.slice (some ⟨gr, 0, none⟩) n cr) (.slice (some ⟨gf, 0, none⟩) n cf) pv' ov', some 19) (i := 4) (oi := ⟨some 130, Op.load 23 (Operand.tmp 129), _, _, _, none⟩) (v := ?_) rfl (by kernel_rfl) (by kernel_rfl) (by kernel_rfl) (by kernel_rfl) (by kernel_rfl) (by kernel_rfl) (by simp) (fun _ _ _ h => h) hT rfl ?_ (fun hT => ?_)
                        rotate_left
                        · intro wq hSw; obtain ⟨c0, c1, c2, c3⟩ := hSw.cells; go_simp; rfl
                        simp only [Act.put, List.setIfInBounds_toArray, List.set_cons_zero, List.set_cons_succ]
                        refine wpAnyG_takeW (i := 5) (oi := ⟨some 131, Op.move (Operand.tmp 14), _, _, _, none⟩) (v := ?_) rfl (by kernel_rfl) (by kernel_rfl) (by kernel_rfl) (by kernel_rfl) (fun _ _ _ h => h) hT rfl ?_ (fun hT => ?_)
                        rotate_left
                        · intro wq; go_simp; rfl
                        simp only [Act.put, List.setIfInBounds_toArray, List.set_cons_zero, List.set_cons_succ]
                        refine wpAnyG_takeW (i := 6) (oi := ⟨some 132, Op.fieldAddr 79 (Operand.tmp 8) 0, _, _, _, none⟩) (v := ?_) rfl (by kernel_rfl) (by kernel_rfl) (by kernel_rfl) (by kernel_rfl) (fun _ _ _ h => h) hT rfl ?_ (fun hT => ?_)
                        rotate_left
                        · intro wq; go_simp; rfl
                        simp only [Act.put, List.setIfInBounds_toArray, List.set_cons_zero, List.set_cons_succ]
                        refine wpAnyG_take (fun w' : World => SysB w' (w.heap.size + 2) (.slice (some ⟨gr, 0, none⟩) n cr) (.slice (some ⟨gf, 0, none⟩) n cf) pv' ov', some 19) (i := 7) (oi := ⟨some 133, Op.load 23 (Operand.tmp 132), _, _, _, none⟩) (v := ?_) rfl (by kernel_rfl) (by kernel_rfl) (by kernel_rfl) (by kernel_rfl) (by kernel_rfl) (by kernel_rfl) (by simp) (fun _ _ _ h => h) hT rfl ?_ (fun hT => ?_)
                        rotate_left
                        · intro wq hSw; obtain ⟨c0, c1, c2, c3⟩ := hSw.cells; go_simp; rfl
                        simp only [Act.put, List.setIfInBounds_toArray, List.set_cons_zero, List.set_cons_succ]
                        refine wpAnyG_takeW (i := 8) (oi := ⟨some 134, Op.move (Operand.tmp 14), _, _, _, none⟩) (v := ?_) rfl (by kernel_rfl) (by kernel_rfl) (by kernel_rfl) (by kernel_rfl) (fun _ _ _ h => h) hT rfl ?_ (fun hT => ?_)
                        rotate_left
                        · intro wq; go_simp; rfl
                        simp only [Act.put, List.setIfInBounds_toArray, List.set_cons_zero, List.set_cons_succ]
                        refine wpAnyG_takeW (i := 9) (oi := ⟨some 135, Op.indexAddr 23 (Operand.tmp 133) (Operand.tmp 134), _, _, _, none⟩) (v := ?_) rfl (by kernel_rfl) (by kernel_rfl) (by kernel_rfl) (by kernel_rfl) (fun _ _ _ h => h) hT rfl ?_ (fun hT => ?_)
                        rotate_left
                        · intro wq; go_simp; rfl
                        simp only [Act.put, List.setIfInBounds_toArray, List.set_cons_zero, List.set_cons_succ]
                        refine wpAnyG_take (fun w' : World => w'.cell? ⟨gr, p, none⟩ = some (.slice (some ⟨R p, 0, none⟩) (n + 1) (n + 1)) ∧ w'.cell? ⟨gr, c, none⟩ = some (.slice (some ⟨R c, 0, none⟩) (n + 1) (n + 1)), some 17) (i := 10) (oi := ⟨some 136, Op.load 24 (Operand.tmp 135), _, _, _, none⟩) (v := ?_) rfl (by kernel_rfl) (by kernel_rfl) (by kernel_rfl) (by kernel_rfl) (by kernel_rfl) (by kernel_rfl) (by simp) (fun _ _ _ h => h) hT rfl ?_ (fun hT => ?_)
                        rotate_left
                        · intro wq hSw; obtain ⟨d0, d1⟩ := hSw; go_simp; rfl
                        simp only [Act.put, List.setIfInBounds_toArray, List.set_cons_zero, List.set_cons_succ]
                        refine wpAnyG_takeW (i := 11) (oi := ⟨some 137, Op.fieldAddr 79 (Operand.tmp 8) 0, _, _, _, none⟩) (v := ?_) rfl (by kernel_rfl) (by kernel_rfl) (by kernel_rfl) (by kernel_rfl) (fun _ _ _ h => h) hT rfl ?_ (fun hT => ?_)
                        rotate_left
                        · intro wq; go_simp; rfl
                        simp only [Act.put, List.setIfInBounds_toArray, List.set_cons_zero, List.set_cons_succ]
                        refine wpAnyG_take (fun w' : World => SysB w' (w.heap.size + 2) (.slice (some ⟨gr, 0, none⟩) n cr) (.slice (some ⟨gf, 0, none⟩) n cf) pv' ov', some 19) (i := 12) (oi := ⟨some 138, Op.load 23 (Operand.tmp 137), _, _, _, none⟩) (v := ?_) rfl (by kernel_rfl) (by kernel_rfl) (by kernel_rfl) (by kernel_rfl) (by kernel_rfl) (by kernel_rfl) (by simp) (fun _ _ _ h => h) hT rfl ?_ (fun hT => ?_)
                        rotate_left
                        · intro wq hSw; obtain ⟨c0, c1, c2, c3⟩ := hSw.cells; go_simp; rfl
                        simp only [Act.put, List.setIfInBounds_toArray, List.set_cons_zero, List.set_cons_succ]
                        refine wpAnyG_takeW (i := 13) (oi := ⟨some 139, Op.move (Operand.tmp 13), _, _, _, none⟩) (v := ?_) rfl (by kernel_rfl) (by kernel_rfl) (by kernel_rfl) (by kernel_rfl) (fun _ _ _ h => h) hT rfl ?_ (fun hT => ?_)
                        rotate_left
                        · intro wq; go_simp; rfl
                        simp only [Act.put, List.setIfInBounds_toArray, List.set_cons_zero, List.set_cons_succ]
                        refine wpAnyG_takeW (i := 14) (oi := ⟨some 140, Op.indexAddr 23 (Operand.tmp 138) (Operand.tmp 139), _, _, _, none⟩) (v := ?_) rfl (by kernel_rfl) (by kernel_rfl) (by kernel_rfl) (by kernel_rfl) (fun _ _ _ h => h) hT rfl ?_ (fun hT => ?_)
                        rotate_left
                        · intro wq; go_simp; rfl
                        simp only [Act.put, List.setIfInBounds_toArray, List.set_cons_zero, List.set_cons_succ]
                        refine wpAnyG_take (fun w' : World => w'.cell? ⟨gr, p, none⟩ = some (.slice (some ⟨R p, 0, none⟩) (n + 1) (n + 1)) ∧ w'.cell? ⟨gr, c, none⟩ = some (.slice (some ⟨R c, 0, none⟩) (n + 1) (n + 1)), some 17) (i := 15) (oi := ⟨some 141, Op.load 24 (Operand.tmp 140), _, _, _, none⟩) (v := ?_) rfl (by kernel_rfl) (by kernel_rfl) (by kernel_rfl) (by kernel_rfl) (by kernel_rfl) (by kernel_rfl) (by simp) (fun _ _ _ h => h) hT rfl ?_ (fun hT => ?_)
                        rotate_left
                        · intro wq hSw; obtain ⟨d0, d1⟩ := hSw; go_simp; rfl
                        simp only [Act.put, List.setIfInBounds_toArray, List.set_cons_zero, List.set_cons_succ]
                        refine wpAnyG_takeW (i := 16) (oi := ⟨some 142, Op.indexAddr 23 (Operand.tmp 127) (Operand.tmp 128), _, _, _, none⟩) (v := ?_) rfl (by kernel_rfl) (by kernel_rfl) (by kernel_rfl) (by kernel_rfl) (fun _ _ _ h => h) hT rfl ?_ (fun hT => ?_)
                        rotate_left
                        · intro wq; go_simp; rfl
                        simp only [Act.put, List.setIfInBounds_toArray, List.set_cons_zero, List.set_cons_succ]
                        refine wpAnyG_ready (rs := [17]) (by kernel_rfl) (by simp) ?_
                        refine AllReadyG.cons (o := ⟨none, Op.store 24 (Operand.tmp 142) (Operand.tmp 136), _, _, _, none⟩) rfl (fun K hK => ?_) ?_
                        · skip
                          go_simp
                          refine hK _ _ (till_two (fun _ => ?_) (fun h => Bool.noConfusion (show true = false from h))) (fun hT => ?_)
                          · exact SysB.keep (w := wc) (w' := wc.setCell ⟨gr, c, none⟩ (.slice (some ⟨R p, 0, none⟩) (n + 1) (n + 1))) HL4.out.sys (Keep.setCell wc ⟨gr, c, none⟩ _) hJr
                          try simp only [Act.put, List.setIfInBounds_toArray, List.set_cons_zero, List.set_cons_succ]
                          refine wpAnyG_takeW (i := 18) (oi := ⟨some 143, Op.indexAddr 23 (Operand.tmp 130) (Operand.tmp 131), _, _, _, none⟩) (v := ?_) rfl (by kernel_rfl) (by kernel_rfl) (by kernel_rfl) (by kernel_rfl) (fun _ _ _ h => h) hT rfl ?_ (fun hT => ?_)
                          rotate_left
                          · intro wq; go_simp; rfl
                          simp only [Act.put, List.setIfInBounds_toArray, List.set_cons_zero, List.set_cons_succ]
                          refine wpAnyG_ready (rs := [19]) (by kernel_rfl) (by simp) ?_
                          refine AllReadyG.cons (o := ⟨none, Op.store 24 (Operand.tmp 143) (Operand.tmp 141), _, _, _, none⟩) rfl (fun K hK => ?_) ?_
                          · skip
                            obtain ⟨v2, hv2⟩ := setCell_some (w := wc) (p := ⟨gr, c, none⟩) (x := .slice (some ⟨R p, 0, none⟩) (n + 1) (n + 1)) (q := ⟨gr, p, none⟩) f3
                            go_simp
                            refine hK _ _ (till_two (fun h => Bool.noConfusion (show true = false from h)) (fun h => Bool.noConfusion (show true = false from h))) (fun hT => ?_)
                            try simp only [Act.put, List.setIfInBounds_toArray, List.set_cons_zero, List.set_cons_succ]
                            refine wpAnyG_done (by kernel_rfl) ?_ _
                            go_wp2_with fail
                            go_meet
                            exact (HL4.out.swapR hcn hpk2).drewN 1
                          exact AllReadyG.nil
                        exact AllReadyG.nil
                    case rest =>
                      have HL5 := Lib.hid hcut
                      clear hcut HL4
                      obtain ⟨w5, rfl⟩ : ∃ w5 : World, w5 = wc := ⟨_, rfl⟩
                      go_upto_region 26 with fail
                      go_cut [] (fun wx => L2 w.heap.size n (swapM R c p) { s with M := swapM s.M c p, first := swapM s.first c p, piv := s.piv ++ [s.M p c], odd := s.odd ++ [(p : Int) != (c : Int)] } (.slice (some ⟨gr, 0, none⟩) n cr) (.slice (some ⟨gf, 0, none⟩) n cf) pv' ov' w wx)
                      case first =>
                        obtain ⟨f1, f2⟩ := HL5.out.sat.firstCell (i := c) hcn
                        obtain ⟨f3, f4⟩ := HL5.out.sat.firstCell (i := p) hpk2
                        dsimp only at f1 f3
                        have hA0 : SysB w5.drew (w.heap.size + 2) (.slice (some ⟨gr, 0, none⟩) n cr) (.slice (some ⟨gf, 0, none⟩) n cf) pv' ov' := HL5.out.sys
                        have hB0 : w5.drew.cell? ⟨gf, p, none⟩ = some (.int .i64 (s.first p : Nat)) ∧ w5.drew.cell? ⟨gf, c, none⟩ = some (.int .i64 (s.first c : Nat)) := ⟨f3, f1⟩
                        have HA0 := Lib.hid hA0
                        have HB0 := Lib.hid hB0
                        clear hA0 hB0
                        as_aux_lemma =>
                          refine wp_region_till [(fun w' : World => SysB w' (w.heap.size + 2) (.slice (some ⟨gr, 0, none⟩) n cr) (.slice (some ⟨gf, 0, none⟩) n cf) pv' ov', some 19), (fun w' : World => w'.cell? ⟨gf, p, none⟩ = some (.int .i64 (s.first p : Nat)) ∧ w'.cell? ⟨gf, c, none⟩ = some (.int .i64 (s.first c : Nat)), some 17)] (by kernel_rfl) ?_ (fun hT => ?_)
                          · exact till_two (fun _ => HA0.out) (fun _ => HB0.out)
                          refine wpAnyG_takeW (i := 0) (oi := ⟨some 144, Op.fieldAddr 79 (Operand.tmp 8) 1, _, _, _, none⟩) (v := ?_) rfl (by kernel_rfl) (by kernel_rfl) (by kernel_rfl) (by kernel_rfl) (fun _ _ _ h => h) hT rfl ?_ (fun hT => ?_)
                          rotate_left
                          · intro wq; go_simp; rfl
                          simp only [Act.put, List.setIfInBounds_toArray, List.set_cons_zero, List.set_cons_succ]
                          refine wpAnyG_take (fun w' : World => SysB w' (w.heap.size + 2) (.slice (some ⟨gr, 0, none⟩) n cr) (.slice (some ⟨gf, 0, none⟩) n cf) pv' ov', some 19) (i := 1) (oi := ⟨some 145, Op.load 29 (Operand.tmp 144), _, _, _, none⟩) (v := ?_) rfl (by kernel_rfl) (by kernel_rfl) (by kernel_rfl) (by kernel_rfl) (by kernel_rfl) (by kernel_rfl) (by simp) (fun _ _ _ h => h) hT rfl ?_ (fun hT => ?_)
                          rotate_left
                          · intro wq hSw; obtain ⟨c0, c1, c2, c3⟩ := hSw.cells; go_simp; rfl
                          simp only [Act.put, List.setIfInBounds_toArray, List.set_cons_zero, List.set_cons_succ]
                          refine wpAnyG_takeW (i := 2) (oi := ⟨some 146, Op.move (Operand.tmp 13), _, _, _, none⟩) (v := ?_) rfl (by kernel_rfl) (by kernel_rfl) (by kernel_rfl) (by kernel_rfl) (fun _ _ _ h => h) hT rfl ?_ (fun hT => ?_)
                          rotate_left
                          · intro wq; go_simp; rfl
                          simp only [Act.put, List.setIfInBounds_toArray, List.set_cons_zero, List.set_cons_succ]
                          refine wpAnyG_takeW (i := 3) (oi := ⟨some 147, Op.fieldAddr 79 (Operand.tmp 8) 1, _, _, _, none⟩) (v := ?_) rfl (by kernel_rfl) (by kernel_rfl) (by kernel_rfl) (by kernel_rfl) (fun _ _ _ h => h) hT rfl ?_ (fun hT => ?_)
                          rotate_left
                          · intro wq; go_simp; rfl
                          simp only [Act.put, List.setIfInBounds_toArray, List.set_cons_zero, List.set_cons_succ]
                          refine wpAnyG_take (fun w' : World => SysB w' (w.heap.size + 2) (.slice (some ⟨gr, 0, none⟩) n cr) (.slice (some ⟨gf, 0, none⟩) n cf) pv' ov', some 19) (i := 4) (oi := ⟨some 148, Op.load 29 (Operand.tmp 147), _, _, _, none⟩) (v := ?_) rfl (by kernel_rfl) (by kernel_rfl) (by kernel_rfl) (by kernel_rfl) (by kernel_rfl) (by kernel_rfl) (by simp) (fun _ _ _ h => h) hT rfl ?_ (fun hT => ?_)
                          rotate_left
                          · intro wq hSw; obtain ⟨c0, c1, c2, c3⟩ := hSw.cells; go_simp; rfl
                          simp only [Act.put, List.setIfInBounds_toArray, List.set_cons_zero, List.set_cons_succ]
                          refine wpAnyG_takeW (i := 5) (oi := ⟨some 149, Op.move (Operand.tmp 14), _, _, _, none⟩) (v := ?_) rfl (by kernel_rfl) (by kernel_rfl) (by kernel_rfl) (by kernel_rfl) (fun _ _ _ h => h) hT rfl ?_ (fun hT => ?_)
                          rotate_left
                          · intro wq; go_simp; rfl
                          simp only [Act.put, List.setIfInBounds_toArray, List.set_cons_zero, List.set_cons_succ]
                          refine wpAnyG_takeW (i := 6) (oi := ⟨some 150, Op.fieldAddr 79 (Operand.tmp 8) 1, _, _, _, none⟩) (v := ?_) rfl (by kernel_rfl) (by kernel_rfl) (by kernel_rfl) (by kernel_rfl) (fun _ _ _ h => h) hT rfl ?_ (fun hT => ?_)
                          rotate_left
                          · intro wq; go_simp; rfl
                          simp only [Act.put, List.setIfInBounds_toArray, List.set_cons_zero, List.set_cons_succ]
                          refine wpAnyG_take (fun w' : World => SysB w' (w.heap.size + 2) (.slice (some ⟨gr, 0, none⟩) n cr) (.slice (some ⟨gf, 0, none⟩) n cf) pv' ov', some 19) (i := 7) (oi := ⟨some 151, Op.load 29 (Operand.tmp 150), _, _, _, none⟩) (v := ?_) rfl (by kernel_rfl) (by kernel_rfl) (by kernel_rfl) (by kernel_rfl) (by kernel_rfl) (by kernel_rfl) (by simp) (fun _ _ _ h => h) hT rfl ?_ (fun hT => ?_)
                          rotate_left
                          · intro wq hSw; obtain ⟨c0, c1, c2, c3⟩ := hSw.cells; go_simp; rfl
                          simp only [Act.put, List.setIfInBounds_toArray, List.set_cons_zero, List.set_cons_succ]
                          refine wpAnyG_takeW (i := 8) (oi := ⟨some 152, Op.move (Operand.tmp 14), _, _, _, none⟩) (v := ?_) rfl (by kernel_rfl) (by kernel_rfl) (by kernel_rfl) (by kernel_rfl) (fun _ _ _ h => h) hT rfl ?_ (fun hT => ?_)
                          rotate_left
                          · intro wq; go_simp; rfl
                          simp only [Act.put, List.setIfInBounds_toArray, List.set_cons_zero, List.set_cons_succ]
                          refine wpAnyG_takeW (i := 9) (oi := ⟨some 153, Op.indexAddr 29 (Operand.tmp 151) (Operand.tmp 152), _, _, _, none⟩) (v := ?_) rfl (by kernel_rfl) (by kernel_rfl) (by kernel_rfl) (by kernel_rfl) (fun _ _ _ h => h) hT rfl ?_ (fun hT => ?_)
                          rotate_left
                          · intro wq; go_simp; rfl
                          simp only [Act.put, List.setIfInBounds_toArray, List.set_cons_zero, List.set_cons_succ]
                          refine wpAnyG_take (fun w' : World => w'.cell? ⟨gf, p, none⟩ = some (.int .i64 (s.first p : Nat)) ∧ w'.cell? ⟨gf, c, none⟩ = some (.int .i64 (s.first c : Nat)), some 17) (i := 10) (oi := ⟨some 154, Op.load 3 (Operand.tmp 153), _, _, _, none⟩) (v := ?_) rfl (by kernel_rfl) (by kernel_rfl) (by kernel_rfl) (by kernel_rfl) (by kernel_rfl) (by kernel_rfl) (by simp) (fun _ _ _ h => h) hT rfl ?_ (fun hT => ?_)
                          rotate_left
                          · intro wq hSw; obtain ⟨d0, d1⟩ := hSw; go_simp; rfl
                          simp only [Act.put, List.setIfInBounds_toArray, List.set_cons_zero, List.set_cons_succ]
                          refine wpAnyG_takeW (i := 11) (oi := ⟨some 155, Op.fieldAddr 79 (Operand.tmp 8) 1, _, _, _, none⟩) (v := ?_) rfl (by kernel_rfl) (by kernel_rfl) (by kernel_rfl) (by kernel_rfl) (fun _ _ _ h => h) hT rfl ?_ (fun hT => ?_)
                          rotate_left
                          · intro wq; go_simp; rfl
                          simp only [Act.put, List.setIfInBounds_toArray, List.set_cons_zero, List.set_cons_succ]
                          refine wpAnyG_take (fun w' : World => SysB w' (w.heap.size + 2) (.slice (some ⟨gr, 0, none⟩) n cr) (.slice (some ⟨gf, 0, none⟩) n cf) pv' ov', some 19) (i := 12) (oi := ⟨some 156, Op.load 29 (Operand.tmp 155), _, _, _, none⟩) (v := ?_) rfl (by kernel_rfl) (by kernel_rfl) (by kernel_rfl) (by kernel_rfl) (by kernel_rfl) (by kernel_rfl) (by simp) (fun _ _ _ h => h) hT rfl ?_ (fun hT => ?_)
                          rotate_left
                          · intro wq hSw; obtain ⟨c0, c1, c2, c3⟩ := hSw.cells; go_simp; rfl
                          simp only [Act.put, List.setIfInBounds_toArray, List.set_cons_zero, List.set_cons_succ]
                          refine wpAnyG_takeW (i := 13) (oi := ⟨some 157, Op.move (Operand.tmp 13), _, _, _, none⟩) (v := ?_) rfl (by kernel_rfl) (by kernel_rfl) (by kernel_rfl) (by kernel_rfl) (fun _ _ _ h => h) hT rfl ?_ (fun hT => ?_)
                          rotate_left
                          · intro wq; go_simp; rfl
                          simp only [Act.put, List.setIfInBounds_toArray, List.set_cons_zero, List.set_cons_succ]
                          refine wpAnyG_takeW (i := 14) (oi := ⟨some 158, Op.indexAddr 29 (Operand.tmp 156) (Operand.tmp 157), _, _, _, none⟩) (v := ?_) rfl (by kernel_rfl) (by kernel_rfl) (by kernel_rfl) (by kernel_rfl) (fun _ _ _ h => h) hT rfl ?_ (fun hT => ?_)
                          rotate_left
                          · intro wq; go_simp; rfl
                          simp only [Act.put, List.setIfInBounds_toArray, List.set_cons_zero, List.set_cons_succ]
                          refine wpAnyG_take (fun w' : World => w'.cell? ⟨gf, p, none⟩ = some (.int .i64 (s.first p : Nat)) ∧ w'.cell? ⟨gf, c, none⟩ = some (.int .i64 (s.first c : Nat)), some 17) (i := 15) (oi := ⟨some 159, Op.load 3 (Operand.tmp 158), _, _, _, none⟩) (v := ?_) rfl (by kernel_rfl) (by kernel_rfl) (by kernel_rfl) (by kernel_rfl) (by kernel_rfl) (by kernel_rfl) (by simp) (fun _ _ _ h => h) hT rfl ?_ (fun hT => ?_)
                          rotate_left
                          · intro wq hSw; obtain ⟨d0, d1⟩ := hSw; go_simp; rfl
                          simp only [Act.put, List.setIfInBounds_toArray, List.set_cons_zero, List.set_cons_succ]
                          refine wpAnyG_takeW (i := 16) (oi := ⟨some 160, Op.indexAddr 29 (Operand.tmp 145) (Operand.tmp 146), _, _, _, none⟩) (v := ?_) rfl (by kernel_rfl) (by kernel_rfl) (by kernel_rfl) (by kernel_rfl) (fun _ _ _ h => h) hT rfl ?_ (fun hT => ?_)
                          rotate_left
                          · intro wq; go_simp; rfl
                          simp only [Act.put, List.setIfInBounds_toArray, List.set_cons_zero, List.set_cons_succ]
                          refine wpAnyG_ready (rs := [17]) (by kernel_rfl) (by simp) ?_
                          refine AllReadyG.cons (o := ⟨none, Op.store 3 (Operand.tmp 160) (Operand.tmp 154), _, _, _, none⟩) rfl (fun K hK => ?_) ?_
                          · skip
                            go_simp
                            refine hK _ _ (till_two (fun _ => ?_) (fun h => Bool.noConfusion (show true = false from h))) (fun hT => ?_)
                            · exact SysB.keep (w := w5) (w' := w5.setCell ⟨gf, c, none⟩ (.int .i64 (s.first p : Nat))) HL5.out.sys (Keep.setCell w5 ⟨gf, c, none⟩ _) hJf
                            try simp only [Act.put, List.setIfInBounds_toArray, List.set_cons_zero, List.set_cons_succ]
                            refine wpAnyG_takeW (i := 18) (oi := ⟨some 161, Op.indexAddr 29 (Operand.tmp 148) (Operand.tmp 149), _, _, _, none⟩) (v := ?_) rfl (by kernel_rfl) (by kernel_rfl) (by kernel_rfl) (by kernel_rfl) (fun _ _ _ h => h) hT rfl ?_ (fun hT => ?_)
                            rotate_left
                            · intro wq; go_simp; rfl
                            simp only [Act.put, List.setIfInBounds_toArray, List.set_cons_zero, List.set_cons_succ]
                            refine wpAnyG_ready (rs := [19]) (by kernel_rfl) (by simp) ?_
                            refine AllReadyG.cons (o := ⟨none, Op.store 3 (Operand.tmp 161) (Operand.tmp 159), _, _, _, none⟩) rfl (fun K hK => ?_) ?_
                            · skip
                              obtain ⟨v2, hv2⟩ := setCell_some (w := w5) (p := ⟨gf, c, none⟩) (x := .int .i64 (s.first p : Nat)) (q := ⟨gf, p, none⟩) f3
                              go_simp
                              refine hK _ _ (till_two (fun h => Bool.noConfusion (show true = false from h)) (fun h => Bool.noConfusion (show true = false from h))) (fun hT => ?_)
                              try simp only [Act.put, List.setIfInBounds_toArray, List.set_cons_zero, List.set_cons_succ]
                              refine wpAnyG_done (by kernel_rfl) ?_ _
                              go_wp2_with fail
                              go_meet
                              exact (HL5.out.swapF hcn hpk2).drewN 1
                            exact AllReadyG.nil
                          exact AllReadyG.nil
                      case rest =>
                        obtain ⟨w6, rfl⟩ : ∃ w6 : World, w6 = wc := ⟨_, rfl⟩
                        obtain ⟨S, hS⟩ : ∃ S, swapM s.M c p = S := ⟨_, rfl⟩
                        obtain ⟨R6, hR6⟩ : ∃ R6, swapM R c p = R6 := ⟨_, rfl⟩
                        obtain ⟨F6, hF6⟩ : ∃ F6, swapM s.first c p = F6 := ⟨_, rfl⟩
                        obtain ⟨P6, hP6⟩ : ∃ P6, s.piv ++ [s.M p c] = P6 := ⟨_, rfl⟩
                        obtain ⟨O6, hO6⟩ : ∃ O6, s.odd ++ [(p : Int) != (c : Int)] = O6 := ⟨_, rfl⟩
                        have HSTEP : Hid (stepS n c s = ⟨elimM n S c, F6, P6, O6⟩) := by
                          unfold Hid stepS noteS
                          rw [HP.out, ← hS, ← hF6, ← hP6, ← hO6, int_bne]
                        have HSB : Hid (fl b = S c c) := by
                          unfold Hid
                          rw [HFB.out, ← hS]
                          show _ = s.M (sw c p c) c
                          rw [sw_left]
                        have HLEN : Hid (O6.length = c + 1 ∧ P6.length = c + 1) := by
                          rw [← hO6, ← hP6]
                          have h1 := HO.out
                          constructor
                          · rw [List.length_append, h1.1]; rfl
                          · rw [List.length_append, h1.2]; rfl
                        have HL6 : Hid (L2 w.heap.size n R6 ⟨S, F6, P6, O6⟩ (.slice (some ⟨gr, 0, none⟩) n cr) (.slice (some ⟨gf, 0, none⟩) n cf) pv' ov' w w6) := by
                          rw [← hS, ← hR6, ← hF6, ← hP6, ← hO6]; exact hcut
                        clear hcut hS hR6 hF6 hP6 hO6 HFB HP HO HL5 hJr hJf hz hf hpk1 hpk2 i3 i4
                        go_upto_region 27 with fail
                        go_cut [166, 167, 168] (fun v l q wx => wx = w6 ∧ ∃ A C, v = .slice A (n - (c + 1)) C ∧ l = .int .i64 (n - (c + 1) : Nat) ∧ q = .int .i64 0 ∧ (c + 1 < n → A = some ⟨gr, c + 1, none⟩))
                        case first =>
                          obtain ⟨qs0, qs1, qs2, qs3⟩ := HL6.out.sys.cells
                          have i8 : (c : Int) + 1 ≤ (n : Int) := by omega
                          have i9 : (0 : Int) ≤ (c : Int) + 1 := by omega
                          by_cases hcap : cr = c + 1
                          · go_wp2_with fail
                            go_meet
                            exact ⟨rfl, _, _, rfl, rfl, rfl, fun h => by omega⟩
                          · go_wp2_with fail
                            go_meet
                            exact ⟨rfl, _, _, rfl, rfl, rfl, fun _ => rfl⟩
                        case rest =>
                          obtain ⟨rfl, A, C, rfl, rfl, rfl, hadr⟩ := hcut
                          have HADR := Lib.hid hadr
                          clear hadr
                          go_wp2_with fail
                          go_loopw [168] (fun q wr => ∃ k : Nat, k ≤ n - (c + 1) ∧ q = .int .i64 k ∧ L2 w.heap.size n R6 ⟨part n S c (c + 1 + k) (c + 1), F6, P6, O6⟩ (.slice (some ⟨gr, 0, none⟩) n cr) (.slice (some ⟨gf, 0, none⟩) n cf) pv' ov' w wr) (fun q _ => (n - (c + 1)) - (intOf q).toNat)
                          case atStart => exact ⟨0, Nat.zero_le _, rfl, by rw [show c + 1 + 0 = c + 1 from rfl, part_start]; exact HL6.out⟩
                          case round =>
                            clear HL6
                            obtain ⟨k, hk, rfl, HX⟩ := hrel
                            by_cases hlt : k < n - (c + 1)
                            · have hA := HADR.out (by omega)
                              subst hA
                              obtain ⟨i, hi⟩ : ∃ i, c + 1 + k = i := ⟨_, rfl⟩
                              have e1 := (HX.sat.rowCell (i := c + 1 + k) (by omega)).1
                              rw [show R6 (c + 1 + k) = R6 i by rw [hi]] at e1
                              rw [hi] at HX
                              have hci : c < i := by omega
                              have hin : i < n := by omega
                              have HIK := Lib.hid hi
                              clear hi
                              obtain ⟨b1, e2, _, hw1, hf1⟩ := HX.sat.num (i := i) (j := c) hin (by omega)
                              have HF1 : Hid (fl b1 = S i c) := by unfold Hid; rw [hf1]; exact part_col n S
                              obtain ⟨qb0, qb1, qb2, qb3⟩ := HX.box.cells
                              have i10 : (0 : Int) ≤ (k : Int) := by omega
                              have i11 : (k : Int) < ((n - (c + 1) : Nat) : Int) := by omega
                              have HL7 := Lib.hid HX
                              clear HX hf1
                              obtain ⟨w7, rfl⟩ : ∃ w7 : World, w7 = wr := ⟨_, rfl⟩
                              go_upto_region 30 with fail
                              as_aux_lemma =>
                                refine wp_region_till [(fun w' : World => ∃ m, w' = World.drewN w7 m, none)] (by kernel_rfl) ?_ (fun hT => ?_)
                                · exact till_one ⟨1, rfl⟩
                                refine wpAnyG_takeW (i := 0) (oi := ⟨some 172, Op.fieldAddr 74 (Operand.tmp 3) 1, _, _, _, none⟩) (v := ?_) rfl (by kernel_rfl) (by kernel_rfl) (by kernel_rfl) (by kernel_rfl) (fun _ _ _ h => h) hT rfl ?_ (fun hT => ?_)
                                rotate_left
                                · intro wq; go_simp; rfl
                                simp only [Act.put, List.setIfInBounds_toArray, List.set_cons_zero, List.set_cons_succ]
                                refine wpAnyG_take (fun w' : World => ∃ m, w' = World.drewN w7 m, none) (i := 1) (oi := ⟨some 173, Op.load 70 (Operand.tmp 172), _, _, _, none⟩) (v := ?_) rfl (by kernel_rfl) (by kernel_rfl) (by kernel_rfl) (by kernel_rfl) (by kernel_rfl) (by kernel_rfl) (by simp) (fun _ _ _ h => h) hT rfl ?_ (fun hT => ?_)
                                rotate_left
                                · intro wq hSw; obtain ⟨mw, rfl⟩ := hSw; go_simp; rfl
                                simp only [Act.put, List.setIfInBounds_toArray, List.set_cons_zero, List.set_cons_succ]
                                refine wpAnyG_takeW (i := 2) (oi := ⟨some 174, Op.move (Operand.tmp 18), _, _, _, none⟩) (v := ?_) rfl (by kernel_rfl) (by kernel_rfl) (by kernel_rfl) (by kernel_rfl) (fun _ _ _ h => h) hT rfl ?_ (fun hT => ?_)
                                rotate_left
                                · intro wq; go_simp; rfl
                                simp only [Act.put, List.setIfInBounds_toArray, List.set_cons_zero, List.set_cons_succ]
                                refine wpAnyG_takeW (i := 3) (oi := ⟨some 175, Op.move (Operand.tmp 13), _, _, _, none⟩) (v := ?_) rfl (by kernel_rfl) (by kernel_rfl) (by kernel_rfl) (by kernel_rfl) (fun _ _ _ h => h) hT rfl ?_ (fun hT => ?_)
                                rotate_left
                                · intro wq; go_simp; rfl
                                simp only [Act.put, List.setIfInBounds_toArray, List.set_cons_zero, List.set_cons_succ]
                                refine wpAnyG_takeW (i := 4) (oi := ⟨some 176, Op.indexAddr 24 (Operand.tmp 174) (Operand.tmp 175), _, _, _, none⟩) (v := ?_) rfl (by kernel_rfl) (by kernel_rfl) (by kernel_rfl) (by kernel_rfl) (fun _ _ _ h => h) hT rfl ?_ (fun hT => ?_)
                                rotate_left
                                · intro wq; go_simp; rfl
                                simp only [Act.put, List.setIfInBounds_toArray, List.set_cons_zero, List.set_cons_succ]
                                refine wpAnyG_take (fun w' : World => ∃ m, w' = World.drewN w7 m, none) (i := 5) (oi := ⟨some 177, Op.load 25 (Operand.tmp 176), _, _, _, none⟩) (v := ?_) rfl (by kernel_rfl) (by kernel_rfl) (by kernel_rfl) (by kernel_rfl) (by kernel_rfl) (by kernel_rfl) (by simp) (fun _ _ _ h => h) hT rfl ?_ (fun hT => ?_)
                                rotate_left
                                · intro wq hSw; obtain ⟨mw, rfl⟩ := hSw; go_simp; rfl
                                simp only [Act.put, List.setIfInBounds_toArray, List.set_cons_zero, List.set_cons_succ]
                                refine wpAnyG_takeW (i := 6) (oi := ⟨some 178, Op.move (Operand.tmp 16), _, _, _, none⟩) (v := ?_) rfl (by kernel_rfl) (by kernel_rfl) (by kernel_rfl) (by kernel_rfl) (fun _ _ _ h => h) hT rfl ?_ (fun hT => ?_)
                                rotate_left
                                · intro wq; go_simp; rfl
                                simp only [Act.put, List.setIfInBounds_toArray, List.set_cons_zero, List.set_cons_succ]
                                refine wpAnyG_ready (rs := [7]) (by kernel_rfl) (by simp) ?_
                                refine AllReadyG.cons (o := ⟨some 179, Op.call { callee := Callee.value (Operand.tmp 173), args := #[Operand.tmp 177, Operand.tmp 178], argTypes := #[25, 25] }, _, _, _, none⟩) rfl (fun K hK => ?_) ?_
                                · skip
                                  go_simp
                                  refine (over_any _ _ _).mono ?_
                                  rintro e we ⟨r, m, rfl, rfl, hwr, hfr⟩
                                  refine hK _ _ (till_one ⟨1 + m, by simp⟩) (fun hT => ?_)
                                  try simp only [Act.put, List.setIfInBounds_toArray, List.set_cons_zero, List.set_cons_succ]
                                  refine wpAnyG_takeW (i := 8) (oi := ⟨some 19, Op.assign (Operand.tmp 179), _, _, _, none⟩) (v := ?_) rfl (by kernel_rfl) (by kernel_rfl) (by kernel_rfl) (by kernel_rfl) (fun _ _ _ h => h) hT rfl ?_ (fun hT => ?_)
                                  rotate_left
                                  · intro wq; go_simp; rfl
                                  simp only [Act.put, List.setIfInBounds_toArray, List.set_cons_zero, List.set_cons_succ]
                                  refine wpAnyG_done (by kernel_rfl) ?_ _
                                  have HR : Hid (fl r = fdiv (S i c) (S c c)) := by unfold Hid; rw [hfr, HF1.out, HSB.out]
                                  have HL8 := Lib.hid (HL7.out.drewN (1 + m))
                                  clear hT hfr HL7 e1 e2 qb0 qb1 qb2 qb3
                                  go_wp2_with fail
                                  go_loopw [20] (fun j wr => ∃ q : Nat, c < q ∧ q ≤ n + 1 ∧ j = .int .i64 q ∧ L2 w.heap.size n R6 ⟨part n S c i q, F6, P6, O6⟩ (.slice (some ⟨gr, 0, none⟩) n cr) (.slice (some ⟨gf, 0, none⟩) n cf) pv' ov' w wr) (fun j _ => n + 1 - (intOf j).toNat)
                                  case atStart => exact ⟨c + 1, by omega, by omega, by go_num, HL8.out⟩
                                  case round =>
                                    clear HL8
                                    obtain ⟨q, hcq, hqn, rfl, HX⟩ := hrel
                                    by_cases hlq : q ≤ n
                                    · obtain ⟨b2, e1, z1, hw2, hf2⟩ := HX.sat.num (i := i) (j := q) hin hlq
                                      obtain ⟨b3, e2, _, hw3, hf3⟩ := HX.sat.num (i := c) (j := q) hcn hlq
                                      have e3 := (HX.sat.rowCell (i := c) hcn).1
                                      obtain ⟨qb0, qb1, qb2, qb3⟩ := HX.box.cells
                                      obtain ⟨qs0, qs1, qs2, qs3⟩ := HX.sys.cells
                                      have HF2 : Hid (fl b2 = S i q) := by unfold Hid; rw [hf2]; exact part_at n S
                                      have HF3 : Hid (fl b3 = S c q) := by unfold Hid; rw [hf3]; exact part_top n S
                                      have i12 : (0 : Int) ≤ (q : Int) := by omega
                                      have i13 : (q : Int) < (n : Int) + 1 := by omega
                                      have i14 : (q : Int) ≤ (n : Int) := by omega
                                      have HL9 := Lib.hid HX
                                      clear HX hf2 hf3
                                      obtain ⟨w9, rfl⟩ : ∃ w9 : World, w9 = wr := ⟨_, rfl⟩
                                      go_upto_region 34 with fail
                                      as_aux_lemma =>
                                        refine wp_region_till [(fun w' : World => ∃ m, w' = World.drewN w9 m, some 19)] (by kernel_rfl) ?_ (fun hT => ?_)
                                        · exact till_one ⟨1, rfl⟩
                                        refine wpAnyG_takeW (i := 0) (oi := ⟨some 187, Op.move (Operand.tmp 18), _, _, _, none⟩) (v := ?_) rfl (by kernel_rfl) (by kernel_rfl) (by kernel_rfl) (by kernel_rfl) (fun _ _ _ h => h) hT rfl ?_ (fun hT => ?_)
                                        rotate_left
                                        · intro wq; go_simp; rfl
                                        simp only [Act.put, List.setIfInBounds_toArray, List.set_cons_zero, List.set_cons_succ]
                                        refine wpAnyG_takeW (i := 1) (oi := ⟨some 188, Op.move (Operand.tmp 20), _, _, _, none⟩) (v := ?_) rfl (by kernel_rfl) (by kernel_rfl) (by kernel_rfl) (by kernel_rfl) (fun _ _ _ h => h) hT rfl ?_ (fun hT => ?_)
                                        rotate_left
                                        · intro wq; go_simp; rfl
                                        simp only [Act.put, List.setIfInBounds_toArray, List.set_cons_zero, List.set_cons_succ]
                                        refine wpAnyG_takeW (i := 2) (oi := ⟨some 189, Op.fieldAddr 74 (Operand.tmp 3) 2, _, _, _, none⟩) (v := ?_) rfl (by kernel_rfl) (by kernel_rfl) (by kernel_rfl) (by kernel_rfl) (fun _ _ _ h => h) hT rfl ?_ (fun hT => ?_)
                                        rotate_left
                                        · intro wq; go_simp; rfl
                                        simp only [Act.put, List.setIfInBounds_toArray, List.set_cons_zero, List.set_cons_succ]
                                        refine wpAnyG_take (fun w' : World => ∃ m, w' = World.drewN w9 m, some 19) (i := 3) (oi := ⟨some 190, Op.load 71 (Operand.tmp 189), _, _, _, none⟩) (v := ?_) rfl (by kernel_rfl) (by kernel_rfl) (by kernel_rfl) (by kernel_rfl) (by kernel_rfl) (by kernel_rfl) (by simp) (fun _ _ _ h => h) hT rfl ?_ (fun hT => ?_)
                                        rotate_left
                                        · intro wq hSw; obtain ⟨mw, rfl⟩ := hSw; go_simp; rfl
                                        simp only [Act.put, List.setIfInBounds_toArray, List.set_cons_zero, List.set_cons_succ]
                                        refine wpAnyG_takeW (i := 4) (oi := ⟨some 191, Op.move (Operand.tmp 18), _, _, _, none⟩) (v := ?_) rfl (by kernel_rfl) (by kernel_rfl) (by kernel_rfl) (by kernel_rfl) (fun _ _ _ h => h) hT rfl ?_ (fun hT => ?_)
                                        rotate_left
                                        · intro wq; go_simp; rfl
                                        simp only [Act.put, List.setIfInBounds_toArray, List.set_cons_zero, List.set_cons_succ]
                                        refine wpAnyG_takeW (i := 5) (oi := ⟨some 192, Op.move (Operand.tmp 20), _, _, _, none⟩) (v := ?_) rfl (by kernel_rfl) (by kernel_rfl) (by kernel_rfl) (by kernel_rfl) (fun _ _ _ h => h) hT rfl ?_ (fun hT => ?_)
                                        rotate_left
                                        · intro wq; go_simp; rfl
                                        simp only [Act.put, List.setIfInBounds_toArray, List.set_cons_zero, List.set_cons_succ]
                                        refine wpAnyG_takeW (i := 6) (oi := ⟨some 193, Op.indexAddr 24 (Operand.tmp 191) (Operand.tmp 192), _, _, _, none⟩) (v := ?_) rfl (by kernel_rfl) (by kernel_rfl) (by kernel_rfl) (by kernel_rfl) (fun _ _ _ h => h) hT rfl ?_ (fun hT => ?_)
                                        rotate_left
                                        · intro wq; go_simp; rfl
                                        simp only [Act.put, List.setIfInBounds_toArray, List.set_cons_zero, List.set_cons_succ]
                                        refine wpAnyG_take (fun w' : World => ∃ m, w' = World.drewN w9 m, some 19) (i := 7) (oi := ⟨some 194, Op.load 25 (Operand.tmp 193), _, _, _, none⟩) (v := ?_) rfl (by kernel_rfl) (by kernel_rfl) (by kernel_rfl) (by kernel_rfl) (by kernel_rfl) (by kernel_rfl) (by simp) (fun _ _ _ h => h) hT rfl ?_ (fun hT => ?_)
                                        rotate_left
                                        · intro wq hSw; obtain ⟨mw, rfl⟩ := hSw; go_simp; rfl
                                        simp only [Act.put, List.setIfInBounds_toArray, List.set_cons_zero, List.set_cons_succ]
                                        refine wpAnyG_takeW (i := 8) (oi := ⟨some 195, Op.move (Operand.tmp 19), _, _, _, none⟩) (v := ?_) rfl (by kernel_rfl) (by kernel_rfl) (by kernel_rfl) (by kernel_rfl) (fun _ _ _ h => h) hT rfl ?_ (fun hT => ?_)
                                        rotate_left
                                        · intro wq; go_simp; rfl
                                        simp only [Act.put, List.setIfInBounds_toArray, List.set_cons_zero, List.set_cons_succ]
                                        refine wpAnyG_takeW (i := 9) (oi := ⟨some 196, Op.fieldAddr 79 (Operand.tmp 8) 0, _, _, _, none⟩) (v := ?_) rfl (by kernel_rfl) (by kernel_rfl) (by kernel_rfl) (by kernel_rfl) (fun _ _ _ h => h) hT rfl ?_ (fun hT => ?_)
                                        rotate_left
                                        · intro wq; go_simp; rfl
                                        simp only [Act.put, List.setIfInBounds_toArray, List.set_cons_zero, List.set_cons_succ]
                                        refine wpAnyG_take (fun w' : World => ∃ m, w' = World.drewN w9 m, some 19) (i := 10) (oi := ⟨some 197, Op.load 23 (Operand.tmp 196), _, _, _, none⟩) (v := ?_) rfl (by kernel_rfl) (by kernel_rfl) (by kernel_rfl) (by kernel_rfl) (by kernel_rfl) (by kernel_rfl) (by simp) (fun _ _ _ h => h) hT rfl ?_ (fun hT => ?_)
                                        rotate_left
                                        · intro wq hSw; obtain ⟨mw, rfl⟩ := hSw; go_simp; rfl
                                        simp only [Act.put, List.setIfInBounds_toArray, List.set_cons_zero, List.set_cons_succ]
                                        refine wpAnyG_takeW (i := 11) (oi := ⟨some 198, Op.move (Operand.tmp 13), _, _, _, none⟩) (v := ?_) rfl (by kernel_rfl) (by kernel_rfl) (by kernel_rfl) (by kernel_rfl) (fun _ _ _ h => h) hT rfl ?_ (fun hT => ?_)
                                        rotate_left
                                        · intro wq; go_simp; rfl
                                        simp only [Act.put, List.setIfInBounds_toArray, List.set_cons_zero, List.set_cons_succ]
                                        refine wpAnyG_takeW (i := 12) (oi := ⟨some 199, Op.indexAddr 23 (Operand.tmp 197) (Operand.tmp 198), _, _, _, none⟩) (v := ?_) rfl (by kernel_rfl) (by kernel_rfl) (by kernel_rfl) (by kernel_rfl) (fun _ _ _ h => h) hT rfl ?_ (fun hT => ?_)
                                        rotate_left
                                        · intro wq; go_simp; rfl
                                        simp only [Act.put, List.setIfInBounds_toArray, List.set_cons_zero, List.set_cons_succ]
                                        refine wpAnyG_take (fun w' : World => ∃ m, w' = World.drewN w9 m, some 19) (i := 13) (oi := ⟨some 200, Op.load 24 (Operand.tmp 199), _, _, _, none⟩) (v := ?_) rfl (by kernel_rfl) (by kernel_rfl) (by kernel_rfl) (by kernel_rfl) (by kernel_rfl) (by kernel_rfl) (by simp) (fun _ _ _ h => h) hT rfl ?_ (fun hT => ?_)
                                        rotate_left
                                        · intro wq hSw; obtain ⟨mw, rfl⟩ := hSw; go_simp; rfl
                                        simp only [Act.put, List.setIfInBounds_toArray, List.set_cons_zero, List.set_cons_succ]
                                        refine wpAnyG_takeW (i := 14) (oi := ⟨some 201, Op.move (Operand.tmp 20), _, _, _, none⟩) (v := ?_) rfl (by kernel_rfl) (by kernel_rfl) (by kernel_rfl) (by kernel_rfl) (fun _ _ _ h => h) hT rfl ?_ (fun hT => ?_)
                                        rotate_left
                                        · intro wq; go_simp; rfl
                                        simp only [Act.put, List.setIfInBounds_toArray, List.set_cons_zero, List.set_cons_succ]
                                        refine wpAnyG_takeW (i := 15) (oi := ⟨some 202, Op.indexAddr 24 (Operand.tmp 200) (Operand.tmp 201), _, _, _, none⟩) (v := ?_) rfl (by kernel_rfl) (by kernel_rfl) (by kernel_rfl) (by kernel_rfl) (fun _ _ _ h => h) hT rfl ?_ (fun hT => ?_)
                                        rotate_left
                                        · intro wq; go_simp; rfl
                                        simp only [Act.put, List.setIfInBounds_toArray, List.set_cons_zero, List.set_cons_succ]
                                        refine wpAnyG_take (fun w' : World => ∃ m, w' = World.drewN w9 m, some 19) (i := 16) (oi := ⟨some 203, Op.load 25 (Operand.tmp 202), _, _, _, none⟩) (v := ?_) rfl (by kernel_rfl) (by kernel_rfl) (by kernel_rfl) (by kernel_rfl) (by kernel_rfl) (by kernel_rfl) (by simp) (fun _ _ _ h => h) hT rfl ?_ (fun hT => ?_)
                                        rotate_left
                                        · intro wq hSw; obtain ⟨mw, rfl⟩ := hSw; go_simp; rfl
                                        simp only [Act.put, List.setIfInBounds_toArray, List.set_cons_zero, List.set_cons_succ]
                                        refine wpAnyG_ready (rs := [17]) (by kernel_rfl) (by simp) ?_
                                        refine AllReadyG.cons (o := ⟨some 204, Op.call { callee := Callee.value (Operand.tmp 190), args := #[Operand.tmp 194, Operand.tmp 195, Operand.tmp 203], argTypes := #[25, 25, 25] }, _, _, _, none⟩) rfl (fun K hK => ?_) ?_
                                        · skip
                                          go_simp
                                          refine (less_any _ _ _ _).mono ?_
                                          rintro e we ⟨r2, m2, rfl, rfl, hw4, hf4⟩
                                          refine hK _ _ (till_one ⟨1 + m2, by simp⟩) (fun hT => ?_)
                                          try simp only [Act.put, List.setIfInBounds_toArray, List.set_cons_zero, List.set_cons_succ]
                                          refine wpAnyG_takeW (i := 18) (oi := ⟨some 205, Op.indexAddr 24 (Operand.tmp 187) (Operand.tmp 188), _, _, _, none⟩) (v := ?_) rfl (by kernel_rfl) (by kernel_rfl) (by kernel_rfl) (by kernel_rfl) (fun _ _ _ h => h) hT rfl ?_ (fun hT => ?_)
                                          rotate_left
                                          · intro wq; go_simp; rfl
                                          simp only [Act.put, List.setIfInBounds_toArray, List.set_cons_zero, List.set_cons_succ]
                                          refine wpAnyG_ready (rs := [19]) (by kernel_rfl) (by simp) ?_
                                          refine AllReadyG.cons (o := ⟨none, Op.store 25 (Operand.tmp 205) (Operand.tmp 204), _, _, _, none⟩) rfl (fun K hK => ?_) ?_
                                          · skip
                                            obtain ⟨mL, hmL⟩ := hT _ (List.mem_singleton.2 rfl) rfl
                                            rw [hmL]
                                            go_simp
                                            refine hK _ _ (till_past rfl) (fun hT => ?_)
                                            try simp only [Act.put, List.setIfInBounds_toArray, List.set_cons_zero, List.set_cons_succ]
                                            refine wpAnyG_done (by kernel_rfl) ?_ _
                                            have HF : Hid (fl r2 = fless (S i q) (fdiv (S i c) (S c c)) (S c q)) := by unfold Hid; rw [hf4, HF2.out, HF3.out, HR.out]
                                            have HLA := Lib.hid ((HL9.out.drewN mL).set hin hlq hw4 HF.out)
                                            have HLB : Hid (L2 w.heap.size n R6 ⟨part n S c i (q + 1), F6, P6, O6⟩ (.slice (some ⟨gr, 0, none⟩) n cr) (.slice (some ⟨gf, 0, none⟩) n cf) pv' ov' w ((w9.drewN mL).setCell ⟨R6 i, q, none⟩ (.float .f64 r2))) := by
                                              rw [← part_set n S hci hin hcq hlq]; exact HLA.out
                                            clear hT hmL HLA hf4 HL9 e1 e2 e3 z1 qb0 qb1 qb2 qb3 qs0 qs1 qs2 qs3
                                            go_wp2_with fail
                                            go_roundw
                                            case rel => exact ⟨q + 1, by omega, by omega, by go_num, HLB.out⟩
                                            case measure => simp [intOf]; omega
                                          exact AllReadyG.nil
                                        exact AllReadyG.nil
                                  
                                    · obtain rfl : q = n + 1 := by omega
                                      rw [part_row] at HX
                                      have HL9 := Lib.hid HX
                                      clear HX
                                      go_wp2_with fail
                                      go_roundw
                                      case rel => exact ⟨k + 1, by omega, by go_num, by rw [show c + 1 + (k + 1) = i + 1 by have := HIK.out; omega]; exact HL9.out⟩
                                      case measure => simp [intOf]; omega
                                exact AllReadyG.nil
                            · obtain rfl : k = n - (c + 1) := by omega
                              rw [show c + 1 + (n - (c + 1)) = n by omega, part_end] at HX
                              have HL9 : Hid (L2 w.heap.size n R6 (stepS n c s) (.slice (some ⟨gr, 0, none⟩) n cr) (.slice (some ⟨gf, 0, none⟩) n cf) pv' ov' w wr) := by rw [HSTEP.out]; exact HX
                              clear HX
                              go_wp2_with fail
                              go_roundw
                              case rel => exact ⟨c + 1, by omega, by go_num, R6, stepS n c s, _, _, _, _, HL9.out, HGO.out.symm.trans HG.out, by rw [HSTEP.out]; exact HLEN.out⟩
                              case measure => simp [intOf]; omega
                · have HRES : Hid (stepsS n (M0 rows rhs) = ({ s with piv := s.piv ++ [s.M p c], odd := s.odd ++ [(p : Int) != (c : Int)] }, false)) := by
                    have h1 := goS_bad hcn (show bad (s.M (pick n s.M c) c) = true by rw [HP.out, bad_bits HFB.out, hz]; rfl)
                    unfold Hid
                    rw [← HG.out, h1, noteS, HP.out, int_bne]
                  go_wp2_with fail
                  exact bodyPost_ret (v := .tuple #[.agg #[.slice (some ⟨gr, 0, none⟩) n cr, .slice (some ⟨gf, 0, none⟩) n cf, pv', ov'], .bool false]) (by simp [results, Try.results42, go_sem, *]) rfl ⟨R, _, _, _, _, by rw [HRES.out], HL4.out.filled.1, by rw [HRES.out]; exact HL4.out.filled.2⟩
        · obtain rfl : n = c := by omega
          obtain ⟨gr, cr, rfl, hcr1, hcr2⟩ := owns_form HX.sat.ownR hn0
          obtain ⟨gf, cf, rfl, hcf1, hcf2⟩ := owns_form HX.sat.ownF hn0
          have HRES : Hid (stepsS n (M0 rows rhs) = (s, true)) := by
            have h := HG.out
            rw [Nat.sub_self] at h
            exact h.symm
          obtain ⟨qs0, qs1, qs2, qs3⟩ := HX.sys.cells
          obtain ⟨qr0, qr1, qr2, qr3⟩ := HX.res.cells
          have z0 := HX.res.free 0
          have z1 := HX.res.free 1
          have z2 := HX.res.free 2
          have z3 := HX.res.free 3
          obtain ⟨hsp, hso⟩ := HX.sat.ones
          have HL4 := Lib.hid HX
          clear HX HG HO
          go_wp2_with fail
          exact bodyPost_ret (v := .tuple #[.agg #[.slice (some ⟨gr, 0, none⟩) n cr, .slice (some ⟨gf, 0, none⟩) n cf, pv, ov], .bool true]) (by simp [results, Try.results42, go_sem, *]) rfl ⟨R, _, _, _, _, by rw [HRES.out], HL4.out.filled.1, by rw [HRES.out]; exact HL4.out.filled.2⟩
end Go.Proofs.Ytghhanifakllpaa
