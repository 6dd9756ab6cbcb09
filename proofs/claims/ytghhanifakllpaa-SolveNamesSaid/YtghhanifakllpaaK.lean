/- package solve over float64: solved, Solve. -/
import Derived.Test.YtghhanifakllpaaH
import Derived.Test.YtghhanifakllpaaJ
namespace Go.Proofs.Ytghhanifakllpaa
open Go.RowKit

def solveF (rows : List (List Nat)) (rb : List Nat) : List F × Int :=
  if checkF (bitsF rows) ≠ 0 then ([], checkF (bitsF rows))
  else if besideF (rb.map fl) rows.length ≠ 0 then ([], besideF (rb.map fl) rows.length)
  else match solvedF rows.length (M0 rows fun i => rb.getD i 0) with
    | none => ([], 141)
    | some x => ((List.range rows.length).map x, 0)
def SolvePost (rows : List (List Nat)) (rb : List Nat) (w : World) (e : Ending) (w' : World) : Prop :=
  ∃ (v : Value) (xs : List Nat), e = .returned (.tuple #[v, .int .i64 (solveF rows rb).2]) ∧ Below w.heap.size w w' ∧ w'.ownsRow w.heap.size 25 1 v xs.length (xs.map flV) ∧ (∀ x ∈ xs, W64 x) ∧ xs.map fl = (solveF rows rb).1

theorem solvedF_no {n : Nat} {M : Mx} {S : Sys} (h : stepsS n M = (S, true)) {k : Nat} (hk : k < n) (hf : ffin (backU n S.M 0 k) = false) : solvedF n M = none := by
  unfold solvedF
  rw [h, if_pos rfl, if_neg]
  intro hh
  have := hh k hk
  rw [backU_end] at hf
  rw [hf] at this
  cases this
theorem solvedF_yes {n : Nat} {M : Mx} {S : Sys} (h : stepsS n M = (S, true)) (hf : ∀ k, k < n → ffin (backU n S.M 0 k) = true) : solvedF n M = some (backU n S.M 0) := by
  unfold solvedF
  rw [h, if_pos rfl, if_pos (by rw [backU_end] at hf; exact hf)]
  rfl
theorem BackAt.owns {X n m B : Nat} {M : Mx} {w5 wr : World} (h : BackAt X n M m w5 wr) (hB : B ≤ w5.heap.size) (hn : n ≤ 128) :
    ∃ (v : Value) (xs : List Nat), v = .slice (some ⟨X, 0, none⟩) n n ∧ wr.ownsRow B 25 1 v xs.length (xs.map flV) ∧ (∀ x ∈ xs, W64 x) ∧ xs.map fl = (List.range n).map (backU n M m) := by
  obtain ⟨xs, h1, h2, h3, h4⟩ := h.xs
  subst h1
  refine ⟨_, xs, rfl, ⟨by simp, .inr ⟨X, xs.length, _, rfl, Nat.le_trans hB h.out, h3, Nat.le_refl _, by unfold maxLen; omega, by simp, by rw [Nat.mul_one]; exact List.take_of_length_le (by simp)⟩⟩, h2, ?_⟩
  apply List.ext_getElem
  · simp
  · intro i g1 g2
    simp only [List.length_map] at g1
    have := h4 i g1
    simp only [List.getElem_map, List.getElem_range, ← this, List.getD, List.getElem?_eq_getElem g1, Option.getD_some]
theorem cell_new (w : World) (v : Value) {a b c : Value} {t : TypeId} : (w.alloc (.cells #[v, a, b, c] t)).cell? ⟨w.heap.size, 0, none⟩ = some v := by
  unfold World.cell?
  rw [show (w.alloc (.cells #[v, a, b, c] t)).heap[w.heap.size]? = _ from heap_alloc_new w _]
  rfl
theorem FSl.beside {w : World} {v : Value} {rb : List Nat} {n : Nat} (h : FSl w v rb) (hn : 0 < n) (hb : besideF (rb.map fl) n = 0) :
    ∃ bb boff bc, v = .slice (some ⟨bb, boff, none⟩) n bc ∧ (∀ i, i < n → w.cell? ⟨bb, boff + i, none⟩ = some (.float .f64 (rb.getD i 0))) ∧ ∀ i, i < n → W64 (rb.getD i 0) := by
  obtain ⟨a, m, c, rfl, hm, hw, hc⟩ := h
  have hl : rb.length = n := by
    rw [besideF_bits] at hb
    by_cases e : rb.length = n
    · exact e
    · rw [if_neg e] at hb; cases hb
  obtain rfl : n = m := by omega
  obtain ⟨b, off, rfl, hcc⟩ := hc.resolve_left (by omega)
  exact ⟨b, off, c, rfl, hcc, fun i hi => W_getD hw (by omega)⟩
theorem FSl.at_ {w : World} {n bb boff bc : Nat} {rb : List Nat} (h : FSl w (.slice (some ⟨bb, boff, none⟩) n bc) rb) : ∀ i, i < n → w.cell? ⟨bb, boff + i, none⟩ = some (.float .f64 (rb.getD i 0)) := by
  obtain ⟨a, m, c, hv, hm, hw, hc⟩ := h
  cases hv
  intro i hi
  obtain ⟨b, off, ha, hcc⟩ := hc.resolve_left (by omega)
  cases ha
  exact hcc i hi

set_option maxRecDepth 100000 in
set_option maxHeartbeats 20000000 in
theorem solved_any (v bv : Value) (rows : List (List Nat)) (rb : List Nat) (w : World) (hv : Mat w v rows) (hbv : FSl w bv rb) (hn : rows.length ≤ 1000000) (hm : ∀ r ∈ rows, r.length ≤ 1000000) (hrb : rb.length ≤ 1000000) :
    Calls Try.prog 39 #[.agg kF, v, bv] w (SolvePost rows rb w) := by
  have HV := Lib.hid hv
  have HBV := Lib.hid hbv
  have HN := Lib.hid hn
  have HM := Lib.hid hm
  have HRB := Lib.hid hrb
  clear hn hm hrb
  have HBA : Hid (Below w.heap.size w (w.alloc (.cells kF 74))) := (Below.refl _ _).alloc (Nat.le_refl _) _
  obtain ⟨ch, hch⟩ : ∃ ch, checkF (bitsF rows) = ch := ⟨_, rfl⟩
  have HCH := Lib.hid hch
  by_cases h0 : ch = 0
  · subst h0
    have hz := checkF_zero hch
    have HZ := Lib.hid hz
    obtain ⟨n, hnr⟩ : ∃ n, rows.length = n := ⟨_, rfl⟩
    have hn0 : 0 < n := by omega
    obtain ⟨a, m, ac, rfl, hm, hcs⟩ := hv
    obtain ⟨ab, aoff, rfl, _⟩ := hcs.resolve_left (by omega)
    obtain rfl : n = m := by omega
    have HNR := Lib.hid hnr
    have hn128 : n ≤ 128 := by have := hz.2.1; omega
    obtain ⟨q0, q1, q2, q3⟩ := (BoxF.made w).cells
    clear hch hz hcs hm hnr
    obtain ⟨bs, hbs⟩ : ∃ bs, besideF (rb.map fl) n = bs := ⟨_, rfl⟩
    have HBS := Lib.hid hbs
    by_cases h1 : bs = 0
    · subst h1
      obtain ⟨bb, boff, bc, rfl, hbb, hbw⟩ := HBV.out.beside hn0 hbs
      have HBW := Lib.hid hbw
      clear hbs hbv hbb hbw
      go_enter Try.func39, Try.ntmps39
      go_wp2_with fail
      refine (check_any _ rows _ (HV.out.below HBA.out) HN.out HM.out).mono ?_
      rw [HCH.out]
      rintro e w2 ⟨rfl, hb2⟩
      have HX2 : Hid (BoxF w2 w.heap.size) := (BoxF.made w).below hb2 (BoxF.made w).lt
      obtain ⟨q0, q1, q2, q3⟩ := HX2.out.cells
      go_wp2_with fail
      refine (beside_any _ rb n _ ((HBV.out.below HBA.out).below hb2) (by omega) HRB.out).mono ?_
      rw [HBS.out]
      rintro e w3 ⟨rfl, hb3⟩
      have HX3 : Hid (BoxF w3 w.heap.size) := HX2.out.below hb3 HX2.out.lt
      have HV3 := Lib.hid (((HV.out.below HBA.out).below hb2).below hb3)
      have HBV3 := Lib.hid (((HBV.out.below HBA.out).below hb2).below hb3)
      have HB3 : Hid (Below w.heap.size w w3) := (HBA.out.trans (hb2.mono HBA.out.size)).trans (hb3.mono (Nat.le_trans HBA.out.size hb2.size))
      clear hb2 hb3 q0 q1 q2 q3
      obtain ⟨q0, q1, q2, q3⟩ := HX3.out.cells
      go_wp2_with fail
      refine (steps_any ab aoff n ac rows (fun i => rb.getD i 0) _ _ hn128 hn0 (HV3.out.rows hn0 (by have h := HZ.out.2.2; rw [HNR.out] at h; exact h)) (by rw [← HNR.out]; exact HV3.out.words) HBW.out (.inr ⟨bb, boff, bc, rfl, HBV3.out.at_⟩)).mono ?_
      rintro e w4 ⟨R, rv, fv, pv, ov, rfl, hb4, hs4⟩
      obtain ⟨M, hM⟩ : ∃ M, (M0 rows fun i => rb.getD i 0) = M := ⟨_, rfl⟩
      obtain ⟨st, hst⟩ : ∃ st, stepsS n M = st := ⟨_, rfl⟩
      obtain ⟨S, ok⟩ := st
      rw [hM, hst] at hs4 ⊢
      have HST : Hid (stepsS n (M0 rows fun i => rb.getD i 0) = (S, ok)) := by unfold Hid; rw [hM, hst]
      obtain ⟨gr, cr, rfl, _, _⟩ := owns_form hs4.ownR hn0
      obtain ⟨gf, cf, rfl, _, _⟩ := owns_form hs4.ownF hn0
      obtain ⟨hsp, hso⟩ := hs4.ones
      have HS4 := Lib.hid hs4
      have HB4 : Hid (Below w.heap.size w w4) := HB3.out.trans (hb4.mono HB3.out.size)
      have HX4 : Hid (BoxF w4 w.heap.size) := HX3.out.below hb4 HX3.out.lt
      clear hs4 hb4 hM hst q0 q1 q2 q3
      cases ok
      · have HP : Hid (solveF rows rb = ([], 141)) := by unfold Hid solveF solvedF; rw [HCH.out, HNR.out, HBS.out, HST.out]; rfl
        go_wp2_with fail
        go_ret2
        exact ⟨.slice none 0 0, [], by rw [HP.out]; rfl, HB4.out.alloc HB4.out.size _, World.ownsRow_nil _ _ _ _, (fun _ h => by cases h), by rw [HP.out]; rfl⟩
      · obtain ⟨w5, hw5⟩ : ∃ w5, w5 = w4.alloc (.cells #[.slice (some ⟨gr, 0, none⟩) n cr, .slice (some ⟨gf, 0, none⟩) n cf, pv, ov] 79) := ⟨_, rfl⟩
        have HX : Hid (w4.heap.size < w5.heap.size) := by unfold Hid; rw [show w5.heap.size = w4.heap.size + 1 by rw [hw5]; exact Array.size_push ..]; omega
        have h45 : Below w4.heap.size w4 w5 := by rw [hw5]; exact (Below.refl _ _).alloc (Nat.le_refl _) _
        obtain ⟨i0, hi, hz0, hz1, hz2⟩ := info_parts info_f
        have hb1 : i0.bytes * n ≤ 281474976710656 := by rw [hz2]; omega
        go_upto_region 11 with fail
        rw [← hw5]
        have HWQ := Lib.hid hw5
        clear hw5
        go_upto_region 12 with (first | (at_make; refine wpList_make_row _ rfl _ _ _ rfl _ i0 _ Try.underlying24 hi hz0 hz1 rfl _ _ n rfl rfl hb1 (by omega) ?_) | fail)
        have HBK := Lib.hid (BackAt.start n S.M w5)
        have HW5 : Hid (Below w.heap.size w w5) := HB4.out.trans (h45.mono HB4.out.size)
        have HX5 : Hid (BoxF w5 w.heap.size) := HX4.out.below h45 HX4.out.lt
        have HS5 : Hid (w5.cell? ⟨w4.heap.size, 0, none⟩ = some (.slice (some ⟨gr, 0, none⟩) n cr)) := by unfold Hid; rw [HWQ.out]; exact cell_new w4 _
        have HR5 : Hid (∀ i, i < n → w5.cell? ⟨gr, i, none⟩ = some (.slice (some ⟨R i, 0, none⟩) (n + 1) (n + 1))) := fun i hi => by
          have h := (HS4.out.rowCell hi).1
          exact (h45.cell (p := ⟨gr, i, none⟩) (World.block_lt_of_cell? _ _ h)).trans h
        have HM5 : Hid (∀ i j, i < n → j ≤ n → ∃ b, w5.cell? ⟨R i, j, none⟩ = some (.float .f64 b) ∧ W64 b ∧ fl b = S.M i j) := fun i j hi hj => by
          obtain ⟨b, h1, _, h2, h3⟩ := HS4.out.num hi hj
          exact ⟨b, (h45.cell (p := ⟨R i, j, none⟩) (World.block_lt_of_cell? _ _ h1)).trans h1, h2, h3⟩
        have hX := HX.out
        clear HX
        clear HWQ hsp hso h45 hi hz0 hz1 hz2 hb1 HB4 HX4 HS4 HB3 HBV3 HV3 HX3 HX2
        go_wp2_with fail
        go_loopw [14] (fun i wr => ∃ m : Nat, m ≤ n ∧ i = .int .i64 ((m : Int) - 1) ∧ BackAt w5.heap.size n S.M m w5 wr) (fun i _ => (intOf i + 1).toNat)
        case atStart => exact ⟨n, Nat.le_refl _, by go_num, HBK.out⟩
        case round =>
          clear HBK
          obtain ⟨m, hm, rfl, HX⟩ := hrel
          by_cases hm0 : 0 < m
          · obtain ⟨i, rfl⟩ : ∃ i, m = i + 1 := ⟨m - 1, by omega⟩
            obtain ⟨b, e1, hwb, hfb⟩ := HM5.out i n (by omega) (Nat.le_refl _)
            have f1 := (HX.below.cell (p := ⟨R i, n, none⟩) (World.block_lt_of_cell? _ _ e1)).trans e1
            have f2 := (HX.below.cell (p := ⟨w4.heap.size, 0, none⟩) hX).trans HS5.out
            have f3 := (HX.below.cell (p := ⟨gr, i, none⟩) (World.block_lt_of_cell? _ _ (HR5.out i (by omega)))).trans (HR5.out i (by omega))
            have i1 : (0 : Int) ≤ ((i + 1 : Nat) : Int) - 1 := by omega
            have i2 : ((i + 1 : Nat) : Int) - 1 = (i : Int) := by omega
            have i3 : (i : Int) < (n : Int) := by omega
            have i4 : (0 : Int) ≤ (i : Int) := by omega
            have HFB : Hid (fl b = S.M i n) := hfb
            have HL := Lib.hid HX
            clear HX e1 hfb
            obtain ⟨wo, rfl⟩ : ∃ wo : World, wo = wr := ⟨_, rfl⟩
            rw [i2]
            go_wp2_with fail
            go_loopw [15, 16] (fun t j wr => ∃ (q b : Nat), i < q ∧ q ≤ n ∧ j = .int .i64 q ∧ t = .float .f64 b ∧ W64 b ∧ fl b = backI n S.M i q ∧ BackAt w5.heap.size n S.M (i + 1) w5 wr) (fun _ j _ => n - (intOf j).toNat)
            case atStart => exact ⟨i + 1, b, by omega, by omega, by go_num, rfl, hwb, by rw [backI_start]; exact HFB.out, HL.out⟩
            case round =>
              clear HL HFB
              obtain ⟨q, b, hiq, hqn, rfl, rfl, hwb, hfb, HX⟩ := hrel
              have qb := (HX5.out.below HX.below HX5.out.lt).cells
              obtain ⟨qb0, qb1, qb2, qb3⟩ := qb
              have f2 := (HX.below.cell (p := ⟨w4.heap.size, 0, none⟩) hX).trans HS5.out
              have f3 := (HX.below.cell (p := ⟨gr, i, none⟩) (World.block_lt_of_cell? _ _ (HR5.out i (by omega)))).trans (HR5.out i (by omega))
              obtain ⟨wi, rfl⟩ : ∃ wi : World, wi = wr := ⟨_, rfl⟩
              by_cases hlt : q < n
              · obtain ⟨b2, e1, hw2, hf2⟩ := HM5.out i q (by omega) (by omega)
                have f1 := (HX.below.cell (p := ⟨R i, q, none⟩) (World.block_lt_of_cell? _ _ e1)).trans e1
                obtain ⟨b3, f4, _, hw3, hf3⟩ := HX.num (j := q) hlt
                have hnx := backI_succ n S.M hiq
                have HF : Hid (∀ r, fl r = fless (fl b) (fl b2) (fl b3) → fl r = backI n S.M i (q + 1)) := fun r h => by rw [h, hfb, hf2, hf3, hnx]
                have HL := Lib.hid HX
                have j1 : (0 : Int) ≤ (q : Int) := by omega
                have j2 : (q : Int) < (n : Int) := by omega
                have j3 : (q : Int) < (n : Int) + 1 := by omega
                clear HX e1 hfb hf2 hf3 hnx
                go_upto_region 19 with fail
                as_aux_lemma =>
                  refine wp_region_till [(fun w' : World => ∃ m, w' = World.drewN wi m, none)] (by kernel_rfl) ?_ (fun hT => ?_)
                  · exact till_one ⟨1, rfl⟩
                  refine wpAnyG_takeW (i := 0) (oi := ⟨some 67, Op.fieldAddr 74 (Operand.tmp 3) 2, _, _, _, none⟩) (v := ?_) rfl (by kernel_rfl) (by kernel_rfl) (by kernel_rfl) (by kernel_rfl) (fun _ _ _ h => h) hT rfl ?_ (fun hT => ?_)
                  rotate_left
                  · intro wq; go_simp; rfl
                  simp only [Act.put, List.setIfInBounds_toArray, List.set_cons_zero, List.set_cons_succ]
                  refine wpAnyG_take (fun w' : World => ∃ m, w' = World.drewN wi m, none) (i := 1) (oi := ⟨some 68, Op.load 71 (Operand.tmp 67), _, _, _, none⟩) (v := ?_) rfl (by kernel_rfl) (by kernel_rfl) (by kernel_rfl) (by kernel_rfl) (by kernel_rfl) (by kernel_rfl) (by simp) (fun _ _ _ h => h) hT rfl ?_ (fun hT => ?_)
                  rotate_left
                  · intro wq hSw; obtain ⟨mw, rfl⟩ := hSw; go_simp; rfl
                  simp only [Act.put, List.setIfInBounds_toArray, List.set_cons_zero, List.set_cons_succ]
                  refine wpAnyG_takeW (i := 2) (oi := ⟨some 69, Op.move (Operand.tmp 15), _, _, _, none⟩) (v := ?_) rfl (by kernel_rfl) (by kernel_rfl) (by kernel_rfl) (by kernel_rfl) (fun _ _ _ h => h) hT rfl ?_ (fun hT => ?_)
                  rotate_left
                  · intro wq; go_simp; rfl
                  simp only [Act.put, List.setIfInBounds_toArray, List.set_cons_zero, List.set_cons_succ]
                  refine wpAnyG_takeW (i := 3) (oi := ⟨some 70, Op.fieldAddr 79 (Operand.tmp 10) 0, _, _, _, none⟩) (v := ?_) rfl (by kernel_rfl) (by kernel_rfl) (by kernel_rfl) (by kernel_rfl) (fun _ _ _ h => h) hT rfl ?_ (fun hT => ?_)
                  rotate_left
                  · intro wq; go_simp; rfl
                  simp only [Act.put, List.setIfInBounds_toArray, List.set_cons_zero, List.set_cons_succ]
                  refine wpAnyG_take (fun w' : World => ∃ m, w' = World.drewN wi m, none) (i := 4) (oi := ⟨some 71, Op.load 23 (Operand.tmp 70), _, _, _, none⟩) (v := ?_) rfl (by kernel_rfl) (by kernel_rfl) (by kernel_rfl) (by kernel_rfl) (by kernel_rfl) (by kernel_rfl) (by simp) (fun _ _ _ h => h) hT rfl ?_ (fun hT => ?_)
                  rotate_left
                  · intro wq hSw; obtain ⟨mw, rfl⟩ := hSw; go_simp; rfl
                  simp only [Act.put, List.setIfInBounds_toArray, List.set_cons_zero, List.set_cons_succ]
                  refine wpAnyG_takeW (i := 5) (oi := ⟨some 72, Op.move (Operand.tmp 14), _, _, _, none⟩) (v := ?_) rfl (by kernel_rfl) (by kernel_rfl) (by kernel_rfl) (by kernel_rfl) (fun _ _ _ h => h) hT rfl ?_ (fun hT => ?_)
                  rotate_left
                  · intro wq; go_simp; rfl
                  simp only [Act.put, List.setIfInBounds_toArray, List.set_cons_zero, List.set_cons_succ]
                  refine wpAnyG_takeW (i := 6) (oi := ⟨some 73, Op.indexAddr 23 (Operand.tmp 71) (Operand.tmp 72), _, _, _, none⟩) (v := ?_) rfl (by kernel_rfl) (by kernel_rfl) (by kernel_rfl) (by kernel_rfl) (fun _ _ _ h => h) hT rfl ?_ (fun hT => ?_)
                  rotate_left
                  · intro wq; go_simp; rfl
                  simp only [Act.put, List.setIfInBounds_toArray, List.set_cons_zero, List.set_cons_succ]
                  refine wpAnyG_take (fun w' : World => ∃ m, w' = World.drewN wi m, none) (i := 7) (oi := ⟨some 74, Op.load 24 (Operand.tmp 73), _, _, _, none⟩) (v := ?_) rfl (by kernel_rfl) (by kernel_rfl) (by kernel_rfl) (by kernel_rfl) (by kernel_rfl) (by kernel_rfl) (by simp) (fun _ _ _ h => h) hT rfl ?_ (fun hT => ?_)
                  rotate_left
                  · intro wq hSw; obtain ⟨mw, rfl⟩ := hSw; go_simp; rfl
                  simp only [Act.put, List.setIfInBounds_toArray, List.set_cons_zero, List.set_cons_succ]
                  refine wpAnyG_takeW (i := 8) (oi := ⟨some 75, Op.move (Operand.tmp 16), _, _, _, none⟩) (v := ?_) rfl (by kernel_rfl) (by kernel_rfl) (by kernel_rfl) (by kernel_rfl) (fun _ _ _ h => h) hT rfl ?_ (fun hT => ?_)
                  rotate_left
                  · intro wq; go_simp; rfl
                  simp only [Act.put, List.setIfInBounds_toArray, List.set_cons_zero, List.set_cons_succ]
                  refine wpAnyG_takeW (i := 9) (oi := ⟨some 76, Op.indexAddr 24 (Operand.tmp 74) (Operand.tmp 75), _, _, _, none⟩) (v := ?_) rfl (by kernel_rfl) (by kernel_rfl) (by kernel_rfl) (by kernel_rfl) (fun _ _ _ h => h) hT rfl ?_ (fun hT => ?_)
                  rotate_left
                  · intro wq; go_simp; rfl
                  simp only [Act.put, List.setIfInBounds_toArray, List.set_cons_zero, List.set_cons_succ]
                  refine wpAnyG_take (fun w' : World => ∃ m, w' = World.drewN wi m, none) (i := 10) (oi := ⟨some 77, Op.load 25 (Operand.tmp 76), _, _, _, none⟩) (v := ?_) rfl (by kernel_rfl) (by kernel_rfl) (by kernel_rfl) (by kernel_rfl) (by kernel_rfl) (by kernel_rfl) (by simp) (fun _ _ _ h => h) hT rfl ?_ (fun hT => ?_)
                  rotate_left
                  · intro wq hSw; obtain ⟨mw, rfl⟩ := hSw; go_simp; rfl
                  simp only [Act.put, List.setIfInBounds_toArray, List.set_cons_zero, List.set_cons_succ]
                  refine wpAnyG_takeW (i := 11) (oi := ⟨some 78, Op.move (Operand.tmp 13), _, _, _, none⟩) (v := ?_) rfl (by kernel_rfl) (by kernel_rfl) (by kernel_rfl) (by kernel_rfl) (fun _ _ _ h => h) hT rfl ?_ (fun hT => ?_)
                  rotate_left
                  · intro wq; go_simp; rfl
                  simp only [Act.put, List.setIfInBounds_toArray, List.set_cons_zero, List.set_cons_succ]
                  refine wpAnyG_takeW (i := 12) (oi := ⟨some 79, Op.move (Operand.tmp 16), _, _, _, none⟩) (v := ?_) rfl (by kernel_rfl) (by kernel_rfl) (by kernel_rfl) (by kernel_rfl) (fun _ _ _ h => h) hT rfl ?_ (fun hT => ?_)
                  rotate_left
                  · intro wq; go_simp; rfl
                  simp only [Act.put, List.setIfInBounds_toArray, List.set_cons_zero, List.set_cons_succ]
                  refine wpAnyG_takeW (i := 13) (oi := ⟨some 80, Op.indexAddr 24 (Operand.tmp 78) (Operand.tmp 79), _, _, _, none⟩) (v := ?_) rfl (by kernel_rfl) (by kernel_rfl) (by kernel_rfl) (by kernel_rfl) (fun _ _ _ h => h) hT rfl ?_ (fun hT => ?_)
                  rotate_left
                  · intro wq; go_simp; rfl
                  simp only [Act.put, List.setIfInBounds_toArray, List.set_cons_zero, List.set_cons_succ]
                  refine wpAnyG_take (fun w' : World => ∃ m, w' = World.drewN wi m, none) (i := 14) (oi := ⟨some 81, Op.load 25 (Operand.tmp 80), _, _, _, none⟩) (v := ?_) rfl (by kernel_rfl) (by kernel_rfl) (by kernel_rfl) (by kernel_rfl) (by kernel_rfl) (by kernel_rfl) (by simp) (fun _ _ _ h => h) hT rfl ?_ (fun hT => ?_)
                  rotate_left
                  · intro wq hSw; obtain ⟨mw, rfl⟩ := hSw; go_simp; rfl
                  simp only [Act.put, List.setIfInBounds_toArray, List.set_cons_zero, List.set_cons_succ]
                  refine wpAnyG_ready (rs := [15]) (by kernel_rfl) (by simp) ?_
                  refine AllReadyG.cons (o := ⟨some 82, Op.call { callee := Callee.value (Operand.tmp 68), args := #[Operand.tmp 69, Operand.tmp 77, Operand.tmp 81], argTypes := #[25, 25, 25] }, _, _, _, none⟩) rfl (fun K hK => ?_) ?_
                  · skip
                    go_simp
                    refine (less_any _ _ _ _).mono ?_
                    rintro e we ⟨r2, m2, rfl, rfl, hw4, hf4⟩
                    refine hK _ _ (till_one ⟨1 + m2, by simp⟩) (fun hT => ?_)
                    try simp only [Act.put, List.setIfInBounds_toArray, List.set_cons_zero, List.set_cons_succ]
                    refine wpAnyG_takeW (i := 16) (oi := ⟨some 15, Op.assign (Operand.tmp 82), _, _, _, none⟩) (v := ?_) rfl (by kernel_rfl) (by kernel_rfl) (by kernel_rfl) (by kernel_rfl) (fun _ _ _ h => h) hT rfl ?_ (fun hT => ?_)
                    rotate_left
                    · intro wq; go_simp; rfl
                    simp only [Act.put, List.setIfInBounds_toArray, List.set_cons_zero, List.set_cons_succ]
                    refine wpAnyG_done (by kernel_rfl) ?_ _
                    have HL8 := Lib.hid (HL.out.drewN (1 + m2))
                    have HF8 := Lib.hid (HF.out r2 hf4)
                    clear hT hf4 HL HF f1 f2 f3 f4 qb0 qb1 qb2 qb3
                    go_wp2_with fail
                    go_roundw
                    case rel => exact ⟨q + 1, r2, by omega, by omega, by go_num, rfl, hw4, HF8.out, HL8.out⟩
                    case measure => simp [intOf]; omega
                  exact AllReadyG.nil
              · obtain rfl : n = q := by omega
                obtain ⟨b2, e1, hw2, hf2⟩ := HM5.out i i (by omega) (by omega)
                have f1 := (HX.below.cell (p := ⟨R i, i, none⟩) (World.block_lt_of_cell? _ _ e1)).trans e1
                obtain ⟨b3, f4, z4, _, _⟩ := HX.num (j := i) (by omega)
                have HF : Hid (∀ r, fl r = fdiv (fl b) (fl b2) → fl r = fdiv (backI n S.M i n) (S.M i i)) := fun r h => by rw [h, hfb, hf2]
                have HL := Lib.hid HX
                have j1 : (i : Int) < (n : Int) + 1 := by omega
                clear HX e1 hfb hf2
                go_upto_region 20 with fail
                as_aux_lemma =>
                  refine wp_region_till [(fun w' : World => ∃ m, w' = World.drewN wi m, some 15)] (by kernel_rfl) ?_ (fun hT => ?_)
                  · exact till_one ⟨1, rfl⟩
                  refine wpAnyG_takeW (i := 0) (oi := ⟨some 83, Op.move (Operand.tmp 13), _, _, _, none⟩) (v := ?_) rfl (by kernel_rfl) (by kernel_rfl) (by kernel_rfl) (by kernel_rfl) (fun _ _ _ h => h) hT rfl ?_ (fun hT => ?_)
                  rotate_left
                  · intro wq; go_simp; rfl
                  simp only [Act.put, List.setIfInBounds_toArray, List.set_cons_zero, List.set_cons_succ]
                  refine wpAnyG_takeW (i := 1) (oi := ⟨some 84, Op.move (Operand.tmp 14), _, _, _, none⟩) (v := ?_) rfl (by kernel_rfl) (by kernel_rfl) (by kernel_rfl) (by kernel_rfl) (fun _ _ _ h => h) hT rfl ?_ (fun hT => ?_)
                  rotate_left
                  · intro wq; go_simp; rfl
                  simp only [Act.put, List.setIfInBounds_toArray, List.set_cons_zero, List.set_cons_succ]
                  refine wpAnyG_takeW (i := 2) (oi := ⟨some 85, Op.fieldAddr 74 (Operand.tmp 3) 1, _, _, _, none⟩) (v := ?_) rfl (by kernel_rfl) (by kernel_rfl) (by kernel_rfl) (by kernel_rfl) (fun _ _ _ h => h) hT rfl ?_ (fun hT => ?_)
                  rotate_left
                  · intro wq; go_simp; rfl
                  simp only [Act.put, List.setIfInBounds_toArray, List.set_cons_zero, List.set_cons_succ]
                  refine wpAnyG_take (fun w' : World => ∃ m, w' = World.drewN wi m, some 15) (i := 3) (oi := ⟨some 86, Op.load 70 (Operand.tmp 85), _, _, _, none⟩) (v := ?_) rfl (by kernel_rfl) (by kernel_rfl) (by kernel_rfl) (by kernel_rfl) (by kernel_rfl) (by kernel_rfl) (by simp) (fun _ _ _ h => h) hT rfl ?_ (fun hT => ?_)
                  rotate_left
                  · intro wq hSw; obtain ⟨mw, rfl⟩ := hSw; go_simp; rfl
                  simp only [Act.put, List.setIfInBounds_toArray, List.set_cons_zero, List.set_cons_succ]
                  refine wpAnyG_takeW (i := 4) (oi := ⟨some 87, Op.move (Operand.tmp 15), _, _, _, none⟩) (v := ?_) rfl (by kernel_rfl) (by kernel_rfl) (by kernel_rfl) (by kernel_rfl) (fun _ _ _ h => h) hT rfl ?_ (fun hT => ?_)
                  rotate_left
                  · intro wq; go_simp; rfl
                  simp only [Act.put, List.setIfInBounds_toArray, List.set_cons_zero, List.set_cons_succ]
                  refine wpAnyG_takeW (i := 5) (oi := ⟨some 88, Op.fieldAddr 79 (Operand.tmp 10) 0, _, _, _, none⟩) (v := ?_) rfl (by kernel_rfl) (by kernel_rfl) (by kernel_rfl) (by kernel_rfl) (fun _ _ _ h => h) hT rfl ?_ (fun hT => ?_)
                  rotate_left
                  · intro wq; go_simp; rfl
                  simp only [Act.put, List.setIfInBounds_toArray, List.set_cons_zero, List.set_cons_succ]
                  refine wpAnyG_take (fun w' : World => ∃ m, w' = World.drewN wi m, some 15) (i := 6) (oi := ⟨some 89, Op.load 23 (Operand.tmp 88), _, _, _, none⟩) (v := ?_) rfl (by kernel_rfl) (by kernel_rfl) (by kernel_rfl) (by kernel_rfl) (by kernel_rfl) (by kernel_rfl) (by simp) (fun _ _ _ h => h) hT rfl ?_ (fun hT => ?_)
                  rotate_left
                  · intro wq hSw; obtain ⟨mw, rfl⟩ := hSw; go_simp; rfl
                  simp only [Act.put, List.setIfInBounds_toArray, List.set_cons_zero, List.set_cons_succ]
                  refine wpAnyG_takeW (i := 7) (oi := ⟨some 90, Op.move (Operand.tmp 14), _, _, _, none⟩) (v := ?_) rfl (by kernel_rfl) (by kernel_rfl) (by kernel_rfl) (by kernel_rfl) (fun _ _ _ h => h) hT rfl ?_ (fun hT => ?_)
                  rotate_left
                  · intro wq; go_simp; rfl
                  simp only [Act.put, List.setIfInBounds_toArray, List.set_cons_zero, List.set_cons_succ]
                  refine wpAnyG_takeW (i := 8) (oi := ⟨some 91, Op.indexAddr 23 (Operand.tmp 89) (Operand.tmp 90), _, _, _, none⟩) (v := ?_) rfl (by kernel_rfl) (by kernel_rfl) (by kernel_rfl) (by kernel_rfl) (fun _ _ _ h => h) hT rfl ?_ (fun hT => ?_)
                  rotate_left
                  · intro wq; go_simp; rfl
                  simp only [Act.put, List.setIfInBounds_toArray, List.set_cons_zero, List.set_cons_succ]
                  refine wpAnyG_take (fun w' : World => ∃ m, w' = World.drewN wi m, some 15) (i := 9) (oi := ⟨some 92, Op.load 24 (Operand.tmp 91), _, _, _, none⟩) (v := ?_) rfl (by kernel_rfl) (by kernel_rfl) (by kernel_rfl) (by kernel_rfl) (by kernel_rfl) (by kernel_rfl) (by simp) (fun _ _ _ h => h) hT rfl ?_ (fun hT => ?_)
                  rotate_left
                  · intro wq hSw; obtain ⟨mw, rfl⟩ := hSw; go_simp; rfl
                  simp only [Act.put, List.setIfInBounds_toArray, List.set_cons_zero, List.set_cons_succ]
                  refine wpAnyG_takeW (i := 10) (oi := ⟨some 93, Op.move (Operand.tmp 14), _, _, _, none⟩) (v := ?_) rfl (by kernel_rfl) (by kernel_rfl) (by kernel_rfl) (by kernel_rfl) (fun _ _ _ h => h) hT rfl ?_ (fun hT => ?_)
                  rotate_left
                  · intro wq; go_simp; rfl
                  simp only [Act.put, List.setIfInBounds_toArray, List.set_cons_zero, List.set_cons_succ]
                  refine wpAnyG_takeW (i := 11) (oi := ⟨some 94, Op.indexAddr 24 (Operand.tmp 92) (Operand.tmp 93), _, _, _, none⟩) (v := ?_) rfl (by kernel_rfl) (by kernel_rfl) (by kernel_rfl) (by kernel_rfl) (fun _ _ _ h => h) hT rfl ?_ (fun hT => ?_)
                  rotate_left
                  · intro wq; go_simp; rfl
                  simp only [Act.put, List.setIfInBounds_toArray, List.set_cons_zero, List.set_cons_succ]
                  refine wpAnyG_take (fun w' : World => ∃ m, w' = World.drewN wi m, some 15) (i := 12) (oi := ⟨some 95, Op.load 25 (Operand.tmp 94), _, _, _, none⟩) (v := ?_) rfl (by kernel_rfl) (by kernel_rfl) (by kernel_rfl) (by kernel_rfl) (by kernel_rfl) (by kernel_rfl) (by simp) (fun _ _ _ h => h) hT rfl ?_ (fun hT => ?_)
                  rotate_left
                  · intro wq hSw; obtain ⟨mw, rfl⟩ := hSw; go_simp; rfl
                  simp only [Act.put, List.setIfInBounds_toArray, List.set_cons_zero, List.set_cons_succ]
                  refine wpAnyG_ready (rs := [13]) (by kernel_rfl) (by simp) ?_
                  refine AllReadyG.cons (o := ⟨some 96, Op.call { callee := Callee.value (Operand.tmp 86), args := #[Operand.tmp 87, Operand.tmp 95], argTypes := #[25, 25] }, _, _, _, none⟩) rfl (fun K hK => ?_) ?_
                  · skip
                    go_simp
                    refine (over_any _ _ _).mono ?_
                    rintro e we ⟨r2, m2, rfl, rfl, hw4, hf4⟩
                    refine hK _ _ (till_one ⟨1 + m2, by simp⟩) (fun hT => ?_)
                    try simp only [Act.put, List.setIfInBounds_toArray, List.set_cons_zero, List.set_cons_succ]
                    refine wpAnyG_takeW (i := 14) (oi := ⟨some 97, Op.indexAddr 24 (Operand.tmp 83) (Operand.tmp 84), _, _, _, none⟩) (v := ?_) rfl (by kernel_rfl) (by kernel_rfl) (by kernel_rfl) (by kernel_rfl) (fun _ _ _ h => h) hT rfl ?_ (fun hT => ?_)
                    rotate_left
                    · intro wq; go_simp; rfl
                    simp only [Act.put, List.setIfInBounds_toArray, List.set_cons_zero, List.set_cons_succ]
                    refine wpAnyG_ready (rs := [15]) (by kernel_rfl) (by simp) ?_
                    refine AllReadyG.cons (o := ⟨none, Op.store 25 (Operand.tmp 97) (Operand.tmp 96), _, _, _, none⟩) rfl (fun K hK => ?_) ?_
                    · skip
                      obtain ⟨mL, hmL⟩ := hT _ (List.mem_singleton.2 rfl) rfl
                      rw [hmL]
                      go_simp
                      refine hK _ _ (till_past rfl) (fun hT => ?_)
                      try simp only [Act.put, List.setIfInBounds_toArray, List.set_cons_zero, List.set_cons_succ]
                      refine wpAnyG_done (by kernel_rfl) ?_ _
                      have HL8 := Lib.hid ((HL.out.drewN mL).set (by omega) hw4 (HF.out r2 hf4))
                      clear hT hmL hf4 HL HF f1 f2 f3 f4 z4 qb0 qb1 qb2 qb3
                      go_wp2_with fail
                      go_roundw
                      case rel => exact ⟨i, by omega, by go_num, HL8.out⟩
                      case measure => simp [intOf]
                    exact AllReadyG.nil
                  exact AllReadyG.nil
          · obtain rfl : m = 0 := by omega
            obtain ⟨qb0, qb1, qb2, qb3⟩ := (HX5.out.below HX.below HX5.out.lt).cells
            have HL := Lib.hid HX
            have HPB : Hid (∀ k, k < n → ffin (backU n S.M 0 k) = false → solveF rows rb = ([], 141)) := fun k hk hf => by
              unfold solveF
              rw [HCH.out, HNR.out, HBS.out, solvedF_no HST.out hk hf]; rfl
            have HPG : Hid ((∀ k, k < n → ffin (backU n S.M 0 k) = true) → solveF rows rb = ((List.range n).map (backU n S.M 0), 0)) := fun hf => by
              unfold solveF
              rw [HCH.out, HNR.out, HBS.out, solvedF_yes HST.out hf]; rfl
            clear HX
            obtain ⟨wi, rfl⟩ : ∃ wi : World, wi = wr := ⟨_, rfl⟩
            rw [show ((0 : Nat) : Int) - 1 = -1 from rfl]
            go_wp2_with fail
            go_loop [100] (fun i => ∃ k : Nat, k ≤ n ∧ i = .int .i64 k ∧ Hid (∀ j, j < k → ffin (backU n S.M 0 j) = true)) (fun i => n - (intOf i).toNat)
            case atStart => exact ⟨0, Nat.zero_le _, rfl, fun j hj => absurd hj (Nat.not_lt_zero j)⟩
            case round =>
              obtain ⟨k, hk, rfl, hpre⟩ := hrel
              by_cases hlt : k < n
              · obtain ⟨b, hc, _, hwb, hfb⟩ := HL.out.num hlt
                have HWB := Lib.hid hwb
                have HFB := Lib.hid hfb
                clear hwb hfb
                cases hfin : finB b
                · go_wp2_with (go_at_call 43; refine (finite_any _ _ HWB.out).mono ?_; rintro e w' ⟨rfl, rfl⟩)
                  go_ret2
                  have hP := HPB.out k hlt (by rw [← HFB.out, ← finB_eq]; exact hfin)
                  exact ⟨.slice none 0 0, [], by rw [hP]; rfl, HW5.out.trans (HL.out.below.mono HW5.out.size), World.ownsRow_nil _ _ _ _, (fun _ h => by cases h), by rw [hP]; rfl⟩
                · go_wp2_with (go_at_call 43; refine (finite_any _ _ HWB.out).mono ?_; rintro e w' ⟨rfl, rfl⟩)
                  go_round
                  case rel =>
                    refine ⟨k + 1, by omega, by go_num, fun j hj => ?_⟩
                    by_cases e : j = k
                    · subst e; rw [← HFB.out, ← finB_eq]; exact hfin
                    · exact hpre.out j (by omega)
                  case measure => simp [intOf]; omega
              · obtain rfl : n = k := by omega
                have hP := HPG.out hpre.out
                have HP := Lib.hid hP
                obtain ⟨v, xs, hv, h1, h2, h3⟩ := HL.out.owns HW5.out.size hn128
                have HO := Lib.hid (show _ ∧ _ ∧ _ from ⟨h1, h2, h3⟩)
                subst hv
                clear hP hpre h1 h2 h3
                go_wp2_with fail
                go_ret2
                exact ⟨_, xs, by rw [HP.out]; rfl, HW5.out.trans (HL.out.below.mono HW5.out.size), HO.out.1, HO.out.2.1, by rw [HP.out]; exact HO.out.2.2⟩
    · have HP : Hid (solveF rows rb = ([], bs)) := by unfold Hid solveF; rw [HCH.out, HNR.out, HBS.out]; simp [h1]
      have hne : (bs != 0) = true := by rw [bne_iff_ne]; exact h1
      clear hbs
      obtain ⟨ba, bm, bc, rfl, _⟩ := hbv
      go_enter Try.func39, Try.ntmps39
      go_wp2_with fail
      refine (check_any _ rows _ (HV.out.below HBA.out) HN.out HM.out).mono ?_
      rw [HCH.out]
      rintro e w2 ⟨rfl, hb2⟩
      have HX2 : Hid (BoxF w2 w.heap.size) := (BoxF.made w).below hb2 (BoxF.made w).lt
      obtain ⟨q0, q1, q2, q3⟩ := HX2.out.cells
      go_wp2_with fail
      refine (beside_any _ rb n _ ((HBV.out.below HBA.out).below hb2) (by omega) HRB.out).mono ?_
      rw [HBS.out]
      rintro e w3 ⟨rfl, hb3⟩
      go_wp2_with fail
      go_ret2
      exact ⟨.slice none 0 0, [], by rw [HP.out]; rfl, (HBA.out.trans (hb2.mono HBA.out.size)).trans (hb3.mono (Nat.le_trans HBA.out.size hb2.size)), World.ownsRow_nil _ _ _ _, (fun _ h => by cases h), by rw [HP.out]; rfl⟩
  · clear hv hbv
    obtain ⟨a, m, ac, rfl, _⟩ := id HV.out
    have HP : Hid (solveF rows rb = ([], ch)) := by unfold Hid solveF; rw [HCH.out, if_pos h0]
    obtain ⟨q0, q1, q2, q3⟩ := (BoxF.made w).cells
    have hne : (ch != 0) = true := by rw [bne_iff_ne]; exact h0
    go_enter Try.func39, Try.ntmps39
    go_wp2_with fail
    refine (check_any _ rows _ (HV.out.below HBA.out) HN.out HM.out).mono ?_
    rw [HCH.out]
    rintro e w2 ⟨rfl, hb2⟩
    go_wp2_with fail
    go_ret2
    exact ⟨.slice none 0 0, [], by rw [HP.out]; rfl, HBA.out.trans (hb2.mono HBA.out.size), World.ownsRow_nil _ _ _ _, (fun _ h => by cases h), by rw [HP.out]; rfl⟩
end Go.Proofs.Ytghhanifakllpaa
