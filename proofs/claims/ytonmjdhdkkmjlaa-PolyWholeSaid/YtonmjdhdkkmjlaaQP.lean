/- The law of chapter 8 in the clean executor: of small whole numbers all is exact. -/
import Derived.Test.YtonmjdhdkkmjlaaQO
namespace Go.Proofs.Ytonmjdhdkkmjlaa
open Go.Clean

section
set_option maxRecDepth 10000
theorem nine_near (x y : Int) : NB (nine x, nine y) 12 := by
  have h := cs8_near (fun i => if i = 0 then x else y) 0
  exact h
theorem polyWhole_ok (d : Nat) {m : Mem} {v1 v2 : Value} {n1 n2 : Nat} {xs1 xs2 : Nat → Int} (hw : MW m) (h1 : IL m v1 n1 xs1) (h2 : IL m v2 n2 xs2) (x y u v : Int) {Q : Value → Mem → Prop} (hQ : ∀ m', Up m m' → Q (.bool true) m') :
    Gives (callN Try.prog known (d + 13) 3 [v1, v2, .int .i64 x, .int .i64 y, .int .i64 u, .int .i64 v]) m Q := by
  refine gives_fn (nt := 184) rfl Try.func3 rfl rfl rfl (Nat.le_of_ble_eq_true rfl) fun fr hn hd hargs => ?_
  have h0 : fr.at 0 = _ := hargs 0 _ rfl
  have g1 : fr.at 1 = _ := hargs 1 _ rfl
  have g2 : fr.at 2 = _ := hargs 2 _ rfl
  have g3 : fr.at 3 = _ := hargs 3 _ rfl
  have g4 : fr.at 4 = _ := hargs 4 _ rfl
  have g5 : fr.at 5 = _ := hargs 5 _ rfl
  clear hargs
  simp [hn]
  refine (gives_known (g := M.ret (.bool true)) rfl _ _).2 ((gives_ret _ _ _).2 ?_)
  simp [hn, h0]
  refine small_ok _ hw h1 fun m1 ba ca gra na a hu1 hba hba2 hma hca hoka => ?_
  have hw1 := hu1.wf hw
  simp [hn, g1]
  refine small_ok _ hw1 (h2.up hw hu1) fun m2 bb cb grb nb b hu2 hbb hbb2 hmb hcb hokb => ?_
  have hw2 := hu2.wf hw1
  have hA : OW m2 (.slice (some ⟨ba, 0, none⟩) na na) ba na a := ⟨rfl, ⟨ca, gra, hu2.at hma hw1, hca⟩, hoka⟩
  have hB : OW m2 (.slice (some ⟨bb, 0, none⟩) nb nb) bb nb b := ⟨rfl, ⟨cb, grb, hmb, hcb⟩, hokb⟩
  have hne : ba ≠ bb := by omega
  have hU2 := hu1.trans hu2
  have hn1 := hu1.next
  have h7 := hoka.most
  have h0' := hoka.pos
  have k7 := hokb.most
  have hz : WC (wholeF x, wholeF y) (nine x, nine y) := ⟨WF.whole x, WF.whole y⟩
  have hy : WC (wholeF u, wholeF v) (nine u, nine v) := ⟨WF.whole u, WF.whole v⟩
  have hzn := nine_near x y
  have hyn := nine_near u v
  simp [hn, g2, g3, g4, g5, run_whole, run_of8]
  refine add_ok _ hw2 hA.rp hB.rp (hoka.sum hokb) fun m3 vs ns hu3 hns hs => ?_
  have hw3 := hu3.wf hw2
  simp [hn, extractX]
  refine mul_ok _ hw3 (hA.up hw2 hu3).rp (hB.up hw2 hu3).rp (fun h => by have := hoka.last; rw [h] at this; exact this) (fun h => by have := hokb.last; rw [h] at this; exact this) (by omega) hoka.small hokb.small (hoka.conv hokb) fun m4 vp np hu4 hnp hp => ?_
  have hw4 := hu4.wf hw3
  simp [hn, extractX]
  refine shift_ok _ hw4 ((hA.up hw2 hu3).up hw3 hu4).rp hy (hyn.mono (by decide) (by decide)) hoka.bn (near12 hyn) (fun j i hji hi => ?_) (hoka.sh_near hyn) fun m5 vh nh hu5 hnh hh => ?_
  · rw [sh_tl h0' hji hi]
    exact Int.le_trans (t6 na h7 (j + 1) (by omega) i (by omega)) (by decide)
  have hw5 := hu5.wf hw4
  simp [hn, extractX, -code_seq]
  refine (code_seq _ _ _ _ _).2 ((code_seq _ _ _ _ _).2 ?_)
  simp [hn, yieldX, -code_seq]
  refine via (X := sRn 11 (bodyOf Try.f3)) (by kernel_rfl) (pw_vals d (m0 := m) (hU2.trans (hu3.trans (hu4.trans hu5))) hw5 (((hA.up hw2 hu3).up hw3 hu4).up hw4 hu5) (((hB.up hw2 hu3).up hw3 hu4).up hw4 hu5) hne (by omega) ((hs.up hw3 hu4).up hw4 hu5) (by omega) (hp.up hw4 hu5) (by omega) hh hnh hz hzn hy hyn ?_ ?_ ?_ ?_ ?_ ?_ ?_ ?_ ?_ hQ)
  · simp [hn]
  · simp [hd]
  · simp
  · simp
  · simp
  · simp
  · simp
  · simp
  · simp
end
end Go.Proofs.Ytonmjdhdkkmjlaa
