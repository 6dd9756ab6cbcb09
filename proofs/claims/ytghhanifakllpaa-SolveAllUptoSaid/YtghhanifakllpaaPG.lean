/- The program's steps, in the clean executor: the whole. -/
import Derived.Test.YtghhanifakllpaaPF
namespace Go.Proofs.Ytghhanifakllpaa
open Go.Clean

variable {known : Known}
set_option maxHeartbeats 1000000 in
set_option maxRecDepth 10000 in
theorem steps_ok (K : KP known) (n : Nat) (rs : List (List F)) (va vb : Value) (bs : List F) (m : Mem) (hw0 : WF m) (hv : FM m va rs) (hb : (vb = nilV ∧ bs = []) ∨ (FL m vb bs ∧ bs.length = rs.length)) (hlen : ∀ i, i < rs.length → (rat' rs i).length = rs.length) (hpos : 0 < rs.length) (hlen2 : rs.length ≤ 128) {M : Mx}
    (hM : ∀ i j, i < rs.length → j < rs.length → M i j = fat (rat' rs i) j) (hMB : ∀ i, i < rs.length → M i rs.length = if bs.length = rs.length then fat bs i else fzero) {Q : Value → Mem → Prop}
    (hQ : ∀ m' kd s8 v l ρ rw, (∀ c, c < m.next → m'.at c = m.at c) → Lap m' kd (m.next + 2) s8 v l rs.length ρ rw → Conp l ρ rw rs.length (stepsS rs.length M).1 → Q (.tuple ⟨[.agg ⟨[v 1, v 2, v 3, v 4]⟩, .bool (stepsS rs.length M).2]⟩) m') :
    Gives (callN Try.prog known (n + 2) 42 [kA, va, vb]) m Q := by
  refine gives_fn (nt := 209) (K.non _ rfl _) Try.func42 rfl rfl rfl (Nat.le_of_ble_eq_true rfl) fun fr hn hd hargs => ?_
  have h0 : fr.at 0 = _ := hargs 0 _ rfl
  have h1 : fr.at 1 = _ := hargs 1 _ rfl
  have h2 : fr.at 2 = _ := hargs 2 _ rfl
  clear hargs
  obtain ⟨aa, ac, hva, _⟩ := id hv
  simp [h0, h1, hva, hn, kA, oneV, nilV]
  refine ⟨by simp [kL, fnV], ?_⟩
  have hold : ∀ c, c < m.next → (((m.nw ⟨kL, 1, false, false⟩).nw ⟨[Value.slice none 0 0, .slice none 0 0, .slice none 0 0, .slice none 0 0], 1, false, false⟩).nw ⟨[Value.slice none 0 0, .slice none 0 0, .slice none 0 0, .slice none 0 0], 1, false, false⟩).at c = m.at c := fun c hc => by
    simp
    rw [if_neg (by omega), if_neg (by omega), if_neg (by omega)]
  refine via (X := pSeed (bodyOf Try.f42)) (by kernel_rfl) (seed_loop K n (va := va) (vb := vb) (rs := rs) (bs := bs) (M := M) (kb := m.next) (r6 := m.next + 1) (s8 := m.next + 2) (base := m.next + 2) (kd := fun c => if c = m.next + 2 then 0 else 6) hw0 (by omega) hold hv hb hlen hpos hlen2 hM hMB ?_ ?_ ?_ ?_ ?_ ?_ ?_ ?_ ?_ ?_ ?_ ⟨?_, ?_, ?_, ?_, ?_, ?_⟩ fun fr2 m2 f1 f2 g3 g6 g8 g9 ho2 hS2 => ?_)
  · simp [hn]
  · simp [hd]
  · simp [h2]
  · simp
  · simp
  · simp
  · simp
  · simp [hva]
  · simp
  · simp
  · simp
  · exact ((Up.nw _ _).trans ((Up.nw _ _).trans (Up.nw _ _))).wf hw0
  · simp [rec4, nilV]
  · simp
  · intro k _ _
    exact ⟨rfl, .inl ⟨rfl, rfl⟩⟩
  · intro i hi; omega
  · intro i j hi; omega
  have hkb2 : m2.at m.next = some ⟨kL, 1, false, false⟩ := by rw [ho2 _ (by omega)]; simp; intro h; omega
  have hr62 : m2.at (m.next + 1) = some ⟨[Value.slice none 0 0, .slice none 0 0, .slice none 0 0, .slice none 0 0], 1, false, false⟩ := by rw [ho2 _ (by omega)]; simp
  have hold2 : ∀ c, c < m.next → m2.at c = m.at c := fun c hc => by rw [ho2 c (by omega), hold c hc]
  simp [f1, g9]
  refine via (X := qMain (bodyOf Try.f42)) (by kernel_rfl) (drive_loop K n (base := m.next + 2) (kb := m.next) (r6 := m.next + 1) (s8 := m.next + 2) (N := rs.length) (S := startS M) hlen2 ⟨?_, ?_, ?_, ?_, ?_, ?_, ?_, ?_⟩ hkb2 (by omega) ⟨_, hr62, rfl⟩ (by omega) hS2 ⟨rfl, rfl⟩ (fun fr3 m3 k hF ho hS3 hok => ?_) (fun fr3 m3 k kd3 v3 l3 ρ3 rw3 hF ho hL3 hC3 hr g7 hok => ?_))
  · simp [f1]
  · simp [f2]
  · simp [g3]
  · simp [g6]
  · simp [g8]
  · simp [g9]
  · simp
  · simp
  · obtain ⟨f1, f2, f3, f4, f5, f6, f8, f9⟩ := hF
    obtain ⟨kd3, v3, l3, ρ3, rw3, hL3, hC3⟩ := hS3
    have hc3 := hL3.cell
    simp [f1, f4, f5, hc3, rec4, ld79, takeN]
    refine storeQ_rule (y := ⟨[Value.slice none 0 0, .slice none 0 0, .slice none 0 0, .slice none 0 0], 1, false, false⟩) (by simp [ho (m.next + 1) (by omega), hr62]) rfl ?_ (lay_all _ _ rfl) fun m8 n8 _ e8 => ?_
    · simp [oneV_p hL3]
    simp only [Mem.next_rd, Mem.at_rd] at n8 e8
    have hw8 : WF m8 := fun c x hc => by
      rw [n8]
      rw [e8] at hc
      split at hc
      · have := hL3.wf _ _ hc3; omega
      · exact hL3.wf c x hc
    have h8 : m8.at (m.next + 1) = some ⟨[v3 1, v3 2, v3 3, v3 4], 1, false, false⟩ := by rw [e8, if_pos rfl]; rfl
    simp [f1, f2, f4, h8, ld79, takeN]
    have hQ' := hQ (m8.rd (m.next + 1)) kd3 (m.next + 2) v3 l3 ρ3 rw3 (fun c hc => by rw [Mem.at_rd, e8, if_neg (by omega), ho c (by omega), hold2 c hc]) ((hL3.frame hw8 fun c hc => by rw [e8, if_neg (by omega)]).same (Nat.le_refl _) fun _ => rfl) hC3
    rw [show (stepsS rs.length M).2 = true from hok] at hQ'
    exact hQ'
  · obtain ⟨f1, f2, f3, f4, f5, f6, f8, f9⟩ := hF
    simp [f2, f4, hr, g7, rec4, ld79, takeN]
    have hQ' := hQ (m3.rd (m.next + 1)) kd3 (m.next + 2) v3 l3 ρ3 rw3 (fun c hc => by rw [Mem.at_rd, ho c (by omega) (by omega), hold2 c hc]) (hL3.same (Nat.le_refl _) fun _ => rfl) hC3
    rw [show (stepsS rs.length M).2 = false from hok] at hQ'
    exact hQ'
end Go.Proofs.Ytghhanifakllpaa
