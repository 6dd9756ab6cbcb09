/- The clean executor at package solve: what it takes for known, and why. -/
import Derived.Test.YtghhanifakllpaaPHY
import Derived.Test.YtghhanifakllpaaKOY
import Derived.WalkSpells
import Derived.WalkLawsBesides
set_option linter.unusedSimpArgs false
set_option linter.unusedVariables false
namespace Go.Proofs.Ytghhanifakllpaa
open Go.RowKit Go.Clean

def bitsX : List Value → M Value
  | [.float .f64 a] => do
    M.guard (!Clean.isNaN a)
    M.ret (.int .u64 a)
  | _ => .fail
def nanF (x : F) : Bool := fcmp x x != some .eq
@[simp] theorem bin_fneq {P : Program} {t : TypeId} {xo yo : Operand} (x y : F) : binX P .neq t xo yo (.float .f64 (cOf x)) (.float .f64 (cOf y)) = some (.bool (fcmp x y != some .eq)) := bin_fcmp x y .neq rfl
/-! ### Functions without a body -/
theorem archMax_run (x y : Nat) (w : World) : (callFunc 71 #[.float .f64 x, .float .f64 y]).run Try.prog w = .ok (.value (.float .f64 (archR' x y))) w := by kernel_rfl
def fromX : List Value → M Value
  | [.int .u64 a] => M.ret (.float .f64 a.toNat)
  | _ => .fail
def absX : List Value → M Value
  | [.float .f64 a] => M.ret (.float .f64 (canon (a % 9223372036854775808)))
  | _ => .fail
def maxY : List Value → M Value
  | [.float .f64 a, .float .f64 b] => M.ret (.float .f64 (canon (archR' a b)))
  | _ => .fail
theorem and_abs' (a : Nat) : (bits .andNot .u64 (a : Int) 9223372036854775808).toNat = a % 9223372036854775808 := by
  have e0 : bits .andNot .u64 (a : Int) 9223372036854775808 = bits .andNot .u64 ((a % 18446744073709551616 : Nat) : Int) 9223372036854775808 := by
    show IntKind.u64.wrap ((BitVec.ofInt 64 (a : Int) &&& ~~~BitVec.ofInt 64 9223372036854775808).toNat : Int) = IntKind.u64.wrap ((BitVec.ofInt 64 ((a % 18446744073709551616 : Nat) : Int) &&& ~~~BitVec.ofInt 64 9223372036854775808).toNat : Int)
    have : BitVec.ofInt 64 (a : Int) = BitVec.ofInt 64 ((a % 18446744073709551616 : Nat) : Int) := by
      rw [BitVec.ofInt_natCast, BitVec.ofInt_natCast]
      apply BitVec.eq_of_toNat_eq
      simp [BitVec.toNat_ofNat]
    rw [this]
  have h := u64_andNot_nat (a % 18446744073709551616) 9223372036854775808 (Nat.mod_lt _ (by decide)) (by decide)
  have e : (((9223372036854775808 : Nat)) : Int) = 9223372036854775808 := rfl
  rw [e] at h
  rw [e0, h, Int.toNat_natCast, show 18446744073709551615 - 9223372036854775808 = 2 ^ 63 - 1 from by decide, Nat.and_two_pow_sub_one_eq_mod]
  omega
set_option maxHeartbeats 400000 in
theorem abs_all (a : Nat) (w : World) :
    Calls Try.prog 31 #[.float .f64 a] w fun e w' => e = .returned (.float .f64 (a % 9223372036854775808)) ∧ w = w' := by
  have h2 := and_abs' a
  go_enter Try.func31, Try.ntmps31
  go_wp2_with fail
  go_ret
  exact ⟨rfl, rfl⟩
theorem abs_fn (args : Array Value) (W : World) : (callFunc 31 args).run Try.prog W = .ok (.enter 31 args) W := by kernel_rfl
theorem nan_no : Clean.isNaN noNum = true := by decide
theorem FR_canon (z : Nat) : FR (canon z) z := by
  unfold canon
  cases h : Clean.isNaN z with
  | true => exact .inr ⟨nan_no, h⟩
  | false => exact .inl rfl
theorem FR_abs {x y : Nat} (h : FR x y) : FR (canon (x % 9223372036854775808)) (y % 9223372036854775808) := by
  have hm : ∀ b, Clean.isNaN (b % 9223372036854775808) = Clean.isNaN b := fun b => isNo_mod b
  rcases h with rfl | ⟨h1, h2⟩
  · exact FR_canon _
  · refine .inr ⟨?_, by rw [hm]; exact h2⟩
    unfold canon
    rw [hm, h1]
    exact nan_no
theorem arch_left {x : Nat} (y : Nat) (h : Clean.isNaN x = true) : archR' x y = if FloatKind.f64.decode y == .infinity false then FloatKind.f64.encode (.infinity false) else 0x7FF8000000000001 := by
  unfold archR'
  have h1 : (FloatKind.f64.decode x).isNaN = true := h
  have h2 : (FloatKind.f64.decode x == Ieee.Datum.infinity false) = false := by
    cases hd : FloatKind.f64.decode x with
    | nan s t => rfl
    | number s m e => rw [hd] at h1; cases h1
    | infinity s => rw [hd] at h1; cases h1
  simp only [h1, h2, Bool.false_or, Bool.true_or, if_true]
theorem arch_right {y : Nat} (x : Nat) (h : Clean.isNaN y = true) : archR' x y = if FloatKind.f64.decode x == .infinity false then FloatKind.f64.encode (.infinity false) else 0x7FF8000000000001 := by
  unfold archR'
  have h1 : (FloatKind.f64.decode y).isNaN = true := h
  have h2 : (FloatKind.f64.decode y == Ieee.Datum.infinity false) = false := by
    cases hd : FloatKind.f64.decode y with
    | nan s t => rfl
    | number s m e => rw [hd] at h1; cases h1
    | infinity s => rw [hd] at h1; cases h1
  simp only [h1, h2, Bool.or_false, Bool.or_true, if_true]
theorem FR_max {a a' b b' : Nat} (ha : FR a a') (hb : FR b b') : FR (canon (archR' a b)) (archR' a' b') := by
  have e : archR' a b = archR' a' b' := by
    rcases ha with rfl | ⟨h1, h2⟩
    · rcases hb with rfl | ⟨h3, h4⟩
      · rfl
      · rw [arch_right a h3, arch_right a h4]
    · have e1 : archR' a b = archR' a' b := by rw [arch_left b h1, arch_left b h2]
      rw [e1]
      rcases hb with rfl | ⟨h3, h4⟩
      · rfl
      · rw [arch_right a' h3, arch_right a' h4]
  rw [← e]
  exact FR_canon _

section
variable {N : Nat} {ρ : Env} {m m' : Mem} {w : World}
set_option maxRecDepth 100000 in
theorem bits_ok (args : List Value) : Local (bitsX args) ∧ ∀ m v m', bitsX args m = some (v, m') → ∀ N ρ w cargs, Rel N ρ m.t.get w → VRs ρ args cargs → Fresh ρ m m' → Does Try.prog N ρ m m' w v (callFunc 52 ⟨cargs⟩) := by
  unfold bitsX
  split
  · rename_i a
    refine ⟨Local.bind (Local.guard _) fun _ => Local.ret _, fun m v m' h N ρ w cargs hr ha hf => ?_⟩
    obtain ⟨u, m1, h1, h2⟩ := Clean.bind_some h
    obtain ⟨hg, rfl⟩ := guard_some h1
    obtain ⟨rfl, rfl⟩ := ret_some h2
    obtain ⟨v', r, rfl, hv, hn⟩ := ha.inv
    obtain rfl := hn.inv0
    obtain ⟨a', rfl, hA⟩ := hv.flt
    obtain rfl := hA.eq (by simpa using hg)
    rw [show (⟨[.float .f64 a']⟩ : Array Value) = #[.float .f64 a'] from rfl]
    exact Does.value (f64bits_run a' w) (.same hr rfl (VR.leaf (v := .int .u64 a') rfl))
  · exact ⟨Local.fail, fun m v m' h => (fail_some h).elim⟩
set_option maxRecDepth 100000 in
theorem from_ok (args : List Value) : Local (fromX args) ∧ ∀ m v m', fromX args m = some (v, m') → ∀ N ρ w cargs, Rel N ρ m.t.get w → VRs ρ args cargs → Fresh ρ m m' → Does Try.prog N ρ m m' w v (callFunc 44 ⟨cargs⟩) := by
  unfold fromX
  split
  · rename_i a
    refine ⟨Local.ret _, fun m v m' h N ρ w cargs hr ha hf => ?_⟩
    obtain ⟨rfl, rfl⟩ := ret_some h
    obtain ⟨v', r, rfl, hv, hn⟩ := ha.inv
    obtain rfl := hn.inv0
    obtain rfl := hv.int
    rw [show (⟨[.int .u64 a]⟩ : Array Value) = #[.int .u64 a] from rfl]
    exact Does.value (f64from_run a w) (.same hr rfl (VR.leaf (v := .float .f64 a.toNat) rfl))
  · exact ⟨Local.fail, fun m v m' h => (fail_some h).elim⟩
set_option maxRecDepth 100000 in
theorem abs_ok (args : List Value) : Local (absX args) ∧ ∀ m v m', absX args m = some (v, m') → ∀ N ρ w cargs, Rel N ρ m.t.get w → VRs ρ args cargs → Fresh ρ m m' → Does Try.prog N ρ m m' w v (callFunc 31 ⟨cargs⟩) := by
  unfold absX
  split
  · rename_i a
    refine ⟨Local.ret _, fun m v m' h N ρ w cargs hr ha hf => ?_⟩
    obtain ⟨rfl, rfl⟩ := ret_some h
    obtain ⟨v', r, rfl, hv, hn⟩ := ha.inv
    obtain rfl := hn.inv0
    obtain ⟨a', rfl, hA⟩ := hv.flt
    rw [show (⟨[.float .f64 a']⟩ : Array Value) = #[.float .f64 a'] from rfl]
    intro r o a K Q hK
    rw [abs_fn]
    refine ⟨fun h => by simp [Fence.wide] at h, CallsIn.mono (callsIn_wide.2 (abs_all a' w)) ?_⟩
    rintro e w' ⟨rfl, rfl⟩
    exact hK _ _ ρ (.same hr rfl ⟨_, rfl, FR_abs hA⟩)
  · exact ⟨Local.fail, fun m v m' h => (fail_some h).elim⟩
set_option maxRecDepth 100000 in
theorem arch_ok (args : List Value) : Local (maxY args) ∧ ∀ m v m', maxY args m = some (v, m') → ∀ N ρ w cargs, Rel N ρ m.t.get w → VRs ρ args cargs → Fresh ρ m m' → Does Try.prog N ρ m m' w v (callFunc 71 ⟨cargs⟩) := by
  unfold maxY
  split
  · rename_i a b
    refine ⟨Local.ret _, fun m v m' h N ρ w cargs hr ha hf => ?_⟩
    obtain ⟨rfl, rfl⟩ := ret_some h
    obtain ⟨v', r, rfl, hv, hn⟩ := ha.inv
    obtain ⟨v2, r2, rfl, hv2, hn2⟩ := hn.inv
    obtain rfl := hn2.inv0
    obtain ⟨a', rfl, hA⟩ := hv.flt
    obtain ⟨b', rfl, hB⟩ := hv2.flt
    rw [show (⟨[.float .f64 a', .float .f64 b']⟩ : Array Value) = #[.float .f64 a', .float .f64 b'] from rfl]
    exact Does.value (archMax_run a' b' w) (.same hr rfl ⟨_, rfl, FR_max hA hB⟩)
  · exact ⟨Local.fail, fun m v m' h => (fail_some h).elim⟩
end

/-! ### The first layer -/
def kn0 : Known := fun f args =>
  bif f == 44 then some (fromX args)
  else bif f == 52 then some (bitsX args)
  else bif f == 31 then some (absX args)
  else bif f == 71 then some (maxY args)
  else none
theorem kn0_ok : KnownOK Try.prog kn0 := by
  intro f args g h
  unfold kn0 at h
  cases h0 : f == 44 with
  | true => simp only [h0, cond_true, cond_false, Option.some.injEq] at h; subst h; obtain rfl := eq_of_beq h0; exact from_ok args
  | false =>
  cases h1 : f == 52 with
  | true => simp only [h0, h1, cond_true, cond_false, Option.some.injEq] at h; subst h; obtain rfl := eq_of_beq h1; exact bits_ok args
  | false =>
  cases h2 : f == 31 with
  | true => simp only [h0, h1, h2, cond_true, cond_false, Option.some.injEq] at h; subst h; obtain rfl := eq_of_beq h2; exact abs_ok args
  | false =>
  cases h3 : f == 71 with
  | true => simp only [h0, h1, h2, h3, cond_true, cond_false, Option.some.injEq] at h; subst h; obtain rfl := eq_of_beq h3; exact arch_ok args
  | false =>
  simp only [h0, h1, h2, h3, cond_false] at h; cases h
theorem mix : Try.prog.follows .mixedOrders = true := by kernel_rfl
theorem noC : noCount Try.prog = true := by kernel_rfl
theorem noB : (Try.prog.funcs.toList.all fun fn => !isBack fn.name) = true := by kernel_rfl
theorem back_ok : BackOK Try.prog := by
  intro it fn hfn hname
  have := List.all_eq_true.1 noB fn (by rw [Array.mem_toList_iff]; exact Array.mem_of_getElem? hfn)
  rw [hname] at this
  cases this
set_option maxRecDepth 100000 in
theorem call0_ok (n : Nat) : CallOK Try.prog (callN Try.prog kn0 n) := callN_ok kn0_ok mix back_ok noC n
/-- What a closed walk of plain arguments comes to, it always comes to. -/
theorem memo_gives {P : Program} {call : Caller} (hcall : CallOK P call) {f : FuncId} {lits : List Value} {v : Value} (hg : Gives (call f lits) .empty fun u _ => u = v) (hl : lits.all plainV = true) (hv : plainV v = true) : Local (M.ret v) ∧
    ∀ m v1 m1, M.ret v m = some (v1, m1) → ∀ N ρ w cargs, Rel N ρ m.t.get w → VRs ρ lits cargs → Fresh ρ m m1 → Does P N ρ m m1 w v1 (callFunc f ⟨cargs⟩) := by
  refine ⟨Local.ret _, fun m v1 m1 h N ρ w cargs hr ha hf => ?_⟩
  obtain ⟨rfl, rfl⟩ := ret_some h
  obtain ⟨u, m', hc, rfl⟩ := hg
  intro r o a K Q hK
  refine hcall f lits .empty u m' hc w.heap.size (fun _ => Option.none) w cargs (Rel.none w) (VRs.move hl ha) (fun _ _ _ => rfl) r o a K Q fun v' w' ρ' hA => ?_
  exact hK v' w' ρ ⟨.refl ρ, fun b h h' => absurd h h', hr.later hA.below.below, VR.move hv hA.val, Keeps.of_below hr.base hA.below.below, fun b p h h' => absurd (h.symm.trans h') (by simp)⟩
theorem abs0 (x : F) (n : Nat) (m : Mem) (Q : Value → Mem → Prop) : Gives (callN Try.prog kn0 (n + 1) 31 [.float .f64 (cOf x)]) m Q ↔ Q (.float .f64 (cOf (fabs x))) m := by
  rw [gives_known (g := absX [.float .f64 (cOf x)]) rfl]
  unfold absX
  rw [gives_ret, canon_abs]

/-! ### The second layer -/
set_option maxRecDepth 10000 in
theorem max_run (a b : Nat) : Gives (callN Try.prog kn0 4 46 [.float .f64 a, .float .f64 b]) .empty fun u _ => u = .float .f64 (canon (archR' a b)) := by
  refine gives_fn (nt := 11) rfl Try.func46 rfl rfl rfl (Nat.le_of_ble_eq_true rfl) fun fr hn hd hargs => ?_
  have h0 : fr.at 0 = _ := hargs 0 _ rfl
  have h1 : fr.at 1 = _ := hargs 1 _ rfl
  clear hargs
  have e : ∀ m Q, Gives (callN Try.prog kn0 3 71 [.float .f64 a, .float .f64 b]) m Q ↔ Q (.float .f64 (canon (archR' a b))) m := fun m Q => by
    rw [gives_known (g := maxY [.float .f64 a, .float .f64 b]) rfl]
    exact gives_ret _ _ _
  simp [h0, h1, hn, hd, e]
theorem cOf_big : cOf fbig = 9218868437227405311 := by decide
set_option maxRecDepth 10000 in
theorem fin2_run (x : F) : Gives (callN Try.prog kn0 4 43 [.float .f64 (cOf x)]) .empty fun u _ => u = .bool (ffin x) := by
  refine gives_fn (nt := 6) rfl Try.func43 rfl rfl rfl (Nat.le_of_ble_eq_true rfl) fun fr hn hd hargs => ?_
  have h0 : fr.at 0 = _ := hargs 0 _ rfl
  clear hargs
  have e := bin_fle (P := Try.prog) (t := 25) (xo := .tmp 4) (yo := .const (.float .f64 9218868437227405311)) (fabs x) fbig
  rw [cOf_big] at e
  simp [h0, hn, hd, abs0, e]
  rfl
set_option maxRecDepth 10000 in
theorem over_run (x y : F) : Gives (callN Try.prog kn0 4 69 [.float .f64 (cOf x), .float .f64 (cOf y)]) .empty fun u _ => u = .float .f64 (cOf (fdiv x y)) := by
  refine gives_fn (nt := 8) rfl Try.func69 rfl rfl rfl (Nat.le_of_ble_eq_true rfl) fun fr hn hd hargs => ?_
  have h0 : fr.at 0 = _ := hargs 0 _ rfl
  have h1 : fr.at 1 = _ := hargs 1 _ rfl
  clear hargs
  simp [h0, h1, hn, hd]
set_option maxRecDepth 10000 in
theorem less_run (x y z : F) : Gives (callN Try.prog kn0 4 70 [.float .f64 (cOf x), .float .f64 (cOf y), .float .f64 (cOf z)]) .empty fun u _ => u = .float .f64 (cOf (fless x y z)) := by
  refine gives_fn (nt := 12) rfl Try.func70 rfl rfl rfl (Nat.le_of_ble_eq_true rfl) fun fr hn hd hargs => ?_
  have h0 : fr.at 0 = _ := hargs 0 _ rfl
  have h1 : fr.at 1 = _ := hargs 1 _ rfl
  have h2 : fr.at 2 = _ := hargs 2 _ rfl
  clear hargs
  simp [h0, h1, h2, hn, hd]
  rfl
theorem order_self {b : Nat} (hb : isNo b = false) : Ieee.double.order b b = some .eq := by
  unfold Ieee.Format.order
  rcases read_kind b with h | ⟨s, h⟩ | ⟨s, m, p, h, _⟩
  · exact absurd hb (by rw [show isNo b = true from h]; simp)
  · rw [h]; cases s <;> rfl
  · rw [h]
    show some (compare _ _) = _
    generalize Ieee.signed s m _ = z
    show some (compareOfLessAndEq z z) = _
    unfold compareOfLessAndEq
    rw [if_neg (by omega), if_pos rfl]
theorem nanF_yes {b : Nat} (hb : isNo b = false) : nanF (some b) = false := by
  show (Ieee.double.order b b != some .eq) = false
  rw [order_self hb]; rfl
theorem nanF_no' {b : Nat} (hb : isNo b = true) : nanF (some b) = true := by
  show (Ieee.double.order b b != some .eq) = true
  unfold Ieee.Format.order
  rw [order_nan_left (x := Ieee.double.read b) (show isNo b = true from hb)]; rfl
def flow : F := some 18442240474082181119
theorem cOf_low : cOf flow = 18442240474082181119 := by decide
theorem fin_nan {x : F} (h : nanF x = true) : ffin x = false := by
  cases x with
  | none => rfl
  | some b =>
    cases hb : isNo b with
    | true => exact ffin_no hb
    | false => rw [nanF_yes hb] at h; cases h
theorem fin_num {x : F} (h : nanF x = false) : ffin x = !(fgt x fbig || flt x flow) := by
  cases x with
  | none => cases h
  | some b =>
    cases hb : isNo b with
    | true => rw [nanF_no' hb] at h; cases h
    | false => exact fin_doc b hb
theorem bin_flt' {P : Program} {t : TypeId} {xo yo : Operand} (x y : F) : binX P .lss t xo yo (.float .f64 (cOf x)) (.float .f64 (cOf y)) = some (.bool (flt x y)) := bin_fcmp x y .lss rfl
set_option maxRecDepth 10000 in
theorem none0 (n : Nat) (x : F) (m : Mem) {Q : Value → Mem → Prop} (hQ : Q (.bool (nanF x)) m) : Gives (callN Try.prog kn0 (n + 1) 51 [.float .f64 (cOf x)]) m Q := by
  refine gives_fn (nt := 6) rfl Try.func51 rfl rfl rfl (Nat.le_of_ble_eq_true rfl) fun fr hn hd hargs => ?_
  have h0 : fr.at 0 = _ := hargs 0 _ rfl
  clear hargs
  simp [h0, hn, hd]
  exact hQ
set_option maxRecDepth 10000 in
theorem endless0 (n : Nat) (x : F) (m : Mem) {Q : Value → Mem → Prop} (hQ : Q (.bool (fgt x fbig || flt x flow)) m) : Gives (callN Try.prog kn0 (n + 1) 74 [.float .f64 (cOf x)]) m Q := by
  refine gives_fn (nt := 9) rfl Try.func74 rfl rfl rfl (Nat.le_of_ble_eq_true rfl) fun fr hn hd hargs => ?_
  have h0 : fr.at 0 = _ := hargs 0 _ rfl
  clear hargs
  have e1 := bin_fgt (P := Try.prog) (t := 25) (xo := .tmp 3) (yo := .const (.float .f64 9218868437227405311)) x fbig
  rw [cOf_big] at e1
  have e2 := bin_flt' (P := Try.prog) (t := 25) (xo := .tmp 6) (yo := .const (.float .f64 18442240474082181119)) x flow
  rw [cOf_low] at e2
  cases h1 : fgt x fbig with
  | true =>
    rw [h1] at hQ
    simp [h0, hn, hd, e1, h1, yieldX]
    exact hQ
  | false =>
    rw [h1] at hQ
    simp [h0, hn, hd, e1, e2, h1, yieldX]
    exact hQ
set_option maxRecDepth 10000 in
theorem fin_run (x : F) : Gives (callN Try.prog kn0 4 50 [.float .f64 (cOf x)]) .empty fun u _ => u = .bool (ffin x) := by
  refine gives_fn (nt := 11) rfl Try.func50 rfl rfl rfl (Nat.le_of_ble_eq_true rfl) fun fr hn hd hargs => ?_
  have h0 : fr.at 0 = _ := hargs 0 _ rfl
  clear hargs
  simp [h0, hn]
  refine none0 2 x _ ?_
  cases h1 : nanF x with
  | true =>
    rw [fin_nan h1]
    simp [h0, hn, hd, yieldX]
  | false =>
    rw [fin_num h1]
    simp [h0, hn, hd, yieldX]
    refine endless0 2 x _ ?_
    cases h2 : fgt x fbig <;> cases h3 : flt x flow <;> simp [hn, hd, yieldX]
def isTrue (o : Option (Value × Mem)) : Bool := match o with
  | some (.bool true, _) => true
  | _ => false
set_option maxRecDepth 1000000 in
theorem alive_run : isTrue (callN Try.prog kn0 60 7 [] .empty) = true := by kernel_rfl
theorem gives_of_true {f : M Value} {m : Mem} (h : isTrue (f m) = true) : Gives f m fun u _ => u = .bool true := by
  unfold Gives
  unfold isTrue at h
  split at h
  · rename_i m' e
    exact ⟨_, _, e, rfl⟩
  · cases h
theorem alive_gives : Gives (callN Try.prog kn0 60 7 []) .empty fun u _ => u = .bool true := gives_of_true alive_run
end Go.Proofs.Ytghhanifakllpaa

/- The clean executor at package solve: all that it takes for known. -/
namespace Go.Proofs.Ytghhanifakllpaa
open Go.RowKit Go.Clean
set_option maxRecDepth 100000

def finX : List Value → M Value
  | [.float .f64 a] => bif canon a == a then M.ret (.bool (ffin (fl a))) else M.fail
  | _ => M.fail
def overX : List Value → M Value
  | [.float .f64 a, .float .f64 b] => bif canon a == a && canon b == b then M.ret (.float .f64 (cOf (fdiv (fl a) (fl b)))) else M.fail
  | _ => M.fail
def lessX : List Value → M Value
  | [.float .f64 a, .float .f64 b, .float .f64 c] => bif canon a == a && (canon b == b && canon c == c) then M.ret (.float .f64 (cOf (fless (fl a) (fl b) (fl c)))) else M.fail
  | _ => M.fail
def kn1 : Known := fun f args =>
  bif f == 46 then some (maxY args)
  else bif f == 50 then some (finX args)
  else bif f == 43 then some (finX args)
  else bif f == 69 then some (overX args)
  else bif f == 70 then some (lessX args)
  else bif f == 7 then match args with
    | [] => some (M.ret (.bool true))
    | _ => none
  else kn0 f args
abbrev GoodK (f : FuncId) (args : List Value) (g : M Value) : Prop := Local g ∧ ∀ m v m', g m = some (v, m') → ∀ N ρ w cargs, Rel N ρ m.t.get w → VRs ρ args cargs → Fresh ρ m m' → Does Try.prog N ρ m m' w v (callFunc f ⟨cargs⟩)
theorem good_fail (f : FuncId) (args : List Value) : GoodK f args M.fail := ⟨Local.fail, fun m v m' h => (fail_some h).elim⟩
theorem good_max (args : List Value) : GoodK 46 args (maxY args) := by
  unfold maxY
  split
  · exact memo_gives (call0_ok 4) (max_run _ _) rfl rfl
  · exact good_fail _ _
theorem good_fin {f : FuncId} (h : ∀ x, Gives (callN Try.prog kn0 4 f [.float .f64 (cOf x)]) .empty fun u _ => u = .bool (ffin x)) (args : List Value) : GoodK f args (finX args) := by
  unfold finX
  split
  · rename_i a
    cases ha : canon a == a with
    | true =>
      have e : cOf (fl a) = a := by rw [cOf_fl]; simpa using ha
      have := memo_gives (call0_ok 4) (h (fl a)) rfl rfl
      rw [e] at this
      exact this
    | false => exact good_fail _ _
  · exact good_fail _ _
theorem good_over (args : List Value) : GoodK 69 args (overX args) := by
  unfold overX
  split
  · rename_i a b
    cases ha : canon a == a && canon b == b with
    | true =>
      simp only [Bool.and_eq_true, beq_iff_eq] at ha
      have e1 : cOf (fl a) = a := by rw [cOf_fl]; exact ha.1
      have e2 : cOf (fl b) = b := by rw [cOf_fl]; exact ha.2
      have := memo_gives (call0_ok 4) (over_run (fl a) (fl b)) rfl rfl
      rw [e1, e2] at this
      exact this
    | false => exact good_fail _ _
  · exact good_fail _ _
theorem good_less (args : List Value) : GoodK 70 args (lessX args) := by
  unfold lessX
  split
  · rename_i a b c
    cases ha : canon a == a && (canon b == b && canon c == c) with
    | true =>
      simp only [Bool.and_eq_true, beq_iff_eq] at ha
      have e1 : cOf (fl a) = a := by rw [cOf_fl]; exact ha.1
      have e2 : cOf (fl b) = b := by rw [cOf_fl]; exact ha.2.1
      have e3 : cOf (fl c) = c := by rw [cOf_fl]; exact ha.2.2
      have := memo_gives (call0_ok 4) (less_run (fl a) (fl b) (fl c)) rfl rfl
      rw [e1, e2, e3] at this
      exact this
    | false => exact good_fail _ _
  · exact good_fail _ _
theorem good_alive : GoodK 7 [] (M.ret (.bool true)) := memo_gives (call0_ok 60) alive_gives rfl rfl
theorem kn1_ok : KnownOK Try.prog kn1 := by
  intro f args g h
  unfold kn1 at h
  cases h0 : f == 46 with
  | true => simp only [h0, cond_true, Option.some.injEq] at h; subst h; obtain rfl := eq_of_beq h0; exact good_max args
  | false =>
  cases h1 : f == 50 with
  | true => simp only [h0, h1, cond_true, cond_false, Option.some.injEq] at h; subst h; obtain rfl := eq_of_beq h1; exact good_fin fin_run args
  | false =>
  cases h2 : f == 43 with
  | true => simp only [h0, h1, h2, cond_true, cond_false, Option.some.injEq] at h; subst h; obtain rfl := eq_of_beq h2; exact good_fin fin2_run args
  | false =>
  cases h3 : f == 69 with
  | true => simp only [h0, h1, h2, h3, cond_true, cond_false, Option.some.injEq] at h; subst h; obtain rfl := eq_of_beq h3; exact good_over args
  | false =>
  cases h4 : f == 70 with
  | true => simp only [h0, h1, h2, h3, h4, cond_true, cond_false, Option.some.injEq] at h; subst h; obtain rfl := eq_of_beq h4; exact good_less args
  | false =>
  cases h5 : f == 7 with
  | true =>
    simp only [h0, h1, h2, h3, h4, h5, cond_true, cond_false] at h
    split at h
    · simp only [Option.some.injEq] at h; subst h; obtain rfl := eq_of_beq h5; exact good_alive
    · cases h
  | false =>
  simp only [h0, h1, h2, h3, h4, h5, cond_false] at h; exact kn0_ok f args g h
theorem Par.condX {b : Bool} {f g : M Value} (hf : Par f) (hg : Par g) : Par (bif b then f else g) := by cases b <;> assumption
theorem Nl.condX {b : Bool} {f g : M Value} (hf : Nl f) (hg : Nl g) : Nl (bif b then f else g) := by cases b <;> assumption
theorem par_max (args : List Value) : Par (maxY args) := by unfold maxY; split <;> first | exact Par.ret _ | exact Par.fail
theorem par_abs (args : List Value) : Par (absX args) := by unfold absX; split <;> first | exact Par.ret _ | exact Par.fail
theorem par_from (args : List Value) : Par (fromX args) := by unfold fromX; split <;> first | exact Par.ret _ | exact Par.fail
theorem par_bits (args : List Value) : Par (bitsX args) := by unfold bitsX; split <;> first | exact Par.fail | exact Par.bind (Par.guard _) fun _ => Par.ret _
theorem par_fin (args : List Value) : Par (finX args) := by unfold finX; split <;> first | exact Par.fail | exact Par.condX (Par.ret _) Par.fail
theorem par_over (args : List Value) : Par (overX args) := by unfold overX; split <;> first | exact Par.fail | exact Par.condX (Par.ret _) Par.fail
theorem par_less (args : List Value) : Par (lessX args) := by unfold lessX; split <;> first | exact Par.fail | exact Par.condX (Par.ret _) Par.fail
theorem nl_max (args : List Value) : Nl (maxY args) := by unfold maxY; split <;> first | exact Nl.ret _ | exact Nl.fail
theorem nl_abs (args : List Value) : Nl (absX args) := by unfold absX; split <;> first | exact Nl.ret _ | exact Nl.fail
theorem nl_fin (args : List Value) : Nl (finX args) := by unfold finX; split <;> first | exact Nl.fail | exact Nl.condX (Nl.ret _) Nl.fail
theorem kn0_par (f : FuncId) (args : List Value) (g : M Value) (h : kn0 f args = some g) : Par g := by
  unfold kn0 at h
  cases h0 : f == 44 with
  | true => simp only [h0, cond_true, cond_false, Option.some.injEq] at h; subst h; exact par_from args
  | false =>
  cases h1 : f == 52 with
  | true => simp only [h0, h1, cond_true, cond_false, Option.some.injEq] at h; subst h; exact par_bits args
  | false =>
  cases h2 : f == 31 with
  | true => simp only [h0, h1, h2, cond_true, cond_false, Option.some.injEq] at h; subst h; exact par_abs args
  | false =>
  cases h3 : f == 71 with
  | true => simp only [h0, h1, h2, h3, cond_true, cond_false, Option.some.injEq] at h; subst h; exact par_max args
  | false =>
  simp only [h0, h1, h2, h3, cond_false] at h; cases h
theorem kn1_par (f : FuncId) (args : List Value) (g : M Value) (h : kn1 f args = some g) : Par g := by
  unfold kn1 at h
  cases h0 : f == 46 with
  | true => simp only [h0, cond_true, Option.some.injEq] at h; subst h; exact par_max args
  | false =>
  cases h1 : f == 50 with
  | true => simp only [h0, h1, cond_true, cond_false, Option.some.injEq] at h; subst h; exact par_fin args
  | false =>
  cases h2 : f == 43 with
  | true => simp only [h0, h1, h2, cond_true, cond_false, Option.some.injEq] at h; subst h; exact par_fin args
  | false =>
  cases h3 : f == 69 with
  | true => simp only [h0, h1, h2, h3, cond_true, cond_false, Option.some.injEq] at h; subst h; exact par_over args
  | false =>
  cases h4 : f == 70 with
  | true => simp only [h0, h1, h2, h3, h4, cond_true, cond_false, Option.some.injEq] at h; subst h; exact par_less args
  | false =>
  cases h5 : f == 7 with
  | true =>
    simp only [h0, h1, h2, h3, h4, h5, cond_true, cond_false] at h
    split at h
    · simp only [Option.some.injEq] at h; subst h; exact Par.ret _
    · cases h
  | false =>
  simp only [h0, h1, h2, h3, h4, h5, cond_false] at h; exact kn0_par f args g h
theorem finX_at (x : F) : finX [.float .f64 (cOf x)] = M.ret (.bool (ffin x)) := by
  unfold finX
  have e : (canon (cOf x) == cOf x) = true := by rw [canon_cOf]; simp
  dsimp only
  rw [e, cond_true, show fl (cOf x) = clr x from rfl, ffin_clr]
theorem kn1_KN : KN kn1 := by
  refine ⟨fun x => ?_, fun x => ?_, fun x y => ?_, fun _ => rfl, fun _ => rfl, fun _ => rfl, fun _ => rfl, kn1_par, fun f hf args => ?_⟩
  · show some (finX _) = _
    rw [finX_at]
  · show some (absX [.float .f64 (cOf x)]) = _
    unfold absX
    dsimp only
    rw [canon_abs]
  · show some (maxY [.float .f64 (cOf x), .float .f64 (cOf y)]) = _
    unfold maxY fmax
    dsimp only
    rw [cOf_fl]
  · rcases hf with rfl | rfl | rfl
    · exact ⟨_, rfl, nl_fin args⟩
    · exact ⟨_, rfl, nl_abs args⟩
    · exact ⟨_, rfl, nl_max args⟩
theorem kn1_KP : KP kn1 := by
  refine ⟨kn1_KN, fun x => ?_, fun x y => ?_, fun a f b => ?_, fun f hf args => ?_⟩
  · show some (finX _) = _
    rw [finX_at]
  · show some (overX [.float .f64 (cOf x), .float .f64 (cOf y)]) = _
    unfold overX
    have e1 : (canon (cOf x) == cOf x) = true := by rw [canon_cOf]; simp
    have e2 : (canon (cOf y) == cOf y) = true := by rw [canon_cOf]; simp
    dsimp only
    rw [e1, e2]
    show some (M.ret (Value.float .f64 (cOf (fdiv (clr x) (clr y))))) = _
    rw [fdiv_clr]
  · show some (lessX [.float .f64 (cOf a), .float .f64 (cOf f), .float .f64 (cOf b)]) = _
    unfold lessX
    have e1 : (canon (cOf a) == cOf a) = true := by rw [canon_cOf]; simp
    have e2 : (canon (cOf f) == cOf f) = true := by rw [canon_cOf]; simp
    have e3 : (canon (cOf b) == cOf b) = true := by rw [canon_cOf]; simp
    dsimp only
    rw [e1, e2, e3]
    show some (M.ret (Value.float .f64 (cOf (fless (clr a) (clr f) (clr b))))) = _
    rw [fless_clr]
  · unfold ownF at hf
    simp only [Bool.or_eq_true, beq_iff_eq] at hf
    repeat' rcases hf with hf | hf
    all_goals first
      | rfl
      | (subst hf; rfl)
end Go.Proofs.Ytghhanifakllpaa
