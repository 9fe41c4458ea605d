/- Conditions of functions' code, printed by a program of ours. -/
import Derived.Test.YtfgfhplgnfbaaaaDoorProg
import Derived.Test.YtfgfhplgnfbaaaaDoorYC
import Derived.KernelRfl
import Derived.Test.YtfgfhplgnfbaaaaDoorYB
namespace Go.Proofs.YtfgfhplgnfbaaaaDoor
open Go Go.Ev
set_option maxRecDepth 100000
set_option linter.unusedVariables false
/-! sward/swardlaw20.great -/
noncomputable def b43 : Code := (Tryd.f43.body).getD .skip
noncomputable def stk43_0 : List KI := [.code (sub [1, 1, 0, 1, 0] b43), .blk 0, .code (sub [1, 1, 1] b43)]
def lv43 : List (Nat × List Nat) := [(0, [0, 2, 3])]
def I43_0 (O : CallF) (Q : Value → Hp → Prop) (a0 : Option Addr) (n0 : Nat) (c0 : Nat) (q2 : Bool) (x3 : Int) (h : Hp) : Prop := RKL Tryd.prog O Tryd.f43 stk43_0 19 [0, 2, 3] [(.slice a0 n0 c0), (.bool q2), (.int .i64 x3)] h Q
def T43 (O : CallF) (Q : Value → Hp → Prop) (a0 : Option Addr) (n0 : Nat) (c0 : Nat) (h : Hp) : Prop :=
  vcond (ltI 150 (Int.ofNat n0))
  (Q (.bool true) h)
  (I43_0 O Q a0 n0 c0 false 0 h)
theorem rk43 {O Q} (a0 n0 c0) {h : Hp} (hO : O 43 [(.slice a0 n0 c0)] h = none) (hh : T43 O Q a0 n0 c0 h) : Ret Tryd.prog O 43 [(.slice a0 n0 c0)] h Q :=
  .of (c := b43) Tryd.func43 (by kernel_rfl) hO (V_ok (tb := lv43) (cuts := []) 500 (Eq.mp (by kernel_rfl) hh))
def T43_0 (O : CallF) (Q : Value → Hp → Prop) (a0 : Option Addr) (n0 : Nat) (c0 : Nat) (q2 : Bool) (x3 : Int) (h : Hp) : Prop :=
  vcond (ltI x3 (Int.ofNat n0))
  (isNat x3 fun n101' =>
  isAddr a0 fun b102' f103' =>
  vreq (Nat.blt n101' n0)
  (∃ a104' n105' c106', readAt h b102' (f103' + (n101' * 1)) 1 = some [(.slice a104' n105' c106')] ∧
  vcond (ltI 40 (Int.ofNat n105'))
  (Q (.bool true) h)
  (I43_0 O Q a0 n0 c0 q2 (wrapF .i64 (x3 + 1)) h)))
  (Q (.bool false) h)
theorem I43_0.of {O Q} (a0 n0 c0 q2 x3) {h : Hp} (hh : T43_0 O Q a0 n0 c0 q2 x3 h) : I43_0 O Q a0 n0 c0 q2 x3 h :=
  RKL.of (tb := lv43) (cuts := []) 500 fun _ => Eq.mp (by kernel_rfl) hh
/-! sward/swardref20.Holds -/
noncomputable def b30 : Code := (Tryd.f30.body).getD .skip
/-! sward/sat.Check -/
noncomputable def b31 : Code := (Tryd.f31.body).getD .skip
noncomputable def stk31_0 : List KI := [.code (sub [1, 1, 0, 1, 0] b31), .blk 0, .code (sub [1, 1, 1] b31)]
def lv31 : List (Nat × List Nat) := [(0, [1, 2, 20, 21, 22])]
def I31_0 (O : CallF) (Q : Value → Hp → Prop) (x0_0 : Int) (a0_1 : Option Addr) (n0_1 : Nat) (c0_1 : Nat) (b1 : Nat) (f1 : Nat) (x2 : Int) (a20 : Option Addr) (n20 : Nat) (c20 : Nat) (x21 : Int) (x22 : Int) (h : Hp) : Prop := RKL Tryd.prog O Tryd.f31 stk31_0 32 [1, 2, 20, 21, 22] [(.pointer (some ⟨b1, f1, none⟩)), (.int .i64 x2), (.slice a20 n20 c20), (.int .i64 x21), (.int .i64 x22)] h Q
def T31 (O : CallF) (Q : Value → Hp → Prop) (x0_0 : Int) (a0_1 : Option Addr) (n0_1 : Nat) (c0_1 : Nat) (h : Hp) : Prop :=
  ∃ x1', readAt (h.add (.cells [(.int .i64 x0_0), (.slice a0_1 n0_1 c0_1)] 30 .fix)) h.nx 0 1 = some [(.int .i64 x1')] ∧
  vcond (ltI x1' 0)
  (Q (.int .i64 2) (h.add (.cells [(.int .i64 x0_0), (.slice a0_1 n0_1 c0_1)] 30 .fix)))
  (∃ x2', readAt (h.add (.cells [(.int .i64 x0_0), (.slice a0_1 n0_1 c0_1)] 30 .fix)) h.nx 0 1 = some [(.int .i64 x2')] ∧
  vcond (ltI 30 x2')
  (Q (.int .i64 2) (h.add (.cells [(.int .i64 x0_0), (.slice a0_1 n0_1 c0_1)] 30 .fix)))
  (∃ a3' n4' c5', readAt (h.add (.cells [(.int .i64 x0_0), (.slice a0_1 n0_1 c0_1)] 30 .fix)) h.nx 1 1 = some [(.slice a3' n4' c5')] ∧
  vcond (ltI 120 (Int.ofNat n4'))
  (Q (.int .i64 2) (h.add (.cells [(.int .i64 x0_0), (.slice a0_1 n0_1 c0_1)] 30 .fix)))
  (∃ a6' n7' c8', readAt (h.add (.cells [(.int .i64 x0_0), (.slice a0_1 n0_1 c0_1)] 30 .fix)) h.nx 1 1 = some [(.slice a6' n7' c8')] ∧
  I31_0 O Q x0_0 a0_1 n0_1 c0_1 h.nx 0 0 a6' n7' c8' (Int.ofNat n7') 0 (h.add (.cells [(.int .i64 x0_0), (.slice a0_1 n0_1 c0_1)] 30 .fix)))))
theorem rk31 {O Q} (x0_0 a0_1 n0_1 c0_1) {h : Hp} (hO : O 31 [(.agg #[(.int .i64 x0_0), (.slice a0_1 n0_1 c0_1)])] h = none) (hh : T31 O Q x0_0 a0_1 n0_1 c0_1 h) : Ret Tryd.prog O 31 [(.agg #[(.int .i64 x0_0), (.slice a0_1 n0_1 c0_1)])] h Q :=
  .of (c := b31) Tryd.func31 (by kernel_rfl) hO (V_ok (tb := lv31) (cuts := []) 500 (Eq.mp (by kernel_rfl) hh))
def T31_0 (O : CallF) (Q : Value → Hp → Prop) (x0_0 : Int) (a0_1 : Option Addr) (n0_1 : Nat) (c0_1 : Nat) (b1 : Nat) (f1 : Nat) (x2 : Int) (a20 : Option Addr) (n20 : Nat) (c20 : Nat) (x21 : Int) (x22 : Int) (h : Hp) : Prop :=
  vcond (ltI x22 x21)
  (isNat x22 fun n101' =>
  isAddr a20 fun b102' f103' =>
  vreq (Nat.blt n101' n20)
  (∃ a104' n105' c106', readAt h b102' (f103' + (n101' * 1)) 1 = some [(.slice a104' n105' c106')] ∧
  ∃ x107', readAt h b1 (f1 + 0) 1 = some [(.int .i64 x107')] ∧
  ∃ q108', ∃ h109', EvC Tryd.prog O 87 [(.slice a104' n105' c106'), (.int .i64 x107')] h (.bool q108') h109' ∧
  vcond (!q108')
  (Q (.int .i64 2) h109')
  (I31_0 O Q x0_0 a0_1 n0_1 c0_1 b1 f1 x2 a20 n20 c20 x21 (wrapF .i64 (x22 + 1)) h109')))
  (Q (.int .i64 0) h)
theorem I31_0.of {O Q} (x0_0 a0_1 n0_1 c0_1 b1 f1 x2 a20 n20 c20 x21 x22) {h : Hp} (hh : T31_0 O Q x0_0 a0_1 n0_1 c0_1 b1 f1 x2 a20 n20 c20 x21 x22 h) : I31_0 O Q x0_0 a0_1 n0_1 c0_1 b1 f1 x2 a20 n20 c20 x21 x22 h :=
  RKL.of (tb := lv31) (cuts := []) 500 fun _ => Eq.mp (by kernel_rfl) hh
/-! sward/sat.based -/
noncomputable def b76 : Code := (Tryd.f76.body).getD .skip
noncomputable def stk76_0 : List KI := [.code (sub [1, 1, 0, 1, 0] b76), .blk 0, .code (sub [1, 1, 1] b76)]
def lv76 : List (Nat × List Nat) := [(0, [4, 5, 14, 15, 16])]
def I76_0 (O : CallF) (Q : Value → Hp → Prop) (x0_0 : Int) (a0_1 : Option Addr) (n0_1 : Nat) (c0_1 : Nat) (a1 : Option Addr) (n1 : Nat) (c1 : Nat) (b5 : Nat) (f5 : Nat) (a14 : Option Addr) (n14 : Nat) (c14 : Nat) (x15 : Int) (x16 : Int) (h : Hp) : Prop := RKL Tryd.prog O Tryd.f76 stk76_0 33 [4, 5, 14, 15, 16] [(.pointer none), (.pointer (some ⟨b5, f5, none⟩)), (.slice a14 n14 c14), (.int .i64 x15), (.int .i64 x16)] h Q
def T76 (O : CallF) (Q : Value → Hp → Prop) (x0_0 : Int) (a0_1 : Option Addr) (n0_1 : Nat) (c0_1 : Nat) (a1 : Option Addr) (n1 : Nat) (c1 : Nat) (h : Hp) : Prop :=
  ∃ x1', readAt (h.add (.cells [(.int .i64 x0_0), (.slice a0_1 n0_1 c0_1)] 30 .fix)) h.nx 0 1 = some [(.int .i64 x1')] ∧
  ∃ a2' n3' c4', readAt ((h.add (.cells [(.int .i64 x0_0), (.slice a0_1 n0_1 c0_1)] 30 .fix)).add (.cells [(.int .i64 x1'), (.slice none 0 0), (.slice a1 n1 c1), (.int .i64 2000), (.slice none 0 0)] 128 .fix)) h.nx 1 1 = some [(.slice a2' n3' c4')] ∧
  I76_0 O Q x0_0 a0_1 n0_1 c0_1 a1 n1 c1 (h.add (.cells [(.int .i64 x0_0), (.slice a0_1 n0_1 c0_1)] 30 .fix)).nx 0 a2' n3' c4' (Int.ofNat n3') 0 ((h.add (.cells [(.int .i64 x0_0), (.slice a0_1 n0_1 c0_1)] 30 .fix)).add (.cells [(.int .i64 x1'), (.slice none 0 0), (.slice a1 n1 c1), (.int .i64 2000), (.slice none 0 0)] 128 .fix))
theorem rk76 {O Q} (x0_0 a0_1 n0_1 c0_1 a1 n1 c1) {h : Hp} (hO : O 76 [(.agg #[(.int .i64 x0_0), (.slice a0_1 n0_1 c0_1)]), (.slice a1 n1 c1)] h = none) (hh : T76 O Q x0_0 a0_1 n0_1 c0_1 a1 n1 c1 h) : Ret Tryd.prog O 76 [(.agg #[(.int .i64 x0_0), (.slice a0_1 n0_1 c0_1)]), (.slice a1 n1 c1)] h Q :=
  .of (c := b76) Tryd.func76 (by kernel_rfl) hO (V_ok (tb := lv76) (cuts := []) 500 (Eq.mp (by kernel_rfl) hh))
def T76_0 (O : CallF) (Q : Value → Hp → Prop) (x0_0 : Int) (a0_1 : Option Addr) (n0_1 : Nat) (c0_1 : Nat) (a1 : Option Addr) (n1 : Nat) (c1 : Nat) (b5 : Nat) (f5 : Nat) (a14 : Option Addr) (n14 : Nat) (c14 : Nat) (x15 : Int) (x16 : Int) (h : Hp) : Prop :=
  vcond (ltI x16 x15)
  (isNat x16 fun n101' =>
  isAddr a14 fun b102' f103' =>
  vreq (Nat.blt n101' n14)
  (∃ a104' n105' c106', readAt h b102' (f103' + (n101' * 1)) 1 = some [(.slice a104' n105' c106')] ∧
  ∃ a107' n108' c109', readAt (h.rsv 12) b5 (f5 + 1) 1 = some [(.slice a107' n108' c109')] ∧
  ∃ x110', ∃ x111', ∃ h112', EvC Tryd.prog O 107 [(.slice a104' n105' c106')] ((h.rsv 12).grd [b5]) (.agg #[(.int .u32 x110'), (.int .u32 x111')]) h112' ∧
  vreq ((h112'.rst (h.rsv 12)).free (h.nx + 7))
  (∃ a113' n114' c115' h116', appendV Tryd.prog (((h112'.rst (h.rsv 12)).lay (h.nx + 7) (.cells [(.int .u32 x110'), (.int .u32 x111')] 130 .fix)).grd []) 126 126 (.slice a107' n108' c109') (.slice (some ⟨(h.nx + 7), 0, none⟩) 1 1) = some (.slice a113' n114' c115', h116') ∧
  vreq (canW ((h116'.rst ((h112'.rst (h.rsv 12)).lay (h.nx + 7) (.cells [(.int .u32 x110'), (.int .u32 x111')] 130 .fix))).grd []) b5 (f5 + 1) [(.slice a113' n114' c115')])
  (I76_0 O Q x0_0 a0_1 n0_1 c0_1 a1 n1 c1 b5 f5 a14 n14 c14 x15 (wrapF .i64 (x16 + 1)) ((((h116'.rst ((h112'.rst (h.rsv 12)).lay (h.nx + 7) (.cells [(.int .u32 x110'), (.int .u32 x111')] 130 .fix))).grd []).wr b5 (f5 + 1) [(.slice a113' n114' c115')]).rst (h116'.rst ((h112'.rst (h.rsv 12)).lay (h.nx + 7) (.cells [(.int .u32 x110'), (.int .u32 x111')] 130 .fix))))))))
  (Q (.pointer (some ⟨b5, f5, none⟩)) h)
theorem I76_0.of {O Q} (x0_0 a0_1 n0_1 c0_1 a1 n1 c1 b5 f5 a14 n14 c14 x15 x16) {h : Hp} (hh : T76_0 O Q x0_0 a0_1 n0_1 c0_1 a1 n1 c1 b5 f5 a14 n14 c14 x15 x16 h) : I76_0 O Q x0_0 a0_1 n0_1 c0_1 a1 n1 c1 b5 f5 a14 n14 c14 x15 x16 h :=
  RKL.of (tb := lv76) (cuts := []) 500 fun _ => Eq.mp (by kernel_rfl) hh
/-! sward/sat.split -/
noncomputable def b107 : Code := (Tryd.f107.body).getD .skip
noncomputable def stk107_0 : List KI := [.code (sub [1, 1, 0, 1, 0] b107), .blk 0, .code (sub [1, 1, 1] b107)]
def lv107 : List (Nat × List Nat) := [(0, [2, 3, 6, 7, 8])]
def I107_0 (O : CallF) (Q : Value → Hp → Prop) (a0 : Option Addr) (n0 : Nat) (c0 : Nat) (b2 : Nat) (f2 : Nat) (b3 : Nat) (f3 : Nat) (x8 : Int) (h : Hp) : Prop := RKL Tryd.prog O Tryd.f107 stk107_0 28 [2, 3, 6, 7, 8] [(.pointer (some ⟨b2, f2, none⟩)), (.pointer (some ⟨b3, f3, none⟩)), (.slice a0 n0 c0), (.int .i64 (Int.ofNat n0)), (.int .i64 x8)] h Q
def T107 (O : CallF) (Q : Value → Hp → Prop) (a0 : Option Addr) (n0 : Nat) (c0 : Nat) (h : Hp) : Prop :=
  I107_0 O Q a0 n0 c0 h.nx 0 (h.add (.cells [(.int .u32 0), (.int .u32 0)] 130 .fix)).nx 0 0 ((h.add (.cells [(.int .u32 0), (.int .u32 0)] 130 .fix)).add (.cells [(.int .u32 0), (.int .u32 0)] 130 .fix))
theorem rk107 {O Q} (a0 n0 c0) {h : Hp} (hO : O 107 [(.slice a0 n0 c0)] h = none) (hh : T107 O Q a0 n0 c0 h) : Ret Tryd.prog O 107 [(.slice a0 n0 c0)] h Q :=
  .of (c := b107) Tryd.func107 (by kernel_rfl) hO (V_ok (tb := lv107) (cuts := []) 500 (Eq.mp (by kernel_rfl) hh))
def T107_0 (O : CallF) (Q : Value → Hp → Prop) (a0 : Option Addr) (n0 : Nat) (c0 : Nat) (b2 : Nat) (f2 : Nat) (b3 : Nat) (f3 : Nat) (x8 : Int) (h : Hp) : Prop :=
  vcond (ltI x8 (Int.ofNat n0))
  (isNat x8 fun n101' =>
  isAddr a0 fun b102' f103' =>
  vreq (Nat.blt n101' n0)
  (∃ x104', readAt h b102' (f103' + (n101' * 1)) 1 = some [(.int .i64 x104')] ∧
  vcond (ltI 0 x104')
  (∃ x105', readAt (h.rsv 7) b3 (f3 + 0) 1 = some [(.int .u32 x105')] ∧
  ∃ x106', ∃ h107', EvC Tryd.prog O 84 [(.int .i64 x104')] ((h.rsv 7).grd [b3]) (.int .u32 x106') h107' ∧
  vreq (inD 4294967296 x105')
  (vreq (inD 4294967296 x106')
  (vreq (canW ((h107'.rst (h.rsv 7)).grd []) b3 (f3 + 0) [(.int .u32 (lorI x105' x106'))])
  (I107_0 O Q a0 n0 c0 b2 f2 b3 f3 (wrapF .i64 (x8 + 1)) ((((h107'.rst (h.rsv 7)).grd []).wr b3 (f3 + 0) [(.int .u32 (lorI x105' x106'))]).rst (h107'.rst (h.rsv 7)))))))
  (∃ x108', readAt (h.rsv 7) b3 (f3 + 1) 1 = some [(.int .u32 x108')] ∧
  ∃ x109', ∃ h110', EvC Tryd.prog O 84 [(.int .i64 x104')] ((h.rsv 7).grd [b3]) (.int .u32 x109') h110' ∧
  vreq (inD 4294967296 x108')
  (vreq (inD 4294967296 x109')
  (vreq (canW ((h110'.rst (h.rsv 7)).grd []) b3 (f3 + 1) [(.int .u32 (lorI x108' x109'))])
  (I107_0 O Q a0 n0 c0 b2 f2 b3 f3 (wrapF .i64 (x8 + 1)) ((((h110'.rst (h.rsv 7)).grd []).wr b3 (f3 + 1) [(.int .u32 (lorI x108' x109'))]).rst (h110'.rst (h.rsv 7)))))))))
  (∃ x111', ∃ x112', readAt h b3 f3 2 = some [(.int .u32 x111'), (.int .u32 x112')] ∧
  vreq (canW h b2 f2 [(.int .u32 x111'), (.int .u32 x112')])
  (∃ x113', ∃ x114', readAt (h.wr b2 f2 [(.int .u32 x111'), (.int .u32 x112')]) b2 f2 2 = some [(.int .u32 x113'), (.int .u32 x114')] ∧
  Q (.agg #[(.int .u32 x113'), (.int .u32 x114')]) (h.wr b2 f2 [(.int .u32 x111'), (.int .u32 x112')])))
theorem I107_0.of {O Q} (a0 n0 c0 b2 f2 b3 f3 x8) {h : Hp} (hh : T107_0 O Q a0 n0 c0 b2 f2 b3 f3 x8 h) : I107_0 O Q a0 n0 c0 b2 f2 b3 f3 x8 h :=
  RKL.of (tb := lv107) (cuts := []) 500 fun _ => Eq.mp (by kernel_rfl) hh
/-! sward/swardref20.truth -/
end Go.Proofs.YtfgfhplgnfbaaaaDoor
/- Digits of whole numbers: the lowest one. -/
namespace Go.Ev
theorem low_split : ∀ (u : Nat), 0 < u → ∃ k j, u = 2 ^ (k + 1) * j + 2 ^ k := by
  intro u
  induction u using Nat.strongRecOn with
  | _ u ih =>
    intro hu
    rcases Nat.mod_two_eq_zero_or_one u with h | h
    · obtain ⟨k, j, hk⟩ := ih (u / 2) (by omega) (by omega)
      refine ⟨k + 1, j, ?_⟩
      have : u = 2 * (u / 2) := by omega
      rw [this, hk, Nat.mul_add, ← Nat.mul_assoc, ← Nat.pow_succ', ← Nat.pow_succ']
    · exact ⟨0, u / 2, by simp; omega⟩
theorem two_pow_lt_succ (k : Nat) : 2 ^ k < 2 ^ (k + 1) := Nat.pow_lt_pow_right (by decide) (by omega)
/-- Without its lowest digit. -/
theorem low_clear (k j : Nat) : (2 ^ (k + 1) * j + 2 ^ k) &&& (2 ^ (k + 1) * j + 2 ^ k - 1) = 2 ^ (k + 1) * j := by
  have hp : 0 < 2 ^ k := Nat.pow_pos (by decide)
  refine Nat.eq_of_testBit_eq fun i => ?_
  rw [Nat.testBit_and, show 2 ^ (k + 1) * j + 2 ^ k - 1 = 2 ^ (k + 1) * j + (2 ^ k - 1) by omega]
  rw [Nat.testBit_two_pow_mul_add _ (two_pow_lt_succ k), Nat.testBit_two_pow_mul_add _ (by have := two_pow_lt_succ k; omega), Nat.testBit_two_pow_mul]
  by_cases hi : i < k + 1
  · rw [if_pos hi, if_pos hi, Nat.testBit_two_pow, Nat.testBit_two_pow_sub_one]
    have : ¬ i ≥ k + 1 := by omega
    simp only [this, decide_false, Bool.false_and]
    by_cases h : k = i
    · subst h; simp
    · simp [h]
  · rw [if_neg hi, if_neg hi]
    have : i ≥ k + 1 := by omega
    simp [this]
/-- The lowest digit alone. -/
theorem low_only (k j : Nat) (hu : 2 ^ (k + 1) * j + 2 ^ k < 2 ^ 32) : (2 ^ (k + 1) * j + 2 ^ k) &&& (2 ^ 32 - (2 ^ (k + 1) * j + 2 ^ k)) = 2 ^ k := by
  have hk : k < 32 := by
    rcases Nat.lt_or_ge k 32 with h | h
    · exact h
    · have := Nat.pow_le_pow_right (show 0 < 2 by decide) h
      omega
  have e32 : 2 ^ 32 = 2 ^ (k + 1) * 2 ^ (31 - k) := by rw [← Nat.pow_add]; congr 1; omega
  have hj : j < 2 ^ (31 - k) := by
    have hp : 0 < 2 ^ (k + 1) := Nat.pow_pos (by decide)
    refine Nat.lt_of_mul_lt_mul_left (a := 2 ^ (k + 1)) ?_
    omega
  have e1 : 2 ^ 32 - (2 ^ (k + 1) * j + 2 ^ k) = 2 ^ (k + 1) * (2 ^ (31 - k) - (j + 1)) + 2 ^ k := by
    rw [Nat.mul_sub, ← e32, Nat.mul_add, Nat.mul_one]
    have : 2 ^ (k + 1) = 2 ^ k + 2 ^ k := by rw [Nat.pow_succ]; omega
    have h2 : 2 ^ (k + 1) * (j + 1) ≤ 2 ^ 32 := by rw [e32]; exact Nat.mul_le_mul_left _ hj
    rw [Nat.mul_add, Nat.mul_one] at h2
    omega
  rw [e1]
  refine Nat.eq_of_testBit_eq fun i => ?_
  rw [Nat.testBit_and, Nat.testBit_two_pow_mul_add _ (two_pow_lt_succ k), Nat.testBit_two_pow_mul_add _ (two_pow_lt_succ k), Nat.testBit_two_pow]
  by_cases hi : i < k + 1
  · rw [if_pos hi, if_pos hi]; simp
  · rw [if_neg hi, if_neg hi, Nat.testBit_two_pow_sub_succ hj]
    have : k ≠ i := by omega
    simp only [this, decide_false]
    cases j.testBit (i - (k + 1)) <;> simp
/-- The digits that are set, from the lowest one on. -/
def digits (n u : Nat) : List Nat := (List.range n).filter fun i => u.testBit i
theorem filter_range_eq {n k : Nat} {p q : Nat → Bool} (hk : k < n) (hp : p k = true) (hlow : ∀ i, i < k → p i = false) (hq : ∀ i, q i = (p i && decide (i ≠ k))) : (List.range n).filter p = k :: (List.range n).filter q := by
  obtain ⟨m, rfl⟩ : ∃ m, n = k + (1 + m) := ⟨n - (k + 1), by omega⟩
  have e : List.range (k + (1 + m)) = List.range k ++ (k :: List.range' (k + 1) m) := by
    rw [List.range_eq_range', ← List.range'_append_1, ← List.range'_append_1, List.range_eq_range']
    simp
  have z1 : (List.range k).filter p = [] := List.filter_eq_nil_iff.2 fun i hi => by rw [hlow i (List.mem_range.1 hi)]; simp
  have z2 : (List.range k).filter q = [] := List.filter_eq_nil_iff.2 fun i hi => by rw [hq, hlow i (List.mem_range.1 hi)]; simp
  rw [e, List.filter_append, List.filter_append, z1, z2, List.nil_append, List.nil_append, List.filter_cons, if_pos hp, List.filter_cons, if_neg (by rw [hq]; simp)]
  congr 1
  refine List.filter_congr fun i hi => ?_
  have : k + 1 ≤ i := by rw [List.mem_range'_1] at hi; omega
  rw [hq, decide_eq_true (by omega), Bool.and_true]
theorem digits_step {n k j : Nat} (hk : k < n) : digits n (2 ^ (k + 1) * j + 2 ^ k) = k :: digits n (2 ^ (k + 1) * j) := by
  have hb : ∀ i, (2 ^ (k + 1) * j + 2 ^ k).testBit i = if i < k + 1 then decide (k = i) else j.testBit (i - (k + 1)) := fun i => by
    rw [Nat.testBit_two_pow_mul_add _ (two_pow_lt_succ k), Nat.testBit_two_pow]
  refine filter_range_eq hk ?_ (fun i hi => ?_) fun i => ?_
  · rw [hb, if_pos (by omega)]; simp
  · rw [hb, if_pos (by omega)]; simp; omega
  · rw [hb, Nat.testBit_two_pow_mul]
    by_cases hi : i < k + 1
    · rw [if_pos hi]
      have : ¬ i ≥ k + 1 := by omega
      simp only [this, decide_false, Bool.false_and]
      by_cases h : k = i
      · subst h; simp
      · simp [h]
    · rw [if_neg hi]
      have h1 : i ≥ k + 1 := by omega
      have h2 : i ≠ k := by omega
      simp [h1, h2]
theorem digits_zero (n : Nat) : digits n 0 = [] := by unfold digits; rw [List.filter_eq_nil_iff]; intro i _; simp
end Go.Ev
namespace Go.Proofs.YtfgfhplgnfbaaaaDoor
open Go.Ev
def tab : List Value := [0,1,28,2,29,14,24,3,30,22,20,15,25,17,4,8,31,27,13,23,21,19,16,7,26,12,18,6,11,5,10,9].map fun x => .int .u8 x
noncomputable def h0 : Hp := { t := Tr.set (Tr.full none 64) 0 (some (.cells tab 0 .ro)), nx := 1, gd := [] }
def saysTrue (r : Option (Value × Hp)) : Bool := match r with | some (.bool b, _) => b | _ => false
theorem gsz : Tryd.prog.globals.size = 1 := by kernel_rfl
theorem mixed : Tryd.prog.follows .mixedOrders = true := by kernel_rfl
theorem noNumB : (Tryd.prog.funcs.toList.all fun fn => !(fn.name == "runtime.NumGoroutine")) = true := by kernel_rfl
theorem noNum : NoNum Tryd.prog := fun f fn hf => by
  have := List.all_eq_true.1 noNumB fn (by rw [← Array.getElem?_toList] at hf; exact List.mem_of_getElem? hf)
  simpa using this
end Go.Proofs.YtfgfhplgnfbaaaaDoor
/- Contracts of functions of layer 20: what masks hold. -/
namespace Go.Proofs.YtfgfhplgnfbaaaaDoor
open Go Go.Ev
/-- The table is there. -/
def Tb (h : Hp) : Prop := 0 < h.nx ∧ h.get 0 = some (.cells tab 0 .ro)
theorem Tb.kp {h h' : Hp} (t : Tb h) {n : Nat} (k : Kp n h h') (hn : 0 < n) : Tb h' := ⟨Nat.lt_of_lt_of_le t.1 k.nx, by rw [k.get 0 hn]; exact t.2⟩
def tabN : List Nat := [0,1,28,2,29,14,24,3,30,22,20,15,25,17,4,8,31,27,13,23,21,19,16,7,26,12,18,6,11,5,10,9]
theorem tab_eq : tab = tabN.map fun x : Nat => Value.int .u8 (Int.ofNat x) := rfl
theorem bruijn : ∀ k, k < 32 → shrF .u32 (wrapF .u32 (Int.ofNat (2 ^ k) * 125613361)) 27 = Int.ofNat ((2 ^ k * 125613361 % 4294967296) / 134217728) ∧ (2 ^ k * 125613361 % 4294967296) / 134217728 < 32 ∧ tabN[(2 ^ k * 125613361 % 4294967296) / 134217728]? = some k := by decide +kernel
theorem neg32 {u : Nat} (h : 0 < u) (h2 : u < 4294967296) : wrapF .u32 (0 - Int.ofNat u) = Int.ofNat (4294967296 - u) := by
  rw [wrapF_eq]
  unfold IntKind.wrap
  simp only [IntKind.bits, IntKind.signed, Bool.false_and, Bool.false_eq_true, if_false, Int.ofNat_eq_natCast]
  omega
theorem pred32 {u : Nat} (h : 0 < u) (h2 : u < 4294967296) : wrapF .u32 (Int.ofNat u - 1) = Int.ofNat (u - 1) := by
  rw [wrapF_eq]
  unfold IntKind.wrap
  simp only [IntKind.bits, IntKind.signed, Bool.false_and, Bool.false_eq_true, if_false, Int.ofNat_eq_natCast]
  omega
section
variable {O : CallF} (hO : Oth O)
include hO
theorem ct120 {k j : Nat} (hu : 2 ^ (k + 1) * j + 2 ^ k < 2 ^ 32) {h : Hp} (ht : Tb h) : EvT O 120 [U (2 ^ (k + 1) * j + 2 ^ k)] h (.int .i64 (Int.ofNat k)) h := by
  refine EvC.of_ret (rk120 _ (hO _ _ _ (by decide)) ?_)
  unfold T120
  have hp : 0 < 2 ^ k := Nat.pow_pos (by decide)
  have hk : k < 32 := by
    rcases Nat.lt_or_ge k 32 with h | h
    · exact h
    · have := Nat.pow_le_pow_right (show 0 < 2 by decide) h
      omega
  generalize hu' : 2 ^ (k + 1) * j + 2 ^ k = u at hu
  have hu0 : 0 < u := by omega
  rw [neg32 hu0 (by omega), land_nat, ← hu', show (4294967296 : Nat) = 2 ^ 32 from rfl, low_only k j (by omega), hu']
  obtain ⟨b1, b2, b3⟩ := bruijn k hk
  refine vcond_f (eqI_f (by simp only [Int.ofNat_eq_natCast]; omega)) (vreq_t (inD_of (by omega)) (vreq_t (inD_of (by omega)) ?_))
  rw [b1]
  refine isNat_of (vreq_t (blt_t b2) ⟨_, read1 ht.2 (v := .int .u8 (Int.ofNat k)) ?_, ?_, rfl⟩)
  · rw [tab_eq, List.getElem?_map, Nat.zero_add, Nat.mul_one, b3]; rfl
  · rw [wrap64] <;> simp only [Int.ofNat_eq_natCast] <;> omega
/-- What a variable is: 1 true, 2 false, 0 neither. -/
def ofN (y m : Nat) (v : Nat) : Int := if y.testBit v then 1 else if m.testBit v then 2 else 0
omit hO in
theorem testBit_and_pow (y v : Nat) : (y &&& 2 ^ v = 0) ↔ y.testBit v = false := by
  constructor
  · intro h
    have := congrArg (fun z => z.testBit v) h
    simpa [Nat.testBit_and, Nat.testBit_two_pow] using this
  · intro h
    refine Nat.eq_of_testBit_eq fun i => ?_
    rw [Nat.testBit_and, Nat.testBit_two_pow]
    by_cases hi : v = i
    · subst hi; simp [h]
    · simp [hi]
theorem ct81 {y m v : Nat} (hv : v < 30) (hy : y < 2 ^ 32) (hm : m < 2 ^ 32) {h : Hp} : Ret Tryd.prog O 81 [.agg #[U y, U m], .int .i64 (Int.ofNat (v + 1))] h fun r h' => r = .int .i64 (ofN y m v) ∧ Kp h.nx h h' := by
  refine rk81 _ _ _ (hO _ _ _ (by decide)) ?_
  unfold T81
  have hx : Lit (Int.ofNat (v + 1)) := ⟨by simp only [Int.ofNat_eq_natCast]; omega, by simp only [Int.ofNat_eq_natCast]; omega, by simp only [Int.ofNat_eq_natCast]; omega⟩
  have hb : bitN (Int.ofNat (v + 1)) = 2 ^ v := by
    unfold bitN
    have : (Int.ofNat (v + 1)).natAbs = v + 1 := rfl
    rw [this, Nat.add_sub_cancel]
  have hb2 : 2 ^ v < 4294967296 := by
    have : 2 ^ v < 2 ^ 32 := Nat.pow_lt_pow_right (by decide) (by omega)
    omega
  have k0 : Kp h.nx h (h.add (.cells [U y, U m] 102 .fix)) := (Kp.refl _ _).add (Nat.le_refl _) _
  have g1 : (h.add (.cells [U y, U m] 102 .fix)).get h.nx = some (.cells [U y, U m] 102 .fix) := get_add_same ..
  refine ⟨_, _, bit_ct hO hx _, ?_⟩
  rw [hb]
  refine ⟨_, read1 g1 rfl, vreq_t (inD_of (by omega)) (vreq_t (inD_of hb2) ?_)⟩
  have hz : ∀ a : Nat, eqI (landI (Int.ofNat a) (Int.ofNat (2 ^ v))) 0 = !(a.testBit v) := fun a => by
    rw [land_nat, eqI_eq]
    have := testBit_and_pow a v
    cases ht : a.testBit v with
    | false => rw [this.2 ht]; rfl
    | true =>
      have : ¬ (a &&& 2 ^ v = 0) := fun hh => by rw [this.1 hh] at ht; cases ht
      show ((((a &&& 2 ^ v : Nat) : Int)) == 0) = false
      simpa using this
  rw [hz]
  unfold ofN
  refine vcond_split (fun h1 => ?_) fun h1 => ?_
  · rw [if_pos (by simpa using h1)]; exact ⟨rfl, k0⟩
  · rw [if_neg (by simpa using h1)]
    refine ⟨_, read1 g1 rfl, vreq_t (inD_of (by omega)) (vreq_t (inD_of hb2) ?_)⟩
    rw [hz]
    refine vcond_split (fun h2 => ?_) fun h2 => ?_
    · rw [if_pos (by simpa using h2)]; exact ⟨rfl, k0⟩
    · rw [if_neg (by simpa using h2)]; exact ⟨rfl, k0⟩
/-- The literals of masks, their variables increasing. -/
def litOf (y m : Nat) (v : Nat) : Int := if ofN y m v = 2 then -(v + 1 : Nat) else (v + 1 : Nat)
def litsN (y m : Nat) : List Int := (digits 30 (y ||| m)).map (litOf y m)
theorem lp90 {y m : Nat} (hy : y < 2 ^ 30) (hm : m < 2 ^ 30) {b base : Nat} {Q : Value → Hp → Prop} : ∀ (f u : Nat), (digits 30 u).length ≤ f → u < 2 ^ 30 → ∀ {h : Hp} {a : Option Addr} {n c : Nat} {xs : List Int}, Tb h → b < h.nx → h.get b = some (.cells [U y, U m] 102 .fix) → AccI 3 h base a n c xs → base ≤ h.nx → 0 < base → b < base → GdLt h base → xs.length + f ≤ 1000 →
    (∀ a' n' c' h', AccI 3 h' base a' n' c' (xs ++ (digits 30 u).map (litOf y m)) → Kp base h h' → Q (.slice a' n' c') h') → I90_0 O Q (Int.ofNat y) (Int.ofNat m) b 0 a n c (Int.ofNat u) h := by
  intro f
  induction f with
  | zero =>
    intro u hf hu h a n c xs ht hb hg H hbase h0 hbb hgd hl hQ
    refine I90_0.of _ _ _ _ _ _ _ _ ?_
    intros
    unfold T90_0
    have hu0 : u = 0 := by
      rcases Nat.eq_zero_or_pos u with h | h
      · exact h
      · obtain ⟨k, j, rfl⟩ := low_split u h
        have hk : k < 30 := by
          rcases Nat.lt_or_ge k 30 with h | h
          · exact h
          · have := Nat.pow_le_pow_right (show 0 < 2 by decide) h
            omega
        rw [digits_step hk] at hf
        simp at hf
    subst hu0
    refine vcond_f rfl ?_
    have := hQ a n c h (by rw [digits_zero]; simpa using H) (.refl _ _)
    exact this
  | succ f ih =>
    intro u hf hu h a n c xs ht hb hg H hbase h0 hbb hgd hl hQ
    refine I90_0.of _ _ _ _ _ _ _ _ ?_
    intros
    unfold T90_0
    rcases Nat.eq_zero_or_pos u with hu0 | hu0
    · subst hu0
      refine vcond_f rfl ?_
      have := hQ a n c h (by rw [digits_zero]; simpa using H) (.refl _ _)
      exact this
    · obtain ⟨k, j, rfl⟩ := low_split u hu0
      have hk : k < 30 := by
        rcases Nat.lt_or_ge k 30 with h | h
        · exact h
        · have := Nat.pow_le_pow_right (show 0 < 2 by decide) h
          omega
      rw [digits_step hk] at hf hQ
      have hp : 0 < 2 ^ k := Nat.pow_pos (by decide)
      refine vcond_t (by rw [eqI_f (by simp only [Int.ofNat_eq_natCast]; omega)]; rfl) ⟨_, _, ct120 hO (by omega) ht, _, _, readAt_get hg (by simp), ?_⟩
      rw [wrap_succ (by omega)]
      obtain ⟨v, h1, e1, rfl, kp1⟩ := ct81 hO (y := y) (m := m) (v := k) hk (by omega) (by omega) (h := h)
      refine ⟨_, _, e1, ?_⟩
      have H1 : AccI 3 h1 base a n c xs := H.kp kp1 (Nat.le_refl _)
      have go : ∀ x, x = litOf y m k → ∃ a' n' c' h', appendV Tryd.prog (h1.add (.cells [.int .i64 x] 3 .fix)) 32 32 (.slice a n c) (.slice (some ⟨h1.nx, 0, none⟩) 1 1) = some (.slice a' n' c', h') ∧
          vreq (inD 4294967296 (Int.ofNat (2 ^ (k + 1) * j + 2 ^ k))) (vreq (inD 4294967296 (wrapF .u32 (Int.ofNat (2 ^ (k + 1) * j + 2 ^ k) - 1))) (I90_0 O Q (Int.ofNat y) (Int.ofNat m) b 0 a' n' c' (landI (Int.ofNat (2 ^ (k + 1) * j + 2 ^ k)) (wrapF .u32 (Int.ofNat (2 ^ (k + 1) * j + 2 ^ k) - 1))) h')) := by
        rintro x rfl
        obtain ⟨a', n', c', h', e2, H2, k2⟩ := app_int app32 H1 (Nat.le_trans hbase kp1.nx) (hgd.kp kp1) (by omega) (litOf y m k)
        refine ⟨a', n', c', h', e2, ?_⟩
        rw [pred32 (by omega) (by omega), land_nat, low_clear]
        refine vreq_t (inD_of (by omega)) (vreq_t (inD_of (by omega)) ?_)
        have kp2 : Kp base h h' := (kp1.le hbase).trans (k2.kp H1 (Nat.le_trans hbase kp1.nx))
        refine ih _ (by simpa using hf) (by omega) (ht.kp kp2 h0) (Nat.lt_of_lt_of_le hb kp2.nx) (by rw [kp2.get b hbb]; exact hg) H2 (Nat.le_trans hbase kp2.nx) h0 hbb (hgd.kp kp2) (by simp; omega) fun a3 n3 c3 h3 A K => hQ a3 n3 c3 h3 (by simpa using A) (kp2.trans K)
      refine vcond_split (fun hc => ?_) fun hc => ?_
      · have hc := eq_of_t hc
        have e : wrapF .i64 (0 - Int.ofNat (k + 1)) = litOf y m k := by
          rw [wrap64 (by simp only [Int.ofNat_eq_natCast]; omega) (by simp only [Int.ofNat_eq_natCast]; omega)]
          unfold litOf
          rw [if_pos hc]
          simp only [Int.ofNat_eq_natCast]; omega
        obtain ⟨a', n', c', h', e2, hr⟩ := go _ e
        refine ⟨a', n', c', h', e2, ?_⟩
        obtain ⟨q1, hr⟩ := vreq_iff hr
        obtain ⟨q2, hr⟩ := vreq_iff hr
        exact vreq_t q1 (vreq_t q2 (hr ..))
      · have hc := ne_of_f hc
        have e : Int.ofNat (k + 1) = litOf y m k := by
          unfold litOf
          rw [if_neg hc]; rfl
        obtain ⟨a', n', c', h', e2, hr⟩ := go _ e
        refine ⟨a', n', c', h', e2, ?_⟩
        obtain ⟨q1, hr⟩ := vreq_iff hr
        obtain ⟨q2, hr⟩ := vreq_iff hr
        exact vreq_t q1 (vreq_t q2 (hr ..))
/-- What a call leaves: a list, and all memory as it was but for what is new. -/
def RInts (h : Hp) (xs : List Int) (v : Value) (h' : Hp) : Prop := ∃ a n c, v = .slice a n c ∧ IntsAt h' a n xs ∧ Kp h.nx h h' ∧ ∀ b off, a = some ⟨b, off, none⟩ → h.nx ≤ b
theorem ct90 {y m : Nat} (hy : y < 2 ^ 30) (hm : m < 2 ^ 30) {h : Hp} (hk : h.Ok) (ht : Tb h) : Ret Tryd.prog O 90 [.agg #[U y, U m]] h (RInts h (litsN y m)) := by
  refine rk90 _ _ (hO _ _ _ (by decide)) ?_
  unfold T90
  have g1 : (h.add (.cells [U y, U m] 102 .fix)).get h.nx = some (.cells [U y, U m] 102 .fix) := get_add_same ..
  have k0 : Kp h.nx h (h.add (.cells [U y, U m] 102 .fix)) := (Kp.refl _ _).add (Nat.le_refl _) _
  have hor : y ||| m < 2 ^ 30 := Nat.or_lt_two_pow hy hm
  refine ⟨_, read1 g1 rfl, _, read1 g1 rfl, vreq_t (inD_of (by omega)) (vreq_t (inD_of (by omega)) ?_)⟩
  rw [lor_nat]
  refine lp90 hO hy hm (base := h.nx + 1) (xs := []) 30 _ ?_ hor (ht.kp k0 ht.1) (by rw [nx_add]; omega) g1 (AccI.nil ..) (by rw [nx_add]; omega) (by omega) (by omega) (fun q hq => by have := hk.gd q hq; omega) (by simp) (fun a' n' c' h' A K => ⟨a', n', c', rfl, by have := A.ints; rwa [List.nil_append] at this, k0.trans (K.le (by omega)), fun b off e => by have := Acc.fresh A e; omega⟩) ..
  unfold digits
  exact Nat.le_trans (List.length_filter_le _ _) (by simp)
end
end Go.Proofs.YtfgfhplgnfbaaaaDoor
/- Contracts of functions of layer 20: lists one behind the other; resolution. -/
namespace Go.Proofs.YtfgfhplgnfbaaaaDoor
open Go Go.Ev
/-- A list that grows into room that was made for it. -/
def AccZ (h : Hp) (base : Nat) (a : Option Addr) (n c : Nat) (xs : List Int) (m : Nat) : Prop :=
  (a = none ∧ n = 0 ∧ c = 0 ∧ xs = [] ∧ m = 0) ∨ ∃ o zs, a = some ⟨o, 0, none⟩ ∧ c = unk ∧ n = xs.length ∧ base ≤ o ∧ o < h.nx ∧ h.get o = some (.cells (xs.map (Value.int .i64) ++ zs) 3 .grow) ∧ zs.length = m
theorem putAt_app {α : Type} : ∀ (xs ys zs : List α), ys.length ≤ zs.length → putAt (xs ++ zs) xs.length ys = xs ++ (ys ++ zs.drop ys.length) := by
  intro xs ys zs hl
  refine List.ext_getElem? fun i => ?_
  rw [putAt_get _ _ _ (by simp; omega)]
  simp only [List.getElem?_append, List.getElem?_drop]
  by_cases h1 : i < xs.length
  · rw [if_neg (by omega), if_pos h1, if_pos h1]
  · by_cases h2 : i < xs.length + ys.length
    · rw [if_pos ⟨by omega, h2⟩, if_neg h1, if_pos (by omega)]
    · rw [if_neg (by omega), if_neg h1, if_neg h1, if_neg (by omega)]
      congr 1; omega
theorem AccZ.ints {h : Hp} {base : Nat} {a : Option Addr} {n c m : Nat} {xs : List Int} (H : AccZ h base a n c xs m) : IntsAt h a n xs := by
  rcases H with ⟨rfl, rfl, rfl, rfl, _⟩ | ⟨o, zs, rfl, rfl, rfl, h3, h4, h5, h6⟩
  · exact SlAt.nil ..
  · refine ⟨rfl, .inr ⟨o, 0, _, _, _, rfl, h4, h5, by simp, fun i hi => ?_⟩⟩
    show ((xs.map (Value.int .i64) ++ zs).drop (0 + i * 1)).take 1 = [.int .i64 xs[i]]
    rw [Nat.zero_add, Nat.mul_one, List.drop_append_of_le_length (by simp; omega), List.drop_eq_getElem_cons (by simpa using hi)]
    simp
theorem AccZ.fresh {h : Hp} {base : Nat} {a : Option Addr} {n c m : Nat} {xs : List Int} (H : AccZ h base a n c xs m) {b off : Nat} (ha : a = some ⟨b, off, none⟩) : base ≤ b := by
  rcases H with ⟨rfl, _⟩ | ⟨o, zs, rfl, rfl, rfl, h3, h4, h5, h6⟩
  · cases ha
  · injection ha with ha; injection ha with ha _; omega
theorem ints_src {h : Hp} {a2 : Option Addr} {n2 c2 : Nat} {ys : List Int} (Y : IntsAt h a2 n2 ys) : srcCells h 1 (.slice a2 n2 c2) = some (ys.map (Value.int .i64), n2) := by
  have hn2 := Y.1
  rcases Y.2 with ⟨rfl, rfl⟩ | ⟨b, off, cs, e', m, rfl, h2, h3, h4, h5⟩
  · subst hn2; rfl
  · refine src_get ?_
    rw [Nat.mul_one, readAt_get h3 (by omega)]
    congr 1
    refine List.ext_getElem (by simp; omega) fun i hi hi' => ?_
    have hi2 : i < ys.length := by simpa using hi'
    have h7 : (cs.drop (off + i * 1)).take 1 = [.int .i64 ys[i]] := h5 i hi2
    rw [Nat.mul_one, List.drop_eq_getElem_cons (show off + i < cs.length by omega)] at h7
    simp only [List.take_succ_cons, List.take_zero, List.cons.injEq, and_true] at h7
    simp [h7]
theorem app_room {h : Hp} {base : Nat} {a : Option Addr} {n c m : Nat} {xs : List Int} (H : AccZ h base a n c xs m) (hg : GdLt h base) {a2 : Option Addr} {n2 c2 : Nat} {ys : List Int} (Y : IntsAt h a2 n2 ys) (hl : ys.length ≤ m) (hB : xs.length + m < 1000000) :
    ∃ a' n' c' h', appendV Tryd.prog h 32 32 (.slice a n c) (.slice a2 n2 c2) = some (.slice a' n' c', h') ∧ AccZ h' base a' n' c' (xs ++ ys) (m - ys.length) ∧ h'.nx = h.nx ∧ Kp base h h' := by
  obtain ⟨hz, info, z, hi, hzz, hrun⟩ := app32.run
  rw [hrun h _ _ ⟨_, _, _, rfl⟩, ints_src Y]
  have hn2 := Y.1
  have h1 : (ys.map (Value.int .i64)).all one = true := by simp [one]
  simp only [Option.bind_some, h1, cond_true]
  rcases Nat.eq_zero_or_pos n2 with h0 | h0
  · have : ys = [] := List.length_eq_zero_iff.1 (by omega)
    subst this
    subst h0
    simp only [Nat.beq_refl, cond_true]
    rcases H with ⟨rfl, rfl, rfl, rfl, rfl⟩ | ⟨o, zs, rfl, rfl, rfl, h3, h4, h5, h6⟩
    · exact ⟨none, 0, 0, h, rfl, .inl ⟨rfl, rfl, rfl, rfl, rfl⟩, rfl, .refl _ _⟩
    · refine ⟨_, xs.length, unk, h, ?_, .inr ⟨o, zs, rfl, rfl, by simp, h3, h4, by simpa using h5, by simpa using h6⟩, rfl, .refl _ _⟩
      show (bif Nat.ble xs.length unk then _ else _) = _
      rw [ble_t (by unfold unk; omega)]; rfl
  · have hk0 : Nat.beq n2 0 = false := by rw [Bool.eq_false_iff]; intro hh; have := Nat.eq_of_beq_eq_true hh; omega
    simp only [hk0, cond_false]
    rcases H with ⟨rfl, rfl, rfl, rfl, rfl⟩ | ⟨o, zs, rfl, rfl, rfl, h3, h4, h5, h6⟩
    · omega
    · have fit : Nat.ble (0 + (xs.length + n2) * 1) (xs.map (Value.int .i64) ++ zs).length = true := ble_t (by simp; omega)
      have gf : h.guarded o = false := hg.free h3
      obtain ⟨h', hw, hg'⟩ := writeAt_mk h5 (by decide) gf (off := xs.length) (vs := ys.map (Value.int .i64)) (by simp; omega) h1
      have hwr : h.wr o xs.length (ys.map (Value.int .i64)) = h' := by unfold Hp.wr; rw [hw]
      refine ⟨_, xs.length + n2, unk, h', ?_, .inr ⟨o, zs.drop ys.length, rfl, rfl, by simp; omega, h3, ?_, ?_, by simp; omega⟩, ?_, ?_⟩
      · unfold appSome
        simp only [h5, Nat.beq_refl, cond_true, isGrow, Bool.and_self, fit]
        rw [show 0 + xs.length * 1 = xs.length by omega, hw]; rfl
      · rw [← hwr, nx_wr]; exact h4
      · rw [hg']
        have := putAt_app (xs.map (Value.int .i64)) (ys.map (Value.int .i64)) zs (by simp; omega)
        rw [List.length_map] at this
        rw [this]
        simp
      · rw [← hwr, nx_wr]
      · rw [← hwr]; exact (Kp.refl _ _).wr h3 _ _
section
variable {O : CallF} (hO : Oth O)
include hO
theorem sl_none {h : Hp} : sliceV Tryd.prog h 32 (.slice none 0 0) none (some (.int .i64 (Int.ofNat 0))) none = some (.slice none 0 0) := by
  have _ := hO
  unfold sliceV
  rw [Tryd.underlying32]
  have : sz Tryd.prog 3 = some 1 := by kernel_rfl
  simp only [this, bind, Option.bind_some]
  rfl
omit hO in
theorem zeros_new {N : Nat} (hN : N < 1000000) (h1 : 0 < N) {h : Hp} : ∃ zs : List Value, zs.length = N ∧ appendV Tryd.prog h 32 3 (.slice none 0 0) (.int .i64 (Int.ofNat N)) = some (.slice (some ⟨h.nx, 0, none⟩) N unk, h.add (.cells zs 3 .grow)) := by
  refine ⟨List.flatten (List.replicate N [.int .i64 0]), by simp, ?_⟩
  have e1 : elemT Tryd.prog 32 = some 3 := by unfold elemT; rw [Tryd.underlying32]
  have ok : (match Tryd.prog.info? 3 with
    | some info => match info.zero with
      | some z => Nat.beq info.size 1 && Nat.beq info.bytes 8 && decide (z.cells.size = 1) && (match z.cells.toList with
        | [.int .i64 0] => true
        | _ => false)
      | none => false
    | none => false) = true := by kernel_rfl
  split at ok
  · rename_i info hi
    split at ok
    · rename_i z hz
      rw [Bool.and_eq_true, Bool.and_eq_true, Bool.and_eq_true] at ok
      obtain ⟨⟨⟨h2, h3⟩, h4⟩, h5⟩ := ok
      have h2 := Nat.eq_of_beq_eq_true h2
      have h3 := Nat.eq_of_beq_eq_true h3
      have h4 := of_decide_eq_true h4
      split at h5
      · rename_i hzc
        have nd : (!(Nat.beq info.size 0) && Nat.beq z.cells.size info.size && z.cells.toList.all (fun v => flat v && one v)) = true := by rw [h2, h4, hzc]; rfl
        have e2 : Tryd.prog.underlying 3 = some (.int .i64) := by kernel_rfl
        unfold appendV
        simp only [e1, hi, hz, bind, Option.bind_some, need, nd, cond_true]
        have e3 : appSrc Tryd.prog h info z 3 (.int .i64 (Int.ofNat N)) = some (List.flatten (List.replicate N [.int .i64 0]), N) := by
          unfold appSrc
          rw [e2]
          show (bif Nat.ble (N * info.bytes) 281474976710656 && Nat.blt N big && Nat.blt 0 N then some (List.flatten (List.replicate N z.cells.toList), N) else none) = _
          rw [hzc, h3, ble_t (by omega), blt_t (by unfold big; omega), blt_t h1]; rfl
        have e4 : (List.flatten (List.replicate N [Value.int .i64 0])).all one = true := by
          rw [List.all_eq_true]; intro v hv; simp at hv; rw [hv.2]; rfl
        have hk0 : Nat.beq N 0 = false := by rw [Bool.eq_false_iff]; intro hh; have := Nat.eq_of_beq_eq_true hh; omega
        rw [e3]
        simp only [Option.bind_some, e4, cond_true, hk0, cond_false, h2, h3]
        show appNew h 3 8 [] _ N = _
        unfold appNew
        rw [ble_t (by omega), blt_t (by unfold big; omega)]; rfl
      · cases h5
    · cases ok
  · cases ok
theorem ct124 {N : Nat} (hN : N < 1000000) {h : Hp} : Ret Tryd.prog O 124 [.slice none 0 0, .int .i64 (Int.ofNat N)] h fun v h' => ∃ a n c, v = .slice a n c ∧ AccZ h' h.nx a n c [] N ∧ Kp h.nx h h' := by
  refine rk124 _ _ _ _ (hO _ _ _ (by decide)) ?_
  unfold T124
  refine vcond_f (ltI_f (by simp only [Int.ofNat_eq_natCast]; omega)) (vreq_t rfl ?_)
  have e1 : wrapF .i64 (Int.ofNat N - wrapF .i64 (Int.ofNat 0 - Int.ofNat 0)) = Int.ofNat N := by
    rw [wrap64 (n := Int.ofNat 0 - Int.ofNat 0) (by decide) (by decide), wrap64] <;> simp only [Int.ofNat_eq_natCast] <;> omega
  rw [e1]
  refine vcond_split (fun h1 => vreq_t rfl ⟨none, 0, 0, sl_none hO, ?_⟩) fun h1 => ?_
  · have h1 : 0 < N := by have : (0 : Int) < (N : Int) := lt_of_t h1; omega
    obtain ⟨zs, hz, he⟩ := zeros_new hN h1 (h := h)
    refine ⟨_, _, _, _, he, some ⟨h.nx, 0 + 0 * 1, none⟩, 0 - 0, unk, ?_, _, _, _, rfl, .inr ⟨h.nx, zs, rfl, rfl, rfl, Nat.le_refl _, by rw [nx_add]; omega, get_add_same .., hz⟩, (Kp.refl _ _).add (Nat.le_refl _) _⟩
    unfold sliceV
    rw [Tryd.underlying32]
    have e3 : sz Tryd.prog 3 = some 1 := by kernel_rfl
    have e4 : Ev.seen (h.add (.cells zs 3 .grow)) 3 1 (.slice (some ⟨h.nx, 0, none⟩) N unk) = some N := by
      show (bif Nat.beq unk unk then (match (h.add (.cells zs 3 .grow)).get h.nx with
        | some (.cells cs e' .grow) => bif Nat.beq 3 e' && Nat.blt 0 1 then some ((cs.length - 0) / 1) else none
        | _ => none) else some unk) = _
      rw [get_add_same]
      show some ((zs.length - 0) / 1) = _
      rw [hz]; simp
    simp only [e3, e4, bind, Option.bind_some]
    rfl
  · have h1 : N = 0 := by have : ¬ (0 : Int) < (N : Int) := not_lt_of_f h1; omega
    subst h1
    exact ⟨none, 0, 0, rfl, .inl ⟨rfl, rfl, rfl, rfl, rfl⟩, .refl _ _⟩
/-- The lists' lengths together. -/
def lenSum (xss : List (List Int)) : Nat := (xss.map List.length).sum
omit hO in
theorem lenSum_cons (xs : List Int) (xss : List (List Int)) : lenSum (xs :: xss) = xs.length + lenSum xss := by simp [lenSum]
theorem lp103_1 {a : Option Addr} {n c : Nat} {xss : List (List Int)} (hl : xss.length < 1000) {Q : Value → Hp → Prop} {base : Nat} :
    ∀ (d k : Nat), k + d = xss.length → ∀ {h : Hp} {a6 : Option Addr} {n6 c6 : Nat} {ys : List Int}, IntssAt h a n xss → AccZ h base a6 n6 c6 ys (lenSum (xss.drop k)) → ys.length + lenSum (xss.drop k) < 1000000 → GdLt h base → (∀ b off, a = some ⟨b, off, none⟩ → b < base) → (∀ h', Kp base h h' → IntssAt h' a n xss) →
      (∀ a' n' c' h', AccZ h' base a' n' c' (ys ++ (xss.drop k).flatten) 0 → Kp base h h' → Q (.slice a' n' c') h') → I103_1 O Q a n c a6 n6 c6 (Int.ofNat k) h := by
  have _ := hO
  intro d
  induction d with
  | zero =>
    intro k hk h a6 n6 c6 ys H A hB hg hb hup hQ
    have hn := H.1
    refine I103_1.of _ _ _ _ _ _ _ ?_
    intros
    unfold T103_1
    refine vcond_f (by rw [ltI_nat]; exact blt_f (by omega)) ?_
    rw [List.drop_of_length_le (by omega)] at A hQ
    exact hQ _ _ _ _ (by simpa [lenSum] using A) (.refl _ _)
  | succ d ih =>
    intro k hk h a6 n6 c6 ys H A hB hg hb hup hQ
    have hn := H.1
    have e1 : xss.drop k = xss[k] :: xss.drop (k + 1) := List.drop_eq_getElem_cons (by omega)
    rw [e1, lenSum_cons] at A hB
    rw [e1, List.flatten_cons] at hQ
    refine I103_1.of _ _ _ _ _ _ _ ?_
    intros
    unfold T103_1
    refine vcond_t (by rw [ltI_nat]; exact blt_t (by omega)) (isNat_of (H.get (k := k) (by omega) fun b off a' n' c' h1 h2 hr Y => vreq_t (blt_t (by omega)) ⟨_, _, _, hr, ?_⟩))
    obtain ⟨a3, n3, c3, h3, e3, A3, hnx, kp⟩ := app_room A hg Y (c2 := c') (by omega) (by omega)
    refine ⟨a3, n3, c3, h3, e3, ?_⟩
    rw [wrap_succ (by omega)]
    rw [Nat.add_sub_cancel_left] at A3
    refine ih (k + 1) (by omega) (hup _ kp) A3 (by simp; omega) (hg.kp kp) hb (fun h' kp' => hup h' (kp.trans kp')) (fun a4 n4 c4 h4 A4 K4 => hQ a4 n4 c4 h4 (by rw [← List.append_assoc]; exact A4) (kp.trans K4)) ..
theorem lp103_0 {a : Option Addr} {n c : Nat} {xss : List (List Int)} {h : Hp} (H : IntssAt h a n xss) (hl : xss.length < 1000) (hs : lenSum xss < 100000) (hk : h.Ok) :
    ∀ (d k : Nat), k + d = xss.length → ∀ (s : Nat), s + lenSum (xss.drop k) = lenSum xss → I103_0 O (RInts h xss.flatten) a n c (Int.ofNat s) (Int.ofNat k) h := by
  have hn := H.1
  intro d
  induction d with
  | zero =>
    intro k hk' s hs'
    refine I103_0.of _ _ _ _ _ ?_
    intros
    unfold T103_0
    refine vcond_f (by rw [ltI_nat]; exact blt_f (by omega)) ?_
    rw [List.drop_of_length_le (by omega)] at hs'
    have hs' : s = lenSum xss := by simpa [lenSum] using hs'
    obtain ⟨v, h1, e1, a1, n1, c1, rfl, A, kp⟩ := ct124 hO (N := s) (by omega) (h := h)
    refine ⟨_, _, _, _, e1, ?_⟩
    refine lp103_1 hO hl xss.length 0 (by omega) (H.up EInts.up kp) (by rw [List.drop_zero, ← hs']; exact A) (by simp; omega) (fun q hq => by rw [kp.gd] at hq; exact hk.gd q hq) (fun b off e => ?_) (fun h' kp' => H.up EInts.up (kp.trans kp')) (fun a' n' c' h' A' K' => ⟨a', n', c', rfl, by simpa using A'.ints, kp.trans K', fun b off e => A'.fresh e⟩) ..
    rcases H.2 with ⟨_, h0⟩ | ⟨b', off', _, _, _, h0, h2, _⟩
    · rw [h0] at e; cases e
    · rw [h0] at e; injection e with e; injection e with e _; omega
  | succ d ih =>
    intro k hk' s hs'
    have e1 : xss.drop k = xss[k] :: xss.drop (k + 1) := List.drop_eq_getElem_cons (by omega)
    rw [e1, lenSum_cons] at hs'
    refine I103_0.of _ _ _ _ _ ?_
    intros
    unfold T103_0
    refine vcond_t (by rw [ltI_nat]; exact blt_t (by omega)) (isNat_of (H.get (k := k) (by omega) fun b off a' n' c' h1 h2 hr Y => vreq_t (blt_t (by omega)) ⟨_, _, _, hr, ?_⟩))
    have hY := Y.1
    have e : wrapF .i64 (Int.ofNat s + Int.ofNat n') = Int.ofNat (s + n') := by
      rw [wrap64] <;> simp only [Int.ofNat_eq_natCast] <;> omega
    rw [e, wrap_succ (by omega)]
    refine vcond_f (ltI_f (by simp only [Int.ofNat_eq_natCast]; omega)) ?_
    exact ih (k + 1) (by omega) (s + n') (by omega) ..
/-- Lists, one behind the other. -/
theorem ct103 {a : Option Addr} {n c : Nat} {xss : List (List Int)} {h : Hp} (H : IntssAt h a n xss) (hl : xss.length < 1000) (hs : lenSum xss < 100000) (hk : h.Ok) : Ret Tryd.prog O 103 [.slice a n c] h (RInts h xss.flatten) := by
  refine rk103 _ _ _ (hO _ _ _ (by decide)) ?_
  unfold T103
  exact lp103_0 hO H hl hs hk xss.length 0 (by omega) 0 (by simp) ..
end
end Go.Proofs.YtfgfhplgnfbaaaaDoor
/- Contracts of functions of layer 20: formulas, as clauses' sides. -/
namespace Go.Proofs.YtfgfhplgnfbaaaaDoor
open Go Go.Ev
/-- A clause's sides. -/
def sideF : List Int → Nat → Nat → Nat × Nat
  | [], y, m => (y, m)
  | x :: xs, y, m => sideF xs (withN y m x).1 (withN y m x).2
def sideN (xs : List Int) : Nat × Nat := sideF xs 0 0
theorem sideF_lt : ∀ {xs : List Int} {y m : Nat}, (∀ x ∈ xs, Lit x) → y < 2 ^ 30 → m < 2 ^ 30 → (sideF xs y m).1 < 2 ^ 30 ∧ (sideF xs y m).2 < 2 ^ 30 := by
  intro xs
  induction xs with
  | nil => intro y m _ hy hm; exact ⟨hy, hm⟩
  | cons x xs ih =>
    intro y m hl hy hm
    have hx := hl x (List.mem_cons_self ..)
    have hb := bitN_lt hx
    refine ih (fun z hz => hl z (List.mem_cons_of_mem _ hz)) ?_ ?_
    · unfold withN; split
      · exact Nat.or_lt_two_pow hy hb
      · exact hy
    · unfold withN; split
      · exact hm
      · exact Nat.or_lt_two_pow hm hb
theorem SlAt.below {α : Type} {w : Nat} {R : Enc α} {h : Hp} {a : Option Addr} {n : Nat} {xs : List α} (H : SlAt w R h a n xs) : ∀ b off, a = some ⟨b, off, none⟩ → b < h.nx := by
  intro b off e
  rcases H.2 with ⟨_, h0⟩ | ⟨b', off', _, _, _, h0, h2, _⟩
  · rw [h0] at e; cases e
  · rw [h0] at e; injection e with e; injection e with e _; omega
section
variable {O : CallF} (hO : Oth O)
include hO
theorem lp107 {a : Option Addr} {n c : Nat} {xs : List Int} (hx : ∀ x ∈ xs, Lit x) (hl : xs.length < 1000000) {h₀ : Hp} (ok : h₀.Ok) (H : IntsAt h₀ a n xs) {r : Nat × Nat} :
    ∀ (d k : Nat), k + d = xs.length → ∀ (y m : Nat) {h : Hp}, y < 2 ^ 30 → m < 2 ^ 30 → Kp h₀.nx h₀ h → h₀.nx + 2 ≤ h.nx → h.get h₀.nx = some (.cells [U 0, U 0] 130 .fix) → h.get (h₀.nx + 1) = some (.cells [U y, U m] 130 .fix) → r = sideF (xs.drop k) y m →
      I107_0 O (fun v h' => v = .agg #[U r.1, U r.2] ∧ Kp h₀.nx h₀ h') a n c h₀.nx 0 (h₀.nx + 1) 0 (Int.ofNat k) h := by
  have hn := H.1
  intro d
  induction d with
  | zero =>
    intro k hk y m h hy hm kp hnx g2 g3 hr
    refine I107_0.of _ _ _ _ _ _ _ _ ?_
    intros
    unfold T107_0
    refine vcond_f (by rw [ltI_nat]; exact blt_f (by omega)) ?_
    rw [List.drop_of_length_le (by omega)] at hr
    subst hr
    have gu : h.guarded h₀.nx = false := guarded_of fun q hq => by rw [kp.gd] at hq; have := ok.gd q hq; omega
    refine ⟨_, _, readAt_get g3 (by simp), vreq_t (canW_t g2 (by decide) gu (by simp) rfl) ⟨_, _, readAt_get (wr_get g2 (by decide) gu (by simp) rfl) (by simp [putAt]), rfl, kp.wr (Nat.le_refl _) _ _⟩⟩
  | succ d ih =>
    intro k hk y m h hy hm kp hnx g2 g3 hr
    refine I107_0.of _ _ _ _ _ _ _ _ ?_
    intros
    unfold T107_0
    have e1 : xs.drop k = xs[k] :: xs.drop (k + 1) := List.drop_eq_getElem_cons (by omega)
    rw [e1] at hr
    simp only [sideF] at hr
    have hlit := hx xs[k] (List.getElem_mem _)
    have H1 : IntsAt h a n xs := H.up EInt.up kp
    refine vcond_t (by rw [ltI_nat]; exact blt_t (by omega)) (isNat_of (H1.get (k := k) (by omega) fun b off h1 h2 hrd => vreq_t (blt_t (by omega)) ⟨_, hrd, ?_⟩))
    have g3' : (h.rsv 7).get (h₀.nx + 1) = _ := g3
    have gu : (h.rsv 7).guarded (h₀.nx + 1) = false := guarded_of fun q hq => by
      have : q ∈ h₀.gd := by rw [← kp.gd]; exact hq
      have := ok.gd q this; omega
    have es : (((h.rsv 7).grd [h₀.nx + 1]).rst (h.rsv 7)).grd [] = h.rsv 7 := rfl
    have es2 : ((h.rsv 7).grd [h₀.nx + 1]).rst (h.rsv 7) = h.rsv 7 := rfl
    have hb := bitN_lt hlit
    have k7 : Kp h₀.nx h₀ (h.rsv 7) := kp.rsv 7
    have go : ∀ (y' m' off : Nat) (z : Nat), y' < 2 ^ 30 → m' < 2 ^ 30 → off < 2 → putAt [U y, U m] off [U z] = [U y', U m'] → r = sideF (xs.drop (k + 1)) y' m' →
        I107_0 O (fun v h' => v = .agg #[U r.1, U r.2] ∧ Kp h₀.nx h₀ h') a n c h₀.nx 0 (h₀.nx + 1) 0 (Int.ofNat (k + 1)) (((h.rsv 7).wr (h₀.nx + 1) off [U z]).rst (h.rsv 7)) := by
      intro y' m' off z hy' hm' hoff hput hr'
      refine ih (k + 1) (by omega) y' m' hy' hm' ?_ (by rw [nx_rst, nx_wr, nx_rsv]; omega) ?_ ?_ hr'
      · exact k7.rst (g := []) (show Kp h₀.nx ((h.rsv 7).grd []) ((h.rsv 7).wr (h₀.nx + 1) off [U z]) from (Kp.refl h₀.nx (h.rsv 7)).wr (by omega) off [U z])
      · rw [get_rst, wr_get_ne _ _ _ _ (by omega)]; exact g2
      · rw [get_rst, wr_get g3' (by decide) gu (by simp; omega) rfl, hput]
    refine vcond_split (fun h3 => ?_) fun h3 => ?_
    · have e2 : withN y m xs[k] = (y ||| bitN xs[k], m) := if_pos (lt_of_t h3)
      rw [e2] at hr
      refine ⟨_, read1 g3' (i := 0 + 0) rfl, _, _, bit_ct hO hlit _, vreq_t (inD_of (by omega)) (vreq_t (inD_of (by omega)) ?_)⟩
      rw [es, es2, lor_nat, wrap_succ (by omega)]
      exact vreq_t (canW_t g3' (by decide) gu (by simp) rfl) (go (y ||| bitN xs[k]) m 0 _ (Nat.or_lt_two_pow hy hb) hm (by decide) rfl hr ..)
    · have e2 : withN y m xs[k] = (y, m ||| bitN xs[k]) := if_neg (not_lt_of_f h3)
      rw [e2] at hr
      refine ⟨_, read1 g3' (i := 0 + 1) rfl, _, _, bit_ct hO hlit _, vreq_t (inD_of (by omega)) (vreq_t (inD_of (by omega)) ?_)⟩
      rw [es, es2, lor_nat, wrap_succ (by omega)]
      exact vreq_t (canW_t g3' (by decide) gu (by simp) rfl) (go y (m ||| bitN xs[k]) 1 _ hy (Nat.or_lt_two_pow hm hb) (by decide) rfl hr ..)
theorem ct107 {a : Option Addr} {n c : Nat} {xs : List Int} (hx : ∀ x ∈ xs, Lit x) (hl : xs.length < 1000000) {h : Hp} (ok : h.Ok) (H : IntsAt h a n xs) :
    Ret Tryd.prog O 107 [.slice a n c] h fun v h' => v = .agg #[U (sideN xs).1, U (sideN xs).2] ∧ Kp h.nx h h' := by
  refine rk107 _ _ _ (hO _ _ _ (by decide)) ?_
  unfold T107
  have k1 : Kp h.nx h (h.add (.cells [U 0, U 0] 130 .fix)) := (Kp.refl _ _).add (Nat.le_refl _) _
  exact lp107 hO hx hl ok H xs.length 0 (by omega) 0 0 (by decide) (by decide) (k1.add (by rw [nx_add]; omega) _) (Nat.le_refl _) (by rw [get_add_ne (by rw [nx_add]; omega), get_add_same]; rfl) (get_add_same ..) rfl ..
end
end Go.Proofs.YtfgfhplgnfbaaaaDoor
/- Contracts of functions of layer 20: formulas are checked. -/
namespace Go.Proofs.YtfgfhplgnfbaaaaDoor
open Go Go.Ev
/-- A formula is as defined. -/
def formB (vars : Int) (cls : List (List Int)) : Bool := !(decide (vars < 0)) && !(decide (30 < vars)) && !(decide (120 < cls.length)) && cls.all (clB vars 0)
/-- Lists are many more, or longer, than they may be. -/
def greatB (cls : List (List Int)) : Bool := decide (150 < cls.length) || cls.any fun l => decide (40 < l.length)
abbrev Fm (vars : Int) (a : Option Addr) (n c : Nat) : Value := .agg #[.int .i64 vars, .slice a n c]
section
variable {O : CallF} (hO : Oth O)
include hO
theorem lp43 {a : Option Addr} {n c : Nat} {h : Hp} {cls : List (List Int)} (H : IntssAt h a n cls) (hl : cls.length < 1000000) {Q : Value → Hp → Prop} :
    ∀ (d k : Nat), k + d = cls.length → ∀ (q : Bool), Q (.bool ((cls.drop k).any fun l => decide (40 < l.length))) h → I43_0 O Q a n c q (Int.ofNat k) h := by
  have _ := hO
  have hn := H.1
  intro d
  induction d with
  | zero =>
    intro k hk q hQ
    refine I43_0.of _ _ _ _ _ ?_
    intros
    unfold T43_0
    refine vcond_f (by rw [ltI_nat]; exact blt_f (by omega)) ?_
    rw [List.drop_of_length_le (by omega)] at hQ
    exact hQ
  | succ d ih =>
    intro k hk q hQ
    refine I43_0.of _ _ _ _ _ ?_
    intros
    unfold T43_0
    refine vcond_t (by rw [ltI_nat]; exact blt_t (by omega)) (isNat_of (H.get (k := k) (by omega) fun b off a' n' c' h1 h2 hr Y => vreq_t (blt_t (by omega)) ⟨_, _, _, hr, ?_⟩))
    have hY := Y.1
    have e1 : cls.drop k = cls[k] :: cls.drop (k + 1) := List.drop_eq_getElem_cons (by omega)
    rw [e1, List.any_cons] at hQ
    refine vcond_split (fun h3 => ?_) fun h3 => ?_
    · have h3 : (40 : Int) < (n' : Int) := lt_of_t h3
      rw [decide_eq_true (by omega), Bool.true_or] at hQ; exact hQ
    · have h3 : ¬ (40 : Int) < (n' : Int) := not_lt_of_f h3
      rw [decide_eq_false (by omega), Bool.false_or] at hQ
      rw [wrap_succ (by omega)]
      exact ih (k + 1) (by omega) _ hQ ..
theorem ct43 {a : Option Addr} {n c : Nat} {h : Hp} {cls : List (List Int)} (H : IntssAt h a n cls) : EvT O 43 [.slice a n c] h (.bool (greatB cls)) h := by
  refine EvC.of_ret (rk43 _ _ _ (hO _ _ _ (by decide)) ?_)
  unfold T43 greatB
  have hn := H.1
  refine vcond_split (fun h1 => ?_) fun h1 => ?_
  · have h1 : (150 : Int) < (n : Int) := lt_of_t h1
    rw [decide_eq_true (by omega), Bool.true_or]; exact ⟨rfl, rfl⟩
  · have h1 : ¬ (150 : Int) < (n : Int) := not_lt_of_f h1
    rw [decide_eq_false (by omega), Bool.false_or]
    exact lp43 hO H (by omega) cls.length 0 (by omega) false ⟨rfl, rfl⟩ ..
omit hO in
/-- A formula's place, when it was laid. -/
theorem fm_get (h : Hp) (vars : Int) (a : Option Addr) (n c : Nat) : (h.add (.cells [.int .i64 vars, .slice a n c] 30 .fix)).get h.nx = some (.cells [.int .i64 vars, .slice a n c] 30 .fix) := get_add_same ..
omit hO in
theorem fm_kp (h : Hp) (vars : Int) (a : Option Addr) (n c : Nat) : Kp h.nx h (h.add (.cells [.int .i64 vars, .slice a n c] 30 .fix)) := (Kp.refl _ _).add (Nat.le_refl _) _
theorem lp31 {a a1 : Option Addr} {n c n1 c1 : Nat} {vars w : Int} {h : Hp} {b : Nat} {cls : List (List Int)} (H : IntssAt h a n cls) (hl : cls.length < 1000000) (hll : ∀ l ∈ cls, l.length < 1000000) (hb : h.get b = some (.cells [.int .i64 vars, .slice a1 n1 c1] 30 .fix)) {Q : Value → Hp → Prop} {x0 : Int} {a0 : Option Addr} {n0 c0 : Nat} :
    ∀ (d k : Nat), k + d = cls.length → Q (.int .i64 (if (cls.drop k).all (clB vars 0) = true then 0 else 2)) h → I31_0 O Q x0 a0 n0 c0 b 0 w a n c (Int.ofNat n) (Int.ofNat k) h := by
  have hn := H.1
  intro d
  induction d with
  | zero =>
    intro k hk hQ
    refine I31_0.of _ _ _ _ _ _ _ _ _ _ _ _ ?_
    intros
    unfold T31_0
    refine vcond_f (by rw [ltI_nat]; exact blt_f (by omega)) ?_
    rw [List.drop_of_length_le (by omega)] at hQ
    exact hQ
  | succ d ih =>
    intro k hk hQ
    refine I31_0.of _ _ _ _ _ _ _ _ _ _ _ _ ?_
    intros
    unfold T31_0
    refine vcond_t (by rw [ltI_nat]; exact blt_t (by omega)) (isNat_of (H.get (k := k) (by omega) fun b off a' n' c' h1 h2 hr Y => vreq_t (blt_t (by omega)) ⟨_, _, _, hr, _, read1 hb (i := 0 + 0) rfl, _, _, ct87 hO vars Y (hll _ (List.getElem_mem _)), ?_⟩))
    have e1 : cls.drop k = cls[k] :: cls.drop (k + 1) := List.drop_eq_getElem_cons (by omega)
    rw [e1, List.all_cons] at hQ
    refine vcond_split (fun h3 => ?_) fun h3 => ?_
    · have h3 : clB vars 0 cls[k] = false := by simpa using h3
      rw [h3, Bool.false_and] at hQ; exact hQ
    · have h3 : clB vars 0 cls[k] = true := by simpa using h3
      rw [h3, Bool.true_and] at hQ
      rw [wrap_succ (by omega)]
      exact ih (k + 1) (by omega) hQ ..
theorem ct31 {a : Option Addr} {n c : Nat} {vars : Int} {h : Hp} {cls : List (List Int)} (H : IntssAt h a n cls) (hl : cls.length < 1000000) (hll : ∀ l ∈ cls, l.length < 1000000) : Ret Tryd.prog O 31 [Fm vars a n c] h fun v h' => v = .int .i64 (if formB vars cls = true then 0 else 2) ∧ Kp h.nx h h' := by
  refine rk31 _ _ _ _ (hO _ _ _ (by decide)) ?_
  unfold T31 formB
  have hn := H.1
  have g := fm_get h vars a n c
  have kp := fm_kp h vars a n c
  refine ⟨_, read1 g rfl, vcond_split (fun h1 => ?_) fun h1 => ⟨_, read1 g rfl, vcond_split (fun h2 => ?_) fun h2 => ⟨_, _, _, read1 g rfl, vcond_split (fun h3 => ?_) fun h3 => ⟨_, _, _, read1 g rfl, ?_⟩⟩⟩⟩
  · rw [decide_eq_true (lt_of_t h1)]; exact ⟨rfl, kp⟩
  · rw [decide_eq_true (lt_of_t h2)]; refine ⟨?_, kp⟩; simp
  · have h3 : (120 : Int) < (n : Int) := lt_of_t h3
    rw [decide_eq_true (show 120 < cls.length by omega)]; refine ⟨?_, kp⟩; simp
  · have h3 : ¬ (120 : Int) < (n : Int) := not_lt_of_f h3
    rw [decide_eq_false (not_lt_of_f h1), decide_eq_false (not_lt_of_f h2), decide_eq_false (show ¬ 120 < cls.length by omega)]
    refine lp31 hO (H.up EInts.up kp) hl hll g cls.length 0 (by omega) ⟨?_, kp⟩ ..
    simp
end
end Go.Proofs.YtfgfhplgnfbaaaaDoor
/- Contracts of functions of layer 20: the base of a formula. -/
namespace Go.Proofs.YtfgfhplgnfbaaaaDoor
open Go Go.Ev
def uu (p : Nat × Nat) : List Value := [U p.1, U p.2]
theorem uu_len (p : Nat × Nat) : (uu p).length = 2 := rfl
theorem uu_one (p : Nat × Nat) : (uu p).all one = true := rfl
abbrev SidesAt2 := SlAt 2 (ECells uu)
/-- The cells of a base. -/
def baseC (vars : Int) (a : Option Addr) (n c : Nat) (a1 : Option Addr) (n1 c1 : Nat) (left : Int) (a2 : Option Addr) (n2 c2 : Nat) : List Value := [.int .i64 vars, .slice a n c, .slice a1 n1 c1, .int .i64 left, .slice a2 n2 c2]
section
variable {O : CallF} (hO : Oth O)
include hO
theorem lp76 {a a1 : Option Addr} {n c n1 c1 : Nat} {vars : Int} {h₀ : Hp} {cls : List (List Int)} (ok : h₀.Ok) (H : IntssAt h₀ a n cls) (hl : cls.length < 10000) (hll : ∀ l ∈ cls, l.length < 1000000) (hlit : ∀ l ∈ cls, ∀ x ∈ l, Lit x) {x0 : Int} {a0 : Option Addr} {n0 c0 : Nat} :
    ∀ (d k : Nat), k + d = cls.length → ∀ {h : Hp} {a6 : Option Addr} {n6 c6 : Nat}, Kp h₀.nx h₀ h → h₀.nx + 2 ≤ h.nx → h.get (h₀.nx + 1) = some (.cells (baseC vars a6 n6 c6 a1 n1 c1 2000 none 0 0) 128 .fix) → Acc h (h₀.nx + 2) 130 2 a6 n6 c6 (((cls.take k).map sideN).flatMap uu) → n6 = k →
      I76_0 O (fun v h' => ∃ a6 n6 c6, v = .pointer (some ⟨h₀.nx + 1, 0, none⟩) ∧ h'.get (h₀.nx + 1) = some (.cells (baseC vars a6 n6 c6 a1 n1 c1 2000 none 0 0) 128 .fix) ∧ h₀.nx + 1 < h'.nx ∧ Acc h' (h₀.nx + 2) 130 2 a6 n6 c6 ((cls.map sideN).flatMap uu) ∧ Kp h₀.nx h₀ h') x0 a0 n0 c0 a1 n1 c1 (h₀.nx + 1) 0 a n c (Int.ofNat n) (Int.ofNat k) h := by
  have hn := H.1
  intro d
  induction d with
  | zero =>
    intro k hk h a6 n6 c6 kp hnx gb A hn6
    refine I76_0.of _ _ _ _ _ _ _ _ _ _ _ _ _ _ ?_
    intros
    unfold T76_0
    refine vcond_f (by rw [ltI_nat]; exact blt_f (by omega)) ?_
    rw [List.take_of_length_le (by omega)] at A
    exact ⟨_, _, _, rfl, gb, by omega, A, kp⟩
  | succ d ih =>
    intro k hk h a6 n6 c6 kp hnx gb A hn6
    refine I76_0.of _ _ _ _ _ _ _ _ _ _ _ _ _ _ ?_
    intros
    unfold T76_0
    have H1 : IntssAt h a n cls := H.up EInts.up kp
    refine vcond_t (by rw [ltI_nat]; exact blt_t (by omega)) (isNat_of (H1.get (k := k) (by omega) fun b off a' n' c' h1 h2 hrd Y => vreq_t (blt_t (by omega)) ⟨_, _, _, hrd, ?_⟩))
    have okh : h.Ok := ok.kp kp
    have gb1 : (h.rsv 12).get (h₀.nx + 1) = _ := gb
    have okg : ((h.rsv 12).grd [h₀.nx + 1]).Ok := (okh.rsv 12).grd fun q hq => by
      obtain rfl := List.mem_singleton.1 hq; rw [nx_rsv]; omega
    have Y1 : IntsAt ((h.rsv 12).grd [h₀.nx + 1]) a' n' cls[k] := Y.keep (fun _ _ _ => rfl) (by rw [nx_grd, nx_rsv]; omega) fun _ _ h => h
    obtain ⟨v2, h2', e2, rfl, K2⟩ := ct107 hO (hlit _ (List.getElem_mem _)) (hll _ (List.getElem_mem _)) okg Y1 (c := c')
    refine ⟨_, _, _, read1 gb1 (i := 0 + 1) rfl, _, _, _, e2, ?_⟩
    have K2' : Kp (h.nx + 12) (h.rsv 12) (h2'.rst (h.rsv 12)) := (Kp.refl (h.nx + 12) (h.rsv 12)).rst K2
    have K2h : Kp (h.nx + 12) h (h2'.rst (h.rsv 12)) := (Kp.refl (h.nx + 12) h).rsv 12 |>.trans K2'
    refine vreq_t (free_t (by rw [K2h.get _ (by omega)]; exact okh.fr _ (by omega))) ?_
    generalize hg2 : h2'.rst (h.rsv 12) = g2 at *
    have hnx2 : h.nx + 12 ≤ g2.nx := K2'.nx
    have K3 : Kp h.nx h (g2.lay (h.nx + 7) (.cells (uu (sideN cls[k])) 130 .fix)) := (K2h.le (by omega)).lay (by omega) (by omega) _
    have A3 : Acc (g2.lay (h.nx + 7) (.cells (uu (sideN cls[k])) 130 .fix)) (h₀.nx + 2) 130 2 a6 n6 c6 (((cls.take k).map sideN).flatMap uu) := A.kp K3 (Nat.le_refl _)
    have gdh : GdLt (g2.lay (h.nx + 7) (.cells (uu (sideN cls[k])) 130 .fix)) (h₀.nx + 2) := fun q hq => by
      have : q ∈ h₀.gd := by rw [← kp.gd, ← K3.gd]; exact hq
      have := ok.gd q this; omega
    obtain ⟨a9, n9, c9, h4', e4, A4, hn9, k4⟩ := app_enc uu_len uu_one app126 A3 (by rw [nx_lay]; omega) gdh (t := h.nx + 7) (c2 := 1) (m := .fix) (e2 := 130) (x := sideN cls[k]) (by rw [get_lay, if_pos rfl]) (by omega) (by unfold big; omega)
    refine ⟨a9, n9, c9, h4', e4, ?_⟩
    have ab : ∀ off, a6 ≠ some ⟨h₀.nx + 1, off, none⟩ := fun off e => by have := A.fresh e; omega
    have gb4 : h4'.get (h₀.nx + 1) = some (.cells (baseC vars a6 n6 c6 a1 n1 c1 2000 none 0 0) 128 .fix) := by
      rw [k4.get _ (by rw [nx_lay]; omega) (ab 0), K3.get _ (by omega)]; exact gb
    have gb4' : ((h4'.rst (g2.lay (h.nx + 7) (.cells (uu (sideN cls[k])) 130 .fix))).grd []).get (h₀.nx + 1) = some (.cells (baseC vars a6 n6 c6 a1 n1 c1 2000 none 0 0) 128 .fix) := gb4
    have gu : ((h4'.rst (g2.lay (h.nx + 7) (.cells (uu (sideN cls[k])) 130 .fix))).grd []).guarded (h₀.nx + 1) = false := guarded_of fun q hq => by
      have : q ∈ h₀.gd := by rw [← kp.gd, ← K3.gd]; exact hq
      have := ok.gd q this; omega
    refine vreq_t (canW_t gb4' (by decide) gu (by simp [baseC]) rfl) ?_
    rw [wrap_succ (by omega)]
    have Kf : Kp h₀.nx h₀ ((((h4'.rst (g2.lay (h.nx + 7) (.cells (uu (sideN cls[k])) 130 .fix))).grd []).wr (h₀.nx + 1) (0 + 1) [.slice a9 n9 c9]).rst (h4'.rst (g2.lay (h.nx + 7) (.cells (uu (sideN cls[k])) 130 .fix)))) := by
      have K4 : Kp h₀.nx h₀ h4' := (kp.trans (K3.le (by omega))).trans ((k4.kp A3 (by rw [nx_lay]; omega)).le (by omega))
      refine ⟨fun o ho => ?_, ?_, ?_, fun f => ?_⟩
      · rw [get_rst, wr_get_ne _ _ _ _ (by omega)]; exact K4.get o ho
      · rw [nx_rst, nx_wr]; exact K4.nx
      · rw [gd_rst, gd_rst, gd_lay]
        have := (kp.trans (K3.le (by omega : h₀.nx ≤ h.nx))).gd
        rw [gd_lay] at this; exact this
      · exact (show Hp.Fresh (((h4'.rst (g2.lay (h.nx + 7) (.cells (uu (sideN cls[k])) 130 .fix))).grd []).wr (h₀.nx + 1) (0 + 1) [.slice a9 n9 c9]) from Hp.Fresh.wr (h := (h4'.rst (g2.lay (h.nx + 7) (.cells (uu (sideN cls[k])) 130 .fix))).grd []) (K4.fr f) _ _ _)
    have hnx4 : (g2.lay (h.nx + 7) (.cells (uu (sideN cls[k])) 130 .fix)).nx ≤ h4'.nx := k4.nx
    rw [nx_lay] at hnx4
    refine ih (k + 1) (by omega) (a6 := a9) (n6 := n9) (c6 := c9) Kf (by rw [nx_rst, nx_wr, nx_grd, nx_rst]; omega) (by rw [get_rst]; exact (wr_get gb4' (by decide) gu (by simp [baseC]) rfl).trans rfl) ?_ (by omega) ..
    have e1 : cls.take (k + 1) = cls.take k ++ [cls[k]] := List.take_succ_eq_append_getElem (by omega)
    rw [e1, List.map_append]
    refine A4.keep (fun o ho e => ?_) (by rw [nx_rst, nx_wr, nx_grd, nx_rst]; omega)
    rw [get_rst, wr_get_ne _ _ _ _ (by have := A4.fresh e; omega)]; rfl
/-- The base of a formula and given literals. -/
def RBase (h : Hp) (vars : Int) (cls : List (List Int)) (a1 : Option Addr) (n1 c1 : Nat) (v : Value) (h' : Hp) : Prop :=
  ∃ b a6 n6 c6, v = .pointer (some ⟨b, 0, none⟩) ∧ h.nx ≤ b ∧ b < h'.nx ∧ h'.get b = some (.cells (baseC vars a6 n6 c6 a1 n1 c1 2000 none 0 0) 128 .fix) ∧ Acc h' (b + 1) 130 2 a6 n6 c6 ((cls.map sideN).flatMap uu) ∧ Kp h.nx h h'
theorem ct76 {a a1 : Option Addr} {n c n1 c1 : Nat} {vars : Int} {h : Hp} {cls : List (List Int)} (ok : h.Ok) (H : IntssAt h a n cls) (hl : cls.length < 10000) (hll : ∀ l ∈ cls, l.length < 1000000) (hlit : ∀ l ∈ cls, ∀ x ∈ l, Lit x) :
    Ret Tryd.prog O 76 [Fm vars a n c, .slice a1 n1 c1] h (RBase h vars cls a1 n1 c1) := by
  refine rk76 _ _ _ _ _ _ _ (hO _ _ _ (by decide)) ?_
  unfold T76
  have hn := H.1
  have kp := fm_kp h vars a n c
  have g := fm_get h vars a n c
  have g' : ((h.add (.cells [.int .i64 vars, .slice a n c] 30 .fix)).add (.cells (baseC vars none 0 0 a1 n1 c1 2000 none 0 0) 128 .fix)).get h.nx = some (.cells [.int .i64 vars, .slice a n c] 30 .fix) := by
    rw [get_add_ne (by rw [nx_add]; omega)]; exact g
  refine ⟨_, read1 g rfl, _, _, _, read1 g' rfl, ?_⟩
  have := lp76 hO ok H hl hll hlit (a1 := a1) (n1 := n1) (c1 := c1) (vars := vars) (x0 := vars) (a0 := a) (n0 := n) (c0 := c) (c := c) cls.length 0 (by omega) (h := (h.add (.cells [.int .i64 vars, .slice a n c] 30 .fix)).add (.cells (baseC vars none 0 0 a1 n1 c1 2000 none 0 0) 128 .fix)) (a6 := none) (n6 := 0) (c6 := 0) (kp.add (by rw [nx_add]; omega) _) (by rw [nx_add, nx_add]; omega) (get_add_same ..) (by simpa using Acc.nil ..) rfl
  refine RKL.mono (this ..) ?_
  rintro v h' ⟨a6, n6, c6, rfl, e1, e2, e3, e4⟩
  exact ⟨h.nx + 1, a6, n6, c6, rfl, by omega, e2, e1, e3, e4⟩
end
end Go.Proofs.YtfgfhplgnfbaaaaDoor
/- Contract of sat.Resolve. -/
namespace Go.Proofs.YtfgfhplgnfbaaaaDoor
open Go Go.Ev
/-- The truths of two clauses' literals but those of a variable, and whether they clash. -/
def rsF (v : Int) : List Int → Nat → Nat → Bool → Nat × Nat × Bool
  | [], y, m, q => (y, m, q)
  | x :: xs, y, m, q => if x = v ∨ x = -v then rsF v xs y m q else rsF v xs (withN y m x).1 (withN y m x).2 (q && decide ((withN y m x).1 &&& (withN y m x).2 = 0))
/-- The answer from them. -/
def fin38 (t : Nat × Nat × Bool) : List Int × Int := match t.2.2 with
  | true => (litsN t.1 t.2.1, 0)
  | false => ([], 7)
def resP (xs ys : List Int) (v : Int) : List Int × Int :=
  if clB 30 0 xs = false ∨ clB 30 0 ys = false ∨ v < 1 ∨ 30 < v then ([], 2)
  else if ¬ v ∈ xs ∨ ¬ (-v) ∈ ys then ([], 7)
  else fin38 (rsF v (xs ++ ys) 0 0 true)
/-- A list and an error. -/
def RPair (h : Hp) (r : List Int × Int) (v : Value) (h' : Hp) : Prop := ∃ a n c, v = .tuple #[.slice a n c, .int .i64 r.2] ∧ IntsAt h' a n r.1 ∧ Kp h.nx h h'
theorem RPair.none {h h' : Hp} {e : Int} (k : Kp h.nx h h') : RPair h ([], e) (.tuple #[.slice none 0 0, .int .i64 e]) h' := ⟨_, _, _, rfl, SlAt.nil .., k⟩
theorem withN_lt {y m : Nat} {x : Int} (hx : Lit x) (hy : y < 2 ^ 30) (hm : m < 2 ^ 30) : (withN y m x).1 < 2 ^ 30 ∧ (withN y m x).2 < 2 ^ 30 := by
  unfold withN
  split
  · exact ⟨Nat.or_lt_two_pow hy (bitN_lt hx), hm⟩
  · exact ⟨hy, Nat.or_lt_two_pow hm (bitN_lt hx)⟩
theorem clB_lit {vars : Int} : ∀ {xs : List Int} {last : Int}, 0 ≤ last → clB vars last xs = true → ∀ x ∈ xs, Lit x ∧ varI x ≤ vars := by
  intro xs
  induction xs with
  | nil => intro last _ _ x hx; cases hx
  | cons z zs ih =>
    intro last hl h x hx
    simp only [clB] at h
    split at h
    · cases h
    · rename_i hz
      have h0 : 0 < varI z := by omega
      rcases List.mem_cons.1 hx with rfl | hx
      · refine ⟨?_, by omega⟩
        unfold varI at h0
        unfold Lit
        split at h0
        · omega
        · split at h0 <;> omega
      · exact ih (by omega) h x hx
section
variable {O : CallF} (hO : Oth O)
include hO
end
end Go.Proofs.YtfgfhplgnfbaaaaDoor
/- Contracts of functions of layer 20: models are held against formulas, and counted. -/
namespace Go.Proofs.YtfgfhplgnfbaaaaDoor
open Go Go.Ev
theorem EInts.grd {h : Hp} {g : List Nat} {x : List Int} {vs : List Value} (H : EInts h x vs) : EInts (h.grd g) x vs :=
  let ⟨a, n, c, h1, h2⟩ := H
  ⟨a, n, c, h1, h2.keep (fun _ _ _ => rfl) (Nat.le_refl _) fun _ _ h => h⟩
theorem IntssAt.grd {h : Hp} {g : List Nat} {a : Option Addr} {n : Nat} {xs : List (List Int)} (H : IntssAt h a n xs) : IntssAt (h.grd g) a n xs := H.keep (fun _ _ _ => rfl) (Nat.le_refl _) fun _ _ h => EInts.grd h
theorem BoolsAt.get {h : Hp} {a : Option Addr} {n : Nat} {xs : List Bool} (H : BoolsAt h a n xs) {k : Nat} (hk : k < xs.length) {K : Nat → Nat → Prop}
    (hK : ∀ b off, a = some ⟨b, off, none⟩ → b < h.nx → readAt h b (off + k * 1) 1 = some [.bool xs[k]] → K b off) : isAddr a K :=
  SlAt.read H hk fun b off vs h1 h2 h3 h4 => hK b off h1 h2 (by rw [h3, show vs = _ from h4])
/-- Two masks in a list. -/
theorem Sides.get {h : Hp} {a : Option Addr} {n : Nat} {xs : List (Nat × Nat)} (H : SidesAt2 h a n xs) {k : Nat} (hk : k < xs.length) {K : Nat → Nat → Prop}
    (hK : ∀ b off, a = some ⟨b, off, none⟩ → b < h.nx → readAt h b (off + k * 2) 2 = some [U xs[k].1, U xs[k].2] → K b off) : isAddr a K :=
  SlAt.read H hk fun b off vs h1 h2 h3 h4 => hK b off h1 h2 (by rw [h3, show vs = _ from h4]; rfl)
section
variable {O : CallF} (hO : Oth O)
include hO
theorem sides_lt {cls : List (List Int)} (h : ∀ l ∈ cls, ∀ x ∈ l, Lit x) : ∀ p ∈ cls.map sideN, p.1 < 2 ^ 30 ∧ p.2 < 2 ^ 30 := by
  have _ := hO
  intro p hp
  obtain ⟨l, hl, rfl⟩ := List.mem_map.1 hp
  exact sideF_lt (h l hl) (by decide) (by decide)
end
end Go.Proofs.YtfgfhplgnfbaaaaDoor
/- Contracts of functions of layer 20: how many bits; propagation by masks. -/
namespace Go.Proofs.YtfgfhplgnfbaaaaDoor
open Go Go.Ev
/-- The table of counts. -/
def popT : ByteArray := ByteArray.mk #[0, 1, 1, 2, 1, 2, 2, 3, 1, 2, 2, 3, 2, 3, 3, 4, 1, 2, 2, 3, 2, 3, 3, 4, 2, 3, 3, 4, 3, 4, 4, 5, 1, 2, 2, 3, 2, 3, 3, 4, 2, 3, 3, 4, 3, 4, 4, 5, 2, 3, 3, 4, 3, 4, 4, 5, 3, 4, 4, 5, 4, 5, 5, 6, 1, 2, 2, 3, 2, 3, 3, 4, 2, 3, 3, 4, 3, 4, 4, 5, 2, 3, 3, 4, 3, 4, 4, 5, 3, 4, 4, 5, 4, 5, 5, 6, 2, 3, 3, 4, 3, 4, 4, 5, 3, 4, 4, 5, 4, 5, 5, 6, 3, 4, 4, 5, 4, 5, 5, 6, 4, 5, 5, 6, 5, 6, 6, 7, 1, 2, 2, 3, 2, 3, 3, 4, 2, 3, 3, 4, 3, 4, 4, 5, 2, 3, 3, 4, 3, 4, 4, 5, 3, 4, 4, 5, 4, 5, 5, 6, 2, 3, 3, 4, 3, 4, 4, 5, 3, 4, 4, 5, 4, 5, 5, 6, 3, 4, 4, 5, 4, 5, 5, 6, 4, 5, 5, 6, 5, 6, 6, 7, 2, 3, 3, 4, 3, 4, 4, 5, 3, 4, 4, 5, 4, 5, 5, 6, 3, 4, 4, 5, 4, 5, 5, 6, 4, 5, 5, 6, 5, 6, 6, 7, 3, 4, 4, 5, 4, 5, 5, 6, 4, 5, 5, 6, 5, 6, 6, 7, 4, 5, 5, 6, 5, 6, 6, 7, 5, 6, 6, 7, 6, 7, 7, 8]
def pt (k : Nat) : Nat := (byteI popT k).toNat
theorem pt_byte : ∀ k, k < 256 → byteI popT k = Int.ofNat (pt k) ∧ pt k ≤ 8 ∧ (pt k = 0 → k = 0) ∧ (pt k = 1 → k = 1 ∨ k = 2 ∨ k = 4 ∨ k = 8 ∨ k = 16 ∨ k = 32 ∨ k = 64 ∨ k = 128) := by decide +kernel
theorem pt_zero : pt 0 = 0 := by decide +kernel
/-- How many bits a number has. -/
def popN (x : Nat) : Nat := pt (x / 16777216) + pt (x / 65536 % 256) + pt (x / 256 % 256) + pt (x % 256)
theorem fdiv_nat (x n : Nat) : Int.fdiv (Int.ofNat x) (Int.ofNat n) = Int.ofNat (x / n) := by
  have := Int.fdiv_eq_ediv_of_nonneg (Int.ofNat x) (Int.natCast_nonneg n)
  exact this.trans rfl
theorem shr_nat (x : Nat) : shrF .u32 (Int.ofNat x) 24 = Int.ofNat (x / 16777216) ∧ shrF .u32 (Int.ofNat x) 16 = Int.ofNat (x / 65536) ∧ shrF .u32 (Int.ofNat x) 8 = Int.ofNat (x / 256) := ⟨fdiv_nat x 16777216, fdiv_nat x 65536, fdiv_nat x 256⟩
theorem land255 (x : Nat) : landI (Int.ofNat x) 255 = Int.ofNat (x % 256) := by
  show Int.ofNat (x &&& 255) = _
  rw [show x &&& 255 = x % 256 from Nat.and_two_pow_sub_one_eq_mod x 8]
theorem wrap8 {a b : Nat} (h : a + b < 256) : wrapF .u8 (Int.ofNat a + Int.ofNat b) = Int.ofNat (a + b) := by
  show Int.ofNat ((a + b) % 256) = _
  rw [Nat.mod_eq_of_lt h]
theorem popN_zero {x : Nat} (hx : x < 2 ^ 32) : popN x = 0 ↔ x = 0 := by
  unfold popN
  constructor
  · intro h
    have h1 := (pt_byte (x / 16777216) (by omega)).2.2.1 (by omega)
    have h2 := (pt_byte (x / 65536 % 256) (by omega)).2.2.1 (by omega)
    have h3 := (pt_byte (x / 256 % 256) (by omega)).2.2.1 (by omega)
    have h4 := (pt_byte (x % 256) (by omega)).2.2.1 (by omega)
    omega
  · rintro rfl; simp [pt_zero]
theorem popN_one {x : Nat} (hx : x < 2 ^ 32) : popN x = 1 ↔ ∃ i, i < 32 ∧ x = 2 ^ i := by
  constructor
  · unfold popN
    intro h
    obtain ⟨_, _, a1, b1⟩ := pt_byte (x / 16777216) (by omega)
    obtain ⟨_, _, a2, b2⟩ := pt_byte (x / 65536 % 256) (by omega)
    obtain ⟨_, _, a3, b3⟩ := pt_byte (x / 256 % 256) (by omega)
    obtain ⟨_, _, a4, b4⟩ := pt_byte (x % 256) (by omega)
    have pw : ∀ (k s : Nat), (k = 1 ∨ k = 2 ∨ k = 4 ∨ k = 8 ∨ k = 16 ∨ k = 32 ∨ k = 64 ∨ k = 128) → ∃ i, i < 8 ∧ k * 2 ^ s = 2 ^ (i + s) := by
      intro k s hk
      rcases hk with rfl | rfl | rfl | rfl | rfl | rfl | rfl | rfl
      · exact ⟨0, by omega, by rw [Nat.pow_add]⟩
      · exact ⟨1, by omega, by rw [Nat.pow_add]⟩
      · exact ⟨2, by omega, by rw [Nat.pow_add]⟩
      · exact ⟨3, by omega, by rw [Nat.pow_add]⟩
      · exact ⟨4, by omega, by rw [Nat.pow_add]⟩
      · exact ⟨5, by omega, by rw [Nat.pow_add]⟩
      · exact ⟨6, by omega, by rw [Nat.pow_add]⟩
      · exact ⟨7, by omega, by rw [Nat.pow_add]⟩
    have cases4 : (pt (x / 16777216) = 1 ∧ pt (x / 65536 % 256) = 0 ∧ pt (x / 256 % 256) = 0 ∧ pt (x % 256) = 0) ∨ (pt (x / 16777216) = 0 ∧ pt (x / 65536 % 256) = 1 ∧ pt (x / 256 % 256) = 0 ∧ pt (x % 256) = 0) ∨ (pt (x / 16777216) = 0 ∧ pt (x / 65536 % 256) = 0 ∧ pt (x / 256 % 256) = 1 ∧ pt (x % 256) = 0) ∨ (pt (x / 16777216) = 0 ∧ pt (x / 65536 % 256) = 0 ∧ pt (x / 256 % 256) = 0 ∧ pt (x % 256) = 1) := by omega
    rcases cases4 with ⟨h1, h2, h3, h4⟩ | ⟨h1, h2, h3, h4⟩ | ⟨h1, h2, h3, h4⟩ | ⟨h1, h2, h3, h4⟩
    · obtain ⟨i, hi, e⟩ := pw _ 24 (b1 h1)
      have := a2 h2; have := a3 h3; have := a4 h4
      exact ⟨i + 24, by omega, by rw [← e]; omega⟩
    · obtain ⟨i, hi, e⟩ := pw _ 16 (b2 h2)
      have := a1 h1; have := a3 h3; have := a4 h4
      exact ⟨i + 16, by omega, by rw [← e]; omega⟩
    · obtain ⟨i, hi, e⟩ := pw _ 8 (b3 h3)
      have := a1 h1; have := a2 h2; have := a4 h4
      exact ⟨i + 8, by omega, by rw [← e]; omega⟩
    · obtain ⟨i, hi, e⟩ := pw _ 0 (b4 h4)
      have := a1 h1; have := a2 h2; have := a3 h3
      exact ⟨i, by omega, by rw [← Nat.add_zero i, ← e]; omega⟩
  · rintro ⟨i, hi, rfl⟩
    clear hx
    revert i
    decide +kernel
section
variable {O : CallF} (hO : Oth O)
include hO
theorem ct138 {x : Nat} (hx : x < 2 ^ 32) {h : Hp} : Ret Tryd.prog O 138 [U x] h fun v h' => v = .int .i64 (Int.ofNat (popN x)) ∧ Kp h.nx h h' := by
  refine rk138 _ (hO _ _ _ (by decide)) ?_
  unfold T138
  obtain ⟨s1, s2, s3⟩ := shr_nat x
  rw [s1, s2, s3, land255, land255, land255]
  obtain ⟨p1, q1, _⟩ := pt_byte (x / 16777216) (by omega)
  obtain ⟨p2, q2, _⟩ := pt_byte (x / 65536 % 256) (by omega)
  obtain ⟨p3, q3, _⟩ := pt_byte (x / 256 % 256) (by omega)
  obtain ⟨p4, q4, _⟩ := pt_byte (x % 256) (by omega)
  refine isNat_of (vreq_t (blt_t (by omega)) (vreq_t (inD_of (by omega)) (isNat_of (vreq_t (blt_t (by omega)) (vreq_t (inD_of (by omega)) (isNat_of (vreq_t (blt_t (by omega)) (vreq_t (inD_of (by omega)) (isNat_of (vreq_t (blt_t (by omega)) ⟨?_, (Kp.refl _ h).rsv 19⟩))))))))))
  show Value.int .i64 (wrapF .i64 (wrapF .u8 (wrapF .u8 (wrapF .u8 (byteI popT (x / 16777216) + byteI popT (x / 65536 % 256)) + byteI popT (x / 256 % 256)) + byteI popT (x % 256)))) = _
  rw [p1, p2, p3, p4, wrap8 (by omega), wrap8 (by omega), wrap8 (by omega), wrap64 (by simp only [Int.ofNat_eq_natCast]; omega) (by simp only [Int.ofNat_eq_natCast]; omega)]
  rfl
/-! ### spread -/
omit hO in
/-- The first clause that is not true, and clashes, or has one open literal: none: there is none; none in it: it clashes; else the masks with the literal. -/
def stepS (y m : Nat) : List (Nat × Nat) → Option (Option (Nat × Nat))
  | [] => none
  | c :: cs => if (c.1 &&& y) ||| (c.2 &&& m) = 0 then
      (if popN ((c.1 - (c.1 &&& m)) ||| (c.2 - (c.2 &&& y))) = 0 then some none
      else if popN ((c.1 - (c.1 &&& m)) ||| (c.2 - (c.2 &&& y))) = 1 then some (some (y ||| (c.1 - (c.1 &&& m)), m ||| (c.2 - (c.2 &&& y))))
      else stepS y m cs) else stepS y m cs
/-- Clauses propagate, so many times at most. -/
def spreadF (ss : List (Nat × Nat)) : Nat → Nat → Nat → (Nat × Nat) × Bool
  | 0, y, m => ((y, m), true)
  | d + 1, y, m => match stepS y m ss with
    | none => ((y, m), true)
    | some none => ((y, m), false)
    | some (some p) => spreadF ss d p.1 p.2
structure InvS (h₀ : Hp) (b3 b4 : Nat) (y m : Nat) (h : Hp) : Prop where
  kp : Kp h₀.nx h₀ h
  l3 : b3 < h.nx
  l4 : b4 < h.nx
  g3 : h.get b3 = some (.cells [U y, U m] 102 .fix)
  g4 : h.get b4 = some (.cells [U 0, U 0] 102 .fix)
omit hO in
theorem InvS.of {h₀ : Hp} {b3 b4 y m : Nat} {h h' : Hp} (I : InvS h₀ b3 b4 y m h) (k : Kp h.nx h h') : InvS h₀ b3 b4 y m h' :=
  ⟨I.kp.trans (k.le I.kp.nx), Nat.lt_of_lt_of_le I.l3 k.nx, Nat.lt_of_lt_of_le I.l4 k.nx, by rw [k.get _ I.l3]; exact I.g3, by rw [k.get _ I.l4]; exact I.g4⟩
theorem lp119_1 {b : Nat} {x1 x2 : Int} {h₀ : Hp} (ok : h₀.Ok) {a : Option Addr} {n c : Nat} {ss : List (Nat × Nat)} (H : SidesAt2 h₀ a n ss) (hl : ss.length < 1000000) (hss : ∀ p ∈ ss, p.1 < 2 ^ 30 ∧ p.2 < 2 ^ 30) {b3 b4 : Nat} (hb3 : h₀.nx ≤ b3) (hb4 : h₀.nx ≤ b4) (h34 : b3 ≠ b4) {y m : Nat} (hy : y < 2 ^ 30) (hm : m < 2 ^ 30) {r : (Nat × Nat) × Bool}
    (r0 : stepS y m ss = none → r = ((y, m), true)) (r1 : stepS y m ss = some none → r = ((y, m), false))
    (r2 : ∀ p, stepS y m ss = some (some p) → ∀ h, InvS h₀ b3 b4 p.1 p.2 h → I119_0 O (fun v h' => v = .tuple #[.agg #[U r.1.1, U r.1.2], .bool r.2] ∧ Kp h₀.nx h₀ h') b 0 x1 x2 b3 0 b4 0 false h) :
    ∀ (d k : Nat), k + d = ss.length → stepS y m (ss.drop k) = stepS y m ss → ∀ {h : Hp}, InvS h₀ b3 b4 y m h →
      I119_1 O (fun v h' => v = .tuple #[.agg #[U r.1.1, U r.1.2], .bool r.2] ∧ Kp h₀.nx h₀ h') b 0 x1 x2 b3 0 b4 0 false a n c (Int.ofNat n) (Int.ofNat k) h := by
  have hn := H.1
  have gfree : ∀ {h : Hp}, Kp h₀.nx h₀ h → ∀ o, h₀.nx ≤ o → h.guarded o = false := fun k o ho => guarded_of fun q hq => by
    rw [k.gd] at hq
    have := ok.gd q hq; omega
  have fin : ∀ {h : Hp}, InvS h₀ b3 b4 y m h → (canW h b4 0 [U y, U m] = true) ∧ (h.wr b4 0 [U y, U m]).get b4 = some (.cells [U y, U m] 102 .fix) ∧ Kp h₀.nx h₀ (h.wr b4 0 [U y, U m]) := fun I =>
    ⟨canW_t I.g4 (by decide) (gfree I.kp _ hb4) (by simp) rfl, wr_get I.g4 (by decide) (gfree I.kp _ hb4) (by simp) rfl, I.kp.wr hb4 _ _⟩
  intro d
  induction d with
  | zero =>
    intro k hk hs h I
    refine I119_1.of _ _ _ _ _ _ _ _ _ _ _ _ _ _ ?_
    intros
    unfold T119_1
    rw [List.drop_of_length_le (by omega)] at hs
    obtain rfl := r0 (by rw [← hs]; rfl)
    obtain ⟨f1, f2, f3⟩ := fin I
    exact vcond_f (by rw [ltI_nat]; exact blt_f (by omega)) ⟨_, _, readAt_get I.g3 (by simp), vreq_t f1 ⟨_, _, readAt_get f2 (by simp), rfl, f3⟩⟩
  | succ d ih =>
    intro k hk hs h I
    refine I119_1.of _ _ _ _ _ _ _ _ _ _ _ _ _ _ ?_
    intros
    unfold T119_1
    have H1 : SidesAt2 h a n ss := H.up (ECells.up uu) I.kp
    have hp := hss ss[k] (List.getElem_mem _)
    have e1 : ss.drop k = ss[k] :: ss.drop (k + 1) := List.drop_eq_getElem_cons (by omega)
    rw [e1] at hs
    simp only [stepS] at hs
    have okh := ok.kp I.kp
    have gn : (h.add (.cells [(.int .u32 0), (.int .u32 0)] 130 .fix)).get h.nx = _ := get_add_same ..
    have gu : (h.add (.cells [(.int .u32 0), (.int .u32 0)] 130 .fix)).guarded h.nx = false := guarded_of fun q hq => by have := okh.gd q hq; omega
    refine vcond_t (by rw [ltI_nat]; exact blt_t (by omega)) (isNat_of (Sides.get H1 (k := k) (by omega) fun b' off h1 h2 hrd => vreq_t (blt_t (by omega)) ⟨_, _, hrd, vreq_t (canW_t gn (by decide) gu (by simp) rfl) ?_⟩))
    have gw := wr_get gn (by decide) gu (off := 0) (vs := [U ss[k].1, U ss[k].2]) (by simp) rfl
    have kw : Kp h.nx h ((h.add (.cells [(.int .u32 0), (.int .u32 0)] 130 .fix)).wr h.nx 0 [U ss[k].1, U ss[k].2]) := ((Kp.refl _ h).add (Nat.le_refl _) _).wr (Nat.le_refl _) _ _
    have gw : ((h.add (.cells [(.int .u32 0), (.int .u32 0)] 130 .fix)).wr h.nx 0 [U ss[k].1, U ss[k].2]).get h.nx = some (.cells [U ss[k].1, U ss[k].2] 130 .fix) := gw
    have nw : h.nx < ((h.add (.cells [(.int .u32 0), (.int .u32 0)] 130 .fix)).wr h.nx 0 [U ss[k].1, U ss[k].2]).nx := by rw [nx_wr, nx_add]; omega
    generalize ss[k] = cc at hp hs gw kw nw ⊢
    generalize (h.add (.cells [(.int .u32 0), (.int .u32 0)] 130 .fix)).wr h.nx 0 [U cc.1, U cc.2] = hw at gw kw nw ⊢
    have Iw := I.of kw
    have I12 := I.of (kw.rsv 12)
    have g12 : (hw.rsv 12).get h.nx = some (.cells [U cc.1, U cc.2] 130 .fix) := gw
    have l1 : cc.1 &&& y ≤ cc.1 := Nat.and_le_left
    have l2 : cc.2 &&& m ≤ cc.2 := Nat.and_le_left
    have l3 : cc.1 - (cc.1 &&& m) ≤ cc.1 := Nat.sub_le _ _
    have l4 : cc.2 - (cc.2 &&& y) ≤ cc.2 := Nat.sub_le _ _
    refine ⟨_, read1 gw (i := 0) rfl, _, read1 Iw.g3 (i := 0 + 0) rfl, vreq_t (inD_of (by omega)) (vreq_t (inD_of (by omega)) ⟨_, read1 gw (i := 1) rfl, _, read1 Iw.g3 (i := 0 + 1) rfl, vreq_t (inD_of (by omega)) (vreq_t (inD_of (by omega)) (vreq_t (by rw [land_nat]; exact inD_of (by omega)) (vreq_t (by rw [land_nat]; exact inD_of (by omega)) ?_)))⟩)⟩
    rw [land_nat, land_nat, lor_nat, wrap_succ (by omega)]
    refine vcond_split (fun h3 => ?_) fun h3 => ?_
    · have h3 : ¬ ((cc.1 &&& y) ||| (cc.2 &&& m) = 0) := fun hh => by rw [hh] at h3; exact absurd h3 (by decide)
      rw [if_neg h3] at hs
      exact ih (k + 1) (by omega) hs Iw ..
    have h3 : (cc.1 &&& y) ||| (cc.2 &&& m) = 0 := by
      have h3 : eqI (Int.ofNat ((cc.1 &&& y) ||| (cc.2 &&& m))) 0 = true := by simpa using h3
      exact Int.ofNat.inj (eq_of_t h3)
    rw [if_pos h3] at hs
    refine ⟨_, read1 g12 (i := 0) rfl, _, read1 I12.g3 (i := 0 + 1) rfl, vreq_t (inD_of (by omega)) (vreq_t (inD_of (by omega)) ⟨_, read1 g12 (i := 1) rfl, _, read1 I12.g3 (i := 0 + 0) rfl, vreq_t (inD_of (by omega)) (vreq_t (inD_of (by omega)) (vreq_t (by rw [andn_nat]; exact inD_of (by omega)) (vreq_t (by rw [andn_nat]; exact inD_of (by omega)) ?_)))⟩)⟩
    rw [andn_nat, andn_nat, lor_nat]
    have hz : (cc.1 - (cc.1 &&& m)) ||| (cc.2 - (cc.2 &&& y)) < 2 ^ 30 := Nat.or_lt_two_pow (by omega) (by omega)
    obtain ⟨v, h5, e5, rfl, K5⟩ := ct138 hO (x := (cc.1 - (cc.1 &&& m)) ||| (cc.2 - (cc.2 &&& y))) (by omega) (h := hw.rsv 12)
    have I5 := I12.of K5
    refine ⟨_, _, e5, vcond_split (fun h6 => ?_) fun h6 => ?_⟩
    · have h6 : popN ((cc.1 - (cc.1 &&& m)) ||| (cc.2 - (cc.2 &&& y))) = 0 := Int.ofNat.inj (eq_of_t h6)
      rw [if_pos h6] at hs
      obtain rfl := r1 hs.symm
      obtain ⟨f1, f2, f3⟩ := fin I5
      exact ⟨_, _, readAt_get I5.g3 (by simp), vreq_t f1 ⟨_, _, readAt_get f2 (by simp), rfl, f3⟩⟩
    have h6 : ¬ popN ((cc.1 - (cc.1 &&& m)) ||| (cc.2 - (cc.2 &&& y))) = 0 := fun hh => ne_of_f h6 (by rw [hh]; rfl)
    rw [if_neg h6] at hs
    refine vcond_split (fun h7 => ?_) fun h7 => ?_
    · have h7 : popN ((cc.1 - (cc.1 &&& m)) ||| (cc.2 - (cc.2 &&& y))) = 1 := Int.ofNat.inj (eq_of_t h7)
      rw [if_pos h7] at hs
      have gu5 := gfree I5.kp b3 hb3
      have c1 := canW_t I5.g3 (by decide) gu5 (off := 0 + 0) (vs := [U (y ||| (cc.1 - (cc.1 &&& m)))]) (by simp) rfl
      have w1 := wr_get I5.g3 (by decide) gu5 (off := 0 + 0) (vs := [U (y ||| (cc.1 - (cc.1 &&& m)))]) (by simp) rfl
      have k6 := I5.kp.wr hb3 (0 + 0) [U (y ||| (cc.1 - (cc.1 &&& m)))]
      have w1 : (h5.wr b3 (0 + 0) [U (y ||| (cc.1 - (cc.1 &&& m)))]).get b3 = some (.cells [U (y ||| (cc.1 - (cc.1 &&& m))), U m] 102 .fix) := w1
      have gu6 := gfree k6 b3 hb3
      have c2 := canW_t w1 (by decide) gu6 (off := 0 + 1) (vs := [U (m ||| (cc.2 - (cc.2 &&& y)))]) (by simp) rfl
      have w2 := wr_get w1 (by decide) gu6 (off := 0 + 1) (vs := [U (m ||| (cc.2 - (cc.2 &&& y)))]) (by simp) rfl
      refine ⟨_, read1 I5.g3 (i := 0 + 0) rfl, vreq_t (inD_of (by omega)) (vreq_t (inD_of (by omega)) (vreq_t (by rw [lor_nat]; exact c1) ?_))⟩
      rw [lor_nat]
      refine ⟨_, read1 w1 (i := 0 + 1) rfl, vreq_t (inD_of (by omega)) (vreq_t (inD_of (by omega)) (vreq_t (by rw [lor_nat]; exact c2) ?_))⟩
      rw [lor_nat]
      exact r2 _ hs.symm _ ⟨k6.wr hb3 _ _, by rw [nx_wr, nx_wr]; exact I5.l3, by rw [nx_wr, nx_wr]; exact I5.l4, w2, by rw [wr_get_ne _ _ _ _ (Ne.symm h34), wr_get_ne _ _ _ _ (Ne.symm h34)]; exact I5.g4⟩ ..
    · have h7 : ¬ popN ((cc.1 - (cc.1 &&& m)) ||| (cc.2 - (cc.2 &&& y))) = 1 := fun hh => ne_of_f h7 (by rw [hh]; rfl)
      rw [if_neg h7] at hs
      exact ih (k + 1) (by omega) hs I5 ..
end
end Go.Proofs.YtfgfhplgnfbaaaaDoor
/- Contracts of functions of layer 20: models are counted, by masks. -/
namespace Go.Proofs.YtfgfhplgnfbaaaaDoor
open Go Go.Ev
section
variable {O : CallF} (hO : Oth O)
include hO
end
end Go.Proofs.YtfgfhplgnfbaaaaDoor
/- Contracts of functions of layer 20's reference: models are held against formulas. -/
namespace Go.Proofs.YtfgfhplgnfbaaaaDoor
open Go Go.Ev
theorem varI_lit2 {x : Int} (h : Lit x) : varI x = x.natAbs := by
  unfold varI
  rw [if_neg (by have := h.2; omega)]
  split <;> omega
/-- A literal's truth. -/
def tvR (ts : List Int) (x : Int) : Int := if x < 0 then -(ts.getD (-x).toNat 0) else ts.getD x.toNat 0
section
variable {O : CallF} (hO : Oth O)
include hO
end
end Go.Proofs.YtfgfhplgnfbaaaaDoor
/- Contracts of functions of layer 20's reference: models are counted, one by one. -/
namespace Go.Proofs.YtfgfhplgnfbaaaaDoor
open Go Go.Ev
section
variable {O : CallF} (hO : Oth O)
include hO
end
end Go.Proofs.YtfgfhplgnfbaaaaDoor
/- Contract of the reference's Resolve. -/
namespace Go.Proofs.YtfgfhplgnfbaaaaDoor
open Go Go.Ev
section
variable {O : CallF} (hO : Oth O)
include hO
end
end Go.Proofs.YtfgfhplgnfbaaaaDoor
/- The plain law: both texts resolve alike. -/
namespace Go.Proofs.YtfgfhplgnfbaaaaDoor
open Go Go.Ev
theorem clB_gt {vars : Int} : ∀ {xs : List Int} {last : Int}, clB vars last xs = true → ∀ z ∈ xs, last < varI z := by
  intro xs
  induction xs with
  | nil => intro last _ z hz; cases hz
  | cons x xs ih =>
    intro last h z hz
    simp only [clB] at h
    split at h
    · cases h
    · rename_i hx
      rcases List.mem_cons.1 hz with rfl | hz
      · omega
      · have := ih h z hz; omega
/-! ### the masks -/
theorem bitN_test {x : Int} (h : Lit x) (i : Nat) : (bitN x).testBit i = decide (x = (i + 1 : Nat) ∨ x = -(i + 1 : Nat)) := by
  unfold bitN
  rw [Nat.testBit_two_pow]
  have := h.1
  congr 1
  refine propext ⟨fun e => ?_, fun e => ?_⟩ <;> omega
theorem withN_test {y m : Nat} {x : Int} (h : Lit x) (i : Nat) : (withN y m x).1.testBit i = (y.testBit i || decide (x = (i + 1 : Nat))) ∧ (withN y m x).2.testBit i = (m.testBit i || decide (x = -(i + 1 : Nat))) := by
  have hb := bitN_test h i
  unfold withN
  split
  · rename_i hp
    refine ⟨by simp only [Nat.testBit_or, hb]; congr 2; exact propext ⟨fun e => by omega, .inl⟩, ?_⟩
    have : ¬ (x = -(i + 1 : Nat)) := by omega
    rw [decide_eq_false this, Bool.or_false]
  · rename_i hp
    refine ⟨?_, by simp only [Nat.testBit_or, hb]; congr 2; exact propext ⟨fun e => by omega, .inr⟩⟩
    have : ¬ (x = (i + 1 : Nat)) := by have := h.1; omega
    rw [decide_eq_false this, Bool.or_false]
theorem and_zero_iff (y m : Nat) : y &&& m = 0 ↔ ∀ i, ¬ (y.testBit i = true ∧ m.testBit i = true) := by
  constructor
  · intro h i ⟨a, b⟩
    have := congrArg (fun z => z.testBit i) h
    simp [Nat.testBit_and, a, b] at this
  · intro h
    refine Nat.eq_of_testBit_eq fun i => ?_
    rw [Nat.testBit_and]
    have := h i
    cases a : y.testBit i <;> cases b : m.testBit i <;> simp_all
/-! ### the reference's loop -/
end Go.Proofs.YtfgfhplgnfbaaaaDoor
/- The plain law of formulas: a model's masks and its values say the same; so do the counts. -/
namespace Go.Proofs.YtfgfhplgnfbaaaaDoor
open Go Go.Ev
theorem add_or : ∀ (n x y : Nat), x < 2 ^ n → x &&& y = 0 → x + y = x ||| y := by
  intro n
  induction n with
  | zero => intro x y hx _; have : x = 0 := by simpa using hx
            subst this; simp
  | succ n ih =>
    intro x y hx h
    have hd := ih (x / 2) (y / 2) (by rw [Nat.pow_succ] at hx; omega) (by rw [← Nat.and_div_two, h])
    have h0 := Nat.testBit_and x y 0
    rw [h, Nat.zero_testBit] at h0
    have t := Nat.testBit_or x y 0
    rw [Nat.testBit_zero, Nat.testBit_zero] at h0
    rw [Nat.testBit_zero, Nat.testBit_zero, Nat.testBit_zero] at t
    have e := Nat.or_div_two (a := x) (b := y)
    have e2 : (x ||| y) % 2 = (x % 2 + y % 2) := by
      rcases Nat.mod_two_eq_zero_or_one x with a | a <;> rcases Nat.mod_two_eq_zero_or_one y with b | b <;> rcases Nat.mod_two_eq_zero_or_one (x ||| y) with c | c <;> rw [a, b] at h0 t <;> rw [c] at t <;> simp at h0 t <;> omega
    omega
theorem testBit_andn (a b i : Nat) : (a - (a &&& b)).testBit i = (a.testBit i && !b.testBit i) := by
  have h : (a ^^^ (a &&& b)) &&& (a &&& b) = 0 := Nat.eq_of_testBit_eq fun i => by
    simp only [Nat.testBit_and, Nat.testBit_xor, Nat.zero_testBit]
    cases a.testBit i <;> cases b.testBit i <;> rfl
  have h2 := add_or _ _ _ (Nat.lt_two_pow_self) h
  have h3 : (a ^^^ (a &&& b)) ||| (a &&& b) = a := Nat.eq_of_testBit_eq fun i => by
    simp only [Nat.testBit_and, Nat.testBit_xor, Nat.testBit_or]
    cases a.testBit i <;> cases b.testBit i <;> rfl
  have h4 : a - (a &&& b) = a ^^^ (a &&& b) := by omega
  rw [h4]
  simp only [Nat.testBit_and, Nat.testBit_xor]
  cases a.testBit i <;> cases b.testBit i <;> rfl
theorem sideF_test : ∀ {L : List Int} {y m : Nat}, (∀ x ∈ L, Lit x) → ∀ i : Nat,
    (sideF L y m).1.testBit i = (y.testBit i || decide (((i + 1 : Nat) : Int) ∈ L)) ∧ (sideF L y m).2.testBit i = (m.testBit i || decide (-((i + 1 : Nat) : Int) ∈ L)) := by
  intro L
  induction L with
  | nil => intro y m _ i; simp [sideF]
  | cons x L ih =>
    intro y m hl i
    obtain ⟨h1, h2⟩ := ih (y := (withN y m x).1) (m := (withN y m x).2) (fun z hz => hl z (List.mem_cons_of_mem _ hz)) i
    obtain ⟨w1, w2⟩ := withN_test (y := y) (m := m) (hl x (List.mem_cons_self ..)) i
    simp only [sideF]
    rw [h1, h2, w1, w2, Bool.or_assoc, Bool.or_assoc]
    refine ⟨?_, ?_⟩ <;> · congr 1; simp only [List.mem_cons]; rw [← Bool.decide_or]; congr 1; refine propext (or_congr ⟨fun e => e.symm, fun e => e.symm⟩ Iff.rfl)
theorem or_zero_iff (y m : Nat) : y ||| m = 0 ↔ ∀ i, y.testBit i = false ∧ m.testBit i = false := by
  constructor
  · intro h i
    have := congrArg (fun z => z.testBit i) h
    simpa [Nat.testBit_or] using this
  · intro h
    refine Nat.eq_of_testBit_eq fun i => ?_
    obtain ⟨a, b⟩ := h i
    rw [Nat.testBit_or, a, b, Nat.zero_testBit]; rfl
section
variable {O : CallF} (hO : Oth O)
include hO
end
end Go.Proofs.YtfgfhplgnfbaaaaDoor
/- Contracts of functions of layer 20: propagation by masks, to its end; what is given, and asked. -/
namespace Go.Proofs.YtfgfhplgnfbaaaaDoor
open Go Go.Ev
/-- How many variables are open. -/
def freeN (z : Nat) : Nat := ((List.range 30).filter fun i => !z.testBit i).length
theorem freeN_le (z : Nat) : freeN z ≤ 30 := Nat.le_trans (List.length_filter_le _ _) (by simp)
theorem filter_lt {α : Type} {p q : α → Bool} {a : α} : ∀ {l : List α}, a ∈ l → p a = true → q a = false → (∀ x, q x = true → p x = true) → (l.filter q).length < (l.filter p).length := by
  intro l
  induction l with
  | nil => intro h; cases h
  | cons x l ih =>
    intro h hp hq hi
    have hle : (l.filter q).length ≤ (l.filter p).length := by
      clear ih h
      induction l with
      | nil => exact Nat.le_refl _
      | cons y l ih =>
        rw [List.filter_cons, List.filter_cons]
        cases hy : q y with
        | true => rw [hi y hy]; simpa using ih
        | false => cases p y <;> simp <;> omega
    rw [List.filter_cons, List.filter_cons]
    rcases List.mem_cons.1 h with rfl | h
    · rw [hp, hq]; simp; omega
    · have := ih h hp hq hi
      cases hy : q x with
      | true => rw [hi x hy]; simpa using this
      | false => cases p x <;> simp <;> omega
theorem freeN_lt {z i : Nat} (hi : i < 30) (h : z.testBit i = false) : freeN (z ||| 2 ^ i) < freeN z := by
  refine filter_lt (a := i) (List.mem_range.2 hi) (by rw [h]; rfl) (by rw [Nat.testBit_or, Nat.testBit_two_pow]; simp) fun x hx => ?_
  rw [Nat.testBit_or] at hx
  cases hz : z.testBit x with
  | true => rw [hz] at hx; simp at hx
  | false => rfl
theorem stepS_unit {y m : Nat} {p : Nat × Nat} (hy : y < 2 ^ 30) (hm : m < 2 ^ 30) : ∀ {ss : List (Nat × Nat)}, (∀ c ∈ ss, c.1 < 2 ^ 30 ∧ c.2 < 2 ^ 30) → stepS y m ss = some (some p) →
    ∃ c ∈ ss, (c.1 &&& y) ||| (c.2 &&& m) = 0 ∧ p = (y ||| (c.1 - (c.1 &&& m)), m ||| (c.2 - (c.2 &&& y))) ∧ ∃ i, i < 30 ∧ (c.1 - (c.1 &&& m)) ||| (c.2 - (c.2 &&& y)) = 2 ^ i := by
  intro ss
  induction ss with
  | nil => intro _ h; cases h
  | cons c ss ih =>
    intro hs h
    have hc := hs c (List.mem_cons_self ..)
    simp only [stepS] at h
    have next : stepS y m ss = some (some p) → ∃ c' ∈ c :: ss, (c'.1 &&& y) ||| (c'.2 &&& m) = 0 ∧ p = (y ||| (c'.1 - (c'.1 &&& m)), m ||| (c'.2 - (c'.2 &&& y))) ∧ ∃ i, i < 30 ∧ (c'.1 - (c'.1 &&& m)) ||| (c'.2 - (c'.2 &&& y)) = 2 ^ i := fun h => by
      obtain ⟨c', a, b⟩ := ih (fun c hc => hs c (List.mem_cons_of_mem _ hc)) h
      exact ⟨c', List.mem_cons_of_mem _ a, b⟩
    split at h
    · rename_i h0
      split at h
      · cases h
      · split at h
        · rename_i h1
          have hz : (c.1 - (c.1 &&& m)) ||| (c.2 - (c.2 &&& y)) < 2 ^ 30 := Nat.or_lt_two_pow (Nat.lt_of_le_of_lt (Nat.sub_le _ _) hc.1) (Nat.lt_of_le_of_lt (Nat.sub_le _ _) hc.2)
          obtain ⟨i, hi, e⟩ := (popN_one (Nat.lt_of_lt_of_le hz (by decide))).1 h1
          refine ⟨c, List.mem_cons_self .., h0, by injection h with h; injection h with h; exact h.symm, i, ?_, e⟩
          rw [e] at hz
          exact (Nat.pow_lt_pow_iff_right (by decide)).1 hz
        · exact next h
    · exact next h
theorem stepS_free {y m : Nat} {p : Nat × Nat} (hy : y < 2 ^ 30) (hm : m < 2 ^ 30) {ss : List (Nat × Nat)} (hs : ∀ c ∈ ss, c.1 < 2 ^ 30 ∧ c.2 < 2 ^ 30) (h : stepS y m ss = some (some p)) : freeN (p.1 ||| p.2) < freeN (y ||| m) ∧ p.1 < 2 ^ 30 ∧ p.2 < 2 ^ 30 := by
  obtain ⟨c, hc, h0, rfl, i, hi, e⟩ := stepS_unit hy hm hs h
  have hc := hs c hc
  refine ⟨?_, Nat.or_lt_two_pow hy (Nat.lt_of_le_of_lt (Nat.sub_le _ _) hc.1), Nat.or_lt_two_pow hm (Nat.lt_of_le_of_lt (Nat.sub_le _ _) hc.2)⟩
  have e2 : (y ||| (c.1 - (c.1 &&& m))) ||| (m ||| (c.2 - (c.2 &&& y))) = (y ||| m) ||| 2 ^ i := by
    rw [← e]
    refine Nat.eq_of_testBit_eq fun j => ?_
    simp only [Nat.testBit_or]
    cases y.testBit j <;> cases m.testBit j <;> cases (c.1 - (c.1 &&& m)).testBit j <;> rfl
  rw [e2]
  refine freeN_lt hi ?_
  have hb := congrArg (fun z => z.testBit i) e
  have hz := (or_zero_iff _ _).1 h0 i
  simp only [Nat.testBit_or, testBit_andn, Nat.testBit_two_pow_self] at hb
  simp only [Nat.testBit_and] at hz
  rw [Nat.testBit_or]
  cases h1 : y.testBit i <;> cases h2 : m.testBit i <;> cases h3 : c.1.testBit i <;> cases h4 : c.2.testBit i <;> simp_all
section
variable {O : CallF} (hO : Oth O)
include hO
theorem lp119_0 {b : Nat} {x1 x2 : Int} {h₀ : Hp} (ok : h₀.Ok) {vars left : Int} {a a1 a2 : Option Addr} {n c n1 c1 n2 c2 : Nat} (hb : h₀.get b = some (.cells (baseC vars a n c a1 n1 c1 left a2 n2 c2) 128 .fix)) (hbn : b < h₀.nx) {ss : List (Nat × Nat)} (H : SidesAt2 h₀ a n ss) (hl : ss.length < 1000000) (hss : ∀ p ∈ ss, p.1 < 2 ^ 30 ∧ p.2 < 2 ^ 30) {b3 b4 : Nat} (hb3 : h₀.nx ≤ b3) (hb4 : h₀.nx ≤ b4) (h34 : b3 ≠ b4) {r : (Nat × Nat) × Bool} :
    ∀ (d : Nat) {y m : Nat}, y < 2 ^ 30 → m < 2 ^ 30 → freeN (y ||| m) < d → r = spreadF ss d y m → ∀ {h : Hp}, InvS h₀ b3 b4 y m h →
      I119_0 O (fun v h' => v = .tuple #[.agg #[U r.1.1, U r.1.2], .bool r.2] ∧ Kp h₀.nx h₀ h') b 0 x1 x2 b3 0 b4 0 false h := by
  intro d
  induction d with
  | zero => intro y m _ _ h; omega
  | succ d ih =>
    intro y m hy hm hd hr h I
    refine I119_0.of _ _ _ _ _ _ _ _ _ ?_
    intros
    unfold T119_0
    refine ⟨_, _, _, read1 (by rw [I.kp.get _ hbn]; exact hb) (i := 0 + 1) rfl, ?_⟩
    simp only [spreadF] at hr
    refine lp119_1 hO ok H hl hss hb3 hb4 h34 hy hm (fun h0 => by rw [h0] at hr; exact hr) (fun h1 => by rw [h1] at hr; exact hr) (fun p h2 h' I' => ?_) ss.length 0 (by omega) rfl I ..
    rw [h2] at hr
    obtain ⟨f1, f2, f3⟩ := stepS_free hy hm hss h2
    exact ih f2 f3 (by omega) hr I'
theorem ct119 {b : Nat} {h : Hp} (ok : h.Ok) {vars left : Int} {a a1 a2 : Option Addr} {n c n1 c1 n2 c2 : Nat} (hb : h.get b = some (.cells (baseC vars a n c a1 n1 c1 left a2 n2 c2) 128 .fix)) (hbn : b < h.nx) {ss : List (Nat × Nat)} (H : SidesAt2 h a n ss) (hl : ss.length < 1000000) (hss : ∀ p ∈ ss, p.1 < 2 ^ 30 ∧ p.2 < 2 ^ 30) {y m : Nat} (hy : y < 2 ^ 30) (hm : m < 2 ^ 30) :
    Ret Tryd.prog O 119 [.pointer (some ⟨b, 0, none⟩), .agg #[U y, U m]] h fun v h' => v = .tuple #[.agg #[U (spreadF ss 31 y m).1.1, U (spreadF ss 31 y m).1.2], .bool (spreadF ss 31 y m).2] ∧ Kp h.nx h h' := by
  refine rk119 _ _ _ _ (hO _ _ _ (by decide)) ?_
  unfold T119
  have hf := freeN_le (y ||| m)
  refine lp119_0 hO ok hb hbn H hl hss (Nat.le_refl _) (show h.nx ≤ h.nx + 1 by omega) (show h.nx ≠ h.nx + 1 by omega) 31 hy hm (by omega) rfl ⟨((Kp.refl _ h).add (Nat.le_refl _) _).add (by rw [nx_add]; omega) _, show h.nx < h.nx + 1 + 1 by omega, show h.nx + 1 < h.nx + 1 + 1 by omega, ?_, get_add_same ..⟩ ..
  rw [get_add_ne (by rw [nx_add]; omega), get_add_same]
/-- Literals are made true, one after the other; false: one was false. -/
def layN : List Int → Nat → Nat → (Nat × Nat) × Bool
  | [], y, m => ((y, m), true)
  | x :: xs, y, m => if (withN y m x).1 &&& (withN y m x).2 = 0 then layN xs (withN y m x).1 (withN y m x).2 else (withN y m x, false)
/-- Propagation from truths and literals. -/
def fromR (ss : List (Nat × Nat)) (xs : List Int) (y m : Nat) : (Nat × Nat) × Bool := if (layN xs y m).2 = true then spreadF ss 31 (layN xs y m).1.1 (layN xs y m).1.2 else layN xs y m
def fromN (ss : List (Nat × Nat)) (xs : List Int) : (Nat × Nat) × Bool := fromR ss xs 0 0
omit hO in
theorem fromR_cons (ss : List (Nat × Nat)) (x : Int) (xs : List Int) (y m : Nat) : fromR ss (x :: xs) y m = if (withN y m x).1 &&& (withN y m x).2 = 0 then fromR ss xs (withN y m x).1 (withN y m x).2 else (withN y m x, false) := by
  unfold fromR
  simp only [layN]
  split
  · rfl
  · rfl
/-- The inner loop: a list's literals are made true. -/
theorem lp89_1 {b : Nat} {a1 : Option Addr} {n1 c1 : Nat} {h₀ : Hp} (ok : h₀.Ok) {b4 b6 b18 : Nat} (hb4 : h₀.nx ≤ b4) (hb6 : h₀.nx ≤ b6) (hb18 : h₀.nx ≤ b18) (h46 : b4 ≠ b6) (h418 : b4 ≠ b18) (h618 : b6 ≠ b18) {cells : List Value} {x20 : Int} {ss : List (Nat × Nat)} {xs rest : List Int} (hl : xs.length < 1000000) (hx : ∀ x ∈ xs, Lit x) {r : (Nat × Nat) × Bool} {a : Option Addr} {n c : Nat} (X : IntsAt h₀ a n xs)
    (next : ∀ y m h, y < 2 ^ 30 → m < 2 ^ 30 → InvS h₀ b6 b4 y m h → b18 < h.nx → h.get b18 = some (.cells cells 32 .fix) → r = fromR ss rest y m → I89_0 O (fun v h' => v = .tuple #[.agg #[U r.1.1, U r.1.2], .bool r.2] ∧ Kp h₀.nx h₀ h') b 0 a1 n1 c1 b4 0 false b6 0 (some ⟨b18, 0, none⟩) 2 2 (wrapF .i64 (x20 + 1)) h) :
    ∀ (d k : Nat), k + d = xs.length → ∀ {y m : Nat} {h : Hp}, y < 2 ^ 30 → m < 2 ^ 30 → InvS h₀ b6 b4 y m h → b18 < h.nx → h.get b18 = some (.cells cells 32 .fix) → r = fromR ss (xs.drop k ++ rest) y m →
      I89_1 O (fun v h' => v = .tuple #[.agg #[U r.1.1, U r.1.2], .bool r.2] ∧ Kp h₀.nx h₀ h') b 0 a1 n1 c1 b4 0 false b6 0 (some ⟨b18, 0, none⟩) 2 2 x20 a n c (Int.ofNat n) (Int.ofNat k) h := by
  have hn := X.1
  intro d
  induction d with
  | zero =>
    intro k hk y m h hy hm I l18 g18 hr
    refine I89_1.of _ _ _ _ _ _ _ _ _ _ _ _ _ _ _ _ _ _ _ ?_
    intros
    unfold T89_1
    rw [List.drop_of_length_le (by omega), List.nil_append] at hr
    exact vcond_f (by rw [ltI_nat]; exact blt_f (by omega)) (next y m h hy hm I l18 g18 hr ..)
  | succ d ih =>
    intro k hk y m h hy hm I l18 g18 hr
    refine I89_1.of _ _ _ _ _ _ _ _ _ _ _ _ _ _ _ _ _ _ _ ?_
    intros
    unfold T89_1
    have X1 : IntsAt h a n xs := X.up EInt.up I.kp
    have e1 : xs.drop k = xs[k] :: xs.drop (k + 1) := List.drop_eq_getElem_cons (by omega)
    have hxk := hx xs[k] (List.getElem_mem _)
    rw [e1, List.cons_append, fromR_cons] at hr
    refine vcond_t (by rw [ltI_nat]; exact blt_t (by omega)) (isNat_of (X1.get (k := k) (by omega) fun b' off h1 h2 hrd => vreq_t (blt_t (by omega)) ⟨_, hrd, ?_⟩))
    obtain ⟨w1, w2⟩ := withN_lt hxk hy hm
    obtain ⟨v, h5, e5, rfl, K5⟩ := ct104 hO hxk hy hm (ok.kp I.kp)
    have I5 := I.of K5
    have ok5 := ok.kp I5.kp
    have gn : (h5.add (.cells [(.int .u32 0), (.int .u32 0)] 102 .fix)).get h5.nx = _ := get_add_same ..
    have gu : (h5.add (.cells [(.int .u32 0), (.int .u32 0)] 102 .fix)).guarded h5.nx = false := guarded_of fun q hq => by have := ok5.gd q hq; omega
    refine ⟨_, _, readAt_get I.g3 (by simp), _, _, _, _, e5, vreq_t (canW_t gn (by decide) gu (by simp) rfl) ?_⟩
    have gw : ((h5.add (.cells [(.int .u32 0), (.int .u32 0)] 102 .fix)).wr h5.nx 0 [U (withN y m xs[k]).1, U (withN y m xs[k]).2]).get h5.nx = some (.cells [U (withN y m xs[k]).1, U (withN y m xs[k]).2] 102 .fix) := wr_get gn (by decide) gu (by simp) rfl
    have kw : Kp h5.nx h5 ((h5.add (.cells [(.int .u32 0), (.int .u32 0)] 102 .fix)).wr h5.nx 0 [U (withN y m xs[k]).1, U (withN y m xs[k]).2]) := ((Kp.refl _ h5).add (Nat.le_refl _) _).wr (Nat.le_refl _) _ _
    have kk := K5.trans (kw.le K5.nx)
    generalize (h5.add (.cells [(.int .u32 0), (.int .u32 0)] 102 .fix)).wr h5.nx 0 [U (withN y m xs[k]).1, U (withN y m xs[k]).2] = hw at gw kw kk ⊢
    have Iw := I.of kk
    have g18w : hw.get b18 = some (.cells cells 32 .fix) := by rw [kk.get _ l18]; exact g18
    have l18w : b18 < hw.nx := Nat.lt_of_lt_of_le l18 kk.nx
    have gfree : ∀ o, h₀.nx ≤ o → hw.guarded o = false := fun o ho => guarded_of fun q hq => by
      rw [Iw.kp.gd] at hq
      have := ok.gd q hq; omega
    refine vcond_split (fun h3 => ?_) fun h3 => ?_
    · have h3 : ¬ ((withN y m xs[k]).1 &&& (withN y m xs[k]).2 = 0) := by simpa using h3
      rw [if_neg h3] at hr
      subst hr
      refine ⟨_, _, readAt_get gw (by simp), vreq_t (canW_t Iw.g4 (by decide) (gfree _ hb4) (by simp) rfl) ⟨_, _, readAt_get (wr_get Iw.g4 (by decide) (gfree _ hb4) (by simp) rfl) (by simp [putAt]), ?_, Iw.kp.wr hb4 _ _⟩⟩
      rfl
    · have h3 : (withN y m xs[k]).1 &&& (withN y m xs[k]).2 = 0 := by simpa using h3
      rw [if_pos h3] at hr
      refine ⟨_, _, readAt_get gw (by simp), vreq_t (canW_t Iw.g3 (by decide) (gfree _ hb6) (by simp) rfl) ?_⟩
      rw [wrap_succ (by omega)]
      have w3 := wr_get Iw.g3 (by decide) (gfree _ hb6) (off := 0) (vs := [U (withN y m xs[k]).1, U (withN y m xs[k]).2]) (by simp) rfl
      exact ih (k + 1) (by omega) w1 w2 ⟨Iw.kp.wr hb6 _ _, by rw [nx_wr]; exact Iw.l3, by rw [nx_wr]; exact Iw.l4, w3, by rw [wr_get_ne _ _ _ _ h46]; exact Iw.g4⟩ (by rw [nx_wr]; exact l18w) (by rw [wr_get_ne _ _ _ _ (Ne.symm h618)]; exact g18w) hr ..
theorem ct89 {b : Nat} {h : Hp} (ok : h.Ok) {vars left : Int} {a a1 a2 : Option Addr} {n c n1 c1 n2 c2 : Nat} (hb : h.get b = some (.cells (baseC vars a n c a1 n1 c1 left a2 n2 c2) 128 .fix)) (hbn : b < h.nx) {ss : List (Nat × Nat)} (H : SidesAt2 h a n ss) (hl : ss.length < 1000000) (hss : ∀ p ∈ ss, p.1 < 2 ^ 30 ∧ p.2 < 2 ^ 30)
    {gs xs : List Int} (G : IntsAt h a1 n1 gs) (hgl : gs.length < 1000000) (hg : ∀ x ∈ gs, Lit x) {am : Option Addr} {nm cm : Nat} (X : IntsAt h am nm xs) (hxl : xs.length < 1000000) (hx : ∀ x ∈ xs, Lit x) :
    Ret Tryd.prog O 89 [.pointer (some ⟨b, 0, none⟩), .slice am nm cm] h fun v h' => v = .tuple #[.agg #[U (fromN ss (gs ++ xs)).1.1, U (fromN ss (gs ++ xs)).1.2], .bool (fromN ss (gs ++ xs)).2] ∧ Kp h.nx h h' := by
  refine rk89 _ _ _ _ _ (hO _ _ _ (by decide)) ?_
  unfold T89
  have k2 : Kp h.nx h ((h.add (.cells [(.int .u32 0), (.int .u32 0)] 102 .fix)).add (.cells [(.int .u32 0), (.int .u32 0)] 102 .fix)) := ((Kp.refl _ h).add (Nat.le_refl _) _).add (by rw [nx_add]; omega) _
  refine ⟨_, _, _, read1 (by rw [k2.get _ hbn]; exact hb) (i := 0 + 2) rfl, ?_⟩
  -- the end
  have fin : ∀ y m h', y < 2 ^ 30 → m < 2 ^ 30 → InvS h (h.nx + 1) h.nx y m h' → fromN ss (gs ++ xs) = fromR ss [] y m → I89_0 O (fun v h' => v = .tuple #[.agg #[U (fromN ss (gs ++ xs)).1.1, U (fromN ss (gs ++ xs)).1.2], .bool (fromN ss (gs ++ xs)).2] ∧ Kp h.nx h h') b 0 am nm cm h.nx 0 false (h.nx + 1) 0 (some ⟨h.nx + 2, 0, none⟩) 2 2 2 h' := by
    intro y m h' hy hm I hr
    refine I89_0.of _ _ _ _ _ _ _ _ _ _ _ _ _ _ ?_
    intros
    unfold T89_0
    have hr : fromN ss (gs ++ xs) = spreadF ss 31 y m := hr
    obtain ⟨v, h5, e5, rfl, K5⟩ := ct119 hO (ok.kp I.kp) (show h'.get b = _ by rw [I.kp.get _ hbn]; exact hb) (Nat.lt_of_lt_of_le hbn I.kp.nx) (H.up (ECells.up uu) I.kp) hl hss hy hm
    have I5 := I.of K5
    have gu : h5.guarded h.nx = false := guarded_of fun q hq => by
      rw [I5.kp.gd] at hq
      have := ok.gd q hq; omega
    refine vcond_f rfl ⟨_, _, readAt_get I.g3 (by simp), _, _, _, _, e5, vreq_t (canW_t I5.g4 (by decide) gu (by simp) rfl) ⟨_, _, readAt_get (wr_get I5.g4 (by decide) gu (by simp) rfl) (by simp [putAt]), ?_, I5.kp.wr (Nat.le_refl _) _ _⟩⟩
    rw [hr]
  -- what is asked
  have more : ∀ y m h', y < 2 ^ 30 → m < 2 ^ 30 → InvS h (h.nx + 1) h.nx y m h' → h.nx + 2 < h'.nx → h'.get (h.nx + 2) = some (.cells [.slice a1 n1 c1, .slice am nm cm] 32 .fix) → fromN ss (gs ++ xs) = fromR ss xs y m → I89_0 O (fun v h' => v = .tuple #[.agg #[U (fromN ss (gs ++ xs)).1.1, U (fromN ss (gs ++ xs)).1.2], .bool (fromN ss (gs ++ xs)).2] ∧ Kp h.nx h h') b 0 am nm cm h.nx 0 false (h.nx + 1) 0 (some ⟨h.nx + 2, 0, none⟩) 2 2 1 h' := by
    intro y m h' hy hm I l18 g18 hr
    refine I89_0.of _ _ _ _ _ _ _ _ _ _ _ _ _ _ ?_
    intros
    unfold T89_0
    refine vcond_t rfl (isNat_of (n := 1) (show vreq (Nat.blt 1 2) _ from vreq_t rfl ⟨_, _, _, read1 g18 (i := 0 + 1 * 1) rfl, ?_⟩))
    exact lp89_1 hO ok (Nat.le_refl _) (by omega) (by omega) (by omega) (by omega) (by omega) (rest := []) hxl hx X (fun y m h' hy hm I _ _ hr => fin y m h' hy hm I hr) xs.length 0 (by omega) hy hm I l18 g18 (by rw [List.drop_zero, List.append_nil]; exact hr) ..
  have I0 : InvS h (h.nx + 1) h.nx 0 0 (((h.add (.cells [(.int .u32 0), (.int .u32 0)] 102 .fix)).add (.cells [(.int .u32 0), (.int .u32 0)] 102 .fix)).add (.cells [.slice a1 n1 c1, .slice am nm cm] 32 .fix)) :=
    ⟨k2.add k2.nx _, show h.nx + 1 < h.nx + 1 + 1 + 1 by omega, show h.nx < h.nx + 1 + 1 + 1 by omega, by rw [get_add_ne (show h.nx + 1 ≠ h.nx + 1 + 1 by omega)]; exact get_add_same .., by rw [get_add_ne (show h.nx ≠ h.nx + 1 + 1 by omega), get_add_ne (show h.nx ≠ h.nx + 1 by omega)]; exact get_add_same ..⟩
  have g18 : (((h.add (.cells [(.int .u32 0), (.int .u32 0)] 102 .fix)).add (.cells [(.int .u32 0), (.int .u32 0)] 102 .fix)).add (.cells [.slice a1 n1 c1, .slice am nm cm] 32 .fix)).get (h.nx + 2) = some (.cells [.slice a1 n1 c1, .slice am nm cm] 32 .fix) := get_add_same ..
  refine I89_0.of _ _ _ _ _ _ _ _ _ _ _ _ _ _ ?_ ..
  intros
  unfold T89_0
  refine vcond_t rfl (isNat_of (n := 0) (show vreq (Nat.blt 0 2) _ from vreq_t rfl ⟨_, _, _, read1 g18 (i := 0 + 0 * 1) rfl, ?_⟩))
  exact lp89_1 hO ok (Nat.le_refl _) (by omega) (by omega) (by omega) (by omega) (by omega) (rest := xs) hgl hg G (fun y m h' hy hm I l g hr => more y m h' hy hm I l g hr) gs.length 0 (by omega) (y := 0) (m := 0) (by decide) (by decide) I0 (show h.nx + 2 < h.nx + 1 + 1 + 1 by omega) g18 rfl ..
/-- Does propagation clash? -/
theorem ct95 {b : Nat} {h : Hp} (ok : h.Ok) {vars left : Int} {a a1 a2 : Option Addr} {n c n1 c1 n2 c2 : Nat} (hb : h.get b = some (.cells (baseC vars a n c a1 n1 c1 left a2 n2 c2) 128 .fix)) (hbn : b < h.nx) {ss : List (Nat × Nat)} (H : SidesAt2 h a n ss) (hl : ss.length < 1000000) (hss : ∀ p ∈ ss, p.1 < 2 ^ 30 ∧ p.2 < 2 ^ 30)
    {gs xs : List Int} (G : IntsAt h a1 n1 gs) (hgl : gs.length < 1000000) (hg : ∀ x ∈ gs, Lit x) {am : Option Addr} {nm cm : Nat} (X : IntsAt h am nm xs) (hxl : xs.length < 1000000) (hx : ∀ x ∈ xs, Lit x) :
    Ret Tryd.prog O 95 [.pointer (some ⟨b, 0, none⟩), .slice am nm cm] h fun v h' => v = .bool (!(fromN ss (gs ++ xs)).2) ∧ Kp h.nx h h' := by
  refine rk95 _ _ _ _ _ (hO _ _ _ (by decide)) ?_
  unfold T95
  obtain ⟨v, h5, e5, rfl, K5⟩ := ct89 hO ok hb hbn H hl hss G hgl hg X hxl hx (cm := cm)
  have ok5 := ok.kp K5
  have gn : (h5.add (.cells [(.int .u32 0), (.int .u32 0)] 102 .fix)).get h5.nx = _ := get_add_same ..
  have gu : (h5.add (.cells [(.int .u32 0), (.int .u32 0)] 102 .fix)).guarded h5.nx = false := guarded_of fun q hq => by have := ok5.gd q hq; omega
  exact ⟨_, _, _, _, e5, vreq_t (canW_t gn (by decide) gu (by simp) rfl) ⟨rfl, (K5.add K5.nx _).wr K5.nx _ _⟩⟩
/-- Are a formula, and literals, as they should be? -/
def askB (vars : Int) (cls : List (List Int)) (gs : List Int) : Bool := formB vars cls && clB vars 0 gs
theorem ct78 {a a1 : Option Addr} {n c n1 c1 : Nat} {vars : Int} {h : Hp} {cls : List (List Int)} {gs : List Int} (H : IntssAt h a n cls) (hl : cls.length < 1000000) (hll : ∀ l ∈ cls, l.length < 1000000) (G : IntsAt h a1 n1 gs) (hgl : gs.length < 1000000) :
    Ret Tryd.prog O 78 [Fm vars a n c, .slice a1 n1 c1] h fun v h' => v = .int .i64 (if askB vars cls gs = true then 0 else 2) ∧ Kp h.nx h h' := by
  refine rk78 _ _ _ _ _ _ _ (hO _ _ _ (by decide)) ?_
  unfold T78
  have kp := fm_kp h vars a n c
  have g := fm_get h vars a n c
  obtain ⟨v1, h1, e1, rfl, K1⟩ := ct31 hO (c := c) (vars := vars) (H.up EInts.up kp) hl hll
  have k1 : Kp h.nx h h1 := kp.trans (K1.le kp.nx)
  have g1 : h1.get h.nx = some (.cells [.int .i64 vars, .slice a n c] 30 .fix) := by rw [K1.get _ (by rw [nx_add]; omega)]; exact g
  refine ⟨_, _, _, _, readAt_get g (by simp), _, _, e1, vcond_split (fun h2 => ?_) fun h2 => ?_⟩
  · have hf : formB vars cls = true := by
      cases hf : formB vars cls with
      | true => rfl
      | false => rw [hf] at h2; exact absurd (eq_of_t h2) (by decide)
    refine ⟨_, read1 g1 rfl, _, _, ct87 hO vars (G.up EInt.up k1) hgl (c := c1), vcond_split (fun h3 => ?_) fun h3 => ?_⟩
    · have h3 : clB vars 0 gs = false := by simpa using h3
      unfold askB; rw [hf, h3]; exact ⟨rfl, k1⟩
    · have h3 : clB vars 0 gs = true := by simpa using h3
      unfold askB; rw [hf, h3]; exact ⟨rfl, k1⟩
  · have hf : formB vars cls = false := by
      cases hf : formB vars cls with
      | false => rfl
      | true => rw [hf] at h2; exact absurd (eqI_t rfl) (by rw [if_pos rfl] at h2; rw [h2]; decide)
    unfold askB; rw [hf]; exact ⟨rfl, k1⟩
end
end Go.Proofs.YtfgfhplgnfbaaaaDoor
/- Contracts of functions of layer 20's reference: truths, laid and propagated. -/
namespace Go.Proofs.YtfgfhplgnfbaaaaDoor
open Go Go.Ev
def TV (ts : List Int) : Prop := ∀ t ∈ ts, -1 ≤ t ∧ t ≤ 1
/-- A literal is made true; false: it was false. -/
def layR (ts : List Int) (x : Int) : List Int × Bool := if tvR ts x < 0 then (ts, false) else (ts.set x.natAbs (if x < 0 then -1 else 1), true)
theorem TV.lay {ts : List Int} (h : TV ts) (x : Int) : TV (layR ts x).1 := by
  unfold layR
  split
  · exact h
  · intro t ht
    rcases List.mem_or_eq_of_mem_set ht with ht | rfl
    · exact h t ht
    · split <;> omega
theorem putAt_set {ts : List Int} {k : Nat} {z : Int} (hk : k < ts.length) : putAt (ts.map (Value.int .i64)) k [.int .i64 z] = (ts.set k z).map (Value.int .i64) := by
  refine List.ext_getElem? fun i => ?_
  rw [putAt_get _ _ _ (by simp; omega)]
  simp only [List.getElem?_map, List.getElem?_set, List.length_singleton]
  by_cases h1 : k ≤ i ∧ i < k + 1
  · obtain rfl : i = k := by omega
    rw [if_pos h1, if_pos rfl, if_pos hk, Nat.sub_self]; rfl
  · rw [if_neg h1, if_neg (by omega)]
theorem readAt_kp {hb h : Hp} (K : Kp hb.nx hb h) {b : Nat} (hbb : b < hb.nx) (off n : Nat) : readAt h b off n = readAt hb b off n := by
  unfold readAt
  rw [K.get b hbb]
section
variable {O : CallF} (hO : Oth O)
include hO
end
end Go.Proofs.YtfgfhplgnfbaaaaDoor
/- Contracts of functions of layer 20's reference: propagation to its end. -/
namespace Go.Proofs.YtfgfhplgnfbaaaaDoor
open Go Go.Ev
section
variable {O : CallF} (hO : Oth O)
include hO
end
end Go.Proofs.YtfgfhplgnfbaaaaDoor
/- The plain law of propagation: both ways to propagate end with the same literals, or both clash. -/
namespace Go.Proofs.YtfgfhplgnfbaaaaDoor
open Go Go.Ev
/-- What follows by unit clauses. -/
inductive Der (cls : List (List Int)) (xs : List Int) : Int → Prop
  | base {x : Int} : x ∈ xs → Der cls xs x
  | unit {l : List Int} {x : Int} : l ∈ cls → x ∈ l → (∀ y ∈ l, y ≠ x → Der cls xs (-y)) → Der cls xs x
def Cl (cls : List (List Int)) (xs : List Int) : Prop := (∃ x, Der cls xs x ∧ Der cls xs (-x)) ∨ ∃ l ∈ cls, ∀ y ∈ l, Der cls xs (-y)
structure Calm (cls : List (List Int)) (xs : List Int) (T : Int → Prop) : Prop where
  con : ∀ x, T x → T (-x) → False
  beg : ∀ x ∈ xs, T x
  cl : ∀ l ∈ cls, (∃ x ∈ l, T x) ∨ ∃ x ∈ l, ∃ z ∈ l, x ≠ z ∧ ¬ T x ∧ ¬ T (-x) ∧ ¬ T z ∧ ¬ T (-z)
theorem Calm.all {cls : List (List Int)} {xs : List Int} {T : Int → Prop} (C : Calm cls xs T) {x : Int} (h : Der cls xs x) : T x := by
  induction h with
  | base h => exact C.beg _ h
  | @unit l x hl hx _ ih =>
    rcases C.cl l hl with ⟨z, hz, hT⟩ | ⟨z, hz, w, hw, hne, h1, h2, h3, h4⟩
    · by_cases e : z = x
      · rw [← e]; exact hT
      · exact (C.con z hT (ih z hz e)).elim
    · by_cases e : z = x
      · have : w ≠ x := fun hh => hne (e.trans hh.symm)
        exact (h4 (ih w hw this)).elim
      · exact (h2 (ih z hz e)).elim
theorem Calm.not {cls : List (List Int)} {xs : List Int} {T : Int → Prop} (C : Calm cls xs T) : ¬ Cl cls xs := by
  rintro (⟨x, h1, h2⟩ | ⟨l, hl, h⟩)
  · exact C.con x (C.all h1) (C.all h2)
  · rcases C.cl l hl with ⟨z, hz, hT⟩ | ⟨z, hz, w, hw, hne, h1, h2, h3, h4⟩
    · exact C.con z hT (C.all (h z hz))
    · exact h2 (C.all (h z hz))
/-- A clause's variables differ. -/
def Dif (l : List Int) : Prop := l.Pairwise fun x z => x.natAbs < z.natAbs
theorem clB_dif {vars : Int} : ∀ {l : List Int} {last : Int}, 0 ≤ last → clB vars last l = true → Dif l := by
  intro l
  induction l with
  | nil => intro _ _ _; exact List.Pairwise.nil
  | cons x l ih =>
    intro last h0 h
    have hx := (clB_lit h0 h x (List.mem_cons_self ..)).1
    simp only [clB] at h
    split at h
    · cases h
    · have h1 : 0 ≤ varI x := by rw [varI_lit2 hx]; omega
      refine List.pairwise_cons.2 ⟨fun z hz => ?_, ih h1 h⟩
      have := clB_gt h z hz
      rw [varI_lit2 hx, varI_lit2 (clB_lit h1 h z hz).1] at this
      omega
theorem Dif.eq {l : List Int} (h : Dif l) {x z : Int} (hx : x ∈ l) (hz : z ∈ l) (e : x.natAbs = z.natAbs) : x = z := by
  induction l with
  | nil => cases hx
  | cons w l ih =>
    have hp := List.pairwise_cons.1 h
    rcases List.mem_cons.1 hx with e1 | hx1 <;> rcases List.mem_cons.1 hz with e2 | hz1
    · rw [e1, e2]
    · have := hp.1 z hz1; rw [← e1] at this; omega
    · have := hp.1 x hx1; rw [← e2] at this; omega
    · exact ih hp.2 hx1 hz1
/-! ### by masks -/
def trM (y m : Nat) (x : Int) : Prop := (0 < x ∧ y.testBit (x.natAbs - 1) = true) ∨ (x < 0 ∧ m.testBit (x.natAbs - 1) = true)
theorem trM_neg {y m : Nat} {x : Int} : trM y m (-x) ↔ (x < 0 ∧ y.testBit (x.natAbs - 1) = true) ∨ (0 < x ∧ m.testBit (x.natAbs - 1) = true) := by
  unfold trM
  rw [Int.natAbs_neg]
  constructor
  · rintro (⟨a, b⟩ | ⟨a, b⟩)
    · exact .inl ⟨by omega, b⟩
    · exact .inr ⟨by omega, b⟩
  · rintro (⟨a, b⟩ | ⟨a, b⟩)
    · exact .inl ⟨by omega, b⟩
    · exact .inr ⟨by omega, b⟩
theorem trM_with {y m : Nat} {x z : Int} (hx : Lit x) : trM (withN y m x).1 (withN y m x).2 z ↔ trM y m z ∨ z = x := by
  have hw := withN_test (y := y) (m := m) hx (z.natAbs - 1)
  unfold trM
  rw [hw.1, hw.2]
  simp only [Bool.or_eq_true, decide_eq_true_eq]
  have := hx.1
  constructor
  · rintro (⟨a, b | b⟩ | ⟨a, b | b⟩)
    · exact .inl (.inl ⟨a, b⟩)
    · exact .inr (by omega)
    · exact .inl (.inr ⟨a, b⟩)
    · exact .inr (by omega)
  · rintro ((⟨a, b⟩ | ⟨a, b⟩) | rfl)
    · exact .inl ⟨a, .inl b⟩
    · exact .inr ⟨a, .inl b⟩
    · rcases Int.lt_or_gt_of_ne this with h | h
      · exact .inr ⟨h, .inr (by omega)⟩
      · exact .inl ⟨h, .inr (by omega)⟩
theorem trM_con {y m : Nat} (h : y &&& m = 0) (x : Int) : trM y m x → trM y m (-x) → False := by
  intro h1 h2
  have := (and_zero_iff y m).1 h (x.natAbs - 1)
  rw [trM_neg] at h2
  rcases h1 with ⟨a, b⟩ | ⟨a, b⟩ <;> rcases h2 with ⟨c, d⟩ | ⟨c, d⟩
  · omega
  · exact this ⟨b, d⟩
  · exact this ⟨d, b⟩
  · omega
/-- A clause has a literal that is true. -/
theorem sat_mask {l : List Int} (hl : ∀ x ∈ l, Lit x) (y m : Nat) : (((sideN l).1 &&& y) ||| ((sideN l).2 &&& m) = 0) ↔ ∀ x ∈ l, ¬ trM y m x := by
  have hs := fun i => sideF_test (y := 0) (m := 0) hl i
  rw [or_zero_iff]
  simp only [Nat.testBit_and]
  unfold sideN
  simp only [fun i => (hs i).1, fun i => (hs i).2, Nat.zero_testBit, Bool.false_or, Bool.and_eq_false_iff, decide_eq_false_iff_not]
  constructor
  · rintro h x hx (⟨a, b⟩ | ⟨a, b⟩)
    · have := (h (x.natAbs - 1)).1
      rw [show ((x.natAbs - 1 + 1 : Nat) : Int) = x by omega] at this
      rcases this with h | h
      · exact h hx
      · rw [b] at h; cases h
    · have := (h (x.natAbs - 1)).2
      rw [show -((x.natAbs - 1 + 1 : Nat) : Int) = x by omega] at this
      rcases this with h | h
      · exact h hx
      · rw [b] at h; cases h
  · intro h i
    constructor
    · by_cases hx : ((i + 1 : Nat) : Int) ∈ l
      · right
        have := h _ hx
        cases hb : y.testBit i with
        | false => rfl
        | true => exact (this (.inl ⟨by omega, by rw [show ((i + 1 : Nat) : Int).natAbs - 1 = i by omega]; exact hb⟩)).elim
      · exact .inl hx
    · by_cases hx : -((i + 1 : Nat) : Int) ∈ l
      · right
        have := h _ hx
        cases hb : m.testBit i with
        | false => rfl
        | true => exact (this (.inr ⟨by omega, by rw [show (-((i + 1 : Nat) : Int)).natAbs - 1 = i by omega]; exact hb⟩)).elim
      · exact .inl hx
/-- The variables of a clause's literals that are not false. -/
theorem open_mask {l : List Int} (hl : ∀ x ∈ l, Lit x) (y m i : Nat) : (((sideN l).1 - ((sideN l).1 &&& m)) ||| ((sideN l).2 - ((sideN l).2 &&& y))).testBit i = true ↔ ∃ x ∈ l, x.natAbs = i + 1 ∧ ¬ trM y m (-x) := by
  have hs := sideF_test (y := 0) (m := 0) hl i
  rw [Nat.testBit_or, testBit_andn, testBit_andn]
  unfold sideN
  rw [hs.1, hs.2]
  simp only [Nat.zero_testBit, Bool.false_or, Bool.or_eq_true, Bool.and_eq_true, decide_eq_true_eq, Bool.not_eq_true']
  constructor
  · rintro (⟨a, b⟩ | ⟨a, b⟩)
    · refine ⟨_, a, by omega, fun h => ?_⟩
      rw [trM_neg] at h
      rcases h with ⟨h, _⟩ | ⟨_, h⟩
      · omega
      · rw [show ((i + 1 : Nat) : Int).natAbs - 1 = i by omega, b] at h; cases h
    · refine ⟨_, a, by omega, fun h => ?_⟩
      rw [trM_neg] at h
      rcases h with ⟨_, h⟩ | ⟨h, _⟩
      · rw [show (-((i + 1 : Nat) : Int)).natAbs - 1 = i by omega, b] at h; cases h
      · omega
  · rintro ⟨x, hx, e, hn⟩
    rw [trM_neg] at hn
    have h0 := (hl x hx).1
    rcases Int.lt_or_gt_of_ne h0 with h | h
    · right
      have hxe : x = -((i + 1 : Nat) : Int) := by omega
      refine ⟨by rw [← hxe]; exact hx, ?_⟩
      cases hb : y.testBit i with
      | false => rfl
      | true => exact (hn (.inl ⟨h, by rw [show x.natAbs - 1 = i by omega]; exact hb⟩)).elim
    · left
      have hxe : x = ((i + 1 : Nat) : Int) := by omega
      refine ⟨by rw [← hxe]; exact hx, ?_⟩
      cases hb : m.testBit i with
      | false => rfl
      | true => exact (hn (.inr ⟨h, by rw [show x.natAbs - 1 = i by omega]; exact hb⟩)).elim
section
variable {cls : List (List Int)} {xs : List Int}
theorem layN_ok : ∀ {ys : List Int} {y m : Nat}, (∀ x ∈ ys, Lit x ∧ x ∈ xs) → (∀ z, trM y m z → Der cls xs z) → y &&& m = 0 →
    ((layN ys y m).2 = true → (∀ z, trM (layN ys y m).1.1 (layN ys y m).1.2 z → Der cls xs z) ∧ (layN ys y m).1.1 &&& (layN ys y m).1.2 = 0 ∧ (∀ x ∈ ys, trM (layN ys y m).1.1 (layN ys y m).1.2 x) ∧ ∀ z, trM y m z → trM (layN ys y m).1.1 (layN ys y m).1.2 z) ∧
    ((layN ys y m).2 = false → ∃ x, Der cls xs x ∧ Der cls xs (-x)) := by
  intro ys
  induction ys with
  | nil => intro y m _ hs hc; exact ⟨fun _ => ⟨hs, hc, fun x hx => (by cases hx), fun z h => h⟩, fun h => by cases h⟩
  | cons x ys ih =>
    intro y m hl hs hc
    have hx := hl x (List.mem_cons_self ..)
    have hs' : ∀ z, trM (withN y m x).1 (withN y m x).2 z → Der cls xs z := fun z h => by
      rcases (trM_with hx.1).1 h with h | rfl
      · exact hs z h
      · exact .base hx.2
    simp only [layN]
    split
    · rename_i h0
      obtain ⟨a, b⟩ := ih (fun z hz => hl z (List.mem_cons_of_mem _ hz)) hs' h0
      refine ⟨fun h => ?_, b⟩
      obtain ⟨a1, a2, a3, a4⟩ := a h
      refine ⟨a1, a2, fun z hz => ?_, fun z hz => a4 z ((trM_with hx.1).2 (.inl hz))⟩
      rcases List.mem_cons.1 hz with rfl | hz
      · exact a4 z ((trM_with hx.1).2 (.inr rfl))
      · exact a3 z hz
    · rename_i h0
      refine ⟨fun h => (by cases h), fun _ => ?_⟩
      -- both contraries are true
      obtain ⟨i, hi⟩ := Classical.not_forall.1 (fun h => h0 ((and_zero_iff _ _).2 h))
      have hi := Classical.not_not.1 hi
      refine ⟨((i + 1 : Nat) : Int), hs' _ (.inl ⟨by omega, ?_⟩), hs' _ (.inr ⟨by omega, ?_⟩)⟩
      · rw [show ((i + 1 : Nat) : Int).natAbs - 1 = i by omega]; exact hi.1
      · rw [show (-((i + 1 : Nat) : Int)).natAbs - 1 = i by omega]; exact hi.2
theorem stepS_ok (hd : ∀ l ∈ cls, (∀ x ∈ l, Lit x) ∧ Dif l) {y m : Nat} (hs : ∀ z, trM y m z → Der cls xs z) (hc : y &&& m = 0) : ∀ {cs : List (List Int)}, (∀ l ∈ cs, l ∈ cls) →
    (stepS y m (cs.map sideN) = none → ∀ l ∈ cs, (∃ x ∈ l, trM y m x) ∨ ∃ x ∈ l, ∃ z ∈ l, x ≠ z ∧ ¬ trM y m x ∧ ¬ trM y m (-x) ∧ ¬ trM y m z ∧ ¬ trM y m (-z)) ∧
    (stepS y m (cs.map sideN) = some none → ∃ l ∈ cls, ∀ x ∈ l, Der cls xs (-x)) ∧
    (∀ p, stepS y m (cs.map sideN) = some (some p) → ∃ x, Lit x ∧ Der cls xs x ∧ ¬ trM y m (-x) ∧ p = withN y m x) := by
  intro cs
  induction cs with
  | nil => intro _; exact ⟨fun _ l hl => (by cases hl), fun h => (by cases h), fun p h => by cases h⟩
  | cons l cs ih =>
    intro hsub
    have hlc := hsub l (List.mem_cons_self ..)
    obtain ⟨hl, hdl⟩ := hd l hlc
    obtain ⟨i1, i2, i3⟩ := ih fun l h => hsub l (List.mem_cons_of_mem _ h)
    have hz := open_mask hl y m
    have hlt : ((sideN l).1 - ((sideN l).1 &&& m)) ||| ((sideN l).2 - ((sideN l).2 &&& y)) < 2 ^ 30 := by
      have := sideF_lt hl (y := 0) (m := 0) (by decide) (by decide)
      exact Nat.or_lt_two_pow (Nat.lt_of_le_of_lt (Nat.sub_le _ _) this.1) (Nat.lt_of_le_of_lt (Nat.sub_le _ _) this.2)
    rw [List.map_cons]
    simp only [stepS]
    by_cases h0 : ((sideN l).1 &&& y) ||| ((sideN l).2 &&& m) = 0
    · rw [if_pos h0]
      have hun := (sat_mask hl y m).1 h0
      by_cases h1 : popN (((sideN l).1 - ((sideN l).1 &&& m)) ||| ((sideN l).2 - ((sideN l).2 &&& y))) = 0
      · rw [if_pos h1]
        refine ⟨fun h => (by cases h), fun _ => ⟨l, hlc, fun x hx => hs _ ?_⟩, fun p h => by cases h⟩
        have hu := (popN_zero (by omega)).1 h1
        apply Classical.byContradiction
        intro hn
        have := (hz (x.natAbs - 1)).2 ⟨x, hx, by have := (hl x hx).1; omega, hn⟩
        rw [hu, Nat.zero_testBit] at this
        cases this
      · rw [if_neg h1]
        by_cases h2 : popN (((sideN l).1 - ((sideN l).1 &&& m)) ||| ((sideN l).2 - ((sideN l).2 &&& y))) = 1
        · rw [if_pos h2]
          refine ⟨fun h => (by cases h), fun h => (by cases h), fun p h => ?_⟩
          injection h with h; injection h with h
          obtain ⟨i, hi, e⟩ := (popN_one (by omega)).1 h2
          obtain ⟨x, hx, ex, hn⟩ := (hz i).1 (by rw [e, Nat.testBit_two_pow_self])
          refine ⟨x, hl x hx, .unit hlc hx (fun w hw hne => hs _ ?_), hn, ?_⟩
          · apply Classical.byContradiction
            intro hnw
            have := (hz (w.natAbs - 1)).2 ⟨w, hw, by have := (hl w hw).1; omega, hnw⟩
            rw [e, Nat.testBit_two_pow] at this
            have : i = w.natAbs - 1 := by simpa using this
            exact hne (hdl.eq hw hx (by have := (hl w hw).1; omega))
          · rw [← h]
            have hsp := fun j => sideF_test (y := 0) (m := 0) hl j
            have pj : ∀ j, ((sideN l).1 - ((sideN l).1 &&& m)).testBit j = true → j = i ∧ x = ((i + 1 : Nat) : Int) := fun j hj => by
              have h3 := congrArg (fun z => z.testBit j) e
              simp only [Nat.testBit_or, hj, Bool.true_or, Nat.testBit_two_pow] at h3
              have hji : i = j := by simpa using h3.symm
              subst hji
              refine ⟨rfl, ?_⟩
              rw [testBit_andn, Bool.and_eq_true] at hj
              have h4 := hj.1
              unfold sideN at h4
              rw [(hsp i).1, Nat.zero_testBit, Bool.false_or] at h4
              exact hdl.eq hx (of_decide_eq_true h4) (by omega)
            have mj : ∀ j, ((sideN l).2 - ((sideN l).2 &&& y)).testBit j = true → j = i ∧ x = -((i + 1 : Nat) : Int) := fun j hj => by
              have h3 := congrArg (fun z => z.testBit j) e
              simp only [Nat.testBit_or, hj, Bool.or_true, Nat.testBit_two_pow] at h3
              have hji : i = j := by simpa using h3.symm
              subst hji
              refine ⟨rfl, ?_⟩
              rw [testBit_andn, Bool.and_eq_true] at hj
              have h4 := hj.1
              unfold sideN at h4
              rw [(hsp i).2, Nat.zero_testBit, Bool.false_or] at h4
              exact hdl.eq hx (of_decide_eq_true h4) (by omega)
            have hb : bitN x = 2 ^ i := by unfold bitN; rw [ex, Nat.add_sub_cancel]
            unfold withN
            by_cases hp : 0 < x
            · have m0 : (sideN l).2 - ((sideN l).2 &&& y) = 0 := Nat.eq_of_testBit_eq fun j => by
                rw [Nat.zero_testBit]
                cases hj : ((sideN l).2 - ((sideN l).2 &&& y)).testBit j with
                | false => rfl
                | true => have := (mj j hj).2; omega
              rw [m0, Nat.or_zero] at e
              rw [if_pos hp, m0, e, hb, Nat.or_zero]
            · have p0 : (sideN l).1 - ((sideN l).1 &&& m) = 0 := Nat.eq_of_testBit_eq fun j => by
                rw [Nat.zero_testBit]
                cases hj : ((sideN l).1 - ((sideN l).1 &&& m)).testBit j with
                | false => rfl
                | true => have := (pj j hj).2; omega
              rw [p0, Nat.zero_or] at e
              rw [if_neg hp, p0, e, hb, Nat.or_zero]
        · rw [if_neg h2]
          refine ⟨fun h w hw => ?_, i2, i3⟩
          rcases List.mem_cons.1 hw with rfl | hw
          · right
            have hu : ((sideN w).1 - ((sideN w).1 &&& m)) ||| ((sideN w).2 - ((sideN w).2 &&& y)) ≠ 0 := fun hh => h1 ((popN_zero (by omega)).2 hh)
            obtain ⟨i, hi⟩ := Nat.exists_testBit_of_ne_zero hu
            obtain ⟨x, hx, ex, hnx⟩ := (hz i).1 hi
            have hex : ∃ j, j ≠ i ∧ (((sideN w).1 - ((sideN w).1 &&& m)) ||| ((sideN w).2 - ((sideN w).2 &&& y))).testBit j = true := by
              apply Classical.byContradiction
              intro hn
              have hi30 : i < 30 := by
                apply Classical.byContradiction
                intro hge
                rw [Nat.testBit_lt_two_pow (Nat.lt_of_lt_of_le hlt (Nat.pow_le_pow_right (by decide) (by omega)))] at hi
                cases hi
              refine h2 ((popN_one (by omega)).2 ⟨i, by omega, Nat.eq_of_testBit_eq fun j => ?_⟩)
              rw [Nat.testBit_two_pow]
              by_cases hji : i = j
              · subst hji; rw [hi]; simp
              · rw [decide_eq_false hji]
                cases hj : (((sideN w).1 - ((sideN w).1 &&& m)) ||| ((sideN w).2 - ((sideN w).2 &&& y))).testBit j with
                | false => rfl
                | true => exact (hn ⟨j, fun hh => hji hh.symm, hj⟩).elim
            obtain ⟨j, hji, hj⟩ := hex
            obtain ⟨z, hz2, ez, hnz⟩ := (hz j).1 hj
            exact ⟨x, hx, z, hz2, fun hh => hji (by rw [hh] at ex; omega), hun x hx, hnx, hun z hz2, hnz⟩
          · exact i1 h w hw
    · rw [if_neg h0]
      refine ⟨fun h w hw => ?_, i2, i3⟩
      rcases List.mem_cons.1 hw with rfl | hw
      · left
        apply Classical.byContradiction
        intro hn
        exact h0 ((sat_mask hl y m).2 fun x hx hT => hn ⟨x, hx, hT⟩)
      · exact i1 h w hw
end
end Go.Proofs.YtfgfhplgnfbaaaaDoor
/- The plain law of propagation, continued: to the end, both ways. -/
namespace Go.Proofs.YtfgfhplgnfbaaaaDoor
open Go Go.Ev
section
variable {cls : List (List Int)} {xs : List Int}
theorem with_con {y m : Nat} {x : Int} (hx : Lit x) (hc : y &&& m = 0) (hn : ¬ trM y m (-x)) : (withN y m x).1 &&& (withN y m x).2 = 0 := by
  refine (and_zero_iff _ _).2 fun i hi => ?_
  have h1 : trM (withN y m x).1 (withN y m x).2 ((i + 1 : Nat) : Int) := .inl ⟨by omega, by rw [show ((i + 1 : Nat) : Int).natAbs - 1 = i by omega]; exact hi.1⟩
  have h2 : trM (withN y m x).1 (withN y m x).2 (-((i + 1 : Nat) : Int)) := .inr ⟨by omega, by rw [show (-((i + 1 : Nat) : Int)).natAbs - 1 = i by omega]; exact hi.2⟩
  rcases (trM_with hx).1 h1 with h1 | h1 <;> rcases (trM_with hx).1 h2 with h2 | h2
  · exact trM_con hc _ h1 h2
  · rw [← h2, Int.neg_neg] at hn; exact hn h1
  · rw [← h1] at hn; exact hn h2
  · omega
theorem spreadF_ok (hd : ∀ l ∈ cls, (∀ x ∈ l, Lit x) ∧ Dif l) : ∀ (d : Nat) {y m : Nat}, y < 2 ^ 30 → m < 2 ^ 30 → freeN (y ||| m) < d → (∀ z, trM y m z → Der cls xs z) → y &&& m = 0 → (∀ x ∈ xs, trM y m x) →
    ((spreadF (cls.map sideN) d y m).2 = true → Calm cls xs (trM (spreadF (cls.map sideN) d y m).1.1 (spreadF (cls.map sideN) d y m).1.2) ∧ ∀ z, trM (spreadF (cls.map sideN) d y m).1.1 (spreadF (cls.map sideN) d y m).1.2 z → Der cls xs z) ∧ ((spreadF (cls.map sideN) d y m).2 = false → Cl cls xs) := by
  intro d
  induction d with
  | zero => intro y m _ _ h; omega
  | succ d ih =>
    intro y m hy hm hf hs hc hb
    have hss : ∀ c ∈ cls.map sideN, c.1 < 2 ^ 30 ∧ c.2 < 2 ^ 30 := fun c hc => by
      obtain ⟨l, hl, rfl⟩ := List.mem_map.1 hc
      exact sideF_lt (hd l hl).1 (by decide) (by decide)
    obtain ⟨s1, s2, s3⟩ := stepS_ok hd hs hc (cs := cls) fun _ h => h
    simp only [spreadF]
    cases hst : stepS y m (cls.map sideN) with
    | none => exact ⟨fun _ => ⟨⟨trM_con hc, hb, s1 hst⟩, hs⟩, fun h => by cases h⟩
    | some o =>
      cases o with
      | none => exact ⟨fun h => (by cases h), fun _ => .inr (s2 hst)⟩
      | some p =>
        obtain ⟨x, hx, hD, hn, rfl⟩ := s3 p hst
        obtain ⟨f1, f2, f3⟩ := stepS_free hy hm hss hst
        refine ih f2 f3 (by omega) (fun z hz => ?_) (with_con hx hc hn) fun z hz => (trM_with hx).2 (.inl (hb z hz))
        rcases (trM_with hx).1 hz with h | rfl
        · exact hs z h
        · exact hD
theorem layN_lt : ∀ {ys : List Int} {y m : Nat}, (∀ x ∈ ys, Lit x) → y < 2 ^ 30 → m < 2 ^ 30 → (layN ys y m).1.1 < 2 ^ 30 ∧ (layN ys y m).1.2 < 2 ^ 30 := by
  intro ys
  induction ys with
  | nil => intro y m _ hy hm; exact ⟨hy, hm⟩
  | cons x ys ih =>
    intro y m hl hy hm
    have w := withN_lt (hl x (List.mem_cons_self ..)) hy hm
    simp only [layN]
    split
    · exact ih (fun z hz => hl z (List.mem_cons_of_mem _ hz)) w.1 w.2
    · exact w
theorem fromN_ok (hd : ∀ l ∈ cls, (∀ x ∈ l, Lit x) ∧ Dif l) (hx : ∀ x ∈ xs, Lit x) :
    ((fromN (cls.map sideN) xs).2 = true → Calm cls xs (trM (fromN (cls.map sideN) xs).1.1 (fromN (cls.map sideN) xs).1.2) ∧ ∀ z, trM (fromN (cls.map sideN) xs).1.1 (fromN (cls.map sideN) xs).1.2 z → Der cls xs z) ∧ ((fromN (cls.map sideN) xs).2 = false → Cl cls xs) := by
  have z0 : ∀ z, ¬ trM 0 0 z := fun z h => by
    rcases h with ⟨_, h⟩ | ⟨_, h⟩ <;> simp at h
  obtain ⟨a, b⟩ := layN_ok (cls := cls) (xs := xs) (ys := xs) (y := 0) (m := 0) (fun x h => ⟨hx x h, h⟩) (fun z h => (z0 z h).elim) rfl
  have lt := layN_lt (ys := xs) (y := 0) (m := 0) hx (by decide) (by decide)
  unfold fromN fromR
  cases hl : (layN xs 0 0).2 with
  | false => exact ⟨fun h => (by rw [if_neg (by decide), hl] at h; cases h), fun _ => .inl (b hl)⟩
  | true =>
    obtain ⟨a1, a2, a3, _⟩ := a hl
    rw [if_pos rfl]
    have := freeN_le ((layN xs 0 0).1.1 ||| (layN xs 0 0).1.2)
    exact spreadF_ok hd 31 lt.1 lt.2 (by omega) a1 a2 a3
/-! ### by truths -/
end
end Go.Proofs.YtfgfhplgnfbaaaaDoor
/- Contracts of functions of layer 20's reference: contraries; the literals that are true. -/
namespace Go.Proofs.YtfgfhplgnfbaaaaDoor
open Go Go.Ev
section
variable {O : CallF} (hO : Oth O)
include hO
end
end Go.Proofs.YtfgfhplgnfbaaaaDoor
