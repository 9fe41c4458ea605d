/- Conditions of functions' code, printed by a program of ours. -/
import Derived.Test.YtfgfhplgnfbaaaaDoorProg
import Derived.Test.YtfgfhplgnfbaaaaDoorVcA
import Derived.KernelRfl
namespace Go.Proofs.YtfgfhplgnfbaaaaDoor
open Go Go.Ev
set_option maxRecDepth 100000
set_option linter.unusedVariables false
/-! sward/swardlaw20.SatResolves -/
noncomputable def b6 : Code := (Tryd.f6.body).getD .skip
def lv6 : List (Nat × List Nat) := []
def T6 (O : CallF) (Q : Value → Hp → Prop) (a0 : Option Addr) (n0 : Nat) (c0 : Nat) (a1 : Option Addr) (n1 : Nat) (c1 : Nat) (x2 : Int) (h : Hp) : Prop :=
  vcond (ltI 40 (Int.ofNat n0))
  (∃ q1', ∃ h2', EvC Tryd.prog O 27 [] h (.bool q1') h2' ∧
  Q (.bool q1') h2')
  (vcond (ltI 40 (Int.ofNat n1))
  (∃ q3', ∃ h4', EvC Tryd.prog O 27 [] h (.bool q3') h4' ∧
  Q (.bool q3') h4')
  (∃ a5' n6' c7', ∃ x8', ∃ h9', EvC Tryd.prog O 38 [(.slice a0 n0 c0), (.slice a1 n1 c1), (.int .i64 x2)] h (.tuple #[(.slice a5' n6' c7'), (.int .i64 x8')]) h9' ∧
  ∃ a10' n11' c12', ∃ x13', ∃ h14', EvC Tryd.prog O 39 [(.slice a0 n0 c0), (.slice a1 n1 c1), (.int .i64 x2)] h9' (.tuple #[(.slice a10' n11' c12'), (.int .i64 x13')]) h14' ∧
  ∃ q15', ∃ h16', EvC Tryd.prog O 26 [(.slice a5' n6' c7'), (.slice a10' n11' c12')] h14' (.bool q15') h16' ∧
  vcond q15'
  (vcond (eqI x8' x13')
  (∃ q17', ∃ h18', EvC Tryd.prog O 27 [] h16' (.bool q17') h18' ∧
  Q (.bool q17') h18')
  (Q (.bool false) h16'))
  (Q (.bool false) h16')))
theorem rk6 {O Q} (a0 n0 c0 a1 n1 c1 x2) {h : Hp} (hO : O 6 [(.slice a0 n0 c0), (.slice a1 n1 c1), (.int .i64 x2)] h = none) (hh : T6 O Q a0 n0 c0 a1 n1 c1 x2 h) : Ret Tryd.prog O 6 [(.slice a0 n0 c0), (.slice a1 n1 c1), (.int .i64 x2)] h Q :=
  .of (c := b6) Tryd.func6 (by kernel_rfl) hO (V_ok (tb := lv6) (cuts := []) 500 (Eq.mp (by kernel_rfl) hh))
/-! sward/sat.Resolve -/
noncomputable def b38 : Code := (Tryd.f38.body).getD .skip
noncomputable def stk38_0 : List KI := [.code (sub [1, 1, 1, 1, 0, 1, 0] b38), .blk 1, .code (sub [1, 1, 1, 1, 1] b38)]
def lv38 : List (Nat × List Nat) := [(1, [2, 6, 7, 8, 9, 46, 47, 48])]
def I38_0 (O : CallF) (Q : Value → Hp → Prop) (a0 : Option Addr) (n0 : Nat) (c0 : Nat) (a1 : Option Addr) (n1 : Nat) (c1 : Nat) (x2 : Int) (b8 : Nat) (f8 : Nat) (q9 : Bool) (a46 : Option Addr) (n46 : Nat) (c46 : Nat) (x47 : Int) (x48 : Int) (h : Hp) : Prop := RKL Tryd.prog O Tryd.f38 stk38_0 77 [2, 6, 7, 8, 9, 46, 47, 48] [(.int .i64 x2), (.slice none 0 0), (.int .i64 0), (.pointer (some ⟨b8, f8, none⟩)), (.bool q9), (.slice a46 n46 c46), (.int .i64 x47), (.int .i64 x48)] h Q
def T38 (O : CallF) (Q : Value → Hp → Prop) (a0 : Option Addr) (n0 : Nat) (c0 : Nat) (a1 : Option Addr) (n1 : Nat) (c1 : Nat) (x2 : Int) (h : Hp) : Prop :=
  ∃ q1', ∃ h2', EvC Tryd.prog O 87 [(.slice a0 n0 c0), (.int .i64 30)] h (.bool q1') h2' ∧
  vcond (!q1')
  (Q (.tuple #[(.slice none 0 0), (.int .i64 2)]) h2')
  (∃ q3', ∃ h4', EvC Tryd.prog O 87 [(.slice a1 n1 c1), (.int .i64 30)] h2' (.bool q3') h4' ∧
  vcond (!q3')
  (Q (.tuple #[(.slice none 0 0), (.int .i64 2)]) h4')
  (vcond (ltI x2 1)
  (Q (.tuple #[(.slice none 0 0), (.int .i64 2)]) h4')
  (vcond (ltI 30 x2)
  (Q (.tuple #[(.slice none 0 0), (.int .i64 2)]) h4')
  (∃ q5', ∃ h6', EvC Tryd.prog O 62 [(.slice a0 n0 c0), (.int .i64 x2)] h4' (.bool q5') h6' ∧
  vcond (!q5')
  (Q (.tuple #[(.slice none 0 0), (.int .i64 7)]) h6')
  (∃ q7', ∃ h8', EvC Tryd.prog O 62 [(.slice a1 n1 c1), (.int .i64 (wrapF .i64 (0 - x2)))] h6' (.bool q7') h8' ∧
  vcond (!q7')
  (Q (.tuple #[(.slice none 0 0), (.int .i64 7)]) h8')
  (∃ a9' n10' c11', ∃ h12', EvC Tryd.prog O 103 [(.slice (some ⟨(h8'.add (.cells [(.int .u32 0), (.int .u32 0)] 102 .fix)).nx, 0, none⟩) 2 2)] ((h8'.add (.cells [(.int .u32 0), (.int .u32 0)] 102 .fix)).add (.cells [(.slice a0 n0 c0), (.slice a1 n1 c1)] 32 .fix)) (.slice a9' n10' c11') h12' ∧
  I38_0 O Q a0 n0 c0 a1 n1 c1 x2 h8'.nx 0 true a9' n10' c11' (Int.ofNat n10') 0 h12'))))))
theorem rk38 {O Q} (a0 n0 c0 a1 n1 c1 x2) {h : Hp} (hO : O 38 [(.slice a0 n0 c0), (.slice a1 n1 c1), (.int .i64 x2)] h = none) (hh : T38 O Q a0 n0 c0 a1 n1 c1 x2 h) : Ret Tryd.prog O 38 [(.slice a0 n0 c0), (.slice a1 n1 c1), (.int .i64 x2)] h Q :=
  .of (c := b38) Tryd.func38 (by kernel_rfl) hO (V_ok (tb := lv38) (cuts := []) 500 (Eq.mp (by kernel_rfl) hh))
def T38_0 (O : CallF) (Q : Value → Hp → Prop) (a0 : Option Addr) (n0 : Nat) (c0 : Nat) (a1 : Option Addr) (n1 : Nat) (c1 : Nat) (x2 : Int) (b8 : Nat) (f8 : Nat) (q9 : Bool) (a46 : Option Addr) (n46 : Nat) (c46 : Nat) (x47 : Int) (x48 : Int) (h : Hp) : Prop :=
  vcond (ltI x48 x47)
  (isNat x48 fun n101' =>
  isAddr a46 fun b102' f103' =>
  vreq (Nat.blt n101' n46)
  (∃ x104', readAt h b102' (f103' + (n101' * 1)) 1 = some [(.int .i64 x104')] ∧
  vcond (eqI x104' x2)
  (I38_0 O Q a0 n0 c0 a1 n1 c1 x2 b8 f8 q9 a46 n46 c46 x47 (wrapF .i64 (x48 + 1)) h)
  (vcond (eqI x104' (wrapF .i64 (0 - x2)))
  (I38_0 O Q a0 n0 c0 a1 n1 c1 x2 b8 f8 q9 a46 n46 c46 x47 (wrapF .i64 (x48 + 1)) h)
  (∃ x105', ∃ x106', readAt h b8 f8 2 = some [(.int .u32 x105'), (.int .u32 x106')] ∧
  ∃ x107', ∃ x108', ∃ q109', ∃ h110', EvC Tryd.prog O 104 [(.agg #[(.int .u32 x105'), (.int .u32 x106')]), (.int .i64 x104')] h (.tuple #[(.agg #[(.int .u32 x107'), (.int .u32 x108')]), (.bool q109')]) h110' ∧
  vreq (canW (h110'.add (.cells [(.int .u32 0), (.int .u32 0)] 102 .fix)) h110'.nx 0 [(.int .u32 x107'), (.int .u32 x108')])
  (∃ x111', ∃ x112', readAt ((h110'.add (.cells [(.int .u32 0), (.int .u32 0)] 102 .fix)).wr h110'.nx 0 [(.int .u32 x107'), (.int .u32 x108')]) h110'.nx 0 2 = some [(.int .u32 x111'), (.int .u32 x112')] ∧
  vcond q9
  (vreq (canW ((h110'.add (.cells [(.int .u32 0), (.int .u32 0)] 102 .fix)).wr h110'.nx 0 [(.int .u32 x107'), (.int .u32 x108')]) b8 f8 [(.int .u32 x111'), (.int .u32 x112')])
  (I38_0 O Q a0 n0 c0 a1 n1 c1 x2 b8 f8 q109' a46 n46 c46 x47 (wrapF .i64 (x48 + 1)) (((h110'.add (.cells [(.int .u32 0), (.int .u32 0)] 102 .fix)).wr h110'.nx 0 [(.int .u32 x107'), (.int .u32 x108')]).wr b8 f8 [(.int .u32 x111'), (.int .u32 x112')])))
  (vreq (canW ((h110'.add (.cells [(.int .u32 0), (.int .u32 0)] 102 .fix)).wr h110'.nx 0 [(.int .u32 x107'), (.int .u32 x108')]) b8 f8 [(.int .u32 x111'), (.int .u32 x112')])
  (I38_0 O Q a0 n0 c0 a1 n1 c1 x2 b8 f8 false a46 n46 c46 x47 (wrapF .i64 (x48 + 1)) (((h110'.add (.cells [(.int .u32 0), (.int .u32 0)] 102 .fix)).wr h110'.nx 0 [(.int .u32 x107'), (.int .u32 x108')]).wr b8 f8 [(.int .u32 x111'), (.int .u32 x112')]))))))))
  (vcond (!q9)
  (Q (.tuple #[(.slice none 0 0), (.int .i64 7)]) h)
  (∃ x113', ∃ x114', readAt h b8 f8 2 = some [(.int .u32 x113'), (.int .u32 x114')] ∧
  ∃ a115' n116' c117', ∃ h118', EvC Tryd.prog O 90 [(.agg #[(.int .u32 x113'), (.int .u32 x114')])] h (.slice a115' n116' c117') h118' ∧
  Q (.tuple #[(.slice a115' n116' c117'), (.int .i64 0)]) h118'))
theorem I38_0.of {O Q} (a0 n0 c0 a1 n1 c1 x2 b8 f8 q9 a46 n46 c46 x47 x48) {h : Hp} (hh : T38_0 O Q a0 n0 c0 a1 n1 c1 x2 b8 f8 q9 a46 n46 c46 x47 x48 h) : I38_0 O Q a0 n0 c0 a1 n1 c1 x2 b8 f8 q9 a46 n46 c46 x47 x48 h :=
  RKL.of (tb := lv38) (cuts := []) 500 fun _ => Eq.mp (by kernel_rfl) hh
/-! sward/swardref20.Resolve -/
noncomputable def b39 : Code := (Tryd.f39.body).getD .skip
noncomputable def stk39_0 : List KI := [.code (sub [1, 1, 1, 1, 0, 1, 0] b39), .blk 0, .code (sub [1, 1, 1, 1, 1] b39)]
noncomputable def stk39_1 : List KI := [.code (sub [1, 1, 1, 1, 0, 1, 0, 0, 1, 0, 0, 1, 0, 1, 0] b39), .blk 2, .code (sub [1, 1, 1, 1, 0, 1, 0, 0, 1, 0, 0, 1, 1] b39), .blk 1, .code (sub [1, 1, 1, 1, 0, 1, 0, 0, 1, 1] b39), .code (sub [1, 1, 1, 1, 0, 1, 0] b39), .blk 0, .code (sub [1, 1, 1, 1, 1] b39)]
noncomputable def stk39_2 : List KI := [.code (sub [1, 1, 1, 1, 0, 1, 0, 0, 1, 0, 0, 1, 1, 0, 1, 0] b39), .blk 4, .code (sub [1, 1, 1, 1, 0, 1, 0, 0, 1, 0, 0, 1, 1, 1] b39), .blk 1, .code (sub [1, 1, 1, 1, 0, 1, 0, 0, 1, 1] b39), .code (sub [1, 1, 1, 1, 0, 1, 0] b39), .blk 0, .code (sub [1, 1, 1, 1, 1] b39)]
def lv39 : List (Nat × List Nat) := [(0, [0, 1, 2, 6, 7, 8, 9, 10, 11]), (2, [0, 1, 2, 6, 7, 8, 9, 10, 11, 12, 13, 14]), (4, [0, 1, 2, 6, 7, 8, 9, 10, 11, 12, 13, 15])]
def I39_0 (O : CallF) (Q : Value → Hp → Prop) (a0 : Option Addr) (n0 : Nat) (c0 : Nat) (a1 : Option Addr) (n1 : Nat) (c1 : Nat) (x2 : Int) (a6 : Option Addr) (n6 : Nat) (c6 : Nat) (x7 : Int) (a8 : Option Addr) (n8 : Nat) (c8 : Nat) (q9 : Bool) (q10 : Bool) (x11 : Int) (h : Hp) : Prop := RKL Tryd.prog O Tryd.f39 stk39_0 103 [0, 1, 2, 6, 7, 8, 9, 10, 11] [(.slice a0 n0 c0), (.slice a1 n1 c1), (.int .i64 x2), (.slice a6 n6 c6), (.int .i64 x7), (.slice a8 n8 c8), (.bool q9), (.bool q10), (.int .i64 x11)] h Q
def I39_1 (O : CallF) (Q : Value → Hp → Prop) (a0 : Option Addr) (n0 : Nat) (c0 : Nat) (a1 : Option Addr) (n1 : Nat) (c1 : Nat) (x2 : Int) (a6 : Option Addr) (n6 : Nat) (c6 : Nat) (x7 : Int) (a8 : Option Addr) (n8 : Nat) (c8 : Nat) (q9 : Bool) (q10 : Bool) (x11 : Int) (x12 : Int) (x14 : Int) (h : Hp) : Prop := RKL Tryd.prog O Tryd.f39 stk39_1 103 [0, 1, 2, 6, 7, 8, 9, 10, 11, 12, 13, 14] [(.slice a0 n0 c0), (.slice a1 n1 c1), (.int .i64 x2), (.slice a6 n6 c6), (.int .i64 x7), (.slice a8 n8 c8), (.bool q9), (.bool q10), (.int .i64 x11), (.int .i64 x12), (.int .i64 0), (.int .i64 x14)] h Q
def I39_2 (O : CallF) (Q : Value → Hp → Prop) (a0 : Option Addr) (n0 : Nat) (c0 : Nat) (a1 : Option Addr) (n1 : Nat) (c1 : Nat) (x2 : Int) (a6 : Option Addr) (n6 : Nat) (c6 : Nat) (x7 : Int) (a8 : Option Addr) (n8 : Nat) (c8 : Nat) (q9 : Bool) (q10 : Bool) (x11 : Int) (x12 : Int) (x13 : Int) (x15 : Int) (h : Hp) : Prop := RKL Tryd.prog O Tryd.f39 stk39_2 103 [0, 1, 2, 6, 7, 8, 9, 10, 11, 12, 13, 15] [(.slice a0 n0 c0), (.slice a1 n1 c1), (.int .i64 x2), (.slice a6 n6 c6), (.int .i64 x7), (.slice a8 n8 c8), (.bool q9), (.bool q10), (.int .i64 x11), (.int .i64 x12), (.int .i64 x13), (.int .i64 x15)] h Q
def T39 (O : CallF) (Q : Value → Hp → Prop) (a0 : Option Addr) (n0 : Nat) (c0 : Nat) (a1 : Option Addr) (n1 : Nat) (c1 : Nat) (x2 : Int) (h : Hp) : Prop :=
  ∃ q1', ∃ h2', EvC Tryd.prog O 105 [(.slice a0 n0 c0), (.int .i64 30)] h (.bool q1') h2' ∧
  vcond (!q1')
  (Q (.tuple #[(.slice none 0 0), (.int .i64 2)]) h2')
  (∃ q3', ∃ h4', EvC Tryd.prog O 105 [(.slice a1 n1 c1), (.int .i64 30)] h2' (.bool q3') h4' ∧
  vcond (!q3')
  (Q (.tuple #[(.slice none 0 0), (.int .i64 2)]) h4')
  (vcond (ltI x2 1)
  (Q (.tuple #[(.slice none 0 0), (.int .i64 2)]) h4')
  (vcond (ltI 30 x2)
  (Q (.tuple #[(.slice none 0 0), (.int .i64 2)]) h4')
  (I39_0 O Q a0 n0 c0 a1 n1 c1 x2 none 0 0 0 none 0 0 false false 1 h4'))))
theorem rk39 {O Q} (a0 n0 c0 a1 n1 c1 x2) {h : Hp} (hO : O 39 [(.slice a0 n0 c0), (.slice a1 n1 c1), (.int .i64 x2)] h = none) (hh : T39 O Q a0 n0 c0 a1 n1 c1 x2 h) : Ret Tryd.prog O 39 [(.slice a0 n0 c0), (.slice a1 n1 c1), (.int .i64 x2)] h Q :=
  .of (c := b39) Tryd.func39 (by kernel_rfl) hO (V_ok (tb := lv39) (cuts := []) 500 (Eq.mp (by kernel_rfl) hh))
def T39_0 (O : CallF) (Q : Value → Hp → Prop) (a0 : Option Addr) (n0 : Nat) (c0 : Nat) (a1 : Option Addr) (n1 : Nat) (c1 : Nat) (x2 : Int) (a6 : Option Addr) (n6 : Nat) (c6 : Nat) (x7 : Int) (a8 : Option Addr) (n8 : Nat) (c8 : Nat) (q9 : Bool) (q10 : Bool) (x11 : Int) (h : Hp) : Prop :=
  vcond (!(ltI 30 x11))
  (I39_1 O Q a0 n0 c0 a1 n1 c1 x2 a6 n6 c6 x7 a8 n8 c8 q9 q10 x11 0 0 h)
  (vcond (!q9)
  (Q (.tuple #[(.slice none 0 0), (.int .i64 7)]) h)
  (vcond (!q10)
  (Q (.tuple #[(.slice none 0 0), (.int .i64 7)]) h)
  (Q (.tuple #[(.slice a8 n8 c8), (.int .i64 0)]) h)))
theorem I39_0.of {O Q} (a0 n0 c0 a1 n1 c1 x2 a6 n6 c6 x7 a8 n8 c8 q9 q10 x11) {h : Hp} (hh : T39_0 O Q a0 n0 c0 a1 n1 c1 x2 a6 n6 c6 x7 a8 n8 c8 q9 q10 x11 h) : I39_0 O Q a0 n0 c0 a1 n1 c1 x2 a6 n6 c6 x7 a8 n8 c8 q9 q10 x11 h :=
  RKL.of (tb := lv39) (cuts := []) 500 fun _ => Eq.mp (by kernel_rfl) hh
def T39_1 (O : CallF) (Q : Value → Hp → Prop) (a0 : Option Addr) (n0 : Nat) (c0 : Nat) (a1 : Option Addr) (n1 : Nat) (c1 : Nat) (x2 : Int) (a6 : Option Addr) (n6 : Nat) (c6 : Nat) (x7 : Int) (a8 : Option Addr) (n8 : Nat) (c8 : Nat) (q9 : Bool) (q10 : Bool) (x11 : Int) (x12 : Int) (x14 : Int) (h : Hp) : Prop :=
  vcond (ltI x14 (Int.ofNat n0))
  (isNat x14 fun n201' =>
  isAddr a0 fun b202' f203' =>
  vreq (Nat.blt n201' n0)
  (∃ x204', readAt h b202' (f203' + (n201' * 1)) 1 = some [(.int .i64 x204')] ∧
  ∃ x205', ∃ h206', EvC Tryd.prog O 98 [(.int .i64 x204')] h (.int .i64 x205') h206' ∧
  vcond (eqI x205' x11)
  (isNat x14 fun n207' =>
  isAddr a0 fun b208' f209' =>
  vreq (Nat.blt n207' n0)
  (∃ x210', readAt h206' b208' (f209' + (n207' * 1)) 1 = some [(.int .i64 x210')] ∧
  I39_1 O Q a0 n0 c0 a1 n1 c1 x2 a6 n6 c6 x7 a8 n8 c8 q9 q10 x11 x210' (wrapF .i64 (x14 + 1)) h206'))
  (I39_1 O Q a0 n0 c0 a1 n1 c1 x2 a6 n6 c6 x7 a8 n8 c8 q9 q10 x11 x12 (wrapF .i64 (x14 + 1)) h206')))
  (I39_2 O Q a0 n0 c0 a1 n1 c1 x2 a6 n6 c6 x7 a8 n8 c8 q9 q10 x11 x12 0 0 h)
theorem I39_1.of {O Q} (a0 n0 c0 a1 n1 c1 x2 a6 n6 c6 x7 a8 n8 c8 q9 q10 x11 x12 x14) {h : Hp} (hh : T39_1 O Q a0 n0 c0 a1 n1 c1 x2 a6 n6 c6 x7 a8 n8 c8 q9 q10 x11 x12 x14 h) : I39_1 O Q a0 n0 c0 a1 n1 c1 x2 a6 n6 c6 x7 a8 n8 c8 q9 q10 x11 x12 x14 h :=
  RKL.of (tb := lv39) (cuts := []) 500 fun _ => Eq.mp (by kernel_rfl) hh
def T39_2 (O : CallF) (Q : Value → Hp → Prop) (a0 : Option Addr) (n0 : Nat) (c0 : Nat) (a1 : Option Addr) (n1 : Nat) (c1 : Nat) (x2 : Int) (a6 : Option Addr) (n6 : Nat) (c6 : Nat) (x7 : Int) (a8 : Option Addr) (n8 : Nat) (c8 : Nat) (q9 : Bool) (q10 : Bool) (x11 : Int) (x12 : Int) (x13 : Int) (x15 : Int) (h : Hp) : Prop :=
  vcond (ltI x15 (Int.ofNat n1))
  (isNat x15 fun n301' =>
  isAddr a1 fun b302' f303' =>
  vreq (Nat.blt n301' n1)
  (∃ x304', readAt h b302' (f303' + (n301' * 1)) 1 = some [(.int .i64 x304')] ∧
  ∃ x305', ∃ h306', EvC Tryd.prog O 98 [(.int .i64 x304')] h (.int .i64 x305') h306' ∧
  vcond (eqI x305' x11)
  (isNat x15 fun n307' =>
  isAddr a1 fun b308' f309' =>
  vreq (Nat.blt n307' n1)
  (∃ x310', readAt h306' b308' (f309' + (n307' * 1)) 1 = some [(.int .i64 x310')] ∧
  I39_2 O Q a0 n0 c0 a1 n1 c1 x2 a6 n6 c6 x7 a8 n8 c8 q9 q10 x11 x12 x310' (wrapF .i64 (x15 + 1)) h306'))
  (I39_2 O Q a0 n0 c0 a1 n1 c1 x2 a6 n6 c6 x7 a8 n8 c8 q9 q10 x11 x12 x13 (wrapF .i64 (x15 + 1)) h306')))
  (vcond (eqI x11 x2)
  (I39_0 O Q a0 n0 c0 a1 n1 c1 x2 a6 n6 c6 x7 a8 n8 c8 (eqI x12 x2) (eqI x13 (wrapF .i64 (0 - x2))) (wrapF .i64 (x11 + 1)) h)
  (vcond (ltI (wrapF .i64 (x12 * x13)) 0)
  (Q (.tuple #[(.slice none 0 0), (.int .i64 7)]) h)
  (vcond (!(eqI x12 0))
  (∃ a311' n312' c313' h314', appendV Tryd.prog (h.add (.cells [(.int .i64 x12)] 3 .fix)) 32 32 (.slice a8 n8 c8) (.slice (some ⟨h.nx, 0, none⟩) 1 1) = some (.slice a311' n312' c313', h314') ∧
  I39_0 O Q a0 n0 c0 a1 n1 c1 x2 a6 n6 c6 x7 a311' n312' c313' q9 q10 (wrapF .i64 (x11 + 1)) h314')
  (vcond (!(eqI x13 0))
  (∃ a315' n316' c317' h318', appendV Tryd.prog (h.add (.cells [(.int .i64 x13)] 3 .fix)) 32 32 (.slice a8 n8 c8) (.slice (some ⟨h.nx, 0, none⟩) 1 1) = some (.slice a315' n316' c317', h318') ∧
  I39_0 O Q a0 n0 c0 a1 n1 c1 x2 a6 n6 c6 x7 a315' n316' c317' q9 q10 (wrapF .i64 (x11 + 1)) h318')
  (I39_0 O Q a0 n0 c0 a1 n1 c1 x2 a6 n6 c6 x7 a8 n8 c8 q9 q10 (wrapF .i64 (x11 + 1)) h)))))
theorem I39_2.of {O Q} (a0 n0 c0 a1 n1 c1 x2 a6 n6 c6 x7 a8 n8 c8 q9 q10 x11 x12 x13 x15) {h : Hp} (hh : T39_2 O Q a0 n0 c0 a1 n1 c1 x2 a6 n6 c6 x7 a8 n8 c8 q9 q10 x11 x12 x13 x15 h) : I39_2 O Q a0 n0 c0 a1 n1 c1 x2 a6 n6 c6 x7 a8 n8 c8 q9 q10 x11 x12 x13 x15 h :=
  RKL.of (tb := lv39) (cuts := []) 500 fun _ => Eq.mp (by kernel_rfl) hh
/-! sward/sat.clause -/
noncomputable def b87 : Code := (Tryd.f87.body).getD .skip
noncomputable def stk87_0 : List KI := [.code (sub [1, 1, 0, 1, 0] b87), .blk 0, .code (sub [1, 1, 1] b87)]
def lv87 : List (Nat × List Nat) := [(0, [1, 4, 5, 9, 10, 11])]
def I87_0 (O : CallF) (Q : Value → Hp → Prop) (a0 : Option Addr) (n0 : Nat) (c0 : Nat) (x1 : Int) (q4 : Bool) (x5 : Int) (x11 : Int) (h : Hp) : Prop := RKL Tryd.prog O Tryd.f87 stk87_0 27 [1, 4, 5, 9, 10, 11] [(.int .i64 x1), (.bool q4), (.int .i64 x5), (.slice a0 n0 c0), (.int .i64 (Int.ofNat n0)), (.int .i64 x11)] h Q
def T87 (O : CallF) (Q : Value → Hp → Prop) (a0 : Option Addr) (n0 : Nat) (c0 : Nat) (x1 : Int) (h : Hp) : Prop :=
  I87_0 O Q a0 n0 c0 x1 false 0 0 h
theorem rk87 {O Q} (a0 n0 c0 x1) {h : Hp} (hO : O 87 [(.slice a0 n0 c0), (.int .i64 x1)] h = none) (hh : T87 O Q a0 n0 c0 x1 h) : Ret Tryd.prog O 87 [(.slice a0 n0 c0), (.int .i64 x1)] h Q :=
  .of (c := b87) Tryd.func87 (by kernel_rfl) hO (V_ok (tb := lv87) (cuts := []) 500 (Eq.mp (by kernel_rfl) hh))
def T87_0 (O : CallF) (Q : Value → Hp → Prop) (a0 : Option Addr) (n0 : Nat) (c0 : Nat) (x1 : Int) (q4 : Bool) (x5 : Int) (x11 : Int) (h : Hp) : Prop :=
  vcond (ltI x11 (Int.ofNat n0))
  (isNat x11 fun n101' =>
  isAddr a0 fun b102' f103' =>
  vreq (Nat.blt n101' n0)
  (∃ x104', readAt h b102' (f103' + (n101' * 1)) 1 = some [(.int .i64 x104')] ∧
  ∃ x105', ∃ h106', EvC Tryd.prog O 94 [(.int .i64 x104')] h (.int .i64 x105') h106' ∧
  vcond (!(ltI x5 x105'))
  (Q (.bool false) h106')
  (vcond (ltI x1 x105')
  (Q (.bool false) h106')
  (I87_0 O Q a0 n0 c0 x1 q4 x105' (wrapF .i64 (x11 + 1)) h106'))))
  (Q (.bool true) h)
theorem I87_0.of {O Q} (a0 n0 c0 x1 q4 x5 x11) {h : Hp} (hh : T87_0 O Q a0 n0 c0 x1 q4 x5 x11 h) : I87_0 O Q a0 n0 c0 x1 q4 x5 x11 h :=
  RKL.of (tb := lv87) (cuts := []) 500 fun _ => Eq.mp (by kernel_rfl) hh
/-! sward/sat.variable -/
noncomputable def b94 : Code := (Tryd.f94.body).getD .skip
def lv94 : List (Nat × List Nat) := []
def T94 (O : CallF) (Q : Value → Hp → Prop) (x0 : Int) (h : Hp) : Prop :=
  vcond (ltI x0 (-30))
  (Q (.int .i64 0) h)
  (vcond (ltI 30 x0)
  (Q (.int .i64 0) h)
  (Q (.int .i64 (maxI x0 (wrapF .i64 (0 - x0)))) h))
theorem rk94 {O Q} (x0) {h : Hp} (hO : O 94 [(.int .i64 x0)] h = none) (hh : T94 O Q x0 h) : Ret Tryd.prog O 94 [(.int .i64 x0)] h Q :=
  .of (c := b94) Tryd.func94 (by kernel_rfl) hO (V_ok (tb := lv94) (cuts := []) 500 (Eq.mp (by kernel_rfl) hh))
/-! slices.Contains[[]int,int] -/
noncomputable def b62 : Code := (Tryd.f62.body).getD .skip
def lv62 : List (Nat × List Nat) := []
def T62 (O : CallF) (Q : Value → Hp → Prop) (a0 : Option Addr) (n0 : Nat) (c0 : Nat) (x1 : Int) (h : Hp) : Prop :=
  ∃ x1', ∃ h2', EvC Tryd.prog O 61 [(.slice a0 n0 c0), (.int .i64 x1)] h (.int .i64 x1') h2' ∧
  Q (.bool (!(ltI x1' 0))) h2'
theorem rk62 {O Q} (a0 n0 c0 x1) {h : Hp} (hO : O 62 [(.slice a0 n0 c0), (.int .i64 x1)] h = none) (hh : T62 O Q a0 n0 c0 x1 h) : Ret Tryd.prog O 62 [(.slice a0 n0 c0), (.int .i64 x1)] h Q :=
  .of (c := b62) Tryd.func62 (by kernel_rfl) hO (V_ok (tb := lv62) (cuts := []) 500 (Eq.mp (by kernel_rfl) hh))
/-! slices.Index[[]int,int] -/
noncomputable def b61 : Code := (Tryd.f61.body).getD .skip
noncomputable def stk61_0 : List KI := [.code (sub [1, 0, 1, 0] b61), .blk 0, .code (sub [1, 1] b61)]
def lv61 : List (Nat × List Nat) := [(0, [0, 1, 4, 7, 8])]
def I61_0 (O : CallF) (Q : Value → Hp → Prop) (a0 : Option Addr) (n0 : Nat) (c0 : Nat) (x1 : Int) (x4 : Int) (x8 : Int) (h : Hp) : Prop := RKL Tryd.prog O Tryd.f61 stk61_0 19 [0, 1, 4, 7, 8] [(.slice a0 n0 c0), (.int .i64 x1), (.int .i64 x4), (.int .i64 (Int.ofNat n0)), (.int .i64 x8)] h Q
def T61 (O : CallF) (Q : Value → Hp → Prop) (a0 : Option Addr) (n0 : Nat) (c0 : Nat) (x1 : Int) (h : Hp) : Prop :=
  I61_0 O Q a0 n0 c0 x1 0 0 h
theorem rk61 {O Q} (a0 n0 c0 x1) {h : Hp} (hO : O 61 [(.slice a0 n0 c0), (.int .i64 x1)] h = none) (hh : T61 O Q a0 n0 c0 x1 h) : Ret Tryd.prog O 61 [(.slice a0 n0 c0), (.int .i64 x1)] h Q :=
  .of (c := b61) Tryd.func61 (by kernel_rfl) hO (V_ok (tb := lv61) (cuts := []) 500 (Eq.mp (by kernel_rfl) hh))
def T61_0 (O : CallF) (Q : Value → Hp → Prop) (a0 : Option Addr) (n0 : Nat) (c0 : Nat) (x1 : Int) (x4 : Int) (x8 : Int) (h : Hp) : Prop :=
  vcond (ltI x8 (Int.ofNat n0))
  (isNat x8 fun n101' =>
  isAddr a0 fun b102' f103' =>
  vreq (Nat.blt n101' n0)
  (∃ x104', readAt h b102' (f103' + (n101' * 1)) 1 = some [(.int .i64 x104')] ∧
  vcond (eqI x1 x104')
  (Q (.int .i64 x8) h)
  (I61_0 O Q a0 n0 c0 x1 x4 (wrapF .i64 (x8 + 1)) h)))
  (Q (.int .i64 (-1)) h)
theorem I61_0.of {O Q} (a0 n0 c0 x1 x4 x8) {h : Hp} (hh : T61_0 O Q a0 n0 c0 x1 x4 x8 h) : I61_0 O Q a0 n0 c0 x1 x4 x8 h :=
  RKL.of (tb := lv61) (cuts := []) 500 fun _ => Eq.mp (by kernel_rfl) hh
/-! slices.Concat[[]int,int] -/
noncomputable def b103 : Code := (Tryd.f103.body).getD .skip
noncomputable def stk103_0 : List KI := [.code (sub [1, 1, 0, 1, 0] b103), .blk 0, .code (sub [1, 1, 1] b103)]
noncomputable def stk103_1 : List KI := [.code (sub [1, 1, 1, 1, 0, 1, 0] b103), .blk 2, .code (sub [1, 1, 1, 1, 1] b103)]
def lv103 : List (Nat × List Nat) := [(0, [0, 2, 3, 9, 10, 11]), (2, [2, 6, 25, 26, 27])]
def I103_0 (O : CallF) (Q : Value → Hp → Prop) (a0 : Option Addr) (n0 : Nat) (c0 : Nat) (x3 : Int) (x11 : Int) (h : Hp) : Prop := RKL Tryd.prog O Tryd.f103 stk103_0 36 [0, 2, 3, 9, 10, 11] [(.slice a0 n0 c0), (.slice none 0 0), (.int .i64 x3), (.slice a0 n0 c0), (.int .i64 (Int.ofNat n0)), (.int .i64 x11)] h Q
def I103_1 (O : CallF) (Q : Value → Hp → Prop) (a0 : Option Addr) (n0 : Nat) (c0 : Nat) (a6 : Option Addr) (n6 : Nat) (c6 : Nat) (x27 : Int) (h : Hp) : Prop := RKL Tryd.prog O Tryd.f103 stk103_1 36 [2, 6, 25, 26, 27] [(.slice none 0 0), (.slice a6 n6 c6), (.slice a0 n0 c0), (.int .i64 (Int.ofNat n0)), (.int .i64 x27)] h Q
def T103 (O : CallF) (Q : Value → Hp → Prop) (a0 : Option Addr) (n0 : Nat) (c0 : Nat) (h : Hp) : Prop :=
  I103_0 O Q a0 n0 c0 0 0 h
theorem rk103 {O Q} (a0 n0 c0) {h : Hp} (hO : O 103 [(.slice a0 n0 c0)] h = none) (hh : T103 O Q a0 n0 c0 h) : Ret Tryd.prog O 103 [(.slice a0 n0 c0)] h Q :=
  .of (c := b103) Tryd.func103 (by kernel_rfl) hO (V_ok (tb := lv103) (cuts := []) 500 (Eq.mp (by kernel_rfl) hh))
def T103_0 (O : CallF) (Q : Value → Hp → Prop) (a0 : Option Addr) (n0 : Nat) (c0 : Nat) (x3 : Int) (x11 : Int) (h : Hp) : Prop :=
  vcond (ltI x11 (Int.ofNat n0))
  (isNat x11 fun n101' =>
  isAddr a0 fun b102' f103' =>
  vreq (Nat.blt n101' n0)
  (∃ a104' n105' c106', readAt h b102' (f103' + (n101' * 1)) 1 = some [(.slice a104' n105' c106')] ∧
  vcond (ltI (wrapF .i64 (x3 + (Int.ofNat n105'))) 0)
  (False)
  (I103_0 O Q a0 n0 c0 (wrapF .i64 (x3 + (Int.ofNat n105'))) (wrapF .i64 (x11 + 1)) h)))
  (∃ a107' n108' c109', ∃ h110', EvC Tryd.prog O 124 [(.slice none 0 0), (.int .i64 x3)] h (.slice a107' n108' c109') h110' ∧
  I103_1 O Q a0 n0 c0 a107' n108' c109' 0 h110')
theorem I103_0.of {O Q} (a0 n0 c0 x3 x11) {h : Hp} (hh : T103_0 O Q a0 n0 c0 x3 x11 h) : I103_0 O Q a0 n0 c0 x3 x11 h :=
  RKL.of (tb := lv103) (cuts := []) 500 fun _ => Eq.mp (by kernel_rfl) hh
def T103_1 (O : CallF) (Q : Value → Hp → Prop) (a0 : Option Addr) (n0 : Nat) (c0 : Nat) (a6 : Option Addr) (n6 : Nat) (c6 : Nat) (x27 : Int) (h : Hp) : Prop :=
  vcond (ltI x27 (Int.ofNat n0))
  (isNat x27 fun n201' =>
  isAddr a0 fun b202' f203' =>
  vreq (Nat.blt n201' n0)
  (∃ a204' n205' c206', readAt h b202' (f203' + (n201' * 1)) 1 = some [(.slice a204' n205' c206')] ∧
  ∃ a207' n208' c209' h210', appendV Tryd.prog h 32 32 (.slice a6 n6 c6) (.slice a204' n205' c206') = some (.slice a207' n208' c209', h210') ∧
  I103_1 O Q a0 n0 c0 a207' n208' c209' (wrapF .i64 (x27 + 1)) h210'))
  (Q (.slice a6 n6 c6) h)
theorem I103_1.of {O Q} (a0 n0 c0 a6 n6 c6 x27) {h : Hp} (hh : T103_1 O Q a0 n0 c0 a6 n6 c6 x27 h) : I103_1 O Q a0 n0 c0 a6 n6 c6 x27 h :=
  RKL.of (tb := lv103) (cuts := []) 500 fun _ => Eq.mp (by kernel_rfl) hh
/-! slices.Grow[[]int,int] -/
noncomputable def b124 : Code := (Tryd.f124.body).getD .skip
def lv124 : List (Nat × List Nat) := []
def T124 (O : CallF) (Q : Value → Hp → Prop) (a0 : Option Addr) (n0 : Nat) (c0 : Nat) (x1 : Int) (h : Hp) : Prop :=
  vcond (ltI x1 0)
  (False)
  (vreq (!Nat.beq c0 unk)
  (vcond (ltI 0 (wrapF .i64 (x1 - (wrapF .i64 ((Int.ofNat c0) - (Int.ofNat n0))))))
  (vreq (!Nat.beq c0 unk)
  (∃ a1' n2' c3', sliceV Tryd.prog h 32 (.slice a0 n0 c0) none (some (.int .i64 (Int.ofNat c0))) none = some (.slice a1' n2' c3') ∧
  ∃ a4' n5' c6' h7', appendV Tryd.prog h 32 3 (.slice a1' n2' c3') (.int .i64 (wrapF .i64 (x1 - (wrapF .i64 ((Int.ofNat c0) - (Int.ofNat n0)))))) = some (.slice a4' n5' c6', h7') ∧
  ∃ a8' n9' c10', sliceV Tryd.prog h7' 32 (.slice a4' n5' c6') none (some (.int .i64 (Int.ofNat n0))) none = some (.slice a8' n9' c10') ∧
  Q (.slice a8' n9' c10') h7'))
  (Q (.slice a0 n0 c0) h)))
theorem rk124 {O Q} (a0 n0 c0 x1) {h : Hp} (hO : O 124 [(.slice a0 n0 c0), (.int .i64 x1)] h = none) (hh : T124 O Q a0 n0 c0 x1 h) : Ret Tryd.prog O 124 [(.slice a0 n0 c0), (.int .i64 x1)] h Q :=
  .of (c := b124) Tryd.func124 (by kernel_rfl) hO (V_ok (tb := lv124) (cuts := []) 500 (Eq.mp (by kernel_rfl) hh))
/-! (sward/sat.truths).with -/
noncomputable def b104 : Code := (Tryd.f104.body).getD .skip
def lv104 : List (Nat × List Nat) := []
def T104 (O : CallF) (Q : Value → Hp → Prop) (x0_0 : Int) (x0_1 : Int) (x1 : Int) (h : Hp) : Prop :=
  ∃ x1', ∃ h2', EvC Tryd.prog O 84 [(.int .i64 x1)] ((h.add (.cells [(.int .u32 x0_0), (.int .u32 x0_1)] 102 .fix)).add (.cells [(.int .u32 0), (.int .u32 0)] 102 .fix)) (.int .u32 x1') h2' ∧
  vcond (ltI 0 x1)
  (∃ x3', readAt h2' h.nx 0 1 = some [(.int .u32 x3')] ∧
  vreq (inD 4294967296 x3')
  (vreq (inD 4294967296 x1')
  (vreq (canW h2' h.nx 0 [(.int .u32 (lorI x3' x1'))])
  (∃ x4', ∃ x5', readAt ((h2'.wr h.nx 0 [(.int .u32 (lorI x3' x1'))]).rsv 9) h.nx 0 2 = some [(.int .u32 x4'), (.int .u32 x5')] ∧
  ∃ x6', readAt ((h2'.wr h.nx 0 [(.int .u32 (lorI x3' x1'))]).rsv 9) h.nx 0 1 = some [(.int .u32 x6')] ∧
  ∃ x7', readAt ((h2'.wr h.nx 0 [(.int .u32 (lorI x3' x1'))]).rsv 9) h.nx 1 1 = some [(.int .u32 x7')] ∧
  vreq (inD 4294967296 x6')
  (vreq (inD 4294967296 x7')
  (vreq (canW (((h2'.wr h.nx 0 [(.int .u32 (lorI x3' x1'))]).rsv 9).grd [h.nx, h.nx]) (h.add (.cells [(.int .u32 x0_0), (.int .u32 x0_1)] 102 .fix)).nx 0 [(.int .u32 x4'), (.int .u32 x5')])
  (∃ x8', ∃ x9', readAt (((((h2'.wr h.nx 0 [(.int .u32 (lorI x3' x1'))]).rsv 9).grd [h.nx, h.nx]).wr (h.add (.cells [(.int .u32 x0_0), (.int .u32 x0_1)] 102 .fix)).nx 0 [(.int .u32 x4'), (.int .u32 x5')]).rst ((h2'.wr h.nx 0 [(.int .u32 (lorI x3' x1'))]).rsv 9)) (h.add (.cells [(.int .u32 x0_0), (.int .u32 x0_1)] 102 .fix)).nx 0 2 = some [(.int .u32 x8'), (.int .u32 x9')] ∧
  Q (.tuple #[(.agg #[(.int .u32 x8'), (.int .u32 x9')]), (.bool (eqI (landI x6' x7') 0))]) (((((h2'.wr h.nx 0 [(.int .u32 (lorI x3' x1'))]).rsv 9).grd [h.nx, h.nx]).wr (h.add (.cells [(.int .u32 x0_0), (.int .u32 x0_1)] 102 .fix)).nx 0 [(.int .u32 x4'), (.int .u32 x5')]).rst ((h2'.wr h.nx 0 [(.int .u32 (lorI x3' x1'))]).rsv 9)))))))))
  (∃ x10', readAt h2' h.nx 1 1 = some [(.int .u32 x10')] ∧
  vreq (inD 4294967296 x10')
  (vreq (inD 4294967296 x1')
  (vreq (canW h2' h.nx 1 [(.int .u32 (lorI x10' x1'))])
  (∃ x11', ∃ x12', readAt ((h2'.wr h.nx 1 [(.int .u32 (lorI x10' x1'))]).rsv 9) h.nx 0 2 = some [(.int .u32 x11'), (.int .u32 x12')] ∧
  ∃ x13', readAt ((h2'.wr h.nx 1 [(.int .u32 (lorI x10' x1'))]).rsv 9) h.nx 0 1 = some [(.int .u32 x13')] ∧
  ∃ x14', readAt ((h2'.wr h.nx 1 [(.int .u32 (lorI x10' x1'))]).rsv 9) h.nx 1 1 = some [(.int .u32 x14')] ∧
  vreq (inD 4294967296 x13')
  (vreq (inD 4294967296 x14')
  (vreq (canW (((h2'.wr h.nx 1 [(.int .u32 (lorI x10' x1'))]).rsv 9).grd [h.nx, h.nx]) (h.add (.cells [(.int .u32 x0_0), (.int .u32 x0_1)] 102 .fix)).nx 0 [(.int .u32 x11'), (.int .u32 x12')])
  (∃ x15', ∃ x16', readAt (((((h2'.wr h.nx 1 [(.int .u32 (lorI x10' x1'))]).rsv 9).grd [h.nx, h.nx]).wr (h.add (.cells [(.int .u32 x0_0), (.int .u32 x0_1)] 102 .fix)).nx 0 [(.int .u32 x11'), (.int .u32 x12')]).rst ((h2'.wr h.nx 1 [(.int .u32 (lorI x10' x1'))]).rsv 9)) (h.add (.cells [(.int .u32 x0_0), (.int .u32 x0_1)] 102 .fix)).nx 0 2 = some [(.int .u32 x15'), (.int .u32 x16')] ∧
  Q (.tuple #[(.agg #[(.int .u32 x15'), (.int .u32 x16')]), (.bool (eqI (landI x13' x14') 0))]) (((((h2'.wr h.nx 1 [(.int .u32 (lorI x10' x1'))]).rsv 9).grd [h.nx, h.nx]).wr (h.add (.cells [(.int .u32 x0_0), (.int .u32 x0_1)] 102 .fix)).nx 0 [(.int .u32 x11'), (.int .u32 x12')]).rst ((h2'.wr h.nx 1 [(.int .u32 (lorI x10' x1'))]).rsv 9)))))))))
theorem rk104 {O Q} (x0_0 x0_1 x1) {h : Hp} (hO : O 104 [(.agg #[(.int .u32 x0_0), (.int .u32 x0_1)]), (.int .i64 x1)] h = none) (hh : T104 O Q x0_0 x0_1 x1 h) : Ret Tryd.prog O 104 [(.agg #[(.int .u32 x0_0), (.int .u32 x0_1)]), (.int .i64 x1)] h Q :=
  .of (c := b104) Tryd.func104 (by kernel_rfl) hO (V_ok (tb := lv104) (cuts := []) 500 (Eq.mp (by kernel_rfl) hh))
/-! (sward/sat.truths).literals -/
noncomputable def b90 : Code := (Tryd.f90.body).getD .skip
noncomputable def stk90_0 : List KI := [.code (sub [1, 1, 0, 1, 0] b90), .blk 0, .code (sub [1, 1, 1] b90)]
def lv90 : List (Nat × List Nat) := [(0, [1, 2, 3, 4])]
def I90_0 (O : CallF) (Q : Value → Hp → Prop) (x0_0 : Int) (x0_1 : Int) (b1 : Nat) (f1 : Nat) (a3 : Option Addr) (n3 : Nat) (c3 : Nat) (x4 : Int) (h : Hp) : Prop := RKL Tryd.prog O Tryd.f90 stk90_0 31 [1, 2, 3, 4] [(.pointer (some ⟨b1, f1, none⟩)), (.slice none 0 0), (.slice a3 n3 c3), (.int .u32 x4)] h Q
def T90 (O : CallF) (Q : Value → Hp → Prop) (x0_0 : Int) (x0_1 : Int) (h : Hp) : Prop :=
  ∃ x1', readAt (h.add (.cells [(.int .u32 x0_0), (.int .u32 x0_1)] 102 .fix)) h.nx 0 1 = some [(.int .u32 x1')] ∧
  ∃ x2', readAt (h.add (.cells [(.int .u32 x0_0), (.int .u32 x0_1)] 102 .fix)) h.nx 1 1 = some [(.int .u32 x2')] ∧
  vreq (inD 4294967296 x1')
  (vreq (inD 4294967296 x2')
  (I90_0 O Q x0_0 x0_1 h.nx 0 none 0 0 (lorI x1' x2') (h.add (.cells [(.int .u32 x0_0), (.int .u32 x0_1)] 102 .fix))))
theorem rk90 {O Q} (x0_0 x0_1) {h : Hp} (hO : O 90 [(.agg #[(.int .u32 x0_0), (.int .u32 x0_1)])] h = none) (hh : T90 O Q x0_0 x0_1 h) : Ret Tryd.prog O 90 [(.agg #[(.int .u32 x0_0), (.int .u32 x0_1)])] h Q :=
  .of (c := b90) Tryd.func90 (by kernel_rfl) hO (V_ok (tb := lv90) (cuts := []) 500 (Eq.mp (by kernel_rfl) hh))
def T90_0 (O : CallF) (Q : Value → Hp → Prop) (x0_0 : Int) (x0_1 : Int) (b1 : Nat) (f1 : Nat) (a3 : Option Addr) (n3 : Nat) (c3 : Nat) (x4 : Int) (h : Hp) : Prop :=
  vcond (!(eqI x4 0))
  (∃ x101', ∃ h102', EvC Tryd.prog O 120 [(.int .u32 x4)] h (.int .i64 x101') h102' ∧
  ∃ x103', ∃ x104', readAt h102' b1 f1 2 = some [(.int .u32 x103'), (.int .u32 x104')] ∧
  ∃ x105', ∃ h106', EvC Tryd.prog O 81 [(.agg #[(.int .u32 x103'), (.int .u32 x104')]), (.int .i64 (wrapF .i64 (x101' + 1)))] h102' (.int .i64 x105') h106' ∧
  vcond (eqI x105' 2)
  (∃ a107' n108' c109' h110', appendV Tryd.prog (h106'.add (.cells [(.int .i64 (wrapF .i64 (0 - (wrapF .i64 (x101' + 1)))))] 3 .fix)) 32 32 (.slice a3 n3 c3) (.slice (some ⟨h106'.nx, 0, none⟩) 1 1) = some (.slice a107' n108' c109', h110') ∧
  vreq (inD 4294967296 x4)
  (vreq (inD 4294967296 (wrapF .u32 (x4 - 1)))
  (I90_0 O Q x0_0 x0_1 b1 f1 a107' n108' c109' (landI x4 (wrapF .u32 (x4 - 1))) h110')))
  (∃ a111' n112' c113' h114', appendV Tryd.prog (h106'.add (.cells [(.int .i64 (wrapF .i64 (x101' + 1)))] 3 .fix)) 32 32 (.slice a3 n3 c3) (.slice (some ⟨h106'.nx, 0, none⟩) 1 1) = some (.slice a111' n112' c113', h114') ∧
  vreq (inD 4294967296 x4)
  (vreq (inD 4294967296 (wrapF .u32 (x4 - 1)))
  (I90_0 O Q x0_0 x0_1 b1 f1 a111' n112' c113' (landI x4 (wrapF .u32 (x4 - 1))) h114'))))
  (Q (.slice a3 n3 c3) h)
theorem I90_0.of {O Q} (x0_0 x0_1 b1 f1 a3 n3 c3 x4) {h : Hp} (hh : T90_0 O Q x0_0 x0_1 b1 f1 a3 n3 c3 x4 h) : I90_0 O Q x0_0 x0_1 b1 f1 a3 n3 c3 x4 h :=
  RKL.of (tb := lv90) (cuts := []) 500 fun _ => Eq.mp (by kernel_rfl) hh
/-! (sward/sat.truths).of -/
noncomputable def b81 : Code := (Tryd.f81.body).getD .skip
def lv81 : List (Nat × List Nat) := []
def T81 (O : CallF) (Q : Value → Hp → Prop) (x0_0 : Int) (x0_1 : Int) (x1 : Int) (h : Hp) : Prop :=
  ∃ x1', ∃ h2', EvC Tryd.prog O 84 [(.int .i64 x1)] (h.add (.cells [(.int .u32 x0_0), (.int .u32 x0_1)] 102 .fix)) (.int .u32 x1') h2' ∧
  ∃ x3', readAt h2' h.nx 0 1 = some [(.int .u32 x3')] ∧
  vreq (inD 4294967296 x3')
  (vreq (inD 4294967296 x1')
  (vcond (!(eqI (landI x3' x1') 0))
  (Q (.int .i64 1) h2')
  (∃ x4', readAt h2' h.nx 1 1 = some [(.int .u32 x4')] ∧
  vreq (inD 4294967296 x4')
  (vreq (inD 4294967296 x1')
  (vcond (!(eqI (landI x4' x1') 0))
  (Q (.int .i64 2) h2')
  (Q (.int .i64 0) h2'))))))
theorem rk81 {O Q} (x0_0 x0_1 x1) {h : Hp} (hO : O 81 [(.agg #[(.int .u32 x0_0), (.int .u32 x0_1)]), (.int .i64 x1)] h = none) (hh : T81 O Q x0_0 x0_1 x1 h) : Ret Tryd.prog O 81 [(.agg #[(.int .u32 x0_0), (.int .u32 x0_1)]), (.int .i64 x1)] h Q :=
  .of (c := b81) Tryd.func81 (by kernel_rfl) hO (V_ok (tb := lv81) (cuts := []) 500 (Eq.mp (by kernel_rfl) hh))
/-! sward/sat.bit -/
noncomputable def b84 : Code := (Tryd.f84.body).getD .skip
def lv84 : List (Nat × List Nat) := []
def T84 (O : CallF) (Q : Value → Hp → Prop) (x0 : Int) (h : Hp) : Prop :=
  vreq (le0 (wrapF .i64 ((maxI x0 (wrapF .i64 (0 - x0))) - 1)))
  (Q (.int .u32 (shlF .u32 1 (Int.toNat (wrapF .i64 ((maxI x0 (wrapF .i64 (0 - x0))) - 1))))) h)
theorem rk84 {O Q} (x0) {h : Hp} (hO : O 84 [(.int .i64 x0)] h = none) (hh : T84 O Q x0 h) : Ret Tryd.prog O 84 [(.int .i64 x0)] h Q :=
  .of (c := b84) Tryd.func84 (by kernel_rfl) hO (V_ok (tb := lv84) (cuts := []) 500 (Eq.mp (by kernel_rfl) hh))
/-! math/bits.TrailingZeros32 -/
noncomputable def b120 : Code := (Tryd.f120.body).getD .skip
def lv120 : List (Nat × List Nat) := []
def T120 (O : CallF) (Q : Value → Hp → Prop) (x0 : Int) (h : Hp) : Prop :=
  vcond (eqI x0 0)
  (Q (.int .i64 32) h)
  (vreq (inD 4294967296 x0)
  (vreq (inD 4294967296 (wrapF .u32 (0 - x0)))
  (isNat (shrF .u32 (wrapF .u32 ((landI x0 (wrapF .u32 (0 - x0))) * 125613361)) 27) fun n1' =>
  vreq (Nat.blt n1' 32)
  (∃ x2', readAt h 0 (0 + (n1' * 1)) 1 = some [(.int .u8 x2')] ∧
  Q (.int .i64 (wrapF .i64 x2')) h))))
theorem rk120 {O Q} (x0) {h : Hp} (hO : O 120 [(.int .u32 x0)] h = none) (hh : T120 O Q x0 h) : Ret Tryd.prog O 120 [(.int .u32 x0)] h Q :=
  .of (c := b120) Tryd.func120 (by kernel_rfl) hO (V_ok (tb := lv120) (cuts := []) 500 (Eq.mp (by kernel_rfl) hh))
/-! sward/swardref20.Clause -/
noncomputable def b105 : Code := (Tryd.f105.body).getD .skip
noncomputable def stk105_0 : List KI := [.code (sub [1, 0, 1, 0] b105), .blk 0, .code (sub [1, 1] b105)]
def lv105 : List (Nat × List Nat) := [(0, [0, 1, 4, 5])]
def I105_0 (O : CallF) (Q : Value → Hp → Prop) (a0 : Option Addr) (n0 : Nat) (c0 : Nat) (x1 : Int) (q4 : Bool) (x5 : Int) (h : Hp) : Prop := RKL Tryd.prog O Tryd.f105 stk105_0 39 [0, 1, 4, 5] [(.slice a0 n0 c0), (.int .i64 x1), (.bool q4), (.int .i64 x5)] h Q
def T105 (O : CallF) (Q : Value → Hp → Prop) (a0 : Option Addr) (n0 : Nat) (c0 : Nat) (x1 : Int) (h : Hp) : Prop :=
  I105_0 O Q a0 n0 c0 x1 false 0 h
theorem rk105 {O Q} (a0 n0 c0 x1) {h : Hp} (hO : O 105 [(.slice a0 n0 c0), (.int .i64 x1)] h = none) (hh : T105 O Q a0 n0 c0 x1 h) : Ret Tryd.prog O 105 [(.slice a0 n0 c0), (.int .i64 x1)] h Q :=
  .of (c := b105) Tryd.func105 (by kernel_rfl) hO (V_ok (tb := lv105) (cuts := []) 500 (Eq.mp (by kernel_rfl) hh))
def T105_0 (O : CallF) (Q : Value → Hp → Prop) (a0 : Option Addr) (n0 : Nat) (c0 : Nat) (x1 : Int) (q4 : Bool) (x5 : Int) (h : Hp) : Prop :=
  vcond (ltI x5 (Int.ofNat n0))
  (isNat x5 fun n101' =>
  isAddr a0 fun b102' f103' =>
  vreq (Nat.blt n101' n0)
  (∃ x104', readAt h b102' (f103' + (n101' * 1)) 1 = some [(.int .i64 x104')] ∧
  ∃ x105', ∃ h106', EvC Tryd.prog O 98 [(.int .i64 x104')] h (.int .i64 x105') h106' ∧
  vcond (ltI x105' 1)
  (Q (.bool false) h106')
  (vcond (ltI x1 x105')
  (Q (.bool false) h106')
  (vcond (ltI 0 x5)
  (isNat (wrapF .i64 (x5 - 1)) fun n107' =>
  isAddr a0 fun b108' f109' =>
  vreq (Nat.blt n107' n0)
  (∃ x110', readAt h106' b108' (f109' + (n107' * 1)) 1 = some [(.int .i64 x110')] ∧
  ∃ x111', ∃ h112', EvC Tryd.prog O 98 [(.int .i64 x110')] h106' (.int .i64 x111') h112' ∧
  vcond (!(ltI x111' x105'))
  (Q (.bool false) h112')
  (I105_0 O Q a0 n0 c0 x1 q4 (wrapF .i64 (x5 + 1)) h112')))
  (I105_0 O Q a0 n0 c0 x1 q4 (wrapF .i64 (x5 + 1)) h106')))))
  (Q (.bool true) h)
theorem I105_0.of {O Q} (a0 n0 c0 x1 q4 x5) {h : Hp} (hh : T105_0 O Q a0 n0 c0 x1 q4 x5 h) : I105_0 O Q a0 n0 c0 x1 q4 x5 h :=
  RKL.of (tb := lv105) (cuts := []) 500 fun _ => Eq.mp (by kernel_rfl) hh
/-! sward/swardref20.Plain -/
noncomputable def b98 : Code := (Tryd.f98.body).getD .skip
def lv98 : List (Nat × List Nat) := []
def T98 (O : CallF) (Q : Value → Hp → Prop) (x0 : Int) (h : Hp) : Prop :=
  vcond (!(ltI x0 (-30)))
  (vcond (!(ltI 30 x0))
  (Q (.int .i64 (maxI x0 (wrapF .i64 (0 - x0)))) h)
  (Q (.int .i64 0) h))
  (Q (.int .i64 0) h)
theorem rk98 {O Q} (x0) {h : Hp} (hO : O 98 [(.int .i64 x0)] h = none) (hh : T98 O Q x0 h) : Ret Tryd.prog O 98 [(.int .i64 x0)] h Q :=
  .of (c := b98) Tryd.func98 (by kernel_rfl) hO (V_ok (tb := lv98) (cuts := []) 500 (Eq.mp (by kernel_rfl) hh))
/-! sward/swardlaw20.same -/
noncomputable def b26 : Code := (Tryd.f26.body).getD .skip
noncomputable def stk26_0 : List KI := [.code (sub [1, 1, 0, 1, 0] b26), .blk 0, .code (sub [1, 1, 1] b26)]
def lv26 : List (Nat × List Nat) := [(0, [0, 1, 4, 5])]
def I26_0 (O : CallF) (Q : Value → Hp → Prop) (a0 : Option Addr) (n0 : Nat) (c0 : Nat) (a1 : Option Addr) (n1 : Nat) (c1 : Nat) (q4 : Bool) (x5 : Int) (h : Hp) : Prop := RKL Tryd.prog O Tryd.f26 stk26_0 26 [0, 1, 4, 5] [(.slice a0 n0 c0), (.slice a1 n1 c1), (.bool q4), (.int .i64 x5)] h Q
def T26 (O : CallF) (Q : Value → Hp → Prop) (a0 : Option Addr) (n0 : Nat) (c0 : Nat) (a1 : Option Addr) (n1 : Nat) (c1 : Nat) (h : Hp) : Prop :=
  vcond (!(eqI (Int.ofNat n0) (Int.ofNat n1)))
  (Q (.bool false) h)
  (I26_0 O Q a0 n0 c0 a1 n1 c1 false 0 h)
theorem rk26 {O Q} (a0 n0 c0 a1 n1 c1) {h : Hp} (hO : O 26 [(.slice a0 n0 c0), (.slice a1 n1 c1)] h = none) (hh : T26 O Q a0 n0 c0 a1 n1 c1 h) : Ret Tryd.prog O 26 [(.slice a0 n0 c0), (.slice a1 n1 c1)] h Q :=
  .of (c := b26) Tryd.func26 (by kernel_rfl) hO (V_ok (tb := lv26) (cuts := []) 500 (Eq.mp (by kernel_rfl) hh))
def T26_0 (O : CallF) (Q : Value → Hp → Prop) (a0 : Option Addr) (n0 : Nat) (c0 : Nat) (a1 : Option Addr) (n1 : Nat) (c1 : Nat) (q4 : Bool) (x5 : Int) (h : Hp) : Prop :=
  vcond (ltI x5 (Int.ofNat n0))
  (isNat x5 fun n101' =>
  isAddr a0 fun b102' f103' =>
  vreq (Nat.blt n101' n0)
  (∃ x104', readAt (h.rsv 9) b102' (f103' + (n101' * 1)) 1 = some [(.int .i64 x104')] ∧
  isNat x5 fun n105' =>
  isAddr a1 fun b106' f107' =>
  vreq (Nat.blt n105' n1)
  (∃ x108', readAt (h.rsv 9) b106' (f107' + (n105' * 1)) 1 = some [(.int .i64 x108')] ∧
  vcond (!(eqI x104' x108'))
  (Q (.bool false) (h.rsv 9))
  (I26_0 O Q a0 n0 c0 a1 n1 c1 q4 (wrapF .i64 (x5 + 1)) (h.rsv 9)))))
  (Q (.bool true) h)
theorem I26_0.of {O Q} (a0 n0 c0 a1 n1 c1 q4 x5) {h : Hp} (hh : T26_0 O Q a0 n0 c0 a1 n1 c1 q4 x5 h) : I26_0 O Q a0 n0 c0 a1 n1 c1 q4 x5 h :=
  RKL.of (tb := lv26) (cuts := []) 500 fun _ => Eq.mp (by kernel_rfl) hh
end Go.Proofs.YtfgfhplgnfbaaaaDoor
