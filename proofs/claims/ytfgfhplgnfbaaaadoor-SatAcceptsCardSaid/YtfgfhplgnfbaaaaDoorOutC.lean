/- Conditions of functions' code, printed by a program of ours. -/
import Derived.Test.YtfgfhplgnfbaaaaDoorProg
import Derived.Test.YtfgfhplgnfbaaaaDoorVcA
import Derived.KernelRfl
namespace Go.Proofs.YtfgfhplgnfbaaaaDoor
open Go Go.Ev
set_option maxRecDepth 100000
set_option linter.unusedVariables false
/-! sward/swardlaw20.SatAccepts -/
noncomputable def b8 : Code := (Tryd.f8.body).getD .skip
def lv8 : List (Nat × List Nat) := []
def T8 (O : CallF) (Q : Value → Hp → Prop) (x0_0 : Int) (a0_1 : Option Addr) (n0_1 : Nat) (c0_1 : Nat) (a1 : Option Addr) (n1 : Nat) (c1 : Nat) (a2 : Option Addr) (n2 : Nat) (c2 : Nat) (h : Hp) : Prop :=
  ∃ x1', ∃ a2' n3' c4', readAt (h.add (.cells [(.int .i64 x0_0), (.slice a0_1 n0_1 c0_1)] 30 .fix)) h.nx 0 2 = some [(.int .i64 x1'), (.slice a2' n3' c4')] ∧
  ∃ q5', ∃ h6', EvC Tryd.prog O 28 [(.agg #[(.int .i64 x1'), (.slice a2' n3' c4')]), (.slice a1 n1 c1)] (h.add (.cells [(.int .i64 x0_0), (.slice a0_1 n0_1 c0_1)] 30 .fix)) (.bool q5') h6' ∧
  vcond q5'
  (∃ q7', ∃ h8', EvC Tryd.prog O 27 [] h6' (.bool q7') h8' ∧
  Q (.bool q7') h8')
  (∃ q9', ∃ h10', EvC Tryd.prog O 43 [(.slice a2 n2 c2)] h6' (.bool q9') h10' ∧
  vcond q9'
  (∃ q11', ∃ h12', EvC Tryd.prog O 27 [] h10' (.bool q11') h12' ∧
  Q (.bool q11') h12')
  (∃ x13', ∃ a14' n15' c16', readAt h10' h.nx 0 2 = some [(.int .i64 x13'), (.slice a14' n15' c16')] ∧
  ∃ x17', ∃ x18', ∃ h19', EvC Tryd.prog O 41 [(.agg #[(.int .i64 x13'), (.slice a14' n15' c16')]), (.slice a1 n1 c1), (.slice a2 n2 c2)] h10' (.tuple #[(.int .i64 x17'), (.int .i64 x18')]) h19' ∧
  ∃ x20', ∃ a21' n22' c23', readAt h19' h.nx 0 2 = some [(.int .i64 x20'), (.slice a21' n22' c23')] ∧
  ∃ x24', ∃ x25', ∃ h26', EvC Tryd.prog O 42 [(.agg #[(.int .i64 x20'), (.slice a21' n22' c23')]), (.slice a1 n1 c1), (.slice a2 n2 c2)] h19' (.tuple #[(.int .i64 x24'), (.int .i64 x25')]) h26' ∧
  vcond (eqI x17' x24')
  (vcond (eqI x18' x25')
  (∃ q27', ∃ h28', EvC Tryd.prog O 27 [] h26' (.bool q27') h28' ∧
  Q (.bool q27') h28')
  (Q (.bool false) h26'))
  (Q (.bool false) h26')))
theorem rk8 {O Q} (x0_0 a0_1 n0_1 c0_1 a1 n1 c1 a2 n2 c2) {h : Hp} (hO : O 8 [(.agg #[(.int .i64 x0_0), (.slice a0_1 n0_1 c0_1)]), (.slice a1 n1 c1), (.slice a2 n2 c2)] h = none) (hh : T8 O Q x0_0 a0_1 n0_1 c0_1 a1 n1 c1 a2 n2 c2 h) : Ret Tryd.prog O 8 [(.agg #[(.int .i64 x0_0), (.slice a0_1 n0_1 c0_1)]), (.slice a1 n1 c1), (.slice a2 n2 c2)] h Q :=
  .of (c := b8) Tryd.func8 (by kernel_rfl) hO (V_ok (tb := lv8) (cuts := []) 500 (Eq.mp (by kernel_rfl) hh))
/-! sward/sat.Unit -/
noncomputable def b34 : Code := (Tryd.f34.body).getD .skip
def lv34 : List (Nat × List Nat) := []
def T34 (O : CallF) (Q : Value → Hp → Prop) (x0_0 : Int) (a0_1 : Option Addr) (n0_1 : Nat) (c0_1 : Nat) (a1 : Option Addr) (n1 : Nat) (c1 : Nat) (h : Hp) : Prop :=
  ∃ x1', ∃ a2' n3' c4', readAt (h.add (.cells [(.int .i64 x0_0), (.slice a0_1 n0_1 c0_1)] 30 .fix)) h.nx 0 2 = some [(.int .i64 x1'), (.slice a2' n3' c4')] ∧
  ∃ x5', ∃ h6', EvC Tryd.prog O 78 [(.agg #[(.int .i64 x1'), (.slice a2' n3' c4')]), (.slice a1 n1 c1)] (h.add (.cells [(.int .i64 x0_0), (.slice a0_1 n0_1 c0_1)] 30 .fix)) (.int .i64 x5') h6' ∧
  vcond (!(eqI x5' 0))
  (Q (.tuple #[(.slice none 0 0), (.bool false), (.int .i64 x5')]) h6')
  (∃ x7', ∃ a8' n9' c10', readAt h6' h.nx 0 2 = some [(.int .i64 x7'), (.slice a8' n9' c10')] ∧
  ∃ a11', ∃ h12', EvC Tryd.prog O 76 [(.agg #[(.int .i64 x7'), (.slice a8' n9' c10')]), (.slice a1 n1 c1)] h6' (.pointer a11') h12' ∧
  ∃ x13', ∃ x14', ∃ q15', ∃ h16', EvC Tryd.prog O 89 [(.pointer a11'), (.slice none 0 0)] h12' (.tuple #[(.agg #[(.int .u32 x13'), (.int .u32 x14')]), (.bool q15')]) h16' ∧
  vreq (canW (h16'.add (.cells [(.int .u32 0), (.int .u32 0)] 102 .fix)) h16'.nx 0 [(.int .u32 x13'), (.int .u32 x14')])
  (vcond (!q15')
  (Q (.tuple #[(.slice none 0 0), (.bool true), (.int .i64 0)]) ((h16'.add (.cells [(.int .u32 0), (.int .u32 0)] 102 .fix)).wr h16'.nx 0 [(.int .u32 x13'), (.int .u32 x14')]))
  (∃ x17', ∃ x18', readAt ((h16'.add (.cells [(.int .u32 0), (.int .u32 0)] 102 .fix)).wr h16'.nx 0 [(.int .u32 x13'), (.int .u32 x14')]) h16'.nx 0 2 = some [(.int .u32 x17'), (.int .u32 x18')] ∧
  ∃ a19' n20' c21', ∃ h22', EvC Tryd.prog O 90 [(.agg #[(.int .u32 x17'), (.int .u32 x18')])] ((h16'.add (.cells [(.int .u32 0), (.int .u32 0)] 102 .fix)).wr h16'.nx 0 [(.int .u32 x13'), (.int .u32 x14')]) (.slice a19' n20' c21') h22' ∧
  Q (.tuple #[(.slice a19' n20' c21'), (.bool false), (.int .i64 0)]) h22')))
theorem rk34 {O Q} (x0_0 a0_1 n0_1 c0_1 a1 n1 c1) {h : Hp} (hO : O 34 [(.agg #[(.int .i64 x0_0), (.slice a0_1 n0_1 c0_1)]), (.slice a1 n1 c1)] h = none) (hh : T34 O Q x0_0 a0_1 n0_1 c0_1 a1 n1 c1 h) : Ret Tryd.prog O 34 [(.agg #[(.int .i64 x0_0), (.slice a0_1 n0_1 c0_1)]), (.slice a1 n1 c1)] h Q :=
  .of (c := b34) Tryd.func34 (by kernel_rfl) hO (V_ok (tb := lv34) (cuts := []) 500 (Eq.mp (by kernel_rfl) hh))
/-! sward/swardref20.Unit -/
noncomputable def b35 : Code := (Tryd.f35.body).getD .skip
def lv35 : List (Nat × List Nat) := []
def T35 (O : CallF) (Q : Value → Hp → Prop) (x0_0 : Int) (a0_1 : Option Addr) (n0_1 : Nat) (c0_1 : Nat) (a1 : Option Addr) (n1 : Nat) (c1 : Nat) (h : Hp) : Prop :=
  ∃ x1', ∃ a2' n3' c4', readAt (h.add (.cells [(.int .i64 x0_0), (.slice a0_1 n0_1 c0_1)] 30 .fix)) h.nx 0 2 = some [(.int .i64 x1'), (.slice a2' n3' c4')] ∧
  ∃ x5', ∃ h6', EvC Tryd.prog O 91 [(.agg #[(.int .i64 x1'), (.slice a2' n3' c4')]), (.slice a1 n1 c1)] (h.add (.cells [(.int .i64 x0_0), (.slice a0_1 n0_1 c0_1)] 30 .fix)) (.int .i64 x5') h6' ∧
  vcond (!(eqI x5' 0))
  (Q (.tuple #[(.slice none 0 0), (.bool false), (.int .i64 x5')]) h6')
  (∃ x7', readAt h6' h.nx 0 1 = some [(.int .i64 x7')] ∧
  ∃ a8' n9' c10', readAt h6' h.nx 1 1 = some [(.slice a8' n9' c10')] ∧
  ∃ a11' n12' c13', ∃ q14', ∃ h15', EvC Tryd.prog O 92 [(.int .i64 x7'), (.slice a8' n9' c10'), (.slice a1 n1 c1)] h6' (.tuple #[(.slice a11' n12' c13'), (.bool q14')]) h15' ∧
  vcond (!q14')
  (Q (.tuple #[(.slice none 0 0), (.bool true), (.int .i64 0)]) h15')
  (∃ a16' n17' c18', ∃ h19', EvC Tryd.prog O 93 [(.slice a11' n12' c13')] h15' (.slice a16' n17' c18') h19' ∧
  Q (.tuple #[(.slice a16' n17' c18'), (.bool false), (.int .i64 0)]) h19'))
theorem rk35 {O Q} (x0_0 a0_1 n0_1 c0_1 a1 n1 c1) {h : Hp} (hO : O 35 [(.agg #[(.int .i64 x0_0), (.slice a0_1 n0_1 c0_1)]), (.slice a1 n1 c1)] h = none) (hh : T35 O Q x0_0 a0_1 n0_1 c0_1 a1 n1 c1 h) : Ret Tryd.prog O 35 [(.agg #[(.int .i64 x0_0), (.slice a0_1 n0_1 c0_1)]), (.slice a1 n1 c1)] h Q :=
  .of (c := b35) Tryd.func35 (by kernel_rfl) hO (V_ok (tb := lv35) (cuts := []) 500 (Eq.mp (by kernel_rfl) hh))
/-! sward/sat.Accept -/
noncomputable def b41 : Code := (Tryd.f41.body).getD .skip
noncomputable def stk41_0 : List KI := [.code (sub [1, 1, 0, 1, 0] b41), .blk 0, .code (sub [1, 1, 1] b41)]
noncomputable def stk41_1 : List KI := [.code (sub [1, 1, 1, 1, 1, 0, 1, 0] b41), .blk 2, .code (sub [1, 1, 1, 1, 1, 1] b41)]
def lv41 : List (Nat × List Nat) := [(0, [1, 2, 3, 6, 7, 20, 21, 22]), (2, [2, 6, 7, 11, 38, 39, 40])]
def I41_0 (O : CallF) (Q : Value → Hp → Prop) (x0_0 : Int) (a0_1 : Option Addr) (n0_1 : Nat) (c0_1 : Nat) (a1 : Option Addr) (n1 : Nat) (c1 : Nat) (a2 : Option Addr) (n2 : Nat) (c2 : Nat) (b3 : Nat) (f3 : Nat) (x6 : Int) (x7 : Int) (x22 : Int) (h : Hp) : Prop := RKL Tryd.prog O Tryd.f41 stk41_0 76 [1, 2, 3, 6, 7, 20, 21, 22] [(.slice a1 n1 c1), (.slice a2 n2 c2), (.pointer (some ⟨b3, f3, none⟩)), (.int .i64 x6), (.int .i64 x7), (.slice a2 n2 c2), (.int .i64 (Int.ofNat n2)), (.int .i64 x22)] h Q
def I41_1 (O : CallF) (Q : Value → Hp → Prop) (x0_0 : Int) (a0_1 : Option Addr) (n0_1 : Nat) (c0_1 : Nat) (a1 : Option Addr) (n1 : Nat) (c1 : Nat) (a2 : Option Addr) (n2 : Nat) (c2 : Nat) (x6 : Int) (x7 : Int) (a11 : Option Addr) (x40 : Int) (h : Hp) : Prop := RKL Tryd.prog O Tryd.f41 stk41_1 76 [2, 6, 7, 11, 38, 39, 40] [(.slice a2 n2 c2), (.int .i64 x6), (.int .i64 x7), (.pointer a11), (.slice a2 n2 c2), (.int .i64 (Int.ofNat n2)), (.int .i64 x40)] h Q
def T41 (O : CallF) (Q : Value → Hp → Prop) (x0_0 : Int) (a0_1 : Option Addr) (n0_1 : Nat) (c0_1 : Nat) (a1 : Option Addr) (n1 : Nat) (c1 : Nat) (a2 : Option Addr) (n2 : Nat) (c2 : Nat) (h : Hp) : Prop :=
  ∃ x1', ∃ a2' n3' c4', readAt (h.add (.cells [(.int .i64 x0_0), (.slice a0_1 n0_1 c0_1)] 30 .fix)) h.nx 0 2 = some [(.int .i64 x1'), (.slice a2' n3' c4')] ∧
  ∃ x5', ∃ h6', EvC Tryd.prog O 78 [(.agg #[(.int .i64 x1'), (.slice a2' n3' c4')]), (.slice a1 n1 c1)] (h.add (.cells [(.int .i64 x0_0), (.slice a0_1 n0_1 c0_1)] 30 .fix)) (.int .i64 x5') h6' ∧
  vcond (!(eqI x5' 0))
  (Q (.tuple #[(.int .i64 0), (.int .i64 x5')]) h6')
  (I41_0 O Q x0_0 a0_1 n0_1 c0_1 a1 n1 c1 a2 n2 c2 h.nx 0 0 0 0 h6')
theorem rk41 {O Q} (x0_0 a0_1 n0_1 c0_1 a1 n1 c1 a2 n2 c2) {h : Hp} (hO : O 41 [(.agg #[(.int .i64 x0_0), (.slice a0_1 n0_1 c0_1)]), (.slice a1 n1 c1), (.slice a2 n2 c2)] h = none) (hh : T41 O Q x0_0 a0_1 n0_1 c0_1 a1 n1 c1 a2 n2 c2 h) : Ret Tryd.prog O 41 [(.agg #[(.int .i64 x0_0), (.slice a0_1 n0_1 c0_1)]), (.slice a1 n1 c1), (.slice a2 n2 c2)] h Q :=
  .of (c := b41) Tryd.func41 (by kernel_rfl) hO (V_ok (tb := lv41) (cuts := []) 500 (Eq.mp (by kernel_rfl) hh))
def T41_0 (O : CallF) (Q : Value → Hp → Prop) (x0_0 : Int) (a0_1 : Option Addr) (n0_1 : Nat) (c0_1 : Nat) (a1 : Option Addr) (n1 : Nat) (c1 : Nat) (a2 : Option Addr) (n2 : Nat) (c2 : Nat) (b3 : Nat) (f3 : Nat) (x6 : Int) (x7 : Int) (x22 : Int) (h : Hp) : Prop :=
  vcond (ltI x22 (Int.ofNat n2))
  (isNat x22 fun n101' =>
  isAddr a2 fun b102' f103' =>
  vreq (Nat.blt n101' n2)
  (∃ a104' n105' c106', readAt h b102' (f103' + (n101' * 1)) 1 = some [(.slice a104' n105' c106')] ∧
  ∃ x107', readAt h b3 (f3 + 0) 1 = some [(.int .i64 x107')] ∧
  ∃ q108', ∃ h109', EvC Tryd.prog O 87 [(.slice a104' n105' c106'), (.int .i64 x107')] h (.bool q108') h109' ∧
  vcond (!q108')
  (Q (.tuple #[(.int .i64 0), (.int .i64 2)]) h109')
  (I41_0 O Q x0_0 a0_1 n0_1 c0_1 a1 n1 c1 a2 n2 c2 b3 f3 x6 x7 (wrapF .i64 (x22 + 1)) h109')))
  (vcond (ltI 2000 (Int.ofNat n2))
  (Q (.tuple #[(.int .i64 0), (.int .i64 3)]) h)
  (∃ x110', ∃ a111' n112' c113', readAt h b3 f3 2 = some [(.int .i64 x110'), (.slice a111' n112' c113')] ∧
  ∃ a114', ∃ h115', EvC Tryd.prog O 76 [(.agg #[(.int .i64 x110'), (.slice a111' n112' c113')]), (.slice a1 n1 c1)] h (.pointer a114') h115' ∧
  I41_1 O Q x0_0 a0_1 n0_1 c0_1 a1 n1 c1 a2 n2 c2 x6 x7 a114' 0 h115'))
theorem I41_0.of {O Q} (x0_0 a0_1 n0_1 c0_1 a1 n1 c1 a2 n2 c2 b3 f3 x6 x7 x22) {h : Hp} (hh : T41_0 O Q x0_0 a0_1 n0_1 c0_1 a1 n1 c1 a2 n2 c2 b3 f3 x6 x7 x22 h) : I41_0 O Q x0_0 a0_1 n0_1 c0_1 a1 n1 c1 a2 n2 c2 b3 f3 x6 x7 x22 h :=
  RKL.of (tb := lv41) (cuts := []) 500 fun _ => Eq.mp (by kernel_rfl) hh
def T41_1 (O : CallF) (Q : Value → Hp → Prop) (x0_0 : Int) (a0_1 : Option Addr) (n0_1 : Nat) (c0_1 : Nat) (a1 : Option Addr) (n1 : Nat) (c1 : Nat) (a2 : Option Addr) (n2 : Nat) (c2 : Nat) (x6 : Int) (x7 : Int) (a11 : Option Addr) (x40 : Int) (h : Hp) : Prop :=
  vcond (ltI x40 (Int.ofNat n2))
  (isNat x40 fun n201' =>
  isAddr a2 fun b202' f203' =>
  vreq (Nat.blt n201' n2)
  (∃ a204' n205' c206', readAt h b202' (f203' + (n201' * 1)) 1 = some [(.slice a204' n205' c206')] ∧
  ∃ a207' n208' c209', ∃ h210', EvC Tryd.prog O 96 [(.slice a204' n205' c206')] h (.slice a207' n208' c209') h210' ∧
  ∃ q211', ∃ h212', EvC Tryd.prog O 95 [(.pointer a11), (.slice a207' n208' c209')] h210' (.bool q211') h212' ∧
  vcond (!q211')
  (Q (.tuple #[(.int .i64 x40), (.int .i64 7)]) h212')
  (isAddr a11 fun b213' f214' =>
  ∃ a215' n216' c217', readAt (h212'.rsv 12) b213' (f214' + 1) 1 = some [(.slice a215' n216' c217')] ∧
  ∃ x218', ∃ x219', ∃ h220', EvC Tryd.prog O 107 [(.slice a204' n205' c206')] ((h212'.rsv 12).grd [b213']) (.agg #[(.int .u32 x218'), (.int .u32 x219')]) h220' ∧
  vreq ((h220'.rst (h212'.rsv 12)).free (h212'.nx + 7))
  (∃ a221' n222' c223' h224', appendV Tryd.prog (((h220'.rst (h212'.rsv 12)).lay (h212'.nx + 7) (.cells [(.int .u32 x218'), (.int .u32 x219')] 130 .fix)).grd []) 126 126 (.slice a215' n216' c217') (.slice (some ⟨(h212'.nx + 7), 0, none⟩) 1 1) = some (.slice a221' n222' c223', h224') ∧
  isAddr a11 fun b225' f226' =>
  vreq (canW ((h224'.rst ((h220'.rst (h212'.rsv 12)).lay (h212'.nx + 7) (.cells [(.int .u32 x218'), (.int .u32 x219')] 130 .fix))).grd []) b225' (f226' + 1) [(.slice a221' n222' c223')])
  (I41_1 O Q x0_0 a0_1 n0_1 c0_1 a1 n1 c1 a2 n2 c2 x6 x7 a11 (wrapF .i64 (x40 + 1)) ((((h224'.rst ((h220'.rst (h212'.rsv 12)).lay (h212'.nx + 7) (.cells [(.int .u32 x218'), (.int .u32 x219')] 130 .fix))).grd []).wr b225' (f226' + 1) [(.slice a221' n222' c223')]).rst (h224'.rst ((h220'.rst (h212'.rsv 12)).lay (h212'.nx + 7) (.cells [(.int .u32 x218'), (.int .u32 x219')] 130 .fix)))))))))
  (vcond (eqI (Int.ofNat n2) 0)
  (Q (.tuple #[(.int .i64 0), (.int .i64 5)]) h)
  (isNat (wrapF .i64 ((Int.ofNat n2) - 1)) fun n227' =>
  isAddr a2 fun b228' f229' =>
  vreq (Nat.blt n227' n2)
  (∃ a230' n231' c232', readAt h b228' (f229' + (n227' * 1)) 1 = some [(.slice a230' n231' c232')] ∧
  vcond (ltI 0 (Int.ofNat n231'))
  (Q (.tuple #[(.int .i64 0), (.int .i64 5)]) h)
  (Q (.tuple #[(.int .i64 0), (.int .i64 0)]) h))))
theorem I41_1.of {O Q} (x0_0 a0_1 n0_1 c0_1 a1 n1 c1 a2 n2 c2 x6 x7 a11 x40) {h : Hp} (hh : T41_1 O Q x0_0 a0_1 n0_1 c0_1 a1 n1 c1 a2 n2 c2 x6 x7 a11 x40 h) : I41_1 O Q x0_0 a0_1 n0_1 c0_1 a1 n1 c1 a2 n2 c2 x6 x7 a11 x40 h :=
  RKL.of (tb := lv41) (cuts := []) 500 fun _ => Eq.mp (by kernel_rfl) hh
/-! sward/swardref20.Accept -/
noncomputable def b42 : Code := (Tryd.f42.body).getD .skip
noncomputable def stk42_0 : List KI := [.code (sub [1, 1, 0, 1, 0] b42), .blk 0, .code (sub [1, 1, 1] b42)]
noncomputable def stk42_1 : List KI := [.code (sub [1, 1, 1, 1, 0, 1, 0] b42), .blk 2, .code (sub [1, 1, 1, 1, 1] b42)]
def lv42 : List (Nat × List Nat) := [(0, [1, 2, 3, 6, 7, 9]), (2, [1, 2, 3, 6, 7, 10])]
def I42_0 (O : CallF) (Q : Value → Hp → Prop) (x0_0 : Int) (a0_1 : Option Addr) (n0_1 : Nat) (c0_1 : Nat) (a1 : Option Addr) (n1 : Nat) (c1 : Nat) (a2 : Option Addr) (n2 : Nat) (c2 : Nat) (b3 : Nat) (f3 : Nat) (x6 : Int) (x7 : Int) (x9 : Int) (h : Hp) : Prop := RKL Tryd.prog O Tryd.f42 stk42_0 82 [1, 2, 3, 6, 7, 9] [(.slice a1 n1 c1), (.slice a2 n2 c2), (.pointer (some ⟨b3, f3, none⟩)), (.int .i64 x6), (.int .i64 x7), (.int .i64 x9)] h Q
def I42_1 (O : CallF) (Q : Value → Hp → Prop) (x0_0 : Int) (a0_1 : Option Addr) (n0_1 : Nat) (c0_1 : Nat) (a1 : Option Addr) (n1 : Nat) (c1 : Nat) (a2 : Option Addr) (n2 : Nat) (c2 : Nat) (b3 : Nat) (f3 : Nat) (x6 : Int) (x7 : Int) (x10 : Int) (h : Hp) : Prop := RKL Tryd.prog O Tryd.f42 stk42_1 82 [1, 2, 3, 6, 7, 10] [(.slice a1 n1 c1), (.slice a2 n2 c2), (.pointer (some ⟨b3, f3, none⟩)), (.int .i64 x6), (.int .i64 x7), (.int .i64 x10)] h Q
def T42 (O : CallF) (Q : Value → Hp → Prop) (x0_0 : Int) (a0_1 : Option Addr) (n0_1 : Nat) (c0_1 : Nat) (a1 : Option Addr) (n1 : Nat) (c1 : Nat) (a2 : Option Addr) (n2 : Nat) (c2 : Nat) (h : Hp) : Prop :=
  ∃ x1', ∃ a2' n3' c4', readAt (h.add (.cells [(.int .i64 x0_0), (.slice a0_1 n0_1 c0_1)] 30 .fix)) h.nx 0 2 = some [(.int .i64 x1'), (.slice a2' n3' c4')] ∧
  ∃ x5', ∃ h6', EvC Tryd.prog O 91 [(.agg #[(.int .i64 x1'), (.slice a2' n3' c4')]), (.slice a1 n1 c1)] (h.add (.cells [(.int .i64 x0_0), (.slice a0_1 n0_1 c0_1)] 30 .fix)) (.int .i64 x5') h6' ∧
  vcond (!(eqI x5' 0))
  (Q (.tuple #[(.int .i64 0), (.int .i64 x5')]) h6')
  (I42_0 O Q x0_0 a0_1 n0_1 c0_1 a1 n1 c1 a2 n2 c2 h.nx 0 0 0 0 h6')
theorem rk42 {O Q} (x0_0 a0_1 n0_1 c0_1 a1 n1 c1 a2 n2 c2) {h : Hp} (hO : O 42 [(.agg #[(.int .i64 x0_0), (.slice a0_1 n0_1 c0_1)]), (.slice a1 n1 c1), (.slice a2 n2 c2)] h = none) (hh : T42 O Q x0_0 a0_1 n0_1 c0_1 a1 n1 c1 a2 n2 c2 h) : Ret Tryd.prog O 42 [(.agg #[(.int .i64 x0_0), (.slice a0_1 n0_1 c0_1)]), (.slice a1 n1 c1), (.slice a2 n2 c2)] h Q :=
  .of (c := b42) Tryd.func42 (by kernel_rfl) hO (V_ok (tb := lv42) (cuts := []) 500 (Eq.mp (by kernel_rfl) hh))
def T42_0 (O : CallF) (Q : Value → Hp → Prop) (x0_0 : Int) (a0_1 : Option Addr) (n0_1 : Nat) (c0_1 : Nat) (a1 : Option Addr) (n1 : Nat) (c1 : Nat) (a2 : Option Addr) (n2 : Nat) (c2 : Nat) (b3 : Nat) (f3 : Nat) (x6 : Int) (x7 : Int) (x9 : Int) (h : Hp) : Prop :=
  vcond (ltI x9 (Int.ofNat n2))
  (isNat x9 fun n101' =>
  isAddr a2 fun b102' f103' =>
  vreq (Nat.blt n101' n2)
  (∃ a104' n105' c106', readAt (h.rsv 8) b102' (f103' + (n101' * 1)) 1 = some [(.slice a104' n105' c106')] ∧
  ∃ x107', readAt (h.rsv 8) b3 (f3 + 0) 1 = some [(.int .i64 x107')] ∧
  ∃ q108', ∃ h109', EvC Tryd.prog O 105 [(.slice a104' n105' c106'), (.int .i64 x107')] ((h.rsv 8).grd []) (.bool q108') h109' ∧
  vcond (!q108')
  (Q (.tuple #[(.int .i64 0), (.int .i64 2)]) (h109'.rst (h.rsv 8)))
  (I42_0 O Q x0_0 a0_1 n0_1 c0_1 a1 n1 c1 a2 n2 c2 b3 f3 x6 x7 (wrapF .i64 (x9 + 1)) (h109'.rst (h.rsv 8)))))
  (vcond (ltI 2000 (Int.ofNat n2))
  (Q (.tuple #[(.int .i64 0), (.int .i64 3)]) h)
  (I42_1 O Q x0_0 a0_1 n0_1 c0_1 a1 n1 c1 a2 n2 c2 b3 f3 x6 x7 0 h))
theorem I42_0.of {O Q} (x0_0 a0_1 n0_1 c0_1 a1 n1 c1 a2 n2 c2 b3 f3 x6 x7 x9) {h : Hp} (hh : T42_0 O Q x0_0 a0_1 n0_1 c0_1 a1 n1 c1 a2 n2 c2 b3 f3 x6 x7 x9 h) : I42_0 O Q x0_0 a0_1 n0_1 c0_1 a1 n1 c1 a2 n2 c2 b3 f3 x6 x7 x9 h :=
  RKL.of (tb := lv42) (cuts := []) 500 fun _ => Eq.mp (by kernel_rfl) hh
def T42_1 (O : CallF) (Q : Value → Hp → Prop) (x0_0 : Int) (a0_1 : Option Addr) (n0_1 : Nat) (c0_1 : Nat) (a1 : Option Addr) (n1 : Nat) (c1 : Nat) (a2 : Option Addr) (n2 : Nat) (c2 : Nat) (b3 : Nat) (f3 : Nat) (x6 : Int) (x7 : Int) (x10 : Int) (h : Hp) : Prop :=
  vcond (ltI x10 (Int.ofNat n2))
  (∃ a201' n202' c203', readAt (h.rsv 9) b3 (f3 + 1) 1 = some [(.slice a201' n202' c203')] ∧
  ∃ a204' n205' c206', sliceV Tryd.prog (h.rsv 9) 28 (.slice a2 n2 c2) none (some (.int .i64 x10)) none = some (.slice a204' n205' c206') ∧
  vreq ((h.rsv 9).free (h.nx + 0))
  (∃ a207' n208' c209' h210', appendV Tryd.prog (((h.rsv 9).lay (h.nx + 0) (.cells [] 32 .fix)).grd (blocksOf (.slice a2 n2 c2) ++ [])) 28 28 (.slice (some ⟨(h.nx + 0), 0, none⟩) 0 0) (.slice a201' n202' c203') = some (.slice a207' n208' c209', h210') ∧
  ∃ a211' n212' c213' h214', appendV Tryd.prog ((h210'.rst ((h.rsv 9).lay (h.nx + 0) (.cells [] 32 .fix))).grd []) 28 28 (.slice a207' n208' c209') (.slice a204' n205' c206') = some (.slice a211' n212' c213', h214') ∧
  ∃ x215', readAt ((h214'.rst (h210'.rst ((h.rsv 9).lay (h.nx + 0) (.cells [] 32 .fix)))).rsv 18) b3 (f3 + 0) 1 = some [(.int .i64 x215')] ∧
  isNat x10 fun n216' =>
  isAddr a2 fun b217' f218' =>
  vreq (Nat.blt n216' n2)
  (∃ a219' n220' c221', readAt ((h214'.rst (h210'.rst ((h.rsv 9).lay (h.nx + 0) (.cells [] 32 .fix)))).rsv 18) b217' (f218' + (n216' * 1)) 1 = some [(.slice a219' n220' c221')] ∧
  vreq (((h214'.rst (h210'.rst ((h.rsv 9).lay (h.nx + 0) (.cells [] 32 .fix)))).rsv 18).free ((h214'.rst (h210'.rst ((h.rsv 9).lay (h.nx + 0) (.cells [] 32 .fix)))).nx + 3))
  (∃ a222' n223' c224' h225', appendV Tryd.prog ((((h214'.rst (h210'.rst ((h.rsv 9).lay (h.nx + 0) (.cells [] 32 .fix)))).rsv 18).lay ((h214'.rst (h210'.rst ((h.rsv 9).lay (h.nx + 0) (.cells [] 32 .fix)))).nx + 3) (.cells [] 3 .fix)).grd [b217', b3]) 32 32 (.slice (some ⟨((h214'.rst (h210'.rst ((h.rsv 9).lay (h.nx + 0) (.cells [] 32 .fix)))).nx + 3), 0, none⟩) 0 0) (.slice a1 n1 c1) = some (.slice a222' n223' c224', h225') ∧
  ∃ a226' n227' c228', ∃ h229', EvC Tryd.prog O 102 [(.slice a219' n220' c221')] ((h225'.rst (((h214'.rst (h210'.rst ((h.rsv 9).lay (h.nx + 0) (.cells [] 32 .fix)))).rsv 18).lay ((h214'.rst (h210'.rst ((h.rsv 9).lay (h.nx + 0) (.cells [] 32 .fix)))).nx + 3) (.cells [] 3 .fix))).grd [b3]) (.slice a226' n227' c228') h229' ∧
  ∃ a230' n231' c232' h233', appendV Tryd.prog ((h229'.rst (h225'.rst (((h214'.rst (h210'.rst ((h.rsv 9).lay (h.nx + 0) (.cells [] 32 .fix)))).rsv 18).lay ((h214'.rst (h210'.rst ((h.rsv 9).lay (h.nx + 0) (.cells [] 32 .fix)))).nx + 3) (.cells [] 3 .fix)))).grd [b3]) 32 32 (.slice a222' n223' c224') (.slice a226' n227' c228') = some (.slice a230' n231' c232', h233') ∧
  ∃ a234' n235' c236', ∃ q237', ∃ h238', EvC Tryd.prog O 92 [(.int .i64 x215'), (.slice a211' n212' c213'), (.slice a230' n231' c232')] ((h233'.rst (h229'.rst (h225'.rst (((h214'.rst (h210'.rst ((h.rsv 9).lay (h.nx + 0) (.cells [] 32 .fix)))).rsv 18).lay ((h214'.rst (h210'.rst ((h.rsv 9).lay (h.nx + 0) (.cells [] 32 .fix)))).nx + 3) (.cells [] 3 .fix))))).grd []) (.tuple #[(.slice a234' n235' c236'), (.bool q237')]) h238' ∧
  vcond q237'
  (Q (.tuple #[(.int .i64 x10), (.int .i64 7)]) (h238'.rst (h233'.rst (h229'.rst (h225'.rst (((h214'.rst (h210'.rst ((h.rsv 9).lay (h.nx + 0) (.cells [] 32 .fix)))).rsv 18).lay ((h214'.rst (h210'.rst ((h.rsv 9).lay (h.nx + 0) (.cells [] 32 .fix)))).nx + 3) (.cells [] 3 .fix)))))))
  (I42_1 O Q x0_0 a0_1 n0_1 c0_1 a1 n1 c1 a2 n2 c2 b3 f3 x6 x7 (wrapF .i64 (x10 + 1)) (h238'.rst (h233'.rst (h229'.rst (h225'.rst (((h214'.rst (h210'.rst ((h.rsv 9).lay (h.nx + 0) (.cells [] 32 .fix)))).rsv 18).lay ((h214'.rst (h210'.rst ((h.rsv 9).lay (h.nx + 0) (.cells [] 32 .fix)))).nx + 3) (.cells [] 3 .fix)))))))))))
  (vcond (eqI (Int.ofNat n2) 0)
  (Q (.tuple #[(.int .i64 0), (.int .i64 5)]) h)
  (isNat (wrapF .i64 ((Int.ofNat n2) - 1)) fun n239' =>
  isAddr a2 fun b240' f241' =>
  vreq (Nat.blt n239' n2)
  (∃ a242' n243' c244', readAt h b240' (f241' + (n239' * 1)) 1 = some [(.slice a242' n243' c244')] ∧
  vcond (ltI 0 (Int.ofNat n243'))
  (Q (.tuple #[(.int .i64 0), (.int .i64 5)]) h)
  (Q (.tuple #[(.int .i64 0), (.int .i64 0)]) h))))
theorem I42_1.of {O Q} (x0_0 a0_1 n0_1 c0_1 a1 n1 c1 a2 n2 c2 b3 f3 x6 x7 x10) {h : Hp} (hh : T42_1 O Q x0_0 a0_1 n0_1 c0_1 a1 n1 c1 a2 n2 c2 b3 f3 x6 x7 x10 h) : I42_1 O Q x0_0 a0_1 n0_1 c0_1 a1 n1 c1 a2 n2 c2 b3 f3 x6 x7 x10 h :=
  RKL.of (tb := lv42) (cuts := []) 500 fun _ => Eq.mp (by kernel_rfl) hh
/-! sward/sat.asked -/
noncomputable def b78 : Code := (Tryd.f78.body).getD .skip
def lv78 : List (Nat × List Nat) := []
def T78 (O : CallF) (Q : Value → Hp → Prop) (x0_0 : Int) (a0_1 : Option Addr) (n0_1 : Nat) (c0_1 : Nat) (a1 : Option Addr) (n1 : Nat) (c1 : Nat) (h : Hp) : Prop :=
  ∃ x1', ∃ a2' n3' c4', readAt (h.add (.cells [(.int .i64 x0_0), (.slice a0_1 n0_1 c0_1)] 30 .fix)) h.nx 0 2 = some [(.int .i64 x1'), (.slice a2' n3' c4')] ∧
  ∃ x5', ∃ h6', EvC Tryd.prog O 31 [(.agg #[(.int .i64 x1'), (.slice a2' n3' c4')])] (h.add (.cells [(.int .i64 x0_0), (.slice a0_1 n0_1 c0_1)] 30 .fix)) (.int .i64 x5') h6' ∧
  vcond (eqI x5' 0)
  (∃ x7', readAt h6' h.nx 0 1 = some [(.int .i64 x7')] ∧
  ∃ q8', ∃ h9', EvC Tryd.prog O 87 [(.slice a1 n1 c1), (.int .i64 x7')] h6' (.bool q8') h9' ∧
  vcond (!q8')
  (Q (.int .i64 2) h9')
  (Q (.int .i64 x5') h9'))
  (Q (.int .i64 x5') h6')
theorem rk78 {O Q} (x0_0 a0_1 n0_1 c0_1 a1 n1 c1) {h : Hp} (hO : O 78 [(.agg #[(.int .i64 x0_0), (.slice a0_1 n0_1 c0_1)]), (.slice a1 n1 c1)] h = none) (hh : T78 O Q x0_0 a0_1 n0_1 c0_1 a1 n1 c1 h) : Ret Tryd.prog O 78 [(.agg #[(.int .i64 x0_0), (.slice a0_1 n0_1 c0_1)]), (.slice a1 n1 c1)] h Q :=
  .of (c := b78) Tryd.func78 (by kernel_rfl) hO (V_ok (tb := lv78) (cuts := []) 500 (Eq.mp (by kernel_rfl) hh))
/-! (*sward/sat.base).from -/
noncomputable def b89 : Code := (Tryd.f89.body).getD .skip
noncomputable def stk89_0 : List KI := [.code (sub [1, 1, 0, 1, 0] b89), .blk 0, .code (sub [1, 1, 1] b89)]
noncomputable def stk89_1 : List KI := [.code (sub [1, 1, 0, 1, 0, 0, 1, 1, 0, 0, 1, 1, 0] b89), .blk 2, .blk 1, .code (sub [1, 1, 0, 1, 0, 0, 1, 1, 1] b89), .code (sub [1, 1, 0, 1, 0] b89), .blk 0, .code (sub [1, 1, 1] b89)]
def lv89 : List (Nat × List Nat) := [(0, [0, 4, 5, 6, 18, 19, 20]), (2, [0, 4, 5, 6, 18, 19, 20, 24, 25, 26])]
def I89_0 (O : CallF) (Q : Value → Hp → Prop) (b0 : Nat) (f0 : Nat) (a1 : Option Addr) (n1 : Nat) (c1 : Nat) (b4 : Nat) (f4 : Nat) (q5 : Bool) (b6 : Nat) (f6 : Nat) (a18 : Option Addr) (n18 : Nat) (c18 : Nat) (x20 : Int) (h : Hp) : Prop := RKL Tryd.prog O Tryd.f89 stk89_0 47 [0, 4, 5, 6, 18, 19, 20] [(.pointer (some ⟨b0, f0, none⟩)), (.pointer (some ⟨b4, f4, none⟩)), (.bool q5), (.pointer (some ⟨b6, f6, none⟩)), (.slice a18 n18 c18), (.int .i64 2), (.int .i64 x20)] h Q
def I89_1 (O : CallF) (Q : Value → Hp → Prop) (b0 : Nat) (f0 : Nat) (a1 : Option Addr) (n1 : Nat) (c1 : Nat) (b4 : Nat) (f4 : Nat) (q5 : Bool) (b6 : Nat) (f6 : Nat) (a18 : Option Addr) (n18 : Nat) (c18 : Nat) (x20 : Int) (a24 : Option Addr) (n24 : Nat) (c24 : Nat) (x25 : Int) (x26 : Int) (h : Hp) : Prop := RKL Tryd.prog O Tryd.f89 stk89_1 47 [0, 4, 5, 6, 18, 19, 20, 24, 25, 26] [(.pointer (some ⟨b0, f0, none⟩)), (.pointer (some ⟨b4, f4, none⟩)), (.bool q5), (.pointer (some ⟨b6, f6, none⟩)), (.slice a18 n18 c18), (.int .i64 2), (.int .i64 x20), (.slice a24 n24 c24), (.int .i64 x25), (.int .i64 x26)] h Q
def T89 (O : CallF) (Q : Value → Hp → Prop) (b0 : Nat) (f0 : Nat) (a1 : Option Addr) (n1 : Nat) (c1 : Nat) (h : Hp) : Prop :=
  ∃ a1' n2' c3', readAt ((h.add (.cells [(.int .u32 0), (.int .u32 0)] 102 .fix)).add (.cells [(.int .u32 0), (.int .u32 0)] 102 .fix)) b0 (f0 + 2) 1 = some [(.slice a1' n2' c3')] ∧
  I89_0 O Q b0 f0 a1 n1 c1 h.nx 0 false (h.add (.cells [(.int .u32 0), (.int .u32 0)] 102 .fix)).nx 0 (some ⟨((h.add (.cells [(.int .u32 0), (.int .u32 0)] 102 .fix)).add (.cells [(.int .u32 0), (.int .u32 0)] 102 .fix)).nx, 0, none⟩) 2 2 0 (((h.add (.cells [(.int .u32 0), (.int .u32 0)] 102 .fix)).add (.cells [(.int .u32 0), (.int .u32 0)] 102 .fix)).add (.cells [(.slice a1' n2' c3'), (.slice a1 n1 c1)] 32 .fix))
theorem rk89 {O Q} (b0 f0 a1 n1 c1) {h : Hp} (hO : O 89 [(.pointer (some ⟨b0, f0, none⟩)), (.slice a1 n1 c1)] h = none) (hh : T89 O Q b0 f0 a1 n1 c1 h) : Ret Tryd.prog O 89 [(.pointer (some ⟨b0, f0, none⟩)), (.slice a1 n1 c1)] h Q :=
  .of (c := b89) Tryd.func89 (by kernel_rfl) hO (V_ok (tb := lv89) (cuts := []) 500 (Eq.mp (by kernel_rfl) hh))
def T89_0 (O : CallF) (Q : Value → Hp → Prop) (b0 : Nat) (f0 : Nat) (a1 : Option Addr) (n1 : Nat) (c1 : Nat) (b4 : Nat) (f4 : Nat) (q5 : Bool) (b6 : Nat) (f6 : Nat) (a18 : Option Addr) (n18 : Nat) (c18 : Nat) (x20 : Int) (h : Hp) : Prop :=
  vcond (ltI x20 2)
  (isNat x20 fun n101' =>
  isAddr a18 fun b102' f103' =>
  vreq (Nat.blt n101' n18)
  (∃ a104' n105' c106', readAt h b102' (f103' + (n101' * 1)) 1 = some [(.slice a104' n105' c106')] ∧
  I89_1 O Q b0 f0 a1 n1 c1 b4 f4 q5 b6 f6 a18 n18 c18 x20 a104' n105' c106' (Int.ofNat n105') 0 h))
  (∃ x107', ∃ x108', readAt h b6 f6 2 = some [(.int .u32 x107'), (.int .u32 x108')] ∧
  ∃ x109', ∃ x110', ∃ q111', ∃ h112', EvC Tryd.prog O 119 [(.pointer (some ⟨b0, f0, none⟩)), (.agg #[(.int .u32 x107'), (.int .u32 x108')])] h (.tuple #[(.agg #[(.int .u32 x109'), (.int .u32 x110')]), (.bool q111')]) h112' ∧
  vreq (canW h112' b4 f4 [(.int .u32 x109'), (.int .u32 x110')])
  (∃ x113', ∃ x114', readAt (h112'.wr b4 f4 [(.int .u32 x109'), (.int .u32 x110')]) b4 f4 2 = some [(.int .u32 x113'), (.int .u32 x114')] ∧
  Q (.tuple #[(.agg #[(.int .u32 x113'), (.int .u32 x114')]), (.bool q111')]) (h112'.wr b4 f4 [(.int .u32 x109'), (.int .u32 x110')])))
theorem I89_0.of {O Q} (b0 f0 a1 n1 c1 b4 f4 q5 b6 f6 a18 n18 c18 x20) {h : Hp} (hh : T89_0 O Q b0 f0 a1 n1 c1 b4 f4 q5 b6 f6 a18 n18 c18 x20 h) : I89_0 O Q b0 f0 a1 n1 c1 b4 f4 q5 b6 f6 a18 n18 c18 x20 h :=
  RKL.of (tb := lv89) (cuts := []) 500 fun _ => Eq.mp (by kernel_rfl) hh
def T89_1 (O : CallF) (Q : Value → Hp → Prop) (b0 : Nat) (f0 : Nat) (a1 : Option Addr) (n1 : Nat) (c1 : Nat) (b4 : Nat) (f4 : Nat) (q5 : Bool) (b6 : Nat) (f6 : Nat) (a18 : Option Addr) (n18 : Nat) (c18 : Nat) (x20 : Int) (a24 : Option Addr) (n24 : Nat) (c24 : Nat) (x25 : Int) (x26 : Int) (h : Hp) : Prop :=
  vcond (ltI x26 x25)
  (isNat x26 fun n201' =>
  isAddr a24 fun b202' f203' =>
  vreq (Nat.blt n201' n24)
  (∃ x204', readAt h b202' (f203' + (n201' * 1)) 1 = some [(.int .i64 x204')] ∧
  ∃ x205', ∃ x206', readAt h b6 f6 2 = some [(.int .u32 x205'), (.int .u32 x206')] ∧
  ∃ x207', ∃ x208', ∃ q209', ∃ h210', EvC Tryd.prog O 104 [(.agg #[(.int .u32 x205'), (.int .u32 x206')]), (.int .i64 x204')] h (.tuple #[(.agg #[(.int .u32 x207'), (.int .u32 x208')]), (.bool q209')]) h210' ∧
  vreq (canW (h210'.add (.cells [(.int .u32 0), (.int .u32 0)] 102 .fix)) h210'.nx 0 [(.int .u32 x207'), (.int .u32 x208')])
  (vcond (!q209')
  (∃ x211', ∃ x212', readAt ((h210'.add (.cells [(.int .u32 0), (.int .u32 0)] 102 .fix)).wr h210'.nx 0 [(.int .u32 x207'), (.int .u32 x208')]) h210'.nx 0 2 = some [(.int .u32 x211'), (.int .u32 x212')] ∧
  vreq (canW ((h210'.add (.cells [(.int .u32 0), (.int .u32 0)] 102 .fix)).wr h210'.nx 0 [(.int .u32 x207'), (.int .u32 x208')]) b4 f4 [(.int .u32 x211'), (.int .u32 x212')])
  (∃ x213', ∃ x214', readAt (((h210'.add (.cells [(.int .u32 0), (.int .u32 0)] 102 .fix)).wr h210'.nx 0 [(.int .u32 x207'), (.int .u32 x208')]).wr b4 f4 [(.int .u32 x211'), (.int .u32 x212')]) b4 f4 2 = some [(.int .u32 x213'), (.int .u32 x214')] ∧
  Q (.tuple #[(.agg #[(.int .u32 x213'), (.int .u32 x214')]), (.bool false)]) (((h210'.add (.cells [(.int .u32 0), (.int .u32 0)] 102 .fix)).wr h210'.nx 0 [(.int .u32 x207'), (.int .u32 x208')]).wr b4 f4 [(.int .u32 x211'), (.int .u32 x212')])))
  (∃ x215', ∃ x216', readAt ((h210'.add (.cells [(.int .u32 0), (.int .u32 0)] 102 .fix)).wr h210'.nx 0 [(.int .u32 x207'), (.int .u32 x208')]) h210'.nx 0 2 = some [(.int .u32 x215'), (.int .u32 x216')] ∧
  vreq (canW ((h210'.add (.cells [(.int .u32 0), (.int .u32 0)] 102 .fix)).wr h210'.nx 0 [(.int .u32 x207'), (.int .u32 x208')]) b6 f6 [(.int .u32 x215'), (.int .u32 x216')])
  (I89_1 O Q b0 f0 a1 n1 c1 b4 f4 q5 b6 f6 a18 n18 c18 x20 a24 n24 c24 x25 (wrapF .i64 (x26 + 1)) (((h210'.add (.cells [(.int .u32 0), (.int .u32 0)] 102 .fix)).wr h210'.nx 0 [(.int .u32 x207'), (.int .u32 x208')]).wr b6 f6 [(.int .u32 x215'), (.int .u32 x216')]))))))
  (I89_0 O Q b0 f0 a1 n1 c1 b4 f4 q5 b6 f6 a18 n18 c18 (wrapF .i64 (x20 + 1)) h)
theorem I89_1.of {O Q} (b0 f0 a1 n1 c1 b4 f4 q5 b6 f6 a18 n18 c18 x20 a24 n24 c24 x25 x26) {h : Hp} (hh : T89_1 O Q b0 f0 a1 n1 c1 b4 f4 q5 b6 f6 a18 n18 c18 x20 a24 n24 c24 x25 x26 h) : I89_1 O Q b0 f0 a1 n1 c1 b4 f4 q5 b6 f6 a18 n18 c18 x20 a24 n24 c24 x25 x26 h :=
  RKL.of (tb := lv89) (cuts := []) 500 fun _ => Eq.mp (by kernel_rfl) hh
/-! sward/swardref20.given -/
noncomputable def b91 : Code := (Tryd.f91.body).getD .skip
def lv91 : List (Nat × List Nat) := []
def T91 (O : CallF) (Q : Value → Hp → Prop) (x0_0 : Int) (a0_1 : Option Addr) (n0_1 : Nat) (c0_1 : Nat) (a1 : Option Addr) (n1 : Nat) (c1 : Nat) (h : Hp) : Prop :=
  ∃ x1', ∃ a2' n3' c4', readAt (h.add (.cells [(.int .i64 x0_0), (.slice a0_1 n0_1 c0_1)] 30 .fix)) h.nx 0 2 = some [(.int .i64 x1'), (.slice a2' n3' c4')] ∧
  ∃ q5', ∃ h6', EvC Tryd.prog O 85 [(.agg #[(.int .i64 x1'), (.slice a2' n3' c4')])] (h.add (.cells [(.int .i64 x0_0), (.slice a0_1 n0_1 c0_1)] 30 .fix)) (.bool q5') h6' ∧
  vcond (!q5')
  (Q (.int .i64 2) h6')
  (∃ x7', readAt h6' h.nx 0 1 = some [(.int .i64 x7')] ∧
  ∃ q8', ∃ h9', EvC Tryd.prog O 105 [(.slice a1 n1 c1), (.int .i64 x7')] h6' (.bool q8') h9' ∧
  vcond (!q8')
  (Q (.int .i64 2) h9')
  (Q (.int .i64 0) h9'))
theorem rk91 {O Q} (x0_0 a0_1 n0_1 c0_1 a1 n1 c1) {h : Hp} (hO : O 91 [(.agg #[(.int .i64 x0_0), (.slice a0_1 n0_1 c0_1)]), (.slice a1 n1 c1)] h = none) (hh : T91 O Q x0_0 a0_1 n0_1 c0_1 a1 n1 c1 h) : Ret Tryd.prog O 91 [(.agg #[(.int .i64 x0_0), (.slice a0_1 n0_1 c0_1)]), (.slice a1 n1 c1)] h Q :=
  .of (c := b91) Tryd.func91 (by kernel_rfl) hO (V_ok (tb := lv91) (cuts := []) 500 (Eq.mp (by kernel_rfl) hh))
/-! sward/swardref20.Propagated -/
noncomputable def b92 : Code := (Tryd.f92.body).getD .skip
noncomputable def stk92_0 : List KI := [.code (sub [1, 1, 0, 1, 0] b92), .blk 0, .code (sub [1, 1, 1] b92)]
noncomputable def stk92_1 : List KI := [.code (sub [1, 1, 1, 1, 0, 0] b92), .blk 2, .code (sub [1, 1, 1, 1, 1] b92)]
def lv92 : List (Nat × List Nat) := [(0, [1, 2, 6, 7, 8, 9]), (2, [1, 6, 7, 8, 10, 11])]
def I92_0 (O : CallF) (Q : Value → Hp → Prop) (x0 : Int) (a1 : Option Addr) (n1 : Nat) (c1 : Nat) (a2 : Option Addr) (n2 : Nat) (c2 : Nat) (a6 : Option Addr) (n6 : Nat) (c6 : Nat) (q7 : Bool) (a8 : Option Addr) (n8 : Nat) (c8 : Nat) (x9 : Int) (h : Hp) : Prop := RKL Tryd.prog O Tryd.f92 stk92_0 42 [1, 2, 6, 7, 8, 9] [(.slice a1 n1 c1), (.slice a2 n2 c2), (.slice a6 n6 c6), (.bool q7), (.slice a8 n8 c8), (.int .i64 x9)] h Q
def I92_1 (O : CallF) (Q : Value → Hp → Prop) (x0 : Int) (a1 : Option Addr) (n1 : Nat) (c1 : Nat) (a2 : Option Addr) (n2 : Nat) (c2 : Nat) (a6 : Option Addr) (n6 : Nat) (c6 : Nat) (q7 : Bool) (a8 : Option Addr) (n8 : Nat) (c8 : Nat) (q10 : Bool) (q11 : Bool) (h : Hp) : Prop := RKL Tryd.prog O Tryd.f92 stk92_1 42 [1, 6, 7, 8, 10, 11] [(.slice a1 n1 c1), (.slice a6 n6 c6), (.bool q7), (.slice a8 n8 c8), (.bool q10), (.bool q11)] h Q
def T92 (O : CallF) (Q : Value → Hp → Prop) (x0 : Int) (a1 : Option Addr) (n1 : Nat) (c1 : Nat) (a2 : Option Addr) (n2 : Nat) (c2 : Nat) (h : Hp) : Prop :=
  isNat (wrapF .i64 (x0 + 1)) fun n1' =>
  isNat (wrapF .i64 (x0 + 1)) fun n2' =>
  vreq (Nat.ble n1' n2')
  (vreq (Nat.ble (n2' * 8) 281474976710656)
  (vreq (Nat.blt n2' big)
  (I92_0 O Q x0 a1 n1 c1 a2 n2 c2 none 0 0 false (some ⟨h.nx, 0, none⟩) n1' n2' 0 (h.add (.cells (List.flatten (List.replicate n2' [(.int .i64 0)])) 3 .fix)))))
theorem rk92 {O Q} (x0 a1 n1 c1 a2 n2 c2) {h : Hp} (hO : O 92 [(.int .i64 x0), (.slice a1 n1 c1), (.slice a2 n2 c2)] h = none) (hh : T92 O Q x0 a1 n1 c1 a2 n2 c2 h) : Ret Tryd.prog O 92 [(.int .i64 x0), (.slice a1 n1 c1), (.slice a2 n2 c2)] h Q :=
  .of (c := b92) Tryd.func92 (by kernel_rfl) hO (V_ok (tb := lv92) (cuts := []) 500 (Eq.mp (by kernel_rfl) hh))
def T92_0 (O : CallF) (Q : Value → Hp → Prop) (x0 : Int) (a1 : Option Addr) (n1 : Nat) (c1 : Nat) (a2 : Option Addr) (n2 : Nat) (c2 : Nat) (a6 : Option Addr) (n6 : Nat) (c6 : Nat) (q7 : Bool) (a8 : Option Addr) (n8 : Nat) (c8 : Nat) (x9 : Int) (h : Hp) : Prop :=
  vcond (ltI x9 (Int.ofNat n2))
  (isNat x9 fun n101' =>
  isAddr a2 fun b102' f103' =>
  vreq (Nat.blt n101' n2)
  (∃ x104', readAt h b102' (f103' + (n101' * 1)) 1 = some [(.int .i64 x104')] ∧
  ∃ q105', ∃ h106', EvC Tryd.prog O 121 [(.slice a8 n8 c8), (.int .i64 x104')] h (.bool q105') h106' ∧
  vcond (!q105')
  (Q (.tuple #[(.slice none 0 0), (.bool false)]) h106')
  (I92_0 O Q x0 a1 n1 c1 a2 n2 c2 a6 n6 c6 q7 a8 n8 c8 (wrapF .i64 (x9 + 1)) h106')))
  (I92_1 O Q x0 a1 n1 c1 a2 n2 c2 a6 n6 c6 q7 a8 n8 c8 true false h)
theorem I92_0.of {O Q} (x0 a1 n1 c1 a2 n2 c2 a6 n6 c6 q7 a8 n8 c8 x9) {h : Hp} (hh : T92_0 O Q x0 a1 n1 c1 a2 n2 c2 a6 n6 c6 q7 a8 n8 c8 x9 h) : I92_0 O Q x0 a1 n1 c1 a2 n2 c2 a6 n6 c6 q7 a8 n8 c8 x9 h :=
  RKL.of (tb := lv92) (cuts := []) 500 fun _ => Eq.mp (by kernel_rfl) hh
def T92_1 (O : CallF) (Q : Value → Hp → Prop) (x0 : Int) (a1 : Option Addr) (n1 : Nat) (c1 : Nat) (a2 : Option Addr) (n2 : Nat) (c2 : Nat) (a6 : Option Addr) (n6 : Nat) (c6 : Nat) (q7 : Bool) (a8 : Option Addr) (n8 : Nat) (c8 : Nat) (q10 : Bool) (q11 : Bool) (h : Hp) : Prop :=
  vcond q10
  (vcond (!q11)
  (∃ q201', ∃ q202', ∃ h203', EvC Tryd.prog O 122 [(.slice a8 n8 c8), (.slice a1 n1 c1)] h (.tuple #[(.bool q201'), (.bool q202')]) h203' ∧
  I92_1 O Q x0 a1 n1 c1 a2 n2 c2 a6 n6 c6 q7 a8 n8 c8 q201' q202' h203')
  (Q (.tuple #[(.slice a8 n8 c8), (.bool (!q11))]) h))
  (Q (.tuple #[(.slice a8 n8 c8), (.bool (!q11))]) h)
theorem I92_1.of {O Q} (x0 a1 n1 c1 a2 n2 c2 a6 n6 c6 q7 a8 n8 c8 q10 q11) {h : Hp} (hh : T92_1 O Q x0 a1 n1 c1 a2 n2 c2 a6 n6 c6 q7 a8 n8 c8 q10 q11 h) : I92_1 O Q x0 a1 n1 c1 a2 n2 c2 a6 n6 c6 q7 a8 n8 c8 q10 q11 h :=
  RKL.of (tb := lv92) (cuts := []) 500 fun _ => Eq.mp (by kernel_rfl) hh
/-! sward/swardref20.literals -/
noncomputable def b93 : Code := (Tryd.f93.body).getD .skip
noncomputable def stk93_0 : List KI := [.code (sub [1, 1, 0, 1, 0] b93), .blk 0, .code (sub [1, 1, 1] b93)]
def lv93 : List (Nat × List Nat) := [(0, [0, 2, 3, 4])]
def I93_0 (O : CallF) (Q : Value → Hp → Prop) (a0 : Option Addr) (n0 : Nat) (c0 : Nat) (a3 : Option Addr) (n3 : Nat) (c3 : Nat) (x4 : Int) (h : Hp) : Prop := RKL Tryd.prog O Tryd.f93 stk93_0 26 [0, 2, 3, 4] [(.slice a0 n0 c0), (.slice none 0 0), (.slice a3 n3 c3), (.int .i64 x4)] h Q
def T93 (O : CallF) (Q : Value → Hp → Prop) (a0 : Option Addr) (n0 : Nat) (c0 : Nat) (h : Hp) : Prop :=
  I93_0 O Q a0 n0 c0 none 0 0 1 h
theorem rk93 {O Q} (a0 n0 c0) {h : Hp} (hO : O 93 [(.slice a0 n0 c0)] h = none) (hh : T93 O Q a0 n0 c0 h) : Ret Tryd.prog O 93 [(.slice a0 n0 c0)] h Q :=
  .of (c := b93) Tryd.func93 (by kernel_rfl) hO (V_ok (tb := lv93) (cuts := []) 500 (Eq.mp (by kernel_rfl) hh))
def T93_0 (O : CallF) (Q : Value → Hp → Prop) (a0 : Option Addr) (n0 : Nat) (c0 : Nat) (a3 : Option Addr) (n3 : Nat) (c3 : Nat) (x4 : Int) (h : Hp) : Prop :=
  vcond (ltI x4 (Int.ofNat n0))
  (isNat x4 fun n101' =>
  isAddr a0 fun b102' f103' =>
  vreq (Nat.blt n101' n0)
  (∃ x104', readAt h b102' (f103' + (n101' * 1)) 1 = some [(.int .i64 x104')] ∧
  vcond (!(eqI x104' 0))
  (isNat x4 fun n105' =>
  isAddr a0 fun b106' f107' =>
  vreq (Nat.blt n105' n0)
  (∃ x108', readAt h b106' (f107' + (n105' * 1)) 1 = some [(.int .i64 x108')] ∧
  ∃ a109' n110' c111' h112', appendV Tryd.prog (h.add (.cells [(.int .i64 (wrapF .i64 (x4 * x108')))] 3 .fix)) 32 32 (.slice a3 n3 c3) (.slice (some ⟨h.nx, 0, none⟩) 1 1) = some (.slice a109' n110' c111', h112') ∧
  I93_0 O Q a0 n0 c0 a109' n110' c111' (wrapF .i64 (x4 + 1)) h112'))
  (I93_0 O Q a0 n0 c0 a3 n3 c3 (wrapF .i64 (x4 + 1)) h)))
  (Q (.slice a3 n3 c3) h)
theorem I93_0.of {O Q} (a0 n0 c0 a3 n3 c3 x4) {h : Hp} (hh : T93_0 O Q a0 n0 c0 a3 n3 c3 x4 h) : I93_0 O Q a0 n0 c0 a3 n3 c3 x4 h :=
  RKL.of (tb := lv93) (cuts := []) 500 fun _ => Eq.mp (by kernel_rfl) hh
/-! (*sward/sat.base).clashes -/
noncomputable def b95 : Code := (Tryd.f95.body).getD .skip
def lv95 : List (Nat × List Nat) := []
def T95 (O : CallF) (Q : Value → Hp → Prop) (b0 : Nat) (f0 : Nat) (a1 : Option Addr) (n1 : Nat) (c1 : Nat) (h : Hp) : Prop :=
  ∃ x1', ∃ x2', ∃ q3', ∃ h4', EvC Tryd.prog O 89 [(.pointer (some ⟨b0, f0, none⟩)), (.slice a1 n1 c1)] h (.tuple #[(.agg #[(.int .u32 x1'), (.int .u32 x2')]), (.bool q3')]) h4' ∧
  vreq (canW (h4'.add (.cells [(.int .u32 0), (.int .u32 0)] 102 .fix)) h4'.nx 0 [(.int .u32 x1'), (.int .u32 x2')])
  (Q (.bool (!q3')) ((h4'.add (.cells [(.int .u32 0), (.int .u32 0)] 102 .fix)).wr h4'.nx 0 [(.int .u32 x1'), (.int .u32 x2')]))
theorem rk95 {O Q} (b0 f0 a1 n1 c1) {h : Hp} (hO : O 95 [(.pointer (some ⟨b0, f0, none⟩)), (.slice a1 n1 c1)] h = none) (hh : T95 O Q b0 f0 a1 n1 c1 h) : Ret Tryd.prog O 95 [(.pointer (some ⟨b0, f0, none⟩)), (.slice a1 n1 c1)] h Q :=
  .of (c := b95) Tryd.func95 (by kernel_rfl) hO (V_ok (tb := lv95) (cuts := []) 500 (Eq.mp (by kernel_rfl) hh))
/-! sward/swardref20.contrary -/
noncomputable def b102 : Code := (Tryd.f102.body).getD .skip
noncomputable def stk102_0 : List KI := [.code (sub [1, 1, 0, 1, 0] b102), .blk 0, .code (sub [1, 1, 1] b102)]
noncomputable def stk102_1 : List KI := [.code (sub [1, 1, 0, 1, 0, 0, 1, 0, 0, 1, 0] b102), .blk 2, .blk 1, .code (sub [1, 1, 0, 1, 0, 0, 1, 1] b102), .code (sub [1, 1, 0, 1, 0] b102), .blk 0, .code (sub [1, 1, 1] b102)]
def lv102 : List (Nat × List Nat) := [(0, [0, 2, 3, 4]), (2, [0, 2, 3, 4, 5])]
def I102_0 (O : CallF) (Q : Value → Hp → Prop) (a0 : Option Addr) (n0 : Nat) (c0 : Nat) (a3 : Option Addr) (n3 : Nat) (c3 : Nat) (x4 : Int) (h : Hp) : Prop := RKL Tryd.prog O Tryd.f102 stk102_0 32 [0, 2, 3, 4] [(.slice a0 n0 c0), (.slice none 0 0), (.slice a3 n3 c3), (.int .i64 x4)] h Q
def I102_1 (O : CallF) (Q : Value → Hp → Prop) (a0 : Option Addr) (n0 : Nat) (c0 : Nat) (a3 : Option Addr) (n3 : Nat) (c3 : Nat) (x4 : Int) (x5 : Int) (h : Hp) : Prop := RKL Tryd.prog O Tryd.f102 stk102_1 32 [0, 2, 3, 4, 5] [(.slice a0 n0 c0), (.slice none 0 0), (.slice a3 n3 c3), (.int .i64 x4), (.int .i64 x5)] h Q
def T102 (O : CallF) (Q : Value → Hp → Prop) (a0 : Option Addr) (n0 : Nat) (c0 : Nat) (h : Hp) : Prop :=
  I102_0 O Q a0 n0 c0 none 0 0 1 h
theorem rk102 {O Q} (a0 n0 c0) {h : Hp} (hO : O 102 [(.slice a0 n0 c0)] h = none) (hh : T102 O Q a0 n0 c0 h) : Ret Tryd.prog O 102 [(.slice a0 n0 c0)] h Q :=
  .of (c := b102) Tryd.func102 (by kernel_rfl) hO (V_ok (tb := lv102) (cuts := []) 500 (Eq.mp (by kernel_rfl) hh))
def T102_0 (O : CallF) (Q : Value → Hp → Prop) (a0 : Option Addr) (n0 : Nat) (c0 : Nat) (a3 : Option Addr) (n3 : Nat) (c3 : Nat) (x4 : Int) (h : Hp) : Prop :=
  vcond (!(ltI 30 x4))
  (I102_1 O Q a0 n0 c0 a3 n3 c3 x4 0 h)
  (Q (.slice a3 n3 c3) h)
theorem I102_0.of {O Q} (a0 n0 c0 a3 n3 c3 x4) {h : Hp} (hh : T102_0 O Q a0 n0 c0 a3 n3 c3 x4 h) : I102_0 O Q a0 n0 c0 a3 n3 c3 x4 h :=
  RKL.of (tb := lv102) (cuts := []) 500 fun _ => Eq.mp (by kernel_rfl) hh
def T102_1 (O : CallF) (Q : Value → Hp → Prop) (a0 : Option Addr) (n0 : Nat) (c0 : Nat) (a3 : Option Addr) (n3 : Nat) (c3 : Nat) (x4 : Int) (x5 : Int) (h : Hp) : Prop :=
  vcond (ltI x5 (Int.ofNat n0))
  (isNat x5 fun n201' =>
  isAddr a0 fun b202' f203' =>
  vreq (Nat.blt n201' n0)
  (∃ x204', readAt h b202' (f203' + (n201' * 1)) 1 = some [(.int .i64 x204')] ∧
  ∃ x205', ∃ h206', EvC Tryd.prog O 98 [(.int .i64 x204')] h (.int .i64 x205') h206' ∧
  vcond (eqI x205' x4)
  (isNat x5 fun n207' =>
  isAddr a0 fun b208' f209' =>
  vreq (Nat.blt n207' n0)
  (∃ x210', readAt h206' b208' (f209' + (n207' * 1)) 1 = some [(.int .i64 x210')] ∧
  ∃ a211' n212' c213' h214', appendV Tryd.prog (h206'.add (.cells [(.int .i64 (wrapF .i64 (0 - x210')))] 3 .fix)) 32 32 (.slice a3 n3 c3) (.slice (some ⟨h206'.nx, 0, none⟩) 1 1) = some (.slice a211' n212' c213', h214') ∧
  I102_1 O Q a0 n0 c0 a211' n212' c213' x4 (wrapF .i64 (x5 + 1)) h214'))
  (I102_1 O Q a0 n0 c0 a3 n3 c3 x4 (wrapF .i64 (x5 + 1)) h206')))
  (I102_0 O Q a0 n0 c0 a3 n3 c3 (wrapF .i64 (x4 + 1)) h)
theorem I102_1.of {O Q} (a0 n0 c0 a3 n3 c3 x4 x5) {h : Hp} (hh : T102_1 O Q a0 n0 c0 a3 n3 c3 x4 x5 h) : I102_1 O Q a0 n0 c0 a3 n3 c3 x4 x5 h :=
  RKL.of (tb := lv102) (cuts := []) 500 fun _ => Eq.mp (by kernel_rfl) hh
/-! (*sward/sat.base).spread -/
noncomputable def b119 : Code := (Tryd.f119.body).getD .skip
noncomputable def stk119_0 : List KI := [.code (sub [1, 0, 1, 0] b119), .blk 0, .scp (sub [1, 0] b119)]
noncomputable def stk119_1 : List KI := [.code (sub [1, 0, 1, 0, 0, 0, 0, 1, 0] b119), .blk 2, .code (sub [1, 0, 1, 0, 0, 0, 1] b119), .blk 1, .code (sub [1, 0, 1, 0] b119), .blk 0, .scp (sub [1, 0] b119)]
def lv119 : List (Nat × List Nat) := [(0, [0, 3, 4, 5]), (2, [0, 3, 4, 5, 13, 14, 15])]
def I119_0 (O : CallF) (Q : Value → Hp → Prop) (b0 : Nat) (f0 : Nat) (x1_0 : Int) (x1_1 : Int) (b3 : Nat) (f3 : Nat) (b4 : Nat) (f4 : Nat) (q5 : Bool) (h : Hp) : Prop := RKL Tryd.prog O Tryd.f119 stk119_0 62 [0, 3, 4, 5] [(.pointer (some ⟨b0, f0, none⟩)), (.pointer (some ⟨b3, f3, none⟩)), (.pointer (some ⟨b4, f4, none⟩)), (.bool q5)] h Q
def I119_1 (O : CallF) (Q : Value → Hp → Prop) (b0 : Nat) (f0 : Nat) (x1_0 : Int) (x1_1 : Int) (b3 : Nat) (f3 : Nat) (b4 : Nat) (f4 : Nat) (q5 : Bool) (a13 : Option Addr) (n13 : Nat) (c13 : Nat) (x14 : Int) (x15 : Int) (h : Hp) : Prop := RKL Tryd.prog O Tryd.f119 stk119_1 62 [0, 3, 4, 5, 13, 14, 15] [(.pointer (some ⟨b0, f0, none⟩)), (.pointer (some ⟨b3, f3, none⟩)), (.pointer (some ⟨b4, f4, none⟩)), (.bool q5), (.slice a13 n13 c13), (.int .i64 x14), (.int .i64 x15)] h Q
def T119 (O : CallF) (Q : Value → Hp → Prop) (b0 : Nat) (f0 : Nat) (x1_0 : Int) (x1_1 : Int) (h : Hp) : Prop :=
  I119_0 O Q b0 f0 x1_0 x1_1 h.nx 0 (h.add (.cells [(.int .u32 x1_0), (.int .u32 x1_1)] 102 .fix)).nx 0 false ((h.add (.cells [(.int .u32 x1_0), (.int .u32 x1_1)] 102 .fix)).add (.cells [(.int .u32 0), (.int .u32 0)] 102 .fix))
theorem rk119 {O Q} (b0 f0 x1_0 x1_1) {h : Hp} (hO : O 119 [(.pointer (some ⟨b0, f0, none⟩)), (.agg #[(.int .u32 x1_0), (.int .u32 x1_1)])] h = none) (hh : T119 O Q b0 f0 x1_0 x1_1 h) : Ret Tryd.prog O 119 [(.pointer (some ⟨b0, f0, none⟩)), (.agg #[(.int .u32 x1_0), (.int .u32 x1_1)])] h Q :=
  .of (c := b119) Tryd.func119 (by kernel_rfl) hO (V_ok (tb := lv119) (cuts := []) 500 (Eq.mp (by kernel_rfl) hh))
def T119_0 (O : CallF) (Q : Value → Hp → Prop) (b0 : Nat) (f0 : Nat) (x1_0 : Int) (x1_1 : Int) (b3 : Nat) (f3 : Nat) (b4 : Nat) (f4 : Nat) (q5 : Bool) (h : Hp) : Prop :=
  ∃ a101' n102' c103', readAt h b0 (f0 + 1) 1 = some [(.slice a101' n102' c103')] ∧
  I119_1 O Q b0 f0 x1_0 x1_1 b3 f3 b4 f4 q5 a101' n102' c103' (Int.ofNat n102') 0 h
theorem I119_0.of {O Q} (b0 f0 x1_0 x1_1 b3 f3 b4 f4 q5) {h : Hp} (hh : T119_0 O Q b0 f0 x1_0 x1_1 b3 f3 b4 f4 q5 h) : I119_0 O Q b0 f0 x1_0 x1_1 b3 f3 b4 f4 q5 h :=
  RKL.of (tb := lv119) (cuts := []) 500 fun _ => Eq.mp (by kernel_rfl) hh
def T119_1 (O : CallF) (Q : Value → Hp → Prop) (b0 : Nat) (f0 : Nat) (x1_0 : Int) (x1_1 : Int) (b3 : Nat) (f3 : Nat) (b4 : Nat) (f4 : Nat) (q5 : Bool) (a13 : Option Addr) (n13 : Nat) (c13 : Nat) (x14 : Int) (x15 : Int) (h : Hp) : Prop :=
  vcond (ltI x15 x14)
  (isNat x15 fun n201' =>
  isAddr a13 fun b202' f203' =>
  vreq (Nat.blt n201' n13)
  (∃ x204', ∃ x205', readAt h b202' (f203' + (n201' * 2)) 2 = some [(.int .u32 x204'), (.int .u32 x205')] ∧
  vreq (canW (h.add (.cells [(.int .u32 0), (.int .u32 0)] 130 .fix)) h.nx 0 [(.int .u32 x204'), (.int .u32 x205')])
  (∃ x206', readAt ((h.add (.cells [(.int .u32 0), (.int .u32 0)] 130 .fix)).wr h.nx 0 [(.int .u32 x204'), (.int .u32 x205')]) h.nx 0 1 = some [(.int .u32 x206')] ∧
  ∃ x207', readAt ((h.add (.cells [(.int .u32 0), (.int .u32 0)] 130 .fix)).wr h.nx 0 [(.int .u32 x204'), (.int .u32 x205')]) b3 (f3 + 0) 1 = some [(.int .u32 x207')] ∧
  vreq (inD 4294967296 x206')
  (vreq (inD 4294967296 x207')
  (∃ x208', readAt ((h.add (.cells [(.int .u32 0), (.int .u32 0)] 130 .fix)).wr h.nx 0 [(.int .u32 x204'), (.int .u32 x205')]) h.nx 1 1 = some [(.int .u32 x208')] ∧
  ∃ x209', readAt ((h.add (.cells [(.int .u32 0), (.int .u32 0)] 130 .fix)).wr h.nx 0 [(.int .u32 x204'), (.int .u32 x205')]) b3 (f3 + 1) 1 = some [(.int .u32 x209')] ∧
  vreq (inD 4294967296 x208')
  (vreq (inD 4294967296 x209')
  (vreq (inD 4294967296 (landI x206' x207'))
  (vreq (inD 4294967296 (landI x208' x209'))
  (vcond (!(eqI (lorI (landI x206' x207') (landI x208' x209')) 0))
  (I119_1 O Q b0 f0 x1_0 x1_1 b3 f3 b4 f4 q5 a13 n13 c13 x14 (wrapF .i64 (x15 + 1)) ((h.add (.cells [(.int .u32 0), (.int .u32 0)] 130 .fix)).wr h.nx 0 [(.int .u32 x204'), (.int .u32 x205')]))
  (∃ x210', readAt (((h.add (.cells [(.int .u32 0), (.int .u32 0)] 130 .fix)).wr h.nx 0 [(.int .u32 x204'), (.int .u32 x205')]).rsv 12) h.nx 0 1 = some [(.int .u32 x210')] ∧
  ∃ x211', readAt (((h.add (.cells [(.int .u32 0), (.int .u32 0)] 130 .fix)).wr h.nx 0 [(.int .u32 x204'), (.int .u32 x205')]).rsv 12) b3 (f3 + 1) 1 = some [(.int .u32 x211')] ∧
  vreq (inD 4294967296 x210')
  (vreq (inD 4294967296 x211')
  (∃ x212', readAt (((h.add (.cells [(.int .u32 0), (.int .u32 0)] 130 .fix)).wr h.nx 0 [(.int .u32 x204'), (.int .u32 x205')]).rsv 12) h.nx 1 1 = some [(.int .u32 x212')] ∧
  ∃ x213', readAt (((h.add (.cells [(.int .u32 0), (.int .u32 0)] 130 .fix)).wr h.nx 0 [(.int .u32 x204'), (.int .u32 x205')]).rsv 12) b3 (f3 + 0) 1 = some [(.int .u32 x213')] ∧
  vreq (inD 4294967296 x212')
  (vreq (inD 4294967296 x213')
  (vreq (inD 4294967296 (andnI x210' x211'))
  (vreq (inD 4294967296 (andnI x212' x213'))
  (∃ x214', ∃ h215', EvC Tryd.prog O 138 [(.int .u32 (lorI (andnI x210' x211') (andnI x212' x213')))] (((h.add (.cells [(.int .u32 0), (.int .u32 0)] 130 .fix)).wr h.nx 0 [(.int .u32 x204'), (.int .u32 x205')]).rsv 12) (.int .i64 x214') h215' ∧
  vcond (eqI x214' 0)
  (∃ x216', ∃ x217', readAt h215' b3 f3 2 = some [(.int .u32 x216'), (.int .u32 x217')] ∧
  vreq (canW h215' b4 f4 [(.int .u32 x216'), (.int .u32 x217')])
  (∃ x218', ∃ x219', readAt (h215'.wr b4 f4 [(.int .u32 x216'), (.int .u32 x217')]) b4 f4 2 = some [(.int .u32 x218'), (.int .u32 x219')] ∧
  Q (.tuple #[(.agg #[(.int .u32 x218'), (.int .u32 x219')]), (.bool false)]) (h215'.wr b4 f4 [(.int .u32 x216'), (.int .u32 x217')])))
  (vcond (eqI x214' 1)
  (∃ x220', readAt h215' b3 (f3 + 0) 1 = some [(.int .u32 x220')] ∧
  vreq (inD 4294967296 x220')
  (vreq (inD 4294967296 (andnI x210' x211'))
  (vreq (canW h215' b3 (f3 + 0) [(.int .u32 (lorI x220' (andnI x210' x211')))])
  (∃ x221', readAt (h215'.wr b3 (f3 + 0) [(.int .u32 (lorI x220' (andnI x210' x211')))]) b3 (f3 + 1) 1 = some [(.int .u32 x221')] ∧
  vreq (inD 4294967296 x221')
  (vreq (inD 4294967296 (andnI x212' x213'))
  (vreq (canW (h215'.wr b3 (f3 + 0) [(.int .u32 (lorI x220' (andnI x210' x211')))]) b3 (f3 + 1) [(.int .u32 (lorI x221' (andnI x212' x213')))])
  (I119_0 O Q b0 f0 x1_0 x1_1 b3 f3 b4 f4 q5 ((h215'.wr b3 (f3 + 0) [(.int .u32 (lorI x220' (andnI x210' x211')))]).wr b3 (f3 + 1) [(.int .u32 (lorI x221' (andnI x212' x213')))]))))))))
  (I119_1 O Q b0 f0 x1_0 x1_1 b3 f3 b4 f4 q5 a13 n13 c13 x14 (wrapF .i64 (x15 + 1)) h215'))))))))))))))))))
  (∃ x222', ∃ x223', readAt h b3 f3 2 = some [(.int .u32 x222'), (.int .u32 x223')] ∧
  vreq (canW h b4 f4 [(.int .u32 x222'), (.int .u32 x223')])
  (∃ x224', ∃ x225', readAt (h.wr b4 f4 [(.int .u32 x222'), (.int .u32 x223')]) b4 f4 2 = some [(.int .u32 x224'), (.int .u32 x225')] ∧
  Q (.tuple #[(.agg #[(.int .u32 x224'), (.int .u32 x225')]), (.bool true)]) (h.wr b4 f4 [(.int .u32 x222'), (.int .u32 x223')])))
theorem I119_1.of {O Q} (b0 f0 x1_0 x1_1 b3 f3 b4 f4 q5 a13 n13 c13 x14 x15) {h : Hp} (hh : T119_1 O Q b0 f0 x1_0 x1_1 b3 f3 b4 f4 q5 a13 n13 c13 x14 x15 h) : I119_1 O Q b0 f0 x1_0 x1_1 b3 f3 b4 f4 q5 a13 n13 c13 x14 x15 h :=
  RKL.of (tb := lv119) (cuts := []) 500 fun _ => Eq.mp (by kernel_rfl) hh
/-! sward/swardref20.lay -/
noncomputable def b121 : Code := (Tryd.f121.body).getD .skip
def lv121 : List (Nat × List Nat) := []
def T121 (O : CallF) (Q : Value → Hp → Prop) (a0 : Option Addr) (n0 : Nat) (c0 : Nat) (x1 : Int) (h : Hp) : Prop :=
  ∃ x1', ∃ h2', EvC Tryd.prog O 118 [(.slice a0 n0 c0), (.int .i64 x1)] h (.int .i64 x1') h2' ∧
  vcond (ltI x1' 0)
  (Q (.bool false) h2')
  (∃ x3', ∃ h4', EvC Tryd.prog O 98 [(.int .i64 x1)] h2' (.int .i64 x3') h4' ∧
  isNat x3' fun n5' =>
  isAddr a0 fun b6' f7' =>
  vreq (Nat.blt n5' n0)
  (vreq (canW h4' b6' (f7' + (n5' * 1)) [(.int .i64 1)])
  (vcond (ltI x1 0)
  (isNat (wrapF .i64 (0 - x1)) fun n8' =>
  isAddr a0 fun b9' f10' =>
  vreq (Nat.blt n8' n0)
  (vreq (canW (h4'.wr b6' (f7' + (n5' * 1)) [(.int .i64 1)]) b9' (f10' + (n8' * 1)) [(.int .i64 (-1))])
  (Q (.bool true) ((h4'.wr b6' (f7' + (n5' * 1)) [(.int .i64 1)]).wr b9' (f10' + (n8' * 1)) [(.int .i64 (-1))]))))
  (Q (.bool true) (h4'.wr b6' (f7' + (n5' * 1)) [(.int .i64 1)])))))
theorem rk121 {O Q} (a0 n0 c0 x1) {h : Hp} (hO : O 121 [(.slice a0 n0 c0), (.int .i64 x1)] h = none) (hh : T121 O Q a0 n0 c0 x1 h) : Ret Tryd.prog O 121 [(.slice a0 n0 c0), (.int .i64 x1)] h Q :=
  .of (c := b121) Tryd.func121 (by kernel_rfl) hO (V_ok (tb := lv121) (cuts := []) 500 (Eq.mp (by kernel_rfl) hh))
/-! sward/swardref20.step -/
noncomputable def b122 : Code := (Tryd.f122.body).getD .skip
noncomputable def stk122_0 : List KI := [.code (sub [1, 1, 0, 1, 0] b122), .blk 0, .code (sub [1, 1, 1] b122)]
noncomputable def stk122_1 : List KI := [.code (sub [1, 1, 0, 1, 0, 0, 1, 0, 0, 1, 1, 0, 1, 0] b122), .blk 2, .code (sub [1, 1, 0, 1, 0, 0, 1, 0, 0, 1, 1, 1] b122), .blk 1, .code (sub [1, 1, 0, 1, 0, 0, 1, 1] b122), .code (sub [1, 1, 0, 1, 0] b122), .blk 0, .code (sub [1, 1, 1] b122)]
def lv122 : List (Nat × List Nat) := [(0, [0, 1, 4, 5, 6, 7]), (2, [0, 1, 4, 5, 6, 7, 8, 9, 10, 11])]
def I122_0 (O : CallF) (Q : Value → Hp → Prop) (a0 : Option Addr) (n0 : Nat) (c0 : Nat) (a1 : Option Addr) (n1 : Nat) (c1 : Nat) (q4 : Bool) (q5 : Bool) (q6 : Bool) (x7 : Int) (h : Hp) : Prop := RKL Tryd.prog O Tryd.f122 stk122_0 54 [0, 1, 4, 5, 6, 7] [(.slice a0 n0 c0), (.slice a1 n1 c1), (.bool q4), (.bool q5), (.bool q6), (.int .i64 x7)] h Q
def I122_1 (O : CallF) (Q : Value → Hp → Prop) (a0 : Option Addr) (n0 : Nat) (c0 : Nat) (a1 : Option Addr) (n1 : Nat) (c1 : Nat) (q4 : Bool) (q5 : Bool) (q6 : Bool) (x7 : Int) (a8 : Option Addr) (n8 : Nat) (c8 : Nat) (x9 : Int) (x10 : Int) (x11 : Int) (h : Hp) : Prop := RKL Tryd.prog O Tryd.f122 stk122_1 54 [0, 1, 4, 5, 6, 7, 8, 9, 10, 11] [(.slice a0 n0 c0), (.slice a1 n1 c1), (.bool q4), (.bool q5), (.bool q6), (.int .i64 x7), (.slice a8 n8 c8), (.int .i64 x9), (.int .i64 x10), (.int .i64 x11)] h Q
def T122 (O : CallF) (Q : Value → Hp → Prop) (a0 : Option Addr) (n0 : Nat) (c0 : Nat) (a1 : Option Addr) (n1 : Nat) (c1 : Nat) (h : Hp) : Prop :=
  I122_0 O Q a0 n0 c0 a1 n1 c1 false false false 0 h
theorem rk122 {O Q} (a0 n0 c0 a1 n1 c1) {h : Hp} (hO : O 122 [(.slice a0 n0 c0), (.slice a1 n1 c1)] h = none) (hh : T122 O Q a0 n0 c0 a1 n1 c1 h) : Ret Tryd.prog O 122 [(.slice a0 n0 c0), (.slice a1 n1 c1)] h Q :=
  .of (c := b122) Tryd.func122 (by kernel_rfl) hO (V_ok (tb := lv122) (cuts := []) 500 (Eq.mp (by kernel_rfl) hh))
def T122_0 (O : CallF) (Q : Value → Hp → Prop) (a0 : Option Addr) (n0 : Nat) (c0 : Nat) (a1 : Option Addr) (n1 : Nat) (c1 : Nat) (q4 : Bool) (q5 : Bool) (q6 : Bool) (x7 : Int) (h : Hp) : Prop :=
  vcond (ltI x7 (Int.ofNat n1))
  (isNat x7 fun n101' =>
  isAddr a1 fun b102' f103' =>
  vreq (Nat.blt n101' n1)
  (∃ a104' n105' c106', readAt h b102' (f103' + (n101' * 1)) 1 = some [(.slice a104' n105' c106')] ∧
  I122_1 O Q a0 n0 c0 a1 n1 c1 q4 q5 q6 x7 a104' n105' c106' 0 0 0 h))
  (Q (.tuple #[(.bool q6), (.bool false)]) h)
theorem I122_0.of {O Q} (a0 n0 c0 a1 n1 c1 q4 q5 q6 x7) {h : Hp} (hh : T122_0 O Q a0 n0 c0 a1 n1 c1 q4 q5 q6 x7 h) : I122_0 O Q a0 n0 c0 a1 n1 c1 q4 q5 q6 x7 h :=
  RKL.of (tb := lv122) (cuts := []) 500 fun _ => Eq.mp (by kernel_rfl) hh
def T122_1 (O : CallF) (Q : Value → Hp → Prop) (a0 : Option Addr) (n0 : Nat) (c0 : Nat) (a1 : Option Addr) (n1 : Nat) (c1 : Nat) (q4 : Bool) (q5 : Bool) (q6 : Bool) (x7 : Int) (a8 : Option Addr) (n8 : Nat) (c8 : Nat) (x9 : Int) (x10 : Int) (x11 : Int) (h : Hp) : Prop :=
  vcond (ltI x11 (Int.ofNat n8))
  (isNat x11 fun n201' =>
  isAddr a8 fun b202' f203' =>
  vreq (Nat.blt n201' n8)
  (∃ x204', readAt h b202' (f203' + (n201' * 1)) 1 = some [(.int .i64 x204')] ∧
  ∃ x205', ∃ h206', EvC Tryd.prog O 118 [(.slice a0 n0 c0), (.int .i64 x204')] h (.int .i64 x205') h206' ∧
  vcond (eqI x205' 0)
  (isNat x11 fun n207' =>
  isAddr a8 fun b208' f209' =>
  vreq (Nat.blt n207' n8)
  (∃ x210', readAt h206' b208' (f209' + (n207' * 1)) 1 = some [(.int .i64 x210')] ∧
  I122_1 O Q a0 n0 c0 a1 n1 c1 q4 q5 q6 x7 a8 n8 c8 (wrapF .i64 (x9 + 1)) x210' (wrapF .i64 (x11 + 1)) h206'))
  (I122_1 O Q a0 n0 c0 a1 n1 c1 q4 q5 q6 x7 a8 n8 c8 x9 x10 (wrapF .i64 (x11 + 1)) h206')))
  (∃ q211', ∃ h212', EvC Tryd.prog O 86 [(.slice a0 n0 c0), (.slice a8 n8 c8)] h (.bool q211') h212' ∧
  vcond q211'
  (I122_0 O Q a0 n0 c0 a1 n1 c1 q4 q5 q6 (wrapF .i64 (x7 + 1)) h212')
  (vcond (ltI 1 x9)
  (I122_0 O Q a0 n0 c0 a1 n1 c1 q4 q5 q6 (wrapF .i64 (x7 + 1)) h212')
  (vcond (eqI x9 0)
  (Q (.tuple #[(.bool false), (.bool true)]) h212')
  (∃ q213', ∃ h214', EvC Tryd.prog O 121 [(.slice a0 n0 c0), (.int .i64 x10)] h212' (.bool q213') h214' ∧
  I122_0 O Q a0 n0 c0 a1 n1 c1 q4 q5 true (wrapF .i64 (x7 + 1)) h214'))))
theorem I122_1.of {O Q} (a0 n0 c0 a1 n1 c1 q4 q5 q6 x7 a8 n8 c8 x9 x10 x11) {h : Hp} (hh : T122_1 O Q a0 n0 c0 a1 n1 c1 q4 q5 q6 x7 a8 n8 c8 x9 x10 x11 h) : I122_1 O Q a0 n0 c0 a1 n1 c1 q4 q5 q6 x7 a8 n8 c8 x9 x10 x11 h :=
  RKL.of (tb := lv122) (cuts := []) 500 fun _ => Eq.mp (by kernel_rfl) hh
/-! math/bits.OnesCount32 -/
noncomputable def b138 : Code := (Tryd.f138.body).getD .skip
def lv138 : List (Nat × List Nat) := []
def T138 (O : CallF) (Q : Value → Hp → Prop) (x0 : Int) (h : Hp) : Prop :=
  isNat (shrF .u32 x0 24) fun n1' =>
  vreq (Nat.blt n1' 256)
  (vreq (inD 4294967296 (shrF .u32 x0 16))
  (isNat (landI (shrF .u32 x0 16) 255) fun n2' =>
  vreq (Nat.blt n2' 256)
  (vreq (inD 4294967296 (shrF .u32 x0 8))
  (isNat (landI (shrF .u32 x0 8) 255) fun n3' =>
  vreq (Nat.blt n3' 256)
  (vreq (inD 4294967296 x0)
  (isNat (landI x0 255) fun n4' =>
  vreq (Nat.blt n4' 256)
  (Q (.int .i64 (wrapF .i64 (wrapF .u8 ((wrapF .u8 ((wrapF .u8 ((byteI (ByteArray.mk #[0, 1, 1, 2, 1, 2, 2, 3, 1, 2, 2, 3, 2, 3, 3, 4, 1, 2, 2, 3, 2, 3, 3, 4, 2, 3, 3, 4, 3, 4, 4, 5, 1, 2, 2, 3, 2, 3, 3, 4, 2, 3, 3, 4, 3, 4, 4, 5, 2, 3, 3, 4, 3, 4, 4, 5, 3, 4, 4, 5, 4, 5, 5, 6, 1, 2, 2, 3, 2, 3, 3, 4, 2, 3, 3, 4, 3, 4, 4, 5, 2, 3, 3, 4, 3, 4, 4, 5, 3, 4, 4, 5, 4, 5, 5, 6, 2, 3, 3, 4, 3, 4, 4, 5, 3, 4, 4, 5, 4, 5, 5, 6, 3, 4, 4, 5, 4, 5, 5, 6, 4, 5, 5, 6, 5, 6, 6, 7, 1, 2, 2, 3, 2, 3, 3, 4, 2, 3, 3, 4, 3, 4, 4, 5, 2, 3, 3, 4, 3, 4, 4, 5, 3, 4, 4, 5, 4, 5, 5, 6, 2, 3, 3, 4, 3, 4, 4, 5, 3, 4, 4, 5, 4, 5, 5, 6, 3, 4, 4, 5, 4, 5, 5, 6, 4, 5, 5, 6, 5, 6, 6, 7, 2, 3, 3, 4, 3, 4, 4, 5, 3, 4, 4, 5, 4, 5, 5, 6, 3, 4, 4, 5, 4, 5, 5, 6, 4, 5, 5, 6, 5, 6, 6, 7, 3, 4, 4, 5, 4, 5, 5, 6, 4, 5, 5, 6, 5, 6, 6, 7, 4, 5, 5, 6, 5, 6, 6, 7, 5, 6, 6, 7, 6, 7, 7, 8]) n1') + (byteI (ByteArray.mk #[0, 1, 1, 2, 1, 2, 2, 3, 1, 2, 2, 3, 2, 3, 3, 4, 1, 2, 2, 3, 2, 3, 3, 4, 2, 3, 3, 4, 3, 4, 4, 5, 1, 2, 2, 3, 2, 3, 3, 4, 2, 3, 3, 4, 3, 4, 4, 5, 2, 3, 3, 4, 3, 4, 4, 5, 3, 4, 4, 5, 4, 5, 5, 6, 1, 2, 2, 3, 2, 3, 3, 4, 2, 3, 3, 4, 3, 4, 4, 5, 2, 3, 3, 4, 3, 4, 4, 5, 3, 4, 4, 5, 4, 5, 5, 6, 2, 3, 3, 4, 3, 4, 4, 5, 3, 4, 4, 5, 4, 5, 5, 6, 3, 4, 4, 5, 4, 5, 5, 6, 4, 5, 5, 6, 5, 6, 6, 7, 1, 2, 2, 3, 2, 3, 3, 4, 2, 3, 3, 4, 3, 4, 4, 5, 2, 3, 3, 4, 3, 4, 4, 5, 3, 4, 4, 5, 4, 5, 5, 6, 2, 3, 3, 4, 3, 4, 4, 5, 3, 4, 4, 5, 4, 5, 5, 6, 3, 4, 4, 5, 4, 5, 5, 6, 4, 5, 5, 6, 5, 6, 6, 7, 2, 3, 3, 4, 3, 4, 4, 5, 3, 4, 4, 5, 4, 5, 5, 6, 3, 4, 4, 5, 4, 5, 5, 6, 4, 5, 5, 6, 5, 6, 6, 7, 3, 4, 4, 5, 4, 5, 5, 6, 4, 5, 5, 6, 5, 6, 6, 7, 4, 5, 5, 6, 5, 6, 6, 7, 5, 6, 6, 7, 6, 7, 7, 8]) n2'))) + (byteI (ByteArray.mk #[0, 1, 1, 2, 1, 2, 2, 3, 1, 2, 2, 3, 2, 3, 3, 4, 1, 2, 2, 3, 2, 3, 3, 4, 2, 3, 3, 4, 3, 4, 4, 5, 1, 2, 2, 3, 2, 3, 3, 4, 2, 3, 3, 4, 3, 4, 4, 5, 2, 3, 3, 4, 3, 4, 4, 5, 3, 4, 4, 5, 4, 5, 5, 6, 1, 2, 2, 3, 2, 3, 3, 4, 2, 3, 3, 4, 3, 4, 4, 5, 2, 3, 3, 4, 3, 4, 4, 5, 3, 4, 4, 5, 4, 5, 5, 6, 2, 3, 3, 4, 3, 4, 4, 5, 3, 4, 4, 5, 4, 5, 5, 6, 3, 4, 4, 5, 4, 5, 5, 6, 4, 5, 5, 6, 5, 6, 6, 7, 1, 2, 2, 3, 2, 3, 3, 4, 2, 3, 3, 4, 3, 4, 4, 5, 2, 3, 3, 4, 3, 4, 4, 5, 3, 4, 4, 5, 4, 5, 5, 6, 2, 3, 3, 4, 3, 4, 4, 5, 3, 4, 4, 5, 4, 5, 5, 6, 3, 4, 4, 5, 4, 5, 5, 6, 4, 5, 5, 6, 5, 6, 6, 7, 2, 3, 3, 4, 3, 4, 4, 5, 3, 4, 4, 5, 4, 5, 5, 6, 3, 4, 4, 5, 4, 5, 5, 6, 4, 5, 5, 6, 5, 6, 6, 7, 3, 4, 4, 5, 4, 5, 5, 6, 4, 5, 5, 6, 5, 6, 6, 7, 4, 5, 5, 6, 5, 6, 6, 7, 5, 6, 6, 7, 6, 7, 7, 8]) n3'))) + (byteI (ByteArray.mk #[0, 1, 1, 2, 1, 2, 2, 3, 1, 2, 2, 3, 2, 3, 3, 4, 1, 2, 2, 3, 2, 3, 3, 4, 2, 3, 3, 4, 3, 4, 4, 5, 1, 2, 2, 3, 2, 3, 3, 4, 2, 3, 3, 4, 3, 4, 4, 5, 2, 3, 3, 4, 3, 4, 4, 5, 3, 4, 4, 5, 4, 5, 5, 6, 1, 2, 2, 3, 2, 3, 3, 4, 2, 3, 3, 4, 3, 4, 4, 5, 2, 3, 3, 4, 3, 4, 4, 5, 3, 4, 4, 5, 4, 5, 5, 6, 2, 3, 3, 4, 3, 4, 4, 5, 3, 4, 4, 5, 4, 5, 5, 6, 3, 4, 4, 5, 4, 5, 5, 6, 4, 5, 5, 6, 5, 6, 6, 7, 1, 2, 2, 3, 2, 3, 3, 4, 2, 3, 3, 4, 3, 4, 4, 5, 2, 3, 3, 4, 3, 4, 4, 5, 3, 4, 4, 5, 4, 5, 5, 6, 2, 3, 3, 4, 3, 4, 4, 5, 3, 4, 4, 5, 4, 5, 5, 6, 3, 4, 4, 5, 4, 5, 5, 6, 4, 5, 5, 6, 5, 6, 6, 7, 2, 3, 3, 4, 3, 4, 4, 5, 3, 4, 4, 5, 4, 5, 5, 6, 3, 4, 4, 5, 4, 5, 5, 6, 4, 5, 5, 6, 5, 6, 6, 7, 3, 4, 4, 5, 4, 5, 5, 6, 4, 5, 5, 6, 5, 6, 6, 7, 4, 5, 5, 6, 5, 6, 6, 7, 5, 6, 6, 7, 6, 7, 7, 8]) n4'))))) (h.rsv 19))))))))
theorem rk138 {O Q} (x0) {h : Hp} (hO : O 138 [(.int .u32 x0)] h = none) (hh : T138 O Q x0 h) : Ret Tryd.prog O 138 [(.int .u32 x0)] h Q :=
  .of (c := b138) Tryd.func138 (by kernel_rfl) hO (V_ok (tb := lv138) (cuts := []) 500 (Eq.mp (by kernel_rfl) hh))
end Go.Proofs.YtfgfhplgnfbaaaaDoor
