/- Conditions of functions' code, printed by a program of ours. -/
import Derived.Test.YtfgfhplgnfbaaaaDoorProg
import Derived.Test.YtfgfhplgnfbaaaaDoorVcA
import Derived.KernelRfl
namespace Go.Proofs.YtfgfhplgnfbaaaaDoor
open Go Go.Ev
set_option maxRecDepth 100000
set_option linter.unusedVariables false
/-! sward/swardlaw20.SatForms -/
noncomputable def b4 : Code := (Tryd.f4.body).getD .skip
def lv4 : List (Nat × List Nat) := []
def T4 (O : CallF) (Q : Value → Hp → Prop) (x0_0 : Int) (a0_1 : Option Addr) (n0_1 : Nat) (c0_1 : Nat) (a1 : Option Addr) (n1 : Nat) (c1 : Nat) (h : Hp) : Prop :=
  ∃ x1', ∃ a2' n3' c4', readAt (h.add (.cells [(.int .i64 x0_0), (.slice a0_1 n0_1 c0_1)] 30 .fix)) h.nx 0 2 = some [(.int .i64 x1'), (.slice a2' n3' c4')] ∧
  ∃ q5', ∃ h6', EvC Tryd.prog O 28 [(.agg #[(.int .i64 x1'), (.slice a2' n3' c4')]), (.slice none 0 0)] (h.add (.cells [(.int .i64 x0_0), (.slice a0_1 n0_1 c0_1)] 30 .fix)) (.bool q5') h6' ∧
  vcond q5'
  (∃ q7', ∃ h8', EvC Tryd.prog O 27 [] h6' (.bool q7') h8' ∧
  Q (.bool q7') h8')
  (vcond (ltI 40 (Int.ofNat n1))
  (∃ q9', ∃ h10', EvC Tryd.prog O 27 [] h6' (.bool q9') h10' ∧
  Q (.bool q9') h10')
  (∃ x11', ∃ a12' n13' c14', readAt h6' h.nx 0 2 = some [(.int .i64 x11'), (.slice a12' n13' c14')] ∧
  ∃ q15', ∃ x16', ∃ h17', EvC Tryd.prog O 29 [(.agg #[(.int .i64 x11'), (.slice a12' n13' c14')]), (.slice a1 n1 c1)] h6' (.tuple #[(.bool q15'), (.int .i64 x16')]) h17' ∧
  ∃ x18', ∃ a19' n20' c21', readAt h17' h.nx 0 2 = some [(.int .i64 x18'), (.slice a19' n20' c21')] ∧
  ∃ q22', ∃ x23', ∃ h24', EvC Tryd.prog O 30 [(.agg #[(.int .i64 x18'), (.slice a19' n20' c21')]), (.slice a1 n1 c1)] h17' (.tuple #[(.bool q22'), (.int .i64 x23')]) h24' ∧
  vcond (!eqB q15' q22')
  (Q (.bool false) (h24'.rsv 15))
  (vcond (!(eqI x16' x23'))
  (Q (.bool false) (h24'.rsv 15))
  (∃ x25', ∃ a26' n27' c28', readAt (h24'.rsv 15) h.nx 0 2 = some [(.int .i64 x25'), (.slice a26' n27' c28')] ∧
  ∃ x29', ∃ a30' n31' c32', readAt (h24'.rsv 15) h.nx 0 2 = some [(.int .i64 x29'), (.slice a30' n31' c32')] ∧
  ∃ x33', ∃ h34', EvC Tryd.prog O 31 [(.agg #[(.int .i64 x25'), (.slice a26' n27' c28')])] ((h24'.rsv 15).grd [h.nx]) (.int .i64 x33') h34' ∧
  ∃ x35', ∃ h36', EvC Tryd.prog O 32 [(.agg #[(.int .i64 x29'), (.slice a30' n31' c32')])] ((h34'.rst (h24'.rsv 15)).grd []) (.int .i64 x35') h36' ∧
  vcond (!(eqI x33' x35'))
  (Q (.bool false) (h36'.rst (h34'.rst (h24'.rsv 15))))
  (∃ x37', ∃ a38' n39' c40', readAt (h36'.rst (h34'.rst (h24'.rsv 15))) h.nx 0 2 = some [(.int .i64 x37'), (.slice a38' n39' c40')] ∧
  ∃ x41', ∃ x42', ∃ h43', EvC Tryd.prog O 22 [(.agg #[(.int .i64 x37'), (.slice a38' n39' c40')])] (h36'.rst (h34'.rst (h24'.rsv 15))) (.tuple #[(.int .i64 x41'), (.int .i64 x42')]) h43' ∧
  ∃ x44', ∃ a45' n46' c47', readAt h43' h.nx 0 2 = some [(.int .i64 x44'), (.slice a45' n46' c47')] ∧
  ∃ x48', ∃ x49', ∃ h50', EvC Tryd.prog O 33 [(.agg #[(.int .i64 x44'), (.slice a45' n46' c47')])] h43' (.tuple #[(.int .i64 x48'), (.int .i64 x49')]) h50' ∧
  vcond (eqI x41' x48')
  (vcond (eqI x42' x49')
  (∃ q51', ∃ h52', EvC Tryd.prog O 27 [] h50' (.bool q51') h52' ∧
  Q (.bool q51') h52')
  (Q (.bool false) h50'))
  (Q (.bool false) h50'))))))
theorem rk4 {O Q} (x0_0 a0_1 n0_1 c0_1 a1 n1 c1) {h : Hp} (hO : O 4 [(.agg #[(.int .i64 x0_0), (.slice a0_1 n0_1 c0_1)]), (.slice a1 n1 c1)] h = none) (hh : T4 O Q x0_0 a0_1 n0_1 c0_1 a1 n1 c1 h) : Ret Tryd.prog O 4 [(.agg #[(.int .i64 x0_0), (.slice a0_1 n0_1 c0_1)]), (.slice a1 n1 c1)] h Q :=
  .of (c := b4) Tryd.func4 (by kernel_rfl) hO (V_ok (tb := lv4) (cuts := []) 500 (Eq.mp (by kernel_rfl) hh))
/-! sward/swardlaw20.large -/
noncomputable def b28 : Code := (Tryd.f28.body).getD .skip
def lv28 : List (Nat × List Nat) := []
def T28 (O : CallF) (Q : Value → Hp → Prop) (x0_0 : Int) (a0_1 : Option Addr) (n0_1 : Nat) (c0_1 : Nat) (a1 : Option Addr) (n1 : Nat) (c1 : Nat) (h : Hp) : Prop :=
  ∃ a1' n2' c3', readAt (h.add (.cells [(.int .i64 x0_0), (.slice a0_1 n0_1 c0_1)] 30 .fix)) h.nx 1 1 = some [(.slice a1' n2' c3')] ∧
  ∃ q4', ∃ h5', EvC Tryd.prog O 43 [(.slice a1' n2' c3')] (h.add (.cells [(.int .i64 x0_0), (.slice a0_1 n0_1 c0_1)] 30 .fix)) (.bool q4') h5' ∧
  vcond q4'
  (Q (.bool true) h5')
  (Q (.bool (ltI 40 (Int.ofNat n1))) h5')
theorem rk28 {O Q} (x0_0 a0_1 n0_1 c0_1 a1 n1 c1) {h : Hp} (hO : O 28 [(.agg #[(.int .i64 x0_0), (.slice a0_1 n0_1 c0_1)]), (.slice a1 n1 c1)] h = none) (hh : T28 O Q x0_0 a0_1 n0_1 c0_1 a1 n1 c1 h) : Ret Tryd.prog O 28 [(.agg #[(.int .i64 x0_0), (.slice a0_1 n0_1 c0_1)]), (.slice a1 n1 c1)] h Q :=
  .of (c := b28) Tryd.func28 (by kernel_rfl) hO (V_ok (tb := lv28) (cuts := []) 500 (Eq.mp (by kernel_rfl) hh))
/-! sward/swardlaw20.great -/
noncomputable def b43 : Code := (Tryd.f43.body).getD .skip
noncomputable def stk43_0 : List KI := [.code (sub [1, 1, 0, 1, 0] b43), .blk 0, .code (sub [1, 1, 1] b43)]
def lv43 : List (Nat × List Nat) := [(0, [0, 2, 3])]
def I43_0 (O : CallF) (Q : Value → Hp → Prop) (a0 : Option Addr) (n0 : Nat) (c0 : Nat) (q2 : Bool) (x3 : Int) (h : Hp) : Prop := RKL Tryd.prog O Tryd.f43 stk43_0 19 [0, 2, 3] [(.slice a0 n0 c0), (.bool q2), (.int .i64 x3)] h Q
def T43 (O : CallF) (Q : Value → Hp → Prop) (a0 : Option Addr) (n0 : Nat) (c0 : Nat) (h : Hp) : Prop :=
  vcond (ltI 150 (Int.ofNat n0))
  (Q (.bool true) h)
  (I43_0 O Q a0 n0 c0 false 0 h)
theorem rk43 {O Q} (a0 n0 c0) {h : Hp} (hO : O 43 [(.slice a0 n0 c0)] h = none) (hh : T43 O Q a0 n0 c0 h) : Ret Tryd.prog O 43 [(.slice a0 n0 c0)] h Q :=
  .of (c := b43) Tryd.func43 (by kernel_rfl) hO (V_ok (tb := lv43) (cuts := []) 500 (Eq.mp (by kernel_rfl) hh))
def T43_0 (O : CallF) (Q : Value → Hp → Prop) (a0 : Option Addr) (n0 : Nat) (c0 : Nat) (q2 : Bool) (x3 : Int) (h : Hp) : Prop :=
  vcond (ltI x3 (Int.ofNat n0))
  (isNat x3 fun n101' =>
  isAddr a0 fun b102' f103' =>
  vreq (Nat.blt n101' n0)
  (∃ a104' n105' c106', readAt h b102' (f103' + (n101' * 1)) 1 = some [(.slice a104' n105' c106')] ∧
  vcond (ltI 40 (Int.ofNat n105'))
  (Q (.bool true) h)
  (I43_0 O Q a0 n0 c0 q2 (wrapF .i64 (x3 + 1)) h)))
  (Q (.bool false) h)
theorem I43_0.of {O Q} (a0 n0 c0 q2 x3) {h : Hp} (hh : T43_0 O Q a0 n0 c0 q2 x3 h) : I43_0 O Q a0 n0 c0 q2 x3 h :=
  RKL.of (tb := lv43) (cuts := []) 500 fun _ => Eq.mp (by kernel_rfl) hh
/-! sward/sat.Holds -/
noncomputable def b29 : Code := (Tryd.f29.body).getD .skip
noncomputable def stk29_0 : List KI := [.code (sub [1, 1, 1, 1, 0, 1, 0] b29), .blk 0, .code (sub [1, 1, 1, 1, 1] b29)]
def lv29 : List (Nat × List Nat) := [(0, [2, 4, 5, 7, 20, 21, 22])]
def I29_0 (O : CallF) (Q : Value → Hp → Prop) (x0_0 : Int) (a0_1 : Option Addr) (n0_1 : Nat) (c0_1 : Nat) (a1 : Option Addr) (n1 : Nat) (c1 : Nat) (b2 : Nat) (f2 : Nat) (b7 : Nat) (f7 : Nat) (x22 : Int) (h : Hp) : Prop := RKL Tryd.prog O Tryd.f29 stk29_0 41 [2, 4, 5, 7, 20, 21, 22] [(.pointer (some ⟨b2, f2, none⟩)), (.bool false), (.int .i64 0), (.pointer (some ⟨b7, f7, none⟩)), (.slice a1 n1 c1), (.int .i64 (Int.ofNat n1)), (.int .i64 x22)] h Q
def T29 (O : CallF) (Q : Value → Hp → Prop) (x0_0 : Int) (a0_1 : Option Addr) (n0_1 : Nat) (c0_1 : Nat) (a1 : Option Addr) (n1 : Nat) (c1 : Nat) (h : Hp) : Prop :=
  ∃ x1', ∃ a2' n3' c4', readAt (h.add (.cells [(.int .i64 x0_0), (.slice a0_1 n0_1 c0_1)] 30 .fix)) h.nx 0 2 = some [(.int .i64 x1'), (.slice a2' n3' c4')] ∧
  ∃ x5', ∃ h6', EvC Tryd.prog O 31 [(.agg #[(.int .i64 x1'), (.slice a2' n3' c4')])] (h.add (.cells [(.int .i64 x0_0), (.slice a0_1 n0_1 c0_1)] 30 .fix)) (.int .i64 x5') h6' ∧
  vcond (!(eqI x5' 0))
  (Q (.tuple #[(.bool false), (.int .i64 x5')]) h6')
  (∃ x7', readAt h6' h.nx 0 1 = some [(.int .i64 x7')] ∧
  vcond (!(eqI (Int.ofNat n1) x7'))
  (Q (.tuple #[(.bool false), (.int .i64 2)]) h6')
  (I29_0 O Q x0_0 a0_1 n0_1 c0_1 a1 n1 c1 h.nx 0 h6'.nx 0 0 (h6'.add (.cells [(.int .u32 0), (.int .u32 0)] 102 .fix))))
theorem rk29 {O Q} (x0_0 a0_1 n0_1 c0_1 a1 n1 c1) {h : Hp} (hO : O 29 [(.agg #[(.int .i64 x0_0), (.slice a0_1 n0_1 c0_1)]), (.slice a1 n1 c1)] h = none) (hh : T29 O Q x0_0 a0_1 n0_1 c0_1 a1 n1 c1 h) : Ret Tryd.prog O 29 [(.agg #[(.int .i64 x0_0), (.slice a0_1 n0_1 c0_1)]), (.slice a1 n1 c1)] h Q :=
  .of (c := b29) Tryd.func29 (by kernel_rfl) hO (V_ok (tb := lv29) (cuts := []) 500 (Eq.mp (by kernel_rfl) hh))
def T29_0 (O : CallF) (Q : Value → Hp → Prop) (x0_0 : Int) (a0_1 : Option Addr) (n0_1 : Nat) (c0_1 : Nat) (a1 : Option Addr) (n1 : Nat) (c1 : Nat) (b2 : Nat) (f2 : Nat) (b7 : Nat) (f7 : Nat) (x22 : Int) (h : Hp) : Prop :=
  vcond (ltI x22 (Int.ofNat n1))
  (isNat x22 fun n101' =>
  isAddr a1 fun b102' f103' =>
  vreq (Nat.blt n101' n1)
  (∃ q104', readAt h b102' (f103' + (n101' * 1)) 1 = some [(.bool q104')] ∧
  vcond q104'
  (∃ x105', readAt (h.rsv 8) b7 (f7 + 0) 1 = some [(.int .u32 x105')] ∧
  ∃ x106', ∃ h107', EvC Tryd.prog O 84 [(.int .i64 (wrapF .i64 (x22 + 1)))] ((h.rsv 8).grd [b7]) (.int .u32 x106') h107' ∧
  vreq (inD 4294967296 x105')
  (vreq (inD 4294967296 x106')
  (vreq (canW ((h107'.rst (h.rsv 8)).grd []) b7 (f7 + 0) [(.int .u32 (lorI x105' x106'))])
  (I29_0 O Q x0_0 a0_1 n0_1 c0_1 a1 n1 c1 b2 f2 b7 f7 (wrapF .i64 (x22 + 1)) ((((h107'.rst (h.rsv 8)).grd []).wr b7 (f7 + 0) [(.int .u32 (lorI x105' x106'))]).rst (h107'.rst (h.rsv 8)))))))
  (I29_0 O Q x0_0 a0_1 n0_1 c0_1 a1 n1 c1 b2 f2 b7 f7 (wrapF .i64 (x22 + 1)) h)))
  (∃ x108', ∃ a109' n110' c111', readAt (h.rsv 7) b2 f2 2 = some [(.int .i64 x108'), (.slice a109' n110' c111')] ∧
  ∃ x112', readAt (h.rsv 7) b7 (f7 + 0) 1 = some [(.int .u32 x112')] ∧
  ∃ a113', ∃ h114', EvC Tryd.prog O 76 [(.agg #[(.int .i64 x108'), (.slice a109' n110' c111')]), (.slice none 0 0)] ((h.rsv 7).grd [b7]) (.pointer a113') h114' ∧
  ∃ q115', ∃ h116', EvC Tryd.prog O 77 [(.pointer a113'), (.int .u32 x112')] ((h114'.rst (h.rsv 7)).grd []) (.bool q115') h116' ∧
  Q (.tuple #[(.bool q115'), (.int .i64 0)]) (h116'.rst (h114'.rst (h.rsv 7))))
theorem I29_0.of {O Q} (x0_0 a0_1 n0_1 c0_1 a1 n1 c1 b2 f2 b7 f7 x22) {h : Hp} (hh : T29_0 O Q x0_0 a0_1 n0_1 c0_1 a1 n1 c1 b2 f2 b7 f7 x22 h) : I29_0 O Q x0_0 a0_1 n0_1 c0_1 a1 n1 c1 b2 f2 b7 f7 x22 h :=
  RKL.of (tb := lv29) (cuts := []) 500 fun _ => Eq.mp (by kernel_rfl) hh
/-! sward/swardref20.Holds -/
noncomputable def b30 : Code := (Tryd.f30.body).getD .skip
noncomputable def stk30_0 : List KI := [.code (sub [1, 1, 1, 0, 1, 0] b30), .blk 0, .code (sub [1, 1, 1, 1] b30)]
noncomputable def stk30_1 : List KI := [.code (sub [1, 1, 1, 1, 0, 1, 0] b30), .blk 2, .code (sub [1, 1, 1, 1, 1] b30)]
def lv30 : List (Nat × List Nat) := [(0, [1, 2, 4, 5, 6, 7]), (2, [2, 4, 5, 6, 8])]
def I30_0 (O : CallF) (Q : Value → Hp → Prop) (x0_0 : Int) (a0_1 : Option Addr) (n0_1 : Nat) (c0_1 : Nat) (a1 : Option Addr) (n1 : Nat) (c1 : Nat) (b2 : Nat) (f2 : Nat) (a6 : Option Addr) (n6 : Nat) (c6 : Nat) (x7 : Int) (h : Hp) : Prop := RKL Tryd.prog O Tryd.f30 stk30_0 55 [1, 2, 4, 5, 6, 7] [(.slice a1 n1 c1), (.pointer (some ⟨b2, f2, none⟩)), (.bool false), (.int .i64 0), (.slice a6 n6 c6), (.int .i64 x7)] h Q
def I30_1 (O : CallF) (Q : Value → Hp → Prop) (x0_0 : Int) (a0_1 : Option Addr) (n0_1 : Nat) (c0_1 : Nat) (a1 : Option Addr) (n1 : Nat) (c1 : Nat) (b2 : Nat) (f2 : Nat) (q4 : Bool) (x5 : Int) (a6 : Option Addr) (n6 : Nat) (c6 : Nat) (x8 : Int) (h : Hp) : Prop := RKL Tryd.prog O Tryd.f30 stk30_1 55 [2, 4, 5, 6, 8] [(.pointer (some ⟨b2, f2, none⟩)), (.bool q4), (.int .i64 x5), (.slice a6 n6 c6), (.int .i64 x8)] h Q
def T30 (O : CallF) (Q : Value → Hp → Prop) (x0_0 : Int) (a0_1 : Option Addr) (n0_1 : Nat) (c0_1 : Nat) (a1 : Option Addr) (n1 : Nat) (c1 : Nat) (h : Hp) : Prop :=
  ∃ x1', ∃ a2' n3' c4', readAt (h.add (.cells [(.int .i64 x0_0), (.slice a0_1 n0_1 c0_1)] 30 .fix)) h.nx 0 2 = some [(.int .i64 x1'), (.slice a2' n3' c4')] ∧
  ∃ q5', ∃ h6', EvC Tryd.prog O 85 [(.agg #[(.int .i64 x1'), (.slice a2' n3' c4')])] (h.add (.cells [(.int .i64 x0_0), (.slice a0_1 n0_1 c0_1)] 30 .fix)) (.bool q5') h6' ∧
  vcond (!q5')
  (Q (.tuple #[(.bool false), (.int .i64 2)]) h6')
  (∃ x7', readAt h6' h.nx 0 1 = some [(.int .i64 x7')] ∧
  vcond (!(eqI (Int.ofNat n1) x7'))
  (Q (.tuple #[(.bool false), (.int .i64 2)]) h6')
  (∃ x8', readAt h6' h.nx 0 1 = some [(.int .i64 x8')] ∧
  isNat (wrapF .i64 (x8' + 1)) fun n9' =>
  isNat (wrapF .i64 (x8' + 1)) fun n10' =>
  vreq (Nat.ble n9' n10')
  (vreq (Nat.ble (n10' * 8) 281474976710656)
  (vreq (Nat.blt n10' big)
  (I30_0 O Q x0_0 a0_1 n0_1 c0_1 a1 n1 c1 h.nx 0 (some ⟨h6'.nx, 0, none⟩) n9' n10' 1 (h6'.add (.cells (List.flatten (List.replicate n10' [(.int .i64 0)])) 3 .fix)))))))
theorem rk30 {O Q} (x0_0 a0_1 n0_1 c0_1 a1 n1 c1) {h : Hp} (hO : O 30 [(.agg #[(.int .i64 x0_0), (.slice a0_1 n0_1 c0_1)]), (.slice a1 n1 c1)] h = none) (hh : T30 O Q x0_0 a0_1 n0_1 c0_1 a1 n1 c1 h) : Ret Tryd.prog O 30 [(.agg #[(.int .i64 x0_0), (.slice a0_1 n0_1 c0_1)]), (.slice a1 n1 c1)] h Q :=
  .of (c := b30) Tryd.func30 (by kernel_rfl) hO (V_ok (tb := lv30) (cuts := []) 500 (Eq.mp (by kernel_rfl) hh))
def T30_0 (O : CallF) (Q : Value → Hp → Prop) (x0_0 : Int) (a0_1 : Option Addr) (n0_1 : Nat) (c0_1 : Nat) (a1 : Option Addr) (n1 : Nat) (c1 : Nat) (b2 : Nat) (f2 : Nat) (a6 : Option Addr) (n6 : Nat) (c6 : Nat) (x7 : Int) (h : Hp) : Prop :=
  ∃ x101', readAt h b2 (f2 + 0) 1 = some [(.int .i64 x101')] ∧
  vcond (!(ltI x101' x7))
  (isNat x7 fun n102' =>
  isAddr a6 fun b103' f104' =>
  vreq (Nat.blt n102' n6)
  (vreq (canW h b103' (f104' + (n102' * 1)) [(.int .i64 (-1))])
  (isNat (wrapF .i64 (x7 - 1)) fun n105' =>
  isAddr a1 fun b106' f107' =>
  vreq (Nat.blt n105' n1)
  (∃ q108', readAt (h.wr b103' (f104' + (n102' * 1)) [(.int .i64 (-1))]) b106' (f107' + (n105' * 1)) 1 = some [(.bool q108')] ∧
  vcond q108'
  (isNat x7 fun n109' =>
  isAddr a6 fun b110' f111' =>
  vreq (Nat.blt n109' n6)
  (vreq (canW (h.wr b103' (f104' + (n102' * 1)) [(.int .i64 (-1))]) b110' (f111' + (n109' * 1)) [(.int .i64 1)])
  (I30_0 O Q x0_0 a0_1 n0_1 c0_1 a1 n1 c1 b2 f2 a6 n6 c6 (wrapF .i64 (x7 + 1)) ((h.wr b103' (f104' + (n102' * 1)) [(.int .i64 (-1))]).wr b110' (f111' + (n109' * 1)) [(.int .i64 1)]))))
  (I30_0 O Q x0_0 a0_1 n0_1 c0_1 a1 n1 c1 b2 f2 a6 n6 c6 (wrapF .i64 (x7 + 1)) (h.wr b103' (f104' + (n102' * 1)) [(.int .i64 (-1))]))))))
  (I30_1 O Q x0_0 a0_1 n0_1 c0_1 a1 n1 c1 b2 f2 false 0 a6 n6 c6 0 h)
theorem I30_0.of {O Q} (x0_0 a0_1 n0_1 c0_1 a1 n1 c1 b2 f2 a6 n6 c6 x7) {h : Hp} (hh : T30_0 O Q x0_0 a0_1 n0_1 c0_1 a1 n1 c1 b2 f2 a6 n6 c6 x7 h) : I30_0 O Q x0_0 a0_1 n0_1 c0_1 a1 n1 c1 b2 f2 a6 n6 c6 x7 h :=
  RKL.of (tb := lv30) (cuts := []) 500 fun _ => Eq.mp (by kernel_rfl) hh
def T30_1 (O : CallF) (Q : Value → Hp → Prop) (x0_0 : Int) (a0_1 : Option Addr) (n0_1 : Nat) (c0_1 : Nat) (a1 : Option Addr) (n1 : Nat) (c1 : Nat) (b2 : Nat) (f2 : Nat) (q4 : Bool) (x5 : Int) (a6 : Option Addr) (n6 : Nat) (c6 : Nat) (x8 : Int) (h : Hp) : Prop :=
  ∃ a201' n202' c203', readAt h b2 (f2 + 1) 1 = some [(.slice a201' n202' c203')] ∧
  vcond (ltI x8 (Int.ofNat n202'))
  (∃ a204' n205' c206', readAt h b2 (f2 + 1) 1 = some [(.slice a204' n205' c206')] ∧
  isNat x8 fun n207' =>
  isAddr a204' fun b208' f209' =>
  vreq (Nat.blt n207' n205')
  (∃ a210' n211' c212', readAt h b208' (f209' + (n207' * 1)) 1 = some [(.slice a210' n211' c212')] ∧
  ∃ q213', ∃ h214', EvC Tryd.prog O 86 [(.slice a6 n6 c6), (.slice a210' n211' c212')] h (.bool q213') h214' ∧
  vcond (!q213')
  (Q (.tuple #[(.bool false), (.int .i64 0)]) h214')
  (I30_1 O Q x0_0 a0_1 n0_1 c0_1 a1 n1 c1 b2 f2 q4 x5 a6 n6 c6 (wrapF .i64 (x8 + 1)) h214')))
  (Q (.tuple #[(.bool true), (.int .i64 0)]) h)
theorem I30_1.of {O Q} (x0_0 a0_1 n0_1 c0_1 a1 n1 c1 b2 f2 q4 x5 a6 n6 c6 x8) {h : Hp} (hh : T30_1 O Q x0_0 a0_1 n0_1 c0_1 a1 n1 c1 b2 f2 q4 x5 a6 n6 c6 x8 h) : I30_1 O Q x0_0 a0_1 n0_1 c0_1 a1 n1 c1 b2 f2 q4 x5 a6 n6 c6 x8 h :=
  RKL.of (tb := lv30) (cuts := []) 500 fun _ => Eq.mp (by kernel_rfl) hh
/-! sward/sat.Check -/
noncomputable def b31 : Code := (Tryd.f31.body).getD .skip
noncomputable def stk31_0 : List KI := [.code (sub [1, 1, 0, 1, 0] b31), .blk 0, .code (sub [1, 1, 1] b31)]
def lv31 : List (Nat × List Nat) := [(0, [1, 2, 20, 21, 22])]
def I31_0 (O : CallF) (Q : Value → Hp → Prop) (x0_0 : Int) (a0_1 : Option Addr) (n0_1 : Nat) (c0_1 : Nat) (b1 : Nat) (f1 : Nat) (x2 : Int) (a20 : Option Addr) (n20 : Nat) (c20 : Nat) (x21 : Int) (x22 : Int) (h : Hp) : Prop := RKL Tryd.prog O Tryd.f31 stk31_0 32 [1, 2, 20, 21, 22] [(.pointer (some ⟨b1, f1, none⟩)), (.int .i64 x2), (.slice a20 n20 c20), (.int .i64 x21), (.int .i64 x22)] h Q
def T31 (O : CallF) (Q : Value → Hp → Prop) (x0_0 : Int) (a0_1 : Option Addr) (n0_1 : Nat) (c0_1 : Nat) (h : Hp) : Prop :=
  ∃ x1', readAt (h.add (.cells [(.int .i64 x0_0), (.slice a0_1 n0_1 c0_1)] 30 .fix)) h.nx 0 1 = some [(.int .i64 x1')] ∧
  vcond (ltI x1' 0)
  (Q (.int .i64 2) (h.add (.cells [(.int .i64 x0_0), (.slice a0_1 n0_1 c0_1)] 30 .fix)))
  (∃ x2', readAt (h.add (.cells [(.int .i64 x0_0), (.slice a0_1 n0_1 c0_1)] 30 .fix)) h.nx 0 1 = some [(.int .i64 x2')] ∧
  vcond (ltI 30 x2')
  (Q (.int .i64 2) (h.add (.cells [(.int .i64 x0_0), (.slice a0_1 n0_1 c0_1)] 30 .fix)))
  (∃ a3' n4' c5', readAt (h.add (.cells [(.int .i64 x0_0), (.slice a0_1 n0_1 c0_1)] 30 .fix)) h.nx 1 1 = some [(.slice a3' n4' c5')] ∧
  vcond (ltI 120 (Int.ofNat n4'))
  (Q (.int .i64 2) (h.add (.cells [(.int .i64 x0_0), (.slice a0_1 n0_1 c0_1)] 30 .fix)))
  (∃ a6' n7' c8', readAt (h.add (.cells [(.int .i64 x0_0), (.slice a0_1 n0_1 c0_1)] 30 .fix)) h.nx 1 1 = some [(.slice a6' n7' c8')] ∧
  I31_0 O Q x0_0 a0_1 n0_1 c0_1 h.nx 0 0 a6' n7' c8' (Int.ofNat n7') 0 (h.add (.cells [(.int .i64 x0_0), (.slice a0_1 n0_1 c0_1)] 30 .fix)))))
theorem rk31 {O Q} (x0_0 a0_1 n0_1 c0_1) {h : Hp} (hO : O 31 [(.agg #[(.int .i64 x0_0), (.slice a0_1 n0_1 c0_1)])] h = none) (hh : T31 O Q x0_0 a0_1 n0_1 c0_1 h) : Ret Tryd.prog O 31 [(.agg #[(.int .i64 x0_0), (.slice a0_1 n0_1 c0_1)])] h Q :=
  .of (c := b31) Tryd.func31 (by kernel_rfl) hO (V_ok (tb := lv31) (cuts := []) 500 (Eq.mp (by kernel_rfl) hh))
def T31_0 (O : CallF) (Q : Value → Hp → Prop) (x0_0 : Int) (a0_1 : Option Addr) (n0_1 : Nat) (c0_1 : Nat) (b1 : Nat) (f1 : Nat) (x2 : Int) (a20 : Option Addr) (n20 : Nat) (c20 : Nat) (x21 : Int) (x22 : Int) (h : Hp) : Prop :=
  vcond (ltI x22 x21)
  (isNat x22 fun n101' =>
  isAddr a20 fun b102' f103' =>
  vreq (Nat.blt n101' n20)
  (∃ a104' n105' c106', readAt h b102' (f103' + (n101' * 1)) 1 = some [(.slice a104' n105' c106')] ∧
  ∃ x107', readAt h b1 (f1 + 0) 1 = some [(.int .i64 x107')] ∧
  ∃ q108', ∃ h109', EvC Tryd.prog O 87 [(.slice a104' n105' c106'), (.int .i64 x107')] h (.bool q108') h109' ∧
  vcond (!q108')
  (Q (.int .i64 2) h109')
  (I31_0 O Q x0_0 a0_1 n0_1 c0_1 b1 f1 x2 a20 n20 c20 x21 (wrapF .i64 (x22 + 1)) h109')))
  (Q (.int .i64 0) h)
theorem I31_0.of {O Q} (x0_0 a0_1 n0_1 c0_1 b1 f1 x2 a20 n20 c20 x21 x22) {h : Hp} (hh : T31_0 O Q x0_0 a0_1 n0_1 c0_1 b1 f1 x2 a20 n20 c20 x21 x22 h) : I31_0 O Q x0_0 a0_1 n0_1 c0_1 b1 f1 x2 a20 n20 c20 x21 x22 h :=
  RKL.of (tb := lv31) (cuts := []) 500 fun _ => Eq.mp (by kernel_rfl) hh
/-! sward/swardref20.Check -/
noncomputable def b32 : Code := (Tryd.f32.body).getD .skip
def lv32 : List (Nat × List Nat) := []
def T32 (O : CallF) (Q : Value → Hp → Prop) (x0_0 : Int) (a0_1 : Option Addr) (n0_1 : Nat) (c0_1 : Nat) (h : Hp) : Prop :=
  ∃ x1', ∃ a2' n3' c4', readAt (h.add (.cells [(.int .i64 x0_0), (.slice a0_1 n0_1 c0_1)] 30 .fix)) h.nx 0 2 = some [(.int .i64 x1'), (.slice a2' n3' c4')] ∧
  ∃ q5', ∃ h6', EvC Tryd.prog O 85 [(.agg #[(.int .i64 x1'), (.slice a2' n3' c4')])] (h.add (.cells [(.int .i64 x0_0), (.slice a0_1 n0_1 c0_1)] 30 .fix)) (.bool q5') h6' ∧
  vcond (!q5')
  (Q (.int .i64 2) h6')
  (Q (.int .i64 0) h6')
theorem rk32 {O Q} (x0_0 a0_1 n0_1 c0_1) {h : Hp} (hO : O 32 [(.agg #[(.int .i64 x0_0), (.slice a0_1 n0_1 c0_1)])] h = none) (hh : T32 O Q x0_0 a0_1 n0_1 c0_1 h) : Ret Tryd.prog O 32 [(.agg #[(.int .i64 x0_0), (.slice a0_1 n0_1 c0_1)])] h Q :=
  .of (c := b32) Tryd.func32 (by kernel_rfl) hO (V_ok (tb := lv32) (cuts := []) 500 (Eq.mp (by kernel_rfl) hh))
/-! sward/swardref20.Count -/
noncomputable def b33 : Code := (Tryd.f33.body).getD .skip
def lv33 : List (Nat × List Nat) := []
def T33 (O : CallF) (Q : Value → Hp → Prop) (x0_0 : Int) (a0_1 : Option Addr) (n0_1 : Nat) (c0_1 : Nat) (h : Hp) : Prop :=
  ∃ x1', ∃ a2' n3' c4', readAt (h.add (.cells [(.int .i64 x0_0), (.slice a0_1 n0_1 c0_1)] 30 .fix)) h.nx 0 2 = some [(.int .i64 x1'), (.slice a2' n3' c4')] ∧
  ∃ q5', ∃ h6', EvC Tryd.prog O 85 [(.agg #[(.int .i64 x1'), (.slice a2' n3' c4')])] (h.add (.cells [(.int .i64 x0_0), (.slice a0_1 n0_1 c0_1)] 30 .fix)) (.bool q5') h6' ∧
  vcond (!q5')
  (Q (.tuple #[(.int .i64 0), (.int .i64 2)]) h6')
  (∃ x7', readAt h6' h.nx 0 1 = some [(.int .i64 x7')] ∧
  vcond (ltI 12 x7')
  (Q (.tuple #[(.int .i64 0), (.int .i64 3)]) h6')
  (∃ x8', ∃ a9' n10' c11', readAt h6' h.nx 0 2 = some [(.int .i64 x8'), (.slice a9' n10' c11')] ∧
  ∃ x12', ∃ h13', EvC Tryd.prog O 88 [(.agg #[(.int .i64 x8'), (.slice a9' n10' c11')]), (.slice none 0 0)] h6' (.int .i64 x12') h13' ∧
  Q (.tuple #[(.int .i64 x12'), (.int .i64 0)]) h13'))
theorem rk33 {O Q} (x0_0 a0_1 n0_1 c0_1) {h : Hp} (hO : O 33 [(.agg #[(.int .i64 x0_0), (.slice a0_1 n0_1 c0_1)])] h = none) (hh : T33 O Q x0_0 a0_1 n0_1 c0_1 h) : Ret Tryd.prog O 33 [(.agg #[(.int .i64 x0_0), (.slice a0_1 n0_1 c0_1)])] h Q :=
  .of (c := b33) Tryd.func33 (by kernel_rfl) hO (V_ok (tb := lv33) (cuts := []) 500 (Eq.mp (by kernel_rfl) hh))
/-! sward/sat.Count -/
noncomputable def b22 : Code := (Tryd.f22.body).getD .skip
noncomputable def stk22_0 : List KI := [.code (sub [1, 1, 1, 1, 1, 0, 1, 0] b22), .blk 1, .code (sub [1, 1, 1, 1, 1, 1] b22)]
def lv22 : List (Nat × List Nat) := [(1, [2, 3, 5, 6, 22, 23])]
def I22_0 (O : CallF) (Q : Value → Hp → Prop) (x0_0 : Int) (a0_1 : Option Addr) (n0_1 : Nat) (c0_1 : Nat) (a5 : Option Addr) (x6 : Int) (x22 : Int) (x23 : Int) (h : Hp) : Prop := RKL Tryd.prog O Tryd.f22 stk22_0 33 [2, 3, 5, 6, 22, 23] [(.int .i64 0), (.int .i64 0), (.pointer a5), (.int .i64 x6), (.int .u32 x22), (.int .u32 x23)] h Q
def T22 (O : CallF) (Q : Value → Hp → Prop) (x0_0 : Int) (a0_1 : Option Addr) (n0_1 : Nat) (c0_1 : Nat) (h : Hp) : Prop :=
  ∃ x1', ∃ a2' n3' c4', readAt (h.add (.cells [(.int .i64 x0_0), (.slice a0_1 n0_1 c0_1)] 30 .fix)) h.nx 0 2 = some [(.int .i64 x1'), (.slice a2' n3' c4')] ∧
  ∃ x5', ∃ h6', EvC Tryd.prog O 31 [(.agg #[(.int .i64 x1'), (.slice a2' n3' c4')])] (h.add (.cells [(.int .i64 x0_0), (.slice a0_1 n0_1 c0_1)] 30 .fix)) (.int .i64 x5') h6' ∧
  vcond (!(eqI x5' 0))
  (Q (.tuple #[(.int .i64 0), (.int .i64 x5')]) h6')
  (∃ x7', readAt h6' h.nx 0 1 = some [(.int .i64 x7')] ∧
  vcond (ltI 12 x7')
  (Q (.tuple #[(.int .i64 0), (.int .i64 3)]) h6')
  (∃ x8', ∃ a9' n10' c11', readAt h6' h.nx 0 2 = some [(.int .i64 x8'), (.slice a9' n10' c11')] ∧
  ∃ a12', ∃ h13', EvC Tryd.prog O 76 [(.agg #[(.int .i64 x8'), (.slice a9' n10' c11')]), (.slice none 0 0)] h6' (.pointer a12') h13' ∧
  ∃ x14', readAt h13' h.nx 0 1 = some [(.int .i64 x14')] ∧
  vreq (le0 x14')
  (I22_0 O Q x0_0 a0_1 n0_1 c0_1 a12' 0 (shlF .u32 1 (Int.toNat x14')) 0 h13')))
theorem rk22 {O Q} (x0_0 a0_1 n0_1 c0_1) {h : Hp} (hO : O 22 [(.agg #[(.int .i64 x0_0), (.slice a0_1 n0_1 c0_1)])] h = none) (hh : T22 O Q x0_0 a0_1 n0_1 c0_1 h) : Ret Tryd.prog O 22 [(.agg #[(.int .i64 x0_0), (.slice a0_1 n0_1 c0_1)])] h Q :=
  .of (c := b22) Tryd.func22 (by kernel_rfl) hO (V_ok (tb := lv22) (cuts := []) 500 (Eq.mp (by kernel_rfl) hh))
def T22_0 (O : CallF) (Q : Value → Hp → Prop) (x0_0 : Int) (a0_1 : Option Addr) (n0_1 : Nat) (c0_1 : Nat) (a5 : Option Addr) (x6 : Int) (x22 : Int) (x23 : Int) (h : Hp) : Prop :=
  vcond (ltI x23 x22)
  (∃ q101', ∃ h102', EvC Tryd.prog O 77 [(.pointer a5), (.int .u32 x23)] h (.bool q101') h102' ∧
  vcond q101'
  (I22_0 O Q x0_0 a0_1 n0_1 c0_1 a5 (wrapF .i64 (x6 + 1)) x22 (wrapF .u32 (x23 + 1)) h102')
  (I22_0 O Q x0_0 a0_1 n0_1 c0_1 a5 x6 x22 (wrapF .u32 (x23 + 1)) h102'))
  (Q (.tuple #[(.int .i64 x6), (.int .i64 0)]) h)
theorem I22_0.of {O Q} (x0_0 a0_1 n0_1 c0_1 a5 x6 x22 x23) {h : Hp} (hh : T22_0 O Q x0_0 a0_1 n0_1 c0_1 a5 x6 x22 x23 h) : I22_0 O Q x0_0 a0_1 n0_1 c0_1 a5 x6 x22 x23 h :=
  RKL.of (tb := lv22) (cuts := []) 500 fun _ => Eq.mp (by kernel_rfl) hh
/-! sward/sat.based -/
noncomputable def b76 : Code := (Tryd.f76.body).getD .skip
noncomputable def stk76_0 : List KI := [.code (sub [1, 1, 0, 1, 0] b76), .blk 0, .code (sub [1, 1, 1] b76)]
def lv76 : List (Nat × List Nat) := [(0, [4, 5, 14, 15, 16])]
def I76_0 (O : CallF) (Q : Value → Hp → Prop) (x0_0 : Int) (a0_1 : Option Addr) (n0_1 : Nat) (c0_1 : Nat) (a1 : Option Addr) (n1 : Nat) (c1 : Nat) (b5 : Nat) (f5 : Nat) (a14 : Option Addr) (n14 : Nat) (c14 : Nat) (x15 : Int) (x16 : Int) (h : Hp) : Prop := RKL Tryd.prog O Tryd.f76 stk76_0 33 [4, 5, 14, 15, 16] [(.pointer none), (.pointer (some ⟨b5, f5, none⟩)), (.slice a14 n14 c14), (.int .i64 x15), (.int .i64 x16)] h Q
def T76 (O : CallF) (Q : Value → Hp → Prop) (x0_0 : Int) (a0_1 : Option Addr) (n0_1 : Nat) (c0_1 : Nat) (a1 : Option Addr) (n1 : Nat) (c1 : Nat) (h : Hp) : Prop :=
  ∃ x1', readAt (h.add (.cells [(.int .i64 x0_0), (.slice a0_1 n0_1 c0_1)] 30 .fix)) h.nx 0 1 = some [(.int .i64 x1')] ∧
  ∃ a2' n3' c4', readAt ((h.add (.cells [(.int .i64 x0_0), (.slice a0_1 n0_1 c0_1)] 30 .fix)).add (.cells [(.int .i64 x1'), (.slice none 0 0), (.slice a1 n1 c1), (.int .i64 2000), (.slice none 0 0)] 128 .fix)) h.nx 1 1 = some [(.slice a2' n3' c4')] ∧
  I76_0 O Q x0_0 a0_1 n0_1 c0_1 a1 n1 c1 (h.add (.cells [(.int .i64 x0_0), (.slice a0_1 n0_1 c0_1)] 30 .fix)).nx 0 a2' n3' c4' (Int.ofNat n3') 0 ((h.add (.cells [(.int .i64 x0_0), (.slice a0_1 n0_1 c0_1)] 30 .fix)).add (.cells [(.int .i64 x1'), (.slice none 0 0), (.slice a1 n1 c1), (.int .i64 2000), (.slice none 0 0)] 128 .fix))
theorem rk76 {O Q} (x0_0 a0_1 n0_1 c0_1 a1 n1 c1) {h : Hp} (hO : O 76 [(.agg #[(.int .i64 x0_0), (.slice a0_1 n0_1 c0_1)]), (.slice a1 n1 c1)] h = none) (hh : T76 O Q x0_0 a0_1 n0_1 c0_1 a1 n1 c1 h) : Ret Tryd.prog O 76 [(.agg #[(.int .i64 x0_0), (.slice a0_1 n0_1 c0_1)]), (.slice a1 n1 c1)] h Q :=
  .of (c := b76) Tryd.func76 (by kernel_rfl) hO (V_ok (tb := lv76) (cuts := []) 500 (Eq.mp (by kernel_rfl) hh))
def T76_0 (O : CallF) (Q : Value → Hp → Prop) (x0_0 : Int) (a0_1 : Option Addr) (n0_1 : Nat) (c0_1 : Nat) (a1 : Option Addr) (n1 : Nat) (c1 : Nat) (b5 : Nat) (f5 : Nat) (a14 : Option Addr) (n14 : Nat) (c14 : Nat) (x15 : Int) (x16 : Int) (h : Hp) : Prop :=
  vcond (ltI x16 x15)
  (isNat x16 fun n101' =>
  isAddr a14 fun b102' f103' =>
  vreq (Nat.blt n101' n14)
  (∃ a104' n105' c106', readAt h b102' (f103' + (n101' * 1)) 1 = some [(.slice a104' n105' c106')] ∧
  ∃ a107' n108' c109', readAt (h.rsv 12) b5 (f5 + 1) 1 = some [(.slice a107' n108' c109')] ∧
  ∃ x110', ∃ x111', ∃ h112', EvC Tryd.prog O 107 [(.slice a104' n105' c106')] ((h.rsv 12).grd [b5]) (.agg #[(.int .u32 x110'), (.int .u32 x111')]) h112' ∧
  vreq ((h112'.rst (h.rsv 12)).free (h.nx + 7))
  (∃ a113' n114' c115' h116', appendV Tryd.prog (((h112'.rst (h.rsv 12)).lay (h.nx + 7) (.cells [(.int .u32 x110'), (.int .u32 x111')] 130 .fix)).grd []) 126 126 (.slice a107' n108' c109') (.slice (some ⟨(h.nx + 7), 0, none⟩) 1 1) = some (.slice a113' n114' c115', h116') ∧
  vreq (canW ((h116'.rst ((h112'.rst (h.rsv 12)).lay (h.nx + 7) (.cells [(.int .u32 x110'), (.int .u32 x111')] 130 .fix))).grd []) b5 (f5 + 1) [(.slice a113' n114' c115')])
  (I76_0 O Q x0_0 a0_1 n0_1 c0_1 a1 n1 c1 b5 f5 a14 n14 c14 x15 (wrapF .i64 (x16 + 1)) ((((h116'.rst ((h112'.rst (h.rsv 12)).lay (h.nx + 7) (.cells [(.int .u32 x110'), (.int .u32 x111')] 130 .fix))).grd []).wr b5 (f5 + 1) [(.slice a113' n114' c115')]).rst (h116'.rst ((h112'.rst (h.rsv 12)).lay (h.nx + 7) (.cells [(.int .u32 x110'), (.int .u32 x111')] 130 .fix))))))))
  (Q (.pointer (some ⟨b5, f5, none⟩)) h)
theorem I76_0.of {O Q} (x0_0 a0_1 n0_1 c0_1 a1 n1 c1 b5 f5 a14 n14 c14 x15 x16) {h : Hp} (hh : T76_0 O Q x0_0 a0_1 n0_1 c0_1 a1 n1 c1 b5 f5 a14 n14 c14 x15 x16 h) : I76_0 O Q x0_0 a0_1 n0_1 c0_1 a1 n1 c1 b5 f5 a14 n14 c14 x15 x16 h :=
  RKL.of (tb := lv76) (cuts := []) 500 fun _ => Eq.mp (by kernel_rfl) hh
/-! (*sward/sat.base).holds -/
noncomputable def b77 : Code := (Tryd.f77.body).getD .skip
noncomputable def stk77_0 : List KI := [.code (sub [1, 0, 1, 0] b77), .blk 0, .code (sub [1, 1] b77)]
def lv77 : List (Nat × List Nat) := [(0, [1, 4, 10, 11, 12])]
def I77_0 (O : CallF) (Q : Value → Hp → Prop) (b0 : Nat) (f0 : Nat) (x1 : Int) (q4 : Bool) (a10 : Option Addr) (n10 : Nat) (c10 : Nat) (x11 : Int) (x12 : Int) (h : Hp) : Prop := RKL Tryd.prog O Tryd.f77 stk77_0 27 [1, 4, 10, 11, 12] [(.int .u32 x1), (.bool q4), (.slice a10 n10 c10), (.int .i64 x11), (.int .i64 x12)] h Q
def T77 (O : CallF) (Q : Value → Hp → Prop) (b0 : Nat) (f0 : Nat) (x1 : Int) (h : Hp) : Prop :=
  ∃ a1' n2' c3', readAt h b0 (f0 + 1) 1 = some [(.slice a1' n2' c3')] ∧
  I77_0 O Q b0 f0 x1 false a1' n2' c3' (Int.ofNat n2') 0 h
theorem rk77 {O Q} (b0 f0 x1) {h : Hp} (hO : O 77 [(.pointer (some ⟨b0, f0, none⟩)), (.int .u32 x1)] h = none) (hh : T77 O Q b0 f0 x1 h) : Ret Tryd.prog O 77 [(.pointer (some ⟨b0, f0, none⟩)), (.int .u32 x1)] h Q :=
  .of (c := b77) Tryd.func77 (by kernel_rfl) hO (V_ok (tb := lv77) (cuts := []) 500 (Eq.mp (by kernel_rfl) hh))
def T77_0 (O : CallF) (Q : Value → Hp → Prop) (b0 : Nat) (f0 : Nat) (x1 : Int) (q4 : Bool) (a10 : Option Addr) (n10 : Nat) (c10 : Nat) (x11 : Int) (x12 : Int) (h : Hp) : Prop :=
  vcond (ltI x12 x11)
  (isNat x12 fun n101' =>
  isAddr a10 fun b102' f103' =>
  vreq (Nat.blt n101' n10)
  (∃ x104', ∃ x105', readAt h b102' (f103' + (n101' * 2)) 2 = some [(.int .u32 x104'), (.int .u32 x105')] ∧
  vreq (canW (h.add (.cells [(.int .u32 0), (.int .u32 0)] 130 .fix)) h.nx 0 [(.int .u32 x104'), (.int .u32 x105')])
  (∃ x106', readAt ((h.add (.cells [(.int .u32 0), (.int .u32 0)] 130 .fix)).wr h.nx 0 [(.int .u32 x104'), (.int .u32 x105')]) h.nx 0 1 = some [(.int .u32 x106')] ∧
  vreq (inD 4294967296 x106')
  (vreq (inD 4294967296 x1)
  (∃ x107', readAt ((h.add (.cells [(.int .u32 0), (.int .u32 0)] 130 .fix)).wr h.nx 0 [(.int .u32 x104'), (.int .u32 x105')]) h.nx 1 1 = some [(.int .u32 x107')] ∧
  vreq (inD 4294967296 x107')
  (vreq (inD 4294967296 x1)
  (vreq (inD 4294967296 (landI x106' x1))
  (vreq (inD 4294967296 (andnI x107' x1))
  (vcond (eqI (lorI (landI x106' x1) (andnI x107' x1)) 0)
  (Q (.bool false) ((h.add (.cells [(.int .u32 0), (.int .u32 0)] 130 .fix)).wr h.nx 0 [(.int .u32 x104'), (.int .u32 x105')]))
  (I77_0 O Q b0 f0 x1 q4 a10 n10 c10 x11 (wrapF .i64 (x12 + 1)) ((h.add (.cells [(.int .u32 0), (.int .u32 0)] 130 .fix)).wr h.nx 0 [(.int .u32 x104'), (.int .u32 x105')])))))))))))
  (Q (.bool true) h)
theorem I77_0.of {O Q} (b0 f0 x1 q4 a10 n10 c10 x11 x12) {h : Hp} (hh : T77_0 O Q b0 f0 x1 q4 a10 n10 c10 x11 x12 h) : I77_0 O Q b0 f0 x1 q4 a10 n10 c10 x11 x12 h :=
  RKL.of (tb := lv77) (cuts := []) 500 fun _ => Eq.mp (by kernel_rfl) hh
/-! sward/swardref20.Formed -/
noncomputable def b85 : Code := (Tryd.f85.body).getD .skip
noncomputable def stk85_0 : List KI := [.code (sub [1, 1, 0, 1, 0] b85), .blk 0, .code (sub [1, 1, 1] b85)]
def lv85 : List (Nat × List Nat) := [(0, [1, 2, 3])]
def I85_0 (O : CallF) (Q : Value → Hp → Prop) (x0_0 : Int) (a0_1 : Option Addr) (n0_1 : Nat) (c0_1 : Nat) (b1 : Nat) (f1 : Nat) (q2 : Bool) (x3 : Int) (h : Hp) : Prop := RKL Tryd.prog O Tryd.f85 stk85_0 34 [1, 2, 3] [(.pointer (some ⟨b1, f1, none⟩)), (.bool q2), (.int .i64 x3)] h Q
def T85 (O : CallF) (Q : Value → Hp → Prop) (x0_0 : Int) (a0_1 : Option Addr) (n0_1 : Nat) (c0_1 : Nat) (h : Hp) : Prop :=
  ∃ x1', readAt (h.add (.cells [(.int .i64 x0_0), (.slice a0_1 n0_1 c0_1)] 30 .fix)) h.nx 0 1 = some [(.int .i64 x1')] ∧
  vcond (ltI x1' 0)
  (Q (.bool false) (h.add (.cells [(.int .i64 x0_0), (.slice a0_1 n0_1 c0_1)] 30 .fix)))
  (∃ x2', readAt (h.add (.cells [(.int .i64 x0_0), (.slice a0_1 n0_1 c0_1)] 30 .fix)) h.nx 0 1 = some [(.int .i64 x2')] ∧
  vcond (ltI 30 x2')
  (Q (.bool false) (h.add (.cells [(.int .i64 x0_0), (.slice a0_1 n0_1 c0_1)] 30 .fix)))
  (∃ a3' n4' c5', readAt (h.add (.cells [(.int .i64 x0_0), (.slice a0_1 n0_1 c0_1)] 30 .fix)) h.nx 1 1 = some [(.slice a3' n4' c5')] ∧
  vcond (ltI 120 (Int.ofNat n4'))
  (Q (.bool false) (h.add (.cells [(.int .i64 x0_0), (.slice a0_1 n0_1 c0_1)] 30 .fix)))
  (I85_0 O Q x0_0 a0_1 n0_1 c0_1 h.nx 0 false 0 (h.add (.cells [(.int .i64 x0_0), (.slice a0_1 n0_1 c0_1)] 30 .fix)))))
theorem rk85 {O Q} (x0_0 a0_1 n0_1 c0_1) {h : Hp} (hO : O 85 [(.agg #[(.int .i64 x0_0), (.slice a0_1 n0_1 c0_1)])] h = none) (hh : T85 O Q x0_0 a0_1 n0_1 c0_1 h) : Ret Tryd.prog O 85 [(.agg #[(.int .i64 x0_0), (.slice a0_1 n0_1 c0_1)])] h Q :=
  .of (c := b85) Tryd.func85 (by kernel_rfl) hO (V_ok (tb := lv85) (cuts := []) 500 (Eq.mp (by kernel_rfl) hh))
def T85_0 (O : CallF) (Q : Value → Hp → Prop) (x0_0 : Int) (a0_1 : Option Addr) (n0_1 : Nat) (c0_1 : Nat) (b1 : Nat) (f1 : Nat) (q2 : Bool) (x3 : Int) (h : Hp) : Prop :=
  ∃ a101' n102' c103', readAt h b1 (f1 + 1) 1 = some [(.slice a101' n102' c103')] ∧
  vcond (ltI x3 (Int.ofNat n102'))
  (∃ a104' n105' c106', readAt (h.rsv 9) b1 (f1 + 1) 1 = some [(.slice a104' n105' c106')] ∧
  isNat x3 fun n107' =>
  isAddr a104' fun b108' f109' =>
  vreq (Nat.blt n107' n105')
  (∃ a110' n111' c112', readAt (h.rsv 9) b108' (f109' + (n107' * 1)) 1 = some [(.slice a110' n111' c112')] ∧
  ∃ x113', readAt (h.rsv 9) b1 (f1 + 0) 1 = some [(.int .i64 x113')] ∧
  ∃ q114', ∃ h115', EvC Tryd.prog O 105 [(.slice a110' n111' c112'), (.int .i64 x113')] ((h.rsv 9).grd []) (.bool q114') h115' ∧
  vcond (!q114')
  (Q (.bool false) (h115'.rst (h.rsv 9)))
  (I85_0 O Q x0_0 a0_1 n0_1 c0_1 b1 f1 q2 (wrapF .i64 (x3 + 1)) (h115'.rst (h.rsv 9)))))
  (Q (.bool true) h)
theorem I85_0.of {O Q} (x0_0 a0_1 n0_1 c0_1 b1 f1 q2 x3) {h : Hp} (hh : T85_0 O Q x0_0 a0_1 n0_1 c0_1 b1 f1 q2 x3 h) : I85_0 O Q x0_0 a0_1 n0_1 c0_1 b1 f1 q2 x3 h :=
  RKL.of (tb := lv85) (cuts := []) 500 fun _ => Eq.mp (by kernel_rfl) hh
/-! sward/swardref20.satisfied -/
noncomputable def b86 : Code := (Tryd.f86.body).getD .skip
noncomputable def stk86_0 : List KI := [.code (sub [1, 0, 1, 0] b86), .blk 0, .code (sub [1, 1] b86)]
def lv86 : List (Nat × List Nat) := [(0, [0, 1, 4, 5])]
def I86_0 (O : CallF) (Q : Value → Hp → Prop) (a0 : Option Addr) (n0 : Nat) (c0 : Nat) (a1 : Option Addr) (n1 : Nat) (c1 : Nat) (q4 : Bool) (x5 : Int) (h : Hp) : Prop := RKL Tryd.prog O Tryd.f86 stk86_0 19 [0, 1, 4, 5] [(.slice a0 n0 c0), (.slice a1 n1 c1), (.bool q4), (.int .i64 x5)] h Q
def T86 (O : CallF) (Q : Value → Hp → Prop) (a0 : Option Addr) (n0 : Nat) (c0 : Nat) (a1 : Option Addr) (n1 : Nat) (c1 : Nat) (h : Hp) : Prop :=
  I86_0 O Q a0 n0 c0 a1 n1 c1 false 0 h
theorem rk86 {O Q} (a0 n0 c0 a1 n1 c1) {h : Hp} (hO : O 86 [(.slice a0 n0 c0), (.slice a1 n1 c1)] h = none) (hh : T86 O Q a0 n0 c0 a1 n1 c1 h) : Ret Tryd.prog O 86 [(.slice a0 n0 c0), (.slice a1 n1 c1)] h Q :=
  .of (c := b86) Tryd.func86 (by kernel_rfl) hO (V_ok (tb := lv86) (cuts := []) 500 (Eq.mp (by kernel_rfl) hh))
def T86_0 (O : CallF) (Q : Value → Hp → Prop) (a0 : Option Addr) (n0 : Nat) (c0 : Nat) (a1 : Option Addr) (n1 : Nat) (c1 : Nat) (q4 : Bool) (x5 : Int) (h : Hp) : Prop :=
  vcond (ltI x5 (Int.ofNat n1))
  (isNat x5 fun n101' =>
  isAddr a1 fun b102' f103' =>
  vreq (Nat.blt n101' n1)
  (∃ x104', readAt h b102' (f103' + (n101' * 1)) 1 = some [(.int .i64 x104')] ∧
  ∃ x105', ∃ h106', EvC Tryd.prog O 118 [(.slice a0 n0 c0), (.int .i64 x104')] h (.int .i64 x105') h106' ∧
  vcond (ltI 0 x105')
  (Q (.bool true) h106')
  (I86_0 O Q a0 n0 c0 a1 n1 c1 q4 (wrapF .i64 (x5 + 1)) h106')))
  (Q (.bool false) h)
theorem I86_0.of {O Q} (a0 n0 c0 a1 n1 c1 q4 x5) {h : Hp} (hh : T86_0 O Q a0 n0 c0 a1 n1 c1 q4 x5 h) : I86_0 O Q a0 n0 c0 a1 n1 c1 q4 x5 h :=
  RKL.of (tb := lv86) (cuts := []) 500 fun _ => Eq.mp (by kernel_rfl) hh
/-! sward/swardref20.models -/
noncomputable def b88 : Code := (Tryd.f88.body).getD .skip
def lv88 : List (Nat × List Nat) := []
def T88 (O : CallF) (Q : Value → Hp → Prop) (x0_0 : Int) (a0_1 : Option Addr) (n0_1 : Nat) (c0_1 : Nat) (a1 : Option Addr) (n1 : Nat) (c1 : Nat) (h : Hp) : Prop :=
  ∃ x1', readAt (h.add (.cells [(.int .i64 x0_0), (.slice a0_1 n0_1 c0_1)] 30 .fix)) h.nx 0 1 = some [(.int .i64 x1')] ∧
  vcond (eqI (Int.ofNat n1) x1')
  (∃ x2', ∃ a3' n4' c5', readAt (h.add (.cells [(.int .i64 x0_0), (.slice a0_1 n0_1 c0_1)] 30 .fix)) h.nx 0 2 = some [(.int .i64 x2'), (.slice a3' n4' c5')] ∧
  ∃ q6', ∃ x7', ∃ h8', EvC Tryd.prog O 30 [(.agg #[(.int .i64 x2'), (.slice a3' n4' c5')]), (.slice a1 n1 c1)] (h.add (.cells [(.int .i64 x0_0), (.slice a0_1 n0_1 c0_1)] 30 .fix)) (.tuple #[(.bool q6'), (.int .i64 x7')]) h8' ∧
  vcond q6'
  (Q (.int .i64 1) h8')
  (Q (.int .i64 0) h8'))
  (∃ a9' n10' c11' h12', appendV Tryd.prog ((h.add (.cells [(.int .i64 x0_0), (.slice a0_1 n0_1 c0_1)] 30 .fix)).add (.cells [] 4 .fix)) 40 40 (.slice (some ⟨(h.add (.cells [(.int .i64 x0_0), (.slice a0_1 n0_1 c0_1)] 30 .fix)).nx, 0, none⟩) 0 0) (.slice a1 n1 c1) = some (.slice a9' n10' c11', h12') ∧
  ∃ x13', ∃ a14' n15' c16', readAt (h12'.rsv 14) h.nx 0 2 = some [(.int .i64 x13'), (.slice a14' n15' c16')] ∧
  ∃ x17', ∃ a18' n19' c20', readAt (h12'.rsv 14) h.nx 0 2 = some [(.int .i64 x17'), (.slice a18' n19' c20')] ∧
  vreq ((h12'.rsv 14).free (h12'.nx + 2))
  (∃ a21' n22' c23' h24', appendV Tryd.prog (((h12'.rsv 14).lay (h12'.nx + 2) (.cells [(.bool false)] 4 .fix)).grd [h.nx, h.nx]) 40 40 (.slice a9' n10' c11') (.slice (some ⟨(h12'.nx + 2), 0, none⟩) 1 1) = some (.slice a21' n22' c23', h24') ∧
  ∃ x25', ∃ h26', EvC Tryd.prog O 88 [(.agg #[(.int .i64 x13'), (.slice a14' n15' c16')]), (.slice a21' n22' c23')] ((h24'.rst ((h12'.rsv 14).lay (h12'.nx + 2) (.cells [(.bool false)] 4 .fix))).grd [h.nx]) (.int .i64 x25') h26' ∧
  vreq ((h26'.rst (h24'.rst ((h12'.rsv 14).lay (h12'.nx + 2) (.cells [(.bool false)] 4 .fix)))).free (h12'.nx + 6))
  (∃ a27' n28' c29' h30', appendV Tryd.prog (((h26'.rst (h24'.rst ((h12'.rsv 14).lay (h12'.nx + 2) (.cells [(.bool false)] 4 .fix)))).lay (h12'.nx + 6) (.cells [] 4 .fix)).grd [h.nx]) 40 40 (.slice (some ⟨(h12'.nx + 6), 0, none⟩) 0 0) (.slice a1 n1 c1) = some (.slice a27' n28' c29', h30') ∧
  vreq ((h30'.rst ((h26'.rst (h24'.rst ((h12'.rsv 14).lay (h12'.nx + 2) (.cells [(.bool false)] 4 .fix)))).lay (h12'.nx + 6) (.cells [] 4 .fix))).free (h12'.nx + 9))
  (∃ a31' n32' c33' h34', appendV Tryd.prog (((h30'.rst ((h26'.rst (h24'.rst ((h12'.rsv 14).lay (h12'.nx + 2) (.cells [(.bool false)] 4 .fix)))).lay (h12'.nx + 6) (.cells [] 4 .fix))).lay (h12'.nx + 9) (.cells [(.bool true)] 4 .fix)).grd [h.nx]) 40 40 (.slice a27' n28' c29') (.slice (some ⟨(h12'.nx + 9), 0, none⟩) 1 1) = some (.slice a31' n32' c33', h34') ∧
  ∃ x35', ∃ h36', EvC Tryd.prog O 88 [(.agg #[(.int .i64 x17'), (.slice a18' n19' c20')]), (.slice a31' n32' c33')] ((h34'.rst ((h30'.rst ((h26'.rst (h24'.rst ((h12'.rsv 14).lay (h12'.nx + 2) (.cells [(.bool false)] 4 .fix)))).lay (h12'.nx + 6) (.cells [] 4 .fix))).lay (h12'.nx + 9) (.cells [(.bool true)] 4 .fix))).grd []) (.int .i64 x35') h36' ∧
  Q (.int .i64 (wrapF .i64 (x25' + x35'))) (h36'.rst (h34'.rst ((h30'.rst ((h26'.rst (h24'.rst ((h12'.rsv 14).lay (h12'.nx + 2) (.cells [(.bool false)] 4 .fix)))).lay (h12'.nx + 6) (.cells [] 4 .fix))).lay (h12'.nx + 9) (.cells [(.bool true)] 4 .fix))))))))
theorem rk88 {O Q} (x0_0 a0_1 n0_1 c0_1 a1 n1 c1) {h : Hp} (hO : O 88 [(.agg #[(.int .i64 x0_0), (.slice a0_1 n0_1 c0_1)]), (.slice a1 n1 c1)] h = none) (hh : T88 O Q x0_0 a0_1 n0_1 c0_1 a1 n1 c1 h) : Ret Tryd.prog O 88 [(.agg #[(.int .i64 x0_0), (.slice a0_1 n0_1 c0_1)]), (.slice a1 n1 c1)] h Q :=
  .of (c := b88) Tryd.func88 (by kernel_rfl) hO (V_ok (tb := lv88) (cuts := []) 500 (Eq.mp (by kernel_rfl) hh))
/-! sward/sat.split -/
noncomputable def b107 : Code := (Tryd.f107.body).getD .skip
noncomputable def stk107_0 : List KI := [.code (sub [1, 1, 0, 1, 0] b107), .blk 0, .code (sub [1, 1, 1] b107)]
def lv107 : List (Nat × List Nat) := [(0, [2, 3, 6, 7, 8])]
def I107_0 (O : CallF) (Q : Value → Hp → Prop) (a0 : Option Addr) (n0 : Nat) (c0 : Nat) (b2 : Nat) (f2 : Nat) (b3 : Nat) (f3 : Nat) (x8 : Int) (h : Hp) : Prop := RKL Tryd.prog O Tryd.f107 stk107_0 28 [2, 3, 6, 7, 8] [(.pointer (some ⟨b2, f2, none⟩)), (.pointer (some ⟨b3, f3, none⟩)), (.slice a0 n0 c0), (.int .i64 (Int.ofNat n0)), (.int .i64 x8)] h Q
def T107 (O : CallF) (Q : Value → Hp → Prop) (a0 : Option Addr) (n0 : Nat) (c0 : Nat) (h : Hp) : Prop :=
  I107_0 O Q a0 n0 c0 h.nx 0 (h.add (.cells [(.int .u32 0), (.int .u32 0)] 130 .fix)).nx 0 0 ((h.add (.cells [(.int .u32 0), (.int .u32 0)] 130 .fix)).add (.cells [(.int .u32 0), (.int .u32 0)] 130 .fix))
theorem rk107 {O Q} (a0 n0 c0) {h : Hp} (hO : O 107 [(.slice a0 n0 c0)] h = none) (hh : T107 O Q a0 n0 c0 h) : Ret Tryd.prog O 107 [(.slice a0 n0 c0)] h Q :=
  .of (c := b107) Tryd.func107 (by kernel_rfl) hO (V_ok (tb := lv107) (cuts := []) 500 (Eq.mp (by kernel_rfl) hh))
def T107_0 (O : CallF) (Q : Value → Hp → Prop) (a0 : Option Addr) (n0 : Nat) (c0 : Nat) (b2 : Nat) (f2 : Nat) (b3 : Nat) (f3 : Nat) (x8 : Int) (h : Hp) : Prop :=
  vcond (ltI x8 (Int.ofNat n0))
  (isNat x8 fun n101' =>
  isAddr a0 fun b102' f103' =>
  vreq (Nat.blt n101' n0)
  (∃ x104', readAt h b102' (f103' + (n101' * 1)) 1 = some [(.int .i64 x104')] ∧
  vcond (ltI 0 x104')
  (∃ x105', readAt (h.rsv 7) b3 (f3 + 0) 1 = some [(.int .u32 x105')] ∧
  ∃ x106', ∃ h107', EvC Tryd.prog O 84 [(.int .i64 x104')] ((h.rsv 7).grd [b3]) (.int .u32 x106') h107' ∧
  vreq (inD 4294967296 x105')
  (vreq (inD 4294967296 x106')
  (vreq (canW ((h107'.rst (h.rsv 7)).grd []) b3 (f3 + 0) [(.int .u32 (lorI x105' x106'))])
  (I107_0 O Q a0 n0 c0 b2 f2 b3 f3 (wrapF .i64 (x8 + 1)) ((((h107'.rst (h.rsv 7)).grd []).wr b3 (f3 + 0) [(.int .u32 (lorI x105' x106'))]).rst (h107'.rst (h.rsv 7)))))))
  (∃ x108', readAt (h.rsv 7) b3 (f3 + 1) 1 = some [(.int .u32 x108')] ∧
  ∃ x109', ∃ h110', EvC Tryd.prog O 84 [(.int .i64 x104')] ((h.rsv 7).grd [b3]) (.int .u32 x109') h110' ∧
  vreq (inD 4294967296 x108')
  (vreq (inD 4294967296 x109')
  (vreq (canW ((h110'.rst (h.rsv 7)).grd []) b3 (f3 + 1) [(.int .u32 (lorI x108' x109'))])
  (I107_0 O Q a0 n0 c0 b2 f2 b3 f3 (wrapF .i64 (x8 + 1)) ((((h110'.rst (h.rsv 7)).grd []).wr b3 (f3 + 1) [(.int .u32 (lorI x108' x109'))]).rst (h110'.rst (h.rsv 7)))))))))
  (∃ x111', ∃ x112', readAt h b3 f3 2 = some [(.int .u32 x111'), (.int .u32 x112')] ∧
  vreq (canW h b2 f2 [(.int .u32 x111'), (.int .u32 x112')])
  (∃ x113', ∃ x114', readAt (h.wr b2 f2 [(.int .u32 x111'), (.int .u32 x112')]) b2 f2 2 = some [(.int .u32 x113'), (.int .u32 x114')] ∧
  Q (.agg #[(.int .u32 x113'), (.int .u32 x114')]) (h.wr b2 f2 [(.int .u32 x111'), (.int .u32 x112')])))
theorem I107_0.of {O Q} (a0 n0 c0 b2 f2 b3 f3 x8) {h : Hp} (hh : T107_0 O Q a0 n0 c0 b2 f2 b3 f3 x8 h) : I107_0 O Q a0 n0 c0 b2 f2 b3 f3 x8 h :=
  RKL.of (tb := lv107) (cuts := []) 500 fun _ => Eq.mp (by kernel_rfl) hh
/-! sward/swardref20.truth -/
noncomputable def b118 : Code := (Tryd.f118.body).getD .skip
def lv118 : List (Nat × List Nat) := []
def T118 (O : CallF) (Q : Value → Hp → Prop) (a0 : Option Addr) (n0 : Nat) (c0 : Nat) (x1 : Int) (h : Hp) : Prop :=
  vcond (ltI x1 0)
  (isNat (wrapF .i64 (0 - x1)) fun n1' =>
  isAddr a0 fun b2' f3' =>
  vreq (Nat.blt n1' n0)
  (∃ x4', readAt h b2' (f3' + (n1' * 1)) 1 = some [(.int .i64 x4')] ∧
  Q (.int .i64 (wrapF .i64 (0 - x4'))) h))
  (isNat x1 fun n5' =>
  isAddr a0 fun b6' f7' =>
  vreq (Nat.blt n5' n0)
  (∃ x8', readAt h b6' (f7' + (n5' * 1)) 1 = some [(.int .i64 x8')] ∧
  Q (.int .i64 x8') h))
theorem rk118 {O Q} (a0 n0 c0 x1) {h : Hp} (hO : O 118 [(.slice a0 n0 c0), (.int .i64 x1)] h = none) (hh : T118 O Q a0 n0 c0 x1 h) : Ret Tryd.prog O 118 [(.slice a0 n0 c0), (.int .i64 x1)] h Q :=
  .of (c := b118) Tryd.func118 (by kernel_rfl) hO (V_ok (tb := lv118) (cuts := []) 500 (Eq.mp (by kernel_rfl) hh))
end Go.Proofs.YtfgfhplgnfbaaaaDoor
