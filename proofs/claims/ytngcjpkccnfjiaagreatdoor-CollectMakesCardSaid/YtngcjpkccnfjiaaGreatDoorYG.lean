/- Conditions of functions' code, printed by a program of ours. -/
import Derived.Test.YtngcjpkccnfjiaaGreatDoorProg
import Derived.Test.YtngcjpkccnfjiaaGreatDoorYC
import Derived.KernelRfl
import Derived.Test.YtngcjpkccnfjiaaGreatDoorYF
namespace Go.Proofs.YtngcjpkccnfjiaaGreatDoor
open Go Go.Ev
set_option maxRecDepth 100000
set_option linter.unusedVariables false
/-! sward/swardlaw15.CollectMakes -/
noncomputable def b4 : Code := (Tryz.f4.body).getD .skip
def lv4 : List (Nat × List Nat) := []
def T4 (O : CallF) (Q : Value → Hp → Prop) (a0_0 : Option Addr) (n0_0 : Nat) (c0_0 : Nat) (x0_1 : Int) (a0_2 : Option Addr) (n0_2 : Nat) (c0_2 : Nat) (x1 : Int) (a2 : Option Addr) (n2 : Nat) (c2 : Nat) (x3 : Int) (x4 : Int) (x5 : Int) (h : Hp) : Prop :=
  let g1 : Hp := h.add (.cells [(.slice a0_0 n0_0 c0_0), (.int .i64 x0_1), (.slice a0_2 n0_2 c0_2)] 24 .fix)
  ∃ a2' n3' c4', ∃ x5', ∃ a6' n7' c8', readAt g1 h.nx 0 3 = some [(.slice a2' n3' c4'), (.int .i64 x5'), (.slice a6' n7' c8')] ∧
  ∃ q9', ∃ h10', EvC Tryz.prog O 13 [(.agg #[(.slice a2' n3' c4'), (.int .i64 x5'), (.slice a6' n7' c8')]), (.slice a2 n2 c2)] g1 (.bool q9') h10' ∧
  vcond q9'
  (∃ q11', ∃ h12', EvC Tryz.prog O 14 [] h10' (.bool q11') h12' ∧
  Q (.bool q11') h12')
  (∃ a13' n14' c15', ∃ x16', ∃ a17' n18' c19', readAt h10' h.nx 0 3 = some [(.slice a13' n14' c15'), (.int .i64 x16'), (.slice a17' n18' c19')] ∧
  ∃ a20' n21' c22', ∃ x23', ∃ a24' n25' c26', ∃ x27', ∃ x28', ∃ h29', EvC Tryz.prog O 24 [(.agg #[(.slice a13' n14' c15'), (.int .i64 x16'), (.slice a17' n18' c19')]), (.int .i64 x1), (.slice a2 n2 c2)] h10' (.tuple #[(.agg #[(.slice a20' n21' c22'), (.int .i64 x23'), (.slice a24' n25' c26')]), (.int .i64 x27'), (.int .i64 x28')]) h29' ∧
  let g30 : Hp := h29'.add (.cells [(.slice none 0 0), (.int .i64 0), (.slice none 0 0)] 24 .fix)
  vreq (canW g30 h29'.nx 0 [(.slice a20' n21' c22'), (.int .i64 x23'), (.slice a24' n25' c26')])
  (let g31 : Hp := g30.wr h29'.nx 0 [(.slice a20' n21' c22'), (.int .i64 x23'), (.slice a24' n25' c26')]
  ∃ a32' n33' c34', ∃ x35', ∃ a36' n37' c38', readAt g31 h.nx 0 3 = some [(.slice a32' n33' c34'), (.int .i64 x35'), (.slice a36' n37' c38')] ∧
  ∃ a39' n40' c41', ∃ x42', ∃ a43' n44' c45', ∃ x46', ∃ x47', ∃ h48', EvC Tryz.prog O 25 [(.agg #[(.slice a32' n33' c34'), (.int .i64 x35'), (.slice a36' n37' c38')]), (.int .i64 x1), (.slice a2 n2 c2)] g31 (.tuple #[(.agg #[(.slice a39' n40' c41'), (.int .i64 x42'), (.slice a43' n44' c45')]), (.int .i64 x46'), (.int .i64 x47')]) h48' ∧
  let g49 : Hp := h48'.add (.cells [(.slice none 0 0), (.int .i64 0), (.slice none 0 0)] 24 .fix)
  vreq (canW g49 h48'.nx 0 [(.slice a39' n40' c41'), (.int .i64 x42'), (.slice a43' n44' c45')])
  (let g50 : Hp := g49.wr h48'.nx 0 [(.slice a39' n40' c41'), (.int .i64 x42'), (.slice a43' n44' c45')]
  ∃ a51' n52' c53', ∃ x54', ∃ a55' n56' c57', readAt g50 h29'.nx 0 3 = some [(.slice a51' n52' c53'), (.int .i64 x54'), (.slice a55' n56' c57')] ∧
  ∃ a58' n59' c60', ∃ x61', ∃ a62' n63' c64', readAt g50 h48'.nx 0 3 = some [(.slice a58' n59' c60'), (.int .i64 x61'), (.slice a62' n63' c64')] ∧
  ∃ q65', ∃ h66', EvC Tryz.prog O 19 [(.agg #[(.slice a51' n52' c53'), (.int .i64 x54'), (.slice a55' n56' c57')]), (.agg #[(.slice a58' n59' c60'), (.int .i64 x61'), (.slice a62' n63' c64')])] g50 (.bool q65') h66' ∧
  vcond (!q65')
  (Q (.bool false) h66')
  (vcond (!(eqI x27' x46'))
  (Q (.bool false) h66')
  (vcond (!(eqI x28' x47'))
  (Q (.bool false) h66')
  (∃ a67' n68' c69', ∃ x70', ∃ a71' n72' c73', readAt h66' h.nx 0 3 = some [(.slice a67' n68' c69'), (.int .i64 x70'), (.slice a71' n72' c73')] ∧
  ∃ a74' n75' c76', ∃ x77', ∃ a78' n79' c80', ∃ x81', ∃ h82', EvC Tryz.prog O 26 [(.agg #[(.slice a67' n68' c69'), (.int .i64 x70'), (.slice a71' n72' c73')]), (.int .i64 x3), (.int .i64 x4), (.int .i64 x5)] h66' (.tuple #[(.agg #[(.slice a74' n75' c76'), (.int .i64 x77'), (.slice a78' n79' c80')]), (.int .i64 x81')]) h82' ∧
  vreq (canW h82' h29'.nx 0 [(.slice a74' n75' c76'), (.int .i64 x77'), (.slice a78' n79' c80')])
  (let g83 : Hp := h82'.wr h29'.nx 0 [(.slice a74' n75' c76'), (.int .i64 x77'), (.slice a78' n79' c80')]
  ∃ a84' n85' c86', ∃ x87', ∃ a88' n89' c90', readAt g83 h.nx 0 3 = some [(.slice a84' n85' c86'), (.int .i64 x87'), (.slice a88' n89' c90')] ∧
  ∃ a91' n92' c93', ∃ x94', ∃ a95' n96' c97', ∃ x98', ∃ h99', EvC Tryz.prog O 27 [(.agg #[(.slice a84' n85' c86'), (.int .i64 x87'), (.slice a88' n89' c90')]), (.int .i64 x3), (.int .i64 x4), (.int .i64 x5)] g83 (.tuple #[(.agg #[(.slice a91' n92' c93'), (.int .i64 x94'), (.slice a95' n96' c97')]), (.int .i64 x98')]) h99' ∧
  vreq (canW h99' h48'.nx 0 [(.slice a91' n92' c93'), (.int .i64 x94'), (.slice a95' n96' c97')])
  (let g100 : Hp := h99'.wr h48'.nx 0 [(.slice a91' n92' c93'), (.int .i64 x94'), (.slice a95' n96' c97')]
  ∃ a101' n102' c103', ∃ x104', ∃ a105' n106' c107', readAt g100 h.nx 0 3 = some [(.slice a101' n102' c103'), (.int .i64 x104'), (.slice a105' n106' c107')] ∧
  ∃ x108', ∃ x109', ∃ h110', EvC Tryz.prog O 28 [(.agg #[(.slice a101' n102' c103'), (.int .i64 x104'), (.slice a105' n106' c107')]), (.int .i64 x3), (.int .i64 x4)] g100 (.tuple #[(.int .i64 x108'), (.int .i64 x109')]) h110' ∧
  ∃ a111' n112' c113', ∃ x114', ∃ a115' n116' c117', readAt h110' h.nx 0 3 = some [(.slice a111' n112' c113'), (.int .i64 x114'), (.slice a115' n116' c117')] ∧
  ∃ x118', ∃ x119', ∃ h120', EvC Tryz.prog O 29 [(.agg #[(.slice a111' n112' c113'), (.int .i64 x114'), (.slice a115' n116' c117')]), (.int .i64 x3), (.int .i64 x4)] h110' (.tuple #[(.int .i64 x118'), (.int .i64 x119')]) h120' ∧
  ∃ a121' n122' c123', ∃ x124', ∃ a125' n126' c127', readAt h120' h29'.nx 0 3 = some [(.slice a121' n122' c123'), (.int .i64 x124'), (.slice a125' n126' c127')] ∧
  ∃ a128' n129' c130', ∃ x131', ∃ a132' n133' c134', readAt h120' h48'.nx 0 3 = some [(.slice a128' n129' c130'), (.int .i64 x131'), (.slice a132' n133' c134')] ∧
  ∃ q135', ∃ h136', EvC Tryz.prog O 19 [(.agg #[(.slice a121' n122' c123'), (.int .i64 x124'), (.slice a125' n126' c127')]), (.agg #[(.slice a128' n129' c130'), (.int .i64 x131'), (.slice a132' n133' c134')])] h120' (.bool q135') h136' ∧
  vcond q135'
  (vcond (eqI x81' x98')
  (vcond (eqI x108' x118')
  (vcond (eqI x109' x119')
  (∃ q137', ∃ h138', EvC Tryz.prog O 14 [] h136' (.bool q137') h138' ∧
  Q (.bool q137') h138')
  (Q (.bool false) h136'))
  (Q (.bool false) h136'))
  (Q (.bool false) h136'))
  (Q (.bool false) h136')))))))))
theorem rk4 {O Q} (a0_0 n0_0 c0_0 x0_1 a0_2 n0_2 c0_2 x1 a2 n2 c2 x3 x4 x5) {h : Hp} (hO : O 4 [(.agg #[(.slice a0_0 n0_0 c0_0), (.int .i64 x0_1), (.slice a0_2 n0_2 c0_2)]), (.int .i64 x1), (.slice a2 n2 c2), (.int .i64 x3), (.int .i64 x4), (.int .i64 x5)] h = none) (hh : T4 O Q a0_0 n0_0 c0_0 x0_1 a0_2 n0_2 c0_2 x1 a2 n2 c2 x3 x4 x5 h) : Ret Tryz.prog O 4 [(.agg #[(.slice a0_0 n0_0 c0_0), (.int .i64 x0_1), (.slice a0_2 n0_2 c0_2)]), (.int .i64 x1), (.slice a2 n2 c2), (.int .i64 x3), (.int .i64 x4), (.int .i64 x5)] h Q :=
  .of (c := b4) Tryz.func4 (by kernel_rfl) hO (V_ok (tb := lv4) (cuts := []) 500 (Eq.mp (by kernel_rfl) hh))
/-! sward/collect.Alloc -/
noncomputable def b24 : Code := (Tryz.f24.body).getD .skip
noncomputable def stk24_0 : List KI := [.code (sub [1, 1, 1, 1, 0, 0] b24), .code (sub [1, 1, 1, 1, 0, 1] b24), .code (sub [1, 1, 1, 1, 1] b24)]
noncomputable def stk24_1 : List KI := [.code (sub [1, 1, 1, 1, 1, 1, 1, 1, 1, 1, 0] b24), .code (sub [1, 1, 1, 1, 1, 1, 1, 1, 1, 1, 1] b24)]
def lv24 : List (Nat × List Nat) := [(1000005, [2, 3, 4, 6, 7, 8, 10, 11]), (1000015, [4, 6, 7, 8, 13, 14])]
def I24_0 (O : CallF) (Q : Value → Hp → Prop) (a0_0 : Option Addr) (n0_0 : Nat) (c0_0 : Nat) (x0_1 : Int) (a0_2 : Option Addr) (n0_2 : Nat) (c0_2 : Nat) (x1 : Int) (a2 : Option Addr) (n2 : Nat) (c2 : Nat) (b3 : Nat) (f3 : Nat) (b4 : Nat) (f4 : Nat) (b6 : Nat) (f6 : Nat) (x10 : Int) (b11 : Nat) (f11 : Nat) (h : Hp) : Prop := RKL Tryz.prog O Tryz.f24 stk24_0 67 [2, 3, 4, 6, 7, 8, 10, 11] [(.slice a2 n2 c2), (.pointer (some ⟨b3, f3, none⟩)), (.pointer (some ⟨b4, f4, none⟩)), (.pointer (some ⟨b6, f6, none⟩)), (.int .i64 0), (.int .i64 0), (.int .i64 x10), (.pointer (some ⟨b11, f11, none⟩))] h Q
def I24_1 (O : CallF) (Q : Value → Hp → Prop) (a0_0 : Option Addr) (n0_0 : Nat) (c0_0 : Nat) (x0_1 : Int) (a0_2 : Option Addr) (n0_2 : Nat) (c0_2 : Nat) (x1 : Int) (a2 : Option Addr) (n2 : Nat) (c2 : Nat) (b4 : Nat) (f4 : Nat) (b6 : Nat) (f6 : Nat) (b13 : Nat) (f13 : Nat) (a14 : Option Addr) (n14 : Nat) (c14 : Nat) (h : Hp) : Prop := RKL Tryz.prog O Tryz.f24 stk24_1 67 [4, 6, 7, 8, 13, 14] [(.pointer (some ⟨b4, f4, none⟩)), (.pointer (some ⟨b6, f6, none⟩)), (.int .i64 0), (.int .i64 0), (.pointer (some ⟨b13, f13, none⟩)), (.slice a14 n14 c14)] h Q
def T24 (O : CallF) (Q : Value → Hp → Prop) (a0_0 : Option Addr) (n0_0 : Nat) (c0_0 : Nat) (x0_1 : Int) (a0_2 : Option Addr) (n0_2 : Nat) (c0_2 : Nat) (x1 : Int) (a2 : Option Addr) (n2 : Nat) (c2 : Nat) (h : Hp) : Prop :=
  let g1 : Hp := h.add (.cells [(.slice a0_0 n0_0 c0_0), (.int .i64 x0_1), (.slice a0_2 n0_2 c0_2)] 24 .fix)
  let g2 : Hp := g1.add (.cells [(.int .i64 x1)] 37 .fix)
  let g3 : Hp := g2.add (.cells [(.slice none 0 0), (.int .i64 0), (.slice none 0 0)] 24 .fix)
  ∃ a4' n5' c6', ∃ x7', ∃ a8' n9' c10', readAt g3 h.nx 0 3 = some [(.slice a4' n5' c6'), (.int .i64 x7'), (.slice a8' n9' c10')] ∧
  ∃ a11' n12' c13', ∃ x14', ∃ h15', EvC Tryz.prog O 65 [(.agg #[(.slice a4' n5' c6'), (.int .i64 x7'), (.slice a8' n9' c10')])] g3 (.tuple #[(.slice a11' n12' c13'), (.int .i64 x14')]) h15' ∧
  let g16 : Hp := h15'.add (.cells [(.slice none 0 0)] 102 .fix)
  vreq (canW g16 h15'.nx 0 [(.slice a11' n12' c13')])
  (let g17 : Hp := g16.wr h15'.nx 0 [(.slice a11' n12' c13')]
  ∃ x18', readAt g17 g1.nx 0 1 = some [(.int .i64 x18')] ∧
  let g19 : Hp := g17.add (.cells [(.int .i64 0), (.int .i64 0)] 117 .fix)
  vreq (canW g19 g17.nx 0 [(.int .i64 (Int.ofNat n2)), (.int .i64 x18')])
  (let g20 : Hp := g19.wr g17.nx 0 [(.int .i64 (Int.ofNat n2)), (.int .i64 x18')]
  vcond (eqI x14' 0)
  (∃ x21', ∃ x22', readAt g20 g17.nx 0 2 = some [(.int .i64 x21'), (.int .i64 x22')] ∧
  ∃ q23', ∃ h24', EvC Tryz.prog O 75 [(.agg #[(.int .i64 x21'), (.int .i64 x22')])] g20 (.bool q23') h24' ∧
  vcond (!q23')
  (I24_0 O Q a0_0 n0_0 c0_0 x0_1 a0_2 n0_2 c0_2 x1 a2 n2 c2 h.nx 0 g1.nx 0 g2.nx 0 2 g17.nx 0 h24')
  (∃ q25', ∃ h26', EvC Tryz.prog O 76 [(.slice a2 n2 c2), (.func (.func 77) #[] #[(.pointer (some ⟨h15'.nx, 0, none⟩)), (.pointer (some ⟨g1.nx, 0, none⟩))])] h24' (.bool q25') h26' ∧
  vcond q25'
  (I24_0 O Q a0_0 n0_0 c0_0 x0_1 a0_2 n0_2 c0_2 x1 a2 n2 c2 h.nx 0 g1.nx 0 g2.nx 0 2 g17.nx 0 h26')
  (I24_0 O Q a0_0 n0_0 c0_0 x0_1 a0_2 n0_2 c0_2 x1 a2 n2 c2 h.nx 0 g1.nx 0 g2.nx 0 x14' g17.nx 0 h26')))
  (I24_0 O Q a0_0 n0_0 c0_0 x0_1 a0_2 n0_2 c0_2 x1 a2 n2 c2 h.nx 0 g1.nx 0 g2.nx 0 x14' g17.nx 0 g20)))
theorem rk24 {O Q} (a0_0 n0_0 c0_0 x0_1 a0_2 n0_2 c0_2 x1 a2 n2 c2) {h : Hp} (hO : O 24 [(.agg #[(.slice a0_0 n0_0 c0_0), (.int .i64 x0_1), (.slice a0_2 n0_2 c0_2)]), (.int .i64 x1), (.slice a2 n2 c2)] h = none) (hh : T24 O Q a0_0 n0_0 c0_0 x0_1 a0_2 n0_2 c0_2 x1 a2 n2 c2 h) : Ret Tryz.prog O 24 [(.agg #[(.slice a0_0 n0_0 c0_0), (.int .i64 x0_1), (.slice a0_2 n0_2 c0_2)]), (.int .i64 x1), (.slice a2 n2 c2)] h Q :=
  .of (c := b24) Tryz.func24 (by kernel_rfl) hO (V_ok (tb := lv24) (cuts := [5, 15]) 500 (Eq.mp (by kernel_rfl) hh))
def T24_0 (O : CallF) (Q : Value → Hp → Prop) (a0_0 : Option Addr) (n0_0 : Nat) (c0_0 : Nat) (x0_1 : Int) (a0_2 : Option Addr) (n0_2 : Nat) (c0_2 : Nat) (x1 : Int) (a2 : Option Addr) (n2 : Nat) (c2 : Nat) (b3 : Nat) (f3 : Nat) (b4 : Nat) (f4 : Nat) (b6 : Nat) (f6 : Nat) (x10 : Int) (b11 : Nat) (f11 : Nat) (h : Hp) : Prop :=
  vcond (!(eqI x10 0))
  (vreq (canW h b6 f6 [(.slice none 0 0), (.int .i64 0), (.slice none 0 0)])
  (let g101 : Hp := h.wr b6 f6 [(.slice none 0 0), (.int .i64 0), (.slice none 0 0)]
  ∃ a102' n103' c104', ∃ x105', ∃ a106' n107' c108', readAt g101 b6 f6 3 = some [(.slice a102' n103' c104'), (.int .i64 x105'), (.slice a106' n107' c108')] ∧
  Q (.tuple #[(.agg #[(.slice a102' n103' c104'), (.int .i64 x105'), (.slice a106' n107' c108')]), (.int .i64 0), (.int .i64 x10)]) g101))
  (∃ x109', ∃ x110', readAt h b11 f11 2 = some [(.int .i64 x109'), (.int .i64 x110')] ∧
  ∃ q111', ∃ h112', EvC Tryz.prog O 79 [(.agg #[(.int .i64 x109'), (.int .i64 x110')])] h (.bool q111') h112' ∧
  vcond q111'
  (∃ a113' n114' c115', ∃ x116', ∃ a117' n118' c119', readAt h112' b3 f3 3 = some [(.slice a113' n114' c115'), (.int .i64 x116'), (.slice a117' n118' c119')] ∧
  ∃ a120' n121' c122', ∃ x123', ∃ a124' n125' c126', ∃ a127' n128' c129', ∃ q130', ∃ h131', EvC Tryz.prog O 80 [(.agg #[(.slice a113' n114' c115'), (.int .i64 x116'), (.slice a117' n118' c119')]), (.int .i64 (wrapF .i64 (1 + (Int.ofNat n2)))), (.slice a2 n2 c2)] h112' (.tuple #[(.agg #[(.slice a120' n121' c122'), (.int .i64 x123'), (.slice a124' n125' c126')]), (.slice a127' n128' c129'), (.bool q130')]) h131' ∧
  let g132 : Hp := h131'.add (.cells [(.slice none 0 0), (.int .i64 0), (.slice none 0 0)] 24 .fix)
  vreq (canW g132 h131'.nx 0 [(.slice a120' n121' c122'), (.int .i64 x123'), (.slice a124' n125' c126')])
  (let g133 : Hp := g132.wr h131'.nx 0 [(.slice a120' n121' c122'), (.int .i64 x123'), (.slice a124' n125' c126')]
  vcond (!q130')
  (vreq (canW g133 b6 f6 [(.slice none 0 0), (.int .i64 0), (.slice none 0 0)])
  (let g134 : Hp := g133.wr b6 f6 [(.slice none 0 0), (.int .i64 0), (.slice none 0 0)]
  ∃ a135' n136' c137', ∃ x138', ∃ a139' n140' c141', readAt g134 b6 f6 3 = some [(.slice a135' n136' c137'), (.int .i64 x138'), (.slice a139' n140' c141')] ∧
  Q (.tuple #[(.agg #[(.slice a135' n136' c137'), (.int .i64 x138'), (.slice a139' n140' c141')]), (.int .i64 0), (.int .i64 3)]) g134))
  (∃ x142', ∃ x143', readAt g133 b11 f11 2 = some [(.int .i64 x142'), (.int .i64 x143')] ∧
  ∃ q144', ∃ h145', EvC Tryz.prog O 79 [(.agg #[(.int .i64 x142'), (.int .i64 x143')])] g133 (.bool q144') h145' ∧
  vcond (!q144')
  (I24_1 O Q a0_0 n0_0 c0_0 x0_1 a0_2 n0_2 c0_2 x1 a2 n2 c2 b4 f4 b6 f6 h131'.nx 0 a2 n2 c2 h145')
  (I24_1 O Q a0_0 n0_0 c0_0 x0_1 a0_2 n0_2 c0_2 x1 a2 n2 c2 b4 f4 b6 f6 h131'.nx 0 a127' n128' c129' h145'))))
  (∃ a146' n147' c148', ∃ x149', ∃ a150' n151' c152', readAt h112' b3 f3 3 = some [(.slice a146' n147' c148'), (.int .i64 x149'), (.slice a150' n151' c152')] ∧
  ∃ a153' n154' c155', ∃ x156', ∃ a157' n158' c159', ∃ a160' n161' c162', ∃ q163', ∃ h164', EvC Tryz.prog O 80 [(.agg #[(.slice a146' n147' c148'), (.int .i64 x149'), (.slice a150' n151' c152')]), (.int .i64 (wrapF .i64 (1 + (Int.ofNat n2)))), (.slice none 0 0)] h112' (.tuple #[(.agg #[(.slice a153' n154' c155'), (.int .i64 x156'), (.slice a157' n158' c159')]), (.slice a160' n161' c162'), (.bool q163')]) h164' ∧
  let g165 : Hp := h164'.add (.cells [(.slice none 0 0), (.int .i64 0), (.slice none 0 0)] 24 .fix)
  vreq (canW g165 h164'.nx 0 [(.slice a153' n154' c155'), (.int .i64 x156'), (.slice a157' n158' c159')])
  (let g166 : Hp := g165.wr h164'.nx 0 [(.slice a153' n154' c155'), (.int .i64 x156'), (.slice a157' n158' c159')]
  vcond (!q163')
  (vreq (canW g166 b6 f6 [(.slice none 0 0), (.int .i64 0), (.slice none 0 0)])
  (let g167 : Hp := g166.wr b6 f6 [(.slice none 0 0), (.int .i64 0), (.slice none 0 0)]
  ∃ a168' n169' c170', ∃ x171', ∃ a172' n173' c174', readAt g167 b6 f6 3 = some [(.slice a168' n169' c170'), (.int .i64 x171'), (.slice a172' n173' c174')] ∧
  Q (.tuple #[(.agg #[(.slice a168' n169' c170'), (.int .i64 x171'), (.slice a172' n173' c174')]), (.int .i64 0), (.int .i64 3)]) g167))
  (∃ x175', ∃ x176', readAt g166 b11 f11 2 = some [(.int .i64 x175'), (.int .i64 x176')] ∧
  ∃ q177', ∃ h178', EvC Tryz.prog O 79 [(.agg #[(.int .i64 x175'), (.int .i64 x176')])] g166 (.bool q177') h178' ∧
  vcond (!q177')
  (I24_1 O Q a0_0 n0_0 c0_0 x0_1 a0_2 n0_2 c0_2 x1 a2 n2 c2 b4 f4 b6 f6 h164'.nx 0 a2 n2 c2 h178')
  (I24_1 O Q a0_0 n0_0 c0_0 x0_1 a0_2 n0_2 c0_2 x1 a2 n2 c2 b4 f4 b6 f6 h164'.nx 0 a160' n161' c162' h178')))))
theorem I24_0.of {O Q} (a0_0 n0_0 c0_0 x0_1 a0_2 n0_2 c0_2 x1 a2 n2 c2 b3 f3 b4 f4 b6 f6 x10 b11 f11) {h : Hp} (hh : T24_0 O Q a0_0 n0_0 c0_0 x0_1 a0_2 n0_2 c0_2 x1 a2 n2 c2 b3 f3 b4 f4 b6 f6 x10 b11 f11 h) : I24_0 O Q a0_0 n0_0 c0_0 x0_1 a0_2 n0_2 c0_2 x1 a2 n2 c2 b3 f3 b4 f4 b6 f6 x10 b11 f11 h :=
  RKL.of (tb := lv24) (cuts := [5, 15]) 500 fun _ => Eq.mp (by kernel_rfl) hh
def T24_1 (O : CallF) (Q : Value → Hp → Prop) (a0_0 : Option Addr) (n0_0 : Nat) (c0_0 : Nat) (x0_1 : Int) (a0_2 : Option Addr) (n0_2 : Nat) (c0_2 : Nat) (x1 : Int) (a2 : Option Addr) (n2 : Nat) (c2 : Nat) (b4 : Nat) (f4 : Nat) (b6 : Nat) (f6 : Nat) (b13 : Nat) (f13 : Nat) (a14 : Option Addr) (n14 : Nat) (c14 : Nat) (h : Hp) : Prop :=
  ∃ x201', readAt h b4 f4 1 = some [(.int .i64 x201')] ∧
  ∃ x202', ∃ h203', EvC Tryz.prog O 81 [(.pointer (some ⟨b13, f13, none⟩)), (.int .i64 x201'), (.slice a14 n14 c14)] h (.int .i64 x202') h203' ∧
  ∃ a204' n205' c206', ∃ x207', ∃ a208' n209' c210', readAt h203' b13 f13 3 = some [(.slice a204' n205' c206'), (.int .i64 x207'), (.slice a208' n209' c210')] ∧
  vreq (canW h203' b6 f6 [(.slice a204' n205' c206'), (.int .i64 x207'), (.slice a208' n209' c210')])
  (let g211 : Hp := h203'.wr b6 f6 [(.slice a204' n205' c206'), (.int .i64 x207'), (.slice a208' n209' c210')]
  ∃ a212' n213' c214', ∃ x215', ∃ a216' n217' c218', readAt g211 b6 f6 3 = some [(.slice a212' n213' c214'), (.int .i64 x215'), (.slice a216' n217' c218')] ∧
  Q (.tuple #[(.agg #[(.slice a212' n213' c214'), (.int .i64 x215'), (.slice a216' n217' c218')]), (.int .i64 x202'), (.int .i64 0)]) g211)
theorem I24_1.of {O Q} (a0_0 n0_0 c0_0 x0_1 a0_2 n0_2 c0_2 x1 a2 n2 c2 b4 f4 b6 f6 b13 f13 a14 n14 c14) {h : Hp} (hh : T24_1 O Q a0_0 n0_0 c0_0 x0_1 a0_2 n0_2 c0_2 x1 a2 n2 c2 b4 f4 b6 f6 b13 f13 a14 n14 c14 h) : I24_1 O Q a0_0 n0_0 c0_0 x0_1 a0_2 n0_2 c0_2 x1 a2 n2 c2 b4 f4 b6 f6 b13 f13 a14 n14 c14 h :=
  RKL.of (tb := lv24) (cuts := [5, 15]) 500 fun _ => Eq.mp (by kernel_rfl) hh
/-! sward/swardref15.Alloc -/
noncomputable def b25 : Code := (Tryz.f25.body).getD .skip
noncomputable def stk25_0 : List KI := [.code (sub [1, 1, 1, 1, 1, 0] b25), .code (sub [1, 1, 1, 1, 1, 1] b25)]
noncomputable def stk25_1 : List KI := [.code (sub [1, 1, 1, 1, 1, 1, 1, 1, 1, 1, 0] b25), .code (sub [1, 1, 1, 1, 1, 1, 1, 1, 1, 1, 1] b25)]
def lv25 : List (Nat × List Nat) := [(1000007, [1, 2, 3, 6, 7, 8, 11]), (1000015, [1, 6, 7, 8, 12, 13])]
def I25_0 (O : CallF) (Q : Value → Hp → Prop) (a0_0 : Option Addr) (n0_0 : Nat) (c0_0 : Nat) (x0_1 : Int) (a0_2 : Option Addr) (n0_2 : Nat) (c0_2 : Nat) (x1 : Int) (a2 : Option Addr) (n2 : Nat) (c2 : Nat) (b3 : Nat) (f3 : Nat) (b6 : Nat) (f6 : Nat) (q11 : Bool) (h : Hp) : Prop := RKL Tryz.prog O Tryz.f25 stk25_0 67 [1, 2, 3, 6, 7, 8, 11] [(.int .i64 x1), (.slice a2 n2 c2), (.pointer (some ⟨b3, f3, none⟩)), (.pointer (some ⟨b6, f6, none⟩)), (.int .i64 0), (.int .i64 0), (.bool q11)] h Q
def I25_1 (O : CallF) (Q : Value → Hp → Prop) (a0_0 : Option Addr) (n0_0 : Nat) (c0_0 : Nat) (x0_1 : Int) (a0_2 : Option Addr) (n0_2 : Nat) (c0_2 : Nat) (x1 : Int) (a2 : Option Addr) (n2 : Nat) (c2 : Nat) (b6 : Nat) (f6 : Nat) (a12 : Option Addr) (n12 : Nat) (c12 : Nat) (b13 : Nat) (f13 : Nat) (h : Hp) : Prop := RKL Tryz.prog O Tryz.f25 stk25_1 67 [1, 6, 7, 8, 12, 13] [(.int .i64 x1), (.pointer (some ⟨b6, f6, none⟩)), (.int .i64 0), (.int .i64 0), (.slice a12 n12 c12), (.pointer (some ⟨b13, f13, none⟩))] h Q
def T25 (O : CallF) (Q : Value → Hp → Prop) (a0_0 : Option Addr) (n0_0 : Nat) (c0_0 : Nat) (x0_1 : Int) (a0_2 : Option Addr) (n0_2 : Nat) (c0_2 : Nat) (x1 : Int) (a2 : Option Addr) (n2 : Nat) (c2 : Nat) (h : Hp) : Prop :=
  let g1 : Hp := h.add (.cells [(.slice a0_0 n0_0 c0_0), (.int .i64 x0_1), (.slice a0_2 n0_2 c0_2)] 24 .fix)
  let g2 : Hp := g1.add (.cells [(.slice none 0 0), (.int .i64 0), (.slice none 0 0)] 24 .fix)
  ∃ a3' n4' c5', ∃ x6', ∃ a7' n8' c9', readAt g2 h.nx 0 3 = some [(.slice a3' n4' c5'), (.int .i64 x6'), (.slice a7' n8' c9')] ∧
  ∃ a10' n11' c12', ∃ x13', ∃ h14', EvC Tryz.prog O 37 [(.agg #[(.slice a3' n4' c5'), (.int .i64 x6'), (.slice a7' n8' c9')])] g2 (.tuple #[(.slice a10' n11' c12'), (.int .i64 x13')]) h14' ∧
  vcond (eqI x13' 0)
  (∃ q15', ∃ h16', EvC Tryz.prog O 82 [(.slice a10' n11' c12'), (.int .i64 x1), (.slice a2 n2 c2)] h14' (.bool q15') h16' ∧
  vcond (!q15')
  (vreq (canW h16' g1.nx 0 [(.slice none 0 0), (.int .i64 0), (.slice none 0 0)])
  (let g17 : Hp := h16'.wr g1.nx 0 [(.slice none 0 0), (.int .i64 0), (.slice none 0 0)]
  ∃ a18' n19' c20', ∃ x21', ∃ a22' n23' c24', readAt g17 g1.nx 0 3 = some [(.slice a18' n19' c20'), (.int .i64 x21'), (.slice a22' n23' c24')] ∧
  Q (.tuple #[(.agg #[(.slice a18' n19' c20'), (.int .i64 x21'), (.slice a22' n23' c24')]), (.int .i64 0), (.int .i64 2)]) g17))
  (vcond (!(eqI x13' 0))
  (vreq (canW h16' g1.nx 0 [(.slice none 0 0), (.int .i64 0), (.slice none 0 0)])
  (let g25 : Hp := h16'.wr g1.nx 0 [(.slice none 0 0), (.int .i64 0), (.slice none 0 0)]
  ∃ a26' n27' c28', ∃ x29', ∃ a30' n31' c32', readAt g25 g1.nx 0 3 = some [(.slice a26' n27' c28'), (.int .i64 x29'), (.slice a30' n31' c32')] ∧
  Q (.tuple #[(.agg #[(.slice a26' n27' c28'), (.int .i64 x29'), (.slice a30' n31' c32')]), (.int .i64 0), (.int .i64 x13')]) g25))
  (vcond (eqI x1 3)
  (I25_0 O Q a0_0 n0_0 c0_0 x0_1 a0_2 n0_2 c0_2 x1 a2 n2 c2 h.nx 0 g1.nx 0 true h16')
  (I25_0 O Q a0_0 n0_0 c0_0 x0_1 a0_2 n0_2 c0_2 x1 a2 n2 c2 h.nx 0 g1.nx 0 (eqI x1 4) h16'))))
  (vcond (!(eqI x13' 0))
  (vreq (canW h14' g1.nx 0 [(.slice none 0 0), (.int .i64 0), (.slice none 0 0)])
  (let g33 : Hp := h14'.wr g1.nx 0 [(.slice none 0 0), (.int .i64 0), (.slice none 0 0)]
  ∃ a34' n35' c36', ∃ x37', ∃ a38' n39' c40', readAt g33 g1.nx 0 3 = some [(.slice a34' n35' c36'), (.int .i64 x37'), (.slice a38' n39' c40')] ∧
  Q (.tuple #[(.agg #[(.slice a34' n35' c36'), (.int .i64 x37'), (.slice a38' n39' c40')]), (.int .i64 0), (.int .i64 x13')]) g33))
  (vcond (eqI x1 3)
  (I25_0 O Q a0_0 n0_0 c0_0 x0_1 a0_2 n0_2 c0_2 x1 a2 n2 c2 h.nx 0 g1.nx 0 true h14')
  (I25_0 O Q a0_0 n0_0 c0_0 x0_1 a0_2 n0_2 c0_2 x1 a2 n2 c2 h.nx 0 g1.nx 0 (eqI x1 4) h14')))
theorem rk25 {O Q} (a0_0 n0_0 c0_0 x0_1 a0_2 n0_2 c0_2 x1 a2 n2 c2) {h : Hp} (hO : O 25 [(.agg #[(.slice a0_0 n0_0 c0_0), (.int .i64 x0_1), (.slice a0_2 n0_2 c0_2)]), (.int .i64 x1), (.slice a2 n2 c2)] h = none) (hh : T25 O Q a0_0 n0_0 c0_0 x0_1 a0_2 n0_2 c0_2 x1 a2 n2 c2 h) : Ret Tryz.prog O 25 [(.agg #[(.slice a0_0 n0_0 c0_0), (.int .i64 x0_1), (.slice a0_2 n0_2 c0_2)]), (.int .i64 x1), (.slice a2 n2 c2)] h Q :=
  .of (c := b25) Tryz.func25 (by kernel_rfl) hO (V_ok (tb := lv25) (cuts := [7, 15]) 500 (Eq.mp (by kernel_rfl) hh))
def T25_0 (O : CallF) (Q : Value → Hp → Prop) (a0_0 : Option Addr) (n0_0 : Nat) (c0_0 : Nat) (x0_1 : Int) (a0_2 : Option Addr) (n0_2 : Nat) (c0_2 : Nat) (x1 : Int) (a2 : Option Addr) (n2 : Nat) (c2 : Nat) (b3 : Nat) (f3 : Nat) (b6 : Nat) (f6 : Nat) (q11 : Bool) (h : Hp) : Prop :=
  vcond (!q11)
  (∃ a101' n102' c103', ∃ x104', ∃ a105' n106' c107', readAt h b3 f3 3 = some [(.slice a101' n102' c103'), (.int .i64 x104'), (.slice a105' n106' c107')] ∧
  ∃ a108' n109' c110', ∃ x111', ∃ a112' n113' c114', ∃ a115' n116' c117', ∃ q118', ∃ h119', EvC Tryz.prog O 83 [(.agg #[(.slice a101' n102' c103'), (.int .i64 x104'), (.slice a105' n106' c107')]), (.slice a2 n2 c2), (.int .i64 (wrapF .i64 (1 + (Int.ofNat n2))))] h (.tuple #[(.agg #[(.slice a108' n109' c110'), (.int .i64 x111'), (.slice a112' n113' c114')]), (.slice a115' n116' c117'), (.bool q118')]) h119' ∧
  let g120 : Hp := h119'.add (.cells [(.slice none 0 0), (.int .i64 0), (.slice none 0 0)] 24 .fix)
  vreq (canW g120 h119'.nx 0 [(.slice a108' n109' c110'), (.int .i64 x111'), (.slice a112' n113' c114')])
  (let g121 : Hp := g120.wr h119'.nx 0 [(.slice a108' n109' c110'), (.int .i64 x111'), (.slice a112' n113' c114')]
  vcond (!q118')
  (vreq (canW g121 b6 f6 [(.slice none 0 0), (.int .i64 0), (.slice none 0 0)])
  (let g122 : Hp := g121.wr b6 f6 [(.slice none 0 0), (.int .i64 0), (.slice none 0 0)]
  ∃ a123' n124' c125', ∃ x126', ∃ a127' n128' c129', readAt g122 b6 f6 3 = some [(.slice a123' n124' c125'), (.int .i64 x126'), (.slice a127' n128' c129')] ∧
  Q (.tuple #[(.agg #[(.slice a123' n124' c125'), (.int .i64 x126'), (.slice a127' n128' c129')]), (.int .i64 0), (.int .i64 3)]) g122))
  (vcond q11
  (I25_1 O Q a0_0 n0_0 c0_0 x0_1 a0_2 n0_2 c0_2 x1 a2 n2 c2 b6 f6 a2 n2 c2 h119'.nx 0 g121)
  (I25_1 O Q a0_0 n0_0 c0_0 x0_1 a0_2 n0_2 c0_2 x1 a2 n2 c2 b6 f6 a115' n116' c117' h119'.nx 0 g121))))
  (∃ a130' n131' c132', ∃ x133', ∃ a134' n135' c136', readAt h b3 f3 3 = some [(.slice a130' n131' c132'), (.int .i64 x133'), (.slice a134' n135' c136')] ∧
  ∃ a137' n138' c139', ∃ x140', ∃ a141' n142' c143', ∃ a144' n145' c146', ∃ q147', ∃ h148', EvC Tryz.prog O 83 [(.agg #[(.slice a130' n131' c132'), (.int .i64 x133'), (.slice a134' n135' c136')]), (.slice none 0 0), (.int .i64 (wrapF .i64 (1 + (Int.ofNat n2))))] h (.tuple #[(.agg #[(.slice a137' n138' c139'), (.int .i64 x140'), (.slice a141' n142' c143')]), (.slice a144' n145' c146'), (.bool q147')]) h148' ∧
  let g149 : Hp := h148'.add (.cells [(.slice none 0 0), (.int .i64 0), (.slice none 0 0)] 24 .fix)
  vreq (canW g149 h148'.nx 0 [(.slice a137' n138' c139'), (.int .i64 x140'), (.slice a141' n142' c143')])
  (let g150 : Hp := g149.wr h148'.nx 0 [(.slice a137' n138' c139'), (.int .i64 x140'), (.slice a141' n142' c143')]
  vcond (!q147')
  (vreq (canW g150 b6 f6 [(.slice none 0 0), (.int .i64 0), (.slice none 0 0)])
  (let g151 : Hp := g150.wr b6 f6 [(.slice none 0 0), (.int .i64 0), (.slice none 0 0)]
  ∃ a152' n153' c154', ∃ x155', ∃ a156' n157' c158', readAt g151 b6 f6 3 = some [(.slice a152' n153' c154'), (.int .i64 x155'), (.slice a156' n157' c158')] ∧
  Q (.tuple #[(.agg #[(.slice a152' n153' c154'), (.int .i64 x155'), (.slice a156' n157' c158')]), (.int .i64 0), (.int .i64 3)]) g151))
  (vcond q11
  (I25_1 O Q a0_0 n0_0 c0_0 x0_1 a0_2 n0_2 c0_2 x1 a2 n2 c2 b6 f6 a2 n2 c2 h148'.nx 0 g150)
  (I25_1 O Q a0_0 n0_0 c0_0 x0_1 a0_2 n0_2 c0_2 x1 a2 n2 c2 b6 f6 a144' n145' c146' h148'.nx 0 g150))))
theorem I25_0.of {O Q} (a0_0 n0_0 c0_0 x0_1 a0_2 n0_2 c0_2 x1 a2 n2 c2 b3 f3 b6 f6 q11) {h : Hp} (hh : T25_0 O Q a0_0 n0_0 c0_0 x0_1 a0_2 n0_2 c0_2 x1 a2 n2 c2 b3 f3 b6 f6 q11 h) : I25_0 O Q a0_0 n0_0 c0_0 x0_1 a0_2 n0_2 c0_2 x1 a2 n2 c2 b3 f3 b6 f6 q11 h :=
  RKL.of (tb := lv25) (cuts := [7, 15]) 500 fun _ => Eq.mp (by kernel_rfl) hh
def T25_1 (O : CallF) (Q : Value → Hp → Prop) (a0_0 : Option Addr) (n0_0 : Nat) (c0_0 : Nat) (x0_1 : Int) (a0_2 : Option Addr) (n0_2 : Nat) (c0_2 : Nat) (x1 : Int) (a2 : Option Addr) (n2 : Nat) (c2 : Nat) (b6 : Nat) (f6 : Nat) (a12 : Option Addr) (n12 : Nat) (c12 : Nat) (b13 : Nat) (f13 : Nat) (h : Hp) : Prop :=
  ∃ a201' n202' c203', ∃ x204', ∃ a205' n206' c207', readAt h b13 f13 3 = some [(.slice a201' n202' c203'), (.int .i64 x204'), (.slice a205' n206' c207')] ∧
  ∃ a208' n209' c210', ∃ x211', ∃ a212' n213' c214', ∃ x215', ∃ h216', EvC Tryz.prog O 84 [(.agg #[(.slice a201' n202' c203'), (.int .i64 x204'), (.slice a205' n206' c207')]), (.int .i64 x1), (.slice a12 n12 c12)] h (.tuple #[(.agg #[(.slice a208' n209' c210'), (.int .i64 x211'), (.slice a212' n213' c214')]), (.int .i64 x215')]) h216' ∧
  vreq (canW h216' b13 f13 [(.slice a208' n209' c210'), (.int .i64 x211'), (.slice a212' n213' c214')])
  (let g217 : Hp := h216'.wr b13 f13 [(.slice a208' n209' c210'), (.int .i64 x211'), (.slice a212' n213' c214')]
  ∃ a218' n219' c220', ∃ x221', ∃ a222' n223' c224', readAt g217 b13 f13 3 = some [(.slice a218' n219' c220'), (.int .i64 x221'), (.slice a222' n223' c224')] ∧
  vreq (canW g217 b6 f6 [(.slice a218' n219' c220'), (.int .i64 x221'), (.slice a222' n223' c224')])
  (let g225 : Hp := g217.wr b6 f6 [(.slice a218' n219' c220'), (.int .i64 x221'), (.slice a222' n223' c224')]
  ∃ a226' n227' c228', ∃ x229', ∃ a230' n231' c232', readAt g225 b6 f6 3 = some [(.slice a226' n227' c228'), (.int .i64 x229'), (.slice a230' n231' c232')] ∧
  Q (.tuple #[(.agg #[(.slice a226' n227' c228'), (.int .i64 x229'), (.slice a230' n231' c232')]), (.int .i64 x215'), (.int .i64 0)]) g225))
theorem I25_1.of {O Q} (a0_0 n0_0 c0_0 x0_1 a0_2 n0_2 c0_2 x1 a2 n2 c2 b6 f6 a12 n12 c12 b13 f13) {h : Hp} (hh : T25_1 O Q a0_0 n0_0 c0_0 x0_1 a0_2 n0_2 c0_2 x1 a2 n2 c2 b6 f6 a12 n12 c12 b13 f13 h) : I25_1 O Q a0_0 n0_0 c0_0 x0_1 a0_2 n0_2 c0_2 x1 a2 n2 c2 b6 f6 a12 n12 c12 b13 f13 h :=
  RKL.of (tb := lv25) (cuts := [7, 15]) 500 fun _ => Eq.mp (by kernel_rfl) hh
/-! sward/collect.Write -/
noncomputable def b26 : Code := (Tryz.f26.body).getD .skip
def lv26 : List (Nat × List Nat) := []
def T26 (O : CallF) (Q : Value → Hp → Prop) (a0_0 : Option Addr) (n0_0 : Nat) (c0_0 : Nat) (x0_1 : Int) (a0_2 : Option Addr) (n0_2 : Nat) (c0_2 : Nat) (x1 : Int) (x2 : Int) (x3 : Int) (h : Hp) : Prop :=
  let g1 : Hp := h.add (.cells [(.slice a0_0 n0_0 c0_0), (.int .i64 x0_1), (.slice a0_2 n0_2 c0_2)] 24 .fix)
  let g2 : Hp := g1.add (.cells [(.slice none 0 0), (.int .i64 0), (.slice none 0 0)] 24 .fix)
  ∃ a3' n4' c5', ∃ x6', ∃ a7' n8' c9', readAt g2 h.nx 0 3 = some [(.slice a3' n4' c5'), (.int .i64 x6'), (.slice a7' n8' c9')] ∧
  ∃ a10' n11' c12', ∃ x13', ∃ h14', EvC Tryz.prog O 85 [(.agg #[(.slice a3' n4' c5'), (.int .i64 x6'), (.slice a7' n8' c9')]), (.int .i64 x1), (.int .i64 x2)] g2 (.tuple #[(.slice a10' n11' c12'), (.int .i64 x13')]) h14' ∧
  vcond (eqI x13' 0)
  (∃ a15' n16' c17', readAt h14' h.nx 0 1 = some [(.slice a15' n16' c17')] ∧
  isNat x1 fun n18' =>
  isAddr a15' fun b19' f20' =>
  vreq (Nat.blt n18' n16')
  (∃ x21', readAt h14' b19' (f20' + (n18' * 1)) 1 = some [(.int .i64 x21')] ∧
  ∃ x22', ∃ x23', ∃ h24', EvC Tryz.prog O 86 [(.int .i64 x21')] h14' (.agg #[(.int .i64 x22'), (.int .i64 x23')]) h24' ∧
  ∃ q25', ∃ h26', EvC Tryz.prog O 78 [(.slice a10' n11' c12'), (.int .i64 x23'), (.int .i64 x3)] h24' (.bool q25') h26' ∧
  vcond (!q25')
  (vreq (canW h26' g1.nx 0 [(.slice none 0 0), (.int .i64 0), (.slice none 0 0)])
  (let g27 : Hp := h26'.wr g1.nx 0 [(.slice none 0 0), (.int .i64 0), (.slice none 0 0)]
  ∃ a28' n29' c30', ∃ x31', ∃ a32' n33' c34', readAt g27 g1.nx 0 3 = some [(.slice a28' n29' c30'), (.int .i64 x31'), (.slice a32' n33' c34')] ∧
  Q (.tuple #[(.agg #[(.slice a28' n29' c30'), (.int .i64 x31'), (.slice a32' n33' c34')]), (.int .i64 2)]) g27))
  (vcond (!(eqI x13' 0))
  (vreq (canW h26' g1.nx 0 [(.slice none 0 0), (.int .i64 0), (.slice none 0 0)])
  (let g35 : Hp := h26'.wr g1.nx 0 [(.slice none 0 0), (.int .i64 0), (.slice none 0 0)]
  ∃ a36' n37' c38', ∃ x39', ∃ a40' n41' c42', readAt g35 g1.nx 0 3 = some [(.slice a36' n37' c38'), (.int .i64 x39'), (.slice a40' n41' c42')] ∧
  Q (.tuple #[(.agg #[(.slice a36' n37' c38'), (.int .i64 x39'), (.slice a40' n41' c42')]), (.int .i64 x13')]) g35))
  (∃ a43' n44' c45', ∃ x46', ∃ a47' n48' c49', readAt h26' h.nx 0 3 = some [(.slice a43' n44' c45'), (.int .i64 x46'), (.slice a47' n48' c49')] ∧
  ∃ a50' n51' c52', ∃ x53', ∃ a54' n55' c56', ∃ h57', EvC Tryz.prog O 87 [(.agg #[(.slice a43' n44' c45'), (.int .i64 x46'), (.slice a47' n48' c49')])] h26' (.agg #[(.slice a50' n51' c52'), (.int .i64 x53'), (.slice a54' n55' c56')]) h57' ∧
  let g58 : Hp := h57'.add (.cells [(.slice none 0 0), (.int .i64 0), (.slice none 0 0)] 24 .fix)
  vreq (canW g58 h57'.nx 0 [(.slice a50' n51' c52'), (.int .i64 x53'), (.slice a54' n55' c56')])
  (let g59 : Hp := g58.wr h57'.nx 0 [(.slice a50' n51' c52'), (.int .i64 x53'), (.slice a54' n55' c56')]
  ∃ a60' n61' c62', readAt g59 h57'.nx 0 1 = some [(.slice a60' n61' c62')] ∧
  isNat (wrapF .i64 ((wrapF .i64 (x1 + 1)) + x2)) fun n63' =>
  isAddr a60' fun b64' f65' =>
  vreq (Nat.blt n63' n61')
  (vreq (canW g59 b64' (f65' + (n63' * 1)) [(.int .i64 x3)])
  (let g66 : Hp := g59.wr b64' (f65' + (n63' * 1)) [(.int .i64 x3)]
  ∃ a67' n68' c69', ∃ x70', ∃ a71' n72' c73', readAt g66 h57'.nx 0 3 = some [(.slice a67' n68' c69'), (.int .i64 x70'), (.slice a71' n72' c73')] ∧
  vreq (canW g66 g1.nx 0 [(.slice a67' n68' c69'), (.int .i64 x70'), (.slice a71' n72' c73')])
  (let g74 : Hp := g66.wr g1.nx 0 [(.slice a67' n68' c69'), (.int .i64 x70'), (.slice a71' n72' c73')]
  ∃ a75' n76' c77', ∃ x78', ∃ a79' n80' c81', readAt g74 g1.nx 0 3 = some [(.slice a75' n76' c77'), (.int .i64 x78'), (.slice a79' n80' c81')] ∧
  Q (.tuple #[(.agg #[(.slice a75' n76' c77'), (.int .i64 x78'), (.slice a79' n80' c81')]), (.int .i64 0)]) g74))))))))
  (vcond (!(eqI x13' 0))
  (vreq (canW h14' g1.nx 0 [(.slice none 0 0), (.int .i64 0), (.slice none 0 0)])
  (let g82 : Hp := h14'.wr g1.nx 0 [(.slice none 0 0), (.int .i64 0), (.slice none 0 0)]
  ∃ a83' n84' c85', ∃ x86', ∃ a87' n88' c89', readAt g82 g1.nx 0 3 = some [(.slice a83' n84' c85'), (.int .i64 x86'), (.slice a87' n88' c89')] ∧
  Q (.tuple #[(.agg #[(.slice a83' n84' c85'), (.int .i64 x86'), (.slice a87' n88' c89')]), (.int .i64 x13')]) g82))
  (∃ a90' n91' c92', ∃ x93', ∃ a94' n95' c96', readAt h14' h.nx 0 3 = some [(.slice a90' n91' c92'), (.int .i64 x93'), (.slice a94' n95' c96')] ∧
  ∃ a97' n98' c99', ∃ x100', ∃ a101' n102' c103', ∃ h104', EvC Tryz.prog O 87 [(.agg #[(.slice a90' n91' c92'), (.int .i64 x93'), (.slice a94' n95' c96')])] h14' (.agg #[(.slice a97' n98' c99'), (.int .i64 x100'), (.slice a101' n102' c103')]) h104' ∧
  let g105 : Hp := h104'.add (.cells [(.slice none 0 0), (.int .i64 0), (.slice none 0 0)] 24 .fix)
  vreq (canW g105 h104'.nx 0 [(.slice a97' n98' c99'), (.int .i64 x100'), (.slice a101' n102' c103')])
  (let g106 : Hp := g105.wr h104'.nx 0 [(.slice a97' n98' c99'), (.int .i64 x100'), (.slice a101' n102' c103')]
  ∃ a107' n108' c109', readAt g106 h104'.nx 0 1 = some [(.slice a107' n108' c109')] ∧
  isNat (wrapF .i64 ((wrapF .i64 (x1 + 1)) + x2)) fun n110' =>
  isAddr a107' fun b111' f112' =>
  vreq (Nat.blt n110' n108')
  (vreq (canW g106 b111' (f112' + (n110' * 1)) [(.int .i64 x3)])
  (let g113 : Hp := g106.wr b111' (f112' + (n110' * 1)) [(.int .i64 x3)]
  ∃ a114' n115' c116', ∃ x117', ∃ a118' n119' c120', readAt g113 h104'.nx 0 3 = some [(.slice a114' n115' c116'), (.int .i64 x117'), (.slice a118' n119' c120')] ∧
  vreq (canW g113 g1.nx 0 [(.slice a114' n115' c116'), (.int .i64 x117'), (.slice a118' n119' c120')])
  (let g121 : Hp := g113.wr g1.nx 0 [(.slice a114' n115' c116'), (.int .i64 x117'), (.slice a118' n119' c120')]
  ∃ a122' n123' c124', ∃ x125', ∃ a126' n127' c128', readAt g121 g1.nx 0 3 = some [(.slice a122' n123' c124'), (.int .i64 x125'), (.slice a126' n127' c128')] ∧
  Q (.tuple #[(.agg #[(.slice a122' n123' c124'), (.int .i64 x125'), (.slice a126' n127' c128')]), (.int .i64 0)]) g121))))))
theorem rk26 {O Q} (a0_0 n0_0 c0_0 x0_1 a0_2 n0_2 c0_2 x1 x2 x3) {h : Hp} (hO : O 26 [(.agg #[(.slice a0_0 n0_0 c0_0), (.int .i64 x0_1), (.slice a0_2 n0_2 c0_2)]), (.int .i64 x1), (.int .i64 x2), (.int .i64 x3)] h = none) (hh : T26 O Q a0_0 n0_0 c0_0 x0_1 a0_2 n0_2 c0_2 x1 x2 x3 h) : Ret Tryz.prog O 26 [(.agg #[(.slice a0_0 n0_0 c0_0), (.int .i64 x0_1), (.slice a0_2 n0_2 c0_2)]), (.int .i64 x1), (.int .i64 x2), (.int .i64 x3)] h Q :=
  .of (c := b26) Tryz.func26 (by kernel_rfl) hO (V_ok (tb := lv26) (cuts := []) 500 (Eq.mp (by kernel_rfl) hh))
/-! sward/swardref15.Write -/
noncomputable def b27 : Code := (Tryz.f27.body).getD .skip
def lv27 : List (Nat × List Nat) := []
def T27 (O : CallF) (Q : Value → Hp → Prop) (a0_0 : Option Addr) (n0_0 : Nat) (c0_0 : Nat) (x0_1 : Int) (a0_2 : Option Addr) (n0_2 : Nat) (c0_2 : Nat) (x1 : Int) (x2 : Int) (x3 : Int) (h : Hp) : Prop :=
  let g1 : Hp := h.add (.cells [(.slice a0_0 n0_0 c0_0), (.int .i64 x0_1), (.slice a0_2 n0_2 c0_2)] 24 .fix)
  let g2 : Hp := g1.add (.cells [(.slice none 0 0), (.int .i64 0), (.slice none 0 0)] 24 .fix)
  ∃ a3' n4' c5', ∃ x6', ∃ a7' n8' c9', readAt g2 h.nx 0 3 = some [(.slice a3' n4' c5'), (.int .i64 x6'), (.slice a7' n8' c9')] ∧
  ∃ q10', ∃ h11', EvC Tryz.prog O 88 [(.agg #[(.slice a3' n4' c5'), (.int .i64 x6'), (.slice a7' n8' c9')]), (.int .i64 x1), (.int .i64 x2)] g2 (.bool q10') h11' ∧
  vcond (!q10')
  (vreq (canW h11' g1.nx 0 [(.slice none 0 0), (.int .i64 0), (.slice none 0 0)])
  (let g12 : Hp := h11'.wr g1.nx 0 [(.slice none 0 0), (.int .i64 0), (.slice none 0 0)]
  ∃ a13' n14' c15', ∃ x16', ∃ a17' n18' c19', readAt g12 g1.nx 0 3 = some [(.slice a13' n14' c15'), (.int .i64 x16'), (.slice a17' n18' c19')] ∧
  Q (.tuple #[(.agg #[(.slice a13' n14' c15'), (.int .i64 x16'), (.slice a17' n18' c19')]), (.int .i64 2)]) g12))
  (∃ a20' n21' c22', ∃ x23', ∃ a24' n25' c26', readAt h11' h.nx 0 3 = some [(.slice a20' n21' c22'), (.int .i64 x23'), (.slice a24' n25' c26')] ∧
  ∃ a27' n28' c29', ∃ q30', ∃ h31', EvC Tryz.prog O 66 [(.agg #[(.slice a20' n21' c22'), (.int .i64 x23'), (.slice a24' n25' c26')])] h11' (.tuple #[(.slice a27' n28' c29'), (.bool q30')]) h31' ∧
  ∃ a32' n33' c34', readAt h31' h.nx 0 1 = some [(.slice a32' n33' c34')] ∧
  isNat x1 fun n35' =>
  isAddr a32' fun b36' f37' =>
  vreq (Nat.blt n35' n33')
  (∃ x38', readAt h31' b36' (f37' + (n35' * 1)) 1 = some [(.int .i64 x38')] ∧
  ∃ x39', ∃ h40', EvC Tryz.prog O 90 [(.int .i64 x38')] h31' (.int .i64 x39') h40' ∧
  ∃ q41', ∃ h42', EvC Tryz.prog O 89 [(.slice a27' n28' c29'), (.int .i64 x39'), (.int .i64 x3)] h40' (.bool q41') h42' ∧
  vcond (!q41')
  (vreq (canW h42' g1.nx 0 [(.slice none 0 0), (.int .i64 0), (.slice none 0 0)])
  (let g43 : Hp := h42'.wr g1.nx 0 [(.slice none 0 0), (.int .i64 0), (.slice none 0 0)]
  ∃ a44' n45' c46', ∃ x47', ∃ a48' n49' c50', readAt g43 g1.nx 0 3 = some [(.slice a44' n45' c46'), (.int .i64 x47'), (.slice a48' n49' c50')] ∧
  Q (.tuple #[(.agg #[(.slice a44' n45' c46'), (.int .i64 x47'), (.slice a48' n49' c50')]), (.int .i64 2)]) g43))
  (∃ a51' n52' c53', ∃ x54', ∃ a55' n56' c57', readAt h42' h.nx 0 3 = some [(.slice a51' n52' c53'), (.int .i64 x54'), (.slice a55' n56' c57')] ∧
  ∃ a58' n59' c60', ∃ x61', ∃ a62' n63' c64', ∃ h65', EvC Tryz.prog O 91 [(.agg #[(.slice a51' n52' c53'), (.int .i64 x54'), (.slice a55' n56' c57')])] h42' (.agg #[(.slice a58' n59' c60'), (.int .i64 x61'), (.slice a62' n63' c64')]) h65' ∧
  let g66 : Hp := h65'.add (.cells [(.slice none 0 0), (.int .i64 0), (.slice none 0 0)] 24 .fix)
  vreq (canW g66 h65'.nx 0 [(.slice a58' n59' c60'), (.int .i64 x61'), (.slice a62' n63' c64')])
  (let g67 : Hp := g66.wr h65'.nx 0 [(.slice a58' n59' c60'), (.int .i64 x61'), (.slice a62' n63' c64')]
  ∃ a68' n69' c70', readAt g67 h65'.nx 0 1 = some [(.slice a68' n69' c70')] ∧
  isNat (wrapF .i64 ((wrapF .i64 (x1 + 1)) + x2)) fun n71' =>
  isAddr a68' fun b72' f73' =>
  vreq (Nat.blt n71' n69')
  (vreq (canW g67 b72' (f73' + (n71' * 1)) [(.int .i64 x3)])
  (let g74 : Hp := g67.wr b72' (f73' + (n71' * 1)) [(.int .i64 x3)]
  ∃ a75' n76' c77', ∃ x78', ∃ a79' n80' c81', readAt g74 h65'.nx 0 3 = some [(.slice a75' n76' c77'), (.int .i64 x78'), (.slice a79' n80' c81')] ∧
  vreq (canW g74 g1.nx 0 [(.slice a75' n76' c77'), (.int .i64 x78'), (.slice a79' n80' c81')])
  (let g82 : Hp := g74.wr g1.nx 0 [(.slice a75' n76' c77'), (.int .i64 x78'), (.slice a79' n80' c81')]
  ∃ a83' n84' c85', ∃ x86', ∃ a87' n88' c89', readAt g82 g1.nx 0 3 = some [(.slice a83' n84' c85'), (.int .i64 x86'), (.slice a87' n88' c89')] ∧
  Q (.tuple #[(.agg #[(.slice a83' n84' c85'), (.int .i64 x86'), (.slice a87' n88' c89')]), (.int .i64 0)]) g82)))))))
theorem rk27 {O Q} (a0_0 n0_0 c0_0 x0_1 a0_2 n0_2 c0_2 x1 x2 x3) {h : Hp} (hO : O 27 [(.agg #[(.slice a0_0 n0_0 c0_0), (.int .i64 x0_1), (.slice a0_2 n0_2 c0_2)]), (.int .i64 x1), (.int .i64 x2), (.int .i64 x3)] h = none) (hh : T27 O Q a0_0 n0_0 c0_0 x0_1 a0_2 n0_2 c0_2 x1 x2 x3 h) : Ret Tryz.prog O 27 [(.agg #[(.slice a0_0 n0_0 c0_0), (.int .i64 x0_1), (.slice a0_2 n0_2 c0_2)]), (.int .i64 x1), (.int .i64 x2), (.int .i64 x3)] h Q :=
  .of (c := b27) Tryz.func27 (by kernel_rfl) hO (V_ok (tb := lv27) (cuts := []) 500 (Eq.mp (by kernel_rfl) hh))
/-! sward/collect.Look -/
noncomputable def b28 : Code := (Tryz.f28.body).getD .skip
def lv28 : List (Nat × List Nat) := []
def T28 (O : CallF) (Q : Value → Hp → Prop) (a0_0 : Option Addr) (n0_0 : Nat) (c0_0 : Nat) (x0_1 : Int) (a0_2 : Option Addr) (n0_2 : Nat) (c0_2 : Nat) (x1 : Int) (x2 : Int) (h : Hp) : Prop :=
  let g1 : Hp := h.add (.cells [(.slice a0_0 n0_0 c0_0), (.int .i64 x0_1), (.slice a0_2 n0_2 c0_2)] 24 .fix)
  ∃ a2' n3' c4', ∃ x5', ∃ a6' n7' c8', readAt g1 h.nx 0 3 = some [(.slice a2' n3' c4'), (.int .i64 x5'), (.slice a6' n7' c8')] ∧
  ∃ a9' n10' c11', ∃ x12', ∃ h13', EvC Tryz.prog O 85 [(.agg #[(.slice a2' n3' c4'), (.int .i64 x5'), (.slice a6' n7' c8')]), (.int .i64 x1), (.int .i64 x2)] g1 (.tuple #[(.slice a9' n10' c11'), (.int .i64 x12')]) h13' ∧
  vcond (!(eqI x12' 0))
  (Q (.tuple #[(.int .i64 0), (.int .i64 x12')]) h13')
  (∃ a14' n15' c16', readAt h13' h.nx 0 1 = some [(.slice a14' n15' c16')] ∧
  isNat (wrapF .i64 ((wrapF .i64 (x1 + 1)) + x2)) fun n17' =>
  isAddr a14' fun b18' f19' =>
  vreq (Nat.blt n17' n15')
  (∃ x20', readAt h13' b18' (f19' + (n17' * 1)) 1 = some [(.int .i64 x20')] ∧
  Q (.tuple #[(.int .i64 x20'), (.int .i64 0)]) h13'))
theorem rk28 {O Q} (a0_0 n0_0 c0_0 x0_1 a0_2 n0_2 c0_2 x1 x2) {h : Hp} (hO : O 28 [(.agg #[(.slice a0_0 n0_0 c0_0), (.int .i64 x0_1), (.slice a0_2 n0_2 c0_2)]), (.int .i64 x1), (.int .i64 x2)] h = none) (hh : T28 O Q a0_0 n0_0 c0_0 x0_1 a0_2 n0_2 c0_2 x1 x2 h) : Ret Tryz.prog O 28 [(.agg #[(.slice a0_0 n0_0 c0_0), (.int .i64 x0_1), (.slice a0_2 n0_2 c0_2)]), (.int .i64 x1), (.int .i64 x2)] h Q :=
  .of (c := b28) Tryz.func28 (by kernel_rfl) hO (V_ok (tb := lv28) (cuts := []) 500 (Eq.mp (by kernel_rfl) hh))
/-! sward/swardref15.Look -/
noncomputable def b29 : Code := (Tryz.f29.body).getD .skip
def lv29 : List (Nat × List Nat) := []
def T29 (O : CallF) (Q : Value → Hp → Prop) (a0_0 : Option Addr) (n0_0 : Nat) (c0_0 : Nat) (x0_1 : Int) (a0_2 : Option Addr) (n0_2 : Nat) (c0_2 : Nat) (x1 : Int) (x2 : Int) (h : Hp) : Prop :=
  let g1 : Hp := h.add (.cells [(.slice a0_0 n0_0 c0_0), (.int .i64 x0_1), (.slice a0_2 n0_2 c0_2)] 24 .fix)
  ∃ a2' n3' c4', ∃ x5', ∃ a6' n7' c8', readAt g1 h.nx 0 3 = some [(.slice a2' n3' c4'), (.int .i64 x5'), (.slice a6' n7' c8')] ∧
  ∃ q9', ∃ h10', EvC Tryz.prog O 88 [(.agg #[(.slice a2' n3' c4'), (.int .i64 x5'), (.slice a6' n7' c8')]), (.int .i64 x1), (.int .i64 x2)] g1 (.bool q9') h10' ∧
  vcond (!q9')
  (Q (.tuple #[(.int .i64 0), (.int .i64 2)]) h10')
  (∃ a11' n12' c13', readAt h10' h.nx 0 1 = some [(.slice a11' n12' c13')] ∧
  isNat (wrapF .i64 ((wrapF .i64 (x1 + 1)) + x2)) fun n14' =>
  isAddr a11' fun b15' f16' =>
  vreq (Nat.blt n14' n12')
  (∃ x17', readAt h10' b15' (f16' + (n14' * 1)) 1 = some [(.int .i64 x17')] ∧
  Q (.tuple #[(.int .i64 x17'), (.int .i64 0)]) h10'))
theorem rk29 {O Q} (a0_0 n0_0 c0_0 x0_1 a0_2 n0_2 c0_2 x1 x2) {h : Hp} (hO : O 29 [(.agg #[(.slice a0_0 n0_0 c0_0), (.int .i64 x0_1), (.slice a0_2 n0_2 c0_2)]), (.int .i64 x1), (.int .i64 x2)] h = none) (hh : T29 O Q a0_0 n0_0 c0_0 x0_1 a0_2 n0_2 c0_2 x1 x2 h) : Ret Tryz.prog O 29 [(.agg #[(.slice a0_0 n0_0 c0_0), (.int .i64 x0_1), (.slice a0_2 n0_2 c0_2)]), (.int .i64 x1), (.int .i64 x2)] h Q :=
  .of (c := b29) Tryz.func29 (by kernel_rfl) hO (V_ok (tb := lv29) (cuts := []) 500 (Eq.mp (by kernel_rfl) hh))
/-! slices.Clone[[]int,int] -/
noncomputable def b46 : Code := (Tryz.f46.body).getD .skip
def lv46 : List (Nat × List Nat) := []
def T46 (O : CallF) (Q : Value → Hp → Prop) (a0 : Option Addr) (n0 : Nat) (c0 : Nat) (h : Hp) : Prop :=
  vnil a0
  (Q (.slice none 0 0) h)
  (let g1 : Hp := h.add (.cells [] 3 .fix)
  ∃ a2' n3' c4' h5', appendV Tryz.prog g1 22 22 (.slice (some ⟨h.nx, 0, none⟩) 0 0) (.slice a0 n0 c0) = some (.slice a2' n3' c4', h5') ∧
  Q (.slice a2' n3' c4') h5')
theorem rk46 {O Q} (a0 n0 c0) {h : Hp} (hO : O 46 [(.slice a0 n0 c0)] h = none) (hh : T46 O Q a0 n0 c0 h) : Ret Tryz.prog O 46 [(.slice a0 n0 c0)] h Q :=
  .of (c := b46) Tryz.func46 (by kernel_rfl) hO (V_ok (tb := lv46) (cuts := []) 500 (Eq.mp (by kernel_rfl) hh))
/-! sward/collect.Alloc$1 -/
noncomputable def b77 : Code := (Tryz.f77.body).getD .skip
def lv77 : List (Nat × List Nat) := []
def T77 (O : CallF) (Q : Value → Hp → Prop) (x0 : Int) (b1 : Nat) (f1 : Nat) (b2 : Nat) (f2 : Nat) (h : Hp) : Prop :=
  ∃ a1' n2' c3', readAt h b1 f1 1 = some [(.slice a1' n2' c3')] ∧
  ∃ x4', readAt h b2 f2 1 = some [(.int .i64 x4')] ∧
  ∃ q5', ∃ h6', EvC Tryz.prog O 78 [(.slice a1' n2' c3'), (.int .i64 x4'), (.int .i64 x0)] h (.bool q5') h6' ∧
  Q (.bool (!q5')) h6'
theorem rk77 {O Q} (x0 b1 f1 b2 f2) {h : Hp} (hO : O 77 [(.int .i64 x0), (.pointer (some ⟨b1, f1, none⟩)), (.pointer (some ⟨b2, f2, none⟩))] h = none) (hh : T77 O Q x0 b1 f1 b2 f2 h) : Ret Tryz.prog O 77 [(.int .i64 x0), (.pointer (some ⟨b1, f1, none⟩)), (.pointer (some ⟨b2, f2, none⟩))] h Q :=
  .of (c := b77) Tryz.func77 (by kernel_rfl) hO (V_ok (tb := lv77) (cuts := []) 500 (Eq.mp (by kernel_rfl) hh))
/-! sward/collect.room -/
noncomputable def b80 : Code := (Tryz.f80.body).getD .skip
def lv80 : List (Nat × List Nat) := []
def T80 (O : CallF) (Q : Value → Hp → Prop) (a0_0 : Option Addr) (n0_0 : Nat) (c0_0 : Nat) (x0_1 : Int) (a0_2 : Option Addr) (n0_2 : Nat) (c0_2 : Nat) (x1 : Int) (a2 : Option Addr) (n2 : Nat) (c2 : Nat) (h : Hp) : Prop :=
  let g1 : Hp := h.add (.cells [(.slice a0_0 n0_0 c0_0), (.int .i64 x0_1), (.slice a0_2 n0_2 c0_2)] 24 .fix)
  let g2 : Hp := g1.add (.cells [(.slice none 0 0), (.int .i64 0), (.slice none 0 0)] 24 .fix)
  ∃ x3', readAt g2 h.nx 1 1 = some [(.int .i64 x3')] ∧
  ∃ a4' n5' c6', readAt g2 h.nx 0 1 = some [(.slice a4' n5' c6')] ∧
  vcond (!(ltI (Int.ofNat n5') (wrapF .i64 (x3' + x1))))
  (∃ a7' n8' c9', ∃ x10', ∃ a11' n12' c13', readAt g2 h.nx 0 3 = some [(.slice a7' n8' c9'), (.int .i64 x10'), (.slice a11' n12' c13')] ∧
  ∃ a14' n15' c16', ∃ x17', ∃ a18' n19' c20', ∃ h21', EvC Tryz.prog O 87 [(.agg #[(.slice a7' n8' c9'), (.int .i64 x10'), (.slice a11' n12' c13')])] g2 (.agg #[(.slice a14' n15' c16'), (.int .i64 x17'), (.slice a18' n19' c20')]) h21' ∧
  vreq (canW h21' g1.nx 0 [(.slice a14' n15' c16'), (.int .i64 x17'), (.slice a18' n19' c20')])
  (let g22 : Hp := h21'.wr g1.nx 0 [(.slice a14' n15' c16'), (.int .i64 x17'), (.slice a18' n19' c20')]
  ∃ a23' n24' c25', ∃ x26', ∃ a27' n28' c29', readAt g22 g1.nx 0 3 = some [(.slice a23' n24' c25'), (.int .i64 x26'), (.slice a27' n28' c29')] ∧
  Q (.tuple #[(.agg #[(.slice a23' n24' c25'), (.int .i64 x26'), (.slice a27' n28' c29')]), (.slice a2 n2 c2), (.bool true)]) g22))
  (∃ a30' n31' c32', ∃ x33', ∃ a34' n35' c36', readAt g2 h.nx 0 3 = some [(.slice a30' n31' c32'), (.int .i64 x33'), (.slice a34' n35' c36')] ∧
  ∃ a37' n38' c39', ∃ x40', ∃ a41' n42' c43', ∃ a44' n45' c46', ∃ a47', ∃ h48', EvC Tryz.prog O 62 [(.agg #[(.slice a30' n31' c32'), (.int .i64 x33'), (.slice a34' n35' c36')]), (.int .i64 1), (.slice a2 n2 c2)] g2 (.tuple #[(.agg #[(.slice a37' n38' c39'), (.int .i64 x40'), (.slice a41' n42' c43')]), (.slice a44' n45' c46'), (.pointer a47')]) h48' ∧
  vreq (canW h48' h.nx 0 [(.slice a37' n38' c39'), (.int .i64 x40'), (.slice a41' n42' c43')])
  (let g49 : Hp := h48'.wr h.nx 0 [(.slice a37' n38' c39'), (.int .i64 x40'), (.slice a41' n42' c43')]
  let g50 : Hp := g49.rsv 13
  ∃ a51' n52' c53', ∃ x54', ∃ a55' n56' c57', readAt g50 h.nx 0 3 = some [(.slice a51' n52' c53'), (.int .i64 x54'), (.slice a55' n56' c57')] ∧
  ∃ x58', readAt g50 h.nx 1 1 = some [(.int .i64 x58')] ∧
  ∃ a59' n60' c61', readAt g50 h.nx 0 1 = some [(.slice a59' n60' c61')] ∧
  vreq (canW (g50.grd [h.nx, h.nx]) g1.nx 0 [(.slice a51' n52' c53'), (.int .i64 x54'), (.slice a55' n56' c57')])
  (let g62 : Hp := (g50.grd [h.nx, h.nx]).wr g1.nx 0 [(.slice a51' n52' c53'), (.int .i64 x54'), (.slice a55' n56' c57')]
  let g63 : Hp := g62.rst g50
  ∃ a64' n65' c66', ∃ x67', ∃ a68' n69' c70', readAt g63 g1.nx 0 3 = some [(.slice a64' n65' c66'), (.int .i64 x67'), (.slice a68' n69' c70')] ∧
  Q (.tuple #[(.agg #[(.slice a64' n65' c66'), (.int .i64 x67'), (.slice a68' n69' c70')]), (.slice a44' n45' c46'), (.bool (!(ltI (Int.ofNat n60') (wrapF .i64 (x58' + x1)))))]) g63)))
theorem rk80 {O Q} (a0_0 n0_0 c0_0 x0_1 a0_2 n0_2 c0_2 x1 a2 n2 c2) {h : Hp} (hO : O 80 [(.agg #[(.slice a0_0 n0_0 c0_0), (.int .i64 x0_1), (.slice a0_2 n0_2 c0_2)]), (.int .i64 x1), (.slice a2 n2 c2)] h = none) (hh : T80 O Q a0_0 n0_0 c0_0 x0_1 a0_2 n0_2 c0_2 x1 a2 n2 c2 h) : Ret Tryz.prog O 80 [(.agg #[(.slice a0_0 n0_0 c0_0), (.int .i64 x0_1), (.slice a0_2 n0_2 c0_2)]), (.int .i64 x1), (.slice a2 n2 c2)] h Q :=
  .of (c := b80) Tryz.func80 (by kernel_rfl) hO (V_ok (tb := lv80) (cuts := []) 500 (Eq.mp (by kernel_rfl) hh))
/-! sward/collect.lay -/
noncomputable def b81 : Code := (Tryz.f81.body).getD .skip
def lv81 : List (Nat × List Nat) := []
def T81 (O : CallF) (Q : Value → Hp → Prop) (b0 : Nat) (f0 : Nat) (x1 : Int) (a2 : Option Addr) (n2 : Nat) (c2 : Nat) (h : Hp) : Prop :=
  ∃ x1', readAt h b0 (f0 + 1) 1 = some [(.int .i64 x1')] ∧
  ∃ a2' n3' c4', readAt h b0 (f0 + 0) 1 = some [(.slice a2' n3' c4')] ∧
  isNat x1' fun n5' =>
  isAddr a2' fun b6' f7' =>
  vreq (Nat.blt n5' n3')
  (vreq (canW h b6' (f7' + (n5' * 1)) [(.int .i64 (wrapF .i64 ((wrapF .i64 (8 * (Int.ofNat n2))) + x1)))])
  (let g8 : Hp := h.wr b6' (f7' + (n5' * 1)) [(.int .i64 (wrapF .i64 ((wrapF .i64 (8 * (Int.ofNat n2))) + x1)))]
  let g9 : Hp := g8.rsv 18
  ∃ x10', readAt g9 b0 (f0 + 1) 1 = some [(.int .i64 x10')] ∧
  ∃ a11' n12' c13', readAt g9 b0 (f0 + 0) 1 = some [(.slice a11' n12' c13')] ∧
  ∃ a14' n15' c16', sliceV Tryz.prog g9 22 (.slice a11' n12' c13') (some (.int .i64 (wrapF .i64 (x1' + 1)))) none none = some (.slice a14' n15' c16') ∧
  ∃ x17' h18', copyV Tryz.prog (g9.grd [b0]) 22 (.slice a14' n15' c16') (.slice a2 n2 c2) = some (.int .i64 x17', h18') ∧
  let g19 : Hp := h18'.rst g9
  vreq (canW (g19.grd []) b0 (f0 + 1) [(.int .i64 (wrapF .i64 (x10' + (wrapF .i64 (1 + x17')))))])
  (let g20 : Hp := (g19.grd []).wr b0 (f0 + 1) [(.int .i64 (wrapF .i64 (x10' + (wrapF .i64 (1 + x17')))))]
  let g21 : Hp := g20.rst g19
  Q (.int .i64 (wrapF .i64 (2 * x1'))) g21)))
theorem rk81 {O Q} (b0 f0 x1 a2 n2 c2) {h : Hp} (hO : O 81 [(.pointer (some ⟨b0, f0, none⟩)), (.int .i64 x1), (.slice a2 n2 c2)] h = none) (hh : T81 O Q b0 f0 x1 a2 n2 c2 h) : Ret Tryz.prog O 81 [(.pointer (some ⟨b0, f0, none⟩)), (.int .i64 x1), (.slice a2 n2 c2)] h Q :=
  .of (c := b81) Tryz.func81 (by kernel_rfl) hO (V_ok (tb := lv81) (cuts := []) 500 (Eq.mp (by kernel_rfl) hh))
/-! sward/swardref15.roomy -/
noncomputable def b83 : Code := (Tryz.f83.body).getD .skip
def lv83 : List (Nat × List Nat) := []
def T83 (O : CallF) (Q : Value → Hp → Prop) (a0_0 : Option Addr) (n0_0 : Nat) (c0_0 : Nat) (x0_1 : Int) (a0_2 : Option Addr) (n0_2 : Nat) (c0_2 : Nat) (a1 : Option Addr) (n1 : Nat) (c1 : Nat) (x2 : Int) (h : Hp) : Prop :=
  let g1 : Hp := h.add (.cells [(.slice a0_0 n0_0 c0_0), (.int .i64 x0_1), (.slice a0_2 n0_2 c0_2)] 24 .fix)
  let g2 : Hp := g1.add (.cells [(.slice none 0 0), (.int .i64 0), (.slice none 0 0)] 24 .fix)
  ∃ a3' n4' c5', ∃ x6', ∃ a7' n8' c9', readAt g2 h.nx 0 3 = some [(.slice a3' n4' c5'), (.int .i64 x6'), (.slice a7' n8' c9')] ∧
  ∃ a10' n11' c12', ∃ x13', ∃ a14' n15' c16', ∃ h17', EvC Tryz.prog O 91 [(.agg #[(.slice a3' n4' c5'), (.int .i64 x6'), (.slice a7' n8' c9')])] g2 (.agg #[(.slice a10' n11' c12'), (.int .i64 x13'), (.slice a14' n15' c16')]) h17' ∧
  vreq (canW h17' h.nx 0 [(.slice a10' n11' c12'), (.int .i64 x13'), (.slice a14' n15' c16')])
  (let g18 : Hp := h17'.wr h.nx 0 [(.slice a10' n11' c12'), (.int .i64 x13'), (.slice a14' n15' c16')]
  ∃ x19', readAt g18 h.nx 1 1 = some [(.int .i64 x19')] ∧
  ∃ a20' n21' c22', readAt g18 h.nx 0 1 = some [(.slice a20' n21' c22')] ∧
  vcond (!(ltI (Int.ofNat n21') (wrapF .i64 (x19' + x2))))
  (∃ a23' n24' c25', ∃ x26', ∃ a27' n28' c29', readAt g18 h.nx 0 3 = some [(.slice a23' n24' c25'), (.int .i64 x26'), (.slice a27' n28' c29')] ∧
  vreq (canW g18 g1.nx 0 [(.slice a23' n24' c25'), (.int .i64 x26'), (.slice a27' n28' c29')])
  (let g30 : Hp := g18.wr g1.nx 0 [(.slice a23' n24' c25'), (.int .i64 x26'), (.slice a27' n28' c29')]
  ∃ a31' n32' c33', ∃ x34', ∃ a35' n36' c37', readAt g30 g1.nx 0 3 = some [(.slice a31' n32' c33'), (.int .i64 x34'), (.slice a35' n36' c37')] ∧
  Q (.tuple #[(.agg #[(.slice a31' n32' c33'), (.int .i64 x34'), (.slice a35' n36' c37')]), (.slice a1 n1 c1), (.bool true)]) g30))
  (∃ a38' n39' c40', readAt g18 h.nx 2 1 = some [(.slice a38' n39' c40')] ∧
  ∃ a41' n42' c43', readAt g18 h.nx 2 1 = some [(.slice a41' n42' c43')] ∧
  ∃ a44' n45' c46' h47', appendV Tryz.prog g18 22 22 (.slice a41' n42' c43') (.slice a1 n1 c1) = some (.slice a44' n45' c46', h47') ∧
  vreq (canW h47' h.nx 2 [(.slice a44' n45' c46')])
  (let g48 : Hp := h47'.wr h.nx 2 [(.slice a44' n45' c46')]
  ∃ a49' n50' c51', ∃ x52', ∃ a53' n54' c55', readAt g48 h.nx 0 3 = some [(.slice a49' n50' c51'), (.int .i64 x52'), (.slice a53' n54' c55')] ∧
  ∃ a56' n57' c58', ∃ x59', ∃ a60' n61' c62', ∃ h63', EvC Tryz.prog O 64 [(.agg #[(.slice a49' n50' c51'), (.int .i64 x52'), (.slice a53' n54' c55')])] g48 (.agg #[(.slice a56' n57' c58'), (.int .i64 x59'), (.slice a60' n61' c62')]) h63' ∧
  vreq (canW h63' h.nx 0 [(.slice a56' n57' c58'), (.int .i64 x59'), (.slice a60' n61' c62')])
  (let g64 : Hp := h63'.wr h.nx 0 [(.slice a56' n57' c58'), (.int .i64 x59'), (.slice a60' n61' c62')]
  ∃ a65' n66' c67', readAt g64 h.nx 2 1 = some [(.slice a65' n66' c67')] ∧
  ∃ a68' n69' c70', sliceV Tryz.prog g64 22 (.slice a65' n66' c67') (some (.int .i64 (Int.ofNat n39'))) none none = some (.slice a68' n69' c70') ∧
  ∃ a71' n72' c73' h74', appendV Tryz.prog g64 22 22 (.slice none 0 0) (.slice a68' n69' c70') = some (.slice a71' n72' c73', h74') ∧
  ∃ a75' n76' c77', readAt h74' h.nx 2 1 = some [(.slice a75' n76' c77')] ∧
  ∃ a78' n79' c80', sliceV Tryz.prog h74' 22 (.slice a75' n76' c77') none (some (.int .i64 (Int.ofNat n39'))) none = some (.slice a78' n79' c80') ∧
  vreq (canW h74' h.nx 2 [(.slice a78' n79' c80')])
  (let g81 : Hp := h74'.wr h.nx 2 [(.slice a78' n79' c80')]
  let g82 : Hp := g81.rsv 13
  ∃ a83' n84' c85', ∃ x86', ∃ a87' n88' c89', readAt g82 h.nx 0 3 = some [(.slice a83' n84' c85'), (.int .i64 x86'), (.slice a87' n88' c89')] ∧
  ∃ x90', readAt g82 h.nx 1 1 = some [(.int .i64 x90')] ∧
  ∃ a91' n92' c93', readAt g82 h.nx 0 1 = some [(.slice a91' n92' c93')] ∧
  vreq (canW (g82.grd [h.nx, h.nx]) g1.nx 0 [(.slice a83' n84' c85'), (.int .i64 x86'), (.slice a87' n88' c89')])
  (let g94 : Hp := (g82.grd [h.nx, h.nx]).wr g1.nx 0 [(.slice a83' n84' c85'), (.int .i64 x86'), (.slice a87' n88' c89')]
  let g95 : Hp := g94.rst g82
  ∃ a96' n97' c98', ∃ x99', ∃ a100' n101' c102', readAt g95 g1.nx 0 3 = some [(.slice a96' n97' c98'), (.int .i64 x99'), (.slice a100' n101' c102')] ∧
  Q (.tuple #[(.agg #[(.slice a96' n97' c98'), (.int .i64 x99'), (.slice a100' n101' c102')]), (.slice a71' n72' c73'), (.bool (!(ltI (Int.ofNat n92') (wrapF .i64 (x90' + x2)))))]) g95))))))
theorem rk83 {O Q} (a0_0 n0_0 c0_0 x0_1 a0_2 n0_2 c0_2 a1 n1 c1 x2) {h : Hp} (hO : O 83 [(.agg #[(.slice a0_0 n0_0 c0_0), (.int .i64 x0_1), (.slice a0_2 n0_2 c0_2)]), (.slice a1 n1 c1), (.int .i64 x2)] h = none) (hh : T83 O Q a0_0 n0_0 c0_0 x0_1 a0_2 n0_2 c0_2 a1 n1 c1 x2 h) : Ret Tryz.prog O 83 [(.agg #[(.slice a0_0 n0_0 c0_0), (.int .i64 x0_1), (.slice a0_2 n0_2 c0_2)]), (.slice a1 n1 c1), (.int .i64 x2)] h Q :=
  .of (c := b83) Tryz.func83 (by kernel_rfl) hO (V_ok (tb := lv83) (cuts := []) 500 (Eq.mp (by kernel_rfl) hh))
/-! sward/swardref15.laidDown -/
noncomputable def b84 : Code := (Tryz.f84.body).getD .skip
noncomputable def stk84_0 : List KI := [.code (sub [1, 1, 1, 0, 1, 0] b84), .blk 0, .code (sub [1, 1, 1, 1] b84)]
def lv84 : List (Nat × List Nat) := [(0, [2, 3, 6, 7, 8, 9])]
def I84_0 (O : CallF) (Q : Value → Hp → Prop) (a0_0 : Option Addr) (n0_0 : Nat) (c0_0 : Nat) (x0_1 : Int) (a0_2 : Option Addr) (n0_2 : Nat) (c0_2 : Nat) (x1 : Int) (a2 : Option Addr) (n2 : Nat) (c2 : Nat) (b3 : Nat) (f3 : Nat) (b6 : Nat) (f6 : Nat) (x8 : Int) (x9 : Int) (h : Hp) : Prop := RKL Tryz.prog O Tryz.f84 stk84_0 47 [2, 3, 6, 7, 8, 9] [(.slice a2 n2 c2), (.pointer (some ⟨b3, f3, none⟩)), (.pointer (some ⟨b6, f6, none⟩)), (.int .i64 0), (.int .i64 x8), (.int .i64 x9)] h Q
def T84 (O : CallF) (Q : Value → Hp → Prop) (a0_0 : Option Addr) (n0_0 : Nat) (c0_0 : Nat) (x0_1 : Int) (a0_2 : Option Addr) (n0_2 : Nat) (c0_2 : Nat) (x1 : Int) (a2 : Option Addr) (n2 : Nat) (c2 : Nat) (h : Hp) : Prop :=
  let g1 : Hp := h.add (.cells [(.slice a0_0 n0_0 c0_0), (.int .i64 x0_1), (.slice a0_2 n0_2 c0_2)] 24 .fix)
  let g2 : Hp := g1.add (.cells [(.slice none 0 0), (.int .i64 0), (.slice none 0 0)] 24 .fix)
  ∃ x3', readAt g2 h.nx 1 1 = some [(.int .i64 x3')] ∧
  ∃ a4' n5' c6', readAt g2 h.nx 0 1 = some [(.slice a4' n5' c6')] ∧
  isNat x3' fun n7' =>
  isAddr a4' fun b8' f9' =>
  vreq (Nat.blt n7' n5')
  (vreq (canW g2 b8' (f9' + (n7' * 1)) [(.int .i64 (wrapF .i64 ((wrapF .i64 (8 * (Int.ofNat n2))) + x1)))])
  (let g10 : Hp := g2.wr b8' (f9' + (n7' * 1)) [(.int .i64 (wrapF .i64 ((wrapF .i64 (8 * (Int.ofNat n2))) + x1)))]
  I84_0 O Q a0_0 n0_0 c0_0 x0_1 a0_2 n0_2 c0_2 x1 a2 n2 c2 h.nx 0 g1.nx 0 x3' 0 g10))
theorem rk84 {O Q} (a0_0 n0_0 c0_0 x0_1 a0_2 n0_2 c0_2 x1 a2 n2 c2) {h : Hp} (hO : O 84 [(.agg #[(.slice a0_0 n0_0 c0_0), (.int .i64 x0_1), (.slice a0_2 n0_2 c0_2)]), (.int .i64 x1), (.slice a2 n2 c2)] h = none) (hh : T84 O Q a0_0 n0_0 c0_0 x0_1 a0_2 n0_2 c0_2 x1 a2 n2 c2 h) : Ret Tryz.prog O 84 [(.agg #[(.slice a0_0 n0_0 c0_0), (.int .i64 x0_1), (.slice a0_2 n0_2 c0_2)]), (.int .i64 x1), (.slice a2 n2 c2)] h Q :=
  .of (c := b84) Tryz.func84 (by kernel_rfl) hO (V_ok (tb := lv84) (cuts := []) 500 (Eq.mp (by kernel_rfl) hh))
def T84_0 (O : CallF) (Q : Value → Hp → Prop) (a0_0 : Option Addr) (n0_0 : Nat) (c0_0 : Nat) (x0_1 : Int) (a0_2 : Option Addr) (n0_2 : Nat) (c0_2 : Nat) (x1 : Int) (a2 : Option Addr) (n2 : Nat) (c2 : Nat) (b3 : Nat) (f3 : Nat) (b6 : Nat) (f6 : Nat) (x8 : Int) (x9 : Int) (h : Hp) : Prop :=
  vcond (ltI x9 (Int.ofNat n2))
  (let g101 : Hp := h.rsv 12
  ∃ a102' n103' c104', readAt g101 b3 (f3 + 0) 1 = some [(.slice a102' n103' c104')] ∧
  isNat x9 fun n105' =>
  isAddr a2 fun b106' f107' =>
  vreq (Nat.blt n105' n2)
  (∃ x108', readAt g101 b106' (f107' + (n105' * 1)) 1 = some [(.int .i64 x108')] ∧
  isNat (wrapF .i64 ((wrapF .i64 (x8 + 1)) + x9)) fun n109' =>
  isAddr a102' fun b110' f111' =>
  vreq (Nat.blt n109' n103')
  (vreq (canW (g101.grd []) b110' (f111' + (n109' * 1)) [(.int .i64 x108')])
  (let g112 : Hp := (g101.grd []).wr b110' (f111' + (n109' * 1)) [(.int .i64 x108')]
  let g113 : Hp := g112.rst g101
  I84_0 O Q a0_0 n0_0 c0_0 x0_1 a0_2 n0_2 c0_2 x1 a2 n2 c2 b3 f3 b6 f6 x8 (wrapF .i64 (x9 + 1)) g113))))
  (vreq (canW h b3 (f3 + 1) [(.int .i64 (wrapF .i64 ((wrapF .i64 (x8 + 1)) + (Int.ofNat n2))))])
  (let g114 : Hp := h.wr b3 (f3 + 1) [(.int .i64 (wrapF .i64 ((wrapF .i64 (x8 + 1)) + (Int.ofNat n2))))]
  ∃ a115' n116' c117', ∃ x118', ∃ a119' n120' c121', readAt g114 b3 f3 3 = some [(.slice a115' n116' c117'), (.int .i64 x118'), (.slice a119' n120' c121')] ∧
  vreq (canW g114 b6 f6 [(.slice a115' n116' c117'), (.int .i64 x118'), (.slice a119' n120' c121')])
  (let g122 : Hp := g114.wr b6 f6 [(.slice a115' n116' c117'), (.int .i64 x118'), (.slice a119' n120' c121')]
  ∃ a123' n124' c125', ∃ x126', ∃ a127' n128' c129', readAt g122 b6 f6 3 = some [(.slice a123' n124' c125'), (.int .i64 x126'), (.slice a127' n128' c129')] ∧
  Q (.tuple #[(.agg #[(.slice a123' n124' c125'), (.int .i64 x126'), (.slice a127' n128' c129')]), (.int .i64 (wrapF .i64 (2 * x8)))]) g122)))
theorem I84_0.of {O Q} (a0_0 n0_0 c0_0 x0_1 a0_2 n0_2 c0_2 x1 a2 n2 c2 b3 f3 b6 f6 x8 x9) {h : Hp} (hh : T84_0 O Q a0_0 n0_0 c0_0 x0_1 a0_2 n0_2 c0_2 x1 a2 n2 c2 b3 f3 b6 f6 x8 x9 h) : I84_0 O Q a0_0 n0_0 c0_0 x0_1 a0_2 n0_2 c0_2 x1 a2 n2 c2 b3 f3 b6 f6 x8 x9 h :=
  RKL.of (tb := lv84) (cuts := []) 500 fun _ => Eq.mp (by kernel_rfl) hh
/-! sward/collect.within -/
noncomputable def b85 : Code := (Tryz.f85.body).getD .skip
def lv85 : List (Nat × List Nat) := []
def T85 (O : CallF) (Q : Value → Hp → Prop) (a0_0 : Option Addr) (n0_0 : Nat) (c0_0 : Nat) (x0_1 : Int) (a0_2 : Option Addr) (n0_2 : Nat) (c0_2 : Nat) (x1 : Int) (x2 : Int) (h : Hp) : Prop :=
  let g1 : Hp := h.add (.cells [(.slice a0_0 n0_0 c0_0), (.int .i64 x0_1), (.slice a0_2 n0_2 c0_2)] 24 .fix)
  ∃ a2' n3' c4', ∃ x5', ∃ a6' n7' c8', readAt g1 h.nx 0 3 = some [(.slice a2' n3' c4'), (.int .i64 x5'), (.slice a6' n7' c8')] ∧
  ∃ a9' n10' c11', ∃ x12', ∃ h13', EvC Tryz.prog O 65 [(.agg #[(.slice a2' n3' c4'), (.int .i64 x5'), (.slice a6' n7' c8')])] g1 (.tuple #[(.slice a9' n10' c11'), (.int .i64 x12')]) h13' ∧
  vcond (eqI x12' 0)
  (∃ q14', ∃ h15', EvC Tryz.prog O 71 [(.slice a9' n10' c11'), (.int .i64 x1)] h13' (.bool q14') h15' ∧
  vcond (!q14')
  (Q (.tuple #[(.slice a9' n10' c11'), (.int .i64 2)]) h15')
  (vcond (ltI x2 0)
  (Q (.tuple #[(.slice a9' n10' c11'), (.int .i64 2)]) h15')
  (∃ a16' n17' c18', readAt h15' h.nx 0 1 = some [(.slice a16' n17' c18')] ∧
  isNat x1 fun n19' =>
  isAddr a16' fun b20' f21' =>
  vreq (Nat.blt n19' n17')
  (∃ x22', readAt h15' b20' (f21' + (n19' * 1)) 1 = some [(.int .i64 x22')] ∧
  ∃ x23', ∃ x24', ∃ h25', EvC Tryz.prog O 86 [(.int .i64 x22')] h15' (.agg #[(.int .i64 x23'), (.int .i64 x24')]) h25' ∧
  vcond (!(ltI x2 x23'))
  (Q (.tuple #[(.slice a9' n10' c11'), (.int .i64 2)]) h25')
  (Q (.tuple #[(.slice a9' n10' c11'), (.int .i64 x12')]) h25')))))
  (Q (.tuple #[(.slice a9' n10' c11'), (.int .i64 x12')]) h13')
theorem rk85 {O Q} (a0_0 n0_0 c0_0 x0_1 a0_2 n0_2 c0_2 x1 x2) {h : Hp} (hO : O 85 [(.agg #[(.slice a0_0 n0_0 c0_0), (.int .i64 x0_1), (.slice a0_2 n0_2 c0_2)]), (.int .i64 x1), (.int .i64 x2)] h = none) (hh : T85 O Q a0_0 n0_0 c0_0 x0_1 a0_2 n0_2 c0_2 x1 x2 h) : Ret Tryz.prog O 85 [(.agg #[(.slice a0_0 n0_0 c0_0), (.int .i64 x0_1), (.slice a0_2 n0_2 c0_2)]), (.int .i64 x1), (.int .i64 x2)] h Q :=
  .of (c := b85) Tryz.func85 (by kernel_rfl) hO (V_ok (tb := lv85) (cuts := []) 500 (Eq.mp (by kernel_rfl) hh))
/-! sward/collect.clone -/
noncomputable def b87 : Code := (Tryz.f87.body).getD .skip
def lv87 : List (Nat × List Nat) := []
def T87 (O : CallF) (Q : Value → Hp → Prop) (a0_0 : Option Addr) (n0_0 : Nat) (c0_0 : Nat) (x0_1 : Int) (a0_2 : Option Addr) (n0_2 : Nat) (c0_2 : Nat) (h : Hp) : Prop :=
  let g1 : Hp := h.add (.cells [(.slice a0_0 n0_0 c0_0), (.int .i64 x0_1), (.slice a0_2 n0_2 c0_2)] 24 .fix)
  let g2 : Hp := g1.add (.cells [(.slice none 0 0), (.int .i64 0), (.slice none 0 0)] 24 .fix)
  let g3 : Hp := g2.rsv 10
  ∃ a4' n5' c6', readAt g3 h.nx 0 1 = some [(.slice a4' n5' c6')] ∧
  ∃ x7', readAt g3 h.nx 1 1 = some [(.int .i64 x7')] ∧
  ∃ a8' n9' c10', readAt g3 h.nx 2 1 = some [(.slice a8' n9' c10')] ∧
  ∃ a11' n12' c13', ∃ h14', EvC Tryz.prog O 46 [(.slice a4' n5' c6')] (g3.grd [h.nx, h.nx]) (.slice a11' n12' c13') h14' ∧
  let g15 : Hp := h14'.rst g3
  ∃ a16' n17' c18', ∃ h19', EvC Tryz.prog O 46 [(.slice a8' n9' c10')] (g15.grd [h.nx]) (.slice a16' n17' c18') h19' ∧
  let g20 : Hp := h19'.rst g15
  vreq (canW (g20.grd []) g1.nx 0 [(.slice a11' n12' c13'), (.int .i64 x7'), (.slice a16' n17' c18')])
  (let g21 : Hp := (g20.grd []).wr g1.nx 0 [(.slice a11' n12' c13'), (.int .i64 x7'), (.slice a16' n17' c18')]
  let g22 : Hp := g21.rst g20
  ∃ a23' n24' c25', ∃ x26', ∃ a27' n28' c29', readAt g22 g1.nx 0 3 = some [(.slice a23' n24' c25'), (.int .i64 x26'), (.slice a27' n28' c29')] ∧
  Q (.agg #[(.slice a23' n24' c25'), (.int .i64 x26'), (.slice a27' n28' c29')]) g22)
theorem rk87 {O Q} (a0_0 n0_0 c0_0 x0_1 a0_2 n0_2 c0_2) {h : Hp} (hO : O 87 [(.agg #[(.slice a0_0 n0_0 c0_0), (.int .i64 x0_1), (.slice a0_2 n0_2 c0_2)])] h = none) (hh : T87 O Q a0_0 n0_0 c0_0 x0_1 a0_2 n0_2 c0_2 h) : Ret Tryz.prog O 87 [(.agg #[(.slice a0_0 n0_0 c0_0), (.int .i64 x0_1), (.slice a0_2 n0_2 c0_2)])] h Q :=
  .of (c := b87) Tryz.func87 (by kernel_rfl) hO (V_ok (tb := lv87) (cuts := []) 500 (Eq.mp (by kernel_rfl) hh))
/-! sward/swardref15.within -/
noncomputable def b88 : Code := (Tryz.f88.body).getD .skip
def lv88 : List (Nat × List Nat) := []
def T88 (O : CallF) (Q : Value → Hp → Prop) (a0_0 : Option Addr) (n0_0 : Nat) (c0_0 : Nat) (x0_1 : Int) (a0_2 : Option Addr) (n0_2 : Nat) (c0_2 : Nat) (x1 : Int) (x2 : Int) (h : Hp) : Prop :=
  let g1 : Hp := h.add (.cells [(.slice a0_0 n0_0 c0_0), (.int .i64 x0_1), (.slice a0_2 n0_2 c0_2)] 24 .fix)
  ∃ a2' n3' c4', ∃ x5', ∃ a6' n7' c8', readAt g1 h.nx 0 3 = some [(.slice a2' n3' c4'), (.int .i64 x5'), (.slice a6' n7' c8')] ∧
  ∃ a9' n10' c11', ∃ x12', ∃ h13', EvC Tryz.prog O 37 [(.agg #[(.slice a2' n3' c4'), (.int .i64 x5'), (.slice a6' n7' c8')])] g1 (.tuple #[(.slice a9' n10' c11'), (.int .i64 x12')]) h13' ∧
  vcond (eqI x12' 0)
  (∃ q14', ∃ h15', EvC Tryz.prog O 67 [(.slice a9' n10' c11'), (.int .i64 x1)] h13' (.bool q14') h15' ∧
  vcond q14'
  (vcond (!(ltI x2 0))
  (∃ a16' n17' c18', readAt h15' h.nx 0 1 = some [(.slice a16' n17' c18')] ∧
  isNat x1 fun n19' =>
  isAddr a16' fun b20' f21' =>
  vreq (Nat.blt n19' n17')
  (∃ x22', readAt h15' b20' (f21' + (n19' * 1)) 1 = some [(.int .i64 x22')] ∧
  ∃ x23', ∃ h24', EvC Tryz.prog O 127 [(.int .i64 x22')] h15' (.int .i64 x23') h24' ∧
  Q (.bool (ltI x2 x23')) h24'))
  (Q (.bool false) h15'))
  (Q (.bool false) h15'))
  (Q (.bool false) h13')
theorem rk88 {O Q} (a0_0 n0_0 c0_0 x0_1 a0_2 n0_2 c0_2 x1 x2) {h : Hp} (hO : O 88 [(.agg #[(.slice a0_0 n0_0 c0_0), (.int .i64 x0_1), (.slice a0_2 n0_2 c0_2)]), (.int .i64 x1), (.int .i64 x2)] h = none) (hh : T88 O Q a0_0 n0_0 c0_0 x0_1 a0_2 n0_2 c0_2 x1 x2 h) : Ret Tryz.prog O 88 [(.agg #[(.slice a0_0 n0_0 c0_0), (.int .i64 x0_1), (.slice a0_2 n0_2 c0_2)]), (.int .i64 x1), (.int .i64 x2)] h Q :=
  .of (c := b88) Tryz.func88 (by kernel_rfl) hO (V_ok (tb := lv88) (cuts := []) 500 (Eq.mp (by kernel_rfl) hh))
/-! sward/swardref15.copied -/
noncomputable def b91 : Code := (Tryz.f91.body).getD .skip
def lv91 : List (Nat × List Nat) := []
def T91 (O : CallF) (Q : Value → Hp → Prop) (a0_0 : Option Addr) (n0_0 : Nat) (c0_0 : Nat) (x0_1 : Int) (a0_2 : Option Addr) (n0_2 : Nat) (c0_2 : Nat) (h : Hp) : Prop :=
  let g1 : Hp := h.add (.cells [(.slice a0_0 n0_0 c0_0), (.int .i64 x0_1), (.slice a0_2 n0_2 c0_2)] 24 .fix)
  let g2 : Hp := g1.add (.cells [(.slice none 0 0), (.int .i64 0), (.slice none 0 0)] 24 .fix)
  let g3 : Hp := g2.rsv 11
  ∃ a4' n5' c6', readAt g3 h.nx 0 1 = some [(.slice a4' n5' c6')] ∧
  ∃ x7', readAt g3 h.nx 1 1 = some [(.int .i64 x7')] ∧
  ∃ a8' n9' c10', readAt g3 h.nx 2 1 = some [(.slice a8' n9' c10')] ∧
  vreq (g3.free (g2.nx + 0))
  (let g11 : Hp := g3.lay (g2.nx + 0) (.cells [] 3 .fix)
  ∃ a12' n13' c14' h15', appendV Tryz.prog (g11.grd [h.nx, h.nx]) 22 22 (.slice (some ⟨(g2.nx + 0), 0, none⟩) 0 0) (.slice a4' n5' c6') = some (.slice a12' n13' c14', h15') ∧
  let g16 : Hp := h15'.rst g11
  ∃ a17' n18' c19' h20', appendV Tryz.prog (g16.grd [h.nx]) 22 22 (.slice none 0 0) (.slice a8' n9' c10') = some (.slice a17' n18' c19', h20') ∧
  let g21 : Hp := h20'.rst g16
  vreq (canW (g21.grd []) g1.nx 0 [(.slice a12' n13' c14'), (.int .i64 x7'), (.slice a17' n18' c19')])
  (let g22 : Hp := (g21.grd []).wr g1.nx 0 [(.slice a12' n13' c14'), (.int .i64 x7'), (.slice a17' n18' c19')]
  let g23 : Hp := g22.rst g21
  ∃ a24' n25' c26', ∃ x27', ∃ a28' n29' c30', readAt g23 g1.nx 0 3 = some [(.slice a24' n25' c26'), (.int .i64 x27'), (.slice a28' n29' c30')] ∧
  Q (.agg #[(.slice a24' n25' c26'), (.int .i64 x27'), (.slice a28' n29' c30')]) g23))
theorem rk91 {O Q} (a0_0 n0_0 c0_0 x0_1 a0_2 n0_2 c0_2) {h : Hp} (hO : O 91 [(.agg #[(.slice a0_0 n0_0 c0_0), (.int .i64 x0_1), (.slice a0_2 n0_2 c0_2)])] h = none) (hh : T91 O Q a0_0 n0_0 c0_0 x0_1 a0_2 n0_2 c0_2 h) : Ret Tryz.prog O 91 [(.agg #[(.slice a0_0 n0_0 c0_0), (.int .i64 x0_1), (.slice a0_2 n0_2 c0_2)])] h Q :=
  .of (c := b91) Tryz.func91 (by kernel_rfl) hO (V_ok (tb := lv91) (cuts := []) 500 (Eq.mp (by kernel_rfl) hh))
end Go.Proofs.YtngcjpkccnfjiaaGreatDoor
/- Contracts: a heap is copied, a cell is laid. -/
namespace Go.Proofs.YtngcjpkccnfjiaaGreatDoor
set_option maxRecDepth 100000
open Go Go.Ev
abbrev iv (xs : List Int) : List Value := xs.map (Value.int .i64)
theorem iv_one (xs : List Int) : (iv xs).all one = true := by rw [List.all_map]; exact List.all_eq_true.2 fun _ _ => rfl
theorem isAddr_i {b off : Nat} {K : Nat → Nat → Prop} (h : K b off) : isAddr (some ⟨b, off, none⟩) K := h
section
variable {O : CallF} (hO : Oth O)
include hO
/-- 'slices.Clone'. -/
theorem ct46 {g : Hp} (ok : g.Ok) {a : Option Addr} {n c : Nat} {xs : List Int} (X : IntsAt g a n xs) (hl : xs.length < 1000000) : Ret Tryz.prog O 46 [.slice a n c] g fun v h' => ∃ a' n' c', v = .slice a' n' c' ∧ Know g h' [acc g.nx 3 1 a' n' c' (iv xs)] := by
  refine rk46 (hO := hO _ _ _ (by decide)) (hh := ?_) ..
  unfold T46
  have hn := X.1
  cases a with
  | none =>
    have : xs = [] := by
      rcases X.2 with ⟨h, _⟩ | ⟨_, _, _, _, _, h, _⟩
      · exact h
      · cases h
    subst this
    exact ⟨_, _, _, rfl, (Know.nil ok).accNil g.nx 3 1⟩
  | some ad =>
    show let g1 : Hp := g.add (.cells [] 3 .fix)
      _
    intro g1
    have S : Know g g1 [_] := ((Know.nil ok).add _).acc0 0 rfl g.nx (Nat.le_refl _) 3 1
    haveI := S.ft
    obtain ⟨a', n', c', h', e, hn', S⟩ := S.app 0 rfl (Nat.le_refl _) S.lo AppT22 ⟨_, _, _, rfl⟩ (IntsAt.src (SlAt.to g1 X)) (by rw [List.length_map]; omega) (iv_one xs) (by omega) (by unfold big; omega)
    exact ⟨a', n', c', h', e, _, _, _, rfl, S⟩
/-- A heap in new memory. -/
def QCopy (g : Hp) (W : List Int) (top : Int) (R : List Int) : Value → Hp → Prop := fun v h' => ∃ oW ar nr cr lo, v = .agg #[.slice (some ⟨oW, 0, none⟩) W.length unk, .int .i64 top, .slice ar nr cr] ∧ g.nx ≤ lo ∧ Know g h' [ob oW (.cells (iv W) 3 .grow), acc lo 3 1 ar nr cr (iv R)]
theorem ct87 {g : Hp} (ok : g.Ok) {aw : Option Addr} {nw cw : Nat} {W : List Int} {top : Int} {ar : Option Addr} {nr cr : Nat} {R : List Int} (A : HA g aw nw cw W ar nr cr R) (hW : W ≠ []) (lW : W.length < 1000000) (lR : R.length < 1000000) :
    Ret Tryz.prog O 87 [.agg #[.slice aw nw cw, .int .i64 top, .slice ar nr cr]] g (QCopy g W top R) := by
  refine rk87 (hO := hO _ _ _ (by decide)) (hh := ?_) ..
  unfold T87
  intro g1 g2 g3
  have S : Know g g3 [_, _] := (((Know.nil ok).add _).add _).rsv 10
  have := S.lo
  have n3 : g3.nx = g.nx + 12 := rfl
  have n1 : g1.nx = g.nx + 1 := rfl
  haveI := S.ftg [g.nx, g.nx]
  obtain ⟨v, h14, e14, a1, m1, c1, rfl, T⟩ := ct46 hO (S.okg (l := [g.nx, g.nx]) (by intro q hq; have : q = g.nx := (by simpa using hq); omega)) (A.sw.at_.to (g3.grd [g.nx, g.nx])) lW (c := cw)
  refine ⟨_, _, _, S.rd 1 rfl rfl rfl, _, S.rd 1 rfl rfl rfl, _, _, _, S.rd 1 rfl rfl rfl, _, _, _, _, e14, ?_⟩
  intro g15
  have S : Know g g15 [_, _, _] := S.compg T
  have m15 : g3.nx ≤ g15.nx := T.kp.nx
  haveI := S.ftg [g.nx]
  obtain ⟨v, h19, e19, a2, m2, c2, rfl, T⟩ := ct46 hO (S.okg (l := [g.nx]) (by intro q hq; have : q = g.nx := (by simpa using hq); omega)) (A.sr.at_.to (g15.grd [g.nx])) lR (c := cr)
  refine ⟨_, _, _, _, e19, ?_⟩
  intro g20
  have S : Know g g20 [_, _, _, _] := S.compg T
  refine vreq_t (S.cwg 2 rfl (fun _ h => by cases h) (by decide) rfl rfl) ?_
  intro g21 g22
  have S : Know g g22 [_, _, _, _] := S.wrg 2 rfl (fun _ h => by cases h) (by decide) rfl rfl
  obtain ⟨o, rfl, rfl, hm, _, S⟩ := S.accOb 1 rfl (by simpa using hW)
  refine ⟨_, _, _, _, _, _, _, S.rd 2 rfl rfl rfl, o, _, _, _, _, ?_, ?_, S.sel [1, 0] (by decide) rfl⟩
  · rw [show W.length = m1 by simpa using hm.symm]
  · show g.nx ≤ g15.nx; omega
end
end Go.Proofs.YtngcjpkccnfjiaaGreatDoor
/- Contracts: a cell is laid, by the code and by the reference. -/
namespace Go.Proofs.YtngcjpkccnfjiaaGreatDoor
set_option maxRecDepth 100000
open Go Go.Ev
theorem iv_putAt : ∀ (ds xs : List Int) (k : Nat), iv (putAt ds k xs) = putAt (iv ds) k (iv xs) := by
  intro ds
  induction ds with
  | nil => intro xs k; cases k <;> cases xs <;> rfl
  | cons d ds ih =>
    intro xs k
    cases k with
    | zero => cases xs with
      | nil => rfl
      | cons x xs => show _ :: _ = _ :: _; rw [← ih]
    | succ k => show _ :: _ = _ :: _; rw [← ih]
theorem putAt_two {α : Type} : ∀ (ds xs : List α) (k : Nat) (x : α), putAt (putAt ds k [x]) (k + 1) xs = putAt ds k (x :: xs) := by
  intro ds
  induction ds with
  | nil => intro xs k x; cases k <;> cases xs <;> rfl
  | cons d ds ih =>
    intro xs k x
    cases k with
    | zero =>
      show x :: putAt (putAt ds 0 []) 0 xs = x :: putAt ds 0 xs
      rw [putAt_nil]
    | succ k => show d :: _ = d :: _; rw [ih]
theorem putAt_snoc' {α : Type} {ds c : List α} {k : Nat} {v : α} (h : k + c.length < ds.length) : putAt (putAt ds k c) (k + c.length) [v] = putAt ds k (c ++ [v]) := by
  rw [← putAt_snoc h]
  refine List.ext_getElem? fun i => ?_
  rw [putAt_get _ _ _ (by rw [putAt_length]; simp; omega), List.getElem?_set, putAt_length]
  simp only [List.length_cons, List.length_nil]
  by_cases hi : k + c.length = i
  · subst hi; simp [h]
  · rw [if_neg (by omega), if_neg hi]
/-- The words when a cell is laid. -/
def layP (W : List Int) (top : Nat) (k : Int) (xs : List Int) : List Int := putAt W top ((8 * (xs.length : Int) + k) :: xs)
theorem layP_length (W : List Int) (top : Nat) (k : Int) (xs : List Int) : (layP W top k xs).length = W.length := putAt_length ..
/-- The words of a heap that is one's own. -/
def CapOk (m : Md) (cw n : Nat) : Prop := (m = .fix ∧ cw = n) ∨ (m = .grow ∧ cw = unk)
theorem CapOk.ro {m : Md} {cw n : Nat} (c : CapOk m cw n) : m ≠ .ro := by rcases c with ⟨rfl, _⟩ | ⟨rfl, _⟩ <;> decide
theorem SI.own {h : Hp} {o cw : Nat} {m : Md} {W : List Int} (hg : h.get o = some (.cells (iv W) 3 m)) (ho : o < h.nx) (c : CapOk m cw W.length) (hl : W.length < 1000000) : SI h (some ⟨o, 0, none⟩) W.length cw W := by
  rcases c with ⟨rfl, rfl⟩ | ⟨rfl, rfl⟩
  · exact SI.cells hg ho rfl hl
  · exact SI.acc (base := 0) (.inr ⟨o, rfl, rfl, by simp, Nat.zero_le _, ho, hg⟩) (by omega)
theorem slice_lo {h : Hp} {o n c : Nat} {W : List Int} (s : SI h (some ⟨o, 0, none⟩) n c W) {l : Nat} (hl : l < n) : ∃ c', sliceV Tryz.prog h 22 (.slice (some ⟨o, 0, none⟩) n c) (some (.int .i64 (Int.ofNat l))) none none = some (.slice (some ⟨o, l, none⟩) (n - l) c') := by
  obtain ⟨vis, hs, hv, hvu, _⟩ := s.cap
  unfold sliceV
  rw [Tryz.underlying22]
  simp only [sz3, bind, Option.bind_some, hs, bounds_lo (vis := vis) (show l ≤ n by omega)]
  by_cases hc : c = unk
  · subst hc
    simp only [Nat.beq_refl, Option.isNone_none, Bool.and_self, cond_true]
    exact ⟨_, by rw [Nat.zero_add, Nat.mul_one]⟩
  · have hcb : Nat.beq c unk = false := by rw [Bool.eq_false_iff]; intro hh; exact hc (Nat.eq_of_beq_eq_true hh)
    simp only [hcb, Bool.false_and, cond_false]
    rw [blt_t hvu]
    have hlb : Nat.beq vis l = false := by rw [Bool.eq_false_iff]; intro hh; have := Nat.eq_of_beq_eq_true hh; omega
    simp only [hlb, cond_true, cond_false]
    exact ⟨_, by rw [Nat.zero_add, Nat.mul_one]⟩
section
variable {O : CallF} (hO : Oth O)
include hO
/-- 'lay'. -/
theorem ct81 {h0 h : Hp} {L : List Rs} (S : Know h0 h L) (i j : Nat) {b oW cw top : Nat} {ar : Option Addr} {nr cr : Nat} {W : List Int} {m : Md}
    (hi : L[i]? = some (ob b (.cells [.slice (some ⟨oW, 0, none⟩) W.length cw, .int .i64 (Int.ofNat top), .slice ar nr cr] 24 .fix))) (hj : L[j]? = some (ob oW (.cells (iv W) 3 m))) (hij : i ≠ j) (hc : CapOk m cw W.length)
    {a2 : Option Addr} {n2 c2 : Nat} {xs : List Int} (X : IntsAt h a2 n2 xs) (hx : ∀ o off, a2 = some ⟨o, off, none⟩ → o ≠ oW) (hfit : top + 1 + xs.length ≤ W.length) (lW : W.length < 1000000) {k : Int} (hk : 0 ≤ k ∧ k ≤ 10) :
    Ret Tryz.prog O 81 [.pointer (some ⟨b, 0, none⟩), .int .i64 k, .slice a2 n2 c2] h fun v h' => v = .int .i64 (2 * (top : Int)) ∧ Know h0 h' ((L.set j (ob oW (.cells (iv (layP W top k xs)) 3 m))).set i (ob b (.cells [.slice (some ⟨oW, 0, none⟩) W.length cw, .int .i64 (Int.ofNat (top + 1 + xs.length)), .slice ar nr cr] 24 .fix))) := by
  refine rk81 (hO := hO _ _ _ (by decide)) (hh := ?_) ..
  unfold T81
  have hn2 := X.1
  have lj := S.len hj
  have li := S.len hi
  have e1 : wrapF .i64 (wrapF .i64 (8 * Int.ofNat n2) + k) = 8 * (xs.length : Int) + k := by
    rw [wrap64 (n := 8 * Int.ofNat n2) (by rw [hn2]; show _ ≤ 8 * (xs.length : Int); omega) (by rw [hn2]; show 8 * (xs.length : Int) < _; omega), hn2]
    exact wrap64 (by show _ ≤ 8 * (xs.length : Int) + k; omega) (by show 8 * (xs.length : Int) + k < _; omega)
  rw [e1]
  refine ⟨_, S.rd i hi rfl rfl, _, _, _, S.rd i hi rfl rfl, isNat_i (isAddr_i (vreq_t (blt_t (by omega)) (vreq_t (S.cw j hj hc.ro (ble_t (by rw [List.length_map]; show 0 + top * 1 + 1 ≤ _; omega)) rfl) ?_)))⟩
  intro g8 g9
  have S8 : Know h0 g8 _ := S.wr j hj hc.ro (ble_t (by rw [List.length_map]; show 0 + top * 1 + 1 ≤ _; omega)) rfl
  have S9 : Know h0 g9 _ := S8.rsv 18
  rw [show 0 + top * 1 = top by omega, show [Value.int .i64 (8 * (xs.length : Int) + k)] = iv [8 * (xs.length : Int) + k] from rfl, ← iv_putAt] at S9
  generalize hW1 : putAt W top [8 * (xs.length : Int) + k] = W1 at S9
  have lW1 : W1.length = W.length := by rw [← hW1, putAt_length]
  have hj9 : (L.set j (ob oW (.cells (iv W1) 3 m)))[j]? = some (ob oW (.cells (iv W1) 3 m)) := by rw [List.getElem?_set_self lj]
  have hi9 : (L.set j (ob oW (.cells (iv W1) 3 m)))[i]? = some (ob b (.cells [.slice (some ⟨oW, 0, none⟩) W.length cw, .int .i64 (Int.ofNat top), .slice ar nr cr] 24 .fix)) := by rw [List.getElem?_set_ne (Ne.symm hij)]; exact hi
  have hget : g9.get oW = some (.cells (iv W1) 3 m) := S9.obj j hj9
  have s9 : SI g9 (some ⟨oW, 0, none⟩) W.length cw W1 := by
    rw [← lW1]
    exact SI.own hget (S9.orng j hj9).2 (by rw [lW1]; exact hc) (by omega)
  have X9 : IntsAt g9 a2 n2 xs := SlAt.keep X (fun o off ha => wr_get_ne _ _ _ _ (hx o off ha)) (by show h.nx ≤ g8.nx + 18; rw [show g8.nx = h.nx from nx_wr ..]; omega) (fun _ _ h => h)
  have hne : b ≠ oW := S.ne i j hi hj hij
  have etop : wrapF .i64 (Int.ofNat top + 1) = Int.ofNat (top + 1) := wrap_succ (by omega)
  rw [etop]
  have fin : ∀ (g18 : Hp), Know h0 (g18.rst g9) (L.set j (ob oW (.cells (iv (layP W top k xs)) 3 m))) → vreq (canW ((g18.rst g9).grd []) b 1 [.int .i64 (wrapF .i64 (Int.ofNat top + wrapF .i64 (1 + Int.ofNat xs.length)))])
      (Know h0 ((((g18.rst g9).grd []).wr b 1 [.int .i64 (wrapF .i64 (Int.ofNat top + wrapF .i64 (1 + Int.ofNat xs.length)))]).rst (g18.rst g9)) ((L.set j (ob oW (.cells (iv (layP W top k xs)) 3 m))).set i (ob b (.cells [.slice (some ⟨oW, 0, none⟩) W.length cw, .int .i64 (Int.ofNat (top + 1 + xs.length)), .slice ar nr cr] 24 .fix)))) := by
    intro g18 S18
    have hi18 : (L.set j (ob oW (.cells (iv (layP W top k xs)) 3 m)))[i]? = some (ob b (.cells [.slice (some ⟨oW, 0, none⟩) W.length cw, .int .i64 (Int.ofNat top), .slice ar nr cr] 24 .fix)) := by rw [List.getElem?_set_ne (Ne.symm hij)]; exact hi
    have e2 : wrapF .i64 (Int.ofNat top + wrapF .i64 (1 + Int.ofNat xs.length)) = Int.ofNat (top + 1 + xs.length) := by
      rw [wrap64 (n := 1 + Int.ofNat xs.length) (by show _ ≤ 1 + (xs.length : Int); omega) (by show 1 + (xs.length : Int) < _; omega)]
      rw [wrap64 (by show _ ≤ (top : Int) + (1 + (xs.length : Int)); omega) (by show (top : Int) + (1 + (xs.length : Int)) < _; omega)]
      show (top : Int) + (1 + (xs.length : Int)) = ((top + 1 + xs.length : Nat) : Int)
      omega
    rw [e2]
    exact vreq_t (S18.cwg i hi18 (fun _ h => by cases h) (by decide) rfl rfl) (S18.wrg i hi18 (fun _ h => by cases h) (by decide) rfl rfl)
  have e3 : wrapF .i64 (2 * Int.ofNat top) = 2 * (top : Int) := dbl64 (n := W.length) (by omega) lW
  by_cases hz : xs = []
  · subst hz
    obtain ⟨a14, c16, es, sp⟩ := s9.part (l := top + 1) (r := W.length) (by omega) (by omega) (lo := some (.int .i64 (Int.ofNat (top + 1)))) (hi := none) fun vis hv => bounds_lo (by omega)
    have hn0 : n2 = 0 := hn2
    have cz : ∃ h18, copyV Tryz.prog (g9.grd [b]) 22 (.slice a14 (W.length - (top + 1)) c16) (.slice a2 n2 c2) = some (.int .i64 (Int.ofNat 0), h18) ∧ h18 = g9.grd [b] := by
      refine ⟨_, ?_, rfl⟩
      unfold copyV
      rw [el22]
      simp only [Option.bind_some, sz3, lenV, hn0]
      rcases sp.at_.2 with ⟨_, rfl⟩ | ⟨b', off, _, _, _, rfl, _⟩
      · rfl
      · show (bif Nat.beq (Nat.min 0 _) 0 then _ else _) = _
        rw [show Nat.min 0 (W.length - (top + 1)) = 0 from Nat.zero_min _]; rfl
    obtain ⟨h18, ec, rfl⟩ := cz
    refine ⟨_, S9.rd i hi9 rfl rfl, _, _, _, S9.rd i hi9 rfl rfl, _, _, _, es, _, _, ec, ?_⟩
    have := fin (g9.grd [b]) (by
      rw [rst_grd]
      have : layP W top k [] = W1 := by rw [← hW1]; rfl
      rw [this]; exact S9)
    intro g19
    obtain ⟨q1, q2⟩ := (vreq_eq _ _).mp this
    exact vreq_t q1 ⟨by rw [e3], q2⟩
  · have hpos : 0 < xs.length := List.length_pos_iff.2 hz
    obtain ⟨c', es⟩ := slice_lo s9 (l := top + 1) (by omega)
    have gf : (g9.grd [b]).guarded oW = false := S9.gdfg (S9.orng j hj9).1 fun q hq => by rw [List.mem_singleton.1 hq]; exact hne
    obtain ⟨h18, ec, hg18, ho18, hn18, hgd18, hf18⟩ := copy_ints (h := g9.grd [b]) (o := oW) (off := top + 1) (n := W.length - (top + 1)) (m := n2) (c2 := c2) (c1 := c') hget hc.ro gf (by omega) X9
    have hmin : Nat.min n2 (W.length - (top + 1)) = xs.length := by rw [hn2]; exact Nat.min_eq_left (by omega)
    rw [hmin] at ec hg18
    rw [List.take_length] at hg18
    refine ⟨_, S9.rd i hi9 rfl rfl, _, _, _, S9.rd i hi9 rfl rfl, _, _, _, es, _, _, ec, ?_⟩
    have eL : putAt W1 (top + 1) xs = layP W top k xs := by rw [← hW1, putAt_two]; rfl
    rw [eL] at hg18
    have S18 : Know h0 (h18.rst g9) ((L.set j (ob oW (.cells (iv W1) 3 m))).set j (ob oW (.cells (iv (layP W top k xs)) 3 m))) :=
      S9.upd j hj9 (r' := ob oW (.cells (iv (layP W top k xs)) 3 m)) ⟨fun o _ ho => ho18 o ho, by show g9.nx ≤ h18.nx; rw [hn18]; exact Nat.le_refl _, rfl, fun f => hf18 f⟩ (ob.loc _ _) hg18 fun _ h => .inl h
    rw [List.set_set] at S18
    have := fin h18 S18
    intro g19
    obtain ⟨q1, q2⟩ := (vreq_eq _ _).mp this
    exact vreq_t q1 ⟨by rw [e3], q2⟩
end
end Go.Proofs.YtngcjpkccnfjiaaGreatDoor
/- Contracts: the reference's copied, laidDown. -/
namespace Go.Proofs.YtngcjpkccnfjiaaGreatDoor
set_option maxRecDepth 100000
open Go Go.Ev
section
variable {O : CallF} (hO : Oth O)
include hO
/-- 'copied'. -/
theorem ct91 {g : Hp} (ok : g.Ok) {aw : Option Addr} {nw cw : Nat} {W : List Int} {top : Int} {ar : Option Addr} {nr cr : Nat} {R : List Int} (A : HA g aw nw cw W ar nr cr R) (hW : W ≠ []) (lW : W.length < 1000000) (lR : R.length < 1000000) :
    Ret Tryz.prog O 91 [.agg #[.slice aw nw cw, .int .i64 top, .slice ar nr cr]] g (QCopy g W top R) := by
  refine rk91 (hO := hO _ _ _ (by decide)) (hh := ?_) ..
  unfold T91
  intro g1 g2 g3
  have S : Know g g1 [_] := (Know.nil ok).add _
  have S : Know g g2 [_, _] := S.add _
  have S : Know g g3 [_, _, _] := S.rsvK 11
  have n1 : g1.nx = g.nx + 1 := rfl
  have n2 : g2.nx = g.nx + 2 := rfl
  have n3 : g3.nx = g.nx + 13 := rfl
  refine ⟨_, _, _, S.rd 2 rfl rfl rfl, _, S.rd 2 rfl rfl rfl, _, _, _, S.rd 2 rfl rfl rfl, vreq_t (S.fre 0 rfl (Nat.le_add_right ..) (by omega) (by simp)) ?_⟩
  intro g11
  have S : Know g g11 [_, _, _, _] := S.lay 0 rfl (Nat.le_add_right ..) (by omega) (by simp) _
  have S : Know g g11 [_, _, _, _] := S.acc0 0 rfl g2.nx (Nat.le_add_right ..) 3 1
  have n11 : g11.nx = g.nx + 13 := rfl
  have lgd : ∀ q ∈ [g.nx, g.nx], q < g2.nx := fun q hq => by have : q = g.nx := (by simpa using hq); omega
  haveI := S.ft
  have hnw := A.sw.at_.1
  have hnr := A.sr.at_.1
  obtain ⟨a', n', c', h', e, hn', S⟩ := S.appg 0 rfl (by omega) (by omega) AppT22 lgd ⟨_, _, _, rfl⟩ (c := 0) (x := .slice aw nw cw) (IntsAt.src (SlAt.to g11 A.sw.at_)) (by rw [List.length_map]; omega) (iv_one W) (by omega) (by unfold big; omega)
  refine ⟨_, _, _, _, e, ?_⟩
  intro g16
  have S : Know g g16 [_, _, _, _] := S
  have S : Know g g16 [_, _, _, _, _] := S.accNil g2.nx 3 1
  have m16 := S.lo
  have lgd : ∀ q ∈ [g.nx], q < g2.nx := fun q hq => by have : q = g.nx := (by simpa using hq); omega
  have r16 := (S.orng 3 rfl).2
  haveI := S.ft
  obtain ⟨a2', n2', c2', h2', e2, hn2', S⟩ := S.appg 0 rfl (by omega) (by omega) AppT22 lgd ⟨_, _, _, rfl⟩ (c := 0) (x := .slice ar nr cr) (IntsAt.src (SlAt.to g16 A.sr.at_)) (by rw [List.length_map]; omega) (iv_one R) (by omega) (by unfold big; omega)
  refine ⟨_, _, _, _, e2, ?_⟩
  intro g21
  have S : Know g g21 [_, _, _, _, _] := S
  refine vreq_t (S.cwg 3 rfl (fun _ h => by cases h) (by decide) rfl rfl) ?_
  intro g22 g23
  have S : Know g g23 [_, _, _, _, _] := S.wrg 3 rfl (fun _ h => by cases h) (by decide) rfl rfl
  obtain ⟨o, rfl, rfl, hm, _, S⟩ := S.accOb 1 rfl (by simpa using hW)
  refine ⟨_, _, _, _, _, _, _, S.rd 3 rfl rfl rfl, o, _, _, _, g2.nx, ?_, by omega, S.sel [1, 0] (by decide) rfl⟩
  rw [show W.length = n' by simpa using hm.symm]
/-- 'laidDown'. -/
theorem ct84 {h0 h : Hp} {L : List Rs} (S : Know h0 h L) (j : Nat) {oW cw top : Nat} {ar : Option Addr} {nr cr : Nat} {W : List Int} {m : Md}
    (hj : L[j]? = some (ob oW (.cells (iv W) 3 m))) (hc : CapOk m cw W.length)
    {a2 : Option Addr} {n2 c2 : Nat} {xs : List Int} (X : IntsAt h a2 n2 xs) (hx : ∀ o off, a2 = some ⟨o, off, none⟩ → o ≠ oW) (hfit : top + 1 + xs.length ≤ W.length) (lW : W.length < 1000000) {k : Int} (hk : 0 ≤ k ∧ k ≤ 10) :
    Ret Tryz.prog O 84 [.agg #[.slice (some ⟨oW, 0, none⟩) W.length cw, .int .i64 (Int.ofNat top), .slice ar nr cr], .int .i64 k, .slice a2 n2 c2] h fun v h' => v = .tuple #[.agg #[.slice (some ⟨oW, 0, none⟩) W.length cw, .int .i64 (Int.ofNat (top + 1 + xs.length)), .slice ar nr cr], .int .i64 (2 * (top : Int))] ∧ Know h0 h' (L.set j (ob oW (.cells (iv (layP W top k xs)) 3 m))) := by
  refine rk84 (hO := hO _ _ _ (by decide)) (hh := ?_) ..
  unfold T84
  intro g1 g2
  have hn2 := X.1
  have lj := S.len hj
  have e1 : wrapF .i64 (wrapF .i64 (8 * Int.ofNat n2) + k) = 8 * (xs.length : Int) + k := by
    rw [wrap64 (n := 8 * Int.ofNat n2) (by rw [hn2]; show _ ≤ 8 * (xs.length : Int); omega) (by rw [hn2]; show 8 * (xs.length : Int) < _; omega), hn2]
    exact wrap64 (by show _ ≤ 8 * (xs.length : Int) + k; omega) (by show 8 * (xs.length : Int) + k < _; omega)
  rw [e1]
  have S1 : Know h0 g1 _ := S.add _
  have S2 : Know h0 g2 _ := S1.add _
  have hb : Nat.ble (0 + top * 1 + [Value.int .i64 (8 * (xs.length : Int) + k)].length) (iv W).length = true := ble_t (by rw [List.length_map]; show 0 + top * 1 + 1 ≤ _; omega)
  refine ⟨_, S2.rd 1 rfl rfl rfl, _, _, _, S2.rd 1 rfl rfl rfl, isNat_i (isAddr_i (vreq_t (blt_t (by omega)) (vreq_t (S2.cw (j + 2) hj hc.ro hb rfl) ?_)))⟩
  intro g10
  have S10 : Know h0 g10 (_ :: _ :: L.set j _) := S2.wr (j + 2) hj hc.ro hb rfl
  rw [show 0 + top * 1 = top by omega, show [Value.int .i64 (8 * (xs.length : Int) + k)] = iv [8 * (xs.length : Int) + k] from rfl, ← iv_putAt] at S10
  have X10 : IntsAt g10 a2 n2 xs := SlAt.keep X (fun o off ha => (wr_get_ne _ _ _ _ (hx o off ha)).trans ?_) (by rw [show g10.nx = h.nx + 2 from nx_wr ..]; omega) (fun _ _ h => h)
  rotate_left
  · have : o < h.nx := by
      rcases X.2 with ⟨_, e⟩ | ⟨b, off', _, _, _, e, h2, _⟩
      · rw [e] at ha; cases ha
      · rw [e] at ha; injection ha with ha; injection ha with ha; omega
    exact ((((Kp.refl _ h).add (Nat.le_refl _) _).add (Nat.le_succ _) _).get o this)
  have lp : ∀ (d q : Nat) (y : Hp), q + d = xs.length → Know h0 y (ob g1.nx (.cells [.slice none 0 0, .int .i64 0, .slice none 0 0] 24 .fix) :: ob h.nx (.cells [.slice (some ⟨oW, 0, none⟩) W.length cw, .int .i64 (Int.ofNat top), .slice ar nr cr] 24 .fix) :: L.set j (ob oW (.cells (iv (putAt W top ((8 * (xs.length : Int) + k) :: xs.take q))) 3 m))) → IntsAt y a2 n2 xs → I84_0 O (fun v h' => v = .tuple #[.agg #[.slice (some ⟨oW, 0, none⟩) W.length cw, .int .i64 (Int.ofNat (top + 1 + xs.length)), .slice ar nr cr], .int .i64 (2 * (top : Int))] ∧ Know h0 h' (L.set j (ob oW (.cells (iv (layP W top k xs)) 3 m)))) (some ⟨oW, 0, none⟩) W.length cw (Int.ofNat top) ar nr cr k a2 n2 c2 h.nx 0 g1.nx 0 (Int.ofNat top) (Int.ofNat q) y := by
    intro d
    induction d with
    | zero =>
      intro q y hq S X
      refine I84_0.of _ _ _ _ _ _ _ _ _ _ _ _ _ _ _ _ _ ?_
      unfold T84_0
      refine vcond_f (by rw [ltI_nat]; exact blt_f (by omega)) ?_
      have e2 : wrapF .i64 (wrapF .i64 (Int.ofNat top + 1) + Int.ofNat n2) = Int.ofNat (top + 1 + xs.length) := by
        rw [wrap_succ (by omega), hn2]
        rw [wrap64 (by show _ ≤ ((top + 1 : Nat) : Int) + (xs.length : Int); omega) (by show ((top + 1 : Nat) : Int) + (xs.length : Int) < _; omega)]
        rfl
      rw [e2]
      refine vreq_t (S.cw 1 rfl (by decide) rfl rfl) ?_
      intro g114
      have S : Know h0 g114 (_ :: _ :: _) := S.wr 1 rfl (by decide) rfl rfl
      refine ⟨_, _, _, _, _, _, _, S.rd 1 rfl rfl rfl, vreq_t (S.cw 0 rfl (by decide) rfl rfl) ?_⟩
      intro g122
      have S : Know h0 g122 (_ :: _ :: _) := S.wr 0 rfl (by decide) rfl rfl
      refine ⟨_, _, _, _, _, _, _, S.rd 0 rfl rfl rfl, ?_, ?_⟩
      · rw [dbl64 (n := W.length) (by omega) lW]
      · have : xs.take q = xs := List.take_of_length_le (by omega)
        rw [this] at S
        exact S.sub _ ((List.sublist_cons_self ..).trans (List.sublist_cons_self ..))
    | succ d ih =>
      intro q y hq S X
      refine I84_0.of _ _ _ _ _ _ _ _ _ _ _ _ _ _ _ _ _ ?_
      unfold T84_0
      refine vcond_t (by rw [ltI_nat]; exact blt_t (by omega)) ?_
      intro g101
      have S : Know h0 g101 (_ :: _ :: _) := S.rsv 12
      have hq' : q < xs.length := by omega
      have lset : (L.set j (ob oW (.cells (iv (putAt W top ((8 * (xs.length : Int) + k) :: xs.take q))) 3 m)))[j]? = some (ob oW (.cells (iv (putAt W top ((8 * (xs.length : Int) + k) :: xs.take q))) 3 m)) := List.getElem?_set_self lj
      haveI : Ft y g101 := ⟨fun _ _ => rfl, Nat.le_add_right ..⟩
      refine ⟨_, _, _, S.rd 1 rfl rfl rfl, isNat_i (X.rd (k := q) hq' ?_)⟩
      have e3 : wrapF .i64 (wrapF .i64 (Int.ofNat top + 1) + Int.ofNat q) = Int.ofNat (top + 1 + q) := by
        rw [wrap_succ (by omega)]
        rw [wrap64 (by show _ ≤ ((top + 1 : Nat) : Int) + (q : Int); omega) (by show ((top + 1 : Nat) : Int) + (q : Int) < _; omega)]
        rfl
      rw [e3]
      have hb2 : Nat.ble (0 + (top + 1 + q) * 1 + [Value.int .i64 xs[q]].length) (iv (putAt W top ((8 * (xs.length : Int) + k) :: xs.take q))).length = true := ble_t (by rw [List.length_map, putAt_length]; show 0 + (top + 1 + q) * 1 + 1 ≤ _; omega)
      refine isNat_i (isAddr_i (vreq_t (blt_t (by omega)) (vreq_t (S.cwg (j + 2) lset (fun _ h => by cases h) hc.ro hb2 rfl) ?_)))
      intro g112 g113
      have S' : Know h0 g113 (_ :: _ :: (L.set j _).set j _) := S.wrg (j + 2) lset (fun _ h => by cases h) hc.ro hb2 rfl
      have e4 : putAt (iv (putAt W top ((8 * (xs.length : Int) + k) :: xs.take q))) (0 + (top + 1 + q) * 1) [Value.int .i64 xs[q]] = iv (putAt W top ((8 * (xs.length : Int) + k) :: xs.take (q + 1))) := by
        rw [show [Value.int .i64 xs[q]] = iv [xs[q]] from rfl, ← iv_putAt]
        have e5 : 0 + (top + 1 + q) * 1 = top + ((8 * (xs.length : Int) + k) :: xs.take q).length := by rw [List.length_cons, List.length_take]; omega
        rw [e5, putAt_snoc' (by rw [List.length_cons, List.length_take]; omega), List.take_add_one, List.getElem?_eq_getElem hq']
        rfl
      rw [e4, List.set_set] at S'
      rw [wrap_succ (by omega)]
      have hne : ∀ o off, a2 = some ⟨o, off, none⟩ → g113.get o = g101.get o := fun o off ha => wr_get_ne _ _ _ _ (hx o off ha)
      exact ih (q + 1) g113 (by omega) S' (SlAt.keep (X.to g101) hne (Nat.le_of_eq (nx_wr ..).symm) (fun _ _ h => h))
  exact lp xs.length 0 g10 (by omega) (by rw [List.take_zero]; exact S10) X10
end
end Go.Proofs.YtngcjpkccnfjiaaGreatDoor
/- Contracts: what runs and what is laid, as what one has; room, and the reference's roomy. -/
namespace Go.Proofs.YtngcjpkccnfjiaaGreatDoor
set_option maxRecDepth 100000
open Go Go.Ev
/-- A list that is read. -/
def slr (a : Option Addr) (n c : Nat) (xs : List Int) : Rs := ⟨fun o => ∃ off, a = some ⟨o, off, none⟩, fun h => SI h a n c xs⟩
theorem slr.loc (a : Option Addr) (n c : Nat) (xs : List Int) : (slr a n c xs).Loc := fun _ _ hn h s => s.upd (fun o off ha => h o ⟨off, ha⟩) hn
theorem SI.accE {h : Hp} {base : Nat} {a : Option Addr} {n c : Nat} {W : List Int} (s : AccE h base 3 1 a n c (iv W)) (hl : W.length < 1000000) : SI h a n c W := by
  rcases s with s | ⟨h1, h2, h3, o, h4, h5, h6, e2, m, h7⟩
  · exact SI.acc s (by omega)
  · have hx : W = [] := by
      cases W with
      | nil => rfl
      | cons x xs => cases h1
    subst hx h2 h3 h4
    exact SI.fix ⟨rfl, .inr ⟨o, 0, _, _, _, rfl, h6, h7, by simp, fun i hi => by simp at hi⟩⟩ (Nat.le_refl _) (by decide) (fun h => by cases h)
theorem AccE.off {h : Hp} {base : Nat} {e : TypeId} {esz : Nat} {a : Option Addr} {n c : Nat} {xs : List Value} (s : AccE h base e esz a n c xs) {o off : Nat} (ha : a = some ⟨o, off, none⟩) : off = 0 := by
  rcases s with (⟨h1, _⟩ | ⟨q, h1, _⟩) | ⟨_, _, _, q, h1, _⟩
  · rw [h1] at ha; cases ha
  · rw [h1] at ha; injection ha with ha; injection ha with _ ha; exact ha.symm
  · rw [h1] at ha; injection ha with ha; injection ha with _ ha; exact ha.symm
/-- What has grown is read from now on. -/
theorem Know.accSlr {h0 g : Hp} {L : List Rs} (S : Know h0 g L) (i : Nat) {lo : Nat} {a : Option Addr} {n c : Nat} {xs : List Int} (hi : L[i]? = some (acc lo 3 1 a n c (iv xs))) (hl : xs.length < 1000000) : Know h0 g (L.set i (slr a n c xs)) := by
  have A : AccE g lo 3 1 a n c (iv xs) := S.get i hi
  exact S.upd i hi (Ch.refl _ g) (slr.loc _ _ _ _) (SI.accE A hl) fun b ⟨off, hb⟩ => .inl (by have := AccE.off A hb; subst this; exact hb)
theorem sliceV_blk {h : Hp} {t : TypeId} {a a' : Option Addr} {n c n' c' : Nat} {lo hi mx : Option Value} (e : sliceV Tryz.prog h t (.slice a n c) lo hi mx = some (.slice a' n' c')) {o off : Nat} (ha : a' = some ⟨o, off, none⟩) : ∃ off0, a = some ⟨o, off0, none⟩ := by
  unfold sliceV at e
  split at e
  · rename_i hx
    injection hx with hx1 hx2 hx3
    subst hx1
    simp only [bind, Option.bind_eq_some_iff] at e
    obtain ⟨_, _, _, _, r, _, e⟩ := e
    split at e
    · obtain ⟨_, e⟩ := cond_some e
      injection e with e
      injection e with e
      rw [← e] at ha; cases ha
    · rename_i o1 off1
      cases hc : (Nat.beq _ unk && mx.isNone) with
      | true =>
        rw [hc, cond_true] at e
        injection e with e
        injection e with e
        rw [← e] at ha; injection ha with ha; injection ha with ha _; subst ha; exact ⟨_, rfl⟩
      | false =>
        rw [hc, cond_false] at e
        obtain ⟨_, e⟩ := cond_some e
        injection e with e
        injection e with e
        rw [← e] at ha; injection ha with ha; injection ha with ha _; subst ha; exact ⟨_, rfl⟩
    · cases e
  · rename_i hx
    cases hx
  · cases e
theorem acc_fix {h : Hp} {base : Nat} {a : Option Addr} {n c o : Nat} {xs ys : List Value} {e : TypeId} (A : Acc h base 3 1 a n c xs) (hg : h.get o = some (.cells ys e .fix)) : a ≠ some ⟨o, 0, none⟩ := by
  rcases A with ⟨h1, _⟩ | ⟨q, h1, _, _, _, _, h6⟩
  · rw [h1]; intro h; cases h
  · rw [h1]; intro h; injection h with h; injection h with h; subst h; rw [h6] at hg; injection hg with hg; injection hg with _ _ hg; cases hg
/-- What 'run' returns, as what one has. -/
theorem RunQ.know {g : Hp} {W : List Int} {fr : Nat} {s : Mv} {rs ks : List Int} {v : Value} {h : Hp} (okg : g.Ok) (q : RunQ g W fr s rs ks v h) : ∃ oW lo ar nr cr ak nk ck ptr, v = .tuple #[.agg #[.slice (some ⟨oW, 0, none⟩) W.length W.length, .int .i64 (Int.ofNat s.top), .slice ar nr cr], .slice ak nk ck, .pointer ptr] ∧ s.D.length = W.length ∧ g.nx ≤ lo ∧ Know g h [ob oW (.cells (iv s.D) 3 .fix), acc lo 3 1 ar nr cr (iv rs), acc lo 3 1 ak nk ck (iv ks)] := by
  obtain ⟨p, ao, no, co, ar', nr', cr', ak, nk, ck, rfl, P, pn, pf, m, Ar, Ak, d1, d2, d3, k2, ok2⟩ := q
  have := P.tM
  have := P.wM
  have hB := P.B
  have := P.oW
  have := P.M
  have := m.nx
  refine ⟨p.oW, p.B, _, _, _, _, _, _, _, by rw [pn], by rw [m.lD, pn], by omega, ⟨ok2, k2, fun r hr => ?_, ?_, okg⟩⟩
  · rcases List.mem_cons.1 hr with rfl | hr
    · exact ⟨ob.loc _ _, m.D, fun b hb => by cases hb; omega⟩
    · rcases List.mem_cons.1 hr with rfl | hr
      · exact ⟨acc.loc _ _ _ _ _ _ _, .inl Ar, fun b hb => by have := Ar.lt hb; omega⟩
      · obtain rfl := List.mem_singleton.1 hr
        exact ⟨acc.loc _ _ _ _ _ _ _, .inl Ak, fun b hb => by have := Ak.lt hb; omega⟩
  · refine List.pairwise_cons.2 ⟨fun r hr b hb hrb => ?_, List.pairwise_cons.2 ⟨fun r hr b hb hrb => ?_, List.pairwise_cons.2 ⟨fun r hr => (by cases hr), .nil⟩⟩⟩
    · cases hb
      rcases List.mem_cons.1 hr with rfl | hr
      · have := Ar.lt hrb; omega
      · obtain rfl := List.mem_singleton.1 hr
        have := Ak.lt hrb; omega
    · obtain rfl := List.mem_singleton.1 hr
      exact d3 b 0 0 hb hrb
section
variable {O : CallF} (hO : Oth O)
include hO
/-- 'Collected', as what one has. -/
theorem ct64k {g : Hp} (ok : g.Ok) {aw : Option Addr} {nw cw : Nat} {W : List Int} {tp : Nat} {ar : Option Addr} {nr cr : Nat} {R : List Int} (A : HA g aw nw cw W ar nr cr R) (lW : W.length ≤ 200) (lR : R.length ≤ 1000) (h1 : 1 ≤ tp) (ht : tp ≤ W.length) {all res : List Nat} (hall : cellsR W tp (tp + 1) 1 = some all) {f : Nat} (hres : reachO W 1 f 0 (withP 1 R []) = some res) (hl : ∀ p ∈ res, CellAt W p) (hfit : 1 + totalW W res ≤ W.length) :
    Ret Tryz.prog O 64 [.agg #[.slice aw nw cw, .int .i64 (Int.ofNat tp), .slice ar nr cr]] g fun v h' => ∃ oD ac nc cc lo, v = .agg #[.slice (some ⟨oD, 0, none⟩) W.length W.length, .int .i64 (Int.ofNat (1 + totalW W res)), .slice ac nc cc] ∧ g.nx ≤ lo ∧ Know g h' [ob oD (.cells (iv (colD W 1 all res)) 3 .fix), acc lo 3 1 ac nc cc (iv (R.map (mvw W 1 res)))] := by
  refine rk64 (hO := hO _ _ _ (by decide)) (hh := ?_) ..
  unfold T64
  intro g1 g2 g3
  have S : Know g g1 [_] := (Know.nil ok).add _
  have S : Know g g2 [_, _] := S.add _
  have S : Know g g3 [_, _] := S.rsv 7
  have n1 : g1.nx = g.nx + 1 := rfl
  have n3 : g3.nx = g.nx + 9 := rfl
  have hnw := A.sw.at_.1
  haveI := S.ftg [g.nx]
  refine ⟨_, _, _, _, _, _, _, S.rd 1 rfl rfl rfl, _, _, _, _, _, _, _, S.rd 1 rfl rfl rfl, _, _, _, S.rd 1 rfl rfl rfl, ct70 hO (g0 := g) (S.okg fun q hq => by rw [List.mem_singleton.1 hq]; omega) A.sw A.w (by omega) (fr := 1) (A.sr.at_.to (g3.grd [g.nx])) A.r (by omega) hres fun a n c h24 A24 k24 => ?_⟩
  intro g25
  have S : Know g g25 [_, _] := S.callg k24
  have m25 := S.lo
  haveI := S.ftg []
  have L25 : IntsAt (g25.grd []) a n (res.map Int.ofNat) := SlAt.keep A24.ints (fun _ _ _ => rfl) (Nat.le_refl _) (fun _ _ h => h)
  subst hnw
  obtain ⟨oD, x, ac, nc, cc, h33, e33, rfl, ⟨B, hB, AB⟩, hD, hoD, hgo, ok33, k33⟩ := ct69 hO (g0 := g) (g := g25.grd []) (S.okg fun _ h => by cases h) A.sw A.w (by omega) h1 ht A.sr.at_ A.r (by omega) L25 (Nat.le_refl 1) hall hl hfit (K := fun oD x ac nc cc h => x = Int.ofNat (1 + totalW W res) ∧ (∃ B, g25.nx ≤ B ∧ AccI 3 h B ac nc cc (R.map (mvw W 1 res))) ∧ h.get oD = some (.cells ((colD W 1 all res).map (Value.int .i64)) 3 .fix) ∧ oD < h.nx ∧ g25.nx ≤ oD ∧ h.Ok ∧ Kp g25.nx (g25.grd []) h) (fun oD ac nc cc h _ hB hD hx hg hok hkp => ⟨rfl, hB, hD, hx, hg, hok, hkp⟩)
  refine ⟨_, _, _, _, _, _, _, _, e33, ?_⟩
  intro g34
  have T : Know (g25.grd []) h33 [ob oD (.cells (iv (colD W 1 all res)) 3 .fix), acc B 3 1 ac nc cc (iv (R.map (mvw W 1 res)))] := by
    refine ⟨ok33, k33, fun r hr => ?_, ?_, S.okg fun _ h => by cases h⟩
    · rcases List.mem_cons.1 hr with rfl | hr
      · exact ⟨ob.loc _ _, hD, fun b hb => by cases hb; exact ⟨hgo, hoD⟩⟩
      · obtain rfl := List.mem_singleton.1 hr
        exact ⟨acc.loc _ _ _ _ _ _ _, .inl AB, fun b hb => by have := AB.lt hb; exact ⟨by show g25.nx ≤ b; omega, this.2⟩⟩
    · refine List.pairwise_cons.2 ⟨fun r hr b hb hrb => ?_, List.pairwise_cons.2 ⟨fun r hr => (by cases hr), .nil⟩⟩
      cases hb
      obtain rfl := List.mem_singleton.1 hr
      exact acc_fix AB hD hrb
  have S : Know g g34 [_, _, _, _] := S.compg T
  refine vreq_t (S.cwg 2 rfl (fun _ h => by cases h) (by decide) rfl rfl) ?_
  intro g35 g36
  have S : Know g g36 [_, _, _, _] := S.wrg 2 rfl (fun _ h => by cases h) (by decide) rfl rfl
  exact ⟨_, _, _, _, _, _, _, S.rd 2 rfl rfl rfl, oD, _, _, _, B, rfl, by omega, S.sel [0, 1] (by decide) rfl⟩
/-- What 'room' returns. -/
structure Room where
  W : List Int
  top : Nat
  R : List Int
  l : List Int
  is : Bool
def roomC (W : List Int) (top : Nat) (R l : List Int) (need : Nat) (s : Mv) : Room := if top + need ≤ W.length then ⟨W, top, R, l, true⟩ else ⟨s.D, s.top, R.map (mvw W 1 s.ord), l.map (mvw W 1 s.ord), decide (s.top + need ≤ W.length)⟩
def QRoom (g : Hp) (r : Room) : Value → Hp → Prop := fun v h' => ∃ oW cw m ar nr cr al nl cl, v = .tuple #[.agg #[.slice (some ⟨oW, 0, none⟩) r.W.length cw, .int .i64 (Int.ofNat r.top), .slice ar nr cr], .slice al nl cl, .bool r.is] ∧ CapOk m cw r.W.length ∧ Know g h' [ob oW (.cells (iv r.W) 3 m), slr ar nr cr r.R] ∧ IntsAt h' al nl r.l ∧ ∀ o off, al = some ⟨o, off, none⟩ → o ≠ oW
theorem ct80 {g : Hp} (ok : g.Ok) {aw : Option Addr} {nw cw : Nat} {W : List Int} {tp : Nat} {ar : Option Addr} {nr cr : Nat} {R : List Int} (A : HA g aw nw cw W ar nr cr R) (hW : W ≠ []) (lW : W.length ≤ 1000) (lR : R.length ≤ 1000) (ht : tp ≤ W.length) {a2 : Option Addr} {n2 c2 : Nat} {l : List Int} (X : IntsAt g a2 n2 l) (hX : ∀ x ∈ l, In64 x) (lX : l.length ≤ 1000) {need : Nat} (hneed : need ≤ 1000000) {s : Mv} (hrun : ¬ tp + need ≤ W.length → runO W 1 R l = some (s, R.map (mvw W 1 s.ord), l.map (mvw W 1 s.ord)) ∧ s.top ≤ 1000) :
    Ret Tryz.prog O 80 [.agg #[.slice aw nw cw, .int .i64 (Int.ofNat tp), .slice ar nr cr], .int .i64 (Int.ofNat need), .slice a2 n2 c2] g (QRoom g (roomC W tp R l need s)) := by
  refine rk80 (hO := hO _ _ _ (by decide)) (hh := ?_) ..
  unfold T80
  intro g1 g2
  have S : Know g g1 [_] := (Know.nil ok).add _
  have S : Know g g2 [_, _] := S.add _
  have n1 : g1.nx = g.nx + 1 := rfl
  have n2' : g2.nx = g.nx + 2 := rfl
  have hnw := A.sw.at_.1
  have esum : ∀ x : Nat, x ≤ 1000 → wrapF .i64 (Int.ofNat x + Int.ofNat need) = Int.ofNat (x + need) := fun x hx => wrap64 (n := ((x + need : Nat) : Int)) (by omega) (by omega)
  haveI := S.ft
  refine ⟨_, S.rd 1 rfl rfl rfl, _, _, _, S.rd 1 rfl rfl rfl, ?_⟩
  rw [esum tp (by omega), ltI_nat]
  unfold roomC
  by_cases hfit : tp + need ≤ W.length
  · rw [if_pos hfit]
    refine vcond_t (by rw [blt_f (by omega)]; rfl) ?_
    obtain ⟨v, h21, e21, oW, ar', nr', cr', lo, rfl, hlo, T⟩ := ct87 hO S.ok (A.to g2) hW (by omega) (by omega) (top := Int.ofNat tp)
    refine ⟨_, _, _, _, _, _, _, S.rd 1 rfl rfl rfl, _, _, _, _, _, _, _, _, e21, ?_⟩
    have S : Know g h21 [_, _, _, _] := S.comp T
    refine vreq_t (S.cw 2 rfl (by decide) rfl rfl) ?_
    intro g22
    have S : Know g g22 [_, _, _, _] := S.wr 2 rfl (by decide) rfl rfl
    have S : Know g g22 [_, _, _, _] := Know.accSlr S 1 rfl (by omega)
    haveI := S.ft
    refine ⟨_, _, _, _, _, _, _, S.rd 2 rfl rfl rfl, _, _, .grow, _, _, _, _, _, _, rfl, .inr ⟨rfl, rfl⟩, S.sel [0, 1] (by decide) rfl, X.to g22, fun o off ha => ?_⟩
    have h1 : o < g.nx := by
      rcases X.2 with ⟨_, e⟩ | ⟨b, off', _, _, _, e, h2, _⟩
      · rw [e] at ha; cases ha
      · rw [e] at ha; injection ha with ha; injection ha with ha; omega
    have := (S.orng 0 rfl).1
    omega
  · rw [if_neg hfit]
    obtain ⟨hrun, hst⟩ := hrun hfit
    refine vcond_f (by rw [blt_t (by omega)]; rfl) ?_
    obtain ⟨v, h48, e48, q⟩ := ct62 hO S.ok (A.sw.to g2) A.w (by omega) (A.sr.at_.to g2) A.r (by omega) (top := Int.ofNat tp) (cr := cr) (X.to g2) hX (by omega) (cm := c2) (fr := 1) (by have := List.length_pos_iff.2 hW; omega) hrun
    obtain ⟨oW, lo, ar', nr', cr', ak, nk, ck, ptr, rfl, lD, hlo, T⟩ := q.know S.ok
    refine ⟨_, _, _, _, _, _, _, S.rd 1 rfl rfl rfl, _, _, _, _, _, _, _, _, _, _, _, _, e48, ?_⟩
    have S : Know g h48 [_, _, _, _, _] := S.comp T
    refine vreq_t (S.cw 4 rfl (by decide) rfl rfl) ?_
    intro g49 g50
    have S : Know g g49 [_, _, _, _, _] := S.wr 4 rfl (by decide) rfl rfl
    have S : Know g g50 [_, _, _, _, _] := S.rsv 13
    have hgr : ∀ q ∈ [g.nx, g.nx], q ≠ g1.nx := fun q hq => by have : q = g.nx := (by simpa using hq); omega
    refine ⟨_, _, _, _, _, _, _, S.rd 4 rfl rfl rfl, _, S.rd 4 rfl rfl rfl, _, _, _, S.rd 4 rfl rfl rfl, vreq_t (S.cwg 3 rfl hgr (by decide) rfl rfl) ?_⟩
    intro g62 g63
    have S : Know g g63 [_, _, _, _, _] := S.wrg 3 rfl hgr (by decide) rfl rfl
    have S : Know g g63 [_, _, _, _, _] := Know.accSlr S 1 rfl (by rw [List.length_map]; omega)
    have hak : AccE g63 lo 3 1 ak nk ck (iv (l.map (mvw W 1 s.ord))) := S.get 2 rfl
    refine ⟨_, _, _, _, _, _, _, S.rd 3 rfl rfl rfl, oW, s.D.length, .fix, ar', nr', cr', ak, nk, ck, ?_, .inl ⟨rfl, rfl⟩, S.sel [0, 1] (by decide) rfl, AccE.ints hak, fun o off ha => ?_⟩
    · show Value.tuple #[.agg #[.slice (some ⟨oW, 0, none⟩) W.length W.length, _, _], _, _] = _
      rw [esum s.top hst, ltI_nat]
      have e1 : (!(Nat.blt W.length (s.top + need))) = decide (s.top + need ≤ W.length) := by
        by_cases h : s.top + need ≤ W.length
        · rw [blt_f (by omega), decide_eq_true h]; rfl
        · rw [blt_t (by omega), decide_eq_false h]; rfl
      rw [e1]
      show _ = Value.tuple #[.agg #[.slice (some ⟨oW, 0, none⟩) s.D.length s.D.length, _, _], _, _]
      rw [lD]
    · have := AccE.off hak ha
      subst this
      intro hh
      exact S.sep 2 0 rfl rfl (by decide) o ha hh
end
end Go.Proofs.YtngcjpkccnfjiaaGreatDoor
/- Contracts: the reference's roomy. -/
namespace Go.Proofs.YtngcjpkccnfjiaaGreatDoor
set_option maxRecDepth 100000
open Go Go.Ev
theorem Know.accLow {h0 g : Hp} {L : List Rs} (S : Know h0 g L) (i : Nat) {lo : Nat} {e : TypeId} {esz : Nat} {a : Option Addr} {n c : Nat} {xs : List Value} (hi : L[i]? = some (acc lo e esz a n c xs)) : Know h0 g (L.set i (acc h0.nx e esz a n c xs)) := by
  have A : AccE g lo e esz a n c xs := S.get i hi
  refine S.upd i hi (Ch.refl _ g) (acc.loc _ _ _ _ _ _ _) ?_ fun b hb => .inl hb
  rcases A with (A | ⟨o, h1, h2, h3, h4, h5, h6⟩) | ⟨h1, h2, h3, o, h4, h5, h6, h7⟩
  · exact .inl (.inl A)
  · exact .inl (.inr ⟨o, h1, h2, h3, (S.arng i hi h1).1, h5, h6⟩)
  · exact .inr ⟨h1, h2, h3, o, h4, (S.arng i hi h4).1, h6, h7⟩
section
variable {O : CallF} (hO : Oth O)
include hO
theorem ct83 {g : Hp} (ok : g.Ok) {aw : Option Addr} {nw cw : Nat} {W : List Int} {tp : Nat} {ar : Option Addr} {nr cr : Nat} {R : List Int} (A : HA g aw nw cw W ar nr cr R) (hW : W ≠ []) (lW : W.length ≤ 200) (lR : R.length ≤ 500) (h1 : 1 ≤ tp) (ht : tp ≤ W.length) {a2 : Option Addr} {n2 c2 : Nat} {l : List Int} (X : IntsAt g a2 n2 l) (hX : ∀ x ∈ l, In64 x) (lX : l.length ≤ 500) {need : Nat} (hneed : need ≤ 1000000) {s : Mv} {all : List Nat} {f : Nat} (hcol : ¬ tp + need ≤ W.length → cellsR W tp (tp + 1) 1 = some all ∧ reachO W 1 f 0 (withP 1 (R ++ l) []) = some s.ord ∧ colD W 1 all s.ord = s.D ∧ 1 + totalW W s.ord = s.top ∧ (∀ p ∈ s.ord, CellAt W p) ∧ 1 + totalW W s.ord ≤ W.length) :
    Ret Tryz.prog O 83 [.agg #[.slice aw nw cw, .int .i64 (Int.ofNat tp), .slice ar nr cr], .slice a2 n2 c2, .int .i64 (Int.ofNat need)] g (QRoom g (roomC W tp R l need s)) := by
  refine rk83 (hO := hO _ _ _ (by decide)) (hh := ?_) ..
  unfold T83
  intro g1 g2
  have S : Know g g1 [_] := (Know.nil ok).add _
  have S : Know g g2 [_, _] := S.add _
  have n1 : g1.nx = g.nx + 1 := rfl
  have n2' : g2.nx = g.nx + 2 := rfl
  have hnw := A.sw.at_.1
  have esum : ∀ x : Nat, x ≤ 1000 → wrapF .i64 (Int.ofNat x + Int.ofNat need) = Int.ofNat (x + need) := fun x hx => wrap64 (n := ((x + need : Nat) : Int)) (by omega) (by omega)
  haveI := S.ft
  obtain ⟨v, h17, e17, oW, ar', nr', cr', lo, rfl, hlo, T⟩ := ct91 hO S.ok (A.to g2) hW (by omega) (by omega) (top := Int.ofNat tp)
  refine ⟨_, _, _, _, _, _, _, S.rd 1 rfl rfl rfl, _, _, _, _, _, _, _, _, e17, ?_⟩
  have S : Know g h17 [_, _, _, _] := S.comp T
  refine vreq_t (S.cw 3 rfl (by decide) rfl rfl) ?_
  intro g18
  have S : Know g g18 [_, _, _, _] := S.wr 3 rfl (by decide) rfl rfl
  refine ⟨_, S.rd 3 rfl rfl rfl, _, _, _, S.rd 3 rfl rfl rfl, ?_⟩
  rw [esum tp (by omega), ltI_nat]
  unfold roomC
  haveI := S.ft
  by_cases hfit : tp + need ≤ W.length
  · rw [if_pos hfit]
    refine vcond_t (by rw [blt_f (by omega)]; rfl) ?_
    refine ⟨_, _, _, _, _, _, _, S.rd 3 rfl rfl rfl, vreq_t (S.cw 2 rfl (by decide) rfl rfl) ?_⟩
    intro g30
    have S : Know g g30 [_, _, _, _] := S.wr 2 rfl (by decide) rfl rfl
    have S : Know g g30 [_, _, _, _] := Know.accSlr S 1 rfl (by omega)
    haveI := S.ft
    refine ⟨_, _, _, _, _, _, _, S.rd 2 rfl rfl rfl, _, _, .grow, _, _, _, _, _, _, rfl, .inr ⟨rfl, rfl⟩, S.sel [0, 1] (by decide) rfl, X.to g30, fun o off ha => ?_⟩
    have h1 : o < g.nx := by
      rcases X.2 with ⟨_, e⟩ | ⟨b, off', _, _, _, e, h2, _⟩
      · rw [e] at ha; cases ha
      · rw [e] at ha; injection ha with ha; injection ha with ha; omega
    have := (S.orng 0 rfl).1
    omega
  · rw [if_neg hfit]
    obtain ⟨c1, c2', c3, c4, c5, c6⟩ := hcol hfit
    refine vcond_f (by rw [blt_t (by omega)]; rfl) ?_
    have S : Know g g18 [_, _, _, _] := Know.accLow S 1 rfl
    have hR' : AccE g18 g.nx 3 1 ar' nr' cr' (iv R) := S.get 1 rfl
    have hnr : nr' = R.length := (AccE.ints hR').1
    obtain ⟨a44, n45, c46, h47, e47, hn45, S47⟩ := S.app 1 rfl (Nat.le_refl _) S.lo AppT22 ⟨_, _, _, rfl⟩ (c := cr') (x := .slice a2 n2 c2) (IntsAt.src (X.to g18)) (by rw [List.length_map]; have := X.1; omega) (iv_one l) (by have := X.1; omega) (by have := X.1; unfold big; omega)
    refine ⟨_, _, _, S.rd 3 rfl rfl rfl, _, _, _, S.rd 3 rfl rfl rfl, _, _, _, _, e47, ?_⟩
    rw [← List.map_append] at S47
    have S : Know g h47 [_, _, _, _] := S47
    refine vreq_t (S.cw 3 rfl (by decide) rfl rfl) ?_
    intro g48
    have S : Know g g48 [_, _, _, _] := S.wr 3 rfl (by decide) rfl rfl
    have A48 : HA g48 (some ⟨oW, 0, none⟩) W.length unk W a44 n45 c46 (R ++ l) := ⟨SI.own (S.obj 0 rfl) (S.orng 0 rfl).2 (.inr ⟨rfl, rfl⟩) (by omega), SI.accE (S.get 1 rfl) (by rw [List.length_append]; omega), A.w, fun x hx => (List.mem_append.1 hx).elim (A.r x) (hX x)⟩
    obtain ⟨v, h63, e63, oD, ac, nc, cc, lo2, rfl, hlo2, T⟩ := ct64k hO S.ok A48 lW (by rw [List.length_append]; omega) h1 ht c1 c2' c5 c6
    refine ⟨_, _, _, _, _, _, _, S.rd 3 rfl rfl rfl, _, _, _, _, _, _, _, _, e63, ?_⟩
    have S : Know g h63 [_, _, _, _, _, _] := S.comp T
    refine vreq_t (S.cw 5 rfl (by decide) rfl rfl) ?_
    intro g64
    have S : Know g g64 [_, _, _, _, _, _] := S.wr 5 rfl (by decide) rfl rfl
    have lm : ((R ++ l).map (mvw W 1 s.ord)).length = R.length + l.length := by rw [List.length_map, List.length_append]
    have s64 : SI g64 ac nc cc ((R ++ l).map (mvw W 1 s.ord)) := SI.accE (S.get 1 rfl) (by omega)
    have hnc := s64.at_.1
    obtain ⟨a68, c70, es, sp⟩ := s64.part (l := R.length) (r := R.length + l.length) (by omega) (by omega) (lo := some (.int .i64 (Int.ofNat nr'))) (hi := none) fun vis hv => by rw [hnr, show R.length + l.length = nc by omega]; exact bounds_lo (by omega)
    refine ⟨_, _, _, S.rd 5 rfl rfl rfl, _, _, _, es, ?_⟩
    have elR : (((R ++ l).map (mvw W 1 s.ord)).drop R.length).take (R.length + l.length - R.length) = l.map (mvw W 1 s.ord) := by
      rw [List.map_append, List.drop_left' (by rw [List.length_map]), List.take_of_length_le (by rw [List.length_map]; omega)]
    have eR : (((R ++ l).map (mvw W 1 s.ord)).drop 0).take (R.length - 0) = R.map (mvw W 1 s.ord) := by
      rw [List.drop_zero, List.map_append, List.take_left' (by rw [List.length_map]; omega)]
    rw [elR] at sp
    have S : Know g g64 [_, _, _, _, _, _, _] := S.accNil g.nx 3 1
    obtain ⟨a71, n72, c73, h74, e74, hn72, S⟩ := S.app 0 rfl (Nat.le_refl _) S.lo AppT22 ⟨_, _, _, rfl⟩ (c := 0) (x := .slice a68 (R.length + l.length - R.length) c70) (IntsAt.src sp.at_) (by rw [List.length_map, List.length_map]; omega) (iv_one _) (by omega) (by unfold big; omega)
    have S : Know g h74 [_, _, _, _, _, _, _] := S
    refine ⟨_, _, _, _, e74, _, _, _, S.rd 6 rfl rfl rfl, ?_⟩
    have s74 : SI h74 ac nc cc ((R ++ l).map (mvw W 1 s.ord)) := SI.accE (S.get 2 rfl) (by omega)
    obtain ⟨a78, c80, es2, sp2⟩ := s74.part (l := 0) (r := R.length) (by omega) (by omega) (lo := none) (hi := some (.int .i64 (Int.ofNat nr'))) fun vis hv => by rw [hnr]; exact bounds_hi (by omega)
    rw [eR] at sp2
    refine ⟨_, _, _, es2, ?_⟩
    have A74 : AccE h74 lo2 3 1 ac nc cc _ := S.get 2 rfl
    have S : Know g h74 [_, _, slr a78 (R.length - 0) c80 (R.map (mvw W 1 s.ord)), _, _, _, _] := S.upd 2 rfl (Ch.refl _ h74) (slr.loc _ _ _ _) sp2 fun b ⟨off, hb⟩ => .inl (by
      obtain ⟨off0, e0⟩ := sliceV_blk es2 hb
      have := AccE.off A74 e0
      subst this; exact e0)
    refine vreq_t (S.cw 6 rfl (by decide) rfl rfl) ?_
    intro g81 g82
    have S : Know g g81 [_, _, _, _, _, _, _] := S.wr 6 rfl (by decide) rfl rfl
    have S : Know g g82 [_, _, _, _, _, _, _] := S.rsv 13
    have hgr : ∀ q ∈ [g.nx, g.nx], q ≠ g1.nx := fun q hq => by have : q = g.nx := (by simpa using hq); omega
    refine ⟨_, _, _, _, _, _, _, S.rd 6 rfl rfl rfl, _, S.rd 6 rfl rfl rfl, _, _, _, S.rd 6 rfl rfl rfl, vreq_t (S.cwg 5 rfl hgr (by decide) rfl rfl) ?_⟩
    intro g94 g95
    have S : Know g g95 [_, _, _, _, _, _, _] := S.wrg 5 rfl hgr (by decide) rfl rfl
    have S' := S
    have lD : s.D.length = W.length := by rw [← c3, colD_length]
    have hal : AccE g95 g.nx 3 1 a71 n72 c73 (iv (l.map (mvw W 1 s.ord))) := S.get 0 rfl
    have S : Know g g95 [ob oD (.cells (iv s.D) 3 .fix), slr a78 (R.length - 0) c80 (R.map (mvw W 1 s.ord)), acc g.nx 3 1 a71 n72 c73 (iv (l.map (mvw W 1 s.ord)))] := by
      rw [← c3]; exact S.sel [1, 2, 0] (by decide) rfl
    refine ⟨_, _, _, _, _, _, _, S'.rd 5 rfl rfl rfl, oD, s.D.length, .fix, a78, R.length - 0, c80, a71, n72, c73, ?_, .inl ⟨rfl, rfl⟩, S.sel [0, 1] (by decide) rfl, AccE.ints hal, fun o off ha => ?_⟩
    · show Value.tuple #[.agg #[.slice (some ⟨oD, 0, none⟩) W.length W.length, .int .i64 (Int.ofNat (1 + totalW W s.ord)), _], _, _] = _
      rw [c4, esum s.top (by omega), ltI_nat]
      have e1 : (!(Nat.blt W.length (s.top + need))) = decide (s.top + need ≤ W.length) := by
        by_cases h : s.top + need ≤ W.length
        · rw [blt_f (by omega), decide_eq_true h]; rfl
        · rw [blt_t (by omega), decide_eq_false h]; rfl
      rw [e1]
      show _ = Value.tuple #[.agg #[.slice (some ⟨oD, 0, none⟩) s.D.length s.D.length, _, _], _, _]
      rw [lD]
    · have := AccE.off hal ha
      subst this
      intro hh
      exact S.sep 2 0 rfl rfl (by decide) o ha hh
end
end Go.Proofs.YtngcjpkccnfjiaaGreatDoor
/- Contracts: Alloc of the code. -/
namespace Go.Proofs.YtngcjpkccnfjiaaGreatDoor
set_option maxRecDepth 100000
open Go Go.Ev
theorem Know.nilS {h0 g : Hp} {L : List Rs} (S : Know h0 g L) : Know h0 g (slr none 0 0 [] :: L) :=
  S.push (Kp.refl _ g) (slr.loc _ _ _ _) (SI.fix (SlAt.nil ..) (Nat.le_refl _) (by decide) (fun _ => rfl)) fun b ⟨_, hb⟩ => by cases hb
theorem Know.obSlr {h0 g : Hp} {L : List Rs} (S : Know h0 g L) (i : Nat) {o cw : Nat} {m : Md} {W : List Int} (hi : L[i]? = some (ob o (.cells (iv W) 3 m))) (c : CapOk m cw W.length) (hl : W.length < 1000000) : Know h0 g (L.set i (slr (some ⟨o, 0, none⟩) W.length cw W)) :=
  S.upd i hi (Ch.refl _ g) (slr.loc _ _ _ _) (SI.own (S.obj i hi) (S.orng i hi).2 c hl) fun b ⟨off, hb⟩ => .inl (by injection hb with hb; injection hb with hb; exact hb.symm)
/-- A heap that is returned. -/
def HK (g : Hp) (o : Out) (u : Value) (h : Hp) : Prop := ∃ aw nw cw ar nr cr, u = .agg #[.slice aw nw cw, .int .i64 (Int.ofNat o.top), .slice ar nr cr] ∧ Know g h [slr aw nw cw o.W, slr ar nr cr o.R]
theorem HK.zero {h0 g : Hp} {L : List Rs} (S : Know h0 g L) (e : Int) : HK h0 ⟨[], 0, [], e⟩ (.agg #[.slice none 0 0, .int .i64 0, .slice none 0 0]) g :=
  ⟨_, _, _, _, _, _, rfl, (Know.nilS (Know.nilS S)).sel [0, 1] (by decide) rfl⟩
/-- A heap, a reference and an error. -/
def QA (g : Hp) (o : Out) (r : Int) : Value → Hp → Prop := fun v h => ∃ u, v = .tuple #[u, .int .i64 r, .int .i64 o.e] ∧ HK g o u h
/-- What 'Alloc' returns. -/
def allocO (c : Option (List Nat)) (W : List Int) (top : Nat) (R : List Int) (k : Int) (xs : List Int) (s : Mv) : Out × Int := match c with
  | none => (⟨[], 0, [], 2⟩, 0)
  | some l => if fieldsR l k xs = true then
      (if (roomC W top R (if refB k then xs else []) (1 + xs.length) s).is = true then (⟨layP (roomC W top R (if refB k then xs else []) (1 + xs.length) s).W (roomC W top R (if refB k then xs else []) (1 + xs.length) s).top k (if refB k then (roomC W top R (if refB k then xs else []) (1 + xs.length) s).l else xs), (roomC W top R (if refB k then xs else []) (1 + xs.length) s).top + 1 + xs.length, (roomC W top R (if refB k then xs else []) (1 + xs.length) s).R, 0⟩, 2 * ((roomC W top R (if refB k then xs else []) (1 + xs.length) s).top : Int))
      else (⟨[], 0, [], 3⟩, 0))
    else (⟨[], 0, [], 2⟩, 0)
theorem good_fields {W : List Int} {l : List Nat} (hl : ∀ x ∈ l, x < W.length) (h1 : 1 ≤ W.length) (k : Int) (xs : List Int) (_lx : xs.length < 1000000) : (goodB (Int.ofNat xs.length) k && !(xs.any fun x => !(fieldB (beginP W l) k x))) = fieldsR l k xs := by
  rw [any_not, Bool.not_not, all_congr fun x _ => field_RB hl h1 k x]
  unfold fieldsR goodB
  have e : (Int.ofNat xs.length == 1) = decide (xs.length = 1) := by
    rw [Bool.eq_iff_iff, beq_iff_eq, decide_eq_true_eq]
    show (xs.length : Int) = 1 ↔ _
    omega
  have e1 : decide ((0 : Int) ≤ Int.ofNat xs.length) = true := decide_eq_true (Int.natCast_nonneg _)
  have e2 : decide (Int.ofNat xs.length ≤ 20) = decide (xs.length ≤ 20) := by
    rw [Bool.eq_iff_iff, decide_eq_true_eq, decide_eq_true_eq]
    show (xs.length : Int) ≤ 20 ↔ _
    omega
  by_cases h4 : k = 4
  · rw [if_pos h4, e]
    by_cases hx : xs.length = 1
    · rw [if_neg (by omega), decide_eq_true hx, Bool.true_and]
    · rw [if_pos (by omega), decide_eq_false hx, Bool.false_and]
  · rw [if_neg h4, e1, e2]
    by_cases hc : k < 1 ∨ 5 < k ∨ 20 < xs.length
    · rw [if_pos (by omega)]
      have : (true && decide (xs.length ≤ 20) && decide (1 ≤ k) && decide (k ≤ 5)) = false := by
        rw [Bool.eq_false_iff]; intro h
        simp only [Bool.true_and, Bool.and_eq_true, decide_eq_true_eq] at h
        omega
      rw [this, Bool.false_and]
    · rw [if_neg (by omega)]
      have : (true && decide (xs.length ≤ 20) && decide (1 ≤ k) && decide (k ≤ 5)) = true := by
        simp only [Bool.true_and, Bool.and_eq_true, decide_eq_true_eq]
        omega
      rw [this, Bool.true_and]
section
variable {O : CallF} (hO : Oth O)
include hO
theorem ct77 {h : Hp} {a : Option Addr} {n c : Nat} {begin : List Bool} (B : BoolsAt h a n begin) {w k : Int} (hw : In64 w) {b1 b2 : Nat} (hb : readAt h b1 0 1 = some [.slice a n c]) (hb2 : readAt h b2 0 1 = some [.int .i64 k]) : EvT O 77 [.int .i64 w, .pointer (some ⟨b1, 0, none⟩), .pointer (some ⟨b2, 0, none⟩)] h (.bool (!(fieldB begin k w))) h := by
  refine evt hO (rk77 (hO := hO _ _ _ (by decide)) (hh := ?_) ..)
  unfold T77
  exact ⟨_, _, _, hb, _, hb2, _, _, ct78 hO B hw, rfl, rfl⟩
/-- The end: the cell is laid. -/
theorem lp24_1 {g h : Hp} {a0 : Option Addr} {n0 c0 : Nat} {x0 : Int} {a00 : Option Addr} {n00 c00 : Nat} {x1 : Int} {a2 : Option Addr} {n2 c2 : Nat} {b4 b6 b13 oW cw top : Nat} {k : Int} {W R : List Int} {ar : Option Addr} {nr cr : Nat} {m : Md} {v1 v2 v3 : Value}
    (S : Know g h [ob b13 (.cells [.slice (some ⟨oW, 0, none⟩) W.length cw, .int .i64 (Int.ofNat top), .slice ar nr cr] 24 .fix), ob oW (.cells (iv W) 3 m), slr ar nr cr R, ob b4 (.cells [.int .i64 k] 37 .fix), ob b6 (.cells [v1, v2, v3] 24 .fix)]) (hc : CapOk m cw W.length) {a14 : Option Addr} {n14 c14 : Nat} {xs : List Int} (X : IntsAt h a14 n14 xs) (hx : ∀ o off, a14 = some ⟨o, off, none⟩ → o ≠ oW) (hfit : top + 1 + xs.length ≤ W.length) (lW : W.length < 1000000) (hk : 0 ≤ k ∧ k ≤ 10) :
    I24_1 O (QA g ⟨layP W top k xs, top + 1 + xs.length, R, 0⟩ (2 * (top : Int))) a0 n0 c0 x0 a00 n00 c00 x1 a2 n2 c2 b4 0 b6 0 b13 0 a14 n14 c14 h := by
  refine I24_1.of (hh := ?_) ..
  unfold T24_1
  obtain ⟨v, h203, e203, rfl, S⟩ := ct81 hO S 0 1 rfl rfl (by decide) hc X hx hfit lW hk (c2 := c14)
  refine ⟨_, Know.rd (by assumption) 3 rfl rfl rfl, _, _, e203, ?_⟩
  have S : Know g h203 [_, _, _, _, _] := S
  refine ⟨_, _, _, _, _, _, _, S.rd 0 rfl rfl rfl, vreq_t (S.cw 4 rfl (by decide) rfl rfl) ?_⟩
  intro g211
  have S : Know g g211 [_, _, _, _, _] := S.wr 4 rfl (by decide) rfl rfl
  have S' : Know g g211 [_, _, _, _, _] := Know.obSlr S 1 rfl (cw := cw) (by rw [layP_length]; exact hc) (by rw [layP_length]; exact lW)
  rw [layP_length] at S'
  exact ⟨_, _, _, _, _, _, _, S.rd 4 rfl rfl rfl, _, rfl, _, _, _, _, _, _, rfl, S'.sel [1, 2] (by decide) rfl⟩
end
end Go.Proofs.YtngcjpkccnfjiaaGreatDoor
/- Contracts: Alloc of the code, the whole. -/
namespace Go.Proofs.YtngcjpkccnfjiaaGreatDoor
set_option maxRecDepth 100000
open Go Go.Ev
theorem room_fit {W : List Int} {top : Nat} {R l : List Int} {need : Nat} {s : Mv} (hs : ¬ top + need ≤ W.length → s.D.length = W.length) (his : (roomC W top R l need s).is = true) : (roomC W top R l need s).top + need ≤ (roomC W top R l need s).W.length ∧ (roomC W top R l need s).W.length = W.length ∧ (roomC W top R l need s).l.length = l.length := by
  by_cases h : top + need ≤ W.length
  · have e : roomC W top R l need s = ⟨W, top, R, l, true⟩ := by unfold roomC; rw [if_pos h]
    rw [e]; exact ⟨h, rfl, rfl⟩
  · have e : roomC W top R l need s = ⟨s.D, s.top, R.map (mvw W 1 s.ord), l.map (mvw W 1 s.ord), decide (s.top + need ≤ W.length)⟩ := by unfold roomC; rw [if_neg h]
    rw [e] at his ⊢
    have h1 : s.top + need ≤ W.length := of_decide_eq_true his
    exact ⟨by show s.top + need ≤ s.D.length; rw [hs h]; exact h1, hs h, by show (l.map _).length = _; rw [List.length_map]⟩
section
variable {O : CallF} (hO : Oth O)
include hO
theorem lp24_0e {g h : Hp} {L : List Rs} {a0 : Option Addr} {n0 c0 : Nat} {x0 : Int} {a00 : Option Addr} {n00 c00 : Nat} {x1 : Int} {a2 : Option Addr} {n2 c2 : Nat} {b3 b4 b6 b11 : Nat} {v1 v2 v3 : Value} (S : Know g h L) (i : Nat) (hi : L[i]? = some (ob b6 (.cells [v1, v2, v3] 24 .fix))) :
    I24_0 O (QA g ⟨[], 0, [], 2⟩ 0) a0 n0 c0 x0 a00 n00 c00 x1 a2 n2 c2 b3 0 b4 0 b6 0 2 b11 0 h := by
  have _ := hO
  refine I24_0.of (hh := ?_) ..
  unfold T24_0
  refine vcond_t rfl (vreq_t (S.cw i hi (by decide) rfl rfl) ?_)
  intro g101
  have S1 : Know g g101 _ := S.wr i hi (by decide) rfl rfl
  exact ⟨_, _, _, _, _, _, _, S1.rd i (List.getElem?_set_self (S.len hi)) rfl rfl, _, rfl, HK.zero S1 2⟩
theorem lp24_0s {g h : Hp} {a0 : Option Addr} {n0 c0 : Nat} {x0 : Int} {a00 : Option Addr} {n00 c00 : Nat} {a2 : Option Addr} {n2 c2 : Nat} {b3 b4 b6 b11 : Nat} {v1 v2 v3 : Value} {k : Int} {aw : Option Addr} {nw cw : Nat} {W : List Int} {tp : Nat} {ar : Option Addr} {nr cr : Nat} {R : List Int}
    (S : Know g h [ob b11 (.cells [.int .i64 (Int.ofNat n2), .int .i64 k] 117 .fix), ob b6 (.cells [v1, v2, v3] 24 .fix), ob b4 (.cells [.int .i64 k] 37 .fix), ob b3 (.cells [.slice aw nw cw, .int .i64 (Int.ofNat tp), .slice ar nr cr] 24 .fix)]) (A : HA g aw nw cw W ar nr cr R) (hW : W ≠ []) (lW : W.length ≤ 1000) (lR : R.length ≤ 1000) (ht : tp ≤ W.length) {xs : List Int} (X : IntsAt g a2 n2 xs) (hX : ∀ x ∈ xs, In64 x) (lX : xs.length ≤ 100) (hk : 0 ≤ k ∧ k ≤ 10)
    {s : Mv} (hrun : ¬ tp + (1 + xs.length) ≤ W.length → runO W 1 R (if refB k then xs else []) = some (s, R.map (mvw W 1 s.ord), (if refB k then xs else []).map (mvw W 1 s.ord)) ∧ s.top ≤ 1000 ∧ s.D.length = W.length) {r : Room} (hr : roomC W tp R (if refB k then xs else []) (1 + xs.length) s = r) :
    I24_0 O (QA g (if r.is = true then ⟨layP r.W r.top k (if refB k then r.l else xs), r.top + 1 + xs.length, r.R, 0⟩ else ⟨[], 0, [], 3⟩) (if r.is = true then 2 * (r.top : Int) else 0)) a0 n0 c0 x0 a00 n00 c00 k a2 n2 c2 b3 0 b4 0 b6 0 0 b11 0 h := by
  refine I24_0.of (hh := ?_) ..
  unfold T24_0
  have hn2 := X.1
  have eneed : wrapF .i64 (1 + Int.ofNat n2) = Int.ofNat (1 + xs.length) := by
    rw [hn2]; exact wrap64 (n := 1 + (xs.length : Int)) (by omega) (by omega)
  rw [eneed]
  refine vcond_f rfl ⟨_, _, S.rd 0 rfl rfl rfl, ct79 hO fun h112 k112 => ?_⟩
  have S : Know g h112 [_, _, _, _] := S.call k112
  haveI := S.ft
  have hro : (¬ tp + (1 + xs.length) ≤ W.length → s.D.length = W.length) := fun h => (hrun h).2.2
  cases hrf : refB k with
  | true =>
    rw [hrf, if_pos rfl] at hr hrun
    obtain ⟨v, h131, e131, q⟩ := ct80 hO S.ok (A.to h112) hW lW lR ht (X.to h112) hX (by omega) (need := 1 + xs.length) (by omega) (fun h => ⟨(hrun h).1, (hrun h).2.1⟩) (c2 := c2)
    rw [hr] at q
    obtain ⟨oW, cw', m, ar', nr', cr', al, nl, cl, rfl, hc, T, XL, hal⟩ := q
    refine vcond_t rfl ⟨_, _, _, _, _, _, _, S.rd 3 rfl rfl rfl, _, _, _, _, _, _, _, _, _, _, _, _, e131, ?_⟩
    have S : Know g h131 [_, _, _, _, _, _] := S.comp T
    intro g132
    have S : Know g g132 [_, _, _, _, _, _, _] := S.add _
    refine vreq_t (S.cw 0 rfl (by decide) rfl rfl) ?_
    intro g133
    have S : Know g g133 [_, _, _, _, _, _, _] := S.wr 0 rfl (by decide) rfl rfl
    cases his : r.is with
    | false =>
      refine vcond_t rfl (vreq_t (S.cw 4 rfl (by decide) rfl rfl) ?_)
      intro g134
      have S : Know g g134 [_, _, _, _, _, _, _] := S.wr 4 rfl (by decide) rfl rfl
      exact ⟨_, _, _, _, _, _, _, S.rd 4 rfl rfl rfl, _, rfl, HK.zero S 3⟩
    | true =>
      obtain ⟨f1, f2, f3⟩ := room_fit hro (by rw [hr]; exact his)
      rw [hr] at f1 f2 f3
      refine vcond_f rfl ⟨_, _, S.rd 3 rfl rfl rfl, ct79 hO fun h145 k145 => ?_⟩
      rw [hrf]
      refine vcond_f rfl ?_
      haveI : Ft h131 g133 := inferInstance
      haveI : Ft g133 h145 := k145.ex (Nat.le_refl _)
      have S : Know g h145 [_, _, _, _, _, _, _] := S.call k145
      have := lp24_1 hO (S.sel [0, 1, 2, 5, 4] (by decide) rfl) hc ((XL.to g133).to h145) hal (by omega) (by omega) hk (a0 := a0) (n0 := n0) (c0 := c0) (x0 := x0) (a00 := a00) (n00 := n00) (c00 := c00) (x1 := k) (a2 := a2) (n2 := n2) (c2 := c2) (c14 := cl)
      rw [f3] at this
      exact this
  | false =>
    rw [hrf, if_neg (by decide)] at hr hrun
    obtain ⟨v, h131, e131, q⟩ := ct80 hO S.ok (A.to h112) hW lW lR ht (SlAt.nil 1 EInt h112 : IntsAt h112 none 0 []) (fun x hx => by cases hx) (by decide) (need := 1 + xs.length) (by omega) (fun h => ⟨(hrun h).1, (hrun h).2.1⟩) (c2 := 0)
    rw [hr] at q
    obtain ⟨oW, cw', m, ar', nr', cr', al, nl, cl, rfl, hc, T, XL, hal⟩ := q
    refine vcond_f rfl ⟨_, _, _, _, _, _, _, S.rd 3 rfl rfl rfl, _, _, _, _, _, _, _, _, _, _, _, _, e131, ?_⟩
    have S : Know g h131 [_, _, _, _, _, _] := S.comp T
    intro g132
    have S : Know g g132 [_, _, _, _, _, _, _] := S.add _
    refine vreq_t (S.cw 0 rfl (by decide) rfl rfl) ?_
    intro g133
    have S : Know g g133 [_, _, _, _, _, _, _] := S.wr 0 rfl (by decide) rfl rfl
    cases his : r.is with
    | false =>
      refine vcond_t rfl (vreq_t (S.cw 4 rfl (by decide) rfl rfl) ?_)
      intro g134
      have S : Know g g134 [_, _, _, _, _, _, _] := S.wr 4 rfl (by decide) rfl rfl
      exact ⟨_, _, _, _, _, _, _, S.rd 4 rfl rfl rfl, _, rfl, HK.zero S 3⟩
    | true =>
      obtain ⟨f1, f2, f3⟩ := room_fit hro (by rw [hr]; exact his)
      rw [hr] at f1 f2 f3
      refine vcond_f rfl ⟨_, _, S.rd 3 rfl rfl rfl, ct79 hO fun h145 k145 => ?_⟩
      rw [hrf]
      refine vcond_t rfl ?_
      have S : Know g h145 [_, _, _, _, _, _, _] := S.call k145
      haveI := S.ft
      refine lp24_1 (xs := xs) hO (S.sel [0, 1, 2, 5, 4] (by decide) rfl) hc (X.to h145) (fun o off ha => ?_) (by omega) (by omega) hk
      have h1 : o < g.nx := by
        rcases X.2 with ⟨_, e⟩ | ⟨b, off', _, _, _, e, h2, _⟩
        · rw [e] at ha; cases ha
        · rw [e] at ha; injection ha with ha; injection ha with ha; omega
      have := (S.orng 1 rfl).1
      omega
/-- 'Alloc'. -/
theorem ct24 {g : Hp} (ok : g.Ok) {aw : Option Addr} {nw cw : Nat} {W : List Int} {top : Int} {ar : Option Addr} {nr cr : Nat} {R : List Int} (A : HA g aw nw cw W ar nr cr R) (tb : Tb g) {k : Int} {a2 : Option Addr} {n2 c2 : Nat} {xs : List Int} (X : IntsAt g a2 n2 xs) (hX : ∀ x ∈ xs, In64 x) (lX : xs.length ≤ 100)
    {s : Mv} (hrun : ∀ l, checkP W top R = some l → fieldsR l k xs = true → ¬ top.toNat + (1 + xs.length) ≤ W.length → runO W 1 R (if refB k then xs else []) = some (s, R.map (mvw W 1 s.ord), (if refB k then xs else []).map (mvw W 1 s.ord)) ∧ s.top ≤ 1000 ∧ s.D.length = W.length) :
    Ret Tryz.prog O 24 [.agg #[.slice aw nw cw, .int .i64 top, .slice ar nr cr], .int .i64 k, .slice a2 n2 c2] g (QA g (allocO (checkP W top R) W top.toNat R k xs s).1 (allocO (checkP W top R) W top.toNat R k xs s).2) := by
  refine rk24 (hO := hO _ _ _ (by decide)) (hh := ?_) ..
  unfold T24
  have n0 : 0 < g.nx := by have := tb.1; omega
  have hn2 := X.1
  intro g1 g2 g3
  have S : Know g g1 [_] := (Know.nil ok).add _
  have S : Know g g2 [_, _] := S.add _
  have S : Know g g3 [_, _, _] := S.add _
  haveI := S.ft
  obtain ⟨v, h15, e15, a11, n12, c13, x14, rfl, k15, hx⟩ := ct65 hO S.ok (A.sw.to g3) A.w (A.sr.at_.to g3) A.r (tb.kp S.kp n0) (top := top)
  refine ⟨_, _, _, _, _, _, _, S.rd 2 rfl rfl rfl, _, _, _, _, _, e15, ?_⟩
  have S : Know g h15 [_, _, _] := S.call k15
  intro g16
  have S : Know g g16 [_, _, _, _] := S.add _
  refine vreq_t (S.cw 0 rfl (by decide) rfl rfl) ?_
  intro g17
  have S : Know g g17 [_, _, _, _] := S.wr 0 rfl (by decide) rfl rfl
  refine ⟨_, S.rd 2 rfl rfl rfl, ?_⟩
  intro g19
  have S : Know g g19 [_, _, _, _, _] := S.add _
  refine vreq_t (S.cw 0 rfl (by decide) rfl rfl) ?_
  intro g20
  have S : Know g g20 [_, _, _, _, _] := S.wr 0 rfl (by decide) rfl rfl
  cases hf : checkP W top R with
  | none =>
    rw [hf] at hx
    have hx : x14 = 2 := hx
    subst hx
    exact vcond_f rfl (lp24_0e hO S 2 rfl)
  | some l =>
    rw [hf] at hx
    obtain ⟨hx, B⟩ := hx
    subst hx
    obtain ⟨f1, f2, f3, f4, f5, f6, f7, f8, f9⟩ := checkP_cells hf
    have hm := (cellsR_mem (cellsG_R f7)).2
    have hl : ∀ x ∈ l, x < W.length := fun x hx => by have := hm x hx; omega
    have hgf := good_fields hl f1 k xs (by omega)
    refine vcond_t rfl ⟨_, _, S.rd 0 rfl rfl rfl, ct75 hO (tb.kp S.kp n0) fun h24 k24 => ?_⟩
    haveI : Ft h15 g20 := inferInstance
    haveI : Ft g20 h24 := k24.ex (Nat.le_refl _)
    have S : Know g h24 [_, _, _, _, _] := S.call k24
    rw [hn2]
    cases hg : goodB (Int.ofNat xs.length) k with
    | false =>
      rw [hg, Bool.false_and] at hgf
      have e : allocO (some l) W top.toNat R k xs s = (⟨[], 0, [], 2⟩, 0) := by unfold allocO; exact if_neg (by rw [← hgf]; decide)
      rw [e]
      exact vcond_t rfl (lp24_0e hO S 2 rfl)
    | true =>
      rw [hg, Bool.true_and] at hgf
      have B24 : BoolsAt h24 a11 n12 (beginP W l) := (B.to g20).to h24
      haveI := S.ft
      refine vcond_f rfl ⟨xs.any fun x => !(fieldB (beginP W l) k x), h24, ?_, ?_⟩
      · have := ct76 hO (X.to h24) (by omega) (c := c2) (g1 := 77) (fi := #[]) (ca := #[.pointer (some ⟨h15.nx, 0, none⟩), .pointer (some ⟨g1.nx, 0, none⟩)]) (p := fun x => !(fieldB (beginP W l) k x)) fun x hx => ct77 hO B24 (hX x hx) (S.rd 1 rfl rfl rfl) (S.rd 3 rfl rfl rfl)
        rw [hn2] at this
        exact this
      cases hany : (xs.any fun x => !(fieldB (beginP W l) k x)) with
      | true =>
        rw [hany] at hgf
        have e : allocO (some l) W top.toNat R k xs s = (⟨[], 0, [], 2⟩, 0) := by unfold allocO; exact if_neg (by rw [← hgf]; decide)
        rw [e]
        exact vcond_t rfl (lp24_0e hO S 2 rfl)
      | false =>
        rw [hany] at hgf
        have hgf : fieldsR l k xs = true := hgf.symm
        have hk : 0 ≤ k ∧ k ≤ 10 := by
          unfold fieldsR at hgf
          split at hgf
          · cases hgf
          · omega
        obtain ⟨tp, rfl⟩ : ∃ m : Nat, top = Int.ofNat m := Int.eq_ofNat_of_zero_le (by omega)
        have e : allocO (some l) W (Int.ofNat tp).toNat R k xs s = ((if (roomC W tp R (if refB k then xs else []) (1 + xs.length) s).is = true then ⟨layP (roomC W tp R (if refB k then xs else []) (1 + xs.length) s).W (roomC W tp R (if refB k then xs else []) (1 + xs.length) s).top k (if refB k then (roomC W tp R (if refB k then xs else []) (1 + xs.length) s).l else xs), (roomC W tp R (if refB k then xs else []) (1 + xs.length) s).top + 1 + xs.length, (roomC W tp R (if refB k then xs else []) (1 + xs.length) s).R, 0⟩ else ⟨[], 0, [], 3⟩), (if (roomC W tp R (if refB k then xs else []) (1 + xs.length) s).is = true then 2 * ((roomC W tp R (if refB k then xs else []) (1 + xs.length) s).top : Int) else 0)) := by
          unfold allocO
          show (if fieldsR l k xs = true then _ else _) = _
          rw [if_pos hgf, show (Int.ofNat tp).toNat = tp from rfl]
          generalize roomC W tp R (if refB k = true then xs else []) (1 + xs.length) s = r
          cases r.is <;> rfl
        rw [e]
        refine vcond_f rfl ?_
        have Sx := S.sel [0, 2, 3, 4] (by decide) rfl
        have := lp24_0s hO Sx A (fun h => by rw [h] at f1; simp at f1) (by omega) (by omega) (Int.ofNat_le.1 f4) X hX lX hk (hrun l hf hgf) rfl (a0 := aw) (n0 := nw) (c0 := cw) (x0 := Int.ofNat tp) (a00 := ar) (n00 := nr) (c00 := cr) (c2 := c2)
        rw [hn2] at this
        exact this
end
end Go.Proofs.YtngcjpkccnfjiaaGreatDoor
/- Contracts: Alloc of the reference. -/
namespace Go.Proofs.YtngcjpkccnfjiaaGreatDoor
set_option maxRecDepth 100000
open Go Go.Ev
section
variable {O : CallF} (hO : Oth O)
include hO
theorem lp25_1 {g h : Hp} {a0 : Option Addr} {n0 c0 : Nat} {x0 : Int} {a00 : Option Addr} {n00 c00 : Nat} {a2 : Option Addr} {n2 c2 : Nat} {b6 b13 oW cw top : Nat} {k : Int} {W R : List Int} {ar : Option Addr} {nr cr : Nat} {m : Md} {v1 v2 v3 : Value}
    (S : Know g h [ob b13 (.cells [.slice (some ⟨oW, 0, none⟩) W.length cw, .int .i64 (Int.ofNat top), .slice ar nr cr] 24 .fix), ob oW (.cells (iv W) 3 m), slr ar nr cr R, ob b6 (.cells [v1, v2, v3] 24 .fix)]) (hc : CapOk m cw W.length) {a14 : Option Addr} {n14 c14 : Nat} {xs : List Int} (X : IntsAt h a14 n14 xs) (hx : ∀ o off, a14 = some ⟨o, off, none⟩ → o ≠ oW) (hfit : top + 1 + xs.length ≤ W.length) (lW : W.length < 1000000) (hk : 0 ≤ k ∧ k ≤ 10) :
    I25_1 O (QA g ⟨layP W top k xs, top + 1 + xs.length, R, 0⟩ (2 * (top : Int))) a0 n0 c0 x0 a00 n00 c00 k a2 n2 c2 b6 0 a14 n14 c14 b13 0 h := by
  refine I25_1.of (hh := ?_) ..
  unfold T25_1
  obtain ⟨v, h216, e216, rfl, S1⟩ := ct84 hO S 1 rfl hc X hx hfit lW hk (c2 := c14) (ar := ar) (nr := nr) (cr := cr)
  refine ⟨_, _, _, _, _, _, _, S.rd 0 rfl rfl rfl, _, _, _, _, _, _, _, _, _, e216, ?_⟩
  have S : Know g h216 [_, _, _, _] := S1
  refine vreq_t (S.cw 0 rfl (by decide) rfl rfl) ?_
  intro g217
  have S : Know g g217 [_, _, _, _] := S.wr 0 rfl (by decide) rfl rfl
  refine ⟨_, _, _, _, _, _, _, S.rd 0 rfl rfl rfl, vreq_t (S.cw 3 rfl (by decide) rfl rfl) ?_⟩
  intro g225
  have S : Know g g225 [_, _, _, _] := S.wr 3 rfl (by decide) rfl rfl
  have S' : Know g g225 [_, _, _, _] := Know.obSlr S 1 rfl (cw := cw) (by rw [layP_length]; exact hc) (by rw [layP_length]; exact lW)
  rw [layP_length] at S'
  exact ⟨_, _, _, _, _, _, _, S.rd 3 rfl rfl rfl, _, rfl, _, _, _, _, _, _, rfl, S'.sel [1, 2] (by decide) rfl⟩
theorem lp25_0 {g h : Hp} {a0 : Option Addr} {n0 c0 : Nat} {x0 : Int} {a00 : Option Addr} {n00 c00 : Nat} {a2 : Option Addr} {n2 c2 : Nat} {b3 b6 : Nat} {v1 v2 v3 : Value} {k : Int} {aw : Option Addr} {nw cw : Nat} {W : List Int} {tp : Nat} {ar : Option Addr} {nr cr : Nat} {R : List Int}
    (S : Know g h [ob b6 (.cells [v1, v2, v3] 24 .fix), ob b3 (.cells [.slice aw nw cw, .int .i64 (Int.ofNat tp), .slice ar nr cr] 24 .fix)]) (A : HA g aw nw cw W ar nr cr R) (hW : W ≠ []) (lW : W.length ≤ 200) (lR : R.length ≤ 500) (h1 : 1 ≤ tp) (ht : tp ≤ W.length) {xs : List Int} (X : IntsAt g a2 n2 xs) (hX : ∀ x ∈ xs, In64 x) (lX : xs.length ≤ 100) (hk : 0 ≤ k ∧ k ≤ 10)
    {s : Mv} {all : List Nat} {f : Nat} (hcol : ¬ tp + (1 + xs.length) ≤ W.length → cellsR W tp (tp + 1) 1 = some all ∧ reachO W 1 f 0 (withP 1 (R ++ (if refB k then xs else [])) []) = some s.ord ∧ colD W 1 all s.ord = s.D ∧ 1 + totalW W s.ord = s.top ∧ (∀ p ∈ s.ord, CellAt W p) ∧ 1 + totalW W s.ord ≤ W.length) {r : Room} (hr : roomC W tp R (if refB k then xs else []) (1 + xs.length) s = r) {q : Bool} (hq : q = !(refB k)) :
    I25_0 O (QA g (if r.is = true then ⟨layP r.W r.top k (if refB k then r.l else xs), r.top + 1 + xs.length, r.R, 0⟩ else ⟨[], 0, [], 3⟩) (if r.is = true then 2 * (r.top : Int) else 0)) a0 n0 c0 x0 a00 n00 c00 k a2 n2 c2 b3 0 b6 0 q h := by
  refine I25_0.of (hh := ?_) ..
  unfold T25_0
  have hn2 := X.1
  have eneed : wrapF .i64 (1 + Int.ofNat n2) = Int.ofNat (1 + xs.length) := by
    rw [hn2]; exact wrap64 (n := 1 + (xs.length : Int)) (by omega) (by omega)
  rw [eneed]
  haveI := S.ft
  have hro : (¬ tp + (1 + xs.length) ≤ W.length → s.D.length = W.length) := fun h => by
    obtain ⟨_, _, c, _⟩ := hcol h
    rw [← c, colD_length]
  cases hrf : refB k with
  | true =>
    rw [hrf] at hq
    subst hq
    rw [hrf, if_pos rfl] at hr hcol
    obtain ⟨v, h131, e131, q⟩ := ct83 hO S.ok (A.to h) hW lW lR h1 ht (X.to h) hX (by omega) (need := 1 + xs.length) (by omega) hcol (c2 := c2)
    rw [hr] at q
    obtain ⟨oW, cw', m, ar', nr', cr', al, nl, cl, rfl, hc, T, XL, hal⟩ := q
    refine vcond_t rfl ⟨_, _, _, _, _, _, _, S.rd 1 rfl rfl rfl, _, _, _, _, _, _, _, _, _, _, _, _, e131, ?_⟩
    have S : Know g h131 [_, _, _, _] := S.comp T
    intro g132
    have S : Know g g132 [_, _, _, _, _] := S.add _
    refine vreq_t (S.cw 0 rfl (by decide) rfl rfl) ?_
    intro g133
    have S : Know g g133 [_, _, _, _, _] := S.wr 0 rfl (by decide) rfl rfl
    cases his : r.is with
    | false =>
      refine vcond_t rfl (vreq_t (S.cw 3 rfl (by decide) rfl rfl) ?_)
      intro g134
      have S : Know g g134 [_, _, _, _, _] := S.wr 3 rfl (by decide) rfl rfl
      exact ⟨_, _, _, _, _, _, _, S.rd 3 rfl rfl rfl, _, rfl, HK.zero S 3⟩
    | true =>
      obtain ⟨f1, f2, f3⟩ := room_fit hro (by rw [hr]; exact his)
      rw [hr] at f1 f2 f3
      refine vcond_f rfl (vcond_f rfl ?_)
      haveI : Ft h131 g133 := inferInstance
      have := lp25_1 hO (S.sel [0, 1, 2, 3] (by decide) rfl) hc (XL.to g133) hal (by omega) (by omega) hk (a0 := a0) (n0 := n0) (c0 := c0) (x0 := x0) (a00 := a00) (n00 := n00) (c00 := c00) (a2 := a2) (n2 := n2) (c2 := c2) (c14 := cl)
      rw [f3] at this
      exact this
  | false =>
    rw [hrf] at hq
    subst hq
    rw [hrf, if_neg (by decide)] at hr hcol
    obtain ⟨v, h131, e131, q⟩ := ct83 hO S.ok (A.to h) hW lW lR h1 ht (SlAt.nil 1 EInt h : IntsAt h none 0 []) (fun x hx => by cases hx) (by decide) (need := 1 + xs.length) (by omega) hcol (c2 := 0)
    rw [hr] at q
    obtain ⟨oW, cw', m, ar', nr', cr', al, nl, cl, rfl, hc, T, XL, hal⟩ := q
    refine vcond_f rfl ⟨_, _, _, _, _, _, _, S.rd 1 rfl rfl rfl, _, _, _, _, _, _, _, _, _, _, _, _, e131, ?_⟩
    have S : Know g h131 [_, _, _, _] := S.comp T
    intro g132
    have S : Know g g132 [_, _, _, _, _] := S.add _
    refine vreq_t (S.cw 0 rfl (by decide) rfl rfl) ?_
    intro g133
    have S : Know g g133 [_, _, _, _, _] := S.wr 0 rfl (by decide) rfl rfl
    cases his : r.is with
    | false =>
      refine vcond_t rfl (vreq_t (S.cw 3 rfl (by decide) rfl rfl) ?_)
      intro g134
      have S : Know g g134 [_, _, _, _, _] := S.wr 3 rfl (by decide) rfl rfl
      exact ⟨_, _, _, _, _, _, _, S.rd 3 rfl rfl rfl, _, rfl, HK.zero S 3⟩
    | true =>
      obtain ⟨f1, f2, f3⟩ := room_fit hro (by rw [hr]; exact his)
      rw [hr] at f1 f2 f3
      refine vcond_f rfl (vcond_t rfl ?_)
      haveI := S.ft
      refine lp25_1 (xs := xs) hO (S.sel [0, 1, 2, 3] (by decide) rfl) hc (X.to g133) (fun o off ha => ?_) (by omega) (by omega) hk
      have h1 : o < g.nx := by
        rcases X.2 with ⟨_, e⟩ | ⟨b, off', _, _, _, e, h2, _⟩
        · rw [e] at ha; cases ha
        · rw [e] at ha; injection ha with ha; injection ha with ha; omega
      have := (S.orng 1 rfl).1
      omega
/-- 'Alloc' of the reference. -/
theorem ct25 {g : Hp} (ok : g.Ok) {aw : Option Addr} {nw cw : Nat} {W : List Int} {top : Int} {ar : Option Addr} {nr cr : Nat} {R : List Int} (A : HA g aw nw cw W ar nr cr R) {k : Int} {a2 : Option Addr} {n2 c2 : Nat} {xs : List Int} (X : IntsAt g a2 n2 xs) (hX : ∀ x ∈ xs, In64 x) (lX : xs.length ≤ 100)
    {s : Mv} {f : Nat} (hcol : ∀ l, checkP W top R = some l → fieldsR l k xs = true → ¬ top.toNat + (1 + xs.length) ≤ W.length → reachO W 1 f 0 (withP 1 (R ++ (if refB k then xs else [])) []) = some s.ord ∧ colD W 1 l s.ord = s.D ∧ 1 + totalW W s.ord = s.top ∧ (∀ p ∈ s.ord, CellAt W p) ∧ 1 + totalW W s.ord ≤ W.length) :
    Ret Tryz.prog O 25 [.agg #[.slice aw nw cw, .int .i64 top, .slice ar nr cr], .int .i64 k, .slice a2 n2 c2] g (QA g (allocO (checkP W top R) W top.toNat R k xs s).1 (allocO (checkP W top R) W top.toNat R k xs s).2) := by
  refine rk25 (hO := hO _ _ _ (by decide)) (hh := ?_) ..
  unfold T25
  intro g1 g2
  have S : Know g g1 [_] := (Know.nil ok).add _
  have S : Know g g2 [_, _] := S.add _
  haveI := S.ft
  obtain ⟨v, h14, e14, a10, n11, c12, rfl, XL, k14⟩ := ct37 hO S.ok (A.to g2) (top := top)
  refine ⟨_, _, _, _, _, _, _, S.rd 1 rfl rfl rfl, _, _, _, _, _, e14, ?_⟩
  have S : Know g h14 [_, _] := S.call k14
  haveI := S.ft
  rw [formed_check] at XL ⊢
  cases hf : checkP W top R with
  | none =>
    refine vcond_f rfl (vcond_t rfl (vreq_t (S.cw 0 rfl (by decide) rfl rfl) ?_))
    intro g33
    have S : Know g g33 [_, _] := S.wr 0 rfl (by decide) rfl rfl
    exact ⟨_, _, _, _, _, _, _, S.rd 0 rfl rfl rfl, _, rfl, HK.zero S 2⟩
  | some l =>
    rw [hf] at XL
    obtain ⟨f1, f2, f3, f4, f5, f6, f7, f8, f9⟩ := checkP_cells hf
    have hm := (cellsR_mem (cellsG_R f7)).2
    have ll : l.length < 1000000 := by have := cellsG_total f7; have := length_total W l; omega
    refine vcond_t rfl ⟨_, _, ct82 hO XL ll k (X.to h14) hX (by omega), ?_⟩
    cases hgf : fieldsR l k xs with
    | false =>
      have e : allocO (some l) W top.toNat R k xs s = (⟨[], 0, [], 2⟩, 0) := by unfold allocO; exact if_neg (by rw [hgf]; decide)
      rw [e]
      refine vcond_t (by show (!(fieldsR l k xs)) = true; rw [hgf]; rfl) (vreq_t (S.cw 0 rfl (by decide) rfl rfl) ?_)
      intro g33
      have S : Know g g33 [_, _] := S.wr 0 rfl (by decide) rfl rfl
      exact ⟨_, _, _, _, _, _, _, S.rd 0 rfl rfl rfl, _, rfl, HK.zero S 2⟩
    | true =>
      have hk : 1 ≤ k ∧ k ≤ 5 := by
        have h := hgf
        unfold fieldsR at h
        split at h
        · cases h
        · omega
      obtain ⟨tp, rfl⟩ : ∃ m : Nat, top = Int.ofNat m := Int.eq_ofNat_of_zero_le (by omega)
      have e : allocO (some l) W (Int.ofNat tp).toNat R k xs s = ((if (roomC W tp R (if refB k then xs else []) (1 + xs.length) s).is = true then ⟨layP (roomC W tp R (if refB k then xs else []) (1 + xs.length) s).W (roomC W tp R (if refB k then xs else []) (1 + xs.length) s).top k (if refB k then (roomC W tp R (if refB k then xs else []) (1 + xs.length) s).l else xs), (roomC W tp R (if refB k then xs else []) (1 + xs.length) s).top + 1 + xs.length, (roomC W tp R (if refB k then xs else []) (1 + xs.length) s).R, 0⟩ else ⟨[], 0, [], 3⟩), (if (roomC W tp R (if refB k then xs else []) (1 + xs.length) s).is = true then 2 * ((roomC W tp R (if refB k then xs else []) (1 + xs.length) s).top : Int) else 0)) := by
        unfold allocO
        show (if fieldsR l k xs = true then _ else _) = _
        rw [if_pos hgf, show (Int.ofNat tp).toNat = tp from rfl]
        generalize roomC W tp R (if refB k = true then xs else []) (1 + xs.length) s = r
        cases r.is <;> rfl
      rw [e]
      have hcol' : ¬ tp + (1 + xs.length) ≤ W.length → cellsR W tp (tp + 1) 1 = some l ∧ _ := fun h => ⟨cellsG_R f7, hcol l hf hgf h⟩
      have hkc : k = 1 ∨ k = 2 ∨ k = 3 ∨ k = 4 ∨ k = 5 := by omega
      have go : ∀ q : Bool, q = !(refB k) → I25_0 O _ aw nw cw (Int.ofNat tp) ar nr cr k a2 n2 c2 g.nx 0 g1.nx 0 q h14 := fun q hq => lp25_0 hO S A (fun h => by rw [h] at f1; simp at f1) f2 (by omega) (Int.ofNat_le.1 f3) (Int.ofNat_le.1 f4) X hX lX (by omega) hcol' rfl hq
      refine vcond_f (by show (!(fieldsR l k xs)) = false; rw [hgf]; rfl) (vcond_f rfl (vcond_split (fun h3 => go true ?_) fun h3 => go _ ?_))
      · rw [eq_of_t h3]; rfl
      · have h3 := ne_of_f h3
        rcases hkc with rfl | rfl | rfl | rfl | rfl
        · rfl
        · rfl
        · exact absurd rfl h3
        · rfl
        · rfl
end
end Go.Proofs.YtngcjpkccnfjiaaGreatDoor
/- Contracts: within, Write, Look, of the code and of the reference. -/
namespace Go.Proofs.YtngcjpkccnfjiaaGreatDoor
set_option maxRecDepth 100000
open Go Go.Ev
def withinB (W : List Int) (l : List Nat) (x n : Int) : Bool := (l.map Int.ofNat).contains x && (decide (0 ≤ n) && decide (n < hdS (W.getD x.toNat 0)))
def writeO (c : Option (List Nat)) (W : List Int) (top : Nat) (R : List Int) (x n w : Int) : Out := match c with
  | none => ⟨[], 0, [], 2⟩
  | some l => if (withinB W l x n && fieldR l (hdK (W.getD x.toNat 0)) w) = true then ⟨W.set (x.toNat + 1 + n.toNat) w, top, R, 0⟩ else ⟨[], 0, [], 2⟩
def lookO (c : Option (List Nat)) (W : List Int) (x n : Int) : Int × Int := match c with
  | none => (0, 2)
  | some l => if withinB W l x n = true then (W.getD (x.toNat + 1 + n.toNat) 0, 0) else (0, 2)
def QW (g : Hp) (o : Out) : Value → Hp → Prop := fun v h => ∃ u, v = .tuple #[u, .int .i64 o.e] ∧ HK g o u h
/-- A cell's field. -/
structure FieldAt (W : List Int) (l : List Nat) (x n : Int) (m i : Nat) : Prop where
  ex : x = Int.ofNat m
  en : n = Int.ofNat i
  mem : m ∈ l
  lt : m < W.length
  sz : hdS (W.getD m 0) = Int.ofNat (hdS (W.getD m 0)).toNat
  il : i < (hdS (W.getD m 0)).toNat
  fit : m + 1 + i < W.length
  wr : wrapF .i64 (wrapF .i64 (x + 1) + n) = Int.ofNat (m + 1 + i)
theorem field_at {W : List Int} {top : Int} {R : List Int} {l : List Nat} (hf : checkP W top R = some l) {x n : Int} (hw : withinB W l x n = true) : ∃ m i, FieldAt W l x n m i := by
  obtain ⟨f1, f2, f3, f4, f5, f6, f7, f8, f9⟩ := checkP_cells hf
  have hm := (cellsR_mem (cellsG_R f7)).2
  unfold withinB at hw
  rw [Bool.and_eq_true, Bool.and_eq_true, decide_eq_true_eq, decide_eq_true_eq, List.contains_iff_mem] at hw
  obtain ⟨hx, h0, hn⟩ := hw
  obtain ⟨m, hml, rfl⟩ := List.mem_map.1 hx
  obtain ⟨i, rfl⟩ := Int.eq_ofNat_of_zero_le h0
  obtain ⟨m1, m2, m3, m4, m5⟩ := hm m hml
  have hn : (i : Int) < hdS (W.getD m 0) := hn
  have e : wrapF .i64 (wrapF .i64 (Int.ofNat m + 1) + (i : Int)) = Int.ofNat (m + 1 + i) := by
    rw [wrap_succ (by omega)]
    rw [wrap64 (by show _ ≤ ((m + 1 : Nat) : Int) + (i : Int); omega) (by show ((m + 1 : Nat) : Int) + (i : Int) < _; omega)]
    rfl
  exact ⟨m, i, rfl, rfl, hml, by omega, (Int.toNat_of_nonneg (by omega)).symm, by omega, by omega, e⟩
theorem IntsAt.getD {h : Hp} {a : Option Addr} {n : Nat} {xs : List Int} {k : Nat} (hk : k < xs.length) : xs[k] = xs.getD k 0 := by simp [List.getD, List.getElem?_eq_getElem hk]
section
variable {O : CallF} (hO : Oth O) {g : Hp} (ok : g.Ok) {aw : Option Addr} {nw cw : Nat} {W : List Int} {top : Int} {ar : Option Addr} {nr cr : Nat} {R : List Int} (A : HA g aw nw cw W ar nr cr R)
include hO ok A
theorem ct85 (tb : Tb g) (x n : Int) : Ret Tryz.prog O 85 [.agg #[.slice aw nw cw, .int .i64 top, .slice ar nr cr], .int .i64 x, .int .i64 n] g fun v h' => ∃ a m c e, v = .tuple #[.slice a m c, .int .i64 e] ∧ Kp g.nx g h' ∧ match checkP W top R with
    | none => e = 2
    | some l => BoolsAt h' a m (beginP W l) ∧ e = if withinB W l x n then 0 else 2 := by
  refine rk85 (hO := hO _ _ _ (by decide)) (hh := ?_) ..
  unfold T85
  have n0 : 0 < g.nx := by have := tb.1; omega
  intro g1
  have S : Know g g1 [_] := (Know.nil ok).add _
  haveI := S.ft
  obtain ⟨v, h13, e13, a9, n10, c11, x12, rfl, k13, hx⟩ := ct65 hO S.ok (A.sw.to g1) A.w (A.sr.at_.to g1) A.r (tb.kp S.kp n0) (top := top)
  refine ⟨_, _, _, _, _, _, _, S.rd 0 rfl rfl rfl, _, _, _, _, _, e13, ?_⟩
  have S : Know g h13 [_] := S.call k13
  haveI := S.ft
  cases hf : checkP W top R with
  | none =>
    rw [hf] at hx
    have hx : x12 = 2 := hx
    subst hx
    exact vcond_f rfl ⟨_, _, _, _, rfl, S.kp, rfl⟩
  | some l =>
    rw [hf] at hx
    obtain ⟨hx, B⟩ := hx
    subst hx
    obtain ⟨f1, f2, f3, f4, f5, f6, f7, f8, f9⟩ := checkP_cells hf
    have hm := (cellsR_mem (cellsG_R f7)).2
    refine vcond_t rfl ⟨_, _, ct71 hO B (fun y hy => by have := hm y hy; omega) x, ?_⟩
    have hno : withinB W l x n = false → ∀ h' : Hp, Kp h13.nx h13 h' → ∃ a m c e, Value.tuple #[.slice a9 n10 c11, .int .i64 2] = .tuple #[.slice a m c, .int .i64 e] ∧ Kp g.nx g h' ∧ BoolsAt h' a m (beginP W l) ∧ e = if withinB W l x n then 0 else 2 := fun hw h' k => by
      haveI : Ft h13 h' := k.ex (Nat.le_refl _)
      exact ⟨_, _, _, _, rfl, (S.call k).kp, B.to h', by rw [hw]; rfl⟩
    cases hcx : (l.map Int.ofNat).contains x with
    | false => exact vcond_t rfl (hno (by unfold withinB; rw [hcx]; rfl) _ (Kp.refl _ _))
    | true =>
      refine vcond_f rfl (vcond_split (fun h1 => ?_) fun h1 => ?_)
      · exact hno (by unfold withinB; rw [decide_eq_false (show ¬ 0 ≤ n by have := lt_of_t h1; omega)]; simp) _ (Kp.refl _ _)
      · have h1 := not_lt_of_f h1
        have hc2 := hcx
        rw [List.contains_iff_mem] at hc2
        obtain ⟨m, hml, rfl⟩ := List.mem_map.1 hc2
        have := hm m hml
        have hmW : m < W.length := by omega
        refine ⟨_, _, _, S.rd 0 rfl rfl rfl, isNat_i (A.sw.at_.rd (k := m) hmW (ct86 hO S.ok (A.w _ (List.getElem_mem hmW)) fun h25 k25 => ?_))⟩
        haveI : Ft h13 h25 := k25.ex (Nat.le_refl _)
        rw [show W[m] = W.getD m 0 by simp [List.getD, List.getElem?_eq_getElem hmW]]
        have ew : withinB W l (Int.ofNat m) n = decide (n < hdS (W.getD m 0)) := by
          unfold withinB
          rw [hcx, decide_eq_true (show 0 ≤ n by omega)]
          rfl
        cases h2 : ltI n (hdS (W.getD m 0)) with
        | false => exact vcond_t rfl (hno (by rw [ew, decide_eq_false (not_lt_of_f h2)]) _ k25)
        | true => exact vcond_f rfl ⟨_, _, _, _, rfl, (S.call k25).kp, B.to h25, by rw [ew, decide_eq_true (lt_of_t h2)]; rfl⟩
theorem ct88 (x n : Int) : Ret Tryz.prog O 88 [.agg #[.slice aw nw cw, .int .i64 top, .slice ar nr cr], .int .i64 x, .int .i64 n] g fun v h' => v = .bool (match checkP W top R with
    | none => false
    | some l => withinB W l x n) ∧ Kp g.nx g h' := by
  refine rk88 (hO := hO _ _ _ (by decide)) (hh := ?_) ..
  unfold T88
  intro g1
  have S : Know g g1 [_] := (Know.nil ok).add _
  haveI := S.ft
  obtain ⟨v, h13, e13, a9, n10, c11, rfl, XL, k13⟩ := ct37 hO S.ok (A.to g1) (top := top)
  refine ⟨_, _, _, _, _, _, _, S.rd 0 rfl rfl rfl, _, _, _, _, _, e13, ?_⟩
  have S : Know g h13 [_] := S.call k13
  haveI := S.ft
  rw [formed_check] at XL ⊢
  cases hf : checkP W top R with
  | none => exact vcond_f rfl ⟨rfl, S.kp⟩
  | some l =>
    rw [hf] at XL
    obtain ⟨f1, f2, f3, f4, f5, f6, f7, f8, f9⟩ := checkP_cells hf
    have hm := (cellsR_mem (cellsG_R f7)).2
    have ll : l.length < 1000000 := by have := cellsG_total f7; have := length_total W l; omega
    refine vcond_t rfl ⟨_, _, ct67 hO XL (by rw [List.length_map]; exact ll) x, ?_⟩
    show vcond ((l.map Int.ofNat).contains x) _ _
    cases hcx : (l.map Int.ofNat).contains x with
    | false => exact vcond_f rfl ⟨by show Value.bool false = .bool (withinB W l x n); unfold withinB; rw [hcx]; rfl, S.kp⟩
    | true =>
      refine vcond_t rfl (vcond_split (fun h1 => ?_) fun h1 => ?_)
      · have h1 := not_lt_of_f (nt_f h1)
        have hc2 := hcx
        rw [List.contains_iff_mem] at hc2
        obtain ⟨m, hml, rfl⟩ := List.mem_map.1 hc2
        have := hm m hml
        have hmW : m < W.length := by omega
        refine ⟨_, _, _, S.rd 0 rfl rfl rfl, isNat_i (A.sw.at_.rd (k := m) hmW ⟨_, _, ct127 hO (A.w _ (List.getElem_mem hmW)) h13, ?_, S.kp⟩)⟩
        rw [show W[m] = W.getD m 0 by simp [List.getD, List.getElem?_eq_getElem hmW], ltI_eq]
        show _ = Value.bool (withinB W l (Int.ofNat m) n)
        unfold withinB
        rw [hcx, decide_eq_true (show 0 ≤ n by omega)]
        rfl
      · have h1 := lt_of_t (nt_t h1)
        exact ⟨by show Value.bool false = .bool (withinB W l x n); unfold withinB; rw [decide_eq_false (show ¬ 0 ≤ n by omega)]; simp, S.kp⟩
/-- 'Look'. -/
theorem ct28 (tb : Tb g) (x n : Int) : Ret Tryz.prog O 28 [.agg #[.slice aw nw cw, .int .i64 top, .slice ar nr cr], .int .i64 x, .int .i64 n] g fun v h' => v = .tuple #[.int .i64 (lookO (checkP W top R) W x n).1, .int .i64 (lookO (checkP W top R) W x n).2] ∧ Kp g.nx g h' := by
  refine rk28 (hO := hO _ _ _ (by decide)) (hh := ?_) ..
  unfold T28
  have n0 : 0 < g.nx := by have := tb.1; omega
  intro g1
  have S : Know g g1 [_] := (Know.nil ok).add _
  haveI := S.ft
  obtain ⟨v, h13, e13, a9, n10, c11, x12, rfl, k13, hx⟩ := ct85 hO S.ok (A.to g1) (tb.kp S.kp n0) x n (top := top)
  refine ⟨_, _, _, _, _, _, _, S.rd 0 rfl rfl rfl, _, _, _, _, _, e13, ?_⟩
  have S : Know g h13 [_] := S.call k13
  haveI := S.ft
  cases hf : checkP W top R with
  | none =>
    rw [hf] at hx
    have hx : x12 = 2 := hx
    subst hx
    exact vcond_t rfl ⟨rfl, S.kp⟩
  | some l =>
    rw [hf] at hx
    obtain ⟨B, hx⟩ := hx
    cases hw : withinB W l x n with
    | false =>
      have e : lookO (some l) W x n = (0, 2) := if_neg (by rw [hw]; decide)
      rw [e]
      rw [hw] at hx
      have hx : x12 = 2 := hx
      subst hx
      exact vcond_t rfl ⟨rfl, S.kp⟩
    | true =>
      have e : lookO (some l) W x n = (W.getD (x.toNat + 1 + n.toNat) 0, 0) := if_pos hw
      rw [e]
      rw [hw] at hx
      have hx : x12 = 0 := hx
      subst hx
      obtain ⟨m, i, F⟩ := field_at hf hw
      obtain ⟨rfl, rfl, _, _, _, _, ft, wr⟩ := F
      rw [wr]
      refine vcond_f rfl ⟨_, _, _, S.rd 0 rfl rfl rfl, isNat_i (A.sw.at_.rd (k := m + 1 + i) ft ⟨?_, S.kp⟩)⟩
      rw [show W[m + 1 + i] = W.getD (m + 1 + i) 0 by simp [List.getD, List.getElem?_eq_getElem ft]]
      rfl
theorem ct29 (x n : Int) : Ret Tryz.prog O 29 [.agg #[.slice aw nw cw, .int .i64 top, .slice ar nr cr], .int .i64 x, .int .i64 n] g fun v h' => v = .tuple #[.int .i64 (lookO (checkP W top R) W x n).1, .int .i64 (lookO (checkP W top R) W x n).2] ∧ Kp g.nx g h' := by
  refine rk29 (hO := hO _ _ _ (by decide)) (hh := ?_) ..
  unfold T29
  intro g1
  have S : Know g g1 [_] := (Know.nil ok).add _
  haveI := S.ft
  obtain ⟨v, h13, e13, rfl, k13⟩ := ct88 hO S.ok (A.to g1) x n (top := top)
  refine ⟨_, _, _, _, _, _, _, S.rd 0 rfl rfl rfl, _, _, e13, ?_⟩
  have S : Know g h13 [_] := S.call k13
  haveI := S.ft
  cases hf : checkP W top R with
  | none => exact vcond_t rfl ⟨rfl, S.kp⟩
  | some l =>
    cases hw : withinB W l x n with
    | false =>
      have e : lookO (some l) W x n = (0, 2) := if_neg (by rw [hw]; decide)
      rw [e]
      exact vcond_t (by show (!(withinB W l x n)) = true; rw [hw]; rfl) ⟨rfl, S.kp⟩
    | true =>
      have e : lookO (some l) W x n = (W.getD (x.toNat + 1 + n.toNat) 0, 0) := if_pos hw
      rw [e]
      obtain ⟨m, i, F⟩ := field_at hf hw
      obtain ⟨rfl, rfl, _, _, _, _, ft, wr⟩ := F
      rw [wr]
      refine vcond_f (by show (!(withinB W l (Int.ofNat m) (Int.ofNat i))) = false; rw [hw]; rfl) ⟨_, _, _, S.rd 0 rfl rfl rfl, isNat_i (A.sw.at_.rd (k := m + 1 + i) ft ⟨?_, S.kp⟩)⟩
      rw [show W[m + 1 + i] = W.getD (m + 1 + i) 0 by simp [List.getD, List.getElem?_eq_getElem ft]]
      rfl
end
end Go.Proofs.YtngcjpkccnfjiaaGreatDoor
/- Contracts: Write, of the code and of the reference. -/
namespace Go.Proofs.YtngcjpkccnfjiaaGreatDoor
set_option maxRecDepth 100000
open Go Go.Ev
theorem putAt_one (W : List Int) (i : Nat) (w : Int) (hi : i < W.length) : putAt (iv W) (0 + i * 1) [.int .i64 w] = iv (W.set i w) := by
  rw [show 0 + i * 1 = i by omega]
  exact putAt_map (Value.int .i64) hi
section
variable {O : CallF} (hO : Oth O) {g : Hp} (ok : g.Ok) {aw : Option Addr} {nw cw : Nat} {W : List Int} {top : Int} {ar : Option Addr} {nr cr : Nat} {R : List Int} (A : HA g aw nw cw W ar nr cr R)
include hO ok A
/-- 'Write'. -/
theorem ct26 (tb : Tb g) (x n : Int) {w : Int} (hw64 : In64 w) : Ret Tryz.prog O 26 [.agg #[.slice aw nw cw, .int .i64 top, .slice ar nr cr], .int .i64 x, .int .i64 n, .int .i64 w] g (QW g (writeO (checkP W top R) W top.toNat R x n w)) := by
  refine rk26 (hO := hO _ _ _ (by decide)) (hh := ?_) ..
  unfold T26
  have n0 : 0 < g.nx := by have := tb.1; omega
  intro g1 g2
  have S : Know g g1 [_] := (Know.nil ok).add _
  have S : Know g g2 [_, _] := S.add _
  haveI := S.ft
  obtain ⟨v, h14, e14, a9, n10, c11, x12, rfl, k14, hx⟩ := ct85 hO S.ok (A.to g2) (tb.kp S.kp n0) x n (top := top)
  refine ⟨_, _, _, _, _, _, _, S.rd 1 rfl rfl rfl, _, _, _, _, _, e14, ?_⟩
  have S : Know g h14 [_, _] := S.call k14
  haveI := S.ft
  have bad : ∀ h : Hp, Know g h [ob g1.nx (.cells [.slice none 0 0, .int .i64 0, .slice none 0 0] 24 .fix), ob g.nx (.cells [.slice aw nw cw, .int .i64 top, .slice ar nr cr] 24 .fix)] → vreq (canW h g1.nx 0 [.slice none 0 0, .int .i64 0, .slice none 0 0]) (let g27 : Hp := h.wr g1.nx 0 [.slice none 0 0, .int .i64 0, .slice none 0 0]
      ∃ a28' n29' c30', ∃ x31', ∃ a32' n33' c34', readAt g27 g1.nx 0 3 = some [(.slice a28' n29' c30'), (.int .i64 x31'), (.slice a32' n33' c34')] ∧ QW g ⟨[], 0, [], 2⟩ (.tuple #[(.agg #[(.slice a28' n29' c30'), (.int .i64 x31'), (.slice a32' n33' c34')]), (.int .i64 2)]) g27) := by
    intro h S
    refine vreq_t (S.cw 0 rfl (by decide) rfl rfl) ?_
    intro g27
    have S : Know g g27 [_, _] := S.wr 0 rfl (by decide) rfl rfl
    exact ⟨_, _, _, _, _, _, _, S.rd 0 rfl rfl rfl, _, rfl, HK.zero S 2⟩
  cases hf : checkP W top R with
  | none =>
    rw [hf] at hx
    have hx : x12 = 2 := hx
    subst hx
    exact vcond_f rfl (vcond_t rfl (bad _ S))
  | some l =>
    rw [hf] at hx
    obtain ⟨B, hx⟩ := hx
    obtain ⟨f1, f2, f3, f4, f5, f6, f7, f8, f9⟩ := checkP_cells hf
    have hm := (cellsR_mem (cellsG_R f7)).2
    have hl : ∀ x ∈ l, x < W.length := fun x hx => by have := hm x hx; omega
    cases hw : withinB W l x n with
    | false =>
      have e : writeO (some l) W top.toNat R x n w = ⟨[], 0, [], 2⟩ := if_neg (by rw [hw, Bool.false_and]; decide)
      rw [e]
      rw [hw] at hx
      have hx : x12 = 2 := hx
      subst hx
      exact vcond_f rfl (vcond_t rfl (bad _ S))
    | true =>
      rw [hw] at hx
      have hx : x12 = 0 := hx
      subst hx
      obtain ⟨m, i, F⟩ := field_at hf hw
      obtain ⟨rfl, rfl, hml, mlt, _, _, ft, wr⟩ := F
      refine vcond_t rfl ⟨_, _, _, S.rd 1 rfl rfl rfl, isNat_i (A.sw.at_.rd (k := m) mlt (ct86 hO S.ok (A.w _ (List.getElem_mem mlt)) fun h24 k24 => ?_))⟩
      haveI : Ft h14 h24 := k24.ex (Nat.le_refl _)
      have S : Know g h24 [_, _] := S.call k24
      refine ⟨_, _, ct78 hO (B.to h24) hw64, ?_⟩
      rw [show W[m] = W.getD m 0 by simp [List.getD, List.getElem?_eq_getElem mlt], field_RB hl f1]
      cases hfl : fieldR l (hdK (W.getD m 0)) w with
      | false =>
        have e : writeO (some l) W top.toNat R (Int.ofNat m) (Int.ofNat i) w = ⟨[], 0, [], 2⟩ := if_neg (by rw [show (Int.ofNat m).toNat = m from rfl, hfl, Bool.and_false]; decide)
        rw [e]
        exact vcond_t rfl (bad _ S)
      | true =>
        have e : writeO (some l) W top.toNat R (Int.ofNat m) (Int.ofNat i) w = ⟨W.set (m + 1 + i) w, top.toNat, R, 0⟩ := if_pos (by rw [show (Int.ofNat m).toNat = m from rfl, hfl, hw]; rfl)
        rw [e]
        obtain ⟨tp, rfl⟩ : ∃ m : Nat, top = Int.ofNat m := Int.eq_ofNat_of_zero_le (by omega)
        haveI := S.ft
        obtain ⟨v, h57, e57, oW, ar', nr', cr', lo, rfl, hlo, T⟩ := ct87 hO S.ok (A.to h24) (fun h => by rw [h] at f1; simp at f1) (by omega) (by omega) (top := Int.ofNat tp)
        refine vcond_f rfl (vcond_f rfl ⟨_, _, _, _, _, _, _, S.rd 1 rfl rfl rfl, _, _, _, _, _, _, _, _, e57, ?_⟩)
        have S : Know g h57 [_, _, _, _] := S.comp T
        intro g58
        have S : Know g g58 [_, _, _, _, _] := S.add _
        refine vreq_t (S.cw 0 rfl (by decide) rfl rfl) ?_
        intro g59
        have S : Know g g59 [_, _, _, _, _] := S.wr 0 rfl (by decide) rfl rfl
        rw [wr]
        have hb : Nat.ble (0 + (m + 1 + i) * 1 + [Value.int .i64 w].length) (iv W).length = true := ble_t (by rw [List.length_map]; show 0 + (m + 1 + i) * 1 + 1 ≤ _; omega)
        refine ⟨_, _, _, S.rd 0 rfl rfl rfl, isNat_i (isAddr_i (vreq_t (blt_t ft) (vreq_t (S.cw 1 rfl (by decide) hb rfl) ?_)))⟩
        intro g66
        have S : Know g g66 [_, _, _, _, _] := S.wr 1 rfl (by decide) hb rfl
        rw [putAt_one W _ w ft] at S
        refine ⟨_, _, _, _, _, _, _, S.rd 0 rfl rfl rfl, vreq_t (S.cw 3 rfl (by decide) rfl rfl) ?_⟩
        intro g74
        have S : Know g g74 [_, _, _, _, _] := S.wr 3 rfl (by decide) rfl rfl
        have S' : Know g g74 [_, _, _, _, _] := Know.obSlr S 1 rfl (cw := unk) (.inr ⟨rfl, rfl⟩) (by rw [List.length_set]; omega)
        rw [List.length_set] at S'
        have S' : Know g g74 [_, _, _, _, _] := Know.accSlr S' 2 rfl (by omega)
        exact ⟨_, _, _, _, _, _, _, S.rd 3 rfl rfl rfl, _, rfl, _, _, _, _, _, _, rfl, S'.sel [1, 2] (by decide) rfl⟩
/-- 'Write' of the reference. -/
theorem ct27 (x n : Int) {w : Int} (hw64 : In64 w) : Ret Tryz.prog O 27 [.agg #[.slice aw nw cw, .int .i64 top, .slice ar nr cr], .int .i64 x, .int .i64 n, .int .i64 w] g (QW g (writeO (checkP W top R) W top.toNat R x n w)) := by
  refine rk27 (hO := hO _ _ _ (by decide)) (hh := ?_) ..
  unfold T27
  intro g1 g2
  have S : Know g g1 [_] := (Know.nil ok).add _
  have S : Know g g2 [_, _] := S.add _
  haveI := S.ft
  obtain ⟨v, h14, e14, rfl, k14⟩ := ct88 hO S.ok (A.to g2) x n (top := top)
  refine ⟨_, _, _, _, _, _, _, S.rd 1 rfl rfl rfl, _, _, e14, ?_⟩
  have S : Know g h14 [_, _] := S.call k14
  haveI := S.ft
  have bad : ∀ (h : Hp) (L : List Rs) (j : Nat), Know g h L → L[j]? = some (ob g1.nx (.cells [.slice none 0 0, .int .i64 0, .slice none 0 0] 24 .fix)) → vreq (canW h g1.nx 0 [.slice none 0 0, .int .i64 0, .slice none 0 0]) (let g27 : Hp := h.wr g1.nx 0 [.slice none 0 0, .int .i64 0, .slice none 0 0]
      ∃ a28' n29' c30', ∃ x31', ∃ a32' n33' c34', readAt g27 g1.nx 0 3 = some [(.slice a28' n29' c30'), (.int .i64 x31'), (.slice a32' n33' c34')] ∧ QW g ⟨[], 0, [], 2⟩ (.tuple #[(.agg #[(.slice a28' n29' c30'), (.int .i64 x31'), (.slice a32' n33' c34')]), (.int .i64 2)]) g27) := by
    intro h L j S hj
    refine vreq_t (S.cw j hj (by decide) rfl rfl) ?_
    intro g27
    have S1 : Know g g27 _ := S.wr j hj (by decide) rfl rfl
    exact ⟨_, _, _, _, _, _, _, S1.rd j (List.getElem?_set_self (S.len hj)) rfl rfl, _, rfl, HK.zero S1 2⟩
  cases hf : checkP W top R with
  | none => exact vcond_t rfl (bad _ _ 0 S rfl)
  | some l =>
    obtain ⟨f1, f2, f3, f4, f5, f6, f7, f8, f9⟩ := checkP_cells hf
    have hm := (cellsR_mem (cellsG_R f7)).2
    have ll : l.length < 1000000 := by have := cellsG_total f7; have := length_total W l; omega
    cases hw : withinB W l x n with
    | false =>
      have e : writeO (some l) W top.toNat R x n w = ⟨[], 0, [], 2⟩ := if_neg (by rw [hw, Bool.false_and]; decide)
      rw [e]
      exact vcond_t (by show (!(withinB W l x n)) = true; rw [hw]; rfl) (bad _ _ 0 S rfl)
    | true =>
      obtain ⟨m, i, F⟩ := field_at hf hw
      obtain ⟨rfl, rfl, hml, mlt, _, _, ft, wr⟩ := F
      obtain ⟨tp, rfl⟩ : ∃ m : Nat, top = Int.ofNat m := Int.eq_ofNat_of_zero_le (by omega)
      refine vcond_f (by show (!(withinB W l (Int.ofNat m) (Int.ofNat i))) = false; rw [hw]; rfl) ⟨_, _, _, _, _, _, _, S.rd 1 rfl rfl rfl, ct66 hO S.ok (A.sw.at_.to h14) A.w (Int.ofNat_le.1 f3) (Int.ofNat_le.1 f4) (by omega) (fun a n c h' k' hc => ?_) fun l' a n c h31 hc k31 A31 => ?_⟩
      · rw [show cellsR W tp (tp + 1) 1 = some l from cellsG_R f7] at hc; cases hc
      · have : l' = l := by
          have h : cellsR W tp (tp + 1) 1 = some l := cellsG_R f7
          rw [hc] at h
          exact Option.some.inj h
        subst this
        have S : Know g h31 [_, _] := S.call k31
        haveI := S.ft
        refine ⟨_, _, _, S.rd 1 rfl rfl rfl, isNat_i (A.sw.at_.rd (k := m) mlt ⟨_, _, ct90 hO _ h31, _, _, ct89 hO A31.ints ll hw64, ?_⟩)⟩
        rw [show W[m] = W.getD m 0 by simp [List.getD, List.getElem?_eq_getElem mlt]]
        cases hfl : fieldR l' (hdK (W.getD m 0)) w with
        | false =>
          have e : writeO (some l') W (Int.ofNat tp).toNat R (Int.ofNat m) (Int.ofNat i) w = ⟨[], 0, [], 2⟩ := if_neg (by rw [show (Int.ofNat m).toNat = m from rfl, hfl, Bool.and_false]; decide)
          rw [e]
          exact vcond_t rfl (bad _ _ 0 S rfl)
        | true =>
          have e : writeO (some l') W (Int.ofNat tp).toNat R (Int.ofNat m) (Int.ofNat i) w = ⟨W.set (m + 1 + i) w, tp, R, 0⟩ := if_pos (by rw [show (Int.ofNat m).toNat = m from rfl, hfl, hw]; rfl)
          rw [e]
          obtain ⟨v, h57, e57, oW, ar', nr', cr', lo, rfl, hlo, T⟩ := ct91 hO S.ok (A.to h31) (fun h => by rw [h] at f1; simp at f1) (by omega) (by omega) (top := Int.ofNat tp)
          refine vcond_f rfl ⟨_, _, _, _, _, _, _, S.rd 1 rfl rfl rfl, _, _, _, _, _, _, _, _, e57, ?_⟩
          have S : Know g h57 [_, _, _, _] := S.comp T
          intro g58
          have S : Know g g58 [_, _, _, _, _] := S.add _
          refine vreq_t (S.cw 0 rfl (by decide) rfl rfl) ?_
          intro g59
          have S : Know g g59 [_, _, _, _, _] := S.wr 0 rfl (by decide) rfl rfl
          rw [wr]
          have hb : Nat.ble (0 + (m + 1 + i) * 1 + [Value.int .i64 w].length) (iv W).length = true := ble_t (by rw [List.length_map]; show 0 + (m + 1 + i) * 1 + 1 ≤ _; omega)
          refine ⟨_, _, _, S.rd 0 rfl rfl rfl, isNat_i (isAddr_i (vreq_t (blt_t ft) (vreq_t (S.cw 1 rfl (by decide) hb rfl) ?_)))⟩
          intro g66
          have S : Know g g66 [_, _, _, _, _] := S.wr 1 rfl (by decide) hb rfl
          rw [putAt_one W _ w ft] at S
          refine ⟨_, _, _, _, _, _, _, S.rd 0 rfl rfl rfl, vreq_t (S.cw 3 rfl (by decide) rfl rfl) ?_⟩
          intro g74
          have S : Know g g74 [_, _, _, _, _] := S.wr 3 rfl (by decide) rfl rfl
          have S' : Know g g74 [_, _, _, _, _] := Know.obSlr S 1 rfl (cw := unk) (.inr ⟨rfl, rfl⟩) (by rw [List.length_set]; omega)
          rw [List.length_set] at S'
          have S' : Know g g74 [_, _, _, _, _] := Know.accSlr S' 2 rfl (by omega)
          exact ⟨_, _, _, _, _, _, _, S.rd 3 rfl rfl rfl, _, rfl, _, _, _, _, _, _, rfl, S'.sel [1, 2] (by decide) rfl⟩
end
end Go.Proofs.YtngcjpkccnfjiaaGreatDoor
/- CollectMakes: its law. -/
namespace Go.Proofs.YtngcjpkccnfjiaaGreatDoor
set_option maxRecDepth 100000
open Go Go.Ev
theorem alloc_run {W : List Int} {top : Int} {R : List Int} (k : Int) (xs : List Int) : ∃ s f, ∀ l, checkP W top R = some l → fieldsR l k xs = true → (runO W 1 R (if refB k then xs else []) = some (s, R.map (mvw W 1 s.ord), (if refB k then xs else []).map (mvw W 1 s.ord)) ∧ s.top ≤ 1000 ∧ s.D.length = W.length) ∧ reachO W 1 f 0 (withP 1 (R ++ (if refB k then xs else [])) []) = some s.ord ∧ colD W 1 l s.ord = s.D ∧ 1 + totalW W s.ord = s.top ∧ (∀ p ∈ s.ord, CellAt W p) ∧ 1 + totalW W s.ord ≤ W.length := by
  cases hc : checkP W top R with
  | none => exact ⟨startM W 1, 0, fun l h => by cases h⟩
  | some l =>
    cases hgf : fieldsR l k xs with
    | false =>
      refine ⟨startM W 1, 0, fun l' h h2 => ?_⟩
      obtain rfl := Option.some.inj h
      rw [hgf] at h2; cases h2
    | true =>
      obtain ⟨f1, f2, _⟩ := checkP_cells hc
      obtain ⟨C, hR⟩ := col_of hc
      have hM : ∀ w ∈ (if refB k then xs else []), Vw l w := by
        intro w hw
        cases hk : refB k with
        | false => rw [hk] at hw; cases hw
        | true =>
          rw [hk, if_pos rfl] at hw
          unfold fieldsR at hgf
          split at hgf
          · cases hgf
          · have := List.all_eq_true.1 hgf w hw
            unfold fieldR at this
            rw [if_neg (fun h => by rw [h] at hk; cases hk), if_neg (fun h => by rw [h] at hk; cases hk)] at this
            exact Vw.of this
      obtain ⟨s, h1, h2, h3⟩ := run_all C f1 (by omega) hR hM
      refine ⟨s, W.length + 2, fun l' h _ => ?_⟩
      obtain rfl := Option.some.inj h
      obtain ⟨a, b, c, d⟩ := laid_run hc h3
      exact ⟨⟨h1, by omega, by rw [← a, colD_length]⟩, h2, a, b, c, d⟩
theorem allocO_len {c : Option (List Nat)} {W : List Int} {top : Nat} {R : List Int} {k : Int} {xs : List Int} {s : Mv} (hW : W.length < 1000000) (hR : R.length < 1000000) (hs : ∀ l, c = some l → fieldsR l k xs = true → s.D.length = W.length) : (allocO c W top R k xs s).1.W.length < 1000000 ∧ (allocO c W top R k xs s).1.R.length < 1000000 := by
  cases c with
  | none => exact ⟨by show 0 < _; decide, by show 0 < _; decide⟩
  | some l =>
    cases hf : fieldsR l k xs with
    | false =>
      have e : allocO (some l) W top R k xs s = (⟨[], 0, [], 2⟩, 0) := if_neg (by rw [hf]; decide)
      rw [e]
      exact ⟨by show 0 < _; decide, by show 0 < _; decide⟩
    | true =>
      have hs := hs l rfl hf
      generalize hr : roomC W top R (if refB k then xs else []) (1 + xs.length) s = r
      have hrW : r.W.length < 1000000 ∧ r.R.length < 1000000 := by
        rw [← hr]; unfold roomC
        split
        · exact ⟨hW, hR⟩
        · exact ⟨by show s.D.length < _; omega, by show (R.map _).length < _; rw [List.length_map]; exact hR⟩
      cases hi : r.is with
      | false =>
        have e : allocO (some l) W top R k xs s = (⟨[], 0, [], 3⟩, 0) := by
          show (if fieldsR l k xs = true then _ else _) = _
          rw [if_pos hf, hr, if_neg (by rw [hi]; decide)]
        rw [e]
        exact ⟨by show 0 < _; decide, by show 0 < _; decide⟩
      | true =>
        have e : allocO (some l) W top R k xs s = (⟨layP r.W r.top k (if refB k then r.l else xs), r.top + 1 + xs.length, r.R, 0⟩, 2 * (r.top : Int)) := by
          show (if fieldsR l k xs = true then _ else _) = _
          rw [if_pos hf, hr, if_pos hi]
        rw [e]
        exact ⟨by show (layP _ _ _ _).length < _; rw [layP_length]; exact hrW.1, hrW.2⟩
theorem writeO_len {c : Option (List Nat)} {W : List Int} {top : Nat} {R : List Int} {x n w : Int} (hW : W.length < 1000000) (hR : R.length < 1000000) : (writeO c W top R x n w).W.length < 1000000 ∧ (writeO c W top R x n w).R.length < 1000000 := by
  cases c with
  | none => exact ⟨by show 0 < _; decide, by show 0 < _; decide⟩
  | some l =>
    unfold writeO
    show (if _ then _ else _ : Out).W.length < _ ∧ (if _ then _ else _ : Out).R.length < _
    split
    · exact ⟨by show (W.set _ _).length < _; rw [List.length_set]; exact hW, hR⟩
    · exact ⟨by show 0 < _; decide, by show 0 < _; decide⟩
abbrev Yes4 : Value → Hp → Prop := fun v _ => v = .bool true
theorem law4 {h : Hp} {aw : Option Addr} {nw cw : Nat} {W : List Int} {top : Int} {ar : Option Addr} {nr cr : Nat} {R : List Int} (ok : h.Ok) (ht : Tb h) (A : HA h aw nw cw W ar nr cr R) (k : Int) {a2 : Option Addr} {n2 c2 : Nat} {xs : List Int} (X : IntsAt h a2 n2 xs) (hX : ∀ x ∈ xs, In64 x) (x n : Int) {w : Int} (hw : In64 w) :
    Ret Tryz.prog Ow 4 [.agg #[.slice aw nw cw, .int .i64 top, .slice ar nr cr], .int .i64 k, .slice a2 n2 c2, .int .i64 x, .int .i64 n, .int .i64 w] h Yes4 := by
  have hO : Oth Ow := Ow_oth
  have n0 : 0 < h.nx := by have := ht.1; omega
  refine rk4 (hO := hO _ _ _ (by decide)) (hh := ?_) ..
  unfold T4
  intro g1
  have S : Know h g1 [_] := (Know.nil ok).add _
  obtain ⟨v, h10, e10, rfl, k10⟩ := ct13 hO (g := g1) (top := top) (aw := aw) (cw := cw) (ar := ar) (cr := cr) A.sw.at_.1 A.sr.at_.1 a2 n2 c2
  have S : Know h h10 [_] := S.call k10
  refine ⟨_, _, _, _, _, _, _, (Know.rd (by assumption) 0 rfl rfl rfl), _, _, e10, vcond_split (fun hl => ⟨_, _, works_true (ht.kp S.kp n0), rfl⟩) fun hl => ?_⟩
  have hl0 : W.length ≤ 250 ∧ R.length ≤ 40 ∧ xs.length ≤ 40 := by
    unfold largeB at hl
    simp only [Bool.or_eq_false_iff, decide_eq_false_iff_not] at hl
    have := X.1
    omega
  obtain ⟨s, f, hr⟩ := alloc_run (W := W) (top := top) (R := R) k xs
  haveI := S.ft
  obtain ⟨v, h29, e29, u, rfl, aw1, nw1, cw1, ar1, nr1, cr1, rfl, T⟩ := ct24 hO S.ok (A.to h10) (ht.kp S.kp n0) (top := top) (k := k) (c2 := c2) (X.to h10) hX (by omega) fun l hl hf _ => (hr l hl hf).1
  have e24 := allocO_len (c := checkP W top R) (W := W) (top := top.toNat) (R := R) (k := k) (xs := xs) (s := s) (by omega) (by omega) fun l hl hf => (hr l hl hf).1.2.2
  refine ⟨_, _, _, _, _, _, _, S.rd 0 rfl rfl rfl, _, _, _, _, _, _, _, _, _, _, e29, ?_⟩
  have S : Know h h29 [_, _, _] := S.comp T
  intro g30
  have S : Know h g30 [_, _, _, _] := S.add _
  refine vreq_t (S.cw 0 rfl (by decide) rfl rfl) ?_
  intro g31
  have S : Know h g31 [_, _, _, _] := S.wr 0 rfl (by decide) rfl rfl
  haveI := S.ft
  obtain ⟨v, h48, e48, u, rfl, aw2, nw2, cw2, ar2, nr2, cr2, rfl, T⟩ := ct25 hO S.ok (A.to g31) (top := top) (k := k) (c2 := c2) (X.to g31) hX (by omega) (s := s) (f := f) fun l hl hf _ => (hr l hl hf).2
  refine ⟨_, _, _, _, _, _, _, S.rd 3 rfl rfl rfl, _, _, _, _, _, _, _, _, _, _, e48, ?_⟩
  have S : Know h h48 [_, _, _, _, _, _] := S.comp T
  intro g49
  have S : Know h g49 [_, _, _, _, _, _, _] := S.add _
  refine vreq_t (S.cw 0 rfl (by decide) rfl rfl) ?_
  intro g50
  have S : Know h g50 [_, _, _, _, _, _, _] := S.wr 0 rfl (by decide) rfl rfl
  have i1 : SI g50 aw1 nw1 cw1 _ := S.get 4 rfl
  have i2 : SI g50 ar1 nr1 cr1 _ := S.get 5 rfl
  have i3 : SI g50 aw2 nw2 cw2 _ := S.get 1 rfl
  have i4 : SI g50 ar2 nr2 cr2 _ := S.get 2 rfl
  obtain ⟨v, h66, e66, rfl, k66⟩ := ct19 hO (g := g50) (t := Int.ofNat (allocO (checkP W top R) W top.toNat R k xs s).1.top) (c12 := cw1) (c16 := cr1) (c30 := cw2) (c34 := cr2) i1.at_ i2.at_ i3.at_ i4.at_ e24.1 e24.2
  refine ⟨_, _, _, _, _, _, _, S.rd 3 rfl rfl rfl, _, _, _, _, _, _, _, S.rd 0 rfl rfl rfl, _, _, e66, vcond_f rfl (vcond_f (by rw [eqI_t rfl]; rfl) (vcond_f (by rw [eqI_t rfl]; rfl) ?_))⟩
  have S : Know h h66 [_, _, _, _, _, _, _] := S.call k66
  haveI := S.ft
  obtain ⟨v, h82, e82, u, rfl, aw3, nw3, cw3, ar3, nr3, cr3, rfl, T⟩ := ct26 hO S.ok (A.to h66) (ht.kp S.kp n0) x n hw (top := top)
  have ew := writeO_len (c := checkP W top R) (W := W) (top := top.toNat) (R := R) (x := x) (n := n) (w := w) (by omega) (by omega)
  refine ⟨_, _, _, _, _, _, _, S.rd 6 rfl rfl rfl, _, _, _, _, _, _, _, _, _, e82, ?_⟩
  have S : Know h h82 [_, _, _, _, _, _, _, _, _] := S.comp T
  refine vreq_t (S.cw 5 rfl (by decide) rfl rfl) ?_
  intro g83
  have S : Know h g83 [_, _, _, _, _, _, _, _, _] := S.wr 5 rfl (by decide) rfl rfl
  haveI := S.ft
  obtain ⟨v, h99, e99, u, rfl, aw4, nw4, cw4, ar4, nr4, cr4, rfl, T⟩ := ct27 hO S.ok (A.to g83) x n hw (top := top)
  refine ⟨_, _, _, _, _, _, _, S.rd 8 rfl rfl rfl, _, _, _, _, _, _, _, _, _, e99, ?_⟩
  have S : Know h h99 [_, _, _, _, _, _, _, _, _, _, _] := S.comp T
  refine vreq_t (S.cw 4 rfl (by decide) rfl rfl) ?_
  intro g100
  have S : Know h g100 [_, _, _, _, _, _, _, _, _, _, _] := S.wr 4 rfl (by decide) rfl rfl
  haveI := S.ft
  obtain ⟨v, h110, e110, rfl, k110⟩ := ct28 hO S.ok (A.to g100) (ht.kp S.kp n0) x n (top := top)
  refine ⟨_, _, _, _, _, _, _, S.rd 10 rfl rfl rfl, _, _, _, e110, ?_⟩
  have S : Know h h110 [_, _, _, _, _, _, _, _, _, _, _] := S.call k110
  haveI := S.ft
  obtain ⟨v, h120, e120, rfl, k120⟩ := ct29 hO S.ok (A.to h110) x n (top := top)
  refine ⟨_, _, _, _, _, _, _, S.rd 10 rfl rfl rfl, _, _, _, e120, ?_⟩
  have S : Know h h120 [_, _, _, _, _, _, _, _, _, _, _] := S.call k120
  have i1 : SI h120 aw3 nw3 cw3 _ := S.get 2 rfl
  have i2 : SI h120 ar3 nr3 cr3 _ := S.get 3 rfl
  have i3 : SI h120 aw4 nw4 cw4 _ := S.get 0 rfl
  have i4 : SI h120 ar4 nr4 cr4 _ := S.get 1 rfl
  obtain ⟨v, h136, e136, rfl, k136⟩ := ct19 hO (g := h120) (t := Int.ofNat (writeO (checkP W top R) W top.toNat R x n w).top) (c12 := cw3) (c16 := cr3) (c30 := cw4) (c34 := cr4) i1.at_ i2.at_ i3.at_ i4.at_ ew.1 ew.2
  refine ⟨_, _, _, _, _, _, _, S.rd 7 rfl rfl rfl, _, _, _, _, _, _, _, S.rd 4 rfl rfl rfl, _, _, e136, vcond_t rfl (vcond_t (eqI_t rfl) (vcond_t (eqI_t rfl) (vcond_t (eqI_t rfl) ?_)))⟩
  have S : Know h h136 [_, _, _, _, _, _, _, _, _, _, _] := S.call k136
  exact ⟨_, _, works_true (ht.kp S.kp n0), rfl⟩
end Go.Proofs.YtngcjpkccnfjiaaGreatDoor
