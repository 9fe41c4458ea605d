/- Conditions of functions' code, printed by a program of ours. -/
import Derived.Test.YtfgfhplgnfbaaaaDoorProg
import Derived.Test.YtfgfhplgnfbaaaaDoorYC
import Derived.KernelRfl
import Derived.Test.YtfgfhplgnfbaaaaDoorYF
import Derived.Test.YtfgfhplgnfbaaaaDoorYE
import Derived.Test.YtfgfhplgnfbaaaaDoorYD
namespace Go.Proofs.YtfgfhplgnfbaaaaDoor
open Go Go.Ev
set_option maxRecDepth 100000
set_option linter.unusedVariables false
/-! slices.Delete[[]int,int] -/
noncomputable def b59 : Code := (Tryd.f59.body).getD .skip
def lv59 : List (Nat × List Nat) := []
def T59 (O : CallF) (Q : Value → Hp → Prop) (a0 : Option Addr) (n0 : Nat) (c0 : Nat) (x1 : Int) (x2 : Int) (h : Hp) : Prop :=
  ∃ a1' n2' c3', sliceV Tryd.prog h 32 (.slice a0 n0 c0) (some (.int .i64 x1)) (some (.int .i64 x2)) (some (.int .i64 (Int.ofNat n0))) = some (.slice a1' n2' c3') ∧
  vcond (eqI x1 x2)
  (Q (.slice a0 n0 c0) h)
  (let g4 : Hp := h.rsv 8
  ∃ a5' n6' c7', sliceV Tryd.prog g4 32 (.slice a0 n0 c0) none (some (.int .i64 x1)) none = some (.slice a5' n6' c7') ∧
  ∃ a8' n9' c10', sliceV Tryd.prog g4 32 (.slice a0 n0 c0) (some (.int .i64 x2)) none none = some (.slice a8' n9' c10') ∧
  ∃ a11' n12' c13' h14', appendV Tryd.prog (g4.grd []) 32 32 (.slice a5' n6' c7') (.slice a8' n9' c10') = some (.slice a11' n12' c13', h14') ∧
  let g15 : Hp := h14'.rst g4
  ∃ a16' n17' c18', sliceV Tryd.prog g15 32 (.slice a11' n12' c13') (some (.int .i64 (Int.ofNat n12'))) (some (.int .i64 (Int.ofNat n0))) none = some (.slice a16' n17' c18') ∧
  ∃ h19', clearV Tryd.prog g15 32 (.slice a16' n17' c18') = some (undef, h19') ∧
  Q (.slice a11' n12' c13') h19')
theorem rk59 {O Q} (a0 n0 c0 x1 x2) {h : Hp} (hO : O 59 [(.slice a0 n0 c0), (.int .i64 x1), (.int .i64 x2)] h = none) (hh : T59 O Q a0 n0 c0 x1 x2 h) : Ret Tryd.prog O 59 [(.slice a0 n0 c0), (.int .i64 x1), (.int .i64 x2)] h Q :=
  .of (c := b59) Tryd.func59 (by kernel_rfl) hO (V_ok (tb := lv59) (cuts := []) 500 (Eq.mp (by kernel_rfl) hh))
/-! sward/sat.needed -/
noncomputable def b97 : Code := (Tryd.f97.body).getD .skip
noncomputable def stk97_0 : List KI := [.code (sub [1, 1, 0, 1, 0] b97), .blk 0, .code (sub [1, 1, 1] b97)]
def lv97 : List (Nat × List Nat) := [(0, [1, 4, 5, 6])]
def I97_0 (O : CallF) (Q : Value → Hp → Prop) (a0 : Option Addr) (n0 : Nat) (c0 : Nat) (g1 : Nat) (fi1 : Array Value) (ca1 : Array Value) (g1s : Nat) (fi1s : Array Value) (ca1s : Array Value) (a5 : Option Addr) (n5 : Nat) (c5 : Nat) (x6 : Int) (h : Hp) : Prop := RKL Tryd.prog O Tryd.f97 stk97_0 28 [1, 4, 5, 6] [(.func (.func g1s) fi1s ca1s), (.slice none 0 0), (.slice a5 n5 c5), (.int .i64 x6)] h Q
def T97 (O : CallF) (Q : Value → Hp → Prop) (a0 : Option Addr) (n0 : Nat) (c0 : Nat) (g1 : Nat) (fi1 : Array Value) (ca1 : Array Value) (h : Hp) : Prop :=
  ∃ a1' n2' c3', ∃ h4', EvC Tryd.prog O 60 [(.slice a0 n0 c0)] h (.slice a1' n2' c3') h4' ∧
  I97_0 O Q a0 n0 c0 g1 fi1 ca1 g1 fi1 ca1 a1' n2' c3' (wrapF .i64 ((Int.ofNat n2') - 1)) h4'
theorem rk97 {O Q} (a0 n0 c0 g1 fi1 ca1) {h : Hp} (hO : O 97 [(.slice a0 n0 c0), (.func (.func g1) fi1 ca1)] h = none) (hh : T97 O Q a0 n0 c0 g1 fi1 ca1 h) : Ret Tryd.prog O 97 [(.slice a0 n0 c0), (.func (.func g1) fi1 ca1)] h Q :=
  .of (c := b97) Tryd.func97 (by kernel_rfl) hO (V_ok (tb := lv97) (cuts := []) 500 (Eq.mp (by kernel_rfl) hh))
def T97_0 (O : CallF) (Q : Value → Hp → Prop) (a0 : Option Addr) (n0 : Nat) (c0 : Nat) (g1 : Nat) (fi1 : Array Value) (ca1 : Array Value) (g1s : Nat) (fi1s : Array Value) (ca1s : Array Value) (a5 : Option Addr) (n5 : Nat) (c5 : Nat) (x6 : Int) (h : Hp) : Prop :=
  vcond (!(ltI x6 0))
  (∃ a101' n102' c103', ∃ h104', EvC Tryd.prog O 60 [(.slice a5 n5 c5)] h (.slice a101' n102' c103') h104' ∧
  ∃ a105' n106' c107', ∃ h108', EvC Tryd.prog O 59 [(.slice a101' n102' c103'), (.int .i64 x6), (.int .i64 (wrapF .i64 (x6 + 1)))] h104' (.slice a105' n106' c107') h108' ∧
  ∃ q109', ∃ h110', EvC Tryd.prog O g1s (fi1s.toList ++ [(.slice a105' n106' c107')] ++ ca1s.toList) h108' (.bool q109') h110' ∧
  vcond q109'
  (I97_0 O Q a0 n0 c0 g1 fi1 ca1 g1s fi1s ca1s a105' n106' c107' (wrapF .i64 (x6 - 1)) h110')
  (I97_0 O Q a0 n0 c0 g1 fi1 ca1 g1s fi1s ca1s a5 n5 c5 (wrapF .i64 (x6 - 1)) h110'))
  (Q (.slice a5 n5 c5) h)
theorem I97_0.of {O Q} (a0 n0 c0 g1 fi1 ca1 g1s fi1s ca1s a5 n5 c5 x6) {h : Hp} (hh : T97_0 O Q a0 n0 c0 g1 fi1 ca1 g1s fi1s ca1s a5 n5 c5 x6 h) : I97_0 O Q a0 n0 c0 g1 fi1 ca1 g1s fi1s ca1s a5 n5 c5 x6 h :=
  RKL.of (tb := lv97) (cuts := []) 500 fun _ => Eq.mp (by kernel_rfl) hh
/-! slices.Clip[[]int,int] -/
noncomputable def b110 : Code := (Tryd.f110.body).getD .skip
def lv110 : List (Nat × List Nat) := []
def T110 (O : CallF) (Q : Value → Hp → Prop) (a0 : Option Addr) (n0 : Nat) (c0 : Nat) (h : Hp) : Prop :=
  ∃ a1' n2' c3', sliceV Tryd.prog h 32 (.slice a0 n0 c0) none (some (.int .i64 (Int.ofNat n0))) (some (.int .i64 (Int.ofNat n0))) = some (.slice a1' n2' c3') ∧
  Q (.slice a1' n2' c3') h
theorem rk110 {O Q} (a0 n0 c0) {h : Hp} (hO : O 110 [(.slice a0 n0 c0)] h = none) (hh : T110 O Q a0 n0 c0 h) : Ret Tryd.prog O 110 [(.slice a0 n0 c0)] h Q :=
  .of (c := b110) Tryd.func110 (by kernel_rfl) hO (V_ok (tb := lv110) (cuts := []) 500 (Eq.mp (by kernel_rfl) hh))
/-! (*sward/sat.base).line -/
noncomputable def b137 : Code := (Tryd.f137.body).getD .skip
def lv137 : List (Nat × List Nat) := []
def T137 (O : CallF) (Q : Value → Hp → Prop) (b0 : Nat) (f0 : Nat) (a1 : Option Addr) (n1 : Nat) (c1 : Nat) (h : Hp) : Prop :=
  ∃ a1' n2' c3', readAt h b0 (f0 + 4) 1 = some [(.slice a1' n2' c3')] ∧
  let g4 : Hp := h.add (.cells [(.slice a1 n1 c1)] 32 .fix)
  ∃ a5' n6' c7' h8', appendV Tryd.prog g4 28 28 (.slice a1' n2' c3') (.slice (some ⟨h.nx, 0, none⟩) 1 1) = some (.slice a5' n6' c7', h8') ∧
  vreq (canW h8' b0 (f0 + 4) [(.slice a5' n6' c7')])
  (let g9 : Hp := h8'.wr b0 (f0 + 4) [(.slice a5' n6' c7')]
  Q (.slice a1 n1 c1) g9)
theorem rk137 {O Q} (b0 f0 a1 n1 c1) {h : Hp} (hO : O 137 [(.pointer (some ⟨b0, f0, none⟩)), (.slice a1 n1 c1)] h = none) (hh : T137 O Q b0 f0 a1 n1 c1 h) : Ret Tryd.prog O 137 [(.pointer (some ⟨b0, f0, none⟩)), (.slice a1 n1 c1)] h Q :=
  .of (c := b137) Tryd.func137 (by kernel_rfl) hO (V_ok (tb := lv137) (cuts := []) 500 (Eq.mp (by kernel_rfl) hh))
/-! (*sward/sat.base).search -/
noncomputable def b117 : Code := (Tryd.f117.body).getD .skip
noncomputable def stk117_0 : List KI := [.code (sub [1, 1, 1, 1, 1, 1, 1, 1, 1, 0, 1, 0] b117), .blk 0, .code (sub [1, 1, 1, 1, 1, 1, 1, 1, 1, 1] b117)]
def lv117 : List (Nat × List Nat) := [(0, [0, 1, 4, 5, 6, 7, 10, 11, 69, 70, 71])]
def I117_0 (O : CallF) (Q : Value → Hp → Prop) (b0 : Nat) (f0 : Nat) (a1 : Option Addr) (n1 : Nat) (c1 : Nat) (b4 : Nat) (f4 : Nat) (a5 : Option Addr) (n5 : Nat) (c5 : Nat) (x6 : Int) (b7 : Nat) (f7 : Nat) (x10 : Int) (a11 : Option Addr) (n11 : Nat) (c11 : Nat) (a69 : Option Addr) (n69 : Nat) (c69 : Nat) (x71 : Int) (h : Hp) : Prop := RKL Tryd.prog O Tryd.f117 stk117_0 118 [0, 1, 4, 5, 6, 7, 10, 11, 69, 70, 71] [(.pointer (some ⟨b0, f0, none⟩)), (.slice a1 n1 c1), (.pointer (some ⟨b4, f4, none⟩)), (.slice a5 n5 c5), (.int .i64 x6), (.pointer (some ⟨b7, f7, none⟩)), (.int .i64 x10), (.slice a11 n11 c11), (.slice a69 n69 c69), (.int .i64 2), (.int .i64 x71)] h Q
def T117 (O : CallF) (Q : Value → Hp → Prop) (b0 : Nat) (f0 : Nat) (a1 : Option Addr) (n1 : Nat) (c1 : Nat) (h : Hp) : Prop :=
  let g1 : Hp := h.add (.cells [(.int .u32 0), (.int .u32 0)] 102 .fix)
  ∃ x2', readAt g1 b0 (f0 + 3) 1 = some [(.int .i64 x2')] ∧
  vcond (eqI x2' 0)
  (vreq (canW g1 h.nx 0 [(.int .u32 0), (.int .u32 0)])
  (let g3 : Hp := g1.wr h.nx 0 [(.int .u32 0), (.int .u32 0)]
  ∃ x4', ∃ x5', readAt g3 h.nx 0 2 = some [(.int .u32 x4'), (.int .u32 x5')] ∧
  Q (.tuple #[(.agg #[(.int .u32 x4'), (.int .u32 x5')]), (.slice none 0 0), (.int .i64 2)]) g3))
  (∃ x6', readAt g1 b0 (f0 + 3) 1 = some [(.int .i64 x6')] ∧
  vreq (canW g1 b0 (f0 + 3) [(.int .i64 (wrapF .i64 (x6' - 1)))])
  (let g7 : Hp := g1.wr b0 (f0 + 3) [(.int .i64 (wrapF .i64 (x6' - 1)))]
  ∃ x8', ∃ x9', ∃ q10', ∃ h11', EvC Tryd.prog O 89 [(.pointer (some ⟨b0, f0, none⟩)), (.slice a1 n1 c1)] g7 (.tuple #[(.agg #[(.int .u32 x8'), (.int .u32 x9')]), (.bool q10')]) h11' ∧
  let g12 : Hp := h11'.add (.cells [(.int .u32 0), (.int .u32 0)] 102 .fix)
  vreq (canW g12 h11'.nx 0 [(.int .u32 x8'), (.int .u32 x9')])
  (let g13 : Hp := g12.wr h11'.nx 0 [(.int .u32 x8'), (.int .u32 x9')]
  vcond (!q10')
  (let g14 : Hp := g13.rsv 11
  ∃ x15', ∃ x16', readAt g14 h11'.nx 0 2 = some [(.int .u32 x15'), (.int .u32 x16')] ∧
  ∃ a17' n18' c19', ∃ h20', EvC Tryd.prog O 97 [(.slice a1 n1 c1), (.func (.func 95) #[(.pointer (some ⟨b0, f0, none⟩))] #[])] (g14.grd [h11'.nx]) (.slice a17' n18' c19') h20' ∧
  let g21 : Hp := h20'.rst g14
  ∃ a22' n23' c24', ∃ h25', EvC Tryd.prog O 96 [(.slice a17' n18' c19')] (g21.grd [h11'.nx]) (.slice a22' n23' c24') h25' ∧
  let g26 : Hp := h25'.rst g21
  ∃ a27' n28' c29', ∃ h30', EvC Tryd.prog O 137 [(.pointer (some ⟨b0, f0, none⟩)), (.slice a22' n23' c24')] (g26.grd [h11'.nx]) (.slice a27' n28' c29') h30' ∧
  let g31 : Hp := h30'.rst g26
  vreq (canW (g31.grd []) h.nx 0 [(.int .u32 x15'), (.int .u32 x16')])
  (let g32 : Hp := (g31.grd []).wr h.nx 0 [(.int .u32 x15'), (.int .u32 x16')]
  let g33 : Hp := g32.rst g31
  ∃ x34', ∃ x35', readAt g33 h.nx 0 2 = some [(.int .u32 x34'), (.int .u32 x35')] ∧
  Q (.tuple #[(.agg #[(.int .u32 x34'), (.int .u32 x35')]), (.slice a27' n28' c29'), (.int .i64 1)]) g33))
  (let g36 : Hp := g13.rsv 13
  ∃ x37', readAt g36 b0 (f0 + 0) 1 = some [(.int .i64 x37')] ∧
  vreq (le0 x37')
  (∃ x38', readAt g36 h11'.nx 0 1 = some [(.int .u32 x38')] ∧
  ∃ x39', readAt g36 h11'.nx 1 1 = some [(.int .u32 x39')] ∧
  vreq (inD 4294967296 x38')
  (vreq (inD 4294967296 x39')
  (vreq (inD 4294967296 (wrapF .u32 ((shlF .u32 1 (Int.toNat x37')) - 1)))
  (vreq (inD 4294967296 (lorI x38' x39'))
  (vcond (eqI (andnI (wrapF .u32 ((shlF .u32 1 (Int.toNat x37')) - 1)) (lorI x38' x39')) 0)
  (∃ x40', ∃ x41', readAt g36 h11'.nx 0 2 = some [(.int .u32 x40'), (.int .u32 x41')] ∧
  vreq (canW g36 h.nx 0 [(.int .u32 x40'), (.int .u32 x41')])
  (let g42 : Hp := g36.wr h.nx 0 [(.int .u32 x40'), (.int .u32 x41')]
  ∃ x43', ∃ x44', readAt g42 h.nx 0 2 = some [(.int .u32 x43'), (.int .u32 x44')] ∧
  Q (.tuple #[(.agg #[(.int .u32 x43'), (.int .u32 x44')]), (.slice none 0 0), (.int .i64 0)]) g42))
  (∃ x45', ∃ h46', EvC Tryd.prog O 120 [(.int .u32 (andnI (wrapF .u32 ((shlF .u32 1 (Int.toNat x37')) - 1)) (lorI x38' x39')))] g36 (.int .i64 x45') h46' ∧
  let g47 : Hp := h46'.add (.cells [(.int .i64 (wrapF .i64 (0 - (wrapF .i64 (x45' + 1))))), (.int .i64 (wrapF .i64 (x45' + 1)))] 3 .fix)
  I117_0 O Q b0 f0 a1 n1 c1 h.nx 0 none 0 0 0 h11'.nx 0 (wrapF .i64 (x45' + 1)) none 0 0 (some ⟨h46'.nx, 0, none⟩) 2 2 0 g47))))))))))
theorem rk117 {O Q} (b0 f0 a1 n1 c1) {h : Hp} (hO : O 117 [(.pointer (some ⟨b0, f0, none⟩)), (.slice a1 n1 c1)] h = none) (hh : T117 O Q b0 f0 a1 n1 c1 h) : Ret Tryd.prog O 117 [(.pointer (some ⟨b0, f0, none⟩)), (.slice a1 n1 c1)] h Q :=
  .of (c := b117) Tryd.func117 (by kernel_rfl) hO (V_ok (tb := lv117) (cuts := []) 500 (Eq.mp (by kernel_rfl) hh))
def T117_0 (O : CallF) (Q : Value → Hp → Prop) (b0 : Nat) (f0 : Nat) (a1 : Option Addr) (n1 : Nat) (c1 : Nat) (b4 : Nat) (f4 : Nat) (a5 : Option Addr) (n5 : Nat) (c5 : Nat) (x6 : Int) (b7 : Nat) (f7 : Nat) (x10 : Int) (a11 : Option Addr) (n11 : Nat) (c11 : Nat) (a69 : Option Addr) (n69 : Nat) (c69 : Nat) (x71 : Int) (h : Hp) : Prop :=
  vcond (ltI x71 2)
  (isNat x71 fun n101' =>
  isAddr a69 fun b102' f103' =>
  vreq (Nat.blt n101' n69)
  (∃ x104', readAt h b102' (f103' + (n101' * 1)) 1 = some [(.int .i64 x104')] ∧
  ∃ a105' n106' c107', ∃ h108', EvC Tryd.prog O 110 [(.slice a1 n1 c1)] h (.slice a105' n106' c107') h108' ∧
  let g109 : Hp := h108'.add (.cells [(.int .i64 x104')] 3 .fix)
  ∃ a110' n111' c112' h113', appendV Tryd.prog g109 32 32 (.slice a105' n106' c107') (.slice (some ⟨h108'.nx, 0, none⟩) 1 1) = some (.slice a110' n111' c112', h113') ∧
  ∃ x114', ∃ x115', ∃ a116' n117' c118', ∃ x119', ∃ h120', EvC Tryd.prog O 117 [(.pointer (some ⟨b0, f0, none⟩)), (.slice a110' n111' c112')] h113' (.tuple #[(.agg #[(.int .u32 x114'), (.int .u32 x115')]), (.slice a116' n117' c118'), (.int .i64 x119')]) h120' ∧
  let g121 : Hp := h120'.add (.cells [(.int .u32 0), (.int .u32 0)] 102 .fix)
  vreq (canW g121 h120'.nx 0 [(.int .u32 x114'), (.int .u32 x115')])
  (let g122 : Hp := g121.wr h120'.nx 0 [(.int .u32 x114'), (.int .u32 x115')]
  vcond (!(eqI x119' 1))
  (∃ x123', ∃ x124', readAt g122 h120'.nx 0 2 = some [(.int .u32 x123'), (.int .u32 x124')] ∧
  vreq (canW g122 b4 f4 [(.int .u32 x123'), (.int .u32 x124')])
  (let g125 : Hp := g122.wr b4 f4 [(.int .u32 x123'), (.int .u32 x124')]
  ∃ x126', ∃ x127', readAt g125 b4 f4 2 = some [(.int .u32 x126'), (.int .u32 x127')] ∧
  Q (.tuple #[(.agg #[(.int .u32 x126'), (.int .u32 x127')]), (.slice a116' n117' c118'), (.int .i64 x119')]) g125))
  (∃ q128', ∃ h129', EvC Tryd.prog O 62 [(.slice a116' n117' c118'), (.int .i64 (wrapF .i64 (0 - x104')))] g122 (.bool q128') h129' ∧
  vcond (!q128')
  (∃ x130', ∃ x131', readAt h129' h120'.nx 0 2 = some [(.int .u32 x130'), (.int .u32 x131')] ∧
  vreq (canW h129' b4 f4 [(.int .u32 x130'), (.int .u32 x131')])
  (let g132 : Hp := h129'.wr b4 f4 [(.int .u32 x130'), (.int .u32 x131')]
  ∃ x133', ∃ x134', readAt g132 b4 f4 2 = some [(.int .u32 x133'), (.int .u32 x134')] ∧
  Q (.tuple #[(.agg #[(.int .u32 x133'), (.int .u32 x134')]), (.slice a116' n117' c118'), (.int .i64 x119')]) g132))
  (let g135 : Hp := h129'.add (.cells [(.slice a116' n117' c118')] 32 .fix)
  ∃ a136' n137' c138' h139', appendV Tryd.prog g135 28 28 (.slice a11 n11 c11) (.slice (some ⟨h129'.nx, 0, none⟩) 1 1) = some (.slice a136' n137' c138', h139') ∧
  I117_0 O Q b0 f0 a1 n1 c1 b4 f4 a5 n5 c5 x6 b7 f7 x10 a136' n137' c138' a69 n69 c69 (wrapF .i64 (x71 + 1)) h139')))))
  (let g140 : Hp := h.rsv 13
  isAddr a11 fun b141' f142' =>
  vreq (Nat.blt 0 n11)
  (∃ a143' n144' c145', readAt g140 b141' (f142' + 0) 1 = some [(.slice a143' n144' c145')] ∧
  isAddr a11 fun b146' f147' =>
  vreq (Nat.blt 1 n11)
  (∃ a148' n149' c150', readAt g140 b146' (f147' + 1) 1 = some [(.slice a148' n149' c150')] ∧
  ∃ a151' n152' c153', ∃ x154', ∃ h155', EvC Tryd.prog O 38 [(.slice a143' n144' c145'), (.slice a148' n149' c150'), (.int .i64 x10)] (g140.grd []) (.tuple #[(.slice a151' n152' c153'), (.int .i64 x154')]) h155' ∧
  let g156 : Hp := h155'.rst g140
  let g157 : Hp := g156.rsv 7
  ∃ x158', ∃ x159', readAt g157 b7 f7 2 = some [(.int .u32 x158'), (.int .u32 x159')] ∧
  ∃ a160' n161' c162', ∃ h163', EvC Tryd.prog O 137 [(.pointer (some ⟨b0, f0, none⟩)), (.slice a151' n152' c153')] (g157.grd [b7]) (.slice a160' n161' c162') h163' ∧
  let g164 : Hp := h163'.rst g157
  vreq (canW (g164.grd []) b4 f4 [(.int .u32 x158'), (.int .u32 x159')])
  (let g165 : Hp := (g164.grd []).wr b4 f4 [(.int .u32 x158'), (.int .u32 x159')]
  let g166 : Hp := g165.rst g164
  ∃ x167', ∃ x168', readAt g166 b4 f4 2 = some [(.int .u32 x167'), (.int .u32 x168')] ∧
  Q (.tuple #[(.agg #[(.int .u32 x167'), (.int .u32 x168')]), (.slice a160' n161' c162'), (.int .i64 1)]) g166))))
theorem I117_0.of {O Q} (b0 f0 a1 n1 c1 b4 f4 a5 n5 c5 x6 b7 f7 x10 a11 n11 c11 a69 n69 c69 x71) {h : Hp} (hh : T117_0 O Q b0 f0 a1 n1 c1 b4 f4 a5 n5 c5 x6 b7 f7 x10 a11 n11 c11 a69 n69 c69 x71 h) : I117_0 O Q b0 f0 a1 n1 c1 b4 f4 a5 n5 c5 x6 b7 f7 x10 a11 n11 c11 a69 n69 c69 x71 h :=
  RKL.of (tb := lv117) (cuts := []) 500 fun _ => Eq.mp (by kernel_rfl) hh
/-! sward/sat.solve -/
noncomputable def b79 : Code := (Tryd.f79.body).getD .skip
def lv79 : List (Nat × List Nat) := []
def T79 (O : CallF) (Q : Value → Hp → Prop) (x0_0 : Int) (a0_1 : Option Addr) (n0_1 : Nat) (c0_1 : Nat) (a1 : Option Addr) (n1 : Nat) (c1 : Nat) (h : Hp) : Prop :=
  let g1 : Hp := h.add (.cells [(.int .i64 x0_0), (.slice a0_1 n0_1 c0_1)] 30 .fix)
  let g2 : Hp := g1.add (.cells [(.int .u32 0), (.int .u32 0)] 102 .fix)
  ∃ x3', ∃ a4' n5' c6', readAt g2 h.nx 0 2 = some [(.int .i64 x3'), (.slice a4' n5' c6')] ∧
  ∃ a7', ∃ h8', EvC Tryd.prog O 76 [(.agg #[(.int .i64 x3'), (.slice a4' n5' c6')]), (.slice a1 n1 c1)] g2 (.pointer a7') h8' ∧
  ∃ x9', ∃ x10', ∃ a11' n12' c13', ∃ x14', ∃ h15', EvC Tryd.prog O 117 [(.pointer a7'), (.slice none 0 0)] h8' (.tuple #[(.agg #[(.int .u32 x9'), (.int .u32 x10')]), (.slice a11' n12' c13'), (.int .i64 x14')]) h15' ∧
  let g16 : Hp := h15'.add (.cells [(.int .u32 0), (.int .u32 0)] 102 .fix)
  vreq (canW g16 h15'.nx 0 [(.int .u32 x9'), (.int .u32 x10')])
  (let g17 : Hp := g16.wr h15'.nx 0 [(.int .u32 x9'), (.int .u32 x10')]
  let g18 : Hp := g17.rsv 9
  ∃ x19', ∃ x20', readAt g18 h15'.nx 0 2 = some [(.int .u32 x19'), (.int .u32 x20')] ∧
  isAddr a7' fun b21' f22' =>
  ∃ a23' n24' c25', readAt g18 b21' (f22' + 4) 1 = some [(.slice a23' n24' c25')] ∧
  vreq (canW (g18.grd [b21']) g1.nx 0 [(.int .u32 x19'), (.int .u32 x20')])
  (let g26 : Hp := (g18.grd [b21']).wr g1.nx 0 [(.int .u32 x19'), (.int .u32 x20')]
  let g27 : Hp := g26.rst g18
  ∃ x28', ∃ x29', readAt g27 g1.nx 0 2 = some [(.int .u32 x28'), (.int .u32 x29')] ∧
  Q (.tuple #[(.agg #[(.int .u32 x28'), (.int .u32 x29')]), (.slice a23' n24' c25'), (.int .i64 x14')]) g27))
theorem rk79 {O Q} (x0_0 a0_1 n0_1 c0_1 a1 n1 c1) {h : Hp} (hO : O 79 [(.agg #[(.int .i64 x0_0), (.slice a0_1 n0_1 c0_1)]), (.slice a1 n1 c1)] h = none) (hh : T79 O Q x0_0 a0_1 n0_1 c0_1 a1 n1 c1 h) : Ret Tryd.prog O 79 [(.agg #[(.int .i64 x0_0), (.slice a0_1 n0_1 c0_1)]), (.slice a1 n1 c1)] h Q :=
  .of (c := b79) Tryd.func79 (by kernel_rfl) hO (V_ok (tb := lv79) (cuts := []) 500 (Eq.mp (by kernel_rfl) hh))
/-! sward/sat.errors -/
noncomputable def b80 : Code := (Tryd.f80.body).getD .skip
def lv80 : List (Nat × List Nat) := []
def T80 (O : CallF) (Q : Value → Hp → Prop) (x0 : Int) (h : Hp) : Prop :=
  vcond (eqI x0 1)
  (Q (.int .i64 5) h)
  (vcond (eqI x0 2)
  (Q (.int .i64 8) h)
  (Q (.int .i64 0) h))
theorem rk80 {O Q} (x0) {h : Hp} (hO : O 80 [(.int .i64 x0)] h = none) (hh : T80 O Q x0 h) : Ret Tryd.prog O 80 [(.int .i64 x0)] h Q :=
  .of (c := b80) Tryd.func80 (by kernel_rfl) hO (V_ok (tb := lv80) (cuts := []) 500 (Eq.mp (by kernel_rfl) hh))
/-! sward/sat.Model -/
noncomputable def b23 : Code := (Tryd.f23.body).getD .skip
noncomputable def stk23_0 : List KI := [.code (sub [1, 1, 1, 1, 1, 0, 1, 0] b23), .blk 0, .code (sub [1, 1, 1, 1, 1, 1] b23)]
def lv23 : List (Nat × List Nat) := [(0, [4, 5, 7, 10, 30, 31])]
def I23_0 (O : CallF) (Q : Value → Hp → Prop) (x0_0 : Int) (a0_1 : Option Addr) (n0_1 : Nat) (c0_1 : Nat) (a1 : Option Addr) (n1 : Nat) (c1 : Nat) (b7 : Nat) (f7 : Nat) (a10 : Option Addr) (n10 : Nat) (c10 : Nat) (x30 : Int) (x31 : Int) (h : Hp) : Prop := RKL Tryd.prog O Tryd.f23 stk23_0 44 [4, 5, 7, 10, 30, 31] [(.slice none 0 0), (.int .i64 0), (.pointer (some ⟨b7, f7, none⟩)), (.slice a10 n10 c10), (.int .i64 x30), (.int .i64 x31)] h Q
def T23 (O : CallF) (Q : Value → Hp → Prop) (x0_0 : Int) (a0_1 : Option Addr) (n0_1 : Nat) (c0_1 : Nat) (a1 : Option Addr) (n1 : Nat) (c1 : Nat) (h : Hp) : Prop :=
  let g1 : Hp := h.add (.cells [(.int .i64 x0_0), (.slice a0_1 n0_1 c0_1)] 30 .fix)
  ∃ x2', ∃ a3' n4' c5', readAt g1 h.nx 0 2 = some [(.int .i64 x2'), (.slice a3' n4' c5')] ∧
  ∃ x6', ∃ h7', EvC Tryd.prog O 78 [(.agg #[(.int .i64 x2'), (.slice a3' n4' c5')]), (.slice a1 n1 c1)] g1 (.int .i64 x6') h7' ∧
  vcond (!(eqI x6' 0))
  (Q (.tuple #[(.slice none 0 0), (.int .i64 x6')]) h7')
  (∃ x8', ∃ a9' n10' c11', readAt h7' h.nx 0 2 = some [(.int .i64 x8'), (.slice a9' n10' c11')] ∧
  ∃ x12', ∃ x13', ∃ a14' n15' c16', ∃ x17', ∃ h18', EvC Tryd.prog O 79 [(.agg #[(.int .i64 x8'), (.slice a9' n10' c11')]), (.slice a1 n1 c1)] h7' (.tuple #[(.agg #[(.int .u32 x12'), (.int .u32 x13')]), (.slice a14' n15' c16'), (.int .i64 x17')]) h18' ∧
  let g19 : Hp := h18'.add (.cells [(.int .u32 0), (.int .u32 0)] 102 .fix)
  vreq (canW g19 h18'.nx 0 [(.int .u32 x12'), (.int .u32 x13')])
  (let g20 : Hp := g19.wr h18'.nx 0 [(.int .u32 x12'), (.int .u32 x13')]
  vcond (!(eqI x17' 0))
  (∃ x21', ∃ h22', EvC Tryd.prog O 80 [(.int .i64 x17')] g20 (.int .i64 x21') h22' ∧
  Q (.tuple #[(.slice none 0 0), (.int .i64 x21')]) h22')
  (∃ x23', readAt g20 h.nx 0 1 = some [(.int .i64 x23')] ∧
  I23_0 O Q x0_0 a0_1 n0_1 c0_1 a1 n1 c1 h18'.nx 0 none 0 0 x23' 0 g20)))
theorem rk23 {O Q} (x0_0 a0_1 n0_1 c0_1 a1 n1 c1) {h : Hp} (hO : O 23 [(.agg #[(.int .i64 x0_0), (.slice a0_1 n0_1 c0_1)]), (.slice a1 n1 c1)] h = none) (hh : T23 O Q x0_0 a0_1 n0_1 c0_1 a1 n1 c1 h) : Ret Tryd.prog O 23 [(.agg #[(.int .i64 x0_0), (.slice a0_1 n0_1 c0_1)]), (.slice a1 n1 c1)] h Q :=
  .of (c := b23) Tryd.func23 (by kernel_rfl) hO (V_ok (tb := lv23) (cuts := []) 500 (Eq.mp (by kernel_rfl) hh))
def T23_0 (O : CallF) (Q : Value → Hp → Prop) (x0_0 : Int) (a0_1 : Option Addr) (n0_1 : Nat) (c0_1 : Nat) (a1 : Option Addr) (n1 : Nat) (c1 : Nat) (b7 : Nat) (f7 : Nat) (a10 : Option Addr) (n10 : Nat) (c10 : Nat) (x30 : Int) (x31 : Int) (h : Hp) : Prop :=
  vcond (ltI x31 x30)
  (∃ x101', ∃ x102', readAt h b7 f7 2 = some [(.int .u32 x101'), (.int .u32 x102')] ∧
  ∃ x103', ∃ h104', EvC Tryd.prog O 81 [(.agg #[(.int .u32 x101'), (.int .u32 x102')]), (.int .i64 (wrapF .i64 (x31 + 1)))] h (.int .i64 x103') h104' ∧
  let g105 : Hp := h104'.add (.cells [(.bool (eqI x103' 1))] 4 .fix)
  ∃ a106' n107' c108' h109', appendV Tryd.prog g105 40 40 (.slice a10 n10 c10) (.slice (some ⟨h104'.nx, 0, none⟩) 1 1) = some (.slice a106' n107' c108', h109') ∧
  I23_0 O Q x0_0 a0_1 n0_1 c0_1 a1 n1 c1 b7 f7 a106' n107' c108' x30 (wrapF .i64 (x31 + 1)) h109')
  (Q (.tuple #[(.slice a10 n10 c10), (.int .i64 0)]) h)
theorem I23_0.of {O Q} (x0_0 a0_1 n0_1 c0_1 a1 n1 c1 b7 f7 a10 n10 c10 x30 x31) {h : Hp} (hh : T23_0 O Q x0_0 a0_1 n0_1 c0_1 a1 n1 c1 b7 f7 a10 n10 c10 x30 x31 h) : I23_0 O Q x0_0 a0_1 n0_1 c0_1 a1 n1 c1 b7 f7 a10 n10 c10 x30 x31 h :=
  RKL.of (tb := lv23) (cuts := []) 500 fun _ => Eq.mp (by kernel_rfl) hh
/-! sward/sat.Prove -/
noncomputable def b24 : Code := (Tryd.f24.body).getD .skip
def lv24 : List (Nat × List Nat) := []
def T24 (O : CallF) (Q : Value → Hp → Prop) (x0_0 : Int) (a0_1 : Option Addr) (n0_1 : Nat) (c0_1 : Nat) (a1 : Option Addr) (n1 : Nat) (c1 : Nat) (h : Hp) : Prop :=
  let g1 : Hp := h.add (.cells [(.int .i64 x0_0), (.slice a0_1 n0_1 c0_1)] 30 .fix)
  ∃ x2', ∃ a3' n4' c5', readAt g1 h.nx 0 2 = some [(.int .i64 x2'), (.slice a3' n4' c5')] ∧
  ∃ x6', ∃ h7', EvC Tryd.prog O 78 [(.agg #[(.int .i64 x2'), (.slice a3' n4' c5')]), (.slice a1 n1 c1)] g1 (.int .i64 x6') h7' ∧
  vcond (!(eqI x6' 0))
  (Q (.tuple #[(.slice none 0 0), (.int .i64 x6')]) h7')
  (∃ x8', ∃ a9' n10' c11', readAt h7' h.nx 0 2 = some [(.int .i64 x8'), (.slice a9' n10' c11')] ∧
  ∃ x12', ∃ x13', ∃ a14' n15' c16', ∃ x17', ∃ h18', EvC Tryd.prog O 79 [(.agg #[(.int .i64 x8'), (.slice a9' n10' c11')]), (.slice a1 n1 c1)] h7' (.tuple #[(.agg #[(.int .u32 x12'), (.int .u32 x13')]), (.slice a14' n15' c16'), (.int .i64 x17')]) h18' ∧
  let g19 : Hp := h18'.add (.cells [(.int .u32 0), (.int .u32 0)] 102 .fix)
  vreq (canW g19 h18'.nx 0 [(.int .u32 x12'), (.int .u32 x13')])
  (let g20 : Hp := g19.wr h18'.nx 0 [(.int .u32 x12'), (.int .u32 x13')]
  vcond (eqI x17' 0)
  (Q (.tuple #[(.slice none 0 0), (.int .i64 5)]) g20)
  (vcond (eqI x17' 2)
  (Q (.tuple #[(.slice none 0 0), (.int .i64 8)]) g20)
  (Q (.tuple #[(.slice a14' n15' c16'), (.int .i64 0)]) g20))))
theorem rk24 {O Q} (x0_0 a0_1 n0_1 c0_1 a1 n1 c1) {h : Hp} (hO : O 24 [(.agg #[(.int .i64 x0_0), (.slice a0_1 n0_1 c0_1)]), (.slice a1 n1 c1)] h = none) (hh : T24 O Q x0_0 a0_1 n0_1 c0_1 a1 n1 c1 h) : Ret Tryd.prog O 24 [(.agg #[(.int .i64 x0_0), (.slice a0_1 n0_1 c0_1)]), (.slice a1 n1 c1)] h Q :=
  .of (c := b24) Tryd.func24 (by kernel_rfl) hO (V_ok (tb := lv24) (cuts := []) 500 (Eq.mp (by kernel_rfl) hh))
/-! sward/swardref20.solve -/
noncomputable def b106 : Code := (Tryd.f106.body).getD .skip
noncomputable def stk106_0 : List KI := [.code (sub [1, 1, 1, 1, 1, 1, 0, 1, 0] b106), .blk 0, .code (sub [1, 1, 1, 1, 1, 1, 1] b106)]
def lv106 : List (Nat × List Nat) := [(0, [2, 4, 5, 6, 8, 9, 10])]
def I106_0 (O : CallF) (Q : Value → Hp → Prop) (x0_0 : Int) (a0_1 : Option Addr) (n0_1 : Nat) (c0_1 : Nat) (a1 : Option Addr) (n1 : Nat) (c1 : Nat) (b2 : Nat) (f2 : Nat) (b8 : Nat) (f8 : Nat) (a9 : Option Addr) (n9 : Nat) (c9 : Nat) (x10 : Int) (h : Hp) : Prop := RKL Tryd.prog O Tryd.f106 stk106_0 49 [2, 4, 5, 6, 8, 9, 10] [(.pointer (some ⟨b2, f2, none⟩)), (.slice none 0 0), (.slice none 0 0), (.int .i64 0), (.pointer (some ⟨b8, f8, none⟩)), (.slice a9 n9 c9), (.int .i64 x10)] h Q
def T106 (O : CallF) (Q : Value → Hp → Prop) (x0_0 : Int) (a0_1 : Option Addr) (n0_1 : Nat) (c0_1 : Nat) (a1 : Option Addr) (n1 : Nat) (c1 : Nat) (h : Hp) : Prop :=
  let g1 : Hp := h.add (.cells [(.int .i64 x0_0), (.slice a0_1 n0_1 c0_1)] 30 .fix)
  ∃ x2', ∃ a3' n4' c5', readAt g1 h.nx 0 2 = some [(.int .i64 x2'), (.slice a3' n4' c5')] ∧
  ∃ x6', ∃ h7', EvC Tryd.prog O 91 [(.agg #[(.int .i64 x2'), (.slice a3' n4' c5')]), (.slice a1 n1 c1)] g1 (.int .i64 x6') h7' ∧
  vcond (!(eqI x6' 0))
  (Q (.tuple #[(.slice none 0 0), (.slice none 0 0), (.int .i64 x6')]) h7')
  (∃ x8', ∃ a9' n10' c11', readAt h7' h.nx 0 2 = some [(.int .i64 x8'), (.slice a9' n10' c11')] ∧
  ∃ a12' n13' c14', ∃ x15', ∃ a16' n17' c18', ∃ h19', EvC Tryd.prog O 125 [(.agg #[(.int .i64 x8'), (.slice a9' n10' c11')]), (.slice a1 n1 c1), (.slice none 0 0), (.int .i64 2000)] h7' (.agg #[(.slice a12' n13' c14'), (.int .i64 x15'), (.slice a16' n17' c18')]) h19' ∧
  let g20 : Hp := h19'.add (.cells [(.slice none 0 0), (.int .i64 0), (.slice none 0 0)] 143 .fix)
  vreq (canW g20 h19'.nx 0 [(.slice a12' n13' c14'), (.int .i64 x15'), (.slice a16' n17' c18')])
  (let g21 : Hp := g20.wr h19'.nx 0 [(.slice a12' n13' c14'), (.int .i64 x15'), (.slice a16' n17' c18')]
  ∃ x22', readAt g21 h19'.nx 1 1 = some [(.int .i64 x22')] ∧
  vcond (ltI x22' 0)
  (Q (.tuple #[(.slice none 0 0), (.slice none 0 0), (.int .i64 8)]) g21)
  (∃ a23' n24' c25', readAt g21 h19'.nx 0 1 = some [(.slice a23' n24' c25')] ∧
  vcond (eqI (Int.ofNat n24') 0)
  (let g26 : Hp := g21.rsv 5
  ∃ a27' n28' c29', readAt g26 h19'.nx 2 1 = some [(.slice a27' n28' c29')] ∧
  Q (.tuple #[(.slice none 0 0), (.slice a27' n28' c29'), (.int .i64 5)]) g26)
  (∃ x30', readAt g21 h.nx 0 1 = some [(.int .i64 x30')] ∧
  isNat x30' fun n31' =>
  isNat x30' fun n32' =>
  vreq (Nat.ble n31' n32')
  (vreq (Nat.ble (n32' * 1) 281474976710656)
  (vreq (Nat.blt n32' big)
  (let g33 : Hp := g21.add (.cells (List.flatten (List.replicate n32' [(.bool false)])) 4 .fix)
  I106_0 O Q x0_0 a0_1 n0_1 c0_1 a1 n1 c1 h.nx 0 h19'.nx 0 (some ⟨g21.nx, 0, none⟩) n31' n32' 1 g33)))))))
theorem rk106 {O Q} (x0_0 a0_1 n0_1 c0_1 a1 n1 c1) {h : Hp} (hO : O 106 [(.agg #[(.int .i64 x0_0), (.slice a0_1 n0_1 c0_1)]), (.slice a1 n1 c1)] h = none) (hh : T106 O Q x0_0 a0_1 n0_1 c0_1 a1 n1 c1 h) : Ret Tryd.prog O 106 [(.agg #[(.int .i64 x0_0), (.slice a0_1 n0_1 c0_1)]), (.slice a1 n1 c1)] h Q :=
  .of (c := b106) Tryd.func106 (by kernel_rfl) hO (V_ok (tb := lv106) (cuts := []) 500 (Eq.mp (by kernel_rfl) hh))
def T106_0 (O : CallF) (Q : Value → Hp → Prop) (x0_0 : Int) (a0_1 : Option Addr) (n0_1 : Nat) (c0_1 : Nat) (a1 : Option Addr) (n1 : Nat) (c1 : Nat) (b2 : Nat) (f2 : Nat) (b8 : Nat) (f8 : Nat) (a9 : Option Addr) (n9 : Nat) (c9 : Nat) (x10 : Int) (h : Hp) : Prop :=
  ∃ x101', readAt h b2 (f2 + 0) 1 = some [(.int .i64 x101')] ∧
  vcond (!(ltI x101' x10))
  (∃ a102' n103' c104', readAt h b8 (f8 + 0) 1 = some [(.slice a102' n103' c104')] ∧
  isNat x10 fun n105' =>
  isAddr a102' fun b106' f107' =>
  vreq (Nat.blt n105' n103')
  (∃ x108', readAt h b106' (f107' + (n105' * 1)) 1 = some [(.int .i64 x108')] ∧
  isNat (wrapF .i64 (x10 - 1)) fun n109' =>
  isAddr a9 fun b110' f111' =>
  vreq (Nat.blt n109' n9)
  (vreq (canW h b110' (f111' + (n109' * 1)) [(.bool (ltI 0 x108'))])
  (let g112 : Hp := h.wr b110' (f111' + (n109' * 1)) [(.bool (ltI 0 x108'))]
  I106_0 O Q x0_0 a0_1 n0_1 c0_1 a1 n1 c1 b2 f2 b8 f8 a9 n9 c9 (wrapF .i64 (x10 + 1)) g112))))
  (Q (.tuple #[(.slice a9 n9 c9), (.slice none 0 0), (.int .i64 0)]) h)
theorem I106_0.of {O Q} (x0_0 a0_1 n0_1 c0_1 a1 n1 c1 b2 f2 b8 f8 a9 n9 c9 x10) {h : Hp} (hh : T106_0 O Q x0_0 a0_1 n0_1 c0_1 a1 n1 c1 b2 f2 b8 f8 a9 n9 c9 x10 h) : I106_0 O Q x0_0 a0_1 n0_1 c0_1 a1 n1 c1 b2 f2 b8 f8 a9 n9 c9 x10 h :=
  RKL.of (tb := lv106) (cuts := []) 500 fun _ => Eq.mp (by kernel_rfl) hh
/-! sward/swardref20.branch -/
noncomputable def b139 : Code := (Tryd.f139.body).getD .skip
def lv139 : List (Nat × List Nat) := []
def T139 (O : CallF) (Q : Value → Hp → Prop) (a0 : Option Addr) (n0 : Nat) (c0 : Nat) (x1 : Int) (h : Hp) : Prop :=
  let g1 : Hp := h.add (.cells [] 3 .fix)
  ∃ a2' n3' c4' h5', appendV Tryd.prog g1 32 32 (.slice (some ⟨h.nx, 0, none⟩) 0 0) (.slice a0 n0 c0) = some (.slice a2' n3' c4', h5') ∧
  let g6 : Hp := h5'.add (.cells [(.int .i64 x1)] 3 .fix)
  ∃ a7' n8' c9' h10', appendV Tryd.prog g6 32 32 (.slice a2' n3' c4') (.slice (some ⟨h5'.nx, 0, none⟩) 1 1) = some (.slice a7' n8' c9', h10') ∧
  Q (.slice a7' n8' c9') h10'
theorem rk139 {O Q} (a0 n0 c0 x1) {h : Hp} (hO : O 139 [(.slice a0 n0 c0), (.int .i64 x1)] h = none) (hh : T139 O Q a0 n0 c0 x1 h) : Ret Tryd.prog O 139 [(.slice a0 n0 c0), (.int .i64 x1)] h Q :=
  .of (c := b139) Tryd.func139 (by kernel_rfl) hO (V_ok (tb := lv139) (cuts := []) 500 (Eq.mp (by kernel_rfl) hh))
/-! sward/swardref20.search -/
noncomputable def b125 : Code := (Tryd.f125.body).getD .skip
noncomputable def stk125_0 : List KI := [.code (sub [1, 1, 1, 1, 1, 1, 0, 0] b125), .blk 0, .code (sub [1, 1, 1, 1, 1, 1, 1] b125)]
def lv125 : List (Nat × List Nat) := [(0, [1, 2, 3, 4, 8, 9, 10, 12])]
def I125_0 (O : CallF) (Q : Value → Hp → Prop) (x0_0 : Int) (a0_1 : Option Addr) (n0_1 : Nat) (c0_1 : Nat) (a1 : Option Addr) (n1 : Nat) (c1 : Nat) (a2 : Option Addr) (n2 : Nat) (c2 : Nat) (x3 : Int) (b4 : Nat) (f4 : Nat) (b8 : Nat) (f8 : Nat) (a9 : Option Addr) (n9 : Nat) (c9 : Nat) (a10 : Option Addr) (n10 : Nat) (c10 : Nat) (x12 : Int) (h : Hp) : Prop := RKL Tryd.prog O Tryd.f125 stk125_0 97 [1, 2, 3, 4, 8, 9, 10, 12] [(.slice a1 n1 c1), (.slice a2 n2 c2), (.int .i64 x3), (.pointer (some ⟨b4, f4, none⟩)), (.pointer (some ⟨b8, f8, none⟩)), (.slice a9 n9 c9), (.slice a10 n10 c10), (.int .i64 x12)] h Q
def T125 (O : CallF) (Q : Value → Hp → Prop) (x0_0 : Int) (a0_1 : Option Addr) (n0_1 : Nat) (c0_1 : Nat) (a1 : Option Addr) (n1 : Nat) (c1 : Nat) (a2 : Option Addr) (n2 : Nat) (c2 : Nat) (x3 : Int) (h : Hp) : Prop :=
  let g1 : Hp := h.add (.cells [(.int .i64 x0_0), (.slice a0_1 n0_1 c0_1)] 30 .fix)
  let g2 : Hp := g1.add (.cells [(.slice none 0 0), (.int .i64 0), (.slice none 0 0)] 143 .fix)
  vcond (ltI x3 1)
  (vreq (canW g2 g1.nx 0 [(.slice none 0 0), (.int .i64 (-1)), (.slice none 0 0)])
  (let g3 : Hp := g2.wr g1.nx 0 [(.slice none 0 0), (.int .i64 (-1)), (.slice none 0 0)]
  ∃ a4' n5' c6', ∃ x7', ∃ a8' n9' c10', readAt g3 g1.nx 0 3 = some [(.slice a4' n5' c6'), (.int .i64 x7'), (.slice a8' n9' c10')] ∧
  Q (.agg #[(.slice a4' n5' c6'), (.int .i64 x7'), (.slice a8' n9' c10')]) g3))
  (∃ a11' n12' c13', ∃ h14', EvC Tryd.prog O 102 [(.slice a2 n2 c2)] g2 (.slice a11' n12' c13') h14' ∧
  let g15 : Hp := h14'.add (.cells [(.slice a11' n12' c13')] 32 .fix)
  let g16 : Hp := g15.rsv 15
  ∃ x17', readAt g16 h.nx 0 1 = some [(.int .i64 x17')] ∧
  ∃ a18' n19' c20', readAt g16 h.nx 1 1 = some [(.slice a18' n19' c20')] ∧
  vreq (g16.free (g15.nx + 4))
  (let g21 : Hp := g16.lay (g15.nx + 4) (.cells [] 3 .fix)
  ∃ a22' n23' c24' h25', appendV Tryd.prog (g21.grd [h.nx, h.nx]) 32 32 (.slice (some ⟨(g15.nx + 4), 0, none⟩) 0 0) (.slice a1 n1 c1) = some (.slice a22' n23' c24', h25') ∧
  let g26 : Hp := h25'.rst g21
  ∃ a27' n28' c29' h30', appendV Tryd.prog (g26.grd [h.nx, h.nx]) 32 32 (.slice a22' n23' c24') (.slice a2 n2 c2) = some (.slice a27' n28' c29', h30') ∧
  let g31 : Hp := h30'.rst g26
  ∃ a32' n33' c34', ∃ q35', ∃ h36', EvC Tryd.prog O 92 [(.int .i64 x17'), (.slice a18' n19' c20'), (.slice a27' n28' c29')] (g31.grd []) (.tuple #[(.slice a32' n33' c34'), (.bool q35')]) h36' ∧
  let g37 : Hp := h36'.rst g31
  vcond (!q35')
  (vreq (canW g37 g1.nx 0 [(.slice none 0 0), (.int .i64 (wrapF .i64 (x3 - 1))), (.slice (some ⟨h14'.nx, 0, none⟩) 1 1)])
  (let g38 : Hp := g37.wr g1.nx 0 [(.slice none 0 0), (.int .i64 (wrapF .i64 (x3 - 1))), (.slice (some ⟨h14'.nx, 0, none⟩) 1 1)]
  ∃ a39' n40' c41', ∃ x42', ∃ a43' n44' c45', readAt g38 g1.nx 0 3 = some [(.slice a39' n40' c41'), (.int .i64 x42'), (.slice a43' n44' c45')] ∧
  Q (.agg #[(.slice a39' n40' c41'), (.int .i64 x42'), (.slice a43' n44' c45')]) g38))
  (I125_0 O Q x0_0 a0_1 n0_1 c0_1 a1 n1 c1 a2 n2 c2 x3 h.nx 0 g1.nx 0 (some ⟨h14'.nx, 0, none⟩) 1 1 a32' n33' c34' 1 g37)))
theorem rk125 {O Q} (x0_0 a0_1 n0_1 c0_1 a1 n1 c1 a2 n2 c2 x3) {h : Hp} (hO : O 125 [(.agg #[(.int .i64 x0_0), (.slice a0_1 n0_1 c0_1)]), (.slice a1 n1 c1), (.slice a2 n2 c2), (.int .i64 x3)] h = none) (hh : T125 O Q x0_0 a0_1 n0_1 c0_1 a1 n1 c1 a2 n2 c2 x3 h) : Ret Tryd.prog O 125 [(.agg #[(.int .i64 x0_0), (.slice a0_1 n0_1 c0_1)]), (.slice a1 n1 c1), (.slice a2 n2 c2), (.int .i64 x3)] h Q :=
  .of (c := b125) Tryd.func125 (by kernel_rfl) hO (V_ok (tb := lv125) (cuts := []) 500 (Eq.mp (by kernel_rfl) hh))
def T125_0 (O : CallF) (Q : Value → Hp → Prop) (x0_0 : Int) (a0_1 : Option Addr) (n0_1 : Nat) (c0_1 : Nat) (a1 : Option Addr) (n1 : Nat) (c1 : Nat) (a2 : Option Addr) (n2 : Nat) (c2 : Nat) (x3 : Int) (b4 : Nat) (f4 : Nat) (b8 : Nat) (f8 : Nat) (a9 : Option Addr) (n9 : Nat) (c9 : Nat) (a10 : Option Addr) (n10 : Nat) (c10 : Nat) (x12 : Int) (h : Hp) : Prop :=
  ∃ x101', readAt h b4 (f4 + 0) 1 = some [(.int .i64 x101')] ∧
  vcond (!(ltI x101' x12))
  (isNat x12 fun n102' =>
  isAddr a10 fun b103' f104' =>
  vreq (Nat.blt n102' n10)
  (∃ x105', readAt h b103' (f104' + (n102' * 1)) 1 = some [(.int .i64 x105')] ∧
  vcond (!(eqI x105' 0))
  (I125_0 O Q x0_0 a0_1 n0_1 c0_1 a1 n1 c1 a2 n2 c2 x3 b4 f4 b8 f8 a9 n9 c9 a10 n10 c10 (wrapF .i64 (x12 + 1)) h)
  (∃ x106', readAt h b4 (f4 + 0) 1 = some [(.int .i64 x106')] ∧
  vcond (ltI x106' x12)
  (vreq (canW h b8 f8 [(.slice a10 n10 c10), (.int .i64 (wrapF .i64 (x3 - 1))), (.slice none 0 0)])
  (let g107 : Hp := h.wr b8 f8 [(.slice a10 n10 c10), (.int .i64 (wrapF .i64 (x3 - 1))), (.slice none 0 0)]
  ∃ a108' n109' c110', ∃ x111', ∃ a112' n113' c114', readAt g107 b8 f8 3 = some [(.slice a108' n109' c110'), (.int .i64 x111'), (.slice a112' n113' c114')] ∧
  Q (.agg #[(.slice a108' n109' c110'), (.int .i64 x111'), (.slice a112' n113' c114')]) g107))
  (let g115 : Hp := h.rsv 11
  ∃ x116', ∃ a117' n118' c119', readAt g115 b4 f4 2 = some [(.int .i64 x116'), (.slice a117' n118' c119')] ∧
  ∃ a120' n121' c122', ∃ h123', EvC Tryd.prog O 139 [(.slice a2 n2 c2), (.int .i64 (wrapF .i64 (0 - x12)))] (g115.grd [b4]) (.slice a120' n121' c122') h123' ∧
  let g124 : Hp := h123'.rst g115
  ∃ a125' n126' c127', ∃ x128', ∃ a129' n130' c131', ∃ h132', EvC Tryd.prog O 125 [(.agg #[(.int .i64 x116'), (.slice a117' n118' c119')]), (.slice a1 n1 c1), (.slice a120' n121' c122'), (.int .i64 (wrapF .i64 (x3 - 1)))] (g124.grd []) (.agg #[(.slice a125' n126' c127'), (.int .i64 x128'), (.slice a129' n130' c131')]) h132' ∧
  let g133 : Hp := h132'.rst g124
  vreq (g133.free (h.nx + 9))
  (let g134 : Hp := g133.lay (h.nx + 9) (.cells [(.slice none 0 0), (.int .i64 0), (.slice none 0 0)] 143 .fix)
  vreq (canW (g134.grd []) (h.nx + 9) 0 [(.slice a125' n126' c127'), (.int .i64 x128'), (.slice a129' n130' c131')])
  (let g135 : Hp := (g134.grd []).wr (h.nx + 9) 0 [(.slice a125' n126' c127'), (.int .i64 x128'), (.slice a129' n130' c131')]
  let g136 : Hp := g135.rst g134
  ∃ x137', readAt g136 (h.nx + 9) 1 1 = some [(.int .i64 x137')] ∧
  vcond (ltI x137' 0)
  (∃ a138' n139' c140', ∃ x141', ∃ a142' n143' c144', readAt g136 (h.nx + 9) 0 3 = some [(.slice a138' n139' c140'), (.int .i64 x141'), (.slice a142' n143' c144')] ∧
  vreq (canW g136 b8 f8 [(.slice a138' n139' c140'), (.int .i64 x141'), (.slice a142' n143' c144')])
  (let g145 : Hp := g136.wr b8 f8 [(.slice a138' n139' c140'), (.int .i64 x141'), (.slice a142' n143' c144')]
  ∃ a146' n147' c148', ∃ x149', ∃ a150' n151' c152', readAt g145 b8 f8 3 = some [(.slice a146' n147' c148'), (.int .i64 x149'), (.slice a150' n151' c152')] ∧
  Q (.agg #[(.slice a146' n147' c148'), (.int .i64 x149'), (.slice a150' n151' c152')]) g145))
  (∃ a153' n154' c155', readAt g136 (h.nx + 9) 0 1 = some [(.slice a153' n154' c155')] ∧
  vcond (ltI 0 (Int.ofNat n154'))
  (∃ a156' n157' c158', ∃ x159', ∃ a160' n161' c162', readAt g136 (h.nx + 9) 0 3 = some [(.slice a156' n157' c158'), (.int .i64 x159'), (.slice a160' n161' c162')] ∧
  vreq (canW g136 b8 f8 [(.slice a156' n157' c158'), (.int .i64 x159'), (.slice a160' n161' c162')])
  (let g163 : Hp := g136.wr b8 f8 [(.slice a156' n157' c158'), (.int .i64 x159'), (.slice a160' n161' c162')]
  ∃ a164' n165' c166', ∃ x167', ∃ a168' n169' c170', readAt g163 b8 f8 3 = some [(.slice a164' n165' c166'), (.int .i64 x167'), (.slice a168' n169' c170')] ∧
  Q (.agg #[(.slice a164' n165' c166'), (.int .i64 x167'), (.slice a168' n169' c170')]) g163))
  (let g171 : Hp := g136.rsv 10
  ∃ x172', ∃ a173' n174' c175', readAt g171 b4 f4 2 = some [(.int .i64 x172'), (.slice a173' n174' c175')] ∧
  ∃ x176', readAt g171 (h.nx + 9) 1 1 = some [(.int .i64 x176')] ∧
  ∃ a177' n178' c179', ∃ h180', EvC Tryd.prog O 139 [(.slice a2 n2 c2), (.int .i64 x12)] (g171.grd [(h.nx + 9), b4]) (.slice a177' n178' c179') h180' ∧
  let g181 : Hp := h180'.rst g171
  ∃ a182' n183' c184', ∃ x185', ∃ a186' n187' c188', ∃ h189', EvC Tryd.prog O 125 [(.agg #[(.int .i64 x172'), (.slice a173' n174' c175')]), (.slice a1 n1 c1), (.slice a177' n178' c179'), (.int .i64 x176')] (g181.grd []) (.agg #[(.slice a182' n183' c184'), (.int .i64 x185'), (.slice a186' n187' c188')]) h189' ∧
  let g190 : Hp := h189'.rst g181
  vreq (g190.free (g136.nx + 8))
  (let g191 : Hp := g190.lay (g136.nx + 8) (.cells [(.slice none 0 0), (.int .i64 0), (.slice none 0 0)] 143 .fix)
  vreq (canW (g191.grd []) (g136.nx + 8) 0 [(.slice a182' n183' c184'), (.int .i64 x185'), (.slice a186' n187' c188')])
  (let g192 : Hp := (g191.grd []).wr (g136.nx + 8) 0 [(.slice a182' n183' c184'), (.int .i64 x185'), (.slice a186' n187' c188')]
  let g193 : Hp := g192.rst g191
  ∃ a194' n195' c196', readAt g193 (h.nx + 9) 2 1 = some [(.slice a194' n195' c196')] ∧
  ∃ a197' n198' c199', readAt g193 (g136.nx + 8) 2 1 = some [(.slice a197' n198' c199')] ∧
  ∃ a200' n201' c202' h203', appendV Tryd.prog g193 28 28 (.slice a194' n195' c196') (.slice a197' n198' c199') = some (.slice a200' n201' c202', h203') ∧
  ∃ a204' n205' c206' h207', appendV Tryd.prog h203' 28 28 (.slice a200' n201' c202') (.slice a9 n9 c9) = some (.slice a204' n205' c206', h207') ∧
  vreq (canW h207' (g136.nx + 8) 2 [(.slice a204' n205' c206')])
  (let g208 : Hp := h207'.wr (g136.nx + 8) 2 [(.slice a204' n205' c206')]
  ∃ a209' n210' c211', ∃ x212', ∃ a213' n214' c215', readAt g208 (g136.nx + 8) 0 3 = some [(.slice a209' n210' c211'), (.int .i64 x212'), (.slice a213' n214' c215')] ∧
  vreq (canW g208 b8 f8 [(.slice a209' n210' c211'), (.int .i64 x212'), (.slice a213' n214' c215')])
  (let g216 : Hp := g208.wr b8 f8 [(.slice a209' n210' c211'), (.int .i64 x212'), (.slice a213' n214' c215')]
  ∃ a217' n218' c219', ∃ x220', ∃ a221' n222' c223', readAt g216 b8 f8 3 = some [(.slice a217' n218' c219'), (.int .i64 x220'), (.slice a221' n222' c223')] ∧
  Q (.agg #[(.slice a217' n218' c219'), (.int .i64 x220'), (.slice a221' n222' c223')]) g216))))))))))))
  (∃ x224', readAt h b4 (f4 + 0) 1 = some [(.int .i64 x224')] ∧
  vcond (ltI x224' x12)
  (vreq (canW h b8 f8 [(.slice a10 n10 c10), (.int .i64 (wrapF .i64 (x3 - 1))), (.slice none 0 0)])
  (let g225 : Hp := h.wr b8 f8 [(.slice a10 n10 c10), (.int .i64 (wrapF .i64 (x3 - 1))), (.slice none 0 0)]
  ∃ a226' n227' c228', ∃ x229', ∃ a230' n231' c232', readAt g225 b8 f8 3 = some [(.slice a226' n227' c228'), (.int .i64 x229'), (.slice a230' n231' c232')] ∧
  Q (.agg #[(.slice a226' n227' c228'), (.int .i64 x229'), (.slice a230' n231' c232')]) g225))
  (let g233 : Hp := h.rsv 11
  ∃ x234', ∃ a235' n236' c237', readAt g233 b4 f4 2 = some [(.int .i64 x234'), (.slice a235' n236' c237')] ∧
  ∃ a238' n239' c240', ∃ h241', EvC Tryd.prog O 139 [(.slice a2 n2 c2), (.int .i64 (wrapF .i64 (0 - x12)))] (g233.grd [b4]) (.slice a238' n239' c240') h241' ∧
  let g242 : Hp := h241'.rst g233
  ∃ a243' n244' c245', ∃ x246', ∃ a247' n248' c249', ∃ h250', EvC Tryd.prog O 125 [(.agg #[(.int .i64 x234'), (.slice a235' n236' c237')]), (.slice a1 n1 c1), (.slice a238' n239' c240'), (.int .i64 (wrapF .i64 (x3 - 1)))] (g242.grd []) (.agg #[(.slice a243' n244' c245'), (.int .i64 x246'), (.slice a247' n248' c249')]) h250' ∧
  let g251 : Hp := h250'.rst g242
  vreq (g251.free (h.nx + 9))
  (let g252 : Hp := g251.lay (h.nx + 9) (.cells [(.slice none 0 0), (.int .i64 0), (.slice none 0 0)] 143 .fix)
  vreq (canW (g252.grd []) (h.nx + 9) 0 [(.slice a243' n244' c245'), (.int .i64 x246'), (.slice a247' n248' c249')])
  (let g253 : Hp := (g252.grd []).wr (h.nx + 9) 0 [(.slice a243' n244' c245'), (.int .i64 x246'), (.slice a247' n248' c249')]
  let g254 : Hp := g253.rst g252
  ∃ x255', readAt g254 (h.nx + 9) 1 1 = some [(.int .i64 x255')] ∧
  vcond (ltI x255' 0)
  (∃ a256' n257' c258', ∃ x259', ∃ a260' n261' c262', readAt g254 (h.nx + 9) 0 3 = some [(.slice a256' n257' c258'), (.int .i64 x259'), (.slice a260' n261' c262')] ∧
  vreq (canW g254 b8 f8 [(.slice a256' n257' c258'), (.int .i64 x259'), (.slice a260' n261' c262')])
  (let g263 : Hp := g254.wr b8 f8 [(.slice a256' n257' c258'), (.int .i64 x259'), (.slice a260' n261' c262')]
  ∃ a264' n265' c266', ∃ x267', ∃ a268' n269' c270', readAt g263 b8 f8 3 = some [(.slice a264' n265' c266'), (.int .i64 x267'), (.slice a268' n269' c270')] ∧
  Q (.agg #[(.slice a264' n265' c266'), (.int .i64 x267'), (.slice a268' n269' c270')]) g263))
  (∃ a271' n272' c273', readAt g254 (h.nx + 9) 0 1 = some [(.slice a271' n272' c273')] ∧
  vcond (ltI 0 (Int.ofNat n272'))
  (∃ a274' n275' c276', ∃ x277', ∃ a278' n279' c280', readAt g254 (h.nx + 9) 0 3 = some [(.slice a274' n275' c276'), (.int .i64 x277'), (.slice a278' n279' c280')] ∧
  vreq (canW g254 b8 f8 [(.slice a274' n275' c276'), (.int .i64 x277'), (.slice a278' n279' c280')])
  (let g281 : Hp := g254.wr b8 f8 [(.slice a274' n275' c276'), (.int .i64 x277'), (.slice a278' n279' c280')]
  ∃ a282' n283' c284', ∃ x285', ∃ a286' n287' c288', readAt g281 b8 f8 3 = some [(.slice a282' n283' c284'), (.int .i64 x285'), (.slice a286' n287' c288')] ∧
  Q (.agg #[(.slice a282' n283' c284'), (.int .i64 x285'), (.slice a286' n287' c288')]) g281))
  (let g289 : Hp := g254.rsv 10
  ∃ x290', ∃ a291' n292' c293', readAt g289 b4 f4 2 = some [(.int .i64 x290'), (.slice a291' n292' c293')] ∧
  ∃ x294', readAt g289 (h.nx + 9) 1 1 = some [(.int .i64 x294')] ∧
  ∃ a295' n296' c297', ∃ h298', EvC Tryd.prog O 139 [(.slice a2 n2 c2), (.int .i64 x12)] (g289.grd [(h.nx + 9), b4]) (.slice a295' n296' c297') h298' ∧
  let g299 : Hp := h298'.rst g289
  ∃ a300' n301' c302', ∃ x303', ∃ a304' n305' c306', ∃ h307', EvC Tryd.prog O 125 [(.agg #[(.int .i64 x290'), (.slice a291' n292' c293')]), (.slice a1 n1 c1), (.slice a295' n296' c297'), (.int .i64 x294')] (g299.grd []) (.agg #[(.slice a300' n301' c302'), (.int .i64 x303'), (.slice a304' n305' c306')]) h307' ∧
  let g308 : Hp := h307'.rst g299
  vreq (g308.free (g254.nx + 8))
  (let g309 : Hp := g308.lay (g254.nx + 8) (.cells [(.slice none 0 0), (.int .i64 0), (.slice none 0 0)] 143 .fix)
  vreq (canW (g309.grd []) (g254.nx + 8) 0 [(.slice a300' n301' c302'), (.int .i64 x303'), (.slice a304' n305' c306')])
  (let g310 : Hp := (g309.grd []).wr (g254.nx + 8) 0 [(.slice a300' n301' c302'), (.int .i64 x303'), (.slice a304' n305' c306')]
  let g311 : Hp := g310.rst g309
  ∃ a312' n313' c314', readAt g311 (h.nx + 9) 2 1 = some [(.slice a312' n313' c314')] ∧
  ∃ a315' n316' c317', readAt g311 (g254.nx + 8) 2 1 = some [(.slice a315' n316' c317')] ∧
  ∃ a318' n319' c320' h321', appendV Tryd.prog g311 28 28 (.slice a312' n313' c314') (.slice a315' n316' c317') = some (.slice a318' n319' c320', h321') ∧
  ∃ a322' n323' c324' h325', appendV Tryd.prog h321' 28 28 (.slice a318' n319' c320') (.slice a9 n9 c9) = some (.slice a322' n323' c324', h325') ∧
  vreq (canW h325' (g254.nx + 8) 2 [(.slice a322' n323' c324')])
  (let g326 : Hp := h325'.wr (g254.nx + 8) 2 [(.slice a322' n323' c324')]
  ∃ a327' n328' c329', ∃ x330', ∃ a331' n332' c333', readAt g326 (g254.nx + 8) 0 3 = some [(.slice a327' n328' c329'), (.int .i64 x330'), (.slice a331' n332' c333')] ∧
  vreq (canW g326 b8 f8 [(.slice a327' n328' c329'), (.int .i64 x330'), (.slice a331' n332' c333')])
  (let g334 : Hp := g326.wr b8 f8 [(.slice a327' n328' c329'), (.int .i64 x330'), (.slice a331' n332' c333')]
  ∃ a335' n336' c337', ∃ x338', ∃ a339' n340' c341', readAt g334 b8 f8 3 = some [(.slice a335' n336' c337'), (.int .i64 x338'), (.slice a339' n340' c341')] ∧
  Q (.agg #[(.slice a335' n336' c337'), (.int .i64 x338'), (.slice a339' n340' c341')]) g334))))))))))
theorem I125_0.of {O Q} (x0_0 a0_1 n0_1 c0_1 a1 n1 c1 a2 n2 c2 x3 b4 f4 b8 f8 a9 n9 c9 a10 n10 c10 x12) {h : Hp} (hh : T125_0 O Q x0_0 a0_1 n0_1 c0_1 a1 n1 c1 a2 n2 c2 x3 b4 f4 b8 f8 a9 n9 c9 a10 n10 c10 x12 h) : I125_0 O Q x0_0 a0_1 n0_1 c0_1 a1 n1 c1 a2 n2 c2 x3 b4 f4 b8 f8 a9 n9 c9 a10 n10 c10 x12 h :=
  RKL.of (tb := lv125) (cuts := []) 500 fun _ => Eq.mp (by kernel_rfl) hh
/-! sward/swardref20.Prove -/
noncomputable def b40 : Code := (Tryd.f40.body).getD .skip
def lv40 : List (Nat × List Nat) := []
def T40 (O : CallF) (Q : Value → Hp → Prop) (x0_0 : Int) (a0_1 : Option Addr) (n0_1 : Nat) (c0_1 : Nat) (a1 : Option Addr) (n1 : Nat) (c1 : Nat) (h : Hp) : Prop :=
  let g1 : Hp := h.add (.cells [(.int .i64 x0_0), (.slice a0_1 n0_1 c0_1)] 30 .fix)
  ∃ x2', ∃ a3' n4' c5', readAt g1 h.nx 0 2 = some [(.int .i64 x2'), (.slice a3' n4' c5')] ∧
  ∃ a6' n7' c8', ∃ a9' n10' c11', ∃ x12', ∃ h13', EvC Tryd.prog O 106 [(.agg #[(.int .i64 x2'), (.slice a3' n4' c5')]), (.slice a1 n1 c1)] g1 (.tuple #[(.slice a6' n7' c8'), (.slice a9' n10' c11'), (.int .i64 x12')]) h13' ∧
  vcond (eqI x12' 0)
  (Q (.tuple #[(.slice none 0 0), (.int .i64 5)]) h13')
  (vcond (!(eqI x12' 5))
  (Q (.tuple #[(.slice none 0 0), (.int .i64 x12')]) h13')
  (Q (.tuple #[(.slice a9' n10' c11'), (.int .i64 0)]) h13'))
theorem rk40 {O Q} (x0_0 a0_1 n0_1 c0_1 a1 n1 c1) {h : Hp} (hO : O 40 [(.agg #[(.int .i64 x0_0), (.slice a0_1 n0_1 c0_1)]), (.slice a1 n1 c1)] h = none) (hh : T40 O Q x0_0 a0_1 n0_1 c0_1 a1 n1 c1 h) : Ret Tryd.prog O 40 [(.agg #[(.int .i64 x0_0), (.slice a0_1 n0_1 c0_1)]), (.slice a1 n1 c1)] h Q :=
  .of (c := b40) Tryd.func40 (by kernel_rfl) hO (V_ok (tb := lv40) (cuts := []) 500 (Eq.mp (by kernel_rfl) hh))
/-! sward/swardlaw20.SatProves -/
noncomputable def b7 : Code := (Tryd.f7.body).getD .skip
noncomputable def stk7_0 : List KI := [.code (sub [1, 1, 1, 1, 1, 1, 0, 0] b7), .code (sub [1, 1, 1, 1, 1, 1, 0, 1] b7), .code (sub [1, 1, 1, 1, 1, 1, 1] b7)]
def lv7 : List (Nat × List Nat) := [(1000010, [1, 2, 4, 5, 6, 8])]
def I7_0 (O : CallF) (Q : Value → Hp → Prop) (x0_0 : Int) (a0_1 : Option Addr) (n0_1 : Nat) (c0_1 : Nat) (a1 : Option Addr) (n1 : Nat) (c1 : Nat) (b2 : Nat) (f2 : Nat) (a5 : Option Addr) (n5 : Nat) (c5 : Nat) (x6 : Int) (x8 : Int) (h : Hp) : Prop := RKL Tryd.prog O Tryd.f7 stk7_0 113 [1, 2, 4, 5, 6, 8] [(.slice a1 n1 c1), (.pointer (some ⟨b2, f2, none⟩)), (.bool false), (.slice a5 n5 c5), (.int .i64 x6), (.int .i64 x8)] h Q
def T7 (O : CallF) (Q : Value → Hp → Prop) (x0_0 : Int) (a0_1 : Option Addr) (n0_1 : Nat) (c0_1 : Nat) (a1 : Option Addr) (n1 : Nat) (c1 : Nat) (h : Hp) : Prop :=
  let g1 : Hp := h.add (.cells [(.int .i64 x0_0), (.slice a0_1 n0_1 c0_1)] 30 .fix)
  ∃ x2', ∃ a3' n4' c5', readAt g1 h.nx 0 2 = some [(.int .i64 x2'), (.slice a3' n4' c5')] ∧
  ∃ q6', ∃ h7', EvC Tryd.prog O 28 [(.agg #[(.int .i64 x2'), (.slice a3' n4' c5')]), (.slice a1 n1 c1)] g1 (.bool q6') h7' ∧
  vcond q6'
  (∃ q8', ∃ h9', EvC Tryd.prog O 27 [] h7' (.bool q8') h9' ∧
  Q (.bool q8') h9')
  (∃ x10', ∃ a11' n12' c13', readAt h7' h.nx 0 2 = some [(.int .i64 x10'), (.slice a11' n12' c13')] ∧
  ∃ a14' n15' c16', ∃ x17', ∃ h18', EvC Tryd.prog O 24 [(.agg #[(.int .i64 x10'), (.slice a11' n12' c13')]), (.slice a1 n1 c1)] h7' (.tuple #[(.slice a14' n15' c16'), (.int .i64 x17')]) h18' ∧
  ∃ x19', ∃ a20' n21' c22', readAt h18' h.nx 0 2 = some [(.int .i64 x19'), (.slice a20' n21' c22')] ∧
  ∃ a23' n24' c25', ∃ x26', ∃ h27', EvC Tryd.prog O 40 [(.agg #[(.int .i64 x19'), (.slice a20' n21' c22')]), (.slice a1 n1 c1)] h18' (.tuple #[(.slice a23' n24' c25'), (.int .i64 x26')]) h27' ∧
  ∃ x28', ∃ a29' n30' c31', readAt h27' h.nx 0 2 = some [(.int .i64 x28'), (.slice a29' n30' c31')] ∧
  ∃ a32' n33' c34', ∃ x35', ∃ h36', EvC Tryd.prog O 23 [(.agg #[(.int .i64 x28'), (.slice a29' n30' c31')]), (.slice a1 n1 c1)] h27' (.tuple #[(.slice a32' n33' c34'), (.int .i64 x35')]) h36' ∧
  vcond (eqI x35' 5)
  (vcond (eqI x17' 5)
  (Q (.bool false) h36')
  (vcond (eqI x26' 8)
  (vcond (eqI x17' 8)
  (vcond (eqI (Int.ofNat n15') 0)
  (∃ q37', ∃ h38', EvC Tryd.prog O 27 [] h36' (.bool q37') h38' ∧
  Q (.bool q37') h38')
  (Q (.bool false) h36'))
  (I7_0 O Q x0_0 a0_1 n0_1 c0_1 a1 n1 c1 h.nx 0 a14' n15' c16' x17' x26' h36'))
  (I7_0 O Q x0_0 a0_1 n0_1 c0_1 a1 n1 c1 h.nx 0 a14' n15' c16' x17' x26' h36')))
  (vcond (eqI x26' 8)
  (vcond (eqI x17' 8)
  (vcond (eqI (Int.ofNat n15') 0)
  (∃ q39', ∃ h40', EvC Tryd.prog O 27 [] h36' (.bool q39') h40' ∧
  Q (.bool q39') h40')
  (Q (.bool false) h36'))
  (I7_0 O Q x0_0 a0_1 n0_1 c0_1 a1 n1 c1 h.nx 0 a14' n15' c16' x17' x26' h36'))
  (I7_0 O Q x0_0 a0_1 n0_1 c0_1 a1 n1 c1 h.nx 0 a14' n15' c16' x17' x26' h36')))
theorem rk7 {O Q} (x0_0 a0_1 n0_1 c0_1 a1 n1 c1) {h : Hp} (hO : O 7 [(.agg #[(.int .i64 x0_0), (.slice a0_1 n0_1 c0_1)]), (.slice a1 n1 c1)] h = none) (hh : T7 O Q x0_0 a0_1 n0_1 c0_1 a1 n1 c1 h) : Ret Tryd.prog O 7 [(.agg #[(.int .i64 x0_0), (.slice a0_1 n0_1 c0_1)]), (.slice a1 n1 c1)] h Q :=
  .of (c := b7) Tryd.func7 (by kernel_rfl) hO (V_ok (tb := lv7) (cuts := [10]) 500 (Eq.mp (by kernel_rfl) hh))
def T7_0 (O : CallF) (Q : Value → Hp → Prop) (x0_0 : Int) (a0_1 : Option Addr) (n0_1 : Nat) (c0_1 : Nat) (a1 : Option Addr) (n1 : Nat) (c1 : Nat) (b2 : Nat) (f2 : Nat) (a5 : Option Addr) (n5 : Nat) (c5 : Nat) (x6 : Int) (x8 : Int) (h : Hp) : Prop :=
  vcond (!(eqI x8 8))
  (vcond (!(eqI x6 x8))
  (vcond (!(eqI x8 0))
  (vcond (eqI (Int.ofNat n5) 0)
  (vcond (eqI x6 x8)
  (∃ q101', ∃ h102', EvC Tryd.prog O 27 [] h (.bool q101') h102' ∧
  Q (.bool q101') h102')
  (vcond (eqI x8 8)
  (vcond (eqI x6 5)
  (∃ q103', ∃ h104', EvC Tryd.prog O 27 [] h (.bool q103') h104' ∧
  Q (.bool q103') h104')
  (Q (.bool false) h))
  (Q (.bool false) h)))
  (Q (.bool false) h))
  (Q (.bool false) h))
  (vcond (!(eqI x6 0))
  (vcond (!(eqI x8 0))
  (vcond (eqI (Int.ofNat n5) 0)
  (vcond (eqI x6 x8)
  (∃ q105', ∃ h106', EvC Tryd.prog O 27 [] h (.bool q105') h106' ∧
  Q (.bool q105') h106')
  (vcond (eqI x8 8)
  (vcond (eqI x6 5)
  (∃ q107', ∃ h108', EvC Tryd.prog O 27 [] h (.bool q107') h108' ∧
  Q (.bool q107') h108')
  (Q (.bool false) h))
  (Q (.bool false) h)))
  (Q (.bool false) h))
  (Q (.bool false) h))
  (∃ x109', ∃ a110' n111' c112', readAt h b2 f2 2 = some [(.int .i64 x109'), (.slice a110' n111' c112')] ∧
  ∃ x113', ∃ x114', ∃ h115', EvC Tryd.prog O 41 [(.agg #[(.int .i64 x109'), (.slice a110' n111' c112')]), (.slice a1 n1 c1), (.slice a5 n5 c5)] h (.tuple #[(.int .i64 x113'), (.int .i64 x114')]) h115' ∧
  ∃ x116', ∃ a117' n118' c119', readAt h115' b2 f2 2 = some [(.int .i64 x116'), (.slice a117' n118' c119')] ∧
  ∃ x120', ∃ x121', ∃ h122', EvC Tryd.prog O 42 [(.agg #[(.int .i64 x116'), (.slice a117' n118' c119')]), (.slice a1 n1 c1), (.slice a5 n5 c5)] h115' (.tuple #[(.int .i64 x120'), (.int .i64 x121')]) h122' ∧
  vcond (eqI x113' 0)
  (vcond (eqI x114' 0)
  (vcond (eqI x121' 0)
  (∃ q123', ∃ h124', EvC Tryd.prog O 27 [] h122' (.bool q123') h124' ∧
  Q (.bool q123') h124')
  (Q (.bool false) h122'))
  (Q (.bool false) h122'))
  (Q (.bool false) h122'))))
  (vcond (!(eqI x6 0))
  (vcond (!(eqI x8 0))
  (vcond (eqI (Int.ofNat n5) 0)
  (vcond (eqI x6 x8)
  (∃ q125', ∃ h126', EvC Tryd.prog O 27 [] h (.bool q125') h126' ∧
  Q (.bool q125') h126')
  (vcond (eqI x8 8)
  (vcond (eqI x6 5)
  (∃ q127', ∃ h128', EvC Tryd.prog O 27 [] h (.bool q127') h128' ∧
  Q (.bool q127') h128')
  (Q (.bool false) h))
  (Q (.bool false) h)))
  (Q (.bool false) h))
  (Q (.bool false) h))
  (∃ x129', ∃ a130' n131' c132', readAt h b2 f2 2 = some [(.int .i64 x129'), (.slice a130' n131' c132')] ∧
  ∃ x133', ∃ x134', ∃ h135', EvC Tryd.prog O 41 [(.agg #[(.int .i64 x129'), (.slice a130' n131' c132')]), (.slice a1 n1 c1), (.slice a5 n5 c5)] h (.tuple #[(.int .i64 x133'), (.int .i64 x134')]) h135' ∧
  ∃ x136', ∃ a137' n138' c139', readAt h135' b2 f2 2 = some [(.int .i64 x136'), (.slice a137' n138' c139')] ∧
  ∃ x140', ∃ x141', ∃ h142', EvC Tryd.prog O 42 [(.agg #[(.int .i64 x136'), (.slice a137' n138' c139')]), (.slice a1 n1 c1), (.slice a5 n5 c5)] h135' (.tuple #[(.int .i64 x140'), (.int .i64 x141')]) h142' ∧
  vcond (eqI x133' 0)
  (vcond (eqI x134' 0)
  (vcond (eqI x141' 0)
  (∃ q143', ∃ h144', EvC Tryd.prog O 27 [] h142' (.bool q143') h144' ∧
  Q (.bool q143') h144')
  (Q (.bool false) h142'))
  (Q (.bool false) h142'))
  (Q (.bool false) h142')))
theorem I7_0.of {O Q} (x0_0 a0_1 n0_1 c0_1 a1 n1 c1 b2 f2 a5 n5 c5 x6 x8) {h : Hp} (hh : T7_0 O Q x0_0 a0_1 n0_1 c0_1 a1 n1 c1 b2 f2 a5 n5 c5 x6 x8 h) : I7_0 O Q x0_0 a0_1 n0_1 c0_1 a1 n1 c1 b2 f2 a5 n5 c5 x6 x8 h :=
  RKL.of (tb := lv7) (cuts := [10]) 500 fun _ => Eq.mp (by kernel_rfl) hh
end Go.Proofs.YtfgfhplgnfbaaaaDoor
/- The walk of search: slices.Delete of one, what is needed. -/
namespace Go.Proofs.YtfgfhplgnfbaaaaDoor
open Go Go.Ev
theorem writeAt_some {h : Hp} {o off : Nat} {vs : List Value} (hc : canW h o off vs = true) : writeAt h o off vs = some (h.wr o off vs) := by
  unfold canW at hc; unfold Hp.wr
  cases hw : writeAt h o off vs with
  | none => rw [hw] at hc; cases hc
  | some h' => rfl
theorem seen_g {h : Hp} {o n : Nat} {cs : List Value} (H : h.get o = some (.cells cs 3 .grow)) : Ev.seen h 3 1 (.slice (some ⟨o, 0, none⟩) n unk) = some cs.length := by
  simp only [Ev.seen, Nat.beq_refl, cond_true, H]
  have e5 : Nat.blt 0 1 = true := rfl
  rw [e5]
  show some ((cs.length - 0) / 1) = _
  rw [Nat.sub_zero, Nat.div_one]
theorem sz3 : sz Tryd.prog 3 = some 1 := by kernel_rfl
/-- A part of a list that grows. -/
theorem slice_g {h : Hp} {o n l hh : Nat} {cs : List Value} (H : h.get o = some (.cells cs 3 .grow)) {lo hi : Option Value} (elo : boundL lo hh = some l) (ehi : boundH hi none cs.length n = some hh) :
    sliceV Tryd.prog h 32 (.slice (some ⟨o, 0, none⟩) n unk) lo hi none = some (.slice (some ⟨o, l, none⟩) (hh - l) unk) := by
  have e4 : bounds n cs.length lo hi none = some (l, hh, cs.length) := by
    unfold bounds boundM; simp only [Option.bind_some]; rw [ehi, Option.bind_some, elo]; rfl
  unfold sliceV
  rw [Tryd.underlying32]
  simp only [sz3, bind, Option.bind_some, seen_g H, e4]
  rw [Nat.beq_refl]; simp
theorem slice_m {h : Hp} {o n l hh m : Nat} {cs : List Value} (H : h.get o = some (.cells cs 3 .grow)) {lo hi mx : Option Value} (em : boundM mx cs.length = some m) (hx : ∃ v, mx = some v) (elo : boundL lo hh = some l) (ehi : boundH hi mx m n = some hh) (hm : m < unk) :
    ∃ off, sliceV Tryd.prog h 32 (.slice (some ⟨o, 0, none⟩) n unk) lo hi mx = some (.slice (some ⟨o, off, none⟩) (hh - l) (m - l)) ∧ (l = 0 → off = 0) := by
  obtain ⟨v, rfl⟩ := hx
  have e4 : bounds n cs.length lo hi (some v) = some (l, hh, m) := by
    unfold bounds; rw [em]; simp only [Option.bind_some]; rw [ehi, Option.bind_some, elo]; rfl
  refine ⟨bif Nat.beq m l then 0 else 0 + l * 1, ?_, fun hl => ?_⟩
  · unfold sliceV
    rw [Tryd.underlying32]
    simp only [sz3, bind, Option.bind_some, seen_g H, e4]
    rw [Nat.beq_refl, blt_t hm]; simp
  · subst hl
    cases Nat.beq m 0 <;> rfl
theorem bound_i {k m : Nat} (h : k ≤ m) : boundV (.int .i64 (Int.ofNat k)) m = some k := by
  unfold boundV; simp only; rw [ble_t h]; rfl
/-- What stands behind an address, cell by cell. -/
theorem ints_of_get {h : Hp} {o : Nat} {cs : List Value} {e : TypeId} {m : Md} {xs : List Int} (H : h.get o = some (.cells cs e m)) (ho : o < h.nx) (hl : xs.length ≤ cs.length) (hx : ∀ i (hi : i < xs.length), cs[i]? = some (.int .i64 xs[i])) : IntsAt h (some ⟨o, 0, none⟩) xs.length xs := by
  refine ⟨rfl, .inr ⟨o, 0, _, _, _, rfl, ho, H, by omega, fun i hi => ?_⟩⟩
  show (cs.drop (0 + i * 1)).take 1 = [.int .i64 xs[i]]
  have h1 := hx i hi
  obtain ⟨h2, h3⟩ := List.getElem?_eq_some_iff.1 h1
  rw [Nat.zero_add, Nat.mul_one, List.drop_eq_getElem_cons h2, h3]; rfl
theorem all_one (xs : List Int) : (xs.map (Value.int .i64)).all one = true := by
  rw [List.all_eq_true]; intro v hv; obtain ⟨x, _, rfl⟩ := List.mem_map.1 hv; rfl
section
variable {O : CallF} (hO : Oth O)
include hO
/-- One element is taken out of a list of its own. -/
theorem ct59 {h : Hp} {o i : Nat} {xs : List Int} (H : h.get o = some (.cells (xs.map (Value.int .i64)) 3 .grow)) (ho : o < h.nx) (hg : h.guarded o = false) (hi : i < xs.length) (hl : xs.length < 1000000) :
    Ret Tryd.prog O 59 [.slice (some ⟨o, 0, none⟩) xs.length unk, .int .i64 (Int.ofNat i), .int .i64 (Int.ofNat (i + 1))] h fun v h' => v = .slice (some ⟨o, 0, none⟩) (xs.length - 1) unk ∧ IntsAt h' (some ⟨o, 0, none⟩) (xs.length - 1) (xs.eraseIdx i) ∧ ∀ b, b ≤ o → b ≤ h.nx → Kp b h h' := by
  have hb : big = 4611686018427387904 := rfl
  have hu : unk = 18446744073709551616 := rfl
  refine rk59 _ _ _ _ _ (hO _ _ _ (by decide)) ?_
  unfold T59
  have hcl : (xs.map (Value.int .i64)).length = xs.length := List.length_map ..
  obtain ⟨off, e1, _⟩ := slice_m (n := xs.length) (l := i) (hh := i + 1) H (lo := some (.int .i64 (Int.ofNat i))) (hi := some (.int .i64 (Int.ofNat (i + 1)))) (mx := some (.int .i64 (Int.ofNat xs.length))) (bound_i (Nat.le_of_eq hcl.symm)) ⟨_, rfl⟩ (bound_i (by omega)) (bound_i (by omega)) (by omega)
  refine ⟨_, _, _, e1, vcond_f (eqI_f (by simp only [Int.ofNat_eq_natCast, ne_eq]; omega)) ?_⟩
  intro g4
  have H4 : g4.get o = some (.cells (xs.map (Value.int .i64)) 3 .grow) := H
  refine ⟨_, _, _, slice_g (l := 0) (hh := i) H4 rfl (bound_i (by rw [hcl]; omega)), _, _, _, slice_g (l := i + 1) (hh := xs.length) H4 (bound_i (by omega)) rfl, ?_⟩
  have T := (app32 : AppT Tryd.prog 32 3 1 8)
  obtain ⟨hz, info, z, hi', hzz, hrun⟩ := T.run
  have hrd : readAt (g4.grd []) o (i + 1) ((xs.length - (i + 1)) * 1) = some ((xs.drop (i + 1)).map (Value.int .i64)) := by
    rw [readAt_get (h := g4.grd []) H4 (by rw [hcl]; omega), ← List.map_drop, Nat.mul_one, List.take_of_length_le (by simp)]
  have hk4 : ∀ b, b ≤ o → b ≤ h.nx → Kp b h g4 := fun b _ _ => (Kp.refl _ _).rsv 8
  -- the part behind it is moved forward
  have main : ∃ h', appendV Tryd.prog (g4.grd []) 32 32 (.slice (some ⟨o, 0, none⟩) (i - 0) unk) (.slice (some ⟨o, i + 1, none⟩) (xs.length - (i + 1)) unk) = some (.slice (some ⟨o, 0, none⟩) (xs.length - 1) unk, h') ∧ ∃ cs, h'.get o = some (.cells cs 3 .grow) ∧ cs.length = xs.length ∧ (∀ k (hk : k < (xs.eraseIdx i).length), cs[k]? = some (.int .i64 (xs.eraseIdx i)[k])) ∧ h'.nx = g4.nx ∧ h'.gd = g4.gd ∧ ∀ b, b ≤ o → b ≤ h.nx → Kp b g4 h' := by
    rw [hrun _ _ _ ⟨_, _, _, rfl⟩, src_get hrd]
    simp only [Option.bind_some, show ((xs.drop (i + 1)).map (Value.int .i64)).all one = true from all_one _, cond_true]
    rcases Nat.lt_or_ge (i + 1) xs.length with hlt | hge
    · have hk0 : Nat.beq (xs.length - (i + 1)) 0 = false := by rw [Bool.eq_false_iff]; intro hh; have := Nat.eq_of_beq_eq_true hh; omega
      simp only [hk0, cond_false]
      have hH : (g4.grd []).get o = some (.cells (xs.map (Value.int .i64)) 3 .grow) := H4
      have hcw : canW (g4.grd []) o i ((xs.drop (i + 1)).map (Value.int .i64)) = true := canW_t hH (by decide) hg (by simp; omega) (all_one _)
      have hw := writeAt_some hcw
      refine ⟨(g4.grd []).wr o i ((xs.drop (i + 1)).map (Value.int .i64)), ?_, _, wr_get hH (by decide) hg (by simp; omega) (all_one _), by rw [putAt_length, hcl], fun k hk => ?_, by rw [nx_wr]; rfl, by rw [gd_wr]; rfl, fun b h1 h2 => ((Kp.refl b g4)).wr h1 _ _⟩
      · unfold appSome
        have e5 : Nat.beq unk unk = true := Nat.beq_refl _
        have e6 : Nat.beq 3 3 = true := rfl
        have e7 : Nat.ble (0 + (i - 0 + (xs.length - (i + 1))) * 1) (xs.map (Value.int .i64)).length = true := by rw [hcl]; exact ble_t (by omega)
        simp only [hH, e5, e6, e7, cond_true, isGrow, Bool.and_self]
        rw [show 0 + (i - 0) * 1 = i by omega, hw, show i - 0 + (xs.length - (i + 1)) = xs.length - 1 by omega]; rfl
      · rw [putAt_get _ _ _ (by simp; omega)]
        have hkl : k < xs.length - 1 := by rw [List.length_eraseIdx_of_lt hi] at hk; exact hk
        rw [List.getElem_eraseIdx]
        simp only [List.length_map, List.length_drop]
        by_cases h1 : k < i
        · rw [if_neg (by omega)]
          simp [h1, show k < xs.length by omega]
        · rw [if_pos (by omega)]
          simp [h1, List.getElem?_eq_getElem (show i + 1 + (k - i) < xs.length by omega), show i + 1 + (k - i) = k + 1 by omega]
    · have hin : i + 1 = xs.length := by omega
      have e8 : xs.length - (i + 1) = 0 := by omega
      rw [e8]
      refine ⟨g4.grd [], ?_, _, H4, hcl, fun k hk => ?_, rfl, rfl, fun b _ _ => Kp.refl b g4⟩
      · show (bif Nat.ble (i - 0) unk then _ else _) = _
        rw [ble_t (by omega), show i - 0 = xs.length - 1 by omega]; rfl
      · have hkl : k < xs.length - 1 := by rw [List.length_eraseIdx_of_lt hi] at hk; exact hk
        rw [List.getElem_eraseIdx]
        simp [show k < i by omega, show k < xs.length by omega]
  obtain ⟨h', e9, cs, hcs, hcl2, hcx, hnx, hgd, hk⟩ := main
  refine ⟨_, _, _, _, e9, ?_⟩
  intro g15
  have H15 : g15.get o = some (.cells cs 3 .grow) := hcs
  have hg15 : g15.guarded o = false := hg
  refine ⟨_, _, _, slice_g (l := xs.length - 1) (hh := xs.length) H15 (bound_i (by omega)) (bound_i (by rw [hcl2]; omega)), ?_⟩
  have hcw : canW g15 o (xs.length - 1) [.int .i64 0] = true := canW_t H15 (by decide) hg15 (by simp; omega) rfl
  have e10 : elemT Tryd.prog 32 = some 3 := by kernel_rfl
  have e11 : ((Tryd.prog.info? 3).bind fun info => info.zero) = some (.int .i64 0) := by kernel_rfl
  obtain ⟨info3, e12, e13⟩ := Option.bind_eq_some_iff.1 e11
  refine ⟨g15.wr o (xs.length - 1) [.int .i64 0], ?_, rfl, ?_, fun b h1 h2 => (hk4 b h1 h2).trans (Kp.wr (h' := g15) ⟨(hk b h1 h2).get, (hk b h1 h2).nx, rfl, (hk b h1 h2).fr⟩ h1 _ _)⟩
  · unfold clearV
    simp only [e10, Option.bind_some, e12, e13, show xs.length - (xs.length - 1) = 1 by omega]
    show (bif Nat.beq 1 0 then _ else bif [Value.int .i64 0].all _ then _ else _) = _
    have : Nat.beq 1 0 = false := rfl
    rw [this, cond_false, show ([Value.int .i64 0].all fun v => flat v && one v) = true from rfl, cond_true]
    show (writeAt g15 o (xs.length - 1) [.int .i64 0]).map _ = _
    rw [writeAt_some hcw]; rfl
  · have hel : (xs.eraseIdx i).length = xs.length - 1 := List.length_eraseIdx_of_lt hi
    have := ints_of_get (xs := xs.eraseIdx i) (wr_get H15 (by decide) hg15 (vs := [.int .i64 0]) (off := xs.length - 1) (by simp; omega) rfl) (by rw [nx_wr]; show o < h'.nx; rw [hnx]; show o < h.nx + 8; omega) (by rw [putAt_length]; omega) fun k hk => by
      rw [putAt_get _ _ _ (by simp; omega), if_neg (by omega)]; exact hcx k hk
    rw [hel] at this; exact this
end
/-- What is left of a list, from the last one on, without which a clash remains. -/
def needF (cl : List Int → Bool) : Nat → List Int → List Int
  | 0, out => out
  | i + 1, out => if cl (out.eraseIdx i) = true then needF cl i (out.eraseIdx i) else needF cl i out
def clashN (ss : List (Nat × Nat)) (gs l : List Int) : Bool := !(fromN ss (gs ++ l)).2
section
variable {O : CallF} (hO : Oth O)
include hO
theorem lp97 {b : Nat} {h₀ : Hp} (ok : h₀.Ok) {vars left : Int} {a a1 a2 : Option Addr} {n c n1 c1 n2 c2 : Nat} (hb : h₀.get b = some (.cells (baseC vars a n c a1 n1 c1 left a2 n2 c2) 128 .fix)) (hbn : b < h₀.nx) {ss : List (Nat × Nat)} (H : SidesAt2 h₀ a n ss) (hl : ss.length < 1000000) (hss : ∀ p ∈ ss, p.1 < 2 ^ 30 ∧ p.2 < 2 ^ 30)
    {gs : List Int} (G : IntsAt h₀ a1 n1 gs) (hgl : gs.length < 1000000) (hg : ∀ x ∈ gs, Lit x) {a0 : Option Addr} {n0 c0 : Nat} {r : List Int} :
    ∀ (i : Nat) {out : List Int} {x6 : Int} {h : Hp} {a5 : Option Addr} {n5 c5 : Nat}, x6 = Int.ofNat i - 1 → i ≤ out.length → out.length < 1000000 → (∀ x ∈ out, Lit x) → IntsAt h a5 n5 out → Kp h₀.nx h₀ h → r = needF (clashN ss gs) i out →
      I97_0 O (fun v h' => ∃ a' n' c', v = .slice a' n' c' ∧ IntsAt h' a' n' r ∧ Kp h₀.nx h₀ h') a0 n0 c0 95 #[.pointer (some ⟨b, 0, none⟩)] #[] 95 #[.pointer (some ⟨b, 0, none⟩)] #[] a5 n5 c5 x6 h := by
  intro i
  induction i with
  | zero =>
    intro out x6 h a5 n5 c5 hx _ _ _ X kp hr
    subst hx
    refine I97_0.of (hh := ?_) ..
    unfold T97_0
    exact vcond_f rfl ⟨_, _, _, rfl, by rw [hr]; exact X, kp⟩
  | succ i ih =>
    intro out x6 h a5 n5 c5 hx hi hol hlit X kp hr
    obtain rfl : x6 = Int.ofNat i := by rw [hx]; simp only [Int.ofNat_eq_natCast]; omega
    have okh := ok.kp kp
    have f0 := kp.ex (Nat.le_refl _)
    refine I97_0.of (hh := ?_) ..
    unfold T97_0
    refine vcond_t (by rw [show ltI (Int.ofNat i) 0 = false from rfl]; rfl) ?_
    refine (ct60 hO okh X (by omega)).s fun a3 n3 c3 h3 ⟨A3, K3⟩ => ?_
    have hne : out.map (Value.int .i64) ≠ [] := fun e => by
      have : out.length = 0 := by simpa using congrArg List.length e
      omega
    rcases A3 with (⟨_, _, _, e⟩ | ⟨o, rfl, rfl, q3, q4, q5, q6⟩) | ⟨e, _⟩
    · exact absurd e hne
    · obtain rfl : n3 = out.length := by simpa using q3
      obtain ⟨v, h4, e4, rfl, Y, K4⟩ := ct59 hO (h := h3) (i := i) q6 q5 (GdLt.free (GdLt.kp okh.lt K3) q4) (by omega) hol
      rw [wrap_succ (by omega)]
      have K34 : Kp h.nx h h4 := K3.trans (K4 h.nx q4 K3.nx)
      have kp4 : Kp h₀.nx h₀ h4 := kp.trans (K34.le kp.nx)
      have f4 := kp4.ex (Nat.le_refl _)
      have hl2 : (out.eraseIdx i).length = out.length - 1 := List.length_eraseIdx_of_lt (by omega)
      have hlit2 : ∀ x ∈ out.eraseIdx i, Lit x := fun x hx => hlit x (List.mem_of_mem_eraseIdx hx)
      refine ⟨_, _, _, h4, e4, ?_⟩
      obtain ⟨v, h5, e5, rfl, K5⟩ := ct95 hO (ok.kp kp4) (by rw [kp4.get _ hbn]; exact hb) (Nat.lt_of_lt_of_le hbn kp4.nx) (H.to h4) hl hss (G.to h4) hgl hg Y (cm := unk) (by omega) hlit2
      have kp5 := kp4.trans (K5.le kp4.nx)
      refine ⟨_, h5, e5, ?_⟩
      rw [wrap64 (by simp only [Int.ofNat_eq_natCast]; omega) (by simp only [Int.ofNat_eq_natCast]; omega)]
      have f5 := K5.ex (Nat.le_refl _)
      have f35 : Ft h h5 := Ft.tr (K34.ex (Nat.le_refl _)) f5
      unfold needF at hr
      unfold clashN at hr
      refine vcond_split (fun hc => ?_) fun hc => ?_
      · rw [if_pos hc] at hr
        rw [← hl2] at Y ⊢
        exact ih rfl (by omega) (by omega) hlit2 (Y.to h5) kp5 hr
      · rw [if_neg (by rw [hc]; decide)] at hr
        exact ih rfl (by omega) hol hlit (X.to h5) kp5 hr
    · exact absurd e hne
theorem ct97 {b : Nat} {h : Hp} (ok : h.Ok) {vars left : Int} {a a1 a2 : Option Addr} {n c n1 c1 n2 c2 : Nat} (hb : h.get b = some (.cells (baseC vars a n c a1 n1 c1 left a2 n2 c2) 128 .fix)) (hbn : b < h.nx) {ss : List (Nat × Nat)} (H : SidesAt2 h a n ss) (hl : ss.length < 1000000) (hss : ∀ p ∈ ss, p.1 < 2 ^ 30 ∧ p.2 < 2 ^ 30)
    {gs xs : List Int} (G : IntsAt h a1 n1 gs) (hgl : gs.length < 1000000) (hg : ∀ x ∈ gs, Lit x) {am : Option Addr} {nm cm : Nat} (X : IntsAt h am nm xs) (hxl : xs.length < 1000000) (hx : ∀ x ∈ xs, Lit x) :
    Ret Tryd.prog O 97 [.slice am nm cm, .func (.func 95) #[.pointer (some ⟨b, 0, none⟩)] #[]] h fun v h' => ∃ a' n' c', v = .slice a' n' c' ∧ IntsAt h' a' n' (needF (clashN ss gs) xs.length xs) ∧ Kp h.nx h h' := by
  refine rk97 _ _ _ _ _ _ (hO _ _ _ (by decide)) ?_
  unfold T97
  refine (ct60 hO ok X (by omega)).s fun a3 n3 c3 h3 ⟨A3, K3⟩ => ?_
  have hn3 : n3 = xs.length := (accE_ints A3).1
  exact lp97 hO ok hb hbn H hl hss G hgl hg xs.length (by rw [hn3, wrap64 (by simp only [Int.ofNat_eq_natCast]; omega) (by simp only [Int.ofNat_eq_natCast]; omega)]) (Nat.le_refl _) hxl hx (accE_ints A3) K3 rfl
end
end Go.Proofs.YtfgfhplgnfbaaaaDoor
/- Resolving, its result at a new place. -/
namespace Go.Proofs.YtfgfhplgnfbaaaaDoor
open Go Go.Ev
/-- A list at a new place, and an error. -/
def RPairF (h : Hp) (r : List Int × Int) (v : Value) (h' : Hp) : Prop := ∃ a n c, v = .tuple #[.slice a n c, .int .i64 r.2] ∧ IntsAt h' a n r.1 ∧ Kp h.nx h h' ∧ (∀ b off, a = some ⟨b, off, none⟩ → h.nx ≤ b) ∧ (a = none ∨ 0 < n)
theorem RPairF.none {h h' : Hp} {e : Int} (k : Kp h.nx h h') : RPairF h ([], e) (.tuple #[.slice none 0 0, .int .i64 e]) h' := ⟨_, _, _, rfl, SlAt.nil .., k, (fun _ _ e => by cases e), .inl rfl⟩
section
variable {O : CallF} (hO : Oth O)
include hO
omit hO in
theorem digits_nil {z : Nat} (hz : z < 2 ^ 30) (h : digits 30 z = []) : z = 0 := by
  rcases Nat.eq_zero_or_pos z with h0 | h0
  · exact h0
  · obtain ⟨k, j, rfl⟩ := low_split z h0
    have hk : k < 30 := by
      rcases Nat.lt_or_ge k 30 with h1 | h1
      · exact h1
      · have := Nat.pow_le_pow_right (n := 2) (by decide) h1; omega
    rw [digits_step hk] at h; cases h
/-- A list at a new place; of no elements: nowhere. -/
def RIntsE (h : Hp) (xs : List Int) (v : Value) (h' : Hp) : Prop := ∃ a n c, v = .slice a n c ∧ IntsAt h' a n xs ∧ Kp h.nx h h' ∧ (∀ b off, a = some ⟨b, off, none⟩ → h.nx ≤ b) ∧ (a = none ∨ 0 < n)
theorem ct90E {y m : Nat} (hy : y < 2 ^ 30) (hm : m < 2 ^ 30) {h : Hp} (hk : h.Ok) (ht : Tb h) : Ret Tryd.prog O 90 [.agg #[U y, U m]] h (RIntsE h (litsN y m)) := by
  cases hl : litsN y m with
  | nil =>
    have h0 : y ||| m = 0 := digits_nil (Nat.or_lt_two_pow hy hm) (by unfold litsN at hl; simpa using hl)
    refine rk90 _ _ (hO _ _ _ (by decide)) ?_
    unfold T90
    have g1 : (h.add (.cells [U y, U m] 102 .fix)).get h.nx = some (.cells [U y, U m] 102 .fix) := get_add_same ..
    refine ⟨_, read1 g1 rfl, _, read1 g1 rfl, vreq_t (inD_of (by omega)) (vreq_t (inD_of (by omega)) ?_)⟩
    rw [lor_nat, h0]
    refine I90_0.of _ _ _ _ _ _ _ _ ?_
    intros
    unfold T90_0
    exact vcond_f rfl ⟨_, _, _, rfl, SlAt.nil .., (Kp.refl _ _).add (Nat.le_refl _) _, (fun _ _ e => by cases e), .inl rfl⟩
  | cons x xs =>
    obtain ⟨v, h', e, a, n, c, rfl, X, K, F⟩ := ct90 hO hy hm hk ht
    exact ⟨_, h', e, a, n, c, rfl, by rw [← hl]; exact X, K, F, .inr (by rw [X.1, hl]; simp)⟩
theorem lp38F {a a' al : Option Addr} {n c n' c' nl cl : Nat} {v : Int} {h₀ : Hp} {b8 : Nat} {L : List Int} (hL : ∀ x ∈ L, Lit x) (hll : L.length < 1000000) (hv : 1 ≤ v ∧ v ≤ 30) (hb8 : h₀.nx ≤ b8) (ha : ∀ b off, al = some ⟨b, off, none⟩ → b ≠ b8) (ho : h₀.Ok) (ht : Tb h₀) {r : List Int × Int} :
    ∀ (d k : Nat), k + d = L.length → ∀ (y m : Nat) (q : Bool) {h : Hp}, y < 2 ^ 30 → m < 2 ^ 30 → IntsAt h al nl L → h.get b8 = some (.cells [U y, U m] 102 .fix) → b8 < h.nx → Kp h₀.nx h₀ h →
      r = fin38 (rsF v (L.drop k) y m q) → I38_0 O (RPairF h₀ r) a n c a' n' c' v b8 0 q al nl cl (Int.ofNat nl) (Int.ofNat k) h := by
  intro d
  induction d with
  | zero =>
    intro k hk y m q h hy hm H g8 hb kp hr
    have hn := H.1
    refine I38_0.of _ _ _ _ _ _ _ _ _ _ _ _ _ _ _ ?_
    intros
    unfold T38_0
    refine vcond_f (by rw [ltI_nat]; exact blt_f (by omega)) ?_
    rw [List.drop_of_length_le (by omega)] at hr
    simp only [rsF] at hr
    refine vcond_split (fun h1 => ?_) fun h1 => ?_
    · have h1 : q = false := by simpa using h1
      subst h1
      subst hr
      exact .none kp
    · have h1 : q = true := by simpa using h1
      subst h1
      subst hr
      obtain ⟨v', h', e1, a3, n3, c3, rfl, A, K, F, E⟩ := ct90E hO hy hm (ho.kp kp) (ht.kp kp ht.1)
      refine ⟨_, _, readAt_get g8 (by simp), _, _, _, _, e1, _, _, _, rfl, A, kp.trans (K.le kp.nx), (fun b off e => Nat.le_trans kp.nx (F b off e)), E⟩
  | succ d ih =>
    intro k hk y m q h hy hm H g8 hb kp hr
    have hn := H.1
    refine I38_0.of _ _ _ _ _ _ _ _ _ _ _ _ _ _ _ ?_
    intros
    unfold T38_0
    have e1 : L.drop k = L[k] :: L.drop (k + 1) := List.drop_eq_getElem_cons (by omega)
    rw [e1] at hr
    simp only [rsF] at hr
    have hlit := hL L[k] (List.getElem_mem _)
    refine vcond_t (by rw [ltI_nat]; exact blt_t (by omega)) (isNat_of (H.get (k := k) (by omega) fun b off h1 h2 hrd => vreq_t (blt_t (by omega)) ⟨_, hrd, ?_⟩))
    have hneg : wrapF .i64 (0 - v) = -v := by rw [wrap64] <;> omega
    rw [hneg, wrap_succ (by omega)]
    refine vcond_split (fun h3 => ?_) fun h3 => vcond_split (fun h4 => ?_) fun h4 => ?_
    · rw [if_pos (.inl (eq_of_t h3))] at hr
      exact ih (k + 1) (by omega) y m q hy hm H g8 hb kp hr ..
    · rw [if_pos (.inr (eq_of_t h4))] at hr
      exact ih (k + 1) (by omega) y m q hy hm H g8 hb kp hr ..
    · rw [if_neg (by rintro (h | h)
                     · exact ne_of_f h3 h
                     · exact ne_of_f h4 h)] at hr
      obtain ⟨v2, h2', e2, rfl, K2⟩ := ct104 hO hlit hy hm (ho.kp kp)
      obtain ⟨l1, l2⟩ := withN_lt hlit hy hm
      refine ⟨_, _, readAt_get g8 (by simp), _, _, _, _, e2, ?_⟩
      generalize (withN y m L[k]).1 = y1 at *
      generalize (withN y m L[k]).2 = m1 at *
      have ok2 : h2'.Ok := ho.kp (kp.trans (K2.le kp.nx))
      have gn : (h2'.add (.cells [(.int .u32 0), (.int .u32 0)] 102 .fix)).get h2'.nx = _ := get_add_same ..
      have gu : ∀ o, h₀.nx ≤ o → (h2'.add (.cells [(.int .u32 0), (.int .u32 0)] 102 .fix)).guarded o = false := fun o ho' => guarded_of fun q hq => by
        have : q ∈ h₀.gd := by have := (kp.trans (K2.le kp.nx)).gd; rw [← this]; exact hq
        have := ho.gd q this; omega
      have hnx2 : h₀.nx ≤ h2'.nx := Nat.le_trans kp.nx K2.nx
      refine vreq_t (canW_t gn (by decide) (gu _ hnx2) (by simp) rfl) ⟨_, _, readAt_get (wr_get gn (by decide) (gu _ hnx2) (by simp) rfl) (by simp [putAt]), ?_⟩
      have hb2 : b8 < h2'.nx := Nat.lt_of_lt_of_le hb K2.nx
      have g8' : ((h2'.add (.cells [(.int .u32 0), (.int .u32 0)] 102 .fix)).wr h2'.nx 0 [U y1, U m1]).get b8 = some (.cells [U y, U m] 102 .fix) := by
        rw [wr_get_ne _ _ _ _ (by omega), get_add_ne (by omega), K2.get _ hb]; exact g8
      have gu' : ((h2'.add (.cells [(.int .u32 0), (.int .u32 0)] 102 .fix)).wr h2'.nx 0 [U y1, U m1]).guarded b8 = false := by
        have := gu b8 hb8
        unfold Hp.guarded at *
        rw [gd_wr]; exact this
      have cw := canW_t g8' (by decide) gu' (off := 0) (vs := [U y1, U m1]) (by simp) rfl
      have next : ∀ q', r = fin38 (rsF v (L.drop (k + 1)) y1 m1 q') →
          I38_0 O (RPairF h₀ r) a n c a' n' c' v b8 0 q' al nl cl (Int.ofNat nl) (Int.ofNat (k + 1)) (((h2'.add (.cells [(.int .u32 0), (.int .u32 0)] 102 .fix)).wr h2'.nx 0 [U y1, U m1]).wr b8 0 [U y1, U m1]) := by
        intro q' hr'
        refine ih (k + 1) (by omega) y1 m1 q' l1 l2 ?_ (wr_get g8' (by decide) gu' (by simp) rfl) (by rw [nx_wr, nx_wr, nx_add]; omega) ?_ hr'
        · refine (H.up EInt.up K2).keep (fun b' off' hab => ?_) (by rw [nx_wr, nx_wr, nx_add]; omega) fun _ _ h => h
          have hne := ha b' off' hab
          rcases H.2 with ⟨_, h0⟩ | ⟨b3, off3, _, _, _, h0, hlt, _⟩
          · rw [h0] at hab; cases hab
          · rw [h0] at hab; injection hab with hab; injection hab with hab _
            have := K2.nx
            rw [wr_get_ne _ _ _ _ hne, wr_get_ne _ _ _ _ (by omega), get_add_ne (by omega)]
        · exact (((kp.trans (K2.le kp.nx)).add hnx2 _).wr hnx2 _ _).wr hb8 _ _
      refine vcond_split (fun h5 => ?_) fun h5 => ?_
      · subst h5
        exact vreq_t cw (next _ (by simpa using hr) ..)
      · subst h5
        exact vreq_t cw (next _ (by simpa using hr) ..)
theorem ct38F {a a' : Option Addr} {n c n' c' : Nat} {h : Hp} {xs ys : List Int} (v : Int) (H : IntsAt h a n xs) (H' : IntsAt h a' n' ys) (hl : xs.length < 1000) (hl' : ys.length < 1000) (ho : h.Ok) (ht : Tb h) : Ret Tryd.prog O 38 [.slice a n c, .slice a' n' c', .int .i64 v] h (RPairF h (resP xs ys v)) := by
  refine rk38 _ _ _ _ _ _ _ (hO _ _ _ (by decide)) ?_
  unfold T38 resP
  refine ⟨_, _, ct87 hO 30 H (by omega), vcond_split (fun h1 => ?_) fun h1 => ⟨_, _, ct87 hO 30 H' (by omega), vcond_split (fun h2 => ?_) fun h2 => vcond_split (fun h3 => ?_) fun h3 => vcond_split (fun h4 => ?_) fun h4 => ?_⟩⟩
  · rw [if_pos (.inl (by simpa using h1))]; exact .none (.refl _ _)
  · rw [if_pos (.inr (.inl (by simpa using h2)))]; exact .none (.refl _ _)
  · rw [if_pos (.inr (.inr (.inl (lt_of_t h3))))]; exact .none (.refl _ _)
  · rw [if_pos (.inr (.inr (.inr (lt_of_t h4))))]; exact .none (.refl _ _)
  · have h3 := not_lt_of_f h3
    have h4 := not_lt_of_f h4
    have hc1 : clB 30 0 xs = true := by simpa using h1
    have hc2 : clB 30 0 ys = true := by simpa using h2
    rw [if_neg (by rw [hc1, hc2]; simp; omega)]
    have hneg : wrapF .i64 (0 - v) = -v := by rw [wrap64] <;> omega
    rw [hneg]
    refine ⟨_, _, ct62 hO v H (by omega), vcond_split (fun h5 => ?_) fun h5 => ⟨_, _, ct62 hO (-v) H' (by omega), vcond_split (fun h6 => ?_) fun h6 => ?_⟩⟩
    · rw [if_pos (.inl (by simpa using h5))]; exact .none (.refl _ _)
    · rw [if_pos (.inr (by simpa using h6))]; exact .none (.refl _ _)
    · rw [if_neg (by simp at h5 h6; simp [h5, h6])]
      let h1' := h.add (.cells [U 0, U 0] 102 .fix)
      let h2' := h1'.add (.cells [(.slice a n c), (.slice a' n' c')] 32 .fix)
      have k1 : Kp h.nx h h2' := ((Kp.refl _ _).add (Nat.le_refl _) _).add (by rw [nx_add]; omega) _
      have I1 := H.up EInt.up k1
      have I2 := H'.up EInt.up k1
      have LL : IntssAt h2' (some ⟨h1'.nx, 0, none⟩) 2 [xs, ys] := by
        refine ⟨rfl, .inr ⟨h1'.nx, 0, _, _, _, rfl, by show h1'.nx < h1'.nx + 1; omega, get_add_same .., by simp, fun i hi => ?_⟩⟩
        match i, hi with
        | 0, _ => exact ⟨a, n, c, rfl, I1⟩
        | 1, _ => exact ⟨a', n', c', rfl, I2⟩
      obtain ⟨v', h3', e1, a3, n3, c3, rfl, A, K, F⟩ := ct103 hO LL (by simp) (by simp [lenSum]; omega) (ho.kp k1) (c := 2)
      refine ⟨_, _, _, _, e1, ?_⟩
      have hA : [xs, ys].flatten = xs ++ ys := by simp
      rw [hA] at A
      have hA1 := A.1
      rw [hA1]
      rw [hA1] at A
      have g8 : h2'.get h.nx = some (.cells [U 0, U 0] 102 .fix) := by
        show (h1'.add _).get h.nx = _
        rw [get_add_ne (by show h.nx ≠ h.nx + 1; omega)]
        exact get_add_same ..
      refine lp38F hO (L := xs ++ ys) (h₀ := h) (fun x hx => ?_) (by simp; omega) ⟨by omega, by omega⟩ (Nat.le_refl _) (fun b off e => ?_) ho ht (xs ++ ys).length 0 (by omega) 0 0 true (by decide) (by decide) A ?_ ?_ (k1.trans (K.le k1.nx)) rfl ..
      · rcases List.mem_append.1 hx with hx | hx
        · exact (clB_lit (by decide) hc1 x hx).1
        · exact (clB_lit (by decide) hc2 x hx).1
      · have := F b off e
        have : h2'.nx = h.nx + 2 := rfl
        omega
      · rw [K.get _ (by show h.nx < h.nx + 2; omega)]; exact g8
      · exact Nat.lt_of_lt_of_le (by show h.nx < h.nx + 2; omega) K.nx
end
end Go.Proofs.YtfgfhplgnfbaaaaDoor
/- The walk of search: the base while it is searched. -/
namespace Go.Proofs.YtfgfhplgnfbaaaaDoor
open Go Go.Ev
/-- It lies neither in the base nor in the list of lines. -/
def Aw (b : Nat) (a2 a : Option Addr) : Prop := ∀ q off, a = some ⟨q, off, none⟩ → q ≠ b ∧ a2 ≠ some ⟨q, 0, none⟩
theorem Aw.none (b : Nat) (a2 : Option Addr) : Aw b a2 none := fun _ _ e => by cases e
/-- The lines: each lies elsewhere. -/
def Ln (b : Nat) (h : Hp) (a : Option Addr) (n c : Nat) (xss : List (List Int)) : Prop :=
  ∃ vs, Acc h (b + 1) 32 1 a n c vs ∧ Lis h vs xss ∧ ∀ v ∈ vs, ∀ a1 n1 c1, v = .slice a1 n1 c1 → Aw b a a1 ∧ (a1 = none ∨ 0 < n1)
/-- From one memory to a later one: the base and the list of lines may change. -/
structure Nx (b : Nat) (a2 : Option Addr) (h : Hp) (a2' : Option Addr) (h' : Hp) : Prop where
  nx : h.nx ≤ h'.nx
  gd : h'.gd = h.gd
  fr : h.Fresh → h'.Fresh
  get : ∀ o, o < h.nx → o ≠ b → a2 ≠ some ⟨o, 0, none⟩ → h'.get o = h.get o
  nw : a2' = a2 ∨ ∀ q off, a2' = some ⟨q, off, none⟩ → h.nx ≤ q
theorem Nx.of {b : Nat} {a2 : Option Addr} {h h' : Hp} (k : Kp h.nx h h') : Nx b a2 h a2 h' := ⟨k.nx, k.gd, k.fr, fun o ho _ _ => k.get o ho, .inl rfl⟩
theorem Nx.refl (b : Nat) (a2 : Option Addr) (h : Hp) : Nx b a2 h a2 h := .of (.refl _ _)
theorem Nx.trans {b : Nat} {a2 a3 a4 : Option Addr} {h h' h'' : Hp} (k : Nx b a2 h a3 h') (l : Nx b a3 h' a4 h'') : Nx b a2 h a4 h'' := by
  refine ⟨Nat.le_trans k.nx l.nx, l.gd.trans k.gd, fun f => l.fr (k.fr f), fun o ho h1 h2 => ?_, ?_⟩
  · rw [l.get o (Nat.lt_of_lt_of_le ho k.nx) h1, k.get o ho h1 h2]
    rcases k.nw with rfl | e
    · exact h2
    · exact fun e2 => by have := e _ _ e2; omega
  · rcases l.nw with rfl | e
    · exact k.nw
    · exact .inr fun q off e2 => Nat.le_trans k.nx (e q off e2)
theorem Nx.aw {b : Nat} {a2 a3 : Option Addr} {h h' : Hp} (k : Nx b a2 h a3 h') {a : Option Addr} (ha : Aw b a2 a) (hn : ∀ q off, a = some ⟨q, off, none⟩ → q < h.nx) : Aw b a3 a := fun q off e => by
  refine ⟨(ha q off e).1, ?_⟩
  rcases k.nw with rfl | e2
  · exact (ha q off e).2
  · exact fun e3 => by have := e2 _ _ e3; have := hn q off e; omega
theorem SlAt.lt {α : Type} {w : Nat} {R : Enc α} {h : Hp} {a : Option Addr} {n : Nat} {xs : List α} (X : SlAt w R h a n xs) : ∀ q off, a = some ⟨q, off, none⟩ → q < h.nx := fun q off e => by
  rcases X.2 with ⟨_, e2⟩ | ⟨b, off', _, _, _, e2, h2, _⟩
  · rw [e2] at e; cases e
  · rw [e2] at e; injection e with e; injection e with e; omega
/-- What lies elsewhere stays. -/
theorem Nx.sl {α : Type} {w : Nat} {R : Enc α} {b : Nat} {a2 a3 : Option Addr} {h h' : Hp} (k : Nx b a2 h a3 h') (hR : ∀ x vs, R h x vs → R h' x vs) {a : Option Addr} {n : Nat} {xs : List α} (X : SlAt w R h a n xs) (ha : Aw b a2 a) : SlAt w R h' a n xs :=
  X.keep (fun q off e => k.get q (SlAt.lt X q off e) (ha q off e).1 (ha q off e).2) k.nx hR
theorem Nx.ints {b : Nat} {a2 a3 : Option Addr} {h h' : Hp} (k : Nx b a2 h a3 h') {a : Option Addr} {n : Nat} {xs : List Int} (X : IntsAt h a n xs) (ha : Aw b a2 a) : IntsAt h' a n xs := k.sl (fun _ _ h => h) X ha
/-- A base while it is searched. -/
structure Bs (b : Nat) (vars : Int) (a : Option Addr) (n c : Nat) (a1 : Option Addr) (n1 c1 : Nat) (ss : List (Nat × Nat)) (gs : List Int) (left : Int) (lines : List (List Int)) (a2 : Option Addr) (n2 c2 : Nat) (h : Hp) : Prop where
  ok : h.Ok
  tb : Tb h
  bn : b < h.nx
  get : h.get b = some (.cells (baseC vars a n c a1 n1 c1 left a2 n2 c2) 128 .fix)
  S : SidesAt2 h a n ss
  Sa : Aw b a2 a
  G : IntsAt h a1 n1 gs
  Ga : Aw b a2 a1
  L : Ln b h a2 n2 c2 lines
  ug : ∀ q ∈ h.gd, q ≠ b ∧ a2 ≠ some ⟨q, 0, none⟩
section
variable {b : Nat} {vars : Int} {a : Option Addr} {n c : Nat} {a1 : Option Addr} {n1 c1 : Nat} {ss : List (Nat × Nat)} {gs : List Int} {left : Int} {lines : List (List Int)} {a2 : Option Addr} {n2 c2 : Nat} {h h' : Hp}
theorem Ln.lt (L : Ln b h a2 n2 c2 lines) : ∀ q, a2 = some ⟨q, 0, none⟩ → b < q ∧ q < h.nx := fun q e => let ⟨_, A, _, _⟩ := L; A.lt e
theorem Bs.ub (B : Bs b vars a n c a1 n1 c1 ss gs left lines a2 n2 c2 h) : h.guarded b = false := guarded_of fun q hq => (B.ug q hq).1
theorem Bs.ul (B : Bs b vars a n c a1 n1 c1 ss gs left lines a2 n2 c2 h) : ∀ q, a2 = some ⟨q, 0, none⟩ → h.guarded q = false := fun q e => guarded_of fun p hp e2 => (B.ug p hp).2 (by rw [e2]; exact e)
theorem Bs.tb0 (B : Bs b vars a n c a1 n1 c1 ss gs left lines a2 n2 c2 h) : 0 ≠ b ∧ a2 ≠ some ⟨0, 0, none⟩ := by
  refine ⟨fun e => ?_, fun e => ?_⟩
  · have := B.tb.2; rw [e, B.get] at this; injection this with this; injection this with _ _ this; cases this
  · have := (B.L.lt 0 e).1; omega
/-- Something else is laid. -/
theorem Bs.kp (B : Bs b vars a n c a1 n1 c1 ss gs left lines a2 n2 c2 h) (k : Kp h.nx h h') : Bs b vars a n c a1 n1 c1 ss gs left lines a2 n2 c2 h' := by
  obtain ⟨vs, A, L, V⟩ := B.L
  exact ⟨B.ok.kp k, B.tb.kp k B.tb.1, Nat.lt_of_lt_of_le B.bn k.nx, by rw [k.get _ B.bn]; exact B.get, B.S.up (ECells.up uu) k, B.Sa, B.G.up EInt.up k, B.Ga, ⟨vs, A.keep (fun o ho _ => k.get o ho) k.nx, L.up k, V⟩, fun q hq => B.ug q (by rw [← k.gd]; exact hq)⟩
theorem Bs.grd (B : Bs b vars a n c a1 n1 c1 ss gs left lines a2 n2 c2 h) {l : List Nat} (hl : ∀ q ∈ l, q < h.nx ∧ q ≠ b ∧ a2 ≠ some ⟨q, 0, none⟩) : Bs b vars a n c a1 n1 c1 ss gs left lines a2 n2 c2 (h.grd l) := by
  obtain ⟨vs, A, L, V⟩ := B.L
  refine ⟨⟨fun q hq => ?_, B.ok.fr⟩, B.tb, B.bn, B.get, B.S.keep (fun _ _ _ => rfl) (Nat.le_refl _) fun _ _ h => h, B.Sa, B.G.keep (fun _ _ _ => rfl) (Nat.le_refl _) fun _ _ h => h, B.Ga, ⟨vs, A.keep (fun _ _ _ => rfl) (Nat.le_refl _), L, V⟩, fun q hq => ?_⟩
  · rcases List.mem_append.1 hq with hq | hq
    · exact (hl q hq).1
    · exact B.ok.gd q hq
  · rcases List.mem_append.1 hq with hq | hq
    · exact (hl q hq).2
    · exact B.ug q hq
theorem Nx.rst {a3 : Option Addr} {l : List Nat} (k : Nx b a2 (h.grd l) a3 h') : Nx b a2 h a3 (h'.rst h) := ⟨k.nx, rfl, k.fr, k.get, k.nw⟩
theorem Bs.rst {left0 left' : Int} {lines0 lines' : List (List Int)} {a3 : Option Addr} {n3 c3 : Nat} (B0 : Bs b vars a n c a1 n1 c1 ss gs left0 lines0 a2 n2 c2 h) (B : Bs b vars a n c a1 n1 c1 ss gs left' lines' a3 n3 c3 h') {l : List Nat} (k : Nx b a2 (h.grd l) a3 h') : Bs b vars a n c a1 n1 c1 ss gs left' lines' a3 n3 c3 (h'.rst h) := by
  obtain ⟨vs, A, L, V⟩ := B.L
  refine ⟨⟨fun q hq => Nat.lt_of_lt_of_le (B0.ok.gd q hq) k.nx, B.ok.fr⟩, B.tb, B.bn, B.get, B.S.keep (fun _ _ _ => rfl) (Nat.le_refl _) fun _ _ h => h, B.Sa, B.G.keep (fun _ _ _ => rfl) (Nat.le_refl _) fun _ _ h => h, B.Ga, ⟨vs, A.keep (fun _ _ _ => rfl) (Nat.le_refl _), L, V⟩, fun q hq => ⟨(B0.ug q hq).1, ?_⟩⟩
  rcases k.nw with rfl | e
  · exact (B0.ug q hq).2
  · exact fun e2 => by have := e _ _ e2; have := B0.ok.gd q hq; have : (h.grd l).nx = h.nx := rfl; omega
/-- Nodes are counted down. -/
theorem Bs.count (B : Bs b vars a n c a1 n1 c1 ss gs left lines a2 n2 c2 h) (l' : Int) : canW h b (0 + 3) [.int .i64 l'] = true ∧ Bs b vars a n c a1 n1 c1 ss gs l' lines a2 n2 c2 (h.wr b (0 + 3) [.int .i64 l']) ∧ Nx b a2 h a2 (h.wr b (0 + 3) [.int .i64 l']) := by
  have gw := wr_get B.get (by decide) B.ub (off := 0 + 3) (vs := [.int .i64 l']) (by simp [baseC]) rfl
  have ne : ∀ q, q ≠ b → (h.wr b (0 + 3) [.int .i64 l']).get q = h.get q := fun q hq => wr_get_ne _ _ _ _ hq
  have nx : (h.wr b (0 + 3) [.int .i64 l']).nx = h.nx := nx_wr ..
  have gd : (h.wr b (0 + 3) [.int .i64 l']).gd = h.gd := gd_wr ..
  have K : Nx b a2 h a2 (h.wr b (0 + 3) [.int .i64 l']) := ⟨Nat.le_of_eq nx.symm, gd, fun f => f.wr _ _ _, fun q _ hq _ => ne q hq, .inl rfl⟩
  obtain ⟨vs, A, L, V⟩ := B.L
  refine ⟨canW_t B.get (by decide) B.ub (by simp [baseC]) rfl, ⟨⟨fun q hq => by rw [gd] at hq; rw [nx]; exact B.ok.gd q hq, B.ok.fr.wr _ _ _⟩, ⟨by rw [nx]; exact B.tb.1, by rw [ne _ B.tb0.1]; exact B.tb.2⟩, by rw [nx]; exact B.bn, gw, K.sl (fun _ _ h => h) B.S B.Sa, B.Sa, K.ints B.G B.Ga, B.Ga, ⟨vs, A.keep (fun o _ e => ne o (by have := (A.lt e).1; omega)) (Nat.le_of_eq nx.symm), ⟨L.1, fun i hi => ?_⟩, V⟩, fun q hq => B.ug q (by rw [← gd]; exact hq)⟩, K⟩
  obtain ⟨v, hv, a', n', c', e, X⟩ := L.2 i hi
  exact ⟨v, hv, a', n', c', e, K.ints X (V v (List.mem_of_getElem? hv) a' n' c' (by simpa using e)).1⟩
/-- One list is appended: what is guarded must not be the list. -/
theorem append_f {P : Program} {sT e : TypeId} {bytes : Nat} (T : AppT P sT e 1 bytes) {h : Hp} {base : Nat} {a : Option Addr} {n c : Nat} {xs : List Value} (H : Acc h base e 1 a n c xs) (hb : base ≤ h.nx) (hg : ∀ q, a = some ⟨q, 0, none⟩ → h.guarded q = false)
    {x y : Value} (hx : ∃ a n c, x = .slice a n c) (hs : srcCells h 1 x = some ([y], 1)) (h1 : one y = true) (hB : (n + 1 + (n + 1)) * bytes ≤ 281474976710656) (hU : n + 1 < big) :
    ∃ h', appendV P h sT sT (.slice a n c) x = some (.slice (some ⟨h.nx, 0, none⟩) (n + 1) unk, h') ∧ Acc h' base e 1 (some ⟨h.nx, 0, none⟩) (n + 1) unk (xs ++ [y]) ∧ AppK h h' a := by
  obtain ⟨hz, info, z, hi, hzz, hrun⟩ := T.run
  rw [hrun h _ x hx, hs]
  simp only [Option.bind_some, List.all_cons, List.all_nil, h1, Bool.and_true, cond_true, show Nat.beq 1 0 = false from rfl, cond_false]
  have new : ∀ m old, m = n + 1 → appNew h e bytes old [y] m = some (.slice (some ⟨h.nx, 0, none⟩) m unk, h.add (.cells (old ++ [y]) e .grow)) := by
    rintro m old rfl
    unfold appNew
    rw [ble_t hB, blt_t hU]; rfl
  rcases H with ⟨rfl, rfl, rfl, rfl⟩ | ⟨o, rfl, rfl, h3, h4, h5, h6⟩
  · exact ⟨_, new 1 [] (by omega), .inr ⟨h.nx, rfl, rfl, by simp, hb, by rw [nx_add]; omega, get_add_same ..⟩, ⟨by rw [nx_add]; omega, rfl, fun f => f.add _, fun q hq _ => get_add_ne (by omega)⟩⟩
  · have hcap : Nat.beq unk unk = true := Nat.beq_refl _
    have hee : Nat.beq e e = true := Nat.beq_refl _
    have e1 : appSome h e bytes 1 (.slice (some ⟨o, 0, none⟩) n unk) [y] 1 = ((appNew h e bytes (xs.drop 0) [y] (n + 1)).bind fun r => (r.2.put o none).map fun h' => (r.1, h')) := by
      unfold appSome
      have : Nat.ble (0 + (n + 1) * 1) xs.length = false := by
        rw [Bool.eq_false_iff]; intro hh
        have hh : 0 + (n + 1) * 1 ≤ xs.length := by simpa using hh
        omega
      simp only [h6, hcap, hee, cond_true, isGrow, Bool.and_self, this, cond_false]
      rw [show Nat.beq (0 + n * 1) xs.length = true by rw [Nat.beq_eq]; omega]; rfl
    rw [e1, new _ _ rfl, Option.bind_some]
    have gf : (h.add (.cells (xs.drop 0 ++ [y]) e .grow)).guarded o = false := hg o rfl
    have hput : ∃ h', (h.add (.cells (xs.drop 0 ++ [y]) e .grow)).put o none = some h' := by
      unfold Hp.put; rw [gf]; exact ⟨_, rfl⟩
    obtain ⟨h', hp⟩ := hput
    obtain ⟨p1, p2, p3, p4⟩ := Hp.get_put hp
    have p4 : ∀ q, h'.get q = if q = o then none else (h.add (.cells (xs.drop 0 ++ [y]) e .grow)).get q := p4
    simp only [hp, Option.map_some]
    refine ⟨h', rfl, .inr ⟨h.nx, rfl, rfl, by simp; omega, hb, by rw [p1, nx_add]; omega, ?_⟩, ⟨by rw [p1, nx_add]; omega, p2, fun f q hq => ?_, fun q hq hne => ?_⟩⟩
    · rw [p4, if_neg (by omega), get_add_same]; simp
    · rw [p1] at hq
      rw [p4]
      split
      · rfl
      · exact (f.add _) q hq
    · rw [p4, if_neg (fun hh => hne (by rw [hh])), get_add_ne (by omega)]
/-- A line more: what is laid, and what is written into the base. -/
theorem Bs.line (B : Bs b vars a n c a1 n1 c1 ss gs left lines a2 n2 c2 h) (hl : lines.length < 1000000) {ac : Option Addr} {nc cc : Nat} {cl : List Int} (X : IntsAt h ac nc cl) (ha : Aw b a2 ac) (hne : ac = none ∨ 0 < nc) :
    ∃ h1, appendV Tryd.prog (h.add (.cells [.slice ac nc cc] 32 .fix)) 28 28 (.slice a2 n2 c2) (.slice (some ⟨h.nx, 0, none⟩) 1 1) = some (.slice (some ⟨h.nx + 1, 0, none⟩) (n2 + 1) unk, h1) ∧ canW h1 b (0 + 4) [.slice (some ⟨h.nx + 1, 0, none⟩) (n2 + 1) unk] = true ∧
      (let h' := h1.wr b (0 + 4) [.slice (some ⟨h.nx + 1, 0, none⟩) (n2 + 1) unk]; Bs b vars a n c a1 n1 c1 ss gs left (lines ++ [cl]) (some ⟨h.nx + 1, 0, none⟩) (n2 + 1) unk h' ∧ Nx b a2 h (some ⟨h.nx + 1, 0, none⟩) h' ∧ IntsAt h' ac nc cl ∧ Aw b (some ⟨h.nx + 1, 0, none⟩) ac) := by
  obtain ⟨vs, A, L, V⟩ := B.L
  have hn2 : n2 = lines.length := by
    have := L.1
    rcases A with ⟨_, h1, _, h4⟩ | ⟨_, _, _, h3, _⟩
    · rw [h4] at this; rw [h1]; exact this
    · omega
  have hb := B.bn
  have k0 : Kp h.nx h (h.add (.cells [.slice ac nc cc] 32 .fix)) := (Kp.refl _ _).add (Nat.le_refl _) _
  have B1 := B.kp k0
  have A1 : Acc (h.add (.cells [.slice ac nc cc] 32 .fix)) (b + 1) 32 1 a2 n2 c2 vs := A.keep (fun o ho _ => k0.get o ho) k0.nx
  have hnx1 : (h.add (.cells [.slice ac nc cc] 32 .fix)).nx = h.nx + 1 := nx_add ..
  obtain ⟨h1, e1, A2, K⟩ := append_f app28 A1 (by rw [hnx1]; omega) B1.ul ⟨_, _, _, rfl⟩ (src_get (n := 1) (c := 1) (esz := 1) (off := 0) (read1 (i := 0) (v := .slice ac nc cc) (get_add_same ..) rfl)) rfl (by omega) (by unfold big; omega)
  rw [hnx1] at e1 A2
  have hbk : h1.get b = some (.cells (baseC vars a n c a1 n1 c1 left a2 n2 c2) 128 .fix) := by
    rw [K.get b (by rw [hnx1]; omega) (fun e => by have := (B.L.lt b e).1; omega)]; exact B1.get
  have gd1 : h1.gd = h.gd := K.gd
  have ub1 : h1.guarded b = false := by have := B.ub; unfold Hp.guarded at *; rw [gd1]; exact this
  have hnx : h.nx + 1 < h1.nx := by
    rcases A2 with ⟨e, _⟩ | ⟨o, e, _, _, _, h5, _⟩
    · cases e
    · injection e with e; injection e with e; omega
  have gw := wr_get hbk (by decide) ub1 (off := 0 + 4) (vs := [.slice (some ⟨h.nx + 1, 0, none⟩) (n2 + 1) unk]) (by simp [baseC]) rfl
  refine ⟨h1, e1, canW_t hbk (by decide) ub1 (by simp [baseC]) rfl, ?_⟩
  intro h'
  have nx : h'.nx = h1.nx := nx_wr ..
  have gd : h'.gd = h1.gd := gd_wr ..
  have ne : ∀ q, q ≠ b → h'.get q = h1.get q := fun q hq => wr_get_ne _ _ _ _ hq
  have N : Nx b a2 h (some ⟨h.nx + 1, 0, none⟩) h' := by
    refine ⟨by rw [nx]; omega, by rw [gd, gd1], fun f => ((K.fr (f.add _))).wr _ _ _, fun q hq h1 h2 => ?_, .inr fun q off e => by injection e with e; injection e with e; omega⟩
    rw [ne q h1, K.get q (by rw [hnx1]; omega) h2, get_add_ne (by omega)]
  have aw : ∀ {x : Option Addr}, Aw b a2 x → (∀ q off, x = some ⟨q, off, none⟩ → q < h.nx) → Aw b (some ⟨h.nx + 1, 0, none⟩) x := fun ha hn => N.aw ha hn
  have fr : h'.Fresh := N.fr B.ok.fr
  have n2' : h1.get (h.nx + 1) = some (.cells (vs ++ [.slice ac nc cc]) 32 .grow) := by
    rcases A2 with ⟨e, _⟩ | ⟨o, e, _, _, _, h5, h6⟩
    · cases e
    · have e8 : h.nx + 1 = o := congrArg Addr.block (Option.some.inj e)
      rw [e8]
      exact h6
  have Xh : IntsAt h' ac nc cl := N.ints X ha
  refine ⟨⟨⟨fun q hq => by rw [gd, gd1] at hq; have := B.ok.gd q hq; rw [nx]; omega, fr⟩, ⟨by rw [nx]; omega, by rw [N.get 0 B.tb.1 B.tb0.1 B.tb0.2]; exact B.tb.2⟩, by rw [nx]; omega, gw, N.sl (fun _ _ h => h) B.S B.Sa, aw B.Sa (SlAt.lt B.S), N.ints B.G B.Ga, aw B.Ga (SlAt.lt B.G), ⟨vs ++ [.slice ac nc cc], .inr ⟨h.nx + 1, rfl, rfl, ?_, by omega, by rw [nx]; exact hnx, by rw [ne _ (by omega)]; exact n2'⟩, ?_, ?_⟩, fun q hq => ?_⟩, N, Xh, aw ha (SlAt.lt X)⟩
  · rcases A2 with ⟨e, _⟩ | ⟨o, e, _, h3, _⟩
    · cases e
    · exact h3
  · refine Lis.app ⟨L.1, fun i hi => ?_⟩ ⟨rfl, fun i hi => ?_⟩
    · obtain ⟨v, hv, a', n', c', e, X'⟩ := L.2 i hi
      exact ⟨v, hv, a', n', c', e, N.ints X' (V v (List.mem_of_getElem? hv) a' n' c' (by simpa using e)).1⟩
    · obtain rfl : i = 0 := by simp at hi; exact hi
      exact ⟨_, rfl, ac, nc, cc, rfl, Xh⟩
  · intro v hv a' n' c' e
    rcases List.mem_append.1 hv with hv | hv
    · obtain ⟨i, hi, rfl⟩ := List.getElem_of_mem hv
      obtain ⟨v', hv', a'', n'', c'', e', X'⟩ := L.2 i (by rw [← L.1]; exact hi)
      have e3 := V _ hv _ _ _ e
      have e4 : vs[i] = v' := Option.some.inj ((List.getElem?_eq_getElem hi).symm.trans hv')
      injection e' with e' _
      have e5 : Value.slice a' n' c' = .slice a'' n'' c'' := by rw [← e, ← e', e4]
      injection e5 with e5 _ _
      subst e5
      exact ⟨aw e3.1 (SlAt.lt X'), e3.2⟩
    · rw [List.mem_singleton] at hv
      rw [hv] at e; injection e with e e9 _; subst e e9
      exact ⟨aw ha (SlAt.lt X), hne⟩
  · rw [gd, gd1] at hq
    exact ⟨(B.ug q hq).1, fun e => by injection e with e; injection e with e; have := B.ok.gd q hq; omega⟩
end
end Go.Proofs.YtfgfhplgnfbaaaaDoor
/- The walk of search: what it computes; a line more; a decision more; how it returns. -/
namespace Go.Proofs.YtfgfhplgnfbaaaaDoor
open Go Go.Ev
theorem spreadF_lt {ss : List (Nat × Nat)} (hs : ∀ c ∈ ss, c.1 < 2 ^ 30 ∧ c.2 < 2 ^ 30) : ∀ (d : Nat) {y m : Nat}, y < 2 ^ 30 → m < 2 ^ 30 → (spreadF ss d y m).1.1 < 2 ^ 30 ∧ (spreadF ss d y m).1.2 < 2 ^ 30 := by
  intro d
  induction d with
  | zero => intro y m hy hm; exact ⟨hy, hm⟩
  | succ d ih =>
    intro y m hy hm
    unfold spreadF
    split
    · exact ⟨hy, hm⟩
    · exact ⟨hy, hm⟩
    · rename_i p e
      have := stepS_free hy hm hs e
      exact ih this.2.1 this.2.2
theorem layN_lt2 : ∀ {xs : List Int}, (∀ x ∈ xs, Lit x) → ∀ {y m : Nat}, y < 2 ^ 30 → m < 2 ^ 30 → (layN xs y m).1.1 < 2 ^ 30 ∧ (layN xs y m).1.2 < 2 ^ 30 := by
  intro xs
  induction xs with
  | nil => intro _ y m hy hm; exact ⟨hy, hm⟩
  | cons x xs ih =>
    intro hx y m hy hm
    have h1 := withN_lt (hx x (by simp)) hy hm
    unfold layN
    split
    · exact ih (fun x h => hx x (List.mem_cons_of_mem _ h)) h1.1 h1.2
    · exact h1
theorem fromN_lt {ss : List (Nat × Nat)} (hs : ∀ c ∈ ss, c.1 < 2 ^ 30 ∧ c.2 < 2 ^ 30) {xs : List Int} (hx : ∀ x ∈ xs, Lit x) : (fromN ss xs).1.1 < 2 ^ 30 ∧ (fromN ss xs).1.2 < 2 ^ 30 := by
  have h1 := layN_lt2 hx (y := 0) (m := 0) (by decide) (by decide)
  unfold fromN fromR
  split
  · exact spreadF_lt hs 31 h1.1 h1.2
  · exact h1
/-- The lowest digit. -/
def lowF (u : Nat) : Nat := (digits 30 u).head?.getD 0
/-- The variables that are open. -/
def freeM (n y m : Nat) : Nat := (2 ^ n - 1) - ((2 ^ n - 1) &&& (y ||| m))
/-- How a search ends: truths, a clause, the end, nodes left, lines. -/
structure Sr where
  y : Nat
  m : Nat
  c : List Int
  how : Int
  left : Nat
  lines : List (List Int)
def searchF (n : Nat) (ss : List (Nat × Nat)) (gs : List Int) : Nat → List Int → Nat → Sr
  | 0, _, left => ⟨0, 0, [], 2, left, []⟩
  | _ + 1, _, 0 => ⟨0, 0, [], 2, 0, []⟩
  | d + 1, ds, left + 1 =>
    if (fromN ss (gs ++ ds)).2 = false then
      ⟨(fromN ss (gs ++ ds)).1.1, (fromN ss (gs ++ ds)).1.2, (needF (clashN ss gs) ds.length ds).map fun x => -x, 1, left, [(needF (clashN ss gs) ds.length ds).map fun x => -x]⟩
    else if freeM n (fromN ss (gs ++ ds)).1.1 (fromN ss (gs ++ ds)).1.2 = 0 then ⟨(fromN ss (gs ++ ds)).1.1, (fromN ss (gs ++ ds)).1.2, [], 0, left, []⟩
    else
      let v : Int := Int.ofNat (lowF (freeM n (fromN ss (gs ++ ds)).1.1 (fromN ss (gs ++ ds)).1.2) + 1)
      let s := searchF n ss gs d (ds ++ [-v]) left
      if s.how ≠ 1 ∨ v ∉ s.c then s
      else
        let t := searchF n ss gs d (ds ++ [v]) s.left
        if t.how ≠ 1 ∨ -v ∉ t.c then ⟨t.y, t.m, t.c, t.how, t.left, s.lines ++ t.lines⟩
        else ⟨(fromN ss (gs ++ ds)).1.1, (fromN ss (gs ++ ds)).1.2, (resP s.c t.c v).1, 1, t.left, s.lines ++ t.lines ++ [(resP s.c t.c v).1]⟩
/-- A slice in what is written now. -/
theorem wr_ints {h : Hp} {o : Nat} {p q y m : Nat} (H : h.get o = some (.cells [U p, U q] 102 .fix)) (hw : (h.wr o 0 [U y, U m]).get o = some (.cells [U y, U m] 102 .fix)) {a : Option Addr} {n : Nat} {xs : List Int} (X : IntsAt h a n xs) : IntsAt (h.wr o 0 [U y, U m]) a n xs := by
  refine ⟨X.1, X.2.imp id ?_⟩
  rintro ⟨b, off, c, e, md, h1, h2, h3, h4, h5⟩
  by_cases hb : b = o
  · subst hb
    rw [H] at h3
    injection h3 with h3; injection h3 with h3 h31 h32
    subst h3
    cases xs with
    | nil => exact ⟨b, off, _, _, _, h1, by rw [nx_wr]; exact h2, hw, by simpa using h4, fun i hi => by simp at hi⟩
    | cons x xs =>
      have h6 : ([U p, U q].drop (off + 0 * 1)).take 1 = [.int .i64 x] := h5 0 (by simp)
      simp only [List.length_cons, List.length_nil] at h4
      match off, h4, h6 with
      | 0, _, h6 => cases h6
      | 1, _, h6 => cases h6
      | off + 2, h4, _ => omega
  · exact ⟨b, off, c, e, md, h1, by rw [nx_wr]; exact h2, by rw [wr_get_ne _ _ _ _ hb]; exact h3, h4, h5⟩
theorem rst_wr (g : Hp) (o off : Nat) (vs : List Value) : (g.wr o off vs).rst g = g.wr o off vs := by
  have h1 := gd_wr g o off vs
  generalize g.wr o off vs = w at *
  cases w; cases g
  simp only at h1
  subst h1
  rfl
section
variable {b : Nat} {vars : Int} {a : Option Addr} {n c : Nat} {a1 : Option Addr} {n1 c1 : Nat} {ss : List (Nat × Nat)} {gs : List Int} {left left' : Int} {lines lines' : List (List Int)} {a2 a3 : Option Addr} {n2 c2 n3 c3 : Nat} {h g : Hp}
/-- The truths that are returned are written. -/
theorem exit117 (B0 : Bs b vars a n c a1 n1 c1 ss gs left lines a2 n2 c2 h) (B : Bs b vars a n c a1 n1 c1 ss gs left' lines' a3 n3 c3 g) (N : Nx b a2 h a3 g) {p q y m : Nat} (H : g.get h.nx = some (.cells [U p, U q] 102 .fix)) {ac : Option Addr} {nc : Nat} {cl : List Int} (X : IntsAt g ac nc cl) :
    canW g h.nx 0 [U y, U m] = true ∧ readAt (g.wr h.nx 0 [U y, U m]) h.nx 0 2 = some [U y, U m] ∧ Bs b vars a n c a1 n1 c1 ss gs left' lines' a3 n3 c3 (g.wr h.nx 0 [U y, U m]) ∧ Nx b a2 h a3 (g.wr h.nx 0 [U y, U m]) ∧ IntsAt (g.wr h.nx 0 [U y, U m]) ac nc cl := by
  have gf : g.guarded h.nx = false := guarded_of fun q hq => by rw [N.gd] at hq; have := B0.ok.gd q hq; omega
  have hw := wr_get H (by decide) gf (off := 0) (vs := [U y, U m]) (by simp) rfl
  have hw : (g.wr h.nx 0 [U y, U m]).get h.nx = some (.cells [U y, U m] 102 .fix) := hw
  have nx : (g.wr h.nx 0 [U y, U m]).nx = g.nx := nx_wr ..
  have gd : (g.wr h.nx 0 [U y, U m]).gd = g.gd := gd_wr ..
  have ne : ∀ q, q ≠ h.nx → (g.wr h.nx 0 [U y, U m]).get q = g.get q := fun q hq => wr_get_ne _ _ _ _ hq
  have hb := B0.bn
  obtain ⟨vs, A, L, V⟩ := B.L
  have hl : ∀ q, a3 = some ⟨q, 0, none⟩ → q ≠ h.nx := fun q e eq => by
    rcases A with ⟨e2, _⟩ | ⟨o, e2, _, _, _, _, hg⟩
    · rw [e2] at e; cases e
    · have e3 : q = o := congrArg Addr.block (Option.some.inj (e.symm.trans e2))
      rw [← e3, eq, H] at hg
      injection hg with hg; injection hg with _ _ hg; cases hg
  have t0 := B0.tb.1
  refine ⟨canW_t H (by decide) gf (by simp) rfl, by rw [readAt_get hw (by simp)]; rfl, ⟨⟨fun q hq => by rw [gd] at hq; rw [nx]; exact B.ok.gd q hq, B.ok.fr.wr _ _ _⟩, ⟨by rw [nx]; exact B.tb.1, by rw [ne _ (by omega)]; exact B.tb.2⟩, by rw [nx]; exact B.bn, by rw [ne _ (by omega)]; exact B.get, ?_, B.Sa, wr_ints H hw B.G, B.Ga, ⟨vs, A.keep (fun o _ e => ne o (hl o e)) (Nat.le_of_eq nx.symm), ⟨L.1, fun i hi => ?_⟩, V⟩, fun q hq => B.ug q (by rw [← gd]; exact hq)⟩, ⟨by rw [nx]; exact N.nx, by rw [gd]; exact N.gd, fun f => (N.fr f).wr _ _ _, fun o ho h1 h2 => by rw [ne o (by omega)]; exact N.get o ho h1 h2, N.nw⟩, wr_ints H hw X⟩
  · exact B.S.keep (fun q off e => ne q (by have := SlAt.lt B0.S q off e; omega)) (Nat.le_of_eq nx.symm) fun _ _ h => h
  · obtain ⟨v, hv, a', n', c', e, X'⟩ := L.2 i hi
    exact ⟨v, hv, a', n', c', e, wr_ints H hw X'⟩
end
section
variable {O : CallF} (hO : Oth O)
include hO
variable {b : Nat} {vars : Int} {a : Option Addr} {n c : Nat} {a1 : Option Addr} {n1 c1 : Nat} {ss : List (Nat × Nat)} {gs : List Int} {left left' : Int} {lines lines' : List (List Int)} {a2 a3 : Option Addr} {n2 c2 n3 c3 : Nat} {h g : Hp}
theorem ct137 (B : Bs b vars a n c a1 n1 c1 ss gs left lines a2 n2 c2 h) (hl : lines.length < 1000000) {ac : Option Addr} {nc cc : Nat} {cl : List Int} (X : IntsAt h ac nc cl) (ha : Aw b a2 ac) (hne : ac = none ∨ 0 < nc) :
    Ret Tryd.prog O 137 [.pointer (some ⟨b, 0, none⟩), .slice ac nc cc] h fun v h' => v = .slice ac nc cc ∧ IntsAt h' ac nc cl ∧ ∃ a3 n3 c3, Bs b vars a n c a1 n1 c1 ss gs left (lines ++ [cl]) a3 n3 c3 h' ∧ Nx b a2 h a3 h' ∧ Aw b a3 ac := by
  refine rk137 _ _ _ _ _ (hO _ _ _ (by decide)) ?_
  unfold T137
  obtain ⟨h1, e1, e2, B', N, X', A'⟩ := B.line hl X ha hne (cc := cc)
  refine ⟨_, _, _, read1 B.get (i := 0 + 4) rfl, ?_⟩
  intro g4
  refine ⟨_, _, _, h1, e1, vreq_t e2 ?_⟩
  exact ⟨rfl, X', _, _, _, B', N, A'⟩
/-- A decision more. -/
theorem ct110 {base : Nat} {ad : Option Addr} {nd cd : Nat} {ds : List Int} (A : AccI 3 h base ad nd cd ds) (hl : ds.length < 1000) :
    ∃ cc, EvT O 110 [.slice ad nd cd] h (.slice ad nd cc) h ∧ ∀ x, ∃ h2, appendV Tryd.prog (h.add (.cells [.int .i64 x] 3 .fix)) 32 32 (.slice ad nd cc) (.slice (some ⟨h.nx, 0, none⟩) 1 1) = some (.slice (some ⟨h.nx + 1, 0, none⟩) (nd + 1) unk, h2) ∧ Kp h.nx h h2 ∧ AccI 3 h2 h.nx (some ⟨h.nx + 1, 0, none⟩) (nd + 1) unk (ds ++ [x]) := by
  have hb : big = 4611686018427387904 := rfl
  have hu : unk = 18446744073709551616 := rfl
  have hnx : ∀ x, (h.add (.cells [.int .i64 x] 3 .fix)).nx = h.nx + 1 := fun x => nx_add ..
  have k1 : ∀ x, Kp h.nx h (h.add (.cells [.int .i64 x] 3 .fix)) := fun x => (Kp.refl _ _).add (Nat.le_refl _) _
  have src : ∀ x, srcCells (h.add (.cells [.int .i64 x] 3 .fix)) 1 (.slice (some ⟨h.nx, 0, none⟩) 1 1) = some ([.int .i64 x], 1) := fun x => src_get (n := 1) (c := 1) (esz := 1) (off := 0) (read1 (i := 0) (v := .int .i64 x) (get_add_same ..) rfl)
  obtain ⟨hz, info, z, hi, hzz, hrun⟩ := (app32 : AppT Tryd.prog 32 3 1 8).run
  rcases A with ⟨rfl, rfl, rfl, h4⟩ | ⟨o, rfl, rfl, h3, h4, h5, h6⟩
  · have hds : ds = [] := by simpa using h4
    subst hds
    refine ⟨0, EvC.of_ret (rk110 _ _ _ (hO _ _ _ (by decide)) ?_), fun x => ?_⟩
    · unfold T110
      exact ⟨none, 0, 0, by unfold sliceV; rw [Tryd.underlying32]; simp only [sz3, bind, Option.bind_some]; rfl, rfl, rfl⟩
    · refine ⟨(h.add (.cells [.int .i64 x] 3 .fix)).add (.cells ([] ++ [.int .i64 x]) 3 .grow), ?_, (k1 x).add (by rw [hnx]; omega) _, .inr ⟨h.nx + 1, rfl, rfl, rfl, by omega, by rw [nx_add, hnx]; omega, ?_⟩⟩
      · rw [hrun _ _ _ ⟨_, _, _, rfl⟩, src x]
        rfl
      · rw [← hnx x]; exact get_add_same ..
  · have hn : nd = ds.length := by simpa using h3
    have hcl : (ds.map (Value.int .i64)).length = ds.length := List.length_map ..
    obtain ⟨off, e1, e2⟩ := slice_m (n := nd) (l := 0) (hh := nd) h6 (lo := none) (hi := some (.int .i64 (Int.ofNat nd))) (mx := some (.int .i64 (Int.ofNat nd))) (bound_i (by omega)) ⟨_, rfl⟩ rfl (bound_i (Nat.le_refl _)) (by omega)
    obtain rfl := e2 rfl
    refine ⟨nd, EvC.of_ret (rk110 _ _ _ (hO _ _ _ (by decide)) ?_), fun x => ?_⟩
    · unfold T110
      exact ⟨_, _, _, e1, rfl, rfl⟩
    · refine ⟨(h.add (.cells [.int .i64 x] 3 .fix)).add (.cells (ds.map (Value.int .i64) ++ [.int .i64 x]) 3 .grow), ?_, (k1 x).add (by rw [hnx]; omega) _, .inr ⟨h.nx + 1, rfl, rfl, by simp; omega, by omega, by rw [nx_add, hnx]; omega, ?_⟩⟩
      · rw [hrun _ _ _ ⟨_, _, _, rfl⟩, src x]
        simp only [Option.bind_some, show ([Value.int .i64 x].all one) = true from rfl, cond_true, show Nat.beq 1 0 = false from rfl, cond_false]
        have hg : (h.add (.cells [.int .i64 x] 3 .fix)).get o = some (.cells (ds.map (Value.int .i64)) 3 .grow) := by rw [get_add_ne (by omega)]; exact h6
        unfold appSome
        have b1 : Nat.beq nd unk = false := by rw [Bool.eq_false_iff]; intro hh; have := Nat.eq_of_beq_eq_true hh; omega
        have b2 : Nat.ble (nd + 1) nd = false := by rw [Bool.eq_false_iff]; intro hh; have hh : nd + 1 ≤ nd := (by simpa using hh); omega
        simp only [hg, b1, b2, cond_false]
        rw [readAt_get hg (by omega), List.drop_zero, Nat.mul_one, List.take_of_length_le (by omega), Option.bind_some]
        unfold appNew
        rw [ble_t (by omega), blt_t (by omega), hnx]
        rfl
      · rw [← hnx x, get_add_same, List.map_append]; rfl
theorem ct96E {h : Hp} (ok : h.Ok) {a0 : Option Addr} {n0 c0 : Nat} {l : List Int} (X : IntsAt h a0 n0 l) (hl : l.length < 50) (hlit : ∀ x ∈ l, Lit x) (hd : Dif l) : Ret Tryd.prog O 96 [.slice a0 n0 c0] h (RIntsE h (l.map fun x => -x)) := by
  cases l with
  | nil =>
    have hn : n0 = 0 := X.1
    refine rk96 _ _ _ (hO _ _ _ (by decide)) ?_
    unfold T96
    refine I96_0.of _ _ _ _ _ _ _ ?_
    intros
    unfold T96_0
    obtain ⟨v, h2, e2, rfl, K2⟩ := ct74 hO (SlAt.nil 1 EInt h) (l := []) (by simp) (by simp) List.Pairwise.nil (c0 := 0)
    exact vcond_f (by rw [hn]; rfl) ⟨_, e2, none, 0, 0, rfl, SlAt.nil .., K2, (fun _ _ e => by cases e), .inl rfl⟩
  | cons x xs =>
    obtain ⟨v, h', e, a, n, c, rfl, X', K, F⟩ := ct96 hO ok X hl hlit hd (c0 := c0)
    exact ⟨_, h', e, a, n, c, rfl, X', K, F, .inr (by rw [X'.1]; simp)⟩
end
end Go.Proofs.YtfgfhplgnfbaaaaDoor
/- The walk of search: one of the two branches. -/
namespace Go.Proofs.YtfgfhplgnfbaaaaDoor
open Go Go.Ev
theorem needF_sub (cl : List Int → Bool) : ∀ (i : Nat) (out : List Int), (needF cl i out).Sublist out := by
  intro i
  induction i with
  | zero => intro out; exact List.Sublist.refl _
  | succ i ih =>
    intro out
    unfold needF
    split
    · exact (ih _).trans (List.eraseIdx_sublist ..)
    · exact ih _
theorem litsN_len (y m : Nat) : (litsN y m).length ≤ 30 := by
  unfold litsN digits
  rw [List.length_map]
  exact Nat.le_trans (List.length_filter_le _ _) (by simp)
theorem resP_len (xs ys : List Int) (v : Int) : (resP xs ys v).1.length ≤ 30 := by
  unfold resP
  split
  · simp
  · split
    · simp
    · unfold fin38
      split
      · exact litsN_len _ _
      · simp
/-- Decisions that are proper. -/
structure Dec (N : Nat) (ss : List (Nat × Nat)) (gs : List Int) (Dc : List Int → Prop) : Prop where
  ok : ∀ ds, Dc ds → ds.length ≤ N ∧ (∀ x ∈ ds, Lit x) ∧ Dif ds
  more : ∀ ds, Dc ds → (fromN ss (gs ++ ds)).2 = true → freeM N (fromN ss (gs ++ ds)).1.1 (fromN ss (gs ++ ds)).1.2 ≠ 0 → Dc (ds ++ [-(Int.ofNat (lowF (freeM N (fromN ss (gs ++ ds)).1.1 (fromN ss (gs ++ ds)).1.2) + 1))]) ∧ Dc (ds ++ [Int.ofNat (lowF (freeM N (fromN ss (gs ++ ds)).1.1 (fromN ss (gs ++ ds)).1.2) + 1)])
theorem searchF_ok {N : Nat} {ss : List (Nat × Nat)} {gs : List Int} {Dc : List Int → Prop} (D : Dec N ss gs Dc) (hN : N ≤ 30) : ∀ (d : Nat) {ds : List Int} {left : Nat}, Dc ds → (searchF N ss gs d ds left).c.length < 1000 ∧ (searchF N ss gs d ds left).lines.length + (searchF N ss gs d ds left).left ≤ left := by
  intro d
  induction d with
  | zero => intro ds left _; exact ⟨by simp [searchF], by simp [searchF]⟩
  | succ d ih =>
    intro ds left hD
    cases left with
    | zero => exact ⟨by simp [searchF], by simp [searchF]⟩
    | succ left =>
      have hl := (D.ok ds hD).1
      have hs := (needF_sub (clashN ss gs) ds.length ds).length_le
      unfold searchF
      split
      · exact ⟨by simp; omega, by simp; omega⟩
      · rename_i h1
        split
        · exact ⟨by simp, by simp⟩
        · rename_i h2
          obtain ⟨p1, p2⟩ := D.more ds hD (by simpa using h1) h2
          have q1 := ih (left := left) p1
          have q2 := ih (left := (searchF N ss gs d (ds ++ [-(Int.ofNat (lowF (freeM N (fromN ss (gs ++ ds)).1.1 (fromN ss (gs ++ ds)).1.2) + 1))]) left).left) p2
          simp only
          split
          · exact ⟨q1.1, by omega⟩
          · split
            · exact ⟨q2.1, by simp only [List.length_append]; omega⟩
            · exact ⟨Nat.lt_of_le_of_lt (resP_len _ _ _) (by decide), by simp only [List.length_append, List.length_singleton]; omega⟩
section
variable {b : Nat} {vars : Int} {a : Option Addr} {n c : Nat} {a1 : Option Addr} {n1 c1 : Nat} {ss : List (Nat × Nat)} {gs : List Int} {left left' : Int} {lines lines' : List (List Int)} {a2 a3 : Option Addr} {n2 c2 n3 c3 : Nat} {h g g' : Hp}
theorem Bs.nefix (B : Bs b vars a n c a1 n1 c1 ss gs left lines a2 n2 c2 h) {o : Nat} {cs : List Value} {e : TypeId} (H : h.get o = some (.cells cs e .fix)) : a2 ≠ some ⟨o, 0, none⟩ := by
  obtain ⟨vs, A, _, _⟩ := B.L
  intro e1
  rcases A with ⟨e2, _⟩ | ⟨p, e2, _, _, _, _, hg⟩
  · rw [e2] at e1; cases e1
  · have e3 : o = p := congrArg Addr.block (Option.some.inj (e1.symm.trans e2))
    rw [← e3, H] at hg
    injection hg with hg; injection hg with _ _ hg; cases hg
/-- A list of slices goes: lists of numbers stay. -/
theorem ints_app {ab : Option Addr} {e : TypeId} (k : AppK g g' ab) (hab : ∀ o, ab = some ⟨o, 0, none⟩ → ∃ vs, g.get o = some (.cells vs e .grow) ∧ ∀ v ∈ vs, ∃ a n c, v = Value.slice a n c) {ac : Option Addr} {nc : Nat} {cl : List Int} (X : IntsAt g ac nc cl) (hne : ac = none ∨ 0 < nc) : IntsAt g' ac nc cl := by
  refine ⟨X.1, X.2.imp id ?_⟩
  rintro ⟨q, off, cs, e, m, h1, h2, h3, h4, h5⟩
  refine ⟨q, off, cs, e, m, h1, Nat.lt_of_lt_of_le h2 k.nx, ?_, h4, h5⟩
  by_cases hq : ab = some ⟨q, 0, none⟩
  · exfalso
    obtain ⟨vs, hg, hv⟩ := hab q hq
    rw [h3] at hg; injection hg with hg; injection hg with hg _ _; subst hg
    have hn : 0 < nc := by
      rcases hne with hne | hne
      · rw [hne] at h1; cases h1
      · exact hne
    have hx := X.1
    have h6 : (cs.drop (off + 0 * 1)).take 1 = [.int .i64 cl[0]] := h5 0 (by omega)
    rw [Nat.zero_mul, Nat.add_zero] at h6
    have h7 : cs[off]? = some (.int .i64 cl[0]) := by
      have : ((cs.drop off).take 1)[0]? = some (.int .i64 cl[0]) := by rw [h6]; rfl
      simpa using this
    obtain ⟨_, _, _, e9⟩ := hv _ (List.mem_of_getElem? h7)
    cases e9
  · rw [k.get q h2 hq]; exact h3
theorem Bs.app (B0 : Bs b vars a n c a1 n1 c1 ss gs left lines a2 n2 c2 h) (B : Bs b vars a n c a1 n1 c1 ss gs left' lines' a3 n3 c3 g) (N : Nx b a2 h a3 g) {ab : Option Addr} {e : TypeId} (k : AppK g g' ab)
    (hn : ∀ o, ab = some ⟨o, 0, none⟩ → h.nx ≤ o) (ha : Aw b a3 ab) (hab : ∀ o, ab = some ⟨o, 0, none⟩ → ∃ vs, g.get o = some (.cells vs e .grow) ∧ ∀ v ∈ vs, ∃ a n c, v = Value.slice a n c) :
    Bs b vars a n c a1 n1 c1 ss gs left' lines' a3 n3 c3 g' ∧ Nx b a2 h a3 g' := by
  have old : ∀ q, q < h.nx → g'.get q = g.get q := fun q hq => k.get q (Nat.lt_of_lt_of_le hq N.nx) fun e => by have := hn q e; omega
  obtain ⟨vs, A, L, V⟩ := B.L
  refine ⟨⟨⟨fun q hq => by rw [k.gd] at hq; exact Nat.lt_of_lt_of_le (B.ok.gd q hq) k.nx, k.fr B.ok.fr⟩, ⟨Nat.lt_of_lt_of_le B.tb.1 k.nx, by rw [old 0 B0.tb.1]; exact B.tb.2⟩, Nat.lt_of_lt_of_le B.bn k.nx, by rw [old b B0.bn]; exact B.get, B.S.keep (fun q off e => old q (SlAt.lt B0.S q off e)) k.nx fun _ _ h => h, B.Sa, B.G.keep (fun q off e => old q (SlAt.lt B0.G q off e)) k.nx fun _ _ h => h, B.Ga, ⟨vs, A.keep (fun o ho e => k.get o ho fun e2 => (ha o 0 e2).2 e) k.nx, ⟨L.1, fun i hi => ?_⟩, V⟩, fun q hq => B.ug q (by rw [← k.gd]; exact hq)⟩, ⟨Nat.le_trans N.nx k.nx, k.gd.trans N.gd, fun f => k.fr (N.fr f), fun o ho h1 h2 => by rw [old o ho]; exact N.get o ho h1 h2, N.nw⟩⟩
  obtain ⟨v, hv, a', n', c', e, X'⟩ := L.2 i hi
  exact ⟨v, hv, a', n', c', e, ints_app k hab X' (V v (List.mem_of_getElem? hv) a' n' c' (by simpa using e)).2⟩
/-- What a search leaves behind. -/
def SPost (b : Nat) (vars : Int) (a : Option Addr) (n c : Nat) (a1 : Option Addr) (n1 c1 : Nat) (ss : List (Nat × Nat)) (gs : List Int) (a2 : Option Addr) (h : Hp) (lines : List (List Int)) (r : Sr) : Value → Hp → Prop := fun v h' =>
  ∃ ac nc cc, v = .tuple #[.agg #[U r.y, U r.m], .slice ac nc cc, .int .i64 r.how] ∧ IntsAt h' ac nc r.c ∧ ∃ a3 n3 c3, Bs b vars a n c a1 n1 c1 ss gs (Int.ofNat r.left) (lines ++ r.lines) a3 n3 c3 h' ∧ Nx b a2 h a3 h' ∧ Aw b a3 ac
/-- A search of some depth does as it should. -/
def SOk (O : CallF) (b : Nat) (N : Nat) (a : Option Addr) (n c : Nat) (a1 : Option Addr) (n1 c1 : Nat) (ss : List (Nat × Nat)) (gs : List Int) (Dc : List Int → Prop) (d : Nat) : Prop :=
  ∀ {ds : List Int} {left : Nat} {lines : List (List Int)} {h : Hp} {a2 : Option Addr} {n2 c2 : Nat} {ad : Option Addr} {nd cd base : Nat}, Dc ds → N + 1 ≤ ds.length + d → lines.length + left ≤ 100000 →
    Bs b (Int.ofNat N) a n c a1 n1 c1 ss gs (Int.ofNat left) lines a2 n2 c2 h → AccI 3 h base ad nd cd ds → Aw b a2 ad →
    Ret Tryd.prog O 117 [.pointer (some ⟨b, 0, none⟩), .slice ad nd cd] h (SPost b (Int.ofNat N) a n c a1 n1 c1 ss gs a2 h lines (searchF N ss gs d ds left))
end
section
variable {O : CallF} (hO : Oth O)
include hO
theorem it117 {b N : Nat} {a : Option Addr} {n c : Nat} {a1 : Option Addr} {n1 c1 : Nat} {ss : List (Nat × Nat)} {gs : List Int} {Dc : List Int → Prop} (D : Dec N ss gs Dc) (hN : N ≤ 30) {d : Nat} (IH : SOk O b N a n c a1 n1 c1 ss gs Dc d)
    {left0 : Int} {left1 : Nat} {lines0 L : List (List Int)} {a2 a3 : Option Addr} {n2 c2 n3 c3 : Nat} {h g : Hp} (B0 : Bs b (Int.ofNat N) a n c a1 n1 c1 ss gs left0 lines0 a2 n2 c2 h) (B : Bs b (Int.ofNat N) a n c a1 n1 c1 ss gs (Int.ofNat left1) (lines0 ++ L) a3 n3 c3 g) (N0 : Nx b a2 h a3 g)
    (hll : (lines0 ++ L).length + left1 ≤ 100000) {p q : Nat} (H : g.get h.nx = some (.cells [U p, U q] 102 .fix)) (hRg : h.nx < g.nx) {ds : List Int} {ad : Option Addr} {nd cd base : Nat} (A : AccI 3 h base ad nd cd ds) (hda : Aw b a2 ad)
    {ol : Nat} {v0 v1 v : Int} {k : Nat} (hk : k < 2) (hol : ol < g.nx) (HL : g.get ol = some (.cells [.int .i64 v0, .int .i64 v1] 3 .fix)) {x : Int} (hx : [v0, v1][k]? = some x) (lx : Lit x) (hD : Dc (ds ++ [x])) (hd : N + 1 ≤ ds.length + 1 + d) (hdl : ds.length < 1000)
    {ab : Option Addr} {nb cb : Nat} {vs : List Value} (AB : Acc g 0 32 1 ab nb cb vs) (hab : Aw b a3 ab) (hbn : ∀ o, ab = some ⟨o, 0, none⟩ → h.nx < o) (hvs : ∀ v ∈ vs, ∃ a n c, v = Value.slice a n c) (hnb : nb ≤ 2) {t : Nat} {r s : Sr} (hs : s = searchF N ss gs d (ds ++ [x]) left1)
    (exitR : (s.how ≠ 1 ∨ -x ∉ s.c) → r = ⟨s.y, s.m, s.c, s.how, s.left, L ++ s.lines⟩)
    (next : s.how = 1 → -x ∈ s.c → ∀ (g' : Hp) (a4 : Option Addr) (n4 c4 : Nat) (ac : Option Addr) (nc cc : Nat) (o' : Nat), Bs b (Int.ofNat N) a n c a1 n1 c1 ss gs (Int.ofNat s.left) (lines0 ++ (L ++ s.lines)) a4 n4 c4 g' → Nx b a2 h a4 g' → g.nx ≤ g'.nx →
      (∀ o, o < g.nx → o ≠ b → a3 ≠ some ⟨o, 0, none⟩ → ab ≠ some ⟨o, 0, none⟩ → g'.get o = g.get o) → Acc g' 0 32 1 (some ⟨o', 0, none⟩) (nb + 1) unk (vs ++ [.slice ac nc cc]) → g.nx ≤ o' → Aw b a4 (some ⟨o', 0, none⟩) → IntsAt g' ac nc s.c → Aw b a4 ac →
      (∀ ax nx' xs, IntsAt g ax nx' xs → Aw b a3 ax → 0 < nx' → IntsAt g' ax nx' xs ∧ Aw b a4 ax) →
      I117_0 O (SPost b (Int.ofNat N) a n c a1 n1 c1 ss gs a2 h lines0 r) b 0 ad nd cd h.nx 0 none 0 0 0 t 0 v (some ⟨o', 0, none⟩) (nb + 1) unk (some ⟨ol, 0, none⟩) 2 2 (Int.ofNat (k + 1)) g') :
    I117_0 O (SPost b (Int.ofNat N) a n c a1 n1 c1 ss gs a2 h lines0 r) b 0 ad nd cd h.nx 0 none 0 0 0 t 0 v ab nb cb (some ⟨ol, 0, none⟩) 2 2 (Int.ofNat k) g := by
  refine I117_0.of (hh := ?_) ..
  unfold T117_0
  have LT : IntsAt g (some ⟨ol, 0, none⟩) 2 [v0, v1] := ints_of_get (xs := [v0, v1]) HL hol (by simp) fun i hi => by
    match i, hi with
    | 0, _ => rfl
    | 1, _ => rfl
  have hxk : [v0, v1][k]'(by simpa using hk) = x := (List.getElem?_eq_some_iff.1 hx).2
  have hx2 := lx.2
  refine vcond_t (by rw [show (2 : Int) = Int.ofNat 2 from rfl, ltI_nat]; exact blt_t hk) (isNat_i (LT.rd (k := k) (by simpa using hk) ?_))
  rw [hxk]
  have Ag : AccI 3 g base ad nd cd ds := A.keep (fun o ho e => N0.get o ho (hda o 0 e).1 (hda o 0 e).2) N0.nx
  obtain ⟨cc', e110, app⟩ := ct110 hO Ag hdl
  obtain ⟨h113, e113, K113, A113⟩ := app x
  refine ⟨_, _, _, g, e110, ?_⟩
  intro g109
  refine ⟨_, _, _, h113, e113, ?_⟩
  have hb := B.bn
  have aw1 : Aw b a3 (some ⟨g.nx + 1, 0, none⟩) := fun q off e => by
    injection e with e; injection e with e _
    refine ⟨by omega, fun e2 => ?_⟩
    have := (B.L.lt _ e2).2; omega
  obtain ⟨v, h120, e120, ax, nx', cx, rfl, X120, a4, n4, c4, B120, N120, A120⟩ := IH hD (by simp; omega) hll (B.kp K113) A113 aw1
  rw [← hs] at e120 X120 B120
  have sok := searchF_ok D hN d (left := left1) hD
  rw [← hs] at sok
  refine ⟨_, _, _, _, _, _, h120, e120, ?_⟩
  intro g121
  have B0gd : ∀ q ∈ h120.gd, q < h.nx := fun q hq => by
    rw [N120.gd, K113.gd, N0.gd] at hq; exact B0.ok.gd q hq
  have n120 : g.nx ≤ h120.nx := Nat.le_trans K113.nx N120.nx
  have gf : g121.guarded h120.nx = false := guarded_of fun q hq => by have := B0gd q hq; omega
  have gs121 : g121.get h120.nx = some (.cells [U 0, U 0] 102 .fix) := get_add_same ..
  refine vreq_t (canW_t gs121 (by decide) gf (by simp) rfl) ?_
  intro g122
  have K122 : Kp h120.nx h120 g122 := ((Kp.refl _ _).add (Nat.le_refl _) _).wr (Nat.le_refl _) _ _
  have B122 := B120.kp K122
  have H122 : g122.get h120.nx = some (.cells [U s.y, U s.m] 102 .fix) := wr_get gs121 (by decide) gf (by simp) rfl
  have keep : ∀ o, o < g.nx → o ≠ b → a3 ≠ some ⟨o, 0, none⟩ → g122.get o = g.get o := fun o ho h1 h2 => by
    rw [K122.get o (by omega), N120.get o (Nat.lt_of_lt_of_le ho K113.nx) h1 h2, K113.get o ho]
  have N122 : Nx b a3 g a4 g122 := ((Nx.of K113).trans N120).trans (.of K122)
  have NH : Nx b a2 h a4 g122 := N0.trans N122
  have hRb : h.nx ≠ b := by have := B0.bn; omega
  have HR : g122.get h.nx = some (.cells [U p, U q] 102 .fix) := by rw [keep _ hRg hRb (B.nefix H)]; exact H
  have X122 : IntsAt g122 ax nx' s.c := X120.up EInt.up K122
  rw [List.append_assoc] at B122
  have rd : readAt g122 h120.nx 0 2 = some [U s.y, U s.m] := by rw [readAt_get H122 (by simp)]; rfl
  obtain ⟨x1, x2, x3, x4, x5⟩ := exit117 B0 B122 NH HR (y := s.y) (m := s.m) X122
  refine vcond_split (fun h1 => ?_) fun h1 => ?_
  · have hr := exitR (.inl fun e => by rw [e] at h1; cases h1)
    refine ⟨_, _, rd, vreq_t x1 ?_⟩
    exact ⟨_, _, x2, by rw [hr]; exact ⟨_, _, _, rfl, x5, _, _, _, x3, x4, A120⟩⟩
  · have h1 : s.how = 1 := eq_of_t (by simpa using h1)
    rw [show wrapF .i64 (0 - x) = -x by rw [wrap64 (by omega) (by omega)]; omega]
    refine ⟨_, g122, ct62 hO (-x) X122 (by omega), ?_⟩
    refine vcond_split (fun h2 => ?_) fun h2 => ?_
    · have hr := exitR (.inr (by simpa using h2))
      refine ⟨_, _, rd, vreq_t x1 ?_⟩
      exact ⟨_, _, x2, by rw [hr]; exact ⟨_, _, _, rfl, x5, _, _, _, x3, x4, A120⟩⟩
    · have hmem : -x ∈ s.c := by simpa using h2
      have hpos : 0 < nx' := by rw [X122.1]; exact List.length_pos_of_mem hmem
      intro g135
      have K135 : Kp g122.nx g122 g135 := (Kp.refl _ _).add (Nat.le_refl _) _
      have g135nx : g135.nx = g122.nx + 1 := nx_add ..
      have B135 := B122.kp K135
      have abl : ∀ o, ab = some ⟨o, 0, none⟩ → o < g.nx := fun o e => (AB.lt e).2
      have g122nx : h120.nx + 1 = g122.nx := by rw [show g122.nx = g121.nx from nx_wr ..]; rfl
      have AB135 : Acc g135 0 32 1 ab nb cb vs := AB.keep (fun o ho e => by rw [K135.get o (by omega), keep o ho (hab o 0 e).1 (hab o 0 e).2]) (by omega)
      have gab : ∀ o, ab = some ⟨o, 0, none⟩ → g135.guarded o = false := fun o e => guarded_of fun q hq => by
        rw [K135.gd, K122.gd] at hq
        have := B0gd q hq; have := hbn o e; omega
      obtain ⟨h139, e139, A139, K139⟩ := append_f app28 AB135 (Nat.zero_le _) gab ⟨_, _, _, rfl⟩ (src_get (n := 1) (c := 1) (esz := 1) (off := 0) (read1 (i := 0) (v := .slice ax nx' cx) (get_add_same ..) rfl)) rfl (by omega) (by unfold big; omega)
      refine ⟨_, _, _, h139, e139, ?_⟩
      rw [wrap_succ (by omega)]
      have habg : ∀ o, ab = some ⟨o, 0, none⟩ → ∃ vs, g135.get o = some (.cells vs 32 .grow) ∧ ∀ v ∈ vs, ∃ a n c, v = Value.slice a n c := fun o e => by
        rcases AB135 with ⟨e2, _⟩ | ⟨p, e2, _, _, _, _, hg⟩
        · rw [e2] at e; cases e
        · have e3 : o = p := congrArg Addr.block (Option.some.inj (e.symm.trans e2))
          exact ⟨vs, by rw [e3]; exact hg, hvs⟩
      have hab4 : Aw b a4 ab := N122.aw hab fun q off e => by
        rcases AB with ⟨e2, _⟩ | ⟨p, e2, _, _, _, h5, _⟩
        · rw [e2] at e; cases e
        · have e3 : q = p := congrArg Addr.block (Option.some.inj (e.symm.trans e2))
          omega
      have NH135 : Nx b a2 h a4 g135 := NH.trans (.of K135)
      obtain ⟨Bf, Nf⟩ := Bs.app B0 B135 NH135 K139 (fun o e => Nat.le_of_lt (hbn o e)) hab4 habg
      have X135 : IntsAt g135 ax nx' s.c := X122.up EInt.up K135
      have awo : Aw b a4 (some ⟨g135.nx, 0, none⟩) := fun q off e => by
        injection e with e; injection e with e _
        have := B135.bn
        refine ⟨by omega, fun e2 => ?_⟩
        have := (B135.L.lt _ e2).2; omega
      have f139 := K139.nx
      refine next h1 hmem h139 a4 n4 c4 ax nx' cx g135.nx Bf Nf (by omega) (fun o ho u1 u2 u3 => ?_) A139 (by omega) awo (ints_app K139 habg X135 (.inr hpos)) A120 fun ay ny ys Y ya yp => ?_
      · rw [K139.get o (by omega) u3, K135.get o (by omega), keep o ho u1 u2]
      · have Y122 := N122.ints Y ya
        exact ⟨ints_app K139 habg (Y122.up EInt.up K135) (.inr yp), N122.aw ya (SlAt.lt Y)⟩
end
end Go.Proofs.YtfgfhplgnfbaaaaDoor
/- The walk of search: a node. -/
namespace Go.Proofs.YtfgfhplgnfbaaaaDoor
open Go Go.Ev
theorem freeM_lt {N y m : Nat} (hN : N ≤ 30) : freeM N y m < 2 ^ 30 := by
  have h1 : 2 ^ N ≤ 2 ^ 30 := Nat.pow_le_pow_right (by decide) hN
  have h2 : 0 < 2 ^ N := Nat.pow_pos (by decide)
  unfold freeM
  omega
theorem lowF_spec {u : Nat} (h0 : u ≠ 0) (hu : u < 2 ^ 30) : ∃ j, u = 2 ^ (lowF u + 1) * j + 2 ^ lowF u ∧ lowF u < 30 := by
  obtain ⟨k, j, rfl⟩ := low_split u (Nat.pos_of_ne_zero h0)
  have hk : k < 30 := by
    rcases Nat.lt_or_ge k 30 with h1 | h1
    · exact h1
    · have := Nat.pow_le_pow_right (n := 2) (by decide) h1; omega
  have : lowF (2 ^ (k + 1) * j + 2 ^ k) = k := by unfold lowF; rw [digits_step hk]; rfl
  rw [this]
  exact ⟨j, rfl, hk⟩
theorem shl_pow {N : Nat} (hN : N ≤ 30) : wrapF .u32 (shlF .u32 1 N - 1) = Int.ofNat (2 ^ N - 1) := by
  have hN : N < 31 := by omega
  revert N
  decide +kernel
section
variable {O : CallF} (hO : Oth O)
include hO
theorem ct117 {b N : Nat} {a : Option Addr} {n c : Nat} {a1 : Option Addr} {n1 c1 : Nat} {ss : List (Nat × Nat)} {gs : List Int} {Dc : List Int → Prop} (D : Dec N ss gs Dc) (hN : N ≤ 30) (hl : ss.length < 1000000) (hss : ∀ p ∈ ss, p.1 < 2 ^ 30 ∧ p.2 < 2 ^ 30) (hgl : gs.length < 1000000) (hg : ∀ x ∈ gs, Lit x) : ∀ d, SOk O b N a n c a1 n1 c1 ss gs Dc d := by
  intro d
  induction d with
  | zero => intro ds left lines h a2 n2 c2 ad nd cd base hD hd; have := (D.ok ds hD).1; omega
  | succ d ih =>
    intro ds left lines h a2 n2 c2 ad nd cd base hD hd hll B A hda
    obtain ⟨dl, dlit, ddif⟩ := D.ok ds hD
    generalize hS : searchF N ss gs (d + 1) ds left = r
    refine rk117 _ _ _ _ _ (hO _ _ _ (by decide)) ?_
    unfold T117
    intro g1
    have K1 : Kp h.nx h g1 := (Kp.refl _ _).add (Nat.le_refl _) _
    have B1 := B.kp K1
    have g1nx : g1.nx = h.nx + 1 := nx_add ..
    have hR : g1.get h.nx = some (.cells [U 0, U 0] 102 .fix) := get_add_same ..
    have hb := B.bn
    have hRb : h.nx ≠ b := by omega
    have hR2 : a2 ≠ some ⟨h.nx, 0, none⟩ := fun e => by have := (B.L.lt _ e).2; omega
    refine ⟨_, read1 B1.get (i := 0 + 3) rfl, ?_⟩
    cases left with
    | zero =>
      subst hS
      obtain ⟨x1, x2, x3, x4, _⟩ := exit117 B B1 (.of K1) hR (y := 0) (m := 0) (SlAt.nil 1 EInt g1)
      refine vcond_t rfl (vreq_t x1 ?_)
      exact ⟨_, _, x2, _, _, _, rfl, SlAt.nil .., a2, n2, c2, by rw [show (searchF N ss gs (d + 1) ds 0).lines = [] from rfl, List.append_nil]; exact x3, x4, (Aw.none _ _)⟩
    | succ left =>
      unfold searchF at hS
      refine vcond_f rfl ⟨_, read1 B1.get (i := 0 + 3) rfl, ?_⟩
      rw [show wrapF .i64 (Int.ofNat (left + 1) - 1) = Int.ofNat left by rw [wrap64 (by simp only [Int.ofNat_eq_natCast]; omega) (by simp only [Int.ofNat_eq_natCast]; omega)]; simp only [Int.ofNat_eq_natCast]; omega]
      obtain ⟨y1, B7, N7⟩ := B1.count (Int.ofNat left)
      refine vreq_t y1 ?_
      intro g7
      have X1 : IntsAt g1 ad nd ds := A.ints.up EInt.up K1
      have X7 : IntsAt g7 ad nd ds := N7.ints X1 hda
      obtain ⟨v11, h11, e11, rfl, K11⟩ := ct89 hO B7.ok B7.get B7.bn B7.S hl hss B7.G hgl hg X7 (by omega) dlit (cm := cd)
      obtain ⟨ly, lm⟩ := fromN_lt hss (xs := gs ++ ds) (fun x hx => by
        rcases List.mem_append.1 hx with hx | hx
        · exact hg x hx
        · exact dlit x hx)
      have dmore := D.more ds hD
      generalize fromN ss (gs ++ ds) = R at *
      obtain ⟨⟨y, m⟩, fq⟩ := R
      simp only at ly lm dmore hS e11
      refine ⟨_, _, _, h11, e11, ?_⟩
      intro g12
      have B11 := B7.kp K11
      have K12 : Kp h11.nx h11 g12 := (Kp.refl _ _).add (Nat.le_refl _) _
      have gf12 : g12.guarded h11.nx = false := guarded_of fun q hq => by have := B11.ok.gd q hq; omega
      have gs12 : g12.get h11.nx = some (.cells [U 0, U 0] 102 .fix) := get_add_same ..
      refine vreq_t (canW_t gs12 (by decide) gf12 (by simp) rfl) ?_
      intro g13
      have K13 : Kp h11.nx h11 g13 := K12.wr (Nat.le_refl _) _ _
      have B13 := B11.kp K13
      have ht13 : g13.get h11.nx = some (.cells [U y, U m] 102 .fix) := wr_get gs12 (by decide) gf12 (by simp) rfl
      have g13nx : g13.nx = h11.nx + 1 := (nx_wr ..).trans (nx_add ..)
      have N13 : Nx b a2 g1 a2 g13 := (N7.trans (.of K11)).trans (.of K13)
      have n11 : g1.nx ≤ h11.nx := Nat.le_trans N7.nx K11.nx
      have X13 : IntsAt g13 ad nd ds := N13.ints X1 hda
      refine vcond_split (fun hq => ?_) fun hq => ?_
      · -- it clashes
        have hq : fq = false := by simpa using hq
        subst hq
        rw [if_pos rfl] at hS
        intro g14
        have K14 : Kp g13.nx g13 g14 := (Kp.refl _ _).rsv 11
        have B14 := B13.kp K14
        have g14nx : g14.nx = g13.nx + 11 := rfl
        have ht14 : g14.get h11.nx = some (.cells [U y, U m] 102 .fix) := ht13
        have htb : h11.nx ≠ b ∧ a2 ≠ some ⟨h11.nx, 0, none⟩ := ⟨by omega, B13.nefix ht13⟩
        refine ⟨_, _, by rw [readAt_get ht14 (by simp)]; rfl, ?_⟩
        have Bg14 := B14.grd (l := [h11.nx]) fun q hq => by rw [List.mem_singleton] at hq; subst hq; exact ⟨by omega, htb⟩
        have X14 : IntsAt (g14.grd [h11.nx]) ad nd ds := X13.keep (fun _ _ _ => rfl) (by show g13.nx ≤ g13.nx + 11; omega) fun _ _ h => h
        obtain ⟨v20, h20, e20, a17, n18, c19, rfl, Y20, K20⟩ := ct97 hO Bg14.ok Bg14.get Bg14.bn Bg14.S hl hss Bg14.G hgl hg X14 (by omega) dlit (cm := cd)
        refine ⟨_, _, _, h20, e20, ?_⟩
        intro g21
        have B21 : Bs b (Int.ofNat N) a n c a1 n1 c1 ss gs (Int.ofNat left) lines a2 n2 c2 g21 := B14.rst (Bg14.kp K20) (.of K20)
        have N21 : Nx b a2 g14 a2 g21 := Nx.rst (.of K20)
        have g21nx : g21.nx = h20.nx := rfl
        have n20 : g14.nx ≤ h20.nx := K20.nx
        have Bg21 := B21.grd (l := [h11.nx]) fun q hq => by rw [List.mem_singleton] at hq; subst hq; exact ⟨by omega, htb⟩
        have Y21 : IntsAt (g21.grd [h11.nx]) a17 n18 (needF (clashN ss gs) ds.length ds) := Y20.keep (fun _ _ _ => rfl) (Nat.le_refl _) fun _ _ h => h
        have sub := needF_sub (clashN ss gs) ds.length ds
        obtain ⟨v25, h25, e25, a22, n23, c24, rfl, Z25, K25, F25, E25⟩ := ct96E hO Bg21.ok Y21 (by have := sub.length_le; omega) (fun x hx => dlit x (sub.subset hx)) (List.Pairwise.sublist sub ddif) (c0 := c19)
        refine ⟨_, _, _, h25, e25, ?_⟩
        intro g26
        have B26 : Bs b (Int.ofNat N) a n c a1 n1 c1 ss gs (Int.ofNat left) lines a2 n2 c2 g26 := B21.rst (Bg21.kp K25) (.of K25)
        have N26 : Nx b a2 g21 a2 g26 := Nx.rst (.of K25)
        have n25 : g21.nx ≤ g26.nx := K25.nx
        have Bg26 := B26.grd (l := [h11.nx]) fun q hq => by rw [List.mem_singleton] at hq; subst hq; exact ⟨by omega, htb⟩
        have Z26 : IntsAt (g26.grd [h11.nx]) a22 n23 _ := Z25.keep (fun _ _ _ => rfl) (Nat.le_refl _) fun _ _ h => h
        have F25' : ∀ q off, a22 = some ⟨q, off, none⟩ → g21.nx ≤ q := F25
        have W : Aw b a2 a22 := fun q off e => by
          have h1 := F25' q off e
          exact ⟨by omega, fun e2 => by have := (B21.L.lt q e2).2; omega⟩
        obtain ⟨v30, h30, e30, rfl, W30, a3, n3, c3, B30, N30, A30⟩ := ct137 hO Bg26 (by omega) Z26 W E25 (cc := c24)
        refine ⟨_, _, _, h30, e30, ?_⟩
        intro g31
        have B31 : Bs b (Int.ofNat N) a n c a1 n1 c1 ss gs (Int.ofNat left) _ a3 n3 c3 g31 := B26.rst B30 N30
        have N31 : Nx b a2 g26 a3 g31 := N30.rst
        have N1 : Nx b a2 g1 a3 g31 := (((N13.trans (.of K14)).trans N21).trans N26).trans N31
        have hR31 : g31.get h.nx = some (.cells [U 0, U 0] 102 .fix) := by rw [N1.get h.nx (by omega) hRb hR2]; exact hR
        have Nh : Nx b a2 h a3 g31 := (Nx.of K1).trans N1
        have W31 : IntsAt g31 a22 n23 _ := W30.keep (fun _ _ _ => rfl) (Nat.le_refl _) fun _ _ h => h
        obtain ⟨x1, x2, x3, x4, x5⟩ := exit117 B B31 Nh hR31 (y := y) (m := m) W31
        refine vreq_t x1 ?_
        intro g32 g33
        have e33 : g33 = g31.wr h.nx 0 [U y, U m] := rst_wr ..
        rw [e33]
        exact ⟨_, _, x2, by rw [← hS]; exact ⟨_, _, _, rfl, x5, a3, n3, c3, x3, x4, A30⟩⟩
      · have hq : fq = true := by simpa using hq
        subst hq
        rw [if_neg (by decide)] at hS
        intro g36
        have K36 : Kp g13.nx g13 g36 := (Kp.refl _ _).rsv 13
        have B36 := B13.kp K36
        have g36nx : g36.nx = g13.nx + 13 := rfl
        have ht36 : g36.get h11.nx = some (.cells [U y, U m] 102 .fix) := ht13
        have N36 : Nx b a2 g1 a2 g36 := N13.trans (.of K36)
        have Nh36 : Nx b a2 h a2 g36 := (Nx.of K1).trans N36
        have hR36 : g36.get h.nx = some (.cells [U 0, U 0] 102 .fix) := by rw [N36.get h.nx (by omega) hRb hR2]; exact hR
        refine ⟨_, read1 B36.get (i := 0 + 0) rfl, vreq_t rfl ⟨_, read1 ht36 (i := 0) rfl, _, read1 ht36 (i := 1) rfl, ?_⟩⟩
        rw [show Int.toNat (Int.ofNat N) = N from rfl, shl_pow hN, lor_nat, andn_nat]
        have hp : 2 ^ N ≤ 2 ^ 30 := Nat.pow_le_pow_right (by decide) hN
        have hor : y ||| m < 2 ^ 30 := Nat.or_lt_two_pow ly lm
        refine vreq_t (inD_of (by omega)) (vreq_t (inD_of (by omega)) (vreq_t (inD_of (by omega)) (vreq_t (inD_of (by omega)) ?_)))
        show vcond (eqI (Int.ofNat (freeM N y m)) 0) _ _
        refine vcond_split (fun hf => ?_) fun hf => ?_
        · have hf : freeM N y m = 0 := by have := eq_of_t hf; simp only [Int.ofNat_eq_natCast] at this; omega
          rw [if_pos hf] at hS
          obtain ⟨x1, x2, x3, x4, _⟩ := exit117 B B36 Nh36 hR36 (y := y) (m := m) (SlAt.nil 1 EInt g36)
          refine ⟨_, _, by rw [readAt_get ht36 (by simp)]; rfl, vreq_t x1 ?_⟩
          exact ⟨_, _, x2, by rw [← hS]; exact ⟨_, _, _, rfl, SlAt.nil .., a2, n2, c2, by rw [List.append_nil]; exact x3, x4, (Aw.none _ _)⟩⟩
        · have hf : freeM N y m ≠ 0 := fun e => ne_of_f hf (by rw [e]; rfl)
          rw [if_neg hf] at hS
          obtain ⟨dm, dp⟩ := dmore rfl hf
          obtain ⟨j, ej, hk30⟩ := lowF_spec hf (freeM_lt hN)
          generalize hkk : lowF (freeM N y m) = k at *
          have hlt := freeM_lt (y := y) (m := m) hN
          have e120 := ct120 hO (k := k) (j := j) (by rw [← ej]; omega) B36.tb
          rw [← ej] at e120
          refine ⟨_, g36, e120, ?_⟩
          rw [wrap_succ (by omega), show wrapF .i64 (0 - Int.ofNat (k + 1)) = -Int.ofNat (k + 1) by rw [wrap64 (by simp only [Int.ofNat_eq_natCast]; omega) (by simp only [Int.ofNat_eq_natCast]; omega)]; omega]
          intro g47
          have K47 : Kp g36.nx g36 g47 := (Kp.refl _ _).add (Nat.le_refl _) _
          have B47 := B36.kp K47
          have g47nx : g47.nx = g36.nx + 1 := nx_add ..
          have HL : g47.get g36.nx = some (.cells [.int .i64 (-Int.ofNat (k + 1)), .int .i64 (Int.ofNat (k + 1))] 3 .fix) := get_add_same ..
          have Nh47 : Nx b a2 h a2 g47 := Nh36.trans (.of K47)
          have hR47 : g47.get h.nx = some (.cells [U 0, U 0] 102 .fix) := by rw [K47.get _ (by omega)]; exact hR36
          have ht47 : g47.get h11.nx = some (.cells [U y, U m] 102 .fix) := by rw [K47.get _ (by omega)]; exact ht36
          have lp : Lit (Int.ofNat (k + 1)) := ⟨by simp only [Int.ofNat_eq_natCast]; omega, by simp only [Int.ofNat_eq_natCast]; omega⟩
          have ln : Lit (-Int.ofNat (k + 1)) := ⟨by simp only [Int.ofNat_eq_natCast]; omega, by simp only [Int.ofNat_eq_natCast]; omega⟩
          have B47' : Bs b (Int.ofNat N) a n c a1 n1 c1 ss gs (Int.ofNat left) (lines ++ []) a2 n2 c2 g47 := by rw [List.append_nil]; exact B47
          have so1 := searchF_ok D hN d (left := left) dm
          have so2 := searchF_ok D hN d (left := (searchF N ss gs d (ds ++ [-Int.ofNat (k + 1)]) left).left) dp
          generalize hs : searchF N ss gs d (ds ++ [-Int.ofNat (k + 1)]) left = s at *
          generalize ht : searchF N ss gs d (ds ++ [Int.ofNat (k + 1)]) s.left = t at *
          refine it117 hO D hN ih B B47' Nh47 (by rw [List.append_nil]; omega) hR47 (by omega) A hda (k := 0) (by decide) (by omega) HL (x := -Int.ofNat (k + 1)) rfl ln dm (by omega) (by omega) (ab := none) (nb := 0) (cb := 0) (vs := []) (.inl ⟨rfl, rfl, rfl, rfl⟩) (Aw.none _ _) (fun o e => by cases e) (fun v hv => by cases hv) (by decide) (s := s) hs.symm (fun he => ?_) ?_
          · rw [Int.neg_neg] at he
            rw [if_pos he] at hS
            rw [← hS]; rfl
          · intro h1 hm1 g' a4 n4 c4 ac nc cc o' B' N' gn' keep' A' ho' aw' C' awC' _
            rw [Int.neg_neg] at hm1
            rw [if_neg (by rw [h1]; simpa using hm1)] at hS
            have hR' : g'.get h.nx = some (.cells [U 0, U 0] 102 .fix) := by rw [keep' _ (by omega) hRb hR2 (fun e => by cases e)]; exact hR47
            have ht' : g'.get h11.nx = some (.cells [U y, U m] 102 .fix) := by rw [keep' _ (by omega) (by omega) (B47.nefix ht47) (fun e => by cases e)]; exact ht47
            have HL' : g'.get g36.nx = some (.cells [.int .i64 (-Int.ofNat (k + 1)), .int .i64 (Int.ofNat (k + 1))] 3 .fix) := by rw [keep' _ (by omega) (by omega) (B47.nefix HL) (fun e => by cases e)]; exact HL
            refine it117 hO D hN ih B B' N' (by simp only [List.length_append, List.nil_append] at so1 ⊢; omega) hR' (by omega) A hda (k := 1) (by decide) (by omega) HL' (x := Int.ofNat (k + 1)) rfl lp dp (by omega) (by omega) (ab := some ⟨o', 0, none⟩) (nb := 1) (cb := unk) (vs := [.slice ac nc cc]) A' aw' (fun o e => by injection e with e; injection e with e _; omega) (fun v hv => by rw [List.mem_singleton] at hv; exact ⟨_, _, _, hv⟩) (by decide) (s := t) ht.symm (fun he => ?_) ?_
            · rw [if_pos he] at hS
              rw [← hS]; rfl
            · intro h2 hm2 g'' a5 n5 c5 ae ne ce o'' B'' N'' gn'' keep'' A'' ho'' aw'' C'' awC'' stay
              rw [if_neg (by rw [h2]; simpa using hm2)] at hS
              have ncp : 0 < nc := by rw [C'.1]; exact List.length_pos_of_mem hm1
              obtain ⟨C1, awC1⟩ := stay _ _ _ C' awC' ncp
              have ne1 : ∀ q, q < g47.nx → some (⟨o', 0, none⟩ : Addr) ≠ some ⟨q, 0, none⟩ := fun q hq e => by injection e with e; injection e with e _; omega
              have hR'' : g''.get h.nx = some (.cells [U 0, U 0] 102 .fix) := by rw [keep'' _ (by omega) hRb (B'.nefix hR') (ne1 _ (by omega))]; exact hR'
              have ht'' : g''.get h11.nx = some (.cells [U y, U m] 102 .fix) := by rw [keep'' _ (by omega) (by omega) (B'.nefix ht') (ne1 _ (by omega))]; exact ht'
              refine I117_0.of (hh := ?_) ..
              unfold T117_0
              refine vcond_f rfl ?_
              intro g140
              obtain ⟨hob, hg''⟩ : o'' < g''.nx ∧ g''.get o'' = some (.cells [.slice ac nc cc, .slice ae ne ce] 32 .grow) := by
                rcases A'' with ⟨e2, _⟩ | ⟨p, e2, _, _, _, h5, h6⟩
                · cases e2
                · have e3 : o'' = p := congrArg Addr.block (Option.some.inj e2)
                  rw [e3]; exact ⟨h5, h6⟩
              have K140 : Kp g''.nx g'' g140 := (Kp.refl _ _).rsv 13
              have B140 := B''.kp K140
              have g140nx : g140.nx = g''.nx + 13 := rfl
              have hg140 : g140.get o'' = some (.cells [.slice ac nc cc, .slice ae ne ce] 32 .grow) := hg''
              refine vreq_t rfl ⟨_, _, _, read1 hg140 (i := 0 + 0) rfl, vreq_t rfl ⟨_, _, _, read1 hg140 (i := 0 + 1) rfl, ?_⟩⟩
              have Bg140 := B140.grd (l := []) fun q hq => by cases hq
              have D1 : IntsAt (g140.grd []) ac nc s.c := C1.keep (fun _ _ _ => rfl) (by show g''.nx ≤ g''.nx + 13; omega) fun _ _ h => h
              have D2 : IntsAt (g140.grd []) ae ne t.c := C''.keep (fun _ _ _ => rfl) (by show g''.nx ≤ g''.nx + 13; omega) fun _ _ h => h
              obtain ⟨v155, h155, e155, a151, n152, c153, rfl, X155, K155, F155, E155⟩ := ct38F hO (Int.ofNat (k + 1)) D1 D2 so1.1 so2.1 Bg140.ok Bg140.tb (c := cc) (c' := ce)
              refine ⟨_, _, _, _, h155, e155, ?_⟩
              intro g156
              have B156 : Bs b (Int.ofNat N) a n c a1 n1 c1 ss gs (Int.ofNat t.left) _ a5 n5 c5 g156 := B140.rst (Bg140.kp K155) (.of K155)
              have N156 : Nx b a5 g140 a5 g156 := Nx.rst (.of K155)
              have n155 : g140.nx ≤ g156.nx := K155.nx
              intro g157
              have K157 : Kp g156.nx g156 g157 := (Kp.refl _ _).rsv 7
              have B157 := B156.kp K157
              have g157nx : g157.nx = g156.nx + 7 := rfl
              have N157 : Nx b a5 g'' a5 g157 := ((Nx.of K140).trans N156).trans (.of K157)
              have ht157 : g157.get h11.nx = some (.cells [U y, U m] 102 .fix) := by rw [N157.get _ (by omega) (by omega) (B''.nefix ht'')]; exact ht''
              refine ⟨_, _, by rw [readAt_get ht157 (by simp)]; rfl, ?_⟩
              have Bg157 := B157.grd (l := [h11.nx]) fun q hq => by rw [List.mem_singleton] at hq; subst hq; exact ⟨by omega, by omega, B157.nefix ht157⟩
              have X157 : IntsAt (g157.grd [h11.nx]) a151 n152 (resP s.c t.c (Int.ofNat (k + 1))).1 := X155.keep (fun _ _ _ => rfl) (by show g156.nx ≤ g156.nx + 7; omega) fun _ _ h => h
              have W : Aw b a5 a151 := fun q off e => by
                have h1 : g140.nx ≤ q := F155 q off e
                have := B''.bn
                exact ⟨by omega, fun e2 => by have := (B''.L.lt q e2).2; omega⟩
              obtain ⟨v163, h163, e163, rfl, W163, a6, n6, c6, B163, N163, A163⟩ := ct137 hO Bg157 (by simp only [List.length_append, List.nil_append] at so1 so2 ⊢; omega) X157 W E155 (cc := c153)
              refine ⟨_, _, _, h163, e163, ?_⟩
              intro g164
              have B164 : Bs b (Int.ofNat N) a n c a1 n1 c1 ss gs (Int.ofNat t.left) _ a6 n6 c6 g164 := B157.rst B163 N163
              have N164 : Nx b a5 g157 a6 g164 := N163.rst
              have N2 : Nx b a5 g'' a6 g164 := N157.trans N164
              have hR164 : g164.get h.nx = some (.cells [U 0, U 0] 102 .fix) := by rw [N2.get _ (by omega) hRb (B''.nefix hR'')]; exact hR''
              have Nh : Nx b a2 h a6 g164 := N''.trans N2
              have W164 : IntsAt g164 a151 n152 _ := W163.keep (fun _ _ _ => rfl) (Nat.le_refl _) fun _ _ h => h
              obtain ⟨x1, x2, x3, x4, x5⟩ := exit117 B B164 Nh hR164 (y := y) (m := m) W164
              refine vreq_t x1 ?_
              intro g165 g166
              have e166 : g166 = g164.wr h.nx 0 [U y, U m] := rst_wr ..
              rw [e166]
              refine ⟨_, _, x2, ?_⟩
              rw [← hS]
              refine ⟨_, _, _, rfl, x5, a6, n6, c6, ?_, x4, A163⟩
              rw [show lines ++ ((s.lines ++ t.lines) ++ [(resP s.c t.c (Int.ofNat (k + 1))).1]) = (lines ++ (([] ++ s.lines) ++ t.lines)) ++ [(resP s.c t.c (Int.ofNat (k + 1))).1] by simp]
              exact x3
end
end Go.Proofs.YtfgfhplgnfbaaaaDoor
/- The walks of solve, Model, Prove. -/
namespace Go.Proofs.YtfgfhplgnfbaaaaDoor
open Go Go.Ev
section
variable {O : CallF} (hO : Oth O)
include hO
/-- What solve returns. -/
def solF (N : Nat) (cls : List (List Int)) (gs : List Int) : Sr := searchF N (cls.map sideN) gs (N + 1) [] 2000
/-- A list of lists that has grown, or nothing. -/
def Gw (h : Hp) (a : Option Addr) (n c : Nat) : Prop := (a = none ∧ n = 0 ∧ c = 0) ∨ ∃ o vs, a = some ⟨o, 0, none⟩ ∧ c = unk ∧ n = vs.length ∧ o < h.nx ∧ h.get o = some (.cells vs 32 .grow)
omit hO in
theorem Gw.kp {h h' : Hp} {a : Option Addr} {n c : Nat} (w : Gw h a n c) (k : Kp h.nx h h') : Gw h' a n c := w.imp id fun ⟨o, vs, e1, e2, e3, e4, e5⟩ => ⟨o, vs, e1, e2, e3, Nat.lt_of_lt_of_le e4 k.nx, by rw [k.get o e4]; exact e5⟩
omit hO in
theorem form_bounds {vars : Int} {cls : List (List Int)} {gs : List Int} (ha : askB vars cls gs = true) : (0 ≤ vars ∧ vars ≤ 30) ∧ cls.length ≤ 120 ∧ (∀ l ∈ cls, clB vars 0 l = true) ∧ clB vars 0 gs = true := by
  unfold askB formB at ha
  simp only [Bool.and_eq_true, Bool.not_eq_true', decide_eq_false_iff_not, List.all_eq_true] at ha
  obtain ⟨⟨⟨⟨h1, h2⟩, h3⟩, h4⟩, h5⟩ := ha
  exact ⟨⟨by omega, by omega⟩, by omega, h4, h5⟩
theorem ct79g {a a1 : Option Addr} {n c n1 c1 N : Nat} {h : Hp} {cls : List (List Int)} {gs : List Int} (ok : h.Ok) (ht : Tb h) (H : IntssAt h a n cls) (hl : cls.length < 10000) (hll : ∀ l ∈ cls, l.length < 1000000) (hlit : ∀ l ∈ cls, ∀ x ∈ l, Lit x) (G : IntsAt h a1 n1 gs) (hgl : gs.length < 1000) (hg : ∀ x ∈ gs, Lit x)
    (hN : N ≤ 30) {Dc : List Int → Prop} (D : Dec N (cls.map sideN) gs Dc) (D0 : Dc []) :
    Ret Tryd.prog O 79 [Fm (Int.ofNat N) a n c, .slice a1 n1 c1] h fun v h' => ∃ al nl cl, v = .tuple #[.agg #[U (solF N cls gs).y, U (solF N cls gs).m], .slice al nl cl, .int .i64 (solF N cls gs).how] ∧ IntssAt h' al nl (solF N cls gs).lines ∧ Gw h' al nl cl ∧ Kp h.nx h h' := by
  refine rk79 _ _ _ _ _ _ _ (hO _ _ _ (by decide)) ?_
  unfold T79
  intro g1 g2
  have kp : Kp h.nx h g1 := fm_kp h (Int.ofNat N) a n c
  have g1nx : g1.nx = h.nx + 1 := nx_add ..
  have g2nx : g2.nx = h.nx + 2 := by rw [show g2.nx = g1.nx + 1 from nx_add .., g1nx]
  have K2 : Kp h.nx h g2 := kp.add (by omega) _
  have f2 : g2.get h.nx = some (.cells [.int .i64 (Int.ofNat N), .slice a n c] 30 .fix) := (get_add_ne (by omega)).trans (fm_get h (Int.ofNat N) a n c)
  have t2 : g2.get g1.nx = some (.cells [U 0, U 0] 102 .fix) := get_add_same ..
  refine ⟨_, _, _, _, by rw [readAt_get f2 (by simp)]; rfl, ?_⟩
  have ok2 := ok.kp K2
  obtain ⟨v1, h8, e8, b, a6, n6, c6, rfl, z1, z2, z3, z4, z5⟩ := ct76 hO (vars := Int.ofNat N) ok2 (H.up EInts.up K2) hl hll hlit (c := c) (a1 := a1) (n1 := n1) (c1 := c1)
  refine ⟨_, h8, e8, ?_⟩
  have K8 : Kp h.nx h h8 := K2.trans (z5.le K2.nx)
  have hbn : h.nx < b := by omega
  have sl : SidesAt2 h8 a6 n6 (cls.map sideN) := z4.slAt uu_len (by decide)
  have hsl : (cls.map sideN).length < 1000000 := by simp; omega
  have hss := sides_lt hO hlit
  have B8 : Bs b (Int.ofNat N) a6 n6 c6 a1 n1 c1 (cls.map sideN) gs (Int.ofNat 2000) [] none 0 0 h8 := by
    refine ⟨ok.kp K8, ht.kp K8 ht.1, z2, z3, sl, fun q off e => ⟨?_, fun e2 => by cases e2⟩, G.up EInt.up K8, fun q off e => ⟨?_, fun e2 => by cases e2⟩, ⟨[], Acc.nil .., .nil h8, fun v hv => by cases hv⟩, fun q hq => ⟨?_, fun e2 => by cases e2⟩⟩
    · rcases z4 with ⟨e2, _⟩ | ⟨o, e2, _, _, h4, _⟩
      · rw [e2] at e; cases e
      · have : q = o := congrArg Addr.block (Option.some.inj (e.symm.trans e2))
        omega
    · have := SlAt.lt G q off e; omega
    · rw [K8.gd] at hq; have := ok.gd q hq; omega
  obtain ⟨v15, h15, e15, ac, nc, cc, rfl, X15, a3, n3, c3, B15, N15, _⟩ := ct117 hO D hN hsl hss (by omega) hg (N + 1) (left := 2000) D0 (by simp) (by simp) B8 (AccI.nil 3 h8 0) (Aw.none _ _)
  refine ⟨_, _, _, _, _, _, h15, e15, ?_⟩
  show let g16 : Hp := h15.add (.cells [U 0, U 0] 102 .fix); _
  generalize hr : searchF N (cls.map sideN) gs (N + 1) [] 2000 = r at *
  have hr' : solF N cls gs = r := hr
  rw [hr']
  rw [List.nil_append] at B15
  intro g16
  have gdl : ∀ q ∈ h15.gd, q < h.nx := fun q hq => by rw [N15.gd, K8.gd] at hq; exact ok.gd q hq
  have n8 := K8.nx
  have n15 : h.nx + 2 ≤ h15.nx := by have := N15.nx; have := z5.nx; omega
  have gf : g16.guarded h15.nx = false := guarded_of fun q hq => by have := gdl q hq; omega
  have gs16 : g16.get h15.nx = some (.cells [U 0, U 0] 102 .fix) := get_add_same ..
  refine vreq_t (canW_t gs16 (by decide) gf (by simp) rfl) ?_
  intro g17 g18
  have K18 : Kp h15.nx h15 g18 := (((Kp.refl _ _).add (Nat.le_refl _) _).wr (Nat.le_refl _) _ _).rsv 9
  have H18 : g18.get h15.nx = some (.cells [U r.y, U r.m] 102 .fix) := wr_get gs16 (by decide) gf (by simp) rfl
  have B18 := B15.kp K18
  have n18 : h15.nx ≤ g18.nx := K18.nx
  have T18 : g18.get g1.nx = some (.cells [U 0, U 0] 102 .fix) := by
    rw [K18.get _ (by omega), N15.get _ (by have := z5.nx; omega) (by omega) (fun e => by cases e), z5.get _ (by omega)]; exact t2
  refine ⟨_, _, by rw [readAt_get H18 (by simp)]; rfl, ?_⟩
  refine ⟨_, _, _, read1 B18.get (i := 0 + 4) rfl, ?_⟩
  have T18' : (g18.grd [b]).get g1.nx = some (.cells [U 0, U 0] 102 .fix) := T18
  have gf18 : (g18.grd [b]).guarded g1.nx = false := guarded_of fun q hq => by
    rcases List.mem_append.1 hq with hq | hq
    · rw [List.mem_singleton] at hq; omega
    · rw [K18.gd] at hq; have := gdl q hq; omega
  refine vreq_t (canW_t T18' (by decide) gf18 (by simp) rfl) ?_
  intro g26 g27
  have T26 : g26.get g1.nx = some (.cells [U r.y, U r.m] 102 .fix) := wr_get T18' (by decide) gf18 (by simp) rfl
  have T27 : g27.get g1.nx = some (.cells [U r.y, U r.m] 102 .fix) := T26
  have ne : ∀ q, q ≠ g1.nx → g27.get q = g18.get q := fun q hq => wr_get_ne (g18.grd [b]) _ _ _ hq
  have nx27 : g27.nx = g18.nx := nx_wr (g18.grd [b]) ..
  refine ⟨_, _, by rw [readAt_get T27 (by simp)]; rfl, _, _, _, rfl, ?_, ?_, ?_⟩
  · obtain ⟨vs, A, L, V⟩ := B18.L
    refine AccE.intss (.inl (A.keep (h' := g27) (fun o ho e => ne o fun e2 => B18.nefix T18 (by rw [← e2]; exact e)) (Nat.le_of_eq nx27.symm))) ⟨L.1, fun i hi => ?_⟩
    obtain ⟨v, hv, a', n', c', e, X⟩ := L.2 i hi
    have X1 : IntsAt (g18.grd [b]) a' n' r.lines[i] := X.keep (fun _ _ _ => rfl) (Nat.le_refl _) fun _ _ h => h
    have X2 : IntsAt g26 a' n' r.lines[i] := wr_ints T18' T26 X1
    exact ⟨v, hv, a', n', c', e, X2.keep (fun _ _ _ => rfl) (Nat.le_refl _) fun _ _ h => h⟩
  · obtain ⟨vs, A, L, V⟩ := B18.L
    rcases A.keep (h' := g27) (fun o ho e => ne o fun e2 => B18.nefix T18 (by rw [← e2]; exact e)) (Nat.le_of_eq nx27.symm) with ⟨e1, e2, e3, _⟩ | ⟨o, e1, e2, e3, _, e5, e6⟩
    · exact .inl ⟨e1, e2, e3⟩
    · exact .inr ⟨o, vs, e1, e2, by omega, e5, e6⟩
  · refine ⟨fun o ho => ?_, by rw [nx27]; omega, ?_, fun f => ?_⟩
    · rw [ne o (by omega), K18.get o (by omega), N15.get o (by omega) (by omega) (fun e => by cases e), K8.get o ho]
    · show g18.gd = h.gd
      rw [K18.gd, N15.gd, K8.gd]
    · intro q hq
      rw [nx27] at hq
      rw [ne q (by omega)]
      exact (K18.fr (N15.fr (K8.fr f))) q hq
theorem ct79 {a a1 : Option Addr} {n c n1 c1 N : Nat} {h : Hp} {cls : List (List Int)} {gs : List Int} (ok : h.Ok) (ht : Tb h) (H : IntssAt h a n cls) (hl : cls.length < 10000) (hll : ∀ l ∈ cls, l.length < 1000000) (hlit : ∀ l ∈ cls, ∀ x ∈ l, Lit x) (G : IntsAt h a1 n1 gs) (hgl : gs.length < 1000) (hg : ∀ x ∈ gs, Lit x)
    (hN : N ≤ 30) {Dc : List Int → Prop} (D : Dec N (cls.map sideN) gs Dc) (D0 : Dc []) :
    Ret Tryd.prog O 79 [Fm (Int.ofNat N) a n c, .slice a1 n1 c1] h fun v h' => ∃ al nl cl, v = .tuple #[.agg #[U (solF N cls gs).y, U (solF N cls gs).m], .slice al nl cl, .int .i64 (solF N cls gs).how] ∧ IntssAt h' al nl (solF N cls gs).lines ∧ Kp h.nx h h' := by
  obtain ⟨v, h', e, al, nl, cl, hv, X, _, k⟩ := ct79g hO ok ht H hl hll hlit G hgl hg hN D D0 (c := c) (c1 := c1)
  exact ⟨v, h', e, al, nl, cl, hv, X, k⟩
theorem ct80 (x : Int) (h : Hp) : EvT O 80 [.int .i64 x] h (.int .i64 (if x = 1 then 5 else if x = 2 then 8 else 0)) h := by
  refine EvC.of_ret (rk80 _ (hO _ _ _ (by decide)) ?_)
  unfold T80
  refine vcond_split (fun h1 => ?_) fun h1 => vcond_split (fun h2 => ?_) fun h2 => ?_
  · rw [if_pos (eq_of_t h1)]; exact ⟨rfl, rfl⟩
  · rw [if_neg (ne_of_f h1), if_pos (eq_of_t h2)]; exact ⟨rfl, rfl⟩
  · rw [if_neg (ne_of_f h1), if_neg (ne_of_f h2)]; exact ⟨rfl, rfl⟩
/-- What Model returns. -/
def modelP (vars : Int) (cls : List (List Int)) (gs : List Int) : List Bool × Int :=
  if askB vars cls gs = false then ([], 2)
  else if (solF vars.toNat cls gs).how = 0 then ((List.range vars.toNat).map fun v => (solF vars.toNat cls gs).y.testBit v, 0)
  else ([], if (solF vars.toNat cls gs).how = 1 then 5 else if (solF vars.toNat cls gs).how = 2 then 8 else 0)
/-- What Prove returns. -/
def proveP (vars : Int) (cls : List (List Int)) (gs : List Int) : List (List Int) × Int :=
  if askB vars cls gs = false then ([], 2)
  else if (solF vars.toNat cls gs).how = 0 then ([], 5)
  else if (solF vars.toNat cls gs).how = 2 then ([], 8)
  else ((solF vars.toNat cls gs).lines, 0)
theorem ct24g {a a1 : Option Addr} {n c n1 c1 : Nat} {vars : Int} {h : Hp} {cls : List (List Int)} {gs : List Int} (ok : h.Ok) (ht : Tb h) (H : IntssAt h a n cls) (hl : cls.length < 1000000) (hll : ∀ l ∈ cls, l.length < 1000000) (G : IntsAt h a1 n1 gs) (hgl : gs.length < 1000)
    (D : askB vars cls gs = true → ∃ Dc, Dec vars.toNat (cls.map sideN) gs Dc ∧ Dc []) :
    Ret Tryd.prog O 24 [Fm vars a n c, .slice a1 n1 c1] h fun v h' => ∃ al nl cl, v = .tuple #[.slice al nl cl, .int .i64 (proveP vars cls gs).2] ∧ IntssAt h' al nl (proveP vars cls gs).1 ∧ Gw h' al nl cl ∧ Kp h.nx h h' := by
  refine rk24 _ _ _ _ _ _ _ (hO _ _ _ (by decide)) ?_
  unfold T24
  intro g1
  have kp : Kp h.nx h g1 := fm_kp h vars a n c
  have g : g1.get h.nx = some (.cells [.int .i64 vars, .slice a n c] 30 .fix) := fm_get h vars a n c
  have g1nx : g1.nx = h.nx + 1 := nx_add ..
  obtain ⟨v1, h7, e7, rfl, K7⟩ := ct78 hO (c := c) (vars := vars) (c1 := c1) (H.up EInts.up kp) hl hll (G.up EInt.up kp) (by omega)
  have k7 : Kp h.nx h h7 := kp.trans (K7.le kp.nx)
  have g7 : h7.get h.nx = some (.cells [.int .i64 vars, .slice a n c] 30 .fix) := by rw [K7.get _ (by omega)]; exact g
  refine ⟨_, _, _, _, by rw [readAt_get g (by simp)]; rfl, _, h7, e7, ?_⟩
  unfold proveP
  cases ha : askB vars cls gs with
  | false => exact vcond_t (by decide) ⟨_, _, _, by rw [if_pos rfl]; rfl, by rw [if_pos rfl]; exact SlAt.nil .., .inl ⟨rfl, rfl, rfl⟩, k7⟩
  | true =>
    obtain ⟨⟨v0, v30⟩, q1, q2, q3⟩ := form_bounds ha
    obtain ⟨Dc, D, D0⟩ := D ha
    rw [if_neg (show ¬ (true = false) by decide)]
    refine vcond_f (by decide) ⟨_, _, _, _, by rw [readAt_get g7 (by simp)]; rfl, ?_⟩
    have lits : ∀ l ∈ cls, ∀ x ∈ l, Lit x := fun l hl x hx => (clB_lit (by decide) (q2 l hl) x hx).1
    have ev : vars = Int.ofNat vars.toNat := by simp only [Int.ofNat_eq_natCast]; omega
    obtain ⟨v18, h18, e18, al, nl, cl, rfl, L18, W18, K18⟩ := ct79g hO (N := vars.toNat) (ok.kp k7) (ht.kp k7 ht.1) (H.up EInts.up k7) (by omega) hll lits (G.up EInt.up k7) hgl (fun x hx => (clB_lit (by decide) q3 x hx).1) (by omega) D D0 (c := c) (c1 := c1)
    rw [← ev] at e18
    refine ⟨_, _, _, _, _, _, h18, e18, ?_⟩
    generalize solF vars.toNat cls gs = r at *
    intro g19
    have k18 : Kp h.nx h h18 := k7.trans (K18.le k7.nx)
    have gf : g19.guarded h18.nx = false := guarded_of fun q hq => by have := (ok.kp k18).gd q hq; omega
    have gs19 : g19.get h18.nx = some (.cells [U 0, U 0] 102 .fix) := get_add_same ..
    refine vreq_t (canW_t gs19 (by decide) gf (by simp) rfl) ?_
    intro g20
    have K20 : Kp h18.nx h18 g20 := ((Kp.refl _ _).add (Nat.le_refl _) _).wr (Nat.le_refl _) _ _
    have k20 : Kp h.nx h g20 := k18.trans (K20.le k18.nx)
    refine vcond_split (fun h1 => ?_) fun h1 => vcond_split (fun h2 => ?_) fun h2 => ?_
    · rw [if_pos (eq_of_t h1)]; exact ⟨_, _, _, rfl, SlAt.nil .., .inl ⟨rfl, rfl, rfl⟩, k20⟩
    · rw [if_neg (ne_of_f h1), if_pos (eq_of_t h2)]; exact ⟨_, _, _, rfl, SlAt.nil .., .inl ⟨rfl, rfl, rfl⟩, k20⟩
    · rw [if_neg (ne_of_f h1), if_neg (ne_of_f h2)]; exact ⟨_, _, _, rfl, L18.up EInts.up K20, W18.kp K20, k20⟩
theorem lp23 {a a1 : Option Addr} {n c n1 c1 : Nat} {vars : Int} {h₀ : Hp} (ok : h₀.Ok) {b7 : Nat} (hb7 : h₀.nx ≤ b7) {y m N : Nat} (hN : N ≤ 30) (hy : y < 2 ^ 30) (hm : m < 2 ^ 30) :
    ∀ (d k : Nat), k + d = N → ∀ {a10 : Option Addr} {n10 c10 : Nat} {h : Hp}, Kp h₀.nx h₀ h → b7 < h.nx → h.get b7 = some (.cells [U y, U m] 102 .fix) → Acc h (b7 + 1) 4 1 a10 n10 c10 (((List.range k).map fun v => y.testBit v).flatMap bb) → n10 = k →
      I23_0 O (fun v h' => ∃ al nl cl, v = .tuple #[.slice al nl cl, .int .i64 0] ∧ BoolsAt h' al nl ((List.range N).map fun v => y.testBit v) ∧ Kp h₀.nx h₀ h') vars a n c a1 n1 c1 b7 0 a10 n10 c10 (Int.ofNat N) (Int.ofNat k) h := by
  intro d
  induction d with
  | zero =>
    intro k hk a10 n10 c10 h kp hb g A hn
    obtain rfl : k = N := by omega
    refine I23_0.of (hh := ?_) ..
    unfold T23_0
    exact vcond_f (by rw [ltI_nat]; exact blt_f (by omega)) ⟨_, _, _, rfl, AccE.bools (.inl A), kp⟩
  | succ d ih =>
    intro k hk a10 n10 c10 h kp hb g A hn
    refine I23_0.of (hh := ?_) ..
    unfold T23_0
    refine vcond_t (by rw [ltI_nat]; exact blt_t (by omega)) ⟨_, _, by rw [readAt_get g (by simp)]; rfl, ?_⟩
    rw [wrap_succ (by omega)]
    obtain ⟨v1, h1, e1, rfl, K1⟩ := ct81 hO (v := k) (by omega) (y := y) (m := m) (by omega) (by omega) (h := h)
    refine ⟨_, h1, e1, ?_⟩
    intro g105
    have f1 := K1.ex (Nat.le_refl _)
    have hbit : eqI (ofN y m k) 1 = y.testBit k := by
      unfold ofN
      cases y.testBit k with
      | true => rfl
      | false =>
        cases m.testBit k <;> rfl
    have k1 : Kp h₀.nx h₀ h1 := kp.trans (K1.le kp.nx)
    have hn1 := K1.nx
    have gd1 : GdLt h1 (b7 + 1) := fun q hq => by rw [k1.gd] at hq; have := ok.gd q hq; omega
    show ∃ a' n' c' h', appendV Tryd.prog (h1.add (.cells (bb (eqI (ofN y m k) 1)) 4 .fix)) 40 40 (.slice a10 n10 c10) (.slice (some ⟨h1.nx, 0, none⟩) 1 1) = some (.slice a' n' c', h') ∧ _
    refine appE (enc := bb) (fun _ => rfl) (fun _ => rfl) app40 (A.to h1) (by omega) gd1 (by omega) (by unfold big; omega) fun a' c' h' A' _ K' => ?_
    rw [hbit] at A'
    refine ih (k + 1) (by omega) (k1.trans (K'.le (by omega))) (Nat.lt_of_lt_of_le hb (Nat.le_trans hn1 K'.nx)) (by rw [K'.get _ (by omega), K1.get _ hb]; exact g) ?_ (by omega)
    rw [List.range_succ, List.map_append, List.map_singleton]; exact A'
theorem ct23 {a a1 : Option Addr} {n c n1 c1 : Nat} {vars : Int} {h : Hp} {cls : List (List Int)} {gs : List Int} (ok : h.Ok) (ht : Tb h) (H : IntssAt h a n cls) (hl : cls.length < 1000000) (hll : ∀ l ∈ cls, l.length < 1000000) (G : IntsAt h a1 n1 gs) (hgl : gs.length < 1000)
    (D : askB vars cls gs = true → ∃ Dc, Dec vars.toNat (cls.map sideN) gs Dc ∧ Dc []) (hlt : askB vars cls gs = true → (solF vars.toNat cls gs).y < 2 ^ 30 ∧ (solF vars.toNat cls gs).m < 2 ^ 30) :
    Ret Tryd.prog O 23 [Fm vars a n c, .slice a1 n1 c1] h fun v h' => ∃ al nl cl, v = .tuple #[.slice al nl cl, .int .i64 (modelP vars cls gs).2] ∧ BoolsAt h' al nl (modelP vars cls gs).1 ∧ Kp h.nx h h' := by
  refine rk23 _ _ _ _ _ _ _ (hO _ _ _ (by decide)) ?_
  unfold T23
  intro g1
  have kp : Kp h.nx h g1 := fm_kp h vars a n c
  have g : g1.get h.nx = some (.cells [.int .i64 vars, .slice a n c] 30 .fix) := fm_get h vars a n c
  have g1nx : g1.nx = h.nx + 1 := nx_add ..
  obtain ⟨v1, h7, e7, rfl, K7⟩ := ct78 hO (c := c) (vars := vars) (c1 := c1) (H.up EInts.up kp) hl hll (G.up EInt.up kp) (by omega)
  have k7 : Kp h.nx h h7 := kp.trans (K7.le kp.nx)
  have hn7 := K7.nx
  have g7 : h7.get h.nx = some (.cells [.int .i64 vars, .slice a n c] 30 .fix) := by rw [K7.get _ (by omega)]; exact g
  refine ⟨_, _, _, _, by rw [readAt_get g (by simp)]; rfl, _, h7, e7, ?_⟩
  unfold modelP
  cases ha : askB vars cls gs with
  | false => exact vcond_t (by decide) ⟨_, _, _, by rw [if_pos rfl]; rfl, by rw [if_pos rfl]; exact SlAt.nil .., k7⟩
  | true =>
    obtain ⟨⟨v0, v30⟩, q1, q2, q3⟩ := form_bounds ha
    obtain ⟨Dc, D, D0⟩ := D ha
    obtain ⟨hy, hm⟩ := hlt ha
    rw [if_neg (show ¬ (true = false) by decide)]
    refine vcond_f (by decide) ⟨_, _, _, _, by rw [readAt_get g7 (by simp)]; rfl, ?_⟩
    have lits : ∀ l ∈ cls, ∀ x ∈ l, Lit x := fun l hl x hx => (clB_lit (by decide) (q2 l hl) x hx).1
    have ev : vars = Int.ofNat vars.toNat := by simp only [Int.ofNat_eq_natCast]; omega
    obtain ⟨v18, h18, e18, al, nl, cl, rfl, L18, K18⟩ := ct79 hO (N := vars.toNat) (ok.kp k7) (ht.kp k7 ht.1) (H.up EInts.up k7) (by omega) hll lits (G.up EInt.up k7) hgl (fun x hx => (clB_lit (by decide) q3 x hx).1) (by omega) D D0 (c := c) (c1 := c1)
    rw [← ev] at e18
    refine ⟨_, _, _, _, _, _, h18, e18, ?_⟩
    generalize solF vars.toNat cls gs = r at *
    intro g19
    have k18 : Kp h.nx h h18 := k7.trans (K18.le k7.nx)
    have hn18 := K18.nx
    have gf : g19.guarded h18.nx = false := guarded_of fun q hq => by have := (ok.kp k18).gd q hq; omega
    have gs19 : g19.get h18.nx = some (.cells [U 0, U 0] 102 .fix) := get_add_same ..
    refine vreq_t (canW_t gs19 (by decide) gf (by simp) rfl) ?_
    intro g20
    have K20 : Kp h18.nx h18 g20 := ((Kp.refl _ _).add (Nat.le_refl _) _).wr (Nat.le_refl _) _ _
    have k20 : Kp h.nx h g20 := k18.trans (K20.le k18.nx)
    have g20nx : g20.nx = h18.nx + 1 := (nx_wr ..).trans (nx_add ..)
    refine vcond_split (fun h1 => ?_) fun h1 => ?_
    · rw [if_neg (fun e => by rw [e] at h1; exact absurd h1 (by decide))]
      exact ⟨_, _, ct80 hO _ _, _, _, _, rfl, SlAt.nil .., k20⟩
    · rw [if_pos (eq_of_t (by simpa using h1))]
      have g20g : g20.get h.nx = some (.cells [.int .i64 vars, .slice a n c] 30 .fix) := by rw [K20.get _ (by omega), K18.get _ (by omega)]; exact g7
      refine ⟨_, read1 g20g (i := 0) rfl, ?_⟩
      have := lp23 hO ok (a := a) (a1 := a1) (n := n) (c := c) (n1 := n1) (c1 := c1) (vars := vars) (b7 := h18.nx) (N := vars.toNat) (by omega) (by omega) hy hm vars.toNat 0 (by omega) k20 (by omega) (wr_get gs19 (by decide) gf (by simp) rfl) (Acc.nil ..) rfl
      rw [← ev] at this
      exact this
end
end Go.Proofs.YtfgfhplgnfbaaaaDoor
/- Contracts of layer 20: formulas by numbers. -/
namespace Go.Proofs.YtfgfhplgnfbaaaaDoor
open Go Go.Ev
structure PuzOk (vars many : Nat) (cl : List Int) : Prop where
  v : vars < 256
  m : many < 256
  len : cl.length = 42
  rng : ∀ x ∈ cl, -128 ≤ x ∧ x < 128
end Go.Proofs.YtfgfhplgnfbaaaaDoor
/- The plain law of resolution: what it returns. -/
namespace Go.Proofs.YtfgfhplgnfbaaaaDoor
open Go Go.Ev
theorem lits_mem {y m : Nat} (hy : y < 2 ^ 30) (hm : m < 2 ^ 30) (hc : y &&& m = 0) {x : Int} : x ∈ litsN y m ↔ trM y m x := by
  have ex : ∀ i, y.testBit i = true → m.testBit i = true → False := fun i a b => (and_zero_iff _ _).1 hc i ⟨a, b⟩
  have big : ∀ {u i : Nat}, u < 2 ^ 30 → u.testBit i = true → i < 30 := fun {u i} hu h => by
    refine Classical.byContradiction fun hn => ?_
    rw [Nat.testBit_lt_two_pow (Nat.lt_of_lt_of_le hu (Nat.pow_le_pow_right (by decide) (by omega)))] at h; cases h
  unfold litsN digits
  rw [List.mem_map]
  constructor
  · rintro ⟨v, hv, rfl⟩
    obtain ⟨h1, h2⟩ := List.mem_filter.1 hv
    rw [Nat.testBit_or, Bool.or_eq_true] at h2
    unfold litOf ofN
    cases hyv : y.testBit v with
    | true => exact .inl ⟨by simp, by simp only [if_pos]; exact hyv⟩
    | false =>
      have hmv : m.testBit v = true := by rcases h2 with h2 | h2; rw [hyv] at h2; cases h2; exact h2
      simp only [hmv, Bool.false_eq_true, if_false, if_true]
      exact .inr ⟨by omega, by rw [show (-((v + 1 : Nat) : Int)).natAbs - 1 = v by omega]; exact hmv⟩
  · rintro (⟨h0, h1⟩ | ⟨h0, h1⟩)
    · refine ⟨x.natAbs - 1, List.mem_filter.2 ⟨List.mem_range.2 (big hy h1), by rw [Nat.testBit_or, h1]; rfl⟩, ?_⟩
      unfold litOf ofN
      rw [if_pos h1, if_neg (by decide)]; omega
    · refine ⟨x.natAbs - 1, List.mem_filter.2 ⟨List.mem_range.2 (big hm h1), by rw [Nat.testBit_or, h1, Bool.or_true]⟩, ?_⟩
      unfold litOf ofN
      have : y.testBit (x.natAbs - 1) = false := by
        cases h : y.testBit (x.natAbs - 1) with
        | false => rfl
        | true => exact (ex _ h h1).elim
      have e : (if y.testBit (x.natAbs - 1) = true then (1 : Int) else if m.testBit (x.natAbs - 1) = true then 2 else 0) = 2 := by rw [if_neg (by rw [this]; decide), if_pos h1]
      rw [if_pos e]; omega
theorem litOf_abs (y m v : Nat) : (litOf y m v).natAbs = v + 1 := by
  unfold litOf; split <;> omega
theorem lits_dif (y m : Nat) : Dif (litsN y m) := by
  unfold litsN digits Dif
  rw [List.pairwise_map]
  refine (List.Pairwise.filter _ List.pairwise_lt_range).imp fun h => ?_
  rw [litOf_abs, litOf_abs]; omega
theorem lits_lit (y m : Nat) : ∀ x ∈ litsN y m, Lit x := by
  intro x hx
  unfold litsN digits at hx
  obtain ⟨v, hv, rfl⟩ := List.mem_map.1 hx
  have := List.mem_range.1 (List.mem_filter.1 hv).1
  have := litOf_abs y m v
  unfold Lit; omega
theorem con_iff {y m : Nat} : y &&& m = 0 ↔ ∀ x, trM y m x → trM y m (-x) → False := by
  constructor
  · intro h x a b; exact trM_con h x a b
  · intro h
    refine (and_zero_iff _ _).2 fun i hi => h ((i + 1 : Nat) : Int) (.inl ⟨by omega, ?_⟩) (.inr ⟨by omega, ?_⟩)
    · rw [show ((i + 1 : Nat) : Int).natAbs - 1 = i by omega]; exact hi.1
    · rw [show (-((i + 1 : Nat) : Int)).natAbs - 1 = i by omega]; exact hi.2
theorem rsF_ok {v : Int} : ∀ {zs : List Int} {y m : Nat} {q : Bool}, (∀ z ∈ zs, Lit z) → y < 2 ^ 30 → m < 2 ^ 30 → (y &&& m = 0 ∨ q = false) →
    (∀ z, trM (rsF v zs y m q).1 (rsF v zs y m q).2.1 z ↔ trM y m z ∨ (z ∈ zs ∧ z ≠ v ∧ z ≠ -v)) ∧ ((rsF v zs y m q).2.2 = true ↔ q = true ∧ (rsF v zs y m q).1 &&& (rsF v zs y m q).2.1 = 0) ∧ (rsF v zs y m q).1 < 2 ^ 30 ∧ (rsF v zs y m q).2.1 < 2 ^ 30 := by
  intro zs
  induction zs with
  | nil =>
    intro y m q _ hy hm hc
    refine ⟨fun z => ⟨.inl, fun h => h.elim id fun h => by cases h.1⟩, ⟨fun h => ⟨h, hc.resolve_right fun e => ?_⟩, fun h => h.1⟩, hy, hm⟩
    have h : q = true := h
    rw [e] at h; cases h
  | cons x zs ih =>
    intro y m q hl hy hm hc
    have hx := hl x (List.mem_cons_self ..)
    have hl' : ∀ z ∈ zs, Lit z := fun z hz => hl z (List.mem_cons_of_mem _ hz)
    simp only [rsF]
    split
    · rename_i hv
      obtain ⟨a, b, c⟩ := ih hl' hy hm hc
      refine ⟨fun z => ?_, b, c⟩
      rw [a]
      constructor
      · rintro (h | ⟨h, r⟩)
        · exact .inl h
        · exact .inr ⟨List.mem_cons_of_mem _ h, r⟩
      · rintro (h | ⟨h, r1, r2⟩)
        · exact .inl h
        · rcases List.mem_cons.1 h with rfl | h
          · exact absurd hv (by omega)
          · exact .inr ⟨h, r1, r2⟩
    · rename_i hv
      have w := withN_lt hx hy hm
      obtain ⟨a, b, c⟩ := ih (q := q && decide ((withN y m x).1 &&& (withN y m x).2 = 0)) hl' w.1 w.2 (by
        by_cases h : (withN y m x).1 &&& (withN y m x).2 = 0
        · exact .inl h
        · right; simp [h])
      refine ⟨fun z => ?_, ?_, c⟩
      · rw [a, trM_with hx]
        constructor
        · rintro ((h | rfl) | ⟨h, r⟩)
          · exact .inl h
          · exact .inr ⟨List.mem_cons_self .., by omega, by omega⟩
          · exact .inr ⟨List.mem_cons_of_mem _ h, r⟩
        · rintro (h | ⟨h, r⟩)
          · exact .inl (.inl h)
          · rcases List.mem_cons.1 h with rfl | h
            · exact .inl (.inr rfl)
            · exact .inr ⟨h, r⟩
      · rw [b, Bool.and_eq_true, decide_eq_true_eq]
        constructor
        · rintro ⟨⟨h1, _⟩, h2⟩; exact ⟨h1, h2⟩
        · rintro ⟨h1, h2⟩
          refine ⟨⟨h1, con_iff.2 fun z p1 p2 => con_iff.1 h2 z ((a z).2 (.inl p1)) ((a (-z)).2 (.inl p2))⟩, h2⟩
/-- What two clauses are resolved to. -/
theorem resP_spec {xs ys : List Int} {v : Int} (hx : clB 30 0 xs = true) (hy : clB 30 0 ys = true) (h1 : 1 ≤ v) (h2 : v ≤ 30) (hv : v ∈ xs) (hw : -v ∈ ys) :
    (resP xs ys v = ([], 7) ∧ ∃ x ∈ xs, x ≠ v ∧ x ≠ -v ∧ -x ∈ ys) ∨ ∃ L, resP xs ys v = (L, 0) ∧ (¬ ∃ x ∈ xs, x ≠ v ∧ x ≠ -v ∧ -x ∈ ys) ∧ Dif L ∧ (∀ x ∈ L, Lit x) ∧ ∀ x, x ∈ L ↔ (x ∈ xs ∨ x ∈ ys) ∧ x ≠ v ∧ x ≠ -v := by
  have lx := fun x h => (clB_lit (by decide) hx x h).1
  have ly := fun x h => (clB_lit (by decide) hy x h).1
  have dx := clB_dif (by decide) hx
  have dy := clB_dif (by decide) hy
  have one : ∀ {l : List Int}, Dif l → ∀ {x}, x ≠ 0 → x ∈ l → -x ∈ l → False := by
    intro l d x h0 a b
    obtain ⟨i, hi, e1⟩ := List.getElem_of_mem a
    obtain ⟨j, hj, e2⟩ := List.getElem_of_mem b
    have := List.pairwise_iff_getElem.1 d
    rcases Nat.lt_trichotomy i j with h | h | h
    · have := this i j hi hj h; omega
    · subst h; omega
    · have := this j i hj hi h; omega
  have e : resP xs ys v = fin38 (rsF v (xs ++ ys) 0 0 true) := by
    unfold resP
    rw [if_neg (by rw [hx, hy]; simp; omega), if_neg (by simp [hv, hw])]
  have lz : ∀ z ∈ xs ++ ys, Lit z := fun z hz => (List.mem_append.1 hz).elim (lx z) (ly z)
  obtain ⟨a, b, c, d⟩ := rsF_ok (v := v) (q := true) lz (y := 0) (m := 0) (by decide) (by decide) (.inl rfl)
  have z0 : ∀ z, ¬ trM 0 0 z := fun z h => by
    rcases h with ⟨_, h⟩ | ⟨_, h⟩ <;> simp at h
  rw [e]
  unfold fin38
  cases hq : (rsF v (xs ++ ys) 0 0 true).2.2 with
  | false =>
    refine .inl ⟨rfl, Classical.byContradiction fun hn => ?_⟩
    have : (rsF v (xs ++ ys) 0 0 true).2.2 = true := b.2 ⟨rfl, con_iff.2 fun z p1 p2 => ?_⟩
    · rw [hq] at this; cases this
    · obtain ⟨m1, n1, n2⟩ := ((a z).1 p1).resolve_left (z0 z)
      obtain ⟨m2, _, _⟩ := ((a (-z)).1 p2).resolve_left (z0 _)
      have h0 := (lz z m1).1
      rcases List.mem_append.1 m1 with m1 | m1 <;> rcases List.mem_append.1 m2 with m2 | m2
      · exact one dx h0 m1 m2
      · exact hn ⟨z, m1, n1, n2, m2⟩
      · exact hn ⟨-z, m2, by omega, by omega, by rw [Int.neg_neg]; exact m1⟩
      · exact one dy h0 m1 m2
  | true =>
    have h0 := (b.1 hq).2
    refine .inr ⟨_, rfl, ?_, lits_dif _ _, lits_lit _ _, fun x => ?_⟩
    · rintro ⟨x, m1, n1, n2, m2⟩
      exact con_iff.1 h0 x ((a x).2 (.inr ⟨List.mem_append_left _ m1, n1, n2⟩)) ((a (-x)).2 (.inr ⟨List.mem_append_right _ m2, by omega, by omega⟩))
    · rw [lits_mem c d h0, a]
      constructor
      · rintro (h | ⟨h, r⟩)
        · exact (z0 _ h).elim
        · exact ⟨List.mem_append.1 h, r⟩
      · rintro ⟨h, r⟩
        exact .inr ⟨List.mem_append.2 h, r⟩
theorem isB_neg {m : Nat} {x : Int} (hx : x ≠ 0) : isB m (-x) = !(isB m x) := by
  unfold isB
  rw [Int.natAbs_neg]
  by_cases h : x < 0
  · rw [if_neg (by omega), if_pos h, Bool.not_not]
  · rw [if_pos (by omega), if_neg h]
theorem clB_of {vars : Int} : ∀ {l : List Int} {last : Int}, Dif l → (∀ x ∈ l, Lit x ∧ (x.natAbs : Int) ≤ vars) → (∀ x ∈ l, last < (x.natAbs : Int)) → clB vars last l = true := by
  intro l
  induction l with
  | nil => intro last _ _ _; rfl
  | cons x l ih =>
    intro last hd hl hlast
    obtain ⟨h1, h2⟩ := List.pairwise_cons.1 hd
    have hx := hl x (List.mem_cons_self ..)
    have := hlast x (List.mem_cons_self ..)
    simp only [clB]
    rw [varI_lit2 hx.1, if_neg (by omega)]
    exact ih h2 (fun z hz => hl z (List.mem_cons_of_mem _ hz)) fun z hz => by have := h1 z hz; omega
end Go.Proofs.YtfgfhplgnfbaaaaDoor
/- The plain law of proofs: what is accepted follows; more clauses do no harm. -/
namespace Go.Proofs.YtfgfhplgnfbaaaaDoor
open Go Go.Ev
theorem Der.mono {cls cls' : List (List Int)} {xs xs' : List Int} (h1 : ∀ l ∈ cls, l ∈ cls') (h2 : ∀ x ∈ xs, x ∈ xs') {z : Int} (h : Der cls xs z) : Der cls' xs' z := by
  induction h with
  | base h => exact .base (h2 _ h)
  | unit hl hx _ ih => exact .unit (h1 _ hl) hx ih
theorem Cl.mono {cls cls' : List (List Int)} {xs xs' : List Int} (h1 : ∀ l ∈ cls, l ∈ cls') (h2 : ∀ x ∈ xs, x ∈ xs') (h : Cl cls xs) : Cl cls' xs' := by
  rcases h with ⟨x, a, b⟩ | ⟨l, hl, a⟩
  · exact .inl ⟨x, a.mono h1 h2, b.mono h1 h2⟩
  · exact .inr ⟨l, h1 l hl, fun y hy => (a y hy).mono h1 h2⟩
/-- Clauses as they are asked for. -/
def Good (cls : List (List Int)) : Prop := ∀ l ∈ cls, (∀ x ∈ l, Lit x) ∧ Dif l
theorem calm_iff {cls : List (List Int)} {xs : List Int} (hd : Good cls) (hx : ∀ x ∈ xs, Lit x) : (fromN (cls.map sideN) xs).2 = true ↔ ¬ Cl cls xs := by
  obtain ⟨a, b⟩ := fromN_ok hd hx
  constructor
  · intro h; exact (a h).1.not
  · intro h
    cases e : (fromN (cls.map sideN) xs).2 with
    | true => rfl
    | false => exact absurd (b e) h
/-- A model is calm. -/
theorem model_calm {cls : List (List Int)} {xs : List Int} {m : Nat} (hd : ∀ l ∈ cls, ∀ x ∈ l, x ≠ 0) (hx : ∀ x ∈ xs, x ≠ 0) (h1 : ∀ c ∈ cls, c.any (isB m) = true) (h2 : ∀ x ∈ xs, isB m x = true) : ¬ Cl cls xs := by
  have C : Calm cls xs fun x => x ≠ 0 ∧ isB m x = true := ⟨fun x a b => by
    have b2 := b.2
    rw [isB_neg a.1, a.2] at b2
    exact Bool.noConfusion b2, fun x h => ⟨hx x h, h2 x h⟩, fun l hl => by
    obtain ⟨x, hxl, ht⟩ := List.any_eq_true.1 (h1 l hl)
    exact .inl ⟨x, hxl, hd l hl x hxl, ht⟩⟩
  exact C.not
theorem accF_true {gs : List Int} {m : Nat} (hg : ∀ x ∈ gs, Lit x ∧ isB m x = true) : ∀ {pf cls : List (List Int)} {i : Nat}, Good cls → Good pf → accF gs cls pf i = none → (∀ c ∈ cls, c.any (isB m) = true) → ∀ l ∈ pf, l.any (isB m) = true := by
  intro pf
  induction pf with
  | nil => intro cls i _ _ _ _ l h; cases h
  | cons x pf ih =>
    intro cls i hc hp ha hm l hl
    simp only [accF] at ha
    split at ha
    · cases ha
    · rename_i hn
      obtain ⟨hx1, hx2⟩ := hp x (List.mem_cons_self ..)
      have lits : ∀ z ∈ gs ++ x.map (fun x => -x), Lit z := fun z hz => (List.mem_append.1 hz).elim (fun h => (hg z h).1) (lit_neg hx1 z)
      have hcl : Cl cls (gs ++ x.map fun x => -x) := Classical.byContradiction fun h => hn ((calm_iff hc lits).2 h)
      have hx : x.any (isB m) = true := by
        cases e : x.any (isB m) with
        | true => rfl
        | false =>
          refine absurd hcl (model_calm (fun l hl z hz => ((hc l hl).1 z hz).1) (fun z hz => (lits z hz).1) hm fun z hz => ?_)
          rcases List.mem_append.1 hz with hz | hz
          · exact (hg z hz).2
          · obtain ⟨w, hw, rfl⟩ := List.mem_map.1 hz
            rw [isB_neg (hx1 w hw).1]
            have := List.any_eq_false.1 e w hw
            simpa using this
      rcases List.mem_cons.1 hl with rfl | hl
      · exact hx
      · refine ih (cls := cls ++ [x]) (fun l hl => ?_) (fun l hl => hp l (List.mem_cons_of_mem _ hl)) ha (fun c hc' => ?_) l hl
        · rcases List.mem_append.1 hl with hl | hl
          · exact hc l hl
          · rw [List.mem_singleton.1 hl]; exact ⟨hx1, hx2⟩
        · rcases List.mem_append.1 hc' with hc' | hc'
          · exact hm c hc'
          · rw [List.mem_singleton.1 hc']; exact hx
theorem accF_mono {gs gs' : List Int} (hg : ∀ x ∈ gs, x ∈ gs') (hgl : ∀ x ∈ gs', Lit x) : ∀ {pf cls cls' : List (List Int)} {i : Nat}, Good cls → Good cls' → Good pf → (∀ l ∈ cls, l ∈ cls') → accF gs cls pf i = none → accF gs' cls' pf i = none := by
  intro pf
  induction pf with
  | nil => intro cls cls' i _ _ _ _ _; rfl
  | cons x pf ih =>
    intro cls cls' i hc hc' hp hs ha
    simp only [accF] at ha ⊢
    split at ha
    · cases ha
    · rename_i hn
      obtain ⟨hx1, hx2⟩ := hp x (List.mem_cons_self ..)
      have lits : ∀ z ∈ gs ++ x.map (fun x => -x), Lit z := fun z hz => (List.mem_append.1 hz).elim (fun h => hgl z (hg z h)) (lit_neg hx1 z)
      have lits' : ∀ z ∈ gs' ++ x.map (fun x => -x), Lit z := fun z hz => (List.mem_append.1 hz).elim (hgl z) (lit_neg hx1 z)
      have hcl : Cl cls (gs ++ x.map fun x => -x) := Classical.byContradiction fun h => hn ((calm_iff hc lits).2 h)
      have hcl' : Cl cls' (gs' ++ x.map fun x => -x) := hcl.mono hs fun z hz => (List.mem_append.1 hz).elim (fun h => List.mem_append_left _ (hg z h)) (List.mem_append_right _)
      rw [if_neg (fun h => (calm_iff hc' lits').1 h hcl')]
      have add : ∀ {c : List (List Int)}, Good c → Good (c ++ [x]) := fun {c} h l hl => by
        rcases List.mem_append.1 hl with hl | hl
        · exact h l hl
        · rw [List.mem_singleton.1 hl]; exact ⟨hx1, hx2⟩
      exact ih (add hc) (add hc') (fun l hl => hp l (List.mem_cons_of_mem _ hl)) (fun l hl => by
        rcases List.mem_append.1 hl with hl | hl
        · exact List.mem_append_left _ (hs l hl)
        · exact List.mem_append_right _ hl) ha
/-- A clause of variables up to a number. -/
def Cv (vars : Int) (l : List Int) : Prop := Dif l ∧ ∀ x ∈ l, Lit x ∧ (x.natAbs : Int) ≤ vars
theorem Cv.b {vars : Int} {l : List Int} (h : Cv vars l) : clB vars 0 l = true := clB_of h.1 h.2 fun x hx => by have := (h.2 x hx).1.1; omega
theorem good_of {vars : Int} {cls : List (List Int)} (h : ∀ l ∈ cls, Cv vars l) : Good cls := fun l hl => ⟨fun x hx => ((h l hl).2 x hx).1, (h l hl).1⟩
theorem ask_of {vars : Int} {cls : List (List Int)} {gs : List Int} (h0 : 0 ≤ vars) (h1 : vars ≤ 30) (hl : cls.length ≤ 120) (hc : ∀ l ∈ cls, Cv vars l) (hg : Cv vars gs) : askB vars cls gs = true := by
  unfold askB formB
  rw [hg.b, List.all_eq_true.2 fun l hl => (hc l hl).b]
  simp; omega
theorem acceptP_of {vars : Int} {cls pf : List (List Int)} {gs : List Int} (h0 : 0 ≤ vars) (h1 : vars ≤ 30) (hl : cls.length ≤ 120) (hc : ∀ l ∈ cls, Cv vars l) (hg : Cv vars gs) (hp : ∀ l ∈ pf, Cv vars l) (hpl : pf.length ≤ 2000) : acceptP vars cls gs pf = outA (accF gs cls pf 0) (endA pf) := by
  unfold acceptP
  rw [ask_of h0 h1 hl hc hg, if_neg (by decide), List.all_eq_true.2 fun l hl => (hp l hl).b, if_neg (by decide), if_neg (by omega)]
end Go.Proofs.YtfgfhplgnfbaaaaDoor
