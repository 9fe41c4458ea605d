/- Conditions of functions' code, printed by a program of ours. -/
import Derived.Test.YtfgfhplgnfbaaaaDoorProg
import Derived.Test.YtfgfhplgnfbaaaaDoorYC
import Derived.KernelRfl
import Derived.Test.YtfgfhplgnfbaaaaDoorYE
import Derived.Test.YtfgfhplgnfbaaaaDoorYD
namespace Go.Proofs.YtfgfhplgnfbaaaaDoor
open Go Go.Ev
set_option maxRecDepth 100000
set_option linter.unusedVariables false
/-! sward/sat.contrary -/
noncomputable def b96 : Code := (Tryd.f96.body).getD .skip
noncomputable def stk96_0 : List KI := [.code (sub [1, 1, 0, 1, 0] b96), .blk 0, .code (sub [1, 1, 1] b96)]
def lv96 : List (Nat × List Nat) := [(0, [2, 3, 6, 7, 8])]
def I96_0 (O : CallF) (Q : Value → Hp → Prop) (a0 : Option Addr) (n0 : Nat) (c0 : Nat) (a3 : Option Addr) (n3 : Nat) (c3 : Nat) (x8 : Int) (h : Hp) : Prop := RKL Tryd.prog O Tryd.f96 stk96_0 21 [2, 3, 6, 7, 8] [(.slice none 0 0), (.slice a3 n3 c3), (.slice a0 n0 c0), (.int .i64 (Int.ofNat n0)), (.int .i64 x8)] h Q
def T96 (O : CallF) (Q : Value → Hp → Prop) (a0 : Option Addr) (n0 : Nat) (c0 : Nat) (h : Hp) : Prop :=
  I96_0 O Q a0 n0 c0 none 0 0 0 h
theorem rk96 {O Q} (a0 n0 c0) {h : Hp} (hO : O 96 [(.slice a0 n0 c0)] h = none) (hh : T96 O Q a0 n0 c0 h) : Ret Tryd.prog O 96 [(.slice a0 n0 c0)] h Q :=
  .of (c := b96) Tryd.func96 (by kernel_rfl) hO (V_ok (tb := lv96) (cuts := []) 500 (Eq.mp (by kernel_rfl) hh))
def T96_0 (O : CallF) (Q : Value → Hp → Prop) (a0 : Option Addr) (n0 : Nat) (c0 : Nat) (a3 : Option Addr) (n3 : Nat) (c3 : Nat) (x8 : Int) (h : Hp) : Prop :=
  vcond (ltI x8 (Int.ofNat n0))
  (isNat x8 fun n101' =>
  isAddr a0 fun b102' f103' =>
  vreq (Nat.blt n101' n0)
  (∃ x104', readAt h b102' (f103' + (n101' * 1)) 1 = some [(.int .i64 x104')] ∧
  ∃ a105' n106' c107' h108', appendV Tryd.prog (h.add (.cells [(.int .i64 (wrapF .i64 (0 - x104')))] 3 .fix)) 32 32 (.slice a3 n3 c3) (.slice (some ⟨h.nx, 0, none⟩) 1 1) = some (.slice a105' n106' c107', h108') ∧
  I96_0 O Q a0 n0 c0 a105' n106' c107' (wrapF .i64 (x8 + 1)) h108'))
  (∃ h109', EvC Tryd.prog O 74 [(.slice a3 n3 c3), (.func (.func 123) #[] #[])] h undef h109' ∧
  Q (.slice a3 n3 c3) h109')
theorem I96_0.of {O Q} (a0 n0 c0 a3 n3 c3 x8) {h : Hp} (hh : T96_0 O Q a0 n0 c0 a3 n3 c3 x8 h) : I96_0 O Q a0 n0 c0 a3 n3 c3 x8 h :=
  RKL.of (tb := lv96) (cuts := []) 500 fun _ => Eq.mp (by kernel_rfl) hh
/-! sward/sat.contrary$1 -/
noncomputable def b123 : Code := (Tryd.f123.body).getD .skip
def lv123 : List (Nat × List Nat) := []
def T123 (O : CallF) (Q : Value → Hp → Prop) (x0 : Int) (x1 : Int) (h : Hp) : Prop :=
  ∃ x1', ∃ h2', EvC Tryd.prog O 94 [(.int .i64 x0)] h (.int .i64 x1') h2' ∧
  ∃ x3', ∃ h4', EvC Tryd.prog O 94 [(.int .i64 x1)] h2' (.int .i64 x3') h4' ∧
  Q (.int .i64 (wrapF .i64 (x1' - x3'))) h4'
theorem rk123 {O Q} (x0 x1) {h : Hp} (hO : O 123 [(.int .i64 x0), (.int .i64 x1)] h = none) (hh : T123 O Q x0 x1 h) : Ret Tryd.prog O 123 [(.int .i64 x0), (.int .i64 x1)] h Q :=
  .of (c := b123) Tryd.func123 (by kernel_rfl) hO (V_ok (tb := lv123) (cuts := []) 500 (Eq.mp (by kernel_rfl) hh))
/-! slices.SortFunc[[]int,int] -/
noncomputable def b74 : Code := (Tryd.f74.body).getD .skip
def lv74 : List (Nat × List Nat) := []
def T74 (O : CallF) (Q : Value → Hp → Prop) (a0 : Option Addr) (n0 : Nat) (c0 : Nat) (g1 : Nat) (fi1 : Array Value) (ca1 : Array Value) (h : Hp) : Prop :=
  ∃ x1', ∃ h2', EvC Tryd.prog O 116 [(.int .u64 (wrapF .u64 (Int.ofNat n0)))] h (.int .i64 x1') h2' ∧
  ∃ h3', EvC Tryd.prog O 115 [(.slice a0 n0 c0), (.int .i64 0), (.int .i64 (Int.ofNat n0)), (.int .i64 x1'), (.func (.func g1) fi1 ca1)] h2' undef h3' ∧
  Q undef h3'
theorem rk74 {O Q} (a0 n0 c0 g1 fi1 ca1) {h : Hp} (hO : O 74 [(.slice a0 n0 c0), (.func (.func g1) fi1 ca1)] h = none) (hh : T74 O Q a0 n0 c0 g1 fi1 ca1 h) : Ret Tryd.prog O 74 [(.slice a0 n0 c0), (.func (.func g1) fi1 ca1)] h Q :=
  .of (c := b74) Tryd.func74 (by kernel_rfl) hO (V_ok (tb := lv74) (cuts := []) 500 (Eq.mp (by kernel_rfl) hh))
/-! slices.pdqsortCmpFunc[int] -/
noncomputable def b115 : Code := (Tryd.f115.body).getD .skip
noncomputable def stk115_0 : List KI := [.code (sub [1, 1, 0] b115), .blk 0]
def lv115 : List (Nat × List Nat) := [(0, [0, 1, 2, 3, 4, 10, 11])]
def I115_0 (O : CallF) (Q : Value → Hp → Prop) (a0 : Option Addr) (n0 : Nat) (c0 : Nat) (x1 : Int) (x2 : Int) (x3 : Int) (g4 : Nat) (fi4 : Array Value) (ca4 : Array Value) (x1s : Int) (x2s : Int) (x3s : Int) (g4s : Nat) (fi4s : Array Value) (ca4s : Array Value) (q10 : Bool) (q11 : Bool) (h : Hp) : Prop := RKL Tryd.prog O Tryd.f115 stk115_0 148 [0, 1, 2, 3, 4, 10, 11] [(.slice a0 n0 c0), (.int .i64 x1s), (.int .i64 x2s), (.int .i64 x3s), (.func (.func g4s) fi4s ca4s), (.bool q10), (.bool q11)] h Q
def T115 (O : CallF) (Q : Value → Hp → Prop) (a0 : Option Addr) (n0 : Nat) (c0 : Nat) (x1 : Int) (x2 : Int) (x3 : Int) (g4 : Nat) (fi4 : Array Value) (ca4 : Array Value) (h : Hp) : Prop :=
  I115_0 O Q a0 n0 c0 x1 x2 x3 g4 fi4 ca4 x1 x2 x3 g4 fi4 ca4 true true h
theorem rk115 {O Q} (a0 n0 c0 x1 x2 x3 g4 fi4 ca4) {h : Hp} (hO : O 115 [(.slice a0 n0 c0), (.int .i64 x1), (.int .i64 x2), (.int .i64 x3), (.func (.func g4) fi4 ca4)] h = none) (hh : T115 O Q a0 n0 c0 x1 x2 x3 g4 fi4 ca4 h) : Ret Tryd.prog O 115 [(.slice a0 n0 c0), (.int .i64 x1), (.int .i64 x2), (.int .i64 x3), (.func (.func g4) fi4 ca4)] h Q :=
  .of (c := b115) Tryd.func115 (by kernel_rfl) hO (V_ok (tb := lv115) (cuts := []) 500 (Eq.mp (by kernel_rfl) hh))
def T115_0 (O : CallF) (Q : Value → Hp → Prop) (a0 : Option Addr) (n0 : Nat) (c0 : Nat) (x1 : Int) (x2 : Int) (x3 : Int) (g4 : Nat) (fi4 : Array Value) (ca4 : Array Value) (x1s : Int) (x2s : Int) (x3s : Int) (g4s : Nat) (fi4s : Array Value) (ca4s : Array Value) (q10 : Bool) (q11 : Bool) (h : Hp) : Prop :=
  vcond (!(ltI 12 (wrapF .i64 (x2s - x1s))))
  (∃ h101', EvC Tryd.prog O 127 [(.slice a0 n0 c0), (.int .i64 x1s), (.int .i64 x2s), (.func (.func g4s) fi4s ca4s)] h undef h101' ∧
  Q undef h101')
  (vcond (eqI x3s 0)
  (∃ h102', EvC Tryd.prog O 128 [(.slice a0 n0 c0), (.int .i64 x1s), (.int .i64 x2s), (.func (.func g4s) fi4s ca4s)] h undef h102' ∧
  Q undef h102')
  (vcond (!q10)
  (∃ h103', EvC Tryd.prog O 129 [(.slice a0 n0 c0), (.int .i64 x1s), (.int .i64 x2s), (.func (.func g4s) fi4s ca4s)] h undef h103' ∧
  ∃ x104', ∃ x105', ∃ h106', EvC Tryd.prog O 130 [(.slice a0 n0 c0), (.int .i64 x1s), (.int .i64 x2s), (.func (.func g4s) fi4s ca4s)] h103' (.tuple #[(.int .i64 x104'), (.int .i64 x105')]) h106' ∧
  vcond (eqI x105' 2)
  (∃ h107', EvC Tryd.prog O 131 [(.slice a0 n0 c0), (.int .i64 x1s), (.int .i64 x2s), (.func (.func g4s) fi4s ca4s)] h106' undef h107' ∧
  vcond q10
  (vcond q11
  (∃ q108', ∃ h109', EvC Tryd.prog O 132 [(.slice a0 n0 c0), (.int .i64 x1s), (.int .i64 x2s), (.func (.func g4s) fi4s ca4s)] h107' (.bool q108') h109' ∧
  vcond q108'
  (Q undef h109')
  (vcond (ltI 0 x1s)
  (isNat (wrapF .i64 (x1s - 1)) fun n110' =>
  isAddr a0 fun b111' f112' =>
  vreq (Nat.blt n110' n0)
  (∃ x113', readAt (h109'.rsv 17) b111' (f112' + (n110' * 1)) 1 = some [(.int .i64 x113')] ∧
  isNat (wrapF .i64 ((wrapF .i64 (x2s - 1)) - (wrapF .i64 (x104' - x1s)))) fun n114' =>
  isAddr a0 fun b115' f116' =>
  vreq (Nat.blt n114' n0)
  (∃ x117', readAt (h109'.rsv 17) b115' (f116' + (n114' * 1)) 1 = some [(.int .i64 x117')] ∧
  ∃ x118', ∃ h119', EvC Tryd.prog O g4s (fi4s.toList ++ [(.int .i64 x113'), (.int .i64 x117')] ++ ca4s.toList) ((h109'.rsv 17).grd []) (.int .i64 x118') h119' ∧
  vcond (!(ltI x118' 0))
  (∃ x120', ∃ h121', EvC Tryd.prog O 133 [(.slice a0 n0 c0), (.int .i64 x1s), (.int .i64 x2s), (.int .i64 (wrapF .i64 ((wrapF .i64 (x2s - 1)) - (wrapF .i64 (x104' - x1s))))), (.func (.func g4s) fi4s ca4s)] (h119'.rst (h109'.rsv 17)) (.int .i64 x120') h121' ∧
  I115_0 O Q a0 n0 c0 x1 x2 x3 g4 fi4 ca4 x120' x2s (wrapF .i64 (x3s - 1)) g4s fi4s ca4s q10 q11 h121')
  (∃ x122', ∃ q123', ∃ h124', EvC Tryd.prog O 134 [(.slice a0 n0 c0), (.int .i64 x1s), (.int .i64 x2s), (.int .i64 (wrapF .i64 ((wrapF .i64 (x2s - 1)) - (wrapF .i64 (x104' - x1s))))), (.func (.func g4s) fi4s ca4s)] (h119'.rst (h109'.rsv 17)) (.tuple #[(.int .i64 x122'), (.bool q123')]) h124' ∧
  vcond (ltI (wrapF .i64 (x122' - x1s)) (wrapF .i64 (x2s - x122')))
  (∃ h125', EvC Tryd.prog O 115 [(.slice a0 n0 c0), (.int .i64 x1s), (.int .i64 x122'), (.int .i64 (wrapF .i64 (x3s - 1))), (.func (.func g4s) fi4s ca4s)] h124' undef h125' ∧
  I115_0 O Q a0 n0 c0 x1 x2 x3 g4 fi4 ca4 (wrapF .i64 (x122' + 1)) x2s (wrapF .i64 (x3s - 1)) g4s fi4s ca4s (!(ltI (wrapF .i64 (x122' - x1s)) (wrapF .i64 (Int.tdiv (wrapF .i64 (x2s - x1s)) 8)))) q123' h125')
  (∃ h126', EvC Tryd.prog O 115 [(.slice a0 n0 c0), (.int .i64 (wrapF .i64 (x122' + 1))), (.int .i64 x2s), (.int .i64 (wrapF .i64 (x3s - 1))), (.func (.func g4s) fi4s ca4s)] h124' undef h126' ∧
  I115_0 O Q a0 n0 c0 x1 x2 x3 g4 fi4 ca4 x1s x122' (wrapF .i64 (x3s - 1)) g4s fi4s ca4s (!(ltI (wrapF .i64 (x2s - x122')) (wrapF .i64 (Int.tdiv (wrapF .i64 (x2s - x1s)) 8)))) q123' h126')))))
  (∃ x127', ∃ q128', ∃ h129', EvC Tryd.prog O 134 [(.slice a0 n0 c0), (.int .i64 x1s), (.int .i64 x2s), (.int .i64 (wrapF .i64 ((wrapF .i64 (x2s - 1)) - (wrapF .i64 (x104' - x1s))))), (.func (.func g4s) fi4s ca4s)] (h109'.rsv 17) (.tuple #[(.int .i64 x127'), (.bool q128')]) h129' ∧
  vcond (ltI (wrapF .i64 (x127' - x1s)) (wrapF .i64 (x2s - x127')))
  (∃ h130', EvC Tryd.prog O 115 [(.slice a0 n0 c0), (.int .i64 x1s), (.int .i64 x127'), (.int .i64 (wrapF .i64 (x3s - 1))), (.func (.func g4s) fi4s ca4s)] h129' undef h130' ∧
  I115_0 O Q a0 n0 c0 x1 x2 x3 g4 fi4 ca4 (wrapF .i64 (x127' + 1)) x2s (wrapF .i64 (x3s - 1)) g4s fi4s ca4s (!(ltI (wrapF .i64 (x127' - x1s)) (wrapF .i64 (Int.tdiv (wrapF .i64 (x2s - x1s)) 8)))) q128' h130')
  (∃ h131', EvC Tryd.prog O 115 [(.slice a0 n0 c0), (.int .i64 (wrapF .i64 (x127' + 1))), (.int .i64 x2s), (.int .i64 (wrapF .i64 (x3s - 1))), (.func (.func g4s) fi4s ca4s)] h129' undef h131' ∧
  I115_0 O Q a0 n0 c0 x1 x2 x3 g4 fi4 ca4 x1s x127' (wrapF .i64 (x3s - 1)) g4s fi4s ca4s (!(ltI (wrapF .i64 (x2s - x127')) (wrapF .i64 (Int.tdiv (wrapF .i64 (x2s - x1s)) 8)))) q128' h131'))))
  (vcond (ltI 0 x1s)
  (isNat (wrapF .i64 (x1s - 1)) fun n132' =>
  isAddr a0 fun b133' f134' =>
  vreq (Nat.blt n132' n0)
  (∃ x135', readAt (h107'.rsv 17) b133' (f134' + (n132' * 1)) 1 = some [(.int .i64 x135')] ∧
  isNat (wrapF .i64 ((wrapF .i64 (x2s - 1)) - (wrapF .i64 (x104' - x1s)))) fun n136' =>
  isAddr a0 fun b137' f138' =>
  vreq (Nat.blt n136' n0)
  (∃ x139', readAt (h107'.rsv 17) b137' (f138' + (n136' * 1)) 1 = some [(.int .i64 x139')] ∧
  ∃ x140', ∃ h141', EvC Tryd.prog O g4s (fi4s.toList ++ [(.int .i64 x135'), (.int .i64 x139')] ++ ca4s.toList) ((h107'.rsv 17).grd []) (.int .i64 x140') h141' ∧
  vcond (!(ltI x140' 0))
  (∃ x142', ∃ h143', EvC Tryd.prog O 133 [(.slice a0 n0 c0), (.int .i64 x1s), (.int .i64 x2s), (.int .i64 (wrapF .i64 ((wrapF .i64 (x2s - 1)) - (wrapF .i64 (x104' - x1s))))), (.func (.func g4s) fi4s ca4s)] (h141'.rst (h107'.rsv 17)) (.int .i64 x142') h143' ∧
  I115_0 O Q a0 n0 c0 x1 x2 x3 g4 fi4 ca4 x142' x2s (wrapF .i64 (x3s - 1)) g4s fi4s ca4s q10 q11 h143')
  (∃ x144', ∃ q145', ∃ h146', EvC Tryd.prog O 134 [(.slice a0 n0 c0), (.int .i64 x1s), (.int .i64 x2s), (.int .i64 (wrapF .i64 ((wrapF .i64 (x2s - 1)) - (wrapF .i64 (x104' - x1s))))), (.func (.func g4s) fi4s ca4s)] (h141'.rst (h107'.rsv 17)) (.tuple #[(.int .i64 x144'), (.bool q145')]) h146' ∧
  vcond (ltI (wrapF .i64 (x144' - x1s)) (wrapF .i64 (x2s - x144')))
  (∃ h147', EvC Tryd.prog O 115 [(.slice a0 n0 c0), (.int .i64 x1s), (.int .i64 x144'), (.int .i64 (wrapF .i64 (x3s - 1))), (.func (.func g4s) fi4s ca4s)] h146' undef h147' ∧
  I115_0 O Q a0 n0 c0 x1 x2 x3 g4 fi4 ca4 (wrapF .i64 (x144' + 1)) x2s (wrapF .i64 (x3s - 1)) g4s fi4s ca4s (!(ltI (wrapF .i64 (x144' - x1s)) (wrapF .i64 (Int.tdiv (wrapF .i64 (x2s - x1s)) 8)))) q145' h147')
  (∃ h148', EvC Tryd.prog O 115 [(.slice a0 n0 c0), (.int .i64 (wrapF .i64 (x144' + 1))), (.int .i64 x2s), (.int .i64 (wrapF .i64 (x3s - 1))), (.func (.func g4s) fi4s ca4s)] h146' undef h148' ∧
  I115_0 O Q a0 n0 c0 x1 x2 x3 g4 fi4 ca4 x1s x144' (wrapF .i64 (x3s - 1)) g4s fi4s ca4s (!(ltI (wrapF .i64 (x2s - x144')) (wrapF .i64 (Int.tdiv (wrapF .i64 (x2s - x1s)) 8)))) q145' h148')))))
  (∃ x149', ∃ q150', ∃ h151', EvC Tryd.prog O 134 [(.slice a0 n0 c0), (.int .i64 x1s), (.int .i64 x2s), (.int .i64 (wrapF .i64 ((wrapF .i64 (x2s - 1)) - (wrapF .i64 (x104' - x1s))))), (.func (.func g4s) fi4s ca4s)] (h107'.rsv 17) (.tuple #[(.int .i64 x149'), (.bool q150')]) h151' ∧
  vcond (ltI (wrapF .i64 (x149' - x1s)) (wrapF .i64 (x2s - x149')))
  (∃ h152', EvC Tryd.prog O 115 [(.slice a0 n0 c0), (.int .i64 x1s), (.int .i64 x149'), (.int .i64 (wrapF .i64 (x3s - 1))), (.func (.func g4s) fi4s ca4s)] h151' undef h152' ∧
  I115_0 O Q a0 n0 c0 x1 x2 x3 g4 fi4 ca4 (wrapF .i64 (x149' + 1)) x2s (wrapF .i64 (x3s - 1)) g4s fi4s ca4s (!(ltI (wrapF .i64 (x149' - x1s)) (wrapF .i64 (Int.tdiv (wrapF .i64 (x2s - x1s)) 8)))) q150' h152')
  (∃ h153', EvC Tryd.prog O 115 [(.slice a0 n0 c0), (.int .i64 (wrapF .i64 (x149' + 1))), (.int .i64 x2s), (.int .i64 (wrapF .i64 (x3s - 1))), (.func (.func g4s) fi4s ca4s)] h151' undef h153' ∧
  I115_0 O Q a0 n0 c0 x1 x2 x3 g4 fi4 ca4 x1s x149' (wrapF .i64 (x3s - 1)) g4s fi4s ca4s (!(ltI (wrapF .i64 (x2s - x149')) (wrapF .i64 (Int.tdiv (wrapF .i64 (x2s - x1s)) 8)))) q150' h153'))))
  (vcond (ltI 0 x1s)
  (isNat (wrapF .i64 (x1s - 1)) fun n154' =>
  isAddr a0 fun b155' f156' =>
  vreq (Nat.blt n154' n0)
  (∃ x157', readAt (h107'.rsv 17) b155' (f156' + (n154' * 1)) 1 = some [(.int .i64 x157')] ∧
  isNat (wrapF .i64 ((wrapF .i64 (x2s - 1)) - (wrapF .i64 (x104' - x1s)))) fun n158' =>
  isAddr a0 fun b159' f160' =>
  vreq (Nat.blt n158' n0)
  (∃ x161', readAt (h107'.rsv 17) b159' (f160' + (n158' * 1)) 1 = some [(.int .i64 x161')] ∧
  ∃ x162', ∃ h163', EvC Tryd.prog O g4s (fi4s.toList ++ [(.int .i64 x157'), (.int .i64 x161')] ++ ca4s.toList) ((h107'.rsv 17).grd []) (.int .i64 x162') h163' ∧
  vcond (!(ltI x162' 0))
  (∃ x164', ∃ h165', EvC Tryd.prog O 133 [(.slice a0 n0 c0), (.int .i64 x1s), (.int .i64 x2s), (.int .i64 (wrapF .i64 ((wrapF .i64 (x2s - 1)) - (wrapF .i64 (x104' - x1s))))), (.func (.func g4s) fi4s ca4s)] (h163'.rst (h107'.rsv 17)) (.int .i64 x164') h165' ∧
  I115_0 O Q a0 n0 c0 x1 x2 x3 g4 fi4 ca4 x164' x2s (wrapF .i64 (x3s - 1)) g4s fi4s ca4s q10 q11 h165')
  (∃ x166', ∃ q167', ∃ h168', EvC Tryd.prog O 134 [(.slice a0 n0 c0), (.int .i64 x1s), (.int .i64 x2s), (.int .i64 (wrapF .i64 ((wrapF .i64 (x2s - 1)) - (wrapF .i64 (x104' - x1s))))), (.func (.func g4s) fi4s ca4s)] (h163'.rst (h107'.rsv 17)) (.tuple #[(.int .i64 x166'), (.bool q167')]) h168' ∧
  vcond (ltI (wrapF .i64 (x166' - x1s)) (wrapF .i64 (x2s - x166')))
  (∃ h169', EvC Tryd.prog O 115 [(.slice a0 n0 c0), (.int .i64 x1s), (.int .i64 x166'), (.int .i64 (wrapF .i64 (x3s - 1))), (.func (.func g4s) fi4s ca4s)] h168' undef h169' ∧
  I115_0 O Q a0 n0 c0 x1 x2 x3 g4 fi4 ca4 (wrapF .i64 (x166' + 1)) x2s (wrapF .i64 (x3s - 1)) g4s fi4s ca4s (!(ltI (wrapF .i64 (x166' - x1s)) (wrapF .i64 (Int.tdiv (wrapF .i64 (x2s - x1s)) 8)))) q167' h169')
  (∃ h170', EvC Tryd.prog O 115 [(.slice a0 n0 c0), (.int .i64 (wrapF .i64 (x166' + 1))), (.int .i64 x2s), (.int .i64 (wrapF .i64 (x3s - 1))), (.func (.func g4s) fi4s ca4s)] h168' undef h170' ∧
  I115_0 O Q a0 n0 c0 x1 x2 x3 g4 fi4 ca4 x1s x166' (wrapF .i64 (x3s - 1)) g4s fi4s ca4s (!(ltI (wrapF .i64 (x2s - x166')) (wrapF .i64 (Int.tdiv (wrapF .i64 (x2s - x1s)) 8)))) q167' h170')))))
  (∃ x171', ∃ q172', ∃ h173', EvC Tryd.prog O 134 [(.slice a0 n0 c0), (.int .i64 x1s), (.int .i64 x2s), (.int .i64 (wrapF .i64 ((wrapF .i64 (x2s - 1)) - (wrapF .i64 (x104' - x1s))))), (.func (.func g4s) fi4s ca4s)] (h107'.rsv 17) (.tuple #[(.int .i64 x171'), (.bool q172')]) h173' ∧
  vcond (ltI (wrapF .i64 (x171' - x1s)) (wrapF .i64 (x2s - x171')))
  (∃ h174', EvC Tryd.prog O 115 [(.slice a0 n0 c0), (.int .i64 x1s), (.int .i64 x171'), (.int .i64 (wrapF .i64 (x3s - 1))), (.func (.func g4s) fi4s ca4s)] h173' undef h174' ∧
  I115_0 O Q a0 n0 c0 x1 x2 x3 g4 fi4 ca4 (wrapF .i64 (x171' + 1)) x2s (wrapF .i64 (x3s - 1)) g4s fi4s ca4s (!(ltI (wrapF .i64 (x171' - x1s)) (wrapF .i64 (Int.tdiv (wrapF .i64 (x2s - x1s)) 8)))) q172' h174')
  (∃ h175', EvC Tryd.prog O 115 [(.slice a0 n0 c0), (.int .i64 (wrapF .i64 (x171' + 1))), (.int .i64 x2s), (.int .i64 (wrapF .i64 (x3s - 1))), (.func (.func g4s) fi4s ca4s)] h173' undef h175' ∧
  I115_0 O Q a0 n0 c0 x1 x2 x3 g4 fi4 ca4 x1s x171' (wrapF .i64 (x3s - 1)) g4s fi4s ca4s (!(ltI (wrapF .i64 (x2s - x171')) (wrapF .i64 (Int.tdiv (wrapF .i64 (x2s - x1s)) 8)))) q172' h175'))))
  (vcond q10
  (vcond q11
  (vcond (eqI x105' 1)
  (∃ q176', ∃ h177', EvC Tryd.prog O 132 [(.slice a0 n0 c0), (.int .i64 x1s), (.int .i64 x2s), (.func (.func g4s) fi4s ca4s)] h106' (.bool q176') h177' ∧
  vcond q176'
  (Q undef h177')
  (vcond (ltI 0 x1s)
  (isNat (wrapF .i64 (x1s - 1)) fun n178' =>
  isAddr a0 fun b179' f180' =>
  vreq (Nat.blt n178' n0)
  (∃ x181', readAt (h177'.rsv 17) b179' (f180' + (n178' * 1)) 1 = some [(.int .i64 x181')] ∧
  isNat x104' fun n182' =>
  isAddr a0 fun b183' f184' =>
  vreq (Nat.blt n182' n0)
  (∃ x185', readAt (h177'.rsv 17) b183' (f184' + (n182' * 1)) 1 = some [(.int .i64 x185')] ∧
  ∃ x186', ∃ h187', EvC Tryd.prog O g4s (fi4s.toList ++ [(.int .i64 x181'), (.int .i64 x185')] ++ ca4s.toList) ((h177'.rsv 17).grd []) (.int .i64 x186') h187' ∧
  vcond (!(ltI x186' 0))
  (∃ x188', ∃ h189', EvC Tryd.prog O 133 [(.slice a0 n0 c0), (.int .i64 x1s), (.int .i64 x2s), (.int .i64 x104'), (.func (.func g4s) fi4s ca4s)] (h187'.rst (h177'.rsv 17)) (.int .i64 x188') h189' ∧
  I115_0 O Q a0 n0 c0 x1 x2 x3 g4 fi4 ca4 x188' x2s (wrapF .i64 (x3s - 1)) g4s fi4s ca4s q10 q11 h189')
  (∃ x190', ∃ q191', ∃ h192', EvC Tryd.prog O 134 [(.slice a0 n0 c0), (.int .i64 x1s), (.int .i64 x2s), (.int .i64 x104'), (.func (.func g4s) fi4s ca4s)] (h187'.rst (h177'.rsv 17)) (.tuple #[(.int .i64 x190'), (.bool q191')]) h192' ∧
  vcond (ltI (wrapF .i64 (x190' - x1s)) (wrapF .i64 (x2s - x190')))
  (∃ h193', EvC Tryd.prog O 115 [(.slice a0 n0 c0), (.int .i64 x1s), (.int .i64 x190'), (.int .i64 (wrapF .i64 (x3s - 1))), (.func (.func g4s) fi4s ca4s)] h192' undef h193' ∧
  I115_0 O Q a0 n0 c0 x1 x2 x3 g4 fi4 ca4 (wrapF .i64 (x190' + 1)) x2s (wrapF .i64 (x3s - 1)) g4s fi4s ca4s (!(ltI (wrapF .i64 (x190' - x1s)) (wrapF .i64 (Int.tdiv (wrapF .i64 (x2s - x1s)) 8)))) q191' h193')
  (∃ h194', EvC Tryd.prog O 115 [(.slice a0 n0 c0), (.int .i64 (wrapF .i64 (x190' + 1))), (.int .i64 x2s), (.int .i64 (wrapF .i64 (x3s - 1))), (.func (.func g4s) fi4s ca4s)] h192' undef h194' ∧
  I115_0 O Q a0 n0 c0 x1 x2 x3 g4 fi4 ca4 x1s x190' (wrapF .i64 (x3s - 1)) g4s fi4s ca4s (!(ltI (wrapF .i64 (x2s - x190')) (wrapF .i64 (Int.tdiv (wrapF .i64 (x2s - x1s)) 8)))) q191' h194')))))
  (∃ x195', ∃ q196', ∃ h197', EvC Tryd.prog O 134 [(.slice a0 n0 c0), (.int .i64 x1s), (.int .i64 x2s), (.int .i64 x104'), (.func (.func g4s) fi4s ca4s)] (h177'.rsv 17) (.tuple #[(.int .i64 x195'), (.bool q196')]) h197' ∧
  vcond (ltI (wrapF .i64 (x195' - x1s)) (wrapF .i64 (x2s - x195')))
  (∃ h198', EvC Tryd.prog O 115 [(.slice a0 n0 c0), (.int .i64 x1s), (.int .i64 x195'), (.int .i64 (wrapF .i64 (x3s - 1))), (.func (.func g4s) fi4s ca4s)] h197' undef h198' ∧
  I115_0 O Q a0 n0 c0 x1 x2 x3 g4 fi4 ca4 (wrapF .i64 (x195' + 1)) x2s (wrapF .i64 (x3s - 1)) g4s fi4s ca4s (!(ltI (wrapF .i64 (x195' - x1s)) (wrapF .i64 (Int.tdiv (wrapF .i64 (x2s - x1s)) 8)))) q196' h198')
  (∃ h199', EvC Tryd.prog O 115 [(.slice a0 n0 c0), (.int .i64 (wrapF .i64 (x195' + 1))), (.int .i64 x2s), (.int .i64 (wrapF .i64 (x3s - 1))), (.func (.func g4s) fi4s ca4s)] h197' undef h199' ∧
  I115_0 O Q a0 n0 c0 x1 x2 x3 g4 fi4 ca4 x1s x195' (wrapF .i64 (x3s - 1)) g4s fi4s ca4s (!(ltI (wrapF .i64 (x2s - x195')) (wrapF .i64 (Int.tdiv (wrapF .i64 (x2s - x1s)) 8)))) q196' h199'))))
  (vcond (ltI 0 x1s)
  (isNat (wrapF .i64 (x1s - 1)) fun n200' =>
  isAddr a0 fun b201' f202' =>
  vreq (Nat.blt n200' n0)
  (∃ x203', readAt (h106'.rsv 17) b201' (f202' + (n200' * 1)) 1 = some [(.int .i64 x203')] ∧
  isNat x104' fun n204' =>
  isAddr a0 fun b205' f206' =>
  vreq (Nat.blt n204' n0)
  (∃ x207', readAt (h106'.rsv 17) b205' (f206' + (n204' * 1)) 1 = some [(.int .i64 x207')] ∧
  ∃ x208', ∃ h209', EvC Tryd.prog O g4s (fi4s.toList ++ [(.int .i64 x203'), (.int .i64 x207')] ++ ca4s.toList) ((h106'.rsv 17).grd []) (.int .i64 x208') h209' ∧
  vcond (!(ltI x208' 0))
  (∃ x210', ∃ h211', EvC Tryd.prog O 133 [(.slice a0 n0 c0), (.int .i64 x1s), (.int .i64 x2s), (.int .i64 x104'), (.func (.func g4s) fi4s ca4s)] (h209'.rst (h106'.rsv 17)) (.int .i64 x210') h211' ∧
  I115_0 O Q a0 n0 c0 x1 x2 x3 g4 fi4 ca4 x210' x2s (wrapF .i64 (x3s - 1)) g4s fi4s ca4s q10 q11 h211')
  (∃ x212', ∃ q213', ∃ h214', EvC Tryd.prog O 134 [(.slice a0 n0 c0), (.int .i64 x1s), (.int .i64 x2s), (.int .i64 x104'), (.func (.func g4s) fi4s ca4s)] (h209'.rst (h106'.rsv 17)) (.tuple #[(.int .i64 x212'), (.bool q213')]) h214' ∧
  vcond (ltI (wrapF .i64 (x212' - x1s)) (wrapF .i64 (x2s - x212')))
  (∃ h215', EvC Tryd.prog O 115 [(.slice a0 n0 c0), (.int .i64 x1s), (.int .i64 x212'), (.int .i64 (wrapF .i64 (x3s - 1))), (.func (.func g4s) fi4s ca4s)] h214' undef h215' ∧
  I115_0 O Q a0 n0 c0 x1 x2 x3 g4 fi4 ca4 (wrapF .i64 (x212' + 1)) x2s (wrapF .i64 (x3s - 1)) g4s fi4s ca4s (!(ltI (wrapF .i64 (x212' - x1s)) (wrapF .i64 (Int.tdiv (wrapF .i64 (x2s - x1s)) 8)))) q213' h215')
  (∃ h216', EvC Tryd.prog O 115 [(.slice a0 n0 c0), (.int .i64 (wrapF .i64 (x212' + 1))), (.int .i64 x2s), (.int .i64 (wrapF .i64 (x3s - 1))), (.func (.func g4s) fi4s ca4s)] h214' undef h216' ∧
  I115_0 O Q a0 n0 c0 x1 x2 x3 g4 fi4 ca4 x1s x212' (wrapF .i64 (x3s - 1)) g4s fi4s ca4s (!(ltI (wrapF .i64 (x2s - x212')) (wrapF .i64 (Int.tdiv (wrapF .i64 (x2s - x1s)) 8)))) q213' h216')))))
  (∃ x217', ∃ q218', ∃ h219', EvC Tryd.prog O 134 [(.slice a0 n0 c0), (.int .i64 x1s), (.int .i64 x2s), (.int .i64 x104'), (.func (.func g4s) fi4s ca4s)] (h106'.rsv 17) (.tuple #[(.int .i64 x217'), (.bool q218')]) h219' ∧
  vcond (ltI (wrapF .i64 (x217' - x1s)) (wrapF .i64 (x2s - x217')))
  (∃ h220', EvC Tryd.prog O 115 [(.slice a0 n0 c0), (.int .i64 x1s), (.int .i64 x217'), (.int .i64 (wrapF .i64 (x3s - 1))), (.func (.func g4s) fi4s ca4s)] h219' undef h220' ∧
  I115_0 O Q a0 n0 c0 x1 x2 x3 g4 fi4 ca4 (wrapF .i64 (x217' + 1)) x2s (wrapF .i64 (x3s - 1)) g4s fi4s ca4s (!(ltI (wrapF .i64 (x217' - x1s)) (wrapF .i64 (Int.tdiv (wrapF .i64 (x2s - x1s)) 8)))) q218' h220')
  (∃ h221', EvC Tryd.prog O 115 [(.slice a0 n0 c0), (.int .i64 (wrapF .i64 (x217' + 1))), (.int .i64 x2s), (.int .i64 (wrapF .i64 (x3s - 1))), (.func (.func g4s) fi4s ca4s)] h219' undef h221' ∧
  I115_0 O Q a0 n0 c0 x1 x2 x3 g4 fi4 ca4 x1s x217' (wrapF .i64 (x3s - 1)) g4s fi4s ca4s (!(ltI (wrapF .i64 (x2s - x217')) (wrapF .i64 (Int.tdiv (wrapF .i64 (x2s - x1s)) 8)))) q218' h221'))))
  (vcond (ltI 0 x1s)
  (isNat (wrapF .i64 (x1s - 1)) fun n222' =>
  isAddr a0 fun b223' f224' =>
  vreq (Nat.blt n222' n0)
  (∃ x225', readAt (h106'.rsv 17) b223' (f224' + (n222' * 1)) 1 = some [(.int .i64 x225')] ∧
  isNat x104' fun n226' =>
  isAddr a0 fun b227' f228' =>
  vreq (Nat.blt n226' n0)
  (∃ x229', readAt (h106'.rsv 17) b227' (f228' + (n226' * 1)) 1 = some [(.int .i64 x229')] ∧
  ∃ x230', ∃ h231', EvC Tryd.prog O g4s (fi4s.toList ++ [(.int .i64 x225'), (.int .i64 x229')] ++ ca4s.toList) ((h106'.rsv 17).grd []) (.int .i64 x230') h231' ∧
  vcond (!(ltI x230' 0))
  (∃ x232', ∃ h233', EvC Tryd.prog O 133 [(.slice a0 n0 c0), (.int .i64 x1s), (.int .i64 x2s), (.int .i64 x104'), (.func (.func g4s) fi4s ca4s)] (h231'.rst (h106'.rsv 17)) (.int .i64 x232') h233' ∧
  I115_0 O Q a0 n0 c0 x1 x2 x3 g4 fi4 ca4 x232' x2s (wrapF .i64 (x3s - 1)) g4s fi4s ca4s q10 q11 h233')
  (∃ x234', ∃ q235', ∃ h236', EvC Tryd.prog O 134 [(.slice a0 n0 c0), (.int .i64 x1s), (.int .i64 x2s), (.int .i64 x104'), (.func (.func g4s) fi4s ca4s)] (h231'.rst (h106'.rsv 17)) (.tuple #[(.int .i64 x234'), (.bool q235')]) h236' ∧
  vcond (ltI (wrapF .i64 (x234' - x1s)) (wrapF .i64 (x2s - x234')))
  (∃ h237', EvC Tryd.prog O 115 [(.slice a0 n0 c0), (.int .i64 x1s), (.int .i64 x234'), (.int .i64 (wrapF .i64 (x3s - 1))), (.func (.func g4s) fi4s ca4s)] h236' undef h237' ∧
  I115_0 O Q a0 n0 c0 x1 x2 x3 g4 fi4 ca4 (wrapF .i64 (x234' + 1)) x2s (wrapF .i64 (x3s - 1)) g4s fi4s ca4s (!(ltI (wrapF .i64 (x234' - x1s)) (wrapF .i64 (Int.tdiv (wrapF .i64 (x2s - x1s)) 8)))) q235' h237')
  (∃ h238', EvC Tryd.prog O 115 [(.slice a0 n0 c0), (.int .i64 (wrapF .i64 (x234' + 1))), (.int .i64 x2s), (.int .i64 (wrapF .i64 (x3s - 1))), (.func (.func g4s) fi4s ca4s)] h236' undef h238' ∧
  I115_0 O Q a0 n0 c0 x1 x2 x3 g4 fi4 ca4 x1s x234' (wrapF .i64 (x3s - 1)) g4s fi4s ca4s (!(ltI (wrapF .i64 (x2s - x234')) (wrapF .i64 (Int.tdiv (wrapF .i64 (x2s - x1s)) 8)))) q235' h238')))))
  (∃ x239', ∃ q240', ∃ h241', EvC Tryd.prog O 134 [(.slice a0 n0 c0), (.int .i64 x1s), (.int .i64 x2s), (.int .i64 x104'), (.func (.func g4s) fi4s ca4s)] (h106'.rsv 17) (.tuple #[(.int .i64 x239'), (.bool q240')]) h241' ∧
  vcond (ltI (wrapF .i64 (x239' - x1s)) (wrapF .i64 (x2s - x239')))
  (∃ h242', EvC Tryd.prog O 115 [(.slice a0 n0 c0), (.int .i64 x1s), (.int .i64 x239'), (.int .i64 (wrapF .i64 (x3s - 1))), (.func (.func g4s) fi4s ca4s)] h241' undef h242' ∧
  I115_0 O Q a0 n0 c0 x1 x2 x3 g4 fi4 ca4 (wrapF .i64 (x239' + 1)) x2s (wrapF .i64 (x3s - 1)) g4s fi4s ca4s (!(ltI (wrapF .i64 (x239' - x1s)) (wrapF .i64 (Int.tdiv (wrapF .i64 (x2s - x1s)) 8)))) q240' h242')
  (∃ h243', EvC Tryd.prog O 115 [(.slice a0 n0 c0), (.int .i64 (wrapF .i64 (x239' + 1))), (.int .i64 x2s), (.int .i64 (wrapF .i64 (x3s - 1))), (.func (.func g4s) fi4s ca4s)] h241' undef h243' ∧
  I115_0 O Q a0 n0 c0 x1 x2 x3 g4 fi4 ca4 x1s x239' (wrapF .i64 (x3s - 1)) g4s fi4s ca4s (!(ltI (wrapF .i64 (x2s - x239')) (wrapF .i64 (Int.tdiv (wrapF .i64 (x2s - x1s)) 8)))) q240' h243'))))
  (vcond (ltI 0 x1s)
  (isNat (wrapF .i64 (x1s - 1)) fun n244' =>
  isAddr a0 fun b245' f246' =>
  vreq (Nat.blt n244' n0)
  (∃ x247', readAt (h106'.rsv 17) b245' (f246' + (n244' * 1)) 1 = some [(.int .i64 x247')] ∧
  isNat x104' fun n248' =>
  isAddr a0 fun b249' f250' =>
  vreq (Nat.blt n248' n0)
  (∃ x251', readAt (h106'.rsv 17) b249' (f250' + (n248' * 1)) 1 = some [(.int .i64 x251')] ∧
  ∃ x252', ∃ h253', EvC Tryd.prog O g4s (fi4s.toList ++ [(.int .i64 x247'), (.int .i64 x251')] ++ ca4s.toList) ((h106'.rsv 17).grd []) (.int .i64 x252') h253' ∧
  vcond (!(ltI x252' 0))
  (∃ x254', ∃ h255', EvC Tryd.prog O 133 [(.slice a0 n0 c0), (.int .i64 x1s), (.int .i64 x2s), (.int .i64 x104'), (.func (.func g4s) fi4s ca4s)] (h253'.rst (h106'.rsv 17)) (.int .i64 x254') h255' ∧
  I115_0 O Q a0 n0 c0 x1 x2 x3 g4 fi4 ca4 x254' x2s (wrapF .i64 (x3s - 1)) g4s fi4s ca4s q10 q11 h255')
  (∃ x256', ∃ q257', ∃ h258', EvC Tryd.prog O 134 [(.slice a0 n0 c0), (.int .i64 x1s), (.int .i64 x2s), (.int .i64 x104'), (.func (.func g4s) fi4s ca4s)] (h253'.rst (h106'.rsv 17)) (.tuple #[(.int .i64 x256'), (.bool q257')]) h258' ∧
  vcond (ltI (wrapF .i64 (x256' - x1s)) (wrapF .i64 (x2s - x256')))
  (∃ h259', EvC Tryd.prog O 115 [(.slice a0 n0 c0), (.int .i64 x1s), (.int .i64 x256'), (.int .i64 (wrapF .i64 (x3s - 1))), (.func (.func g4s) fi4s ca4s)] h258' undef h259' ∧
  I115_0 O Q a0 n0 c0 x1 x2 x3 g4 fi4 ca4 (wrapF .i64 (x256' + 1)) x2s (wrapF .i64 (x3s - 1)) g4s fi4s ca4s (!(ltI (wrapF .i64 (x256' - x1s)) (wrapF .i64 (Int.tdiv (wrapF .i64 (x2s - x1s)) 8)))) q257' h259')
  (∃ h260', EvC Tryd.prog O 115 [(.slice a0 n0 c0), (.int .i64 (wrapF .i64 (x256' + 1))), (.int .i64 x2s), (.int .i64 (wrapF .i64 (x3s - 1))), (.func (.func g4s) fi4s ca4s)] h258' undef h260' ∧
  I115_0 O Q a0 n0 c0 x1 x2 x3 g4 fi4 ca4 x1s x256' (wrapF .i64 (x3s - 1)) g4s fi4s ca4s (!(ltI (wrapF .i64 (x2s - x256')) (wrapF .i64 (Int.tdiv (wrapF .i64 (x2s - x1s)) 8)))) q257' h260')))))
  (∃ x261', ∃ q262', ∃ h263', EvC Tryd.prog O 134 [(.slice a0 n0 c0), (.int .i64 x1s), (.int .i64 x2s), (.int .i64 x104'), (.func (.func g4s) fi4s ca4s)] (h106'.rsv 17) (.tuple #[(.int .i64 x261'), (.bool q262')]) h263' ∧
  vcond (ltI (wrapF .i64 (x261' - x1s)) (wrapF .i64 (x2s - x261')))
  (∃ h264', EvC Tryd.prog O 115 [(.slice a0 n0 c0), (.int .i64 x1s), (.int .i64 x261'), (.int .i64 (wrapF .i64 (x3s - 1))), (.func (.func g4s) fi4s ca4s)] h263' undef h264' ∧
  I115_0 O Q a0 n0 c0 x1 x2 x3 g4 fi4 ca4 (wrapF .i64 (x261' + 1)) x2s (wrapF .i64 (x3s - 1)) g4s fi4s ca4s (!(ltI (wrapF .i64 (x261' - x1s)) (wrapF .i64 (Int.tdiv (wrapF .i64 (x2s - x1s)) 8)))) q262' h264')
  (∃ h265', EvC Tryd.prog O 115 [(.slice a0 n0 c0), (.int .i64 (wrapF .i64 (x261' + 1))), (.int .i64 x2s), (.int .i64 (wrapF .i64 (x3s - 1))), (.func (.func g4s) fi4s ca4s)] h263' undef h265' ∧
  I115_0 O Q a0 n0 c0 x1 x2 x3 g4 fi4 ca4 x1s x261' (wrapF .i64 (x3s - 1)) g4s fi4s ca4s (!(ltI (wrapF .i64 (x2s - x261')) (wrapF .i64 (Int.tdiv (wrapF .i64 (x2s - x1s)) 8)))) q262' h265')))))
  (∃ x266', ∃ x267', ∃ h268', EvC Tryd.prog O 130 [(.slice a0 n0 c0), (.int .i64 x1s), (.int .i64 x2s), (.func (.func g4s) fi4s ca4s)] h (.tuple #[(.int .i64 x266'), (.int .i64 x267')]) h268' ∧
  vcond (eqI x267' 2)
  (∃ h269', EvC Tryd.prog O 131 [(.slice a0 n0 c0), (.int .i64 x1s), (.int .i64 x2s), (.func (.func g4s) fi4s ca4s)] h268' undef h269' ∧
  vcond q10
  (vcond q11
  (∃ q270', ∃ h271', EvC Tryd.prog O 132 [(.slice a0 n0 c0), (.int .i64 x1s), (.int .i64 x2s), (.func (.func g4s) fi4s ca4s)] h269' (.bool q270') h271' ∧
  vcond q270'
  (Q undef h271')
  (vcond (ltI 0 x1s)
  (isNat (wrapF .i64 (x1s - 1)) fun n272' =>
  isAddr a0 fun b273' f274' =>
  vreq (Nat.blt n272' n0)
  (∃ x275', readAt (h271'.rsv 17) b273' (f274' + (n272' * 1)) 1 = some [(.int .i64 x275')] ∧
  isNat (wrapF .i64 ((wrapF .i64 (x2s - 1)) - (wrapF .i64 (x266' - x1s)))) fun n276' =>
  isAddr a0 fun b277' f278' =>
  vreq (Nat.blt n276' n0)
  (∃ x279', readAt (h271'.rsv 17) b277' (f278' + (n276' * 1)) 1 = some [(.int .i64 x279')] ∧
  ∃ x280', ∃ h281', EvC Tryd.prog O g4s (fi4s.toList ++ [(.int .i64 x275'), (.int .i64 x279')] ++ ca4s.toList) ((h271'.rsv 17).grd []) (.int .i64 x280') h281' ∧
  vcond (!(ltI x280' 0))
  (∃ x282', ∃ h283', EvC Tryd.prog O 133 [(.slice a0 n0 c0), (.int .i64 x1s), (.int .i64 x2s), (.int .i64 (wrapF .i64 ((wrapF .i64 (x2s - 1)) - (wrapF .i64 (x266' - x1s))))), (.func (.func g4s) fi4s ca4s)] (h281'.rst (h271'.rsv 17)) (.int .i64 x282') h283' ∧
  I115_0 O Q a0 n0 c0 x1 x2 x3 g4 fi4 ca4 x282' x2s x3s g4s fi4s ca4s q10 q11 h283')
  (∃ x284', ∃ q285', ∃ h286', EvC Tryd.prog O 134 [(.slice a0 n0 c0), (.int .i64 x1s), (.int .i64 x2s), (.int .i64 (wrapF .i64 ((wrapF .i64 (x2s - 1)) - (wrapF .i64 (x266' - x1s))))), (.func (.func g4s) fi4s ca4s)] (h281'.rst (h271'.rsv 17)) (.tuple #[(.int .i64 x284'), (.bool q285')]) h286' ∧
  vcond (ltI (wrapF .i64 (x284' - x1s)) (wrapF .i64 (x2s - x284')))
  (∃ h287', EvC Tryd.prog O 115 [(.slice a0 n0 c0), (.int .i64 x1s), (.int .i64 x284'), (.int .i64 x3s), (.func (.func g4s) fi4s ca4s)] h286' undef h287' ∧
  I115_0 O Q a0 n0 c0 x1 x2 x3 g4 fi4 ca4 (wrapF .i64 (x284' + 1)) x2s x3s g4s fi4s ca4s (!(ltI (wrapF .i64 (x284' - x1s)) (wrapF .i64 (Int.tdiv (wrapF .i64 (x2s - x1s)) 8)))) q285' h287')
  (∃ h288', EvC Tryd.prog O 115 [(.slice a0 n0 c0), (.int .i64 (wrapF .i64 (x284' + 1))), (.int .i64 x2s), (.int .i64 x3s), (.func (.func g4s) fi4s ca4s)] h286' undef h288' ∧
  I115_0 O Q a0 n0 c0 x1 x2 x3 g4 fi4 ca4 x1s x284' x3s g4s fi4s ca4s (!(ltI (wrapF .i64 (x2s - x284')) (wrapF .i64 (Int.tdiv (wrapF .i64 (x2s - x1s)) 8)))) q285' h288')))))
  (∃ x289', ∃ q290', ∃ h291', EvC Tryd.prog O 134 [(.slice a0 n0 c0), (.int .i64 x1s), (.int .i64 x2s), (.int .i64 (wrapF .i64 ((wrapF .i64 (x2s - 1)) - (wrapF .i64 (x266' - x1s))))), (.func (.func g4s) fi4s ca4s)] (h271'.rsv 17) (.tuple #[(.int .i64 x289'), (.bool q290')]) h291' ∧
  vcond (ltI (wrapF .i64 (x289' - x1s)) (wrapF .i64 (x2s - x289')))
  (∃ h292', EvC Tryd.prog O 115 [(.slice a0 n0 c0), (.int .i64 x1s), (.int .i64 x289'), (.int .i64 x3s), (.func (.func g4s) fi4s ca4s)] h291' undef h292' ∧
  I115_0 O Q a0 n0 c0 x1 x2 x3 g4 fi4 ca4 (wrapF .i64 (x289' + 1)) x2s x3s g4s fi4s ca4s (!(ltI (wrapF .i64 (x289' - x1s)) (wrapF .i64 (Int.tdiv (wrapF .i64 (x2s - x1s)) 8)))) q290' h292')
  (∃ h293', EvC Tryd.prog O 115 [(.slice a0 n0 c0), (.int .i64 (wrapF .i64 (x289' + 1))), (.int .i64 x2s), (.int .i64 x3s), (.func (.func g4s) fi4s ca4s)] h291' undef h293' ∧
  I115_0 O Q a0 n0 c0 x1 x2 x3 g4 fi4 ca4 x1s x289' x3s g4s fi4s ca4s (!(ltI (wrapF .i64 (x2s - x289')) (wrapF .i64 (Int.tdiv (wrapF .i64 (x2s - x1s)) 8)))) q290' h293'))))
  (vcond (ltI 0 x1s)
  (isNat (wrapF .i64 (x1s - 1)) fun n294' =>
  isAddr a0 fun b295' f296' =>
  vreq (Nat.blt n294' n0)
  (∃ x297', readAt (h269'.rsv 17) b295' (f296' + (n294' * 1)) 1 = some [(.int .i64 x297')] ∧
  isNat (wrapF .i64 ((wrapF .i64 (x2s - 1)) - (wrapF .i64 (x266' - x1s)))) fun n298' =>
  isAddr a0 fun b299' f300' =>
  vreq (Nat.blt n298' n0)
  (∃ x301', readAt (h269'.rsv 17) b299' (f300' + (n298' * 1)) 1 = some [(.int .i64 x301')] ∧
  ∃ x302', ∃ h303', EvC Tryd.prog O g4s (fi4s.toList ++ [(.int .i64 x297'), (.int .i64 x301')] ++ ca4s.toList) ((h269'.rsv 17).grd []) (.int .i64 x302') h303' ∧
  vcond (!(ltI x302' 0))
  (∃ x304', ∃ h305', EvC Tryd.prog O 133 [(.slice a0 n0 c0), (.int .i64 x1s), (.int .i64 x2s), (.int .i64 (wrapF .i64 ((wrapF .i64 (x2s - 1)) - (wrapF .i64 (x266' - x1s))))), (.func (.func g4s) fi4s ca4s)] (h303'.rst (h269'.rsv 17)) (.int .i64 x304') h305' ∧
  I115_0 O Q a0 n0 c0 x1 x2 x3 g4 fi4 ca4 x304' x2s x3s g4s fi4s ca4s q10 q11 h305')
  (∃ x306', ∃ q307', ∃ h308', EvC Tryd.prog O 134 [(.slice a0 n0 c0), (.int .i64 x1s), (.int .i64 x2s), (.int .i64 (wrapF .i64 ((wrapF .i64 (x2s - 1)) - (wrapF .i64 (x266' - x1s))))), (.func (.func g4s) fi4s ca4s)] (h303'.rst (h269'.rsv 17)) (.tuple #[(.int .i64 x306'), (.bool q307')]) h308' ∧
  vcond (ltI (wrapF .i64 (x306' - x1s)) (wrapF .i64 (x2s - x306')))
  (∃ h309', EvC Tryd.prog O 115 [(.slice a0 n0 c0), (.int .i64 x1s), (.int .i64 x306'), (.int .i64 x3s), (.func (.func g4s) fi4s ca4s)] h308' undef h309' ∧
  I115_0 O Q a0 n0 c0 x1 x2 x3 g4 fi4 ca4 (wrapF .i64 (x306' + 1)) x2s x3s g4s fi4s ca4s (!(ltI (wrapF .i64 (x306' - x1s)) (wrapF .i64 (Int.tdiv (wrapF .i64 (x2s - x1s)) 8)))) q307' h309')
  (∃ h310', EvC Tryd.prog O 115 [(.slice a0 n0 c0), (.int .i64 (wrapF .i64 (x306' + 1))), (.int .i64 x2s), (.int .i64 x3s), (.func (.func g4s) fi4s ca4s)] h308' undef h310' ∧
  I115_0 O Q a0 n0 c0 x1 x2 x3 g4 fi4 ca4 x1s x306' x3s g4s fi4s ca4s (!(ltI (wrapF .i64 (x2s - x306')) (wrapF .i64 (Int.tdiv (wrapF .i64 (x2s - x1s)) 8)))) q307' h310')))))
  (∃ x311', ∃ q312', ∃ h313', EvC Tryd.prog O 134 [(.slice a0 n0 c0), (.int .i64 x1s), (.int .i64 x2s), (.int .i64 (wrapF .i64 ((wrapF .i64 (x2s - 1)) - (wrapF .i64 (x266' - x1s))))), (.func (.func g4s) fi4s ca4s)] (h269'.rsv 17) (.tuple #[(.int .i64 x311'), (.bool q312')]) h313' ∧
  vcond (ltI (wrapF .i64 (x311' - x1s)) (wrapF .i64 (x2s - x311')))
  (∃ h314', EvC Tryd.prog O 115 [(.slice a0 n0 c0), (.int .i64 x1s), (.int .i64 x311'), (.int .i64 x3s), (.func (.func g4s) fi4s ca4s)] h313' undef h314' ∧
  I115_0 O Q a0 n0 c0 x1 x2 x3 g4 fi4 ca4 (wrapF .i64 (x311' + 1)) x2s x3s g4s fi4s ca4s (!(ltI (wrapF .i64 (x311' - x1s)) (wrapF .i64 (Int.tdiv (wrapF .i64 (x2s - x1s)) 8)))) q312' h314')
  (∃ h315', EvC Tryd.prog O 115 [(.slice a0 n0 c0), (.int .i64 (wrapF .i64 (x311' + 1))), (.int .i64 x2s), (.int .i64 x3s), (.func (.func g4s) fi4s ca4s)] h313' undef h315' ∧
  I115_0 O Q a0 n0 c0 x1 x2 x3 g4 fi4 ca4 x1s x311' x3s g4s fi4s ca4s (!(ltI (wrapF .i64 (x2s - x311')) (wrapF .i64 (Int.tdiv (wrapF .i64 (x2s - x1s)) 8)))) q312' h315'))))
  (vcond (ltI 0 x1s)
  (isNat (wrapF .i64 (x1s - 1)) fun n316' =>
  isAddr a0 fun b317' f318' =>
  vreq (Nat.blt n316' n0)
  (∃ x319', readAt (h269'.rsv 17) b317' (f318' + (n316' * 1)) 1 = some [(.int .i64 x319')] ∧
  isNat (wrapF .i64 ((wrapF .i64 (x2s - 1)) - (wrapF .i64 (x266' - x1s)))) fun n320' =>
  isAddr a0 fun b321' f322' =>
  vreq (Nat.blt n320' n0)
  (∃ x323', readAt (h269'.rsv 17) b321' (f322' + (n320' * 1)) 1 = some [(.int .i64 x323')] ∧
  ∃ x324', ∃ h325', EvC Tryd.prog O g4s (fi4s.toList ++ [(.int .i64 x319'), (.int .i64 x323')] ++ ca4s.toList) ((h269'.rsv 17).grd []) (.int .i64 x324') h325' ∧
  vcond (!(ltI x324' 0))
  (∃ x326', ∃ h327', EvC Tryd.prog O 133 [(.slice a0 n0 c0), (.int .i64 x1s), (.int .i64 x2s), (.int .i64 (wrapF .i64 ((wrapF .i64 (x2s - 1)) - (wrapF .i64 (x266' - x1s))))), (.func (.func g4s) fi4s ca4s)] (h325'.rst (h269'.rsv 17)) (.int .i64 x326') h327' ∧
  I115_0 O Q a0 n0 c0 x1 x2 x3 g4 fi4 ca4 x326' x2s x3s g4s fi4s ca4s q10 q11 h327')
  (∃ x328', ∃ q329', ∃ h330', EvC Tryd.prog O 134 [(.slice a0 n0 c0), (.int .i64 x1s), (.int .i64 x2s), (.int .i64 (wrapF .i64 ((wrapF .i64 (x2s - 1)) - (wrapF .i64 (x266' - x1s))))), (.func (.func g4s) fi4s ca4s)] (h325'.rst (h269'.rsv 17)) (.tuple #[(.int .i64 x328'), (.bool q329')]) h330' ∧
  vcond (ltI (wrapF .i64 (x328' - x1s)) (wrapF .i64 (x2s - x328')))
  (∃ h331', EvC Tryd.prog O 115 [(.slice a0 n0 c0), (.int .i64 x1s), (.int .i64 x328'), (.int .i64 x3s), (.func (.func g4s) fi4s ca4s)] h330' undef h331' ∧
  I115_0 O Q a0 n0 c0 x1 x2 x3 g4 fi4 ca4 (wrapF .i64 (x328' + 1)) x2s x3s g4s fi4s ca4s (!(ltI (wrapF .i64 (x328' - x1s)) (wrapF .i64 (Int.tdiv (wrapF .i64 (x2s - x1s)) 8)))) q329' h331')
  (∃ h332', EvC Tryd.prog O 115 [(.slice a0 n0 c0), (.int .i64 (wrapF .i64 (x328' + 1))), (.int .i64 x2s), (.int .i64 x3s), (.func (.func g4s) fi4s ca4s)] h330' undef h332' ∧
  I115_0 O Q a0 n0 c0 x1 x2 x3 g4 fi4 ca4 x1s x328' x3s g4s fi4s ca4s (!(ltI (wrapF .i64 (x2s - x328')) (wrapF .i64 (Int.tdiv (wrapF .i64 (x2s - x1s)) 8)))) q329' h332')))))
  (∃ x333', ∃ q334', ∃ h335', EvC Tryd.prog O 134 [(.slice a0 n0 c0), (.int .i64 x1s), (.int .i64 x2s), (.int .i64 (wrapF .i64 ((wrapF .i64 (x2s - 1)) - (wrapF .i64 (x266' - x1s))))), (.func (.func g4s) fi4s ca4s)] (h269'.rsv 17) (.tuple #[(.int .i64 x333'), (.bool q334')]) h335' ∧
  vcond (ltI (wrapF .i64 (x333' - x1s)) (wrapF .i64 (x2s - x333')))
  (∃ h336', EvC Tryd.prog O 115 [(.slice a0 n0 c0), (.int .i64 x1s), (.int .i64 x333'), (.int .i64 x3s), (.func (.func g4s) fi4s ca4s)] h335' undef h336' ∧
  I115_0 O Q a0 n0 c0 x1 x2 x3 g4 fi4 ca4 (wrapF .i64 (x333' + 1)) x2s x3s g4s fi4s ca4s (!(ltI (wrapF .i64 (x333' - x1s)) (wrapF .i64 (Int.tdiv (wrapF .i64 (x2s - x1s)) 8)))) q334' h336')
  (∃ h337', EvC Tryd.prog O 115 [(.slice a0 n0 c0), (.int .i64 (wrapF .i64 (x333' + 1))), (.int .i64 x2s), (.int .i64 x3s), (.func (.func g4s) fi4s ca4s)] h335' undef h337' ∧
  I115_0 O Q a0 n0 c0 x1 x2 x3 g4 fi4 ca4 x1s x333' x3s g4s fi4s ca4s (!(ltI (wrapF .i64 (x2s - x333')) (wrapF .i64 (Int.tdiv (wrapF .i64 (x2s - x1s)) 8)))) q334' h337'))))
  (vcond q10
  (vcond q11
  (vcond (eqI x267' 1)
  (∃ q338', ∃ h339', EvC Tryd.prog O 132 [(.slice a0 n0 c0), (.int .i64 x1s), (.int .i64 x2s), (.func (.func g4s) fi4s ca4s)] h268' (.bool q338') h339' ∧
  vcond q338'
  (Q undef h339')
  (vcond (ltI 0 x1s)
  (isNat (wrapF .i64 (x1s - 1)) fun n340' =>
  isAddr a0 fun b341' f342' =>
  vreq (Nat.blt n340' n0)
  (∃ x343', readAt (h339'.rsv 17) b341' (f342' + (n340' * 1)) 1 = some [(.int .i64 x343')] ∧
  isNat x266' fun n344' =>
  isAddr a0 fun b345' f346' =>
  vreq (Nat.blt n344' n0)
  (∃ x347', readAt (h339'.rsv 17) b345' (f346' + (n344' * 1)) 1 = some [(.int .i64 x347')] ∧
  ∃ x348', ∃ h349', EvC Tryd.prog O g4s (fi4s.toList ++ [(.int .i64 x343'), (.int .i64 x347')] ++ ca4s.toList) ((h339'.rsv 17).grd []) (.int .i64 x348') h349' ∧
  vcond (!(ltI x348' 0))
  (∃ x350', ∃ h351', EvC Tryd.prog O 133 [(.slice a0 n0 c0), (.int .i64 x1s), (.int .i64 x2s), (.int .i64 x266'), (.func (.func g4s) fi4s ca4s)] (h349'.rst (h339'.rsv 17)) (.int .i64 x350') h351' ∧
  I115_0 O Q a0 n0 c0 x1 x2 x3 g4 fi4 ca4 x350' x2s x3s g4s fi4s ca4s q10 q11 h351')
  (∃ x352', ∃ q353', ∃ h354', EvC Tryd.prog O 134 [(.slice a0 n0 c0), (.int .i64 x1s), (.int .i64 x2s), (.int .i64 x266'), (.func (.func g4s) fi4s ca4s)] (h349'.rst (h339'.rsv 17)) (.tuple #[(.int .i64 x352'), (.bool q353')]) h354' ∧
  vcond (ltI (wrapF .i64 (x352' - x1s)) (wrapF .i64 (x2s - x352')))
  (∃ h355', EvC Tryd.prog O 115 [(.slice a0 n0 c0), (.int .i64 x1s), (.int .i64 x352'), (.int .i64 x3s), (.func (.func g4s) fi4s ca4s)] h354' undef h355' ∧
  I115_0 O Q a0 n0 c0 x1 x2 x3 g4 fi4 ca4 (wrapF .i64 (x352' + 1)) x2s x3s g4s fi4s ca4s (!(ltI (wrapF .i64 (x352' - x1s)) (wrapF .i64 (Int.tdiv (wrapF .i64 (x2s - x1s)) 8)))) q353' h355')
  (∃ h356', EvC Tryd.prog O 115 [(.slice a0 n0 c0), (.int .i64 (wrapF .i64 (x352' + 1))), (.int .i64 x2s), (.int .i64 x3s), (.func (.func g4s) fi4s ca4s)] h354' undef h356' ∧
  I115_0 O Q a0 n0 c0 x1 x2 x3 g4 fi4 ca4 x1s x352' x3s g4s fi4s ca4s (!(ltI (wrapF .i64 (x2s - x352')) (wrapF .i64 (Int.tdiv (wrapF .i64 (x2s - x1s)) 8)))) q353' h356')))))
  (∃ x357', ∃ q358', ∃ h359', EvC Tryd.prog O 134 [(.slice a0 n0 c0), (.int .i64 x1s), (.int .i64 x2s), (.int .i64 x266'), (.func (.func g4s) fi4s ca4s)] (h339'.rsv 17) (.tuple #[(.int .i64 x357'), (.bool q358')]) h359' ∧
  vcond (ltI (wrapF .i64 (x357' - x1s)) (wrapF .i64 (x2s - x357')))
  (∃ h360', EvC Tryd.prog O 115 [(.slice a0 n0 c0), (.int .i64 x1s), (.int .i64 x357'), (.int .i64 x3s), (.func (.func g4s) fi4s ca4s)] h359' undef h360' ∧
  I115_0 O Q a0 n0 c0 x1 x2 x3 g4 fi4 ca4 (wrapF .i64 (x357' + 1)) x2s x3s g4s fi4s ca4s (!(ltI (wrapF .i64 (x357' - x1s)) (wrapF .i64 (Int.tdiv (wrapF .i64 (x2s - x1s)) 8)))) q358' h360')
  (∃ h361', EvC Tryd.prog O 115 [(.slice a0 n0 c0), (.int .i64 (wrapF .i64 (x357' + 1))), (.int .i64 x2s), (.int .i64 x3s), (.func (.func g4s) fi4s ca4s)] h359' undef h361' ∧
  I115_0 O Q a0 n0 c0 x1 x2 x3 g4 fi4 ca4 x1s x357' x3s g4s fi4s ca4s (!(ltI (wrapF .i64 (x2s - x357')) (wrapF .i64 (Int.tdiv (wrapF .i64 (x2s - x1s)) 8)))) q358' h361'))))
  (vcond (ltI 0 x1s)
  (isNat (wrapF .i64 (x1s - 1)) fun n362' =>
  isAddr a0 fun b363' f364' =>
  vreq (Nat.blt n362' n0)
  (∃ x365', readAt (h268'.rsv 17) b363' (f364' + (n362' * 1)) 1 = some [(.int .i64 x365')] ∧
  isNat x266' fun n366' =>
  isAddr a0 fun b367' f368' =>
  vreq (Nat.blt n366' n0)
  (∃ x369', readAt (h268'.rsv 17) b367' (f368' + (n366' * 1)) 1 = some [(.int .i64 x369')] ∧
  ∃ x370', ∃ h371', EvC Tryd.prog O g4s (fi4s.toList ++ [(.int .i64 x365'), (.int .i64 x369')] ++ ca4s.toList) ((h268'.rsv 17).grd []) (.int .i64 x370') h371' ∧
  vcond (!(ltI x370' 0))
  (∃ x372', ∃ h373', EvC Tryd.prog O 133 [(.slice a0 n0 c0), (.int .i64 x1s), (.int .i64 x2s), (.int .i64 x266'), (.func (.func g4s) fi4s ca4s)] (h371'.rst (h268'.rsv 17)) (.int .i64 x372') h373' ∧
  I115_0 O Q a0 n0 c0 x1 x2 x3 g4 fi4 ca4 x372' x2s x3s g4s fi4s ca4s q10 q11 h373')
  (∃ x374', ∃ q375', ∃ h376', EvC Tryd.prog O 134 [(.slice a0 n0 c0), (.int .i64 x1s), (.int .i64 x2s), (.int .i64 x266'), (.func (.func g4s) fi4s ca4s)] (h371'.rst (h268'.rsv 17)) (.tuple #[(.int .i64 x374'), (.bool q375')]) h376' ∧
  vcond (ltI (wrapF .i64 (x374' - x1s)) (wrapF .i64 (x2s - x374')))
  (∃ h377', EvC Tryd.prog O 115 [(.slice a0 n0 c0), (.int .i64 x1s), (.int .i64 x374'), (.int .i64 x3s), (.func (.func g4s) fi4s ca4s)] h376' undef h377' ∧
  I115_0 O Q a0 n0 c0 x1 x2 x3 g4 fi4 ca4 (wrapF .i64 (x374' + 1)) x2s x3s g4s fi4s ca4s (!(ltI (wrapF .i64 (x374' - x1s)) (wrapF .i64 (Int.tdiv (wrapF .i64 (x2s - x1s)) 8)))) q375' h377')
  (∃ h378', EvC Tryd.prog O 115 [(.slice a0 n0 c0), (.int .i64 (wrapF .i64 (x374' + 1))), (.int .i64 x2s), (.int .i64 x3s), (.func (.func g4s) fi4s ca4s)] h376' undef h378' ∧
  I115_0 O Q a0 n0 c0 x1 x2 x3 g4 fi4 ca4 x1s x374' x3s g4s fi4s ca4s (!(ltI (wrapF .i64 (x2s - x374')) (wrapF .i64 (Int.tdiv (wrapF .i64 (x2s - x1s)) 8)))) q375' h378')))))
  (∃ x379', ∃ q380', ∃ h381', EvC Tryd.prog O 134 [(.slice a0 n0 c0), (.int .i64 x1s), (.int .i64 x2s), (.int .i64 x266'), (.func (.func g4s) fi4s ca4s)] (h268'.rsv 17) (.tuple #[(.int .i64 x379'), (.bool q380')]) h381' ∧
  vcond (ltI (wrapF .i64 (x379' - x1s)) (wrapF .i64 (x2s - x379')))
  (∃ h382', EvC Tryd.prog O 115 [(.slice a0 n0 c0), (.int .i64 x1s), (.int .i64 x379'), (.int .i64 x3s), (.func (.func g4s) fi4s ca4s)] h381' undef h382' ∧
  I115_0 O Q a0 n0 c0 x1 x2 x3 g4 fi4 ca4 (wrapF .i64 (x379' + 1)) x2s x3s g4s fi4s ca4s (!(ltI (wrapF .i64 (x379' - x1s)) (wrapF .i64 (Int.tdiv (wrapF .i64 (x2s - x1s)) 8)))) q380' h382')
  (∃ h383', EvC Tryd.prog O 115 [(.slice a0 n0 c0), (.int .i64 (wrapF .i64 (x379' + 1))), (.int .i64 x2s), (.int .i64 x3s), (.func (.func g4s) fi4s ca4s)] h381' undef h383' ∧
  I115_0 O Q a0 n0 c0 x1 x2 x3 g4 fi4 ca4 x1s x379' x3s g4s fi4s ca4s (!(ltI (wrapF .i64 (x2s - x379')) (wrapF .i64 (Int.tdiv (wrapF .i64 (x2s - x1s)) 8)))) q380' h383'))))
  (vcond (ltI 0 x1s)
  (isNat (wrapF .i64 (x1s - 1)) fun n384' =>
  isAddr a0 fun b385' f386' =>
  vreq (Nat.blt n384' n0)
  (∃ x387', readAt (h268'.rsv 17) b385' (f386' + (n384' * 1)) 1 = some [(.int .i64 x387')] ∧
  isNat x266' fun n388' =>
  isAddr a0 fun b389' f390' =>
  vreq (Nat.blt n388' n0)
  (∃ x391', readAt (h268'.rsv 17) b389' (f390' + (n388' * 1)) 1 = some [(.int .i64 x391')] ∧
  ∃ x392', ∃ h393', EvC Tryd.prog O g4s (fi4s.toList ++ [(.int .i64 x387'), (.int .i64 x391')] ++ ca4s.toList) ((h268'.rsv 17).grd []) (.int .i64 x392') h393' ∧
  vcond (!(ltI x392' 0))
  (∃ x394', ∃ h395', EvC Tryd.prog O 133 [(.slice a0 n0 c0), (.int .i64 x1s), (.int .i64 x2s), (.int .i64 x266'), (.func (.func g4s) fi4s ca4s)] (h393'.rst (h268'.rsv 17)) (.int .i64 x394') h395' ∧
  I115_0 O Q a0 n0 c0 x1 x2 x3 g4 fi4 ca4 x394' x2s x3s g4s fi4s ca4s q10 q11 h395')
  (∃ x396', ∃ q397', ∃ h398', EvC Tryd.prog O 134 [(.slice a0 n0 c0), (.int .i64 x1s), (.int .i64 x2s), (.int .i64 x266'), (.func (.func g4s) fi4s ca4s)] (h393'.rst (h268'.rsv 17)) (.tuple #[(.int .i64 x396'), (.bool q397')]) h398' ∧
  vcond (ltI (wrapF .i64 (x396' - x1s)) (wrapF .i64 (x2s - x396')))
  (∃ h399', EvC Tryd.prog O 115 [(.slice a0 n0 c0), (.int .i64 x1s), (.int .i64 x396'), (.int .i64 x3s), (.func (.func g4s) fi4s ca4s)] h398' undef h399' ∧
  I115_0 O Q a0 n0 c0 x1 x2 x3 g4 fi4 ca4 (wrapF .i64 (x396' + 1)) x2s x3s g4s fi4s ca4s (!(ltI (wrapF .i64 (x396' - x1s)) (wrapF .i64 (Int.tdiv (wrapF .i64 (x2s - x1s)) 8)))) q397' h399')
  (∃ h400', EvC Tryd.prog O 115 [(.slice a0 n0 c0), (.int .i64 (wrapF .i64 (x396' + 1))), (.int .i64 x2s), (.int .i64 x3s), (.func (.func g4s) fi4s ca4s)] h398' undef h400' ∧
  I115_0 O Q a0 n0 c0 x1 x2 x3 g4 fi4 ca4 x1s x396' x3s g4s fi4s ca4s (!(ltI (wrapF .i64 (x2s - x396')) (wrapF .i64 (Int.tdiv (wrapF .i64 (x2s - x1s)) 8)))) q397' h400')))))
  (∃ x401', ∃ q402', ∃ h403', EvC Tryd.prog O 134 [(.slice a0 n0 c0), (.int .i64 x1s), (.int .i64 x2s), (.int .i64 x266'), (.func (.func g4s) fi4s ca4s)] (h268'.rsv 17) (.tuple #[(.int .i64 x401'), (.bool q402')]) h403' ∧
  vcond (ltI (wrapF .i64 (x401' - x1s)) (wrapF .i64 (x2s - x401')))
  (∃ h404', EvC Tryd.prog O 115 [(.slice a0 n0 c0), (.int .i64 x1s), (.int .i64 x401'), (.int .i64 x3s), (.func (.func g4s) fi4s ca4s)] h403' undef h404' ∧
  I115_0 O Q a0 n0 c0 x1 x2 x3 g4 fi4 ca4 (wrapF .i64 (x401' + 1)) x2s x3s g4s fi4s ca4s (!(ltI (wrapF .i64 (x401' - x1s)) (wrapF .i64 (Int.tdiv (wrapF .i64 (x2s - x1s)) 8)))) q402' h404')
  (∃ h405', EvC Tryd.prog O 115 [(.slice a0 n0 c0), (.int .i64 (wrapF .i64 (x401' + 1))), (.int .i64 x2s), (.int .i64 x3s), (.func (.func g4s) fi4s ca4s)] h403' undef h405' ∧
  I115_0 O Q a0 n0 c0 x1 x2 x3 g4 fi4 ca4 x1s x401' x3s g4s fi4s ca4s (!(ltI (wrapF .i64 (x2s - x401')) (wrapF .i64 (Int.tdiv (wrapF .i64 (x2s - x1s)) 8)))) q402' h405'))))
  (vcond (ltI 0 x1s)
  (isNat (wrapF .i64 (x1s - 1)) fun n406' =>
  isAddr a0 fun b407' f408' =>
  vreq (Nat.blt n406' n0)
  (∃ x409', readAt (h268'.rsv 17) b407' (f408' + (n406' * 1)) 1 = some [(.int .i64 x409')] ∧
  isNat x266' fun n410' =>
  isAddr a0 fun b411' f412' =>
  vreq (Nat.blt n410' n0)
  (∃ x413', readAt (h268'.rsv 17) b411' (f412' + (n410' * 1)) 1 = some [(.int .i64 x413')] ∧
  ∃ x414', ∃ h415', EvC Tryd.prog O g4s (fi4s.toList ++ [(.int .i64 x409'), (.int .i64 x413')] ++ ca4s.toList) ((h268'.rsv 17).grd []) (.int .i64 x414') h415' ∧
  vcond (!(ltI x414' 0))
  (∃ x416', ∃ h417', EvC Tryd.prog O 133 [(.slice a0 n0 c0), (.int .i64 x1s), (.int .i64 x2s), (.int .i64 x266'), (.func (.func g4s) fi4s ca4s)] (h415'.rst (h268'.rsv 17)) (.int .i64 x416') h417' ∧
  I115_0 O Q a0 n0 c0 x1 x2 x3 g4 fi4 ca4 x416' x2s x3s g4s fi4s ca4s q10 q11 h417')
  (∃ x418', ∃ q419', ∃ h420', EvC Tryd.prog O 134 [(.slice a0 n0 c0), (.int .i64 x1s), (.int .i64 x2s), (.int .i64 x266'), (.func (.func g4s) fi4s ca4s)] (h415'.rst (h268'.rsv 17)) (.tuple #[(.int .i64 x418'), (.bool q419')]) h420' ∧
  vcond (ltI (wrapF .i64 (x418' - x1s)) (wrapF .i64 (x2s - x418')))
  (∃ h421', EvC Tryd.prog O 115 [(.slice a0 n0 c0), (.int .i64 x1s), (.int .i64 x418'), (.int .i64 x3s), (.func (.func g4s) fi4s ca4s)] h420' undef h421' ∧
  I115_0 O Q a0 n0 c0 x1 x2 x3 g4 fi4 ca4 (wrapF .i64 (x418' + 1)) x2s x3s g4s fi4s ca4s (!(ltI (wrapF .i64 (x418' - x1s)) (wrapF .i64 (Int.tdiv (wrapF .i64 (x2s - x1s)) 8)))) q419' h421')
  (∃ h422', EvC Tryd.prog O 115 [(.slice a0 n0 c0), (.int .i64 (wrapF .i64 (x418' + 1))), (.int .i64 x2s), (.int .i64 x3s), (.func (.func g4s) fi4s ca4s)] h420' undef h422' ∧
  I115_0 O Q a0 n0 c0 x1 x2 x3 g4 fi4 ca4 x1s x418' x3s g4s fi4s ca4s (!(ltI (wrapF .i64 (x2s - x418')) (wrapF .i64 (Int.tdiv (wrapF .i64 (x2s - x1s)) 8)))) q419' h422')))))
  (∃ x423', ∃ q424', ∃ h425', EvC Tryd.prog O 134 [(.slice a0 n0 c0), (.int .i64 x1s), (.int .i64 x2s), (.int .i64 x266'), (.func (.func g4s) fi4s ca4s)] (h268'.rsv 17) (.tuple #[(.int .i64 x423'), (.bool q424')]) h425' ∧
  vcond (ltI (wrapF .i64 (x423' - x1s)) (wrapF .i64 (x2s - x423')))
  (∃ h426', EvC Tryd.prog O 115 [(.slice a0 n0 c0), (.int .i64 x1s), (.int .i64 x423'), (.int .i64 x3s), (.func (.func g4s) fi4s ca4s)] h425' undef h426' ∧
  I115_0 O Q a0 n0 c0 x1 x2 x3 g4 fi4 ca4 (wrapF .i64 (x423' + 1)) x2s x3s g4s fi4s ca4s (!(ltI (wrapF .i64 (x423' - x1s)) (wrapF .i64 (Int.tdiv (wrapF .i64 (x2s - x1s)) 8)))) q424' h426')
  (∃ h427', EvC Tryd.prog O 115 [(.slice a0 n0 c0), (.int .i64 (wrapF .i64 (x423' + 1))), (.int .i64 x2s), (.int .i64 x3s), (.func (.func g4s) fi4s ca4s)] h425' undef h427' ∧
  I115_0 O Q a0 n0 c0 x1 x2 x3 g4 fi4 ca4 x1s x423' x3s g4s fi4s ca4s (!(ltI (wrapF .i64 (x2s - x423')) (wrapF .i64 (Int.tdiv (wrapF .i64 (x2s - x1s)) 8)))) q424' h427')))))))
theorem I115_0.of {O Q} (a0 n0 c0 x1 x2 x3 g4 fi4 ca4 x1s x2s x3s g4s fi4s ca4s q10 q11) {h : Hp} (hh : T115_0 O Q a0 n0 c0 x1 x2 x3 g4 fi4 ca4 x1s x2s x3s g4s fi4s ca4s q10 q11 h) : I115_0 O Q a0 n0 c0 x1 x2 x3 g4 fi4 ca4 x1s x2s x3s g4s fi4s ca4s q10 q11 h :=
  RKL.of (tb := lv115) (cuts := []) 500 fun _ => Eq.mp (by kernel_rfl) hh
/-! slices.insertionSortCmpFunc[int] -/
noncomputable def b127 : Code := (Tryd.f127.body).getD .skip
noncomputable def stk127_0 : List KI := [.code (sub [1, 0] b127), .blk 0]
noncomputable def stk127_1 : List KI := [.code (sub [1, 0, 0, 1, 0, 0, 1, 0] b127), .blk 2, .blk 1, .code (sub [1, 0, 0, 1, 1] b127), .code (sub [1, 0] b127), .blk 0]
def lv127 : List (Nat × List Nat) := [(0, [0, 1, 2, 3, 8]), (2, [0, 1, 2, 3, 8, 9])]
def I127_0 (O : CallF) (Q : Value → Hp → Prop) (a0 : Option Addr) (n0 : Nat) (c0 : Nat) (x1 : Int) (x2 : Int) (g3 : Nat) (fi3 : Array Value) (ca3 : Array Value) (g3s : Nat) (fi3s : Array Value) (ca3s : Array Value) (x8 : Int) (h : Hp) : Prop := RKL Tryd.prog O Tryd.f127 stk127_0 53 [0, 1, 2, 3, 8] [(.slice a0 n0 c0), (.int .i64 x1), (.int .i64 x2), (.func (.func g3s) fi3s ca3s), (.int .i64 x8)] h Q
def I127_1 (O : CallF) (Q : Value → Hp → Prop) (a0 : Option Addr) (n0 : Nat) (c0 : Nat) (x1 : Int) (x2 : Int) (g3 : Nat) (fi3 : Array Value) (ca3 : Array Value) (g3s : Nat) (fi3s : Array Value) (ca3s : Array Value) (x8 : Int) (x9 : Int) (h : Hp) : Prop := RKL Tryd.prog O Tryd.f127 stk127_1 53 [0, 1, 2, 3, 8, 9] [(.slice a0 n0 c0), (.int .i64 x1), (.int .i64 x2), (.func (.func g3s) fi3s ca3s), (.int .i64 x8), (.int .i64 x9)] h Q
def T127 (O : CallF) (Q : Value → Hp → Prop) (a0 : Option Addr) (n0 : Nat) (c0 : Nat) (x1 : Int) (x2 : Int) (g3 : Nat) (fi3 : Array Value) (ca3 : Array Value) (h : Hp) : Prop :=
  I127_0 O Q a0 n0 c0 x1 x2 g3 fi3 ca3 g3 fi3 ca3 (wrapF .i64 (x1 + 1)) h
theorem rk127 {O Q} (a0 n0 c0 x1 x2 g3 fi3 ca3) {h : Hp} (hO : O 127 [(.slice a0 n0 c0), (.int .i64 x1), (.int .i64 x2), (.func (.func g3) fi3 ca3)] h = none) (hh : T127 O Q a0 n0 c0 x1 x2 g3 fi3 ca3 h) : Ret Tryd.prog O 127 [(.slice a0 n0 c0), (.int .i64 x1), (.int .i64 x2), (.func (.func g3) fi3 ca3)] h Q :=
  .of (c := b127) Tryd.func127 (by kernel_rfl) hO (V_ok (tb := lv127) (cuts := []) 500 (Eq.mp (by kernel_rfl) hh))
def T127_0 (O : CallF) (Q : Value → Hp → Prop) (a0 : Option Addr) (n0 : Nat) (c0 : Nat) (x1 : Int) (x2 : Int) (g3 : Nat) (fi3 : Array Value) (ca3 : Array Value) (g3s : Nat) (fi3s : Array Value) (ca3s : Array Value) (x8 : Int) (h : Hp) : Prop :=
  vcond (ltI x8 x2)
  (I127_1 O Q a0 n0 c0 x1 x2 g3 fi3 ca3 g3s fi3s ca3s x8 x8 h)
  (Q undef h)
theorem I127_0.of {O Q} (a0 n0 c0 x1 x2 g3 fi3 ca3 g3s fi3s ca3s x8) {h : Hp} (hh : T127_0 O Q a0 n0 c0 x1 x2 g3 fi3 ca3 g3s fi3s ca3s x8 h) : I127_0 O Q a0 n0 c0 x1 x2 g3 fi3 ca3 g3s fi3s ca3s x8 h :=
  RKL.of (tb := lv127) (cuts := []) 500 fun _ => Eq.mp (by kernel_rfl) hh
def T127_1 (O : CallF) (Q : Value → Hp → Prop) (a0 : Option Addr) (n0 : Nat) (c0 : Nat) (x1 : Int) (x2 : Int) (g3 : Nat) (fi3 : Array Value) (ca3 : Array Value) (g3s : Nat) (fi3s : Array Value) (ca3s : Array Value) (x8 : Int) (x9 : Int) (h : Hp) : Prop :=
  vcond (ltI x1 x9)
  (isNat x9 fun n201' =>
  isAddr a0 fun b202' f203' =>
  vreq (Nat.blt n201' n0)
  (∃ x204', readAt (h.rsv 17) b202' (f203' + (n201' * 1)) 1 = some [(.int .i64 x204')] ∧
  isNat (wrapF .i64 (x9 - 1)) fun n205' =>
  isAddr a0 fun b206' f207' =>
  vreq (Nat.blt n205' n0)
  (∃ x208', readAt (h.rsv 17) b206' (f207' + (n205' * 1)) 1 = some [(.int .i64 x208')] ∧
  ∃ x209', ∃ h210', EvC Tryd.prog O g3s (fi3s.toList ++ [(.int .i64 x204'), (.int .i64 x208')] ++ ca3s.toList) ((h.rsv 17).grd []) (.int .i64 x209') h210' ∧
  vcond (ltI x209' 0)
  (isNat (wrapF .i64 (x9 - 1)) fun n211' =>
  isAddr a0 fun b212' f213' =>
  vreq (Nat.blt n211' n0)
  (∃ x214', readAt ((h210'.rst (h.rsv 17)).rsv 18) b212' (f213' + (n211' * 1)) 1 = some [(.int .i64 x214')] ∧
  isNat x9 fun n215' =>
  isAddr a0 fun b216' f217' =>
  vreq (Nat.blt n215' n0)
  (∃ x218', readAt ((h210'.rst (h.rsv 17)).rsv 18) b216' (f217' + (n215' * 1)) 1 = some [(.int .i64 x218')] ∧
  isNat x9 fun n219' =>
  isAddr a0 fun b220' f221' =>
  vreq (Nat.blt n219' n0)
  (vreq (canW (((h210'.rst (h.rsv 17)).rsv 18).grd []) b220' (f221' + (n219' * 1)) [(.int .i64 x214')])
  (isNat (wrapF .i64 (x9 - 1)) fun n222' =>
  isAddr a0 fun b223' f224' =>
  vreq (Nat.blt n222' n0)
  (vreq (canW ((((((h210'.rst (h.rsv 17)).rsv 18).grd []).wr b220' (f221' + (n219' * 1)) [(.int .i64 x214')]).rst ((h210'.rst (h.rsv 17)).rsv 18)).grd []) b223' (f224' + (n222' * 1)) [(.int .i64 x218')])
  (I127_1 O Q a0 n0 c0 x1 x2 g3 fi3 ca3 g3s fi3s ca3s x8 (wrapF .i64 (x9 - 1)) ((((((((h210'.rst (h.rsv 17)).rsv 18).grd []).wr b220' (f221' + (n219' * 1)) [(.int .i64 x214')]).rst ((h210'.rst (h.rsv 17)).rsv 18)).grd []).wr b223' (f224' + (n222' * 1)) [(.int .i64 x218')]).rst (((((h210'.rst (h.rsv 17)).rsv 18).grd []).wr b220' (f221' + (n219' * 1)) [(.int .i64 x214')]).rst ((h210'.rst (h.rsv 17)).rsv 18))))))))))
  (I127_0 O Q a0 n0 c0 x1 x2 g3 fi3 ca3 g3s fi3s ca3s (wrapF .i64 (x8 + 1)) (h210'.rst (h.rsv 17))))))
  (I127_0 O Q a0 n0 c0 x1 x2 g3 fi3 ca3 g3s fi3s ca3s (wrapF .i64 (x8 + 1)) (h.rsv 17))
theorem I127_1.of {O Q} (a0 n0 c0 x1 x2 g3 fi3 ca3 g3s fi3s ca3s x8 x9) {h : Hp} (hh : T127_1 O Q a0 n0 c0 x1 x2 g3 fi3 ca3 g3s fi3s ca3s x8 x9 h) : I127_1 O Q a0 n0 c0 x1 x2 g3 fi3 ca3 g3s fi3s ca3s x8 x9 h :=
  RKL.of (tb := lv127) (cuts := []) 500 fun _ => Eq.mp (by kernel_rfl) hh
/-! slices.choosePivotCmpFunc[int] -/
noncomputable def b130 : Code := (Tryd.f130.body).getD .skip
def lv130 : List (Nat × List Nat) := []
def T130 (O : CallF) (Q : Value → Hp → Prop) (a0 : Option Addr) (n0 : Nat) (c0 : Nat) (x1 : Int) (x2 : Int) (g3 : Nat) (fi3 : Array Value) (ca3 : Array Value) (h : Hp) : Prop :=
  vcond (!(ltI (wrapF .i64 (x2 - x1)) 8))
  (vcond (!(ltI (wrapF .i64 (x2 - x1)) 50))
  (∃ x1', ∃ h2', EvC Tryd.prog O 143 [(.slice a0 n0 c0), (.int .i64 (wrapF .i64 (x1 + (wrapF .i64 ((wrapF .i64 (Int.tdiv (wrapF .i64 (x2 - x1)) 4)) * 1))))), (.pointer (some ⟨h.nx, 0, none⟩)), (.func (.func g3) fi3 ca3)] (h.add (.cells [(.int .i64 0)] 3 .fix)) (.int .i64 x1') h2' ∧
  ∃ x3', ∃ h4', EvC Tryd.prog O 143 [(.slice a0 n0 c0), (.int .i64 (wrapF .i64 (x1 + (wrapF .i64 ((wrapF .i64 (Int.tdiv (wrapF .i64 (x2 - x1)) 4)) * 2))))), (.pointer (some ⟨h.nx, 0, none⟩)), (.func (.func g3) fi3 ca3)] h2' (.int .i64 x3') h4' ∧
  ∃ x5', ∃ h6', EvC Tryd.prog O 143 [(.slice a0 n0 c0), (.int .i64 (wrapF .i64 (x1 + (wrapF .i64 ((wrapF .i64 (Int.tdiv (wrapF .i64 (x2 - x1)) 4)) * 3))))), (.pointer (some ⟨h.nx, 0, none⟩)), (.func (.func g3) fi3 ca3)] h4' (.int .i64 x5') h6' ∧
  ∃ x7', ∃ h8', EvC Tryd.prog O 144 [(.slice a0 n0 c0), (.int .i64 x1'), (.int .i64 x3'), (.int .i64 x5'), (.pointer (some ⟨h.nx, 0, none⟩)), (.func (.func g3) fi3 ca3)] h6' (.int .i64 x7') h8' ∧
  ∃ x9', readAt h8' h.nx 0 1 = some [(.int .i64 x9')] ∧
  vcond (eqI x9' 0)
  (Q (.tuple #[(.int .i64 x7'), (.int .i64 1)]) h8')
  (vcond (eqI x9' 12)
  (Q (.tuple #[(.int .i64 x7'), (.int .i64 2)]) h8')
  (Q (.tuple #[(.int .i64 x7'), (.int .i64 0)]) h8')))
  (∃ x10', ∃ h11', EvC Tryd.prog O 144 [(.slice a0 n0 c0), (.int .i64 (wrapF .i64 (x1 + (wrapF .i64 ((wrapF .i64 (Int.tdiv (wrapF .i64 (x2 - x1)) 4)) * 1))))), (.int .i64 (wrapF .i64 (x1 + (wrapF .i64 ((wrapF .i64 (Int.tdiv (wrapF .i64 (x2 - x1)) 4)) * 2))))), (.int .i64 (wrapF .i64 (x1 + (wrapF .i64 ((wrapF .i64 (Int.tdiv (wrapF .i64 (x2 - x1)) 4)) * 3))))), (.pointer (some ⟨h.nx, 0, none⟩)), (.func (.func g3) fi3 ca3)] (h.add (.cells [(.int .i64 0)] 3 .fix)) (.int .i64 x10') h11' ∧
  ∃ x12', readAt h11' h.nx 0 1 = some [(.int .i64 x12')] ∧
  vcond (eqI x12' 0)
  (Q (.tuple #[(.int .i64 x10'), (.int .i64 1)]) h11')
  (vcond (eqI x12' 12)
  (Q (.tuple #[(.int .i64 x10'), (.int .i64 2)]) h11')
  (Q (.tuple #[(.int .i64 x10'), (.int .i64 0)]) h11'))))
  (∃ x13', readAt (h.add (.cells [(.int .i64 0)] 3 .fix)) h.nx 0 1 = some [(.int .i64 x13')] ∧
  vcond (eqI x13' 0)
  (Q (.tuple #[(.int .i64 (wrapF .i64 (x1 + (wrapF .i64 ((wrapF .i64 (Int.tdiv (wrapF .i64 (x2 - x1)) 4)) * 2))))), (.int .i64 1)]) (h.add (.cells [(.int .i64 0)] 3 .fix)))
  (vcond (eqI x13' 12)
  (Q (.tuple #[(.int .i64 (wrapF .i64 (x1 + (wrapF .i64 ((wrapF .i64 (Int.tdiv (wrapF .i64 (x2 - x1)) 4)) * 2))))), (.int .i64 2)]) (h.add (.cells [(.int .i64 0)] 3 .fix)))
  (Q (.tuple #[(.int .i64 (wrapF .i64 (x1 + (wrapF .i64 ((wrapF .i64 (Int.tdiv (wrapF .i64 (x2 - x1)) 4)) * 2))))), (.int .i64 0)]) (h.add (.cells [(.int .i64 0)] 3 .fix)))))
theorem rk130 {O Q} (a0 n0 c0 x1 x2 g3 fi3 ca3) {h : Hp} (hO : O 130 [(.slice a0 n0 c0), (.int .i64 x1), (.int .i64 x2), (.func (.func g3) fi3 ca3)] h = none) (hh : T130 O Q a0 n0 c0 x1 x2 g3 fi3 ca3 h) : Ret Tryd.prog O 130 [(.slice a0 n0 c0), (.int .i64 x1), (.int .i64 x2), (.func (.func g3) fi3 ca3)] h Q :=
  .of (c := b130) Tryd.func130 (by kernel_rfl) hO (V_ok (tb := lv130) (cuts := []) 500 (Eq.mp (by kernel_rfl) hh))
/-! slices.partialInsertionSortCmpFunc[int] -/
noncomputable def b132 : Code := (Tryd.f132.body).getD .skip
noncomputable def stk132_0 : List KI := [.code (sub [1, 1, 0, 1, 0] b132), .blk 0, .code (sub [1, 1, 1] b132)]
noncomputable def stk132_1 : List KI := [.code (sub [1, 1, 0, 1, 0, 0, 1, 0, 0, 0, 0] b132), .blk 2, .code (sub [1, 1, 0, 1, 0, 0, 1, 0, 0, 1] b132), .blk 1, .code (sub [1, 1, 0, 1, 0, 0, 1, 1] b132), .code (sub [1, 1, 0, 1, 0] b132), .blk 0, .code (sub [1, 1, 1] b132)]
noncomputable def stk132_2 : List KI := [.code (sub [1, 1, 0, 1, 0, 0, 1, 0, 0, 1, 1, 1, 1, 0, 1, 0, 1, 0] b132), .blk 4, .code (sub [1, 1, 0, 1, 0, 0, 1, 0, 0, 1, 1, 1, 1, 1] b132), .blk 1, .code (sub [1, 1, 0, 1, 0, 0, 1, 1] b132), .code (sub [1, 1, 0, 1, 0] b132), .blk 0, .code (sub [1, 1, 1] b132)]
noncomputable def stk132_3 : List KI := [.code (sub [1, 1, 0, 1, 0, 0, 1, 0, 0, 1, 1, 1, 1, 1, 1, 0, 1, 0] b132), .blk 6, .blk 1, .code (sub [1, 1, 0, 1, 0, 0, 1, 1] b132), .code (sub [1, 1, 0, 1, 0] b132), .blk 0, .code (sub [1, 1, 1] b132)]
def lv132 : List (Nat × List Nat) := [(0, [0, 1, 2, 3, 8, 9, 10]), (2, [0, 1, 2, 3, 8, 9, 10]), (4, [0, 1, 2, 3, 8, 9, 10, 11]), (6, [0, 1, 2, 3, 8, 9, 10, 12])]
def I132_0 (O : CallF) (Q : Value → Hp → Prop) (a0 : Option Addr) (n0 : Nat) (c0 : Nat) (x1 : Int) (x2 : Int) (g3 : Nat) (fi3 : Array Value) (ca3 : Array Value) (g3s : Nat) (fi3s : Array Value) (ca3s : Array Value) (q8 : Bool) (x9 : Int) (x10 : Int) (h : Hp) : Prop := RKL Tryd.prog O Tryd.f132 stk132_0 141 [0, 1, 2, 3, 8, 9, 10] [(.slice a0 n0 c0), (.int .i64 x1), (.int .i64 x2), (.func (.func g3s) fi3s ca3s), (.bool q8), (.int .i64 x9), (.int .i64 x10)] h Q
def I132_1 (O : CallF) (Q : Value → Hp → Prop) (a0 : Option Addr) (n0 : Nat) (c0 : Nat) (x1 : Int) (x2 : Int) (g3 : Nat) (fi3 : Array Value) (ca3 : Array Value) (g3s : Nat) (fi3s : Array Value) (ca3s : Array Value) (q8 : Bool) (x9 : Int) (x10 : Int) (h : Hp) : Prop := RKL Tryd.prog O Tryd.f132 stk132_1 141 [0, 1, 2, 3, 8, 9, 10] [(.slice a0 n0 c0), (.int .i64 x1), (.int .i64 x2), (.func (.func g3s) fi3s ca3s), (.bool q8), (.int .i64 x9), (.int .i64 x10)] h Q
def I132_2 (O : CallF) (Q : Value → Hp → Prop) (a0 : Option Addr) (n0 : Nat) (c0 : Nat) (x1 : Int) (x2 : Int) (g3 : Nat) (fi3 : Array Value) (ca3 : Array Value) (g3s : Nat) (fi3s : Array Value) (ca3s : Array Value) (q8 : Bool) (x9 : Int) (x10 : Int) (x11 : Int) (h : Hp) : Prop := RKL Tryd.prog O Tryd.f132 stk132_2 141 [0, 1, 2, 3, 8, 9, 10, 11] [(.slice a0 n0 c0), (.int .i64 x1), (.int .i64 x2), (.func (.func g3s) fi3s ca3s), (.bool q8), (.int .i64 x9), (.int .i64 x10), (.int .i64 x11)] h Q
def I132_3 (O : CallF) (Q : Value → Hp → Prop) (a0 : Option Addr) (n0 : Nat) (c0 : Nat) (x1 : Int) (x2 : Int) (g3 : Nat) (fi3 : Array Value) (ca3 : Array Value) (g3s : Nat) (fi3s : Array Value) (ca3s : Array Value) (q8 : Bool) (x9 : Int) (x10 : Int) (x12 : Int) (h : Hp) : Prop := RKL Tryd.prog O Tryd.f132 stk132_3 141 [0, 1, 2, 3, 8, 9, 10, 12] [(.slice a0 n0 c0), (.int .i64 x1), (.int .i64 x2), (.func (.func g3s) fi3s ca3s), (.bool q8), (.int .i64 x9), (.int .i64 x10), (.int .i64 x12)] h Q
def T132 (O : CallF) (Q : Value → Hp → Prop) (a0 : Option Addr) (n0 : Nat) (c0 : Nat) (x1 : Int) (x2 : Int) (g3 : Nat) (fi3 : Array Value) (ca3 : Array Value) (h : Hp) : Prop :=
  I132_0 O Q a0 n0 c0 x1 x2 g3 fi3 ca3 g3 fi3 ca3 false (wrapF .i64 (x1 + 1)) 0 h
theorem rk132 {O Q} (a0 n0 c0 x1 x2 g3 fi3 ca3) {h : Hp} (hO : O 132 [(.slice a0 n0 c0), (.int .i64 x1), (.int .i64 x2), (.func (.func g3) fi3 ca3)] h = none) (hh : T132 O Q a0 n0 c0 x1 x2 g3 fi3 ca3 h) : Ret Tryd.prog O 132 [(.slice a0 n0 c0), (.int .i64 x1), (.int .i64 x2), (.func (.func g3) fi3 ca3)] h Q :=
  .of (c := b132) Tryd.func132 (by kernel_rfl) hO (V_ok (tb := lv132) (cuts := []) 500 (Eq.mp (by kernel_rfl) hh))
def T132_0 (O : CallF) (Q : Value → Hp → Prop) (a0 : Option Addr) (n0 : Nat) (c0 : Nat) (x1 : Int) (x2 : Int) (g3 : Nat) (fi3 : Array Value) (ca3 : Array Value) (g3s : Nat) (fi3s : Array Value) (ca3s : Array Value) (q8 : Bool) (x9 : Int) (x10 : Int) (h : Hp) : Prop :=
  vcond (ltI x10 5)
  (I132_1 O Q a0 n0 c0 x1 x2 g3 fi3 ca3 g3s fi3s ca3s q8 x9 x10 h)
  (Q (.bool false) h)
theorem I132_0.of {O Q} (a0 n0 c0 x1 x2 g3 fi3 ca3 g3s fi3s ca3s q8 x9 x10) {h : Hp} (hh : T132_0 O Q a0 n0 c0 x1 x2 g3 fi3 ca3 g3s fi3s ca3s q8 x9 x10 h) : I132_0 O Q a0 n0 c0 x1 x2 g3 fi3 ca3 g3s fi3s ca3s q8 x9 x10 h :=
  RKL.of (tb := lv132) (cuts := []) 500 fun _ => Eq.mp (by kernel_rfl) hh
def T132_1 (O : CallF) (Q : Value → Hp → Prop) (a0 : Option Addr) (n0 : Nat) (c0 : Nat) (x1 : Int) (x2 : Int) (g3 : Nat) (fi3 : Array Value) (ca3 : Array Value) (g3s : Nat) (fi3s : Array Value) (ca3s : Array Value) (q8 : Bool) (x9 : Int) (x10 : Int) (h : Hp) : Prop :=
  vcond (ltI x9 x2)
  (isNat x9 fun n201' =>
  isAddr a0 fun b202' f203' =>
  vreq (Nat.blt n201' n0)
  (∃ x204', readAt (h.rsv 18) b202' (f203' + (n201' * 1)) 1 = some [(.int .i64 x204')] ∧
  isNat (wrapF .i64 (x9 - 1)) fun n205' =>
  isAddr a0 fun b206' f207' =>
  vreq (Nat.blt n205' n0)
  (∃ x208', readAt (h.rsv 18) b206' (f207' + (n205' * 1)) 1 = some [(.int .i64 x208')] ∧
  ∃ x209', ∃ h210', EvC Tryd.prog O g3s (fi3s.toList ++ [(.int .i64 x204'), (.int .i64 x208')] ++ ca3s.toList) ((h.rsv 18).grd []) (.int .i64 x209') h210' ∧
  vcond (!(ltI x209' 0))
  (I132_1 O Q a0 n0 c0 x1 x2 g3 fi3 ca3 g3s fi3s ca3s q8 (wrapF .i64 (x9 + 1)) x10 (h210'.rst (h.rsv 18)))
  (vcond (eqI x9 x2)
  (Q (.bool true) (h210'.rst (h.rsv 18)))
  (vcond (ltI (wrapF .i64 (x2 - x1)) 50)
  (Q (.bool false) (h210'.rst (h.rsv 18)))
  (isNat (wrapF .i64 (x9 - 1)) fun n211' =>
  isAddr a0 fun b212' f213' =>
  vreq (Nat.blt n211' n0)
  (∃ x214', readAt ((h210'.rst (h.rsv 18)).rsv 18) b212' (f213' + (n211' * 1)) 1 = some [(.int .i64 x214')] ∧
  isNat x9 fun n215' =>
  isAddr a0 fun b216' f217' =>
  vreq (Nat.blt n215' n0)
  (∃ x218', readAt ((h210'.rst (h.rsv 18)).rsv 18) b216' (f217' + (n215' * 1)) 1 = some [(.int .i64 x218')] ∧
  isNat x9 fun n219' =>
  isAddr a0 fun b220' f221' =>
  vreq (Nat.blt n219' n0)
  (vreq (canW (((h210'.rst (h.rsv 18)).rsv 18).grd []) b220' (f221' + (n219' * 1)) [(.int .i64 x214')])
  (isNat (wrapF .i64 (x9 - 1)) fun n222' =>
  isAddr a0 fun b223' f224' =>
  vreq (Nat.blt n222' n0)
  (vreq (canW ((((((h210'.rst (h.rsv 18)).rsv 18).grd []).wr b220' (f221' + (n219' * 1)) [(.int .i64 x214')]).rst ((h210'.rst (h.rsv 18)).rsv 18)).grd []) b223' (f224' + (n222' * 1)) [(.int .i64 x218')])
  (vcond (!(ltI (wrapF .i64 (x9 - x1)) 2))
  (I132_2 O Q a0 n0 c0 x1 x2 g3 fi3 ca3 g3s fi3s ca3s q8 x9 x10 (wrapF .i64 (x9 - 1)) ((((((((h210'.rst (h.rsv 18)).rsv 18).grd []).wr b220' (f221' + (n219' * 1)) [(.int .i64 x214')]).rst ((h210'.rst (h.rsv 18)).rsv 18)).grd []).wr b223' (f224' + (n222' * 1)) [(.int .i64 x218')]).rst (((((h210'.rst (h.rsv 18)).rsv 18).grd []).wr b220' (f221' + (n219' * 1)) [(.int .i64 x214')]).rst ((h210'.rst (h.rsv 18)).rsv 18))))
  (vcond (!(ltI (wrapF .i64 (x2 - x9)) 2))
  (I132_3 O Q a0 n0 c0 x1 x2 g3 fi3 ca3 g3s fi3s ca3s q8 x9 x10 (wrapF .i64 (x9 + 1)) ((((((((h210'.rst (h.rsv 18)).rsv 18).grd []).wr b220' (f221' + (n219' * 1)) [(.int .i64 x214')]).rst ((h210'.rst (h.rsv 18)).rsv 18)).grd []).wr b223' (f224' + (n222' * 1)) [(.int .i64 x218')]).rst (((((h210'.rst (h.rsv 18)).rsv 18).grd []).wr b220' (f221' + (n219' * 1)) [(.int .i64 x214')]).rst ((h210'.rst (h.rsv 18)).rsv 18))))
  (I132_0 O Q a0 n0 c0 x1 x2 g3 fi3 ca3 g3s fi3s ca3s q8 x9 (wrapF .i64 (x10 + 1)) ((((((((h210'.rst (h.rsv 18)).rsv 18).grd []).wr b220' (f221' + (n219' * 1)) [(.int .i64 x214')]).rst ((h210'.rst (h.rsv 18)).rsv 18)).grd []).wr b223' (f224' + (n222' * 1)) [(.int .i64 x218')]).rst (((((h210'.rst (h.rsv 18)).rsv 18).grd []).wr b220' (f221' + (n219' * 1)) [(.int .i64 x214')]).rst ((h210'.rst (h.rsv 18)).rsv 18)))))))))))))))))
  (vcond (eqI x9 x2)
  (Q (.bool true) (h.rsv 18))
  (vcond (ltI (wrapF .i64 (x2 - x1)) 50)
  (Q (.bool false) (h.rsv 18))
  (isNat (wrapF .i64 (x9 - 1)) fun n225' =>
  isAddr a0 fun b226' f227' =>
  vreq (Nat.blt n225' n0)
  (∃ x228', readAt ((h.rsv 18).rsv 18) b226' (f227' + (n225' * 1)) 1 = some [(.int .i64 x228')] ∧
  isNat x9 fun n229' =>
  isAddr a0 fun b230' f231' =>
  vreq (Nat.blt n229' n0)
  (∃ x232', readAt ((h.rsv 18).rsv 18) b230' (f231' + (n229' * 1)) 1 = some [(.int .i64 x232')] ∧
  isNat x9 fun n233' =>
  isAddr a0 fun b234' f235' =>
  vreq (Nat.blt n233' n0)
  (vreq (canW (((h.rsv 18).rsv 18).grd []) b234' (f235' + (n233' * 1)) [(.int .i64 x228')])
  (isNat (wrapF .i64 (x9 - 1)) fun n236' =>
  isAddr a0 fun b237' f238' =>
  vreq (Nat.blt n236' n0)
  (vreq (canW ((((((h.rsv 18).rsv 18).grd []).wr b234' (f235' + (n233' * 1)) [(.int .i64 x228')]).rst ((h.rsv 18).rsv 18)).grd []) b237' (f238' + (n236' * 1)) [(.int .i64 x232')])
  (vcond (!(ltI (wrapF .i64 (x9 - x1)) 2))
  (I132_2 O Q a0 n0 c0 x1 x2 g3 fi3 ca3 g3s fi3s ca3s q8 x9 x10 (wrapF .i64 (x9 - 1)) ((((((((h.rsv 18).rsv 18).grd []).wr b234' (f235' + (n233' * 1)) [(.int .i64 x228')]).rst ((h.rsv 18).rsv 18)).grd []).wr b237' (f238' + (n236' * 1)) [(.int .i64 x232')]).rst (((((h.rsv 18).rsv 18).grd []).wr b234' (f235' + (n233' * 1)) [(.int .i64 x228')]).rst ((h.rsv 18).rsv 18))))
  (vcond (!(ltI (wrapF .i64 (x2 - x9)) 2))
  (I132_3 O Q a0 n0 c0 x1 x2 g3 fi3 ca3 g3s fi3s ca3s q8 x9 x10 (wrapF .i64 (x9 + 1)) ((((((((h.rsv 18).rsv 18).grd []).wr b234' (f235' + (n233' * 1)) [(.int .i64 x228')]).rst ((h.rsv 18).rsv 18)).grd []).wr b237' (f238' + (n236' * 1)) [(.int .i64 x232')]).rst (((((h.rsv 18).rsv 18).grd []).wr b234' (f235' + (n233' * 1)) [(.int .i64 x228')]).rst ((h.rsv 18).rsv 18))))
  (I132_0 O Q a0 n0 c0 x1 x2 g3 fi3 ca3 g3s fi3s ca3s q8 x9 (wrapF .i64 (x10 + 1)) ((((((((h.rsv 18).rsv 18).grd []).wr b234' (f235' + (n233' * 1)) [(.int .i64 x228')]).rst ((h.rsv 18).rsv 18)).grd []).wr b237' (f238' + (n236' * 1)) [(.int .i64 x232')]).rst (((((h.rsv 18).rsv 18).grd []).wr b234' (f235' + (n233' * 1)) [(.int .i64 x228')]).rst ((h.rsv 18).rsv 18))))))))))))))
theorem I132_1.of {O Q} (a0 n0 c0 x1 x2 g3 fi3 ca3 g3s fi3s ca3s q8 x9 x10) {h : Hp} (hh : T132_1 O Q a0 n0 c0 x1 x2 g3 fi3 ca3 g3s fi3s ca3s q8 x9 x10 h) : I132_1 O Q a0 n0 c0 x1 x2 g3 fi3 ca3 g3s fi3s ca3s q8 x9 x10 h :=
  RKL.of (tb := lv132) (cuts := []) 500 fun _ => Eq.mp (by kernel_rfl) hh
/-! slices.medianCmpFunc[int] -/
noncomputable def b144 : Code := (Tryd.f144.body).getD .skip
def lv144 : List (Nat × List Nat) := []
def T144 (O : CallF) (Q : Value → Hp → Prop) (a0 : Option Addr) (n0 : Nat) (c0 : Nat) (x1 : Int) (x2 : Int) (x3 : Int) (b4 : Nat) (f4 : Nat) (g5 : Nat) (fi5 : Array Value) (ca5 : Array Value) (h : Hp) : Prop :=
  ∃ x1', ∃ x2', ∃ h3', EvC Tryd.prog O 145 [(.slice a0 n0 c0), (.int .i64 x1), (.int .i64 x2), (.pointer (some ⟨b4, f4, none⟩)), (.func (.func g5) fi5 ca5)] h (.tuple #[(.int .i64 x1'), (.int .i64 x2')]) h3' ∧
  ∃ x4', ∃ x5', ∃ h6', EvC Tryd.prog O 145 [(.slice a0 n0 c0), (.int .i64 x2'), (.int .i64 x3), (.pointer (some ⟨b4, f4, none⟩)), (.func (.func g5) fi5 ca5)] h3' (.tuple #[(.int .i64 x4'), (.int .i64 x5')]) h6' ∧
  ∃ x7', ∃ x8', ∃ h9', EvC Tryd.prog O 145 [(.slice a0 n0 c0), (.int .i64 x1'), (.int .i64 x4'), (.pointer (some ⟨b4, f4, none⟩)), (.func (.func g5) fi5 ca5)] h6' (.tuple #[(.int .i64 x7'), (.int .i64 x8')]) h9' ∧
  Q (.int .i64 x8') h9'
theorem rk144 {O Q} (a0 n0 c0 x1 x2 x3 b4 f4 g5 fi5 ca5) {h : Hp} (hO : O 144 [(.slice a0 n0 c0), (.int .i64 x1), (.int .i64 x2), (.int .i64 x3), (.pointer (some ⟨b4, f4, none⟩)), (.func (.func g5) fi5 ca5)] h = none) (hh : T144 O Q a0 n0 c0 x1 x2 x3 b4 f4 g5 fi5 ca5 h) : Ret Tryd.prog O 144 [(.slice a0 n0 c0), (.int .i64 x1), (.int .i64 x2), (.int .i64 x3), (.pointer (some ⟨b4, f4, none⟩)), (.func (.func g5) fi5 ca5)] h Q :=
  .of (c := b144) Tryd.func144 (by kernel_rfl) hO (V_ok (tb := lv144) (cuts := []) 500 (Eq.mp (by kernel_rfl) hh))
/-! slices.order2CmpFunc[int] -/
noncomputable def b145 : Code := (Tryd.f145.body).getD .skip
def lv145 : List (Nat × List Nat) := []
def T145 (O : CallF) (Q : Value → Hp → Prop) (a0 : Option Addr) (n0 : Nat) (c0 : Nat) (x1 : Int) (x2 : Int) (b3 : Nat) (f3 : Nat) (g4 : Nat) (fi4 : Array Value) (ca4 : Array Value) (h : Hp) : Prop :=
  isNat x2 fun n1' =>
  isAddr a0 fun b2' f3' =>
  vreq (Nat.blt n1' n0)
  (∃ x4', readAt (h.rsv 11) b2' (f3' + (n1' * 1)) 1 = some [(.int .i64 x4')] ∧
  isNat x1 fun n5' =>
  isAddr a0 fun b6' f7' =>
  vreq (Nat.blt n5' n0)
  (∃ x8', readAt (h.rsv 11) b6' (f7' + (n5' * 1)) 1 = some [(.int .i64 x8')] ∧
  ∃ x9', ∃ h10', EvC Tryd.prog O g4 (fi4.toList ++ [(.int .i64 x4'), (.int .i64 x8')] ++ ca4.toList) ((h.rsv 11).grd []) (.int .i64 x9') h10' ∧
  vcond (ltI x9' 0)
  (∃ x11', readAt (h10'.rst (h.rsv 11)) b3 f3 1 = some [(.int .i64 x11')] ∧
  vreq (canW (h10'.rst (h.rsv 11)) b3 f3 [(.int .i64 (wrapF .i64 (x11' + 1)))])
  (Q (.tuple #[(.int .i64 x2), (.int .i64 x1)]) ((h10'.rst (h.rsv 11)).wr b3 f3 [(.int .i64 (wrapF .i64 (x11' + 1)))])))
  (Q (.tuple #[(.int .i64 x1), (.int .i64 x2)]) (h10'.rst (h.rsv 11)))))
theorem rk145 {O Q} (a0 n0 c0 x1 x2 b3 f3 g4 fi4 ca4) {h : Hp} (hO : O 145 [(.slice a0 n0 c0), (.int .i64 x1), (.int .i64 x2), (.pointer (some ⟨b3, f3, none⟩)), (.func (.func g4) fi4 ca4)] h = none) (hh : T145 O Q a0 n0 c0 x1 x2 b3 f3 g4 fi4 ca4 h) : Ret Tryd.prog O 145 [(.slice a0 n0 c0), (.int .i64 x1), (.int .i64 x2), (.pointer (some ⟨b3, f3, none⟩)), (.func (.func g4) fi4 ca4)] h Q :=
  .of (c := b145) Tryd.func145 (by kernel_rfl) hO (V_ok (tb := lv145) (cuts := []) 500 (Eq.mp (by kernel_rfl) hh))
/-! math/bits.Len -/
noncomputable def b116 : Code := (Tryd.f116.body).getD .skip
def lv116 : List (Nat × List Nat) := []
def T116 (O : CallF) (Q : Value → Hp → Prop) (x0 : Int) (h : Hp) : Prop :=
  ∃ x1', ∃ h2', EvC Tryd.prog O 136 [(.int .u64 x0)] h (.int .i64 x1') h2' ∧
  Q (.int .i64 x1') h2'
theorem rk116 {O Q} (x0) {h : Hp} (hO : O 116 [(.int .u64 x0)] h = none) (hh : T116 O Q x0 h) : Ret Tryd.prog O 116 [(.int .u64 x0)] h Q :=
  .of (c := b116) Tryd.func116 (by kernel_rfl) hO (V_ok (tb := lv116) (cuts := []) 500 (Eq.mp (by kernel_rfl) hh))
/-! math/bits.Len64 -/
noncomputable def b136 : Code := (Tryd.f136.body).getD .skip
def lv136 : List (Nat × List Nat) := []
def T136 (O : CallF) (Q : Value → Hp → Prop) (x0 : Int) (h : Hp) : Prop :=
  vcond (!(ltI x0 4294967296))
  (vcond (!(ltI (shrF .u64 x0 32) 65536))
  (vcond (!(ltI (shrF .u64 (shrF .u64 x0 32) 16) 256))
  (isNat (wrapF .u8 (shrF .u64 (shrF .u64 (shrF .u64 x0 32) 16) 8)) fun n1' =>
  vreq (Nat.blt n1' 256)
  (Q (.int .i64 (wrapF .i64 (56 + (wrapF .i64 (byteI (ByteArray.mk #[0, 1, 2, 2, 3, 3, 3, 3, 4, 4, 4, 4, 4, 4, 4, 4, 5, 5, 5, 5, 5, 5, 5, 5, 5, 5, 5, 5, 5, 5, 5, 5, 6, 6, 6, 6, 6, 6, 6, 6, 6, 6, 6, 6, 6, 6, 6, 6, 6, 6, 6, 6, 6, 6, 6, 6, 6, 6, 6, 6, 6, 6, 6, 6, 7, 7, 7, 7, 7, 7, 7, 7, 7, 7, 7, 7, 7, 7, 7, 7, 7, 7, 7, 7, 7, 7, 7, 7, 7, 7, 7, 7, 7, 7, 7, 7, 7, 7, 7, 7, 7, 7, 7, 7, 7, 7, 7, 7, 7, 7, 7, 7, 7, 7, 7, 7, 7, 7, 7, 7, 7, 7, 7, 7, 7, 7, 7, 7, 8, 8, 8, 8, 8, 8, 8, 8, 8, 8, 8, 8, 8, 8, 8, 8, 8, 8, 8, 8, 8, 8, 8, 8, 8, 8, 8, 8, 8, 8, 8, 8, 8, 8, 8, 8, 8, 8, 8, 8, 8, 8, 8, 8, 8, 8, 8, 8, 8, 8, 8, 8, 8, 8, 8, 8, 8, 8, 8, 8, 8, 8, 8, 8, 8, 8, 8, 8, 8, 8, 8, 8, 8, 8, 8, 8, 8, 8, 8, 8, 8, 8, 8, 8, 8, 8, 8, 8, 8, 8, 8, 8, 8, 8, 8, 8, 8, 8, 8, 8, 8, 8, 8, 8, 8, 8, 8, 8, 8, 8, 8, 8, 8, 8, 8, 8, 8, 8, 8, 8, 8, 8, 8, 8, 8, 8, 8, 8]) n1'))))) h))
  (isNat (wrapF .u8 (shrF .u64 (shrF .u64 x0 32) 16)) fun n2' =>
  vreq (Nat.blt n2' 256)
  (Q (.int .i64 (wrapF .i64 (48 + (wrapF .i64 (byteI (ByteArray.mk #[0, 1, 2, 2, 3, 3, 3, 3, 4, 4, 4, 4, 4, 4, 4, 4, 5, 5, 5, 5, 5, 5, 5, 5, 5, 5, 5, 5, 5, 5, 5, 5, 6, 6, 6, 6, 6, 6, 6, 6, 6, 6, 6, 6, 6, 6, 6, 6, 6, 6, 6, 6, 6, 6, 6, 6, 6, 6, 6, 6, 6, 6, 6, 6, 7, 7, 7, 7, 7, 7, 7, 7, 7, 7, 7, 7, 7, 7, 7, 7, 7, 7, 7, 7, 7, 7, 7, 7, 7, 7, 7, 7, 7, 7, 7, 7, 7, 7, 7, 7, 7, 7, 7, 7, 7, 7, 7, 7, 7, 7, 7, 7, 7, 7, 7, 7, 7, 7, 7, 7, 7, 7, 7, 7, 7, 7, 7, 7, 8, 8, 8, 8, 8, 8, 8, 8, 8, 8, 8, 8, 8, 8, 8, 8, 8, 8, 8, 8, 8, 8, 8, 8, 8, 8, 8, 8, 8, 8, 8, 8, 8, 8, 8, 8, 8, 8, 8, 8, 8, 8, 8, 8, 8, 8, 8, 8, 8, 8, 8, 8, 8, 8, 8, 8, 8, 8, 8, 8, 8, 8, 8, 8, 8, 8, 8, 8, 8, 8, 8, 8, 8, 8, 8, 8, 8, 8, 8, 8, 8, 8, 8, 8, 8, 8, 8, 8, 8, 8, 8, 8, 8, 8, 8, 8, 8, 8, 8, 8, 8, 8, 8, 8, 8, 8, 8, 8, 8, 8, 8, 8, 8, 8, 8, 8, 8, 8, 8, 8, 8, 8, 8, 8, 8, 8, 8, 8]) n2'))))) h)))
  (vcond (!(ltI (shrF .u64 x0 32) 256))
  (isNat (wrapF .u8 (shrF .u64 (shrF .u64 x0 32) 8)) fun n3' =>
  vreq (Nat.blt n3' 256)
  (Q (.int .i64 (wrapF .i64 (40 + (wrapF .i64 (byteI (ByteArray.mk #[0, 1, 2, 2, 3, 3, 3, 3, 4, 4, 4, 4, 4, 4, 4, 4, 5, 5, 5, 5, 5, 5, 5, 5, 5, 5, 5, 5, 5, 5, 5, 5, 6, 6, 6, 6, 6, 6, 6, 6, 6, 6, 6, 6, 6, 6, 6, 6, 6, 6, 6, 6, 6, 6, 6, 6, 6, 6, 6, 6, 6, 6, 6, 6, 7, 7, 7, 7, 7, 7, 7, 7, 7, 7, 7, 7, 7, 7, 7, 7, 7, 7, 7, 7, 7, 7, 7, 7, 7, 7, 7, 7, 7, 7, 7, 7, 7, 7, 7, 7, 7, 7, 7, 7, 7, 7, 7, 7, 7, 7, 7, 7, 7, 7, 7, 7, 7, 7, 7, 7, 7, 7, 7, 7, 7, 7, 7, 7, 8, 8, 8, 8, 8, 8, 8, 8, 8, 8, 8, 8, 8, 8, 8, 8, 8, 8, 8, 8, 8, 8, 8, 8, 8, 8, 8, 8, 8, 8, 8, 8, 8, 8, 8, 8, 8, 8, 8, 8, 8, 8, 8, 8, 8, 8, 8, 8, 8, 8, 8, 8, 8, 8, 8, 8, 8, 8, 8, 8, 8, 8, 8, 8, 8, 8, 8, 8, 8, 8, 8, 8, 8, 8, 8, 8, 8, 8, 8, 8, 8, 8, 8, 8, 8, 8, 8, 8, 8, 8, 8, 8, 8, 8, 8, 8, 8, 8, 8, 8, 8, 8, 8, 8, 8, 8, 8, 8, 8, 8, 8, 8, 8, 8, 8, 8, 8, 8, 8, 8, 8, 8, 8, 8, 8, 8, 8, 8]) n3'))))) h))
  (isNat (wrapF .u8 (shrF .u64 x0 32)) fun n4' =>
  vreq (Nat.blt n4' 256)
  (Q (.int .i64 (wrapF .i64 (32 + (wrapF .i64 (byteI (ByteArray.mk #[0, 1, 2, 2, 3, 3, 3, 3, 4, 4, 4, 4, 4, 4, 4, 4, 5, 5, 5, 5, 5, 5, 5, 5, 5, 5, 5, 5, 5, 5, 5, 5, 6, 6, 6, 6, 6, 6, 6, 6, 6, 6, 6, 6, 6, 6, 6, 6, 6, 6, 6, 6, 6, 6, 6, 6, 6, 6, 6, 6, 6, 6, 6, 6, 7, 7, 7, 7, 7, 7, 7, 7, 7, 7, 7, 7, 7, 7, 7, 7, 7, 7, 7, 7, 7, 7, 7, 7, 7, 7, 7, 7, 7, 7, 7, 7, 7, 7, 7, 7, 7, 7, 7, 7, 7, 7, 7, 7, 7, 7, 7, 7, 7, 7, 7, 7, 7, 7, 7, 7, 7, 7, 7, 7, 7, 7, 7, 7, 8, 8, 8, 8, 8, 8, 8, 8, 8, 8, 8, 8, 8, 8, 8, 8, 8, 8, 8, 8, 8, 8, 8, 8, 8, 8, 8, 8, 8, 8, 8, 8, 8, 8, 8, 8, 8, 8, 8, 8, 8, 8, 8, 8, 8, 8, 8, 8, 8, 8, 8, 8, 8, 8, 8, 8, 8, 8, 8, 8, 8, 8, 8, 8, 8, 8, 8, 8, 8, 8, 8, 8, 8, 8, 8, 8, 8, 8, 8, 8, 8, 8, 8, 8, 8, 8, 8, 8, 8, 8, 8, 8, 8, 8, 8, 8, 8, 8, 8, 8, 8, 8, 8, 8, 8, 8, 8, 8, 8, 8, 8, 8, 8, 8, 8, 8, 8, 8, 8, 8, 8, 8, 8, 8, 8, 8, 8, 8]) n4'))))) h))))
  (vcond (!(ltI x0 65536))
  (vcond (!(ltI (shrF .u64 x0 16) 256))
  (isNat (wrapF .u8 (shrF .u64 (shrF .u64 x0 16) 8)) fun n5' =>
  vreq (Nat.blt n5' 256)
  (Q (.int .i64 (wrapF .i64 (24 + (wrapF .i64 (byteI (ByteArray.mk #[0, 1, 2, 2, 3, 3, 3, 3, 4, 4, 4, 4, 4, 4, 4, 4, 5, 5, 5, 5, 5, 5, 5, 5, 5, 5, 5, 5, 5, 5, 5, 5, 6, 6, 6, 6, 6, 6, 6, 6, 6, 6, 6, 6, 6, 6, 6, 6, 6, 6, 6, 6, 6, 6, 6, 6, 6, 6, 6, 6, 6, 6, 6, 6, 7, 7, 7, 7, 7, 7, 7, 7, 7, 7, 7, 7, 7, 7, 7, 7, 7, 7, 7, 7, 7, 7, 7, 7, 7, 7, 7, 7, 7, 7, 7, 7, 7, 7, 7, 7, 7, 7, 7, 7, 7, 7, 7, 7, 7, 7, 7, 7, 7, 7, 7, 7, 7, 7, 7, 7, 7, 7, 7, 7, 7, 7, 7, 7, 8, 8, 8, 8, 8, 8, 8, 8, 8, 8, 8, 8, 8, 8, 8, 8, 8, 8, 8, 8, 8, 8, 8, 8, 8, 8, 8, 8, 8, 8, 8, 8, 8, 8, 8, 8, 8, 8, 8, 8, 8, 8, 8, 8, 8, 8, 8, 8, 8, 8, 8, 8, 8, 8, 8, 8, 8, 8, 8, 8, 8, 8, 8, 8, 8, 8, 8, 8, 8, 8, 8, 8, 8, 8, 8, 8, 8, 8, 8, 8, 8, 8, 8, 8, 8, 8, 8, 8, 8, 8, 8, 8, 8, 8, 8, 8, 8, 8, 8, 8, 8, 8, 8, 8, 8, 8, 8, 8, 8, 8, 8, 8, 8, 8, 8, 8, 8, 8, 8, 8, 8, 8, 8, 8, 8, 8, 8, 8]) n5'))))) h))
  (isNat (wrapF .u8 (shrF .u64 x0 16)) fun n6' =>
  vreq (Nat.blt n6' 256)
  (Q (.int .i64 (wrapF .i64 (16 + (wrapF .i64 (byteI (ByteArray.mk #[0, 1, 2, 2, 3, 3, 3, 3, 4, 4, 4, 4, 4, 4, 4, 4, 5, 5, 5, 5, 5, 5, 5, 5, 5, 5, 5, 5, 5, 5, 5, 5, 6, 6, 6, 6, 6, 6, 6, 6, 6, 6, 6, 6, 6, 6, 6, 6, 6, 6, 6, 6, 6, 6, 6, 6, 6, 6, 6, 6, 6, 6, 6, 6, 7, 7, 7, 7, 7, 7, 7, 7, 7, 7, 7, 7, 7, 7, 7, 7, 7, 7, 7, 7, 7, 7, 7, 7, 7, 7, 7, 7, 7, 7, 7, 7, 7, 7, 7, 7, 7, 7, 7, 7, 7, 7, 7, 7, 7, 7, 7, 7, 7, 7, 7, 7, 7, 7, 7, 7, 7, 7, 7, 7, 7, 7, 7, 7, 8, 8, 8, 8, 8, 8, 8, 8, 8, 8, 8, 8, 8, 8, 8, 8, 8, 8, 8, 8, 8, 8, 8, 8, 8, 8, 8, 8, 8, 8, 8, 8, 8, 8, 8, 8, 8, 8, 8, 8, 8, 8, 8, 8, 8, 8, 8, 8, 8, 8, 8, 8, 8, 8, 8, 8, 8, 8, 8, 8, 8, 8, 8, 8, 8, 8, 8, 8, 8, 8, 8, 8, 8, 8, 8, 8, 8, 8, 8, 8, 8, 8, 8, 8, 8, 8, 8, 8, 8, 8, 8, 8, 8, 8, 8, 8, 8, 8, 8, 8, 8, 8, 8, 8, 8, 8, 8, 8, 8, 8, 8, 8, 8, 8, 8, 8, 8, 8, 8, 8, 8, 8, 8, 8, 8, 8, 8, 8]) n6'))))) h)))
  (vcond (!(ltI x0 256))
  (isNat (wrapF .u8 (shrF .u64 x0 8)) fun n7' =>
  vreq (Nat.blt n7' 256)
  (Q (.int .i64 (wrapF .i64 (8 + (wrapF .i64 (byteI (ByteArray.mk #[0, 1, 2, 2, 3, 3, 3, 3, 4, 4, 4, 4, 4, 4, 4, 4, 5, 5, 5, 5, 5, 5, 5, 5, 5, 5, 5, 5, 5, 5, 5, 5, 6, 6, 6, 6, 6, 6, 6, 6, 6, 6, 6, 6, 6, 6, 6, 6, 6, 6, 6, 6, 6, 6, 6, 6, 6, 6, 6, 6, 6, 6, 6, 6, 7, 7, 7, 7, 7, 7, 7, 7, 7, 7, 7, 7, 7, 7, 7, 7, 7, 7, 7, 7, 7, 7, 7, 7, 7, 7, 7, 7, 7, 7, 7, 7, 7, 7, 7, 7, 7, 7, 7, 7, 7, 7, 7, 7, 7, 7, 7, 7, 7, 7, 7, 7, 7, 7, 7, 7, 7, 7, 7, 7, 7, 7, 7, 7, 8, 8, 8, 8, 8, 8, 8, 8, 8, 8, 8, 8, 8, 8, 8, 8, 8, 8, 8, 8, 8, 8, 8, 8, 8, 8, 8, 8, 8, 8, 8, 8, 8, 8, 8, 8, 8, 8, 8, 8, 8, 8, 8, 8, 8, 8, 8, 8, 8, 8, 8, 8, 8, 8, 8, 8, 8, 8, 8, 8, 8, 8, 8, 8, 8, 8, 8, 8, 8, 8, 8, 8, 8, 8, 8, 8, 8, 8, 8, 8, 8, 8, 8, 8, 8, 8, 8, 8, 8, 8, 8, 8, 8, 8, 8, 8, 8, 8, 8, 8, 8, 8, 8, 8, 8, 8, 8, 8, 8, 8, 8, 8, 8, 8, 8, 8, 8, 8, 8, 8, 8, 8, 8, 8, 8, 8, 8, 8]) n7'))))) h))
  (isNat (wrapF .u8 x0) fun n8' =>
  vreq (Nat.blt n8' 256)
  (Q (.int .i64 (wrapF .i64 (0 + (wrapF .i64 (byteI (ByteArray.mk #[0, 1, 2, 2, 3, 3, 3, 3, 4, 4, 4, 4, 4, 4, 4, 4, 5, 5, 5, 5, 5, 5, 5, 5, 5, 5, 5, 5, 5, 5, 5, 5, 6, 6, 6, 6, 6, 6, 6, 6, 6, 6, 6, 6, 6, 6, 6, 6, 6, 6, 6, 6, 6, 6, 6, 6, 6, 6, 6, 6, 6, 6, 6, 6, 7, 7, 7, 7, 7, 7, 7, 7, 7, 7, 7, 7, 7, 7, 7, 7, 7, 7, 7, 7, 7, 7, 7, 7, 7, 7, 7, 7, 7, 7, 7, 7, 7, 7, 7, 7, 7, 7, 7, 7, 7, 7, 7, 7, 7, 7, 7, 7, 7, 7, 7, 7, 7, 7, 7, 7, 7, 7, 7, 7, 7, 7, 7, 7, 8, 8, 8, 8, 8, 8, 8, 8, 8, 8, 8, 8, 8, 8, 8, 8, 8, 8, 8, 8, 8, 8, 8, 8, 8, 8, 8, 8, 8, 8, 8, 8, 8, 8, 8, 8, 8, 8, 8, 8, 8, 8, 8, 8, 8, 8, 8, 8, 8, 8, 8, 8, 8, 8, 8, 8, 8, 8, 8, 8, 8, 8, 8, 8, 8, 8, 8, 8, 8, 8, 8, 8, 8, 8, 8, 8, 8, 8, 8, 8, 8, 8, 8, 8, 8, 8, 8, 8, 8, 8, 8, 8, 8, 8, 8, 8, 8, 8, 8, 8, 8, 8, 8, 8, 8, 8, 8, 8, 8, 8, 8, 8, 8, 8, 8, 8, 8, 8, 8, 8, 8, 8, 8, 8, 8, 8, 8, 8]) n8'))))) h))))
theorem rk136 {O Q} (x0) {h : Hp} (hO : O 136 [(.int .u64 x0)] h = none) (hh : T136 O Q x0 h) : Ret Tryd.prog O 136 [(.int .u64 x0)] h Q :=
  .of (c := b136) Tryd.func136 (by kernel_rfl) hO (V_ok (tb := lv136) (cuts := []) 500 (Eq.mp (by kernel_rfl) hh))
end Go.Proofs.YtfgfhplgnfbaaaaDoor
/- Contracts of library functions that sort, where the list is sorted. -/
namespace Go.Proofs.YtfgfhplgnfbaaaaDoor
open Go Go.Ev
section
variable {O : CallF} (hO : Oth O)
include hO
theorem ct123 {x y : Int} (hx : Lit x) (hy : Lit y) (h : Hp) : EvT O 123 [.int .i64 x, .int .i64 y] h (.int .i64 ((x.natAbs : Int) - (y.natAbs : Int))) h := by
  refine EvC.of_ret (rk123 _ _ (hO _ _ _ (by decide)) ?_)
  unfold T123
  refine ⟨_, _, ct94 hO x h, _, _, ct94 hO y h, ?_, rfl⟩
  have := hx.2; have := hy.2
  rw [varI_lit2 hx, varI_lit2 hy, wrap64 (by omega) (by omega)]
theorem Dif.at {l : List Int} (h : Dif l) {k : Nat} (hk : k + 1 < l.length) : l[k].natAbs < l[k + 1].natAbs := by
  have _ := hO
  exact List.pairwise_iff_getElem.1 h k (k + 1) (by omega) hk (by omega)
theorem lp127_0 {h₀ : Hp} {a0 : Option Addr} {n0 c0 : Nat} {l : List Int} (X : IntsAt h₀ a0 n0 l) (hl : l.length < 1000) (hlit : ∀ x ∈ l, Lit x) (hd : Dif l) :
    ∀ (d k : Nat), k + d = l.length → ∀ {h : Hp}, Kp h₀.nx h₀ h → I127_0 O (fun v h' => v = undef ∧ Kp h₀.nx h₀ h') a0 n0 c0 0 (Int.ofNat n0) 123 #[] #[] 123 #[] #[] (Int.ofNat (k + 1)) h := by
  have hn := X.1
  intro d
  induction d with
  | zero =>
    intro k hk h K
    refine I127_0.of _ _ _ _ _ _ _ _ _ _ _ _ ?_
    intros
    unfold T127_0
    exact vcond_f (by rw [ltI_nat]; exact blt_f (by omega)) ⟨rfl, K⟩
  | succ d ih =>
    intro k hk h K
    refine I127_0.of _ _ _ _ _ _ _ _ _ _ _ _ ?_
    intros
    unfold T127_0
    by_cases hlast : k + 1 = l.length
    · exact vcond_f (by rw [ltI_nat]; exact blt_f (by omega)) ⟨rfl, K⟩
    have inner : I127_1 O (fun v h' => v = undef ∧ Kp h₀.nx h₀ h') a0 n0 c0 0 (Int.ofNat n0) 123 #[] #[] 123 #[] #[] (Int.ofNat (k + 1)) (Int.ofNat (k + 1)) h := by
      refine I127_1.of _ _ _ _ _ _ _ _ _ _ _ _ _ ?_
      intros
      unfold T127_1
      have k17 : Kp h₀.nx h₀ (h.rsv 17) := K.rsv 17
      have e1 : wrapF .i64 (Int.ofNat (k + 1) - 1) = Int.ofNat k := by rw [wrap64] <;> simp only [Int.ofNat_eq_natCast] <;> omega
      have hlt := Dif.at hO hd (k := k) (by omega)
      refine vcond_t (ltI_t (by simp only [Int.ofNat_eq_natCast]; omega)) (isNat_of (X.get (k := k + 1) (by omega) fun b off _ hb hrd => vreq_t (blt_t (by omega)) ⟨_, by rw [readAt_kp k17 hb]; exact hrd, ?_⟩))
      rw [e1]
      refine isNat_of (X.get (k := k) (by omega) fun b off _ hb hrd => vreq_t (blt_t (by omega)) ⟨_, by rw [readAt_kp k17 hb]; exact hrd, _, _, ct123 hO (hlit _ (List.getElem_mem _)) (hlit _ (List.getElem_mem _)) _, vcond_f (ltI_f (by omega)) ?_⟩)
      rw [wrap_succ (by omega)]
      exact ih (k + 1) (by omega) k17 ..
    exact vcond_t (by rw [ltI_nat]; exact blt_t (by omega)) (inner ..)
theorem ct127 {h : Hp} {a0 : Option Addr} {n0 c0 : Nat} {l : List Int} (X : IntsAt h a0 n0 l) (hl : l.length < 1000) (hlit : ∀ x ∈ l, Lit x) (hd : Dif l) :
    Ret Tryd.prog O 127 [.slice a0 n0 c0, .int .i64 0, .int .i64 (Int.ofNat n0), .func (.func 123) #[] #[]] h fun v h' => v = undef ∧ Kp h.nx h h' := by
  refine rk127 _ _ _ _ _ _ _ _ (hO _ _ _ (by decide)) ?_
  unfold T127
  exact lp127_0 hO X hl hlit hd l.length 0 (by omega) (.refl _ _) ..
theorem lp132 {h₀ : Hp} {a0 : Option Addr} {n0 c0 : Nat} {l : List Int} (X : IntsAt h₀ a0 n0 l) (hl : l.length < 1000) (hlit : ∀ x ∈ l, Lit x) (hd : Dif l) :
    ∀ (d k : Nat), k + 1 + d = l.length → ∀ {h : Hp}, Kp h₀.nx h₀ h → I132_1 O (fun v h' => v = .bool true ∧ Kp h₀.nx h₀ h') a0 n0 c0 0 (Int.ofNat n0) 123 #[] #[] 123 #[] #[] false (Int.ofNat (k + 1)) 0 h := by
  have hn := X.1
  intro d
  induction d with
  | zero =>
    intro k hk h K
    refine I132_1.of _ _ _ _ _ _ _ _ _ _ _ _ _ _ ?_
    intros
    unfold T132_1
    exact vcond_f (by rw [ltI_nat]; exact blt_f (by omega)) (vcond_t (eqI_t (by rw [show n0 = k + 1 by omega])) ⟨rfl, K.rsv 18⟩)
  | succ d ih =>
    intro k hk h K
    refine I132_1.of _ _ _ _ _ _ _ _ _ _ _ _ _ _ ?_
    intros
    unfold T132_1
    have k18 : Kp h₀.nx h₀ (h.rsv 18) := K.rsv 18
    have e1 : wrapF .i64 (Int.ofNat (k + 1) - 1) = Int.ofNat k := by rw [wrap64] <;> simp only [Int.ofNat_eq_natCast] <;> omega
    have hlt := Dif.at hO hd (k := k) (by omega)
    refine vcond_t (by rw [ltI_nat]; exact blt_t (by omega)) (isNat_of (X.get (k := k + 1) (by omega) fun b off _ hb hrd => vreq_t (blt_t (by omega)) ⟨_, by rw [readAt_kp k18 hb]; exact hrd, ?_⟩))
    rw [e1]
    refine isNat_of (X.get (k := k) (by omega) fun b off _ hb hrd => vreq_t (blt_t (by omega)) ⟨_, by rw [readAt_kp k18 hb]; exact hrd, _, _, ct123 hO (hlit _ (List.getElem_mem _)) (hlit _ (List.getElem_mem _)) _, vcond_t (by rw [ltI_f (by omega)]; rfl) ?_⟩)
    rw [wrap_succ (by omega)]
    exact ih (k + 1) (by omega) k18 ..
theorem ct132 {h : Hp} {a0 : Option Addr} {n0 c0 : Nat} {l : List Int} (X : IntsAt h a0 n0 l) (hl : l.length < 1000) (h1 : 1 ≤ l.length) (hlit : ∀ x ∈ l, Lit x) (hd : Dif l) :
    Ret Tryd.prog O 132 [.slice a0 n0 c0, .int .i64 0, .int .i64 (Int.ofNat n0), .func (.func 123) #[] #[]] h fun v h' => v = .bool true ∧ Kp h.nx h h' := by
  refine rk132 _ _ _ _ _ _ _ _ (hO _ _ _ (by decide)) ?_
  unfold T132
  have i0 : I132_0 O (fun v h' => v = .bool true ∧ Kp h.nx h h') a0 n0 c0 0 (Int.ofNat n0) 123 #[] #[] 123 #[] #[] false 1 0 h := by
    refine I132_0.of _ _ _ _ _ _ _ _ _ _ _ _ _ _ ?_
    intros
    unfold T132_0
    exact vcond_t rfl (lp132 hO X hl hlit hd (l.length - 1) 0 (by omega) (.refl _ _) ..)
  exact i0 ..
theorem Dif.lt {l : List Int} (h : Dif l) {i j : Nat} (hij : i < j) (hj : j < l.length) : l[i].natAbs < l[j].natAbs := by
  have _ := hO
  exact List.pairwise_iff_getElem.1 h i j (by omega) hj hij
theorem ct145 {h₀ h : Hp} (K : Kp h₀.nx h₀ h) {a0 : Option Addr} {n0 c0 : Nat} {l : List Int} (X : IntsAt h₀ a0 n0 l) (hlit : ∀ x ∈ l, Lit x) (hd : Dif l) {i j : Nat} (hij : i < j) (hj : j < l.length) {b : Nat} :
    Ret Tryd.prog O 145 [.slice a0 n0 c0, .int .i64 (Int.ofNat i), .int .i64 (Int.ofNat j), .pointer (some ⟨b, 0, none⟩), .func (.func 123) #[] #[]] h fun v h' => v = .tuple #[.int .i64 (Int.ofNat i), .int .i64 (Int.ofNat j)] ∧ Kp h.nx h h' := by
  refine rk145 _ _ _ _ _ _ _ _ _ _ (hO _ _ _ (by decide)) ?_
  unfold T145
  have hn := X.1
  have k11 : Kp h₀.nx h₀ (h.rsv 11) := K.rsv 11
  have hlt := Dif.lt hO hd hij hj
  exact isNat_of (X.get (k := j) hj fun b off _ hb hrd => vreq_t (blt_t (by omega)) ⟨_, by rw [readAt_kp k11 hb]; exact hrd, isNat_of (X.get (k := i) (by omega) fun b off _ hb hrd => vreq_t (blt_t (by omega)) ⟨_, by rw [readAt_kp k11 hb]; exact hrd, _, _, ct123 hO (hlit _ (List.getElem_mem _)) (hlit _ (List.getElem_mem _)) _, vcond_f (ltI_f (by omega)) ⟨rfl, (Kp.refl _ h).rsv 11⟩⟩)⟩)
theorem ct144 {h₀ h : Hp} (K : Kp h₀.nx h₀ h) {a0 : Option Addr} {n0 c0 : Nat} {l : List Int} (X : IntsAt h₀ a0 n0 l) (hlit : ∀ x ∈ l, Lit x) (hd : Dif l) {i j k : Nat} (hij : i < j) (hjk : j < k) (hk : k < l.length) {b : Nat} :
    Ret Tryd.prog O 144 [.slice a0 n0 c0, .int .i64 (Int.ofNat i), .int .i64 (Int.ofNat j), .int .i64 (Int.ofNat k), .pointer (some ⟨b, 0, none⟩), .func (.func 123) #[] #[]] h fun v h' => v = .int .i64 (Int.ofNat j) ∧ Kp h.nx h h' := by
  refine rk144 _ _ _ _ _ _ _ _ _ _ _ (hO _ _ _ (by decide)) ?_
  unfold T144
  obtain ⟨v1, h1, e1, rfl, K1⟩ := ct145 hO K X hlit hd hij (by omega) (c0 := c0) (b := b)
  have k1 := K.trans (K1.le K.nx)
  obtain ⟨v2, h2, e2, rfl, K2⟩ := ct145 hO k1 X hlit hd hjk hk (c0 := c0) (b := b)
  have k2 := k1.trans (K2.le k1.nx)
  obtain ⟨v3, h3, e3, rfl, K3⟩ := ct145 hO k2 X hlit hd hij (by omega) (c0 := c0) (b := b)
  exact ⟨_, _, _, e1, _, _, _, e2, _, _, _, e3, rfl, (K1.trans (K2.le K1.nx)).trans (K3.le (Nat.le_trans K1.nx K2.nx))⟩
theorem ct130 {h : Hp} {a0 : Option Addr} {n0 c0 : Nat} {l : List Int} (X : IntsAt h a0 n0 l) (hl : l.length < 50) (h1 : 8 ≤ l.length) (hlit : ∀ x ∈ l, Lit x) (hd : Dif l) :
    Ret Tryd.prog O 130 [.slice a0 n0 c0, .int .i64 0, .int .i64 (Int.ofNat n0), .func (.func 123) #[] #[]] h fun v h' => (∃ p, v = .tuple #[.int .i64 p, .int .i64 1]) ∧ Kp h.nx h h' := by
  refine rk130 _ _ _ _ _ _ _ _ (hO _ _ _ (by decide)) ?_
  unfold T130
  have hn := X.1
  have e0 : wrapF .i64 (Int.ofNat n0 - 0) = Int.ofNat n0 := by rw [wrap64] <;> simp only [Int.ofNat_eq_natCast] <;> omega
  have e4 : wrapF .i64 (Int.tdiv (Int.ofNat n0) 4) = Int.ofNat (n0 / 4) := by
    show wrapF .i64 (Int.ofNat (n0 / 4)) = _
    rw [wrap64] <;> simp only [Int.ofNat_eq_natCast] <;> omega
  have em : ∀ q : Nat, q ≤ 3 → wrapF .i64 (0 + wrapF .i64 (Int.ofNat (n0 / 4) * (q : Int))) = Int.ofNat (n0 / 4 * q) := fun q hq => by
    have hb : n0 / 4 * q ≤ 12 * 3 := Nat.mul_le_mul (by omega) hq
    have e : Int.ofNat (n0 / 4) * (q : Int) = Int.ofNat (n0 / 4 * q) := rfl
    rw [e, Int.zero_add, wrap64 (n := Int.ofNat (n0 / 4 * q)) (by simp only [Int.ofNat_eq_natCast]; omega) (by simp only [Int.ofNat_eq_natCast]; omega), wrap64 (by simp only [Int.ofNat_eq_natCast]; omega) (by simp only [Int.ofNat_eq_natCast]; omega)]
  have em1 : wrapF .i64 (0 + wrapF .i64 (Int.ofNat (n0 / 4) * 1)) = Int.ofNat (n0 / 4 * 1) := em 1 (by omega)
  have em2 : wrapF .i64 (0 + wrapF .i64 (Int.ofNat (n0 / 4) * 2)) = Int.ofNat (n0 / 4 * 2) := em 2 (by omega)
  have em3 : wrapF .i64 (0 + wrapF .i64 (Int.ofNat (n0 / 4) * 3)) = Int.ofNat (n0 / 4 * 3) := em 3 (by omega)
  rw [e0, e4]
  rw [em1, em2, em3]
  have K0 : Kp h.nx h (h.add (.cells [(.int .i64 0)] 3 .fix)) := (Kp.refl _ h).add (Nat.le_refl _) _
  obtain ⟨v, h2, e2, rfl, K2⟩ := ct144 hO K0 X hlit hd (i := n0 / 4 * 1) (j := n0 / 4 * 2) (k := n0 / 4 * 3) (by omega) (by omega) (by omega) (c0 := c0) (b := h.nx)
  have g2 : h2.get h.nx = some (.cells [.int .i64 0] 3 .fix) := by rw [K2.get _ (by rw [nx_add]; omega)]; exact get_add_same ..
  refine vcond_t (by rw [ltI_f (by simp only [Int.ofNat_eq_natCast]; omega)]; rfl) (vcond_f (by rw [ltI_t (by simp only [Int.ofNat_eq_natCast]; omega)]; rfl) ⟨_, _, e2, _, read1 g2 rfl, vcond_t (eqI_t rfl) ⟨⟨_, rfl⟩, K0.trans (K2.le K0.nx)⟩⟩)
end
end Go.Proofs.YtfgfhplgnfbaaaaDoor
/- Contracts of library functions that sort, where the list is sorted: to the end. Contraries. -/
namespace Go.Proofs.YtfgfhplgnfbaaaaDoor
open Go Go.Ev
def lenT : ByteArray := ByteArray.mk #[0, 1, 2, 2, 3, 3, 3, 3, 4, 4, 4, 4, 4, 4, 4, 4, 5, 5, 5, 5, 5, 5, 5, 5, 5, 5, 5, 5, 5, 5, 5, 5, 6, 6, 6, 6, 6, 6, 6, 6, 6, 6, 6, 6, 6, 6, 6, 6, 6, 6, 6, 6, 6, 6, 6, 6, 6, 6, 6, 6, 6, 6, 6, 6, 7, 7, 7, 7, 7, 7, 7, 7, 7, 7, 7, 7, 7, 7, 7, 7, 7, 7, 7, 7, 7, 7, 7, 7, 7, 7, 7, 7, 7, 7, 7, 7, 7, 7, 7, 7, 7, 7, 7, 7, 7, 7, 7, 7, 7, 7, 7, 7, 7, 7, 7, 7, 7, 7, 7, 7, 7, 7, 7, 7, 7, 7, 7, 7, 8, 8, 8, 8, 8, 8, 8, 8, 8, 8, 8, 8, 8, 8, 8, 8, 8, 8, 8, 8, 8, 8, 8, 8, 8, 8, 8, 8, 8, 8, 8, 8, 8, 8, 8, 8, 8, 8, 8, 8, 8, 8, 8, 8, 8, 8, 8, 8, 8, 8, 8, 8, 8, 8, 8, 8, 8, 8, 8, 8, 8, 8, 8, 8, 8, 8, 8, 8, 8, 8, 8, 8, 8, 8, 8, 8, 8, 8, 8, 8, 8, 8, 8, 8, 8, 8, 8, 8, 8, 8, 8, 8, 8, 8, 8, 8, 8, 8, 8, 8, 8, 8, 8, 8, 8, 8, 8, 8, 8, 8, 8, 8, 8, 8, 8, 8, 8, 8, 8, 8, 8, 8, 8, 8, 8, 8, 8, 8]
theorem lenT_ok : ∀ k, k < 256 → wrapF .i64 (0 + wrapF .i64 (byteI lenT k)) ≠ 0 ∨ k = 0 := by decide +kernel
section
variable {O : CallF} (hO : Oth O)
include hO
theorem ct136 {n : Nat} (hn : n < 256) (h : Hp) : EvT O 136 [.int .u64 (Int.ofNat n)] h (.int .i64 (wrapF .i64 (0 + wrapF .i64 (byteI lenT n)))) h := by
  refine EvC.of_ret (rk136 _ (hO _ _ _ (by decide)) ?_)
  unfold T136
  have e8 : wrapF .u8 (Int.ofNat n) = Int.ofNat n := by
    show Int.ofNat (n % 256) = _
    rw [Nat.mod_eq_of_lt hn]
  rw [e8]
  refine vcond_f (by rw [ltI_t (by simp only [Int.ofNat_eq_natCast]; omega)]; rfl) (vcond_f (by rw [ltI_t (by simp only [Int.ofNat_eq_natCast]; omega)]; rfl) (vcond_f (by rw [ltI_t (by simp only [Int.ofNat_eq_natCast]; omega)]; rfl) (isNat_of (vreq_t (blt_t hn) ⟨rfl, rfl⟩))))
theorem ct116 {n : Nat} (hn : n < 256) (h : Hp) : EvT O 116 [.int .u64 (Int.ofNat n)] h (.int .i64 (wrapF .i64 (0 + wrapF .i64 (byteI lenT n)))) h := by
  refine EvC.of_ret (rk116 _ (hO _ _ _ (by decide)) ?_)
  unfold T116
  exact ⟨_, _, ct136 hO hn h, rfl, rfl⟩
theorem ct115 {h : Hp} {a0 : Option Addr} {n0 c0 : Nat} {l : List Int} (X : IntsAt h a0 n0 l) (hl : l.length < 50) (hlit : ∀ x ∈ l, Lit x) (hd : Dif l) {x3 : Int} (h3 : 12 < l.length → x3 ≠ 0) :
    Ret Tryd.prog O 115 [.slice a0 n0 c0, .int .i64 0, .int .i64 (Int.ofNat n0), .int .i64 x3, .func (.func 123) #[] #[]] h fun v h' => v = undef ∧ Kp h.nx h h' := by
  refine rk115 _ _ _ _ _ _ _ _ _ (hO _ _ _ (by decide)) ?_
  unfold T115
  have hn := X.1
  have i0 : I115_0 O (fun v h' => v = undef ∧ Kp h.nx h h') a0 n0 c0 0 (Int.ofNat n0) x3 123 #[] #[] 0 (Int.ofNat n0) x3 123 #[] #[] true true h := by
    refine I115_0.of _ _ _ _ _ _ _ _ _ _ _ _ _ _ _ _ _ ?_
    intros
    unfold T115_0
    have e0 : wrapF .i64 (Int.ofNat n0 - 0) = Int.ofNat n0 := by rw [wrap64] <;> simp only [Int.ofNat_eq_natCast] <;> omega
    rw [e0]
    refine vcond_split (fun h1 => ?_) fun h1 => ?_
    · obtain ⟨v, h2, e2, rfl, K2⟩ := ct127 hO X (by omega) hlit hd (c0 := c0)
      exact ⟨_, e2, rfl, K2⟩
    · have h1 : 12 < l.length := by
        have : ltI 12 (Int.ofNat n0) = true := by simpa using h1
        have := lt_of_t this
        simp only [Int.ofNat_eq_natCast] at this
        omega
      refine vcond_f (eqI_f (h3 h1)) (vcond_f rfl ?_)
      obtain ⟨v, h2, e2, ⟨p, rfl⟩, K2⟩ := ct130 hO X hl (by omega) hlit hd (c0 := c0)
      obtain ⟨v, h4, e4, rfl, K4⟩ := ct132 hO (X.up EInt.up K2) (by omega) (by omega) hlit hd (c0 := c0)
      exact ⟨_, _, _, e2, vcond_f (eqI_f (by decide)) (vcond_t rfl (vcond_t rfl (vcond_t (eqI_t rfl) ⟨_, _, e4, vcond_t rfl ⟨rfl, K2.trans (K4.le K2.nx)⟩⟩)))⟩
  exact i0 ..
theorem ct74 {h : Hp} {a0 : Option Addr} {n0 c0 : Nat} {l : List Int} (X : IntsAt h a0 n0 l) (hl : l.length < 50) (hlit : ∀ x ∈ l, Lit x) (hd : Dif l) :
    Ret Tryd.prog O 74 [.slice a0 n0 c0, .func (.func 123) #[] #[]] h fun v h' => v = undef ∧ Kp h.nx h h' := by
  refine rk74 _ _ _ _ _ _ (hO _ _ _ (by decide)) ?_
  unfold T74
  have hn := X.1
  have e : wrapF .u64 (Int.ofNat n0) = Int.ofNat n0 := by
    have : n0 < 50 := by omega
    clear X hn
    revert n0
    decide +kernel
  rw [e]
  obtain ⟨v, h2, e2, rfl, K2⟩ := ct115 hO X hl hlit hd (c0 := c0) (x3 := wrapF .i64 (0 + wrapF .i64 (byteI lenT n0))) (fun h12 => (lenT_ok n0 (by omega)).resolve_right (by omega))
  exact ⟨_, _, ct116 hO (by omega) h, _, e2, rfl, K2⟩
omit hO in
theorem Dif.neg {l : List Int} (h : Dif l) : Dif (l.map fun x => -x) := by
  unfold Dif
  rw [List.pairwise_map]
  refine h.imp fun {x z} hxz => ?_
  rw [Int.natAbs_neg, Int.natAbs_neg]; exact hxz
omit hO in
theorem lit_neg {l : List Int} (h : ∀ x ∈ l, Lit x) : ∀ x ∈ l.map (fun x => -x), Lit x := by
  intro x hx
  obtain ⟨z, hz, rfl⟩ := List.mem_map.1 hx
  have := h z hz
  exact ⟨by have := this.1; omega, by have := this.2; omega⟩
theorem lp96_0 {h₀ : Hp} (ok : h₀.Ok) {a0 : Option Addr} {n0 c0 : Nat} {l : List Int} (X : IntsAt h₀ a0 n0 l) (hl : l.length < 50) (hlit : ∀ x ∈ l, Lit x) (hd : Dif l) :
    ∀ (d k : Nat), k + d = l.length → ∀ {a : Option Addr} {n c : Nat} {h : Hp}, Kp h₀.nx h₀ h → AccI 3 h h₀.nx a n c ((l.take k).map fun x => -x) → I96_0 O (RInts h₀ (l.map fun x => -x)) a0 n0 c0 a n c (Int.ofNat k) h := by
  have hn := X.1
  intro d
  induction d with
  | zero =>
    intro k hk a n c h K A
    refine I96_0.of _ _ _ _ _ _ _ ?_
    intros
    unfold T96_0
    rw [List.take_of_length_le (by omega)] at A
    obtain ⟨v, h2, e2, rfl, K2⟩ := ct74 hO A.ints (by simpa using hl) (lit_neg hlit) hd.neg (c0 := c)
    exact vcond_f (by rw [ltI_nat]; exact blt_f (by omega)) ⟨_, e2, a, n, c, rfl, A.ints.up EInt.up K2, K.trans (K2.le K.nx), fun b off e => Acc.fresh A e⟩
  | succ d ih =>
    intro k hk a n c h K A
    refine I96_0.of _ _ _ _ _ _ _ ?_
    intros
    unfold T96_0
    have hx := hlit l[k] (List.getElem_mem _)
    have e2 : wrapF .i64 (0 - l[k]) = -l[k] := by have := hx.2; rw [wrap64 (by omega) (by omega)]; omega
    obtain ⟨a', n', c', h', p1, p2, p3⟩ := app_int app32 A K.nx (fun q hq => by rw [K.gd] at hq; exact ok.gd q hq) (by simp; omega) (-l[k])
    refine vcond_t (by rw [ltI_nat]; exact blt_t (by omega)) (isNat_of (X.get (k := k) (by omega) fun b' off _ hlt hrd => vreq_t (blt_t (by omega)) ⟨_, by rw [readAt_kp K hlt]; exact hrd, a', n', c', h', by rw [e2]; exact p1, ?_⟩))
    rw [wrap_succ (by omega)]
    have e1 : l.take (k + 1) = l.take k ++ [l[k]] := List.take_succ_eq_append_getElem (by omega)
    refine ih (k + 1) (by omega) (K.trans (p3.kp A K.nx)) ?_ ..
    rw [e1, List.map_append]; exact p2
theorem ct96 {h : Hp} (ok : h.Ok) {a0 : Option Addr} {n0 c0 : Nat} {l : List Int} (X : IntsAt h a0 n0 l) (hl : l.length < 50) (hlit : ∀ x ∈ l, Lit x) (hd : Dif l) : Ret Tryd.prog O 96 [.slice a0 n0 c0] h (RInts h (l.map fun x => -x)) := by
  refine rk96 _ _ _ (hO _ _ _ (by decide)) ?_
  unfold T96
  exact lp96_0 hO ok X hl hlit hd l.length 0 (by omega) (.refl _ _) (AccI.nil ..) ..
end
end Go.Proofs.YtfgfhplgnfbaaaaDoor
/- Conditions of functions' code, printed by a program of ours. -/
namespace Go.Proofs.YtfgfhplgnfbaaaaDoor
open Go Go.Ev
set_option maxRecDepth 100000
set_option linter.unusedVariables false
/-! slices.Clone[[]int,int] -/
noncomputable def b60 : Code := (Tryd.f60.body).getD .skip
def lv60 : List (Nat × List Nat) := []
def T60 (O : CallF) (Q : Value → Hp → Prop) (a0 : Option Addr) (n0 : Nat) (c0 : Nat) (h : Hp) : Prop :=
  vnil a0
  (Q (.slice none 0 0) h)
  (let g1 : Hp := h.add (.cells [] 3 .fix)
  ∃ a2' n3' c4' h5', appendV Tryd.prog g1 32 32 (.slice (some ⟨h.nx, 0, none⟩) 0 0) (.slice a0 n0 c0) = some (.slice a2' n3' c4', h5') ∧
  Q (.slice a2' n3' c4') h5')
theorem rk60 {O Q} (a0 n0 c0) {h : Hp} (hO : O 60 [(.slice a0 n0 c0)] h = none) (hh : T60 O Q a0 n0 c0 h) : Ret Tryd.prog O 60 [(.slice a0 n0 c0)] h Q :=
  .of (c := b60) Tryd.func60 (by kernel_rfl) hO (V_ok (tb := lv60) (cuts := []) 500 (Eq.mp (by kernel_rfl) hh))
/-! slices.IndexFunc[[]int,int] -/
end Go.Proofs.YtfgfhplgnfbaaaaDoor
/- Contracts of layer 20: sorting of few numbers; literals by numbers, clauses of them. -/
namespace Go.Proofs.YtfgfhplgnfbaaaaDoor
open Go Go.Ev
/-- All but one object is as it was. -/
structure Kx (b : Nat) (h h' : Hp) : Prop where
  get : ∀ o, o < h.nx → o ≠ b → h'.get o = h.get o
  nx : h.nx ≤ h'.nx
  gd : h'.gd = h.gd
  fr : h.Fresh → h'.Fresh
theorem Kx.refl (b : Nat) (h : Hp) : Kx b h h := ⟨fun _ _ _ => rfl, Nat.le_refl _, rfl, id⟩
theorem Kx.rsv {b : Nat} {g h : Hp} (k : Kx b g h) (n : Nat) : Kx b g (h.rsv n) := ⟨k.get, by rw [nx_rsv]; have := k.nx; omega, k.gd, fun f o ho => k.fr f o (by rw [nx_rsv] at ho; omega)⟩
theorem Kx.trans {b : Nat} {g h h' : Hp} (k : Kx b g h) (k2 : Kx b h h') : Kx b g h' := ⟨fun o h1 h2 => (k2.get o (by have := k.nx; omega) h2).trans (k.get o h1 h2), Nat.le_trans k.nx k2.nx, k2.gd.trans k.gd, fun f => k2.fr (k.fr f)⟩
theorem Kx.rst {b : Nat} {g h h' : Hp} (k : Kx b g h) (e : h'.gd = g.gd) : Kx b g (h.rst h') := ⟨k.get, k.nx, e, k.fr⟩
theorem Kx.grd {b : Nat} {g h : Hp} (k : Kx b g h) : Kx b g (h.grd []) := ⟨k.get, k.nx, k.gd, k.fr⟩
/-- A row of whole numbers that may be written. -/
structure RowAt (b : Nat) (e : TypeId) (m : Md) (h : Hp) (l : List Int) : Prop where
  lt : b < h.nx
  get : h.get b = some (.cells (l.map (Value.int .i64)) e m)
/-! ### literals by numbers, clauses of them -/
end Go.Proofs.YtfgfhplgnfbaaaaDoor
/- Contracts of layer 20: clauses of literals by numbers. -/
namespace Go.Proofs.YtfgfhplgnfbaaaaDoor
open Go Go.Ev
/-- No variable twice. -/
def Nod (l : List Int) : Prop := l.Pairwise fun x y => x.natAbs ≠ y.natAbs
theorem Nod.perm {l l' : List Int} (h : Nod l) (p : l.Perm l') : Nod l' := (p.pairwise_iff fun h => Ne.symm h).1 h
end Go.Proofs.YtfgfhplgnfbaaaaDoor
/- Contracts of layer 20: all truths are tried. -/
namespace Go.Proofs.YtfgfhplgnfbaaaaDoor
open Go Go.Ev
/-- Is a literal true, with truths as the digits of a number? -/
def isB (m : Nat) (x : Int) : Bool := if x < 0 then !m.testBit (x.natAbs - 1) else m.testBit (x.natAbs - 1)
/-- A number whose digits stand the other way round. -/
def bitsF (n k : Nat) : Nat → Nat
  | 0 => 0
  | v + 1 => bitsF n k v ||| ((k / 2 ^ (n - 1 - v) % 2) * 2 ^ v)
end Go.Proofs.YtfgfhplgnfbaaaaDoor
/- Contract of layer 20: a proof is accepted, or not. -/
namespace Go.Proofs.YtfgfhplgnfbaaaaDoor
open Go Go.Ev
/-- The first line from which propagation of its contraries does not clash. -/
def accF (gs : List Int) : List (List Int) → List (List Int) → Nat → Option Nat
  | _, [], _ => none
  | cls, l :: ls, i => if (fromN (cls.map sideN) (gs ++ l.map fun x => -x)).2 = true then some i else accF gs (cls ++ [l]) ls (i + 1)
/-- The answer at a proof's end. -/
def endA (pf : List (List Int)) : Int × Int := if pf.length = 0 then (0, 5) else if 0 < (pf.getD (pf.length - 1) []).length then (0, 5) else (0, 0)
def outA (o : Option Nat) (e : Int × Int) : Int × Int := match o with
  | some i => (Int.ofNat i, 7)
  | none => e
/-- Is a proof accepted? The line, and the error. -/
def acceptP (vars : Int) (cls : List (List Int)) (gs : List Int) (pf : List (List Int)) : Int × Int :=
  if askB vars cls gs = false then (0, 2) else if pf.all (clB vars 0) = false then (0, 2) else if 2000 < pf.length then (0, 3) else outA (accF gs cls pf 0) (endA pf)
section
variable {O : CallF} (hO : Oth O)
include hO
theorem lp41_1 {a1 a2 : Option Addr} {n1 c1 n2 c2 : Nat} {vars : Int} {h₀ : Hp} {gs : List Int} {pf : List (List Int)} (ok : h₀.Ok) (G : IntsAt h₀ a1 n1 gs) (hgl : gs.length < 1000) (hg : ∀ x ∈ gs, Lit x) (F : IntssAt h₀ a2 n2 pf) (hfl : pf.length < 10000) (hfll : ∀ l ∈ pf, l.length < 50) (hflit : ∀ l ∈ pf, (∀ x ∈ l, Lit x) ∧ Dif l) {b : Nat} (hb : h₀.nx ≤ b) {x0 : Int} {a0 : Option Addr} {n0 c0 : Nat} {R : Int × Int} :
    ∀ (d k : Nat), k + d = pf.length → ∀ {cls : List (List Int)} {h : Hp} {a6 : Option Addr} {n6 c6 : Nat}, (∀ l ∈ cls, ∀ x ∈ l, Lit x) → cls.length < 10000 + k → Kp h₀.nx h₀ h → b < h.nx → h.get b = some (.cells (baseC vars a6 n6 c6 a1 n1 c1 2000 none 0 0) 128 .fix) → Acc h (b + 1) 130 2 a6 n6 c6 ((cls.map sideN).flatMap uu) → n6 = cls.length → R = outA (accF gs cls (pf.drop k) k) (endA pf) →
      I41_1 O (fun v h' => v = .tuple #[.int .i64 R.1, .int .i64 R.2] ∧ Kp h₀.nx h₀ h') x0 a0 n0 c0 a1 n1 c1 a2 n2 c2 0 0 (some ⟨b, 0, none⟩) (Int.ofNat k) h := by
  have hn := F.1
  intro d
  induction d with
  | zero =>
    intro k hk cls h a6 n6 c6 hcl hcn kp hnx gb A hn6 hr
    refine I41_1.of _ _ _ _ _ _ _ _ _ _ _ _ _ _ ?_
    intros
    unfold T41_1
    rw [List.drop_of_length_le (by omega)] at hr
    have hr : R = endA pf := hr
    subst hr
    unfold endA
    refine vcond_f (by rw [ltI_nat]; exact blt_f (by omega)) (vcond_split (fun h1 => ?_) fun h1 => ?_)
    · have h1 : n2 = 0 := Int.ofNat.inj (eq_of_t h1)
      rw [if_pos (by omega)]; exact ⟨rfl, kp⟩
    · have h1 : n2 ≠ 0 := fun hh => ne_of_f h1 (by rw [hh]; rfl)
      have e1 : wrapF .i64 (Int.ofNat n2 - 1) = Int.ofNat (pf.length - 1) := by rw [wrap64] <;> simp only [Int.ofNat_eq_natCast] <;> omega
      have hgd : pf.getD (pf.length - 1) [] = pf[pf.length - 1]'(by omega) := by rw [List.getD_eq_getElem?_getD, List.getElem?_eq_getElem (by omega)]; rfl
      rw [e1, if_neg (by omega), hgd]
      refine isNat_of (F.get (k := pf.length - 1) (by omega) fun b' off a' n' c' _ hlt hrd Y => vreq_t (blt_t (by omega)) ⟨_, _, _, by rw [readAt_kp kp hlt]; exact hrd, ?_⟩)
      have hy := Y.1
      refine vcond_split (fun h2 => ?_) fun h2 => ?_
      · have h2 := lt_of_t h2
        simp only [Int.ofNat_eq_natCast] at h2
        rw [if_pos (by omega)]; exact ⟨rfl, kp⟩
      · have h2 := not_lt_of_f h2
        simp only [Int.ofNat_eq_natCast] at h2
        rw [if_neg (by omega)]; exact ⟨rfl, kp⟩
  | succ d ih =>
    intro k hk cls h a6 n6 c6 hcl hcn kp hnx gb A hn6 hr
    refine I41_1.of _ _ _ _ _ _ _ _ _ _ _ _ _ _ ?_
    intros
    unfold T41_1
    have e0 : pf.drop k = pf[k] :: pf.drop (k + 1) := List.drop_eq_getElem_cons (by omega)
    rw [e0] at hr
    simp only [accF] at hr
    have hm : pf[k] ∈ pf := List.getElem_mem _
    obtain ⟨hlk, hdk⟩ := hflit _ hm
    have hlen := hfll _ hm
    refine vcond_t (by rw [ltI_nat]; exact blt_t (by omega)) (isNat_of (F.get (k := k) (by omega) fun b' off a' n' c' _ hlt hrd Y => vreq_t (blt_t (by omega)) ⟨_, _, _, by rw [readAt_kp kp hlt]; exact hrd, ?_⟩))
    obtain ⟨v1, g1, e1, q1, q2, q3, rfl, X1, KA, _⟩ := ct96 hO (ok.kp kp) (Y.up EInt.up kp) hlen hlk hdk (c0 := c')
    have kp1 := kp.trans (KA.le kp.nx)
    have gb1 : g1.get b = some (.cells (baseC vars a6 n6 c6 a1 n1 c1 2000 none 0 0) 128 .fix) := by rw [KA.get _ hnx]; exact gb
    have A1 : Acc g1 (b + 1) 130 2 a6 n6 c6 ((cls.map sideN).flatMap uu) := A.kp KA (Nat.le_refl _)
    have hnx1 : b < g1.nx := Nat.lt_of_lt_of_le hnx KA.nx
    obtain ⟨v2, g2, e2, rfl, KB⟩ := ct95 hO (ok.kp kp1) gb1 hnx1 (A1.slAt uu_len (by decide)) (by simp; omega) (sides_lt hO hcl) (G.up EInt.up kp1) (by omega) hg X1 (by simp; omega) (lit_neg hlk) (cm := q3)
    have kp2 := kp1.trans (KB.le kp1.nx)
    refine ⟨_, _, _, _, e1, _, _, e2, ?_⟩
    by_cases hcalm : (fromN (cls.map sideN) (gs ++ pf[k].map fun x => -x)).2 = true
    · rw [if_pos hcalm] at hr
      subst hr
      rw [hcalm]
      exact vcond_t rfl ⟨rfl, kp2⟩
    rw [if_neg hcalm] at hr
    have hcalm : (fromN (cls.map sideN) (gs ++ pf[k].map fun x => -x)).2 = false := by simpa using hcalm
    rw [hcalm]
    refine vcond_f rfl ?_
    have gb2 : g2.get b = some (.cells (baseC vars a6 n6 c6 a1 n1 c1 2000 none 0 0) 128 .fix) := by rw [KB.get _ hnx1]; exact gb1
    have A2 : Acc g2 (b + 1) 130 2 a6 n6 c6 ((cls.map sideN).flatMap uu) := A1.kp KB (Nat.le_refl _)
    have hnx2 : b < g2.nx := Nat.lt_of_lt_of_le hnx1 KB.nx
    have okh : g2.Ok := ok.kp kp2
    have gb3 : (g2.rsv 12).get b = _ := gb2
    have okg : ((g2.rsv 12).grd [b]).Ok := (okh.rsv 12).grd fun q hq => by
      obtain rfl := List.mem_singleton.1 hq; rw [nx_rsv]; omega
    have Y1 : IntsAt ((g2.rsv 12).grd [b]) a' n' pf[k] := (Y.up EInt.up kp2).keep (fun _ _ _ => rfl) (by rw [nx_grd, nx_rsv]; omega) fun _ _ h => h
    obtain ⟨v3, h2', e3, rfl, K2⟩ := ct107 hO hlk (by omega) okg Y1 (c := c')
    refine ⟨_, _, _, read1 gb3 (i := 0 + 1) rfl, _, _, _, e3, ?_⟩
    have K2' : Kp (g2.nx + 12) (g2.rsv 12) (h2'.rst (g2.rsv 12)) := (Kp.refl (g2.nx + 12) (g2.rsv 12)).rst K2
    have K2h : Kp (g2.nx + 12) g2 (h2'.rst (g2.rsv 12)) := (Kp.refl (g2.nx + 12) g2).rsv 12 |>.trans K2'
    refine vreq_t (free_t (by rw [K2h.get _ (by omega)]; exact okh.fr _ (by omega))) ?_
    generalize hg2 : h2'.rst (g2.rsv 12) = g3 at *
    have hnx3 : g2.nx + 12 ≤ g3.nx := K2'.nx
    have K3 : Kp g2.nx g2 (g3.lay (g2.nx + 7) (.cells (uu (sideN pf[k])) 130 .fix)) := (K2h.le (by omega)).lay (by omega) (by omega) _
    have A3 : Acc (g3.lay (g2.nx + 7) (.cells (uu (sideN pf[k])) 130 .fix)) (b + 1) 130 2 a6 n6 c6 ((cls.map sideN).flatMap uu) := A2.kp K3 (Nat.le_refl _)
    have gdh : GdLt (g3.lay (g2.nx + 7) (.cells (uu (sideN pf[k])) 130 .fix)) (b + 1) := fun q hq => by
      have : q ∈ h₀.gd := by rw [← kp2.gd, ← K3.gd]; exact hq
      have := ok.gd q this; omega
    obtain ⟨a9, n9, c9, h4', e4, A4, hn9, k4⟩ := app_enc uu_len uu_one app126 A3 (by rw [nx_lay]; omega) gdh (t := g2.nx + 7) (c2 := 1) (m := .fix) (e2 := 130) (x := sideN pf[k]) (by rw [get_lay, if_pos rfl]) (by omega) (by unfold big; omega)
    refine ⟨a9, n9, c9, h4', e4, ?_⟩
    have ab : ∀ off, a6 ≠ some ⟨b, off, none⟩ := fun off e => by have := A2.fresh e; omega
    have gb4 : h4'.get b = some (.cells (baseC vars a6 n6 c6 a1 n1 c1 2000 none 0 0) 128 .fix) := by
      rw [k4.get _ (by rw [nx_lay]; omega) (ab 0), K3.get _ (by omega)]; exact gb2
    have gb4' : ((h4'.rst (g3.lay (g2.nx + 7) (.cells (uu (sideN pf[k])) 130 .fix))).grd []).get b = some (.cells (baseC vars a6 n6 c6 a1 n1 c1 2000 none 0 0) 128 .fix) := gb4
    have gu : ((h4'.rst (g3.lay (g2.nx + 7) (.cells (uu (sideN pf[k])) 130 .fix))).grd []).guarded b = false := guarded_of fun q hq => by
      have : q ∈ h₀.gd := by rw [← kp2.gd, ← K3.gd]; exact hq
      have := ok.gd q this; omega
    refine vreq_t (canW_t gb4' (by decide) gu (by simp [baseC]) rfl) ?_
    rw [wrap_succ (by omega)]
    have Kf : Kp h₀.nx h₀ ((((h4'.rst (g3.lay (g2.nx + 7) (.cells (uu (sideN pf[k])) 130 .fix))).grd []).wr b (0 + 1) [.slice a9 n9 c9]).rst (h4'.rst (g3.lay (g2.nx + 7) (.cells (uu (sideN pf[k])) 130 .fix)))) := by
      have hk2 := kp2.nx
      have K4 : Kp h₀.nx h₀ h4' := (kp2.trans (K3.le hk2)).trans ((k4.kp A3 (by rw [nx_lay]; omega)).le (by omega))
      refine ⟨fun o ho => ?_, ?_, ?_, fun f => ?_⟩
      · rw [get_rst, wr_get_ne _ _ _ _ (by omega)]; exact K4.get o ho
      · rw [nx_rst, nx_wr]; exact K4.nx
      · rw [gd_rst, gd_rst, gd_lay]
        have := (kp2.trans (K3.le hk2)).gd
        rw [gd_lay] at this; exact this
      · exact (show Hp.Fresh (((h4'.rst (g3.lay (g2.nx + 7) (.cells (uu (sideN pf[k])) 130 .fix))).grd []).wr b (0 + 1) [.slice a9 n9 c9]) from Hp.Fresh.wr (h := (h4'.rst (g3.lay (g2.nx + 7) (.cells (uu (sideN pf[k])) 130 .fix))).grd []) (K4.fr f) _ _ _)
    have hnx4 : (g3.lay (g2.nx + 7) (.cells (uu (sideN pf[k])) 130 .fix)).nx ≤ h4'.nx := k4.nx
    rw [nx_lay] at hnx4
    refine ih (k + 1) (by omega) (cls := cls ++ [pf[k]]) (a6 := a9) (n6 := n9) (c6 := c9) (fun l hl => ?_) (by simp; omega) Kf (by rw [nx_rst, nx_wr, nx_grd, nx_rst]; omega) (by rw [get_rst]; exact (wr_get gb4' (by decide) gu (by simp [baseC]) rfl).trans rfl) ?_ (by simp; omega) hr ..
    · rcases List.mem_append.1 hl with hl | hl
      · exact hcl l hl
      · obtain rfl := List.mem_singleton.1 hl; exact hlk
    rw [List.map_append]
    refine A4.keep (fun o ho e => ?_) (by rw [nx_rst, nx_wr, nx_grd, nx_rst]; omega)
    rw [get_rst, wr_get_ne _ _ _ _ (by have := A4.fresh e; omega)]; rfl
theorem lp41_0 {a a1 a2 : Option Addr} {n c n1 c1 n2 c2 : Nat} {vars : Int} {h₀ : Hp} {cls : List (List Int)} {gs : List Int} {pf : List (List Int)} (ok : h₀.Ok) (H : IntssAt h₀ a n cls) (hll : ∀ l ∈ cls, l.length < 1000000) (hf : formB vars cls = true) (G : IntsAt h₀ a1 n1 gs) (hgl : gs.length < 1000) (hg : ∀ x ∈ gs, Lit x) (F : IntssAt h₀ a2 n2 pf) (hfl : pf.length < 10000) (hfll : ∀ l ∈ pf, l.length < 50) {x0 : Int} {a0 : Option Addr} {n0 c0 : Nat} {b : Nat} (hb : h₀.nx ≤ b) {R : Int × Int} :
    ∀ (d k : Nat), k + d = pf.length → ∀ {h : Hp}, Kp h₀.nx h₀ h → b < h.nx → h.get b = some (.cells [.int .i64 vars, .slice a n c] 30 .fix) → (∀ l ∈ pf.take k, clB vars 0 l = true) → R = (if (pf.drop k).all (clB vars 0) = false then (0, 2) else if 2000 < pf.length then (0, 3) else outA (accF gs cls pf 0) (endA pf)) →
      I41_0 O (fun v h' => v = .tuple #[.int .i64 R.1, .int .i64 R.2] ∧ Kp h₀.nx h₀ h') x0 a0 n0 c0 a1 n1 c1 a2 n2 c2 b 0 0 0 (Int.ofNat k) h := by
  have hn := F.1
  obtain ⟨f1, f2, f3, f4, f5⟩ := formB_lit hO hf
  intro d
  induction d with
  | zero =>
    intro k hk h kp hnx gb hc hr
    refine I41_0.of _ _ _ _ _ _ _ _ _ _ _ _ _ _ _ ?_
    intros
    unfold T41_0
    rw [List.drop_of_length_le (by omega), if_neg (by simp)] at hr
    rw [List.take_of_length_le (by omega)] at hc
    refine vcond_f (by rw [ltI_nat]; exact blt_f (by omega)) (vcond_split (fun h1 => ?_) fun h1 => ?_)
    · have h1 := lt_of_t h1
      simp only [Int.ofNat_eq_natCast] at h1
      rw [if_pos (by omega)] at hr
      subst hr; exact ⟨rfl, kp⟩
    · have h1 := not_lt_of_f h1
      simp only [Int.ofNat_eq_natCast] at h1
      rw [if_neg (by omega)] at hr
      obtain ⟨v1, h2, e2, b', a6, n6, c6, rfl, z1, z2, z3, z4, z5⟩ := ct76 hO (vars := vars) (ok.kp kp) (H.up EInts.up kp) (by omega) hll f4 (c := c) (a1 := a1) (n1 := n1) (c1 := c1)
      have k2 := kp.trans (z5.le kp.nx)
      have hn6 : n6 = cls.length := by have := (z4.slAt uu_len (by decide)).1; simpa using this
      refine ⟨_, _, _, _, readAt_get gb (by simp), _, _, e2, ?_⟩
      exact lp41_1 hO ok G hgl hg F hfl hfll (fun l hl => ⟨fun x hx => (clB_lit (by decide) (hc l hl) x hx).1, clB_dif (by decide) (hc l hl)⟩) (b := b') (Nat.le_trans kp.nx z1) pf.length 0 (by omega) f4 (by omega) k2 z2 z3 z4 hn6 hr ..
  | succ d ih =>
    intro k hk h kp hnx gb hc hr
    refine I41_0.of _ _ _ _ _ _ _ _ _ _ _ _ _ _ _ ?_
    intros
    unfold T41_0
    have e0 : pf.drop k = pf[k] :: pf.drop (k + 1) := List.drop_eq_getElem_cons (by omega)
    rw [e0, List.all_cons] at hr
    have hm : pf[k] ∈ pf := List.getElem_mem _
    have hlen := hfll _ hm
    refine vcond_t (by rw [ltI_nat]; exact blt_t (by omega)) (isNat_of (F.get (k := k) (by omega) fun b' off a' n' c' _ hlt hrd Y => vreq_t (blt_t (by omega)) ⟨_, _, _, by rw [readAt_kp kp hlt]; exact hrd, _, read1 gb (i := 0 + 0) rfl, _, _, ct87 hO vars (Y.up EInt.up kp) (by omega) (c := c'), vcond_split (fun h1 => ?_) fun h1 => ?_⟩))
    · have h1 : clB vars 0 pf[k] = false := by simpa using h1
      rw [h1, Bool.false_and, if_pos rfl] at hr
      subst hr; exact ⟨rfl, kp⟩
    · have h1 : clB vars 0 pf[k] = true := by simpa using h1
      rw [h1, Bool.true_and] at hr
      rw [wrap_succ (by omega)]
      refine ih (k + 1) (by omega) kp hnx gb (fun l hl => ?_) hr ..
      rw [List.take_succ_eq_append_getElem (by omega)] at hl
      rcases List.mem_append.1 hl with hl | hl
      · exact hc l hl
      · obtain rfl := List.mem_singleton.1 hl; exact h1
theorem ct41 {a a1 a2 : Option Addr} {n c n1 c1 n2 c2 : Nat} {vars : Int} {h : Hp} {cls : List (List Int)} {gs : List Int} {pf : List (List Int)} (ok : h.Ok) (H : IntssAt h a n cls) (hl : cls.length < 1000000) (hll : ∀ l ∈ cls, l.length < 1000000) (G : IntsAt h a1 n1 gs) (hgl : gs.length < 1000) (F : IntssAt h a2 n2 pf) (hfl : pf.length < 10000) (hfll : ∀ l ∈ pf, l.length < 50) :
    Ret Tryd.prog O 41 [Fm vars a n c, .slice a1 n1 c1, .slice a2 n2 c2] h fun v h' => v = .tuple #[.int .i64 (acceptP vars cls gs pf).1, .int .i64 (acceptP vars cls gs pf).2] ∧ Kp h.nx h h' := by
  refine rk41 _ _ _ _ _ _ _ _ _ _ (hO _ _ _ (by decide)) ?_
  unfold T41
  have kp := fm_kp h vars a n c
  have g := fm_get h vars a n c
  obtain ⟨v1, h1, e1, rfl, K1⟩ := ct78 hO (c := c) (vars := vars) (c1 := c1) (H.up EInts.up kp) hl hll (G.up EInt.up kp) (by omega)
  have k1 : Kp h.nx h h1 := kp.trans (K1.le kp.nx)
  have hn1 := K1.nx
  rw [nx_add] at hn1
  have g1 : h1.get h.nx = some (.cells [.int .i64 vars, .slice a n c] 30 .fix) := by rw [K1.get _ (by rw [nx_add]; omega)]; exact g
  unfold acceptP
  cases ha : askB vars cls gs with
  | false => exact ⟨_, _, _, _, readAt_get g (by simp), _, _, e1, vcond_t (by rw [ha]; decide) (by rw [ha, if_pos rfl]; exact ⟨rfl, k1⟩)⟩
  | true =>
    rw [if_neg (by decide)]
    rw [ha] at e1
    have hf : formB vars cls = true := by unfold askB at ha; exact (Bool.and_eq_true _ _ ▸ ha).1
    have hgc : clB vars 0 gs = true := by unfold askB at ha; exact (Bool.and_eq_true _ _ ▸ ha).2
    refine ⟨_, _, _, _, readAt_get g (by simp), _, _, e1, vcond_f (by decide) ?_⟩
    exact lp41_0 hO ok H hll hf G hgl (fun x hx => (clB_lit (by decide) hgc x hx).1) F hfl hfll (Nat.le_refl _) pf.length 0 (by omega) k1 (by omega) g1 (fun l hl => by simp at hl) rfl ..
end
end Go.Proofs.YtfgfhplgnfbaaaaDoor
/- Lists of lists: what is appended of them, and their first ones. -/
namespace Go.Proofs.YtfgfhplgnfbaaaaDoor
open Go Go.Ev
theorem SlAt.take {α : Type} {w : Nat} {R : Enc α} {h : Hp} {a : Option Addr} {n : Nat} {xs : List α} (H : SlAt w R h a n xs) (k : Nat) (hk : k ≤ xs.length) : SlAt w R h a k (xs.take k) := by
  refine ⟨by simp; omega, ?_⟩
  rcases H.2 with ⟨rfl, rfl⟩ | ⟨b, off, c, e, m, rfl, h2, h3, h4, h5⟩
  · exact .inl ⟨by simp, rfl⟩
  · refine .inr ⟨b, off, c, e, m, rfl, h2, h3, ?_, fun i hi => ?_⟩
    · have : (xs.take k).length * w ≤ xs.length * w := Nat.mul_le_mul_right _ (by simp; omega)
      omega
    · have hi2 : i < xs.length := by simp at hi; omega
      have := h5 i hi2
      rw [List.getElem_take]
      exact this
/-- What is appended of a list of lists. -/
theorem intss_src {h : Hp} {a2 : Option Addr} {n2 c2 : Nat} {ys : List (List Int)} (Y : IntssAt h a2 n2 ys) : ∃ vs : List Value, srcCells h 1 (.slice a2 n2 c2) = some (vs, n2) ∧ vs.length = ys.length ∧ ∀ i (hi : i < ys.length), ∃ v, vs[i]? = some v ∧ EInts h ys[i] [v] := by
  have hn2 := Y.1
  rcases Y.2 with ⟨rfl, rfl⟩ | ⟨b, off, cs, e', m, rfl, h2, h3, h4, h5⟩
  · subst hn2; exact ⟨[], rfl, rfl, fun i hi => by simp at hi⟩
  · refine ⟨(cs.drop off).take n2, src_get (by rw [Nat.mul_one, readAt_get h3 (by omega)]), by simp; omega, fun i hi => ?_⟩
    have h7 : EInts h ys[i] ((cs.drop (off + i * 1)).take 1) := h5 i hi
    rw [Nat.mul_one, List.drop_eq_getElem_cons (show off + i < cs.length by omega), List.take_succ_cons, List.take_zero] at h7
    refine ⟨cs[off + i], ?_, h7⟩
    rw [List.getElem?_take, if_pos (by omega), List.getElem?_drop, List.getElem?_eq_getElem (by omega)]
/-- Cells that hold lists. -/
def Lis (h : Hp) (vs : List Value) (xs : List (List Int)) : Prop := vs.length = xs.length ∧ ∀ i (hi : i < xs.length), ∃ v, vs[i]? = some v ∧ EInts h xs[i] [v]
theorem Lis.nil (h : Hp) : Lis h [] [] := ⟨rfl, fun i hi => by simp at hi⟩
theorem Lis.app {h : Hp} {vs ws : List Value} {xs ys : List (List Int)} (A : Lis h vs xs) (B : Lis h ws ys) : Lis h (vs ++ ws) (xs ++ ys) := by
  refine ⟨by simp [A.1, B.1], fun i hi => ?_⟩
  by_cases h1 : i < xs.length
  · obtain ⟨v, e1, e2⟩ := A.2 i h1
    exact ⟨v, by rw [List.getElem?_append_left (by rw [A.1]; exact h1)]; exact e1, by rw [List.getElem_append_left h1]; exact e2⟩
  · obtain ⟨v, e1, e2⟩ := B.2 (i - xs.length) (by simp at hi; omega)
    exact ⟨v, by rw [List.getElem?_append_right (by rw [A.1]; omega), A.1]; exact e1, by rw [List.getElem_append_right (by omega)]; exact e2⟩
theorem Lis.up {h h' : Hp} (K : Kp h.nx h h') {vs : List Value} {xs : List (List Int)} (A : Lis h vs xs) : Lis h' vs xs := ⟨A.1, fun i hi => by
  obtain ⟨v, e1, e2⟩ := A.2 i hi
  exact ⟨v, e1, EInts.up _ _ _ _ K e2⟩⟩
theorem Lis.one {h : Hp} {vs : List Value} {xs : List (List Int)} (A : Lis h vs xs) : vs.all one = true := by
  rw [List.all_eq_true]
  intro v hv
  obtain ⟨i, hi, rfl⟩ := List.getElem_of_mem hv
  obtain ⟨w, e1, a, n, c, e2, _⟩ := A.2 i (by rw [← A.1]; exact hi)
  rw [List.getElem?_eq_getElem hi] at e1
  obtain rfl := Option.some.inj e1
  injection e2 with e2 _
  rw [e2]; rfl
theorem AccE.intss {h : Hp} {base : Nat} {e : TypeId} {a : Option Addr} {n c : Nat} {vs : List Value} {xs : List (List Int)} (A : AccE h base e 1 a n c vs) (L : Lis h vs xs) : IntssAt h a n xs := by
  rcases A with (⟨rfl, rfl, rfl, h4⟩ | ⟨o, rfl, rfl, h3, h4, h5, h6⟩) | ⟨h1, h2, h3, o, h4, h5, h6, e2, m, h7⟩
  · have : xs = [] := List.length_eq_zero_iff.1 (by rw [← L.1, h4]; rfl)
    subst this; exact SlAt.nil ..
  · refine ⟨by rw [← L.1]; omega, .inr ⟨o, 0, _, _, _, rfl, h5, h6, by rw [← L.1]; omega, fun i hi => ?_⟩⟩
    obtain ⟨v, e1, e2⟩ := L.2 i hi
    have hv : i < vs.length := by rw [L.1]; exact hi
    rw [List.getElem?_eq_getElem hv] at e1
    have e1 := Option.some.inj e1
    show EInts h xs[i] ((vs.drop (0 + i * 1)).take 1)
    rw [Nat.zero_add, Nat.mul_one, List.drop_eq_getElem_cons hv, List.take_succ_cons, List.take_zero, e1]
    exact e2
  · have : xs = [] := List.length_eq_zero_iff.1 (by rw [← L.1, h1]; rfl)
    subst this h2 h4
    exact ⟨rfl, .inr ⟨o, 0, _, _, _, rfl, h6, h7, by simp, fun i hi => by simp at hi⟩⟩
theorem AccE.ints {h : Hp} {base : Nat} {e : TypeId} {a : Option Addr} {n c : Nat} {xs : List Int} (H : AccE h base e 1 a n c (xs.map (Value.int .i64))) : IntsAt h a n xs := by
  rcases H with H | ⟨h1, h2, h3, o, h4, h5, h6, e2, m, h7⟩
  · exact AccI.ints H
  · have hx : xs = [] := by
      cases xs with
      | nil => rfl
      | cons x xs => cases h1
    subst hx h2 h4
    exact ⟨rfl, .inr ⟨o, 0, _, _, _, rfl, h6, h7, by simp, fun i hi => by simp at hi⟩⟩
/-- A list of lists is appended. -/
theorem appE_intss {X : Hp} {g : List Nat} {base : Nat} {a : Option Addr} {n c : Nat} {vs : List Value} {a1 : Option Addr} {n1 c1 : Nat} {ys : List (List Int)} {hb : Hp} (hbb : hb.nx ≤ base) (K0 : Kp hb.nx hb X) (Z : AccE X base 32 1 a n c vs) (hb2 : base ≤ X.nx) (hg : ∀ q ∈ g ++ X.gd, q < base) (Y : IntssAt hb a1 n1 ys) (hl : n + ys.length < 100000) :
    ∃ a' n' c' h' ws, appendV Tryd.prog (X.grd g) 28 28 (.slice a n c) (.slice a1 n1 c1) = some (.slice a' n' c', h') ∧ AccE h' base 32 1 a' n' c' (vs ++ ws) ∧ Lis hb ws ys ∧ n' = n + ys.length ∧ Kp base X (h'.rst X) ∧ X.nx ≤ h'.nx ∧ ∀ q, q < X.nx → a ≠ some ⟨q, 0, none⟩ → h'.get q = X.get q := by
  have Z' : AccE (X.grd g) base 32 1 a n c vs := Z.keep (fun _ _ _ => rfl) (Nat.le_refl _)
  have hn := Y.1
  obtain ⟨ws, e0, l0, l1⟩ := intss_src (c2 := c1) Y
  have L : Lis hb ws ys := ⟨l0, l1⟩
  have src : srcCells (X.grd g) 1 (.slice a1 n1 c1) = some (ws, n1) := by
    have Y2 : IntssAt (X.grd g) a1 n1 ys := SlAt.keep (Y.up EInts.up K0) (fun _ _ _ => rfl) (Nat.le_refl _) fun _ _ h => h
    rw [← e0]
    rcases Y.2 with ⟨_, rfl⟩ | ⟨b, off, cs, e', m, rfl, h2, _⟩
    · rfl
    · show (readAt (X.grd g) b off _).map _ = (readAt hb b off _).map _
      rw [show readAt (X.grd g) b off (n1 * 1) = readAt X b off (n1 * 1) from rfl, readAt_kp K0 h2]
  obtain ⟨a', n', c', h', e1, Z1, en, P1⟩ := append_accE app28 Z' hb2 (fun q hq => hg q hq) ⟨_, _, _, rfl⟩ src (by rw [l0]; omega) L.one (by omega) (by unfold big; omega)
  exact ⟨a', n', c', h', ws, e1, Z1, L, by omega, (Kp.refl base X).rst (g := g) (P1.kpE Z' hb2), P1.nx, fun q hq hne => P1.get q hq hne⟩
/-- A list is appended. -/
theorem appE_ints {X : Hp} {g : List Nat} {base : Nat} {a : Option Addr} {n c : Nat} {xs ys : List Int} {a1 : Option Addr} {n1 c1 : Nat} (Z : AccE X base 3 1 a n c (xs.map (Value.int .i64))) (hb2 : base ≤ X.nx) (hg : ∀ q ∈ g ++ X.gd, q < base) (Y : IntsAt X a1 n1 ys) (hl : xs.length + ys.length < 100000) :
    ∃ a' n' c' h', appendV Tryd.prog (X.grd g) 32 32 (.slice a n c) (.slice a1 n1 c1) = some (.slice a' n' c', h') ∧ AccE h' base 3 1 a' n' c' ((xs ++ ys).map (Value.int .i64)) ∧ Kp base X (h'.rst X) ∧ X.nx ≤ h'.nx ∧ ∀ q, q < X.nx → a ≠ some ⟨q, 0, none⟩ → h'.get q = X.get q := by
  have Z' : AccE (X.grd g) base 3 1 a n c (xs.map (Value.int .i64)) := Z.keep (fun _ _ _ => rfl) (Nat.le_refl _)
  have hn := Y.1
  have hn2 := (AccE.ints Z).1
  have Y2 : IntsAt (X.grd g) a1 n1 ys := SlAt.keep Y (fun _ _ _ => rfl) (Nat.le_refl _) fun _ _ h => h
  obtain ⟨a', n', c', h', e1, Z1, en, P1⟩ := append_accE app32 Z' hb2 (fun q hq => hg q hq) ⟨_, _, _, rfl⟩ (ints_src (c2 := c1) Y2) (by simp; omega) (by simp [one]) (by omega) (by unfold big; omega)
  exact ⟨a', n', c', h', e1, by rw [List.map_append]; exact Z1, (Kp.refl base X).rst (g := g) (P1.kpE Z' hb2), P1.nx, fun q hq hne => P1.get q hq hne⟩
end Go.Proofs.YtfgfhplgnfbaaaaDoor
/- Contracts of layer 20: all models of a formula; lists cloned. -/
namespace Go.Proofs.YtfgfhplgnfbaaaaDoor
open Go Go.Ev
end Go.Proofs.YtfgfhplgnfbaaaaDoor
/- Contracts of layer 20: propagation once more, without the reference. -/
namespace Go.Proofs.YtfgfhplgnfbaaaaDoor
open Go Go.Ev
/-- A literal is true, by two sets of variables. -/
def trP (y n : Nat) (x : Int) : Prop := (0 < x ∧ y.testBit x.natAbs = true) ∨ (x < 0 ∧ n.testBit x.natAbs = true)
def tvP (y n : Nat) (x : Int) : Bool := if 0 < x then y.testBit x.natAbs else n.testBit x.natAbs
theorem tvP_iff {y n : Nat} {x : Int} (hx : x ≠ 0) : tvP y n x = true ↔ trP y n x := by
  unfold tvP trP
  by_cases h : 0 < x
  · rw [if_pos h]; constructor
    · exact fun e => .inl ⟨h, e⟩
    · rintro (⟨_, e⟩ | ⟨e, _⟩)
      · exact e
      · omega
  · rw [if_neg h]; constructor
    · exact fun e => .inr ⟨by omega, e⟩
    · rintro (⟨e, _⟩ | ⟨_, e⟩)
      · omega
      · exact e
theorem trP_add {y n : Nat} {x z : Int} (hx : Lit x) : trP (if 0 < x then y ||| 2 ^ x.natAbs else y) (if 0 < x then n else n ||| 2 ^ x.natAbs) z ↔ trP y n z ∨ z = x := by
  have h0 := hx.1
  unfold trP
  by_cases h : 0 < x
  · simp only [if_pos h, Nat.testBit_or, Nat.testBit_two_pow, Bool.or_eq_true, decide_eq_true_eq]
    constructor
    · rintro (⟨a, b | b⟩ | b)
      · exact .inl (.inl ⟨a, b⟩)
      · exact .inr (by omega)
      · exact .inl (.inr b)
    · rintro ((⟨a, b⟩ | b) | rfl)
      · exact .inl ⟨a, .inl b⟩
      · exact .inr b
      · exact .inl ⟨h, .inr rfl⟩
  · simp only [if_neg h, Nat.testBit_or, Nat.testBit_two_pow, Bool.or_eq_true, decide_eq_true_eq]
    constructor
    · rintro (b | ⟨a, b | b⟩)
      · exact .inl (.inl b)
      · exact .inl (.inr ⟨a, b⟩)
      · exact .inr (by omega)
    · rintro ((b | ⟨a, b⟩) | rfl)
      · exact .inl b
      · exact .inr ⟨a, .inl b⟩
      · exact .inr ⟨by omega, .inr rfl⟩
theorem or31 {y : Nat} {x : Int} (hy : y < 2 ^ 31) (hx : Lit x) : y ||| 2 ^ x.natAbs < 2 ^ 31 := Nat.or_lt_two_pow hy (Nat.pow_lt_pow_right (by decide) (by have := hx.2; omega))
section
variable {O : CallF} (hO : Oth O)
include hO
/-- What is true is derived; what was given is true. -/
structure PInv (cls : List (List Int)) (xs : List Int) (y n : Nat) : Prop where
  ly : y < 2 ^ 31
  ln : n < 2 ^ 31
  der : ∀ z, trP y n z → z ≠ 0 → Der cls xs z
  beg : ∀ x ∈ xs, trP y n x
  z0 : y.testBit 0 = false ∧ n.testBit 0 = false
omit hO in
theorem PInv.add {cls : List (List Int)} {xs : List Int} {y n : Nat} (I : PInv cls xs y n) {x : Int} (hx : Lit x) (hD : Der cls xs x) : PInv cls xs (if 0 < x then y ||| 2 ^ x.natAbs else y) (if 0 < x then n else n ||| 2 ^ x.natAbs) :=
  ⟨by split; exact or31 I.ly hx; exact I.ly, by split; exact I.ln; exact or31 I.ln hx, fun z hz h0 => by
    rcases (trP_add hx).1 hz with h | rfl
    · exact I.der z h h0
    · exact hD, fun z hz => (trP_add hx).2 (.inl (I.beg z hz)), by
    have h0 : (2 ^ x.natAbs).testBit 0 = false := by rw [Nat.testBit_two_pow]; have := hx.1; simp; omega
    split
    · exact ⟨by rw [Nat.testBit_or, h0, I.z0.1]; rfl, I.z0.2⟩
    · exact ⟨I.z0.1, by rw [Nat.testBit_or, h0, I.z0.2]; rfl⟩⟩
/-- A list of its own, with another one's elements. -/
def RCl (h : Hp) (xs : List Int) (a : Option Addr) (n c : Nat) (h' : Hp) : Prop := AccE h' h.nx 3 1 a n c (xs.map (Value.int .i64)) ∧ Kp h.nx h h'
theorem ct60 {h : Hp} (ok : h.Ok) {a0 : Option Addr} {n0 c0 : Nat} {xs : List Int} (X : IntsAt h a0 n0 xs) (hl : xs.length < 100000000) : Ret Tryd.prog O 60 [.slice a0 n0 c0] h fun v h' => ∃ a n c, v = .slice a n c ∧ RCl h xs a n c h' := by
  refine rk60 _ _ _ (hO _ _ _ (by decide)) ?_
  unfold T60
  cases a0 with
  | none =>
    have : xs = [] := by
      rcases X.2 with ⟨e, _⟩ | ⟨_, _, _, _, _, e, _⟩
      · exact e
      · cases e
    subst this
    exact ⟨_, _, _, rfl, .inl (Acc.nil ..), .refl _ _⟩
  | some q =>
    show let g1 : Hp := h.add (.cells [] 3 .fix); _
    intro g1
    have X1 : IntsAt g1 (some q) n0 xs := X.to _
    have Z : AccE g1 h.nx 3 1 (some ⟨h.nx, 0, none⟩) 0 0 [] := .inr ⟨rfl, rfl, rfl, h.nx, rfl, Nat.le_refl _, Nat.lt_succ_self _, _, _, get_add_same ..⟩
    have k1 : Kp h.nx h g1 := (Kp.refl _ _).add (Nat.le_refl _) _
    have src : srcCells g1 1 (.slice (some q) n0 c0) = some (xs.map (Value.int .i64), n0) := X1.src
    obtain ⟨a', n', c', h', e1, A, _, K⟩ := append_accE app32 Z (by show h.nx ≤ h.nx + 1; omega) (fun q hq => ok.gd q hq) ⟨_, _, _, rfl⟩ src (by rw [X.1]; simp) (by simp [one]) (by rw [X.1]; omega) (by rw [X.1]; unfold big; omega)
    exact ⟨a', n', c', h', e1, _, _, _, rfl, A, k1.trans (K.kpE Z (by show h.nx ≤ h.nx + 1; omega))⟩
omit hO in
theorem accE_ints {e : TypeId} {h : Hp} {base : Nat} {a : Option Addr} {n c : Nat} {xs : List Int} (H : AccE h base e 1 a n c (xs.map (Value.int .i64))) : IntsAt h a n xs := by
  rcases H with H | ⟨h1, h2, h3, o, h4, h5, h6, e2, m, h7⟩
  · exact AccI.ints H
  · have hx : xs = [] := by
      cases xs with
      | nil => rfl
      | cons x xs => cases h1
    subst hx h2 h4
    exact ⟨rfl, .inr ⟨o, 0, _, _, _, rfl, h6, h7, by simp, fun i hi => by simp at hi⟩⟩
end
end Go.Proofs.YtfgfhplgnfbaaaaDoor
/- Lists of lists that grow, their elements laid meanwhile. -/
namespace Go.Proofs.YtfgfhplgnfbaaaaDoor
open Go Go.Ev
/-- Where an element may lie: neither in what is written nor in the list that grows. -/
def VOk (lo base : Nat) (v : Value) : Prop := ∀ b off n c, v = .slice (some ⟨b, off, none⟩) n c → (b < lo ∨ base ≤ b) ∧ (b < base ∨ 0 < n)
def LL (lo base : Nat) (h : Hp) (a : Option Addr) (n c : Nat) (xss : List (List Int)) : Prop := ∃ vs, AccE h base 32 1 a n c vs ∧ Lis h vs xss ∧ ∀ v ∈ vs, VOk lo base v
theorem LL.nil (lo base : Nat) (h : Hp) : LL lo base h none 0 0 [] := ⟨[], .inl (Acc.nil ..), .nil h, fun _ h => by cases h⟩
theorem LL.intss {lo base : Nat} {h : Hp} {a : Option Addr} {n c : Nat} {xss : List (List Int)} (A : LL lo base h a n c xss) : IntssAt h a n xss := let ⟨_, A, L, _⟩ := A; AccE.intss A L
theorem LL.len {lo base : Nat} {h : Hp} {a : Option Addr} {n c : Nat} {xss : List (List Int)} (A : LL lo base h a n c xss) : n = xss.length := A.intss.1
theorem AccE.to {h : Hp} (h' : Hp) [k : Ft h h'] {base : Nat} {e : TypeId} {esz : Nat} {a : Option Addr} {n c : Nat} {xs : List Value} (H : AccE h base e esz a n c xs) : AccE h' base e esz a n c xs :=
  H.keep (fun o ho _ => k.get o ho) k.nx
/-- Something else changes. -/
theorem ints_sub {h h' : Hp} {a : Option Addr} {n : Nat} {xs : List Int} (X : IntsAt h a n xs) (hk : ∀ b off, a = some ⟨b, off, none⟩ → b < h.nx → h'.get b = h.get b) (hn : h.nx ≤ h'.nx) : IntsAt h' a n xs := by
  refine ⟨X.1, X.2.imp id ?_⟩
  rintro ⟨b, off, c, e, m, h1, h2, h3, h4, h5⟩
  exact ⟨b, off, c, e, m, h1, Nat.lt_of_lt_of_le h2 hn, by rw [hk b off h1 h2]; exact h3, h4, h5⟩
/-- An element lies elsewhere than the list. -/
theorem LL.ne {h : Hp} {base : Nat} {a : Option Addr} {n c : Nat} {vs : List Value} {xss : List (List Int)} (A : AccE h base 32 1 a n c vs) (L : Lis h vs xss) {a1 : Option Addr} {n1 : Nat} {ys : List Int} (Y : IntsAt h a1 n1 ys) {b off : Nat} (hb : a1 = some ⟨b, off, none⟩) (hn : b < base ∨ 0 < n1) : a ≠ some ⟨b, 0, none⟩ := by
  intro e
  have hlt := A.lt e
  have hn : 0 < n1 := by omega
  rcases Y.2 with ⟨_, e2⟩ | ⟨b', off', cs, e', m', h1, h2, h3, h4, h5⟩
  · rw [hb] at e2; cases e2
  · rw [hb] at h1; injection h1 with h1; injection h1 with h1 h1'; subst h1 h1'
    have hy := Y.1
    have h6 : (cs.drop (off + 0 * 1)).take 1 = [.int .i64 ys[0]] := h5 0 (by omega)
    have hc : cs[off]? = some (.int .i64 ys[0]) := by
      rw [Nat.zero_mul, Nat.add_zero] at h6
      have : ((cs.drop off).take 1)[0]? = some (.int .i64 ys[0]) := by rw [h6]; rfl
      simpa using this
    have hvs : cs = vs ∨ cs = [] := by
      rcases A with (⟨q, _⟩ | ⟨o, q, _, _, _, _, hg⟩) | ⟨_, _, _, o, q, _, _, e2, m, hg⟩
      · rw [q] at e; cases e
      · rw [q] at e; injection e with e; injection e with e; subst e; rw [h3] at hg; injection hg with hg; injection hg with hg; exact .inl hg
      · rw [q] at e; injection e with e; injection e with e; subst e; rw [h3] at hg; injection hg with hg; injection hg with hg; exact .inr hg
    rcases hvs with rfl | rfl
    · have hl : off < xss.length := by
        have := (List.getElem?_eq_some_iff.1 hc).1
        rw [← L.1]; exact this
      obtain ⟨v, hv, a2, n2, c2, e2, _⟩ := L.2 off hl
      rw [hv] at hc
      injection hc with hc
      subst hc
      cases e2
    · simp at hc
/-- What is appended to lies at a new number: also a row of no elements. -/
theorem append_newE {P : Program} {sT e : TypeId} {esz bytes : Nat} (T : AppT P sT e esz bytes) {h : Hp} {base : Nat} {a : Option Addr} {n c : Nat} {xs : List Value} (H : AccE h base e esz a n c xs)
    {x : Value} {ys : List Value} {k : Nat} (hx : ∃ a n c, x = .slice a n c) (hs : srcCells h esz x = some (ys, k)) (h1 : ys.all one = true) (hkp : 0 < k) {a' : Option Addr} {n' c' : Nat} {h' : Hp} (e1 : appendV P h sT sT (.slice a n c) x = some (.slice a' n' c', h')) : a' = some ⟨h.nx, 0, none⟩ := by
  rcases H with H | ⟨rfl, rfl, rfl, o, rfl, h2, h3, e2, m, h4⟩
  · exact append_new T H hx hs h1 hkp e1
  · obtain ⟨hz, info, z, hi, hzz, hrun⟩ := T.run
    rw [hrun h _ x hx, hs] at e1
    have hk0 : Nat.beq k 0 = false := by rw [Bool.eq_false_iff]; intro hh; have := Nat.eq_of_beq_eq_true hh; omega
    simp only [Option.bind_some, h1, cond_true, hk0, cond_false] at e1
    unfold appSome at e1
    have e3 : Nat.beq 0 unk = false := by
      rw [Bool.eq_false_iff]; intro hh; have := Nat.eq_of_beq_eq_true hh; have : unk = 18446744073709551616 := rfl; omega
    have e4 : Nat.ble (0 + k) 0 = false := by
      rw [Bool.eq_false_iff]; intro hh; have : 0 + k ≤ 0 := by simpa using hh
      omega
    have e5 : readAt h o 0 (0 * esz) = some [] := by rw [Nat.zero_mul, readAt_get h4 (by simp)]; rfl
    simp only [h4, e3, e4, e5, cond_false, Option.bind_some] at e1
    unfold appNew at e1
    obtain ⟨_, e1⟩ := cond_some e1
    injection e1 with e1
    injection e1 with e1 _
    injection e1 with e1 _
    exact e1.symm
/-- What an append to a list of lists leaves. -/
structure LLK (lo base : Nat) (g h' : Hp) (a : Option Addr) : Prop where
  kp : Kp base g h'
  st : ∀ {a3 : Option Addr} {n3 c3 : Nat} {zs : List Int}, IntsAt g a3 n3 zs → VOk lo base (.slice a3 n3 c3) → IntsAt h' a3 n3 zs
  oth : ∀ q, q < g.nx → a ≠ some ⟨q, 0, none⟩ → g.get q ≠ none → h'.get q = g.get q
theorem accE_live {h : Hp} {base : Nat} {e : TypeId} {esz : Nat} {a : Option Addr} {n c : Nat} {xs : List Value} (A : AccE h base e esz a n c xs) {o : Nat} (ha : a = some ⟨o, 0, none⟩) : h.get o ≠ none := by
  rcases A with (⟨h0, _⟩ | ⟨p, h0, _, _, _, _, h6⟩) | ⟨_, _, _, p, h0, _, _, _, _, h6⟩
  · rw [h0] at ha; cases ha
  · rw [h0] at ha; injection ha with ha; injection ha with ha; subst ha; rw [h6]; simp
  · rw [h0] at ha; injection ha with ha; injection ha with ha; subst ha; rw [h6]; simp
/-- The same outside of a region. -/
theorem LL.app {lo base : Nat} (hlo : lo ≤ base) {g : Hp} {a : Option Addr} {n c : Nat} {xss : List (List Int)} (A : LL lo base g a n c xss) {a1 : Option Addr} {n1 c1 : Nat} {ys : List Int} (Y : IntsAt g a1 n1 ys) (okY : VOk lo base (.slice a1 n1 c1)) (hb : base ≤ g.nx) (hg : GdLt g base) (hf : g.Fresh) (hn : n < 10000000)
    {K : Option Addr → Nat → Nat → Hp → Prop} (next : ∀ a' c' h', LL lo base h' a' (n + 1) c' (xss ++ [ys]) → (∀ p, a' = some ⟨p, 0, none⟩ → g.nx ≤ p) → LLK lo base g h' a → K a' (n + 1) c' h') :
    ∃ a' n' c' h', appendV Tryd.prog (g.add (.cells [.slice a1 n1 c1] 32 .fix)) 28 28 (.slice a n c) (.slice (some ⟨g.nx, 0, none⟩) 1 1) = some (.slice a' n' c', h') ∧ K a' n' c' h' := by
  have _ := hlo
  obtain ⟨vs, A, L, o⟩ := A
  have A2 : AccE (g.add (.cells [.slice a1 n1 c1] 32 .fix)) base 32 1 a n c vs := AccE.to _ A
  obtain ⟨a', n', c', h', e1, A', rfl, k⟩ := append_accE app28 A2 (by rw [nx_add]; omega) hg ⟨_, _, _, rfl⟩ (src_get (n := 1) (c := 1) (esz := 1) (off := 0) (read1 (i := 0) (v := .slice a1 n1 c1) (get_add_same ..) rfl)) rfl rfl (by omega) (by unfold big; omega)
  have _ := hf
  have k2 : Kp base g h' := ((Kp.refl base g).add hb _).trans (k.kpE A2 (by rw [nx_add]; omega))
  have st : ∀ {a3 : Option Addr} {n3 c3 : Nat} {zs : List Int}, IntsAt g a3 n3 zs → VOk lo base (.slice a3 n3 c3) → IntsAt h' a3 n3 zs := by
    intro a3 n3 c3 zs Z ok
    refine ints_sub Z (fun b off hb hlt => ?_) k2.nx
    have hne := LL.ne A L Z hb (ok b off n3 c3 (by rw [hb])).2
    rw [k.get b (by rw [nx_add]; omega) hne, get_add_ne (by omega)]
  have fr := append_newE app28 A2 ⟨_, _, _, rfl⟩ (src_get (n := 1) (c := 1) (esz := 1) (off := 0) (read1 (i := 0) (v := .slice a1 n1 c1) (get_add_same ..) rfl)) rfl Nat.one_pos e1
  refine ⟨a', _, c', h', e1, next a' c' _ ⟨vs ++ [.slice a1 n1 c1], A', Lis.app ⟨L.1, fun i hi => ?_⟩ ⟨rfl, fun i hi => ?_⟩, fun v hv => ?_⟩ (fun p hp => by rw [fr] at hp; injection hp with hp; injection hp with hp; have : (g.add (.cells [.slice a1 n1 c1] 32 .fix)).nx = g.nx + 1 := rfl; omega) ⟨k2, st, fun p hp hne _ => by rw [k.get p (by rw [nx_add]; omega) hne, get_add_ne (by omega)]⟩⟩
  · obtain ⟨v, hv, a3, n3, c3, e, X⟩ := L.2 i hi
    have e' : v = .slice a3 n3 c3 := by simpa using e
    exact ⟨v, hv, a3, n3, c3, e, st X (by rw [← e']; exact o v (List.mem_of_getElem? hv))⟩
  · have : i = 0 := by simpa using hi
    subst this
    exact ⟨_, rfl, a1, n1, c1, rfl, st Y okY⟩
  · rcases List.mem_append.1 hv with hv | hv
    · exact o v hv
    · obtain rfl := List.mem_singleton.1 hv; exact okY
/-- Something is laid at a number that was free. -/
theorem ints_lay {h : Hp} {q : Nat} (hq : h.get q = none) (x : Ob) {a : Option Addr} {n : Nat} {xs : List Int} (X : IntsAt h a n xs) : IntsAt (h.lay q x) a n xs := by
  refine ⟨X.1, X.2.imp id ?_⟩
  rintro ⟨b, off, c, e, m, h1, h2, h3, h4, h5⟩
  exact ⟨b, off, c, e, m, h1, h2, by rw [get_lay, if_neg (fun hh => by rw [hh, hq] at h3; cases h3)]; exact h3, h4, h5⟩
theorem LL.lay {lo base : Nat} {h : Hp} {q : Nat} (hq : h.get q = none) (x : Ob) {a : Option Addr} {n c : Nat} {xss : List (List Int)} (A : LL lo base h a n c xss) : LL lo base (h.lay q x) a n c xss := by
  obtain ⟨vs, A, L, o⟩ := A
  refine ⟨vs, A.keep (fun p _ hp => by rw [get_lay, if_neg (fun hh => accE_live A hp (by rw [hh]; exact hq))]) (Nat.le_refl _), ⟨L.1, fun i hi => ?_⟩, o⟩
  obtain ⟨v, hv, a', n', c', e, X⟩ := L.2 i hi
  exact ⟨v, hv, a', n', c', e, ints_lay hq x X⟩
end Go.Proofs.YtfgfhplgnfbaaaaDoor
