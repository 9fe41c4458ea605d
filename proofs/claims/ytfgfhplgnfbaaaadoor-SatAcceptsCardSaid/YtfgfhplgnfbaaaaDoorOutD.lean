/- Conditions of functions' code, printed by a program of ours. -/
import Derived.Test.YtfgfhplgnfbaaaaDoorProg
import Derived.Test.YtfgfhplgnfbaaaaDoorVcA
import Derived.KernelRfl
namespace Go.Proofs.YtfgfhplgnfbaaaaDoor
open Go Go.Ev
set_option maxRecDepth 100000
set_option linter.unusedVariables false
/-! sward/sat.contrary -/
noncomputable def b96 : Code := (Tryd.f96.body).getD .skip
noncomputable def stk96_0 : List KI := [.code (sub [1, 1, 0, 1, 0] b96), .blk 0, .code (sub [1, 1, 1] b96)]
def lv96 : List (Nat × List Nat) := [(0, [2, 3, 6, 7, 8])]
def I96_0 (O : CallF) (Q : Value → Hp → Prop) (a0 : Option Addr) (n0 : Nat) (c0 : Nat) (a3 : Option Addr) (n3 : Nat) (c3 : Nat) (x8 : Int) (h : Hp) : Prop := RKL Tryd.prog O Tryd.f96 stk96_0 21 [2, 3, 6, 7, 8] [(.slice none 0 0), (.slice a3 n3 c3), (.slice a0 n0 c0), (.int .i64 (Int.ofNat n0)), (.int .i64 x8)] h Q
def T96 (O : CallF) (Q : Value → Hp → Prop) (a0 : Option Addr) (n0 : Nat) (c0 : Nat) (h : Hp) : Prop :=
  I96_0 O Q a0 n0 c0 none 0 0 0 h
theorem rk96 {O Q} (a0 n0 c0) {h : Hp} (hO : O 96 [(.slice a0 n0 c0)] h = none) (hh : T96 O Q a0 n0 c0 h) : Ret Tryd.prog O 96 [(.slice a0 n0 c0)] h Q :=
  .of (c := b96) Tryd.func96 (by kernel_rfl) hO (V_ok (tb := lv96) (cuts := []) 500 (Eq.mp (by kernel_rfl) hh))
def T96_0 (O : CallF) (Q : Value → Hp → Prop) (a0 : Option Addr) (n0 : Nat) (c0 : Nat) (a3 : Option Addr) (n3 : Nat) (c3 : Nat) (x8 : Int) (h : Hp) : Prop :=
  vcond (ltI x8 (Int.ofNat n0))
  (isNat x8 fun n101' =>
  isAddr a0 fun b102' f103' =>
  vreq (Nat.blt n101' n0)
  (∃ x104', readAt h b102' (f103' + (n101' * 1)) 1 = some [(.int .i64 x104')] ∧
  ∃ a105' n106' c107' h108', appendV Tryd.prog (h.add (.cells [(.int .i64 (wrapF .i64 (0 - x104')))] 3 .fix)) 32 32 (.slice a3 n3 c3) (.slice (some ⟨h.nx, 0, none⟩) 1 1) = some (.slice a105' n106' c107', h108') ∧
  I96_0 O Q a0 n0 c0 a105' n106' c107' (wrapF .i64 (x8 + 1)) h108'))
  (∃ h109', EvC Tryd.prog O 74 [(.slice a3 n3 c3), (.func (.func 123) #[] #[])] h undef h109' ∧
  Q (.slice a3 n3 c3) h109')
theorem I96_0.of {O Q} (a0 n0 c0 a3 n3 c3 x8) {h : Hp} (hh : T96_0 O Q a0 n0 c0 a3 n3 c3 x8 h) : I96_0 O Q a0 n0 c0 a3 n3 c3 x8 h :=
  RKL.of (tb := lv96) (cuts := []) 500 fun _ => Eq.mp (by kernel_rfl) hh
/-! sward/sat.contrary$1 -/
noncomputable def b123 : Code := (Tryd.f123.body).getD .skip
def lv123 : List (Nat × List Nat) := []
def T123 (O : CallF) (Q : Value → Hp → Prop) (x0 : Int) (x1 : Int) (h : Hp) : Prop :=
  ∃ x1', ∃ h2', EvC Tryd.prog O 94 [(.int .i64 x0)] h (.int .i64 x1') h2' ∧
  ∃ x3', ∃ h4', EvC Tryd.prog O 94 [(.int .i64 x1)] h2' (.int .i64 x3') h4' ∧
  Q (.int .i64 (wrapF .i64 (x1' - x3'))) h4'
theorem rk123 {O Q} (x0 x1) {h : Hp} (hO : O 123 [(.int .i64 x0), (.int .i64 x1)] h = none) (hh : T123 O Q x0 x1 h) : Ret Tryd.prog O 123 [(.int .i64 x0), (.int .i64 x1)] h Q :=
  .of (c := b123) Tryd.func123 (by kernel_rfl) hO (V_ok (tb := lv123) (cuts := []) 500 (Eq.mp (by kernel_rfl) hh))
/-! slices.SortFunc[[]int,int] -/
noncomputable def b74 : Code := (Tryd.f74.body).getD .skip
def lv74 : List (Nat × List Nat) := []
def T74 (O : CallF) (Q : Value → Hp → Prop) (a0 : Option Addr) (n0 : Nat) (c0 : Nat) (g1 : Nat) (fi1 : Array Value) (ca1 : Array Value) (h : Hp) : Prop :=
  ∃ x1', ∃ h2', EvC Tryd.prog O 116 [(.int .u64 (wrapF .u64 (Int.ofNat n0)))] h (.int .i64 x1') h2' ∧
  ∃ h3', EvC Tryd.prog O 115 [(.slice a0 n0 c0), (.int .i64 0), (.int .i64 (Int.ofNat n0)), (.int .i64 x1'), (.func (.func g1) fi1 ca1)] h2' undef h3' ∧
  Q undef h3'
theorem rk74 {O Q} (a0 n0 c0 g1 fi1 ca1) {h : Hp} (hO : O 74 [(.slice a0 n0 c0), (.func (.func g1) fi1 ca1)] h = none) (hh : T74 O Q a0 n0 c0 g1 fi1 ca1 h) : Ret Tryd.prog O 74 [(.slice a0 n0 c0), (.func (.func g1) fi1 ca1)] h Q :=
  .of (c := b74) Tryd.func74 (by kernel_rfl) hO (V_ok (tb := lv74) (cuts := []) 500 (Eq.mp (by kernel_rfl) hh))
/-! slices.pdqsortCmpFunc[int] -/
noncomputable def b115 : Code := (Tryd.f115.body).getD .skip
noncomputable def stk115_0 : List KI := [.code (sub [1, 1, 0] b115), .blk 0]
def lv115 : List (Nat × List Nat) := [(0, [0, 1, 2, 3, 4, 10, 11])]
def I115_0 (O : CallF) (Q : Value → Hp → Prop) (a0 : Option Addr) (n0 : Nat) (c0 : Nat) (x1 : Int) (x2 : Int) (x3 : Int) (g4 : Nat) (fi4 : Array Value) (ca4 : Array Value) (x1s : Int) (x2s : Int) (x3s : Int) (g4s : Nat) (fi4s : Array Value) (ca4s : Array Value) (q10 : Bool) (q11 : Bool) (h : Hp) : Prop := RKL Tryd.prog O Tryd.f115 stk115_0 148 [0, 1, 2, 3, 4, 10, 11] [(.slice a0 n0 c0), (.int .i64 x1s), (.int .i64 x2s), (.int .i64 x3s), (.func (.func g4s) fi4s ca4s), (.bool q10), (.bool q11)] h Q
def T115 (O : CallF) (Q : Value → Hp → Prop) (a0 : Option Addr) (n0 : Nat) (c0 : Nat) (x1 : Int) (x2 : Int) (x3 : Int) (g4 : Nat) (fi4 : Array Value) (ca4 : Array Value) (h : Hp) : Prop :=
  I115_0 O Q a0 n0 c0 x1 x2 x3 g4 fi4 ca4 x1 x2 x3 g4 fi4 ca4 true true h
theorem rk115 {O Q} (a0 n0 c0 x1 x2 x3 g4 fi4 ca4) {h : Hp} (hO : O 115 [(.slice a0 n0 c0), (.int .i64 x1), (.int .i64 x2), (.int .i64 x3), (.func (.func g4) fi4 ca4)] h = none) (hh : T115 O Q a0 n0 c0 x1 x2 x3 g4 fi4 ca4 h) : Ret Tryd.prog O 115 [(.slice a0 n0 c0), (.int .i64 x1), (.int .i64 x2), (.int .i64 x3), (.func (.func g4) fi4 ca4)] h Q :=
  .of (c := b115) Tryd.func115 (by kernel_rfl) hO (V_ok (tb := lv115) (cuts := []) 500 (Eq.mp (by kernel_rfl) hh))
def T115_0 (O : CallF) (Q : Value → Hp → Prop) (a0 : Option Addr) (n0 : Nat) (c0 : Nat) (x1 : Int) (x2 : Int) (x3 : Int) (g4 : Nat) (fi4 : Array Value) (ca4 : Array Value) (x1s : Int) (x2s : Int) (x3s : Int) (g4s : Nat) (fi4s : Array Value) (ca4s : Array Value) (q10 : Bool) (q11 : Bool) (h : Hp) : Prop :=
  vcond (!(ltI 12 (wrapF .i64 (x2s - x1s))))
  (∃ h101', EvC Tryd.prog O 127 [(.slice a0 n0 c0), (.int .i64 x1s), (.int .i64 x2s), (.func (.func g4s) fi4s ca4s)] h undef h101' ∧
  Q undef h101')
  (vcond (eqI x3s 0)
  (∃ h102', EvC Tryd.prog O 128 [(.slice a0 n0 c0), (.int .i64 x1s), (.int .i64 x2s), (.func (.func g4s) fi4s ca4s)] h undef h102' ∧
  Q undef h102')
  (vcond (!q10)
  (∃ h103', EvC Tryd.prog O 129 [(.slice a0 n0 c0), (.int .i64 x1s), (.int .i64 x2s), (.func (.func g4s) fi4s ca4s)] h undef h103' ∧
  ∃ x104', ∃ x105', ∃ h106', EvC Tryd.prog O 130 [(.slice a0 n0 c0), (.int .i64 x1s), (.int .i64 x2s), (.func (.func g4s) fi4s ca4s)] h103' (.tuple #[(.int .i64 x104'), (.int .i64 x105')]) h106' ∧
  vcond (eqI x105' 2)
  (∃ h107', EvC Tryd.prog O 131 [(.slice a0 n0 c0), (.int .i64 x1s), (.int .i64 x2s), (.func (.func g4s) fi4s ca4s)] h106' undef h107' ∧
  vcond q10
  (vcond q11
  (∃ q108', ∃ h109', EvC Tryd.prog O 132 [(.slice a0 n0 c0), (.int .i64 x1s), (.int .i64 x2s), (.func (.func g4s) fi4s ca4s)] h107' (.bool q108') h109' ∧
  vcond q108'
  (Q undef h109')
  (vcond (ltI 0 x1s)
  (isNat (wrapF .i64 (x1s - 1)) fun n110' =>
  isAddr a0 fun b111' f112' =>
  vreq (Nat.blt n110' n0)
  (∃ x113', readAt (h109'.rsv 17) b111' (f112' + (n110' * 1)) 1 = some [(.int .i64 x113')] ∧
  isNat (wrapF .i64 ((wrapF .i64 (x2s - 1)) - (wrapF .i64 (x104' - x1s)))) fun n114' =>
  isAddr a0 fun b115' f116' =>
  vreq (Nat.blt n114' n0)
  (∃ x117', readAt (h109'.rsv 17) b115' (f116' + (n114' * 1)) 1 = some [(.int .i64 x117')] ∧
  ∃ x118', ∃ h119', EvC Tryd.prog O g4s (fi4s.toList ++ [(.int .i64 x113'), (.int .i64 x117')] ++ ca4s.toList) ((h109'.rsv 17).grd []) (.int .i64 x118') h119' ∧
  vcond (!(ltI x118' 0))
  (∃ x120', ∃ h121', EvC Tryd.prog O 133 [(.slice a0 n0 c0), (.int .i64 x1s), (.int .i64 x2s), (.int .i64 (wrapF .i64 ((wrapF .i64 (x2s - 1)) - (wrapF .i64 (x104' - x1s))))), (.func (.func g4s) fi4s ca4s)] (h119'.rst (h109'.rsv 17)) (.int .i64 x120') h121' ∧
  I115_0 O Q a0 n0 c0 x1 x2 x3 g4 fi4 ca4 x120' x2s (wrapF .i64 (x3s - 1)) g4s fi4s ca4s q10 q11 h121')
  (∃ x122', ∃ q123', ∃ h124', EvC Tryd.prog O 134 [(.slice a0 n0 c0), (.int .i64 x1s), (.int .i64 x2s), (.int .i64 (wrapF .i64 ((wrapF .i64 (x2s - 1)) - (wrapF .i64 (x104' - x1s))))), (.func (.func g4s) fi4s ca4s)] (h119'.rst (h109'.rsv 17)) (.tuple #[(.int .i64 x122'), (.bool q123')]) h124' ∧
  vcond (ltI (wrapF .i64 (x122' - x1s)) (wrapF .i64 (x2s - x122')))
  (∃ h125', EvC Tryd.prog O 115 [(.slice a0 n0 c0), (.int .i64 x1s), (.int .i64 x122'), (.int .i64 (wrapF .i64 (x3s - 1))), (.func (.func g4s) fi4s ca4s)] h124' undef h125' ∧
  I115_0 O Q a0 n0 c0 x1 x2 x3 g4 fi4 ca4 (wrapF .i64 (x122' + 1)) x2s (wrapF .i64 (x3s - 1)) g4s fi4s ca4s (!(ltI (wrapF .i64 (x122' - x1s)) (wrapF .i64 (Int.tdiv (wrapF .i64 (x2s - x1s)) 8)))) q123' h125')
  (∃ h126', EvC Tryd.prog O 115 [(.slice a0 n0 c0), (.int .i64 (wrapF .i64 (x122' + 1))), (.int .i64 x2s), (.int .i64 (wrapF .i64 (x3s - 1))), (.func (.func g4s) fi4s ca4s)] h124' undef h126' ∧
  I115_0 O Q a0 n0 c0 x1 x2 x3 g4 fi4 ca4 x1s x122' (wrapF .i64 (x3s - 1)) g4s fi4s ca4s (!(ltI (wrapF .i64 (x2s - x122')) (wrapF .i64 (Int.tdiv (wrapF .i64 (x2s - x1s)) 8)))) q123' h126')))))
  (∃ x127', ∃ q128', ∃ h129', EvC Tryd.prog O 134 [(.slice a0 n0 c0), (.int .i64 x1s), (.int .i64 x2s), (.int .i64 (wrapF .i64 ((wrapF .i64 (x2s - 1)) - (wrapF .i64 (x104' - x1s))))), (.func (.func g4s) fi4s ca4s)] (h109'.rsv 17) (.tuple #[(.int .i64 x127'), (.bool q128')]) h129' ∧
  vcond (ltI (wrapF .i64 (x127' - x1s)) (wrapF .i64 (x2s - x127')))
  (∃ h130', EvC Tryd.prog O 115 [(.slice a0 n0 c0), (.int .i64 x1s), (.int .i64 x127'), (.int .i64 (wrapF .i64 (x3s - 1))), (.func (.func g4s) fi4s ca4s)] h129' undef h130' ∧
  I115_0 O Q a0 n0 c0 x1 x2 x3 g4 fi4 ca4 (wrapF .i64 (x127' + 1)) x2s (wrapF .i64 (x3s - 1)) g4s fi4s ca4s (!(ltI (wrapF .i64 (x127' - x1s)) (wrapF .i64 (Int.tdiv (wrapF .i64 (x2s - x1s)) 8)))) q128' h130')
  (∃ h131', EvC Tryd.prog O 115 [(.slice a0 n0 c0), (.int .i64 (wrapF .i64 (x127' + 1))), (.int .i64 x2s), (.int .i64 (wrapF .i64 (x3s - 1))), (.func (.func g4s) fi4s ca4s)] h129' undef h131' ∧
  I115_0 O Q a0 n0 c0 x1 x2 x3 g4 fi4 ca4 x1s x127' (wrapF .i64 (x3s - 1)) g4s fi4s ca4s (!(ltI (wrapF .i64 (x2s - x127')) (wrapF .i64 (Int.tdiv (wrapF .i64 (x2s - x1s)) 8)))) q128' h131'))))
  (vcond (ltI 0 x1s)
  (isNat (wrapF .i64 (x1s - 1)) fun n132' =>
  isAddr a0 fun b133' f134' =>
  vreq (Nat.blt n132' n0)
  (∃ x135', readAt (h107'.rsv 17) b133' (f134' + (n132' * 1)) 1 = some [(.int .i64 x135')] ∧
  isNat (wrapF .i64 ((wrapF .i64 (x2s - 1)) - (wrapF .i64 (x104' - x1s)))) fun n136' =>
  isAddr a0 fun b137' f138' =>
  vreq (Nat.blt n136' n0)
  (∃ x139', readAt (h107'.rsv 17) b137' (f138' + (n136' * 1)) 1 = some [(.int .i64 x139')] ∧
  ∃ x140', ∃ h141', EvC Tryd.prog O g4s (fi4s.toList ++ [(.int .i64 x135'), (.int .i64 x139')] ++ ca4s.toList) ((h107'.rsv 17).grd []) (.int .i64 x140') h141' ∧
  vcond (!(ltI x140' 0))
  (∃ x142', ∃ h143', EvC Tryd.prog O 133 [(.slice a0 n0 c0), (.int .i64 x1s), (.int .i64 x2s), (.int .i64 (wrapF .i64 ((wrapF .i64 (x2s - 1)) - (wrapF .i64 (x104' - x1s))))), (.func (.func g4s) fi4s ca4s)] (h141'.rst (h107'.rsv 17)) (.int .i64 x142') h143' ∧
  I115_0 O Q a0 n0 c0 x1 x2 x3 g4 fi4 ca4 x142' x2s (wrapF .i64 (x3s - 1)) g4s fi4s ca4s q10 q11 h143')
  (∃ x144', ∃ q145', ∃ h146', EvC Tryd.prog O 134 [(.slice a0 n0 c0), (.int .i64 x1s), (.int .i64 x2s), (.int .i64 (wrapF .i64 ((wrapF .i64 (x2s - 1)) - (wrapF .i64 (x104' - x1s))))), (.func (.func g4s) fi4s ca4s)] (h141'.rst (h107'.rsv 17)) (.tuple #[(.int .i64 x144'), (.bool q145')]) h146' ∧
  vcond (ltI (wrapF .i64 (x144' - x1s)) (wrapF .i64 (x2s - x144')))
  (∃ h147', EvC Tryd.prog O 115 [(.slice a0 n0 c0), (.int .i64 x1s), (.int .i64 x144'), (.int .i64 (wrapF .i64 (x3s - 1))), (.func (.func g4s) fi4s ca4s)] h146' undef h147' ∧
  I115_0 O Q a0 n0 c0 x1 x2 x3 g4 fi4 ca4 (wrapF .i64 (x144' + 1)) x2s (wrapF .i64 (x3s - 1)) g4s fi4s ca4s (!(ltI (wrapF .i64 (x144' - x1s)) (wrapF .i64 (Int.tdiv (wrapF .i64 (x2s - x1s)) 8)))) q145' h147')
  (∃ h148', EvC Tryd.prog O 115 [(.slice a0 n0 c0), (.int .i64 (wrapF .i64 (x144' + 1))), (.int .i64 x2s), (.int .i64 (wrapF .i64 (x3s - 1))), (.func (.func g4s) fi4s ca4s)] h146' undef h148' ∧
  I115_0 O Q a0 n0 c0 x1 x2 x3 g4 fi4 ca4 x1s x144' (wrapF .i64 (x3s - 1)) g4s fi4s ca4s (!(ltI (wrapF .i64 (x2s - x144')) (wrapF .i64 (Int.tdiv (wrapF .i64 (x2s - x1s)) 8)))) q145' h148')))))
  (∃ x149', ∃ q150', ∃ h151', EvC Tryd.prog O 134 [(.slice a0 n0 c0), (.int .i64 x1s), (.int .i64 x2s), (.int .i64 (wrapF .i64 ((wrapF .i64 (x2s - 1)) - (wrapF .i64 (x104' - x1s))))), (.func (.func g4s) fi4s ca4s)] (h107'.rsv 17) (.tuple #[(.int .i64 x149'), (.bool q150')]) h151' ∧
  vcond (ltI (wrapF .i64 (x149' - x1s)) (wrapF .i64 (x2s - x149')))
  (∃ h152', EvC Tryd.prog O 115 [(.slice a0 n0 c0), (.int .i64 x1s), (.int .i64 x149'), (.int .i64 (wrapF .i64 (x3s - 1))), (.func (.func g4s) fi4s ca4s)] h151' undef h152' ∧
  I115_0 O Q a0 n0 c0 x1 x2 x3 g4 fi4 ca4 (wrapF .i64 (x149' + 1)) x2s (wrapF .i64 (x3s - 1)) g4s fi4s ca4s (!(ltI (wrapF .i64 (x149' - x1s)) (wrapF .i64 (Int.tdiv (wrapF .i64 (x2s - x1s)) 8)))) q150' h152')
  (∃ h153', EvC Tryd.prog O 115 [(.slice a0 n0 c0), (.int .i64 (wrapF .i64 (x149' + 1))), (.int .i64 x2s), (.int .i64 (wrapF .i64 (x3s - 1))), (.func (.func g4s) fi4s ca4s)] h151' undef h153' ∧
  I115_0 O Q a0 n0 c0 x1 x2 x3 g4 fi4 ca4 x1s x149' (wrapF .i64 (x3s - 1)) g4s fi4s ca4s (!(ltI (wrapF .i64 (x2s - x149')) (wrapF .i64 (Int.tdiv (wrapF .i64 (x2s - x1s)) 8)))) q150' h153'))))
  (vcond (ltI 0 x1s)
  (isNat (wrapF .i64 (x1s - 1)) fun n154' =>
  isAddr a0 fun b155' f156' =>
  vreq (Nat.blt n154' n0)
  (∃ x157', readAt (h107'.rsv 17) b155' (f156' + (n154' * 1)) 1 = some [(.int .i64 x157')] ∧
  isNat (wrapF .i64 ((wrapF .i64 (x2s - 1)) - (wrapF .i64 (x104' - x1s)))) fun n158' =>
  isAddr a0 fun b159' f160' =>
  vreq (Nat.blt n158' n0)
  (∃ x161', readAt (h107'.rsv 17) b159' (f160' + (n158' * 1)) 1 = some [(.int .i64 x161')] ∧
  ∃ x162', ∃ h163', EvC Tryd.prog O g4s (fi4s.toList ++ [(.int .i64 x157'), (.int .i64 x161')] ++ ca4s.toList) ((h107'.rsv 17).grd []) (.int .i64 x162') h163' ∧
  vcond (!(ltI x162' 0))
  (∃ x164', ∃ h165', EvC Tryd.prog O 133 [(.slice a0 n0 c0), (.int .i64 x1s), (.int .i64 x2s), (.int .i64 (wrapF .i64 ((wrapF .i64 (x2s - 1)) - (wrapF .i64 (x104' - x1s))))), (.func (.func g4s) fi4s ca4s)] (h163'.rst (h107'.rsv 17)) (.int .i64 x164') h165' ∧
  I115_0 O Q a0 n0 c0 x1 x2 x3 g4 fi4 ca4 x164' x2s (wrapF .i64 (x3s - 1)) g4s fi4s ca4s q10 q11 h165')
  (∃ x166', ∃ q167', ∃ h168', EvC Tryd.prog O 134 [(.slice a0 n0 c0), (.int .i64 x1s), (.int .i64 x2s), (.int .i64 (wrapF .i64 ((wrapF .i64 (x2s - 1)) - (wrapF .i64 (x104' - x1s))))), (.func (.func g4s) fi4s ca4s)] (h163'.rst (h107'.rsv 17)) (.tuple #[(.int .i64 x166'), (.bool q167')]) h168' ∧
  vcond (ltI (wrapF .i64 (x166' - x1s)) (wrapF .i64 (x2s - x166')))
  (∃ h169', EvC Tryd.prog O 115 [(.slice a0 n0 c0), (.int .i64 x1s), (.int .i64 x166'), (.int .i64 (wrapF .i64 (x3s - 1))), (.func (.func g4s) fi4s ca4s)] h168' undef h169' ∧
  I115_0 O Q a0 n0 c0 x1 x2 x3 g4 fi4 ca4 (wrapF .i64 (x166' + 1)) x2s (wrapF .i64 (x3s - 1)) g4s fi4s ca4s (!(ltI (wrapF .i64 (x166' - x1s)) (wrapF .i64 (Int.tdiv (wrapF .i64 (x2s - x1s)) 8)))) q167' h169')
  (∃ h170', EvC Tryd.prog O 115 [(.slice a0 n0 c0), (.int .i64 (wrapF .i64 (x166' + 1))), (.int .i64 x2s), (.int .i64 (wrapF .i64 (x3s - 1))), (.func (.func g4s) fi4s ca4s)] h168' undef h170' ∧
  I115_0 O Q a0 n0 c0 x1 x2 x3 g4 fi4 ca4 x1s x166' (wrapF .i64 (x3s - 1)) g4s fi4s ca4s (!(ltI (wrapF .i64 (x2s - x166')) (wrapF .i64 (Int.tdiv (wrapF .i64 (x2s - x1s)) 8)))) q167' h170')))))
  (∃ x171', ∃ q172', ∃ h173', EvC Tryd.prog O 134 [(.slice a0 n0 c0), (.int .i64 x1s), (.int .i64 x2s), (.int .i64 (wrapF .i64 ((wrapF .i64 (x2s - 1)) - (wrapF .i64 (x104' - x1s))))), (.func (.func g4s) fi4s ca4s)] (h107'.rsv 17) (.tuple #[(.int .i64 x171'), (.bool q172')]) h173' ∧
  vcond (ltI (wrapF .i64 (x171' - x1s)) (wrapF .i64 (x2s - x171')))
  (∃ h174', EvC Tryd.prog O 115 [(.slice a0 n0 c0), (.int .i64 x1s), (.int .i64 x171'), (.int .i64 (wrapF .i64 (x3s - 1))), (.func (.func g4s) fi4s ca4s)] h173' undef h174' ∧
  I115_0 O Q a0 n0 c0 x1 x2 x3 g4 fi4 ca4 (wrapF .i64 (x171' + 1)) x2s (wrapF .i64 (x3s - 1)) g4s fi4s ca4s (!(ltI (wrapF .i64 (x171' - x1s)) (wrapF .i64 (Int.tdiv (wrapF .i64 (x2s - x1s)) 8)))) q172' h174')
  (∃ h175', EvC Tryd.prog O 115 [(.slice a0 n0 c0), (.int .i64 (wrapF .i64 (x171' + 1))), (.int .i64 x2s), (.int .i64 (wrapF .i64 (x3s - 1))), (.func (.func g4s) fi4s ca4s)] h173' undef h175' ∧
  I115_0 O Q a0 n0 c0 x1 x2 x3 g4 fi4 ca4 x1s x171' (wrapF .i64 (x3s - 1)) g4s fi4s ca4s (!(ltI (wrapF .i64 (x2s - x171')) (wrapF .i64 (Int.tdiv (wrapF .i64 (x2s - x1s)) 8)))) q172' h175'))))
  (vcond q10
  (vcond q11
  (vcond (eqI x105' 1)
  (∃ q176', ∃ h177', EvC Tryd.prog O 132 [(.slice a0 n0 c0), (.int .i64 x1s), (.int .i64 x2s), (.func (.func g4s) fi4s ca4s)] h106' (.bool q176') h177' ∧
  vcond q176'
  (Q undef h177')
  (vcond (ltI 0 x1s)
  (isNat (wrapF .i64 (x1s - 1)) fun n178' =>
  isAddr a0 fun b179' f180' =>
  vreq (Nat.blt n178' n0)
  (∃ x181', readAt (h177'.rsv 17) b179' (f180' + (n178' * 1)) 1 = some [(.int .i64 x181')] ∧
  isNat x104' fun n182' =>
  isAddr a0 fun b183' f184' =>
  vreq (Nat.blt n182' n0)
  (∃ x185', readAt (h177'.rsv 17) b183' (f184' + (n182' * 1)) 1 = some [(.int .i64 x185')] ∧
  ∃ x186', ∃ h187', EvC Tryd.prog O g4s (fi4s.toList ++ [(.int .i64 x181'), (.int .i64 x185')] ++ ca4s.toList) ((h177'.rsv 17).grd []) (.int .i64 x186') h187' ∧
  vcond (!(ltI x186' 0))
  (∃ x188', ∃ h189', EvC Tryd.prog O 133 [(.slice a0 n0 c0), (.int .i64 x1s), (.int .i64 x2s), (.int .i64 x104'), (.func (.func g4s) fi4s ca4s)] (h187'.rst (h177'.rsv 17)) (.int .i64 x188') h189' ∧
  I115_0 O Q a0 n0 c0 x1 x2 x3 g4 fi4 ca4 x188' x2s (wrapF .i64 (x3s - 1)) g4s fi4s ca4s q10 q11 h189')
  (∃ x190', ∃ q191', ∃ h192', EvC Tryd.prog O 134 [(.slice a0 n0 c0), (.int .i64 x1s), (.int .i64 x2s), (.int .i64 x104'), (.func (.func g4s) fi4s ca4s)] (h187'.rst (h177'.rsv 17)) (.tuple #[(.int .i64 x190'), (.bool q191')]) h192' ∧
  vcond (ltI (wrapF .i64 (x190' - x1s)) (wrapF .i64 (x2s - x190')))
  (∃ h193', EvC Tryd.prog O 115 [(.slice a0 n0 c0), (.int .i64 x1s), (.int .i64 x190'), (.int .i64 (wrapF .i64 (x3s - 1))), (.func (.func g4s) fi4s ca4s)] h192' undef h193' ∧
  I115_0 O Q a0 n0 c0 x1 x2 x3 g4 fi4 ca4 (wrapF .i64 (x190' + 1)) x2s (wrapF .i64 (x3s - 1)) g4s fi4s ca4s (!(ltI (wrapF .i64 (x190' - x1s)) (wrapF .i64 (Int.tdiv (wrapF .i64 (x2s - x1s)) 8)))) q191' h193')
  (∃ h194', EvC Tryd.prog O 115 [(.slice a0 n0 c0), (.int .i64 (wrapF .i64 (x190' + 1))), (.int .i64 x2s), (.int .i64 (wrapF .i64 (x3s - 1))), (.func (.func g4s) fi4s ca4s)] h192' undef h194' ∧
  I115_0 O Q a0 n0 c0 x1 x2 x3 g4 fi4 ca4 x1s x190' (wrapF .i64 (x3s - 1)) g4s fi4s ca4s (!(ltI (wrapF .i64 (x2s - x190')) (wrapF .i64 (Int.tdiv (wrapF .i64 (x2s - x1s)) 8)))) q191' h194')))))
  (∃ x195', ∃ q196', ∃ h197', EvC Tryd.prog O 134 [(.slice a0 n0 c0), (.int .i64 x1s), (.int .i64 x2s), (.int .i64 x104'), (.func (.func g4s) fi4s ca4s)] (h177'.rsv 17) (.tuple #[(.int .i64 x195'), (.bool q196')]) h197' ∧
  vcond (ltI (wrapF .i64 (x195' - x1s)) (wrapF .i64 (x2s - x195')))
  (∃ h198', EvC Tryd.prog O 115 [(.slice a0 n0 c0), (.int .i64 x1s), (.int .i64 x195'), (.int .i64 (wrapF .i64 (x3s - 1))), (.func (.func g4s) fi4s ca4s)] h197' undef h198' ∧
  I115_0 O Q a0 n0 c0 x1 x2 x3 g4 fi4 ca4 (wrapF .i64 (x195' + 1)) x2s (wrapF .i64 (x3s - 1)) g4s fi4s ca4s (!(ltI (wrapF .i64 (x195' - x1s)) (wrapF .i64 (Int.tdiv (wrapF .i64 (x2s - x1s)) 8)))) q196' h198')
  (∃ h199', EvC Tryd.prog O 115 [(.slice a0 n0 c0), (.int .i64 (wrapF .i64 (x195' + 1))), (.int .i64 x2s), (.int .i64 (wrapF .i64 (x3s - 1))), (.func (.func g4s) fi4s ca4s)] h197' undef h199' ∧
  I115_0 O Q a0 n0 c0 x1 x2 x3 g4 fi4 ca4 x1s x195' (wrapF .i64 (x3s - 1)) g4s fi4s ca4s (!(ltI (wrapF .i64 (x2s - x195')) (wrapF .i64 (Int.tdiv (wrapF .i64 (x2s - x1s)) 8)))) q196' h199'))))
  (vcond (ltI 0 x1s)
  (isNat (wrapF .i64 (x1s - 1)) fun n200' =>
  isAddr a0 fun b201' f202' =>
  vreq (Nat.blt n200' n0)
  (∃ x203', readAt (h106'.rsv 17) b201' (f202' + (n200' * 1)) 1 = some [(.int .i64 x203')] ∧
  isNat x104' fun n204' =>
  isAddr a0 fun b205' f206' =>
  vreq (Nat.blt n204' n0)
  (∃ x207', readAt (h106'.rsv 17) b205' (f206' + (n204' * 1)) 1 = some [(.int .i64 x207')] ∧
  ∃ x208', ∃ h209', EvC Tryd.prog O g4s (fi4s.toList ++ [(.int .i64 x203'), (.int .i64 x207')] ++ ca4s.toList) ((h106'.rsv 17).grd []) (.int .i64 x208') h209' ∧
  vcond (!(ltI x208' 0))
  (∃ x210', ∃ h211', EvC Tryd.prog O 133 [(.slice a0 n0 c0), (.int .i64 x1s), (.int .i64 x2s), (.int .i64 x104'), (.func (.func g4s) fi4s ca4s)] (h209'.rst (h106'.rsv 17)) (.int .i64 x210') h211' ∧
  I115_0 O Q a0 n0 c0 x1 x2 x3 g4 fi4 ca4 x210' x2s (wrapF .i64 (x3s - 1)) g4s fi4s ca4s q10 q11 h211')
  (∃ x212', ∃ q213', ∃ h214', EvC Tryd.prog O 134 [(.slice a0 n0 c0), (.int .i64 x1s), (.int .i64 x2s), (.int .i64 x104'), (.func (.func g4s) fi4s ca4s)] (h209'.rst (h106'.rsv 17)) (.tuple #[(.int .i64 x212'), (.bool q213')]) h214' ∧
  vcond (ltI (wrapF .i64 (x212' - x1s)) (wrapF .i64 (x2s - x212')))
  (∃ h215', EvC Tryd.prog O 115 [(.slice a0 n0 c0), (.int .i64 x1s), (.int .i64 x212'), (.int .i64 (wrapF .i64 (x3s - 1))), (.func (.func g4s) fi4s ca4s)] h214' undef h215' ∧
  I115_0 O Q a0 n0 c0 x1 x2 x3 g4 fi4 ca4 (wrapF .i64 (x212' + 1)) x2s (wrapF .i64 (x3s - 1)) g4s fi4s ca4s (!(ltI (wrapF .i64 (x212' - x1s)) (wrapF .i64 (Int.tdiv (wrapF .i64 (x2s - x1s)) 8)))) q213' h215')
  (∃ h216', EvC Tryd.prog O 115 [(.slice a0 n0 c0), (.int .i64 (wrapF .i64 (x212' + 1))), (.int .i64 x2s), (.int .i64 (wrapF .i64 (x3s - 1))), (.func (.func g4s) fi4s ca4s)] h214' undef h216' ∧
  I115_0 O Q a0 n0 c0 x1 x2 x3 g4 fi4 ca4 x1s x212' (wrapF .i64 (x3s - 1)) g4s fi4s ca4s (!(ltI (wrapF .i64 (x2s - x212')) (wrapF .i64 (Int.tdiv (wrapF .i64 (x2s - x1s)) 8)))) q213' h216')))))
  (∃ x217', ∃ q218', ∃ h219', EvC Tryd.prog O 134 [(.slice a0 n0 c0), (.int .i64 x1s), (.int .i64 x2s), (.int .i64 x104'), (.func (.func g4s) fi4s ca4s)] (h106'.rsv 17) (.tuple #[(.int .i64 x217'), (.bool q218')]) h219' ∧
  vcond (ltI (wrapF .i64 (x217' - x1s)) (wrapF .i64 (x2s - x217')))
  (∃ h220', EvC Tryd.prog O 115 [(.slice a0 n0 c0), (.int .i64 x1s), (.int .i64 x217'), (.int .i64 (wrapF .i64 (x3s - 1))), (.func (.func g4s) fi4s ca4s)] h219' undef h220' ∧
  I115_0 O Q a0 n0 c0 x1 x2 x3 g4 fi4 ca4 (wrapF .i64 (x217' + 1)) x2s (wrapF .i64 (x3s - 1)) g4s fi4s ca4s (!(ltI (wrapF .i64 (x217' - x1s)) (wrapF .i64 (Int.tdiv (wrapF .i64 (x2s - x1s)) 8)))) q218' h220')
  (∃ h221', EvC Tryd.prog O 115 [(.slice a0 n0 c0), (.int .i64 (wrapF .i64 (x217' + 1))), (.int .i64 x2s), (.int .i64 (wrapF .i64 (x3s - 1))), (.func (.func g4s) fi4s ca4s)] h219' undef h221' ∧
  I115_0 O Q a0 n0 c0 x1 x2 x3 g4 fi4 ca4 x1s x217' (wrapF .i64 (x3s - 1)) g4s fi4s ca4s (!(ltI (wrapF .i64 (x2s - x217')) (wrapF .i64 (Int.tdiv (wrapF .i64 (x2s - x1s)) 8)))) q218' h221'))))
  (vcond (ltI 0 x1s)
  (isNat (wrapF .i64 (x1s - 1)) fun n222' =>
  isAddr a0 fun b223' f224' =>
  vreq (Nat.blt n222' n0)
  (∃ x225', readAt (h106'.rsv 17) b223' (f224' + (n222' * 1)) 1 = some [(.int .i64 x225')] ∧
  isNat x104' fun n226' =>
  isAddr a0 fun b227' f228' =>
  vreq (Nat.blt n226' n0)
  (∃ x229', readAt (h106'.rsv 17) b227' (f228' + (n226' * 1)) 1 = some [(.int .i64 x229')] ∧
  ∃ x230', ∃ h231', EvC Tryd.prog O g4s (fi4s.toList ++ [(.int .i64 x225'), (.int .i64 x229')] ++ ca4s.toList) ((h106'.rsv 17).grd []) (.int .i64 x230') h231' ∧
  vcond (!(ltI x230' 0))
  (∃ x232', ∃ h233', EvC Tryd.prog O 133 [(.slice a0 n0 c0), (.int .i64 x1s), (.int .i64 x2s), (.int .i64 x104'), (.func (.func g4s) fi4s ca4s)] (h231'.rst (h106'.rsv 17)) (.int .i64 x232') h233' ∧
  I115_0 O Q a0 n0 c0 x1 x2 x3 g4 fi4 ca4 x232' x2s (wrapF .i64 (x3s - 1)) g4s fi4s ca4s q10 q11 h233')
  (∃ x234', ∃ q235', ∃ h236', EvC Tryd.prog O 134 [(.slice a0 n0 c0), (.int .i64 x1s), (.int .i64 x2s), (.int .i64 x104'), (.func (.func g4s) fi4s ca4s)] (h231'.rst (h106'.rsv 17)) (.tuple #[(.int .i64 x234'), (.bool q235')]) h236' ∧
  vcond (ltI (wrapF .i64 (x234' - x1s)) (wrapF .i64 (x2s - x234')))
  (∃ h237', EvC Tryd.prog O 115 [(.slice a0 n0 c0), (.int .i64 x1s), (.int .i64 x234'), (.int .i64 (wrapF .i64 (x3s - 1))), (.func (.func g4s) fi4s ca4s)] h236' undef h237' ∧
  I115_0 O Q a0 n0 c0 x1 x2 x3 g4 fi4 ca4 (wrapF .i64 (x234' + 1)) x2s (wrapF .i64 (x3s - 1)) g4s fi4s ca4s (!(ltI (wrapF .i64 (x234' - x1s)) (wrapF .i64 (Int.tdiv (wrapF .i64 (x2s - x1s)) 8)))) q235' h237')
  (∃ h238', EvC Tryd.prog O 115 [(.slice a0 n0 c0), (.int .i64 (wrapF .i64 (x234' + 1))), (.int .i64 x2s), (.int .i64 (wrapF .i64 (x3s - 1))), (.func (.func g4s) fi4s ca4s)] h236' undef h238' ∧
  I115_0 O Q a0 n0 c0 x1 x2 x3 g4 fi4 ca4 x1s x234' (wrapF .i64 (x3s - 1)) g4s fi4s ca4s (!(ltI (wrapF .i64 (x2s - x234')) (wrapF .i64 (Int.tdiv (wrapF .i64 (x2s - x1s)) 8)))) q235' h238')))))
  (∃ x239', ∃ q240', ∃ h241', EvC Tryd.prog O 134 [(.slice a0 n0 c0), (.int .i64 x1s), (.int .i64 x2s), (.int .i64 x104'), (.func (.func g4s) fi4s ca4s)] (h106'.rsv 17) (.tuple #[(.int .i64 x239'), (.bool q240')]) h241' ∧
  vcond (ltI (wrapF .i64 (x239' - x1s)) (wrapF .i64 (x2s - x239')))
  (∃ h242', EvC Tryd.prog O 115 [(.slice a0 n0 c0), (.int .i64 x1s), (.int .i64 x239'), (.int .i64 (wrapF .i64 (x3s - 1))), (.func (.func g4s) fi4s ca4s)] h241' undef h242' ∧
  I115_0 O Q a0 n0 c0 x1 x2 x3 g4 fi4 ca4 (wrapF .i64 (x239' + 1)) x2s (wrapF .i64 (x3s - 1)) g4s fi4s ca4s (!(ltI (wrapF .i64 (x239' - x1s)) (wrapF .i64 (Int.tdiv (wrapF .i64 (x2s - x1s)) 8)))) q240' h242')
  (∃ h243', EvC Tryd.prog O 115 [(.slice a0 n0 c0), (.int .i64 (wrapF .i64 (x239' + 1))), (.int .i64 x2s), (.int .i64 (wrapF .i64 (x3s - 1))), (.func (.func g4s) fi4s ca4s)] h241' undef h243' ∧
  I115_0 O Q a0 n0 c0 x1 x2 x3 g4 fi4 ca4 x1s x239' (wrapF .i64 (x3s - 1)) g4s fi4s ca4s (!(ltI (wrapF .i64 (x2s - x239')) (wrapF .i64 (Int.tdiv (wrapF .i64 (x2s - x1s)) 8)))) q240' h243'))))
  (vcond (ltI 0 x1s)
  (isNat (wrapF .i64 (x1s - 1)) fun n244' =>
  isAddr a0 fun b245' f246' =>
  vreq (Nat.blt n244' n0)
  (∃ x247', readAt (h106'.rsv 17) b245' (f246' + (n244' * 1)) 1 = some [(.int .i64 x247')] ∧
  isNat x104' fun n248' =>
  isAddr a0 fun b249' f250' =>
  vreq (Nat.blt n248' n0)
  (∃ x251', readAt (h106'.rsv 17) b249' (f250' + (n248' * 1)) 1 = some [(.int .i64 x251')] ∧
  ∃ x252', ∃ h253', EvC Tryd.prog O g4s (fi4s.toList ++ [(.int .i64 x247'), (.int .i64 x251')] ++ ca4s.toList) ((h106'.rsv 17).grd []) (.int .i64 x252') h253' ∧
  vcond (!(ltI x252' 0))
  (∃ x254', ∃ h255', EvC Tryd.prog O 133 [(.slice a0 n0 c0), (.int .i64 x1s), (.int .i64 x2s), (.int .i64 x104'), (.func (.func g4s) fi4s ca4s)] (h253'.rst (h106'.rsv 17)) (.int .i64 x254') h255' ∧
  I115_0 O Q a0 n0 c0 x1 x2 x3 g4 fi4 ca4 x254' x2s (wrapF .i64 (x3s - 1)) g4s fi4s ca4s q10 q11 h255')
  (∃ x256', ∃ q257', ∃ h258', EvC Tryd.prog O 134 [(.slice a0 n0 c0), (.int .i64 x1s), (.int .i64 x2s), (.int .i64 x104'), (.func (.func g4s) fi4s ca4s)] (h253'.rst (h106'.rsv 17)) (.tuple #[(.int .i64 x256'), (.bool q257')]) h258' ∧
  vcond (ltI (wrapF .i64 (x256' - x1s)) (wrapF .i64 (x2s - x256')))
  (∃ h259', EvC Tryd.prog O 115 [(.slice a0 n0 c0), (.int .i64 x1s), (.int .i64 x256'), (.int .i64 (wrapF .i64 (x3s - 1))), (.func (.func g4s) fi4s ca4s)] h258' undef h259' ∧
  I115_0 O Q a0 n0 c0 x1 x2 x3 g4 fi4 ca4 (wrapF .i64 (x256' + 1)) x2s (wrapF .i64 (x3s - 1)) g4s fi4s ca4s (!(ltI (wrapF .i64 (x256' - x1s)) (wrapF .i64 (Int.tdiv (wrapF .i64 (x2s - x1s)) 8)))) q257' h259')
  (∃ h260', EvC Tryd.prog O 115 [(.slice a0 n0 c0), (.int .i64 (wrapF .i64 (x256' + 1))), (.int .i64 x2s), (.int .i64 (wrapF .i64 (x3s - 1))), (.func (.func g4s) fi4s ca4s)] h258' undef h260' ∧
  I115_0 O Q a0 n0 c0 x1 x2 x3 g4 fi4 ca4 x1s x256' (wrapF .i64 (x3s - 1)) g4s fi4s ca4s (!(ltI (wrapF .i64 (x2s - x256')) (wrapF .i64 (Int.tdiv (wrapF .i64 (x2s - x1s)) 8)))) q257' h260')))))
  (∃ x261', ∃ q262', ∃ h263', EvC Tryd.prog O 134 [(.slice a0 n0 c0), (.int .i64 x1s), (.int .i64 x2s), (.int .i64 x104'), (.func (.func g4s) fi4s ca4s)] (h106'.rsv 17) (.tuple #[(.int .i64 x261'), (.bool q262')]) h263' ∧
  vcond (ltI (wrapF .i64 (x261' - x1s)) (wrapF .i64 (x2s - x261')))
  (∃ h264', EvC Tryd.prog O 115 [(.slice a0 n0 c0), (.int .i64 x1s), (.int .i64 x261'), (.int .i64 (wrapF .i64 (x3s - 1))), (.func (.func g4s) fi4s ca4s)] h263' undef h264' ∧
  I115_0 O Q a0 n0 c0 x1 x2 x3 g4 fi4 ca4 (wrapF .i64 (x261' + 1)) x2s (wrapF .i64 (x3s - 1)) g4s fi4s ca4s (!(ltI (wrapF .i64 (x261' - x1s)) (wrapF .i64 (Int.tdiv (wrapF .i64 (x2s - x1s)) 8)))) q262' h264')
  (∃ h265', EvC Tryd.prog O 115 [(.slice a0 n0 c0), (.int .i64 (wrapF .i64 (x261' + 1))), (.int .i64 x2s), (.int .i64 (wrapF .i64 (x3s - 1))), (.func (.func g4s) fi4s ca4s)] h263' undef h265' ∧
  I115_0 O Q a0 n0 c0 x1 x2 x3 g4 fi4 ca4 x1s x261' (wrapF .i64 (x3s - 1)) g4s fi4s ca4s (!(ltI (wrapF .i64 (x2s - x261')) (wrapF .i64 (Int.tdiv (wrapF .i64 (x2s - x1s)) 8)))) q262' h265')))))
  (∃ x266', ∃ x267', ∃ h268', EvC Tryd.prog O 130 [(.slice a0 n0 c0), (.int .i64 x1s), (.int .i64 x2s), (.func (.func g4s) fi4s ca4s)] h (.tuple #[(.int .i64 x266'), (.int .i64 x267')]) h268' ∧
  vcond (eqI x267' 2)
  (∃ h269', EvC Tryd.prog O 131 [(.slice a0 n0 c0), (.int .i64 x1s), (.int .i64 x2s), (.func (.func g4s) fi4s ca4s)] h268' undef h269' ∧
  vcond q10
  (vcond q11
  (∃ q270', ∃ h271', EvC Tryd.prog O 132 [(.slice a0 n0 c0), (.int .i64 x1s), (.int .i64 x2s), (.func (.func g4s) fi4s ca4s)] h269' (.bool q270') h271' ∧
  vcond q270'
  (Q undef h271')
  (vcond (ltI 0 x1s)
  (isNat (wrapF .i64 (x1s - 1)) fun n272' =>
  isAddr a0 fun b273' f274' =>
  vreq (Nat.blt n272' n0)
  (∃ x275', readAt (h271'.rsv 17) b273' (f274' + (n272' * 1)) 1 = some [(.int .i64 x275')] ∧
  isNat (wrapF .i64 ((wrapF .i64 (x2s - 1)) - (wrapF .i64 (x266' - x1s)))) fun n276' =>
  isAddr a0 fun b277' f278' =>
  vreq (Nat.blt n276' n0)
  (∃ x279', readAt (h271'.rsv 17) b277' (f278' + (n276' * 1)) 1 = some [(.int .i64 x279')] ∧
  ∃ x280', ∃ h281', EvC Tryd.prog O g4s (fi4s.toList ++ [(.int .i64 x275'), (.int .i64 x279')] ++ ca4s.toList) ((h271'.rsv 17).grd []) (.int .i64 x280') h281' ∧
  vcond (!(ltI x280' 0))
  (∃ x282', ∃ h283', EvC Tryd.prog O 133 [(.slice a0 n0 c0), (.int .i64 x1s), (.int .i64 x2s), (.int .i64 (wrapF .i64 ((wrapF .i64 (x2s - 1)) - (wrapF .i64 (x266' - x1s))))), (.func (.func g4s) fi4s ca4s)] (h281'.rst (h271'.rsv 17)) (.int .i64 x282') h283' ∧
  I115_0 O Q a0 n0 c0 x1 x2 x3 g4 fi4 ca4 x282' x2s x3s g4s fi4s ca4s q10 q11 h283')
  (∃ x284', ∃ q285', ∃ h286', EvC Tryd.prog O 134 [(.slice a0 n0 c0), (.int .i64 x1s), (.int .i64 x2s), (.int .i64 (wrapF .i64 ((wrapF .i64 (x2s - 1)) - (wrapF .i64 (x266' - x1s))))), (.func (.func g4s) fi4s ca4s)] (h281'.rst (h271'.rsv 17)) (.tuple #[(.int .i64 x284'), (.bool q285')]) h286' ∧
  vcond (ltI (wrapF .i64 (x284' - x1s)) (wrapF .i64 (x2s - x284')))
  (∃ h287', EvC Tryd.prog O 115 [(.slice a0 n0 c0), (.int .i64 x1s), (.int .i64 x284'), (.int .i64 x3s), (.func (.func g4s) fi4s ca4s)] h286' undef h287' ∧
  I115_0 O Q a0 n0 c0 x1 x2 x3 g4 fi4 ca4 (wrapF .i64 (x284' + 1)) x2s x3s g4s fi4s ca4s (!(ltI (wrapF .i64 (x284' - x1s)) (wrapF .i64 (Int.tdiv (wrapF .i64 (x2s - x1s)) 8)))) q285' h287')
  (∃ h288', EvC Tryd.prog O 115 [(.slice a0 n0 c0), (.int .i64 (wrapF .i64 (x284' + 1))), (.int .i64 x2s), (.int .i64 x3s), (.func (.func g4s) fi4s ca4s)] h286' undef h288' ∧
  I115_0 O Q a0 n0 c0 x1 x2 x3 g4 fi4 ca4 x1s x284' x3s g4s fi4s ca4s (!(ltI (wrapF .i64 (x2s - x284')) (wrapF .i64 (Int.tdiv (wrapF .i64 (x2s - x1s)) 8)))) q285' h288')))))
  (∃ x289', ∃ q290', ∃ h291', EvC Tryd.prog O 134 [(.slice a0 n0 c0), (.int .i64 x1s), (.int .i64 x2s), (.int .i64 (wrapF .i64 ((wrapF .i64 (x2s - 1)) - (wrapF .i64 (x266' - x1s))))), (.func (.func g4s) fi4s ca4s)] (h271'.rsv 17) (.tuple #[(.int .i64 x289'), (.bool q290')]) h291' ∧
  vcond (ltI (wrapF .i64 (x289' - x1s)) (wrapF .i64 (x2s - x289')))
  (∃ h292', EvC Tryd.prog O 115 [(.slice a0 n0 c0), (.int .i64 x1s), (.int .i64 x289'), (.int .i64 x3s), (.func (.func g4s) fi4s ca4s)] h291' undef h292' ∧
  I115_0 O Q a0 n0 c0 x1 x2 x3 g4 fi4 ca4 (wrapF .i64 (x289' + 1)) x2s x3s g4s fi4s ca4s (!(ltI (wrapF .i64 (x289' - x1s)) (wrapF .i64 (Int.tdiv (wrapF .i64 (x2s - x1s)) 8)))) q290' h292')
  (∃ h293', EvC Tryd.prog O 115 [(.slice a0 n0 c0), (.int .i64 (wrapF .i64 (x289' + 1))), (.int .i64 x2s), (.int .i64 x3s), (.func (.func g4s) fi4s ca4s)] h291' undef h293' ∧
  I115_0 O Q a0 n0 c0 x1 x2 x3 g4 fi4 ca4 x1s x289' x3s g4s fi4s ca4s (!(ltI (wrapF .i64 (x2s - x289')) (wrapF .i64 (Int.tdiv (wrapF .i64 (x2s - x1s)) 8)))) q290' h293'))))
  (vcond (ltI 0 x1s)
  (isNat (wrapF .i64 (x1s - 1)) fun n294' =>
  isAddr a0 fun b295' f296' =>
  vreq (Nat.blt n294' n0)
  (∃ x297', readAt (h269'.rsv 17) b295' (f296' + (n294' * 1)) 1 = some [(.int .i64 x297')] ∧
  isNat (wrapF .i64 ((wrapF .i64 (x2s - 1)) - (wrapF .i64 (x266' - x1s)))) fun n298' =>
  isAddr a0 fun b299' f300' =>
  vreq (Nat.blt n298' n0)
  (∃ x301', readAt (h269'.rsv 17) b299' (f300' + (n298' * 1)) 1 = some [(.int .i64 x301')] ∧
  ∃ x302', ∃ h303', EvC Tryd.prog O g4s (fi4s.toList ++ [(.int .i64 x297'), (.int .i64 x301')] ++ ca4s.toList) ((h269'.rsv 17).grd []) (.int .i64 x302') h303' ∧
  vcond (!(ltI x302' 0))
  (∃ x304', ∃ h305', EvC Tryd.prog O 133 [(.slice a0 n0 c0), (.int .i64 x1s), (.int .i64 x2s), (.int .i64 (wrapF .i64 ((wrapF .i64 (x2s - 1)) - (wrapF .i64 (x266' - x1s))))), (.func (.func g4s) fi4s ca4s)] (h303'.rst (h269'.rsv 17)) (.int .i64 x304') h305' ∧
  I115_0 O Q a0 n0 c0 x1 x2 x3 g4 fi4 ca4 x304' x2s x3s g4s fi4s ca4s q10 q11 h305')
  (∃ x306', ∃ q307', ∃ h308', EvC Tryd.prog O 134 [(.slice a0 n0 c0), (.int .i64 x1s), (.int .i64 x2s), (.int .i64 (wrapF .i64 ((wrapF .i64 (x2s - 1)) - (wrapF .i64 (x266' - x1s))))), (.func (.func g4s) fi4s ca4s)] (h303'.rst (h269'.rsv 17)) (.tuple #[(.int .i64 x306'), (.bool q307')]) h308' ∧
  vcond (ltI (wrapF .i64 (x306' - x1s)) (wrapF .i64 (x2s - x306')))
  (∃ h309', EvC Tryd.prog O 115 [(.slice a0 n0 c0), (.int .i64 x1s), (.int .i64 x306'), (.int .i64 x3s), (.func (.func g4s) fi4s ca4s)] h308' undef h309' ∧
  I115_0 O Q a0 n0 c0 x1 x2 x3 g4 fi4 ca4 (wrapF .i64 (x306' + 1)) x2s x3s g4s fi4s ca4s (!(ltI (wrapF .i64 (x306' - x1s)) (wrapF .i64 (Int.tdiv (wrapF .i64 (x2s - x1s)) 8)))) q307' h309')
  (∃ h310', EvC Tryd.prog O 115 [(.slice a0 n0 c0), (.int .i64 (wrapF .i64 (x306' + 1))), (.int .i64 x2s), (.int .i64 x3s), (.func (.func g4s) fi4s ca4s)] h308' undef h310' ∧
  I115_0 O Q a0 n0 c0 x1 x2 x3 g4 fi4 ca4 x1s x306' x3s g4s fi4s ca4s (!(ltI (wrapF .i64 (x2s - x306')) (wrapF .i64 (Int.tdiv (wrapF .i64 (x2s - x1s)) 8)))) q307' h310')))))
  (∃ x311', ∃ q312', ∃ h313', EvC Tryd.prog O 134 [(.slice a0 n0 c0), (.int .i64 x1s), (.int .i64 x2s), (.int .i64 (wrapF .i64 ((wrapF .i64 (x2s - 1)) - (wrapF .i64 (x266' - x1s))))), (.func (.func g4s) fi4s ca4s)] (h269'.rsv 17) (.tuple #[(.int .i64 x311'), (.bool q312')]) h313' ∧
  vcond (ltI (wrapF .i64 (x311' - x1s)) (wrapF .i64 (x2s - x311')))
  (∃ h314', EvC Tryd.prog O 115 [(.slice a0 n0 c0), (.int .i64 x1s), (.int .i64 x311'), (.int .i64 x3s), (.func (.func g4s) fi4s ca4s)] h313' undef h314' ∧
  I115_0 O Q a0 n0 c0 x1 x2 x3 g4 fi4 ca4 (wrapF .i64 (x311' + 1)) x2s x3s g4s fi4s ca4s (!(ltI (wrapF .i64 (x311' - x1s)) (wrapF .i64 (Int.tdiv (wrapF .i64 (x2s - x1s)) 8)))) q312' h314')
  (∃ h315', EvC Tryd.prog O 115 [(.slice a0 n0 c0), (.int .i64 (wrapF .i64 (x311' + 1))), (.int .i64 x2s), (.int .i64 x3s), (.func (.func g4s) fi4s ca4s)] h313' undef h315' ∧
  I115_0 O Q a0 n0 c0 x1 x2 x3 g4 fi4 ca4 x1s x311' x3s g4s fi4s ca4s (!(ltI (wrapF .i64 (x2s - x311')) (wrapF .i64 (Int.tdiv (wrapF .i64 (x2s - x1s)) 8)))) q312' h315'))))
  (vcond (ltI 0 x1s)
  (isNat (wrapF .i64 (x1s - 1)) fun n316' =>
  isAddr a0 fun b317' f318' =>
  vreq (Nat.blt n316' n0)
  (∃ x319', readAt (h269'.rsv 17) b317' (f318' + (n316' * 1)) 1 = some [(.int .i64 x319')] ∧
  isNat (wrapF .i64 ((wrapF .i64 (x2s - 1)) - (wrapF .i64 (x266' - x1s)))) fun n320' =>
  isAddr a0 fun b321' f322' =>
  vreq (Nat.blt n320' n0)
  (∃ x323', readAt (h269'.rsv 17) b321' (f322' + (n320' * 1)) 1 = some [(.int .i64 x323')] ∧
  ∃ x324', ∃ h325', EvC Tryd.prog O g4s (fi4s.toList ++ [(.int .i64 x319'), (.int .i64 x323')] ++ ca4s.toList) ((h269'.rsv 17).grd []) (.int .i64 x324') h325' ∧
  vcond (!(ltI x324' 0))
  (∃ x326', ∃ h327', EvC Tryd.prog O 133 [(.slice a0 n0 c0), (.int .i64 x1s), (.int .i64 x2s), (.int .i64 (wrapF .i64 ((wrapF .i64 (x2s - 1)) - (wrapF .i64 (x266' - x1s))))), (.func (.func g4s) fi4s ca4s)] (h325'.rst (h269'.rsv 17)) (.int .i64 x326') h327' ∧
  I115_0 O Q a0 n0 c0 x1 x2 x3 g4 fi4 ca4 x326' x2s x3s g4s fi4s ca4s q10 q11 h327')
  (∃ x328', ∃ q329', ∃ h330', EvC Tryd.prog O 134 [(.slice a0 n0 c0), (.int .i64 x1s), (.int .i64 x2s), (.int .i64 (wrapF .i64 ((wrapF .i64 (x2s - 1)) - (wrapF .i64 (x266' - x1s))))), (.func (.func g4s) fi4s ca4s)] (h325'.rst (h269'.rsv 17)) (.tuple #[(.int .i64 x328'), (.bool q329')]) h330' ∧
  vcond (ltI (wrapF .i64 (x328' - x1s)) (wrapF .i64 (x2s - x328')))
  (∃ h331', EvC Tryd.prog O 115 [(.slice a0 n0 c0), (.int .i64 x1s), (.int .i64 x328'), (.int .i64 x3s), (.func (.func g4s) fi4s ca4s)] h330' undef h331' ∧
  I115_0 O Q a0 n0 c0 x1 x2 x3 g4 fi4 ca4 (wrapF .i64 (x328' + 1)) x2s x3s g4s fi4s ca4s (!(ltI (wrapF .i64 (x328' - x1s)) (wrapF .i64 (Int.tdiv (wrapF .i64 (x2s - x1s)) 8)))) q329' h331')
  (∃ h332', EvC Tryd.prog O 115 [(.slice a0 n0 c0), (.int .i64 (wrapF .i64 (x328' + 1))), (.int .i64 x2s), (.int .i64 x3s), (.func (.func g4s) fi4s ca4s)] h330' undef h332' ∧
  I115_0 O Q a0 n0 c0 x1 x2 x3 g4 fi4 ca4 x1s x328' x3s g4s fi4s ca4s (!(ltI (wrapF .i64 (x2s - x328')) (wrapF .i64 (Int.tdiv (wrapF .i64 (x2s - x1s)) 8)))) q329' h332')))))
  (∃ x333', ∃ q334', ∃ h335', EvC Tryd.prog O 134 [(.slice a0 n0 c0), (.int .i64 x1s), (.int .i64 x2s), (.int .i64 (wrapF .i64 ((wrapF .i64 (x2s - 1)) - (wrapF .i64 (x266' - x1s))))), (.func (.func g4s) fi4s ca4s)] (h269'.rsv 17) (.tuple #[(.int .i64 x333'), (.bool q334')]) h335' ∧
  vcond (ltI (wrapF .i64 (x333' - x1s)) (wrapF .i64 (x2s - x333')))
  (∃ h336', EvC Tryd.prog O 115 [(.slice a0 n0 c0), (.int .i64 x1s), (.int .i64 x333'), (.int .i64 x3s), (.func (.func g4s) fi4s ca4s)] h335' undef h336' ∧
  I115_0 O Q a0 n0 c0 x1 x2 x3 g4 fi4 ca4 (wrapF .i64 (x333' + 1)) x2s x3s g4s fi4s ca4s (!(ltI (wrapF .i64 (x333' - x1s)) (wrapF .i64 (Int.tdiv (wrapF .i64 (x2s - x1s)) 8)))) q334' h336')
  (∃ h337', EvC Tryd.prog O 115 [(.slice a0 n0 c0), (.int .i64 (wrapF .i64 (x333' + 1))), (.int .i64 x2s), (.int .i64 x3s), (.func (.func g4s) fi4s ca4s)] h335' undef h337' ∧
  I115_0 O Q a0 n0 c0 x1 x2 x3 g4 fi4 ca4 x1s x333' x3s g4s fi4s ca4s (!(ltI (wrapF .i64 (x2s - x333')) (wrapF .i64 (Int.tdiv (wrapF .i64 (x2s - x1s)) 8)))) q334' h337'))))
  (vcond q10
  (vcond q11
  (vcond (eqI x267' 1)
  (∃ q338', ∃ h339', EvC Tryd.prog O 132 [(.slice a0 n0 c0), (.int .i64 x1s), (.int .i64 x2s), (.func (.func g4s) fi4s ca4s)] h268' (.bool q338') h339' ∧
  vcond q338'
  (Q undef h339')
  (vcond (ltI 0 x1s)
  (isNat (wrapF .i64 (x1s - 1)) fun n340' =>
  isAddr a0 fun b341' f342' =>
  vreq (Nat.blt n340' n0)
  (∃ x343', readAt (h339'.rsv 17) b341' (f342' + (n340' * 1)) 1 = some [(.int .i64 x343')] ∧
  isNat x266' fun n344' =>
  isAddr a0 fun b345' f346' =>
  vreq (Nat.blt n344' n0)
  (∃ x347', readAt (h339'.rsv 17) b345' (f346' + (n344' * 1)) 1 = some [(.int .i64 x347')] ∧
  ∃ x348', ∃ h349', EvC Tryd.prog O g4s (fi4s.toList ++ [(.int .i64 x343'), (.int .i64 x347')] ++ ca4s.toList) ((h339'.rsv 17).grd []) (.int .i64 x348') h349' ∧
  vcond (!(ltI x348' 0))
  (∃ x350', ∃ h351', EvC Tryd.prog O 133 [(.slice a0 n0 c0), (.int .i64 x1s), (.int .i64 x2s), (.int .i64 x266'), (.func (.func g4s) fi4s ca4s)] (h349'.rst (h339'.rsv 17)) (.int .i64 x350') h351' ∧
  I115_0 O Q a0 n0 c0 x1 x2 x3 g4 fi4 ca4 x350' x2s x3s g4s fi4s ca4s q10 q11 h351')
  (∃ x352', ∃ q353', ∃ h354', EvC Tryd.prog O 134 [(.slice a0 n0 c0), (.int .i64 x1s), (.int .i64 x2s), (.int .i64 x266'), (.func (.func g4s) fi4s ca4s)] (h349'.rst (h339'.rsv 17)) (.tuple #[(.int .i64 x352'), (.bool q353')]) h354' ∧
  vcond (ltI (wrapF .i64 (x352' - x1s)) (wrapF .i64 (x2s - x352')))
  (∃ h355', EvC Tryd.prog O 115 [(.slice a0 n0 c0), (.int .i64 x1s), (.int .i64 x352'), (.int .i64 x3s), (.func (.func g4s) fi4s ca4s)] h354' undef h355' ∧
  I115_0 O Q a0 n0 c0 x1 x2 x3 g4 fi4 ca4 (wrapF .i64 (x352' + 1)) x2s x3s g4s fi4s ca4s (!(ltI (wrapF .i64 (x352' - x1s)) (wrapF .i64 (Int.tdiv (wrapF .i64 (x2s - x1s)) 8)))) q353' h355')
  (∃ h356', EvC Tryd.prog O 115 [(.slice a0 n0 c0), (.int .i64 (wrapF .i64 (x352' + 1))), (.int .i64 x2s), (.int .i64 x3s), (.func (.func g4s) fi4s ca4s)] h354' undef h356' ∧
  I115_0 O Q a0 n0 c0 x1 x2 x3 g4 fi4 ca4 x1s x352' x3s g4s fi4s ca4s (!(ltI (wrapF .i64 (x2s - x352')) (wrapF .i64 (Int.tdiv (wrapF .i64 (x2s - x1s)) 8)))) q353' h356')))))
  (∃ x357', ∃ q358', ∃ h359', EvC Tryd.prog O 134 [(.slice a0 n0 c0), (.int .i64 x1s), (.int .i64 x2s), (.int .i64 x266'), (.func (.func g4s) fi4s ca4s)] (h339'.rsv 17) (.tuple #[(.int .i64 x357'), (.bool q358')]) h359' ∧
  vcond (ltI (wrapF .i64 (x357' - x1s)) (wrapF .i64 (x2s - x357')))
  (∃ h360', EvC Tryd.prog O 115 [(.slice a0 n0 c0), (.int .i64 x1s), (.int .i64 x357'), (.int .i64 x3s), (.func (.func g4s) fi4s ca4s)] h359' undef h360' ∧
  I115_0 O Q a0 n0 c0 x1 x2 x3 g4 fi4 ca4 (wrapF .i64 (x357' + 1)) x2s x3s g4s fi4s ca4s (!(ltI (wrapF .i64 (x357' - x1s)) (wrapF .i64 (Int.tdiv (wrapF .i64 (x2s - x1s)) 8)))) q358' h360')
  (∃ h361', EvC Tryd.prog O 115 [(.slice a0 n0 c0), (.int .i64 (wrapF .i64 (x357' + 1))), (.int .i64 x2s), (.int .i64 x3s), (.func (.func g4s) fi4s ca4s)] h359' undef h361' ∧
  I115_0 O Q a0 n0 c0 x1 x2 x3 g4 fi4 ca4 x1s x357' x3s g4s fi4s ca4s (!(ltI (wrapF .i64 (x2s - x357')) (wrapF .i64 (Int.tdiv (wrapF .i64 (x2s - x1s)) 8)))) q358' h361'))))
  (vcond (ltI 0 x1s)
  (isNat (wrapF .i64 (x1s - 1)) fun n362' =>
  isAddr a0 fun b363' f364' =>
  vreq (Nat.blt n362' n0)
  (∃ x365', readAt (h268'.rsv 17) b363' (f364' + (n362' * 1)) 1 = some [(.int .i64 x365')] ∧
  isNat x266' fun n366' =>
  isAddr a0 fun b367' f368' =>
  vreq (Nat.blt n366' n0)
  (∃ x369', readAt (h268'.rsv 17) b367' (f368' + (n366' * 1)) 1 = some [(.int .i64 x369')] ∧
  ∃ x370', ∃ h371', EvC Tryd.prog O g4s (fi4s.toList ++ [(.int .i64 x365'), (.int .i64 x369')] ++ ca4s.toList) ((h268'.rsv 17).grd []) (.int .i64 x370') h371' ∧
  vcond (!(ltI x370' 0))
  (∃ x372', ∃ h373', EvC Tryd.prog O 133 [(.slice a0 n0 c0), (.int .i64 x1s), (.int .i64 x2s), (.int .i64 x266'), (.func (.func g4s) fi4s ca4s)] (h371'.rst (h268'.rsv 17)) (.int .i64 x372') h373' ∧
  I115_0 O Q a0 n0 c0 x1 x2 x3 g4 fi4 ca4 x372' x2s x3s g4s fi4s ca4s q10 q11 h373')
  (∃ x374', ∃ q375', ∃ h376', EvC Tryd.prog O 134 [(.slice a0 n0 c0), (.int .i64 x1s), (.int .i64 x2s), (.int .i64 x266'), (.func (.func g4s) fi4s ca4s)] (h371'.rst (h268'.rsv 17)) (.tuple #[(.int .i64 x374'), (.bool q375')]) h376' ∧
  vcond (ltI (wrapF .i64 (x374' - x1s)) (wrapF .i64 (x2s - x374')))
  (∃ h377', EvC Tryd.prog O 115 [(.slice a0 n0 c0), (.int .i64 x1s), (.int .i64 x374'), (.int .i64 x3s), (.func (.func g4s) fi4s ca4s)] h376' undef h377' ∧
  I115_0 O Q a0 n0 c0 x1 x2 x3 g4 fi4 ca4 (wrapF .i64 (x374' + 1)) x2s x3s g4s fi4s ca4s (!(ltI (wrapF .i64 (x374' - x1s)) (wrapF .i64 (Int.tdiv (wrapF .i64 (x2s - x1s)) 8)))) q375' h377')
  (∃ h378', EvC Tryd.prog O 115 [(.slice a0 n0 c0), (.int .i64 (wrapF .i64 (x374' + 1))), (.int .i64 x2s), (.int .i64 x3s), (.func (.func g4s) fi4s ca4s)] h376' undef h378' ∧
  I115_0 O Q a0 n0 c0 x1 x2 x3 g4 fi4 ca4 x1s x374' x3s g4s fi4s ca4s (!(ltI (wrapF .i64 (x2s - x374')) (wrapF .i64 (Int.tdiv (wrapF .i64 (x2s - x1s)) 8)))) q375' h378')))))
  (∃ x379', ∃ q380', ∃ h381', EvC Tryd.prog O 134 [(.slice a0 n0 c0), (.int .i64 x1s), (.int .i64 x2s), (.int .i64 x266'), (.func (.func g4s) fi4s ca4s)] (h268'.rsv 17) (.tuple #[(.int .i64 x379'), (.bool q380')]) h381' ∧
  vcond (ltI (wrapF .i64 (x379' - x1s)) (wrapF .i64 (x2s - x379')))
  (∃ h382', EvC Tryd.prog O 115 [(.slice a0 n0 c0), (.int .i64 x1s), (.int .i64 x379'), (.int .i64 x3s), (.func (.func g4s) fi4s ca4s)] h381' undef h382' ∧
  I115_0 O Q a0 n0 c0 x1 x2 x3 g4 fi4 ca4 (wrapF .i64 (x379' + 1)) x2s x3s g4s fi4s ca4s (!(ltI (wrapF .i64 (x379' - x1s)) (wrapF .i64 (Int.tdiv (wrapF .i64 (x2s - x1s)) 8)))) q380' h382')
  (∃ h383', EvC Tryd.prog O 115 [(.slice a0 n0 c0), (.int .i64 (wrapF .i64 (x379' + 1))), (.int .i64 x2s), (.int .i64 x3s), (.func (.func g4s) fi4s ca4s)] h381' undef h383' ∧
  I115_0 O Q a0 n0 c0 x1 x2 x3 g4 fi4 ca4 x1s x379' x3s g4s fi4s ca4s (!(ltI (wrapF .i64 (x2s - x379')) (wrapF .i64 (Int.tdiv (wrapF .i64 (x2s - x1s)) 8)))) q380' h383'))))
  (vcond (ltI 0 x1s)
  (isNat (wrapF .i64 (x1s - 1)) fun n384' =>
  isAddr a0 fun b385' f386' =>
  vreq (Nat.blt n384' n0)
  (∃ x387', readAt (h268'.rsv 17) b385' (f386' + (n384' * 1)) 1 = some [(.int .i64 x387')] ∧
  isNat x266' fun n388' =>
  isAddr a0 fun b389' f390' =>
  vreq (Nat.blt n388' n0)
  (∃ x391', readAt (h268'.rsv 17) b389' (f390' + (n388' * 1)) 1 = some [(.int .i64 x391')] ∧
  ∃ x392', ∃ h393', EvC Tryd.prog O g4s (fi4s.toList ++ [(.int .i64 x387'), (.int .i64 x391')] ++ ca4s.toList) ((h268'.rsv 17).grd []) (.int .i64 x392') h393' ∧
  vcond (!(ltI x392' 0))
  (∃ x394', ∃ h395', EvC Tryd.prog O 133 [(.slice a0 n0 c0), (.int .i64 x1s), (.int .i64 x2s), (.int .i64 x266'), (.func (.func g4s) fi4s ca4s)] (h393'.rst (h268'.rsv 17)) (.int .i64 x394') h395' ∧
  I115_0 O Q a0 n0 c0 x1 x2 x3 g4 fi4 ca4 x394' x2s x3s g4s fi4s ca4s q10 q11 h395')
  (∃ x396', ∃ q397', ∃ h398', EvC Tryd.prog O 134 [(.slice a0 n0 c0), (.int .i64 x1s), (.int .i64 x2s), (.int .i64 x266'), (.func (.func g4s) fi4s ca4s)] (h393'.rst (h268'.rsv 17)) (.tuple #[(.int .i64 x396'), (.bool q397')]) h398' ∧
  vcond (ltI (wrapF .i64 (x396' - x1s)) (wrapF .i64 (x2s - x396')))
  (∃ h399', EvC Tryd.prog O 115 [(.slice a0 n0 c0), (.int .i64 x1s), (.int .i64 x396'), (.int .i64 x3s), (.func (.func g4s) fi4s ca4s)] h398' undef h399' ∧
  I115_0 O Q a0 n0 c0 x1 x2 x3 g4 fi4 ca4 (wrapF .i64 (x396' + 1)) x2s x3s g4s fi4s ca4s (!(ltI (wrapF .i64 (x396' - x1s)) (wrapF .i64 (Int.tdiv (wrapF .i64 (x2s - x1s)) 8)))) q397' h399')
  (∃ h400', EvC Tryd.prog O 115 [(.slice a0 n0 c0), (.int .i64 (wrapF .i64 (x396' + 1))), (.int .i64 x2s), (.int .i64 x3s), (.func (.func g4s) fi4s ca4s)] h398' undef h400' ∧
  I115_0 O Q a0 n0 c0 x1 x2 x3 g4 fi4 ca4 x1s x396' x3s g4s fi4s ca4s (!(ltI (wrapF .i64 (x2s - x396')) (wrapF .i64 (Int.tdiv (wrapF .i64 (x2s - x1s)) 8)))) q397' h400')))))
  (∃ x401', ∃ q402', ∃ h403', EvC Tryd.prog O 134 [(.slice a0 n0 c0), (.int .i64 x1s), (.int .i64 x2s), (.int .i64 x266'), (.func (.func g4s) fi4s ca4s)] (h268'.rsv 17) (.tuple #[(.int .i64 x401'), (.bool q402')]) h403' ∧
  vcond (ltI (wrapF .i64 (x401' - x1s)) (wrapF .i64 (x2s - x401')))
  (∃ h404', EvC Tryd.prog O 115 [(.slice a0 n0 c0), (.int .i64 x1s), (.int .i64 x401'), (.int .i64 x3s), (.func (.func g4s) fi4s ca4s)] h403' undef h404' ∧
  I115_0 O Q a0 n0 c0 x1 x2 x3 g4 fi4 ca4 (wrapF .i64 (x401' + 1)) x2s x3s g4s fi4s ca4s (!(ltI (wrapF .i64 (x401' - x1s)) (wrapF .i64 (Int.tdiv (wrapF .i64 (x2s - x1s)) 8)))) q402' h404')
  (∃ h405', EvC Tryd.prog O 115 [(.slice a0 n0 c0), (.int .i64 (wrapF .i64 (x401' + 1))), (.int .i64 x2s), (.int .i64 x3s), (.func (.func g4s) fi4s ca4s)] h403' undef h405' ∧
  I115_0 O Q a0 n0 c0 x1 x2 x3 g4 fi4 ca4 x1s x401' x3s g4s fi4s ca4s (!(ltI (wrapF .i64 (x2s - x401')) (wrapF .i64 (Int.tdiv (wrapF .i64 (x2s - x1s)) 8)))) q402' h405'))))
  (vcond (ltI 0 x1s)
  (isNat (wrapF .i64 (x1s - 1)) fun n406' =>
  isAddr a0 fun b407' f408' =>
  vreq (Nat.blt n406' n0)
  (∃ x409', readAt (h268'.rsv 17) b407' (f408' + (n406' * 1)) 1 = some [(.int .i64 x409')] ∧
  isNat x266' fun n410' =>
  isAddr a0 fun b411' f412' =>
  vreq (Nat.blt n410' n0)
  (∃ x413', readAt (h268'.rsv 17) b411' (f412' + (n410' * 1)) 1 = some [(.int .i64 x413')] ∧
  ∃ x414', ∃ h415', EvC Tryd.prog O g4s (fi4s.toList ++ [(.int .i64 x409'), (.int .i64 x413')] ++ ca4s.toList) ((h268'.rsv 17).grd []) (.int .i64 x414') h415' ∧
  vcond (!(ltI x414' 0))
  (∃ x416', ∃ h417', EvC Tryd.prog O 133 [(.slice a0 n0 c0), (.int .i64 x1s), (.int .i64 x2s), (.int .i64 x266'), (.func (.func g4s) fi4s ca4s)] (h415'.rst (h268'.rsv 17)) (.int .i64 x416') h417' ∧
  I115_0 O Q a0 n0 c0 x1 x2 x3 g4 fi4 ca4 x416' x2s x3s g4s fi4s ca4s q10 q11 h417')
  (∃ x418', ∃ q419', ∃ h420', EvC Tryd.prog O 134 [(.slice a0 n0 c0), (.int .i64 x1s), (.int .i64 x2s), (.int .i64 x266'), (.func (.func g4s) fi4s ca4s)] (h415'.rst (h268'.rsv 17)) (.tuple #[(.int .i64 x418'), (.bool q419')]) h420' ∧
  vcond (ltI (wrapF .i64 (x418' - x1s)) (wrapF .i64 (x2s - x418')))
  (∃ h421', EvC Tryd.prog O 115 [(.slice a0 n0 c0), (.int .i64 x1s), (.int .i64 x418'), (.int .i64 x3s), (.func (.func g4s) fi4s ca4s)] h420' undef h421' ∧
  I115_0 O Q a0 n0 c0 x1 x2 x3 g4 fi4 ca4 (wrapF .i64 (x418' + 1)) x2s x3s g4s fi4s ca4s (!(ltI (wrapF .i64 (x418' - x1s)) (wrapF .i64 (Int.tdiv (wrapF .i64 (x2s - x1s)) 8)))) q419' h421')
  (∃ h422', EvC Tryd.prog O 115 [(.slice a0 n0 c0), (.int .i64 (wrapF .i64 (x418' + 1))), (.int .i64 x2s), (.int .i64 x3s), (.func (.func g4s) fi4s ca4s)] h420' undef h422' ∧
  I115_0 O Q a0 n0 c0 x1 x2 x3 g4 fi4 ca4 x1s x418' x3s g4s fi4s ca4s (!(ltI (wrapF .i64 (x2s - x418')) (wrapF .i64 (Int.tdiv (wrapF .i64 (x2s - x1s)) 8)))) q419' h422')))))
  (∃ x423', ∃ q424', ∃ h425', EvC Tryd.prog O 134 [(.slice a0 n0 c0), (.int .i64 x1s), (.int .i64 x2s), (.int .i64 x266'), (.func (.func g4s) fi4s ca4s)] (h268'.rsv 17) (.tuple #[(.int .i64 x423'), (.bool q424')]) h425' ∧
  vcond (ltI (wrapF .i64 (x423' - x1s)) (wrapF .i64 (x2s - x423')))
  (∃ h426', EvC Tryd.prog O 115 [(.slice a0 n0 c0), (.int .i64 x1s), (.int .i64 x423'), (.int .i64 x3s), (.func (.func g4s) fi4s ca4s)] h425' undef h426' ∧
  I115_0 O Q a0 n0 c0 x1 x2 x3 g4 fi4 ca4 (wrapF .i64 (x423' + 1)) x2s x3s g4s fi4s ca4s (!(ltI (wrapF .i64 (x423' - x1s)) (wrapF .i64 (Int.tdiv (wrapF .i64 (x2s - x1s)) 8)))) q424' h426')
  (∃ h427', EvC Tryd.prog O 115 [(.slice a0 n0 c0), (.int .i64 (wrapF .i64 (x423' + 1))), (.int .i64 x2s), (.int .i64 x3s), (.func (.func g4s) fi4s ca4s)] h425' undef h427' ∧
  I115_0 O Q a0 n0 c0 x1 x2 x3 g4 fi4 ca4 x1s x423' x3s g4s fi4s ca4s (!(ltI (wrapF .i64 (x2s - x423')) (wrapF .i64 (Int.tdiv (wrapF .i64 (x2s - x1s)) 8)))) q424' h427')))))))
theorem I115_0.of {O Q} (a0 n0 c0 x1 x2 x3 g4 fi4 ca4 x1s x2s x3s g4s fi4s ca4s q10 q11) {h : Hp} (hh : T115_0 O Q a0 n0 c0 x1 x2 x3 g4 fi4 ca4 x1s x2s x3s g4s fi4s ca4s q10 q11 h) : I115_0 O Q a0 n0 c0 x1 x2 x3 g4 fi4 ca4 x1s x2s x3s g4s fi4s ca4s q10 q11 h :=
  RKL.of (tb := lv115) (cuts := []) 500 fun _ => Eq.mp (by kernel_rfl) hh
/-! slices.insertionSortCmpFunc[int] -/
noncomputable def b127 : Code := (Tryd.f127.body).getD .skip
noncomputable def stk127_0 : List KI := [.code (sub [1, 0] b127), .blk 0]
noncomputable def stk127_1 : List KI := [.code (sub [1, 0, 0, 1, 0, 0, 1, 0] b127), .blk 2, .blk 1, .code (sub [1, 0, 0, 1, 1] b127), .code (sub [1, 0] b127), .blk 0]
def lv127 : List (Nat × List Nat) := [(0, [0, 1, 2, 3, 8]), (2, [0, 1, 2, 3, 8, 9])]
def I127_0 (O : CallF) (Q : Value → Hp → Prop) (a0 : Option Addr) (n0 : Nat) (c0 : Nat) (x1 : Int) (x2 : Int) (g3 : Nat) (fi3 : Array Value) (ca3 : Array Value) (g3s : Nat) (fi3s : Array Value) (ca3s : Array Value) (x8 : Int) (h : Hp) : Prop := RKL Tryd.prog O Tryd.f127 stk127_0 53 [0, 1, 2, 3, 8] [(.slice a0 n0 c0), (.int .i64 x1), (.int .i64 x2), (.func (.func g3s) fi3s ca3s), (.int .i64 x8)] h Q
def I127_1 (O : CallF) (Q : Value → Hp → Prop) (a0 : Option Addr) (n0 : Nat) (c0 : Nat) (x1 : Int) (x2 : Int) (g3 : Nat) (fi3 : Array Value) (ca3 : Array Value) (g3s : Nat) (fi3s : Array Value) (ca3s : Array Value) (x8 : Int) (x9 : Int) (h : Hp) : Prop := RKL Tryd.prog O Tryd.f127 stk127_1 53 [0, 1, 2, 3, 8, 9] [(.slice a0 n0 c0), (.int .i64 x1), (.int .i64 x2), (.func (.func g3s) fi3s ca3s), (.int .i64 x8), (.int .i64 x9)] h Q
def T127 (O : CallF) (Q : Value → Hp → Prop) (a0 : Option Addr) (n0 : Nat) (c0 : Nat) (x1 : Int) (x2 : Int) (g3 : Nat) (fi3 : Array Value) (ca3 : Array Value) (h : Hp) : Prop :=
  I127_0 O Q a0 n0 c0 x1 x2 g3 fi3 ca3 g3 fi3 ca3 (wrapF .i64 (x1 + 1)) h
theorem rk127 {O Q} (a0 n0 c0 x1 x2 g3 fi3 ca3) {h : Hp} (hO : O 127 [(.slice a0 n0 c0), (.int .i64 x1), (.int .i64 x2), (.func (.func g3) fi3 ca3)] h = none) (hh : T127 O Q a0 n0 c0 x1 x2 g3 fi3 ca3 h) : Ret Tryd.prog O 127 [(.slice a0 n0 c0), (.int .i64 x1), (.int .i64 x2), (.func (.func g3) fi3 ca3)] h Q :=
  .of (c := b127) Tryd.func127 (by kernel_rfl) hO (V_ok (tb := lv127) (cuts := []) 500 (Eq.mp (by kernel_rfl) hh))
def T127_0 (O : CallF) (Q : Value → Hp → Prop) (a0 : Option Addr) (n0 : Nat) (c0 : Nat) (x1 : Int) (x2 : Int) (g3 : Nat) (fi3 : Array Value) (ca3 : Array Value) (g3s : Nat) (fi3s : Array Value) (ca3s : Array Value) (x8 : Int) (h : Hp) : Prop :=
  vcond (ltI x8 x2)
  (I127_1 O Q a0 n0 c0 x1 x2 g3 fi3 ca3 g3s fi3s ca3s x8 x8 h)
  (Q undef h)
theorem I127_0.of {O Q} (a0 n0 c0 x1 x2 g3 fi3 ca3 g3s fi3s ca3s x8) {h : Hp} (hh : T127_0 O Q a0 n0 c0 x1 x2 g3 fi3 ca3 g3s fi3s ca3s x8 h) : I127_0 O Q a0 n0 c0 x1 x2 g3 fi3 ca3 g3s fi3s ca3s x8 h :=
  RKL.of (tb := lv127) (cuts := []) 500 fun _ => Eq.mp (by kernel_rfl) hh
def T127_1 (O : CallF) (Q : Value → Hp → Prop) (a0 : Option Addr) (n0 : Nat) (c0 : Nat) (x1 : Int) (x2 : Int) (g3 : Nat) (fi3 : Array Value) (ca3 : Array Value) (g3s : Nat) (fi3s : Array Value) (ca3s : Array Value) (x8 : Int) (x9 : Int) (h : Hp) : Prop :=
  vcond (ltI x1 x9)
  (isNat x9 fun n201' =>
  isAddr a0 fun b202' f203' =>
  vreq (Nat.blt n201' n0)
  (∃ x204', readAt (h.rsv 17) b202' (f203' + (n201' * 1)) 1 = some [(.int .i64 x204')] ∧
  isNat (wrapF .i64 (x9 - 1)) fun n205' =>
  isAddr a0 fun b206' f207' =>
  vreq (Nat.blt n205' n0)
  (∃ x208', readAt (h.rsv 17) b206' (f207' + (n205' * 1)) 1 = some [(.int .i64 x208')] ∧
  ∃ x209', ∃ h210', EvC Tryd.prog O g3s (fi3s.toList ++ [(.int .i64 x204'), (.int .i64 x208')] ++ ca3s.toList) ((h.rsv 17).grd []) (.int .i64 x209') h210' ∧
  vcond (ltI x209' 0)
  (isNat (wrapF .i64 (x9 - 1)) fun n211' =>
  isAddr a0 fun b212' f213' =>
  vreq (Nat.blt n211' n0)
  (∃ x214', readAt ((h210'.rst (h.rsv 17)).rsv 18) b212' (f213' + (n211' * 1)) 1 = some [(.int .i64 x214')] ∧
  isNat x9 fun n215' =>
  isAddr a0 fun b216' f217' =>
  vreq (Nat.blt n215' n0)
  (∃ x218', readAt ((h210'.rst (h.rsv 17)).rsv 18) b216' (f217' + (n215' * 1)) 1 = some [(.int .i64 x218')] ∧
  isNat x9 fun n219' =>
  isAddr a0 fun b220' f221' =>
  vreq (Nat.blt n219' n0)
  (vreq (canW (((h210'.rst (h.rsv 17)).rsv 18).grd []) b220' (f221' + (n219' * 1)) [(.int .i64 x214')])
  (isNat (wrapF .i64 (x9 - 1)) fun n222' =>
  isAddr a0 fun b223' f224' =>
  vreq (Nat.blt n222' n0)
  (vreq (canW ((((((h210'.rst (h.rsv 17)).rsv 18).grd []).wr b220' (f221' + (n219' * 1)) [(.int .i64 x214')]).rst ((h210'.rst (h.rsv 17)).rsv 18)).grd []) b223' (f224' + (n222' * 1)) [(.int .i64 x218')])
  (I127_1 O Q a0 n0 c0 x1 x2 g3 fi3 ca3 g3s fi3s ca3s x8 (wrapF .i64 (x9 - 1)) ((((((((h210'.rst (h.rsv 17)).rsv 18).grd []).wr b220' (f221' + (n219' * 1)) [(.int .i64 x214')]).rst ((h210'.rst (h.rsv 17)).rsv 18)).grd []).wr b223' (f224' + (n222' * 1)) [(.int .i64 x218')]).rst (((((h210'.rst (h.rsv 17)).rsv 18).grd []).wr b220' (f221' + (n219' * 1)) [(.int .i64 x214')]).rst ((h210'.rst (h.rsv 17)).rsv 18))))))))))
  (I127_0 O Q a0 n0 c0 x1 x2 g3 fi3 ca3 g3s fi3s ca3s (wrapF .i64 (x8 + 1)) (h210'.rst (h.rsv 17))))))
  (I127_0 O Q a0 n0 c0 x1 x2 g3 fi3 ca3 g3s fi3s ca3s (wrapF .i64 (x8 + 1)) (h.rsv 17))
theorem I127_1.of {O Q} (a0 n0 c0 x1 x2 g3 fi3 ca3 g3s fi3s ca3s x8 x9) {h : Hp} (hh : T127_1 O Q a0 n0 c0 x1 x2 g3 fi3 ca3 g3s fi3s ca3s x8 x9 h) : I127_1 O Q a0 n0 c0 x1 x2 g3 fi3 ca3 g3s fi3s ca3s x8 x9 h :=
  RKL.of (tb := lv127) (cuts := []) 500 fun _ => Eq.mp (by kernel_rfl) hh
/-! slices.choosePivotCmpFunc[int] -/
noncomputable def b130 : Code := (Tryd.f130.body).getD .skip
def lv130 : List (Nat × List Nat) := []
def T130 (O : CallF) (Q : Value → Hp → Prop) (a0 : Option Addr) (n0 : Nat) (c0 : Nat) (x1 : Int) (x2 : Int) (g3 : Nat) (fi3 : Array Value) (ca3 : Array Value) (h : Hp) : Prop :=
  vcond (!(ltI (wrapF .i64 (x2 - x1)) 8))
  (vcond (!(ltI (wrapF .i64 (x2 - x1)) 50))
  (∃ x1', ∃ h2', EvC Tryd.prog O 143 [(.slice a0 n0 c0), (.int .i64 (wrapF .i64 (x1 + (wrapF .i64 ((wrapF .i64 (Int.tdiv (wrapF .i64 (x2 - x1)) 4)) * 1))))), (.pointer (some ⟨h.nx, 0, none⟩)), (.func (.func g3) fi3 ca3)] (h.add (.cells [(.int .i64 0)] 3 .fix)) (.int .i64 x1') h2' ∧
  ∃ x3', ∃ h4', EvC Tryd.prog O 143 [(.slice a0 n0 c0), (.int .i64 (wrapF .i64 (x1 + (wrapF .i64 ((wrapF .i64 (Int.tdiv (wrapF .i64 (x2 - x1)) 4)) * 2))))), (.pointer (some ⟨h.nx, 0, none⟩)), (.func (.func g3) fi3 ca3)] h2' (.int .i64 x3') h4' ∧
  ∃ x5', ∃ h6', EvC Tryd.prog O 143 [(.slice a0 n0 c0), (.int .i64 (wrapF .i64 (x1 + (wrapF .i64 ((wrapF .i64 (Int.tdiv (wrapF .i64 (x2 - x1)) 4)) * 3))))), (.pointer (some ⟨h.nx, 0, none⟩)), (.func (.func g3) fi3 ca3)] h4' (.int .i64 x5') h6' ∧
  ∃ x7', ∃ h8', EvC Tryd.prog O 144 [(.slice a0 n0 c0), (.int .i64 x1'), (.int .i64 x3'), (.int .i64 x5'), (.pointer (some ⟨h.nx, 0, none⟩)), (.func (.func g3) fi3 ca3)] h6' (.int .i64 x7') h8' ∧
  ∃ x9', readAt h8' h.nx 0 1 = some [(.int .i64 x9')] ∧
  vcond (eqI x9' 0)
  (Q (.tuple #[(.int .i64 x7'), (.int .i64 1)]) h8')
  (vcond (eqI x9' 12)
  (Q (.tuple #[(.int .i64 x7'), (.int .i64 2)]) h8')
  (Q (.tuple #[(.int .i64 x7'), (.int .i64 0)]) h8')))
  (∃ x10', ∃ h11', EvC Tryd.prog O 144 [(.slice a0 n0 c0), (.int .i64 (wrapF .i64 (x1 + (wrapF .i64 ((wrapF .i64 (Int.tdiv (wrapF .i64 (x2 - x1)) 4)) * 1))))), (.int .i64 (wrapF .i64 (x1 + (wrapF .i64 ((wrapF .i64 (Int.tdiv (wrapF .i64 (x2 - x1)) 4)) * 2))))), (.int .i64 (wrapF .i64 (x1 + (wrapF .i64 ((wrapF .i64 (Int.tdiv (wrapF .i64 (x2 - x1)) 4)) * 3))))), (.pointer (some ⟨h.nx, 0, none⟩)), (.func (.func g3) fi3 ca3)] (h.add (.cells [(.int .i64 0)] 3 .fix)) (.int .i64 x10') h11' ∧
  ∃ x12', readAt h11' h.nx 0 1 = some [(.int .i64 x12')] ∧
  vcond (eqI x12' 0)
  (Q (.tuple #[(.int .i64 x10'), (.int .i64 1)]) h11')
  (vcond (eqI x12' 12)
  (Q (.tuple #[(.int .i64 x10'), (.int .i64 2)]) h11')
  (Q (.tuple #[(.int .i64 x10'), (.int .i64 0)]) h11'))))
  (∃ x13', readAt (h.add (.cells [(.int .i64 0)] 3 .fix)) h.nx 0 1 = some [(.int .i64 x13')] ∧
  vcond (eqI x13' 0)
  (Q (.tuple #[(.int .i64 (wrapF .i64 (x1 + (wrapF .i64 ((wrapF .i64 (Int.tdiv (wrapF .i64 (x2 - x1)) 4)) * 2))))), (.int .i64 1)]) (h.add (.cells [(.int .i64 0)] 3 .fix)))
  (vcond (eqI x13' 12)
  (Q (.tuple #[(.int .i64 (wrapF .i64 (x1 + (wrapF .i64 ((wrapF .i64 (Int.tdiv (wrapF .i64 (x2 - x1)) 4)) * 2))))), (.int .i64 2)]) (h.add (.cells [(.int .i64 0)] 3 .fix)))
  (Q (.tuple #[(.int .i64 (wrapF .i64 (x1 + (wrapF .i64 ((wrapF .i64 (Int.tdiv (wrapF .i64 (x2 - x1)) 4)) * 2))))), (.int .i64 0)]) (h.add (.cells [(.int .i64 0)] 3 .fix)))))
theorem rk130 {O Q} (a0 n0 c0 x1 x2 g3 fi3 ca3) {h : Hp} (hO : O 130 [(.slice a0 n0 c0), (.int .i64 x1), (.int .i64 x2), (.func (.func g3) fi3 ca3)] h = none) (hh : T130 O Q a0 n0 c0 x1 x2 g3 fi3 ca3 h) : Ret Tryd.prog O 130 [(.slice a0 n0 c0), (.int .i64 x1), (.int .i64 x2), (.func (.func g3) fi3 ca3)] h Q :=
  .of (c := b130) Tryd.func130 (by kernel_rfl) hO (V_ok (tb := lv130) (cuts := []) 500 (Eq.mp (by kernel_rfl) hh))
/-! slices.partialInsertionSortCmpFunc[int] -/
noncomputable def b132 : Code := (Tryd.f132.body).getD .skip
noncomputable def stk132_0 : List KI := [.code (sub [1, 1, 0, 1, 0] b132), .blk 0, .code (sub [1, 1, 1] b132)]
noncomputable def stk132_1 : List KI := [.code (sub [1, 1, 0, 1, 0, 0, 1, 0, 0, 0, 0] b132), .blk 2, .code (sub [1, 1, 0, 1, 0, 0, 1, 0, 0, 1] b132), .blk 1, .code (sub [1, 1, 0, 1, 0, 0, 1, 1] b132), .code (sub [1, 1, 0, 1, 0] b132), .blk 0, .code (sub [1, 1, 1] b132)]
noncomputable def stk132_2 : List KI := [.code (sub [1, 1, 0, 1, 0, 0, 1, 0, 0, 1, 1, 1, 1, 0, 1, 0, 1, 0] b132), .blk 4, .code (sub [1, 1, 0, 1, 0, 0, 1, 0, 0, 1, 1, 1, 1, 1] b132), .blk 1, .code (sub [1, 1, 0, 1, 0, 0, 1, 1] b132), .code (sub [1, 1, 0, 1, 0] b132), .blk 0, .code (sub [1, 1, 1] b132)]
noncomputable def stk132_3 : List KI := [.code (sub [1, 1, 0, 1, 0, 0, 1, 0, 0, 1, 1, 1, 1, 1, 1, 0, 1, 0] b132), .blk 6, .blk 1, .code (sub [1, 1, 0, 1, 0, 0, 1, 1] b132), .code (sub [1, 1, 0, 1, 0] b132), .blk 0, .code (sub [1, 1, 1] b132)]
def lv132 : List (Nat × List Nat) := [(0, [0, 1, 2, 3, 8, 9, 10]), (2, [0, 1, 2, 3, 8, 9, 10]), (4, [0, 1, 2, 3, 8, 9, 10, 11]), (6, [0, 1, 2, 3, 8, 9, 10, 12])]
def I132_0 (O : CallF) (Q : Value → Hp → Prop) (a0 : Option Addr) (n0 : Nat) (c0 : Nat) (x1 : Int) (x2 : Int) (g3 : Nat) (fi3 : Array Value) (ca3 : Array Value) (g3s : Nat) (fi3s : Array Value) (ca3s : Array Value) (q8 : Bool) (x9 : Int) (x10 : Int) (h : Hp) : Prop := RKL Tryd.prog O Tryd.f132 stk132_0 141 [0, 1, 2, 3, 8, 9, 10] [(.slice a0 n0 c0), (.int .i64 x1), (.int .i64 x2), (.func (.func g3s) fi3s ca3s), (.bool q8), (.int .i64 x9), (.int .i64 x10)] h Q
def I132_1 (O : CallF) (Q : Value → Hp → Prop) (a0 : Option Addr) (n0 : Nat) (c0 : Nat) (x1 : Int) (x2 : Int) (g3 : Nat) (fi3 : Array Value) (ca3 : Array Value) (g3s : Nat) (fi3s : Array Value) (ca3s : Array Value) (q8 : Bool) (x9 : Int) (x10 : Int) (h : Hp) : Prop := RKL Tryd.prog O Tryd.f132 stk132_1 141 [0, 1, 2, 3, 8, 9, 10] [(.slice a0 n0 c0), (.int .i64 x1), (.int .i64 x2), (.func (.func g3s) fi3s ca3s), (.bool q8), (.int .i64 x9), (.int .i64 x10)] h Q
def I132_2 (O : CallF) (Q : Value → Hp → Prop) (a0 : Option Addr) (n0 : Nat) (c0 : Nat) (x1 : Int) (x2 : Int) (g3 : Nat) (fi3 : Array Value) (ca3 : Array Value) (g3s : Nat) (fi3s : Array Value) (ca3s : Array Value) (q8 : Bool) (x9 : Int) (x10 : Int) (x11 : Int) (h : Hp) : Prop := RKL Tryd.prog O Tryd.f132 stk132_2 141 [0, 1, 2, 3, 8, 9, 10, 11] [(.slice a0 n0 c0), (.int .i64 x1), (.int .i64 x2), (.func (.func g3s) fi3s ca3s), (.bool q8), (.int .i64 x9), (.int .i64 x10), (.int .i64 x11)] h Q
def I132_3 (O : CallF) (Q : Value → Hp → Prop) (a0 : Option Addr) (n0 : Nat) (c0 : Nat) (x1 : Int) (x2 : Int) (g3 : Nat) (fi3 : Array Value) (ca3 : Array Value) (g3s : Nat) (fi3s : Array Value) (ca3s : Array Value) (q8 : Bool) (x9 : Int) (x10 : Int) (x12 : Int) (h : Hp) : Prop := RKL Tryd.prog O Tryd.f132 stk132_3 141 [0, 1, 2, 3, 8, 9, 10, 12] [(.slice a0 n0 c0), (.int .i64 x1), (.int .i64 x2), (.func (.func g3s) fi3s ca3s), (.bool q8), (.int .i64 x9), (.int .i64 x10), (.int .i64 x12)] h Q
def T132 (O : CallF) (Q : Value → Hp → Prop) (a0 : Option Addr) (n0 : Nat) (c0 : Nat) (x1 : Int) (x2 : Int) (g3 : Nat) (fi3 : Array Value) (ca3 : Array Value) (h : Hp) : Prop :=
  I132_0 O Q a0 n0 c0 x1 x2 g3 fi3 ca3 g3 fi3 ca3 false (wrapF .i64 (x1 + 1)) 0 h
theorem rk132 {O Q} (a0 n0 c0 x1 x2 g3 fi3 ca3) {h : Hp} (hO : O 132 [(.slice a0 n0 c0), (.int .i64 x1), (.int .i64 x2), (.func (.func g3) fi3 ca3)] h = none) (hh : T132 O Q a0 n0 c0 x1 x2 g3 fi3 ca3 h) : Ret Tryd.prog O 132 [(.slice a0 n0 c0), (.int .i64 x1), (.int .i64 x2), (.func (.func g3) fi3 ca3)] h Q :=
  .of (c := b132) Tryd.func132 (by kernel_rfl) hO (V_ok (tb := lv132) (cuts := []) 500 (Eq.mp (by kernel_rfl) hh))
def T132_0 (O : CallF) (Q : Value → Hp → Prop) (a0 : Option Addr) (n0 : Nat) (c0 : Nat) (x1 : Int) (x2 : Int) (g3 : Nat) (fi3 : Array Value) (ca3 : Array Value) (g3s : Nat) (fi3s : Array Value) (ca3s : Array Value) (q8 : Bool) (x9 : Int) (x10 : Int) (h : Hp) : Prop :=
  vcond (ltI x10 5)
  (I132_1 O Q a0 n0 c0 x1 x2 g3 fi3 ca3 g3s fi3s ca3s q8 x9 x10 h)
  (Q (.bool false) h)
theorem I132_0.of {O Q} (a0 n0 c0 x1 x2 g3 fi3 ca3 g3s fi3s ca3s q8 x9 x10) {h : Hp} (hh : T132_0 O Q a0 n0 c0 x1 x2 g3 fi3 ca3 g3s fi3s ca3s q8 x9 x10 h) : I132_0 O Q a0 n0 c0 x1 x2 g3 fi3 ca3 g3s fi3s ca3s q8 x9 x10 h :=
  RKL.of (tb := lv132) (cuts := []) 500 fun _ => Eq.mp (by kernel_rfl) hh
def T132_1 (O : CallF) (Q : Value → Hp → Prop) (a0 : Option Addr) (n0 : Nat) (c0 : Nat) (x1 : Int) (x2 : Int) (g3 : Nat) (fi3 : Array Value) (ca3 : Array Value) (g3s : Nat) (fi3s : Array Value) (ca3s : Array Value) (q8 : Bool) (x9 : Int) (x10 : Int) (h : Hp) : Prop :=
  vcond (ltI x9 x2)
  (isNat x9 fun n201' =>
  isAddr a0 fun b202' f203' =>
  vreq (Nat.blt n201' n0)
  (∃ x204', readAt (h.rsv 18) b202' (f203' + (n201' * 1)) 1 = some [(.int .i64 x204')] ∧
  isNat (wrapF .i64 (x9 - 1)) fun n205' =>
  isAddr a0 fun b206' f207' =>
  vreq (Nat.blt n205' n0)
  (∃ x208', readAt (h.rsv 18) b206' (f207' + (n205' * 1)) 1 = some [(.int .i64 x208')] ∧
  ∃ x209', ∃ h210', EvC Tryd.prog O g3s (fi3s.toList ++ [(.int .i64 x204'), (.int .i64 x208')] ++ ca3s.toList) ((h.rsv 18).grd []) (.int .i64 x209') h210' ∧
  vcond (!(ltI x209' 0))
  (I132_1 O Q a0 n0 c0 x1 x2 g3 fi3 ca3 g3s fi3s ca3s q8 (wrapF .i64 (x9 + 1)) x10 (h210'.rst (h.rsv 18)))
  (vcond (eqI x9 x2)
  (Q (.bool true) (h210'.rst (h.rsv 18)))
  (vcond (ltI (wrapF .i64 (x2 - x1)) 50)
  (Q (.bool false) (h210'.rst (h.rsv 18)))
  (isNat (wrapF .i64 (x9 - 1)) fun n211' =>
  isAddr a0 fun b212' f213' =>
  vreq (Nat.blt n211' n0)
  (∃ x214', readAt ((h210'.rst (h.rsv 18)).rsv 18) b212' (f213' + (n211' * 1)) 1 = some [(.int .i64 x214')] ∧
  isNat x9 fun n215' =>
  isAddr a0 fun b216' f217' =>
  vreq (Nat.blt n215' n0)
  (∃ x218', readAt ((h210'.rst (h.rsv 18)).rsv 18) b216' (f217' + (n215' * 1)) 1 = some [(.int .i64 x218')] ∧
  isNat x9 fun n219' =>
  isAddr a0 fun b220' f221' =>
  vreq (Nat.blt n219' n0)
  (vreq (canW (((h210'.rst (h.rsv 18)).rsv 18).grd []) b220' (f221' + (n219' * 1)) [(.int .i64 x214')])
  (isNat (wrapF .i64 (x9 - 1)) fun n222' =>
  isAddr a0 fun b223' f224' =>
  vreq (Nat.blt n222' n0)
  (vreq (canW ((((((h210'.rst (h.rsv 18)).rsv 18).grd []).wr b220' (f221' + (n219' * 1)) [(.int .i64 x214')]).rst ((h210'.rst (h.rsv 18)).rsv 18)).grd []) b223' (f224' + (n222' * 1)) [(.int .i64 x218')])
  (vcond (!(ltI (wrapF .i64 (x9 - x1)) 2))
  (I132_2 O Q a0 n0 c0 x1 x2 g3 fi3 ca3 g3s fi3s ca3s q8 x9 x10 (wrapF .i64 (x9 - 1)) ((((((((h210'.rst (h.rsv 18)).rsv 18).grd []).wr b220' (f221' + (n219' * 1)) [(.int .i64 x214')]).rst ((h210'.rst (h.rsv 18)).rsv 18)).grd []).wr b223' (f224' + (n222' * 1)) [(.int .i64 x218')]).rst (((((h210'.rst (h.rsv 18)).rsv 18).grd []).wr b220' (f221' + (n219' * 1)) [(.int .i64 x214')]).rst ((h210'.rst (h.rsv 18)).rsv 18))))
  (vcond (!(ltI (wrapF .i64 (x2 - x9)) 2))
  (I132_3 O Q a0 n0 c0 x1 x2 g3 fi3 ca3 g3s fi3s ca3s q8 x9 x10 (wrapF .i64 (x9 + 1)) ((((((((h210'.rst (h.rsv 18)).rsv 18).grd []).wr b220' (f221' + (n219' * 1)) [(.int .i64 x214')]).rst ((h210'.rst (h.rsv 18)).rsv 18)).grd []).wr b223' (f224' + (n222' * 1)) [(.int .i64 x218')]).rst (((((h210'.rst (h.rsv 18)).rsv 18).grd []).wr b220' (f221' + (n219' * 1)) [(.int .i64 x214')]).rst ((h210'.rst (h.rsv 18)).rsv 18))))
  (I132_0 O Q a0 n0 c0 x1 x2 g3 fi3 ca3 g3s fi3s ca3s q8 x9 (wrapF .i64 (x10 + 1)) ((((((((h210'.rst (h.rsv 18)).rsv 18).grd []).wr b220' (f221' + (n219' * 1)) [(.int .i64 x214')]).rst ((h210'.rst (h.rsv 18)).rsv 18)).grd []).wr b223' (f224' + (n222' * 1)) [(.int .i64 x218')]).rst (((((h210'.rst (h.rsv 18)).rsv 18).grd []).wr b220' (f221' + (n219' * 1)) [(.int .i64 x214')]).rst ((h210'.rst (h.rsv 18)).rsv 18)))))))))))))))))
  (vcond (eqI x9 x2)
  (Q (.bool true) (h.rsv 18))
  (vcond (ltI (wrapF .i64 (x2 - x1)) 50)
  (Q (.bool false) (h.rsv 18))
  (isNat (wrapF .i64 (x9 - 1)) fun n225' =>
  isAddr a0 fun b226' f227' =>
  vreq (Nat.blt n225' n0)
  (∃ x228', readAt ((h.rsv 18).rsv 18) b226' (f227' + (n225' * 1)) 1 = some [(.int .i64 x228')] ∧
  isNat x9 fun n229' =>
  isAddr a0 fun b230' f231' =>
  vreq (Nat.blt n229' n0)
  (∃ x232', readAt ((h.rsv 18).rsv 18) b230' (f231' + (n229' * 1)) 1 = some [(.int .i64 x232')] ∧
  isNat x9 fun n233' =>
  isAddr a0 fun b234' f235' =>
  vreq (Nat.blt n233' n0)
  (vreq (canW (((h.rsv 18).rsv 18).grd []) b234' (f235' + (n233' * 1)) [(.int .i64 x228')])
  (isNat (wrapF .i64 (x9 - 1)) fun n236' =>
  isAddr a0 fun b237' f238' =>
  vreq (Nat.blt n236' n0)
  (vreq (canW ((((((h.rsv 18).rsv 18).grd []).wr b234' (f235' + (n233' * 1)) [(.int .i64 x228')]).rst ((h.rsv 18).rsv 18)).grd []) b237' (f238' + (n236' * 1)) [(.int .i64 x232')])
  (vcond (!(ltI (wrapF .i64 (x9 - x1)) 2))
  (I132_2 O Q a0 n0 c0 x1 x2 g3 fi3 ca3 g3s fi3s ca3s q8 x9 x10 (wrapF .i64 (x9 - 1)) ((((((((h.rsv 18).rsv 18).grd []).wr b234' (f235' + (n233' * 1)) [(.int .i64 x228')]).rst ((h.rsv 18).rsv 18)).grd []).wr b237' (f238' + (n236' * 1)) [(.int .i64 x232')]).rst (((((h.rsv 18).rsv 18).grd []).wr b234' (f235' + (n233' * 1)) [(.int .i64 x228')]).rst ((h.rsv 18).rsv 18))))
  (vcond (!(ltI (wrapF .i64 (x2 - x9)) 2))
  (I132_3 O Q a0 n0 c0 x1 x2 g3 fi3 ca3 g3s fi3s ca3s q8 x9 x10 (wrapF .i64 (x9 + 1)) ((((((((h.rsv 18).rsv 18).grd []).wr b234' (f235' + (n233' * 1)) [(.int .i64 x228')]).rst ((h.rsv 18).rsv 18)).grd []).wr b237' (f238' + (n236' * 1)) [(.int .i64 x232')]).rst (((((h.rsv 18).rsv 18).grd []).wr b234' (f235' + (n233' * 1)) [(.int .i64 x228')]).rst ((h.rsv 18).rsv 18))))
  (I132_0 O Q a0 n0 c0 x1 x2 g3 fi3 ca3 g3s fi3s ca3s q8 x9 (wrapF .i64 (x10 + 1)) ((((((((h.rsv 18).rsv 18).grd []).wr b234' (f235' + (n233' * 1)) [(.int .i64 x228')]).rst ((h.rsv 18).rsv 18)).grd []).wr b237' (f238' + (n236' * 1)) [(.int .i64 x232')]).rst (((((h.rsv 18).rsv 18).grd []).wr b234' (f235' + (n233' * 1)) [(.int .i64 x228')]).rst ((h.rsv 18).rsv 18))))))))))))))
theorem I132_1.of {O Q} (a0 n0 c0 x1 x2 g3 fi3 ca3 g3s fi3s ca3s q8 x9 x10) {h : Hp} (hh : T132_1 O Q a0 n0 c0 x1 x2 g3 fi3 ca3 g3s fi3s ca3s q8 x9 x10 h) : I132_1 O Q a0 n0 c0 x1 x2 g3 fi3 ca3 g3s fi3s ca3s q8 x9 x10 h :=
  RKL.of (tb := lv132) (cuts := []) 500 fun _ => Eq.mp (by kernel_rfl) hh
def T132_2 (O : CallF) (Q : Value → Hp → Prop) (a0 : Option Addr) (n0 : Nat) (c0 : Nat) (x1 : Int) (x2 : Int) (g3 : Nat) (fi3 : Array Value) (ca3 : Array Value) (g3s : Nat) (fi3s : Array Value) (ca3s : Array Value) (q8 : Bool) (x9 : Int) (x10 : Int) (x11 : Int) (h : Hp) : Prop :=
  vcond (!(ltI x11 1))
  (isNat x11 fun n301' =>
  isAddr a0 fun b302' f303' =>
  vreq (Nat.blt n301' n0)
  (∃ x304', readAt (h.rsv 13) b302' (f303' + (n301' * 1)) 1 = some [(.int .i64 x304')] ∧
  isNat (wrapF .i64 (x11 - 1)) fun n305' =>
  isAddr a0 fun b306' f307' =>
  vreq (Nat.blt n305' n0)
  (∃ x308', readAt (h.rsv 13) b306' (f307' + (n305' * 1)) 1 = some [(.int .i64 x308')] ∧
  ∃ x309', ∃ h310', EvC Tryd.prog O g3s (fi3s.toList ++ [(.int .i64 x304'), (.int .i64 x308')] ++ ca3s.toList) ((h.rsv 13).grd []) (.int .i64 x309') h310' ∧
  vcond (!(ltI x309' 0))
  (vcond (!(ltI (wrapF .i64 (x2 - x9)) 2))
  (I132_3 O Q a0 n0 c0 x1 x2 g3 fi3 ca3 g3s fi3s ca3s q8 x9 x10 (wrapF .i64 (x9 + 1)) (h310'.rst (h.rsv 13)))
  (I132_0 O Q a0 n0 c0 x1 x2 g3 fi3 ca3 g3s fi3s ca3s q8 x9 (wrapF .i64 (x10 + 1)) (h310'.rst (h.rsv 13))))
  (isNat (wrapF .i64 (x11 - 1)) fun n311' =>
  isAddr a0 fun b312' f313' =>
  vreq (Nat.blt n311' n0)
  (∃ x314', readAt ((h310'.rst (h.rsv 13)).rsv 18) b312' (f313' + (n311' * 1)) 1 = some [(.int .i64 x314')] ∧
  isNat x11 fun n315' =>
  isAddr a0 fun b316' f317' =>
  vreq (Nat.blt n315' n0)
  (∃ x318', readAt ((h310'.rst (h.rsv 13)).rsv 18) b316' (f317' + (n315' * 1)) 1 = some [(.int .i64 x318')] ∧
  isNat x11 fun n319' =>
  isAddr a0 fun b320' f321' =>
  vreq (Nat.blt n319' n0)
  (vreq (canW (((h310'.rst (h.rsv 13)).rsv 18).grd []) b320' (f321' + (n319' * 1)) [(.int .i64 x314')])
  (isNat (wrapF .i64 (x11 - 1)) fun n322' =>
  isAddr a0 fun b323' f324' =>
  vreq (Nat.blt n322' n0)
  (vreq (canW ((((((h310'.rst (h.rsv 13)).rsv 18).grd []).wr b320' (f321' + (n319' * 1)) [(.int .i64 x314')]).rst ((h310'.rst (h.rsv 13)).rsv 18)).grd []) b323' (f324' + (n322' * 1)) [(.int .i64 x318')])
  (I132_2 O Q a0 n0 c0 x1 x2 g3 fi3 ca3 g3s fi3s ca3s q8 x9 x10 (wrapF .i64 (x11 - 1)) ((((((((h310'.rst (h.rsv 13)).rsv 18).grd []).wr b320' (f321' + (n319' * 1)) [(.int .i64 x314')]).rst ((h310'.rst (h.rsv 13)).rsv 18)).grd []).wr b323' (f324' + (n322' * 1)) [(.int .i64 x318')]).rst (((((h310'.rst (h.rsv 13)).rsv 18).grd []).wr b320' (f321' + (n319' * 1)) [(.int .i64 x314')]).rst ((h310'.rst (h.rsv 13)).rsv 18)))))))))))))
  (vcond (!(ltI (wrapF .i64 (x2 - x9)) 2))
  (I132_3 O Q a0 n0 c0 x1 x2 g3 fi3 ca3 g3s fi3s ca3s q8 x9 x10 (wrapF .i64 (x9 + 1)) h)
  (I132_0 O Q a0 n0 c0 x1 x2 g3 fi3 ca3 g3s fi3s ca3s q8 x9 (wrapF .i64 (x10 + 1)) h))
theorem I132_2.of {O Q} (a0 n0 c0 x1 x2 g3 fi3 ca3 g3s fi3s ca3s q8 x9 x10 x11) {h : Hp} (hh : T132_2 O Q a0 n0 c0 x1 x2 g3 fi3 ca3 g3s fi3s ca3s q8 x9 x10 x11 h) : I132_2 O Q a0 n0 c0 x1 x2 g3 fi3 ca3 g3s fi3s ca3s q8 x9 x10 x11 h :=
  RKL.of (tb := lv132) (cuts := []) 500 fun _ => Eq.mp (by kernel_rfl) hh
def T132_3 (O : CallF) (Q : Value → Hp → Prop) (a0 : Option Addr) (n0 : Nat) (c0 : Nat) (x1 : Int) (x2 : Int) (g3 : Nat) (fi3 : Array Value) (ca3 : Array Value) (g3s : Nat) (fi3s : Array Value) (ca3s : Array Value) (q8 : Bool) (x9 : Int) (x10 : Int) (x12 : Int) (h : Hp) : Prop :=
  vcond (ltI x12 x2)
  (isNat x12 fun n401' =>
  isAddr a0 fun b402' f403' =>
  vreq (Nat.blt n401' n0)
  (∃ x404', readAt (h.rsv 13) b402' (f403' + (n401' * 1)) 1 = some [(.int .i64 x404')] ∧
  isNat (wrapF .i64 (x12 - 1)) fun n405' =>
  isAddr a0 fun b406' f407' =>
  vreq (Nat.blt n405' n0)
  (∃ x408', readAt (h.rsv 13) b406' (f407' + (n405' * 1)) 1 = some [(.int .i64 x408')] ∧
  ∃ x409', ∃ h410', EvC Tryd.prog O g3s (fi3s.toList ++ [(.int .i64 x404'), (.int .i64 x408')] ++ ca3s.toList) ((h.rsv 13).grd []) (.int .i64 x409') h410' ∧
  vcond (!(ltI x409' 0))
  (I132_0 O Q a0 n0 c0 x1 x2 g3 fi3 ca3 g3s fi3s ca3s q8 x9 (wrapF .i64 (x10 + 1)) (h410'.rst (h.rsv 13)))
  (isNat (wrapF .i64 (x12 - 1)) fun n411' =>
  isAddr a0 fun b412' f413' =>
  vreq (Nat.blt n411' n0)
  (∃ x414', readAt ((h410'.rst (h.rsv 13)).rsv 18) b412' (f413' + (n411' * 1)) 1 = some [(.int .i64 x414')] ∧
  isNat x12 fun n415' =>
  isAddr a0 fun b416' f417' =>
  vreq (Nat.blt n415' n0)
  (∃ x418', readAt ((h410'.rst (h.rsv 13)).rsv 18) b416' (f417' + (n415' * 1)) 1 = some [(.int .i64 x418')] ∧
  isNat x12 fun n419' =>
  isAddr a0 fun b420' f421' =>
  vreq (Nat.blt n419' n0)
  (vreq (canW (((h410'.rst (h.rsv 13)).rsv 18).grd []) b420' (f421' + (n419' * 1)) [(.int .i64 x414')])
  (isNat (wrapF .i64 (x12 - 1)) fun n422' =>
  isAddr a0 fun b423' f424' =>
  vreq (Nat.blt n422' n0)
  (vreq (canW ((((((h410'.rst (h.rsv 13)).rsv 18).grd []).wr b420' (f421' + (n419' * 1)) [(.int .i64 x414')]).rst ((h410'.rst (h.rsv 13)).rsv 18)).grd []) b423' (f424' + (n422' * 1)) [(.int .i64 x418')])
  (I132_3 O Q a0 n0 c0 x1 x2 g3 fi3 ca3 g3s fi3s ca3s q8 x9 x10 (wrapF .i64 (x12 + 1)) ((((((((h410'.rst (h.rsv 13)).rsv 18).grd []).wr b420' (f421' + (n419' * 1)) [(.int .i64 x414')]).rst ((h410'.rst (h.rsv 13)).rsv 18)).grd []).wr b423' (f424' + (n422' * 1)) [(.int .i64 x418')]).rst (((((h410'.rst (h.rsv 13)).rsv 18).grd []).wr b420' (f421' + (n419' * 1)) [(.int .i64 x414')]).rst ((h410'.rst (h.rsv 13)).rsv 18)))))))))))))
  (I132_0 O Q a0 n0 c0 x1 x2 g3 fi3 ca3 g3s fi3s ca3s q8 x9 (wrapF .i64 (x10 + 1)) h)
theorem I132_3.of {O Q} (a0 n0 c0 x1 x2 g3 fi3 ca3 g3s fi3s ca3s q8 x9 x10 x12) {h : Hp} (hh : T132_3 O Q a0 n0 c0 x1 x2 g3 fi3 ca3 g3s fi3s ca3s q8 x9 x10 x12 h) : I132_3 O Q a0 n0 c0 x1 x2 g3 fi3 ca3 g3s fi3s ca3s q8 x9 x10 x12 h :=
  RKL.of (tb := lv132) (cuts := []) 500 fun _ => Eq.mp (by kernel_rfl) hh
/-! slices.medianAdjacentCmpFunc[int] -/
noncomputable def b143 : Code := (Tryd.f143.body).getD .skip
def lv143 : List (Nat × List Nat) := []
def T143 (O : CallF) (Q : Value → Hp → Prop) (a0 : Option Addr) (n0 : Nat) (c0 : Nat) (x1 : Int) (b2 : Nat) (f2 : Nat) (g3 : Nat) (fi3 : Array Value) (ca3 : Array Value) (h : Hp) : Prop :=
  ∃ x1', ∃ h2', EvC Tryd.prog O 144 [(.slice a0 n0 c0), (.int .i64 (wrapF .i64 (x1 - 1))), (.int .i64 x1), (.int .i64 (wrapF .i64 (x1 + 1))), (.pointer (some ⟨b2, f2, none⟩)), (.func (.func g3) fi3 ca3)] h (.int .i64 x1') h2' ∧
  Q (.int .i64 x1') h2'
theorem rk143 {O Q} (a0 n0 c0 x1 b2 f2 g3 fi3 ca3) {h : Hp} (hO : O 143 [(.slice a0 n0 c0), (.int .i64 x1), (.pointer (some ⟨b2, f2, none⟩)), (.func (.func g3) fi3 ca3)] h = none) (hh : T143 O Q a0 n0 c0 x1 b2 f2 g3 fi3 ca3 h) : Ret Tryd.prog O 143 [(.slice a0 n0 c0), (.int .i64 x1), (.pointer (some ⟨b2, f2, none⟩)), (.func (.func g3) fi3 ca3)] h Q :=
  .of (c := b143) Tryd.func143 (by kernel_rfl) hO (V_ok (tb := lv143) (cuts := []) 500 (Eq.mp (by kernel_rfl) hh))
/-! slices.medianCmpFunc[int] -/
noncomputable def b144 : Code := (Tryd.f144.body).getD .skip
def lv144 : List (Nat × List Nat) := []
def T144 (O : CallF) (Q : Value → Hp → Prop) (a0 : Option Addr) (n0 : Nat) (c0 : Nat) (x1 : Int) (x2 : Int) (x3 : Int) (b4 : Nat) (f4 : Nat) (g5 : Nat) (fi5 : Array Value) (ca5 : Array Value) (h : Hp) : Prop :=
  ∃ x1', ∃ x2', ∃ h3', EvC Tryd.prog O 145 [(.slice a0 n0 c0), (.int .i64 x1), (.int .i64 x2), (.pointer (some ⟨b4, f4, none⟩)), (.func (.func g5) fi5 ca5)] h (.tuple #[(.int .i64 x1'), (.int .i64 x2')]) h3' ∧
  ∃ x4', ∃ x5', ∃ h6', EvC Tryd.prog O 145 [(.slice a0 n0 c0), (.int .i64 x2'), (.int .i64 x3), (.pointer (some ⟨b4, f4, none⟩)), (.func (.func g5) fi5 ca5)] h3' (.tuple #[(.int .i64 x4'), (.int .i64 x5')]) h6' ∧
  ∃ x7', ∃ x8', ∃ h9', EvC Tryd.prog O 145 [(.slice a0 n0 c0), (.int .i64 x1'), (.int .i64 x4'), (.pointer (some ⟨b4, f4, none⟩)), (.func (.func g5) fi5 ca5)] h6' (.tuple #[(.int .i64 x7'), (.int .i64 x8')]) h9' ∧
  Q (.int .i64 x8') h9'
theorem rk144 {O Q} (a0 n0 c0 x1 x2 x3 b4 f4 g5 fi5 ca5) {h : Hp} (hO : O 144 [(.slice a0 n0 c0), (.int .i64 x1), (.int .i64 x2), (.int .i64 x3), (.pointer (some ⟨b4, f4, none⟩)), (.func (.func g5) fi5 ca5)] h = none) (hh : T144 O Q a0 n0 c0 x1 x2 x3 b4 f4 g5 fi5 ca5 h) : Ret Tryd.prog O 144 [(.slice a0 n0 c0), (.int .i64 x1), (.int .i64 x2), (.int .i64 x3), (.pointer (some ⟨b4, f4, none⟩)), (.func (.func g5) fi5 ca5)] h Q :=
  .of (c := b144) Tryd.func144 (by kernel_rfl) hO (V_ok (tb := lv144) (cuts := []) 500 (Eq.mp (by kernel_rfl) hh))
/-! slices.order2CmpFunc[int] -/
noncomputable def b145 : Code := (Tryd.f145.body).getD .skip
def lv145 : List (Nat × List Nat) := []
def T145 (O : CallF) (Q : Value → Hp → Prop) (a0 : Option Addr) (n0 : Nat) (c0 : Nat) (x1 : Int) (x2 : Int) (b3 : Nat) (f3 : Nat) (g4 : Nat) (fi4 : Array Value) (ca4 : Array Value) (h : Hp) : Prop :=
  isNat x2 fun n1' =>
  isAddr a0 fun b2' f3' =>
  vreq (Nat.blt n1' n0)
  (∃ x4', readAt (h.rsv 11) b2' (f3' + (n1' * 1)) 1 = some [(.int .i64 x4')] ∧
  isNat x1 fun n5' =>
  isAddr a0 fun b6' f7' =>
  vreq (Nat.blt n5' n0)
  (∃ x8', readAt (h.rsv 11) b6' (f7' + (n5' * 1)) 1 = some [(.int .i64 x8')] ∧
  ∃ x9', ∃ h10', EvC Tryd.prog O g4 (fi4.toList ++ [(.int .i64 x4'), (.int .i64 x8')] ++ ca4.toList) ((h.rsv 11).grd []) (.int .i64 x9') h10' ∧
  vcond (ltI x9' 0)
  (∃ x11', readAt (h10'.rst (h.rsv 11)) b3 f3 1 = some [(.int .i64 x11')] ∧
  vreq (canW (h10'.rst (h.rsv 11)) b3 f3 [(.int .i64 (wrapF .i64 (x11' + 1)))])
  (Q (.tuple #[(.int .i64 x2), (.int .i64 x1)]) ((h10'.rst (h.rsv 11)).wr b3 f3 [(.int .i64 (wrapF .i64 (x11' + 1)))])))
  (Q (.tuple #[(.int .i64 x1), (.int .i64 x2)]) (h10'.rst (h.rsv 11)))))
theorem rk145 {O Q} (a0 n0 c0 x1 x2 b3 f3 g4 fi4 ca4) {h : Hp} (hO : O 145 [(.slice a0 n0 c0), (.int .i64 x1), (.int .i64 x2), (.pointer (some ⟨b3, f3, none⟩)), (.func (.func g4) fi4 ca4)] h = none) (hh : T145 O Q a0 n0 c0 x1 x2 b3 f3 g4 fi4 ca4 h) : Ret Tryd.prog O 145 [(.slice a0 n0 c0), (.int .i64 x1), (.int .i64 x2), (.pointer (some ⟨b3, f3, none⟩)), (.func (.func g4) fi4 ca4)] h Q :=
  .of (c := b145) Tryd.func145 (by kernel_rfl) hO (V_ok (tb := lv145) (cuts := []) 500 (Eq.mp (by kernel_rfl) hh))
/-! math/bits.Len -/
noncomputable def b116 : Code := (Tryd.f116.body).getD .skip
def lv116 : List (Nat × List Nat) := []
def T116 (O : CallF) (Q : Value → Hp → Prop) (x0 : Int) (h : Hp) : Prop :=
  ∃ x1', ∃ h2', EvC Tryd.prog O 136 [(.int .u64 x0)] h (.int .i64 x1') h2' ∧
  Q (.int .i64 x1') h2'
theorem rk116 {O Q} (x0) {h : Hp} (hO : O 116 [(.int .u64 x0)] h = none) (hh : T116 O Q x0 h) : Ret Tryd.prog O 116 [(.int .u64 x0)] h Q :=
  .of (c := b116) Tryd.func116 (by kernel_rfl) hO (V_ok (tb := lv116) (cuts := []) 500 (Eq.mp (by kernel_rfl) hh))
/-! math/bits.Len32 -/
noncomputable def b135 : Code := (Tryd.f135.body).getD .skip
def lv135 : List (Nat × List Nat) := []
def T135 (O : CallF) (Q : Value → Hp → Prop) (x0 : Int) (h : Hp) : Prop :=
  vcond (!(ltI x0 65536))
  (vcond (!(ltI (shrF .u32 x0 16) 256))
  (isNat (wrapF .u8 (shrF .u32 (shrF .u32 x0 16) 8)) fun n1' =>
  vreq (Nat.blt n1' 256)
  (Q (.int .i64 (wrapF .i64 (24 + (wrapF .i64 (byteI (ByteArray.mk #[0, 1, 2, 2, 3, 3, 3, 3, 4, 4, 4, 4, 4, 4, 4, 4, 5, 5, 5, 5, 5, 5, 5, 5, 5, 5, 5, 5, 5, 5, 5, 5, 6, 6, 6, 6, 6, 6, 6, 6, 6, 6, 6, 6, 6, 6, 6, 6, 6, 6, 6, 6, 6, 6, 6, 6, 6, 6, 6, 6, 6, 6, 6, 6, 7, 7, 7, 7, 7, 7, 7, 7, 7, 7, 7, 7, 7, 7, 7, 7, 7, 7, 7, 7, 7, 7, 7, 7, 7, 7, 7, 7, 7, 7, 7, 7, 7, 7, 7, 7, 7, 7, 7, 7, 7, 7, 7, 7, 7, 7, 7, 7, 7, 7, 7, 7, 7, 7, 7, 7, 7, 7, 7, 7, 7, 7, 7, 7, 8, 8, 8, 8, 8, 8, 8, 8, 8, 8, 8, 8, 8, 8, 8, 8, 8, 8, 8, 8, 8, 8, 8, 8, 8, 8, 8, 8, 8, 8, 8, 8, 8, 8, 8, 8, 8, 8, 8, 8, 8, 8, 8, 8, 8, 8, 8, 8, 8, 8, 8, 8, 8, 8, 8, 8, 8, 8, 8, 8, 8, 8, 8, 8, 8, 8, 8, 8, 8, 8, 8, 8, 8, 8, 8, 8, 8, 8, 8, 8, 8, 8, 8, 8, 8, 8, 8, 8, 8, 8, 8, 8, 8, 8, 8, 8, 8, 8, 8, 8, 8, 8, 8, 8, 8, 8, 8, 8, 8, 8, 8, 8, 8, 8, 8, 8, 8, 8, 8, 8, 8, 8, 8, 8, 8, 8, 8, 8]) n1'))))) h))
  (isNat (wrapF .u8 (shrF .u32 x0 16)) fun n2' =>
  vreq (Nat.blt n2' 256)
  (Q (.int .i64 (wrapF .i64 (16 + (wrapF .i64 (byteI (ByteArray.mk #[0, 1, 2, 2, 3, 3, 3, 3, 4, 4, 4, 4, 4, 4, 4, 4, 5, 5, 5, 5, 5, 5, 5, 5, 5, 5, 5, 5, 5, 5, 5, 5, 6, 6, 6, 6, 6, 6, 6, 6, 6, 6, 6, 6, 6, 6, 6, 6, 6, 6, 6, 6, 6, 6, 6, 6, 6, 6, 6, 6, 6, 6, 6, 6, 7, 7, 7, 7, 7, 7, 7, 7, 7, 7, 7, 7, 7, 7, 7, 7, 7, 7, 7, 7, 7, 7, 7, 7, 7, 7, 7, 7, 7, 7, 7, 7, 7, 7, 7, 7, 7, 7, 7, 7, 7, 7, 7, 7, 7, 7, 7, 7, 7, 7, 7, 7, 7, 7, 7, 7, 7, 7, 7, 7, 7, 7, 7, 7, 8, 8, 8, 8, 8, 8, 8, 8, 8, 8, 8, 8, 8, 8, 8, 8, 8, 8, 8, 8, 8, 8, 8, 8, 8, 8, 8, 8, 8, 8, 8, 8, 8, 8, 8, 8, 8, 8, 8, 8, 8, 8, 8, 8, 8, 8, 8, 8, 8, 8, 8, 8, 8, 8, 8, 8, 8, 8, 8, 8, 8, 8, 8, 8, 8, 8, 8, 8, 8, 8, 8, 8, 8, 8, 8, 8, 8, 8, 8, 8, 8, 8, 8, 8, 8, 8, 8, 8, 8, 8, 8, 8, 8, 8, 8, 8, 8, 8, 8, 8, 8, 8, 8, 8, 8, 8, 8, 8, 8, 8, 8, 8, 8, 8, 8, 8, 8, 8, 8, 8, 8, 8, 8, 8, 8, 8, 8, 8]) n2'))))) h)))
  (vcond (!(ltI x0 256))
  (isNat (wrapF .u8 (shrF .u32 x0 8)) fun n3' =>
  vreq (Nat.blt n3' 256)
  (Q (.int .i64 (wrapF .i64 (8 + (wrapF .i64 (byteI (ByteArray.mk #[0, 1, 2, 2, 3, 3, 3, 3, 4, 4, 4, 4, 4, 4, 4, 4, 5, 5, 5, 5, 5, 5, 5, 5, 5, 5, 5, 5, 5, 5, 5, 5, 6, 6, 6, 6, 6, 6, 6, 6, 6, 6, 6, 6, 6, 6, 6, 6, 6, 6, 6, 6, 6, 6, 6, 6, 6, 6, 6, 6, 6, 6, 6, 6, 7, 7, 7, 7, 7, 7, 7, 7, 7, 7, 7, 7, 7, 7, 7, 7, 7, 7, 7, 7, 7, 7, 7, 7, 7, 7, 7, 7, 7, 7, 7, 7, 7, 7, 7, 7, 7, 7, 7, 7, 7, 7, 7, 7, 7, 7, 7, 7, 7, 7, 7, 7, 7, 7, 7, 7, 7, 7, 7, 7, 7, 7, 7, 7, 8, 8, 8, 8, 8, 8, 8, 8, 8, 8, 8, 8, 8, 8, 8, 8, 8, 8, 8, 8, 8, 8, 8, 8, 8, 8, 8, 8, 8, 8, 8, 8, 8, 8, 8, 8, 8, 8, 8, 8, 8, 8, 8, 8, 8, 8, 8, 8, 8, 8, 8, 8, 8, 8, 8, 8, 8, 8, 8, 8, 8, 8, 8, 8, 8, 8, 8, 8, 8, 8, 8, 8, 8, 8, 8, 8, 8, 8, 8, 8, 8, 8, 8, 8, 8, 8, 8, 8, 8, 8, 8, 8, 8, 8, 8, 8, 8, 8, 8, 8, 8, 8, 8, 8, 8, 8, 8, 8, 8, 8, 8, 8, 8, 8, 8, 8, 8, 8, 8, 8, 8, 8, 8, 8, 8, 8, 8, 8]) n3'))))) h))
  (isNat (wrapF .u8 x0) fun n4' =>
  vreq (Nat.blt n4' 256)
  (Q (.int .i64 (wrapF .i64 (0 + (wrapF .i64 (byteI (ByteArray.mk #[0, 1, 2, 2, 3, 3, 3, 3, 4, 4, 4, 4, 4, 4, 4, 4, 5, 5, 5, 5, 5, 5, 5, 5, 5, 5, 5, 5, 5, 5, 5, 5, 6, 6, 6, 6, 6, 6, 6, 6, 6, 6, 6, 6, 6, 6, 6, 6, 6, 6, 6, 6, 6, 6, 6, 6, 6, 6, 6, 6, 6, 6, 6, 6, 7, 7, 7, 7, 7, 7, 7, 7, 7, 7, 7, 7, 7, 7, 7, 7, 7, 7, 7, 7, 7, 7, 7, 7, 7, 7, 7, 7, 7, 7, 7, 7, 7, 7, 7, 7, 7, 7, 7, 7, 7, 7, 7, 7, 7, 7, 7, 7, 7, 7, 7, 7, 7, 7, 7, 7, 7, 7, 7, 7, 7, 7, 7, 7, 8, 8, 8, 8, 8, 8, 8, 8, 8, 8, 8, 8, 8, 8, 8, 8, 8, 8, 8, 8, 8, 8, 8, 8, 8, 8, 8, 8, 8, 8, 8, 8, 8, 8, 8, 8, 8, 8, 8, 8, 8, 8, 8, 8, 8, 8, 8, 8, 8, 8, 8, 8, 8, 8, 8, 8, 8, 8, 8, 8, 8, 8, 8, 8, 8, 8, 8, 8, 8, 8, 8, 8, 8, 8, 8, 8, 8, 8, 8, 8, 8, 8, 8, 8, 8, 8, 8, 8, 8, 8, 8, 8, 8, 8, 8, 8, 8, 8, 8, 8, 8, 8, 8, 8, 8, 8, 8, 8, 8, 8, 8, 8, 8, 8, 8, 8, 8, 8, 8, 8, 8, 8, 8, 8, 8, 8, 8, 8]) n4'))))) h)))
theorem rk135 {O Q} (x0) {h : Hp} (hO : O 135 [(.int .u32 x0)] h = none) (hh : T135 O Q x0 h) : Ret Tryd.prog O 135 [(.int .u32 x0)] h Q :=
  .of (c := b135) Tryd.func135 (by kernel_rfl) hO (V_ok (tb := lv135) (cuts := []) 500 (Eq.mp (by kernel_rfl) hh))
/-! math/bits.Len64 -/
noncomputable def b136 : Code := (Tryd.f136.body).getD .skip
def lv136 : List (Nat × List Nat) := []
def T136 (O : CallF) (Q : Value → Hp → Prop) (x0 : Int) (h : Hp) : Prop :=
  vcond (!(ltI x0 4294967296))
  (vcond (!(ltI (shrF .u64 x0 32) 65536))
  (vcond (!(ltI (shrF .u64 (shrF .u64 x0 32) 16) 256))
  (isNat (wrapF .u8 (shrF .u64 (shrF .u64 (shrF .u64 x0 32) 16) 8)) fun n1' =>
  vreq (Nat.blt n1' 256)
  (Q (.int .i64 (wrapF .i64 (56 + (wrapF .i64 (byteI (ByteArray.mk #[0, 1, 2, 2, 3, 3, 3, 3, 4, 4, 4, 4, 4, 4, 4, 4, 5, 5, 5, 5, 5, 5, 5, 5, 5, 5, 5, 5, 5, 5, 5, 5, 6, 6, 6, 6, 6, 6, 6, 6, 6, 6, 6, 6, 6, 6, 6, 6, 6, 6, 6, 6, 6, 6, 6, 6, 6, 6, 6, 6, 6, 6, 6, 6, 7, 7, 7, 7, 7, 7, 7, 7, 7, 7, 7, 7, 7, 7, 7, 7, 7, 7, 7, 7, 7, 7, 7, 7, 7, 7, 7, 7, 7, 7, 7, 7, 7, 7, 7, 7, 7, 7, 7, 7, 7, 7, 7, 7, 7, 7, 7, 7, 7, 7, 7, 7, 7, 7, 7, 7, 7, 7, 7, 7, 7, 7, 7, 7, 8, 8, 8, 8, 8, 8, 8, 8, 8, 8, 8, 8, 8, 8, 8, 8, 8, 8, 8, 8, 8, 8, 8, 8, 8, 8, 8, 8, 8, 8, 8, 8, 8, 8, 8, 8, 8, 8, 8, 8, 8, 8, 8, 8, 8, 8, 8, 8, 8, 8, 8, 8, 8, 8, 8, 8, 8, 8, 8, 8, 8, 8, 8, 8, 8, 8, 8, 8, 8, 8, 8, 8, 8, 8, 8, 8, 8, 8, 8, 8, 8, 8, 8, 8, 8, 8, 8, 8, 8, 8, 8, 8, 8, 8, 8, 8, 8, 8, 8, 8, 8, 8, 8, 8, 8, 8, 8, 8, 8, 8, 8, 8, 8, 8, 8, 8, 8, 8, 8, 8, 8, 8, 8, 8, 8, 8, 8, 8]) n1'))))) h))
  (isNat (wrapF .u8 (shrF .u64 (shrF .u64 x0 32) 16)) fun n2' =>
  vreq (Nat.blt n2' 256)
  (Q (.int .i64 (wrapF .i64 (48 + (wrapF .i64 (byteI (ByteArray.mk #[0, 1, 2, 2, 3, 3, 3, 3, 4, 4, 4, 4, 4, 4, 4, 4, 5, 5, 5, 5, 5, 5, 5, 5, 5, 5, 5, 5, 5, 5, 5, 5, 6, 6, 6, 6, 6, 6, 6, 6, 6, 6, 6, 6, 6, 6, 6, 6, 6, 6, 6, 6, 6, 6, 6, 6, 6, 6, 6, 6, 6, 6, 6, 6, 7, 7, 7, 7, 7, 7, 7, 7, 7, 7, 7, 7, 7, 7, 7, 7, 7, 7, 7, 7, 7, 7, 7, 7, 7, 7, 7, 7, 7, 7, 7, 7, 7, 7, 7, 7, 7, 7, 7, 7, 7, 7, 7, 7, 7, 7, 7, 7, 7, 7, 7, 7, 7, 7, 7, 7, 7, 7, 7, 7, 7, 7, 7, 7, 8, 8, 8, 8, 8, 8, 8, 8, 8, 8, 8, 8, 8, 8, 8, 8, 8, 8, 8, 8, 8, 8, 8, 8, 8, 8, 8, 8, 8, 8, 8, 8, 8, 8, 8, 8, 8, 8, 8, 8, 8, 8, 8, 8, 8, 8, 8, 8, 8, 8, 8, 8, 8, 8, 8, 8, 8, 8, 8, 8, 8, 8, 8, 8, 8, 8, 8, 8, 8, 8, 8, 8, 8, 8, 8, 8, 8, 8, 8, 8, 8, 8, 8, 8, 8, 8, 8, 8, 8, 8, 8, 8, 8, 8, 8, 8, 8, 8, 8, 8, 8, 8, 8, 8, 8, 8, 8, 8, 8, 8, 8, 8, 8, 8, 8, 8, 8, 8, 8, 8, 8, 8, 8, 8, 8, 8, 8, 8]) n2'))))) h)))
  (vcond (!(ltI (shrF .u64 x0 32) 256))
  (isNat (wrapF .u8 (shrF .u64 (shrF .u64 x0 32) 8)) fun n3' =>
  vreq (Nat.blt n3' 256)
  (Q (.int .i64 (wrapF .i64 (40 + (wrapF .i64 (byteI (ByteArray.mk #[0, 1, 2, 2, 3, 3, 3, 3, 4, 4, 4, 4, 4, 4, 4, 4, 5, 5, 5, 5, 5, 5, 5, 5, 5, 5, 5, 5, 5, 5, 5, 5, 6, 6, 6, 6, 6, 6, 6, 6, 6, 6, 6, 6, 6, 6, 6, 6, 6, 6, 6, 6, 6, 6, 6, 6, 6, 6, 6, 6, 6, 6, 6, 6, 7, 7, 7, 7, 7, 7, 7, 7, 7, 7, 7, 7, 7, 7, 7, 7, 7, 7, 7, 7, 7, 7, 7, 7, 7, 7, 7, 7, 7, 7, 7, 7, 7, 7, 7, 7, 7, 7, 7, 7, 7, 7, 7, 7, 7, 7, 7, 7, 7, 7, 7, 7, 7, 7, 7, 7, 7, 7, 7, 7, 7, 7, 7, 7, 8, 8, 8, 8, 8, 8, 8, 8, 8, 8, 8, 8, 8, 8, 8, 8, 8, 8, 8, 8, 8, 8, 8, 8, 8, 8, 8, 8, 8, 8, 8, 8, 8, 8, 8, 8, 8, 8, 8, 8, 8, 8, 8, 8, 8, 8, 8, 8, 8, 8, 8, 8, 8, 8, 8, 8, 8, 8, 8, 8, 8, 8, 8, 8, 8, 8, 8, 8, 8, 8, 8, 8, 8, 8, 8, 8, 8, 8, 8, 8, 8, 8, 8, 8, 8, 8, 8, 8, 8, 8, 8, 8, 8, 8, 8, 8, 8, 8, 8, 8, 8, 8, 8, 8, 8, 8, 8, 8, 8, 8, 8, 8, 8, 8, 8, 8, 8, 8, 8, 8, 8, 8, 8, 8, 8, 8, 8, 8]) n3'))))) h))
  (isNat (wrapF .u8 (shrF .u64 x0 32)) fun n4' =>
  vreq (Nat.blt n4' 256)
  (Q (.int .i64 (wrapF .i64 (32 + (wrapF .i64 (byteI (ByteArray.mk #[0, 1, 2, 2, 3, 3, 3, 3, 4, 4, 4, 4, 4, 4, 4, 4, 5, 5, 5, 5, 5, 5, 5, 5, 5, 5, 5, 5, 5, 5, 5, 5, 6, 6, 6, 6, 6, 6, 6, 6, 6, 6, 6, 6, 6, 6, 6, 6, 6, 6, 6, 6, 6, 6, 6, 6, 6, 6, 6, 6, 6, 6, 6, 6, 7, 7, 7, 7, 7, 7, 7, 7, 7, 7, 7, 7, 7, 7, 7, 7, 7, 7, 7, 7, 7, 7, 7, 7, 7, 7, 7, 7, 7, 7, 7, 7, 7, 7, 7, 7, 7, 7, 7, 7, 7, 7, 7, 7, 7, 7, 7, 7, 7, 7, 7, 7, 7, 7, 7, 7, 7, 7, 7, 7, 7, 7, 7, 7, 8, 8, 8, 8, 8, 8, 8, 8, 8, 8, 8, 8, 8, 8, 8, 8, 8, 8, 8, 8, 8, 8, 8, 8, 8, 8, 8, 8, 8, 8, 8, 8, 8, 8, 8, 8, 8, 8, 8, 8, 8, 8, 8, 8, 8, 8, 8, 8, 8, 8, 8, 8, 8, 8, 8, 8, 8, 8, 8, 8, 8, 8, 8, 8, 8, 8, 8, 8, 8, 8, 8, 8, 8, 8, 8, 8, 8, 8, 8, 8, 8, 8, 8, 8, 8, 8, 8, 8, 8, 8, 8, 8, 8, 8, 8, 8, 8, 8, 8, 8, 8, 8, 8, 8, 8, 8, 8, 8, 8, 8, 8, 8, 8, 8, 8, 8, 8, 8, 8, 8, 8, 8, 8, 8, 8, 8, 8, 8]) n4'))))) h))))
  (vcond (!(ltI x0 65536))
  (vcond (!(ltI (shrF .u64 x0 16) 256))
  (isNat (wrapF .u8 (shrF .u64 (shrF .u64 x0 16) 8)) fun n5' =>
  vreq (Nat.blt n5' 256)
  (Q (.int .i64 (wrapF .i64 (24 + (wrapF .i64 (byteI (ByteArray.mk #[0, 1, 2, 2, 3, 3, 3, 3, 4, 4, 4, 4, 4, 4, 4, 4, 5, 5, 5, 5, 5, 5, 5, 5, 5, 5, 5, 5, 5, 5, 5, 5, 6, 6, 6, 6, 6, 6, 6, 6, 6, 6, 6, 6, 6, 6, 6, 6, 6, 6, 6, 6, 6, 6, 6, 6, 6, 6, 6, 6, 6, 6, 6, 6, 7, 7, 7, 7, 7, 7, 7, 7, 7, 7, 7, 7, 7, 7, 7, 7, 7, 7, 7, 7, 7, 7, 7, 7, 7, 7, 7, 7, 7, 7, 7, 7, 7, 7, 7, 7, 7, 7, 7, 7, 7, 7, 7, 7, 7, 7, 7, 7, 7, 7, 7, 7, 7, 7, 7, 7, 7, 7, 7, 7, 7, 7, 7, 7, 8, 8, 8, 8, 8, 8, 8, 8, 8, 8, 8, 8, 8, 8, 8, 8, 8, 8, 8, 8, 8, 8, 8, 8, 8, 8, 8, 8, 8, 8, 8, 8, 8, 8, 8, 8, 8, 8, 8, 8, 8, 8, 8, 8, 8, 8, 8, 8, 8, 8, 8, 8, 8, 8, 8, 8, 8, 8, 8, 8, 8, 8, 8, 8, 8, 8, 8, 8, 8, 8, 8, 8, 8, 8, 8, 8, 8, 8, 8, 8, 8, 8, 8, 8, 8, 8, 8, 8, 8, 8, 8, 8, 8, 8, 8, 8, 8, 8, 8, 8, 8, 8, 8, 8, 8, 8, 8, 8, 8, 8, 8, 8, 8, 8, 8, 8, 8, 8, 8, 8, 8, 8, 8, 8, 8, 8, 8, 8]) n5'))))) h))
  (isNat (wrapF .u8 (shrF .u64 x0 16)) fun n6' =>
  vreq (Nat.blt n6' 256)
  (Q (.int .i64 (wrapF .i64 (16 + (wrapF .i64 (byteI (ByteArray.mk #[0, 1, 2, 2, 3, 3, 3, 3, 4, 4, 4, 4, 4, 4, 4, 4, 5, 5, 5, 5, 5, 5, 5, 5, 5, 5, 5, 5, 5, 5, 5, 5, 6, 6, 6, 6, 6, 6, 6, 6, 6, 6, 6, 6, 6, 6, 6, 6, 6, 6, 6, 6, 6, 6, 6, 6, 6, 6, 6, 6, 6, 6, 6, 6, 7, 7, 7, 7, 7, 7, 7, 7, 7, 7, 7, 7, 7, 7, 7, 7, 7, 7, 7, 7, 7, 7, 7, 7, 7, 7, 7, 7, 7, 7, 7, 7, 7, 7, 7, 7, 7, 7, 7, 7, 7, 7, 7, 7, 7, 7, 7, 7, 7, 7, 7, 7, 7, 7, 7, 7, 7, 7, 7, 7, 7, 7, 7, 7, 8, 8, 8, 8, 8, 8, 8, 8, 8, 8, 8, 8, 8, 8, 8, 8, 8, 8, 8, 8, 8, 8, 8, 8, 8, 8, 8, 8, 8, 8, 8, 8, 8, 8, 8, 8, 8, 8, 8, 8, 8, 8, 8, 8, 8, 8, 8, 8, 8, 8, 8, 8, 8, 8, 8, 8, 8, 8, 8, 8, 8, 8, 8, 8, 8, 8, 8, 8, 8, 8, 8, 8, 8, 8, 8, 8, 8, 8, 8, 8, 8, 8, 8, 8, 8, 8, 8, 8, 8, 8, 8, 8, 8, 8, 8, 8, 8, 8, 8, 8, 8, 8, 8, 8, 8, 8, 8, 8, 8, 8, 8, 8, 8, 8, 8, 8, 8, 8, 8, 8, 8, 8, 8, 8, 8, 8, 8, 8]) n6'))))) h)))
  (vcond (!(ltI x0 256))
  (isNat (wrapF .u8 (shrF .u64 x0 8)) fun n7' =>
  vreq (Nat.blt n7' 256)
  (Q (.int .i64 (wrapF .i64 (8 + (wrapF .i64 (byteI (ByteArray.mk #[0, 1, 2, 2, 3, 3, 3, 3, 4, 4, 4, 4, 4, 4, 4, 4, 5, 5, 5, 5, 5, 5, 5, 5, 5, 5, 5, 5, 5, 5, 5, 5, 6, 6, 6, 6, 6, 6, 6, 6, 6, 6, 6, 6, 6, 6, 6, 6, 6, 6, 6, 6, 6, 6, 6, 6, 6, 6, 6, 6, 6, 6, 6, 6, 7, 7, 7, 7, 7, 7, 7, 7, 7, 7, 7, 7, 7, 7, 7, 7, 7, 7, 7, 7, 7, 7, 7, 7, 7, 7, 7, 7, 7, 7, 7, 7, 7, 7, 7, 7, 7, 7, 7, 7, 7, 7, 7, 7, 7, 7, 7, 7, 7, 7, 7, 7, 7, 7, 7, 7, 7, 7, 7, 7, 7, 7, 7, 7, 8, 8, 8, 8, 8, 8, 8, 8, 8, 8, 8, 8, 8, 8, 8, 8, 8, 8, 8, 8, 8, 8, 8, 8, 8, 8, 8, 8, 8, 8, 8, 8, 8, 8, 8, 8, 8, 8, 8, 8, 8, 8, 8, 8, 8, 8, 8, 8, 8, 8, 8, 8, 8, 8, 8, 8, 8, 8, 8, 8, 8, 8, 8, 8, 8, 8, 8, 8, 8, 8, 8, 8, 8, 8, 8, 8, 8, 8, 8, 8, 8, 8, 8, 8, 8, 8, 8, 8, 8, 8, 8, 8, 8, 8, 8, 8, 8, 8, 8, 8, 8, 8, 8, 8, 8, 8, 8, 8, 8, 8, 8, 8, 8, 8, 8, 8, 8, 8, 8, 8, 8, 8, 8, 8, 8, 8, 8, 8]) n7'))))) h))
  (isNat (wrapF .u8 x0) fun n8' =>
  vreq (Nat.blt n8' 256)
  (Q (.int .i64 (wrapF .i64 (0 + (wrapF .i64 (byteI (ByteArray.mk #[0, 1, 2, 2, 3, 3, 3, 3, 4, 4, 4, 4, 4, 4, 4, 4, 5, 5, 5, 5, 5, 5, 5, 5, 5, 5, 5, 5, 5, 5, 5, 5, 6, 6, 6, 6, 6, 6, 6, 6, 6, 6, 6, 6, 6, 6, 6, 6, 6, 6, 6, 6, 6, 6, 6, 6, 6, 6, 6, 6, 6, 6, 6, 6, 7, 7, 7, 7, 7, 7, 7, 7, 7, 7, 7, 7, 7, 7, 7, 7, 7, 7, 7, 7, 7, 7, 7, 7, 7, 7, 7, 7, 7, 7, 7, 7, 7, 7, 7, 7, 7, 7, 7, 7, 7, 7, 7, 7, 7, 7, 7, 7, 7, 7, 7, 7, 7, 7, 7, 7, 7, 7, 7, 7, 7, 7, 7, 7, 8, 8, 8, 8, 8, 8, 8, 8, 8, 8, 8, 8, 8, 8, 8, 8, 8, 8, 8, 8, 8, 8, 8, 8, 8, 8, 8, 8, 8, 8, 8, 8, 8, 8, 8, 8, 8, 8, 8, 8, 8, 8, 8, 8, 8, 8, 8, 8, 8, 8, 8, 8, 8, 8, 8, 8, 8, 8, 8, 8, 8, 8, 8, 8, 8, 8, 8, 8, 8, 8, 8, 8, 8, 8, 8, 8, 8, 8, 8, 8, 8, 8, 8, 8, 8, 8, 8, 8, 8, 8, 8, 8, 8, 8, 8, 8, 8, 8, 8, 8, 8, 8, 8, 8, 8, 8, 8, 8, 8, 8, 8, 8, 8, 8, 8, 8, 8, 8, 8, 8, 8, 8, 8, 8, 8, 8, 8, 8]) n8'))))) h))))
theorem rk136 {O Q} (x0) {h : Hp} (hO : O 136 [(.int .u64 x0)] h = none) (hh : T136 O Q x0 h) : Ret Tryd.prog O 136 [(.int .u64 x0)] h Q :=
  .of (c := b136) Tryd.func136 (by kernel_rfl) hO (V_ok (tb := lv136) (cuts := []) 500 (Eq.mp (by kernel_rfl) hh))
end Go.Proofs.YtfgfhplgnfbaaaaDoor
