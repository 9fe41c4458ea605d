/- Conditions of functions' code, printed by a program of ours. -/
import Derived.Test.YtngcjpkccnfjiaaGreatDoorProg
import Derived.Test.YtngcjpkccnfjiaaGreatDoorYC
import Derived.KernelRfl
import Derived.Test.YtngcjpkccnfjiaaGreatDoorYB
import Derived.Test.YtngcjpkccnfjiaaGreatDoorYA
import Derived.Shelf.Spec.SlicesInsert
import Derived.Shelf.Spec.SlicesInsertGrow
namespace Go.Proofs.YtngcjpkccnfjiaaGreatDoor
open Go Go.Ev
set_option maxRecDepth 100000
set_option linter.unusedVariables false
noncomputable def b86:Code:=(Tryz.f86.body).getD .skip
def lv86:List (Nat×List Nat):=[]
def T86 (O:CallF)(Q:VQ)(x0:Int)(h:Hp):Prop:=
 let g1:=h.add (.cells [.int .i64 0,.int .i64 0] 117 .fix)
 vreq (canW g1 h.nx 0 [.int .i64 (wrapF .i64 (Int.tdiv x0 8)),.int .i64 (Int.tmod x0 8)])
 (let g2:=g1.wr h.nx 0 [.int .i64 (wrapF .i64 (Int.tdiv x0 8)),.int .i64 (Int.tmod x0 8)]
 ∃x3 x4,readAt g2 h.nx 0 2=some [.int .i64 x3,.int .i64 x4]∧
 Q (.agg #[.int .i64 x3,.int .i64 x4]) g2)
theorem rk86 {O Q} (x0){h:Hp}(hO:O 86 [.int .i64 x0] h=none)(hh:T86 O Q x0 h):Ret Tryz.prog O 86 [.int .i64 x0] h Q:=
 .of (c:=b86) Tryz.func86 (by kernel_rfl) hO (V_ok (tb:=lv86) (cuts:=[]) 500 (Eq.mp (by kernel_rfl) hh))
noncomputable def b75:Code:=(Tryz.f75.body).getD .skip
def lv75:List (Nat×List Nat):=[]
def T75 (O:CallF)(Q:VQ)(x0_0 x0_1:Int)(h:Hp):Prop:=
 let g1:=h.add (.cells [.int .i64 x0_0,.int .i64 x0_1] 117 .fix)
 ∃x2,readAt g1 h.nx 1 1=some [.int .i64 x2]∧
 vcond (eqI x2 4)
 (∃x3 x4,readAt g1 h.nx 0 2=some [.int .i64 x3,.int .i64 x4]∧
 ∃x5 x6,readAt g1 0 0 2=some [.int .i64 x5,.int .i64 x6]∧
 Q (.bool ((eqI x3 x5)&&(eqI x4 x6))) g1)
 (∃x7,readAt g1 h.nx 0 1=some [.int .i64 x7]∧
 vcond (!(ltI x7 0))
 (∃x8,readAt g1 h.nx 0 1=some [.int .i64 x8]∧
 vcond (!(ltI 20 x8))
 (∃x9,readAt g1 h.nx 1 1=some [.int .i64 x9]∧
 vcond (!(ltI x9 1))
 (∃x10,readAt g1 h.nx 1 1=some [.int .i64 x10]∧
 Q (.bool (!(ltI 5 x10))) g1)
 (Q (.bool false) g1))
 (Q (.bool false) g1))
 (Q (.bool false) g1))
theorem rk75 {O Q} (x0_0 x0_1){h:Hp}(hO:O 75 [.agg #[.int .i64 x0_0,.int .i64 x0_1]] h=none)(hh:T75 O Q x0_0 x0_1 h):Ret Tryz.prog O 75 [.agg #[.int .i64 x0_0,.int .i64 x0_1]] h Q:=
 .of (c:=b75) Tryz.func75 (by kernel_rfl) hO (V_ok (tb:=lv75) (cuts:=[]) 500 (Eq.mp (by kernel_rfl) hh))
noncomputable def b119:Code:=(Tryz.f119.body).getD .skip
def lv119:List (Nat×List Nat):=[]
def T119 (O:CallF)(Q:VQ)(x0_0 x0_1:Int)(h:Hp):Prop:=
 let g1:=h.add (.cells [.int .i64 x0_0,.int .i64 x0_1] 117 .fix)
 ∃x2,readAt g1 h.nx 1 1=some [.int .i64 x2]∧
 vcond (eqI x2 1)
 (Q (.bool true) g1)
 (∃x3,readAt g1 h.nx 1 1=some [.int .i64 x3]∧
 Q (.bool (eqI x3 2)) g1)
theorem rk119 {O Q} (x0_0 x0_1){h:Hp}(hO:O 119 [.agg #[.int .i64 x0_0,.int .i64 x0_1]] h=none)(hh:T119 O Q x0_0 x0_1 h):Ret Tryz.prog O 119 [.agg #[.int .i64 x0_0,.int .i64 x0_1]] h Q:=
 .of (c:=b119) Tryz.func119 (by kernel_rfl) hO (V_ok (tb:=lv119) (cuts:=[]) 500 (Eq.mp (by kernel_rfl) hh))
noncomputable def b100:Code:=(Tryz.f100.body).getD .skip
def lv100:List (Nat×List Nat):=[]
def T100 (O:CallF)(Q:VQ)(a0:OA)(n0 c0:Nat)(x1:Int)(h:Hp):Prop:=
 vcond (!(eqI (Int.tmod x1 2) 0))
 (vcond (!(ltI x1 (-1999999999)))
 (Q (.bool (!(ltI 2000000001 x1))) h)
 (Q (.bool false) h))
 (vcond (ltI x1 0)
 (Q (.bool false) h)
 (vcond (!(ltI (wrapF .i64 (Int.tdiv x1 2)) (Int.ofNat n0)))
 (Q (.bool false) h)
 (vcond (eqI x1 0)
 (Q (.bool true) h)
 (isNat (wrapF .i64 (Int.tdiv x1 2)) fun n1=>
 isAddr a0 fun b2 f3=>
 vreq (Nat.blt n1 n0)
 (∃q4,readAt h b2 (f3+(n1*1)) 1=some [.bool q4]∧
 Q (.bool q4) h)))))
theorem rk100 {O Q} (a0 n0 c0 x1){h:Hp}(hO:O 100 [.slice a0 n0 c0,.int .i64 x1] h=none)(hh:T100 O Q a0 n0 c0 x1 h):Ret Tryz.prog O 100 [.slice a0 n0 c0,.int .i64 x1] h Q:=
 .of (c:=b100) Tryz.func100 (by kernel_rfl) hO (V_ok (tb:=lv100) (cuts:=[]) 500 (Eq.mp (by kernel_rfl) hh))
noncomputable def b78:Code:=(Tryz.f78.body).getD .skip
def lv78:List (Nat×List Nat):=[]
def T78 (O:CallF)(Q:VQ)(a0:OA)(n0 c0:Nat)(x1 x2:Int)(h:Hp):Prop:=
 vcond (eqI x1 3)
 (vcond (!(ltI x2 32))
 (vcond (!(ltI 126 x2))
 (vcond (!(eqI x2 34))
 (Q (.bool (!(eqI x2 92))) h)
 (Q (.bool false) h))
 (Q (.bool false) h))
 (Q (.bool false) h))
 (vcond (eqI x1 4)
 (vcond (eqI x2 0)
 (Q (.bool true) h)
 (Q (.bool (eqI x2 1)) h))
 (∃q1 h2,EvC Tryz.prog O 100 [.slice a0 n0 c0,.int .i64 x2] h (.bool q1) h2∧
 Q (.bool q1) h2))
theorem rk78 {O Q} (a0 n0 c0 x1 x2){h:Hp}(hO:O 78 [.slice a0 n0 c0,.int .i64 x1,.int .i64 x2] h=none)(hh:T78 O Q a0 n0 c0 x1 x2 h):Ret Tryz.prog O 78 [.slice a0 n0 c0,.int .i64 x1,.int .i64 x2] h Q:=
 .of (c:=b78) Tryz.func78 (by kernel_rfl) hO (V_ok (tb:=lv78) (cuts:=[]) 500 (Eq.mp (by kernel_rfl) hh))
noncomputable def b124:Code:=(Tryz.f124.body).getD .skip
noncomputable def stk124_0:List KI:=[.code (sub [1,1,1,0,0] b124),.blk 0,.code (sub [1,1,1,1] b124)]
def lv124:List (Nat×List Nat):=[(0,[1,2,3,4,5])]
def I124_0 (O:CallF)(Q:VQ)(a0_0:OA)(n0_0 c0_0:Nat)(x0_1:Int)(a0_2:OA)(n0_2 c0_2 b1 f1:Nat)(a2:OA)(n2 c2:Nat)(q3:Bool)(a4:OA)(n4 c4:Nat)(x5:Int)(h:Hp):Prop:=RKL Tryz.prog O Tryz.f124 stk124_0 45 [1,2,3,4,5] [.pointer (some ⟨b1,f1,none⟩),.slice a2 n2 c2,.bool q3,.slice a4 n4 c4,.int .i64 x5] h Q
def T124 (O:CallF)(Q:VQ)(a0_0:OA)(n0_0 c0_0:Nat)(x0_1:Int)(a0_2:OA)(n0_2 c0_2:Nat)(h:Hp):Prop:=
 let g1:=h.add (.cells (v24 a0_0 n0_0 c0_0 x0_1 a0_2 n0_2 c0_2) 24 .fix)
 ∃a2 n3 c4,readAt g1 h.nx 0 1=some [.slice a2 n3 c4]∧
 vreq (Nat.ble n3 n3)
 (vreq (Nat.ble (n3*1) 281474976710656)
 (vreq (Nat.blt n3 big)
 (let g5:=g1.add (.cells (List.flatten (List.replicate n3 [.bool false])) 4 .fix)
 I124_0 O Q a0_0 n0_0 c0_0 x0_1 a0_2 n0_2 c0_2 h.nx 0 none 0 0 false (some ⟨g1.nx,0,none⟩) n3 n3 1 g5)))
theorem rk124 {O Q} (a0_0 n0_0 c0_0 x0_1 a0_2 n0_2 c0_2){h:Hp}(hO:O 124 [.agg (w24 a0_0 n0_0 c0_0 x0_1 a0_2 n0_2 c0_2)] h=none)(hh:T124 O Q a0_0 n0_0 c0_0 x0_1 a0_2 n0_2 c0_2 h):Ret Tryz.prog O 124 [.agg (w24 a0_0 n0_0 c0_0 x0_1 a0_2 n0_2 c0_2)] h Q:=
 .of (c:=b124) Tryz.func124 (by kernel_rfl) hO (V_ok (tb:=lv124) (cuts:=[]) 500 (Eq.mp (by kernel_rfl) hh))
def T124_0 (O:CallF)(Q:VQ)(a0_0:OA)(n0_0 c0_0:Nat)(x0_1:Int)(a0_2:OA)(n0_2 c0_2 b1 f1:Nat)(a2:OA)(n2 c2:Nat)(q3:Bool)(a4:OA)(n4 c4:Nat)(x5:Int)(h:Hp):Prop:=
 ∃x101,readAt h b1 (f1+1) 1=some [.int .i64 x101]∧
 vcond (ltI x5 x101)
 (∃a102 n103 c104,readAt h b1 (f1+0) 1=some [.slice a102 n103 c104]∧
 isNat x5 fun n105=>
 isAddr a102 fun b106 f107=>
 vreq (Nat.blt n105 n103)
 (∃x108,readAt h b106 (f107+(n105*1)) 1=some [.int .i64 x108]∧
 ∃x109 x110 h111,EvC Tryz.prog O 86 [.int .i64 x108] h (.agg #[.int .i64 x109,.int .i64 x110]) h111∧
 let g112:=h111.add (.cells [.int .i64 0,.int .i64 0] 117 .fix)
 vreq (canW g112 h111.nx 0 [.int .i64 x109,.int .i64 x110])
 (let g113:=g112.wr h111.nx 0 [.int .i64 x109,.int .i64 x110]
 ∃a114 n115 c116,readAt g113 b1 (f1+0) 1=some [.slice a114 n115 c116]∧
 isNat x5 fun n117=>
 isAddr a114 fun b118 f119=>
 vreq (Nat.blt n117 n115)
 (∃x120,readAt g113 b118 (f119+(n117*1)) 1=some [.int .i64 x120]∧
 vcond (ltI x120 0)
 (Q (.tuple #[.slice none 0 0,.bool false]) g113)
 (∃x121 x122,readAt g113 h111.nx 0 2=some [.int .i64 x121,.int .i64 x122]∧
 ∃q123 h124,EvC Tryz.prog O 75 [.agg #[.int .i64 x121,.int .i64 x122]] g113 (.bool q123) h124∧
 vcond (!q123)
 (Q (.tuple #[.slice none 0 0,.bool false]) h124)
 (isNat x5 fun n125=>
 isAddr a4 fun b126 f127=>
 vreq (Nat.blt n125 n4)
 (vreq (canW h124 b126 (f127+(n125*1)) [.bool true])
 (let g128:=h124.wr b126 (f127+(n125*1)) [.bool true]
 ∃x129,readAt g128 h111.nx 0 1=some [.int .i64 x129]∧
 I124_0 O Q a0_0 n0_0 c0_0 x0_1 a0_2 n0_2 c0_2 b1 f1 a2 n2 c2 q3 a4 n4 c4 (wrapF .i64 (x5+(wrapF .i64 (1+x129)))) g128))))))))
 (let g130:=h.rsv 7
 ∃x131,readAt g130 b1 (f1+1) 1=some [.int .i64 x131]∧
 Q (.tuple #[.slice a4 n4 c4,.bool (eqI x5 x131)]) g130)
theorem I124_0.of {O Q} (a0_0 n0_0 c0_0 x0_1 a0_2 n0_2 c0_2 b1 f1 a2 n2 c2 q3 a4 n4 c4 x5){h:Hp}(hh:T124_0 O Q a0_0 n0_0 c0_0 x0_1 a0_2 n0_2 c0_2 b1 f1 a2 n2 c2 q3 a4 n4 c4 x5 h):I124_0 O Q a0_0 n0_0 c0_0 x0_1 a0_2 n0_2 c0_2 b1 f1 a2 n2 c2 q3 a4 n4 c4 x5 h:=
 RKL.of (tb:=lv124) (cuts:=[]) 500 fun _=>Eq.mp (by kernel_rfl) hh
noncomputable def b132:Code:=(Tryz.f132.body).getD .skip
noncomputable def stk132_0:List KI:=[.code (sub [1,0,1,0] b132),.blk 0,.code (sub [1,1] b132)]
def lv132:List (Nat×List Nat):=[(0,[0,1,4,7,8])]
def I132_0 (O:CallF)(Q:VQ)(a0:OA)(n0 c0 g1:Nat)(fi1 ca1:Array Value)(g1s:Nat)(fi1s ca1s:Array Value)(x4 x8:Int)(h:Hp):Prop:=RKL Tryz.prog O Tryz.f132 stk132_0 19 [0,1,4,7,8] [.slice a0 n0 c0,.func (.func g1s) fi1s ca1s,.int .i64 x4,.int .i64 (Int.ofNat n0),.int .i64 x8] h Q
def T132 (O:CallF)(Q:VQ)(a0:OA)(n0 c0 g1:Nat)(fi1 ca1:Array Value)(h:Hp):Prop:=
 I132_0 O Q a0 n0 c0 g1 fi1 ca1 g1 fi1 ca1 0 0 h
theorem rk132 {O Q} (a0 n0 c0 g1 fi1 ca1){h:Hp}(hO:O 132 [.slice a0 n0 c0,.func (.func g1) fi1 ca1] h=none)(hh:T132 O Q a0 n0 c0 g1 fi1 ca1 h):Ret Tryz.prog O 132 [.slice a0 n0 c0,.func (.func g1) fi1 ca1] h Q:=
 .of (c:=b132) Tryz.func132 (by kernel_rfl) hO (V_ok (tb:=lv132) (cuts:=[]) 500 (Eq.mp (by kernel_rfl) hh))
def T132_0 (O:CallF)(Q:VQ)(a0:OA)(n0 c0 g1:Nat)(fi1 ca1:Array Value)(g1s:Nat)(fi1s ca1s:Array Value)(x4 x8:Int)(h:Hp):Prop:=
 vcond (ltI x8 (Int.ofNat n0))
 (isNat x8 fun n101=>
 isAddr a0 fun b102 f103=>
 vreq (Nat.blt n101 n0)
 (∃x104,readAt h b102 (f103+(n101*1)) 1=some [.int .i64 x104]∧
 ∃q105 h106,EvC Tryz.prog O g1s (fi1s.toList++[.int .i64 x104]++ca1s.toList) h (.bool q105) h106∧
 vcond q105
 (Q (.int .i64 x8) h106)
 (I132_0 O Q a0 n0 c0 g1 fi1 ca1 g1s fi1s ca1s x4 (wrapF .i64 (x8+1)) h106)))
 (Q (.int .i64 (-1)) h)
theorem I132_0.of {O Q} (a0 n0 c0 g1 fi1 ca1 g1s fi1s ca1s x4 x8){h:Hp}(hh:T132_0 O Q a0 n0 c0 g1 fi1 ca1 g1s fi1s ca1s x4 x8 h):I132_0 O Q a0 n0 c0 g1 fi1 ca1 g1s fi1s ca1s x4 x8 h:=
 RKL.of (tb:=lv132) (cuts:=[]) 500 fun _=>Eq.mp (by kernel_rfl) hh
noncomputable def b76:Code:=(Tryz.f76.body).getD .skip
def lv76:List (Nat×List Nat):=[]
def T76 (O:CallF)(Q:VQ)(a0:OA)(n0 c0 g1:Nat)(fi1 ca1:Array Value)(h:Hp):Prop:=
 ∃x1 h2,EvC Tryz.prog O 132 [.slice a0 n0 c0,.func (.func g1) fi1 ca1] h (.int .i64 x1) h2∧
 Q (.bool (!(ltI x1 0))) h2
theorem rk76 {O Q} (a0 n0 c0 g1 fi1 ca1){h:Hp}(hO:O 76 [.slice a0 n0 c0,.func (.func g1) fi1 ca1] h=none)(hh:T76 O Q a0 n0 c0 g1 fi1 ca1 h):Ret Tryz.prog O 76 [.slice a0 n0 c0,.func (.func g1) fi1 ca1] h Q:=
 .of (c:=b76) Tryz.func76 (by kernel_rfl) hO (V_ok (tb:=lv76) (cuts:=[]) 500 (Eq.mp (by kernel_rfl) hh))
noncomputable def b123:Code:=(Tryz.f123.body).getD .skip
def lv123:List (Nat×List Nat):=[]
def T123 (O:CallF)(Q:VQ)(x0:Int)(h:Hp):Prop:=
 Q (.bool (!(eqI x0 0))) h
theorem rk123 {O Q} (x0){h:Hp}(hO:O 123 [.int .i64 x0] h=none)(hh:T123 O Q x0 h):Ret Tryz.prog O 123 [.int .i64 x0] h Q:=
 .of (c:=b123) Tryz.func123 (by kernel_rfl) hO (V_ok (tb:=lv123) (cuts:=[]) 500 (Eq.mp (by kernel_rfl) hh))
noncomputable def b125:Code:=(Tryz.f125.body).getD .skip
def lv125:List (Nat×List Nat):=[]
def T125 (O:CallF)(Q:VQ)(x0:Int)(b1 f1:Nat)(h:Hp):Prop:=
 ∃a1 n2 c3,readAt h b1 f1 1=some [.slice a1 n2 c3]∧
 ∃q4 h5,EvC Tryz.prog O 100 [.slice a1 n2 c3,.int .i64 x0] h (.bool q4) h5∧
 Q (.bool (!q4)) h5
theorem rk125 {O Q} (x0 b1 f1){h:Hp}(hO:O 125 [.int .i64 x0,.pointer (some ⟨b1,f1,none⟩)] h=none)(hh:T125 O Q x0 b1 f1 h):Ret Tryz.prog O 125 [.int .i64 x0,.pointer (some ⟨b1,f1,none⟩)] h Q:=
 .of (c:=b125) Tryz.func125 (by kernel_rfl) hO (V_ok (tb:=lv125) (cuts:=[]) 500 (Eq.mp (by kernel_rfl) hh))
noncomputable def b126:Code:=(Tryz.f126.body).getD .skip
def lv126:List (Nat×List Nat):=[]
def T126 (O:CallF)(Q:VQ)(x0:Int)(b1 f1 b2 f2:Nat)(h:Hp):Prop:=
 ∃a1 n2 c3,readAt h b1 f1 1=some [.slice a1 n2 c3]∧
 ∃x4,readAt h b2 f2 1=some [.int .i64 x4]∧
 ∃q5 h6,EvC Tryz.prog O 78 [.slice a1 n2 c3,.int .i64 x4,.int .i64 x0] h (.bool q5) h6∧
 Q (.bool (!q5)) h6
theorem rk126 {O Q} (x0 b1 f1 b2 f2){h:Hp}(hO:O 126 [.int .i64 x0,.pointer (some ⟨b1,f1,none⟩),.pointer (some ⟨b2,f2,none⟩)] h=none)(hh:T126 O Q x0 b1 f1 b2 f2 h):Ret Tryz.prog O 126 [.int .i64 x0,.pointer (some ⟨b1,f1,none⟩),.pointer (some ⟨b2,f2,none⟩)] h Q:=
 .of (c:=b126) Tryz.func126 (by kernel_rfl) hO (V_ok (tb:=lv126) (cuts:=[]) 500 (Eq.mp (by kernel_rfl) hh))
noncomputable def b41:Code:=(Tryz.f41.body).getD .skip
def lv41:List (Nat×List Nat):=[]
def T41 (O:CallF)(Q:VQ)(a0_0:OA)(n0_0 c0_0:Nat)(x0_1:Int)(a0_2:OA)(n0_2 c0_2:Nat)(h:Hp):Prop:=
 let g1:=h.add (.cells (v24 a0_0 n0_0 c0_0 x0_1 a0_2 n0_2 c0_2) 24 .fix)
 ∃a2 n3 c4 x5 a6 n7 c8,readAt g1 h.nx 0 3=some (v24 a2 n3 c4 x5 a6 n7 c8)∧
 ∃a9 n10 c11 x12 h13,EvC Tryz.prog O 65 [.agg (w24 a2 n3 c4 x5 a6 n7 c8)] g1 (.tuple #[.slice a9 n10 c11,.int .i64 x12]) h13∧
 Q (.int .i64 x12) h13
theorem rk41 {O Q} (a0_0 n0_0 c0_0 x0_1 a0_2 n0_2 c0_2){h:Hp}(hO:O 41 [.agg (w24 a0_0 n0_0 c0_0 x0_1 a0_2 n0_2 c0_2)] h=none)(hh:T41 O Q a0_0 n0_0 c0_0 x0_1 a0_2 n0_2 c0_2 h):Ret Tryz.prog O 41 [.agg (w24 a0_0 n0_0 c0_0 x0_1 a0_2 n0_2 c0_2)] h Q:=
 .of (c:=b41) Tryz.func41 (by kernel_rfl) hO (V_ok (tb:=lv41) (cuts:=[]) 500 (Eq.mp (by kernel_rfl) hh))
noncomputable def b90:Code:=(Tryz.f90.body).getD .skip
def lv90:List (Nat×List Nat):=[]
def T90 (O:CallF)(Q:VQ)(x0:Int)(h:Hp):Prop:=
 Q (.int .i64 (Int.tmod x0 8)) h
theorem rk90 {O Q} (x0){h:Hp}(hO:O 90 [.int .i64 x0] h=none)(hh:T90 O Q x0 h):Ret Tryz.prog O 90 [.int .i64 x0] h Q:=
 .of (c:=b90) Tryz.func90 (by kernel_rfl) hO (V_ok (tb:=lv90) (cuts:=[]) 500 (Eq.mp (by kernel_rfl) hh))
noncomputable def b127:Code:=(Tryz.f127.body).getD .skip
def lv127:List (Nat×List Nat):=[]
def T127 (O:CallF)(Q:VQ)(x0:Int)(h:Hp):Prop:=
 Q (.int .i64 (wrapF .i64 (Int.tdiv x0 8))) h
theorem rk127 {O Q} (x0){h:Hp}(hO:O 127 [.int .i64 x0] h=none)(hh:T127 O Q x0 h):Ret Tryz.prog O 127 [.int .i64 x0] h Q:=
 .of (c:=b127) Tryz.func127 (by kernel_rfl) hO (V_ok (tb:=lv127) (cuts:=[]) 500 (Eq.mp (by kernel_rfl) hh))
noncomputable def b67:Code:=(Tryz.f67.body).getD .skip
noncomputable def stk67_0:List KI:=[.code (sub [1,0,1,0] b67),.blk 0,.code (sub [1,1] b67)]
def lv67:List (Nat×List Nat):=[(0,[0,1,4,5])]
def I67_0 (O:CallF)(Q:VQ)(a0:OA)(n0 c0:Nat)(x1:Int)(q4:Bool)(x5:Int)(h:Hp):Prop:=RKL Tryz.prog O Tryz.f67 stk67_0 18 [0,1,4,5] [.slice a0 n0 c0,.int .i64 x1,.bool q4,.int .i64 x5] h Q
def T67 (O:CallF)(Q:VQ)(a0:OA)(n0 c0:Nat)(x1:Int)(h:Hp):Prop:=
 I67_0 O Q a0 n0 c0 x1 false 0 h
theorem rk67 {O Q} (a0 n0 c0 x1){h:Hp}(hO:O 67 [.slice a0 n0 c0,.int .i64 x1] h=none)(hh:T67 O Q a0 n0 c0 x1 h):Ret Tryz.prog O 67 [.slice a0 n0 c0,.int .i64 x1] h Q:=
 .of (c:=b67) Tryz.func67 (by kernel_rfl) hO (V_ok (tb:=lv67) (cuts:=[]) 500 (Eq.mp (by kernel_rfl) hh))
def T67_0 (O:CallF)(Q:VQ)(a0:OA)(n0 c0:Nat)(x1:Int)(q4:Bool)(x5:Int)(h:Hp):Prop:=
 vcond (ltI x5 (Int.ofNat n0))
 (isNat x5 fun n101=>
 isAddr a0 fun b102 f103=>
 vreq (Nat.blt n101 n0)
 (∃x104,readAt h b102 (f103+(n101*1)) 1=some [.int .i64 x104]∧
 vcond (eqI x104 x1)
 (Q (.bool true) h)
 (I67_0 O Q a0 n0 c0 x1 q4 (wrapF .i64 (x5+1)) h)))
 (Q (.bool false) h)
theorem I67_0.of {O Q} (a0 n0 c0 x1 q4 x5){h:Hp}(hh:T67_0 O Q a0 n0 c0 x1 q4 x5 h):I67_0 O Q a0 n0 c0 x1 q4 x5 h:=
 RKL.of (tb:=lv67) (cuts:=[]) 500 fun _=>Eq.mp (by kernel_rfl) hh
noncomputable def b102:Code:=(Tryz.f102.body).getD .skip
def lv102:List (Nat×List Nat):=[]
def T102 (O:CallF)(Q:VQ)(a0:OA)(n0 c0:Nat)(x1:Int)(h:Hp):Prop:=
 vcond (eqI x1 0)
 (Q (.bool true) h)
 (vcond (!(eqI (Int.tmod x1 2) 0))
 (vcond (!(ltI x1 (-1999999999)))
 (Q (.bool (!(ltI 2000000001 x1))) h)
 (Q (.bool false) h))
 (∃q1 h2,EvC Tryz.prog O 67 [.slice a0 n0 c0,.int .i64 (wrapF .i64 (Int.tdiv x1 2))] h (.bool q1) h2∧
 Q (.bool q1) h2))
theorem rk102 {O Q} (a0 n0 c0 x1){h:Hp}(hO:O 102 [.slice a0 n0 c0,.int .i64 x1] h=none)(hh:T102 O Q a0 n0 c0 x1 h):Ret Tryz.prog O 102 [.slice a0 n0 c0,.int .i64 x1] h Q:=
 .of (c:=b102) Tryz.func102 (by kernel_rfl) hO (V_ok (tb:=lv102) (cuts:=[]) 500 (Eq.mp (by kernel_rfl) hh))
noncomputable def b89:Code:=(Tryz.f89.body).getD .skip
def lv89:List (Nat×List Nat):=[]
def T89 (O:CallF)(Q:VQ)(a0:OA)(n0 c0:Nat)(x1 x2:Int)(h:Hp):Prop:=
 vcond (eqI x1 3)
 (∃q1 h2,EvC Tryz.prog O 133 [.int .i64 x2] h (.bool q1) h2∧
 Q (.bool q1) h2)
 (vcond (eqI x1 4)
 (vcond (eqI x2 0)
 (Q (.bool true) h)
 (Q (.bool (eqI x2 1)) h))
 (∃q3 h4,EvC Tryz.prog O 102 [.slice a0 n0 c0,.int .i64 x2] h (.bool q3) h4∧
 Q (.bool q3) h4))
theorem rk89 {O Q} (a0 n0 c0 x1 x2){h:Hp}(hO:O 89 [.slice a0 n0 c0,.int .i64 x1,.int .i64 x2] h=none)(hh:T89 O Q a0 n0 c0 x1 x2 h):Ret Tryz.prog O 89 [.slice a0 n0 c0,.int .i64 x1,.int .i64 x2] h Q:=
 .of (c:=b89) Tryz.func89 (by kernel_rfl) hO (V_ok (tb:=lv89) (cuts:=[]) 500 (Eq.mp (by kernel_rfl) hh))
noncomputable def b133:Code:=(Tryz.f133.body).getD .skip
def lv133:List (Nat×List Nat):=[]
def T133 (O:CallF)(Q:VQ)(x0:Int)(h:Hp):Prop:=
 vcond (!(ltI x0 32))
 (vcond (!(ltI 126 x0))
 (vcond (!(eqI x0 34))
 (Q (.bool (!(eqI x0 92))) h)
 (Q (.bool false) h))
 (Q (.bool false) h))
 (Q (.bool false) h)
theorem rk133 {O Q} (x0){h:Hp}(hO:O 133 [.int .i64 x0] h=none)(hh:T133 O Q x0 h):Ret Tryz.prog O 133 [.int .i64 x0] h Q:=
 .of (c:=b133) Tryz.func133 (by kernel_rfl) hO (V_ok (tb:=lv133) (cuts:=[]) 500 (Eq.mp (by kernel_rfl) hh))
noncomputable def b82:Code:=(Tryz.f82.body).getD .skip
noncomputable def stk82_0:List KI:=[.code (sub [1,1,0,1,0] b82),.blk 0,.code (sub [1,1,1] b82)]
def lv82:List (Nat×List Nat):=[(0,[0,1,2,6,7])]
def I82_0 (O:CallF)(Q:VQ)(a0:OA)(n0 c0:Nat)(x1:Int)(a2:OA)(n2 c2:Nat)(q6:Bool)(x7:Int)(h:Hp):Prop:=RKL Tryz.prog O Tryz.f82 stk82_0 42 [0,1,2,6,7] [.slice a0 n0 c0,.int .i64 x1,.slice a2 n2 c2,.bool q6,.int .i64 x7] h Q
def T82 (O:CallF)(Q:VQ)(a0:OA)(n0 c0:Nat)(x1:Int)(a2:OA)(n2 c2:Nat)(h:Hp):Prop:=
 vcond (ltI x1 1)
 (Q (.bool false) h)
 (vcond (ltI 5 x1)
 (Q (.bool false) h)
 (vcond (ltI 20 (Int.ofNat n2))
 (Q (.bool false) h)
 (vcond (eqI x1 4)
 (vcond (!(eqI (Int.ofNat n2) 1))
 (Q (.bool false) h)
 (I82_0 O Q a0 n0 c0 x1 a2 n2 c2 false 0 h))
 (I82_0 O Q a0 n0 c0 x1 a2 n2 c2 false 0 h))))
theorem rk82 {O Q} (a0 n0 c0 x1 a2 n2 c2){h:Hp}(hO:O 82 (v24 a0 n0 c0 x1 a2 n2 c2) h=none)(hh:T82 O Q a0 n0 c0 x1 a2 n2 c2 h):Ret Tryz.prog O 82 (v24 a0 n0 c0 x1 a2 n2 c2) h Q:=
 .of (c:=b82) Tryz.func82 (by kernel_rfl) hO (V_ok (tb:=lv82) (cuts:=[]) 500 (Eq.mp (by kernel_rfl) hh))
def T82_0 (O:CallF)(Q:VQ)(a0:OA)(n0 c0:Nat)(x1:Int)(a2:OA)(n2 c2:Nat)(q6:Bool)(x7:Int)(h:Hp):Prop:=
 vcond (ltI x7 (Int.ofNat n2))
 (isNat x7 fun n101=>
 isAddr a2 fun b102 f103=>
 vreq (Nat.blt n101 n2)
 (∃x104,readAt h b102 (f103+(n101*1)) 1=some [.int .i64 x104]∧
 ∃q105 h106,EvC Tryz.prog O 89 [.slice a0 n0 c0,.int .i64 x1,.int .i64 x104] h (.bool q105) h106∧
 vcond (!q105)
 (Q (.bool false) h106)
 (I82_0 O Q a0 n0 c0 x1 a2 n2 c2 q6 (wrapF .i64 (x7+1)) h106)))
 (Q (.bool true) h)
theorem I82_0.of {O Q} (a0 n0 c0 x1 a2 n2 c2 q6 x7){h:Hp}(hh:T82_0 O Q a0 n0 c0 x1 a2 n2 c2 q6 x7 h):I82_0 O Q a0 n0 c0 x1 a2 n2 c2 q6 x7 h:=
 RKL.of (tb:=lv82) (cuts:=[]) 500 fun _=>Eq.mp (by kernel_rfl) hh
noncomputable def b122:Code:=(Tryz.f122.body).getD .skip
def lv122:List (Nat×List Nat):=[]
def T122 (O:CallF)(Q:VQ)(a0_0:OA)(n0_0 c0_0:Nat)(x0_1:Int)(a0_2:OA)(n0_2 c0_2:Nat)(x1:Int)(h:Hp):Prop:=
 let g1:=h.add (.cells (v24 a0_0 n0_0 c0_0 x0_1 a0_2 n0_2 c0_2) 24 .fix)
 let g2:=g1.rsv 15
 ∃a3 n4 c5,readAt g2 h.nx 0 1=some [.slice a3 n4 c5]∧
 ∃a6 n7 c8,readAt g2 h.nx 0 1=some [.slice a6 n7 c8]∧
 isNat x1 fun n9=>
 isAddr a6 fun b10 f11=>
 vreq (Nat.blt n9 n7)
 (∃x12,readAt g2 b10 (f11+(n9*1)) 1=some [.int .i64 x12]∧
 ∃x13 h14,EvC Tryz.prog O 127 [.int .i64 x12] (g2.grd [h.nx]) (.int .i64 x13) h14∧
 let g15:=h14.rst g2
 ∃a16 n17 c18,sliceV Tryz.prog g15 22 (.slice a3 n4 c5) (some (.int .i64 (wrapF .i64 (x1+1)))) (some (.int .i64 (wrapF .i64 ((wrapF .i64 (x1+1))+x13)))) none=some (.slice a16 n17 c18)∧
 Q (.slice a16 n17 c18) g15)
theorem rk122 {O Q} (a0_0 n0_0 c0_0 x0_1 a0_2 n0_2 c0_2 x1){h:Hp}(hO:O 122 [.agg (w24 a0_0 n0_0 c0_0 x0_1 a0_2 n0_2 c0_2),.int .i64 x1] h=none)(hh:T122 O Q a0_0 n0_0 c0_0 x0_1 a0_2 n0_2 c0_2 x1 h):Ret Tryz.prog O 122 [.agg (w24 a0_0 n0_0 c0_0 x0_1 a0_2 n0_2 c0_2),.int .i64 x1] h Q:=
 .of (c:=b122) Tryz.func122 (by kernel_rfl) hO (V_ok (tb:=lv122) (cuts:=[]) 500 (Eq.mp (by kernel_rfl) hh))
noncomputable def b66:Code:=(Tryz.f66.body).getD .skip
noncomputable def stk66_0:List KI:=[.code (sub [1,1,1,0,0] b66),.blk 0,.code (sub [1,1,1,1] b66)]
def lv66:List (Nat×List Nat):=[(0,[1,2,3,4,5])]
def I66_0 (O:CallF)(Q:VQ)(a0_0:OA)(n0_0 c0_0:Nat)(x0_1:Int)(a0_2:OA)(n0_2 c0_2 b1 f1:Nat)(a2:OA)(n2 c2:Nat)(q3:Bool)(a4:OA)(n4 c4:Nat)(x5:Int)(h:Hp):Prop:=RKL Tryz.prog O Tryz.f66 stk66_0 47 [1,2,3,4,5] [.pointer (some ⟨b1,f1,none⟩),.slice a2 n2 c2,.bool q3,.slice a4 n4 c4,.int .i64 x5] h Q
def T66 (O:CallF)(Q:VQ)(a0_0:OA)(n0_0 c0_0:Nat)(x0_1:Int)(a0_2:OA)(n0_2 c0_2:Nat)(h:Hp):Prop:=
 let g1:=h.add (.cells (v24 a0_0 n0_0 c0_0 x0_1 a0_2 n0_2 c0_2) 24 .fix)
 I66_0 O Q a0_0 n0_0 c0_0 x0_1 a0_2 n0_2 c0_2 h.nx 0 none 0 0 false none 0 0 1 g1
theorem rk66 {O Q} (a0_0 n0_0 c0_0 x0_1 a0_2 n0_2 c0_2){h:Hp}(hO:O 66 [.agg (w24 a0_0 n0_0 c0_0 x0_1 a0_2 n0_2 c0_2)] h=none)(hh:T66 O Q a0_0 n0_0 c0_0 x0_1 a0_2 n0_2 c0_2 h):Ret Tryz.prog O 66 [.agg (w24 a0_0 n0_0 c0_0 x0_1 a0_2 n0_2 c0_2)] h Q:=
 .of (c:=b66) Tryz.func66 (by kernel_rfl) hO (V_ok (tb:=lv66) (cuts:=[]) 500 (Eq.mp (by kernel_rfl) hh))
def T66_0 (O:CallF)(Q:VQ)(a0_0:OA)(n0_0 c0_0:Nat)(x0_1:Int)(a0_2:OA)(n0_2 c0_2 b1 f1:Nat)(a2:OA)(n2 c2:Nat)(q3:Bool)(a4:OA)(n4 c4:Nat)(x5:Int)(h:Hp):Prop:=
 ∃x101,readAt h b1 (f1+1) 1=some [.int .i64 x101]∧
 vcond (ltI x5 x101)
 (∃a102 n103 c104,readAt h b1 (f1+0) 1=some [.slice a102 n103 c104]∧
 isNat x5 fun n105=>
 isAddr a102 fun b106 f107=>
 vreq (Nat.blt n105 n103)
 (∃x108,readAt h b106 (f107+(n105*1)) 1=some [.int .i64 x108]∧
 vcond (ltI x108 0)
 (Q (.tuple #[.slice none 0 0,.bool false]) h)
 (∃x109 h110,EvC Tryz.prog O 90 [.int .i64 x108] h (.int .i64 x109) h110∧
 vcond (ltI x109 1)
 (Q (.tuple #[.slice none 0 0,.bool false]) h110)
 (∃x111 h112,EvC Tryz.prog O 90 [.int .i64 x108] h110 (.int .i64 x111) h112∧
 vcond (ltI 5 x111)
 (Q (.tuple #[.slice none 0 0,.bool false]) h112)
 (∃x113 h114,EvC Tryz.prog O 127 [.int .i64 x108] h112 (.int .i64 x113) h114∧
 vcond (ltI 20 x113)
 (Q (.tuple #[.slice none 0 0,.bool false]) h114)
 (let g115:=h114.add (.cells [.int .i64 x5] 3 .fix)
 ∃a116 n117 c118 h119,appendV Tryz.prog g115 22 22 (.slice a4 n4 c4) (.slice (some ⟨h114.nx,0,none⟩) 1 1)=some (.slice a116 n117 c118,h119)∧
 ∃x120 h121,EvC Tryz.prog O 127 [.int .i64 x108] h119 (.int .i64 x120) h121∧
 I66_0 O Q a0_0 n0_0 c0_0 x0_1 a0_2 n0_2 c0_2 b1 f1 a2 n2 c2 q3 a116 n117 c118 (wrapF .i64 ((wrapF .i64 (x5+1))+x120)) h121))))))
 (let g122:=h.rsv 7
 ∃x123,readAt g122 b1 (f1+1) 1=some [.int .i64 x123]∧
 Q (.tuple #[.slice a4 n4 c4,.bool (eqI x5 x123)]) g122)
theorem I66_0.of {O Q} (a0_0 n0_0 c0_0 x0_1 a0_2 n0_2 c0_2 b1 f1 a2 n2 c2 q3 a4 n4 c4 x5){h:Hp}(hh:T66_0 O Q a0_0 n0_0 c0_0 x0_1 a0_2 n0_2 c0_2 b1 f1 a2 n2 c2 q3 a4 n4 c4 x5 h):I66_0 O Q a0_0 n0_0 c0_0 x0_1 a0_2 n0_2 c0_2 b1 f1 a2 n2 c2 q3 a4 n4 c4 x5 h:=
 RKL.of (tb:=lv66) (cuts:=[]) 500 fun _=>Eq.mp (by kernel_rfl) hh
noncomputable def b40:Code:=(Tryz.f40.body).getD .skip
noncomputable def stk40_0:List KI:=[.code (sub [1,1,0,1,0] b40),.blk 0,.code (sub [1,1,1] b40)]
def lv40:List (Nat×List Nat):=[(0,[0,1,4,5])]
def I40_0 (O:CallF)(Q:VQ)(a0:OA)(n0 c0:Nat)(a1:OA)(n1 c1:Nat)(q4:Bool)(x5:Int)(h:Hp):Prop:=RKL Tryz.prog O Tryz.f40 stk40_0 26 [0,1,4,5] [.slice a0 n0 c0,.slice a1 n1 c1,.bool q4,.int .i64 x5] h Q
def T40 (O:CallF)(Q:VQ)(a0:OA)(n0 c0:Nat)(a1:OA)(n1 c1:Nat)(h:Hp):Prop:=
 vcond (!(eqI (Int.ofNat n0) (Int.ofNat n1)))
 (Q (.bool false) h)
 (I40_0 O Q a0 n0 c0 a1 n1 c1 false 0 h)
theorem rk40 {O Q} (a0 n0 c0 a1 n1 c1){h:Hp}(hO:O 40 [.slice a0 n0 c0,.slice a1 n1 c1] h=none)(hh:T40 O Q a0 n0 c0 a1 n1 c1 h):Ret Tryz.prog O 40 [.slice a0 n0 c0,.slice a1 n1 c1] h Q:=
 .of (c:=b40) Tryz.func40 (by kernel_rfl) hO (V_ok (tb:=lv40) (cuts:=[]) 500 (Eq.mp (by kernel_rfl) hh))
def T40_0 (O:CallF)(Q:VQ)(a0:OA)(n0 c0:Nat)(a1:OA)(n1 c1:Nat)(q4:Bool)(x5:Int)(h:Hp):Prop:=
 vcond (ltI x5 (Int.ofNat n0))
 (let g101:=h.rsv 9
 isNat x5 fun n102=>
 isAddr a0 fun b103 f104=>
 vreq (Nat.blt n102 n0)
 (∃x105,readAt g101 b103 (f104+(n102*1)) 1=some [.int .i64 x105]∧
 isNat x5 fun n106=>
 isAddr a1 fun b107 f108=>
 vreq (Nat.blt n106 n1)
 (∃x109,readAt g101 b107 (f108+(n106*1)) 1=some [.int .i64 x109]∧
 vcond (!(eqI x105 x109))
 (Q (.bool false) g101)
 (I40_0 O Q a0 n0 c0 a1 n1 c1 q4 (wrapF .i64 (x5+1)) g101))))
 (Q (.bool true) h)
theorem I40_0.of {O Q} (a0 n0 c0 a1 n1 c1 q4 x5){h:Hp}(hh:T40_0 O Q a0 n0 c0 a1 n1 c1 q4 x5 h):I40_0 O Q a0 n0 c0 a1 n1 c1 q4 x5 h:=
 RKL.of (tb:=lv40) (cuts:=[]) 500 fun _=>Eq.mp (by kernel_rfl) hh
noncomputable def b63:Code:=(Tryz.f63.body).getD .skip
noncomputable def stk63_0:List KI:=[.code (sub [1,1,1,0,1,0] b63),.blk 0,.code (sub [1,1,1,1] b63)]
noncomputable def stk63_1:List KI:=[.code (sub [1,1,1,1,1,0,1,0] b63),.blk 2,.code (sub [1,1,1,1,1,1] b63)]
noncomputable def stk63_2:List KI:=[.code (sub [1,1,1,1,1,1,0,1,0] b63),.blk 4,.code (sub [1,1,1,1,1,1,1] b63)]
def lv63:List (Nat×List Nat):=[(0,[1,2,3,4]),(2,[1,2,5,6,7]),(4,[1,2,5,6,9])]
def I63_0 (O:CallF)(Q:VQ)(a0_0:OA)(n0_0 c0_0:Nat)(x0_1:Int)(a0_2:OA)(n0_2 c0_2 b1 f1:Nat)(q2:Bool)(x3 x4:Int)(h:Hp):Prop:=RKL Tryz.prog O Tryz.f63 stk63_0 106 [1,2,3,4] [.pointer (some ⟨b1,f1,none⟩),.bool q2,.int .i64 x3,.int .i64 x4] h Q
def I63_1 (O:CallF)(Q:VQ)(a0_0:OA)(n0_0 c0_0:Nat)(x0_1:Int)(a0_2:OA)(n0_2 c0_2 b1 f1:Nat)(q2:Bool)(a5:OA)(n5 c5:Nat)(q6:Bool)(x7:Int)(h:Hp):Prop:=RKL Tryz.prog O Tryz.f63 stk63_1 106 [1,2,5,6,7] [.pointer (some ⟨b1,f1,none⟩),.bool q2,.slice a5 n5 c5,.bool q6,.int .i64 x7] h Q
def I63_2 (O:CallF)(Q:VQ)(a0_0:OA)(n0_0 c0_0:Nat)(x0_1:Int)(a0_2:OA)(n0_2 c0_2 b1 f1:Nat)(q2:Bool)(a5:OA)(n5 c5:Nat)(q6:Bool)(x9:Int)(h:Hp):Prop:=RKL Tryz.prog O Tryz.f63 stk63_2 106 [1,2,5,6,9] [.pointer (some ⟨b1,f1,none⟩),.bool q2,.slice a5 n5 c5,.bool q6,.int .i64 x9] h Q
def T63 (O:CallF)(Q:VQ)(a0_0:OA)(n0_0 c0_0:Nat)(x0_1:Int)(a0_2:OA)(n0_2 c0_2:Nat)(h:Hp):Prop:=
 let g1:=h.add (.cells (v24 a0_0 n0_0 c0_0 x0_1 a0_2 n0_2 c0_2) 24 .fix)
 ∃a2 n3 c4,readAt g1 h.nx 0 1=some [.slice a2 n3 c4]∧
 vcond (ltI (Int.ofNat n3) 1)
 (Q (.bool false) g1)
 (vcond (ltI 200 (Int.ofNat n3))
 (Q (.bool false) g1)
 (∃x5,readAt g1 h.nx 1 1=some [.int .i64 x5]∧
 vcond (ltI x5 1)
 (Q (.bool false) g1)
 (∃x6,readAt g1 h.nx 1 1=some [.int .i64 x6]∧
 vcond (ltI (Int.ofNat n3) x6)
 (Q (.bool false) g1)
 (∃a7 n8 c9,readAt g1 h.nx 0 1=some [.slice a7 n8 c9]∧
 isAddr a7 fun b10 f11=>
 vreq (Nat.blt 0 n8)
 (∃x12,readAt g1 b10 (f11+0) 1=some [.int .i64 x12]∧
 vcond (!(eqI x12 0))
 (Q (.bool false) g1)
 (∃a13 n14 c15,readAt g1 h.nx 2 1=some [.slice a13 n14 c15]∧
 vcond (ltI 10 (Int.ofNat n14))
 (Q (.bool false) g1)
 (∃x16,readAt g1 h.nx 1 1=some [.int .i64 x16]∧
 I63_0 O Q a0_0 n0_0 c0_0 x0_1 a0_2 n0_2 c0_2 h.nx 0 false (Int.ofNat n3) x16 g1)))))))
theorem rk63 {O Q} (a0_0 n0_0 c0_0 x0_1 a0_2 n0_2 c0_2){h:Hp}(hO:O 63 [.agg (w24 a0_0 n0_0 c0_0 x0_1 a0_2 n0_2 c0_2)] h=none)(hh:T63 O Q a0_0 n0_0 c0_0 x0_1 a0_2 n0_2 c0_2 h):Ret Tryz.prog O 63 [.agg (w24 a0_0 n0_0 c0_0 x0_1 a0_2 n0_2 c0_2)] h Q:=
 .of (c:=b63) Tryz.func63 (by kernel_rfl) hO (V_ok (tb:=lv63) (cuts:=[]) 500 (Eq.mp (by kernel_rfl) hh))
def T63_0 (O:CallF)(Q:VQ)(a0_0:OA)(n0_0 c0_0:Nat)(x0_1:Int)(a0_2:OA)(n0_2 c0_2 b1 f1:Nat)(q2:Bool)(x3 x4:Int)(h:Hp):Prop:=
 vcond (ltI x4 x3)
 (∃a101 n102 c103,readAt h b1 (f1+0) 1=some [.slice a101 n102 c103]∧
 isNat x4 fun n104=>
 isAddr a101 fun b105 f106=>
 vreq (Nat.blt n104 n102)
 (∃x107,readAt h b105 (f106+(n104*1)) 1=some [.int .i64 x107]∧
 vcond (!(eqI x107 0))
 (Q (.bool false) h)
 (I63_0 O Q a0_0 n0_0 c0_0 x0_1 a0_2 n0_2 c0_2 b1 f1 q2 x3 (wrapF .i64 (x4+1)) h)))
 (∃a108 n109 c110 x111 a112 n113 c114,readAt h b1 f1 3=some (v24 a108 n109 c110 x111 a112 n113 c114)∧
 ∃a115 n116 c117 q118 h119,EvC Tryz.prog O 66 [.agg (w24 a108 n109 c110 x111 a112 n113 c114)] h (.tuple #[.slice a115 n116 c117,.bool q118]) h119∧
 I63_1 O Q a0_0 n0_0 c0_0 x0_1 a0_2 n0_2 c0_2 b1 f1 q2 a115 n116 c117 q118 0 h119)
theorem I63_0.of {O Q} (a0_0 n0_0 c0_0 x0_1 a0_2 n0_2 c0_2 b1 f1 q2 x3 x4){h:Hp}(hh:T63_0 O Q a0_0 n0_0 c0_0 x0_1 a0_2 n0_2 c0_2 b1 f1 q2 x3 x4 h):I63_0 O Q a0_0 n0_0 c0_0 x0_1 a0_2 n0_2 c0_2 b1 f1 q2 x3 x4 h:=
 RKL.of (tb:=lv63) (cuts:=[]) 500 fun _=>Eq.mp (by kernel_rfl) hh
def T63_1 (O:CallF)(Q:VQ)(a0_0:OA)(n0_0 c0_0:Nat)(x0_1:Int)(a0_2:OA)(n0_2 c0_2 b1 f1:Nat)(q2:Bool)(a5:OA)(n5 c5:Nat)(q6:Bool)(x7:Int)(h:Hp):Prop:=
 vcond (ltI x7 (Int.ofNat n5))
 (vcond q6
 (let g201:=h.rsv 9
 ∃a202 n203 c204,readAt g201 b1 (f1+0) 1=some [.slice a202 n203 c204]∧
 isNat x7 fun n205=>
 isAddr a5 fun b206 f207=>
 vreq (Nat.blt n205 n5)
 (∃x208,readAt g201 b206 (f207+(n205*1)) 1=some [.int .i64 x208]∧
 isNat x208 fun n209=>
 isAddr a202 fun b210 f211=>
 vreq (Nat.blt n209 n203)
 (∃x212,readAt g201 b210 (f211+(n209*1)) 1=some [.int .i64 x212]∧
 let g213:=g201.rsv 11
 ∃a214 n215 c216 x217 a218 n219 c220,readAt g213 b1 f1 3=some (v24 a214 n215 c216 x217 a218 n219 c220)∧
 isNat x7 fun n221=>
 isAddr a5 fun b222 f223=>
 vreq (Nat.blt n221 n5)
 (∃x224,readAt g213 b222 (f223+(n221*1)) 1=some [.int .i64 x224]∧
 ∃x225 h226,EvC Tryz.prog O 90 [.int .i64 x212] (g213.grd [b222,b1]) (.int .i64 x225) h226∧
 let g227:=h226.rst g213
 ∃a228 n229 c230 h231,EvC Tryz.prog O 122 [.agg (w24 a214 n215 c216 x217 a218 n219 c220),.int .i64 x224] (g227.grd []) (.slice a228 n229 c230) h231∧
 let g232:=h231.rst g227
 ∃q233 h234,EvC Tryz.prog O 82 (v24 a5 n5 c5 x225 a228 n229 c230) (g232.grd []) (.bool q233) h234∧
 let g235:=h234.rst g232
 I63_1 O Q a0_0 n0_0 c0_0 x0_1 a0_2 n0_2 c0_2 b1 f1 q2 a5 n5 c5 q233 (wrapF .i64 (x7+1)) g235))))
 (I63_2 O Q a0_0 n0_0 c0_0 x0_1 a0_2 n0_2 c0_2 b1 f1 q2 a5 n5 c5 q6 0 h))
 (I63_2 O Q a0_0 n0_0 c0_0 x0_1 a0_2 n0_2 c0_2 b1 f1 q2 a5 n5 c5 q6 0 h)
theorem I63_1.of {O Q} (a0_0 n0_0 c0_0 x0_1 a0_2 n0_2 c0_2 b1 f1 q2 a5 n5 c5 q6 x7){h:Hp}(hh:T63_1 O Q a0_0 n0_0 c0_0 x0_1 a0_2 n0_2 c0_2 b1 f1 q2 a5 n5 c5 q6 x7 h):I63_1 O Q a0_0 n0_0 c0_0 x0_1 a0_2 n0_2 c0_2 b1 f1 q2 a5 n5 c5 q6 x7 h:=
 RKL.of (tb:=lv63) (cuts:=[]) 500 fun _=>Eq.mp (by kernel_rfl) hh
def T63_2 (O:CallF)(Q:VQ)(a0_0:OA)(n0_0 c0_0:Nat)(x0_1:Int)(a0_2:OA)(n0_2 c0_2 b1 f1:Nat)(q2:Bool)(a5:OA)(n5 c5:Nat)(q6:Bool)(x9:Int)(h:Hp):Prop:=
 ∃a301 n302 c303,readAt h b1 (f1+2) 1=some [.slice a301 n302 c303]∧
 vcond (ltI x9 (Int.ofNat n302))
 (vcond q6
 (∃a304 n305 c306,readAt h b1 (f1+2) 1=some [.slice a304 n305 c306]∧
 isNat x9 fun n307=>
 isAddr a304 fun b308 f309=>
 vreq (Nat.blt n307 n305)
 (∃x310,readAt h b308 (f309+(n307*1)) 1=some [.int .i64 x310]∧
 ∃q311 h312,EvC Tryz.prog O 102 [.slice a5 n5 c5,.int .i64 x310] h (.bool q311) h312∧
 I63_2 O Q a0_0 n0_0 c0_0 x0_1 a0_2 n0_2 c0_2 b1 f1 q2 a5 n5 c5 q311 (wrapF .i64 (x9+1)) h312))
 (Q (.bool q6) h))
 (Q (.bool q6) h)
theorem I63_2.of {O Q} (a0_0 n0_0 c0_0 x0_1 a0_2 n0_2 c0_2 b1 f1 q2 a5 n5 c5 q6 x9){h:Hp}(hh:T63_2 O Q a0_0 n0_0 c0_0 x0_1 a0_2 n0_2 c0_2 b1 f1 q2 a5 n5 c5 q6 x9 h):I63_2 O Q a0_0 n0_0 c0_0 x0_1 a0_2 n0_2 c0_2 b1 f1 q2 a5 n5 c5 q6 x9 h:=
 RKL.of (tb:=lv63) (cuts:=[]) 500 fun _=>Eq.mp (by kernel_rfl) hh
noncomputable def b65:Code:=(Tryz.f65.body).getD .skip
noncomputable def stk65_0:List KI:=[.code (sub [1,1,0,1,0,0] b65),.code (sub [1,1,0,1,0,1] b65),.code (sub [1,1,1] b65)]
noncomputable def L65_0 (a0_0:OA)(n0_0 c0_0:Nat)(x0_1:Int)(a0_2:OA)(n0_2 c0_2 b1 f1 b2 f2 b3 f3:Nat)(x4:Int)(b5 f5:Nat)(q6:Bool)(b10 f10:Nat)(a11:OA)(n11 c11:Nat)(x12 x13:Int)(q14:Bool)(x16:Int)(q17 q18:Bool)(b20 f20:Nat)(x21:Int)(q22 q23:Bool)(b25 f25:Nat)(x26 x27:Int)(q28 q29:Bool)(b31 f31:Nat)(a32:OA)(n32 c32 b33 f33:Nat)(x34:Int)(q35 q36:Bool)(b38 f38:Nat)(a39:OA)(n39 c39:Nat)(x40:Int)(q41:Bool)(b43 f43:Nat)(a44:OA)(n44 c44 b45 f45:Nat)(x46:Int)(a47:OA)(n47 c47:Nat)(a49_0:OA)(n49_0 c49_0:Nat)(q49_1:Bool)(a50_0:OA)(n50_0 c50_0:Nat)(x50_1:Int)(a50_2:OA)(n50_2 c50_2:Nat)(a51_0:OA)(n51_0 c51_0:Nat)(q51_1:Bool)(a52:OA)(n52 c52:Nat)(q53 q54 q55:Bool)(b57 f57:Nat)(a58:OA)(n58 c58:Nat)(v59:Value)(q60:Bool)(b62 f62:Nat)(a63:OA)(n63 c63 b64 f64:Nat)(x65:Int)(g66:Nat)(fi66 ca66:Array Value):Lp:=⟨0,none,[.agg (w24 a0_0 n0_0 c0_0 x0_1 a0_2 n0_2 c0_2),.pointer (some ⟨b1,f1,none⟩),.pointer (some ⟨b2,f2,none⟩),.pointer (some ⟨b3,f3,none⟩),.int .i64 x4,.pointer (some ⟨b5,f5,none⟩),.bool q6,undef,undef,undef,.pointer (some ⟨b10,f10,none⟩),.slice a11 n11 c11,.int .i64 x12,.int .i64 x13,.bool q14,.bool false,.int .i64 x16,.bool q17,.bool q18,.bool false,.pointer (some ⟨b20,f20,none⟩),.int .i64 x21,.bool q22,.bool q23,.bool false,.pointer (some ⟨b25,f25,none⟩),.int .i64 x26,.int .i64 x27,.bool q28,.bool q29,.bool false,.pointer (some ⟨b31,f31,none⟩),.slice a32 n32 c32,.pointer (some ⟨b33,f33,none⟩),.int .i64 x34,.bool q35,.bool q36,.bool false,.pointer (some ⟨b38,f38,none⟩),.slice a39 n39 c39,.int .i64 x40,.bool q41,.bool false,.pointer (some ⟨b43,f43,none⟩),.slice a44 n44 c44,.pointer (some ⟨b45,f45,none⟩),.int .i64 x46,.slice a47 n47 c47,.bool false,.tuple #[.slice a49_0 n49_0 c49_0,.bool q49_1],.agg (w24 a50_0 n50_0 c50_0 x50_1 a50_2 n50_2 c50_2),.tuple #[.slice a51_0 n51_0 c51_0,.bool q51_1],.slice a52 n52 c52,.bool q53,.bool q54,.bool q55,.bool false,.pointer (some ⟨b57,f57,none⟩),.slice a58 n58 c58,v59,.bool q60,.bool false,.pointer (some ⟨b62,f62,none⟩),.slice a63 n63 c63,.pointer (some ⟨b64,f64,none⟩),.int .i64 x65,.func (.func g66) fi66 ca66,undef,undef,undef,undef,undef,undef,undef,undef,undef,undef,undef,undef,undef],#[67,68],(sub [1,1,1,1,1,1,0,1,0,0] b65),(sub [1,1,1,1,1,1,0,1,0,1] b65)⟩
def lv65:List (Nat×List Nat):=[(1000003,[1,2,3])]
def I65_0 (O:CallF)(Q:VQ)(a0_0:OA)(n0_0 c0_0:Nat)(x0_1:Int)(a0_2:OA)(n0_2 c0_2 b1 f1 b2 f2 b3 f3:Nat)(h:Hp):Prop:=RKL Tryz.prog O Tryz.f65 stk65_0 80 [1,2,3] [.pointer (some ⟨b1,f1,none⟩),.pointer (some ⟨b2,f2,none⟩),.pointer (some ⟨b3,f3,none⟩)] h Q
def T65 (O:CallF)(Q:VQ)(a0_0:OA)(n0_0 c0_0:Nat)(x0_1:Int)(a0_2:OA)(n0_2 c0_2:Nat)(h:Hp):Prop:=
 let g1:=h.add (.cells (v24 a0_0 n0_0 c0_0 x0_1 a0_2 n0_2 c0_2) 24 .fix)
 let g2:=g1.add (.cells [.slice none 0 0] 102 .fix)
 let g3:=g2.add (.cells [.int .i64 0] 27 .fix)
 ∃a4 n5 c6,readAt g3 h.nx 0 1=some [.slice a4 n5 c6]∧
 vcond (ltI (Int.ofNat n5) 1)
 (I65_0 O Q a0_0 n0_0 c0_0 x0_1 a0_2 n0_2 c0_2 h.nx 0 g1.nx 0 g2.nx 0 g3)
 (vcond (ltI 200 (Int.ofNat n5))
 (I65_0 O Q a0_0 n0_0 c0_0 x0_1 a0_2 n0_2 c0_2 h.nx 0 g1.nx 0 g2.nx 0 g3)
 (∃x7,readAt g3 h.nx 1 1=some [.int .i64 x7]∧
 vcond (ltI x7 1)
 (I65_0 O Q a0_0 n0_0 c0_0 x0_1 a0_2 n0_2 c0_2 h.nx 0 g1.nx 0 g2.nx 0 g3)
 (∃x8,readAt g3 h.nx 1 1=some [.int .i64 x8]∧
 vcond (ltI (Int.ofNat n5) x8)
 (I65_0 O Q a0_0 n0_0 c0_0 x0_1 a0_2 n0_2 c0_2 h.nx 0 g1.nx 0 g2.nx 0 g3)
 (∃a9 n10 c11,readAt g3 h.nx 0 1=some [.slice a9 n10 c11]∧
 isAddr a9 fun b12 f13=>
 vreq (Nat.blt 0 n10)
 (∃x14,readAt g3 b12 (f13+0) 1=some [.int .i64 x14]∧
 vcond (!(eqI x14 0))
 (I65_0 O Q a0_0 n0_0 c0_0 x0_1 a0_2 n0_2 c0_2 h.nx 0 g1.nx 0 g2.nx 0 g3)
 (∃a15 n16 c17,readAt g3 h.nx 2 1=some [.slice a15 n16 c17]∧
 vcond (ltI 10 (Int.ofNat n16))
 (I65_0 O Q a0_0 n0_0 c0_0 x0_1 a0_2 n0_2 c0_2 h.nx 0 g1.nx 0 g2.nx 0 g3)
 (∃a18 n19 c20,readAt g3 h.nx 0 1=some [.slice a18 n19 c20]∧
 ∃x21,readAt g3 h.nx 1 1=some [.int .i64 x21]∧
 ∃a22 n23 c24,sliceV Tryz.prog g3 22 (.slice a18 n19 c20) (some (.int .i64 x21)) none none=some (.slice a22 n23 c24)∧
 ∃q25 h26,EvC Tryz.prog O 76 [.slice a22 n23 c24,.func (.func 123) #[] #[]] g3 (.bool q25) h26∧
 vcond q25
 (vreq (canW h26 g1.nx 0 [.slice none 0 0])
 (let g27:=h26.wr g1.nx 0 [.slice none 0 0]
 vreq (canW g27 g2.nx 0 [.int .i64 2])
 (let g28:=g27.wr g2.nx 0 [.int .i64 2]
 ∃a29 n30 c31,readAt g28 g1.nx 0 1=some [.slice a29 n30 c31]∧
 ∃x32,readAt g28 g2.nx 0 1=some [.int .i64 x32]∧
 Q (.tuple #[.slice a29 n30 c31,.int .i64 x32]) g28)))
 (∃a33 n34 c35 x36 a37 n38 c39,readAt h26 h.nx 0 3=some (v24 a33 n34 c35 x36 a37 n38 c39)∧
 ∃a40 n41 c42 q43 h44,EvC Tryz.prog O 124 [.agg (w24 a33 n34 c35 x36 a37 n38 c39)] h26 (.tuple #[.slice a40 n41 c42,.bool q43]) h44∧
 let g45:=h44.add (.cells [.slice none 0 0] 102 .fix)
 vreq (canW g45 h44.nx 0 [.slice a40 n41 c42])
 (let g46:=g45.wr h44.nx 0 [.slice a40 n41 c42]
 vcond (!q43)
 (vreq (canW g46 g1.nx 0 [.slice none 0 0])
 (let g47:=g46.wr g1.nx 0 [.slice none 0 0]
 vreq (canW g47 g2.nx 0 [.int .i64 2])
 (let g48:=g47.wr g2.nx 0 [.int .i64 2]
 ∃a49 n50 c51,readAt g48 g1.nx 0 1=some [.slice a49 n50 c51]∧
 ∃x52,readAt g48 g2.nx 0 1=some [.int .i64 x52]∧
 Q (.tuple #[.slice a49 n50 c51,.int .i64 x52]) g48)))
 (∃a53 n54 c55,readAt g46 h.nx 2 1=some [.slice a53 n54 c55]∧
 ∃q56 h57,EvC Tryz.prog O 76 [.slice a53 n54 c55,.func (.func 125) #[] #[.pointer (some ⟨h44.nx,0,none⟩)]] g46 (.bool q56) h57∧
 vcond q56
 (vreq (canW h57 g1.nx 0 [.slice none 0 0])
 (let g58:=h57.wr g1.nx 0 [.slice none 0 0]
 vreq (canW g58 g2.nx 0 [.int .i64 2])
 (let g59:=g58.wr g2.nx 0 [.int .i64 2]
 ∃a60 n61 c62,readAt g59 g1.nx 0 1=some [.slice a60 n61 c62]∧
 ∃x63,readAt g59 g2.nx 0 1=some [.int .i64 x63]∧
 Q (.tuple #[.slice a60 n61 c62,.int .i64 x63]) g59)))
 (∃a64 n65 c66,readAt h57 h.nx 0 1=some [.slice a64 n65 c66]∧
 ∃x67,readAt h57 h.nx 1 1=some [.int .i64 x67]∧
 ∃k68 fi69 ca70 h71,EvC Tryz.prog O 105 [.slice a64 n65 c66,.int .i64 1,.int .i64 x67] h57 (.func (.func k68) fi69 ca70) h71∧
 vreq (Nat.blt k68 yB&&hasBody Tryz.prog k68)
 (∃h72,EvC Tryz.prog O k68 (fi69.toList++[.func (.yield h71.nx) #[] #[]]++ca70.toList) (h71.add (.loop (L65_0 a0_0 n0_0 c0_0 x0_1 a0_2 n0_2 c0_2 h.nx 0 g1.nx 0 g2.nx 0 (Int.ofNat n5) h44.nx 0 q43 h.nx 0 a4 n5 c6 (Int.ofNat n5) (Int.ofNat n5) (ltI (Int.ofNat n5) 1) (Int.ofNat n5) (ltI 200 (Int.ofNat n5)) (ltI 200 (Int.ofNat n5)) h.nx 1 x7 (ltI x7 1) (ltI x7 1) h.nx 1 x8 (Int.ofNat n5) (ltI (Int.ofNat n5) x8) (ltI (Int.ofNat n5) x8) h.nx 0 a9 n10 c11 b12 (f13+0) x14 (!(eqI x14 0)) (!(eqI x14 0)) h.nx 2 a15 n16 c17 (Int.ofNat n16) (ltI 10 (Int.ofNat n16)) h.nx 0 a18 n19 c20 h.nx 1 x21 a22 n23 c24 a40 n41 c42 q43 a33 n34 c35 x36 a37 n38 c39 a40 n41 c42 q43 a40 n41 c42 q43 q43 (!q43) h.nx 2 a53 n54 c55 (.func (.func 125) #[] #[.pointer (some ⟨h44.nx,0,none⟩)]) q56 h.nx 0 a64 n65 c66 h.nx 1 x67 k68 fi69 ca70))) undef h72∧
 vend h71.nx h72
 (fun g73=>
 ∃a75 n76 c77,readAt g73 h44.nx 0 1=some [.slice a75 n76 c77]∧
 vreq (canW g73 g1.nx 0 [.slice a75 n76 c77])
 (let g78:=g73.wr g1.nx 0 [.slice a75 n76 c77]
 vreq (canW g78 g2.nx 0 [.int .i64 0])
 (let g79:=g78.wr g2.nx 0 [.int .i64 0]
 ∃a80 n81 c82,readAt g79 g1.nx 0 1=some [.slice a80 n81 c82]∧
 ∃x83,readAt g79 g2.nx 0 1=some [.int .i64 x83]∧
 Q (.tuple #[.slice a80 n81 c82,.int .i64 x83]) g79)))
 (fun g74=>
 ∃a84 n85 c86,readAt g74 g1.nx 0 1=some [.slice a84 n85 c86]∧
 ∃x87,readAt g74 g2.nx 0 1=some [.int .i64 x87]∧
 Q (.tuple #[.slice a84 n85 c86,.int .i64 x87]) g74)))))))))))))
theorem rk65 {O Q} (a0_0 n0_0 c0_0 x0_1 a0_2 n0_2 c0_2){h:Hp}(hO:O 65 [.agg (w24 a0_0 n0_0 c0_0 x0_1 a0_2 n0_2 c0_2)] h=none)(hh:T65 O Q a0_0 n0_0 c0_0 x0_1 a0_2 n0_2 c0_2 h):Ret Tryz.prog O 65 [.agg (w24 a0_0 n0_0 c0_0 x0_1 a0_2 n0_2 c0_2)] h Q:=
 .of (c:=b65) Tryz.func65 (by kernel_rfl) hO (V_ok (tb:=lv65) (cuts:=[3]) 500 (Eq.mp (by kernel_rfl) hh))
def T65_0 (O:CallF)(Q:VQ)(a0_0:OA)(n0_0 c0_0:Nat)(x0_1:Int)(a0_2:OA)(n0_2 c0_2 b1 f1 b2 f2 b3 f3:Nat)(h:Hp):Prop:=
 vreq (canW h b2 f2 [.slice none 0 0])
 (let g101:=h.wr b2 f2 [.slice none 0 0]
 vreq (canW g101 b3 f3 [.int .i64 2])
 (let g102:=g101.wr b3 f3 [.int .i64 2]
 ∃a103 n104 c105,readAt g102 b2 f2 1=some [.slice a103 n104 c105]∧
 ∃x106,readAt g102 b3 f3 1=some [.int .i64 x106]∧
 Q (.tuple #[.slice a103 n104 c105,.int .i64 x106]) g102))
theorem I65_0.of {O Q} (a0_0 n0_0 c0_0 x0_1 a0_2 n0_2 c0_2 b1 f1 b2 f2 b3 f3){h:Hp}(hh:T65_0 O Q a0_0 n0_0 c0_0 x0_1 a0_2 n0_2 c0_2 b1 f1 b2 f2 b3 f3 h):I65_0 O Q a0_0 n0_0 c0_0 x0_1 a0_2 n0_2 c0_2 b1 f1 b2 f2 b3 f3 h:=
 RKL.of (tb:=lv65) (cuts:=[3]) 500 fun _=>Eq.mp (by kernel_rfl) hh
def TR65_0 (O:CallF)(Q:VQ)(L:Nat)(xr0:Int)(ar1:OA)(nr1 cr1:Nat)(a0_0:OA)(n0_0 c0_0:Nat)(x0_1:Int)(a0_2:OA)(n0_2 c0_2 b1 f1 b2 f2 b3 f3:Nat)(x4:Int)(b5 f5:Nat)(q6:Bool)(b10 f10:Nat)(a11:OA)(n11 c11:Nat)(x12 x13:Int)(q14:Bool)(x16:Int)(q17 q18:Bool)(b20 f20:Nat)(x21:Int)(q22 q23:Bool)(b25 f25:Nat)(x26 x27:Int)(q28 q29:Bool)(b31 f31:Nat)(a32:OA)(n32 c32 b33 f33:Nat)(x34:Int)(q35 q36:Bool)(b38 f38:Nat)(a39:OA)(n39 c39:Nat)(x40:Int)(q41:Bool)(b43 f43:Nat)(a44:OA)(n44 c44 b45 f45:Nat)(x46:Int)(a47:OA)(n47 c47:Nat)(a49_0:OA)(n49_0 c49_0:Nat)(q49_1:Bool)(a50_0:OA)(n50_0 c50_0:Nat)(x50_1:Int)(a50_2:OA)(n50_2 c50_2:Nat)(a51_0:OA)(n51_0 c51_0:Nat)(q51_1:Bool)(a52:OA)(n52 c52:Nat)(q53 q54 q55:Bool)(b57 f57:Nat)(a58:OA)(n58 c58:Nat)(v59:Value)(q60:Bool)(b62 f62:Nat)(a63:OA)(n63 c63 b64 f64:Nat)(x65:Int)(g66:Nat)(fi66 ca66:Array Value)(h:Hp):Prop:=
 vbeg L h fun g10001=>
 ∃a10002 n10003 c10004,readAt g10001 b1 (f1+0) 1=some [.slice a10002 n10003 c10004]∧
 isNat xr0 fun n10005=>
 isAddr a10002 fun b10006 f10007=>
 vreq (Nat.blt n10005 n10003)
 (∃x10008,readAt g10001 b10006 (f10007+(n10005*1)) 1=some [.int .i64 x10008]∧
 ∃x10009 x10010 h10011,EvC Tryz.prog O 86 [.int .i64 x10008] g10001 (.agg #[.int .i64 x10009,.int .i64 x10010]) h10011∧
 let g10012:=h10011.add (.cells [.int .i64 0] 37 .fix)
 vreq (canW g10012 h10011.nx 0 [.int .i64 x10010])
 (let g10013:=g10012.wr h10011.nx 0 [.int .i64 x10010]
 ∃q10014 h10015,EvC Tryz.prog O 76 [.slice ar1 nr1 cr1,.func (.func 126) #[] #[.pointer (some ⟨b5,f5,none⟩),.pointer (some ⟨h10011.nx,0,none⟩)]] g10013 (.bool q10014) h10015∧
 vcond q10014
 (vreq (canW h10015 b2 f2 [.slice none 0 0])
 (let g10016:=h10015.wr b2 f2 [.slice none 0 0]
 vreq (canW g10016 b3 f3 [.int .i64 2])
 (let g10017:=g10016.wr b3 f3 [.int .i64 2]
 vout L .ret g10017 Q)))
 (vout L .normal h10015 Q)))
theorem rd65_0 {O Q}(L:Nat)(xr0:Int)(ar1:OA)(nr1:Nat)(cr1:Nat)(a0_0:OA)(n0_0:Nat)(c0_0:Nat)(x0_1:Int)(a0_2:OA)(n0_2:Nat)(c0_2:Nat)(b1:Nat)(f1:Nat)(b2:Nat)(f2:Nat)(b3:Nat)(f3:Nat)(x4:Int)(b5:Nat)(f5:Nat)(q6:Bool)(b10:Nat)(f10:Nat)(a11:OA)(n11:Nat)(c11:Nat)(x12:Int)(x13:Int)(q14:Bool)(x16:Int)(q17:Bool)(q18:Bool)(b20:Nat)(f20:Nat)(x21:Int)(q22:Bool)(q23:Bool)(b25:Nat)(f25:Nat)(x26:Int)(x27:Int)(q28:Bool)(q29:Bool)(b31:Nat)(f31:Nat)(a32:OA)(n32:Nat)(c32:Nat)(b33:Nat)(f33:Nat)(x34:Int)(q35:Bool)(q36:Bool)(b38:Nat)(f38:Nat)(a39:OA)(n39:Nat)(c39:Nat)(x40:Int)(q41:Bool)(b43:Nat)(f43:Nat)(a44:OA)(n44:Nat)(c44:Nat)(b45:Nat)(f45:Nat)(x46:Int)(a47:OA)(n47:Nat)(c47:Nat)(a49_0:OA)(n49_0:Nat)(c49_0:Nat)(q49_1:Bool)(a50_0:OA)(n50_0:Nat)(c50_0:Nat)(x50_1:Int)(a50_2:OA)(n50_2:Nat)(c50_2:Nat)(a51_0:OA)(n51_0:Nat)(c51_0:Nat)(q51_1:Bool)(a52:OA)(n52:Nat)(c52:Nat)(q53:Bool)(q54:Bool)(q55:Bool)(b57:Nat)(f57:Nat)(a58:OA)(n58:Nat)(c58:Nat)(v59:Value)(q60:Bool)(b62:Nat)(f62:Nat)(a63:OA)(n63:Nat)(c63:Nat)(b64:Nat)(f64:Nat)(x65:Int)(g66:Nat)(fi66:Array Value)(ca66:Array Value){h:Hp}(hO:O (yB+L) [.int .i64 xr0,.slice ar1 nr1 cr1] h=none)(hg:h.get L=some (.loop (L65_0 a0_0 n0_0 c0_0 x0_1 a0_2 n0_2 c0_2 b1 f1 b2 f2 b3 f3 x4 b5 f5 q6 b10 f10 a11 n11 c11 x12 x13 q14 x16 q17 q18 b20 f20 x21 q22 q23 b25 f25 x26 x27 q28 q29 b31 f31 a32 n32 c32 b33 f33 x34 q35 q36 b38 f38 a39 n39 c39 x40 q41 b43 f43 a44 n44 c44 b45 f45 x46 a47 n47 c47 a49_0 n49_0 c49_0 q49_1 a50_0 n50_0 c50_0 x50_1 a50_2 n50_2 c50_2 a51_0 n51_0 c51_0 q51_1 a52 n52 c52 q53 q54 q55 b57 f57 a58 n58 c58 v59 q60 b62 f62 a63 n63 c63 b64 f64 x65 g66 fi66 ca66)))(hh:TR65_0 O Q L xr0 ar1 nr1 cr1 a0_0 n0_0 c0_0 x0_1 a0_2 n0_2 c0_2 b1 f1 b2 f2 b3 f3 x4 b5 f5 q6 b10 f10 a11 n11 c11 x12 x13 q14 x16 q17 q18 b20 f20 x21 q22 q23 b25 f25 x26 x27 q28 q29 b31 f31 a32 n32 c32 b33 f33 x34 q35 q36 b38 f38 a39 n39 c39 x40 q41 b43 f43 a44 n44 c44 b45 f45 x46 a47 n47 c47 a49_0 n49_0 c49_0 q49_1 a50_0 n50_0 c50_0 x50_1 a50_2 n50_2 c50_2 a51_0 n51_0 c51_0 q51_1 a52 n52 c52 q53 q54 q55 b57 f57 a58 n58 c58 v59 q60 b62 f62 a63 n63 c63 b64 f64 x65 g66 fi66 ca66 h):Ret Tryz.prog O (yB+L) [.int .i64 xr0,.slice ar1 nr1 cr1] h Q:=
 .round hO hg (by kernel_rfl) (V_ok (tb:=lv65) (cuts:=[3]) 500 (Eq.mp (by kernel_rfl) hh))
noncomputable def b105:Code:=(Tryz.f105.body).getD .skip
def lv105:List (Nat×List Nat):=[]
def T105 (O:CallF)(Q:VQ)(a0:OA)(n0 c0:Nat)(x1 x2:Int)(h:Hp):Prop:=
 let g1:=h.add (.cells [.slice a0 n0 c0] 22 .fix)
 let g2:=g1.add (.cells [.int .i64 x1] 3 .fix)
 let g3:=g2.add (.cells [.int .i64 x2] 3 .fix)
 Q (.func (.func 138) #[] #[.pointer (some ⟨g1.nx,0,none⟩),.pointer (some ⟨g2.nx,0,none⟩),.pointer (some ⟨h.nx,0,none⟩)]) g3
theorem rk105 {O Q} (a0 n0 c0 x1 x2){h:Hp}(hO:O 105 [.slice a0 n0 c0,.int .i64 x1,.int .i64 x2] h=none)(hh:T105 O Q a0 n0 c0 x1 x2 h):Ret Tryz.prog O 105 [.slice a0 n0 c0,.int .i64 x1,.int .i64 x2] h Q:=
 .of (c:=b105) Tryz.func105 (by kernel_rfl) hO (V_ok (tb:=lv105) (cuts:=[]) 500 (Eq.mp (by kernel_rfl) hh))
noncomputable def b138:Code:=(Tryz.f138.body).getD .skip
noncomputable def stk138_0:List KI:=[.code (sub [1,0] b138),.blk 0]
def lv138:List (Nat×List Nat):=[(0,[0,2,3,5])]
def I138_0 (O:CallF)(Q:VQ)(y0 b1 f1 b2 f2 b3 f3:Nat)(x5:Int)(h:Hp):Prop:=RKL Tryz.prog O Tryz.f138 stk138_0 30 [0,2,3,5] [.func (.yield y0) #[] #[],.pointer (some ⟨b2,f2,none⟩),.pointer (some ⟨b3,f3,none⟩),.int .i64 x5] h Q
def T138 (O:CallF)(Q:VQ)(y0 b1 f1 b2 f2 b3 f3:Nat)(h:Hp):Prop:=
 ∃x1,readAt h b1 f1 1=some [.int .i64 x1]∧
 I138_0 O Q y0 b1 f1 b2 f2 b3 f3 x1 h
theorem rk138 {O Q} (y0 b1 f1 b2 f2 b3 f3){h:Hp}(hO:O 138 [.func (.yield y0) #[] #[],.pointer (some ⟨b1,f1,none⟩),.pointer (some ⟨b2,f2,none⟩),.pointer (some ⟨b3,f3,none⟩)] h=none)(hh:T138 O Q y0 b1 f1 b2 f2 b3 f3 h):Ret Tryz.prog O 138 [.func (.yield y0) #[] #[],.pointer (some ⟨b1,f1,none⟩),.pointer (some ⟨b2,f2,none⟩),.pointer (some ⟨b3,f3,none⟩)] h Q:=
 .of (c:=b138) Tryz.func138 (by kernel_rfl) hO (V_ok (tb:=lv138) (cuts:=[]) 500 (Eq.mp (by kernel_rfl) hh))
def T138_0 (O:CallF)(Q:VQ)(y0 b1 f1 b2 f2 b3 f3:Nat)(x5:Int)(h:Hp):Prop:=
 ∃x101,readAt h b2 f2 1=some [.int .i64 x101]∧
 vcond (ltI x5 x101)
 (∃a102 n103 c104,readAt h b3 f3 1=some [.slice a102 n103 c104]∧
 isNat x5 fun n105=>
 isAddr a102 fun b106 f107=>
 vreq (Nat.blt n105 n103)
 (∃x108,readAt h b106 (f107+(n105*1)) 1=some [.int .i64 x108]∧
 ∃x109 x110 h111,EvC Tryz.prog O 86 [.int .i64 x108] h (.agg #[.int .i64 x109,.int .i64 x110]) h111∧
 ∃a112 n113 c114,readAt h111 b3 f3 1=some [.slice a112 n113 c114]∧
 ∃a115 n116 c117,sliceV Tryz.prog h111 22 (.slice a112 n113 c114) (some (.int .i64 (wrapF .i64 (x5+1)))) (some (.int .i64 (wrapF .i64 ((wrapF .i64 (x5+1))+x109)))) none=some (.slice a115 n116 c117)∧
 ∃q118 h119,EvC Tryz.prog O (yB+y0) [.int .i64 x5,.slice a115 n116 c117] h111 (.bool q118) h119∧
 vcond (!q118)
 (Q undef h119)
 (I138_0 O Q y0 b1 f1 b2 f2 b3 f3 (wrapF .i64 ((wrapF .i64 (x5+1))+x109)) h119)))
 (Q undef h)
theorem I138_0.of {O Q} (y0 b1 f1 b2 f2 b3 f3 x5){h:Hp}(hh:T138_0 O Q y0 b1 f1 b2 f2 b3 f3 x5 h):I138_0 O Q y0 b1 f1 b2 f2 b3 f3 x5 h:=
 RKL.of (tb:=lv138) (cuts:=[]) 500 fun _=>Eq.mp (by kernel_rfl) hh
end Go.Proofs.YtngcjpkccnfjiaaGreatDoor
namespace Go.Ev
open Go
theorem vreq_eq (b:Bool)(K:Prop):vreq b K=(b=true∧K):=by cases b<;>simp[vreq]
theorem vcond_t {b:Bool}{A B:Prop}(h:b=true)(ha:A):vcond b A B:=by subst h;exact ha
theorem vcond_f {b:Bool}{A B:Prop}(h:b=false)(hb:B):vcond b A B:=by subst h;exact hb
theorem vreq_t {b:Bool}{K:Prop}(h:b=true)(hk:K):vreq b K:=by subst h;exact hk
theorem vcond_split {b:Bool}{A B:Prop}(ha:b=true→A)(hb:b=false→B):vcond b A B:=by
 cases b with
 |false=>exact hb rfl
 |true=>exact ha rfl
theorem ltI_nat (a b:Nat):ltI (Int.ofNat a) (Int.ofNat b)=Nat.blt a b:=rfl
theorem ltI_f {a b:Int}(h: ¬a<b):ltI a b=false:=by rw[ltI_eq];exact decide_eq_false h
theorem lt_of_t {a b:Int}(h:ltI a b=true):a<b:=by rw[ltI_eq]at h;exact of_decide_eq_true h
theorem not_lt_of_f {a b:Int}(h:ltI a b=false): ¬a<b:=by rw[ltI_eq]at h;exact of_decide_eq_false h
theorem eqI_t {a b:Int}(h:a=b):eqI a b=true:=by rw[eqI_eq];simpa using h
theorem eqI_f {a b:Int}(h:a≠b):eqI a b=false:=by rw[eqI_eq];simpa using h
theorem eq_of_t {a b:Int}(h:eqI a b=true):a=b:=by rw[eqI_eq]at h;simpa using h
theorem ne_of_f {a b:Int}(h:eqI a b=false):a≠b:=by rw[eqI_eq]at h;simpa using h
theorem blt_t {a b:Nat}(h:a<b):Nat.blt a b=true:=by simpa using h
theorem blt_f {a b:Nat}(h: ¬a<b):Nat.blt a b=false:=by rw[Bool.eq_false_iff];intro hh;exact h (by simpa using hh)
theorem ble_t {a b:Nat}(h:a≤b):Nat.ble a b=true:=by simpa using h
theorem lt_of_blt {a b:Nat}(h:Nat.blt a b=true):a<b:=by simpa using h
theorem not_lt_of_blt {a b:Nat}(h:Nat.blt a b=false): ¬a<b:=fun hh=>by rw[blt_t hh]at h;cases h
theorem wrap64 {n:Int}(h1: -9223372036854775808≤n)(h2:n<9223372036854775808):wrapF .i64 n=n:=by
 cases n with
 |ofNat m=>
  have hm:m<9223372036854775808:=by have:(Int.ofNat m:Int)=(m:Int):=rfl;omega
  show(bif Nat.blt m 9223372036854775808 then Int.ofNat m else _)=_;rw[blt_t hm];rfl
 |negSucc m=>
  have hm:m<9223372036854775808:=by have:Int.negSucc m= -((m:Int)+1):=rfl;omega
  show(bif Nat.blt m 9223372036854775808 then Int.negSucc m else _)=_;rw[blt_t hm];rfl
theorem wrap_succ {k:Nat}(h:k+1<9223372036854775808):wrapF .i64 (Int.ofNat k+1)=Int.ofNat (k+1):=by
 rw[wrap64]<;>simp<;>omega
theorem get_add (h:Hp)(x:Ob)(q:Nat):(h.add x).get q=if q=h.nx then some x else h.get q:=by
 rw[Hp.get_add];rfl
theorem get_add_same (h:Hp)(x:Ob):(h.add x).get h.nx=some x:=by rw[get_add,if_pos rfl]
theorem get_add_ne {h:Hp}{x:Ob}{q:Nat}(hq:q≠h.nx):(h.add x).get q=h.get q:=by rw[get_add,if_neg hq]
theorem nx_add (h:Hp)(x:Ob):(h.add x).nx=h.nx+1:=rfl
theorem get_rsv (h:Hp)(k q:Nat):(h.rsv k).get q=h.get q:=rfl
theorem nx_rsv (h:Hp)(k:Nat):(h.rsv k).nx=h.nx+k:=rfl
theorem get_grd (h:Hp)(g:List Nat)(q:Nat):(h.grd g).get q=h.get q:=rfl
theorem rst_grd (h:Hp)(g:List Nat):(h.grd g).rst h=h:=rfl
theorem get_lay (h:Hp)(k:Nat)(x:Ob)(q:Nat):(h.lay k x).get q=if q=k then some x else h.get q:=Tr.get_upd ..
theorem nx_lay (h:Hp)(k:Nat)(x:Ob):(h.lay k x).nx=h.nx:=rfl
theorem readAt_get {h:Hp}{o:Nat}{c:List Value}{e:TypeId}{m:Md}(hg:h.get o=some (.cells c e m)){off n:Nat}(hn:off+n≤c.length):readAt h o off n=some ((c.drop off).take n):=by
 unfold readAt;rw[hg];have:Nat.beq ((c.drop off).take n).length n=true:=by
  rw[Nat.beq_eq];simp;omega
 simp only[this,cond_true]
theorem read1 {h:Hp}{o:Nat}{c:List Value}{e:TypeId}{m:Md}(hg:h.get o=some (.cells c e m)){i:Nat}{v:Value}(hv:c[i]? =some v):readAt h o i 1=some [v]:=by
 obtain⟨hi,hv⟩:=List.getElem?_eq_some_iff.1 hv;rw[readAt_get hg (by omega),List.drop_eq_getElem_cons hi,hv];rfl
theorem wr_get_ne (h:Hp)(o off:Nat)(vs:List Value){q:Nat}(hq:q≠o):(h.wr o off vs).get q=h.get q:=by
 unfold Hp.wr;cases hw:writeAt h o off vs with
 |none=>rfl
 |some h'=>
  unfold writeAt at hw;split at hw
  · split at hw
    · cases hw
    · obtain⟨_,hw⟩:=cond_some hw;rw[(Hp.get_put hw).2.2.2,if_neg hq]
  · cases hw
theorem nx_wr (h:Hp)(o off:Nat)(vs:List Value):(h.wr o off vs).nx=h.nx:=by
 unfold Hp.wr;cases hw:writeAt h o off vs with
 |none=>rfl
 |some h'=>
  unfold writeAt at hw;split at hw
  · split at hw
    · cases hw
    · obtain⟨_,hw⟩:=cond_some hw;exact(Hp.get_put hw).1
  · cases hw
theorem gd_wr (h:Hp)(o off:Nat)(vs:List Value):(h.wr o off vs).gd=h.gd:=by
 unfold Hp.wr;cases hw:writeAt h o off vs with
 |none=>rfl
 |some h'=>
  unfold writeAt at hw;split at hw
  · split at hw
    · cases hw
    · obtain⟨_,hw⟩:=cond_some hw;exact(Hp.get_put hw).2.1
  · cases hw
theorem writeAt_mk {h:Hp}{o off:Nat}{vs c:List Value}{e:TypeId}{m:Md}(hg:h.get o=some (.cells c e m))(hm:m≠ .ro)(hgd:h.guarded o=false)(hl:off+vs.length≤c.length)(h1:vs.all one=true):
 ∃h',writeAt h o off vs=some h'∧h'.get o=some (.cells (putAt c off vs) e m):=by
 have hp: ∀m,m≠ .ro→writeAt h o off vs=(if m=m then h.put o (some (.cells (putAt c off vs) e m))else none)→ ∃h',writeAt h o off vs=some h'∧h'.get o=some (.cells (putAt c off vs) e m):=by
  intro m _ hw;rw[if_pos rfl]at hw;unfold Hp.put at hw;rw[hgd]at hw;refine⟨_,hw,?_⟩;show Tr.get none (Tr.upd none h.t o _) o=_;rw[Tr.get_upd,if_pos rfl]
 refine hp m hm ?_;unfold writeAt;rw[hg,if_pos rfl];have hb:(Nat.ble (off+vs.length) c.length&&vs.all one)=true:=by rw[ble_t hl,h1];rfl
 cases m with
 |ro=>exact absurd rfl hm
 |fix=>simp only[hb,cond_true]
 |grow=>simp only[hb,cond_true]
theorem canW_t {h:Hp}{o off:Nat}{vs c:List Value}{e:TypeId}{m:Md}(hg:h.get o=some (.cells c e m))(hm:m≠ .ro)(hgd:h.guarded o=false)(hl:off+vs.length≤c.length)(h1:vs.all one=true):canW h o off vs=true:=by
 obtain⟨h',hw,_⟩:=writeAt_mk hg hm hgd hl h1;unfold canW;rw[hw];rfl
theorem wr_get {h:Hp}{o off:Nat}{vs c:List Value}{e:TypeId}{m:Md}(hg:h.get o=some (.cells c e m))(hm:m≠ .ro)(hgd:h.guarded o=false)(hl:off+vs.length≤c.length)(h1:vs.all one=true):(h.wr o off vs).get o=some (.cells (putAt c off vs) e m):=by
 obtain⟨h',hw,hg'⟩:=writeAt_mk hg hm hgd hl h1;unfold Hp.wr;rw[hw];exact hg'
def Hp.Fresh (h:Hp):Prop:= ∀o,h.nx≤o→h.get o=none
structure Kp (n:Nat)(h h':Hp):Prop where
 get: ∀o,o<n→h'.get o=h.get o
 nx:h.nx≤h'.nx
 gd:h'.gd=h.gd
 fr:h.Fresh→h'.Fresh
theorem wr_none {h:Hp}{o off:Nat}{vs:List Value}(hg:h.get o=none):h.wr o off vs=h:=by
 unfold Hp.wr writeAt;rw[hg]
theorem Hp.Fresh.add {h:Hp}(f:h.Fresh)(x:Ob):(h.add x).Fresh:=fun o ho=>by rw[nx_add]at ho;rw[get_add_ne (by omega)];exact f o (by omega)
theorem Hp.Fresh.wr {h:Hp}(f:h.Fresh)(o off:Nat)(vs:List Value):(h.wr o off vs).Fresh:=fun q hq=>by
 rw[nx_wr]at hq;by_cases hqo:q=o
 · subst hqo;rw[wr_none (f q hq)];exact f q hq
 · rw[wr_get_ne _ _ _ _ hqo];exact f q hq
theorem Hp.Fresh.lay {h:Hp}(f:h.Fresh){k:Nat}(hk:k<h.nx)(x:Ob):(h.lay k x).Fresh:=fun q hq=>by
 rw[nx_lay]at hq;rw[get_lay,if_neg (by omega)];exact f q hq
theorem Kp.refl (n:Nat)(h:Hp):Kp n h h:=⟨fun _ _=>rfl,Nat.le_refl _,rfl,id⟩
theorem Kp.trans {n:Nat}{h h' h'':Hp}(a:Kp n h h')(b:Kp n h' h''):Kp n h h'':=⟨fun o ho=>(b.get o ho).trans (a.get o ho),Nat.le_trans a.nx b.nx,b.gd.trans a.gd,fun f=>b.fr (a.fr f)⟩
theorem Kp.le {n m:Nat}{h h':Hp}(a:Kp n h h')(hm:m≤n):Kp m h h':=⟨fun o ho=>a.get o (Nat.lt_of_lt_of_le ho hm),a.nx,a.gd,a.fr⟩
theorem Kp.add {n:Nat}{h h':Hp}(a:Kp n h h')(hn:n≤h'.nx)(x:Ob):Kp n h (h'.add x):=⟨fun o ho=>by rw[get_add_ne (by omega)];exact a.get o ho,by rw[nx_add];have:=a.nx;omega,a.gd,fun f=>(a.fr f).add x⟩
theorem Kp.wr {n:Nat}{h h':Hp}(a:Kp n h h'){o:Nat}(ho:n≤o)(off:Nat)(vs:List Value):Kp n h (h'.wr o off vs):=
 ⟨fun q hq=>by rw[wr_get_ne _ _ _ _ (by omega)];exact a.get q hq,by rw[nx_wr];exact a.nx,by rw[gd_wr];exact a.gd,fun f=>(a.fr f).wr o off vs⟩
theorem Kp.rsv {n:Nat}{h h':Hp}(a:Kp n h h')(k:Nat):Kp n h (h'.rsv k):=⟨a.get,by rw[nx_rsv];have:=a.nx;omega,a.gd,fun f o ho=>a.fr f o (by rw[nx_rsv]at ho;omega)⟩
theorem Kp.lay {n:Nat}{h h':Hp}(a:Kp n h h'){k:Nat}(hk:n≤k)(hk2:k<h'.nx)(x:Ob):Kp n h (h'.lay k x):=⟨fun q hq=>by rw[get_lay,if_neg (by omega)];exact a.get q hq,a.nx,a.gd,fun f=>(a.fr f).lay hk2 x⟩
theorem free_t {h:Hp}{k:Nat}(hk:h.get k=none):h.free k=true:=by unfold Hp.free;rw[hk];rfl
abbrev Enc (α:Type):=Hp→α→List Value→Prop
def SlAt {α:Type}(w:Nat)(R:Enc α)(h:Hp)(a:Option Addr)(n:Nat)(xs:List α):Prop:=
 n=xs.length∧((xs=[]∧a=none)∨ ∃b off c e m,a=some ⟨b,off,none⟩∧b<h.nx∧h.get b=some (.cells c e m)∧off+xs.length*w≤c.length∧ ∀i (hi:i<xs.length),R h xs[i] ((c.drop (off+i*w)).take w))
theorem SlAt.read {α:Type}{w:Nat}{R:Enc α}{h:Hp}{a:Option Addr}{n:Nat}{xs:List α}(H:SlAt w R h a n xs){k:Nat}(hk:k<xs.length){K:Nat→Nat→Prop}
 (hK: ∀b off vs,a=some ⟨b,off,none⟩→b<h.nx→readAt h b (off+k*w) w=some vs→R h xs[k] vs→K b off):isAddr a K:=by
 rcases H.2 with ⟨rfl,_⟩|⟨b,off,c,e,m,rfl,h2,h3,h4,h5⟩
 · simp at hk
 · refine hK b off _ rfl h2 (readAt_get h3 ?_) (h5 k hk);have:(k+1)*w≤xs.length*w:=Nat.mul_le_mul_right w hk;rw[Nat.add_mul]at this;omega
theorem SlAt.keep {α:Type}{w:Nat}{R:Enc α}{h h':Hp}{a:Option Addr}{n:Nat}{xs:List α}(H:SlAt w R h a n xs)(hk: ∀b off,a=some ⟨b,off,none⟩→h'.get b=h.get b)(hn:h.nx≤h'.nx)(hR: ∀x vs,R h x vs→R h' x vs):SlAt w R h' a n xs:=by
 refine⟨H.1,H.2.imp id ?_⟩;rintro⟨b,off,c,e,m,h1,h2,h3,h4,h5⟩;exact⟨b,off,c,e,m,h1,Nat.lt_of_lt_of_le h2 hn,by rw[hk b off h1];exact h3,h4,fun i hi=>hR _ _ (h5 i hi)⟩
theorem SlAt.nil {α:Type}(w:Nat)(R:Enc α)(h:Hp):SlAt w R h none 0 ([]:List α):=⟨rfl,.inl ⟨rfl,rfl⟩⟩
def EInt:Enc Int:=fun _ x vs=>vs=[.int .i64 x]
def EBool:Enc Bool:=fun _ x vs=>vs=[.bool x]
abbrev IntsAt:=SlAt 1 EInt
abbrev BoolsAt:=SlAt 1 EBool
def EInts:Enc (List Int):=fun h ys vs=> ∃a n c,vs=[.slice a n c]∧IntsAt h a n ys
theorem IntsAt.get {h:Hp}{a:Option Addr}{n:Nat}{xs:List Int}(H:IntsAt h a n xs){k:Nat}(hk:k<xs.length){K:Nat→Nat→Prop}
 (hK: ∀b off,a=some ⟨b,off,none⟩→b<h.nx→readAt h b (off+k*1) 1=some [.int .i64 xs[k]]→K b off):isAddr a K:=
 SlAt.read H hk fun b off vs h1 h2 h3 h4=>hK b off h1 h2 (by rw[h3,show vs=_ from h4])
structure AppT (P:Program)(sT e:TypeId)(esz bytes:Nat):Prop where
 und:P.underlying sT=some (.slice e)
 ok:(match P.info? e with
  |some info=>match info.zero with
   |some z=>Nat.beq info.size esz&&Nat.beq info.bytes bytes&&(!(Nat.beq info.size 0)&&Nat.beq z.cells.size info.size&&z.cells.toList.all (fun v=>flat v&&one v))
   |none=>false
  |none=>false)=true
theorem AppT.run {P:Program}{sT e:TypeId}{esz bytes:Nat}(T:AppT P sT e esz bytes):0<esz∧ ∃info z,P.info? e=some info∧info.zero=some z∧ ∀(h:Hp) (s x:Value),(∃a n c,x= .slice a n c)→appendV P h sT sT s x=((srcCells h esz x).bind fun r=>bif r.1.all one then (bif Nat.beq r.2 0 then appNone h s else appSome h e bytes esz s r.1 r.2)else none):=by
 have ok:=T.ok;split at ok
 · rename_i info hi;split at ok
   · rename_i z hz;rw[Bool.and_eq_true,Bool.and_eq_true]at ok;obtain⟨⟨h1,h2⟩,h3⟩:=ok;have h1:=Nat.eq_of_beq_eq_true h1;have h2:=Nat.eq_of_beq_eq_true h2;refine⟨?_,info,z,hi,hz,?_⟩
     · rw[Bool.and_eq_true,Bool.and_eq_true]at h3;have:=h3.1.1;rw[Bool.not_eq_true']at this;rcases Nat.eq_zero_or_pos esz with h0|h0
       · rw[h1,h0]at this;cases this
       · exact h0
     · rintro h s x ⟨a,n,c,rfl⟩;unfold appendV;have he:elemT P sT=some e:=by unfold elemT;rw[T.und]
       simp only[bind,he,hi,hz,Option.bind_some,need,h3,cond_true];have:appSrc P h info z sT (.slice a n c)=srcCells h esz (.slice a n c):=by
        unfold appSrc;rw[T.und];simp only[h1]
       rw[this];cases srcCells h esz (.slice a n c)with
       |none=>rfl
       |some r=>
        simp only[Option.bind_some];cases r.1.all one with
        |true=>rw[h1,h2];rfl
        |false=>rfl
   · cases ok
 · cases ok
def Acc (h:Hp)(base:Nat)(e:TypeId)(esz:Nat)(a:Option Addr)(n c:Nat)(xs:List Value):Prop:=
 (a=none∧n=0∧c=0∧xs=[])∨ ∃o,a=some ⟨o,0,none⟩∧c=unk∧n*esz=xs.length∧base≤o∧o<h.nx∧h.get o=some (.cells xs e .grow)
theorem Acc.nil (h:Hp)(base:Nat)(e:TypeId)(esz:Nat):Acc h base e esz none 0 0 []:= .inl ⟨rfl,rfl,rfl,rfl⟩
theorem Acc.keep {h h':Hp}{base:Nat}{e:TypeId}{esz:Nat}{a:Option Addr}{n c:Nat}{xs:List Value}(H:Acc h base e esz a n c xs)(hk: ∀o,o<h.nx→a=some ⟨o,0,none⟩→h'.get o=h.get o)(hn:h.nx≤h'.nx):Acc h' base e esz a n c xs:=
 H.imp id fun⟨o,h1,h2,h3,h4,h5,h6⟩=>⟨o,h1,h2,h3,h4,Nat.lt_of_lt_of_le h5 hn,by rw[hk o h5 h1];exact h6⟩
theorem Acc.fresh {h:Hp}{base:Nat}{e:TypeId}{esz:Nat}{a:Option Addr}{n c:Nat}{xs:List Value}(H:Acc h base e esz a n c xs){b off:Nat}(ha:a=some ⟨b,off,none⟩):base≤b:=by
 rcases H with ⟨rfl,_⟩|⟨o,rfl,_,_,h4,_⟩
 · cases ha
 · injection ha with ha;injection ha with ha _;omega
structure Hp.Ok (h:Hp):Prop where
 gd: ∀q∈h.gd,q<h.nx
 fr:h.Fresh
theorem Hp.Ok.kp {h h':Hp}{n:Nat}(k:h.Ok)(p:Kp n h h'):h'.Ok:=⟨fun q hq=>by rw[p.gd]at hq;exact Nat.lt_of_lt_of_le (k.gd q hq) p.nx,p.fr k.fr⟩
theorem Hp.Ok.rsv {h:Hp}(k:h.Ok)(n:Nat):(h.rsv n).Ok:=k.kp ((Kp.refl 0 h).rsv n)
theorem Hp.Ok.add {h:Hp}(k:h.Ok)(x:Ob):(h.add x).Ok:=k.kp ((Kp.refl 0 h).add (Nat.zero_le _) x)
theorem Hp.Ok.wr {h:Hp}(k:h.Ok)(o off:Nat)(vs:List Value):(h.wr o off vs).Ok:=k.kp ((Kp.refl 0 h).wr (Nat.zero_le _) off vs)
theorem Hp.Ok.grd {h:Hp}(k:h.Ok){g:List Nat}(hg: ∀q∈g,q<h.nx):(h.grd g).Ok:=⟨fun q hq=>(List.mem_append.1 hq).elim (hg q) (k.gd q),k.fr⟩
theorem guarded_of {h:Hp}{o:Nat}(hg: ∀q∈h.gd,q≠o):h.guarded o=false:=by
 unfold Hp.guarded;rw[List.any_eq_false];intro q hq hb;exact hg q hq (Nat.eq_of_beq_eq_true hb).symm
def GdLt (h:Hp)(base:Nat):Prop:= ∀q∈h.gd,q<base
theorem GdLt.free {h:Hp}{base o:Nat}(g:GdLt h base)(ho:base≤o):h.guarded o=false:=guarded_of fun q hq=>by have:=g q hq;omega
theorem GdLt.kp {h h':Hp}{n base:Nat}(g:GdLt h base)(p:Kp n h h'):GdLt h' base:=fun q hq=>by rw[p.gd]at hq;exact g q hq
theorem Hp.Ok.lt {h:Hp}(k:h.Ok):GdLt h h.nx:=k.gd
theorem src_get {h:Hp}{b off n c:Nat}{esz:Nat}{cs:List Value}(hr:readAt h b off (n*esz)=some cs):srcCells h esz (.slice (some ⟨b,off,none⟩) n c)=some (cs,n):=by
 show(readAt h b off (n*esz)).map (fun l=>(l,n))=_;rw[hr];rfl
theorem append_acc {P:Program}{sT e:TypeId}{esz bytes:Nat}(T:AppT P sT e esz bytes){h:Hp}{base:Nat}{a:Option Addr}{n c:Nat}{xs:List Value}(H:Acc h base e esz a n c xs)(hb:base≤h.nx)(hg:GdLt h base)
 {x:Value} {ys:List Value} {k:Nat} (hx: ∃a n c,x= .slice a n c) (hs:srcCells h esz x=some (ys,k)) (hk:ys.length=k*esz) (h1:ys.all one=true) (hB:(n+k+(n+k))*bytes≤281474976710656) (hU:n+k<big):
 ∃a' n' c' h',appendV P h sT sT (.slice a n c) x=some (.slice a' n' c',h')∧Acc h' base e esz a' n' c' (xs++ys)∧n'=n+k∧h.nx≤h'.nx∧h'.gd=h.gd∧(h.Fresh→h'.Fresh)∧ ∀q,q<h.nx→a≠some ⟨q,0,none⟩→h'.get q=h.get q:=by
 obtain⟨hz,info,z,hi,hzz,hrun⟩:=T.run;rw[hrun h _ x hx,hs];simp only[Option.bind_some,h1,cond_true];rcases Nat.eq_zero_or_pos k with rfl|hkp
 · have:ys=[]:=List.length_eq_zero_iff.1 (by omega);subst this;simp only[Nat.beq_refl,cond_true];rcases H with ⟨rfl,rfl,rfl,rfl⟩|⟨o,rfl,rfl,h3,h4,h5,h6⟩
   · exact⟨none,0,0,h,rfl,.inl ⟨rfl,rfl,rfl,rfl⟩,rfl,Nat.le_refl _,rfl,id,fun _ _ _=>rfl⟩
   · refine⟨_,n,unk,h,?_,.inr ⟨o,rfl,rfl,by simpa using h3,h4,h5,by simpa using h6⟩,rfl,Nat.le_refl _,rfl,id,fun _ _ _=>rfl⟩;show(bif Nat.ble n unk then _ else _)=_;rw[ble_t (by have:big=4611686018427387904:=rfl;have:unk=18446744073709551616:=rfl;omega)];rfl
 · have hk0:Nat.beq k 0=false:=by rw[Bool.eq_false_iff];intro hh;have:=Nat.eq_of_beq_eq_true hh;omega
   simp only[hk0,cond_false];have new: ∀m old,m=n+k→appNew h e bytes old ys m=some (.slice (some ⟨h.nx,0,none⟩) m unk,h.add (.cells (old++ys) e .grow)):=by
    rintro m old rfl;unfold appNew;rw[ble_t hB,blt_t hU];rfl
   rcases H with ⟨rfl,rfl,rfl,rfl⟩|⟨o,rfl,rfl,h3,h4,h5,h6⟩
   · refine⟨_,k,unk,_,new k [] (by omega),.inr ⟨h.nx,rfl,rfl,by simp[hk],hb,by rw[nx_add];omega,get_add_same ..⟩,by omega,by rw[nx_add];omega,rfl,fun f=>f.add _,fun q hq _=>get_add_ne (by omega)⟩
   · have hcap:Nat.beq unk unk=true:=Nat.beq_refl _;have hee:Nat.beq e e=true:=Nat.beq_refl _;have e1:appSome h e bytes esz (.slice (some ⟨o,0,none⟩) n unk) ys k=((appNew h e bytes (xs.drop 0) ys (n+k)).bind fun r=>(r.2.put o none).map fun h'=>(r.1,h')):=by
      unfold appSome;have:Nat.ble (0+(n+k)*esz) xs.length=false:=by
       rw[Bool.eq_false_iff];intro hh;have hh:0+(n+k)*esz≤xs.length:=by simpa using hh
       have:0<k*esz:=Nat.mul_pos hkp hz;rw[Nat.add_mul]at hh;omega
      simp only[h6,hcap,hee,cond_true,isGrow,Bool.and_self,this,cond_false];rw[show Nat.beq (0+n*esz) xs.length=true by rw[Nat.beq_eq];omega];rfl
     rw[e1,new _ _ rfl,Option.bind_some];have gf:(h.add (.cells (xs.drop 0++ys) e .grow)).guarded o=false:=hg.free (h:=h) h4;have hput: ∃h',(h.add (.cells (xs.drop 0++ys) e .grow)).put o none=some h':=by
      unfold Hp.put;rw[gf];exact⟨_,rfl⟩
     obtain⟨h',hp⟩:=hput;obtain⟨p1,p2,p3,p4⟩:=Hp.get_put hp;have p4: ∀q,h'.get q=if q=o then none else (h.add (.cells (xs.drop 0++ys) e .grow)).get q:=p4
     simp only[hp,Option.map_some];refine⟨_,n+k,unk,h',rfl,.inr ⟨h.nx,rfl,rfl,by simp[hk,Nat.add_mul,h3],hb,by rw[p1,nx_add];omega,?_⟩,rfl,by rw[p1,nx_add];omega,p2,fun f q hq=> ?_,fun q hq hne=> ?_⟩
     · rw[p4,if_neg (by omega),get_add_same];simp
     · rw[p1]at hq;rw[p4];split
       · rfl
       · exact(f.add _) q hq
     · rw[p4,if_neg (fun hh=>hne (by rw[hh])),get_add_ne (by omega)]
abbrev AccI (e:TypeId)(h:Hp)(base:Nat)(a:Option Addr)(n c:Nat)(xs:List Int):Prop:=Acc h base e 1 a n c (xs.map (Value.int .i64))
theorem AccI.nil (e:TypeId)(h:Hp)(base:Nat):AccI e h base none 0 0 []:=Acc.nil ..
theorem AccI.ints {e:TypeId}{h:Hp}{base:Nat}{a:Option Addr}{n c:Nat}{xs:List Int}(H:AccI e h base a n c xs):IntsAt h a n xs:=by
 rcases H with ⟨rfl,rfl,rfl,h4⟩|⟨o,rfl,rfl,h3,h4,h5,h6⟩
 · have:xs=[]:=by simpa using h4
   subst this;exact SlAt.nil ..
 · refine⟨by simpa using h3,.inr ⟨o,0,_,_,_,rfl,h5,h6,by simp,fun i hi=> ?_⟩⟩;show((xs.map (Value.int .i64)).drop (0+i*1)).take 1=[.int .i64 xs[i]];rw[Nat.zero_add,Nat.mul_one,List.drop_eq_getElem_cons (by simpa using hi)];simp
structure AppK (h h':Hp)(a:Option Addr):Prop where
 nx:h.nx≤h'.nx
 gd:h'.gd=h.gd
 fr:h.Fresh→h'.Fresh
 get: ∀q,q<h.nx→a≠some ⟨q,0,none⟩→h'.get q=h.get q
theorem AppK.kp {h h':Hp}{base:Nat}{e:TypeId}{esz:Nat}{a:Option Addr}{n c:Nat}{xs:List Value}(k:AppK h h' a)(H:Acc h base e esz a n c xs)(hb:base≤h.nx):Kp base h h':=
 ⟨fun q hq=>k.get q (by omega) fun hh=>by
  rcases H with ⟨rfl,_⟩|⟨o,rfl,_,_,h4,_⟩
  · cases hh
  · injection hh with hh;injection hh with hh;omega,k.nx,k.gd,k.fr⟩
theorem app_int {P:Program}{sT e:TypeId}(T:AppT P sT e 1 8){h:Hp}{base:Nat}{a:Option Addr}{n c:Nat}{xs:List Int}(H:AccI e h base a n c xs)(hb:base≤h.nx)(hg:GdLt h base)(hl:xs.length<1000000000)(x:Int):
 ∃a' n' c' h',appendV P (h.add (.cells [.int .i64 x] e .fix)) sT sT (.slice a n c) (.slice (some ⟨h.nx,0,none⟩) 1 1)=some (.slice a' n' c',h')∧AccI e h' base a' n' c' (xs++[x])∧AppK h h' a:=by
 have hn:n=xs.length:=H.ints.1;have H':AccI e (h.add (.cells [.int .i64 x] e .fix)) base a n c xs:=H.keep (fun o ho _=>get_add_ne (by omega)) (by rw[nx_add];omega);obtain⟨a',n',c',h',h1,h2,_,h4,h5,hf,h6⟩:=append_acc T H' (by rw[nx_add];omega) hg ⟨_,_,_,rfl⟩ (src_get (n:=1) (c:=1) (esz:=1) (off:=0) (read1 (i:=0) (v:= .int .i64 x) (get_add_same ..) rfl)) rfl rfl (by omega) (by unfold big;omega);refine⟨a',n',c',h',h1,by unfold AccI;rw[List.map_append];exact h2,by rw[nx_add]at h4;omega,h5,fun f=>hf (f.add _),fun q hq hne=> ?_⟩;rw[h6 q (by rw[nx_add];omega) hne,get_add_ne (by omega)]
def ECells {α:Type}(enc:α→List Value):Enc α:=fun _ x vs=>vs=enc x
theorem flatMap_length {α:Type}{enc:α→List Value}{w:Nat}(hw: ∀x,(enc x).length=w): ∀(xs:List α),(xs.flatMap enc).length=xs.length*w:=by
 intro xs
 induction xs with
 |nil=>simp
 |cons x xs ih=>rw[List.flatMap_cons,List.length_append,ih,hw,List.length_cons,Nat.add_mul];omega
theorem flatMap_part {α:Type}{enc:α→List Value}{w:Nat}(hw: ∀x,(enc x).length=w): ∀(xs:List α) (i:Nat) (hi:i<xs.length),((xs.flatMap enc).drop (i*w)).take w=enc xs[i]:=by
 intro xs
 induction xs with
 |nil=>intro i hi;simp at hi
 |cons x xs ih=>
  intro i hi;rw[List.flatMap_cons];cases i with
  |zero=>rw[Nat.zero_mul,List.drop_zero,←hw x,List.take_left];rfl
  |succ i=>
   rw[List.drop_append,List.drop_of_length_le (by rw[hw,Nat.add_mul];omega),List.nil_append,hw,show(i+1)*w-w=i*w by rw[Nat.add_mul];omega];exact ih i (by simpa using hi)
theorem Acc.slAt {α:Type}{enc:α→List Value}{w:Nat}(hw: ∀x,(enc x).length=w)(hw0:0<w){h:Hp}{base:Nat}{e:TypeId}{a:Option Addr}{n c:Nat}{xs:List α}(H:Acc h base e w a n c (xs.flatMap enc)):SlAt w (ECells enc) h a n xs:=by
 rcases H with ⟨rfl,rfl,rfl,h4⟩|⟨o,rfl,rfl,h3,h4,h5,h6⟩
 · have hl:=flatMap_length hw xs;rw[h4]at hl;have:xs.length=0:=by
    rcases Nat.eq_zero_or_pos xs.length with h|h
    · exact h
    · have:=Nat.mul_pos h hw0;simp at hl;omega
   have:xs=[]:=List.length_eq_zero_iff.1 this;subst this;exact SlAt.nil ..
 · rw[flatMap_length hw]at h3;have hn:n=xs.length:=Nat.eq_of_mul_eq_mul_right hw0 h3;refine⟨hn,.inr ⟨o,0,_,_,_,rfl,h5,h6,by rw[flatMap_length hw];omega,fun i hi=> ?_⟩⟩;show((xs.flatMap enc).drop (0+i*w)).take w=enc xs[i];rw[Nat.zero_add];exact flatMap_part hw xs i hi
theorem app_enc {α:Type}{enc:α→List Value}{w:Nat}(hw: ∀x,(enc x).length=w)(h1: ∀x,(enc x).all one=true){P:Program}{sT e:TypeId}{bytes:Nat}(T:AppT P sT e w bytes){h:Hp}{base:Nat}{a:Option Addr}{n c:Nat}{xs:List α}(H:Acc h base e w a n c (xs.flatMap enc))(hb:base≤h.nx)(hg:GdLt h base)
 {t c2:Nat} {m:Md} {e2:TypeId} {x:α} (src:h.get t=some (.cells (enc x) e2 m)) (hB:(n+1+(n+1))*bytes≤281474976710656) (hU:n+1<big):
 ∃a' n' c' h',appendV P h sT sT (.slice a n c) (.slice (some ⟨t,0,none⟩) 1 c2)=some (.slice a' n' c',h')∧Acc h' base e w a' n' c' ((xs++[x]).flatMap enc)∧n'=n+1∧AppK h h' a:=by
 have hrd:readAt h t 0 (1*w)=some (enc x):=by
  rw[readAt_get src (by rw[hw];omega),List.drop_zero,Nat.one_mul,←hw x,List.take_length]
 obtain⟨a',n',c',h',e1,A,en,k1,k2,k3,k4⟩:=append_acc T H hb hg ⟨_,_,_,rfl⟩ (src_get (n:=1) (c:=c2) (off:=0) hrd) (by rw[hw];omega) (h1 x) hB hU;exact⟨a',n',c',h',e1,by rw[List.flatMap_append,List.flatMap_singleton];exact A,en,k1,k2,k3,k4⟩
def AccE (h:Hp)(base:Nat)(e:TypeId)(esz:Nat)(a:Option Addr)(n c:Nat)(xs:List Value):Prop:=
 Acc h base e esz a n c xs∨(xs=[]∧n=0∧c=0∧ ∃o,a=some ⟨o,0,none⟩∧base≤o∧o<h.nx∧ ∃e2 m,h.get o=some (.cells [] e2 m))
theorem AccE.keep {h h':Hp}{base:Nat}{e:TypeId}{esz:Nat}{a:Option Addr}{n c:Nat}{xs:List Value}(H:AccE h base e esz a n c xs)(hk: ∀o,o<h.nx→a=some ⟨o,0,none⟩→h'.get o=h.get o)(hn:h.nx≤h'.nx):AccE h' base e esz a n c xs:=
 H.imp (fun H=>H.keep hk hn) fun⟨h1,h2,h3,o,h4,h5,h6,e2,m,h7⟩=>⟨h1,h2,h3,o,h4,h5,Nat.lt_of_lt_of_le h6 hn,e2,m,by rw[hk o h6 h4];exact h7⟩
theorem AccE.lt {h:Hp}{base:Nat}{e:TypeId}{esz:Nat}{a:Option Addr}{n c:Nat}{xs:List Value}(H:AccE h base e esz a n c xs){o:Nat}(ha:a=some ⟨o,0,none⟩):base≤o∧o<h.nx:=by
 rcases H with (⟨h1,_⟩|⟨q,h1,_,_,h2,h3,_⟩)|⟨_,_,_,q,h1,h2,h3,_⟩
 · rw[h1]at ha;cases ha
 · rw[h1]at ha;injection ha with ha;injection ha with ha;subst ha;exact⟨h2,h3⟩
 · rw[h1]at ha;injection ha with ha;injection ha with ha;subst ha;exact⟨h2,h3⟩
theorem append_accE {P:Program}{sT e:TypeId}{esz bytes:Nat}(T:AppT P sT e esz bytes){h:Hp}{base:Nat}{a:Option Addr}{n c:Nat}{xs:List Value}(H:AccE h base e esz a n c xs)(hb:base≤h.nx)(hg:GdLt h base)
 {x:Value} {ys:List Value} {k:Nat} (hx: ∃a n c,x= .slice a n c) (hs:srcCells h esz x=some (ys,k)) (hk:ys.length=k*esz) (h1:ys.all one=true) (hB:(n+k+(n+k))*bytes≤281474976710656) (hU:n+k<big):
 ∃a' n' c' h',appendV P h sT sT (.slice a n c) x=some (.slice a' n' c',h')∧AccE h' base e esz a' n' c' (xs++ys)∧n'=n+k∧AppK h h' a:=by
 rcases H with H|⟨rfl,rfl,rfl,o,rfl,h2,h3,e2,m,h4⟩
 · obtain⟨a',n',c',h',e1,A,en,k1,k2,k3,k4⟩:=append_acc T H hb hg hx hs hk h1 hB hU;exact⟨a',n',c',h',e1,.inl A,en,k1,k2,k3,k4⟩
 · obtain⟨hz,info,z,hi,hzz,hrun⟩:=T.run;rw[hrun h _ x hx,hs];simp only[Option.bind_some,h1,cond_true];rcases Nat.eq_zero_or_pos k with rfl|hkp
   · have:ys=[]:=List.length_eq_zero_iff.1 (by omega);subst this;simp only[Nat.beq_refl,cond_true];exact⟨_,0,0,h,rfl,.inr ⟨rfl,rfl,rfl,o,rfl,h2,h3,e2,m,h4⟩,rfl,Nat.le_refl _,rfl,id,fun _ _ _=>rfl⟩
   · have hk0:Nat.beq k 0=false:=by rw[Bool.eq_false_iff];intro hh;have:=Nat.eq_of_beq_eq_true hh;omega
     simp only[hk0,cond_false];have e1:appSome h e bytes esz (.slice (some ⟨o,0,none⟩) 0 0) ys k=some (.slice (some ⟨h.nx,0,none⟩) k unk,h.add (.cells ([]++ys) e .grow)):=by
      unfold appSome;have e3:Nat.beq 0 unk=false:=by
       rw[Bool.eq_false_iff];intro hh;have:=Nat.eq_of_beq_eq_true hh;have:unk=18446744073709551616:=rfl;omega
      have e4:Nat.ble (0+k) 0=false:=by rw[Bool.eq_false_iff];intro hh;have:0+k≤0:=by simpa using hh
                                        omega
      have e5:readAt h o 0 (0*esz)=some []:=by rw[Nat.zero_mul,readAt_get h4 (by simp)];rfl
      simp only[h4,e3,e4,e5,cond_false,Option.bind_some];unfold appNew;rw[Nat.zero_add]at hB hU ⊢;rw[ble_t hB,blt_t hU];rfl
     rw[e1];exact⟨_,k,unk,_,rfl,.inl (.inr ⟨h.nx,rfl,rfl,by simp[hk],hb,by rw[nx_add];omega,get_add_same ..⟩),by omega,by rw[nx_add];omega,rfl,fun f=>f.add _,fun q hq _=>get_add_ne (by omega)⟩
def digits (n u:Nat):List Nat:=(List.range n).filter fun i=>u.testBit i
class Ft (h h':Hp):Prop where
 get: ∀o,o<h.nx→h'.get o=h.get o
 nx:h.nx≤h'.nx
class Nw (b:Nat) (g:Hp):Prop where
 ge:g.nx≤b
instance (h:Hp):Ft h h:=⟨fun _ _=>rfl,Nat.le_refl _⟩
instance (g h:Hp)(x:Ob) [k:Ft g h]:Ft g (h.add x):=⟨fun o ho=>by have:=k.nx;rw[get_add_ne (by omega)];exact k.get o ho,by have:=k.nx;rw[nx_add];omega⟩
instance (g h:Hp)(n:Nat) [k:Ft g h]:Ft g (h.rsv n):=⟨k.get,Nat.le_trans k.nx (Nat.le_add_right ..)⟩
instance (g h:Hp)(l:List Nat) [k:Ft g h]:Ft g (h.grd l):=⟨k.get,k.nx⟩
instance (g h h':Hp) [k:Ft g h]:Ft g (h.rst h'):=⟨k.get,k.nx⟩
instance (g h:Hp) [k:Ft g h]:Nw h.nx g:=⟨k.nx⟩
instance (g:Hp)(n m:Nat) [k:Nw n g]:Nw (n+m) g:=⟨Nat.le_trans k.ge (Nat.le_add_right ..)⟩
instance (g h:Hp)(b off:Nat)(vs:List Value) [k:Ft g h] [q:Nw b g]:Ft g (h.wr b off vs):=⟨fun o ho=>by have:=q.ge;rw[wr_get_ne _ _ _ _ (by omega)];exact k.get o ho,by rw[nx_wr];exact k.nx⟩
instance (g h:Hp)(b:Nat)(x:Ob) [k:Ft g h] [q:Nw b g]:Ft g (h.lay b x):=⟨fun o ho=>by have:=q.ge;rw[get_lay,if_neg (by omega)];exact k.get o ho,k.nx⟩
theorem Kp.ex {n:Nat}{h h':Hp}(k:Kp n h h')(hn:h.nx≤n):Ft h h':=⟨fun o ho=>k.get o (by omega),k.nx⟩
theorem Ft.tr {g h h':Hp}(a:Ft g h)(b:Ft h h'):Ft g h':=⟨fun o ho=>(b.get o (Nat.lt_of_lt_of_le ho a.nx)).trans (a.get o ho),Nat.le_trans a.nx b.nx⟩
class EUp {α:Type} (R:Enc α):Prop where
 up: ∀(h h':Hp) x vs,Ft h h'→R h x vs→R h' x vs
instance:EUp EInt:=⟨fun _ _ _ _ _ h=>h⟩
instance:EUp EBool:=⟨fun _ _ _ _ _ h=>h⟩
instance {α:Type}(enc:α→List Value):EUp (ECells enc):=⟨fun _ _ _ _ _ h=>h⟩
theorem SlAt.to {α:Type}{w:Nat}{R:Enc α} [hR:EUp R] {h:Hp}(h':Hp) [k:Ft h h'] {a:Option Addr}{n:Nat}{xs:List α}(H:SlAt w R h a n xs):SlAt w R h' a n xs:=by
 refine⟨H.1,H.2.imp id ?_⟩;rintro⟨b,off,c,e,m,h1,h2,h3,h4,h5⟩;exact⟨b,off,c,e,m,h1,Nat.lt_of_lt_of_le h2 k.nx,by rw[k.get b h2];exact h3,h4,fun i hi=>hR.up _ _ _ _ k (h5 i hi)⟩
instance:EUp EInts:=⟨fun _ h' _ _ _ ⟨a,n,c,h1,h2⟩=>⟨a,n,c,h1,h2.to h'⟩⟩
theorem readAt_ex {g h:Hp} [k:Ft g h] {b off n:Nat}(hb:b<g.nx):readAt h b off n=readAt g b off n:=by
 unfold readAt;rw[k.get b hb]
theorem isNat_i {n:Nat}{K:Nat→Prop}(h:K n):isNat (Int.ofNat n) K:=h
theorem IntsAt.rd {g h:Hp}{a:Option Addr}{n:Nat}{xs:List Int}(H:IntsAt g a n xs) [Ft g h] {k:Nat}(hk:k<xs.length){K:Int→Prop}(next:K xs[k]):
 isAddr a fun b off=>vreq (Nat.blt k n) (∃x,readAt h b (off+k*1) 1=some [.int .i64 x]∧K x):=
 IntsAt.get H hk fun _ _ _ hb hr=>vreq_t (blt_t (by rw[H.1];exact hk)) ⟨_,by rw[readAt_ex (g:=g) hb];exact hr,next⟩
theorem BoolsAt.rd {g h:Hp}{a:Option Addr}{n:Nat}{xs:List Bool}(H:BoolsAt g a n xs) [Ft g h] {k:Nat}(hk:k<xs.length){K:Bool→Prop}(next:K xs[k]):
 isAddr a fun b off=>vreq (Nat.blt k n) (∃x,readAt h b (off+k*1) 1=some [.bool x]∧K x):=
 SlAt.read H hk fun _ _ _ _ hb hr e=>vreq_t (blt_t (by rw[H.1];exact hk)) ⟨_,by rw[readAt_ex (g:=g) hb,hr,show _=_ from e],next⟩
theorem IntsAt.src {h:Hp}{a2:Option Addr}{n2 c2:Nat}{ys:List Int}(Y:IntsAt h a2 n2 ys):srcCells h 1 (.slice a2 n2 c2)=some (ys.map (Value.int .i64),n2):=by
 have hn2:=Y.1;rcases Y.2 with ⟨rfl,rfl⟩|⟨b,off,cs,e',m,rfl,h2,h3,h4,h5⟩
 · subst hn2;rfl
 · refine src_get ?_;rw[Nat.mul_one,readAt_get h3 (by omega)];congr 1;refine List.ext_getElem (by simp;omega) fun i hi hi'=> ?_;have hi2:i<ys.length:=by simpa using hi'
   have h7:(cs.drop (off+i*1)).take 1=[.int .i64 ys[i]]:=h5 i hi2;rw[Nat.mul_one,List.drop_eq_getElem_cons (show off+i<cs.length by omega)]at h7;simp only[List.take_succ_cons,List.take_zero,List.cons.injEq,and_true]at h7;simp[h7]
section
variable {P:Program}{O:CallF}{f:FuncId}{az:List Value}{h:Hp}
theorem Ret.b1 {x:Bool}{R:Hp→Prop}(r:Ret P O f az h fun v h'=>v= .bool x∧R h'){K:Bool→Hp→Prop}(next: ∀h',R h'→K x h'): ∃x,∃h',EvC P O f az h (.bool x) h'∧K x h':=
 let ⟨_,h',e,hv,q⟩:=r;⟨x,h',hv▸e,next h' q⟩
theorem Ret.s {R:Option Addr→Nat→Nat→Hp→Prop}(r:Ret P O f az h fun v h'=> ∃a n c,v= .slice a n c∧R a n c h'){K:Option Addr→Nat→Nat→Hp→Prop}(next: ∀a n c h',R a n c h'→K a n c h'): ∃a n c,∃h',EvC P O f az h (.slice a n c) h'∧K a n c h':=
 let ⟨_,h',e,a,n,c,hv,q⟩:=r;⟨a,n,c,h',hv▸e,next a n c h' q⟩
theorem Ret.si {R:Option Addr→Nat→Nat→Int→Hp→Prop}(r:Ret P O f az h fun v h'=> ∃a n c x,v= .tuple #[.slice a n c,.int .i64 x]∧R a n c x h'){K:Option Addr→Nat→Nat→Int→Hp→Prop}(next: ∀a n c x h',R a n c x h'→K a n c x h'): ∃a n c,∃x,∃h',EvC P O f az h (.tuple #[.slice a n c,.int .i64 x]) h'∧K a n c x h':=
 let ⟨_,h',e,a,n,c,x,hv,q⟩:=r;⟨a,n,c,x,h',hv▸e,next a n c x h' q⟩
end
theorem Acc.lt {h:Hp}{base:Nat}{e:TypeId}{esz:Nat}{a:Option Addr}{n c:Nat}{xs:List Value}(H:Acc h base e esz a n c xs){o:Nat}(ha:a=some ⟨o,0,none⟩):base≤o∧o<h.nx:=(AccE.lt (.inl H)) ha
theorem append_new {P:Program}{sT e:TypeId}{esz bytes:Nat}(T:AppT P sT e esz bytes){h:Hp}{base:Nat}{a:Option Addr}{n c:Nat}{xs:List Value}(H:Acc h base e esz a n c xs)
 {x:Value} {ys:List Value} {k:Nat} (hx: ∃a n c,x= .slice a n c) (hs:srcCells h esz x=some (ys,k)) (h1:ys.all one=true) (hkp:0<k) {a':Option Addr} {n' c':Nat} {h':Hp} (e1:appendV P h sT sT (.slice a n c) x=some (.slice a' n' c',h')):a'=some ⟨h.nx,0,none⟩:=by
 obtain⟨hz,info,z,hi,hzz,hrun⟩:=T.run;rw[hrun h _ x hx,hs]at e1;have hk0:Nat.beq k 0=false:=by rw[Bool.eq_false_iff];intro hh;have:=Nat.eq_of_beq_eq_true hh;omega
 simp only[Option.bind_some,h1,cond_true,hk0,cond_false]at e1;have new: ∀ {old:List Value} {m:Nat} {r:Value×Hp},appNew h e bytes old ys m=some r→r.1= .slice (some ⟨h.nx,0,none⟩) m unk:=by
  intro old m r hr;unfold appNew at hr;obtain⟨_,hr⟩:=cond_some hr;rw[←Option.some.inj hr]
 rcases H with ⟨rfl,rfl,rfl,rfl⟩|⟨o,rfl,rfl,h3,h4,h5,h6⟩
 · have:=new (show appNew h e bytes [] ys k=some (.slice a' n' c',h') from e1);injection this
 · have e2:appSome h e bytes esz (.slice (some ⟨o,0,none⟩) n unk) ys k=((appNew h e bytes (xs.drop 0) ys (n+k)).bind fun r=>(r.2.put o none).map fun h'=>(r.1,h')):=by
    unfold appSome;have hcap:Nat.beq unk unk=true:=Nat.beq_refl _;have hee:Nat.beq e e=true:=Nat.beq_refl _;have:Nat.ble (0+(n+k)*esz) xs.length=false:=by
     rw[Bool.eq_false_iff];intro hh;have hh:0+(n+k)*esz≤xs.length:=by simpa using hh
     have:0<k*esz:=Nat.mul_pos hkp hz;rw[Nat.add_mul]at hh;omega
    simp only[h6,hcap,hee,cond_true,isGrow,Bool.and_self,this,cond_false];rw[show Nat.beq (0+n*esz) xs.length=true by rw[Nat.beq_eq];omega];rfl
   rw[e2]at e1;obtain⟨r,h7,h8⟩:=Option.bind_eq_some_iff.1 e1;obtain⟨h9,_,h10⟩:=Option.map_eq_some_iff.1 h8;have:=new h7;rw[show r.1= .slice a' n' c' by injection h10]at this;injection this
theorem appR {α:Type}{enc:α→List Value}{w:Nat}(hw: ∀x,(enc x).length=w)(h1: ∀x,(enc x).all one=true){P:Program}{sT e:TypeId}{bytes:Nat}(T:AppT P sT e w bytes){h:Hp}{base:Nat}{a:Option Addr}{n c:Nat}{xs:List α}(A:Acc h base e w a n c (xs.flatMap enc))(hb:base≤h.nx)(hg:GdLt h base)
 {q:Nat} (hq:h.get q=none) (hq2:q<h.nx) (hqb:base≤q) {l:List Nat} (hlE: ∀i∈l,i<base)
 {x:α} (hB:(n+1+(n+1))*bytes≤281474976710656) (hU:n+1<big)
 {K:Option Addr→Nat→Nat→Hp→Prop} (next: ∀a' c' h',Acc (h'.rst (h.lay q (.cells (enc x) e .fix))) base e w a' (n+1) c' ((xs++[x]).flatMap enc)→(∀p,a'=some ⟨p,0,none⟩→h.nx≤p)→AppK (h.lay q (.cells (enc x) e .fix)) (h'.rst (h.lay q (.cells (enc x) e .fix))) a→Kp base h (h'.rst (h.lay q (.cells (enc x) e .fix)))→K a' (n+1) c' h'):
 vreq (h.free q) (let g:=h.lay q (.cells (enc x) e .fix); ∃a' n' c' h',appendV P (g.grd l) sT sT (.slice a n c) (.slice (some ⟨q,0,none⟩) 1 1)=some (.slice a' n' c',h')∧K a' n' c' h'):=by
 refine vreq_t (free_t hq) ?_;have aq: ∀off,a≠some ⟨q,off,none⟩:=fun off ha=>by
  rcases A with ⟨h0,_⟩|⟨o,h0,_,_,_,_,h6⟩
  · rw[h0]at ha;cases ha
  · rw[h0]at ha;injection ha with ha;injection ha with ha _;subst ha;rw[hq]at h6;cases h6
 have A1:Acc (h.lay q (.cells (enc x) e .fix)) base e w a n c (xs.flatMap enc):=A.keep (fun o _ ho=>by rw[get_lay,if_neg (show o≠q from fun hh=>aq 0 (by rw[←hh];exact ho))]) (Nat.le_refl _);have A2:Acc ((h.lay q (.cells (enc x) e .fix)).grd l) base e w a n c (xs.flatMap enc):=A1.keep (fun _ _ _=>rfl) (Nat.le_refl _);have g2:GdLt ((h.lay q (.cells (enc x) e .fix)).grd l) base:=fun i hi=>by
  rcases List.mem_append.1 hi with hi|hi
  · exact hlE i hi
  · exact hg i hi
 have src:((h.lay q (.cells (enc x) e .fix)).grd l).get q=some (.cells (enc x) e .fix):=by rw[get_grd,get_lay,if_pos rfl]
 obtain⟨a',n',c',h',e1,A',rfl,k⟩:=app_enc hw h1 T A2 hb g2 src hB hU (c2:=1);have k1:AppK (h.lay q (.cells (enc x) e .fix)) (h'.rst (h.lay q (.cells (enc x) e .fix))) a:=⟨k.nx,rfl,k.fr,k.get⟩;have k2:Kp base h (h'.rst (h.lay q (.cells (enc x) e .fix))):=(((Kp.refl base h).lay hqb hq2 _)).trans (k1.kp A1 hb);have fr:=append_new T A2 ⟨_,_,_,rfl⟩ (src_get (n:=1) (c:=1) (esz:=w) (off:=0) (cs:=enc x) (by rw[readAt_get src (by rw[hw];omega),List.drop_zero,Nat.one_mul,←hw x,List.take_length])) (h1 x) Nat.one_pos e1;exact⟨a',_,c',h',e1,next a' c' h' (A'.keep (fun _ _ _=>rfl) (Nat.le_refl _)) (fun p hp=>by rw[fr]at hp;injection hp with hp;injection hp with hp;exact Nat.le_of_eq hp) k1 k2⟩
end Go.Ev
namespace Go.Proofs.YtngcjpkccnfjiaaGreatDoor
open Go.Ev
def tab:List Value:=[1,4].map fun x=> .int .i64 x
noncomputable def h0:Hp:= { t:=Tr.set (Tr.full none 22) 0 (some (.cells tab 0 .ro)),nx:=2,gd:=[] }
def saysTrue (r:Option (Value×Hp)):Bool:=match r with|some (.bool b,_)=>b|_=>false
theorem gsz:Tryz.prog.globals.size=2:=by kernel_rfl
theorem mixed:Tryz.prog.follows .mixedOrders=true:=by kernel_rfl
theorem noNumB : (Tryz.prog.funcs.toList.all fun fn => !(fn.name == "runtime.NumGoroutine")) = true := by kernel_rfl
theorem noNum:NoNum Tryz.prog:=fun f fn hf=>by
 have:=List.all_eq_true.1 noNumB fn (by rw[←Array.getElem?_toList]at hf;exact List.mem_of_getElem? hf);simpa using this
theorem works_ev:saysTrue (evCall Tryz.prog 1000 100 14 [] h0)=true:=by kernel_rfl
end Go.Proofs.YtngcjpkccnfjiaaGreatDoor
namespace Go.Ev
open Go
theorem sc_get {w:World}{b o:Nat}{vs:List Value}{c:Array Value}{e:TypeId}{fr:Nat×Nat}(hb:w.heap[b]? =some (.cells c e fr))(hl:o+vs.length≤c.size):
 ∃c2,(w.setCells b o vs).heap[b]? =some (.cells c2 e fr)∧c2.size=c.size∧ ∀i,c2[i]? =if o≤i∧i<o+vs.length then vs[i-o]? else c[i]? :=by
 obtain⟨_,_,_,_,_,s6⟩:=setCells_facts b vs o w;obtain⟨c2,h1,h2,h3⟩:=s6 _ _ _ hb;exact⟨c2,h1,h2,h3 hl⟩
theorem ins_shift {w:World}{b p i n:Nat}{x:Value}{cs:List Value}{c:Array Value}{e:TypeId}{fr:Nat×Nat}(hb:w.heap[b]? =some (.cells c e fr))(hn:cs.length=n)(hi:i≤n)(hl:p+n+1≤c.size):
 ((w.drew.setCells b (p+(i+1)) (cs.drop i)).setCells b (p+i) [x]).heap=((w.setCells b (p+n) [x]).setCells b (p+i) (x::cs.drop i)).heap:=by
 have hdl:(cs.drop i).length=n-i:=by rw[List.length_drop,hn]
 have hbd:w.drew.heap[b]? =some (.cells c e fr):=hb;obtain⟨c1,a1,a2,a3⟩:=sc_get (o:=p+(i+1)) (vs:=cs.drop i) hbd (by omega);obtain⟨c2,b1,b2,b3⟩:=sc_get (o:=p+i) (vs:=[x]) a1 (by rw[a2];show p+i+1≤_;omega);obtain⟨c3,d1,d2,d3⟩:=sc_get (o:=p+n) (vs:=[x]) hb (by show p+n+1≤_;omega);obtain⟨c4,e1,e2,e3⟩:=sc_get (o:=p+i) (vs:=x::cs.drop i) d1 (by rw[d2,List.length_cons];omega);refine Array.ext_getElem? fun q=> ?_;by_cases hq:q=b
 · subst hq;rw[b1,e1];have:c2=c4:=by
    refine Array.ext_getElem? fun j=> ?_;rw[b3,e3,a3,d3];simp only[List.length_cons,List.length_nil,hdl];by_cases h1:j<p+i
    · rw[if_neg (by omega),if_neg (by omega),if_neg (by omega),if_neg (by omega)]
    · by_cases h2:j=p+i
      · subst h2;rw[if_pos (by omega),if_pos (by omega),Nat.sub_self];rfl
      · by_cases h3:j<p+n+1
        · rw[if_neg (by omega),if_pos (by omega),if_pos (by omega)];have:j-(p+i)=(j-(p+(i+1)))+1:=by omega
          rw[this,List.getElem?_cons_succ]
        · rw[if_neg (by omega),if_neg (by omega),if_neg (by omega),if_neg (by omega)]
   rw[this]
 · obtain⟨_,_,_,_,s5,_⟩:=setCells_facts b [x] (p+i) (w.drew.setCells b (p+(i+1)) (cs.drop i));obtain⟨_,_,_,_,t5,_⟩:=setCells_facts b (cs.drop i) (p+(i+1)) w.drew;obtain⟨_,_,_,_,u5,_⟩:=setCells_facts b (x::cs.drop i) (p+i) (w.setCells b (p+n) [x]);obtain⟨_,_,_,_,v5,_⟩:=setCells_facts b [x] (p+n) w;rw[s5 q hq,t5 q hq,u5 q hq,v5 q hq];rfl
theorem ins_end {w:World}{b p:Nat}{x:Value}{c:Array Value}{e:TypeId}{fr:Nat×Nat}(hb:w.heap[b]? =some (.cells c e fr))(hl:p+1≤c.size):
 (w.setCells b p [x]).heap=((w.setCells b p [x]).setCells b p [x]).heap:=by
 obtain⟨c3,d1,d2,d3⟩:=sc_get (o:=p) (vs:=[x]) hb hl;obtain⟨c4,e1,_,e3⟩:=sc_get (o:=p) (vs:=[x]) d1 (by rw[d2];exact hl);refine Array.ext_getElem? fun q=> ?_;by_cases hq:q=b
 · subst hq;rw[d1,e1];have:c3=c4:=by
    refine Array.ext_getElem? fun j=> ?_;rw[e3,d3];split
    · rfl
    · rfl
   rw[this]
 · obtain⟨_,_,_,_,u5,_⟩:=setCells_facts b [x] p (w.setCells b p [x]);rw[u5 q hq]
theorem ins_grow {w:World}{i n:Nat}{x:Value}{cs:List Value}{Z1 Z2:Array Value}{e:TypeId}(hn:cs.length=n)(hi:i≤n)(hz:Z1.size=n+1-i):
 (((w.alloc (.cells ((cs.take i).toArray++Z1++Z2) e)).drew.setCells w.heap.size i [x]).drew.setCells w.heap.size (i+1) (cs.drop i)).heap=((w.drew.alloc (.cells ((cs++[x]).toArray++Z2) e)).setCells w.heap.size i (x::cs.drop i)).heap:=by
 have hdl:(cs.drop i).length=n-i:=by rw[List.length_drop,hn]
 have htl:(cs.take i).length=i:=by rw[List.length_take,hn];omega
 have hA:(w.alloc (.cells ((cs.take i).toArray++Z1++Z2) e)).drew.heap[w.heap.size]? =some (.cells ((cs.take i).toArray++Z1++Z2) e (0,0)):=by
  show(w.alloc _).heap[w.heap.size]? =_;rw[alloc_get,if_pos rfl]
 have hB:(w.drew.alloc (.cells ((cs++[x]).toArray++Z2) e)).heap[w.heap.size]? =some (.cells ((cs++[x]).toArray++Z2) e (0,0)):=by
  rw[alloc_get];exact if_pos rfl
 have sA:((cs.take i).toArray++Z1++Z2).size=n+1+Z2.size:=by simp only[Array.size_append,List.size_toArray,htl,hz];omega
 have sB:((cs++[x]).toArray++Z2).size=n+1+Z2.size:=by simp only[Array.size_append,List.size_toArray,List.length_append,hn,List.length_cons,List.length_nil]
 obtain⟨c1,a1,a2,a3⟩:=sc_get (o:=i) (vs:=[x]) hA (by rw[sA];show i+1≤_;omega);have a1:((w.alloc (.cells ((cs.take i).toArray++Z1++Z2) e)).drew.setCells w.heap.size i [x]).drew.heap[w.heap.size]? =some (.cells c1 e (0,0)):=a1;obtain⟨c2,b1,b2,b3⟩:=sc_get (o:=i+1) (vs:=cs.drop i) a1 (by rw[a2,sA];omega);obtain⟨c4,e1,e2,e3⟩:=sc_get (o:=i) (vs:=x::cs.drop i) hB (by rw[sB,List.length_cons];omega);refine Array.ext_getElem? fun q=> ?_;by_cases hq:q=w.heap.size
 · subst hq;rw[b1,e1];have:c2=c4:=by
    refine Array.ext_getElem? fun j=> ?_;rw[b3,e3,a3];simp only[List.length_cons,List.length_nil,hdl];by_cases h1:j<i
    · rw[if_neg (by omega),if_neg (by omega),if_neg (by omega)];rw[Array.append_assoc,Array.getElem?_append,if_pos (by simp only[List.size_toArray,htl];exact h1),Array.getElem?_append,if_pos (by simp only[List.size_toArray,List.length_append,hn];omega)];simp only[List.getElem?_toArray];rw[List.getElem?_take,if_pos h1,List.getElem?_append_left (by omega)]
    · by_cases h2:j=i
      · subst h2;rw[if_neg (by omega),if_pos (by omega),if_pos (by omega),Nat.sub_self];rfl
      · by_cases h3:j<n+1
        · rw[if_pos (by omega),if_pos (by omega)];have:j-i=(j-(i+1))+1:=by omega
          rw[this,List.getElem?_cons_succ]
        · rw[if_neg (by omega),if_neg (by omega),if_neg (by omega)];rw[Array.getElem?_append,if_neg (by simp only[Array.size_append,List.size_toArray,htl,hz];omega),Array.getElem?_append,if_neg (by simp only[List.size_toArray,List.length_append,hn,List.length_cons,List.length_nil];omega)];simp only[Array.size_append,List.size_toArray,htl,hz,List.length_append,hn,List.length_cons,List.length_nil];congr 1;omega
   rw[this]
 · obtain⟨_,_,_,_,s5,_⟩:=setCells_facts w.heap.size (cs.drop i) (i+1) ((w.alloc (.cells ((cs.take i).toArray++Z1++Z2) e)).drew.setCells w.heap.size i [x]).drew;obtain⟨_,_,_,_,t5,_⟩:=setCells_facts w.heap.size [x] i (w.alloc (.cells ((cs.take i).toArray++Z1++Z2) e)).drew;obtain⟨_,_,_,_,u5,_⟩:=setCells_facts w.heap.size (x::cs.drop i) i (w.drew.alloc (.cells ((cs++[x]).toArray++Z2) e));rw[s5 q hq,u5 q hq];show((w.alloc _).drew.setCells w.heap.size i [x]).heap[q]? =_;rw[t5 q hq];show(w.alloc _).heap[q]? =_;rw[alloc_get,if_neg hq,alloc_get];exact(if_neg hq).symm
noncomputable def insV (h:Hp)(args:List Value):Option (Value×Hp):=match args with
 | [s,.int .i64 (.ofNat i),.slice (some ⟨v,0,none⟩) 1 1]=>match h.get v with
   |some (.cells [x] 3 .fix)=>bif flat x then (match s with
    | .slice none 0 0=>bif Nat.beq i 0 then (appSome h 3 8 1 s [x] 1).bind fun r=>(writeAt r.2 h.nx i [x]).map fun h'=>(r.1,h')else none
    | .slice (some ⟨o,0,none⟩) n c=>match h.get o with
      |some (.cells old 3 .grow)=>bif Nat.beq c unk&&Nat.beq n old.length&&Nat.ble i n&& !(Nat.beq o v)then
        (appSome h 3 8 1 s [x] 1).bind fun r=>(writeAt r.2 h.nx i (x::old.drop i)).map fun h'=>(r.1,h')
       else none
      |_=>none
    |_=>none)else none
   |_=>none
 |_=>none
theorem ins_app {h:Hp}{o:Nat}{old:List Value}{x:Value}(hg:h.get o=some (.cells old 3 .grow)):appSome h 3 8 1 (.slice (some ⟨o,0,none⟩) old.length unk) [x] 1=(appNew h 3 8 old [x] (old.length+1)).bind fun r=>(r.2.put o none).map fun h'=>(r.1,h'):=by
 have e1:Nat.ble (0+(old.length+1)*1) old.length=false:=by rw[Bool.eq_false_iff];intro hh;have:=Nat.le_of_ble_eq_true hh;omega
 have e2:Nat.beq (0+old.length*1) old.length=true:=by rw[Nat.zero_add,Nat.mul_one];exact Nat.beq_refl _
 show(match h.get o with
  |some (.cells c e' m)=>
   bif Nat.beq unk unk then
    bif Nat.beq 3 e'&&isGrow m then
     bif Nat.ble (0+(old.length+1)*1) c.length then (writeAt h o (0+old.length*1) [x]).map fun h'=>(Value.slice (some ⟨o,0,none⟩) (old.length+1) unk,h')
     else bif Nat.beq (0+old.length*1) c.length then (appNew h 3 8 (c.drop 0) [x] (old.length+1)).bind fun r=>(r.2.put o none).map fun h'=>(r.1,h')
     else none
    else none
   else bif Nat.ble (old.length+1) unk then (writeAt h o (0+old.length*1) [x]).map fun h'=>(Value.slice (some ⟨o,0,none⟩) (old.length+1) unk,h')
   else (readAt h o 0 (old.length*1)).bind fun old'=>appNew h 3 8 old' [x] (old.length+1)
  |_=>none)=_
 rw[hg];simp only[Nat.beq_refl,cond_true,e1,cond_false,e2,List.drop_zero,isGrow,Bool.and_self]
open Go.Shelf Go.Proofs
theorem Went.world {P:Program}{h h':Hp}{ι ι':Inj}{w wB wC:World}(g:Went P h ι w h' ι' wB)(hh:wC.heap=wB.heap)(h1:wC.os=wB.os)(h2:wC.tape=wB.tape)(h3:wC.output=wB.output):Went P h ι w h' ι' wC:=
 { g with
  rh:=g.rh.world hh
  fr:=⟨h2.trans g.fr.tape,h1.trans g.fr.os,h3.trans g.fr.output,by rw[hh];exact g.fr.size,fun b hb hall=>by rw[hh];exact g.fr.rest b hb hall⟩ }
theorem ins_same {w:World}{b p:Nat}{x:Value}{c:Array Value}{e:TypeId}{fr:Nat×Nat}(hb:w.heap[b]? =some (.cells c e fr))(hx:c[p]? =some x):(w.setCells b p [x]).heap=w.heap:=by
 have hl:=(Array.getElem?_eq_some_iff.1 hx).1;obtain⟨c3,d1,_,d3⟩:=sc_get (o:=p) (vs:=[x]) hb (by show p+1≤_;omega);refine Array.ext_getElem? fun q=> ?_;by_cases hq:q=b
 · subst hq;rw[d1,hb];have:c3=c:=by
    refine Array.ext_getElem? fun j=> ?_;rw[d3];split
    · rename_i h;have:j=p:=by simp only[List.length_cons,List.length_nil]at h;omega
      rw[this,Nat.sub_self,hx];rfl
    · rfl
   rw[this]
 · obtain⟨_,_,_,_,u5,_⟩:=setCells_facts b [x] p w;exact u5 q hq
theorem slu_inv {ι:Inj}{o n b off c:Nat}(h:VR ι (.slice (some ⟨o,0,none⟩) (n+1) unk) (.slice (some ⟨b,off,none⟩) (n+1) c)): ∃vw,ι o=some vw∧vw.blk=b∧vw.base+0=off:=by
 cases h with
 |flat hf=>simp[flat,flatN]at hf
 |slc _ hne=>exact absurd rfl hne
 |slu hvw1 _ _=>exact⟨_,hvw1,rfl,rfl⟩
def InsQ (P:Program)(ι:Inj)(h:Hp)(w:World)(h':Hp)(rv:Value):Ending→World→Prop:=fun e w'=> ∃ι' v',e= .returned v'∧Went P h ι w h' ι' w'∧VR ι' rv v'
section
variable {P:Program}{ρ:Ren}(L:Lays2.n21 P ρ)(t3:ρ.t 3=3){T:TypeId}(t22:ρ.t 22=T)
include L t3 t22
theorem ins_ty: ∃i0,P.info? 3=some i0∧i0.zero=some (.int .i64 0)∧i0.size=1∧i0.bytes=8∧P.underlying T=some (.slice 3):=by
 have _:=t22;obtain⟨i0,a,b,c,d⟩:=info_parts L.i3;rw[t3]at a;have h:=L.t22;rw[t22,t3]at h;exact⟨i0,a,b,c,d,h⟩
theorem ins_new {ι:Inj}{h h1 h':Hp}{w:World}(R:RH P ι h w){s:Value}{base:Option Addr}{n c0 v i:Nat}{old old':List Value}{x rv:Value}(hn:old.length=n)(hi:i≤n)(hfl:flat x=true)(hone:one x=true)
 (hnil:base=none→n=0∧c0=0) (hnc:n≤c0) (hroom:c0<n+1) (hbig:(n+1)*8≤140737488355328)
 (hold:VRs ι old old') (honeO: ∀u∈old',u.oneCell'=true) (hcs: ∀a,base=some a→ ∀(j:Nat) u,old'[j]? =some u→w.cell? (a.add j)=some u) (hpl:i<n→ ∃b off,base=some ⟨b,off,none⟩)
 (hv:h.get v=some (.cells [x] 3 .fix)) {x':Value} (hx:VR ι (.slice (some ⟨v,0,none⟩) 1 1) x')
 (hs:VR ι s (.slice base n c0)) (happ:appSome h 3 8 1 s [x] 1=some (rv,h1)) (hrv:rv= .slice (some ⟨h.nx,0,none⟩) (n+1) unk) (hw:writeAt h1 h.nx i (x::old.drop i)=some h'):
 Calls P (ρ.f 21) #[.slice base n c0,.int .i64 (i:Nat),x'] w (InsQ P ι h w h' rv):=by
 obtain⟨i0,hi0,hz0,hsz,hby,ht⟩:=ins_ty L t3 t22;have hol:old'.length=n:=by rw[hold.1,hn]
 obtain⟨_,vwv,hvwv,_,cv,ev,frv,hbv,hcv,hfrv,_⟩:=R.live v _ hv;obtain rfl:frv=(0,0):=hfrv (by decide);have ex:x'= .slice (some ⟨vwv.blk,vwv.base+0,none⟩) 1 1:=by
  cases hx with
  |flat hf=>simp[flat,flatN]at hf
  |slc hvw _=>rw[hvw]at hvwv;rw[Option.some.inj hvwv]
 subst ex;have hvx: ∀(j:Nat) u,[x][j]? =some u→w.cell? ⟨vwv.blk,vwv.base+0+j,none⟩=some u:=fun j u hj=>by
  obtain⟨y,hy,hvy⟩:=hcv j u hj;have hj0:j=0:=by have:=(List.getElem?_eq_some_iff.1 hj).1;simpa using this
  subst hj0;injection hj with hj;subst hj;obtain rfl:=VR.of_flat hfl hvy;simpa[World.cell?,hbv] using hy
 have h1v: ∀u∈ [x],u.oneCell'=true:=fun u hu=>by rw[List.mem_singleton.1 hu,one_eq];exact hone
 have S:Src P i0.size T (.slice (some ⟨vwv.blk,vwv.base+0,none⟩) 1 1) 1 [x] w:=by
  rw[hsz];exact Src.ofSlice w ht ⟨vwv.blk,vwv.base+0,none⟩ 1 1 [x] rfl (fun j u hj=>by rw[Addr.add_lit];exact hvx j u hj) h1v
 have hA:=AppSrc.ofSrc ht hi0 hz0 S;have happ':appSome h 3 i0.bytes i0.size s [x] 1=some (rv,h1):=by rw[hsz,hby];exact happ
 obtain⟨ι1,v1,w1,hrun,W1,V1⟩:=appSome_sound R ht hi0 hz0 (by rw[hsz];decide) (by rw[hsz];rfl) (n:=1) (by decide) hs (.of_flat (by rw[List.all_cons,hfl];rfl)) (by rw[List.all_cons,hone];rfl) hA happ' 22;have hfc:(Builtin.firstCells i0.size n (.slice base n c0)).run P w.drew= .ok old'.toArray w.drew:=by
  rw[hsz];cases base with
  |none=>
   obtain⟨rfl,rfl⟩:=hnil rfl;rw[List.length_eq_zero_iff.1 hol];exact run_firstCells_none w.drew 1 0 0 0
  |some a=>exact run_firstCells_some w.drew 1 n a n c0 old' (by omega) (fun j u hj=>hcs a rfl j u hj)
 have hgr:=hA.grow Nat.one_pos 22 base n c0 old' hfc hroom (by omega) (by rw[hby];exact growslice_fits hroom hbig);rw[hgr]at hrun;injection hrun with e7 e8;subst e7 e8;subst hrv;generalize hG:grownCap w (n+1) c0 3=G at V1 W1 hgr;have hblk:(w.drew.alloc (.cells ((old'++[x]).toArray++Builtin.zeroCells (Value.int .i64 0).cells (G-(n+1))) 3)).heap[w.heap.size]? =some (.cells ((old'++[x]).toArray++Builtin.zeroCells (Value.int .i64 0).cells (G-(n+1))) 3 (0,0)):=by
  rw[alloc_get];exact if_pos rfl
 obtain⟨vw1,hvw1,eb,eo⟩:=slu_inv V1;have hcs':VRs ι1 (x::old.drop i) (x::old'.drop i):= .cons (.flat hfl) ((hold.drop i).mono (W1.mono R));have W2:=Went.write W1.rh hw hvw1 hcs';rw[eb,show vw1.base+i=i by omega]at W2;have W:=W1.trans W2;have h63:G≤9223372036854775807:=by
  have:=grownCap_le_maxLen w (n+1) c0 3 (by unfold maxLen;omega);rw[hG]at this;unfold maxLen at this;omega
 have fin: ∀wC:World,wC.heap=((w.drew.alloc (.cells ((old'++[x]).toArray++Builtin.zeroCells (Value.int .i64 0).cells (G-(n+1))) 3)).setCells w.heap.size i (x::old'.drop i)).heap→wC.os=w.os→wC.tape=w.tape→wC.output=w.output→
  InsQ P ι h w h' (.slice (some ⟨h.nx,0,none⟩) (n+1) unk) (.returned (.slice (some ⟨w.heap.size,0,none⟩) (n+1) G)) wC:=fun wC q1 q2 q3 q4=>by
  obtain⟨_,s2,s3,s4,_,_⟩:=setCells_facts w.heap.size (x::old'.drop i) i (w.drew.alloc (.cells ((old'++[x]).toArray++Builtin.zeroCells (Value.int .i64 0).cells (G-(n+1))) 3));exact⟨ι1,_,rfl,W.world q1 (q2.trans s3.symm) (q3.trans s2.symm) (q4.trans s4.symm),V1⟩
 by_cases hin:i<n
 · obtain⟨b,off,rfl⟩:=hpl hin;refine(Any2.slices_Insert_int_grow L b off n c0 i vwv.blk (vwv.base+0) 1 1 old' [x] w hin Nat.one_pos hnc hroom hbig hol rfl (fun j u hj=>by have:=hcs _ rfl j u hj;rwa [Addr.add_lit]at this) hvx honeO h1v).mono fun e w' ⟨he,hw'⟩=> ?_;rw[t3,hG]at he hw';subst he hw';have hh:=ins_grow (w:=w) (i:=i) (n:=n) (x:=x) (cs:=old') (Z1:=Builtin.zeroCells (Value.int .i64 0).cells (n+1-i)) (Z2:=Builtin.zeroCells (Value.int .i64 0).cells (G-(n+1))) (e:=3) hol hi (by simp[Builtin.zeroCells,Value.cells]);have f1:=setCells_facts w.heap.size [x] i (w.alloc (.cells ((old'.take i).toArray++Builtin.zeroCells (Value.int .i64 0).cells (n+1-i)++Builtin.zeroCells (Value.int .i64 0).cells (G-(n+1))) 3)).drew;have f2:=setCells_facts w.heap.size (old'.drop i) (i+1) ((w.alloc (.cells ((old'.take i).toArray++Builtin.zeroCells (Value.int .i64 0).cells (n+1-i)++Builtin.zeroCells (Value.int .i64 0).cells (G-(n+1))) 3)).drew.setCells w.heap.size i [x]).drew;exact fin _ hh (f2.2.2.1.trans f1.2.2.1) (f2.2.1.trans f1.2.1) (f2.2.2.2.1.trans f1.2.2.2.1)
 · obtain rfl:i=n:=by omega
   refine(Any2.slices_Insert_int_end_grow L base i c0 vwv.blk (vwv.base+0) 1 1 old' [x] w Nat.one_pos hnc hroom hbig hol rfl (fun h=>(hnil h).1) hcs hvx h1v).mono fun e w' ⟨he,hw'⟩=> ?_;rw[t3,hG]at he hw';subst he hw';refine fin _ ?_ rfl rfl rfl;rw[List.drop_of_length_le (Nat.le_of_eq hol)];refine(ins_same hblk ?_).symm;rw[Array.getElem?_append,if_pos (by simp only[List.size_toArray,List.length_append,hol,List.length_cons,List.length_nil];omega),List.getElem?_toArray,List.getElem?_append_right (Nat.le_of_eq hol),hol,Nat.sub_self];rfl
theorem ins_some {ι:Inj}{h h1 h':Hp}{w:World}(R:RH P ι h w){o v i n:Nat}{old:List Value}(hn:n=old.length){x s' x' rv:Value}(ho:h.get o=some (.cells old 3 .grow))(hv:h.get v=some (.cells [x] 3 .fix))(hov:o≠v)(hfl:flat x=true)(hone:one x=true)(hi:i≤old.length)
 (happ:appSome h 3 8 1 (.slice (some ⟨o,0,none⟩) old.length unk) [x] 1=some (rv,h1)) (hw:writeAt h1 h.nx i (x::old.drop i)=some h')
 (hs:VR ι (.slice (some ⟨o,0,none⟩) n unk) s') (hx:VR ι (.slice (some ⟨v,0,none⟩) 1 1) x'):
 Calls P (ρ.f 21) #[s',.int .i64 (i:Nat),x'] w (InsQ P ι h w h' rv):=by
 obtain⟨i0,hi0,hz0,hsz,hby,ht⟩:=ins_ty L t3 t22;have hs1:VR ι (.slice (some ⟨o,0,none⟩) old.length unk) s':=hn▸hs;have hsrc:srcCells h 1 (.slice (some ⟨v,0,none⟩) 1 1)=some ([x],1):=by
  show(readAt h v 0 (1*1)).map _=_;unfold readAt;rw[hv];rfl
 obtain⟨xs',hxs,S⟩:=src_sound (w:=w) R hx (.inl ⟨3,ht⟩) hsrc (by rw[List.all_cons,hone];rfl) (fun _ _ _ h=>by cases h) (fun hh=>by rw[ht]at hh;cases hh);have S':Src P i0.size T x' 1 xs' w:=by rw[hsz];exact S
 have hA:=AppSrc.ofSrc ht hi0 hz0 S';have happ':appSome h 3 i0.bytes i0.size (.slice (some ⟨o,0,none⟩) old.length unk) [x] 1=some (rv,h1):=by rw[hsz,hby];exact happ
 obtain⟨ι1,v1,w1,hrun,W1,V1⟩:=appSome_sound R ht hi0 hz0 (by rw[hsz];decide) (by rw[hsz];rfl) (n:=1) (by decide) hs1 hxs (by rw[List.all_cons,hone];rfl) hA happ' 22;have happ0:=happ;rw[ins_app ho]at happ;obtain⟨⟨r1,h2⟩,hnew,hput⟩:=Option.bind_eq_some_iff.1 happ;obtain⟨h3,hp,e3⟩:=Option.map_eq_some_iff.1 hput;injection e3 with e3 e4;subst e3 e4;unfold appNew at hnew;obtain⟨hbig,hnew⟩:=cond_some hnew;injection hnew with hnew;injection hnew with e5 e6;subst e5 e6;rw[Bool.and_eq_true]at hbig;have hb1:=Nat.le_of_ble_eq_true hbig.1;obtain⟨_,vwo,hvwo,hco,c',e'',fr,hb,hcells,hfr,hgr⟩:=R.live o _ ho;obtain rfl:fr=(0,0):=hfr (by decide);obtain⟨g1,g2,g3,g4,g5⟩:=hgr rfl;have hesz:vwo.esz=1:=by
  have:sz P 3=some 1:=by unfold sz;rw[hi0];exact congrArg some hsz
  rw[this]at g2;exact(Option.some.inj g2).symm
 obtain⟨_,vwv,hvwv,_,cv,ev,frv,hbv,hcv,hfrv,_⟩:=R.live v _ hv;obtain rfl:frv=(0,0):=hfrv (by decide);have hne:vwv.blk≠vwo.blk:=fun hh=>R.apart o v _ _ vwo vwv hov ho rfl hv hvwo hvwv hh.symm;have hread:readAt h o 0 (old.length*1)=some old:=by
  unfold readAt;rw[ho];simp only[List.drop_zero,Nat.mul_one,List.take_length,Nat.beq_refl,cond_true]
 obtain⟨a,c0',old',es',q1,q2,q3⟩:=slice_cells (w:=w) R hs1 hread;have hxx:xs'=[x]:=by
  obtain⟨y,c,rfl,hy,hc⟩:=hxs.head;obtain rfl:=VR.of_flat hfl hy;have:c=[]:=List.length_eq_zero_iff.1 hc.1;rw[this]
 subst hxx;cases hs with
 |flat hf=>simp[flat,flatN]at hf
 |slc _ hne'=>exact absurd rfl hne'
 | @slu _ _ _ c0 vw hvw hcc hll=>
   rw[hvw]at hvwo;obtain rfl:=Option.some.inj hvwo;subst hn;injection es' with ea _ ec;injection ea with ea;subst ea ec;have hc63:c0≤9223372036854775807:=by rw[hesz]at hcc g5;omega
   have h1o: ∀u∈old',u.oneCell'=true:=fun u hu=>by rw[one_eq];exact List.all_eq_true.1 (q1.one hco) u hu
   by_cases hroom:old.length+1≤c0
   · have hsp: ∀j,j<old.length+1→(w.cell? ⟨vw.blk,vw.base+0+j,none⟩).isSome=true:=fun j hj=>by
      have:vw.base+0+j<c'.size:=by rw[←g1];rw[hesz]at hcc;omega
      have e:w.cell? ⟨vw.blk,vw.base+0+j,none⟩=c'[vw.base+0+j]? :=by simp[World.cell?,hb]
      rw[e,Array.getElem?_eq_getElem this];rfl
     have hfz: ∀j,w.frozen? ⟨vw.blk,j,none⟩=false:=fun j=>by simp[World.frozen?,hb]
     have hr1:=hA.room 22 vw.blk (vw.base+0) old.length c0 hroom (fun j hj=>by
      have:j=0:=by simpa using hj
      subst this;rw[hsz,Nat.mul_one,Nat.add_zero];exact hsp _ (by omega)) (fun j hj=>hfz _)
     rw[hr1]at hrun;injection hrun with e7 e8;subst e7 e8;rw[hsz,Nat.mul_one]at W1;obtain⟨vw1,hvw1,eb,eo⟩:=slu_inv V1;have hq3:old'.length=old.length:=by rw[q2,Nat.mul_one]
     have hcs':VRs ι1 (x::old.drop i) (x::old'.drop i):= .cons (.flat hfl) ((q1.drop i).mono (W1.mono R));have W2:=Went.write W1.rh hw hvw1 hcs';rw[eb,show vw1.base+i=vw.base+0+i by omega]at W2;have W:=W1.trans W2;have fin: ∀wC:World,wC.heap=((w.setCells vw.blk (vw.base+0+old.length) [x]).setCells vw.blk (vw.base+0+i) (x::old'.drop i)).heap→wC.os=w.os→wC.tape=w.tape→wC.output=w.output→
      InsQ P ι h w h' (.slice (some ⟨h.nx,0,none⟩) (old.length+1) unk) (.returned (.slice (some ⟨vw.blk,vw.base+0,none⟩) (old.length+1) c0)) wC:=fun wC q1 q2 q3 q4=>by
      obtain⟨_,s2,s3,s4,_,_⟩:=setCells_facts vw.blk (x::old'.drop i) (vw.base+0+i) (w.setCells vw.blk (vw.base+0+old.length) [x]);obtain⟨_,r2,r3,r4,_,_⟩:=setCells_facts vw.blk [x] (vw.base+0+old.length) w;exact⟨ι1,_,rfl,W.world q1 (q2.trans (s3.trans r3).symm) (q3.trans (s2.trans r2).symm) (q4.trans (s4.trans r4).symm),V1⟩
     have ex:x'= .slice (some ⟨vwv.blk,vwv.base+0,none⟩) 1 1:=by
      cases hx with
      |flat hf=>simp[flat,flatN]at hf
      |slc hvw _=>rw[hvw]at hvwv;rw[Option.some.inj hvwv]
     subst ex;have hvx: ∀(j:Nat) u,[x][j]? =some u→w.cell? ⟨vwv.blk,vwv.base+0+j,none⟩=some u:=fun j u hj=>by
      obtain⟨y,hy,hvy⟩:=hcv j u hj;have hj0:j=0:=by have:=(List.getElem?_eq_some_iff.1 hj).1;simpa using this
      subst hj0;injection hj with hj;subst hj;obtain rfl:=VR.of_flat hfl hvy;simpa[World.cell?,hbv] using hy
     have h1v: ∀u∈ [x],u.oneCell'=true:=fun u hu=>by rw[List.mem_singleton.1 hu,one_eq];exact hone
     have hcells': ∀(j:Nat) u,old'[j]? =some u→w.cell? ⟨vw.blk,vw.base+0+j,none⟩=some u:=fun j u hj=>by
      obtain⟨y,hy⟩: ∃y,old[j]? =some y:=by
       have:=(List.getElem?_eq_some_iff.1 hj).1;exact⟨_,List.getElem?_eq_getElem (by omega)⟩
      have:=q3 j u hj
      rwa [Addr.add_lit]at this
     by_cases hin:i<old.length
     · refine(Any2.slices_Insert_int_shift L vw.blk (vw.base+0) old.length c0 i vwv.blk (vwv.base+0) 1 1 old' [x] w hin Nat.one_pos hroom hc63 hne hq3 rfl hcells' hsp (fun j _=>hfz _) hvx h1o h1v ev e'' cv.size c'.size (by simp[World.shape?,hbv]) (by simp[World.shape?,hb]) (by rw[←g1];rw[hesz]at hcc;omega) (by simp[World.frozen?,hbv]) (by simp[World.frozen?,hbv])).mono fun e w' ⟨he,hw'⟩=> ?_;subst he hw';have hh:=ins_shift (w:=w) (b:=vw.blk) (p:=vw.base+0) (i:=i) (n:=old.length) (x:=x) (cs:=old') hb hq3 hi (by rw[←g1];rw[hesz]at hcc;omega);obtain⟨_,s2,s3,s4,_,_⟩:=setCells_facts vw.blk [x] (vw.base+0+i) (w.drew.setCells vw.blk (vw.base+0+(i+1)) (old'.drop i));obtain⟨_,r2,r3,r4,_,_⟩:=setCells_facts vw.blk (old'.drop i) (vw.base+0+(i+1)) w.drew;exact fin _ hh (s3.trans r3) (s2.trans r2) (s4.trans r4)
     · obtain rfl:i=old.length:=by omega
       refine(Any2.slices_Insert_int_end_room L vw.blk (vw.base+0) old.length c0 vwv.blk (vwv.base+0) 1 1 [x] w Nat.one_pos hroom hc63 rfl (fun j hj=>by rw[Nat.add_assoc];exact hsp _ (by omega)) (fun j _=>hfz _) hvx h1v).mono fun e w' ⟨he,hw'⟩=> ?_;subst he hw';obtain⟨_,r2,r3,r4,_,_⟩:=setCells_facts vw.blk [x] (vw.base+0+old.length) w;refine fin _ ?_ r3 r2 r4;rw[List.drop_of_length_le (Nat.le_of_eq hq3)];exact ins_end hb (by rw[←g1];rw[hesz]at hcc;omega)
   · exact ins_new L t3 t22 R rfl hi hfl hone (fun hh=>by cases hh) hll (by omega) (by omega) q1 h1o (fun a ha j u hj=>by injection ha with ha;subst ha;exact q3 j u hj) (fun _=>⟨_,_,rfl⟩) hv hx (.slu hvw hcc hll) happ0 rfl hw
 |sl0 hvw hcc=>
  have h0:old=[]:=List.length_eq_zero_iff.1 hn.symm;subst h0;obtain rfl:i=0:=by simpa using hi
  exact ins_new L t3 t22 R (n:=0) (c0:=0) (old:=[]) (old':=[]) rfl (Nat.le_refl _) hfl hone (fun hh=>by cases hh) (Nat.le_refl _) (by omega) (by omega) (.nil ι) (fun u hu=>by cases hu) (fun a ha j u hj=>by simp at hj) (fun hh=>absurd hh (by omega)) hv hx (.sl0 hvw hcc) happ0 rfl hw
theorem ins_nil {ι:Inj}{h h1 h':Hp}{w:World}(R:RH P ι h w){v:Nat}{x s' x' rv:Value}(hv:h.get v=some (.cells [x] 3 .fix))(hfl:flat x=true)(hone:one x=true)
 (happ:appSome h 3 8 1 (.slice none 0 0) [x] 1=some (rv,h1)) (hw:writeAt h1 h.nx 0 [x]=some h')
 (hs:VR ι (.slice none 0 0) s') (hx:VR ι (.slice (some ⟨v,0,none⟩) 1 1) x'):
 Calls P (ρ.f 21) #[s',.int .i64 (0:Nat),x'] w (InsQ P ι h w h' rv):=by
 obtain rfl:=VR.of_flat (by rfl) hs;have happ0:=happ;have hnew:appNew h 3 8 [] [x] 1=some (rv,h1):=happ;unfold appNew at hnew;obtain⟨_,hnew⟩:=cond_some hnew;injection hnew with hnew;injection hnew with e5 e6;exact ins_new L t3 t22 R (n:=0) (c0:=0) (old:=[]) (old':=[]) rfl (Nat.le_refl _) hfl hone (fun _=>⟨rfl,rfl⟩) (Nat.le_refl _) (by omega) (by omega) (.nil ι) (fun u hu=>by cases hu) (fun a ha=>by cases ha) (fun hh=>absurd hh (by omega)) hv hx hs happ0 e5.symm hw
theorem ins_sound {ι:Inj}{h h':Hp}{w:World}(R:RH P ι h w){args args':List Value}{rv:Value}(he:insV h args=some (rv,h'))(ha:VRs ι args args'):Calls P (ρ.f 21) args'.toArray w (InsQ P ι h w h' rv):=by
 unfold insV at he;split at he
 · rename_i s i v;obtain⟨s',l1,rfl,hs,u1⟩:=ha.head;obtain⟨i',l2,rfl,hi',u2⟩:=u1.head;obtain⟨x',l3,rfl,hx,u3⟩:=u2.head;obtain rfl:=u3.of_nil;obtain rfl:=VR.of_flat (by rfl) hi';split at he
   · rename_i x hv;obtain⟨hfl,he⟩:=cond_some he;have hone:one x=true:=by
      obtain⟨_,_,_,h1,_⟩:=R.live v _ hv;simpa using h1
     split at he
     · obtain⟨h0,he⟩:=cond_some he;obtain rfl:=Nat.eq_of_beq_eq_true h0;obtain⟨⟨r1,h1⟩,happ,he⟩:=Option.bind_eq_some_iff.1 he;obtain⟨h2,hw,e⟩:=Option.map_eq_some_iff.1 he;injection e with e1 e2;subst e1 e2;exact ins_nil L t3 t22 R hv hfl hone happ hw hs hx
     · rename_i _ o n c _;split at he
       · rename_i old ho;obtain⟨hc,he⟩:=cond_some he;simp only[Bool.and_eq_true,Bool.not_eq_true']at hc;obtain⟨⟨⟨c1,c2⟩,c3⟩,c4⟩:=hc;obtain rfl:=Nat.eq_of_beq_eq_true c1;have c2:=Nat.eq_of_beq_eq_true c2;have c3:=Nat.le_of_ble_eq_true c3;have c4:o≠v:=fun hh=>by rw[hh,Nat.beq_refl]at c4;cases c4
         obtain⟨⟨r1,h1⟩,happ,he⟩:=Option.bind_eq_some_iff.1 he;obtain⟨h2,hw,e⟩:=Option.map_eq_some_iff.1 he;injection e with e1 e2;subst e1 e2;exact ins_some L t3 t22 R c2 ho hv c4 hfl hone (by omega) (by rw[←c2];exact happ) hw hs hx
       · cases he
     · cases he
   · cases he
 · cases he
end
end Go.Ev
namespace Go.Proofs.YtngcjpkccnfjiaaGreatDoor
open Go Go.Shelf
def ren21:Go.Shelf.Ren:=⟨fun|21=>54|27=>113|28=>114|35=>144|39=>153|n=>n,fun|22=>22|3=>3|4=>4|0=>0|n=>n,fun|n=>n⟩
theorem lays21:Go.Proofs.Lays2.n21 Tryz.prog ren21:= {
 mixed:=by kernel_rfl
 f21:=Tryz.func54.trans (congrArg some (by kernel_rfl))
 f27:=Tryz.func113.trans (congrArg some (by kernel_rfl))
 f28:=Tryz.func114.trans (congrArg some (by kernel_rfl))
 f35:=Tryz.func144.trans (congrArg some (by kernel_rfl))
 f39:=Tryz.func153.trans (congrArg some (by kernel_rfl))
 t0:=Tryz.underlying0
 a0:=Tryz.isAgg0
 z0:=Tryz.sizeOf0
 v0:=Tryz.zeroValue0
 t3:=Tryz.underlying3
 a3:=Tryz.isAgg3
 z3:=Tryz.sizeOf3
 v3:=Tryz.zeroValue3
 t4:=Tryz.underlying4
 a4:=Tryz.isAgg4
 z4:=Tryz.sizeOf4
 v4:=Tryz.zeroValue4
 t22:=Tryz.underlying22
 a22:=Tryz.isAgg22
 z22:=Tryz.sizeOf22
 v22:=Tryz.zeroValue22
 i3:=by kernel_rfl }
open Go.Ev
theorem h0_get (o:Nat)(x:Ob)(h:h0.get o=some x):o=0∧x= .cells tab 0 .ro:=by
 have h:(Tr.set (Tr.full none 22) 0 (some (Ob.cells tab 0 .ro))).get none o=some x:=h;rw[Tr.get_set]at h;split at h
 · split at h
   · exact⟨‹_›,(Option.some.inj h).symm⟩
   · cases h
 · rw[Tr.get_full]at h;cases h
theorem tab_flat:tab.all flat=true:=by kernel_rfl
theorem tab_one:tab.all one=true:=by kernel_rfl
theorem works_calls {h:Hp}(_:1<h.nx)(hh:h.get 0=some (.cells tab 0 .ro)){iota:Inj}{w:World}(R:RH Tryz.prog iota h w):Calls Tryz.prog 14 #[] w fun e w'=>e= .returned (.bool true)∧Went Tryz.prog h iota w h iota w':=by
 have hev:=works_ev;cases hr:evCall Tryz.prog 1000 100 14 [] h0 with
 |none=>rw[hr]at hev;cases hev
 |some r=>
  obtain⟨v,h1⟩:=r;rw[hr]at hev;obtain rfl:v= .bool true:=by
   cases v with
   |bool b=>have:b=true:=hev;rw[this]
   |_=>cases hev
  exact closed_call mixed noNum (fn:=Tryz.f14) (by decide) Tryz.func14 (by kernel_rfl) hr rfl rfl (fun o x ho=>⟨tab,0,(h0_get o x ho).2,tab_flat⟩) (fun o x ho=>by
   obtain⟨rfl,rfl⟩:=h0_get o x ho;exact⟨hh,(by decide:0<2)⟩) (by rw[gsz];exact Nat.le_refl _) R
def isTab:List Value→List Value→Bool
 | [],[]=>true
 | .int .i64 a::l,.int .i64 b::r=>eqI a b&&isTab l r
 |_,_=>false
theorem isTab_eq: ∀(l r:List Value),isTab l r=true→l=r:=by
 intro l
 induction l with
 |nil=>intro r h;cases r with
  |nil=>rfl
  |cons=>simp[isTab]at h
 |cons a l ih=>
  intro r h;unfold isTab at h;split at h
  · rename_i h2;cases h2
  · rename_i x l2 y r2 h2;injection h2 with e1 e2;subst e1 e2;rw[Bool.and_eq_true,eqI_eq]at h;rw[ih _ h.2,(by simpa using h.1:x=y)]
  · cases h
noncomputable def Ow:CallF:=fun f args h=>bif Nat.beq f 14 then (match args,h.get 0 with
 | [],some (.cells l 0 .ro)=>bif Nat.blt 1 h.nx&&isTab l tab then some (.bool true,h)else none
 |_,_=>none)else bif Nat.beq f 54 then insV h args else none
set_option maxRecDepth 100000 in
theorem Ow_ok:COk Tryz.prog Ow:=by
 intro f args h v h' hs iota w args' R ha rd o a next Q hn
 unfold Ow at hs;cases hf:Nat.beq f 14 with
 |false=>
  rw[hf,cond_false]at hs;obtain⟨h54,hs⟩:=cond_some hs;obtain rfl:f=54:=Nat.eq_of_beq_eq_true h54;rw[run_callFunc noNum Tryz.func54 (by kernel_rfl) args'.toArray w];refine⟨fun _=>⟨fun h=>(by cases h),calls_rd ((ins_sound lays21 (rfl:ren21.t 3=3) (rfl:ren21.t 22=22) R hs ha).mono fun e w' ⟨iota',v',he,g,hv⟩=> ?_)⟩,fun l hl=> ?_⟩
  · subst he;exact hn iota' v' w' g hv
  · exact absurd hl (Nat.ne_of_lt (Nat.lt_of_lt_of_le (by decide:54<yB) (Nat.le_add_right yB l)))
 |true=>
  obtain rfl:f=14:=Nat.eq_of_beq_eq_true hf;rw[hf,cond_true]at hs;split at hs
  · rename_i l hg;obtain⟨ht,h2⟩:=cond_some hs;rw[Bool.and_eq_true]at ht;injection h2 with h2;injection h2 with e1 e2;subst e1 e2;obtain rfl:=isTab_eq _ _ ht.2;obtain rfl:=List.length_eq_zero_iff.1 ha.1;rw[run_callFunc noNum Tryz.func14 (by kernel_rfl) ([]:List Value).toArray w];refine⟨fun _=>⟨fun h=>(by cases h),calls_rd ((works_calls (by simpa using ht.1) hg R).mono fun e w' ⟨he,g⟩=> ?_)⟩,fun l hl=> ?_⟩
    · subst he;exact hn iota _ w' g (.flat rfl)
    · exact absurd hl (Nat.ne_of_lt (Nat.lt_of_lt_of_le (by decide:14<yB) (Nat.le_add_right yB l)))
  · cases hs
theorem Ow_oth (f:FuncId)(args:List Value)(h:Hp)(hf:f≠14∧f≠54):Ow f args h=none:=by
 unfold Ow;have h1:Nat.beq f 14=false:=by rw[Bool.eq_false_iff];intro hh;exact hf.1 (Nat.eq_of_beq_eq_true hh)
 have h2:Nat.beq f 54=false:=by rw[Bool.eq_false_iff];intro hh;exact hf.2 (Nat.eq_of_beq_eq_true hh)
 rw[h1,h2];rfl
theorem tab_self:isTab tab tab=true:=by kernel_rfl
theorem Ow_works {h:Hp}(hn:1<h.nx)(hh:h.get 0=some (.cells tab 0 .ro)):EvC Tryz.prog Ow 14 [] h (.bool true) h:=by
 refine⟨0,?_⟩;show Ow 14 [] h=_;unfold Ow;show(match ([]:List Value),h.get 0 with
  | [],some (.cells l 0 .ro)=>bif Nat.blt 1 h.nx&&isTab l tab then some (Value.bool true,h)else none
  |_,_=>none)=_
 rw[hh];simp only[tab_self,show Nat.blt 1 h.nx=true by simpa using hn,Bool.and_self,cond_true]
abbrev EvT:=EvC Tryz.prog
def Oth (O:CallF):Prop:= ∀f args h,(f≠14∧f≠54)→O f args h=none
def Tb (h:Hp):Prop:=1<h.nx∧h.get 0=some (.cells tab 0 .ro)
theorem Tb.kp {h h':Hp}{n:Nat}(t:Tb h)(k:Kp n h h')(hn:0<n):Tb h':=⟨Nat.lt_of_lt_of_le t.1 k.nx,by rw[k.get 0 hn];exact t.2⟩
def In64 (x:Int):Prop:= -9223372036854775808≤x∧x<9223372036854775808
def hdS (w:Int):Int:=Int.tdiv w 8
def hdK (w:Int):Int:=Int.tmod w 8
def goodB (s k:Int):Bool:=if k=4 then s==1 else decide (0≤s)&&decide (s≤20)&&decide (1≤k)&&decide (k≤5)
theorem tdiv_eq (x m:Int):Int.tdiv x m=if 0≤x then x/m else-((-x)/m):=by
 split
 · exact Int.tdiv_eq_ediv_of_nonneg ‹_›
 · have:Int.tdiv (-x) m=(-x)/m:=Int.tdiv_eq_ediv_of_nonneg (by omega);rw[←this,Int.neg_tdiv,Int.neg_neg]
theorem In64.div {x:Int}(h:In64 x):wrapF .i64 (Int.tdiv x 8)=hdS x:=by
 have:=h.1;have:=h.2;refine wrap64 ?_ ?_<;>(rw[tdiv_eq];split<;>omega)
theorem In64.half {x:Int}(h:In64 x):wrapF .i64 (Int.tdiv x 2)=Int.tdiv x 2:=by
 have:=h.1;have:=h.2;refine wrap64 ?_ ?_<;>(rw[tdiv_eq];split<;>omega)
theorem two_at (h:Hp)(e:TypeId)(a b:Int):(∀i v,[Value.int .i64 a,.int .i64 b][i]? =some v→readAt (h.add (.cells [.int .i64 a,.int .i64 b] e .fix)) h.nx i 1=some [v])∧readAt (h.add (.cells [.int .i64 a,.int .i64 b] e .fix)) h.nx 0 2=some [.int .i64 a,.int .i64 b]:=by
 exact⟨fun i v hv=>read1 (get_add_same ..) hv,by rw[readAt_get (get_add_same ..) (by simp)];rfl⟩
theorem two_wr {h:Hp}(k:h.Ok)(e:TypeId)(v1 v2 v3 v4:Value)(h1:[v3,v4].all one=true):
 canW (h.add (.cells [v1,v2] e .fix)) h.nx 0 [v3,v4]=true∧((h.add (.cells [v1,v2] e .fix)).wr h.nx 0 [v3,v4]).get h.nx=some (.cells [v3,v4] e .fix):=by
 have g:(h.add (.cells [v1,v2] e .fix)).get h.nx=some (.cells [v1,v2] e .fix):=get_add_same ..;have gd:(h.add (.cells [v1,v2] e .fix)).guarded h.nx=false:=k.lt.free (h:=h) (Nat.le_refl _);exact⟨canW_t g (by decide) gd (by simp) h1,wr_get g (by decide) gd (by simp) h1⟩
theorem tb_read {h:Hp}(t:Tb h):readAt h 0 0 2=some [.int .i64 1,.int .i64 4]:=by
 rw[readAt_get t.2 (by decide)];rfl
section
variable {O:CallF}(hO:Oth O)
include hO
theorem ct86 {h:Hp}(k:h.Ok){x:Int}(hx:In64 x){K:Int→Int→Hp→Prop}(next: ∀h',Kp h.nx h h'→K (hdS x) (hdK x) h'):
 ∃a b h',EvT O 86 [.int .i64 x] h (.agg #[.int .i64 a,.int .i64 b]) h'∧K a b h':=by
 have r:Ret Tryz.prog O 86 [.int .i64 x] h fun v h'=>v= .agg #[.int .i64 (hdS x),.int .i64 (hdK x)]∧Kp h.nx h h':=by
  refine rk86 x (hO _ _ _ (by decide)) ?_;unfold T86;intro g1;obtain⟨c,w⟩:=two_wr k 117 (.int .i64 0) (.int .i64 0) (.int .i64 (wrapF .i64 (Int.tdiv x 8))) (.int .i64 (Int.tmod x 8)) rfl;refine vreq_t c ?_;intro g2;refine⟨_,_,by rw[readAt_get w (by simp)];rfl,?_,?_⟩
  · rw[hx.div];rfl
  · exact((Kp.refl h.nx h).add (Nat.le_refl _) _).wr (Nat.le_refl _) _ _
 obtain⟨v,h',e,rfl,q⟩:=r;exact⟨_,_,h',e,next h' q⟩
theorem ct75 {h:Hp}(t:Tb h){s k:Int}{K:Bool→Hp→Prop}(next: ∀h',Kp h.nx h h'→K (goodB s k) h'):
 ∃q h',EvT O 75 [.agg #[.int .i64 s,.int .i64 k]] h (.bool q) h'∧K q h':=by
 refine Ret.b1 (x:=goodB s k) (R:=fun h'=>Kp h.nx h h') ?_ (fun h' q=>next h' q);refine rk75 s k (hO _ _ _ (by decide)) ?_;unfold T75;intro g1;obtain⟨r1,r2⟩:=two_at h 117 s k;have kp:Kp h.nx h g1:=(Kp.refl h.nx h).add (Nat.le_refl _) _;have t1:Tb g1:=t.kp kp (by have:=t.1;omega);unfold goodB;refine⟨_,r1 1 _ rfl,vcond_split (fun h1=> ?_) fun h1=> ?_⟩
 · refine⟨_,_,r2,_,_,tb_read t1,?_⟩;rw[if_pos (eq_of_t h1),eq_of_t h1];refine⟨?_,kp⟩;rw[show eqI 4 4=true by decide,Bool.and_true];congr 1;rw[Bool.eq_iff_iff,eqI_eq]
 · rw[if_neg (ne_of_f h1)];refine⟨_,r1 0 _ rfl,vcond_split (fun h2=> ?_) fun h2=> ?_⟩
   · have h2:=not_lt_of_f (by simpa using h2);rw[decide_eq_true (show(0:Int)≤s by omega),Bool.true_and];refine⟨_,r1 0 _ rfl,vcond_split (fun h3=> ?_) fun h3=> ?_⟩
     · have h3:=not_lt_of_f (by simpa using h3);rw[decide_eq_true (show s≤(20:Int) by omega),Bool.true_and];refine⟨_,r1 1 _ rfl,vcond_split (fun h4=> ?_) fun h4=> ?_⟩
       · have h4:=not_lt_of_f (by simpa using h4);rw[decide_eq_true (show(1:Int)≤k by omega),Bool.true_and];refine⟨_,r1 1 _ rfl,?_,kp⟩;congr 1;rw[ltI_eq,Bool.eq_iff_iff];simp
       · have h4:=lt_of_t (by simpa using h4);rw[decide_eq_false (show¬(1:Int)≤k by omega),Bool.false_and];exact⟨rfl,kp⟩
     · have h3:=lt_of_t (by simpa using h3);rw[decide_eq_false (show¬s≤(20:Int) by omega),Bool.false_and,Bool.false_and];exact⟨rfl,kp⟩
   · have h2:=lt_of_t (by simpa using h2);rw[decide_eq_false (show¬(0:Int)≤s by omega)];exact⟨rfl,kp⟩
def keepB (k:Int):Bool:=k==1||k==2
theorem ct119 {h:Hp}{s k:Int}{K:Bool→Hp→Prop}(next: ∀h',Kp h.nx h h'→K (keepB k) h'):
 ∃q h',EvT O 119 [.agg #[.int .i64 s,.int .i64 k]] h (.bool q) h'∧K q h':=by
 refine Ret.b1 (x:=keepB k) (R:=fun h'=>Kp h.nx h h') ?_ (fun h' q=>next h' q);refine rk119 s k (hO _ _ _ (by decide)) ?_;unfold T119;intro g1;obtain⟨r1,_⟩:=two_at h 117 s k;have kp:Kp h.nx h g1:=(Kp.refl h.nx h).add (Nat.le_refl _) _;unfold keepB;refine⟨_,r1 1 _ rfl,vcond_split (fun h1=> ?_) fun h1=> ?_⟩
 · rw[eq_of_t h1];exact⟨rfl,kp⟩
 · refine⟨_,r1 1 _ rfl,?_,kp⟩;have h1:=ne_of_f h1;congr 1;rw[Bool.eq_iff_iff,eqI_eq];simp[h1]
def refB (k:Int):Bool:=keepB k||k==5
def wordB (begin:List Bool)(w:Int):Bool:=
 if Int.tmod w 2≠0 then decide (-1999999999≤w)&&decide (w≤2000000001)
 else if w<0 then false else if¬Int.tdiv w 2<begin.length then false else if w=0 then true else begin.getD (Int.tdiv w 2).toNat false
theorem ct100 {h:Hp}{a:Option Addr}{n c:Nat}{begin:List Bool}(B:BoolsAt h a n begin){w:Int}(hw:In64 w):EvT O 100 [.slice a n c,.int .i64 w] h (.bool (wordB begin w)) h:=by
 have r:Ret Tryz.prog O 100 [.slice a n c,.int .i64 w] h fun v h'=>v= .bool (wordB begin w)∧h'=h:=by
  refine rk100 a n c w (hO _ _ _ (by decide)) ?_;unfold T100 wordB;rw[hw.half];refine vcond_split (fun h1=> ?_) fun h1=> ?_
  · rw[if_pos (ne_of_f (by simpa using h1))];refine vcond_split (fun h2=> ?_) fun h2=> ?_
    · have h2:=not_lt_of_f (by simpa using h2);rw[decide_eq_true (by omega),Bool.true_and];refine⟨?_,rfl⟩;congr 1;rw[ltI_eq,Bool.eq_iff_iff];simp
    · have h2:=lt_of_t (by simpa using h2);rw[decide_eq_false (by omega),Bool.false_and];exact⟨rfl,rfl⟩
  · have h1:=eq_of_t (by simpa using h1);rw[if_neg (by simpa using h1)];refine vcond_split (fun h2=> ?_) fun h2=> ?_
    · rw[if_pos (lt_of_t h2)];exact⟨rfl,rfl⟩
    · have h2:=not_lt_of_f h2;rw[if_neg h2];obtain⟨m,hm⟩: ∃m:Nat,Int.tdiv w 2=Int.ofNat m:=Int.eq_ofNat_of_zero_le (by rw[tdiv_eq,if_pos (by omega)];omega);rw[hm];refine vcond_split (fun h3=> ?_) fun h3=> ?_
      · have h3:=not_lt_of_f (by simpa using h3);rw[B.1]at h3;rw[if_pos (by simpa using h3)];exact⟨rfl,rfl⟩
      · have h3:=lt_of_t (by simpa using h3);rw[B.1]at h3;have h3:m<begin.length:=by simpa using h3
        rw[if_neg (by simpa using h3)];refine vcond_split (fun h4=> ?_) fun h4=> ?_
        · rw[if_pos (eq_of_t h4)];exact⟨rfl,rfl⟩
        · rw[if_neg (ne_of_f h4)];refine isNat_i (B.rd h3 ?_);refine⟨?_,rfl⟩;congr 1;simp[List.getD,List.getElem?_eq_getElem h3]
 obtain⟨v,h',e,rfl,rfl⟩:=r;exact e
def letterB (n:Int):Bool:=decide (32≤n)&&decide (n≤126)&& !(n==34)&& !(n==92)
def fieldB (begin:List Bool)(k n:Int):Bool:=if k=3 then letterB n else if k=4 then n==0||n==1 else wordB begin n
theorem ct78 {h:Hp}{a:Option Addr}{n c:Nat}{begin:List Bool}(B:BoolsAt h a n begin){k w:Int}(hw:In64 w):EvT O 78 [.slice a n c,.int .i64 k,.int .i64 w] h (.bool (fieldB begin k w)) h:=by
 have r:Ret Tryz.prog O 78 [.slice a n c,.int .i64 k,.int .i64 w] h fun v h'=>v= .bool (fieldB begin k w)∧h'=h:=by
  refine rk78 a n c k w (hO _ _ _ (by decide)) ?_;unfold T78 fieldB;refine vcond_split (fun h1=> ?_) fun h1=> ?_
  · rw[if_pos (eq_of_t h1)];unfold letterB;refine vcond_split (fun h2=> ?_) fun h2=> ?_
    · have h2:=not_lt_of_f (by simpa using h2);rw[decide_eq_true (show(32:Int)≤w by omega),Bool.true_and];refine vcond_split (fun h3=> ?_) fun h3=> ?_
      · have h3:=not_lt_of_f (by simpa using h3);rw[decide_eq_true (show w≤(126:Int) by omega),Bool.true_and];refine vcond_split (fun h4=> ?_) fun h4=> ?_
        · have h4:=ne_of_f (by simpa using h4);refine⟨?_,rfl⟩;congr 1;rw[Bool.eq_iff_iff];simp[h4,eqI_eq]
        · have h4:=eq_of_t (by simpa using h4);rw[h4];exact⟨rfl,rfl⟩
      · have h3:=lt_of_t (by simpa using h3);rw[decide_eq_false (show¬w≤(126:Int) by omega)];exact⟨rfl,rfl⟩
    · have h2:=lt_of_t (by simpa using h2);rw[decide_eq_false (show¬(32:Int)≤w by omega)];exact⟨rfl,rfl⟩
  · rw[if_neg (ne_of_f h1)];refine vcond_split (fun h2=> ?_) fun h2=> ?_
    · rw[if_pos (eq_of_t h2)];refine vcond_split (fun h3=> ?_) fun h3=> ?_
      · rw[eq_of_t h3];exact⟨rfl,rfl⟩
      · have h3:=ne_of_f h3;refine⟨?_,rfl⟩;congr 1;rw[Bool.eq_iff_iff];simp[h3,eqI_eq]
    · rw[if_neg (ne_of_f h2)];exact⟨_,_,ct100 hO B hw,rfl,rfl⟩
 obtain⟨v,h',e,rfl,rfl⟩:=r;exact e
end
inductive Vl where
 |mk (kind n:Int) (text:ByteArray) (parts:List Vl)
inductive VA (h:Hp):Vl→List Value→Prop where
 |nil (k n:Int) (t:ByteArray) (c:Nat):VA h (.mk k n t []) [.int .i64 k,.int .i64 n,.string t,.slice none 0 c]
 |at_ (k n:Int) (t:ByteArray) (ps:List Vl) (b off c:Nat) (cs:List Value) (e:TypeId) (m:Md) (hb:b<h.nx) (hg:h.get b=some (.cells cs e m)) (hl:off+ps.length*4≤cs.length)
   (hp: ∀i (hi:i<ps.length),VA h ps[i] ((cs.drop (off+i*4)).take 4)):VA h (.mk k n t ps) [.int .i64 k,.int .i64 n,.string t,.slice (some ⟨b,off,none⟩) ps.length c]
theorem VA.up {h h':Hp}(K:Kp h.nx h h'){v:Vl}{vs:List Value}(H:VA h v vs):VA h' v vs:=by
 induction H with
 |nil k n t c=>exact .nil k n t c
 |at_ k n t ps b off c cs e m hb hg hl _ ih=>exact .at_ k n t ps b off c cs e m (Nat.lt_of_lt_of_le hb K.nx) ((K.get _ hb).trans hg) hl ih
mutual
def weighF:Vl→Int→Int→Int
 | .mk _ _ _ ps,left,d=>if left<1∨d<1 then-1 else weighL ps (left-1) (d-1)
def weighL:List Vl→Int→Int→Int
 | [],left,_=>left
 |v::r,left,d=>if left<0 then left else weighL r (weighF v left d) d
end
end Go.Proofs.YtngcjpkccnfjiaaGreatDoor
namespace Go.Ev
open Go
structure Ch (S:Nat→Prop)(h h':Hp):Prop where
 get: ∀o,o<h.nx→ ¬S o→h'.get o=h.get o
 nx:h.nx≤h'.nx
 gd:h'.gd=h.gd
 fr:h.Fresh→h'.Fresh
theorem Ch.kp {S:Nat→Prop}{h h':Hp}(k:Kp h.nx h h'):Ch S h h':=⟨fun o ho _=>k.get o ho,k.nx,k.gd,k.fr⟩
theorem Ch.refl (S:Nat→Prop)(h:Hp):Ch S h h:=⟨fun _ _ _=>rfl,Nat.le_refl _,rfl,id⟩
theorem Ch.low {S:Nat→Prop}{h h':Hp}{n:Nat}(a:Ch S h h')(hn:n≤h.nx)(hs: ∀o,S o→n≤o):Kp n h h':=⟨fun o ho=>a.get o (by omega) (fun h=>by have:=hs o h;omega),a.nx,a.gd,a.fr⟩
theorem Ch.wr (h:Hp)(b off:Nat)(vs:List Value):Ch (fun o=>o=b) h (h.wr b off vs):=⟨fun _ _ hne=>wr_get_ne _ _ _ _ hne,by rw[nx_wr];exact Nat.le_refl _,gd_wr ..,fun f=>f.wr _ _ _⟩
structure Rs where
 own:Nat→Prop
 P:Hp→Prop
def Rs.Loc (r:Rs):Prop:= ∀h h':Hp,h.nx≤h'.nx→(∀b,r.own b→h'.get b=h.get b)→r.P h→r.P h'
def ob (b:Nat)(x:Ob):Rs:=⟨fun o=>o=b,fun h=>h.get b=some x⟩
theorem ob.loc (b:Nat)(x:Ob):(ob b x).Loc:=fun _ _ _ h e=>(h b rfl).trans e
def acc (lo:Nat)(e:TypeId)(esz:Nat)(a:Option Addr)(n c:Nat)(xs:List Value):Rs:=⟨fun o=>a=some ⟨o,0,none⟩,fun h=>AccE h lo e esz a n c xs⟩
theorem acc.loc (lo:Nat)(e:TypeId)(esz:Nat)(a:Option Addr)(n c:Nat)(xs:List Value):(acc lo e esz a n c xs).Loc:=fun _ _ hn h A=>A.keep (fun o _ ha=>h o ha) hn
def hole (lo k:Nat)(used:List Nat):Rs:=⟨fun o=>lo≤o∧o<lo+k∧o ∉ used,fun h=> ∀o,lo≤o→o<lo+k→o ∉ used→h.get o=none⟩
theorem hole.loc (lo k:Nat)(used:List Nat):(hole lo k used).Loc:=fun _ _ _ h e o h1 h2 h3=>(h o ⟨h1,h2,h3⟩).trans (e o h1 h2 h3)
structure Know (h0 g:Hp)(L:List Rs):Prop where
 ok:g.Ok
 kp:Kp h0.nx h0 g
 at_: ∀r∈L,r.Loc∧r.P g∧ ∀b,r.own b→h0.nx≤b∧b<g.nx
 dis:L.Pairwise (fun r s=> ∀b,r.own b→ ¬s.own b)
 ok0:h0.Ok
section
variable {h0 g:Hp}{L:List Rs}
theorem Know.nil (ok:g.Ok):Know g g []:=⟨ok,Kp.refl _ _,fun _ h=>(by cases h),.nil,ok⟩
theorem Know.ft (S:Know h0 g L):Ft h0 g:=S.kp.ex (Nat.le_refl _)
theorem Know.len (_:Know h0 g L){i:Nat}{r:Rs}(hi:L[i]? =some r):i<L.length:=(List.getElem?_eq_some_iff.1 hi).1
theorem Know.lo (S:Know h0 g L):h0.nx≤g.nx:=S.kp.nx
theorem Know.gl (S:Know h0 g L):GdLt g h0.nx:=fun q hq=>by rw[S.kp.gd]at hq;exact S.ok0.gd q hq
theorem Know.get (S:Know h0 g L)(i:Nat){r:Rs}(hi:L[i]? =some r):r.P g:=(S.at_ r (List.mem_of_getElem? hi)).2.1
theorem Know.obj (S:Know h0 g L)(i:Nat){b:Nat}{x:Ob}(hi:L[i]? =some (ob b x)):g.get b=some x:=S.get i hi
theorem Know.rng (S:Know h0 g L)(i:Nat){r:Rs}(hi:L[i]? =some r): ∀b,r.own b→h0.nx≤b∧b<g.nx:=(S.at_ r (List.mem_of_getElem? hi)).2.2
theorem Know.orng (S:Know h0 g L)(i:Nat){b:Nat}{x:Ob}(hi:L[i]? =some (ob b x)):h0.nx≤b∧b<g.nx:=S.rng i hi b rfl
theorem Know.arng (S:Know h0 g L)(i:Nat){lo:Nat}{e:TypeId}{esz:Nat}{a:Option Addr}{n c:Nat}{xs:List Value}(hi:L[i]? =some (acc lo e esz a n c xs)){o:Nat}(ha:a=some ⟨o,0,none⟩):h0.nx≤o∧o<g.nx:=S.rng i hi o ha
theorem pw_get {α:Type}{R:α→α→Prop}(hs: ∀a b,R a b→R b a): ∀ {l:List α},l.Pairwise R→ ∀ {i j:Nat} {x y:α},l[i]? =some x→l[j]? =some y→i≠j→R x y:=by
 intro l
 induction l with
 |nil=>intro _ i j x y h;cases h
 |cons a l ih=>
  intro hp i j x y hx hy hij;obtain⟨p1,p2⟩:=List.pairwise_cons.1 hp;cases i with
  |zero=>
   cases j with
   |zero=>exact absurd rfl hij
   |succ j=>obtain rfl:=Option.some.inj hx;exact p1 y (List.mem_of_getElem? (i:=j) hy)
  |succ i=>
   cases j with
   |zero=>obtain rfl:=Option.some.inj hy;exact hs _ _ (p1 x (List.mem_of_getElem? (i:=i) hx))
   |succ j=>exact ih p2 (i:=i) (j:=j) hx hy (by omega)
theorem Know.sep (S:Know h0 g L)(i j:Nat){r s:Rs}(hi:L[i]? =some r)(hj:L[j]? =some s)(hij:i≠j): ∀b,r.own b→ ¬s.own b:=
 pw_get (fun _ _ h b hb ha=>h b ha hb) S.dis hi hj hij
theorem Know.ne (S:Know h0 g L)(i j:Nat){b c:Nat}{x y:Ob}(hi:L[i]? =some (ob b x))(hj:L[j]? =some (ob c y))(hij:i≠j):b≠c:=fun h=>S.sep i j hi hj hij b rfl h
theorem Know.add (S:Know h0 g L)(x:Ob):Know h0 (g.add x) (ob g.nx x::L):=by
 refine⟨S.ok.add x,S.kp.add S.lo x,fun r hr=> ?_,List.pairwise_cons.2 ⟨fun r hr b hb hrb=> ?_,S.dis⟩,S.ok0⟩
 · rcases List.mem_cons.1 hr with rfl|hr
   · exact⟨ob.loc _ _,get_add_same ..,fun b hb=>by cases hb;rw[nx_add];have:=S.lo;omega⟩
   · obtain⟨h1,h2,h3⟩:=S.at_ r hr;exact⟨h1,h1 g _ (by rw[nx_add];omega) (fun b hb=>get_add_ne (by have:=h3 b hb;omega)) h2,fun b hb=>by rw[nx_add];have:=h3 b hb;omega⟩
 · have:=(S.at_ r hr).2.2 b hrb;cases hb;omega
theorem Know.call (S:Know h0 g L){g':Hp}(k:Kp g.nx g g'):Know h0 g' L:=
 ⟨S.ok.kp k,S.kp.trans (k.le S.lo),fun r hr=>let ⟨h1,h2,h3⟩:=S.at_ r hr;⟨h1,h1 g g' k.nx (fun b hb=>k.get b (h3 b hb).2) h2,fun b hb=>by have:=h3 b hb;have:=k.nx;omega⟩,S.dis,S.ok0⟩
theorem Know.rsv (S:Know h0 g L)(k:Nat):Know h0 (g.rsv k) L:=S.call ((Kp.refl _ g).rsv k)
theorem Know.callg (S:Know h0 g L){l:List Nat}{h':Hp}(k:Kp g.nx (g.grd l) h'):Know h0 (h'.rst g) L:=S.call ⟨k.get,k.nx,rfl,fun f=>k.fr f⟩
theorem Know.okg (S:Know h0 g L){l:List Nat}(hl: ∀q∈l,q<g.nx):(g.grd l).Ok:=S.ok.grd hl
theorem Know.ftg (S:Know h0 g L)(l:List Nat):Ft h0 (g.grd l):=⟨S.ft.get,S.ft.nx⟩
theorem Know.upd (S:Know h0 g L)(i:Nat){r r':Rs}(hi:L[i]? =some r){g':Hp}(k:Ch r.own g g')(hl:r'.Loc)(hP:r'.P g')(ho: ∀b,r'.own b→r.own b∨(g.nx≤b∧b<g'.nx)):Know h0 g' (L.set i r'):=by
 have hr:=S.rng i hi;have hi':i<L.length:=(List.getElem?_eq_some_iff.1 hi).1;have ho': ∀b,r'.own b→h0.nx≤b∧b<g'.nx:=fun b hb=>by
  rcases ho b hb with h|h
  · have:=hr b h;have:=k.nx;omega
  · have:=S.lo;omega
 refine⟨⟨fun q hq=>by rw[k.gd]at hq;exact Nat.lt_of_lt_of_le (S.ok.gd q hq) k.nx,k.fr S.ok.fr⟩,S.kp.trans (k.low S.lo fun o h=>(hr o h).1),fun s hs=> ?_,?_,S.ok0⟩
 · obtain⟨j,hj⟩:=List.mem_iff_getElem?.1 hs;by_cases hij:i=j
   · subst hij;rw[List.getElem?_set_self hi']at hj;obtain rfl:=Option.some.inj hj;exact⟨hl,hP,ho'⟩
   · rw[List.getElem?_set_ne hij]at hj;obtain⟨h1,h2,h3⟩:=S.at_ s (List.mem_of_getElem? hj);exact⟨h1,h1 g g' k.nx (fun b hb=>k.get b (h3 b hb).2 fun h=>S.sep i j hi hj hij b h hb) h2,fun b hb=>by have:=h3 b hb;have:=k.nx;omega⟩
 · rw[List.pairwise_iff_getElem];intro a b ha hb hab;rw[List.length_set]at ha hb;have key: ∀j s,i≠j→L[j]? =some s→ ∀q,r'.own q→ ¬s.own q:=fun j s hij hj q hq hs=>by
    rcases ho q hq with h|h
    · exact S.sep i j hi hj hij q h hs
    · have:=(S.at_ s (List.mem_of_getElem? hj)).2.2 q hs;omega
   rw[List.getElem_set,List.getElem_set];by_cases h1:i=a
   · rw[if_pos h1,if_neg (by omega)];exact key b _ (by omega) (List.getElem?_eq_getElem hb)
   · rw[if_neg h1];by_cases h2:i=b
     · rw[if_pos h2];exact fun q hq hs=>key a _ h1 (List.getElem?_eq_getElem ha) q hs hq
     · rw[if_neg h2];exact List.pairwise_iff_getElem.1 S.dis a b ha hb hab
theorem Ch.rst {R:Nat→Prop}{l:List Nat}{h':Hp}(k:Ch R (g.grd l) h'):Ch R g (h'.rst g):=⟨k.get,k.nx,rfl,fun f=>k.fr f⟩
theorem Know.push (S:Know h0 g L){r':Rs}{g':Hp}(k:Kp g.nx g g')(hl:r'.Loc)(hP:r'.P g')(ho: ∀b,r'.own b→g.nx≤b∧b<g'.nx):Know h0 g' (r'::L):=by
 have T:=S.call k;refine⟨T.ok,T.kp,fun r hr=> ?_,List.pairwise_cons.2 ⟨fun r hr b hb hrb=> ?_,T.dis⟩,S.ok0⟩
 · rcases List.mem_cons.1 hr with rfl|hr
   · exact⟨hl,hP,fun b hb=>by have:=ho b hb;have:=S.lo;omega⟩
   · exact T.at_ r hr
 · have:=(S.at_ r hr).2.2 b hrb;have:=ho b hb;omega
theorem Know.comp (S:Know h0 g L){g':Hp}{M:List Rs}(T:Know g g' M):Know h0 g' (M++L):=by
 have U:=S.call T.kp;refine⟨U.ok,U.kp,fun r hr=> ?_,List.pairwise_append.2 ⟨T.dis,U.dis,fun r hr s hs b hb hsb=> ?_⟩,S.ok0⟩
 · rcases List.mem_append.1 hr with hr|hr
   · obtain⟨h1,h2,h3⟩:=T.at_ r hr;exact⟨h1,h2,fun b hb=>by have:=h3 b hb;have:=S.lo;omega⟩
   · exact U.at_ r hr
 · have:=(T.at_ r hr).2.2 b hb;have:=(S.at_ s hs).2.2 b hsb;omega
theorem Know.compg (S:Know h0 g L){l:List Nat}{h':Hp}{M:List Rs}(T:Know (g.grd l) h' M):Know h0 (h'.rst g) (M++L):=by
 refine S.comp (g':=h'.rst g) ⟨S.ok.kp ⟨T.kp.get,T.kp.nx,rfl,T.kp.fr⟩,⟨T.kp.get,T.kp.nx,rfl,T.kp.fr⟩,fun r hr=> ?_,T.dis,S.ok⟩;obtain⟨h1,h2,h3⟩:=T.at_ r hr;exact⟨h1,h1 h' _ (Nat.le_refl _) (fun _ _=>rfl) h2,h3⟩
theorem Know.sel (S:Know h0 g L)(is:List Nat)(hn:is.Nodup){M:List Rs}(hM:M=is.filterMap (fun i=>L[i]?)):Know h0 g M:=by
 subst hM;refine⟨S.ok,S.kp,fun r hr=> ?_,?_,S.ok0⟩
 · obtain⟨i,_,hi⟩:=List.mem_filterMap.1 hr;exact S.at_ r (List.mem_of_getElem? hi)
 · rw[List.pairwise_filterMap];exact hn.imp fun {i j} hij r hr s hs=>S.sep i j hr hs hij
theorem Know.sub (S:Know h0 g L)(M:List Rs)(h:M.Sublist L):Know h0 g M:=⟨S.ok,S.kp,fun r hr=>S.at_ r (h.subset hr),S.dis.sublist h,S.ok0⟩
theorem append_newE {P:Program}{sT e:TypeId}{esz bytes:Nat}(T:AppT P sT e esz bytes){h:Hp}{base:Nat}{a:Option Addr}{n c:Nat}{xs:List Value}(H:AccE h base e esz a n c xs)
 {x:Value} {ys:List Value} {k:Nat} (hx: ∃a n c,x= .slice a n c) (hs:srcCells h esz x=some (ys,k)) (h1:ys.all one=true) (hkp:0<k) {a':Option Addr} {n' c':Nat} {h':Hp} (e1:appendV P h sT sT (.slice a n c) x=some (.slice a' n' c',h')):a'=some ⟨h.nx,0,none⟩:=by
 rcases H with H|⟨rfl,rfl,rfl,o,rfl,h2,h3,e2,m,h4⟩
 · exact append_new T H hx hs h1 hkp e1
 · obtain⟨hz,info,z,hi,hzz,hrun⟩:=T.run;rw[hrun h _ x hx,hs]at e1;have hk0:Nat.beq k 0=false:=by rw[Bool.eq_false_iff];intro hh;have:=Nat.eq_of_beq_eq_true hh;omega
   simp only[Option.bind_some,h1,cond_true,hk0,cond_false]at e1;unfold appSome at e1;have e3:Nat.beq 0 unk=false:=by
    rw[Bool.eq_false_iff];intro hh;have:=Nat.eq_of_beq_eq_true hh;have:unk=18446744073709551616:=rfl;omega
   have e4:Nat.ble (0+k) 0=false:=by
    rw[Bool.eq_false_iff];intro hh;have:0+k≤0:=by simpa using hh
    omega
   have e5:readAt h o 0 (0*esz)=some []:=by rw[Nat.zero_mul,readAt_get h4 (by simp)];rfl
   simp only[h4,e3,e4,e5,cond_false,Option.bind_some]at e1;unfold appNew at e1;obtain⟨_,e1⟩:=cond_some e1;injection e1 with e1;injection e1 with e1 _;injection e1 with e1 _;exact e1.symm
theorem Know.rd (S:Know h0 g L)(i:Nat){b:Nat}{c:List Value}{e:TypeId}{m:Md}(hi:L[i]? =some (ob b (.cells c e m))){off n:Nat}{r:List Value}(hr:(c.drop off).take n=r)(hl:Nat.ble (off+n) c.length=true):readAt g b off n=some r:=by
 rw[readAt_get (S.obj i hi) (Nat.le_of_ble_eq_true hl),hr]
theorem Know.rdg (S:Know h0 g L)(i:Nat){b:Nat}{c:List Value}{e:TypeId}{m:Md}(hi:L[i]? =some (ob b (.cells c e m))){l:List Nat}{off n:Nat}{r:List Value}(hr:(c.drop off).take n=r)(hl:Nat.ble (off+n) c.length=true):readAt (g.grd l) b off n=some r:=S.rd i hi hr hl
theorem Know.gdf (S:Know h0 g L){b:Nat}(hb:h0.nx≤b):g.guarded b=false:=S.gl.free hb
theorem Know.gdfg (S:Know h0 g L){b:Nat}{l:List Nat}(hb:h0.nx≤b)(hl: ∀q∈l,q≠b):(g.grd l).guarded b=false:=guarded_of fun q hq=>by
 rcases List.mem_append.1 hq with h|h
 · exact hl q h
 · have:=S.gl q h;omega
theorem Know.cw (S:Know h0 g L)(i:Nat){b:Nat}{c:List Value}{e:TypeId}{m:Md}(hi:L[i]? =some (ob b (.cells c e m))){off:Nat}{vs:List Value}(hm:m≠ .ro)(hl:Nat.ble (off+vs.length) c.length=true)(h1:vs.all one=true):canW g b off vs=true:=canW_t (S.obj i hi) hm (S.gdf (S.orng i hi).1) (Nat.le_of_ble_eq_true hl) h1
theorem Know.wr (S:Know h0 g L)(i:Nat){b:Nat}{c:List Value}{e:TypeId}{m:Md}(hi:L[i]? =some (ob b (.cells c e m))){off:Nat}{vs:List Value}(hm:m≠ .ro)(hl:Nat.ble (off+vs.length) c.length=true)(h1:vs.all one=true):Know h0 (g.wr b off vs) (L.set i (ob b (.cells (putAt c off vs) e m))):=
 S.upd i hi (Ch.wr g b off vs) (ob.loc _ _) (wr_get (S.obj i hi) hm (S.gdf (S.orng i hi).1) (Nat.le_of_ble_eq_true hl) h1) fun _ h=> .inl h
theorem Know.cwg (S:Know h0 g L)(i:Nat){b:Nat}{c:List Value}{e:TypeId}{m:Md}(hi:L[i]? =some (ob b (.cells c e m))){l:List Nat}(hg: ∀q∈l,q≠b){off:Nat}{vs:List Value}(hm:m≠ .ro)(hl:Nat.ble (off+vs.length) c.length=true)(h1:vs.all one=true):canW (g.grd l) b off vs=true:=canW_t (h:=g.grd l) (S.obj i hi) hm (S.gdfg (S.orng i hi).1 hg) (Nat.le_of_ble_eq_true hl) h1
theorem Know.wrg (S:Know h0 g L)(i:Nat){b:Nat}{c:List Value}{e:TypeId}{m:Md}(hi:L[i]? =some (ob b (.cells c e m))){l:List Nat}(hg: ∀q∈l,q≠b){off:Nat}{vs:List Value}(hm:m≠ .ro)(hl:Nat.ble (off+vs.length) c.length=true)(h1:vs.all one=true):Know h0 (((g.grd l).wr b off vs).rst g) (L.set i (ob b (.cells (putAt c off vs) e m))):=
 S.upd i hi (Ch.wr (g.grd l) b off vs).rst (ob.loc _ _) (wr_get (h:=g.grd l) (S.obj i hi) hm (S.gdfg (S.orng i hi).1 hg) (Nat.le_of_ble_eq_true hl) h1) fun _ h=> .inl h
theorem Know.rsvK (S:Know h0 g L)(k:Nat):Know h0 (g.rsv k) (hole g.nx k []::L):=
 S.push ((Kp.refl _ g).rsv k) (hole.loc _ _ _) (fun o h1 _ _=>S.ok.fr o h1) fun _ hb=>⟨hb.1,hb.2.1⟩
theorem Know.fre (S:Know h0 g L)(i:Nat){lo k:Nat}{used:List Nat}(hi:L[i]? =some (hole lo k used)){q:Nat}(h1:lo≤q)(h2:q<lo+k)(h3:q ∉ used):g.free q=true:=free_t (S.get i hi q h1 h2 h3)
theorem Know.lay (S:Know h0 g L)(i:Nat){lo k:Nat}{used:List Nat}(hi:L[i]? =some (hole lo k used)){q:Nat}(h1:lo≤q)(h2:q<lo+k)(h3:q ∉ used)(x:Ob):Know h0 (g.lay q x) (ob q x::L.set i (hole lo k (q::used))):=by
 have hq:=S.rng i hi q ⟨h1,h2,h3⟩;have ge: ∀o,o≠q→(g.lay q x).get o=g.get o:=fun o ho=>by rw[get_lay,if_neg ho]
 have S1:Know h0 (g.lay q x) (L.set i (hole lo k (q::used))):=S.upd i hi (g':=g.lay q x) ⟨fun o _ ho=>ge o (fun h=>ho (h▸⟨h1,h2,h3⟩)),Nat.le_refl _,rfl,fun f=>f.lay hq.2 x⟩ (hole.loc _ _ _) (fun o a b c=>(ge o (fun h=>c (h▸List.mem_cons_self ..))).trans (S.get i hi o a b (fun h=>c (List.mem_cons_of_mem _ h)))) fun b hb=> .inl ⟨hb.1,hb.2.1,fun h=>hb.2.2 (List.mem_cons_of_mem _ h)⟩;refine⟨S1.ok,S1.kp,fun r hr=> ?_,List.pairwise_cons.2 ⟨fun r hr b hb hrb=> ?_,S1.dis⟩,S.ok0⟩
 · rcases List.mem_cons.1 hr with rfl|hr
   · exact⟨ob.loc _ _,by show(g.lay q x).get q=_;rw[get_lay,if_pos rfl],fun b hb=>by cases hb;exact hq⟩
   · exact S1.at_ r hr
 · obtain rfl:b=q:=hb;obtain⟨j,hj⟩:=List.mem_iff_getElem?.1 hr;by_cases hij:i=j
   · subst hij;rw[List.getElem?_set_self (List.getElem?_eq_some_iff.1 hi).1]at hj;obtain rfl:=Option.some.inj hj;exact hrb.2.2 (List.mem_cons_self ..)
   · rw[List.getElem?_set_ne hij]at hj;exact S.sep i j hi hj hij b ⟨h1,h2,h3⟩ hrb
theorem rst_eq {h h':Hp}(e:h'.gd=h.gd):h'.rst h=h':=by
 cases h';unfold Hp.rst;cases e;rfl
theorem Know.acc0 (S:Know h0 g L)(i:Nat){b:Nat}{e':TypeId}{m:Md}(hi:L[i]? =some (ob b (.cells [] e' m)))(lo:Nat)(hlo:lo≤b)(e:TypeId)(esz:Nat):Know h0 g (L.set i (acc lo e esz (some ⟨b,0,none⟩) 0 0 [])):=
 S.upd i hi (Ch.refl _ g) (acc.loc _ _ _ _ _ _ _) (.inr ⟨rfl,rfl,rfl,b,rfl,hlo,(S.orng i hi).2,_,_,S.obj i hi⟩) fun q hq=> .inl (by injection hq with hq;injection hq with hq;exact hq.symm)
theorem Know.accOb (S:Know h0 g L)(i:Nat){lo:Nat}{e:TypeId}{esz:Nat}{a:Option Addr}{n c:Nat}{xs:List Value}(hi:L[i]? =some (acc lo e esz a n c xs))(hx:xs≠ []): ∃o,a=some ⟨o,0,none⟩∧c=unk∧n*esz=xs.length∧lo≤o∧Know h0 g (L.set i (ob o (.cells xs e .grow))):=by
 have A:AccE g lo e esz a n c xs:=S.get i hi;rcases A with (⟨_,_,_,h⟩|⟨o,rfl,h2,h3,h4,h5,h6⟩)|⟨h,_⟩
 · exact absurd h hx
 · exact⟨o,rfl,h2,h3,h4,S.upd i hi (Ch.refl _ g) (ob.loc _ _) h6 fun q hq=> .inl (by cases hq;rfl)⟩
 · exact absurd h hx
theorem Know.accNil (S:Know h0 g L)(lo:Nat)(e:TypeId)(esz:Nat):Know h0 g (acc lo e esz none 0 0 []::L):=
 S.push (Kp.refl _ g) (acc.loc _ _ _ _ _ _ _) (.inl (Acc.nil ..)) fun b hb=>by cases hb
theorem Know.appg (S:Know h0 g L)(i:Nat){lo:Nat}{e:TypeId}{esz:Nat}{a:Option Addr}{n c:Nat}{xs:List Value}(hi:L[i]? =some (acc lo e esz a n c xs))(hlo:h0.nx≤lo)(hlo2:lo≤g.nx){P:Program}{sT:TypeId}{bytes:Nat}(T:AppT P sT e esz bytes){l:List Nat}(hl: ∀q∈l,q<lo)
 {x:Value} {ys:List Value} {k:Nat} (hx: ∃a n c,x= .slice a n c) (hs:srcCells g esz x=some (ys,k)) (hk:ys.length=k*esz) (h1:ys.all one=true) (hB:(n+k+(n+k))*bytes≤281474976710656) (hU:n+k<big):
 ∃a' n' c' h',appendV P (g.grd l) sT sT (.slice a n c) x=some (.slice a' n' c',h')∧n'=n+k∧Know h0 (h'.rst g) (L.set i (acc lo e esz a' n' c' (xs++ys))):=by
 have A:AccE (g.grd l) lo e esz a n c xs:=S.get i hi;have G:GdLt (g.grd l) lo:=fun q hq=>by
  rcases List.mem_append.1 hq with h|h
  · exact hl q h
  · have:=S.gl q h;omega
 obtain⟨a',n',c',h',e1,A',en,k'⟩:=append_accE T (h:=g.grd l) A hlo2 G hx hs hk h1 hB hU;refine⟨a',n',c',h',e1,en,S.upd i hi (r':=acc lo e esz a' n' c' (xs++ys)) (g':=h'.rst g) ⟨fun o ho hne=>k'.get o ho hne,k'.nx,rfl,fun f=>k'.fr f⟩ (acc.loc _ _ _ _ _ _ _) (A'.keep (fun _ _ _=>rfl) (Nat.le_refl _)) fun b hb=> ?_⟩;rcases Nat.eq_zero_or_pos k with rfl|hkp
 · left;show a=some ⟨b,0,none⟩;rw[←hb];obtain⟨_,info,z,hi',hzz,hrun⟩:=T.run;rw[hrun _ _ x hx,show srcCells (g.grd l) esz x=some (ys,0) from hs]at e1;simp only[Option.bind_some,h1,cond_true,Nat.beq_refl]at e1;unfold appNone at e1;split at e1
   · injection e1 with e1;injection e1 with e1 _;injection e1
   · obtain⟨_,e1⟩:=cond_some e1;injection e1 with e1;injection e1 with e1 _;injection e1
   · cases e1
 · have:=append_newE T A hx hs h1 hkp e1;have hb:a'=some ⟨b,0,none⟩:=hb;rw[this]at hb;injection hb with hb;injection hb with hb;have:=(A'.lt (by rw[this])).2;exact .inr ⟨Nat.le_of_eq hb,by rw[←hb];exact this⟩
theorem Know.app (S:Know h0 g L)(i:Nat){lo:Nat}{e:TypeId}{esz:Nat}{a:Option Addr}{n c:Nat}{xs:List Value}(hi:L[i]? =some (acc lo e esz a n c xs))(hlo:h0.nx≤lo)(hlo2:lo≤g.nx){P:Program}{sT:TypeId}{bytes:Nat}(T:AppT P sT e esz bytes)
 {x:Value} {ys:List Value} {k:Nat} (hx: ∃a n c,x= .slice a n c) (hs:srcCells g esz x=some (ys,k)) (hk:ys.length=k*esz) (h1:ys.all one=true) (hB:(n+k+(n+k))*bytes≤281474976710656) (hU:n+k<big):
 ∃a' n' c' h',appendV P g sT sT (.slice a n c) x=some (.slice a' n' c',h')∧n'=n+k∧Know h0 h' (L.set i (acc lo e esz a' n' c' (xs++ys))):=by
 have A:AccE g lo e esz a n c xs:=S.get i hi;obtain⟨a',n',c',h',e1,en,S'⟩:=S.appg (l:=[]) i hi hlo hlo2 T (fun _ h=>by cases h) hx hs hk h1 hB hU;obtain⟨a2,n2,c2,h2,e2,_,_,k'⟩:=append_accE T A hlo2 (fun q hq=>by have:=S.gl q hq;omega) hx hs hk h1 hB hU;have e1':appendV P g sT sT (.slice a n c) x=some (.slice a' n' c',h'):=e1;rw[e1']at e2;have:h'=h2:=by injection e2 with e2;injection e2
 subst this;rw[rst_eq k'.gd]at S';exact⟨a',n',c',h',e1',en,S'⟩
end
end Go.Ev
namespace Go.Proofs.YtngcjpkccnfjiaaGreatDoor
open Go Go.Ev
mutual
theorem weighF_le: ∀(v:Vl) (left d:Int),-1≤left→ -1≤weighF v left d∧(0≤left→weighF v left d≤left-1)
 | .mk _ _ _ ps,left,d,h=>by
   simp only[weighF];split
   · omega
   · have:=weighL_le ps (left-1) (d-1) (by omega);omega
theorem weighL_le: ∀(ps:List Vl) (left d:Int),-1≤left→ -1≤weighL ps left d∧weighL ps left d≤left
 | [],left,d,h=>by simp only[weighL];omega
 |v::r,left,d,h=>by
  simp only[weighL];split
  · omega
  · have a:=weighF_le v left d h;have b:=weighL_le r (weighF v left d) d (by omega);omega
end
theorem VA.form {h:Hp}{v:Vl}{vs:List Value}(H:VA h v vs): ∃(k n:Int) (t:ByteArray) (a:Option Addr) (m c:Nat),vs=[.int .i64 k,.int .i64 n,.string t,.slice a m c]:=by
 cases H<;>exact⟨_,_,_,_,_,_,rfl⟩
section
variable {O:CallF}(hO:Oth O)
include hO
theorem ct92 {h:Hp}{v:Vl}{vs:List Value}(H:VA h v vs): ∀ {g:Hp},Kp h.nx h g→g.Ok→ ∀(left d:Int),-1≤left→left<1000000→ -1000≤d→d<1000000→
 Ret Tryz.prog O 92 [.agg vs.toArray,.int .i64 left,.int .i64 d] g fun r g'=>r= .int .i64 (weighF v left d)∧Kp g.nx g g':=by
 induction H with
 |nil k n t c=>
  intro g K ok left d h1 h2 h3 h4;refine rk92 (hO:=hO _ _ _ (by decide)) (hh:= ?_) ..;unfold T92;intro g1;have S:Know g g1 [_]:=(Know.nil ok).add _;refine vcond_split (fun e=> ?_) fun e=>vcond_split (fun e2=> ?_) fun e2=> ?_
  · have e:=lt_of_t e;exact⟨by simp only[weighF];rw[if_pos (.inl e)],S.kp⟩
  · have e2:=lt_of_t e2;exact⟨by simp only[weighF];rw[if_pos (.inr e2)],S.kp⟩
  · have e:=not_lt_of_f e;have e2:=not_lt_of_f e2;refine I92_0.of (hh:= ?_) ..;unfold T92_0;refine⟨_,_,_,S.rd 0 rfl rfl rfl,vcond_f rfl ⟨?_,S.kp⟩⟩;simp only[weighF];rw[if_neg (by omega),weighL,wrap64 (by omega) (by omega)]
 |at_ k n t ps b off c cs e m hb hg hl hp ih=>
  intro g K ok left d h1 h2 h3 h4;refine rk92 (hO:=hO _ _ _ (by decide)) (hh:= ?_) ..;unfold T92;intro g1;have S:Know g g1 [ob g.nx (.cells [.int .i64 k,.int .i64 n,.string t,.slice (some ⟨b,off,none⟩) ps.length c] 46 .fix)]:=(Know.nil ok).add _;refine vcond_split (fun e=> ?_) fun e=>vcond_split (fun e2=> ?_) fun e2=> ?_
  · have e:=lt_of_t e;exact⟨by simp only[weighF];rw[if_pos (.inl e)],S.kp⟩
  · have e2:=lt_of_t e2;exact⟨by simp only[weighF];rw[if_pos (.inr e2)],S.kp⟩
  · have e:=not_lt_of_f e;have e2:=not_lt_of_f e2;simp only[weighF];rw[if_neg (by omega),wrap64 (by omega) (by omega)];have ed:wrapF .i64 (d-1)=d-1:=by rw[wrap64 (by omega) (by omega)]
    have go: ∀(j i:Nat),i+j=ps.length→ ∀(x:Int) (g2:Hp),-1≤x→x<1000000→(i:Int)+x≤left-1→Know g g2 [ob g.nx (.cells [.int .i64 k,.int .i64 n,.string t,.slice (some ⟨b,off,none⟩) ps.length c] 46 .fix)]→
     I92_0 O (fun r g'=>r= .int .i64 (weighL (ps.drop i) x (d-1))∧Kp g.nx g g') k n t (some ⟨b,off,none⟩) ps.length c left d x g.nx 0 (Int.ofNat i) g2:=by
     intro j
     induction j with
     |zero=>
      intro i hi x g2 _ _ _ S;refine I92_0.of (hh:= ?_) ..;unfold T92_0;refine⟨_,_,_,S.rd 0 rfl rfl rfl,vcond_f (by rw[ltI_nat];exact blt_f (by omega)) ⟨?_,S.kp⟩⟩;rw[List.drop_of_length_le (by omega),weighL]
     |succ j ihj=>
      intro i hi x g2 hx1 hx2 hx3 S;have hi':i<ps.length:=by omega
      refine I92_0.of (hh:= ?_) ..;unfold T92_0;rw[List.drop_eq_getElem_cons hi',weighL];refine⟨_,_,_,S.rd 0 rfl rfl rfl,vcond_t (by rw[ltI_nat];exact blt_t (by omega)) (vcond_split (fun e3=> ?_) fun e3=>⟨?_,S.kp⟩)⟩
      · have e3: ¬x<0:=not_lt_of_f (by simpa using e3);rw[if_neg e3];have kk:Kp h.nx h g2:=K.trans (S.kp.le K.nx);have hv:=hp i hi';have rdv:readAt g2 b (off+i*4) 4=some ((cs.drop (off+i*4)).take 4):=readAt_get ((kk.get _ hb).trans hg) (by omega);refine⟨_,_,_,S.rd 0 rfl rfl rfl,isNat_i (show isAddr (some ⟨b,off,none⟩) _ from vreq_t (blt_t hi') ?_)⟩;have ihi:=ih i hi' kk S.ok x (d-1) hx1 hx2 (by omega) (by omega);generalize (cs.drop (off+i*4)).take 4=ws at rdv ihi hv;have wl:=weighF_le ps[i] x (d-1) hx1;rw[ed,wrap_succ (by omega)];obtain⟨_,_,_,_,_,_,rfl⟩:=hv.form;refine⟨_,_,_,_,_,_,rdv,?_⟩;obtain⟨r,g3,e4,rfl,K3⟩:=ihi;exact⟨_,g3,e4,ihj (i+1) (by omega) _ g3 (by omega) (by omega) (by omega) (S.call K3)⟩
      · have e3:x<0:=lt_of_t (by simpa using e3);rw[if_pos e3]
    have:=go ps.length 0 (by omega) (left-1) g1 (by omega) (by omega) (by omega) S;exact this
end
end Go.Proofs.YtngcjpkccnfjiaaGreatDoor
namespace Go.Proofs.YtngcjpkccnfjiaaGreatDoor
open Go Go.Ev
theorem weighL_ok: ∀(ps:List Vl) (l d:Int),-1≤l→0≤weighL ps l d→(ps.length:Int)≤l∧ ∀p∈ps,∃l',-1≤l'∧l'≤l∧0≤weighF p l' d
 | [],l,d,_,h=>by
   simp only[weighL]at h;exact⟨by simpa using h,fun p hp=>by cases hp⟩
 |v::r,l,d,h1,h=>by
  simp only[weighL]at h;split at h
  · omega
  · have a:=weighF_le v l d h1;have b:=weighL_le r (weighF v l d) d a.1;obtain⟨c1,c2⟩:=weighL_ok r (weighF v l d) d a.1 h;refine⟨by simp only[List.length_cons];omega,fun p hp=> ?_⟩;rcases List.mem_cons.1 hp with rfl|hp
    · exact⟨l,h1,Int.le_refl _,by omega⟩
    · obtain⟨l',q1,q2,q3⟩:=c2 p hp;exact⟨l',q1,by omega,q3⟩
def Few (v:Vl):Prop:= ∃l d:Int,-1≤l∧l<1000000∧0≤weighF v l d
theorem Few.parts {k n:Int}{t:ByteArray}{ps:List Vl}(F:Few (.mk k n t ps)):ps.length<1000000∧ ∀p∈ps,Few p:=by
 obtain⟨l,d,h1,h2,h3⟩:=F;simp only[weighF]at h3;split at h3
 · omega
 · obtain⟨a,b⟩:=weighL_ok ps (l-1) (d-1) (by omega) h3;refine⟨by omega,fun p hp=> ?_⟩;obtain⟨l',q1,q2,q3⟩:=b p hp;exact⟨l',d-1,q1,by omega,q3⟩
mutual
def briefF:Vl→Bool
 | .mk _ _ t ps=>briefL ps&& !(ltI 30 (Int.ofNat t.size))
def briefL:List Vl→Bool
 | []=>true
 |v::r=>briefF v&&briefL r
end
section
variable {O:CallF}(hO:Oth O)
include hO
theorem ct93 {h:Hp}{v:Vl}{vs:List Value}(H:VA h v vs):Few v→ ∀ {g:Hp},Kp h.nx h g→g.Ok→Ret Tryz.prog O 93 [.agg vs.toArray] g fun r g'=>r= .bool (briefF v)∧Kp g.nx g g':=by
 induction H with
 |nil k n t c=>
  intro _ g K ok;refine rk93 (hO:=hO _ _ _ (by decide)) (hh:= ?_) ..;unfold T93;intro g1;have S:Know g g1 [_]:=(Know.nil ok).add _;refine I93_0.of (hh:= ?_) ..;unfold T93_0;exact⟨_,_,_,S.rd 0 rfl rfl rfl,vcond_f rfl ⟨_,S.rd 0 rfl rfl rfl,by simp only[briefF,briefL,Bool.true_and],S.kp⟩⟩
 |at_ k n t ps b off c cs e m hb hg hl hp ih=>
  intro F g K ok;obtain⟨fl,fp⟩:=F.parts;refine rk93 (hO:=hO _ _ _ (by decide)) (hh:= ?_) ..;unfold T93;intro g1;have S:Know g g1 [ob g.nx (.cells [.int .i64 k,.int .i64 n,.string t,.slice (some ⟨b,off,none⟩) ps.length c] 46 .fix)]:=(Know.nil ok).add _;simp only[briefF];have go: ∀(j i:Nat),i+j=ps.length→ ∀(g2:Hp),Know g g2 [ob g.nx (.cells [.int .i64 k,.int .i64 n,.string t,.slice (some ⟨b,off,none⟩) ps.length c] 46 .fix)]→
   I93_0 O (fun r g'=>r= .bool (briefL (ps.drop i)&& !(ltI 30 (Int.ofNat t.size)))∧Kp g.nx g g') k n t (some ⟨b,off,none⟩) ps.length c g.nx 0 false (Int.ofNat i) g2:=by
   intro j
   induction j with
   |zero=>
    intro i hi g2 S;refine I93_0.of (hh:= ?_) ..;unfold T93_0;refine⟨_,_,_,S.rd 0 rfl rfl rfl,vcond_f (by rw[ltI_nat];exact blt_f (by omega)) ⟨_,S.rd 0 rfl rfl rfl,?_,S.kp⟩⟩;rw[List.drop_of_length_le (by omega),briefL,Bool.true_and]
   |succ j ihj=>
    intro i hi g2 S;have hi':i<ps.length:=by omega
    refine I93_0.of (hh:= ?_) ..;unfold T93_0;rw[List.drop_eq_getElem_cons hi',briefL];have kk:Kp h.nx h g2:=K.trans (S.kp.le K.nx);have hv:=hp i hi';have rdv:readAt g2 b (off+i*4) 4=some ((cs.drop (off+i*4)).take 4):=readAt_get ((kk.get _ hb).trans hg) (by omega);refine⟨_,_,_,S.rd 0 rfl rfl rfl,vcond_t (by rw[ltI_nat];exact blt_t (by omega)) ⟨_,_,_,S.rd 0 rfl rfl rfl,isNat_i (show isAddr (some ⟨b,off,none⟩) _ from vreq_t (blt_t hi') ?_)⟩⟩;have ihi:=ih i hi' (fp _ (List.getElem_mem hi')) kk S.ok;generalize (cs.drop (off+i*4)).take 4=ws at rdv ihi hv;obtain⟨_,_,_,_,_,_,rfl⟩:=hv.form;refine⟨_,_,_,_,_,_,rdv,?_⟩;obtain⟨r,g3,e4,rfl,K3⟩:=ihi;refine⟨_,g3,e4,?_⟩;have S3:Know g g3 [ob g.nx (.cells [.int .i64 k,.int .i64 n,.string t,.slice (some ⟨b,off,none⟩) ps.length c] 46 .fix)]:=S.call K3;rw[wrap_succ (by omega)];cases hbf:briefF ps[i]with
    |false=>exact vcond_t rfl ⟨by simp,S3.kp⟩
    |true=>exact vcond_f rfl (by simpa using ihj (i+1) (by omega) g3 S3)
  exact go ps.length 0 (by omega) g1 S
def smallF (v:Vl):Bool:= !(ltI (weighF v 260 12) 0)&&briefF v
theorem ct30 {h:Hp}{v:Vl}{vs:List Value}(H:VA h v vs)(ok:h.Ok):Ret Tryz.prog O 30 [.agg vs.toArray] h fun r g'=>r= .bool (smallF v)∧Kp h.nx h g':=by
 obtain⟨k,n,t,a,m,c,rfl⟩:=H.form;refine rk30 (hO:=hO _ _ _ (by decide)) (hh:= ?_) ..;unfold T30;intro g1;have S:Know h g1 [ob h.nx (.cells [.int .i64 k,.int .i64 n,.string t,.slice a m c] 46 .fix)]:=(Know.nil ok).add _;refine⟨_,_,_,_,_,_,S.rd 0 rfl rfl rfl,?_⟩;obtain⟨r,g2,e2,rfl,K2⟩:=ct92 hO H S.kp S.ok 260 12 (by omega) (by omega) (by omega) (by omega);have S2:Know h g2 [ob h.nx (.cells [.int .i64 k,.int .i64 n,.string t,.slice a m c] 46 .fix)]:=S.call K2;refine⟨_,_,e2,?_⟩;unfold smallF;cases hw:ltI (weighF v 260 12) 0 with
 |true=>exact vcond_f rfl ⟨rfl,S2.kp⟩
 |false=>
  have:=not_lt_of_f hw;refine vcond_t rfl ⟨_,_,_,_,_,_,S2.rd 0 rfl rfl rfl,?_⟩;obtain⟨r,g3,e3,rfl,K3⟩:=ct93 hO H ⟨260,12,by omega,by omega,by omega⟩ S2.kp S2.ok;exact⟨_,_,e3,by simp,(S2.call K3).kp⟩
end
end Go.Proofs.YtngcjpkccnfjiaaGreatDoor
namespace Go.Proofs.YtngcjpkccnfjiaaGreatDoor
open Go Go.Ev
mutual
def eqF:Vl→Vl→Bool
 | .mk k n t ps,.mk k' n' t' qs=>eqI k k'&&(eqI n n'&&(sEq t t'&&(Nat.beq ps.length qs.length&&eqL ps qs)))
def eqL:List Vl→List Vl→Bool
 |p::ps,q::qs=>eqF p q&&eqL ps qs
 |_,_=>true
end
def PA (h:Hp)(a:Option Addr)(n:Nat)(ps:List Vl):Prop:=n=ps.length∧ ∀(i:Nat) (hi:i<ps.length),∃b off,a=some ⟨b,off,none⟩∧ ∃ws,VA h ps[i] ws∧ ∀ {g:Hp},(∀o,o<h.nx→g.get o=h.get o)→readAt g b (off+i*4) 4=some ws
theorem PA.of {h:Hp}{k n:Int}{t:ByteArray}{ps:List Vl}{vs:List Value}(H:VA h (.mk k n t ps) vs): ∃a m c,vs=[.int .i64 k,.int .i64 n,.string t,.slice a m c]∧PA h a m ps:=by
 cases H with
 |nil k n t c=>exact⟨none,0,c,rfl,rfl,fun i hi=>absurd hi (Nat.not_lt_zero _)⟩
 |at_ k n t ps b off c cs e m hb hg hl hp=>exact⟨_,_,_,rfl,rfl,fun i hi=>⟨b,off,rfl,_,hp i hi,fun K=>readAt_get ((K _ hb).trans hg) (by omega)⟩⟩
section
variable {O:CallF}(hO:Oth O)
include hO
theorem ct104 {h:Hp}{a a':Option Addr}{n n' c c':Nat}{ps qs:List Vl}(P:PA h a n ps)(Q':PA h a' n' qs)(hl:ps.length<1000000)
 (ih: ∀(i:Nat) (hi:i<ps.length) {ws:List Value},VA h ps[i] ws→ ∀ {q:Vl} {us:List Value},VA h q us→ ∀ {g:Hp},Kp h.nx h g→g.Ok→Ret Tryz.prog O 35 [.agg ws.toArray,.agg us.toArray] g fun r g'=>r= .bool (eqF ps[i] q)∧Kp g.nx g g') {g:Hp} (K:Kp h.nx h g) (ok:g.Ok):
 Ret Tryz.prog O 104 [.slice a n c,.slice a' n' c'] g fun r g'=>r= .bool (Nat.beq ps.length qs.length&&eqL ps qs)∧Kp g.nx g g':=by
 refine rk104 (hO:=hO _ _ _ (by decide)) (hh:= ?_) ..;unfold T104;have h1:=P.1;have h2:=Q'.1;by_cases hne:n=n'
 · have hb:Nat.beq ps.length qs.length=true:=by rw[show ps.length=qs.length by omega];exact Nat.beq_refl _
   rw[hb,Bool.true_and];refine vcond_f (by rw[hne,eqI_t rfl];rfl) ?_;have go: ∀(j i:Nat),i+j=ps.length→ ∀(g2:Hp),Know g g2 []→I104_0 O (fun r g'=>r= .bool (eqL (ps.drop i) (qs.drop i))∧Kp g.nx g g') a n c a' n' c' false (Int.ofNat i) g2:=by
    intro j
    induction j with
    |zero=>
     intro i hi g2 S;refine I104_0.of (hh:= ?_) ..;unfold T104_0;refine vcond_f (by rw[ltI_nat];exact blt_f (by omega)) ⟨?_,S.kp⟩;rw[List.drop_of_length_le (by omega),eqL]
     intros;contradiction
    |succ j ihj=>
     intro i hi g2 S;have i1:i<ps.length:=by omega
     have i2:i<qs.length:=by omega
     refine I104_0.of (hh:= ?_) ..;unfold T104_0;rw[List.drop_eq_getElem_cons i1,List.drop_eq_getElem_cons i2,eqL];refine vcond_t (by rw[ltI_nat];exact blt_t (by omega)) ?_;intro g101;have S1:Know g g101 []:=S.rsv 10;have kk:Kp h.nx h g101:=K.trans (S1.kp.le K.nx);obtain⟨b,off,rfl,ws,V,rv⟩:=P.2 i i1;obtain⟨b',off',rfl,us,U,ru⟩:=Q'.2 i i2;have rv:=rv kk.get;have ru:=ru kk.get;have ihi:=ih i i1 V U (g:=g101.grd []) ⟨kk.get,kk.nx,kk.gd,kk.fr⟩ (S1.ok.grd fun q hq=>by cases hq);obtain⟨_,_,_,_,_,_,rfl⟩:=V.form;obtain⟨_,_,_,_,_,_,rfl⟩:=U.form;refine isNat_i (show isAddr (some ⟨b,off,none⟩) _ from vreq_t (blt_t (by omega)) ⟨_,_,_,_,_,_,rv,isNat_i (show isAddr (some ⟨b',off',none⟩) _ from vreq_t (blt_t (by omega)) ⟨_,_,_,_,_,_,ru,?_⟩)⟩);obtain⟨r,g3,e4,rfl,K3⟩:=ihi;refine⟨_,g3,e4,?_⟩;intro g122;have S3:Know g g122 []:=S1.callg K3;rw[wrap_succ (by omega)];cases hbf:eqF ps[i] qs[i]with
     |false=>exact vcond_t rfl ⟨by simp,S3.kp⟩
     |true=>exact vcond_f rfl (by simpa using ihj (i+1) (by omega) g122 S3)
   exact go ps.length 0 (by omega) g (Know.nil ok)
 · have hb:Nat.beq ps.length qs.length=false:=by rw[Bool.eq_false_iff];intro e;have:=Nat.eq_of_beq_eq_true e;omega
   rw[hb];exact vcond_t (by rw[eqI_f (by simp only[Int.ofNat_eq_natCast];omega)];rfl) ⟨rfl,.refl _ _⟩
theorem ct35 {h:Hp}{v:Vl}{vs:List Value}(H:VA h v vs):Few v→ ∀ {w:Vl} {us:List Value},VA h w us→ ∀ {g:Hp},Kp h.nx h g→g.Ok→Ret Tryz.prog O 35 [.agg vs.toArray,.agg us.toArray] g fun r g'=>r= .bool (eqF v w)∧Kp g.nx g g':=by
 have key: ∀ {k n:Int} {t:ByteArray} {ps:List Vl} {vs:List Value},VA h (.mk k n t ps) vs→ps.length<1000000→
  (∀(i:Nat) (hi:i<ps.length) {ws:List Value},VA h ps[i] ws→ ∀ {q:Vl} {us:List Value},VA h q us→ ∀ {g:Hp},Kp h.nx h g→g.Ok→Ret Tryz.prog O 35 [.agg ws.toArray,.agg us.toArray] g fun r g'=>r= .bool (eqF ps[i] q)∧Kp g.nx g g')→
  ∀ {w:Vl} {us:List Value},VA h w us→ ∀ {g:Hp},Kp h.nx h g→g.Ok→Ret Tryz.prog O 35 [.agg vs.toArray,.agg us.toArray] g fun r g'=>r= .bool (eqF (.mk k n t ps) w)∧Kp g.nx g g':=by
  intro k n t ps vs V fl ih w us U g K ok;obtain⟨k',n',t',qs⟩:=w;obtain⟨a,m,c,rfl,P⟩:=PA.of V;obtain⟨a',m',c',rfl,Q'⟩:=PA.of U;refine rk35 (hO:=hO _ _ _ (by decide)) (hh:= ?_) ..;unfold T35;intro g1;have S:Know g g1 [ob g.nx (.cells [.int .i64 k,.int .i64 n,.string t,.slice a m c] 46 .fix)]:=(Know.nil ok).add _;intro g2;have S:Know g g2 [ob g1.nx (.cells [.int .i64 k',.int .i64 n',.string t',.slice a' m' c'] 46 .fix),ob g.nx (.cells [.int .i64 k,.int .i64 n,.string t,.slice a m c] 46 .fix)]:=S.add _;simp only[eqF];refine⟨_,S.rd 1 rfl rfl rfl,_,S.rd 0 rfl rfl rfl,?_⟩;cases h1:eqI k k' with
  |false=>exact vcond_t rfl ⟨by rfl,S.kp⟩
  |true=>
  refine vcond_f rfl ⟨_,S.rd 1 rfl rfl rfl,_,S.rd 0 rfl rfl rfl,?_⟩;cases h2:eqI n n' with
  |false=>exact vcond_t rfl ⟨by rfl,S.kp⟩
  |true=>
  refine vcond_f rfl ⟨_,S.rd 1 rfl rfl rfl,_,S.rd 0 rfl rfl rfl,?_⟩;cases h3:sEq t t' with
  |false=>exact vcond_t rfl ⟨by rfl,S.kp⟩
  |true=>
  refine vcond_f rfl ⟨_,_,_,S.rd 1 rfl rfl rfl,_,_,_,S.rd 0 rfl rfl rfl,?_⟩;obtain⟨r,g3,e3,rfl,K3⟩:=ct104 hO P Q' fl ih (K.trans (S.kp.le K.nx)) S.ok;exact⟨_,g3,e3,by simp only[Bool.true_and],(S.call K3).kp⟩
 have main: ∀(N:Nat) (v:Vl),SizeOf.sizeOf v<N→ ∀(vs:List Value),VA h v vs→Few v→ ∀ {w:Vl} {us:List Value},VA h w us→ ∀ {g:Hp},Kp h.nx h g→g.Ok→Ret Tryz.prog O 35 [.agg vs.toArray,.agg us.toArray] g fun r g'=>r= .bool (eqF v w)∧Kp g.nx g g':=by
  intro N
  induction N with
  |zero=>intro v hv;exact absurd hv (Nat.not_lt_zero _)
  |succ N ih=>
   intro v hv vs V F w us U g K ok;obtain⟨k,n,t,ps⟩:=v;refine key V F.parts.1 (fun i hi ws V' q us U' g K ok=>ih ps[i] ?_ ws V' (F.parts.2 _ (List.getElem_mem hi)) U' K ok) U K ok;have:=List.sizeOf_lt_of_mem (List.getElem_mem hi);have e:SizeOf.sizeOf (Vl.mk k n t ps)=1+SizeOf.sizeOf k+SizeOf.sizeOf n+SizeOf.sizeOf t+SizeOf.sizeOf ps:=Vl.mk.sizeOf_spec k n t ps;omega
 exact fun F {w us} U {g} K ok=>main (SizeOf.sizeOf v+1) v (Nat.lt_succ_self _) vs H F U K ok
end
end Go.Proofs.YtngcjpkccnfjiaaGreatDoor
namespace Go.Proofs.YtngcjpkccnfjiaaGreatDoor
open Go Go.Ev
set_option maxRecDepth 100000
set_option linter.unusedVariables false
noncomputable def b143:Code:=(Tryz.f143.body).getD .skip
def lv143:List (Nat×List Nat):=[]
def T143 (O:CallF)(Q:VQ)(x0 x1:Int)(h:Hp):Prop:=
 ∃x1' x2 h3,EvC Tryz.prog O 152 [.int .u64 x0,.int .u64 x1] h (.tuple #[.int .u64 x1',.int .u64 x2]) h3∧
 Q (.tuple #[.int .u64 x1',.int .u64 x2]) h3
theorem rk143 {O Q} (x0 x1){h:Hp}(hO:O 143 [.int .u64 x0,.int .u64 x1] h=none)(hh:T143 O Q x0 x1 h):Ret Tryz.prog O 143 [.int .u64 x0,.int .u64 x1] h Q:=
 .of (c:=b143) Tryz.func143 (by kernel_rfl) hO (V_ok (tb:=lv143) (cuts:=[]) 500 (Eq.mp (by kernel_rfl) hh))
noncomputable def b150:Code:=(Tryz.f150.body).getD .skip
def lv150:List (Nat×List Nat):=[]
def T150 (O:CallF)(Q:VQ)(x0 x1:Int)(h:Hp):Prop:=
 vcond (ltI x0 x1)
 (Q (.int .i64 (-1)) h)
 (vcond (ltI x1 x0)
 (Q (.int .i64 1) h)
 (Q (.int .i64 0) h))
theorem rk150 {O Q} (x0 x1){h:Hp}(hO:O 150 [.int .i64 x0,.int .i64 x1] h=none)(hh:T150 O Q x0 x1 h):Ret Tryz.prog O 150 [.int .i64 x0,.int .i64 x1] h Q:=
 .of (c:=b150) Tryz.func150 (by kernel_rfl) hO (V_ok (tb:=lv150) (cuts:=[]) 500 (Eq.mp (by kernel_rfl) hh))
noncomputable def b152:Code:=(Tryz.f152.body).getD .skip
def lv152:List (Nat×List Nat):=[]
def T152 (O:CallF)(Q:VQ)(x0 x1:Int)(h:Hp):Prop:=
 vreq (inD 18446744073709551616 x0)
 (vreq (inD 18446744073709551616 x1)
 (vreq (inD 18446744073709551616 (wrapF .u64 ((wrapF .u64 ((shrF .u64 x0 32)*(landI x1 4294967295)))+(shrF .u64 (wrapF .u64 ((landI x0 4294967295)*(landI x1 4294967295))) 32))))
 (Q (.tuple #[(.int .u64 (wrapF .u64 ((wrapF .u64 ((wrapF .u64 ((shrF .u64 x0 32)*(shrF .u64 x1 32)))+(shrF .u64 (wrapF .u64 ((wrapF .u64 ((shrF .u64 x0 32)*(landI x1 4294967295)))+(shrF .u64 (wrapF .u64 ((landI x0 4294967295)*(landI x1 4294967295))) 32))) 32)))+(shrF .u64 (wrapF .u64 ((landI (wrapF .u64 ((wrapF .u64 ((shrF .u64 x0 32)*(landI x1 4294967295)))+(shrF .u64 (wrapF .u64 ((landI x0 4294967295)*(landI x1 4294967295))) 32))) 4294967295)+(wrapF .u64 ((landI x0 4294967295)*(shrF .u64 x1 32))))) 32)))),.int .u64 (wrapF .u64 (x0*x1))]) h)))
theorem rk152 {O Q} (x0 x1){h:Hp}(hO:O 152 [.int .u64 x0,.int .u64 x1] h=none)(hh:T152 O Q x0 x1 h):Ret Tryz.prog O 152 [.int .u64 x0,.int .u64 x1] h Q:=
 .of (c:=b152) Tryz.func152 (by kernel_rfl) hO (V_ok (tb:=lv152) (cuts:=[]) 500 (Eq.mp (by kernel_rfl) hh))
end Go.Proofs.YtngcjpkccnfjiaaGreatDoor
namespace Go.Proofs.YtngcjpkccnfjiaaGreatDoor
open Go Go.Ev
def okByte (x:Int):Bool:= !(ltI x 32)&&(!(ltI 126 x)&&(!(eqI x 34)&& !(eqI x 92)))
def lettersF (t:ByteArray):Bool:=((List.range t.size).all fun i=>okByte (byteI t i))&& !(ltI 20 (Int.ofNat t.size))
def orderF (a b:Int):Int:=if a<b then-1 else if b<a then 1 else 0
theorem ev_ret {O:CallF}{f:FuncId}{args:List Value}{h:Hp}{v:Value}{h':Hp}(hr:Ret Tryz.prog O f args h fun a b=>a=v∧b=h'):EvT O f args h v h':=by
 obtain⟨_,_,e,rfl,rfl⟩:=hr;exact e
section
variable {O:CallF}(hO:Oth O)
include hO
theorem ct140 (x lo hi:Int)(h:Hp):EvT O 140 [.int .i64 x,.int .i64 lo,.int .i64 hi] h (.bool (!(ltI x lo)&& !(ltI hi x))) h:=by
 refine ev_ret (rk140 (hO:=hO _ _ _ (by decide)) (hh:= ?_) ..);unfold T140;cases h1:ltI x lo with
 |false=>exact vcond_t rfl ⟨by simp,rfl⟩
 |true=>exact vcond_f rfl ⟨rfl,rfl⟩
theorem ct150 (a b:Int)(h:Hp):EvT O 150 [.int .i64 a,.int .i64 b] h (.int .i64 (orderF a b)) h:=by
 refine ev_ret (rk150 (hO:=hO _ _ _ (by decide)) (hh:= ?_) ..);unfold T150 orderF;refine vcond_split (fun h1=> ?_) fun h1=>vcond_split (fun h2=> ?_) fun h2=> ?_
 · exact⟨by rw[if_pos (lt_of_t h1)],rfl⟩
 · exact⟨by rw[if_neg (not_lt_of_f h1),if_pos (lt_of_t h2)],rfl⟩
 · exact⟨by rw[if_neg (not_lt_of_f h1),if_neg (not_lt_of_f h2)],rfl⟩
theorem ct141 (t:ByteArray)(hs:t.size<1000000)(h:Hp):EvT O 141 [.string t] h (.bool (lettersF t)) h:=by
 refine ev_ret (rk141 (hO:=hO _ _ _ (by decide)) (hh:= ?_) ..);unfold T141;have go: ∀(d k:Nat),k+d=t.size→(∀i,i<k→okByte (byteI t i)=true)→I141_0 O (fun v h'=>v= .bool (lettersF t)∧h'=h) t t false (Int.ofNat k) h:=by
  intro d
  induction d with
  |zero=>
   intro k hk ha;refine I141_0.of (hh:= ?_) ..;unfold T141_0;refine vcond_f (by rw[ltI_nat];exact blt_f (by omega)) ⟨?_,rfl⟩;unfold lettersF;rw[List.all_eq_true.2 fun i hi=>ha i (by rw[List.mem_range]at hi;omega),Bool.true_and]
  |succ d ih=>
   intro k hk ha;refine I141_0.of (hh:= ?_) ..;unfold T141_0;have hkl:k<t.size:=by omega
   have bad:okByte (byteI t k)=false→lettersF t=false:=fun e=>by
    unfold lettersF;have:((List.range t.size).all fun i=>okByte (byteI t i))=false:=by
     rw[List.all_eq_false];exact⟨k,List.mem_range.2 hkl,by rw[e];decide⟩
    rw[this];rfl
   have q:=blt_t hkl;refine vcond_t (by rw[ltI_nat];exact q) (isNat_i (vreq_t q (vcond_split (fun h1=> ?_) fun h1=>isNat_i (vreq_t q (vcond_split (fun h2=> ?_) fun h2=>isNat_i (vreq_t q (vcond_split (fun h3=> ?_) fun h3=>isNat_i (vreq_t q (vcond_split (fun h4=> ?_) fun h4=> ?_)))))))))
   · exact⟨by rw[bad (by unfold okByte;rw[h1];rfl)],rfl⟩
   · exact⟨by rw[bad (by unfold okByte;rw[h1,h2];rfl)],rfl⟩
   · exact⟨by rw[bad (by unfold okByte;rw[h1,h2,h3];rfl)],rfl⟩
   · exact⟨by rw[bad (by unfold okByte;rw[h1,h2,h3,h4];rfl)],rfl⟩
   · rw[wrap_succ (by omega)];refine ih (k+1) (by omega) fun i hi=> ?_;rcases Nat.lt_or_ge i k with h5|h5
     · exact ha i h5
     · obtain rfl:i=k:=by omega
       unfold okByte;rw[h1,h2,h3,h4];rfl
 exact go t.size 0 (by omega) fun i hi=>absurd hi (Nat.not_lt_zero _)
end
end Go.Proofs.YtngcjpkccnfjiaaGreatDoor
namespace Go.Proofs.YtngcjpkccnfjiaaGreatDoor
open Go Go.Ev
mutual
def cmpF:Vl→Vl→Int
 | .mk k n t ps,.mk k' n' t' qs=>
   bif !(eqI k k')then orderF k k'
   else bif eqI k 3 then (bif sEq t t' then 0 else bif sLt t t' then-1 else 1)
   else bif eqI k 1||(eqI k 2|| !(eqI (Int.ofNat ps.length) (Int.ofNat qs.length)))then orderF n n'+orderF (Int.ofNat ps.length) (Int.ofNat qs.length)
   else cmpL ps qs
def cmpL:List Vl→List Vl→Int
 |p::ps,q::qs=>bif eqI (cmpF p q) 0 then cmpL ps qs else cmpF p q
 |_,_=>0
end
theorem cmpF_mk (k n:Int)(t:ByteArray)(ps:List Vl)(k' n':Int)(t':ByteArray)(qs:List Vl):cmpF (.mk k n t ps) (.mk k' n' t' qs)=
 bif !(eqI k k')then orderF k k'
 else bif eqI k 3 then (bif sEq t t' then 0 else bif sLt t t' then-1 else 1)
 else bif eqI k 1||(eqI k 2|| !(eqI (Int.ofNat ps.length) (Int.ofNat qs.length)))then orderF n n'+orderF (Int.ofNat ps.length) (Int.ofNat qs.length)
 else cmpL ps qs:=by simp only[cmpF]
theorem orderF_le (a b:Int): -1≤orderF a b∧orderF a b≤1:=by
 unfold orderF;split
 · omega
 · split<;>omega
section
variable {O:CallF}(hO:Oth O)
include hO
theorem ct137 {h:Hp}{v:Vl}{vs:List Value}(H:VA h v vs):Few v→ ∀ {w:Vl} {us:List Value},VA h w us→ ∀ {g:Hp},Kp h.nx h g→g.Ok→Ret Tryz.prog O 137 [.agg vs.toArray,.agg us.toArray] g fun r g'=>r= .int .i64 (cmpF v w)∧Kp g.nx g g':=by
 have key: ∀ {k n:Int} {t:ByteArray} {ps:List Vl} {vs:List Value},VA h (.mk k n t ps) vs→ps.length<1000000→
  (∀(i:Nat) (hi:i<ps.length) {ws:List Value},VA h ps[i] ws→ ∀ {q:Vl} {us:List Value},VA h q us→ ∀ {g:Hp},Kp h.nx h g→g.Ok→Ret Tryz.prog O 137 [.agg ws.toArray,.agg us.toArray] g fun r g'=>r= .int .i64 (cmpF ps[i] q)∧Kp g.nx g g')→
  ∀ {w:Vl} {us:List Value},VA h w us→ ∀ {g:Hp},Kp h.nx h g→g.Ok→Ret Tryz.prog O 137 [.agg vs.toArray,.agg us.toArray] g fun r g'=>r= .int .i64 (cmpF (.mk k n t ps) w)∧Kp g.nx g g':=by
  intro k n t ps vs V fl ih w us U g K ok;obtain⟨k',n',t',qs⟩:=w;obtain⟨a,m,c,rfl,P⟩:=PA.of V;obtain⟨a',m',c',rfl,Q'⟩:=PA.of U;have p1:=P.1;have q1:=Q'.1;subst p1 q1;refine rk137 (hO:=hO _ _ _ (by decide)) (hh:= ?_) ..;unfold T137;intro g1;have S:Know g g1 [ob g.nx (.cells [.int .i64 k,.int .i64 n,.string t,.slice a ps.length c] 46 .fix)]:=(Know.nil ok).add _;intro g2;have S:Know g g2 [ob g1.nx (.cells [.int .i64 k',.int .i64 n',.string t',.slice a' qs.length c'] 46 .fix),ob g.nx (.cells [.int .i64 k,.int .i64 n,.string t,.slice a ps.length c] 46 .fix)]:=S.add _;rw[cmpF_mk];refine⟨_,S.rd 1 rfl rfl rfl,_,S.rd 0 rfl rfl rfl,?_⟩;cases h1:eqI k k' with
  |false=>exact vcond_t rfl ⟨_,S.rd 1 rfl rfl rfl,_,S.rd 0 rfl rfl rfl,_,_,ct150 hO _ _ _,rfl,S.kp⟩
  |true=>
  refine vcond_f rfl ⟨_,S.rd 1 rfl rfl rfl,?_⟩;cases h3:eqI k 3 with
  |true=>
   refine vcond_t rfl ⟨_,S.rd 1 rfl rfl rfl,_,S.rd 0 rfl rfl rfl,?_⟩;cases h4:sEq t t' with
   |true=>exact vcond_t rfl ⟨rfl,S.kp⟩
   |false=>
   refine vcond_f rfl ⟨_,S.rd 1 rfl rfl rfl,_,S.rd 0 rfl rfl rfl,?_⟩;cases h5:sLt t t' with
   |true=>exact vcond_t rfl ⟨rfl,S.kp⟩
   |false=>exact vcond_f rfl ⟨rfl,S.kp⟩
  |false=>
  have o1:=orderF_le n n';have o2:=orderF_le (Int.ofNat ps.length) (Int.ofNat qs.length);refine vcond_f rfl ⟨_,S.rd 1 rfl rfl rfl,vcond_split (fun e1=> ?_) fun e1=>⟨_,S.rd 1 rfl rfl rfl,vcond_split (fun e2=> ?_) fun e2=>⟨_,_,_,S.rd 1 rfl rfl rfl,_,_,_,S.rd 0 rfl rfl rfl,vcond_split (fun e3=> ?_) fun e3=> ?_⟩⟩⟩
  case refine_4=>
   simp only[e1,e2,e3,Bool.not_true,Bool.or_false,cond_false];have hl:ps.length=qs.length:=by
    have e3:eqI (Int.ofNat ps.length) (Int.ofNat qs.length)=true:=by simpa using e3
    exact Nat.eq_of_beq_eq_true e3
   have go: ∀(j i:Nat),i+j=ps.length→ ∀(g3:Hp),Know g g3 [ob g1.nx (.cells [.int .i64 k',.int .i64 n',.string t',.slice a' qs.length c'] 46 .fix),ob g.nx (.cells [.int .i64 k,.int .i64 n,.string t,.slice a ps.length c] 46 .fix)]→
    I137_0 O (fun r g'=>r= .int .i64 (cmpL (ps.drop i) (qs.drop i))∧Kp g.nx g g') k n t a ps.length c k' n' t' a' qs.length c' g.nx 0 g1.nx 0 0 (Int.ofNat i) g3:=by
    intro j
    induction j with
    |zero=>
     intro i hi g3 S;refine I137_0.of (hh:= ?_) ..;unfold T137_0;refine⟨_,_,_,S.rd 1 rfl rfl rfl,vcond_f (by rw[ltI_nat];exact blt_f (by omega)) ⟨?_,S.kp⟩⟩;rw[List.drop_of_length_le (by omega),cmpL]
     intros;contradiction
    |succ j ihj=>
     intro i hi g3 S;have i1:i<ps.length:=by omega
     have i2:i<qs.length:=by omega
     refine I137_0.of (hh:= ?_) ..;unfold T137_0;rw[List.drop_eq_getElem_cons i1,List.drop_eq_getElem_cons i2,cmpL];refine⟨_,_,_,S.rd 1 rfl rfl rfl,vcond_t (by rw[ltI_nat];exact blt_t (by omega)) ?_⟩;intro g104;have S1:Know g g104 [ob g1.nx (.cells [.int .i64 k',.int .i64 n',.string t',.slice a' qs.length c'] 46 .fix),ob g.nx (.cells [.int .i64 k,.int .i64 n,.string t,.slice a ps.length c] 46 .fix)]:=S.rsv 12;have kk:Kp h.nx h g104:=K.trans (S1.kp.le K.nx);obtain⟨b,off,rfl,ws,V,rv⟩:=P.2 i i1;obtain⟨b',off',rfl,us,U,ru⟩:=Q'.2 i i2;have rv:=rv kk.get;have ru:=ru kk.get;have ihi:=ih i i1 V U (g:=g104.grd []) ⟨kk.get,kk.nx,kk.gd,kk.fr⟩ (S1.ok.grd fun q hq=>by cases hq);obtain⟨_,_,_,_,_,_,rfl⟩:=V.form;obtain⟨_,_,_,_,_,_,rfl⟩:=U.form;refine⟨_,_,_,S1.rd 1 rfl rfl rfl,isNat_i (show isAddr (some ⟨b,off,none⟩) _ from vreq_t (blt_t (by omega)) ⟨_,_,_,_,_,_,rv,_,_,_,S1.rd 0 rfl rfl rfl,isNat_i (show isAddr (some ⟨b',off',none⟩) _ from vreq_t (blt_t (by omega)) ⟨_,_,_,_,_,_,ru,?_⟩)⟩)⟩;obtain⟨r,g4,e4,rfl,K3⟩:=ihi;refine⟨_,g4,e4,?_⟩;intro g131;have S3:Know g g131 [ob g1.nx (.cells [.int .i64 k',.int .i64 n',.string t',.slice (some ⟨b',off',none⟩) qs.length c'] 46 .fix),ob g.nx (.cells [.int .i64 k,.int .i64 n,.string t,.slice (some ⟨b,off,none⟩) ps.length c] 46 .fix)]:=S1.callg K3;rw[wrap_succ (by omega)];cases hbf:eqI (cmpF ps[i] qs[i]) 0 with
     |false=>exact vcond_t rfl ⟨rfl,S3.kp⟩
     |true=>exact vcond_f rfl (ihj (i+1) (by omega) g131 S3)
   exact go ps.length 0 (by omega) g2 S
  all_goals
   intro g15;have S:Know g g15 [ob g1.nx (.cells [.int .i64 k',.int .i64 n',.string t',.slice a' qs.length c'] 46 .fix),ob g.nx (.cells [.int .i64 k,.int .i64 n,.string t,.slice a ps.length c] 46 .fix)]:=S.rsv 14;refine⟨_,S.rd 1 rfl rfl rfl,_,S.rd 0 rfl rfl rfl,_,_,_,S.rd 1 rfl rfl rfl,_,_,_,S.rd 0 rfl rfl rfl,_,_,ct150 hO _ _ _,?_⟩;intro g26;have S:Know g g26 [ob g1.nx (.cells [.int .i64 k',.int .i64 n',.string t',.slice a' qs.length c'] 46 .fix),ob g.nx (.cells [.int .i64 k,.int .i64 n,.string t,.slice a ps.length c] 46 .fix)]:=S.callg (.refl _ _);refine⟨_,_,ct150 hO _ _ _,?_⟩;intro g29;have S:Know g g29 [ob g1.nx (.cells [.int .i64 k',.int .i64 n',.string t',.slice a' qs.length c'] 46 .fix),ob g.nx (.cells [.int .i64 k,.int .i64 n,.string t,.slice a ps.length c] 46 .fix)]:=S.callg (.refl _ _);refine⟨?_,S.kp⟩;rw[wrap64 (by omega) (by omega)]
   first
    |rw[e1];rfl
    |rw[e1,e2];rfl
    |rw[e1,e2,e3];rfl
 have main: ∀(N:Nat) (v:Vl),SizeOf.sizeOf v<N→ ∀(vs:List Value),VA h v vs→Few v→ ∀ {w:Vl} {us:List Value},VA h w us→ ∀ {g:Hp},Kp h.nx h g→g.Ok→Ret Tryz.prog O 137 [.agg vs.toArray,.agg us.toArray] g fun r g'=>r= .int .i64 (cmpF v w)∧Kp g.nx g g':=by
  intro N
  induction N with
  |zero=>intro v hv;exact absurd hv (Nat.not_lt_zero _)
  |succ N ih=>
   intro v hv vs V F w us U g K ok;obtain⟨k,n,t,ps⟩:=v;refine key V F.parts.1 (fun i hi ws V' q us' U' g K ok=>ih ps[i] ?_ ws V' (F.parts.2 _ (List.getElem_mem hi)) U' K ok) U K ok;have:=List.sizeOf_lt_of_mem (List.getElem_mem hi);have e:SizeOf.sizeOf (Vl.mk k n t ps)=1+SizeOf.sizeOf k+SizeOf.sizeOf n+SizeOf.sizeOf t+SizeOf.sizeOf ps:=Vl.mk.sizeOf_spec k n t ps;omega
 exact fun F {w us} U {g} K ok=>main (SizeOf.sizeOf v+1) v (Nat.lt_succ_self _) vs H F U K ok
end
end Go.Proofs.YtngcjpkccnfjiaaGreatDoor
namespace Go.Proofs.YtngcjpkccnfjiaaGreatDoor
open Go Go.Ev
theorem Vl.ind {M:Vl→Prop}(h: ∀k n t ps,(∀(i:Nat) (hi:i<ps.length),M ps[i])→M (.mk k n t ps)): ∀v,M v:=by
 have main: ∀(N:Nat) (v:Vl),SizeOf.sizeOf v<N→M v:=by
  intro N
  induction N with
  |zero=>intro v hv;exact absurd hv (Nat.not_lt_zero _)
  |succ N ih=>
   intro v hv;obtain⟨k,n,t,ps⟩:=v;refine h k n t ps fun i hi=>ih ps[i] ?_;have:=List.sizeOf_lt_of_mem (List.getElem_mem hi);have e:SizeOf.sizeOf (Vl.mk k n t ps)=1+SizeOf.sizeOf k+SizeOf.sizeOf n+SizeOf.sizeOf t+SizeOf.sizeOf ps:=Vl.mk.sizeOf_spec k n t ps;omega
 exact fun v=>main _ v (Nat.lt_succ_self _)
def incF:List Vl→Bool
 |a::b::r=>ltI (cmpF a b) 0&&incF (b::r)
 |_=>true
def formF (k n:Int)(t:ByteArray)(ps:List Vl):Bool:=
 bif eqI k 1 then (!(ltI n (-1000000000))&& !(ltI 1000000000 n))&&(sEq t (ByteArray.mk #[])&&eqI (Int.ofNat ps.length) 0)
 else bif eqI k 2 then (!(ltI n 0)&& !(ltI 1 n))&&(sEq t (ByteArray.mk #[])&&eqI (Int.ofNat ps.length) 0)
 else bif eqI k 3 then eqI n 0&&(lettersF t&&eqI (Int.ofNat ps.length) 0)
 else bif eqI k 4 then eqI n 0&&(sEq t (ByteArray.mk #[])&&(!(ltI (Int.ofNat ps.length) 2)&& !(ltI 6 (Int.ofNat ps.length))))
 else bif eqI k 5 then incF ps&&(eqI n 0&&sEq t (ByteArray.mk #[]))
 else false
mutual
def shapedF:Vl→Bool
 | .mk k n t ps=>shapedL ps&&formF k n t ps
def shapedL:List Vl→Bool
 | []=>true
 |v::r=>shapedF v&&shapedL r
end
def Nice (v:Vl):Prop:=Few v∧briefF v=true
theorem briefL_all {ps:List Vl}(h:briefL ps=true): ∀p∈ps,briefF p=true:=by
 induction ps with
 |nil=>intro p hp;cases hp
 |cons v r ih=>
  simp only[briefL,Bool.and_eq_true]at h;intro p hp;rcases List.mem_cons.1 hp with rfl|hp
  · exact h.1
  · exact ih h.2 p hp
theorem Nice.parts {k n:Int}{t:ByteArray}{ps:List Vl}(F:Nice (.mk k n t ps)):ps.length<1000000∧t.size<31∧ ∀p∈ps,Nice p:=by
 obtain⟨F,B⟩:=F;simp only[briefF,Bool.and_eq_true]at B;refine⟨F.parts.1,?_,fun p hp=>⟨F.parts.2 p hp,briefL_all B.1 p hp⟩⟩;have:=B.2;rw[Bool.not_eq_true',show(30:Int)=Int.ofNat 30 from rfl,ltI_nat]at this;have: ¬(30<t.size):=fun h=>by rw[blt_t h]at this;cases this
 omega
section
variable {O:CallF}(hO:Oth O)
include hO
theorem ct107 {h:Hp}: ∀(v:Vl) {vs:List Value} (_:VA h v vs),Nice v→ ∀ {g:Hp},Kp h.nx h g→g.Ok→Ret Tryz.prog O 107 [.agg vs.toArray] g fun r g'=>r= .bool (shapedF v)∧Kp g.nx g g':=by
 refine Vl.ind fun k n t ps ih=> ?_;intro vs V F g K ok;obtain⟨fl,ft,fp⟩:=F.parts;obtain⟨a,m,c,rfl,P⟩:=PA.of V;have p1:=P.1;subst p1;refine rk107 (hO:=hO _ _ _ (by decide)) (hh:= ?_) ..;unfold T107;intro g1;have S:Know g g1 [ob g.nx (.cells [.int .i64 k,.int .i64 n,.string t,.slice a ps.length c] 46 .fix)]:=(Know.nil ok).add _;simp only[shapedF];have inc: ∀(j i:Nat),i+1+j=max 1 ps.length→ ∀(g3:Hp),Know g g3 [ob g.nx (.cells [.int .i64 k,.int .i64 n,.string t,.slice a ps.length c] 46 .fix)]→
  I107_1 O (fun r g'=>r= .bool (incF (ps.drop i)&&(eqI n 0&&sEq t (ByteArray.mk #[])))∧Kp g.nx g g') k n t a ps.length c g.nx 0 false (Int.ofNat (i+1)) g3:=by
  intro j
  induction j with
  |zero=>
   intro i hi g3 S;refine I107_1.of (hh:= ?_) ..;unfold T107_1;refine⟨_,_,_,S.rd 0 rfl rfl rfl,vcond_f (by rw[ltI_nat];exact blt_f (by omega)) ⟨_,S.rd 0 rfl rfl rfl,?_⟩⟩;have e:incF (ps.drop i)=true:=by
    match hd:ps.drop i with
    | []=>rfl
    | [_]=>rfl
    |_::_::_=>
     have:=congrArg List.length hd;simp only[List.length_drop,List.length_cons]at this;omega
   rw[e,Bool.true_and];cases h1:eqI n 0 with
   |false=>exact vcond_f rfl ⟨rfl,S.kp⟩
   |true=>exact vcond_t rfl ⟨_,S.rd 0 rfl rfl rfl,rfl,S.kp⟩
  |succ j ihj=>
   intro i hi g3 S;have i1:i+1<ps.length:=by omega
   have i0:i<ps.length:=by omega
   refine I107_1.of (hh:= ?_) ..;unfold T107_1;rw[List.drop_eq_getElem_cons i0,List.drop_eq_getElem_cons i1,incF,←List.drop_eq_getElem_cons i1];refine⟨_,_,_,S.rd 0 rfl rfl rfl,vcond_t (by rw[ltI_nat];exact blt_t i1) ?_⟩;intro g204;have S1:Know g g204 [ob g.nx (.cells [.int .i64 k,.int .i64 n,.string t,.slice a ps.length c] 46 .fix)]:=S.rsv 13;have kk:Kp h.nx h g204:=K.trans (S1.kp.le K.nx);obtain⟨b,off,rfl,ws,V,rv⟩:=P.2 i i0;obtain⟨b',off',e',us,U,ru⟩:=P.2 (i+1) i1;obtain⟨rfl,rfl⟩:b=b'∧off=off':=by simpa using e'
   have rv:=rv kk.get;have ru:=ru kk.get;have ihi:=ct137 hO V (fp _ (List.getElem_mem i0)).1 U (g:=g204.grd []) ⟨kk.get,kk.nx,kk.gd,kk.fr⟩ (S1.ok.grd fun q hq=>by cases hq);obtain⟨_,_,_,_,_,_,rfl⟩:=V.form;obtain⟨_,_,_,_,_,_,rfl⟩:=U.form;have ew:wrapF .i64 (Int.ofNat (i+1)-1)=Int.ofNat i:=by
    simp only[Int.ofNat_eq_natCast];rw[wrap64 (by omega) (by omega)];omega
   rw[ew];refine⟨_,_,_,S1.rd 0 rfl rfl rfl,isNat_i (show isAddr (some ⟨b,off,none⟩) _ from vreq_t (blt_t i0) ⟨_,_,_,_,_,_,rv,_,_,_,S1.rd 0 rfl rfl rfl,isNat_i (show isAddr (some ⟨b,off,none⟩) _ from vreq_t (blt_t i1) ⟨_,_,_,_,_,_,ru,?_⟩)⟩)⟩;obtain⟨r,g4,e4,rfl,K3⟩:=ihi;refine⟨_,g4,e4,?_⟩;intro g231;have S3:Know g g231 [ob g.nx (.cells [.int .i64 k,.int .i64 n,.string t,.slice (some ⟨b,off,none⟩) ps.length c] 46 .fix)]:=S1.callg K3;rw[wrap_succ (by omega)];cases hbf:ltI (cmpF ps[i] ps[i+1]) 0 with
   |false=>exact vcond_t rfl ⟨rfl,S3.kp⟩
   |true=>exact vcond_f rfl (ihj (i+1) (by omega) g231 S3)
 have go: ∀(j i:Nat),i+j=ps.length→ ∀(g2:Hp),Know g g2 [ob g.nx (.cells [.int .i64 k,.int .i64 n,.string t,.slice a ps.length c] 46 .fix)]→
  I107_0 O (fun r g'=>r= .bool (shapedL (ps.drop i)&&formF k n t ps)∧Kp g.nx g g') k n t a ps.length c g.nx 0 false (Int.ofNat i) g2:=by
  intro j
  induction j with
  |zero=>
   intro i hi g2 S;refine I107_0.of (hh:= ?_) ..;unfold T107_0;refine⟨_,_,_,S.rd 0 rfl rfl rfl,vcond_f (by rw[ltI_nat];exact blt_f (by omega)) ⟨_,S.rd 0 rfl rfl rfl,?_⟩⟩;rw[List.drop_of_length_le (by omega),shapedL,Bool.true_and];unfold formF;cases h1:eqI k 1 with
   |true=>
    refine vcond_t rfl ⟨_,S.rd 0 rfl rfl rfl,_,_,ct140 hO _ _ _ _,?_⟩;cases h2: !(ltI n (-1000000000))&& !(ltI 1000000000 n)with
    |false=>exact vcond_f rfl ⟨rfl,S.kp⟩
    |true=>
     refine vcond_t rfl ⟨_,S.rd 0 rfl rfl rfl,?_⟩;cases h3:sEq t (ByteArray.mk #[])with
     |false=>exact vcond_f rfl ⟨rfl,S.kp⟩
     |true=>exact vcond_t rfl ⟨_,_,_,S.rd 0 rfl rfl rfl,rfl,S.kp⟩
   |false=>
   refine vcond_f rfl ?_;cases h1:eqI k 2 with
   |true=>
    refine vcond_t rfl ⟨_,S.rd 0 rfl rfl rfl,_,_,ct140 hO _ _ _ _,?_⟩;cases h2: !(ltI n 0)&& !(ltI 1 n)with
    |false=>exact vcond_f rfl ⟨rfl,S.kp⟩
    |true=>
     refine vcond_t rfl ⟨_,S.rd 0 rfl rfl rfl,?_⟩;cases h3:sEq t (ByteArray.mk #[])with
     |false=>exact vcond_f rfl ⟨rfl,S.kp⟩
     |true=>exact vcond_t rfl ⟨_,_,_,S.rd 0 rfl rfl rfl,rfl,S.kp⟩
   |false=>
   refine vcond_f rfl ?_;cases h1:eqI k 3 with
   |true=>
    refine vcond_t rfl ⟨_,S.rd 0 rfl rfl rfl,?_⟩;cases h2:eqI n 0 with
    |false=>exact vcond_f rfl ⟨rfl,S.kp⟩
    |true=>
     refine vcond_t rfl ⟨_,S.rd 0 rfl rfl rfl,_,_,ct141 hO t (by omega) _,?_⟩;cases h3:lettersF t with
     |false=>exact vcond_f rfl ⟨rfl,S.kp⟩
     |true=>exact vcond_t rfl ⟨_,_,_,S.rd 0 rfl rfl rfl,rfl,S.kp⟩
   |false=>
   refine vcond_f rfl ?_;cases h1:eqI k 4 with
   |true=>
    refine vcond_t rfl ⟨_,S.rd 0 rfl rfl rfl,?_⟩;cases h2:eqI n 0 with
    |false=>exact vcond_f rfl ⟨rfl,S.kp⟩
    |true=>
     refine vcond_t rfl ⟨_,S.rd 0 rfl rfl rfl,?_⟩;cases h3:sEq t (ByteArray.mk #[])with
     |false=>exact vcond_f rfl ⟨rfl,S.kp⟩
     |true=>exact vcond_t rfl ⟨_,_,_,S.rd 0 rfl rfl rfl,_,_,ct140 hO _ _ _ _,rfl,S.kp⟩
   |false=>
   refine vcond_f rfl ?_;cases h1:eqI k 5 with
   |false=>exact vcond_f rfl ⟨rfl,S.kp⟩
   |true=>exact vcond_t rfl (inc (max 1 ps.length-1) 0 (by omega) g2 S)
  |succ j ihj=>
   intro i hi g2 S;have i1:i<ps.length:=by omega
   refine I107_0.of (hh:= ?_) ..;unfold T107_0;rw[List.drop_eq_getElem_cons i1,shapedL];have kk:Kp h.nx h g2:=K.trans (S.kp.le K.nx);obtain⟨b,off,rfl,ws,V,rv⟩:=P.2 i i1;have rv:=rv kk.get;have ihi:=ih i i1 V (fp _ (List.getElem_mem i1)) kk S.ok;obtain⟨_,_,_,_,_,_,rfl⟩:=V.form;refine⟨_,_,_,S.rd 0 rfl rfl rfl,vcond_t (by rw[ltI_nat];exact blt_t i1) ⟨_,_,_,S.rd 0 rfl rfl rfl,isNat_i (show isAddr (some ⟨b,off,none⟩) _ from vreq_t (blt_t i1) ⟨_,_,_,_,_,_,rv,?_⟩)⟩⟩;obtain⟨r,g4,e4,rfl,K3⟩:=ihi;refine⟨_,g4,e4,?_⟩;have S3:=S.call K3;rw[wrap_succ (by omega)];cases hbf:shapedF ps[i]with
   |false=>exact vcond_t rfl ⟨rfl,S3.kp⟩
   |true=>exact vcond_f rfl (ihj (i+1) (by omega) g4 S3)
 exact go ps.length 0 (by omega) g1 S
end
end Go.Proofs.YtngcjpkccnfjiaaGreatDoor
