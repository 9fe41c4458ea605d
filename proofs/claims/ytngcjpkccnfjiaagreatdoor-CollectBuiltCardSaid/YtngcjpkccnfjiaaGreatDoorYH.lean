/- Conditions of functions' code, printed by a program of ours. -/
import Derived.Test.YtngcjpkccnfjiaaGreatDoorProg
import Derived.Test.YtngcjpkccnfjiaaGreatDoorYC
import Derived.KernelRfl
import Derived.Test.YtngcjpkccnfjiaaGreatDoorYG
import Derived.Test.YtngcjpkccnfjiaaGreatDoorYD
namespace Go.Proofs.YtngcjpkccnfjiaaGreatDoor
open Go Go.Ev
set_option maxRecDepth 100000
set_option linter.unusedVariables false
noncomputable def b7:Code:=(Tryz.f7.body).getD .skip
def lv7:List (Nat×List Nat):=[]
def T7 (O:CallF)(Q:VQ)(v0:Array Value)(x1_0 x1_1:Int)(s1_2:ByteArray)(a1_3:OA)(n1_3 c1_3:Nat)(h:Hp):Prop:=
 vreq (v0.toList.all one)
 (let g1:=h.add (.cells v0.toList 62 .fix)
 let g2:=g1.add (.cells (v46 x1_0 x1_1 s1_2 a1_3 n1_3 c1_3) 46 .fix)
 ∃x3 x4 s5 a6 n7 c8,readAt g2 g1.nx 0 4=some (v46 x3 x4 s5 a6 n7 c8)∧
 ∃q9 h10,EvC Tryz.prog O 30 [.agg (w46 x3 x4 s5 a6 n7 c8)] g2 (.bool q9) h10∧
 vcond (!q9)
 (∃q11 h12,EvC Tryz.prog O 14 [] h10 (.bool q11) h12∧
 Q (.bool q11) h12)
 (∃l13,readAt h10 h.nx 0 51=some l13∧
 ∃a14 n15 c16 x17 a18 n19 c20 a21 n22 c23 a24 n25 c26 a27 n28 c29 h30,EvC Tryz.prog O 43 [.agg l13.toArray] h10 (.tuple #[.agg (w24 a14 n15 c16 x17 a18 n19 c20),.slice a21 n22 c23,.slice a24 n25 c26,.slice a27 n28 c29]) h30∧
 let g31:=h30.add (.cells (v24 none 0 0 0 none 0 0) 24 .fix)
 vreq (canW g31 h30.nx 0 (v24 a14 n15 c16 x17 a18 n19 c20))
 (let g32:=g31.wr h30.nx 0 (v24 a14 n15 c16 x17 a18 n19 c20)
 ∃a33 n34 c35,readAt g32 h30.nx 0 1=some [.slice a33 n34 c35]∧
 ∃a36 n37 c38,readAt g32 h30.nx 0 1=some [.slice a36 n37 c38]∧
 ∃a39 n40 c41 h42,appendV Tryz.prog g32 22 3 (.slice a33 n34 c35) (.int .i64 (wrapF .i64 (130-(Int.ofNat n37))))=some (.slice a39 n40 c41,h42)∧
 vreq (canW h42 h30.nx 0 [.slice a39 n40 c41])
 (let g43:=h42.wr h30.nx 0 [.slice a39 n40 c41]
 ∃a44 n45 c46 x47 a48 n49 c50,readAt g43 h30.nx 0 3=some (v24 a44 n45 c46 x47 a48 n49 c50)∧
 ∃x51 x52 s53 a54 n55 c56,readAt g43 g1.nx 0 4=some (v46 x51 x52 s53 a54 n55 c56)∧
 ∃a57 n58 c59 x60 a61 n62 c63 x64 x65 h66,EvC Tryz.prog O 31 [.agg (w24 a44 n45 c46 x47 a48 n49 c50),.agg (w46 x51 x52 s53 a54 n55 c56)] g43 (.tuple #[.agg (w24 a57 n58 c59 x60 a61 n62 c63),.int .i64 x64,.int .i64 x65]) h66∧
 let g67:=h66.add (.cells (v24 none 0 0 0 none 0 0) 24 .fix)
 vreq (canW g67 h66.nx 0 (v24 a57 n58 c59 x60 a61 n62 c63))
 (let g68:=g67.wr h66.nx 0 (v24 a57 n58 c59 x60 a61 n62 c63)
 ∃x69 x70 s71 a72 n73 c74,readAt g68 g1.nx 0 4=some (v46 x69 x70 s71 a72 n73 c74)∧
 ∃q75 h76,EvC Tryz.prog O 44 [.agg (w46 x69 x70 s71 a72 n73 c74)] g68 (.bool q75) h76∧
 vcond (!q75)
 (vcond (eqI x65 2)
 (∃q77 h78,EvC Tryz.prog O 14 [] h76 (.bool q77) h78∧
 Q (.bool q77) h78)
 (Q (.bool false) h76))
 (∃x79 x80 s81 a82 n83 c84,readAt h76 g1.nx 0 4=some (v46 x79 x80 s81 a82 n83 c84)∧
 ∃x85 q86 h87,EvC Tryz.prog O 45 [.agg (w46 x79 x80 s81 a82 n83 c84)] h76 (.tuple #[.int .i64 x85,.bool q86]) h87∧
 ∃x88,readAt h87 h30.nx 1 1=some [.int .i64 x88]∧
 vcond (ltI (wrapF .i64 (130-x88)) x85)
 (vcond (eqI x65 3)
 (∃q89 h90,EvC Tryz.prog O 14 [] h87 (.bool q89) h90∧
 Q (.bool q89) h90)
 (vcond (eqI x65 0)
 (vcond (!q86)
 (∃q91 h92,EvC Tryz.prog O 14 [] h87 (.bool q91) h92∧
 Q (.bool q91) h92)
 (Q (.bool false) h87))
 (Q (.bool false) h87)))
 (vcond q86
 (vcond (eqI x65 3)
 (∃q93 h94,EvC Tryz.prog O 14 [] h87 (.bool q93) h94∧
 Q (.bool q93) h94)
 (vcond (eqI x65 0)
 (vcond (!q86)
 (∃q95 h96,EvC Tryz.prog O 14 [] h87 (.bool q95) h96∧
 Q (.bool q95) h96)
 (Q (.bool false) h87))
 (Q (.bool false) h87)))
 (let g97:=h87.rsv 39
 vcond (!(eqI x65 0))
 (Q (.bool false) g97)
 (∃x98,readAt g97 h66.nx 1 1=some [.int .i64 x98]∧
 ∃x99,readAt g97 h30.nx 1 1=some [.int .i64 x99]∧
 vcond (!(eqI x98 (wrapF .i64 (x99+x85))))
 (Q (.bool false) g97)
 (∃a100 n101 c102,readAt g97 h66.nx 0 1=some [.slice a100 n101 c102]∧
 vcond (!(eqI (Int.ofNat n101) 130))
 (Q (.bool false) g97)
 (∃a103 n104 c105,readAt g97 h66.nx 0 1=some [.slice a103 n104 c105]∧
 ∃x106,readAt g97 h30.nx 1 1=some [.int .i64 x106]∧
 ∃a107 n108 c109,sliceV Tryz.prog g97 22 (.slice a103 n104 c105) none (some (.int .i64 x106)) none=some (.slice a107 n108 c109)∧
 ∃a110 n111 c112,readAt g97 h30.nx 0 1=some [.slice a110 n111 c112]∧
 ∃x113,readAt g97 h30.nx 1 1=some [.int .i64 x113]∧
 ∃a114 n115 c116,sliceV Tryz.prog g97 22 (.slice a110 n111 c112) none (some (.int .i64 x113)) none=some (.slice a114 n115 c116)∧
 ∃q117 h118,EvC Tryz.prog O 40 [.slice a107 n108 c109,.slice a114 n115 c116] (g97.grd []) (.bool q117) h118∧
 let g119:=h118.rst g97
 vcond (!q117)
 (Q (.bool false) g119)
 (∃a120 n121 c122,readAt g119 h66.nx 2 1=some [.slice a120 n121 c122]∧
 ∃a123 n124 c125,readAt g119 h30.nx 2 1=some [.slice a123 n124 c125]∧
 ∃q126 h127,EvC Tryz.prog O 40 [.slice a120 n121 c122,.slice a123 n124 c125] (g119.grd []) (.bool q126) h127∧
 let g128:=h127.rst g119
 vcond (!q126)
 (Q (.bool false) g128)
 (∃a129 n130 c131 x132 a133 n134 c135,readAt g128 h66.nx 0 3=some (v24 a129 n130 c131 x132 a133 n134 c135)∧
 ∃x136 x137 s138 a139 n140 c141 x142 h143,EvC Tryz.prog O 33 [.agg (w24 a129 n130 c131 x132 a133 n134 c135),.int .i64 x64] g128 (.tuple #[.agg (w46 x136 x137 s138 a139 n140 c141),.int .i64 x142]) h143∧
 let g144:=h143.add (.cells (v46 0 0 (ByteArray.mk #[]) none 0 0) 46 .fix)
 vreq (canW g144 h143.nx 0 (v46 x136 x137 s138 a139 n140 c141))
 (let g145:=g144.wr h143.nx 0 (v46 x136 x137 s138 a139 n140 c141)
 vcond (!(eqI x142 0))
 (Q (.bool false) g145)
 (∃x146 x147 s148 a149 n150 c151,readAt g145 h143.nx 0 4=some (v46 x146 x147 s148 a149 n150 c151)∧
 ∃x152 x153 s154 a155 n156 c157,readAt g145 g1.nx 0 4=some (v46 x152 x153 s154 a155 n156 c157)∧
 ∃q158 h159,EvC Tryz.prog O 35 [.agg (w46 x146 x147 s148 a149 n150 c151),.agg (w46 x152 x153 s154 a155 n156 c157)] g145 (.bool q158) h159∧
 vcond (!q158)
 (Q (.bool false) h159)
 (∃a160 n161 c162,readAt h159 h66.nx 2 1=some [.slice a160 n161 c162]∧
 ∃a163 n164 c165 h166,EvC Tryz.prog O 46 [.slice a160 n161 c162] h159 (.slice a163 n164 c165) h166∧
 let g167:=h166.add (.cells [.int .i64 x64] 3 .fix)
 ∃a168 n169 c170 h171,appendV Tryz.prog g167 22 22 (.slice a163 n164 c165) (.slice (some ⟨h166.nx,0,none⟩) 1 1)=some (.slice a168 n169 c170,h171)∧
 vreq (canW h171 h66.nx 2 [.slice a168 n169 c170])
 (let g172:=h171.wr h66.nx 2 [.slice a168 n169 c170]
 ∃a173 n174 c175 x176 a177 n178 c179,readAt g172 h66.nx 0 3=some (v24 a173 n174 c175 x176 a177 n178 c179)∧
 ∃a180 n181 c182 x183 a184 n185 c186 x187 h188,EvC Tryz.prog O 15 [.agg (w24 a173 n174 c175 x176 a177 n178 c179)] g172 (.tuple #[.agg (w24 a180 n181 c182 x183 a184 n185 c186),.int .i64 x187]) h188∧
 let g189:=h188.add (.cells (v24 none 0 0 0 none 0 0) 24 .fix)
 vreq (canW g189 h188.nx 0 (v24 a180 n181 c182 x183 a184 n185 c186))
 (let g190:=g189.wr h188.nx 0 (v24 a180 n181 c182 x183 a184 n185 c186)
 vcond (!(eqI x187 0))
 (Q (.bool false) g190)
 (∃a191 n192 c193,readAt g190 h188.nx 2 1=some [.slice a191 n192 c193]∧
 ∃a194 n195 c196,readAt g190 h66.nx 2 1=some [.slice a194 n195 c196]∧
 vcond (!(eqI (Int.ofNat n192) (Int.ofNat n195)))
 (Q (.bool false) g190)
 (let g197:=g190.rsv 15
 ∃a198 n199 c200 x201 a202 n203 c204,readAt g197 h188.nx 0 3=some (v24 a198 n199 c200 x201 a202 n203 c204)∧
 ∃a205 n206 c207,readAt g197 h188.nx 2 1=some [.slice a205 n206 c207]∧
 ∃a208 n209 c210,readAt g197 h188.nx 2 1=some [.slice a208 n209 c210]∧
 isNat (wrapF .i64 ((Int.ofNat n209)-1)) fun n211=>
 isAddr a205 fun b212 f213=>
 vreq (Nat.blt n211 n206)
 (∃x214,readAt g197 b212 (f213+(n211*1)) 1=some [.int .i64 x214]∧
 ∃x215 x216 s217 a218 n219 c220 x221 h222,EvC Tryz.prog O 33 [.agg (w24 a198 n199 c200 x201 a202 n203 c204),.int .i64 x214] (g197.grd []) (.tuple #[.agg (w46 x215 x216 s217 a218 n219 c220),.int .i64 x221]) h222∧
 let g223:=h222.rst g197
 vreq (canW (g223.grd []) h143.nx 0 (v46 x215 x216 s217 a218 n219 c220))
 (let g224:=(g223.grd []).wr h143.nx 0 (v46 x215 x216 s217 a218 n219 c220)
 let g225:=g224.rst g223
 vcond (eqI x221 0)
 (∃x226 x227 s228 a229 n230 c231,readAt g225 h143.nx 0 4=some (v46 x226 x227 s228 a229 n230 c231)∧
 ∃x232 x233 s234 a235 n236 c237,readAt g225 g1.nx 0 4=some (v46 x232 x233 s234 a235 n236 c237)∧
 ∃q238 h239,EvC Tryz.prog O 35 [.agg (w46 x226 x227 s228 a229 n230 c231),.agg (w46 x232 x233 s234 a235 n236 c237)] g225 (.bool q238) h239∧
 vcond q238
 (∃q240 h241,EvC Tryz.prog O 14 [] h239 (.bool q240) h241∧
 Q (.bool q240) h241)
 (Q (.bool false) h239))
 (Q (.bool false) g225)))))))))))))))))))))))
theorem rk7 {O Q} (v0 x1_0 x1_1 s1_2 a1_3 n1_3 c1_3){h:Hp}(hO:O 7 [.agg v0,.agg (w46 x1_0 x1_1 s1_2 a1_3 n1_3 c1_3)] h=none)(hh:T7 O Q v0 x1_0 x1_1 s1_2 a1_3 n1_3 c1_3 h):Ret Tryz.prog O 7 [.agg v0,.agg (w46 x1_0 x1_1 s1_2 a1_3 n1_3 c1_3)] h Q:=
 .of (c:=b7) Tryz.func7 (by kernel_rfl) hO (V_ok (tb:=lv7) (cuts:=[]) 500 (Eq.mp (by kernel_rfl) hh))
noncomputable def b10:Code:=(Tryz.f10.body).getD .skip
noncomputable def b11:Code:=(Tryz.f11.body).getD .skip
noncomputable def b43:Code:=(Tryz.f43.body).getD .skip
def lv43:List (Nat×List Nat):=[]
def T43 (O:CallF)(Q:VQ)(v0:Array Value)(h:Hp):Prop:=
 vreq (v0.toList.all one)
 (let g1:=h.add (.cells v0.toList 62 .fix)
 let g2:=g1.add (.cells (v24 none 0 0 0 none 0 0) 24 .fix)
 ∃l3,readAt g2 h.nx 0 51=some l3∧
 ∃a4 n5 c6 a7 n8 c9 h10,EvC Tryz.prog O 106 [.agg l3.toArray] g2 (.tuple #[.slice a4 n5 c6,.slice a7 n8 c9]) h10∧
 let g11:=h10.rsv 16
 ∃x12,readAt g11 h.nx 1 1=some [.int .u8 x12]∧
 ∃a13 n14 c15 h16,EvC Tryz.prog O 51 [.int .i64 (Int.ofNat n5)] (g11.grd [h.nx]) (.slice a13 n14 c15) h16∧
 let g17:=h16.rst g11
 ∃a18 n19 c20 x21 a22 n23 c24 a25 n26 c27 h28,EvC Tryz.prog O 52 [.slice a4 n5 c6,.slice a13 n14 c15,.slice a7 n8 c9,.int .i64 (Int.tmod (wrapF .i64 x12) 16)] (g17.grd []) (.tuple #[.agg (w24 a18 n19 c20 x21 a22 n23 c24),.slice a25 n26 c27]) h28∧
 let g29:=h28.rst g17
 vreq (g29.free (h10.nx+13))
 (let g30:=g29.lay (h10.nx+13) (.cells (v24 none 0 0 0 none 0 0) 24 .fix)
 vreq (canW (g30.grd []) (h10.nx+13) 0 (v24 a18 n19 c20 x21 a22 n23 c24))
 (let g31:=(g30.grd []).wr (h10.nx+13) 0 (v24 a18 n19 c20 x21 a22 n23 c24)
 let g32:=g31.rst g30
 ∃a33 n34 c35 x36 a37 n38 c39,readAt g32 (h10.nx+13) 0 3=some (v24 a33 n34 c35 x36 a37 n38 c39)∧
 vreq (canW g32 g1.nx 0 (v24 a33 n34 c35 x36 a37 n38 c39))
 (let g40:=g32.wr g1.nx 0 (v24 a33 n34 c35 x36 a37 n38 c39)
 ∃a41 n42 c43 x44 a45 n46 c47,readAt g40 g1.nx 0 3=some (v24 a41 n42 c43 x44 a45 n46 c47)∧
 Q (.tuple #[.agg (w24 a41 n42 c43 x44 a45 n46 c47),.slice a4 n5 c6,.slice a7 n8 c9,.slice a25 n26 c27]) g40))))
theorem rk43 {O Q} (v0){h:Hp}(hO:O 43 [.agg v0] h=none)(hh:T43 O Q v0 h):Ret Tryz.prog O 43 [.agg v0] h Q:=
 .of (c:=b43) Tryz.func43 (by kernel_rfl) hO (V_ok (tb:=lv43) (cuts:=[]) 500 (Eq.mp (by kernel_rfl) hh))
noncomputable def b51:Code:=(Tryz.f51.body).getD .skip
noncomputable def stk51_0:List KI:=[.code (sub [1,1,0,1,0] b51),.blk 0,.code (sub [1,1,1] b51)]
def lv51:List (Nat×List Nat):=[(0,[2,3,5,6])]
def I51_0 (O:CallF)(Q:VQ)(x0:Int)(a3:OA)(n3 c3:Nat)(x6:Int)(h:Hp):Prop:=RKL Tryz.prog O Tryz.f51 stk51_0 15 [2,3,5,6] [.slice none 0 0,.slice a3 n3 c3,.int .i64 x0,.int .i64 x6] h Q
def T51 (O:CallF)(Q:VQ)(x0:Int)(h:Hp):Prop:=
 I51_0 O Q x0 none 0 0 0 h
theorem rk51 {O Q} (x0){h:Hp}(hO:O 51 [.int .i64 x0] h=none)(hh:T51 O Q x0 h):Ret Tryz.prog O 51 [.int .i64 x0] h Q:=
 .of (c:=b51) Tryz.func51 (by kernel_rfl) hO (V_ok (tb:=lv51) (cuts:=[]) 500 (Eq.mp (by kernel_rfl) hh))
def T51_0 (O:CallF)(Q:VQ)(x0:Int)(a3:OA)(n3 c3:Nat)(x6:Int)(h:Hp):Prop:=
 vcond (ltI x6 x0)
 (let g101:=h.add (.cells [.int .i64 x6] 3 .fix)
 ∃a102 n103 c104 h105,appendV Tryz.prog g101 22 22 (.slice a3 n3 c3) (.slice (some ⟨h.nx,0,none⟩) 1 1)=some (.slice a102 n103 c104,h105)∧
 I51_0 O Q x0 a102 n103 c104 (wrapF .i64 (x6+1)) h105)
 (Q (.slice a3 n3 c3) h)
theorem I51_0.of {O Q} (x0 a3 n3 c3 x6){h:Hp}(hh:T51_0 O Q x0 a3 n3 c3 x6 h):I51_0 O Q x0 a3 n3 c3 x6 h:=
 RKL.of (tb:=lv51) (cuts:=[]) 500 fun _=>Eq.mp (by kernel_rfl) hh
noncomputable def b52:Code:=(Tryz.f52.body).getD .skip
noncomputable def stk52_0:List KI:=[.code (sub [1,1,1,0,1,0] b52),.blk 0,.code (sub [1,1,1,1] b52)]
noncomputable def stk52_1:List KI:=[.code (sub [1,1,1,1,1,1,0,1,0] b52),.blk 2,.code (sub [1,1,1,1,1,1,1] b52)]
noncomputable def stk52_2:List KI:=[.code (sub [1,1,1,1,1,1,0,1,0,0,1,1,0,0,1,1,1,0] b52),.blk 4,.blk 3,.code (sub [1,1,1,1,1,1,0,1,0,0,1,1,1] b52),.code (sub [1,1,1,1,1,1,0,1,0] b52),.blk 2,.code (sub [1,1,1,1,1,1,1] b52)]
noncomputable def stk52_3:List KI:=[.code (sub [1,1,1,1,1,1,1,0,1,0] b52),.blk 6,.code (sub [1,1,1,1,1,1,1,1] b52)]
def lv52:List (Nat×List Nat):=[(0,[0,1,2,3,8,9,10,11,26,27,28]),(2,[0,2,8,9,10,11,14,56,57,58]),(4,[0,2,8,9,10,11,14,16,56,57,58,86,87,88]),(6,[8,9,10,11,14,108,109,110])]
def I52_0 (O:CallF)(Q:VQ)(a0:OA)(n0 c0:Nat)(a1:OA)(n1 c1:Nat)(a2:OA)(n2 c2:Nat)(x3:Int)(b8 f8 b10 f10 b11 f11:Nat)(x28:Int)(h:Hp):Prop:=RKL Tryz.prog O Tryz.f52 stk52_0 125 [0,1,2,3,8,9,10,11,26,27,28] [.slice a0 n0 c0,.slice a1 n1 c1,.slice a2 n2 c2,.int .i64 x3,.pointer (some ⟨b8,f8,none⟩),.slice none 0 0,.pointer (some ⟨b10,f10,none⟩),.pointer (some ⟨b11,f11,none⟩),.slice a1 n1 c1,.int .i64 (Int.ofNat n1),.int .i64 x28] h Q
def I52_1 (O:CallF)(Q:VQ)(a0:OA)(n0 c0:Nat)(a1:OA)(n1 c1:Nat)(a2:OA)(n2 c2:Nat)(x3:Int)(b8 f8 b10 f10 b11 f11:Nat)(v14:Value)(x58:Int)(h:Hp):Prop:=RKL Tryz.prog O Tryz.f52 stk52_1 125 [0,2,8,9,10,11,14,56,57,58] [.slice a0 n0 c0,.slice a2 n2 c2,.pointer (some ⟨b8,f8,none⟩),.slice none 0 0,.pointer (some ⟨b10,f10,none⟩),.pointer (some ⟨b11,f11,none⟩),v14,.slice a1 n1 c1,.int .i64 (Int.ofNat n1),.int .i64 x58] h Q
def I52_2 (O:CallF)(Q:VQ)(a0:OA)(n0 c0:Nat)(a1:OA)(n1 c1:Nat)(a2:OA)(n2 c2:Nat)(x3:Int)(b8 f8 b10 f10 b11 f11:Nat)(v14:Value)(x16 x58:Int)(a86:OA)(n86 c86:Nat)(x87 x88:Int)(h:Hp):Prop:=RKL Tryz.prog O Tryz.f52 stk52_2 125 [0,2,8,9,10,11,14,16,56,57,58,86,87,88] [.slice a0 n0 c0,.slice a2 n2 c2,.pointer (some ⟨b8,f8,none⟩),.slice none 0 0,.pointer (some ⟨b10,f10,none⟩),.pointer (some ⟨b11,f11,none⟩),v14,.int .i64 x16,.slice a1 n1 c1,.int .i64 (Int.ofNat n1),.int .i64 x58,.slice a86 n86 c86,.int .i64 x87,.int .i64 x88] h Q
def I52_3 (O:CallF)(Q:VQ)(a0:OA)(n0 c0:Nat)(a1:OA)(n1 c1:Nat)(a2:OA)(n2 c2:Nat)(x3:Int)(b8 f8 b10 f10 b11 f11:Nat)(v14:Value)(x110:Int)(h:Hp):Prop:=RKL Tryz.prog O Tryz.f52 stk52_3 125 [8,9,10,11,14,108,109,110] [.pointer (some ⟨b8,f8,none⟩),.slice none 0 0,.pointer (some ⟨b10,f10,none⟩),.pointer (some ⟨b11,f11,none⟩),v14,.slice a2 n2 c2,.int .i64 (Int.ofNat n2),.int .i64 x110] h Q
def T52 (O:CallF)(Q:VQ)(a0:OA)(n0 c0:Nat)(a1:OA)(n1 c1:Nat)(a2:OA)(n2 c2:Nat)(x3:Int)(h:Hp):Prop:=
 let g1:=h.add (.cells (v24 none 0 0 0 none 0 0) 24 .fix)
 let g2:=g1.add (.cells [.int .i64 (-1)] 3 .fix)
 ∃a3 n4 c5 h6,EvC Tryz.prog O 111 [.slice (some ⟨g1.nx,0,none⟩) 1 1,.int .i64 (Int.ofNat n0)] g2 (.slice a3 n4 c5) h6∧
 let g7:=h6.add (.cells [.slice none 0 0] 22 .fix)
 vreq (canW g7 h6.nx 0 [.slice a3 n4 c5])
 (let g8:=g7.wr h6.nx 0 [.slice a3 n4 c5]
 let g9:=g8.add (.cells (v24 none 0 0 0 none 0 0) 24 .fix)
 vreq (canW g9 g8.nx 0 (v24 none 0 0 1 none 0 0))
 (let g10:=g9.wr g8.nx 0 (v24 none 0 0 1 none 0 0)
 I52_0 O Q a0 n0 c0 a1 n1 c1 a2 n2 c2 x3 h.nx 0 h6.nx 0 g8.nx 0 0 g10))
theorem rk52 {O Q} (a0 n0 c0 a1 n1 c1 a2 n2 c2 x3){h:Hp}(hO:O 52 [.slice a0 n0 c0,.slice a1 n1 c1,.slice a2 n2 c2,.int .i64 x3] h=none)(hh:T52 O Q a0 n0 c0 a1 n1 c1 a2 n2 c2 x3 h):Ret Tryz.prog O 52 [.slice a0 n0 c0,.slice a1 n1 c1,.slice a2 n2 c2,.int .i64 x3] h Q:=
 .of (c:=b52) Tryz.func52 (by kernel_rfl) hO (V_ok (tb:=lv52) (cuts:=[]) 500 (Eq.mp (by kernel_rfl) hh))
def T52_0 (O:CallF)(Q:VQ)(a0:OA)(n0 c0:Nat)(a1:OA)(n1 c1:Nat)(a2:OA)(n2 c2:Nat)(x3:Int)(b8 f8 b10 f10 b11 f11:Nat)(x28:Int)(h:Hp):Prop:=
 vcond (ltI x28 (Int.ofNat n1))
 (isNat x28 fun n101=>
 isAddr a1 fun b102 f103=>
 vreq (Nat.blt n101 n1)
 (∃x104,readAt h b102 (f103+(n101*1)) 1=some [.int .i64 x104]∧
 ∃a105 n106 c107,readAt h b10 f10 1=some [.slice a105 n106 c107]∧
 ∃x108,readAt h b11 (f11+1) 1=some [.int .i64 x108]∧
 isNat x104 fun n109=>
 isAddr a105 fun b110 f111=>
 vreq (Nat.blt n109 n106)
 (vreq (canW h b110 (f111+(n109*1)) [.int .i64 x108])
 (let g112:=h.wr b110 (f111+(n109*1)) [.int .i64 x108]
 let g113:=g112.rsv 12
 ∃x114,readAt g113 b11 (f11+1) 1=some [.int .i64 x114]∧
 isNat x104 fun n115=>
 isAddr a0 fun b116 f117=>
 vreq (Nat.blt n115 n0)
 (∃a118 n119 c120,readAt g113 b116 ((f117+(n115*2))+1) 1=some [.slice a118 n119 c120]∧
 vreq (canW (g113.grd []) b11 (f11+1) [(.int .i64 (wrapF .i64 (x114+(wrapF .i64 (1+(Int.ofNat n119))))))])
 (let g121:=(g113.grd []).wr b11 (f11+1) [(.int .i64 (wrapF .i64 (x114+(wrapF .i64 (1+(Int.ofNat n119))))))]
 let g122:=g121.rst g113
 I52_0 O Q a0 n0 c0 a1 n1 c1 a2 n2 c2 x3 b8 f8 b10 f10 b11 f11 (wrapF .i64 (x28+1)) g122))))))
 (∃x123,readAt h b11 (f11+1) 1=some [.int .i64 x123]∧
 isNat (wrapF .i64 (x123+x3)) fun n124=>
 isNat (wrapF .i64 (x123+x3)) fun n125=>
 vreq (Nat.ble n124 n125)
 (vreq (Nat.ble (n125*8) 281474976710656)
 (vreq (Nat.blt n125 big)
 (let g126:=h.add (.cells (List.flatten (List.replicate n125 [.int .i64 0])) 3 .fix)
 vreq (canW g126 b11 (f11+0) [.slice (some ⟨h.nx,0,none⟩) n124 n125])
 (let g127:=g126.wr b11 (f11+0) [.slice (some ⟨h.nx,0,none⟩) n124 n125]
 I52_1 O Q a0 n0 c0 a1 n1 c1 a2 n2 c2 x3 b8 f8 b10 f10 b11 f11 (.func (.func 112) #[] #[.pointer (some ⟨b10,f10,none⟩)]) 0 g127)))))
theorem I52_0.of {O Q} (a0 n0 c0 a1 n1 c1 a2 n2 c2 x3 b8 f8 b10 f10 b11 f11 x28){h:Hp}(hh:T52_0 O Q a0 n0 c0 a1 n1 c1 a2 n2 c2 x3 b8 f8 b10 f10 b11 f11 x28 h):I52_0 O Q a0 n0 c0 a1 n1 c1 a2 n2 c2 x3 b8 f8 b10 f10 b11 f11 x28 h:=
 RKL.of (tb:=lv52) (cuts:=[]) 500 fun _=>Eq.mp (by kernel_rfl) hh
def T52_1 (O:CallF)(Q:VQ)(a0:OA)(n0 c0:Nat)(a1:OA)(n1 c1:Nat)(a2:OA)(n2 c2:Nat)(x3:Int)(b8 f8 b10 f10 b11 f11:Nat)(v14:Value)(x58:Int)(h:Hp):Prop:=
 vcond (ltI x58 (Int.ofNat n1))
 (isNat x58 fun n201=>
 isAddr a1 fun b202 f203=>
 vreq (Nat.blt n201 n1)
 (∃x204,readAt h b202 (f203+(n201*1)) 1=some [.int .i64 x204]∧
 let g205:=h.rsv 21
 ∃a206 n207 c208,readAt g205 b11 (f11+0) 1=some [.slice a206 n207 c208]∧
 ∃a209 n210 c211,readAt g205 b10 f10 1=some [.slice a209 n210 c211]∧
 isNat x204 fun n212=>
 isAddr a209 fun b213 f214=>
 vreq (Nat.blt n212 n210)
 (∃x215,readAt g205 b213 (f214+(n212*1)) 1=some [.int .i64 x215]∧
 isNat x204 fun n216=>
 isAddr a0 fun b217 f218=>
 vreq (Nat.blt n216 n0)
 (∃a219 n220 c221,readAt g205 b217 ((f218+(n216*2))+1) 1=some [.slice a219 n220 c221]∧
 isNat x204 fun n222=>
 isAddr a0 fun b223 f224=>
 vreq (Nat.blt n222 n0)
 (∃x225,readAt g205 b223 ((f224+(n222*2))+0) 1=some [.int .i64 x225]∧
 isNat x215 fun n226=>
 isAddr a206 fun b227 f228=>
 vreq (Nat.blt n226 n207)
 (vreq (canW (g205.grd []) b227 (f228+(n226*1)) [(.int .i64 (wrapF .i64 ((wrapF .i64 (8*(Int.ofNat n220)))+x225)))])
 (let g229:=(g205.grd []).wr b227 (f228+(n226*1)) [(.int .i64 (wrapF .i64 ((wrapF .i64 (8*(Int.ofNat n220)))+x225)))]
 let g230:=g229.rst g205
 isNat x204 fun n231=>
 isAddr a0 fun b232 f233=>
 vreq (Nat.blt n231 n0)
 (∃a234 n235 c236,readAt g230 b232 ((f233+(n231*2))+1) 1=some [.slice a234 n235 c236]∧
 I52_2 O Q a0 n0 c0 a1 n1 c1 a2 n2 c2 x3 b8 f8 b10 f10 b11 f11 v14 x204 x58 a234 n235 c236 (Int.ofNat n235) 0 g230))))))))
 (I52_3 O Q a0 n0 c0 a1 n1 c1 a2 n2 c2 x3 b8 f8 b10 f10 b11 f11 v14 0 h)
theorem I52_1.of {O Q} (a0 n0 c0 a1 n1 c1 a2 n2 c2 x3 b8 f8 b10 f10 b11 f11 v14 x58){h:Hp}(hh:T52_1 O Q a0 n0 c0 a1 n1 c1 a2 n2 c2 x3 b8 f8 b10 f10 b11 f11 v14 x58 h):I52_1 O Q a0 n0 c0 a1 n1 c1 a2 n2 c2 x3 b8 f8 b10 f10 b11 f11 v14 x58 h:=
 RKL.of (tb:=lv52) (cuts:=[]) 500 fun _=>Eq.mp (by kernel_rfl) hh
def T52_2 (O:CallF)(Q:VQ)(a0:OA)(n0 c0:Nat)(a1:OA)(n1 c1:Nat)(a2:OA)(n2 c2:Nat)(x3:Int)(b8 f8 b10 f10 b11 f11:Nat)(v14:Value)(x16 x58:Int)(a86:OA)(n86 c86:Nat)(x87 x88:Int)(h:Hp):Prop:=
 vcond (ltI x88 x87)
 (isNat x88 fun n301=>
 isAddr a86 fun b302 f303=>
 vreq (Nat.blt n301 n86)
 (∃x304 q305,readAt h b302 (f303+(n301*2)) 2=some [.int .i64 x304,.bool q305]∧
 let g306:=h.add (.cells [.int .i64 0,.bool false] 76 .fix)
 vreq (canW g306 h.nx 0 [.int .i64 x304,.bool q305])
 (let g307:=g306.wr h.nx 0 [.int .i64 x304,.bool q305]
 let g308:=g307.rsv 14
 ∃a309 n310 c311,readAt g308 b11 (f11+0) 1=some [.slice a309 n310 c311]∧
 ∃a312 n313 c314,readAt g308 b10 f10 1=some [.slice a312 n313 c314]∧
 isNat x16 fun n315=>
 isAddr a312 fun b316 f317=>
 vreq (Nat.blt n315 n313)
 (∃x318,readAt g308 b316 (f317+(n315*1)) 1=some [.int .i64 x318]∧
 ∃x319 q320,readAt g308 h.nx 0 2=some [.int .i64 x319,.bool q320]∧
 isFn v14 fun g321 r322 r323=>
 ∃x324 h325,EvC Tryz.prog O g321 (r322++[.agg #[.int .i64 x319,.bool q320]]++r323) (g308.grd [b316,b10,b11]) (.int .i64 x324) h325∧
 let g326:=h325.rst g308
 isNat (wrapF .i64 ((wrapF .i64 (x318+1))+x88)) fun n327=>
 isAddr a309 fun b328 f329=>
 vreq (Nat.blt n327 n310)
 (vreq (canW (g326.grd []) b328 (f329+(n327*1)) [.int .i64 x324])
 (let g330:=(g326.grd []).wr b328 (f329+(n327*1)) [.int .i64 x324]
 let g331:=g330.rst g326
 I52_2 O Q a0 n0 c0 a1 n1 c1 a2 n2 c2 x3 b8 f8 b10 f10 b11 f11 v14 x16 x58 a86 n86 c86 x87 (wrapF .i64 (x88+1)) g331))))))
 (I52_1 O Q a0 n0 c0 a1 n1 c1 a2 n2 c2 x3 b8 f8 b10 f10 b11 f11 v14 (wrapF .i64 (x58+1)) h)
theorem I52_2.of {O Q} (a0 n0 c0 a1 n1 c1 a2 n2 c2 x3 b8 f8 b10 f10 b11 f11 v14 x16 x58 a86 n86 c86 x87 x88){h:Hp}(hh:T52_2 O Q a0 n0 c0 a1 n1 c1 a2 n2 c2 x3 b8 f8 b10 f10 b11 f11 v14 x16 x58 a86 n86 c86 x87 x88 h):I52_2 O Q a0 n0 c0 a1 n1 c1 a2 n2 c2 x3 b8 f8 b10 f10 b11 f11 v14 x16 x58 a86 n86 c86 x87 x88 h:=
 RKL.of (tb:=lv52) (cuts:=[]) 500 fun _=>Eq.mp (by kernel_rfl) hh
def T52_3 (O:CallF)(Q:VQ)(a0:OA)(n0 c0:Nat)(a1:OA)(n1 c1:Nat)(a2:OA)(n2 c2:Nat)(x3:Int)(b8 f8 b10 f10 b11 f11:Nat)(v14:Value)(x110:Int)(h:Hp):Prop:=
 vcond (ltI x110 (Int.ofNat n2))
 (isNat x110 fun n401=>
 isAddr a2 fun b402 f403=>
 vreq (Nat.blt n401 n2)
 (∃x404 q405,readAt h b402 (f403+(n401*2)) 2=some [.int .i64 x404,.bool q405]∧
 let g406:=h.add (.cells [.int .i64 0,.bool false] 76 .fix)
 vreq (canW g406 h.nx 0 [.int .i64 x404,.bool q405])
 (let g407:=g406.wr h.nx 0 [.int .i64 x404,.bool q405]
 let g408:=g407.rsv 9
 ∃a409 n410 c411,readAt g408 b11 (f11+2) 1=some [.slice a409 n410 c411]∧
 ∃x412 q413,readAt g408 h.nx 0 2=some [.int .i64 x412,.bool q413]∧
 isFn v14 fun g414 r415 r416=>
 ∃x417 h418,EvC Tryz.prog O g414 (r415++[.agg #[.int .i64 x412,.bool q413]]++r416) (g408.grd [b11]) (.int .i64 x417) h418∧
 let g419:=h418.rst g408
 vreq (g419.free (g407.nx+5))
 (let g420:=g419.lay (g407.nx+5) (.cells [.int .i64 x417] 3 .fix)
 ∃a421 n422 c423 h424,appendV Tryz.prog (g420.grd []) 22 22 (.slice a409 n410 c411) (.slice (some ⟨(g407.nx+5),0,none⟩) 1 1)=some (.slice a421 n422 c423,h424)∧
 let g425:=h424.rst g420
 vreq (canW (g425.grd []) b11 (f11+2) [.slice a421 n422 c423])
 (let g426:=(g425.grd []).wr b11 (f11+2) [.slice a421 n422 c423]
 let g427:=g426.rst g425
 I52_3 O Q a0 n0 c0 a1 n1 c1 a2 n2 c2 x3 b8 f8 b10 f10 b11 f11 v14 (wrapF .i64 (x110+1)) g427)))))
 (let g428:=h.rsv 4
 ∃a429 n430 c431 x432 a433 n434 c435,readAt g428 b11 f11 3=some (v24 a429 n430 c431 x432 a433 n434 c435)∧
 ∃a436 n437 c438,readAt g428 b10 f10 1=some [.slice a436 n437 c438]∧
 vreq (canW (g428.grd [b10]) b8 f8 (v24 a429 n430 c431 x432 a433 n434 c435))
 (let g439:=(g428.grd [b10]).wr b8 f8 (v24 a429 n430 c431 x432 a433 n434 c435)
 let g440:=g439.rst g428
 ∃a441 n442 c443 x444 a445 n446 c447,readAt g440 b8 f8 3=some (v24 a441 n442 c443 x444 a445 n446 c447)∧
 Q (.tuple #[.agg (w24 a441 n442 c443 x444 a445 n446 c447),.slice a436 n437 c438]) g440))
theorem I52_3.of {O Q} (a0 n0 c0 a1 n1 c1 a2 n2 c2 x3 b8 f8 b10 f10 b11 f11 v14 x110){h:Hp}(hh:T52_3 O Q a0 n0 c0 a1 n1 c1 a2 n2 c2 x3 b8 f8 b10 f10 b11 f11 v14 x110 h):I52_3 O Q a0 n0 c0 a1 n1 c1 a2 n2 c2 x3 b8 f8 b10 f10 b11 f11 v14 x110 h:=
 RKL.of (tb:=lv52) (cuts:=[]) 500 fun _=>Eq.mp (by kernel_rfl) hh
noncomputable def b106:Code:=(Tryz.f106.body).getD .skip
noncomputable def stk106_0:List KI:=[.code (sub [1,1,1,1,0,1,0] b106),.blk 0,.code (sub [1,1,1,1,1] b106)]
noncomputable def stk106_1:List KI:=[.code (sub [1,1,1,1,0,1,0,0,1,1,0,0,1,1,1,1,0,1,0] b106),.blk 2,.code (sub [1,1,1,1,0,1,0,0,1,1,0,0,1,1,1,1,1] b106),.blk 1,.code (sub [1,1,1,1,0,1,0,0,1,1,1] b106),.code (sub [1,1,1,1,0,1,0] b106),.blk 0,.code (sub [1,1,1,1,1] b106)]
noncomputable def stk106_2:List KI:=[.code (sub [1,1,1,1,1,1,0,1,0] b106),.blk 5,.code (sub [1,1,1,1,1,1,1] b106)]
def lv106:List (Nat×List Nat):=[(0,[1,2,3,5,6,20,21]),(2,[1,2,3,5,6,8,20,21,46,47,48]),(5,[2,3,5,6,12,97,98,99])]
def I106_0 (O:CallF)(Q:VQ)(v0:Array Value)(b1 f1:Nat)(v5:Value)(a6:OA)(n6 c6:Nat)(x20 x21:Int)(h:Hp):Prop:=RKL Tryz.prog O Tryz.f106 stk106_0 112 [1,2,3,5,6,20,21] [.pointer (some ⟨b1,f1,none⟩),.slice none 0 0,.slice none 0 0,v5,.slice a6 n6 c6,.int .i64 x20,.int .i64 x21] h Q
def I106_1 (O:CallF)(Q:VQ)(v0:Array Value)(b1 f1:Nat)(v5:Value)(a6:OA)(n6 c6 b8 f8:Nat)(x20 x21:Int)(a46:OA)(n46 c46:Nat)(x47 x48:Int)(h:Hp):Prop:=RKL Tryz.prog O Tryz.f106 stk106_1 112 [1,2,3,5,6,8,20,21,46,47,48] [.pointer (some ⟨b1,f1,none⟩),.slice none 0 0,.slice none 0 0,v5,.slice a6 n6 c6,.pointer (some ⟨b8,f8,none⟩),.int .i64 x20,.int .i64 x21,.slice a46 n46 c46,.int .i64 x47,.int .i64 x48] h Q
def I106_2 (O:CallF)(Q:VQ)(v0:Array Value)(v5:Value)(a6:OA)(n6 c6:Nat)(a12:OA)(n12 c12:Nat)(a97:OA)(n97 c97:Nat)(x98 x99:Int)(h:Hp):Prop:=RKL Tryz.prog O Tryz.f106 stk106_2 112 [2,3,5,6,12,97,98,99] [.slice none 0 0,.slice none 0 0,v5,.slice a6 n6 c6,.slice a12 n12 c12,.slice a97 n97 c97,.int .i64 x98,.int .i64 x99] h Q
def T106 (O:CallF)(Q:VQ)(v0:Array Value)(h:Hp):Prop:=
 vreq (v0.toList.all one)
 (let g1:=h.add (.cells v0.toList 62 .fix)
 ∃x2,readAt g1 h.nx 0 1=some [.int .u8 x2]∧
 let g3:=g1.add (.cells [.int .i64 0] 3 .fix)
 vreq (canW g3 g1.nx 0 [.int .i64 (Int.tmod (wrapF .i64 x2) 10)])
 (let g4:=g3.wr g1.nx 0 [.int .i64 (Int.tmod (wrapF .i64 x2) 10)]
 ∃x5,readAt g4 g1.nx 0 1=some [.int .i64 x5]∧
 I106_0 O Q v0 h.nx 0 (.func (.func 139) #[] #[.pointer (some ⟨g1.nx,0,none⟩)]) none 0 0 x5 0 g4))
theorem rk106 {O Q} (v0){h:Hp}(hO:O 106 [.agg v0] h=none)(hh:T106 O Q v0 h):Ret Tryz.prog O 106 [.agg v0] h Q:=
 .of (c:=b106) Tryz.func106 (by kernel_rfl) hO (V_ok (tb:=lv106) (cuts:=[]) 500 (Eq.mp (by kernel_rfl) hh))
def T106_0 (O:CallF)(Q:VQ)(v0:Array Value)(b1 f1:Nat)(v5:Value)(a6:OA)(n6 c6:Nat)(x20 x21:Int)(h:Hp):Prop:=
 vcond (ltI x21 x20)
 (isNat x21 fun n101=>
 vreq (Nat.blt n101 9)
 (∃x102,readAt h b1 ((f1+2)+(n101*1)) 1=some [.int .u8 x102]∧
 let g103:=h.add (.cells [.int .i64 0,.slice none 0 0] 72 .fix)
 vreq (canW g103 h.nx 0 [(.int .i64 (wrapF .i64 (1+(Int.tmod (wrapF .i64 x102) 5)))),.slice none 0 0])
 (let g104:=g103.wr h.nx 0 [(.int .i64 (wrapF .i64 (1+(Int.tmod (wrapF .i64 x102) 5)))),.slice none 0 0]
 isNat x21 fun n105=>
 vreq (Nat.blt n105 9)
 (∃x106,readAt g104 b1 ((f1+2)+(n105*1)) 1=some [.int .u8 x106]∧
 ∃x107,readAt g104 h.nx 0 1=some [.int .i64 x107]∧
 vcond (eqI x107 4)
 (isNat x21 fun n108=>
 vreq (Nat.blt n108 9)
 (∃a109 n110 c111,sliceV Tryz.prog g104 59 (.pointer (some ⟨b1,((f1+11)+(n108*4)),none⟩)) none (some (.int .i64 1)) none=some (.slice a109 n110 c111)∧
 I106_1 O Q v0 b1 f1 v5 a6 n6 c6 h.nx 0 x20 x21 a109 n110 c111 (Int.ofNat n110) 0 g104))
 (isNat x21 fun n112=>
 vreq (Nat.blt n112 9)
 (∃a113 n114 c115,sliceV Tryz.prog g104 59 (.pointer (some ⟨b1,((f1+11)+(n112*4)),none⟩)) none (some (.int .i64 (Int.tmod (wrapF .i64 (Int.tdiv (wrapF .i64 x106) 8)) 5))) none=some (.slice a113 n114 c115)∧
 I106_1 O Q v0 b1 f1 v5 a6 n6 c6 h.nx 0 x20 x21 a113 n114 c115 (Int.ofNat n114) 0 g104))))))
 (∃x116,readAt h b1 (f1+0) 1=some [.int .u8 x116]∧
 ∃a117 n118 c119,sliceV Tryz.prog h 59 (.pointer (some ⟨b1,(f1+47),none⟩)) none (some (.int .i64 (Int.tmod (wrapF .i64 (Int.tdiv (wrapF .i64 x116) 16)) 5))) none=some (.slice a117 n118 c119)∧
 I106_2 O Q v0 v5 a6 n6 c6 none 0 0 a117 n118 c119 (Int.ofNat n118) 0 h)
theorem I106_0.of {O Q} (v0 b1 f1 v5 a6 n6 c6 x20 x21){h:Hp}(hh:T106_0 O Q v0 b1 f1 v5 a6 n6 c6 x20 x21 h):I106_0 O Q v0 b1 f1 v5 a6 n6 c6 x20 x21 h:=
 RKL.of (tb:=lv106) (cuts:=[]) 500 fun _=>Eq.mp (by kernel_rfl) hh
def T106_1 (O:CallF)(Q:VQ)(v0:Array Value)(b1 f1:Nat)(v5:Value)(a6:OA)(n6 c6 b8 f8:Nat)(x20 x21:Int)(a46:OA)(n46 c46:Nat)(x47 x48:Int)(h:Hp):Prop:=
 vcond (ltI x48 x47)
 (isNat x48 fun n201=>
 isAddr a46 fun b202 f203=>
 vreq (Nat.blt n201 n46)
 (∃x204,readAt h b202 (f203+(n201*1)) 1=some [.int .u8 x204]∧
 ∃x205,readAt h b8 (f8+0) 1=some [.int .i64 x205]∧
 vcond (eqI x205 3)
 (∃a206 n207 c208,readAt h b8 (f8+1) 1=some [.slice a206 n207 c208]∧
 let g209:=h.add (.cells [(.int .i64 (wrapF .i64 (97+(Int.tmod (wrapF .i64 x204) 26)))),.bool false] 76 .fix)
 ∃a210 n211 c212 h213,appendV Tryz.prog g209 64 64 (.slice a206 n207 c208) (.slice (some ⟨h.nx,0,none⟩) 1 1)=some (.slice a210 n211 c212,h213)∧
 vreq (canW h213 b8 (f8+1) [.slice a210 n211 c212])
 (let g214:=h213.wr b8 (f8+1) [.slice a210 n211 c212]
 I106_1 O Q v0 b1 f1 v5 a6 n6 c6 b8 f8 x20 x21 a46 n46 c46 x47 (wrapF .i64 (x48+1)) g214))
 (vcond (eqI x205 4)
 (∃a215 n216 c217,readAt h b8 (f8+1) 1=some [.slice a215 n216 c217]∧
 let g218:=h.add (.cells [.int .i64 (Int.tmod (wrapF .i64 x204) 2),.bool false] 76 .fix)
 ∃a219 n220 c221 h222,appendV Tryz.prog g218 64 64 (.slice a215 n216 c217) (.slice (some ⟨h.nx,0,none⟩) 1 1)=some (.slice a219 n220 c221,h222)∧
 vreq (canW h222 b8 (f8+1) [.slice a219 n220 c221])
 (let g223:=h222.wr b8 (f8+1) [.slice a219 n220 c221]
 I106_1 O Q v0 b1 f1 v5 a6 n6 c6 b8 f8 x20 x21 a46 n46 c46 x47 (wrapF .i64 (x48+1)) g223))
 (let g224:=h.rsv 9
 ∃a225 n226 c227,readAt g224 b8 (f8+1) 1=some [.slice a225 n226 c227]∧
 isFn v5 fun g228 r229 r230=>
 ∃x231 q232 h233,EvC Tryz.prog O g228 (r229++[.int .u8 x204]++r230) (g224.grd [b8]) (.agg #[.int .i64 x231,.bool q232]) h233∧
 let g234:=h233.rst g224
 vreq (g234.free (h.nx+5))
 (let g235:=g234.lay (h.nx+5) (.cells [.int .i64 x231,.bool q232] 76 .fix)
 ∃a236 n237 c238 h239,appendV Tryz.prog (g235.grd []) 64 64 (.slice a225 n226 c227) (.slice (some ⟨(h.nx+5),0,none⟩) 1 1)=some (.slice a236 n237 c238,h239)∧
 let g240:=h239.rst g235
 vreq (canW (g240.grd []) b8 (f8+1) [.slice a236 n237 c238])
 (let g241:=(g240.grd []).wr b8 (f8+1) [.slice a236 n237 c238]
 let g242:=g241.rst g240
 I106_1 O Q v0 b1 f1 v5 a6 n6 c6 b8 f8 x20 x21 a46 n46 c46 x47 (wrapF .i64 (x48+1)) g242))))))
 (∃x243 a244 n245 c246,readAt h b8 f8 2=some [.int .i64 x243,.slice a244 n245 c246]∧
 let g247:=h.add (.cells [.int .i64 x243,.slice a244 n245 c246] 72 .fix)
 ∃a248 n249 c250 h251,appendV Tryz.prog g247 63 63 (.slice a6 n6 c6) (.slice (some ⟨h.nx,0,none⟩) 1 1)=some (.slice a248 n249 c250,h251)∧
 I106_0 O Q v0 b1 f1 v5 a248 n249 c250 x20 (wrapF .i64 (x21+1)) h251)
theorem I106_1.of {O Q} (v0 b1 f1 v5 a6 n6 c6 b8 f8 x20 x21 a46 n46 c46 x47 x48){h:Hp}(hh:T106_1 O Q v0 b1 f1 v5 a6 n6 c6 b8 f8 x20 x21 a46 n46 c46 x47 x48 h):I106_1 O Q v0 b1 f1 v5 a6 n6 c6 b8 f8 x20 x21 a46 n46 c46 x47 x48 h:=
 RKL.of (tb:=lv106) (cuts:=[]) 500 fun _=>Eq.mp (by kernel_rfl) hh
def T106_2 (O:CallF)(Q:VQ)(v0:Array Value)(v5:Value)(a6:OA)(n6 c6:Nat)(a12:OA)(n12 c12:Nat)(a97:OA)(n97 c97:Nat)(x98 x99:Int)(h:Hp):Prop:=
 vcond (ltI x99 x98)
 (isNat x99 fun n301=>
 isAddr a97 fun b302 f303=>
 vreq (Nat.blt n301 n97)
 (∃x304,readAt h b302 (f303+(n301*1)) 1=some [.int .u8 x304]∧
 isFn v5 fun g305 r306 r307=>
 ∃x308 q309 h310,EvC Tryz.prog O g305 (r306++[.int .u8 x304]++r307) h (.agg #[.int .i64 x308,.bool q309]) h310∧
 let g311:=h310.add (.cells [.int .i64 x308,.bool q309] 76 .fix)
 ∃a312 n313 c314 h315,appendV Tryz.prog g311 64 64 (.slice a12 n12 c12) (.slice (some ⟨h310.nx,0,none⟩) 1 1)=some (.slice a312 n313 c314,h315)∧
 I106_2 O Q v0 v5 a6 n6 c6 a312 n313 c314 a97 n97 c97 x98 (wrapF .i64 (x99+1)) h315))
 (Q (.tuple #[.slice a6 n6 c6,.slice a12 n12 c12]) h)
theorem I106_2.of {O Q} (v0 v5 a6 n6 c6 a12 n12 c12 a97 n97 c97 x98 x99){h:Hp}(hh:T106_2 O Q v0 v5 a6 n6 c6 a12 n12 c12 a97 n97 c97 x98 x99 h):I106_2 O Q v0 v5 a6 n6 c6 a12 n12 c12 a97 n97 c97 x98 x99 h:=
 RKL.of (tb:=lv106) (cuts:=[]) 500 fun _=>Eq.mp (by kernel_rfl) hh
noncomputable def b111:Code:=(Tryz.f111.body).getD .skip
noncomputable def stk111_0:List KI:=[.code (sub [1,1,1,1,1,1,0,0] b111),.blk 0,.code (sub [1,1,1,1,1,1,1] b111)]
def lv111:List (Nat×List Nat):=[(0,[4,7,8])]
def I111_0 (O:CallF)(Q:VQ)(a0:OA)(n0 c0:Nat)(x1:Int)(a7:OA)(n7 c7:Nat)(x8:Int)(h:Hp):Prop:=RKL Tryz.prog O Tryz.f111 stk111_0 48 [4,7,8] [.slice none 0 0,.slice a7 n7 c7,.int .i64 x8] h Q
def T111 (O:CallF)(Q:VQ)(a0:OA)(n0 c0:Nat)(x1:Int)(h:Hp):Prop:=
 vcond (ltI x1 0)
 (False)
 (∃x1' x2 h3,EvC Tryz.prog O 143 [.int .u64 (wrapF .u64 (Int.ofNat n0)),.int .u64 (wrapF .u64 x1)] h (.tuple #[.int .u64 x1',.int .u64 x2]) h3∧
 vcond (ltI 0 x1')
 (False)
 (vcond (ltI 9223372036854775807 x2)
 (False)
 (isNat (wrapF .i64 x2) fun n4=>
 isNat (wrapF .i64 x2) fun n5=>
 vreq (Nat.ble n4 n5)
 (vreq (Nat.ble (n5*8) 281474976710656)
 (vreq (Nat.blt n5 big)
 (let g6:=h3.add (.cells (List.flatten (List.replicate n5 [.int .i64 0])) 3 .fix)
 ∃x7 h8,copyV Tryz.prog g6 22 (.slice (some ⟨h3.nx,0,none⟩) n4 n5) (.slice a0 n0 c0)=some (.int .i64 x7,h8)∧
 I111_0 O Q a0 n0 c0 x1 (some ⟨h3.nx,0,none⟩) n4 n5 x7 h8))))))
theorem rk111 {O Q} (a0 n0 c0 x1){h:Hp}(hO:O 111 [.slice a0 n0 c0,.int .i64 x1] h=none)(hh:T111 O Q a0 n0 c0 x1 h):Ret Tryz.prog O 111 [.slice a0 n0 c0,.int .i64 x1] h Q:=
 .of (c:=b111) Tryz.func111 (by kernel_rfl) hO (V_ok (tb:=lv111) (cuts:=[]) 500 (Eq.mp (by kernel_rfl) hh))
def T111_0 (O:CallF)(Q:VQ)(a0:OA)(n0 c0:Nat)(x1:Int)(a7:OA)(n7 c7:Nat)(x8:Int)(h:Hp):Prop:=
 vcond (ltI x8 (Int.ofNat n7))
 (let g101:=h.rsv 10
 ∃a102 n103 c104,sliceV Tryz.prog g101 22 (.slice a7 n7 c7) (some (.int .i64 x8)) none none=some (.slice a102 n103 c104)∧
 ∃a105 n106 c107,sliceV Tryz.prog g101 22 (.slice a7 n7 c7) none (some (.int .i64 x8)) none=some (.slice a105 n106 c107)∧
 ∃x108 h109,copyV Tryz.prog (g101.grd []) 22 (.slice a102 n103 c104) (.slice a105 n106 c107)=some (.int .i64 x108,h109)∧
 let g110:=h109.rst g101
 I111_0 O Q a0 n0 c0 x1 a7 n7 c7 (wrapF .i64 (x8+x108)) g110)
 (Q (.slice a7 n7 c7) h)
theorem I111_0.of {O Q} (a0 n0 c0 x1 a7 n7 c7 x8){h:Hp}(hh:T111_0 O Q a0 n0 c0 x1 a7 n7 c7 x8 h):I111_0 O Q a0 n0 c0 x1 a7 n7 c7 x8 h:=
 RKL.of (tb:=lv111) (cuts:=[]) 500 fun _=>Eq.mp (by kernel_rfl) hh
noncomputable def b112:Code:=(Tryz.f112.body).getD .skip
def lv112:List (Nat×List Nat):=[]
def T112 (O:CallF)(Q:VQ)(x0_0:Int)(q0_1:Bool)(b1 f1:Nat)(h:Hp):Prop:=
 let g1:=h.add (.cells [.int .i64 x0_0,.bool q0_1] 76 .fix)
 ∃q2,readAt g1 h.nx 1 1=some [.bool q2]∧
 vcond q2
 (∃a3 n4 c5,readAt g1 b1 f1 1=some [.slice a3 n4 c5]∧
 ∃x6,readAt g1 h.nx 0 1=some [.int .i64 x6]∧
 isNat x6 fun n7=>
 isAddr a3 fun b8 f9=>
 vreq (Nat.blt n7 n4)
 (∃x10,readAt g1 b8 (f9+(n7*1)) 1=some [.int .i64 x10]∧
 Q (.int .i64 (wrapF .i64 (2*x10))) g1))
 (∃x11,readAt g1 h.nx 0 1=some [.int .i64 x11]∧
 Q (.int .i64 x11) g1)
theorem rk112 {O Q} (x0_0 q0_1 b1 f1){h:Hp}(hO:O 112 [.agg #[.int .i64 x0_0,.bool q0_1],.pointer (some ⟨b1,f1,none⟩)] h=none)(hh:T112 O Q x0_0 q0_1 b1 f1 h):Ret Tryz.prog O 112 [.agg #[.int .i64 x0_0,.bool q0_1],.pointer (some ⟨b1,f1,none⟩)] h Q:=
 .of (c:=b112) Tryz.func112 (by kernel_rfl) hO (V_ok (tb:=lv112) (cuts:=[]) 500 (Eq.mp (by kernel_rfl) hh))
noncomputable def b139:Code:=(Tryz.f139.body).getD .skip
def lv139:List (Nat×List Nat):=[]
def T139 (O:CallF)(Q:VQ)(x0:Int)(b1 f1:Nat)(h:Hp):Prop:=
 let g1:=h.add (.cells [.int .i64 0,.bool false] 76 .fix)
 ∃x2,readAt g1 b1 f1 1=some [.int .i64 x2]∧
 vcond (eqI x2 0)
 (vreq (canW g1 h.nx 0 [(.int .i64 (wrapF .i64 ((wrapF .i64 (2*(wrapF .i64 ((wrapF .i64 x0)-100))))+1))),.bool false])
 (let g3:=g1.wr h.nx 0 [(.int .i64 (wrapF .i64 ((wrapF .i64 (2*(wrapF .i64 ((wrapF .i64 x0)-100))))+1))),.bool false]
 ∃x4 q5,readAt g3 h.nx 0 2=some [.int .i64 x4,.bool q5]∧
 Q (.agg #[.int .i64 x4,.bool q5]) g3))
 (vcond (eqI (Int.tmod x0 4) 0)
 (vreq (canW g1 h.nx 0 [(.int .i64 (wrapF .i64 ((wrapF .i64 (2*(wrapF .i64 ((wrapF .i64 x0)-100))))+1))),.bool false])
 (let g6:=g1.wr h.nx 0 [(.int .i64 (wrapF .i64 ((wrapF .i64 (2*(wrapF .i64 ((wrapF .i64 x0)-100))))+1))),.bool false]
 ∃x7 q8,readAt g6 h.nx 0 2=some [.int .i64 x7,.bool q8]∧
 Q (.agg #[.int .i64 x7,.bool q8]) g6))
 (vcond (eqI (Int.tmod x0 16) 7)
 (vreq (canW g1 h.nx 0 [.int .i64 0,.bool false])
 (let g9:=g1.wr h.nx 0 [.int .i64 0,.bool false]
 ∃x10 q11,readAt g9 h.nx 0 2=some [.int .i64 x10,.bool q11]∧
 Q (.agg #[.int .i64 x10,.bool q11]) g9))
 (∃x12,readAt g1 b1 f1 1=some [.int .i64 x12]∧
 vreq (!(eqI x12 0))
 (vreq (canW g1 h.nx 0 [(.int .i64 (Int.tmod (wrapF .i64 (Int.tdiv (wrapF .i64 x0) 4)) x12)),.bool true])
 (let g13:=g1.wr h.nx 0 [(.int .i64 (Int.tmod (wrapF .i64 (Int.tdiv (wrapF .i64 x0) 4)) x12)),.bool true]
 ∃x14 q15,readAt g13 h.nx 0 2=some [.int .i64 x14,.bool q15]∧
 Q (.agg #[.int .i64 x14,.bool q15]) g13)))))
theorem rk139 {O Q} (x0 b1 f1){h:Hp}(hO:O 139 [.int .u8 x0,.pointer (some ⟨b1,f1,none⟩)] h=none)(hh:T139 O Q x0 b1 f1 h):Ret Tryz.prog O 139 [.int .u8 x0,.pointer (some ⟨b1,f1,none⟩)] h Q:=
 .of (c:=b139) Tryz.func139 (by kernel_rfl) hO (V_ok (tb:=lv139) (cuts:=[]) 500 (Eq.mp (by kernel_rfl) hh))
def fdE (f:Fd):List Value:=[.int .i64 f.n,.bool f.refs]
theorem fdE_len (f:Fd):(fdE f).length=2:=rfl
abbrev FdsAt:=SlAt 2 (ECells fdE)
def ECl:Enc Cl:=fun h c vs=> ∃a n cp,vs=[.int .i64 c.kind,.slice a n cp]∧FdsAt h a n c.fs
instance:EUp ECl:=⟨fun _ h' _ _ _ ⟨a,n,c,h1,h2⟩=>⟨a,n,c,h1,h2.to h'⟩⟩
abbrev ClsAt:=SlAt 2 ECl
theorem FdsAt.rd {g h:Hp}{a:Option Addr}{n:Nat}{xs:List Fd}(H:FdsAt g a n xs) [Ft g h] {k:Nat}(hk:k<xs.length){K:Int→Bool→Prop}(next:K xs[k].n xs[k].refs):
 isAddr a fun b off=>vreq (Nat.blt k n) (∃x,∃q,readAt h b (off+k*2) 2=some [.int .i64 x,.bool q]∧K x q):=
 SlAt.read H hk fun _ _ _ _ hb hr e=>vreq_t (blt_t (by rw[H.1];exact hk)) ⟨_,_,by rw[readAt_ex (g:=g) hb,hr,show _=_ from e];rfl,next⟩
theorem ClsAt.rd {g h:Hp}{a:Option Addr}{n:Nat}{xs:List Cl}(H:ClsAt g a n xs) [Ft g h] {k:Nat}(hk:k<xs.length){K:Int→Option Addr→Nat→Nat→Prop}(next: ∀a' n' c',FdsAt g a' n' xs[k].fs→K xs[k].kind a' n' c'):
 isAddr a fun b off=>vreq (Nat.blt k n) (∃x,∃a' n' c',readAt h b (off+k*2) 2=some [.int .i64 x,.slice a' n' c']∧K x a' n' c'):=
 SlAt.read H hk fun _ _ _ _ hb hr ⟨a',n',c',e,F⟩=>vreq_t (blt_t (by rw[H.1];exact hk)) ⟨_,a',n',c',by rw[readAt_ex (g:=g) hb,hr,e],next _ _ _ F⟩
theorem readAt_two {h:Hp}{b off:Nat}{v w:Value}(hr:readAt h b off 2=some [v,w]):readAt h b (off+0) 1=some [v]∧readAt h b (off+1) 1=some [w]:=by
 unfold readAt at hr ⊢;split at hr
 · rename_i c e m hg;obtain⟨hb,hr⟩:=cond_some hr;have hb:=Nat.eq_of_beq_eq_true hb;have hr:=Option.some.inj hr;rw[List.length_take,List.length_drop]at hb;have h1:off<c.length:=by omega
   have h2:off+1<c.length:=by omega
   rw[List.drop_eq_getElem_cons h1,List.drop_eq_getElem_cons h2]at hr;simp only[List.take_succ_cons,List.take_zero,List.cons.injEq,and_true]at hr;have e0:((c.drop (off+0)).take 1)=[v]:=by
    rw[Nat.add_zero,List.drop_eq_getElem_cons h1,List.take_succ_cons,List.take_zero,hr.1]
   have e1:((c.drop (off+1)).take 1)=[w]:=by
    rw[List.drop_eq_getElem_cons h2,List.take_succ_cons,List.take_zero,hr.2]
   simp only[e0,e1];exact⟨rfl,rfl⟩
 · cases hr
theorem ClsAt.rdf {g h:Hp}{a:Option Addr}{n:Nat}{xs:List Cl}(H:ClsAt g a n xs) [Ft g h] {k:Nat}(hk:k<xs.length){K:Option Addr→Nat→Nat→Prop}(next: ∀a' n' c',FdsAt g a' n' xs[k].fs→K a' n' c'):
 isAddr a fun b off=>vreq (Nat.blt k n) (∃a' n' c',readAt h b ((off+k*2)+1) 1=some [.slice a' n' c']∧K a' n' c'):=
 SlAt.read H hk fun _ _ _ _ hb hr ⟨a',n',c',e,F⟩=>vreq_t (blt_t (by rw[H.1];exact hk)) ⟨a',n',c',by rw[readAt_ex (g:=g) hb];rw[e]at hr;exact(readAt_two hr).2,next _ _ _ F⟩
theorem ClsAt.rdk {g h:Hp}{a:Option Addr}{n:Nat}{xs:List Cl}(H:ClsAt g a n xs) [Ft g h] {k:Nat}(hk:k<xs.length){K:Int→Prop}(next:K xs[k].kind):
 isAddr a fun b off=>vreq (Nat.blt k n) (∃x,readAt h b ((off+k*2)+0) 1=some [.int .i64 x]∧K x):=
 SlAt.read H hk fun _ _ _ _ hb hr ⟨a',n',c',e,F⟩=>vreq_t (blt_t (by rw[H.1];exact hk)) ⟨_,by rw[readAt_ex (g:=g) hb];rw[e]at hr;exact(readAt_two hr).1,next⟩
section
variable {O:CallF}(hO:Oth O)
include hO
theorem ct51 {g:Hp}(ok:g.Ok){n:Nat}(hn:n<1000000):Ret Tryz.prog O 51 [.int .i64 (Int.ofNat n)] g fun v h'=> ∃a n' c,v= .slice a n' c∧Know g h' [acc g.nx 3 1 a n' c (iv ((List.range n).map Int.ofNat))]:=by
 refine rk51 (hO:=hO _ _ _ (by decide)) (hh:= ?_) ..;unfold T51;have lp: ∀(d k:Nat) (a:Option Addr) (m c:Nat) (h:Hp),k+d=n→Know g h [acc g.nx 3 1 a m c (iv ((List.range k).map Int.ofNat))]→I51_0 O (fun v h'=> ∃a n' c,v= .slice a n' c∧Know g h' [acc g.nx 3 1 a n' c (iv ((List.range n).map Int.ofNat))]) (Int.ofNat n) a m c (Int.ofNat k) h:=by
  intro d
  induction d with
  |zero=>
   intro k a m c h hk S;refine I51_0.of (hh:= ?_) ..;unfold T51_0;refine vcond_f (by rw[ltI_nat];exact blt_f (by omega)) ⟨_,_,_,rfl,?_⟩;have:k=n:=by omega
   subst this;exact S
  |succ d ih=>
   intro k a m c h hk S;refine I51_0.of (hh:= ?_) ..;unfold T51_0;refine vcond_t (by rw[ltI_nat];exact blt_t (by omega)) ?_;intro g101;have hm:m=k:=by
    have A:AccE h g.nx 3 1 a m c _:=S.get 0 rfl;have:=(AccE.ints A).1;simpa using this
   have S:Know g g101 [_,_]:=S.add _;obtain⟨a',n',c',h',e,hn',S⟩:=S.app 1 rfl (Nat.le_refl _) S.lo AppT22 ⟨_,_,_,rfl⟩ (src_get (n:=1) (c:=1) (esz:=1) (off:=0) (S.rd 0 rfl (r:=[.int .i64 (Int.ofNat k)]) rfl rfl)) rfl rfl (by omega) (by unfold big;omega);have S:Know g h' [_,_]:=S;refine⟨_,_,_,_,e,?_⟩;rw[wrap_succ (by omega)];refine ih (k+1) _ _ _ _ (by omega) ?_;have:=S.sel [1] (by decide) rfl;rw[List.range_succ,List.map_append];unfold iv;rw[List.map_append];exact this
 exact lp n 0 none 0 0 g (by omega) ((Know.nil ok).accNil g.nx 3 1)
end
end Go.Proofs.YtngcjpkccnfjiaaGreatDoor
namespace Go.Ev
open Go
def clo (own:Nat→Prop)(F:Hp→Prop):Rs:=⟨own,fun h=> ∀h':Hp,h.nx≤h'.nx→(∀b,own b→h'.get b=h.get b)→F h'⟩
theorem clo.loc (own:Nat→Prop)(F:Hp→Prop):(clo own F).Loc:=fun _ _ hn he hP h'' hn2 he2=>hP h'' (Nat.le_trans hn hn2) fun b hb=>(he2 b hb).trans (he b hb)
theorem clo.get {own:Nat→Prop}{F:Hp→Prop}{h:Hp}(hP:(clo own F).P h):F h:=hP h (Nat.le_refl _) fun _ _=>rfl
theorem Know.merge {h0 g:Hp}{r s:Rs}{L:List Rs}(S:Know h0 g (r::s::L))(F:Hp→Prop)(hF: ∀h',r.P h'→s.P h'→F h'):Know h0 g (clo (fun o=>r.own o∨s.own o) F::L):=by
 obtain⟨r1,r2,r3⟩:=S.at_ r (List.mem_cons_self ..);obtain⟨s1,s2,s3⟩:=S.at_ s (List.mem_cons_of_mem _ (List.mem_cons_self ..));obtain⟨d1,d2⟩:=List.pairwise_cons.1 S.dis;obtain⟨d3,d4⟩:=List.pairwise_cons.1 d2;refine⟨S.ok,S.kp,fun q hq=> ?_,List.pairwise_cons.2 ⟨fun q hq b hb hqb=> ?_,d4⟩,S.ok0⟩
 · rcases List.mem_cons.1 hq with rfl|hq
   · exact⟨clo.loc _ _,fun h' hn he=>hF h' (r1 g h' hn (fun b hb=>he b (.inl hb)) r2) (s1 g h' hn (fun b hb=>he b (.inr hb)) s2),fun b hb=>hb.elim (r3 b) (s3 b)⟩
   · exact S.at_ q (List.mem_cons_of_mem _ (List.mem_cons_of_mem _ hq))
 · rcases hb with hb|hb
   · exact d1 q (List.mem_cons_of_mem _ hq) b hb hqb
   · exact d3 q hq b hb hqb
theorem AccE.slAt {α:Type}{enc:α→List Value}{w:Nat}(hw: ∀x,(enc x).length=w)(hw0:0<w){h:Hp}{base:Nat}{e:TypeId}{a:Option Addr}{n c:Nat}{xs:List α}(H:AccE h base e w a n c (xs.flatMap enc)):SlAt w (ECells enc) h a n xs:=by
 rcases H with H|⟨h1,h2,h3,o,h4,h5,h6,e2,m,h7⟩
 · exact H.slAt hw hw0
 · have hl:=flatMap_length hw xs;rw[h1]at hl;have hx:xs=[]:=by
    cases xs with
    |nil=>rfl
    |cons x xs=>
     have:w≤(xs.length+1)*w:=Nat.le_mul_of_pos_left w (by omega);rw[List.length_nil,List.length_cons]at hl;omega
   subst hx h2 h4;exact⟨rfl,.inr ⟨o,0,_,_,_,rfl,h6,h7,by simp,fun i hi=>by simp at hi⟩⟩
end Go.Ev
namespace Go.Proofs.YtngcjpkccnfjiaaGreatDoor
set_option maxRecDepth 100000
open Go Go.Ev
theorem app64:AppT Tryz.prog 64 76 2 16:=⟨Tryz.underlying64,by kernel_rfl⟩
theorem app63:AppT Tryz.prog 63 72 2 32:=⟨Tryz.underlying63,by kernel_rfl⟩
abbrev fvs (fs:List Fd):List Value:=fs.flatMap fdE
def Nst (h:Hp):List Value→List Cl→Prop
 | [],[]=>True
 |v::w::vs,c::L=>(v= .int .i64 c.kind∧ ∃a n cp,w= .slice a n cp∧FdsAt h a n c.fs)∧Nst h vs L
 |_,_=>False
theorem Nst.snoc {h:Hp}: ∀ {vs:List Value} {L:List Cl},Nst h vs L→ ∀ {c:Cl} {a:Option Addr} {n cp:Nat},FdsAt h a n c.fs→Nst h (vs++[.int .i64 c.kind,.slice a n cp]) (L++[c])
 | [],[],_,c,a,n,cp,F=>⟨⟨rfl,a,n,cp,rfl,F⟩,trivial⟩
 |v::w::vs,c::L,H,c',a,n,cp,F=>⟨H.1,Nst.snoc H.2 F⟩
 | [],_::_,H,_,_,_,_,_=>H.elim
 | [_],_,H,_,_,_,_,_=>by cases ‹List Cl› <;>exact H.elim
 |_::_::_,[],H,_,_,_,_,_=>H.elim
theorem Nst.len {h:Hp}: ∀ {vs:List Value} {L:List Cl},Nst h vs L→vs.length=L.length*2
 | [],[],_=>rfl
 |v::w::vs,c::L,H=>by have:=Nst.len H.2;simp;omega
 | [],_::_,H=>H.elim
 | [_],_,H=>by cases ‹List Cl› <;>exact H.elim
 |_::_::_,[],H=>H.elim
theorem Nst.get {h:Hp}: ∀ {vs:List Value} {L:List Cl},Nst h vs L→ ∀i (hi:i<L.length),ECl h L[i] ((vs.drop (i*2)).take 2)
 | [],[],_,i,hi=>by simp at hi
 |v::w::vs,c::L,H,i,hi=>by
  cases i with
  |zero=>
   obtain⟨⟨rfl,a,n,cp,rfl,F⟩,_⟩:=H;exact⟨a,n,cp,rfl,F⟩
  |succ i=>
   have:=Nst.get H.2 i (by simpa using hi);rw[show(i+1)*2=i*2+1+1 by omega,List.drop_succ_cons,List.drop_succ_cons];exact this
 | [],_::_,H,_,_=>H.elim
 | [_],_,H,_,_=>by cases ‹List Cl› <;>exact H.elim
 |_::_::_,[],H,_,_=>H.elim
theorem cls_of {h:Hp}{lo:Nat}{a:Option Addr}{n c:Nat}{vs:List Value}{L:List Cl}(A:AccE h lo 72 2 a n c vs)(N:Nst h vs L):ClsAt h a n L:=by
 have hl:=N.len;rcases A with (⟨rfl,rfl,_,rfl⟩|⟨o,rfl,_,h3,_,h5,h6⟩)|⟨rfl,rfl,_,o,rfl,_,h6,e2,m,h7⟩
 · have:L=[]:=by
    cases L with
    |nil=>rfl
    |cons x L=>simp at hl
   subst this;exact SlAt.nil ..
 · exact⟨by omega,.inr ⟨o,0,vs,72,_,rfl,h5,h6,by omega,fun i hi=>by rw[Nat.zero_add];exact N.get i hi⟩⟩
 · have:L=[]:=by
    cases L with
    |nil=>rfl
    |cons x L=>simp at hl
   subst this;exact⟨rfl,.inr ⟨o,0,_,_,_,rfl,h6,h7,by simp,fun i hi=>by simp at hi⟩⟩
abbrev bv (xs:List Nat):List Value:=xs.map fun x=>Value.int .u8 (Int.ofNat x)
structure Bytes (v0:Array Value)(xs:List Nat):Prop where
 v:v0.toList=bv xs
 len:xs.length=51
 lt: ∀x∈xs,x<256
def wordC (n x:Nat):Fd:=if n=0∨x%4=0 then ⟨2*((x:Int)-100)+1,false⟩else if x%16=7 then ⟨0,false⟩else ⟨((x/4%n:Nat):Int),true⟩
def fdOf (k n x:Nat):Fd:=if k=3 then ⟨((97+x%26:Nat):Int),false⟩else if k=4 then ⟨((x%2:Nat):Int),false⟩else wordC n x
def pKind (xs:List Nat)(i:Nat):Nat:=1+xs.getD (2+i) 0%5
def pSize (xs:List Nat)(i:Nat):Nat:=if pKind xs i=4 then 1 else xs.getD (2+i) 0/8%5
def pMany (xs:List Nat):Nat:=xs.getD 0 0%10
def pCell (xs:List Nat)(i:Nat):Cl:=⟨(pKind xs i:Int),((xs.drop (11+4*i)).take (pSize xs i)).map (fdOf (pKind xs i) (pMany xs))⟩
def drawnL (xs:List Nat):List Cl:=(List.range (pMany xs)).map (pCell xs)
def drawnR (xs:List Nat):List Fd:=((xs.drop 47).take (xs.getD 0 0/16%5)).map (wordC (pMany xs))
theorem bv_one (xs:List Nat):(bv xs).all one=true:=by rw[List.all_map];exact List.all_eq_true.2 fun _ _=>rfl
theorem bv_at {xs:List Nat}{i:Nat}(hi:i<xs.length):((bv xs).drop i).take 1=[.int .u8 (Int.ofNat (xs.getD i 0))]:=by
 rw[List.drop_eq_getElem_cons (by simpa using hi)];simp[List.getD,List.getElem?_eq_getElem hi]
theorem Bytes.b {v0:Array Value}{xs:List Nat}(B:Bytes v0 xs)(i:Nat):xs.getD i 0<256:=by
 rw[List.getD];cases h:xs[i]? with
 |none=>show 0<256;decide
 |some x=>exact B.lt x (List.mem_of_getElem? h)
theorem wrapN {n:Nat}(h:n<9223372036854775808):wrapF .i64 (Int.ofNat n)=Int.ofNat n:=wrap64 (by have:Int.ofNat n=(n:Int):=rfl;omega) (by have:Int.ofNat n=(n:Int):=rfl;omega)
theorem wordC_n {n x:Nat}(h:n=0∨x%4=0):wordC n x=⟨2*((x:Int)-100)+1,false⟩:=if_pos h
section
variable {O:CallF}(hO:Oth O)
include hO
theorem ct139 {h:Hp}(ok:h.Ok){n x:Nat}(hx:x<256){b1:Nat}(hb:readAt h b1 0 1=some [.int .i64 (Int.ofNat n)])(hb1:b1<h.nx):Ret Tryz.prog O 139 [.int .u8 (Int.ofNat x),.pointer (some ⟨b1,0,none⟩)] h fun v h'=>v= .agg #[.int .i64 (wordC n x).n,.bool (wordC n x).refs]∧Kp h.nx h h':=by
 refine rk139 (hO:=hO _ _ _ (by decide)) (hh:= ?_) ..;unfold T139;have ex:wrapF .i64 (Int.ofNat x)=Int.ofNat x:=wrapN (by omega);rw[ex];have e1:wrapF .i64 (wrapF .i64 (2*wrapF .i64 (Int.ofNat x-100))+1)=2*((x:Int)-100)+1:=by
  have:Int.ofNat x=(x:Int):=rfl;rw[wrap64 (n:=Int.ofNat x-100) (by omega) (by omega),wrap64 (n:=2*(Int.ofNat x-100)) (by omega) (by omega),wrap64 (by omega) (by omega)];rfl
 rw[e1];intro g1;have S:Know h g1 [_]:=(Know.nil ok).add _;have hb':readAt g1 b1 0 1=some [.int .i64 (Int.ofNat n)]:=by
  haveI:=S.ft;rw[readAt_ex (g:=h) hb1];exact hb
 refine⟨_,hb',vcond_split (fun h1=> ?_) fun h1=> ?_⟩
 · refine vreq_t (S.cw 0 rfl (by decide) rfl rfl) ?_;intro g3;have S:Know h g3 [_]:=S.wr 0 rfl (by decide) rfl rfl;have h1:n=0:=Int.ofNat_inj.1 (eq_of_t h1);rw[wordC_n (.inl h1)];exact⟨_,_,S.rd 0 rfl rfl rfl,rfl,S.kp⟩
 have h1:n≠0:=fun h=>ne_of_f h1 (by rw[h];rfl);refine vcond_split (fun h2=> ?_) fun h2=> ?_
 · refine vreq_t (S.cw 0 rfl (by decide) rfl rfl) ?_;intro g3;have S:Know h g3 [_]:=S.wr 0 rfl (by decide) rfl rfl;have h2:x%4=0:=Int.ofNat_inj.1 (eq_of_t h2);rw[wordC_n (.inr h2)];exact⟨_,_,S.rd 0 rfl rfl rfl,rfl,S.kp⟩
 have h2:x%4≠0:=fun h=>ne_of_f h2 (by show Int.ofNat (x%4)=0;rw[h];rfl);refine vcond_split (fun h3=> ?_) fun h3=> ?_
 · refine vreq_t (S.cw 0 rfl (by decide) rfl rfl) ?_;intro g3;have S:Know h g3 [_]:=S.wr 0 rfl (by decide) rfl rfl;have h3:x%16=7:=Int.ofNat_inj.1 (eq_of_t h3);have e:wordC n x=⟨0,false⟩:=by unfold wordC;rw[if_neg (by omega),if_pos h3]
   rw[e];exact⟨_,_,S.rd 0 rfl rfl rfl,rfl,S.kp⟩
 have h3:x%16≠7:=fun h=>ne_of_f h3 (by show Int.ofNat (x%16)=7;rw[h];rfl);have e:wordC n x=⟨((x/4%n:Nat):Int),true⟩:=by unfold wordC;rw[if_neg (by omega),if_neg h3]
 rw[e];have e2:wrapF .i64 (Int.tdiv (Int.ofNat x) 4)=Int.ofNat (x/4):=wrapN (n:=x/4) (by omega);rw[e2];refine⟨_,hb',vreq_t (by rw[eqI_f (a:=Int.ofNat n) (b:=0) (fun h=>h1 (Int.ofNat_inj.1 h))];rfl) (vreq_t (S.cw 0 rfl (by decide) rfl rfl) ?_)⟩;intro g3;have S:Know h g3 [_]:=S.wr 0 rfl (by decide) rfl rfl;exact⟨_,_,S.rd 0 rfl rfl rfl,rfl,S.kp⟩
end
theorem slice_arr {h:Hp}{b off s:Nat}(hs:s<4):sliceV Tryz.prog h 59 (.pointer (some ⟨b,off,none⟩)) none (some (.int .i64 (Int.ofNat s))) none=some (.slice (some ⟨b,off,none⟩) s 4):=by
 unfold sliceV;rw[Tryz.underlying59];have hz:sz Tryz.prog 5=some 1:=by kernel_rfl
 simp only[hz,bind,Option.bind_some,bounds_hi (n:=4) (vis:=4) (show s≤4 by omega)];rw[blt_t (by have:unk=18446744073709551616:=rfl;omega)];simp
theorem slice_arr4 {h:Hp}{b off:Nat}:sliceV Tryz.prog h 59 (.pointer (some ⟨b,off,none⟩)) none (some (.int .i64 (Int.ofNat 4))) none=some (.slice (some ⟨b,off,none⟩) 4 4):=by
 unfold sliceV;rw[Tryz.underlying59];have hz:sz Tryz.prog 5=some 1:=by kernel_rfl
 simp only[hz,bind,Option.bind_some,bounds_hi (n:=4) (vis:=4) (show 4≤4 by omega)];rw[blt_t (by have:unk=18446744073709551616:=rfl;omega)];simp
theorem slice_arr' {h:Hp}{b off s:Nat}(hs:s≤4):sliceV Tryz.prog h 59 (.pointer (some ⟨b,off,none⟩)) none (some (.int .i64 (Int.ofNat s))) none=some (.slice (some ⟨b,off,none⟩) s 4):=by
 rcases Nat.lt_or_ge s 4 with h|h
 · exact slice_arr h
 · have:s=4:=by omega
   subst this;exact slice_arr4
section
variable {O:CallF}(hO:Oth O)
include hO
theorem lp106_2 {g:Hp}{v0:Array Value}{xs:List Nat}(B:Bytes v0 xs){b1 bn:Nat}{a6:Option Addr}{n6 c6:Nat}{R0:Rs}{Q:Value→Hp→Prop}{s:Nat}(hs:s≤4)
 (next: ∀(h:Hp) (a:Option Addr) (n c:Nat),Know g h [acc g.nx 76 2 a n c (fvs (((xs.drop 47).take s).map (wordC (pMany xs)))),R0]→Q (.tuple #[.slice a6 n6 c6,.slice a n c]) h):
 ∀(d k:Nat) (h:Hp) (a:Option Addr) (n c:Nat),k+d=s→Know g h [acc g.nx 76 2 a n c (fvs (((xs.drop 47).take k).map (wordC (pMany xs)))),R0,ob bn (.cells [.int .i64 (Int.ofNat (pMany xs))] 3 .fix),ob b1 (.cells (bv xs) 62 .fix)]→
  I106_2 O Q v0 (.func (.func 139) #[] #[.pointer (some ⟨bn,0,none⟩)]) a6 n6 c6 a n c (some ⟨b1,47,none⟩) s 4 (Int.ofNat s) (Int.ofNat k) h:=by
 have hlen:=B.len;intro d
 induction d with
 |zero=>
  intro k h a n c hk S;refine I106_2.of (hh:= ?_) ..;unfold T106_2;have:k=s:=by omega
  subst this;exact vcond_f (by rw[ltI_nat];exact blt_f (by omega)) (next h a n c (S.sel [0,1] (by decide) rfl))
 |succ d ih=>
  intro k h a n c hk S;refine I106_2.of (hh:= ?_) ..;unfold T106_2;have hb:Nat.ble (47+k*1+1) (bv xs).length=true:=ble_t (by rw[List.length_map];omega);have hr:((bv xs).drop (47+k*1)).take 1=[.int .u8 (Int.ofNat (xs.getD (47+k*1) 0))]:=bv_at (by omega);obtain⟨v,h310,e310,rfl,k310⟩:=ct139 hO S.ok (B.b (47+k*1)) (S.rd 2 rfl rfl rfl) (S.orng 2 rfl).2 (n:=pMany xs);refine vcond_t (by rw[ltI_nat];exact blt_t (by omega)) (isNat_i (isAddr_i (vreq_t (blt_t (by omega)) ⟨_,S.rd 3 rfl hr hb,_,_,_,e310,?_⟩)));have S:Know g h310 [_,_,_,_]:=S.call k310;intro g311;have S:Know g g311 [_,_,_,_,_]:=S.add _;have hn:n=k:=by
   have A:AccE g311 g.nx 76 2 a n c _:=S.get 1 rfl;have:=(AccE.slAt fdE_len (by decide) A).1;rw[List.length_map,List.length_take,List.length_drop]at this;omega
  obtain⟨a',n',c',h',e,hn',S⟩:=S.app 1 rfl (Nat.le_refl _) S.lo app64 ⟨_,_,_,rfl⟩ (src_get (n:=1) (c:=1) (esz:=2) (off:=0) (S.rd 0 rfl (r:=[.int .i64 (wordC (pMany xs) (xs.getD (47+k*1) 0)).n,.bool (wordC (pMany xs) (xs.getD (47+k*1) 0)).refs]) rfl rfl)) rfl rfl (by omega) (by unfold big;omega);have S:Know g h' [_,_,_,_,_]:=S;refine⟨_,_,_,_,e,?_⟩;rw[wrap_succ (by omega)];refine ih (k+1) h' a' n' c' (by omega) ?_;have S:Know g h' [_,_,_,_]:=S.sel [1,2,3,4] (by decide) rfl;have e2:fvs (((xs.drop 47).take (k+1)).map (wordC (pMany xs)))=fvs (((xs.drop 47).take k).map (wordC (pMany xs)))++[.int .i64 (wordC (pMany xs) (xs.getD (47+k*1) 0)).n,.bool (wordC (pMany xs) (xs.getD (47+k*1) 0)).refs]:=by
   have:(xs.drop 47)[k]? =some (xs.getD (47+k*1) 0):=by
    rw[List.getElem?_drop,Nat.mul_one,List.getD,List.getElem?_eq_getElem (by omega)];rfl
   rw[List.take_add_one,this,List.map_append];unfold fvs;rw[List.flatMap_append];rfl
  rw[e2];exact S
theorem lp106_1 {g:Hp}{v0:Array Value}{xs:List Nat}(B:Bytes v0 xs){b1 bn b8:Nat}{a6:Option Addr}{n6 c6:Nat}{R0 R1:Rs}{Q:Value→Hp→Prop}{x20 x21:Int}{off s kd:Nat}(hs:s≤4)(hoff:off+4≤51)
 (next: ∀(h:Hp) (a:Option Addr) (n c:Nat),Know g h [ob b8 (.cells [.int .i64 (Int.ofNat kd),.slice a n c] 72 .fix),acc g.nx 76 2 a n c (fvs (((xs.drop off).take s).map (fdOf kd (pMany xs)))),R0,R1,ob bn (.cells [.int .i64 (Int.ofNat (pMany xs))] 3 .fix),ob b1 (.cells (bv xs) 62 .fix)]→I106_1 O Q v0 b1 0 (.func (.func 139) #[] #[.pointer (some ⟨bn,0,none⟩)]) a6 n6 c6 b8 0 x20 x21 (some ⟨b1,off,none⟩) s 4 (Int.ofNat s) (Int.ofNat s) h):
 ∀(d k:Nat) (h:Hp) (a:Option Addr) (n c:Nat),k+d=s→Know g h [ob b8 (.cells [.int .i64 (Int.ofNat kd),.slice a n c] 72 .fix),acc g.nx 76 2 a n c (fvs (((xs.drop off).take k).map (fdOf kd (pMany xs)))),R0,R1,ob bn (.cells [.int .i64 (Int.ofNat (pMany xs))] 3 .fix),ob b1 (.cells (bv xs) 62 .fix)]→
  I106_1 O Q v0 b1 0 (.func (.func 139) #[] #[.pointer (some ⟨bn,0,none⟩)]) a6 n6 c6 b8 0 x20 x21 (some ⟨b1,off,none⟩) s 4 (Int.ofNat s) (Int.ofNat k) h:=by
 have hlen:=B.len;intro d
 induction d with
 |zero=>
  intro k h a n c hk S;have:k=s:=by omega
  subst this;exact next h a n c S
 |succ d ih=>
  intro k h a n c hk S;refine I106_1.of (hh:= ?_) ..;unfold T106_1;have hb:Nat.ble (off+k*1+1) (bv xs).length=true:=ble_t (by rw[List.length_map];omega);have hr:((bv xs).drop (off+k*1)).take 1=[.int .u8 (Int.ofNat (xs.getD (off+k*1) 0))]:=bv_at (by omega);have hx:=B.b (off+k*1);have e2:fvs (((xs.drop off).take (k+1)).map (fdOf kd (pMany xs)))=fvs (((xs.drop off).take k).map (fdOf kd (pMany xs)))++[.int .i64 (fdOf kd (pMany xs) (xs.getD (off+k*1) 0)).n,.bool (fdOf kd (pMany xs) (xs.getD (off+k*1) 0)).refs]:=by
   have:(xs.drop off)[k]? =some (xs.getD (off+k*1) 0):=by
    rw[List.getElem?_drop,Nat.mul_one,List.getD,List.getElem?_eq_getElem (by omega)];rfl
   rw[List.take_add_one,this,List.map_append];unfold fvs;rw[List.flatMap_append];rfl
  have hn:n=k:=by
   have A:AccE h g.nx 76 2 a n c _:=S.get 1 rfl;have:=(AccE.slAt fdE_len (by decide) A).1;rw[List.length_map,List.length_take,List.length_drop]at this;omega
  rw[wrap_succ (by omega)];refine vcond_t (by rw[ltI_nat];exact blt_t (by omega)) (isNat_i (isAddr_i (vreq_t (blt_t (by omega)) ⟨_,S.rd 5 rfl hr hb,_,S.rd 0 rfl rfl rfl,?_⟩)));rw[wrapN (show xs.getD (off+k*1) 0<9223372036854775808 by omega)];refine vcond_split (fun h3=> ?_) fun h3=> ?_
  · have h3:kd=3:=Int.ofNat_inj.1 (eq_of_t h3);have ef:fdOf kd (pMany xs) (xs.getD (off+k*1) 0)=⟨((97+xs.getD (off+k*1) 0%26:Nat):Int),false⟩:=if_pos h3;rw[ef]at e2;have ew:wrapF .i64 (97+Int.tmod (Int.ofNat (xs.getD (off+k*1) 0)) 26)=Int.ofNat (97+xs.getD (off+k*1) 0%26):=by
     show wrapF .i64 (97+Int.ofNat (xs.getD (off+k*1) 0%26))=_;have:Int.ofNat (xs.getD (off+k*1) 0%26)=((xs.getD (off+k*1) 0%26:Nat):Int):=rfl;rw[this,wrap64 (by omega) (by omega)];show _=((97+xs.getD (off+k*1) 0%26:Nat):Int);omega
    rw[ew];refine⟨_,_,_,S.rd 0 rfl rfl rfl,?_⟩;intro g209;have S:Know g g209 [_,_,_,_,_,_,_]:=S.add _;obtain⟨a',n',c',h',e,hn',S⟩:=S.app 2 rfl (Nat.le_refl _) S.lo app64 ⟨_,_,_,rfl⟩ (src_get (n:=1) (c:=1) (esz:=2) (off:=0) (S.rd 0 rfl (r:=[.int .i64 (Int.ofNat (97+xs.getD (off+k*1) 0%26)),.bool false]) rfl rfl)) rfl rfl (by omega) (by unfold big;omega);have S:Know g h' [_,_,_,_,_,_,_]:=S;refine⟨_,_,_,_,e,vreq_t (S.cw 1 rfl (by decide) rfl rfl) ?_⟩;intro g214;have S:Know g g214 [_,_,_,_,_,_,_]:=S.wr 1 rfl (by decide) rfl rfl;have S:Know g g214 [_,_,_,_,_,_]:=S.sub _ (List.sublist_cons_self ..);exact ih (k+1) g214 a' n' c' (by omega) (by rw[e2];exact S)
  have h3:kd≠3:=fun h=>ne_of_f h3 (by rw[h];rfl);refine vcond_split (fun h4=> ?_) fun h4=> ?_
  · have h4:kd=4:=Int.ofNat_inj.1 (eq_of_t h4);have ef:fdOf kd (pMany xs) (xs.getD (off+k*1) 0)=⟨((xs.getD (off+k*1) 0%2:Nat):Int),false⟩:=by unfold fdOf;rw[if_neg h3,if_pos h4]
    rw[ef]at e2;refine⟨_,_,_,S.rd 0 rfl rfl rfl,?_⟩;intro g209;have S:Know g g209 [_,_,_,_,_,_,_]:=S.add _;obtain⟨a',n',c',h',e,hn',S⟩:=S.app 2 rfl (Nat.le_refl _) S.lo app64 ⟨_,_,_,rfl⟩ (src_get (n:=1) (c:=1) (esz:=2) (off:=0) (S.rd 0 rfl (r:=[.int .i64 (Int.ofNat (xs.getD (off+k*1) 0%2)),.bool false]) rfl rfl)) rfl rfl (by omega) (by unfold big;omega);have S:Know g h' [_,_,_,_,_,_,_]:=S;refine⟨_,_,_,_,e,vreq_t (S.cw 1 rfl (by decide) rfl rfl) ?_⟩;intro g214;have S:Know g g214 [_,_,_,_,_,_,_]:=S.wr 1 rfl (by decide) rfl rfl;have S:Know g g214 [_,_,_,_,_,_]:=S.sub _ (List.sublist_cons_self ..);exact ih (k+1) g214 a' n' c' (by omega) (by rw[e2];exact S)
  have h4:kd≠4:=fun h=>ne_of_f h4 (by rw[h];rfl);have ef:fdOf kd (pMany xs) (xs.getD (off+k*1) 0)=wordC (pMany xs) (xs.getD (off+k*1) 0):=by unfold fdOf;rw[if_neg h3,if_neg h4]
  rw[ef]at e2;intro g224;have S:Know g g224 [_,_,_,_,_,_,_]:=S.rsvK 9;have n224:g224.nx=h.nx+9:=rfl;have hb8:=S.orng 1 rfl;have okg:(g224.grd [b8]).Ok:=S.okg fun q hq=>by rw[List.mem_singleton.1 hq];exact hb8.2
  obtain⟨v,h233,e233,rfl,k233⟩:=ct139 hO okg hx (S.rdg 5 rfl (l:=[b8]) rfl rfl) (S.orng 5 rfl).2 (n:=pMany xs);refine⟨_,_,_,S.rd 1 rfl rfl rfl,_,_,_,e233,?_⟩;intro g234;have S:Know g g234 [_,_,_,_,_,_,_]:=S.callg k233;refine vreq_t (S.fre 0 rfl (Nat.le_add_right ..) (by omega) (by simp)) ?_;intro g235;have S:Know g g235 [_,_,_,_,_,_,_,_]:=S.lay 0 rfl (Nat.le_add_right ..) (by omega) (by simp) _;obtain⟨a',n',c',h',e,hn',S⟩:=S.appg (l:=[]) 3 rfl (Nat.le_refl _) S.lo app64 (fun _ h=>by cases h) ⟨_,_,_,rfl⟩ (src_get (n:=1) (c:=1) (esz:=2) (off:=0) (S.rd 0 rfl (r:=[.int .i64 (wordC (pMany xs) (xs.getD (off+k*1) 0)).n,.bool (wordC (pMany xs) (xs.getD (off+k*1) 0)).refs]) rfl rfl)) rfl rfl (by omega) (by unfold big;omega);refine⟨_,_,_,_,e,?_⟩;intro g240;have S:Know g g240 [_,_,_,_,_,_,_,_]:=S;refine vreq_t (S.cwg 2 rfl (fun _ h=>by cases h) (by decide) rfl rfl) ?_;intro g241 g242;have S:Know g g242 [_,_,_,_,_,_,_,_]:=S.wrg 2 rfl (fun _ h=>by cases h) (by decide) rfl rfl;have S:Know g g242 [_,_,_,_,_,_]:=S.sel [2,3,4,5,6,7] (by decide) rfl;exact ih (k+1) g242 a' n' c' (by omega) (by rw[e2];exact S)
end
end Go.Proofs.YtngcjpkccnfjiaaGreatDoor
namespace Go.Ev
open Go
theorem Know.weak {h0 g:Hp}{L:List Rs}(S:Know h0 g L)(i:Nat){own:Nat→Prop}{F G:Hp→Prop}(hi:L[i]? =some (clo own F))(hG: ∀h,F h→G h):Know h0 g (L.set i (clo own G)):=
 S.upd i hi (r':=clo own G) (Ch.refl _ g) (clo.loc _ _) (fun h' hn he=>hG h' (S.get i hi h' hn he)) fun _ h=> .inl h
end Go.Ev
namespace Go.Proofs.YtngcjpkccnfjiaaGreatDoor
set_option maxRecDepth 100000
open Go Go.Ev
def ClsS (h:Hp)(a:Option Addr)(n c:Nat)(L:List Cl):Prop:=ClsAt h a n L∧ ∀k,k≤n→ ∃c',sliceV Tryz.prog h 63 (.slice a n c) none (some (.int .i64 (Int.ofNat k))) none=some (.slice a k c')
theorem sz72:sz Tryz.prog 72=some 2:=by kernel_rfl
theorem cls_sl {h:Hp}{lo:Nat}{a:Option Addr}{n c:Nat}{vs:List Value}{L:List Cl}(A:AccE h lo 72 2 a n c vs)(N:Nst h vs L):ClsS h a n c L:=by
 have C:=cls_of A N;refine⟨C,fun k hk=> ?_⟩;have hn:=C.1;have hl:=N.len;rcases A with (⟨rfl,rfl,rfl,rfl⟩|⟨o,rfl,rfl,h3,_,h5,h6⟩)|⟨rfl,rfl,rfl,o,rfl,_,h6,e2,m,h7⟩
 · have:k=0:=by omega
   subst this;exact⟨0,by unfold sliceV;rw[Tryz.underlying63];simp only[sz72,bind,Option.bind_some,Ev.seen,bounds_hi (n:=0) (vis:=0) (Nat.le_refl _)];rfl⟩
 · have es:Ev.seen h 72 2 (.slice (some ⟨o,0,none⟩) n unk)=some n:=by
    simp only[Ev.seen,Nat.beq_refl,cond_true,h6];have e5:Nat.blt 0 2=true:=rfl;rw[e5];show some ((vs.length-0)/2)=_;rw[Nat.sub_zero,hl,Nat.mul_div_cancel _ (by decide),hn]
   refine⟨unk,?_⟩
   · unfold sliceV;rw[Tryz.underlying63];simp only[sz72,bind,Option.bind_some,es,bounds_hi hk];rfl
 · have:k=0:=by omega
   subst this;refine⟨0,?_⟩;unfold sliceV;rw[Tryz.underlying63];simp only[sz72,bind,Option.bind_some,Ev.seen];rfl
theorem pKind_rng (xs:List Nat)(i:Nat):1≤pKind xs i∧pKind xs i≤5:=by unfold pKind;omega
theorem pSize_rng (xs:List Nat)(i:Nat):pSize xs i≤4:=by unfold pSize;split<;>omega
theorem pMany_rng (xs:List Nat):pMany xs≤9:=by unfold pMany;omega
def QDrawn (g:Hp)(xs:List Nat):Value→Hp→Prop:=fun v h'=> ∃a n c a' n' c' own,v= .tuple #[.slice a n c,.slice a' n' c']∧Know g h' [clo own (fun h=>ClsS h a n c (drawnL xs)),acc g.nx 76 2 a' n' c' (fvs (drawnR xs))]
section
variable {O:CallF}(hO:Oth O)
include hO
theorem lp106_0 {g:Hp}{v0:Array Value}{xs:List Nat}(B:Bytes v0 xs){b1 bn:Nat}:
 ∀(d k:Nat) (h:Hp) (a:Option Addr) (n c:Nat) (vs:List Value) (own:Nat→Prop),k+d=pMany xs→Know g h [acc g.nx 72 2 a n c vs,clo own (fun h=>Nst h vs ((List.range k).map (pCell xs))),ob bn (.cells [.int .i64 (Int.ofNat (pMany xs))] 3 .fix),ob b1 (.cells (bv xs) 62 .fix)]→
  I106_0 O (QDrawn g xs) v0 b1 0 (.func (.func 139) #[] #[.pointer (some ⟨bn,0,none⟩)]) a n c (Int.ofNat (pMany xs)) (Int.ofNat k) h:=by
 have hlen:=B.len;have hm:=pMany_rng xs;intro d
 induction d with
 |zero=>
  intro k h a n c vs own hk S;have:k=pMany xs:=by omega
  subst this;refine I106_0.of (hh:= ?_) ..;unfold T106_0;have hr:((bv xs).drop 0).take 1=[.int .u8 (Int.ofNat (xs.getD 0 0))]:=bv_at (by omega);refine vcond_f (by rw[ltI_nat];exact blt_f (by omega)) ⟨_,S.rd 3 rfl hr (ble_t (by rw[List.length_map];omega)),?_⟩;have h0:=B.b 0;rw[wrapN (show xs.getD 0 0<9223372036854775808 by omega),show Int.tdiv (Int.ofNat (xs.getD 0 0)) 16=Int.ofNat (xs.getD 0 0/16) from rfl,wrapN (show xs.getD 0 0/16<9223372036854775808 by omega),show Int.tmod (Int.ofNat (xs.getD 0 0/16)) 5=Int.ofNat (xs.getD 0 0/16%5) from rfl];refine⟨_,_,_,slice_arr' (by omega),?_⟩;have S:Know g h [_,_,_]:=S.merge (fun h=>ClsS h a n c (drawnL xs)) fun h' A N=>cls_sl A (clo.get N);have S:Know g h [_,_,_,_]:=S.accNil g.nx 76 2;exact lp106_2 hO B (s:=xs.getD 0 0/16%5) (by omega) (fun h2 a2 n2 c2 S2=>⟨_,_,_,_,_,_,_,rfl,S2.sel [1,0] (by decide) rfl⟩) (xs.getD 0 0/16%5) 0 h none 0 0 (by omega) S
 |succ d ih=>
  intro k h a n c vs own hk S;refine I106_0.of (hh:= ?_) ..;unfold T106_0;have hkk:=B.b (2+k*1);have ek:xs.getD (0+2+k*1) 0=xs.getD (2+k) 0:=by rw[Nat.zero_add,Nat.mul_one]
  have hr:((bv xs).drop (0+2+k*1)).take 1=[.int .u8 (Int.ofNat (xs.getD (2+k) 0))]:=by rw[←ek];exact bv_at (by omega)
  have hb:Nat.ble (0+2+k*1+1) (bv xs).length=true:=ble_t (by rw[List.length_map];omega);have hk1:xs.getD (2+k) 0<256:=B.b (2+k);refine vcond_t (by rw[ltI_nat];exact blt_t (by omega)) (isNat_i (vreq_t (blt_t (by omega)) ⟨_,S.rd 3 rfl hr hb,?_⟩));have e1:wrapF .i64 (1+Int.tmod (wrapF .i64 (Int.ofNat (xs.getD (2+k) 0))) 5)=Int.ofNat (pKind xs k):=by
   rw[wrapN (show xs.getD (2+k) 0<9223372036854775808 by omega)];show wrapF .i64 (1+((xs.getD (2+k) 0%5:Nat):Int))=((1+xs.getD (2+k) 0%5:Nat):Int);rw[wrap64 (by omega) (by omega)];omega
  rw[e1];intro g103;have S:Know g g103 [_,_,_,_,_]:=S.add _;refine vreq_t (S.cw 0 rfl (by decide) rfl rfl) ?_;intro g104;have S:Know g g104 [_,_,_,_,_]:=S.wr 0 rfl (by decide) rfl rfl;have S:Know g g104 [_,_,_,_,_,_]:=S.accNil g.nx 76 2;have S:Know g g104 [_,_,_,_,_,_]:=S.sel [1,0,2,3,4,5] (by decide) rfl;have hpk:=pKind_rng xs k;have hps:=pSize_rng xs k;have go:I106_1 O (QDrawn g xs) v0 b1 0 (.func (.func 139) #[] #[.pointer (some ⟨bn,0,none⟩)]) a n c h.nx 0 (Int.ofNat (pMany xs)) (Int.ofNat k) (some ⟨b1,11+4*k,none⟩) (pSize xs k) 4 (Int.ofNat (pSize xs k)) 0 g104:=by
   refine lp106_1 hO B hps (by omega) (fun h2 a2 n2 c2 S=> ?_) (pSize xs k) 0 g104 none 0 0 (by omega) S;refine I106_1.of (hh:= ?_) ..;unfold T106_1;refine vcond_f (by rw[ltI_nat];exact blt_f (by omega)) ⟨_,_,_,_,S.rd 0 rfl rfl rfl,?_⟩;intro g247;have S:Know g g247 [_,_,_,_,_,_,_]:=S.add _;have hn:n=k:=by
    have A:AccE g247 g.nx 72 2 a n c vs:=S.get 3 rfl;have N:Nst g247 vs ((List.range k).map (pCell xs)):=clo.get (S.get 4 rfl);have:=(cls_of A N).1;simpa using this
   obtain⟨a',n',c',h',e,hn',S⟩:=S.app 3 rfl (Nat.le_refl _) S.lo app63 ⟨_,_,_,rfl⟩ (src_get (n:=1) (c:=1) (esz:=2) (off:=0) (S.rd 0 rfl (r:=[.int .i64 (Int.ofNat (pKind xs k)),.slice a2 n2 c2]) rfl rfl)) rfl rfl (by omega) (by unfold big;omega);have S:Know g h' [_,_,_,_,_,_,_]:=S;refine⟨_,_,_,_,e,?_⟩;rw[wrap_succ (by omega)];have S:Know g h' [_,_,_,_,_]:=S.sel [4,2,3,5,6] (by decide) rfl;have S:Know g h' [_,_,_,_]:=S.merge (fun h=>Nst h (vs++[.int .i64 (Int.ofNat (pKind xs k)),.slice a2 n2 c2]) ((List.range (k+1)).map (pCell xs))) fun h' N A=>by
    rw[List.range_succ,List.map_append];exact(clo.get N).snoc (c:=pCell xs k) (AccE.slAt fdE_len (by decide) A)
   exact ih (k+1) h' a' n' c' _ _ (by omega) (S.sel [1,0,2,3] (by decide) rfl)
  refine isNat_i (vreq_t (blt_t (by omega)) ⟨_,S.rd 5 rfl hr hb,_,S.rd 0 rfl rfl rfl,vcond_split (fun h4=> ?_) fun h4=> ?_⟩)
  · have h4:pKind xs k=4:=Int.ofNat_inj.1 (eq_of_t h4);have es:pSize xs k=1:=if_pos h4;rw[es]at go;refine isNat_i (vreq_t (blt_t (by omega)) ⟨_,_,_,slice_arr' (s:=1) (by omega),?_⟩);rw[show 0+11+k*4=11+4*k by omega];exact go
  · have h4:pKind xs k≠4:=fun h=>ne_of_f h4 (by rw[h];rfl);have es:pSize xs k=xs.getD (2+k) 0/8%5:=if_neg h4;rw[es]at go;rw[wrapN (show xs.getD (2+k) 0<9223372036854775808 by omega),show Int.tdiv (Int.ofNat (xs.getD (2+k) 0)) 8=Int.ofNat (xs.getD (2+k) 0/8) from rfl,wrapN (show xs.getD (2+k) 0/8<9223372036854775808 by omega),show Int.tmod (Int.ofNat (xs.getD (2+k) 0/8)) 5=Int.ofNat (xs.getD (2+k) 0/8%5) from rfl];refine isNat_i (vreq_t (blt_t (by omega)) ⟨_,_,_,slice_arr' (by omega),?_⟩);rw[show 0+11+k*4=11+4*k by omega];exact go
theorem ct106 {g:Hp}(ok:g.Ok){v0:Array Value}{xs:List Nat}(B:Bytes v0 xs):Ret Tryz.prog O 106 [.agg v0] g (QDrawn g xs):=by
 refine rk106 (hO:=hO _ _ _ (by decide)) (hh:= ?_) ..;unfold T106;have h0:=B.b 0;have hlen:=B.len;refine vreq_t (by rw[B.v];exact bv_one xs) ?_;intro g1;have S:Know g g1 [_]:=(Know.nil ok).add _;rw[B.v]at S;have hr:((bv xs).drop 0).take 1=[.int .u8 (Int.ofNat (xs.getD 0 0))]:=bv_at (by omega);refine⟨_,S.rd 0 rfl hr (ble_t (by rw[List.length_map];omega)),?_⟩;intro g3;have S:Know g g3 [_,_]:=S.add _;rw[wrapN (show xs.getD 0 0<9223372036854775808 by omega),show Int.tmod (Int.ofNat (xs.getD 0 0)) 10=Int.ofNat (pMany xs) from rfl];refine vreq_t (S.cw 0 rfl (by decide) rfl rfl) ?_;intro g4;have S:Know g g4 [_,_]:=S.wr 0 rfl (by decide) rfl rfl;refine⟨_,S.rd 0 rfl rfl rfl,?_⟩;have S:Know g g4 [_,_,_]:=S.push (r':=clo (fun _=>False) (fun h=>Nst h [] ((List.range 0).map (pCell xs)))) (Kp.refl _ _) (clo.loc _ _) (fun _ _ _=>trivial) fun _ h=>h.elim;have S:Know g g4 [_,_,_,_]:=S.accNil g.nx 72 2;exact lp106_0 hO B (pMany xs) 0 g4 none 0 0 [] _ (by omega) S
end
theorem wrapU {n:Nat}(h:n<18446744073709551616):wrapF .u64 (Int.ofNat n)=Int.ofNat n:=by
 rw[wrapF_eq,wrap_u64,Nat.mod_eq_of_lt h]
theorem shr0 {m:Nat}(h:m<4294967296):shrF .u64 (Int.ofNat m) 32=Int.ofNat 0:=by
 show Int.fdiv (Int.ofNat m) 4294967296=_;rw[Int.fdiv_eq_ediv_of_nonneg _ (by decide)];show((m:Int)/4294967296)=0;omega
theorem land_small {m:Nat}(h:m<4294967296):landI (Int.ofNat m) 4294967295=Int.ofNat m:=by
 show Int.ofNat (Nat.land m 4294967295)=_;congr 1;have:m &&& (2^32-1)=m%2^32:=Nat.and_two_pow_sub_one_eq_mod m 32;show m &&& 4294967295=m;rw[show(4294967295:Nat)=2^32-1 from rfl,this];exact Nat.mod_eq_of_lt h
section
variable {O:CallF}(hO:Oth O)
include hO
theorem ct143 {m:Nat}(hm:m<4294967296)(h:Hp):EvT O 143 [.int .u64 (Int.ofNat 1),.int .u64 (Int.ofNat m)] h (.tuple #[.int .u64 (Int.ofNat 0),.int .u64 (Int.ofNat m)]) h:=by
 have r:EvT O 152 [.int .u64 (Int.ofNat 1),.int .u64 (Int.ofNat m)] h (.tuple #[.int .u64 (Int.ofNat 0),.int .u64 (Int.ofNat m)]) h:=by
  refine evt hO (rk152 (hO:=hO _ _ _ (by decide)) (hh:= ?_) ..);unfold T152;have z: ∀x:Int,Int.ofNat 0*x=Int.ofNat 0:=fun x=>Int.zero_mul x;have z2: ∀x:Int,x*Int.ofNat 0=Int.ofNat 0:=fun x=>Int.mul_zero x;have z3:Int.ofNat 0+Int.ofNat 0=Int.ofNat 0:=rfl;have o1:Int.ofNat 1*Int.ofNat m=Int.ofNat m:=Int.one_mul _;have w0:wrapF .u64 (Int.ofNat 0)=Int.ofNat 0:=wrapU (by decide);have wm:wrapF .u64 (Int.ofNat m)=Int.ofNat m:=wrapU (by omega);have s1:shrF .u64 (Int.ofNat 1) 32=Int.ofNat 0:=shr0 (by decide);have s0:shrF .u64 (Int.ofNat 0) 32=Int.ofNat 0:=shr0 (by decide);have sm:shrF .u64 (Int.ofNat m) 32=Int.ofNat 0:=shr0 hm;have l1:landI (Int.ofNat 1) 4294967295=Int.ofNat 1:=land_small (by decide);have lm:landI (Int.ofNat m) 4294967295=Int.ofNat m:=land_small hm;have l0:landI (Int.ofNat 0) 4294967295=Int.ofNat 0:=land_small (by decide);rw[s1,sm,l1,lm,o1,wm,sm,z,z,w0,z3,w0,z2,w0,l0,z3,w0,s0,z3,w0,z3,w0];exact vreq_t rfl (vreq_t (blt_t (by omega)) (vreq_t rfl ⟨rfl,rfl⟩))
 refine evt hO (rk143 (hO:=hO _ _ _ (by decide)) (hh:= ?_) ..);unfold T143;exact⟨_,_,_,r,rfl,rfl⟩
theorem rep_step {v:Int}{m j:Nat}(hj:j≤m):putAt (List.replicate j v++List.replicate (m-j) 0) j (List.replicate (Nat.min j (m-j)) v)=List.replicate (j+Nat.min j (m-j)) v++List.replicate (m-(j+Nat.min j (m-j))) 0:=by
 have _:=hO;have hmin:Nat.min j (m-j)≤m-j:=Nat.min_le_right ..;generalize Nat.min j (m-j)=q at hmin;refine List.ext_getElem? fun i=> ?_;rw[putAt_get _ _ _ (by simp;omega)];simp only[List.getElem?_append,List.getElem?_replicate,List.length_replicate];by_cases h1:j≤i∧i<j+q
 · rw[if_pos h1,if_pos (by omega),if_pos (by omega),if_pos (by omega)]
 · rw[if_neg h1];by_cases h2:i<j
   · rw[if_pos h2,if_pos h2,if_pos (by omega),if_pos (by omega)]
   · rw[if_neg h2,if_neg (show¬i<j+q by omega)];by_cases h3:i-j<m-j
     · rw[if_pos h3,if_pos (by omega)]
     · rw[if_neg h3,if_neg (by omega)]
theorem ct111 {g:Hp}(ok:g.Ok){a:Option Addr}{c:Nat}{v:Int}(X:IntsAt g a 1 [v]){m:Nat}(hm:m<1000000):Ret Tryz.prog O 111 [.slice a 1 c,.int .i64 (Int.ofNat m)] g fun r h'=> ∃o,r= .slice (some ⟨o,0,none⟩) m m∧Know g h' [ob o (.cells (iv (List.replicate m v)) 3 .fix)]:=by
 refine rk111 (hO:=hO _ _ _ (by decide)) (hh:= ?_) ..;unfold T111;have w1:wrapF .u64 (Int.ofNat 1)=Int.ofNat 1:=wrapU (by decide);have wm:wrapF .u64 (Int.ofNat m)=Int.ofNat m:=wrapU (by omega);rw[w1,wm];have hu:unk=18446744073709551616:=rfl;refine vcond_f (ltI_f (by have:Int.ofNat m=(m:Int):=rfl;omega)) ⟨_,_,_,ct143 hO (by omega) g,vcond_f rfl (vcond_f (ltI_f (by have:Int.ofNat m=(m:Int):=rfl;omega)) ?_)⟩;rw[wrapN (show m<9223372036854775808 by omega)];refine isNat_i (isNat_i (vreq_t (ble_t (Nat.le_refl _)) (vreq_t (ble_t (by omega)) (vreq_t (blt_t (by unfold big;omega)) ?_))));intro g6;have S:Know g g6 [_]:=(Know.nil ok).add _;have ez:List.flatten (List.replicate m [Value.int .i64 0])=iv (List.replicate m 0):=by
  have: ∀k,List.flatten (List.replicate k [Value.int .i64 0])=iv (List.replicate k 0):=by
   intro k
   induction k with
   |zero=>rfl
   |succ k ih=>rw[List.replicate_succ,List.flatten_cons,ih,List.replicate_succ];rfl
  exact this m
 rw[ez]at S;haveI:=S.ft;have lp: ∀(d j:Nat) (h:Hp),m-j≤d→j≤m→(1≤j∨j=m)→Know g h [ob g.nx (.cells (iv (List.replicate j v++List.replicate (m-j) 0)) 3 .fix)]→I111_0 O (fun r h'=> ∃o,r= .slice (some ⟨o,0,none⟩) m m∧Know g h' [ob o (.cells (iv (List.replicate m v)) 3 .fix)]) a 1 c (Int.ofNat m) (some ⟨g.nx,0,none⟩) m m (Int.ofNat j) h:=by
  intro d
  induction d with
  |zero=>
   intro j h hd hj _ S;have:j=m:=by omega
   subst this;refine I111_0.of (hh:= ?_) ..;unfold T111_0;refine vcond_f (by rw[ltI_nat];exact blt_f (by omega)) ⟨_,rfl,?_⟩;rw[Nat.sub_self,List.replicate_zero,List.append_nil]at S;exact S
  |succ d ih=>
   intro j h hd hj h1 S;refine I111_0.of (hh:= ?_) ..;unfold T111_0;by_cases hjm:j=m
   · subst hjm;refine vcond_f (by rw[ltI_nat];exact blt_f (by omega)) ⟨_,rfl,?_⟩;rw[Nat.sub_self,List.replicate_zero,List.append_nil]at S;exact S
   · refine vcond_t (by rw[ltI_nat];exact blt_t (by omega)) ?_;intro g101;have S:Know g g101 [_]:=S.rsv 10;have lW:(List.replicate j v++List.replicate (m-j) 0).length=m:=by rw[List.length_append,List.length_replicate,List.length_replicate];omega
     have hget:=S.obj 0 rfl;have si:SI g101 (some ⟨g.nx,0,none⟩) m m (List.replicate j v++List.replicate (m-j) 0):=SI.cells hget (S.orng 0 rfl).2 lW.symm (by omega);obtain⟨c1,es1⟩:=slice_lo si (l:=j) (by omega);obtain⟨a2,c2,es2,sp⟩:=si.part (l:=0) (r:=j) (by omega) (by omega) (lo:=none) (hi:=some (.int .i64 (Int.ofNat j))) fun vis hv=>bounds_hi (by omega);have et:((List.replicate j v++List.replicate (m-j) 0).drop 0).take (j-0)=List.replicate j v:=by rw[List.drop_zero,List.take_left' (by rw[List.length_replicate];omega)]
     rw[et]at sp;have gf:(g101.grd []).guarded g.nx=false:=S.gdfg (S.orng 0 rfl).1 fun q hq=>by cases hq
     obtain⟨h18,ec,hg18,ho18,hn18,hgd18,hf18⟩:=copy_ints (h:=g101.grd []) (o:=g.nx) (off:=j) (n:=m-j) (m:=j-0) (c2:=c2) (c1:=c1) hget (by decide) gf (by omega) sp.at_;refine⟨_,_,_,es1,_,_,_,es2,_,_,ec,?_⟩;intro g110;have em:Nat.min (j-0) (m-j)=Nat.min j (m-j):=by rw[Nat.sub_zero]
     rw[em]at hg18 ⊢;have hmin:Nat.min j (m-j)≤m-j:=Nat.min_le_right ..;have hmin1:1≤Nat.min j (m-j):=by
      rcases Nat.le_total j (m-j)with h|h
      · rw[show Nat.min j (m-j)=j from Nat.min_eq_left h];omega
      · rw[show Nat.min j (m-j)=m-j from Nat.min_eq_right h];omega
     have hminj:Nat.min j (m-j)≤j:=Nat.min_le_left ..;rw[List.take_replicate,show min (Nat.min j (m-j)) j=Nat.min j (m-j) from Nat.min_eq_left hminj,rep_step hO hj]at hg18;have S:Know g g110 [ob g.nx (.cells (iv (List.replicate (j+Nat.min j (m-j)) v++List.replicate (m-(j+Nat.min j (m-j))) 0)) 3 .fix)]:=
      S.upd 0 rfl ⟨fun o _ ho=>ho18 o ho,by show g101.nx≤h18.nx;rw[hn18];exact Nat.le_refl _,rfl,fun f=>hf18 f⟩ (ob.loc _ _) hg18 fun _ h=> .inl h
     have ew:wrapF .i64 (Int.ofNat j+Int.ofNat (Nat.min j (m-j)))=Int.ofNat (j+Nat.min j (m-j)):=wrapN (n:=j+Nat.min j (m-j)) (by omega);rw[ew];exact ih (j+Nat.min j (m-j)) g110 (by omega) (by omega) (by omega) S
 have hget:=S.obj 0 rfl;have gf:g6.guarded g.nx=false:=S.gdf (S.orng 0 rfl).1;obtain⟨h18,ec,hg18,ho18,hn18,hgd18,hf18⟩:=copy_ints (h:=g6) (o:=g.nx) (off:=0) (n:=m) (m:=1) (c2:=c) (c1:=m) hget (by decide) gf (by rw[List.length_replicate];omega) (X.to g6);refine⟨_,_,ec,?_⟩;have hmin1:Nat.min 1 m≤1:=Nat.min_le_left ..;have hminm:Nat.min 1 m≤m:=Nat.min_le_right ..;have e0:putAt (List.replicate m (0:Int)) 0 ([v].take (Nat.min 1 m))=List.replicate (Nat.min 1 m) v++List.replicate (m-Nat.min 1 m) 0:=by
  cases m with
  |zero=>rfl
  |succ m=>
   rw[show Nat.min 1 (m+1)=1 from Nat.min_eq_left (by omega),List.replicate_succ];show v::putAt (List.replicate m 0) 0 []=v::List.replicate (m+1-1) 0;rw[putAt_nil];rfl
 rw[e0]at hg18;have S:Know g h18 [ob g.nx (.cells (iv (List.replicate (Nat.min 1 m) v++List.replicate (m-Nat.min 1 m) 0)) 3 .fix)]:=
  S.upd 0 rfl ⟨fun o _ ho=>ho18 o ho,by rw[hn18];exact Nat.le_refl _,hgd18,fun f=>hf18 f⟩ (ob.loc _ _) hg18 fun _ h=> .inl h
 refine lp m (Nat.min 1 m) h18 (by omega) hminm ?_ S;rcases Nat.eq_zero_or_pos m with rfl|h
 · exact .inr rfl
 · exact .inl (by rw[show Nat.min 1 m=1 from Nat.min_eq_left h];exact Nat.le_refl _)
end
theorem posS_pre {sz:Nat→Nat}: ∀ {o e:List Nat} {b a:Nat},a∈o→posS sz b (o++e) a=posS sz b o a:=by
 intro o
 induction o with
 |nil=>intro e b a h;cases h
 |cons x xs ih=>
  intro e b a h;show(if x=a then b else posS sz (b+sz x) (xs++e) a)=if x=a then b else posS sz (b+sz x) xs a
  split
  · rfl
  · rcases List.mem_cons.1 h with rfl|h
    · exact absurd rfl ‹_›
    · exact ih h
def atV (L:List Cl)(o:List Nat)(i:Nat):Int:=if i∈o then (atC L o i:Int)else-1
def atL (L:List Cl)(o:List Nat):List Int:=(List.range L.length).map (atV L o)
theorem atL_len (L:List Cl)(o:List Nat):(atL L o).length=L.length:=by unfold atL;simp
theorem atL_get (L:List Cl)(o:List Nat){i:Nat}(hi:i<L.length):(atL L o)[i]'(by rw[atL_len];exact hi)=atV L o i:=by unfold atL;simp
theorem atL_nil (L:List Cl):atL L []=List.replicate L.length (-1):=by
 unfold atL;refine List.ext_getElem (by simp) fun i h1 h2=> ?_;simp[atV]
theorem atL_snoc {L:List Cl}{o:List Nat}{i:Nat}(hi:i ∉ o)(hL:i<L.length):(atL L o).set i (layT L o:Int)=atL L (o++[i]):=by
 refine List.ext_getElem (by rw[List.length_set,atL_len,atL_len]) fun j h1 h2=> ?_;rw[List.length_set,atL_len]at h1;rw[List.getElem_set,atL_get L o h1,atL_get L (o++[i]) h1];by_cases h:i=j
 · subst h;rw[if_pos rfl];unfold atV;rw[if_pos (by simp)];unfold atC layT;rw[posS_at hi]
 · rw[if_neg h];unfold atV;by_cases hj:j∈o
   · rw[if_pos hj,if_pos (by simp[hj])];unfold atC;rw[posS_pre hj]
   · rw[if_neg hj,if_neg (by simp[hj];exact fun h2=>h h2.symm)]
theorem layT_snoc (L:List Cl)(o:List Nat)(i:Nat):layT L (o++[i])=layT L o+szC L i:=by
 unfold layT;rw[totS_app,totS_cons];show 1+(_+(_+0))=_;omega
theorem putAt_z1 (Y:List Int)(z:Nat)(v:Int)(hz:0<z):putAt (iv (Y++List.replicate z 0)) (0+Y.length*1) [.int .i64 v]=iv (Y++[v]++List.replicate (z-1) 0):=by
 rw[show [Value.int .i64 v]=iv [v] from rfl,←iv_putAt,show 0+Y.length*1=Y.length by omega];congr 1
 induction Y with
 |nil=>
  cases z with
  |zero=>cases hz
  |succ z=>
   show v::putAt (List.replicate z 0) 0 []=v::List.replicate (z+1-1) 0;rw[putAt_nil];rfl
 |cons y Y ih=>show y::putAt (Y++List.replicate z 0) Y.length [v]=y::(Y++[v]++List.replicate (z-1) 0);rw[ih]
section
variable {O:CallF}(hO:Oth O)
include hO
theorem ct112 {h:Hp}(ok:h.Ok){a:Option Addr}{n c:Nat}{A:List Int}(X:IntsAt h a n A){b1:Nat}(hb:readAt h b1 0 1=some [.slice a n c])(hb1:b1<h.nx){at_:Nat→Nat}{f:Fd}(hf:f.refs=true→f.n=(f.n.toNat:Int)∧A[f.n.toNat]? =some (at_ f.n.toNat:Int)∧at_ f.n.toNat<1000000):
 Ret Tryz.prog O 112 [.agg #[.int .i64 f.n,.bool f.refs],.pointer (some ⟨b1,0,none⟩)] h fun v h'=>v= .int .i64 (wd at_ f)∧Kp h.nx h h':=by
 refine rk112 (hO:=hO _ _ _ (by decide)) (hh:= ?_) ..;unfold T112;intro g1;have S:Know h g1 [_]:=(Know.nil ok).add _;haveI:=S.ft;refine⟨_,S.rd 0 rfl rfl rfl,?_⟩;cases hr:f.refs with
 |false=>exact vcond_f rfl ⟨_,S.rd 0 rfl rfl rfl,by rw[wd_n hr],S.kp⟩
 |true=>
  obtain⟨h1,h2,h3⟩:=hf hr;obtain⟨hk,e⟩:=List.getElem?_eq_some_iff.1 h2;rw[h1]at S;refine vcond_t rfl ⟨_,_,_,by rw[readAt_ex (g:=h) hb1];exact hb,_,S.rd 0 rfl rfl rfl,isNat_i (X.rd (k:=f.n.toNat) hk ?_)⟩;rw[e,wd_r hr];refine⟨?_,S.kp⟩;rw[show(2*(at_ f.n.toNat:Int))=2*Int.ofNat (at_ f.n.toNat) from rfl,dbl64 (n:=at_ f.n.toNat) (Nat.le_refl _) h3];rfl
end
structure LayOk (L:List Cl)(o:List Nat)(rs:List Fd)(fr:Nat):Prop where
 nd:o.Nodup
 lt: ∀i∈o,i<L.length
 refs: ∀i∈o,∀f∈(clAt L i).fs,f.refs=true→f.n=(f.n.toNat:Int)∧f.n.toNat∈o
 roots: ∀f∈rs,f.refs=true→f.n=(f.n.toNat:Int)∧f.n.toNat∈o
 kind: ∀i∈o,0≤(clAt L i).kind∧(clAt L i).kind≤10
 lL:L.length≤1000
 lr:rs.length≤1000
 fit:layT L o+fr≤100000
theorem LayOk.wdf {L:List Cl}{o:List Nat}{rs:List Fd}{fr:Nat}(K:LayOk L o rs fr){f:Fd}(hf:f.refs=true→f.n=(f.n.toNat:Int)∧f.n.toNat∈o):f.refs=true→f.n=(f.n.toNat:Int)∧(atL L o)[f.n.toNat]? =some (atC L o f.n.toNat:Int)∧atC L o f.n.toNat<1000000:=fun hr=>by
 obtain⟨h1,h2⟩:=hf hr;have h3:=K.lt _ h2;refine⟨h1,?_,?_⟩
 · rw[List.getElem?_eq_getElem (by rw[atL_len];exact h3),atL_get L o h3];unfold atV;rw[if_pos h2]
 · have:=posS_lt (sz:=szC L) (b:=1) h2;have:=K.fit;unfold layT at this;unfold atC;have:=szC_pos L f.n.toNat;omega
theorem layT_take {L:List Cl}{o:List Nat}{k:Nat}:layT L (o.take k)≤layT L o:=by
 unfold layT;have:totS (szC L) o=totS (szC L) (o.take k)+totS (szC L) (o.drop k):=by rw[←totS_app,List.take_append_drop]
 omega
theorem take_snoc {o:List Nat}{k:Nat}(hk:k<o.length):o.take (k+1)=o.take k++[o[k]]:=by
 rw[List.take_add_one,List.getElem?_eq_getElem hk];rfl
theorem nodup_take {o:List Nat}(h:o.Nodup){k:Nat}(hk:k<o.length):o[k] ∉ o.take k:=by
 have e:=List.take_append_drop k o;rw[List.drop_eq_getElem_cons hk]at e;rw[←e]at h;exact fun hh=>(List.nodup_append.1 h).2.2 _ hh _ (List.mem_cons_self ..) rfl
theorem at_take {L:List Cl}{o:List Nat}(h:o.Nodup){k:Nat}(hk:k<o.length):atC L o o[k]=layT L (o.take k):=by
 have e:=List.take_append_drop k o;rw[List.drop_eq_getElem_cons hk]at e;unfold atC layT
 conv=>lhs;rw[show posS (szC L) 1 o o[k]=posS (szC L) 1 (o.take k++o[k]::o.drop (k+1)) o[k] from by rw[e]]
 exact posS_at (nodup_take h hk)
section
variable {O:CallF}(hO:Oth O)
include hO
theorem lp52_3 {g:Hp}{a0:Option Addr}{n0 c0:Nat}{a1:Option Addr}{n1 c1:Nat}{a2:Option Addr}{n2 c2:Nat}{x3:Int}{b8 b10 b11 oA oW N top:Nat}{L:List Cl}{o:List Nat}{rs:List Fd}{fr:Nat}(K:LayOk L o rs fr)(F:FdsAt g a2 n2 rs){W:List Int}{v1 v2 v3:Value}{Q:Value→Hp→Prop}
 (next: ∀(h:Hp) (a:Option Addr) (n c:Nat),Know g h [ob oW (.cells (iv W) 3 .fix),acc g.nx 3 1 a n c (iv (layR L o rs)),ob oA (.cells (iv (atL L o)) 3 .fix)]→Q (.tuple #[.agg #[.slice (some ⟨oW,0,none⟩) N N,.int .i64 (Int.ofNat top),.slice a n c],.slice (some ⟨oA,0,none⟩) L.length L.length]) h):
 ∀(d k:Nat) (h:Hp) (a:Option Addr) (n c:Nat),k+d=rs.length→Know g h [ob b8 (.cells [v1,v2,v3] 24 .fix),ob b10 (.cells [.slice (some ⟨oA,0,none⟩) L.length L.length] 22 .fix),ob b11 (.cells [.slice (some ⟨oW,0,none⟩) N N,.int .i64 (Int.ofNat top),.slice a n c] 24 .fix),ob oA (.cells (iv (atL L o)) 3 .fix),ob oW (.cells (iv W) 3 .fix),acc g.nx 3 1 a n c (iv (layR L o (rs.take k)))]→
  I52_3 O Q a0 n0 c0 a1 n1 c1 a2 n2 c2 x3 b8 0 b10 0 b11 0 (.func (.func 112) #[] #[.pointer (some ⟨b10,0,none⟩)]) (Int.ofNat k) h:=by
 have hn2:=F.1;have hlr:=K.lr;intro d
 induction d with
 |zero=>
  intro k h a n c hk S;refine I52_3.of (hh:= ?_) ..;unfold T52_3;refine vcond_f (by rw[ltI_nat];exact blt_f (by omega)) ?_;intro g428;have S:Know g g428 [_,_,_,_,_,_]:=S.rsv 4;have hgr: ∀q∈ [b10],q≠b8:=fun q hq=>by rw[List.mem_singleton.1 hq];exact S.ne 1 0 rfl rfl (by decide)
  refine⟨_,_,_,_,_,_,_,S.rd 2 rfl rfl rfl,_,_,_,S.rd 1 rfl rfl rfl,vreq_t (S.cwg 0 rfl hgr (by decide) rfl rfl) ?_⟩;intro g439 g440;have S:Know g g440 [_,_,_,_,_,_]:=S.wrg 0 rfl hgr (by decide) rfl rfl;refine⟨_,_,_,_,_,_,_,S.rd 0 rfl rfl rfl,next g440 a n c ?_⟩;have:rs.take k=rs:=List.take_of_length_le (by omega);rw[this]at S;exact S.sel [4,5,3] (by decide) rfl
 |succ d ih=>
  intro k h a n c hk S;have hk':k<rs.length:=by omega
  haveI:=S.ft;refine I52_3.of (hh:= ?_) ..;unfold T52_3;refine vcond_t (by rw[ltI_nat];exact blt_t (by omega)) (isNat_i (F.rd (k:=k) hk' ?_));intro g406;have S:Know g g406 [_,_,_,_,_,_,_]:=S.add _;refine vreq_t (S.cw 0 rfl (by decide) rfl rfl) ?_;intro g407 g408;have S:Know g g407 [_,_,_,_,_,_,_]:=S.wr 0 rfl (by decide) rfl rfl;have S:Know g g408 [_,_,_,_,_,_,_,_]:=S.rsvK 9;have n408:g408.nx=g407.nx+9:=rfl;have hb11:=S.orng 4 rfl;have XA:IntsAt (g408.grd [b11]) (some ⟨oA,0,none⟩) L.length (atL L o):=by
   have:=intsCells (h:=g408.grd [b11]) (S.obj 5 rfl) (S.orng 5 rfl).2;rw[atL_len]at this;exact this
  obtain⟨v,h418,e418,rfl,k418⟩:=ct112 hO (S.okg (l:=[b11]) fun q hq=>by rw[List.mem_singleton.1 hq];exact hb11.2) XA (S.rdg 3 rfl (l:=[b11]) rfl rfl) (S.orng 3 rfl).2 (K.wdf (K.roots _ (List.getElem_mem hk')));refine⟨_,_,_,S.rd 4 rfl rfl rfl,_,_,S.rd 1 rfl rfl rfl,_,_,e418,?_⟩;intro g419;have S:Know g g419 [_,_,_,_,_,_,_,_]:=S.callg k418;refine vreq_t (S.fre 0 rfl (Nat.le_add_right ..) (by omega) (by simp)) ?_;intro g420;have S:Know g g420 [_,_,_,_,_,_,_,_,_]:=S.lay 0 rfl (Nat.le_add_right ..) (by omega) (by simp) _;have hn:n=k:=by
   have A:AccE g420 g.nx 3 1 a n c _:=S.get 8 rfl;have:=(AccE.ints A).1;unfold layR at this;rw[List.length_map,List.length_take]at this;omega
  obtain⟨a',n',c',h',e,hn',S⟩:=S.appg (l:=[]) 8 rfl (Nat.le_refl _) S.lo AppT22 (fun _ h=>by cases h) ⟨_,_,_,rfl⟩ (src_get (n:=1) (c:=1) (esz:=1) (off:=0) (S.rd 0 rfl (r:=[.int .i64 (wd (atC L o) rs[k])]) rfl rfl)) rfl rfl (by omega) (by unfold big;omega);refine⟨_,_,_,_,e,?_⟩;intro g425;have S:Know g g425 [_,_,_,_,_,_,_,_,_]:=S;refine vreq_t (S.cwg 5 rfl (fun _ h=>by cases h) (by decide) rfl rfl) ?_;intro g426 g427;have S:Know g g427 [_,_,_,_,_,_,_,_,_]:=S.wrg 5 rfl (fun _ h=>by cases h) (by decide) rfl rfl;have S:Know g g427 [_,_,_,_,_,_]:=S.sel [3,4,5,6,7,8] (by decide) rfl;rw[wrap_succ (by omega)];have e2:iv (layR L o (rs.take (k+1)))=iv (layR L o (rs.take k))++[.int .i64 (wd (atC L o) rs[k])]:=by
   unfold iv layR;rw[List.take_add_one,List.getElem?_eq_getElem hk',List.map_append,List.map_append];rfl
  exact ih (k+1) g427 a' n' c' (by omega) (by rw[e2];exact S)
end
def preW (L:List Cl)(o:List Nat)(k:Nat):List Int:=0::(o.take k).flatMap (cellC L (atC L o))
theorem preW_len (L:List Cl)(o:List Nat)(k:Nat):(preW L o k).length=layT L (o.take k):=by
 unfold preW layT;rw[List.length_cons,cells_length];omega
theorem preW_succ {L:List Cl}{o:List Nat}{k:Nat}(hk:k<o.length):preW L o (k+1)=preW L o k++(hdC (clAt L o[k])::(clAt L o[k]).fs.map (wd (atC L o))):=by
 unfold preW;rw[take_snoc hk,List.flatMap_append];show 0::(_++(cellC L (atC L o) o[k]++[]))=0::_++_;rw[List.append_nil];rfl
section
variable {O:CallF}(hO:Oth O)
include hO
theorem lp52_2 {g:Hp}{a0:Option Addr}{n0 c0:Nat}{a1:Option Addr}{n1 c1:Nat}{a2:Option Addr}{n2 c2:Nat}{x3 x58:Int}{b8 b10 b11 oA oW N top:Nat}{L:List Cl}{o:List Nat}{rs:List Fd}{fr:Nat}(K:LayOk L o rs fr){i:Nat}(hi:i∈o){a86:Option Addr}{n86 c86:Nat}(F:FdsAt g a86 n86 (clAt L i).fs){v1 v2 v3:Value}{Q:Value→Hp→Prop}{pre:List Int}(hpre:pre.length=atC L o i)(hN:pre.length+1+(clAt L i).fs.length≤N)(hN2:N≤100000){hd:Int}
 (next: ∀(h:Hp),Know g h [ob b8 (.cells [v1,v2,v3] 24 .fix),ob b10 (.cells [.slice (some ⟨oA,0,none⟩) L.length L.length] 22 .fix),ob b11 (.cells [.slice (some ⟨oW,0,none⟩) N N,.int .i64 (Int.ofNat top),.slice none 0 0] 24 .fix),ob oA (.cells (iv (atL L o)) 3 .fix),ob oW (.cells (iv (pre++(hd::(clAt L i).fs.map (wd (atC L o)))++List.replicate (N-(pre.length+1+(clAt L i).fs.length)) 0)) 3 .fix)]→
   I52_1 O Q a0 n0 c0 a1 n1 c1 a2 n2 c2 x3 b8 0 b10 0 b11 0 (.func (.func 112) #[] #[.pointer (some ⟨b10,0,none⟩)]) (wrapF .i64 (x58+1)) h):
 ∀(d k:Nat) (h:Hp),k+d=(clAt L i).fs.length→Know g h [ob b8 (.cells [v1,v2,v3] 24 .fix),ob b10 (.cells [.slice (some ⟨oA,0,none⟩) L.length L.length] 22 .fix),ob b11 (.cells [.slice (some ⟨oW,0,none⟩) N N,.int .i64 (Int.ofNat top),.slice none 0 0] 24 .fix),ob oA (.cells (iv (atL L o)) 3 .fix),ob oW (.cells (iv (pre++(hd::((clAt L i).fs.take k).map (wd (atC L o)))++List.replicate (N-(pre.length+1+k)) 0)) 3 .fix)]→
  I52_2 O Q a0 n0 c0 a1 n1 c1 a2 n2 c2 x3 b8 0 b10 0 b11 0 (.func (.func 112) #[] #[.pointer (some ⟨b10,0,none⟩)]) (Int.ofNat i) x58 a86 n86 c86 (Int.ofNat n86) (Int.ofNat k) h:=by
 have hn86:=F.1;intro d
 induction d with
 |zero=>
  intro k h hk S;refine I52_2.of (hh:= ?_) ..;unfold T52_2;refine vcond_f (by rw[ltI_nat];exact blt_f (by omega)) ?_;have hk:k=(clAt L i).fs.length:=by omega
  subst hk;rw[List.take_length]at S;exact next h S
 |succ d ih=>
  intro k h hk S;have hk':k<(clAt L i).fs.length:=by omega
  haveI:=S.ft;refine I52_2.of (hh:= ?_) ..;unfold T52_2;refine vcond_t (by rw[ltI_nat];exact blt_t (by omega)) (isNat_i (F.rd (k:=k) hk' ?_));intro g306;have S:Know g g306 [_,_,_,_,_,_]:=S.add _;refine vreq_t (S.cw 0 rfl (by decide) rfl rfl) ?_;intro g307 g308;have S:Know g g307 [_,_,_,_,_,_]:=S.wr 0 rfl (by decide) rfl rfl;have S:Know g g308 [_,_,_,_,_,_]:=S.rsv 14;have hiL:=K.lt i hi;have XA:IntsAt g308 (some ⟨oA,0,none⟩) L.length (atL L o):=by
   have:=intsCells (h:=g308) (S.obj 4 rfl) (S.orng 4 rfl).2;rw[atL_len]at this;exact this
  have XAg:IntsAt (g308.grd [oA,b10,b11]) (some ⟨oA,0,none⟩) L.length (atL L o):=SlAt.keep XA (fun _ _ _=>rfl) (Nat.le_refl _) (fun _ _ h=>h);have hA:=S.orng 4 rfl;have h10:=S.orng 2 rfl;have h11:=S.orng 3 rfl;obtain⟨v,h325,e325,rfl,k325⟩:=ct112 hO (S.okg (l:=[oA,b10,b11]) fun q hq=>by
   rcases List.mem_cons.1 hq with rfl|hq
   · exact hA.2
   · rcases List.mem_cons.1 hq with rfl|hq
     · exact h10.2
     · rw[List.mem_singleton.1 hq];exact h11.2) XAg (S.rdg 2 rfl (l:=[oA,b10,b11]) rfl rfl) h10.2 (K.wdf (K.refs i hi _ (List.getElem_mem hk')))
  refine⟨_,_,_,S.rd 3 rfl rfl rfl,_,_,_,S.rd 2 rfl rfl rfl,isNat_i (XA.rd (h:=g308) (k:=i) (by rw[atL_len];exact hiL) ?_)⟩;rw[atL_get L o hiL];have ev:atV L o i=Int.ofNat (atC L o i):=by unfold atV;rw[if_pos hi];rfl
  rw[ev];refine⟨_,_,S.rd 0 rfl rfl rfl,_,_,e325,?_⟩;intro g326;have S:Know g g326 [_,_,_,_,_,_]:=S.callg k325;have ew:wrapF .i64 (wrapF .i64 (Int.ofNat (atC L o i)+1)+Int.ofNat k)=Int.ofNat (atC L o i+1+k):=by
   rw[wrap_succ (by omega)];exact wrapN (n:=atC L o i+1+k) (by omega)
  rw[ew];have eY:(pre++(hd::((clAt L i).fs.take k).map (wd (atC L o)))).length=atC L o i+1+k:=by
   rw[List.length_append,List.length_cons,List.length_map,List.length_take];omega
  have lY:(pre++(hd::((clAt L i).fs.take k).map (wd (atC L o)))++List.replicate (N-(pre.length+1+k)) 0).length=N:=by
   rw[List.length_append,eY,List.length_replicate];omega
  have hb:Nat.ble (0+(atC L o i+1+k)*1+ [Value.int .i64 (wd (atC L o) (clAt L i).fs[k])].length) (iv (pre++(hd::((clAt L i).fs.take k).map (wd (atC L o)))++List.replicate (N-(pre.length+1+k)) 0)).length=true:=ble_t (by rw[List.length_map,lY];show 0+(atC L o i+1+k)*1+1≤_;omega);refine isNat_i (isAddr_i (vreq_t (blt_t (by omega)) (vreq_t (S.cwg 5 rfl (fun _ h=>by cases h) (by decide) hb rfl) ?_)));intro g330 g331;have S:Know g g331 [_,_,_,_,_,_]:=S.wrg 5 rfl (fun _ h=>by cases h) (by decide) hb rfl;rw[←eY,putAt_z1 _ _ _ (by omega)]at S;have S:Know g g331 [_,_,_,_,_]:=S.sub _ (List.sublist_cons_self ..);rw[wrap_succ (by omega)];refine ih (k+1) g331 (by omega) ?_;have e5:pre++(hd::((clAt L i).fs.take k).map (wd (atC L o)))++[wd (atC L o) (clAt L i).fs[k]]=pre++(hd::((clAt L i).fs.take (k+1)).map (wd (atC L o))):=by
   rw[List.take_add_one,List.getElem?_eq_getElem hk',List.map_append];simp
  rw[e5,show N-(pre.length+1+k)-1=N-(pre.length+1+(k+1)) by omega]at S;exact S
theorem lp52_1 {g:Hp}{a0:Option Addr}{n0 c0:Nat}{a1:Option Addr}{n1 c1:Nat}{a2:Option Addr}{n2 c2:Nat}{x3:Int}{b8 b10 b11 oA oW N top:Nat}{L:List Cl}{o:List Nat}{rs:List Fd}{fr:Nat}(K:LayOk L o rs fr)(C:ClsAt g a0 n0 L)(X:IntsAt g a1 n1 (o.map Int.ofNat)){v1 v2 v3:Value}{Q:Value→Hp→Prop}(hN:layT L o+fr=N)
 (next: ∀(h:Hp),Know g h [ob b8 (.cells [v1,v2,v3] 24 .fix),ob b10 (.cells [.slice (some ⟨oA,0,none⟩) L.length L.length] 22 .fix),ob b11 (.cells [.slice (some ⟨oW,0,none⟩) N N,.int .i64 (Int.ofNat top),.slice none 0 0] 24 .fix),ob oA (.cells (iv (atL L o)) 3 .fix),ob oW (.cells (iv (layW L o fr)) 3 .fix)]→
   I52_3 O Q a0 n0 c0 a1 n1 c1 a2 n2 c2 x3 b8 0 b10 0 b11 0 (.func (.func 112) #[] #[.pointer (some ⟨b10,0,none⟩)]) 0 h):
 ∀(d k:Nat) (h:Hp),k+d=o.length→Know g h [ob b8 (.cells [v1,v2,v3] 24 .fix),ob b10 (.cells [.slice (some ⟨oA,0,none⟩) L.length L.length] 22 .fix),ob b11 (.cells [.slice (some ⟨oW,0,none⟩) N N,.int .i64 (Int.ofNat top),.slice none 0 0] 24 .fix),ob oA (.cells (iv (atL L o)) 3 .fix),ob oW (.cells (iv (preW L o k++List.replicate (N-(preW L o k).length) 0)) 3 .fix)]→
  I52_1 O Q a0 n0 c0 a1 n1 c1 a2 n2 c2 x3 b8 0 b10 0 b11 0 (.func (.func 112) #[] #[.pointer (some ⟨b10,0,none⟩)]) (Int.ofNat k) h:=by
 have hn1:=X.1;rw[List.length_map]at hn1;have hfit:=K.fit;have hlo:=totS_len L o;have hlT:layT L o=1+totS (szC L) o:=rfl;intro d
 induction d with
 |zero=>
  intro k h hk S;refine I52_1.of (hh:= ?_) ..;unfold T52_1;refine vcond_f (by rw[ltI_nat];exact blt_f (by omega)) (next h ?_);have:o.take k=o:=List.take_of_length_le (by omega);have e:preW L o k++List.replicate (N-(preW L o k).length) 0=layW L o fr:=by
   rw[preW_len];unfold preW layW;rw[this,←hN,show layT L o+fr-layT L o=fr by omega];rfl
  rw[e]at S;exact S
 |succ d ih=>
  intro k h hk S;have hk':k<o.length:=by omega
  have hmem:=List.getElem_mem hk';have hiL:=K.lt _ hmem;haveI:=S.ft;refine I52_1.of (hh:= ?_) ..;unfold T52_1;refine vcond_t (by rw[ltI_nat];exact blt_t (by omega)) (isNat_i (X.rd (k:=k) (by rw[List.length_map];exact hk') ?_));rw[List.getElem_map];intro g205;have S:Know g g205 [_,_,_,_,_]:=S.rsv 21;haveI:=S.ft;have XA:IntsAt g205 (some ⟨oA,0,none⟩) L.length (atL L o):=by
   have:=intsCells (h:=g205) (S.obj 3 rfl) (S.orng 3 rfl).2;rw[atL_len]at this;exact this
  refine⟨_,_,_,S.rd 2 rfl rfl rfl,_,_,_,S.rd 1 rfl rfl rfl,isNat_i (XA.rd (h:=g205) (k:=o[k]) (by rw[atL_len];exact hiL) ?_)⟩;rw[atL_get L o hiL];have ev:atV L o o[k]=Int.ofNat (atC L o o[k]):=by unfold atV;rw[if_pos hmem];rfl
  rw[ev];have hcl:L[o[k]]=clAt L o[k]:=by simp[clAt,List.getD,List.getElem?_eq_getElem hiL]
  refine isNat_i (C.rdf (h:=g205) (k:=o[k]) hiL fun a' n' c' F=> ?_);refine isNat_i (C.rdk (h:=g205) (k:=o[k]) hiL ?_);rw[hcl]at F ⊢;have hF:=F.1;have hat:=at_take (L:=L) K.nd hk';have hpl:=preW_len L o k;have hT1:layT L (o.take (k+1))≤layT L o:=layT_take;rw[take_snoc hk',layT_snoc]at hT1;have hsz:szC L o[k]=1+(clAt L o[k]).fs.length:=rfl;have hkd:=K.kind _ hmem;have e1:wrapF .i64 (wrapF .i64 (8*Int.ofNat n')+(clAt L o[k]).kind)=hdC (clAt L o[k]):=by
   rw[hF];have:Int.ofNat (clAt L o[k]).fs.length=((clAt L o[k]).fs.length:Int):=rfl;rw[this,wrap64 (n:=8*((clAt L o[k]).fs.length:Int)) (by omega) (by omega),wrap64 (by omega) (by omega)];rfl
  rw[e1];have lW:(preW L o k++List.replicate (N-(preW L o k).length) 0).length=N:=by rw[List.length_append,List.length_replicate];omega
  have hb:Nat.ble (0+atC L o o[k]*1+ [Value.int .i64 (hdC (clAt L o[k]))].length) (iv (preW L o k++List.replicate (N-(preW L o k).length) 0)).length=true:=ble_t (by rw[List.length_map,lW];show 0+atC L o o[k]*1+1≤_;omega);refine isNat_i (isAddr_i (vreq_t (blt_t (by omega)) (vreq_t (S.cwg 4 rfl (fun _ h=>by cases h) (by decide) hb rfl) ?_)));intro g229 g230;have S:Know g g230 [_,_,_,_,_]:=S.wrg 4 rfl (fun _ h=>by cases h) (by decide) hb rfl;rw[hat,←hpl,putAt_z1 _ _ _ (by omega)]at S;haveI:=S.ft;refine isNat_i (C.rdf (h:=g230) (k:=o[k]) hiL fun a2' n2' c2' F2=> ?_);rw[hcl]at F2;have S:Know g g230 [ob b8 (.cells [v1,v2,v3] 24 .fix),ob b10 (.cells [.slice (some ⟨oA,0,none⟩) L.length L.length] 22 .fix),ob b11 (.cells [.slice (some ⟨oW,0,none⟩) N N,.int .i64 (Int.ofNat top),.slice none 0 0] 24 .fix),ob oA (.cells (iv (atL L o)) 3 .fix),ob oW (.cells (iv (preW L o k++(hdC (clAt L o[k])::((clAt L o[k]).fs.take 0).map (wd (atC L o)))++List.replicate (N-((preW L o k).length+1+0)) 0)) 3 .fix)]:=by
   rw[List.take_zero,List.map_nil,show N-((preW L o k).length+1+0)=N-(preW L o k).length-1 by omega];exact S
  refine lp52_2 (N:=N) hO K hmem F2 (by rw[hpl,hat]) (by omega) (by omega) (hd:=hdC (clAt L o[k])) (pre:=preW L o k) (fun h2 S2=> ?_) (clAt L o[k]).fs.length 0 g230 (by omega) S;rw[wrap_succ (by omega)];refine ih (k+1) h2 (by omega) ?_;rw[preW_succ hk'];have e3:(preW L o k++(hdC (clAt L o[k])::(clAt L o[k]).fs.map (wd (atC L o)))).length=(preW L o k).length+1+(clAt L o[k]).fs.length:=by rw[List.length_append,List.length_cons,List.length_map];omega
  rw[e3];exact S2
theorem ct52 {g:Hp}(ok:g.Ok){a0:Option Addr}{n0 c0:Nat}{a1:Option Addr}{n1 c1:Nat}{a2:Option Addr}{n2 c2:Nat}{L:List Cl}{o:List Nat}{rs:List Fd}{fr:Nat}(K:LayOk L o rs fr)(C:ClsAt g a0 n0 L)(X:IntsAt g a1 n1 (o.map Int.ofNat))(F:FdsAt g a2 n2 rs):
 Ret Tryz.prog O 52 [.slice a0 n0 c0,.slice a1 n1 c1,.slice a2 n2 c2,.int .i64 (Int.ofNat fr)] g fun v h'=> ∃oW ar nr cr oA,v= .tuple #[.agg #[.slice (some ⟨oW,0,none⟩) (layT L o+fr) (layT L o+fr),.int .i64 (Int.ofNat (layT L o)),.slice ar nr cr],.slice (some ⟨oA,0,none⟩) L.length L.length]∧Know g h' [ob oW (.cells (iv (layW L o fr)) 3 .fix),acc g.nx 3 1 ar nr cr (iv (layR L o rs)),ob oA (.cells (iv (atL L o)) 3 .fix)]:=by
 refine rk52 (hO:=hO _ _ _ (by decide)) (hh:= ?_) ..;unfold T52;have hn0:=C.1;have hn1:=X.1;rw[List.length_map]at hn1;have hlL:=K.lL;have hfit:=K.fit;have hlo:=totS_len L o;have hlT:layT L o=1+totS (szC L) o:=rfl;subst hn0;intro g1 g2;have S:Know g g1 [_]:=(Know.nil ok).add _;have S:Know g g2 [_,_]:=S.add _;have X1:IntsAt g2 (some ⟨g1.nx,0,none⟩) 1 [-1]:=intsCells (xs:=[-1]) (S.obj 0 rfl) (S.orng 0 rfl).2;obtain⟨v,h6,e6,oA,rfl,T⟩:=ct111 hO S.ok X1 (c:=1) (m:=L.length) (by omega);refine⟨_,_,_,_,e6,?_⟩;have S:Know g h6 [_,_,_]:=S.comp T;intro g7;have S:Know g g7 [_,_,_,_]:=S.add _;refine vreq_t (S.cw 0 rfl (by decide) rfl rfl) ?_;intro g8;have S:Know g g8 [_,_,_,_]:=S.wr 0 rfl (by decide) rfl rfl;intro g9;have S:Know g g9 [_,_,_,_,_]:=S.add _;refine vreq_t (S.cw 0 rfl (by decide) rfl rfl) ?_;intro g10;have S:Know g g10 [_,_,_,_,_]:=S.wr 0 rfl (by decide) rfl rfl;have S:Know g g10 [_,_,_,_]:=S.sel [4,1,0,2] (by decide) rfl;rw[←atL_nil]at S;have lp: ∀(d k:Nat) (h:Hp),k+d=o.length→Know g h [ob g.nx (.cells [.slice none 0 0,.int .i64 0,.slice none 0 0] 24 .fix),ob h6.nx (.cells [.slice (some ⟨oA,0,none⟩) L.length L.length] 22 .fix),ob g8.nx (.cells [.slice none 0 0,.int .i64 (Int.ofNat (layT L (o.take k))),.slice none 0 0] 24 .fix),ob oA (.cells (iv (atL L (o.take k))) 3 .fix)]→
  I52_0 O (fun v h'=> ∃oW ar nr cr oA,v= .tuple #[.agg #[.slice (some ⟨oW,0,none⟩) (layT L o+fr) (layT L o+fr),.int .i64 (Int.ofNat (layT L o)),.slice ar nr cr],.slice (some ⟨oA,0,none⟩) L.length L.length]∧Know g h' [ob oW (.cells (iv (layW L o fr)) 3 .fix),acc g.nx 3 1 ar nr cr (iv (layR L o rs)),ob oA (.cells (iv (atL L o)) 3 .fix)]) a0 L.length c0 a1 n1 c1 a2 n2 c2 (Int.ofNat fr) g.nx 0 h6.nx 0 g8.nx 0 (Int.ofNat k) h:=by
  intro d
  induction d with
  |zero=>
   intro k h hk S;have ek:o.take k=o:=List.take_of_length_le (by omega);rw[ek]at S;refine I52_0.of (hh:= ?_) ..;unfold T52_0;have ew:wrapF .i64 (Int.ofNat (layT L o)+Int.ofNat fr)=Int.ofNat (layT L o+fr):=wrapN (n:=layT L o+fr) (by omega);refine vcond_f (by rw[ltI_nat];exact blt_f (by omega)) ⟨_,S.rd 2 rfl rfl rfl,?_⟩;rw[ew];refine isNat_i (isNat_i (vreq_t (ble_t (Nat.le_refl _)) (vreq_t (ble_t (by omega)) (vreq_t (blt_t (by unfold big;omega)) ?_))));intro g126;have S:Know g g126 [_,_,_,_,_]:=S.add _;have ez:List.flatten (List.replicate (layT L o+fr) [Value.int .i64 0])=iv (List.replicate (layT L o+fr) 0):=by
    have: ∀k,List.flatten (List.replicate k [Value.int .i64 0])=iv (List.replicate k 0):=by
     intro k
     induction k with
     |zero=>rfl
     |succ k ih=>rw[List.replicate_succ,List.flatten_cons,ih,List.replicate_succ];rfl
    exact this _
   rw[ez]at S;refine vreq_t (S.cw 3 rfl (by decide) rfl rfl) ?_;intro g127;have S:Know g g127 [_,_,_,_,_]:=S.wr 3 rfl (by decide) rfl rfl;have S:Know g g127 [_,_,_,_,_]:=S.sel [1,2,3,4,0] (by decide) rfl;have e:preW L o 0++List.replicate (layT L o+fr-(preW L o 0).length) 0=List.replicate (layT L o+fr) 0:=by
    show(0:Int)::([]++List.replicate (layT L o+fr-1) 0)=_;rw[List.nil_append,←List.replicate_succ,show layT L o+fr-1+1=layT L o+fr by omega]
   rw[←e]at S;refine lp52_1 hO K C X (N:=layT L o+fr) rfl (fun h2 S2=> ?_) o.length 0 g127 (by omega) S;have S2:Know g h2 [_,_,_,_,_,_]:=S2.accNil g.nx 3 1;exact lp52_3 hO K F (fun h3 a n c S3=>⟨_,_,_,_,_,rfl,S3⟩) rs.length 0 h2 none 0 0 (by omega) (S2.sel [1,2,3,4,5,0] (by decide) rfl)
  |succ d ih=>
   intro k h hk S;have hk':k<o.length:=by omega
   have hmem:=List.getElem_mem hk';have hiL:=K.lt _ hmem;have hT:=layT_take (L:=L) (o:=o) (k:=k);have hT1:layT L (o.take (k+1))≤layT L o:=layT_take;rw[take_snoc hk',layT_snoc]at hT1;have hsz:szC L o[k]=1+(clAt L o[k]).fs.length:=rfl;haveI:=S.ft;refine I52_0.of (hh:= ?_) ..;unfold T52_0;refine vcond_t (by rw[ltI_nat];exact blt_t (by omega)) (isNat_i (X.rd (k:=k) (by rw[List.length_map];exact hk') ?_));rw[List.getElem_map];have hb:Nat.ble (0+o[k]*1+ [Value.int .i64 (Int.ofNat (layT L (o.take k)))].length) (iv (atL L (o.take k))).length=true:=ble_t (by rw[List.length_map,atL_len];show 0+o[k]*1+1≤_;omega);refine⟨_,_,_,S.rd 1 rfl rfl rfl,_,S.rd 2 rfl rfl rfl,isNat_i (isAddr_i (vreq_t (blt_t hiL) (vreq_t (S.cw 3 rfl (by decide) hb rfl) ?_)))⟩;intro g112 g113;have S:Know g g112 [_,_,_,_]:=S.wr 3 rfl (by decide) hb rfl;have S:Know g g113 [_,_,_,_]:=S.rsv 12;rw[putAt_one _ _ _ (by rw[atL_len];exact hiL),show Int.ofNat (layT L (o.take k))=(layT L (o.take k):Int) from rfl,atL_snoc (nodup_take K.nd hk') hiL,←take_snoc hk']at S;haveI:=S.ft;refine⟨_,S.rd 2 rfl rfl rfl,isNat_i (C.rdf (h:=g113) (k:=o[k]) hiL fun a' n' c' F'=> ?_)⟩;have hcl:L[o[k]]=clAt L o[k]:=by simp[clAt,List.getD,List.getElem?_eq_getElem hiL]
   rw[hcl]at F';have hF:=F'.1;have ew:wrapF .i64 ((layT L (o.take k):Int)+wrapF .i64 (1+Int.ofNat n'))=Int.ofNat (layT L (o.take (k+1))):=by
    rw[take_snoc hk',layT_snoc,hF,hsz];have:Int.ofNat (clAt L o[k]).fs.length=((clAt L o[k]).fs.length:Int):=rfl;rw[this,wrap64 (n:=1+((clAt L o[k]).fs.length:Int)) (by omega) (by omega),wrap64 (by omega) (by omega)];show _=((layT L (o.take k)+(1+(clAt L o[k]).fs.length):Nat):Int);omega
   rw[ew];refine vreq_t (S.cwg 2 rfl (fun _ h=>by cases h) (by decide) rfl rfl) ?_;intro g121 g122;have S:Know g g122 [_,_,_,_]:=S.wrg 2 rfl (fun _ h=>by cases h) (by decide) rfl rfl;rw[wrap_succ (by omega)];exact ih (k+1) g122 (by omega) S
 exact lp o.length 0 g10 (by omega) S
end
abbrev pO (xs:List Nat):List Nat:=List.range (pMany xs)
theorem drawnL_len (xs:List Nat):(drawnL xs).length=pMany xs:=by unfold drawnL;simp
theorem drawnL_at {xs:List Nat}{i:Nat}(hi:i<pMany xs):clAt (drawnL xs) i=pCell xs i:=by
 unfold clAt drawnL;rw[List.getD,List.getElem?_map,List.getElem?_range hi];rfl
theorem odd_ne {a q:Int}(h:a=2*q+1):Int.tmod a 2≠0:=fun h0=>by
 have:=Int.mul_tdiv_add_tmod a 2;omega
theorem wordC_ok {n x k:Nat}(hx:x<256)(h3:(k:Int)≠3)(h4:(k:Int)≠4):FdOk (List.range n) k (wordC n x):=by
 unfold FdOk;rw[if_neg h3,if_neg h4];unfold wordC;split
 · exact .inr ⟨rfl,.inr ⟨odd_ne (q:=(x:Int)-100) rfl,by show _≤2*((x:Int)-100)+1;omega,by show 2*((x:Int)-100)+1≤_;omega⟩⟩
 · rename_i h;split
   · exact .inr ⟨rfl,.inl rfl⟩
   · refine .inl ⟨rfl,x/4%n,List.mem_range.2 (Nat.mod_lt _ (by omega)),rfl⟩
theorem fdOf_ok {n x k:Nat}(hx:x<256):FdOk (List.range n) k (fdOf k n x):=by
 unfold fdOf;by_cases h3:k=3
 · subst h3;rw[if_pos rfl];unfold FdOk;rw[if_pos (by rfl)];refine⟨rfl,?_⟩;show letterB ((97+x%26:Nat):Int)=true;unfold letterB;have h1:(32:Int)≤((97+x%26:Nat):Int):=by omega
   have h2:((97+x%26:Nat):Int)≤126:=by omega
   have h5:(((97+x%26:Nat):Int)==34)=false:=by rw[beq_eq_false_iff_ne];omega
   have h6:(((97+x%26:Nat):Int)==92)=false:=by rw[beq_eq_false_iff_ne];omega
   rw[decide_eq_true h1,decide_eq_true h2,h5,h6];rfl
 · by_cases h4:k=4
   · subst h4;rw[if_neg h3,if_pos rfl];unfold FdOk;rw[if_neg (by decide),if_pos (by rfl)];refine⟨rfl,?_⟩;show((x%2:Nat):Int)=0∨((x%2:Nat):Int)=1;omega
   · rw[if_neg h3,if_neg h4];exact wordC_ok hx (by omega) (by omega)
theorem totS_le {L:List Cl}{b:Nat}: ∀ {o:List Nat},(∀i∈o,szC L i≤b)→totS (szC L) o≤b*o.length:=by
 intro o
 induction o with
 |nil=>intro _;exact Nat.le_refl _
 |cons x o ih=>
  intro h;rw[totS_cons,List.length_cons,Nat.mul_succ];have:=h x (List.mem_cons_self ..);have:=ih fun i hi=>h i (List.mem_cons_of_mem _ hi);omega
section
variable {v0:Array Value}{xs:List Nat}(B:Bytes v0 xs)
include B
theorem drawn_fs {i:Nat}(hi:i<pMany xs):(clAt (drawnL xs) i).fs.length=pSize xs i:=by
 have:=pSize_rng xs i;have:=pMany_rng xs;rw[drawnL_at hi];show(((xs.drop _).take _).map _).length=_;rw[List.length_map,List.length_take,List.length_drop,B.len];omega
theorem drawn_gr:Gr (drawnL xs) (pO xs):=by
 refine⟨List.nodup_range,fun i hi=> ?_,fun i hi=> ?_,fun i hi h4=> ?_,fun i hi f hf=> ?_⟩
 all_goals have hi:=List.mem_range.1 hi
 · rw[drawnL_at hi];have:=pKind_rng xs i;show 1≤(pKind xs i:Int)∧(pKind xs i:Int)≤5;omega
 · rw[drawn_fs B hi];have:=pSize_rng xs i;omega
 · rw[drawn_fs B hi];rw[drawnL_at hi]at h4;have h4:(pKind xs i:Int)=4:=h4;exact if_pos (by omega)
 · rw[drawnL_at hi]at hf ⊢;obtain⟨x,hx,rfl⟩:=List.mem_map.1 hf;exact fdOf_ok (B.lt x (List.drop_subset _ _ (List.take_subset _ _ hx)))
theorem drawn_roots:(∀f∈drawnR xs,FdOk (pO xs) 1 f)∧(drawnR xs).length≤4:=by
 refine⟨fun f hf=> ?_,?_⟩
 · obtain⟨x,hx,rfl⟩:=List.mem_map.1 hf;exact wordC_ok (k:=1) (B.lt x (List.drop_subset _ _ (List.take_subset _ _ hx))) (by decide) (by decide)
 · unfold drawnR;rw[List.length_map,List.length_take];omega
theorem drawn_fit:layT (drawnL xs) (pO xs)≤46:=by
 have:=pMany_rng xs;have h:totS (szC (drawnL xs)) (pO xs)≤5*(pO xs).length:=totS_le fun i hi=>by
  unfold szC;rw[drawn_fs B (List.mem_range.1 hi)];have:=pSize_rng xs i;omega
 rw[List.length_range]at h;unfold layT;omega
end
theorem Gr.lay {L:List Cl}{o:List Nat}(G:Gr L o)(hl: ∀i∈o,i<L.length){rs:List Fd}(hr: ∀f∈rs,FdOk o 1 f){fr:Nat}(lL:L.length≤1000)(lr:rs.length≤1000)(fit:layT L o+fr≤100000):LayOk L o rs fr:=
 ⟨G.nd,hl,fun i hi f hf hrf=>let ⟨a,b⟩:=FdOk.mem G (G.fok i hi f hf) hrf;⟨b,a⟩,fun f hf hrf=>let ⟨a,b⟩:=FdOk.mem G (hr f hf) hrf;⟨b,a⟩,fun i hi=>by have:=G.kind i hi;omega,lL,lr,fit⟩
def pFree (xs:List Nat):Nat:=xs.getD 1 0%16
theorem made_ok {v0:Array Value}{xs:List Nat}(B:Bytes v0 xs):LayOk (drawnL xs) (pO xs) (drawnR xs) (pFree xs):=by
 have h1:=drawn_fit B;have h2:=drawn_roots B;have:=pMany_rng xs;have:pFree xs<16:=Nat.mod_lt _ (by decide);exact(drawn_gr B).lay (fun i hi=>by rw[drawnL_len];exact List.mem_range.1 hi) h2.1 (by rw[drawnL_len];omega) (by omega) (by omega)
def QMade (g:Hp)(xs:List Nat):Value→Hp→Prop:=fun v h'=> ∃oW ar nr cr ac cc af nf cf oA own,v= .tuple #[.agg #[.slice (some ⟨oW,0,none⟩) (layT (drawnL xs) (pO xs)+pFree xs) (layT (drawnL xs) (pO xs)+pFree xs),.int .i64 (Int.ofNat (layT (drawnL xs) (pO xs))),.slice ar nr cr],.slice ac (drawnL xs).length cc,.slice af nf cf,.slice (some ⟨oA,0,none⟩) (drawnL xs).length (drawnL xs).length]∧
 Know g h' [clo own (fun h=>ClsAt h ac (drawnL xs).length (drawnL xs)),acc g.nx 76 2 af nf cf (fvs (drawnR xs)),ob oW (.cells (iv (layW (drawnL xs) (pO xs) (pFree xs))) 3 .fix),acc g.nx 3 1 ar nr cr (iv (layR (drawnL xs) (pO xs) (drawnR xs))),ob oA (.cells (iv (atL (drawnL xs) (pO xs))) 3 .fix)]
def QMadeY (g:Hp)(xs:List Nat):Value→Hp→Prop:=fun v h'=> ∃oW ar nr cr ac cc af nf cf oA own,v= .tuple #[.agg #[.slice (some ⟨oW,0,none⟩) (layT (drawnL xs) (pO xs)+pFree xs) (layT (drawnL xs) (pO xs)+pFree xs),.int .i64 (Int.ofNat (layT (drawnL xs) (pO xs))),.slice ar nr cr],.slice ac (drawnL xs).length cc,.slice af nf cf,.slice (some ⟨oA,0,none⟩) (drawnL xs).length (drawnL xs).length]∧
 Know g h' [clo own (fun h=>ClsS h ac (drawnL xs).length cc (drawnL xs)),acc g.nx 76 2 af nf cf (fvs (drawnR xs)),ob oW (.cells (iv (layW (drawnL xs) (pO xs) (pFree xs))) 3 .fix),acc g.nx 3 1 ar nr cr (iv (layR (drawnL xs) (pO xs) (drawnR xs))),ob oA (.cells (iv (atL (drawnL xs) (pO xs))) 3 .fix)]
section
variable {O:CallF}(hO:Oth O)
include hO
theorem ct43y {g:Hp}(ok:g.Ok){v0:Array Value}{xs:List Nat}(B:Bytes v0 xs):Ret Tryz.prog O 43 [.agg v0] g (QMadeY g xs):=by
 refine rk43 (hO:=hO _ _ _ (by decide)) (hh:= ?_) ..;unfold T43;have hlen:=B.len;have hm:=pMany_rng xs;refine vreq_t (by rw[B.v];exact bv_one xs) ?_;intro g1;have S:Know g g1 [_]:=(Know.nil ok).add _;rw[B.v]at S;intro g2;have S:Know g g2 [_,_]:=S.add _;have B2:Bytes (bv xs).toArray xs:=⟨rfl,B.len,B.lt⟩;obtain⟨v,h10,e10,ac,nc,cc,af,nf,cf,own,rfl,T⟩:=ct106 hO S.ok B2;refine⟨bv xs,S.rd 1 rfl (by rw[List.drop_zero,List.take_of_length_le (by rw[List.length_map];omega)]) (ble_t (by rw[List.length_map];omega)),_,_,_,_,_,_,_,e10,?_⟩;have S:Know g h10 [_,_,_,_]:=S.comp T;intro g11;have S:Know g g11 [_,_,_,_,_]:=S.rsvK 16;have n11:g11.nx=h10.nx+16:=rfl;have hr:((bv xs).drop 1).take 1=[.int .u8 (Int.ofNat (xs.getD 1 0))]:=bv_at (by omega);have hC:ClsAt g11 ac nc (drawnL xs):=(clo.get (S.get 1 rfl):ClsS _ _ _ _ _).1;have hnc:=hC.1;subst hnc;have hg0:=S.orng 4 rfl;obtain⟨v,h16,e16,a13,n14,c15,rfl,T⟩:=ct51 hO (S.okg (l:=[g.nx]) fun q hq=>by rw[List.mem_singleton.1 hq];exact hg0.2) (n:=pMany xs) (by omega);rw[←drawnL_len]at e16;refine⟨_,S.rd 4 rfl hr (ble_t (by rw[List.length_map];omega)),_,_,_,_,e16,?_⟩;intro g17;have S:Know g g17 [_,_,_,_,_,_]:=S.compg T;have h1:=B.b 1;rw[wrapN (show xs.getD 1 0<9223372036854775808 by omega),show Int.tmod (Int.ofNat (xs.getD 1 0)) 16=Int.ofNat (pFree xs) from rfl];have C17:ClsAt g17 ac (drawnL xs).length (drawnL xs):=(clo.get (S.get 2 rfl):ClsS _ _ _ _ _).1;have F17:FdsAt g17 af nf (drawnR xs):=AccE.slAt fdE_len (by decide) (S.get 3 rfl);have X17:IntsAt g17 a13 n14 ((pO xs).map Int.ofNat):=AccE.ints (S.get 0 rfl);obtain⟨v,h28,e28,oW,ar,nr,cr,oA,rfl,T⟩:=ct52 hO (S.okg (l:=[]) fun _ h=>by cases h) (made_ok B) (SlAt.keep C17 (fun _ _ _=>rfl) (Nat.le_refl _) (fun _ _ h=>h)) (SlAt.keep X17 (fun _ _ _=>rfl) (Nat.le_refl _) (fun _ _ h=>h)) (SlAt.keep F17 (fun _ _ _=>rfl) (Nat.le_refl _) (fun _ _ h=>h)) (c0:=cc) (c1:=c15) (c2:=cf);refine⟨_,_,_,_,_,_,_,_,_,_,_,e28,?_⟩;intro g29;have S:Know g g29 [_,_,_,_,_,_,_,_,_]:=S.compg T;refine vreq_t (S.fre 4 rfl (Nat.le_add_right ..) (by omega) (by simp)) ?_;intro g30;have S:Know g g30 [_,_,_,_,_,_,_,_,_,_]:=S.lay 4 rfl (Nat.le_add_right ..) (by omega) (by simp) _;refine vreq_t (S.cwg 0 rfl (fun _ h=>by cases h) (by decide) rfl rfl) ?_;intro g31 g32;have S:Know g g32 [_,_,_,_,_,_,_,_,_,_]:=S.wrg 0 rfl (fun _ h=>by cases h) (by decide) rfl rfl;refine⟨_,_,_,_,_,_,_,S.rd 0 rfl rfl rfl,vreq_t (S.cw 8 rfl (by decide) rfl rfl) ?_⟩;intro g40;have S:Know g g40 [_,_,_,_,_,_,_,_,_,_]:=S.wr 8 rfl (by decide) rfl rfl;have S:=(Know.accLow (Know.accLow S 7 rfl) 2 rfl);have S:Know g g40 [_,_,_,_,_,_,_,_,_,_]:=S;refine⟨_,_,_,_,_,_,_,S.rd 8 rfl rfl rfl,oW,ar,nr,cr,ac,cc,af,nf,cf,oA,own,rfl,?_⟩;have S':=S.sel [6,7,1,2,3] (by decide) rfl;exact Know.accLow (Know.accLow S' 1 rfl) 3 rfl
theorem ct43 {g:Hp}(ok:g.Ok){v0:Array Value}{xs:List Nat}(B:Bytes v0 xs):Ret Tryz.prog O 43 [.agg v0] g (QMade g xs):=by
 obtain⟨v,h',e,oW,ar,nr,cr,ac,cc,af,nf,cf,oA,own,rfl,T⟩:=ct43y hO ok B;exact⟨_,h',e,oW,ar,nr,cr,ac,cc,af,nf,cf,oA,own,rfl,T.weak 0 rfl fun _ h=>h.1⟩
end
end Go.Proofs.YtngcjpkccnfjiaaGreatDoor
namespace Go.Ev
open Go
end Go.Ev
namespace Go.Proofs.YtngcjpkccnfjiaaGreatDoor
set_option maxRecDepth 100000
open Go Go.Ev
def VAs (x:Hp)(xs:List Value)(ps:List Vl):Prop:=xs.length=ps.length*4∧ ∀(i:Nat) (hi:i<ps.length),VA x ps[i] ((xs.drop (i*4)).take 4)
theorem VAs.snoc {x:Hp}{xs vs:List Value}{ps:List Vl}{v:Vl}(h:VAs x xs ps)(hv:VA x v vs)(h4:vs.length=4):VAs x (xs++vs) (ps++[v]):=by
 refine⟨by rw[List.length_append,List.length_append,h.1,h4,List.length_singleton];omega,fun i hi=> ?_⟩;rcases Nat.lt_or_ge i ps.length with h1|h1
 · rw[List.getElem_append_left h1];have:=h.2 i h1;rw[List.drop_append_of_le_length (by rw[h.1];omega),List.take_append_of_le_length (by rw[List.length_drop,h.1];omega)];exact this
 · rw[List.length_append,List.length_singleton]at hi;obtain rfl:i=ps.length:=by omega
   rw[←h.1,List.drop_left,List.take_of_length_le (by omega)];simpa using hv
theorem app44:AppT Tryz.prog 44 46 4 56:=⟨Tryz.underlying44,by kernel_rfl⟩
def QRd (h0:Hp)(L:List Rs)(i:Nat)(M:Int→Rs)(r:Rdd):Value→Hp→Prop:=fun u h'=> ∃vs lf own,u= .tuple #[.agg vs.toArray,.int .i64 r.2.2]∧(r.2.2=0→lf=r.2.1)∧Know h0 h' (clo own (fun x=>VA x r.1 vs)::L.set i (M lf))
theorem rleaf {h0 x:Hp}{L:List Rs}{i:Nat}{M:Int→Rs}{bz:Nat}{w1 w2 w3 w4:Value}{lf:Int}(S:Know h0 x (ob bz (.cells [w1,w2,w3,w4] 46 .fix)::L.set i (M lf)))(k n:Int)(t:ByteArray)(lf' e:Int)(he:e=0→lf=lf'):
 vreq (canW x bz 0 [.int .i64 k,.int .i64 n,.string t,.slice none 0 0]) (∃x6' x7' s8' a9' n10' c11',readAt (x.wr bz 0 [.int .i64 k,.int .i64 n,.string t,.slice none 0 0]) bz 0 4=some [.int .i64 x6',.int .i64 x7',.string s8',.slice a9' n10' c11']∧
  QRd h0 L i M (.mk k n t [],lf',e) (.tuple #[.agg #[.int .i64 x6',.int .i64 x7',.string s8',.slice a9' n10' c11'],.int .i64 e]) (x.wr bz 0 [.int .i64 k,.int .i64 n,.string t,.slice none 0 0])):=by
 refine vreq_t (S.cw 0 rfl (by decide) rfl rfl) ?_;have S2:Know h0 (x.wr bz 0 [.int .i64 k,.int .i64 n,.string t,.slice none 0 0]) (ob bz (.cells [.int .i64 k,.int .i64 n,.string t,.slice none 0 0] 46 .fix)::L.set i (M lf)):=S.wr 0 rfl (by decide) rfl rfl;refine⟨_,_,_,_,_,_,S2.rd 0 rfl rfl rfl,[.int .i64 k,.int .i64 n,.string t,.slice none 0 0],lf,fun _=>False,rfl,he,?_⟩;have S3:=S2.sub (L.set i (M lf)) (List.sublist_cons_self ..);exact S3.push (r':=clo (fun _=>False) (fun y=>VA y (.mk k n t []) [.int .i64 k,.int .i64 n,.string t,.slice none 0 0])) (Kp.refl _ _) (clo.loc _ _) (fun _ _ _=> .nil k n t 0) fun _ h=>h.elim
theorem rcopy {h0 x:Hp}{L:List Rs}{i:Nat}{M:Int→Rs}{bz:Nat}{w1 w2 w3 w4:Value}{lf:Int}{own:Nat→Prop}{r:Rdd}{k n:Int}{t:ByteArray}{a:Option Addr}{m c:Nat}(S:Know h0 x (clo own (fun y=>VA y r.1 [.int .i64 k,.int .i64 n,.string t,.slice a m c])::ob bz (.cells [w1,w2,w3,w4] 46 .fix)::L.set i (M lf)))(he:r.2.2=0→lf=r.2.1):
 vreq (canW x bz 0 [.int .i64 k,.int .i64 n,.string t,.slice a m c]) (∃x6' x7' s8' a9' n10' c11',readAt (x.wr bz 0 [.int .i64 k,.int .i64 n,.string t,.slice a m c]) bz 0 4=some [.int .i64 x6',.int .i64 x7',.string s8',.slice a9' n10' c11']∧
  QRd h0 L i M r (.tuple #[.agg #[.int .i64 x6',.int .i64 x7',.string s8',.slice a9' n10' c11'],.int .i64 r.2.2]) (x.wr bz 0 [.int .i64 k,.int .i64 n,.string t,.slice a m c])):=by
 refine vreq_t (S.cw 1 rfl (by decide) rfl rfl) ?_;have S2:Know h0 (x.wr bz 0 [.int .i64 k,.int .i64 n,.string t,.slice a m c]) (clo own (fun y=>VA y r.1 [.int .i64 k,.int .i64 n,.string t,.slice a m c])::ob bz (.cells [.int .i64 k,.int .i64 n,.string t,.slice a m c] 46 .fix)::L.set i (M lf)):=S.wr 1 rfl (by decide) rfl rfl;exact⟨_,_,_,_,_,_,S2.rd 1 rfl rfl rfl,[.int .i64 k,.int .i64 n,.string t,.slice a m c],lf,own,rfl,he,S2.sub _ (.cons_cons _ (List.sublist_cons_self ..))⟩
theorem rdL_shape {f:Int→Int→Rdd}(fs:List Int)(left:Int):rdL f fs left=if (rdL f fs left).2.2≠0 then ([],(rdL f fs left).2.1,(rdL f fs left).2.2)else ((rdL f fs left).1,(rdL f fs left).2.1,0):=by
 cases fs with
 |nil=>rfl
 |cons w r=>
  rw[rdL];by_cases h1:(f w left).2.2≠0
  · rw[if_pos h1,if_pos h1]
  · rw[if_neg h1];by_cases h2:(rdL f r (f w left).2.1).2.2≠0
    · rw[if_pos h2,if_pos h2]
    · rw[if_neg h2,if_neg (by simp)]
theorem rdP_err {f:Int→Int→Rdd}{kk:Int}{fs:List Int}{left:Int}(h:(rdL f fs left).2.2≠0):rdP f kk fs left=(zV,(rdL f fs left).2.1,(rdL f fs left).2.2):=by unfold rdP;rw[if_pos h]
section
variable {O:CallF}(hO:Oth O)
include hO
theorem ct135 {hv h0:Hp}(Fv:Ft hv h0){f:Int→Int→Rdd}{kk dp:Int}{d:Int}{b:Nat}{M:Int→Rs}{fs:List Int}(lfs:fs.length≤20)(hk:kk=4∨kk=5)(hd:0≤d∧d≤7)(hdp: -100≤dp∧dp<100)
 (good: ∀w∈fs,∀left,0≤left→Good d left (f w left))
 (ih: ∀w∈fs,∀ {h:Hp} {L:List Rs} {i:Nat} (left:Int),0≤left→left≤200→Know h0 h (L.set i (M left))→i<L.length→Ret Tryz.prog O 101 [.pointer (some ⟨b,0,none⟩),.int .i64 w,.int .i64 (dp+1)] h (QRd h0 L i M (f w left)))
 {h:Hp} {L:List Rs} {i:Nat} (left:Int) (l0:0≤left) (l2:left≤200) (S:Know h0 h (L.set i (M left))) (li:i<L.length) {a2:Option Addr} {n2 c2:Nat} (X:SI hv a2 n2 c2 fs):
 Ret Tryz.prog O 135 [.pointer (some ⟨b,0,none⟩),.int .i64 kk,.slice a2 n2 c2,.int .i64 dp] h (QRd h0 L i M (rdP f kk fs left)):=by
 have hn2:=X.at_.1;subst hn2;refine rk135 (hO:=hO _ _ _ (by decide)) (hh:= ?_) ..;unfold T135;intro g1 g2;have S1:Know h0 g1 (_::L.set i (M left)):=S.add _;have S2:Know h0 g2 (_::ob h.nx (.cells [.int .i64 0,.int .i64 0,.string (ByteArray.mk #[]),.slice none 0 0] 46 .fix)::L.set i (M left)):=S1.add _;refine vreq_t (S2.cw 0 rfl (by decide) rfl rfl) ?_;intro g3;have S3:Know h0 g3 (ob g1.nx (.cells [.int .i64 kk,.int .i64 0,.string (ByteArray.mk #[]),.slice none 0 0] 46 .fix)::ob h.nx (.cells [.int .i64 0,.int .i64 0,.string (ByteArray.mk #[]),.slice none 0 0] 46 .fix)::L.set i (M left)):=S2.wr 0 rfl (by decide) rfl rfl;have S4:=S3.push (r':=clo (fun _=>False) (fun y=>VAs y [] [])) (Kp.refl _ _) (clo.loc _ _) (fun _ _ _=>⟨rfl,fun i hi=>absurd hi (Nat.not_lt_zero _)⟩) fun _ h=>h.elim;have S5:=S4.accNil h0.nx 46 4;have es: ∀q,q<fs.length→fs.drop q=fs.getD q 0::fs.drop (q+1):=fun q hq=>by rw[List.drop_eq_getElem_cons hq];simp[List.getD,List.getElem?_eq_getElem hq]
 have tail: ∀(ps:List Vl) (xs:List Value) (lf:Int) (own:Nat→Prop) (a:Option Addr) (n c:Nat) (g4:Hp),n=ps.length→ps.length≤20→rdL f fs left=(ps,lf,0)→
  Know h0 g4 (acc h0.nx 46 4 a n c xs::clo own (fun y=>VAs y xs ps)::ob g1.nx (.cells [.int .i64 kk,.int .i64 0,.string (ByteArray.mk #[]),.slice a n c] 46 .fix)::ob h.nx (.cells [.int .i64 0,.int .i64 0,.string (ByteArray.mk #[]),.slice none 0 0] 46 .fix)::L.set i (M lf))→
  I135_1 O (QRd h0 L i M (rdP f kk fs left)) b 0 kk a2 fs.length c2 dp h.nx 0 0 g1.nx 0 (Int.ofNat n) 0 g4:=by
  intro ps xs lf own a n c g4 hn lps hr S;subst hn;have hgood:=rdL_good fs left l0 good (by rw[hr]);rw[hr]at hgood;simp only at hgood;have hval: ∀p∈ps,validF p=true∧Nice p:=by
   intro p hp;obtain⟨q,hq,rfl⟩:=List.getElem_of_mem hp;have hw:=hgood.2.2.1;have h4:=hgood.2.2.2;obtain⟨_,e2⟩:=weighL_ok ps left d (by omega) (by omega);obtain⟨l',q1,q2,q3⟩:=e2 _ (List.getElem_mem hq);obtain⟨s1,s2⟩:=hgood.2.1 _ (List.getElem_mem hq);have hm:=weigh_mono ps[q] l' d 200 8 (by omega) (by omega) (by omega) q3;refine⟨?_,⟨l',d,by omega,by omega,q3⟩,s2⟩;unfold validF fitsF;rw[s1,lt_f (by omega)];rfl
  have fin: ∀(g5:Hp) {x47:Int},rdP f kk fs left=(.mk kk 0 eS ps,lf,0)→Know h0 g5 (acc h0.nx 46 4 a ps.length c xs::clo own (fun y=>VAs y xs ps)::ob g1.nx (.cells [.int .i64 kk,.int .i64 0,.string (ByteArray.mk #[]),.slice a ps.length c] 46 .fix)::ob h.nx (.cells [.int .i64 0,.int .i64 0,.string (ByteArray.mk #[]),.slice none 0 0] 46 .fix)::L.set i (M lf))→
   (∃x244' x245' s246' a247' n248' c249',readAt g5 g1.nx 0 4=some [.int .i64 x244',.int .i64 x245',.string s246',.slice a247' n248' c249']∧
     vreq (canW g5 h.nx 0 [.int .i64 x244',.int .i64 x245',.string s246',.slice a247' n248' c249']) (∃x251' x252' s253' a254' n255' c256',readAt (g5.wr h.nx 0 [.int .i64 x244',.int .i64 x245',.string s246',.slice a247' n248' c249']) h.nx 0 4=some [.int .i64 x251',.int .i64 x252',.string s253',.slice a254' n255' c256']∧
      QRd h0 L i M (rdP f kk fs left) (.tuple #[.agg #[.int .i64 x251',.int .i64 x252',.string s253',.slice a254' n255' c256'],.int .i64 0]) (g5.wr h.nx 0 [.int .i64 x244',.int .i64 x245',.string s246',.slice a247' n248' c249']))):=by
   intro g5 x47 hrp S;refine⟨_,_,_,_,_,_,S.rd 2 rfl rfl rfl,?_⟩;have S6:Know h0 g5 (clo (fun o=>(acc h0.nx 46 4 a ps.length c xs).own o∨(clo own (fun y=>VAs y xs ps)).own o) (fun y=>VA y (.mk kk 0 eS ps) [.int .i64 kk,.int .i64 0,.string eS,.slice a ps.length c])::_::ob h.nx (.cells [.int .i64 0,.int .i64 0,.string (ByteArray.mk #[]),.slice none 0 0] 46 .fix)::L.set i (M lf)):=S.merge (fun y=>VA y (.mk kk 0 eS ps) [.int .i64 kk,.int .i64 0,.string eS,.slice a ps.length c]) fun y A N=>by
    have N:VAs y xs ps:=clo.get N;have A:AccE y h0.nx 46 4 a ps.length c xs:=A;rcases A with (⟨e1,e2,e3,e4⟩|⟨o,rfl,e2,e3,e4,e5,e6⟩)|⟨e1,e2,e3,o,rfl,e5,e6,e7,m,e8⟩
    · have:ps=[]:=List.length_eq_zero_iff.1 e2;subst this e1 e3;exact .nil kk 0 eS 0
    · exact .at_ kk 0 eS ps o 0 c xs 46 .grow e5 e6 (by rw[N.1];omega) fun q hq=>by rw[Nat.zero_add];exact N.2 q hq
    · have:ps=[]:=List.length_eq_zero_iff.1 e2;subst this;exact .at_ kk 0 eS [] o 0 c [] _ m e6 e8 (by simp) fun q hq=>absurd hq (Nat.not_lt_zero _)
   have S7:=S6.sub _ (.cons_cons _ (.cons _ (.refl _)));have:=rcopy (r:=(.mk kk 0 eS ps,lf,0)) S7 (fun _=>rfl);rw[hrp];exact this
  rcases hk with rfl|rfl
  · have hrp:rdP f 4 fs left=(.mk 4 0 eS ps,lf,0):=by unfold rdP;rw[hr];simp
    have go: ∀(e q:Nat),q+e=ps.length→ ∀g5,Know h0 g5 (acc h0.nx 46 4 a ps.length c xs::clo own (fun y=>VAs y xs ps)::ob g1.nx (.cells [.int .i64 4,.int .i64 0,.string (ByteArray.mk #[]),.slice a ps.length c] 46 .fix)::ob h.nx (.cells [.int .i64 0,.int .i64 0,.string (ByteArray.mk #[]),.slice none 0 0] 46 .fix)::L.set i (M lf))→I135_1 O (QRd h0 L i M (rdP f 4 fs left)) b 0 4 a2 fs.length c2 dp h.nx 0 0 g1.nx 0 (Int.ofNat ps.length) (Int.ofNat q) g5:=by
     intro e
     induction e with
     |zero=>
      intro q hq g5 S;refine I135_1.of (hh:= ?_) ..;unfold T135_1;exact vcond_f (by rw[ltI_nat];exact blt_f (by omega)) (fin g5 (x47:=0) hrp S)
     |succ e ihe=>
      intro q hq g5 S;refine I135_1.of (hh:= ?_) ..;unfold T135_1;rw[wrap_succ (by omega)];exact vcond_t (by rw[ltI_nat];exact blt_t (by omega)) (vcond_t rfl (ihe (q+1) (by omega) g5 S))
    exact go ps.length 0 (by omega) g4 S
  · have hrp:rdP f 5 fs left=if incF ps=false then (zV,lf,7)else (.mk 5 0 eS ps,lf,0):=by unfold rdP;rw[hr];simp
    have go: ∀(e q:Nat),q+1+e=max 1 ps.length→(incF ps=incF (ps.drop q))→ ∀g5,Know h0 g5 (acc h0.nx 46 4 a ps.length c xs::clo own (fun y=>VAs y xs ps)::ob g1.nx (.cells [.int .i64 5,.int .i64 0,.string (ByteArray.mk #[]),.slice a ps.length c] 46 .fix)::ob h.nx (.cells [.int .i64 0,.int .i64 0,.string (ByteArray.mk #[]),.slice none 0 0] 46 .fix)::L.set i (M lf))→I135_1 O (QRd h0 L i M (rdP f 5 fs left)) b 0 5 a2 fs.length c2 dp h.nx 0 0 g1.nx 0 (Int.ofNat ps.length) (Int.ofNat (q+1)) g5:=by
     intro e
     induction e with
     |zero=>
      intro q hq hinc g5 S;refine I135_1.of (hh:= ?_) ..;unfold T135_1;have e:incF (ps.drop q)=true:=by
       match hd:ps.drop q with
       | []=>rfl
       | [_]=>rfl
       |_::_::_=>
        have:=congrArg List.length hd;simp only[List.length_drop,List.length_cons]at this;omega
      exact vcond_f (by rw[ltI_nat];exact blt_f (by omega)) (fin g5 (x47:=0) (by rw[hrp,hinc,e];rfl) S)
     |succ e ihe=>
      intro q hq hinc g5 S;have i1:q+1<ps.length:=by omega
      have i0:q<ps.length:=by omega
      refine I135_1.of (hh:= ?_) ..;unfold T135_1;refine vcond_t (by rw[ltI_nat];exact blt_t i1) (vcond_f rfl (vcond_f (eqI_f (by simp only[Int.ofNat_eq_natCast];omega)) ?_));intro g201;have S:Know h0 g201 (acc h0.nx 46 4 a ps.length c xs::clo own (fun y=>VAs y xs ps)::ob g1.nx (.cells [.int .i64 5,.int .i64 0,.string (ByteArray.mk #[]),.slice a ps.length c] 46 .fix)::ob h.nx (.cells [.int .i64 0,.int .i64 0,.string (ByteArray.mk #[]),.slice none 0 0] 46 .fix)::L.set i (M lf)):=S.rsv 17;have N:VAs g201 xs ps:=clo.get (S.get 1 rfl);have A:AccE g201 h0.nx 46 4 a ps.length c xs:=S.get 0 rfl;obtain⟨o,ea,hgo⟩: ∃o,a=some ⟨o,0,none⟩∧g201.get o=some (.cells xs 46 .grow):=by
       rcases A with (⟨e1,e2,e3,e4⟩|⟨o,h1,_,_,_,_,h2⟩)|⟨e1,e2,_⟩
       · omega
       · exact⟨o,h1,h2⟩
       · omega
      have r0:readAt g201 o (0+q*4) 4=some ((xs.drop (0+q*4)).take 4):=readAt_get hgo (by rw[N.1];omega);have r1:readAt g201 o (0+(q+1)*4) 4=some ((xs.drop (0+(q+1)*4)).take 4):=readAt_get hgo (by rw[N.1];omega);have v0:=N.2 q i0;have v1:=N.2 (q+1) i1;rw[Nat.zero_add]at r0 r1;obtain⟨z0,n0⟩:=hval _ (List.getElem_mem i0);obtain⟨z1,n1⟩:=hval _ (List.getElem_mem i1);have c148:=ct148 hO ps[q] ps[q+1] v0 v1 n0 n1 (g:=g201.grd []) (inferInstanceAs (Ft g201 g201)) S.ok;rw[z0,z1]at c148;simp only[Bool.and_self,cond_true]at c148;generalize (xs.drop (q*4)).take 4=ws at r0 v0 c148;generalize (xs.drop ((q+1)*4)).take 4=us at r1 v1 c148;obtain⟨_,_,_,_,_,_,rfl⟩:=v0.form;obtain⟨_,_,_,_,_,_,rfl⟩:=v1.form;have ew:wrapF .i64 (Int.ofNat (q+1)-1)=Int.ofNat q:=by
       simp only[Int.ofNat_eq_natCast];rw[wrap64 (by omega) (by omega)];omega
      rw[ew];refine⟨_,_,_,S.rd 2 rfl rfl rfl,isNat_i ?_⟩;rw[ea];refine(show isAddr (some ⟨o,0,none⟩) _ from vreq_t (blt_t i0) ⟨_,_,_,_,_,_,by rw[Nat.zero_add];exact r0,_,_,_,(ea▸S).rd 2 rfl rfl rfl,isNat_i (show isAddr (some ⟨o,0,none⟩) _ from vreq_t (blt_t i1) ⟨_,_,_,_,_,_,by rw[Nat.zero_add];exact r1,?_⟩)⟩);obtain⟨r,h228,e228,rfl,K228⟩:=c148;refine⟨_,_,_,e228,?_⟩;intro g229;have S:Know h0 g229 (acc h0.nx 46 4 a ps.length c xs::clo own (fun y=>VAs y xs ps)::ob g1.nx (.cells [.int .i64 5,.int .i64 0,.string (ByteArray.mk #[]),.slice a ps.length c] 46 .fix)::ob h.nx (.cells [.int .i64 0,.int .i64 0,.string (ByteArray.mk #[]),.slice none 0 0] 46 .fix)::L.set i (M lf)):=S.callg K228;have hinc2:incF (ps.drop q)=(ltI (cmpF ps[q] ps[q+1]) 0&&incF (ps.drop (q+1))):=by
       rw[List.drop_eq_getElem_cons i0,List.drop_eq_getElem_cons i1,incF]
      refine vcond_f rfl ?_;cases hlt:ltI (cmpF ps[q] ps[q+1]) 0 with
      |false=>
       have S8:=S.sub (ob h.nx (.cells [.int .i64 0,.int .i64 0,.string (ByteArray.mk #[]),.slice none 0 0] 46 .fix)::L.set i (M lf)) ((List.sublist_cons_self ..).trans ((List.sublist_cons_self ..).trans (List.sublist_cons_self ..)));have:=rleaf S8 0 0 eS lf 7 (fun e=>by cases e);refine vcond_t rfl ?_;rw[hrp,hinc,hinc2,hlt,Bool.false_and,if_pos rfl];exact this
      |true=>
       refine vcond_f rfl ?_;rw[wrap_succ (by omega)];exact ihe (q+1) (by omega) (by rw[hinc,hinc2,hlt,Bool.true_and]) g229 S
    by_cases h00:ps.length=0
    · refine I135_1.of (hh:= ?_) ..;unfold T135_1;have:ps=[]:=List.length_eq_zero_iff.1 h00;exact vcond_f (by rw[h00];rfl) (fin g4 (x47:=0) (by rw[hrp,this];rfl) S)
    · refine I135_1.of (hh:= ?_) ..;unfold T135_1;refine vcond_t (by show ltI (Int.ofNat 0) _=true;rw[ltI_nat];exact blt_t (by omega)) (vcond_f rfl (vcond_t rfl ?_));exact go (max 1 ps.length-1) 0 (by omega) rfl g4 S
 have go: ∀(e q:Nat),q+e=fs.length→ ∀(ps:List Vl) (xs:List Value) (lf:Int) (own:Nat→Prop) (a:Option Addr) (n c:Nat) (g4:Hp),n=q→ps.length=q→0≤lf→lf≤200→(rdL f fs left=if (rdL f (fs.drop q) lf).2.2≠0 then ([],(rdL f (fs.drop q) lf).2.1,(rdL f (fs.drop q) lf).2.2)else (ps++(rdL f (fs.drop q) lf).1,(rdL f (fs.drop q) lf).2.1,0))→
  Know h0 g4 (acc h0.nx 46 4 a n c xs::clo own (fun y=>VAs y xs ps)::ob g1.nx (.cells [.int .i64 kk,.int .i64 0,.string (ByteArray.mk #[]),.slice a n c] 46 .fix)::ob h.nx (.cells [.int .i64 0,.int .i64 0,.string (ByteArray.mk #[]),.slice none 0 0] 46 .fix)::L.set i (M lf))→
  I135_0 O (QRd h0 L i M (rdP f kk fs left)) b 0 kk a2 fs.length c2 dp h.nx 0 0 g1.nx 0 (Int.ofNat q) g4:=by
  intro e
  induction e with
  |zero=>
   intro q hq ps xs lf own a n c g4 hn hps l0' l2' hr S;refine I135_0.of (hh:= ?_) ..;unfold T135_0;rw[List.drop_of_length_le (by omega)]at hr;have hr:rdL f fs left=(ps,lf,0):=by rw[hr];simp[rdL]
   exact vcond_f (by rw[ltI_nat];exact blt_f (by omega)) ⟨_,_,_,S.rd 2 rfl rfl rfl,tail ps xs lf own a n c g4 (by omega) (by omega) hr S⟩
  |succ e ihe=>
   intro q hq ps xs lf own a n c g4 hn hps l0' l2' hr S;have q1:q<fs.length:=by omega
   have hw:=List.getElem_mem q1;refine I135_0.of (hh:= ?_) ..;unfold T135_0;haveI:Ft hv g4:=Fv.tr S.ft;obtain⟨r,h112,e112,vs,lf',own2,rfl,hlf,S'⟩:= @ih fs[q] hw g4 (_::_::_::_::L) (i+4) lf l0' l2' S (by simp only[List.length_cons];omega);refine vcond_t (by rw[ltI_nat];exact blt_t q1) (isNat_i (X.at_.rd q1 ?_));rw[wrap64 (n:=dp+1) (by omega) (by omega)];have S':Know h0 h112 (clo own2 (fun x=>VA x (f fs[q] lf).1 vs)::acc h0.nx 46 4 a n c xs::clo own (fun y=>VAs y xs ps)::ob g1.nx (.cells [.int .i64 kk,.int .i64 0,.string (ByteArray.mk #[]),.slice a n c] 46 .fix)::ob h.nx (.cells [.int .i64 0,.int .i64 0,.string (ByteArray.mk #[]),.slice none 0 0] 46 .fix)::L.set i (M lf')):=S';have hva:VA h112 (f fs[q] lf).1 vs:=clo.get (S'.get 0 rfl);obtain⟨v1,v2,v3,v4,v5,v6,rfl⟩:=hva.form;refine⟨_,_,_,_,_,_,_,_,e112,?_⟩;intro g113;have S:Know h0 g113 (_::_::_::_::_::_::L.set i (M lf')):=S'.add _;refine vreq_t (S.cw 0 rfl (by decide) rfl rfl) ?_;intro g114;have S:Know h0 g114 (ob h112.nx (.cells [.int .i64 v1,.int .i64 v2,.string v3,.slice v4 v5 v6] 46 .fix)::clo own2 (fun x=>VA x (f fs[q] lf).1 [.int .i64 v1,.int .i64 v2,.string v3,.slice v4 v5 v6])::acc h0.nx 46 4 a n c xs::clo own (fun y=>VAs y xs ps)::ob g1.nx (.cells [.int .i64 kk,.int .i64 0,.string (ByteArray.mk #[]),.slice a n c] 46 .fix)::ob h.nx (.cells [.int .i64 0,.int .i64 0,.string (ByteArray.mk #[]),.slice none 0 0] 46 .fix)::L.set i (M lf')):=S.wr 0 rfl (by decide) rfl rfl;have hdr:rdL f (fs.drop q) lf=if (f fs[q] lf).2.2≠0 then ([],(f fs[q] lf).2.1,(f fs[q] lf).2.2)else
    if (rdL f (fs.drop (q+1)) (f fs[q] lf).2.1).2.2≠0 then ([],(rdL f (fs.drop (q+1)) (f fs[q] lf).2.1).2.1,(rdL f (fs.drop (q+1)) (f fs[q] lf).2.1).2.2)
    else ((f fs[q] lf).1::(rdL f (fs.drop (q+1)) (f fs[q] lf).2.1).1,(rdL f (fs.drop (q+1)) (f fs[q] lf).2.1).2.1,0):=by rw[List.drop_eq_getElem_cons q1,rdL]
   by_cases he:(f fs[q] lf).2.2=0
   · rw[if_neg (by omega)]at hdr;have hlf:=hlf he;have gd:=good fs[q] hw lf l0' he;have ub:=(weighF_le (f fs[q] lf).1 lf d (by omega)).2 l0';refine vcond_f (by rw[eqI_t he];rfl) ⟨_,_,_,S.rd 4 rfl rfl rfl,_,_,_,_,_,_,S.rd 0 rfl rfl rfl,?_⟩;intro g131;have S:Know h0 g131 (ob g114.nx (.cells [.int .i64 v1,.int .i64 v2,.string v3,.slice v4 v5 v6] 46 .fix)::_::_::_::_::_::_::L.set i (M lf')):=S.add _;obtain⟨a',n',c',h135,e135,hn',S⟩:=S.app 3 rfl (Nat.le_refl _) S.lo app44 ⟨_,_,_,rfl⟩ (src_get (n:=1) (c:=1) (esz:=4) (off:=0) (S.rd 0 rfl (r:=[.int .i64 v1,.int .i64 v2,.string v3,.slice v4 v5 v6]) rfl rfl)) rfl rfl (by omega) (by unfold big;omega);refine⟨_,_,_,_,e135,?_⟩;have S:Know h0 h135 (_::_::clo own2 (fun x=>VA x (f fs[q] lf).1 [.int .i64 v1,.int .i64 v2,.string v3,.slice v4 v5 v6])::acc h0.nx 46 4 a' n' c' (xs++[.int .i64 v1,.int .i64 v2,.string v3,.slice v4 v5 v6])::clo own (fun y=>VAs y xs ps)::ob g1.nx (.cells [.int .i64 kk,.int .i64 0,.string (ByteArray.mk #[]),.slice a n c] 46 .fix)::ob h.nx (.cells [.int .i64 0,.int .i64 0,.string (ByteArray.mk #[]),.slice none 0 0] 46 .fix)::L.set i (M lf')):=S;refine vreq_t (S.cw 5 rfl (by decide) rfl rfl) ?_;intro g136;have S:Know h0 g136 (_::_::clo own2 (fun x=>VA x (f fs[q] lf).1 [.int .i64 v1,.int .i64 v2,.string v3,.slice v4 v5 v6])::acc h0.nx 46 4 a' n' c' (xs++[.int .i64 v1,.int .i64 v2,.string v3,.slice v4 v5 v6])::clo own (fun y=>VAs y xs ps)::ob g1.nx (.cells [.int .i64 kk,.int .i64 0,.string (ByteArray.mk #[]),.slice a' n' c'] 46 .fix)::ob h.nx (.cells [.int .i64 0,.int .i64 0,.string (ByteArray.mk #[]),.slice none 0 0] 46 .fix)::L.set i (M lf')):=S.wr 5 rfl (by decide) rfl rfl;have S:Know h0 g136 (clo own2 (fun x=>VA x (f fs[q] lf).1 [.int .i64 v1,.int .i64 v2,.string v3,.slice v4 v5 v6])::acc h0.nx 46 4 a' n' c' (xs++[.int .i64 v1,.int .i64 v2,.string v3,.slice v4 v5 v6])::clo own (fun y=>VAs y xs ps)::ob g1.nx (.cells [.int .i64 kk,.int .i64 0,.string (ByteArray.mk #[]),.slice a' n' c'] 46 .fix)::ob h.nx (.cells [.int .i64 0,.int .i64 0,.string (ByteArray.mk #[]),.slice none 0 0] 46 .fix)::L.set i (M lf')):=S.sub _ ((List.sublist_cons_self ..).trans (List.sublist_cons_self ..));have S:Know h0 g136 (clo own2 (fun x=>VA x (f fs[q] lf).1 [.int .i64 v1,.int .i64 v2,.string v3,.slice v4 v5 v6])::clo own (fun y=>VAs y xs ps)::acc h0.nx 46 4 a' n' c' (xs++[.int .i64 v1,.int .i64 v2,.string v3,.slice v4 v5 v6])::ob g1.nx (.cells [.int .i64 kk,.int .i64 0,.string (ByteArray.mk #[]),.slice a' n' c'] 46 .fix)::ob h.nx (.cells [.int .i64 0,.int .i64 0,.string (ByteArray.mk #[]),.slice none 0 0] 46 .fix)::L.set i (M lf')):=⟨S.ok,S.kp,fun r hr=>S.at_ r (by simp only[List.mem_cons]at hr ⊢; rcases hr with h|h|h|h<;>simp[h]),(List.Perm.pairwise_iff (fun {a b} hab x hb ha=>hab x ha hb) (.cons _ (.swap _ _ _))).1 S.dis,S.ok0⟩;have S:=S.merge (fun y=>VAs y (xs++[.int .i64 v1,.int .i64 v2,.string v3,.slice v4 v5 v6]) (ps++[(f fs[q] lf).1])) fun y N A=>(clo.get A).snoc (clo.get N) rfl;have S:Know h0 g136 (acc h0.nx 46 4 a' n' c' (xs++[.int .i64 v1,.int .i64 v2,.string v3,.slice v4 v5 v6])::clo (fun o=>own2 o∨own o) (fun y=>VAs y (xs++[.int .i64 v1,.int .i64 v2,.string v3,.slice v4 v5 v6]) (ps++[(f fs[q] lf).1]))::ob g1.nx (.cells [.int .i64 kk,.int .i64 0,.string (ByteArray.mk #[]),.slice a' n' c'] 46 .fix)::ob h.nx (.cells [.int .i64 0,.int .i64 0,.string (ByteArray.mk #[]),.slice none 0 0] 46 .fix)::L.set i (M lf')):=⟨S.ok,S.kp,fun r hr=>S.at_ r (by simp only[List.mem_cons]at hr ⊢; rcases hr with h|h|h<;>simp[h];exact .inl rfl),(List.Perm.pairwise_iff (fun {a b} hab x hb ha=>hab x ha hb) (.swap _ _ _)).1 S.dis,S.ok0⟩;rw[wrap_succ (by omega)];refine ihe (q+1) (by omega) (ps++[(f fs[q] lf).1]) _ lf' _ a' n' c' g136 (by omega) (by rw[List.length_append,hps];rfl) (by omega) (by omega) ?_ S;rw[hr,hdr,hlf];by_cases h3:(rdL f (fs.drop (q+1)) (f fs[q] lf).2.1).2.2≠0
     · rw[if_pos h3,if_pos h3];simp only[if_pos h3]
     · rw[if_neg h3,if_neg h3];simp
   · rw[if_pos he]at hdr;refine vcond_t (by rw[eqI_f he];rfl) ?_;have hr2:rdL f fs left=([],(f fs[q] lf).2.1,(f fs[q] lf).2.2):=by rw[hr,hdr,if_pos he]
     have S8:=S.sub (ob h.nx (.cells [.int .i64 0,.int .i64 0,.string (ByteArray.mk #[]),.slice none 0 0] 46 .fix)::L.set i (M lf')) (.cons _ (.cons _ (.cons _ (.cons _ (.cons _ (.refl _))))));have:=rleaf S8 0 0 eS (f fs[q] lf).2.1 (f fs[q] lf).2.2 (fun e=>absurd e he);rw[rdP_err (by rw[hr2];exact he),hr2];exact this
 exact go fs.length 0 (by omega) [] [] left (fun _=>False) none 0 0 g3 rfl rfl l0 l2 (by rw[List.drop_zero,List.nil_append];exact rdL_shape fs left) S5
end
def ro (b:Nat)(aw:Option Addr)(nw cw:Nat)(tp:Int)(ar:Option Addr)(nr cr:Nat)(lf:Int):Rs:=ob b (.cells [.slice aw nw cw,.int .i64 tp,.slice ar nr cr,.int .i64 lf] 141 .fix)
theorem fieldsW_mem {W:List Int}{p:Nat}{x:Int}(h:x∈fieldsW W p):x∈W:=List.mem_of_mem_drop (List.mem_of_mem_take h)
theorem app85:AppT Tryz.prog 85 5 1 1:=⟨Tryz.underlying85,by kernel_rfl⟩
abbrev u8s (bs:List UInt8):List Value:=bs.map fun b=> .int .u8 (Int.ofNat b.toNat)
theorem bytesOf_u8s: ∀(bs:List UInt8),bytesOf (u8s bs)=some bs
 | []=>rfl
 |b::r=>by
  show(bif Nat.blt b.toNat 256 then (bytesOf (u8s r)).map (UInt8.ofNat b.toNat:: ·)else none)=_;rw[blt_t b.toNat_lt,bytesOf_u8s r];simp
theorem acc_bytes {g:Hp}{lo:Nat}{a:Option Addr}{n c:Nat}{bs:List UInt8}(A:AccE g lo 5 1 a n c (u8s bs)):bytesV g a n=some bs:=by
 rcases A with (⟨rfl,e2,e3,e4⟩|⟨o,rfl,e2,e3,e4,e5,e6⟩)|⟨e1,rfl,e3,o,rfl,e5,e6,e7,m,e8⟩
 · have:bs=[]:=List.map_eq_nil_iff.1 e4;subst this;rfl
 · show(readAt g o 0 n).bind bytesOf=_;rw[readAt_get e6 (by omega),List.drop_zero,List.take_of_length_le (by omega)];exact bytesOf_u8s bs
 · have:bs=[]:=List.map_eq_nil_iff.1 e1;subst this;show(readAt g o 0 0).bind bytesOf=_;rw[readAt_get e8 (by simp)];rfl
theorem rdT_take {fs:List Int}{q:Nat}(h:q<fs.length):(fs.take (q+1)).map (fun x=>UInt8.ofNat x.toNat)=(fs.take q).map (fun x=>UInt8.ofNat x.toNat)++[UInt8.ofNat fs[q].toNat]:=by
 rw[List.take_succ_eq_append_getElem h,List.map_append];rfl
section
variable {O:CallF}(hO:Oth O)
include hO
theorem ct101 {hv h0:Hp}(Fv:Ft hv h0){aw:Option Addr}{nw cw:Nat}{W:List Int}(HW:SI hv aw nw cw W)(hW: ∀x∈W,In64 x){l:List Nat}(k:Wk W l){b:Nat}{tp:Int}{ar:Option Addr}{nr cr:Nat}:
 ∀(d:Nat),d≤8→ ∀ {h:Hp} {L:List Rs} {i:Nat} (w left:Int),wordR l w=true→In64 w→0≤left→left≤200→Know h0 h (L.set i (ro b aw nw cw tp ar nr cr left))→i<L.length→
 Ret Tryz.prog O 101 [.pointer (some ⟨b,0,none⟩),.int .i64 w,.int .i64 (9-(d:Int))] h (QRd h0 L i (ro b aw nw cw tp ar nr cr) (rdF W d w left)):=by
 intro d
 induction d with
 |zero=>
  intro _ h L i w left hw h64 l0 l2 S li;refine rk101 (hO:=hO _ _ _ (by decide)) (hh:= ?_) ..;unfold T101;intro g1;have S:Know h0 g1 (ob h.nx (.cells [.int .i64 0,.int .i64 0,.string (ByteArray.mk #[]),.slice none 0 0] 46 .fix)::L.set i (ro b aw nw cw tp ar nr cr left)):=S.add _;have hi:(ob h.nx (.cells [.int .i64 0,.int .i64 0,.string (ByteArray.mk #[]),.slice none 0 0] 46 .fix)::L.set i (ro b aw nw cw tp ar nr cr left))[i+1]? =some (ro b aw nw cw tp ar nr cr left):=List.getElem?_set_self li;refine⟨_,S.rd (i+1) hi rfl rfl,?_⟩;rw[wrap64 (n:=left-1) (by omega) (by omega)];refine vreq_t (S.cw (i+1) hi (by decide) rfl rfl) ?_;intro g3;have S3:Know h0 g3 (ob h.nx (.cells [.int .i64 0,.int .i64 0,.string (ByteArray.mk #[]),.slice none 0 0] 46 .fix)::(L.set i (ro b aw nw cw tp ar nr cr left)).set i (ro b aw nw cw tp ar nr cr (left-1))):=S.wr (i+1) hi (by decide) rfl rfl;rw[List.set_set]at S3;have hi3:(ob h.nx (.cells [.int .i64 0,.int .i64 0,.string (ByteArray.mk #[]),.slice none 0 0] 46 .fix)::L.set i (ro b aw nw cw tp ar nr cr (left-1)))[i+1]? =some (ro b aw nw cw tp ar nr cr (left-1)):=List.getElem?_set_self li;refine⟨_,S3.rd (i+1) hi3 rfl rfl,?_⟩;have:=rleaf S3 0 0 eS (left-1) 3 (fun e=>by cases e);exact vcond_split (fun _=>this) fun _=>vcond_t rfl this
 |succ d ih=>
  intro hd h L i w left hw h64 l0 l2 S li;refine rk101 (hO:=hO _ _ _ (by decide)) (hh:= ?_) ..;unfold T101;intro g1;have S:Know h0 g1 (ob h.nx (.cells [.int .i64 0,.int .i64 0,.string (ByteArray.mk #[]),.slice none 0 0] 46 .fix)::L.set i (ro b aw nw cw tp ar nr cr left)):=S.add _;have hi:(ob h.nx (.cells [.int .i64 0,.int .i64 0,.string (ByteArray.mk #[]),.slice none 0 0] 46 .fix)::L.set i (ro b aw nw cw tp ar nr cr left))[i+1]? =some (ro b aw nw cw tp ar nr cr left):=List.getElem?_set_self li;refine⟨_,S.rd (i+1) hi rfl rfl,?_⟩;rw[wrap64 (n:=left-1) (by omega) (by omega)];refine vreq_t (S.cw (i+1) hi (by decide) rfl rfl) ?_;intro g3;have S3:Know h0 g3 (ob h.nx (.cells [.int .i64 0,.int .i64 0,.string (ByteArray.mk #[]),.slice none 0 0] 46 .fix)::(L.set i (ro b aw nw cw tp ar nr cr left)).set i (ro b aw nw cw tp ar nr cr (left-1))):=S.wr (i+1) hi (by decide) rfl rfl;rw[List.set_set]at S3;have hi3:(ob h.nx (.cells [.int .i64 0,.int .i64 0,.string (ByteArray.mk #[]),.slice none 0 0] 46 .fix)::L.set i (ro b aw nw cw tp ar nr cr (left-1)))[i+1]? =some (ro b aw nw cw tp ar nr cr (left-1)):=List.getElem?_set_self li;refine⟨_,S3.rd (i+1) hi3 rfl rfl,?_⟩;have leaf:=fun(k n:Int) (t:ByteArray) (e:Int)=>rleaf S3 k n t (left-1) e (fun _=>rfl);unfold rdF;by_cases c1:left<1
  · rw[if_pos c1];exact vcond_t (lt_t (by omega)) (leaf 0 0 eS 3)
  rw[if_neg c1];refine vcond_f (lt_f (by omega)) (vcond_f (lt_f (by omega)) ?_);by_cases c2:Int.tmod w 2≠0
  · rw[if_pos c2];have e1:wrapF .i64 (w-1)=w-1:=by
     have hw':=hw;unfold wordR at hw';have c0:w≠0:=fun h=>by subst h;exact c2 rfl
     rw[if_neg c0,if_pos c2,Bool.and_eq_true,decide_eq_true_eq,decide_eq_true_eq]at hw';exact wrap64 (by omega) (by omega)
    have e2:wrapF .i64 (Int.tdiv (w-1) 2)=Int.tdiv (w-1) 2:=by
     have h1:=h64.1;have h2:=h64.2;refine wrap64 ?_ ?_<;>(rw[tdiv_eq];split<;>omega)
    rw[e1,e2];exact vcond_t (by rw[eqI_f c2];rfl) (leaf 1 _ eS 0)
  rw[if_neg c2];refine vcond_f (by rw[eqI_t (by simpa using c2)];rfl) ?_;by_cases c3:w=0
  · rw[if_pos c3];exact vcond_t (eqI_t c3) (leaf 0 0 eS 7)
  rw[if_neg c3];refine vcond_f (eqI_f c3) ⟨_,_,_,S3.rd (i+1) hi3 rfl rfl,?_⟩;obtain⟨p,hp,_,ep,ep2⟩:=wordR_even hw c2 c3;rw[ep];obtain⟨q1,q2,q3,q4⟩:=k.at_ p hp;have k200:=k.l200;obtain⟨k1,k2,k3,k4,k5⟩:=k.form hp;have ew:wrapF .i64 (Int.tdiv w 2)=Int.ofNat p:=by rw[ep2];exact wrap64 (by omega) (by omega)
  rw[ew];have gW:W.getD p 0=W[p]:=by simp[List.getD,List.getElem?_eq_getElem q1]
  have s0:0≤hdS (W.getD p 0):=by unfold hdS;rw[tdiv_eq,if_pos q2];omega
  obtain⟨sz,hsz⟩: ∃m:Nat,hdS (W.getD p 0)=Int.ofNat m:=Int.eq_ofNat_of_zero_le s0;have tsz:(hdS (W.getD p 0)).toNat=sz:=by rw[hsz];rfl
  rw[tsz]at q4;have lfs:(fieldsW W p).length=sz:=by unfold fieldsW;rw[List.length_take,List.length_drop,tsz];omega
  haveI:Ft hv g3:=Fv.tr S3.ft;refine isNat_i (HW.at_.rd q1 (ct86 hO S3.ok (hW _ (List.getElem_mem q1)) fun h42 K42=> ?_));rw[←gW,hsz];generalize hkk:hdK (W.getD p 0)=kk at *;have S4:=S3.call K42;intro g43;have S5:Know h0 g43 (_::ob h.nx (.cells [.int .i64 0,.int .i64 0,.string (ByteArray.mk #[]),.slice none 0 0] 46 .fix)::L.set i (ro b aw nw cw tp ar nr cr (left-1))):=S4.add _;refine vreq_t (S5.cw 0 rfl (by decide) rfl rfl) ?_;intro g44 g45;have S6:Know h0 g44 (ob h42.nx (.cells [.int .i64 (Int.ofNat sz),.int .i64 kk] 117 .fix)::ob h.nx (.cells [.int .i64 0,.int .i64 0,.string (ByteArray.mk #[]),.slice none 0 0] 46 .fix)::L.set i (ro b aw nw cw tp ar nr cr (left-1))):=S5.wr 0 rfl (by decide) rfl rfl;have S7:Know h0 g45 (ob h42.nx (.cells [.int .i64 (Int.ofNat sz),.int .i64 kk] 117 .fix)::ob h.nx (.cells [.int .i64 0,.int .i64 0,.string (ByteArray.mk #[]),.slice none 0 0] 46 .fix)::L.set i (ro b aw nw cw tp ar nr cr (left-1))):=S6.rsv 16;have hi7:(ob h42.nx (.cells [.int .i64 (Int.ofNat sz),.int .i64 kk] 117 .fix)::ob h.nx (.cells [.int .i64 0,.int .i64 0,.string (ByteArray.mk #[]),.slice none 0 0] 46 .fix)::L.set i (ro b aw nw cw tp ar nr cr (left-1)))[i+2]? =some (ro b aw nw cw tp ar nr cr (left-1)):=List.getElem?_set_self li;haveI:Ft hv g45:=Fv.tr S7.ft;have e0:wrapF .i64 (Int.ofNat p+1)=Int.ofNat (p+1):=wrap_succ (by omega);have e1:wrapF .i64 (Int.ofNat (p+1)+Int.ofNat sz)=Int.ofNat (p+1+sz):=by
   rw[wrap64 (by simp;omega) (by simp;omega)];simp
  refine⟨_,_,_,S7.rd (i+2) hi7 rfl rfl,_,S7.rd 0 rfl rfl rfl,?_⟩;rw[e0,e1];obtain⟨a',c',es,sp⟩:=HW.part (l:=p+1) (r:=p+1+sz) (by omega) q4 (lo:=some (.int .i64 (Int.ofNat (p+1)))) (hi:=some (.int .i64 (Int.ofNat (p+1+sz)))) (fun vis hv=>bounds_lh (by omega) (by have:=HW.at_.1;omega));refine⟨_,_,_,(HW.slice_to g45 _ _).trans es,_,S7.rd 0 rfl rfl rfl,?_⟩;have hf:(W.drop (p+1)).take (p+1+sz-(p+1))=fieldsW W p:=by
   unfold fieldsW;rw[tsz];congr 1;omega
  rw[hf]at sp;have e5:p+1+sz-(p+1)=sz:=by omega
  rw[e5]at sp ⊢;have S8:=S7.sub (ob h.nx (.cells [.int .i64 0,.int .i64 0,.string (ByteArray.mk #[]),.slice none 0 0] 46 .fix)::L.set i (ro b aw nw cw tp ar nr cr (left-1))) (List.sublist_cons_self ..);have leaf2:=fun(k n:Int) (t:ByteArray) (e:Int)=>rleaf S8 k n t (left-1) e (fun _=>rfl);by_cases h4:kk=4
  · subst h4;rw[if_pos rfl];have l1:=k4 rfl;have:0<(fieldsW W p).length:=by omega
    refine vcond_t rfl ?_;refine sp.at_.rd (k:=0) this ?_;have e9:(fieldsW W p).getD 0 0=(fieldsW W p)[0]:=by simp[List.getD,List.getElem?_eq_getElem this]
    rw[e9];exact leaf2 2 _ eS 0
  rw[if_neg h4];refine vcond_f (eqI_f h4) ?_;by_cases h3:kk=3
  · subst h3;rw[if_pos rfl];refine vcond_t rfl ?_;have hl: ∀x∈fieldsW W p,0≤x∧x<256:=fun x hx=>by
     have:=k5 x hx;unfold fieldR letterB at this;simp only[if_pos,Bool.and_eq_true,decide_eq_true_eq]at this;omega
    have go: ∀(e q:Nat),q+e=sz→ ∀(a:Option Addr) (n c:Nat) (g5:Hp),n=q→Know h0 g5 (acc h0.nx 5 1 a n c (u8s (((fieldsW W p).take q).map fun x=>UInt8.ofNat x.toNat))::ob h.nx (.cells [.int .i64 0,.int .i64 0,.string (ByteArray.mk #[]),.slice none 0 0] 46 .fix)::L.set i (ro b aw nw cw tp ar nr cr (left-1)))→
     I101_0 O (QRd h0 L i (ro b aw nw cw tp ar nr cr) (.mk 3 0 (rdT (fieldsW W p)) [],left-1,0)) b 0 w (9-((d+1:Nat):Int)) h.nx 0 a n c a' sz c' (Int.ofNat sz) (Int.ofNat q) g5:=by
     intro e
     induction e with
     |zero=>
      intro q hq a n c g5 hn S;refine I101_0.of (hh:= ?_) ..;unfold T101_0;rw[List.take_of_length_le (by omega)]at S;have A:AccE g5 h0.nx 5 1 a n c _:=S.get 0 rfl;refine vcond_f (by rw[ltI_nat];exact blt_f (by omega)) ⟨_,acc_bytes A,?_⟩;have:=rleaf (S.sub _ (List.sublist_cons_self ..)) 3 0 (rdT (fieldsW W p)) (left-1) 0 (fun _=>rfl);exact this
     |succ e ihe=>
      intro q hq a n c g5 hn S;have q9:q<(fieldsW W p).length:=by omega
      refine I101_0.of (hh:= ?_) ..;unfold T101_0;haveI:Ft hv g5:=Fv.tr S.ft;refine vcond_t (by rw[ltI_nat];exact blt_t (by omega)) (isNat_i (sp.at_.rd q9 ?_));obtain⟨b1,b2⟩:=hl _ (List.getElem_mem q9);obtain⟨m,hm⟩: ∃m:Nat,(fieldsW W p)[q]=Int.ofNat m:=Int.eq_ofNat_of_zero_le b1;have eu:wrapF .u8 (fieldsW W p)[q]=Int.ofNat (UInt8.ofNat (fieldsW W p)[q].toNat).toNat:=by
       rw[hm];show Int.ofNat (m%256)=Int.ofNat (UInt8.ofNat m).toNat;rw[UInt8.toNat_ofNat']
      rw[eu];intro g105;have S:Know h0 g105 (ob g5.nx (.cells [.int .u8 (Int.ofNat (UInt8.ofNat (fieldsW W p)[q].toNat).toNat)] 5 .fix)::_::_::L.set i (ro b aw nw cw tp ar nr cr (left-1))):=S.add _;obtain⟨a1,n1,c1,h109,e109,hn',S⟩:=S.app 1 rfl (Nat.le_refl _) S.lo app85 ⟨_,_,_,rfl⟩ (src_get (n:=1) (c:=1) (esz:=1) (off:=0) (S.rd 0 rfl (r:=[.int .u8 (Int.ofNat (UInt8.ofNat (fieldsW W p)[q].toNat).toNat)]) rfl rfl)) rfl rfl (by omega) (by unfold big;omega);refine⟨_,_,_,_,e109,?_⟩;have S:Know h0 h109 (_::acc h0.nx 5 1 a1 n1 c1 (u8s (((fieldsW W p).take q).map fun x=>UInt8.ofNat x.toNat)++[.int .u8 (Int.ofNat (UInt8.ofNat (fieldsW W p)[q].toNat).toNat)])::ob h.nx (.cells [.int .i64 0,.int .i64 0,.string (ByteArray.mk #[]),.slice none 0 0] 46 .fix)::L.set i (ro b aw nw cw tp ar nr cr (left-1))):=S;have e2:u8s (((fieldsW W p).take q).map fun x=>UInt8.ofNat x.toNat)++[.int .u8 (Int.ofNat (UInt8.ofNat (fieldsW W p)[q].toNat).toNat)]=u8s (((fieldsW W p).take (q+1)).map fun x=>UInt8.ofNat x.toNat):=by
       rw[rdT_take q9];simp only[u8s,List.map_append,List.map_cons,List.map_nil]
      rw[e2]at S;rw[wrap_succ (by omega)];exact ihe (q+1) (by omega) a1 n1 c1 h109 (by omega) (S.sub _ (List.sublist_cons_self ..))
    exact go sz 0 (by omega) none 0 0 g45 rfl (S8.accNil h0.nx 5 1)
  rw[if_neg h3];refine vcond_f (eqI_f h3) ?_;have hwf: ∀x∈fieldsW W p,wordR l x=true:=fun x hx=>by
   have:=k5 x hx;unfold fieldR at this;rw[if_neg h3,if_neg h4]at this;exact this
  have part: ∀(k5:Int),(k5=4∨k5=5)→ ∃x80' x81' s82' a83' n84' c85',∃x86' h87',EvC Tryz.prog O 135 [.pointer (some ⟨b,0,none⟩),.int .i64 k5,.slice a' sz c',.int .i64 (9-((d+1:Nat):Int))] g45 (.tuple #[.agg #[.int .i64 x80',.int .i64 x81',.string s82',.slice a83' n84' c85'],.int .i64 x86']) h87'∧
   vreq (canW h87' h.nx 0 [.int .i64 x80',.int .i64 x81',.string s82',.slice a83' n84' c85']) (∃x89' x90' s91' a92' n93' c94',readAt (h87'.wr h.nx 0 [.int .i64 x80',.int .i64 x81',.string s82',.slice a83' n84' c85']) h.nx 0 4=some [.int .i64 x89',.int .i64 x90',.string s91',.slice a92' n93' c94']∧
    QRd h0 L i (ro b aw nw cw tp ar nr cr) (rdP (rdF W d) k5 (fieldsW W p) (left-1)) (.tuple #[.agg #[.int .i64 x89',.int .i64 x90',.string s91',.slice a92' n93' c94'],.int .i64 x86']) (h87'.wr h.nx 0 [.int .i64 x80',.int .i64 x81',.string s82',.slice a83' n84' c85'])):=by
   intro kq hq;obtain⟨r,h87,e87,vs,lf,own,rfl,hlf,S9⟩:=ct135 hO Fv (f:=rdF W d) (kk:=kq) (dp:=9-((d+1:Nat):Int)) (d:=(d:Int)) (b:=b) (M:=ro b aw nw cw tp ar nr cr) (by omega) hq (by omega) (by omega) (fun w hw left l0=>rd_good k d w left (hwf w hw) l0)
    (fun w hw h' L' i' left l0 l2 S li=>by
      have:= @ih (by omega) h' L' i' w left (hwf w hw) (hW _ (fieldsW_mem hw)) l0 l2 S li;rw[show(9-((d+1:Nat):Int)+1)=9-(d:Int) by omega];exact this)
    (L:=ob h.nx (.cells [.int .i64 0,.int .i64 0,.string (ByteArray.mk #[]),.slice none 0 0] 46 .fix)::L) (i:=i+1) (left-1) (by omega) (by omega) (show Know h0 g45 ((ob h.nx (.cells [.int .i64 0,.int .i64 0,.string (ByteArray.mk #[]),.slice none 0 0] 46 .fix)::L).set (i+1) (ro b aw nw cw tp ar nr cr (left-1))) from S8) (by simp only[List.length_cons];omega) sp
   have hva:VA h87 (rdP (rdF W d) kq (fieldsW W p) (left-1)).1 vs:=clo.get (S9.get 0 rfl);obtain⟨v1,v2,v3,v4,v5,v6,rfl⟩:=hva.form;exact⟨_,_,_,_,_,_,_,_,e87,rcopy (L:=L) (i:=i) (r:=rdP (rdF W d) kq (fieldsW W p) (left-1)) S9 hlf⟩
  by_cases h1:kk=1
  · subst h1;rw[if_pos rfl,lfs];refine vcond_t rfl ⟨_,S7.rd 0 rfl rfl rfl,?_⟩;by_cases c4:sz<2
    · rw[if_pos (.inl c4)];exact vcond_t (by show ltI (Int.ofNat sz) (Int.ofNat 2)=true;rw[ltI_nat];exact blt_t c4) (leaf2 0 0 eS 7)
    refine vcond_f (by show ltI (Int.ofNat sz) (Int.ofNat 2)=false;rw[ltI_nat];exact blt_f c4) ⟨_,S7.rd 0 rfl rfl rfl,?_⟩;by_cases c5:6<sz
    · rw[if_pos (.inr c5)];exact vcond_t (by show ltI (Int.ofNat 6) (Int.ofNat sz)=true;rw[ltI_nat];exact blt_t c5) (leaf2 0 0 eS 7)
    rw[if_neg (by omega)];exact vcond_f (by show ltI (Int.ofNat 6) (Int.ofNat sz)=false;rw[ltI_nat];exact blt_f c5) (part 4 (.inl rfl))
  rw[if_neg h1];refine vcond_f (eqI_f h1) ?_;by_cases h2:kk=2
  · subst h2;rw[if_pos rfl];exact vcond_t rfl (part 5 (.inr rfl))
  rw[if_neg h2];exact vcond_f (eqI_f h2) (leaf2 0 0 eS 7)
end
def readO (c:Option (List Nat))(W:List Int)(w:Int):Vl×Int:=match c with
 |none=>(zV,2)
 |some l=>if wordR l w=true then ((rdF W 8 w 200).1,(rdF W 8 w 200).2.2)else (zV,2)
def QV (g:Hp)(r:Vl×Int):Value→Hp→Prop:=fun u h'=> ∃vs own,u= .tuple #[.agg vs.toArray,.int .i64 r.2]∧Know g h' [clo own (fun x=>VA x r.1 vs)]
theorem qleaf {h0 x:Hp}{L:List Rs}{bz:Nat}{w1 w2 w3 w4:Value}(S:Know h0 x (ob bz (.cells [w1,w2,w3,w4] 46 .fix)::L))(k n:Int)(t:ByteArray)(e:Int):
 vreq (canW x bz 0 [.int .i64 k,.int .i64 n,.string t,.slice none 0 0]) (∃x6' x7' s8' a9' n10' c11',readAt (x.wr bz 0 [.int .i64 k,.int .i64 n,.string t,.slice none 0 0]) bz 0 4=some [.int .i64 x6',.int .i64 x7',.string s8',.slice a9' n10' c11']∧
  QV h0 (.mk k n t [],e) (.tuple #[.agg #[.int .i64 x6',.int .i64 x7',.string s8',.slice a9' n10' c11'],.int .i64 e]) (x.wr bz 0 [.int .i64 k,.int .i64 n,.string t,.slice none 0 0])):=by
 refine vreq_t (S.cw 0 rfl (by decide) rfl rfl) ?_;have S2:Know h0 (x.wr bz 0 [.int .i64 k,.int .i64 n,.string t,.slice none 0 0]) (ob bz (.cells [.int .i64 k,.int .i64 n,.string t,.slice none 0 0] 46 .fix)::L):=S.wr 0 rfl (by decide) rfl rfl;refine⟨_,_,_,_,_,_,S2.rd 0 rfl rfl rfl,[.int .i64 k,.int .i64 n,.string t,.slice none 0 0],fun _=>False,rfl,?_⟩;have S3:=S2.sub [] (List.nil_sublist _);exact S3.push (r':=clo (fun _=>False) (fun y=>VA y (.mk k n t []) [.int .i64 k,.int .i64 n,.string t,.slice none 0 0])) (Kp.refl _ _) (clo.loc _ _) (fun _ _ _=> .nil k n t 0) fun _ h=>h.elim
section
variable {O:CallF}(hO:Oth O)
include hO
theorem ct33 {g:Hp}(ok:g.Ok)(tb:Tb g){aw:Option Addr}{nw cw:Nat}{W:List Int}{top:Int}{ar:Option Addr}{nr cr:Nat}{R:List Int}(A:HA g aw nw cw W ar nr cr R){w:Int}(hw:In64 w):
 Ret Tryz.prog O 33 [.agg #[.slice aw nw cw,.int .i64 top,.slice ar nr cr],.int .i64 w] g (QV g (readO (checkP W top R) W w)):=by
 have n0:0<g.nx:=by have:=tb.1;omega
 refine rk33 (hO:=hO _ _ _ (by decide)) (hh:= ?_) ..;unfold T33;intro g1 g2;have S:Know g g1 [_]:=(Know.nil ok).add _;have S:Know g g2 [ob g1.nx (.cells [.int .i64 0,.int .i64 0,.string (ByteArray.mk #[]),.slice none 0 0] 46 .fix),ob g.nx (.cells [.slice aw nw cw,.int .i64 top,.slice ar nr cr] 24 .fix)]:=S.add _;haveI:=S.ft;obtain⟨v,h14,e14,a10,n11,c12,x13,rfl,k14,hx⟩:=ct65 hO S.ok (A.sw.to g2) A.w (A.sr.at_.to g2) A.r (tb.kp S.kp n0) (top:=top);refine⟨_,_,_,_,_,_,_,S.rd 1 rfl rfl rfl,_,_,_,_,_,e14,?_⟩;have S:Know g h14 [ob g1.nx (.cells [.int .i64 0,.int .i64 0,.string (ByteArray.mk #[]),.slice none 0 0] 46 .fix),ob g.nx (.cells [.slice aw nw cw,.int .i64 top,.slice ar nr cr] 24 .fix)]:=S.call k14;cases hc:checkP W top R with
 |none=>
  rw[hc]at hx;have hx:x13=2:=hx;subst hx;exact vcond_f rfl (vcond_t rfl (qleaf S 0 0 eS 2))
 |some l=>
  rw[hc]at hx;obtain⟨rfl,B⟩:x13=0∧BoolsAt h14 a10 n11 (beginP W l):=hx;obtain⟨f1,f2,f3,f4,f5,f6,f7,f8,f9⟩:=checkP_cells hc;have hm:=(cellsR_mem (cellsG_R f7)).2;have hwr:wordB (beginP W l) w=wordR l w:=word_RB (fun x hx=>by have:=hm x hx;omega) f1 w;refine vcond_t rfl ⟨_,_,ct100 hO B hw,?_⟩;rw[hwr];have eF:wordR l w=false→readO (some l) W w=(zV,2):=fun h=>by unfold readO;simp[h]
  have eT:wordR l w=true→readO (some l) W w=((rdF W 8 w 200).1,(rdF W 8 w 200).2.2):=fun h=>by unfold readO;simp[h]
  cases hq:wordR l w with
  |false=>rw[eF hq];exact vcond_t rfl (qleaf S 0 0 eS 2)
  |true=>
   rw[eT hq];refine vcond_f rfl (vcond_f rfl ⟨_,_,_,_,_,_,_,S.rd 1 rfl rfl rfl,?_⟩);intro g38;have S2:Know g g38 ([ob h14.nx (.cells [.slice aw nw cw,.int .i64 top,.slice ar nr cr,.int .i64 200] 141 .fix),ob g1.nx (.cells [.int .i64 0,.int .i64 0,.string (ByteArray.mk #[]),.slice none 0 0] 46 .fix),ob g.nx (.cells [.slice aw nw cw,.int .i64 top,.slice ar nr cr] 24 .fix)].set 0 (ro h14.nx aw nw cw top ar nr cr 200)):=S.add _;obtain⟨r,h46,e46,vs,lf,own,rfl,hlf,S3⟩:=ct101 hO (hv:=g) (h0:=g) inferInstance A.sw A.w (Wk.of hc).1 (b:=h14.nx) (tp:=top) (ar:=ar) (nr:=nr) (cr:=cr) 8 (by omega) w 200 hq hw (by omega) (by omega) S2 (by simp);have hva:VA h46 (rdF W 8 w 200).1 vs:=clo.get (S3.get 0 rfl);obtain⟨v1,v2,v3,v4,v5,v6,rfl⟩:=hva.form;refine⟨_,_,_,_,_,_,_,_,e46,?_⟩;have S3:Know g h46 [clo own (fun x=>VA x (rdF W 8 w 200).1 [.int .i64 v1,.int .i64 v2,.string v3,.slice v4 v5 v6]),_,ob g1.nx (.cells [.int .i64 0,.int .i64 0,.string (ByteArray.mk #[]),.slice none 0 0] 46 .fix),_]:=S3;refine vreq_t (S3.cw 2 rfl (by decide) rfl rfl) ?_;intro g47;have S4:Know g g47 [clo own (fun x=>VA x (rdF W 8 w 200).1 [.int .i64 v1,.int .i64 v2,.string v3,.slice v4 v5 v6]),_,ob g1.nx (.cells [.int .i64 v1,.int .i64 v2,.string v3,.slice v4 v5 v6] 46 .fix),_]:=S3.wr 2 rfl (by decide) rfl rfl;exact⟨_,_,_,_,_,_,S4.rd 2 rfl rfl rfl,_,own,rfl,S4.sel [0] (by decide) rfl⟩
end
def Small (x:Int):Prop:= -2000000000≤x∧x≤2000000001
theorem Small.in64 {x:Int}(h:Small x):In64 x:=⟨by have:=h.1;omega,by have:=h.2;omega⟩
theorem letterB_rng {n:Int}(h:letterB n=true):32≤n∧n≤126:=by
 unfold letterB at h;simp only[Bool.and_eq_true,decide_eq_true_eq]at h;exact⟨h.1.1.1,h.1.1.2⟩
theorem wd_small {o:List Nat}{k:Int}{f:Fd}(hf:FdOk o k f){at_:Nat→Nat}(ha: ∀i∈o,at_ i≤1000000):Small (wd at_ f):=by
 unfold FdOk at hf;split at hf
 · rw[wd_n hf.1];have:=letterB_rng hf.2;exact⟨by omega,by omega⟩
 · split at hf
   · rw[wd_n hf.1];rcases hf.2 with h|h<;>rw[h]<;>exact⟨by decide,by decide⟩
   · rcases hf with ⟨h,j,hj,e⟩|⟨h,h2⟩
     · rw[wd_r h,e];have:=ha j hj;show Small (2*(at_ (Int.toNat (j:Int)):Int));rw[Int.toNat_natCast];exact⟨by omega,by omega⟩
     · rw[wd_n h];rcases h2 with h2|⟨_,h3,h4⟩
       · rw[h2];exact⟨by decide,by decide⟩
       · exact⟨by omega,by omega⟩
section
variable {L:List Cl}{o:List Nat}{free:Nat}(G:Gr L o)(hfit:layT L o≤1000)
include G hfit
theorem atC_le: ∀i∈o,atC L o i≤1000000:=fun i hi=>by have:=lay_pos G hi;omega
theorem layW_small: ∀x∈layW L o free,Small x:=fun x hx=>by
 unfold layW at hx;rcases List.mem_cons.1 hx with rfl|hx
 · exact⟨by decide,by decide⟩
 · rcases List.mem_append.1 hx with hx|hx
   · obtain⟨i,hi,hx⟩:=List.mem_flatMap.1 hx;have hk:=G.kind i hi;have hs:=G.size i hi;unfold cellC at hx;rcases List.mem_cons.1 hx with rfl|hx
     · unfold hdC;exact⟨by omega,by omega⟩
     · obtain⟨f,hf,rfl⟩:=List.mem_map.1 hx;exact wd_small (G.fok i hi f hf) (atC_le G hfit)
   · rw[List.mem_replicate]at hx;rw[hx.2];exact⟨by decide,by decide⟩
theorem layR_small {roots:List Fd}(hr: ∀f∈roots,FdOk o 1 f): ∀x∈layR L o roots,Small x:=fun x hx=>by
 obtain⟨f,hf,rfl⟩:=List.mem_map.1 hx;exact wd_small (hr f hf) (atC_le G hfit)
end
theorem Tb.grd {h:Hp}(t:Tb h)(l:List Nat):Tb (h.grd l):=⟨t.1,t.2⟩
section
variable {v0:Array Value}{xs:List Nat}(B:Bytes v0 xs)
include B
theorem pFit:layT (drawnL xs) (pO xs)+pFree xs≤61∧pFree xs<16∧1≤layT (drawnL xs) (pO xs):=by
 have:layT (drawnL xs) (pO xs)≤46:=drawn_fit B;have:pFree xs<16:=Nat.mod_lt _ (by decide);have:1≤layT (drawnL xs) (pO xs):=by unfold layT;omega
 omega
end
theorem HO.know {g h:Hp}{W:List Int}{top:Nat}{R:List Int}{v:Value}(okg:g.Ok)(H:HO g W top R v h): ∃aw nw cw ar nr cr own,v= .agg #[.slice aw nw cw,.int .i64 (Int.ofNat top),.slice ar nr cr]∧Know g h [clo own (fun h=>SI h aw nw cw W∧SI h ar nr cr R)]:=by
 obtain⟨aw,nw,cw,ar,nr,cr,rfl,S1,S2,kp,ok,f1,f2⟩:=H;refine⟨aw,nw,cw,ar,nr,cr,fun o=>(∃off,aw=some ⟨o,off,none⟩)∨ ∃off,ar=some ⟨o,off,none⟩,rfl,?_⟩;have lt: ∀ {a:Option Addr} {n c:Nat} {xs:List Int},SI h a n c xs→ ∀o off,a=some ⟨o,off,none⟩→o<h.nx:=fun s o off ha=>by
  rcases s.at_.2 with ⟨_,e⟩|⟨b,off',_,_,_,e,h2,_⟩
  · rw[e]at ha;cases ha
  · rw[e]at ha;injection ha with ha;injection ha with ha;omega
 exact(Know.nil okg).push kp (clo.loc _ _) (fun h' hn he=>⟨S1.upd (fun o off ha=>he o (.inl ⟨off,ha⟩)) hn,S2.upd (fun o off ha=>he o (.inr ⟨off,ha⟩)) hn⟩) fun b hb=>by
  rcases hb with ⟨off,hb⟩|⟨off,hb⟩
  · exact⟨f1 b off hb,lt S1 b off hb⟩
  · exact⟨f2 b off hb,lt S2 b off hb⟩
theorem info3: ∃info z,Tryz.prog.info? 3=some info∧info.zero=some z∧info.size=1∧info.bytes=8∧z.cells.toList=[.int .i64 0]:=by
 have h:(match Tryz.prog.info? 3 with
  |some info=>(match info.zero with
   |some (.int .i64 x)=>eqI x 0&&(Nat.beq info.size 1&&Nat.beq info.bytes 8)
   |_=>false)
  |none=>false)=true:=by kernel_rfl
 split at h
 · rename_i info hi;split at h
   · rename_i x hz;rw[Bool.and_eq_true,Bool.and_eq_true]at h;exact⟨info,_,hi,hz,Nat.eq_of_beq_eq_true h.2.1,Nat.eq_of_beq_eq_true h.2.2,by rw[eq_of_t h.1];rfl⟩
   · cases h
 · cases h
theorem app_zeros {h0 g:Hp}{L:List Rs}(S:Know h0 g L)(i:Nat){o:Nat}{W:List Int}(hi:L[i]? =some (ob o (.cells (iv W) 3 .fix)))(n:Nat)(hl:W.length+n<1000000):
 ∃a' c' h',appendV Tryz.prog g 22 3 (.slice (some ⟨o,0,none⟩) W.length W.length) (.int .i64 (Int.ofNat n))=some (.slice a' (W.length+n) c',h')∧Know h0 h' (L.set i (slr a' (W.length+n) c' (W++List.replicate n 0))):=by
 have hu:unk=18446744073709551616:=rfl;have hg:=S.obj i hi;have ho:=S.orng i hi;obtain⟨info,z,e1,e2,e3,e4,e5⟩:=info3;have hz:z.cells.size=1:=by rw[←Array.length_toList,e5];rfl
 unfold appendV;rw[el22];simp only[bind,Option.bind_some,e1,e2,need,e3,hz,e5];show∃a' c' h',((bif (!(Nat.beq 1 0)&&Nat.beq 1 1&& [Value.int .i64 0].all (fun v=>flat v&&one v))then some ()else none).bind _)=_∧_;have e6:(!(Nat.beq 1 0)&&Nat.beq 1 1&& [Value.int .i64 0].all (fun v=>flat v&&one v))=true:=rfl;simp only[e6,cond_true,Option.bind_some];have hsrc:appSrc Tryz.prog g info z 3 (.int .i64 (Int.ofNat n))=some (iv (List.replicate n 0),n):=by
  unfold appSrc;rw[Tryz.underlying3];simp only[e4,e5];have hb:(Nat.ble (n*8) 281474976710656&&Nat.blt n big)=true:=by rw[ble_t (by omega),blt_t (by unfold big;omega)];rfl
  rw[hb,cond_true];congr 2;have: ∀k,List.flatten (List.replicate k [Value.int .i64 0])=iv (List.replicate k 0):=by
   intro k
   induction k with
   |zero=>rfl
   |succ k ih=>rw[List.replicate_succ,List.flatten_cons,ih,List.replicate_succ];rfl
  exact this n
 rw[hsrc];simp only[Option.bind_some,iv_one,cond_true];rcases Nat.eq_zero_or_pos n with rfl|hn
 · refine⟨some ⟨o,0,none⟩,W.length,g,?_,?_⟩
   · show(bif Nat.ble W.length W.length then some _ else none)=_;rw[ble_t (Nat.le_refl _)];rfl
   · rw[List.replicate_zero,List.append_nil,Nat.add_zero];exact S.upd i hi (Ch.refl _ g) (slr.loc _ _ _ _) (SI.cells hg ho.2 rfl (by omega)) fun b ⟨off,hb⟩=> .inl (by injection hb with hb;injection hb with hb;exact hb.symm)
 · have hb0:Nat.beq n 0=false:=by rw[Bool.eq_false_iff];intro hh;have:=Nat.eq_of_beq_eq_true hh;omega
   have hbu:Nat.beq W.length unk=false:=by rw[Bool.eq_false_iff];intro hh;have:=Nat.eq_of_beq_eq_true hh;omega
   have hfit:Nat.ble (W.length+n) W.length=false:=by rw[Bool.eq_false_iff];intro hh;have:=Nat.le_of_ble_eq_true hh;omega
   have hrd:readAt g o 0 (W.length*1)=some (iv W):=by
    rw[Nat.mul_one,readAt_get hg (by rw[List.length_map];omega),List.drop_zero,List.take_of_length_le (by rw[List.length_map];omega)]
   have hnew:(Nat.ble ((W.length+n+(W.length+n))*8) 281474976710656&&Nat.blt (W.length+n) big)=true:=by rw[ble_t (by omega),blt_t (by unfold big;omega)];rfl
   refine⟨some ⟨g.nx,0,none⟩,unk,g.add (.cells (iv W++iv (List.replicate n 0)) 3 .grow),?_,?_⟩
   · simp only[hb0,cond_false,appSome,hg,hbu,hfit,hrd,Option.bind_some,appNew,e4,hnew,cond_true]
   · have hc:iv W++iv (List.replicate n 0)=iv (W++List.replicate n 0):=by unfold iv;rw[List.map_append]
     rw[hc];have lw:(W++List.replicate n 0).length=W.length+n:=by rw[List.length_append,List.length_replicate]
     refine S.upd i hi (Ch.kp ((Kp.refl _ g).add (Nat.le_refl _) _)) (slr.loc _ _ _ _) ?_ fun b ⟨off,hb⟩=> .inr (by injection hb with hb;injection hb with hb;subst hb;exact⟨Nat.le_refl _,Nat.lt_succ_self _⟩);have:=SI.own (h:=g.add (.cells (iv (W++List.replicate n 0)) 3 .grow)) (o:=g.nx) (cw:=unk) (W:=W++List.replicate n 0) (get_add_same ..) (Nat.lt_succ_self _) (.inr ⟨rfl,rfl⟩) (by omega);rw[lw]at this;exact this
theorem young_gr {L:List Cl}{o all:List Nat}(G:Gr L o)(hn:all.Nodup)(ho: ∀i∈all,i∈o)(hc: ∀i∈all,∀f∈strongC L i,f.refs=true→f.n.toNat∈all):Gr (prunedL L all) all:=by
 refine⟨hn,fun i hi=> ?_,fun i hi=> ?_,fun i hi=> ?_,fun i hi f hf=> ?_⟩
 · rw[pruned_at];exact G.kind i (ho i hi)
 · rw[pruned_at];show((clAt L i).fs.map _).length≤20;rw[List.length_map];exact G.size i (ho i hi)
 · rw[pruned_at];intro h;show((clAt L i).fs.map _).length=1;rw[List.length_map];exact G.truth i (ho i hi) h
 · rw[pruned_at]at hf ⊢;obtain⟨g,hg,rfl⟩:=List.mem_map.1 (show f∈(clAt L i).fs.map (prunedF all (clAt L i).kind) from hf);have h0:=G.fok i (ho i hi) g hg;have hk:=G.kind i (ho i hi);show FdOk all (clAt L i).kind _;by_cases hcond:(g.refs&& !(all.contains g.n.toNat)&&(clAt L i).kind==5)=true
   · have e1:prunedF all (clAt L i).kind g=⟨0,false⟩:=by unfold prunedF;rw[if_pos hcond]
     rw[e1];rw[Bool.and_eq_true,Bool.and_eq_true,beq_iff_eq]at hcond;unfold FdOk;rw[if_neg (by omega),if_neg (by omega)];exact .inr ⟨rfl,.inl rfl⟩
   · have e1:prunedF all (clAt L i).kind g=g:=by unfold prunedF;rw[if_neg hcond]
     rw[e1];unfold FdOk at h0 ⊢;by_cases h3:(clAt L i).kind=3
     · rw[if_pos h3]at h0 ⊢; exact h0
     · by_cases h4:(clAt L i).kind=4
       · rw[if_neg h3,if_pos h4]at h0 ⊢; exact h0
       · rw[if_neg h3,if_neg h4]at h0 ⊢;rcases h0 with ⟨hr,j,hj,e⟩|h
         · refine .inl ⟨hr,j,?_,e⟩;have ej:g.n.toNat=j:=by rw[e];rfl
           rw[←ej];by_cases h5:(clAt L i).kind=5
           · refine Classical.not_not.1 fun hh=>hcond ?_;rw[hr,h5];have:all.contains g.n.toNat=false:=by rw[←Bool.not_eq_true,List.contains_iff_mem];exact hh
             rw[this];rfl
           · refine hc i hi g ?_ hr;unfold strongC;have:keepB (clAt L i).kind=true:=by
              unfold keepB;simp;omega
             rw[if_pos this];exact hg
         · exact .inr h
theorem clAt_old {L:List Cl}{c:Cl}{i:Nat}(h:i<L.length):clAt (L++[c]) i=clAt L i:=by
 unfold clAt;rw[List.getD,List.getElem?_append_left h];rfl
theorem clAt_new {L:List Cl}{c:Cl}:clAt (L++[c]) L.length=c:=by
 unfold clAt;rw[List.getD,List.getElem?_append_right (Nat.le_refl _),Nat.sub_self];rfl
theorem putAt_zs: ∀(Y c:List Int) (z:Nat),c.length≤z→putAt (Y++List.replicate z 0) Y.length c=Y++c++List.replicate (z-c.length) 0:=by
 intro Y
 induction Y with
 |nil=>
  intro c
  induction c with
  |nil=>intro z _;show putAt (List.replicate z 0) 0 []=_;rw[putAt_nil];rfl
  |cons x c ih=>
   intro z hz;cases z with
   |zero=>simp at hz
   |succ z=>
    show x::putAt (List.replicate z 0) 0 c=x::(c++List.replicate (z+1-(c.length+1)) 0);have:=ih z (by simpa using hz);rw[List.nil_append,List.length_nil,List.nil_append]at this;rw[this,Nat.add_sub_add_right]
 |cons y Y ih=>intro c z hz;show y::putAt (Y++List.replicate z 0) Y.length c=y::(Y++c++List.replicate (z-c.length) 0);rw[ih c z hz]
section
variable {L:List Cl}{kept:List Nat}{c:Cl}(hk: ∀i∈kept,i<L.length)(hr: ∀i∈kept,∀f∈(clAt L i).fs,f.refs=true→f.n.toNat∈kept)(hc: ∀f∈c.fs,f.refs=true→f.n.toNat∈kept)
include hk
theorem more_sz: ∀i∈kept,szC (L++[c]) i=szC L i:=fun i hi=>by unfold szC;rw[clAt_old (hk i hi)]
theorem more_at {i:Nat}(hi:i∈kept):atC (L++[c]) (kept++[L.length]) i=atC L kept i:=by
 unfold atC;rw[posS_pre hi];exact posS_congr (more_sz hk)
theorem more_new:atC (L++[c]) (kept++[L.length]) L.length=layT L kept:=by
 unfold atC layT;rw[posS_at (fun h=>Nat.lt_irrefl _ (hk _ h)),totS_congr (more_sz hk)]
theorem more_T:layT (L++[c]) (kept++[L.length])=layT L kept+(1+c.fs.length):=by
 rw[layT_snoc];unfold layT;rw[totS_congr (more_sz hk)];show 1+_+(1+(clAt (L++[c]) L.length).fs.length)=_;rw[clAt_new]
theorem more_wd {f:Fd}(hf:f.refs=true→f.n.toNat∈kept):wd (atC (L++[c]) (kept++[L.length])) f=wd (atC L kept) f:=by
 cases hr:f.refs with
 |false=>rw[wd_n hr,wd_n hr]
 |true=>rw[wd_r hr,wd_r hr,more_at hk (hf hr)]
include hr hc
theorem more_W (z:Nat)(hz:1+c.fs.length≤z):layW (L++[c]) (kept++[L.length]) (z-(1+c.fs.length))=layP (layW L kept z) (layT L kept) c.kind (c.fs.map (wd (atC L kept))):=by
 have e1:kept.flatMap (cellC (L++[c]) (atC (L++[c]) (kept++[L.length])))=kept.flatMap (cellC L (atC L kept)):=by
  have: ∀(q:List Nat),(∀i∈q,i∈kept)→q.flatMap (cellC (L++[c]) (atC (L++[c]) (kept++[L.length])))=q.flatMap (cellC L (atC L kept)):=by
   intro q
   induction q with
   |nil=>intro _;rfl
   |cons i q ih=>
    intro hq;have hi:=hq i (List.mem_cons_self ..);rw[List.flatMap_cons,List.flatMap_cons,ih fun j hj=>hq j (List.mem_cons_of_mem _ hj)];congr 1;unfold cellC;rw[clAt_old (hk i hi)];congr 1;exact List.map_congr_left fun f hf=>more_wd hk (hr i hi f hf)
  exact this kept fun _ h=>h
 have e2:cellC (L++[c]) (atC (L++[c]) (kept++[L.length])) L.length=hdC c::c.fs.map (wd (atC L kept)):=by
  unfold cellC;rw[clAt_new];congr 1;exact List.map_congr_left fun f hf=>more_wd hk (hc f hf)
 unfold layP;have e3:layW L kept z=(0::kept.flatMap (cellC L (atC L kept)))++List.replicate z 0:=rfl;have e4:layT L kept=(0::kept.flatMap (cellC L (atC L kept))).length:=by rw[List.length_cons,cells_length];unfold layT;omega
 rw[e3,e4,putAt_zs _ _ _ (by rw[List.length_cons,List.length_map];omega)];unfold layW;rw[List.flatMap_append,e1,List.flatMap_cons,e2,List.flatMap_nil,List.append_nil,List.length_cons,List.length_map];have e5:8*(c.fs.length:Int)+c.kind=hdC c:=rfl;rw[e5,show z-(c.fs.length+1)=z-(1+c.fs.length) by omega];simp
end
abbrev Cst:=List Cl×List Nat
def kindC (k:Int):Int:=if k=2 then 4 else if k=4 then 1 else if k=5 then 2 else 3
def leafC (k n:Int)(t:ByteArray)(fs:List Fd):List Fd:=if k=2 then [⟨n,false⟩]else if k=3 then (bytesI t).map (⟨·,false⟩)else fs
mutual
def cF:Vl→Cst→Cst×Fd
 | .mk k n t ps,S=>if k=1 then (S,⟨2*n+1,false⟩)else
   (((cL ps S).1.1++[⟨kindC k,leafC k n t (cL ps S).2⟩],(cL ps S).1.2++[(cL ps S).1.1.length]),⟨((cL ps S).1.1.length:Int),true⟩)
def cL:List Vl→Cst→Cst×List Fd
 | [],S=>(S,[])
 |v::r,S=>((cL r (cF v S).1).1,(cF v S).2::(cL r (cF v S).1).2)
end
mutual
def RepF (S:Cst):Vl→Fd→Prop
 | .mk k n t ps,f=>(k=1∧f=⟨2*n+1,false⟩)∨(k≠1∧f.refs=true∧f.n.toNat∈S.2∧(clAt S.1 f.n.toNat).kind=kindC k∧ ∃fs,RepL S ps fs∧(clAt S.1 f.n.toNat).fs=leafC k n t fs)
def RepL (S:Cst):List Vl→List Fd→Prop
 | [],fs=>fs=[]
 |v::r,fs=> ∃f fs',fs=f::fs'∧RepF S v f∧RepL S r fs'
end
structure Xt (S S':Cst):Prop where
 lt: ∀i∈S.2,i<S.1.length
 lt': ∀i∈S'.2,i<S'.1.length
 cl: ∀i∈S.2,clAt S'.1 i=clAt S.1 i
 sub: ∀i∈S.2,i∈S'.2
 at_: ∀i∈S.2,atC S'.1 S'.2 i=atC S.1 S.2 i
theorem Xt.refl {S:Cst}(h: ∀i∈S.2,i<S.1.length):Xt S S:=⟨h,h,fun _ _=>rfl,fun _=>id,fun _ _=>rfl⟩
theorem Xt.trans {S S' S'':Cst}(a:Xt S S')(b:Xt S' S''):Xt S S'':=⟨a.lt,b.lt',fun i hi=>(b.cl i (a.sub i hi)).trans (a.cl i hi),fun i hi=>b.sub i (a.sub i hi),fun i hi=>(b.at_ i (a.sub i hi)).trans (a.at_ i hi)⟩
theorem Xt.snoc {S:Cst}(h: ∀i∈S.2,i<S.1.length)(c:Cl):Xt S (S.1++[c],S.2++[S.1.length]):=⟨h,fun i hi=>by
 rw[List.length_append];rcases List.mem_append.1 hi with h1|h1
 · have:=h i h1;show i<S.1.length+1;omega
 · rw[List.mem_singleton.1 h1];exact Nat.lt_succ_self _,fun i hi=>clAt_old (h i hi),fun i hi=>List.mem_append.2 (.inl hi),fun i hi=>more_at h hi⟩
mutual
theorem Xt.rep {S S':Cst}(x:Xt S S'): ∀(v:Vl) (f:Fd),RepF S v f→RepF S' v f
 | .mk k n t ps,f,h=>by
   simp only[RepF]at h ⊢;rcases h with h|⟨h1,h2,h3,h4,fs,h5,h6⟩
   · exact .inl h
   · exact .inr ⟨h1,h2,x.sub _ h3,by rw[x.cl _ h3];exact h4,fs,x.repL ps fs h5,by rw[x.cl _ h3];exact h6⟩
theorem Xt.repL {S S':Cst}(x:Xt S S'): ∀(ps:List Vl) (fs:List Fd),RepL S ps fs→RepL S' ps fs
 | [],fs,h=>by simp only[RepL]at h ⊢; exact h
 |v::r,fs,h=>by
  simp only[RepL]at h ⊢;obtain⟨f,fs',e,h1,h2⟩:=h;exact⟨f,fs',e,x.rep v f h1,x.repL r fs' h2⟩
end
theorem Xt.fd {S S':Cst}(x:Xt S S'){k:Int}{f:Fd}(h:FdOk S.2 k f):FdOk S'.2 k f:=by
 unfold FdOk at h ⊢;by_cases h3:k=3
 · rw[if_pos h3]at h ⊢; exact h
 rw[if_neg h3]at h ⊢;by_cases h4:k=4
 · rw[if_pos h4]at h ⊢; exact h
 rw[if_neg h4]at h ⊢;rcases h with ⟨a,j,b,c⟩|h
 · exact .inl ⟨a,j,x.sub j b,c⟩
 · exact .inr h
theorem fd_mem {o:List Nat}{k:Int}{f:Fd}(h:FdOk o k f)(hr:f.refs=true):f.n.toNat∈o:=by
 unfold FdOk at h;split at h
 · rw[h.1]at hr;cases hr
 · split at h
   · rw[h.1]at hr;cases hr
   · rcases h with ⟨_,j,b,c⟩|⟨a,_⟩
     · rw[c,Int.toNat_natCast];exact b
     · rw[a]at hr;cases hr
theorem Xt.wd {S S':Cst}(x:Xt S S'){k:Int}{f:Fd}(h:FdOk S.2 k f):wd (atC S'.1 S'.2) f=wd (atC S.1 S.2) f:=by
 cases hr:f.refs with
 |false=>rw[wd_n hr,wd_n hr]
 |true=>rw[wd_r hr,wd_r hr,x.at_ _ (fd_mem h hr)]
theorem fd_kind {o:List Nat}{k k':Int}{f:Fd}(h:FdOk o k f)(h1:k≠3)(h2:k≠4)(h3:k'≠3)(h4:k'≠4):FdOk o k' f:=by
 unfold FdOk at h ⊢;rw[if_neg h1,if_neg h2]at h;rw[if_neg h3,if_neg h4];exact h
theorem snoc_gr {S:Cst}(G:Gr S.1 S.2)(h: ∀i∈S.2,i<S.1.length){c:Cl}(k1:1≤c.kind∧c.kind≤5)(k2:c.fs.length≤20)(k3:c.kind=4→c.fs.length=1)(k4: ∀f∈c.fs,FdOk S.2 c.kind f):Gr (S.1++[c]) (S.2++[S.1.length]):=by
 have x:=Xt.snoc h c;have old: ∀i∈S.2,clAt (S.1++[c]) i=clAt S.1 i:=x.cl;have new:clAt (S.1++[c]) S.1.length=c:=clAt_new;refine⟨?_,fun i hi=> ?_,fun i hi=> ?_,fun i hi=> ?_,fun i hi=> ?_⟩
 · rw[List.nodup_append];exact⟨G.nd,by simp,fun a ha b hb=>by rw[List.mem_singleton.1 hb];exact Nat.ne_of_lt (h a ha)⟩
 · rcases List.mem_append.1 hi with h1|h1
   · rw[old i h1];exact G.kind i h1
   · rw[List.mem_singleton.1 h1,new];exact k1
 · rcases List.mem_append.1 hi with h1|h1
   · rw[old i h1];exact G.size i h1
   · rw[List.mem_singleton.1 h1,new];exact k2
 · rcases List.mem_append.1 hi with h1|h1
   · rw[old i h1];exact G.truth i h1
   · rw[List.mem_singleton.1 h1,new];exact k3
 · rcases List.mem_append.1 hi with h1|h1
   · rw[old i h1];exact fun f hf=>x.fd (G.fok i h1 f hf)
   · rw[List.mem_singleton.1 h1,new];exact fun f hf=>x.fd (k4 f hf)
theorem letters_of {t:ByteArray}(h:lettersF t=true):t.size≤20∧ ∀x∈bytesI t,letterB x=true:=by
 unfold lettersF at h;rw[Bool.and_eq_true]at h;obtain⟨h1,h2⟩:=h;refine⟨?_,fun x hx=> ?_⟩
 · have:=not_lt_of_f (by simpa using h2);have e:Int.ofNat t.size=(t.size:Int):=rfl;omega
 · unfold bytesI at hx;obtain⟨b,hb,rfl⟩:=List.mem_map.1 hx;obtain⟨i,hi,e⟩:=List.getElem_of_mem hb;have hi':i<t.size:=by simpa using hi
   have:=List.all_eq_true.1 h1 i (List.mem_range.2 hi');have eb:byteI t i=Int.ofNat b.toNat:=by
    unfold byteI;rw[List.getElem?_eq_getElem hi,e]
   rw[eb]at this;unfold okByte at this;simp only[Bool.and_eq_true,Bool.not_eq_true']at this;obtain⟨a1,a2,a3,a4⟩:=this;have a1:=not_lt_of_f a1;have a2:=not_lt_of_f a2;have a3:=ne_of_f a3;have a4:=ne_of_f a4;unfold letterB;simp only[Bool.and_eq_true,decide_eq_true_eq,Bool.not_eq_true',beq_eq_false_iff_ne];exact⟨⟨⟨by omega,by omega⟩,a3⟩,a4⟩
end Go.Proofs.YtngcjpkccnfjiaaGreatDoor
