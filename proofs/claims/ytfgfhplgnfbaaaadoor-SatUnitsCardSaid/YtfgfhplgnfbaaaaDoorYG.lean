/- SatForms of layer 20 returns true, for every input: its law, by the contracts of what it calls. -/
import Derived.Test.YtfgfhplgnfbaaaaDoorYD
import Derived.Test.YtfgfhplgnfbaaaaDoorYF
import Derived.Test.YtfgfhplgnfbaaaaDoorProg
import Derived.Test.YtfgfhplgnfbaaaaDoorYC
import Derived.KernelRfl
import Derived.Test.YtfgfhplgnfbaaaaDoorYB
import Derived.Shelf.SlSortCmp.Whole1
import Derived.Lib.RowBridge
import Derived.Shelf.SlLaysF
import Derived.Ground.SlsfProg
import Derived.Shelf.SlSortCmp.Insertion1
import Derived.Test.YtfgfhplgnfbaaaaDoorYE
namespace Go.Proofs.YtfgfhplgnfbaaaaDoor
open Go Go.Ev
theorem greatB_not {cls : List (List Int)} (h : greatB cls = false) : cls.length ≤ 150 ∧ ∀ l ∈ cls, l.length ≤ 40 := by
  unfold greatB at h
  rw [Bool.or_eq_false_iff] at h
  refine ⟨by have := of_decide_eq_false h.1; omega, fun l hl => ?_⟩
  have := List.any_eq_false.1 h.2 l hl
  have : ¬ 40 < l.length := fun hh => this (decide_eq_true hh)
  omega
/-! ### arguments -/
theorem cells32 : Tryd.prog.cellsOf 32 = 1 := by kernel_rfl
theorem cells28 : Tryd.prog.cellsOf 28 = 1 := by kernel_rfl
theorem cells30 : Tryd.prog.cellsOf 30 = 2 := by kernel_rfl
theorem agg32 : aggT Tryd.prog 32 ≠ some true := by unfold aggT; rw [Tryd.underlying32]; simp
section
variable {H : Type} {enc : TypeId × Value → H} {W : World}
theorem build0 (t : TypeId) : Builds H enc Tryd.prog W 0 t := fun cs d ps h => by simp [DataW.trod] at h
theorem bld3 : ∀ n, Builds H enc Tryd.prog W n 3
  | 0 => build0 3
  | _ + 1 => build_int Tryd.underlying3
theorem bld32 : ∀ n, Builds H enc Tryd.prog W n 32
  | 0 => build0 32
  | n + 1 => build_slice (bld3 n) (by rw [cellsInt]; decide) Tryd.underlying32
theorem bld28 : ∀ n, Builds H enc Tryd.prog W n 28
  | 0 => build0 28
  | n + 1 => build_slice (bld32 n) (by rw [cells32]; decide) Tryd.underlying28
theorem bld30 : ∀ n, Builds H enc Tryd.prog W n 30
  | 0 => build0 30
  | n + 1 => build_struct (fun f hf => by
      simp at hf
      rcases hf with rfl | rfl
      · exact bld3 n
      · exact bld28 n) (by kernel_rfl) Tryd.underlying30
set_option maxRecDepth 100000 in
/-- A formula in memory. -/
theorem form_of {h : Hp} {n : Nat} {v : Value} {d : DataW H} (D : DE Tryd.prog h n 30 v.cells.toList d) : ∃ vars a m c cls, v = Fm vars a m c ∧ IntssAt h a m cls := by
  cases n with
  | zero => exact D.elim
  | succ n =>
    obtain ⟨h1, h2⟩ := DE_struct Tryd.underlying30 D
    obtain ⟨d1, D1⟩ := h2 0 _ rfl
    obtain ⟨d2, D2⟩ := h2 1 _ rfl
    have D1 : DE Tryd.prog h n 3 ((v.cells.toList.drop 0).take (Tryd.prog.cellsOf 3)) d1 := D1
    have D2 : DE Tryd.prog h n 28 ((v.cells.toList.drop 1).take (Tryd.prog.cellsOf 28)) d2 := D2
    rw [cellsInt] at D1
    rw [cells28] at D2
    obtain ⟨x, z1, _⟩ := DE_int Tryd.underlying3 D1
    obtain ⟨a, m, c, cls, z2, A, _⟩ := DE_intss Tryd.underlying28 Tryd.underlying32 Tryd.underlying3 cellsInt cells32 D2
    exact ⟨x, a, m, c, cls, agg_of_two (two_of (h1.trans cells30) z1 z2), A⟩
end
end Go.Proofs.YtfgfhplgnfbaaaaDoor
/- Arguments by numbers: how they lie in memory. -/
namespace Go.Proofs.YtfgfhplgnfbaaaaDoor
open Go Go.Ev Go.ChangeShapes Go.WideShapes Go.ChangeAt Go.RowKit
theorem n24 : Tryd.prog.cellsOf 24 = 42 := by kernel_rfl
end Go.Proofs.YtfgfhplgnfbaaaaDoor
/- SatResolved of layer 20: the law. -/
namespace Go.Proofs.YtfgfhplgnfbaaaaDoor
open Go Go.Ev
theorem ret_ri {O : CallF} {f : FuncId} {az : List Value} {h : Hp} {xs : List Int} (r : Ret Tryd.prog O f az h (RInts h xs)) {K : Option Addr → Nat → Nat → Hp → Prop} (next : ∀ a n c h', IntsAt h' a n xs → Kp h.nx h h' → (∀ b off, a = some ⟨b, off, none⟩ → h.nx ≤ b) → K a n c h') : ∃ a n c, ∃ h', EvC Tryd.prog O f az h (.slice a n c) h' ∧ K a n c h' :=
  let ⟨_, h', e, a, n, c, hv, q1, q2, q3⟩ := r; ⟨a, n, c, h', hv ▸ e, next a n c h' q1 q2 q3⟩
abbrev Yes : Value → Hp → Prop := fun v _ => v = .bool true
end Go.Proofs.YtfgfhplgnfbaaaaDoor
/- Conditions of functions' code, printed by a program of ours. -/
namespace Go.Proofs.YtfgfhplgnfbaaaaDoor
open Go Go.Ev
set_option maxRecDepth 100000
set_option linter.unusedVariables false
/-! sward/swardlaw20.SatNames$1 -/
noncomputable def b18 : Code := (Tryd.f18.body).getD .skip
/-! sward/sat.Learn -/
noncomputable def b36 : Code := (Tryd.f36.body).getD .skip
noncomputable def stk36_0 : List KI := [.code (sub [1, 1, 1, 0, 1, 0] b36), .blk 0, .code (sub [1, 1, 1, 1] b36)]
noncomputable def stk36_1 : List KI := [.code (sub [1, 1, 1, 1, 1, 0, 1, 0] b36), .blk 2, .code (sub [1, 1, 1, 1, 1, 1] b36)]
def lv36 : List (Nat × List Nat) := [(0, [1, 2, 4, 5, 7, 18, 19, 20]), (2, [1, 4, 5, 11, 50, 51])]
def I36_0 (O : CallF) (Q : Value → Hp → Prop) (x0_0 : Int) (a0_1 : Option Addr) (n0_1 : Nat) (c0_1 : Nat) (a1 : Option Addr) (n1 : Nat) (c1 : Nat) (b2 : Nat) (f2 : Nat) (a4 : Option Addr) (n4 : Nat) (c4 : Nat) (x5 : Int) (x7 : Int) (x20 : Int) (h : Hp) : Prop := RKL Tryd.prog O Tryd.f36 stk36_0 67 [1, 2, 4, 5, 7, 18, 19, 20] [(.slice a1 n1 c1), (.pointer (some ⟨b2, f2, none⟩)), (.slice a4 n4 c4), (.int .i64 x5), (.int .u32 x7), (.slice a1 n1 c1), (.int .i64 (Int.ofNat n1)), (.int .i64 x20)] h Q
def I36_1 (O : CallF) (Q : Value → Hp → Prop) (x0_0 : Int) (a0_1 : Option Addr) (n0_1 : Nat) (c0_1 : Nat) (a1 : Option Addr) (n1 : Nat) (c1 : Nat) (a4 : Option Addr) (n4 : Nat) (c4 : Nat) (x5 : Int) (a11 : Option Addr) (x50 : Int) (x51 : Int) (h : Hp) : Prop := RKL Tryd.prog O Tryd.f36 stk36_1 67 [1, 4, 5, 11, 50, 51] [(.slice a1 n1 c1), (.slice a4 n4 c4), (.int .i64 x5), (.pointer a11), (.int .i64 x50), (.int .i64 x51)] h Q
def T36 (O : CallF) (Q : Value → Hp → Prop) (x0_0 : Int) (a0_1 : Option Addr) (n0_1 : Nat) (c0_1 : Nat) (a1 : Option Addr) (n1 : Nat) (c1 : Nat) (h : Hp) : Prop :=
  let g1 : Hp := h.add (.cells [(.int .i64 x0_0), (.slice a0_1 n0_1 c0_1)] 30 .fix)
  ∃ x2', ∃ a3' n4' c5', readAt g1 h.nx 0 2 = some [(.int .i64 x2'), (.slice a3' n4' c5')] ∧
  ∃ x6', ∃ h7', EvC Tryd.prog O 31 [(.agg #[(.int .i64 x2'), (.slice a3' n4' c5')])] g1 (.int .i64 x6') h7' ∧
  vcond (!(eqI x6' 0))
  (Q (.tuple #[(.slice none 0 0), (.int .i64 x6')]) h7')
  (I36_0 O Q x0_0 a0_1 n0_1 c0_1 a1 n1 c1 h.nx 0 none 0 0 0 0 0 h7')
theorem rk36 {O Q} (x0_0 a0_1 n0_1 c0_1 a1 n1 c1) {h : Hp} (hO : O 36 [(.agg #[(.int .i64 x0_0), (.slice a0_1 n0_1 c0_1)]), (.slice a1 n1 c1)] h = none) (hh : T36 O Q x0_0 a0_1 n0_1 c0_1 a1 n1 c1 h) : Ret Tryd.prog O 36 [(.agg #[(.int .i64 x0_0), (.slice a0_1 n0_1 c0_1)]), (.slice a1 n1 c1)] h Q :=
  .of (c := b36) Tryd.func36 (by kernel_rfl) hO (V_ok (tb := lv36) (cuts := []) 500 (Eq.mp (by kernel_rfl) hh))
def T36_0 (O : CallF) (Q : Value → Hp → Prop) (x0_0 : Int) (a0_1 : Option Addr) (n0_1 : Nat) (c0_1 : Nat) (a1 : Option Addr) (n1 : Nat) (c1 : Nat) (b2 : Nat) (f2 : Nat) (a4 : Option Addr) (n4 : Nat) (c4 : Nat) (x5 : Int) (x7 : Int) (x20 : Int) (h : Hp) : Prop :=
  vcond (ltI x20 (Int.ofNat n1))
  (isNat x20 fun n101' =>
  isAddr a1 fun b102' f103' =>
  vreq (Nat.blt n101' n1)
  (∃ x104', readAt h b102' (f103' + (n101' * 1)) 1 = some [(.int .i64 x104')] ∧
  ∃ x105', ∃ h106', EvC Tryd.prog O 94 [(.int .i64 x104')] h (.int .i64 x105') h106' ∧
  vcond (ltI x105' 1)
  (Q (.tuple #[(.slice none 0 0), (.int .i64 2)]) h106')
  (∃ x107', readAt h106' b2 (f2 + 0) 1 = some [(.int .i64 x107')] ∧
  vcond (ltI x107' x105')
  (Q (.tuple #[(.slice none 0 0), (.int .i64 2)]) h106')
  (∃ x108', ∃ h109', EvC Tryd.prog O 84 [(.int .i64 x104')] h106' (.int .u32 x108') h109' ∧
  vreq (inD 4294967296 x7)
  (vreq (inD 4294967296 x108')
  (vcond (!(eqI (landI x7 x108') 0))
  (Q (.tuple #[(.slice none 0 0), (.int .i64 2)]) h109')
  (∃ x110', ∃ h111', EvC Tryd.prog O 84 [(.int .i64 x104')] h109' (.int .u32 x110') h111' ∧
  vreq (inD 4294967296 x7)
  (vreq (inD 4294967296 x110')
  (I36_0 O Q x0_0 a0_1 n0_1 c0_1 a1 n1 c1 b2 f2 a4 n4 c4 x5 (lorI x7 x110') (wrapF .i64 (x20 + 1)) h111')))))))))
  (∃ x112', ∃ a113' n114' c115', readAt h b2 f2 2 = some [(.int .i64 x112'), (.slice a113' n114' c115')] ∧
  ∃ a116', ∃ h117', EvC Tryd.prog O 76 [(.agg #[(.int .i64 x112'), (.slice a113' n114' c115')]), (.slice none 0 0)] h (.pointer a116') h117' ∧
  I36_1 O Q x0_0 a0_1 n0_1 c0_1 a1 n1 c1 a4 n4 c4 x5 a116' (wrapF .i64 ((Int.ofNat n1) + 1)) 0 h117')
theorem I36_0.of {O Q} (x0_0 a0_1 n0_1 c0_1 a1 n1 c1 b2 f2 a4 n4 c4 x5 x7 x20) {h : Hp} (hh : T36_0 O Q x0_0 a0_1 n0_1 c0_1 a1 n1 c1 b2 f2 a4 n4 c4 x5 x7 x20 h) : I36_0 O Q x0_0 a0_1 n0_1 c0_1 a1 n1 c1 b2 f2 a4 n4 c4 x5 x7 x20 h :=
  RKL.of (tb := lv36) (cuts := []) 500 fun _ => Eq.mp (by kernel_rfl) hh
def T36_1 (O : CallF) (Q : Value → Hp → Prop) (x0_0 : Int) (a0_1 : Option Addr) (n0_1 : Nat) (c0_1 : Nat) (a1 : Option Addr) (n1 : Nat) (c1 : Nat) (a4 : Option Addr) (n4 : Nat) (c4 : Nat) (x5 : Int) (a11 : Option Addr) (x50 : Int) (x51 : Int) (h : Hp) : Prop :=
  vcond (ltI x51 x50)
  (∃ a201' n202' c203', sliceV Tryd.prog h 32 (.slice a1 n1 c1) none (some (.int .i64 x51)) none = some (.slice a201' n202' c203') ∧
  ∃ q204', ∃ h205', EvC Tryd.prog O 95 [(.pointer a11), (.slice a201' n202' c203')] h (.bool q204') h205' ∧
  vcond q204'
  (∃ a206' n207' c208', sliceV Tryd.prog h205' 32 (.slice a1 n1 c1) none (some (.int .i64 x51)) none = some (.slice a206' n207' c208') ∧
  ∃ a209' n210' c211', ∃ h212', EvC Tryd.prog O 97 [(.slice a206' n207' c208'), (.func (.func 95) #[(.pointer a11)] #[])] h205' (.slice a209' n210' c211') h212' ∧
  ∃ a213' n214' c215', ∃ h216', EvC Tryd.prog O 96 [(.slice a209' n210' c211')] h212' (.slice a213' n214' c215') h216' ∧
  Q (.tuple #[(.slice a213' n214' c215'), (.int .i64 0)]) h216')
  (I36_1 O Q x0_0 a0_1 n0_1 c0_1 a1 n1 c1 a4 n4 c4 x5 a11 x50 (wrapF .i64 (x51 + 1)) h205'))
  (Q (.tuple #[(.slice none 0 0), (.int .i64 5)]) h)
theorem I36_1.of {O Q} (x0_0 a0_1 n0_1 c0_1 a1 n1 c1 a4 n4 c4 x5 a11 x50 x51) {h : Hp} (hh : T36_1 O Q x0_0 a0_1 n0_1 c0_1 a1 n1 c1 a4 n4 c4 x5 a11 x50 x51 h) : I36_1 O Q x0_0 a0_1 n0_1 c0_1 a1 n1 c1 a4 n4 c4 x5 a11 x50 x51 h :=
  RKL.of (tb := lv36) (cuts := []) 500 fun _ => Eq.mp (by kernel_rfl) hh
/-! sward/swardref20.Learn -/
noncomputable def b37 : Code := (Tryd.f37.body).getD .skip
noncomputable def stk37_0 : List KI := [.code (sub [1, 1, 0, 1, 0] b37), .blk 0, .code (sub [1, 1, 1] b37)]
noncomputable def stk37_1 : List KI := [.code (sub [1, 1, 1, 1, 0, 0] b37), .blk 2, .code (sub [1, 1, 1, 1, 1] b37)]
noncomputable def stk37_2 : List KI := [.code (sub [1, 1, 1, 1, 1, 1, 1, 0, 1, 0] b37), .blk 4, .code (sub [1, 1, 1, 1, 1, 1, 1, 1] b37)]
def lv37 : List (Nat × List Nat) := [(0, [1, 2, 4, 5, 6]), (2, [1, 2, 4, 5, 8]), (4, [2, 4, 5, 9, 10])]
def I37_0 (O : CallF) (Q : Value → Hp → Prop) (x0_0 : Int) (a0_1 : Option Addr) (n0_1 : Nat) (c0_1 : Nat) (a1 : Option Addr) (n1 : Nat) (c1 : Nat) (b2 : Nat) (f2 : Nat) (a4 : Option Addr) (n4 : Nat) (c4 : Nat) (x5 : Int) (x6 : Int) (h : Hp) : Prop := RKL Tryd.prog O Tryd.f37 stk37_0 81 [1, 2, 4, 5, 6] [(.slice a1 n1 c1), (.pointer (some ⟨b2, f2, none⟩)), (.slice a4 n4 c4), (.int .i64 x5), (.int .i64 x6)] h Q
def I37_1 (O : CallF) (Q : Value → Hp → Prop) (x0_0 : Int) (a0_1 : Option Addr) (n0_1 : Nat) (c0_1 : Nat) (a1 : Option Addr) (n1 : Nat) (c1 : Nat) (b2 : Nat) (f2 : Nat) (a4 : Option Addr) (n4 : Nat) (c4 : Nat) (x5 : Int) (x8 : Int) (h : Hp) : Prop := RKL Tryd.prog O Tryd.f37 stk37_1 81 [1, 2, 4, 5, 8] [(.slice a1 n1 c1), (.pointer (some ⟨b2, f2, none⟩)), (.slice a4 n4 c4), (.int .i64 x5), (.int .i64 x8)] h Q
def I37_2 (O : CallF) (Q : Value → Hp → Prop) (x0_0 : Int) (a0_1 : Option Addr) (n0_1 : Nat) (c0_1 : Nat) (a1 : Option Addr) (n1 : Nat) (c1 : Nat) (b2 : Nat) (f2 : Nat) (a4 : Option Addr) (n4 : Nat) (c4 : Nat) (x5 : Int) (a9 : Option Addr) (n9 : Nat) (c9 : Nat) (x10 : Int) (h : Hp) : Prop := RKL Tryd.prog O Tryd.f37 stk37_2 81 [2, 4, 5, 9, 10] [(.pointer (some ⟨b2, f2, none⟩)), (.slice a4 n4 c4), (.int .i64 x5), (.slice a9 n9 c9), (.int .i64 x10)] h Q
def T37 (O : CallF) (Q : Value → Hp → Prop) (x0_0 : Int) (a0_1 : Option Addr) (n0_1 : Nat) (c0_1 : Nat) (a1 : Option Addr) (n1 : Nat) (c1 : Nat) (h : Hp) : Prop :=
  let g1 : Hp := h.add (.cells [(.int .i64 x0_0), (.slice a0_1 n0_1 c0_1)] 30 .fix)
  ∃ x2', ∃ a3' n4' c5', readAt g1 h.nx 0 2 = some [(.int .i64 x2'), (.slice a3' n4' c5')] ∧
  ∃ q6', ∃ h7', EvC Tryd.prog O 85 [(.agg #[(.int .i64 x2'), (.slice a3' n4' c5')])] g1 (.bool q6') h7' ∧
  vcond (!q6')
  (Q (.tuple #[(.slice none 0 0), (.int .i64 2)]) h7')
  (I37_0 O Q x0_0 a0_1 n0_1 c0_1 a1 n1 c1 h.nx 0 none 0 0 0 0 h7')
theorem rk37 {O Q} (x0_0 a0_1 n0_1 c0_1 a1 n1 c1) {h : Hp} (hO : O 37 [(.agg #[(.int .i64 x0_0), (.slice a0_1 n0_1 c0_1)]), (.slice a1 n1 c1)] h = none) (hh : T37 O Q x0_0 a0_1 n0_1 c0_1 a1 n1 c1 h) : Ret Tryd.prog O 37 [(.agg #[(.int .i64 x0_0), (.slice a0_1 n0_1 c0_1)]), (.slice a1 n1 c1)] h Q :=
  .of (c := b37) Tryd.func37 (by kernel_rfl) hO (V_ok (tb := lv37) (cuts := []) 500 (Eq.mp (by kernel_rfl) hh))
def T37_0 (O : CallF) (Q : Value → Hp → Prop) (x0_0 : Int) (a0_1 : Option Addr) (n0_1 : Nat) (c0_1 : Nat) (a1 : Option Addr) (n1 : Nat) (c1 : Nat) (b2 : Nat) (f2 : Nat) (a4 : Option Addr) (n4 : Nat) (c4 : Nat) (x5 : Int) (x6 : Int) (h : Hp) : Prop :=
  vcond (ltI x6 (Int.ofNat n1))
  (isNat x6 fun n101' =>
  isAddr a1 fun b102' f103' =>
  vreq (Nat.blt n101' n1)
  (∃ x104', readAt h b102' (f103' + (n101' * 1)) 1 = some [(.int .i64 x104')] ∧
  ∃ x105', ∃ h106', EvC Tryd.prog O 98 [(.int .i64 x104')] h (.int .i64 x105') h106' ∧
  vcond (ltI x105' 1)
  (Q (.tuple #[(.slice none 0 0), (.int .i64 2)]) h106')
  (∃ x107', readAt h106' b2 (f2 + 0) 1 = some [(.int .i64 x107')] ∧
  vcond (ltI x107' x105')
  (Q (.tuple #[(.slice none 0 0), (.int .i64 2)]) h106')
  (∃ a108' n109' c110', sliceV Tryd.prog h106' 32 (.slice a1 n1 c1) none (some (.int .i64 x6)) none = some (.slice a108' n109' c110') ∧
  ∃ q111', ∃ h112', EvC Tryd.prog O 99 [(.slice a108' n109' c110'), (.int .i64 x105')] h106' (.bool q111') h112' ∧
  vcond q111'
  (Q (.tuple #[(.slice none 0 0), (.int .i64 2)]) h112')
  (I37_0 O Q x0_0 a0_1 n0_1 c0_1 a1 n1 c1 b2 f2 a4 n4 c4 x5 (wrapF .i64 (x6 + 1)) h112')))))
  (I37_1 O Q x0_0 a0_1 n0_1 c0_1 a1 n1 c1 b2 f2 a4 n4 c4 x5 0 h)
theorem I37_0.of {O Q} (x0_0 a0_1 n0_1 c0_1 a1 n1 c1 b2 f2 a4 n4 c4 x5 x6) {h : Hp} (hh : T37_0 O Q x0_0 a0_1 n0_1 c0_1 a1 n1 c1 b2 f2 a4 n4 c4 x5 x6 h) : I37_0 O Q x0_0 a0_1 n0_1 c0_1 a1 n1 c1 b2 f2 a4 n4 c4 x5 x6 h :=
  RKL.of (tb := lv37) (cuts := []) 500 fun _ => Eq.mp (by kernel_rfl) hh
def T37_1 (O : CallF) (Q : Value → Hp → Prop) (x0_0 : Int) (a0_1 : Option Addr) (n0_1 : Nat) (c0_1 : Nat) (a1 : Option Addr) (n1 : Nat) (c1 : Nat) (b2 : Nat) (f2 : Nat) (a4 : Option Addr) (n4 : Nat) (c4 : Nat) (x5 : Int) (x8 : Int) (h : Hp) : Prop :=
  let g201 : Hp := h.rsv 12
  vcond (ltI x8 (Int.ofNat n1))
  (∃ x202', ∃ a203' n204' c205', readAt g201 b2 f2 2 = some [(.int .i64 x202'), (.slice a203' n204' c205')] ∧
  ∃ a206' n207' c208', sliceV Tryd.prog g201 32 (.slice a1 n1 c1) none (some (.int .i64 x8)) none = some (.slice a206' n207' c208') ∧
  ∃ q209', ∃ h210', EvC Tryd.prog O 100 [(.agg #[(.int .i64 x202'), (.slice a203' n204' c205')]), (.slice a206' n207' c208')] (g201.grd []) (.bool q209') h210' ∧
  let g211 : Hp := h210'.rst g201
  vcond (!q209')
  (I37_1 O Q x0_0 a0_1 n0_1 c0_1 a1 n1 c1 b2 f2 a4 n4 c4 x5 (wrapF .i64 (x8 + 1)) g211)
  (let g212 : Hp := g211.rsv 6
  ∃ x213', ∃ a214' n215' c216', readAt g212 b2 f2 2 = some [(.int .i64 x213'), (.slice a214' n215' c216')] ∧
  ∃ a217' n218' c219', sliceV Tryd.prog g212 32 (.slice a1 n1 c1) none (some (.int .i64 x8)) none = some (.slice a217' n218' c219') ∧
  ∃ q220', ∃ h221', EvC Tryd.prog O 100 [(.agg #[(.int .i64 x213'), (.slice a214' n215' c216')]), (.slice a217' n218' c219')] (g212.grd []) (.bool q220') h221' ∧
  let g222 : Hp := h221'.rst g212
  vcond (!q220')
  (Q (.tuple #[(.slice none 0 0), (.int .i64 5)]) g222)
  (let g223 : Hp := g222.add (.cells [] 3 .fix)
  ∃ a224' n225' c226', sliceV Tryd.prog g223 32 (.slice a1 n1 c1) none (some (.int .i64 x8)) none = some (.slice a224' n225' c226') ∧
  ∃ a227' n228' c229' h230', appendV Tryd.prog g223 32 32 (.slice (some ⟨g222.nx, 0, none⟩) 0 0) (.slice a224' n225' c226') = some (.slice a227' n228' c229', h230') ∧
  I37_2 O Q x0_0 a0_1 n0_1 c0_1 a1 n1 c1 b2 f2 a4 n4 c4 x5 a227' n228' c229' (wrapF .i64 (x8 - 1)) h230')))
  (let g231 : Hp := g201.rsv 6
  ∃ x232', ∃ a233' n234' c235', readAt g231 b2 f2 2 = some [(.int .i64 x232'), (.slice a233' n234' c235')] ∧
  ∃ a236' n237' c238', sliceV Tryd.prog g231 32 (.slice a1 n1 c1) none (some (.int .i64 x8)) none = some (.slice a236' n237' c238') ∧
  ∃ q239', ∃ h240', EvC Tryd.prog O 100 [(.agg #[(.int .i64 x232'), (.slice a233' n234' c235')]), (.slice a236' n237' c238')] (g231.grd []) (.bool q239') h240' ∧
  let g241 : Hp := h240'.rst g231
  vcond (!q239')
  (Q (.tuple #[(.slice none 0 0), (.int .i64 5)]) g241)
  (let g242 : Hp := g241.add (.cells [] 3 .fix)
  ∃ a243' n244' c245', sliceV Tryd.prog g242 32 (.slice a1 n1 c1) none (some (.int .i64 x8)) none = some (.slice a243' n244' c245') ∧
  ∃ a246' n247' c248' h249', appendV Tryd.prog g242 32 32 (.slice (some ⟨g241.nx, 0, none⟩) 0 0) (.slice a243' n244' c245') = some (.slice a246' n247' c248', h249') ∧
  I37_2 O Q x0_0 a0_1 n0_1 c0_1 a1 n1 c1 b2 f2 a4 n4 c4 x5 a246' n247' c248' (wrapF .i64 (x8 - 1)) h249'))
theorem I37_1.of {O Q} (x0_0 a0_1 n0_1 c0_1 a1 n1 c1 b2 f2 a4 n4 c4 x5 x8) {h : Hp} (hh : T37_1 O Q x0_0 a0_1 n0_1 c0_1 a1 n1 c1 b2 f2 a4 n4 c4 x5 x8 h) : I37_1 O Q x0_0 a0_1 n0_1 c0_1 a1 n1 c1 b2 f2 a4 n4 c4 x5 x8 h :=
  RKL.of (tb := lv37) (cuts := []) 500 fun _ => Eq.mp (by kernel_rfl) hh
def T37_2 (O : CallF) (Q : Value → Hp → Prop) (x0_0 : Int) (a0_1 : Option Addr) (n0_1 : Nat) (c0_1 : Nat) (a1 : Option Addr) (n1 : Nat) (c1 : Nat) (b2 : Nat) (f2 : Nat) (a4 : Option Addr) (n4 : Nat) (c4 : Nat) (x5 : Int) (a9 : Option Addr) (n9 : Nat) (c9 : Nat) (x10 : Int) (h : Hp) : Prop :=
  vcond (!(ltI x10 0))
  (let g301 : Hp := h.rsv 5
  ∃ x302', ∃ a303' n304' c305', readAt g301 b2 f2 2 = some [(.int .i64 x302'), (.slice a303' n304' c305')] ∧
  ∃ a306' n307' c308', ∃ h309', EvC Tryd.prog O 101 [(.slice a9 n9 c9), (.int .i64 x10)] (g301.grd [b2]) (.slice a306' n307' c308') h309' ∧
  let g310 : Hp := h309'.rst g301
  ∃ q311', ∃ h312', EvC Tryd.prog O 100 [(.agg #[(.int .i64 x302'), (.slice a303' n304' c305')]), (.slice a306' n307' c308')] (g310.grd []) (.bool q311') h312' ∧
  let g313 : Hp := h312'.rst g310
  vcond q311'
  (∃ a314' n315' c316', ∃ h317', EvC Tryd.prog O 101 [(.slice a9 n9 c9), (.int .i64 x10)] g313 (.slice a314' n315' c316') h317' ∧
  I37_2 O Q x0_0 a0_1 n0_1 c0_1 a1 n1 c1 b2 f2 a4 n4 c4 x5 a314' n315' c316' (wrapF .i64 (x10 - 1)) h317')
  (I37_2 O Q x0_0 a0_1 n0_1 c0_1 a1 n1 c1 b2 f2 a4 n4 c4 x5 a9 n9 c9 (wrapF .i64 (x10 - 1)) g313))
  (∃ a318' n319' c320', ∃ h321', EvC Tryd.prog O 102 [(.slice a9 n9 c9)] h (.slice a318' n319' c320') h321' ∧
  Q (.tuple #[(.slice a318' n319' c320'), (.int .i64 0)]) h321')
theorem I37_2.of {O Q} (x0_0 a0_1 n0_1 c0_1 a1 n1 c1 b2 f2 a4 n4 c4 x5 a9 n9 c9 x10) {h : Hp} (hh : T37_2 O Q x0_0 a0_1 n0_1 c0_1 a1 n1 c1 b2 f2 a4 n4 c4 x5 a9 n9 c9 x10 h) : I37_2 O Q x0_0 a0_1 n0_1 c0_1 a1 n1 c1 b2 f2 a4 n4 c4 x5 a9 n9 c9 x10 h :=
  RKL.of (tb := lv37) (cuts := []) 500 fun _ => Eq.mp (by kernel_rfl) hh
/-! slices.Reverse[[]int,int] -/
end Go.Proofs.YtfgfhplgnfbaaaaDoor
/- The walks of Unit and of Learn (decisions in any order, at most twelve). -/
namespace Go.Proofs.YtfgfhplgnfbaaaaDoor
open Go Go.Ev
/-- The variables that have been met. -/
def maskN (l : List Int) : Nat := l.foldl (fun m x => m ||| 2 ^ (x.natAbs - 1)) 0
theorem maskN_snoc (l : List Int) (x : Int) : maskN (l ++ [x]) = maskN l ||| 2 ^ (x.natAbs - 1) := by unfold maskN; rw [List.foldl_append]; rfl
theorem fold_bit {i : Nat} : ∀ {l : List Int} {m : Nat}, (l.foldl (fun m x => m ||| 2 ^ (x.natAbs - 1)) m).testBit i = true → m.testBit i = true ∨ ∃ x ∈ l, x.natAbs - 1 = i := by
  intro l
  induction l with
  | nil => intro m h; exact .inl h
  | cons y l ih =>
    intro m h
    rcases ih h with h1 | ⟨x, hx, e⟩
    · rw [Nat.testBit_or, Bool.or_eq_true, Nat.testBit_two_pow] at h1
      rcases h1 with h1 | h1
      · exact .inl h1
      · exact .inr ⟨y, List.mem_cons_self .., by simpa using h1⟩
    · exact .inr ⟨x, List.mem_cons_of_mem _ hx, e⟩
theorem maskN_bit {l : List Int} {i : Nat} (h : (maskN l).testBit i = true) : ∃ x ∈ l, x.natAbs - 1 = i := by
  rcases fold_bit h with h | h
  · simp at h
  · exact h
theorem maskN_lt : ∀ {l : List Int}, (∀ x ∈ l, Lit x) → maskN l < 2 ^ 30 := by
  have : ∀ {l : List Int} {m : Nat}, (∀ x ∈ l, Lit x) → m < 2 ^ 30 → l.foldl (fun m x => m ||| 2 ^ (x.natAbs - 1)) m < 2 ^ 30 := by
    intro l
    induction l with
    | nil => intro m _ h; exact h
    | cons y l ih =>
      intro m hl hm
      have hy := hl y (List.mem_cons_self ..)
      exact ih (fun x hx => hl x (List.mem_cons_of_mem _ hx)) (Nat.or_lt_two_pow hm (Nat.pow_lt_pow_right (by decide) (by have := hy.1; have := hy.2; omega)))
  exact fun {l} h => this (l := l) h (by decide)
/-- What Learn returns, from a number of decisions on. -/
def learnF (cl : List Int → Bool) (d : List Int) : Nat → Nat → List Int × Int
  | 0, _ => ([], 5)
  | m + 1, k => if cl (d.take k) = true then (isrt ((needF cl k (d.take k)).map fun x => -x), 0) else learnF cl d m (k + 1)
section
variable {O : CallF} (hO : Oth O)
include hO
theorem cmp123 : CmpOk O 123 (fun x => (x.natAbs : Int)) Lit := fun _ _ h hx hy => ct123 hO hx hy h
theorem lp96n {h₀ : Hp} (ok : h₀.Ok) {a0 : Option Addr} {n0 c0 : Nat} {l : List Int} (X : IntsAt h₀ a0 n0 l) (hl : l.length ≤ 12) (hlit : ∀ x ∈ l, Lit x) (hd : Nod l) :
    ∀ (d k : Nat), k + d = l.length → ∀ {a : Option Addr} {n c : Nat} {h : Hp}, Kp h₀.nx h₀ h → AccI 3 h h₀.nx a n c ((l.take k).map fun x => -x) → I96_0 O (RInts h₀ (isrt (l.map fun x => -x))) a0 n0 c0 a n c (Int.ofNat k) h := by
  have hn := X.1
  have hdn : Nod (l.map fun x => -x) := by
    unfold Nod
    rw [List.pairwise_map]
    exact hd.imp fun {x z} hxz => by rw [Int.natAbs_neg, Int.natAbs_neg]; exact hxz
  intro d
  induction d with
  | zero =>
    intro k hk a n c h K A
    refine I96_0.of _ _ _ _ _ _ _ ?_
    unfold T96_0
    rw [List.take_of_length_le (by omega)] at A
    refine vcond_f (by rw [ltI_nat]; exact blt_f (by omega)) ?_
    have hnn : n = l.length := by have := A.ints.1; simpa using this
    rcases A with ⟨rfl, rfl, rfl, h4⟩ | ⟨o, rfl, rfl, h3, h4, h5, h6⟩
    · have e : l = [] := by simpa using h4
      subst e
      exact (ct74n hO 0 123 h).u fun h' k => ⟨_, _, _, rfl, SlAt.nil .., K.trans (k.le K.nx), fun b off e => by cases e⟩
    · have hnn : n = (l.map fun x => -x).length := by rw [hnn, List.length_map]
      subst hnn
      refine (ct74g hO (cmp123 hO) (m := .grow) (by decide) (b := o) (c := unk) (fun q hq => ?_) (by simpa using hl) (lit_neg hlit) ⟨h5, h6⟩).u fun h' ⟨l', p, s, R, K'⟩ => ?_
      · rw [K.gd] at hq; have := ok.gd q hq; omega
      · obtain rfl := srt_eq hdn p s
        refine ⟨_, _, _, rfl, ?_, K.trans (K'.kp h4 K.nx), fun b off e => ?_⟩
        · have := R.ints
          rw [p.length_eq] at this; exact this
        · injection e with e; injection e with e _; omega
  | succ d ih =>
    intro k hk a n c h K A
    refine I96_0.of _ _ _ _ _ _ _ ?_
    intros
    unfold T96_0
    have hx := hlit l[k] (List.getElem_mem _)
    have e2 : wrapF .i64 (0 - l[k]) = -l[k] := by have := hx.2; rw [wrap64 (by omega) (by omega)]; omega
    obtain ⟨a', n', c', h', p1, p2, p3⟩ := app_int app32 A K.nx (fun q hq => by rw [K.gd] at hq; exact ok.gd q hq) (by simp; omega) (-l[k])
    refine vcond_t (by rw [ltI_nat]; exact blt_t (by omega)) (isNat_of (X.get (k := k) (by omega) fun b' off _ hlt hrd => vreq_t (blt_t (by omega)) ⟨_, by rw [readAt_kp K hlt]; exact hrd, a', n', c', h', by rw [e2]; exact p1, ?_⟩))
    rw [wrap_succ (by omega)]
    have e1 : l.take (k + 1) = l.take k ++ [l[k]] := List.take_succ_eq_append_getElem (by omega)
    refine ih (k + 1) (by omega) (K.trans (p3.kp A K.nx)) ?_ ..
    rw [e1, List.map_append]; exact p2
theorem ct96n {h : Hp} (ok : h.Ok) {a0 : Option Addr} {n0 c0 : Nat} {l : List Int} (X : IntsAt h a0 n0 l) (hl : l.length ≤ 12) (hlit : ∀ x ∈ l, Lit x) (hd : Nod l) : Ret Tryd.prog O 96 [.slice a0 n0 c0] h (RInts h (isrt (l.map fun x => -x))) := by
  refine rk96 _ _ _ (hO _ _ _ (by decide)) ?_
  unfold T96
  exact lp96n hO ok X hl hlit hd l.length 0 (by omega) (.refl _ _) (AccI.nil ..) ..
/-- Unit, of what is as it should be. -/
theorem ct34 {a a1 : Option Addr} {n c n1 c1 : Nat} {vars : Int} {h : Hp} {cls : List (List Int)} {gs : List Int} (ok : h.Ok) (ht : Tb h) (H : IntssAt h a n cls) (hl : cls.length < 10000) (hll : ∀ l ∈ cls, l.length < 1000000) (hlit : ∀ l ∈ cls, ∀ x ∈ l, Lit x) (G : IntsAt h a1 n1 gs) (hgl : gs.length < 1000) (hg : ∀ x ∈ gs, Lit x)
    (ha : askB vars cls gs = true) (hlt : (fromN (cls.map sideN) gs).1.1 < 2 ^ 30 ∧ (fromN (cls.map sideN) gs).1.2 < 2 ^ 30) :
    Ret Tryd.prog O 34 [Fm vars a n c, .slice a1 n1 c1] h fun v h' => ∃ a n c, v = .tuple #[.slice a n c, .bool (!(fromN (cls.map sideN) gs).2), .int .i64 0] ∧ IntsAt h' a n (if (fromN (cls.map sideN) gs).2 = true then litsN (fromN (cls.map sideN) gs).1.1 (fromN (cls.map sideN) gs).1.2 else []) ∧ Kp h.nx h h' := by
  refine rk34 _ _ _ _ _ _ _ (hO _ _ _ (by decide)) ?_
  unfold T34
  have kp : Kp h.nx h _ := fm_kp h vars a n c
  have g : (h.add _).get h.nx = some (.cells [.int .i64 vars, .slice a n c] 30 .fix) := fm_get h vars a n c
  refine ⟨_, _, _, _, by rw [readAt_get g (by simp)]; rfl, ?_⟩
  obtain ⟨v1, h7, e7, rfl, K7⟩ := ct78 hO (c := c) (vars := vars) (c1 := c1) (H.up EInts.up kp) (by omega) hll (G.up EInt.up kp) (by omega)
  have k7 : Kp h.nx h h7 := kp.trans (K7.le kp.nx)
  have g7 : h7.get h.nx = some (.cells [.int .i64 vars, .slice a n c] 30 .fix) := by rw [K7.get _ (by show h.nx < h.nx + 1; omega)]; exact g
  refine ⟨_, h7, e7, ?_⟩
  rw [if_pos ha]
  refine vcond_f (by decide) ⟨_, _, _, _, by rw [readAt_get g7 (by simp)]; rfl, ?_⟩
  obtain ⟨v8, h8, e8, b, a6, n6, c6, rfl, z1, z2, z3, z4, z5⟩ := ct76 hO (vars := vars) (ok.kp k7) (H.up EInts.up k7) hl hll hlit (c := c) (a1 := a1) (n1 := n1) (c1 := c1)
  have k8 : Kp h.nx h h8 := k7.trans (z5.le k7.nx)
  refine ⟨_, h8, e8, ?_⟩
  have sl : SidesAt2 h8 a6 n6 (cls.map sideN) := z4.slAt uu_len (by decide)
  obtain ⟨v9, h9, e9, rfl, K9⟩ := ct89 hO (ok.kp k8) z3 z2 sl (by simp; omega) (sides_lt hO hlit) (G.up EInt.up k8) (by omega) hg (xs := []) (am := none) (nm := 0) (cm := 0) (SlAt.nil ..) (by simp) (fun x hx => by cases hx)
  rw [List.append_nil] at e9
  generalize fromN (cls.map sideN) gs = r at *
  have k9 : Kp h.nx h h9 := k8.trans (K9.le k8.nx)
  refine ⟨_, _, _, h9, e9, ?_⟩
  have gn : (h9.add (.cells [U 0, U 0] 102 .fix)).get h9.nx = _ := get_add_same ..
  have gu : (h9.add (.cells [U 0, U 0] 102 .fix)).guarded h9.nx = false := guarded_of fun q hq => by have := (ok.kp k9).gd q hq; omega
  have K10 : Kp h9.nx h9 ((h9.add (.cells [U 0, U 0] 102 .fix)).wr h9.nx 0 [U r.1.1, U r.1.2]) := ((Kp.refl _ _).add (Nat.le_refl _) _).wr (Nat.le_refl _) _ _
  have H10 : ((h9.add (.cells [U 0, U 0] 102 .fix)).wr h9.nx 0 [U r.1.1, U r.1.2]).get h9.nx = some (.cells [U r.1.1, U r.1.2] 102 .fix) := wr_get gn (by decide) gu (by simp) rfl
  have k10 := k9.trans (K10.le k9.nx)
  refine vreq_t (canW_t gn (by decide) gu (by simp) rfl) ?_
  cases hr : r.2 with
  | false => exact vcond_t rfl ⟨_, _, _, rfl, SlAt.nil .., k10⟩
  | true =>
    refine vcond_f rfl ⟨_, _, (readAt_get H10 (by simp)).trans rfl, ?_⟩
    refine ret_ri (ct90 hO hlt.1 hlt.2 (ok.kp k10) (ht.kp k10 ht.1)) fun a' n' c' h' X' K' _ => ?_
    exact ⟨_, _, _, rfl, X', k10.trans (K'.le k10.nx)⟩
end
end Go.Proofs.YtfgfhplgnfbaaaaDoor
/- The oracle for slices.SortFunc is sound: a long row of whole numbers, sorted by a key. -/
namespace Go.Ev
open Go Go.Shelf Go.Proofs Go.Lib Go.Sort
theorem Went.wastes {P : Program} {h : Hp} {ι : Inj} : ∀ (os : List Obj) {w : World}, RH P ι h w → Went P h ι w h ι (grow w os.toArray) := by
  intro os
  induction os with
  | nil => intro w R; rw [show grow w [].toArray = w from grow_empty w]; exact .refl R
  | cons o os ih =>
    intro w R
    have g := Went.waste R o
    have e : grow w (o :: os).toArray = grow (w.alloc o) os.toArray := by
      rw [alloc_eq_grow, grow_grow]
      congr 1
      simp
    rw [e]
    exact g.trans (ih g.rh)
/-- What the sort makes of a row. -/
def pdqL (cf : Int → Int → Int) (xs : List Int) : List Int := (pdq (ltOf cf) xs.toArray 0 xs.toArray.size (Lib.bitLen xs.toArray.size) true true).toList
theorem pdqL_spec {cf : Int → Int → Int} (hO : SWO (ltOf cf)) (xs : List Int) : (pdqL cf xs).Perm xs ∧ (pdqL cf xs).Pairwise fun x y => ltOf cf y x = false := by
  obtain ⟨⟨h1, _, h2⟩, h3⟩ := pdq_sorts (ltOf cf) hO xs.toArray 0 xs.toArray.size (Lib.bitLen xs.toArray.size) true true (Nat.zero_le _) (Nat.le_refl _) (Or.inl rfl)
  unfold pdqL
  generalize pdq (ltOf cf) xs.toArray 0 xs.toArray.size (Lib.bitLen xs.toArray.size) true true = d at *
  refine ⟨?_, List.pairwise_iff_getElem.2 fun i j hi hj hij => ?_⟩
  · have h1' : d.toList.length = xs.length := by simpa using h1
    have h2 : (d.toList.take xs.length).Perm xs := by simpa using h2
    rwa [List.take_of_length_le (Nat.le_of_eq h1')] at h2
  · have hi' : i < d.size := by simpa using hi
    have hj' : j < d.size := by simpa using hj
    have := h3 i j (Nat.zero_le _) hij (by rw [← h1]; exact hj')
    rw [getElem!_pos d j hj', getElem!_pos d i hi'] at this
    simpa using this
/-- A long row that is to be sorted, and the memory behind it. -/
def SortQ (G : Nat) (cf : Int → Int → Int) (h : Hp) (args : List Value) (h' : Hp) : Prop :=
  ∃ b xs c, args = [.slice (some ⟨b, 0, none⟩) xs.length c, .func (.func G) #[] #[]] ∧ h.get b = some (.cells (xs.map (Value.int .i64)) 3 .grow) ∧ 12 < xs.length ∧ xs.length < 1000000 ∧ ¬ (xs.Pairwise fun x y => x.natAbs < y.natAbs) ∧ writeAt h b 0 ((pdqL cf xs).map (Value.int .i64)) = some h'
theorem map_int_inj : ∀ {xs ys : List Int}, xs.map (Value.int .i64) = ys.map (Value.int .i64) → xs = ys := by
  intro xs
  induction xs with
  | nil => intro ys h; cases ys with
    | nil => rfl
    | cons => cases h
  | cons x xs ih =>
    intro ys h
    cases ys with
    | nil => cases h
    | cons y ys =>
      injection h with h1 h2
      injection h1 with _ h1
      rw [h1, ih h2]
theorem SortQ.one {G : Nat} {cf : Int → Int → Int} {h : Hp} {args : List Value} {h1 h2 : Hp} (a : SortQ G cf h args h1) (b : SortQ G cf h args h2) : h1 = h2 := by
  obtain ⟨b1, xs, c, e1, g1, _, _, _, w1⟩ := a
  obtain ⟨b2, ys, c2, e2, g2, _, _, _, w2⟩ := b
  rw [e1] at e2
  injection e2 with e2 _
  injection e2 with e2 _ _
  injection e2 with e2
  injection e2 with e2 _ _
  subst e2
  rw [g1] at g2
  injection g2 with g2
  injection g2 with g2 _ _
  rw [map_int_inj g2, w2] at w1
  exact (Option.some.inj w1).symm
section
variable {P : Program} {ρ : Ren} (L : SlLaysF.n6 P ρ) {G : Nat} {cf : Int → Int → Int} (hO : SWO (ltOf cf)) (eg : ∀ args w, (callFunc G args).run P w = .ok (.enter G args) w)
  (hc : ∀ x y W, Calls P G #[.int .i64 x, .int .i64 y] W fun e w' => e = .returned (.int .i64 (cf x y)) ∧ ∃ q, w' = W.drewN q)
include L hO eg hc
theorem sort_sound (hG : G < yB) {ι : Inj} {h h' : Hp} {w : World} {args args' : List Value} (R : RH P ι h w) (hs : SortQ G cf h args h') (ha : VRs ι args args') : Calls P (ρ.f 6) args'.toArray w (InsQ P ι h w h' (.tuple #[])) := by
  obtain ⟨b, xs, c, rfl, hg, h12, hbig, _, hw⟩ := hs
  obtain ⟨_, vw, hvw, hone, cv, ev, fr, hb, hcv, hfr, _⟩ := R.live b _ hg
  obtain rfl : fr = (0, 0) := hfr (by decide)
  obtain ⟨s', f', rfl, hs', hf'⟩ : ∃ s' f', args' = [s', f'] ∧ VR ι (.slice (some ⟨b, 0, none⟩) xs.length c) s' ∧ VR ι (.func (.func G) #[] #[]) f' := by
    obtain ⟨hl, hv⟩ := ha
    match args', hl with
    | [s', f'], _ => exact ⟨s', f', rfl, hv 0 _ _ rfl rfl, hv 1 _ _ rfl rfl⟩
  obtain rfl := VR.of_flat (by simp [flat, flatN, noY]; exact hG) hf'
  obtain ⟨cap, rfl⟩ : ∃ cap, s' = .slice (some ⟨vw.blk, vw.base + 0, none⟩) xs.toArray.size cap := by
    have len : xs.toArray.size = xs.length := by simp
    rw [len]
    generalize xs.length = n at h12 hs'
    cases hs' with
    | flat hf => simp [flat, flatN] at hf
    | slc hv _ => rw [hvw] at hv; cases hv; exact ⟨_, rfl⟩
    | slu hv _ _ => rw [hvw] at hv; cases hv; exact ⟨_, rfl⟩
    | sl0 _ _ => omega
  have hH : Holds (Value.int .i64) w vw.blk (vw.base + 0) xs.toArray := fun j hj => by
    have hj' : j < xs.length := by simpa using hj
    obtain ⟨y, hy, hvy⟩ := hcv j _ (show (xs.map (Value.int .i64))[j]? = some (.int .i64 xs[j]) by rw [List.getElem?_map, List.getElem?_eq_getElem hj']; rfl)
    obtain rfl := VR.of_flat rfl hvy
    have ej : xs.toArray[j]! = xs[j] := by rw [getElem!_pos xs.toArray j hj]; simp
    rw [ej]
    refine ⟨?_, ?_⟩
    · simpa [World.cell?, hb] using hy
    · simp [World.frozen?, hb]
  have hblk : vw.blk < w.heap.size := (Array.getElem?_eq_some_iff.1 hb).1
  refine (Any.slices_SortFunc_eq L (Value.int .i64) (fun _ => rfl) cf hO G #[] vw.blk (vw.base + 0) cap xs.toArray w eg (CmpReads.lays fun m os dk _ x y => hc x y _) hH hblk (by simp; omega)).mono fun e w' ⟨he, n, os, hw'⟩ => ?_
  have hp : (pdqL cf xs).length = xs.toArray.size := by rw [(pdqL_spec hO xs).1.length_eq]; simp
  have e1 : putRow (Value.int .i64) (Sort.ahead w n) vw.blk (vw.base + 0) (pdq (ltOf cf) xs.toArray 0 xs.toArray.size (Lib.bitLen xs.toArray.size) true true) = (w.drewN n).setCells vw.blk (vw.base + 0) ((pdqL cf xs).map (Value.int .i64)) := by
    have := putRow_eq_setCells (Value.int .i64) w vw.blk (vw.base + 0) xs.toArray (pdqL cf xs) n hH hp
    rw [← this]
    unfold pdqL
    simp
  subst he hw'
  have W1 := Went.write R hw hvw (vs' := (pdqL cf xs).map (Value.int .i64)) ⟨rfl, fun i x y hx hy => by
    rw [hx] at hy
    obtain rfl := Option.some.inj hy
    rw [List.getElem?_map] at hx
    cases hz : (pdqL cf xs)[i]? with
    | none => rw [hz] at hx; cases hx
    | some z =>
      rw [hz] at hx
      obtain rfl := Option.some.inj hx
      exact .flat rfl⟩
  have f0 := setCells_facts vw.blk ((pdqL cf xs).map (Value.int .i64)) (vw.base + 0) w
  have W2 : Went P h ι w h' ι ((w.drewN n).setCells vw.blk (vw.base + 0) ((pdqL cf xs).map (Value.int .i64))) := by
    have f1 := setCells_facts vw.blk ((pdqL cf xs).map (Value.int .i64)) (vw.base + 0) (w.drewN n)
    refine W1.world ?_ (f1.2.2.1.trans f0.2.2.1.symm) (f1.2.1.trans f0.2.1.symm) (f1.2.2.2.1.trans f0.2.2.2.1.symm)
    have hbd : (w.drewN n).heap[vw.blk]? = some (.cells cv ev (0, 0)) := hb
    have hle : vw.base + 0 + ((pdqL cf xs).map (Value.int .i64)).length ≤ cv.size := by
      rw [List.length_map, hp]
      have hx : 0 < xs.length := by omega
      obtain ⟨y, hy, _⟩ := hcv (xs.length - 1) _ (show (xs.map (Value.int .i64))[xs.length - 1]? = some (.int .i64 (xs[xs.length - 1]'(by omega))) by rw [List.getElem?_map, List.getElem?_eq_getElem (by omega)]; rfl)
      have := (Array.getElem?_eq_some_iff.1 hy).1
      have e : xs.toArray.size = xs.length := by simp
      omega
    obtain ⟨c1, a1, _, a3⟩ := sc_get hbd hle
    obtain ⟨c2, b1, _, b3⟩ := sc_get hb hle
    refine Array.ext_getElem? fun q => ?_
    by_cases hq : q = vw.blk
    · subst hq
      rw [a1, b1]
      have : c1 = c2 := Array.ext_getElem? fun j => by rw [a3, b3]
      rw [this]
    · rw [f1.2.2.2.2.1 q hq, f0.2.2.2.2.1 q hq]; rfl
  have W3 := W2.trans (Went.wastes os.toList W2.rh)
  refine ⟨ι, .tuple #[], rfl, ?_, .flat rfl⟩
  unfold sortWorld
  rw [e1]
  simpa using W3
end
end Go.Ev
/- slices.SortFunc at the numbers of this program. -/
namespace Go.Proofs.YtfgfhplgnfbaaaaDoor
open Go Go.Shelf
def ren6 : Go.Shelf.Ren := ⟨fun | 6 => 74 | 15 => 116 | 14 => 115 | 28 => 135 | 29 => 136 | 20 => 127 | 21 => 128 | 22 => 129 | 23 => 130 | 24 => 131 | 25 => 132 | 26 => 133 | 27 => 134 | 46 => 140 | 47 => 141 | 48 => 142 | 49 => 143 | 50 => 144 | 57 => 145 | n => n, fun | 22 => 32 | 24 => 3 | 25 => 94 | 3 => 3 | 39 => 135 | 0 => 0 | 53 => 97 | 55 => 155 | 4 => 4 | 46 => 148 | 45 => 147 | 50 => 152 | 5 => 5 | 9 => 9 | 66 => 157 | 70 => 161 | 76 => 163 | 77 => 164 | n => n, fun | n => n⟩
theorem lays6 : Go.Proofs.SlLaysF.n6 Tryd.prog ren6 := {
  mixed := by kernel_rfl
  f6 := ⟨Tryd.f74.name, by decide, Tryd.func74.trans (congrArg some (by kernel_rfl))⟩
  f14 := ⟨Tryd.f115.name, by decide, Tryd.func115.trans (congrArg some (by kernel_rfl))⟩
  f15 := Tryd.func116.trans (congrArg some (by kernel_rfl))
  f20 := ⟨Tryd.f127.name, by decide, Tryd.func127.trans (congrArg some (by kernel_rfl))⟩
  f21 := ⟨Tryd.f128.name, by decide, Tryd.func128.trans (congrArg some (by kernel_rfl))⟩
  f22 := ⟨Tryd.f129.name, by decide, Tryd.func129.trans (congrArg some (by kernel_rfl))⟩
  f23 := ⟨Tryd.f130.name, by decide, Tryd.func130.trans (congrArg some (by kernel_rfl))⟩
  f24 := ⟨Tryd.f131.name, by decide, Tryd.func131.trans (congrArg some (by kernel_rfl))⟩
  f25 := ⟨Tryd.f132.name, by decide, Tryd.func132.trans (congrArg some (by kernel_rfl))⟩
  f26 := ⟨Tryd.f133.name, by decide, Tryd.func133.trans (congrArg some (by kernel_rfl))⟩
  f27 := ⟨Tryd.f134.name, by decide, Tryd.func134.trans (congrArg some (by kernel_rfl))⟩
  f28 := Tryd.func135.trans (congrArg some (by kernel_rfl))
  f29 := Tryd.func136.trans (congrArg some (by kernel_rfl))
  f46 := ⟨Tryd.f140.name, by decide, Tryd.func140.trans (congrArg some (by kernel_rfl))⟩
  f47 := Tryd.func141.trans (congrArg some (by kernel_rfl))
  f48 := Tryd.func142.trans (congrArg some (by kernel_rfl))
  f49 := ⟨Tryd.f143.name, by decide, Tryd.func143.trans (congrArg some (by kernel_rfl))⟩
  f50 := ⟨Tryd.f144.name, by decide, Tryd.func144.trans (congrArg some (by kernel_rfl))⟩
  f57 := ⟨Tryd.f145.name, by decide, Tryd.func145.trans (congrArg some (by kernel_rfl))⟩
  t0 := Tryd.underlying0
  a0 := Tryd.isAgg0
  z0 := Tryd.sizeOf0
  v0 := Tryd.zeroValue0
  t3 := Tryd.underlying3
  a3 := Tryd.isAgg3
  z3 := Tryd.sizeOf3
  v3 := Tryd.zeroValue3
  t4 := Tryd.underlying4
  a4 := Tryd.isAgg4
  z4 := Tryd.sizeOf4
  v4 := Tryd.zeroValue4
  t5 := Tryd.underlying5
  a5 := Tryd.isAgg5
  z5 := Tryd.sizeOf5
  v5 := Tryd.zeroValue5
  t9 := Tryd.underlying9
  a9 := Tryd.isAgg9
  z9 := Tryd.sizeOf9
  v9 := Tryd.zeroValue9
  t22 := Tryd.underlying32
  a22 := Tryd.isAgg32
  z22 := Tryd.sizeOf32
  v22 := Tryd.zeroValue32
  a24 := Tryd.isAgg3
  z24 := Tryd.sizeOf3
  t25 := Tryd.underlying94
  a25 := Tryd.isAgg94
  z25 := Tryd.sizeOf94
  v25 := Tryd.zeroValue94
  t39 := Tryd.underlying135
  a39 := Tryd.isAgg135
  z39 := Tryd.sizeOf135
  v39 := Tryd.zeroValue135
  t45 := Tryd.underlying147
  a45 := Tryd.isAgg147
  z45 := Tryd.sizeOf147
  v45 := Tryd.zeroValue147
  t46 := Tryd.underlying148
  a46 := Tryd.isAgg148
  z46 := Tryd.sizeOf148
  v46 := Tryd.zeroValue148
  t50 := Tryd.underlying152
  a50 := Tryd.isAgg152
  z50 := Tryd.sizeOf152
  v50 := Tryd.zeroValue152
  t53 := Tryd.underlying97
  a53 := Tryd.isAgg97
  z53 := Tryd.sizeOf97
  v53 := Tryd.zeroValue97
  t55 := Tryd.underlying155
  a55 := Tryd.isAgg155
  z55 := Tryd.sizeOf155
  v55 := Tryd.zeroValue155
  t66 := Tryd.underlying157
  a66 := Tryd.isAgg157
  z66 := Tryd.sizeOf157
  v66 := Tryd.zeroValue157
  t70 := Tryd.underlying161
  a70 := Tryd.isAgg161
  z70 := Tryd.sizeOf161
  v70 := Tryd.zeroValue161
  t76 := Tryd.underlying163
  a76 := Tryd.isAgg163
  z76 := Tryd.sizeOf163
  v76 := Tryd.zeroValue163
  t77 := Tryd.underlying164
  a77 := Tryd.isAgg164
  z77 := Tryd.sizeOf164
  v77 := Tryd.zeroValue164 }
end Go.Proofs.YtfgfhplgnfbaaaaDoor
/- The comparison of literals, in whatever world. -/
namespace Go.Proofs.YtfgfhplgnfbaaaaDoor
open Go Go.Proofs Go.RowKit Go.Lib
theorem w94 (x : Int) (W : World) : Calls Tryd.prog 94 #[.int .i64 x] W fun e w' => e = .returned (.int .i64 (varI x)) ∧ ∃ q, w' = W.drewN q := by
  unfold varI
  by_cases h1 : x < -30
  · rw [if_pos (.inl h1)]
    go_enter Tryd.func94, Tryd.ntmps94
    go_wp2
    go_ret
    exact ⟨rfl, 0, rfl⟩
  · by_cases h2 : 30 < x
    · rw [if_pos (.inr h2)]
      go_enter Tryd.func94, Tryd.ntmps94
      go_wp2
      go_ret
      exact ⟨rfl, 0, rfl⟩
    · rw [if_neg (by omega)]
      by_cases h3 : x < 0
      · rw [if_pos h3]
        go_enter Tryd.func94, Tryd.ntmps94
        go_wp2
        go_ret
        exact ⟨by show Ending.returned (.int .i64 (max x (-x))) = _; rw [show max x (-x) = -x by omega], 0, rfl⟩
      · rw [if_neg h3]
        go_enter Tryd.func94, Tryd.ntmps94
        go_wp2
        go_ret
        exact ⟨by show Ending.returned (.int .i64 (max x (-x))) = _; rw [show max x (-x) = x by omega], 0, rfl⟩
theorem varI_rng (x : Int) : 0 ≤ varI x ∧ varI x ≤ 30 := by
  unfold varI
  split
  · omega
  · split <;> omega
set_option maxRecDepth 100000 in
theorem w123 (x y : Int) (W : World) : Calls Tryd.prog 123 #[.int .i64 x, .int .i64 y] W fun e w' => e = .returned (.int .i64 (varI x - varI y)) ∧ ∃ q, w' = W.drewN q := by
  have hx := varI_rng x
  have hy := varI_rng y
  have c : ∀ z W, Calls Tryd.prog 94 #[.int .i64 z] W fun e w' => e = .returned (.int .i64 (varI z)) ∧ ∃ q, w' = W.drewN q := w94
  generalize varI = vf at *
  go_enter Tryd.func123, Tryd.ntmps123
  go_wp2_with (go_at_call 94; refine (c _ _).mono ?_; rintro e w' ⟨rfl, q, rfl⟩)
  go_ret
  exact ⟨rfl, _, rfl⟩
end Go.Proofs.YtfgfhplgnfbaaaaDoor
/- slices.SortFunc of a long row is answered beforehand too. -/
namespace Go.Proofs.YtfgfhplgnfbaaaaDoor
open Go Go.Ev Go.Sort
/-- The comparison of literals. -/
def kf (x y : Int) : Int := varI x - varI y
theorem kf_lt (x y : Int) : ltOf kf x y = true ↔ varI x < varI y := by unfold ltOf kf; rw [decide_eq_true_iff]; omega
theorem kf_ge (x y : Int) : ltOf kf x y = false ↔ varI y ≤ varI x := by
  have := kf_lt x y
  cases h : ltOf kf x y with
  | true => rw [h] at this; simp at this; simp; omega
  | false => rw [h] at this; simp at this; simp; omega
theorem swo : SWO (ltOf kf) := ⟨fun x => by rw [kf_ge]; exact Int.le_refl _, fun x y z h1 h2 => by rw [kf_lt] at *; omega, fun x y z h1 h2 => by rw [kf_ge] at *; omega⟩
open Classical in
noncomputable def Ow5 : CallF := fun f args h => if f = 74 then (if H : ∃ h', SortQ 123 kf h args h' then some (undef, H.choose) else none) else Ow f args h
set_option maxRecDepth 100000 in
theorem Ow5_ok : COk Tryd.prog Ow5 := by
  intro f args h v h' hs iota w args' R ha rd o a next Q hn
  unfold Ow5 at hs
  by_cases hf : f = 74
  · subst hf
    rw [if_pos rfl] at hs
    split at hs
    · rename_i H
      injection hs with hs
      injection hs with e1 e2
      subst e1 e2
      have hq := H.choose_spec
      rw [run_callFunc noNum Tryd.func74 (by kernel_rfl) args'.toArray w]
      refine ⟨fun _ => ⟨fun h => (by cases h), calls_rd ((sort_sound (ρ := ren6) lays6 swo (fun _ _ => run_callFunc noNum Tryd.func123 (by kernel_rfl) _ _) w123 (by decide) R hq ha).mono fun e w' ⟨iota', v', he, g, hv⟩ => ?_)⟩, fun l hl => ?_⟩
      · subst he
        exact hn iota' v' w' g hv
      · exact absurd hl (Nat.ne_of_lt (Nat.lt_of_lt_of_le (by decide : 74 < yB) (Nat.le_add_right yB l)))
    · cases hs
  · rw [if_neg hf] at hs
    exact Ow_ok f args h v h' hs iota w args' R ha rd o a next Q hn
theorem Ow5_sort {h : Hp} {args : List Value} {h' : Hp} (e : SortQ 123 kf h args h') : EvC Tryd.prog Ow5 74 args h undef h' := by
  refine ⟨0, ?_⟩
  show Ow5 74 args h = _
  unfold Ow5
  have H : ∃ h', SortQ 123 kf h args h' := ⟨h', e⟩
  rw [if_pos rfl, dif_pos H, SortQ.one H.choose_spec e]
theorem Ow5_works {h : Hp} (hn : 0 < h.nx) (hh : h.get 0 = some (.cells tab 0 .ro)) : EvC Tryd.prog Ow5 27 [] h (.bool true) h := by
  have h0 : Ow 27 [] h = some (.bool true, h) := by
    unfold Ow
    show (match ([] : List Value), h.get 0 with
      | [], some (.cells l 0 .ro) => bif Nat.blt 0 h.nx && isTab l tab then some (Value.bool true, h) else none
      | _, _ => none) = _
    rw [hh]
    simp only [tab_self, show Nat.blt 0 h.nx = true by simpa using hn, Bool.and_self, cond_true]
  refine ⟨0, ?_⟩
  show Ow5 27 [] h = _
  unfold Ow5
  rw [if_neg (by decide)]
  exact h0
theorem Ow5_none {args : List Value} {h : Hp} (H : ∀ h', ¬ SortQ 123 kf h args h') : Ow5 74 args h = none := by
  unfold Ow5
  rw [if_pos rfl, dif_neg]
  exact fun ⟨h', e⟩ => H h' e
theorem ints_same {h : Hp} {b n : Nat} {xs ys : List Int} {e : TypeId} {m : Md} (X : IntsAt h (some ⟨b, 0, none⟩) n xs) (hn : n = ys.length) (hg : h.get b = some (.cells (ys.map (Value.int .i64)) e m)) : xs = ys := by
  have hl : xs.length = ys.length := X.1.symm.trans hn
  refine List.ext_getElem hl fun i h1 h2 => ?_
  rcases X.2 with ⟨_, h0⟩ | ⟨b', off, c, e', m', h3, _, h4, h5, h6⟩
  · cases h0
  · injection h3 with h3
    injection h3 with h3 h7 _
    subst h3 h7
    rw [hg] at h4
    injection h4 with h4
    injection h4 with h4 _ _
    subst h4
    have := h6 i h1
    unfold EInt at this
    rw [Nat.zero_add, Nat.mul_one] at this
    have e1 : ((ys.map (Value.int .i64)).drop i).take 1 = [.int .i64 ys[i]] := by
      rw [List.drop_eq_getElem_cons (by simpa using h2)]; simp
    rw [e1] at this
    injection this with this _
    injection this with _ this
    exact this.symm
theorem Ow5_oth : Oth Ow5 := ⟨fun f args h hf => by
    unfold Ow5
    rw [if_neg hf.2.2]
    exact Ow_oth0 f args h ⟨hf.1, hf.2.1⟩, fun a n c l h hn => Ow5_none fun h' ⟨b, xs, c', e, _, h12, _⟩ => by
    injection e with e _
    injection e with _ e _
    omega, fun a n c l h xs X hs => Ow5_none fun h' ⟨b, ys, c', e, hg, _, _, hns, _⟩ => by
    injection e with e _
    injection e with e1 e2 _
    subst e1
    rw [ints_same X e2 hg] at hs
    exact hns hs⟩
end Go.Proofs.YtfgfhplgnfbaaaaDoor
/- What is known of a memory: who has which objects. A step of the code changes one's own alone. -/
namespace Go.Ev
open Go
/-- From one memory to a later one: of what there was some objects alone change. -/
structure Ch (S : Nat → Prop) (h h' : Hp) : Prop where
  get : ∀ o, o < h.nx → ¬ S o → h'.get o = h.get o
  nx : h.nx ≤ h'.nx
  gd : h'.gd = h.gd
  fr : h.Fresh → h'.Fresh
theorem Ch.refl (S : Nat → Prop) (h : Hp) : Ch S h h := ⟨fun _ _ _ => rfl, Nat.le_refl _, rfl, id⟩
theorem Ch.trans {S : Nat → Prop} {h h' h'' : Hp} (a : Ch S h h') (b : Ch S h' h'') : Ch S h h'' := ⟨fun o ho hS => (b.get o (Nat.lt_of_lt_of_le ho a.nx) hS).trans (a.get o ho hS), Nat.le_trans a.nx b.nx, b.gd.trans a.gd, fun f => b.fr (a.fr f)⟩
theorem Ch.low {S : Nat → Prop} {h h' : Hp} {n : Nat} (a : Ch S h h') (hn : n ≤ h.nx) (hs : ∀ o, S o → n ≤ o) : Kp n h h' := ⟨fun o ho => a.get o (by omega) (fun h => by have := hs o h; omega), a.nx, a.gd, a.fr⟩
theorem Ch.wr (h : Hp) (b off : Nat) (vs : List Value) : Ch (fun o => o = b) h (h.wr b off vs) := ⟨fun _ _ hne => wr_get_ne _ _ _ _ hne, by rw [nx_wr]; exact Nat.le_refl _, gd_wr .., fun f => f.wr _ _ _⟩
/-- Something that somebody has: objects, and what is so of them. -/
structure Rs where
  own : Nat → Prop
  P : Hp → Prop
/-- It speaks of its own objects alone. -/
def Rs.Loc (r : Rs) : Prop := ∀ h h' : Hp, h.nx ≤ h'.nx → (∀ b, r.own b → h'.get b = h.get b) → r.P h → r.P h'
/-- An object. -/
def ob (b : Nat) (x : Ob) : Rs := ⟨fun o => o = b, fun h => h.get b = some x⟩
theorem ob.loc (b : Nat) (x : Ob) : (ob b x).Loc := fun _ _ _ h e => (h b rfl).trans e
/-- A list that grows. -/
def acc (lo : Nat) (e : TypeId) (esz : Nat) (a : Option Addr) (n c : Nat) (xs : List Value) : Rs := ⟨fun o => a = some ⟨o, 0, none⟩, fun h => AccE h lo e esz a n c xs⟩
theorem acc.loc (lo : Nat) (e : TypeId) (esz : Nat) (a : Option Addr) (n c : Nat) (xs : List Value) : (acc lo e esz a n c xs).Loc := fun _ _ hn h A => A.keep (fun o _ ha => h o ha) hn
/-- Numbers that are laid aside. -/
def hole (lo k : Nat) (used : List Nat) : Rs := ⟨fun o => lo ≤ o ∧ o < lo + k ∧ o ∉ used, fun h => ∀ o, lo ≤ o → o < lo + k → o ∉ used → h.get o = none⟩
theorem hole.loc (lo k : Nat) (used : List Nat) : (hole lo k used).Loc := fun _ _ _ h e o h1 h2 h3 => (h o ⟨h1, h2, h3⟩).trans (e o h1 h2 h3)
/-- What is known of a memory that began as another one. -/
structure Know (h0 g : Hp) (L : List Rs) : Prop where
  ok : g.Ok
  kp : Kp h0.nx h0 g
  at_ : ∀ r ∈ L, r.Loc ∧ r.P g ∧ ∀ b, r.own b → h0.nx ≤ b ∧ b < g.nx
  dis : L.Pairwise (fun r s => ∀ b, r.own b → ¬ s.own b)
  ok0 : h0.Ok
section
variable {h0 g : Hp} {L : List Rs}
theorem Know.nil (ok : g.Ok) : Know g g [] := ⟨ok, Kp.refl _ _, fun _ h => (by cases h), .nil, ok⟩
theorem Know.len (_ : Know h0 g L) {i : Nat} {r : Rs} (hi : L[i]? = some r) : i < L.length := (List.getElem?_eq_some_iff.1 hi).1
theorem Know.lo (S : Know h0 g L) : h0.nx ≤ g.nx := S.kp.nx
theorem Know.gl (S : Know h0 g L) : GdLt g h0.nx := fun q hq => by rw [S.kp.gd] at hq; exact S.ok0.gd q hq
theorem Know.get (S : Know h0 g L) (i : Nat) {r : Rs} (hi : L[i]? = some r) : r.P g := (S.at_ r (List.mem_of_getElem? hi)).2.1
theorem Know.obj (S : Know h0 g L) (i : Nat) {b : Nat} {x : Ob} (hi : L[i]? = some (ob b x)) : g.get b = some x := S.get i hi
theorem Know.rng (S : Know h0 g L) (i : Nat) {r : Rs} (hi : L[i]? = some r) : ∀ b, r.own b → h0.nx ≤ b ∧ b < g.nx := (S.at_ r (List.mem_of_getElem? hi)).2.2
theorem Know.orng (S : Know h0 g L) (i : Nat) {b : Nat} {x : Ob} (hi : L[i]? = some (ob b x)) : h0.nx ≤ b ∧ b < g.nx := S.rng i hi b rfl
theorem pw_get {α : Type} {R : α → α → Prop} (hs : ∀ a b, R a b → R b a) : ∀ {l : List α}, l.Pairwise R → ∀ {i j : Nat} {x y : α}, l[i]? = some x → l[j]? = some y → i ≠ j → R x y := by
  intro l
  induction l with
  | nil => intro _ i j x y h; cases h
  | cons a l ih =>
    intro hp i j x y hx hy hij
    obtain ⟨p1, p2⟩ := List.pairwise_cons.1 hp
    cases i with
    | zero =>
      cases j with
      | zero => exact absurd rfl hij
      | succ j => obtain rfl := Option.some.inj hx; exact p1 y (List.mem_of_getElem? (i := j) hy)
    | succ i =>
      cases j with
      | zero => obtain rfl := Option.some.inj hy; exact hs _ _ (p1 x (List.mem_of_getElem? (i := i) hx))
      | succ j => exact ih p2 (i := i) (j := j) hx hy (by omega)
theorem Know.sep (S : Know h0 g L) (i j : Nat) {r s : Rs} (hi : L[i]? = some r) (hj : L[j]? = some s) (hij : i ≠ j) : ∀ b, r.own b → ¬ s.own b :=
  pw_get (fun _ _ h b hb ha => h b ha hb) S.dis hi hj hij
/-- A new object. -/
theorem Know.add (S : Know h0 g L) (x : Ob) : Know h0 (g.add x) (ob g.nx x :: L) := by
  refine ⟨S.ok.add x, S.kp.add S.lo x, fun r hr => ?_, List.pairwise_cons.2 ⟨fun r hr b hb hrb => ?_, S.dis⟩, S.ok0⟩
  · rcases List.mem_cons.1 hr with rfl | hr
    · exact ⟨ob.loc _ _, get_add_same .., fun b hb => by cases hb; rw [nx_add]; have := S.lo; omega⟩
    · obtain ⟨h1, h2, h3⟩ := S.at_ r hr
      exact ⟨h1, h1 g _ (by rw [nx_add]; omega) (fun b hb => get_add_ne (by have := h3 b hb; omega)) h2, fun b hb => by rw [nx_add]; have := h3 b hb; omega⟩
  · have := (S.at_ r hr).2.2 b hrb
    cases hb; omega
/-- Memory goes on. -/
theorem Know.call (S : Know h0 g L) {g' : Hp} (k : Kp g.nx g g') : Know h0 g' L :=
  ⟨S.ok.kp k, S.kp.trans (k.le S.lo), fun r hr => let ⟨h1, h2, h3⟩ := S.at_ r hr; ⟨h1, h1 g g' k.nx (fun b hb => k.get b (h3 b hb).2) h2, fun b hb => by have := h3 b hb; have := k.nx; omega⟩, S.dis, S.ok0⟩
theorem Know.rsv (S : Know h0 g L) (k : Nat) : Know h0 (g.rsv k) L := S.call ((Kp.refl _ g).rsv k)
theorem Know.okg (S : Know h0 g L) {l : List Nat} (hl : ∀ q ∈ l, q < g.nx) : (g.grd l).Ok := S.ok.grd hl
/-- One changes. -/
theorem Know.upd (S : Know h0 g L) (i : Nat) {r r' : Rs} (hi : L[i]? = some r) {g' : Hp} (k : Ch r.own g g') (hl : r'.Loc) (hP : r'.P g') (ho : ∀ b, r'.own b → r.own b ∨ (g.nx ≤ b ∧ b < g'.nx)) : Know h0 g' (L.set i r') := by
  have hr := S.rng i hi
  have hi' : i < L.length := (List.getElem?_eq_some_iff.1 hi).1
  have ho' : ∀ b, r'.own b → h0.nx ≤ b ∧ b < g'.nx := fun b hb => by
    rcases ho b hb with h | h
    · have := hr b h; have := k.nx; omega
    · have := S.lo; omega
  refine ⟨⟨fun q hq => by rw [k.gd] at hq; exact Nat.lt_of_lt_of_le (S.ok.gd q hq) k.nx, k.fr S.ok.fr⟩, S.kp.trans (k.low S.lo fun o h => (hr o h).1), fun s hs => ?_, ?_, S.ok0⟩
  · obtain ⟨j, hj⟩ := List.mem_iff_getElem?.1 hs
    by_cases hij : i = j
    · subst hij
      rw [List.getElem?_set_self hi'] at hj
      obtain rfl := Option.some.inj hj
      exact ⟨hl, hP, ho'⟩
    · rw [List.getElem?_set_ne hij] at hj
      obtain ⟨h1, h2, h3⟩ := S.at_ s (List.mem_of_getElem? hj)
      exact ⟨h1, h1 g g' k.nx (fun b hb => k.get b (h3 b hb).2 fun h => S.sep i j hi hj hij b h hb) h2, fun b hb => by have := h3 b hb; have := k.nx; omega⟩
  · rw [List.pairwise_iff_getElem]
    intro a b ha hb hab
    rw [List.length_set] at ha hb
    have key : ∀ j s, i ≠ j → L[j]? = some s → ∀ q, r'.own q → ¬ s.own q := fun j s hij hj q hq hs => by
      rcases ho q hq with h | h
      · exact S.sep i j hi hj hij q h hs
      · have := (S.at_ s (List.mem_of_getElem? hj)).2.2 q hs; omega
    rw [List.getElem_set, List.getElem_set]
    by_cases h1 : i = a
    · rw [if_pos h1, if_neg (by omega)]
      exact key b _ (by omega) (List.getElem?_eq_getElem hb)
    · rw [if_neg h1]
      by_cases h2 : i = b
      · rw [if_pos h2]
        exact fun q hq hs => key a _ h1 (List.getElem?_eq_getElem ha) q hs hq
      · rw [if_neg h2]
        exact List.pairwise_iff_getElem.1 S.dis a b ha hb hab
theorem Ch.rst {R : Nat → Prop} {l : List Nat} {h' : Hp} (k : Ch R (g.grd l) h') : Ch R g (h'.rst g) := ⟨k.get, k.nx, rfl, fun f => k.fr f⟩
/-- Something new. -/
theorem Know.push (S : Know h0 g L) {r' : Rs} {g' : Hp} (k : Kp g.nx g g') (hl : r'.Loc) (hP : r'.P g') (ho : ∀ b, r'.own b → g.nx ≤ b ∧ b < g'.nx) : Know h0 g' (r' :: L) := by
  have T := S.call k
  refine ⟨T.ok, T.kp, fun r hr => ?_, List.pairwise_cons.2 ⟨fun r hr b hb hrb => ?_, T.dis⟩, S.ok0⟩
  · rcases List.mem_cons.1 hr with rfl | hr
    · exact ⟨hl, hP, fun b hb => by have := ho b hb; have := S.lo; omega⟩
    · exact T.at_ r hr
  · have := (S.at_ r hr).2.2 b hrb
    have := ho b hb; omega
/-- What is known of the second one of two. -/
theorem Know.sub (S : Know h0 g L) (M : List Rs) (h : M.Sublist L) : Know h0 g M := ⟨S.ok, S.kp, fun r hr => S.at_ r (h.subset hr), S.dis.sublist h, S.ok0⟩
/-- What is appended to lies at a new number: also a row of no elements. -/
theorem append_newE {P : Program} {sT e : TypeId} {esz bytes : Nat} (T : AppT P sT e esz bytes) {h : Hp} {base : Nat} {a : Option Addr} {n c : Nat} {xs : List Value} (H : AccE h base e esz a n c xs)
    {x : Value} {ys : List Value} {k : Nat} (hx : ∃ a n c, x = .slice a n c) (hs : srcCells h esz x = some (ys, k)) (h1 : ys.all one = true) (hkp : 0 < k) {a' : Option Addr} {n' c' : Nat} {h' : Hp} (e1 : appendV P h sT sT (.slice a n c) x = some (.slice a' n' c', h')) : a' = some ⟨h.nx, 0, none⟩ := by
  rcases H with H | ⟨rfl, rfl, rfl, o, rfl, h2, h3, e2, m, h4⟩
  · exact append_new T H hx hs h1 hkp e1
  · obtain ⟨hz, info, z, hi, hzz, hrun⟩ := T.run
    rw [hrun h _ x hx, hs] at e1
    have hk0 : Nat.beq k 0 = false := by rw [Bool.eq_false_iff]; intro hh; have := Nat.eq_of_beq_eq_true hh; omega
    simp only [Option.bind_some, h1, cond_true, hk0, cond_false] at e1
    unfold appSome at e1
    have e3 : Nat.beq 0 unk = false := by
      rw [Bool.eq_false_iff]; intro hh; have := Nat.eq_of_beq_eq_true hh; have : unk = 18446744073709551616 := rfl; omega
    have e4 : Nat.ble (0 + k) 0 = false := by
      rw [Bool.eq_false_iff]; intro hh; have : 0 + k ≤ 0 := by simpa using hh
      omega
    have e5 : readAt h o 0 (0 * esz) = some [] := by rw [Nat.zero_mul, readAt_get h4 (by simp)]; rfl
    simp only [h4, e3, e4, e5, cond_false, Option.bind_some] at e1
    unfold appNew at e1
    obtain ⟨_, e1⟩ := cond_some e1
    injection e1 with e1
    injection e1 with e1 _
    injection e1 with e1 _
    exact e1.symm
/-! ### steps -/
theorem Know.gdf (S : Know h0 g L) {b : Nat} (hb : h0.nx ≤ b) : g.guarded b = false := S.gl.free hb
theorem Know.cw (S : Know h0 g L) (i : Nat) {b : Nat} {c : List Value} {e : TypeId} {m : Md} (hi : L[i]? = some (ob b (.cells c e m))) {off : Nat} {vs : List Value} (hm : m ≠ .ro) (hl : Nat.ble (off + vs.length) c.length = true) (h1 : vs.all one = true) : canW g b off vs = true := canW_t (S.obj i hi) hm (S.gdf (S.orng i hi).1) (Nat.le_of_ble_eq_true hl) h1
theorem Know.wr (S : Know h0 g L) (i : Nat) {b : Nat} {c : List Value} {e : TypeId} {m : Md} (hi : L[i]? = some (ob b (.cells c e m))) {off : Nat} {vs : List Value} (hm : m ≠ .ro) (hl : Nat.ble (off + vs.length) c.length = true) (h1 : vs.all one = true) : Know h0 (g.wr b off vs) (L.set i (ob b (.cells (putAt c off vs) e m))) :=
  S.upd i hi (Ch.wr g b off vs) (ob.loc _ _) (wr_get (S.obj i hi) hm (S.gdf (S.orng i hi).1) (Nat.le_of_ble_eq_true hl) h1) fun _ h => .inl h
theorem Know.lay (S : Know h0 g L) (i : Nat) {lo k : Nat} {used : List Nat} (hi : L[i]? = some (hole lo k used)) {q : Nat} (h1 : lo ≤ q) (h2 : q < lo + k) (h3 : q ∉ used) (x : Ob) : Know h0 (g.lay q x) (ob q x :: L.set i (hole lo k (q :: used))) := by
  have hq := S.rng i hi q ⟨h1, h2, h3⟩
  have ge : ∀ o, o ≠ q → (g.lay q x).get o = g.get o := fun o ho => by rw [get_lay, if_neg ho]
  have S1 : Know h0 (g.lay q x) (L.set i (hole lo k (q :: used))) := S.upd i hi (g' := g.lay q x) ⟨fun o _ ho => ge o (fun h => ho (h ▸ ⟨h1, h2, h3⟩)), Nat.le_refl _, rfl, fun f => f.lay hq.2 x⟩ (hole.loc _ _ _) (fun o a b c => (ge o (fun h => c (h ▸ List.mem_cons_self ..))).trans (S.get i hi o a b (fun h => c (List.mem_cons_of_mem _ h)))) fun b hb => .inl ⟨hb.1, hb.2.1, fun h => hb.2.2 (List.mem_cons_of_mem _ h)⟩
  refine ⟨S1.ok, S1.kp, fun r hr => ?_, List.pairwise_cons.2 ⟨fun r hr b hb hrb => ?_, S1.dis⟩, S.ok0⟩
  · rcases List.mem_cons.1 hr with rfl | hr
    · exact ⟨ob.loc _ _, by show (g.lay q x).get q = _; rw [get_lay, if_pos rfl], fun b hb => by cases hb; exact hq⟩
    · exact S1.at_ r hr
  · obtain rfl : b = q := hb
    obtain ⟨j, hj⟩ := List.mem_iff_getElem?.1 hr
    by_cases hij : i = j
    · subst hij
      rw [List.getElem?_set_self (List.getElem?_eq_some_iff.1 hi).1] at hj
      obtain rfl := Option.some.inj hj
      exact hrb.2.2 (List.mem_cons_self ..)
    · rw [List.getElem?_set_ne hij] at hj
      exact S.sep i j hi hj hij b ⟨h1, h2, h3⟩ hrb
theorem rst_eq {h h' : Hp} (e : h'.gd = h.gd) : h'.rst h = h' := by
  cases h'; unfold Hp.rst; cases e; rfl
/-- A list that has grown is an object. -/
theorem Know.accOb (S : Know h0 g L) (i : Nat) {lo : Nat} {e : TypeId} {esz : Nat} {a : Option Addr} {n c : Nat} {xs : List Value} (hi : L[i]? = some (acc lo e esz a n c xs)) (hx : xs ≠ []) : ∃ o, a = some ⟨o, 0, none⟩ ∧ c = unk ∧ n * esz = xs.length ∧ lo ≤ o ∧ Know h0 g (L.set i (ob o (.cells xs e .grow))) := by
  have A : AccE g lo e esz a n c xs := S.get i hi
  rcases A with (⟨_, _, _, h⟩ | ⟨o, rfl, h2, h3, h4, h5, h6⟩) | ⟨h, _⟩
  · exact absurd h hx
  · exact ⟨o, rfl, h2, h3, h4, S.upd i hi (Ch.refl _ g) (ob.loc _ _) h6 fun q hq => .inl (by cases hq; rfl)⟩
  · exact absurd h hx
/-- A list grows. -/
theorem Know.appg (S : Know h0 g L) (i : Nat) {lo : Nat} {e : TypeId} {esz : Nat} {a : Option Addr} {n c : Nat} {xs : List Value} (hi : L[i]? = some (acc lo e esz a n c xs)) (hlo : h0.nx ≤ lo) (hlo2 : lo ≤ g.nx) {P : Program} {sT : TypeId} {bytes : Nat} (T : AppT P sT e esz bytes) {l : List Nat} (hl : ∀ q ∈ l, q < lo)
    {x : Value} {ys : List Value} {k : Nat} (hx : ∃ a n c, x = .slice a n c) (hs : srcCells g esz x = some (ys, k)) (hk : ys.length = k * esz) (h1 : ys.all one = true) (hB : (n + k + (n + k)) * bytes ≤ 281474976710656) (hU : n + k < big) :
    ∃ a' n' c' h', appendV P (g.grd l) sT sT (.slice a n c) x = some (.slice a' n' c', h') ∧ n' = n + k ∧ Know h0 (h'.rst g) (L.set i (acc lo e esz a' n' c' (xs ++ ys))) := by
  have A : AccE (g.grd l) lo e esz a n c xs := S.get i hi
  have G : GdLt (g.grd l) lo := fun q hq => by
    rcases List.mem_append.1 hq with h | h
    · exact hl q h
    · have := S.gl q h; omega
  obtain ⟨a', n', c', h', e1, A', en, k'⟩ := append_accE T (h := g.grd l) A hlo2 G hx hs hk h1 hB hU
  refine ⟨a', n', c', h', e1, en, S.upd i hi (r' := acc lo e esz a' n' c' (xs ++ ys)) (g' := h'.rst g) ⟨fun o ho hne => k'.get o ho hne, k'.nx, rfl, fun f => k'.fr f⟩ (acc.loc _ _ _ _ _ _ _) (A'.keep (fun _ _ _ => rfl) (Nat.le_refl _)) fun b hb => ?_⟩
  rcases Nat.eq_zero_or_pos k with rfl | hkp
  · left
    show a = some ⟨b, 0, none⟩
    rw [← hb]
    obtain ⟨_, info, z, hi', hzz, hrun⟩ := T.run
    rw [hrun _ _ x hx, show srcCells (g.grd l) esz x = some (ys, 0) from hs] at e1
    simp only [Option.bind_some, h1, cond_true, Nat.beq_refl] at e1
    unfold appNone at e1
    split at e1
    · injection e1 with e1; injection e1 with e1 _; injection e1
    · obtain ⟨_, e1⟩ := cond_some e1
      injection e1 with e1; injection e1 with e1 _; injection e1
    · cases e1
  · have := append_newE T A hx hs h1 hkp e1
    have hb : a' = some ⟨b, 0, none⟩ := hb
    rw [this] at hb; injection hb with hb; injection hb with hb
    have := (A'.lt (by rw [this])).2
    exact .inr ⟨Nat.le_of_eq hb, by rw [← hb]; exact this⟩
/-- The same where nothing else is under way. -/
theorem Know.app (S : Know h0 g L) (i : Nat) {lo : Nat} {e : TypeId} {esz : Nat} {a : Option Addr} {n c : Nat} {xs : List Value} (hi : L[i]? = some (acc lo e esz a n c xs)) (hlo : h0.nx ≤ lo) (hlo2 : lo ≤ g.nx) {P : Program} {sT : TypeId} {bytes : Nat} (T : AppT P sT e esz bytes)
    {x : Value} {ys : List Value} {k : Nat} (hx : ∃ a n c, x = .slice a n c) (hs : srcCells g esz x = some (ys, k)) (hk : ys.length = k * esz) (h1 : ys.all one = true) (hB : (n + k + (n + k)) * bytes ≤ 281474976710656) (hU : n + k < big) :
    ∃ a' n' c' h', appendV P g sT sT (.slice a n c) x = some (.slice a' n' c', h') ∧ n' = n + k ∧ Know h0 h' (L.set i (acc lo e esz a' n' c' (xs ++ ys))) := by
  have A : AccE g lo e esz a n c xs := S.get i hi
  obtain ⟨a', n', c', h', e1, en, S'⟩ := S.appg (l := []) i hi hlo hlo2 T (fun _ h => by cases h) hx hs hk h1 hB hU
  obtain ⟨a2, n2, c2, h2, e2, _, _, k'⟩ := append_accE T A hlo2 (fun q hq => by have := S.gl q hq; omega) hx hs hk h1 hB hU
  have e1' : appendV P g sT sT (.slice a n c) x = some (.slice a' n' c', h') := e1
  rw [e1'] at e2
  have : h' = h2 := by injection e2 with e2; injection e2
  subst this
  rw [rst_eq k'.gd] at S'
  exact ⟨a', n', c', h', e1', en, S'⟩
end
end Go.Ev
/- slices.Insert of one whole number, among what is owned. -/
namespace Go.Ev
open Go
/-- A number among others. -/
def insAt {α : Type} (i : Nat) (x : α) (l : List α) : List α := l.take i ++ x :: l.drop i
theorem insAt_perm {α : Type} (i : Nat) (x : α) (l : List α) : (insAt i x l).Perm (x :: l) := by
  have h : (insAt i x l).Perm (x :: (l.take i ++ l.drop i)) := List.perm_middle
  rwa [List.take_append_drop] at h
theorem insAt_length {α : Type} (i : Nat) (x : α) (l : List α) : (insAt i x l).length = l.length + 1 := (insAt_perm i x l).length_eq
theorem putAt_ins {α : Type} : ∀ (xs : List α) (i : Nat) (x : α), i ≤ xs.length → putAt (xs ++ [x]) i (x :: xs.drop i) = insAt i x xs := by
  intro xs i x hi
  unfold insAt
  refine List.ext_getElem? fun j => ?_
  rw [putAt_get _ _ _ (by simp; omega)]
  simp only [List.length_cons, List.length_drop]
  by_cases h1 : j < i
  · rw [if_neg (by omega), List.getElem?_append_left (by omega), List.getElem?_append_left (by rw [List.length_take]; omega), List.getElem?_take, if_pos h1]
  · by_cases h2 : j < xs.length + 1
    · rw [if_pos (by omega), List.getElem?_append_right (by rw [List.length_take]; omega), List.length_take, Nat.min_eq_left hi]
    · rw [if_neg (by omega), List.getElem?_eq_none (by simp; omega), List.getElem?_eq_none (by simp; omega)]
theorem wr_of {h : Hp} {b off : Nat} {vs : List Value} (hc : canW h b off vs = true) : writeAt h b off vs = some (h.wr b off vs) := by
  unfold canW at hc
  unfold Hp.wr
  cases hw : writeAt h b off vs with
  | none => rw [hw] at hc; cases hc
  | some h' => rfl
section
variable {h0 g : Hp} {L : List Rs}
/-- What slices.Insert makes of a list that grows. -/
theorem Know.ins (S : Know h0 g L) (i j : Nat) {lo : Nat} {a : Option Addr} {n c : Nat} {xs : List Value} {v : Nat} {x : Value} (hi : L[i]? = some (acc lo 3 1 a n c xs)) (hj : L[j]? = some (ob v (.cells [x] 3 .fix))) (hij : i ≠ j) (hac : a = none ∨ c = unk) (hlo : h0.nx ≤ lo) (hlo2 : lo ≤ g.nx)
    {P : Program} {sT : TypeId} (T : AppT P sT 3 1 8) {p : Nat} (hp : p ≤ n) (hfl : flat x = true) (h1 : xs.all one = true) (hx1 : one x = true) (hB : n ≤ 1000000) :
    ∃ a' h', insV g [.slice a n c, .int .i64 (Int.ofNat p), .slice (some ⟨v, 0, none⟩) 1 1] = some (.slice a' (n + 1) unk, h') ∧ Know h0 h' (L.set i (acc lo 3 1 a' (n + 1) unk (insAt p x xs))) := by
  have hu : unk = 18446744073709551616 := rfl
  have hbg : big = 4611686018427387904 := rfl
  have hv : g.get v = some (.cells [x] 3 .fix) := S.obj j hj
  have hil : i < L.length := S.len hi
  have A : AccE g lo 3 1 a n c xs := S.get i hi
  have hlen : n = xs.length := by
    rcases A with (⟨_, h2, _, h4⟩ | ⟨o, _, _, h4, _⟩) | ⟨h2, h3, _⟩
    · rw [h2, h4]; rfl
    · rw [Nat.mul_one] at h4; exact h4
    · rw [h2, h3]; rfl
  have hs : srcCells g 1 (.slice (some ⟨v, 0, none⟩) 1 1) = some ([x], 1) := by
    show (readAt g v 0 (1 * 1)).map _ = _
    rw [readAt_get hv (by simp)]
    rfl
  obtain ⟨a', n', c', h1', e1, en, S1⟩ := S.app i hi hlo hlo2 T (x := .slice (some ⟨v, 0, none⟩) 1 1) (ys := [x]) (k := 1) ⟨_, _, _, rfl⟩ hs rfl (by rw [List.all_cons, hx1]; rfl) (by omega) (by omega)
  have ea := append_newE T A ⟨_, _, _, rfl⟩ hs (by rw [List.all_cons, hx1]; rfl) Nat.one_pos e1
  obtain ⟨_, info, z, hi', hzz, hrun⟩ := T.run
  rw [hrun g _ _ ⟨_, _, _, rfl⟩, hs] at e1
  have hok := T.ok
  rw [hi'] at hok
  simp only [hzz, Bool.and_eq_true] at hok
  have hbeq : Nat.beq 1 0 = false := rfl
  simp only [Option.bind_some, List.all_cons, hx1, List.all_nil, Bool.and_true, cond_true, hbeq, cond_false] at e1
  subst ea en
  have hi1 : (L.set i (acc lo 3 1 (some ⟨g.nx, 0, none⟩) (n + 1) c' (xs ++ [x])))[i]? = some (acc lo 3 1 (some ⟨g.nx, 0, none⟩) (n + 1) c' (xs ++ [x])) := by rw [List.getElem?_set_self hil]
  obtain ⟨o, ho, hc, _, hlo', S2⟩ := S1.accOb i hi1 (by simp)
  injection ho with ho
  injection ho with ho
  subst ho
  subst hc
  rw [List.set_set] at S2
  have hi2 : (L.set i (ob g.nx (.cells (xs ++ [x]) 3 .grow)))[i]? = some (ob g.nx (.cells (xs ++ [x]) 3 .grow)) := by rw [List.getElem?_set_self hil]
  have hone : (x :: xs.drop p).all one = true := by
    rw [List.all_cons, hx1, Bool.true_and]
    exact List.all_eq_true.2 fun y hy => List.all_eq_true.1 h1 y (List.mem_of_mem_drop hy)
  have hble : Nat.ble (p + (x :: xs.drop p).length) (xs ++ [x]).length = true := ble_t (by rw [List.length_cons, List.length_drop, List.length_append]; simp; omega)
  have cw := S2.cw i hi2 (off := p) (vs := x :: xs.drop p) (by decide) hble hone
  have S3 := S2.wr i hi2 (off := p) (vs := x :: xs.drop p) (by decide) hble hone
  rw [List.set_set, putAt_ins xs p x (by omega)] at S3
  have hw := wr_of cw
  have hi3 : (L.set i (ob g.nx (.cells (insAt p x xs) 3 .grow)))[i]? = some (ob g.nx (.cells (insAt p x xs) 3 .grow)) := by rw [List.getElem?_set_self hil]
  have S4 := S3.upd i hi3 (r' := acc lo 3 1 (some ⟨g.nx, 0, none⟩) (n + 1) unk (insAt p x xs)) (Ch.refl _ _) (acc.loc _ _ _ _ _ _ _) (.inl (.inr ⟨g.nx, rfl, rfl, by rw [insAt_length]; omega, hlo', (S3.orng i hi3).2, S3.obj i hi3⟩)) fun q hq => .inl (by injection hq with hq; injection hq with hq; exact hq.symm)
  rw [List.set_set] at S4
  refine ⟨_, _, ?_, S4⟩
  have hap : appSome g 3 8 1 (.slice a n c) [x] 1 = some (.slice (some ⟨g.nx, 0, none⟩) (n + 1) unk, h1') := e1
  rcases A with (⟨rfl, rfl, rfl, rfl⟩ | ⟨o, rfl, rfl, h4, h5, h6, h7⟩) | ⟨_, _, h3, o, h4, _⟩
  · obtain rfl : p = 0 := by omega
    show (match g.get v with
      | some (.cells [x] 3 .fix) => bif flat x then (bif Nat.beq 0 0 then (appSome g 3 8 1 (.slice none 0 0) [x] 1).bind fun r => (writeAt r.2 g.nx 0 [x]).map fun h' => (r.1, h') else none) else none
      | _ => none) = _
    rw [hv]
    simp only [hfl, cond_true, Nat.beq_refl]
    rw [hap]
    show Option.map (fun h' => (Value.slice (some ⟨g.nx, 0, none⟩) (0 + 1) unk, h')) (writeAt h1' g.nx 0 (x :: List.drop 0 [])) = _
    rw [hw]; rfl
  · have hov : o ≠ v := fun hh => S.sep i j hi hj hij o rfl hh
    show (match g.get v with
      | some (.cells [x] 3 .fix) => bif flat x then (match g.get o with
        | some (.cells old 3 .grow) => bif Nat.beq unk unk && Nat.beq n old.length && Nat.ble p n && !(Nat.beq o v) then
            (appSome g 3 8 1 (.slice (some ⟨o, 0, none⟩) n unk) [x] 1).bind fun r => (writeAt r.2 g.nx p (x :: old.drop p)).map fun h' => (r.1, h')
          else none
        | _ => none) else none
      | _ => none) = _
    rw [hv]
    simp only [hfl, cond_true, h7]
    have c2 : Nat.beq n xs.length = true := by rw [hlen]; exact Nat.beq_refl _
    have c3 : Nat.ble p n = true := ble_t hp
    have c4 : Nat.beq o v = false := by rw [Bool.eq_false_iff]; intro hh; exact hov (Nat.eq_of_beq_eq_true hh)
    rw [Nat.beq_refl, c2, c3, c4]
    simp only [Bool.and_self, Bool.not_false, cond_true]
    rw [hap]
    show Option.map (fun h' => (Value.slice (some ⟨g.nx, 0, none⟩) (n + 1) unk, h')) (writeAt h1' g.nx p (x :: List.drop p xs)) = _
    rw [hw]; rfl
  · rcases hac with h | h
    · rw [h4] at h; cases h
    · rw [h3] at h; cases h
end
end Go.Ev
/- SatUnits: contrary of any list; Learn of any decisions. -/
namespace Go.Proofs.YtfgfhplgnfbaaaaDoor
set_option maxRecDepth 100000
open Go Go.Ev
theorem putAt_all {α : Type} {l v : List α} (h : v.length = l.length) : putAt l 0 v = v := by
  refine List.ext_getElem? fun i => ?_
  rw [putAt_get _ _ _ (by omega)]
  by_cases hi : i < v.length
  · rw [if_pos ⟨Nat.zero_le _, by omega⟩, Nat.sub_zero]
  · rw [if_neg (by omega), List.getElem?_eq_none (by omega), List.getElem?_eq_none (by omega)]
section
variable {O : CallF} (hO : Oth O) (hS : ∀ {h : Hp} {args : List Value} {h' : Hp}, SortQ 123 kf h args h' → EvC Tryd.prog O 74 args h undef h')
include hO hS
omit hS in
theorem lp96g {h₀ : Hp} (ok : h₀.Ok) {a0 : Option Addr} {n0 c0 : Nat} {l : List Int} (X : IntsAt h₀ a0 n0 l) (hl : l.length < 50) (hlit : ∀ x ∈ l, Lit x) {Q : Value → Hp → Prop}
    (fin : ∀ {a : Option Addr} {n c : Nat} {h : Hp}, Kp h₀.nx h₀ h → AccI 3 h h₀.nx a n c (l.map fun x => -x) → ∃ h', EvC Tryd.prog O 74 [.slice a n c, .func (.func 123) #[] #[]] h undef h' ∧ Q (.slice a n c) h') :
    ∀ (d k : Nat), k + d = l.length → ∀ {a : Option Addr} {n c : Nat} {h : Hp}, Kp h₀.nx h₀ h → AccI 3 h h₀.nx a n c ((l.take k).map fun x => -x) → I96_0 O Q a0 n0 c0 a n c (Int.ofNat k) h := by
  have _ := hO
  have hn := X.1
  intro d
  induction d with
  | zero =>
    intro k hk a n c h K A
    refine I96_0.of _ _ _ _ _ _ _ ?_
    unfold T96_0
    rw [List.take_of_length_le (by omega)] at A
    exact vcond_f (by rw [ltI_nat]; exact blt_f (by omega)) (fin K A)
  | succ d ih =>
    intro k hk a n c h K A
    refine I96_0.of _ _ _ _ _ _ _ ?_
    intros
    unfold T96_0
    have hx := hlit l[k] (List.getElem_mem _)
    have e2 : wrapF .i64 (0 - l[k]) = -l[k] := by have := hx.2; rw [wrap64 (by omega) (by omega)]; omega
    obtain ⟨a', n', c', h', p1, p2, p3⟩ := app_int app32 A K.nx (fun q hq => by rw [K.gd] at hq; exact ok.gd q hq) (by simp; omega) (-l[k])
    refine vcond_t (by rw [ltI_nat]; exact blt_t (by omega)) (isNat_of (X.get (k := k) (by omega) fun b' off _ hlt hrd => vreq_t (blt_t (by omega)) ⟨_, by rw [readAt_kp K hlt]; exact hrd, a', n', c', h', by rw [e2]; exact p1, ?_⟩))
    rw [wrap_succ (by omega)]
    have e1 : l.take (k + 1) = l.take k ++ [l[k]] := List.take_succ_eq_append_getElem (by omega)
    refine ih (k + 1) (by omega) (K.trans (p3.kp A K.nx)) ?_ ..
    rw [e1, List.map_append]; exact p2
theorem ct96a {h : Hp} (ok : h.Ok) {a0 : Option Addr} {n0 c0 : Nat} {l : List Int} (X : IntsAt h a0 n0 l) (hl : l.length < 50) (hlit : ∀ x ∈ l, Lit x) (hd : Nod l) : Ret Tryd.prog O 96 [.slice a0 n0 c0] h (RInts h (isrt (l.map fun x => -x))) := by
  by_cases h12 : l.length ≤ 12
  · exact ct96n hO ok X h12 hlit hd
  have hdn : Nod (l.map fun x => -x) := by
    unfold Nod
    rw [List.pairwise_map]
    exact hd.imp fun {x z} hxz => by rw [Int.natAbs_neg, Int.natAbs_neg]; exact hxz
  refine rk96 _ _ _ (hO _ _ _ (by decide)) ?_
  unfold T96
  refine lp96g hO ok X hl hlit (fun {a n c h1} K A => ?_) l.length 0 (by omega) (.refl _ _) (AccI.nil ..)
  have Z := A.ints
  by_cases hs : Dif (l.map fun x => -x)
  · obtain ⟨v, h2, e2, rfl, K2⟩ := ct74 hO Z (by simpa using hl) (lit_neg hlit) hs (c0 := c)
    rw [show isrt (l.map fun x => -x) = (l.map fun x => -x) from (srt_eq hdn (List.Perm.refl _) (hs.imp fun {x y} hxy => by omega)).symm]
    exact ⟨_, e2, a, n, c, rfl, Z.up EInt.up K2, K.trans (K2.le K.nx), fun b off e => Acc.fresh A e⟩
  · have hnn : n = (l.map fun x => -x).length := Z.1
    rcases A with ⟨_, _, _, h4⟩ | ⟨o, rfl, rfl, h3, h4, h5, h6⟩
    · have : l = [] := by simpa using h4
      subst this; simp at h12
    · subst hnn
      have hp := pdqL_spec swo (l.map fun x => -x)
      have hle : (pdqL kf (l.map fun x => -x)).length = (l.map fun x => -x).length := hp.1.length_eq
      have litn := lit_neg hlit
      have es : pdqL kf (l.map fun x => -x) = isrt (l.map fun x => -x) := srt_eq hdn hp.1 (by
        refine (List.Pairwise.imp_of_mem (fun {x y} hx hy hxy => ?_) hp.2)
        rw [kf_ge, varI_lit2 (litn x (hp.1.subset hx)), varI_lit2 (litn y (hp.1.subset hy))] at hxy
        exact hxy)
      have gu : h1.guarded o = false := guarded_of fun q hq => by rw [K.gd] at hq; have := ok.gd q hq; omega
      have hcw : canW h1 o 0 ((pdqL kf (l.map fun x => -x)).map (Value.int .i64)) = true := canW_t h6 (by decide) gu (by simp [hle]) (List.all_eq_true.2 fun y hy => by obtain ⟨_, _, rfl⟩ := List.mem_map.1 hy; rfl)
      have hw := wr_of hcw
      refine ⟨_, hS ⟨o, l.map fun x => -x, unk, rfl, h6, by simp; omega, by simp; omega, hs, hw⟩, ?_⟩
      have g2 := wr_get h6 (by decide) gu (off := 0) (vs := (pdqL kf (l.map fun x => -x)).map (Value.int .i64)) (by simp [hle]) (List.all_eq_true.2 fun y hy => by obtain ⟨_, _, rfl⟩ := List.mem_map.1 hy; rfl)
      have e3 : putAt ((l.map fun x => -x).map (Value.int .i64)) 0 ((pdqL kf (l.map fun x => -x)).map (Value.int .i64)) = (isrt (l.map fun x => -x)).map (Value.int .i64) := by
        rw [es]
        exact putAt_all (by rw [List.length_map, List.length_map, (isrt_perm _).length_eq])
      rw [e3] at g2
      have kw : Kp h.nx h1 (h1.wr o 0 ((pdqL kf (l.map fun x => -x)).map (Value.int .i64))) := (Kp.refl _ _).wr h4 _ _
      refine ⟨_, _, _, rfl, ?_, K.trans kw, fun b off e => by injection e with e; injection e with e _; omega⟩
      have R := (RowAt.mk (l := isrt (l.map fun x => -x)) (by rw [nx_wr]; exact h5) g2).ints
      rw [(isrt_perm _).length_eq] at R
      exact R
end
end Go.Proofs.YtfgfhplgnfbaaaaDoor
/- SatUnits: Learn and Unit of any arguments; the reference's Unit. -/
namespace Go.Proofs.YtfgfhplgnfbaaaaDoor
set_option maxRecDepth 100000
open Go Go.Ev
/-- A list of whole numbers of which the first ones can be taken. -/
def SA (h : Hp) (a : Option Addr) (n c : Nat) (xs : List Int) : Prop := IntsAt h a n xs ∧ c < unk ∧ n ≤ c ∧ (a = none → c = 0)
theorem slice_take32 {h : Hp} {o off n cap k : Nat} (hk : k ≤ cap) (hcu : cap < unk) : sliceV Tryd.prog h 32 (.slice (some ⟨o, off, none⟩) n cap) none (some (.int .i64 (Int.ofNat k))) none = some (.slice (some ⟨o, off, none⟩) k cap) := by
  have e1 : Nat.beq cap unk = false := by rw [Bool.eq_false_iff]; intro hh; have := Nat.eq_of_beq_eq_true hh; omega
  have e2 : sz Tryd.prog 3 = some 1 := by kernel_rfl
  have e3 : Ev.seen h 3 1 (.slice (some ⟨o, off, none⟩) n cap) = some cap := by
    show (bif Nat.beq cap unk then _ else some cap) = _
    rw [e1]; rfl
  have e4 : bounds n cap none (some (.int .i64 (Int.ofNat k))) none = some (0, k, cap) := by
    unfold bounds boundM boundH boundL boundV
    simp only [Option.bind_some, Option.map_some]
    rw [ble_t hk]; rfl
  unfold sliceV
  rw [Tryd.underlying32]
  simp only [e2, bind, Option.bind_some, e3, e4, e1, Bool.false_and, cond_false, blt_t hcu, cond_true, Nat.sub_zero]
  cases Nat.beq cap 0 with
  | true => rfl
  | false => simp
theorem DE_ints3 {H : Type} {P : Program} {h : Hp} {n : Nat} {t e : TypeId} (hu : P.underlying t = some (.slice e)) (he : P.underlying e = some (.int .i64)) (hc : P.cellsOf e = 1) {cs : List Value} {d : DataW H} (hd : DE P h n t cs d) :
    ∃ a m c xs, cs = [.slice a m c] ∧ SA h a m c xs := by
  cases n with
  | zero => exact hd.elim
  | succ n =>
    unfold DE at hd
    rw [hu] at hd
    split at hd
    all_goals first | (rename_i heq; cases heq; done) | skip
    · exact ⟨none, 0, 0, [], hd, SlAt.nil .., by decide, Nat.le_refl _, fun _ => rfl⟩
    · rename_i e2 elems sp heq
      injection heq with heq; injection heq with heq
      subst heq
      obtain ⟨k, cap, c, e', h1, h2, h3, h4, h5, h6, h7⟩ := hd
      rw [hc] at h6
      have hx : ∀ i (hi : i < elems.length), ∃ x, (c.drop (i * 1)).take 1 = [.int .i64 x] := fun i hi => by
        have := h7 i hi
        rw [hc] at this
        obtain ⟨x, hx, _⟩ := DE_int he this
        exact ⟨x, hx⟩
      let xs : List Int := (List.range elems.length).map fun i => if hi : i < elems.length then (hx i hi).choose else 0
      have hl : xs.length = elems.length := by simp [xs]
      refine ⟨some ⟨k, 0, none⟩, elems.length, cap, xs, h1, ⟨hl.symm, .inr ⟨k, 0, c, e', .ro, rfl, h4, h5, by rw [hl]; omega, fun i hi => ?_⟩⟩, h2, h3, fun h => by cases h⟩
      rw [hl] at hi
      show (c.drop (0 + i * 1)).take 1 = [.int .i64 xs[i]]
      have : xs[i]'(by rw [hl]; exact hi) = (hx i hi).choose := by simp [xs, hi]
      rw [this, Nat.zero_add]
      exact (hx i hi).choose_spec
    all_goals first | exact hd.elim | skip
theorem SA.up {h h' : Hp} {a : Option Addr} {n c : Nat} {xs : List Int} (X : SA h a n c xs) (K : Kp h.nx h h') : SA h' a n c xs := ⟨X.1.up EInt.up K, X.2⟩
theorem SA.cut {O : CallF} (hO : Oth O) {h : Hp} {a : Option Addr} {n c : Nat} {xs : List Int} (X : SA h a n c xs) {k : Nat} (hk : k ≤ xs.length) : ∃ a' c', sliceV Tryd.prog h 32 (.slice a n c) none (some (.int .i64 (Int.ofNat k))) none = some (.slice a' k c') ∧ IntsAt h a' k (xs.take k) := by
  obtain ⟨X, hc, hn, hz⟩ := X
  have hl := X.1
  cases a with
  | none =>
    rcases X.2 with ⟨rfl, _⟩ | ⟨b, off, c, e, m, h1, _⟩
    · obtain rfl := hz rfl
      obtain rfl : n = 0 := hl
      obtain rfl : k = 0 := by simpa using hk
      exact ⟨none, 0, sl_none hO, by simpa using SlAt.nil ..⟩
    · cases h1
  | some ad =>
    rcases X.2 with ⟨_, h1⟩ | ⟨b, off, c', e, m, h1, _⟩
    · cases h1
    · rw [h1] at X ⊢
      exact ⟨_, _, slice_take32 (by omega) hc, SlAt.take X k hk⟩
/-- Are decisions as they should be? -/
def okD (vars : Int) (d : List Int) : Bool := d.all (fun x => decide (1 ≤ varI x ∧ varI x ≤ vars)) && decide (d.Pairwise fun x y => x.natAbs ≠ y.natAbs)
theorem varI_lit1 {x : Int} (h : 1 ≤ varI x) : Lit x := by
  unfold varI at h
  split at h
  · omega
  · split at h
    · exact ⟨by omega, by omega⟩
    · exact ⟨by omega, by omega⟩
theorem okD_t {vars : Int} {d : List Int} (h1 : ∀ x ∈ d, Lit x ∧ (x.natAbs : Int) ≤ vars) (h2 : Nod d) : okD vars d = true := by
  unfold okD
  rw [Bool.and_eq_true, List.all_eq_true, decide_eq_true_iff]
  exact ⟨fun x hx => decide_eq_true (by obtain ⟨a, b⟩ := h1 x hx; rw [varI_lit2 a]; have := a.1; omega), h2⟩
theorem okD_f1 {vars : Int} {d : List Int} {x : Int} (hx : x ∈ d) (h : ¬ (1 ≤ varI x ∧ varI x ≤ vars)) : okD vars d = false := by
  cases e : okD vars d with
  | false => rfl
  | true =>
    unfold okD at e
    rw [Bool.and_eq_true, List.all_eq_true] at e
    exact absurd (of_decide_eq_true (e.1 x hx)) h
theorem okD_f2 {vars : Int} {d : List Int} (h : ¬ Nod d) : okD vars d = false := by
  cases e : okD vars d with
  | false => rfl
  | true =>
    unfold okD at e
    rw [Bool.and_eq_true, decide_eq_true_iff] at e
    exact absurd e.2 h
/-- What Learn returns. -/
def learnP (vars : Int) (cls : List (List Int)) (d : List Int) : List Int × Int :=
  if formB vars cls = false then ([], 2) else if okD vars d = false then ([], 2) else learnF (clashN (cls.map sideN) []) d (d.length + 1) 0
theorem nod_snoc {d : List Int} {k : Nat} (hk : k < d.length) (hn : Nod (d.take k)) (h : ∀ x ∈ d.take k, x.natAbs ≠ d[k].natAbs) : Nod (d.take (k + 1)) := by
  rw [List.take_succ_eq_append_getElem hk]
  exact List.pairwise_append.2 ⟨hn, List.pairwise_singleton .., fun x hx y hy => by rw [List.mem_singleton.1 hy]; exact h x hx⟩
theorem nod_not {d : List Int} {k : Nat} (hk : k < d.length) {x : Int} (hx : x ∈ d.take k) (h : x.natAbs = d[k].natAbs) : ¬ Nod d := fun hn => by
  obtain ⟨j, hj, rfl⟩ := List.getElem_of_mem hx
  have hjk : j < k := by have := List.length_take (i := k) (l := d); omega
  rw [List.getElem_take] at h
  exact List.pairwise_iff_getElem.1 hn j k (by omega) hk hjk h
theorem fold_has {i : Nat} : ∀ {l : List Int} {m : Nat}, (m.testBit i = true ∨ ∃ x ∈ l, x.natAbs - 1 = i) → (l.foldl (fun m x => m ||| 2 ^ (x.natAbs - 1)) m).testBit i = true := by
  intro l
  induction l with
  | nil => intro m h; exact h.elim id fun ⟨x, hx, _⟩ => by cases hx
  | cons y l ih =>
    intro m h
    refine ih ?_
    rw [Nat.testBit_or, Bool.or_eq_true, Nat.testBit_two_pow]
    rcases h with h | ⟨x, hx, e⟩
    · exact .inl (.inl h)
    · rcases List.mem_cons.1 hx with rfl | hx
      · exact .inl (.inr (by simpa using e))
      · exact .inr ⟨x, hx, e⟩
theorem maskN_has {l : List Int} {x : Int} (h : x ∈ l) : (maskN l).testBit (x.natAbs - 1) = true := fold_has (.inr ⟨x, h, rfl⟩)
section
variable {O : CallF} (hO : Oth O) (hS : ∀ {h : Hp} {args : List Value} {h' : Hp}, SortQ 123 kf h args h' → EvC Tryd.prog O 74 args h undef h')
include hO hS
/-- The last loop of Learn. -/
theorem lp36_1g {h₀ : Hp} (ok : h₀.Ok) {vars left : Int} {x0_0 x5 : Int} {a0 a4 : Option Addr} {n0 c0 n4 c4 : Nat} {b : Nat} {a6 : Option Addr} {n6 c6 n2 c2 : Nat} {a2 : Option Addr} (hb : h₀.get b = some (.cells (baseC vars a6 n6 c6 none 0 0 left a2 n2 c2) 128 .fix)) (hbn : b < h₀.nx) {ss : List (Nat × Nat)} (H : SidesAt2 h₀ a6 n6 ss) (hl : ss.length < 1000000) (hss : ∀ p ∈ ss, p.1 < 2 ^ 30 ∧ p.2 < 2 ^ 30)
    {a1 : Option Addr} {n1 c1 : Nat} {d : List Int} (cut : ∀ {h' : Hp}, Kp h₀.nx h₀ h' → ∀ k, k ≤ d.length → ∃ a' c', sliceV Tryd.prog h' 32 (.slice a1 n1 c1) none (some (.int .i64 (Int.ofNat k))) none = some (.slice a' k c') ∧ IntsAt h' a' k (d.take k)) (hdl : d.length < 50) (hlit : ∀ x ∈ d, Lit x) (hd : Nod d) :
    ∀ (m k : Nat), k + m = d.length + 1 → ∀ {h : Hp}, Kp h₀.nx h₀ h → I36_1 O (fun v h' => ∃ a n c, v = .tuple #[.slice a n c, .int .i64 (learnF (clashN ss []) d m k).2] ∧ IntsAt h' a n (learnF (clashN ss []) d m k).1 ∧ Kp h₀.nx h₀ h') x0_0 a0 n0 c0 a1 n1 c1 a4 n4 c4 x5 (some ⟨b, 0, none⟩) (Int.ofNat (d.length + 1)) (Int.ofNat k) h := by
  intro m
  induction m with
  | zero =>
    intro k hk h K
    refine I36_1.of (hh := ?_) ..
    unfold T36_1
    exact vcond_f (by rw [ltI_nat]; exact blt_f (by omega)) ⟨_, _, _, rfl, SlAt.nil .., K⟩
  | succ m ih =>
    intro k hk h K
    refine I36_1.of (hh := ?_) ..
    unfold T36_1
    obtain ⟨a2', c2', s1, X1⟩ := cut K k (by omega)
    refine vcond_t (by rw [ltI_nat]; exact blt_t (by omega)) ⟨_, _, _, s1, ?_⟩
    have xl : (d.take k).length < 50 := by simp; omega
    have xlit : ∀ x ∈ d.take k, Lit x := fun x hx => hlit x (List.mem_of_mem_take hx)
    have hbh : h.get b = some (.cells (baseC vars a6 n6 c6 none 0 0 left a2 n2 c2) 128 .fix) := (K.get _ hbn).trans hb
    have hbnh : b < h.nx := Nat.lt_of_lt_of_le hbn K.nx
    have f := K.ex (Nat.le_refl _)
    obtain ⟨v3, h3, e3, rfl, K3⟩ := ct95 hO (ok.kp K) hbh hbnh (H.to h) hl hss (gs := []) (SlAt.nil ..) (by simp) (fun x hx => by cases hx) X1 (by omega) xlit (cm := c2')
    refine ⟨_, h3, e3, ?_⟩
    have k3 : Kp h₀.nx h₀ h3 := K.trans (K3.le K.nx)
    have f3 := k3.ex (Nat.le_refl _)
    simp only [learnF]
    refine vcond_split (fun hc => ?_) fun hc => ?_
    · rw [if_pos (show clashN ss [] (d.take k) = true from hc)]
      obtain ⟨a3', c3', s3, X3⟩ := cut k3 k (by omega)
      refine ⟨_, _, _, s3, ?_⟩
      have hb3 : h3.get b = some (.cells (baseC vars a6 n6 c6 none 0 0 left a2 n2 c2) 128 .fix) := (k3.get _ hbn).trans hb
      refine (ct97 hO (ok.kp k3) hb3 (Nat.lt_of_lt_of_le hbn k3.nx) (H.to h3) hl hss (gs := []) (SlAt.nil ..) (by simp) (fun x hx => by cases hx) X3 (by omega) xlit (cm := c3')).s fun a5 n5 c5 h5 ⟨X5, K5⟩ => ?_
      have tk : (d.take k).length = k := by rw [List.length_take]; omega
      rw [tk] at X5
      have sub := needF_sub (clashN ss []) k (d.take k)
      have k5 : Kp h₀.nx h₀ h5 := k3.trans (K5.le k3.nx)
      refine ret_ri (ct96a hO hS (ok.kp k5) X5 (by have := sub.length_le; omega) (fun x hx => xlit x (sub.subset hx)) (List.Pairwise.sublist sub (hd.sublist (List.take_sublist ..)))) fun a7 n7 c7 h7 X7 K7 _ => ?_
      exact ⟨_, _, _, rfl, X7, k5.trans (K7.le k5.nx)⟩
    · rw [if_neg (show ¬ clashN ss [] (d.take k) = true by intro e; have : (!(fromN ss ([] ++ d.take k)).2) = true := e; rw [this] at hc; cases hc)]
      rw [wrap_succ (by omega)]
      exact ih (k + 1) (by omega) k3
theorem ct36p {a a1 : Option Addr} {n c n1 c1 : Nat} {vars : Int} {h : Hp} {cls : List (List Int)} (ok : h.Ok) (H : IntssAt h a n cls) (hl : cls.length < 10000) (hll : ∀ l ∈ cls, l.length < 1000000)
    {d : List Int} (A : SA h a1 n1 c1 d) (hdl : d.length < 50) :
    Ret Tryd.prog O 36 [Fm vars a n c, .slice a1 n1 c1] h fun v h' => ∃ a n c, v = .tuple #[.slice a n c, .int .i64 (learnP vars cls d).2] ∧ IntsAt h' a n (learnP vars cls d).1 ∧ Kp h.nx h h' := by
  refine rk36 _ _ _ _ _ _ _ (hO _ _ _ (by decide)) ?_
  unfold T36
  intro g1
  have kp : Kp h.nx h g1 := fm_kp h vars a n c
  have g : g1.get h.nx = some (.cells [.int .i64 vars, .slice a n c] 30 .fix) := fm_get h vars a n c
  have n1x : g1.nx = h.nx + 1 := nx_add ..
  refine ⟨_, _, _, _, by rw [readAt_get g (by simp)]; rfl, ?_⟩
  obtain ⟨v1, h7, e7, rfl, K7⟩ := ct31 hO (c := c) (vars := vars) (H.up EInts.up kp) (by omega) hll
  have k7 : Kp h.nx h h7 := kp.trans (K7.le kp.nx)
  have g7 : h7.get h.nx = some (.cells [.int .i64 vars, .slice a n c] 30 .fix) := by rw [K7.get _ (by omega)]; exact g
  have f7 := k7.ex (Nat.le_refl _)
  refine ⟨_, h7, e7, ?_⟩
  unfold learnP
  cases hf : formB vars cls with
  | false => exact vcond_t (by decide) ⟨_, _, _, by rw [if_pos rfl]; rfl, by rw [if_pos rfl]; exact SlAt.nil .., k7⟩
  | true =>
  rw [if_pos rfl, if_neg (show ¬ (true = false) by decide)]
  refine vcond_f (by decide) ?_
  have A7 := A.up k7
  have X7 := A7.1
  have hn := X7.1
  have hlit : ∀ l ∈ cls, ∀ x ∈ l, Lit x := by
    obtain ⟨_, _, q2, _⟩ := form_bounds (vars := vars) (cls := cls) (gs := []) (by unfold askB; rw [hf]; rfl)
    exact fun l hl x hx => (clB_lit (by decide) (q2 l hl) x hx).1
  have hv30 : vars ≤ 30 := by
    obtain ⟨⟨_, q⟩, _⟩ := form_bounds (vars := vars) (cls := cls) (gs := []) (by unfold askB; rw [hf]; rfl)
    exact q
  have bad : okD vars d = false → ∀ {Q : Prop}, (∃ a n c, (Value.tuple #[.slice none 0 0, .int .i64 2]) = .tuple #[.slice a n c, .int .i64 (if okD vars d = false then (([] : List Int), (2 : Int)) else learnF (clashN (cls.map sideN) []) d (d.length + 1) 0).2] ∧ IntsAt h7 a n (if okD vars d = false then (([] : List Int), (2 : Int)) else learnF (clashN (cls.map sideN) []) d (d.length + 1) 0).1 ∧ Kp h.nx h h7) := fun e _ => ⟨_, _, _, by rw [if_pos e], by rw [if_pos e]; exact SlAt.nil .., k7⟩
  have go : ∀ (m k : Nat), k + m = d.length → (∀ x ∈ d.take k, Lit x ∧ (x.natAbs : Int) ≤ vars) → Nod (d.take k) → I36_0 O (fun v h' => ∃ a n c, v = .tuple #[.slice a n c, .int .i64 (if okD vars d = false then (([] : List Int), (2 : Int)) else learnF (clashN (cls.map sideN) []) d (d.length + 1) 0).2] ∧ IntsAt h' a n (if okD vars d = false then (([] : List Int), (2 : Int)) else learnF (clashN (cls.map sideN) []) d (d.length + 1) 0).1 ∧ Kp h.nx h h') vars a n c a1 n1 c1 h.nx 0 none 0 0 0 (Int.ofNat (maskN (d.take k))) (Int.ofNat k) h7 := by
    intro m
    induction m with
    | zero =>
      intro k hk hx hnd
      refine I36_0.of (hh := ?_) ..
      unfold T36_0
      rw [List.take_of_length_le (by omega)] at hx hnd
      rw [if_neg (by rw [okD_t hx hnd]; decide)]
      refine vcond_f (by rw [ltI_nat]; exact blt_f (by omega)) ⟨_, _, _, _, by rw [readAt_get g7 (by simp)]; rfl, ?_⟩
      obtain ⟨v8, h8, e8, b, a6, n6, c6, rfl, z1, z2, z3, z4, z5⟩ := ct76 hO (vars := vars) (ok.kp k7) (H.up EInts.up k7) hl hll hlit (c := c) (a1 := none) (n1 := 0) (c1 := 0)
      have k8 : Kp h.nx h h8 := k7.trans (z5.le k7.nx)
      refine ⟨_, h8, e8, ?_⟩
      have e : wrapF .i64 (Int.ofNat n1 + 1) = Int.ofNat (d.length + 1) := by rw [hn]; exact wrap_succ (by omega)
      rw [e]
      have := lp36_1g hO hS (ok.kp k8) z3 z2 (z4.slAt uu_len (by decide) : SidesAt2 h8 a6 n6 (cls.map sideN)) (by simp; omega) (sides_lt hO hlit) (a1 := a1) (n1 := n1) (c1 := c1) (fun {h'} K k hk => SA.cut hO (A.up (k8.trans (K.le k8.nx))) hk) hdl (fun x hx' => (hx x hx').1) hnd (d.length + 1) 0 (by omega) (.refl _ _) (x0_0 := vars) (a0 := a) (n0 := n) (c0 := c) (a4 := none) (n4 := 0) (c4 := 0) (x5 := 0)
      exact RKL.mono this fun v h' ⟨a, n, c, q1, q2, q3⟩ => ⟨a, n, c, q1, q2, k8.trans (q3.le k8.nx)⟩
    | succ m ih =>
      intro k hk hx hnd
      refine I36_0.of (hh := ?_) ..
      unfold T36_0
      have hkl : k < d.length := by omega
      refine vcond_t (by rw [ltI_nat]; exact blt_t (by omega)) (isNat_i (X7.rd hkl ⟨_, _, ct94 hO _ h7, ?_⟩))
      refine vcond_split (fun h1 => ?_) fun h1 => ⟨_, read1 g7 (i := 0) rfl, vcond_split (fun h2 => ?_) fun h2 => ?_⟩
      · have h1 := lt_of_t h1
        exact bad (okD_f1 (List.getElem_mem hkl) (by omega)) (Q := True)
      · have h2 := lt_of_t h2
        exact bad (okD_f1 (List.getElem_mem hkl) (by omega)) (Q := True)
      have h1 := not_lt_of_f h1
      have h2 := not_lt_of_f h2
      have lx : Lit d[k] := varI_lit1 (by omega)
      have vx : (d[k].natAbs : Int) ≤ vars := by rw [varI_lit2 lx] at h2; omega
      have hlt : ∀ x ∈ d.take k, Lit x := fun x h => (hx x h).1
      have ml := maskN_lt (l := d.take k) hlt
      have pl : 2 ^ (d[k].natAbs - 1) < 2 ^ 30 := Nat.pow_lt_pow_right (by decide) (by have := lx.1; have := lx.2; omega)
      have bit : EvT O 84 [.int .i64 d[k]] h7 (.int .u32 (Int.ofNat (2 ^ (d[k].natAbs - 1)))) h7 := ct84 hO lx.1 lx.2.1 lx.2.2 h7
      refine ⟨_, _, bit, vreq_t (inD_of (by omega)) (vreq_t (inD_of (by omega)) ?_)⟩
      show vcond (!(eqI (Int.ofNat (maskN (d.take k) &&& 2 ^ (d[k].natAbs - 1))) 0)) _ _
      cases hb : (maskN (d.take k)).testBit (d[k].natAbs - 1) with
      | true =>
        obtain ⟨x, hxm, e⟩ := maskN_bit hb
        have e2 : x.natAbs = d[k].natAbs := by have := (hlt x hxm).1; have := lx.1; omega
        have ne : ¬ (maskN (d.take k) &&& 2 ^ (d[k].natAbs - 1)) = 0 := by rw [testBit_and_pow, hb]; decide
        refine vcond_t ?_ (bad (okD_f2 (nod_not hkl hxm e2)) (Q := True))
        rw [eqI_f (by simp only [Int.ofNat_eq_natCast]; omega)]; rfl
      | false =>
        have ze : (maskN (d.take k) &&& 2 ^ (d[k].natAbs - 1)) = 0 := by rw [testBit_and_pow, hb]
        rw [ze]
        refine vcond_f rfl ⟨_, _, bit, vreq_t (inD_of (by omega)) (vreq_t (inD_of (by omega)) ?_)⟩
        rw [wrap_succ (by omega)]
        have e1 : d.take (k + 1) = d.take k ++ [d[k]] := List.take_succ_eq_append_getElem (by omega)
        have := ih (k + 1) (by omega) (fun x h => by
          rw [e1] at h
          rcases List.mem_append.1 h with h | h
          · exact hx x h
          · rw [List.mem_singleton.1 h]; exact ⟨lx, vx⟩) (nod_snoc hkl hnd fun x hxm e2 => by
          have := maskN_has hxm
          rw [e2, hb] at this; cases this)
        rw [e1, maskN_snoc] at this
        exact this
  exact go d.length 0 (by omega) (fun x h => by simp at h) (by simp [Nod])
end
end Go.Proofs.YtfgfhplgnfbaaaaDoor
/- SatUnits: the reference's small functions. -/
namespace Go.Proofs.YtfgfhplgnfbaaaaDoor
set_option maxRecDepth 100000
open Go Go.Ev
theorem ints_from {h : Hp} {o : Nat} {xs : List Int} (hg : h.get o = some (.cells (xs.map (Value.int .i64)) 3 .grow)) (ho : o < h.nx) {k : Nat} (hk : k ≤ xs.length) : IntsAt h (some ⟨o, 0 + k * 1, none⟩) (xs.length - k) (xs.drop k) := by
  refine ⟨by simp, .inr ⟨o, 0 + k * 1, _, _, _, rfl, ho, hg, by simp; omega, fun i hi => ?_⟩⟩
  have hi' : i < xs.length - k := by simpa using hi
  show ((xs.map (Value.int .i64)).drop (0 + k * 1 + i * 1)).take 1 = [.int .i64 (xs.drop k)[i]]
  rw [List.drop_eq_getElem_cons (by simp; omega)]
  simp
theorem seen_all {h : Hp} {o : Nat} {xs : List Int} (hg : h.get o = some (.cells (xs.map (Value.int .i64)) 3 .grow)) : Ev.seen h 3 1 (.slice (some ⟨o, 0, none⟩) xs.length unk) = some xs.length := by
  simp only [Ev.seen, Nat.beq_refl, cond_true, hg]
  have e5 : Nat.blt 0 1 = true := rfl
  rw [e5]
  show some (((xs.map (Value.int .i64)).length - 0) / 1) = some xs.length
  rw [List.length_map, Nat.sub_zero, Nat.div_one]
theorem slice_from {h : Hp} {o : Nat} {xs : List Int} (hg : h.get o = some (.cells (xs.map (Value.int .i64)) 3 .grow)) {k : Nat} (hk : k ≤ xs.length) :
    sliceV Tryd.prog h 32 (.slice (some ⟨o, 0, none⟩) xs.length unk) (some (.int .i64 (Int.ofNat k))) none none = some (.slice (some ⟨o, 0 + k * 1, none⟩) (xs.length - k) unk) := by
  have e2 : sz Tryd.prog 3 = some 1 := by kernel_rfl
  have e4 : bounds xs.length xs.length (some (.int .i64 (Int.ofNat k))) none none = some (k, xs.length, xs.length) := by
    unfold bounds boundM boundH boundL boundV
    simp only [Option.bind_some, Option.map_some]
    rw [ble_t hk]; rfl
  unfold sliceV
  rw [Tryd.underlying32]
  simp only [e2, bind, Option.bind_some, seen_all hg, e4]
  rw [Nat.beq_refl]; simp
theorem slice_to {h : Hp} {o : Nat} {xs : List Int} (hg : h.get o = some (.cells (xs.map (Value.int .i64)) 3 .grow)) {k : Nat} (hk : k ≤ xs.length) :
    sliceV Tryd.prog h 32 (.slice (some ⟨o, 0, none⟩) xs.length unk) none (some (.int .i64 (Int.ofNat k))) none = some (.slice (some ⟨o, 0, none⟩) k unk) := by
  have e2 : sz Tryd.prog 3 = some 1 := by kernel_rfl
  have e4 : bounds xs.length xs.length none (some (.int .i64 (Int.ofNat k))) none = some (0, k, xs.length) := by
    unfold bounds boundM boundH boundL boundV
    simp only [Option.bind_some, Option.map_some]
    rw [ble_t hk]; rfl
  unfold sliceV
  rw [Tryd.underlying32]
  simp only [e2, bind, Option.bind_some, seen_all hg, e4]
  rw [Nat.beq_refl]; simp
section
variable {O : CallF} (hO : Oth O)
include hO
theorem ct99 {a : Option Addr} {n c : Nat} {v : Int} {h : Hp} {xs : List Int} (X : IntsAt h a n xs) (hl : xs.length < 1000000) : EvT O 99 [.slice a n c, .int .i64 v] h (.bool (xs.any fun x => eqI (varI x) v)) h := by
  refine EvC.of_ret (rk99 _ _ _ _ (hO _ _ _ (by decide)) ?_)
  unfold T99
  have hn := X.1
  have go : ∀ (d k : Nat), k + d = xs.length → I99_0 O (fun w h' => w = .bool ((xs.drop k).any fun x => eqI (varI x) v) ∧ h' = h) a n c v false (Int.ofNat k) h := by
    intro d
    induction d with
    | zero =>
      intro k hk
      refine I99_0.of (hh := ?_) ..
      unfold T99_0
      exact vcond_f (by rw [ltI_nat]; exact blt_f (by omega)) ⟨by rw [List.drop_of_length_le (by omega)]; rfl, rfl⟩
    | succ d ih =>
      intro k hk
      refine I99_0.of (hh := ?_) ..
      unfold T99_0
      have hkl : k < xs.length := by omega
      rw [List.drop_eq_getElem_cons hkl]
      refine vcond_t (by rw [ltI_nat]; exact blt_t (by omega)) (isNat_i (X.rd hkl ⟨_, _, ct98 hO _ h, vcond_split (fun h1 => ?_) fun h1 => ?_⟩))
      · exact ⟨by rw [List.any_cons, h1]; rfl, rfl⟩
      · rw [wrap_succ (by omega)]
        exact RKL.mono (ih (k + 1) (by omega)) fun w h' ⟨e1, e2⟩ => ⟨by rw [e1, List.any_cons, h1]; rfl, e2⟩
  exact go xs.length 0 (by omega)
theorem ct100 {a a1 : Option Addr} {n c n1 c1 N : Nat} {h : Hp} (ok : h.Ok) {cls : List (List Int)} {xs : List Int} (H : IntssAt h a n cls) (hl : cls.length < 1000000) (hll : ∀ l ∈ cls, l.length < 1000000) (hN : N ≤ 30) (hlit : ∀ l ∈ cls, ∀ x ∈ l, Lit x ∧ x.natAbs < N + 1) (X : IntsAt h a1 n1 xs) (hxl : xs.length < 1000000) (hx : ∀ x ∈ xs, Lit x ∧ x.natAbs < N + 1) :
    Ret Tryd.prog O 100 [Fm (Int.ofNat N) a n c, .slice a1 n1 c1] h fun v h' => v = .bool (!(propR N cls xs).2) ∧ Kp h.nx h h' := by
  refine rk100 _ _ _ _ _ _ _ (hO _ _ _ (by decide)) ?_
  unfold T100
  intro g1
  have kp : Kp h.nx h g1 := fm_kp h (Int.ofNat N) a n c
  have g : g1.get h.nx = some (.cells [.int .i64 (Int.ofNat N), .slice a n c] 30 .fix) := fm_get h (Int.ofNat N) a n c
  refine ⟨_, read1 g (i := 0) rfl, _, _, _, read1 g (i := 1) rfl, ?_⟩
  obtain ⟨v, h2, e2, a2, n2, c2, rfl, K2, _⟩ := ct92 hO (ok.kp kp) (H.up EInts.up kp) hl hll hN hlit (X.up EInt.up kp) hxl hx (c := c) (c2 := c1)
  exact ⟨_, _, _, _, _, e2, rfl, kp.trans (K2.le kp.nx)⟩
theorem ct101 {h : Hp} (ok : h.Ok) {o i : Nat} {xs : List Int} (hg : h.get o = some (.cells (xs.map (Value.int .i64)) 3 .grow)) (ho : o < h.nx) (hi : i < xs.length) (hl : xs.length < 1000) :
    Ret Tryd.prog O 101 [.slice (some ⟨o, 0, none⟩) xs.length unk, .int .i64 (Int.ofNat i)] h fun v h' => ∃ a n c, v = .slice a n c ∧ AccE h' h.nx 3 1 a n c ((xs.eraseIdx i).map (Value.int .i64)) ∧ Kp h.nx h h' := by
  refine rk101 _ _ _ _ (hO _ _ _ (by decide)) ?_
  unfold T101
  intro g1
  have k1 : Kp h.nx h g1 := (Kp.refl _ _).rsv 11
  have hg1 : g1.get o = some (.cells (xs.map (Value.int .i64)) 3 .grow) := hg
  have ho1 : o < g1.nx := Nat.lt_of_lt_of_le ho k1.nx
  have s2 := slice_to hg1 (k := i) (by omega)
  have s3 := slice_from hg1 (k := i + 1) (by omega)
  rw [wrap_succ (by omega)]
  refine ⟨_, _, _, s2, _, _, _, s3, vreq_t (free_t (ok.fr _ (by omega))) ?_⟩
  intro g8
  have nx1 : g1.nx = h.nx + 11 := nx_rsv ..
  have k8 : Kp h.nx h g8 := k1.lay (by omega) (by omega) _
  have kl : Kp h.nx g1 g8 := (Kp.refl _ _).lay (by omega) (by omega) _
  have Z : AccE g8 h.nx 3 1 (some ⟨h.nx + 0, 0, none⟩) 0 0 (([] : List Int).map (Value.int .i64)) := .inr ⟨rfl, rfl, rfl, h.nx, rfl, Nat.le_refl _, by show h.nx < g1.nx; omega, _, _, (get_lay ..).trans (if_pos rfl)⟩
  have hg8 : g8.get o = some (.cells (xs.map (Value.int .i64)) 3 .grow) := (k8.get _ ho).trans hg
  have X2' : IntsAt g8 (some ⟨o, 0, none⟩) i (xs.take i) := SlAt.take ((RowAt.mk (l := xs) (Nat.lt_of_lt_of_le ho k8.nx) hg8).ints) i (by omega)
  have gd8 : g8.gd = h.gd := k8.gd
  obtain ⟨p1, p2, p3, h12, e1, Z2, K2, N2, _⟩ := appE_ints (g := [o]) (c1 := unk) Z k8.nx (fun q hq => by
    rw [gd8] at hq
    rcases List.mem_append.1 hq with h1 | h1
    · rw [List.mem_singleton.1 h1]; exact ho
    · exact ok.gd q h1) X2' (by simp; omega)
  refine ⟨_, _, _, _, e1, ?_⟩
  intro g13
  have k13 : Kp h.nx h g13 := k8.trans K2
  have Z2' : AccE g13 h.nx 3 1 p1 p2 p3 (([] ++ xs.take i).map (Value.int .i64)) := Z2.keep (fun _ _ _ => rfl) (Nat.le_refl _)
  have X3'' := ints_from ((k13.get _ ho).trans hg) (Nat.lt_of_lt_of_le ho k13.nx) (k := i + 1) (by omega)
  have gd13 : g13.gd = h.gd := k13.gd
  obtain ⟨q1, q2, q3, h17, e2, Z3, K3, N3, _⟩ := appE_ints (g := []) (c1 := unk) Z2' k13.nx (fun q hq => by
    rw [gd13] at hq
    exact ok.gd q hq) X3'' (by simp; omega)
  refine ⟨_, _, _, _, e2, ?_⟩
  intro g18
  have e3 : ([] ++ xs.take i) ++ xs.drop (i + 1) = xs.eraseIdx i := by rw [List.nil_append, List.eraseIdx_eq_take_drop_succ]
  rw [e3] at Z3
  exact ⟨_, _, _, rfl, Z3.keep (fun _ _ _ => rfl) (Nat.le_refl _), k13.trans K3⟩
end
end Go.Proofs.YtfgfhplgnfbaaaaDoor
/- The plain law of proofs: what is accepted follows; more clauses do no harm. -/
namespace Go.Proofs.YtfgfhplgnfbaaaaDoor
open Go Go.Ev
theorem Der.mono {cls cls' : List (List Int)} {xs xs' : List Int} (h1 : ∀ l ∈ cls, l ∈ cls') (h2 : ∀ x ∈ xs, x ∈ xs') {z : Int} (h : Der cls xs z) : Der cls' xs' z := by
  induction h with
  | base h => exact .base (h2 _ h)
  | unit hl hx _ ih => exact .unit (h1 _ hl) hx ih
theorem Cl.mono {cls cls' : List (List Int)} {xs xs' : List Int} (h1 : ∀ l ∈ cls, l ∈ cls') (h2 : ∀ x ∈ xs, x ∈ xs') (h : Cl cls xs) : Cl cls' xs' := by
  rcases h with ⟨x, a, b⟩ | ⟨l, hl, a⟩
  · exact .inl ⟨x, a.mono h1 h2, b.mono h1 h2⟩
  · exact .inr ⟨l, h1 l hl, fun y hy => (a y hy).mono h1 h2⟩
/-- Clauses as they are asked for. -/
def Good (cls : List (List Int)) : Prop := ∀ l ∈ cls, (∀ x ∈ l, Lit x) ∧ Dif l
/-- A model is calm. -/
theorem model_calm {cls : List (List Int)} {xs : List Int} {m : Nat} (hd : ∀ l ∈ cls, ∀ x ∈ l, x ≠ 0) (hx : ∀ x ∈ xs, x ≠ 0) (h1 : ∀ c ∈ cls, c.any (isB m) = true) (h2 : ∀ x ∈ xs, isB m x = true) : ¬ Cl cls xs := by
  have C : Calm cls xs fun x => x ≠ 0 ∧ isB m x = true := ⟨fun x a b => by
    have b2 := b.2
    rw [isB_neg a.1, a.2] at b2
    exact Bool.noConfusion b2, fun x h => ⟨hx x h, h2 x h⟩, fun l hl => by
    obtain ⟨x, hxl, ht⟩ := List.any_eq_true.1 (h1 l hl)
    exact .inl ⟨x, hxl, hd l hl x hxl, ht⟩⟩
  exact C.not
/-- A clause of variables up to a number. -/
def Cv (vars : Int) (l : List Int) : Prop := Dif l ∧ ∀ x ∈ l, Lit x ∧ (x.natAbs : Int) ≤ vars
end Go.Proofs.YtfgfhplgnfbaaaaDoor
/- What a search finds: the decisions are proper; what clashes is enough. -/
namespace Go.Proofs.YtfgfhplgnfbaaaaDoor
open Go Go.Ev
/-- Literals of some variables. -/
abbrev Lv (vars : Int) (l : List Int) : Prop := ∀ x ∈ l, Lit x ∧ (x.natAbs : Int) ≤ vars
/-- Decisions: their variables increase, and all variables before one of them have a truth. -/
structure Dcs (N : Nat) (cls : List (List Int)) (gs ds : List Int) : Prop where
  cv : Cv (Int.ofNat N) ds
  all : ∀ x ∈ ds, ∀ w : Int, 1 ≤ w → w < x.natAbs → Der cls (gs ++ ds) w ∨ Der cls (gs ++ ds) (-w)
theorem dif_len {N : Nat} : ∀ {l : List Int} {lo : Nat}, Dif l → (∀ x ∈ l, lo < x.natAbs ∧ x.natAbs ≤ N) → l.length + lo ≤ N ∨ l = [] := by
  intro l
  induction l with
  | nil => intro lo _ _; exact .inr rfl
  | cons x l ih =>
    intro lo hd hx
    obtain ⟨h1, h2⟩ := List.pairwise_cons.1 hd
    have h3 := hx x (by simp)
    rcases ih (lo := x.natAbs) h2 (fun y hy => ⟨h1 y hy, (hx y (List.mem_cons_of_mem _ hy)).2⟩) with h | h
    · left; simp; omega
    · subst h; left; simp; omega
theorem Dcs.len {N : Nat} {cls : List (List Int)} {gs ds : List Int} (D : Dcs N cls gs ds) : ds.length ≤ N := by
  rcases dif_len (N := N) (lo := 0) D.cv.1 (fun x hx => by obtain ⟨h1, h2⟩ := D.cv.2 x hx; have := h1.1; simp only [Int.ofNat_eq_natCast] at h2; omega) with h | h
  · omega
  · subst h; simp
section
variable {N : Nat} {cls : List (List Int)} {gs : List Int} (hN : N ≤ 30) (hc : ∀ l ∈ cls, Cv (Int.ofNat N) l) (hg : Lv (Int.ofNat N) gs)
include hN hc hg
omit hN hc in
theorem Dcs.lit {ds : List Int} (D : Dcs N cls gs ds) : ∀ x ∈ gs ++ ds, Lit x := fun x hx => by
  rcases List.mem_append.1 hx with hx | hx
  · exact (hg x hx).1
  · exact (D.cv.2 x hx).1
theorem Dcs.more {ds : List Int} (D : Dcs N cls gs ds) {k : Nat} (hk : k < N) (hw : ∀ w : Int, 1 ≤ w → w < Int.ofNat (k + 1) → Der cls (gs ++ ds) w ∨ Der cls (gs ++ ds) (-w)) (hd : ∀ x ∈ ds, x.natAbs < k + 1) {x : Int} (hx : x.natAbs = k + 1) : Dcs N cls gs (ds ++ [x]) := by
  have _ := hc; have _ := hg
  have mono : ∀ {z}, Der cls (gs ++ ds) z → Der cls (gs ++ (ds ++ [x])) z := fun h => h.mono (fun _ h => h) fun z hz => by
    rcases List.mem_append.1 hz with h | h
    · exact List.mem_append_left _ h
    · exact List.mem_append_right _ (List.mem_append_left _ h)
  refine ⟨⟨List.pairwise_append.2 ⟨D.cv.1, List.pairwise_singleton _ _, fun a ha b hb => by rw [List.mem_singleton] at hb; subst hb; have := hd a ha; omega⟩, fun z hz => ?_⟩, fun z hz w h1 h2 => ?_⟩
  · rcases List.mem_append.1 hz with h | h
    · exact D.cv.2 z h
    · rw [List.mem_singleton] at h; subst h
      exact ⟨⟨by omega, by omega, by omega⟩, by simp only [Int.ofNat_eq_natCast]; omega⟩
  · rcases List.mem_append.1 hz with h | h
    · exact (D.all z h w h1 h2).imp mono mono
    · rw [List.mem_singleton] at h; subst h
      exact (hw w h1 (by simp only [Int.ofNat_eq_natCast]; omega)).imp mono mono
end
end Go.Proofs.YtfgfhplgnfbaaaaDoor
/- What a search finds: the first model, or lines that follow. -/
namespace Go.Proofs.YtfgfhplgnfbaaaaDoor
open Go Go.Ev
/-- An earlier model: the first variable in which they differ is false. -/
def LexLt (N a b : Nat) : Prop := ∃ i, i < N ∧ a.testBit i = false ∧ b.testBit i = true ∧ ∀ j, j < i → a.testBit j = b.testBit j
/-- What holds at a search's end. -/
structure Spec (N : Nat) (cls : List (List Int)) (gs ds : List Int) (s : Sr) : Prop where
  how : s.how = 0 ∨ s.how = 1 ∨ s.how = 2
  good : ∀ l ∈ s.lines, Cv (Int.ofNat N) l
  rup : accF gs cls s.lines 0 = none
  clo : s.how = 1 → Cv (Int.ofNat N) s.c ∧ (∀ x ∈ s.c, -x ∈ ds) ∧ ∃ L, s.lines = L ++ [s.c]
  ful : s.how = 0 → (∀ i, (s.y ||| s.m).testBit i = decide (i < N)) ∧ s.y &&& s.m = 0
  fnd : s.how = 0 → (∀ x ∈ gs ++ ds, isB s.y x = true) ∧ (∀ l ∈ cls, l.any (isB s.y) = true) ∧ ∀ m', (∀ x ∈ gs ++ ds, isB m' x = true) → (∀ l ∈ cls, l.any (isB m') = true) → (∀ i, i < N → s.y.testBit i = m'.testBit i) ∨ LexLt N s.y m'
end Go.Proofs.YtfgfhplgnfbaaaaDoor
/- What a search finds: by induction over the tree. -/
namespace Go.Proofs.YtfgfhplgnfbaaaaDoor
open Go Go.Ev
end Go.Proofs.YtfgfhplgnfbaaaaDoor
/- What Model and Prove return: the first of all models, or a proof. -/
namespace Go.Proofs.YtfgfhplgnfbaaaaDoor
open Go Go.Ev
end Go.Proofs.YtfgfhplgnfbaaaaDoor
/- Forced: its walk. -/
namespace Go.Proofs.YtfgfhplgnfbaaaaDoor
open Go Go.Ev
end Go.Proofs.YtfgfhplgnfbaaaaDoor
/- Those to blame: the walk of Core and Blame. -/
namespace Go.Proofs.YtfgfhplgnfbaaaaDoor
open Go Go.Ev
end Go.Proofs.YtfgfhplgnfbaaaaDoor
/- Conditions of functions' code, printed by a program of ours. -/
namespace Go.Proofs.YtfgfhplgnfbaaaaDoor
open Go Go.Ev
set_option maxRecDepth 100000
set_option linter.unusedVariables false
/-! sward/swardlaw20.SatProofs -/
end Go.Proofs.YtfgfhplgnfbaaaaDoor
/- SatProofs of layer 20: its law. -/
namespace Go.Proofs.YtfgfhplgnfbaaaaDoor
open Go Go.Ev
section
variable {v0 : Array Value} {x1 x2 : Int} {N : Nat} (hN : 1 ≤ N ∧ N ≤ 8) {cls : List (List Int)} {gs : List Int} {pf : List (List Int)} (hcl : cls.length ≤ 14) (hc : ∀ l ∈ cls, Cv (Int.ofNat N) l) (hg : Cv (Int.ofNat N) gs) (hp : ∀ l ∈ pf, Cv (Int.ofNat N) l) (hpl : pf.length ≤ 2000) (hr : accF gs cls pf 0 = none) {L : List (List Int)} (hL : pf = L ++ [[]])
  {hB : Hp} (ok : hB.Ok) (ht : Tb hB) {b7 : Nat} (hb7 : b7 < hB.nx) {aF a8 aP : Option Addr} {nF cF n8 c8 nP cP : Nat} (g7 : hB.get b7 = some (.cells [.int .i64 (Int.ofNat N), .slice aF nF cF] 30 .fix)) (F : IntssAt hB aF nF cls) (G : IntsAt hB a8 n8 gs) (PL : IntssAt hB aP nP pf)
include hN hcl hc hg hp hpl hr hL ok ht hb7 g7 F G PL
end
end Go.Proofs.YtfgfhplgnfbaaaaDoor
/- SatProofs of layer 20: its law, joined. -/
namespace Go.Proofs.YtfgfhplgnfbaaaaDoor
open Go Go.Ev
end Go.Proofs.YtfgfhplgnfbaaaaDoor
/- Core and Blame: their contracts, where the formula and what is given are as defined. -/
namespace Go.Proofs.YtfgfhplgnfbaaaaDoor
open Go Go.Ev
end Go.Proofs.YtfgfhplgnfbaaaaDoor
/- Forced: the plain law. -/
namespace Go.Proofs.YtfgfhplgnfbaaaaDoor
open Go Go.Ev
end Go.Proofs.YtfgfhplgnfbaaaaDoor
/- SatMinimal of layer 20: the plain law. -/
namespace Go.Proofs.YtfgfhplgnfbaaaaDoor
open Go Go.Ev
theorem needF_congr {ψ ψ' : List Int → Bool} : ∀ (i : Nat) (out : List Int), (∀ l, l.Sublist out → ψ l = ψ' l) → needF ψ i out = needF ψ' i out := by
  intro i
  induction i with
  | zero => intro out _; rfl
  | succ i ih =>
    intro out h
    unfold needF
    rw [h _ (List.eraseIdx_sublist ..), ih _ fun l hl => h l (hl.trans (List.eraseIdx_sublist ..)), ih _ h]
end Go.Proofs.YtfgfhplgnfbaaaaDoor
/- Plain law of SatLearned: what Learn and Unit return. -/
namespace Go.Proofs.YtfgfhplgnfbaaaaDoor
open Go Go.Ev
/-- The learned clause, and what it is made of. -/
structure Lrn (cls : List (List Int)) (d nd l : List Int) (K : Nat) : Prop where
  dif : Dif l
  lit : ∀ x ∈ l, Lit x
  len : l.length ≤ d.length
  mem : ∀ x, x ∈ l ↔ -x ∈ nd
  cut : nd.Sublist (d.take K)
  cl : Cl cls nd
  min : ∀ i, i < nd.length → ¬ Cl cls (nd.eraseIdx i)
  bef : ∀ j, j < K → ¬ Cl cls (d.take j)
section
variable {cls : List (List Int)} {d nd l : List Int} {K : Nat} (L : Lrn cls d nd l K) (hn : Nod d)
include L
theorem Lrn.sub : nd.Sublist d := L.cut.trans (List.take_sublist ..)
theorem Lrn.fol : Cl cls (l.map fun x => -x) := L.cl.mono (fun _ h => h) fun x hx => List.mem_map.2 ⟨-x, (L.mem _).2 (by simpa using hx), by simp⟩
include hn in
theorem Lrn.last {j : Nat} (hj : j < d.length) (h : -d[j] ∈ l) : ¬ Cl cls (d.take j) := by
  have h1 := (L.mem _).1 h
  rw [Int.neg_neg] at h1
  obtain ⟨j', hj', e⟩ := List.getElem_of_mem (L.cut.subset h1)
  have hj2 : j' < K := by have := List.length_take (i := K) (l := d); omega
  have hj3 : j' < d.length := by have := List.length_take (i := K) (l := d); omega
  rw [List.getElem_take] at e
  have : j' = j := by
    have hp := List.pairwise_iff_getElem.1 hn
    rcases Nat.lt_trichotomy j' j with h2 | h2 | h2
    · exact absurd (by rw [e]) (hp j' j hj3 hj h2)
    · exact h2
    · exact absurd (by rw [e]) (hp j j' hj hj3 h2)
  subst this
  exact L.bef _ hj2
theorem Lrn.true (hg : Good cls) {m : Nat} (hm : ∀ c ∈ cls, c.any (isB m) = true) : l.any (isB m) = true := by
  rw [List.any_eq_true]
  refine Classical.byContradiction fun hne => ?_
  refine model_calm (xs := l.map fun x => -x) (m := m) (fun c hc x hx => ((hg c hc).1 x hx).1) (fun x hx => ?_) hm (fun x hx => ?_) L.fol
  · obtain ⟨z, hz, rfl⟩ := List.mem_map.1 hx
    have := (L.lit z hz).1; omega
  · obtain ⟨z, hz, rfl⟩ := List.mem_map.1 hx
    rw [isB_neg (L.lit z hz).1]
    cases hb : isB m z with
    | false => rfl
    | true => exact absurd ⟨z, hz, hb⟩ hne
end
end Go.Proofs.YtfgfhplgnfbaaaaDoor
/- Plain law of SatLearned: what propagation makes true. -/
namespace Go.Proofs.YtfgfhplgnfbaaaaDoor
open Go Go.Ev
end Go.Proofs.YtfgfhplgnfbaaaaDoor
/- SatNames: plain law: variables with other numbers, and literals with the contrary sign. -/
namespace Go.Proofs.YtfgfhplgnfbaaaaDoor
open Go Go.Ev
/-! ### the renaming -/
/-- The numbers of the variables: each from one on, once. -/
structure Ren (N : Nat) (tn : List Nat) : Prop where
  perm : tn.Perm ((List.range N).map (· + 1))
section
variable {N : Nat} {tn : List Nat} (R : Ren N tn)
include R
theorem Ren.len : tn.length = N := by rw [R.perm.length_eq, List.length_map, List.length_range]
theorem Ren.nd : tn.Nodup := R.perm.nodup_iff.2 (by
  unfold List.Nodup
  rw [List.pairwise_map]
  exact List.nodup_range.imp fun h e => h (by omega))
theorem Ren.rng {v : Nat} (hv : v < N) : 1 ≤ tn.getD v 0 ∧ tn.getD v 0 ≤ N := by
  have hl := R.len
  have h : tn.getD v 0 ∈ tn := by rw [List.getD_eq_getElem?_getD, List.getElem?_eq_getElem (by omega)]; exact List.getElem_mem _
  obtain ⟨i, hi, e⟩ := List.mem_map.1 (R.perm.subset h)
  have := List.mem_range.1 hi
  omega
theorem Ren.inj {v w : Nat} (hv : v < N) (hw : w < N) (e : tn.getD v 0 = tn.getD w 0) : v = w := by
  have hl := R.len
  rw [List.getD_eq_getElem?_getD, List.getD_eq_getElem?_getD, List.getElem?_eq_getElem (by omega), List.getElem?_eq_getElem (by omega)] at e
  have e : tn[v]'(by omega) = tn[w]'(by omega) := e
  have nd := List.pairwise_iff_getElem.1 R.nd
  rcases Nat.lt_trichotomy v w with h | h | h
  · exact absurd e (nd v w (by omega) (by omega) h)
  · exact h
  · exact absurd e.symm (nd w v (by omega) (by omega) h)
end
end Go.Proofs.YtfgfhplgnfbaaaaDoor
/- What is so as long as some objects stay; lists of lists that grow: for this seat. -/
namespace Go.Ev
open Go
/-- What is so as long as some objects stay. -/
def clo (own : Nat → Prop) (F : Hp → Prop) : Rs := ⟨own, fun h => ∀ h' : Hp, h.nx ≤ h'.nx → (∀ b, own b → h'.get b = h.get b) → F h'⟩
theorem clo.loc (own : Nat → Prop) (F : Hp → Prop) : (clo own F).Loc := fun _ _ hn he hP h'' hn2 he2 => hP h'' (Nat.le_trans hn hn2) fun b hb => (he2 b hb).trans (he b hb)
theorem clo.get {own : Nat → Prop} {F : Hp → Prop} {h : Hp} (hP : (clo own F).P h) : F h := hP h (Nat.le_refl _) fun _ _ => rfl
end Go.Ev
/- Conditions of functions' code, printed by a program of ours. -/
namespace Go.Proofs.YtfgfhplgnfbaaaaDoor
open Go Go.Ev
set_option maxRecDepth 100000
set_option linter.unusedVariables false
/-! sward/swardlaw20.SatNames -/
end Go.Proofs.YtfgfhplgnfbaaaaDoor
/- Conditions of functions' code, printed by a program of ours. -/
namespace Go.Proofs.YtfgfhplgnfbaaaaDoor
open Go Go.Ev
set_option maxRecDepth 100000
set_option linter.unusedVariables false
/-! sward/swardlaw20.SatForced -/
end Go.Proofs.YtfgfhplgnfbaaaaDoor
/- SatForced of layer 20: the loops of its law. -/
namespace Go.Proofs.YtfgfhplgnfbaaaaDoor
open Go Go.Ev
section
variable {v0 : Array Value} {x1 x2 : Int} {N : Nat} (hN : 1 ≤ N ∧ N ≤ 8) {ms : List Nat} (hms : ∀ m ∈ ms, m < 9223372036854775808) (hml : ms.length < 1000000)
  {hB : Hp} (ok : hB.Ok) {b7 : Nat} (hb7 : b7 < hB.nx) {aF a9 : Option Addr} {nF cF n9 c9 : Nat} (g7 : hB.get b7 = some (.cells [.int .i64 (Int.ofNat N), .slice aF nF cF] 30 .fix)) (M : IntsAt hB a9 n9 (ms.map Int.ofNat))
include hN hms hml ok hb7 g7 M
end
end Go.Proofs.YtfgfhplgnfbaaaaDoor
/- SatForced of layer 20: each model holds. -/
namespace Go.Proofs.YtfgfhplgnfbaaaaDoor
open Go Go.Ev
section
variable {v0 : Array Value} {x1 x2 : Int} {N : Nat} (hN : 1 ≤ N ∧ N ≤ 8) {cls : List (List Int)} (hcl : cls.length ≤ 14) (hc : ∀ l ∈ cls, Cv (Int.ofNat N) l) {ms : List Nat} (hms : ∀ m ∈ ms, m < 9223372036854775808 ∧ ∀ l ∈ cls, l.any (isB m) = true) (hml : ms.length < 1000000)
  {hB : Hp} (ok : hB.Ok) (ht : Tb hB) {b7 : Nat} (hb7 : b7 < hB.nx) {aF a9 : Option Addr} {nF cF n9 c9 : Nat} (g7 : hB.get b7 = some (.cells [.int .i64 (Int.ofNat N), .slice aF nF cF] 30 .fix)) (F : IntssAt hB aF nF cls) (M : IntsAt hB a9 n9 (ms.map Int.ofNat))
  {a10 a14 : Option Addr} {n10 c10 n14 c14 : Nat} {xs : List Int} (X : IntsAt hB a10 n10 xs) (Y : IntsAt hB a14 n14 xs) (hxl : xs.length < 1000000)
include hN hcl hc hms hml ok ht hb7 g7 F M X Y hxl
end
end Go.Proofs.YtfgfhplgnfbaaaaDoor
/- SatForced of layer 20: its law, joined. -/
namespace Go.Proofs.YtfgfhplgnfbaaaaDoor
open Go Go.Ev
end Go.Proofs.YtfgfhplgnfbaaaaDoor
/- SatNames: contracts. -/
namespace Go.Proofs.YtfgfhplgnfbaaaaDoor
set_option maxRecDepth 100000
open Go Go.Ev
end Go.Proofs.YtfgfhplgnfbaaaaDoor
/- SatNames: loops. -/
namespace Go.Proofs.YtfgfhplgnfbaaaaDoor
set_option maxRecDepth 100000
open Go Go.Ev
/-- A list that a call has made. -/
theorem Know.list {h0 g g' : Hp} {L : List Rs} (S : Know h0 g L) (k : Kp g.nx g g') {a : Option Addr} {n : Nat} {xs : List Int} (X : IntsAt g' a n xs) (hf : ∀ b off, a = some ⟨b, off, none⟩ → g.nx ≤ b) :
    Know h0 g' (clo (fun o => ∃ off, a = some ⟨o, off, none⟩) (fun h => IntsAt h a n xs) :: L) :=
  S.push (r' := clo (fun o => ∃ off, a = some ⟨o, off, none⟩) (fun h => IntsAt h a n xs)) k (clo.loc _ _) (fun h' hn he => ints_sub X (fun b off e _ => he b ⟨off, e⟩) hn) fun b hb => by
    obtain ⟨off, e⟩ := hb
    exact ⟨hf b off e, SlAt.lt X b off e⟩
end Go.Proofs.YtfgfhplgnfbaaaaDoor
/- SatNames: the clauses; errors. -/
namespace Go.Proofs.YtfgfhplgnfbaaaaDoor
set_option maxRecDepth 100000
open Go Go.Ev
end Go.Proofs.YtfgfhplgnfbaaaaDoor
/- SatNames: its law. -/
namespace Go.Proofs.YtfgfhplgnfbaaaaDoor
set_option maxRecDepth 100000
open Go Go.Ev
theorem rdp {h g : Hp} (f : Ft h g) {b : Nat} {c : List Value} {e : TypeId} {m : Md} (hb : b < h.nx) (hg : h.get b = some (.cells c e m)) {off n : Nat} {r : List Value} (hr : (c.drop off).take n = r) (hl : Nat.ble (off + n) c.length = true) : readAt g b off n = some r := by
  rw [readAt_get ((f.get b hb).trans hg) (Nat.le_of_ble_eq_true hl), hr]
end Go.Proofs.YtfgfhplgnfbaaaaDoor
/- Conditions of functions' code, printed by a program of ours. -/
namespace Go.Proofs.YtfgfhplgnfbaaaaDoor
open Go Go.Ev
set_option maxRecDepth 100000
set_option linter.unusedVariables false
/-! sward/swardlaw20.SatLearned -/
end Go.Proofs.YtfgfhplgnfbaaaaDoor
/- SatLearned: its loops. -/
namespace Go.Proofs.YtfgfhplgnfbaaaaDoor
set_option maxRecDepth 100000
open Go Go.Ev
end Go.Proofs.YtfgfhplgnfbaaaaDoor
/- Conditions of functions' code, printed by a program of ours. -/
namespace Go.Proofs.YtfgfhplgnfbaaaaDoor
open Go Go.Ev
set_option maxRecDepth 100000
set_option linter.unusedVariables false
/-! sward/swardlaw20.SatSound -/
end Go.Proofs.YtfgfhplgnfbaaaaDoor
/- SatSound of layer 20: the law. -/
namespace Go.Proofs.YtfgfhplgnfbaaaaDoor
open Go Go.Ev
section
variable {vars many : Nat} {cl : List Int} (p : PuzOk vars many cl) {ls : List Int} (hls : ls.length = 18) (hlr : ∀ x ∈ ls, -128 ≤ x ∧ x < 128) {w : Nat} (hw : w < 256) {mo : Int} (hmo : -128 ≤ mo ∧ mo < 128) {N : Int} (hN : 1 ≤ N ∧ N ≤ 5) {cls : List (List Int)} (hcl : cls.length ≤ 14) (hcv : ∀ l ∈ cls, Cv N l ∧ l.length ≤ 3) {v0 v1 : Array Value}
  {hB : Hp} (ok : hB.Ok) (ht : Tb hB) {b9 : Nat} (hb9 : b9 < hB.nx) {aF : Option Addr} {nF cF : Nat} (gf : hB.get b9 = some (.cells [.int .i64 N, .slice aF nF cF] 30 .fix)) (F : IntssAt hB aF nF cls)
include hmo hN hcl hcv ok ht hb9 gf F
end
section
variable {ls : List Int} (hls : ls.length = 18) (hlr : ∀ x ∈ ls, -128 ≤ x ∧ x < 128) {w : Nat} (hw : w < 256) {mo : Int} (hmo : -128 ≤ mo ∧ mo < 128) {N : Int} (hN : 1 ≤ N ∧ N ≤ 5) {cls : List (List Int)} (hcl : cls.length ≤ 14) (hcv : ∀ l ∈ cls, Cv N l ∧ l.length ≤ 3) {v0 v1 : Array Value}
  {hB : Hp} (ok : hB.Ok) (ht : Tb hB) {b9 : Nat} (hb9 : b9 + 1 = hB.nx) {aF : Option Addr} {nF cF : Nat} (gf : hB.get b9 = some (.cells [.int .i64 N, .slice aF nF cF] 30 .fix)) (F : IntssAt hB aF nF cls)
  {bL : Nat} (hbL : bL < b9) (gl : hB.get bL = some (.cells (ls.map (Value.int .i8)) 73 .fix))
include hls hlr hw hmo hN hcl hcv ok ht hb9 gf F hbL gl
end
end Go.Proofs.YtfgfhplgnfbaaaaDoor
/- SatLearned: the loops behind a clash. -/
namespace Go.Proofs.YtfgfhplgnfbaaaaDoor
set_option maxRecDepth 100000
open Go Go.Ev
theorem Kp.rg {n : Nat} {g h' : Hp} {l : List Nat} (k : Kp n (g.grd l) h') : Kp n g (h'.rst g) := ⟨k.get, k.nx, rfl, fun f => k.fr f⟩
section
variable {O : CallF} (hO : Oth O) {v0 : Array Value} {p0 p1 p2 p3 p4 p5 : Int} {Q : Value → Hp → Prop}
  {hC : Hp} (ok : hC.Ok) {b5 b6 b10 : Nat} (hb5 : b5 < hC.nx) (hb6 : b6 < hC.nx) (hb10 : b10 < hC.nx) {N : Nat} (hN : 1 ≤ N ∧ N ≤ 7) {aF : Option Addr} {nF cF : Nat} (g5 : hC.get b5 = some (.cells [.int .i64 (Int.ofNat N), .slice aF nF cF] 30 .fix))
  {aL : Option Addr} {nL cL : Nat} (g10 : hC.get b10 = some (.cells [.slice aL nL cL] 32 .fix)) {a6 : Option Addr} {n6 c6 : Nat} (g6 : hC.get b6 = some (.cells [.slice a6 n6 c6] 32 .fix))
  {cls : List (List Int)} (F : IntssAt hC aF nF cls) (hcl : cls.length ≤ 20) (hc : ∀ l ∈ cls, Cv (Int.ofNat N) l ∧ l.length ≤ 3)
  {d nd l : List Int} {K : Nat} (L : Lrn cls d nd l K) (LI : IntsAt hC aL nL l) (ll : l.length ≤ 12) (hn : Nod d) (hdl : d.length ≤ 12) (hdx : ∀ x ∈ d, Lit x)
  {base : Nat} (A6 : AccI 3 hC base a6 n6 c6 d)
include hO ok hb5 hb10 g5 g10 F hcl hc L LI ll
include hN in
include hdl hdx A6 hn hN in
end
end Go.Proofs.YtfgfhplgnfbaaaaDoor
/- SatUnits: the reference's Learn and Unit. -/
namespace Go.Proofs.YtfgfhplgnfbaaaaDoor
set_option maxRecDepth 100000
open Go Go.Ev
/-- A list of its own. -/
def OwnL (h : Hp) (a : Option Addr) (n c : Nat) (xs : List Int) : Prop := IntsAt h a n xs ∧ (xs ≠ [] → ∃ o, a = some ⟨o, 0, none⟩ ∧ c = unk ∧ n = xs.length ∧ o < h.nx ∧ h.get o = some (.cells (xs.map (Value.int .i64)) 3 .grow))
theorem OwnL.of {h : Hp} {base : Nat} {a : Option Addr} {n c : Nat} {xs : List Int} (A : AccE h base 3 1 a n c (xs.map (Value.int .i64))) : OwnL h a n c xs := by
  refine ⟨accE_ints A, fun hne => ?_⟩
  rcases A with (⟨_, _, _, e⟩ | ⟨o, e1, e2, e3, _, e5, e6⟩) | ⟨e, _⟩
  · exact absurd (by simpa using e) hne
  · exact ⟨o, e1, e2, by simpa using e3, e5, e6⟩
  · exact absurd (by simpa using e) hne
theorem OwnL.up {h h' : Hp} {a : Option Addr} {n c : Nat} {xs : List Int} (X : OwnL h a n c xs) (K : Kp h.nx h h') : OwnL h' a n c xs :=
  ⟨X.1.up EInt.up K, fun hne => by
    obtain ⟨o, e1, e2, e3, e4, e5⟩ := X.2 hne
    exact ⟨o, e1, e2, e3, Nat.lt_of_lt_of_le e4 K.nx, (K.get _ e4).trans e5⟩⟩
theorem appE_plain {X : Hp} {base : Nat} {a : Option Addr} {n c : Nat} {xs ys : List Int} {a1 : Option Addr} {n1 c1 : Nat} (Z : AccE X base 3 1 a n c (xs.map (Value.int .i64))) (hb2 : base ≤ X.nx) (hg : ∀ q ∈ X.gd, q < base) (Y : IntsAt X a1 n1 ys) (hl : xs.length + ys.length < 100000) :
    ∃ a' n' c' h', appendV Tryd.prog X 32 32 (.slice a n c) (.slice a1 n1 c1) = some (.slice a' n' c', h') ∧ AccE h' base 3 1 a' n' c' ((xs ++ ys).map (Value.int .i64)) ∧ Kp base X h' := by
  have hn := Y.1
  have hn2 := (AccE.ints Z).1
  obtain ⟨a', n', c', h', e1, Z1, en, P1⟩ := append_accE app32 Z hb2 hg ⟨_, _, _, rfl⟩ (ints_src (c2 := c1) Y) (by simp; omega) (List.all_eq_true.2 fun y hy => by obtain ⟨_, _, rfl⟩ := List.mem_map.1 hy; rfl) (by omega) (by unfold big; omega)
  exact ⟨a', n', c', h', e1, by rw [List.map_append]; exact Z1, P1.kpE Z hb2⟩
/-- What the reference's Learn returns. -/
def learnG (cl : List Int → Bool) (d : List Int) : Nat → Nat → List Int × Int
  | 0, _ => ([], 5)
  | m + 1, k => if cl (d.take k) = true then (conO (needF cl k (d.take k)) 1 30, 0) else learnG cl d m (k + 1)
def clR (N : Nat) (cls : List (List Int)) (l : List Int) : Bool := !(propR N cls l).2
section
variable {O : CallF} (hO : Oth O) {h₀ : Hp} (ok : h₀.Ok) {b2 N : Nat} (hb2 : b2 < h₀.nx) {aF : Option Addr} {nF cF : Nat} (g2 : h₀.get b2 = some (.cells [.int .i64 (Int.ofNat N), .slice aF nF cF] 30 .fix))
  {cls : List (List Int)} (F : IntssAt h₀ aF nF cls) (hl : cls.length < 10000) (hll : ∀ l ∈ cls, l.length < 1000000) (hN : N ≤ 30) (hlit : ∀ l ∈ cls, ∀ x ∈ l, Lit x ∧ x.natAbs < N + 1)
  {x0_0 x5 : Int} {a0 a1 a4 : Option Addr} {n0 c0 n1 c1 n4 c4 : Nat}
include hO ok hb2 g2 F hl hll hN hlit
theorem lp37_2 : ∀ (i : Nat) {out : List Int} {x : Int} {a n c} {h : Hp}, i ≤ out.length → out.length < 50 → (∀ x ∈ out, Lit x ∧ x.natAbs < N + 1) → x = Int.ofNat i - 1 → Kp h₀.nx h₀ h → OwnL h a n c out →
    I37_2 O (fun v h' => ∃ a n c, v = .tuple #[.slice a n c, .int .i64 0] ∧ IntsAt h' a n (conO (needF (clR N cls) i out) 1 30) ∧ Kp h₀.nx h₀ h') x0_0 a0 n0 c0 a1 n1 c1 b2 0 a4 n4 c4 x5 a n c x h := by
  intro i
  induction i with
  | zero =>
    intro out x a n c h _ ho hx e K L
    subst e
    refine I37_2.of (hh := ?_) ..
    unfold T37_2
    refine vcond_f rfl ?_
    refine ret_ri (ct102 hO (ok.kp K) L.1 (by omega) (fun x h => (hx x h).1)) fun a' n' c' h' X' K' _ => ?_
    exact ⟨_, _, _, rfl, X', K.trans (K'.le K.nx)⟩
  | succ i ih =>
    intro out x a n c h hi ho hx e K L
    have e : x = Int.ofNat i := by simp only [Int.ofNat_eq_natCast] at e ⊢; omega
    subst e
    refine I37_2.of (hh := ?_) ..
    unfold T37_2
    refine vcond_t (by rw [ltI_f (by simp only [Int.ofNat_eq_natCast]; omega)]; rfl) ?_
    intro g301
    have k1 : Kp h₀.nx h₀ g301 := K.rsv _
    have f1 := k1.ex (Nat.le_refl _)
    refine ⟨_, _, _, _, rdp f1 hb2 g2 rfl rfl, ?_⟩
    have L1 : OwnL g301 a n c out := L.up ((Kp.refl _ _).rsv _)
    obtain ⟨o, rfl, rfl, hno, ho1, ho2⟩ := L1.2 (fun e => by subst e; simp at hi)
    subst hno
    have ok1 : (g301.grd [b2]).Ok := (ok.kp k1).grd fun q hq => by rw [List.mem_singleton.1 hq]; have := k1.nx; omega
    have ex : ∀ x ∈ out.eraseIdx i, Lit x ∧ x.natAbs < N + 1 := fun x h => hx x (List.mem_of_mem_eraseIdx h)
    have el : (out.eraseIdx i).length = out.length - 1 := List.length_eraseIdx_of_lt (by omega)
    refine (ct101 hO (h := g301.grd [b2]) ok1 ho2 ho1 (i := i) (by omega) (by omega)).s fun a3 n3 c3 h309 ⟨Z3, K3⟩ => ?_
    intro g310
    have K3' : Kp g301.nx g301 g310 := Kp.rg K3
    have k3 : Kp h₀.nx h₀ g310 := k1.trans (K3'.le k1.nx)
    have f3 := k3.ex (Nat.le_refl _)
    have X3 : IntsAt g310 a3 n3 (out.eraseIdx i) := (accE_ints Z3).to g310
    have ok3 : (g310.grd []).Ok := (ok.kp k3).grd fun q hq => by cases hq
    refine (ct100 hO ok3 ((F.to g310).to (g310.grd [])) (by omega) hll hN hlit (X3.to (g310.grd [])) (by omega) ex).b1 fun h312 K4 => ?_
    intro g313
    have K4' : Kp g310.nx g310 g313 := Kp.rg K4
    have k4 : Kp h₀.nx h₀ g313 := k3.trans (K4'.le k3.nx)
    have L4 : OwnL g313 (some ⟨o, 0, none⟩) out.length unk out := (L1.up K3').up K4'
    simp only [needF]
    have ew : wrapF .i64 (Int.ofNat i - 1) = Int.ofNat i - 1 := by rw [wrap64] <;> simp only [Int.ofNat_eq_natCast] <;> omega
    rw [ew]
    refine vcond_split (fun h1 => ?_) fun h1 => ?_
    · rw [if_pos (show clR N cls (out.eraseIdx i) = true from h1)]
      obtain ⟨o', e1, _, _, ho3, ho4⟩ := L4.2 (fun e => by subst e; simp at hi)
      injection e1 with e1
      injection e1 with e1
      subst e1
      refine (ct101 hO (ok.kp k4) ho4 ho3 (i := i) (by omega) (by omega)).s fun a5 n5 c5 h5 ⟨Z5, K5⟩ => ?_
      exact ih (by omega) (by omega) ex rfl (k4.trans (K5.le k4.nx)) (OwnL.of Z5)
    · rw [if_neg (show ¬ clR N cls (out.eraseIdx i) = true by rw [show clR N cls (out.eraseIdx i) = false from h1]; decide)]
      exact ih (by omega) ho hx rfl k4 L4
theorem lp37_x {d : List Int} (A : SA h₀ a1 n1 c1 d) (hdl : d.length < 50) (hdx : ∀ x ∈ d, Lit x ∧ x.natAbs < N + 1) {k : Nat} (hk : k ≤ d.length) {h : Hp} (K : Kp h₀.nx h₀ h) :
    let g223 : Hp := h.add (.cells [] 3 .fix)
    ∃ a224' n225' c226', sliceV Tryd.prog g223 32 (.slice a1 n1 c1) none (some (.int .i64 (Int.ofNat k))) none = some (.slice a224' n225' c226') ∧
    ∃ a227' n228' c229' h230', appendV Tryd.prog g223 32 32 (.slice (some ⟨h.nx, 0, none⟩) 0 0) (.slice a224' n225' c226') = some (.slice a227' n228' c229', h230') ∧
    I37_2 O (fun v h' => ∃ a n c, v = .tuple #[.slice a n c, .int .i64 0] ∧ IntsAt h' a n (conO (needF (clR N cls) k (d.take k)) 1 30) ∧ Kp h₀.nx h₀ h') x0_0 a0 n0 c0 a1 n1 c1 b2 0 a4 n4 c4 x5 a227' n228' c229' (wrapF .i64 (Int.ofNat k - 1)) h230' := by
  intro g223
  have k1 : Kp h₀.nx h₀ g223 := K.add K.nx _
  have kh : Kp h.nx h g223 := (Kp.refl _ _).add (Nat.le_refl _) _
  obtain ⟨a2, c2, s2, X2⟩ := SA.cut hO (A.up k1) hk
  refine ⟨_, _, _, s2, ?_⟩
  have Z : AccE g223 h.nx 3 1 (some ⟨h.nx, 0, none⟩) 0 0 (([] : List Int).map (Value.int .i64)) := .inr ⟨rfl, rfl, rfl, h.nx, rfl, Nat.le_refl _, Nat.lt_succ_self _, _, _, get_add_same ..⟩
  have tl : (d.take k).length = k := by rw [List.length_take]; omega
  obtain ⟨p1, p2, p3, h3, e3, Z3, K3'⟩ := appE_plain (c1 := c2) Z kh.nx (fun q hq => by
    have e : g223.gd = h₀.gd := k1.gd
    rw [e] at hq
    have := ok.gd q hq; have := K.nx; omega) X2 (by simp; omega)
  refine ⟨_, _, _, _, e3, ?_⟩
  have ew : wrapF .i64 (Int.ofNat k - 1) = Int.ofNat k - 1 := by rw [wrap64] <;> simp only [Int.ofNat_eq_natCast] <;> omega
  rw [ew]
  exact lp37_2 hO ok hb2 g2 F hl hll hN hlit k (by omega) (by omega) (fun x h => hdx x (List.mem_of_mem_take h)) rfl (k1.trans (K3'.le K.nx)) (OwnL.of Z3)
theorem lp37_1 {d : List Int} (A : SA h₀ a1 n1 c1 d) (hdl : d.length < 50) (hdx : ∀ x ∈ d, Lit x ∧ x.natAbs < N + 1) : ∀ (m k : Nat), k + m + 1 = d.length + 1 → ∀ {h : Hp}, Kp h₀.nx h₀ h →
    I37_1 O (fun v h' => ∃ a n c, v = .tuple #[.slice a n c, .int .i64 (learnG (clR N cls) d (m + 1) k).2] ∧ IntsAt h' a n (learnG (clR N cls) d (m + 1) k).1 ∧ Kp h₀.nx h₀ h') x0_0 a0 n0 c0 a1 n1 c1 b2 0 a4 n4 c4 x5 (Int.ofNat k) h := by
  have hn := A.1.1
  have ask : ∀ {k : Nat}, k ≤ d.length → ∀ {g : Hp}, Kp h₀.nx h₀ g → ∃ x202' a203' n204' c205', readAt g b2 0 2 = some [(.int .i64 x202'), (.slice a203' n204' c205')] ∧
      ∃ a206' n207' c208', sliceV Tryd.prog g 32 (.slice a1 n1 c1) none (some (.int .i64 (Int.ofNat k))) none = some (.slice a206' n207' c208') ∧
      ∃ h210, EvC Tryd.prog O 100 [(.agg #[(.int .i64 x202'), (.slice a203' n204' c205')]), (.slice a206' n207' c208')] (g.grd []) (.bool (clR N cls (d.take k))) h210 ∧ Kp h₀.nx h₀ (h210.rst g) := fun {k} hk {g} K => by
    have f := K.ex (Nat.le_refl _)
    obtain ⟨a2, c2, s2, X2⟩ := SA.cut hO (A.up K) hk
    have ok3 : (g.grd []).Ok := (ok.kp K).grd fun q hq => by cases hq
    obtain ⟨v, h2, e2, rfl, K2⟩ := ct100 hO ok3 ((F.to g).to (g.grd [])) (by omega) hll hN hlit (X2.to (g.grd [])) (by simp; omega) (fun x h => hdx x (List.mem_of_mem_take h)) (c := cF) (c1 := c2)
    exact ⟨_, _, _, _, rdp f hb2 g2 rfl rfl, _, _, _, s2, _, e2, K.trans ((Kp.rg K2).le K.nx)⟩
  intro m
  induction m with
  | zero =>
    intro k hk h K
    obtain rfl : k = d.length := by omega
    refine I37_1.of (hh := ?_) ..
    unfold T37_1
    intro g201
    have k1 : Kp h₀.nx h₀ g201 := K.rsv _
    refine vcond_f (by rw [ltI_nat]; exact blt_f (by omega)) ?_
    intro g231
    have k2 : Kp h₀.nx h₀ g231 := k1.rsv _
    obtain ⟨x, a, n, c, r1, a2, n2, c2, s2, h2, e2, K2⟩ := ask (Nat.le_refl d.length) k2
    refine ⟨x, a, n, c, r1, a2, n2, c2, s2, _, h2, e2, ?_⟩
    intro g241
    simp only [learnG]
    refine vcond_split (fun h1 => ?_) fun h1 => ?_
    · rw [if_neg (by intro e; rw [e] at h1; cases h1)]
      exact ⟨_, _, _, rfl, SlAt.nil .., K2⟩
    · have h1 : clR N cls (d.take d.length) = true := by simpa using h1
      rw [if_pos h1]
      exact lp37_x hO ok hb2 g2 F hl hll hN hlit A hdl hdx (Nat.le_refl _) K2
  | succ m ih =>
    intro k hk h K
    refine I37_1.of (hh := ?_) ..
    unfold T37_1
    intro g201
    have k1 : Kp h₀.nx h₀ g201 := K.rsv _
    refine vcond_t (by rw [ltI_nat]; exact blt_t (by omega)) ?_
    obtain ⟨x, a, n, c, r1, a2, n2, c2, s2, h2, e2, K2⟩ := ask (show k ≤ d.length by omega) k1
    refine ⟨x, a, n, c, r1, a2, n2, c2, s2, _, h2, e2, ?_⟩
    intro g211
    rw [show learnG (clR N cls) d (m + 1 + 1) k = if clR N cls (d.take k) = true then (conO (needF (clR N cls) k (d.take k)) 1 30, 0) else learnG (clR N cls) d (m + 1) (k + 1) from rfl]
    refine vcond_split (fun h1 => ?_) fun h1 => ?_
    · rw [if_neg (by intro e; rw [e] at h1; cases h1), wrap_succ (by omega)]
      exact ih (k + 1) (by omega) K2
    · have h1 : clR N cls (d.take k) = true := by simpa using h1
      rw [if_pos h1]
      intro g212
      have k3 : Kp h₀.nx h₀ g212 := K2.rsv _
      obtain ⟨x, a, n, c, r3, a3, n3, c3, s3, h3, e3, K3⟩ := ask (show k ≤ d.length by omega) k3
      refine ⟨x, a, n, c, r3, a3, n3, c3, s3, _, h3, e3, ?_⟩
      intro g222
      rw [h1]
      exact vcond_f rfl (lp37_x hO ok hb2 g2 F hl hll hN hlit A hdl hdx (by omega) K3)
end
theorem eqv {x v : Int} : eqI x v = true ↔ x = v := by rw [eqI_eq]; simp
/-- What the reference's Learn returns, of whatever decisions. -/
def learnRP (vars : Int) (cls : List (List Int)) (d : List Int) : List Int × Int :=
  if formB vars cls = false then ([], 2) else if okD vars d = false then ([], 2) else learnG (clR vars.toNat cls) d (d.length + 1) 0
section
variable {O : CallF} (hO : Oth O)
include hO
theorem ct37 {a a1 : Option Addr} {n c n1 c1 : Nat} {vars : Int} {h : Hp} {cls : List (List Int)} (ok : h.Ok) (H : IntssAt h a n cls) (hl : cls.length < 10000) (hll : ∀ l ∈ cls, l.length < 1000000)
    {d : List Int} (A : SA h a1 n1 c1 d) (hdl : d.length < 50) :
    Ret Tryd.prog O 37 [Fm vars a n c, .slice a1 n1 c1] h fun v h' => ∃ a n c, v = .tuple #[.slice a n c, .int .i64 (learnRP vars cls d).2] ∧ IntsAt h' a n (learnRP vars cls d).1 ∧ Kp h.nx h h' := by
  refine rk37 _ _ _ _ _ _ _ (hO _ _ _ (by decide)) ?_
  unfold T37
  intro g1
  have kp : Kp h.nx h g1 := fm_kp h vars a n c
  have g : g1.get h.nx = some (.cells [.int .i64 vars, .slice a n c] 30 .fix) := fm_get h vars a n c
  have n1x : g1.nx = h.nx + 1 := nx_add ..
  refine ⟨_, _, _, _, by rw [readAt_get g (by simp)]; rfl, ?_⟩
  obtain ⟨v1, h7, e7, rfl, K7⟩ := ct85 hO (c := c) (vars := vars) (H.up EInts.up kp) (by omega) hll
  have k7 : Kp h.nx h h7 := kp.trans (K7.le kp.nx)
  have g7 : h7.get h.nx = some (.cells [.int .i64 vars, .slice a n c] 30 .fix) := by rw [K7.get _ (by omega)]; exact g
  have f7 := k7.ex (Nat.le_refl _)
  refine ⟨_, h7, e7, ?_⟩
  unfold learnRP
  cases hf : formB vars cls with
  | false => exact vcond_t (by decide) ⟨_, _, _, by rw [if_pos rfl], by rw [if_pos rfl]; exact SlAt.nil .., k7⟩
  | true =>
  rw [if_neg (show ¬ (true = false) by decide)]
  refine vcond_f (by decide) ?_
  have A7 := A.up k7
  have X7 := A7.1
  have hn := X7.1
  obtain ⟨⟨v0, v30⟩, _, q2, _⟩ := form_bounds (vars := vars) (cls := cls) (gs := []) (by unfold askB; rw [hf]; rfl)
  obtain ⟨N, rfl⟩ : ∃ N : Nat, vars = Int.ofNat N := ⟨vars.toNat, by simp only [Int.ofNat_eq_natCast]; omega⟩
  have hN : N ≤ 30 := by simp only [Int.ofNat_eq_natCast] at v30; omega
  have hlit : ∀ l ∈ cls, ∀ x ∈ l, Lit x ∧ x.natAbs < N + 1 := fun l hl x hx => by
    obtain ⟨p, q⟩ := clB_lit (by decide) (q2 l hl) x hx
    rw [varI_lit2 p] at q
    exact ⟨p, by simp only [Int.ofNat_eq_natCast] at q; omega⟩
  rw [show (Int.ofNat N).toNat = N from rfl]
  have b2 : h.nx < h7.nx := by have := K7.nx; omega
  have bad : okD (Int.ofNat N) d = false → ∀ {Q : Prop}, (∃ a n c, (Value.tuple #[.slice none 0 0, .int .i64 2]) = .tuple #[.slice a n c, .int .i64 (if okD (Int.ofNat N) d = false then (([] : List Int), (2 : Int)) else learnG (clR N cls) d (d.length + 1) 0).2] ∧ IntsAt h7 a n (if okD (Int.ofNat N) d = false then (([] : List Int), (2 : Int)) else learnG (clR N cls) d (d.length + 1) 0).1 ∧ Kp h.nx h h7) := fun e _ => ⟨_, _, _, by rw [if_pos e], by rw [if_pos e]; exact SlAt.nil .., k7⟩
  have go : ∀ (m k : Nat), k + m = d.length → (∀ x ∈ d.take k, Lit x ∧ (x.natAbs : Int) ≤ Int.ofNat N) → Nod (d.take k) → I37_0 O (fun v h' => ∃ a n c, v = .tuple #[.slice a n c, .int .i64 (if okD (Int.ofNat N) d = false then (([] : List Int), (2 : Int)) else learnG (clR N cls) d (d.length + 1) 0).2] ∧ IntsAt h' a n (if okD (Int.ofNat N) d = false then (([] : List Int), (2 : Int)) else learnG (clR N cls) d (d.length + 1) 0).1 ∧ Kp h.nx h h') (Int.ofNat N) a n c a1 n1 c1 h.nx 0 none 0 0 0 (Int.ofNat k) h7 := by
    intro m
    induction m with
    | zero =>
      intro k hk hx hnd
      refine I37_0.of (hh := ?_) ..
      unfold T37_0
      rw [List.take_of_length_le (by omega)] at hx hnd
      rw [if_neg (by rw [okD_t hx hnd]; decide)]
      refine vcond_f (by rw [ltI_nat]; exact blt_f (by omega)) ?_
      have := lp37_1 hO (ok.kp k7) b2 g7 (H.up EInts.up k7) hl hll hN hlit A7 hdl (fun x h => by obtain ⟨p, q⟩ := hx x h; exact ⟨p, by simp only [Int.ofNat_eq_natCast] at q; omega⟩) d.length 0 (by omega) (.refl _ _) (x0_0 := Int.ofNat N) (a0 := a) (n0 := n) (c0 := c) (a4 := none) (n4 := 0) (c4 := 0) (x5 := 0)
      exact RKL.mono this fun v h' ⟨a, n, c, q1, q2, q3⟩ => ⟨a, n, c, q1, q2, k7.trans (q3.le k7.nx)⟩
    | succ m ih =>
      intro k hk hx hnd
      refine I37_0.of (hh := ?_) ..
      unfold T37_0
      have hkl : k < d.length := by omega
      refine vcond_t (by rw [ltI_nat]; exact blt_t (by omega)) (isNat_i (X7.rd hkl ⟨_, _, ct98 hO _ h7, ?_⟩))
      refine vcond_split (fun h1 => ?_) fun h1 => ⟨_, read1 g7 (i := 0) rfl, vcond_split (fun h2 => ?_) fun h2 => ?_⟩
      · have h1 := lt_of_t h1
        exact bad (okD_f1 (List.getElem_mem hkl) (by omega)) (Q := True)
      · have h2 := lt_of_t h2
        exact bad (okD_f1 (List.getElem_mem hkl) (by omega)) (Q := True)
      have h1 := not_lt_of_f h1
      have h2 := not_lt_of_f h2
      have lx : Lit d[k] := varI_lit1 (by omega)
      have vx : (d[k].natAbs : Int) ≤ Int.ofNat N := by rw [varI_lit2 lx] at h2; omega
      obtain ⟨a2, c2, s2, X2⟩ := SA.cut hO A7 (k := k) (by omega)
      refine ⟨_, _, _, s2, _, _, ct99 hO X2 (by simp; omega), vcond_split (fun h3 => ?_) fun h3 => ?_⟩
      · obtain ⟨x, hxm, e⟩ := List.any_eq_true.1 h3
        have e := eqv.1 e
        rw [varI_lit2 lx, varI_lit2 (hx x hxm).1] at e
        exact bad (okD_f2 (nod_not hkl hxm (by omega))) (Q := True)
      · rw [wrap_succ (by omega)]
        have e1 : d.take (k + 1) = d.take k ++ [d[k]] := List.take_succ_eq_append_getElem (by omega)
        refine ih (k + 1) (by omega) (fun x h => by
          rw [e1] at h
          rcases List.mem_append.1 h with h | h
          · exact hx x h
          · rw [List.mem_singleton.1 h]; exact ⟨lx, vx⟩) (nod_snoc hkl hnd fun x hxm e2 => ?_)
        rw [List.any_eq_false] at h3
        refine h3 x hxm (eqv.2 ?_)
        rw [varI_lit2 lx, varI_lit2 (hx x hxm).1, e2]
  exact go d.length 0 (by omega) (fun x h => by simp at h) (by simp [Nod])
end
end Go.Proofs.YtfgfhplgnfbaaaaDoor
/- Conditions of functions' code, printed by a program of ours. -/
namespace Go.Proofs.YtfgfhplgnfbaaaaDoor
open Go Go.Ev
set_option maxRecDepth 100000
set_option linter.unusedVariables false
/-! sward/swardlaw20.SatUnits -/
noncomputable def b5 : Code := (Tryd.f5.body).getD .skip
def lv5 : List (Nat × List Nat) := []
def T5 (O : CallF) (Q : Value → Hp → Prop) (x0_0 : Int) (a0_1 : Option Addr) (n0_1 : Nat) (c0_1 : Nat) (a1 : Option Addr) (n1 : Nat) (c1 : Nat) (a2 : Option Addr) (n2 : Nat) (c2 : Nat) (h : Hp) : Prop :=
  let g1 : Hp := h.add (.cells [(.int .i64 x0_0), (.slice a0_1 n0_1 c0_1)] 30 .fix)
  ∃ x2', ∃ a3' n4' c5', readAt g1 h.nx 0 2 = some [(.int .i64 x2'), (.slice a3' n4' c5')] ∧
  ∃ q6', ∃ h7', EvC Tryd.prog O 28 [(.agg #[(.int .i64 x2'), (.slice a3' n4' c5')]), (.slice a1 n1 c1)] g1 (.bool q6') h7' ∧
  vcond q6'
  (∃ q8', ∃ h9', EvC Tryd.prog O 27 [] h7' (.bool q8') h9' ∧
  Q (.bool q8') h9')
  (vcond (ltI 40 (Int.ofNat n2))
  (∃ q10', ∃ h11', EvC Tryd.prog O 27 [] h7' (.bool q10') h11' ∧
  Q (.bool q10') h11')
  (∃ x12', ∃ a13' n14' c15', readAt h7' h.nx 0 2 = some [(.int .i64 x12'), (.slice a13' n14' c15')] ∧
  ∃ a16' n17' c18', ∃ q19', ∃ x20', ∃ h21', EvC Tryd.prog O 34 [(.agg #[(.int .i64 x12'), (.slice a13' n14' c15')]), (.slice a1 n1 c1)] h7' (.tuple #[(.slice a16' n17' c18'), (.bool q19'), (.int .i64 x20')]) h21' ∧
  ∃ x22', ∃ a23' n24' c25', readAt h21' h.nx 0 2 = some [(.int .i64 x22'), (.slice a23' n24' c25')] ∧
  ∃ a26' n27' c28', ∃ q29', ∃ x30', ∃ h31', EvC Tryd.prog O 35 [(.agg #[(.int .i64 x22'), (.slice a23' n24' c25')]), (.slice a1 n1 c1)] h21' (.tuple #[(.slice a26' n27' c28'), (.bool q29'), (.int .i64 x30')]) h31' ∧
  ∃ x32', ∃ a33' n34' c35', readAt h31' h.nx 0 2 = some [(.int .i64 x32'), (.slice a33' n34' c35')] ∧
  ∃ a36' n37' c38', ∃ x39', ∃ h40', EvC Tryd.prog O 36 [(.agg #[(.int .i64 x32'), (.slice a33' n34' c35')]), (.slice a2 n2 c2)] h31' (.tuple #[(.slice a36' n37' c38'), (.int .i64 x39')]) h40' ∧
  ∃ x41', ∃ a42' n43' c44', readAt h40' h.nx 0 2 = some [(.int .i64 x41'), (.slice a42' n43' c44')] ∧
  ∃ a45' n46' c47', ∃ x48', ∃ h49', EvC Tryd.prog O 37 [(.agg #[(.int .i64 x41'), (.slice a42' n43' c44')]), (.slice a2 n2 c2)] h40' (.tuple #[(.slice a45' n46' c47'), (.int .i64 x48')]) h49' ∧
  ∃ q50', ∃ h51', EvC Tryd.prog O 26 [(.slice a16' n17' c18'), (.slice a26' n27' c28')] h49' (.bool q50') h51' ∧
  vcond q50'
  (vcond (eqB q19' q29')
  (vcond (eqI x20' x30')
  (∃ q52', ∃ h53', EvC Tryd.prog O 26 [(.slice a36' n37' c38'), (.slice a45' n46' c47')] h51' (.bool q52') h53' ∧
  vcond q52'
  (vcond (eqI x39' x48')
  (∃ q54', ∃ h55', EvC Tryd.prog O 27 [] h53' (.bool q54') h55' ∧
  Q (.bool q54') h55')
  (Q (.bool false) h53'))
  (Q (.bool false) h53'))
  (Q (.bool false) h51'))
  (Q (.bool false) h51'))
  (Q (.bool false) h51')))
theorem rk5 {O Q} (x0_0 a0_1 n0_1 c0_1 a1 n1 c1 a2 n2 c2) {h : Hp} (hO : O 5 [(.agg #[(.int .i64 x0_0), (.slice a0_1 n0_1 c0_1)]), (.slice a1 n1 c1), (.slice a2 n2 c2)] h = none) (hh : T5 O Q x0_0 a0_1 n0_1 c0_1 a1 n1 c1 a2 n2 c2 h) : Ret Tryd.prog O 5 [(.agg #[(.int .i64 x0_0), (.slice a0_1 n0_1 c0_1)]), (.slice a1 n1 c1), (.slice a2 n2 c2)] h Q :=
  .of (c := b5) Tryd.func5 (by kernel_rfl) hO (V_ok (tb := lv5) (cuts := []) 500 (Eq.mp (by kernel_rfl) hh))
end Go.Proofs.YtfgfhplgnfbaaaaDoor
/- SatUnits: the plain law, and the join. -/
namespace Go.Proofs.YtfgfhplgnfbaaaaDoor
set_option maxRecDepth 100000
open Go Go.Ev
/-- What Unit returns. -/
def unitP (vars : Int) (cls : List (List Int)) (gs : List Int) : List Int × Bool × Int :=
  if askB vars cls gs = false then ([], false, 2) else if (fromN (cls.map sideN) gs).2 = true then (litsN (fromN (cls.map sideN) gs).1.1 (fromN (cls.map sideN) gs).1.2, false, 0) else ([], true, 0)
def unitR (vars : Int) (cls : List (List Int)) (gs : List Int) : List Int × Bool × Int :=
  if askB vars cls gs = false then ([], false, 2) else if (propR vars.toNat cls gs).2 = true then (litR (propR vars.toNat cls gs).1 1 ((propR vars.toNat cls gs).1.length - 1), false, 0) else ([], true, 0)
theorem ask_small {vars : Int} {cls : List (List Int)} {gs : List Int} (ha : askB vars cls gs = true) : ∃ N : Nat, vars = Int.ofNat N ∧ N ≤ 30 ∧ (∀ l ∈ cls, (∀ x ∈ l, Lit x ∧ x.natAbs < N + 1) ∧ Dif l) ∧ ∀ x ∈ gs, Lit x ∧ x.natAbs < N + 1 := by
  obtain ⟨⟨v0, v30⟩, _, q2, q3⟩ := form_bounds ha
  have lt : ∀ {l : List Int}, clB vars 0 l = true → ∀ x ∈ l, Lit x ∧ x.natAbs < vars.toNat + 1 := fun h x hx => by
    obtain ⟨p, q⟩ := clB_lit (by decide) h x hx
    rw [varI_lit2 p] at q
    exact ⟨p, by omega⟩
  exact ⟨vars.toNat, by simp only [Int.ofNat_eq_natCast]; omega, by omega, fun l hl => ⟨lt (q2 l hl), clB_dif (by decide) (q2 l hl)⟩, lt q3⟩
theorem unit_same (vars : Int) (cls : List (List Int)) (gs : List Int) : unitP vars cls gs = unitR vars cls gs := by
  unfold unitP unitR
  cases ha : askB vars cls gs with
  | false => rfl
  | true =>
    obtain ⟨N, rfl, hN, hd, hx⟩ := ask_small ha
    obtain ⟨p1, p2⟩ := prop_same hN hd hx
    obtain ⟨q1, _⟩ := propR_ok hN hd hx
    rw [if_neg (show ¬ (true = false) by decide), if_neg (show ¬ (true = false) by decide), show (Int.ofNat N).toNat = N from rfl]
    rw [p1]
    cases hr : (propR N cls gs).2 with
    | false => rfl
    | true =>
      rw [if_pos rfl, if_pos rfl]
      obtain ⟨_, _, len, tv⟩ := q1 hr
      rw [lits_same hN len tv (p2 hr), len]; rfl
theorem okD_of {vars : Int} {d : List Int} (h : okD vars d = true) : (∀ x ∈ d, Lit x ∧ (x.natAbs : Int) ≤ vars) ∧ Nod d := by
  unfold okD at h
  rw [Bool.and_eq_true, List.all_eq_true, decide_eq_true_iff] at h
  refine ⟨fun x hx => ?_, h.2⟩
  have := of_decide_eq_true (h.1 x hx)
  have l := varI_lit1 this.1
  rw [varI_lit2 l] at this
  exact ⟨l, this.2⟩
theorem nod_one {l : List Int} {v : Nat} (h : Nod l) : (l.filter fun x => x.natAbs == v).length ≤ 1 := by
  have h1 := h.filter (fun x => x.natAbs == v)
  have h2 : ∀ x ∈ l.filter (fun x => x.natAbs == v), x.natAbs = v := fun x hx => by simpa using (List.mem_filter.1 hx).2
  generalize l.filter (fun x => x.natAbs == v) = f at h1 h2
  match f, h1, h2 with
  | [], _, _ => simp
  | [_], _, _ => simp
  | a :: b :: _, h1, h2 => exact absurd ((h2 a (by simp)).trans (h2 b (by simp)).symm) ((List.pairwise_cons.1 h1).1 b (by simp))
theorem perm_small {l l' : List Int} (p : l.Perm l') (h : l.length ≤ 1) : l = l' := by
  match l, h with
  | [], _ => exact (List.nil_perm.1 p).symm ▸ rfl
  | [a], _ => exact (List.singleton_perm.1 p) ▸ rfl
theorem conO_perm {l l' : List Int} (hn : Nod l) (p : l.Perm l') : ∀ (d v : Nat), conO l v d = conO l' v d := by
  intro d
  induction d with
  | zero => intro v; rfl
  | succ d ih =>
    intro v
    unfold conO conI
    rw [perm_small (p.filter _) (nod_one hn), ih]
theorem conO_isrt {l : List Int} (hn : Nod l) (hl : ∀ x ∈ l, Lit x) : conO l 1 30 = isrt (l.map fun x => -x) := by
  have hdn : Nod (l.map fun x => -x) := by
    unfold Nod
    rw [List.pairwise_map]
    exact hn.imp fun {x z} hxz => by rw [Int.natAbs_neg, Int.natAbs_neg]; exact hxz
  have hs : Dif (isrt l) := isrt_dif hn
  rw [conO_perm hn (isrt_perm l).symm, conO_eq hs fun x hx => hl x ((isrt_perm l).subset hx)]
  refine srt_eq hdn ((isrt_perm l).map _) ?_
  rw [List.pairwise_map]
  exact hs.imp fun {x y} hxy => by rw [Int.natAbs_neg, Int.natAbs_neg]; omega
theorem learn_same (vars : Int) (cls : List (List Int)) (d : List Int) : learnP vars cls d = learnRP vars cls d := by
  unfold learnP learnRP
  cases hf : formB vars cls with
  | false => rfl
  | true =>
    rw [if_neg (show ¬ (true = false) by decide), if_neg (show ¬ (true = false) by decide)]
    cases hd : okD vars d with
    | false => rfl
    | true =>
      rw [if_neg (show ¬ (true = false) by decide), if_neg (show ¬ (true = false) by decide)]
      obtain ⟨N, rfl, hN, hcl, _⟩ := ask_small (vars := vars) (cls := cls) (gs := []) (by unfold askB; rw [hf]; rfl)
      obtain ⟨dx, dn⟩ := okD_of hd
      rw [show (Int.ofNat N).toNat = N from rfl]
      have same : ∀ l : List Int, (∀ x ∈ l, x ∈ d) → clashN (cls.map sideN) [] l = clR N cls l := fun l hl => by
        have := (prop_same (cls := cls) (xs := l) hN hcl fun x hx => by
          obtain ⟨p, q⟩ := dx x (hl x hx)
          exact ⟨p, by simp only [Int.ofNat_eq_natCast] at q; omega⟩).1
        unfold clashN clR
        rw [List.nil_append, this]
      have go : ∀ (m k : Nat), learnF (clashN (cls.map sideN) []) d m k = learnG (clR N cls) d m k := by
        intro m
        induction m with
        | zero => intro k; rfl
        | succ m ih =>
          intro k
          unfold learnF learnG
          have sub : ∀ x ∈ d.take k, x ∈ d := fun x hx => List.mem_of_mem_take hx
          rw [same _ sub, ih, needF_congr (ψ := clashN (cls.map sideN) []) (ψ' := clR N cls) k (d.take k) fun l hs => same l fun x hx => sub x (hs.subset hx)]
          have ns := needF_sub (clR N cls) k (d.take k)
          rw [conO_isrt (List.Pairwise.sublist ns (dn.sublist (List.take_sublist ..))) fun x hx => (dx x (sub x (ns.subset hx))).1]
      exact go _ _
section
variable {O : CallF} (hO : Oth O)
include hO
theorem ct34p {a a1 : Option Addr} {n c n1 c1 : Nat} {vars : Int} {h : Hp} {cls : List (List Int)} {gs : List Int} (ok : h.Ok) (ht : Tb h) (H : IntssAt h a n cls) (hl : cls.length < 10000) (hll : ∀ l ∈ cls, l.length < 1000000) (G : IntsAt h a1 n1 gs) (hgl : gs.length < 1000) :
    Ret Tryd.prog O 34 [Fm vars a n c, .slice a1 n1 c1] h fun v h' => ∃ a n c, v = .tuple #[.slice a n c, .bool (unitP vars cls gs).2.1, .int .i64 (unitP vars cls gs).2.2] ∧ IntsAt h' a n (unitP vars cls gs).1 ∧ Kp h.nx h h' := by
  cases ha : askB vars cls gs with
  | true =>
    obtain ⟨N, rfl, hN, hd, hx⟩ := ask_small ha
    have hlit : ∀ l ∈ cls, ∀ x ∈ l, Lit x := fun l hl x hx => ((hd l hl).1 x hx).1
    have hg : ∀ x ∈ gs, Lit x := fun x h => (hx x h).1
    obtain ⟨v, h', e, a', n', c', rfl, X, K⟩ := ct34 hO ok ht H hl hll hlit G hgl hg ha (fromN_lt (sides_lt hO hlit) hg) (c := c) (c1 := c1)
    refine ⟨_, h', e, a', n', c', ?_, ?_, K⟩
    · unfold unitP
      rw [ha, if_neg (show ¬ (true = false) by decide)]
      cases (fromN (cls.map sideN) gs).2 <;> rfl
    · unfold unitP
      rw [ha, if_neg (show ¬ (true = false) by decide)]
      revert X
      cases (fromN (cls.map sideN) gs).2 <;> exact id
  | false =>
    refine rk34 _ _ _ _ _ _ _ (hO _ _ _ (by decide)) ?_
    unfold T34
    have kp : Kp h.nx h _ := fm_kp h vars a n c
    have g : (h.add _).get h.nx = some (.cells [.int .i64 vars, .slice a n c] 30 .fix) := fm_get h vars a n c
    refine ⟨_, _, _, _, by rw [readAt_get g (by simp)]; rfl, ?_⟩
    obtain ⟨v1, h7, e7, rfl, K7⟩ := ct78 hO (c := c) (vars := vars) (c1 := c1) (H.up EInts.up kp) (by omega) hll (G.up EInt.up kp) (by omega)
    refine ⟨_, h7, e7, ?_⟩
    unfold unitP
    rw [ha]
    exact vcond_t (by decide) ⟨_, _, _, rfl, SlAt.nil .., kp.trans (K7.le kp.nx)⟩
theorem ct35 {a a1 : Option Addr} {n c n1 c1 : Nat} {vars : Int} {h : Hp} {cls : List (List Int)} {gs : List Int} (ok : h.Ok) (H : IntssAt h a n cls) (hl : cls.length < 10000) (hll : ∀ l ∈ cls, l.length < 1000000) (G : IntsAt h a1 n1 gs) (hgl : gs.length < 1000) :
    Ret Tryd.prog O 35 [Fm vars a n c, .slice a1 n1 c1] h fun v h' => ∃ a n c, v = .tuple #[.slice a n c, .bool (unitR vars cls gs).2.1, .int .i64 (unitR vars cls gs).2.2] ∧ IntsAt h' a n (unitR vars cls gs).1 ∧ Kp h.nx h h' := by
  refine rk35 _ _ _ _ _ _ _ (hO _ _ _ (by decide)) ?_
  unfold T35
  have kp : Kp h.nx h _ := fm_kp h vars a n c
  have g : (h.add _).get h.nx = some (.cells [.int .i64 vars, .slice a n c] 30 .fix) := fm_get h vars a n c
  refine ⟨_, _, _, _, by rw [readAt_get g (by simp)]; rfl, ?_⟩
  obtain ⟨v1, h7, e7, rfl, K7⟩ := ct91 hO (c := c) (vars := vars) (c1 := c1) (H.up EInts.up kp) (by omega) hll (G.up EInt.up kp) (by omega)
  have k7 : Kp h.nx h h7 := kp.trans (K7.le kp.nx)
  have g7 : h7.get h.nx = some (.cells [.int .i64 vars, .slice a n c] 30 .fix) := by rw [K7.get _ (by show h.nx < h.nx + 1; omega)]; exact g
  refine ⟨_, h7, e7, ?_⟩
  unfold unitR
  cases ha : askB vars cls gs with
  | false => exact vcond_t (by decide) ⟨_, _, _, rfl, SlAt.nil .., k7⟩
  | true =>
    obtain ⟨N, rfl, hN, hd, hx⟩ := ask_small ha
    rw [if_neg (show ¬ (true = false) by decide), show (Int.ofNat N).toNat = N from rfl, if_pos rfl]
    refine vcond_f (by decide) ⟨_, read1 g7 (i := 0) rfl, _, _, _, read1 g7 (i := 1) rfl, ?_⟩
    obtain ⟨v2, h2, e2, a2, n2, c2, rfl, K2, hts⟩ := ct92 hO (ok.kp k7) (H.up EInts.up k7) (by omega) hll hN (fun l hl => (hd l hl).1) (G.up EInt.up k7) (by omega) hx (c := c) (c2 := c1)
    obtain ⟨q1, _⟩ := propR_ok hN hd hx
    have k2 := k7.trans (K2.le k7.nx)
    refine ⟨_, _, _, _, _, e2, ?_⟩
    cases hr : (propR N cls gs).2 with
    | false => exact vcond_t rfl ⟨_, _, _, rfl, SlAt.nil .., k2⟩
    | true =>
      obtain ⟨_, _, len, tv⟩ := q1 hr
      obtain ⟨b, rfl, _, T, rfl⟩ := hts hr
      refine vcond_f rfl (ret_ri (ct93 hO (ok.kp k2) T.ints (by omega) (by omega) tv) fun a5 n5 c5 h5 X5 K5 _ => ?_)
      exact ⟨_, _, _, rfl, X5, k2.trans (K5.le k2.nx)⟩
end
theorem learnF_len (cl : List Int → Bool) (d : List Int) : ∀ (m k : Nat), (learnF cl d m k).1.length ≤ d.length := by
  intro m
  induction m with
  | zero => intro k; exact Nat.zero_le _
  | succ m ih =>
    intro k
    unfold learnF
    split
    · show (isrt _).length ≤ _
      rw [(isrt_perm _).length_eq, List.length_map]
      exact Nat.le_trans (needF_sub ..).length_le (by rw [List.length_take]; omega)
    · exact ih _
theorem law5 {a a1 a2 : Option Addr} {n c n1 c1 n2 c2 : Nat} {vars : Int} {h : Hp} {cls : List (List Int)} {gs d : List Int} (ok : h.Ok) (ht : Tb h) (H : IntssAt h a n cls) (G : IntsAt h a1 n1 gs) (A : SA h a2 n2 c2 d) :
    Ret Tryd.prog Ow5 5 [Fm vars a n c, .slice a1 n1 c1, .slice a2 n2 c2] h Yes := by
  have hO : Oth Ow5 := Ow5_oth
  have n0 : 0 < h.nx := by have := ht.1; omega
  refine rk5 (hO := hO _ _ _ (by decide)) (hh := ?_) ..
  unfold T5
  intro g1
  have kp : Kp h.nx h g1 := fm_kp h vars a n c
  have g : g1.get h.nx = some (.cells [.int .i64 vars, .slice a n c] 30 .fix) := fm_get h vars a n c
  have nx1 : g1.nx = h.nx + 1 := nx_add ..
  have hn1 := G.1
  have hn2 := A.1.1
  have wk : ∀ {x : Hp}, Kp h.nx h x → EvC Tryd.prog Ow5 27 [] x (.bool true) x := fun k => Ow5_works (ht.kp k n0).1 (ht.kp k n0).2
  obtain ⟨v1, h7, e7, rfl, K7⟩ := ct28 hO (c := c) (vars := vars) (a1 := a1) (n1 := n1) (c1 := c1) (H.up EInts.up kp)
  have k7 : Kp h.nx h h7 := kp.trans (K7.le kp.nx)
  have g7 : h7.get h.nx = some (.cells [.int .i64 vars, .slice a n c] 30 .fix) := (K7.get _ (by omega)).trans g
  have b7 : h.nx < h7.nx := by have := K7.nx; omega
  refine ⟨_, _, _, _, readAt_get g (by simp), _, _, e7, vcond_split (fun _ => ⟨_, _, wk k7, rfl⟩) fun hg => vcond_split (fun _ => ⟨_, _, wk k7, rfl⟩) fun hd => ?_⟩
  rw [Bool.or_eq_false_iff] at hg
  obtain ⟨hl0, hll0⟩ := greatB_not hg.1
  have hgl : n1 ≤ 40 := by have := of_decide_eq_false hg.2; omega
  have hdl : n2 ≤ 40 := by have := not_lt_of_f hd; simp only [Int.ofNat_eq_natCast] at this; omega
  have hll : ∀ l ∈ cls, l.length < 1000000 := fun l h => by have := hll0 l h; omega
  have rd : ∀ {x : Hp}, Kp h7.nx h7 x → readAt x h.nx 0 2 = some [.int .i64 vars, .slice a n c] := fun k => readAt_get ((k.get _ b7).trans g7) (by simp)
  refine ⟨_, _, _, _, rd (.refl _ _), ?_⟩
  obtain ⟨v2, h21, e2, u1, u2, u3, rfl, U, K2⟩ := ct34p hO (ok.kp k7) (ht.kp k7 n0) (H.up EInts.up k7) (by omega) hll (G.up EInt.up k7) (by omega) (vars := vars) (c := c) (c1 := c1)
  have k21 : Kp h.nx h h21 := k7.trans (K2.le k7.nx)
  refine ⟨_, _, _, _, _, _, e2, _, _, _, _, rd K2, ?_⟩
  obtain ⟨v3, h31, e3, w1, w2, w3, rfl, W, K3⟩ := ct35 hO (ok.kp k21) (H.up EInts.up k21) (by omega) hll (G.up EInt.up k21) (by omega) (vars := vars) (c := c) (c1 := c1)
  have k31 : Kp h.nx h h31 := k21.trans (K3.le k21.nx)
  have K31 := K2.trans (K3.le K2.nx)
  refine ⟨_, _, _, _, _, _, e3, _, _, _, _, rd K31, ?_⟩
  obtain ⟨v4, h40, e4, l1, l2, l3, rfl, L4, K4⟩ := ct36p hO Ow5_sort (ok.kp k31) (H.up EInts.up k31) (by omega) hll (A.up k31) (by omega) (vars := vars) (c := c)
  have k40 : Kp h.nx h h40 := k31.trans (K4.le k31.nx)
  have K40 := K31.trans (K4.le K31.nx)
  refine ⟨_, _, _, _, _, e4, _, _, _, _, rd K40, ?_⟩
  obtain ⟨v5, h49, e5, m1, m2, m3, rfl, M5, K5⟩ := ct37 hO (ok.kp k40) (H.up EInts.up k40) (by omega) hll (A.up k40) (by omega) (vars := vars) (c := c)
  have k49 : Kp h.nx h h49 := k40.trans (K5.le k40.nx)
  refine ⟨_, _, _, _, _, e5, ?_⟩
  have f1 := (K3.trans ((K4.trans (K5.le K4.nx)).le K3.nx)).ex (Nat.le_refl _)
  have f2 := (K4.trans (K5.le K4.nx)).ex (Nat.le_refl _)
  have f3 := K5.ex (Nat.le_refl _)
  rw [← unit_same] at W e3
  rw [← learn_same] at M5 e5
  have ul : (unitP vars cls gs).1.length < 1000000 := by
    unfold unitP
    split
    · simp
    · split
      · exact Nat.lt_of_le_of_lt (litsN_len _ _) (by decide)
      · simp
  have ll : (learnP vars cls d).1.length < 1000000 := by
    unfold learnP
    split
    · simp
    · split
      · simp
      · have := learnF_len (clashN (cls.map sideN) []) d (d.length + 1) 0
        omega
  refine (ct26 hO (U.to h49) (W.to h49) ul).b1 fun h51 K6 => ?_
  have k51 : Kp h.nx h h51 := k49.trans (K6.le k49.nx)
  have f4 := K6.ex (Nat.le_refl _)
  have q1 : ∀ b : Bool, eqB b b = true := fun b => by cases b <;> rfl
  rw [← unit_same, ← learn_same]
  refine vcond_t (by simp) (vcond_t (q1 _) (vcond_t (eqI_t rfl) ?_))
  refine (ct26 hO ((L4.to h49).to h51) (M5.to h51) ll).b1 fun h53 K8 => ?_
  have k53 : Kp h.nx h h53 := k51.trans (K8.le k51.nx)
  exact vcond_t (by simp) (vcond_t (eqI_t rfl) ⟨_, _, wk k53, rfl⟩)
end Go.Proofs.YtfgfhplgnfbaaaaDoor
/- From the evaluator's word on SatUnits to the kit's: with the second oracle. -/
namespace Go.Proofs.YtfgfhplgnfbaaaaDoor
open Go Go.Ev Go.ChangeShapes Go.WideShapes Go.ChangeAt Go.RowKit
set_option maxRecDepth 100000 in
theorem law_callsS {H : Type} {enc : TypeId × Value → H} {f : FuncId} {fn : Func} (hf : Tryd.prog.funcs[f]? = some fn) (hb : fn.body.isSome = true) (h27 : f ≠ 27 ∧ f ≠ 17 ∧ f ≠ 74) {W : World} (ht : ∀ j x, tab[j]? = some x → W.cell? ⟨0, j, none⟩ = some x)
    {ts : List TypeId} {args : Array Value} {ds : List (DataW H)} {p : List MemPlace} (hA : DataW.TrodAll enc Tryd.prog W 0 (fun _ => true) true ts args.toList ds p) (hbd : ∀ t ∈ ts, ∀ n, Builds H enc Tryd.prog W n t) (hs : ∀ (i : Nat) t v, ts[i]? = some t → args.toList[i]? = some v → Shaped1 Tryd.prog t v)
    (hR : ∀ (h : Hp) (evs : List Value), Tb h → h.Ok → h.gd = [] → DEs Tryd.prog h ts evs ds → Ret Tryd.prog Ow5 f evs h fun v _ => v = .bool true) (hlt : f < yB := by decide) :
    Calls Tryd.prog f args W fun e W' => e = .returned (.bool true) ∧ Below W.heap.size W W' := by
  obtain ⟨ι, h, evs, E, B, V, D⟩ := args_build hA hbd hs iota0 h0 (start_base ht)
  have hg : h.gd = [] := B.gd
  have htb : Tb h := ⟨Nat.lt_of_lt_of_le Nat.zero_lt_one E.nx, by rw [E.get 0 Nat.zero_lt_one]; exact h0_tab⟩
  have hfr : h.Fresh := fun o ho => by
    cases ho2 : h.get o with
    | none => rfl
    | some x => have := (B.rh.live o x ho2).1; omega
  obtain ⟨v, h', he, rfl⟩ := hR h evs htb ⟨fun q hq => (by rw [hg] at hq; cases hq), hfr⟩ hg D
  have := calls_of_EvC mixed noNum Ow5_ok hlt hf hb (Ow5_oth.o f evs h h27) he B.rh V
  have e : args.toList.toArray = args := by simp
  rw [e] at this
  refine this.mono fun e W' ⟨ι', v', h1, h2, h3⟩ => ?_
  obtain rfl := VR.of_flat rfl h3
  exact ⟨h1, h2.fr.os, h2.fr.tape, h2.fr.output, h2.fr.size, fun k hk => h2.fr.rest k hk fun o x _ ho hx => by rw [B.ro o x ho] at hx; cases hx⟩
end Go.Proofs.YtfgfhplgnfbaaaaDoor
