/- From the evaluator's word on a law of layer 20 to the kit's. -/
import Derived.Test.YtfgfhplgnfbaaaaDoorYF
import Derived.Test.YtfgfhplgnfbaaaaDoorYD
import Derived.Test.YtfgfhplgnfbaaaaDoorCards
import Derived.Test.YtfgfhplgnfbaaaaDoorTie
import Derived.Lib.LaidTab
import Derived.Test.YtfgfhplgnfbaaaaDoorProg
import Derived.Test.YtfgfhplgnfbaaaaDoorYC
import Derived.KernelRfl
import Derived.Test.YtfgfhplgnfbaaaaDoorYE
namespace Go.Proofs.YtfgfhplgnfbaaaaDoor
open Go Go.Ev Go.ChangeShapes Go.WideShapes Go.ChangeAt Go.RowKit
theorem own : ownKnob Tryd.prog.godebug = none := by kernel_rfl
theorem gTab : Tryd.prog.globalNamed "math/bits.deBruijn32tab" = some 0 := by kernel_rfl
theorem gTabType : (Tryd.prog.globals[0]?).map (·.type) = some 156 := by kernel_rfl
theorem cellsArr : Tryd.prog.cellsOf 156 = 32 := by kernel_rfl
theorem cellsOne : Tryd.prog.cellsOf 5 = 1 := by kernel_rfl
def nums : List Int := [0,1,28,2,29,14,24,3,30,22,20,15,25,17,4,8,31,27,13,23,21,19,16,7,26,12,18,6,11,5,10,9]
set_option maxRecDepth 100000 in
theorem kids : Kids Tryd.prog (· < Tryd.prog.types.size) := kids_rows (by kernel_rfl) (by kernel_rfl)
set_option maxRecDepth 100000 in
theorem full : ∀ t e, t < Tryd.prog.types.size → Tryd.prog.underlying t = some (.slice e) → 0 < Tryd.prog.cellsOf e := slices_full_of _ (by kernel_rfl)
theorem tab_cells {W : World} (h : Lib.TabIs Tryd.prog W "math/bits.deBruijn32tab" .u8 nums) : ∀ j x, tab[j]? = some x → W.cell? ⟨0, j, none⟩ = some x := by
  intro j x hj
  have hjl : j < 32 := (List.getElem?_eq_some_iff.1 hj).1
  have hn : j < nums.length := hjl
  have := h.cell gTab j hn
  rw [this]
  have e : tab = nums.map fun x => Value.int .u8 x := rfl
  rw [e, List.getElem?_map, List.getElem?_eq_getElem hn] at hj
  rw [List.getD_eq_getElem?_getD, List.getElem?_eq_getElem hn]
  exact hj
/-- The names at the start: the one package-level variable. -/
def iota0 : Inj := fun o => if o = 0 then some ⟨0, 0, 0, 0⟩ else none
theorem start_RH {W : World} (ht : ∀ j x, tab[j]? = some x → W.cell? ⟨0, j, none⟩ = some x) : RH Tryd.prog iota0 h0 W := by
  have h00 := ht 0 _ rfl
  have hblk : ∃ c e fr, W.heap[0]? = some (.cells c e fr) := by
    cases hb : W.heap[0]? with
    | none => simp [World.cell?, hb] at h00
    | some y =>
      cases y with
      | cells c e fr => exact ⟨c, e, fr, rfl⟩
      | _ => simp [World.cell?, hb] at h00
  obtain ⟨c, e, fr, hb⟩ := hblk
  refine ⟨fun o x ho => ?_, fun o q x y vo vq _ ho hx => ?_, fun o ho => if_neg (by have : 1 ≤ o := ho; omega), fun g hg => ?_, by rw [gsz]; exact Nat.le_refl _⟩
  · obtain ⟨rfl, rfl⟩ := h0_get o x ho
    refine ⟨Nat.zero_lt_one, ⟨0, 0, 0, 0⟩, rfl, tab_one, c, e, fr, hb, fun j x hx => ?_, fun h => absurd rfl h, fun h => by cases h⟩
    have := ht j x hx
    refine ⟨x, ?_, .flat (all_get tab_flat hx)⟩
    simpa [World.cell?, hb] using this
  · obtain ⟨rfl, rfl⟩ := h0_get o x ho
    cases hx
  · rw [gsz] at hg
    obtain rfl : g = 0 := by omega
    exact ⟨0, 0, rfl⟩
set_option maxRecDepth 100000 in
theorem h0_tab : h0.get 0 = some (.cells tab 0 .ro) := by kernel_rfl
set_option maxRecDepth 100000 in
theorem start_base {W : World} (ht : ∀ j x, tab[j]? = some x → W.cell? ⟨0, j, none⟩ = some x) : Base Tryd.prog iota0 h0 W :=
  ⟨start_RH ht, fun o x ho => by obtain ⟨rfl, rfl⟩ := h0_get o x ho; rfl, rfl, ⟨_, ⟨0, 0, 0, 0⟩, h0_tab, rfl, Nat.zero_lt_one, tab, 0, rfl⟩⟩
set_option maxRecDepth 100000 in
/-- A law that the evaluator finds true, wherever its arguments lie, is true. -/
theorem law_calls {H : Type} {enc : TypeId × Value → H} {f : FuncId} {fn : Func} (hf : Tryd.prog.funcs[f]? = some fn) (hb : fn.body.isSome = true) (h27 : f ≠ 27 ∧ f ≠ 17) {W : World} (ht : ∀ j x, tab[j]? = some x → W.cell? ⟨0, j, none⟩ = some x)
    {ts : List TypeId} {args : Array Value} {ds : List (DataW H)} {p : List MemPlace} (hA : DataW.TrodAll enc Tryd.prog W 0 (fun _ => true) true ts args.toList ds p) (hbd : ∀ t ∈ ts, ∀ n, Builds H enc Tryd.prog W n t) (hs : ∀ (i : Nat) t v, ts[i]? = some t → args.toList[i]? = some v → Shaped1 Tryd.prog t v)
    (hR : ∀ (h : Hp) (evs : List Value), Tb h → h.Ok → h.gd = [] → DEs Tryd.prog h ts evs ds → Ret Tryd.prog Ow f evs h fun v _ => v = .bool true) (hlt : f < yB := by decide) :
    Calls Tryd.prog f args W fun e W' => e = .returned (.bool true) ∧ Below W.heap.size W W' := by
  obtain ⟨ι, h, evs, E, B, V, D⟩ := args_build hA hbd hs iota0 h0 (start_base ht)
  have hg : h.gd = [] := B.gd
  have htb : Tb h := ⟨Nat.lt_of_lt_of_le Nat.zero_lt_one E.nx, by rw [E.get 0 Nat.zero_lt_one]; exact h0_tab⟩
  have hfr : h.Fresh := fun o ho => by
    cases ho2 : h.get o with
    | none => rfl
    | some x => have := (B.rh.live o x ho2).1; omega
  obtain ⟨v, h', he, rfl⟩ := hR h evs htb ⟨fun q hq => (by rw [hg] at hq; cases hq), hfr⟩ hg D
  have := calls_of_EvC mixed noNum Ow_ok hlt hf hb (Ow_oth f evs h h27) he B.rh V
  have e : args.toList.toArray = args := by simp
  rw [e] at this
  refine this.mono fun e W' ⟨ι', v', h1, h2, h3⟩ => ?_
  obtain rfl := VR.of_flat rfl h3
  exact ⟨h1, h2.fr.os, h2.fr.tape, h2.fr.output, h2.fr.size, fun k hk => h2.fr.rest k hk fun o x _ ho hx => by rw [B.ro o x ho] at hx; cases hx⟩
/-- A world for the witness: the table holds what its initialiser lays. -/
noncomputable def laidWorld (os : Os) : World :=
  { World.holding Tryd.prog os ⟨#[], #[], []⟩ with heap := (World.holding Tryd.prog os ⟨#[], #[], []⟩).heap.modify 0 fun
      | .cells _ t frozen => .cells tab.toArray t frozen
      | o => o }
end Go.Proofs.YtfgfhplgnfbaaaaDoor
/- SatForms of layer 20 returns true, for every input: its law, by the contracts of what it calls. -/
namespace Go.Proofs.YtfgfhplgnfbaaaaDoor
open Go Go.Ev
theorem works_true {h : Hp} (ht : Tb h) : EvT Ow 27 [] h (.bool true) h := Ow_works ht.1 ht.2
/-! ### arguments -/
section
variable {H : Type} {enc : TypeId × Value → H} {W : World}
theorem build0 (t : TypeId) : Builds H enc Tryd.prog W 0 t := fun cs d ps h => by simp [DataW.trod] at h
end
end Go.Proofs.YtfgfhplgnfbaaaaDoor
/- Arguments by numbers: how they lie in memory. -/
namespace Go.Proofs.YtfgfhplgnfbaaaaDoor
open Go Go.Ev Go.ChangeShapes Go.WideShapes Go.ChangeAt Go.RowKit
theorem und5 : Tryd.prog.underlying 5 = some (.int .u8) := by kernel_rfl
theorem und22 : Tryd.prog.underlying 22 = some (.int .i8) := by kernel_rfl
theorem und23 : Tryd.prog.underlying 23 = some (.array 3 22) := by kernel_rfl
theorem und24 : Tryd.prog.underlying 24 = some (.array 14 23) := by kernel_rfl
theorem sz23 : Tryd.prog.cellsOf 23 = 3 * Tryd.prog.cellsOf 22 := by kernel_rfl
theorem sz24 : Tryd.prog.cellsOf 24 = 14 * Tryd.prog.cellsOf 23 := by kernel_rfl
theorem n24 : Tryd.prog.cellsOf 24 = 42 := by kernel_rfl
section
variable {H : Type} {enc : TypeId × Value → H} {W : World}
theorem bld5 : ∀ n, Builds H enc Tryd.prog W n 5
  | 0 => build0 5
  | _ + 1 => build_int und5
theorem bld22 : ∀ n, Builds H enc Tryd.prog W n 22
  | 0 => build0 22
  | _ + 1 => build_int und22
theorem bld23 : ∀ n, Builds H enc Tryd.prog W n 23
  | 0 => build0 23
  | n + 1 => build_array (bld22 n) sz23 und23
theorem bld24 : ∀ n, Builds H enc Tryd.prog W n 24
  | 0 => build0 24
  | n + 1 => build_array (bld23 n) sz24 und24
theorem agg_of_list {v : Value} {l : List Value} (h : v.cells.toList = l) (hl : l.length ≠ 1) : v = .agg l.toArray := by
  cases v with
  | agg cs =>
    have h : cs.toList = l := h
    obtain ⟨k⟩ := cs
    have h : k = l := h
    rw [h]
  | _ => exact absurd (by rw [← h]; rfl) hl
theorem byte_of {h : Hp} {n : Nat} {cs : List Value} {d : DataW H} (D : DE Tryd.prog h n 5 cs d) : ∃ x : Nat, cs = [.int .u8 (Int.ofNat x)] ∧ x < 256 := by
  obtain ⟨x, e, hx⟩ := DE_int und5 D
  have := wf_rng hx
  have m1 : IntKind.min .u8 = 0 := rfl
  have m2 : IntKind.max .u8 = 255 := rfl
  obtain ⟨n, rfl⟩ : ∃ n : Nat, x = Int.ofNat n := ⟨x.toNat, by simp only [Int.ofNat_eq_natCast]; omega⟩
  exact ⟨n, e, by simp only [Int.ofNat_eq_natCast] at *; omega⟩
theorem n26 : Tryd.prog.cellsOf 26 = 44 := by kernel_rfl
theorem n5 : Tryd.prog.cellsOf 5 = 1 := by kernel_rfl
set_option maxRecDepth 100000 in
theorem bld26 : ∀ n, Builds H enc Tryd.prog W n 26
  | 0 => build0 26
  | n + 1 => build_struct (fun f hf => by
      simp at hf
      rcases hf with rfl | rfl | rfl
      · exact bld5 n
      · exact bld5 n
      · exact bld24 n) (by kernel_rfl) Tryd.underlying26
theorem int22 {h : Hp} : ∀ n cs (d : DataW H), DE Tryd.prog h n 22 cs d → AllInt .i8 cs := fun _ _ _ D => DE_allInt und22 D
theorem int23 {h : Hp} : ∀ n cs (d : DataW H), DE Tryd.prog h n 23 cs d → AllInt .i8 cs := fun _ _ _ D => (DE_array und23 sz23 int22 D).2
theorem i8_rng {x : Int} (h : (Lit.int .i8 x).wf = true) : -128 ≤ x ∧ x < 128 := by
  have := wf_rng h
  have m1 : IntKind.min .i8 = -128 := rfl
  have m2 : IntKind.max .i8 = 127 := rfl
  omega
set_option maxRecDepth 100000 in
/-- A puzzle. -/
theorem puz_of {h : Hp} {n : Nat} {v : Value} {d : DataW H} (D : DE Tryd.prog h n 26 v.cells.toList d) : ∃ vars many cl, v = .agg (puzV vars many cl).toArray ∧ PuzOk vars many cl := by
  cases n with
  | zero => exact D.elim
  | succ n =>
    obtain ⟨hl, hf⟩ := DE_struct Tryd.underlying26 D
    rw [n26] at hl
    obtain ⟨d0, D0⟩ := hf 0 _ rfl
    obtain ⟨d1, D1⟩ := hf 1 _ rfl
    obtain ⟨d2, D2⟩ := hf 2 _ rfl
    obtain ⟨x, e0, hx⟩ := byte_of D0
    obtain ⟨y, e1, hy⟩ := byte_of D1
    obtain ⟨l2, a2⟩ := DE_array und24 sz24 int23 D2
    obtain ⟨cl, e2, hcl⟩ := a2.list
    have e0 : (v.cells.toList.drop 0).take 1 = [.int .u8 (Int.ofNat x)] := by rw [← n5]; exact e0
    have e1 : (v.cells.toList.drop 1).take 1 = [.int .u8 (Int.ofNat y)] := by rw [← n5]; exact e1
    have e2 : (v.cells.toList.drop 2).take 42 = cl.map (Value.int .i8) := by rw [← n24]; exact e2
    have e : v.cells.toList = puzV x y cl := by
      generalize v.cells.toList = cs at *
      rcases cs with _ | ⟨a, _ | ⟨b, r⟩⟩
      · simp at hl
      · simp at hl
      · simp at e0 e1 e2
        rw [List.take_of_length_le (by simp at hl; omega)] at e2
        rw [e0, e1, e2]; rfl
    have lcl : cl.length = 42 := by
      have := congrArg List.length e
      rw [hl] at this
      simp [puzV] at this; omega
    exact ⟨x, y, cl, agg_of_list e (by simp [puzV, lcl]), hx, hy, lcl, fun z hz => i8_rng (hcl z hz)⟩
/-- A row of small numbers. -/
theorem row_of {h : Hp} {n m t : Nat} {v : Value} {d : DataW H} (hu : Tryd.prog.underlying t = some (.array m 22)) (hs : Tryd.prog.cellsOf t = m * Tryd.prog.cellsOf 22) {w : Nat} (hw : Tryd.prog.cellsOf t = w) (hw1 : w ≠ 1) (D : DE Tryd.prog h n t v.cells.toList d) : ∃ ls : List Int, v = .agg (ls.map (Value.int .i8)).toArray ∧ ls.length = w ∧ ∀ x ∈ ls, -128 ≤ x ∧ x < 128 := by
  obtain ⟨l2, a2⟩ := DE_array hu hs int22 D
  obtain ⟨ls, e, hls⟩ := a2.list
  have hl : ls.length = w := by
    have := congrArg List.length e
    rw [l2, hw] at this
    simpa using this.symm
  exact ⟨ls, agg_of_list e (by rw [List.length_map]; omega), hl, fun z hz => i8_rng (hls z hz)⟩
end
end Go.Proofs.YtfgfhplgnfbaaaaDoor
/- SatResolved of layer 20: the law. -/
namespace Go.Proofs.YtfgfhplgnfbaaaaDoor
open Go Go.Ev
/-- A part of a list that grows. -/
theorem slice_grow {h : Hp} {base : Nat} {a : Option Addr} {n c : Nat} {xs : List Int} (A : AccI 3 h base a n c xs) {k : Nat} (hk : k ≤ xs.length) (h0 : 0 < xs.length) (hs : xs.length < 1000000) : ∃ a' c', sliceV Tryd.prog h 32 (.slice a n c) none (some (.int .i64 (Int.ofNat k))) none = some (.slice a' k c') ∧ IntsAt h a' k (xs.take k) := by
  have X := A.ints
  rcases A with ⟨rfl, _, _, h4⟩ | ⟨o, rfl, rfl, h3, h4, h5, h6⟩
  · have : xs = [] := by simpa using h4
    subst this; simp at h0
  · have hn := X.1
    refine ⟨some ⟨o, 0, none⟩, unk, ?_, SlAt.take X k hk⟩
    have e2 : sz Tryd.prog 3 = some 1 := by kernel_rfl
    have e3 : Ev.seen h 3 1 (.slice (some ⟨o, 0, none⟩) n unk) = some n := by
      simp only [Ev.seen, Nat.beq_refl, cond_true, h6]
      have e5 : Nat.blt 0 1 = true := rfl
      rw [e5]
      show some (((xs.map (Value.int .i64)).length - 0) / 1) = some n
      rw [List.length_map, Nat.sub_zero, Nat.div_one, hn]
    have e4 : bounds n n none (some (.int .i64 (Int.ofNat k))) none = some (0, k, n) := by
      unfold bounds boundM boundH boundL boundV
      simp only [Option.bind_some, Option.map_some]
      rw [ble_t (by omega)]; rfl
    unfold sliceV
    rw [Tryd.underlying32]
    simp only [e2, bind, Option.bind_some, e3, e4]
    rw [Nat.beq_refl]; simp
theorem ret_ri {O : CallF} {f : FuncId} {az : List Value} {h : Hp} {xs : List Int} (r : Ret Tryd.prog O f az h (RInts h xs)) {K : Option Addr → Nat → Nat → Hp → Prop} (next : ∀ a n c h', IntsAt h' a n xs → Kp h.nx h h' → (∀ b off, a = some ⟨b, off, none⟩ → h.nx ≤ b) → K a n c h') : ∃ a n c, ∃ h', EvC Tryd.prog O f az h (.slice a n c) h' ∧ K a n c h' :=
  let ⟨_, h', e, a, n, c, hv, q1, q2, q3⟩ := r; ⟨a, n, c, h', hv ▸ e, next a n c h' q1 q2 q3⟩
abbrev Yes : Value → Hp → Prop := fun v _ => v = .bool true
end Go.Proofs.YtfgfhplgnfbaaaaDoor
/- Conditions of functions' code, printed by a program of ours. -/
namespace Go.Proofs.YtfgfhplgnfbaaaaDoor
open Go Go.Ev
set_option maxRecDepth 100000
set_option linter.unusedVariables false
/-! sward/swardlaw20.SatNames$1 -/
noncomputable def b18 : Code := (Tryd.f18.body).getD .skip
/-! sward/sat.Learn -/
noncomputable def b36 : Code := (Tryd.f36.body).getD .skip
noncomputable def stk36_0 : List KI := [.code (sub [1, 1, 1, 0, 1, 0] b36), .blk 0, .code (sub [1, 1, 1, 1] b36)]
noncomputable def stk36_1 : List KI := [.code (sub [1, 1, 1, 1, 1, 0, 1, 0] b36), .blk 2, .code (sub [1, 1, 1, 1, 1, 1] b36)]
def lv36 : List (Nat × List Nat) := [(0, [1, 2, 4, 5, 7, 18, 19, 20]), (2, [1, 4, 5, 11, 50, 51])]
def I36_0 (O : CallF) (Q : Value → Hp → Prop) (x0_0 : Int) (a0_1 : Option Addr) (n0_1 : Nat) (c0_1 : Nat) (a1 : Option Addr) (n1 : Nat) (c1 : Nat) (b2 : Nat) (f2 : Nat) (a4 : Option Addr) (n4 : Nat) (c4 : Nat) (x5 : Int) (x7 : Int) (x20 : Int) (h : Hp) : Prop := RKL Tryd.prog O Tryd.f36 stk36_0 67 [1, 2, 4, 5, 7, 18, 19, 20] [(.slice a1 n1 c1), (.pointer (some ⟨b2, f2, none⟩)), (.slice a4 n4 c4), (.int .i64 x5), (.int .u32 x7), (.slice a1 n1 c1), (.int .i64 (Int.ofNat n1)), (.int .i64 x20)] h Q
def I36_1 (O : CallF) (Q : Value → Hp → Prop) (x0_0 : Int) (a0_1 : Option Addr) (n0_1 : Nat) (c0_1 : Nat) (a1 : Option Addr) (n1 : Nat) (c1 : Nat) (a4 : Option Addr) (n4 : Nat) (c4 : Nat) (x5 : Int) (a11 : Option Addr) (x50 : Int) (x51 : Int) (h : Hp) : Prop := RKL Tryd.prog O Tryd.f36 stk36_1 67 [1, 4, 5, 11, 50, 51] [(.slice a1 n1 c1), (.slice a4 n4 c4), (.int .i64 x5), (.pointer a11), (.int .i64 x50), (.int .i64 x51)] h Q
def T36 (O : CallF) (Q : Value → Hp → Prop) (x0_0 : Int) (a0_1 : Option Addr) (n0_1 : Nat) (c0_1 : Nat) (a1 : Option Addr) (n1 : Nat) (c1 : Nat) (h : Hp) : Prop :=
  let g1 : Hp := h.add (.cells [(.int .i64 x0_0), (.slice a0_1 n0_1 c0_1)] 30 .fix)
  ∃ x2', ∃ a3' n4' c5', readAt g1 h.nx 0 2 = some [(.int .i64 x2'), (.slice a3' n4' c5')] ∧
  ∃ x6', ∃ h7', EvC Tryd.prog O 31 [(.agg #[(.int .i64 x2'), (.slice a3' n4' c5')])] g1 (.int .i64 x6') h7' ∧
  vcond (!(eqI x6' 0))
  (Q (.tuple #[(.slice none 0 0), (.int .i64 x6')]) h7')
  (I36_0 O Q x0_0 a0_1 n0_1 c0_1 a1 n1 c1 h.nx 0 none 0 0 0 0 0 h7')
theorem rk36 {O Q} (x0_0 a0_1 n0_1 c0_1 a1 n1 c1) {h : Hp} (hO : O 36 [(.agg #[(.int .i64 x0_0), (.slice a0_1 n0_1 c0_1)]), (.slice a1 n1 c1)] h = none) (hh : T36 O Q x0_0 a0_1 n0_1 c0_1 a1 n1 c1 h) : Ret Tryd.prog O 36 [(.agg #[(.int .i64 x0_0), (.slice a0_1 n0_1 c0_1)]), (.slice a1 n1 c1)] h Q :=
  .of (c := b36) Tryd.func36 (by kernel_rfl) hO (V_ok (tb := lv36) (cuts := []) 500 (Eq.mp (by kernel_rfl) hh))
def T36_0 (O : CallF) (Q : Value → Hp → Prop) (x0_0 : Int) (a0_1 : Option Addr) (n0_1 : Nat) (c0_1 : Nat) (a1 : Option Addr) (n1 : Nat) (c1 : Nat) (b2 : Nat) (f2 : Nat) (a4 : Option Addr) (n4 : Nat) (c4 : Nat) (x5 : Int) (x7 : Int) (x20 : Int) (h : Hp) : Prop :=
  vcond (ltI x20 (Int.ofNat n1))
  (isNat x20 fun n101' =>
  isAddr a1 fun b102' f103' =>
  vreq (Nat.blt n101' n1)
  (∃ x104', readAt h b102' (f103' + (n101' * 1)) 1 = some [(.int .i64 x104')] ∧
  ∃ x105', ∃ h106', EvC Tryd.prog O 94 [(.int .i64 x104')] h (.int .i64 x105') h106' ∧
  vcond (ltI x105' 1)
  (Q (.tuple #[(.slice none 0 0), (.int .i64 2)]) h106')
  (∃ x107', readAt h106' b2 (f2 + 0) 1 = some [(.int .i64 x107')] ∧
  vcond (ltI x107' x105')
  (Q (.tuple #[(.slice none 0 0), (.int .i64 2)]) h106')
  (∃ x108', ∃ h109', EvC Tryd.prog O 84 [(.int .i64 x104')] h106' (.int .u32 x108') h109' ∧
  vreq (inD 4294967296 x7)
  (vreq (inD 4294967296 x108')
  (vcond (!(eqI (landI x7 x108') 0))
  (Q (.tuple #[(.slice none 0 0), (.int .i64 2)]) h109')
  (∃ x110', ∃ h111', EvC Tryd.prog O 84 [(.int .i64 x104')] h109' (.int .u32 x110') h111' ∧
  vreq (inD 4294967296 x7)
  (vreq (inD 4294967296 x110')
  (I36_0 O Q x0_0 a0_1 n0_1 c0_1 a1 n1 c1 b2 f2 a4 n4 c4 x5 (lorI x7 x110') (wrapF .i64 (x20 + 1)) h111')))))))))
  (∃ x112', ∃ a113' n114' c115', readAt h b2 f2 2 = some [(.int .i64 x112'), (.slice a113' n114' c115')] ∧
  ∃ a116', ∃ h117', EvC Tryd.prog O 76 [(.agg #[(.int .i64 x112'), (.slice a113' n114' c115')]), (.slice none 0 0)] h (.pointer a116') h117' ∧
  I36_1 O Q x0_0 a0_1 n0_1 c0_1 a1 n1 c1 a4 n4 c4 x5 a116' (wrapF .i64 ((Int.ofNat n1) + 1)) 0 h117')
theorem I36_0.of {O Q} (x0_0 a0_1 n0_1 c0_1 a1 n1 c1 b2 f2 a4 n4 c4 x5 x7 x20) {h : Hp} (hh : T36_0 O Q x0_0 a0_1 n0_1 c0_1 a1 n1 c1 b2 f2 a4 n4 c4 x5 x7 x20 h) : I36_0 O Q x0_0 a0_1 n0_1 c0_1 a1 n1 c1 b2 f2 a4 n4 c4 x5 x7 x20 h :=
  RKL.of (tb := lv36) (cuts := []) 500 fun _ => Eq.mp (by kernel_rfl) hh
def T36_1 (O : CallF) (Q : Value → Hp → Prop) (x0_0 : Int) (a0_1 : Option Addr) (n0_1 : Nat) (c0_1 : Nat) (a1 : Option Addr) (n1 : Nat) (c1 : Nat) (a4 : Option Addr) (n4 : Nat) (c4 : Nat) (x5 : Int) (a11 : Option Addr) (x50 : Int) (x51 : Int) (h : Hp) : Prop :=
  vcond (ltI x51 x50)
  (∃ a201' n202' c203', sliceV Tryd.prog h 32 (.slice a1 n1 c1) none (some (.int .i64 x51)) none = some (.slice a201' n202' c203') ∧
  ∃ q204', ∃ h205', EvC Tryd.prog O 95 [(.pointer a11), (.slice a201' n202' c203')] h (.bool q204') h205' ∧
  vcond q204'
  (∃ a206' n207' c208', sliceV Tryd.prog h205' 32 (.slice a1 n1 c1) none (some (.int .i64 x51)) none = some (.slice a206' n207' c208') ∧
  ∃ a209' n210' c211', ∃ h212', EvC Tryd.prog O 97 [(.slice a206' n207' c208'), (.func (.func 95) #[(.pointer a11)] #[])] h205' (.slice a209' n210' c211') h212' ∧
  ∃ a213' n214' c215', ∃ h216', EvC Tryd.prog O 96 [(.slice a209' n210' c211')] h212' (.slice a213' n214' c215') h216' ∧
  Q (.tuple #[(.slice a213' n214' c215'), (.int .i64 0)]) h216')
  (I36_1 O Q x0_0 a0_1 n0_1 c0_1 a1 n1 c1 a4 n4 c4 x5 a11 x50 (wrapF .i64 (x51 + 1)) h205'))
  (Q (.tuple #[(.slice none 0 0), (.int .i64 5)]) h)
theorem I36_1.of {O Q} (x0_0 a0_1 n0_1 c0_1 a1 n1 c1 a4 n4 c4 x5 a11 x50 x51) {h : Hp} (hh : T36_1 O Q x0_0 a0_1 n0_1 c0_1 a1 n1 c1 a4 n4 c4 x5 a11 x50 x51 h) : I36_1 O Q x0_0 a0_1 n0_1 c0_1 a1 n1 c1 a4 n4 c4 x5 a11 x50 x51 h :=
  RKL.of (tb := lv36) (cuts := []) 500 fun _ => Eq.mp (by kernel_rfl) hh
/-! sward/swardlaw20.SatLearned$1 -/
noncomputable def b65 : Code := (Tryd.f65.body).getD .skip
def lv65 : List (Nat × List Nat) := []
def T65 (O : CallF) (Q : Value → Hp → Prop) (x0 : Int) (b1 : Nat) (f1 : Nat) (h : Hp) : Prop :=
  ∃ x1', readAt h b1 f1 1 = some [(.int .i64 x1')] ∧
  ∃ q2', ∃ h3', EvC Tryd.prog O 66 [(.int .i64 x1'), (.int .i64 x0)] h (.bool q2') h3' ∧
  Q (.bool (!q2')) h3'
theorem rk65 {O Q} (x0 b1 f1) {h : Hp} (hO : O 65 [(.int .i64 x0), (.pointer (some ⟨b1, f1, none⟩))] h = none) (hh : T65 O Q x0 b1 f1 h) : Ret Tryd.prog O 65 [(.int .i64 x0), (.pointer (some ⟨b1, f1, none⟩))] h Q :=
  .of (c := b65) Tryd.func65 (by kernel_rfl) hO (V_ok (tb := lv65) (cuts := []) 500 (Eq.mp (by kernel_rfl) hh))
/-! sward/swardlaw20.SatLearned$2 -/
noncomputable def b67 : Code := (Tryd.f67.body).getD .skip
def lv67 : List (Nat × List Nat) := []
def T67 (O : CallF) (Q : Value → Hp → Prop) (x0 : Int) (b1 : Nat) (f1 : Nat) (h : Hp) : Prop :=
  ∃ a1' n2' c3', readAt h b1 f1 1 = some [(.slice a1' n2' c3')] ∧
  ∃ q4', ∃ h5', EvC Tryd.prog O 62 [(.slice a1' n2' c3'), (.int .i64 (wrapF .i64 (0 - x0)))] h (.bool q4') h5' ∧
  Q (.bool (!q4')) h5'
theorem rk67 {O Q} (x0 b1 f1) {h : Hp} (hO : O 67 [(.int .i64 x0), (.pointer (some ⟨b1, f1, none⟩))] h = none) (hh : T67 O Q x0 b1 f1 h) : Ret Tryd.prog O 67 [(.int .i64 x0), (.pointer (some ⟨b1, f1, none⟩))] h Q :=
  .of (c := b67) Tryd.func67 (by kernel_rfl) hO (V_ok (tb := lv67) (cuts := []) 500 (Eq.mp (by kernel_rfl) hh))
/-! sward/swardlaw20.SatLearned$3 -/
noncomputable def b68 : Code := (Tryd.f68.body).getD .skip
def lv68 : List (Nat × List Nat) := []
def T68 (O : CallF) (Q : Value → Hp → Prop) (x0 : Int) (b1 : Nat) (f1 : Nat) (h : Hp) : Prop :=
  let g1 : Hp := h.add (.cells [(.int .i64 x0)] 3 .fix)
  ∃ a2' n3' c4', readAt g1 b1 f1 1 = some [(.slice a2' n3' c4')] ∧
  ∃ q5', ∃ h6', EvC Tryd.prog O 64 [(.slice a2' n3' c4'), (.func (.func 69) #[] #[(.pointer (some ⟨h.nx, 0, none⟩))])] g1 (.bool q5') h6' ∧
  Q (.bool (!q5')) h6'
theorem rk68 {O Q} (x0 b1 f1) {h : Hp} (hO : O 68 [(.int .i64 x0), (.pointer (some ⟨b1, f1, none⟩))] h = none) (hh : T68 O Q x0 b1 f1 h) : Ret Tryd.prog O 68 [(.int .i64 x0), (.pointer (some ⟨b1, f1, none⟩))] h Q :=
  .of (c := b68) Tryd.func68 (by kernel_rfl) hO (V_ok (tb := lv68) (cuts := []) 500 (Eq.mp (by kernel_rfl) hh))
/-! sward/swardlaw20.SatLearned$3$1 -/
noncomputable def b69 : Code := (Tryd.f69.body).getD .skip
def lv69 : List (Nat × List Nat) := []
def T69 (O : CallF) (Q : Value → Hp → Prop) (x0 : Int) (b1 : Nat) (f1 : Nat) (h : Hp) : Prop :=
  ∃ x1', readAt h b1 f1 1 = some [(.int .i64 x1')] ∧
  ∃ q2', ∃ h3', EvC Tryd.prog O 66 [(.int .i64 x1'), (.int .i64 x0)] h (.bool q2') h3' ∧
  Q (.bool q2') h3'
theorem rk69 {O Q} (x0 b1 f1) {h : Hp} (hO : O 69 [(.int .i64 x0), (.pointer (some ⟨b1, f1, none⟩))] h = none) (hh : T69 O Q x0 b1 f1 h) : Ret Tryd.prog O 69 [(.int .i64 x0), (.pointer (some ⟨b1, f1, none⟩))] h Q :=
  .of (c := b69) Tryd.func69 (by kernel_rfl) hO (V_ok (tb := lv69) (cuts := []) 500 (Eq.mp (by kernel_rfl) hh))
/-! slices.Reverse[[]int,int] -/
end Go.Proofs.YtfgfhplgnfbaaaaDoor
/- The walks of Unit and of Learn (decisions in any order, at most twelve). -/
namespace Go.Proofs.YtfgfhplgnfbaaaaDoor
open Go Go.Ev
/-- The variables that have been met. -/
def maskN (l : List Int) : Nat := l.foldl (fun m x => m ||| 2 ^ (x.natAbs - 1)) 0
theorem maskN_snoc (l : List Int) (x : Int) : maskN (l ++ [x]) = maskN l ||| 2 ^ (x.natAbs - 1) := by unfold maskN; rw [List.foldl_append]; rfl
theorem fold_bit {i : Nat} : ∀ {l : List Int} {m : Nat}, (l.foldl (fun m x => m ||| 2 ^ (x.natAbs - 1)) m).testBit i = true → m.testBit i = true ∨ ∃ x ∈ l, x.natAbs - 1 = i := by
  intro l
  induction l with
  | nil => intro m h; exact .inl h
  | cons y l ih =>
    intro m h
    rcases ih h with h1 | ⟨x, hx, e⟩
    · rw [Nat.testBit_or, Bool.or_eq_true, Nat.testBit_two_pow] at h1
      rcases h1 with h1 | h1
      · exact .inl h1
      · exact .inr ⟨y, List.mem_cons_self .., by simpa using h1⟩
    · exact .inr ⟨x, List.mem_cons_of_mem _ hx, e⟩
theorem maskN_bit {l : List Int} {i : Nat} (h : (maskN l).testBit i = true) : ∃ x ∈ l, x.natAbs - 1 = i := by
  rcases fold_bit h with h | h
  · simp at h
  · exact h
theorem maskN_lt : ∀ {l : List Int}, (∀ x ∈ l, Lit x) → maskN l < 2 ^ 30 := by
  have : ∀ {l : List Int} {m : Nat}, (∀ x ∈ l, Lit x) → m < 2 ^ 30 → l.foldl (fun m x => m ||| 2 ^ (x.natAbs - 1)) m < 2 ^ 30 := by
    intro l
    induction l with
    | nil => intro m _ h; exact h
    | cons y l ih =>
      intro m hl hm
      have hy := hl y (List.mem_cons_self ..)
      exact ih (fun x hx => hl x (List.mem_cons_of_mem _ hx)) (Nat.or_lt_two_pow hm (Nat.pow_lt_pow_right (by decide) (by have := hy.1; have := hy.2; omega)))
  exact fun {l} h => this (l := l) h (by decide)
/-- What Learn returns, from a number of decisions on. -/
def learnF (cl : List Int → Bool) (d : List Int) : Nat → Nat → List Int × Int
  | 0, _ => ([], 5)
  | m + 1, k => if cl (d.take k) = true then (isrt ((needF cl k (d.take k)).map fun x => -x), 0) else learnF cl d m (k + 1)
theorem isrt_mem' {l : List Int} {x : Int} : x ∈ isrt l ↔ x ∈ l := (isrt_perm l).mem_iff
section
variable {O : CallF} (hO : Oth O)
include hO
theorem cmp123 : CmpOk O 123 (fun x => (x.natAbs : Int)) Lit := fun _ _ h hx hy => ct123 hO hx hy h
theorem lp96n {h₀ : Hp} (ok : h₀.Ok) {a0 : Option Addr} {n0 c0 : Nat} {l : List Int} (X : IntsAt h₀ a0 n0 l) (hl : l.length ≤ 12) (hlit : ∀ x ∈ l, Lit x) (hd : Nod l) :
    ∀ (d k : Nat), k + d = l.length → ∀ {a : Option Addr} {n c : Nat} {h : Hp}, Kp h₀.nx h₀ h → AccI 3 h h₀.nx a n c ((l.take k).map fun x => -x) → I96_0 O (RInts h₀ (isrt (l.map fun x => -x))) a0 n0 c0 a n c (Int.ofNat k) h := by
  have hn := X.1
  have hdn : Nod (l.map fun x => -x) := by
    unfold Nod
    rw [List.pairwise_map]
    exact hd.imp fun {x z} hxz => by rw [Int.natAbs_neg, Int.natAbs_neg]; exact hxz
  intro d
  induction d with
  | zero =>
    intro k hk a n c h K A
    refine I96_0.of _ _ _ _ _ _ _ ?_
    unfold T96_0
    rw [List.take_of_length_le (by omega)] at A
    refine vcond_f (by rw [ltI_nat]; exact blt_f (by omega)) ?_
    have hnn : n = l.length := by have := A.ints.1; simpa using this
    rcases A with ⟨rfl, rfl, rfl, h4⟩ | ⟨o, rfl, rfl, h3, h4, h5, h6⟩
    · have e : l = [] := by simpa using h4
      subst e
      exact (ct74n hO 0 123 h).u fun h' k => ⟨_, _, _, rfl, SlAt.nil .., K.trans (k.le K.nx), fun b off e => by cases e⟩
    · have hnn : n = (l.map fun x => -x).length := by rw [hnn, List.length_map]
      subst hnn
      refine (ct74g hO (cmp123 hO) (m := .grow) (by decide) (b := o) (c := unk) (fun q hq => ?_) (by simpa using hl) (lit_neg hlit) ⟨h5, h6⟩).u fun h' ⟨l', p, s, R, K'⟩ => ?_
      · rw [K.gd] at hq; have := ok.gd q hq; omega
      · obtain rfl := srt_eq hdn p s
        refine ⟨_, _, _, rfl, ?_, K.trans (K'.kp h4 K.nx), fun b off e => ?_⟩
        · have := R.ints
          rw [p.length_eq] at this; exact this
        · injection e with e; injection e with e _; omega
  | succ d ih =>
    intro k hk a n c h K A
    refine I96_0.of _ _ _ _ _ _ _ ?_
    intros
    unfold T96_0
    have hx := hlit l[k] (List.getElem_mem _)
    have e2 : wrapF .i64 (0 - l[k]) = -l[k] := by have := hx.2; rw [wrap64 (by omega) (by omega)]; omega
    obtain ⟨a', n', c', h', p1, p2, p3⟩ := app_int app32 A K.nx (fun q hq => by rw [K.gd] at hq; exact ok.gd q hq) (by simp; omega) (-l[k])
    refine vcond_t (by rw [ltI_nat]; exact blt_t (by omega)) (isNat_of (X.get (k := k) (by omega) fun b' off _ hlt hrd => vreq_t (blt_t (by omega)) ⟨_, by rw [readAt_kp K hlt]; exact hrd, a', n', c', h', by rw [e2]; exact p1, ?_⟩))
    rw [wrap_succ (by omega)]
    have e1 : l.take (k + 1) = l.take k ++ [l[k]] := List.take_succ_eq_append_getElem (by omega)
    refine ih (k + 1) (by omega) (K.trans (p3.kp A K.nx)) ?_ ..
    rw [e1, List.map_append]; exact p2
theorem ct96n {h : Hp} (ok : h.Ok) {a0 : Option Addr} {n0 c0 : Nat} {l : List Int} (X : IntsAt h a0 n0 l) (hl : l.length ≤ 12) (hlit : ∀ x ∈ l, Lit x) (hd : Nod l) : Ret Tryd.prog O 96 [.slice a0 n0 c0] h (RInts h (isrt (l.map fun x => -x))) := by
  refine rk96 _ _ _ (hO _ _ _ (by decide)) ?_
  unfold T96
  exact lp96n hO ok X hl hlit hd l.length 0 (by omega) (.refl _ _) (AccI.nil ..) ..
/-- Unit, of what is as it should be. -/
theorem ct34 {a a1 : Option Addr} {n c n1 c1 : Nat} {vars : Int} {h : Hp} {cls : List (List Int)} {gs : List Int} (ok : h.Ok) (ht : Tb h) (H : IntssAt h a n cls) (hl : cls.length < 10000) (hll : ∀ l ∈ cls, l.length < 1000000) (hlit : ∀ l ∈ cls, ∀ x ∈ l, Lit x) (G : IntsAt h a1 n1 gs) (hgl : gs.length < 1000) (hg : ∀ x ∈ gs, Lit x)
    (ha : askB vars cls gs = true) (hlt : (fromN (cls.map sideN) gs).1.1 < 2 ^ 30 ∧ (fromN (cls.map sideN) gs).1.2 < 2 ^ 30) :
    Ret Tryd.prog O 34 [Fm vars a n c, .slice a1 n1 c1] h fun v h' => ∃ a n c, v = .tuple #[.slice a n c, .bool (!(fromN (cls.map sideN) gs).2), .int .i64 0] ∧ IntsAt h' a n (if (fromN (cls.map sideN) gs).2 = true then litsN (fromN (cls.map sideN) gs).1.1 (fromN (cls.map sideN) gs).1.2 else []) ∧ Kp h.nx h h' := by
  refine rk34 _ _ _ _ _ _ _ (hO _ _ _ (by decide)) ?_
  unfold T34
  have kp : Kp h.nx h _ := fm_kp h vars a n c
  have g : (h.add _).get h.nx = some (.cells [.int .i64 vars, .slice a n c] 30 .fix) := fm_get h vars a n c
  refine ⟨_, _, _, _, by rw [readAt_get g (by simp)]; rfl, ?_⟩
  obtain ⟨v1, h7, e7, rfl, K7⟩ := ct78 hO (c := c) (vars := vars) (c1 := c1) (H.up EInts.up kp) (by omega) hll (G.up EInt.up kp) (by omega)
  have k7 : Kp h.nx h h7 := kp.trans (K7.le kp.nx)
  have g7 : h7.get h.nx = some (.cells [.int .i64 vars, .slice a n c] 30 .fix) := by rw [K7.get _ (by show h.nx < h.nx + 1; omega)]; exact g
  refine ⟨_, h7, e7, ?_⟩
  rw [if_pos ha]
  refine vcond_f (by decide) ⟨_, _, _, _, by rw [readAt_get g7 (by simp)]; rfl, ?_⟩
  obtain ⟨v8, h8, e8, b, a6, n6, c6, rfl, z1, z2, z3, z4, z5⟩ := ct76 hO (vars := vars) (ok.kp k7) (H.up EInts.up k7) hl hll hlit (c := c) (a1 := a1) (n1 := n1) (c1 := c1)
  have k8 : Kp h.nx h h8 := k7.trans (z5.le k7.nx)
  refine ⟨_, h8, e8, ?_⟩
  have sl : SidesAt2 h8 a6 n6 (cls.map sideN) := z4.slAt uu_len (by decide)
  obtain ⟨v9, h9, e9, rfl, K9⟩ := ct89 hO (ok.kp k8) z3 z2 sl (by simp; omega) (sides_lt hO hlit) (G.up EInt.up k8) (by omega) hg (xs := []) (am := none) (nm := 0) (cm := 0) (SlAt.nil ..) (by simp) (fun x hx => by cases hx)
  rw [List.append_nil] at e9
  generalize fromN (cls.map sideN) gs = r at *
  have k9 : Kp h.nx h h9 := k8.trans (K9.le k8.nx)
  refine ⟨_, _, _, h9, e9, ?_⟩
  have gn : (h9.add (.cells [U 0, U 0] 102 .fix)).get h9.nx = _ := get_add_same ..
  have gu : (h9.add (.cells [U 0, U 0] 102 .fix)).guarded h9.nx = false := guarded_of fun q hq => by have := (ok.kp k9).gd q hq; omega
  have K10 : Kp h9.nx h9 ((h9.add (.cells [U 0, U 0] 102 .fix)).wr h9.nx 0 [U r.1.1, U r.1.2]) := ((Kp.refl _ _).add (Nat.le_refl _) _).wr (Nat.le_refl _) _ _
  have H10 : ((h9.add (.cells [U 0, U 0] 102 .fix)).wr h9.nx 0 [U r.1.1, U r.1.2]).get h9.nx = some (.cells [U r.1.1, U r.1.2] 102 .fix) := wr_get gn (by decide) gu (by simp) rfl
  have k10 := k9.trans (K10.le k9.nx)
  refine vreq_t (canW_t gn (by decide) gu (by simp) rfl) ?_
  cases hr : r.2 with
  | false => exact vcond_t rfl ⟨_, _, _, rfl, SlAt.nil .., k10⟩
  | true =>
    refine vcond_f rfl ⟨_, _, (readAt_get H10 (by simp)).trans rfl, ?_⟩
    refine ret_ri (ct90 hO hlt.1 hlt.2 (ok.kp k10) (ht.kp k10 ht.1)) fun a' n' c' h' X' K' _ => ?_
    exact ⟨_, _, _, rfl, X', k10.trans (K'.le k10.nx)⟩
/-- The last loop of Learn. -/
theorem lp36_1 {h₀ : Hp} (ok : h₀.Ok) {vars left : Int} {x0_0 x5 : Int} {a0 a4 : Option Addr} {n0 c0 n4 c4 : Nat} {b : Nat} {a6 : Option Addr} {n6 c6 n2 c2 : Nat} {a2 : Option Addr} (hb : h₀.get b = some (.cells (baseC vars a6 n6 c6 none 0 0 left a2 n2 c2) 128 .fix)) (hbn : b < h₀.nx) {ss : List (Nat × Nat)} (H : SidesAt2 h₀ a6 n6 ss) (hl : ss.length < 1000000) (hss : ∀ p ∈ ss, p.1 < 2 ^ 30 ∧ p.2 < 2 ^ 30)
    {base : Nat} {a1 : Option Addr} {n1 c1 : Nat} {d : List Int} (A : AccI 3 h₀ base a1 n1 c1 d) (hdl : d.length ≤ 12) (hlit : ∀ x ∈ d, Lit x) (hd : Nod d) (hz : d = [] → a1 = none) :
    ∀ (m k : Nat), k + m = d.length + 1 → ∀ {h : Hp}, Kp h₀.nx h₀ h → I36_1 O (fun v h' => ∃ a n c, v = .tuple #[.slice a n c, .int .i64 (learnF (clashN ss []) d m k).2] ∧ IntsAt h' a n (learnF (clashN ss []) d m k).1 ∧ Kp h₀.nx h₀ h') x0_0 a0 n0 c0 a1 n1 c1 a4 n4 c4 x5 (some ⟨b, 0, none⟩) (Int.ofNat (d.length + 1)) (Int.ofNat k) h := by
  intro m
  induction m with
  | zero =>
    intro k hk h K
    refine I36_1.of (hh := ?_) ..
    unfold T36_1
    exact vcond_f (by rw [ltI_nat]; exact blt_f (by omega)) ⟨_, _, _, rfl, SlAt.nil .., K⟩
  | succ m ih =>
    intro k hk h K
    refine I36_1.of (hh := ?_) ..
    unfold T36_1
    have cut : ∀ {h' : Hp}, Kp h₀.nx h₀ h' → ∃ a' c', sliceV Tryd.prog h' 32 (.slice a1 n1 c1) none (some (.int .i64 (Int.ofNat k))) none = some (.slice a' k c') ∧ IntsAt h' a' k (d.take k) := fun {h'} K' => by
      have f := K'.ex (Nat.le_refl _)
      rcases Nat.eq_zero_or_pos d.length with h0 | h0
      · obtain rfl := List.length_eq_zero_iff.1 h0
        obtain rfl : k = 0 := by simp at hk; omega
        rcases A with ⟨rfl, rfl, rfl, _⟩ | ⟨o, rfl, h2, h3, h4, h5, h6⟩
        · exact ⟨none, 0, sl_none hO, by simpa using SlAt.nil ..⟩
        · cases hz rfl
      · exact slice_grow (A.to h') (by omega) h0 (by omega)
    obtain ⟨a2', c2', s1, X1⟩ := cut K
    refine vcond_t (by rw [ltI_nat]; exact blt_t (by omega)) ⟨_, _, _, s1, ?_⟩
    have xl : (d.take k).length ≤ 12 := by simp; omega
    have xlit : ∀ x ∈ d.take k, Lit x := fun x hx => hlit x (List.mem_of_mem_take hx)
    have hbh : h.get b = some (.cells (baseC vars a6 n6 c6 none 0 0 left a2 n2 c2) 128 .fix) := (K.get _ hbn).trans hb
    have hbnh : b < h.nx := Nat.lt_of_lt_of_le hbn K.nx
    have f := K.ex (Nat.le_refl _)
    obtain ⟨v3, h3, e3, rfl, K3⟩ := ct95 hO (ok.kp K) hbh hbnh (H.to h) hl hss (gs := []) (SlAt.nil ..) (by simp) (fun x hx => by cases hx) X1 (by omega) xlit (cm := c2')
    refine ⟨_, h3, e3, ?_⟩
    have k3 : Kp h₀.nx h₀ h3 := K.trans (K3.le K.nx)
    have f3 := k3.ex (Nat.le_refl _)
    simp only [learnF]
    refine vcond_split (fun hc => ?_) fun hc => ?_
    · rw [if_pos (show clashN ss [] (d.take k) = true from hc)]
      obtain ⟨a3', c3', s3, X3⟩ := cut k3
      refine ⟨_, _, _, s3, ?_⟩
      have hb3 : h3.get b = some (.cells (baseC vars a6 n6 c6 none 0 0 left a2 n2 c2) 128 .fix) := (k3.get _ hbn).trans hb
      refine (ct97 hO (ok.kp k3) hb3 (Nat.lt_of_lt_of_le hbn k3.nx) (H.to h3) hl hss (gs := []) (SlAt.nil ..) (by simp) (fun x hx => by cases hx) X3 (by omega) xlit (cm := c3')).s fun a5 n5 c5 h5 ⟨X5, K5⟩ => ?_
      have tk : (d.take k).length = k := by rw [List.length_take]; omega
      rw [tk] at X5
      have sub := needF_sub (clashN ss []) k (d.take k)
      have k5 : Kp h₀.nx h₀ h5 := k3.trans (K5.le k3.nx)
      refine ret_ri (ct96n hO (ok.kp k5) X5 (by have := sub.length_le; omega) (fun x hx => xlit x (sub.subset hx)) (List.Pairwise.sublist sub (hd.sublist (List.take_sublist ..)))) fun a7 n7 c7 h7 X7 K7 _ => ?_
      exact ⟨_, _, _, rfl, X7, k5.trans (K7.le k5.nx)⟩
    · rw [if_neg (show ¬ clashN ss [] (d.take k) = true by intro e; have : (!(fromN ss ([] ++ d.take k)).2) = true := e; rw [this] at hc; cases hc)]
      rw [wrap_succ (by omega)]
      exact ih (k + 1) (by omega) k3
/-- Learn, of what is as it should be. -/
theorem ct36 {a a1 : Option Addr} {n c n1 c1 : Nat} {vars : Int} {h : Hp} {cls : List (List Int)} (ok : h.Ok) (H : IntssAt h a n cls) (hl : cls.length < 10000) (hll : ∀ l ∈ cls, l.length < 1000000) (hlit : ∀ l ∈ cls, ∀ x ∈ l, Lit x)
    {base : Nat} {d : List Int} (A : AccI 3 h base a1 n1 c1 d) (hdl : d.length ≤ 12) (hdlit : ∀ x ∈ d, Lit x ∧ (x.natAbs : Int) ≤ vars) (hd : Nod d) (hz : d = [] → a1 = none) (hf : formB vars cls = true) :
    Ret Tryd.prog O 36 [Fm vars a n c, .slice a1 n1 c1] h fun v h' => ∃ a n c, v = .tuple #[.slice a n c, .int .i64 (learnF (clashN (cls.map sideN) []) d (d.length + 1) 0).2] ∧ IntsAt h' a n (learnF (clashN (cls.map sideN) []) d (d.length + 1) 0).1 ∧ Kp h.nx h h' := by
  refine rk36 _ _ _ _ _ _ _ (hO _ _ _ (by decide)) ?_
  unfold T36
  intro g1
  have kp : Kp h.nx h g1 := fm_kp h vars a n c
  have g : g1.get h.nx = some (.cells [.int .i64 vars, .slice a n c] 30 .fix) := fm_get h vars a n c
  have n1x : g1.nx = h.nx + 1 := nx_add ..
  refine ⟨_, _, _, _, by rw [readAt_get g (by simp)]; rfl, ?_⟩
  obtain ⟨v1, h7, e7, rfl, K7⟩ := ct31 hO (c := c) (vars := vars) (H.up EInts.up kp) (by omega) hll
  have k7 : Kp h.nx h h7 := kp.trans (K7.le kp.nx)
  have g7 : h7.get h.nx = some (.cells [.int .i64 vars, .slice a n c] 30 .fix) := by rw [K7.get _ (by omega)]; exact g
  have f7 := k7.ex (Nat.le_refl _)
  refine ⟨_, h7, e7, ?_⟩
  rw [if_pos hf]
  refine vcond_f (by decide) ?_
  have X7 := (show AccI 3 h7 base a1 n1 c1 d from A.to h7).ints
  have hn := X7.1
  have hlt : ∀ x ∈ d, Lit x := fun x hx => (hdlit x hx).1
  have go : ∀ (m k : Nat), k + m = d.length → I36_0 O (fun v h' => ∃ a n c, v = .tuple #[.slice a n c, .int .i64 (learnF (clashN (cls.map sideN) []) d (d.length + 1) 0).2] ∧ IntsAt h' a n (learnF (clashN (cls.map sideN) []) d (d.length + 1) 0).1 ∧ Kp h.nx h h') vars a n c a1 n1 c1 h.nx 0 none 0 0 0 (Int.ofNat (maskN (d.take k))) (Int.ofNat k) h7 := by
    intro m
    induction m with
    | zero =>
      intro k hk
      refine I36_0.of (hh := ?_) ..
      unfold T36_0
      refine vcond_f (by rw [ltI_nat]; exact blt_f (by omega)) ⟨_, _, _, _, by rw [readAt_get g7 (by simp)]; rfl, ?_⟩
      obtain ⟨v8, h8, e8, b, a6, n6, c6, rfl, z1, z2, z3, z4, z5⟩ := ct76 hO (vars := vars) (ok.kp k7) (H.up EInts.up k7) hl hll hlit (c := c) (a1 := none) (n1 := 0) (c1 := 0)
      have k8 : Kp h.nx h h8 := k7.trans (z5.le k7.nx)
      have f8 := k8.ex (Nat.le_refl _)
      refine ⟨_, h8, e8, ?_⟩
      have e : wrapF .i64 (Int.ofNat n1 + 1) = Int.ofNat (d.length + 1) := by rw [hn]; exact wrap_succ (by omega)
      rw [e]
      have := lp36_1 hO (ok.kp k8) z3 z2 (z4.slAt uu_len (by decide) : SidesAt2 h8 a6 n6 (cls.map sideN)) (by simp; omega) (sides_lt hO hlit) (A.to h8) hdl hlt hd hz (d.length + 1) 0 (by omega) (.refl _ _) (x0_0 := vars) (a0 := a) (n0 := n) (c0 := c) (a4 := none) (n4 := 0) (c4 := 0) (x5 := 0)
      exact RKL.mono this fun v h' ⟨a, n, c, q1, q2, q3⟩ => ⟨a, n, c, q1, q2, k8.trans (q3.le k8.nx)⟩
    | succ m ih =>
      intro k hk
      refine I36_0.of (hh := ?_) ..
      unfold T36_0
      have hkl : k < d.length := by omega
      obtain ⟨lx, vx⟩ := hdlit d[k] (List.getElem_mem hkl)
      have ml := maskN_lt (l := d.take k) fun x hx => hlt x (List.mem_of_mem_take hx)
      have pl : 2 ^ (d[k].natAbs - 1) < 2 ^ 30 := Nat.pow_lt_pow_right (by decide) (by have := lx.1; have := lx.2; omega)
      have bit : EvT O 84 [.int .i64 d[k]] h7 (.int .u32 (Int.ofNat (2 ^ (d[k].natAbs - 1)))) h7 := ct84 hO lx.1 lx.2.1 lx.2.2 h7
      refine vcond_t (by rw [ltI_nat]; exact blt_t (by omega)) (isNat_i (X7.rd hkl ⟨_, _, ct94 hO _ h7, ?_⟩))
      rw [varI_lit2 lx]
      refine vcond_f (ltI_f (by have := lx.1; omega)) ⟨_, read1 g7 (i := 0) rfl, vcond_f (ltI_f (by omega)) ⟨_, _, bit, vreq_t (inD_of (by omega)) (vreq_t (inD_of (by omega)) ?_)⟩⟩
      have new : maskN (d.take k) &&& 2 ^ (d[k].natAbs - 1) = 0 := by
        rw [testBit_and_pow]
        cases hb : (maskN (d.take k)).testBit (d[k].natAbs - 1) with
        | false => rfl
        | true =>
          obtain ⟨x, hx, e⟩ := maskN_bit hb
          obtain ⟨j, hj, rfl⟩ := List.getElem_of_mem hx
          have hjk : j < k := by have := List.length_take (i := k) (l := d); omega
          rw [List.getElem_take] at e
          have := List.pairwise_iff_getElem.1 hd j k (by omega) hkl hjk
          have := (hlt d[j] (List.getElem_mem _)).1
          have := lx.1
          omega
      refine vcond_f ?_ ⟨_, _, bit, vreq_t (inD_of (by omega)) (vreq_t (inD_of (by omega)) ?_)⟩
      · show (!(eqI (Int.ofNat (maskN (d.take k) &&& 2 ^ (d[k].natAbs - 1))) 0)) = false
        rw [new]; rfl
      · rw [wrap_succ (by omega)]
        have e1 : d.take (k + 1) = d.take k ++ [d[k]] := List.take_succ_eq_append_getElem (by omega)
        have := ih (k + 1) (by omega)
        rw [e1, maskN_snoc] at this
        exact this
  exact go d.length 0 (by omega)
end
end Go.Proofs.YtfgfhplgnfbaaaaDoor
/- The plain law of proofs: what is accepted follows; more clauses do no harm. -/
namespace Go.Proofs.YtfgfhplgnfbaaaaDoor
open Go Go.Ev
theorem Der.mono {cls cls' : List (List Int)} {xs xs' : List Int} (h1 : ∀ l ∈ cls, l ∈ cls') (h2 : ∀ x ∈ xs, x ∈ xs') {z : Int} (h : Der cls xs z) : Der cls' xs' z := by
  induction h with
  | base h => exact .base (h2 _ h)
  | unit hl hx _ ih => exact .unit (h1 _ hl) hx ih
theorem Cl.mono {cls cls' : List (List Int)} {xs xs' : List Int} (h1 : ∀ l ∈ cls, l ∈ cls') (h2 : ∀ x ∈ xs, x ∈ xs') (h : Cl cls xs) : Cl cls' xs' := by
  rcases h with ⟨x, a, b⟩ | ⟨l, hl, a⟩
  · exact .inl ⟨x, a.mono h1 h2, b.mono h1 h2⟩
  · exact .inr ⟨l, h1 l hl, fun y hy => (a y hy).mono h1 h2⟩
/-- Clauses as they are asked for. -/
def Good (cls : List (List Int)) : Prop := ∀ l ∈ cls, (∀ x ∈ l, Lit x) ∧ Dif l
theorem calm_iff {cls : List (List Int)} {xs : List Int} (hd : Good cls) (hx : ∀ x ∈ xs, Lit x) : (fromN (cls.map sideN) xs).2 = true ↔ ¬ Cl cls xs := by
  obtain ⟨a, b⟩ := fromN_ok hd hx
  constructor
  · intro h; exact (a h).1.not
  · intro h
    cases e : (fromN (cls.map sideN) xs).2 with
    | true => rfl
    | false => exact absurd (b e) h
/-- A model is calm. -/
theorem model_calm {cls : List (List Int)} {xs : List Int} {m : Nat} (hd : ∀ l ∈ cls, ∀ x ∈ l, x ≠ 0) (hx : ∀ x ∈ xs, x ≠ 0) (h1 : ∀ c ∈ cls, c.any (isB m) = true) (h2 : ∀ x ∈ xs, isB m x = true) : ¬ Cl cls xs := by
  have C : Calm cls xs fun x => x ≠ 0 ∧ isB m x = true := ⟨fun x a b => by
    have b2 := b.2
    rw [isB_neg a.1, a.2] at b2
    exact Bool.noConfusion b2, fun x h => ⟨hx x h, h2 x h⟩, fun l hl => by
    obtain ⟨x, hxl, ht⟩ := List.any_eq_true.1 (h1 l hl)
    exact .inl ⟨x, hxl, hd l hl x hxl, ht⟩⟩
  exact C.not
/-- A clause of variables up to a number. -/
def Cv (vars : Int) (l : List Int) : Prop := Dif l ∧ ∀ x ∈ l, Lit x ∧ (x.natAbs : Int) ≤ vars
theorem Cv.b {vars : Int} {l : List Int} (h : Cv vars l) : clB vars 0 l = true := clB_of h.1 h.2 fun x hx => by have := (h.2 x hx).1.1; omega
theorem good_of {vars : Int} {cls : List (List Int)} (h : ∀ l ∈ cls, Cv vars l) : Good cls := fun l hl => ⟨fun x hx => ((h l hl).2 x hx).1, (h l hl).1⟩
theorem ask_of {vars : Int} {cls : List (List Int)} {gs : List Int} (h0 : 0 ≤ vars) (h1 : vars ≤ 30) (hl : cls.length ≤ 120) (hc : ∀ l ∈ cls, Cv vars l) (hg : Cv vars gs) : askB vars cls gs = true := by
  unfold askB formB
  rw [hg.b, List.all_eq_true.2 fun l hl => (hc l hl).b]
  simp; omega
theorem clsN_ok {vars many : Nat} {cl : List Int} (p : PuzOk vars many cl) {N : Int} (hN : 1 ≤ N ∧ N ≤ 30) : ∀ k, (clsN N cl k).length = k ∧ ∀ l ∈ clsN N cl k, Cv N l ∧ l.length ≤ 3 := by
  intro k
  induction k with
  | zero => exact ⟨rfl, fun l h => by cases h⟩
  | succ k ih =>
    refine ⟨by simp [clsN, ih.1], fun l hl => ?_⟩
    simp only [clsN] at hl
    rcases List.mem_append.1 hl with hl | hl
    · exact ih.2 l hl
    · rw [List.mem_singleton.1 hl]
      have := rst3_lit hN (p.at (3 * k)) (p.at (3 * k + 1)) (p.at (3 * k + 2)) 0
      refine ⟨⟨clauseN_dif _, fun x hx => ?_⟩, Nat.le_trans (clauseN_len _) (rst3_len ..)⟩
      have := clauseN_mem this x hx
      exact ⟨this.1, by omega⟩
end Go.Proofs.YtfgfhplgnfbaaaaDoor
/- What a search finds: the decisions are proper; what clashes is enough. -/
namespace Go.Proofs.YtfgfhplgnfbaaaaDoor
open Go Go.Ev
/-- Literals of some variables. -/
abbrev Lv (vars : Int) (l : List Int) : Prop := ∀ x ∈ l, Lit x ∧ (x.natAbs : Int) ≤ vars
/-- Decisions: their variables increase, and all variables before one of them have a truth. -/
structure Dcs (N : Nat) (cls : List (List Int)) (gs ds : List Int) : Prop where
  cv : Cv (Int.ofNat N) ds
  all : ∀ x ∈ ds, ∀ w : Int, 1 ≤ w → w < x.natAbs → Der cls (gs ++ ds) w ∨ Der cls (gs ++ ds) (-w)
theorem dif_len {N : Nat} : ∀ {l : List Int} {lo : Nat}, Dif l → (∀ x ∈ l, lo < x.natAbs ∧ x.natAbs ≤ N) → l.length + lo ≤ N ∨ l = [] := by
  intro l
  induction l with
  | nil => intro lo _ _; exact .inr rfl
  | cons x l ih =>
    intro lo hd hx
    obtain ⟨h1, h2⟩ := List.pairwise_cons.1 hd
    have h3 := hx x (by simp)
    rcases ih (lo := x.natAbs) h2 (fun y hy => ⟨h1 y hy, (hx y (List.mem_cons_of_mem _ hy)).2⟩) with h | h
    · left; simp; omega
    · subst h; left; simp; omega
theorem Dcs.len {N : Nat} {cls : List (List Int)} {gs ds : List Int} (D : Dcs N cls gs ds) : ds.length ≤ N := by
  rcases dif_len (N := N) (lo := 0) D.cv.1 (fun x hx => by obtain ⟨h1, h2⟩ := D.cv.2 x hx; have := h1.1; simp only [Int.ofNat_eq_natCast] at h2; omega) with h | h
  · omega
  · subst h; simp
section
variable {N : Nat} {cls : List (List Int)} {gs : List Int} (hN : N ≤ 30) (hc : ∀ l ∈ cls, Cv (Int.ofNat N) l) (hg : Lv (Int.ofNat N) gs)
include hN hc hg
omit hN hc in
theorem Dcs.lit {ds : List Int} (D : Dcs N cls gs ds) : ∀ x ∈ gs ++ ds, Lit x := fun x hx => by
  rcases List.mem_append.1 hx with hx | hx
  · exact (hg x hx).1
  · exact (D.cv.2 x hx).1
theorem Dcs.more {ds : List Int} (D : Dcs N cls gs ds) {k : Nat} (hk : k < N) (hw : ∀ w : Int, 1 ≤ w → w < Int.ofNat (k + 1) → Der cls (gs ++ ds) w ∨ Der cls (gs ++ ds) (-w)) (hd : ∀ x ∈ ds, x.natAbs < k + 1) {x : Int} (hx : x.natAbs = k + 1) : Dcs N cls gs (ds ++ [x]) := by
  have _ := hc; have _ := hg
  have mono : ∀ {z}, Der cls (gs ++ ds) z → Der cls (gs ++ (ds ++ [x])) z := fun h => h.mono (fun _ h => h) fun z hz => by
    rcases List.mem_append.1 hz with h | h
    · exact List.mem_append_left _ h
    · exact List.mem_append_right _ (List.mem_append_left _ h)
  refine ⟨⟨List.pairwise_append.2 ⟨D.cv.1, List.pairwise_singleton _ _, fun a ha b hb => by rw [List.mem_singleton] at hb; subst hb; have := hd a ha; omega⟩, fun z hz => ?_⟩, fun z hz w h1 h2 => ?_⟩
  · rcases List.mem_append.1 hz with h | h
    · exact D.cv.2 z h
    · rw [List.mem_singleton] at h; subst h
      exact ⟨⟨by omega, by omega, by omega⟩, by simp only [Int.ofNat_eq_natCast]; omega⟩
  · rcases List.mem_append.1 hz with h | h
    · exact (D.all z h w h1 h2).imp mono mono
    · rw [List.mem_singleton] at h; subst h
      exact (hw w h1 (by simp only [Int.ofNat_eq_natCast]; omega)).imp mono mono
omit hN hc hg in
theorem needF_clash (cl : List Int → Bool) : ∀ (i : Nat) (out : List Int), cl out = true → cl (needF cl i out) = true := by
  intro i
  induction i with
  | zero => intro out h; exact h
  | succ i ih =>
    intro out h
    unfold needF
    split
    · exact ih _ (by assumption)
    · exact ih _ h
end
end Go.Proofs.YtfgfhplgnfbaaaaDoor
/- What a search finds: the first model, or lines that follow. -/
namespace Go.Proofs.YtfgfhplgnfbaaaaDoor
open Go Go.Ev
/-- An earlier model: the first variable in which they differ is false. -/
def LexLt (N a b : Nat) : Prop := ∃ i, i < N ∧ a.testBit i = false ∧ b.testBit i = true ∧ ∀ j, j < i → a.testBit j = b.testBit j
/-- What holds at a search's end. -/
structure Spec (N : Nat) (cls : List (List Int)) (gs ds : List Int) (s : Sr) : Prop where
  how : s.how = 0 ∨ s.how = 1 ∨ s.how = 2
  good : ∀ l ∈ s.lines, Cv (Int.ofNat N) l
  rup : accF gs cls s.lines 0 = none
  clo : s.how = 1 → Cv (Int.ofNat N) s.c ∧ (∀ x ∈ s.c, -x ∈ ds) ∧ ∃ L, s.lines = L ++ [s.c]
  ful : s.how = 0 → (∀ i, (s.y ||| s.m).testBit i = decide (i < N)) ∧ s.y &&& s.m = 0
  fnd : s.how = 0 → (∀ x ∈ gs ++ ds, isB s.y x = true) ∧ (∀ l ∈ cls, l.any (isB s.y) = true) ∧ ∀ m', (∀ x ∈ gs ++ ds, isB m' x = true) → (∀ l ∈ cls, l.any (isB m') = true) → (∀ i, i < N → s.y.testBit i = m'.testBit i) ∨ LexLt N s.y m'
end Go.Proofs.YtfgfhplgnfbaaaaDoor
/- What a search finds: by induction over the tree. -/
namespace Go.Proofs.YtfgfhplgnfbaaaaDoor
open Go Go.Ev
end Go.Proofs.YtfgfhplgnfbaaaaDoor
/- What Model and Prove return: the first of all models, or a proof. -/
namespace Go.Proofs.YtfgfhplgnfbaaaaDoor
open Go Go.Ev
end Go.Proofs.YtfgfhplgnfbaaaaDoor
/- Forced: its walk. -/
namespace Go.Proofs.YtfgfhplgnfbaaaaDoor
open Go Go.Ev
end Go.Proofs.YtfgfhplgnfbaaaaDoor
/- Those to blame: the walk of Core and Blame. -/
namespace Go.Proofs.YtfgfhplgnfbaaaaDoor
open Go Go.Ev
end Go.Proofs.YtfgfhplgnfbaaaaDoor
/- Conditions of functions' code, printed by a program of ours. -/
namespace Go.Proofs.YtfgfhplgnfbaaaaDoor
open Go Go.Ev
set_option maxRecDepth 100000
set_option linter.unusedVariables false
/-! sward/swardlaw20.SatProofs -/
noncomputable def b10 : Code := (Tryd.f10.body).getD .skip
end Go.Proofs.YtfgfhplgnfbaaaaDoor
/- SatProofs of layer 20: its law. -/
namespace Go.Proofs.YtfgfhplgnfbaaaaDoor
open Go Go.Ev
section
variable {v0 : Array Value} {x1 x2 : Int} {N : Nat} (hN : 1 ≤ N ∧ N ≤ 8) {cls : List (List Int)} {gs : List Int} {pf : List (List Int)} (hcl : cls.length ≤ 14) (hc : ∀ l ∈ cls, Cv (Int.ofNat N) l) (hg : Cv (Int.ofNat N) gs) (hp : ∀ l ∈ pf, Cv (Int.ofNat N) l) (hpl : pf.length ≤ 2000) (hr : accF gs cls pf 0 = none) {L : List (List Int)} (hL : pf = L ++ [[]])
  {hB : Hp} (ok : hB.Ok) (ht : Tb hB) {b7 : Nat} (hb7 : b7 < hB.nx) {aF a8 aP : Option Addr} {nF cF n8 c8 nP cP : Nat} (g7 : hB.get b7 = some (.cells [.int .i64 (Int.ofNat N), .slice aF nF cF] 30 .fix)) (F : IntssAt hB aF nF cls) (G : IntsAt hB a8 n8 gs) (PL : IntssAt hB aP nP pf)
include hN hcl hc hg hp hpl hr hL ok ht hb7 g7 F G PL
end
end Go.Proofs.YtfgfhplgnfbaaaaDoor
/- SatProofs of layer 20: its law, joined. -/
namespace Go.Proofs.YtfgfhplgnfbaaaaDoor
open Go Go.Ev
end Go.Proofs.YtfgfhplgnfbaaaaDoor
/- Core and Blame: their contracts, where the formula and what is given are as defined. -/
namespace Go.Proofs.YtfgfhplgnfbaaaaDoor
open Go Go.Ev
end Go.Proofs.YtfgfhplgnfbaaaaDoor
/- Forced: the plain law. -/
namespace Go.Proofs.YtfgfhplgnfbaaaaDoor
open Go Go.Ev
end Go.Proofs.YtfgfhplgnfbaaaaDoor
/- SatMinimal of layer 20: the plain law. -/
namespace Go.Proofs.YtfgfhplgnfbaaaaDoor
open Go Go.Ev
theorem needF_congr {ψ ψ' : List Int → Bool} : ∀ (i : Nat) (out : List Int), (∀ l, l.Sublist out → ψ l = ψ' l) → needF ψ i out = needF ψ' i out := by
  intro i
  induction i with
  | zero => intro out _; rfl
  | succ i ih =>
    intro out h
    unfold needF
    rw [h _ (List.eraseIdx_sublist ..), ih _ fun l hl => h l (hl.trans (List.eraseIdx_sublist ..)), ih _ h]
theorem erase_erase {α : Type} : ∀ (l : List α) (i k : Nat), i ≤ k → (l.eraseIdx i).eraseIdx k = (l.eraseIdx (k + 1)).eraseIdx i := by
  intro l
  induction l with
  | nil => intro i k _; rfl
  | cons a l ih =>
    intro i k h
    match i, k with
    | 0, k => rfl
    | i + 1, 0 => omega
    | i + 1, k + 1 =>
      show a :: ((l.eraseIdx i).eraseIdx k) = a :: ((l.eraseIdx (k + 1)).eraseIdx i)
      rw [ih i k (by omega)]
/-- Without any one of those that are left it is not so. -/
theorem needF_min {ψ : List Int → Bool} (mono : ∀ l l', l.Sublist l' → ψ l = true → ψ l' = true) : ∀ (i : Nat) (out : List Int), (∀ k, i ≤ k → k < out.length → ψ (out.eraseIdx k) = false) → i ≤ out.length → ∀ k, k < (needF ψ i out).length → ψ ((needF ψ i out).eraseIdx k) = false := by
  intro i
  induction i with
  | zero => intro out h _ k hk; exact h k (Nat.zero_le _) hk
  | succ i ih =>
    intro out h hi k hk
    unfold needF at hk ⊢
    split
    · rename_i h1
      rw [if_pos h1] at hk
      have hl : (out.eraseIdx i).length = out.length - 1 := List.length_eraseIdx_of_lt (by omega)
      refine ih _ (fun j hj hjl => ?_) (by omega) k hk
      cases hb : ψ ((out.eraseIdx i).eraseIdx j) with
      | false => rfl
      | true =>
        rw [erase_erase _ _ _ hj] at hb
        rw [← mono _ _ (List.eraseIdx_sublist ..) hb]
        exact h (j + 1) (by omega) (by omega)
    · rename_i h1
      rw [if_neg h1] at hk
      refine ih _ (fun j hj hjl => ?_) (by omega) k hk
      rcases Nat.lt_or_ge i j with h2 | h2
      · exact h j h2 hjl
      · obtain rfl : i = j := by omega
        cases hb : ψ (out.eraseIdx i) with
        | false => rfl
        | true => exact absurd hb h1
end Go.Proofs.YtfgfhplgnfbaaaaDoor
/- Plain law of SatLearned: what Learn and Unit return. -/
namespace Go.Proofs.YtfgfhplgnfbaaaaDoor
open Go Go.Ev
theorem clash_iff {cls : List (List Int)} (hd : Good cls) {l : List Int} (hl : ∀ x ∈ l, Lit x) : clashN (cls.map sideN) [] l = true ↔ Cl cls l := by
  have e := calm_iff hd hl
  unfold clashN
  rw [List.nil_append]
  by_cases h : Cl cls l
  · simp only [h, iff_true, not_true, iff_false, Bool.not_eq_true] at e ⊢
    rw [e]; rfl
  · simp only [h, iff_false, not_false_iff, iff_true] at e ⊢
    rw [e]; decide
theorem learn_none {cls : List (List Int)} (hd : Good cls) {d : List Int} (hl : ∀ x ∈ d, Lit x) (h : ¬ Cl cls d) : ∀ (m k : Nat), learnF (clashN (cls.map sideN) []) d m k = ([], 5) := by
  intro m
  induction m with
  | zero => intro k; rfl
  | succ m ih =>
    intro k
    unfold learnF
    rw [if_neg, ih]
    rw [clash_iff hd fun x hx => hl x (List.mem_of_mem_take hx)]
    exact fun c => h (c.mono (fun _ h => h) fun x hx => List.mem_of_mem_take hx)
open Classical in
/-- What is learned from a clash. -/
theorem learn_some {cls : List (List Int)} (hd : Good cls) {d : List Int} (hl : ∀ x ∈ d, Lit x) (h : Cl cls d) : ∀ (m k : Nat), k + m = d.length + 1 → (∀ j, j < k → ¬ Cl cls (d.take j)) →
    ∃ K nd, K ≤ d.length ∧ nd.Sublist (d.take K) ∧ learnF (clashN (cls.map sideN) []) d m k = (isrt (nd.map fun x => -x), 0) ∧ Cl cls nd ∧ (∀ i, i < nd.length → ¬ Cl cls (nd.eraseIdx i)) ∧ ∀ j, j < K → ¬ Cl cls (d.take j) := by
  intro m
  induction m with
  | zero =>
    intro k hk hj
    refine absurd h ?_
    have := hj d.length (by omega)
    rwa [List.take_length] at this
  | succ m ih =>
    intro k hk hj
    have hlt : ∀ x ∈ d.take k, Lit x := fun x hx => hl x (List.mem_of_mem_take hx)
    unfold learnF
    by_cases hc : clashN (cls.map sideN) [] (d.take k) = true
    · rw [if_pos hc]
      have hC := (clash_iff hd hlt).1 hc
      have hcong : needF (clashN (cls.map sideN) []) k (d.take k) = needF (fun l => decide (Cl cls l)) k (d.take k) := needF_congr _ _ fun l hs => by
        have e := clash_iff hd (l := l) fun x hx => hlt x (hs.subset hx)
        by_cases hh : Cl cls l
        · rw [e.2 hh]; simp [hh]
        · have : clashN (cls.map sideN) [] l = false := by
            cases hb : clashN (cls.map sideN) [] l with
            | false => rfl
            | true => exact absurd (e.1 hb) hh
          rw [this]; simp [hh]
      have tk : (d.take k).length = k := by rw [List.length_take]; omega
      refine ⟨k, _, by omega, needF_sub .., rfl, ?_, fun i hi => ?_, hj⟩
      · have := needF_clash (fun l => decide (Cl cls l)) k (d.take k) (by simpa using hC)
        rw [hcong]; simpa using this
      · have := needF_min (ψ := fun l => decide (Cl cls l)) (fun l l' s a => by
          have a : Cl cls l := by simpa using a
          simpa using a.mono (fun _ h => h) fun x hx => s.subset hx) k (d.take k) (fun j h1 h2 => by omega) (by omega) i (by rw [← hcong]; exact hi)
        rw [hcong]; simpa using this
    · rw [if_neg hc]
      refine ih (k + 1) (by omega) fun j h1 => ?_
      rcases Nat.lt_or_ge j k with h2 | h2
      · exact hj j h2
      · obtain rfl : j = k := by omega
        exact fun c => hc ((clash_iff hd hlt).2 c)
theorem firstF_self : ∀ {xs acc : List Int}, Nod (acc ++ xs) → (∀ x ∈ acc ++ xs, x ≠ 0) → firstF xs acc = acc ++ xs := by
  intro xs
  induction xs with
  | nil => intro acc _ _; simp [firstF]
  | cons x xs ih =>
    intro acc h h0
    have hx0 := h0 x (by simp)
    have h1 : ∀ y ∈ acc, y.natAbs ≠ x.natAbs := fun y hy => (List.pairwise_append.1 h).2.2 y hy x (List.mem_cons_self ..)
    unfold firstF
    rw [if_neg]
    · rw [ih (by simpa using h) (by simpa using h0)]; simp
    · rintro (h2 | h2)
      · exact h1 x h2 rfl
      · exact h1 (-x) h2 (by rw [Int.natAbs_neg])
theorem clause_nod {l : List Int} (h : Nod l) (h0 : ∀ x ∈ l, x ≠ 0) : clauseN l = isrt l := by
  unfold clauseN
  rw [firstF_self (by simpa using h) (by simpa using h0)]; simp
theorem isrt_self {l : List Int} (h : Dif l) : isrt l = l := by
  refine (srt_eq (h.imp fun {x y} hxy => by omega) (List.Perm.refl _) (h.imp fun {x y} hxy => by omega)).symm
theorem clause_dif {l : List Int} (h : Dif l) (h0 : ∀ x ∈ l, x ≠ 0) : clauseN l = l := by
  rw [clause_nod (h.imp fun {x y} hxy => by omega) h0, isrt_self h]
/-- The learned clause, and what it is made of. -/
structure Lrn (cls : List (List Int)) (d nd l : List Int) (K : Nat) : Prop where
  dif : Dif l
  lit : ∀ x ∈ l, Lit x
  len : l.length ≤ d.length
  mem : ∀ x, x ∈ l ↔ -x ∈ nd
  cut : nd.Sublist (d.take K)
  cl : Cl cls nd
  min : ∀ i, i < nd.length → ¬ Cl cls (nd.eraseIdx i)
  bef : ∀ j, j < K → ¬ Cl cls (d.take j)
theorem learn_is {cls : List (List Int)} (hd : Good cls) {d : List Int} (hl : ∀ x ∈ d, Lit x) (hn : Nod d) (h : Cl cls d) : ∃ nd l K, learnF (clashN (cls.map sideN) []) d (d.length + 1) 0 = (l, 0) ∧ Lrn cls d nd l K := by
  obtain ⟨K, nd, _, h2, h3, h4, h5, h6⟩ := learn_some hd hl h (d.length + 1) 0 (by omega) fun j h => absurd h (Nat.not_lt_zero _)
  have sub : nd.Sublist d := h2.trans (List.take_sublist ..)
  have nn : Nod (nd.map fun x => -x) := by
    unfold Nod
    rw [List.pairwise_map]
    exact (hn.sublist sub).imp fun {x z} hxz => by rw [Int.natAbs_neg, Int.natAbs_neg]; exact hxz
  refine ⟨nd, _, K, h3, isrt_dif nn, fun x hx => ?_, ?_, fun x => ?_, h2, h4, h5, h6⟩
  · exact lit_neg (fun x hx => hl x (sub.subset hx)) x (isrt_mem'.1 hx)
  · rw [(isrt_perm _).length_eq, List.length_map]; exact sub.length_le
  · rw [isrt_mem', List.mem_map]
    constructor
    · rintro ⟨z, hz, rfl⟩; simpa using hz
    · intro hz; exact ⟨-x, hz, by simp⟩
section
variable {cls : List (List Int)} {d nd l : List Int} {K : Nat} (L : Lrn cls d nd l K) (hn : Nod d)
include L
theorem Lrn.sub : nd.Sublist d := L.cut.trans (List.take_sublist ..)
theorem Lrn.fol : Cl cls (l.map fun x => -x) := L.cl.mono (fun _ h => h) fun x hx => List.mem_map.2 ⟨-x, (L.mem _).2 (by simpa using hx), by simp⟩
theorem Lrn.less {i : Nat} (hi : i < l.length) : ¬ Cl cls ((l.eraseIdx i).map fun x => -x) := by
  obtain ⟨j, hj, e⟩ := List.getElem_of_mem ((L.mem _).1 (List.getElem_mem hi))
  refine fun c => L.min j hj (c.mono (fun _ h => h) fun x hx => ?_)
  obtain ⟨z, hz, rfl⟩ := List.mem_map.1 hx
  obtain ⟨i', hi', ne, ez⟩ := List.mem_eraseIdx_iff_getElem.1 hz
  have hz2 : -z ∈ nd := (L.mem _).1 (List.mem_of_mem_eraseIdx hz)
  obtain ⟨j', hj', e'⟩ := List.getElem_of_mem hz2
  refine List.mem_eraseIdx_iff_getElem.2 ⟨j', hj', fun ejj => ?_, e'⟩
  subst ejj
  have ee : l[i] = z := by have := e.symm.trans e'; omega
  have := List.pairwise_iff_getElem.1 L.dif
  rcases Nat.lt_or_gt_of_ne ne with h | h
  · have := this i' i hi' hi h; rw [ez, ee] at this; omega
  · have := this i i' hi hi' h; rw [ez, ee] at this; omega
include hn in
theorem Lrn.last {j : Nat} (hj : j < d.length) (h : -d[j] ∈ l) : ¬ Cl cls (d.take j) := by
  have h1 := (L.mem _).1 h
  rw [Int.neg_neg] at h1
  obtain ⟨j', hj', e⟩ := List.getElem_of_mem (L.cut.subset h1)
  have hj2 : j' < K := by have := List.length_take (i := K) (l := d); omega
  have hj3 : j' < d.length := by have := List.length_take (i := K) (l := d); omega
  rw [List.getElem_take] at e
  have : j' = j := by
    have hp := List.pairwise_iff_getElem.1 hn
    rcases Nat.lt_trichotomy j' j with h2 | h2 | h2
    · exact absurd (by rw [e]) (hp j' j hj3 hj h2)
    · exact h2
    · exact absurd (by rw [e]) (hp j j' hj hj3 h2)
  subst this
  exact L.bef _ hj2
theorem Lrn.true (hg : Good cls) {m : Nat} (hm : ∀ c ∈ cls, c.any (isB m) = true) : l.any (isB m) = true := by
  rw [List.any_eq_true]
  refine Classical.byContradiction fun hne => ?_
  refine model_calm (xs := l.map fun x => -x) (m := m) (fun c hc x hx => ((hg c hc).1 x hx).1) (fun x hx => ?_) hm (fun x hx => ?_) L.fol
  · obtain ⟨z, hz, rfl⟩ := List.mem_map.1 hx
    have := (L.lit z hz).1; omega
  · obtain ⟨z, hz, rfl⟩ := List.mem_map.1 hx
    rw [isB_neg (L.lit z hz).1]
    cases hb : isB m z with
    | false => rfl
    | true => exact absurd ⟨z, hz, hb⟩ hne
end
end Go.Proofs.YtfgfhplgnfbaaaaDoor
/- Plain law of SatLearned: what propagation makes true. -/
namespace Go.Proofs.YtfgfhplgnfbaaaaDoor
open Go Go.Ev
theorem der_lit {cls : List (List Int)} {N : Int} (hc : ∀ l ∈ cls, Cv N l) {xs : List Int} (hx : ∀ x ∈ xs, Lit x ∧ (x.natAbs : Int) ≤ N) {z : Int} (h : Der cls xs z) : Lit z ∧ (z.natAbs : Int) ≤ N := by
  cases h with
  | base h => exact hx _ h
  | unit hl hz _ => exact (hc _ hl).2 _ hz
/-- What propagation makes true, in order. -/
def wantL (y n : Nat) (N : Nat) : List Int := (List.range N).flatMap fun i => (if y.testBit (i + 1) = true then [Int.ofNat (i + 1)] else []) ++ (if n.testBit (i + 1) = true then [-Int.ofNat (i + 1)] else [])
theorem wantL_succ (y n N : Nat) : wantL y n (N + 1) = wantL y n N ++ ((if y.testBit (N + 1) = true then [Int.ofNat (N + 1)] else []) ++ (if n.testBit (N + 1) = true then [-Int.ofNat (N + 1)] else [])) := by
  unfold wantL
  rw [List.range_succ, List.flatMap_append]; simp
theorem wantL_mem {y n x} : ∀ {N : Nat}, x ∈ wantL y n N ↔ trP y n x ∧ x ≠ 0 ∧ x.natAbs ≤ N := by
  intro N
  induction N with
  | zero => simp [wantL]
  | succ N ih =>
    rw [wantL_succ, List.mem_append, List.mem_append, ih]
    constructor
    · rintro (h | h | h)
      · exact ⟨h.1, h.2.1, by omega⟩
      · split at h
        · rename_i hb
          rw [List.mem_singleton] at h; subst h
          exact ⟨.inl ⟨by simp only [Int.ofNat_eq_natCast]; omega, hb⟩, by simp only [Int.ofNat_eq_natCast]; omega, by simp only [Int.ofNat_eq_natCast]; omega⟩
        · cases h
      · split at h
        · rename_i hb
          rw [List.mem_singleton] at h; subst h
          have e : (-Int.ofNat (N + 1)).natAbs = N + 1 := by rw [Int.natAbs_neg]; rfl
          exact ⟨.inr ⟨by simp only [Int.ofNat_eq_natCast]; omega, by rw [e]; exact hb⟩, by simp only [Int.ofNat_eq_natCast]; omega, by omega⟩
        · cases h
    · rintro ⟨h, h0, hN⟩
      rcases Nat.lt_or_ge x.natAbs (N + 1) with h1 | h1
      · exact .inl ⟨h, h0, by omega⟩
      · have e : x.natAbs = N + 1 := by omega
        rcases h with ⟨a, b⟩ | ⟨a, b⟩
        · rw [e] at b
          rw [if_pos b]
          refine .inr (.inl (List.mem_singleton.2 ?_))
          simp only [Int.ofNat_eq_natCast]; omega
        · rw [e] at b
          rw [if_pos b]
          refine .inr (.inr (List.mem_singleton.2 ?_))
          simp only [Int.ofNat_eq_natCast]; omega
theorem wantL_dif {y n : Nat} (hc : ∀ i, y.testBit (i + 1) = true → n.testBit (i + 1) = true → False) : ∀ N, Dif (wantL y n N) := by
  intro N
  induction N with
  | zero => exact List.Pairwise.nil
  | succ N ih =>
    rw [wantL_succ]
    refine List.pairwise_append.2 ⟨ih, ?_, fun x hx z hz => ?_⟩
    · split
      · rename_i h1
        split
        · rename_i h2; exact absurd h2 fun h2 => hc _ h1 h2
        · exact List.pairwise_singleton ..
      · split
        · exact List.pairwise_singleton ..
        · exact List.Pairwise.nil
    · have hx := (wantL_mem.1 hx).2.2
      have : z.natAbs = N + 1 := by
        rcases List.mem_append.1 hz with h | h
        · split at h
          · rw [List.mem_singleton.1 h]; rfl
          · cases h
        · split at h
          · rw [List.mem_singleton.1 h, Int.natAbs_neg]; rfl
          · cases h
      omega
theorem wantL_len (y n : Nat) : ∀ N, (wantL y n N).length ≤ 2 * N := by
  intro N
  induction N with
  | zero => simp [wantL]
  | succ N ih =>
    rw [wantL_succ, List.length_append, List.length_append]
    have h1 : (if y.testBit (N + 1) = true then [Int.ofNat (N + 1)] else []).length ≤ 1 := by split <;> simp
    have h2 : (if n.testBit (N + 1) = true then [-Int.ofNat (N + 1)] else []).length ≤ 1 := by split <;> simp
    omega
/-- Both propagations, if they are calm. -/
theorem calm_same {cls : List (List Int)} {N : Nat} (hc : ∀ l ∈ cls, Cv (Int.ofNat N) l) {d gs : List Int} (hd : ∀ x ∈ d, Lit x ∧ (x.natAbs : Int) ≤ Int.ofNat N) (hm : ∀ x, x ∈ gs ↔ x ∈ d)
    (hlt : (fromN (cls.map sideN) gs).1.1 < 2 ^ 30 ∧ (fromN (cls.map sideN) gs).1.2 < 2 ^ 30) (hr : (fromN (cls.map sideN) gs).2 = true) {y n : Nat} (C : Calm cls d (trP y n)) (D : ∀ z, trP y n z → z ≠ 0 → Der cls d z) :
    litsN (fromN (cls.map sideN) gs).1.1 (fromN (cls.map sideN) gs).1.2 = wantL y n N := by
  have hg := good_of hc
  have gl : ∀ x ∈ gs, Lit x := fun x hx => (hd x ((hm x).1 hx)).1
  obtain ⟨a, _⟩ := fromN_ok hg gl
  generalize fromN (cls.map sideN) gs = r at *
  obtain ⟨a, b⟩ := a hr
  have mv : ∀ {z}, Der cls gs z → Der cls d z := fun h => h.mono (fun _ h => h) fun x hx => (hm x).1 hx
  have vm : ∀ {z}, Der cls d z → Der cls gs z := fun h => h.mono (fun _ h => h) fun x hx => (hm x).2 hx
  have and0 : r.1.1 &&& r.1.2 = 0 := (and_zero_iff _ _).2 fun i ⟨h1, h2⟩ => by
    refine a.con (Int.ofNat (i + 1)) (.inl ⟨by simp only [Int.ofNat_eq_natCast]; omega, h1⟩) (.inr ⟨by simp only [Int.ofNat_eq_natCast]; omega, ?_⟩)
    rw [Int.natAbs_neg]; exact h2
  refine dif_ext (lits_dif ..) (wantL_dif (fun i h1 h2 => ?_) N) fun x => ?_
  · refine C.con (Int.ofNat (i + 1)) (.inl ⟨by simp only [Int.ofNat_eq_natCast]; omega, h1⟩) (.inr ⟨by simp only [Int.ofNat_eq_natCast]; omega, ?_⟩)
    rw [Int.natAbs_neg]; exact h2
  · rw [lits_mem hlt.1 hlt.2 and0, wantL_mem]
    constructor
    · intro h
      have hD := mv (b _ h)
      have hl := der_lit hc hd hD
      exact ⟨C.all hD, hl.1.1, by have := hl.2; simp only [Int.ofNat_eq_natCast] at this; omega⟩
    · rintro ⟨h, h0, _⟩
      exact a.all (vm (D _ h h0))
/-- A model of the clauses and of the given literals has what propagation makes true. -/
theorem want_true {cls : List (List Int)} {N : Nat} (hc : ∀ l ∈ cls, Cv (Int.ofNat N) l) {d : List Int} (hd : ∀ x ∈ d, Lit x ∧ (x.natAbs : Int) ≤ Int.ofNat N) {y n : Nat} (D : ∀ z, trP y n z → z ≠ 0 → Der cls d z)
    {m : Nat} (h1 : ∀ c ∈ cls, c.any (isB m) = true) (h2 : ∀ x ∈ d, isB m x = true) {x : Int} (hx : x ∈ wantL y n N) : isB m x = true := by
  obtain ⟨a, b, _⟩ := wantL_mem.1 hx
  have C : Calm cls d fun x => x ≠ 0 ∧ isB m x = true := ⟨fun x a b => by
    have b2 := b.2
    rw [isB_neg a.1, a.2] at b2
    exact Bool.noConfusion b2, fun x h => ⟨(hd x h).1.1, h2 x h⟩, fun l hl => by
    obtain ⟨x, hxl, ht⟩ := List.any_eq_true.1 (h1 l hl)
    exact .inl ⟨x, hxl, ((hc l hl).2 x hxl).1.1, ht⟩⟩
  exact (C.all (D x a b)).2
end Go.Proofs.YtfgfhplgnfbaaaaDoor
/- What is known of a memory: who has which objects. A step of the code changes one's own alone. -/
namespace Go.Ev
open Go
/-- From one memory to a later one: of what there was some objects alone change. -/
structure Ch (S : Nat → Prop) (h h' : Hp) : Prop where
  get : ∀ o, o < h.nx → ¬ S o → h'.get o = h.get o
  nx : h.nx ≤ h'.nx
  gd : h'.gd = h.gd
  fr : h.Fresh → h'.Fresh
theorem Ch.refl (S : Nat → Prop) (h : Hp) : Ch S h h := ⟨fun _ _ _ => rfl, Nat.le_refl _, rfl, id⟩
theorem Ch.trans {S : Nat → Prop} {h h' h'' : Hp} (a : Ch S h h') (b : Ch S h' h'') : Ch S h h'' := ⟨fun o ho hS => (b.get o (Nat.lt_of_lt_of_le ho a.nx) hS).trans (a.get o ho hS), Nat.le_trans a.nx b.nx, b.gd.trans a.gd, fun f => b.fr (a.fr f)⟩
theorem Ch.low {S : Nat → Prop} {h h' : Hp} {n : Nat} (a : Ch S h h') (hn : n ≤ h.nx) (hs : ∀ o, S o → n ≤ o) : Kp n h h' := ⟨fun o ho => a.get o (by omega) (fun h => by have := hs o h; omega), a.nx, a.gd, a.fr⟩
theorem Ch.wr (h : Hp) (b off : Nat) (vs : List Value) : Ch (fun o => o = b) h (h.wr b off vs) := ⟨fun _ _ hne => wr_get_ne _ _ _ _ hne, by rw [nx_wr]; exact Nat.le_refl _, gd_wr .., fun f => f.wr _ _ _⟩
/-- Something that somebody has: objects, and what is so of them. -/
structure Rs where
  own : Nat → Prop
  P : Hp → Prop
/-- It speaks of its own objects alone. -/
def Rs.Loc (r : Rs) : Prop := ∀ h h' : Hp, h.nx ≤ h'.nx → (∀ b, r.own b → h'.get b = h.get b) → r.P h → r.P h'
/-- An object. -/
def ob (b : Nat) (x : Ob) : Rs := ⟨fun o => o = b, fun h => h.get b = some x⟩
theorem ob.loc (b : Nat) (x : Ob) : (ob b x).Loc := fun _ _ _ h e => (h b rfl).trans e
/-- A list that grows. -/
def acc (lo : Nat) (e : TypeId) (esz : Nat) (a : Option Addr) (n c : Nat) (xs : List Value) : Rs := ⟨fun o => a = some ⟨o, 0, none⟩, fun h => AccE h lo e esz a n c xs⟩
theorem acc.loc (lo : Nat) (e : TypeId) (esz : Nat) (a : Option Addr) (n c : Nat) (xs : List Value) : (acc lo e esz a n c xs).Loc := fun _ _ hn h A => A.keep (fun o _ ha => h o ha) hn
/-- Numbers that are laid aside. -/
def hole (lo k : Nat) (used : List Nat) : Rs := ⟨fun o => lo ≤ o ∧ o < lo + k ∧ o ∉ used, fun h => ∀ o, lo ≤ o → o < lo + k → o ∉ used → h.get o = none⟩
theorem hole.loc (lo k : Nat) (used : List Nat) : (hole lo k used).Loc := fun _ _ _ h e o h1 h2 h3 => (h o ⟨h1, h2, h3⟩).trans (e o h1 h2 h3)
/-- What is known of a memory that began as another one. -/
structure Know (h0 g : Hp) (L : List Rs) : Prop where
  ok : g.Ok
  kp : Kp h0.nx h0 g
  at_ : ∀ r ∈ L, r.Loc ∧ r.P g ∧ ∀ b, r.own b → h0.nx ≤ b ∧ b < g.nx
  dis : L.Pairwise (fun r s => ∀ b, r.own b → ¬ s.own b)
  ok0 : h0.Ok
section
variable {h0 g : Hp} {L : List Rs}
theorem Know.nil (ok : g.Ok) : Know g g [] := ⟨ok, Kp.refl _ _, fun _ h => (by cases h), .nil, ok⟩
theorem Know.ft (S : Know h0 g L) : Ft h0 g := S.kp.ex (Nat.le_refl _)
theorem Know.len (_ : Know h0 g L) {i : Nat} {r : Rs} (hi : L[i]? = some r) : i < L.length := (List.getElem?_eq_some_iff.1 hi).1
theorem Know.lo (S : Know h0 g L) : h0.nx ≤ g.nx := S.kp.nx
theorem Know.gl (S : Know h0 g L) : GdLt g h0.nx := fun q hq => by rw [S.kp.gd] at hq; exact S.ok0.gd q hq
theorem Know.get (S : Know h0 g L) (i : Nat) {r : Rs} (hi : L[i]? = some r) : r.P g := (S.at_ r (List.mem_of_getElem? hi)).2.1
theorem Know.obj (S : Know h0 g L) (i : Nat) {b : Nat} {x : Ob} (hi : L[i]? = some (ob b x)) : g.get b = some x := S.get i hi
theorem Know.rng (S : Know h0 g L) (i : Nat) {r : Rs} (hi : L[i]? = some r) : ∀ b, r.own b → h0.nx ≤ b ∧ b < g.nx := (S.at_ r (List.mem_of_getElem? hi)).2.2
theorem Know.orng (S : Know h0 g L) (i : Nat) {b : Nat} {x : Ob} (hi : L[i]? = some (ob b x)) : h0.nx ≤ b ∧ b < g.nx := S.rng i hi b rfl
theorem pw_get {α : Type} {R : α → α → Prop} (hs : ∀ a b, R a b → R b a) : ∀ {l : List α}, l.Pairwise R → ∀ {i j : Nat} {x y : α}, l[i]? = some x → l[j]? = some y → i ≠ j → R x y := by
  intro l
  induction l with
  | nil => intro _ i j x y h; cases h
  | cons a l ih =>
    intro hp i j x y hx hy hij
    obtain ⟨p1, p2⟩ := List.pairwise_cons.1 hp
    cases i with
    | zero =>
      cases j with
      | zero => exact absurd rfl hij
      | succ j => obtain rfl := Option.some.inj hx; exact p1 y (List.mem_of_getElem? (i := j) hy)
    | succ i =>
      cases j with
      | zero => obtain rfl := Option.some.inj hy; exact hs _ _ (p1 x (List.mem_of_getElem? (i := i) hx))
      | succ j => exact ih p2 (i := i) (j := j) hx hy (by omega)
theorem Know.sep (S : Know h0 g L) (i j : Nat) {r s : Rs} (hi : L[i]? = some r) (hj : L[j]? = some s) (hij : i ≠ j) : ∀ b, r.own b → ¬ s.own b :=
  pw_get (fun _ _ h b hb ha => h b ha hb) S.dis hi hj hij
/-- A new object. -/
theorem Know.add (S : Know h0 g L) (x : Ob) : Know h0 (g.add x) (ob g.nx x :: L) := by
  refine ⟨S.ok.add x, S.kp.add S.lo x, fun r hr => ?_, List.pairwise_cons.2 ⟨fun r hr b hb hrb => ?_, S.dis⟩, S.ok0⟩
  · rcases List.mem_cons.1 hr with rfl | hr
    · exact ⟨ob.loc _ _, get_add_same .., fun b hb => by cases hb; rw [nx_add]; have := S.lo; omega⟩
    · obtain ⟨h1, h2, h3⟩ := S.at_ r hr
      exact ⟨h1, h1 g _ (by rw [nx_add]; omega) (fun b hb => get_add_ne (by have := h3 b hb; omega)) h2, fun b hb => by rw [nx_add]; have := h3 b hb; omega⟩
  · have := (S.at_ r hr).2.2 b hrb
    cases hb; omega
/-- Memory goes on. -/
theorem Know.call (S : Know h0 g L) {g' : Hp} (k : Kp g.nx g g') : Know h0 g' L :=
  ⟨S.ok.kp k, S.kp.trans (k.le S.lo), fun r hr => let ⟨h1, h2, h3⟩ := S.at_ r hr; ⟨h1, h1 g g' k.nx (fun b hb => k.get b (h3 b hb).2) h2, fun b hb => by have := h3 b hb; have := k.nx; omega⟩, S.dis, S.ok0⟩
theorem Know.rsv (S : Know h0 g L) (k : Nat) : Know h0 (g.rsv k) L := S.call ((Kp.refl _ g).rsv k)
theorem Know.okg (S : Know h0 g L) {l : List Nat} (hl : ∀ q ∈ l, q < g.nx) : (g.grd l).Ok := S.ok.grd hl
/-- One changes. -/
theorem Know.upd (S : Know h0 g L) (i : Nat) {r r' : Rs} (hi : L[i]? = some r) {g' : Hp} (k : Ch r.own g g') (hl : r'.Loc) (hP : r'.P g') (ho : ∀ b, r'.own b → r.own b ∨ (g.nx ≤ b ∧ b < g'.nx)) : Know h0 g' (L.set i r') := by
  have hr := S.rng i hi
  have hi' : i < L.length := (List.getElem?_eq_some_iff.1 hi).1
  have ho' : ∀ b, r'.own b → h0.nx ≤ b ∧ b < g'.nx := fun b hb => by
    rcases ho b hb with h | h
    · have := hr b h; have := k.nx; omega
    · have := S.lo; omega
  refine ⟨⟨fun q hq => by rw [k.gd] at hq; exact Nat.lt_of_lt_of_le (S.ok.gd q hq) k.nx, k.fr S.ok.fr⟩, S.kp.trans (k.low S.lo fun o h => (hr o h).1), fun s hs => ?_, ?_, S.ok0⟩
  · obtain ⟨j, hj⟩ := List.mem_iff_getElem?.1 hs
    by_cases hij : i = j
    · subst hij
      rw [List.getElem?_set_self hi'] at hj
      obtain rfl := Option.some.inj hj
      exact ⟨hl, hP, ho'⟩
    · rw [List.getElem?_set_ne hij] at hj
      obtain ⟨h1, h2, h3⟩ := S.at_ s (List.mem_of_getElem? hj)
      exact ⟨h1, h1 g g' k.nx (fun b hb => k.get b (h3 b hb).2 fun h => S.sep i j hi hj hij b h hb) h2, fun b hb => by have := h3 b hb; have := k.nx; omega⟩
  · rw [List.pairwise_iff_getElem]
    intro a b ha hb hab
    rw [List.length_set] at ha hb
    have key : ∀ j s, i ≠ j → L[j]? = some s → ∀ q, r'.own q → ¬ s.own q := fun j s hij hj q hq hs => by
      rcases ho q hq with h | h
      · exact S.sep i j hi hj hij q h hs
      · have := (S.at_ s (List.mem_of_getElem? hj)).2.2 q hs; omega
    rw [List.getElem_set, List.getElem_set]
    by_cases h1 : i = a
    · rw [if_pos h1, if_neg (by omega)]
      exact key b _ (by omega) (List.getElem?_eq_getElem hb)
    · rw [if_neg h1]
      by_cases h2 : i = b
      · rw [if_pos h2]
        exact fun q hq hs => key a _ h1 (List.getElem?_eq_getElem ha) q hs hq
      · rw [if_neg h2]
        exact List.pairwise_iff_getElem.1 S.dis a b ha hb hab
theorem Ch.rst {R : Nat → Prop} {l : List Nat} {h' : Hp} (k : Ch R (g.grd l) h') : Ch R g (h'.rst g) := ⟨k.get, k.nx, rfl, fun f => k.fr f⟩
/-- Something new. -/
theorem Know.push (S : Know h0 g L) {r' : Rs} {g' : Hp} (k : Kp g.nx g g') (hl : r'.Loc) (hP : r'.P g') (ho : ∀ b, r'.own b → g.nx ≤ b ∧ b < g'.nx) : Know h0 g' (r' :: L) := by
  have T := S.call k
  refine ⟨T.ok, T.kp, fun r hr => ?_, List.pairwise_cons.2 ⟨fun r hr b hb hrb => ?_, T.dis⟩, S.ok0⟩
  · rcases List.mem_cons.1 hr with rfl | hr
    · exact ⟨hl, hP, fun b hb => by have := ho b hb; have := S.lo; omega⟩
    · exact T.at_ r hr
  · have := (S.at_ r hr).2.2 b hrb
    have := ho b hb; omega
/-- Some are forgotten, or come in another order. -/
theorem Know.sel (S : Know h0 g L) (is : List Nat) (hn : is.Nodup) {M : List Rs} (hM : M = is.filterMap (fun i => L[i]?)) : Know h0 g M := by
  subst hM
  refine ⟨S.ok, S.kp, fun r hr => ?_, ?_, S.ok0⟩
  · obtain ⟨i, _, hi⟩ := List.mem_filterMap.1 hr
    exact S.at_ r (List.mem_of_getElem? hi)
  · rw [List.pairwise_filterMap]
    exact hn.imp fun {i j} hij r hr s hs => S.sep i j hr hs hij
/-- What is known of the second one of two. -/
theorem Know.sub (S : Know h0 g L) (M : List Rs) (h : M.Sublist L) : Know h0 g M := ⟨S.ok, S.kp, fun r hr => S.at_ r (h.subset hr), S.dis.sublist h, S.ok0⟩
/-- What is appended to lies at a new number: also a row of no elements. -/
theorem append_newE {P : Program} {sT e : TypeId} {esz bytes : Nat} (T : AppT P sT e esz bytes) {h : Hp} {base : Nat} {a : Option Addr} {n c : Nat} {xs : List Value} (H : AccE h base e esz a n c xs)
    {x : Value} {ys : List Value} {k : Nat} (hx : ∃ a n c, x = .slice a n c) (hs : srcCells h esz x = some (ys, k)) (h1 : ys.all one = true) (hkp : 0 < k) {a' : Option Addr} {n' c' : Nat} {h' : Hp} (e1 : appendV P h sT sT (.slice a n c) x = some (.slice a' n' c', h')) : a' = some ⟨h.nx, 0, none⟩ := by
  rcases H with H | ⟨rfl, rfl, rfl, o, rfl, h2, h3, e2, m, h4⟩
  · exact append_new T H hx hs h1 hkp e1
  · obtain ⟨hz, info, z, hi, hzz, hrun⟩ := T.run
    rw [hrun h _ x hx, hs] at e1
    have hk0 : Nat.beq k 0 = false := by rw [Bool.eq_false_iff]; intro hh; have := Nat.eq_of_beq_eq_true hh; omega
    simp only [Option.bind_some, h1, cond_true, hk0, cond_false] at e1
    unfold appSome at e1
    have e3 : Nat.beq 0 unk = false := by
      rw [Bool.eq_false_iff]; intro hh; have := Nat.eq_of_beq_eq_true hh; have : unk = 18446744073709551616 := rfl; omega
    have e4 : Nat.ble (0 + k) 0 = false := by
      rw [Bool.eq_false_iff]; intro hh; have : 0 + k ≤ 0 := by simpa using hh
      omega
    have e5 : readAt h o 0 (0 * esz) = some [] := by rw [Nat.zero_mul, readAt_get h4 (by simp)]; rfl
    simp only [h4, e3, e4, e5, cond_false, Option.bind_some] at e1
    unfold appNew at e1
    obtain ⟨_, e1⟩ := cond_some e1
    injection e1 with e1
    injection e1 with e1 _
    injection e1 with e1 _
    exact e1.symm
/-! ### steps -/
theorem Know.rd (S : Know h0 g L) (i : Nat) {b : Nat} {c : List Value} {e : TypeId} {m : Md} (hi : L[i]? = some (ob b (.cells c e m))) {off n : Nat} {r : List Value} (hr : (c.drop off).take n = r) (hl : Nat.ble (off + n) c.length = true) : readAt g b off n = some r := by
  rw [readAt_get (S.obj i hi) (Nat.le_of_ble_eq_true hl), hr]
theorem Know.gdf (S : Know h0 g L) {b : Nat} (hb : h0.nx ≤ b) : g.guarded b = false := S.gl.free hb
theorem Know.cw (S : Know h0 g L) (i : Nat) {b : Nat} {c : List Value} {e : TypeId} {m : Md} (hi : L[i]? = some (ob b (.cells c e m))) {off : Nat} {vs : List Value} (hm : m ≠ .ro) (hl : Nat.ble (off + vs.length) c.length = true) (h1 : vs.all one = true) : canW g b off vs = true := canW_t (S.obj i hi) hm (S.gdf (S.orng i hi).1) (Nat.le_of_ble_eq_true hl) h1
theorem Know.wr (S : Know h0 g L) (i : Nat) {b : Nat} {c : List Value} {e : TypeId} {m : Md} (hi : L[i]? = some (ob b (.cells c e m))) {off : Nat} {vs : List Value} (hm : m ≠ .ro) (hl : Nat.ble (off + vs.length) c.length = true) (h1 : vs.all one = true) : Know h0 (g.wr b off vs) (L.set i (ob b (.cells (putAt c off vs) e m))) :=
  S.upd i hi (Ch.wr g b off vs) (ob.loc _ _) (wr_get (S.obj i hi) hm (S.gdf (S.orng i hi).1) (Nat.le_of_ble_eq_true hl) h1) fun _ h => .inl h
theorem Know.lay (S : Know h0 g L) (i : Nat) {lo k : Nat} {used : List Nat} (hi : L[i]? = some (hole lo k used)) {q : Nat} (h1 : lo ≤ q) (h2 : q < lo + k) (h3 : q ∉ used) (x : Ob) : Know h0 (g.lay q x) (ob q x :: L.set i (hole lo k (q :: used))) := by
  have hq := S.rng i hi q ⟨h1, h2, h3⟩
  have ge : ∀ o, o ≠ q → (g.lay q x).get o = g.get o := fun o ho => by rw [get_lay, if_neg ho]
  have S1 : Know h0 (g.lay q x) (L.set i (hole lo k (q :: used))) := S.upd i hi (g' := g.lay q x) ⟨fun o _ ho => ge o (fun h => ho (h ▸ ⟨h1, h2, h3⟩)), Nat.le_refl _, rfl, fun f => f.lay hq.2 x⟩ (hole.loc _ _ _) (fun o a b c => (ge o (fun h => c (h ▸ List.mem_cons_self ..))).trans (S.get i hi o a b (fun h => c (List.mem_cons_of_mem _ h)))) fun b hb => .inl ⟨hb.1, hb.2.1, fun h => hb.2.2 (List.mem_cons_of_mem _ h)⟩
  refine ⟨S1.ok, S1.kp, fun r hr => ?_, List.pairwise_cons.2 ⟨fun r hr b hb hrb => ?_, S1.dis⟩, S.ok0⟩
  · rcases List.mem_cons.1 hr with rfl | hr
    · exact ⟨ob.loc _ _, by show (g.lay q x).get q = _; rw [get_lay, if_pos rfl], fun b hb => by cases hb; exact hq⟩
    · exact S1.at_ r hr
  · obtain rfl : b = q := hb
    obtain ⟨j, hj⟩ := List.mem_iff_getElem?.1 hr
    by_cases hij : i = j
    · subst hij
      rw [List.getElem?_set_self (List.getElem?_eq_some_iff.1 hi).1] at hj
      obtain rfl := Option.some.inj hj
      exact hrb.2.2 (List.mem_cons_self ..)
    · rw [List.getElem?_set_ne hij] at hj
      exact S.sep i j hi hj hij b ⟨h1, h2, h3⟩ hrb
theorem rst_eq {h h' : Hp} (e : h'.gd = h.gd) : h'.rst h = h' := by
  cases h'; unfold Hp.rst; cases e; rfl
/-- A list that has grown is an object. -/
theorem Know.accOb (S : Know h0 g L) (i : Nat) {lo : Nat} {e : TypeId} {esz : Nat} {a : Option Addr} {n c : Nat} {xs : List Value} (hi : L[i]? = some (acc lo e esz a n c xs)) (hx : xs ≠ []) : ∃ o, a = some ⟨o, 0, none⟩ ∧ c = unk ∧ n * esz = xs.length ∧ lo ≤ o ∧ Know h0 g (L.set i (ob o (.cells xs e .grow))) := by
  have A : AccE g lo e esz a n c xs := S.get i hi
  rcases A with (⟨_, _, _, h⟩ | ⟨o, rfl, h2, h3, h4, h5, h6⟩) | ⟨h, _⟩
  · exact absurd h hx
  · exact ⟨o, rfl, h2, h3, h4, S.upd i hi (Ch.refl _ g) (ob.loc _ _) h6 fun q hq => .inl (by cases hq; rfl)⟩
  · exact absurd h hx
/-- A new, empty list that is to grow. -/
theorem Know.accNil (S : Know h0 g L) (lo : Nat) (e : TypeId) (esz : Nat) : Know h0 g (acc lo e esz none 0 0 [] :: L) :=
  S.push (Kp.refl _ g) (acc.loc _ _ _ _ _ _ _) (.inl (Acc.nil ..)) fun b hb => by cases hb
/-- A list grows. -/
theorem Know.appg (S : Know h0 g L) (i : Nat) {lo : Nat} {e : TypeId} {esz : Nat} {a : Option Addr} {n c : Nat} {xs : List Value} (hi : L[i]? = some (acc lo e esz a n c xs)) (hlo : h0.nx ≤ lo) (hlo2 : lo ≤ g.nx) {P : Program} {sT : TypeId} {bytes : Nat} (T : AppT P sT e esz bytes) {l : List Nat} (hl : ∀ q ∈ l, q < lo)
    {x : Value} {ys : List Value} {k : Nat} (hx : ∃ a n c, x = .slice a n c) (hs : srcCells g esz x = some (ys, k)) (hk : ys.length = k * esz) (h1 : ys.all one = true) (hB : (n + k + (n + k)) * bytes ≤ 281474976710656) (hU : n + k < big) :
    ∃ a' n' c' h', appendV P (g.grd l) sT sT (.slice a n c) x = some (.slice a' n' c', h') ∧ n' = n + k ∧ Know h0 (h'.rst g) (L.set i (acc lo e esz a' n' c' (xs ++ ys))) := by
  have A : AccE (g.grd l) lo e esz a n c xs := S.get i hi
  have G : GdLt (g.grd l) lo := fun q hq => by
    rcases List.mem_append.1 hq with h | h
    · exact hl q h
    · have := S.gl q h; omega
  obtain ⟨a', n', c', h', e1, A', en, k'⟩ := append_accE T (h := g.grd l) A hlo2 G hx hs hk h1 hB hU
  refine ⟨a', n', c', h', e1, en, S.upd i hi (r' := acc lo e esz a' n' c' (xs ++ ys)) (g' := h'.rst g) ⟨fun o ho hne => k'.get o ho hne, k'.nx, rfl, fun f => k'.fr f⟩ (acc.loc _ _ _ _ _ _ _) (A'.keep (fun _ _ _ => rfl) (Nat.le_refl _)) fun b hb => ?_⟩
  rcases Nat.eq_zero_or_pos k with rfl | hkp
  · left
    show a = some ⟨b, 0, none⟩
    rw [← hb]
    obtain ⟨_, info, z, hi', hzz, hrun⟩ := T.run
    rw [hrun _ _ x hx, show srcCells (g.grd l) esz x = some (ys, 0) from hs] at e1
    simp only [Option.bind_some, h1, cond_true, Nat.beq_refl] at e1
    unfold appNone at e1
    split at e1
    · injection e1 with e1; injection e1 with e1 _; injection e1
    · obtain ⟨_, e1⟩ := cond_some e1
      injection e1 with e1; injection e1 with e1 _; injection e1
    · cases e1
  · have := append_newE T A hx hs h1 hkp e1
    have hb : a' = some ⟨b, 0, none⟩ := hb
    rw [this] at hb; injection hb with hb; injection hb with hb
    have := (A'.lt (by rw [this])).2
    exact .inr ⟨Nat.le_of_eq hb, by rw [← hb]; exact this⟩
/-- The same where nothing else is under way. -/
theorem Know.app (S : Know h0 g L) (i : Nat) {lo : Nat} {e : TypeId} {esz : Nat} {a : Option Addr} {n c : Nat} {xs : List Value} (hi : L[i]? = some (acc lo e esz a n c xs)) (hlo : h0.nx ≤ lo) (hlo2 : lo ≤ g.nx) {P : Program} {sT : TypeId} {bytes : Nat} (T : AppT P sT e esz bytes)
    {x : Value} {ys : List Value} {k : Nat} (hx : ∃ a n c, x = .slice a n c) (hs : srcCells g esz x = some (ys, k)) (hk : ys.length = k * esz) (h1 : ys.all one = true) (hB : (n + k + (n + k)) * bytes ≤ 281474976710656) (hU : n + k < big) :
    ∃ a' n' c' h', appendV P g sT sT (.slice a n c) x = some (.slice a' n' c', h') ∧ n' = n + k ∧ Know h0 h' (L.set i (acc lo e esz a' n' c' (xs ++ ys))) := by
  have A : AccE g lo e esz a n c xs := S.get i hi
  obtain ⟨a', n', c', h', e1, en, S'⟩ := S.appg (l := []) i hi hlo hlo2 T (fun _ h => by cases h) hx hs hk h1 hB hU
  obtain ⟨a2, n2, c2, h2, e2, _, _, k'⟩ := append_accE T A hlo2 (fun q hq => by have := S.gl q hq; omega) hx hs hk h1 hB hU
  have e1' : appendV P g sT sT (.slice a n c) x = some (.slice a' n' c', h') := e1
  rw [e1'] at e2
  have : h' = h2 := by injection e2 with e2; injection e2
  subst this
  rw [rst_eq k'.gd] at S'
  exact ⟨a', n', c', h', e1', en, S'⟩
end
end Go.Ev
/- slices.Insert of one whole number, among what is owned. -/
namespace Go.Ev
open Go
/-- A number among others. -/
def insAt {α : Type} (i : Nat) (x : α) (l : List α) : List α := l.take i ++ x :: l.drop i
theorem insAt_perm {α : Type} (i : Nat) (x : α) (l : List α) : (insAt i x l).Perm (x :: l) := by
  have h : (insAt i x l).Perm (x :: (l.take i ++ l.drop i)) := List.perm_middle
  rwa [List.take_append_drop] at h
theorem insAt_length {α : Type} (i : Nat) (x : α) (l : List α) : (insAt i x l).length = l.length + 1 := (insAt_perm i x l).length_eq
theorem putAt_ins {α : Type} : ∀ (xs : List α) (i : Nat) (x : α), i ≤ xs.length → putAt (xs ++ [x]) i (x :: xs.drop i) = insAt i x xs := by
  intro xs i x hi
  unfold insAt
  refine List.ext_getElem? fun j => ?_
  rw [putAt_get _ _ _ (by simp; omega)]
  simp only [List.length_cons, List.length_drop]
  by_cases h1 : j < i
  · rw [if_neg (by omega), List.getElem?_append_left (by omega), List.getElem?_append_left (by rw [List.length_take]; omega), List.getElem?_take, if_pos h1]
  · by_cases h2 : j < xs.length + 1
    · rw [if_pos (by omega), List.getElem?_append_right (by rw [List.length_take]; omega), List.length_take, Nat.min_eq_left hi]
    · rw [if_neg (by omega), List.getElem?_eq_none (by simp; omega), List.getElem?_eq_none (by simp; omega)]
theorem wr_of {h : Hp} {b off : Nat} {vs : List Value} (hc : canW h b off vs = true) : writeAt h b off vs = some (h.wr b off vs) := by
  unfold canW at hc
  unfold Hp.wr
  cases hw : writeAt h b off vs with
  | none => rw [hw] at hc; cases hc
  | some h' => rfl
section
variable {h0 g : Hp} {L : List Rs}
/-- What slices.Insert makes of a list that grows. -/
theorem Know.ins (S : Know h0 g L) (i j : Nat) {lo : Nat} {a : Option Addr} {n c : Nat} {xs : List Value} {v : Nat} {x : Value} (hi : L[i]? = some (acc lo 3 1 a n c xs)) (hj : L[j]? = some (ob v (.cells [x] 3 .fix))) (hij : i ≠ j) (hac : a = none ∨ c = unk) (hlo : h0.nx ≤ lo) (hlo2 : lo ≤ g.nx)
    {P : Program} {sT : TypeId} (T : AppT P sT 3 1 8) {p : Nat} (hp : p ≤ n) (hfl : flat x = true) (h1 : xs.all one = true) (hx1 : one x = true) (hB : n ≤ 1000000) :
    ∃ a' h', insV g [.slice a n c, .int .i64 (Int.ofNat p), .slice (some ⟨v, 0, none⟩) 1 1] = some (.slice a' (n + 1) unk, h') ∧ Know h0 h' (L.set i (acc lo 3 1 a' (n + 1) unk (insAt p x xs))) := by
  have hu : unk = 18446744073709551616 := rfl
  have hbg : big = 4611686018427387904 := rfl
  have hv : g.get v = some (.cells [x] 3 .fix) := S.obj j hj
  have hil : i < L.length := S.len hi
  have A : AccE g lo 3 1 a n c xs := S.get i hi
  have hlen : n = xs.length := by
    rcases A with (⟨_, h2, _, h4⟩ | ⟨o, _, _, h4, _⟩) | ⟨h2, h3, _⟩
    · rw [h2, h4]; rfl
    · rw [Nat.mul_one] at h4; exact h4
    · rw [h2, h3]; rfl
  have hs : srcCells g 1 (.slice (some ⟨v, 0, none⟩) 1 1) = some ([x], 1) := by
    show (readAt g v 0 (1 * 1)).map _ = _
    rw [readAt_get hv (by simp)]
    rfl
  obtain ⟨a', n', c', h1', e1, en, S1⟩ := S.app i hi hlo hlo2 T (x := .slice (some ⟨v, 0, none⟩) 1 1) (ys := [x]) (k := 1) ⟨_, _, _, rfl⟩ hs rfl (by rw [List.all_cons, hx1]; rfl) (by omega) (by omega)
  have ea := append_newE T A ⟨_, _, _, rfl⟩ hs (by rw [List.all_cons, hx1]; rfl) Nat.one_pos e1
  obtain ⟨_, info, z, hi', hzz, hrun⟩ := T.run
  rw [hrun g _ _ ⟨_, _, _, rfl⟩, hs] at e1
  have hok := T.ok
  rw [hi'] at hok
  simp only [hzz, Bool.and_eq_true] at hok
  have hbeq : Nat.beq 1 0 = false := rfl
  simp only [Option.bind_some, List.all_cons, hx1, List.all_nil, Bool.and_true, cond_true, hbeq, cond_false] at e1
  subst ea en
  have hi1 : (L.set i (acc lo 3 1 (some ⟨g.nx, 0, none⟩) (n + 1) c' (xs ++ [x])))[i]? = some (acc lo 3 1 (some ⟨g.nx, 0, none⟩) (n + 1) c' (xs ++ [x])) := by rw [List.getElem?_set_self hil]
  obtain ⟨o, ho, hc, _, hlo', S2⟩ := S1.accOb i hi1 (by simp)
  injection ho with ho
  injection ho with ho
  subst ho
  subst hc
  rw [List.set_set] at S2
  have hi2 : (L.set i (ob g.nx (.cells (xs ++ [x]) 3 .grow)))[i]? = some (ob g.nx (.cells (xs ++ [x]) 3 .grow)) := by rw [List.getElem?_set_self hil]
  have hone : (x :: xs.drop p).all one = true := by
    rw [List.all_cons, hx1, Bool.true_and]
    exact List.all_eq_true.2 fun y hy => List.all_eq_true.1 h1 y (List.mem_of_mem_drop hy)
  have hble : Nat.ble (p + (x :: xs.drop p).length) (xs ++ [x]).length = true := ble_t (by rw [List.length_cons, List.length_drop, List.length_append]; simp; omega)
  have cw := S2.cw i hi2 (off := p) (vs := x :: xs.drop p) (by decide) hble hone
  have S3 := S2.wr i hi2 (off := p) (vs := x :: xs.drop p) (by decide) hble hone
  rw [List.set_set, putAt_ins xs p x (by omega)] at S3
  have hw := wr_of cw
  have hi3 : (L.set i (ob g.nx (.cells (insAt p x xs) 3 .grow)))[i]? = some (ob g.nx (.cells (insAt p x xs) 3 .grow)) := by rw [List.getElem?_set_self hil]
  have S4 := S3.upd i hi3 (r' := acc lo 3 1 (some ⟨g.nx, 0, none⟩) (n + 1) unk (insAt p x xs)) (Ch.refl _ _) (acc.loc _ _ _ _ _ _ _) (.inl (.inr ⟨g.nx, rfl, rfl, by rw [insAt_length]; omega, hlo', (S3.orng i hi3).2, S3.obj i hi3⟩)) fun q hq => .inl (by injection hq with hq; injection hq with hq; exact hq.symm)
  rw [List.set_set] at S4
  refine ⟨_, _, ?_, S4⟩
  have hap : appSome g 3 8 1 (.slice a n c) [x] 1 = some (.slice (some ⟨g.nx, 0, none⟩) (n + 1) unk, h1') := e1
  rcases A with (⟨rfl, rfl, rfl, rfl⟩ | ⟨o, rfl, rfl, h4, h5, h6, h7⟩) | ⟨_, _, h3, o, h4, _⟩
  · obtain rfl : p = 0 := by omega
    show (match g.get v with
      | some (.cells [x] 3 .fix) => bif flat x then (bif Nat.beq 0 0 then (appSome g 3 8 1 (.slice none 0 0) [x] 1).bind fun r => (writeAt r.2 g.nx 0 [x]).map fun h' => (r.1, h') else none) else none
      | _ => none) = _
    rw [hv]
    simp only [hfl, cond_true, Nat.beq_refl]
    rw [hap]
    show Option.map (fun h' => (Value.slice (some ⟨g.nx, 0, none⟩) (0 + 1) unk, h')) (writeAt h1' g.nx 0 (x :: List.drop 0 [])) = _
    rw [hw]; rfl
  · have hov : o ≠ v := fun hh => S.sep i j hi hj hij o rfl hh
    show (match g.get v with
      | some (.cells [x] 3 .fix) => bif flat x then (match g.get o with
        | some (.cells old 3 .grow) => bif Nat.beq unk unk && Nat.beq n old.length && Nat.ble p n && !(Nat.beq o v) then
            (appSome g 3 8 1 (.slice (some ⟨o, 0, none⟩) n unk) [x] 1).bind fun r => (writeAt r.2 g.nx p (x :: old.drop p)).map fun h' => (r.1, h')
          else none
        | _ => none) else none
      | _ => none) = _
    rw [hv]
    simp only [hfl, cond_true, h7]
    have c2 : Nat.beq n xs.length = true := by rw [hlen]; exact Nat.beq_refl _
    have c3 : Nat.ble p n = true := ble_t hp
    have c4 : Nat.beq o v = false := by rw [Bool.eq_false_iff]; intro hh; exact hov (Nat.eq_of_beq_eq_true hh)
    rw [Nat.beq_refl, c2, c3, c4]
    simp only [Bool.and_self, Bool.not_false, cond_true]
    rw [hap]
    show Option.map (fun h' => (Value.slice (some ⟨g.nx, 0, none⟩) (n + 1) unk, h')) (writeAt h1' g.nx p (x :: List.drop p xs)) = _
    rw [hw]; rfl
  · rcases hac with h | h
    · rw [h4] at h; cases h
    · rw [h3] at h; cases h
end
end Go.Ev
/- SatNames: plain law: variables with other numbers, and literals with the contrary sign. -/
namespace Go.Proofs.YtfgfhplgnfbaaaaDoor
open Go Go.Ev
/-! ### the renaming -/
/-- The numbers of the variables: each from one on, once. -/
structure Ren (N : Nat) (tn : List Nat) : Prop where
  perm : tn.Perm ((List.range N).map (· + 1))
section
variable {N : Nat} {tn : List Nat} (R : Ren N tn)
include R
theorem Ren.len : tn.length = N := by rw [R.perm.length_eq, List.length_map, List.length_range]
theorem Ren.nd : tn.Nodup := R.perm.nodup_iff.2 (by
  unfold List.Nodup
  rw [List.pairwise_map]
  exact List.nodup_range.imp fun h e => h (by omega))
theorem Ren.rng {v : Nat} (hv : v < N) : 1 ≤ tn.getD v 0 ∧ tn.getD v 0 ≤ N := by
  have hl := R.len
  have h : tn.getD v 0 ∈ tn := by rw [List.getD_eq_getElem?_getD, List.getElem?_eq_getElem (by omega)]; exact List.getElem_mem _
  obtain ⟨i, hi, e⟩ := List.mem_map.1 (R.perm.subset h)
  have := List.mem_range.1 hi
  omega
theorem Ren.inj {v w : Nat} (hv : v < N) (hw : w < N) (e : tn.getD v 0 = tn.getD w 0) : v = w := by
  have hl := R.len
  rw [List.getD_eq_getElem?_getD, List.getD_eq_getElem?_getD, List.getElem?_eq_getElem (by omega), List.getElem?_eq_getElem (by omega)] at e
  have e : tn[v]'(by omega) = tn[w]'(by omega) := e
  have nd := List.pairwise_iff_getElem.1 R.nd
  rcases Nat.lt_trichotomy v w with h | h | h
  · exact absurd e (nd v w (by omega) (by omega) h)
  · exact h
  · exact absurd e.symm (nd w v (by omega) (by omega) h)
end
end Go.Proofs.YtfgfhplgnfbaaaaDoor
/- What is so as long as some objects stay; lists of lists that grow: for this seat. -/
namespace Go.Ev
open Go
/-- What is so as long as some objects stay. -/
def clo (own : Nat → Prop) (F : Hp → Prop) : Rs := ⟨own, fun h => ∀ h' : Hp, h.nx ≤ h'.nx → (∀ b, own b → h'.get b = h.get b) → F h'⟩
theorem clo.loc (own : Nat → Prop) (F : Hp → Prop) : (clo own F).Loc := fun _ _ hn he hP h'' hn2 he2 => hP h'' (Nat.le_trans hn hn2) fun b hb => (he2 b hb).trans (he b hb)
theorem clo.get {own : Nat → Prop} {F : Hp → Prop} {h : Hp} (hP : (clo own F).P h) : F h := hP h (Nat.le_refl _) fun _ _ => rfl
end Go.Ev
/- Conditions of functions' code, printed by a program of ours. -/
namespace Go.Proofs.YtfgfhplgnfbaaaaDoor
open Go Go.Ev
set_option maxRecDepth 100000
set_option linter.unusedVariables false
/-! sward/swardlaw20.SatNames -/
end Go.Proofs.YtfgfhplgnfbaaaaDoor
/- Conditions of functions' code, printed by a program of ours. -/
namespace Go.Proofs.YtfgfhplgnfbaaaaDoor
open Go Go.Ev
set_option maxRecDepth 100000
set_option linter.unusedVariables false
/-! sward/swardlaw20.SatForced -/
end Go.Proofs.YtfgfhplgnfbaaaaDoor
/- SatForced of layer 20: the loops of its law. -/
namespace Go.Proofs.YtfgfhplgnfbaaaaDoor
open Go Go.Ev
section
variable {v0 : Array Value} {x1 x2 : Int} {N : Nat} (hN : 1 ≤ N ∧ N ≤ 8) {ms : List Nat} (hms : ∀ m ∈ ms, m < 9223372036854775808) (hml : ms.length < 1000000)
  {hB : Hp} (ok : hB.Ok) {b7 : Nat} (hb7 : b7 < hB.nx) {aF a9 : Option Addr} {nF cF n9 c9 : Nat} (g7 : hB.get b7 = some (.cells [.int .i64 (Int.ofNat N), .slice aF nF cF] 30 .fix)) (M : IntsAt hB a9 n9 (ms.map Int.ofNat))
include hN hms hml ok hb7 g7 M
end
end Go.Proofs.YtfgfhplgnfbaaaaDoor
/- SatForced of layer 20: each model holds. -/
namespace Go.Proofs.YtfgfhplgnfbaaaaDoor
open Go Go.Ev
section
variable {v0 : Array Value} {x1 x2 : Int} {N : Nat} (hN : 1 ≤ N ∧ N ≤ 8) {cls : List (List Int)} (hcl : cls.length ≤ 14) (hc : ∀ l ∈ cls, Cv (Int.ofNat N) l) {ms : List Nat} (hms : ∀ m ∈ ms, m < 9223372036854775808 ∧ ∀ l ∈ cls, l.any (isB m) = true) (hml : ms.length < 1000000)
  {hB : Hp} (ok : hB.Ok) (ht : Tb hB) {b7 : Nat} (hb7 : b7 < hB.nx) {aF a9 : Option Addr} {nF cF n9 c9 : Nat} (g7 : hB.get b7 = some (.cells [.int .i64 (Int.ofNat N), .slice aF nF cF] 30 .fix)) (F : IntssAt hB aF nF cls) (M : IntsAt hB a9 n9 (ms.map Int.ofNat))
  {a10 a14 : Option Addr} {n10 c10 n14 c14 : Nat} {xs : List Int} (X : IntsAt hB a10 n10 xs) (Y : IntsAt hB a14 n14 xs) (hxl : xs.length < 1000000)
include hN hcl hc hms hml ok ht hb7 g7 F M X Y hxl
end
end Go.Proofs.YtfgfhplgnfbaaaaDoor
/- SatForced of layer 20: its law, joined. -/
namespace Go.Proofs.YtfgfhplgnfbaaaaDoor
open Go Go.Ev
end Go.Proofs.YtfgfhplgnfbaaaaDoor
/- SatNames: contracts. -/
namespace Go.Proofs.YtfgfhplgnfbaaaaDoor
set_option maxRecDepth 100000
open Go Go.Ev
abbrev iv (xs : List Int) : List Value := xs.map (Value.int .i64)
theorem app32' : AppT Tryd.prog 32 3 1 8 := app32
end Go.Proofs.YtfgfhplgnfbaaaaDoor
/- SatNames: loops. -/
namespace Go.Proofs.YtfgfhplgnfbaaaaDoor
set_option maxRecDepth 100000
open Go Go.Ev
/-- A list that a call has made. -/
theorem Know.list {h0 g g' : Hp} {L : List Rs} (S : Know h0 g L) (k : Kp g.nx g g') {a : Option Addr} {n : Nat} {xs : List Int} (X : IntsAt g' a n xs) (hf : ∀ b off, a = some ⟨b, off, none⟩ → g.nx ≤ b) :
    Know h0 g' (clo (fun o => ∃ off, a = some ⟨o, off, none⟩) (fun h => IntsAt h a n xs) :: L) :=
  S.push (r' := clo (fun o => ∃ off, a = some ⟨o, off, none⟩) (fun h => IntsAt h a n xs)) k (clo.loc _ _) (fun h' hn he => ints_sub X (fun b off e _ => he b ⟨off, e⟩) hn) fun b hb => by
    obtain ⟨off, e⟩ := hb
    exact ⟨hf b off e, SlAt.lt X b off e⟩
end Go.Proofs.YtfgfhplgnfbaaaaDoor
/- SatNames: the clauses; errors. -/
namespace Go.Proofs.YtfgfhplgnfbaaaaDoor
set_option maxRecDepth 100000
open Go Go.Ev
end Go.Proofs.YtfgfhplgnfbaaaaDoor
/- SatNames: its law. -/
namespace Go.Proofs.YtfgfhplgnfbaaaaDoor
set_option maxRecDepth 100000
open Go Go.Ev
theorem rdp {h g : Hp} (f : Ft h g) {b : Nat} {c : List Value} {e : TypeId} {m : Md} (hb : b < h.nx) (hg : h.get b = some (.cells c e m)) {off n : Nat} {r : List Value} (hr : (c.drop off).take n = r) (hl : Nat.ble (off + n) c.length = true) : readAt g b off n = some r := by
  rw [readAt_get ((f.get b hb).trans hg) (Nat.le_of_ble_eq_true hl), hr]
end Go.Proofs.YtfgfhplgnfbaaaaDoor
/- Conditions of functions' code, printed by a program of ours. -/
namespace Go.Proofs.YtfgfhplgnfbaaaaDoor
open Go Go.Ev
set_option maxRecDepth 100000
set_option linter.unusedVariables false
/-! sward/swardlaw20.SatLearned -/
noncomputable def b13 : Code := (Tryd.f13.body).getD .skip
noncomputable def stk13_0 : List KI := [.code (sub [1, 1, 1, 0, 1, 0] b13), .blk 0, .code (sub [1, 1, 1, 1] b13)]
noncomputable def stk13_1 : List KI := [.code (sub [1, 1, 1, 1, 1, 1, 1, 1, 1, 0, 1, 0, 1, 1, 0, 1, 0] b13), .blk 2, .code (sub [1, 1, 1, 1, 1, 1, 1, 1, 1, 0, 1, 0, 1, 1, 1] b13), .code (sub [1, 1, 1, 1, 1, 1, 1, 1, 1, 1] b13)]
noncomputable def stk13_2 : List KI := [.code (sub [1, 1, 1, 1, 1, 1, 1, 1, 1, 1, 1, 0, 1, 0] b13), .blk 6, .code (sub [1, 1, 1, 1, 1, 1, 1, 1, 1, 1, 1, 1] b13)]
noncomputable def stk13_3 : List KI := [.code (sub [1, 1, 1, 1, 1, 1, 1, 1, 1, 0, 1, 0, 1, 1, 1, 0, 1, 0] b13), .blk 4, .code (sub [1, 1, 1, 1, 1, 1, 1, 1, 1, 0, 1, 0, 1, 1, 1, 1] b13), .code (sub [1, 1, 1, 1, 1, 1, 1, 1, 1, 1] b13)]
noncomputable def stk13_4 : List KI := [.code (sub [1, 1, 1, 1, 1, 1, 1, 1, 1, 1, 1, 1, 1, 0, 1, 0] b13), .blk 8, .code (sub [1, 1, 1, 1, 1, 1, 1, 1, 1, 1, 1, 1, 1, 1] b13)]
def lv13 : List (Nat × List Nat) := [(0, [4, 5, 6, 35, 36]), (2, [4, 5, 6, 10, 11, 15, 16, 19, 20, 22, 23]), (6, [4, 5, 6, 10, 180, 181]), (4, [4, 5, 6, 10, 11, 16, 22, 128, 129, 130]), (8, [4, 5, 6, 10, 27, 194, 195, 196])]
def I13_0 (O : CallF) (Q : Value → Hp → Prop) (v0 : Array Value) (x1_0 : Int) (x1_1 : Int) (x1_2 : Int) (x1_3 : Int) (x1_4 : Int) (x1_5 : Int) (b5 : Nat) (f5 : Nat) (b6 : Nat) (f6 : Nat) (x35_0 : Int) (x35_1 : Int) (x35_2 : Int) (x35_3 : Int) (x35_4 : Int) (x35_5 : Int) (x36 : Int) (h : Hp) : Prop := RKL Tryd.prog O Tryd.f13 stk13_0 231 [4, 5, 6, 35, 36] [(.bool false), (.pointer (some ⟨b5, f5, none⟩)), (.pointer (some ⟨b6, f6, none⟩)), (.agg #[(.int .i8 x35_0), (.int .i8 x35_1), (.int .i8 x35_2), (.int .i8 x35_3), (.int .i8 x35_4), (.int .i8 x35_5)]), (.int .i64 x36)] h Q
def I13_1 (O : CallF) (Q : Value → Hp → Prop) (v0 : Array Value) (x1_0 : Int) (x1_1 : Int) (x1_2 : Int) (x1_3 : Int) (x1_4 : Int) (x1_5 : Int) (b5 : Nat) (f5 : Nat) (b6 : Nat) (f6 : Nat) (b10 : Nat) (f10 : Nat) (x11 : Int) (a15 : Option Addr) (n15 : Nat) (c15 : Nat) (a16 : Option Addr) (n16 : Nat) (c16 : Nat) (x19 : Int) (x20 : Int) (a22 : Option Addr) (n22 : Nat) (c22 : Nat) (x23 : Int) (h : Hp) : Prop := RKL Tryd.prog O Tryd.f13 stk13_1 231 [4, 5, 6, 10, 11, 15, 16, 19, 20, 22, 23] [(.bool false), (.pointer (some ⟨b5, f5, none⟩)), (.pointer (some ⟨b6, f6, none⟩)), (.pointer (some ⟨b10, f10, none⟩)), (.int .i64 x11), (.slice a15 n15 c15), (.slice a16 n16 c16), (.int .i64 x19), (.int .i64 x20), (.slice a22 n22 c22), (.int .i64 x23)] h Q
def I13_2 (O : CallF) (Q : Value → Hp → Prop) (v0 : Array Value) (x1_0 : Int) (x1_1 : Int) (x1_2 : Int) (x1_3 : Int) (x1_4 : Int) (x1_5 : Int) (q4 : Bool) (b5 : Nat) (f5 : Nat) (b6 : Nat) (f6 : Nat) (b10 : Nat) (f10 : Nat) (x180 : Int) (x181 : Int) (h : Hp) : Prop := RKL Tryd.prog O Tryd.f13 stk13_2 231 [4, 5, 6, 10, 180, 181] [(.bool q4), (.pointer (some ⟨b5, f5, none⟩)), (.pointer (some ⟨b6, f6, none⟩)), (.pointer (some ⟨b10, f10, none⟩)), (.int .i64 x180), (.int .i64 x181)] h Q
def I13_3 (O : CallF) (Q : Value → Hp → Prop) (v0 : Array Value) (x1_0 : Int) (x1_1 : Int) (x1_2 : Int) (x1_3 : Int) (x1_4 : Int) (x1_5 : Int) (q4 : Bool) (b5 : Nat) (f5 : Nat) (b6 : Nat) (f6 : Nat) (b10 : Nat) (f10 : Nat) (x11 : Int) (a16 : Option Addr) (n16 : Nat) (c16 : Nat) (a22 : Option Addr) (n22 : Nat) (c22 : Nat) (a128 : Option Addr) (n128 : Nat) (c128 : Nat) (x129 : Int) (x130 : Int) (h : Hp) : Prop := RKL Tryd.prog O Tryd.f13 stk13_3 231 [4, 5, 6, 10, 11, 16, 22, 128, 129, 130] [(.bool q4), (.pointer (some ⟨b5, f5, none⟩)), (.pointer (some ⟨b6, f6, none⟩)), (.pointer (some ⟨b10, f10, none⟩)), (.int .i64 x11), (.slice a16 n16 c16), (.slice a22 n22 c22), (.slice a128 n128 c128), (.int .i64 x129), (.int .i64 x130)] h Q
def I13_4 (O : CallF) (Q : Value → Hp → Prop) (v0 : Array Value) (x1_0 : Int) (x1_1 : Int) (x1_2 : Int) (x1_3 : Int) (x1_4 : Int) (x1_5 : Int) (q4 : Bool) (b5 : Nat) (f5 : Nat) (b6 : Nat) (f6 : Nat) (b10 : Nat) (f10 : Nat) (x27 : Int) (a194 : Option Addr) (n194 : Nat) (c194 : Nat) (x195 : Int) (x196 : Int) (h : Hp) : Prop := RKL Tryd.prog O Tryd.f13 stk13_4 231 [4, 5, 6, 10, 27, 194, 195, 196] [(.bool q4), (.pointer (some ⟨b5, f5, none⟩)), (.pointer (some ⟨b6, f6, none⟩)), (.pointer (some ⟨b10, f10, none⟩)), (.int .i64 x27), (.slice a194 n194 c194), (.int .i64 x195), (.int .i64 x196)] h Q
def T13 (O : CallF) (Q : Value → Hp → Prop) (v0 : Array Value) (x1_0 : Int) (x1_1 : Int) (x1_2 : Int) (x1_3 : Int) (x1_4 : Int) (x1_5 : Int) (h : Hp) : Prop :=
  vreq (v0.toList.all one)
  (let g1 : Hp := h.add (.cells v0.toList 26 .fix)
  let g2 : Hp := g1.add (.cells [(.int .i8 x1_0), (.int .i8 x1_1), (.int .i8 x1_2), (.int .i8 x1_3), (.int .i8 x1_4), (.int .i8 x1_5)] 82 .fix)
  ∃ l3', readAt g2 h.nx 0 44 = some l3' ∧
  ∃ x4', ∃ a5' n6' c7', ∃ h8', EvC Tryd.prog O 16 [(.agg l3'.toArray), (.int .i64 7)] g2 (.agg #[(.int .i64 x4'), (.slice a5' n6' c7')]) h8' ∧
  let g9 : Hp := h8'.add (.cells [(.int .i64 0), (.slice none 0 0)] 30 .fix)
  vreq (canW g9 h8'.nx 0 [(.int .i64 x4'), (.slice a5' n6' c7')])
  (let g10 : Hp := g9.wr h8'.nx 0 [(.int .i64 x4'), (.slice a5' n6' c7')]
  let g11 : Hp := g10.add (.cells [(.slice none 0 0)] 32 .fix)
  ∃ x12', ∃ x13', ∃ x14', ∃ x15', ∃ x16', ∃ x17', readAt g11 g1.nx 0 6 = some [(.int .i8 x12'), (.int .i8 x13'), (.int .i8 x14'), (.int .i8 x15'), (.int .i8 x16'), (.int .i8 x17')] ∧
  I13_0 O Q v0 x1_0 x1_1 x1_2 x1_3 x1_4 x1_5 h8'.nx 0 g10.nx 0 x12' x13' x14' x15' x16' x17' 0 g11))
theorem rk13 {O Q} (v0 x1_0 x1_1 x1_2 x1_3 x1_4 x1_5) {h : Hp} (hO : O 13 [(.agg v0), (.agg #[(.int .i8 x1_0), (.int .i8 x1_1), (.int .i8 x1_2), (.int .i8 x1_3), (.int .i8 x1_4), (.int .i8 x1_5)])] h = none) (hh : T13 O Q v0 x1_0 x1_1 x1_2 x1_3 x1_4 x1_5 h) : Ret Tryd.prog O 13 [(.agg v0), (.agg #[(.int .i8 x1_0), (.int .i8 x1_1), (.int .i8 x1_2), (.int .i8 x1_3), (.int .i8 x1_4), (.int .i8 x1_5)])] h Q :=
  .of (c := b13) Tryd.func13 (by kernel_rfl) hO (V_ok (tb := lv13) (cuts := []) 500 (Eq.mp (by kernel_rfl) hh))
def T13_0 (O : CallF) (Q : Value → Hp → Prop) (v0 : Array Value) (x1_0 : Int) (x1_1 : Int) (x1_2 : Int) (x1_3 : Int) (x1_4 : Int) (x1_5 : Int) (b5 : Nat) (f5 : Nat) (b6 : Nat) (f6 : Nat) (x35_0 : Int) (x35_1 : Int) (x35_2 : Int) (x35_3 : Int) (x35_4 : Int) (x35_5 : Int) (x36 : Int) (h : Hp) : Prop :=
  vcond (ltI x36 6)
  (isNat x36 fun n101' =>
  vreq (Nat.blt n101' 6)
  (∃ x102', readAt h b5 (f5 + 0) 1 = some [(.int .i64 x102')] ∧
  ∃ x103', ∃ h104', EvC Tryd.prog O 21 [(.int .i8 (List.getD [x35_0, x35_1, x35_2, x35_3, x35_4, x35_5] n101' 0)), (.int .i64 x102')] h (.int .i64 x103') h104' ∧
  ∃ a105' n106' c107', readAt h104' b6 f6 1 = some [(.slice a105' n106' c107')] ∧
  ∃ q108', ∃ h109', EvC Tryd.prog O 62 [(.slice a105' n106' c107'), (.int .i64 x103')] h104' (.bool q108') h109' ∧
  vcond (!q108')
  (∃ a110' n111' c112', readAt h109' b6 f6 1 = some [(.slice a110' n111' c112')] ∧
  ∃ q113', ∃ h114', EvC Tryd.prog O 62 [(.slice a110' n111' c112'), (.int .i64 (wrapF .i64 (0 - x103')))] h109' (.bool q113') h114' ∧
  vcond (!q113')
  (∃ a115' n116' c117', readAt h114' b6 f6 1 = some [(.slice a115' n116' c117')] ∧
  let g118 : Hp := h114'.add (.cells [(.int .i64 x103')] 3 .fix)
  ∃ a119' n120' c121' h122', appendV Tryd.prog g118 32 32 (.slice a115' n116' c117') (.slice (some ⟨h114'.nx, 0, none⟩) 1 1) = some (.slice a119' n120' c121', h122') ∧
  vreq (canW h122' b6 f6 [(.slice a119' n120' c121')])
  (let g123 : Hp := h122'.wr b6 f6 [(.slice a119' n120' c121')]
  I13_0 O Q v0 x1_0 x1_1 x1_2 x1_3 x1_4 x1_5 b5 f5 b6 f6 x35_0 x35_1 x35_2 x35_3 x35_4 x35_5 (wrapF .i64 (x36 + 1)) g123))
  (I13_0 O Q v0 x1_0 x1_1 x1_2 x1_3 x1_4 x1_5 b5 f5 b6 f6 x35_0 x35_1 x35_2 x35_3 x35_4 x35_5 (wrapF .i64 (x36 + 1)) h114'))
  (I13_0 O Q v0 x1_0 x1_1 x1_2 x1_3 x1_4 x1_5 b5 f5 b6 f6 x35_0 x35_1 x35_2 x35_3 x35_4 x35_5 (wrapF .i64 (x36 + 1)) h109')))
  (∃ x124', ∃ a125' n126' c127', readAt h b5 f5 2 = some [(.int .i64 x124'), (.slice a125' n126' c127')] ∧
  ∃ a128' n129' c130', readAt h b6 f6 1 = some [(.slice a128' n129' c130')] ∧
  ∃ a131' n132' c133', ∃ x134', ∃ h135', EvC Tryd.prog O 36 [(.agg #[(.int .i64 x124'), (.slice a125' n126' c127')]), (.slice a128' n129' c130')] h (.tuple #[(.slice a131' n132' c133'), (.int .i64 x134')]) h135' ∧
  let g136 : Hp := h135'.add (.cells [(.slice none 0 0)] 32 .fix)
  vreq (canW g136 h135'.nx 0 [(.slice a131' n132' c133')])
  (let g137 : Hp := g136.wr h135'.nx 0 [(.slice a131' n132' c133')]
  ∃ a138' n139' c140', readAt g137 b5 (f5 + 1) 1 = some [(.slice a138' n139' c140')] ∧
  ∃ a141' n142' c143', readAt g137 b6 f6 1 = some [(.slice a141' n142' c143')] ∧
  ∃ x144', ∃ x145', ∃ q146', ∃ h147', EvC Tryd.prog O 63 [(.slice a138' n139' c140'), (.slice a141' n142' c143')] g137 (.tuple #[(.int .i64 x144'), (.int .i64 x145'), (.bool q146')]) h147' ∧
  ∃ a148' n149' c150', readAt h147' b6 f6 1 = some [(.slice a148' n149' c150')] ∧
  ∃ a151' n152' c153', ∃ h154', EvC Tryd.prog O 19 [(.slice a148' n149' c150')] h147' (.slice a151' n152' c153') h154' ∧
  ∃ x155', ∃ a156' n157' c158', readAt h154' b5 f5 2 = some [(.int .i64 x155'), (.slice a156' n157' c158')] ∧
  ∃ a159' n160' c161', ∃ q162', ∃ x163', ∃ h164', EvC Tryd.prog O 34 [(.agg #[(.int .i64 x155'), (.slice a156' n157' c158')]), (.slice a151' n152' c153')] h154' (.tuple #[(.slice a159' n160' c161'), (.bool q162'), (.int .i64 x163')]) h164' ∧
  vcond (!(eqI x163' 0))
  (Q (.bool false) h164')
  (vcond (!eqB q162' (!q146'))
  (Q (.bool false) h164')
  (vcond q146'
  (∃ a165' n166' c167', readAt h164' b5 (f5 + 1) 1 = some [(.slice a165' n166' c167')] ∧
  ∃ a168' n169' c170', readAt h164' b6 f6 1 = some [(.slice a168' n169' c170')] ∧
  ∃ x171', ∃ x172', ∃ q173', ∃ h174', EvC Tryd.prog O 63 [(.slice a165' n166' c167'), (.slice a168' n169' c170')] h164' (.tuple #[(.int .i64 x171'), (.int .i64 x172'), (.bool q173')]) h174' ∧
  I13_1 O Q v0 x1_0 x1_1 x1_2 x1_3 x1_4 x1_5 b5 f5 b6 f6 h135'.nx 0 x134' a151' n152' c153' a159' n160' c161' x171' x172' none 0 0 1 h174')
  (let g175 : Hp := h164'.rsv 26
  vcond (!(eqI x134' 0))
  (Q (.bool false) g175)
  (vcond (ltI 0 (Int.ofNat n160'))
  (Q (.bool false) g175)
  (∃ a176' n177' c178', readAt g175 h135'.nx 0 1 = some [(.slice a176' n177' c178')] ∧
  ∃ a179' n180' c181', readAt g175 h135'.nx 0 1 = some [(.slice a179' n180' c181')] ∧
  ∃ a182' n183' c184', ∃ h185', EvC Tryd.prog O 19 [(.slice a176' n177' c178')] (g175.grd [h135'.nx]) (.slice a182' n183' c184') h185' ∧
  let g186 : Hp := h185'.rst g175
  ∃ q187', ∃ h188', EvC Tryd.prog O 26 [(.slice a182' n183' c184'), (.slice a179' n180' c181')] (g186.grd []) (.bool q187') h188' ∧
  let g189 : Hp := h188'.rst g186
  vcond (!q187')
  (Q (.bool false) g189)
  (∃ a190' n191' c192', readAt g189 h135'.nx 0 1 = some [(.slice a190' n191' c192')] ∧
  ∃ q193', ∃ h194', EvC Tryd.prog O 64 [(.slice a190' n191' c192'), (.func (.func 67) #[] #[(.pointer (some ⟨b6, f6, none⟩))])] (g189.grd []) (.bool q193') h194' ∧
  let g195 : Hp := h194'.rst g189
  vcond q193'
  (Q (.bool false) g195)
  (∃ a196' n197' c198', readAt g195 b5 (f5 + 1) 1 = some [(.slice a196' n197' c198')] ∧
  ∃ a199' n200' c201', readAt g195 h135'.nx 0 1 = some [(.slice a199' n200' c201')] ∧
  ∃ q202', ∃ h203', EvC Tryd.prog O 57 [(.slice a196' n197' c198'), (.slice none 0 0), (.slice a199' n200' c201')] (g195.grd []) (.bool q202') h203' ∧
  let g204 : Hp := h203'.rst g195
  vcond (!q202')
  (Q (.bool false) g204)
  (∃ a205' n206' c207', readAt g204 h135'.nx 0 1 = some [(.slice a205' n206' c207')] ∧
  I13_2 O Q v0 x1_0 x1_1 x1_2 x1_3 x1_4 x1_5 false b5 f5 b6 f6 h135'.nx 0 (Int.ofNat n206') 0 g204))))))))))
theorem I13_0.of {O Q} (v0 x1_0 x1_1 x1_2 x1_3 x1_4 x1_5 b5 f5 b6 f6 x35_0 x35_1 x35_2 x35_3 x35_4 x35_5 x36) {h : Hp} (hh : T13_0 O Q v0 x1_0 x1_1 x1_2 x1_3 x1_4 x1_5 b5 f5 b6 f6 x35_0 x35_1 x35_2 x35_3 x35_4 x35_5 x36 h) : I13_0 O Q v0 x1_0 x1_1 x1_2 x1_3 x1_4 x1_5 b5 f5 b6 f6 x35_0 x35_1 x35_2 x35_3 x35_4 x35_5 x36 h :=
  RKL.of (tb := lv13) (cuts := []) 500 fun _ => Eq.mp (by kernel_rfl) hh
def T13_1 (O : CallF) (Q : Value → Hp → Prop) (v0 : Array Value) (x1_0 : Int) (x1_1 : Int) (x1_2 : Int) (x1_3 : Int) (x1_4 : Int) (x1_5 : Int) (b5 : Nat) (f5 : Nat) (b6 : Nat) (f6 : Nat) (b10 : Nat) (f10 : Nat) (x11 : Int) (a15 : Option Addr) (n15 : Nat) (c15 : Nat) (a16 : Option Addr) (n16 : Nat) (c16 : Nat) (x19 : Int) (x20 : Int) (a22 : Option Addr) (n22 : Nat) (c22 : Nat) (x23 : Int) (h : Hp) : Prop :=
  ∃ x201', readAt h b5 (f5 + 0) 1 = some [(.int .i64 x201')] ∧
  vcond (!(ltI x201' x23))
  (vreq (le0 x23)
  (vreq (inD 9223372036854775808 (shrF .i64 x19 (Int.toNat x23)))
  (vcond (eqI (landI (shrF .i64 x19 (Int.toNat x23)) 1) 1)
  (let g202 : Hp := h.add (.cells [(.int .i64 x23)] 3 .fix)
  ∃ a203' n204' c205' h206', appendV Tryd.prog g202 32 32 (.slice a22 n22 c22) (.slice (some ⟨h.nx, 0, none⟩) 1 1) = some (.slice a203' n204' c205', h206') ∧
  vreq (le0 x23)
  (vreq (inD 9223372036854775808 (shrF .i64 x20 (Int.toNat x23)))
  (vcond (eqI (landI (shrF .i64 x20 (Int.toNat x23)) 1) 1)
  (let g207 : Hp := h206'.add (.cells [(.int .i64 (wrapF .i64 (0 - x23)))] 3 .fix)
  ∃ a208' n209' c210' h211', appendV Tryd.prog g207 32 32 (.slice a203' n204' c205') (.slice (some ⟨h206'.nx, 0, none⟩) 1 1) = some (.slice a208' n209' c210', h211') ∧
  I13_1 O Q v0 x1_0 x1_1 x1_2 x1_3 x1_4 x1_5 b5 f5 b6 f6 b10 f10 x11 a15 n15 c15 a16 n16 c16 x19 x20 a208' n209' c210' (wrapF .i64 (x23 + 1)) h211')
  (I13_1 O Q v0 x1_0 x1_1 x1_2 x1_3 x1_4 x1_5 b5 f5 b6 f6 b10 f10 x11 a15 n15 c15 a16 n16 c16 x19 x20 a203' n204' c205' (wrapF .i64 (x23 + 1)) h206'))))
  (vreq (le0 x23)
  (vreq (inD 9223372036854775808 (shrF .i64 x20 (Int.toNat x23)))
  (vcond (eqI (landI (shrF .i64 x20 (Int.toNat x23)) 1) 1)
  (let g212 : Hp := h.add (.cells [(.int .i64 (wrapF .i64 (0 - x23)))] 3 .fix)
  ∃ a213' n214' c215' h216', appendV Tryd.prog g212 32 32 (.slice a22 n22 c22) (.slice (some ⟨h.nx, 0, none⟩) 1 1) = some (.slice a213' n214' c215', h216') ∧
  I13_1 O Q v0 x1_0 x1_1 x1_2 x1_3 x1_4 x1_5 b5 f5 b6 f6 b10 f10 x11 a15 n15 c15 a16 n16 c16 x19 x20 a213' n214' c215' (wrapF .i64 (x23 + 1)) h216')
  (I13_1 O Q v0 x1_0 x1_1 x1_2 x1_3 x1_4 x1_5 b5 f5 b6 f6 b10 f10 x11 a15 n15 c15 a16 n16 c16 x19 x20 a22 n22 c22 (wrapF .i64 (x23 + 1)) h)))))))
  (∃ x217', ∃ a218' n219' c220', readAt h b5 f5 2 = some [(.int .i64 x217'), (.slice a218' n219' c220')] ∧
  ∃ a221' n222' c223', readAt h b5 (f5 + 1) 1 = some [(.slice a221' n222' c223')] ∧
  ∃ a224' n225' c226', ∃ h227', EvC Tryd.prog O 54 [(.agg #[(.int .i64 x217'), (.slice a218' n219' c220')]), (.slice a221' n222' c223'), (.slice a15 n15 c15)] h (.slice a224' n225' c226') h227' ∧
  I13_3 O Q v0 x1_0 x1_1 x1_2 x1_3 x1_4 x1_5 false b5 f5 b6 f6 b10 f10 x11 a16 n16 c16 a22 n22 c22 a224' n225' c226' (Int.ofNat n225') 0 h227')
theorem I13_1.of {O Q} (v0 x1_0 x1_1 x1_2 x1_3 x1_4 x1_5 b5 f5 b6 f6 b10 f10 x11 a15 n15 c15 a16 n16 c16 x19 x20 a22 n22 c22 x23) {h : Hp} (hh : T13_1 O Q v0 x1_0 x1_1 x1_2 x1_3 x1_4 x1_5 b5 f5 b6 f6 b10 f10 x11 a15 n15 c15 a16 n16 c16 x19 x20 a22 n22 c22 x23 h) : I13_1 O Q v0 x1_0 x1_1 x1_2 x1_3 x1_4 x1_5 b5 f5 b6 f6 b10 f10 x11 a15 n15 c15 a16 n16 c16 x19 x20 a22 n22 c22 x23 h :=
  RKL.of (tb := lv13) (cuts := []) 500 fun _ => Eq.mp (by kernel_rfl) hh
def T13_2 (O : CallF) (Q : Value → Hp → Prop) (v0 : Array Value) (x1_0 : Int) (x1_1 : Int) (x1_2 : Int) (x1_3 : Int) (x1_4 : Int) (x1_5 : Int) (q4 : Bool) (b5 : Nat) (f5 : Nat) (b6 : Nat) (f6 : Nat) (b10 : Nat) (f10 : Nat) (x180 : Int) (x181 : Int) (h : Hp) : Prop :=
  vcond (ltI x181 x180)
  (let g301 : Hp := h.rsv 9
  ∃ a302' n303' c304', readAt g301 b5 (f5 + 1) 1 = some [(.slice a302' n303' c304')] ∧
  ∃ a305' n306' c307', readAt g301 b10 f10 1 = some [(.slice a305' n306' c307')] ∧
  ∃ a308' n309' c310', ∃ h311', EvC Tryd.prog O 60 [(.slice a305' n306' c307')] (g301.grd [b5]) (.slice a308' n309' c310') h311' ∧
  let g312 : Hp := h311'.rst g301
  ∃ a313' n314' c315', ∃ h316', EvC Tryd.prog O 59 [(.slice a308' n309' c310'), (.int .i64 x181), (.int .i64 (wrapF .i64 (x181 + 1)))] (g312.grd [b5]) (.slice a313' n314' c315') h316' ∧
  let g317 : Hp := h316'.rst g312
  ∃ q318', ∃ h319', EvC Tryd.prog O 57 [(.slice a302' n303' c304'), (.slice none 0 0), (.slice a313' n314' c315')] (g317.grd []) (.bool q318') h319' ∧
  let g320 : Hp := h319'.rst g317
  vcond q318'
  (Q (.bool false) g320)
  (I13_2 O Q v0 x1_0 x1_1 x1_2 x1_3 x1_4 x1_5 q4 b5 f5 b6 f6 b10 f10 x180 (wrapF .i64 (x181 + 1)) g320))
  (∃ a321' n322' c323', readAt h b6 f6 1 = some [(.slice a321' n322' c323')] ∧
  I13_4 O Q v0 x1_0 x1_1 x1_2 x1_3 x1_4 x1_5 q4 b5 f5 b6 f6 b10 f10 (-1) a321' n322' c323' (Int.ofNat n322') 0 h)
theorem I13_2.of {O Q} (v0 x1_0 x1_1 x1_2 x1_3 x1_4 x1_5 q4 b5 f5 b6 f6 b10 f10 x180 x181) {h : Hp} (hh : T13_2 O Q v0 x1_0 x1_1 x1_2 x1_3 x1_4 x1_5 q4 b5 f5 b6 f6 b10 f10 x180 x181 h) : I13_2 O Q v0 x1_0 x1_1 x1_2 x1_3 x1_4 x1_5 q4 b5 f5 b6 f6 b10 f10 x180 x181 h :=
  RKL.of (tb := lv13) (cuts := []) 500 fun _ => Eq.mp (by kernel_rfl) hh
def T13_3 (O : CallF) (Q : Value → Hp → Prop) (v0 : Array Value) (x1_0 : Int) (x1_1 : Int) (x1_2 : Int) (x1_3 : Int) (x1_4 : Int) (x1_5 : Int) (q4 : Bool) (b5 : Nat) (f5 : Nat) (b6 : Nat) (f6 : Nat) (b10 : Nat) (f10 : Nat) (x11 : Int) (a16 : Option Addr) (n16 : Nat) (c16 : Nat) (a22 : Option Addr) (n22 : Nat) (c22 : Nat) (a128 : Option Addr) (n128 : Nat) (c128 : Nat) (x129 : Int) (x130 : Int) (h : Hp) : Prop :=
  vcond (ltI x130 x129)
  (isNat x130 fun n401' =>
  isAddr a128 fun b402' f403' =>
  vreq (Nat.blt n401' n128)
  (∃ x404', readAt h b402' (f403' + (n401' * 1)) 1 = some [(.int .i64 x404')] ∧
  let g405 : Hp := h.add (.cells [(.int .i64 0)] 3 .fix)
  vreq (canW g405 h.nx 0 [(.int .i64 x404')])
  (let g406 : Hp := g405.wr h.nx 0 [(.int .i64 x404')]
  ∃ q407', ∃ h408', EvC Tryd.prog O 64 [(.slice a22 n22 c22), (.func (.func 65) #[] #[(.pointer (some ⟨h.nx, 0, none⟩))])] g406 (.bool q407') h408' ∧
  vcond q407'
  (Q (.bool false) h408')
  (I13_3 O Q v0 x1_0 x1_1 x1_2 x1_3 x1_4 x1_5 q4 b5 f5 b6 f6 b10 f10 x11 a16 n16 c16 a22 n22 c22 a128 n128 c128 x129 (wrapF .i64 (x130 + 1)) h408'))))
  (vcond (eqI x11 5)
  (∃ a409' n410' c411', readAt h b10 f10 1 = some [(.slice a409' n410' c411')] ∧
  vcond (eqI (Int.ofNat n410') 0)
  (∃ q412', ∃ h413', EvC Tryd.prog O 26 [(.slice a16 n16 c16), (.slice a22 n22 c22)] h (.bool q412') h413' ∧
  vcond q412'
  (∃ q414', ∃ h415', EvC Tryd.prog O 27 [] h413' (.bool q414') h415' ∧
  Q (.bool q414') h415')
  (Q (.bool false) h413'))
  (Q (.bool false) h))
  (Q (.bool false) h))
theorem I13_3.of {O Q} (v0 x1_0 x1_1 x1_2 x1_3 x1_4 x1_5 q4 b5 f5 b6 f6 b10 f10 x11 a16 n16 c16 a22 n22 c22 a128 n128 c128 x129 x130) {h : Hp} (hh : T13_3 O Q v0 x1_0 x1_1 x1_2 x1_3 x1_4 x1_5 q4 b5 f5 b6 f6 b10 f10 x11 a16 n16 c16 a22 n22 c22 a128 n128 c128 x129 x130 h) : I13_3 O Q v0 x1_0 x1_1 x1_2 x1_3 x1_4 x1_5 q4 b5 f5 b6 f6 b10 f10 x11 a16 n16 c16 a22 n22 c22 a128 n128 c128 x129 x130 h :=
  RKL.of (tb := lv13) (cuts := []) 500 fun _ => Eq.mp (by kernel_rfl) hh
def T13_4 (O : CallF) (Q : Value → Hp → Prop) (v0 : Array Value) (x1_0 : Int) (x1_1 : Int) (x1_2 : Int) (x1_3 : Int) (x1_4 : Int) (x1_5 : Int) (q4 : Bool) (b5 : Nat) (f5 : Nat) (b6 : Nat) (f6 : Nat) (b10 : Nat) (f10 : Nat) (x27 : Int) (a194 : Option Addr) (n194 : Nat) (c194 : Nat) (x195 : Int) (x196 : Int) (h : Hp) : Prop :=
  vcond (ltI x196 x195)
  (isNat x196 fun n501' =>
  isAddr a194 fun b502' f503' =>
  vreq (Nat.blt n501' n194)
  (∃ x504', readAt h b502' (f503' + (n501' * 1)) 1 = some [(.int .i64 x504')] ∧
  ∃ a505' n506' c507', readAt h b10 f10 1 = some [(.slice a505' n506' c507')] ∧
  ∃ q508', ∃ h509', EvC Tryd.prog O 62 [(.slice a505' n506' c507'), (.int .i64 (wrapF .i64 (0 - x504')))] h (.bool q508') h509' ∧
  vcond q508'
  (I13_4 O Q v0 x1_0 x1_1 x1_2 x1_3 x1_4 x1_5 q4 b5 f5 b6 f6 b10 f10 x196 a194 n194 c194 x195 (wrapF .i64 (x196 + 1)) h509')
  (I13_4 O Q v0 x1_0 x1_1 x1_2 x1_3 x1_4 x1_5 q4 b5 f5 b6 f6 b10 f10 x27 a194 n194 c194 x195 (wrapF .i64 (x196 + 1)) h509')))
  (vcond (!(ltI x27 0))
  (let g510 : Hp := h.rsv 13
  ∃ a511' n512' c513', readAt g510 b5 (f5 + 1) 1 = some [(.slice a511' n512' c513')] ∧
  ∃ a514' n515' c516', readAt g510 b6 f6 1 = some [(.slice a514' n515' c516')] ∧
  ∃ a517' n518' c519', sliceV Tryd.prog g510 32 (.slice a514' n515' c516') none (some (.int .i64 x27)) none = some (.slice a517' n518' c519') ∧
  ∃ x520', ∃ x521', ∃ q522', ∃ h523', EvC Tryd.prog O 63 [(.slice a511' n512' c513'), (.slice a517' n518' c519')] (g510.grd []) (.tuple #[(.int .i64 x520'), (.int .i64 x521'), (.bool q522')]) h523' ∧
  let g524 : Hp := h523'.rst g510
  vcond (!q522')
  (Q (.bool false) g524)
  (∃ x525', ∃ a526' n527' c528', readAt g524 b5 f5 2 = some [(.int .i64 x525'), (.slice a526' n527' c528')] ∧
  ∃ a529' n530' c531', readAt g524 b5 (f5 + 1) 1 = some [(.slice a529' n530' c531')] ∧
  ∃ a532' n533' c534', ∃ h535', EvC Tryd.prog O 54 [(.agg #[(.int .i64 x525'), (.slice a526' n527' c528')]), (.slice a529' n530' c531'), (.slice none 0 0)] g524 (.slice a532' n533' c534') h535' ∧
  ∃ q536', ∃ h537', EvC Tryd.prog O 64 [(.slice a532' n533' c534'), (.func (.func 68) #[] #[(.pointer (some ⟨b10, f10, none⟩))])] h535' (.bool q536') h537' ∧
  vcond (!q536')
  (∃ q538', ∃ h539', EvC Tryd.prog O 27 [] h537' (.bool q538') h539' ∧
  Q (.bool q538') h539')
  (Q (.bool false) h537')))
  (∃ x540', ∃ a541' n542' c543', readAt h b5 f5 2 = some [(.int .i64 x540'), (.slice a541' n542' c543')] ∧
  ∃ a544' n545' c546', readAt h b5 (f5 + 1) 1 = some [(.slice a544' n545' c546')] ∧
  ∃ a547' n548' c549', ∃ h550', EvC Tryd.prog O 54 [(.agg #[(.int .i64 x540'), (.slice a541' n542' c543')]), (.slice a544' n545' c546'), (.slice none 0 0)] h (.slice a547' n548' c549') h550' ∧
  ∃ q551', ∃ h552', EvC Tryd.prog O 64 [(.slice a547' n548' c549'), (.func (.func 68) #[] #[(.pointer (some ⟨b10, f10, none⟩))])] h550' (.bool q551') h552' ∧
  vcond (!q551')
  (∃ q553', ∃ h554', EvC Tryd.prog O 27 [] h552' (.bool q553') h554' ∧
  Q (.bool q553') h554')
  (Q (.bool false) h552')))
theorem I13_4.of {O Q} (v0 x1_0 x1_1 x1_2 x1_3 x1_4 x1_5 q4 b5 f5 b6 f6 b10 f10 x27 a194 n194 c194 x195 x196) {h : Hp} (hh : T13_4 O Q v0 x1_0 x1_1 x1_2 x1_3 x1_4 x1_5 q4 b5 f5 b6 f6 b10 f10 x27 a194 n194 c194 x195 x196 h) : I13_4 O Q v0 x1_0 x1_1 x1_2 x1_3 x1_4 x1_5 q4 b5 f5 b6 f6 b10 f10 x27 a194 n194 c194 x195 x196 h :=
  RKL.of (tb := lv13) (cuts := []) 500 fun _ => Eq.mp (by kernel_rfl) hh
end Go.Proofs.YtfgfhplgnfbaaaaDoor
/- SatLearned: its loops. -/
namespace Go.Proofs.YtfgfhplgnfbaaaaDoor
set_option maxRecDepth 100000
open Go Go.Ev
/-- A predicate of a function's value, which may take memory. -/
def FnK (O : CallF) (g : Nat) (fi ca : Array Value) (h : Hp) (φ : Int → Bool) (xs : List Int) : Prop := ∀ x ∈ xs, ∀ h', Kp h.nx h h' → Ret Tryd.prog O g (fi.toList ++ [.int .i64 x] ++ ca.toList) h' fun v h'' => v = .bool (φ x) ∧ Kp h'.nx h' h''
section
variable {O : CallF} (hO : Oth O)
include hO
theorem lp113k {a : Option Addr} {n c : Nat} {xs : List Int} {h₀ : Hp} (X : IntsAt h₀ a n xs) (hl : xs.length < 1000000) {g : Nat} {fi ca : Array Value} {φ : Int → Bool} (F : FnK O g fi ca h₀ φ xs) {x4 : Int} {g1 : Nat} {fi1 ca1 : Array Value} :
    ∀ (d k : Nat) {h : Hp}, k + d = xs.length → Kp h₀.nx h₀ h → I113_0 O (fun v h' => ∃ z, v = .int .i64 z ∧ ltI z 0 = (!((xs.drop k).any φ)) ∧ Kp h₀.nx h₀ h') a n c g1 fi1 ca1 g fi ca x4 (Int.ofNat k) h := by
  have _ := hO
  have hn := X.1
  intro d
  induction d with
  | zero =>
    intro k h hk K
    refine I113_0.of _ _ _ _ _ _ _ _ _ _ _ ?_
    unfold T113_0
    exact vcond_f (by rw [ltI_nat]; exact blt_f (by omega)) ⟨_, rfl, (by rw [List.drop_of_length_le (by omega)]; rfl), K⟩
  | succ d ih =>
    intro k h hk K
    refine I113_0.of _ _ _ _ _ _ _ _ _ _ _ ?_
    unfold T113_0
    have hkl : k < xs.length := by omega
    have f := K.ex (Nat.le_refl _)
    rw [List.drop_eq_getElem_cons hkl]
    refine vcond_t (by rw [ltI_nat]; exact blt_t (by omega)) (isNat_i (IntsAt.rd (g := h₀) (h := h) X hkl ?_))
    obtain ⟨v, h2, e, rfl, K2⟩ := F _ (List.getElem_mem hkl) h K
    have k2 := K.trans (K2.le K.nx)
    refine ⟨_, _, e, vcond_split (fun h1 => ?_) fun h1 => ?_⟩
    · exact ⟨_, rfl, by rw [List.any_cons, h1]; exact ltI_f (by simp only [Int.ofNat_eq_natCast]; omega), k2⟩
    · rw [wrap_succ (by omega)]
      refine RKL.mono (ih (k + 1) (by omega) k2) fun v h' ⟨z, e1, e2, e3⟩ => ⟨z, e1, by rw [List.any_cons, h1]; exact e2, e3⟩
theorem ct64k {a : Option Addr} {n c : Nat} {xs : List Int} {h : Hp} (X : IntsAt h a n xs) (hl : xs.length < 1000000) {g : Nat} {fi ca : Array Value} {φ : Int → Bool} (F : FnK O g fi ca h φ xs) : Ret Tryd.prog O 64 [.slice a n c, .func (.func g) fi ca] h fun v h' => v = .bool (xs.any φ) ∧ Kp h.nx h h' := by
  refine rk64 _ _ _ _ _ _ (hO _ _ _ (by decide)) ?_
  unfold T64
  have r : Ret Tryd.prog O 113 [.slice a n c, .func (.func g) fi ca] h fun v h' => ∃ z, v = .int .i64 z ∧ ltI z 0 = (!(xs.any φ)) ∧ Kp h.nx h h' := by
    refine rk113 _ _ _ _ _ _ (hO _ _ _ (by decide)) ?_
    unfold T113
    exact lp113k hO X hl F xs.length 0 (by omega) (.refl _ _)
  refine r.i fun z h' ⟨hz, e⟩ => ⟨?_, e⟩
  rw [hz, Bool.not_not]
theorem ct65 {m : Nat} (hm : m < 9223372036854775808) {x : Int} (hx : Lit x) {b f : Nat} {h : Hp} (hr : readAt h b f 1 = some [.int .i64 (Int.ofNat m)]) : EvT O 65 [.int .i64 x, .pointer (some ⟨b, f, none⟩)] h (.bool (!(isB m x))) h := by
  refine EvC.of_ret (rk65 _ _ _ (hO _ _ _ (by decide)) ?_)
  unfold T65
  exact ⟨_, hr, _, _, ct66 hO hm hx h, rfl, rfl⟩
theorem ct69 {m : Nat} (hm : m < 9223372036854775808) {x : Int} (hx : Lit x) {b f : Nat} {h : Hp} (hr : readAt h b f 1 = some [.int .i64 (Int.ofNat m)]) : EvT O 69 [.int .i64 x, .pointer (some ⟨b, f, none⟩)] h (.bool (isB m x)) h := by
  refine EvC.of_ret (rk69 _ _ _ (hO _ _ _ (by decide)) ?_)
  unfold T69
  exact ⟨_, hr, _, _, ct66 hO hm hx h, rfl, rfl⟩
omit hO in
theorem neg64 {x : Int} (hx : Lit x) : wrapF .i64 (0 - x) = -x := by have := hx.1; have := hx.2; rw [wrap64 (by omega) (by omega)]; omega
theorem ct67 {x : Int} (hx : Lit x) {b f : Nat} {h : Hp} {a : Option Addr} {n c : Nat} (hr : readAt h b f 1 = some [.slice a n c]) {d : List Int} (X : IntsAt h a n d) (hl : d.length < 1000000) : EvT O 67 [.int .i64 x, .pointer (some ⟨b, f, none⟩)] h (.bool (!(decide (-x ∈ d)))) h := by
  refine EvC.of_ret (rk67 _ _ _ (hO _ _ _ (by decide)) ?_)
  unfold T67
  rw [neg64 hx]
  exact ⟨_, _, _, hr, _, _, ct62 hO _ X hl, rfl, rfl⟩
theorem ct68 {m : Nat} (hm : m < 9223372036854775808) {b f : Nat} {h : Hp} (ok : h.Ok) (hb : b < h.nx) {a : Option Addr} {n c : Nat} (hr : readAt h b f 1 = some [.slice a n c]) {l : List Int} (X : IntsAt h a n l) (hl : l.length < 1000000) (hx : ∀ x ∈ l, Lit x) :
    Ret Tryd.prog O 68 [.int .i64 (Int.ofNat m), .pointer (some ⟨b, f, none⟩)] h fun v h' => v = .bool (!(l.any (isB m))) ∧ Kp h.nx h h' := by
  refine rk68 _ _ _ (hO _ _ _ (by decide)) ?_
  unfold T68
  intro g1
  have S : Know h g1 [_] := (Know.nil ok).add _
  have f := S.ft
  refine ⟨a, n, c, ?_, _, _, ct64 hO (X.to g1) hl (φ := isB m) (fun x h1 => ct69 hO hm (hx x h1) (S.rd 0 rfl rfl rfl)), rfl, S.kp⟩
  rw [← hr]
  exact readAt_kp S.kp hb _ _
variable {v0 : Array Value} {p0 p1 p2 p3 p4 p5 : Int}
theorem lp13_0 {hB : Hp} {b5 b6 : Nat} {N : Nat} (hN : 1 ≤ N ∧ N ≤ 7) {a5 : Option Addr} {n5 c5 : Nat} {e0 e1 e2 e3 e4 e5 : Int} (he : ∀ x ∈ [e0, e1, e2, e3, e4, e5], -128 ≤ x ∧ x < 128) {Q : Value → Hp → Prop}
    (next : ∀ h a n c, Know hB h [ob b6 (.cells [.slice a n c] 32 .fix), acc hB.nx 3 1 a n c (iv (firstF ([e0, e1, e2, e3, e4, e5].map (litP · (Int.ofNat N))) [])), ob b5 (.cells [.int .i64 (Int.ofNat N), .slice a5 n5 c5] 30 .fix)] →
      (firstF ([e0, e1, e2, e3, e4, e5].map (litP · (Int.ofNat N))) [] = [] → a = none) → I13_0 O Q v0 p0 p1 p2 p3 p4 p5 b5 0 b6 0 e0 e1 e2 e3 e4 e5 6 h) :
    ∀ (d k : Nat) (h : Hp) (a : Option Addr) (n c : Nat) (ac : List Int), k + d = 6 → ac.length ≤ k → (ac = [] → a = none) → firstF (([e0, e1, e2, e3, e4, e5].map (litP · (Int.ofNat N))).drop k) ac = firstF ([e0, e1, e2, e3, e4, e5].map (litP · (Int.ofNat N))) [] →
      Know hB h [ob b6 (.cells [.slice a n c] 32 .fix), acc hB.nx 3 1 a n c (iv ac), ob b5 (.cells [.int .i64 (Int.ofNat N), .slice a5 n5 c5] 30 .fix)] → I13_0 O Q v0 p0 p1 p2 p3 p4 p5 b5 0 b6 0 e0 e1 e2 e3 e4 e5 (Int.ofNat k) h := by
  intro d
  induction d with
  | zero =>
    intro k h a n c ac hk _ hz e S
    obtain rfl : k = 6 := by omega
    rw [List.drop_of_length_le (by simp)] at e
    have e : ac = _ := e
    subst e
    exact next h a n c S hz
  | succ d ih =>
    intro k h a n c ac hk hl hz e S
    refine I13_0.of (hh := ?_) ..
    unfold T13_0
    have hk6 : k < [e0, e1, e2, e3, e4, e5].length := by simp; omega
    rw [List.drop_eq_getElem_cons (by simpa using hk6), List.getElem_map] at e
    have ge : List.getD [e0, e1, e2, e3, e4, e5] k 0 = [e0, e1, e2, e3, e4, e5][k] := by rw [List.getD_eq_getElem?_getD, List.getElem?_eq_getElem hk6]; rfl
    have hr := he _ (List.getElem_mem hk6)
    refine vcond_t (by rw [show (6 : Int) = Int.ofNat 6 from rfl, ltI_nat]; exact blt_t (by omega)) (isNat_i (vreq_t (blt_t (by omega)) ⟨_, S.rd 2 rfl rfl rfl, ?_⟩))
    rw [ge]
    generalize [e0, e1, e2, e3, e4, e5][k] = x at hr e
    have hNi : (1 : Int) ≤ Int.ofNat N ∧ Int.ofNat N ≤ 30 := by simp only [Int.ofNat_eq_natCast]; omega
    obtain ⟨lx, _⟩ := litP_ok hr.1 hr.2 hNi.1 hNi.2
    refine ⟨_, _, ct21 hO hr.1 hr.2 hNi.1 hNi.2 _, ?_⟩
    generalize litP x (Int.ofNat N) = y at e lx
    have X : IntsAt h a n ac := AccE.ints (S.get 1 rfl)
    refine ⟨_, _, _, S.rd 0 rfl rfl rfl, _, _, ct62 hO _ X (by omega), ?_⟩
    rw [neg64 lx, wrap_succ (by omega)]
    simp only [firstF] at e
    refine vcond_split (fun h1 => ?_) fun h1 => ?_
    · have h1 : y ∉ ac := by simpa using h1
      refine ⟨_, _, _, S.rd 0 rfl rfl rfl, _, _, ct62 hO _ X (by omega), vcond_split (fun h2 => ?_) fun h2 => ?_⟩
      · have h2 : -y ∉ ac := by simpa using h2
        rw [if_neg (by simp [h1, h2])] at e
        refine ⟨_, _, _, S.rd 0 rfl rfl rfl, ?_⟩
        intro g118
        have S1 : Know hB g118 [ob h.nx (.cells [.int .i64 y] 3 .fix), ob b6 (.cells [.slice a n c] 32 .fix), acc hB.nx 3 1 a n c (iv ac), ob b5 (.cells [.int .i64 (Int.ofNat N), .slice a5 n5 c5] 30 .fix)] := S.add _
        have hn : n = ac.length := X.1
        obtain ⟨a', n', c', h', ea, en, S2⟩ := S1.app 2 rfl (Nat.le_refl _) S1.lo app32' (x := .slice (some ⟨h.nx, 0, none⟩) 1 1) (ys := [.int .i64 y]) (k := 1) ⟨_, _, _, rfl⟩ (src_get (n := 1) (c := 1) (esz := 1) (off := 0) (S1.rd 0 rfl rfl rfl)) rfl rfl (by omega) (by unfold big; omega)
        refine ⟨_, _, _, _, ea, ?_⟩
        have S2 : Know hB h' [ob h.nx (.cells [.int .i64 y] 3 .fix), ob b6 (.cells [.slice a n c] 32 .fix), acc hB.nx 3 1 a' n' c' (iv ac ++ [.int .i64 y]), ob b5 (.cells [.int .i64 (Int.ofNat N), .slice a5 n5 c5] 30 .fix)] := S2
        refine vreq_t (S2.cw 1 rfl (by decide) rfl rfl) ?_
        intro g123
        have S3 : Know hB g123 [ob h.nx (.cells [.int .i64 y] 3 .fix), ob b6 (.cells [.slice a' n' c'] 32 .fix), acc hB.nx 3 1 a' n' c' (iv ac ++ [.int .i64 y]), ob b5 (.cells [.int .i64 (Int.ofNat N), .slice a5 n5 c5] 30 .fix)] := S2.wr 1 rfl (by decide) rfl rfl
        refine ih (k + 1) g123 a' n' c' (ac ++ [y]) (by omega) (by simp; omega) (fun e => absurd e (by simp)) e ?_
        have e2 : iv (ac ++ [y]) = iv ac ++ [.int .i64 y] := List.map_append
        rw [e2]
        exact S3.sub _ (List.sublist_cons_self ..)
      · have h2 : -y ∈ ac := by simpa using h2
        rw [if_pos (.inr h2)] at e
        exact ih (k + 1) h a n c ac (by omega) (by omega) hz e S
    · have h1 : y ∈ ac := by simpa using h1
      rw [if_pos (.inl h1)] at e
      exact ih (k + 1) h a n c ac (by omega) (by omega) hz e S
omit hO in
/-- The wanted literals are laid in order. -/
theorem lp13_1 {hB : Hp} {b5 b6 b10 : Nat} {N : Nat} (hN : 1 ≤ N ∧ N ≤ 7) {a5 : Option Addr} {n5 c5 : Nat} (hb5 : b5 < hB.nx) (g5 : hB.get b5 = some (.cells [.int .i64 (Int.ofNat N), .slice a5 n5 c5] 30 .fix)) {x11 : Int} {a15 a16 : Option Addr} {n15 c15 n16 c16 y n : Nat} (hy : y < 2 ^ 31) (hn : n < 2 ^ 31) {Q : Value → Hp → Prop}
    (next : ∀ h a m c, Know hB h [acc hB.nx 3 1 a m c (iv (wantL y n N))] → I13_1 O Q v0 p0 p1 p2 p3 p4 p5 b5 0 b6 0 b10 0 x11 a15 n15 c15 a16 n16 c16 (Int.ofNat y) (Int.ofNat n) a m c (Int.ofNat (N + 1)) h) :
    ∀ (d k : Nat) (h : Hp) (a : Option Addr) (m c : Nat), k + d = N → Know hB h [acc hB.nx 3 1 a m c (iv (wantL y n k))] → I13_1 O Q v0 p0 p1 p2 p3 p4 p5 b5 0 b6 0 b10 0 x11 a15 n15 c15 a16 n16 c16 (Int.ofNat y) (Int.ofNat n) a m c (Int.ofNat (k + 1)) h := by
  intro d
  induction d with
  | zero =>
    intro k h a m c hk S
    obtain rfl : k = N := by omega
    exact next h a m c S
  | succ d ih =>
    intro k h a m c hk S
    refine I13_1.of (hh := ?_) ..
    unfold T13_1
    have tk : (Int.ofNat (k + 1)).toNat = k + 1 := rfl
    have hy2 : y / 2 ^ (k + 1) < 9223372036854775808 := Nat.lt_of_le_of_lt (Nat.div_le_self ..) (by omega)
    have hn2 : n / 2 ^ (k + 1) < 9223372036854775808 := Nat.lt_of_le_of_lt (Nat.div_le_self ..) (by omega)
    have eb : ∀ z : Nat, eqI (Int.ofNat (z.testBit (k + 1)).toNat) 1 = z.testBit (k + 1) := fun z => by cases z.testBit (k + 1) <;> rfl
    have ew : wrapF .i64 (0 - Int.ofNat (k + 1)) = -Int.ofNat (k + 1) := by rw [wrap64] <;> simp only [Int.ofNat_eq_natCast] <;> omega
    rw [tk, shr64 y (k := k + 1) (by omega), shr64 n (k := k + 1) (by omega), and_one, and_one, bit_eq, bit_eq, eb, eb, ew, wrap_succ (by omega)]
    refine ⟨_, rdp S.ft hb5 g5 rfl rfl, vcond_t (by rw [ltI_nat, blt_f (by omega)]; rfl) (vreq_t rfl (vreq_t (inD_of hy2) ?_))⟩
    have wl := wantL_len y n k
    have one : ∀ {h1 : Hp} {a1 : Option Addr} {m1 c1 : Nat} {ws : List Int} (z : Int), ws.length ≤ 60 → Know hB h1 [acc hB.nx 3 1 a1 m1 c1 (iv ws)] → ∃ a' m' c' h', appendV Tryd.prog (h1.add (.cells [.int .i64 z] 3 .fix)) 32 32 (.slice a1 m1 c1) (.slice (some ⟨h1.nx, 0, none⟩) 1 1) = some (.slice a' m' c', h') ∧ Know hB h' [acc hB.nx 3 1 a' m' c' (iv (ws ++ [z]))] := by
      intro h1 a1 m1 c1 ws z hw S
      have S1 : Know hB (h1.add (.cells [.int .i64 z] 3 .fix)) [ob h1.nx (.cells [.int .i64 z] 3 .fix), acc hB.nx 3 1 a1 m1 c1 (iv ws)] := S.add _
      have hm : m1 = ws.length := (AccE.ints (S.get 0 rfl)).1
      obtain ⟨a', m', c', h', ea, en, S2⟩ := S1.app 1 rfl (Nat.le_refl _) S1.lo app32' (x := .slice (some ⟨h1.nx, 0, none⟩) 1 1) (ys := [.int .i64 z]) (k := 1) ⟨_, _, _, rfl⟩ (src_get (n := 1) (c := 1) (esz := 1) (off := 0) (S1.rd 0 rfl rfl rfl)) rfl rfl (by omega) (by unfold big; omega)
      refine ⟨a', m', c', h', ea, ?_⟩
      have e2 : iv (ws ++ [z]) = iv ws ++ [.int .i64 z] := List.map_append
      rw [e2]
      exact Know.sub (L := [ob h1.nx (.cells [.int .i64 z] 3 .fix), acc hB.nx 3 1 a' m' c' (iv ws ++ [.int .i64 z])]) S2 _ (List.sublist_cons_self ..)
    have es := wantL_succ y n k
    have ih' := ih (k + 1)
    rw [es] at ih'
    refine vcond_split (fun h1 => ?_) fun h1 => ?_
    · rw [if_pos h1] at ih'
      intro g202
      obtain ⟨a', m', c', h', ea, S2⟩ := one (Int.ofNat (k + 1)) (by omega) S
      refine ⟨_, _, _, _, ea, vreq_t rfl (vreq_t (inD_of hn2) (vcond_split (fun h2 => ?_) fun h2 => ?_))⟩
      · rw [if_pos h2] at ih'
        intro g207
        obtain ⟨a3, m3, c3, h3, ea3, S3⟩ := one (-Int.ofNat (k + 1)) (by simp; omega) S2
        refine ⟨_, _, _, _, ea3, ih' _ _ _ _ (by omega) ?_⟩
        rw [List.append_assoc] at S3; exact S3
      · rw [if_neg (by rw [h2]; decide), List.append_nil] at ih'
        exact ih' _ _ _ _ (by omega) S2
    · rw [if_neg (by rw [h1]; decide), List.nil_append] at ih'
      refine vreq_t rfl (vreq_t (inD_of hn2) (vcond_split (fun h2 => ?_) fun h2 => ?_))
      · rw [if_pos h2] at ih'
        intro g212
        obtain ⟨a3, m3, c3, h3, ea3, S3⟩ := one (-Int.ofNat (k + 1)) (by omega) S
        exact ⟨_, _, _, _, ea3, ih' _ _ _ _ (by omega) S3⟩
      · rw [if_neg (by rw [h2]; decide), List.append_nil] at ih'
        exact ih' _ _ _ _ (by omega) S
/-- All models have them. -/
theorem lp13_3 {hB : Hp} (ok : hB.Ok) {b5 b6 b10 : Nat} {x11 : Int} {a16 a22 a128 : Option Addr} {n16 c16 n22 c22 n128 c128 : Nat} {w : List Int} (W : IntsAt hB a22 n22 w) (wl : w.length < 1000) (wx : ∀ x ∈ w, Lit x) {ms : List Nat} (M : IntsAt hB a128 n128 (ms.map Int.ofNat)) (ml : ms.length < 1000000) (hm : ∀ m ∈ ms, m < 9223372036854775808 ∧ ∀ x ∈ w, isB m x = true) {Q : Value → Hp → Prop}
    (next : ∀ h, Kp hB.nx hB h → I13_3 O Q v0 p0 p1 p2 p3 p4 p5 false b5 0 b6 0 b10 0 x11 a16 n16 c16 a22 n22 c22 a128 n128 c128 (Int.ofNat ms.length) (Int.ofNat ms.length) h) :
    ∀ (d k : Nat) (h : Hp), k + d = ms.length → Kp hB.nx hB h → I13_3 O Q v0 p0 p1 p2 p3 p4 p5 false b5 0 b6 0 b10 0 x11 a16 n16 c16 a22 n22 c22 a128 n128 c128 (Int.ofNat ms.length) (Int.ofNat k) h := by
  have hn := M.1
  rw [List.length_map] at hn
  intro d
  induction d with
  | zero =>
    intro k h hk K
    obtain rfl : k = ms.length := by omega
    exact next h K
  | succ d ih =>
    intro k h hk K
    refine I13_3.of (hh := ?_) ..
    unfold T13_3
    have hkl : k < ms.length := by omega
    have f := K.ex (Nat.le_refl _)
    have ek : (ms.map Int.ofNat)[k]'(by simpa using hkl) = Int.ofNat ms[k] := by simp
    obtain ⟨hm1, hm2⟩ := hm _ (List.getElem_mem hkl)
    refine vcond_t (by rw [ltI_nat]; exact blt_t (by omega)) (isNat_i (IntsAt.rd (g := hB) (h := h) M (by simpa using hkl) ?_))
    rw [ek]
    intro g405
    have S : Know h g405 [_] := (Know.nil (ok.kp K)).add _
    refine vreq_t (S.cw 0 rfl (by decide) rfl rfl) ?_
    intro g406
    have S : Know h g406 [ob h.nx (.cells [.int .i64 (Int.ofNat ms[k])] 3 .fix)] := S.wr 0 rfl (by decide) rfl rfl
    have fS := S.ft
    refine ⟨_, _, ct64 hO ((W.to h).to g406) (by omega) (φ := fun x => !(isB ms[k] x)) (fun x h1 => ct65 hO hm1 (wx x h1) (S.rd 0 rfl rfl rfl)), ?_⟩
    have e : (w.any fun x => !(isB ms[k] x)) = false := by
      rw [List.any_eq_false]
      intro x hx; rw [hm2 x hx]; decide
    rw [e, wrap_succ (by omega)]
    exact vcond_f rfl (ih (k + 1) g406 (by omega) (K.trans (S.kp.le K.nx)))
end
end Go.Proofs.YtfgfhplgnfbaaaaDoor
/- Conditions of functions' code, printed by a program of ours. -/
namespace Go.Proofs.YtfgfhplgnfbaaaaDoor
open Go Go.Ev
set_option maxRecDepth 100000
set_option linter.unusedVariables false
/-! sward/swardlaw20.SatSound -/
end Go.Proofs.YtfgfhplgnfbaaaaDoor
/- SatSound of layer 20: the law. -/
namespace Go.Proofs.YtfgfhplgnfbaaaaDoor
open Go Go.Ev
section
variable {vars many : Nat} {cl : List Int} (p : PuzOk vars many cl) {ls : List Int} (hls : ls.length = 18) (hlr : ∀ x ∈ ls, -128 ≤ x ∧ x < 128) {w : Nat} (hw : w < 256) {mo : Int} (hmo : -128 ≤ mo ∧ mo < 128) {N : Int} (hN : 1 ≤ N ∧ N ≤ 5) {cls : List (List Int)} (hcl : cls.length ≤ 14) (hcv : ∀ l ∈ cls, Cv N l ∧ l.length ≤ 3) {v0 v1 : Array Value}
  {hB : Hp} (ok : hB.Ok) (ht : Tb hB) {b9 : Nat} (hb9 : b9 < hB.nx) {aF : Option Addr} {nF cF : Nat} (gf : hB.get b9 = some (.cells [.int .i64 N, .slice aF nF cF] 30 .fix)) (F : IntssAt hB aF nF cls)
include hmo hN hcl hcv ok ht hb9 gf F
end
section
variable {ls : List Int} (hls : ls.length = 18) (hlr : ∀ x ∈ ls, -128 ≤ x ∧ x < 128) {w : Nat} (hw : w < 256) {mo : Int} (hmo : -128 ≤ mo ∧ mo < 128) {N : Int} (hN : 1 ≤ N ∧ N ≤ 5) {cls : List (List Int)} (hcl : cls.length ≤ 14) (hcv : ∀ l ∈ cls, Cv N l ∧ l.length ≤ 3) {v0 v1 : Array Value}
  {hB : Hp} (ok : hB.Ok) (ht : Tb hB) {b9 : Nat} (hb9 : b9 + 1 = hB.nx) {aF : Option Addr} {nF cF : Nat} (gf : hB.get b9 = some (.cells [.int .i64 N, .slice aF nF cF] 30 .fix)) (F : IntssAt hB aF nF cls)
  {bL : Nat} (hbL : bL < b9) (gl : hB.get bL = some (.cells (ls.map (Value.int .i8)) 73 .fix))
include hls hlr hw hmo hN hcl hcv ok ht hb9 gf F hbL gl
end
end Go.Proofs.YtfgfhplgnfbaaaaDoor
/- SatLearned: the loops behind a clash. -/
namespace Go.Proofs.YtfgfhplgnfbaaaaDoor
set_option maxRecDepth 100000
open Go Go.Ev
theorem Kp.rg {n : Nat} {g h' : Hp} {l : List Nat} (k : Kp n (g.grd l) h') : Kp n g (h'.rst g) := ⟨k.get, k.nx, rfl, fun f => k.fr f⟩
section
variable {O : CallF} (hO : Oth O) {v0 : Array Value} {p0 p1 p2 p3 p4 p5 : Int} {Q : Value → Hp → Prop}
  {hC : Hp} (ok : hC.Ok) {b5 b6 b10 : Nat} (hb5 : b5 < hC.nx) (hb6 : b6 < hC.nx) (hb10 : b10 < hC.nx) {N : Nat} (hN : 1 ≤ N ∧ N ≤ 7) {aF : Option Addr} {nF cF : Nat} (g5 : hC.get b5 = some (.cells [.int .i64 (Int.ofNat N), .slice aF nF cF] 30 .fix))
  {aL : Option Addr} {nL cL : Nat} (g10 : hC.get b10 = some (.cells [.slice aL nL cL] 32 .fix)) {a6 : Option Addr} {n6 c6 : Nat} (g6 : hC.get b6 = some (.cells [.slice a6 n6 c6] 32 .fix))
  {cls : List (List Int)} (F : IntssAt hC aF nF cls) (hcl : cls.length ≤ 20) (hc : ∀ l ∈ cls, Cv (Int.ofNat N) l ∧ l.length ≤ 3)
  {d nd l : List Int} {K : Nat} (L : Lrn cls d nd l K) (LI : IntsAt hC aL nL l) (ll : l.length ≤ 12) (hn : Nod d) (hdl : d.length ≤ 12) (hdx : ∀ x ∈ d, Lit x)
  {base : Nat} (A6 : AccI 3 hC base a6 n6 c6 d)
include hO ok hb5 hb10 g5 g10 F hcl hc L LI ll
theorem lp13_2 (hb6 : b6 < hC.nx) (g6 : hC.get b6 = some (.cells [.slice a6 n6 c6] 32 .fix)) (next : ∀ h, Kp hC.nx hC h → I13_4 O Q v0 p0 p1 p2 p3 p4 p5 false b5 0 b6 0 b10 0 (-1) a6 n6 c6 (Int.ofNat n6) 0 h) :
    ∀ (m k : Nat) (h : Hp), k + m = l.length → Kp hC.nx hC h → I13_2 O Q v0 p0 p1 p2 p3 p4 p5 false b5 0 b6 0 b10 0 (Int.ofNat l.length) (Int.ofNat k) h := by
  have hcg : Good cls := good_of fun l hl => (hc l hl).1
  intro m
  induction m with
  | zero =>
    intro k h hk kp
    refine I13_2.of (hh := ?_) ..
    unfold T13_2
    exact vcond_f (by rw [ltI_nat]; exact blt_f (by omega)) ⟨_, _, _, rdp (kp.ex (Nat.le_refl _)) hb6 g6 rfl rfl, next h kp⟩
  | succ m ih =>
    intro k h hk kp
    refine I13_2.of (hh := ?_) ..
    unfold T13_2
    have hkl : k < l.length := by omega
    refine vcond_t (by rw [ltI_nat]; exact blt_t (by omega)) ?_
    intro g301
    have k1 : Kp hC.nx hC g301 := kp.rsv _
    have f1 := k1.ex (Nat.le_refl _)
    have n1 := k1.nx
    refine ⟨_, _, _, rdp f1 hb5 g5 rfl rfl, _, _, _, rdp f1 hb10 g10 rfl rfl, ?_⟩
    have ok1 : (g301.grd [b5]).Ok := (ok.kp k1).grd fun q hq => by rw [List.mem_singleton.1 hq]; omega
    refine (ct60 hO ok1 ((LI.to g301).to (g301.grd [b5])) (by omega)).s fun a n c h311 ⟨Z, K2⟩ => ?_
    intro g312
    have K2' : Kp g301.nx g301 g312 := Kp.rg K2
    have k2 : Kp hC.nx hC g312 := k1.trans (K2'.le n1)
    have Z2 : AccE h311 g301.nx 3 1 a n c (iv l) := Z
    obtain ⟨o, rfl, rfl, hno, hlo, hhi, hob⟩ : ∃ o, a = some ⟨o, 0, none⟩ ∧ c = unk ∧ n = l.length ∧ g301.nx ≤ o ∧ o < h311.nx ∧ h311.get o = some (.cells (iv l) 3 .grow) := by
      rcases Z2 with (⟨_, _, _, e⟩ | ⟨o, e1, e2, e3, e4, e5, e6⟩) | ⟨e, _⟩
      · have e : l = [] := by simpa using e
        subst e; simp at hkl
      · exact ⟨o, e1, e2, by simpa using e3, e4, e5, e6⟩
      · have e : l = [] := by simpa using e
        subst e; simp at hkl
    subst hno
    have gu : (g312.grd [b5]).guarded o = false := guarded_of fun q hq => by
      have hq2 : q ∈ [b5] ++ g312.gd ∨ q ∈ g312.gd ++ [b5] := by first | exact .inl hq | exact .inr hq
      have := ok.gd
      have e : g312.gd = hC.gd := k2.gd
      have : q = b5 ∨ q ∈ hC.gd := by
        rw [e] at hq2
        rcases hq2 with h | h
        · rcases List.mem_append.1 h with h | h
          · exact .inl (List.mem_singleton.1 h)
          · exact .inr h
        · rcases List.mem_append.1 h with h | h
          · exact .inr h
          · exact .inl (List.mem_singleton.1 h)
      rcases this with h | h
      · omega
      · have := ok.gd q h; omega
    rw [wrap_succ (by omega)]
    obtain ⟨v3, h316, e3, rfl, X3, K3⟩ := ct59 hO (h := g312.grd [b5]) (o := o) (i := k) (xs := l) hob hhi gu hkl (by omega)
    refine ⟨_, _, _, _, e3, ?_⟩
    intro g317
    have K3' : Kp g301.nx g312 g317 := Kp.rg (K3 g301.nx hlo K2'.nx)
    have k3 : Kp hC.nx hC g317 := k2.trans (K3'.le n1)
    have f3 := k3.ex (Nat.le_refl _)
    have ok3 : (g317.grd []).Ok := (ok.kp k3).grd fun q hq => by cases hq
    have el : (l.eraseIdx k).length ≤ 12 := Nat.le_trans (List.length_eraseIdx_le ..) ll
    have ex : ∀ x ∈ l.eraseIdx k, Lit x := fun x hx => L.lit x (List.mem_of_mem_eraseIdx hx)
    refine (ct57 hO ok3 (gs := []) (l := l.eraseIdx k) ((F.to g317).to (g317.grd [])) (by omega) (fun l hl => by have := (hc l hl).2; omega) hcg (SlAt.nil ..) (by simp) (fun x hx => by cases hx) ((show IntsAt h316 (some ⟨o, 0, none⟩) (l.length - 1) (l.eraseIdx k) from X3).to (g317.grd [])) (by omega) ex).b fun q h319 ⟨hq, K4⟩ => ?_
    intro g320
    have K4' : Kp g317.nx g317 g320 := Kp.rg K4
    have hq : q = true ↔ Cl cls ((l.eraseIdx k).map fun x => -x) := by simpa using hq
    have : q = false := by
      cases q with
      | false => rfl
      | true => exact absurd (hq.1 rfl) (L.less hkl)
    subst this
    exact vcond_f rfl (ih (k + 1) g320 (by omega) (k3.trans (K4'.le k3.nx)))
include hN in
/-- All models make the learned clause true. -/
theorem tail13 (hw : ∀ {h : Hp}, Kp hC.nx hC h → EvT O 27 [] h (.bool true) h) {h : Hp} (kp : Kp hC.nx hC h) : ∃ x540' a541' n542' c543', readAt h b5 0 2 = some [(.int .i64 x540'), (.slice a541' n542' c543')] ∧
  ∃ a544' n545' c546', readAt h b5 (0 + 1) 1 = some [(.slice a544' n545' c546')] ∧
  ∃ a547' n548' c549', ∃ h550', EvC Tryd.prog O 54 [(.agg #[(.int .i64 x540'), (.slice a541' n542' c543')]), (.slice a544' n545' c546'), (.slice none 0 0)] h (.slice a547' n548' c549') h550' ∧
  ∃ q551', ∃ h552', EvC Tryd.prog O 64 [(.slice a547' n548' c549'), (.func (.func 68) #[] #[(.pointer (some ⟨b10, 0, none⟩))])] h550' (.bool q551') h552' ∧
  vcond (!q551')
  (∃ q553', ∃ h554', EvC Tryd.prog O 27 [] h552' (.bool q553') h554' ∧
  Yes (.bool q553') h554')
  (Yes (.bool false) h552') := by
  have hcg : Good cls := good_of fun l hl => (hc l hl).1
  have f := kp.ex (Nat.le_refl _)
  refine ⟨_, _, _, _, rdp f hb5 g5 rfl rfl, _, _, _, rdp f hb5 g5 rfl rfl, ?_⟩
  refine ret_ri (ct54 hO (ok.kp kp) (F.to h) (by omega) (fun l hl => by have := (hc l hl).2; omega) (fun l hl x hx => (((hc l hl).1.2 x hx)).1) (gs := []) (SlAt.nil ..) (by simp) (fun x hx => by cases hx) (N := N) (by omega)) fun a n c h1 M K1 _ => ?_
  have k1 := kp.trans (K1.le kp.nx)
  have f1 := k1.ex (Nat.le_refl _)
  have hmb : ∀ m ∈ modelsN N cls [], m < 9223372036854775808 ∧ ∀ c ∈ cls, c.any (isB m) = true := fun m hm => by
    obtain ⟨h1, h2⟩ := List.mem_filter.1 hm
    obtain ⟨k, _, rfl⟩ := List.mem_map.1 h1
    have := bitsF_lt N k N
    have : 2 ^ N ≤ 2 ^ 7 := Nat.pow_le_pow_right (by decide) hN.2
    refine ⟨by omega, ?_⟩
    unfold satM at h2
    rw [Bool.and_eq_true, List.all_eq_true, List.all_eq_true] at h2
    exact h2.2
  have hml : (modelsN N cls []).length < 1000000 := by
    have : (modelsN N cls []).length ≤ 2 ^ N := by unfold modelsN; exact Nat.le_trans (List.length_filter_le _ _) (by simp)
    have : 2 ^ N ≤ 2 ^ 7 := Nat.pow_le_pow_right (by decide) hN.2
    omega
  obtain ⟨v2, h2, e2, rfl, K2⟩ := ct64k hO M (by simpa using hml) (g := 68) (fi := #[]) (ca := #[.pointer (some ⟨b10, 0, none⟩)]) (φ := fun z => !(l.any (isB z.toNat))) (fun z hz h' k' => by
    obtain ⟨m, hm, rfl⟩ := List.mem_map.1 hz
    have kk := k1.trans (k'.le k1.nx)
    have ff := kk.ex (Nat.le_refl _)
    exact ct68 hO (hmb m hm).1 (ok.kp kk) (Nat.lt_of_lt_of_le hb10 kk.nx) (rdp ff hb10 g10 rfl rfl) (LI.to h') (by have := LI.1; omega) L.lit)
  refine ⟨_, _, e2, ?_⟩
  have e : (List.map Int.ofNat (modelsN N cls [])).any (fun z => !(l.any (isB z.toNat))) = false := by
    rw [List.any_eq_false]
    intro z hz
    obtain ⟨m, hm, rfl⟩ := List.mem_map.1 hz
    rw [show (Int.ofNat m).toNat = m from rfl, L.true hcg (hmb m hm).2]; decide
  rw [e]
  exact vcond_t rfl ⟨_, _, hw (k1.trans (K2.le k1.nx)), rfl⟩
include hdl hdx A6 hn hN in
theorem lp13_4 (hw : ∀ {h : Hp}, Kp hC.nx hC h → EvT O 27 [] h (.bool true) h) {h : Hp} (kp : Kp hC.nx hC h) (hb6 : b6 < hC.nx) (g6 : hC.get b6 = some (.cells [.slice a6 n6 c6] 32 .fix)) :
    ∀ (m k : Nat) (x : Int), k + m = d.length → (x < 0 ∨ ∃ (j : Nat) (hj : j < d.length), x = Int.ofNat j ∧ -d[j] ∈ l) → I13_4 O Yes v0 p0 p1 p2 p3 p4 p5 false b5 0 b6 0 b10 0 x a6 n6 c6 (Int.ofNat n6) (Int.ofNat k) h := by
  have hcg : Good cls := good_of fun l hl => (hc l hl).1
  have X6 := A6.ints
  have hn6 := X6.1
  have f := kp.ex (Nat.le_refl _)
  intro m
  induction m with
  | zero =>
    intro k x hk hx
    refine I13_4.of (hh := ?_) ..
    unfold T13_4
    refine vcond_f (by rw [ltI_nat]; exact blt_f (by omega)) (vcond_split (fun h1 => ?_) fun h1 => tail13 hO ok hb5 hb10 hN g5 g10 F hcl hc L LI ll hw kp)
    rcases hx with hx | ⟨j, hj, rfl, hjl⟩
    · rw [ltI_t hx] at h1; cases h1
    intro g510
    have k1 : Kp hC.nx hC g510 := kp.rsv _
    have f1 := k1.ex (Nat.le_refl _)
    refine ⟨_, _, _, rdp f1 hb5 g5 rfl rfl, _, _, _, rdp f1 hb6 g6 rfl rfl, ?_⟩
    obtain ⟨a7, c7, e7, X7⟩ := slice_grow (show AccI 3 g510 base a6 n6 c6 d from A6.to g510) (k := j) (by omega) (by omega) (by omega)
    refine ⟨_, _, _, e7, ?_⟩
    obtain ⟨v8, h8, e8, rfl, y, n, q, rfl, _, _, _, q2⟩ := ct63 hO (h := g510.grd []) (xs := d.take j) ((F.to g510).to (g510.grd [])) (by omega) (fun l hl => by have := (hc l hl).2; omega) hcg (X7.to (g510.grd [])) (by simp; omega) (fun x hx => hdx x (List.mem_of_mem_take hx))
    refine ⟨_, _, _, _, e8, ?_⟩
    intro g524
    have k2 : Kp hC.nx hC g524 := k1.trans (Kp.rg (.refl _ _))
    have : q = true := by
      cases q with
      | true => rfl
      | false => exact absurd (q2 rfl).2.2 (L.last hn hj hjl)
    subst this
    exact vcond_f rfl (tail13 hO ok hb5 hb10 hN g5 g10 F hcl hc L LI ll hw k2)
  | succ m ih =>
    intro k x hk hx
    refine I13_4.of (hh := ?_) ..
    unfold T13_4
    have hkl : k < d.length := by omega
    refine vcond_t (by rw [ltI_nat]; exact blt_t (by omega)) (isNat_i (IntsAt.rd (g := hC) (h := h) X6 hkl ?_))
    have hll := LI.1
    rw [neg64 (hdx _ (List.getElem_mem hkl)), wrap_succ (by omega)]
    refine ⟨_, _, _, rdp f hb10 g10 rfl rfl, _, _, ct62 hO _ (LI.to h) (by omega), vcond_split (fun h1 => ?_) fun h1 => ?_⟩
    · exact ih (k + 1) _ (by omega) (.inr ⟨k, hkl, rfl, by simpa using h1⟩)
    · exact ih (k + 1) _ (by omega) hx
end
end Go.Proofs.YtfgfhplgnfbaaaaDoor
/- SatLearned: its law. -/
namespace Go.Proofs.YtfgfhplgnfbaaaaDoor
set_option maxRecDepth 100000
open Go Go.Ev
theorem firstF_sub' {xs : List Int} : ∀ x ∈ firstF xs [], x ∈ xs := fun x hx => firstF_mem (P := fun x => x ∈ xs) (fun _ h => h) (fun _ h => by cases h) x hx
section
variable {v0 : Array Value} {p0 p1 p2 p3 p4 p5 : Int} {hG : Hp} (ok : hG.Ok) (ht : Tb hG) {b5 b6 b10 : Nat} (hb5 : b5 < hG.nx) (hb6 : b6 < hG.nx) (hb10 : b10 < hG.nx) {N : Nat} (hN : 1 ≤ N ∧ N ≤ 7) {aF : Option Addr} {nF cF : Nat} (g5 : hG.get b5 = some (.cells [.int .i64 (Int.ofNat N), .slice aF nF cF] 30 .fix))
  {aL : Option Addr} {nL cL : Nat} (g10 : hG.get b10 = some (.cells [.slice aL nL cL] 32 .fix)) {a6 : Option Addr} {n6 c6 : Nat} (g6 : hG.get b6 = some (.cells [.slice a6 n6 c6] 32 .fix))
  {cls : List (List Int)} (F : IntssAt hG aF nF cls) (hcl : cls.length ≤ 20) (hc : ∀ l ∈ cls, Cv (Int.ofNat N) l ∧ l.length ≤ 3)
  {d : List Int} (hn : Nod d) (hdl : d.length ≤ 12) (hdx : ∀ x ∈ d, Lit x ∧ (x.natAbs : Int) ≤ Int.ofNat N) {base : Nat} (A6 : AccI 3 hG base a6 n6 c6 d)
include ok ht hb5 hb10 hN g5 g10 F hcl hc hdx
/-- What stands behind the calm. -/
theorem calm13 (LI : IntsAt hG aL nL []) {a15 a16 : Option Addr} {n15 c15 n16 c16 : Nat} {gs us : List Int} (G : IntsAt hG a15 n15 gs) (hgl : gs.length ≤ 12) (hg : ∀ x, x ∈ gs ↔ x ∈ d) (U : IntsAt hG a16 n16 us)
    {y n : Nat} (hy : y < 2 ^ 31) (hn' : n < 2 ^ 31) (Dr : ∀ z, trP y n z → z ≠ 0 → Der cls d z) (hu : us = wantL y n N) {h : Hp} (kp : Kp hG.nx hG h) :
    I13_1 Ow Yes v0 p0 p1 p2 p3 p4 p5 b5 0 b6 0 b10 0 5 a15 n15 c15 a16 n16 c16 (Int.ofNat y) (Int.ofNat n) none 0 0 1 h := by
  have hO : Oth Ow := Ow_oth
  have hcv : ∀ l ∈ cls, Cv (Int.ofNat N) l := fun l hl => (hc l hl).1
  have okh := ok.kp kp
  have S0 : Know h h [acc h.nx 3 1 none 0 0 []] := (Know.nil okh).accNil h.nx 3 1
  have f0 := kp.ex (Nat.le_refl _)
  have g5h : h.get b5 = some (.cells [.int .i64 (Int.ofNat N), .slice aF nF cF] 30 .fix) := (f0.get _ hb5).trans g5
  refine lp13_1 hN (Nat.lt_of_lt_of_le hb5 kp.nx) g5h hy hn' (fun h1 a m c S => ?_) N 0 h none 0 0 (by omega) S0
  refine I13_1.of (hh := ?_) ..
  unfold T13_1
  have k1 : Kp hG.nx hG h1 := kp.trans (S.kp.le kp.nx)
  have f1 := k1.ex (Nat.le_refl _)
  refine ⟨_, rdp f1 hb5 g5 rfl rfl, vcond_f (by rw [ltI_nat, blt_t (by omega)]; rfl) ⟨_, _, _, _, rdp f1 hb5 g5 rfl rfl, _, _, _, rdp f1 hb5 g5 rfl rfl, ?_⟩⟩
  refine ret_ri (ct54 hO (ok.kp k1) (F.to h1) (by omega) (fun l hl => by have := (hc l hl).2; omega) (fun l hl x hx => (((hc l hl).1.2 x hx)).1) (G.to h1) (by omega) (fun x hx => (hdx x ((hg x).1 hx)).1) (N := N) (by omega)) fun a2 n2 c2 h2 M K2 _ => ?_
  have k2 : Kp hG.nx hG h2 := k1.trans (K2.le k1.nx)
  have W : IntsAt h1 a m (wantL y n N) := AccE.ints (S.get 0 rfl)
  have W2 : IntsAt h2 a m (wantL y n N) := W.up EInt.up K2
  have wl := wantL_len y n N
  have wx : ∀ x ∈ wantL y n N, Lit x := fun x hx => by
    obtain ⟨q1, q2, _⟩ := wantL_mem.1 hx
    exact (der_lit hcv hdx (Dr x q1 q2)).1
  obtain rfl : n2 = (modelsN N cls gs).length := by rw [M.1, List.length_map]
  have hml : (modelsN N cls gs).length < 1000000 := by
    have : (modelsN N cls gs).length ≤ 2 ^ N := by unfold modelsN; exact Nat.le_trans (List.length_filter_le _ _) (by simp)
    have : 2 ^ N ≤ 2 ^ 7 := Nat.pow_le_pow_right (by decide) hN.2
    omega
  have hmb : ∀ m ∈ modelsN N cls gs, m < 9223372036854775808 ∧ ∀ x ∈ wantL y n N, isB m x = true := fun m hm => by
    obtain ⟨h1, h2⟩ := List.mem_filter.1 hm
    obtain ⟨k, _, rfl⟩ := List.mem_map.1 h1
    have := bitsF_lt N k N
    have : 2 ^ N ≤ 2 ^ 7 := Nat.pow_le_pow_right (by decide) hN.2
    unfold satM at h2
    rw [Bool.and_eq_true, List.all_eq_true, List.all_eq_true] at h2
    exact ⟨by omega, fun x hx => want_true hcv hdx Dr h2.2 (fun x hx => h2.1 x ((hg x).2 hx)) hx⟩
  refine lp13_3 hO (ok.kp k2) W2 (by omega) wx M hml hmb (fun h3 K3 => ?_) _ 0 h2 (Nat.zero_add _) (.refl _ _)
  refine I13_3.of (hh := ?_) ..
  unfold T13_3
  have k3 : Kp hG.nx hG h3 := k2.trans (K3.le k2.nx)
  have f3 := k3.ex (Nat.le_refl _)
  have f23 := K3.ex (Nat.le_refl _)
  refine vcond_f (by rw [ltI_nat]; exact blt_f (Nat.lt_irrefl _)) (vcond_t rfl ⟨_, _, _, rdp f3 hb10 g10 rfl rfl, vcond_t (by rw [LI.1]; rfl) ?_⟩)
  subst hu
  refine (ct26 hO (U.to h3) (W2.to h3) (by omega)).b1 fun h4 K4 => ?_
  have k4 : Kp hG.nx hG h4 := k3.trans (K4.le k3.nx)
  exact vcond_t (by simp) ⟨_, _, works_true (ht.kp k4 ht.1), rfl⟩
include hb6 g6 hn hdl A6
/-- From the pushing on. -/
theorem mid13 {l : List Int} {x11 : Int} (hlf : learnF (clashN (cls.map sideN) []) d (d.length + 1) 0 = (l, x11)) (LI : IntsAt hG aL nL l) : ∃ x144', ∃ x145', ∃ q146', ∃ h147', EvC Tryd.prog Ow 63 [(.slice aF nF cF), (.slice a6 n6 c6)] hG (.tuple #[(.int .i64 x144'), (.int .i64 x145'), (.bool q146')]) h147' ∧
  ∃ a148' n149' c150', readAt h147' b6 0 1 = some [(.slice a148' n149' c150')] ∧
  ∃ a151' n152' c153', ∃ h154', EvC Tryd.prog Ow 19 [(.slice a148' n149' c150')] h147' (.slice a151' n152' c153') h154' ∧
  ∃ x155', ∃ a156' n157' c158', readAt h154' b5 0 2 = some [(.int .i64 x155'), (.slice a156' n157' c158')] ∧
  ∃ a159' n160' c161', ∃ q162', ∃ x163', ∃ h164', EvC Tryd.prog Ow 34 [(.agg #[(.int .i64 x155'), (.slice a156' n157' c158')]), (.slice a151' n152' c153')] h154' (.tuple #[(.slice a159' n160' c161'), (.bool q162'), (.int .i64 x163')]) h164' ∧
  vcond (!(eqI x163' 0))
  (Yes (.bool false) h164')
  (vcond (!eqB q162' (!q146'))
  (Yes (.bool false) h164')
  (vcond q146'
  (∃ a165' n166' c167', readAt h164' b5 (0 + 1) 1 = some [(.slice a165' n166' c167')] ∧
  ∃ a168' n169' c170', readAt h164' b6 0 1 = some [(.slice a168' n169' c170')] ∧
  ∃ x171', ∃ x172', ∃ q173', ∃ h174', EvC Tryd.prog Ow 63 [(.slice a165' n166' c167'), (.slice a168' n169' c170')] h164' (.tuple #[(.int .i64 x171'), (.int .i64 x172'), (.bool q173')]) h174' ∧
  I13_1 Ow Yes v0 p0 p1 p2 p3 p4 p5 b5 0 b6 0 b10 0 x11 a151' n152' c153' a159' n160' c161' x171' x172' none 0 0 1 h174')
  (let g175 : Hp := h164'.rsv 26
  vcond (!(eqI x11 0))
  (Yes (.bool false) g175)
  (vcond (ltI 0 (Int.ofNat n160'))
  (Yes (.bool false) g175)
  (∃ a176' n177' c178', readAt g175 b10 0 1 = some [(.slice a176' n177' c178')] ∧
  ∃ a179' n180' c181', readAt g175 b10 0 1 = some [(.slice a179' n180' c181')] ∧
  ∃ a182' n183' c184', ∃ h185', EvC Tryd.prog Ow 19 [(.slice a176' n177' c178')] (g175.grd [b10]) (.slice a182' n183' c184') h185' ∧
  let g186 : Hp := h185'.rst g175
  ∃ q187', ∃ h188', EvC Tryd.prog Ow 26 [(.slice a182' n183' c184'), (.slice a179' n180' c181')] (g186.grd []) (.bool q187') h188' ∧
  let g189 : Hp := h188'.rst g186
  vcond (!q187')
  (Yes (.bool false) g189)
  (∃ a190' n191' c192', readAt g189 b10 0 1 = some [(.slice a190' n191' c192')] ∧
  ∃ q193', ∃ h194', EvC Tryd.prog Ow 64 [(.slice a190' n191' c192'), (.func (.func 67) #[] #[(.pointer (some ⟨b6, 0, none⟩))])] (g189.grd []) (.bool q193') h194' ∧
  let g195 : Hp := h194'.rst g189
  vcond q193'
  (Yes (.bool false) g195)
  (∃ a196' n197' c198', readAt g195 b5 (0 + 1) 1 = some [(.slice a196' n197' c198')] ∧
  ∃ a199' n200' c201', readAt g195 b10 0 1 = some [(.slice a199' n200' c201')] ∧
  ∃ q202', ∃ h203', EvC Tryd.prog Ow 57 [(.slice a196' n197' c198'), (.slice none 0 0), (.slice a199' n200' c201')] (g195.grd []) (.bool q202') h203' ∧
  let g204 : Hp := h203'.rst g195
  vcond (!q202')
  (Yes (.bool false) g204)
  (∃ a205' n206' c207', readAt g204 b10 0 1 = some [(.slice a205' n206' c207')] ∧
  I13_2 Ow Yes v0 p0 p1 p2 p3 p4 p5 false b5 0 b6 0 b10 0 (Int.ofNat n206') 0 g204)))))))) := by
  have hO : Oth Ow := Ow_oth
  have hcv : ∀ l ∈ cls, Cv (Int.ofNat N) l := fun l hl => (hc l hl).1
  have hcg : Good cls := good_of hcv
  have dl : ∀ x ∈ d, Lit x := fun x hx => (hdx x hx).1
  have d0 : ∀ x ∈ d, x ≠ 0 := fun x hx => (dl x hx).1
  have X6 := A6.ints
  have cl3 : ∀ l ∈ cls, l.length < 1000000 := fun l hl => by have := (hc l hl).2; omega
  have clit : ∀ l ∈ cls, ∀ x ∈ l, Lit x := fun l hl x hx => (((hc l hl).1.2 x hx)).1
  have cmem : ∀ x, x ∈ clauseN d ↔ x ∈ d := fun x => by rw [clause_nod hn d0, isrt_mem']
  have ccv : Cv (Int.ofNat N) (clauseN d) := ⟨clauseN_dif _, fun x hx => hdx x ((cmem x).1 hx)⟩
  have clen : (clauseN d).length ≤ 12 := Nat.le_trans (clauseN_len _) hdl
  have hask : askB (Int.ofNat N) cls (clauseN d) = true := ask_of (by simp only [Int.ofNat_eq_natCast]; omega) (by simp only [Int.ofNat_eq_natCast]; omega) (by omega) hcv ccv
  obtain ⟨v1, h1, e1, eh, y, n, q, rfl, hy, hn', q1, q2⟩ := ct63 hO F (by omega) cl3 hcg X6 (by omega) dl (c0 := cF) (c1 := c6)
  rw [eh] at e1
  refine ⟨_, _, _, _, e1, _, _, _, read1 g6 (i := 0) rfl, ?_⟩
  refine (ct19 hO ok X6 hdl dl).s fun a2 n2 c2 h2 ⟨C2, K2, _, _⟩ => ?_
  have f2 := K2.ex (Nat.le_refl _)
  have lt := fromN_lt (sides_lt hO clit) (xs := clauseN d) fun x hx => dl x ((cmem x).1 hx)
  refine ⟨_, _, _, _, rdp f2 hb5 g5 rfl rfl, ?_⟩
  obtain ⟨v3, h3, e3, a3, n3, c3, rfl, U3, K3⟩ := ct34 hO (ok.kp K2) (ht.kp K2 ht.1) (F.to h2) (by omega) cl3 clit C2 (by omega) (fun x hx => dl x ((cmem x).1 hx)) hask lt (vars := Int.ofNat N) (c := cF) (c1 := c2)
  refine ⟨_, _, _, _, _, _, e3, vcond_f rfl ?_⟩
  have k3 : Kp hG.nx hG h3 := K2.trans (K3.le K2.nx)
  have f3 := k3.ex (Nat.le_refl _)
  have ci : (fromN (cls.map sideN) (clauseN d)).2 = true ↔ ¬ Cl cls d := by
    have e := calm_iff hcg (xs := clauseN d) fun x hx => dl x ((cmem x).1 hx)
    rw [e]
    exact ⟨fun h c => h (c.mono (fun _ h => h) fun x hx => (cmem x).2 hx), fun h c => h (c.mono (fun _ h => h) fun x hx => (cmem x).1 hx)⟩
  cases q with
  | true =>
    have nc : ¬ Cl cls d := (q1 rfl).1.not
    have e4 : (fromN (cls.map sideN) (clauseN d)).2 = true := ci.2 nc
    rw [e4] at U3 ⊢
    refine vcond_f (by decide) (vcond_t rfl ⟨_, _, _, rdp f3 hb5 g5 rfl rfl, _, _, _, rdp f3 hb6 g6 rfl rfl, ?_⟩)
    obtain ⟨v5, h5, e5, eh5, y', n', q', rfl, hy', hn2, q1', q2'⟩ := ct63 hO (F.to h3) (by omega) cl3 hcg (X6.to h3) (by omega) dl (c0 := cF) (c1 := c6)
    rw [eh5] at e5
    have : q' = true := by
      cases q' with
      | true => rfl
      | false => exact absurd (q2' rfl).2.2 nc
    subst this
    refine ⟨_, _, _, _, e5, ?_⟩
    rw [learn_none hcg dl nc] at hlf
    injection hlf with hl1 hl2
    subst hl1 hl2
    refine calm13 (ok.kp k3) (ht.kp k3 ht.1) (Nat.lt_of_lt_of_le hb5 k3.nx) (Nat.lt_of_lt_of_le hb10 k3.nx) hN ((f3.get _ hb5).trans g5) ((f3.get _ hb10).trans g10) (F.to h3) hcl hc hdx (LI.to h3) (C2.up EInt.up K3) clen cmem U3 hy' hn2 (q1' rfl).2 ?_ (.refl _ _)
    rw [if_pos rfl]
    exact calm_same hcv hdx cmem lt e4 (q1' rfl).1 (q1' rfl).2
  | false =>
    have hC := (q2 rfl).2.2
    have e4 : (fromN (cls.map sideN) (clauseN d)).2 = false := by
      cases hb : (fromN (cls.map sideN) (clauseN d)).2 with
      | false => rfl
      | true => exact absurd hC (ci.1 hb)
    rw [e4] at U3 ⊢
    rw [if_neg (by decide)] at U3
    refine vcond_f (by decide) (vcond_f rfl ?_)
    intro g175
    have k4 : Kp hG.nx hG g175 := k3.rsv _
    have f4 := k4.ex (Nat.le_refl _)
    obtain ⟨nd, l', K, hl', L⟩ := learn_is hcg dl hn hC
    rw [hl'] at hlf
    injection hlf with hl1 hl2
    subst hl1 hl2
    have ll : l'.length ≤ 12 := Nat.le_trans L.len hdl
    have l0 : ∀ x ∈ l', x ≠ 0 := fun x hx => (L.lit x hx).1
    refine vcond_f rfl (vcond_f (by rw [U3.1]; rfl) ⟨_, _, _, rdp f4 hb10 g10 rfl rfl, _, _, _, rdp f4 hb10 g10 rfl rfl, ?_⟩)
    have n4 := k4.nx
    have ok4 : (g175.grd [b10]).Ok := (ok.kp k4).grd fun q hq => by rw [List.mem_singleton.1 hq]; omega
    refine (ct19 hO ok4 ((LI.to g175).to (g175.grd [b10])) ll L.lit).s fun a5 n5 c5 h5 ⟨C5, K5, _, _⟩ => ?_
    rw [clause_dif L.dif l0] at C5
    intro g186
    have K5' : Kp g175.nx g175 g186 := Kp.rg K5
    have k5 : Kp hG.nx hG g186 := k4.trans (K5'.le k4.nx)
    have f5 := k5.ex (Nat.le_refl _)
    have C6 : IntsAt (g186.grd []) a5 n5 l' := C5.to (g186.grd [])
    refine (ct26 hO C6 ((LI.to g186).to (g186.grd [])) (by omega)).b1 fun h6 K6 => ?_
    intro g189
    have k6 : Kp hG.nx hG g189 := k5.trans ((Kp.rg K6).le k5.nx)
    have f6 := k6.ex (Nat.le_refl _)
    refine vcond_f (by simp) ⟨_, _, _, rdp f6 hb10 g10 rfl rfl, ?_⟩
    have r6 : readAt (g189.grd []) b6 0 1 = some [.slice a6 n6 c6] := rdp f6 hb6 g6 rfl rfl
    refine ⟨_, _, ct64 hO ((LI.to g189).to (g189.grd [])) (by omega) (g := 67) (fi := #[]) (ca := #[.pointer (some ⟨b6, 0, none⟩)]) (φ := fun x => !(decide (-x ∈ d))) (fun x hx => ct67 hO (L.lit x hx) r6 ((X6.to g189).to (g189.grd [])) (by omega)), ?_⟩
    intro g195
    have k7 : Kp hG.nx hG g195 := k6.trans ((Kp.rg (.refl g189.nx (g189.grd []))).le k6.nx)
    have f7 := k7.ex (Nat.le_refl _)
    have ea : (l'.any fun x => !(decide (-x ∈ d))) = false := by
      rw [List.any_eq_false]
      intro x hx
      have : -x ∈ d := L.sub.subset ((L.mem x).1 hx)
      simp [this]
    refine vcond_f ea ⟨_, _, _, rdp f7 hb5 g5 rfl rfl, _, _, _, rdp f7 hb10 g10 rfl rfl, ?_⟩
    have ok7 : (g195.grd []).Ok := (ok.kp k7).grd fun q hq => by cases hq
    refine (ct57 hO ok7 (gs := []) ((F.to g195).to (g195.grd [])) (by omega) cl3 hcg (SlAt.nil ..) (by simp) (fun x hx => by cases hx) ((LI.to g195).to (g195.grd [])) (by omega) L.lit).b fun q h8 ⟨hq, K8⟩ => ?_
    intro g204
    have k8 : Kp hG.nx hG g204 := k7.trans ((Kp.rg K8).le k7.nx)
    have f8 := k8.ex (Nat.le_refl _)
    have hq : q = true := hq.2 (by simpa using L.fol)
    subst hq
    refine vcond_f rfl ⟨_, _, _, rdp f8 hb10 g10 rfl rfl, ?_⟩
    have m5 : b5 < g204.nx := Nat.lt_of_lt_of_le hb5 k8.nx
    have m6 : b6 < g204.nx := Nat.lt_of_lt_of_le hb6 k8.nx
    have m10 : b10 < g204.nx := Nat.lt_of_lt_of_le hb10 k8.nx
    have g5' := (f8.get _ hb5).trans g5
    have g6' := (f8.get _ hb6).trans g6
    have g10' := (f8.get _ hb10).trans g10
    have hw : ∀ {h : Hp}, Kp g204.nx g204 h → EvT Ow 27 [] h (.bool true) h := fun k => works_true ((ht.kp k8 ht.1).kp k (Nat.lt_of_lt_of_le ht.1 k8.nx))
    have en : nL = l'.length := LI.1
    rw [en]
    exact lp13_2 hO (ok.kp k8) m5 m10 g5' g10' (F.to g204) hcl hc L (LI.to g204) ll m6 g6' (fun h9 K9 => lp13_4 hO (ok.kp k8) m5 m10 hN g5' g10' (F.to g204) hcl hc L (LI.to g204) ll hn hdl dl (A6.to g204) hw K9 m6 g6' d.length 0 (-1) (by omega) (.inl (by decide))) l'.length 0 g204 (by omega) (.refl _ _)
end
theorem law13 {vars many : Nat} {cl : List Int} (p : PuzOk vars many cl) {e0 e1 e2 e3 e4 e5 : Int} (he : ∀ x ∈ [e0, e1, e2, e3, e4, e5], -128 ≤ x ∧ x < 128) {h : Hp} (ok : h.Ok) (ht : Tb h) :
    Ret Tryd.prog Ow 13 [.agg (puzV vars many cl).toArray, .agg #[.int .i8 e0, .int .i8 e1, .int .i8 e2, .int .i8 e3, .int .i8 e4, .int .i8 e5]] h Yes := by
  have hO : Oth Ow := Ow_oth
  have n0 : 0 < h.nx := by have := ht.1; omega
  refine rk13 (hO := hO _ _ _ (by decide)) (hh := ?_) ..
  unfold T13
  have pv := p.v
  refine vreq_t (by simp [puzV, one]) ?_
  intro g1
  have S : Know h g1 [_] := (Know.nil ok).add _
  intro g2
  have S : Know h g2 [ob g1.nx (.cells [.int .i8 e0, .int .i8 e1, .int .i8 e2, .int .i8 e3, .int .i8 e4, .int .i8 e5] 82 .fix), ob h.nx (.cells (puzV vars many cl) 26 .fix)] := S.add _
  have pl : (puzV vars many cl).length = 44 := by simp [puzV, p.len]
  refine ⟨_, S.rd 1 rfl (by rw [List.drop_zero, ← pl, List.take_length]) (by rw [pl]; rfl), ?_⟩
  obtain ⟨v, h9, e9, a6, n7, c8, rfl, F, K9⟩ := ct16 hO S.ok p (x1 := 7) ⟨by decide, by decide⟩
  refine ⟨_, _, _, _, _, e9, ?_⟩
  have hmod : 0 ≤ (vars : Int).tmod 7 ∧ (vars : Int).tmod 7 < 7 := ⟨Int.tmod_nonneg _ (by omega), Int.tmod_lt_of_pos _ (by omega)⟩
  obtain ⟨N, hNe⟩ : ∃ N : Nat, 1 + (vars : Int).tmod 7 = Int.ofNat N := ⟨(1 + (vars : Int).tmod 7).toNat, by simp only [Int.ofNat_eq_natCast]; omega⟩
  rw [hNe] at F ⊢
  have hN : 1 ≤ N ∧ N ≤ 7 := by simp only [Int.ofNat_eq_natCast] at hNe; omega
  have hNi : (1 : Int) ≤ Int.ofNat N ∧ Int.ofNat N ≤ 30 := by simp only [Int.ofNat_eq_natCast]; omega
  obtain ⟨cn, co⟩ := clsN_ok p (N := Int.ofNat N) hNi (many % 15)
  have hcl : (clsN (Int.ofNat N) cl (many % 15)).length ≤ 20 := by rw [cn]; omega
  generalize clsN (Int.ofNat N) cl (many % 15) = cls at F co hcl cn
  obtain rfl : n7 = cls.length := F.1
  have S : Know h h9 [ob g1.nx (.cells [.int .i8 e0, .int .i8 e1, .int .i8 e2, .int .i8 e3, .int .i8 e4, .int .i8 e5] 82 .fix), ob h.nx (.cells (puzV vars many cl) 26 .fix)] := S.call K9
  have gE := S.obj 0 rfl
  have hbE := (S.orng 0 rfl).2
  have ok9 := S.ok
  have ht9 : Tb h9 := ht.kp S.kp n0
  intro g10
  have S : Know h9 g10 [_] := (Know.nil ok9).add _
  refine vreq_t (S.cw 0 rfl (by decide) rfl rfl) ?_
  intro g11
  have S : Know h9 g11 [_] := S.wr 0 rfl (by decide) rfl rfl
  intro g12
  have S : Know h9 g12 [ob g11.nx (.cells [.slice none 0 0] 32 .fix), ob h9.nx (.cells [.int .i64 (Int.ofNat N), .slice a6 cls.length c8] 30 .fix)] := S.add _
  refine ⟨_, _, _, _, _, _, rdp S.ft hbE gE rfl rfl, ?_⟩
  have S : Know h9 g12 [ob g11.nx (.cells [.slice none 0 0] 32 .fix), acc h9.nx 3 1 none 0 0 [], ob h9.nx (.cells [.int .i64 (Int.ofNat N), .slice a6 cls.length c8] 30 .fix)] := (S.accNil h9.nx 3 1).sel [1, 0, 2] (by decide) rfl
  have yl : ([e0, e1, e2, e3, e4, e5].map (litP · (Int.ofNat N))).length = 6 := rfl
  have yx : ∀ x ∈ [e0, e1, e2, e3, e4, e5].map (litP · (Int.ofNat N)), Lit x ∧ (x.natAbs : Int) ≤ Int.ofNat N := fun x hx => by
    obtain ⟨z, hz, rfl⟩ := List.mem_map.1 hx
    obtain ⟨q1, q2⟩ := litP_ok (he z hz).1 (he z hz).2 hNi.1 hNi.2
    exact ⟨q1, by simp only [Int.ofNat_eq_natCast] at q2 ⊢; omega⟩
  refine lp13_0 hO hN he (fun h1 a n c S hz => ?_) 6 0 g12 none 0 0 [] (by omega) (by simp) (fun _ => rfl) rfl S
  refine I13_0.of (hh := ?_) ..
  unfold T13_0
  generalize [e0, e1, e2, e3, e4, e5].map (litP · (Int.ofNat N)) = ys at yl yx S hz
  have hd : Nod (firstF ys []) := firstF_nod List.Pairwise.nil
  have dx : ∀ x ∈ firstF ys [], Lit x ∧ (x.natAbs : Int) ≤ Int.ofNat N := fun x hx => yx x (firstF_sub' x hx)
  have dl : (firstF ys []).length ≤ 12 := by have := firstF_len (xs := ys) (acc := []); simp at this; omega
  generalize firstF ys [] = d at S hz hd dx dl
  have A : AccI 3 h1 h9.nx a n c d := by
    rcases (S.get 1 rfl : AccE h1 h9.nx 3 1 a n c (iv d)) with A | ⟨e, _, _, o, e2, _⟩
    · exact A
    · have : d = [] := by simpa using e
      rw [hz this] at e2; cases e2
  have g5 := S.obj 2 rfl
  have g6 := S.obj 0 rfl
  have b5 := (S.orng 2 rfl).2
  have b6 := (S.orng 0 rfl).2
  have ok1 := S.ok
  have kp1 := S.kp
  have ht1 : Tb h1 := ht9.kp kp1 ht9.1
  have f1 := S.ft
  have F1 : IntssAt h1 a6 cls.length cls := F.to h1
  have hcv : ∀ l ∈ cls, Cv (Int.ofNat N) l := fun l hl => (co l hl).1
  have hform : formB (Int.ofNat N) cls = true := by
    have ha := ask_of (vars := Int.ofNat N) (gs := []) (by simp only [Int.ofNat_eq_natCast]; omega) (by simp only [Int.ofNat_eq_natCast]; omega) (show cls.length ≤ 120 by omega) hcv ⟨List.Pairwise.nil, fun x hx => by cases hx⟩
    unfold askB at ha; exact (Bool.and_eq_true _ _ ▸ ha).1
  refine vcond_f rfl ⟨_, _, _, _, S.rd 2 rfl rfl rfl, _, _, _, S.rd 0 rfl rfl rfl, ?_⟩
  obtain ⟨v, h2, e2, a2, n2, c2, rfl, LI, K2⟩ := ct36 hO ok1 F1 (by omega) (fun l hl => by have := (co l hl).2; omega) (fun l hl x hx => (((co l hl).1.2 x hx)).1) A dl dx hd hz hform (c := c8)
  refine ⟨_, _, _, _, _, e2, ?_⟩
  have ok2 := ok1.kp K2
  intro g136
  have S2 : Know h2 g136 [_] := (Know.nil ok2).add _
  refine vreq_t (S2.cw 0 rfl (by decide) rfl rfl) ?_
  intro g137
  have S2 : Know h2 g137 [ob h2.nx (.cells [.slice a2 n2 c2] 32 .fix)] := S2.wr 0 rfl (by decide) rfl rfl
  have k3 : Kp h1.nx h1 g137 := K2.trans (S2.kp.le K2.nx)
  have f3 := k3.ex (Nat.le_refl _)
  have f23 := S2.ft
  refine ⟨_, _, _, rdp f3 b5 g5 rfl rfl, _, _, _, rdp f3 b6 g6 rfl rfl, ?_⟩
  exact mid13 (ok1.kp k3) (ht1.kp k3 ht1.1) (Nat.lt_of_lt_of_le b5 k3.nx) (Nat.lt_of_lt_of_le b6 k3.nx) (S2.orng 0 rfl).2 hN ((f3.get _ b5).trans g5) (S2.obj 0 rfl) ((f3.get _ b6).trans g6) (F1.to g137) hcl co hd dl dx (A.to g137) (l := (learnF (clashN (cls.map sideN) []) d (d.length + 1) 0).1) (x11 := (learnF (clashN (cls.map sideN) []) d (d.length + 1) 0).2) rfl (LI.to g137)
theorem und82 : Tryd.prog.underlying 82 = some (.array 6 22) := by kernel_rfl
theorem sz82 : Tryd.prog.cellsOf 82 = 6 * Tryd.prog.cellsOf 22 := by kernel_rfl
theorem n82 : Tryd.prog.cellsOf 82 = 6 := by kernel_rfl
theorem bld82 {H : Type} {enc : TypeId × Value → H} {W : World} : ∀ n, Builds H enc Tryd.prog W n 82
  | 0 => build0 82
  | n + 1 => build_array (bld22 n) sz82 und82
theorem six_of {H : Type} {h : Hp} {n : Nat} {v : Value} {d : DataW H} (D : DE Tryd.prog h n 82 v.cells.toList d) : ∃ a b c e f g, v = .agg #[.int .i8 a, .int .i8 b, .int .i8 c, .int .i8 e, .int .i8 f, .int .i8 g] ∧ ∀ x ∈ [a, b, c, e, f, g], -128 ≤ x ∧ x < 128 := by
  obtain ⟨ls, rfl, ll, hl⟩ := row_of und82 sz82 n82 (by decide) D
  match ls, ll with
  | [a, b, c, e, f, g], _ => exact ⟨a, b, c, e, f, g, rfl, hl⟩
end Go.Proofs.YtfgfhplgnfbaaaaDoor
