/- From the evaluator's word on a law of layer 15 to the kit's; arguments. -/
import Derived.Test.YtngcjpkccnfjiaaGreatDoorYH
import Derived.Test.YtngcjpkccnfjiaaGreatDoorYE
import Derived.Test.YtngcjpkccnfjiaaGreatDoorCards
import Derived.Test.YtngcjpkccnfjiaaGreatDoorTie
import Derived.Lib.LaidTab
import Derived.Test.YtngcjpkccnfjiaaGreatDoorYG
namespace Go.Proofs.YtngcjpkccnfjiaaGreatDoor
open Go Go.Ev Go.ChangeShapes Go.WideShapes Go.ChangeAt Go.RowKit
theorem own : ownKnob Tryz.prog.godebug = none := by kernel_rfl
theorem gTab : Tryz.prog.globalNamed "sward/collect.truth" = some 0 := by kernel_rfl
theorem gTabType : (Tryz.prog.globals[0]?).map (·.type) = some 117 := by kernel_rfl
theorem cellsInt : Tryz.prog.cellsOf 3 = 1 := by kernel_rfl
theorem cellsKind : Tryz.prog.cellsOf 37 = 1 := by kernel_rfl
theorem cells117 : Tryz.prog.cellsOf 117 = 2 := by kernel_rfl
set_option maxRecDepth 100000 in
theorem kids : Kids Tryz.prog (· < Tryz.prog.types.size) := kids_rows (by kernel_rfl) (by kernel_rfl)
set_option maxRecDepth 100000 in
theorem full : ∀ t e, t < Tryz.prog.types.size → Tryz.prog.underlying t = some (.slice e) → 0 < Tryz.prog.cellsOf e := slices_full_of _ (by kernel_rfl)
set_option maxRecDepth 100000 in
/-- What the row tells of the one laid variable. -/
theorem truth_of {W : World} {x : DataW Unit} (hx : x = .agg [.lit (.int .i64 1), .lit (.int .i64 4)]) (h : laidMet Tryz.prog [("sward/collect.truth", x)] W) : W.var? Tryz.prog "sward/collect.truth" = some tab.toArray := by
  obtain ⟨ps, ⟨g', t', cs, fuel, p, q, hg', ht', hvar, hd, _, _⟩, _⟩ := h
  obtain rfl := Option.some.inj (gTab.symm.trans hg')
  obtain rfl := Option.some.inj (gTabType.symm.trans ht')
  rw [hvar]
  subst hx
  obtain ⟨y0, y1, n, hx, hl, h0, h1⟩ := trod_struct2 Tryz.underlying117 hd
  injection hx with hx _
  injection hx with hx
  injection hx with e0 hx
  injection hx with e1 _
  have h0 : DataW.trod _ Tryz.prog W _ _ _ n 3 ((cs.toList.drop 0).take (Tryz.prog.cellsOf 3)) = some y0 := h0
  have h1 : DataW.trod _ Tryz.prog W _ _ _ n 37 ((cs.toList.drop 1).take (Tryz.prog.cellsOf 37)) = some y1 := h1
  rw [cellsInt] at h0
  rw [cellsKind] at h1
  obtain ⟨z0, hc0, hy0, _⟩ := DataW.trod_int Tryz.underlying3 (x := y0) h0
  obtain ⟨z1, hc1, hy1, _⟩ := DataW.trod_int Tryz.underlying37 (x := y1) h1
  rw [hy0] at e0
  rw [hy1] at e1
  injection e0 with e0; injection e0 with _ e0
  injection e1 with e1; injection e1 with _ e1
  have := two_of (hl.trans cells117) hc0 hc1
  congr 1
  rw [← Array.toList_inj, this, ← e0, ← e1]
  rfl
theorem tab_cells {W : World} (h : W.var? Tryz.prog "sward/collect.truth" = some tab.toArray) : ∀ j x, tab[j]? = some x → W.cell? ⟨0, j, none⟩ = some x := by
  intro j x hj
  have := World.var?_cell gTab h j
  rw [this, ← hj]
  simp
/-- The names at the start: the package-level variables. -/
def iota0 : Inj := fun o => if o < 2 then some ⟨o, 0, 0, 0⟩ else none
theorem start_RH {W : World} (ht : ∀ j x, tab[j]? = some x → W.cell? ⟨0, j, none⟩ = some x) : RH Tryz.prog iota0 h0 W := by
  have h00 := ht 0 _ rfl
  have hblk : ∃ c e fr, W.heap[0]? = some (.cells c e fr) := by
    cases hb : W.heap[0]? with
    | none => simp [World.cell?, hb] at h00
    | some y =>
      cases y with
      | cells c e fr => exact ⟨c, e, fr, rfl⟩
      | _ => simp [World.cell?, hb] at h00
  obtain ⟨c, e, fr, hb⟩ := hblk
  refine ⟨fun o x ho => ?_, fun o q x y vo vq _ ho hx => ?_, fun o ho => if_neg (by have : 2 ≤ o := ho; omega), fun g hg => ?_, by rw [gsz]; exact Nat.le_refl _⟩
  · obtain ⟨rfl, rfl⟩ := h0_get o x ho
    refine ⟨Nat.zero_lt_two, ⟨0, 0, 0, 0⟩, rfl, tab_one, c, e, fr, hb, fun j x hx => ?_, fun h => absurd rfl h, fun h => by cases h⟩
    have := ht j x hx
    refine ⟨x, ?_, .flat (all_get tab_flat hx)⟩
    simpa [World.cell?, hb] using this
  · obtain ⟨rfl, rfl⟩ := h0_get o x ho
    cases hx
  · rw [gsz] at hg
    exact ⟨0, 0, if_pos hg⟩
set_option maxRecDepth 100000 in
theorem h0_tab : h0.get 0 = some (.cells tab 0 .ro) := by kernel_rfl
set_option maxRecDepth 100000 in
theorem start_base {W : World} (ht : ∀ j x, tab[j]? = some x → W.cell? ⟨0, j, none⟩ = some x) : Base Tryz.prog iota0 h0 W :=
  ⟨start_RH ht, fun o x ho => by obtain ⟨rfl, rfl⟩ := h0_get o x ho; rfl, rfl, ⟨_, ⟨0, 0, 0, 0⟩, h0_tab, rfl, Nat.zero_lt_two, tab, 0, rfl⟩⟩
set_option maxRecDepth 100000 in
/-- A law that the evaluator finds true, wherever its arguments lie, is true. -/
theorem law_calls {H : Type} {enc : TypeId × Value → H} {f : FuncId} {fn : Func} (hf : Tryz.prog.funcs[f]? = some fn) (hb : fn.body.isSome = true) (h14 : f ≠ 14 ∧ f ≠ 54) {W : World} (ht : ∀ j x, tab[j]? = some x → W.cell? ⟨0, j, none⟩ = some x)
    {ts : List TypeId} {args : Array Value} {ds : List (DataW H)} {p : List MemPlace} (hA : DataW.TrodAll enc Tryz.prog W 0 (fun _ => true) true ts args.toList ds p) (hbd : ∀ t ∈ ts, ∀ n, Builds H enc Tryz.prog W n t) (hs : ∀ (i : Nat) t v, ts[i]? = some t → args.toList[i]? = some v → Shaped1 Tryz.prog t v)
    (hR : ∀ (h : Hp) (evs : List Value), Tb h → h.Ok → h.gd = [] → DEs Tryz.prog h ts evs ds → Ret Tryz.prog Ow f evs h fun v _ => v = .bool true) (hlt : f < yB := by decide) :
    Calls Tryz.prog f args W fun e W' => e = .returned (.bool true) ∧ Below W.heap.size W W' := by
  obtain ⟨ι, h, evs, E, B, V, D⟩ := args_build hA hbd hs iota0 h0 (start_base ht)
  have hg : h.gd = [] := B.gd
  have htb : Tb h := ⟨Nat.lt_of_lt_of_le (by decide : 1 < 2) E.nx, by rw [E.get 0 Nat.zero_lt_two]; exact h0_tab⟩
  have hfr : h.Fresh := fun o ho => by
    cases ho2 : h.get o with
    | none => rfl
    | some x => have := (B.rh.live o x ho2).1; omega
  obtain ⟨v, h', he, rfl⟩ := hR h evs htb ⟨fun q hq => (by rw [hg] at hq; cases hq), hfr⟩ hg D
  have := calls_of_EvC mixed noNum Ow_ok hlt hf hb (Ow_oth f evs h h14) he B.rh V
  have e : args.toList.toArray = args := by simp
  rw [e] at this
  refine this.mono fun e W' ⟨ι', v', h1, h2, h3⟩ => ?_
  obtain rfl := VR.of_flat rfl h3
  exact ⟨h1, h2.fr.os, h2.fr.tape, h2.fr.output, h2.fr.size, fun k hk => h2.fr.rest k hk fun o x _ ho hx => by rw [B.ro o x ho] at hx; cases hx⟩
/-- A world for the witness: the variable holds what its initialiser lays. -/
noncomputable def laidWorld (os : Os) : World :=
  { World.holding Tryz.prog os ⟨#[], #[], []⟩ with heap := (World.holding Tryz.prog os ⟨#[], #[], []⟩).heap.modify 0 fun
      | .cells _ t frozen => .cells tab.toArray t frozen
      | o => o }
/-! ### arguments -/
section
variable {H : Type} {enc : TypeId × Value → H} {W : World}
theorem build0 (t : TypeId) : Builds H enc Tryz.prog W 0 t := fun cs d ps h => by simp [DataW.trod] at h
end
end Go.Proofs.YtngcjpkccnfjiaaGreatDoor
/- A pile as an argument. -/
namespace Go.Proofs.YtngcjpkccnfjiaaGreatDoor
set_option maxRecDepth 100000
open Go Go.Ev Go.ChangeShapes Go.WideShapes Go.ChangeAt Go.RowKit
theorem und5 : Tryz.prog.underlying 5 = some (.int .u8) := by kernel_rfl
theorem und58 : Tryz.prog.underlying 58 = some (.array 9 5) := by kernel_rfl
theorem und60 : Tryz.prog.underlying 60 = some (.array 9 59) := by kernel_rfl
theorem sz58 : Tryz.prog.cellsOf 58 = 9 * Tryz.prog.cellsOf 5 := by kernel_rfl
theorem sz59 : Tryz.prog.cellsOf 59 = 4 * Tryz.prog.cellsOf 5 := by kernel_rfl
theorem sz60 : Tryz.prog.cellsOf 60 = 9 * Tryz.prog.cellsOf 59 := by kernel_rfl
theorem n5 : Tryz.prog.cellsOf 5 = 1 := by kernel_rfl
theorem n58 : Tryz.prog.cellsOf 58 = 9 := by kernel_rfl
theorem n59 : Tryz.prog.cellsOf 59 = 4 := by kernel_rfl
theorem n60 : Tryz.prog.cellsOf 60 = 36 := by kernel_rfl
theorem n62 : Tryz.prog.cellsOf 62 = 51 := by kernel_rfl
theorem agg5 : aggT Tryz.prog 5 ≠ some true := by unfold aggT; rw [und5]; simp
section
variable {H : Type} {enc : TypeId × Value → H} {W : World}
theorem bld5 : ∀ n, Builds H enc Tryz.prog W n 5
  | 0 => build0 5
  | _ + 1 => build_int und5
theorem bld58 : ∀ n, Builds H enc Tryz.prog W n 58
  | 0 => build0 58
  | n + 1 => build_array (bld5 n) sz58 und58
theorem bld59 : ∀ n, Builds H enc Tryz.prog W n 59
  | 0 => build0 59
  | n + 1 => build_array (bld5 n) sz59 Tryz.underlying59
theorem bld60 : ∀ n, Builds H enc Tryz.prog W n 60
  | 0 => build0 60
  | n + 1 => build_array (bld59 n) sz60 und60
set_option maxRecDepth 100000 in
theorem bld62 : ∀ n, Builds H enc Tryz.prog W n 62
  | 0 => build0 62
  | n + 1 => build_struct (fun f hf => by
      simp at hf
      rcases hf with rfl | rfl | rfl | rfl | rfl
      · exact bld5 n
      · exact bld5 n
      · exact bld58 n
      · exact bld60 n
      · exact bld59 n) (by kernel_rfl) Tryz.underlying62
theorem agg_of_list {v : Value} {l : List Value} (h : v.cells.toList = l) (hl : l.length ≠ 1) : v = .agg l.toArray := by
  cases v with
  | agg cs =>
    have h : cs.toList = l := h
    obtain ⟨k⟩ := cs
    have h : k = l := h
    rw [h]
  | _ => exact absurd (by rw [← h]; rfl) hl
theorem byte_of {h : Hp} {n : Nat} {cs : List Value} {d : DataW H} (D : DE Tryz.prog h n 5 cs d) : ∃ x : Nat, cs = [.int .u8 (Int.ofNat x)] ∧ x < 256 := by
  obtain ⟨x, e, hx⟩ := DE_int und5 D
  have := wf_rng hx
  have m1 : IntKind.min .u8 = 0 := rfl
  have m2 : IntKind.max .u8 = 255 := rfl
  obtain ⟨n, rfl⟩ : ∃ n : Nat, x = Int.ofNat n := ⟨x.toNat, by simp only [Int.ofNat_eq_natCast]; omega⟩
  exact ⟨n, e, by simp only [Int.ofNat_eq_natCast] at *; omega⟩
theorem int5 {h : Hp} : ∀ n cs (d : DataW H), DE Tryz.prog h n 5 cs d → AllInt .u8 cs := fun _ _ _ D => DE_allInt und5 D
theorem int59 {h : Hp} : ∀ n cs (d : DataW H), DE Tryz.prog h n 59 cs d → AllInt .u8 cs := fun _ _ _ D => (DE_array Tryz.underlying59 sz59 int5 D).2
theorem int58 {h : Hp} : ∀ n cs (d : DataW H), DE Tryz.prog h n 58 cs d → AllInt .u8 cs := fun _ _ _ D => (DE_array und58 sz58 int5 D).2
theorem int60 {h : Hp} : ∀ n cs (d : DataW H), DE Tryz.prog h n 60 cs d → AllInt .u8 cs := fun _ _ _ D => (DE_array und60 sz60 int59 D).2
theorem bytes_list {cs : List Value} (h : AllInt .u8 cs) : ∃ xs : List Nat, cs = bv xs ∧ ∀ x ∈ xs, x < 256 := by
  obtain ⟨zs, e, hz⟩ := h.list
  have hb : ∀ z ∈ zs, 0 ≤ z ∧ z < 256 := fun z hz' => by
    have := wf_rng (hz z hz')
    have m1 : IntKind.min .u8 = 0 := rfl
    have m2 : IntKind.max .u8 = 255 := rfl
    omega
  refine ⟨zs.map Int.toNat, ?_, fun x hx => ?_⟩
  · rw [e]
    unfold bv
    rw [List.map_map]
    refine List.map_congr_left fun z hz' => ?_
    have := hb z hz'
    show Value.int .u8 z = .int .u8 (Int.ofNat z.toNat)
    rw [Int.ofNat_eq_natCast, Int.toNat_of_nonneg this.1]
  · obtain ⟨z, hz', rfl⟩ := List.mem_map.1 hx
    have := hb z hz'
    omega
set_option maxRecDepth 100000 in
/-- A pile. -/
theorem pile_of {h : Hp} {n : Nat} {v : Value} {d : DataW H} (D : DE Tryz.prog h n 62 v.cells.toList d) : ∃ v0 xs, v = .agg v0 ∧ Bytes v0 xs := by
  cases n with
  | zero => exact D.elim
  | succ n =>
    obtain ⟨hl, hf⟩ := DE_struct Tryz.underlying62 D
    rw [n62] at hl
    obtain ⟨d0, D0⟩ := hf 0 _ rfl
    obtain ⟨d1, D1⟩ := hf 1 _ rfl
    obtain ⟨d2, D2⟩ := hf 2 _ rfl
    obtain ⟨d3, D3⟩ := hf 3 _ rfl
    obtain ⟨d4, D4⟩ := hf 4 _ rfl
    have a0 : AllInt .u8 ((v.cells.toList.drop 0).take (Tryz.prog.cellsOf 5)) := int5 _ _ _ D0
    have a1 : AllInt .u8 ((v.cells.toList.drop 1).take (Tryz.prog.cellsOf 5)) := int5 _ _ _ D1
    have a2 : AllInt .u8 ((v.cells.toList.drop 2).take (Tryz.prog.cellsOf 58)) := int58 _ _ _ D2
    have a3 : AllInt .u8 ((v.cells.toList.drop 11).take (Tryz.prog.cellsOf 60)) := int60 _ _ _ D3
    have a4 : AllInt .u8 ((v.cells.toList.drop 47).take (Tryz.prog.cellsOf 59)) := int59 _ _ _ D4
    rw [n5] at a0 a1
    rw [n58] at a2
    rw [n60] at a3
    rw [n59] at a4
    have e : v.cells.toList = (v.cells.toList.drop 0).take 1 ++ ((v.cells.toList.drop 1).take 1 ++ ((v.cells.toList.drop 2).take 9 ++ ((v.cells.toList.drop 11).take 36 ++ (v.cells.toList.drop 47).take 4))) := by
      generalize v.cells.toList = cs at hl
      have s : ∀ (a b : Nat), cs.drop a = (cs.drop a).take b ++ cs.drop (a + b) := fun a b => by rw [← List.drop_drop, List.take_append_drop]
      conv => lhs; rw [← List.drop_zero (l := cs), s 0 1, s (0 + 1) 1, s (0 + 1 + 1) 9, s (0 + 1 + 1 + 9) 36, s (0 + 1 + 1 + 9 + 36) 4, List.drop_of_length_le (i := 0 + 1 + 1 + 9 + 36 + 4) (by omega), List.append_nil]
    have all : AllInt .u8 v.cells.toList := fun w hw => by
      rw [e] at hw
      rcases List.mem_append.1 hw with hw | hw
      · exact a0 w hw
      rcases List.mem_append.1 hw with hw | hw
      · exact a1 w hw
      rcases List.mem_append.1 hw with hw | hw
      · exact a2 w hw
      rcases List.mem_append.1 hw with hw | hw
      · exact a3 w hw
      · exact a4 w hw
    obtain ⟨xs, ex, hx⟩ := bytes_list all
    have lx : xs.length = 51 := by
      have := congrArg List.length ex
      rw [hl, List.length_map] at this; exact this.symm
    exact ⟨(bv xs).toArray, xs, agg_of_list ex (by rw [List.length_map]; omega), rfl, lx, hx⟩
end
end Go.Proofs.YtngcjpkccnfjiaaGreatDoor
/- Nine bytes as an argument. -/
namespace Go.Proofs.YtngcjpkccnfjiaaGreatDoor
open Go Go.Ev
theorem nine_of {H : Type} {h : Hp} {n : Nat} {v : Value} {d : DataW H} (D : DE Tryz.prog h n 58 v.cells.toList d) : ∃ bs : List Nat, v = .agg (bv bs).toArray ∧ bs.length = 9 ∧ ∀ x ∈ bs, x < 256 := by
  obtain ⟨hl, ha⟩ := DE_array und58 sz58 int5 D
  obtain ⟨qs, e, hq⟩ := bytes_list ha
  have hl : v.cells.toList.length = 9 := hl.trans (by rw [sz58, n5])
  have lx := hl
  rw [e, List.length_map] at lx
  exact ⟨qs, agg_of_list e (by rw [List.length_map]; omega), lx, hq⟩
end Go.Proofs.YtngcjpkccnfjiaaGreatDoor
