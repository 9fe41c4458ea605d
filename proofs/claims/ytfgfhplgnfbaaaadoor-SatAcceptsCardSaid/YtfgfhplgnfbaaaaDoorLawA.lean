/- From the evaluator's word on a law of layer 20 to the kit's. -/
import Derived.Test.YtfgfhplgnfbaaaaDoorVcB
import Derived.Test.YtfgfhplgnfbaaaaDoorWkC
import Derived.Test.YtfgfhplgnfbaaaaDoorFnA
import Derived.Test.YtfgfhplgnfbaaaaDoorCards
import Derived.Test.YtfgfhplgnfbaaaaDoorTie
import Derived.Lib.LaidTab
namespace Go.Proofs.YtfgfhplgnfbaaaaDoor
open Go Go.Ev Go.ChangeShapes Go.WideShapes Go.ChangeAt Go.RowKit

theorem own : ownKnob Tryd.prog.godebug = none := by kernel_rfl
theorem gTab : Tryd.prog.globalNamed "math/bits.deBruijn32tab" = some 0 := by kernel_rfl
theorem gTabType : (Tryd.prog.globals[0]?).map (·.type) = some 156 := by kernel_rfl
theorem cellsArr : Tryd.prog.cellsOf 156 = 32 := by kernel_rfl
theorem cellsOne : Tryd.prog.cellsOf 5 = 1 := by kernel_rfl
theorem cellsInt : Tryd.prog.cellsOf 3 = 1 := by kernel_rfl
def nums : List Int := [0,1,28,2,29,14,24,3,30,22,20,15,25,17,4,8,31,27,13,23,21,19,16,7,26,12,18,6,11,5,10,9]
set_option maxRecDepth 100000 in
theorem kids : Kids Tryd.prog (· < Tryd.prog.types.size) := kids_rows (by kernel_rfl) (by kernel_rfl)
set_option maxRecDepth 100000 in
theorem full : ∀ t e, t < Tryd.prog.types.size → Tryd.prog.underlying t = some (.slice e) → 0 < Tryd.prog.cellsOf e := slices_full_of _ (by kernel_rfl)

theorem tab_cells {W : World} (h : Lib.TabIs Tryd.prog W "math/bits.deBruijn32tab" .u8 nums) : ∀ j x, tab[j]? = some x → W.cell? ⟨0, j, none⟩ = some x := by
  intro j x hj
  have hjl : j < 32 := (List.getElem?_eq_some_iff.1 hj).1
  have hn : j < nums.length := hjl
  have := h.cell gTab j hn
  rw [this]
  have e : tab = nums.map fun x => Value.int .u8 x := rfl
  rw [e, List.getElem?_map, List.getElem?_eq_getElem hn] at hj
  rw [List.getD_eq_getElem?_getD, List.getElem?_eq_getElem hn]
  exact hj
/-- The names at the start: the one package-level variable. -/
def iota0 : Inj := fun o => if o = 0 then some ⟨0, 0, 0, 0⟩ else none
theorem start_RH {W : World} (ht : ∀ j x, tab[j]? = some x → W.cell? ⟨0, j, none⟩ = some x) : RH Tryd.prog iota0 h0 W := by
  have h00 := ht 0 _ rfl
  have hblk : ∃ c e fr, W.heap[0]? = some (.cells c e fr) := by
    cases hb : W.heap[0]? with
    | none => simp [World.cell?, hb] at h00
    | some y =>
      cases y with
      | cells c e fr => exact ⟨c, e, fr, rfl⟩
      | _ => simp [World.cell?, hb] at h00
  obtain ⟨c, e, fr, hb⟩ := hblk
  refine ⟨fun o x ho => ?_, fun o q x y vo vq _ ho hx => ?_, fun o ho => if_neg (by have : 1 ≤ o := ho; omega), fun g hg => ?_, by rw [gsz]; exact Nat.le_refl _⟩
  · obtain ⟨rfl, rfl⟩ := h0_get o x ho
    refine ⟨Nat.zero_lt_one, ⟨0, 0, 0, 0⟩, rfl, tab_one, c, e, fr, hb, fun j x hx => ?_, fun h => absurd rfl h, fun h => by cases h⟩
    have := ht j x hx
    refine ⟨x, ?_, .flat (all_get tab_flat hx)⟩
    simpa [World.cell?, hb] using this
  · obtain ⟨rfl, rfl⟩ := h0_get o x ho
    cases hx
  · rw [gsz] at hg
    obtain rfl : g = 0 := by omega
    exact ⟨0, 0, rfl⟩
set_option maxRecDepth 100000 in
theorem h0_tab : h0.get 0 = some (.cells tab 0 .ro) := by kernel_rfl
set_option maxRecDepth 100000 in
theorem start_base {W : World} (ht : ∀ j x, tab[j]? = some x → W.cell? ⟨0, j, none⟩ = some x) : Base Tryd.prog iota0 h0 W :=
  ⟨start_RH ht, fun o x ho => by obtain ⟨rfl, rfl⟩ := h0_get o x ho; rfl, rfl, ⟨_, ⟨0, 0, 0, 0⟩, h0_tab, rfl, Nat.zero_lt_one, tab, 0, rfl⟩⟩

set_option maxRecDepth 100000 in
/-- A law that the evaluator finds true, wherever its arguments lie, is true. -/
theorem law_calls {H : Type} {enc : TypeId × Value → H} {f : FuncId} {fn : Func} (hf : Tryd.prog.funcs[f]? = some fn) (hb : fn.body.isSome = true) (h27 : f ≠ 27) {W : World} (ht : ∀ j x, tab[j]? = some x → W.cell? ⟨0, j, none⟩ = some x)
    {ts : List TypeId} {args : Array Value} {ds : List (DataW H)} {p : List MemPlace} (hA : DataW.TrodAll enc Tryd.prog W 0 (fun _ => true) true ts args.toList ds p) (hbd : ∀ t ∈ ts, ∀ n, Builds H enc Tryd.prog W n t) (hs : ∀ (i : Nat) t v, ts[i]? = some t → args.toList[i]? = some v → Shaped1 Tryd.prog t v)
    (hR : ∀ (h : Hp) (evs : List Value), Tb h → h.Ok → h.gd = [] → DEs Tryd.prog h ts evs ds → Ret Tryd.prog Ow f evs h fun v _ => v = .bool true) :
    Calls Tryd.prog f args W fun e W' => e = .returned (.bool true) ∧ Below W.heap.size W W' := by
  obtain ⟨ι, h, evs, E, B, V, D⟩ := args_build hA hbd hs iota0 h0 (start_base ht)
  have hg : h.gd = [] := B.gd
  have htb : Tb h := ⟨Nat.lt_of_lt_of_le Nat.zero_lt_one E.nx, by rw [E.get 0 Nat.zero_lt_one]; exact h0_tab⟩
  have hfr : h.Fresh := fun o ho => by
    cases ho2 : h.get o with
    | none => rfl
    | some x => have := (B.rh.live o x ho2).1; omega
  obtain ⟨v, h', he, rfl⟩ := hR h evs htb ⟨fun q hq => (by rw [hg] at hq; cases hq), hfr⟩ hg D
  have := calls_of_EvC mixed noNum Ow_ok hf hb (Ow_oth f evs h h27) he B.rh V
  have e : args.toList.toArray = args := by simp
  rw [e] at this
  refine this.mono fun e W' ⟨ι', v', h1, h2, h3⟩ => ?_
  obtain rfl := VR.of_flat rfl h3
  exact ⟨h1, h2.fr.os, h2.fr.tape, h2.fr.output, h2.fr.size, fun k hk => h2.fr.rest k hk fun o x _ ho hx => by rw [B.ro o x ho] at hx; cases hx⟩

/-- A world for the witness: the table holds what its initialiser lays. -/
noncomputable def laidWorld (os : Os) : World :=
  { World.holding Tryd.prog os ⟨#[], #[], []⟩ with heap := (World.holding Tryd.prog os ⟨#[], #[], []⟩).heap.modify 0 fun
      | .cells _ t frozen => .cells tab.toArray t frozen
      | o => o }
end Go.Proofs.YtfgfhplgnfbaaaaDoor
