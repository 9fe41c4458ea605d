/- From the evaluator's word on the examples of layer 15 to the kit's. -/
import Derived.Test.YtngcjpkccnfjiaaDoorYC
import Derived.Test.YtngcjpkccnfjiaaDoorYF
import Derived.Test.YtngcjpkccnfjiaaDoorCards
import Derived.Test.YtngcjpkccnfjiaaDoorTie
import Derived.Lib.LaidTab
namespace Go.Proofs.YtngcjpkccnfjiaaDoor
open Go Go.Ev Go.ChangeShapes Go.WideShapes Go.ChangeAt Go.RowKit
theorem own : ownKnob Tryd.prog.godebug = none := by kernel_rfl
theorem gTab : Tryd.prog.globalNamed "sward/collect.truth" = some 0 := by kernel_rfl
theorem gTabType : (Tryd.prog.globals[0]?).map (·.type) = some 71 := by kernel_rfl
theorem cellsInt : Tryd.prog.cellsOf 3 = 1 := by kernel_rfl
theorem cellsKind : Tryd.prog.cellsOf 35 = 1 := by kernel_rfl
theorem cells71 : Tryd.prog.cellsOf 71 = 2 := by kernel_rfl
set_option maxRecDepth 100000 in
theorem full : ∀ t e, t < Tryd.prog.types.size → Tryd.prog.underlying t = some (.slice e) → 0 < Tryd.prog.cellsOf e := slices_full_of _ (by kernel_rfl)
set_option maxRecDepth 100000 in
/-- What the row tells of the one laid variable. -/
theorem truth_of {W : World} {x : DataW Unit} (hx : x = .agg [.lit (.int .i64 1), .lit (.int .i64 4)]) (h : laidMet Tryd.prog [("sward/collect.truth", x)] W) : W.var? Tryd.prog "sward/collect.truth" = some tab.toArray := by
  obtain ⟨ps, ⟨g', t', cs, fuel, p, q, hg', ht', hvar, hd, _, _⟩, _⟩ := h
  obtain rfl := Option.some.inj (gTab.symm.trans hg')
  obtain rfl := Option.some.inj (gTabType.symm.trans ht')
  rw [hvar]
  subst hx
  obtain ⟨y0, y1, n, hx, hl, h0, h1⟩ := trod_struct2 Tryd.underlying71 hd
  injection hx with hx _
  injection hx with hx
  injection hx with e0 hx
  injection hx with e1 _
  have h0 : DataW.trod _ Tryd.prog W _ _ _ n 3 ((cs.toList.drop 0).take (Tryd.prog.cellsOf 3)) = some y0 := h0
  have h1 : DataW.trod _ Tryd.prog W _ _ _ n 35 ((cs.toList.drop 1).take (Tryd.prog.cellsOf 35)) = some y1 := h1
  rw [cellsInt] at h0
  rw [cellsKind] at h1
  obtain ⟨z0, hc0, hy0, _⟩ := DataW.trod_int Tryd.underlying3 (x := y0) h0
  obtain ⟨z1, hc1, hy1, _⟩ := DataW.trod_int Tryd.underlying35 (x := y1) h1
  rw [hy0] at e0
  rw [hy1] at e1
  injection e0 with e0; injection e0 with _ e0
  injection e1 with e1; injection e1 with _ e1
  have := two_of (hl.trans cells71) hc0 hc1
  congr 1
  rw [← Array.toList_inj, this, ← e0, ← e1]
  rfl
theorem tab_cells {W : World} (h : W.var? Tryd.prog "sward/collect.truth" = some tab.toArray) : ∀ j x, tab[j]? = some x → W.cell? ⟨0, j, none⟩ = some x := by
  intro j x hj
  have := World.var?_cell gTab h j
  rw [this, ← hj]
  simp
/-- The names at the start: the package-level variables. -/
def iota0 : Inj := fun o => if o < 2 then some ⟨o, 0, 0, 0⟩ else none
theorem start_RH {W : World} (ht : ∀ j x, tab[j]? = some x → W.cell? ⟨0, j, none⟩ = some x) : RH Tryd.prog iota0 h0 W := by
  have h00 := ht 0 _ rfl
  have hblk : ∃ c e fr, W.heap[0]? = some (.cells c e fr) := by
    cases hb : W.heap[0]? with
    | none => simp [World.cell?, hb] at h00
    | some y =>
      cases y with
      | cells c e fr => exact ⟨c, e, fr, rfl⟩
      | _ => simp [World.cell?, hb] at h00
  obtain ⟨c, e, fr, hb⟩ := hblk
  refine ⟨fun o x ho => ?_, fun o q x y vo vq _ ho hx => ?_, fun o ho => if_neg (by have : 2 ≤ o := ho; omega), fun g hg => ?_, by rw [gsz]; exact Nat.le_refl _⟩
  · obtain ⟨rfl, rfl⟩ := h0_get o x ho
    refine ⟨Nat.zero_lt_two, ⟨0, 0, 0, 0⟩, rfl, tab_one, c, e, fr, hb, fun j x hx => ?_, fun h => absurd rfl h, fun h => by cases h⟩
    have := ht j x hx
    refine ⟨x, ?_, .flat (all_get tab_flat hx)⟩
    simpa [World.cell?, hb] using this
  · obtain ⟨rfl, rfl⟩ := h0_get o x ho
    cases hx
  · rw [gsz] at hg
    exact ⟨0, 0, if_pos hg⟩
set_option maxRecDepth 100000 in
theorem h0_tab : h0.get 0 = some (.cells tab 0 .ro) := by kernel_rfl
set_option maxRecDepth 100000 in
theorem start_base {W : World} (ht : ∀ j x, tab[j]? = some x → W.cell? ⟨0, j, none⟩ = some x) : Base Tryd.prog iota0 h0 W :=
  ⟨start_RH ht, fun o x ho => by obtain ⟨rfl, rfl⟩ := h0_get o x ho; rfl, rfl, ⟨_, ⟨0, 0, 0, 0⟩, h0_tab, rfl, Nat.zero_lt_two, tab, 0, rfl⟩⟩
/-- The examples are as stated, in every world in which the table stands. -/
theorem known_calls {W : World} (ht : ∀ j x, tab[j]? = some x → W.cell? ⟨0, j, none⟩ = some x) : Calls Tryd.prog 3 #[] W fun e W' => e = .returned (.bool true) ∧ Below W.heap.size W W' := by
  have B := start_base ht
  obtain ⟨h', he⟩ := known_EvC
  have := calls_of_EvC mixed noNum Ow_ok (by decide) Tryd.func3 (by kernel_rfl) (Ow_oth 3 [] h0 (by decide)) he B.rh ⟨rfl, fun i => by simp⟩
  refine this.mono fun e W' ⟨ι', v', h1, h2, h3⟩ => ?_
  obtain rfl := VR.of_flat rfl h3
  exact ⟨h1, h2.fr.os, h2.fr.tape, h2.fr.output, h2.fr.size, fun k hk => h2.fr.rest k hk fun o x _ ho hx => by rw [B.ro o x ho] at hx; cases hx⟩
/-- A world for the witness: the variable holds what its initialiser lays. -/
noncomputable def laidWorld (os : Os) : World :=
  { World.holding Tryd.prog os ⟨#[], #[], []⟩ with heap := (World.holding Tryd.prog os ⟨#[], #[], []⟩).heap.modify 0 fun
      | .cells _ t frozen => .cells tab.toArray t frozen
      | o => o }
end Go.Proofs.YtngcjpkccnfjiaaDoor
