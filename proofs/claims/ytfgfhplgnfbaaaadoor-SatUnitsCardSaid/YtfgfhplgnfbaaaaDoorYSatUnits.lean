/- SatUnits of its layer returns true, for every input: the tied card. Its conditions: none beside the row's own. -/
import Derived.Test.YtfgfhplgnfbaaaaDoorYG
namespace Go.Proofs.YtfgfhplgnfbaaaaDoor.satUnits
open Go Go.Ev Go.ChangeShapes Go.WideShapes Go.ChangeAt Go.RowKit Go.Proofs.YtfgfhplgnfbaaaaDoor
/-- The arguments are of kinds that are built. -/
theorem builds {H : Type} {enc : TypeId × Value → H} {W : World} : ∀ t ∈ [30, 32, 32], ∀ n, Builds H enc Tryd.prog W n t := by
  intro t ht
  simp at ht
  rcases ht with rfl | rfl
  · exact bld30
  · exact bld32
set_option maxRecDepth 100000 in
theorem plain : ∀ t ∈ [30, 32, 32], Plain Tryd.prog 5 t = true := by
  intro t ht
  simp at ht
  rcases ht with rfl | rfl
  · kernel_rfl
  · kernel_rfl
set_option maxRecDepth 100000 in
theorem table {W : World} (h : laidMetH Tryd.prog Rows.satUnitsRow.laid W) : Lib.TabIs Tryd.prog W "math/bits.deBruijn32tab" .u8 nums :=
  Lib.tabIs_of_head (rest := []) gTab gTabType Tryd.underlying156 Tryd.underlying5 cellsOne cellsArr h
set_option maxRecDepth 100000 in
theorem contract (H : Type) (enc : TypeId × Value → H) (W : World) (base : Nat) (args : Array Value) (ds gs : List (DataW H)) (before : List MemPlace)
    (hval : ∀ (j : Nat) t v, Tryd.f5.params[j]? = some t → args[j]? = some v → Value.okWide Tryd.prog W .any base t v)
    (hW : DataW.Whole enc Tryd.prog Tryd.f5.params.toList Rows.satUnitsSpec.vars false W args.toList ds gs before) (hL : laidMetH Tryd.prog Rows.satUnitsRow.laid W) :
    Calls Tryd.prog 5 args W fun e W' => ∃ v, e = .returned v ∧ Rows.satUnitsSpec.post enc Tryd.prog Tryd.f5 false true false false W args v W' := by
  have hW' := hW
  obtain ⟨p, q, hA0, hV, rfl, hfz, hnd⟩ := hW
  have hA : DataW.TrodAll enc Tryd.prog W 0 (fun _ => true) true Tryd.f5.params.toList args.toList ds p := hA0
  rw [Tryd.params5] at hA hval
  obtain ⟨rfl, rfl⟩ := trodVars_none hV
  have hp : ∀ x ∈ p, x.block < W.heap.size := fun x hx => hW'.lt x (by simpa using hx)
  have hs : ∀ (i : Nat) t v, [30, 32, 32][i]? = some t → args.toList[i]? = some v → Shaped1 Tryd.prog t v := fun i t v h1 h2 =>
    shaped_of (plain t (List.mem_of_getElem? h1)) (hval i t v (by simpa using h1) (by rw [← Array.getElem?_toList]; exact h2))
  have hA2 := hA
  obtain ⟨v1, vs1, d1, ds1, p1, q1, e1, rfl, rfl, t1, r1⟩ := trodAll_cons hA2
  obtain ⟨v2, vs2, d2, ds2, p2, q2, rfl, rfl, rfl, t2, r2⟩ := trodAll_cons r1
  obtain ⟨v3, vs3, d3, ds3, p3, q3, rfl, rfl, rfl, t3, r3⟩ := trodAll_cons r2
  obtain ⟨rfl, rfl, rfl⟩ := trodAll_nil r3
  refine (law_callsS (enc := enc) Tryd.func5 (by kernel_rfl) (by decide) (tab_cells (table hL)) hA builds hs fun h evs htb hok hg D => ?_).mono fun e W' ⟨he, hb⟩ => ?_
  · match evs, D with
    | [x1, x2, x3], ⟨⟨⟨n1, D1⟩, s1⟩, ⟨⟨n2, D2⟩, s2⟩, ⟨⟨n3, D3⟩, s3⟩, _⟩ =>
      have s2 := s2.resolve_left agg32
      have s3 := s3.resolve_left agg32
      rw [s2] at D2
      rw [s3] at D3
      obtain ⟨vars, a, m, c, cls, rfl, A1⟩ := form_of D1
      obtain ⟨a', m', c', ys, z2, A2, _⟩ := DE_ints Tryd.underlying32 Tryd.underlying3 cellsInt D2
      obtain ⟨a3, m3, c3, zs, z3, A3⟩ := DE_ints3 Tryd.underlying32 Tryd.underlying3 cellsInt D3
      injection z2 with z2 _
      injection z3 with z3 _
      subst z2 z3
      exact law5 hok htb A1 A2 A3
  · subst he
    refine ⟨_, rfl, post_of_old (pa := p1 ++ (p2 ++ (p3 ++ []))) (pv := []) hW' (fun _ _ _ => trodAll_cons_mk (shut_bool Tryd.underlying4 _) trodAll_mk0) (fun sp hsp => ?_) (fun _ _ => rfl) (by simp) (hb.frame _) (fun a ha => hb.frozen ha) (ok_one (by kernel_rfl) rfl (okWide_bool_mk Tryd.underlying4 _))⟩
    rw [Tryd.params5]
    exact again kids full (by intro t ht; simp at ht; rcases ht with rfl | rfl <;> exact of_decide_eq_true (by kernel_rfl)) hA hb hp sp (fun q hq => hsp q (by simpa using hq))
/-- The witness. -/
def wit : Array Value := #[.agg #[.int .i64 0, .slice none 0 0], .slice none 0 0, .slice none 0 0]
set_option maxRecDepth 100000 in
theorem laid_met (os : Os) : laidMet Tryd.prog Rows.satUnitsRow.laid ((laidWorld os).forCall (fun _ _ => 0) ⟨#[], wit, []⟩).memory :=
  laidMet_of_run' 8 (by kernel_rfl) (by kernel_rfl)
set_option maxRecDepth 100000 in
theorem reads (os : Os) {H : Type} (enc : TypeId × Value → H) : ∃ places, DataW.whole enc Tryd.prog ((laidWorld os).forCall (fun _ _ => 0) ⟨#[], wit, []⟩).memory Tryd.f5.params.toList Rows.satUnitsSpec.vars false wit.toList 8 = some ([.agg [.lit (.int .i64 0), .nil], .nil, .nil], [], places) :=
  ⟨[], by kernel_rfl⟩
set_option maxRecDepth 100000 in
theorem lifted (os : Os) (started : os.Started) (H : Type) (enc : TypeId × Value → H) (F : Stop.Interp) :
    ReturnsInHanded {} Tryd.checked os 5 .any ((OpenSpec.ofChange Rows.satUnitsSpec).preRow enc Tryd.prog Tryd.f5 Rows.satUnitsRow.domain false Rows.satUnitsRow.laid) (((OpenSpec.ofChange Rows.satUnitsSpec).at F).post enc Tryd.prog Tryd.f5 false true false false) := by
  obtain ⟨places, hx⟩ := reads os enc
  refine returnsInHanded_of_row (C := Tryd.checked) (s := OpenSpec.ofChange Rows.satUnitsSpec) own started (by kernel_rfl) Tryd.func5
    (witness_row_at (enc := enc) (C := Tryd.checked) false (laidWorld os) wit rfl (by kernel_rfl) (by kernel_rfl) (by kernel_rfl)
      (OpenSpec.preRow_of_cond 8 hx (by kernel_rfl) (fun k hk => by cases hk) (by kernel_rfl) (laid_met os))) ?_
  intro W base args ds gs before hval hW _ _ _ hL _ _
  exact contract H enc W base args ds gs before hval hW hL
set_option maxRecDepth 100000 in
theorem said : Rows.SatUnitsSaid :=
  OpenClaim.holds_of_cond 5 Tryd.f5 rfl rfl rfl rfl rfl rfl rfl ⟨rfl, rfl, rfl, rfl, rfl⟩ rfl rfl rfl rfl rfl (by kernel_rfl) Tryd.func5 (by kernel_rfl)
    (of_decide_eq_true (by kernel_rfl)) (by unfold Func.isWrapper; first | (rw [if_pos (by decide +kernel)]; kernel_rfl) | (rw [if_neg (by decide +kernel)]; exact ⟨rfl, rfl⟩))
    (fun os started H enc _ F => by rw [OpenClaim.pre_eq_preRow]; exact lifted os started H enc F)
set_option maxRecDepth 100000 in
theorem plain1 (f : FuncId) (fn : Func) (hf : Tryd.pinned.checked.prog.funcNamed "sward/swardlaw20.SatUnits" = some f) (hfn : Tryd.pinned.checked.prog.funcs[f]? = some fn) :
    false = Tryd.pinned.checked.prog.looks [] ∧ ∀ (j : Nat) t, fn.params[j]? = some t → Tryd.pinned.checked.prog.wantsStandIn t = false := by
  obtain rfl : f = 5 := Option.some.inj ((show Tryd.prog.funcNamed "sward/swardlaw20.SatUnits" = some 5 by kernel_rfl).symm.trans hf) |>.symm
  obtain rfl : fn = Tryd.f5 := (Option.some.inj (Tryd.func5.symm.trans hfn)).symm
  refine ⟨by kernel_rfl, fun j t ht => ?_⟩
  rw [Tryd.params5] at ht
  have ht' : t ∈ [30, 32, 32] := List.mem_of_getElem? (i := j) (by simpa using ht)
  simp at ht'
  rcases ht' with rfl | rfl <;> exact (show Tryd.prog.wantsStandIn _ = false by kernel_rfl)
/-- The card. -/
theorem card : Rows.SatUnitsCardSaid :=
  Claim7.holds_tied_plain_at .later [] _ _ _ _ said (fun _ h => by cases h) (by kernel_rfl) (fun _ h => by cases h) satUnits_row_tie rfl ⟨rfl, rfl⟩ (by kernel_rfl) rfl plain1 (by kernel_rfl)
end Go.Proofs.YtfgfhplgnfbaaaaDoor.satUnits
