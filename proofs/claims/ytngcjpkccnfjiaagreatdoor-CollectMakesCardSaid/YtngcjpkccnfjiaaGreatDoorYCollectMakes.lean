/- CollectMakes of its layer returns true, for every input: the tied card. Its conditions: none beside the row's own. -/
import Derived.Test.YtngcjpkccnfjiaaGreatDoorYG
import Derived.Test.YtngcjpkccnfjiaaGreatDoorYH
namespace Go.Proofs.YtngcjpkccnfjiaaGreatDoor.collectMakes
open Go Go.Ev Go.ChangeShapes Go.WideShapes Go.ChangeAt Go.RowKit Go.Proofs.YtngcjpkccnfjiaaGreatDoor
/-- The arguments are of kinds that are built. -/
theorem builds {H : Type} {enc : TypeId × Value → H} {W : World} : ∀ t ∈ [24, 37, 22, 3, 3, 3], ∀ n, Builds H enc Tryz.prog W n t := by
  intro t ht
  simp at ht
  rcases ht with rfl | rfl | rfl | rfl
  · exact bld24
  · exact bld37
  · exact bld22
  · exact bld3
set_option maxRecDepth 100000 in
theorem plain : ∀ t ∈ [24, 37, 22, 3, 3, 3], Plain Tryz.prog 5 t = true := by
  intro t ht
  simp at ht
  rcases ht with rfl | rfl | rfl | rfl
  · kernel_rfl
  · kernel_rfl
  · kernel_rfl
  · kernel_rfl
theorem table {W : World} (h : laidMetH Tryz.prog Rows.collectMakesRow.laid W) : ∀ j x, tab[j]? = some x → W.cell? ⟨0, j, none⟩ = some x := tab_cells (truth_of rfl h)
set_option maxRecDepth 100000 in
theorem contract (H : Type) (enc : TypeId × Value → H) (W : World) (base : Nat) (args : Array Value) (ds gs : List (DataW H)) (before : List MemPlace)
    (hval : ∀ (j : Nat) t v, Tryz.f4.params[j]? = some t → args[j]? = some v → Value.okWide Tryz.prog W .any base t v)
    (hW : DataW.Whole enc Tryz.prog Tryz.f4.params.toList Rows.collectMakesSpec.vars false W args.toList ds gs before) (hL : laidMetH Tryz.prog Rows.collectMakesRow.laid W) :
    Calls Tryz.prog 4 args W fun e W' => ∃ v, e = .returned v ∧ Rows.collectMakesSpec.post enc Tryz.prog Tryz.f4 false true false false W args v W' := by
  have hW' := hW
  obtain ⟨p, q, hA0, hV, rfl, hfz, hnd⟩ := hW
  have hA : DataW.TrodAll enc Tryz.prog W 0 (fun _ => true) true Tryz.f4.params.toList args.toList ds p := hA0
  rw [Tryz.params4] at hA hval
  obtain ⟨rfl, rfl⟩ := trodVars_none hV
  have hp : ∀ x ∈ p, x.block < W.heap.size := fun x hx => hW'.lt x (by simpa using hx)
  have hs : ∀ (i : Nat) t v, [24, 37, 22, 3, 3, 3][i]? = some t → args.toList[i]? = some v → Shaped1 Tryz.prog t v := fun i t v h1 h2 =>
    shaped_of (plain t (List.mem_of_getElem? h1)) (hval i t v (by simpa using h1) (by rw [← Array.getElem?_toList]; exact h2))
  have hA2 := hA
  obtain ⟨v1, vs1, d1, ds1, p1, q1, e1, rfl, rfl, t1, r1⟩ := trodAll_cons hA2
  obtain ⟨v2, vs2, d2, ds2, p2, q2, rfl, rfl, rfl, t2, r2⟩ := trodAll_cons r1
  obtain ⟨v3, vs3, d3, ds3, p3, q3, rfl, rfl, rfl, t3, r3⟩ := trodAll_cons r2
  obtain ⟨v4, vs4, d4, ds4, p4, q4, rfl, rfl, rfl, t4, r4⟩ := trodAll_cons r3
  obtain ⟨v5, vs5, d5, ds5, p5, q5, rfl, rfl, rfl, t5, r5⟩ := trodAll_cons r4
  obtain ⟨v6, vs6, d6, ds6, p6, q6, rfl, rfl, rfl, t6, r6⟩ := trodAll_cons r5
  obtain ⟨rfl, rfl, rfl⟩ := trodAll_nil r6
  refine (law_calls (enc := enc) Tryz.func4 (by kernel_rfl) (by decide) (table hL) hA builds hs fun h evs htb hok hg D => ?_).mono fun e W' ⟨he, hb⟩ => ?_
  · match evs, D with
    | [x1, x2, x3, x4, x5, x6], ⟨⟨⟨n1, D1⟩, s1⟩, ⟨⟨n2, D2⟩, s2⟩, ⟨⟨n3, D3⟩, s3⟩, ⟨⟨n4, D4⟩, s4⟩, ⟨⟨n5, D5⟩, s5⟩, ⟨⟨n6, D6⟩, s6⟩, _⟩ =>
      obtain ⟨aw, nw, cw, W, top, ar, nr, cr, R, rfl, A⟩ := heap_of D1
      obtain ⟨kd, hkd, wkd⟩ := DE_int Tryz.underlying37 D2
      have e2 : x2 = .int .i64 kd := by
        rcases s2 with h | h
        · rw [aggT, Tryz.underlying37] at h; cases h
        · rw [hkd] at h; injection h with h; exact h.symm
      subst e2
      have s3 := s3.resolve_left (by rw [aggT, Tryz.underlying22]; exact fun h => by cases h)
      rw [s3] at D3
      obtain ⟨a2, n2, c2, xs, z2, X, hX⟩ := DE_ints2 Tryz.underlying22 Tryz.underlying3 cellsInt D3
      injection z2 with z2 _
      subst z2
      obtain ⟨za, hza, wza⟩ := DE_int Tryz.underlying3 D4
      have e4 : x4 = .int .i64 za := by
        rcases s4 with h | h
        · rw [aggT, Tryz.underlying3] at h; cases h
        · rw [hza] at h; injection h with h; exact h.symm
      subst e4
      obtain ⟨zn, hzn, wzn⟩ := DE_int Tryz.underlying3 D5
      have e5 : x5 = .int .i64 zn := by
        rcases s5 with h | h
        · rw [aggT, Tryz.underlying3] at h; cases h
        · rw [hzn] at h; injection h with h; exact h.symm
      subst e5
      obtain ⟨zw, hzw, wzw⟩ := DE_int Tryz.underlying3 D6
      have e6 : x6 = .int .i64 zw := by
        rcases s6 with h | h
        · rw [aggT, Tryz.underlying3] at h; cases h
        · rw [hzw] at h; injection h with h; exact h.symm
      subst e6
      have hw : In64 zw := by
        have h9 : (decide (IntKind.i64.min ≤ zw) && decide (zw ≤ IntKind.i64.max)) = true := wzw
        simp only [Bool.and_eq_true, decide_eq_true_eq] at h9
        have m1 : IntKind.i64.min = -9223372036854775808 := rfl
        have m2 : IntKind.i64.max = 9223372036854775807 := rfl
        exact ⟨by omega, by omega⟩
      exact law4 hok htb A kd X.at_ hX za zn hw
  · subst he
    refine ⟨_, rfl, post_of_old (pa := p1 ++ (p2 ++ (p3 ++ (p4 ++ (p5 ++ (p6 ++ [])))))) (pv := []) hW' (fun _ _ _ => trodAll_cons_mk (shut_bool Tryz.underlying4 _) trodAll_mk0) (fun sp hsp => ?_) (fun _ _ => rfl) (by simp) (hb.frame _) (fun a ha => hb.frozen ha) (ok_one (by kernel_rfl) rfl (okWide_bool_mk Tryz.underlying4 _))⟩
    rw [Tryz.params4]
    exact again kids full (by intro t ht; simp at ht; rcases ht with rfl | rfl | rfl | rfl <;> exact of_decide_eq_true (by kernel_rfl)) hA hb hp sp (fun q hq => hsp q (by simpa using hq))
/-- The witness. -/
def wit : Array Value := #[.agg #[.slice none 0 0, .int .i64 0, .slice none 0 0], .int .i64 0, .slice none 0 0, .int .i64 0, .int .i64 0, .int .i64 0]
set_option maxRecDepth 100000 in
theorem laid_met (os : Os) : laidMet Tryz.prog Rows.collectMakesRow.laid ((laidWorld os).forCall (fun _ _ => 0) ⟨#[], wit, []⟩).memory :=
  laidMet_of_run' 8 (by kernel_rfl) (by kernel_rfl)
set_option maxRecDepth 100000 in
theorem reads (os : Os) {H : Type} (enc : TypeId × Value → H) : ∃ places, DataW.whole enc Tryz.prog ((laidWorld os).forCall (fun _ _ => 0) ⟨#[], wit, []⟩).memory Tryz.f4.params.toList Rows.collectMakesSpec.vars false wit.toList 8 = some ([.agg [.nil, .lit (.int .i64 0), .nil], .lit (.int .i64 0), .nil, .lit (.int .i64 0), .lit (.int .i64 0), .lit (.int .i64 0)], [], places) :=
  ⟨[], by kernel_rfl⟩
set_option maxRecDepth 100000 in
theorem lifted (os : Os) (started : os.Started) (H : Type) (enc : TypeId × Value → H) (F : Stop.Interp) :
    ReturnsInHanded {} Tryz.checked os 4 .any ((OpenSpec.ofChange Rows.collectMakesSpec).preRow enc Tryz.prog Tryz.f4 Rows.collectMakesRow.domain false Rows.collectMakesRow.laid) (((OpenSpec.ofChange Rows.collectMakesSpec).at F).post enc Tryz.prog Tryz.f4 false true false false) := by
  obtain ⟨places, hx⟩ := reads os enc
  refine returnsInHanded_of_row (C := Tryz.checked) (s := OpenSpec.ofChange Rows.collectMakesSpec) own started (by kernel_rfl) Tryz.func4
    (witness_row_at (enc := enc) (C := Tryz.checked) false (laidWorld os) wit rfl (by kernel_rfl) (by kernel_rfl) (by kernel_rfl)
      (OpenSpec.preRow_of_cond 8 hx (by kernel_rfl) (fun k hk => by cases hk) (by kernel_rfl) (laid_met os))) ?_
  intro W base args ds gs before hval hW _ _ _ hL _ _
  exact contract H enc W base args ds gs before hval hW hL
set_option maxRecDepth 100000 in
theorem said : Rows.CollectMakesSaid :=
  OpenClaim.holds_of_cond 4 Tryz.f4 rfl rfl rfl rfl rfl rfl rfl ⟨rfl, rfl, rfl, rfl, rfl⟩ rfl rfl rfl rfl rfl (by kernel_rfl) Tryz.func4 (by kernel_rfl)
    (of_decide_eq_true (by kernel_rfl)) (by unfold Func.isWrapper; first | (rw [if_pos (by decide +kernel)]; kernel_rfl) | (rw [if_neg (by decide +kernel)]; exact ⟨rfl, rfl⟩))
    (fun os started H enc _ F => by rw [OpenClaim.pre_eq_preRow]; exact lifted os started H enc F)
set_option maxRecDepth 100000 in
theorem plain1 (f : FuncId) (fn : Func) (hf : Tryz.pinned.checked.prog.funcNamed "sward/swardlaw15.CollectMakes" = some f) (hfn : Tryz.pinned.checked.prog.funcs[f]? = some fn) :
    true = Tryz.pinned.checked.prog.looks [] ∧ ∀ (j : Nat) t, fn.params[j]? = some t → Tryz.pinned.checked.prog.wantsStandIn t = false := by
  obtain rfl : f = 4 := Option.some.inj ((show Tryz.prog.funcNamed "sward/swardlaw15.CollectMakes" = some 4 by kernel_rfl).symm.trans hf) |>.symm
  obtain rfl : fn = Tryz.f4 := (Option.some.inj (Tryz.func4.symm.trans hfn)).symm
  refine ⟨by kernel_rfl, fun j t ht => ?_⟩
  rw [Tryz.params4] at ht
  have ht' : t ∈ [24, 37, 22, 3, 3, 3] := List.mem_of_getElem? (i := j) (by simpa using ht)
  simp at ht'
  rcases ht' with rfl | rfl | rfl | rfl <;> exact (show Tryz.prog.wantsStandIn _ = false by kernel_rfl)
/-- The card. -/
theorem card : Rows.CollectMakesCardSaid :=
  Claim7.holds_tied_plain_at .later [] _ _ _ _ said (fun _ h => by cases h) (by kernel_rfl) (fun _ h => by cases h) collectMakes_row_tie rfl ⟨rfl, rfl⟩ (by kernel_rfl) rfl plain1 (by kernel_rfl)
end Go.Proofs.YtngcjpkccnfjiaaGreatDoor.collectMakes
