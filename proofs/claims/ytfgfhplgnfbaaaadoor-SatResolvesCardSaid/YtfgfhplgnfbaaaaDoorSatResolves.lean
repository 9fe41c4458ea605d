/- SatResolves of layer 20 returns true, for every input: the tied card. Its conditions: none beside the row's own. -/
import Derived.Test.YtfgfhplgnfbaaaaDoorFnA
import Derived.Test.YtfgfhplgnfbaaaaDoorLawA
namespace Go.Proofs.YtfgfhplgnfbaaaaDoor.satResolves
open Go Go.Ev Go.ChangeShapes Go.WideShapes Go.ChangeAt Go.RowKit Go.Proofs.YtfgfhplgnfbaaaaDoor

theorem works_true {h : Hp} (ht : Tb h) : EvT Ow 27 [] h (.bool true) h := Ow_works ht.1 ht.2
theorem lits_len (y m : Nat) : (litsN y m).length ≤ 30 := by
  unfold litsN digits
  rw [List.length_map]
  exact Nat.le_trans (List.length_filter_le _ _) (by simp)
theorem res_len (xs ys : List Int) (v : Int) : (resP xs ys v).1.length ≤ 30 := by
  unfold resP
  split
  · simp
  · split
    · simp
    · unfold fin38
      split
      · exact lits_len _ _
      · simp
theorem law {a a' : Option Addr} {n c n' c' : Nat} {h : Hp} {xs ys : List Int} (v : Int) (H : IntsAt h a n xs) (H' : IntsAt h a' n' ys) (ho : h.Ok) (ht : Tb h) : Ret Tryd.prog Ow 6 [.slice a n c, .slice a' n' c', .int .i64 v] h fun r _ => r = .bool true := by
  have hO : Oth Ow := Ow_oth
  refine rk6 _ _ _ _ _ _ _ (Ow_oth _ _ _ (by decide)) ?_
  unfold T6
  have hn := H.1
  have hn' := H'.1
  refine vcond_split (fun _ => ⟨_, _, works_true ht, rfl⟩) fun h1 => vcond_split (fun _ => ⟨_, _, works_true ht, rfl⟩) fun h2 => ?_
  have h1 : ¬ (40 : Int) < (n : Int) := not_lt_of_f h1
  have h2 : ¬ (40 : Int) < (n' : Int) := not_lt_of_f h2
  obtain ⟨v1, g1, e1, a1, n1, c1, rfl, A1, K1⟩ := ct38 hO v H H' (c := c) (c' := c') (by omega) (by omega) ho ht
  have H2 := H.up EInt.up K1
  have H2' := H'.up EInt.up K1
  have hl1 : (resP xs ys v).1.length < 1000000 := Nat.lt_of_le_of_lt (res_len xs ys v) (by decide)
  refine ⟨_, _, _, _, _, e1, ?_⟩
  obtain ⟨v2, g2, e2, a2, n2, c2, rfl, A2, K2⟩ := ct39 hO v H2 H2' (c := c) (c' := c') (by omega) (by omega) (ho.kp K1)
  refine ⟨_, _, _, _, _, e2, ?_⟩
  have A1' := A1.up EInt.up K2
  rw [← res_same xs ys v] at A2 ⊢
  obtain ⟨v3, g3, e3, rfl, K3⟩ := ct26 hO A1' A2 (c := c1) (c' := c2) hl1
  refine ⟨_, _, e3, ?_⟩
  rw [decide_eq_true rfl]
  refine vcond_t rfl (vcond_t (eqI_t rfl) ⟨_, _, works_true (((ht.kp K1 ht.1).kp K2 (Nat.lt_of_lt_of_le ht.1 K1.nx)).kp K3 (Nat.lt_of_lt_of_le ht.1 (Nat.le_trans K1.nx K2.nx))), rfl⟩)

/-- The arguments are of kinds that are built. -/
theorem builds {H : Type} {enc : TypeId × Value → H} {W : World} : ∀ t ∈ [32, 32, 3], ∀ n, Builds H enc Tryd.prog W n t := by
  have b3 : ∀ n, Builds H enc Tryd.prog W n 3 := fun n => by
    cases n with
    | zero => intro cs d ps h; simp [DataW.trod] at h
    | succ n => exact build_int Tryd.underlying3
  have b32 : ∀ n, Builds H enc Tryd.prog W n 32 := fun n => by
    cases n with
    | zero => intro cs d ps h; simp [DataW.trod] at h
    | succ n => exact build_slice (b3 n) (by rw [cellsInt]; decide) Tryd.underlying32
  intro t ht
  simp at ht
  rcases ht with rfl | rfl
  · exact b32
  · exact b3
set_option maxRecDepth 100000 in
theorem plain : ∀ t ∈ [32, 32, 3], Plain Tryd.prog 5 t = true := by
  intro t ht
  simp at ht
  rcases ht with rfl | rfl
  · kernel_rfl
  · kernel_rfl
set_option maxRecDepth 100000 in
theorem table {W : World} (h : laidMetH Tryd.prog Rows.satResolvesRow.laid W) : Lib.TabIs Tryd.prog W "math/bits.deBruijn32tab" .u8 nums :=
  Lib.tabIs_of_head (rest := []) gTab gTabType Tryd.underlying156 Tryd.underlying5 cellsOne cellsArr h

set_option maxRecDepth 100000 in
theorem contract (H : Type) (enc : TypeId × Value → H) (W : World) (base : Nat) (args : Array Value) (ds gs : List (DataW H)) (before : List MemPlace)
    (hval : ∀ (j : Nat) t v, Tryd.f6.params[j]? = some t → args[j]? = some v → Value.okWide Tryd.prog W .any base t v)
    (hW : DataW.Whole enc Tryd.prog Tryd.f6.params.toList Rows.satResolvesSpec.vars false W args.toList ds gs before) (hL : laidMetH Tryd.prog Rows.satResolvesRow.laid W) :
    Calls Tryd.prog 6 args W fun e W' => ∃ v, e = .returned v ∧ Rows.satResolvesSpec.post enc Tryd.prog Tryd.f6 false true false false W args v W' := by
  have hW' := hW
  obtain ⟨p, q, hA0, hV, rfl, hfz, hnd⟩ := hW
  have hA : DataW.TrodAll enc Tryd.prog W 0 (fun _ => true) true Tryd.f6.params.toList args.toList ds p := hA0
  rw [Tryd.params6] at hA hval
  obtain ⟨rfl, rfl⟩ := trodVars_none hV
  have hp : ∀ x ∈ p, x.block < W.heap.size := fun x hx => hW'.lt x (by simpa using hx)
  have hs : ∀ (i : Nat) t v, [32, 32, 3][i]? = some t → args.toList[i]? = some v → Shaped1 Tryd.prog t v := fun i t v h1 h2 =>
    shaped_of (plain t (List.mem_of_getElem? h1)) (hval i t v (by simpa using h1) (by rw [← Array.getElem?_toList]; exact h2))
  have hA2 := hA
  obtain ⟨v1, vs1, d1, ds1, p1, q1, e1, rfl, rfl, t1, r1⟩ := trodAll_cons hA2
  obtain ⟨v2, vs2, d2, ds2, p2, q2, rfl, rfl, rfl, t2, r2⟩ := trodAll_cons r1
  obtain ⟨v3, vs3, d3, ds3, p3, q3, rfl, rfl, rfl, t3, r3⟩ := trodAll_cons r2
  obtain ⟨rfl, rfl, rfl⟩ := trodAll_nil r3
  refine (law_calls (enc := enc) Tryd.func6 (by kernel_rfl) (by decide) (tab_cells (table hL)) hA builds hs fun h evs htb hok hg D => ?_).mono fun e W' ⟨he, hb⟩ => ?_
  · match evs, D with
    | [x1, x2, x3], ⟨⟨⟨n1, D1⟩, s1⟩, ⟨⟨n2, D2⟩, s2⟩, ⟨⟨n3, D3⟩, s3⟩, _⟩ =>
      have g32 : aggT Tryd.prog 32 ≠ some true := by unfold aggT; rw [Tryd.underlying32]; simp
      have g3 : aggT Tryd.prog 3 ≠ some true := by unfold aggT; rw [Tryd.underlying3]; simp
      have s1 := s1.resolve_left g32
      have s2 := s2.resolve_left g32
      have s3 := s3.resolve_left g3
      rw [s1] at D1
      rw [s2] at D2
      rw [s3] at D3
      obtain ⟨a, m, c, xs, z1, A1, _⟩ := DE_ints Tryd.underlying32 Tryd.underlying3 cellsInt D1
      obtain ⟨a', m', c', ys, z2, A2, _⟩ := DE_ints Tryd.underlying32 Tryd.underlying3 cellsInt D2
      obtain ⟨x, z3, _⟩ := DE_int Tryd.underlying3 D3
      injection z1 with z1 _
      injection z2 with z2 _
      injection z3 with z3 _
      subst z1 z2 z3
      exact law x A1 A2 hok htb
  · subst he
    refine ⟨_, rfl, post_of_old (pa := p1 ++ (p2 ++ (p3 ++ []))) (pv := []) hW' (fun _ _ _ => trodAll_cons_mk (shut_bool Tryd.underlying4 _) trodAll_mk0) (fun sp hsp => ?_) (fun _ _ => rfl) (by simp) (hb.frame _) (fun a ha => hb.frozen ha) (ok_one (by kernel_rfl) rfl (okWide_bool_mk Tryd.underlying4 _))⟩
    rw [Tryd.params6]
    exact again kids full (by intro t ht; simp at ht; rcases ht with rfl | rfl <;> exact of_decide_eq_true (by kernel_rfl)) hA hb hp sp (fun q hq => hsp q (by simpa using hq))

/-- The witness: two lists that are nil, and 0. -/
def wit : Array Value := #[.slice none 0 0, .slice none 0 0, .int .i64 0]
set_option maxRecDepth 100000 in
theorem laid_met (os : Os) : laidMet Tryd.prog Rows.satResolvesRow.laid ((laidWorld os).forCall (fun _ _ => 0) ⟨#[], wit, []⟩).memory :=
  laidMet_of_run' 8 (by kernel_rfl) (by kernel_rfl)
set_option maxRecDepth 100000 in
theorem reads (os : Os) {H : Type} (enc : TypeId × Value → H) : ∃ places, DataW.whole enc Tryd.prog ((laidWorld os).forCall (fun _ _ => 0) ⟨#[], wit, []⟩).memory Tryd.f6.params.toList Rows.satResolvesSpec.vars false wit.toList 8 = some ([.nil, .nil, .lit (.int .i64 0)], [], places) :=
  ⟨[], by kernel_rfl⟩

set_option maxRecDepth 100000 in
theorem lifted (os : Os) (started : os.Started) (H : Type) (enc : TypeId × Value → H) (F : Stop.Interp) :
    ReturnsInHanded {} Tryd.checked os 6 .any ((OpenSpec.ofChange Rows.satResolvesSpec).preRow enc Tryd.prog Tryd.f6 Rows.satResolvesRow.domain false Rows.satResolvesRow.laid) (((OpenSpec.ofChange Rows.satResolvesSpec).at F).post enc Tryd.prog Tryd.f6 false true false false) := by
  obtain ⟨places, hx⟩ := reads os enc
  refine returnsInHanded_of_row (C := Tryd.checked) (s := OpenSpec.ofChange Rows.satResolvesSpec) own started (by kernel_rfl) Tryd.func6
    (witness_row_at (enc := enc) (C := Tryd.checked) false (laidWorld os) wit rfl (by kernel_rfl) (by kernel_rfl) (by kernel_rfl)
      (OpenSpec.preRow_of_cond 8 hx (by kernel_rfl) (fun k hk => by cases hk) (by kernel_rfl) (laid_met os))) ?_
  intro W base args ds gs before hval hW _ _ _ hL _ _
  exact contract H enc W base args ds gs before hval hW hL

theorem said : Rows.SatResolvesSaid :=
  OpenClaim.holds_of_cond 6 Tryd.f6 rfl rfl rfl rfl rfl rfl rfl ⟨rfl, rfl, rfl, rfl, rfl⟩ rfl rfl rfl rfl rfl (by kernel_rfl) Tryd.func6 (by kernel_rfl)
    (of_decide_eq_true (by kernel_rfl)) (by unfold Func.isWrapper; first | (rw [if_pos (by decide +kernel)]; kernel_rfl) | (rw [if_neg (by decide +kernel)]; exact ⟨rfl, rfl⟩))
    (fun os started H enc _ F => by rw [OpenClaim.pre_eq_preRow]; exact lifted os started H enc F)

theorem plain1 (f : FuncId) (fn : Func) (hf : Tryd.pinned.checked.prog.funcNamed "sward/swardlaw20.SatResolves" = some f) (hfn : Tryd.pinned.checked.prog.funcs[f]? = some fn) :
    false = Tryd.pinned.checked.prog.looks [] ∧ ∀ (j : Nat) t, fn.params[j]? = some t → Tryd.pinned.checked.prog.wantsStandIn t = false := by
  obtain rfl : f = 6 := Option.some.inj ((show Tryd.prog.funcNamed "sward/swardlaw20.SatResolves" = some 6 by kernel_rfl).symm.trans hf) |>.symm
  obtain rfl : fn = Tryd.f6 := (Option.some.inj (Tryd.func6.symm.trans hfn)).symm
  refine ⟨by kernel_rfl, fun j t ht => ?_⟩
  rw [Tryd.params6] at ht
  have ht' : t ∈ [32, 32, 3] := List.mem_of_getElem? (i := j) (by simpa using ht)
  simp at ht'
  rcases ht' with rfl | rfl <;> exact (show Tryd.prog.wantsStandIn _ = false by kernel_rfl)

/-- The card. -/
theorem card : Rows.SatResolvesCardSaid :=
  Claim7.holds_tied_plain_at .later [] _ _ _ _ said (fun _ h => by cases h) (by kernel_rfl) (fun _ h => by cases h) satResolves_row_tie rfl ⟨rfl, rfl⟩ (by kernel_rfl) rfl plain1 (by kernel_rfl)
end Go.Proofs.YtfgfhplgnfbaaaaDoor.satResolves
