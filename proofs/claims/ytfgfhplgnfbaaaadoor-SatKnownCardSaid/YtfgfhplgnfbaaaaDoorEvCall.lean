/- The evaluator's calls are the model's. -/
import Derived.Test.YtfgfhplgnfbaaaaDoorEvReg
namespace Go.Ev
open Go

theorem argsIn_spec : ∀ (l : List Value) (i : Nat) (t : Fr), (∀ k, (argsIn i l t).has k = t.has k) ∧ ∀ k, slot (argsIn i l t) k = if i ≤ k ∧ k < i + l.length then (if t.has k then l.getD (k - i) undef else undef) else slot t k := by
  intro l
  induction l with
  | nil => intro i t; exact ⟨fun _ => rfl, fun k => by rw [if_neg (by simp)]; rfl⟩
  | cons v l ih =>
    intro i t
    obtain ⟨h1, h2⟩ := ih (i + 1) (t.set i v)
    refine ⟨fun k => by rw [argsIn, h1, Tr.has_set], fun k => ?_⟩
    rw [argsIn, h2, Tr.has_set]
    by_cases hk : k = i
    · subst hk
      rw [if_neg (by omega), if_pos ⟨Nat.le_refl _, by simp⟩]
      simp [slot, Tr.get_set]
    · by_cases hr : i + 1 ≤ k ∧ k < i + 1 + l.length
      · rw [if_pos hr, if_pos (show i ≤ k ∧ k < i + (v :: l).length from ⟨by omega, by simp; omega⟩), show k - i = (k - (i + 1)) + 1 by omega]
        simp
      · rw [if_neg hr, if_neg (by simp; omega)]
        simp [slot, Tr.get_set, hk]

/-- The state in which a function begins. -/
theorem frame_RT {ι : Inj} {args args' : List Value} (h : VRs ι args args') (n : Nat) (hp : Hp) :
    RT ι (frame n args hp).t (frame n args hp).n { tmps := args'.toArray ++ Array.replicate (n - args'.toArray.size) undef, defers := [] } := by
  have hm : (frame n args hp).n = max n args.length := rfl
  have hf : ∀ k, k < max n args.length → (Tr.full undef (max n args.length + 1)).has k = true := fun k hk => Tr.has_full _ _ _ (by have : max n args.length + 1 < 2 ^ (max n args.length + 1) := Nat.lt_two_pow_self; omega)
  obtain ⟨h1, h2⟩ := argsIn_spec args 0 (Tr.full undef (max n args.length + 1))
  refine ⟨by rw [hm]; simp [h.1]; omega, fun k => ?_, fun d hd => ?_⟩
  · show VR ι (slot (argsIn 0 args (Tr.full undef (max n args.length + 1))) k) _
    rw [h2, Array.getD_eq_getD_getElem?, Array.getElem?_append]
    by_cases hk : k < args.length
    · rw [if_pos ⟨Nat.zero_le _, by omega⟩, if_pos (hf k (by omega)), if_pos (by simp [h.1, hk])]
      have hk' : k < args'.length := by rw [h.1]; exact hk
      simpa [hk, hk'] using h.2 k _ _ (List.getElem?_eq_getElem hk) (List.getElem?_eq_getElem hk')
    · rw [if_neg (by omega), if_neg (by simp [h.1, hk])]
      have e1 : slot (Tr.full undef (max n args.length + 1)) k = undef := Tr.get_full ..
      rw [e1, Array.getElem?_replicate]
      split <;> exact .flat rfl
  · show (argsIn 0 args (Tr.full undef (max n args.length + 1))).has d = true
    rw [h1]; exact hf d (by rw [hm] at hd; exact hd)

/-- What one result is. -/
noncomputable def resV (P : Program) (s : St) (r : ResultVar) : Option Value := match r with
      | .tmp i => some (slot s.t i)
      | .cell a ty => match slot s.t a with
        | .pointer (some ⟨b, off, none⟩) => do
          let ag ← aggT P ty
          bif ag then do
            let n ← sz P ty
            let l ← readAt s.h b off n
            some (.agg l.toArray)
          else (readAt s.h b off 1).map fun l => l.headD undef
        | _ => none

theorem results_sound {P : Program} {fn : Func} {s : St} {v : Value} {ι : Inj} {a : Act} {w : World} (hr : RT ι s.t s.n a) (R : RH P ι s.h w) (h : resultsOf P fn s = some v) : ∃ v', (results fn a.tmps).run P w = .ok v' w ∧ VR ι v v' := by
  unfold resultsOf at h
  obtain ⟨vs, hvs, h1⟩ := Option.bind_eq_some_iff.1 h
  have hvs : mapO (resV P s) fn.results.toList = some vs := hvs
  let f : ResultVar → Sem Value := fun r => match r with
    | .tmp t => pure (a.tmps.getD t undef)
    | .cell x t => do loadVar t (← asAddr (a.tmps.getD x undef))
  have one : ∀ r v, resV P s r = some v → ∃ v', (f r).run P w = .ok v' w ∧ VR ι v v' := by
    intro r v hv
    cases r with
    | tmp i => obtain rfl := Option.some.inj hv; exact ⟨_, rfl, hr.slots i⟩
    | cell x t =>
      simp only [resV] at hv
      have hs := hr.slots x
      split at hv
      · rename_i b off he
        rw [he] at hs
        generalize hg : a.tmps.getD x undef = y at hs
        cases hs with
        | flat hf => exact Bool.noConfusion (show false = true from hf)
        | @ptr _ _ vw hvw =>
          obtain ⟨v', k1, k2⟩ := load_sound hr R (ty := t) (off := off) (v := v) hvw (by
            obtain ⟨ag, hag, hv⟩ := Option.bind_eq_some_iff.1 hv
            rw [hag]
            cases ag with
            | true =>
              obtain ⟨m, hm, hv⟩ := Option.bind_eq_some_iff.1 hv
              obtain ⟨l, hl, hv⟩ := Option.bind_eq_some_iff.1 hv
              simp only [Option.bind_some, cond_true, hm, hl, Option.map_some]
              exact hv
            | false => exact hv)
          refine ⟨v', ?_, k1⟩
          simp only [f, hg, asAddr, Sem.run_bind, Sem.run_pure, Result.andThen_ok, k2]
      · cases hv
  have all : ∀ (l : List ResultVar) vs, mapO (resV P s) l = some vs → ∃ vs', (l.mapM f).run P w = .ok vs' w ∧ VRs ι vs vs' := by
    intro l
    induction l with
    | nil => intro vs h; obtain rfl := Option.some.inj h; exact ⟨[], rfl, .nil ι⟩
    | cons r l ih =>
      intro vs h
      rw [mapO_cons] at h
      obtain ⟨b, hb, h1⟩ := Option.bind_eq_some_iff.1 h
      obtain ⟨c, hc, rfl⟩ := Option.map_eq_some_iff.1 h1
      obtain ⟨b', g1, g2⟩ := one r b hb
      obtain ⟨c', k1, k2⟩ := ih c hc
      refine ⟨b' :: c', ?_, .cons g2 k2⟩
      rw [List.mapM_cons]
      simp only [Sem.run_bind, g1, Result.andThen_ok, k1, Sem.run_pure]
  obtain ⟨vs', g1, g2⟩ := all _ _ hvs
  have run : (fn.results.mapM f).run P w = .ok vs'.toArray w := by
    rw [Array.mapM_eq_mapM_toList, Sem.run_map, g1]
    rfl
  have hres : (results fn a.tmps).run P w = .ok (if h : vs'.toArray.size = 1 then vs'.toArray[0] else .tuple vs'.toArray) w := by
    unfold results
    rw [Sem.run_bind]
    have run' : ∀ g : ResultVar → Sem Value, (∀ r, g r = f r) → (fn.results.mapM g).run P w = .ok vs'.toArray w := fun g hg => by rw [show g = f from funext hg]; exact run
    rw [run' _ (fun r => by cases r <;> rfl)]
    rfl
  rw [hres]
  refine ⟨_, rfl, ?_⟩
  match vs, h1, g2 with
  | [x], h1, g2 =>
    obtain rfl := Option.some.inj h1
    obtain ⟨y, c, rfl, hxy, hc⟩ := g2.head
    obtain rfl := List.length_eq_zero_iff.1 hc.1
    exact hxy
  | [], h1, g2 =>
    obtain rfl := Option.some.inj h1
    obtain rfl := List.length_eq_zero_iff.1 g2.1
    exact .flat rfl
  | x :: y :: r, h1, g2 =>
    obtain rfl := Option.some.inj h1
    rw [dif_neg (by simp [g2.1])]
    have := VRs.arr (a := (x :: y :: r).toArray) (a' := vs'.toArray) (ι := ι) |>.1 (by simpa using g2)
    exact .tup this.1 this.2

/-- No function is called that. -/
def NoNum (P : Program) : Prop := ∀ (f : FuncId) (fn : Func), P.funcs[f]? = some fn → (fn.name == "runtime.NumGoroutine") = false

section
variable {P : Program} (hm : P.follows .mixedOrders = true) (hN : NoNum P)
include hm hN

/-- A call of a function with a body. -/
theorem body_sound {cf : CallF} (hc : COk P cf) {f : FuncId} {fn : Func} {c : Code} (hf : P.funcs[f]? = some fn) (hb : fn.body = some c) {fuel : Nat} {args args' : List Value} {h : Hp} {r : Ex × St} {v : Value} {ι : Inj} {w : World}
    (hev : ev P cf fuel c (frame fn.ntmps args h) = some r) (hnr : r.1 = .normal ∨ r.1 = .ret) (hv : resultsOf P fn r.2 = some v) (R : RH P ι h w) (ha : VRs ι args args') {K : Ending → World → Prop}
    (hK : ∀ ι' v' w', Went P h ι w r.2.h ι' w' → VR ι' v v' → K (.returned v') w') : Calls P f args'.toArray w K := by
  have _ := hN
  refine calls_of_wp hf hb (ev_sound (reg_ok hm hc) fuel c hev (frame_RT ha fn.ntmps h) R rfl _ fun ι' a' w' g1 g2 g3 g4 => ?_)
  obtain ⟨v', k1, k2⟩ := results_sound g2 g1.rh hv
  rcases hnr with e | e <;> rw [e] <;> exact ⟨g4, v', k1, hK ι' v' w' g1 k2⟩

theorem evCall_sound (fuel : Nat) : ∀ d, COk P (evCall P fuel d) := by
  intro d
  induction d with
  | zero => intro f args h v h' hs; cases hs
  | succ d ih =>
    intro f args h v h' hs ι w args' R ha o a next Q hn
    have hs : (P.funcs[f]?).bind (fun fn => match fn.body with
      | none => bif args.all flat then (match pureRun P (callFunc f args.toArray) with
          | some (.value v) => bif flat v then some (v, h) else none
          | _ => none) else none
      | some c => (ev P (evCall P fuel d) fuel c (frame fn.ntmps args h)).bind fun r => match r.1 with
        | .normal | .ret => (resultsOf P fn r.2).map fun v => (v, r.2.h)
        | _ => none) = some (v, h') := hs
    obtain ⟨fn, hf, h1⟩ := Option.bind_eq_some_iff.1 hs
    cases hb : fn.body with
    | none =>
      rw [hb] at h1
      obtain ⟨hfl, h2⟩ := cond_some h1
      obtain rfl := ha.flat_eq hfl
      split at h2
      · rename_i v0 hrun
        obtain ⟨hfv, h3⟩ := cond_some h2
        injection h3 with h3
        injection h3 with e1 e2
        subst e1 e2
        rw [pureRun_sound hrun w]
        exact hn ι v0 w (.refl R) (.flat hfv)
      · cases h2
    | some c =>
      rw [hb] at h1
      obtain ⟨r, hev, h2⟩ := Option.bind_eq_some_iff.1 h1
      have he : (callFunc f args'.toArray).run P w = .ok (.enter f args'.toArray) w := by
        have hname := hN f fn hf
        simp [callFunc, hf, hb]
        simpa using hname
      rw [he]
      have key : (r.1 = .normal ∨ r.1 = .ret) ∧ (resultsOf P fn r.2).map (fun v => (v, r.2.h)) = some (v, h') := by
        cases hr1 : r.1 with
        | normal => rw [hr1] at h2; exact ⟨.inl rfl, h2⟩
        | ret => rw [hr1] at h2; exact ⟨.inr rfl, h2⟩
        | exit id => rw [hr1] at h2; cases h2
      obtain ⟨v0, hv0, e0⟩ := Option.map_eq_some_iff.1 key.2
      injection e0 with e1 e2
      subst e1 e2
      exact body_sound hm hN ih hf hb hev key.1 hv0 R ha fun ι' v' w' g1 g2 => hn ι' v' w' g1 g2

/-- A call that the evaluator foresees. -/
theorem calls_of_ev {fuel d : Nat} {f : FuncId} {fn : Func} (hf : P.funcs[f]? = some fn) (hb : fn.body.isSome = true) {args args' : List Value} {h h' : Hp} {v : Value} (hs : evCall P fuel d f args h = some (v, h')) {ι : Inj} {w : World} (R : RH P ι h w) (ha : VRs ι args args') :
    Calls P f args'.toArray w fun e w' => ∃ ι' v', e = .returned v' ∧ Went P h ι w h' ι' w' ∧ VR ι' v v' := by
  cases d with
  | zero => cases hs
  | succ d =>
    have hs : (P.funcs[f]?).bind (fun fn => match fn.body with
      | none => bif args.all flat then (match pureRun P (callFunc f args.toArray) with
          | some (.value v) => bif flat v then some (v, h) else none
          | _ => none) else none
      | some c => (ev P (evCall P fuel d) fuel c (frame fn.ntmps args h)).bind fun r => match r.1 with
        | .normal | .ret => (resultsOf P fn r.2).map fun v => (v, r.2.h)
        | _ => none) = some (v, h') := hs
    rw [hf] at hs
    cases hbd : fn.body with
    | none => rw [hbd] at hb; cases hb
    | some c =>
      simp only [Option.bind_some, hbd] at hs
      obtain ⟨r, hev, h2⟩ := Option.bind_eq_some_iff.1 hs
      have key : (r.1 = .normal ∨ r.1 = .ret) ∧ (resultsOf P fn r.2).map (fun v => (v, r.2.h)) = some (v, h') := by
        cases hr1 : r.1 with
        | normal => rw [hr1] at h2; exact ⟨.inl rfl, h2⟩
        | ret => rw [hr1] at h2; exact ⟨.inr rfl, h2⟩
        | exit id => rw [hr1] at h2; cases h2
      obtain ⟨v0, hv0, e0⟩ := Option.map_eq_some_iff.1 key.2
      injection e0 with e1 e2
      subst e1 e2
      exact body_sound hm hN (evCall_sound hm hN fuel d) hf hbd hev key.1 hv0 R ha fun ι' v' w' g1 g2 => ⟨ι', v', rfl, g1, g2⟩
end
end Go.Ev
