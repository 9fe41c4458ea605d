/- All operations that ask nothing of memory. -/
import Derived.Test.YtfgfhplgnfbaaaaDoorEvPure4
namespace Go.Ev
open Go
section
variable {P : Program} {ι : Inj} {t : Fr} {n : Nat} {a : Act} (hg : GR P ι) (hr : RT ι t n a)
include hg hr

theorem pure_len {dst ty pos af gu args ats v} (h : stepPure P t ⟨dst, .call ⟨.builtin .len, args, ats⟩, ty, pos, af, gu⟩ = some v) : PureOk P ι a ⟨dst, .call ⟨.builtin .len, args, ats⟩, ty, pos, af, gu⟩ v := by
  simp only [stepPure] at h
  obtain ⟨xv, hx, h1⟩ := Option.bind_eq_some_iff.1 h
  have hxv := opv_sound hg hr hx
  split at h1
  · rename_i q l c e hu
    obtain ⟨hs, h2⟩ := cond_some h1
    obtain rfl := Option.some.inj h2
    have hs1 : args.size = 1 := Nat.eq_of_beq_eq_true hs
    obtain ⟨x, rfl⟩ : ∃ x, args = #[x] := by
      obtain ⟨l⟩ := args
      match l, hs1 with
      | [x], _ => exact ⟨x, rfl⟩
    obtain ⟨t0, ht0, hu0⟩ := Option.bind_eq_some_iff.1 hu
    have hxx : a.eval ((#[x] : Array Operand).getD 0 (.const undef)) = a.eval x := rfl
    rw [hxx] at hxv
    obtain ⟨q', c', he⟩ : ∃ q' c', a.eval x = .slice q' l c' := by
      generalize a.eval x = z at hxv
      cases hxv <;> exact ⟨_, _, rfl⟩
    refine ⟨_, .flat rfl, fun w => ?_⟩
    simp only [execOp, resolve, invoke, builtin, Sem.run_bind, Sem.run_pure, Result.andThen_ok, List.map_toArray, List.map_cons, List.map_nil, he, Builtin.len_, ht0, show (#[Value.slice q' l c'] : Array Value)[0]? = some (.slice q' l c') from rfl, run_underlying hu0]
    rfl
  · exact .of_flat hg hr (fun _ _ hh => by cases hh) h1

theorem stepPure_sound {o : Oper} (hk : kindOf o.op = .pure_) {v : Value} (h : stepPure P t o = some v) : PureOk P ι a o v := by
  obtain ⟨dst, op, ty, pos, af, gu⟩ := o
  cases op with
  | move x => exact pure_move hg hr h
  | assign x => exact pure_assign hg hr h
  | pick c x y => exact pure_pick hg hr h
  | build s ps => exact pure_build hg hr h
  | nilCheck x => exact pure_nilCheck hg hr h
  | binOp op xt x y yt => exact pure_binOp hg hr h
  | convert s d x => exact pure_convert hg hr h
  | makeInterface t' x => exact pure_makeInterface hg hr h
  | makeFunc f x y => exact pure_makeFunc hg hr h
  | fieldAddr s x f => exact pure_fieldAddr hg hr h
  | field s x f => exact pure_field hg hr h
  | indexAddr s x i => exact pure_indexAddr hg hr h
  | extract x i => exact pure_extract hg hr h
  | call c =>
    obtain ⟨callee, args, ats⟩ := c
    cases callee with
    | value f => cases hk
    | invoke r m => cases hk
    | builtin b =>
      cases b with
      | len => exact pure_len hg hr h
      | max => exact .of_flat hg hr (fun _ _ hh => by cases hh) h
      | min => exact .of_flat hg hr (fun _ _ hh => by cases hh) h
      | _ => cases hk
  | unOp op xt x => exact .of_flat hg hr (fun _ _ hh => by cases hh) h
  | sliceToArrayPointer d x => exact .of_flat hg hr (fun _ _ hh => by cases hh) h
  | index xt x i => exact .of_flat hg hr (fun _ _ hh => by cases hh) h
  | typeAssert x xt as_ ok => exact .of_flat hg hr (fun _ _ hh => by cases hh) h
  | _ => cases hk
end
end Go.Ev
