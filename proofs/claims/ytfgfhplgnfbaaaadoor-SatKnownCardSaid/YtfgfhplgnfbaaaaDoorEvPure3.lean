/- Each operation that asks nothing of memory, two. -/
import Derived.Test.YtfgfhplgnfbaaaaDoorEvPure2
import Derived.Laws.Alloc2
namespace Go.Ev
open Go

section
variable {P : Program} {ι : Inj} {t : Fr} {n : Nat} {a : Act} (hg : GR P ι) (hr : RT ι t n a)

/-- What is shown of each. -/
def PureOk (P : Program) (ι : Inj) (a : Act) (o : Oper) (v : Value) : Prop := ∃ v', VR ι v v' ∧ ∀ w, (execOp a.eval o).run P w = .ok (.value v') w

include hg hr
theorem PureOk.of_flat {o : Oper} (hs : ∀ cs b, o.op ≠ .select cs b) {v : Value} (h : flatRun P t o = some v) : PureOk P ι a o v :=
  let ⟨h1, h2⟩ := flatRun_sound hg hr hs h
  ⟨v, .flat h1, h2⟩

theorem pure_move {dst ty pos af gu x v} (h : opv P t x = some v) : PureOk P ι a ⟨dst, .move x, ty, pos, af, gu⟩ v := ⟨_, opv_sound hg hr h, fun _ => rfl⟩
theorem pure_assign {dst ty pos af gu x v} (h : opv P t x = some v) : PureOk P ι a ⟨dst, .assign x, ty, pos, af, gu⟩ v := ⟨_, opv_sound hg hr h, fun _ => rfl⟩

theorem pure_pick {dst ty pos af gu c x y v} (h : stepPure P t ⟨dst, .pick c x y, ty, pos, af, gu⟩ = some v) : PureOk P ι a ⟨dst, .pick c x y, ty, pos, af, gu⟩ v := by
  simp only [stepPure] at h
  obtain ⟨cv, hc, h⟩ := Option.bind_eq_some_iff.1 h
  split at h
  · obtain ⟨_, _, h⟩ := Option.bind_eq_some_iff.1 h
    refine ⟨_, opv_sound hg hr h, fun w => ?_⟩
    have e := (opv_sound hg hr hc).bool_iff
    simp [execOp, e, asBool]
  · obtain ⟨_, _, h⟩ := Option.bind_eq_some_iff.1 h
    refine ⟨_, opv_sound hg hr h, fun w => ?_⟩
    have e := (opv_sound hg hr hc).bool_iff
    simp [execOp, e, asBool]
  · cases h

theorem pure_extract {dst ty pos af gu x i v} (h : stepPure P t ⟨dst, .extract x i, ty, pos, af, gu⟩ = some v) : PureOk P ι a ⟨dst, .extract x i, ty, pos, af, gu⟩ v := by
  simp only [stepPure] at h
  obtain ⟨xv, hx, h⟩ := Option.bind_eq_some_iff.1 h
  split at h
  · rename_i vs
    obtain ⟨vs', he, hvs⟩ := (opv_sound hg hr hx).tup_iff
    rw [nth_eq] at h
    obtain ⟨y, hy, hv⟩ := hvs.get h
    rw [Array.getElem?_toList] at hy
    refine ⟨y, hv, fun w => ?_⟩
    simp [execOp, he, Instr.extract, hy]
  · cases h

theorem pure_makeInterface {dst ty pos af gu t' x v} (h : stepPure P t ⟨dst, .makeInterface t' x, ty, pos, af, gu⟩ = some v) : PureOk P ι a ⟨dst, .makeInterface t' x, ty, pos, af, gu⟩ v := by
  simp only [stepPure] at h
  obtain ⟨xv, hx, h⟩ := Option.bind_eq_some_iff.1 h
  cases hu : P.underlying t' with
  | none => rw [hu] at h; cases h
  | some d =>
    rw [hu] at h
    have hd : (∀ ms, d ≠ .interface ms) ∧ v = .iface t' xv := by
      cases d <;> first | (cases h; done) | exact ⟨(fun ms hh => by injection hh), (Option.some.inj h).symm⟩
    obtain ⟨hd, rfl⟩ := hd
    refine ⟨.iface t' (a.eval x), .iface (opv_sound hg hr hx), fun w => ?_⟩
    simp only [execOp, Instr.makeInterface]
    refine run_value ?_
    rw [Sem.run_bind, run_underlying hu w]
    simp only [Result.andThen_ok]
    cases d <;> first | exact absurd rfl (hd _) | rfl

theorem pure_makeFunc {dst ty pos af gu f x y v} (h : stepPure P t ⟨dst, .makeFunc f x y, ty, pos, af, gu⟩ = some v) : PureOk P ι a ⟨dst, .makeFunc f x y, ty, pos, af, gu⟩ v := by
  simp only [stepPure] at h
  obtain ⟨xs, hx, h⟩ := Option.bind_eq_some_iff.1 h
  obtain ⟨ys, hy, rfl⟩ := Option.map_eq_some_iff.1 h
  refine ⟨.func f (x.map a.eval) (y.map a.eval), ?_, fun w => rfl⟩
  have h1 := opvs_sound hg hr hx
  have h2 := opvs_sound hg hr hy
  rw [← Array.toList_map] at h1 h2
  have k1 := VRs.arr (a := xs.toArray) (a' := x.map a.eval) (ι := ι) |>.1 (by simpa using h1)
  have k2 := VRs.arr (a := ys.toArray) (a' := y.map a.eval) (ι := ι) |>.1 (by simpa using h2)
  exact .fn k1.1 k2.1 k1.2 k2.2

theorem pure_nilCheck {dst ty pos af gu x v} (h : stepPure P t ⟨dst, .nilCheck x, ty, pos, af, gu⟩ = some v) : PureOk P ι a ⟨dst, .nilCheck x, ty, pos, af, gu⟩ v := by
  simp only [stepPure] at h
  obtain ⟨xv, hx, h⟩ := Option.bind_eq_some_iff.1 h
  have hv := opv_sound hg hr hx
  split at h
  · rename_i q
    obtain rfl := Option.some.inj h
    refine ⟨_, hv, fun w => ?_⟩
    have : ∃ q', a.eval x = .pointer (some q') := by
      generalize a.eval x = y at hv
      cases hv with
      | flat hf => exact ⟨_, rfl⟩
      | ptr => exact ⟨_, rfl⟩
    obtain ⟨q', hq⟩ := this
    simp [execOp, hq]
  · rename_i g y z
    obtain rfl := Option.some.inj h
    refine ⟨_, hv, fun w => ?_⟩
    obtain ⟨y', z', he, _⟩ := hv.func_iff
    simp [execOp, he]
  · cases h

theorem pure_fieldAddr {dst ty pos af gu s x f v} (h : stepPure P t ⟨dst, .fieldAddr s x f, ty, pos, af, gu⟩ = some v) : PureOk P ι a ⟨dst, .fieldAddr s x f, ty, pos, af, gu⟩ v := by
  simp only [stepPure] at h
  obtain ⟨xv, hx, h⟩ := Option.bind_eq_some_iff.1 h
  have hv := opv_sound hg hr hx
  split at h
  · rename_i fs b off hu
    obtain ⟨fl, hfl, h⟩ := Option.bind_eq_some_iff.1 h
    obtain ⟨m, hm, h⟩ := Option.bind_eq_some_iff.1 h
    cases hb : Nat.beq m 0 with
    | true => rw [hb] at h; cases h
    | false =>
      rw [hb] at h
      obtain rfl := Option.some.inj h
      have hm0 : m ≠ 0 := Nat.ne_of_beq_eq_false hb
      obtain ⟨w1, hw1, he⟩ : ∃ w1, ι b = some w1 ∧ a.eval x = .pointer (some ⟨w1.blk, w1.base + off, none⟩) := by
        generalize a.eval x = y at hv
        cases hv with
        | flat hf => simp [flat, flatN] at hf
        | ptr hw => exact ⟨_, hw, rfl⟩
      refine ⟨.pointer (some ⟨w1.blk, w1.base + (off + fl.offset), none⟩), .ptr hw1, fun w => ?_⟩
      simp only [execOp, Instr.fieldAt]
      refine run_value ?_
      rw [Sem.run_bind, run_underlying hu w]
      simp only [Result.andThen_ok, hfl, he, Instr.sureAddr, Sem.run_bind, Sem.run_pure, fieldPlace, run_size hm, Sem.run_ite, if_neg hm0, add_none]
      rw [Nat.add_assoc]
  · cases h

theorem pure_indexAddr {dst ty pos af gu s x i v} (h : stepPure P t ⟨dst, .indexAddr s x i, ty, pos, af, gu⟩ = some v) : PureOk P ι a ⟨dst, .indexAddr s x i, ty, pos, af, gu⟩ v := by
  simp only [stepPure] at h
  obtain ⟨xv, hx, h⟩ := Option.bind_eq_some_iff.1 h
  obtain ⟨iv, hi, h⟩ := Option.bind_eq_some_iff.1 h
  have hv := opv_sound hg hr hx
  have hiv := opv_sound hg hr hi
  split at h
  · rename_i b off len cap k j hu z
    obtain ⟨m, hm, h⟩ := Option.bind_eq_some_iff.1 h
    obtain ⟨hlt, h⟩ := cond_some h
    obtain rfl := Option.some.inj h
    have hlt' : j < len := by simpa using hlt
    have hie := hiv.int_iff
    obtain ⟨w1, c', hw1, he⟩ : ∃ w1 c', ι b = some w1 ∧ a.eval x = .slice (some ⟨w1.blk, w1.base + off, none⟩) len c' := by
      generalize a.eval x = y at hv
      cases hv with
      | flat hf => simp [flat, flatN] at hf
      | slc hw => exact ⟨_, _, hw, rfl⟩
      | slu hw => exact ⟨_, _, hw, rfl⟩
      | sl0 => omega
    refine ⟨.pointer (some ⟨w1.blk, w1.base + (off + j * m), none⟩), .ptr hw1, fun w => ?_⟩
    simp only [execOp, Instr.indexAt]
    refine run_value ?_
    have c1 : (0 : Int) ≤ Int.ofNat j ∧ Int.ofNat j < (len : Int) := ⟨Int.natCast_nonneg _, by rw [Int.ofNat_eq_natCast]; omega⟩
    simp only [hie, asIntOf, Sem.run_bind, Sem.run_pure, Result.andThen_ok, run_underlying hu, he, Sem.run_ite, if_pos c1, run_size hm, add_none]
    simp only [Int.ofNat_eq_natCast, Int.toNat_natCast]
    rw [Nat.add_assoc]
  · rename_i len e b off k j hu z
    obtain ⟨m, hm, h⟩ := Option.bind_eq_some_iff.1 h
    obtain ⟨hlt, h⟩ := cond_some h
    obtain rfl := Option.some.inj h
    have hlt' : j < len := by simpa using hlt
    have hie := hiv.int_iff
    obtain ⟨w1, hw1, he⟩ : ∃ w1, ι b = some w1 ∧ a.eval x = .pointer (some ⟨w1.blk, w1.base + off, none⟩) := by
      generalize a.eval x = y at hv
      cases hv with
      | flat hf => simp [flat, flatN] at hf
      | ptr hw => exact ⟨_, hw, rfl⟩
    refine ⟨.pointer (some ⟨w1.blk, w1.base + (off + j * m), none⟩), .ptr hw1, fun w => ?_⟩
    simp only [execOp, Instr.indexAt]
    refine run_value ?_
    have c1 : (0 : Int) ≤ Int.ofNat j ∧ Int.ofNat j < (len : Int) := ⟨Int.natCast_nonneg _, by rw [Int.ofNat_eq_natCast]; omega⟩
    simp only [hie, asIntOf, Sem.run_bind, Sem.run_pure, Result.andThen_ok, run_underlying hu, he, Instr.sureAddr, Sem.run_ite, if_pos c1, run_size hm, add_none]
    simp only [Int.ofNat_eq_natCast, Int.toNat_natCast]
    rw [Nat.add_assoc]
  · cases h

theorem pure_field {dst ty pos af gu s x f v} (h : stepPure P t ⟨dst, .field s x f, ty, pos, af, gu⟩ = some v) : PureOk P ι a ⟨dst, .field s x f, ty, pos, af, gu⟩ v := by
  simp only [stepPure] at h
  obtain ⟨xv, hx, h⟩ := Option.bind_eq_some_iff.1 h
  have hv := opv_sound hg hr hx
  split at h
  · rename_i fs cs hu
    obtain ⟨fl, hfl, h⟩ := Option.bind_eq_some_iff.1 h
    obtain ⟨ag, hag, h⟩ := Option.bind_eq_some_iff.1 h
    obtain ⟨cs', he, hcs⟩ := hv.agg_iff
    rw [nth_eq, Array.getElem?_toList] at hfl
    cases ag with
    | true =>
      obtain ⟨m, hm, rfl⟩ := Option.map_eq_some_iff.1 h
      refine ⟨.agg (cs'.extract fl.offset (fl.offset + m)), ?_, fun w => ?_⟩
      · have k : VRs ι (cs.extract fl.offset (fl.offset + m)).toList (cs'.extract fl.offset (fl.offset + m)).toList := by
          rw [Array.toList_extract, Array.toList_extract]
          exact (hcs.drop _).take _
        have k1 := VRs.arr.1 k
        exact .agg k1.1 k1.2
      · simp only [execOp, Instr.field]
        refine run_value ?_
        simp only [Sem.run_bind, run_underlying hu, Result.andThen_ok, hfl, he, asAgg, Sem.run_pure, part, run_isAgg hag, if_true, run_size hm]
    | false =>
      simp only [cond_false] at h
      rw [nth_eq] at h
      obtain ⟨y, hy, hvy⟩ := hcs.get h
      rw [Array.getElem?_toList] at hy
      refine ⟨y, hvy, fun w => ?_⟩
      simp only [execOp, Instr.field]
      refine run_value ?_
      simp only [Sem.run_bind, run_underlying hu, Result.andThen_ok, hfl, he, asAgg, Sem.run_pure, part, run_isAgg hag, Bool.false_eq_true, if_false, hy]
  · cases h

theorem pure_convert {dst ty pos af gu s d x v} (h : stepPure P t ⟨dst, .convert s d x, ty, pos, af, gu⟩ = some v) : PureOk P ι a ⟨dst, .convert s d x, ty, pos, af, gu⟩ v := by
  simp only [stepPure] at h
  obtain ⟨xv, hx, h⟩ := Option.bind_eq_some_iff.1 h
  split at h
  · rename_i k m k' hu
    obtain ⟨ds, hds, h⟩ := Option.bind_eq_some_iff.1 h
    obtain rfl := Option.some.inj h
    refine ⟨_, .flat rfl, fun w => ?_⟩
    simp only [execOp, convert]
    refine run_value ?_
    have he := (opv_sound hg hr hx).int_iff
    simp only [Sem.run_bind, run_underlying hds, run_underlying hu, Result.andThen_ok, he]
    cases ds <;> simp [Conv.intToInt, wrapF_eq]
  · exact .of_flat hg hr (fun _ _ hh => by cases hh) h
end
end Go.Ev
