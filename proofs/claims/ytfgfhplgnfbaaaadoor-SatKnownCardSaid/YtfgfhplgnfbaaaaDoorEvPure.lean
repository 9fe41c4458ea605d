/- The evaluator's steps that ask nothing of memory are the model's. -/
import Derived.Test.YtfgfhplgnfbaaaaDoorEvVal
import Derived.OrdersHeld
namespace Go.Ev
open Go

/-- What the program's package-level variables are called. -/
def GR (P : Program) (ι : Inj) : Prop := ∀ g, g < P.globals.size → ∃ f e, ι g = some ⟨g, 0, f, e⟩
/-- The slots. -/
structure RT (ι : Inj) (t : Fr) (n : Nat) (a : Act) : Prop where
  size : a.tmps.size = n
  slots : ∀ i, VR ι (slot t i) (a.tmps.getD i undef)
  has : ∀ d, d < n → t.has d = true

theorem undef_flat : flat undef = true := rfl

theorem cond_some {α : Type} {b : Bool} {x : Option α} {v : α} (h : (bif b then x else none) = some v) : b = true ∧ x = some v := by
  cases b
  · cases h
  · exact ⟨rfl, h⟩
theorem opv_const {P : Program} {t : Fr} {c v : Value} (h : opv P t (.const c) = some v) : flat c = true ∧ v = c := by
  simp only [opv] at h
  split at h
  · exact ⟨rfl, (Option.some.inj h).symm⟩
  · exact ⟨rfl, (Option.some.inj h).symm⟩
  · obtain ⟨h1, h2⟩ := cond_some h
    exact ⟨h1, (Option.some.inj h2).symm⟩
theorem opv_global {P : Program} {t : Fr} {g : Nat} {v : Value} (h : opv P t (.global g) = some v) : g < P.globals.size ∧ v = .pointer (some ⟨g, 0, none⟩) := by
  simp only [opv] at h
  obtain ⟨h1, h2⟩ := cond_some h
  exact ⟨by simpa using h1, (Option.some.inj h2).symm⟩

section
variable {P : Program} {ι : Inj} {t : Fr} {n : Nat} {a : Act} (hg : GR P ι) (hr : RT ι t n a)
include hg hr

theorem opv_sound {x : Operand} {v : Value} (h : opv P t x = some v) : VR ι v (a.eval x) := by
  cases x with
  | tmp i => obtain rfl := Option.some.inj h; exact hr.slots i
  | const c => obtain ⟨hf, rfl⟩ := opv_const h; exact .flat hf
  | global g =>
    obtain ⟨h1, rfl⟩ := opv_global h
    obtain ⟨f, e, he⟩ := hg g h1
    exact VR.ptr (off := 0) he
  | func f => obtain rfl := Option.some.inj h; exact .flat rfl

omit hg hr in
theorem opw_eq {x : Operand} {v : Value} (h : opv P t x = some v) : opw t x = v := by
  cases x with
  | tmp i => obtain rfl := Option.some.inj h; rfl
  | const c => obtain ⟨hf, rfl⟩ := opv_const h; rfl
  | global g => obtain ⟨h1, rfl⟩ := opv_global h; rfl
  | func f => obtain rfl := Option.some.inj h; rfl

theorem opvs_sound {xs : List Operand} {vs : List Value} (h : mapO (opv P t) xs = some vs) : VRs ι vs (xs.map a.eval) := by
  obtain ⟨h1, h2⟩ := mapO_some h
  refine ⟨by simp [h1], fun i x y hx hy => ?_⟩
  rw [List.getElem?_map] at hy
  obtain ⟨q, hq, rfl⟩ := Option.map_eq_some_iff.1 hy
  obtain ⟨b, hb, hv⟩ := h2 i q hq
  rw [hx] at hb
  obtain rfl := Option.some.inj hb
  exact opv_sound hg hr hv
omit hg hr

theorem pureRun_sound {α : Type} {P : Program} : ∀ {s : Sem α} {v : α}, pureRun P s = some v → ∀ w, s.run P w = .ok v w := by
  intro s
  induction s with
  | pure a => intro v h w; obtain rfl := Option.some.inj h; rfl
  | program k ih => intro v h w; exact ih P h w
  | mark m k ih => intro v h w; exact ih h w
  | _ => intro v h; cases h

include hg hr
theorem flatRun_sound {o : Oper} (hs : ∀ cs b, o.op ≠ .select cs b) {v : Value} (h : flatRun P t o = some v) : flat v = true ∧ ∀ w, (execOp a.eval o).run P w = .ok (.value v) w := by
  unfold flatRun at h
  split at h
  · rename_i l hl
    cases hf : l.all flat with
    | false => rw [hf] at h; cases h
    | true =>
      rw [hf] at h
      simp only [cond_true] at h
      split at h
      · rename_i r hrun
        cases hfr : flat r with
        | false => rw [hfr] at h; cases h
        | true =>
          rw [hfr] at h
          obtain rfl := Option.some.inj h
          refine ⟨hfr, fun w => ?_⟩
          have he : execOp a.eval o = execOp (opw t) o := by
            refine execOp_congr o hs fun x hx => ?_
            obtain ⟨_, h2⟩ := mapO_some hl
            obtain ⟨i, hi, hxi⟩ := Array.getElem_of_mem hx
            obtain ⟨b, hb, hv⟩ := h2 i x (by rw [Array.getElem?_toList, Array.getElem?_eq_getElem hi, hxi])
            rw [opw_eq hv]
            exact VR.of_flat (all_get hf hb) (opv_sound hg hr hv)
          rw [he]
          exact pureRun_sound hrun w
      · cases h
  · cases h
end
end Go.Ev
