/- Closed calls. -/
import Derived.Test.YtfgfhplgnfbaaaaDoorEvCall
namespace Go.Ev
open Go

/-- A function with a body is entered. -/
theorem run_callFunc {P : Program} (hN : NoNum P) {f : FuncId} {fn : Func} (hf : P.funcs[f]? = some fn) (hb : fn.body.isSome = true) (args : Array Value) (w : World) : (callFunc f args).run P w = .ok (.enter f args) w := by
  have hname := hN f fn hf
  cases hc : fn.body with
  | none => rw [hc] at hb; cases hb
  | some c =>
    simp [callFunc, hf, hc]
    simpa using hname

/-- A call whose arguments and result name no memory, and that looks at memory that none writes: the memory stays. -/
theorem closed_call {P : Program} (hm : P.follows .mixedOrders = true) (hN : NoNum P) {fuel d : Nat} {f : FuncId} {fn : Func} (hf : P.funcs[f]? = some fn) (hb : fn.body.isSome = true) {args : List Value} {h0 h1 h : Hp} {v : Value}
    (hs : evCall P fuel d f args h0 = some (v, h1)) (ha : args.all flat = true) (hv : flat v = true) (hro0 : ∀ o x, h0.get o = some x → ∃ c e, x = .cells c e .ro ∧ c.all Ev.flat = true) (hsub : ∀ o x, h0.get o = some x → h.get o = some x ∧ o < h0.nx) (hnx : P.globals.size ≤ h0.nx)
    {ι : Inj} {w : World} (R : RH P ι h w) : Calls P f args.toArray w fun e w' => e = .returned v ∧ Went P h ι w h ι w' := by
  have hro : ∀ o x, h0.get o = some x → x.wr = false := fun o x ho => by obtain ⟨c, e, rfl, _⟩ := hro0 o x ho; rfl
  let ι0 : Inj := fun o => if o < h0.nx then ι o else none
  have hι : ∀ o, o < h0.nx → ι0 o = ι o := fun o ho => if_pos ho
  have mono : ∀ o u, ι0 o = some u → ι o = some u := fun o u ho => by
    by_cases h : o < h0.nx
    · rw [← hι o h]; exact ho
    · rw [show ι0 o = none from if_neg h] at ho; cases ho
  have R0 : RH P ι0 h0 w := by
    refine ⟨fun o x ho => ?_, fun o q x y vo vq _ ho hx => ?_, fun o ho => if_neg (by omega), fun g hg => ?_, hnx⟩
    · obtain ⟨ho2, hlt⟩ := hsub o x ho
      obtain ⟨_, u, hu, hor⟩ := R.live o x ho2
      obtain ⟨c, e, rfl, hfl⟩ := hro0 o x ho
      obtain ⟨h1, c', e', fr, h2, h3, h4, h5⟩ := hor
      refine ⟨hlt, u, by rw [hι o hlt]; exact hu, h1, c', e', fr, h2, fun j y hj => ?_, h4, fun hm => by cases hm⟩
      obtain ⟨z, hz, hyz⟩ := h3 j y hj
      have hfy := all_get hfl hj
      obtain rfl := VR.of_flat hfy hyz
      exact ⟨z, hz, .flat hfy⟩
    · rw [hro o x ho] at hx; cases hx
    · rw [hι g (by omega)]; exact R.glob g hg
  refine (calls_of_ev hm hN hf hb hs R0 (.of_flat ha)).mono fun e w' ⟨ι', v', he, g, hvv⟩ => ?_
  obtain rfl := VR.of_flat hv hvv
  have rest : ∀ b, b < w.heap.size → w'.heap[b]? = w.heap[b]? := fun b hb => g.fr.rest b hb fun o x _ ho hx => by rw [hro o x ho] at hx; cases hx
  refine ⟨he, .refl _ _, ⟨fun o x ho => ?_, R.apart, R.fresh, R.glob, R.gsize⟩, ⟨g.fr.tape, g.fr.os, g.fr.output, g.fr.size, fun b hb _ => rest b hb⟩, Nat.le_refl _, rfl, fun _ _ h _ => h, fun _ y _ h => ⟨y, h⟩, fun o x u ho hu => .inl ⟨o, x, u, ho, rfl, hu, rfl⟩⟩
  obtain ⟨hl, u, hu, hor⟩ := R.live o x ho
  exact ⟨hl, u, hu, hor.of_block (fun _ _ h => h) (rest _ hor.block)⟩
end Go.Ev
