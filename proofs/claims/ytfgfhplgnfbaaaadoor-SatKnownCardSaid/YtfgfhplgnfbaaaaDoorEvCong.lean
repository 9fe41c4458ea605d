/- A step looks at its operands alone. -/
import Derived.Test.YtfgfhplgnfbaaaaDoorEvCode
namespace Go.Ev
open Go

theorem mapO_congr {α β : Type} {f g : α → Option β} : ∀ {l : List α}, (∀ x ∈ l, f x = g x) → mapO f l = mapO g l := by
  intro l
  induction l with
  | nil => intro _; rfl
  | cons a l ih => intro h; rw [mapO_cons, mapO_cons, h a (by simp), ih fun x hx => h x (by simp [hx])]

section
variable {P : Program} {t t' : Fr}

theorem opw_congr {x : Operand} (h : opv P t x = opv P t' x) : opw t x = opw t' x := by
  cases x with
  | tmp i => exact Option.some.inj h
  | _ => rfl

theorem flatRun_congr {o : Oper} (hs : ∀ cs b, o.op ≠ .select cs b) (h : ∀ x ∈ o.op.operands, opv P t x = opv P t' x) : flatRun P t o = flatRun P t' o := by
  unfold flatRun
  rw [mapO_congr (g := opv P t') fun x hx => h x (Array.mem_toList_iff.1 hx), execOp_congr o hs fun x hx => opw_congr (h x hx)]

theorem stepPure_congr {o : Oper} (hk : kindOf o.op = .pure_) (h : ∀ x ∈ o.op.operands, opv P t x = opv P t' x) : stepPure P t o = stepPure P t' o := by
  have hf : flatRun P t o = flatRun P t' o := flatRun_congr (fun cs b hh => by rw [hh] at hk; cases hk) h
  obtain ⟨dst, op, ty, pos, af, gu⟩ := o
  cases op with
  | call c =>
    obtain ⟨callee, args, argTypes⟩ := c
    cases callee with
    | builtin b =>
      cases b <;> first | exact hf | skip
      simp only [stepPure]
      rw [hf]
      have h0 : opv P t (args.getD 0 (.const undef)) = opv P t' (args.getD 0 (.const undef)) := by
        rcases Nat.eq_zero_or_pos args.size with h0 | h0
        · have : args.getD 0 (.const undef) = .const undef := by simp [Array.getD, h0]
          rw [this]
          rfl
        · refine h _ ?_
          simp only [Op.operands, Call.operands]
          have : args.getD 0 (.const undef) = args[0] := by simp [Array.getD, h0]
          rw [this]
          simp
      rw [h0]
    | _ => exact hf
  | build s ps =>
    simp only [stepPure]
    have : mapO (fun (p : Nat × Operand) => (opv P t p.2).map fun v => (p.1, v)) ps.toList = mapO (fun (p : Nat × Operand) => (opv P t' p.2).map fun v => (p.1, v)) ps.toList := mapO_congr fun x hx => by
      rw [h x.2 (by simp only [Op.operands]; simpa using ⟨x.1, by simpa using hx⟩)]
    rw [this]
  | makeFunc fn a b =>
    simp only [stepPure]
    rw [mapO_congr (g := opv P t') (l := a.toList) fun x hx => h x (by simp [Op.operands, Array.mem_toList_iff.1 hx]), mapO_congr (g := opv P t') (l := b.toList) fun x hx => h x (by simp [Op.operands, Array.mem_toList_iff.1 hx])]
  | pick c a b => simp only [stepPure]; rw [h c (by simp [Op.operands]), h a (by simp [Op.operands]), h b (by simp [Op.operands])]
  | indexAddr s a b => simp only [stepPure]; rw [h a (by simp [Op.operands]), h b (by simp [Op.operands])]
  | binOp op xt a b q => simp only [stepPure]; rw [h a (by simp [Op.operands]), h b (by simp [Op.operands]), hf]
  | convert s d x => simp only [stepPure]; rw [h x (by simp [Op.operands]), hf]
  | fieldAddr s x f => simp only [stepPure]; rw [h x (by simp [Op.operands])]
  | move x => simp only [stepPure]; rw [h x (by simp [Op.operands])]
  | assign x => simp only [stepPure]; rw [h x (by simp [Op.operands])]
  | extract x i => simp only [stepPure]; rw [h x (by simp [Op.operands])]
  | field s x f => simp only [stepPure]; rw [h x (by simp [Op.operands])]
  | makeInterface s x => simp only [stepPure]; rw [h x (by simp [Op.operands])]
  | nilCheck x => simp only [stepPure]; rw [h x (by simp [Op.operands])]
  | _ => first | exact hf | cases hk

theorem opq_congr {q : Option Operand} (h : ∀ x, q = some x → opv P t x = opv P t' x) : opq P t q = opq P t' q := by
  cases q with
  | none => rfl
  | some x => simp only [opq]; rw [h x rfl]

theorem stepRead_congr {o : Oper} {h : Hp} (hh : ∀ x ∈ o.op.operands, opv P t x = opv P t' x) (hk : kindOf o.op = .read) : stepRead P t o h = stepRead P t' o h := by
  obtain ⟨dst, op, ty, pos, af, gu⟩ := o
  cases op with
  | load s x => simp only [stepRead]; rw [hh x (by simp [Op.operands])]
  | slice s x lo hi mx =>
    simp only [stepRead]
    rw [hh x (by simp [Op.operands]), opq_congr (t' := t') (q := lo) fun y hy => hh y (by simp [Op.operands, hy]), opq_congr (t' := t') (q := hi) fun y hy => hh y (by simp [Op.operands, hy]), opq_congr (t' := t') (q := mx) fun y hy => hh y (by simp [Op.operands, hy]),
      flatRun_congr (fun _ _ hq => by cases hq) hh]
  | call c => obtain ⟨callee, args, argTypes⟩ := c; cases callee with
    | builtin b => cases b <;> cases hk
    | _ => cases hk
  | _ => cases hk

theorem stepMk_congr {o : Oper} (hh : ∀ x ∈ o.op.operands, opv P t x = opv P t' x) (hk : kindOf o.op = .mk) : stepMk P t o = stepMk P t' o := by
  obtain ⟨dst, op, ty, pos, af, gu⟩ := o
  cases op with
  | alloc e => rfl
  | box e x => simp only [stepMk]; rw [hh x (by simp [Op.operands])]
  | makeSlice s a b => simp only [stepMk]; rw [hh a (by simp [Op.operands]), hh b (by simp [Op.operands])]
  | buildSlice s n ps =>
    simp only [stepMk]
    have : mapO (fun (p : Nat × Operand) => (opv P t p.2).map fun v => (p.1, v)) ps.toList = mapO (fun (p : Nat × Operand) => (opv P t' p.2).map fun v => (p.1, v)) ps.toList := mapO_congr fun x hx => by
      rw [hh x.2 (by simp only [Op.operands]; simpa using ⟨x.1, by simpa using hx⟩)]
    rw [this]
  | call c => obtain ⟨callee, args, argTypes⟩ := c; cases callee with
    | builtin b => cases b <;> cases hk
    | _ => cases hk
  | _ => cases hk

theorem stepEff_congr {cf : CallF} {o : Oper} {h : Hp} (hh : ∀ x ∈ o.op.operands, opv P t x = opv P t' x) : stepEff P cf t o h = stepEff P cf t' o h := by
  obtain ⟨dst, op, ty, pos, af, gu⟩ := o
  cases op with
  | store s x y => simp only [stepEff]; rw [hh x (by simp [Op.operands]), hh y (by simp [Op.operands])]
  | range s x => simp only [stepEff]; rw [hh x (by simp [Op.operands])]
  | next x s => simp only [stepEff]; rw [hh x (by simp [Op.operands])]
  | call c => 
    obtain ⟨callee, args, argTypes⟩ := c
    cases callee with
    | builtin b =>
      simp only [stepEff]
      rw [mapO_congr (g := opv P t') (l := args.toList) fun x hx => hh x (by simp [Op.operands, Call.operands, Array.mem_toList_iff.1 hx])]
    | value f =>
      simp only [stepEff]
      rw [mapO_congr (g := opv P t') (l := args.toList) fun x hx => hh x (by simp [Op.operands, Call.operands, Array.mem_toList_iff.1 hx]), hh f (by simp [Op.operands, Call.operands])]
    | _ => rfl
  | _ => rfl
end
end Go.Ev
