/- The evaluator's runs of code are the model's. -/
import Derived.Test.YtfgfhplgnfbaaaaDoorEvStep
import Derived.Scope
namespace Go.Ev
open Go

/-! ### one operation -/
theorem RT.mono {ι ι' : Inj} {t : Fr} {n : Nat} {a : Act} (hr : RT ι t n a) (hm : ∀ o v, ι o = some v → ι' o = some v) : RT ι' t n a := ⟨hr.size, fun i => (hr.slots i).mono hm, hr.has⟩
theorem RT.put {ι : Inj} {s : St} {a : Act} {d : Option Nat} {v v' : Value} (hr : RT ι s.t s.n a) (hv : VR ι v v') : RT ι (s.setT d v) s.n (a.put d v') := by
  cases d with
  | none => exact hr
  | some d =>
    simp only [St.setT]
    cases hd : Nat.blt d s.n with
    | true =>
      have hd : d < s.n := by simpa using hd
      refine ⟨by simp [Act.put, hr.size], fun i => ?_, fun k hk => ?_⟩
      · simp only [cond_true, slot, Tr.get_set, Act.put, Array.getD_eq_getD_getElem?, Array.getElem?_setIfInBounds]
        by_cases hi : i = d
        · subst hi
          rw [if_pos rfl, if_pos (hr.has _ hd), if_pos rfl]
          simp [hr.size, hd, hv]
        · rw [if_neg hi, if_neg (Ne.symm hi)]
          have := hr.slots i
          simpa [slot, Array.getD_eq_getD_getElem?] using this
      · simp only [cond_true, Tr.has_set]; exact hr.has k hk
    | false =>
      have hd : ¬ d < s.n := by intro hh; have : Nat.blt d s.n = true := by simpa using hh
                                rw [hd] at this; cases this
      have he : a.put (some d) v' = a := by
        simp only [Act.put]
        rw [Array.setIfInBounds_eq_of_size_le (by rw [hr.size]; omega)]
      rw [he]
      exact hr
theorem put_defers (a : Act) (d : Option Nat) (v : Value) : (a.put d v).defers = a.defers := by cases d <;> rfl

theorem VR.bool_of {ι : Inj} {v : Value} {b : Bool} (h : VR ι v (.bool b)) : v = .bool b := by cases h; rfl

theorem wanted_sound {ι : Inj} {t : Fr} {n : Nat} {a : Act} (hr : RT ι t n a) (ops : Array Oper) (o : Oper) : Region.wanted o (yielded ops a.tmps) = wantedF ops t o := by
  unfold Region.wanted wantedF
  cases o.guard with
  | none => rfl
  | some q =>
    obtain ⟨j, want⟩ := q
    have hy : yielded ops a.tmps j = yieldedL ops t j := by
      unfold yielded yieldedL
      rw [nth_eq, Array.getElem?_toList]
      cases hd : (ops[j]?).bind (·.dst) with
      | none => rfl
      | some d =>
        have hs := hr.slots d
        simp only [Option.bind_some]
        cases htm : a.tmps[d]? with
        | none =>
          have : a.tmps.getD d undef = undef := by simp [Array.getD_eq_getD_getElem?, htm]
          rw [this] at hs
          cases hsl : slot t d with
          | bool b => rw [hsl] at hs; have := hs.bool_iff; cases this
          | _ => rfl
        | some v =>
          have : a.tmps.getD d undef = v := by simp [Array.getD_eq_getD_getElem?, htm]
          rw [this] at hs
          cases hsl : slot t d with
          | bool b => rw [hsl] at hs; rw [hs.bool_iff]
          | _ =>
            cases v with
            | bool b => rw [hs.bool_of] at hsl; cases hsl
            | _ => rfl
    simp only [hy]
    cases yieldedL ops t j with
    | none => rfl
    | some b => cases b <;> cases want <;> rfl

section
variable {P : Program} {cf : CallF} (hc : COk P cf)
include hc

/-- One operation, wanted. -/
theorem stepOp_sound {ops : Array Oper} {o : Oper} {s s' : St} {ι : Inj} {a : Act} {w : World} (hr : RT ι s.t s.n a) (R : RH P ι s.h w) (hs : stepOp P cf ops o s = some s') {K : Act → World → Prop} {Q : Exit → Act → World → Prop}
    (hK : ∀ ι' v v' w', Went P s.h ι w s'.h ι' w' → VR ι' v v' → s'.t = s.setT o.dst v → s'.n = s.n → K (a.put o.dst v') w') :
    if Region.wanted o (yielded ops a.tmps) then o.wp P a w K Q ∨ (o.asks P a w ∧ LetsOut Q) else K (a.put o.dst undef) w := by
  rw [wanted_sound hr]
  unfold stepOp at hs
  cases hw : wantedF ops s.t o with
  | false =>
    rw [hw, cond_false] at hs
    obtain rfl := Option.some.inj hs
    simp only [Bool.false_eq_true, if_false]
    exact hK ι undef undef w (.refl R) (.flat rfl) rfl rfl
  | true =>
    rw [hw, cond_true] at hs
    simp only [if_true]
    left
    split at hs
    · rename_i hk
      obtain ⟨v, hv, rfl⟩ := Option.map_eq_some_iff.1 hs
      obtain ⟨v', h1, h2⟩ := stepPure_sound R.glob hr hk hv
      unfold Oper.wp
      rw [h2 w]
      exact hK ι v v' w (.refl R) h1 rfl rfl
    · obtain ⟨⟨v, ids⟩, hv, rfl⟩ := Option.map_eq_some_iff.1 hs
      obtain ⟨v', h1, h2⟩ := stepRead_sound hr R hv
      unfold Oper.wp
      rw [h2]
      exact hK ι v v' w (.refl R) h1 rfl rfl
    · obtain ⟨⟨x, f⟩, hv, rfl⟩ := Option.map_eq_some_iff.1 hs
      obtain ⟨c, c', e, e', v', rfl, ho, hcc, h2, h3⟩ := stepMk_sound R.glob hr hv w
      unfold Oper.wp
      rw [h2]
      refine hK (ι.set s.h.nx ⟨w.heap.size, 0, 0, 0⟩) _ v' _ (Went.add R rfl ⟨ho, _, e', (0, 0), by rw [alloc_get]; exact if_pos rfl, fun j x hx => ?_, fun _ => rfl, fun hm => by cases hm⟩) (h3 _ _ (Inj.set_same ..)) rfl rfl
      obtain ⟨y, hy, hv⟩ := hcc.get hx
      exact ⟨y, by simpa using hy, hv.mono (Inj.set_mono (R.fresh _ (Nat.le_refl _)))⟩
    · obtain ⟨⟨v, h'⟩, hv, rfl⟩ := Option.map_eq_some_iff.1 hs
      exact stepEff_sound R hr hc hv fun ι' v' w' g1 g2 => hK ι' v v' w' g1 g2 rfl rfl

theorem runOps_sound {ops : Array Oper} {Q : Exit → Act → World → Prop} : ∀ (l : List Oper) {s s' : St} {ι : Inj} {a : Act} {w : World}, RT ι s.t s.n a → RH P ι s.h w → a.defers = [] → runOps P cf ops l s = some s' →
    (∀ ι' a' w', Went P s.h ι w s'.h ι' w' → RT ι' s'.t s'.n a' → s'.n = s.n → a'.defers = [] → Q .normal a' w') → wpList P ops Q l a w := by
  intro l
  induction l with
  | nil =>
    intro s s' ι a w hr R hd hs hQ
    obtain rfl := Option.some.inj hs
    exact hQ ι a w (.refl R) hr rfl hd
  | cons o l ih =>
    intro s s' ι a w hr R hd hs hQ
    obtain ⟨s1, h1, h2⟩ := Option.bind_eq_some_iff.1 (show (stepOp P cf ops o s).bind (runOps P cf ops l) = some s' from hs)
    refine stepOp_sound hc hr R h1 fun ι' v v' w' g1 g2 g3 g4 => ?_
    have hr' : RT ι' s1.t s1.n (a.put o.dst v') := by rw [g3, g4]; exact (hr.mono (g1.mono R)).put g2
    exact ih hr' g1.rh (by rw [put_defers]; exact hd) h2 fun ι2 a2 w2 k1 k2 k3 k4 => hQ ι2 a2 w2 (g1.trans k1) k2 (k3.trans g4) k4
end

/-! ### code -/
/-- What is known of the regions. -/
def RegOk (P : Program) (cf : CallF) : Prop := ∀ (id : Nat) ops draw (s s' : St) ι a w, runRegion P cf ops draw s = some s' → RT ι s.t s.n a → RH P ι s.h w → a.defers = [] → ∀ Q : Exit → Act → World → Prop,
  (∀ ι' a' w', Went P s.h ι w s'.h ι' w' → RT ι' s'.t s'.n a' → s'.n = s.n → a'.defers = [] → Q .normal a' w') → (Code.region id ops draw).wp P Q a w

def Ex.to : Ex → Exit
  | .normal => .normal
  | .exit id => .exit id
  | .ret => .ret

theorem wp_loop_n {P : Program} {Q : Exit → Act → World → Prop} {c : Code} (I : Nat → Act → World → Prop)
    (round : ∀ n a w, I n a w → c.wp P (Exit.then (fun a' w' => ∃ m, m < n ∧ I m a' w') Q) a w) {n : Nat} {a : Act} {w : World} (h₀ : I n a w) : (Code.loop c).wp P Q a w := by
  intro b k cs
  have key : ∀ n a w, I n a w → ∃ e a' w', Q e a' w' ∧ Arrives P (lone (b.at a (.code c :: .inLoop c :: k)) cs w) b k cs e a' w' := by
    intro n
    induction n using Nat.strongRecOn with
    | _ n ih =>
      intro a w hI
      obtain ⟨e, a₁, w₁, hq, harr⟩ := round n a w hI b (.inLoop c :: k) cs
      cases e with
      | normal =>
        obtain ⟨m, hlt, hI₁⟩ := hq
        obtain ⟨e₂, a₂, w₂, hq₂, harr₂⟩ := ih m hlt a₁ w₁ hI₁
        exact ⟨e₂, a₂, w₂, hq₂, .of_steps (Steps.trans harr (.one step_inLoop)) harr₂⟩
      | exit id => exact ⟨_, a₁, w₁, hq, .pass (x := .inLoop c) rfl (fun _ _ => .inl (by simp)) harr⟩
      | goto l => exact ⟨_, a₁, w₁, hq, .pass (x := .inLoop c) rfl (fun _ _ => .inl (by simp)) harr⟩
      | ret => exact ⟨_, a₁, w₁, hq, .pass (x := .inLoop c) rfl (fun _ _ => .inl (by simp)) harr⟩
      | panic ch => exact ⟨_, a₁, w₁, hq, .pass (x := .inLoop c) rfl (fun _ _ => .inl (by simp)) harr⟩
      | outgrown => exact ⟨_, a₁, w₁, hq, .pass (x := .inLoop c) rfl (fun _ _ => .inl (by simp)) harr⟩
  obtain ⟨e, a', w', hq, harr⟩ := key _ a w h₀
  exact ⟨e, a', w', hq, .of_steps (.one step_loop) harr⟩

theorem ev_succ (P : Program) (cf : CallF) (n : Nat) (c : Code) (s : St) : ev P cf (n + 1) c s = (match c with
    | .skip | .label _ => some (.normal, s)
    | .ret => some (.ret, s)
    | .exit id => some (.exit id, s)
    | .seq a b => (ev P cf n a s).bind fun r => match r.1 with
      | .normal => ev P cf n b r.2
      | _ => some r
    | .cond c a b => (opv P s.t c).bind fun v => match v with
      | .bool true => ev P cf n a s
      | .bool false => ev P cf n b s
      | _ => none
    | .block id b => (ev P cf n b s).map fun r => match r.1 with
      | .exit id' => bif Nat.beq id' id then (.normal, r.2) else r
      | _ => r
    | .loop b => (ev P cf n b s).bind fun r => match r.1 with
      | .normal => ev P cf n (.loop b) r.2
      | _ => some r
    | .scope b => ev P cf n b s
    | .region _ ops draw => (runRegion P cf ops draw s).map fun s' => (.normal, s')
    | _ => none) := by cases c <;> rfl

/-- What a run of code comes to. -/
def EvOk (P : Program) (s : St) (ι : Inj) (w : World) (r : Ex × St) (Q : Exit → Act → World → Prop) : Prop :=
  ∀ ι' a' w', Went P s.h ι w r.2.h ι' w' → RT ι' r.2.t r.2.n a' → r.2.n = s.n → a'.defers = [] → Q r.1.to a' w'

section
variable {P : Program} {cf : CallF} (hg : RegOk P cf)
include hg

theorem ev_sound : ∀ (n : Nat) (c : Code) {s : St} {r : Ex × St} {ι : Inj} {a : Act} {w : World}, ev P cf n c s = some r → RT ι s.t s.n a → RH P ι s.h w → a.defers = [] → ∀ Q, EvOk P s ι w r Q → c.wp P Q a w := by
  intro n
  induction n using Nat.strongRecOn with
  | _ n ihs =>
  cases n with
  | zero => intro c s r ι a w h; cases h
  | succ n =>
    have ih := ihs n (Nat.lt_succ_self n)
    intro c s r ι a w h hr R hd Q hQ
    rw [ev_succ] at h
    cases c with
    | skip => obtain rfl := Option.some.inj h; exact wp_skip (hQ ι a w (.refl R) hr rfl hd)
    | label l => obtain rfl := Option.some.inj h; exact wp_label (hQ ι a w (.refl R) hr rfl hd)
    | ret => obtain rfl := Option.some.inj h; exact wp_ret (hQ ι a w (.refl R) hr rfl hd)
    | exit id => obtain rfl := Option.some.inj h; exact wp_exit (hQ ι a w (.refl R) hr rfl hd)
    | seq x y =>
      obtain ⟨⟨e, s1⟩, h1, h2⟩ := Option.bind_eq_some_iff.1 h
      refine wp_seq (ih x h1 hr R hd _ fun ι' a' w' g1 g2 g3 g4 => ?_)
      cases e with
      | normal => exact ih y h2 g2 g1.rh g4 Q fun ι2 a2 w2 k1 k2 k3 k4 => hQ ι2 a2 w2 (g1.trans k1) k2 (k3.trans g3) k4
      | exit id => obtain rfl := Option.some.inj h2; exact hQ ι' a' w' g1 g2 g3 g4
      | ret => obtain rfl := Option.some.inj h2; exact hQ ι' a' w' g1 g2 g3 g4
    | cond c x y =>
      obtain ⟨v, h1, h2⟩ := Option.bind_eq_some_iff.1 h
      have hv := opv_sound R.glob hr h1
      split at h2
      · exact wp_cond_true hv.bool_iff (ih x h2 hr R hd Q hQ)
      · exact wp_cond_false hv.bool_iff (ih y h2 hr R hd Q hQ)
      · cases h2
    | block id b =>
      obtain ⟨⟨e, s1⟩, h1, rfl⟩ := Option.map_eq_some_iff.1 h
      refine wp_block (ih b h1 hr R hd _ fun ι' a' w' g1 g2 g3 g4 => ?_)
      cases e with
      | normal => exact hQ ι' a' w' g1 g2 g3 g4
      | ret => exact hQ ι' a' w' g1 g2 g3 g4
      | exit id' =>
        show if id' = id then _ else _
        by_cases hi : id' = id
        · subst hi
          rw [if_pos rfl]
          simp only [show Nat.beq id' id' = true from Nat.beq_refl _, cond_true] at hQ
          exact hQ ι' a' w' g1 g2 g3 g4
        · rw [if_neg hi]
          have hb : Nat.beq id' id = false := by rw [Bool.eq_false_iff]; intro hh; exact hi (Nat.eq_of_beq_eq_true hh)
          simp only [hb, cond_false] at hQ
          exact hQ ι' a' w' g1 g2 g3 g4
    | loop b =>
      refine wp_loop_n (fun m a' w' => m ≤ n + 1 ∧ ∃ s' ι', ev P cf m (.loop b) s' = some r ∧ Went P s.h ι w s'.h ι' w' ∧ RT ι' s'.t s'.n a' ∧ s'.n = s.n ∧ a'.defers = []) (n := n + 1) ?_ ⟨Nat.le_refl _, s, ι, by rw [ev_succ]; exact h, .refl R, hr, rfl, hd⟩
      rintro m a' w' ⟨hm, s', ι', hev, g1, g2, g3, g4⟩
      cases m with
      | zero => cases hev
      | succ m =>
        rw [ev_succ] at hev
        obtain ⟨⟨e, s1⟩, h1, h2⟩ := Option.bind_eq_some_iff.1 hev
        refine ihs m hm b h1 g2 g1.rh g4 _ fun ι2 a2 w2 k1 k2 k3 k4 => ?_
        cases e with
        | normal => exact ⟨m, Nat.lt_succ_self m, Nat.le_of_succ_le hm, s1, ι2, h2, g1.trans k1, k2, k3.trans g3, k4⟩
        | exit id => obtain rfl := Option.some.inj h2; exact hQ ι2 a2 w2 (g1.trans k1) k2 (k3.trans g3) k4
        | ret => obtain rfl := Option.some.inj h2; exact hQ ι2 a2 w2 (g1.trans k1) k2 (k3.trans g3) k4
    | scope b => 
      refine wp_scope_straight (ih b h hr R hd _ fun ι' a' w' g1 g2 g3 g4 => ?_)
      have := hQ ι' a' w' g1 g2 g3 g4
      obtain ⟨e, s1⟩ := r
      cases e <;> exact this
    | region id ops draw =>
      obtain ⟨s1, h1, rfl⟩ := Option.map_eq_some_iff.1 h
      exact hg id ops draw s s1 ι a w h1 hr R hd Q hQ
    | _ => cases h
end
end Go.Ev
