/- A long body, piece by piece. -/
import Derived.Test.YtfgfhplgnfbaaaaDoorEvUse
namespace Go.Ev
open Go

/-- What is told of a state: its slots, some of its objects, the next number. -/
structure Vs where
  ts : List Value
  obs : List (Nat × Ob)
  nx : Nat

noncomputable section
def mkT (l : List (Nat × Ob)) : Tr (Option Ob) := List.rec (motive := fun _ => Tr (Option Ob)) (Tr.full none 64) (fun p _ t => t.set p.1 (some p.2)) l
def mkF : Nat → List Value → Fr → Fr
  | _, [], t => t
  | i, v :: l, t => mkF (i + 1) l (t.set i v)
def mkSt (n : Nat) (V : Vs) : St := ⟨argsIn 0 V.ts (Tr.full undef (n + 1)), n, ⟨mkT V.obs, V.nx, []⟩⟩
def slotsOf (t : Fr) (n : Nat) : List Value := (List.range n).map fun i => slot t i
def obsOf (h : Hp) (ids : List Nat) : Option (List (Nat × Ob)) := mapO (fun i => (h.get i).map fun x => (i, x)) ids
/-- What is told of a state. -/
def tell (n : Nat) (ids : List Nat) (s : St) : Option Vs := (obsOf s.h ids).map fun l => ⟨slotsOf s.t n, l, s.h.nx⟩
/-- Some pieces of a body. -/
def evK (P : Program) (cf : CallF) (n : Nat) : Nat → Code → St → Option St
  | 0, _, s => some s
  | k + 1, c, s => match c with
    | .seq a b => (ev P cf n a s).bind fun r => match r.1 with
      | .normal => evK P cf n k b r.2
      | _ => none
    | _ => none
def dropSeq : Nat → Code → Code
  | 0, c => c
  | k + 1, c => match c with
    | .seq _ b => dropSeq k b
    | c => c
end

/-- A state that fits. -/
def Fits (P : Program) (h0 : Hp) (ι0 : Inj) (w0 : World) (s : St) (a : Act) (w : World) : Prop := ∃ ι, Went P h0 ι0 w0 s.h ι w ∧ RT ι s.t s.n a ∧ a.defers = []

theorem evK_sound {P : Program} {cf : CallF} (hg : RegOk P cf) {n : Nat} {h0 : Hp} {ι0 : Inj} {w0 : World} (_R0 : RH P ι0 h0 w0) {Q : Exit → Act → World → Prop} : ∀ (k : Nat) (c : Code) {s s' : St} {a : Act} {w : World}, evK P cf n k c s = some s' → Fits P h0 ι0 w0 s a w →
    (∀ a' w', Fits P h0 ι0 w0 s' a' w' → (dropSeq k c).wp P Q a' w') → c.wp P Q a w := by
  intro k
  induction k with
  | zero => intro c s s' a w h hf hq; obtain rfl := Option.some.inj h; exact hq a w hf
  | succ k ih =>
    intro c s s' a w h hf hq
    cases c with
    | seq x y =>
      obtain ⟨⟨e, s1⟩, h1, h2⟩ := Option.bind_eq_some_iff.1 (show ((ev P cf n x s).bind fun r => match r.1 with
        | .normal => evK P cf n k y r.2
        | _ => none) = some s' from h)
      obtain ⟨ι, g, hr, hd⟩ := hf
      refine wp_seq (ev_sound hg n x h1 hr g.rh hd _ fun ι' a' w' g1 g2 g3 g4 => ?_)
      cases e with
      | normal => exact ih y h2 ⟨ι', g.trans g1, g2, g4⟩ hq
      | exit id => cases h2
      | ret => cases h2
    | _ => cases h

theorem mkT_get : ∀ (l : List (Nat × Ob)) (o : Nat) (x : Ob), (mkT l).get none o = some x → (o, x) ∈ l := by
  intro l
  induction l with
  | nil =>
    intro o x h
    have : (mkT []).get none o = none := Tr.get_full none 64 o
    rw [this] at h; cases h
  | cons p l ih =>
    intro o x h
    have h : ((mkT l).set p.1 (some p.2)).get none o = some x := h
    rw [Tr.get_set] at h
    split at h
    · rename_i ho
      split at h
      · obtain rfl := Option.some.inj h
        subst ho
        exact List.mem_cons_self ..
      · cases h
    · exact List.mem_cons_of_mem _ (ih o x h)

/-- What is told serves. -/
theorem fits_tell {P : Program} {h0 : Hp} {ι0 : Inj} {w0 : World} (hgd : h0.gd = []) {n : Nat} {ids : List Nat} {s : St} {V : Vs} (hn : s.n = n) (ht : tell n ids s = some V) {a : Act} {w : World} (hf : Fits P h0 ι0 w0 s a w) : Fits P h0 ι0 w0 (mkSt n V) a w := by
  obtain ⟨ι, g, hr, hd⟩ := hf
  obtain ⟨l, hl, rfl⟩ := Option.map_eq_some_iff.1 ht
  have sub : ∀ o x, (mkT l).get none o = some x → s.h.get o = some x := fun o x h => by
    have hm := mkT_get l o x h
    obtain ⟨i, hi, hi2⟩ := List.getElem_of_mem hm
    obtain ⟨h1, h2⟩ := mapO_some hl
    have hi' : i < ids.length := by rw [← h1]; exact hi
    obtain ⟨b, hb, hb2⟩ := h2 i _ (List.getElem?_eq_getElem hi')
    rw [List.getElem?_eq_getElem hi, hi2] at hb
    obtain rfl := Option.some.inj hb
    obtain ⟨y, hy, he⟩ := Option.map_eq_some_iff.1 hb2
    injection he with e1 e2
    subst e1 e2
    exact hy
  have hrh := g.rh.sub (h' := ⟨mkT l, s.h.nx, []⟩) sub (Nat.le_refl _)
  refine ⟨ι, ⟨g.ext, hrh, g.fr, g.nx, hgd.symm, fun q x _ hq => ?_, fun q y hq hy => g.born q y hq (sub q y hy), fun o x v ho hv => g.old o x v (sub o x ho) hv⟩, ⟨by rw [hr.size]; exact hn, fun i => ?_, fun d hdn => ?_⟩, hd⟩
  · unfold Hp.guarded at hq; rw [hgd] at hq; cases hq
  · obtain ⟨a1, a2⟩ := argsIn_spec (slotsOf s.t n) 0 (Tr.full undef (n + 1))
    show VR ι (slot (argsIn 0 (slotsOf s.t n) (Tr.full undef (n + 1))) i) _
    rw [a2]
    have hlen : (slotsOf s.t n).length = n := by simp [slotsOf]
    by_cases hi : i < n
    · rw [if_pos ⟨Nat.zero_le _, by omega⟩, if_pos (Tr.has_full _ _ _ (by have : n + 1 < 2 ^ (n + 1) := Nat.lt_two_pow_self; omega))]
      have : (slotsOf s.t n).getD (i - 0) undef = slot s.t i := by simp [slotsOf, hi]
      rw [this]
      exact hr.slots i
    · rw [if_neg (by omega)]
      have e1 : slot (Tr.full undef (n + 1)) i = undef := Tr.get_full ..
      rw [e1, Array.getD_eq_getD_getElem?, Array.getElem?_eq_none (by rw [hr.size, hn]; omega)]
      exact .flat rfl
  · obtain ⟨a1, a2⟩ := argsIn_spec (slotsOf s.t n) 0 (Tr.full undef (n + 1))
    show (argsIn 0 (slotsOf s.t n) (Tr.full undef (n + 1))).has d = true
    rw [a1]
    exact Tr.has_full _ _ _ (by have : n + 1 < 2 ^ (n + 1) := Nat.lt_two_pow_self; have : d < n := hdn; omega)

/-- A piece: what is told afterwards. -/
noncomputable def piece (P : Program) (cf : CallF) (fuel n k : Nat) (ids : List Nat) (c : Code) (V : Vs) : Option (Nat × Vs) := (evK P cf fuel k c (mkSt n V)).bind fun s => (tell n ids s).map fun W => (s.n, W)

theorem piece_sound {P : Program} {cf : CallF} (hg : RegOk P cf) {fuel n k : Nat} {ids : List Nat} {c : Code} {V W : Vs} (h : piece P cf fuel n k ids c V = some (n, W)) {h0 : Hp} {ι0 : Inj} {w0 : World} (hgd : h0.gd = []) (R0 : RH P ι0 h0 w0) {Q : Exit → Act → World → Prop} {a : Act} {w : World}
    (hf : Fits P h0 ι0 w0 (mkSt n V) a w) (hq : ∀ a' w', Fits P h0 ι0 w0 (mkSt n W) a' w' → (dropSeq k c).wp P Q a' w') : c.wp P Q a w := by
  obtain ⟨s, h1, h2⟩ := Option.bind_eq_some_iff.1 h
  obtain ⟨W', h3, h4⟩ := Option.map_eq_some_iff.1 h2
  injection h4 with e1 e2
  subst e2
  exact evK_sound hg R0 k c h1 hf fun a' w' hf' => hq a' w' (fits_tell hgd e1 h3 hf')
end Go.Ev
