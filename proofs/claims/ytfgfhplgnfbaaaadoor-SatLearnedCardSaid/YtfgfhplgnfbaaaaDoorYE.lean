/- The plain law of propagation: both ways to propagate end with the same literals, or both clash. -/
import Derived.Test.YtfgfhplgnfbaaaaDoorYD
import Derived.Test.YtfgfhplgnfbaaaaDoorProg
import Derived.Test.YtfgfhplgnfbaaaaDoorYC
import Derived.KernelRfl
namespace Go.Proofs.YtfgfhplgnfbaaaaDoor
open Go Go.Ev
/-- What follows by unit clauses. -/
inductive Der (cls : List (List Int)) (xs : List Int) : Int → Prop
  | base {x : Int} : x ∈ xs → Der cls xs x
  | unit {l : List Int} {x : Int} : l ∈ cls → x ∈ l → (∀ y ∈ l, y ≠ x → Der cls xs (-y)) → Der cls xs x
def Cl (cls : List (List Int)) (xs : List Int) : Prop := (∃ x, Der cls xs x ∧ Der cls xs (-x)) ∨ ∃ l ∈ cls, ∀ y ∈ l, Der cls xs (-y)
structure Calm (cls : List (List Int)) (xs : List Int) (T : Int → Prop) : Prop where
  con : ∀ x, T x → T (-x) → False
  beg : ∀ x ∈ xs, T x
  cl : ∀ l ∈ cls, (∃ x ∈ l, T x) ∨ ∃ x ∈ l, ∃ z ∈ l, x ≠ z ∧ ¬ T x ∧ ¬ T (-x) ∧ ¬ T z ∧ ¬ T (-z)
theorem Calm.all {cls : List (List Int)} {xs : List Int} {T : Int → Prop} (C : Calm cls xs T) {x : Int} (h : Der cls xs x) : T x := by
  induction h with
  | base h => exact C.beg _ h
  | @unit l x hl hx _ ih =>
    rcases C.cl l hl with ⟨z, hz, hT⟩ | ⟨z, hz, w, hw, hne, h1, h2, h3, h4⟩
    · by_cases e : z = x
      · rw [← e]; exact hT
      · exact (C.con z hT (ih z hz e)).elim
    · by_cases e : z = x
      · have : w ≠ x := fun hh => hne (e.trans hh.symm)
        exact (h4 (ih w hw this)).elim
      · exact (h2 (ih z hz e)).elim
theorem Calm.not {cls : List (List Int)} {xs : List Int} {T : Int → Prop} (C : Calm cls xs T) : ¬ Cl cls xs := by
  rintro (⟨x, h1, h2⟩ | ⟨l, hl, h⟩)
  · exact C.con x (C.all h1) (C.all h2)
  · rcases C.cl l hl with ⟨z, hz, hT⟩ | ⟨z, hz, w, hw, hne, h1, h2, h3, h4⟩
    · exact C.con z hT (C.all (h z hz))
    · exact h2 (C.all (h z hz))
/-- A clause's variables differ. -/
def Dif (l : List Int) : Prop := l.Pairwise fun x z => x.natAbs < z.natAbs
theorem Dif.eq {l : List Int} (h : Dif l) {x z : Int} (hx : x ∈ l) (hz : z ∈ l) (e : x.natAbs = z.natAbs) : x = z := by
  induction l with
  | nil => cases hx
  | cons w l ih =>
    have hp := List.pairwise_cons.1 h
    rcases List.mem_cons.1 hx with e1 | hx1 <;> rcases List.mem_cons.1 hz with e2 | hz1
    · rw [e1, e2]
    · have := hp.1 z hz1; rw [← e1] at this; omega
    · have := hp.1 x hx1; rw [← e2] at this; omega
    · exact ih hp.2 hx1 hz1
/-! ### by masks -/
def trM (y m : Nat) (x : Int) : Prop := (0 < x ∧ y.testBit (x.natAbs - 1) = true) ∨ (x < 0 ∧ m.testBit (x.natAbs - 1) = true)
theorem trM_neg {y m : Nat} {x : Int} : trM y m (-x) ↔ (x < 0 ∧ y.testBit (x.natAbs - 1) = true) ∨ (0 < x ∧ m.testBit (x.natAbs - 1) = true) := by
  unfold trM
  rw [Int.natAbs_neg]
  constructor
  · rintro (⟨a, b⟩ | ⟨a, b⟩)
    · exact .inl ⟨by omega, b⟩
    · exact .inr ⟨by omega, b⟩
  · rintro (⟨a, b⟩ | ⟨a, b⟩)
    · exact .inl ⟨by omega, b⟩
    · exact .inr ⟨by omega, b⟩
theorem trM_with {y m : Nat} {x z : Int} (hx : Lit x) : trM (withN y m x).1 (withN y m x).2 z ↔ trM y m z ∨ z = x := by
  have hw := withN_test (y := y) (m := m) hx (z.natAbs - 1)
  unfold trM
  rw [hw.1, hw.2]
  simp only [Bool.or_eq_true, decide_eq_true_eq]
  have := hx.1
  constructor
  · rintro (⟨a, b | b⟩ | ⟨a, b | b⟩)
    · exact .inl (.inl ⟨a, b⟩)
    · exact .inr (by omega)
    · exact .inl (.inr ⟨a, b⟩)
    · exact .inr (by omega)
  · rintro ((⟨a, b⟩ | ⟨a, b⟩) | rfl)
    · exact .inl ⟨a, .inl b⟩
    · exact .inr ⟨a, .inl b⟩
    · rcases Int.lt_or_gt_of_ne this with h | h
      · exact .inr ⟨h, .inr (by omega)⟩
      · exact .inl ⟨h, .inr (by omega)⟩
theorem trM_con {y m : Nat} (h : y &&& m = 0) (x : Int) : trM y m x → trM y m (-x) → False := by
  intro h1 h2
  have := (and_zero_iff y m).1 h (x.natAbs - 1)
  rw [trM_neg] at h2
  rcases h1 with ⟨a, b⟩ | ⟨a, b⟩ <;> rcases h2 with ⟨c, d⟩ | ⟨c, d⟩
  · omega
  · exact this ⟨b, d⟩
  · exact this ⟨d, b⟩
  · omega
/-- A clause has a literal that is true. -/
theorem sat_mask {l : List Int} (hl : ∀ x ∈ l, Lit x) (y m : Nat) : (((sideN l).1 &&& y) ||| ((sideN l).2 &&& m) = 0) ↔ ∀ x ∈ l, ¬ trM y m x := by
  have hs := fun i => sideF_test (y := 0) (m := 0) hl i
  rw [or_zero_iff]
  simp only [Nat.testBit_and]
  unfold sideN
  simp only [fun i => (hs i).1, fun i => (hs i).2, Nat.zero_testBit, Bool.false_or, Bool.and_eq_false_iff, decide_eq_false_iff_not]
  constructor
  · rintro h x hx (⟨a, b⟩ | ⟨a, b⟩)
    · have := (h (x.natAbs - 1)).1
      rw [show ((x.natAbs - 1 + 1 : Nat) : Int) = x by omega] at this
      rcases this with h | h
      · exact h hx
      · rw [b] at h; cases h
    · have := (h (x.natAbs - 1)).2
      rw [show -((x.natAbs - 1 + 1 : Nat) : Int) = x by omega] at this
      rcases this with h | h
      · exact h hx
      · rw [b] at h; cases h
  · intro h i
    constructor
    · by_cases hx : ((i + 1 : Nat) : Int) ∈ l
      · right
        have := h _ hx
        cases hb : y.testBit i with
        | false => rfl
        | true => exact (this (.inl ⟨by omega, by rw [show ((i + 1 : Nat) : Int).natAbs - 1 = i by omega]; exact hb⟩)).elim
      · exact .inl hx
    · by_cases hx : -((i + 1 : Nat) : Int) ∈ l
      · right
        have := h _ hx
        cases hb : m.testBit i with
        | false => rfl
        | true => exact (this (.inr ⟨by omega, by rw [show (-((i + 1 : Nat) : Int)).natAbs - 1 = i by omega]; exact hb⟩)).elim
      · exact .inl hx
/-- The variables of a clause's literals that are not false. -/
theorem open_mask {l : List Int} (hl : ∀ x ∈ l, Lit x) (y m i : Nat) : (((sideN l).1 - ((sideN l).1 &&& m)) ||| ((sideN l).2 - ((sideN l).2 &&& y))).testBit i = true ↔ ∃ x ∈ l, x.natAbs = i + 1 ∧ ¬ trM y m (-x) := by
  have hs := sideF_test (y := 0) (m := 0) hl i
  rw [Nat.testBit_or, testBit_andn, testBit_andn]
  unfold sideN
  rw [hs.1, hs.2]
  simp only [Nat.zero_testBit, Bool.false_or, Bool.or_eq_true, Bool.and_eq_true, decide_eq_true_eq, Bool.not_eq_true']
  constructor
  · rintro (⟨a, b⟩ | ⟨a, b⟩)
    · refine ⟨_, a, by omega, fun h => ?_⟩
      rw [trM_neg] at h
      rcases h with ⟨h, _⟩ | ⟨_, h⟩
      · omega
      · rw [show ((i + 1 : Nat) : Int).natAbs - 1 = i by omega, b] at h; cases h
    · refine ⟨_, a, by omega, fun h => ?_⟩
      rw [trM_neg] at h
      rcases h with ⟨_, h⟩ | ⟨h, _⟩
      · rw [show (-((i + 1 : Nat) : Int)).natAbs - 1 = i by omega, b] at h; cases h
      · omega
  · rintro ⟨x, hx, e, hn⟩
    rw [trM_neg] at hn
    have h0 := (hl x hx).1
    rcases Int.lt_or_gt_of_ne h0 with h | h
    · right
      have hxe : x = -((i + 1 : Nat) : Int) := by omega
      refine ⟨by rw [← hxe]; exact hx, ?_⟩
      cases hb : y.testBit i with
      | false => rfl
      | true => exact (hn (.inl ⟨h, by rw [show x.natAbs - 1 = i by omega]; exact hb⟩)).elim
    · left
      have hxe : x = ((i + 1 : Nat) : Int) := by omega
      refine ⟨by rw [← hxe]; exact hx, ?_⟩
      cases hb : m.testBit i with
      | false => rfl
      | true => exact (hn (.inr ⟨h, by rw [show x.natAbs - 1 = i by omega]; exact hb⟩)).elim
section
variable {cls : List (List Int)} {xs : List Int}
theorem layN_ok : ∀ {ys : List Int} {y m : Nat}, (∀ x ∈ ys, Lit x ∧ x ∈ xs) → (∀ z, trM y m z → Der cls xs z) → y &&& m = 0 →
    ((layN ys y m).2 = true → (∀ z, trM (layN ys y m).1.1 (layN ys y m).1.2 z → Der cls xs z) ∧ (layN ys y m).1.1 &&& (layN ys y m).1.2 = 0 ∧ (∀ x ∈ ys, trM (layN ys y m).1.1 (layN ys y m).1.2 x) ∧ ∀ z, trM y m z → trM (layN ys y m).1.1 (layN ys y m).1.2 z) ∧
    ((layN ys y m).2 = false → ∃ x, Der cls xs x ∧ Der cls xs (-x)) := by
  intro ys
  induction ys with
  | nil => intro y m _ hs hc; exact ⟨fun _ => ⟨hs, hc, fun x hx => (by cases hx), fun z h => h⟩, fun h => by cases h⟩
  | cons x ys ih =>
    intro y m hl hs hc
    have hx := hl x (List.mem_cons_self ..)
    have hs' : ∀ z, trM (withN y m x).1 (withN y m x).2 z → Der cls xs z := fun z h => by
      rcases (trM_with hx.1).1 h with h | rfl
      · exact hs z h
      · exact .base hx.2
    simp only [layN]
    split
    · rename_i h0
      obtain ⟨a, b⟩ := ih (fun z hz => hl z (List.mem_cons_of_mem _ hz)) hs' h0
      refine ⟨fun h => ?_, b⟩
      obtain ⟨a1, a2, a3, a4⟩ := a h
      refine ⟨a1, a2, fun z hz => ?_, fun z hz => a4 z ((trM_with hx.1).2 (.inl hz))⟩
      rcases List.mem_cons.1 hz with rfl | hz
      · exact a4 z ((trM_with hx.1).2 (.inr rfl))
      · exact a3 z hz
    · rename_i h0
      refine ⟨fun h => (by cases h), fun _ => ?_⟩
      -- both contraries are true
      obtain ⟨i, hi⟩ := Classical.not_forall.1 (fun h => h0 ((and_zero_iff _ _).2 h))
      have hi := Classical.not_not.1 hi
      refine ⟨((i + 1 : Nat) : Int), hs' _ (.inl ⟨by omega, ?_⟩), hs' _ (.inr ⟨by omega, ?_⟩)⟩
      · rw [show ((i + 1 : Nat) : Int).natAbs - 1 = i by omega]; exact hi.1
      · rw [show (-((i + 1 : Nat) : Int)).natAbs - 1 = i by omega]; exact hi.2
theorem stepS_ok (hd : ∀ l ∈ cls, (∀ x ∈ l, Lit x) ∧ Dif l) {y m : Nat} (hs : ∀ z, trM y m z → Der cls xs z) (hc : y &&& m = 0) : ∀ {cs : List (List Int)}, (∀ l ∈ cs, l ∈ cls) →
    (stepS y m (cs.map sideN) = none → ∀ l ∈ cs, (∃ x ∈ l, trM y m x) ∨ ∃ x ∈ l, ∃ z ∈ l, x ≠ z ∧ ¬ trM y m x ∧ ¬ trM y m (-x) ∧ ¬ trM y m z ∧ ¬ trM y m (-z)) ∧
    (stepS y m (cs.map sideN) = some none → ∃ l ∈ cls, ∀ x ∈ l, Der cls xs (-x)) ∧
    (∀ p, stepS y m (cs.map sideN) = some (some p) → ∃ x, Lit x ∧ Der cls xs x ∧ ¬ trM y m (-x) ∧ p = withN y m x) := by
  intro cs
  induction cs with
  | nil => intro _; exact ⟨fun _ l hl => (by cases hl), fun h => (by cases h), fun p h => by cases h⟩
  | cons l cs ih =>
    intro hsub
    have hlc := hsub l (List.mem_cons_self ..)
    obtain ⟨hl, hdl⟩ := hd l hlc
    obtain ⟨i1, i2, i3⟩ := ih fun l h => hsub l (List.mem_cons_of_mem _ h)
    have hz := open_mask hl y m
    have hlt : ((sideN l).1 - ((sideN l).1 &&& m)) ||| ((sideN l).2 - ((sideN l).2 &&& y)) < 2 ^ 30 := by
      have := sideF_lt hl (y := 0) (m := 0) (by decide) (by decide)
      exact Nat.or_lt_two_pow (Nat.lt_of_le_of_lt (Nat.sub_le _ _) this.1) (Nat.lt_of_le_of_lt (Nat.sub_le _ _) this.2)
    rw [List.map_cons]
    simp only [stepS]
    by_cases h0 : ((sideN l).1 &&& y) ||| ((sideN l).2 &&& m) = 0
    · rw [if_pos h0]
      have hun := (sat_mask hl y m).1 h0
      by_cases h1 : popN (((sideN l).1 - ((sideN l).1 &&& m)) ||| ((sideN l).2 - ((sideN l).2 &&& y))) = 0
      · rw [if_pos h1]
        refine ⟨fun h => (by cases h), fun _ => ⟨l, hlc, fun x hx => hs _ ?_⟩, fun p h => by cases h⟩
        have hu := (popN_zero (by omega)).1 h1
        apply Classical.byContradiction
        intro hn
        have := (hz (x.natAbs - 1)).2 ⟨x, hx, by have := (hl x hx).1; omega, hn⟩
        rw [hu, Nat.zero_testBit] at this
        cases this
      · rw [if_neg h1]
        by_cases h2 : popN (((sideN l).1 - ((sideN l).1 &&& m)) ||| ((sideN l).2 - ((sideN l).2 &&& y))) = 1
        · rw [if_pos h2]
          refine ⟨fun h => (by cases h), fun h => (by cases h), fun p h => ?_⟩
          injection h with h; injection h with h
          obtain ⟨i, hi, e⟩ := (popN_one (by omega)).1 h2
          obtain ⟨x, hx, ex, hn⟩ := (hz i).1 (by rw [e, Nat.testBit_two_pow_self])
          refine ⟨x, hl x hx, .unit hlc hx (fun w hw hne => hs _ ?_), hn, ?_⟩
          · apply Classical.byContradiction
            intro hnw
            have := (hz (w.natAbs - 1)).2 ⟨w, hw, by have := (hl w hw).1; omega, hnw⟩
            rw [e, Nat.testBit_two_pow] at this
            have : i = w.natAbs - 1 := by simpa using this
            exact hne (hdl.eq hw hx (by have := (hl w hw).1; omega))
          · rw [← h]
            have hsp := fun j => sideF_test (y := 0) (m := 0) hl j
            have pj : ∀ j, ((sideN l).1 - ((sideN l).1 &&& m)).testBit j = true → j = i ∧ x = ((i + 1 : Nat) : Int) := fun j hj => by
              have h3 := congrArg (fun z => z.testBit j) e
              simp only [Nat.testBit_or, hj, Bool.true_or, Nat.testBit_two_pow] at h3
              have hji : i = j := by simpa using h3.symm
              subst hji
              refine ⟨rfl, ?_⟩
              rw [testBit_andn, Bool.and_eq_true] at hj
              have h4 := hj.1
              unfold sideN at h4
              rw [(hsp i).1, Nat.zero_testBit, Bool.false_or] at h4
              exact hdl.eq hx (of_decide_eq_true h4) (by omega)
            have mj : ∀ j, ((sideN l).2 - ((sideN l).2 &&& y)).testBit j = true → j = i ∧ x = -((i + 1 : Nat) : Int) := fun j hj => by
              have h3 := congrArg (fun z => z.testBit j) e
              simp only [Nat.testBit_or, hj, Bool.or_true, Nat.testBit_two_pow] at h3
              have hji : i = j := by simpa using h3.symm
              subst hji
              refine ⟨rfl, ?_⟩
              rw [testBit_andn, Bool.and_eq_true] at hj
              have h4 := hj.1
              unfold sideN at h4
              rw [(hsp i).2, Nat.zero_testBit, Bool.false_or] at h4
              exact hdl.eq hx (of_decide_eq_true h4) (by omega)
            have hb : bitN x = 2 ^ i := by unfold bitN; rw [ex, Nat.add_sub_cancel]
            unfold withN
            by_cases hp : 0 < x
            · have m0 : (sideN l).2 - ((sideN l).2 &&& y) = 0 := Nat.eq_of_testBit_eq fun j => by
                rw [Nat.zero_testBit]
                cases hj : ((sideN l).2 - ((sideN l).2 &&& y)).testBit j with
                | false => rfl
                | true => have := (mj j hj).2; omega
              rw [m0, Nat.or_zero] at e
              rw [if_pos hp, m0, e, hb, Nat.or_zero]
            · have p0 : (sideN l).1 - ((sideN l).1 &&& m) = 0 := Nat.eq_of_testBit_eq fun j => by
                rw [Nat.zero_testBit]
                cases hj : ((sideN l).1 - ((sideN l).1 &&& m)).testBit j with
                | false => rfl
                | true => have := (pj j hj).2; omega
              rw [p0, Nat.zero_or] at e
              rw [if_neg hp, p0, e, hb, Nat.or_zero]
        · rw [if_neg h2]
          refine ⟨fun h w hw => ?_, i2, i3⟩
          rcases List.mem_cons.1 hw with rfl | hw
          · right
            have hu : ((sideN w).1 - ((sideN w).1 &&& m)) ||| ((sideN w).2 - ((sideN w).2 &&& y)) ≠ 0 := fun hh => h1 ((popN_zero (by omega)).2 hh)
            obtain ⟨i, hi⟩ := Nat.exists_testBit_of_ne_zero hu
            obtain ⟨x, hx, ex, hnx⟩ := (hz i).1 hi
            have hex : ∃ j, j ≠ i ∧ (((sideN w).1 - ((sideN w).1 &&& m)) ||| ((sideN w).2 - ((sideN w).2 &&& y))).testBit j = true := by
              apply Classical.byContradiction
              intro hn
              have hi30 : i < 30 := by
                apply Classical.byContradiction
                intro hge
                rw [Nat.testBit_lt_two_pow (Nat.lt_of_lt_of_le hlt (Nat.pow_le_pow_right (by decide) (by omega)))] at hi
                cases hi
              refine h2 ((popN_one (by omega)).2 ⟨i, by omega, Nat.eq_of_testBit_eq fun j => ?_⟩)
              rw [Nat.testBit_two_pow]
              by_cases hji : i = j
              · subst hji; rw [hi]; simp
              · rw [decide_eq_false hji]
                cases hj : (((sideN w).1 - ((sideN w).1 &&& m)) ||| ((sideN w).2 - ((sideN w).2 &&& y))).testBit j with
                | false => rfl
                | true => exact (hn ⟨j, fun hh => hji hh.symm, hj⟩).elim
            obtain ⟨j, hji, hj⟩ := hex
            obtain ⟨z, hz2, ez, hnz⟩ := (hz j).1 hj
            exact ⟨x, hx, z, hz2, fun hh => hji (by rw [hh] at ex; omega), hun x hx, hnx, hun z hz2, hnz⟩
          · exact i1 h w hw
    · rw [if_neg h0]
      refine ⟨fun h w hw => ?_, i2, i3⟩
      rcases List.mem_cons.1 hw with rfl | hw
      · left
        apply Classical.byContradiction
        intro hn
        exact h0 ((sat_mask hl y m).2 fun x hx hT => hn ⟨x, hx, hT⟩)
      · exact i1 h w hw
end
end Go.Proofs.YtfgfhplgnfbaaaaDoor
/- The plain law of propagation, continued: to the end, both ways. -/
namespace Go.Proofs.YtfgfhplgnfbaaaaDoor
open Go Go.Ev
section
variable {cls : List (List Int)} {xs : List Int}
theorem with_con {y m : Nat} {x : Int} (hx : Lit x) (hc : y &&& m = 0) (hn : ¬ trM y m (-x)) : (withN y m x).1 &&& (withN y m x).2 = 0 := by
  refine (and_zero_iff _ _).2 fun i hi => ?_
  have h1 : trM (withN y m x).1 (withN y m x).2 ((i + 1 : Nat) : Int) := .inl ⟨by omega, by rw [show ((i + 1 : Nat) : Int).natAbs - 1 = i by omega]; exact hi.1⟩
  have h2 : trM (withN y m x).1 (withN y m x).2 (-((i + 1 : Nat) : Int)) := .inr ⟨by omega, by rw [show (-((i + 1 : Nat) : Int)).natAbs - 1 = i by omega]; exact hi.2⟩
  rcases (trM_with hx).1 h1 with h1 | h1 <;> rcases (trM_with hx).1 h2 with h2 | h2
  · exact trM_con hc _ h1 h2
  · rw [← h2, Int.neg_neg] at hn; exact hn h1
  · rw [← h1] at hn; exact hn h2
  · omega
theorem spreadF_ok (hd : ∀ l ∈ cls, (∀ x ∈ l, Lit x) ∧ Dif l) : ∀ (d : Nat) {y m : Nat}, y < 2 ^ 30 → m < 2 ^ 30 → freeN (y ||| m) < d → (∀ z, trM y m z → Der cls xs z) → y &&& m = 0 → (∀ x ∈ xs, trM y m x) →
    ((spreadF (cls.map sideN) d y m).2 = true → Calm cls xs (trM (spreadF (cls.map sideN) d y m).1.1 (spreadF (cls.map sideN) d y m).1.2) ∧ ∀ z, trM (spreadF (cls.map sideN) d y m).1.1 (spreadF (cls.map sideN) d y m).1.2 z → Der cls xs z) ∧ ((spreadF (cls.map sideN) d y m).2 = false → Cl cls xs) := by
  intro d
  induction d with
  | zero => intro y m _ _ h; omega
  | succ d ih =>
    intro y m hy hm hf hs hc hb
    have hss : ∀ c ∈ cls.map sideN, c.1 < 2 ^ 30 ∧ c.2 < 2 ^ 30 := fun c hc => by
      obtain ⟨l, hl, rfl⟩ := List.mem_map.1 hc
      exact sideF_lt (hd l hl).1 (by decide) (by decide)
    obtain ⟨s1, s2, s3⟩ := stepS_ok hd hs hc (cs := cls) fun _ h => h
    simp only [spreadF]
    cases hst : stepS y m (cls.map sideN) with
    | none => exact ⟨fun _ => ⟨⟨trM_con hc, hb, s1 hst⟩, hs⟩, fun h => by cases h⟩
    | some o =>
      cases o with
      | none => exact ⟨fun h => (by cases h), fun _ => .inr (s2 hst)⟩
      | some p =>
        obtain ⟨x, hx, hD, hn, rfl⟩ := s3 p hst
        obtain ⟨f1, f2, f3⟩ := stepS_free hy hm hss hst
        refine ih f2 f3 (by omega) (fun z hz => ?_) (with_con hx hc hn) fun z hz => (trM_with hx).2 (.inl (hb z hz))
        rcases (trM_with hx).1 hz with h | rfl
        · exact hs z h
        · exact hD
theorem layN_lt : ∀ {ys : List Int} {y m : Nat}, (∀ x ∈ ys, Lit x) → y < 2 ^ 30 → m < 2 ^ 30 → (layN ys y m).1.1 < 2 ^ 30 ∧ (layN ys y m).1.2 < 2 ^ 30 := by
  intro ys
  induction ys with
  | nil => intro y m _ hy hm; exact ⟨hy, hm⟩
  | cons x ys ih =>
    intro y m hl hy hm
    have w := withN_lt (hl x (List.mem_cons_self ..)) hy hm
    simp only [layN]
    split
    · exact ih (fun z hz => hl z (List.mem_cons_of_mem _ hz)) w.1 w.2
    · exact w
theorem fromN_ok (hd : ∀ l ∈ cls, (∀ x ∈ l, Lit x) ∧ Dif l) (hx : ∀ x ∈ xs, Lit x) :
    ((fromN (cls.map sideN) xs).2 = true → Calm cls xs (trM (fromN (cls.map sideN) xs).1.1 (fromN (cls.map sideN) xs).1.2) ∧ ∀ z, trM (fromN (cls.map sideN) xs).1.1 (fromN (cls.map sideN) xs).1.2 z → Der cls xs z) ∧ ((fromN (cls.map sideN) xs).2 = false → Cl cls xs) := by
  have z0 : ∀ z, ¬ trM 0 0 z := fun z h => by
    rcases h with ⟨_, h⟩ | ⟨_, h⟩ <;> simp at h
  obtain ⟨a, b⟩ := layN_ok (cls := cls) (xs := xs) (ys := xs) (y := 0) (m := 0) (fun x h => ⟨hx x h, h⟩) (fun z h => (z0 z h).elim) rfl
  have lt := layN_lt (ys := xs) (y := 0) (m := 0) hx (by decide) (by decide)
  unfold fromN fromR
  cases hl : (layN xs 0 0).2 with
  | false => exact ⟨fun h => (by rw [if_neg (by decide), hl] at h; cases h), fun _ => .inl (b hl)⟩
  | true =>
    obtain ⟨a1, a2, a3, _⟩ := a hl
    rw [if_pos rfl]
    have := freeN_le ((layN xs 0 0).1.1 ||| (layN xs 0 0).1.2)
    exact spreadF_ok hd 31 lt.1 lt.2 (by omega) a1 a2 a3
/-! ### by truths -/
end
end Go.Proofs.YtfgfhplgnfbaaaaDoor
/- Contracts of functions of layer 20's reference: contraries; the literals that are true. -/
namespace Go.Proofs.YtfgfhplgnfbaaaaDoor
open Go Go.Ev
end Go.Proofs.YtfgfhplgnfbaaaaDoor
/- Conditions of functions' code, printed by a program of ours. -/
namespace Go.Proofs.YtfgfhplgnfbaaaaDoor
open Go Go.Ev
set_option maxRecDepth 100000
set_option linter.unusedVariables false
/-! sward/sat.contrary -/
noncomputable def b96 : Code := (Tryd.f96.body).getD .skip
noncomputable def stk96_0 : List KI := [.code (sub [1, 1, 0, 1, 0] b96), .blk 0, .code (sub [1, 1, 1] b96)]
def lv96 : List (Nat × List Nat) := [(0, [2, 3, 6, 7, 8])]
def I96_0 (O : CallF) (Q : Value → Hp → Prop) (a0 : Option Addr) (n0 : Nat) (c0 : Nat) (a3 : Option Addr) (n3 : Nat) (c3 : Nat) (x8 : Int) (h : Hp) : Prop := RKL Tryd.prog O Tryd.f96 stk96_0 21 [2, 3, 6, 7, 8] [(.slice none 0 0), (.slice a3 n3 c3), (.slice a0 n0 c0), (.int .i64 (Int.ofNat n0)), (.int .i64 x8)] h Q
def T96 (O : CallF) (Q : Value → Hp → Prop) (a0 : Option Addr) (n0 : Nat) (c0 : Nat) (h : Hp) : Prop :=
  I96_0 O Q a0 n0 c0 none 0 0 0 h
theorem rk96 {O Q} (a0 n0 c0) {h : Hp} (hO : O 96 [(.slice a0 n0 c0)] h = none) (hh : T96 O Q a0 n0 c0 h) : Ret Tryd.prog O 96 [(.slice a0 n0 c0)] h Q :=
  .of (c := b96) Tryd.func96 (by kernel_rfl) hO (V_ok (tb := lv96) (cuts := []) 500 (Eq.mp (by kernel_rfl) hh))
def T96_0 (O : CallF) (Q : Value → Hp → Prop) (a0 : Option Addr) (n0 : Nat) (c0 : Nat) (a3 : Option Addr) (n3 : Nat) (c3 : Nat) (x8 : Int) (h : Hp) : Prop :=
  vcond (ltI x8 (Int.ofNat n0))
  (isNat x8 fun n101' =>
  isAddr a0 fun b102' f103' =>
  vreq (Nat.blt n101' n0)
  (∃ x104', readAt h b102' (f103' + (n101' * 1)) 1 = some [(.int .i64 x104')] ∧
  ∃ a105' n106' c107' h108', appendV Tryd.prog (h.add (.cells [(.int .i64 (wrapF .i64 (0 - x104')))] 3 .fix)) 32 32 (.slice a3 n3 c3) (.slice (some ⟨h.nx, 0, none⟩) 1 1) = some (.slice a105' n106' c107', h108') ∧
  I96_0 O Q a0 n0 c0 a105' n106' c107' (wrapF .i64 (x8 + 1)) h108'))
  (∃ h109', EvC Tryd.prog O 74 [(.slice a3 n3 c3), (.func (.func 123) #[] #[])] h undef h109' ∧
  Q (.slice a3 n3 c3) h109')
theorem I96_0.of {O Q} (a0 n0 c0 a3 n3 c3 x8) {h : Hp} (hh : T96_0 O Q a0 n0 c0 a3 n3 c3 x8 h) : I96_0 O Q a0 n0 c0 a3 n3 c3 x8 h :=
  RKL.of (tb := lv96) (cuts := []) 500 fun _ => Eq.mp (by kernel_rfl) hh
/-! sward/sat.contrary$1 -/
noncomputable def b123 : Code := (Tryd.f123.body).getD .skip
def lv123 : List (Nat × List Nat) := []
def T123 (O : CallF) (Q : Value → Hp → Prop) (x0 : Int) (x1 : Int) (h : Hp) : Prop :=
  ∃ x1', ∃ h2', EvC Tryd.prog O 94 [(.int .i64 x0)] h (.int .i64 x1') h2' ∧
  ∃ x3', ∃ h4', EvC Tryd.prog O 94 [(.int .i64 x1)] h2' (.int .i64 x3') h4' ∧
  Q (.int .i64 (wrapF .i64 (x1' - x3'))) h4'
theorem rk123 {O Q} (x0 x1) {h : Hp} (hO : O 123 [(.int .i64 x0), (.int .i64 x1)] h = none) (hh : T123 O Q x0 x1 h) : Ret Tryd.prog O 123 [(.int .i64 x0), (.int .i64 x1)] h Q :=
  .of (c := b123) Tryd.func123 (by kernel_rfl) hO (V_ok (tb := lv123) (cuts := []) 500 (Eq.mp (by kernel_rfl) hh))
/-! slices.SortFunc[[]int,int] -/
noncomputable def b74 : Code := (Tryd.f74.body).getD .skip
def lv74 : List (Nat × List Nat) := []
def T74 (O : CallF) (Q : Value → Hp → Prop) (a0 : Option Addr) (n0 : Nat) (c0 : Nat) (g1 : Nat) (fi1 : Array Value) (ca1 : Array Value) (h : Hp) : Prop :=
  ∃ x1', ∃ h2', EvC Tryd.prog O 116 [(.int .u64 (wrapF .u64 (Int.ofNat n0)))] h (.int .i64 x1') h2' ∧
  ∃ h3', EvC Tryd.prog O 115 [(.slice a0 n0 c0), (.int .i64 0), (.int .i64 (Int.ofNat n0)), (.int .i64 x1'), (.func (.func g1) fi1 ca1)] h2' undef h3' ∧
  Q undef h3'
theorem rk74 {O Q} (a0 n0 c0 g1 fi1 ca1) {h : Hp} (hO : O 74 [(.slice a0 n0 c0), (.func (.func g1) fi1 ca1)] h = none) (hh : T74 O Q a0 n0 c0 g1 fi1 ca1 h) : Ret Tryd.prog O 74 [(.slice a0 n0 c0), (.func (.func g1) fi1 ca1)] h Q :=
  .of (c := b74) Tryd.func74 (by kernel_rfl) hO (V_ok (tb := lv74) (cuts := []) 500 (Eq.mp (by kernel_rfl) hh))
/-! slices.pdqsortCmpFunc[int] -/
noncomputable def b115 : Code := (Tryd.f115.body).getD .skip
noncomputable def stk115_0 : List KI := [.code (sub [1, 1, 0] b115), .blk 0]
def lv115 : List (Nat × List Nat) := [(0, [0, 1, 2, 3, 4, 10, 11])]
def I115_0 (O : CallF) (Q : Value → Hp → Prop) (a0 : Option Addr) (n0 : Nat) (c0 : Nat) (x1 : Int) (x2 : Int) (x3 : Int) (g4 : Nat) (fi4 : Array Value) (ca4 : Array Value) (x1s : Int) (x2s : Int) (x3s : Int) (g4s : Nat) (fi4s : Array Value) (ca4s : Array Value) (q10 : Bool) (q11 : Bool) (h : Hp) : Prop := RKL Tryd.prog O Tryd.f115 stk115_0 148 [0, 1, 2, 3, 4, 10, 11] [(.slice a0 n0 c0), (.int .i64 x1s), (.int .i64 x2s), (.int .i64 x3s), (.func (.func g4s) fi4s ca4s), (.bool q10), (.bool q11)] h Q
def T115 (O : CallF) (Q : Value → Hp → Prop) (a0 : Option Addr) (n0 : Nat) (c0 : Nat) (x1 : Int) (x2 : Int) (x3 : Int) (g4 : Nat) (fi4 : Array Value) (ca4 : Array Value) (h : Hp) : Prop :=
  I115_0 O Q a0 n0 c0 x1 x2 x3 g4 fi4 ca4 x1 x2 x3 g4 fi4 ca4 true true h
theorem rk115 {O Q} (a0 n0 c0 x1 x2 x3 g4 fi4 ca4) {h : Hp} (hO : O 115 [(.slice a0 n0 c0), (.int .i64 x1), (.int .i64 x2), (.int .i64 x3), (.func (.func g4) fi4 ca4)] h = none) (hh : T115 O Q a0 n0 c0 x1 x2 x3 g4 fi4 ca4 h) : Ret Tryd.prog O 115 [(.slice a0 n0 c0), (.int .i64 x1), (.int .i64 x2), (.int .i64 x3), (.func (.func g4) fi4 ca4)] h Q :=
  .of (c := b115) Tryd.func115 (by kernel_rfl) hO (V_ok (tb := lv115) (cuts := []) 500 (Eq.mp (by kernel_rfl) hh))
def T115_0 (O : CallF) (Q : Value → Hp → Prop) (a0 : Option Addr) (n0 : Nat) (c0 : Nat) (x1 : Int) (x2 : Int) (x3 : Int) (g4 : Nat) (fi4 : Array Value) (ca4 : Array Value) (x1s : Int) (x2s : Int) (x3s : Int) (g4s : Nat) (fi4s : Array Value) (ca4s : Array Value) (q10 : Bool) (q11 : Bool) (h : Hp) : Prop :=
  vcond (!(ltI 12 (wrapF .i64 (x2s - x1s))))
  (∃ h101', EvC Tryd.prog O 127 [(.slice a0 n0 c0), (.int .i64 x1s), (.int .i64 x2s), (.func (.func g4s) fi4s ca4s)] h undef h101' ∧
  Q undef h101')
  (vcond (eqI x3s 0)
  (∃ h102', EvC Tryd.prog O 128 [(.slice a0 n0 c0), (.int .i64 x1s), (.int .i64 x2s), (.func (.func g4s) fi4s ca4s)] h undef h102' ∧
  Q undef h102')
  (vcond (!q10)
  (∃ h103', EvC Tryd.prog O 129 [(.slice a0 n0 c0), (.int .i64 x1s), (.int .i64 x2s), (.func (.func g4s) fi4s ca4s)] h undef h103' ∧
  ∃ x104', ∃ x105', ∃ h106', EvC Tryd.prog O 130 [(.slice a0 n0 c0), (.int .i64 x1s), (.int .i64 x2s), (.func (.func g4s) fi4s ca4s)] h103' (.tuple #[(.int .i64 x104'), (.int .i64 x105')]) h106' ∧
  vcond (eqI x105' 2)
  (∃ h107', EvC Tryd.prog O 131 [(.slice a0 n0 c0), (.int .i64 x1s), (.int .i64 x2s), (.func (.func g4s) fi4s ca4s)] h106' undef h107' ∧
  vcond q10
  (vcond q11
  (∃ q108', ∃ h109', EvC Tryd.prog O 132 [(.slice a0 n0 c0), (.int .i64 x1s), (.int .i64 x2s), (.func (.func g4s) fi4s ca4s)] h107' (.bool q108') h109' ∧
  vcond q108'
  (Q undef h109')
  (vcond (ltI 0 x1s)
  (isNat (wrapF .i64 (x1s - 1)) fun n110' =>
  isAddr a0 fun b111' f112' =>
  vreq (Nat.blt n110' n0)
  (∃ x113', readAt (h109'.rsv 17) b111' (f112' + (n110' * 1)) 1 = some [(.int .i64 x113')] ∧
  isNat (wrapF .i64 ((wrapF .i64 (x2s - 1)) - (wrapF .i64 (x104' - x1s)))) fun n114' =>
  isAddr a0 fun b115' f116' =>
  vreq (Nat.blt n114' n0)
  (∃ x117', readAt (h109'.rsv 17) b115' (f116' + (n114' * 1)) 1 = some [(.int .i64 x117')] ∧
  ∃ x118', ∃ h119', EvC Tryd.prog O g4s (fi4s.toList ++ [(.int .i64 x113'), (.int .i64 x117')] ++ ca4s.toList) ((h109'.rsv 17).grd []) (.int .i64 x118') h119' ∧
  vcond (!(ltI x118' 0))
  (∃ x120', ∃ h121', EvC Tryd.prog O 133 [(.slice a0 n0 c0), (.int .i64 x1s), (.int .i64 x2s), (.int .i64 (wrapF .i64 ((wrapF .i64 (x2s - 1)) - (wrapF .i64 (x104' - x1s))))), (.func (.func g4s) fi4s ca4s)] (h119'.rst (h109'.rsv 17)) (.int .i64 x120') h121' ∧
  I115_0 O Q a0 n0 c0 x1 x2 x3 g4 fi4 ca4 x120' x2s (wrapF .i64 (x3s - 1)) g4s fi4s ca4s q10 q11 h121')
  (∃ x122', ∃ q123', ∃ h124', EvC Tryd.prog O 134 [(.slice a0 n0 c0), (.int .i64 x1s), (.int .i64 x2s), (.int .i64 (wrapF .i64 ((wrapF .i64 (x2s - 1)) - (wrapF .i64 (x104' - x1s))))), (.func (.func g4s) fi4s ca4s)] (h119'.rst (h109'.rsv 17)) (.tuple #[(.int .i64 x122'), (.bool q123')]) h124' ∧
  vcond (ltI (wrapF .i64 (x122' - x1s)) (wrapF .i64 (x2s - x122')))
  (∃ h125', EvC Tryd.prog O 115 [(.slice a0 n0 c0), (.int .i64 x1s), (.int .i64 x122'), (.int .i64 (wrapF .i64 (x3s - 1))), (.func (.func g4s) fi4s ca4s)] h124' undef h125' ∧
  I115_0 O Q a0 n0 c0 x1 x2 x3 g4 fi4 ca4 (wrapF .i64 (x122' + 1)) x2s (wrapF .i64 (x3s - 1)) g4s fi4s ca4s (!(ltI (wrapF .i64 (x122' - x1s)) (wrapF .i64 (Int.tdiv (wrapF .i64 (x2s - x1s)) 8)))) q123' h125')
  (∃ h126', EvC Tryd.prog O 115 [(.slice a0 n0 c0), (.int .i64 (wrapF .i64 (x122' + 1))), (.int .i64 x2s), (.int .i64 (wrapF .i64 (x3s - 1))), (.func (.func g4s) fi4s ca4s)] h124' undef h126' ∧
  I115_0 O Q a0 n0 c0 x1 x2 x3 g4 fi4 ca4 x1s x122' (wrapF .i64 (x3s - 1)) g4s fi4s ca4s (!(ltI (wrapF .i64 (x2s - x122')) (wrapF .i64 (Int.tdiv (wrapF .i64 (x2s - x1s)) 8)))) q123' h126')))))
  (∃ x127', ∃ q128', ∃ h129', EvC Tryd.prog O 134 [(.slice a0 n0 c0), (.int .i64 x1s), (.int .i64 x2s), (.int .i64 (wrapF .i64 ((wrapF .i64 (x2s - 1)) - (wrapF .i64 (x104' - x1s))))), (.func (.func g4s) fi4s ca4s)] (h109'.rsv 17) (.tuple #[(.int .i64 x127'), (.bool q128')]) h129' ∧
  vcond (ltI (wrapF .i64 (x127' - x1s)) (wrapF .i64 (x2s - x127')))
  (∃ h130', EvC Tryd.prog O 115 [(.slice a0 n0 c0), (.int .i64 x1s), (.int .i64 x127'), (.int .i64 (wrapF .i64 (x3s - 1))), (.func (.func g4s) fi4s ca4s)] h129' undef h130' ∧
  I115_0 O Q a0 n0 c0 x1 x2 x3 g4 fi4 ca4 (wrapF .i64 (x127' + 1)) x2s (wrapF .i64 (x3s - 1)) g4s fi4s ca4s (!(ltI (wrapF .i64 (x127' - x1s)) (wrapF .i64 (Int.tdiv (wrapF .i64 (x2s - x1s)) 8)))) q128' h130')
  (∃ h131', EvC Tryd.prog O 115 [(.slice a0 n0 c0), (.int .i64 (wrapF .i64 (x127' + 1))), (.int .i64 x2s), (.int .i64 (wrapF .i64 (x3s - 1))), (.func (.func g4s) fi4s ca4s)] h129' undef h131' ∧
  I115_0 O Q a0 n0 c0 x1 x2 x3 g4 fi4 ca4 x1s x127' (wrapF .i64 (x3s - 1)) g4s fi4s ca4s (!(ltI (wrapF .i64 (x2s - x127')) (wrapF .i64 (Int.tdiv (wrapF .i64 (x2s - x1s)) 8)))) q128' h131'))))
  (vcond (ltI 0 x1s)
  (isNat (wrapF .i64 (x1s - 1)) fun n132' =>
  isAddr a0 fun b133' f134' =>
  vreq (Nat.blt n132' n0)
  (∃ x135', readAt (h107'.rsv 17) b133' (f134' + (n132' * 1)) 1 = some [(.int .i64 x135')] ∧
  isNat (wrapF .i64 ((wrapF .i64 (x2s - 1)) - (wrapF .i64 (x104' - x1s)))) fun n136' =>
  isAddr a0 fun b137' f138' =>
  vreq (Nat.blt n136' n0)
  (∃ x139', readAt (h107'.rsv 17) b137' (f138' + (n136' * 1)) 1 = some [(.int .i64 x139')] ∧
  ∃ x140', ∃ h141', EvC Tryd.prog O g4s (fi4s.toList ++ [(.int .i64 x135'), (.int .i64 x139')] ++ ca4s.toList) ((h107'.rsv 17).grd []) (.int .i64 x140') h141' ∧
  vcond (!(ltI x140' 0))
  (∃ x142', ∃ h143', EvC Tryd.prog O 133 [(.slice a0 n0 c0), (.int .i64 x1s), (.int .i64 x2s), (.int .i64 (wrapF .i64 ((wrapF .i64 (x2s - 1)) - (wrapF .i64 (x104' - x1s))))), (.func (.func g4s) fi4s ca4s)] (h141'.rst (h107'.rsv 17)) (.int .i64 x142') h143' ∧
  I115_0 O Q a0 n0 c0 x1 x2 x3 g4 fi4 ca4 x142' x2s (wrapF .i64 (x3s - 1)) g4s fi4s ca4s q10 q11 h143')
  (∃ x144', ∃ q145', ∃ h146', EvC Tryd.prog O 134 [(.slice a0 n0 c0), (.int .i64 x1s), (.int .i64 x2s), (.int .i64 (wrapF .i64 ((wrapF .i64 (x2s - 1)) - (wrapF .i64 (x104' - x1s))))), (.func (.func g4s) fi4s ca4s)] (h141'.rst (h107'.rsv 17)) (.tuple #[(.int .i64 x144'), (.bool q145')]) h146' ∧
  vcond (ltI (wrapF .i64 (x144' - x1s)) (wrapF .i64 (x2s - x144')))
  (∃ h147', EvC Tryd.prog O 115 [(.slice a0 n0 c0), (.int .i64 x1s), (.int .i64 x144'), (.int .i64 (wrapF .i64 (x3s - 1))), (.func (.func g4s) fi4s ca4s)] h146' undef h147' ∧
  I115_0 O Q a0 n0 c0 x1 x2 x3 g4 fi4 ca4 (wrapF .i64 (x144' + 1)) x2s (wrapF .i64 (x3s - 1)) g4s fi4s ca4s (!(ltI (wrapF .i64 (x144' - x1s)) (wrapF .i64 (Int.tdiv (wrapF .i64 (x2s - x1s)) 8)))) q145' h147')
  (∃ h148', EvC Tryd.prog O 115 [(.slice a0 n0 c0), (.int .i64 (wrapF .i64 (x144' + 1))), (.int .i64 x2s), (.int .i64 (wrapF .i64 (x3s - 1))), (.func (.func g4s) fi4s ca4s)] h146' undef h148' ∧
  I115_0 O Q a0 n0 c0 x1 x2 x3 g4 fi4 ca4 x1s x144' (wrapF .i64 (x3s - 1)) g4s fi4s ca4s (!(ltI (wrapF .i64 (x2s - x144')) (wrapF .i64 (Int.tdiv (wrapF .i64 (x2s - x1s)) 8)))) q145' h148')))))
  (∃ x149', ∃ q150', ∃ h151', EvC Tryd.prog O 134 [(.slice a0 n0 c0), (.int .i64 x1s), (.int .i64 x2s), (.int .i64 (wrapF .i64 ((wrapF .i64 (x2s - 1)) - (wrapF .i64 (x104' - x1s))))), (.func (.func g4s) fi4s ca4s)] (h107'.rsv 17) (.tuple #[(.int .i64 x149'), (.bool q150')]) h151' ∧
  vcond (ltI (wrapF .i64 (x149' - x1s)) (wrapF .i64 (x2s - x149')))
  (∃ h152', EvC Tryd.prog O 115 [(.slice a0 n0 c0), (.int .i64 x1s), (.int .i64 x149'), (.int .i64 (wrapF .i64 (x3s - 1))), (.func (.func g4s) fi4s ca4s)] h151' undef h152' ∧
  I115_0 O Q a0 n0 c0 x1 x2 x3 g4 fi4 ca4 (wrapF .i64 (x149' + 1)) x2s (wrapF .i64 (x3s - 1)) g4s fi4s ca4s (!(ltI (wrapF .i64 (x149' - x1s)) (wrapF .i64 (Int.tdiv (wrapF .i64 (x2s - x1s)) 8)))) q150' h152')
  (∃ h153', EvC Tryd.prog O 115 [(.slice a0 n0 c0), (.int .i64 (wrapF .i64 (x149' + 1))), (.int .i64 x2s), (.int .i64 (wrapF .i64 (x3s - 1))), (.func (.func g4s) fi4s ca4s)] h151' undef h153' ∧
  I115_0 O Q a0 n0 c0 x1 x2 x3 g4 fi4 ca4 x1s x149' (wrapF .i64 (x3s - 1)) g4s fi4s ca4s (!(ltI (wrapF .i64 (x2s - x149')) (wrapF .i64 (Int.tdiv (wrapF .i64 (x2s - x1s)) 8)))) q150' h153'))))
  (vcond (ltI 0 x1s)
  (isNat (wrapF .i64 (x1s - 1)) fun n154' =>
  isAddr a0 fun b155' f156' =>
  vreq (Nat.blt n154' n0)
  (∃ x157', readAt (h107'.rsv 17) b155' (f156' + (n154' * 1)) 1 = some [(.int .i64 x157')] ∧
  isNat (wrapF .i64 ((wrapF .i64 (x2s - 1)) - (wrapF .i64 (x104' - x1s)))) fun n158' =>
  isAddr a0 fun b159' f160' =>
  vreq (Nat.blt n158' n0)
  (∃ x161', readAt (h107'.rsv 17) b159' (f160' + (n158' * 1)) 1 = some [(.int .i64 x161')] ∧
  ∃ x162', ∃ h163', EvC Tryd.prog O g4s (fi4s.toList ++ [(.int .i64 x157'), (.int .i64 x161')] ++ ca4s.toList) ((h107'.rsv 17).grd []) (.int .i64 x162') h163' ∧
  vcond (!(ltI x162' 0))
  (∃ x164', ∃ h165', EvC Tryd.prog O 133 [(.slice a0 n0 c0), (.int .i64 x1s), (.int .i64 x2s), (.int .i64 (wrapF .i64 ((wrapF .i64 (x2s - 1)) - (wrapF .i64 (x104' - x1s))))), (.func (.func g4s) fi4s ca4s)] (h163'.rst (h107'.rsv 17)) (.int .i64 x164') h165' ∧
  I115_0 O Q a0 n0 c0 x1 x2 x3 g4 fi4 ca4 x164' x2s (wrapF .i64 (x3s - 1)) g4s fi4s ca4s q10 q11 h165')
  (∃ x166', ∃ q167', ∃ h168', EvC Tryd.prog O 134 [(.slice a0 n0 c0), (.int .i64 x1s), (.int .i64 x2s), (.int .i64 (wrapF .i64 ((wrapF .i64 (x2s - 1)) - (wrapF .i64 (x104' - x1s))))), (.func (.func g4s) fi4s ca4s)] (h163'.rst (h107'.rsv 17)) (.tuple #[(.int .i64 x166'), (.bool q167')]) h168' ∧
  vcond (ltI (wrapF .i64 (x166' - x1s)) (wrapF .i64 (x2s - x166')))
  (∃ h169', EvC Tryd.prog O 115 [(.slice a0 n0 c0), (.int .i64 x1s), (.int .i64 x166'), (.int .i64 (wrapF .i64 (x3s - 1))), (.func (.func g4s) fi4s ca4s)] h168' undef h169' ∧
  I115_0 O Q a0 n0 c0 x1 x2 x3 g4 fi4 ca4 (wrapF .i64 (x166' + 1)) x2s (wrapF .i64 (x3s - 1)) g4s fi4s ca4s (!(ltI (wrapF .i64 (x166' - x1s)) (wrapF .i64 (Int.tdiv (wrapF .i64 (x2s - x1s)) 8)))) q167' h169')
  (∃ h170', EvC Tryd.prog O 115 [(.slice a0 n0 c0), (.int .i64 (wrapF .i64 (x166' + 1))), (.int .i64 x2s), (.int .i64 (wrapF .i64 (x3s - 1))), (.func (.func g4s) fi4s ca4s)] h168' undef h170' ∧
  I115_0 O Q a0 n0 c0 x1 x2 x3 g4 fi4 ca4 x1s x166' (wrapF .i64 (x3s - 1)) g4s fi4s ca4s (!(ltI (wrapF .i64 (x2s - x166')) (wrapF .i64 (Int.tdiv (wrapF .i64 (x2s - x1s)) 8)))) q167' h170')))))
  (∃ x171', ∃ q172', ∃ h173', EvC Tryd.prog O 134 [(.slice a0 n0 c0), (.int .i64 x1s), (.int .i64 x2s), (.int .i64 (wrapF .i64 ((wrapF .i64 (x2s - 1)) - (wrapF .i64 (x104' - x1s))))), (.func (.func g4s) fi4s ca4s)] (h107'.rsv 17) (.tuple #[(.int .i64 x171'), (.bool q172')]) h173' ∧
  vcond (ltI (wrapF .i64 (x171' - x1s)) (wrapF .i64 (x2s - x171')))
  (∃ h174', EvC Tryd.prog O 115 [(.slice a0 n0 c0), (.int .i64 x1s), (.int .i64 x171'), (.int .i64 (wrapF .i64 (x3s - 1))), (.func (.func g4s) fi4s ca4s)] h173' undef h174' ∧
  I115_0 O Q a0 n0 c0 x1 x2 x3 g4 fi4 ca4 (wrapF .i64 (x171' + 1)) x2s (wrapF .i64 (x3s - 1)) g4s fi4s ca4s (!(ltI (wrapF .i64 (x171' - x1s)) (wrapF .i64 (Int.tdiv (wrapF .i64 (x2s - x1s)) 8)))) q172' h174')
  (∃ h175', EvC Tryd.prog O 115 [(.slice a0 n0 c0), (.int .i64 (wrapF .i64 (x171' + 1))), (.int .i64 x2s), (.int .i64 (wrapF .i64 (x3s - 1))), (.func (.func g4s) fi4s ca4s)] h173' undef h175' ∧
  I115_0 O Q a0 n0 c0 x1 x2 x3 g4 fi4 ca4 x1s x171' (wrapF .i64 (x3s - 1)) g4s fi4s ca4s (!(ltI (wrapF .i64 (x2s - x171')) (wrapF .i64 (Int.tdiv (wrapF .i64 (x2s - x1s)) 8)))) q172' h175'))))
  (vcond q10
  (vcond q11
  (vcond (eqI x105' 1)
  (∃ q176', ∃ h177', EvC Tryd.prog O 132 [(.slice a0 n0 c0), (.int .i64 x1s), (.int .i64 x2s), (.func (.func g4s) fi4s ca4s)] h106' (.bool q176') h177' ∧
  vcond q176'
  (Q undef h177')
  (vcond (ltI 0 x1s)
  (isNat (wrapF .i64 (x1s - 1)) fun n178' =>
  isAddr a0 fun b179' f180' =>
  vreq (Nat.blt n178' n0)
  (∃ x181', readAt (h177'.rsv 17) b179' (f180' + (n178' * 1)) 1 = some [(.int .i64 x181')] ∧
  isNat x104' fun n182' =>
  isAddr a0 fun b183' f184' =>
  vreq (Nat.blt n182' n0)
  (∃ x185', readAt (h177'.rsv 17) b183' (f184' + (n182' * 1)) 1 = some [(.int .i64 x185')] ∧
  ∃ x186', ∃ h187', EvC Tryd.prog O g4s (fi4s.toList ++ [(.int .i64 x181'), (.int .i64 x185')] ++ ca4s.toList) ((h177'.rsv 17).grd []) (.int .i64 x186') h187' ∧
  vcond (!(ltI x186' 0))
  (∃ x188', ∃ h189', EvC Tryd.prog O 133 [(.slice a0 n0 c0), (.int .i64 x1s), (.int .i64 x2s), (.int .i64 x104'), (.func (.func g4s) fi4s ca4s)] (h187'.rst (h177'.rsv 17)) (.int .i64 x188') h189' ∧
  I115_0 O Q a0 n0 c0 x1 x2 x3 g4 fi4 ca4 x188' x2s (wrapF .i64 (x3s - 1)) g4s fi4s ca4s q10 q11 h189')
  (∃ x190', ∃ q191', ∃ h192', EvC Tryd.prog O 134 [(.slice a0 n0 c0), (.int .i64 x1s), (.int .i64 x2s), (.int .i64 x104'), (.func (.func g4s) fi4s ca4s)] (h187'.rst (h177'.rsv 17)) (.tuple #[(.int .i64 x190'), (.bool q191')]) h192' ∧
  vcond (ltI (wrapF .i64 (x190' - x1s)) (wrapF .i64 (x2s - x190')))
  (∃ h193', EvC Tryd.prog O 115 [(.slice a0 n0 c0), (.int .i64 x1s), (.int .i64 x190'), (.int .i64 (wrapF .i64 (x3s - 1))), (.func (.func g4s) fi4s ca4s)] h192' undef h193' ∧
  I115_0 O Q a0 n0 c0 x1 x2 x3 g4 fi4 ca4 (wrapF .i64 (x190' + 1)) x2s (wrapF .i64 (x3s - 1)) g4s fi4s ca4s (!(ltI (wrapF .i64 (x190' - x1s)) (wrapF .i64 (Int.tdiv (wrapF .i64 (x2s - x1s)) 8)))) q191' h193')
  (∃ h194', EvC Tryd.prog O 115 [(.slice a0 n0 c0), (.int .i64 (wrapF .i64 (x190' + 1))), (.int .i64 x2s), (.int .i64 (wrapF .i64 (x3s - 1))), (.func (.func g4s) fi4s ca4s)] h192' undef h194' ∧
  I115_0 O Q a0 n0 c0 x1 x2 x3 g4 fi4 ca4 x1s x190' (wrapF .i64 (x3s - 1)) g4s fi4s ca4s (!(ltI (wrapF .i64 (x2s - x190')) (wrapF .i64 (Int.tdiv (wrapF .i64 (x2s - x1s)) 8)))) q191' h194')))))
  (∃ x195', ∃ q196', ∃ h197', EvC Tryd.prog O 134 [(.slice a0 n0 c0), (.int .i64 x1s), (.int .i64 x2s), (.int .i64 x104'), (.func (.func g4s) fi4s ca4s)] (h177'.rsv 17) (.tuple #[(.int .i64 x195'), (.bool q196')]) h197' ∧
  vcond (ltI (wrapF .i64 (x195' - x1s)) (wrapF .i64 (x2s - x195')))
  (∃ h198', EvC Tryd.prog O 115 [(.slice a0 n0 c0), (.int .i64 x1s), (.int .i64 x195'), (.int .i64 (wrapF .i64 (x3s - 1))), (.func (.func g4s) fi4s ca4s)] h197' undef h198' ∧
  I115_0 O Q a0 n0 c0 x1 x2 x3 g4 fi4 ca4 (wrapF .i64 (x195' + 1)) x2s (wrapF .i64 (x3s - 1)) g4s fi4s ca4s (!(ltI (wrapF .i64 (x195' - x1s)) (wrapF .i64 (Int.tdiv (wrapF .i64 (x2s - x1s)) 8)))) q196' h198')
  (∃ h199', EvC Tryd.prog O 115 [(.slice a0 n0 c0), (.int .i64 (wrapF .i64 (x195' + 1))), (.int .i64 x2s), (.int .i64 (wrapF .i64 (x3s - 1))), (.func (.func g4s) fi4s ca4s)] h197' undef h199' ∧
  I115_0 O Q a0 n0 c0 x1 x2 x3 g4 fi4 ca4 x1s x195' (wrapF .i64 (x3s - 1)) g4s fi4s ca4s (!(ltI (wrapF .i64 (x2s - x195')) (wrapF .i64 (Int.tdiv (wrapF .i64 (x2s - x1s)) 8)))) q196' h199'))))
  (vcond (ltI 0 x1s)
  (isNat (wrapF .i64 (x1s - 1)) fun n200' =>
  isAddr a0 fun b201' f202' =>
  vreq (Nat.blt n200' n0)
  (∃ x203', readAt (h106'.rsv 17) b201' (f202' + (n200' * 1)) 1 = some [(.int .i64 x203')] ∧
  isNat x104' fun n204' =>
  isAddr a0 fun b205' f206' =>
  vreq (Nat.blt n204' n0)
  (∃ x207', readAt (h106'.rsv 17) b205' (f206' + (n204' * 1)) 1 = some [(.int .i64 x207')] ∧
  ∃ x208', ∃ h209', EvC Tryd.prog O g4s (fi4s.toList ++ [(.int .i64 x203'), (.int .i64 x207')] ++ ca4s.toList) ((h106'.rsv 17).grd []) (.int .i64 x208') h209' ∧
  vcond (!(ltI x208' 0))
  (∃ x210', ∃ h211', EvC Tryd.prog O 133 [(.slice a0 n0 c0), (.int .i64 x1s), (.int .i64 x2s), (.int .i64 x104'), (.func (.func g4s) fi4s ca4s)] (h209'.rst (h106'.rsv 17)) (.int .i64 x210') h211' ∧
  I115_0 O Q a0 n0 c0 x1 x2 x3 g4 fi4 ca4 x210' x2s (wrapF .i64 (x3s - 1)) g4s fi4s ca4s q10 q11 h211')
  (∃ x212', ∃ q213', ∃ h214', EvC Tryd.prog O 134 [(.slice a0 n0 c0), (.int .i64 x1s), (.int .i64 x2s), (.int .i64 x104'), (.func (.func g4s) fi4s ca4s)] (h209'.rst (h106'.rsv 17)) (.tuple #[(.int .i64 x212'), (.bool q213')]) h214' ∧
  vcond (ltI (wrapF .i64 (x212' - x1s)) (wrapF .i64 (x2s - x212')))
  (∃ h215', EvC Tryd.prog O 115 [(.slice a0 n0 c0), (.int .i64 x1s), (.int .i64 x212'), (.int .i64 (wrapF .i64 (x3s - 1))), (.func (.func g4s) fi4s ca4s)] h214' undef h215' ∧
  I115_0 O Q a0 n0 c0 x1 x2 x3 g4 fi4 ca4 (wrapF .i64 (x212' + 1)) x2s (wrapF .i64 (x3s - 1)) g4s fi4s ca4s (!(ltI (wrapF .i64 (x212' - x1s)) (wrapF .i64 (Int.tdiv (wrapF .i64 (x2s - x1s)) 8)))) q213' h215')
  (∃ h216', EvC Tryd.prog O 115 [(.slice a0 n0 c0), (.int .i64 (wrapF .i64 (x212' + 1))), (.int .i64 x2s), (.int .i64 (wrapF .i64 (x3s - 1))), (.func (.func g4s) fi4s ca4s)] h214' undef h216' ∧
  I115_0 O Q a0 n0 c0 x1 x2 x3 g4 fi4 ca4 x1s x212' (wrapF .i64 (x3s - 1)) g4s fi4s ca4s (!(ltI (wrapF .i64 (x2s - x212')) (wrapF .i64 (Int.tdiv (wrapF .i64 (x2s - x1s)) 8)))) q213' h216')))))
  (∃ x217', ∃ q218', ∃ h219', EvC Tryd.prog O 134 [(.slice a0 n0 c0), (.int .i64 x1s), (.int .i64 x2s), (.int .i64 x104'), (.func (.func g4s) fi4s ca4s)] (h106'.rsv 17) (.tuple #[(.int .i64 x217'), (.bool q218')]) h219' ∧
  vcond (ltI (wrapF .i64 (x217' - x1s)) (wrapF .i64 (x2s - x217')))
  (∃ h220', EvC Tryd.prog O 115 [(.slice a0 n0 c0), (.int .i64 x1s), (.int .i64 x217'), (.int .i64 (wrapF .i64 (x3s - 1))), (.func (.func g4s) fi4s ca4s)] h219' undef h220' ∧
  I115_0 O Q a0 n0 c0 x1 x2 x3 g4 fi4 ca4 (wrapF .i64 (x217' + 1)) x2s (wrapF .i64 (x3s - 1)) g4s fi4s ca4s (!(ltI (wrapF .i64 (x217' - x1s)) (wrapF .i64 (Int.tdiv (wrapF .i64 (x2s - x1s)) 8)))) q218' h220')
  (∃ h221', EvC Tryd.prog O 115 [(.slice a0 n0 c0), (.int .i64 (wrapF .i64 (x217' + 1))), (.int .i64 x2s), (.int .i64 (wrapF .i64 (x3s - 1))), (.func (.func g4s) fi4s ca4s)] h219' undef h221' ∧
  I115_0 O Q a0 n0 c0 x1 x2 x3 g4 fi4 ca4 x1s x217' (wrapF .i64 (x3s - 1)) g4s fi4s ca4s (!(ltI (wrapF .i64 (x2s - x217')) (wrapF .i64 (Int.tdiv (wrapF .i64 (x2s - x1s)) 8)))) q218' h221'))))
  (vcond (ltI 0 x1s)
  (isNat (wrapF .i64 (x1s - 1)) fun n222' =>
  isAddr a0 fun b223' f224' =>
  vreq (Nat.blt n222' n0)
  (∃ x225', readAt (h106'.rsv 17) b223' (f224' + (n222' * 1)) 1 = some [(.int .i64 x225')] ∧
  isNat x104' fun n226' =>
  isAddr a0 fun b227' f228' =>
  vreq (Nat.blt n226' n0)
  (∃ x229', readAt (h106'.rsv 17) b227' (f228' + (n226' * 1)) 1 = some [(.int .i64 x229')] ∧
  ∃ x230', ∃ h231', EvC Tryd.prog O g4s (fi4s.toList ++ [(.int .i64 x225'), (.int .i64 x229')] ++ ca4s.toList) ((h106'.rsv 17).grd []) (.int .i64 x230') h231' ∧
  vcond (!(ltI x230' 0))
  (∃ x232', ∃ h233', EvC Tryd.prog O 133 [(.slice a0 n0 c0), (.int .i64 x1s), (.int .i64 x2s), (.int .i64 x104'), (.func (.func g4s) fi4s ca4s)] (h231'.rst (h106'.rsv 17)) (.int .i64 x232') h233' ∧
  I115_0 O Q a0 n0 c0 x1 x2 x3 g4 fi4 ca4 x232' x2s (wrapF .i64 (x3s - 1)) g4s fi4s ca4s q10 q11 h233')
  (∃ x234', ∃ q235', ∃ h236', EvC Tryd.prog O 134 [(.slice a0 n0 c0), (.int .i64 x1s), (.int .i64 x2s), (.int .i64 x104'), (.func (.func g4s) fi4s ca4s)] (h231'.rst (h106'.rsv 17)) (.tuple #[(.int .i64 x234'), (.bool q235')]) h236' ∧
  vcond (ltI (wrapF .i64 (x234' - x1s)) (wrapF .i64 (x2s - x234')))
  (∃ h237', EvC Tryd.prog O 115 [(.slice a0 n0 c0), (.int .i64 x1s), (.int .i64 x234'), (.int .i64 (wrapF .i64 (x3s - 1))), (.func (.func g4s) fi4s ca4s)] h236' undef h237' ∧
  I115_0 O Q a0 n0 c0 x1 x2 x3 g4 fi4 ca4 (wrapF .i64 (x234' + 1)) x2s (wrapF .i64 (x3s - 1)) g4s fi4s ca4s (!(ltI (wrapF .i64 (x234' - x1s)) (wrapF .i64 (Int.tdiv (wrapF .i64 (x2s - x1s)) 8)))) q235' h237')
  (∃ h238', EvC Tryd.prog O 115 [(.slice a0 n0 c0), (.int .i64 (wrapF .i64 (x234' + 1))), (.int .i64 x2s), (.int .i64 (wrapF .i64 (x3s - 1))), (.func (.func g4s) fi4s ca4s)] h236' undef h238' ∧
  I115_0 O Q a0 n0 c0 x1 x2 x3 g4 fi4 ca4 x1s x234' (wrapF .i64 (x3s - 1)) g4s fi4s ca4s (!(ltI (wrapF .i64 (x2s - x234')) (wrapF .i64 (Int.tdiv (wrapF .i64 (x2s - x1s)) 8)))) q235' h238')))))
  (∃ x239', ∃ q240', ∃ h241', EvC Tryd.prog O 134 [(.slice a0 n0 c0), (.int .i64 x1s), (.int .i64 x2s), (.int .i64 x104'), (.func (.func g4s) fi4s ca4s)] (h106'.rsv 17) (.tuple #[(.int .i64 x239'), (.bool q240')]) h241' ∧
  vcond (ltI (wrapF .i64 (x239' - x1s)) (wrapF .i64 (x2s - x239')))
  (∃ h242', EvC Tryd.prog O 115 [(.slice a0 n0 c0), (.int .i64 x1s), (.int .i64 x239'), (.int .i64 (wrapF .i64 (x3s - 1))), (.func (.func g4s) fi4s ca4s)] h241' undef h242' ∧
  I115_0 O Q a0 n0 c0 x1 x2 x3 g4 fi4 ca4 (wrapF .i64 (x239' + 1)) x2s (wrapF .i64 (x3s - 1)) g4s fi4s ca4s (!(ltI (wrapF .i64 (x239' - x1s)) (wrapF .i64 (Int.tdiv (wrapF .i64 (x2s - x1s)) 8)))) q240' h242')
  (∃ h243', EvC Tryd.prog O 115 [(.slice a0 n0 c0), (.int .i64 (wrapF .i64 (x239' + 1))), (.int .i64 x2s), (.int .i64 (wrapF .i64 (x3s - 1))), (.func (.func g4s) fi4s ca4s)] h241' undef h243' ∧
  I115_0 O Q a0 n0 c0 x1 x2 x3 g4 fi4 ca4 x1s x239' (wrapF .i64 (x3s - 1)) g4s fi4s ca4s (!(ltI (wrapF .i64 (x2s - x239')) (wrapF .i64 (Int.tdiv (wrapF .i64 (x2s - x1s)) 8)))) q240' h243'))))
  (vcond (ltI 0 x1s)
  (isNat (wrapF .i64 (x1s - 1)) fun n244' =>
  isAddr a0 fun b245' f246' =>
  vreq (Nat.blt n244' n0)
  (∃ x247', readAt (h106'.rsv 17) b245' (f246' + (n244' * 1)) 1 = some [(.int .i64 x247')] ∧
  isNat x104' fun n248' =>
  isAddr a0 fun b249' f250' =>
  vreq (Nat.blt n248' n0)
  (∃ x251', readAt (h106'.rsv 17) b249' (f250' + (n248' * 1)) 1 = some [(.int .i64 x251')] ∧
  ∃ x252', ∃ h253', EvC Tryd.prog O g4s (fi4s.toList ++ [(.int .i64 x247'), (.int .i64 x251')] ++ ca4s.toList) ((h106'.rsv 17).grd []) (.int .i64 x252') h253' ∧
  vcond (!(ltI x252' 0))
  (∃ x254', ∃ h255', EvC Tryd.prog O 133 [(.slice a0 n0 c0), (.int .i64 x1s), (.int .i64 x2s), (.int .i64 x104'), (.func (.func g4s) fi4s ca4s)] (h253'.rst (h106'.rsv 17)) (.int .i64 x254') h255' ∧
  I115_0 O Q a0 n0 c0 x1 x2 x3 g4 fi4 ca4 x254' x2s (wrapF .i64 (x3s - 1)) g4s fi4s ca4s q10 q11 h255')
  (∃ x256', ∃ q257', ∃ h258', EvC Tryd.prog O 134 [(.slice a0 n0 c0), (.int .i64 x1s), (.int .i64 x2s), (.int .i64 x104'), (.func (.func g4s) fi4s ca4s)] (h253'.rst (h106'.rsv 17)) (.tuple #[(.int .i64 x256'), (.bool q257')]) h258' ∧
  vcond (ltI (wrapF .i64 (x256' - x1s)) (wrapF .i64 (x2s - x256')))
  (∃ h259', EvC Tryd.prog O 115 [(.slice a0 n0 c0), (.int .i64 x1s), (.int .i64 x256'), (.int .i64 (wrapF .i64 (x3s - 1))), (.func (.func g4s) fi4s ca4s)] h258' undef h259' ∧
  I115_0 O Q a0 n0 c0 x1 x2 x3 g4 fi4 ca4 (wrapF .i64 (x256' + 1)) x2s (wrapF .i64 (x3s - 1)) g4s fi4s ca4s (!(ltI (wrapF .i64 (x256' - x1s)) (wrapF .i64 (Int.tdiv (wrapF .i64 (x2s - x1s)) 8)))) q257' h259')
  (∃ h260', EvC Tryd.prog O 115 [(.slice a0 n0 c0), (.int .i64 (wrapF .i64 (x256' + 1))), (.int .i64 x2s), (.int .i64 (wrapF .i64 (x3s - 1))), (.func (.func g4s) fi4s ca4s)] h258' undef h260' ∧
  I115_0 O Q a0 n0 c0 x1 x2 x3 g4 fi4 ca4 x1s x256' (wrapF .i64 (x3s - 1)) g4s fi4s ca4s (!(ltI (wrapF .i64 (x2s - x256')) (wrapF .i64 (Int.tdiv (wrapF .i64 (x2s - x1s)) 8)))) q257' h260')))))
  (∃ x261', ∃ q262', ∃ h263', EvC Tryd.prog O 134 [(.slice a0 n0 c0), (.int .i64 x1s), (.int .i64 x2s), (.int .i64 x104'), (.func (.func g4s) fi4s ca4s)] (h106'.rsv 17) (.tuple #[(.int .i64 x261'), (.bool q262')]) h263' ∧
  vcond (ltI (wrapF .i64 (x261' - x1s)) (wrapF .i64 (x2s - x261')))
  (∃ h264', EvC Tryd.prog O 115 [(.slice a0 n0 c0), (.int .i64 x1s), (.int .i64 x261'), (.int .i64 (wrapF .i64 (x3s - 1))), (.func (.func g4s) fi4s ca4s)] h263' undef h264' ∧
  I115_0 O Q a0 n0 c0 x1 x2 x3 g4 fi4 ca4 (wrapF .i64 (x261' + 1)) x2s (wrapF .i64 (x3s - 1)) g4s fi4s ca4s (!(ltI (wrapF .i64 (x261' - x1s)) (wrapF .i64 (Int.tdiv (wrapF .i64 (x2s - x1s)) 8)))) q262' h264')
  (∃ h265', EvC Tryd.prog O 115 [(.slice a0 n0 c0), (.int .i64 (wrapF .i64 (x261' + 1))), (.int .i64 x2s), (.int .i64 (wrapF .i64 (x3s - 1))), (.func (.func g4s) fi4s ca4s)] h263' undef h265' ∧
  I115_0 O Q a0 n0 c0 x1 x2 x3 g4 fi4 ca4 x1s x261' (wrapF .i64 (x3s - 1)) g4s fi4s ca4s (!(ltI (wrapF .i64 (x2s - x261')) (wrapF .i64 (Int.tdiv (wrapF .i64 (x2s - x1s)) 8)))) q262' h265')))))
  (∃ x266', ∃ x267', ∃ h268', EvC Tryd.prog O 130 [(.slice a0 n0 c0), (.int .i64 x1s), (.int .i64 x2s), (.func (.func g4s) fi4s ca4s)] h (.tuple #[(.int .i64 x266'), (.int .i64 x267')]) h268' ∧
  vcond (eqI x267' 2)
  (∃ h269', EvC Tryd.prog O 131 [(.slice a0 n0 c0), (.int .i64 x1s), (.int .i64 x2s), (.func (.func g4s) fi4s ca4s)] h268' undef h269' ∧
  vcond q10
  (vcond q11
  (∃ q270', ∃ h271', EvC Tryd.prog O 132 [(.slice a0 n0 c0), (.int .i64 x1s), (.int .i64 x2s), (.func (.func g4s) fi4s ca4s)] h269' (.bool q270') h271' ∧
  vcond q270'
  (Q undef h271')
  (vcond (ltI 0 x1s)
  (isNat (wrapF .i64 (x1s - 1)) fun n272' =>
  isAddr a0 fun b273' f274' =>
  vreq (Nat.blt n272' n0)
  (∃ x275', readAt (h271'.rsv 17) b273' (f274' + (n272' * 1)) 1 = some [(.int .i64 x275')] ∧
  isNat (wrapF .i64 ((wrapF .i64 (x2s - 1)) - (wrapF .i64 (x266' - x1s)))) fun n276' =>
  isAddr a0 fun b277' f278' =>
  vreq (Nat.blt n276' n0)
  (∃ x279', readAt (h271'.rsv 17) b277' (f278' + (n276' * 1)) 1 = some [(.int .i64 x279')] ∧
  ∃ x280', ∃ h281', EvC Tryd.prog O g4s (fi4s.toList ++ [(.int .i64 x275'), (.int .i64 x279')] ++ ca4s.toList) ((h271'.rsv 17).grd []) (.int .i64 x280') h281' ∧
  vcond (!(ltI x280' 0))
  (∃ x282', ∃ h283', EvC Tryd.prog O 133 [(.slice a0 n0 c0), (.int .i64 x1s), (.int .i64 x2s), (.int .i64 (wrapF .i64 ((wrapF .i64 (x2s - 1)) - (wrapF .i64 (x266' - x1s))))), (.func (.func g4s) fi4s ca4s)] (h281'.rst (h271'.rsv 17)) (.int .i64 x282') h283' ∧
  I115_0 O Q a0 n0 c0 x1 x2 x3 g4 fi4 ca4 x282' x2s x3s g4s fi4s ca4s q10 q11 h283')
  (∃ x284', ∃ q285', ∃ h286', EvC Tryd.prog O 134 [(.slice a0 n0 c0), (.int .i64 x1s), (.int .i64 x2s), (.int .i64 (wrapF .i64 ((wrapF .i64 (x2s - 1)) - (wrapF .i64 (x266' - x1s))))), (.func (.func g4s) fi4s ca4s)] (h281'.rst (h271'.rsv 17)) (.tuple #[(.int .i64 x284'), (.bool q285')]) h286' ∧
  vcond (ltI (wrapF .i64 (x284' - x1s)) (wrapF .i64 (x2s - x284')))
  (∃ h287', EvC Tryd.prog O 115 [(.slice a0 n0 c0), (.int .i64 x1s), (.int .i64 x284'), (.int .i64 x3s), (.func (.func g4s) fi4s ca4s)] h286' undef h287' ∧
  I115_0 O Q a0 n0 c0 x1 x2 x3 g4 fi4 ca4 (wrapF .i64 (x284' + 1)) x2s x3s g4s fi4s ca4s (!(ltI (wrapF .i64 (x284' - x1s)) (wrapF .i64 (Int.tdiv (wrapF .i64 (x2s - x1s)) 8)))) q285' h287')
  (∃ h288', EvC Tryd.prog O 115 [(.slice a0 n0 c0), (.int .i64 (wrapF .i64 (x284' + 1))), (.int .i64 x2s), (.int .i64 x3s), (.func (.func g4s) fi4s ca4s)] h286' undef h288' ∧
  I115_0 O Q a0 n0 c0 x1 x2 x3 g4 fi4 ca4 x1s x284' x3s g4s fi4s ca4s (!(ltI (wrapF .i64 (x2s - x284')) (wrapF .i64 (Int.tdiv (wrapF .i64 (x2s - x1s)) 8)))) q285' h288')))))
  (∃ x289', ∃ q290', ∃ h291', EvC Tryd.prog O 134 [(.slice a0 n0 c0), (.int .i64 x1s), (.int .i64 x2s), (.int .i64 (wrapF .i64 ((wrapF .i64 (x2s - 1)) - (wrapF .i64 (x266' - x1s))))), (.func (.func g4s) fi4s ca4s)] (h271'.rsv 17) (.tuple #[(.int .i64 x289'), (.bool q290')]) h291' ∧
  vcond (ltI (wrapF .i64 (x289' - x1s)) (wrapF .i64 (x2s - x289')))
  (∃ h292', EvC Tryd.prog O 115 [(.slice a0 n0 c0), (.int .i64 x1s), (.int .i64 x289'), (.int .i64 x3s), (.func (.func g4s) fi4s ca4s)] h291' undef h292' ∧
  I115_0 O Q a0 n0 c0 x1 x2 x3 g4 fi4 ca4 (wrapF .i64 (x289' + 1)) x2s x3s g4s fi4s ca4s (!(ltI (wrapF .i64 (x289' - x1s)) (wrapF .i64 (Int.tdiv (wrapF .i64 (x2s - x1s)) 8)))) q290' h292')
  (∃ h293', EvC Tryd.prog O 115 [(.slice a0 n0 c0), (.int .i64 (wrapF .i64 (x289' + 1))), (.int .i64 x2s), (.int .i64 x3s), (.func (.func g4s) fi4s ca4s)] h291' undef h293' ∧
  I115_0 O Q a0 n0 c0 x1 x2 x3 g4 fi4 ca4 x1s x289' x3s g4s fi4s ca4s (!(ltI (wrapF .i64 (x2s - x289')) (wrapF .i64 (Int.tdiv (wrapF .i64 (x2s - x1s)) 8)))) q290' h293'))))
  (vcond (ltI 0 x1s)
  (isNat (wrapF .i64 (x1s - 1)) fun n294' =>
  isAddr a0 fun b295' f296' =>
  vreq (Nat.blt n294' n0)
  (∃ x297', readAt (h269'.rsv 17) b295' (f296' + (n294' * 1)) 1 = some [(.int .i64 x297')] ∧
  isNat (wrapF .i64 ((wrapF .i64 (x2s - 1)) - (wrapF .i64 (x266' - x1s)))) fun n298' =>
  isAddr a0 fun b299' f300' =>
  vreq (Nat.blt n298' n0)
  (∃ x301', readAt (h269'.rsv 17) b299' (f300' + (n298' * 1)) 1 = some [(.int .i64 x301')] ∧
  ∃ x302', ∃ h303', EvC Tryd.prog O g4s (fi4s.toList ++ [(.int .i64 x297'), (.int .i64 x301')] ++ ca4s.toList) ((h269'.rsv 17).grd []) (.int .i64 x302') h303' ∧
  vcond (!(ltI x302' 0))
  (∃ x304', ∃ h305', EvC Tryd.prog O 133 [(.slice a0 n0 c0), (.int .i64 x1s), (.int .i64 x2s), (.int .i64 (wrapF .i64 ((wrapF .i64 (x2s - 1)) - (wrapF .i64 (x266' - x1s))))), (.func (.func g4s) fi4s ca4s)] (h303'.rst (h269'.rsv 17)) (.int .i64 x304') h305' ∧
  I115_0 O Q a0 n0 c0 x1 x2 x3 g4 fi4 ca4 x304' x2s x3s g4s fi4s ca4s q10 q11 h305')
  (∃ x306', ∃ q307', ∃ h308', EvC Tryd.prog O 134 [(.slice a0 n0 c0), (.int .i64 x1s), (.int .i64 x2s), (.int .i64 (wrapF .i64 ((wrapF .i64 (x2s - 1)) - (wrapF .i64 (x266' - x1s))))), (.func (.func g4s) fi4s ca4s)] (h303'.rst (h269'.rsv 17)) (.tuple #[(.int .i64 x306'), (.bool q307')]) h308' ∧
  vcond (ltI (wrapF .i64 (x306' - x1s)) (wrapF .i64 (x2s - x306')))
  (∃ h309', EvC Tryd.prog O 115 [(.slice a0 n0 c0), (.int .i64 x1s), (.int .i64 x306'), (.int .i64 x3s), (.func (.func g4s) fi4s ca4s)] h308' undef h309' ∧
  I115_0 O Q a0 n0 c0 x1 x2 x3 g4 fi4 ca4 (wrapF .i64 (x306' + 1)) x2s x3s g4s fi4s ca4s (!(ltI (wrapF .i64 (x306' - x1s)) (wrapF .i64 (Int.tdiv (wrapF .i64 (x2s - x1s)) 8)))) q307' h309')
  (∃ h310', EvC Tryd.prog O 115 [(.slice a0 n0 c0), (.int .i64 (wrapF .i64 (x306' + 1))), (.int .i64 x2s), (.int .i64 x3s), (.func (.func g4s) fi4s ca4s)] h308' undef h310' ∧
  I115_0 O Q a0 n0 c0 x1 x2 x3 g4 fi4 ca4 x1s x306' x3s g4s fi4s ca4s (!(ltI (wrapF .i64 (x2s - x306')) (wrapF .i64 (Int.tdiv (wrapF .i64 (x2s - x1s)) 8)))) q307' h310')))))
  (∃ x311', ∃ q312', ∃ h313', EvC Tryd.prog O 134 [(.slice a0 n0 c0), (.int .i64 x1s), (.int .i64 x2s), (.int .i64 (wrapF .i64 ((wrapF .i64 (x2s - 1)) - (wrapF .i64 (x266' - x1s))))), (.func (.func g4s) fi4s ca4s)] (h269'.rsv 17) (.tuple #[(.int .i64 x311'), (.bool q312')]) h313' ∧
  vcond (ltI (wrapF .i64 (x311' - x1s)) (wrapF .i64 (x2s - x311')))
  (∃ h314', EvC Tryd.prog O 115 [(.slice a0 n0 c0), (.int .i64 x1s), (.int .i64 x311'), (.int .i64 x3s), (.func (.func g4s) fi4s ca4s)] h313' undef h314' ∧
  I115_0 O Q a0 n0 c0 x1 x2 x3 g4 fi4 ca4 (wrapF .i64 (x311' + 1)) x2s x3s g4s fi4s ca4s (!(ltI (wrapF .i64 (x311' - x1s)) (wrapF .i64 (Int.tdiv (wrapF .i64 (x2s - x1s)) 8)))) q312' h314')
  (∃ h315', EvC Tryd.prog O 115 [(.slice a0 n0 c0), (.int .i64 (wrapF .i64 (x311' + 1))), (.int .i64 x2s), (.int .i64 x3s), (.func (.func g4s) fi4s ca4s)] h313' undef h315' ∧
  I115_0 O Q a0 n0 c0 x1 x2 x3 g4 fi4 ca4 x1s x311' x3s g4s fi4s ca4s (!(ltI (wrapF .i64 (x2s - x311')) (wrapF .i64 (Int.tdiv (wrapF .i64 (x2s - x1s)) 8)))) q312' h315'))))
  (vcond (ltI 0 x1s)
  (isNat (wrapF .i64 (x1s - 1)) fun n316' =>
  isAddr a0 fun b317' f318' =>
  vreq (Nat.blt n316' n0)
  (∃ x319', readAt (h269'.rsv 17) b317' (f318' + (n316' * 1)) 1 = some [(.int .i64 x319')] ∧
  isNat (wrapF .i64 ((wrapF .i64 (x2s - 1)) - (wrapF .i64 (x266' - x1s)))) fun n320' =>
  isAddr a0 fun b321' f322' =>
  vreq (Nat.blt n320' n0)
  (∃ x323', readAt (h269'.rsv 17) b321' (f322' + (n320' * 1)) 1 = some [(.int .i64 x323')] ∧
  ∃ x324', ∃ h325', EvC Tryd.prog O g4s (fi4s.toList ++ [(.int .i64 x319'), (.int .i64 x323')] ++ ca4s.toList) ((h269'.rsv 17).grd []) (.int .i64 x324') h325' ∧
  vcond (!(ltI x324' 0))
  (∃ x326', ∃ h327', EvC Tryd.prog O 133 [(.slice a0 n0 c0), (.int .i64 x1s), (.int .i64 x2s), (.int .i64 (wrapF .i64 ((wrapF .i64 (x2s - 1)) - (wrapF .i64 (x266' - x1s))))), (.func (.func g4s) fi4s ca4s)] (h325'.rst (h269'.rsv 17)) (.int .i64 x326') h327' ∧
  I115_0 O Q a0 n0 c0 x1 x2 x3 g4 fi4 ca4 x326' x2s x3s g4s fi4s ca4s q10 q11 h327')
  (∃ x328', ∃ q329', ∃ h330', EvC Tryd.prog O 134 [(.slice a0 n0 c0), (.int .i64 x1s), (.int .i64 x2s), (.int .i64 (wrapF .i64 ((wrapF .i64 (x2s - 1)) - (wrapF .i64 (x266' - x1s))))), (.func (.func g4s) fi4s ca4s)] (h325'.rst (h269'.rsv 17)) (.tuple #[(.int .i64 x328'), (.bool q329')]) h330' ∧
  vcond (ltI (wrapF .i64 (x328' - x1s)) (wrapF .i64 (x2s - x328')))
  (∃ h331', EvC Tryd.prog O 115 [(.slice a0 n0 c0), (.int .i64 x1s), (.int .i64 x328'), (.int .i64 x3s), (.func (.func g4s) fi4s ca4s)] h330' undef h331' ∧
  I115_0 O Q a0 n0 c0 x1 x2 x3 g4 fi4 ca4 (wrapF .i64 (x328' + 1)) x2s x3s g4s fi4s ca4s (!(ltI (wrapF .i64 (x328' - x1s)) (wrapF .i64 (Int.tdiv (wrapF .i64 (x2s - x1s)) 8)))) q329' h331')
  (∃ h332', EvC Tryd.prog O 115 [(.slice a0 n0 c0), (.int .i64 (wrapF .i64 (x328' + 1))), (.int .i64 x2s), (.int .i64 x3s), (.func (.func g4s) fi4s ca4s)] h330' undef h332' ∧
  I115_0 O Q a0 n0 c0 x1 x2 x3 g4 fi4 ca4 x1s x328' x3s g4s fi4s ca4s (!(ltI (wrapF .i64 (x2s - x328')) (wrapF .i64 (Int.tdiv (wrapF .i64 (x2s - x1s)) 8)))) q329' h332')))))
  (∃ x333', ∃ q334', ∃ h335', EvC Tryd.prog O 134 [(.slice a0 n0 c0), (.int .i64 x1s), (.int .i64 x2s), (.int .i64 (wrapF .i64 ((wrapF .i64 (x2s - 1)) - (wrapF .i64 (x266' - x1s))))), (.func (.func g4s) fi4s ca4s)] (h269'.rsv 17) (.tuple #[(.int .i64 x333'), (.bool q334')]) h335' ∧
  vcond (ltI (wrapF .i64 (x333' - x1s)) (wrapF .i64 (x2s - x333')))
  (∃ h336', EvC Tryd.prog O 115 [(.slice a0 n0 c0), (.int .i64 x1s), (.int .i64 x333'), (.int .i64 x3s), (.func (.func g4s) fi4s ca4s)] h335' undef h336' ∧
  I115_0 O Q a0 n0 c0 x1 x2 x3 g4 fi4 ca4 (wrapF .i64 (x333' + 1)) x2s x3s g4s fi4s ca4s (!(ltI (wrapF .i64 (x333' - x1s)) (wrapF .i64 (Int.tdiv (wrapF .i64 (x2s - x1s)) 8)))) q334' h336')
  (∃ h337', EvC Tryd.prog O 115 [(.slice a0 n0 c0), (.int .i64 (wrapF .i64 (x333' + 1))), (.int .i64 x2s), (.int .i64 x3s), (.func (.func g4s) fi4s ca4s)] h335' undef h337' ∧
  I115_0 O Q a0 n0 c0 x1 x2 x3 g4 fi4 ca4 x1s x333' x3s g4s fi4s ca4s (!(ltI (wrapF .i64 (x2s - x333')) (wrapF .i64 (Int.tdiv (wrapF .i64 (x2s - x1s)) 8)))) q334' h337'))))
  (vcond q10
  (vcond q11
  (vcond (eqI x267' 1)
  (∃ q338', ∃ h339', EvC Tryd.prog O 132 [(.slice a0 n0 c0), (.int .i64 x1s), (.int .i64 x2s), (.func (.func g4s) fi4s ca4s)] h268' (.bool q338') h339' ∧
  vcond q338'
  (Q undef h339')
  (vcond (ltI 0 x1s)
  (isNat (wrapF .i64 (x1s - 1)) fun n340' =>
  isAddr a0 fun b341' f342' =>
  vreq (Nat.blt n340' n0)
  (∃ x343', readAt (h339'.rsv 17) b341' (f342' + (n340' * 1)) 1 = some [(.int .i64 x343')] ∧
  isNat x266' fun n344' =>
  isAddr a0 fun b345' f346' =>
  vreq (Nat.blt n344' n0)
  (∃ x347', readAt (h339'.rsv 17) b345' (f346' + (n344' * 1)) 1 = some [(.int .i64 x347')] ∧
  ∃ x348', ∃ h349', EvC Tryd.prog O g4s (fi4s.toList ++ [(.int .i64 x343'), (.int .i64 x347')] ++ ca4s.toList) ((h339'.rsv 17).grd []) (.int .i64 x348') h349' ∧
  vcond (!(ltI x348' 0))
  (∃ x350', ∃ h351', EvC Tryd.prog O 133 [(.slice a0 n0 c0), (.int .i64 x1s), (.int .i64 x2s), (.int .i64 x266'), (.func (.func g4s) fi4s ca4s)] (h349'.rst (h339'.rsv 17)) (.int .i64 x350') h351' ∧
  I115_0 O Q a0 n0 c0 x1 x2 x3 g4 fi4 ca4 x350' x2s x3s g4s fi4s ca4s q10 q11 h351')
  (∃ x352', ∃ q353', ∃ h354', EvC Tryd.prog O 134 [(.slice a0 n0 c0), (.int .i64 x1s), (.int .i64 x2s), (.int .i64 x266'), (.func (.func g4s) fi4s ca4s)] (h349'.rst (h339'.rsv 17)) (.tuple #[(.int .i64 x352'), (.bool q353')]) h354' ∧
  vcond (ltI (wrapF .i64 (x352' - x1s)) (wrapF .i64 (x2s - x352')))
  (∃ h355', EvC Tryd.prog O 115 [(.slice a0 n0 c0), (.int .i64 x1s), (.int .i64 x352'), (.int .i64 x3s), (.func (.func g4s) fi4s ca4s)] h354' undef h355' ∧
  I115_0 O Q a0 n0 c0 x1 x2 x3 g4 fi4 ca4 (wrapF .i64 (x352' + 1)) x2s x3s g4s fi4s ca4s (!(ltI (wrapF .i64 (x352' - x1s)) (wrapF .i64 (Int.tdiv (wrapF .i64 (x2s - x1s)) 8)))) q353' h355')
  (∃ h356', EvC Tryd.prog O 115 [(.slice a0 n0 c0), (.int .i64 (wrapF .i64 (x352' + 1))), (.int .i64 x2s), (.int .i64 x3s), (.func (.func g4s) fi4s ca4s)] h354' undef h356' ∧
  I115_0 O Q a0 n0 c0 x1 x2 x3 g4 fi4 ca4 x1s x352' x3s g4s fi4s ca4s (!(ltI (wrapF .i64 (x2s - x352')) (wrapF .i64 (Int.tdiv (wrapF .i64 (x2s - x1s)) 8)))) q353' h356')))))
  (∃ x357', ∃ q358', ∃ h359', EvC Tryd.prog O 134 [(.slice a0 n0 c0), (.int .i64 x1s), (.int .i64 x2s), (.int .i64 x266'), (.func (.func g4s) fi4s ca4s)] (h339'.rsv 17) (.tuple #[(.int .i64 x357'), (.bool q358')]) h359' ∧
  vcond (ltI (wrapF .i64 (x357' - x1s)) (wrapF .i64 (x2s - x357')))
  (∃ h360', EvC Tryd.prog O 115 [(.slice a0 n0 c0), (.int .i64 x1s), (.int .i64 x357'), (.int .i64 x3s), (.func (.func g4s) fi4s ca4s)] h359' undef h360' ∧
  I115_0 O Q a0 n0 c0 x1 x2 x3 g4 fi4 ca4 (wrapF .i64 (x357' + 1)) x2s x3s g4s fi4s ca4s (!(ltI (wrapF .i64 (x357' - x1s)) (wrapF .i64 (Int.tdiv (wrapF .i64 (x2s - x1s)) 8)))) q358' h360')
  (∃ h361', EvC Tryd.prog O 115 [(.slice a0 n0 c0), (.int .i64 (wrapF .i64 (x357' + 1))), (.int .i64 x2s), (.int .i64 x3s), (.func (.func g4s) fi4s ca4s)] h359' undef h361' ∧
  I115_0 O Q a0 n0 c0 x1 x2 x3 g4 fi4 ca4 x1s x357' x3s g4s fi4s ca4s (!(ltI (wrapF .i64 (x2s - x357')) (wrapF .i64 (Int.tdiv (wrapF .i64 (x2s - x1s)) 8)))) q358' h361'))))
  (vcond (ltI 0 x1s)
  (isNat (wrapF .i64 (x1s - 1)) fun n362' =>
  isAddr a0 fun b363' f364' =>
  vreq (Nat.blt n362' n0)
  (∃ x365', readAt (h268'.rsv 17) b363' (f364' + (n362' * 1)) 1 = some [(.int .i64 x365')] ∧
  isNat x266' fun n366' =>
  isAddr a0 fun b367' f368' =>
  vreq (Nat.blt n366' n0)
  (∃ x369', readAt (h268'.rsv 17) b367' (f368' + (n366' * 1)) 1 = some [(.int .i64 x369')] ∧
  ∃ x370', ∃ h371', EvC Tryd.prog O g4s (fi4s.toList ++ [(.int .i64 x365'), (.int .i64 x369')] ++ ca4s.toList) ((h268'.rsv 17).grd []) (.int .i64 x370') h371' ∧
  vcond (!(ltI x370' 0))
  (∃ x372', ∃ h373', EvC Tryd.prog O 133 [(.slice a0 n0 c0), (.int .i64 x1s), (.int .i64 x2s), (.int .i64 x266'), (.func (.func g4s) fi4s ca4s)] (h371'.rst (h268'.rsv 17)) (.int .i64 x372') h373' ∧
  I115_0 O Q a0 n0 c0 x1 x2 x3 g4 fi4 ca4 x372' x2s x3s g4s fi4s ca4s q10 q11 h373')
  (∃ x374', ∃ q375', ∃ h376', EvC Tryd.prog O 134 [(.slice a0 n0 c0), (.int .i64 x1s), (.int .i64 x2s), (.int .i64 x266'), (.func (.func g4s) fi4s ca4s)] (h371'.rst (h268'.rsv 17)) (.tuple #[(.int .i64 x374'), (.bool q375')]) h376' ∧
  vcond (ltI (wrapF .i64 (x374' - x1s)) (wrapF .i64 (x2s - x374')))
  (∃ h377', EvC Tryd.prog O 115 [(.slice a0 n0 c0), (.int .i64 x1s), (.int .i64 x374'), (.int .i64 x3s), (.func (.func g4s) fi4s ca4s)] h376' undef h377' ∧
  I115_0 O Q a0 n0 c0 x1 x2 x3 g4 fi4 ca4 (wrapF .i64 (x374' + 1)) x2s x3s g4s fi4s ca4s (!(ltI (wrapF .i64 (x374' - x1s)) (wrapF .i64 (Int.tdiv (wrapF .i64 (x2s - x1s)) 8)))) q375' h377')
  (∃ h378', EvC Tryd.prog O 115 [(.slice a0 n0 c0), (.int .i64 (wrapF .i64 (x374' + 1))), (.int .i64 x2s), (.int .i64 x3s), (.func (.func g4s) fi4s ca4s)] h376' undef h378' ∧
  I115_0 O Q a0 n0 c0 x1 x2 x3 g4 fi4 ca4 x1s x374' x3s g4s fi4s ca4s (!(ltI (wrapF .i64 (x2s - x374')) (wrapF .i64 (Int.tdiv (wrapF .i64 (x2s - x1s)) 8)))) q375' h378')))))
  (∃ x379', ∃ q380', ∃ h381', EvC Tryd.prog O 134 [(.slice a0 n0 c0), (.int .i64 x1s), (.int .i64 x2s), (.int .i64 x266'), (.func (.func g4s) fi4s ca4s)] (h268'.rsv 17) (.tuple #[(.int .i64 x379'), (.bool q380')]) h381' ∧
  vcond (ltI (wrapF .i64 (x379' - x1s)) (wrapF .i64 (x2s - x379')))
  (∃ h382', EvC Tryd.prog O 115 [(.slice a0 n0 c0), (.int .i64 x1s), (.int .i64 x379'), (.int .i64 x3s), (.func (.func g4s) fi4s ca4s)] h381' undef h382' ∧
  I115_0 O Q a0 n0 c0 x1 x2 x3 g4 fi4 ca4 (wrapF .i64 (x379' + 1)) x2s x3s g4s fi4s ca4s (!(ltI (wrapF .i64 (x379' - x1s)) (wrapF .i64 (Int.tdiv (wrapF .i64 (x2s - x1s)) 8)))) q380' h382')
  (∃ h383', EvC Tryd.prog O 115 [(.slice a0 n0 c0), (.int .i64 (wrapF .i64 (x379' + 1))), (.int .i64 x2s), (.int .i64 x3s), (.func (.func g4s) fi4s ca4s)] h381' undef h383' ∧
  I115_0 O Q a0 n0 c0 x1 x2 x3 g4 fi4 ca4 x1s x379' x3s g4s fi4s ca4s (!(ltI (wrapF .i64 (x2s - x379')) (wrapF .i64 (Int.tdiv (wrapF .i64 (x2s - x1s)) 8)))) q380' h383'))))
  (vcond (ltI 0 x1s)
  (isNat (wrapF .i64 (x1s - 1)) fun n384' =>
  isAddr a0 fun b385' f386' =>
  vreq (Nat.blt n384' n0)
  (∃ x387', readAt (h268'.rsv 17) b385' (f386' + (n384' * 1)) 1 = some [(.int .i64 x387')] ∧
  isNat x266' fun n388' =>
  isAddr a0 fun b389' f390' =>
  vreq (Nat.blt n388' n0)
  (∃ x391', readAt (h268'.rsv 17) b389' (f390' + (n388' * 1)) 1 = some [(.int .i64 x391')] ∧
  ∃ x392', ∃ h393', EvC Tryd.prog O g4s (fi4s.toList ++ [(.int .i64 x387'), (.int .i64 x391')] ++ ca4s.toList) ((h268'.rsv 17).grd []) (.int .i64 x392') h393' ∧
  vcond (!(ltI x392' 0))
  (∃ x394', ∃ h395', EvC Tryd.prog O 133 [(.slice a0 n0 c0), (.int .i64 x1s), (.int .i64 x2s), (.int .i64 x266'), (.func (.func g4s) fi4s ca4s)] (h393'.rst (h268'.rsv 17)) (.int .i64 x394') h395' ∧
  I115_0 O Q a0 n0 c0 x1 x2 x3 g4 fi4 ca4 x394' x2s x3s g4s fi4s ca4s q10 q11 h395')
  (∃ x396', ∃ q397', ∃ h398', EvC Tryd.prog O 134 [(.slice a0 n0 c0), (.int .i64 x1s), (.int .i64 x2s), (.int .i64 x266'), (.func (.func g4s) fi4s ca4s)] (h393'.rst (h268'.rsv 17)) (.tuple #[(.int .i64 x396'), (.bool q397')]) h398' ∧
  vcond (ltI (wrapF .i64 (x396' - x1s)) (wrapF .i64 (x2s - x396')))
  (∃ h399', EvC Tryd.prog O 115 [(.slice a0 n0 c0), (.int .i64 x1s), (.int .i64 x396'), (.int .i64 x3s), (.func (.func g4s) fi4s ca4s)] h398' undef h399' ∧
  I115_0 O Q a0 n0 c0 x1 x2 x3 g4 fi4 ca4 (wrapF .i64 (x396' + 1)) x2s x3s g4s fi4s ca4s (!(ltI (wrapF .i64 (x396' - x1s)) (wrapF .i64 (Int.tdiv (wrapF .i64 (x2s - x1s)) 8)))) q397' h399')
  (∃ h400', EvC Tryd.prog O 115 [(.slice a0 n0 c0), (.int .i64 (wrapF .i64 (x396' + 1))), (.int .i64 x2s), (.int .i64 x3s), (.func (.func g4s) fi4s ca4s)] h398' undef h400' ∧
  I115_0 O Q a0 n0 c0 x1 x2 x3 g4 fi4 ca4 x1s x396' x3s g4s fi4s ca4s (!(ltI (wrapF .i64 (x2s - x396')) (wrapF .i64 (Int.tdiv (wrapF .i64 (x2s - x1s)) 8)))) q397' h400')))))
  (∃ x401', ∃ q402', ∃ h403', EvC Tryd.prog O 134 [(.slice a0 n0 c0), (.int .i64 x1s), (.int .i64 x2s), (.int .i64 x266'), (.func (.func g4s) fi4s ca4s)] (h268'.rsv 17) (.tuple #[(.int .i64 x401'), (.bool q402')]) h403' ∧
  vcond (ltI (wrapF .i64 (x401' - x1s)) (wrapF .i64 (x2s - x401')))
  (∃ h404', EvC Tryd.prog O 115 [(.slice a0 n0 c0), (.int .i64 x1s), (.int .i64 x401'), (.int .i64 x3s), (.func (.func g4s) fi4s ca4s)] h403' undef h404' ∧
  I115_0 O Q a0 n0 c0 x1 x2 x3 g4 fi4 ca4 (wrapF .i64 (x401' + 1)) x2s x3s g4s fi4s ca4s (!(ltI (wrapF .i64 (x401' - x1s)) (wrapF .i64 (Int.tdiv (wrapF .i64 (x2s - x1s)) 8)))) q402' h404')
  (∃ h405', EvC Tryd.prog O 115 [(.slice a0 n0 c0), (.int .i64 (wrapF .i64 (x401' + 1))), (.int .i64 x2s), (.int .i64 x3s), (.func (.func g4s) fi4s ca4s)] h403' undef h405' ∧
  I115_0 O Q a0 n0 c0 x1 x2 x3 g4 fi4 ca4 x1s x401' x3s g4s fi4s ca4s (!(ltI (wrapF .i64 (x2s - x401')) (wrapF .i64 (Int.tdiv (wrapF .i64 (x2s - x1s)) 8)))) q402' h405'))))
  (vcond (ltI 0 x1s)
  (isNat (wrapF .i64 (x1s - 1)) fun n406' =>
  isAddr a0 fun b407' f408' =>
  vreq (Nat.blt n406' n0)
  (∃ x409', readAt (h268'.rsv 17) b407' (f408' + (n406' * 1)) 1 = some [(.int .i64 x409')] ∧
  isNat x266' fun n410' =>
  isAddr a0 fun b411' f412' =>
  vreq (Nat.blt n410' n0)
  (∃ x413', readAt (h268'.rsv 17) b411' (f412' + (n410' * 1)) 1 = some [(.int .i64 x413')] ∧
  ∃ x414', ∃ h415', EvC Tryd.prog O g4s (fi4s.toList ++ [(.int .i64 x409'), (.int .i64 x413')] ++ ca4s.toList) ((h268'.rsv 17).grd []) (.int .i64 x414') h415' ∧
  vcond (!(ltI x414' 0))
  (∃ x416', ∃ h417', EvC Tryd.prog O 133 [(.slice a0 n0 c0), (.int .i64 x1s), (.int .i64 x2s), (.int .i64 x266'), (.func (.func g4s) fi4s ca4s)] (h415'.rst (h268'.rsv 17)) (.int .i64 x416') h417' ∧
  I115_0 O Q a0 n0 c0 x1 x2 x3 g4 fi4 ca4 x416' x2s x3s g4s fi4s ca4s q10 q11 h417')
  (∃ x418', ∃ q419', ∃ h420', EvC Tryd.prog O 134 [(.slice a0 n0 c0), (.int .i64 x1s), (.int .i64 x2s), (.int .i64 x266'), (.func (.func g4s) fi4s ca4s)] (h415'.rst (h268'.rsv 17)) (.tuple #[(.int .i64 x418'), (.bool q419')]) h420' ∧
  vcond (ltI (wrapF .i64 (x418' - x1s)) (wrapF .i64 (x2s - x418')))
  (∃ h421', EvC Tryd.prog O 115 [(.slice a0 n0 c0), (.int .i64 x1s), (.int .i64 x418'), (.int .i64 x3s), (.func (.func g4s) fi4s ca4s)] h420' undef h421' ∧
  I115_0 O Q a0 n0 c0 x1 x2 x3 g4 fi4 ca4 (wrapF .i64 (x418' + 1)) x2s x3s g4s fi4s ca4s (!(ltI (wrapF .i64 (x418' - x1s)) (wrapF .i64 (Int.tdiv (wrapF .i64 (x2s - x1s)) 8)))) q419' h421')
  (∃ h422', EvC Tryd.prog O 115 [(.slice a0 n0 c0), (.int .i64 (wrapF .i64 (x418' + 1))), (.int .i64 x2s), (.int .i64 x3s), (.func (.func g4s) fi4s ca4s)] h420' undef h422' ∧
  I115_0 O Q a0 n0 c0 x1 x2 x3 g4 fi4 ca4 x1s x418' x3s g4s fi4s ca4s (!(ltI (wrapF .i64 (x2s - x418')) (wrapF .i64 (Int.tdiv (wrapF .i64 (x2s - x1s)) 8)))) q419' h422')))))
  (∃ x423', ∃ q424', ∃ h425', EvC Tryd.prog O 134 [(.slice a0 n0 c0), (.int .i64 x1s), (.int .i64 x2s), (.int .i64 x266'), (.func (.func g4s) fi4s ca4s)] (h268'.rsv 17) (.tuple #[(.int .i64 x423'), (.bool q424')]) h425' ∧
  vcond (ltI (wrapF .i64 (x423' - x1s)) (wrapF .i64 (x2s - x423')))
  (∃ h426', EvC Tryd.prog O 115 [(.slice a0 n0 c0), (.int .i64 x1s), (.int .i64 x423'), (.int .i64 x3s), (.func (.func g4s) fi4s ca4s)] h425' undef h426' ∧
  I115_0 O Q a0 n0 c0 x1 x2 x3 g4 fi4 ca4 (wrapF .i64 (x423' + 1)) x2s x3s g4s fi4s ca4s (!(ltI (wrapF .i64 (x423' - x1s)) (wrapF .i64 (Int.tdiv (wrapF .i64 (x2s - x1s)) 8)))) q424' h426')
  (∃ h427', EvC Tryd.prog O 115 [(.slice a0 n0 c0), (.int .i64 (wrapF .i64 (x423' + 1))), (.int .i64 x2s), (.int .i64 x3s), (.func (.func g4s) fi4s ca4s)] h425' undef h427' ∧
  I115_0 O Q a0 n0 c0 x1 x2 x3 g4 fi4 ca4 x1s x423' x3s g4s fi4s ca4s (!(ltI (wrapF .i64 (x2s - x423')) (wrapF .i64 (Int.tdiv (wrapF .i64 (x2s - x1s)) 8)))) q424' h427')))))))
theorem I115_0.of {O Q} (a0 n0 c0 x1 x2 x3 g4 fi4 ca4 x1s x2s x3s g4s fi4s ca4s q10 q11) {h : Hp} (hh : T115_0 O Q a0 n0 c0 x1 x2 x3 g4 fi4 ca4 x1s x2s x3s g4s fi4s ca4s q10 q11 h) : I115_0 O Q a0 n0 c0 x1 x2 x3 g4 fi4 ca4 x1s x2s x3s g4s fi4s ca4s q10 q11 h :=
  RKL.of (tb := lv115) (cuts := []) 500 fun _ => Eq.mp (by kernel_rfl) hh
/-! slices.insertionSortCmpFunc[int] -/
noncomputable def b127 : Code := (Tryd.f127.body).getD .skip
noncomputable def stk127_0 : List KI := [.code (sub [1, 0] b127), .blk 0]
noncomputable def stk127_1 : List KI := [.code (sub [1, 0, 0, 1, 0, 0, 1, 0] b127), .blk 2, .blk 1, .code (sub [1, 0, 0, 1, 1] b127), .code (sub [1, 0] b127), .blk 0]
def lv127 : List (Nat × List Nat) := [(0, [0, 1, 2, 3, 8]), (2, [0, 1, 2, 3, 8, 9])]
def I127_0 (O : CallF) (Q : Value → Hp → Prop) (a0 : Option Addr) (n0 : Nat) (c0 : Nat) (x1 : Int) (x2 : Int) (g3 : Nat) (fi3 : Array Value) (ca3 : Array Value) (g3s : Nat) (fi3s : Array Value) (ca3s : Array Value) (x8 : Int) (h : Hp) : Prop := RKL Tryd.prog O Tryd.f127 stk127_0 53 [0, 1, 2, 3, 8] [(.slice a0 n0 c0), (.int .i64 x1), (.int .i64 x2), (.func (.func g3s) fi3s ca3s), (.int .i64 x8)] h Q
def I127_1 (O : CallF) (Q : Value → Hp → Prop) (a0 : Option Addr) (n0 : Nat) (c0 : Nat) (x1 : Int) (x2 : Int) (g3 : Nat) (fi3 : Array Value) (ca3 : Array Value) (g3s : Nat) (fi3s : Array Value) (ca3s : Array Value) (x8 : Int) (x9 : Int) (h : Hp) : Prop := RKL Tryd.prog O Tryd.f127 stk127_1 53 [0, 1, 2, 3, 8, 9] [(.slice a0 n0 c0), (.int .i64 x1), (.int .i64 x2), (.func (.func g3s) fi3s ca3s), (.int .i64 x8), (.int .i64 x9)] h Q
def T127 (O : CallF) (Q : Value → Hp → Prop) (a0 : Option Addr) (n0 : Nat) (c0 : Nat) (x1 : Int) (x2 : Int) (g3 : Nat) (fi3 : Array Value) (ca3 : Array Value) (h : Hp) : Prop :=
  I127_0 O Q a0 n0 c0 x1 x2 g3 fi3 ca3 g3 fi3 ca3 (wrapF .i64 (x1 + 1)) h
theorem rk127 {O Q} (a0 n0 c0 x1 x2 g3 fi3 ca3) {h : Hp} (hO : O 127 [(.slice a0 n0 c0), (.int .i64 x1), (.int .i64 x2), (.func (.func g3) fi3 ca3)] h = none) (hh : T127 O Q a0 n0 c0 x1 x2 g3 fi3 ca3 h) : Ret Tryd.prog O 127 [(.slice a0 n0 c0), (.int .i64 x1), (.int .i64 x2), (.func (.func g3) fi3 ca3)] h Q :=
  .of (c := b127) Tryd.func127 (by kernel_rfl) hO (V_ok (tb := lv127) (cuts := []) 500 (Eq.mp (by kernel_rfl) hh))
def T127_0 (O : CallF) (Q : Value → Hp → Prop) (a0 : Option Addr) (n0 : Nat) (c0 : Nat) (x1 : Int) (x2 : Int) (g3 : Nat) (fi3 : Array Value) (ca3 : Array Value) (g3s : Nat) (fi3s : Array Value) (ca3s : Array Value) (x8 : Int) (h : Hp) : Prop :=
  vcond (ltI x8 x2)
  (I127_1 O Q a0 n0 c0 x1 x2 g3 fi3 ca3 g3s fi3s ca3s x8 x8 h)
  (Q undef h)
theorem I127_0.of {O Q} (a0 n0 c0 x1 x2 g3 fi3 ca3 g3s fi3s ca3s x8) {h : Hp} (hh : T127_0 O Q a0 n0 c0 x1 x2 g3 fi3 ca3 g3s fi3s ca3s x8 h) : I127_0 O Q a0 n0 c0 x1 x2 g3 fi3 ca3 g3s fi3s ca3s x8 h :=
  RKL.of (tb := lv127) (cuts := []) 500 fun _ => Eq.mp (by kernel_rfl) hh
def T127_1 (O : CallF) (Q : Value → Hp → Prop) (a0 : Option Addr) (n0 : Nat) (c0 : Nat) (x1 : Int) (x2 : Int) (g3 : Nat) (fi3 : Array Value) (ca3 : Array Value) (g3s : Nat) (fi3s : Array Value) (ca3s : Array Value) (x8 : Int) (x9 : Int) (h : Hp) : Prop :=
  vcond (ltI x1 x9)
  (isNat x9 fun n201' =>
  isAddr a0 fun b202' f203' =>
  vreq (Nat.blt n201' n0)
  (∃ x204', readAt (h.rsv 17) b202' (f203' + (n201' * 1)) 1 = some [(.int .i64 x204')] ∧
  isNat (wrapF .i64 (x9 - 1)) fun n205' =>
  isAddr a0 fun b206' f207' =>
  vreq (Nat.blt n205' n0)
  (∃ x208', readAt (h.rsv 17) b206' (f207' + (n205' * 1)) 1 = some [(.int .i64 x208')] ∧
  ∃ x209', ∃ h210', EvC Tryd.prog O g3s (fi3s.toList ++ [(.int .i64 x204'), (.int .i64 x208')] ++ ca3s.toList) ((h.rsv 17).grd []) (.int .i64 x209') h210' ∧
  vcond (ltI x209' 0)
  (isNat (wrapF .i64 (x9 - 1)) fun n211' =>
  isAddr a0 fun b212' f213' =>
  vreq (Nat.blt n211' n0)
  (∃ x214', readAt ((h210'.rst (h.rsv 17)).rsv 18) b212' (f213' + (n211' * 1)) 1 = some [(.int .i64 x214')] ∧
  isNat x9 fun n215' =>
  isAddr a0 fun b216' f217' =>
  vreq (Nat.blt n215' n0)
  (∃ x218', readAt ((h210'.rst (h.rsv 17)).rsv 18) b216' (f217' + (n215' * 1)) 1 = some [(.int .i64 x218')] ∧
  isNat x9 fun n219' =>
  isAddr a0 fun b220' f221' =>
  vreq (Nat.blt n219' n0)
  (vreq (canW (((h210'.rst (h.rsv 17)).rsv 18).grd []) b220' (f221' + (n219' * 1)) [(.int .i64 x214')])
  (isNat (wrapF .i64 (x9 - 1)) fun n222' =>
  isAddr a0 fun b223' f224' =>
  vreq (Nat.blt n222' n0)
  (vreq (canW ((((((h210'.rst (h.rsv 17)).rsv 18).grd []).wr b220' (f221' + (n219' * 1)) [(.int .i64 x214')]).rst ((h210'.rst (h.rsv 17)).rsv 18)).grd []) b223' (f224' + (n222' * 1)) [(.int .i64 x218')])
  (I127_1 O Q a0 n0 c0 x1 x2 g3 fi3 ca3 g3s fi3s ca3s x8 (wrapF .i64 (x9 - 1)) ((((((((h210'.rst (h.rsv 17)).rsv 18).grd []).wr b220' (f221' + (n219' * 1)) [(.int .i64 x214')]).rst ((h210'.rst (h.rsv 17)).rsv 18)).grd []).wr b223' (f224' + (n222' * 1)) [(.int .i64 x218')]).rst (((((h210'.rst (h.rsv 17)).rsv 18).grd []).wr b220' (f221' + (n219' * 1)) [(.int .i64 x214')]).rst ((h210'.rst (h.rsv 17)).rsv 18))))))))))
  (I127_0 O Q a0 n0 c0 x1 x2 g3 fi3 ca3 g3s fi3s ca3s (wrapF .i64 (x8 + 1)) (h210'.rst (h.rsv 17))))))
  (I127_0 O Q a0 n0 c0 x1 x2 g3 fi3 ca3 g3s fi3s ca3s (wrapF .i64 (x8 + 1)) (h.rsv 17))
theorem I127_1.of {O Q} (a0 n0 c0 x1 x2 g3 fi3 ca3 g3s fi3s ca3s x8 x9) {h : Hp} (hh : T127_1 O Q a0 n0 c0 x1 x2 g3 fi3 ca3 g3s fi3s ca3s x8 x9 h) : I127_1 O Q a0 n0 c0 x1 x2 g3 fi3 ca3 g3s fi3s ca3s x8 x9 h :=
  RKL.of (tb := lv127) (cuts := []) 500 fun _ => Eq.mp (by kernel_rfl) hh
/-! math/bits.Len -/
noncomputable def b116 : Code := (Tryd.f116.body).getD .skip
def lv116 : List (Nat × List Nat) := []
def T116 (O : CallF) (Q : Value → Hp → Prop) (x0 : Int) (h : Hp) : Prop :=
  ∃ x1', ∃ h2', EvC Tryd.prog O 136 [(.int .u64 x0)] h (.int .i64 x1') h2' ∧
  Q (.int .i64 x1') h2'
theorem rk116 {O Q} (x0) {h : Hp} (hO : O 116 [(.int .u64 x0)] h = none) (hh : T116 O Q x0 h) : Ret Tryd.prog O 116 [(.int .u64 x0)] h Q :=
  .of (c := b116) Tryd.func116 (by kernel_rfl) hO (V_ok (tb := lv116) (cuts := []) 500 (Eq.mp (by kernel_rfl) hh))
/-! math/bits.Len64 -/
noncomputable def b136 : Code := (Tryd.f136.body).getD .skip
def lv136 : List (Nat × List Nat) := []
def T136 (O : CallF) (Q : Value → Hp → Prop) (x0 : Int) (h : Hp) : Prop :=
  vcond (!(ltI x0 4294967296))
  (vcond (!(ltI (shrF .u64 x0 32) 65536))
  (vcond (!(ltI (shrF .u64 (shrF .u64 x0 32) 16) 256))
  (isNat (wrapF .u8 (shrF .u64 (shrF .u64 (shrF .u64 x0 32) 16) 8)) fun n1' =>
  vreq (Nat.blt n1' 256)
  (Q (.int .i64 (wrapF .i64 (56 + (wrapF .i64 (byteI (ByteArray.mk #[0, 1, 2, 2, 3, 3, 3, 3, 4, 4, 4, 4, 4, 4, 4, 4, 5, 5, 5, 5, 5, 5, 5, 5, 5, 5, 5, 5, 5, 5, 5, 5, 6, 6, 6, 6, 6, 6, 6, 6, 6, 6, 6, 6, 6, 6, 6, 6, 6, 6, 6, 6, 6, 6, 6, 6, 6, 6, 6, 6, 6, 6, 6, 6, 7, 7, 7, 7, 7, 7, 7, 7, 7, 7, 7, 7, 7, 7, 7, 7, 7, 7, 7, 7, 7, 7, 7, 7, 7, 7, 7, 7, 7, 7, 7, 7, 7, 7, 7, 7, 7, 7, 7, 7, 7, 7, 7, 7, 7, 7, 7, 7, 7, 7, 7, 7, 7, 7, 7, 7, 7, 7, 7, 7, 7, 7, 7, 7, 8, 8, 8, 8, 8, 8, 8, 8, 8, 8, 8, 8, 8, 8, 8, 8, 8, 8, 8, 8, 8, 8, 8, 8, 8, 8, 8, 8, 8, 8, 8, 8, 8, 8, 8, 8, 8, 8, 8, 8, 8, 8, 8, 8, 8, 8, 8, 8, 8, 8, 8, 8, 8, 8, 8, 8, 8, 8, 8, 8, 8, 8, 8, 8, 8, 8, 8, 8, 8, 8, 8, 8, 8, 8, 8, 8, 8, 8, 8, 8, 8, 8, 8, 8, 8, 8, 8, 8, 8, 8, 8, 8, 8, 8, 8, 8, 8, 8, 8, 8, 8, 8, 8, 8, 8, 8, 8, 8, 8, 8, 8, 8, 8, 8, 8, 8, 8, 8, 8, 8, 8, 8, 8, 8, 8, 8, 8, 8]) n1'))))) h))
  (isNat (wrapF .u8 (shrF .u64 (shrF .u64 x0 32) 16)) fun n2' =>
  vreq (Nat.blt n2' 256)
  (Q (.int .i64 (wrapF .i64 (48 + (wrapF .i64 (byteI (ByteArray.mk #[0, 1, 2, 2, 3, 3, 3, 3, 4, 4, 4, 4, 4, 4, 4, 4, 5, 5, 5, 5, 5, 5, 5, 5, 5, 5, 5, 5, 5, 5, 5, 5, 6, 6, 6, 6, 6, 6, 6, 6, 6, 6, 6, 6, 6, 6, 6, 6, 6, 6, 6, 6, 6, 6, 6, 6, 6, 6, 6, 6, 6, 6, 6, 6, 7, 7, 7, 7, 7, 7, 7, 7, 7, 7, 7, 7, 7, 7, 7, 7, 7, 7, 7, 7, 7, 7, 7, 7, 7, 7, 7, 7, 7, 7, 7, 7, 7, 7, 7, 7, 7, 7, 7, 7, 7, 7, 7, 7, 7, 7, 7, 7, 7, 7, 7, 7, 7, 7, 7, 7, 7, 7, 7, 7, 7, 7, 7, 7, 8, 8, 8, 8, 8, 8, 8, 8, 8, 8, 8, 8, 8, 8, 8, 8, 8, 8, 8, 8, 8, 8, 8, 8, 8, 8, 8, 8, 8, 8, 8, 8, 8, 8, 8, 8, 8, 8, 8, 8, 8, 8, 8, 8, 8, 8, 8, 8, 8, 8, 8, 8, 8, 8, 8, 8, 8, 8, 8, 8, 8, 8, 8, 8, 8, 8, 8, 8, 8, 8, 8, 8, 8, 8, 8, 8, 8, 8, 8, 8, 8, 8, 8, 8, 8, 8, 8, 8, 8, 8, 8, 8, 8, 8, 8, 8, 8, 8, 8, 8, 8, 8, 8, 8, 8, 8, 8, 8, 8, 8, 8, 8, 8, 8, 8, 8, 8, 8, 8, 8, 8, 8, 8, 8, 8, 8, 8, 8]) n2'))))) h)))
  (vcond (!(ltI (shrF .u64 x0 32) 256))
  (isNat (wrapF .u8 (shrF .u64 (shrF .u64 x0 32) 8)) fun n3' =>
  vreq (Nat.blt n3' 256)
  (Q (.int .i64 (wrapF .i64 (40 + (wrapF .i64 (byteI (ByteArray.mk #[0, 1, 2, 2, 3, 3, 3, 3, 4, 4, 4, 4, 4, 4, 4, 4, 5, 5, 5, 5, 5, 5, 5, 5, 5, 5, 5, 5, 5, 5, 5, 5, 6, 6, 6, 6, 6, 6, 6, 6, 6, 6, 6, 6, 6, 6, 6, 6, 6, 6, 6, 6, 6, 6, 6, 6, 6, 6, 6, 6, 6, 6, 6, 6, 7, 7, 7, 7, 7, 7, 7, 7, 7, 7, 7, 7, 7, 7, 7, 7, 7, 7, 7, 7, 7, 7, 7, 7, 7, 7, 7, 7, 7, 7, 7, 7, 7, 7, 7, 7, 7, 7, 7, 7, 7, 7, 7, 7, 7, 7, 7, 7, 7, 7, 7, 7, 7, 7, 7, 7, 7, 7, 7, 7, 7, 7, 7, 7, 8, 8, 8, 8, 8, 8, 8, 8, 8, 8, 8, 8, 8, 8, 8, 8, 8, 8, 8, 8, 8, 8, 8, 8, 8, 8, 8, 8, 8, 8, 8, 8, 8, 8, 8, 8, 8, 8, 8, 8, 8, 8, 8, 8, 8, 8, 8, 8, 8, 8, 8, 8, 8, 8, 8, 8, 8, 8, 8, 8, 8, 8, 8, 8, 8, 8, 8, 8, 8, 8, 8, 8, 8, 8, 8, 8, 8, 8, 8, 8, 8, 8, 8, 8, 8, 8, 8, 8, 8, 8, 8, 8, 8, 8, 8, 8, 8, 8, 8, 8, 8, 8, 8, 8, 8, 8, 8, 8, 8, 8, 8, 8, 8, 8, 8, 8, 8, 8, 8, 8, 8, 8, 8, 8, 8, 8, 8, 8]) n3'))))) h))
  (isNat (wrapF .u8 (shrF .u64 x0 32)) fun n4' =>
  vreq (Nat.blt n4' 256)
  (Q (.int .i64 (wrapF .i64 (32 + (wrapF .i64 (byteI (ByteArray.mk #[0, 1, 2, 2, 3, 3, 3, 3, 4, 4, 4, 4, 4, 4, 4, 4, 5, 5, 5, 5, 5, 5, 5, 5, 5, 5, 5, 5, 5, 5, 5, 5, 6, 6, 6, 6, 6, 6, 6, 6, 6, 6, 6, 6, 6, 6, 6, 6, 6, 6, 6, 6, 6, 6, 6, 6, 6, 6, 6, 6, 6, 6, 6, 6, 7, 7, 7, 7, 7, 7, 7, 7, 7, 7, 7, 7, 7, 7, 7, 7, 7, 7, 7, 7, 7, 7, 7, 7, 7, 7, 7, 7, 7, 7, 7, 7, 7, 7, 7, 7, 7, 7, 7, 7, 7, 7, 7, 7, 7, 7, 7, 7, 7, 7, 7, 7, 7, 7, 7, 7, 7, 7, 7, 7, 7, 7, 7, 7, 8, 8, 8, 8, 8, 8, 8, 8, 8, 8, 8, 8, 8, 8, 8, 8, 8, 8, 8, 8, 8, 8, 8, 8, 8, 8, 8, 8, 8, 8, 8, 8, 8, 8, 8, 8, 8, 8, 8, 8, 8, 8, 8, 8, 8, 8, 8, 8, 8, 8, 8, 8, 8, 8, 8, 8, 8, 8, 8, 8, 8, 8, 8, 8, 8, 8, 8, 8, 8, 8, 8, 8, 8, 8, 8, 8, 8, 8, 8, 8, 8, 8, 8, 8, 8, 8, 8, 8, 8, 8, 8, 8, 8, 8, 8, 8, 8, 8, 8, 8, 8, 8, 8, 8, 8, 8, 8, 8, 8, 8, 8, 8, 8, 8, 8, 8, 8, 8, 8, 8, 8, 8, 8, 8, 8, 8, 8, 8]) n4'))))) h))))
  (vcond (!(ltI x0 65536))
  (vcond (!(ltI (shrF .u64 x0 16) 256))
  (isNat (wrapF .u8 (shrF .u64 (shrF .u64 x0 16) 8)) fun n5' =>
  vreq (Nat.blt n5' 256)
  (Q (.int .i64 (wrapF .i64 (24 + (wrapF .i64 (byteI (ByteArray.mk #[0, 1, 2, 2, 3, 3, 3, 3, 4, 4, 4, 4, 4, 4, 4, 4, 5, 5, 5, 5, 5, 5, 5, 5, 5, 5, 5, 5, 5, 5, 5, 5, 6, 6, 6, 6, 6, 6, 6, 6, 6, 6, 6, 6, 6, 6, 6, 6, 6, 6, 6, 6, 6, 6, 6, 6, 6, 6, 6, 6, 6, 6, 6, 6, 7, 7, 7, 7, 7, 7, 7, 7, 7, 7, 7, 7, 7, 7, 7, 7, 7, 7, 7, 7, 7, 7, 7, 7, 7, 7, 7, 7, 7, 7, 7, 7, 7, 7, 7, 7, 7, 7, 7, 7, 7, 7, 7, 7, 7, 7, 7, 7, 7, 7, 7, 7, 7, 7, 7, 7, 7, 7, 7, 7, 7, 7, 7, 7, 8, 8, 8, 8, 8, 8, 8, 8, 8, 8, 8, 8, 8, 8, 8, 8, 8, 8, 8, 8, 8, 8, 8, 8, 8, 8, 8, 8, 8, 8, 8, 8, 8, 8, 8, 8, 8, 8, 8, 8, 8, 8, 8, 8, 8, 8, 8, 8, 8, 8, 8, 8, 8, 8, 8, 8, 8, 8, 8, 8, 8, 8, 8, 8, 8, 8, 8, 8, 8, 8, 8, 8, 8, 8, 8, 8, 8, 8, 8, 8, 8, 8, 8, 8, 8, 8, 8, 8, 8, 8, 8, 8, 8, 8, 8, 8, 8, 8, 8, 8, 8, 8, 8, 8, 8, 8, 8, 8, 8, 8, 8, 8, 8, 8, 8, 8, 8, 8, 8, 8, 8, 8, 8, 8, 8, 8, 8, 8]) n5'))))) h))
  (isNat (wrapF .u8 (shrF .u64 x0 16)) fun n6' =>
  vreq (Nat.blt n6' 256)
  (Q (.int .i64 (wrapF .i64 (16 + (wrapF .i64 (byteI (ByteArray.mk #[0, 1, 2, 2, 3, 3, 3, 3, 4, 4, 4, 4, 4, 4, 4, 4, 5, 5, 5, 5, 5, 5, 5, 5, 5, 5, 5, 5, 5, 5, 5, 5, 6, 6, 6, 6, 6, 6, 6, 6, 6, 6, 6, 6, 6, 6, 6, 6, 6, 6, 6, 6, 6, 6, 6, 6, 6, 6, 6, 6, 6, 6, 6, 6, 7, 7, 7, 7, 7, 7, 7, 7, 7, 7, 7, 7, 7, 7, 7, 7, 7, 7, 7, 7, 7, 7, 7, 7, 7, 7, 7, 7, 7, 7, 7, 7, 7, 7, 7, 7, 7, 7, 7, 7, 7, 7, 7, 7, 7, 7, 7, 7, 7, 7, 7, 7, 7, 7, 7, 7, 7, 7, 7, 7, 7, 7, 7, 7, 8, 8, 8, 8, 8, 8, 8, 8, 8, 8, 8, 8, 8, 8, 8, 8, 8, 8, 8, 8, 8, 8, 8, 8, 8, 8, 8, 8, 8, 8, 8, 8, 8, 8, 8, 8, 8, 8, 8, 8, 8, 8, 8, 8, 8, 8, 8, 8, 8, 8, 8, 8, 8, 8, 8, 8, 8, 8, 8, 8, 8, 8, 8, 8, 8, 8, 8, 8, 8, 8, 8, 8, 8, 8, 8, 8, 8, 8, 8, 8, 8, 8, 8, 8, 8, 8, 8, 8, 8, 8, 8, 8, 8, 8, 8, 8, 8, 8, 8, 8, 8, 8, 8, 8, 8, 8, 8, 8, 8, 8, 8, 8, 8, 8, 8, 8, 8, 8, 8, 8, 8, 8, 8, 8, 8, 8, 8, 8]) n6'))))) h)))
  (vcond (!(ltI x0 256))
  (isNat (wrapF .u8 (shrF .u64 x0 8)) fun n7' =>
  vreq (Nat.blt n7' 256)
  (Q (.int .i64 (wrapF .i64 (8 + (wrapF .i64 (byteI (ByteArray.mk #[0, 1, 2, 2, 3, 3, 3, 3, 4, 4, 4, 4, 4, 4, 4, 4, 5, 5, 5, 5, 5, 5, 5, 5, 5, 5, 5, 5, 5, 5, 5, 5, 6, 6, 6, 6, 6, 6, 6, 6, 6, 6, 6, 6, 6, 6, 6, 6, 6, 6, 6, 6, 6, 6, 6, 6, 6, 6, 6, 6, 6, 6, 6, 6, 7, 7, 7, 7, 7, 7, 7, 7, 7, 7, 7, 7, 7, 7, 7, 7, 7, 7, 7, 7, 7, 7, 7, 7, 7, 7, 7, 7, 7, 7, 7, 7, 7, 7, 7, 7, 7, 7, 7, 7, 7, 7, 7, 7, 7, 7, 7, 7, 7, 7, 7, 7, 7, 7, 7, 7, 7, 7, 7, 7, 7, 7, 7, 7, 8, 8, 8, 8, 8, 8, 8, 8, 8, 8, 8, 8, 8, 8, 8, 8, 8, 8, 8, 8, 8, 8, 8, 8, 8, 8, 8, 8, 8, 8, 8, 8, 8, 8, 8, 8, 8, 8, 8, 8, 8, 8, 8, 8, 8, 8, 8, 8, 8, 8, 8, 8, 8, 8, 8, 8, 8, 8, 8, 8, 8, 8, 8, 8, 8, 8, 8, 8, 8, 8, 8, 8, 8, 8, 8, 8, 8, 8, 8, 8, 8, 8, 8, 8, 8, 8, 8, 8, 8, 8, 8, 8, 8, 8, 8, 8, 8, 8, 8, 8, 8, 8, 8, 8, 8, 8, 8, 8, 8, 8, 8, 8, 8, 8, 8, 8, 8, 8, 8, 8, 8, 8, 8, 8, 8, 8, 8, 8]) n7'))))) h))
  (isNat (wrapF .u8 x0) fun n8' =>
  vreq (Nat.blt n8' 256)
  (Q (.int .i64 (wrapF .i64 (0 + (wrapF .i64 (byteI (ByteArray.mk #[0, 1, 2, 2, 3, 3, 3, 3, 4, 4, 4, 4, 4, 4, 4, 4, 5, 5, 5, 5, 5, 5, 5, 5, 5, 5, 5, 5, 5, 5, 5, 5, 6, 6, 6, 6, 6, 6, 6, 6, 6, 6, 6, 6, 6, 6, 6, 6, 6, 6, 6, 6, 6, 6, 6, 6, 6, 6, 6, 6, 6, 6, 6, 6, 7, 7, 7, 7, 7, 7, 7, 7, 7, 7, 7, 7, 7, 7, 7, 7, 7, 7, 7, 7, 7, 7, 7, 7, 7, 7, 7, 7, 7, 7, 7, 7, 7, 7, 7, 7, 7, 7, 7, 7, 7, 7, 7, 7, 7, 7, 7, 7, 7, 7, 7, 7, 7, 7, 7, 7, 7, 7, 7, 7, 7, 7, 7, 7, 8, 8, 8, 8, 8, 8, 8, 8, 8, 8, 8, 8, 8, 8, 8, 8, 8, 8, 8, 8, 8, 8, 8, 8, 8, 8, 8, 8, 8, 8, 8, 8, 8, 8, 8, 8, 8, 8, 8, 8, 8, 8, 8, 8, 8, 8, 8, 8, 8, 8, 8, 8, 8, 8, 8, 8, 8, 8, 8, 8, 8, 8, 8, 8, 8, 8, 8, 8, 8, 8, 8, 8, 8, 8, 8, 8, 8, 8, 8, 8, 8, 8, 8, 8, 8, 8, 8, 8, 8, 8, 8, 8, 8, 8, 8, 8, 8, 8, 8, 8, 8, 8, 8, 8, 8, 8, 8, 8, 8, 8, 8, 8, 8, 8, 8, 8, 8, 8, 8, 8, 8, 8, 8, 8, 8, 8, 8, 8]) n8'))))) h))))
theorem rk136 {O Q} (x0) {h : Hp} (hO : O 136 [(.int .u64 x0)] h = none) (hh : T136 O Q x0 h) : Ret Tryd.prog O 136 [(.int .u64 x0)] h Q :=
  .of (c := b136) Tryd.func136 (by kernel_rfl) hO (V_ok (tb := lv136) (cuts := []) 500 (Eq.mp (by kernel_rfl) hh))
end Go.Proofs.YtfgfhplgnfbaaaaDoor
/- Contracts of library functions that sort, where the list is sorted. -/
namespace Go.Proofs.YtfgfhplgnfbaaaaDoor
open Go Go.Ev
section
variable {O : CallF} (hO : Oth O)
include hO
theorem ct123 {x y : Int} (hx : Lit x) (hy : Lit y) (h : Hp) : EvT O 123 [.int .i64 x, .int .i64 y] h (.int .i64 ((x.natAbs : Int) - (y.natAbs : Int))) h := by
  refine EvC.of_ret (rk123 _ _ (hO _ _ _ (by decide)) ?_)
  unfold T123
  refine ⟨_, _, ct94 hO x h, _, _, ct94 hO y h, ?_, rfl⟩
  have := hx.2; have := hy.2
  rw [varI_lit2 hx, varI_lit2 hy, wrap64 (by omega) (by omega)]
end
end Go.Proofs.YtfgfhplgnfbaaaaDoor
/- Contracts of library functions that sort, where the list is sorted: to the end. Contraries. -/
namespace Go.Proofs.YtfgfhplgnfbaaaaDoor
open Go Go.Ev
def lenT : ByteArray := ByteArray.mk #[0, 1, 2, 2, 3, 3, 3, 3, 4, 4, 4, 4, 4, 4, 4, 4, 5, 5, 5, 5, 5, 5, 5, 5, 5, 5, 5, 5, 5, 5, 5, 5, 6, 6, 6, 6, 6, 6, 6, 6, 6, 6, 6, 6, 6, 6, 6, 6, 6, 6, 6, 6, 6, 6, 6, 6, 6, 6, 6, 6, 6, 6, 6, 6, 7, 7, 7, 7, 7, 7, 7, 7, 7, 7, 7, 7, 7, 7, 7, 7, 7, 7, 7, 7, 7, 7, 7, 7, 7, 7, 7, 7, 7, 7, 7, 7, 7, 7, 7, 7, 7, 7, 7, 7, 7, 7, 7, 7, 7, 7, 7, 7, 7, 7, 7, 7, 7, 7, 7, 7, 7, 7, 7, 7, 7, 7, 7, 7, 8, 8, 8, 8, 8, 8, 8, 8, 8, 8, 8, 8, 8, 8, 8, 8, 8, 8, 8, 8, 8, 8, 8, 8, 8, 8, 8, 8, 8, 8, 8, 8, 8, 8, 8, 8, 8, 8, 8, 8, 8, 8, 8, 8, 8, 8, 8, 8, 8, 8, 8, 8, 8, 8, 8, 8, 8, 8, 8, 8, 8, 8, 8, 8, 8, 8, 8, 8, 8, 8, 8, 8, 8, 8, 8, 8, 8, 8, 8, 8, 8, 8, 8, 8, 8, 8, 8, 8, 8, 8, 8, 8, 8, 8, 8, 8, 8, 8, 8, 8, 8, 8, 8, 8, 8, 8, 8, 8, 8, 8, 8, 8, 8, 8, 8, 8, 8, 8, 8, 8, 8, 8, 8, 8, 8, 8, 8, 8]
section
variable {O : CallF} (hO : Oth O)
include hO
theorem ct136 {n : Nat} (hn : n < 256) (h : Hp) : EvT O 136 [.int .u64 (Int.ofNat n)] h (.int .i64 (wrapF .i64 (0 + wrapF .i64 (byteI lenT n)))) h := by
  refine EvC.of_ret (rk136 _ (hO _ _ _ (by decide)) ?_)
  unfold T136
  have e8 : wrapF .u8 (Int.ofNat n) = Int.ofNat n := by
    show Int.ofNat (n % 256) = _
    rw [Nat.mod_eq_of_lt hn]
  rw [e8]
  refine vcond_f (by rw [ltI_t (by simp only [Int.ofNat_eq_natCast]; omega)]; rfl) (vcond_f (by rw [ltI_t (by simp only [Int.ofNat_eq_natCast]; omega)]; rfl) (vcond_f (by rw [ltI_t (by simp only [Int.ofNat_eq_natCast]; omega)]; rfl) (isNat_of (vreq_t (blt_t hn) ⟨rfl, rfl⟩))))
theorem ct116 {n : Nat} (hn : n < 256) (h : Hp) : EvT O 116 [.int .u64 (Int.ofNat n)] h (.int .i64 (wrapF .i64 (0 + wrapF .i64 (byteI lenT n)))) h := by
  refine EvC.of_ret (rk116 _ (hO _ _ _ (by decide)) ?_)
  unfold T116
  exact ⟨_, _, ct136 hO hn h, rfl, rfl⟩
omit hO in
theorem Dif.neg {l : List Int} (h : Dif l) : Dif (l.map fun x => -x) := by
  unfold Dif
  rw [List.pairwise_map]
  refine h.imp fun {x z} hxz => ?_
  rw [Int.natAbs_neg, Int.natAbs_neg]; exact hxz
omit hO in
theorem lit_neg {l : List Int} (h : ∀ x ∈ l, Lit x) : ∀ x ∈ l.map (fun x => -x), Lit x := by
  intro x hx
  obtain ⟨z, hz, rfl⟩ := List.mem_map.1 hx
  have := h z hz
  exact ⟨by have := this.1; omega, by have := this.2; omega⟩
end
end Go.Proofs.YtfgfhplgnfbaaaaDoor
/- Conditions of functions' code, printed by a program of ours. -/
namespace Go.Proofs.YtfgfhplgnfbaaaaDoor
open Go Go.Ev
set_option maxRecDepth 100000
set_option linter.unusedVariables false
/-! (sward/swardlaw20.Puzzle).made -/
noncomputable def b16 : Code := (Tryd.f16.body).getD .skip
noncomputable def stk16_0 : List KI := [.code (sub [1, 1, 0, 1, 0] b16), .blk 0, .code (sub [1, 1, 1] b16)]
noncomputable def stk16_1 : List KI := [.code (sub [1, 1, 0, 1, 0, 0, 1, 1, 0, 0, 1, 1, 0, 1, 0] b16), .blk 2, .code (sub [1, 1, 0, 1, 0, 0, 1, 1, 0, 0, 1, 1, 1] b16), .blk 1, .code (sub [1, 1, 0, 1, 0, 0, 1, 1, 1] b16), .code (sub [1, 1, 0, 1, 0] b16), .blk 0, .code (sub [1, 1, 1] b16)]
def lv16 : List (Nat × List Nat) := [(0, [4, 5, 23, 24, 25]), (2, [4, 5, 8, 23, 24, 25, 29, 30])]
def I16_0 (O : CallF) (Q : Value → Hp → Prop) (v0 : Array Value) (x1 : Int) (b4 : Nat) (f4 : Nat) (b5 : Nat) (f5 : Nat) (a23 : Option Addr) (n23 : Nat) (c23 : Nat) (x24 : Int) (x25 : Int) (h : Hp) : Prop := RKL Tryd.prog O Tryd.f16 stk16_0 57 [4, 5, 23, 24, 25] [(.pointer (some ⟨b4, f4, none⟩)), (.pointer (some ⟨b5, f5, none⟩)), (.slice a23 n23 c23), (.int .i64 x24), (.int .i64 x25)] h Q
def I16_1 (O : CallF) (Q : Value → Hp → Prop) (v0 : Array Value) (x1 : Int) (b4 : Nat) (f4 : Nat) (b5 : Nat) (f5 : Nat) (a8 : Option Addr) (n8 : Nat) (c8 : Nat) (a23 : Option Addr) (n23 : Nat) (c23 : Nat) (x24 : Int) (x25 : Int) (x29_0 : Int) (x29_1 : Int) (x29_2 : Int) (x30 : Int) (h : Hp) : Prop := RKL Tryd.prog O Tryd.f16 stk16_1 57 [4, 5, 8, 23, 24, 25, 29, 30] [(.pointer (some ⟨b4, f4, none⟩)), (.pointer (some ⟨b5, f5, none⟩)), (.slice a8 n8 c8), (.slice a23 n23 c23), (.int .i64 x24), (.int .i64 x25), (.agg #[(.int .i8 x29_0), (.int .i8 x29_1), (.int .i8 x29_2)]), (.int .i64 x30)] h Q
def T16 (O : CallF) (Q : Value → Hp → Prop) (v0 : Array Value) (x1 : Int) (h : Hp) : Prop :=
  vreq (v0.toList.all one)
  (let g1 : Hp := h.add (.cells v0.toList 26 .fix)
  let g2 : Hp := g1.add (.cells [(.int .i64 0), (.slice none 0 0)] 30 .fix)
  ∃ x3', readAt g2 h.nx 0 1 = some [(.int .u8 x3')] ∧
  vreq (!(eqI x1 0))
  (let g4 : Hp := g2.add (.cells [(.int .i64 0), (.slice none 0 0)] 30 .fix)
  vreq (canW g4 g2.nx 0 [(.int .i64 (wrapF .i64 (1 + (Int.tmod (wrapF .i64 x3') x1)))), (.slice none 0 0)])
  (let g5 : Hp := g4.wr g2.nx 0 [(.int .i64 (wrapF .i64 (1 + (Int.tmod (wrapF .i64 x3') x1)))), (.slice none 0 0)]
  ∃ x6', readAt g5 h.nx 1 1 = some [(.int .u8 x6')] ∧
  ∃ a7' n8' c9', sliceV Tryd.prog g5 24 (.pointer (some ⟨h.nx, 2, none⟩)) none (some (.int .i64 (Int.tmod (wrapF .i64 x6') 15))) none = some (.slice a7' n8' c9') ∧
  I16_0 O Q v0 x1 g1.nx 0 g2.nx 0 a7' n8' c9' (Int.ofNat n8') 0 g5)))
theorem rk16 {O Q} (v0 x1) {h : Hp} (hO : O 16 [(.agg v0), (.int .i64 x1)] h = none) (hh : T16 O Q v0 x1 h) : Ret Tryd.prog O 16 [(.agg v0), (.int .i64 x1)] h Q :=
  .of (c := b16) Tryd.func16 (by kernel_rfl) hO (V_ok (tb := lv16) (cuts := []) 500 (Eq.mp (by kernel_rfl) hh))
def T16_0 (O : CallF) (Q : Value → Hp → Prop) (v0 : Array Value) (x1 : Int) (b4 : Nat) (f4 : Nat) (b5 : Nat) (f5 : Nat) (a23 : Option Addr) (n23 : Nat) (c23 : Nat) (x24 : Int) (x25 : Int) (h : Hp) : Prop :=
  vcond (ltI x25 x24)
  (isNat x25 fun n101' =>
  isAddr a23 fun b102' f103' =>
  vreq (Nat.blt n101' n23)
  (∃ x104', ∃ x105', ∃ x106', readAt h b102' (f103' + (n101' * 3)) 3 = some [(.int .i8 x104'), (.int .i8 x105'), (.int .i8 x106')] ∧
  let g107 : Hp := h.add (.cells [(.int .i8 0), (.int .i8 0), (.int .i8 0)] 23 .fix)
  vreq (canW g107 h.nx 0 [(.int .i8 x104'), (.int .i8 x105'), (.int .i8 x106')])
  (let g108 : Hp := g107.wr h.nx 0 [(.int .i8 x104'), (.int .i8 x105'), (.int .i8 x106')]
  ∃ x109', ∃ x110', ∃ x111', readAt g108 h.nx 0 3 = some [(.int .i8 x109'), (.int .i8 x110'), (.int .i8 x111')] ∧
  I16_1 O Q v0 x1 b4 f4 b5 f5 none 0 0 a23 n23 c23 x24 x25 x109' x110' x111' 0 g108)))
  (∃ x112', ∃ a113' n114' c115', readAt h b5 f5 2 = some [(.int .i64 x112'), (.slice a113' n114' c115')] ∧
  vreq (canW h b4 f4 [(.int .i64 x112'), (.slice a113' n114' c115')])
  (let g116 : Hp := h.wr b4 f4 [(.int .i64 x112'), (.slice a113' n114' c115')]
  ∃ x117', ∃ a118' n119' c120', readAt g116 b4 f4 2 = some [(.int .i64 x117'), (.slice a118' n119' c120')] ∧
  Q (.agg #[(.int .i64 x117'), (.slice a118' n119' c120')]) g116))
theorem I16_0.of {O Q} (v0 x1 b4 f4 b5 f5 a23 n23 c23 x24 x25) {h : Hp} (hh : T16_0 O Q v0 x1 b4 f4 b5 f5 a23 n23 c23 x24 x25 h) : I16_0 O Q v0 x1 b4 f4 b5 f5 a23 n23 c23 x24 x25 h :=
  RKL.of (tb := lv16) (cuts := []) 500 fun _ => Eq.mp (by kernel_rfl) hh
def T16_1 (O : CallF) (Q : Value → Hp → Prop) (v0 : Array Value) (x1 : Int) (b4 : Nat) (f4 : Nat) (b5 : Nat) (f5 : Nat) (a8 : Option Addr) (n8 : Nat) (c8 : Nat) (a23 : Option Addr) (n23 : Nat) (c23 : Nat) (x24 : Int) (x25 : Int) (x29_0 : Int) (x29_1 : Int) (x29_2 : Int) (x30 : Int) (h : Hp) : Prop :=
  vcond (ltI x30 3)
  (isNat x30 fun n201' =>
  vreq (Nat.blt n201' 3)
  (vcond (ltI x30 2)
  (∃ x202', readAt h b5 (f5 + 0) 1 = some [(.int .i64 x202')] ∧
  ∃ x203', ∃ h204', EvC Tryd.prog O 21 [(.int .i8 (List.getD [x29_0, x29_1, x29_2] n201' 0)), (.int .i64 x202')] h (.int .i64 x203') h204' ∧
  let g205 : Hp := h204'.add (.cells [(.int .i64 x203')] 3 .fix)
  ∃ a206' n207' c208' h209', appendV Tryd.prog g205 32 32 (.slice a8 n8 c8) (.slice (some ⟨h204'.nx, 0, none⟩) 1 1) = some (.slice a206' n207' c208', h209') ∧
  I16_1 O Q v0 x1 b4 f4 b5 f5 a206' n207' c208' a23 n23 c23 x24 x25 x29_0 x29_1 x29_2 (wrapF .i64 (x30 + 1)) h209')
  (vcond (!(ltI (List.getD [x29_0, x29_1, x29_2] n201' 0) 0))
  (∃ x210', readAt h b5 (f5 + 0) 1 = some [(.int .i64 x210')] ∧
  ∃ x211', ∃ h212', EvC Tryd.prog O 21 [(.int .i8 (List.getD [x29_0, x29_1, x29_2] n201' 0)), (.int .i64 x210')] h (.int .i64 x211') h212' ∧
  let g213 : Hp := h212'.add (.cells [(.int .i64 x211')] 3 .fix)
  ∃ a214' n215' c216' h217', appendV Tryd.prog g213 32 32 (.slice a8 n8 c8) (.slice (some ⟨h212'.nx, 0, none⟩) 1 1) = some (.slice a214' n215' c216', h217') ∧
  I16_1 O Q v0 x1 b4 f4 b5 f5 a214' n215' c216' a23 n23 c23 x24 x25 x29_0 x29_1 x29_2 (wrapF .i64 (x30 + 1)) h217')
  (I16_1 O Q v0 x1 b4 f4 b5 f5 a8 n8 c8 a23 n23 c23 x24 x25 x29_0 x29_1 x29_2 (wrapF .i64 (x30 + 1)) h))))
  (let g218 : Hp := h.rsv 8
  ∃ a219' n220' c221', readAt g218 b5 (f5 + 1) 1 = some [(.slice a219' n220' c221')] ∧
  ∃ a222' n223' c224', ∃ h225', EvC Tryd.prog O 19 [(.slice a8 n8 c8)] (g218.grd [b5]) (.slice a222' n223' c224') h225' ∧
  let g226 : Hp := h225'.rst g218
  vreq (g226.free (h.nx + 4))
  (let g227 : Hp := g226.lay (h.nx + 4) (.cells [(.slice a222' n223' c224')] 32 .fix)
  ∃ a228' n229' c230' h231', appendV Tryd.prog (g227.grd []) 28 28 (.slice a219' n220' c221') (.slice (some ⟨(h.nx + 4), 0, none⟩) 1 1) = some (.slice a228' n229' c230', h231') ∧
  let g232 : Hp := h231'.rst g227
  vreq (canW (g232.grd []) b5 (f5 + 1) [(.slice a228' n229' c230')])
  (let g233 : Hp := (g232.grd []).wr b5 (f5 + 1) [(.slice a228' n229' c230')]
  let g234 : Hp := g233.rst g232
  I16_0 O Q v0 x1 b4 f4 b5 f5 a23 n23 c23 x24 (wrapF .i64 (x25 + 1)) g234)))
theorem I16_1.of {O Q} (v0 x1 b4 f4 b5 f5 a8 n8 c8 a23 n23 c23 x24 x25 x29_0 x29_1 x29_2 x30) {h : Hp} (hh : T16_1 O Q v0 x1 b4 f4 b5 f5 a8 n8 c8 a23 n23 c23 x24 x25 x29_0 x29_1 x29_2 x30 h) : I16_1 O Q v0 x1 b4 f4 b5 f5 a8 n8 c8 a23 n23 c23 x24 x25 x29_0 x29_1 x29_2 x30 h :=
  RKL.of (tb := lv16) (cuts := []) 500 fun _ => Eq.mp (by kernel_rfl) hh
/-! sward/swardlaw20.clause -/
noncomputable def b19 : Code := (Tryd.f19.body).getD .skip
noncomputable def stk19_0 : List KI := [.code (sub [1, 1, 0, 1, 0] b19), .blk 0, .code (sub [1, 1, 1] b19)]
def lv19 : List (Nat × List Nat) := [(0, [2, 3, 6, 7, 8])]
def I19_0 (O : CallF) (Q : Value → Hp → Prop) (a0 : Option Addr) (n0 : Nat) (c0 : Nat) (a3 : Option Addr) (n3 : Nat) (c3 : Nat) (x8 : Int) (h : Hp) : Prop := RKL Tryd.prog O Tryd.f19 stk19_0 31 [2, 3, 6, 7, 8] [(.slice none 0 0), (.slice a3 n3 c3), (.slice a0 n0 c0), (.int .i64 (Int.ofNat n0)), (.int .i64 x8)] h Q
def T19 (O : CallF) (Q : Value → Hp → Prop) (a0 : Option Addr) (n0 : Nat) (c0 : Nat) (h : Hp) : Prop :=
  I19_0 O Q a0 n0 c0 none 0 0 0 h
theorem rk19 {O Q} (a0 n0 c0) {h : Hp} (hO : O 19 [(.slice a0 n0 c0)] h = none) (hh : T19 O Q a0 n0 c0 h) : Ret Tryd.prog O 19 [(.slice a0 n0 c0)] h Q :=
  .of (c := b19) Tryd.func19 (by kernel_rfl) hO (V_ok (tb := lv19) (cuts := []) 500 (Eq.mp (by kernel_rfl) hh))
def T19_0 (O : CallF) (Q : Value → Hp → Prop) (a0 : Option Addr) (n0 : Nat) (c0 : Nat) (a3 : Option Addr) (n3 : Nat) (c3 : Nat) (x8 : Int) (h : Hp) : Prop :=
  vcond (ltI x8 (Int.ofNat n0))
  (isNat x8 fun n101' =>
  isAddr a0 fun b102' f103' =>
  vreq (Nat.blt n101' n0)
  (∃ x104', readAt h b102' (f103' + (n101' * 1)) 1 = some [(.int .i64 x104')] ∧
  ∃ q105', ∃ h106', EvC Tryd.prog O 62 [(.slice a3 n3 c3), (.int .i64 x104')] h (.bool q105') h106' ∧
  vcond (!q105')
  (∃ q107', ∃ h108', EvC Tryd.prog O 62 [(.slice a3 n3 c3), (.int .i64 (wrapF .i64 (0 - x104')))] h106' (.bool q107') h108' ∧
  vcond (!q107')
  (let g109 : Hp := h108'.add (.cells [(.int .i64 x104')] 3 .fix)
  ∃ a110' n111' c112' h113', appendV Tryd.prog g109 32 32 (.slice a3 n3 c3) (.slice (some ⟨h108'.nx, 0, none⟩) 1 1) = some (.slice a110' n111' c112', h113') ∧
  I19_0 O Q a0 n0 c0 a110' n111' c112' (wrapF .i64 (x8 + 1)) h113')
  (I19_0 O Q a0 n0 c0 a3 n3 c3 (wrapF .i64 (x8 + 1)) h108'))
  (I19_0 O Q a0 n0 c0 a3 n3 c3 (wrapF .i64 (x8 + 1)) h106')))
  (∃ h114', EvC Tryd.prog O 74 [(.slice a3 n3 c3), (.func (.func 75) #[] #[])] h undef h114' ∧
  Q (.slice a3 n3 c3) h114')
theorem I19_0.of {O Q} (a0 n0 c0 a3 n3 c3 x8) {h : Hp} (hh : T19_0 O Q a0 n0 c0 a3 n3 c3 x8 h) : I19_0 O Q a0 n0 c0 a3 n3 c3 x8 h :=
  RKL.of (tb := lv19) (cuts := []) 500 fun _ => Eq.mp (by kernel_rfl) hh
/-! sward/swardlaw20.literal -/
noncomputable def b21 : Code := (Tryd.f21.body).getD .skip
def lv21 : List (Nat × List Nat) := []
def T21 (O : CallF) (Q : Value → Hp → Prop) (x0 : Int) (x1 : Int) (h : Hp) : Prop :=
  vreq (!(eqI x1 0))
  (vcond (eqI (Int.tmod x0 2) 0)
  (Q (.int .i64 (wrapF .i64 (0 - (wrapF .i64 (1 + (Int.tmod (wrapF .i64 (Int.tdiv (wrapF .i64 ((wrapF .i64 x0) + 128)) 2)) x1)))))) h)
  (Q (.int .i64 (wrapF .i64 (1 + (Int.tmod (wrapF .i64 (Int.tdiv (wrapF .i64 ((wrapF .i64 x0) + 128)) 2)) x1)))) h))
theorem rk21 {O Q} (x0 x1) {h : Hp} (hO : O 21 [(.int .i8 x0), (.int .i64 x1)] h = none) (hh : T21 O Q x0 x1 h) : Ret Tryd.prog O 21 [(.int .i8 x0), (.int .i64 x1)] h Q :=
  .of (c := b21) Tryd.func21 (by kernel_rfl) hO (V_ok (tb := lv21) (cuts := []) 500 (Eq.mp (by kernel_rfl) hh))
/-! sward/swardlaw20.models -/
noncomputable def b54 : Code := (Tryd.f54.body).getD .skip
noncomputable def stk54_0 : List KI := [.code (sub [1, 1, 0, 1, 0] b54), .blk 0, .code (sub [1, 1, 1] b54)]
noncomputable def stk54_1 : List KI := [.code (sub [1, 1, 0, 1, 0, 0, 1, 1, 0, 0, 1, 1, 0, 1, 0] b54), .blk 2, .code (sub [1, 1, 0, 1, 0, 0, 1, 1, 0, 0, 1, 1, 1] b54), .blk 1, .code (sub [1, 1, 0, 1, 0, 0, 1, 1, 1] b54), .code (sub [1, 1, 0, 1, 0] b54), .blk 0, .code (sub [1, 1, 1] b54)]
noncomputable def stk54_2 : List KI := [.code (sub [1, 1, 0, 1, 0, 0, 1, 1, 0, 0, 1, 1, 1, 1, 0, 1, 0] b54), .blk 4, .code (sub [1, 1, 0, 1, 0, 0, 1, 1, 0, 0, 1, 1, 1, 1, 1] b54), .blk 1, .code (sub [1, 1, 0, 1, 0, 0, 1, 1, 1] b54), .code (sub [1, 1, 0, 1, 0] b54), .blk 0, .code (sub [1, 1, 1] b54)]
def lv54 : List (Nat × List Nat) := [(0, [1, 2, 3, 6, 7, 16, 17]), (2, [1, 2, 3, 6, 7, 8, 9, 16, 17, 21, 22]), (4, [1, 2, 3, 6, 7, 9, 11, 16, 17, 42, 43, 44])]
def I54_0 (O : CallF) (Q : Value → Hp → Prop) (x0_0 : Int) (a0_1 : Option Addr) (n0_1 : Nat) (c0_1 : Nat) (a1 : Option Addr) (n1 : Nat) (c1 : Nat) (a2 : Option Addr) (n2 : Nat) (c2 : Nat) (b3 : Nat) (f3 : Nat) (a7 : Option Addr) (n7 : Nat) (c7 : Nat) (x16 : Int) (x17 : Int) (h : Hp) : Prop := RKL Tryd.prog O Tryd.f54 stk54_0 62 [1, 2, 3, 6, 7, 16, 17] [(.slice a1 n1 c1), (.slice a2 n2 c2), (.pointer (some ⟨b3, f3, none⟩)), (.slice none 0 0), (.slice a7 n7 c7), (.int .i64 x16), (.int .i64 x17)] h Q
def I54_1 (O : CallF) (Q : Value → Hp → Prop) (x0_0 : Int) (a0_1 : Option Addr) (n0_1 : Nat) (c0_1 : Nat) (a1 : Option Addr) (n1 : Nat) (c1 : Nat) (a2 : Option Addr) (n2 : Nat) (c2 : Nat) (b3 : Nat) (f3 : Nat) (a7 : Option Addr) (n7 : Nat) (c7 : Nat) (x8 : Int) (b9 : Nat) (f9 : Nat) (x16 : Int) (x17 : Int) (x21 : Int) (x22 : Int) (h : Hp) : Prop := RKL Tryd.prog O Tryd.f54 stk54_1 62 [1, 2, 3, 6, 7, 8, 9, 16, 17, 21, 22] [(.slice a1 n1 c1), (.slice a2 n2 c2), (.pointer (some ⟨b3, f3, none⟩)), (.slice none 0 0), (.slice a7 n7 c7), (.int .i64 x8), (.pointer (some ⟨b9, f9, none⟩)), (.int .i64 x16), (.int .i64 x17), (.int .i64 x21), (.int .i64 x22)] h Q
def I54_2 (O : CallF) (Q : Value → Hp → Prop) (x0_0 : Int) (a0_1 : Option Addr) (n0_1 : Nat) (c0_1 : Nat) (a1 : Option Addr) (n1 : Nat) (c1 : Nat) (a2 : Option Addr) (n2 : Nat) (c2 : Nat) (b3 : Nat) (f3 : Nat) (a7 : Option Addr) (n7 : Nat) (c7 : Nat) (b9 : Nat) (f9 : Nat) (q11 : Bool) (x16 : Int) (x17 : Int) (x44 : Int) (h : Hp) : Prop := RKL Tryd.prog O Tryd.f54 stk54_2 62 [1, 2, 3, 6, 7, 9, 11, 16, 17, 42, 43, 44] [(.slice a1 n1 c1), (.slice a2 n2 c2), (.pointer (some ⟨b3, f3, none⟩)), (.slice none 0 0), (.slice a7 n7 c7), (.pointer (some ⟨b9, f9, none⟩)), (.bool q11), (.int .i64 x16), (.int .i64 x17), (.slice a1 n1 c1), (.int .i64 (Int.ofNat n1)), (.int .i64 x44)] h Q
def T54 (O : CallF) (Q : Value → Hp → Prop) (x0_0 : Int) (a0_1 : Option Addr) (n0_1 : Nat) (c0_1 : Nat) (a1 : Option Addr) (n1 : Nat) (c1 : Nat) (a2 : Option Addr) (n2 : Nat) (c2 : Nat) (h : Hp) : Prop :=
  let g1 : Hp := h.add (.cells [(.int .i64 x0_0), (.slice a0_1 n0_1 c0_1)] 30 .fix)
  ∃ x2', readAt g1 h.nx 0 1 = some [(.int .i64 x2')] ∧
  vreq (le0 x2')
  (I54_0 O Q x0_0 a0_1 n0_1 c0_1 a1 n1 c1 a2 n2 c2 h.nx 0 none 0 0 (shlF .i64 1 (Int.toNat x2')) 0 g1)
theorem rk54 {O Q} (x0_0 a0_1 n0_1 c0_1 a1 n1 c1 a2 n2 c2) {h : Hp} (hO : O 54 [(.agg #[(.int .i64 x0_0), (.slice a0_1 n0_1 c0_1)]), (.slice a1 n1 c1), (.slice a2 n2 c2)] h = none) (hh : T54 O Q x0_0 a0_1 n0_1 c0_1 a1 n1 c1 a2 n2 c2 h) : Ret Tryd.prog O 54 [(.agg #[(.int .i64 x0_0), (.slice a0_1 n0_1 c0_1)]), (.slice a1 n1 c1), (.slice a2 n2 c2)] h Q :=
  .of (c := b54) Tryd.func54 (by kernel_rfl) hO (V_ok (tb := lv54) (cuts := []) 500 (Eq.mp (by kernel_rfl) hh))
def T54_0 (O : CallF) (Q : Value → Hp → Prop) (x0_0 : Int) (a0_1 : Option Addr) (n0_1 : Nat) (c0_1 : Nat) (a1 : Option Addr) (n1 : Nat) (c1 : Nat) (a2 : Option Addr) (n2 : Nat) (c2 : Nat) (b3 : Nat) (f3 : Nat) (a7 : Option Addr) (n7 : Nat) (c7 : Nat) (x16 : Int) (x17 : Int) (h : Hp) : Prop :=
  vcond (ltI x17 x16)
  (let g101 : Hp := h.add (.cells [(.int .i64 0)] 3 .fix)
  vreq (canW g101 h.nx 0 [(.int .i64 0)])
  (let g102 : Hp := g101.wr h.nx 0 [(.int .i64 0)]
  ∃ x103', readAt g102 b3 (f3 + 0) 1 = some [(.int .i64 x103')] ∧
  I54_1 O Q x0_0 a0_1 n0_1 c0_1 a1 n1 c1 a2 n2 c2 b3 f3 a7 n7 c7 x17 h.nx 0 x16 x17 x103' 0 g102))
  (Q (.slice a7 n7 c7) h)
theorem I54_0.of {O Q} (x0_0 a0_1 n0_1 c0_1 a1 n1 c1 a2 n2 c2 b3 f3 a7 n7 c7 x16 x17) {h : Hp} (hh : T54_0 O Q x0_0 a0_1 n0_1 c0_1 a1 n1 c1 a2 n2 c2 b3 f3 a7 n7 c7 x16 x17 h) : I54_0 O Q x0_0 a0_1 n0_1 c0_1 a1 n1 c1 a2 n2 c2 b3 f3 a7 n7 c7 x16 x17 h :=
  RKL.of (tb := lv54) (cuts := []) 500 fun _ => Eq.mp (by kernel_rfl) hh
def T54_1 (O : CallF) (Q : Value → Hp → Prop) (x0_0 : Int) (a0_1 : Option Addr) (n0_1 : Nat) (c0_1 : Nat) (a1 : Option Addr) (n1 : Nat) (c1 : Nat) (a2 : Option Addr) (n2 : Nat) (c2 : Nat) (b3 : Nat) (f3 : Nat) (a7 : Option Addr) (n7 : Nat) (c7 : Nat) (x8 : Int) (b9 : Nat) (f9 : Nat) (x16 : Int) (x17 : Int) (x21 : Int) (x22 : Int) (h : Hp) : Prop :=
  vcond (ltI x22 x21)
  (let g201 : Hp := h.rsv 13
  ∃ x202', readAt g201 b9 f9 1 = some [(.int .i64 x202')] ∧
  ∃ x203', readAt g201 b3 (f3 + 0) 1 = some [(.int .i64 x203')] ∧
  vreq (le0 (wrapF .i64 ((wrapF .i64 (x203' - 1)) - x22)))
  (vreq (inD 9223372036854775808 (shrF .i64 x8 (Int.toNat (wrapF .i64 ((wrapF .i64 (x203' - 1)) - x22)))))
  (vreq (le0 x22)
  (vreq (inD 9223372036854775808 x202')
  (vreq (inD 9223372036854775808 (shlF .i64 (landI (shrF .i64 x8 (Int.toNat (wrapF .i64 ((wrapF .i64 (x203' - 1)) - x22)))) 1) (Int.toNat x22)))
  (vreq (canW (g201.grd []) b9 f9 [(.int .i64 (lorI x202' (shlF .i64 (landI (shrF .i64 x8 (Int.toNat (wrapF .i64 ((wrapF .i64 (x203' - 1)) - x22)))) 1) (Int.toNat x22))))])
  (let g204 : Hp := (g201.grd []).wr b9 f9 [(.int .i64 (lorI x202' (shlF .i64 (landI (shrF .i64 x8 (Int.toNat (wrapF .i64 ((wrapF .i64 (x203' - 1)) - x22)))) 1) (Int.toNat x22))))]
  let g205 : Hp := g204.rst g201
  I54_1 O Q x0_0 a0_1 n0_1 c0_1 a1 n1 c1 a2 n2 c2 b3 f3 a7 n7 c7 x8 b9 f9 x16 x17 x21 (wrapF .i64 (x22 + 1)) g205)))))))
  (∃ q206', ∃ h207', EvC Tryd.prog O 64 [(.slice a2 n2 c2), (.func (.func 111) #[] #[(.pointer (some ⟨b9, f9, none⟩))])] h (.bool q206') h207' ∧
  I54_2 O Q x0_0 a0_1 n0_1 c0_1 a1 n1 c1 a2 n2 c2 b3 f3 a7 n7 c7 b9 f9 (!q206') x16 x17 0 h207')
theorem I54_1.of {O Q} (x0_0 a0_1 n0_1 c0_1 a1 n1 c1 a2 n2 c2 b3 f3 a7 n7 c7 x8 b9 f9 x16 x17 x21 x22) {h : Hp} (hh : T54_1 O Q x0_0 a0_1 n0_1 c0_1 a1 n1 c1 a2 n2 c2 b3 f3 a7 n7 c7 x8 b9 f9 x16 x17 x21 x22 h) : I54_1 O Q x0_0 a0_1 n0_1 c0_1 a1 n1 c1 a2 n2 c2 b3 f3 a7 n7 c7 x8 b9 f9 x16 x17 x21 x22 h :=
  RKL.of (tb := lv54) (cuts := []) 500 fun _ => Eq.mp (by kernel_rfl) hh
def T54_2 (O : CallF) (Q : Value → Hp → Prop) (x0_0 : Int) (a0_1 : Option Addr) (n0_1 : Nat) (c0_1 : Nat) (a1 : Option Addr) (n1 : Nat) (c1 : Nat) (a2 : Option Addr) (n2 : Nat) (c2 : Nat) (b3 : Nat) (f3 : Nat) (a7 : Option Addr) (n7 : Nat) (c7 : Nat) (b9 : Nat) (f9 : Nat) (q11 : Bool) (x16 : Int) (x17 : Int) (x44 : Int) (h : Hp) : Prop :=
  vcond (ltI x44 (Int.ofNat n1))
  (isNat x44 fun n301' =>
  isAddr a1 fun b302' f303' =>
  vreq (Nat.blt n301' n1)
  (∃ a304' n305' c306', readAt h b302' (f303' + (n301' * 1)) 1 = some [(.slice a304' n305' c306')] ∧
  vcond q11
  (∃ q307', ∃ h308', EvC Tryd.prog O 64 [(.slice a304' n305' c306'), (.func (.func 112) #[] #[(.pointer (some ⟨b9, f9, none⟩))])] h (.bool q307') h308' ∧
  I54_2 O Q x0_0 a0_1 n0_1 c0_1 a1 n1 c1 a2 n2 c2 b3 f3 a7 n7 c7 b9 f9 q307' x16 x17 (wrapF .i64 (x44 + 1)) h308')
  (I54_2 O Q x0_0 a0_1 n0_1 c0_1 a1 n1 c1 a2 n2 c2 b3 f3 a7 n7 c7 b9 f9 false x16 x17 (wrapF .i64 (x44 + 1)) h)))
  (vcond q11
  (∃ x309', readAt h b9 f9 1 = some [(.int .i64 x309')] ∧
  let g310 : Hp := h.add (.cells [(.int .i64 x309')] 3 .fix)
  ∃ a311' n312' c313' h314', appendV Tryd.prog g310 32 32 (.slice a7 n7 c7) (.slice (some ⟨h.nx, 0, none⟩) 1 1) = some (.slice a311' n312' c313', h314') ∧
  I54_0 O Q x0_0 a0_1 n0_1 c0_1 a1 n1 c1 a2 n2 c2 b3 f3 a311' n312' c313' x16 (wrapF .i64 (x17 + 1)) h314')
  (I54_0 O Q x0_0 a0_1 n0_1 c0_1 a1 n1 c1 a2 n2 c2 b3 f3 a7 n7 c7 x16 (wrapF .i64 (x17 + 1)) h))
theorem I54_2.of {O Q} (x0_0 a0_1 n0_1 c0_1 a1 n1 c1 a2 n2 c2 b3 f3 a7 n7 c7 b9 f9 q11 x16 x17 x44) {h : Hp} (hh : T54_2 O Q x0_0 a0_1 n0_1 c0_1 a1 n1 c1 a2 n2 c2 b3 f3 a7 n7 c7 b9 f9 q11 x16 x17 x44 h) : I54_2 O Q x0_0 a0_1 n0_1 c0_1 a1 n1 c1 a2 n2 c2 b3 f3 a7 n7 c7 b9 f9 q11 x16 x17 x44 h :=
  RKL.of (tb := lv54) (cuts := []) 500 fun _ => Eq.mp (by kernel_rfl) hh
/-! sward/swardlaw20.follows -/
noncomputable def b57 : Code := (Tryd.f57.body).getD .skip
noncomputable def stk57_0 : List KI := [.code (sub [1, 1, 0, 1, 0] b57), .blk 0, .code (sub [1, 1, 1] b57)]
def lv57 : List (Nat × List Nat) := [(0, [0, 6, 7, 15, 16, 17])]
def I57_0 (O : CallF) (Q : Value → Hp → Prop) (a0 : Option Addr) (n0 : Nat) (c0 : Nat) (a1 : Option Addr) (n1 : Nat) (c1 : Nat) (a2 : Option Addr) (n2 : Nat) (c2 : Nat) (a7 : Option Addr) (n7 : Nat) (c7 : Nat) (x17 : Int) (h : Hp) : Prop := RKL Tryd.prog O Tryd.f57 stk57_0 36 [0, 6, 7, 15, 16, 17] [(.slice a0 n0 c0), (.bool false), (.slice a7 n7 c7), (.slice a2 n2 c2), (.int .i64 (Int.ofNat n2)), (.int .i64 x17)] h Q
def T57 (O : CallF) (Q : Value → Hp → Prop) (a0 : Option Addr) (n0 : Nat) (c0 : Nat) (a1 : Option Addr) (n1 : Nat) (c1 : Nat) (a2 : Option Addr) (n2 : Nat) (c2 : Nat) (h : Hp) : Prop :=
  ∃ a1' n2' c3', ∃ h4', EvC Tryd.prog O 60 [(.slice a1 n1 c1)] h (.slice a1' n2' c3') h4' ∧
  I57_0 O Q a0 n0 c0 a1 n1 c1 a2 n2 c2 a1' n2' c3' 0 h4'
theorem rk57 {O Q} (a0 n0 c0 a1 n1 c1 a2 n2 c2) {h : Hp} (hO : O 57 [(.slice a0 n0 c0), (.slice a1 n1 c1), (.slice a2 n2 c2)] h = none) (hh : T57 O Q a0 n0 c0 a1 n1 c1 a2 n2 c2 h) : Ret Tryd.prog O 57 [(.slice a0 n0 c0), (.slice a1 n1 c1), (.slice a2 n2 c2)] h Q :=
  .of (c := b57) Tryd.func57 (by kernel_rfl) hO (V_ok (tb := lv57) (cuts := []) 500 (Eq.mp (by kernel_rfl) hh))
def T57_0 (O : CallF) (Q : Value → Hp → Prop) (a0 : Option Addr) (n0 : Nat) (c0 : Nat) (a1 : Option Addr) (n1 : Nat) (c1 : Nat) (a2 : Option Addr) (n2 : Nat) (c2 : Nat) (a7 : Option Addr) (n7 : Nat) (c7 : Nat) (x17 : Int) (h : Hp) : Prop :=
  vcond (ltI x17 (Int.ofNat n2))
  (isNat x17 fun n101' =>
  isAddr a2 fun b102' f103' =>
  vreq (Nat.blt n101' n2)
  (∃ x104', readAt h b102' (f103' + (n101' * 1)) 1 = some [(.int .i64 x104')] ∧
  let g105 : Hp := h.add (.cells [(.int .i64 (wrapF .i64 (0 - x104')))] 3 .fix)
  ∃ a106' n107' c108' h109', appendV Tryd.prog g105 32 32 (.slice a7 n7 c7) (.slice (some ⟨h.nx, 0, none⟩) 1 1) = some (.slice a106' n107' c108', h109') ∧
  I57_0 O Q a0 n0 c0 a1 n1 c1 a2 n2 c2 a106' n107' c108' (wrapF .i64 (x17 + 1)) h109'))
  (∃ x110', ∃ x111', ∃ q112', ∃ h113', EvC Tryd.prog O 63 [(.slice a0 n0 c0), (.slice a7 n7 c7)] h (.tuple #[(.int .i64 x110'), (.int .i64 x111'), (.bool q112')]) h113' ∧
  Q (.bool (!q112')) h113')
theorem I57_0.of {O Q} (a0 n0 c0 a1 n1 c1 a2 n2 c2 a7 n7 c7 x17) {h : Hp} (hh : T57_0 O Q a0 n0 c0 a1 n1 c1 a2 n2 c2 a7 n7 c7 x17 h) : I57_0 O Q a0 n0 c0 a1 n1 c1 a2 n2 c2 a7 n7 c7 x17 h :=
  RKL.of (tb := lv57) (cuts := []) 500 fun _ => Eq.mp (by kernel_rfl) hh
/-! slices.Clone[[]int,int] -/
noncomputable def b60 : Code := (Tryd.f60.body).getD .skip
def lv60 : List (Nat × List Nat) := []
def T60 (O : CallF) (Q : Value → Hp → Prop) (a0 : Option Addr) (n0 : Nat) (c0 : Nat) (h : Hp) : Prop :=
  vnil a0
  (Q (.slice none 0 0) h)
  (let g1 : Hp := h.add (.cells [] 3 .fix)
  ∃ a2' n3' c4' h5', appendV Tryd.prog g1 32 32 (.slice (some ⟨h.nx, 0, none⟩) 0 0) (.slice a0 n0 c0) = some (.slice a2' n3' c4', h5') ∧
  Q (.slice a2' n3' c4') h5')
theorem rk60 {O Q} (a0 n0 c0) {h : Hp} (hO : O 60 [(.slice a0 n0 c0)] h = none) (hh : T60 O Q a0 n0 c0 h) : Ret Tryd.prog O 60 [(.slice a0 n0 c0)] h Q :=
  .of (c := b60) Tryd.func60 (by kernel_rfl) hO (V_ok (tb := lv60) (cuts := []) 500 (Eq.mp (by kernel_rfl) hh))
/-! sward/swardlaw20.pushed -/
noncomputable def b63 : Code := (Tryd.f63.body).getD .skip
noncomputable def stk63_0 : List KI := [.code (sub [1, 0, 1, 0] b63), .blk 0, .code (sub [1, 1] b63)]
noncomputable def stk63_1 : List KI := [.code (sub [1, 1, 0] b63), .blk 2]
noncomputable def stk63_2 : List KI := [.code (sub [1, 1, 0, 0, 0, 1, 1, 0, 1, 0] b63), .blk 4, .code (sub [1, 1, 0, 0, 0, 1, 1, 1] b63), .blk 3, .code (sub [1, 1, 0] b63), .blk 2]
noncomputable def stk63_3 : List KI := [.code (sub [1, 1, 0, 0, 0, 1, 1, 0, 1, 0, 0, 1, 1, 0, 0, 1, 1, 0, 1, 0] b63), .blk 6, .code (sub [1, 1, 0, 0, 0, 1, 1, 0, 1, 0, 0, 1, 1, 0, 0, 1, 1, 1] b63), .blk 5, .code (sub [1, 1, 0, 0, 0, 1, 1, 0, 1, 0, 0, 1, 1, 1] b63), .code (sub [1, 1, 0, 0, 0, 1, 1, 0, 1, 0] b63), .blk 4, .code (sub [1, 1, 0, 0, 0, 1, 1, 1] b63), .blk 3, .code (sub [1, 1, 0] b63), .blk 2]
def lv63 : List (Nat × List Nat) := [(0, [0, 4, 5, 6, 17, 18, 19]), (2, [0, 4, 5, 6]), (4, [0, 4, 5, 6, 9, 42, 43, 44]), (6, [0, 4, 5, 6, 9, 12, 13, 42, 43, 44, 48, 49, 50])]
def I63_0 (O : CallF) (Q : Value → Hp → Prop) (a0 : Option Addr) (n0 : Nat) (c0 : Nat) (a1 : Option Addr) (n1 : Nat) (c1 : Nat) (x4 : Int) (x5 : Int) (x19 : Int) (h : Hp) : Prop := RKL Tryd.prog O Tryd.f63 stk63_0 116 [0, 4, 5, 6, 17, 18, 19] [(.slice a0 n0 c0), (.int .i64 x4), (.int .i64 x5), (.bool false), (.slice a1 n1 c1), (.int .i64 (Int.ofNat n1)), (.int .i64 x19)] h Q
def I63_1 (O : CallF) (Q : Value → Hp → Prop) (a0 : Option Addr) (n0 : Nat) (c0 : Nat) (a1 : Option Addr) (n1 : Nat) (c1 : Nat) (x4 : Int) (x5 : Int) (q6 : Bool) (h : Hp) : Prop := RKL Tryd.prog O Tryd.f63 stk63_1 116 [0, 4, 5, 6] [(.slice a0 n0 c0), (.int .i64 x4), (.int .i64 x5), (.bool q6)] h Q
def I63_2 (O : CallF) (Q : Value → Hp → Prop) (a0 : Option Addr) (n0 : Nat) (c0 : Nat) (a1 : Option Addr) (n1 : Nat) (c1 : Nat) (x4 : Int) (x5 : Int) (q6 : Bool) (x9 : Int) (x44 : Int) (h : Hp) : Prop := RKL Tryd.prog O Tryd.f63 stk63_2 116 [0, 4, 5, 6, 9, 42, 43, 44] [(.slice a0 n0 c0), (.int .i64 x4), (.int .i64 x5), (.bool q6), (.int .i64 x9), (.slice a0 n0 c0), (.int .i64 (Int.ofNat n0)), (.int .i64 x44)] h Q
def I63_3 (O : CallF) (Q : Value → Hp → Prop) (a0 : Option Addr) (n0 : Nat) (c0 : Nat) (a1 : Option Addr) (n1 : Nat) (c1 : Nat) (x4 : Int) (x5 : Int) (q6 : Bool) (x9 : Int) (x12 : Int) (q13 : Bool) (x44 : Int) (a48 : Option Addr) (n48 : Nat) (c48 : Nat) (x49 : Int) (x50 : Int) (h : Hp) : Prop := RKL Tryd.prog O Tryd.f63 stk63_3 116 [0, 4, 5, 6, 9, 12, 13, 42, 43, 44, 48, 49, 50] [(.slice a0 n0 c0), (.int .i64 x4), (.int .i64 x5), (.bool q6), (.int .i64 x9), (.int .i64 x12), (.bool q13), (.slice a0 n0 c0), (.int .i64 (Int.ofNat n0)), (.int .i64 x44), (.slice a48 n48 c48), (.int .i64 x49), (.int .i64 x50)] h Q
def T63 (O : CallF) (Q : Value → Hp → Prop) (a0 : Option Addr) (n0 : Nat) (c0 : Nat) (a1 : Option Addr) (n1 : Nat) (c1 : Nat) (h : Hp) : Prop :=
  I63_0 O Q a0 n0 c0 a1 n1 c1 0 0 0 h
theorem rk63 {O Q} (a0 n0 c0 a1 n1 c1) {h : Hp} (hO : O 63 [(.slice a0 n0 c0), (.slice a1 n1 c1)] h = none) (hh : T63 O Q a0 n0 c0 a1 n1 c1 h) : Ret Tryd.prog O 63 [(.slice a0 n0 c0), (.slice a1 n1 c1)] h Q :=
  .of (c := b63) Tryd.func63 (by kernel_rfl) hO (V_ok (tb := lv63) (cuts := []) 500 (Eq.mp (by kernel_rfl) hh))
def T63_0 (O : CallF) (Q : Value → Hp → Prop) (a0 : Option Addr) (n0 : Nat) (c0 : Nat) (a1 : Option Addr) (n1 : Nat) (c1 : Nat) (x4 : Int) (x5 : Int) (x19 : Int) (h : Hp) : Prop :=
  vcond (ltI x19 (Int.ofNat n1))
  (isNat x19 fun n101' =>
  isAddr a1 fun b102' f103' =>
  vreq (Nat.blt n101' n1)
  (∃ x104', readAt h b102' (f103' + (n101' * 1)) 1 = some [(.int .i64 x104')] ∧
  vcond (ltI 0 x104')
  (vreq (le0 x104')
  (vreq (inD 9223372036854775808 x4)
  (vreq (inD 9223372036854775808 (shlF .i64 1 (Int.toNat x104')))
  (I63_0 O Q a0 n0 c0 a1 n1 c1 (lorI x4 (shlF .i64 1 (Int.toNat x104'))) x5 (wrapF .i64 (x19 + 1)) h))))
  (vreq (le0 (wrapF .i64 (0 - x104')))
  (vreq (inD 9223372036854775808 x5)
  (vreq (inD 9223372036854775808 (shlF .i64 1 (Int.toNat (wrapF .i64 (0 - x104')))))
  (I63_0 O Q a0 n0 c0 a1 n1 c1 x4 (lorI x5 (shlF .i64 1 (Int.toNat (wrapF .i64 (0 - x104'))))) (wrapF .i64 (x19 + 1)) h))))))
  (I63_1 O Q a0 n0 c0 a1 n1 c1 x4 x5 false h)
theorem I63_0.of {O Q} (a0 n0 c0 a1 n1 c1 x4 x5 x19) {h : Hp} (hh : T63_0 O Q a0 n0 c0 a1 n1 c1 x4 x5 x19 h) : I63_0 O Q a0 n0 c0 a1 n1 c1 x4 x5 x19 h :=
  RKL.of (tb := lv63) (cuts := []) 500 fun _ => Eq.mp (by kernel_rfl) hh
def T63_1 (O : CallF) (Q : Value → Hp → Prop) (a0 : Option Addr) (n0 : Nat) (c0 : Nat) (a1 : Option Addr) (n1 : Nat) (c1 : Nat) (x4 : Int) (x5 : Int) (q6 : Bool) (h : Hp) : Prop :=
  vreq (inD 9223372036854775808 x4)
  (vreq (inD 9223372036854775808 x5)
  (vcond (!(eqI (landI x4 x5) 0))
  (Q (.tuple #[(.int .i64 0), (.int .i64 0), (.bool false)]) h)
  (vreq (inD 9223372036854775808 x4)
  (vreq (inD 9223372036854775808 x5)
  (I63_2 O Q a0 n0 c0 a1 n1 c1 x4 x5 q6 (lorI x4 x5) 0 h)))))
theorem I63_1.of {O Q} (a0 n0 c0 a1 n1 c1 x4 x5 q6) {h : Hp} (hh : T63_1 O Q a0 n0 c0 a1 n1 c1 x4 x5 q6 h) : I63_1 O Q a0 n0 c0 a1 n1 c1 x4 x5 q6 h :=
  RKL.of (tb := lv63) (cuts := []) 500 fun _ => Eq.mp (by kernel_rfl) hh
def T63_2 (O : CallF) (Q : Value → Hp → Prop) (a0 : Option Addr) (n0 : Nat) (c0 : Nat) (a1 : Option Addr) (n1 : Nat) (c1 : Nat) (x4 : Int) (x5 : Int) (q6 : Bool) (x9 : Int) (x44 : Int) (h : Hp) : Prop :=
  vcond (ltI x44 (Int.ofNat n0))
  (isNat x44 fun n301' =>
  isAddr a0 fun b302' f303' =>
  vreq (Nat.blt n301' n0)
  (∃ a304' n305' c306', readAt h b302' (f303' + (n301' * 1)) 1 = some [(.slice a304' n305' c306')] ∧
  I63_3 O Q a0 n0 c0 a1 n1 c1 x4 x5 q6 x9 0 false x44 a304' n305' c306' (Int.ofNat n305') 0 h))
  (vreq (inD 9223372036854775808 x4)
  (vreq (inD 9223372036854775808 x5)
  (vcond (eqI (lorI x4 x5) x9)
  (Q (.tuple #[(.int .i64 x4), (.int .i64 x5), (.bool true)]) h)
  (I63_1 O Q a0 n0 c0 a1 n1 c1 x4 x5 q6 h))))
theorem I63_2.of {O Q} (a0 n0 c0 a1 n1 c1 x4 x5 q6 x9 x44) {h : Hp} (hh : T63_2 O Q a0 n0 c0 a1 n1 c1 x4 x5 q6 x9 x44 h) : I63_2 O Q a0 n0 c0 a1 n1 c1 x4 x5 q6 x9 x44 h :=
  RKL.of (tb := lv63) (cuts := []) 500 fun _ => Eq.mp (by kernel_rfl) hh
def T63_3 (O : CallF) (Q : Value → Hp → Prop) (a0 : Option Addr) (n0 : Nat) (c0 : Nat) (a1 : Option Addr) (n1 : Nat) (c1 : Nat) (x4 : Int) (x5 : Int) (q6 : Bool) (x9 : Int) (x12 : Int) (q13 : Bool) (x44 : Int) (a48 : Option Addr) (n48 : Nat) (c48 : Nat) (x49 : Int) (x50 : Int) (h : Hp) : Prop :=
  vcond (ltI x50 x49)
  (isNat x50 fun n401' =>
  isAddr a48 fun b402' f403' =>
  vreq (Nat.blt n401' n48)
  (∃ x404', readAt h b402' (f403' + (n401' * 1)) 1 = some [(.int .i64 x404')] ∧
  vcond (ltI 0 x404')
  (vreq (le0 (maxI x404' (wrapF .i64 (0 - x404'))))
  (vreq (inD 9223372036854775808 (shrF .i64 x4 (Int.toNat (maxI x404' (wrapF .i64 (0 - x404'))))))
  (vcond (eqI (landI (shrF .i64 x4 (Int.toNat (maxI x404' (wrapF .i64 (0 - x404'))))) 1) 1)
  (I63_3 O Q a0 n0 c0 a1 n1 c1 x4 x5 q6 x9 x12 true x44 a48 n48 c48 x49 (wrapF .i64 (x50 + 1)) h)
  (vcond (ltI x404' 0)
  (vreq (le0 (maxI x404' (wrapF .i64 (0 - x404'))))
  (vreq (inD 9223372036854775808 (shrF .i64 x5 (Int.toNat (maxI x404' (wrapF .i64 (0 - x404'))))))
  (vcond (eqI (landI (shrF .i64 x5 (Int.toNat (maxI x404' (wrapF .i64 (0 - x404'))))) 1) 1)
  (I63_3 O Q a0 n0 c0 a1 n1 c1 x4 x5 q6 x9 x12 true x44 a48 n48 c48 x49 (wrapF .i64 (x50 + 1)) h)
  (vreq (inD 9223372036854775808 x4)
  (vreq (inD 9223372036854775808 x5)
  (vreq (le0 (maxI x404' (wrapF .i64 (0 - x404'))))
  (vreq (inD 9223372036854775808 (shrF .i64 (lorI x4 x5) (Int.toNat (maxI x404' (wrapF .i64 (0 - x404'))))))
  (vcond (eqI (landI (shrF .i64 (lorI x4 x5) (Int.toNat (maxI x404' (wrapF .i64 (0 - x404'))))) 1) 0)
  (vcond (!(eqI x12 0))
  (I63_3 O Q a0 n0 c0 a1 n1 c1 x4 x5 q6 x9 x404' true x44 a48 n48 c48 x49 (wrapF .i64 (x50 + 1)) h)
  (I63_3 O Q a0 n0 c0 a1 n1 c1 x4 x5 q6 x9 x404' q13 x44 a48 n48 c48 x49 (wrapF .i64 (x50 + 1)) h))
  (I63_3 O Q a0 n0 c0 a1 n1 c1 x4 x5 q6 x9 x12 q13 x44 a48 n48 c48 x49 (wrapF .i64 (x50 + 1)) h)))))))))
  (vreq (inD 9223372036854775808 x4)
  (vreq (inD 9223372036854775808 x5)
  (vreq (le0 (maxI x404' (wrapF .i64 (0 - x404'))))
  (vreq (inD 9223372036854775808 (shrF .i64 (lorI x4 x5) (Int.toNat (maxI x404' (wrapF .i64 (0 - x404'))))))
  (vcond (eqI (landI (shrF .i64 (lorI x4 x5) (Int.toNat (maxI x404' (wrapF .i64 (0 - x404'))))) 1) 0)
  (vcond (!(eqI x12 0))
  (I63_3 O Q a0 n0 c0 a1 n1 c1 x4 x5 q6 x9 x404' true x44 a48 n48 c48 x49 (wrapF .i64 (x50 + 1)) h)
  (I63_3 O Q a0 n0 c0 a1 n1 c1 x4 x5 q6 x9 x404' q13 x44 a48 n48 c48 x49 (wrapF .i64 (x50 + 1)) h))
  (I63_3 O Q a0 n0 c0 a1 n1 c1 x4 x5 q6 x9 x12 q13 x44 a48 n48 c48 x49 (wrapF .i64 (x50 + 1)) h))))))))))
  (vcond (ltI x404' 0)
  (vreq (le0 (maxI x404' (wrapF .i64 (0 - x404'))))
  (vreq (inD 9223372036854775808 (shrF .i64 x5 (Int.toNat (maxI x404' (wrapF .i64 (0 - x404'))))))
  (vcond (eqI (landI (shrF .i64 x5 (Int.toNat (maxI x404' (wrapF .i64 (0 - x404'))))) 1) 1)
  (I63_3 O Q a0 n0 c0 a1 n1 c1 x4 x5 q6 x9 x12 true x44 a48 n48 c48 x49 (wrapF .i64 (x50 + 1)) h)
  (vreq (inD 9223372036854775808 x4)
  (vreq (inD 9223372036854775808 x5)
  (vreq (le0 (maxI x404' (wrapF .i64 (0 - x404'))))
  (vreq (inD 9223372036854775808 (shrF .i64 (lorI x4 x5) (Int.toNat (maxI x404' (wrapF .i64 (0 - x404'))))))
  (vcond (eqI (landI (shrF .i64 (lorI x4 x5) (Int.toNat (maxI x404' (wrapF .i64 (0 - x404'))))) 1) 0)
  (vcond (!(eqI x12 0))
  (I63_3 O Q a0 n0 c0 a1 n1 c1 x4 x5 q6 x9 x404' true x44 a48 n48 c48 x49 (wrapF .i64 (x50 + 1)) h)
  (I63_3 O Q a0 n0 c0 a1 n1 c1 x4 x5 q6 x9 x404' q13 x44 a48 n48 c48 x49 (wrapF .i64 (x50 + 1)) h))
  (I63_3 O Q a0 n0 c0 a1 n1 c1 x4 x5 q6 x9 x12 q13 x44 a48 n48 c48 x49 (wrapF .i64 (x50 + 1)) h)))))))))
  (vreq (inD 9223372036854775808 x4)
  (vreq (inD 9223372036854775808 x5)
  (vreq (le0 (maxI x404' (wrapF .i64 (0 - x404'))))
  (vreq (inD 9223372036854775808 (shrF .i64 (lorI x4 x5) (Int.toNat (maxI x404' (wrapF .i64 (0 - x404'))))))
  (vcond (eqI (landI (shrF .i64 (lorI x4 x5) (Int.toNat (maxI x404' (wrapF .i64 (0 - x404'))))) 1) 0)
  (vcond (!(eqI x12 0))
  (I63_3 O Q a0 n0 c0 a1 n1 c1 x4 x5 q6 x9 x404' true x44 a48 n48 c48 x49 (wrapF .i64 (x50 + 1)) h)
  (I63_3 O Q a0 n0 c0 a1 n1 c1 x4 x5 q6 x9 x404' q13 x44 a48 n48 c48 x49 (wrapF .i64 (x50 + 1)) h))
  (I63_3 O Q a0 n0 c0 a1 n1 c1 x4 x5 q6 x9 x12 q13 x44 a48 n48 c48 x49 (wrapF .i64 (x50 + 1)) h)))))))))
  (vcond q13
  (I63_2 O Q a0 n0 c0 a1 n1 c1 x4 x5 q6 x9 (wrapF .i64 (x44 + 1)) h)
  (vcond (ltI 0 x12)
  (vreq (le0 x12)
  (vreq (inD 9223372036854775808 x4)
  (vreq (inD 9223372036854775808 (shlF .i64 1 (Int.toNat x12)))
  (I63_2 O Q a0 n0 c0 a1 n1 c1 (lorI x4 (shlF .i64 1 (Int.toNat x12))) x5 q6 x9 (wrapF .i64 (x44 + 1)) h))))
  (vcond (ltI x12 0)
  (vreq (le0 (wrapF .i64 (0 - x12)))
  (vreq (inD 9223372036854775808 x5)
  (vreq (inD 9223372036854775808 (shlF .i64 1 (Int.toNat (wrapF .i64 (0 - x12)))))
  (I63_2 O Q a0 n0 c0 a1 n1 c1 x4 (lorI x5 (shlF .i64 1 (Int.toNat (wrapF .i64 (0 - x12))))) q6 x9 (wrapF .i64 (x44 + 1)) h))))
  (Q (.tuple #[(.int .i64 0), (.int .i64 0), (.bool false)]) h))))
theorem I63_3.of {O Q} (a0 n0 c0 a1 n1 c1 x4 x5 q6 x9 x12 q13 x44 a48 n48 c48 x49 x50) {h : Hp} (hh : T63_3 O Q a0 n0 c0 a1 n1 c1 x4 x5 q6 x9 x12 q13 x44 a48 n48 c48 x49 x50 h) : I63_3 O Q a0 n0 c0 a1 n1 c1 x4 x5 q6 x9 x12 q13 x44 a48 n48 c48 x49 x50 h :=
  RKL.of (tb := lv63) (cuts := []) 500 fun _ => Eq.mp (by kernel_rfl) hh
/-! slices.ContainsFunc[[]int,int] -/
noncomputable def b64 : Code := (Tryd.f64.body).getD .skip
def lv64 : List (Nat × List Nat) := []
def T64 (O : CallF) (Q : Value → Hp → Prop) (a0 : Option Addr) (n0 : Nat) (c0 : Nat) (g1 : Nat) (fi1 : Array Value) (ca1 : Array Value) (h : Hp) : Prop :=
  ∃ x1', ∃ h2', EvC Tryd.prog O 113 [(.slice a0 n0 c0), (.func (.func g1) fi1 ca1)] h (.int .i64 x1') h2' ∧
  Q (.bool (!(ltI x1' 0))) h2'
theorem rk64 {O Q} (a0 n0 c0 g1 fi1 ca1) {h : Hp} (hO : O 64 [(.slice a0 n0 c0), (.func (.func g1) fi1 ca1)] h = none) (hh : T64 O Q a0 n0 c0 g1 fi1 ca1 h) : Ret Tryd.prog O 64 [(.slice a0 n0 c0), (.func (.func g1) fi1 ca1)] h Q :=
  .of (c := b64) Tryd.func64 (by kernel_rfl) hO (V_ok (tb := lv64) (cuts := []) 500 (Eq.mp (by kernel_rfl) hh))
/-! sward/swardlaw20.is -/
noncomputable def b66 : Code := (Tryd.f66.body).getD .skip
def lv66 : List (Nat × List Nat) := []
def T66 (O : CallF) (Q : Value → Hp → Prop) (x0 : Int) (x1 : Int) (h : Hp) : Prop :=
  vcond (ltI x1 0)
  (vreq (le0 (wrapF .i64 ((wrapF .i64 (0 - x1)) - 1)))
  (vreq (inD 9223372036854775808 (shrF .i64 x0 (Int.toNat (wrapF .i64 ((wrapF .i64 (0 - x1)) - 1)))))
  (Q (.bool (eqI (landI (shrF .i64 x0 (Int.toNat (wrapF .i64 ((wrapF .i64 (0 - x1)) - 1)))) 1) 0)) h)))
  (vreq (le0 (wrapF .i64 (x1 - 1)))
  (vreq (inD 9223372036854775808 (shrF .i64 x0 (Int.toNat (wrapF .i64 (x1 - 1)))))
  (Q (.bool (eqI (landI (shrF .i64 x0 (Int.toNat (wrapF .i64 (x1 - 1)))) 1) 1)) h)))
theorem rk66 {O Q} (x0 x1) {h : Hp} (hO : O 66 [(.int .i64 x0), (.int .i64 x1)] h = none) (hh : T66 O Q x0 x1 h) : Ret Tryd.prog O 66 [(.int .i64 x0), (.int .i64 x1)] h Q :=
  .of (c := b66) Tryd.func66 (by kernel_rfl) hO (V_ok (tb := lv66) (cuts := []) 500 (Eq.mp (by kernel_rfl) hh))
/-! sward/swardlaw20.clause$1 -/
noncomputable def b75 : Code := (Tryd.f75.body).getD .skip
def lv75 : List (Nat × List Nat) := []
def T75 (O : CallF) (Q : Value → Hp → Prop) (x0 : Int) (x1 : Int) (h : Hp) : Prop :=
  Q (.int .i64 (wrapF .i64 ((maxI x0 (wrapF .i64 (0 - x0))) - (maxI x1 (wrapF .i64 (0 - x1)))))) h
theorem rk75 {O Q} (x0 x1) {h : Hp} (hO : O 75 [(.int .i64 x0), (.int .i64 x1)] h = none) (hh : T75 O Q x0 x1 h) : Ret Tryd.prog O 75 [(.int .i64 x0), (.int .i64 x1)] h Q :=
  .of (c := b75) Tryd.func75 (by kernel_rfl) hO (V_ok (tb := lv75) (cuts := []) 500 (Eq.mp (by kernel_rfl) hh))
/-! sward/swardlaw20.models$1 -/
noncomputable def b111 : Code := (Tryd.f111.body).getD .skip
def lv111 : List (Nat × List Nat) := []
def T111 (O : CallF) (Q : Value → Hp → Prop) (x0 : Int) (b1 : Nat) (f1 : Nat) (h : Hp) : Prop :=
  ∃ x1', readAt h b1 f1 1 = some [(.int .i64 x1')] ∧
  ∃ q2', ∃ h3', EvC Tryd.prog O 66 [(.int .i64 x1'), (.int .i64 x0)] h (.bool q2') h3' ∧
  Q (.bool (!q2')) h3'
theorem rk111 {O Q} (x0 b1 f1) {h : Hp} (hO : O 111 [(.int .i64 x0), (.pointer (some ⟨b1, f1, none⟩))] h = none) (hh : T111 O Q x0 b1 f1 h) : Ret Tryd.prog O 111 [(.int .i64 x0), (.pointer (some ⟨b1, f1, none⟩))] h Q :=
  .of (c := b111) Tryd.func111 (by kernel_rfl) hO (V_ok (tb := lv111) (cuts := []) 500 (Eq.mp (by kernel_rfl) hh))
/-! sward/swardlaw20.models$2 -/
noncomputable def b112 : Code := (Tryd.f112.body).getD .skip
def lv112 : List (Nat × List Nat) := []
def T112 (O : CallF) (Q : Value → Hp → Prop) (x0 : Int) (b1 : Nat) (f1 : Nat) (h : Hp) : Prop :=
  ∃ x1', readAt h b1 f1 1 = some [(.int .i64 x1')] ∧
  ∃ q2', ∃ h3', EvC Tryd.prog O 66 [(.int .i64 x1'), (.int .i64 x0)] h (.bool q2') h3' ∧
  Q (.bool q2') h3'
theorem rk112 {O Q} (x0 b1 f1) {h : Hp} (hO : O 112 [(.int .i64 x0), (.pointer (some ⟨b1, f1, none⟩))] h = none) (hh : T112 O Q x0 b1 f1 h) : Ret Tryd.prog O 112 [(.int .i64 x0), (.pointer (some ⟨b1, f1, none⟩))] h Q :=
  .of (c := b112) Tryd.func112 (by kernel_rfl) hO (V_ok (tb := lv112) (cuts := []) 500 (Eq.mp (by kernel_rfl) hh))
/-! slices.IndexFunc[[]int,int] -/
noncomputable def b113 : Code := (Tryd.f113.body).getD .skip
noncomputable def stk113_0 : List KI := [.code (sub [1, 0, 1, 0] b113), .blk 0, .code (sub [1, 1] b113)]
def lv113 : List (Nat × List Nat) := [(0, [0, 1, 4, 7, 8])]
def I113_0 (O : CallF) (Q : Value → Hp → Prop) (a0 : Option Addr) (n0 : Nat) (c0 : Nat) (g1 : Nat) (fi1 : Array Value) (ca1 : Array Value) (g1s : Nat) (fi1s : Array Value) (ca1s : Array Value) (x4 : Int) (x8 : Int) (h : Hp) : Prop := RKL Tryd.prog O Tryd.f113 stk113_0 19 [0, 1, 4, 7, 8] [(.slice a0 n0 c0), (.func (.func g1s) fi1s ca1s), (.int .i64 x4), (.int .i64 (Int.ofNat n0)), (.int .i64 x8)] h Q
def T113 (O : CallF) (Q : Value → Hp → Prop) (a0 : Option Addr) (n0 : Nat) (c0 : Nat) (g1 : Nat) (fi1 : Array Value) (ca1 : Array Value) (h : Hp) : Prop :=
  I113_0 O Q a0 n0 c0 g1 fi1 ca1 g1 fi1 ca1 0 0 h
theorem rk113 {O Q} (a0 n0 c0 g1 fi1 ca1) {h : Hp} (hO : O 113 [(.slice a0 n0 c0), (.func (.func g1) fi1 ca1)] h = none) (hh : T113 O Q a0 n0 c0 g1 fi1 ca1 h) : Ret Tryd.prog O 113 [(.slice a0 n0 c0), (.func (.func g1) fi1 ca1)] h Q :=
  .of (c := b113) Tryd.func113 (by kernel_rfl) hO (V_ok (tb := lv113) (cuts := []) 500 (Eq.mp (by kernel_rfl) hh))
def T113_0 (O : CallF) (Q : Value → Hp → Prop) (a0 : Option Addr) (n0 : Nat) (c0 : Nat) (g1 : Nat) (fi1 : Array Value) (ca1 : Array Value) (g1s : Nat) (fi1s : Array Value) (ca1s : Array Value) (x4 : Int) (x8 : Int) (h : Hp) : Prop :=
  vcond (ltI x8 (Int.ofNat n0))
  (isNat x8 fun n101' =>
  isAddr a0 fun b102' f103' =>
  vreq (Nat.blt n101' n0)
  (∃ x104', readAt h b102' (f103' + (n101' * 1)) 1 = some [(.int .i64 x104')] ∧
  ∃ q105', ∃ h106', EvC Tryd.prog O g1s (fi1s.toList ++ [(.int .i64 x104')] ++ ca1s.toList) h (.bool q105') h106' ∧
  vcond q105'
  (Q (.int .i64 x8) h106')
  (I113_0 O Q a0 n0 c0 g1 fi1 ca1 g1s fi1s ca1s x4 (wrapF .i64 (x8 + 1)) h106')))
  (Q (.int .i64 (-1)) h)
theorem I113_0.of {O Q} (a0 n0 c0 g1 fi1 ca1 g1s fi1s ca1s x4 x8) {h : Hp} (hh : T113_0 O Q a0 n0 c0 g1 fi1 ca1 g1s fi1s ca1s x4 x8 h) : I113_0 O Q a0 n0 c0 g1 fi1 ca1 g1s fi1s ca1s x4 x8 h :=
  RKL.of (tb := lv113) (cuts := []) 500 fun _ => Eq.mp (by kernel_rfl) hh
end Go.Proofs.YtfgfhplgnfbaaaaDoor
/- Contracts of layer 20: sorting of few numbers; literals by numbers, clauses of them. -/
namespace Go.Proofs.YtfgfhplgnfbaaaaDoor
open Go Go.Ev
/-- All but one object is as it was. -/
structure Kx (b : Nat) (h h' : Hp) : Prop where
  get : ∀ o, o < h.nx → o ≠ b → h'.get o = h.get o
  nx : h.nx ≤ h'.nx
  gd : h'.gd = h.gd
  fr : h.Fresh → h'.Fresh
theorem Kx.refl (b : Nat) (h : Hp) : Kx b h h := ⟨fun _ _ _ => rfl, Nat.le_refl _, rfl, id⟩
theorem Kx.rsv {b : Nat} {g h : Hp} (k : Kx b g h) (n : Nat) : Kx b g (h.rsv n) := ⟨k.get, by rw [nx_rsv]; have := k.nx; omega, k.gd, fun f o ho => k.fr f o (by rw [nx_rsv] at ho; omega)⟩
theorem Kx.wr {b : Nat} {g h : Hp} (k : Kx b g h) (off : Nat) (vs : List Value) : Kx b g (h.wr b off vs) := ⟨fun o h1 h2 => by rw [wr_get_ne _ _ _ _ h2]; exact k.get o h1 h2, by rw [nx_wr]; exact k.nx, by rw [gd_wr]; exact k.gd, fun f => (k.fr f).wr b off vs⟩
theorem Kx.trans {b : Nat} {g h h' : Hp} (k : Kx b g h) (k2 : Kx b h h') : Kx b g h' := ⟨fun o h1 h2 => (k2.get o (by have := k.nx; omega) h2).trans (k.get o h1 h2), Nat.le_trans k.nx k2.nx, k2.gd.trans k.gd, fun f => k2.fr (k.fr f)⟩
theorem Kx.kp {b n : Nat} {h h' : Hp} (k : Kx b h h') (hb : n ≤ b) (hn : n ≤ h.nx) : Kp n h h' := ⟨fun o ho => k.get o (by omega) (by omega), k.nx, k.gd, k.fr⟩
theorem Kx.rst {b : Nat} {g h h' : Hp} (k : Kx b g h) (e : h'.gd = g.gd) : Kx b g (h.rst h') := ⟨k.get, k.nx, e, k.fr⟩
theorem Kx.grd {b : Nat} {g h : Hp} (k : Kx b g h) : Kx b g (h.grd []) := ⟨k.get, k.nx, k.gd, k.fr⟩
/-- A row of whole numbers that may be written. -/
structure RowAt (b : Nat) (e : TypeId) (m : Md) (h : Hp) (l : List Int) : Prop where
  lt : b < h.nx
  get : h.get b = some (.cells (l.map (Value.int .i64)) e m)
theorem RowAt.rd {b : Nat} {e : TypeId} {m : Md} {h : Hp} {l : List Int} (R : RowAt b e m h l) {k : Nat} (hk : k < l.length) {off : Nat} (ho : off = k) : readAt h b off 1 = some [.int .i64 l[k]] :=
  read1 R.get (by subst ho; simp [hk])
theorem RowAt.ints {b : Nat} {e : TypeId} {m : Md} {h : Hp} {l : List Int} (R : RowAt b e m h l) : IntsAt h (some ⟨b, 0, none⟩) l.length l :=
  ⟨rfl, .inr ⟨b, 0, _, _, _, rfl, R.lt, R.get, by simp, fun i hi => by
    show ((l.map (Value.int .i64)).drop (0 + i * 1)).take 1 = [.int .i64 l[i]]
    rw [Nat.zero_add, Nat.mul_one, List.drop_eq_getElem_cons (by simpa using hi)]
    simp⟩⟩
theorem RowAt.wr {b : Nat} {e : TypeId} {m : Md} {h : Hp} {l : List Int} (R : RowAt b e m h l) (hm : m ≠ .ro) (hg : h.guarded b = false) {k : Nat} (hk : k < l.length) {off : Nat} (ho : off = k) (x : Int) : canW h b off [.int .i64 x] = true ∧ RowAt b e m (h.wr b off [.int .i64 x]) (l.set k x) := by
  subst ho
  refine ⟨canW_t R.get hm hg (by simp; omega) rfl, by rw [nx_wr]; exact R.lt, ?_⟩
  rw [wr_get R.get hm hg (by simp; omega) rfl, putAt_set hk]
/-- A comparison by a key. -/
def CmpOk (O : CallF) (g : Nat) (key : Int → Int) (D : Int → Prop) : Prop := ∀ x y h, D x → D y → EvT O g [.int .i64 x, .int .i64 y] h (.int .i64 (key x - key y)) h
section
variable {O : CallF} {g : Nat} {key : Int → Int} {D : Int → Prop} (hO : Oth O) (C : CmpOk O g key D)
include hO C
/-- Of the first elements all but one stand in order. -/
def Near (key : Int → Int) (l : List Int) (k j : Nat) : Prop := ∀ i i', i < i' → i' ≤ k → i' ≠ j → key (l.getD i 0) ≤ key (l.getD i' 0)
omit hO C in
theorem swp {l : List Int} {j : Nat} (hj : j + 1 < l.length) {x y : Int} (p : Nat) : ((l.set (j + 1) y).set j x).getD p 0 = if p = j then x else if p = j + 1 then y else l.getD p 0 := by
  simp only [List.getD_eq_getElem?_getD, List.getElem?_set, List.length_set]
  by_cases c : p = j
  · subst c; rw [if_pos rfl, if_pos (by omega), if_pos rfl]; rfl
  · rw [if_neg (by omega), if_neg c]
    by_cases c2 : p = j + 1
    · subst c2; rw [if_pos rfl, if_pos hj, if_pos rfl]; rfl
    · rw [if_neg (by omega), if_neg c2]
theorem lp127g_1 {b : Nat} {e : TypeId} {m : Md} (hm : m ≠ .ro) {h₀ : Hp} (hg : ∀ q ∈ h₀.gd, q ≠ b) {N c k : Nat} {l₀ : List Int} (hN : N < 1000000) (hk : k < N) (hD : ∀ x ∈ l₀, D x) {Q : Value → Hp → Prop}
    (next : ∀ l h, l.Perm l₀ → l.length = N → Near key l k (k + 1) → RowAt b e m h l → Kx b h₀ h → I127_0 O Q (some ⟨b, 0, none⟩) N c 0 (Int.ofNat N) g #[] #[] g #[] #[] (Int.ofNat (k + 1)) h) :
    ∀ (j : Nat), j ≤ k → ∀ {l : List Int} {h : Hp}, l.Perm l₀ → l.length = N → Near key l k j → RowAt b e m h l → Kx b h₀ h →
      I127_1 O Q (some ⟨b, 0, none⟩) N c 0 (Int.ofNat N) g #[] #[] g #[] #[] (Int.ofNat k) (Int.ofNat j) h := by
  have _ := hO
  intro j
  induction j with
  | zero =>
    intro hj l h hp hl hs R K
    refine I127_1.of _ _ _ _ _ _ _ _ _ _ _ _ _ ?_
    unfold T127_1
    rw [wrap_succ (by omega)]
    refine vcond_f (by rfl) (next l _ hp hl ?_ ⟨Nat.lt_of_lt_of_le R.lt (Nat.le_add_right ..), R.get⟩ (K.rsv 17))
    intro i i' h1 h2 _
    exact hs i i' h1 h2 (by omega)
  | succ j ih =>
    intro hj l h hp hl hs R K
    refine I127_1.of _ _ _ _ _ _ _ _ _ _ _ _ _ ?_
    unfold T127_1
    have e1 : wrapF .i64 (Int.ofNat (j + 1) - 1) = Int.ofNat j := by rw [wrap64] <;> simp only [Int.ofNat_eq_natCast] <;> omega
    rw [e1, wrap_succ (by omega)]
    have R1 : RowAt b e m (h.rsv 17) l := ⟨by rw [nx_rsv]; have := R.lt; omega, R.get⟩
    have hj1 : j + 1 < l.length := by omega
    have hj0 : j < l.length := by omega
    have hDx : D l[j + 1] := hD _ (hp.subset (List.getElem_mem _))
    have hDy : D l[j] := hD _ (hp.subset (List.getElem_mem _))
    refine vcond_t (by rfl) (isNat_of (show isAddr (some ⟨b, 0, none⟩) _ from vreq_t (blt_t (by omega)) ⟨_, R1.rd hj1 (by omega), ?_⟩))
    refine isNat_of (show isAddr (some ⟨b, 0, none⟩) _ from vreq_t (blt_t (by omega)) ⟨_, R1.rd hj0 (by omega), _, _, C _ _ _ hDx hDy, ?_⟩)
    have gd (k : Nat) (x : List Int) : x.getD k 0 = (x[k]?).getD 0 := List.getD_eq_getElem?_getD ..
    refine vcond_split (fun hlt => ?_) fun hlt => ?_
    · have hlt := lt_of_t hlt
      have R2 : RowAt b e m (((((h.rsv 17).grd []).rst (h.rsv 17)).rsv 18).grd []) l := ⟨by rw [nx_grd, nx_rsv]; have := R1.lt; exact Nat.lt_of_lt_of_le this (Nat.le_add_right ..), R.get⟩
      have gu : ∀ {h' : Hp}, h'.gd = h₀.gd → h'.guarded b = false := fun e => guarded_of fun q hq => by rw [e] at hq; exact hg q hq
      have g2 : (((((h.rsv 17).grd []).rst (h.rsv 17)).rsv 18).grd []).gd = h₀.gd := K.gd
      obtain ⟨w1, R3⟩ := R2.wr hm (gu g2) (k := j + 1) (off := 0 + (j + 1) * 1) hj1 (by omega) l[j]
      obtain ⟨w2, R4⟩ := RowAt.wr (h := (((((((h.rsv 17).grd []).rst (h.rsv 17)).rsv 18).grd []).wr b (0 + (j + 1) * 1) [.int .i64 l[j]]).rst ((((h.rsv 17).grd []).rst (h.rsv 17)).rsv 18)).grd []) ⟨R3.lt, R3.get⟩ hm (gu K.gd) (k := j) (off := 0 + j * 1) (by simp; omega) (by omega) l[j + 1]
      refine isNat_of (show isAddr (some ⟨b, 0, none⟩) _ from vreq_t (blt_t (by omega)) ⟨_, R2.rd hj0 (by omega), ?_⟩)
      refine isNat_of (show isAddr (some ⟨b, 0, none⟩) _ from vreq_t (blt_t (by omega)) ⟨_, R2.rd hj1 (by omega), ?_⟩)
      refine isNat_of (show isAddr (some ⟨b, 0, none⟩) _ from vreq_t (blt_t (by omega)) (vreq_t w1 ?_))
      refine isNat_of (show isAddr (some ⟨b, 0, none⟩) _ from vreq_t (blt_t (by omega)) (vreq_t w2 ?_))
      have sw : ((l.set (j + 1) l[j]).set j l[j + 1]).Perm l₀ := by
        refine List.Perm.trans ?_ hp
        exact List.set_set_perm hj1 hj0
      refine ih (by omega) (l := (l.set (j + 1) l[j]).set j l[j + 1]) sw (by simpa using hl) ?_ ⟨R4.lt, R4.get⟩ ?_
      · intro i i' h1 h2 h3
        rw [swp hj1, swp hj1]
        have q0 : l.getD j 0 = l[j] := by simp [List.getD_eq_getElem?_getD, List.getElem?_eq_getElem hj0]
        have q1 : l.getD (j + 1) 0 = l[j + 1] := by simp [List.getD_eq_getElem?_getD, List.getElem?_eq_getElem hj1]
        rw [if_neg h3]
        by_cases c2 : i' = j + 1
        · rw [if_pos c2]
          by_cases c3 : i = j
          · rw [if_pos c3]; omega
          · rw [if_neg c3, if_neg (by omega), ← q0]
            exact hs i j (by omega) (by omega) (by omega)
        · rw [if_neg c2]
          by_cases c3 : i = j
          · rw [if_pos c3, ← q1]
            exact hs (j + 1) i' (by omega) h2 (by omega)
          · rw [if_neg c3]
            by_cases c4 : i = j + 1
            · rw [if_pos c4, ← q0]
              exact hs j i' (by omega) h2 (by omega)
            · rw [if_neg c4]
              exact hs i i' h1 h2 (by omega)
      · have K1 : Kx b h₀ (((((h.rsv 17).grd []).rst (h.rsv 17)).rsv 18).grd []) := (((K.rsv 17).grd.rst K.gd).rsv 18).grd
        exact (((K1.wr _ _).rst K.gd).grd.wr _ _).rst K.gd
    · have hlt := not_lt_of_f hlt
      refine next l _ hp hl ?_ ⟨R1.lt, R1.get⟩ ⟨(K.rsv 17).get, (K.rsv 17).nx, K.gd, (K.rsv 17).fr⟩
      intro i i' h1 h2 _
      by_cases c : i' = j + 1
      · subst c
        have h5 : key (l.getD j 0) ≤ key (l.getD (j + 1) 0) := by
          simp only [gd]
          rw [List.getElem?_eq_getElem hj0, List.getElem?_eq_getElem hj1]
          simp only [Option.getD_some]; omega
        by_cases c2 : i = j
        · subst c2; exact h5
        · exact Int.le_trans (hs i j (by omega) (by omega) (by omega)) h5
      · exact hs i i' h1 h2 c
theorem lp127g_0 {b : Nat} {e : TypeId} {m : Md} (hm : m ≠ .ro) {h₀ : Hp} (hg : ∀ q ∈ h₀.gd, q ≠ b) {N c : Nat} {l₀ : List Int} (hN : N < 1000000) (hD : ∀ x ∈ l₀, D x) :
    ∀ (d k : Nat), k + d = N → ∀ {l : List Int} {h : Hp}, l.Perm l₀ → l.length = N → Near key l (k - 1) (k + 1) → RowAt b e m h l → Kx b h₀ h →
      I127_0 O (fun v h' => v = undef ∧ ∃ l, l.Perm l₀ ∧ l.Pairwise (fun x y => key x ≤ key y) ∧ RowAt b e m h' l ∧ Kx b h₀ h') (some ⟨b, 0, none⟩) N c 0 (Int.ofNat N) g #[] #[] g #[] #[] (Int.ofNat k) h := by
  intro d
  induction d with
  | zero =>
    intro k hk l h hp hl hs R K
    refine I127_0.of _ _ _ _ _ _ _ _ _ _ _ _ ?_
    unfold T127_0
    refine vcond_f (by rw [ltI_nat]; exact blt_f (by omega)) ⟨rfl, l, hp, ?_, R, K⟩
    rw [List.pairwise_iff_getElem]
    intro i i' h1 h2 h3
    have := hs i i' h3 (by omega) (by omega)
    simp only [List.getD_eq_getElem?_getD] at this
    rw [List.getElem?_eq_getElem h1, List.getElem?_eq_getElem h2] at this
    exact this
  | succ d ih =>
    intro k hk l h hp hl hs R K
    refine I127_0.of _ _ _ _ _ _ _ _ _ _ _ _ ?_
    unfold T127_0
    refine vcond_t (by rw [ltI_nat]; exact blt_t (by omega)) ?_
    refine lp127g_1 hO C hm hg hN (by omega) hD (fun l' h' p1 p2 p3 p4 p5 => ih (k + 1) (by omega) p1 p2 (fun i i' a1 a2 a3 => p3 i i' a1 (by omega) (by omega)) p4 p5) k (Nat.le_refl _) hp hl ?_ R K
    intro i i' a1 a2 a3
    exact hs i i' a1 (by omega) (by omega)
theorem ct127g {b : Nat} {e : TypeId} {m : Md} (hm : m ≠ .ro) {h : Hp} (hg : ∀ q ∈ h.gd, q ≠ b) {c : Nat} {l : List Int} (hN : l.length < 1000000) (hD : ∀ x ∈ l, D x) (R : RowAt b e m h l) :
    Ret Tryd.prog O 127 [.slice (some ⟨b, 0, none⟩) l.length c, .int .i64 0, .int .i64 (Int.ofNat l.length), .func (.func g) #[] #[]] h fun v h' => v = undef ∧ ∃ l', l'.Perm l ∧ l'.Pairwise (fun x y => key x ≤ key y) ∧ RowAt b e m h' l' ∧ Kx b h h' := by
  refine rk127 _ _ _ _ _ _ _ _ (hO _ _ _ (by decide)) ?_
  unfold T127
  have z : wrapF .i64 (0 + 1) = Int.ofNat 1 := rfl
  rw [z]
  by_cases h0 : l.length = 0
  · refine I127_0.of _ _ _ _ _ _ _ _ _ _ _ _ ?_
    unfold T127_0
    refine vcond_f (by rw [ltI_nat]; exact blt_f (by omega)) ⟨rfl, l, .refl _, ?_, R, .refl _ _⟩
    rw [List.length_eq_zero_iff.1 h0]; exact List.Pairwise.nil
  · refine lp127g_0 hO C hm hg hN hD (l.length - 1) 1 (by omega) (.refl _) rfl ?_ R (.refl _ _)
    intro i i' a1 a2 a3; omega
/-- At most twelve numbers are sorted. -/
theorem ct74g {b : Nat} {e : TypeId} {m : Md} (hm : m ≠ .ro) {h : Hp} (hg : ∀ q ∈ h.gd, q ≠ b) {c : Nat} {l : List Int} (hN : l.length ≤ 12) (hD : ∀ x ∈ l, D x) (R : RowAt b e m h l) :
    Ret Tryd.prog O 74 [.slice (some ⟨b, 0, none⟩) l.length c, .func (.func g) #[] #[]] h fun v h' => v = undef ∧ ∃ l', l'.Perm l ∧ l'.Pairwise (fun x y => key x ≤ key y) ∧ RowAt b e m h' l' ∧ Kx b h h' := by
  refine rk74 _ _ _ _ _ _ (hO _ _ _ (by decide)) ?_
  unfold T74
  have w : wrapF .u64 (Int.ofNat l.length) = Int.ofNat l.length := by
    have : ∀ n, n < 13 → wrapF .u64 (Int.ofNat n) = Int.ofNat n := by decide +kernel
    exact this _ (by omega)
  rw [w]
  refine ⟨_, _, ct116 hO (by omega) h, ?_⟩
  have r : Ret Tryd.prog O 115 [.slice (some ⟨b, 0, none⟩) l.length c, .int .i64 0, .int .i64 (Int.ofNat l.length), .int .i64 (wrapF .i64 (0 + wrapF .i64 (byteI lenT l.length))), .func (.func g) #[] #[]] h fun v h' => v = undef ∧ ∃ l', l'.Perm l ∧ l'.Pairwise (fun x y => key x ≤ key y) ∧ RowAt b e m h' l' ∧ Kx b h h' := by
    refine rk115 _ _ _ _ _ _ _ _ _ (hO _ _ _ (by decide)) ?_
    unfold T115
    refine I115_0.of _ _ _ _ _ _ _ _ _ _ _ _ _ _ _ _ _ ?_
    unfold T115_0
    have e1 : wrapF .i64 (Int.ofNat l.length - 0) = Int.ofNat l.length := by rw [wrap64] <;> simp only [Int.ofNat_eq_natCast] <;> omega
    rw [e1]
    refine vcond_t (by rw [ltI_f (by simp only [Int.ofNat_eq_natCast]; omega)]; rfl) ?_
    exact (ct127g hO C hm hg (c := c) (by omega) hD R).u fun h' p => ⟨rfl, p⟩
  exact r.u fun h' p => ⟨rfl, p⟩
end
/-! ### literals by numbers, clauses of them -/
/-- A literal of one of some variables by a number. -/
def litP (x vars : Int) : Int := if x.tmod 2 = 0 then -(1 + ((x + 128).tdiv 2).tmod vars) else 1 + ((x + 128).tdiv 2).tmod vars
theorem litP_ok {x vars : Int} (h1 : -128 ≤ x) (h2 : x < 128) (h3 : 1 ≤ vars) (h4 : vars ≤ 30) : Lit (litP x vars) ∧ (litP x vars).natAbs ≤ vars.toNat := by
  have a : 0 ≤ ((x + 128).tdiv 2).tmod vars ∧ ((x + 128).tdiv 2).tmod vars < vars := by
    have : 0 ≤ (x + 128).tdiv 2 := Int.tdiv_nonneg (by omega) (by decide)
    exact ⟨Int.tmod_nonneg _ this, Int.tmod_lt_of_pos _ (by omega)⟩
  unfold litP Lit
  split <;> omega
section
variable {O : CallF} (hO : Oth O)
include hO
theorem ct21 {x vars : Int} (h1 : -128 ≤ x) (h2 : x < 128) (h3 : 1 ≤ vars) (h4 : vars ≤ 30) (h : Hp) : EvT O 21 [.int .i8 x, .int .i64 vars] h (.int .i64 (litP x vars)) h := by
  refine EvC.of_ret (rk21 _ _ (hO _ _ _ (by decide)) ?_)
  unfold T21
  have a : 0 ≤ ((x + 128).tdiv 2).tmod vars ∧ ((x + 128).tdiv 2).tmod vars < vars := by
    have : 0 ≤ (x + 128).tdiv 2 := Int.tdiv_nonneg (by omega) (by decide)
    exact ⟨Int.tmod_nonneg _ this, Int.tmod_lt_of_pos _ (by omega)⟩
  have b : 0 ≤ (x + 128).tdiv 2 ∧ (x + 128).tdiv 2 ≤ x + 128 := ⟨Int.tdiv_nonneg (by omega) (by decide), by have := Int.tdiv_le_self (b := 2) (show 0 ≤ x + 128 by omega); omega⟩
  rw [wrap64 (n := x) (by omega) (by omega), wrap64 (n := x + 128) (by omega) (by omega), wrap64 (n := (x + 128).tdiv 2) (by omega) (by omega), wrap64 (n := 1 + _) (by omega) (by omega)]
  refine vreq_t (by rw [eqI_f (by omega)]; rfl) (vcond_split (fun hh => ?_) fun hh => ?_)
  · rw [wrap64 (by omega) (by omega)]
    refine ⟨?_, rfl⟩
    unfold litP
    rw [if_pos (eq_of_t hh)]; congr 1; omega
  · refine ⟨?_, rfl⟩
    unfold litP
    rw [if_neg (ne_of_f hh)]
theorem ct75 {x y : Int} (hx : Lit x) (hy : Lit y) (h : Hp) : EvT O 75 [.int .i64 x, .int .i64 y] h (.int .i64 ((x.natAbs : Int) - (y.natAbs : Int))) h := by
  refine EvC.of_ret (rk75 _ _ (hO _ _ _ (by decide)) ?_)
  unfold T75
  have := hx.2; have := hy.2
  rw [max_neg (by omega) (by omega), max_neg (by omega) (by omega)]
  have e : ∀ z : Int, (if z < 0 then -z else z) = (z.natAbs : Int) := fun z => by split <;> omega
  rw [e, e, wrap64 (by omega) (by omega)]
  exact ⟨rfl, rfl⟩
theorem cmp75 : CmpOk O 75 (fun x => (x.natAbs : Int)) Lit := fun _ _ h hx hy => ct75 hO hx hy h
end
/-- Of each variable the first literal. -/
def firstF : List Int → List Int → List Int
  | [], acc => acc
  | x :: xs, acc => if x ∈ acc ∨ -x ∈ acc then firstF xs acc else firstF xs (acc ++ [x])
def ins (x : Int) : List Int → List Int
  | [] => [x]
  | y :: l => if x.natAbs < y.natAbs then x :: y :: l else y :: ins x l
def isrt : List Int → List Int
  | [] => []
  | x :: l => ins x (isrt l)
/-- The clause of some literals. -/
def clauseN (l : List Int) : List Int := isrt (firstF l [])
end Go.Proofs.YtfgfhplgnfbaaaaDoor
/- Contracts of layer 20: clauses of literals by numbers. -/
namespace Go.Proofs.YtfgfhplgnfbaaaaDoor
open Go Go.Ev
theorem ins_perm (x : Int) : ∀ l : List Int, (ins x l).Perm (x :: l) := by
  intro l
  induction l with
  | nil => exact .refl _
  | cons y l ih =>
    simp only [ins]
    split
    · exact .refl _
    · exact ((List.Perm.cons y ih)).trans (.swap x y l)
theorem isrt_perm : ∀ l : List Int, (isrt l).Perm l := by
  intro l
  induction l with
  | nil => exact .refl _
  | cons x l ih => exact (ins_perm x _).trans (ih.cons x)
theorem ins_dif {x : Int} : ∀ {l : List Int}, Dif l → (∀ y ∈ l, y.natAbs ≠ x.natAbs) → Dif (ins x l) := by
  intro l
  induction l with
  | nil => intro _ _; exact List.pairwise_singleton ..
  | cons y l ih =>
    intro h hn
    obtain ⟨h1, h2⟩ := List.pairwise_cons.1 h
    simp only [ins]
    split
    · rename_i hlt
      refine List.pairwise_cons.2 ⟨fun z hz => ?_, h⟩
      rcases List.mem_cons.1 hz with rfl | hz
      · exact hlt
      · have := h1 z hz; omega
    · rename_i hlt
      refine List.pairwise_cons.2 ⟨fun z hz => ?_, ih h2 fun z hz => hn z (List.mem_cons_of_mem _ hz)⟩
      have := hn y (List.mem_cons_self ..)
      rcases List.mem_cons.1 ((ins_perm x l).subset hz) with rfl | hz
      · omega
      · exact h1 z hz
/-- No variable twice. -/
def Nod (l : List Int) : Prop := l.Pairwise fun x y => x.natAbs ≠ y.natAbs
theorem isrt_dif : ∀ {l : List Int}, Nod l → Dif (isrt l) := by
  intro l
  induction l with
  | nil => intro _; exact List.Pairwise.nil
  | cons x l ih =>
    intro h
    obtain ⟨h1, h2⟩ := List.pairwise_cons.1 h
    exact ins_dif (ih h2) fun y hy => fun e => h1 y ((isrt_perm l).subset hy) e.symm
theorem dif_eq : ∀ {l l' : List Int}, Dif l → Dif l' → l.Perm l' → l = l' := by
  intro l
  induction l with
  | nil => intro l' _ _ h; exact (List.nil_perm.1 h).symm
  | cons x l ih =>
    intro l' h h' p
    cases l' with
    | nil => exact (List.nil_perm.1 p.symm)
    | cons y l' =>
      obtain ⟨h1, h2⟩ := List.pairwise_cons.1 h
      obtain ⟨h3, h4⟩ := List.pairwise_cons.1 h'
      have e : x = y := by
        rcases List.mem_cons.1 (p.subset (List.mem_cons_self ..)) with e | hx
        · exact e
        rcases List.mem_cons.1 (p.symm.subset (List.mem_cons_self ..)) with e | hy
        · exact e.symm
        have := h1 y hy; have := h3 x hx; omega
      subst e
      rw [ih h2 h4 (List.Perm.cons_inv p)]
theorem Nod.perm {l l' : List Int} (h : Nod l) (p : l.Perm l') : Nod l' := (p.pairwise_iff fun h => Ne.symm h).1 h
/-- What is sorted by variables, none twice, is the sorted list. -/
theorem srt_eq {l l' : List Int} (hn : Nod l) (p : l'.Perm l) (s : l'.Pairwise fun x y => (x.natAbs : Int) ≤ (y.natAbs : Int)) : l' = isrt l := by
  refine dif_eq ?_ (isrt_dif hn) (p.trans (isrt_perm l).symm)
  have := List.Pairwise.and s (hn.perm p.symm)
  exact this.imp fun h => by omega
theorem firstF_nod : ∀ {xs acc : List Int}, Nod acc → Nod (firstF xs acc) := by
  intro xs
  induction xs with
  | nil => intro acc h; exact h
  | cons x xs ih =>
    intro acc h
    simp only [firstF]
    split
    · exact ih h
    · rename_i hc
      refine ih (List.pairwise_append.2 ⟨h, List.pairwise_singleton .., fun y hy z hz e => hc ?_⟩)
      obtain rfl := List.mem_singleton.1 hz
      have : y = z ∨ y = -z := by omega
      rcases this with rfl | rfl
      · exact .inl hy
      · exact .inr hy
theorem firstF_mem {P : Int → Prop} : ∀ {xs acc : List Int}, (∀ x ∈ xs, P x) → (∀ x ∈ acc, P x) → ∀ x ∈ firstF xs acc, P x := by
  intro xs
  induction xs with
  | nil => intro acc _ h; exact h
  | cons x xs ih =>
    intro acc h ha
    simp only [firstF]
    split
    · exact ih (fun y hy => h y (List.mem_cons_of_mem _ hy)) ha
    · refine ih (fun y hy => h y (List.mem_cons_of_mem _ hy)) fun y hy => ?_
      rcases List.mem_append.1 hy with hy | hy
      · exact ha y hy
      · obtain rfl := List.mem_singleton.1 hy; exact h _ (List.mem_cons_self ..)
theorem firstF_len : ∀ {xs acc : List Int}, (firstF xs acc).length ≤ acc.length + xs.length := by
  intro xs
  induction xs with
  | nil => intro acc; exact Nat.le_refl _
  | cons x xs ih =>
    intro acc
    simp only [firstF]
    split
    · have := ih (acc := acc); simp only [List.length_cons]; omega
    · have := ih (acc := acc ++ [x]); simp at this ⊢; omega
theorem clauseN_dif (l : List Int) : Dif (clauseN l) := isrt_dif (firstF_nod List.Pairwise.nil)
theorem clauseN_mem {l : List Int} {P : Int → Prop} (h : ∀ x ∈ l, P x) : ∀ x ∈ clauseN l, P x := fun x hx => firstF_mem h (fun _ hx => by cases hx) x ((isrt_perm _).subset hx)
theorem clauseN_len (l : List Int) : (clauseN l).length ≤ l.length := by
  have : (clauseN l).length = (firstF l []).length := (isrt_perm _).length_eq
  have := firstF_len (xs := l) (acc := [])
  simp at this; omega
section
variable {O : CallF} (hO : Oth O)
include hO
theorem ct74n (c g : Nat) (h : Hp) : Ret Tryd.prog O 74 [.slice none 0 c, .func (.func g) #[] #[]] h fun v h' => v = undef ∧ Kp h.nx h h' := by
  refine rk74 _ _ _ _ _ _ (hO _ _ _ (by decide)) ?_
  unfold T74
  refine ⟨_, _, ct116 hO (n := 0) (by omega) h, ?_⟩
  have r : Ret Tryd.prog O 115 [.slice none 0 c, .int .i64 0, .int .i64 (Int.ofNat 0), .int .i64 (wrapF .i64 (0 + wrapF .i64 (byteI lenT 0))), .func (.func g) #[] #[]] h fun v h' => v = undef ∧ Kp h.nx h h' := by
    refine rk115 _ _ _ _ _ _ _ _ _ (hO _ _ _ (by decide)) ?_
    unfold T115
    refine I115_0.of _ _ _ _ _ _ _ _ _ _ _ _ _ _ _ _ _ ?_
    unfold T115_0
    refine vcond_t (by rfl) ?_
    have r2 : Ret Tryd.prog O 127 [.slice none 0 c, .int .i64 0, .int .i64 (Int.ofNat 0), .func (.func g) #[] #[]] h fun v h' => v = undef ∧ Kp h.nx h h' := by
      refine rk127 _ _ _ _ _ _ _ _ (hO _ _ _ (by decide)) ?_
      unfold T127
      refine I127_0.of _ _ _ _ _ _ _ _ _ _ _ _ ?_
      unfold T127_0
      exact vcond_f (by rfl) ⟨rfl, .refl _ _⟩
    exact r2.u fun h' p => ⟨rfl, p⟩
  exact r.u fun h' p => ⟨rfl, p⟩
omit hO in
/-- A list of its own, that is none where it is empty. -/
def RIntsN (h : Hp) (xs : List Int) (a : Option Addr) (n _c : Nat) (h' : Hp) : Prop := IntsAt h' a n xs ∧ Kp h.nx h h' ∧ (∀ b off, a = some ⟨b, off, none⟩ → h.nx ≤ b) ∧ (xs = [] → a = none)
theorem lp19 {h₀ : Hp} (ok : h₀.Ok) {a0 : Option Addr} {n0 c0 : Nat} {xs : List Int} (X : IntsAt h₀ a0 n0 xs) (hl : xs.length ≤ 12) (hx : ∀ x ∈ xs, Lit x) :
    ∀ (d k : Nat), k + d = xs.length → ∀ {h : Hp} {a n c} {acc : List Int}, Kp h₀.nx h₀ h → AccI 3 h h₀.nx a n c acc → acc.length ≤ k → (∀ x ∈ acc, Lit x) → Nod acc → (acc = [] → a = none) → firstF (xs.drop k) acc = firstF xs [] →
      I19_0 O (fun v h' => ∃ a n c, v = .slice a n c ∧ RIntsN h₀ (clauseN xs) a n c h') a0 n0 c0 a n c (Int.ofNat k) h := by
  have hn := X.1
  intro d
  induction d with
  | zero =>
    intro k hk h a n c acc kp A hal ha hnd hz he
    refine I19_0.of _ _ _ _ _ _ _ ?_
    unfold T19_0
    rw [List.drop_of_length_le (by omega)] at he
    have he : acc = firstF xs [] := he
    have eq : clauseN xs = isrt acc := by rw [clauseN, he]
    rw [eq]
    refine vcond_f (by rw [ltI_nat]; exact blt_f (by omega)) ?_
    have hnn : n = acc.length := A.ints.1
    have A' := A
    rcases A with ⟨rfl, rfl, rfl, h4⟩ | ⟨o, rfl, rfl, h3, h4, h5, h6⟩
    · have : acc = [] := by simpa using h4
      subst this
      exact (ct74n hO 0 75 h).u fun h' k => ⟨_, _, _, rfl, SlAt.nil .., kp.trans (k.le kp.nx), fun b off e => (by cases e), fun _ => rfl⟩
    · subst hnn
      refine (ct74g hO (cmp75 hO) (m := .grow) (by decide) (b := o) (c := unk) (fun q hq => ?_) (by omega) ha ⟨h5, h6⟩).u fun h' ⟨l', p, s, R, K⟩ => ?_
      · rw [kp.gd] at hq; have := ok.gd q hq; omega
      · obtain rfl := srt_eq hnd p s
        refine ⟨_, _, _, rfl, ?_, kp.trans (K.kp h4 kp.nx), fun b off e => ?_, fun e => ?_⟩
        · have := R.ints
          rw [p.length_eq] at this; exact this
        · injection e with e; injection e with e _; omega
        · rw [e] at p
          exact hz (List.nil_perm.1 p)
  | succ d ih =>
    intro k hk h a n c acc kp A hal ha hnd hz he
    refine I19_0.of _ _ _ _ _ _ _ ?_
    unfold T19_0
    have hkl : k < xs.length := by omega
    rw [List.drop_eq_getElem_cons hkl] at he
    simp only [firstF] at he
    have hxk := hx _ (List.getElem_mem hkl)
    have neg : wrapF .i64 (0 - xs[k]) = -xs[k] := by have := hxk.2; rw [wrap64] <;> omega
    have := kp.ex (Nat.le_refl _)
    refine vcond_t (by rw [ltI_nat]; exact blt_t (by omega)) (isNat_i (X.rd hkl ⟨_, _, ct62 hO _ A.ints (by omega), vcond_split (fun h1 => ?_) fun h1 => ?_⟩))
    · have h1 : xs[k] ∉ acc := by simpa using h1
      rw [neg]
      refine ⟨_, _, ct62 hO _ A.ints (by omega), vcond_split (fun h2 => ?_) fun h2 => ?_⟩
      · have h2 : -xs[k] ∉ acc := by simpa using h2
        rw [if_neg (by simp [h1, h2])] at he
        rw [wrap_succ (by omega)]
        refine appI app32 A kp.nx (GdLt.kp ok.lt kp) (by omega) fun a' n' c' h' A' _ kA => ih (k + 1) (by omega) (kp.trans kA) A' (by simp; omega) (fun x hx => ?_) ?_ ?_ he
        · rcases List.mem_append.1 hx with hx | hx
          · exact ha x hx
          · obtain rfl := List.mem_singleton.1 hx; exact hxk
        · refine List.pairwise_append.2 ⟨hnd, List.pairwise_singleton .., fun y hy z hz e => ?_⟩
          obtain rfl := List.mem_singleton.1 hz
          have : y = xs[k] ∨ y = -xs[k] := by omega
          rcases this with rfl | rfl
          · exact h1 hy
          · exact h2 hy
        · exact fun e => absurd e (by simp)
      · have h2 : -xs[k] ∈ acc := by simpa using h2
        rw [if_pos (.inr h2)] at he
        rw [wrap_succ (by omega)]
        exact ih (k + 1) (by omega) kp A (by omega) ha hnd hz he
    · have h1 : xs[k] ∈ acc := by simpa using h1
      rw [if_pos (.inl h1)] at he
      rw [wrap_succ (by omega)]
      exact ih (k + 1) (by omega) kp A (by omega) ha hnd hz he
theorem ct19 {h : Hp} (ok : h.Ok) {a0 : Option Addr} {n0 c0 : Nat} {xs : List Int} (X : IntsAt h a0 n0 xs) (hl : xs.length ≤ 12) (hx : ∀ x ∈ xs, Lit x) : Ret Tryd.prog O 19 [.slice a0 n0 c0] h fun v h' => ∃ a n c, v = .slice a n c ∧ RIntsN h (clauseN xs) a n c h' := by
  refine rk19 _ _ _ (hO _ _ _ (by decide)) ?_
  unfold T19
  exact lp19 hO ok X hl hx xs.length 0 (by omega) (.refl _ _) (AccI.nil ..) (by simp) (fun _ h => by cases h) List.Pairwise.nil (fun _ => rfl) rfl
end
end Go.Proofs.YtfgfhplgnfbaaaaDoor
/- Contracts of layer 20: all truths are tried. -/
namespace Go.Proofs.YtfgfhplgnfbaaaaDoor
open Go Go.Ev
theorem shr64 (m : Nat) {k : Nat} (hk : k < 64) : shrF .i64 (Int.ofNat m) k = Int.ofNat (m / 2 ^ k) := by
  unfold shrF
  rw [show min k IntKind.i64.bits = k from Nat.min_eq_left (show k ≤ 64 by omega)]
  show Int.fdiv (m : Int) (2 ^ k) = _
  rw [show ((2 : Int) ^ k) = ((2 ^ k : Nat) : Int) by simp, Int.fdiv_eq_ediv_of_nonneg _ (Int.natCast_nonneg _)]
  simp
theorem shl64 {a k : Nat} (hk : k < 64) (h : a * 2 ^ k < 9223372036854775808) : shlF .i64 (Int.ofNat a) k = Int.ofNat (a * 2 ^ k) := by
  unfold shlF
  rw [show min k IntKind.i64.bits = k from Nat.min_eq_left (show k ≤ 64 by omega), ← wrapF_eq]
  have e : (Int.ofNat a) * 2 ^ k = ((a * 2 ^ k : Nat) : Int) := by simp
  rw [e, wrap64 (by omega) (by omega)]; rfl
theorem and_one (a : Nat) : landI (Int.ofNat a) 1 = Int.ofNat (a % 2) := by
  show Int.ofNat (a &&& 1) = _
  rw [Nat.and_one_is_mod]
theorem bit_eq (m k : Nat) : m / 2 ^ k % 2 = (m.testBit k).toNat := by
  rw [Nat.testBit_eq_decide_div_mod_eq]
  have := Nat.mod_two_eq_zero_or_one (m / 2 ^ k)
  rcases this with h | h <;> simp [h]
/-- Is a literal true, with truths as the digits of a number? -/
def isB (m : Nat) (x : Int) : Bool := if x < 0 then !m.testBit (x.natAbs - 1) else m.testBit (x.natAbs - 1)
/-- A number whose digits stand the other way round. -/
def bitsF (n k : Nat) : Nat → Nat
  | 0 => 0
  | v + 1 => bitsF n k v ||| ((k / 2 ^ (n - 1 - v) % 2) * 2 ^ v)
theorem bitsF_lt (n k : Nat) : ∀ v, bitsF n k v < 2 ^ v := by
  intro v
  induction v with
  | zero => exact Nat.one_pos
  | succ v ih =>
    refine Nat.or_lt_two_pow (Nat.lt_trans ih (two_pow_lt_succ v)) ?_
    have := Nat.mod_lt (k / 2 ^ (n - 1 - v)) (y := 2) (by decide)
    rw [Nat.pow_succ, Nat.mul_comm (2 ^ v) 2]
    exact Nat.mul_lt_mul_of_pos_right this (Nat.two_pow_pos v)
/-- Are truths a model of clauses, with given literals? -/
def satM (cls : List (List Int)) (gs : List Int) (m : Nat) : Bool := gs.all (isB m) && cls.all fun c => c.any (isB m)
def modelsN (n : Nat) (cls : List (List Int)) (gs : List Int) : List Nat := ((List.range (2 ^ n)).map fun k => bitsF n k n).filter (satM cls gs)
/-- A predicate of a function's value. -/
def FnB (O : CallF) (g : Nat) (fi ca : Array Value) (h : Hp) (φ : Int → Bool) (xs : List Int) : Prop := ∀ x ∈ xs, EvT O g (fi.toList ++ [.int .i64 x] ++ ca.toList) h (.bool (φ x)) h
section
variable {O : CallF} (hO : Oth O)
include hO
theorem ct66 {m : Nat} (hm : m < 9223372036854775808) {x : Int} (hx : Lit x) (h : Hp) : EvT O 66 [.int .i64 (Int.ofNat m), .int .i64 x] h (.bool (isB m x)) h := by
  refine EvC.of_ret (rk66 _ _ (hO _ _ _ (by decide)) ?_)
  unfold T66 isB
  have := hx.1; have := hx.2
  have lt : m / 2 ^ (x.natAbs - 1) < 9223372036854775808 := Nat.lt_of_le_of_lt (Nat.div_le_self ..) hm
  by_cases hx0 : x < 0
  · rw [if_pos hx0]
    have e : wrapF .i64 (wrapF .i64 (0 - x) - 1) = Int.ofNat (x.natAbs - 1) := by
      rw [wrap64 (n := 0 - x) (by omega) (by omega), wrap64 (by omega) (by omega)]; simp only [Int.ofNat_eq_natCast]; omega
    rw [e, show (Int.ofNat (x.natAbs - 1)).toNat = x.natAbs - 1 from rfl, shr64 m (k := x.natAbs - 1) (by omega), and_one, bit_eq]
    refine vcond_t (ltI_t hx0) (vreq_t rfl (vreq_t (inD_of lt) ⟨?_, rfl⟩))
    cases m.testBit (x.natAbs - 1) <;> rfl
  · rw [if_neg hx0]
    have e : wrapF .i64 (x - 1) = Int.ofNat (x.natAbs - 1) := by
      rw [wrap64 (by omega) (by omega)]; simp only [Int.ofNat_eq_natCast]; omega
    rw [e, show (Int.ofNat (x.natAbs - 1)).toNat = x.natAbs - 1 from rfl, shr64 m (k := x.natAbs - 1) (by omega), and_one, bit_eq]
    refine vcond_f (ltI_f hx0) (vreq_t rfl (vreq_t (inD_of lt) ⟨?_, rfl⟩))
    cases m.testBit (x.natAbs - 1) <;> rfl
theorem ct111 {m : Nat} (hm : m < 9223372036854775808) {x : Int} (hx : Lit x) {b f : Nat} {h : Hp} (hr : readAt h b f 1 = some [.int .i64 (Int.ofNat m)]) : EvT O 111 [.int .i64 x, .pointer (some ⟨b, f, none⟩)] h (.bool (!(isB m x))) h := by
  refine EvC.of_ret (rk111 _ _ _ (hO _ _ _ (by decide)) ?_)
  unfold T111
  exact ⟨_, hr, _, _, ct66 hO hm hx h, rfl, rfl⟩
theorem ct112 {m : Nat} (hm : m < 9223372036854775808) {x : Int} (hx : Lit x) {b f : Nat} {h : Hp} (hr : readAt h b f 1 = some [.int .i64 (Int.ofNat m)]) : EvT O 112 [.int .i64 x, .pointer (some ⟨b, f, none⟩)] h (.bool (isB m x)) h := by
  refine EvC.of_ret (rk112 _ _ _ (hO _ _ _ (by decide)) ?_)
  unfold T112
  exact ⟨_, hr, _, _, ct66 hO hm hx h, rfl, rfl⟩
theorem lp113 {a : Option Addr} {n c : Nat} {xs : List Int} {h : Hp} (X : IntsAt h a n xs) (hl : xs.length < 1000000) {g : Nat} {fi ca : Array Value} {φ : Int → Bool} (F : FnB O g fi ca h φ xs) {Q : Value → Hp → Prop} {x4 : Int} {g1 : Nat} {fi1 ca1 : Array Value} :
    ∀ (d k : Nat), k + d = xs.length → (∀ z : Int, (ltI z 0 = !((xs.drop k).any φ)) → Q (.int .i64 z) h) → I113_0 O Q a n c g1 fi1 ca1 g fi ca x4 (Int.ofNat k) h := by
  have _ := hO
  have hn := X.1
  intro d
  induction d with
  | zero =>
    intro k hk hQ
    refine I113_0.of _ _ _ _ _ _ _ _ _ _ _ ?_
    unfold T113_0
    exact vcond_f (by rw [ltI_nat]; exact blt_f (by omega)) (hQ _ (by rw [List.drop_of_length_le (by omega)]; rfl))
  | succ d ih =>
    intro k hk hQ
    refine I113_0.of _ _ _ _ _ _ _ _ _ _ _ ?_
    unfold T113_0
    have hkl : k < xs.length := by omega
    rw [List.drop_eq_getElem_cons hkl] at hQ
    refine vcond_t (by rw [ltI_nat]; exact blt_t (by omega)) (isNat_i (X.rd hkl ⟨_, _, F _ (List.getElem_mem hkl), vcond_split (fun h1 => ?_) fun h1 => ?_⟩))
    · exact hQ _ (by rw [List.any_cons, h1]; rfl)
    · rw [wrap_succ (by omega)]
      exact ih (k + 1) (by omega) fun z hz => hQ z (by rw [List.any_cons, h1]; exact hz)
theorem ct64 {a : Option Addr} {n c : Nat} {xs : List Int} {h : Hp} (X : IntsAt h a n xs) (hl : xs.length < 1000000) {g : Nat} {fi ca : Array Value} {φ : Int → Bool} (F : FnB O g fi ca h φ xs) : EvT O 64 [.slice a n c, .func (.func g) fi ca] h (.bool (xs.any φ)) h := by
  refine EvC.of_ret (rk64 _ _ _ _ _ _ (hO _ _ _ (by decide)) ?_)
  unfold T64
  have r : Ret Tryd.prog O 113 [.slice a n c, .func (.func g) fi ca] h fun v h' => ∃ z, v = .int .i64 z ∧ ltI z 0 = (!(xs.any φ)) ∧ h' = h := by
    refine rk113 _ _ _ _ _ _ (hO _ _ _ (by decide)) ?_
    unfold T113
    exact lp113 hO X hl F xs.length 0 (by omega) fun z hz => ⟨z, rfl, hz, rfl⟩
  refine r.i fun z h' ⟨hz, e⟩ => ⟨?_, e⟩
  rw [hz, Bool.not_not]
end
end Go.Proofs.YtfgfhplgnfbaaaaDoor
/- Contract of layer 20: a proof is accepted, or not. -/
namespace Go.Proofs.YtfgfhplgnfbaaaaDoor
open Go Go.Ev
/-- The first line from which propagation of its contraries does not clash. -/
def accF (gs : List Int) : List (List Int) → List (List Int) → Nat → Option Nat
  | _, [], _ => none
  | cls, l :: ls, i => if (fromN (cls.map sideN) (gs ++ l.map fun x => -x)).2 = true then some i else accF gs (cls ++ [l]) ls (i + 1)
end Go.Proofs.YtfgfhplgnfbaaaaDoor
/- Lists of lists: what is appended of them, and their first ones. -/
namespace Go.Proofs.YtfgfhplgnfbaaaaDoor
open Go Go.Ev
theorem SlAt.take {α : Type} {w : Nat} {R : Enc α} {h : Hp} {a : Option Addr} {n : Nat} {xs : List α} (H : SlAt w R h a n xs) (k : Nat) (hk : k ≤ xs.length) : SlAt w R h a k (xs.take k) := by
  refine ⟨by simp; omega, ?_⟩
  rcases H.2 with ⟨rfl, rfl⟩ | ⟨b, off, c, e, m, rfl, h2, h3, h4, h5⟩
  · exact .inl ⟨by simp, rfl⟩
  · refine .inr ⟨b, off, c, e, m, rfl, h2, h3, ?_, fun i hi => ?_⟩
    · have : (xs.take k).length * w ≤ xs.length * w := Nat.mul_le_mul_right _ (by simp; omega)
      omega
    · have hi2 : i < xs.length := by simp at hi; omega
      have := h5 i hi2
      rw [List.getElem_take]
      exact this
/-- Cells that hold lists. -/
def Lis (h : Hp) (vs : List Value) (xs : List (List Int)) : Prop := vs.length = xs.length ∧ ∀ i (hi : i < xs.length), ∃ v, vs[i]? = some v ∧ EInts h xs[i] [v]
theorem Lis.nil (h : Hp) : Lis h [] [] := ⟨rfl, fun i hi => by simp at hi⟩
theorem Lis.app {h : Hp} {vs ws : List Value} {xs ys : List (List Int)} (A : Lis h vs xs) (B : Lis h ws ys) : Lis h (vs ++ ws) (xs ++ ys) := by
  refine ⟨by simp [A.1, B.1], fun i hi => ?_⟩
  by_cases h1 : i < xs.length
  · obtain ⟨v, e1, e2⟩ := A.2 i h1
    exact ⟨v, by rw [List.getElem?_append_left (by rw [A.1]; exact h1)]; exact e1, by rw [List.getElem_append_left h1]; exact e2⟩
  · obtain ⟨v, e1, e2⟩ := B.2 (i - xs.length) (by simp at hi; omega)
    exact ⟨v, by rw [List.getElem?_append_right (by rw [A.1]; omega), A.1]; exact e1, by rw [List.getElem_append_right (by omega)]; exact e2⟩
theorem Lis.up {h h' : Hp} (K : Kp h.nx h h') {vs : List Value} {xs : List (List Int)} (A : Lis h vs xs) : Lis h' vs xs := ⟨A.1, fun i hi => by
  obtain ⟨v, e1, e2⟩ := A.2 i hi
  exact ⟨v, e1, EInts.up _ _ _ _ K e2⟩⟩
theorem Lis.one {h : Hp} {vs : List Value} {xs : List (List Int)} (A : Lis h vs xs) : vs.all one = true := by
  rw [List.all_eq_true]
  intro v hv
  obtain ⟨i, hi, rfl⟩ := List.getElem_of_mem hv
  obtain ⟨w, e1, a, n, c, e2, _⟩ := A.2 i (by rw [← A.1]; exact hi)
  rw [List.getElem?_eq_getElem hi] at e1
  obtain rfl := Option.some.inj e1
  injection e2 with e2 _
  rw [e2]; rfl
theorem AccE.intss {h : Hp} {base : Nat} {e : TypeId} {a : Option Addr} {n c : Nat} {vs : List Value} {xs : List (List Int)} (A : AccE h base e 1 a n c vs) (L : Lis h vs xs) : IntssAt h a n xs := by
  rcases A with (⟨rfl, rfl, rfl, h4⟩ | ⟨o, rfl, rfl, h3, h4, h5, h6⟩) | ⟨h1, h2, h3, o, h4, h5, h6, e2, m, h7⟩
  · have : xs = [] := List.length_eq_zero_iff.1 (by rw [← L.1, h4]; rfl)
    subst this; exact SlAt.nil ..
  · refine ⟨by rw [← L.1]; omega, .inr ⟨o, 0, _, _, _, rfl, h5, h6, by rw [← L.1]; omega, fun i hi => ?_⟩⟩
    obtain ⟨v, e1, e2⟩ := L.2 i hi
    have hv : i < vs.length := by rw [L.1]; exact hi
    rw [List.getElem?_eq_getElem hv] at e1
    have e1 := Option.some.inj e1
    show EInts h xs[i] ((vs.drop (0 + i * 1)).take 1)
    rw [Nat.zero_add, Nat.mul_one, List.drop_eq_getElem_cons hv, List.take_succ_cons, List.take_zero, e1]
    exact e2
  · have : xs = [] := List.length_eq_zero_iff.1 (by rw [← L.1, h1]; rfl)
    subst this h2 h4
    exact ⟨rfl, .inr ⟨o, 0, _, _, _, rfl, h6, h7, by simp, fun i hi => by simp at hi⟩⟩
theorem AccE.ints {h : Hp} {base : Nat} {e : TypeId} {a : Option Addr} {n c : Nat} {xs : List Int} (H : AccE h base e 1 a n c (xs.map (Value.int .i64))) : IntsAt h a n xs := by
  rcases H with H | ⟨h1, h2, h3, o, h4, h5, h6, e2, m, h7⟩
  · exact AccI.ints H
  · have hx : xs = [] := by
      cases xs with
      | nil => rfl
      | cons x xs => cases h1
    subst hx h2 h4
    exact ⟨rfl, .inr ⟨o, 0, _, _, _, rfl, h6, h7, by simp, fun i hi => by simp at hi⟩⟩
end Go.Proofs.YtfgfhplgnfbaaaaDoor
/- Contracts of layer 20: all models of a formula; lists cloned. -/
namespace Go.Proofs.YtfgfhplgnfbaaaaDoor
open Go Go.Ev
theorem satM_step (cls : List (List Int)) (m k : Nat) (hk : k < cls.length) (q : Bool) : (q && (cls.drop k).all fun c => c.any (isB m)) = ((q && cls[k].any (isB m)) && (cls.drop (k + 1)).all fun c => c.any (isB m)) := by
  rw [List.drop_eq_getElem_cons hk, List.all_cons, Bool.and_assoc]
section
variable {O : CallF} (hO : Oth O)
include hO
/-- The end of the loop over clauses is told by what goes on from there. -/
theorem lp54c {h₀ hI : Hp} {x0 : Int} {a0 a1 a2 a7 : Option Addr} {n0 c0 n1 c1 n2 c2 n7 c7 : Nat} {cls : List (List Int)} (F : IntssAt h₀ a1 n1 cls) (hl : cls.length < 1000000) (hll : ∀ l ∈ cls, l.length < 1000000) (hlit : ∀ l ∈ cls, ∀ x ∈ l, Lit x) (kI : Kp h₀.nx h₀ hI) {b3 f3 m : Nat} (hm : m < 9223372036854775808) {x16 x17 : Int} {Q : Value → Hp → Prop} {r : Bool}
    (next : ∀ h1, Kp hI.nx hI h1 → RowAt hI.nx 3 .fix h1 [Int.ofNat m] → vcond r (∃ x, readAt h1 hI.nx 0 1 = some [.int .i64 x] ∧ ∃ a n c h', appendV Tryd.prog (h1.add (.cells [.int .i64 x] 3 .fix)) 32 32 (.slice a7 n7 c7) (.slice (some ⟨h1.nx, 0, none⟩) 1 1) = some (.slice a n c, h') ∧ I54_0 O Q x0 a0 n0 c0 a1 n1 c1 a2 n2 c2 b3 f3 a n c x16 (wrapF .i64 (x17 + 1)) h') (I54_0 O Q x0 a0 n0 c0 a1 n1 c1 a2 n2 c2 b3 f3 a7 n7 c7 x16 (wrapF .i64 (x17 + 1)) h1)) :
    ∀ (d k : Nat), k + d = cls.length → ∀ {h1 : Hp} {q : Bool}, Kp hI.nx hI h1 → RowAt hI.nx 3 .fix h1 [Int.ofNat m] → r = (q && (cls.drop k).all fun c => c.any (isB m)) →
      I54_2 O Q x0 a0 n0 c0 a1 n1 c1 a2 n2 c2 b3 f3 a7 n7 c7 hI.nx 0 q x16 x17 (Int.ofNat k) h1 := by
  have hn := F.1
  intro d
  induction d with
  | zero =>
    intro k hk h1 q kp R hr
    refine I54_2.of _ _ _ _ _ _ _ _ _ _ _ _ _ _ _ _ _ _ _ _ _ ?_
    unfold T54_2
    rw [List.drop_of_length_le (by omega)] at hr
    obtain rfl : r = q := by simpa using hr
    exact vcond_f (by rw [ltI_nat]; exact blt_f (by omega)) (next h1 kp R)
  | succ d ih =>
    intro k hk h1 q kp R hr
    refine I54_2.of _ _ _ _ _ _ _ _ _ _ _ _ _ _ _ _ _ _ _ _ _ ?_
    unfold T54_2
    have hkl : k < cls.length := by omega
    rw [satM_step _ _ _ hkl] at hr
    have f1 := (kI.trans (kp.le kI.nx)).ex (Nat.le_refl _)
    rw [wrap_succ (by omega)]
    refine vcond_t (by rw [ltI_nat]; exact blt_t (by omega)) (isNat_i (F.rd hkl fun a' n' c' Y => vcond_split (fun hq => ?_) fun hq => ?_))
    · subst hq
      have hm1 : cls[k] ∈ cls := List.getElem_mem _
      refine ⟨_, _, ct64 hO (Y.to h1) (hll _ hm1) (fun x hx => ct112 hO hm (hlit _ hm1 x hx) (R.rd (k := 0) (by simp) rfl)), ih (k + 1) (by omega) kp R (by rw [hr]; rfl)⟩
    · subst hq
      exact ih (k + 1) (by omega) kp R (by rw [hr]; rfl)
theorem lp54_1 {h₀ hI : Hp} (ok : h₀.Ok) {x0 : Int} {a0 a1 a2 a7 : Option Addr} {n0 c0 n1 c1 n2 c2 n7 c7 : Nat} {gs : List Int} (G : IntsAt h₀ a2 n2 gs) (hgl : gs.length < 1000000) (hg : ∀ x ∈ gs, Lit x) (kI : Kp h₀.nx h₀ hI) {b3 N kk : Nat} (hN : N ≤ 30) (hb : hI.get b3 = some (.cells [.int .i64 (Int.ofNat N), .slice a0 n0 c0] 30 .fix)) (hb3 : b3 < hI.nx) (hkk : kk < 2 ^ N) {x16 : Int} {Q : Value → Hp → Prop}
    (next : ∀ h1, Kp hI.nx hI h1 → RowAt hI.nx 3 .fix h1 [Int.ofNat (bitsF N kk N)] → I54_2 O Q x0 a0 n0 c0 a1 n1 c1 a2 n2 c2 b3 0 a7 n7 c7 hI.nx 0 (gs.all (isB (bitsF N kk N))) x16 (Int.ofNat kk) 0 h1) :
    ∀ (d v : Nat), v + d = N → ∀ {h1 : Hp}, Kp hI.nx hI h1 → RowAt hI.nx 3 .fix h1 [Int.ofNat (bitsF N kk v)] →
      I54_1 O Q x0 a0 n0 c0 a1 n1 c1 a2 n2 c2 b3 0 a7 n7 c7 (Int.ofNat kk) hI.nx 0 x16 (Int.ofNat kk) (Int.ofNat N) (Int.ofNat v) h1 := by
  have p30 : (2 : Nat) ^ N ≤ 2 ^ 30 := Nat.pow_le_pow_right (by decide) hN
  intro d
  induction d with
  | zero =>
    intro v hv h1 kp R
    refine I54_1.of _ _ _ _ _ _ _ _ _ _ _ _ _ _ _ _ _ _ _ _ _ _ ?_
    unfold T54_1
    obtain rfl : v = N := by omega
    have lt : bitsF v kk v < 9223372036854775808 := Nat.lt_of_lt_of_le (bitsF_lt v kk v) (Nat.le_trans p30 (by decide))
    have f1 := (kI.trans (kp.le kI.nx)).ex (Nat.le_refl _)
    refine vcond_f (by rw [ltI_nat]; exact blt_f (by omega)) ⟨_, _, ct64 hO (G.to h1) hgl (φ := fun x => !(isB (bitsF v kk v) x)) (fun x hx => ct111 hO lt (hg x hx) (R.rd (k := 0) (by simp) rfl)), ?_⟩
    have e : (!(gs.any fun x => !(isB (bitsF v kk v) x))) = gs.all (isB (bitsF v kk v)) := by
      rw [List.not_any_eq_all_not]; simp
    rw [e]
    exact next h1 kp R
  | succ d ih =>
    intro v hv h1 kp R
    refine I54_1.of _ _ _ _ _ _ _ _ _ _ _ _ _ _ _ _ _ _ _ _ _ _ ?_
    unfold T54_1
    have lt : bitsF N kk v < 2 ^ v := bitsF_lt N kk v
    have pv : (2 : Nat) ^ v ≤ 2 ^ 30 := Nat.pow_le_pow_right (by decide) (by omega)
    have f1 := kp.ex (Nat.le_refl _)
    refine vcond_t (by rw [ltI_nat]; exact blt_t (by omega)) ?_
    intro g201
    have e1 : wrapF .i64 (wrapF .i64 (Int.ofNat N - 1) - Int.ofNat v) = Int.ofNat (N - 1 - v) := by
      rw [wrap64 (n := Int.ofNat N - 1) (by simp only [Int.ofNat_eq_natCast]; omega) (by simp only [Int.ofNat_eq_natCast]; omega), wrap64 (by simp only [Int.ofNat_eq_natCast]; omega) (by simp only [Int.ofNat_eq_natCast]; omega)]
      simp only [Int.ofNat_eq_natCast]; omega
    refine ⟨_, R.rd (k := 0) (by simp) rfl, _, (readAt_ex (g := hI) hb3).trans (read1 hb (i := 0 + 0) rfl), ?_⟩
    rw [e1, wrap_succ (by omega), show (Int.ofNat (N - 1 - v)).toNat = N - 1 - v from rfl, show (Int.ofNat v).toNat = v from rfl, shr64 kk (k := N - 1 - v) (by omega), and_one]
    have lt2 : kk / 2 ^ (N - 1 - v) < 9223372036854775808 := Nat.lt_of_le_of_lt (Nat.div_le_self ..) (Nat.lt_of_lt_of_le hkk (Nat.le_trans p30 (by decide)))
    have lt3 : (kk / 2 ^ (N - 1 - v) % 2) * 2 ^ v ≤ 2 ^ v := by
      have := Nat.mod_lt (kk / 2 ^ (N - 1 - v)) (y := 2) (by decide)
      exact Nat.le_trans (Nat.mul_le_mul_right _ (show _ ≤ 1 by omega)) (by omega)
    rw [shl64 (by omega) (Nat.lt_of_le_of_lt (Nat.le_trans lt3 pv) (by decide))]
    have gu : (g201.grd []).guarded hI.nx = false := guarded_of fun q hq => by
      have : q ∈ h₀.gd := by rw [← kI.gd, ← kp.gd]; exact hq
      have := ok.gd q this; have := kI.nx; omega
    obtain ⟨w, R2⟩ := RowAt.wr (h := g201.grd []) ⟨Nat.lt_of_lt_of_le R.lt (Nat.le_add_right ..), R.get⟩ (by decide) gu (k := 0) (off := 0) (by simp) rfl (Int.ofNat (bitsF N kk v ||| (kk / 2 ^ (N - 1 - v) % 2) * 2 ^ v))
    refine vreq_t rfl (vreq_t (inD_of lt2) (vreq_t rfl (vreq_t (inD_of (Nat.lt_of_lt_of_le lt (Nat.le_trans pv (by decide)))) (vreq_t (inD_of (Nat.lt_of_le_of_lt (Nat.le_trans lt3 pv) (by decide))) (vreq_t w ?_)))))
    intro g204 g205
    have K1 : Kp hI.nx hI (g201.grd []) := (kp.rsv 13)
    have K2 : Kp hI.nx hI g204 := K1.wr (Nat.le_refl _) _ _
    exact ih (v + 1) (by omega) ⟨K2.get, K2.nx, kp.gd, K2.fr⟩ ⟨R2.lt, R2.get⟩
theorem lp54_0 {h₀ : Hp} (ok : h₀.Ok) {x0 : Int} {a0 a1 a2 : Option Addr} {n0 c0 n1 c1 n2 c2 : Nat} {cls : List (List Int)} {gs : List Int} (F : IntssAt h₀ a1 n1 cls) (hl : cls.length < 1000000) (hll : ∀ l ∈ cls, l.length < 1000000) (hlit : ∀ l ∈ cls, ∀ x ∈ l, Lit x) (G : IntsAt h₀ a2 n2 gs) (hgl : gs.length < 1000000) (hg : ∀ x ∈ gs, Lit x) {N : Nat} (hN : N ≤ 20) :
    ∀ (d k : Nat), k + d = 2 ^ N → ∀ {h : Hp} {a7 n7 c7} {acc : List Int}, Kp h₀.nx h₀ h → h.get h₀.nx = some (.cells [.int .i64 (Int.ofNat N), .slice a0 n0 c0] 30 .fix) → h₀.nx < h.nx → AccI 3 h (h₀.nx + 1) a7 n7 c7 acc → acc.length ≤ k → (acc ++ (((List.range' k d).map fun k => bitsF N k N).filter (satM cls gs)).map Int.ofNat) = (modelsN N cls gs).map Int.ofNat →
      I54_0 O (RInts h₀ ((modelsN N cls gs).map Int.ofNat)) x0 a0 n0 c0 a1 n1 c1 a2 n2 c2 h₀.nx 0 a7 n7 c7 (Int.ofNat (2 ^ N)) (Int.ofNat k) h := by
  have p20 : (2 : Nat) ^ N ≤ 2 ^ 20 := Nat.pow_le_pow_right (by decide) hN
  intro d
  induction d with
  | zero =>
    intro k hk h a7 n7 c7 acc kp hb hb2 A hal he
    refine I54_0.of _ _ _ _ _ _ _ _ _ _ _ _ _ _ _ _ _ ?_
    unfold T54_0
    have he : acc = (modelsN N cls gs).map Int.ofNat := by simpa using he
    subst he
    refine vcond_f (by rw [ltI_nat]; exact blt_f (by omega)) ⟨_, _, _, rfl, A.ints, kp, fun b off e => ?_⟩
    have := A.fresh e; omega
  | succ d ih =>
    intro k hk h a7 n7 c7 acc kp hb hb2 A hal he
    refine I54_0.of _ _ _ _ _ _ _ _ _ _ _ _ _ _ _ _ _ ?_
    unfold T54_0
    refine vcond_t (by rw [ltI_nat]; exact blt_t (by omega)) ?_
    intro g101
    have hnx := kp.nx
    have gu : g101.guarded h.nx = false := guarded_of fun q hq => by
      have : q ∈ h₀.gd := by rw [← kp.gd]; exact hq
      have := ok.gd q this; omega
    have R0 : RowAt h.nx 3 .fix g101 [0] := ⟨by show h.nx < h.nx + 1; omega, get_add_same ..⟩
    obtain ⟨w, R1⟩ := R0.wr (by decide) gu (k := 0) (off := 0) (by simp) rfl 0
    refine vreq_t w ?_
    intro g102
    have K1 : Kp h.nx h g102 := ((Kp.refl h.nx h).add (Nat.le_refl _) _).wr (Nat.le_refl _) _ _
    have f1 : Ft h g102 := K1.ex (Nat.le_refl _)
    refine ⟨_, (readAt_ex (g := h) (by omega)).trans (read1 hb (i := 0 + 0) rfl), ?_⟩
    rw [List.range'_succ, List.map_cons, List.filter_cons] at he
    have hkk : k < 2 ^ N := by omega
    have lt : bitsF N k N < 9223372036854775808 := Nat.lt_of_lt_of_le (bitsF_lt N k N) (Nat.le_trans p20 (by decide))
    refine lp54_1 hO ok G hgl hg kp (by omega) hb hb2 hkk (fun h1 k1 R => lp54c hO F hl hll hlit kp lt (r := satM cls gs (bitsF N k N)) (fun h2 k2 R2 => ?_) cls.length 0 (by omega) k1 R rfl) N 0 (by omega) K1 ⟨R1.lt, R1.get⟩
    have f2 : Ft h h2 := k2.ex (Nat.le_refl _)
    have A2 : AccI 3 h2 (h₀.nx + 1) a7 n7 c7 acc := Acc.to h2 A
    have kp2 := kp.trans (k2.le hnx)
    have hb' : h2.get h₀.nx = _ := (f2.get _ hb2).trans hb
    rw [wrap_succ (by omega)]
    refine vcond_split (fun hr => ?_) fun hr => ?_
    · rw [hr] at he
      have gd2 : GdLt h2 (h₀.nx + 1) := fun q hq => by have : q ∈ h₀.gd := by rw [← kp2.gd]; exact hq
                                                       have := ok.gd q this; omega
      refine ⟨_, R2.rd (k := 0) (by simp) rfl, appI app32 A2 (by have := k2.nx; omega) gd2 (by omega) fun a' n' c' h' A' _ kA => ih (k + 1) (by omega) (kp2.trans (kA.le (by omega))) ?_ (Nat.lt_of_lt_of_le (by have := k2.nx; omega) kA.nx) A' (by simp; omega) ?_⟩
      · rw [kA.get _ (by omega)]; exact hb'
      · simp only [if_true, List.map_cons] at he
        rw [List.append_assoc]; exact he
    · rw [hr] at he
      exact ih (k + 1) (by omega) kp2 hb' (by have := k2.nx; omega) A2 (by omega) (by simpa using he)
theorem ct54 {h : Hp} (ok : h.Ok) {a0 a1 a2 : Option Addr} {n0 c0 n1 c1 n2 c2 : Nat} {cls : List (List Int)} {gs : List Int} (F : IntssAt h a1 n1 cls) (hl : cls.length < 1000000) (hll : ∀ l ∈ cls, l.length < 1000000) (hlit : ∀ l ∈ cls, ∀ x ∈ l, Lit x) (G : IntsAt h a2 n2 gs) (hgl : gs.length < 1000000) (hg : ∀ x ∈ gs, Lit x) {N : Nat} (hN : N ≤ 20) :
    Ret Tryd.prog O 54 [.agg #[.int .i64 (Int.ofNat N), .slice a0 n0 c0], .slice a1 n1 c1, .slice a2 n2 c2] h (RInts h ((modelsN N cls gs).map Int.ofNat)) := by
  refine rk54 _ _ _ _ _ _ _ _ _ _ (hO _ _ _ (by decide)) ?_
  unfold T54
  intro g1
  refine ⟨_, read1 (get_add_same ..) (i := 0) rfl, vreq_t rfl ?_⟩
  have e : shlF .i64 1 (Int.ofNat N).toNat = Int.ofNat (2 ^ N) := by
    have p20 : (2 : Nat) ^ N ≤ 2 ^ 20 := Nat.pow_le_pow_right (by decide) hN
    have := shl64 (a := 1) (k := N) (by omega) (by rw [Nat.one_mul]; exact Nat.lt_of_le_of_lt p20 (by decide))
    rw [Nat.one_mul] at this; exact this
  rw [e]
  refine lp54_0 hO ok F hl hll hlit G hgl hg hN (2 ^ N) 0 (by omega) ((Kp.refl _ _).add (Nat.le_refl _) _) (get_add_same ..) (by show h.nx < h.nx + 1; omega) (AccI.nil ..) (by simp) ?_
  rw [modelsN, List.range_eq_range']; rfl
end
end Go.Proofs.YtfgfhplgnfbaaaaDoor
