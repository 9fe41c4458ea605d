/- Contracts of functions of layer 20: propagation by masks, to its end; what is given, and asked. -/
import Derived.Test.YtfgfhplgnfbaaaaDoorYD
import Derived.Test.YtfgfhplgnfbaaaaDoorProg
import Derived.Test.YtfgfhplgnfbaaaaDoorYC
import Derived.KernelRfl
namespace Go.Proofs.YtfgfhplgnfbaaaaDoor
open Go Go.Ev
/-- How many variables are open. -/
def freeN (z : Nat) : Nat := ((List.range 30).filter fun i => !z.testBit i).length
theorem freeN_le (z : Nat) : freeN z ≤ 30 := Nat.le_trans (List.length_filter_le _ _) (by simp)
theorem filter_lt {α : Type} {p q : α → Bool} {a : α} : ∀ {l : List α}, a ∈ l → p a = true → q a = false → (∀ x, q x = true → p x = true) → (l.filter q).length < (l.filter p).length := by
  intro l
  induction l with
  | nil => intro h; cases h
  | cons x l ih =>
    intro h hp hq hi
    have hle : (l.filter q).length ≤ (l.filter p).length := by
      clear ih h
      induction l with
      | nil => exact Nat.le_refl _
      | cons y l ih =>
        rw [List.filter_cons, List.filter_cons]
        cases hy : q y with
        | true => rw [hi y hy]; simpa using ih
        | false => cases p y <;> simp <;> omega
    rw [List.filter_cons, List.filter_cons]
    rcases List.mem_cons.1 h with rfl | h
    · rw [hp, hq]; simp; omega
    · have := ih h hp hq hi
      cases hy : q x with
      | true => rw [hi x hy]; simpa using this
      | false => cases p x <;> simp <;> omega
theorem freeN_lt {z i : Nat} (hi : i < 30) (h : z.testBit i = false) : freeN (z ||| 2 ^ i) < freeN z := by
  refine filter_lt (a := i) (List.mem_range.2 hi) (by rw [h]; rfl) (by rw [Nat.testBit_or, Nat.testBit_two_pow]; simp) fun x hx => ?_
  rw [Nat.testBit_or] at hx
  cases hz : z.testBit x with
  | true => rw [hz] at hx; simp at hx
  | false => rfl
theorem stepS_unit {y m : Nat} {p : Nat × Nat} (hy : y < 2 ^ 30) (hm : m < 2 ^ 30) : ∀ {ss : List (Nat × Nat)}, (∀ c ∈ ss, c.1 < 2 ^ 30 ∧ c.2 < 2 ^ 30) → stepS y m ss = some (some p) →
    ∃ c ∈ ss, (c.1 &&& y) ||| (c.2 &&& m) = 0 ∧ p = (y ||| (c.1 - (c.1 &&& m)), m ||| (c.2 - (c.2 &&& y))) ∧ ∃ i, i < 30 ∧ (c.1 - (c.1 &&& m)) ||| (c.2 - (c.2 &&& y)) = 2 ^ i := by
  intro ss
  induction ss with
  | nil => intro _ h; cases h
  | cons c ss ih =>
    intro hs h
    have hc := hs c (List.mem_cons_self ..)
    simp only [stepS] at h
    have next : stepS y m ss = some (some p) → ∃ c' ∈ c :: ss, (c'.1 &&& y) ||| (c'.2 &&& m) = 0 ∧ p = (y ||| (c'.1 - (c'.1 &&& m)), m ||| (c'.2 - (c'.2 &&& y))) ∧ ∃ i, i < 30 ∧ (c'.1 - (c'.1 &&& m)) ||| (c'.2 - (c'.2 &&& y)) = 2 ^ i := fun h => by
      obtain ⟨c', a, b⟩ := ih (fun c hc => hs c (List.mem_cons_of_mem _ hc)) h
      exact ⟨c', List.mem_cons_of_mem _ a, b⟩
    split at h
    · rename_i h0
      split at h
      · cases h
      · split at h
        · rename_i h1
          have hz : (c.1 - (c.1 &&& m)) ||| (c.2 - (c.2 &&& y)) < 2 ^ 30 := Nat.or_lt_two_pow (Nat.lt_of_le_of_lt (Nat.sub_le _ _) hc.1) (Nat.lt_of_le_of_lt (Nat.sub_le _ _) hc.2)
          obtain ⟨i, hi, e⟩ := (popN_one (Nat.lt_of_lt_of_le hz (by decide))).1 h1
          refine ⟨c, List.mem_cons_self .., h0, by injection h with h; injection h with h; exact h.symm, i, ?_, e⟩
          rw [e] at hz
          exact (Nat.pow_lt_pow_iff_right (by decide)).1 hz
        · exact next h
    · exact next h
theorem stepS_free {y m : Nat} {p : Nat × Nat} (hy : y < 2 ^ 30) (hm : m < 2 ^ 30) {ss : List (Nat × Nat)} (hs : ∀ c ∈ ss, c.1 < 2 ^ 30 ∧ c.2 < 2 ^ 30) (h : stepS y m ss = some (some p)) : freeN (p.1 ||| p.2) < freeN (y ||| m) ∧ p.1 < 2 ^ 30 ∧ p.2 < 2 ^ 30 := by
  obtain ⟨c, hc, h0, rfl, i, hi, e⟩ := stepS_unit hy hm hs h
  have hc := hs c hc
  refine ⟨?_, Nat.or_lt_two_pow hy (Nat.lt_of_le_of_lt (Nat.sub_le _ _) hc.1), Nat.or_lt_two_pow hm (Nat.lt_of_le_of_lt (Nat.sub_le _ _) hc.2)⟩
  have e2 : (y ||| (c.1 - (c.1 &&& m))) ||| (m ||| (c.2 - (c.2 &&& y))) = (y ||| m) ||| 2 ^ i := by
    rw [← e]
    refine Nat.eq_of_testBit_eq fun j => ?_
    simp only [Nat.testBit_or]
    cases y.testBit j <;> cases m.testBit j <;> cases (c.1 - (c.1 &&& m)).testBit j <;> rfl
  rw [e2]
  refine freeN_lt hi ?_
  have hb := congrArg (fun z => z.testBit i) e
  have hz := (or_zero_iff _ _).1 h0 i
  simp only [Nat.testBit_or, testBit_andn, Nat.testBit_two_pow_self] at hb
  simp only [Nat.testBit_and] at hz
  rw [Nat.testBit_or]
  cases h1 : y.testBit i <;> cases h2 : m.testBit i <;> cases h3 : c.1.testBit i <;> cases h4 : c.2.testBit i <;> simp_all
section
variable {O : CallF} (hO : Oth O)
include hO
theorem lp119_0 {b : Nat} {x1 x2 : Int} {h₀ : Hp} (ok : h₀.Ok) {vars left : Int} {a a1 a2 : Option Addr} {n c n1 c1 n2 c2 : Nat} (hb : h₀.get b = some (.cells (baseC vars a n c a1 n1 c1 left a2 n2 c2) 128 .fix)) (hbn : b < h₀.nx) {ss : List (Nat × Nat)} (H : SidesAt2 h₀ a n ss) (hl : ss.length < 1000000) (hss : ∀ p ∈ ss, p.1 < 2 ^ 30 ∧ p.2 < 2 ^ 30) {b3 b4 : Nat} (hb3 : h₀.nx ≤ b3) (hb4 : h₀.nx ≤ b4) (h34 : b3 ≠ b4) {r : (Nat × Nat) × Bool} :
    ∀ (d : Nat) {y m : Nat}, y < 2 ^ 30 → m < 2 ^ 30 → freeN (y ||| m) < d → r = spreadF ss d y m → ∀ {h : Hp}, InvS h₀ b3 b4 y m h →
      I119_0 O (fun v h' => v = .tuple #[.agg #[U r.1.1, U r.1.2], .bool r.2] ∧ Kp h₀.nx h₀ h') b 0 x1 x2 b3 0 b4 0 false h := by
  intro d
  induction d with
  | zero => intro y m _ _ h; omega
  | succ d ih =>
    intro y m hy hm hd hr h I
    refine I119_0.of _ _ _ _ _ _ _ _ _ ?_
    intros
    unfold T119_0
    refine ⟨_, _, _, read1 (by rw [I.kp.get _ hbn]; exact hb) (i := 0 + 1) rfl, ?_⟩
    simp only [spreadF] at hr
    refine lp119_1 hO ok H hl hss hb3 hb4 h34 hy hm (fun h0 => by rw [h0] at hr; exact hr) (fun h1 => by rw [h1] at hr; exact hr) (fun p h2 h' I' => ?_) ss.length 0 (by omega) rfl I ..
    rw [h2] at hr
    obtain ⟨f1, f2, f3⟩ := stepS_free hy hm hss h2
    exact ih f2 f3 (by omega) hr I'
theorem ct119 {b : Nat} {h : Hp} (ok : h.Ok) {vars left : Int} {a a1 a2 : Option Addr} {n c n1 c1 n2 c2 : Nat} (hb : h.get b = some (.cells (baseC vars a n c a1 n1 c1 left a2 n2 c2) 128 .fix)) (hbn : b < h.nx) {ss : List (Nat × Nat)} (H : SidesAt2 h a n ss) (hl : ss.length < 1000000) (hss : ∀ p ∈ ss, p.1 < 2 ^ 30 ∧ p.2 < 2 ^ 30) {y m : Nat} (hy : y < 2 ^ 30) (hm : m < 2 ^ 30) :
    Ret Tryd.prog O 119 [.pointer (some ⟨b, 0, none⟩), .agg #[U y, U m]] h fun v h' => v = .tuple #[.agg #[U (spreadF ss 31 y m).1.1, U (spreadF ss 31 y m).1.2], .bool (spreadF ss 31 y m).2] ∧ Kp h.nx h h' := by
  refine rk119 _ _ _ _ (hO _ _ _ (by decide)) ?_
  unfold T119
  have hf := freeN_le (y ||| m)
  refine lp119_0 hO ok hb hbn H hl hss (Nat.le_refl _) (show h.nx ≤ h.nx + 1 by omega) (show h.nx ≠ h.nx + 1 by omega) 31 hy hm (by omega) rfl ⟨((Kp.refl _ h).add (Nat.le_refl _) _).add (by rw [nx_add]; omega) _, show h.nx < h.nx + 1 + 1 by omega, show h.nx + 1 < h.nx + 1 + 1 by omega, ?_, get_add_same ..⟩ ..
  rw [get_add_ne (by rw [nx_add]; omega), get_add_same]
/-- Literals are made true, one after the other; false: one was false. -/
def layN : List Int → Nat → Nat → (Nat × Nat) × Bool
  | [], y, m => ((y, m), true)
  | x :: xs, y, m => if (withN y m x).1 &&& (withN y m x).2 = 0 then layN xs (withN y m x).1 (withN y m x).2 else (withN y m x, false)
/-- Propagation from truths and literals. -/
def fromR (ss : List (Nat × Nat)) (xs : List Int) (y m : Nat) : (Nat × Nat) × Bool := if (layN xs y m).2 = true then spreadF ss 31 (layN xs y m).1.1 (layN xs y m).1.2 else layN xs y m
def fromN (ss : List (Nat × Nat)) (xs : List Int) : (Nat × Nat) × Bool := fromR ss xs 0 0
omit hO in
theorem fromR_cons (ss : List (Nat × Nat)) (x : Int) (xs : List Int) (y m : Nat) : fromR ss (x :: xs) y m = if (withN y m x).1 &&& (withN y m x).2 = 0 then fromR ss xs (withN y m x).1 (withN y m x).2 else (withN y m x, false) := by
  unfold fromR
  simp only [layN]
  split
  · rfl
  · rfl
/-- The inner loop: a list's literals are made true. -/
theorem lp89_1 {b : Nat} {a1 : Option Addr} {n1 c1 : Nat} {h₀ : Hp} (ok : h₀.Ok) {b4 b6 b18 : Nat} (hb4 : h₀.nx ≤ b4) (hb6 : h₀.nx ≤ b6) (hb18 : h₀.nx ≤ b18) (h46 : b4 ≠ b6) (h418 : b4 ≠ b18) (h618 : b6 ≠ b18) {cells : List Value} {x20 : Int} {ss : List (Nat × Nat)} {xs rest : List Int} (hl : xs.length < 1000000) (hx : ∀ x ∈ xs, Lit x) {r : (Nat × Nat) × Bool} {a : Option Addr} {n c : Nat} (X : IntsAt h₀ a n xs)
    (next : ∀ y m h, y < 2 ^ 30 → m < 2 ^ 30 → InvS h₀ b6 b4 y m h → b18 < h.nx → h.get b18 = some (.cells cells 32 .fix) → r = fromR ss rest y m → I89_0 O (fun v h' => v = .tuple #[.agg #[U r.1.1, U r.1.2], .bool r.2] ∧ Kp h₀.nx h₀ h') b 0 a1 n1 c1 b4 0 false b6 0 (some ⟨b18, 0, none⟩) 2 2 (wrapF .i64 (x20 + 1)) h) :
    ∀ (d k : Nat), k + d = xs.length → ∀ {y m : Nat} {h : Hp}, y < 2 ^ 30 → m < 2 ^ 30 → InvS h₀ b6 b4 y m h → b18 < h.nx → h.get b18 = some (.cells cells 32 .fix) → r = fromR ss (xs.drop k ++ rest) y m →
      I89_1 O (fun v h' => v = .tuple #[.agg #[U r.1.1, U r.1.2], .bool r.2] ∧ Kp h₀.nx h₀ h') b 0 a1 n1 c1 b4 0 false b6 0 (some ⟨b18, 0, none⟩) 2 2 x20 a n c (Int.ofNat n) (Int.ofNat k) h := by
  have hn := X.1
  intro d
  induction d with
  | zero =>
    intro k hk y m h hy hm I l18 g18 hr
    refine I89_1.of _ _ _ _ _ _ _ _ _ _ _ _ _ _ _ _ _ _ _ ?_
    intros
    unfold T89_1
    rw [List.drop_of_length_le (by omega), List.nil_append] at hr
    exact vcond_f (by rw [ltI_nat]; exact blt_f (by omega)) (next y m h hy hm I l18 g18 hr ..)
  | succ d ih =>
    intro k hk y m h hy hm I l18 g18 hr
    refine I89_1.of _ _ _ _ _ _ _ _ _ _ _ _ _ _ _ _ _ _ _ ?_
    intros
    unfold T89_1
    have X1 : IntsAt h a n xs := X.up EInt.up I.kp
    have e1 : xs.drop k = xs[k] :: xs.drop (k + 1) := List.drop_eq_getElem_cons (by omega)
    have hxk := hx xs[k] (List.getElem_mem _)
    rw [e1, List.cons_append, fromR_cons] at hr
    refine vcond_t (by rw [ltI_nat]; exact blt_t (by omega)) (isNat_of (X1.get (k := k) (by omega) fun b' off h1 h2 hrd => vreq_t (blt_t (by omega)) ⟨_, hrd, ?_⟩))
    obtain ⟨w1, w2⟩ := withN_lt hxk hy hm
    obtain ⟨v, h5, e5, rfl, K5⟩ := ct104 hO hxk hy hm (ok.kp I.kp)
    have I5 := I.of K5
    have ok5 := ok.kp I5.kp
    have gn : (h5.add (.cells [(.int .u32 0), (.int .u32 0)] 102 .fix)).get h5.nx = _ := get_add_same ..
    have gu : (h5.add (.cells [(.int .u32 0), (.int .u32 0)] 102 .fix)).guarded h5.nx = false := guarded_of fun q hq => by have := ok5.gd q hq; omega
    refine ⟨_, _, readAt_get I.g3 (by simp), _, _, _, _, e5, vreq_t (canW_t gn (by decide) gu (by simp) rfl) ?_⟩
    have gw : ((h5.add (.cells [(.int .u32 0), (.int .u32 0)] 102 .fix)).wr h5.nx 0 [U (withN y m xs[k]).1, U (withN y m xs[k]).2]).get h5.nx = some (.cells [U (withN y m xs[k]).1, U (withN y m xs[k]).2] 102 .fix) := wr_get gn (by decide) gu (by simp) rfl
    have kw : Kp h5.nx h5 ((h5.add (.cells [(.int .u32 0), (.int .u32 0)] 102 .fix)).wr h5.nx 0 [U (withN y m xs[k]).1, U (withN y m xs[k]).2]) := ((Kp.refl _ h5).add (Nat.le_refl _) _).wr (Nat.le_refl _) _ _
    have kk := K5.trans (kw.le K5.nx)
    generalize (h5.add (.cells [(.int .u32 0), (.int .u32 0)] 102 .fix)).wr h5.nx 0 [U (withN y m xs[k]).1, U (withN y m xs[k]).2] = hw at gw kw kk ⊢
    have Iw := I.of kk
    have g18w : hw.get b18 = some (.cells cells 32 .fix) := by rw [kk.get _ l18]; exact g18
    have l18w : b18 < hw.nx := Nat.lt_of_lt_of_le l18 kk.nx
    have gfree : ∀ o, h₀.nx ≤ o → hw.guarded o = false := fun o ho => guarded_of fun q hq => by
      rw [Iw.kp.gd] at hq
      have := ok.gd q hq; omega
    refine vcond_split (fun h3 => ?_) fun h3 => ?_
    · have h3 : ¬ ((withN y m xs[k]).1 &&& (withN y m xs[k]).2 = 0) := by simpa using h3
      rw [if_neg h3] at hr
      subst hr
      refine ⟨_, _, readAt_get gw (by simp), vreq_t (canW_t Iw.g4 (by decide) (gfree _ hb4) (by simp) rfl) ⟨_, _, readAt_get (wr_get Iw.g4 (by decide) (gfree _ hb4) (by simp) rfl) (by simp [putAt]), ?_, Iw.kp.wr hb4 _ _⟩⟩
      rfl
    · have h3 : (withN y m xs[k]).1 &&& (withN y m xs[k]).2 = 0 := by simpa using h3
      rw [if_pos h3] at hr
      refine ⟨_, _, readAt_get gw (by simp), vreq_t (canW_t Iw.g3 (by decide) (gfree _ hb6) (by simp) rfl) ?_⟩
      rw [wrap_succ (by omega)]
      have w3 := wr_get Iw.g3 (by decide) (gfree _ hb6) (off := 0) (vs := [U (withN y m xs[k]).1, U (withN y m xs[k]).2]) (by simp) rfl
      exact ih (k + 1) (by omega) w1 w2 ⟨Iw.kp.wr hb6 _ _, by rw [nx_wr]; exact Iw.l3, by rw [nx_wr]; exact Iw.l4, w3, by rw [wr_get_ne _ _ _ _ h46]; exact Iw.g4⟩ (by rw [nx_wr]; exact l18w) (by rw [wr_get_ne _ _ _ _ (Ne.symm h618)]; exact g18w) hr ..
theorem ct89 {b : Nat} {h : Hp} (ok : h.Ok) {vars left : Int} {a a1 a2 : Option Addr} {n c n1 c1 n2 c2 : Nat} (hb : h.get b = some (.cells (baseC vars a n c a1 n1 c1 left a2 n2 c2) 128 .fix)) (hbn : b < h.nx) {ss : List (Nat × Nat)} (H : SidesAt2 h a n ss) (hl : ss.length < 1000000) (hss : ∀ p ∈ ss, p.1 < 2 ^ 30 ∧ p.2 < 2 ^ 30)
    {gs xs : List Int} (G : IntsAt h a1 n1 gs) (hgl : gs.length < 1000000) (hg : ∀ x ∈ gs, Lit x) {am : Option Addr} {nm cm : Nat} (X : IntsAt h am nm xs) (hxl : xs.length < 1000000) (hx : ∀ x ∈ xs, Lit x) :
    Ret Tryd.prog O 89 [.pointer (some ⟨b, 0, none⟩), .slice am nm cm] h fun v h' => v = .tuple #[.agg #[U (fromN ss (gs ++ xs)).1.1, U (fromN ss (gs ++ xs)).1.2], .bool (fromN ss (gs ++ xs)).2] ∧ Kp h.nx h h' := by
  refine rk89 _ _ _ _ _ (hO _ _ _ (by decide)) ?_
  unfold T89
  have k2 : Kp h.nx h ((h.add (.cells [(.int .u32 0), (.int .u32 0)] 102 .fix)).add (.cells [(.int .u32 0), (.int .u32 0)] 102 .fix)) := ((Kp.refl _ h).add (Nat.le_refl _) _).add (by rw [nx_add]; omega) _
  refine ⟨_, _, _, read1 (by rw [k2.get _ hbn]; exact hb) (i := 0 + 2) rfl, ?_⟩
  -- the end
  have fin : ∀ y m h', y < 2 ^ 30 → m < 2 ^ 30 → InvS h (h.nx + 1) h.nx y m h' → fromN ss (gs ++ xs) = fromR ss [] y m → I89_0 O (fun v h' => v = .tuple #[.agg #[U (fromN ss (gs ++ xs)).1.1, U (fromN ss (gs ++ xs)).1.2], .bool (fromN ss (gs ++ xs)).2] ∧ Kp h.nx h h') b 0 am nm cm h.nx 0 false (h.nx + 1) 0 (some ⟨h.nx + 2, 0, none⟩) 2 2 2 h' := by
    intro y m h' hy hm I hr
    refine I89_0.of _ _ _ _ _ _ _ _ _ _ _ _ _ _ ?_
    intros
    unfold T89_0
    have hr : fromN ss (gs ++ xs) = spreadF ss 31 y m := hr
    obtain ⟨v, h5, e5, rfl, K5⟩ := ct119 hO (ok.kp I.kp) (show h'.get b = _ by rw [I.kp.get _ hbn]; exact hb) (Nat.lt_of_lt_of_le hbn I.kp.nx) (H.up (ECells.up uu) I.kp) hl hss hy hm
    have I5 := I.of K5
    have gu : h5.guarded h.nx = false := guarded_of fun q hq => by
      rw [I5.kp.gd] at hq
      have := ok.gd q hq; omega
    refine vcond_f rfl ⟨_, _, readAt_get I.g3 (by simp), _, _, _, _, e5, vreq_t (canW_t I5.g4 (by decide) gu (by simp) rfl) ⟨_, _, readAt_get (wr_get I5.g4 (by decide) gu (by simp) rfl) (by simp [putAt]), ?_, I5.kp.wr (Nat.le_refl _) _ _⟩⟩
    rw [hr]
  -- what is asked
  have more : ∀ y m h', y < 2 ^ 30 → m < 2 ^ 30 → InvS h (h.nx + 1) h.nx y m h' → h.nx + 2 < h'.nx → h'.get (h.nx + 2) = some (.cells [.slice a1 n1 c1, .slice am nm cm] 32 .fix) → fromN ss (gs ++ xs) = fromR ss xs y m → I89_0 O (fun v h' => v = .tuple #[.agg #[U (fromN ss (gs ++ xs)).1.1, U (fromN ss (gs ++ xs)).1.2], .bool (fromN ss (gs ++ xs)).2] ∧ Kp h.nx h h') b 0 am nm cm h.nx 0 false (h.nx + 1) 0 (some ⟨h.nx + 2, 0, none⟩) 2 2 1 h' := by
    intro y m h' hy hm I l18 g18 hr
    refine I89_0.of _ _ _ _ _ _ _ _ _ _ _ _ _ _ ?_
    intros
    unfold T89_0
    refine vcond_t rfl (isNat_of (n := 1) (show vreq (Nat.blt 1 2) _ from vreq_t rfl ⟨_, _, _, read1 g18 (i := 0 + 1 * 1) rfl, ?_⟩))
    exact lp89_1 hO ok (Nat.le_refl _) (by omega) (by omega) (by omega) (by omega) (by omega) (rest := []) hxl hx X (fun y m h' hy hm I _ _ hr => fin y m h' hy hm I hr) xs.length 0 (by omega) hy hm I l18 g18 (by rw [List.drop_zero, List.append_nil]; exact hr) ..
  have I0 : InvS h (h.nx + 1) h.nx 0 0 (((h.add (.cells [(.int .u32 0), (.int .u32 0)] 102 .fix)).add (.cells [(.int .u32 0), (.int .u32 0)] 102 .fix)).add (.cells [.slice a1 n1 c1, .slice am nm cm] 32 .fix)) :=
    ⟨k2.add k2.nx _, show h.nx + 1 < h.nx + 1 + 1 + 1 by omega, show h.nx < h.nx + 1 + 1 + 1 by omega, by rw [get_add_ne (show h.nx + 1 ≠ h.nx + 1 + 1 by omega)]; exact get_add_same .., by rw [get_add_ne (show h.nx ≠ h.nx + 1 + 1 by omega), get_add_ne (show h.nx ≠ h.nx + 1 by omega)]; exact get_add_same ..⟩
  have g18 : (((h.add (.cells [(.int .u32 0), (.int .u32 0)] 102 .fix)).add (.cells [(.int .u32 0), (.int .u32 0)] 102 .fix)).add (.cells [.slice a1 n1 c1, .slice am nm cm] 32 .fix)).get (h.nx + 2) = some (.cells [.slice a1 n1 c1, .slice am nm cm] 32 .fix) := get_add_same ..
  refine I89_0.of _ _ _ _ _ _ _ _ _ _ _ _ _ _ ?_ ..
  intros
  unfold T89_0
  refine vcond_t rfl (isNat_of (n := 0) (show vreq (Nat.blt 0 2) _ from vreq_t rfl ⟨_, _, _, read1 g18 (i := 0 + 0 * 1) rfl, ?_⟩))
  exact lp89_1 hO ok (Nat.le_refl _) (by omega) (by omega) (by omega) (by omega) (by omega) (rest := xs) hgl hg G (fun y m h' hy hm I l g hr => more y m h' hy hm I l g hr) gs.length 0 (by omega) (y := 0) (m := 0) (by decide) (by decide) I0 (show h.nx + 2 < h.nx + 1 + 1 + 1 by omega) g18 rfl ..
/-- Does propagation clash? -/
theorem ct95 {b : Nat} {h : Hp} (ok : h.Ok) {vars left : Int} {a a1 a2 : Option Addr} {n c n1 c1 n2 c2 : Nat} (hb : h.get b = some (.cells (baseC vars a n c a1 n1 c1 left a2 n2 c2) 128 .fix)) (hbn : b < h.nx) {ss : List (Nat × Nat)} (H : SidesAt2 h a n ss) (hl : ss.length < 1000000) (hss : ∀ p ∈ ss, p.1 < 2 ^ 30 ∧ p.2 < 2 ^ 30)
    {gs xs : List Int} (G : IntsAt h a1 n1 gs) (hgl : gs.length < 1000000) (hg : ∀ x ∈ gs, Lit x) {am : Option Addr} {nm cm : Nat} (X : IntsAt h am nm xs) (hxl : xs.length < 1000000) (hx : ∀ x ∈ xs, Lit x) :
    Ret Tryd.prog O 95 [.pointer (some ⟨b, 0, none⟩), .slice am nm cm] h fun v h' => v = .bool (!(fromN ss (gs ++ xs)).2) ∧ Kp h.nx h h' := by
  refine rk95 _ _ _ _ _ (hO _ _ _ (by decide)) ?_
  unfold T95
  obtain ⟨v, h5, e5, rfl, K5⟩ := ct89 hO ok hb hbn H hl hss G hgl hg X hxl hx (cm := cm)
  have ok5 := ok.kp K5
  have gn : (h5.add (.cells [(.int .u32 0), (.int .u32 0)] 102 .fix)).get h5.nx = _ := get_add_same ..
  have gu : (h5.add (.cells [(.int .u32 0), (.int .u32 0)] 102 .fix)).guarded h5.nx = false := guarded_of fun q hq => by have := ok5.gd q hq; omega
  exact ⟨_, _, _, _, e5, vreq_t (canW_t gn (by decide) gu (by simp) rfl) ⟨rfl, (K5.add K5.nx _).wr K5.nx _ _⟩⟩
/-- Are a formula, and literals, as they should be? -/
def askB (vars : Int) (cls : List (List Int)) (gs : List Int) : Bool := formB vars cls && clB vars 0 gs
theorem ct78 {a a1 : Option Addr} {n c n1 c1 : Nat} {vars : Int} {h : Hp} {cls : List (List Int)} {gs : List Int} (H : IntssAt h a n cls) (hl : cls.length < 1000000) (hll : ∀ l ∈ cls, l.length < 1000000) (G : IntsAt h a1 n1 gs) (hgl : gs.length < 1000000) :
    Ret Tryd.prog O 78 [Fm vars a n c, .slice a1 n1 c1] h fun v h' => v = .int .i64 (if askB vars cls gs = true then 0 else 2) ∧ Kp h.nx h h' := by
  refine rk78 _ _ _ _ _ _ _ (hO _ _ _ (by decide)) ?_
  unfold T78
  have kp := fm_kp h vars a n c
  have g := fm_get h vars a n c
  obtain ⟨v1, h1, e1, rfl, K1⟩ := ct31 hO (c := c) (vars := vars) (H.up EInts.up kp) hl hll
  have k1 : Kp h.nx h h1 := kp.trans (K1.le kp.nx)
  have g1 : h1.get h.nx = some (.cells [.int .i64 vars, .slice a n c] 30 .fix) := by rw [K1.get _ (by rw [nx_add]; omega)]; exact g
  refine ⟨_, _, _, _, readAt_get g (by simp), _, _, e1, vcond_split (fun h2 => ?_) fun h2 => ?_⟩
  · have hf : formB vars cls = true := by
      cases hf : formB vars cls with
      | true => rfl
      | false => rw [hf] at h2; exact absurd (eq_of_t h2) (by decide)
    refine ⟨_, read1 g1 rfl, _, _, ct87 hO vars (G.up EInt.up k1) hgl (c := c1), vcond_split (fun h3 => ?_) fun h3 => ?_⟩
    · have h3 : clB vars 0 gs = false := by simpa using h3
      unfold askB; rw [hf, h3]; exact ⟨rfl, k1⟩
    · have h3 : clB vars 0 gs = true := by simpa using h3
      unfold askB; rw [hf, h3]; exact ⟨rfl, k1⟩
  · have hf : formB vars cls = false := by
      cases hf : formB vars cls with
      | false => rfl
      | true => rw [hf] at h2; exact absurd (eqI_t rfl) (by rw [if_pos rfl] at h2; rw [h2]; decide)
    unfold askB; rw [hf]; exact ⟨rfl, k1⟩
end
end Go.Proofs.YtfgfhplgnfbaaaaDoor
/- Contracts of functions of layer 20's reference: truths, laid and propagated. -/
namespace Go.Proofs.YtfgfhplgnfbaaaaDoor
open Go Go.Ev
/-- Truths in a row of their own. -/
def TsAt (h : Hp) (b : Nat) (ts : List Int) : Prop := b < h.nx ∧ h.get b = some (.cells (ts.map (Value.int .i64)) 3 .fix)
theorem TsAt.ints {h : Hp} {b : Nat} {ts : List Int} (T : TsAt h b ts) : IntsAt h (some ⟨b, 0, none⟩) ts.length ts :=
  ⟨rfl, .inr ⟨b, 0, _, _, _, rfl, T.1, T.2, by simp, fun i hi => by
    show ((ts.map (Value.int .i64)).drop (0 + i * 1)).take 1 = [.int .i64 ts[i]]
    rw [Nat.zero_add, Nat.mul_one, List.drop_eq_getElem_cons (by simpa using hi)]
    simp only [List.getElem_map, List.take_succ_cons, List.take_zero]⟩⟩
def TV (ts : List Int) : Prop := ∀ t ∈ ts, -1 ≤ t ∧ t ≤ 1
/-- A literal is made true; false: it was false. -/
def layR (ts : List Int) (x : Int) : List Int × Bool := if tvR ts x < 0 then (ts, false) else (ts.set x.natAbs (if x < 0 then -1 else 1), true)
theorem layR_len (ts : List Int) (x : Int) : (layR ts x).1.length = ts.length := by unfold layR; split <;> simp
theorem TV.lay {ts : List Int} (h : TV ts) (x : Int) : TV (layR ts x).1 := by
  unfold layR
  split
  · exact h
  · intro t ht
    rcases List.mem_or_eq_of_mem_set ht with ht | rfl
    · exact h t ht
    · split <;> omega
theorem putAt_set {ts : List Int} {k : Nat} {z : Int} (hk : k < ts.length) : putAt (ts.map (Value.int .i64)) k [.int .i64 z] = (ts.set k z).map (Value.int .i64) := by
  refine List.ext_getElem? fun i => ?_
  rw [putAt_get _ _ _ (by simp; omega)]
  simp only [List.getElem?_map, List.getElem?_set, List.length_singleton]
  by_cases h1 : k ≤ i ∧ i < k + 1
  · obtain rfl : i = k := by omega
    rw [if_pos h1, if_pos rfl, if_pos hk, Nat.sub_self]; rfl
  · rw [if_neg h1, if_neg (by omega)]
theorem readAt_kp {hb h : Hp} (K : Kp hb.nx hb h) {b : Nat} (hbb : b < hb.nx) (off n : Nat) : readAt h b off n = readAt hb b off n := by
  unfold readAt
  rw [K.get b hbb]
/-- How many literals are open, and the last of them. -/
def openR (ts : List Int) : List Int → Nat → Int → Nat × Int
  | [], n, z => (n, z)
  | x :: xs, n, z => if tvR ts x = 0 then openR ts xs (n + 1) x else openR ts xs n z
/-- A pass over the clauses: the truths, whether something became true, whether it clashes. -/
def stepR : List (List Int) → List Int → Bool → List Int × Bool × Bool
  | [], ts, more => (ts, more, false)
  | l :: ls, ts, more => if satR ts l = true then stepR ls ts more else
      if 1 < (openR ts l 0 0).1 then stepR ls ts more else
      if (openR ts l 0 0).1 = 0 then (ts, false, true) else stepR ls (layR ts (openR ts l 0 0).2).1 true
theorem openR_mem {ts : List Int} : ∀ {xs : List Int} {n : Nat} {z : Int}, n ≤ (openR ts xs n z).1 ∧ ((openR ts xs n z).1 = n ∨ (openR ts xs n z).2 ∈ xs) ∧ (openR ts xs n z).1 ≤ n + xs.length := by
  intro xs
  induction xs with
  | nil => intro n z; exact ⟨Nat.le_refl _, .inl rfl, Nat.le_refl _⟩
  | cons x xs ih =>
    intro n z
    simp only [openR, List.length_cons]
    split
    · obtain ⟨a, b, c⟩ := ih (n := n + 1) (z := x)
      refine ⟨by omega, ?_, by omega⟩
      rcases b with b | b
      · right
        have : (openR ts xs (n + 1) x).1 = n + 1 := b
        -- no later one is open
        clear ih
        have key : ∀ (xs : List Int) (n : Nat) (z : Int), (openR ts xs n z).1 = n → (openR ts xs n z).2 = z := by
          intro xs
          induction xs with
          | nil => intro n z _; rfl
          | cons x xs ih =>
            intro n z h
            simp only [openR] at h ⊢
            split
            · rename_i h0
              rw [if_pos h0] at h
              have mono : ∀ (xs : List Int) (n : Nat) (z : Int), n ≤ (openR ts xs n z).1 := by
                intro xs
                induction xs with
                | nil => intro n z; exact Nat.le_refl _
                | cons x xs ih =>
                  intro n z
                  simp only [openR]
                  split
                  · have := ih (n + 1) x; omega
                  · exact ih n z
              have := mono xs (n + 1) x
              omega
            · rename_i h0
              rw [if_neg h0] at h
              exact ih n z h
        rw [key xs (n + 1) x this]
        exact List.mem_cons_self ..
      · exact .inr (List.mem_cons_of_mem _ b)
    · obtain ⟨a, b, c⟩ := ih (n := n) (z := z)
      exact ⟨a, b.imp id (List.mem_cons_of_mem _), by omega⟩
section
variable {O : CallF} (hO : Oth O)
include hO
theorem ct98l {x : Int} (hx : Lit x) (h : Hp) : EvT O 98 [.int .i64 x] h (.int .i64 (Int.ofNat x.natAbs)) h := by
  have := ct98 hO x h
  rw [varI_lit2 hx] at this
  exact this
theorem ct121 {b : Nat} {ts : List Int} {h : Hp} {base c : Nat} (hb : base ≤ b) (ok : ∀ q ∈ h.gd, q < base) (T : TsAt h b ts) (tv : TV ts) {x : Int} (hx : Lit x) (hx2 : x.natAbs < ts.length) :
    Ret Tryd.prog O 121 [.slice (some ⟨b, 0, none⟩) ts.length c, .int .i64 x] h fun v h' => v = .bool (layR ts x).2 ∧ TsAt h' b (layR ts x).1 ∧ Kp base h h' := by
  refine rk121 _ _ _ _ (hO _ _ _ (by decide)) ?_
  unfold T121
  have hl := hx.2
  have gu : ∀ {h' : Hp}, h'.gd = h.gd → h'.guarded b = false := fun e => guarded_of fun q hq => by rw [e] at hq; have := ok q hq; omega
  refine ⟨_, _, ct118 hO T.ints tv hx hx2, vcond_split (fun h1 => ?_) fun h1 => ?_⟩
  · have h1 := lt_of_t h1
    unfold layR
    rw [if_pos h1]
    exact ⟨rfl, T, .refl _ _⟩
  · have h1 := not_lt_of_f h1
    have w1 := wr_get T.2 (by decide) (gu rfl) (off := 0 + x.natAbs * 1) (vs := [.int .i64 1]) (by simp; omega) rfl
    have cw := canW_t T.2 (by decide) (gu rfl) (off := 0 + x.natAbs * 1) (vs := [.int .i64 1]) (by simp; omega) rfl
    refine ⟨_, _, ct98l hO hx h, isNat_of (show isAddr (some ⟨b, 0, none⟩) _ from vreq_t (blt_t hx2) (vreq_t cw ?_))⟩
    rw [show 0 + x.natAbs * 1 = x.natAbs by omega, putAt_set hx2] at w1
    have e0 : 0 + x.natAbs * 1 = x.natAbs := by omega
    rw [e0]
    have k1 : Kp base h (h.wr b x.natAbs [.int .i64 1]) := (Kp.refl base h).wr hb _ _
    unfold layR
    rw [if_neg h1]
    refine vcond_split (fun h2 => ?_) fun h2 => ?_
    · have h2 := lt_of_t h2
      have e : wrapF .i64 (0 - x) = Int.ofNat x.natAbs := by rw [wrap64 (by omega) (by omega)]; simp only [Int.ofNat_eq_natCast]; omega
      rw [e]
      have w2 := wr_get w1 (by decide) (gu (gd_wr ..)) (off := 0 + x.natAbs * 1) (vs := [.int .i64 (-1)]) (by simp; omega) rfl
      have cw2 := canW_t w1 (by decide) (gu (gd_wr ..)) (off := 0 + x.natAbs * 1) (vs := [.int .i64 (-1)]) (by simp; omega) rfl
      refine isNat_of (show isAddr (some ⟨b, 0, none⟩) _ from vreq_t (blt_t hx2) (vreq_t cw2 ⟨rfl, ⟨by rw [nx_wr, nx_wr]; exact T.1, ?_⟩, k1.wr hb _ _⟩))
      rw [w2, e0, putAt_set (by simpa using hx2), if_pos h2]
      simp
    · have h2 := not_lt_of_f h2
      rw [if_neg h2]
      exact ⟨rfl, ⟨by rw [nx_wr]; exact T.1, w1⟩, k1⟩
/-- What a pass leaves. -/
def QStep (hb : Hp) (b : Nat) (R : List Int × Bool × Bool) (v : Value) (h' : Hp) : Prop := v = .tuple #[.bool R.2.1, .bool R.2.2] ∧ TsAt h' b R.1 ∧ Kp hb.nx hb h'
/-- The inner loop: a clause's literals are looked at. -/
theorem lp122_1 {hb : Hp} (ok : hb.Ok) {b N cN : Nat} (hbb : hb.nx ≤ b) {a : Option Addr} {n c : Nat} {l : List Int} (hll : l.length < 1000000) {ts : List Int} (hN : ts.length = N) (tv : TV ts) (hl : ∀ x ∈ l, Lit x ∧ x.natAbs < N) {more : Bool} {R : List Int × Bool × Bool} {x7 : Int} {a8 : Option Addr} {n8 c8 : Nat} (X : IntsAt hb a8 n8 l)
    (next : ∀ ts' more' h, TV ts' → ts'.length = N → TsAt h b ts' → Kp hb.nx hb h → (satR ts l = true ∨ 1 < (openR ts l 0 0).1 → ts' = ts ∧ more' = more) → (¬ (satR ts l = true ∨ 1 < (openR ts l 0 0).1) → (openR ts l 0 0).1 ≠ 0 ∧ ts' = (layR ts (openR ts l 0 0).2).1 ∧ more' = true) → I122_0 O (QStep hb b R) (some ⟨b, 0, none⟩) N cN a n c false false more' (wrapF .i64 (x7 + 1)) h)
    (clash : ¬ (satR ts l = true ∨ 1 < (openR ts l 0 0).1) → (openR ts l 0 0).1 = 0 → R = (ts, false, true)) :
    ∀ (d k : Nat), k + d = l.length → ∀ {cnt : Nat} {z : Int} {h : Hp}, cnt ≤ k → openR ts (l.drop k) cnt z = openR ts l 0 0 → TsAt h b ts → Kp hb.nx hb h →
      I122_1 O (QStep hb b R) (some ⟨b, 0, none⟩) N cN a n c false false more x7 a8 n8 c8 (Int.ofNat cnt) z (Int.ofNat k) h := by
  have hn := X.1
  subst hN
  intro d
  induction d with
  | zero =>
    intro k hk cnt z h hc he T K
    refine I122_1.of _ _ _ _ _ _ _ _ _ _ _ _ _ _ _ _ ?_
    intros
    unfold T122_1
    rw [List.drop_of_length_le (by omega)] at he
    have he : (cnt, z) = openR ts l 0 0 := he
    have X1 : IntsAt h a8 n8 l := X.up EInt.up K
    have mem := openR_mem (ts := ts) (xs := l) (n := 0) (z := 0)
    rw [← he] at next clash mem
    refine vcond_f (by rw [ltI_nat]; exact blt_f (by omega)) ⟨_, _, ct86 hO T.ints tv X1 hll hl, vcond_split (fun h1 => ?_) fun h1 => vcond_split (fun h2 => ?_) fun h2 => vcond_split (fun h3 => ?_) fun h3 => ?_⟩
    · exact next ts more h tv rfl T K (fun _ => ⟨rfl, rfl⟩) (fun hh => absurd (.inl h1) hh) ..
    · have h2 : 1 < cnt := by have := lt_of_t h2; simp only [Int.ofNat_eq_natCast] at this; omega
      exact next ts more h tv rfl T K (fun _ => ⟨rfl, rfl⟩) (fun hh => absurd (.inr h2) hh) ..
    · have h2 : ¬ 1 < cnt := by have := not_lt_of_f h2; simp only [Int.ofNat_eq_natCast] at this; omega
      have h3 : cnt = 0 := Int.ofNat.inj (eq_of_t h3)
      obtain rfl := clash (by rintro (hh | hh); · rw [h1] at hh; cases hh
                              · exact h2 hh) h3
      exact ⟨rfl, T, K⟩
    · have h2 : ¬ 1 < cnt := by have := not_lt_of_f h2; simp only [Int.ofNat_eq_natCast] at this; omega
      have h3 : cnt ≠ 0 := fun hh => ne_of_f h3 (by rw [hh]; rfl)
      have hz : z ∈ l := mem.2.1.resolve_left h3
      obtain ⟨v, h5, e5, rfl, T5, K5⟩ := ct121 hO (c := cN) hbb (fun q hq => by rw [K.gd] at hq; exact ok.gd q hq) T tv (hl z hz).1 (hl z hz).2
      have hns : ¬ (satR ts l = true ∨ 1 < cnt) := by
        rintro (hh | hh)
        · rw [h1] at hh; cases hh
        · exact h2 hh
      exact ⟨_, _, e5, next _ true h5 (tv.lay z) (layR_len ts z) T5 (K.trans K5) (fun hh => absurd hh hns) (fun _ => ⟨h3, rfl, rfl⟩) ..⟩
  | succ d ih =>
    intro k hk cnt z h hc he T K
    refine I122_1.of _ _ _ _ _ _ _ _ _ _ _ _ _ _ _ _ ?_
    intros
    unfold T122_1
    have X1 : IntsAt h a8 n8 l := X.up EInt.up K
    have e1 : l.drop k = l[k] :: l.drop (k + 1) := List.drop_eq_getElem_cons (by omega)
    rw [e1] at he
    simp only [openR] at he
    have hx := hl l[k] (List.getElem_mem _)
    refine vcond_t (by rw [ltI_nat]; exact blt_t (by omega)) (isNat_of (X1.get (k := k) (by omega) fun b' off _ _ hrd => vreq_t (blt_t (by omega)) ⟨_, hrd, _, _, ct118 hO T.ints tv hx.1 hx.2, vcond_split (fun h1 => ?_) fun h1 => ?_⟩))
    · rw [if_pos (eq_of_t h1)] at he
      refine isNat_of (X1.get (k := k) (by omega) fun b' off _ _ hrd => vreq_t (blt_t (by omega)) ⟨_, hrd, ?_⟩)
      rw [wrap_succ (by omega), wrap_succ (by omega)]
      exact ih (k + 1) (by omega) (by omega) he T K ..
    · rw [if_neg (ne_of_f h1)] at he
      rw [wrap_succ (by omega)]
      exact ih (k + 1) (by omega) (by omega) he T K ..
theorem lp122_0 {hb : Hp} (ok : hb.Ok) {b N cN : Nat} (hbb : hb.nx ≤ b) {a : Option Addr} {n c : Nat} {cls : List (List Int)} (H : IntssAt hb a n cls) (hl : cls.length < 1000000) (hll : ∀ l ∈ cls, l.length < 1000000) (hlit : ∀ l ∈ cls, ∀ x ∈ l, Lit x ∧ x.natAbs < N) {R : List Int × Bool × Bool} :
    ∀ (d k : Nat), k + d = cls.length → ∀ {ts : List Int} {more : Bool} {h : Hp}, TV ts → ts.length = N → TsAt h b ts → Kp hb.nx hb h → R = stepR (cls.drop k) ts more → I122_0 O (QStep hb b R) (some ⟨b, 0, none⟩) N cN a n c false false more (Int.ofNat k) h := by
  have hn := H.1
  intro d
  induction d with
  | zero =>
    intro k hk ts more h tv hN T K hr
    refine I122_0.of _ _ _ _ _ _ _ _ _ _ ?_
    intros
    unfold T122_0
    rw [List.drop_of_length_le (by omega)] at hr
    subst hr
    exact vcond_f (by rw [ltI_nat]; exact blt_f (by omega)) ⟨rfl, T, K⟩
  | succ d ih =>
    intro k hk ts more h tv hN T K hr
    refine I122_0.of _ _ _ _ _ _ _ _ _ _ ?_
    intros
    unfold T122_0
    have e1 : cls.drop k = cls[k] :: cls.drop (k + 1) := List.drop_eq_getElem_cons (by omega)
    rw [e1] at hr
    simp only [stepR] at hr
    have hm : cls[k] ∈ cls := List.getElem_mem _
    refine vcond_t (by rw [ltI_nat]; exact blt_t (by omega)) (isNat_of (H.get (k := k) (by omega) fun b' off a' n' c' _ hlt hrd Y => vreq_t (blt_t (by omega)) ⟨_, _, _, by rw [readAt_kp K hlt]; exact hrd, ?_⟩))
    refine lp122_1 hO ok hbb (hll _ hm) hN tv (hlit _ hm) Y (R := R) (fun ts' more' h' tv' hN' T' K' f1 f2 => ?_) (fun f1 f2 => ?_) cls[k].length 0 (by omega) (Nat.le_refl _) rfl T K ..
    · rw [wrap_succ (by omega)]
      refine ih (k + 1) (by omega) tv' hN' T' K' ?_
      by_cases hc : satR ts cls[k] = true ∨ 1 < (openR ts cls[k] 0 0).1
      · obtain ⟨rfl, rfl⟩ := f1 hc
        rcases hc with hc | hc
        · rw [if_pos hc] at hr; exact hr
        · by_cases h0 : satR ts' cls[k] = true
          · rw [if_pos h0] at hr; exact hr
          · rw [if_neg h0, if_pos hc] at hr; exact hr
      · obtain ⟨g1, rfl, rfl⟩ := f2 hc
        rw [if_neg (fun hh => hc (.inl hh)), if_neg (fun hh => hc (.inr hh)), if_neg g1] at hr
        exact hr
    · rw [if_neg (fun hh => f1 (.inl hh)), if_neg (fun hh => f1 (.inr hh)), if_pos f2] at hr
      exact hr
theorem ct122 {hb : Hp} (ok : hb.Ok) {b cN : Nat} (hbb : hb.nx ≤ b) {a : Option Addr} {n c : Nat} {cls : List (List Int)} (H : IntssAt hb a n cls) (hl : cls.length < 1000000) (hll : ∀ l ∈ cls, l.length < 1000000) {ts : List Int} (hlit : ∀ l ∈ cls, ∀ x ∈ l, Lit x ∧ x.natAbs < ts.length) {h : Hp} (tv : TV ts) (T : TsAt h b ts) (K : Kp hb.nx hb h) :
    Ret Tryd.prog O 122 [.slice (some ⟨b, 0, none⟩) ts.length cN, .slice a n c] h (QStep hb b (stepR cls ts false)) := by
  refine rk122 _ _ _ _ _ _ (hO _ _ _ (by decide)) ?_
  unfold T122
  exact lp122_0 hO ok hbb H hl hll hlit cls.length 0 (by omega) tv rfl T K rfl ..
end
end Go.Proofs.YtfgfhplgnfbaaaaDoor
/- Contracts of functions of layer 20's reference: propagation to its end. -/
namespace Go.Proofs.YtfgfhplgnfbaaaaDoor
open Go Go.Ev
def layRs : List Int → List Int → List Int × Bool
  | ts, [] => (ts, true)
  | ts, x :: xs => if (layR ts x).2 = true then layRs (layR ts x).1 xs else ((layR ts x).1, false)
def loopR (cls : List (List Int)) : Nat → List Int → List Int × Bool
  | 0, ts => (ts, true)
  | d + 1, ts => if (stepR cls ts false).2.1 = true then loopR cls d (stepR cls ts false).1 else ((stepR cls ts false).1, !(stepR cls ts false).2.2)
def endR (cls : List (List Int)) (r : List Int × Bool) : List Int × Bool := if r.2 = true then loopR cls 32 r.1 else ([], false)
/-- Propagation from literals: the truths, and whether it is calm. -/
def propR (vars : Nat) (cls : List (List Int)) (xs : List Int) : List Int × Bool := endR cls (layRs (List.replicate (vars + 1) 0) xs)
def zeros (ts : List Int) : Nat := (ts.filter (· == 0)).length
theorem zeros_set : ∀ {ts : List Int} {k : Nat} {z : Int} (hk : k < ts.length), ts[k] = 0 → z ≠ 0 → zeros (ts.set k z) < zeros ts := by
  intro ts
  induction ts with
  | nil => intro k z hk; simp at hk
  | cons t ts ih =>
    intro k z hk h0 hz
    unfold zeros
    cases k with
    | zero =>
      have h0 : t = 0 := h0
      subst h0
      have : (z == 0) = false := by simpa using hz
      simp [List.filter_cons, this]
    | succ k =>
      have := ih (k := k) (z := z) (by simpa using hk) h0 hz
      unfold zeros at this
      simp only [List.set_cons_succ, List.filter_cons]
      split <;> simp <;> omega
theorem openR_zero {ts : List Int} : ∀ {xs : List Int} {n : Nat} {z : Int}, (tvR ts z = 0 ∨ n = 0) → (openR ts xs n z).1 ≠ 0 → tvR ts (openR ts xs n z).2 = 0 := by
  intro xs
  induction xs with
  | nil => intro n z h h2; exact h.resolve_right h2
  | cons x xs ih =>
    intro n z h h2
    simp only [openR] at h2 ⊢
    split
    · rename_i h0
      rw [if_pos h0] at h2
      exact ih (.inl h0) h2
    · rename_i h0
      rw [if_neg h0] at h2
      exact ih h h2
theorem tvR_nat {ts : List Int} {x : Int} (hx : x.natAbs < ts.length) : tvR ts x = if x < 0 then -ts[x.natAbs] else ts[x.natAbs] := by
  unfold tvR
  split
  · rw [show (-x).toNat = x.natAbs by omega, List.getD_eq_getElem?_getD, List.getElem?_eq_getElem hx]; rfl
  · rw [show x.toNat = x.natAbs by omega, List.getD_eq_getElem?_getD, List.getElem?_eq_getElem hx]; rfl
theorem lay_zeros {ts : List Int} {x : Int} (hx : x.natAbs < ts.length) (h : tvR ts x = 0) : zeros (layR ts x).1 < zeros ts := by
  unfold layR
  rw [if_neg (by omega)]
  refine zeros_set hx ?_ (by split <;> omega)
  rw [tvR_nat hx] at h
  split at h <;> omega
theorem stepR_zeros {N : Nat} : ∀ {cls : List (List Int)} {ts : List Int} {more : Bool}, ts.length = N → (∀ l ∈ cls, ∀ x ∈ l, Lit x ∧ x.natAbs < N) → TV ts →
    (stepR cls ts more).1.length = N ∧ TV (stepR cls ts more).1 ∧ zeros (stepR cls ts more).1 ≤ zeros ts ∧ ((stepR cls ts more).2.1 = true → more = true ∨ zeros (stepR cls ts more).1 < zeros ts) ∧ ((stepR cls ts more).2.1 = true → (stepR cls ts more).2.2 = false) := by
  intro cls
  induction cls with
  | nil => intro ts more hN _ tv; exact ⟨hN, tv, Nat.le_refl _, fun h => .inl h, fun _ => rfl⟩
  | cons l cls ih =>
    intro ts more hN hl tv
    have hl' : ∀ l ∈ cls, ∀ x ∈ l, Lit x ∧ x.natAbs < N := fun l h => hl l (List.mem_cons_of_mem _ h)
    simp only [stepR]
    split
    · exact ih hN hl' tv
    · split
      · exact ih hN hl' tv
      · split
        · exact ⟨hN, tv, Nat.le_refl _, fun h => by simp at h, fun h => by simp at h⟩
        · rename_i h1 h2 h3
          have hz := openR_zero (ts := ts) (xs := l) (n := 0) (z := 0) (.inr rfl) h3
          have hm := (openR_mem (ts := ts) (xs := l) (n := 0) (z := 0)).2.1.resolve_left h3
          have hx := hl l (List.mem_cons_self ..) _ hm
          have hlt := lay_zeros (by rw [hN]; exact hx.2) hz
          obtain ⟨a, b, c, _, e⟩ := ih (ts := (layR ts (openR ts l 0 0).2).1) (more := true) (by rw [layR_len]; exact hN) hl' (tv.lay _)
          exact ⟨a, b, by omega, fun _ => .inr (by omega), e⟩
section
variable {O : CallF} (hO : Oth O)
include hO
/-- What propagation leaves. -/
def QProp (hb : Hp) (P : List Int × Bool) (v : Value) (h' : Hp) : Prop := ∃ a n c, v = .tuple #[.slice a n c, .bool P.2] ∧ Kp hb.nx hb h' ∧ (P.2 = true → ∃ b, a = some ⟨b, 0, none⟩ ∧ hb.nx ≤ b ∧ TsAt h' b P.1 ∧ n = P.1.length)
theorem lp92_1 {hb : Hp} (ok : hb.Ok) {b N cN : Nat} (hbb : hb.nx ≤ b) {a : Option Addr} {n c : Nat} {cls : List (List Int)} (H : IntssAt hb a n cls) (hl : cls.length < 1000000) (hll : ∀ l ∈ cls, l.length < 1000000) (hlit : ∀ l ∈ cls, ∀ x ∈ l, Lit x ∧ x.natAbs < N) {P : List Int × Bool} {x0 : Int} {a2 : Option Addr} {n2 c2 : Nat} :
    ∀ (d : Nat) {ts : List Int} {h : Hp}, zeros ts < d → TV ts → ts.length = N → TsAt h b ts → Kp hb.nx hb h → P = loopR cls d ts → I92_1 O (QProp hb P) x0 a n c a2 n2 c2 none 0 0 false (some ⟨b, 0, none⟩) N cN true false h := by
  intro d
  induction d with
  | zero => intro ts h h0; omega
  | succ d ih =>
    intro ts h hz tv hN T K hp
    subst hN
    refine I92_1.of _ _ _ _ _ _ _ _ _ _ _ _ _ _ _ _ ?_
    intros
    unfold T92_1
    obtain ⟨z1, z2, z3, z4, z5⟩ := stepR_zeros (more := false) rfl hlit tv
    obtain ⟨v, h5, e5, rfl, T5, K5⟩ := ct122 hO ok hbb H hl hll hlit tv T K (cN := cN) (c := c)
    refine vcond_t rfl (vcond_t rfl ⟨_, _, _, e5, ?_⟩)
    simp only [loopR] at hp
    have fin : (stepR cls ts false).2.1 = false → P = ((stepR cls ts false).1, !(stepR cls ts false).2.2) := fun h => by rw [h] at hp; exact hp
    cases hm : (stepR cls ts false).2.1 with
    | true =>
      rw [hm, if_pos rfl] at hp
      rw [z5 hm]
      have := (z4 hm).resolve_left (by decide)
      have hi := ih (ts := (stepR cls ts false).1) (by omega) z2 z1 T5 K5 hp
      exact hi ..
    | false =>
      obtain rfl := fin hm
      have hend : I92_1 O (QProp hb ((stepR cls ts false).1, !(stepR cls ts false).2.2)) x0 a n c a2 n2 c2 none 0 0 false (some ⟨b, 0, none⟩) ts.length cN false (stepR cls ts false).2.2 h5 := by
        refine I92_1.of _ _ _ _ _ _ _ _ _ _ _ _ _ _ _ _ ?_
        intros
        unfold T92_1
        exact vcond_f rfl ⟨_, _, _, rfl, K5, fun _ => ⟨b, rfl, hbb, T5, z1.symm⟩⟩
      exact hend ..
theorem lp92_0 {hb : Hp} (ok : hb.Ok) {b N cN : Nat} (hbb : hb.nx ≤ b) {a : Option Addr} {n c : Nat} {cls : List (List Int)} (H : IntssAt hb a n cls) (hl : cls.length < 1000000) (hll : ∀ l ∈ cls, l.length < 1000000) (hlit : ∀ l ∈ cls, ∀ x ∈ l, Lit x ∧ x.natAbs < N) (hN32 : N < 32) {P : List Int × Bool} {x0 : Int} {a2 : Option Addr} {n2 c2 : Nat} {xs : List Int} (X : IntsAt hb a2 n2 xs) (hxl : xs.length < 1000000) (hx : ∀ x ∈ xs, Lit x ∧ x.natAbs < N) :
    ∀ (d k : Nat), k + d = xs.length → ∀ {ts : List Int} {h : Hp}, TV ts → ts.length = N → TsAt h b ts → Kp hb.nx hb h → P = endR cls (layRs ts (xs.drop k)) →
      I92_0 O (QProp hb P) x0 a n c a2 n2 c2 none 0 0 false (some ⟨b, 0, none⟩) N cN (Int.ofNat k) h := by
  have hn := X.1
  intro d
  induction d with
  | zero =>
    intro k hk ts h tv hN T K hp
    refine I92_0.of _ _ _ _ _ _ _ _ _ _ _ _ _ _ _ ?_
    intros
    unfold T92_0
    rw [List.drop_of_length_le (by omega)] at hp
    have hz : zeros ts < 32 := Nat.lt_of_le_of_lt (List.length_filter_le _ _) (by omega)
    exact vcond_f (by rw [ltI_nat]; exact blt_f (by omega)) (lp92_1 hO ok hbb H hl hll hlit 32 hz tv hN T K hp ..)
  | succ d ih =>
    intro k hk ts h tv hN T K hp
    subst hN
    refine I92_0.of _ _ _ _ _ _ _ _ _ _ _ _ _ _ _ ?_
    intros
    unfold T92_0
    have e1 : xs.drop k = xs[k] :: xs.drop (k + 1) := List.drop_eq_getElem_cons (by omega)
    rw [e1] at hp
    simp only [layRs] at hp
    have hxk := hx xs[k] (List.getElem_mem _)
    obtain ⟨v, h5, e5, rfl, T5, K5⟩ := ct121 hO (c := cN) hbb (fun q hq => by rw [K.gd] at hq; exact ok.gd q hq) T tv hxk.1 hxk.2
    refine vcond_t (by rw [ltI_nat]; exact blt_t (by omega)) (isNat_of (X.get (k := k) (by omega) fun b' off _ hlt hrd => vreq_t (blt_t (by omega)) ⟨_, by rw [readAt_kp K hlt]; exact hrd, _, _, e5, vcond_split (fun h1 => ?_) fun h1 => ?_⟩))
    · have h1 : (layR ts xs[k]).2 = false := by simpa using h1
      rw [if_neg (by rw [h1]; decide)] at hp
      have hp : P = ([], false) := hp
      subst hp
      exact ⟨_, _, _, rfl, K.trans K5, fun h => by cases h⟩
    · have h1 : (layR ts xs[k]).2 = true := by simpa using h1
      rw [if_pos h1] at hp
      rw [wrap_succ (by omega)]
      exact ih (k + 1) (by omega) (tv.lay _) (layR_len ..) T5 (K.trans K5) hp ..
theorem ct92 {h : Hp} (ok : h.Ok) {a : Option Addr} {n c : Nat} {cls : List (List Int)} (H : IntssAt h a n cls) (hl : cls.length < 1000000) (hll : ∀ l ∈ cls, l.length < 1000000) {vars : Nat} (hv : vars ≤ 30) (hlit : ∀ l ∈ cls, ∀ x ∈ l, Lit x ∧ x.natAbs < vars + 1) {a2 : Option Addr} {n2 c2 : Nat} {xs : List Int} (X : IntsAt h a2 n2 xs) (hxl : xs.length < 1000000) (hx : ∀ x ∈ xs, Lit x ∧ x.natAbs < vars + 1) :
    Ret Tryd.prog O 92 [.int .i64 (Int.ofNat vars), .slice a n c, .slice a2 n2 c2] h (QProp h (propR vars cls xs)) := by
  refine rk92 _ _ _ _ _ _ _ (hO _ _ _ (by decide)) ?_
  unfold T92
  rw [wrap_succ (by omega)]
  refine isNat_of (isNat_of (vreq_t (ble_t (Nat.le_refl _)) (vreq_t (ble_t (by omega)) (vreq_t (blt_t (by unfold big; omega)) ?_))))
  have er : List.flatten (List.replicate (vars + 1) [Value.int .i64 0]) = (List.replicate (vars + 1) (0 : Int)).map (Value.int .i64) := by simp [List.replicate_succ]
  rw [er]
  refine lp92_0 hO ok (Nat.le_refl _) H hl hll hlit (by omega) X hxl hx xs.length 0 (by omega) (ts := List.replicate (vars + 1) 0) (fun t ht => ?_) (by simp) ⟨by rw [nx_add]; omega, get_add_same ..⟩ ((Kp.refl _ _).add (Nat.le_refl _) _) rfl ..
  obtain rfl := (List.mem_replicate.1 ht).2
  omega
end
end Go.Proofs.YtfgfhplgnfbaaaaDoor
/- The plain law of propagation: both ways to propagate end with the same literals, or both clash. -/
namespace Go.Proofs.YtfgfhplgnfbaaaaDoor
open Go Go.Ev
/-- What follows by unit clauses. -/
inductive Der (cls : List (List Int)) (xs : List Int) : Int → Prop
  | base {x : Int} : x ∈ xs → Der cls xs x
  | unit {l : List Int} {x : Int} : l ∈ cls → x ∈ l → (∀ y ∈ l, y ≠ x → Der cls xs (-y)) → Der cls xs x
def Cl (cls : List (List Int)) (xs : List Int) : Prop := (∃ x, Der cls xs x ∧ Der cls xs (-x)) ∨ ∃ l ∈ cls, ∀ y ∈ l, Der cls xs (-y)
structure Calm (cls : List (List Int)) (xs : List Int) (T : Int → Prop) : Prop where
  con : ∀ x, T x → T (-x) → False
  beg : ∀ x ∈ xs, T x
  cl : ∀ l ∈ cls, (∃ x ∈ l, T x) ∨ ∃ x ∈ l, ∃ z ∈ l, x ≠ z ∧ ¬ T x ∧ ¬ T (-x) ∧ ¬ T z ∧ ¬ T (-z)
theorem Calm.all {cls : List (List Int)} {xs : List Int} {T : Int → Prop} (C : Calm cls xs T) {x : Int} (h : Der cls xs x) : T x := by
  induction h with
  | base h => exact C.beg _ h
  | @unit l x hl hx _ ih =>
    rcases C.cl l hl with ⟨z, hz, hT⟩ | ⟨z, hz, w, hw, hne, h1, h2, h3, h4⟩
    · by_cases e : z = x
      · rw [← e]; exact hT
      · exact (C.con z hT (ih z hz e)).elim
    · by_cases e : z = x
      · have : w ≠ x := fun hh => hne (e.trans hh.symm)
        exact (h4 (ih w hw this)).elim
      · exact (h2 (ih z hz e)).elim
theorem Calm.not {cls : List (List Int)} {xs : List Int} {T : Int → Prop} (C : Calm cls xs T) : ¬ Cl cls xs := by
  rintro (⟨x, h1, h2⟩ | ⟨l, hl, h⟩)
  · exact C.con x (C.all h1) (C.all h2)
  · rcases C.cl l hl with ⟨z, hz, hT⟩ | ⟨z, hz, w, hw, hne, h1, h2, h3, h4⟩
    · exact C.con z hT (C.all (h z hz))
    · exact h2 (C.all (h z hz))
/-- A clause's variables differ. -/
def Dif (l : List Int) : Prop := l.Pairwise fun x z => x.natAbs < z.natAbs
theorem clB_dif {vars : Int} : ∀ {l : List Int} {last : Int}, 0 ≤ last → clB vars last l = true → Dif l := by
  intro l
  induction l with
  | nil => intro _ _ _; exact List.Pairwise.nil
  | cons x l ih =>
    intro last h0 h
    have hx := (clB_lit h0 h x (List.mem_cons_self ..)).1
    simp only [clB] at h
    split at h
    · cases h
    · have h1 : 0 ≤ varI x := by rw [varI_lit2 hx]; omega
      refine List.pairwise_cons.2 ⟨fun z hz => ?_, ih h1 h⟩
      have := clB_gt h z hz
      rw [varI_lit2 hx, varI_lit2 (clB_lit h1 h z hz).1] at this
      omega
theorem Dif.eq {l : List Int} (h : Dif l) {x z : Int} (hx : x ∈ l) (hz : z ∈ l) (e : x.natAbs = z.natAbs) : x = z := by
  induction l with
  | nil => cases hx
  | cons w l ih =>
    have hp := List.pairwise_cons.1 h
    rcases List.mem_cons.1 hx with e1 | hx1 <;> rcases List.mem_cons.1 hz with e2 | hz1
    · rw [e1, e2]
    · have := hp.1 z hz1; rw [← e1] at this; omega
    · have := hp.1 x hx1; rw [← e2] at this; omega
    · exact ih hp.2 hx1 hz1
/-! ### by masks -/
def trM (y m : Nat) (x : Int) : Prop := (0 < x ∧ y.testBit (x.natAbs - 1) = true) ∨ (x < 0 ∧ m.testBit (x.natAbs - 1) = true)
theorem trM_neg {y m : Nat} {x : Int} : trM y m (-x) ↔ (x < 0 ∧ y.testBit (x.natAbs - 1) = true) ∨ (0 < x ∧ m.testBit (x.natAbs - 1) = true) := by
  unfold trM
  rw [Int.natAbs_neg]
  constructor
  · rintro (⟨a, b⟩ | ⟨a, b⟩)
    · exact .inl ⟨by omega, b⟩
    · exact .inr ⟨by omega, b⟩
  · rintro (⟨a, b⟩ | ⟨a, b⟩)
    · exact .inl ⟨by omega, b⟩
    · exact .inr ⟨by omega, b⟩
theorem trM_with {y m : Nat} {x z : Int} (hx : Lit x) : trM (withN y m x).1 (withN y m x).2 z ↔ trM y m z ∨ z = x := by
  have hw := withN_test (y := y) (m := m) hx (z.natAbs - 1)
  unfold trM
  rw [hw.1, hw.2]
  simp only [Bool.or_eq_true, decide_eq_true_eq]
  have := hx.1
  constructor
  · rintro (⟨a, b | b⟩ | ⟨a, b | b⟩)
    · exact .inl (.inl ⟨a, b⟩)
    · exact .inr (by omega)
    · exact .inl (.inr ⟨a, b⟩)
    · exact .inr (by omega)
  · rintro ((⟨a, b⟩ | ⟨a, b⟩) | rfl)
    · exact .inl ⟨a, .inl b⟩
    · exact .inr ⟨a, .inl b⟩
    · rcases Int.lt_or_gt_of_ne this with h | h
      · exact .inr ⟨h, .inr (by omega)⟩
      · exact .inl ⟨h, .inr (by omega)⟩
theorem trM_con {y m : Nat} (h : y &&& m = 0) (x : Int) : trM y m x → trM y m (-x) → False := by
  intro h1 h2
  have := (and_zero_iff y m).1 h (x.natAbs - 1)
  rw [trM_neg] at h2
  rcases h1 with ⟨a, b⟩ | ⟨a, b⟩ <;> rcases h2 with ⟨c, d⟩ | ⟨c, d⟩
  · omega
  · exact this ⟨b, d⟩
  · exact this ⟨d, b⟩
  · omega
/-- A clause has a literal that is true. -/
theorem sat_mask {l : List Int} (hl : ∀ x ∈ l, Lit x) (y m : Nat) : (((sideN l).1 &&& y) ||| ((sideN l).2 &&& m) = 0) ↔ ∀ x ∈ l, ¬ trM y m x := by
  have hs := fun i => sideF_test (y := 0) (m := 0) hl i
  rw [or_zero_iff]
  simp only [Nat.testBit_and]
  unfold sideN
  simp only [fun i => (hs i).1, fun i => (hs i).2, Nat.zero_testBit, Bool.false_or, Bool.and_eq_false_iff, decide_eq_false_iff_not]
  constructor
  · rintro h x hx (⟨a, b⟩ | ⟨a, b⟩)
    · have := (h (x.natAbs - 1)).1
      rw [show ((x.natAbs - 1 + 1 : Nat) : Int) = x by omega] at this
      rcases this with h | h
      · exact h hx
      · rw [b] at h; cases h
    · have := (h (x.natAbs - 1)).2
      rw [show -((x.natAbs - 1 + 1 : Nat) : Int) = x by omega] at this
      rcases this with h | h
      · exact h hx
      · rw [b] at h; cases h
  · intro h i
    constructor
    · by_cases hx : ((i + 1 : Nat) : Int) ∈ l
      · right
        have := h _ hx
        cases hb : y.testBit i with
        | false => rfl
        | true => exact (this (.inl ⟨by omega, by rw [show ((i + 1 : Nat) : Int).natAbs - 1 = i by omega]; exact hb⟩)).elim
      · exact .inl hx
    · by_cases hx : -((i + 1 : Nat) : Int) ∈ l
      · right
        have := h _ hx
        cases hb : m.testBit i with
        | false => rfl
        | true => exact (this (.inr ⟨by omega, by rw [show (-((i + 1 : Nat) : Int)).natAbs - 1 = i by omega]; exact hb⟩)).elim
      · exact .inl hx
/-- The variables of a clause's literals that are not false. -/
theorem open_mask {l : List Int} (hl : ∀ x ∈ l, Lit x) (y m i : Nat) : (((sideN l).1 - ((sideN l).1 &&& m)) ||| ((sideN l).2 - ((sideN l).2 &&& y))).testBit i = true ↔ ∃ x ∈ l, x.natAbs = i + 1 ∧ ¬ trM y m (-x) := by
  have hs := sideF_test (y := 0) (m := 0) hl i
  rw [Nat.testBit_or, testBit_andn, testBit_andn]
  unfold sideN
  rw [hs.1, hs.2]
  simp only [Nat.zero_testBit, Bool.false_or, Bool.or_eq_true, Bool.and_eq_true, decide_eq_true_eq, Bool.not_eq_true']
  constructor
  · rintro (⟨a, b⟩ | ⟨a, b⟩)
    · refine ⟨_, a, by omega, fun h => ?_⟩
      rw [trM_neg] at h
      rcases h with ⟨h, _⟩ | ⟨_, h⟩
      · omega
      · rw [show ((i + 1 : Nat) : Int).natAbs - 1 = i by omega, b] at h; cases h
    · refine ⟨_, a, by omega, fun h => ?_⟩
      rw [trM_neg] at h
      rcases h with ⟨_, h⟩ | ⟨h, _⟩
      · rw [show (-((i + 1 : Nat) : Int)).natAbs - 1 = i by omega, b] at h; cases h
      · omega
  · rintro ⟨x, hx, e, hn⟩
    rw [trM_neg] at hn
    have h0 := (hl x hx).1
    rcases Int.lt_or_gt_of_ne h0 with h | h
    · right
      have hxe : x = -((i + 1 : Nat) : Int) := by omega
      refine ⟨by rw [← hxe]; exact hx, ?_⟩
      cases hb : y.testBit i with
      | false => rfl
      | true => exact (hn (.inl ⟨h, by rw [show x.natAbs - 1 = i by omega]; exact hb⟩)).elim
    · left
      have hxe : x = ((i + 1 : Nat) : Int) := by omega
      refine ⟨by rw [← hxe]; exact hx, ?_⟩
      cases hb : m.testBit i with
      | false => rfl
      | true => exact (hn (.inr ⟨h, by rw [show x.natAbs - 1 = i by omega]; exact hb⟩)).elim
section
variable {cls : List (List Int)} {xs : List Int}
theorem layN_ok : ∀ {ys : List Int} {y m : Nat}, (∀ x ∈ ys, Lit x ∧ x ∈ xs) → (∀ z, trM y m z → Der cls xs z) → y &&& m = 0 →
    ((layN ys y m).2 = true → (∀ z, trM (layN ys y m).1.1 (layN ys y m).1.2 z → Der cls xs z) ∧ (layN ys y m).1.1 &&& (layN ys y m).1.2 = 0 ∧ (∀ x ∈ ys, trM (layN ys y m).1.1 (layN ys y m).1.2 x) ∧ ∀ z, trM y m z → trM (layN ys y m).1.1 (layN ys y m).1.2 z) ∧
    ((layN ys y m).2 = false → ∃ x, Der cls xs x ∧ Der cls xs (-x)) := by
  intro ys
  induction ys with
  | nil => intro y m _ hs hc; exact ⟨fun _ => ⟨hs, hc, fun x hx => (by cases hx), fun z h => h⟩, fun h => by cases h⟩
  | cons x ys ih =>
    intro y m hl hs hc
    have hx := hl x (List.mem_cons_self ..)
    have hs' : ∀ z, trM (withN y m x).1 (withN y m x).2 z → Der cls xs z := fun z h => by
      rcases (trM_with hx.1).1 h with h | rfl
      · exact hs z h
      · exact .base hx.2
    simp only [layN]
    split
    · rename_i h0
      obtain ⟨a, b⟩ := ih (fun z hz => hl z (List.mem_cons_of_mem _ hz)) hs' h0
      refine ⟨fun h => ?_, b⟩
      obtain ⟨a1, a2, a3, a4⟩ := a h
      refine ⟨a1, a2, fun z hz => ?_, fun z hz => a4 z ((trM_with hx.1).2 (.inl hz))⟩
      rcases List.mem_cons.1 hz with rfl | hz
      · exact a4 z ((trM_with hx.1).2 (.inr rfl))
      · exact a3 z hz
    · rename_i h0
      refine ⟨fun h => (by cases h), fun _ => ?_⟩
      -- both contraries are true
      obtain ⟨i, hi⟩ := Classical.not_forall.1 (fun h => h0 ((and_zero_iff _ _).2 h))
      have hi := Classical.not_not.1 hi
      refine ⟨((i + 1 : Nat) : Int), hs' _ (.inl ⟨by omega, ?_⟩), hs' _ (.inr ⟨by omega, ?_⟩)⟩
      · rw [show ((i + 1 : Nat) : Int).natAbs - 1 = i by omega]; exact hi.1
      · rw [show (-((i + 1 : Nat) : Int)).natAbs - 1 = i by omega]; exact hi.2
theorem stepS_ok (hd : ∀ l ∈ cls, (∀ x ∈ l, Lit x) ∧ Dif l) {y m : Nat} (hs : ∀ z, trM y m z → Der cls xs z) (hc : y &&& m = 0) : ∀ {cs : List (List Int)}, (∀ l ∈ cs, l ∈ cls) →
    (stepS y m (cs.map sideN) = none → ∀ l ∈ cs, (∃ x ∈ l, trM y m x) ∨ ∃ x ∈ l, ∃ z ∈ l, x ≠ z ∧ ¬ trM y m x ∧ ¬ trM y m (-x) ∧ ¬ trM y m z ∧ ¬ trM y m (-z)) ∧
    (stepS y m (cs.map sideN) = some none → ∃ l ∈ cls, ∀ x ∈ l, Der cls xs (-x)) ∧
    (∀ p, stepS y m (cs.map sideN) = some (some p) → ∃ x, Lit x ∧ Der cls xs x ∧ ¬ trM y m (-x) ∧ p = withN y m x) := by
  intro cs
  induction cs with
  | nil => intro _; exact ⟨fun _ l hl => (by cases hl), fun h => (by cases h), fun p h => by cases h⟩
  | cons l cs ih =>
    intro hsub
    have hlc := hsub l (List.mem_cons_self ..)
    obtain ⟨hl, hdl⟩ := hd l hlc
    obtain ⟨i1, i2, i3⟩ := ih fun l h => hsub l (List.mem_cons_of_mem _ h)
    have hz := open_mask hl y m
    have hlt : ((sideN l).1 - ((sideN l).1 &&& m)) ||| ((sideN l).2 - ((sideN l).2 &&& y)) < 2 ^ 30 := by
      have := sideF_lt hl (y := 0) (m := 0) (by decide) (by decide)
      exact Nat.or_lt_two_pow (Nat.lt_of_le_of_lt (Nat.sub_le _ _) this.1) (Nat.lt_of_le_of_lt (Nat.sub_le _ _) this.2)
    rw [List.map_cons]
    simp only [stepS]
    by_cases h0 : ((sideN l).1 &&& y) ||| ((sideN l).2 &&& m) = 0
    · rw [if_pos h0]
      have hun := (sat_mask hl y m).1 h0
      by_cases h1 : popN (((sideN l).1 - ((sideN l).1 &&& m)) ||| ((sideN l).2 - ((sideN l).2 &&& y))) = 0
      · rw [if_pos h1]
        refine ⟨fun h => (by cases h), fun _ => ⟨l, hlc, fun x hx => hs _ ?_⟩, fun p h => by cases h⟩
        have hu := (popN_zero (by omega)).1 h1
        apply Classical.byContradiction
        intro hn
        have := (hz (x.natAbs - 1)).2 ⟨x, hx, by have := (hl x hx).1; omega, hn⟩
        rw [hu, Nat.zero_testBit] at this
        cases this
      · rw [if_neg h1]
        by_cases h2 : popN (((sideN l).1 - ((sideN l).1 &&& m)) ||| ((sideN l).2 - ((sideN l).2 &&& y))) = 1
        · rw [if_pos h2]
          refine ⟨fun h => (by cases h), fun h => (by cases h), fun p h => ?_⟩
          injection h with h; injection h with h
          obtain ⟨i, hi, e⟩ := (popN_one (by omega)).1 h2
          obtain ⟨x, hx, ex, hn⟩ := (hz i).1 (by rw [e, Nat.testBit_two_pow_self])
          refine ⟨x, hl x hx, .unit hlc hx (fun w hw hne => hs _ ?_), hn, ?_⟩
          · apply Classical.byContradiction
            intro hnw
            have := (hz (w.natAbs - 1)).2 ⟨w, hw, by have := (hl w hw).1; omega, hnw⟩
            rw [e, Nat.testBit_two_pow] at this
            have : i = w.natAbs - 1 := by simpa using this
            exact hne (hdl.eq hw hx (by have := (hl w hw).1; omega))
          · rw [← h]
            have hsp := fun j => sideF_test (y := 0) (m := 0) hl j
            have pj : ∀ j, ((sideN l).1 - ((sideN l).1 &&& m)).testBit j = true → j = i ∧ x = ((i + 1 : Nat) : Int) := fun j hj => by
              have h3 := congrArg (fun z => z.testBit j) e
              simp only [Nat.testBit_or, hj, Bool.true_or, Nat.testBit_two_pow] at h3
              have hji : i = j := by simpa using h3.symm
              subst hji
              refine ⟨rfl, ?_⟩
              rw [testBit_andn, Bool.and_eq_true] at hj
              have h4 := hj.1
              unfold sideN at h4
              rw [(hsp i).1, Nat.zero_testBit, Bool.false_or] at h4
              exact hdl.eq hx (of_decide_eq_true h4) (by omega)
            have mj : ∀ j, ((sideN l).2 - ((sideN l).2 &&& y)).testBit j = true → j = i ∧ x = -((i + 1 : Nat) : Int) := fun j hj => by
              have h3 := congrArg (fun z => z.testBit j) e
              simp only [Nat.testBit_or, hj, Bool.or_true, Nat.testBit_two_pow] at h3
              have hji : i = j := by simpa using h3.symm
              subst hji
              refine ⟨rfl, ?_⟩
              rw [testBit_andn, Bool.and_eq_true] at hj
              have h4 := hj.1
              unfold sideN at h4
              rw [(hsp i).2, Nat.zero_testBit, Bool.false_or] at h4
              exact hdl.eq hx (of_decide_eq_true h4) (by omega)
            have hb : bitN x = 2 ^ i := by unfold bitN; rw [ex, Nat.add_sub_cancel]
            unfold withN
            by_cases hp : 0 < x
            · have m0 : (sideN l).2 - ((sideN l).2 &&& y) = 0 := Nat.eq_of_testBit_eq fun j => by
                rw [Nat.zero_testBit]
                cases hj : ((sideN l).2 - ((sideN l).2 &&& y)).testBit j with
                | false => rfl
                | true => have := (mj j hj).2; omega
              rw [m0, Nat.or_zero] at e
              rw [if_pos hp, m0, e, hb, Nat.or_zero]
            · have p0 : (sideN l).1 - ((sideN l).1 &&& m) = 0 := Nat.eq_of_testBit_eq fun j => by
                rw [Nat.zero_testBit]
                cases hj : ((sideN l).1 - ((sideN l).1 &&& m)).testBit j with
                | false => rfl
                | true => have := (pj j hj).2; omega
              rw [p0, Nat.zero_or] at e
              rw [if_neg hp, p0, e, hb, Nat.or_zero]
        · rw [if_neg h2]
          refine ⟨fun h w hw => ?_, i2, i3⟩
          rcases List.mem_cons.1 hw with rfl | hw
          · right
            have hu : ((sideN w).1 - ((sideN w).1 &&& m)) ||| ((sideN w).2 - ((sideN w).2 &&& y)) ≠ 0 := fun hh => h1 ((popN_zero (by omega)).2 hh)
            obtain ⟨i, hi⟩ := Nat.exists_testBit_of_ne_zero hu
            obtain ⟨x, hx, ex, hnx⟩ := (hz i).1 hi
            have hex : ∃ j, j ≠ i ∧ (((sideN w).1 - ((sideN w).1 &&& m)) ||| ((sideN w).2 - ((sideN w).2 &&& y))).testBit j = true := by
              apply Classical.byContradiction
              intro hn
              have hi30 : i < 30 := by
                apply Classical.byContradiction
                intro hge
                rw [Nat.testBit_lt_two_pow (Nat.lt_of_lt_of_le hlt (Nat.pow_le_pow_right (by decide) (by omega)))] at hi
                cases hi
              refine h2 ((popN_one (by omega)).2 ⟨i, by omega, Nat.eq_of_testBit_eq fun j => ?_⟩)
              rw [Nat.testBit_two_pow]
              by_cases hji : i = j
              · subst hji; rw [hi]; simp
              · rw [decide_eq_false hji]
                cases hj : (((sideN w).1 - ((sideN w).1 &&& m)) ||| ((sideN w).2 - ((sideN w).2 &&& y))).testBit j with
                | false => rfl
                | true => exact (hn ⟨j, fun hh => hji hh.symm, hj⟩).elim
            obtain ⟨j, hji, hj⟩ := hex
            obtain ⟨z, hz2, ez, hnz⟩ := (hz j).1 hj
            exact ⟨x, hx, z, hz2, fun hh => hji (by rw [hh] at ex; omega), hun x hx, hnx, hun z hz2, hnz⟩
          · exact i1 h w hw
    · rw [if_neg h0]
      refine ⟨fun h w hw => ?_, i2, i3⟩
      rcases List.mem_cons.1 hw with rfl | hw
      · left
        apply Classical.byContradiction
        intro hn
        exact h0 ((sat_mask hl y m).2 fun x hx hT => hn ⟨x, hx, hT⟩)
      · exact i1 h w hw
end
end Go.Proofs.YtfgfhplgnfbaaaaDoor
/- The plain law of propagation, continued: to the end, both ways. -/
namespace Go.Proofs.YtfgfhplgnfbaaaaDoor
open Go Go.Ev
section
variable {cls : List (List Int)} {xs : List Int}
theorem with_con {y m : Nat} {x : Int} (hx : Lit x) (hc : y &&& m = 0) (hn : ¬ trM y m (-x)) : (withN y m x).1 &&& (withN y m x).2 = 0 := by
  refine (and_zero_iff _ _).2 fun i hi => ?_
  have h1 : trM (withN y m x).1 (withN y m x).2 ((i + 1 : Nat) : Int) := .inl ⟨by omega, by rw [show ((i + 1 : Nat) : Int).natAbs - 1 = i by omega]; exact hi.1⟩
  have h2 : trM (withN y m x).1 (withN y m x).2 (-((i + 1 : Nat) : Int)) := .inr ⟨by omega, by rw [show (-((i + 1 : Nat) : Int)).natAbs - 1 = i by omega]; exact hi.2⟩
  rcases (trM_with hx).1 h1 with h1 | h1 <;> rcases (trM_with hx).1 h2 with h2 | h2
  · exact trM_con hc _ h1 h2
  · rw [← h2, Int.neg_neg] at hn; exact hn h1
  · rw [← h1] at hn; exact hn h2
  · omega
theorem spreadF_ok (hd : ∀ l ∈ cls, (∀ x ∈ l, Lit x) ∧ Dif l) : ∀ (d : Nat) {y m : Nat}, y < 2 ^ 30 → m < 2 ^ 30 → freeN (y ||| m) < d → (∀ z, trM y m z → Der cls xs z) → y &&& m = 0 → (∀ x ∈ xs, trM y m x) →
    ((spreadF (cls.map sideN) d y m).2 = true → Calm cls xs (trM (spreadF (cls.map sideN) d y m).1.1 (spreadF (cls.map sideN) d y m).1.2) ∧ ∀ z, trM (spreadF (cls.map sideN) d y m).1.1 (spreadF (cls.map sideN) d y m).1.2 z → Der cls xs z) ∧ ((spreadF (cls.map sideN) d y m).2 = false → Cl cls xs) := by
  intro d
  induction d with
  | zero => intro y m _ _ h; omega
  | succ d ih =>
    intro y m hy hm hf hs hc hb
    have hss : ∀ c ∈ cls.map sideN, c.1 < 2 ^ 30 ∧ c.2 < 2 ^ 30 := fun c hc => by
      obtain ⟨l, hl, rfl⟩ := List.mem_map.1 hc
      exact sideF_lt (hd l hl).1 (by decide) (by decide)
    obtain ⟨s1, s2, s3⟩ := stepS_ok hd hs hc (cs := cls) fun _ h => h
    simp only [spreadF]
    cases hst : stepS y m (cls.map sideN) with
    | none => exact ⟨fun _ => ⟨⟨trM_con hc, hb, s1 hst⟩, hs⟩, fun h => by cases h⟩
    | some o =>
      cases o with
      | none => exact ⟨fun h => (by cases h), fun _ => .inr (s2 hst)⟩
      | some p =>
        obtain ⟨x, hx, hD, hn, rfl⟩ := s3 p hst
        obtain ⟨f1, f2, f3⟩ := stepS_free hy hm hss hst
        refine ih f2 f3 (by omega) (fun z hz => ?_) (with_con hx hc hn) fun z hz => (trM_with hx).2 (.inl (hb z hz))
        rcases (trM_with hx).1 hz with h | rfl
        · exact hs z h
        · exact hD
theorem layN_lt : ∀ {ys : List Int} {y m : Nat}, (∀ x ∈ ys, Lit x) → y < 2 ^ 30 → m < 2 ^ 30 → (layN ys y m).1.1 < 2 ^ 30 ∧ (layN ys y m).1.2 < 2 ^ 30 := by
  intro ys
  induction ys with
  | nil => intro y m _ hy hm; exact ⟨hy, hm⟩
  | cons x ys ih =>
    intro y m hl hy hm
    have w := withN_lt (hl x (List.mem_cons_self ..)) hy hm
    simp only [layN]
    split
    · exact ih (fun z hz => hl z (List.mem_cons_of_mem _ hz)) w.1 w.2
    · exact w
theorem fromN_ok (hd : ∀ l ∈ cls, (∀ x ∈ l, Lit x) ∧ Dif l) (hx : ∀ x ∈ xs, Lit x) :
    ((fromN (cls.map sideN) xs).2 = true → Calm cls xs (trM (fromN (cls.map sideN) xs).1.1 (fromN (cls.map sideN) xs).1.2) ∧ ∀ z, trM (fromN (cls.map sideN) xs).1.1 (fromN (cls.map sideN) xs).1.2 z → Der cls xs z) ∧ ((fromN (cls.map sideN) xs).2 = false → Cl cls xs) := by
  have z0 : ∀ z, ¬ trM 0 0 z := fun z h => by
    rcases h with ⟨_, h⟩ | ⟨_, h⟩ <;> simp at h
  obtain ⟨a, b⟩ := layN_ok (cls := cls) (xs := xs) (ys := xs) (y := 0) (m := 0) (fun x h => ⟨hx x h, h⟩) (fun z h => (z0 z h).elim) rfl
  have lt := layN_lt (ys := xs) (y := 0) (m := 0) hx (by decide) (by decide)
  unfold fromN fromR
  cases hl : (layN xs 0 0).2 with
  | false => exact ⟨fun h => (by rw [if_neg (by decide), hl] at h; cases h), fun _ => .inl (b hl)⟩
  | true =>
    obtain ⟨a1, a2, a3, _⟩ := a hl
    rw [if_pos rfl]
    have := freeN_le ((layN xs 0 0).1.1 ||| (layN xs 0 0).1.2)
    exact spreadF_ok hd 31 lt.1 lt.2 (by omega) a1 a2 a3
/-! ### by truths -/
def trT (ts : List Int) (x : Int) : Prop := x ≠ 0 ∧ 0 < tvR ts x
theorem tvR_neg {ts : List Int} {x : Int} (hx : x ≠ 0) : tvR ts (-x) = -(tvR ts x) := by
  unfold tvR
  rcases Int.lt_or_gt_of_ne hx with h | h
  · rw [if_neg (by omega), if_pos h, Int.neg_neg]
  · rw [if_pos (by omega), if_neg (by omega), Int.neg_neg]
theorem trT_con {ts : List Int} (x : Int) (h1 : trT ts x) (h2 : trT ts (-x)) : False := by
  have a := h1.2
  have b := h2.2
  rw [tvR_neg h1.1] at b
  omega
theorem trT_lay {ts : List Int} {x z : Int} (hx : Lit x) (hx2 : x.natAbs < ts.length) (hn : ¬ tvR ts x < 0) : trT (ts.set x.natAbs (if x < 0 then -1 else 1)) z ↔ trT ts z ∨ z = x := by
  have h0 := hx.1
  unfold trT
  by_cases hz : z = 0
  · subst hz
    constructor
    · intro h; exact absurd rfl h.1
    · rintro (h | h)
      · exact absurd rfl h.1
      · exact absurd h.symm h0
  by_cases e : z.natAbs = x.natAbs
  · have hz2 : z.natAbs < (ts.set x.natAbs (if x < 0 then -1 else 1)).length := by simpa [e] using hx2
    have hz3 : z.natAbs < ts.length := by omega
    have hg : (ts.set x.natAbs (if x < 0 then -1 else 1))[z.natAbs]'hz2 = if x < 0 then -1 else 1 := by
      rw [List.getElem_set]; rw [if_pos e.symm]
    rw [tvR_nat hz2, hg, tvR_nat hz3]
    rw [tvR_nat hx2] at hn
    have e2 : ts[z.natAbs] = ts[x.natAbs] := by congr 1
    rw [e2]
    constructor
    · intro h
      right
      rcases Int.natAbs_eq_natAbs_iff.1 e with h1 | h1
      · exact h1
      · have := h.2
        split at this <;> split at this <;> omega
    · rintro (⟨_, h⟩ | rfl)
      · refine ⟨hz, ?_⟩
        rcases Int.natAbs_eq_natAbs_iff.1 e with h1 | h1
        · subst h1; split <;> omega
        · split at h <;> split at hn <;> omega
      · refine ⟨hz, ?_⟩
        split <;> omega
  · have : tvR (ts.set x.natAbs (if x < 0 then -1 else 1)) z = tvR ts z := by
      unfold tvR
      split
      · rw [List.getD_eq_getElem?_getD, List.getD_eq_getElem?_getD, List.getElem?_set_ne (by omega)]
      · rw [List.getD_eq_getElem?_getD, List.getD_eq_getElem?_getD, List.getElem?_set_ne (by omega)]
    rw [this]
    constructor
    · exact .inl
    · rintro (h | rfl)
      · exact h
      · exact absurd rfl e
/-- The open literals. -/
theorem openR_eq {ts : List Int} : ∀ {l : List Int} {n : Nat} {z : Int}, openR ts l n z = (n + (l.filter (fun x => tvR ts x == 0)).length, (l.filter (fun x => tvR ts x == 0)).getLastD z) := by
  intro l
  induction l with
  | nil => intro n z; rfl
  | cons x l ih =>
    intro n z
    simp only [openR, List.filter_cons]
    by_cases h : tvR ts x = 0
    · rw [if_pos h, ih, show (tvR ts x == 0) = true by simpa using h, if_pos rfl, List.length_cons, List.getLastD_cons]
      congr 1; omega
    · rw [if_neg h, ih, show (tvR ts x == 0) = false by simpa using h, if_neg (by decide)]
theorem satR_trT {ts : List Int} {l : List Int} (hl : ∀ x ∈ l, Lit x) : satR ts l = true ↔ ∃ x ∈ l, trT ts x := by
  unfold satR
  rw [List.any_eq_true]
  constructor
  · rintro ⟨x, hx, h⟩; exact ⟨x, hx, (hl x hx).1, of_decide_eq_true h⟩
  · rintro ⟨x, hx, _, h⟩; exact ⟨x, hx, decide_eq_true h⟩
theorem layRs_ok {N : Nat} : ∀ {ys : List Int} {ts : List Int}, (∀ x ∈ ys, Lit x ∧ x.natAbs < N ∧ x ∈ xs) → ts.length = N → TV ts → (∀ z, trT ts z → Der cls xs z) →
    ((layRs ts ys).2 = true → (∀ z, trT (layRs ts ys).1 z → Der cls xs z) ∧ (∀ x ∈ ys, trT (layRs ts ys).1 x) ∧ (∀ z, trT ts z → trT (layRs ts ys).1 z) ∧ (layRs ts ys).1.length = N ∧ TV (layRs ts ys).1) ∧
    ((layRs ts ys).2 = false → ∃ x, Der cls xs x ∧ Der cls xs (-x)) := by
  intro ys
  induction ys with
  | nil => intro ts _ hN tv hs; exact ⟨fun _ => ⟨hs, fun x hx => (by cases hx), fun z h => h, hN, tv⟩, fun h => (by cases h)⟩
  | cons x ys ih =>
    intro ts hl hN tv hs
    have hx := hl x (List.mem_cons_self ..)
    simp only [layRs]
    by_cases hn : tvR ts x < 0
    · have e : layR ts x = (ts, false) := by unfold layR; rw [if_pos hn]
      rw [e, if_neg (by simp)]
      refine ⟨fun h => (by cases h), fun _ => ⟨x, .base hx.2.2, hs _ ⟨by have := hx.1.1; omega, ?_⟩⟩⟩
      rw [tvR_neg hx.1.1]; omega
    · have e : layR ts x = (ts.set x.natAbs (if x < 0 then -1 else 1), true) := by unfold layR; rw [if_neg hn]
      have hlay := fun z => trT_lay (z := z) hx.1 (by rw [hN]; exact hx.2.1) hn
      have ltv := tv.lay x
      have llen := layR_len ts x
      rw [e] at ltv llen
      rw [e, if_pos rfl]
      obtain ⟨a, b⟩ := ih (ts := ts.set x.natAbs (if x < 0 then -1 else 1)) (fun z hz => hl z (List.mem_cons_of_mem _ hz)) (llen.trans hN) ltv (fun z hz => by
        rcases (hlay z).1 hz with h | rfl
        · exact hs z h
        · exact .base hx.2.2)
      refine ⟨fun h => ?_, b⟩
      obtain ⟨a1, a2, a3, a4, a5⟩ := a h
      refine ⟨a1, fun z hz => ?_, fun z hz => a3 z ((hlay z).2 (.inl hz)), a4, a5⟩
      rcases List.mem_cons.1 hz with rfl | hz
      · exact a3 z ((hlay z).2 (.inr rfl))
      · exact a2 z hz
theorem stepR_ok {N : Nat} (hd : ∀ l ∈ cls, (∀ x ∈ l, Lit x ∧ x.natAbs < N) ∧ Dif l) : ∀ {cs : List (List Int)} {ts : List Int} {more : Bool}, (∀ l ∈ cs, l ∈ cls) → ts.length = N → (∀ z, trT ts z → Der cls xs z) →
    (∀ z, trT (stepR cs ts more).1 z → Der cls xs z) ∧ (∀ z, trT ts z → trT (stepR cs ts more).1 z) ∧ ((stepR cs ts more).2.2 = true → ∃ l ∈ cls, ∀ x ∈ l, Der cls xs (-x)) ∧
    ((stepR cs ts more).2.1 = false → (stepR cs ts more).2.2 = false → more = false ∧ (stepR cs ts more).1 = ts ∧ ∀ l ∈ cs, (∃ x ∈ l, trT ts x) ∨ ∃ x ∈ l, ∃ z ∈ l, x ≠ z ∧ ¬ trT ts x ∧ ¬ trT ts (-x) ∧ ¬ trT ts z ∧ ¬ trT ts (-z)) := by
  intro cs
  induction cs with
  | nil => intro ts more _ _ hs; exact ⟨hs, fun z h => h, fun h => (by cases h), fun h _ => ⟨h, rfl, fun l hl => (by cases hl)⟩⟩
  | cons l cs ih =>
    intro ts more hsub hN hs
    have hlc := hsub l (List.mem_cons_self ..)
    obtain ⟨hl, hdl⟩ := hd l hlc
    have hsub' : ∀ l ∈ cs, l ∈ cls := fun l h => hsub l (List.mem_cons_of_mem _ h)
    have hopen : ∀ x ∈ l, tvR ts x = 0 → ¬ trT ts x ∧ ¬ trT ts (-x) := fun x hx h0 => ⟨fun h => by have := h.2; omega, fun h => by have := h.2; rw [tvR_neg (hl x hx).1.1] at this; omega⟩
    have hfalse : ∀ x ∈ l, ¬ trT ts x → tvR ts x ≠ 0 → Der cls xs (-x) := fun x hx hn h0 => hs _ ⟨by have := (hl x hx).1.1; omega, by
      rw [tvR_neg (hl x hx).1.1]
      have : ¬ 0 < tvR ts x := fun h => hn ⟨(hl x hx).1.1, h⟩
      omega⟩
    have hF : ∀ x, x ∈ l.filter (fun x => tvR ts x == 0) ↔ x ∈ l ∧ tvR ts x = 0 := fun x => by rw [List.mem_filter]; simp
    have hFd : (l.filter (fun x => tvR ts x == 0)).Pairwise fun x z => x.natAbs < z.natAbs := hdl.sublist List.filter_sublist
    have hop := openR_eq (ts := ts) (l := l) (n := 0) (z := 0)
    rw [Nat.zero_add] at hop
    simp only [stepR]
    rw [hop]
    generalize l.filter (fun x => tvR ts x == 0) = F at hF hFd
    by_cases hsat : satR ts l = true
    · rw [if_pos hsat]
      obtain ⟨a, b, c, d⟩ := ih (more := more) hsub' hN hs
      refine ⟨a, b, c, fun h1 h2 => ?_⟩
      obtain ⟨d1, d2, d3⟩ := d h1 h2
      refine ⟨d1, d2, fun w hw => ?_⟩
      rcases List.mem_cons.1 hw with rfl | hw
      · exact .inl ((satR_trT fun x hx => (hl x hx).1).1 hsat)
      · exact d3 w hw
    · rw [if_neg hsat]
      have hun : ∀ x ∈ l, ¬ trT ts x := fun x hx h => hsat ((satR_trT fun x hx => (hl x hx).1).2 ⟨x, hx, h⟩)
      match F, hF, hFd with
      | [], hF, _ =>
        rw [if_neg (by simp), if_pos (show (([] : List Int).length, ([] : List Int).getLastD 0).1 = 0 from rfl)]
        refine ⟨hs, fun z h => h, fun _ => ⟨l, hlc, fun x hx => hfalse x hx (hun x hx) fun h0 => ?_⟩, fun _ h => (by cases h)⟩
        have := (hF x).2 ⟨hx, h0⟩
        cases this
      | [w], hF, _ =>
        rw [if_neg (by simp), if_neg (by simp)]
        have hw := (hF w).1 (List.mem_singleton.2 rfl)
        have hn : ¬ tvR ts w < 0 := by omega
        have e : layR ts w = (ts.set w.natAbs (if w < 0 then -1 else 1), true) := by unfold layR; rw [if_neg hn]
        have hlay := fun z => trT_lay (z := z) (hl w hw.1).1 (by rw [hN]; exact (hl w hw.1).2) hn
        have llen := layR_len ts w
        show (∀ z, trT (stepR cs (layR ts w).1 true).1 z → _) ∧ (∀ z, trT ts z → trT (stepR cs (layR ts w).1 true).1 z) ∧ ((stepR cs (layR ts w).1 true).2.2 = true → _) ∧ ((stepR cs (layR ts w).1 true).2.1 = false → (stepR cs (layR ts w).1 true).2.2 = false → _ ∧ (stepR cs (layR ts w).1 true).1 = ts ∧ _)
        rw [e] at llen ⊢
        obtain ⟨a, b, c, d⟩ := ih (ts := ts.set w.natAbs (if w < 0 then -1 else 1)) (more := true) hsub' (llen.trans hN) (fun z hz => by
          rcases (hlay z).1 hz with h | rfl
          · exact hs z h
          · refine .unit hlc hw.1 fun v hv hne => hfalse v hv (hun v hv) fun h0 => hne ?_
            exact List.mem_singleton.1 ((hF v).2 ⟨hv, h0⟩))
        refine ⟨a, fun z hz => b z ((hlay z).2 (.inl hz)), c, fun h1 h2 => ?_⟩
        have := (d h1 h2).1
        cases this
      | x :: z :: F, hF, hFd =>
        rw [if_pos (by simp)]
        obtain ⟨a, b, c, d⟩ := ih (more := more) hsub' hN hs
        refine ⟨a, b, c, fun h1 h2 => ?_⟩
        obtain ⟨d1, d2, d3⟩ := d h1 h2
        refine ⟨d1, d2, fun w hw => ?_⟩
        rcases List.mem_cons.1 hw with rfl | hw
        · right
          have hx := (hF x).1 (List.mem_cons_self ..)
          have hz := (hF z).1 (List.mem_cons_of_mem _ (List.mem_cons_self ..))
          have hne := (List.pairwise_cons.1 hFd).1 z (List.mem_cons_self ..)
          exact ⟨x, hx.1, z, hz.1, fun h => by subst h; omega, (hopen x hx.1 hx.2).1, (hopen x hx.1 hx.2).2, (hopen z hz.1 hz.2).1, (hopen z hz.1 hz.2).2⟩
        · exact d3 w hw
theorem loopR_ok {N : Nat} (hd : ∀ l ∈ cls, (∀ x ∈ l, Lit x ∧ x.natAbs < N) ∧ Dif l) : ∀ (d : Nat) {ts : List Int}, ts.length = N → TV ts → zeros ts < d → (∀ z, trT ts z → Der cls xs z) → (∀ x ∈ xs, trT ts x) →
    ((loopR cls d ts).2 = true → Calm cls xs (trT (loopR cls d ts).1) ∧ (∀ z, trT (loopR cls d ts).1 z → Der cls xs z) ∧ (loopR cls d ts).1.length = N ∧ TV (loopR cls d ts).1) ∧ ((loopR cls d ts).2 = false → Cl cls xs) := by
  intro d
  induction d with
  | zero => intro ts _ _ h; omega
  | succ d ih =>
    intro ts hN tv hz hs hb
    obtain ⟨a, b, c, e⟩ := stepR_ok hd (cs := cls) (ts := ts) (more := false) (fun _ h => h) hN hs
    obtain ⟨z1, z2, z3, z4, z5⟩ := stepR_zeros (N := N) (cls := cls) (ts := ts) (more := false) hN (fun l hl => (hd l hl).1) tv
    simp only [loopR]
    cases hm : (stepR cls ts false).2.1 with
    | true =>
      rw [if_pos rfl]
      have := (z4 hm).resolve_left (by decide)
      exact ih z1 z2 (by omega) a fun x hx => b x (hb x hx)
    | false =>
      rw [if_neg (by decide)]
      cases hc : (stepR cls ts false).2.2 with
      | true => exact ⟨fun h => (by cases h), fun _ => .inr (c hc)⟩
      | false =>
        obtain ⟨_, e2, e3⟩ := e hm hc
        rw [e2]
        exact ⟨fun _ => ⟨⟨trT_con, hb, e3⟩, hs, hN, tv⟩, fun h => (by cases h)⟩
theorem propR_ok {vars : Nat} (hv : vars ≤ 30) (hd : ∀ l ∈ cls, (∀ x ∈ l, Lit x ∧ x.natAbs < vars + 1) ∧ Dif l) (hx : ∀ x ∈ xs, Lit x ∧ x.natAbs < vars + 1) :
    ((propR vars cls xs).2 = true → Calm cls xs (trT (propR vars cls xs).1) ∧ (∀ z, trT (propR vars cls xs).1 z → Der cls xs z) ∧ (propR vars cls xs).1.length = vars + 1 ∧ TV (propR vars cls xs).1) ∧ ((propR vars cls xs).2 = false → Cl cls xs) := by
  have tv0 : TV (List.replicate (vars + 1) 0) := fun t ht => by obtain rfl := (List.mem_replicate.1 ht).2; omega
  have z0 : ∀ z, ¬ trT (List.replicate (vars + 1) 0) z := fun z h => by
    have h := h.2
    unfold tvR at h
    have g : ∀ i, (List.replicate (vars + 1) (0 : Int)).getD i 0 = 0 := fun i => by
      rw [List.getD_eq_getElem?_getD, List.getElem?_replicate]
      split <;> rfl
    rw [g, g] at h
    split at h <;> omega
  obtain ⟨a, b⟩ := layRs_ok (cls := cls) (xs := xs) (N := vars + 1) (ys := xs) (ts := List.replicate (vars + 1) 0) (fun x h => ⟨(hx x h).1, (hx x h).2, h⟩) (by simp) tv0 (fun z h => (z0 z h).elim)
  unfold propR endR
  cases hl : (layRs (List.replicate (vars + 1) 0) xs).2 with
  | false => rw [if_neg (by decide)]; exact ⟨fun h => (by cases h), fun _ => .inl (b hl)⟩
  | true =>
    obtain ⟨a1, a2, a3, a4, a5⟩ := a hl
    rw [if_pos rfl]
    exact loopR_ok hd 32 a4 a5 (Nat.lt_of_le_of_lt (List.length_filter_le _ _) (by omega)) a1 a2
/-- BOTH WAYS: they clash alike; if they are calm the same literals are true. -/
theorem prop_same {vars : Nat} (hv : vars ≤ 30) (hd : ∀ l ∈ cls, (∀ x ∈ l, Lit x ∧ x.natAbs < vars + 1) ∧ Dif l) (hx : ∀ x ∈ xs, Lit x ∧ x.natAbs < vars + 1) :
    (fromN (cls.map sideN) xs).2 = (propR vars cls xs).2 ∧ ((propR vars cls xs).2 = true → ∀ z, trM (fromN (cls.map sideN) xs).1.1 (fromN (cls.map sideN) xs).1.2 z ↔ trT (propR vars cls xs).1 z) := by
  obtain ⟨a, b⟩ := fromN_ok (cls := cls) (xs := xs) (fun l hl => ⟨fun x h => ((hd l hl).1 x h).1, (hd l hl).2⟩) fun x h => (hx x h).1
  obtain ⟨c, e⟩ := propR_ok hv hd hx
  cases h1 : (fromN (cls.map sideN) xs).2 with
  | false =>
    cases h2 : (propR vars cls xs).2 with
    | false => exact ⟨rfl, fun h => (by cases h)⟩
    | true => exact ((c h2).1.not (b h1)).elim
  | true =>
    cases h2 : (propR vars cls xs).2 with
    | false => exact ((a h1).1.not (e h2)).elim
    | true =>
      obtain ⟨a1, a2⟩ := a h1
      obtain ⟨c1, c2, _⟩ := c h2
      exact ⟨rfl, fun _ z => ⟨fun h => c1.all (a2 z h), fun h => a1.all (c2 z h)⟩⟩
end
end Go.Proofs.YtfgfhplgnfbaaaaDoor
/- Contracts of functions of layer 20's reference: contraries; the literals that are true. -/
namespace Go.Proofs.YtfgfhplgnfbaaaaDoor
open Go Go.Ev
def conI (l : List Int) (v : Nat) : List Int := (l.filter fun x => x.natAbs == v).map fun x => -x
/-- The contraries of literals, from some variable on, for so many variables. -/
def conO (l : List Int) : Nat → Nat → List Int
  | _, 0 => []
  | v, d + 1 => conI l v ++ conO l (v + 1) d
theorem filter_two {v w : Nat} (hvw : v < w) : ∀ {l : List Int}, Dif l → (l.filter fun x => x.natAbs == v) ++ (l.filter fun x => decide (v + 1 ≤ x.natAbs ∧ x.natAbs < w)) = l.filter fun x => decide (v ≤ x.natAbs ∧ x.natAbs < w) := by
  intro l
  induction l with
  | nil => intro _; rfl
  | cons x l ih =>
    intro h
    obtain ⟨hp, hl⟩ := List.pairwise_cons.1 h
    have ih := ih hl
    simp only [List.filter_cons]
    by_cases h1 : x.natAbs = v
    · rw [show (x.natAbs == v) = true by simpa using h1, if_pos rfl, decide_eq_false (by omega : ¬ (v + 1 ≤ x.natAbs ∧ x.natAbs < w)), if_neg (by decide), decide_eq_true (by omega : v ≤ x.natAbs ∧ x.natAbs < w), if_pos rfl, List.cons_append, ih]
    · rw [show (x.natAbs == v) = false by simpa using h1, if_neg (by decide)]
      by_cases h2 : v + 1 ≤ x.natAbs ∧ x.natAbs < w
      · rw [decide_eq_true h2, if_pos rfl, decide_eq_true (by omega : v ≤ x.natAbs ∧ x.natAbs < w), if_pos rfl]
        have e : (l.filter fun x => x.natAbs == v) = [] := by
          rw [List.filter_eq_nil_iff]
          intro z hz
          have := hp z hz
          simp; omega
        rw [e, List.nil_append] at ih ⊢
        rw [ih]
      · rw [decide_eq_false h2, if_neg (by decide), decide_eq_false (by omega : ¬ (v ≤ x.natAbs ∧ x.natAbs < w)), if_neg (by decide), ih]
theorem conO_filter {l : List Int} (h : Dif l) : ∀ (d v : Nat), conO l v d = (l.filter fun x => decide (v ≤ x.natAbs ∧ x.natAbs < v + d)).map fun x => -x := by
  intro d
  induction d with
  | zero =>
    intro v
    have e : (l.filter fun x => decide (v ≤ x.natAbs ∧ x.natAbs < v + 0)) = [] := by
      rw [List.filter_eq_nil_iff]
      intro z _
      simp
    rw [e]; rfl
  | succ d ih =>
    intro v
    rw [conO, ih, conI, ← List.map_append]
    have := filter_two (v := v) (w := v + 1 + d) (by omega) h
    rw [this, show v + 1 + d = v + (d + 1) by omega]
theorem conO_eq {l : List Int} (h : Dif l) (hl : ∀ x ∈ l, Lit x) : conO l 1 30 = l.map fun x => -x := by
  rw [conO_filter h, List.filter_eq_self.2 fun x hx => ?_]
  have := hl x hx
  have := this.1
  have := (hl x hx).2
  simp; omega
/-- The literals that are true, from some variable on. -/
def litR (ts : List Int) : Nat → Nat → List Int
  | _, 0 => []
  | v, d + 1 => if ts.getD v 0 = 0 then litR ts (v + 1) d else ((v : Int) * ts.getD v 0) :: litR ts (v + 1) d
theorem litR_pad {ts : List Int} : ∀ (d e v : Nat), ts.length ≤ v + d → litR ts v (d + e) = litR ts v d := by
  intro d
  induction d with
  | zero =>
    intro e
    induction e with
    | zero => intro v _; rfl
    | succ e ih =>
      intro v h
      have h0 : ts.getD v 0 = 0 := by rw [List.getD_eq_getElem?_getD, List.getElem?_eq_none (by omega)]; rfl
      have := ih (v + 1) (by omega)
      rw [Nat.zero_add] at this ⊢
      show (if ts.getD v 0 = 0 then litR ts (v + 1) e else _) = _
      rw [if_pos h0, this]; rfl
  | succ d ih =>
    intro e v h
    rw [show d + 1 + e = (d + e) + 1 by omega, litR, litR, ih e (v + 1) (by omega)]
theorem lits_range {y m : Nat} {ts : List Int} (tv : TV ts) (h : ∀ z, trM y m z ↔ trT ts z) : ∀ (d v : Nat), ((List.range' v d).filter fun i => (y ||| m).testBit i).map (litOf y m) = litR ts (v + 1) d := by
  intro d
  induction d with
  | zero => intro v; rfl
  | succ d ih =>
    intro v
    rw [List.range'_succ, List.filter_cons, litR]
    have hp := h ((v + 1 : Nat) : Int)
    have hm := h (-((v + 1 : Nat) : Int))
    have p1 : trM y m ((v + 1 : Nat) : Int) ↔ y.testBit v = true := by
      unfold trM
      rw [show ((v + 1 : Nat) : Int).natAbs - 1 = v by omega]
      constructor
      · rintro (⟨_, h⟩ | ⟨h, _⟩)
        · exact h
        · omega
      · intro h; exact .inl ⟨by omega, h⟩
    have m1 : trM y m (-((v + 1 : Nat) : Int)) ↔ m.testBit v = true := by
      unfold trM
      rw [show (-((v + 1 : Nat) : Int)).natAbs - 1 = v by omega]
      constructor
      · rintro (⟨h, _⟩ | ⟨_, h⟩)
        · omega
        · exact h
      · intro h; exact .inr ⟨by omega, h⟩
    have p2 : trT ts ((v + 1 : Nat) : Int) ↔ 0 < ts.getD (v + 1) 0 := by
      unfold trT tvR
      rw [if_neg (by omega), show ((v + 1 : Nat) : Int).toNat = v + 1 by omega]
      exact ⟨fun h => h.2, fun h => ⟨by omega, h⟩⟩
    have m2 : trT ts (-((v + 1 : Nat) : Int)) ↔ ts.getD (v + 1) 0 < 0 := by
      unfold trT tvR
      rw [if_pos (by omega), show (-(-((v + 1 : Nat) : Int))).toNat = v + 1 by omega]
      constructor
      · intro h; have := h.2; omega
      · intro h; exact ⟨by omega, by omega⟩
    rw [p1, p2] at hp
    rw [m1, m2] at hm
    have ht : -1 ≤ ts.getD (v + 1) 0 ∧ ts.getD (v + 1) 0 ≤ 1 := by
      rw [List.getD_eq_getElem?_getD]
      cases e : ts[v + 1]? with
      | none => simp
      | some t => exact tv t (List.mem_of_getElem? e)
    rw [Nat.testBit_or]
    by_cases h0 : ts.getD (v + 1) 0 = 0
    · have a : y.testBit v = false := by
        cases hb : y.testBit v with
        | false => rfl
        | true => have := hp.1 hb; omega
      have b : m.testBit v = false := by
        cases hb : m.testBit v with
        | false => rfl
        | true => have := hm.1 hb; omega
      rw [a, b, if_pos h0]
      exact ih (v + 1)
    · rw [if_neg h0]
      by_cases h1 : 0 < ts.getD (v + 1) 0
      · have a := hp.2 h1
        rw [a, Bool.true_or, if_pos rfl, List.map_cons, ih (v + 1)]
        congr 1
        unfold litOf ofN
        rw [if_pos a, if_neg (by decide), show ts.getD (v + 1) 0 = 1 by omega, Int.mul_one]
      · have a : y.testBit v = false := by
          cases hb : y.testBit v with
          | false => rfl
          | true => exact absurd (hp.1 hb) h1
        have b := hm.2 (by omega)
        rw [a, b, Bool.or_true, if_pos rfl, List.map_cons, ih (v + 1)]
        congr 1
        unfold litOf ofN
        rw [a, if_neg (show ¬ (false = true) by decide), if_pos b, if_pos rfl, show ts.getD (v + 1) 0 = -1 by omega]
        omega
theorem lits_same {y m vars : Nat} {ts : List Int} (hv : vars ≤ 30) (hl : ts.length = vars + 1) (tv : TV ts) (h : ∀ z, trM y m z ↔ trT ts z) : litsN y m = litR ts 1 vars := by
  have := lits_range tv h 30 0
  rw [Nat.zero_add] at this
  unfold litsN digits
  rw [List.range_eq_range', this, show (30 : Nat) = vars + (30 - vars) by omega, litR_pad _ _ _ (by omega)]
section
variable {O : CallF} (hO : Oth O)
include hO
theorem lp102_1 {h₀ : Hp} (ok : h₀.Ok) {a0 : Option Addr} {n0 c0 : Nat} {l : List Int} (X : IntsAt h₀ a0 n0 l) (hl : l.length < 100000) (hlit : ∀ x ∈ l, Lit x) {v : Nat} {tail : List Int} {R : List Int}
    (next : ∀ a n c out h, Kp h₀.nx h₀ h → AccI 3 h h₀.nx a n c out → out.length ≤ tail.length + l.length → R = out ++ conO l (v + 1) (30 - v) → I102_0 O (RInts h₀ R) a0 n0 c0 a n c (wrapF .i64 (Int.ofNat v + 1)) h) (ht : tail.length < 100000000) :
    ∀ (d k : Nat), k + d = l.length → ∀ {a : Option Addr} {n c : Nat} {out : List Int} {h : Hp}, Kp h₀.nx h₀ h → AccI 3 h h₀.nx a n c out → out.length ≤ tail.length + k → R = out ++ (((l.drop k).filter fun x => x.natAbs == v).map (fun x => -x) ++ conO l (v + 1) (30 - v)) →
      I102_1 O (RInts h₀ R) a0 n0 c0 a n c (Int.ofNat v) (Int.ofNat k) h := by
  have hn := X.1
  intro d
  induction d with
  | zero =>
    intro k hk a n c out h K A ho hr
    refine I102_1.of _ _ _ _ _ _ _ _ ?_
    intros
    unfold T102_1
    rw [List.drop_of_length_le (by omega)] at hr
    exact vcond_f (by rw [ltI_nat]; exact blt_f (by omega)) (next a n c out h K A (by omega) hr ..)
  | succ d ih =>
    intro k hk a n c out h K A ho hr
    refine I102_1.of _ _ _ _ _ _ _ _ ?_
    intros
    unfold T102_1
    have e1 : l.drop k = l[k] :: l.drop (k + 1) := List.drop_eq_getElem_cons (by omega)
    rw [e1, List.filter_cons] at hr
    have hx := hlit l[k] (List.getElem_mem _)
    refine vcond_t (by rw [ltI_nat]; exact blt_t (by omega)) (isNat_of (X.get (k := k) (by omega) fun b' off _ hlt hrd => vreq_t (blt_t (by omega)) ⟨_, by rw [readAt_kp K hlt]; exact hrd, _, _, ct98l hO hx h, vcond_split (fun h1 => ?_) fun h1 => ?_⟩))
    · have h1 : l[k].natAbs = v := Int.ofNat.inj (eq_of_t h1)
      rw [show (l[k].natAbs == v) = true by simpa using h1, if_pos rfl, List.map_cons] at hr
      have e2 : wrapF .i64 (0 - l[k]) = -l[k] := by have := hx.2; rw [wrap64 (by omega) (by omega)]; omega
      obtain ⟨a', n', c', h', p1, p2, p3⟩ := app_int app32 A K.nx (fun q hq => by rw [K.gd] at hq; exact ok.gd q hq) (by omega) (-l[k])
      refine isNat_of (X.get (k := k) (by omega) fun b' off _ hlt hrd => vreq_t (blt_t (by omega)) ⟨_, by rw [readAt_kp K hlt]; exact hrd, a', n', c', h', by rw [e2]; exact p1, ?_⟩)
      rw [wrap_succ (by omega)]
      exact ih (k + 1) (by omega) (K.trans (p3.kp A K.nx)) p2 (by simp; omega) (by rw [hr]; simp) ..
    · have h1 : l[k].natAbs ≠ v := fun hh => ne_of_f h1 (by rw [hh])
      rw [show (l[k].natAbs == v) = false by simpa using h1, if_neg (by decide)] at hr
      rw [wrap_succ (by omega)]
      exact ih (k + 1) (by omega) K A (by omega) hr ..
theorem lp102_0 {h₀ : Hp} (ok : h₀.Ok) {a0 : Option Addr} {n0 c0 : Nat} {l : List Int} (X : IntsAt h₀ a0 n0 l) (hl : l.length < 100000) (hlit : ∀ x ∈ l, Lit x) {R : List Int} :
    ∀ (d v : Nat), v + d = 31 → ∀ {a : Option Addr} {n c : Nat} {out : List Int} {h : Hp}, Kp h₀.nx h₀ h → AccI 3 h h₀.nx a n c out → out.length ≤ v * l.length → R = out ++ conO l v (31 - v) → I102_0 O (RInts h₀ R) a0 n0 c0 a n c (Int.ofNat v) h := by
  intro d
  induction d with
  | zero =>
    intro v hv a n c out h K A ho hr
    refine I102_0.of _ _ _ _ _ _ _ ?_
    intros
    unfold T102_0
    obtain rfl : v = 31 := by omega
    have hr : R = out := by simpa [conO] using hr
    subst hr
    exact vcond_f rfl ⟨a, n, c, rfl, A.ints, K, fun b off e => Acc.fresh A e⟩
  | succ d ih =>
    intro v hv a n c out h K A ho hr
    refine I102_0.of _ _ _ _ _ _ _ ?_
    intros
    unfold T102_0
    have e : 31 - v = (30 - v) + 1 := by omega
    rw [e] at hr
    have hr : R = out ++ (conI l v ++ conO l (v + 1) (30 - v)) := hr
    have hm : v * l.length ≤ 31 * l.length := Nat.mul_le_mul_right _ (by omega)
    refine vcond_t (by rw [ltI_f (by simp only [Int.ofNat_eq_natCast]; omega)]; rfl) (lp102_1 hO ok X hl hlit (v := v) (tail := out) (R := R) (fun a n c out' h K A ho' hr => ?_) (by omega) l.length 0 (by omega) K A (by omega) hr ..)
    rw [wrap_succ (by omega)]
    refine ih (v + 1) (by omega) K A (by rw [Nat.add_mul]; omega) ?_
    rw [show 31 - (v + 1) = 30 - v by omega]; exact hr
theorem ct102 {h : Hp} (ok : h.Ok) {a0 : Option Addr} {n0 c0 : Nat} {l : List Int} (X : IntsAt h a0 n0 l) (hl : l.length < 100000) (hlit : ∀ x ∈ l, Lit x) : Ret Tryd.prog O 102 [.slice a0 n0 c0] h (RInts h (conO l 1 30)) := by
  refine rk102 _ _ _ (hO _ _ _ (by decide)) ?_
  unfold T102
  exact lp102_0 hO ok X hl hlit 30 1 (by omega) (.refl _ _) (AccI.nil ..) (by simp) rfl ..
theorem ct91 {a a1 : Option Addr} {n c n1 c1 : Nat} {vars : Int} {h : Hp} {cls : List (List Int)} {gs : List Int} (H : IntssAt h a n cls) (hl : cls.length < 1000000) (hll : ∀ l ∈ cls, l.length < 1000000) (G : IntsAt h a1 n1 gs) (hgl : gs.length < 1000000) :
    Ret Tryd.prog O 91 [Fm vars a n c, .slice a1 n1 c1] h fun v h' => v = .int .i64 (if askB vars cls gs = true then 0 else 2) ∧ Kp h.nx h h' := by
  refine rk91 _ _ _ _ _ _ _ (hO _ _ _ (by decide)) ?_
  unfold T91
  have kp := fm_kp h vars a n c
  have g := fm_get h vars a n c
  obtain ⟨v1, h1, e1, rfl, K1⟩ := ct85 hO (c := c) (vars := vars) (H.up EInts.up kp) hl hll
  have k1 : Kp h.nx h h1 := kp.trans (K1.le kp.nx)
  have g1 : h1.get h.nx = some (.cells [.int .i64 vars, .slice a n c] 30 .fix) := by rw [K1.get _ (by rw [nx_add]; omega)]; exact g
  refine ⟨_, _, _, _, readAt_get g (by simp), _, _, e1, vcond_split (fun h2 => ?_) fun h2 => ?_⟩
  · have hf : formB vars cls = false := by simpa using h2
    unfold askB; rw [hf]; exact ⟨rfl, k1⟩
  · have hf : formB vars cls = true := by simpa using h2
    refine ⟨_, read1 g1 rfl, _, _, ct105 hO vars (G.up EInt.up k1) hgl (c := c1), vcond_split (fun h3 => ?_) fun h3 => ?_⟩
    · have h3 : clB vars 0 gs = false := by simpa using h3
      unfold askB; rw [hf, h3]; exact ⟨rfl, k1⟩
    · have h3 : clB vars 0 gs = true := by simpa using h3
      unfold askB; rw [hf, h3]; exact ⟨rfl, k1⟩
theorem lp93_0 {h₀ : Hp} (ok : h₀.Ok) {a0 : Option Addr} {n0 c0 : Nat} {ts : List Int} (X : IntsAt h₀ a0 n0 ts) (hl : ts.length < 1000) (tv : TV ts) {R : List Int} :
    ∀ (d v : Nat), v + d = ts.length → ∀ {a : Option Addr} {n c : Nat} {out : List Int} {h : Hp}, Kp h₀.nx h₀ h → AccI 3 h h₀.nx a n c out → out.length ≤ v → R = out ++ litR ts v d → I93_0 O (RInts h₀ R) a0 n0 c0 a n c (Int.ofNat v) h := by
  have _ := hO
  have hn := X.1
  intro d
  induction d with
  | zero =>
    intro v hv a n c out h K A ho hr
    refine I93_0.of _ _ _ _ _ _ _ ?_
    intros
    unfold T93_0
    have hr : R = out := by simpa [litR] using hr
    subst hr
    exact vcond_f (by rw [ltI_nat]; exact blt_f (by omega)) ⟨a, n, c, rfl, A.ints, K, fun b off e => Acc.fresh A e⟩
  | succ d ih =>
    intro v hv a n c out h K A ho hr
    refine I93_0.of _ _ _ _ _ _ _ ?_
    intros
    unfold T93_0
    have hg : ts.getD v 0 = ts[v] := by rw [List.getD_eq_getElem?_getD, List.getElem?_eq_getElem (by omega)]; rfl
    have ht := tv ts[v] (List.getElem_mem _)
    simp only [litR, hg] at hr
    refine vcond_t (by rw [ltI_nat]; exact blt_t (by omega)) (isNat_of (X.get (k := v) (by omega) fun b' off _ hlt hrd => vreq_t (blt_t (by omega)) ⟨_, by rw [readAt_kp K hlt]; exact hrd, vcond_split (fun h1 => ?_) fun h1 => ?_⟩))
    · have h1 : ¬ ts[v] = 0 := ne_of_f (by simpa using h1)
      rw [if_neg h1] at hr
      have e2 : wrapF .i64 (Int.ofNat v * ts[v]) = (v : Int) * ts[v] := by
        have : -1000 ≤ (v : Int) * ts[v] ∧ (v : Int) * ts[v] ≤ 1000 := by
          obtain ⟨t1, t2⟩ := ht
          have : ts[v] = -1 ∨ ts[v] = 1 := by omega
          rcases this with h | h <;> rw [h] <;> omega
        rw [wrap64] <;> simp only [Int.ofNat_eq_natCast] <;> omega
      obtain ⟨a', n', c', h', p1, p2, p3⟩ := app_int app32 A K.nx (fun q hq => by rw [K.gd] at hq; exact ok.gd q hq) (by omega) ((v : Int) * ts[v])
      refine isNat_of (X.get (k := v) (by omega) fun b' off _ hlt hrd => vreq_t (blt_t (by omega)) ⟨_, by rw [readAt_kp K hlt]; exact hrd, a', n', c', h', by rw [e2]; exact p1, ?_⟩)
      rw [wrap_succ (by omega)]
      exact ih (v + 1) (by omega) (K.trans (p3.kp A K.nx)) p2 (by simp; omega) (by rw [hr]; simp) ..
    · have h1 : ts[v] = 0 := eq_of_t (by simpa using h1)
      rw [if_pos h1] at hr
      rw [wrap_succ (by omega)]
      exact ih (v + 1) (by omega) K A (by omega) hr ..
theorem ct93 {h : Hp} (ok : h.Ok) {a0 : Option Addr} {n0 c0 : Nat} {ts : List Int} (X : IntsAt h a0 n0 ts) (hl : ts.length < 1000) (h1 : 1 ≤ ts.length) (tv : TV ts) : Ret Tryd.prog O 93 [.slice a0 n0 c0] h (RInts h (litR ts 1 (ts.length - 1))) := by
  refine rk93 _ _ _ (hO _ _ _ (by decide)) ?_
  unfold T93
  exact lp93_0 hO ok X hl tv (ts.length - 1) 1 (by omega) (.refl _ _) (AccI.nil ..) (by simp) rfl ..
end
end Go.Proofs.YtfgfhplgnfbaaaaDoor
/- Conditions of functions' code, printed by a program of ours. -/
namespace Go.Proofs.YtfgfhplgnfbaaaaDoor
open Go Go.Ev
set_option maxRecDepth 100000
set_option linter.unusedVariables false
/-! sward/sat.contrary -/
noncomputable def b96 : Code := (Tryd.f96.body).getD .skip
noncomputable def stk96_0 : List KI := [.code (sub [1, 1, 0, 1, 0] b96), .blk 0, .code (sub [1, 1, 1] b96)]
def lv96 : List (Nat × List Nat) := [(0, [2, 3, 6, 7, 8])]
def I96_0 (O : CallF) (Q : Value → Hp → Prop) (a0 : Option Addr) (n0 : Nat) (c0 : Nat) (a3 : Option Addr) (n3 : Nat) (c3 : Nat) (x8 : Int) (h : Hp) : Prop := RKL Tryd.prog O Tryd.f96 stk96_0 21 [2, 3, 6, 7, 8] [(.slice none 0 0), (.slice a3 n3 c3), (.slice a0 n0 c0), (.int .i64 (Int.ofNat n0)), (.int .i64 x8)] h Q
def T96 (O : CallF) (Q : Value → Hp → Prop) (a0 : Option Addr) (n0 : Nat) (c0 : Nat) (h : Hp) : Prop :=
  I96_0 O Q a0 n0 c0 none 0 0 0 h
theorem rk96 {O Q} (a0 n0 c0) {h : Hp} (hO : O 96 [(.slice a0 n0 c0)] h = none) (hh : T96 O Q a0 n0 c0 h) : Ret Tryd.prog O 96 [(.slice a0 n0 c0)] h Q :=
  .of (c := b96) Tryd.func96 (by kernel_rfl) hO (V_ok (tb := lv96) (cuts := []) 500 (Eq.mp (by kernel_rfl) hh))
def T96_0 (O : CallF) (Q : Value → Hp → Prop) (a0 : Option Addr) (n0 : Nat) (c0 : Nat) (a3 : Option Addr) (n3 : Nat) (c3 : Nat) (x8 : Int) (h : Hp) : Prop :=
  vcond (ltI x8 (Int.ofNat n0))
  (isNat x8 fun n101' =>
  isAddr a0 fun b102' f103' =>
  vreq (Nat.blt n101' n0)
  (∃ x104', readAt h b102' (f103' + (n101' * 1)) 1 = some [(.int .i64 x104')] ∧
  ∃ a105' n106' c107' h108', appendV Tryd.prog (h.add (.cells [(.int .i64 (wrapF .i64 (0 - x104')))] 3 .fix)) 32 32 (.slice a3 n3 c3) (.slice (some ⟨h.nx, 0, none⟩) 1 1) = some (.slice a105' n106' c107', h108') ∧
  I96_0 O Q a0 n0 c0 a105' n106' c107' (wrapF .i64 (x8 + 1)) h108'))
  (∃ h109', EvC Tryd.prog O 74 [(.slice a3 n3 c3), (.func (.func 123) #[] #[])] h undef h109' ∧
  Q (.slice a3 n3 c3) h109')
theorem I96_0.of {O Q} (a0 n0 c0 a3 n3 c3 x8) {h : Hp} (hh : T96_0 O Q a0 n0 c0 a3 n3 c3 x8 h) : I96_0 O Q a0 n0 c0 a3 n3 c3 x8 h :=
  RKL.of (tb := lv96) (cuts := []) 500 fun _ => Eq.mp (by kernel_rfl) hh
/-! sward/sat.contrary$1 -/
noncomputable def b123 : Code := (Tryd.f123.body).getD .skip
def lv123 : List (Nat × List Nat) := []
def T123 (O : CallF) (Q : Value → Hp → Prop) (x0 : Int) (x1 : Int) (h : Hp) : Prop :=
  ∃ x1', ∃ h2', EvC Tryd.prog O 94 [(.int .i64 x0)] h (.int .i64 x1') h2' ∧
  ∃ x3', ∃ h4', EvC Tryd.prog O 94 [(.int .i64 x1)] h2' (.int .i64 x3') h4' ∧
  Q (.int .i64 (wrapF .i64 (x1' - x3'))) h4'
theorem rk123 {O Q} (x0 x1) {h : Hp} (hO : O 123 [(.int .i64 x0), (.int .i64 x1)] h = none) (hh : T123 O Q x0 x1 h) : Ret Tryd.prog O 123 [(.int .i64 x0), (.int .i64 x1)] h Q :=
  .of (c := b123) Tryd.func123 (by kernel_rfl) hO (V_ok (tb := lv123) (cuts := []) 500 (Eq.mp (by kernel_rfl) hh))
/-! slices.SortFunc[[]int,int] -/
noncomputable def b74 : Code := (Tryd.f74.body).getD .skip
def lv74 : List (Nat × List Nat) := []
def T74 (O : CallF) (Q : Value → Hp → Prop) (a0 : Option Addr) (n0 : Nat) (c0 : Nat) (g1 : Nat) (fi1 : Array Value) (ca1 : Array Value) (h : Hp) : Prop :=
  ∃ x1', ∃ h2', EvC Tryd.prog O 116 [(.int .u64 (wrapF .u64 (Int.ofNat n0)))] h (.int .i64 x1') h2' ∧
  ∃ h3', EvC Tryd.prog O 115 [(.slice a0 n0 c0), (.int .i64 0), (.int .i64 (Int.ofNat n0)), (.int .i64 x1'), (.func (.func g1) fi1 ca1)] h2' undef h3' ∧
  Q undef h3'
theorem rk74 {O Q} (a0 n0 c0 g1 fi1 ca1) {h : Hp} (hO : O 74 [(.slice a0 n0 c0), (.func (.func g1) fi1 ca1)] h = none) (hh : T74 O Q a0 n0 c0 g1 fi1 ca1 h) : Ret Tryd.prog O 74 [(.slice a0 n0 c0), (.func (.func g1) fi1 ca1)] h Q :=
  .of (c := b74) Tryd.func74 (by kernel_rfl) hO (V_ok (tb := lv74) (cuts := []) 500 (Eq.mp (by kernel_rfl) hh))
/-! slices.pdqsortCmpFunc[int] -/
noncomputable def b115 : Code := (Tryd.f115.body).getD .skip
noncomputable def stk115_0 : List KI := [.code (sub [1, 1, 0] b115), .blk 0]
def lv115 : List (Nat × List Nat) := [(0, [0, 1, 2, 3, 4, 10, 11])]
def I115_0 (O : CallF) (Q : Value → Hp → Prop) (a0 : Option Addr) (n0 : Nat) (c0 : Nat) (x1 : Int) (x2 : Int) (x3 : Int) (g4 : Nat) (fi4 : Array Value) (ca4 : Array Value) (x1s : Int) (x2s : Int) (x3s : Int) (g4s : Nat) (fi4s : Array Value) (ca4s : Array Value) (q10 : Bool) (q11 : Bool) (h : Hp) : Prop := RKL Tryd.prog O Tryd.f115 stk115_0 148 [0, 1, 2, 3, 4, 10, 11] [(.slice a0 n0 c0), (.int .i64 x1s), (.int .i64 x2s), (.int .i64 x3s), (.func (.func g4s) fi4s ca4s), (.bool q10), (.bool q11)] h Q
def T115 (O : CallF) (Q : Value → Hp → Prop) (a0 : Option Addr) (n0 : Nat) (c0 : Nat) (x1 : Int) (x2 : Int) (x3 : Int) (g4 : Nat) (fi4 : Array Value) (ca4 : Array Value) (h : Hp) : Prop :=
  I115_0 O Q a0 n0 c0 x1 x2 x3 g4 fi4 ca4 x1 x2 x3 g4 fi4 ca4 true true h
theorem rk115 {O Q} (a0 n0 c0 x1 x2 x3 g4 fi4 ca4) {h : Hp} (hO : O 115 [(.slice a0 n0 c0), (.int .i64 x1), (.int .i64 x2), (.int .i64 x3), (.func (.func g4) fi4 ca4)] h = none) (hh : T115 O Q a0 n0 c0 x1 x2 x3 g4 fi4 ca4 h) : Ret Tryd.prog O 115 [(.slice a0 n0 c0), (.int .i64 x1), (.int .i64 x2), (.int .i64 x3), (.func (.func g4) fi4 ca4)] h Q :=
  .of (c := b115) Tryd.func115 (by kernel_rfl) hO (V_ok (tb := lv115) (cuts := []) 500 (Eq.mp (by kernel_rfl) hh))
def T115_0 (O : CallF) (Q : Value → Hp → Prop) (a0 : Option Addr) (n0 : Nat) (c0 : Nat) (x1 : Int) (x2 : Int) (x3 : Int) (g4 : Nat) (fi4 : Array Value) (ca4 : Array Value) (x1s : Int) (x2s : Int) (x3s : Int) (g4s : Nat) (fi4s : Array Value) (ca4s : Array Value) (q10 : Bool) (q11 : Bool) (h : Hp) : Prop :=
  vcond (!(ltI 12 (wrapF .i64 (x2s - x1s))))
  (∃ h101', EvC Tryd.prog O 127 [(.slice a0 n0 c0), (.int .i64 x1s), (.int .i64 x2s), (.func (.func g4s) fi4s ca4s)] h undef h101' ∧
  Q undef h101')
  (vcond (eqI x3s 0)
  (∃ h102', EvC Tryd.prog O 128 [(.slice a0 n0 c0), (.int .i64 x1s), (.int .i64 x2s), (.func (.func g4s) fi4s ca4s)] h undef h102' ∧
  Q undef h102')
  (vcond (!q10)
  (∃ h103', EvC Tryd.prog O 129 [(.slice a0 n0 c0), (.int .i64 x1s), (.int .i64 x2s), (.func (.func g4s) fi4s ca4s)] h undef h103' ∧
  ∃ x104', ∃ x105', ∃ h106', EvC Tryd.prog O 130 [(.slice a0 n0 c0), (.int .i64 x1s), (.int .i64 x2s), (.func (.func g4s) fi4s ca4s)] h103' (.tuple #[(.int .i64 x104'), (.int .i64 x105')]) h106' ∧
  vcond (eqI x105' 2)
  (∃ h107', EvC Tryd.prog O 131 [(.slice a0 n0 c0), (.int .i64 x1s), (.int .i64 x2s), (.func (.func g4s) fi4s ca4s)] h106' undef h107' ∧
  vcond q10
  (vcond q11
  (∃ q108', ∃ h109', EvC Tryd.prog O 132 [(.slice a0 n0 c0), (.int .i64 x1s), (.int .i64 x2s), (.func (.func g4s) fi4s ca4s)] h107' (.bool q108') h109' ∧
  vcond q108'
  (Q undef h109')
  (vcond (ltI 0 x1s)
  (isNat (wrapF .i64 (x1s - 1)) fun n110' =>
  isAddr a0 fun b111' f112' =>
  vreq (Nat.blt n110' n0)
  (∃ x113', readAt (h109'.rsv 17) b111' (f112' + (n110' * 1)) 1 = some [(.int .i64 x113')] ∧
  isNat (wrapF .i64 ((wrapF .i64 (x2s - 1)) - (wrapF .i64 (x104' - x1s)))) fun n114' =>
  isAddr a0 fun b115' f116' =>
  vreq (Nat.blt n114' n0)
  (∃ x117', readAt (h109'.rsv 17) b115' (f116' + (n114' * 1)) 1 = some [(.int .i64 x117')] ∧
  ∃ x118', ∃ h119', EvC Tryd.prog O g4s (fi4s.toList ++ [(.int .i64 x113'), (.int .i64 x117')] ++ ca4s.toList) ((h109'.rsv 17).grd []) (.int .i64 x118') h119' ∧
  vcond (!(ltI x118' 0))
  (∃ x120', ∃ h121', EvC Tryd.prog O 133 [(.slice a0 n0 c0), (.int .i64 x1s), (.int .i64 x2s), (.int .i64 (wrapF .i64 ((wrapF .i64 (x2s - 1)) - (wrapF .i64 (x104' - x1s))))), (.func (.func g4s) fi4s ca4s)] (h119'.rst (h109'.rsv 17)) (.int .i64 x120') h121' ∧
  I115_0 O Q a0 n0 c0 x1 x2 x3 g4 fi4 ca4 x120' x2s (wrapF .i64 (x3s - 1)) g4s fi4s ca4s q10 q11 h121')
  (∃ x122', ∃ q123', ∃ h124', EvC Tryd.prog O 134 [(.slice a0 n0 c0), (.int .i64 x1s), (.int .i64 x2s), (.int .i64 (wrapF .i64 ((wrapF .i64 (x2s - 1)) - (wrapF .i64 (x104' - x1s))))), (.func (.func g4s) fi4s ca4s)] (h119'.rst (h109'.rsv 17)) (.tuple #[(.int .i64 x122'), (.bool q123')]) h124' ∧
  vcond (ltI (wrapF .i64 (x122' - x1s)) (wrapF .i64 (x2s - x122')))
  (∃ h125', EvC Tryd.prog O 115 [(.slice a0 n0 c0), (.int .i64 x1s), (.int .i64 x122'), (.int .i64 (wrapF .i64 (x3s - 1))), (.func (.func g4s) fi4s ca4s)] h124' undef h125' ∧
  I115_0 O Q a0 n0 c0 x1 x2 x3 g4 fi4 ca4 (wrapF .i64 (x122' + 1)) x2s (wrapF .i64 (x3s - 1)) g4s fi4s ca4s (!(ltI (wrapF .i64 (x122' - x1s)) (wrapF .i64 (Int.tdiv (wrapF .i64 (x2s - x1s)) 8)))) q123' h125')
  (∃ h126', EvC Tryd.prog O 115 [(.slice a0 n0 c0), (.int .i64 (wrapF .i64 (x122' + 1))), (.int .i64 x2s), (.int .i64 (wrapF .i64 (x3s - 1))), (.func (.func g4s) fi4s ca4s)] h124' undef h126' ∧
  I115_0 O Q a0 n0 c0 x1 x2 x3 g4 fi4 ca4 x1s x122' (wrapF .i64 (x3s - 1)) g4s fi4s ca4s (!(ltI (wrapF .i64 (x2s - x122')) (wrapF .i64 (Int.tdiv (wrapF .i64 (x2s - x1s)) 8)))) q123' h126')))))
  (∃ x127', ∃ q128', ∃ h129', EvC Tryd.prog O 134 [(.slice a0 n0 c0), (.int .i64 x1s), (.int .i64 x2s), (.int .i64 (wrapF .i64 ((wrapF .i64 (x2s - 1)) - (wrapF .i64 (x104' - x1s))))), (.func (.func g4s) fi4s ca4s)] (h109'.rsv 17) (.tuple #[(.int .i64 x127'), (.bool q128')]) h129' ∧
  vcond (ltI (wrapF .i64 (x127' - x1s)) (wrapF .i64 (x2s - x127')))
  (∃ h130', EvC Tryd.prog O 115 [(.slice a0 n0 c0), (.int .i64 x1s), (.int .i64 x127'), (.int .i64 (wrapF .i64 (x3s - 1))), (.func (.func g4s) fi4s ca4s)] h129' undef h130' ∧
  I115_0 O Q a0 n0 c0 x1 x2 x3 g4 fi4 ca4 (wrapF .i64 (x127' + 1)) x2s (wrapF .i64 (x3s - 1)) g4s fi4s ca4s (!(ltI (wrapF .i64 (x127' - x1s)) (wrapF .i64 (Int.tdiv (wrapF .i64 (x2s - x1s)) 8)))) q128' h130')
  (∃ h131', EvC Tryd.prog O 115 [(.slice a0 n0 c0), (.int .i64 (wrapF .i64 (x127' + 1))), (.int .i64 x2s), (.int .i64 (wrapF .i64 (x3s - 1))), (.func (.func g4s) fi4s ca4s)] h129' undef h131' ∧
  I115_0 O Q a0 n0 c0 x1 x2 x3 g4 fi4 ca4 x1s x127' (wrapF .i64 (x3s - 1)) g4s fi4s ca4s (!(ltI (wrapF .i64 (x2s - x127')) (wrapF .i64 (Int.tdiv (wrapF .i64 (x2s - x1s)) 8)))) q128' h131'))))
  (vcond (ltI 0 x1s)
  (isNat (wrapF .i64 (x1s - 1)) fun n132' =>
  isAddr a0 fun b133' f134' =>
  vreq (Nat.blt n132' n0)
  (∃ x135', readAt (h107'.rsv 17) b133' (f134' + (n132' * 1)) 1 = some [(.int .i64 x135')] ∧
  isNat (wrapF .i64 ((wrapF .i64 (x2s - 1)) - (wrapF .i64 (x104' - x1s)))) fun n136' =>
  isAddr a0 fun b137' f138' =>
  vreq (Nat.blt n136' n0)
  (∃ x139', readAt (h107'.rsv 17) b137' (f138' + (n136' * 1)) 1 = some [(.int .i64 x139')] ∧
  ∃ x140', ∃ h141', EvC Tryd.prog O g4s (fi4s.toList ++ [(.int .i64 x135'), (.int .i64 x139')] ++ ca4s.toList) ((h107'.rsv 17).grd []) (.int .i64 x140') h141' ∧
  vcond (!(ltI x140' 0))
  (∃ x142', ∃ h143', EvC Tryd.prog O 133 [(.slice a0 n0 c0), (.int .i64 x1s), (.int .i64 x2s), (.int .i64 (wrapF .i64 ((wrapF .i64 (x2s - 1)) - (wrapF .i64 (x104' - x1s))))), (.func (.func g4s) fi4s ca4s)] (h141'.rst (h107'.rsv 17)) (.int .i64 x142') h143' ∧
  I115_0 O Q a0 n0 c0 x1 x2 x3 g4 fi4 ca4 x142' x2s (wrapF .i64 (x3s - 1)) g4s fi4s ca4s q10 q11 h143')
  (∃ x144', ∃ q145', ∃ h146', EvC Tryd.prog O 134 [(.slice a0 n0 c0), (.int .i64 x1s), (.int .i64 x2s), (.int .i64 (wrapF .i64 ((wrapF .i64 (x2s - 1)) - (wrapF .i64 (x104' - x1s))))), (.func (.func g4s) fi4s ca4s)] (h141'.rst (h107'.rsv 17)) (.tuple #[(.int .i64 x144'), (.bool q145')]) h146' ∧
  vcond (ltI (wrapF .i64 (x144' - x1s)) (wrapF .i64 (x2s - x144')))
  (∃ h147', EvC Tryd.prog O 115 [(.slice a0 n0 c0), (.int .i64 x1s), (.int .i64 x144'), (.int .i64 (wrapF .i64 (x3s - 1))), (.func (.func g4s) fi4s ca4s)] h146' undef h147' ∧
  I115_0 O Q a0 n0 c0 x1 x2 x3 g4 fi4 ca4 (wrapF .i64 (x144' + 1)) x2s (wrapF .i64 (x3s - 1)) g4s fi4s ca4s (!(ltI (wrapF .i64 (x144' - x1s)) (wrapF .i64 (Int.tdiv (wrapF .i64 (x2s - x1s)) 8)))) q145' h147')
  (∃ h148', EvC Tryd.prog O 115 [(.slice a0 n0 c0), (.int .i64 (wrapF .i64 (x144' + 1))), (.int .i64 x2s), (.int .i64 (wrapF .i64 (x3s - 1))), (.func (.func g4s) fi4s ca4s)] h146' undef h148' ∧
  I115_0 O Q a0 n0 c0 x1 x2 x3 g4 fi4 ca4 x1s x144' (wrapF .i64 (x3s - 1)) g4s fi4s ca4s (!(ltI (wrapF .i64 (x2s - x144')) (wrapF .i64 (Int.tdiv (wrapF .i64 (x2s - x1s)) 8)))) q145' h148')))))
  (∃ x149', ∃ q150', ∃ h151', EvC Tryd.prog O 134 [(.slice a0 n0 c0), (.int .i64 x1s), (.int .i64 x2s), (.int .i64 (wrapF .i64 ((wrapF .i64 (x2s - 1)) - (wrapF .i64 (x104' - x1s))))), (.func (.func g4s) fi4s ca4s)] (h107'.rsv 17) (.tuple #[(.int .i64 x149'), (.bool q150')]) h151' ∧
  vcond (ltI (wrapF .i64 (x149' - x1s)) (wrapF .i64 (x2s - x149')))
  (∃ h152', EvC Tryd.prog O 115 [(.slice a0 n0 c0), (.int .i64 x1s), (.int .i64 x149'), (.int .i64 (wrapF .i64 (x3s - 1))), (.func (.func g4s) fi4s ca4s)] h151' undef h152' ∧
  I115_0 O Q a0 n0 c0 x1 x2 x3 g4 fi4 ca4 (wrapF .i64 (x149' + 1)) x2s (wrapF .i64 (x3s - 1)) g4s fi4s ca4s (!(ltI (wrapF .i64 (x149' - x1s)) (wrapF .i64 (Int.tdiv (wrapF .i64 (x2s - x1s)) 8)))) q150' h152')
  (∃ h153', EvC Tryd.prog O 115 [(.slice a0 n0 c0), (.int .i64 (wrapF .i64 (x149' + 1))), (.int .i64 x2s), (.int .i64 (wrapF .i64 (x3s - 1))), (.func (.func g4s) fi4s ca4s)] h151' undef h153' ∧
  I115_0 O Q a0 n0 c0 x1 x2 x3 g4 fi4 ca4 x1s x149' (wrapF .i64 (x3s - 1)) g4s fi4s ca4s (!(ltI (wrapF .i64 (x2s - x149')) (wrapF .i64 (Int.tdiv (wrapF .i64 (x2s - x1s)) 8)))) q150' h153'))))
  (vcond (ltI 0 x1s)
  (isNat (wrapF .i64 (x1s - 1)) fun n154' =>
  isAddr a0 fun b155' f156' =>
  vreq (Nat.blt n154' n0)
  (∃ x157', readAt (h107'.rsv 17) b155' (f156' + (n154' * 1)) 1 = some [(.int .i64 x157')] ∧
  isNat (wrapF .i64 ((wrapF .i64 (x2s - 1)) - (wrapF .i64 (x104' - x1s)))) fun n158' =>
  isAddr a0 fun b159' f160' =>
  vreq (Nat.blt n158' n0)
  (∃ x161', readAt (h107'.rsv 17) b159' (f160' + (n158' * 1)) 1 = some [(.int .i64 x161')] ∧
  ∃ x162', ∃ h163', EvC Tryd.prog O g4s (fi4s.toList ++ [(.int .i64 x157'), (.int .i64 x161')] ++ ca4s.toList) ((h107'.rsv 17).grd []) (.int .i64 x162') h163' ∧
  vcond (!(ltI x162' 0))
  (∃ x164', ∃ h165', EvC Tryd.prog O 133 [(.slice a0 n0 c0), (.int .i64 x1s), (.int .i64 x2s), (.int .i64 (wrapF .i64 ((wrapF .i64 (x2s - 1)) - (wrapF .i64 (x104' - x1s))))), (.func (.func g4s) fi4s ca4s)] (h163'.rst (h107'.rsv 17)) (.int .i64 x164') h165' ∧
  I115_0 O Q a0 n0 c0 x1 x2 x3 g4 fi4 ca4 x164' x2s (wrapF .i64 (x3s - 1)) g4s fi4s ca4s q10 q11 h165')
  (∃ x166', ∃ q167', ∃ h168', EvC Tryd.prog O 134 [(.slice a0 n0 c0), (.int .i64 x1s), (.int .i64 x2s), (.int .i64 (wrapF .i64 ((wrapF .i64 (x2s - 1)) - (wrapF .i64 (x104' - x1s))))), (.func (.func g4s) fi4s ca4s)] (h163'.rst (h107'.rsv 17)) (.tuple #[(.int .i64 x166'), (.bool q167')]) h168' ∧
  vcond (ltI (wrapF .i64 (x166' - x1s)) (wrapF .i64 (x2s - x166')))
  (∃ h169', EvC Tryd.prog O 115 [(.slice a0 n0 c0), (.int .i64 x1s), (.int .i64 x166'), (.int .i64 (wrapF .i64 (x3s - 1))), (.func (.func g4s) fi4s ca4s)] h168' undef h169' ∧
  I115_0 O Q a0 n0 c0 x1 x2 x3 g4 fi4 ca4 (wrapF .i64 (x166' + 1)) x2s (wrapF .i64 (x3s - 1)) g4s fi4s ca4s (!(ltI (wrapF .i64 (x166' - x1s)) (wrapF .i64 (Int.tdiv (wrapF .i64 (x2s - x1s)) 8)))) q167' h169')
  (∃ h170', EvC Tryd.prog O 115 [(.slice a0 n0 c0), (.int .i64 (wrapF .i64 (x166' + 1))), (.int .i64 x2s), (.int .i64 (wrapF .i64 (x3s - 1))), (.func (.func g4s) fi4s ca4s)] h168' undef h170' ∧
  I115_0 O Q a0 n0 c0 x1 x2 x3 g4 fi4 ca4 x1s x166' (wrapF .i64 (x3s - 1)) g4s fi4s ca4s (!(ltI (wrapF .i64 (x2s - x166')) (wrapF .i64 (Int.tdiv (wrapF .i64 (x2s - x1s)) 8)))) q167' h170')))))
  (∃ x171', ∃ q172', ∃ h173', EvC Tryd.prog O 134 [(.slice a0 n0 c0), (.int .i64 x1s), (.int .i64 x2s), (.int .i64 (wrapF .i64 ((wrapF .i64 (x2s - 1)) - (wrapF .i64 (x104' - x1s))))), (.func (.func g4s) fi4s ca4s)] (h107'.rsv 17) (.tuple #[(.int .i64 x171'), (.bool q172')]) h173' ∧
  vcond (ltI (wrapF .i64 (x171' - x1s)) (wrapF .i64 (x2s - x171')))
  (∃ h174', EvC Tryd.prog O 115 [(.slice a0 n0 c0), (.int .i64 x1s), (.int .i64 x171'), (.int .i64 (wrapF .i64 (x3s - 1))), (.func (.func g4s) fi4s ca4s)] h173' undef h174' ∧
  I115_0 O Q a0 n0 c0 x1 x2 x3 g4 fi4 ca4 (wrapF .i64 (x171' + 1)) x2s (wrapF .i64 (x3s - 1)) g4s fi4s ca4s (!(ltI (wrapF .i64 (x171' - x1s)) (wrapF .i64 (Int.tdiv (wrapF .i64 (x2s - x1s)) 8)))) q172' h174')
  (∃ h175', EvC Tryd.prog O 115 [(.slice a0 n0 c0), (.int .i64 (wrapF .i64 (x171' + 1))), (.int .i64 x2s), (.int .i64 (wrapF .i64 (x3s - 1))), (.func (.func g4s) fi4s ca4s)] h173' undef h175' ∧
  I115_0 O Q a0 n0 c0 x1 x2 x3 g4 fi4 ca4 x1s x171' (wrapF .i64 (x3s - 1)) g4s fi4s ca4s (!(ltI (wrapF .i64 (x2s - x171')) (wrapF .i64 (Int.tdiv (wrapF .i64 (x2s - x1s)) 8)))) q172' h175'))))
  (vcond q10
  (vcond q11
  (vcond (eqI x105' 1)
  (∃ q176', ∃ h177', EvC Tryd.prog O 132 [(.slice a0 n0 c0), (.int .i64 x1s), (.int .i64 x2s), (.func (.func g4s) fi4s ca4s)] h106' (.bool q176') h177' ∧
  vcond q176'
  (Q undef h177')
  (vcond (ltI 0 x1s)
  (isNat (wrapF .i64 (x1s - 1)) fun n178' =>
  isAddr a0 fun b179' f180' =>
  vreq (Nat.blt n178' n0)
  (∃ x181', readAt (h177'.rsv 17) b179' (f180' + (n178' * 1)) 1 = some [(.int .i64 x181')] ∧
  isNat x104' fun n182' =>
  isAddr a0 fun b183' f184' =>
  vreq (Nat.blt n182' n0)
  (∃ x185', readAt (h177'.rsv 17) b183' (f184' + (n182' * 1)) 1 = some [(.int .i64 x185')] ∧
  ∃ x186', ∃ h187', EvC Tryd.prog O g4s (fi4s.toList ++ [(.int .i64 x181'), (.int .i64 x185')] ++ ca4s.toList) ((h177'.rsv 17).grd []) (.int .i64 x186') h187' ∧
  vcond (!(ltI x186' 0))
  (∃ x188', ∃ h189', EvC Tryd.prog O 133 [(.slice a0 n0 c0), (.int .i64 x1s), (.int .i64 x2s), (.int .i64 x104'), (.func (.func g4s) fi4s ca4s)] (h187'.rst (h177'.rsv 17)) (.int .i64 x188') h189' ∧
  I115_0 O Q a0 n0 c0 x1 x2 x3 g4 fi4 ca4 x188' x2s (wrapF .i64 (x3s - 1)) g4s fi4s ca4s q10 q11 h189')
  (∃ x190', ∃ q191', ∃ h192', EvC Tryd.prog O 134 [(.slice a0 n0 c0), (.int .i64 x1s), (.int .i64 x2s), (.int .i64 x104'), (.func (.func g4s) fi4s ca4s)] (h187'.rst (h177'.rsv 17)) (.tuple #[(.int .i64 x190'), (.bool q191')]) h192' ∧
  vcond (ltI (wrapF .i64 (x190' - x1s)) (wrapF .i64 (x2s - x190')))
  (∃ h193', EvC Tryd.prog O 115 [(.slice a0 n0 c0), (.int .i64 x1s), (.int .i64 x190'), (.int .i64 (wrapF .i64 (x3s - 1))), (.func (.func g4s) fi4s ca4s)] h192' undef h193' ∧
  I115_0 O Q a0 n0 c0 x1 x2 x3 g4 fi4 ca4 (wrapF .i64 (x190' + 1)) x2s (wrapF .i64 (x3s - 1)) g4s fi4s ca4s (!(ltI (wrapF .i64 (x190' - x1s)) (wrapF .i64 (Int.tdiv (wrapF .i64 (x2s - x1s)) 8)))) q191' h193')
  (∃ h194', EvC Tryd.prog O 115 [(.slice a0 n0 c0), (.int .i64 (wrapF .i64 (x190' + 1))), (.int .i64 x2s), (.int .i64 (wrapF .i64 (x3s - 1))), (.func (.func g4s) fi4s ca4s)] h192' undef h194' ∧
  I115_0 O Q a0 n0 c0 x1 x2 x3 g4 fi4 ca4 x1s x190' (wrapF .i64 (x3s - 1)) g4s fi4s ca4s (!(ltI (wrapF .i64 (x2s - x190')) (wrapF .i64 (Int.tdiv (wrapF .i64 (x2s - x1s)) 8)))) q191' h194')))))
  (∃ x195', ∃ q196', ∃ h197', EvC Tryd.prog O 134 [(.slice a0 n0 c0), (.int .i64 x1s), (.int .i64 x2s), (.int .i64 x104'), (.func (.func g4s) fi4s ca4s)] (h177'.rsv 17) (.tuple #[(.int .i64 x195'), (.bool q196')]) h197' ∧
  vcond (ltI (wrapF .i64 (x195' - x1s)) (wrapF .i64 (x2s - x195')))
  (∃ h198', EvC Tryd.prog O 115 [(.slice a0 n0 c0), (.int .i64 x1s), (.int .i64 x195'), (.int .i64 (wrapF .i64 (x3s - 1))), (.func (.func g4s) fi4s ca4s)] h197' undef h198' ∧
  I115_0 O Q a0 n0 c0 x1 x2 x3 g4 fi4 ca4 (wrapF .i64 (x195' + 1)) x2s (wrapF .i64 (x3s - 1)) g4s fi4s ca4s (!(ltI (wrapF .i64 (x195' - x1s)) (wrapF .i64 (Int.tdiv (wrapF .i64 (x2s - x1s)) 8)))) q196' h198')
  (∃ h199', EvC Tryd.prog O 115 [(.slice a0 n0 c0), (.int .i64 (wrapF .i64 (x195' + 1))), (.int .i64 x2s), (.int .i64 (wrapF .i64 (x3s - 1))), (.func (.func g4s) fi4s ca4s)] h197' undef h199' ∧
  I115_0 O Q a0 n0 c0 x1 x2 x3 g4 fi4 ca4 x1s x195' (wrapF .i64 (x3s - 1)) g4s fi4s ca4s (!(ltI (wrapF .i64 (x2s - x195')) (wrapF .i64 (Int.tdiv (wrapF .i64 (x2s - x1s)) 8)))) q196' h199'))))
  (vcond (ltI 0 x1s)
  (isNat (wrapF .i64 (x1s - 1)) fun n200' =>
  isAddr a0 fun b201' f202' =>
  vreq (Nat.blt n200' n0)
  (∃ x203', readAt (h106'.rsv 17) b201' (f202' + (n200' * 1)) 1 = some [(.int .i64 x203')] ∧
  isNat x104' fun n204' =>
  isAddr a0 fun b205' f206' =>
  vreq (Nat.blt n204' n0)
  (∃ x207', readAt (h106'.rsv 17) b205' (f206' + (n204' * 1)) 1 = some [(.int .i64 x207')] ∧
  ∃ x208', ∃ h209', EvC Tryd.prog O g4s (fi4s.toList ++ [(.int .i64 x203'), (.int .i64 x207')] ++ ca4s.toList) ((h106'.rsv 17).grd []) (.int .i64 x208') h209' ∧
  vcond (!(ltI x208' 0))
  (∃ x210', ∃ h211', EvC Tryd.prog O 133 [(.slice a0 n0 c0), (.int .i64 x1s), (.int .i64 x2s), (.int .i64 x104'), (.func (.func g4s) fi4s ca4s)] (h209'.rst (h106'.rsv 17)) (.int .i64 x210') h211' ∧
  I115_0 O Q a0 n0 c0 x1 x2 x3 g4 fi4 ca4 x210' x2s (wrapF .i64 (x3s - 1)) g4s fi4s ca4s q10 q11 h211')
  (∃ x212', ∃ q213', ∃ h214', EvC Tryd.prog O 134 [(.slice a0 n0 c0), (.int .i64 x1s), (.int .i64 x2s), (.int .i64 x104'), (.func (.func g4s) fi4s ca4s)] (h209'.rst (h106'.rsv 17)) (.tuple #[(.int .i64 x212'), (.bool q213')]) h214' ∧
  vcond (ltI (wrapF .i64 (x212' - x1s)) (wrapF .i64 (x2s - x212')))
  (∃ h215', EvC Tryd.prog O 115 [(.slice a0 n0 c0), (.int .i64 x1s), (.int .i64 x212'), (.int .i64 (wrapF .i64 (x3s - 1))), (.func (.func g4s) fi4s ca4s)] h214' undef h215' ∧
  I115_0 O Q a0 n0 c0 x1 x2 x3 g4 fi4 ca4 (wrapF .i64 (x212' + 1)) x2s (wrapF .i64 (x3s - 1)) g4s fi4s ca4s (!(ltI (wrapF .i64 (x212' - x1s)) (wrapF .i64 (Int.tdiv (wrapF .i64 (x2s - x1s)) 8)))) q213' h215')
  (∃ h216', EvC Tryd.prog O 115 [(.slice a0 n0 c0), (.int .i64 (wrapF .i64 (x212' + 1))), (.int .i64 x2s), (.int .i64 (wrapF .i64 (x3s - 1))), (.func (.func g4s) fi4s ca4s)] h214' undef h216' ∧
  I115_0 O Q a0 n0 c0 x1 x2 x3 g4 fi4 ca4 x1s x212' (wrapF .i64 (x3s - 1)) g4s fi4s ca4s (!(ltI (wrapF .i64 (x2s - x212')) (wrapF .i64 (Int.tdiv (wrapF .i64 (x2s - x1s)) 8)))) q213' h216')))))
  (∃ x217', ∃ q218', ∃ h219', EvC Tryd.prog O 134 [(.slice a0 n0 c0), (.int .i64 x1s), (.int .i64 x2s), (.int .i64 x104'), (.func (.func g4s) fi4s ca4s)] (h106'.rsv 17) (.tuple #[(.int .i64 x217'), (.bool q218')]) h219' ∧
  vcond (ltI (wrapF .i64 (x217' - x1s)) (wrapF .i64 (x2s - x217')))
  (∃ h220', EvC Tryd.prog O 115 [(.slice a0 n0 c0), (.int .i64 x1s), (.int .i64 x217'), (.int .i64 (wrapF .i64 (x3s - 1))), (.func (.func g4s) fi4s ca4s)] h219' undef h220' ∧
  I115_0 O Q a0 n0 c0 x1 x2 x3 g4 fi4 ca4 (wrapF .i64 (x217' + 1)) x2s (wrapF .i64 (x3s - 1)) g4s fi4s ca4s (!(ltI (wrapF .i64 (x217' - x1s)) (wrapF .i64 (Int.tdiv (wrapF .i64 (x2s - x1s)) 8)))) q218' h220')
  (∃ h221', EvC Tryd.prog O 115 [(.slice a0 n0 c0), (.int .i64 (wrapF .i64 (x217' + 1))), (.int .i64 x2s), (.int .i64 (wrapF .i64 (x3s - 1))), (.func (.func g4s) fi4s ca4s)] h219' undef h221' ∧
  I115_0 O Q a0 n0 c0 x1 x2 x3 g4 fi4 ca4 x1s x217' (wrapF .i64 (x3s - 1)) g4s fi4s ca4s (!(ltI (wrapF .i64 (x2s - x217')) (wrapF .i64 (Int.tdiv (wrapF .i64 (x2s - x1s)) 8)))) q218' h221'))))
  (vcond (ltI 0 x1s)
  (isNat (wrapF .i64 (x1s - 1)) fun n222' =>
  isAddr a0 fun b223' f224' =>
  vreq (Nat.blt n222' n0)
  (∃ x225', readAt (h106'.rsv 17) b223' (f224' + (n222' * 1)) 1 = some [(.int .i64 x225')] ∧
  isNat x104' fun n226' =>
  isAddr a0 fun b227' f228' =>
  vreq (Nat.blt n226' n0)
  (∃ x229', readAt (h106'.rsv 17) b227' (f228' + (n226' * 1)) 1 = some [(.int .i64 x229')] ∧
  ∃ x230', ∃ h231', EvC Tryd.prog O g4s (fi4s.toList ++ [(.int .i64 x225'), (.int .i64 x229')] ++ ca4s.toList) ((h106'.rsv 17).grd []) (.int .i64 x230') h231' ∧
  vcond (!(ltI x230' 0))
  (∃ x232', ∃ h233', EvC Tryd.prog O 133 [(.slice a0 n0 c0), (.int .i64 x1s), (.int .i64 x2s), (.int .i64 x104'), (.func (.func g4s) fi4s ca4s)] (h231'.rst (h106'.rsv 17)) (.int .i64 x232') h233' ∧
  I115_0 O Q a0 n0 c0 x1 x2 x3 g4 fi4 ca4 x232' x2s (wrapF .i64 (x3s - 1)) g4s fi4s ca4s q10 q11 h233')
  (∃ x234', ∃ q235', ∃ h236', EvC Tryd.prog O 134 [(.slice a0 n0 c0), (.int .i64 x1s), (.int .i64 x2s), (.int .i64 x104'), (.func (.func g4s) fi4s ca4s)] (h231'.rst (h106'.rsv 17)) (.tuple #[(.int .i64 x234'), (.bool q235')]) h236' ∧
  vcond (ltI (wrapF .i64 (x234' - x1s)) (wrapF .i64 (x2s - x234')))
  (∃ h237', EvC Tryd.prog O 115 [(.slice a0 n0 c0), (.int .i64 x1s), (.int .i64 x234'), (.int .i64 (wrapF .i64 (x3s - 1))), (.func (.func g4s) fi4s ca4s)] h236' undef h237' ∧
  I115_0 O Q a0 n0 c0 x1 x2 x3 g4 fi4 ca4 (wrapF .i64 (x234' + 1)) x2s (wrapF .i64 (x3s - 1)) g4s fi4s ca4s (!(ltI (wrapF .i64 (x234' - x1s)) (wrapF .i64 (Int.tdiv (wrapF .i64 (x2s - x1s)) 8)))) q235' h237')
  (∃ h238', EvC Tryd.prog O 115 [(.slice a0 n0 c0), (.int .i64 (wrapF .i64 (x234' + 1))), (.int .i64 x2s), (.int .i64 (wrapF .i64 (x3s - 1))), (.func (.func g4s) fi4s ca4s)] h236' undef h238' ∧
  I115_0 O Q a0 n0 c0 x1 x2 x3 g4 fi4 ca4 x1s x234' (wrapF .i64 (x3s - 1)) g4s fi4s ca4s (!(ltI (wrapF .i64 (x2s - x234')) (wrapF .i64 (Int.tdiv (wrapF .i64 (x2s - x1s)) 8)))) q235' h238')))))
  (∃ x239', ∃ q240', ∃ h241', EvC Tryd.prog O 134 [(.slice a0 n0 c0), (.int .i64 x1s), (.int .i64 x2s), (.int .i64 x104'), (.func (.func g4s) fi4s ca4s)] (h106'.rsv 17) (.tuple #[(.int .i64 x239'), (.bool q240')]) h241' ∧
  vcond (ltI (wrapF .i64 (x239' - x1s)) (wrapF .i64 (x2s - x239')))
  (∃ h242', EvC Tryd.prog O 115 [(.slice a0 n0 c0), (.int .i64 x1s), (.int .i64 x239'), (.int .i64 (wrapF .i64 (x3s - 1))), (.func (.func g4s) fi4s ca4s)] h241' undef h242' ∧
  I115_0 O Q a0 n0 c0 x1 x2 x3 g4 fi4 ca4 (wrapF .i64 (x239' + 1)) x2s (wrapF .i64 (x3s - 1)) g4s fi4s ca4s (!(ltI (wrapF .i64 (x239' - x1s)) (wrapF .i64 (Int.tdiv (wrapF .i64 (x2s - x1s)) 8)))) q240' h242')
  (∃ h243', EvC Tryd.prog O 115 [(.slice a0 n0 c0), (.int .i64 (wrapF .i64 (x239' + 1))), (.int .i64 x2s), (.int .i64 (wrapF .i64 (x3s - 1))), (.func (.func g4s) fi4s ca4s)] h241' undef h243' ∧
  I115_0 O Q a0 n0 c0 x1 x2 x3 g4 fi4 ca4 x1s x239' (wrapF .i64 (x3s - 1)) g4s fi4s ca4s (!(ltI (wrapF .i64 (x2s - x239')) (wrapF .i64 (Int.tdiv (wrapF .i64 (x2s - x1s)) 8)))) q240' h243'))))
  (vcond (ltI 0 x1s)
  (isNat (wrapF .i64 (x1s - 1)) fun n244' =>
  isAddr a0 fun b245' f246' =>
  vreq (Nat.blt n244' n0)
  (∃ x247', readAt (h106'.rsv 17) b245' (f246' + (n244' * 1)) 1 = some [(.int .i64 x247')] ∧
  isNat x104' fun n248' =>
  isAddr a0 fun b249' f250' =>
  vreq (Nat.blt n248' n0)
  (∃ x251', readAt (h106'.rsv 17) b249' (f250' + (n248' * 1)) 1 = some [(.int .i64 x251')] ∧
  ∃ x252', ∃ h253', EvC Tryd.prog O g4s (fi4s.toList ++ [(.int .i64 x247'), (.int .i64 x251')] ++ ca4s.toList) ((h106'.rsv 17).grd []) (.int .i64 x252') h253' ∧
  vcond (!(ltI x252' 0))
  (∃ x254', ∃ h255', EvC Tryd.prog O 133 [(.slice a0 n0 c0), (.int .i64 x1s), (.int .i64 x2s), (.int .i64 x104'), (.func (.func g4s) fi4s ca4s)] (h253'.rst (h106'.rsv 17)) (.int .i64 x254') h255' ∧
  I115_0 O Q a0 n0 c0 x1 x2 x3 g4 fi4 ca4 x254' x2s (wrapF .i64 (x3s - 1)) g4s fi4s ca4s q10 q11 h255')
  (∃ x256', ∃ q257', ∃ h258', EvC Tryd.prog O 134 [(.slice a0 n0 c0), (.int .i64 x1s), (.int .i64 x2s), (.int .i64 x104'), (.func (.func g4s) fi4s ca4s)] (h253'.rst (h106'.rsv 17)) (.tuple #[(.int .i64 x256'), (.bool q257')]) h258' ∧
  vcond (ltI (wrapF .i64 (x256' - x1s)) (wrapF .i64 (x2s - x256')))
  (∃ h259', EvC Tryd.prog O 115 [(.slice a0 n0 c0), (.int .i64 x1s), (.int .i64 x256'), (.int .i64 (wrapF .i64 (x3s - 1))), (.func (.func g4s) fi4s ca4s)] h258' undef h259' ∧
  I115_0 O Q a0 n0 c0 x1 x2 x3 g4 fi4 ca4 (wrapF .i64 (x256' + 1)) x2s (wrapF .i64 (x3s - 1)) g4s fi4s ca4s (!(ltI (wrapF .i64 (x256' - x1s)) (wrapF .i64 (Int.tdiv (wrapF .i64 (x2s - x1s)) 8)))) q257' h259')
  (∃ h260', EvC Tryd.prog O 115 [(.slice a0 n0 c0), (.int .i64 (wrapF .i64 (x256' + 1))), (.int .i64 x2s), (.int .i64 (wrapF .i64 (x3s - 1))), (.func (.func g4s) fi4s ca4s)] h258' undef h260' ∧
  I115_0 O Q a0 n0 c0 x1 x2 x3 g4 fi4 ca4 x1s x256' (wrapF .i64 (x3s - 1)) g4s fi4s ca4s (!(ltI (wrapF .i64 (x2s - x256')) (wrapF .i64 (Int.tdiv (wrapF .i64 (x2s - x1s)) 8)))) q257' h260')))))
  (∃ x261', ∃ q262', ∃ h263', EvC Tryd.prog O 134 [(.slice a0 n0 c0), (.int .i64 x1s), (.int .i64 x2s), (.int .i64 x104'), (.func (.func g4s) fi4s ca4s)] (h106'.rsv 17) (.tuple #[(.int .i64 x261'), (.bool q262')]) h263' ∧
  vcond (ltI (wrapF .i64 (x261' - x1s)) (wrapF .i64 (x2s - x261')))
  (∃ h264', EvC Tryd.prog O 115 [(.slice a0 n0 c0), (.int .i64 x1s), (.int .i64 x261'), (.int .i64 (wrapF .i64 (x3s - 1))), (.func (.func g4s) fi4s ca4s)] h263' undef h264' ∧
  I115_0 O Q a0 n0 c0 x1 x2 x3 g4 fi4 ca4 (wrapF .i64 (x261' + 1)) x2s (wrapF .i64 (x3s - 1)) g4s fi4s ca4s (!(ltI (wrapF .i64 (x261' - x1s)) (wrapF .i64 (Int.tdiv (wrapF .i64 (x2s - x1s)) 8)))) q262' h264')
  (∃ h265', EvC Tryd.prog O 115 [(.slice a0 n0 c0), (.int .i64 (wrapF .i64 (x261' + 1))), (.int .i64 x2s), (.int .i64 (wrapF .i64 (x3s - 1))), (.func (.func g4s) fi4s ca4s)] h263' undef h265' ∧
  I115_0 O Q a0 n0 c0 x1 x2 x3 g4 fi4 ca4 x1s x261' (wrapF .i64 (x3s - 1)) g4s fi4s ca4s (!(ltI (wrapF .i64 (x2s - x261')) (wrapF .i64 (Int.tdiv (wrapF .i64 (x2s - x1s)) 8)))) q262' h265')))))
  (∃ x266', ∃ x267', ∃ h268', EvC Tryd.prog O 130 [(.slice a0 n0 c0), (.int .i64 x1s), (.int .i64 x2s), (.func (.func g4s) fi4s ca4s)] h (.tuple #[(.int .i64 x266'), (.int .i64 x267')]) h268' ∧
  vcond (eqI x267' 2)
  (∃ h269', EvC Tryd.prog O 131 [(.slice a0 n0 c0), (.int .i64 x1s), (.int .i64 x2s), (.func (.func g4s) fi4s ca4s)] h268' undef h269' ∧
  vcond q10
  (vcond q11
  (∃ q270', ∃ h271', EvC Tryd.prog O 132 [(.slice a0 n0 c0), (.int .i64 x1s), (.int .i64 x2s), (.func (.func g4s) fi4s ca4s)] h269' (.bool q270') h271' ∧
  vcond q270'
  (Q undef h271')
  (vcond (ltI 0 x1s)
  (isNat (wrapF .i64 (x1s - 1)) fun n272' =>
  isAddr a0 fun b273' f274' =>
  vreq (Nat.blt n272' n0)
  (∃ x275', readAt (h271'.rsv 17) b273' (f274' + (n272' * 1)) 1 = some [(.int .i64 x275')] ∧
  isNat (wrapF .i64 ((wrapF .i64 (x2s - 1)) - (wrapF .i64 (x266' - x1s)))) fun n276' =>
  isAddr a0 fun b277' f278' =>
  vreq (Nat.blt n276' n0)
  (∃ x279', readAt (h271'.rsv 17) b277' (f278' + (n276' * 1)) 1 = some [(.int .i64 x279')] ∧
  ∃ x280', ∃ h281', EvC Tryd.prog O g4s (fi4s.toList ++ [(.int .i64 x275'), (.int .i64 x279')] ++ ca4s.toList) ((h271'.rsv 17).grd []) (.int .i64 x280') h281' ∧
  vcond (!(ltI x280' 0))
  (∃ x282', ∃ h283', EvC Tryd.prog O 133 [(.slice a0 n0 c0), (.int .i64 x1s), (.int .i64 x2s), (.int .i64 (wrapF .i64 ((wrapF .i64 (x2s - 1)) - (wrapF .i64 (x266' - x1s))))), (.func (.func g4s) fi4s ca4s)] (h281'.rst (h271'.rsv 17)) (.int .i64 x282') h283' ∧
  I115_0 O Q a0 n0 c0 x1 x2 x3 g4 fi4 ca4 x282' x2s x3s g4s fi4s ca4s q10 q11 h283')
  (∃ x284', ∃ q285', ∃ h286', EvC Tryd.prog O 134 [(.slice a0 n0 c0), (.int .i64 x1s), (.int .i64 x2s), (.int .i64 (wrapF .i64 ((wrapF .i64 (x2s - 1)) - (wrapF .i64 (x266' - x1s))))), (.func (.func g4s) fi4s ca4s)] (h281'.rst (h271'.rsv 17)) (.tuple #[(.int .i64 x284'), (.bool q285')]) h286' ∧
  vcond (ltI (wrapF .i64 (x284' - x1s)) (wrapF .i64 (x2s - x284')))
  (∃ h287', EvC Tryd.prog O 115 [(.slice a0 n0 c0), (.int .i64 x1s), (.int .i64 x284'), (.int .i64 x3s), (.func (.func g4s) fi4s ca4s)] h286' undef h287' ∧
  I115_0 O Q a0 n0 c0 x1 x2 x3 g4 fi4 ca4 (wrapF .i64 (x284' + 1)) x2s x3s g4s fi4s ca4s (!(ltI (wrapF .i64 (x284' - x1s)) (wrapF .i64 (Int.tdiv (wrapF .i64 (x2s - x1s)) 8)))) q285' h287')
  (∃ h288', EvC Tryd.prog O 115 [(.slice a0 n0 c0), (.int .i64 (wrapF .i64 (x284' + 1))), (.int .i64 x2s), (.int .i64 x3s), (.func (.func g4s) fi4s ca4s)] h286' undef h288' ∧
  I115_0 O Q a0 n0 c0 x1 x2 x3 g4 fi4 ca4 x1s x284' x3s g4s fi4s ca4s (!(ltI (wrapF .i64 (x2s - x284')) (wrapF .i64 (Int.tdiv (wrapF .i64 (x2s - x1s)) 8)))) q285' h288')))))
  (∃ x289', ∃ q290', ∃ h291', EvC Tryd.prog O 134 [(.slice a0 n0 c0), (.int .i64 x1s), (.int .i64 x2s), (.int .i64 (wrapF .i64 ((wrapF .i64 (x2s - 1)) - (wrapF .i64 (x266' - x1s))))), (.func (.func g4s) fi4s ca4s)] (h271'.rsv 17) (.tuple #[(.int .i64 x289'), (.bool q290')]) h291' ∧
  vcond (ltI (wrapF .i64 (x289' - x1s)) (wrapF .i64 (x2s - x289')))
  (∃ h292', EvC Tryd.prog O 115 [(.slice a0 n0 c0), (.int .i64 x1s), (.int .i64 x289'), (.int .i64 x3s), (.func (.func g4s) fi4s ca4s)] h291' undef h292' ∧
  I115_0 O Q a0 n0 c0 x1 x2 x3 g4 fi4 ca4 (wrapF .i64 (x289' + 1)) x2s x3s g4s fi4s ca4s (!(ltI (wrapF .i64 (x289' - x1s)) (wrapF .i64 (Int.tdiv (wrapF .i64 (x2s - x1s)) 8)))) q290' h292')
  (∃ h293', EvC Tryd.prog O 115 [(.slice a0 n0 c0), (.int .i64 (wrapF .i64 (x289' + 1))), (.int .i64 x2s), (.int .i64 x3s), (.func (.func g4s) fi4s ca4s)] h291' undef h293' ∧
  I115_0 O Q a0 n0 c0 x1 x2 x3 g4 fi4 ca4 x1s x289' x3s g4s fi4s ca4s (!(ltI (wrapF .i64 (x2s - x289')) (wrapF .i64 (Int.tdiv (wrapF .i64 (x2s - x1s)) 8)))) q290' h293'))))
  (vcond (ltI 0 x1s)
  (isNat (wrapF .i64 (x1s - 1)) fun n294' =>
  isAddr a0 fun b295' f296' =>
  vreq (Nat.blt n294' n0)
  (∃ x297', readAt (h269'.rsv 17) b295' (f296' + (n294' * 1)) 1 = some [(.int .i64 x297')] ∧
  isNat (wrapF .i64 ((wrapF .i64 (x2s - 1)) - (wrapF .i64 (x266' - x1s)))) fun n298' =>
  isAddr a0 fun b299' f300' =>
  vreq (Nat.blt n298' n0)
  (∃ x301', readAt (h269'.rsv 17) b299' (f300' + (n298' * 1)) 1 = some [(.int .i64 x301')] ∧
  ∃ x302', ∃ h303', EvC Tryd.prog O g4s (fi4s.toList ++ [(.int .i64 x297'), (.int .i64 x301')] ++ ca4s.toList) ((h269'.rsv 17).grd []) (.int .i64 x302') h303' ∧
  vcond (!(ltI x302' 0))
  (∃ x304', ∃ h305', EvC Tryd.prog O 133 [(.slice a0 n0 c0), (.int .i64 x1s), (.int .i64 x2s), (.int .i64 (wrapF .i64 ((wrapF .i64 (x2s - 1)) - (wrapF .i64 (x266' - x1s))))), (.func (.func g4s) fi4s ca4s)] (h303'.rst (h269'.rsv 17)) (.int .i64 x304') h305' ∧
  I115_0 O Q a0 n0 c0 x1 x2 x3 g4 fi4 ca4 x304' x2s x3s g4s fi4s ca4s q10 q11 h305')
  (∃ x306', ∃ q307', ∃ h308', EvC Tryd.prog O 134 [(.slice a0 n0 c0), (.int .i64 x1s), (.int .i64 x2s), (.int .i64 (wrapF .i64 ((wrapF .i64 (x2s - 1)) - (wrapF .i64 (x266' - x1s))))), (.func (.func g4s) fi4s ca4s)] (h303'.rst (h269'.rsv 17)) (.tuple #[(.int .i64 x306'), (.bool q307')]) h308' ∧
  vcond (ltI (wrapF .i64 (x306' - x1s)) (wrapF .i64 (x2s - x306')))
  (∃ h309', EvC Tryd.prog O 115 [(.slice a0 n0 c0), (.int .i64 x1s), (.int .i64 x306'), (.int .i64 x3s), (.func (.func g4s) fi4s ca4s)] h308' undef h309' ∧
  I115_0 O Q a0 n0 c0 x1 x2 x3 g4 fi4 ca4 (wrapF .i64 (x306' + 1)) x2s x3s g4s fi4s ca4s (!(ltI (wrapF .i64 (x306' - x1s)) (wrapF .i64 (Int.tdiv (wrapF .i64 (x2s - x1s)) 8)))) q307' h309')
  (∃ h310', EvC Tryd.prog O 115 [(.slice a0 n0 c0), (.int .i64 (wrapF .i64 (x306' + 1))), (.int .i64 x2s), (.int .i64 x3s), (.func (.func g4s) fi4s ca4s)] h308' undef h310' ∧
  I115_0 O Q a0 n0 c0 x1 x2 x3 g4 fi4 ca4 x1s x306' x3s g4s fi4s ca4s (!(ltI (wrapF .i64 (x2s - x306')) (wrapF .i64 (Int.tdiv (wrapF .i64 (x2s - x1s)) 8)))) q307' h310')))))
  (∃ x311', ∃ q312', ∃ h313', EvC Tryd.prog O 134 [(.slice a0 n0 c0), (.int .i64 x1s), (.int .i64 x2s), (.int .i64 (wrapF .i64 ((wrapF .i64 (x2s - 1)) - (wrapF .i64 (x266' - x1s))))), (.func (.func g4s) fi4s ca4s)] (h269'.rsv 17) (.tuple #[(.int .i64 x311'), (.bool q312')]) h313' ∧
  vcond (ltI (wrapF .i64 (x311' - x1s)) (wrapF .i64 (x2s - x311')))
  (∃ h314', EvC Tryd.prog O 115 [(.slice a0 n0 c0), (.int .i64 x1s), (.int .i64 x311'), (.int .i64 x3s), (.func (.func g4s) fi4s ca4s)] h313' undef h314' ∧
  I115_0 O Q a0 n0 c0 x1 x2 x3 g4 fi4 ca4 (wrapF .i64 (x311' + 1)) x2s x3s g4s fi4s ca4s (!(ltI (wrapF .i64 (x311' - x1s)) (wrapF .i64 (Int.tdiv (wrapF .i64 (x2s - x1s)) 8)))) q312' h314')
  (∃ h315', EvC Tryd.prog O 115 [(.slice a0 n0 c0), (.int .i64 (wrapF .i64 (x311' + 1))), (.int .i64 x2s), (.int .i64 x3s), (.func (.func g4s) fi4s ca4s)] h313' undef h315' ∧
  I115_0 O Q a0 n0 c0 x1 x2 x3 g4 fi4 ca4 x1s x311' x3s g4s fi4s ca4s (!(ltI (wrapF .i64 (x2s - x311')) (wrapF .i64 (Int.tdiv (wrapF .i64 (x2s - x1s)) 8)))) q312' h315'))))
  (vcond (ltI 0 x1s)
  (isNat (wrapF .i64 (x1s - 1)) fun n316' =>
  isAddr a0 fun b317' f318' =>
  vreq (Nat.blt n316' n0)
  (∃ x319', readAt (h269'.rsv 17) b317' (f318' + (n316' * 1)) 1 = some [(.int .i64 x319')] ∧
  isNat (wrapF .i64 ((wrapF .i64 (x2s - 1)) - (wrapF .i64 (x266' - x1s)))) fun n320' =>
  isAddr a0 fun b321' f322' =>
  vreq (Nat.blt n320' n0)
  (∃ x323', readAt (h269'.rsv 17) b321' (f322' + (n320' * 1)) 1 = some [(.int .i64 x323')] ∧
  ∃ x324', ∃ h325', EvC Tryd.prog O g4s (fi4s.toList ++ [(.int .i64 x319'), (.int .i64 x323')] ++ ca4s.toList) ((h269'.rsv 17).grd []) (.int .i64 x324') h325' ∧
  vcond (!(ltI x324' 0))
  (∃ x326', ∃ h327', EvC Tryd.prog O 133 [(.slice a0 n0 c0), (.int .i64 x1s), (.int .i64 x2s), (.int .i64 (wrapF .i64 ((wrapF .i64 (x2s - 1)) - (wrapF .i64 (x266' - x1s))))), (.func (.func g4s) fi4s ca4s)] (h325'.rst (h269'.rsv 17)) (.int .i64 x326') h327' ∧
  I115_0 O Q a0 n0 c0 x1 x2 x3 g4 fi4 ca4 x326' x2s x3s g4s fi4s ca4s q10 q11 h327')
  (∃ x328', ∃ q329', ∃ h330', EvC Tryd.prog O 134 [(.slice a0 n0 c0), (.int .i64 x1s), (.int .i64 x2s), (.int .i64 (wrapF .i64 ((wrapF .i64 (x2s - 1)) - (wrapF .i64 (x266' - x1s))))), (.func (.func g4s) fi4s ca4s)] (h325'.rst (h269'.rsv 17)) (.tuple #[(.int .i64 x328'), (.bool q329')]) h330' ∧
  vcond (ltI (wrapF .i64 (x328' - x1s)) (wrapF .i64 (x2s - x328')))
  (∃ h331', EvC Tryd.prog O 115 [(.slice a0 n0 c0), (.int .i64 x1s), (.int .i64 x328'), (.int .i64 x3s), (.func (.func g4s) fi4s ca4s)] h330' undef h331' ∧
  I115_0 O Q a0 n0 c0 x1 x2 x3 g4 fi4 ca4 (wrapF .i64 (x328' + 1)) x2s x3s g4s fi4s ca4s (!(ltI (wrapF .i64 (x328' - x1s)) (wrapF .i64 (Int.tdiv (wrapF .i64 (x2s - x1s)) 8)))) q329' h331')
  (∃ h332', EvC Tryd.prog O 115 [(.slice a0 n0 c0), (.int .i64 (wrapF .i64 (x328' + 1))), (.int .i64 x2s), (.int .i64 x3s), (.func (.func g4s) fi4s ca4s)] h330' undef h332' ∧
  I115_0 O Q a0 n0 c0 x1 x2 x3 g4 fi4 ca4 x1s x328' x3s g4s fi4s ca4s (!(ltI (wrapF .i64 (x2s - x328')) (wrapF .i64 (Int.tdiv (wrapF .i64 (x2s - x1s)) 8)))) q329' h332')))))
  (∃ x333', ∃ q334', ∃ h335', EvC Tryd.prog O 134 [(.slice a0 n0 c0), (.int .i64 x1s), (.int .i64 x2s), (.int .i64 (wrapF .i64 ((wrapF .i64 (x2s - 1)) - (wrapF .i64 (x266' - x1s))))), (.func (.func g4s) fi4s ca4s)] (h269'.rsv 17) (.tuple #[(.int .i64 x333'), (.bool q334')]) h335' ∧
  vcond (ltI (wrapF .i64 (x333' - x1s)) (wrapF .i64 (x2s - x333')))
  (∃ h336', EvC Tryd.prog O 115 [(.slice a0 n0 c0), (.int .i64 x1s), (.int .i64 x333'), (.int .i64 x3s), (.func (.func g4s) fi4s ca4s)] h335' undef h336' ∧
  I115_0 O Q a0 n0 c0 x1 x2 x3 g4 fi4 ca4 (wrapF .i64 (x333' + 1)) x2s x3s g4s fi4s ca4s (!(ltI (wrapF .i64 (x333' - x1s)) (wrapF .i64 (Int.tdiv (wrapF .i64 (x2s - x1s)) 8)))) q334' h336')
  (∃ h337', EvC Tryd.prog O 115 [(.slice a0 n0 c0), (.int .i64 (wrapF .i64 (x333' + 1))), (.int .i64 x2s), (.int .i64 x3s), (.func (.func g4s) fi4s ca4s)] h335' undef h337' ∧
  I115_0 O Q a0 n0 c0 x1 x2 x3 g4 fi4 ca4 x1s x333' x3s g4s fi4s ca4s (!(ltI (wrapF .i64 (x2s - x333')) (wrapF .i64 (Int.tdiv (wrapF .i64 (x2s - x1s)) 8)))) q334' h337'))))
  (vcond q10
  (vcond q11
  (vcond (eqI x267' 1)
  (∃ q338', ∃ h339', EvC Tryd.prog O 132 [(.slice a0 n0 c0), (.int .i64 x1s), (.int .i64 x2s), (.func (.func g4s) fi4s ca4s)] h268' (.bool q338') h339' ∧
  vcond q338'
  (Q undef h339')
  (vcond (ltI 0 x1s)
  (isNat (wrapF .i64 (x1s - 1)) fun n340' =>
  isAddr a0 fun b341' f342' =>
  vreq (Nat.blt n340' n0)
  (∃ x343', readAt (h339'.rsv 17) b341' (f342' + (n340' * 1)) 1 = some [(.int .i64 x343')] ∧
  isNat x266' fun n344' =>
  isAddr a0 fun b345' f346' =>
  vreq (Nat.blt n344' n0)
  (∃ x347', readAt (h339'.rsv 17) b345' (f346' + (n344' * 1)) 1 = some [(.int .i64 x347')] ∧
  ∃ x348', ∃ h349', EvC Tryd.prog O g4s (fi4s.toList ++ [(.int .i64 x343'), (.int .i64 x347')] ++ ca4s.toList) ((h339'.rsv 17).grd []) (.int .i64 x348') h349' ∧
  vcond (!(ltI x348' 0))
  (∃ x350', ∃ h351', EvC Tryd.prog O 133 [(.slice a0 n0 c0), (.int .i64 x1s), (.int .i64 x2s), (.int .i64 x266'), (.func (.func g4s) fi4s ca4s)] (h349'.rst (h339'.rsv 17)) (.int .i64 x350') h351' ∧
  I115_0 O Q a0 n0 c0 x1 x2 x3 g4 fi4 ca4 x350' x2s x3s g4s fi4s ca4s q10 q11 h351')
  (∃ x352', ∃ q353', ∃ h354', EvC Tryd.prog O 134 [(.slice a0 n0 c0), (.int .i64 x1s), (.int .i64 x2s), (.int .i64 x266'), (.func (.func g4s) fi4s ca4s)] (h349'.rst (h339'.rsv 17)) (.tuple #[(.int .i64 x352'), (.bool q353')]) h354' ∧
  vcond (ltI (wrapF .i64 (x352' - x1s)) (wrapF .i64 (x2s - x352')))
  (∃ h355', EvC Tryd.prog O 115 [(.slice a0 n0 c0), (.int .i64 x1s), (.int .i64 x352'), (.int .i64 x3s), (.func (.func g4s) fi4s ca4s)] h354' undef h355' ∧
  I115_0 O Q a0 n0 c0 x1 x2 x3 g4 fi4 ca4 (wrapF .i64 (x352' + 1)) x2s x3s g4s fi4s ca4s (!(ltI (wrapF .i64 (x352' - x1s)) (wrapF .i64 (Int.tdiv (wrapF .i64 (x2s - x1s)) 8)))) q353' h355')
  (∃ h356', EvC Tryd.prog O 115 [(.slice a0 n0 c0), (.int .i64 (wrapF .i64 (x352' + 1))), (.int .i64 x2s), (.int .i64 x3s), (.func (.func g4s) fi4s ca4s)] h354' undef h356' ∧
  I115_0 O Q a0 n0 c0 x1 x2 x3 g4 fi4 ca4 x1s x352' x3s g4s fi4s ca4s (!(ltI (wrapF .i64 (x2s - x352')) (wrapF .i64 (Int.tdiv (wrapF .i64 (x2s - x1s)) 8)))) q353' h356')))))
  (∃ x357', ∃ q358', ∃ h359', EvC Tryd.prog O 134 [(.slice a0 n0 c0), (.int .i64 x1s), (.int .i64 x2s), (.int .i64 x266'), (.func (.func g4s) fi4s ca4s)] (h339'.rsv 17) (.tuple #[(.int .i64 x357'), (.bool q358')]) h359' ∧
  vcond (ltI (wrapF .i64 (x357' - x1s)) (wrapF .i64 (x2s - x357')))
  (∃ h360', EvC Tryd.prog O 115 [(.slice a0 n0 c0), (.int .i64 x1s), (.int .i64 x357'), (.int .i64 x3s), (.func (.func g4s) fi4s ca4s)] h359' undef h360' ∧
  I115_0 O Q a0 n0 c0 x1 x2 x3 g4 fi4 ca4 (wrapF .i64 (x357' + 1)) x2s x3s g4s fi4s ca4s (!(ltI (wrapF .i64 (x357' - x1s)) (wrapF .i64 (Int.tdiv (wrapF .i64 (x2s - x1s)) 8)))) q358' h360')
  (∃ h361', EvC Tryd.prog O 115 [(.slice a0 n0 c0), (.int .i64 (wrapF .i64 (x357' + 1))), (.int .i64 x2s), (.int .i64 x3s), (.func (.func g4s) fi4s ca4s)] h359' undef h361' ∧
  I115_0 O Q a0 n0 c0 x1 x2 x3 g4 fi4 ca4 x1s x357' x3s g4s fi4s ca4s (!(ltI (wrapF .i64 (x2s - x357')) (wrapF .i64 (Int.tdiv (wrapF .i64 (x2s - x1s)) 8)))) q358' h361'))))
  (vcond (ltI 0 x1s)
  (isNat (wrapF .i64 (x1s - 1)) fun n362' =>
  isAddr a0 fun b363' f364' =>
  vreq (Nat.blt n362' n0)
  (∃ x365', readAt (h268'.rsv 17) b363' (f364' + (n362' * 1)) 1 = some [(.int .i64 x365')] ∧
  isNat x266' fun n366' =>
  isAddr a0 fun b367' f368' =>
  vreq (Nat.blt n366' n0)
  (∃ x369', readAt (h268'.rsv 17) b367' (f368' + (n366' * 1)) 1 = some [(.int .i64 x369')] ∧
  ∃ x370', ∃ h371', EvC Tryd.prog O g4s (fi4s.toList ++ [(.int .i64 x365'), (.int .i64 x369')] ++ ca4s.toList) ((h268'.rsv 17).grd []) (.int .i64 x370') h371' ∧
  vcond (!(ltI x370' 0))
  (∃ x372', ∃ h373', EvC Tryd.prog O 133 [(.slice a0 n0 c0), (.int .i64 x1s), (.int .i64 x2s), (.int .i64 x266'), (.func (.func g4s) fi4s ca4s)] (h371'.rst (h268'.rsv 17)) (.int .i64 x372') h373' ∧
  I115_0 O Q a0 n0 c0 x1 x2 x3 g4 fi4 ca4 x372' x2s x3s g4s fi4s ca4s q10 q11 h373')
  (∃ x374', ∃ q375', ∃ h376', EvC Tryd.prog O 134 [(.slice a0 n0 c0), (.int .i64 x1s), (.int .i64 x2s), (.int .i64 x266'), (.func (.func g4s) fi4s ca4s)] (h371'.rst (h268'.rsv 17)) (.tuple #[(.int .i64 x374'), (.bool q375')]) h376' ∧
  vcond (ltI (wrapF .i64 (x374' - x1s)) (wrapF .i64 (x2s - x374')))
  (∃ h377', EvC Tryd.prog O 115 [(.slice a0 n0 c0), (.int .i64 x1s), (.int .i64 x374'), (.int .i64 x3s), (.func (.func g4s) fi4s ca4s)] h376' undef h377' ∧
  I115_0 O Q a0 n0 c0 x1 x2 x3 g4 fi4 ca4 (wrapF .i64 (x374' + 1)) x2s x3s g4s fi4s ca4s (!(ltI (wrapF .i64 (x374' - x1s)) (wrapF .i64 (Int.tdiv (wrapF .i64 (x2s - x1s)) 8)))) q375' h377')
  (∃ h378', EvC Tryd.prog O 115 [(.slice a0 n0 c0), (.int .i64 (wrapF .i64 (x374' + 1))), (.int .i64 x2s), (.int .i64 x3s), (.func (.func g4s) fi4s ca4s)] h376' undef h378' ∧
  I115_0 O Q a0 n0 c0 x1 x2 x3 g4 fi4 ca4 x1s x374' x3s g4s fi4s ca4s (!(ltI (wrapF .i64 (x2s - x374')) (wrapF .i64 (Int.tdiv (wrapF .i64 (x2s - x1s)) 8)))) q375' h378')))))
  (∃ x379', ∃ q380', ∃ h381', EvC Tryd.prog O 134 [(.slice a0 n0 c0), (.int .i64 x1s), (.int .i64 x2s), (.int .i64 x266'), (.func (.func g4s) fi4s ca4s)] (h268'.rsv 17) (.tuple #[(.int .i64 x379'), (.bool q380')]) h381' ∧
  vcond (ltI (wrapF .i64 (x379' - x1s)) (wrapF .i64 (x2s - x379')))
  (∃ h382', EvC Tryd.prog O 115 [(.slice a0 n0 c0), (.int .i64 x1s), (.int .i64 x379'), (.int .i64 x3s), (.func (.func g4s) fi4s ca4s)] h381' undef h382' ∧
  I115_0 O Q a0 n0 c0 x1 x2 x3 g4 fi4 ca4 (wrapF .i64 (x379' + 1)) x2s x3s g4s fi4s ca4s (!(ltI (wrapF .i64 (x379' - x1s)) (wrapF .i64 (Int.tdiv (wrapF .i64 (x2s - x1s)) 8)))) q380' h382')
  (∃ h383', EvC Tryd.prog O 115 [(.slice a0 n0 c0), (.int .i64 (wrapF .i64 (x379' + 1))), (.int .i64 x2s), (.int .i64 x3s), (.func (.func g4s) fi4s ca4s)] h381' undef h383' ∧
  I115_0 O Q a0 n0 c0 x1 x2 x3 g4 fi4 ca4 x1s x379' x3s g4s fi4s ca4s (!(ltI (wrapF .i64 (x2s - x379')) (wrapF .i64 (Int.tdiv (wrapF .i64 (x2s - x1s)) 8)))) q380' h383'))))
  (vcond (ltI 0 x1s)
  (isNat (wrapF .i64 (x1s - 1)) fun n384' =>
  isAddr a0 fun b385' f386' =>
  vreq (Nat.blt n384' n0)
  (∃ x387', readAt (h268'.rsv 17) b385' (f386' + (n384' * 1)) 1 = some [(.int .i64 x387')] ∧
  isNat x266' fun n388' =>
  isAddr a0 fun b389' f390' =>
  vreq (Nat.blt n388' n0)
  (∃ x391', readAt (h268'.rsv 17) b389' (f390' + (n388' * 1)) 1 = some [(.int .i64 x391')] ∧
  ∃ x392', ∃ h393', EvC Tryd.prog O g4s (fi4s.toList ++ [(.int .i64 x387'), (.int .i64 x391')] ++ ca4s.toList) ((h268'.rsv 17).grd []) (.int .i64 x392') h393' ∧
  vcond (!(ltI x392' 0))
  (∃ x394', ∃ h395', EvC Tryd.prog O 133 [(.slice a0 n0 c0), (.int .i64 x1s), (.int .i64 x2s), (.int .i64 x266'), (.func (.func g4s) fi4s ca4s)] (h393'.rst (h268'.rsv 17)) (.int .i64 x394') h395' ∧
  I115_0 O Q a0 n0 c0 x1 x2 x3 g4 fi4 ca4 x394' x2s x3s g4s fi4s ca4s q10 q11 h395')
  (∃ x396', ∃ q397', ∃ h398', EvC Tryd.prog O 134 [(.slice a0 n0 c0), (.int .i64 x1s), (.int .i64 x2s), (.int .i64 x266'), (.func (.func g4s) fi4s ca4s)] (h393'.rst (h268'.rsv 17)) (.tuple #[(.int .i64 x396'), (.bool q397')]) h398' ∧
  vcond (ltI (wrapF .i64 (x396' - x1s)) (wrapF .i64 (x2s - x396')))
  (∃ h399', EvC Tryd.prog O 115 [(.slice a0 n0 c0), (.int .i64 x1s), (.int .i64 x396'), (.int .i64 x3s), (.func (.func g4s) fi4s ca4s)] h398' undef h399' ∧
  I115_0 O Q a0 n0 c0 x1 x2 x3 g4 fi4 ca4 (wrapF .i64 (x396' + 1)) x2s x3s g4s fi4s ca4s (!(ltI (wrapF .i64 (x396' - x1s)) (wrapF .i64 (Int.tdiv (wrapF .i64 (x2s - x1s)) 8)))) q397' h399')
  (∃ h400', EvC Tryd.prog O 115 [(.slice a0 n0 c0), (.int .i64 (wrapF .i64 (x396' + 1))), (.int .i64 x2s), (.int .i64 x3s), (.func (.func g4s) fi4s ca4s)] h398' undef h400' ∧
  I115_0 O Q a0 n0 c0 x1 x2 x3 g4 fi4 ca4 x1s x396' x3s g4s fi4s ca4s (!(ltI (wrapF .i64 (x2s - x396')) (wrapF .i64 (Int.tdiv (wrapF .i64 (x2s - x1s)) 8)))) q397' h400')))))
  (∃ x401', ∃ q402', ∃ h403', EvC Tryd.prog O 134 [(.slice a0 n0 c0), (.int .i64 x1s), (.int .i64 x2s), (.int .i64 x266'), (.func (.func g4s) fi4s ca4s)] (h268'.rsv 17) (.tuple #[(.int .i64 x401'), (.bool q402')]) h403' ∧
  vcond (ltI (wrapF .i64 (x401' - x1s)) (wrapF .i64 (x2s - x401')))
  (∃ h404', EvC Tryd.prog O 115 [(.slice a0 n0 c0), (.int .i64 x1s), (.int .i64 x401'), (.int .i64 x3s), (.func (.func g4s) fi4s ca4s)] h403' undef h404' ∧
  I115_0 O Q a0 n0 c0 x1 x2 x3 g4 fi4 ca4 (wrapF .i64 (x401' + 1)) x2s x3s g4s fi4s ca4s (!(ltI (wrapF .i64 (x401' - x1s)) (wrapF .i64 (Int.tdiv (wrapF .i64 (x2s - x1s)) 8)))) q402' h404')
  (∃ h405', EvC Tryd.prog O 115 [(.slice a0 n0 c0), (.int .i64 (wrapF .i64 (x401' + 1))), (.int .i64 x2s), (.int .i64 x3s), (.func (.func g4s) fi4s ca4s)] h403' undef h405' ∧
  I115_0 O Q a0 n0 c0 x1 x2 x3 g4 fi4 ca4 x1s x401' x3s g4s fi4s ca4s (!(ltI (wrapF .i64 (x2s - x401')) (wrapF .i64 (Int.tdiv (wrapF .i64 (x2s - x1s)) 8)))) q402' h405'))))
  (vcond (ltI 0 x1s)
  (isNat (wrapF .i64 (x1s - 1)) fun n406' =>
  isAddr a0 fun b407' f408' =>
  vreq (Nat.blt n406' n0)
  (∃ x409', readAt (h268'.rsv 17) b407' (f408' + (n406' * 1)) 1 = some [(.int .i64 x409')] ∧
  isNat x266' fun n410' =>
  isAddr a0 fun b411' f412' =>
  vreq (Nat.blt n410' n0)
  (∃ x413', readAt (h268'.rsv 17) b411' (f412' + (n410' * 1)) 1 = some [(.int .i64 x413')] ∧
  ∃ x414', ∃ h415', EvC Tryd.prog O g4s (fi4s.toList ++ [(.int .i64 x409'), (.int .i64 x413')] ++ ca4s.toList) ((h268'.rsv 17).grd []) (.int .i64 x414') h415' ∧
  vcond (!(ltI x414' 0))
  (∃ x416', ∃ h417', EvC Tryd.prog O 133 [(.slice a0 n0 c0), (.int .i64 x1s), (.int .i64 x2s), (.int .i64 x266'), (.func (.func g4s) fi4s ca4s)] (h415'.rst (h268'.rsv 17)) (.int .i64 x416') h417' ∧
  I115_0 O Q a0 n0 c0 x1 x2 x3 g4 fi4 ca4 x416' x2s x3s g4s fi4s ca4s q10 q11 h417')
  (∃ x418', ∃ q419', ∃ h420', EvC Tryd.prog O 134 [(.slice a0 n0 c0), (.int .i64 x1s), (.int .i64 x2s), (.int .i64 x266'), (.func (.func g4s) fi4s ca4s)] (h415'.rst (h268'.rsv 17)) (.tuple #[(.int .i64 x418'), (.bool q419')]) h420' ∧
  vcond (ltI (wrapF .i64 (x418' - x1s)) (wrapF .i64 (x2s - x418')))
  (∃ h421', EvC Tryd.prog O 115 [(.slice a0 n0 c0), (.int .i64 x1s), (.int .i64 x418'), (.int .i64 x3s), (.func (.func g4s) fi4s ca4s)] h420' undef h421' ∧
  I115_0 O Q a0 n0 c0 x1 x2 x3 g4 fi4 ca4 (wrapF .i64 (x418' + 1)) x2s x3s g4s fi4s ca4s (!(ltI (wrapF .i64 (x418' - x1s)) (wrapF .i64 (Int.tdiv (wrapF .i64 (x2s - x1s)) 8)))) q419' h421')
  (∃ h422', EvC Tryd.prog O 115 [(.slice a0 n0 c0), (.int .i64 (wrapF .i64 (x418' + 1))), (.int .i64 x2s), (.int .i64 x3s), (.func (.func g4s) fi4s ca4s)] h420' undef h422' ∧
  I115_0 O Q a0 n0 c0 x1 x2 x3 g4 fi4 ca4 x1s x418' x3s g4s fi4s ca4s (!(ltI (wrapF .i64 (x2s - x418')) (wrapF .i64 (Int.tdiv (wrapF .i64 (x2s - x1s)) 8)))) q419' h422')))))
  (∃ x423', ∃ q424', ∃ h425', EvC Tryd.prog O 134 [(.slice a0 n0 c0), (.int .i64 x1s), (.int .i64 x2s), (.int .i64 x266'), (.func (.func g4s) fi4s ca4s)] (h268'.rsv 17) (.tuple #[(.int .i64 x423'), (.bool q424')]) h425' ∧
  vcond (ltI (wrapF .i64 (x423' - x1s)) (wrapF .i64 (x2s - x423')))
  (∃ h426', EvC Tryd.prog O 115 [(.slice a0 n0 c0), (.int .i64 x1s), (.int .i64 x423'), (.int .i64 x3s), (.func (.func g4s) fi4s ca4s)] h425' undef h426' ∧
  I115_0 O Q a0 n0 c0 x1 x2 x3 g4 fi4 ca4 (wrapF .i64 (x423' + 1)) x2s x3s g4s fi4s ca4s (!(ltI (wrapF .i64 (x423' - x1s)) (wrapF .i64 (Int.tdiv (wrapF .i64 (x2s - x1s)) 8)))) q424' h426')
  (∃ h427', EvC Tryd.prog O 115 [(.slice a0 n0 c0), (.int .i64 (wrapF .i64 (x423' + 1))), (.int .i64 x2s), (.int .i64 x3s), (.func (.func g4s) fi4s ca4s)] h425' undef h427' ∧
  I115_0 O Q a0 n0 c0 x1 x2 x3 g4 fi4 ca4 x1s x423' x3s g4s fi4s ca4s (!(ltI (wrapF .i64 (x2s - x423')) (wrapF .i64 (Int.tdiv (wrapF .i64 (x2s - x1s)) 8)))) q424' h427')))))))
theorem I115_0.of {O Q} (a0 n0 c0 x1 x2 x3 g4 fi4 ca4 x1s x2s x3s g4s fi4s ca4s q10 q11) {h : Hp} (hh : T115_0 O Q a0 n0 c0 x1 x2 x3 g4 fi4 ca4 x1s x2s x3s g4s fi4s ca4s q10 q11 h) : I115_0 O Q a0 n0 c0 x1 x2 x3 g4 fi4 ca4 x1s x2s x3s g4s fi4s ca4s q10 q11 h :=
  RKL.of (tb := lv115) (cuts := []) 500 fun _ => Eq.mp (by kernel_rfl) hh
/-! slices.insertionSortCmpFunc[int] -/
noncomputable def b127 : Code := (Tryd.f127.body).getD .skip
noncomputable def stk127_0 : List KI := [.code (sub [1, 0] b127), .blk 0]
noncomputable def stk127_1 : List KI := [.code (sub [1, 0, 0, 1, 0, 0, 1, 0] b127), .blk 2, .blk 1, .code (sub [1, 0, 0, 1, 1] b127), .code (sub [1, 0] b127), .blk 0]
def lv127 : List (Nat × List Nat) := [(0, [0, 1, 2, 3, 8]), (2, [0, 1, 2, 3, 8, 9])]
def I127_0 (O : CallF) (Q : Value → Hp → Prop) (a0 : Option Addr) (n0 : Nat) (c0 : Nat) (x1 : Int) (x2 : Int) (g3 : Nat) (fi3 : Array Value) (ca3 : Array Value) (g3s : Nat) (fi3s : Array Value) (ca3s : Array Value) (x8 : Int) (h : Hp) : Prop := RKL Tryd.prog O Tryd.f127 stk127_0 53 [0, 1, 2, 3, 8] [(.slice a0 n0 c0), (.int .i64 x1), (.int .i64 x2), (.func (.func g3s) fi3s ca3s), (.int .i64 x8)] h Q
def I127_1 (O : CallF) (Q : Value → Hp → Prop) (a0 : Option Addr) (n0 : Nat) (c0 : Nat) (x1 : Int) (x2 : Int) (g3 : Nat) (fi3 : Array Value) (ca3 : Array Value) (g3s : Nat) (fi3s : Array Value) (ca3s : Array Value) (x8 : Int) (x9 : Int) (h : Hp) : Prop := RKL Tryd.prog O Tryd.f127 stk127_1 53 [0, 1, 2, 3, 8, 9] [(.slice a0 n0 c0), (.int .i64 x1), (.int .i64 x2), (.func (.func g3s) fi3s ca3s), (.int .i64 x8), (.int .i64 x9)] h Q
def T127 (O : CallF) (Q : Value → Hp → Prop) (a0 : Option Addr) (n0 : Nat) (c0 : Nat) (x1 : Int) (x2 : Int) (g3 : Nat) (fi3 : Array Value) (ca3 : Array Value) (h : Hp) : Prop :=
  I127_0 O Q a0 n0 c0 x1 x2 g3 fi3 ca3 g3 fi3 ca3 (wrapF .i64 (x1 + 1)) h
theorem rk127 {O Q} (a0 n0 c0 x1 x2 g3 fi3 ca3) {h : Hp} (hO : O 127 [(.slice a0 n0 c0), (.int .i64 x1), (.int .i64 x2), (.func (.func g3) fi3 ca3)] h = none) (hh : T127 O Q a0 n0 c0 x1 x2 g3 fi3 ca3 h) : Ret Tryd.prog O 127 [(.slice a0 n0 c0), (.int .i64 x1), (.int .i64 x2), (.func (.func g3) fi3 ca3)] h Q :=
  .of (c := b127) Tryd.func127 (by kernel_rfl) hO (V_ok (tb := lv127) (cuts := []) 500 (Eq.mp (by kernel_rfl) hh))
def T127_0 (O : CallF) (Q : Value → Hp → Prop) (a0 : Option Addr) (n0 : Nat) (c0 : Nat) (x1 : Int) (x2 : Int) (g3 : Nat) (fi3 : Array Value) (ca3 : Array Value) (g3s : Nat) (fi3s : Array Value) (ca3s : Array Value) (x8 : Int) (h : Hp) : Prop :=
  vcond (ltI x8 x2)
  (I127_1 O Q a0 n0 c0 x1 x2 g3 fi3 ca3 g3s fi3s ca3s x8 x8 h)
  (Q undef h)
theorem I127_0.of {O Q} (a0 n0 c0 x1 x2 g3 fi3 ca3 g3s fi3s ca3s x8) {h : Hp} (hh : T127_0 O Q a0 n0 c0 x1 x2 g3 fi3 ca3 g3s fi3s ca3s x8 h) : I127_0 O Q a0 n0 c0 x1 x2 g3 fi3 ca3 g3s fi3s ca3s x8 h :=
  RKL.of (tb := lv127) (cuts := []) 500 fun _ => Eq.mp (by kernel_rfl) hh
def T127_1 (O : CallF) (Q : Value → Hp → Prop) (a0 : Option Addr) (n0 : Nat) (c0 : Nat) (x1 : Int) (x2 : Int) (g3 : Nat) (fi3 : Array Value) (ca3 : Array Value) (g3s : Nat) (fi3s : Array Value) (ca3s : Array Value) (x8 : Int) (x9 : Int) (h : Hp) : Prop :=
  vcond (ltI x1 x9)
  (isNat x9 fun n201' =>
  isAddr a0 fun b202' f203' =>
  vreq (Nat.blt n201' n0)
  (∃ x204', readAt (h.rsv 17) b202' (f203' + (n201' * 1)) 1 = some [(.int .i64 x204')] ∧
  isNat (wrapF .i64 (x9 - 1)) fun n205' =>
  isAddr a0 fun b206' f207' =>
  vreq (Nat.blt n205' n0)
  (∃ x208', readAt (h.rsv 17) b206' (f207' + (n205' * 1)) 1 = some [(.int .i64 x208')] ∧
  ∃ x209', ∃ h210', EvC Tryd.prog O g3s (fi3s.toList ++ [(.int .i64 x204'), (.int .i64 x208')] ++ ca3s.toList) ((h.rsv 17).grd []) (.int .i64 x209') h210' ∧
  vcond (ltI x209' 0)
  (isNat (wrapF .i64 (x9 - 1)) fun n211' =>
  isAddr a0 fun b212' f213' =>
  vreq (Nat.blt n211' n0)
  (∃ x214', readAt ((h210'.rst (h.rsv 17)).rsv 18) b212' (f213' + (n211' * 1)) 1 = some [(.int .i64 x214')] ∧
  isNat x9 fun n215' =>
  isAddr a0 fun b216' f217' =>
  vreq (Nat.blt n215' n0)
  (∃ x218', readAt ((h210'.rst (h.rsv 17)).rsv 18) b216' (f217' + (n215' * 1)) 1 = some [(.int .i64 x218')] ∧
  isNat x9 fun n219' =>
  isAddr a0 fun b220' f221' =>
  vreq (Nat.blt n219' n0)
  (vreq (canW (((h210'.rst (h.rsv 17)).rsv 18).grd []) b220' (f221' + (n219' * 1)) [(.int .i64 x214')])
  (isNat (wrapF .i64 (x9 - 1)) fun n222' =>
  isAddr a0 fun b223' f224' =>
  vreq (Nat.blt n222' n0)
  (vreq (canW ((((((h210'.rst (h.rsv 17)).rsv 18).grd []).wr b220' (f221' + (n219' * 1)) [(.int .i64 x214')]).rst ((h210'.rst (h.rsv 17)).rsv 18)).grd []) b223' (f224' + (n222' * 1)) [(.int .i64 x218')])
  (I127_1 O Q a0 n0 c0 x1 x2 g3 fi3 ca3 g3s fi3s ca3s x8 (wrapF .i64 (x9 - 1)) ((((((((h210'.rst (h.rsv 17)).rsv 18).grd []).wr b220' (f221' + (n219' * 1)) [(.int .i64 x214')]).rst ((h210'.rst (h.rsv 17)).rsv 18)).grd []).wr b223' (f224' + (n222' * 1)) [(.int .i64 x218')]).rst (((((h210'.rst (h.rsv 17)).rsv 18).grd []).wr b220' (f221' + (n219' * 1)) [(.int .i64 x214')]).rst ((h210'.rst (h.rsv 17)).rsv 18))))))))))
  (I127_0 O Q a0 n0 c0 x1 x2 g3 fi3 ca3 g3s fi3s ca3s (wrapF .i64 (x8 + 1)) (h210'.rst (h.rsv 17))))))
  (I127_0 O Q a0 n0 c0 x1 x2 g3 fi3 ca3 g3s fi3s ca3s (wrapF .i64 (x8 + 1)) (h.rsv 17))
theorem I127_1.of {O Q} (a0 n0 c0 x1 x2 g3 fi3 ca3 g3s fi3s ca3s x8 x9) {h : Hp} (hh : T127_1 O Q a0 n0 c0 x1 x2 g3 fi3 ca3 g3s fi3s ca3s x8 x9 h) : I127_1 O Q a0 n0 c0 x1 x2 g3 fi3 ca3 g3s fi3s ca3s x8 x9 h :=
  RKL.of (tb := lv127) (cuts := []) 500 fun _ => Eq.mp (by kernel_rfl) hh
/-! slices.choosePivotCmpFunc[int] -/
noncomputable def b130 : Code := (Tryd.f130.body).getD .skip
def lv130 : List (Nat × List Nat) := []
def T130 (O : CallF) (Q : Value → Hp → Prop) (a0 : Option Addr) (n0 : Nat) (c0 : Nat) (x1 : Int) (x2 : Int) (g3 : Nat) (fi3 : Array Value) (ca3 : Array Value) (h : Hp) : Prop :=
  vcond (!(ltI (wrapF .i64 (x2 - x1)) 8))
  (vcond (!(ltI (wrapF .i64 (x2 - x1)) 50))
  (∃ x1', ∃ h2', EvC Tryd.prog O 143 [(.slice a0 n0 c0), (.int .i64 (wrapF .i64 (x1 + (wrapF .i64 ((wrapF .i64 (Int.tdiv (wrapF .i64 (x2 - x1)) 4)) * 1))))), (.pointer (some ⟨h.nx, 0, none⟩)), (.func (.func g3) fi3 ca3)] (h.add (.cells [(.int .i64 0)] 3 .fix)) (.int .i64 x1') h2' ∧
  ∃ x3', ∃ h4', EvC Tryd.prog O 143 [(.slice a0 n0 c0), (.int .i64 (wrapF .i64 (x1 + (wrapF .i64 ((wrapF .i64 (Int.tdiv (wrapF .i64 (x2 - x1)) 4)) * 2))))), (.pointer (some ⟨h.nx, 0, none⟩)), (.func (.func g3) fi3 ca3)] h2' (.int .i64 x3') h4' ∧
  ∃ x5', ∃ h6', EvC Tryd.prog O 143 [(.slice a0 n0 c0), (.int .i64 (wrapF .i64 (x1 + (wrapF .i64 ((wrapF .i64 (Int.tdiv (wrapF .i64 (x2 - x1)) 4)) * 3))))), (.pointer (some ⟨h.nx, 0, none⟩)), (.func (.func g3) fi3 ca3)] h4' (.int .i64 x5') h6' ∧
  ∃ x7', ∃ h8', EvC Tryd.prog O 144 [(.slice a0 n0 c0), (.int .i64 x1'), (.int .i64 x3'), (.int .i64 x5'), (.pointer (some ⟨h.nx, 0, none⟩)), (.func (.func g3) fi3 ca3)] h6' (.int .i64 x7') h8' ∧
  ∃ x9', readAt h8' h.nx 0 1 = some [(.int .i64 x9')] ∧
  vcond (eqI x9' 0)
  (Q (.tuple #[(.int .i64 x7'), (.int .i64 1)]) h8')
  (vcond (eqI x9' 12)
  (Q (.tuple #[(.int .i64 x7'), (.int .i64 2)]) h8')
  (Q (.tuple #[(.int .i64 x7'), (.int .i64 0)]) h8')))
  (∃ x10', ∃ h11', EvC Tryd.prog O 144 [(.slice a0 n0 c0), (.int .i64 (wrapF .i64 (x1 + (wrapF .i64 ((wrapF .i64 (Int.tdiv (wrapF .i64 (x2 - x1)) 4)) * 1))))), (.int .i64 (wrapF .i64 (x1 + (wrapF .i64 ((wrapF .i64 (Int.tdiv (wrapF .i64 (x2 - x1)) 4)) * 2))))), (.int .i64 (wrapF .i64 (x1 + (wrapF .i64 ((wrapF .i64 (Int.tdiv (wrapF .i64 (x2 - x1)) 4)) * 3))))), (.pointer (some ⟨h.nx, 0, none⟩)), (.func (.func g3) fi3 ca3)] (h.add (.cells [(.int .i64 0)] 3 .fix)) (.int .i64 x10') h11' ∧
  ∃ x12', readAt h11' h.nx 0 1 = some [(.int .i64 x12')] ∧
  vcond (eqI x12' 0)
  (Q (.tuple #[(.int .i64 x10'), (.int .i64 1)]) h11')
  (vcond (eqI x12' 12)
  (Q (.tuple #[(.int .i64 x10'), (.int .i64 2)]) h11')
  (Q (.tuple #[(.int .i64 x10'), (.int .i64 0)]) h11'))))
  (∃ x13', readAt (h.add (.cells [(.int .i64 0)] 3 .fix)) h.nx 0 1 = some [(.int .i64 x13')] ∧
  vcond (eqI x13' 0)
  (Q (.tuple #[(.int .i64 (wrapF .i64 (x1 + (wrapF .i64 ((wrapF .i64 (Int.tdiv (wrapF .i64 (x2 - x1)) 4)) * 2))))), (.int .i64 1)]) (h.add (.cells [(.int .i64 0)] 3 .fix)))
  (vcond (eqI x13' 12)
  (Q (.tuple #[(.int .i64 (wrapF .i64 (x1 + (wrapF .i64 ((wrapF .i64 (Int.tdiv (wrapF .i64 (x2 - x1)) 4)) * 2))))), (.int .i64 2)]) (h.add (.cells [(.int .i64 0)] 3 .fix)))
  (Q (.tuple #[(.int .i64 (wrapF .i64 (x1 + (wrapF .i64 ((wrapF .i64 (Int.tdiv (wrapF .i64 (x2 - x1)) 4)) * 2))))), (.int .i64 0)]) (h.add (.cells [(.int .i64 0)] 3 .fix)))))
theorem rk130 {O Q} (a0 n0 c0 x1 x2 g3 fi3 ca3) {h : Hp} (hO : O 130 [(.slice a0 n0 c0), (.int .i64 x1), (.int .i64 x2), (.func (.func g3) fi3 ca3)] h = none) (hh : T130 O Q a0 n0 c0 x1 x2 g3 fi3 ca3 h) : Ret Tryd.prog O 130 [(.slice a0 n0 c0), (.int .i64 x1), (.int .i64 x2), (.func (.func g3) fi3 ca3)] h Q :=
  .of (c := b130) Tryd.func130 (by kernel_rfl) hO (V_ok (tb := lv130) (cuts := []) 500 (Eq.mp (by kernel_rfl) hh))
/-! slices.partialInsertionSortCmpFunc[int] -/
noncomputable def b132 : Code := (Tryd.f132.body).getD .skip
noncomputable def stk132_0 : List KI := [.code (sub [1, 1, 0, 1, 0] b132), .blk 0, .code (sub [1, 1, 1] b132)]
noncomputable def stk132_1 : List KI := [.code (sub [1, 1, 0, 1, 0, 0, 1, 0, 0, 0, 0] b132), .blk 2, .code (sub [1, 1, 0, 1, 0, 0, 1, 0, 0, 1] b132), .blk 1, .code (sub [1, 1, 0, 1, 0, 0, 1, 1] b132), .code (sub [1, 1, 0, 1, 0] b132), .blk 0, .code (sub [1, 1, 1] b132)]
noncomputable def stk132_2 : List KI := [.code (sub [1, 1, 0, 1, 0, 0, 1, 0, 0, 1, 1, 1, 1, 0, 1, 0, 1, 0] b132), .blk 4, .code (sub [1, 1, 0, 1, 0, 0, 1, 0, 0, 1, 1, 1, 1, 1] b132), .blk 1, .code (sub [1, 1, 0, 1, 0, 0, 1, 1] b132), .code (sub [1, 1, 0, 1, 0] b132), .blk 0, .code (sub [1, 1, 1] b132)]
noncomputable def stk132_3 : List KI := [.code (sub [1, 1, 0, 1, 0, 0, 1, 0, 0, 1, 1, 1, 1, 1, 1, 0, 1, 0] b132), .blk 6, .blk 1, .code (sub [1, 1, 0, 1, 0, 0, 1, 1] b132), .code (sub [1, 1, 0, 1, 0] b132), .blk 0, .code (sub [1, 1, 1] b132)]
def lv132 : List (Nat × List Nat) := [(0, [0, 1, 2, 3, 8, 9, 10]), (2, [0, 1, 2, 3, 8, 9, 10]), (4, [0, 1, 2, 3, 8, 9, 10, 11]), (6, [0, 1, 2, 3, 8, 9, 10, 12])]
def I132_0 (O : CallF) (Q : Value → Hp → Prop) (a0 : Option Addr) (n0 : Nat) (c0 : Nat) (x1 : Int) (x2 : Int) (g3 : Nat) (fi3 : Array Value) (ca3 : Array Value) (g3s : Nat) (fi3s : Array Value) (ca3s : Array Value) (q8 : Bool) (x9 : Int) (x10 : Int) (h : Hp) : Prop := RKL Tryd.prog O Tryd.f132 stk132_0 141 [0, 1, 2, 3, 8, 9, 10] [(.slice a0 n0 c0), (.int .i64 x1), (.int .i64 x2), (.func (.func g3s) fi3s ca3s), (.bool q8), (.int .i64 x9), (.int .i64 x10)] h Q
def I132_1 (O : CallF) (Q : Value → Hp → Prop) (a0 : Option Addr) (n0 : Nat) (c0 : Nat) (x1 : Int) (x2 : Int) (g3 : Nat) (fi3 : Array Value) (ca3 : Array Value) (g3s : Nat) (fi3s : Array Value) (ca3s : Array Value) (q8 : Bool) (x9 : Int) (x10 : Int) (h : Hp) : Prop := RKL Tryd.prog O Tryd.f132 stk132_1 141 [0, 1, 2, 3, 8, 9, 10] [(.slice a0 n0 c0), (.int .i64 x1), (.int .i64 x2), (.func (.func g3s) fi3s ca3s), (.bool q8), (.int .i64 x9), (.int .i64 x10)] h Q
def I132_2 (O : CallF) (Q : Value → Hp → Prop) (a0 : Option Addr) (n0 : Nat) (c0 : Nat) (x1 : Int) (x2 : Int) (g3 : Nat) (fi3 : Array Value) (ca3 : Array Value) (g3s : Nat) (fi3s : Array Value) (ca3s : Array Value) (q8 : Bool) (x9 : Int) (x10 : Int) (x11 : Int) (h : Hp) : Prop := RKL Tryd.prog O Tryd.f132 stk132_2 141 [0, 1, 2, 3, 8, 9, 10, 11] [(.slice a0 n0 c0), (.int .i64 x1), (.int .i64 x2), (.func (.func g3s) fi3s ca3s), (.bool q8), (.int .i64 x9), (.int .i64 x10), (.int .i64 x11)] h Q
def I132_3 (O : CallF) (Q : Value → Hp → Prop) (a0 : Option Addr) (n0 : Nat) (c0 : Nat) (x1 : Int) (x2 : Int) (g3 : Nat) (fi3 : Array Value) (ca3 : Array Value) (g3s : Nat) (fi3s : Array Value) (ca3s : Array Value) (q8 : Bool) (x9 : Int) (x10 : Int) (x12 : Int) (h : Hp) : Prop := RKL Tryd.prog O Tryd.f132 stk132_3 141 [0, 1, 2, 3, 8, 9, 10, 12] [(.slice a0 n0 c0), (.int .i64 x1), (.int .i64 x2), (.func (.func g3s) fi3s ca3s), (.bool q8), (.int .i64 x9), (.int .i64 x10), (.int .i64 x12)] h Q
def T132 (O : CallF) (Q : Value → Hp → Prop) (a0 : Option Addr) (n0 : Nat) (c0 : Nat) (x1 : Int) (x2 : Int) (g3 : Nat) (fi3 : Array Value) (ca3 : Array Value) (h : Hp) : Prop :=
  I132_0 O Q a0 n0 c0 x1 x2 g3 fi3 ca3 g3 fi3 ca3 false (wrapF .i64 (x1 + 1)) 0 h
theorem rk132 {O Q} (a0 n0 c0 x1 x2 g3 fi3 ca3) {h : Hp} (hO : O 132 [(.slice a0 n0 c0), (.int .i64 x1), (.int .i64 x2), (.func (.func g3) fi3 ca3)] h = none) (hh : T132 O Q a0 n0 c0 x1 x2 g3 fi3 ca3 h) : Ret Tryd.prog O 132 [(.slice a0 n0 c0), (.int .i64 x1), (.int .i64 x2), (.func (.func g3) fi3 ca3)] h Q :=
  .of (c := b132) Tryd.func132 (by kernel_rfl) hO (V_ok (tb := lv132) (cuts := []) 500 (Eq.mp (by kernel_rfl) hh))
def T132_0 (O : CallF) (Q : Value → Hp → Prop) (a0 : Option Addr) (n0 : Nat) (c0 : Nat) (x1 : Int) (x2 : Int) (g3 : Nat) (fi3 : Array Value) (ca3 : Array Value) (g3s : Nat) (fi3s : Array Value) (ca3s : Array Value) (q8 : Bool) (x9 : Int) (x10 : Int) (h : Hp) : Prop :=
  vcond (ltI x10 5)
  (I132_1 O Q a0 n0 c0 x1 x2 g3 fi3 ca3 g3s fi3s ca3s q8 x9 x10 h)
  (Q (.bool false) h)
theorem I132_0.of {O Q} (a0 n0 c0 x1 x2 g3 fi3 ca3 g3s fi3s ca3s q8 x9 x10) {h : Hp} (hh : T132_0 O Q a0 n0 c0 x1 x2 g3 fi3 ca3 g3s fi3s ca3s q8 x9 x10 h) : I132_0 O Q a0 n0 c0 x1 x2 g3 fi3 ca3 g3s fi3s ca3s q8 x9 x10 h :=
  RKL.of (tb := lv132) (cuts := []) 500 fun _ => Eq.mp (by kernel_rfl) hh
def T132_1 (O : CallF) (Q : Value → Hp → Prop) (a0 : Option Addr) (n0 : Nat) (c0 : Nat) (x1 : Int) (x2 : Int) (g3 : Nat) (fi3 : Array Value) (ca3 : Array Value) (g3s : Nat) (fi3s : Array Value) (ca3s : Array Value) (q8 : Bool) (x9 : Int) (x10 : Int) (h : Hp) : Prop :=
  vcond (ltI x9 x2)
  (isNat x9 fun n201' =>
  isAddr a0 fun b202' f203' =>
  vreq (Nat.blt n201' n0)
  (∃ x204', readAt (h.rsv 18) b202' (f203' + (n201' * 1)) 1 = some [(.int .i64 x204')] ∧
  isNat (wrapF .i64 (x9 - 1)) fun n205' =>
  isAddr a0 fun b206' f207' =>
  vreq (Nat.blt n205' n0)
  (∃ x208', readAt (h.rsv 18) b206' (f207' + (n205' * 1)) 1 = some [(.int .i64 x208')] ∧
  ∃ x209', ∃ h210', EvC Tryd.prog O g3s (fi3s.toList ++ [(.int .i64 x204'), (.int .i64 x208')] ++ ca3s.toList) ((h.rsv 18).grd []) (.int .i64 x209') h210' ∧
  vcond (!(ltI x209' 0))
  (I132_1 O Q a0 n0 c0 x1 x2 g3 fi3 ca3 g3s fi3s ca3s q8 (wrapF .i64 (x9 + 1)) x10 (h210'.rst (h.rsv 18)))
  (vcond (eqI x9 x2)
  (Q (.bool true) (h210'.rst (h.rsv 18)))
  (vcond (ltI (wrapF .i64 (x2 - x1)) 50)
  (Q (.bool false) (h210'.rst (h.rsv 18)))
  (isNat (wrapF .i64 (x9 - 1)) fun n211' =>
  isAddr a0 fun b212' f213' =>
  vreq (Nat.blt n211' n0)
  (∃ x214', readAt ((h210'.rst (h.rsv 18)).rsv 18) b212' (f213' + (n211' * 1)) 1 = some [(.int .i64 x214')] ∧
  isNat x9 fun n215' =>
  isAddr a0 fun b216' f217' =>
  vreq (Nat.blt n215' n0)
  (∃ x218', readAt ((h210'.rst (h.rsv 18)).rsv 18) b216' (f217' + (n215' * 1)) 1 = some [(.int .i64 x218')] ∧
  isNat x9 fun n219' =>
  isAddr a0 fun b220' f221' =>
  vreq (Nat.blt n219' n0)
  (vreq (canW (((h210'.rst (h.rsv 18)).rsv 18).grd []) b220' (f221' + (n219' * 1)) [(.int .i64 x214')])
  (isNat (wrapF .i64 (x9 - 1)) fun n222' =>
  isAddr a0 fun b223' f224' =>
  vreq (Nat.blt n222' n0)
  (vreq (canW ((((((h210'.rst (h.rsv 18)).rsv 18).grd []).wr b220' (f221' + (n219' * 1)) [(.int .i64 x214')]).rst ((h210'.rst (h.rsv 18)).rsv 18)).grd []) b223' (f224' + (n222' * 1)) [(.int .i64 x218')])
  (vcond (!(ltI (wrapF .i64 (x9 - x1)) 2))
  (I132_2 O Q a0 n0 c0 x1 x2 g3 fi3 ca3 g3s fi3s ca3s q8 x9 x10 (wrapF .i64 (x9 - 1)) ((((((((h210'.rst (h.rsv 18)).rsv 18).grd []).wr b220' (f221' + (n219' * 1)) [(.int .i64 x214')]).rst ((h210'.rst (h.rsv 18)).rsv 18)).grd []).wr b223' (f224' + (n222' * 1)) [(.int .i64 x218')]).rst (((((h210'.rst (h.rsv 18)).rsv 18).grd []).wr b220' (f221' + (n219' * 1)) [(.int .i64 x214')]).rst ((h210'.rst (h.rsv 18)).rsv 18))))
  (vcond (!(ltI (wrapF .i64 (x2 - x9)) 2))
  (I132_3 O Q a0 n0 c0 x1 x2 g3 fi3 ca3 g3s fi3s ca3s q8 x9 x10 (wrapF .i64 (x9 + 1)) ((((((((h210'.rst (h.rsv 18)).rsv 18).grd []).wr b220' (f221' + (n219' * 1)) [(.int .i64 x214')]).rst ((h210'.rst (h.rsv 18)).rsv 18)).grd []).wr b223' (f224' + (n222' * 1)) [(.int .i64 x218')]).rst (((((h210'.rst (h.rsv 18)).rsv 18).grd []).wr b220' (f221' + (n219' * 1)) [(.int .i64 x214')]).rst ((h210'.rst (h.rsv 18)).rsv 18))))
  (I132_0 O Q a0 n0 c0 x1 x2 g3 fi3 ca3 g3s fi3s ca3s q8 x9 (wrapF .i64 (x10 + 1)) ((((((((h210'.rst (h.rsv 18)).rsv 18).grd []).wr b220' (f221' + (n219' * 1)) [(.int .i64 x214')]).rst ((h210'.rst (h.rsv 18)).rsv 18)).grd []).wr b223' (f224' + (n222' * 1)) [(.int .i64 x218')]).rst (((((h210'.rst (h.rsv 18)).rsv 18).grd []).wr b220' (f221' + (n219' * 1)) [(.int .i64 x214')]).rst ((h210'.rst (h.rsv 18)).rsv 18)))))))))))))))))
  (vcond (eqI x9 x2)
  (Q (.bool true) (h.rsv 18))
  (vcond (ltI (wrapF .i64 (x2 - x1)) 50)
  (Q (.bool false) (h.rsv 18))
  (isNat (wrapF .i64 (x9 - 1)) fun n225' =>
  isAddr a0 fun b226' f227' =>
  vreq (Nat.blt n225' n0)
  (∃ x228', readAt ((h.rsv 18).rsv 18) b226' (f227' + (n225' * 1)) 1 = some [(.int .i64 x228')] ∧
  isNat x9 fun n229' =>
  isAddr a0 fun b230' f231' =>
  vreq (Nat.blt n229' n0)
  (∃ x232', readAt ((h.rsv 18).rsv 18) b230' (f231' + (n229' * 1)) 1 = some [(.int .i64 x232')] ∧
  isNat x9 fun n233' =>
  isAddr a0 fun b234' f235' =>
  vreq (Nat.blt n233' n0)
  (vreq (canW (((h.rsv 18).rsv 18).grd []) b234' (f235' + (n233' * 1)) [(.int .i64 x228')])
  (isNat (wrapF .i64 (x9 - 1)) fun n236' =>
  isAddr a0 fun b237' f238' =>
  vreq (Nat.blt n236' n0)
  (vreq (canW ((((((h.rsv 18).rsv 18).grd []).wr b234' (f235' + (n233' * 1)) [(.int .i64 x228')]).rst ((h.rsv 18).rsv 18)).grd []) b237' (f238' + (n236' * 1)) [(.int .i64 x232')])
  (vcond (!(ltI (wrapF .i64 (x9 - x1)) 2))
  (I132_2 O Q a0 n0 c0 x1 x2 g3 fi3 ca3 g3s fi3s ca3s q8 x9 x10 (wrapF .i64 (x9 - 1)) ((((((((h.rsv 18).rsv 18).grd []).wr b234' (f235' + (n233' * 1)) [(.int .i64 x228')]).rst ((h.rsv 18).rsv 18)).grd []).wr b237' (f238' + (n236' * 1)) [(.int .i64 x232')]).rst (((((h.rsv 18).rsv 18).grd []).wr b234' (f235' + (n233' * 1)) [(.int .i64 x228')]).rst ((h.rsv 18).rsv 18))))
  (vcond (!(ltI (wrapF .i64 (x2 - x9)) 2))
  (I132_3 O Q a0 n0 c0 x1 x2 g3 fi3 ca3 g3s fi3s ca3s q8 x9 x10 (wrapF .i64 (x9 + 1)) ((((((((h.rsv 18).rsv 18).grd []).wr b234' (f235' + (n233' * 1)) [(.int .i64 x228')]).rst ((h.rsv 18).rsv 18)).grd []).wr b237' (f238' + (n236' * 1)) [(.int .i64 x232')]).rst (((((h.rsv 18).rsv 18).grd []).wr b234' (f235' + (n233' * 1)) [(.int .i64 x228')]).rst ((h.rsv 18).rsv 18))))
  (I132_0 O Q a0 n0 c0 x1 x2 g3 fi3 ca3 g3s fi3s ca3s q8 x9 (wrapF .i64 (x10 + 1)) ((((((((h.rsv 18).rsv 18).grd []).wr b234' (f235' + (n233' * 1)) [(.int .i64 x228')]).rst ((h.rsv 18).rsv 18)).grd []).wr b237' (f238' + (n236' * 1)) [(.int .i64 x232')]).rst (((((h.rsv 18).rsv 18).grd []).wr b234' (f235' + (n233' * 1)) [(.int .i64 x228')]).rst ((h.rsv 18).rsv 18))))))))))))))
theorem I132_1.of {O Q} (a0 n0 c0 x1 x2 g3 fi3 ca3 g3s fi3s ca3s q8 x9 x10) {h : Hp} (hh : T132_1 O Q a0 n0 c0 x1 x2 g3 fi3 ca3 g3s fi3s ca3s q8 x9 x10 h) : I132_1 O Q a0 n0 c0 x1 x2 g3 fi3 ca3 g3s fi3s ca3s q8 x9 x10 h :=
  RKL.of (tb := lv132) (cuts := []) 500 fun _ => Eq.mp (by kernel_rfl) hh
/-! slices.medianCmpFunc[int] -/
noncomputable def b144 : Code := (Tryd.f144.body).getD .skip
def lv144 : List (Nat × List Nat) := []
def T144 (O : CallF) (Q : Value → Hp → Prop) (a0 : Option Addr) (n0 : Nat) (c0 : Nat) (x1 : Int) (x2 : Int) (x3 : Int) (b4 : Nat) (f4 : Nat) (g5 : Nat) (fi5 : Array Value) (ca5 : Array Value) (h : Hp) : Prop :=
  ∃ x1', ∃ x2', ∃ h3', EvC Tryd.prog O 145 [(.slice a0 n0 c0), (.int .i64 x1), (.int .i64 x2), (.pointer (some ⟨b4, f4, none⟩)), (.func (.func g5) fi5 ca5)] h (.tuple #[(.int .i64 x1'), (.int .i64 x2')]) h3' ∧
  ∃ x4', ∃ x5', ∃ h6', EvC Tryd.prog O 145 [(.slice a0 n0 c0), (.int .i64 x2'), (.int .i64 x3), (.pointer (some ⟨b4, f4, none⟩)), (.func (.func g5) fi5 ca5)] h3' (.tuple #[(.int .i64 x4'), (.int .i64 x5')]) h6' ∧
  ∃ x7', ∃ x8', ∃ h9', EvC Tryd.prog O 145 [(.slice a0 n0 c0), (.int .i64 x1'), (.int .i64 x4'), (.pointer (some ⟨b4, f4, none⟩)), (.func (.func g5) fi5 ca5)] h6' (.tuple #[(.int .i64 x7'), (.int .i64 x8')]) h9' ∧
  Q (.int .i64 x8') h9'
theorem rk144 {O Q} (a0 n0 c0 x1 x2 x3 b4 f4 g5 fi5 ca5) {h : Hp} (hO : O 144 [(.slice a0 n0 c0), (.int .i64 x1), (.int .i64 x2), (.int .i64 x3), (.pointer (some ⟨b4, f4, none⟩)), (.func (.func g5) fi5 ca5)] h = none) (hh : T144 O Q a0 n0 c0 x1 x2 x3 b4 f4 g5 fi5 ca5 h) : Ret Tryd.prog O 144 [(.slice a0 n0 c0), (.int .i64 x1), (.int .i64 x2), (.int .i64 x3), (.pointer (some ⟨b4, f4, none⟩)), (.func (.func g5) fi5 ca5)] h Q :=
  .of (c := b144) Tryd.func144 (by kernel_rfl) hO (V_ok (tb := lv144) (cuts := []) 500 (Eq.mp (by kernel_rfl) hh))
/-! slices.order2CmpFunc[int] -/
noncomputable def b145 : Code := (Tryd.f145.body).getD .skip
def lv145 : List (Nat × List Nat) := []
def T145 (O : CallF) (Q : Value → Hp → Prop) (a0 : Option Addr) (n0 : Nat) (c0 : Nat) (x1 : Int) (x2 : Int) (b3 : Nat) (f3 : Nat) (g4 : Nat) (fi4 : Array Value) (ca4 : Array Value) (h : Hp) : Prop :=
  isNat x2 fun n1' =>
  isAddr a0 fun b2' f3' =>
  vreq (Nat.blt n1' n0)
  (∃ x4', readAt (h.rsv 11) b2' (f3' + (n1' * 1)) 1 = some [(.int .i64 x4')] ∧
  isNat x1 fun n5' =>
  isAddr a0 fun b6' f7' =>
  vreq (Nat.blt n5' n0)
  (∃ x8', readAt (h.rsv 11) b6' (f7' + (n5' * 1)) 1 = some [(.int .i64 x8')] ∧
  ∃ x9', ∃ h10', EvC Tryd.prog O g4 (fi4.toList ++ [(.int .i64 x4'), (.int .i64 x8')] ++ ca4.toList) ((h.rsv 11).grd []) (.int .i64 x9') h10' ∧
  vcond (ltI x9' 0)
  (∃ x11', readAt (h10'.rst (h.rsv 11)) b3 f3 1 = some [(.int .i64 x11')] ∧
  vreq (canW (h10'.rst (h.rsv 11)) b3 f3 [(.int .i64 (wrapF .i64 (x11' + 1)))])
  (Q (.tuple #[(.int .i64 x2), (.int .i64 x1)]) ((h10'.rst (h.rsv 11)).wr b3 f3 [(.int .i64 (wrapF .i64 (x11' + 1)))])))
  (Q (.tuple #[(.int .i64 x1), (.int .i64 x2)]) (h10'.rst (h.rsv 11)))))
theorem rk145 {O Q} (a0 n0 c0 x1 x2 b3 f3 g4 fi4 ca4) {h : Hp} (hO : O 145 [(.slice a0 n0 c0), (.int .i64 x1), (.int .i64 x2), (.pointer (some ⟨b3, f3, none⟩)), (.func (.func g4) fi4 ca4)] h = none) (hh : T145 O Q a0 n0 c0 x1 x2 b3 f3 g4 fi4 ca4 h) : Ret Tryd.prog O 145 [(.slice a0 n0 c0), (.int .i64 x1), (.int .i64 x2), (.pointer (some ⟨b3, f3, none⟩)), (.func (.func g4) fi4 ca4)] h Q :=
  .of (c := b145) Tryd.func145 (by kernel_rfl) hO (V_ok (tb := lv145) (cuts := []) 500 (Eq.mp (by kernel_rfl) hh))
/-! math/bits.Len -/
noncomputable def b116 : Code := (Tryd.f116.body).getD .skip
def lv116 : List (Nat × List Nat) := []
def T116 (O : CallF) (Q : Value → Hp → Prop) (x0 : Int) (h : Hp) : Prop :=
  ∃ x1', ∃ h2', EvC Tryd.prog O 136 [(.int .u64 x0)] h (.int .i64 x1') h2' ∧
  Q (.int .i64 x1') h2'
theorem rk116 {O Q} (x0) {h : Hp} (hO : O 116 [(.int .u64 x0)] h = none) (hh : T116 O Q x0 h) : Ret Tryd.prog O 116 [(.int .u64 x0)] h Q :=
  .of (c := b116) Tryd.func116 (by kernel_rfl) hO (V_ok (tb := lv116) (cuts := []) 500 (Eq.mp (by kernel_rfl) hh))
/-! math/bits.Len64 -/
noncomputable def b136 : Code := (Tryd.f136.body).getD .skip
def lv136 : List (Nat × List Nat) := []
def T136 (O : CallF) (Q : Value → Hp → Prop) (x0 : Int) (h : Hp) : Prop :=
  vcond (!(ltI x0 4294967296))
  (vcond (!(ltI (shrF .u64 x0 32) 65536))
  (vcond (!(ltI (shrF .u64 (shrF .u64 x0 32) 16) 256))
  (isNat (wrapF .u8 (shrF .u64 (shrF .u64 (shrF .u64 x0 32) 16) 8)) fun n1' =>
  vreq (Nat.blt n1' 256)
  (Q (.int .i64 (wrapF .i64 (56 + (wrapF .i64 (byteI (ByteArray.mk #[0, 1, 2, 2, 3, 3, 3, 3, 4, 4, 4, 4, 4, 4, 4, 4, 5, 5, 5, 5, 5, 5, 5, 5, 5, 5, 5, 5, 5, 5, 5, 5, 6, 6, 6, 6, 6, 6, 6, 6, 6, 6, 6, 6, 6, 6, 6, 6, 6, 6, 6, 6, 6, 6, 6, 6, 6, 6, 6, 6, 6, 6, 6, 6, 7, 7, 7, 7, 7, 7, 7, 7, 7, 7, 7, 7, 7, 7, 7, 7, 7, 7, 7, 7, 7, 7, 7, 7, 7, 7, 7, 7, 7, 7, 7, 7, 7, 7, 7, 7, 7, 7, 7, 7, 7, 7, 7, 7, 7, 7, 7, 7, 7, 7, 7, 7, 7, 7, 7, 7, 7, 7, 7, 7, 7, 7, 7, 7, 8, 8, 8, 8, 8, 8, 8, 8, 8, 8, 8, 8, 8, 8, 8, 8, 8, 8, 8, 8, 8, 8, 8, 8, 8, 8, 8, 8, 8, 8, 8, 8, 8, 8, 8, 8, 8, 8, 8, 8, 8, 8, 8, 8, 8, 8, 8, 8, 8, 8, 8, 8, 8, 8, 8, 8, 8, 8, 8, 8, 8, 8, 8, 8, 8, 8, 8, 8, 8, 8, 8, 8, 8, 8, 8, 8, 8, 8, 8, 8, 8, 8, 8, 8, 8, 8, 8, 8, 8, 8, 8, 8, 8, 8, 8, 8, 8, 8, 8, 8, 8, 8, 8, 8, 8, 8, 8, 8, 8, 8, 8, 8, 8, 8, 8, 8, 8, 8, 8, 8, 8, 8, 8, 8, 8, 8, 8, 8]) n1'))))) h))
  (isNat (wrapF .u8 (shrF .u64 (shrF .u64 x0 32) 16)) fun n2' =>
  vreq (Nat.blt n2' 256)
  (Q (.int .i64 (wrapF .i64 (48 + (wrapF .i64 (byteI (ByteArray.mk #[0, 1, 2, 2, 3, 3, 3, 3, 4, 4, 4, 4, 4, 4, 4, 4, 5, 5, 5, 5, 5, 5, 5, 5, 5, 5, 5, 5, 5, 5, 5, 5, 6, 6, 6, 6, 6, 6, 6, 6, 6, 6, 6, 6, 6, 6, 6, 6, 6, 6, 6, 6, 6, 6, 6, 6, 6, 6, 6, 6, 6, 6, 6, 6, 7, 7, 7, 7, 7, 7, 7, 7, 7, 7, 7, 7, 7, 7, 7, 7, 7, 7, 7, 7, 7, 7, 7, 7, 7, 7, 7, 7, 7, 7, 7, 7, 7, 7, 7, 7, 7, 7, 7, 7, 7, 7, 7, 7, 7, 7, 7, 7, 7, 7, 7, 7, 7, 7, 7, 7, 7, 7, 7, 7, 7, 7, 7, 7, 8, 8, 8, 8, 8, 8, 8, 8, 8, 8, 8, 8, 8, 8, 8, 8, 8, 8, 8, 8, 8, 8, 8, 8, 8, 8, 8, 8, 8, 8, 8, 8, 8, 8, 8, 8, 8, 8, 8, 8, 8, 8, 8, 8, 8, 8, 8, 8, 8, 8, 8, 8, 8, 8, 8, 8, 8, 8, 8, 8, 8, 8, 8, 8, 8, 8, 8, 8, 8, 8, 8, 8, 8, 8, 8, 8, 8, 8, 8, 8, 8, 8, 8, 8, 8, 8, 8, 8, 8, 8, 8, 8, 8, 8, 8, 8, 8, 8, 8, 8, 8, 8, 8, 8, 8, 8, 8, 8, 8, 8, 8, 8, 8, 8, 8, 8, 8, 8, 8, 8, 8, 8, 8, 8, 8, 8, 8, 8]) n2'))))) h)))
  (vcond (!(ltI (shrF .u64 x0 32) 256))
  (isNat (wrapF .u8 (shrF .u64 (shrF .u64 x0 32) 8)) fun n3' =>
  vreq (Nat.blt n3' 256)
  (Q (.int .i64 (wrapF .i64 (40 + (wrapF .i64 (byteI (ByteArray.mk #[0, 1, 2, 2, 3, 3, 3, 3, 4, 4, 4, 4, 4, 4, 4, 4, 5, 5, 5, 5, 5, 5, 5, 5, 5, 5, 5, 5, 5, 5, 5, 5, 6, 6, 6, 6, 6, 6, 6, 6, 6, 6, 6, 6, 6, 6, 6, 6, 6, 6, 6, 6, 6, 6, 6, 6, 6, 6, 6, 6, 6, 6, 6, 6, 7, 7, 7, 7, 7, 7, 7, 7, 7, 7, 7, 7, 7, 7, 7, 7, 7, 7, 7, 7, 7, 7, 7, 7, 7, 7, 7, 7, 7, 7, 7, 7, 7, 7, 7, 7, 7, 7, 7, 7, 7, 7, 7, 7, 7, 7, 7, 7, 7, 7, 7, 7, 7, 7, 7, 7, 7, 7, 7, 7, 7, 7, 7, 7, 8, 8, 8, 8, 8, 8, 8, 8, 8, 8, 8, 8, 8, 8, 8, 8, 8, 8, 8, 8, 8, 8, 8, 8, 8, 8, 8, 8, 8, 8, 8, 8, 8, 8, 8, 8, 8, 8, 8, 8, 8, 8, 8, 8, 8, 8, 8, 8, 8, 8, 8, 8, 8, 8, 8, 8, 8, 8, 8, 8, 8, 8, 8, 8, 8, 8, 8, 8, 8, 8, 8, 8, 8, 8, 8, 8, 8, 8, 8, 8, 8, 8, 8, 8, 8, 8, 8, 8, 8, 8, 8, 8, 8, 8, 8, 8, 8, 8, 8, 8, 8, 8, 8, 8, 8, 8, 8, 8, 8, 8, 8, 8, 8, 8, 8, 8, 8, 8, 8, 8, 8, 8, 8, 8, 8, 8, 8, 8]) n3'))))) h))
  (isNat (wrapF .u8 (shrF .u64 x0 32)) fun n4' =>
  vreq (Nat.blt n4' 256)
  (Q (.int .i64 (wrapF .i64 (32 + (wrapF .i64 (byteI (ByteArray.mk #[0, 1, 2, 2, 3, 3, 3, 3, 4, 4, 4, 4, 4, 4, 4, 4, 5, 5, 5, 5, 5, 5, 5, 5, 5, 5, 5, 5, 5, 5, 5, 5, 6, 6, 6, 6, 6, 6, 6, 6, 6, 6, 6, 6, 6, 6, 6, 6, 6, 6, 6, 6, 6, 6, 6, 6, 6, 6, 6, 6, 6, 6, 6, 6, 7, 7, 7, 7, 7, 7, 7, 7, 7, 7, 7, 7, 7, 7, 7, 7, 7, 7, 7, 7, 7, 7, 7, 7, 7, 7, 7, 7, 7, 7, 7, 7, 7, 7, 7, 7, 7, 7, 7, 7, 7, 7, 7, 7, 7, 7, 7, 7, 7, 7, 7, 7, 7, 7, 7, 7, 7, 7, 7, 7, 7, 7, 7, 7, 8, 8, 8, 8, 8, 8, 8, 8, 8, 8, 8, 8, 8, 8, 8, 8, 8, 8, 8, 8, 8, 8, 8, 8, 8, 8, 8, 8, 8, 8, 8, 8, 8, 8, 8, 8, 8, 8, 8, 8, 8, 8, 8, 8, 8, 8, 8, 8, 8, 8, 8, 8, 8, 8, 8, 8, 8, 8, 8, 8, 8, 8, 8, 8, 8, 8, 8, 8, 8, 8, 8, 8, 8, 8, 8, 8, 8, 8, 8, 8, 8, 8, 8, 8, 8, 8, 8, 8, 8, 8, 8, 8, 8, 8, 8, 8, 8, 8, 8, 8, 8, 8, 8, 8, 8, 8, 8, 8, 8, 8, 8, 8, 8, 8, 8, 8, 8, 8, 8, 8, 8, 8, 8, 8, 8, 8, 8, 8]) n4'))))) h))))
  (vcond (!(ltI x0 65536))
  (vcond (!(ltI (shrF .u64 x0 16) 256))
  (isNat (wrapF .u8 (shrF .u64 (shrF .u64 x0 16) 8)) fun n5' =>
  vreq (Nat.blt n5' 256)
  (Q (.int .i64 (wrapF .i64 (24 + (wrapF .i64 (byteI (ByteArray.mk #[0, 1, 2, 2, 3, 3, 3, 3, 4, 4, 4, 4, 4, 4, 4, 4, 5, 5, 5, 5, 5, 5, 5, 5, 5, 5, 5, 5, 5, 5, 5, 5, 6, 6, 6, 6, 6, 6, 6, 6, 6, 6, 6, 6, 6, 6, 6, 6, 6, 6, 6, 6, 6, 6, 6, 6, 6, 6, 6, 6, 6, 6, 6, 6, 7, 7, 7, 7, 7, 7, 7, 7, 7, 7, 7, 7, 7, 7, 7, 7, 7, 7, 7, 7, 7, 7, 7, 7, 7, 7, 7, 7, 7, 7, 7, 7, 7, 7, 7, 7, 7, 7, 7, 7, 7, 7, 7, 7, 7, 7, 7, 7, 7, 7, 7, 7, 7, 7, 7, 7, 7, 7, 7, 7, 7, 7, 7, 7, 8, 8, 8, 8, 8, 8, 8, 8, 8, 8, 8, 8, 8, 8, 8, 8, 8, 8, 8, 8, 8, 8, 8, 8, 8, 8, 8, 8, 8, 8, 8, 8, 8, 8, 8, 8, 8, 8, 8, 8, 8, 8, 8, 8, 8, 8, 8, 8, 8, 8, 8, 8, 8, 8, 8, 8, 8, 8, 8, 8, 8, 8, 8, 8, 8, 8, 8, 8, 8, 8, 8, 8, 8, 8, 8, 8, 8, 8, 8, 8, 8, 8, 8, 8, 8, 8, 8, 8, 8, 8, 8, 8, 8, 8, 8, 8, 8, 8, 8, 8, 8, 8, 8, 8, 8, 8, 8, 8, 8, 8, 8, 8, 8, 8, 8, 8, 8, 8, 8, 8, 8, 8, 8, 8, 8, 8, 8, 8]) n5'))))) h))
  (isNat (wrapF .u8 (shrF .u64 x0 16)) fun n6' =>
  vreq (Nat.blt n6' 256)
  (Q (.int .i64 (wrapF .i64 (16 + (wrapF .i64 (byteI (ByteArray.mk #[0, 1, 2, 2, 3, 3, 3, 3, 4, 4, 4, 4, 4, 4, 4, 4, 5, 5, 5, 5, 5, 5, 5, 5, 5, 5, 5, 5, 5, 5, 5, 5, 6, 6, 6, 6, 6, 6, 6, 6, 6, 6, 6, 6, 6, 6, 6, 6, 6, 6, 6, 6, 6, 6, 6, 6, 6, 6, 6, 6, 6, 6, 6, 6, 7, 7, 7, 7, 7, 7, 7, 7, 7, 7, 7, 7, 7, 7, 7, 7, 7, 7, 7, 7, 7, 7, 7, 7, 7, 7, 7, 7, 7, 7, 7, 7, 7, 7, 7, 7, 7, 7, 7, 7, 7, 7, 7, 7, 7, 7, 7, 7, 7, 7, 7, 7, 7, 7, 7, 7, 7, 7, 7, 7, 7, 7, 7, 7, 8, 8, 8, 8, 8, 8, 8, 8, 8, 8, 8, 8, 8, 8, 8, 8, 8, 8, 8, 8, 8, 8, 8, 8, 8, 8, 8, 8, 8, 8, 8, 8, 8, 8, 8, 8, 8, 8, 8, 8, 8, 8, 8, 8, 8, 8, 8, 8, 8, 8, 8, 8, 8, 8, 8, 8, 8, 8, 8, 8, 8, 8, 8, 8, 8, 8, 8, 8, 8, 8, 8, 8, 8, 8, 8, 8, 8, 8, 8, 8, 8, 8, 8, 8, 8, 8, 8, 8, 8, 8, 8, 8, 8, 8, 8, 8, 8, 8, 8, 8, 8, 8, 8, 8, 8, 8, 8, 8, 8, 8, 8, 8, 8, 8, 8, 8, 8, 8, 8, 8, 8, 8, 8, 8, 8, 8, 8, 8]) n6'))))) h)))
  (vcond (!(ltI x0 256))
  (isNat (wrapF .u8 (shrF .u64 x0 8)) fun n7' =>
  vreq (Nat.blt n7' 256)
  (Q (.int .i64 (wrapF .i64 (8 + (wrapF .i64 (byteI (ByteArray.mk #[0, 1, 2, 2, 3, 3, 3, 3, 4, 4, 4, 4, 4, 4, 4, 4, 5, 5, 5, 5, 5, 5, 5, 5, 5, 5, 5, 5, 5, 5, 5, 5, 6, 6, 6, 6, 6, 6, 6, 6, 6, 6, 6, 6, 6, 6, 6, 6, 6, 6, 6, 6, 6, 6, 6, 6, 6, 6, 6, 6, 6, 6, 6, 6, 7, 7, 7, 7, 7, 7, 7, 7, 7, 7, 7, 7, 7, 7, 7, 7, 7, 7, 7, 7, 7, 7, 7, 7, 7, 7, 7, 7, 7, 7, 7, 7, 7, 7, 7, 7, 7, 7, 7, 7, 7, 7, 7, 7, 7, 7, 7, 7, 7, 7, 7, 7, 7, 7, 7, 7, 7, 7, 7, 7, 7, 7, 7, 7, 8, 8, 8, 8, 8, 8, 8, 8, 8, 8, 8, 8, 8, 8, 8, 8, 8, 8, 8, 8, 8, 8, 8, 8, 8, 8, 8, 8, 8, 8, 8, 8, 8, 8, 8, 8, 8, 8, 8, 8, 8, 8, 8, 8, 8, 8, 8, 8, 8, 8, 8, 8, 8, 8, 8, 8, 8, 8, 8, 8, 8, 8, 8, 8, 8, 8, 8, 8, 8, 8, 8, 8, 8, 8, 8, 8, 8, 8, 8, 8, 8, 8, 8, 8, 8, 8, 8, 8, 8, 8, 8, 8, 8, 8, 8, 8, 8, 8, 8, 8, 8, 8, 8, 8, 8, 8, 8, 8, 8, 8, 8, 8, 8, 8, 8, 8, 8, 8, 8, 8, 8, 8, 8, 8, 8, 8, 8, 8]) n7'))))) h))
  (isNat (wrapF .u8 x0) fun n8' =>
  vreq (Nat.blt n8' 256)
  (Q (.int .i64 (wrapF .i64 (0 + (wrapF .i64 (byteI (ByteArray.mk #[0, 1, 2, 2, 3, 3, 3, 3, 4, 4, 4, 4, 4, 4, 4, 4, 5, 5, 5, 5, 5, 5, 5, 5, 5, 5, 5, 5, 5, 5, 5, 5, 6, 6, 6, 6, 6, 6, 6, 6, 6, 6, 6, 6, 6, 6, 6, 6, 6, 6, 6, 6, 6, 6, 6, 6, 6, 6, 6, 6, 6, 6, 6, 6, 7, 7, 7, 7, 7, 7, 7, 7, 7, 7, 7, 7, 7, 7, 7, 7, 7, 7, 7, 7, 7, 7, 7, 7, 7, 7, 7, 7, 7, 7, 7, 7, 7, 7, 7, 7, 7, 7, 7, 7, 7, 7, 7, 7, 7, 7, 7, 7, 7, 7, 7, 7, 7, 7, 7, 7, 7, 7, 7, 7, 7, 7, 7, 7, 8, 8, 8, 8, 8, 8, 8, 8, 8, 8, 8, 8, 8, 8, 8, 8, 8, 8, 8, 8, 8, 8, 8, 8, 8, 8, 8, 8, 8, 8, 8, 8, 8, 8, 8, 8, 8, 8, 8, 8, 8, 8, 8, 8, 8, 8, 8, 8, 8, 8, 8, 8, 8, 8, 8, 8, 8, 8, 8, 8, 8, 8, 8, 8, 8, 8, 8, 8, 8, 8, 8, 8, 8, 8, 8, 8, 8, 8, 8, 8, 8, 8, 8, 8, 8, 8, 8, 8, 8, 8, 8, 8, 8, 8, 8, 8, 8, 8, 8, 8, 8, 8, 8, 8, 8, 8, 8, 8, 8, 8, 8, 8, 8, 8, 8, 8, 8, 8, 8, 8, 8, 8, 8, 8, 8, 8, 8, 8]) n8'))))) h))))
theorem rk136 {O Q} (x0) {h : Hp} (hO : O 136 [(.int .u64 x0)] h = none) (hh : T136 O Q x0 h) : Ret Tryd.prog O 136 [(.int .u64 x0)] h Q :=
  .of (c := b136) Tryd.func136 (by kernel_rfl) hO (V_ok (tb := lv136) (cuts := []) 500 (Eq.mp (by kernel_rfl) hh))
end Go.Proofs.YtfgfhplgnfbaaaaDoor
