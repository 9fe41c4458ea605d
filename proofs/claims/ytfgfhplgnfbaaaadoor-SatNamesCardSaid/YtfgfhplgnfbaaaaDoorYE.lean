/- The plain law of formulas: a model's masks and its values say the same; so do the counts. -/
import Derived.Test.YtfgfhplgnfbaaaaDoorYD
import Derived.Test.YtfgfhplgnfbaaaaDoorProg
import Derived.Test.YtfgfhplgnfbaaaaDoorYC
import Derived.KernelRfl
namespace Go.Proofs.YtfgfhplgnfbaaaaDoor
open Go Go.Ev
theorem add_or : ∀ (n x y : Nat), x < 2 ^ n → x &&& y = 0 → x + y = x ||| y := by
  intro n
  induction n with
  | zero => intro x y hx _; have : x = 0 := by simpa using hx
            subst this; simp
  | succ n ih =>
    intro x y hx h
    have hd := ih (x / 2) (y / 2) (by rw [Nat.pow_succ] at hx; omega) (by rw [← Nat.and_div_two, h])
    have h0 := Nat.testBit_and x y 0
    rw [h, Nat.zero_testBit] at h0
    have t := Nat.testBit_or x y 0
    rw [Nat.testBit_zero, Nat.testBit_zero] at h0
    rw [Nat.testBit_zero, Nat.testBit_zero, Nat.testBit_zero] at t
    have e := Nat.or_div_two (a := x) (b := y)
    have e2 : (x ||| y) % 2 = (x % 2 + y % 2) := by
      rcases Nat.mod_two_eq_zero_or_one x with a | a <;> rcases Nat.mod_two_eq_zero_or_one y with b | b <;> rcases Nat.mod_two_eq_zero_or_one (x ||| y) with c | c <;> rw [a, b] at h0 t <;> rw [c] at t <;> simp at h0 t <;> omega
    omega
theorem testBit_andn (a b i : Nat) : (a - (a &&& b)).testBit i = (a.testBit i && !b.testBit i) := by
  have h : (a ^^^ (a &&& b)) &&& (a &&& b) = 0 := Nat.eq_of_testBit_eq fun i => by
    simp only [Nat.testBit_and, Nat.testBit_xor, Nat.zero_testBit]
    cases a.testBit i <;> cases b.testBit i <;> rfl
  have h2 := add_or _ _ _ (Nat.lt_two_pow_self) h
  have h3 : (a ^^^ (a &&& b)) ||| (a &&& b) = a := Nat.eq_of_testBit_eq fun i => by
    simp only [Nat.testBit_and, Nat.testBit_xor, Nat.testBit_or]
    cases a.testBit i <;> cases b.testBit i <;> rfl
  have h4 : a - (a &&& b) = a ^^^ (a &&& b) := by omega
  rw [h4]
  simp only [Nat.testBit_and, Nat.testBit_xor]
  cases a.testBit i <;> cases b.testBit i <;> rfl
theorem sideF_test : ∀ {L : List Int} {y m : Nat}, (∀ x ∈ L, Lit x) → ∀ i : Nat,
    (sideF L y m).1.testBit i = (y.testBit i || decide (((i + 1 : Nat) : Int) ∈ L)) ∧ (sideF L y m).2.testBit i = (m.testBit i || decide (-((i + 1 : Nat) : Int) ∈ L)) := by
  intro L
  induction L with
  | nil => intro y m _ i; simp [sideF]
  | cons x L ih =>
    intro y m hl i
    obtain ⟨h1, h2⟩ := ih (y := (withN y m x).1) (m := (withN y m x).2) (fun z hz => hl z (List.mem_cons_of_mem _ hz)) i
    obtain ⟨w1, w2⟩ := withN_test (y := y) (m := m) (hl x (List.mem_cons_self ..)) i
    simp only [sideF]
    rw [h1, h2, w1, w2, Bool.or_assoc, Bool.or_assoc]
    refine ⟨?_, ?_⟩ <;> · congr 1; simp only [List.mem_cons]; rw [← Bool.decide_or]; congr 1; refine propext (or_congr ⟨fun e => e.symm, fun e => e.symm⟩ Iff.rfl)
theorem or_zero_iff (y m : Nat) : y ||| m = 0 ↔ ∀ i, y.testBit i = false ∧ m.testBit i = false := by
  constructor
  · intro h i
    have := congrArg (fun z => z.testBit i) h
    simpa [Nat.testBit_or] using this
  · intro h
    refine Nat.eq_of_testBit_eq fun i => ?_
    obtain ⟨a, b⟩ := h i
    rw [Nat.testBit_or, a, b, Nat.zero_testBit]; rfl
theorem sideT_iff {l : List Int} (hl : ∀ x ∈ l, Lit x) (x : Nat) : sideT x (sideN l) = true ↔ ∃ i : Nat, (((i + 1 : Nat) : Int) ∈ l ∧ x.testBit i = true) ∨ (-((i + 1 : Nat) : Int) ∈ l ∧ x.testBit i = false) := by
  unfold sideT
  rw [Bool.not_eq_true', decide_eq_false_iff_not, or_zero_iff]
  have hs := fun i => sideF_test (y := 0) (m := 0) hl i
  simp only [Nat.testBit_and, testBit_andn]
  unfold sideN
  simp only [fun i => (hs i).1, fun i => (hs i).2, Nat.zero_testBit, Bool.false_or]
  rw [Classical.not_forall]
  refine exists_congr fun i => ?_
  cases x.testBit i <;> simp
/-- A sum over the first numbers. -/
def smF (f : Nat → Nat) : Nat → Nat
  | 0 => 0
  | n + 1 => smF f n + f n
theorem sm_congr {f g : Nat → Nat} (h : ∀ j, f j = g j) : ∀ n, smF f n = smF g n := by
  intro n
  have : f = g := funext h
  rw [this]
theorem sm_front (f : Nat → Nat) : ∀ n, smF f (n + 1) = f 0 + smF (fun j => f (j + 1)) n := by
  intro n
  induction n with
  | zero => simp [smF]
  | succ n ih => rw [smF, ih]; simp only [smF]; omega
theorem cntP_sm (ss : List (Nat × Nat)) : ∀ (d k : Nat), cntP ss d k = smF (fun j => if ss.all (sideT (k + j)) = true then 1 else 0) d := by
  intro d
  induction d with
  | zero => intro k; rfl
  | succ d ih =>
    intro k
    rw [sm_front, cntP, ih]
    simp only [Nat.add_zero]
    congr 1
    refine sm_congr (fun j => ?_) d
    rw [show k + 1 + j = k + (j + 1) by omega]
end Go.Proofs.YtfgfhplgnfbaaaaDoor
/- Contracts of functions of layer 20: propagation by masks, to its end; what is given, and asked. -/
namespace Go.Proofs.YtfgfhplgnfbaaaaDoor
open Go Go.Ev
/-- How many variables are open. -/
def freeN (z : Nat) : Nat := ((List.range 30).filter fun i => !z.testBit i).length
theorem freeN_le (z : Nat) : freeN z ≤ 30 := Nat.le_trans (List.length_filter_le _ _) (by simp)
theorem filter_lt {α : Type} {p q : α → Bool} {a : α} : ∀ {l : List α}, a ∈ l → p a = true → q a = false → (∀ x, q x = true → p x = true) → (l.filter q).length < (l.filter p).length := by
  intro l
  induction l with
  | nil => intro h; cases h
  | cons x l ih =>
    intro h hp hq hi
    have hle : (l.filter q).length ≤ (l.filter p).length := by
      clear ih h
      induction l with
      | nil => exact Nat.le_refl _
      | cons y l ih =>
        rw [List.filter_cons, List.filter_cons]
        cases hy : q y with
        | true => rw [hi y hy]; simpa using ih
        | false => cases p y <;> simp <;> omega
    rw [List.filter_cons, List.filter_cons]
    rcases List.mem_cons.1 h with rfl | h
    · rw [hp, hq]; simp; omega
    · have := ih h hp hq hi
      cases hy : q x with
      | true => rw [hi x hy]; simpa using this
      | false => cases p x <;> simp <;> omega
theorem freeN_lt {z i : Nat} (hi : i < 30) (h : z.testBit i = false) : freeN (z ||| 2 ^ i) < freeN z := by
  refine filter_lt (a := i) (List.mem_range.2 hi) (by rw [h]; rfl) (by rw [Nat.testBit_or, Nat.testBit_two_pow]; simp) fun x hx => ?_
  rw [Nat.testBit_or] at hx
  cases hz : z.testBit x with
  | true => rw [hz] at hx; simp at hx
  | false => rfl
theorem stepS_unit {y m : Nat} {p : Nat × Nat} (hy : y < 2 ^ 30) (hm : m < 2 ^ 30) : ∀ {ss : List (Nat × Nat)}, (∀ c ∈ ss, c.1 < 2 ^ 30 ∧ c.2 < 2 ^ 30) → stepS y m ss = some (some p) →
    ∃ c ∈ ss, (c.1 &&& y) ||| (c.2 &&& m) = 0 ∧ p = (y ||| (c.1 - (c.1 &&& m)), m ||| (c.2 - (c.2 &&& y))) ∧ ∃ i, i < 30 ∧ (c.1 - (c.1 &&& m)) ||| (c.2 - (c.2 &&& y)) = 2 ^ i := by
  intro ss
  induction ss with
  | nil => intro _ h; cases h
  | cons c ss ih =>
    intro hs h
    have hc := hs c (List.mem_cons_self ..)
    simp only [stepS] at h
    have next : stepS y m ss = some (some p) → ∃ c' ∈ c :: ss, (c'.1 &&& y) ||| (c'.2 &&& m) = 0 ∧ p = (y ||| (c'.1 - (c'.1 &&& m)), m ||| (c'.2 - (c'.2 &&& y))) ∧ ∃ i, i < 30 ∧ (c'.1 - (c'.1 &&& m)) ||| (c'.2 - (c'.2 &&& y)) = 2 ^ i := fun h => by
      obtain ⟨c', a, b⟩ := ih (fun c hc => hs c (List.mem_cons_of_mem _ hc)) h
      exact ⟨c', List.mem_cons_of_mem _ a, b⟩
    split at h
    · rename_i h0
      split at h
      · cases h
      · split at h
        · rename_i h1
          have hz : (c.1 - (c.1 &&& m)) ||| (c.2 - (c.2 &&& y)) < 2 ^ 30 := Nat.or_lt_two_pow (Nat.lt_of_le_of_lt (Nat.sub_le _ _) hc.1) (Nat.lt_of_le_of_lt (Nat.sub_le _ _) hc.2)
          obtain ⟨i, hi, e⟩ := (popN_one (Nat.lt_of_lt_of_le hz (by decide))).1 h1
          refine ⟨c, List.mem_cons_self .., h0, by injection h with h; injection h with h; exact h.symm, i, ?_, e⟩
          rw [e] at hz
          exact (Nat.pow_lt_pow_iff_right (by decide)).1 hz
        · exact next h
    · exact next h
theorem stepS_free {y m : Nat} {p : Nat × Nat} (hy : y < 2 ^ 30) (hm : m < 2 ^ 30) {ss : List (Nat × Nat)} (hs : ∀ c ∈ ss, c.1 < 2 ^ 30 ∧ c.2 < 2 ^ 30) (h : stepS y m ss = some (some p)) : freeN (p.1 ||| p.2) < freeN (y ||| m) ∧ p.1 < 2 ^ 30 ∧ p.2 < 2 ^ 30 := by
  obtain ⟨c, hc, h0, rfl, i, hi, e⟩ := stepS_unit hy hm hs h
  have hc := hs c hc
  refine ⟨?_, Nat.or_lt_two_pow hy (Nat.lt_of_le_of_lt (Nat.sub_le _ _) hc.1), Nat.or_lt_two_pow hm (Nat.lt_of_le_of_lt (Nat.sub_le _ _) hc.2)⟩
  have e2 : (y ||| (c.1 - (c.1 &&& m))) ||| (m ||| (c.2 - (c.2 &&& y))) = (y ||| m) ||| 2 ^ i := by
    rw [← e]
    refine Nat.eq_of_testBit_eq fun j => ?_
    simp only [Nat.testBit_or]
    cases y.testBit j <;> cases m.testBit j <;> cases (c.1 - (c.1 &&& m)).testBit j <;> rfl
  rw [e2]
  refine freeN_lt hi ?_
  have hb := congrArg (fun z => z.testBit i) e
  have hz := (or_zero_iff _ _).1 h0 i
  simp only [Nat.testBit_or, testBit_andn, Nat.testBit_two_pow_self] at hb
  simp only [Nat.testBit_and] at hz
  rw [Nat.testBit_or]
  cases h1 : y.testBit i <;> cases h2 : m.testBit i <;> cases h3 : c.1.testBit i <;> cases h4 : c.2.testBit i <;> simp_all
section
variable {O : CallF} (hO : Oth O)
include hO
theorem lp119_0 {b : Nat} {x1 x2 : Int} {h₀ : Hp} (ok : h₀.Ok) {vars left : Int} {a a1 a2 : Option Addr} {n c n1 c1 n2 c2 : Nat} (hb : h₀.get b = some (.cells (baseC vars a n c a1 n1 c1 left a2 n2 c2) 128 .fix)) (hbn : b < h₀.nx) {ss : List (Nat × Nat)} (H : SidesAt2 h₀ a n ss) (hl : ss.length < 1000000) (hss : ∀ p ∈ ss, p.1 < 2 ^ 30 ∧ p.2 < 2 ^ 30) {b3 b4 : Nat} (hb3 : h₀.nx ≤ b3) (hb4 : h₀.nx ≤ b4) (h34 : b3 ≠ b4) {r : (Nat × Nat) × Bool} :
    ∀ (d : Nat) {y m : Nat}, y < 2 ^ 30 → m < 2 ^ 30 → freeN (y ||| m) < d → r = spreadF ss d y m → ∀ {h : Hp}, InvS h₀ b3 b4 y m h →
      I119_0 O (fun v h' => v = .tuple #[.agg #[U r.1.1, U r.1.2], .bool r.2] ∧ Kp h₀.nx h₀ h') b 0 x1 x2 b3 0 b4 0 false h := by
  intro d
  induction d with
  | zero => intro y m _ _ h; omega
  | succ d ih =>
    intro y m hy hm hd hr h I
    refine I119_0.of _ _ _ _ _ _ _ _ _ ?_
    intros
    unfold T119_0
    refine ⟨_, _, _, read1 (by rw [I.kp.get _ hbn]; exact hb) (i := 0 + 1) rfl, ?_⟩
    simp only [spreadF] at hr
    refine lp119_1 hO ok H hl hss hb3 hb4 h34 hy hm (fun h0 => by rw [h0] at hr; exact hr) (fun h1 => by rw [h1] at hr; exact hr) (fun p h2 h' I' => ?_) ss.length 0 (by omega) rfl I ..
    rw [h2] at hr
    obtain ⟨f1, f2, f3⟩ := stepS_free hy hm hss h2
    exact ih f2 f3 (by omega) hr I'
theorem ct119 {b : Nat} {h : Hp} (ok : h.Ok) {vars left : Int} {a a1 a2 : Option Addr} {n c n1 c1 n2 c2 : Nat} (hb : h.get b = some (.cells (baseC vars a n c a1 n1 c1 left a2 n2 c2) 128 .fix)) (hbn : b < h.nx) {ss : List (Nat × Nat)} (H : SidesAt2 h a n ss) (hl : ss.length < 1000000) (hss : ∀ p ∈ ss, p.1 < 2 ^ 30 ∧ p.2 < 2 ^ 30) {y m : Nat} (hy : y < 2 ^ 30) (hm : m < 2 ^ 30) :
    Ret Tryd.prog O 119 [.pointer (some ⟨b, 0, none⟩), .agg #[U y, U m]] h fun v h' => v = .tuple #[.agg #[U (spreadF ss 31 y m).1.1, U (spreadF ss 31 y m).1.2], .bool (spreadF ss 31 y m).2] ∧ Kp h.nx h h' := by
  refine rk119 _ _ _ _ (hO _ _ _ (by decide)) ?_
  unfold T119
  have hf := freeN_le (y ||| m)
  refine lp119_0 hO ok hb hbn H hl hss (Nat.le_refl _) (show h.nx ≤ h.nx + 1 by omega) (show h.nx ≠ h.nx + 1 by omega) 31 hy hm (by omega) rfl ⟨((Kp.refl _ h).add (Nat.le_refl _) _).add (by rw [nx_add]; omega) _, show h.nx < h.nx + 1 + 1 by omega, show h.nx + 1 < h.nx + 1 + 1 by omega, ?_, get_add_same ..⟩ ..
  rw [get_add_ne (by rw [nx_add]; omega), get_add_same]
/-- Literals are made true, one after the other; false: one was false. -/
def layN : List Int → Nat → Nat → (Nat × Nat) × Bool
  | [], y, m => ((y, m), true)
  | x :: xs, y, m => if (withN y m x).1 &&& (withN y m x).2 = 0 then layN xs (withN y m x).1 (withN y m x).2 else (withN y m x, false)
/-- Propagation from truths and literals. -/
def fromR (ss : List (Nat × Nat)) (xs : List Int) (y m : Nat) : (Nat × Nat) × Bool := if (layN xs y m).2 = true then spreadF ss 31 (layN xs y m).1.1 (layN xs y m).1.2 else layN xs y m
def fromN (ss : List (Nat × Nat)) (xs : List Int) : (Nat × Nat) × Bool := fromR ss xs 0 0
omit hO in
theorem fromR_cons (ss : List (Nat × Nat)) (x : Int) (xs : List Int) (y m : Nat) : fromR ss (x :: xs) y m = if (withN y m x).1 &&& (withN y m x).2 = 0 then fromR ss xs (withN y m x).1 (withN y m x).2 else (withN y m x, false) := by
  unfold fromR
  simp only [layN]
  split
  · rfl
  · rfl
/-- The inner loop: a list's literals are made true. -/
theorem lp89_1 {b : Nat} {a1 : Option Addr} {n1 c1 : Nat} {h₀ : Hp} (ok : h₀.Ok) {b4 b6 b18 : Nat} (hb4 : h₀.nx ≤ b4) (hb6 : h₀.nx ≤ b6) (hb18 : h₀.nx ≤ b18) (h46 : b4 ≠ b6) (h418 : b4 ≠ b18) (h618 : b6 ≠ b18) {cells : List Value} {x20 : Int} {ss : List (Nat × Nat)} {xs rest : List Int} (hl : xs.length < 1000000) (hx : ∀ x ∈ xs, Lit x) {r : (Nat × Nat) × Bool} {a : Option Addr} {n c : Nat} (X : IntsAt h₀ a n xs)
    (next : ∀ y m h, y < 2 ^ 30 → m < 2 ^ 30 → InvS h₀ b6 b4 y m h → b18 < h.nx → h.get b18 = some (.cells cells 32 .fix) → r = fromR ss rest y m → I89_0 O (fun v h' => v = .tuple #[.agg #[U r.1.1, U r.1.2], .bool r.2] ∧ Kp h₀.nx h₀ h') b 0 a1 n1 c1 b4 0 false b6 0 (some ⟨b18, 0, none⟩) 2 2 (wrapF .i64 (x20 + 1)) h) :
    ∀ (d k : Nat), k + d = xs.length → ∀ {y m : Nat} {h : Hp}, y < 2 ^ 30 → m < 2 ^ 30 → InvS h₀ b6 b4 y m h → b18 < h.nx → h.get b18 = some (.cells cells 32 .fix) → r = fromR ss (xs.drop k ++ rest) y m →
      I89_1 O (fun v h' => v = .tuple #[.agg #[U r.1.1, U r.1.2], .bool r.2] ∧ Kp h₀.nx h₀ h') b 0 a1 n1 c1 b4 0 false b6 0 (some ⟨b18, 0, none⟩) 2 2 x20 a n c (Int.ofNat n) (Int.ofNat k) h := by
  have hn := X.1
  intro d
  induction d with
  | zero =>
    intro k hk y m h hy hm I l18 g18 hr
    refine I89_1.of _ _ _ _ _ _ _ _ _ _ _ _ _ _ _ _ _ _ _ ?_
    intros
    unfold T89_1
    rw [List.drop_of_length_le (by omega), List.nil_append] at hr
    exact vcond_f (by rw [ltI_nat]; exact blt_f (by omega)) (next y m h hy hm I l18 g18 hr ..)
  | succ d ih =>
    intro k hk y m h hy hm I l18 g18 hr
    refine I89_1.of _ _ _ _ _ _ _ _ _ _ _ _ _ _ _ _ _ _ _ ?_
    intros
    unfold T89_1
    have X1 : IntsAt h a n xs := X.up EInt.up I.kp
    have e1 : xs.drop k = xs[k] :: xs.drop (k + 1) := List.drop_eq_getElem_cons (by omega)
    have hxk := hx xs[k] (List.getElem_mem _)
    rw [e1, List.cons_append, fromR_cons] at hr
    refine vcond_t (by rw [ltI_nat]; exact blt_t (by omega)) (isNat_of (X1.get (k := k) (by omega) fun b' off h1 h2 hrd => vreq_t (blt_t (by omega)) ⟨_, hrd, ?_⟩))
    obtain ⟨w1, w2⟩ := withN_lt hxk hy hm
    obtain ⟨v, h5, e5, rfl, K5⟩ := ct104 hO hxk hy hm (ok.kp I.kp)
    have I5 := I.of K5
    have ok5 := ok.kp I5.kp
    have gn : (h5.add (.cells [(.int .u32 0), (.int .u32 0)] 102 .fix)).get h5.nx = _ := get_add_same ..
    have gu : (h5.add (.cells [(.int .u32 0), (.int .u32 0)] 102 .fix)).guarded h5.nx = false := guarded_of fun q hq => by have := ok5.gd q hq; omega
    refine ⟨_, _, readAt_get I.g3 (by simp), _, _, _, _, e5, vreq_t (canW_t gn (by decide) gu (by simp) rfl) ?_⟩
    have gw : ((h5.add (.cells [(.int .u32 0), (.int .u32 0)] 102 .fix)).wr h5.nx 0 [U (withN y m xs[k]).1, U (withN y m xs[k]).2]).get h5.nx = some (.cells [U (withN y m xs[k]).1, U (withN y m xs[k]).2] 102 .fix) := wr_get gn (by decide) gu (by simp) rfl
    have kw : Kp h5.nx h5 ((h5.add (.cells [(.int .u32 0), (.int .u32 0)] 102 .fix)).wr h5.nx 0 [U (withN y m xs[k]).1, U (withN y m xs[k]).2]) := ((Kp.refl _ h5).add (Nat.le_refl _) _).wr (Nat.le_refl _) _ _
    have kk := K5.trans (kw.le K5.nx)
    generalize (h5.add (.cells [(.int .u32 0), (.int .u32 0)] 102 .fix)).wr h5.nx 0 [U (withN y m xs[k]).1, U (withN y m xs[k]).2] = hw at gw kw kk ⊢
    have Iw := I.of kk
    have g18w : hw.get b18 = some (.cells cells 32 .fix) := by rw [kk.get _ l18]; exact g18
    have l18w : b18 < hw.nx := Nat.lt_of_lt_of_le l18 kk.nx
    have gfree : ∀ o, h₀.nx ≤ o → hw.guarded o = false := fun o ho => guarded_of fun q hq => by
      rw [Iw.kp.gd] at hq
      have := ok.gd q hq; omega
    refine vcond_split (fun h3 => ?_) fun h3 => ?_
    · have h3 : ¬ ((withN y m xs[k]).1 &&& (withN y m xs[k]).2 = 0) := by simpa using h3
      rw [if_neg h3] at hr
      subst hr
      refine ⟨_, _, readAt_get gw (by simp), vreq_t (canW_t Iw.g4 (by decide) (gfree _ hb4) (by simp) rfl) ⟨_, _, readAt_get (wr_get Iw.g4 (by decide) (gfree _ hb4) (by simp) rfl) (by simp [putAt]), ?_, Iw.kp.wr hb4 _ _⟩⟩
      rfl
    · have h3 : (withN y m xs[k]).1 &&& (withN y m xs[k]).2 = 0 := by simpa using h3
      rw [if_pos h3] at hr
      refine ⟨_, _, readAt_get gw (by simp), vreq_t (canW_t Iw.g3 (by decide) (gfree _ hb6) (by simp) rfl) ?_⟩
      rw [wrap_succ (by omega)]
      have w3 := wr_get Iw.g3 (by decide) (gfree _ hb6) (off := 0) (vs := [U (withN y m xs[k]).1, U (withN y m xs[k]).2]) (by simp) rfl
      exact ih (k + 1) (by omega) w1 w2 ⟨Iw.kp.wr hb6 _ _, by rw [nx_wr]; exact Iw.l3, by rw [nx_wr]; exact Iw.l4, w3, by rw [wr_get_ne _ _ _ _ h46]; exact Iw.g4⟩ (by rw [nx_wr]; exact l18w) (by rw [wr_get_ne _ _ _ _ (Ne.symm h618)]; exact g18w) hr ..
theorem ct89 {b : Nat} {h : Hp} (ok : h.Ok) {vars left : Int} {a a1 a2 : Option Addr} {n c n1 c1 n2 c2 : Nat} (hb : h.get b = some (.cells (baseC vars a n c a1 n1 c1 left a2 n2 c2) 128 .fix)) (hbn : b < h.nx) {ss : List (Nat × Nat)} (H : SidesAt2 h a n ss) (hl : ss.length < 1000000) (hss : ∀ p ∈ ss, p.1 < 2 ^ 30 ∧ p.2 < 2 ^ 30)
    {gs xs : List Int} (G : IntsAt h a1 n1 gs) (hgl : gs.length < 1000000) (hg : ∀ x ∈ gs, Lit x) {am : Option Addr} {nm cm : Nat} (X : IntsAt h am nm xs) (hxl : xs.length < 1000000) (hx : ∀ x ∈ xs, Lit x) :
    Ret Tryd.prog O 89 [.pointer (some ⟨b, 0, none⟩), .slice am nm cm] h fun v h' => v = .tuple #[.agg #[U (fromN ss (gs ++ xs)).1.1, U (fromN ss (gs ++ xs)).1.2], .bool (fromN ss (gs ++ xs)).2] ∧ Kp h.nx h h' := by
  refine rk89 _ _ _ _ _ (hO _ _ _ (by decide)) ?_
  unfold T89
  have k2 : Kp h.nx h ((h.add (.cells [(.int .u32 0), (.int .u32 0)] 102 .fix)).add (.cells [(.int .u32 0), (.int .u32 0)] 102 .fix)) := ((Kp.refl _ h).add (Nat.le_refl _) _).add (by rw [nx_add]; omega) _
  refine ⟨_, _, _, read1 (by rw [k2.get _ hbn]; exact hb) (i := 0 + 2) rfl, ?_⟩
  -- the end
  have fin : ∀ y m h', y < 2 ^ 30 → m < 2 ^ 30 → InvS h (h.nx + 1) h.nx y m h' → fromN ss (gs ++ xs) = fromR ss [] y m → I89_0 O (fun v h' => v = .tuple #[.agg #[U (fromN ss (gs ++ xs)).1.1, U (fromN ss (gs ++ xs)).1.2], .bool (fromN ss (gs ++ xs)).2] ∧ Kp h.nx h h') b 0 am nm cm h.nx 0 false (h.nx + 1) 0 (some ⟨h.nx + 2, 0, none⟩) 2 2 2 h' := by
    intro y m h' hy hm I hr
    refine I89_0.of _ _ _ _ _ _ _ _ _ _ _ _ _ _ ?_
    intros
    unfold T89_0
    have hr : fromN ss (gs ++ xs) = spreadF ss 31 y m := hr
    obtain ⟨v, h5, e5, rfl, K5⟩ := ct119 hO (ok.kp I.kp) (show h'.get b = _ by rw [I.kp.get _ hbn]; exact hb) (Nat.lt_of_lt_of_le hbn I.kp.nx) (H.up (ECells.up uu) I.kp) hl hss hy hm
    have I5 := I.of K5
    have gu : h5.guarded h.nx = false := guarded_of fun q hq => by
      rw [I5.kp.gd] at hq
      have := ok.gd q hq; omega
    refine vcond_f rfl ⟨_, _, readAt_get I.g3 (by simp), _, _, _, _, e5, vreq_t (canW_t I5.g4 (by decide) gu (by simp) rfl) ⟨_, _, readAt_get (wr_get I5.g4 (by decide) gu (by simp) rfl) (by simp [putAt]), ?_, I5.kp.wr (Nat.le_refl _) _ _⟩⟩
    rw [hr]
  -- what is asked
  have more : ∀ y m h', y < 2 ^ 30 → m < 2 ^ 30 → InvS h (h.nx + 1) h.nx y m h' → h.nx + 2 < h'.nx → h'.get (h.nx + 2) = some (.cells [.slice a1 n1 c1, .slice am nm cm] 32 .fix) → fromN ss (gs ++ xs) = fromR ss xs y m → I89_0 O (fun v h' => v = .tuple #[.agg #[U (fromN ss (gs ++ xs)).1.1, U (fromN ss (gs ++ xs)).1.2], .bool (fromN ss (gs ++ xs)).2] ∧ Kp h.nx h h') b 0 am nm cm h.nx 0 false (h.nx + 1) 0 (some ⟨h.nx + 2, 0, none⟩) 2 2 1 h' := by
    intro y m h' hy hm I l18 g18 hr
    refine I89_0.of _ _ _ _ _ _ _ _ _ _ _ _ _ _ ?_
    intros
    unfold T89_0
    refine vcond_t rfl (isNat_of (n := 1) (show vreq (Nat.blt 1 2) _ from vreq_t rfl ⟨_, _, _, read1 g18 (i := 0 + 1 * 1) rfl, ?_⟩))
    exact lp89_1 hO ok (Nat.le_refl _) (by omega) (by omega) (by omega) (by omega) (by omega) (rest := []) hxl hx X (fun y m h' hy hm I _ _ hr => fin y m h' hy hm I hr) xs.length 0 (by omega) hy hm I l18 g18 (by rw [List.drop_zero, List.append_nil]; exact hr) ..
  have I0 : InvS h (h.nx + 1) h.nx 0 0 (((h.add (.cells [(.int .u32 0), (.int .u32 0)] 102 .fix)).add (.cells [(.int .u32 0), (.int .u32 0)] 102 .fix)).add (.cells [.slice a1 n1 c1, .slice am nm cm] 32 .fix)) :=
    ⟨k2.add k2.nx _, show h.nx + 1 < h.nx + 1 + 1 + 1 by omega, show h.nx < h.nx + 1 + 1 + 1 by omega, by rw [get_add_ne (show h.nx + 1 ≠ h.nx + 1 + 1 by omega)]; exact get_add_same .., by rw [get_add_ne (show h.nx ≠ h.nx + 1 + 1 by omega), get_add_ne (show h.nx ≠ h.nx + 1 by omega)]; exact get_add_same ..⟩
  have g18 : (((h.add (.cells [(.int .u32 0), (.int .u32 0)] 102 .fix)).add (.cells [(.int .u32 0), (.int .u32 0)] 102 .fix)).add (.cells [.slice a1 n1 c1, .slice am nm cm] 32 .fix)).get (h.nx + 2) = some (.cells [.slice a1 n1 c1, .slice am nm cm] 32 .fix) := get_add_same ..
  refine I89_0.of _ _ _ _ _ _ _ _ _ _ _ _ _ _ ?_ ..
  intros
  unfold T89_0
  refine vcond_t rfl (isNat_of (n := 0) (show vreq (Nat.blt 0 2) _ from vreq_t rfl ⟨_, _, _, read1 g18 (i := 0 + 0 * 1) rfl, ?_⟩))
  exact lp89_1 hO ok (Nat.le_refl _) (by omega) (by omega) (by omega) (by omega) (by omega) (rest := xs) hgl hg G (fun y m h' hy hm I l g hr => more y m h' hy hm I l g hr) gs.length 0 (by omega) (y := 0) (m := 0) (by decide) (by decide) I0 (show h.nx + 2 < h.nx + 1 + 1 + 1 by omega) g18 rfl ..
/-- Does propagation clash? -/
theorem ct95 {b : Nat} {h : Hp} (ok : h.Ok) {vars left : Int} {a a1 a2 : Option Addr} {n c n1 c1 n2 c2 : Nat} (hb : h.get b = some (.cells (baseC vars a n c a1 n1 c1 left a2 n2 c2) 128 .fix)) (hbn : b < h.nx) {ss : List (Nat × Nat)} (H : SidesAt2 h a n ss) (hl : ss.length < 1000000) (hss : ∀ p ∈ ss, p.1 < 2 ^ 30 ∧ p.2 < 2 ^ 30)
    {gs xs : List Int} (G : IntsAt h a1 n1 gs) (hgl : gs.length < 1000000) (hg : ∀ x ∈ gs, Lit x) {am : Option Addr} {nm cm : Nat} (X : IntsAt h am nm xs) (hxl : xs.length < 1000000) (hx : ∀ x ∈ xs, Lit x) :
    Ret Tryd.prog O 95 [.pointer (some ⟨b, 0, none⟩), .slice am nm cm] h fun v h' => v = .bool (!(fromN ss (gs ++ xs)).2) ∧ Kp h.nx h h' := by
  refine rk95 _ _ _ _ _ (hO _ _ _ (by decide)) ?_
  unfold T95
  obtain ⟨v, h5, e5, rfl, K5⟩ := ct89 hO ok hb hbn H hl hss G hgl hg X hxl hx (cm := cm)
  have ok5 := ok.kp K5
  have gn : (h5.add (.cells [(.int .u32 0), (.int .u32 0)] 102 .fix)).get h5.nx = _ := get_add_same ..
  have gu : (h5.add (.cells [(.int .u32 0), (.int .u32 0)] 102 .fix)).guarded h5.nx = false := guarded_of fun q hq => by have := ok5.gd q hq; omega
  exact ⟨_, _, _, _, e5, vreq_t (canW_t gn (by decide) gu (by simp) rfl) ⟨rfl, (K5.add K5.nx _).wr K5.nx _ _⟩⟩
/-- Are a formula, and literals, as they should be? -/
def askB (vars : Int) (cls : List (List Int)) (gs : List Int) : Bool := formB vars cls && clB vars 0 gs
theorem ct78 {a a1 : Option Addr} {n c n1 c1 : Nat} {vars : Int} {h : Hp} {cls : List (List Int)} {gs : List Int} (H : IntssAt h a n cls) (hl : cls.length < 1000000) (hll : ∀ l ∈ cls, l.length < 1000000) (G : IntsAt h a1 n1 gs) (hgl : gs.length < 1000000) :
    Ret Tryd.prog O 78 [Fm vars a n c, .slice a1 n1 c1] h fun v h' => v = .int .i64 (if askB vars cls gs = true then 0 else 2) ∧ Kp h.nx h h' := by
  refine rk78 _ _ _ _ _ _ _ (hO _ _ _ (by decide)) ?_
  unfold T78
  have kp := fm_kp h vars a n c
  have g := fm_get h vars a n c
  obtain ⟨v1, h1, e1, rfl, K1⟩ := ct31 hO (c := c) (vars := vars) (H.up EInts.up kp) hl hll
  have k1 : Kp h.nx h h1 := kp.trans (K1.le kp.nx)
  have g1 : h1.get h.nx = some (.cells [.int .i64 vars, .slice a n c] 30 .fix) := by rw [K1.get _ (by rw [nx_add]; omega)]; exact g
  refine ⟨_, _, _, _, readAt_get g (by simp), _, _, e1, vcond_split (fun h2 => ?_) fun h2 => ?_⟩
  · have hf : formB vars cls = true := by
      cases hf : formB vars cls with
      | true => rfl
      | false => rw [hf] at h2; exact absurd (eq_of_t h2) (by decide)
    refine ⟨_, read1 g1 rfl, _, _, ct87 hO vars (G.up EInt.up k1) hgl (c := c1), vcond_split (fun h3 => ?_) fun h3 => ?_⟩
    · have h3 : clB vars 0 gs = false := by simpa using h3
      unfold askB; rw [hf, h3]; exact ⟨rfl, k1⟩
    · have h3 : clB vars 0 gs = true := by simpa using h3
      unfold askB; rw [hf, h3]; exact ⟨rfl, k1⟩
  · have hf : formB vars cls = false := by
      cases hf : formB vars cls with
      | false => rfl
      | true => rw [hf] at h2; exact absurd (eqI_t rfl) (by rw [if_pos rfl] at h2; rw [h2]; decide)
    unfold askB; rw [hf]; exact ⟨rfl, k1⟩
end
end Go.Proofs.YtfgfhplgnfbaaaaDoor
/- Contracts of functions of layer 20's reference: truths, laid and propagated. -/
namespace Go.Proofs.YtfgfhplgnfbaaaaDoor
open Go Go.Ev
/-- Truths in a row of their own. -/
def TsAt (h : Hp) (b : Nat) (ts : List Int) : Prop := b < h.nx ∧ h.get b = some (.cells (ts.map (Value.int .i64)) 3 .fix)
theorem TsAt.ints {h : Hp} {b : Nat} {ts : List Int} (T : TsAt h b ts) : IntsAt h (some ⟨b, 0, none⟩) ts.length ts :=
  ⟨rfl, .inr ⟨b, 0, _, _, _, rfl, T.1, T.2, by simp, fun i hi => by
    show ((ts.map (Value.int .i64)).drop (0 + i * 1)).take 1 = [.int .i64 ts[i]]
    rw [Nat.zero_add, Nat.mul_one, List.drop_eq_getElem_cons (by simpa using hi)]
    simp only [List.getElem_map, List.take_succ_cons, List.take_zero]⟩⟩
def TV (ts : List Int) : Prop := ∀ t ∈ ts, -1 ≤ t ∧ t ≤ 1
/-- A literal is made true; false: it was false. -/
def layR (ts : List Int) (x : Int) : List Int × Bool := if tvR ts x < 0 then (ts, false) else (ts.set x.natAbs (if x < 0 then -1 else 1), true)
theorem TV.lay {ts : List Int} (h : TV ts) (x : Int) : TV (layR ts x).1 := by
  unfold layR
  split
  · exact h
  · intro t ht
    rcases List.mem_or_eq_of_mem_set ht with ht | rfl
    · exact h t ht
    · split <;> omega
theorem putAt_set {ts : List Int} {k : Nat} {z : Int} (hk : k < ts.length) : putAt (ts.map (Value.int .i64)) k [.int .i64 z] = (ts.set k z).map (Value.int .i64) := by
  refine List.ext_getElem? fun i => ?_
  rw [putAt_get _ _ _ (by simp; omega)]
  simp only [List.getElem?_map, List.getElem?_set, List.length_singleton]
  by_cases h1 : k ≤ i ∧ i < k + 1
  · obtain rfl : i = k := by omega
    rw [if_pos h1, if_pos rfl, if_pos hk, Nat.sub_self]; rfl
  · rw [if_neg h1, if_neg (by omega)]
theorem readAt_kp {hb h : Hp} (K : Kp hb.nx hb h) {b : Nat} (hbb : b < hb.nx) (off n : Nat) : readAt h b off n = readAt hb b off n := by
  unfold readAt
  rw [K.get b hbb]
end Go.Proofs.YtfgfhplgnfbaaaaDoor
/- Contracts of functions of layer 20's reference: propagation to its end. -/
namespace Go.Proofs.YtfgfhplgnfbaaaaDoor
open Go Go.Ev
end Go.Proofs.YtfgfhplgnfbaaaaDoor
/- The plain law of propagation: both ways to propagate end with the same literals, or both clash. -/
namespace Go.Proofs.YtfgfhplgnfbaaaaDoor
open Go Go.Ev
/-- What follows by unit clauses. -/
inductive Der (cls : List (List Int)) (xs : List Int) : Int → Prop
  | base {x : Int} : x ∈ xs → Der cls xs x
  | unit {l : List Int} {x : Int} : l ∈ cls → x ∈ l → (∀ y ∈ l, y ≠ x → Der cls xs (-y)) → Der cls xs x
def Cl (cls : List (List Int)) (xs : List Int) : Prop := (∃ x, Der cls xs x ∧ Der cls xs (-x)) ∨ ∃ l ∈ cls, ∀ y ∈ l, Der cls xs (-y)
structure Calm (cls : List (List Int)) (xs : List Int) (T : Int → Prop) : Prop where
  con : ∀ x, T x → T (-x) → False
  beg : ∀ x ∈ xs, T x
  cl : ∀ l ∈ cls, (∃ x ∈ l, T x) ∨ ∃ x ∈ l, ∃ z ∈ l, x ≠ z ∧ ¬ T x ∧ ¬ T (-x) ∧ ¬ T z ∧ ¬ T (-z)
theorem Calm.all {cls : List (List Int)} {xs : List Int} {T : Int → Prop} (C : Calm cls xs T) {x : Int} (h : Der cls xs x) : T x := by
  induction h with
  | base h => exact C.beg _ h
  | @unit l x hl hx _ ih =>
    rcases C.cl l hl with ⟨z, hz, hT⟩ | ⟨z, hz, w, hw, hne, h1, h2, h3, h4⟩
    · by_cases e : z = x
      · rw [← e]; exact hT
      · exact (C.con z hT (ih z hz e)).elim
    · by_cases e : z = x
      · have : w ≠ x := fun hh => hne (e.trans hh.symm)
        exact (h4 (ih w hw this)).elim
      · exact (h2 (ih z hz e)).elim
theorem Calm.not {cls : List (List Int)} {xs : List Int} {T : Int → Prop} (C : Calm cls xs T) : ¬ Cl cls xs := by
  rintro (⟨x, h1, h2⟩ | ⟨l, hl, h⟩)
  · exact C.con x (C.all h1) (C.all h2)
  · rcases C.cl l hl with ⟨z, hz, hT⟩ | ⟨z, hz, w, hw, hne, h1, h2, h3, h4⟩
    · exact C.con z hT (C.all (h z hz))
    · exact h2 (C.all (h z hz))
/-- A clause's variables differ. -/
def Dif (l : List Int) : Prop := l.Pairwise fun x z => x.natAbs < z.natAbs
theorem clB_dif {vars : Int} : ∀ {l : List Int} {last : Int}, 0 ≤ last → clB vars last l = true → Dif l := by
  intro l
  induction l with
  | nil => intro _ _ _; exact List.Pairwise.nil
  | cons x l ih =>
    intro last h0 h
    have hx := (clB_lit h0 h x (List.mem_cons_self ..)).1
    simp only [clB] at h
    split at h
    · cases h
    · have h1 : 0 ≤ varI x := by rw [varI_lit2 hx]; omega
      refine List.pairwise_cons.2 ⟨fun z hz => ?_, ih h1 h⟩
      have := clB_gt h z hz
      rw [varI_lit2 hx, varI_lit2 (clB_lit h1 h z hz).1] at this
      omega
theorem Dif.eq {l : List Int} (h : Dif l) {x z : Int} (hx : x ∈ l) (hz : z ∈ l) (e : x.natAbs = z.natAbs) : x = z := by
  induction l with
  | nil => cases hx
  | cons w l ih =>
    have hp := List.pairwise_cons.1 h
    rcases List.mem_cons.1 hx with e1 | hx1 <;> rcases List.mem_cons.1 hz with e2 | hz1
    · rw [e1, e2]
    · have := hp.1 z hz1; rw [← e1] at this; omega
    · have := hp.1 x hx1; rw [← e2] at this; omega
    · exact ih hp.2 hx1 hz1
/-! ### by masks -/
def trM (y m : Nat) (x : Int) : Prop := (0 < x ∧ y.testBit (x.natAbs - 1) = true) ∨ (x < 0 ∧ m.testBit (x.natAbs - 1) = true)
theorem trM_neg {y m : Nat} {x : Int} : trM y m (-x) ↔ (x < 0 ∧ y.testBit (x.natAbs - 1) = true) ∨ (0 < x ∧ m.testBit (x.natAbs - 1) = true) := by
  unfold trM
  rw [Int.natAbs_neg]
  constructor
  · rintro (⟨a, b⟩ | ⟨a, b⟩)
    · exact .inl ⟨by omega, b⟩
    · exact .inr ⟨by omega, b⟩
  · rintro (⟨a, b⟩ | ⟨a, b⟩)
    · exact .inl ⟨by omega, b⟩
    · exact .inr ⟨by omega, b⟩
theorem trM_with {y m : Nat} {x z : Int} (hx : Lit x) : trM (withN y m x).1 (withN y m x).2 z ↔ trM y m z ∨ z = x := by
  have hw := withN_test (y := y) (m := m) hx (z.natAbs - 1)
  unfold trM
  rw [hw.1, hw.2]
  simp only [Bool.or_eq_true, decide_eq_true_eq]
  have := hx.1
  constructor
  · rintro (⟨a, b | b⟩ | ⟨a, b | b⟩)
    · exact .inl (.inl ⟨a, b⟩)
    · exact .inr (by omega)
    · exact .inl (.inr ⟨a, b⟩)
    · exact .inr (by omega)
  · rintro ((⟨a, b⟩ | ⟨a, b⟩) | rfl)
    · exact .inl ⟨a, .inl b⟩
    · exact .inr ⟨a, .inl b⟩
    · rcases Int.lt_or_gt_of_ne this with h | h
      · exact .inr ⟨h, .inr (by omega)⟩
      · exact .inl ⟨h, .inr (by omega)⟩
theorem trM_con {y m : Nat} (h : y &&& m = 0) (x : Int) : trM y m x → trM y m (-x) → False := by
  intro h1 h2
  have := (and_zero_iff y m).1 h (x.natAbs - 1)
  rw [trM_neg] at h2
  rcases h1 with ⟨a, b⟩ | ⟨a, b⟩ <;> rcases h2 with ⟨c, d⟩ | ⟨c, d⟩
  · omega
  · exact this ⟨b, d⟩
  · exact this ⟨d, b⟩
  · omega
/-- A clause has a literal that is true. -/
theorem sat_mask {l : List Int} (hl : ∀ x ∈ l, Lit x) (y m : Nat) : (((sideN l).1 &&& y) ||| ((sideN l).2 &&& m) = 0) ↔ ∀ x ∈ l, ¬ trM y m x := by
  have hs := fun i => sideF_test (y := 0) (m := 0) hl i
  rw [or_zero_iff]
  simp only [Nat.testBit_and]
  unfold sideN
  simp only [fun i => (hs i).1, fun i => (hs i).2, Nat.zero_testBit, Bool.false_or, Bool.and_eq_false_iff, decide_eq_false_iff_not]
  constructor
  · rintro h x hx (⟨a, b⟩ | ⟨a, b⟩)
    · have := (h (x.natAbs - 1)).1
      rw [show ((x.natAbs - 1 + 1 : Nat) : Int) = x by omega] at this
      rcases this with h | h
      · exact h hx
      · rw [b] at h; cases h
    · have := (h (x.natAbs - 1)).2
      rw [show -((x.natAbs - 1 + 1 : Nat) : Int) = x by omega] at this
      rcases this with h | h
      · exact h hx
      · rw [b] at h; cases h
  · intro h i
    constructor
    · by_cases hx : ((i + 1 : Nat) : Int) ∈ l
      · right
        have := h _ hx
        cases hb : y.testBit i with
        | false => rfl
        | true => exact (this (.inl ⟨by omega, by rw [show ((i + 1 : Nat) : Int).natAbs - 1 = i by omega]; exact hb⟩)).elim
      · exact .inl hx
    · by_cases hx : -((i + 1 : Nat) : Int) ∈ l
      · right
        have := h _ hx
        cases hb : m.testBit i with
        | false => rfl
        | true => exact (this (.inr ⟨by omega, by rw [show (-((i + 1 : Nat) : Int)).natAbs - 1 = i by omega]; exact hb⟩)).elim
      · exact .inl hx
/-- The variables of a clause's literals that are not false. -/
theorem open_mask {l : List Int} (hl : ∀ x ∈ l, Lit x) (y m i : Nat) : (((sideN l).1 - ((sideN l).1 &&& m)) ||| ((sideN l).2 - ((sideN l).2 &&& y))).testBit i = true ↔ ∃ x ∈ l, x.natAbs = i + 1 ∧ ¬ trM y m (-x) := by
  have hs := sideF_test (y := 0) (m := 0) hl i
  rw [Nat.testBit_or, testBit_andn, testBit_andn]
  unfold sideN
  rw [hs.1, hs.2]
  simp only [Nat.zero_testBit, Bool.false_or, Bool.or_eq_true, Bool.and_eq_true, decide_eq_true_eq, Bool.not_eq_true']
  constructor
  · rintro (⟨a, b⟩ | ⟨a, b⟩)
    · refine ⟨_, a, by omega, fun h => ?_⟩
      rw [trM_neg] at h
      rcases h with ⟨h, _⟩ | ⟨_, h⟩
      · omega
      · rw [show ((i + 1 : Nat) : Int).natAbs - 1 = i by omega, b] at h; cases h
    · refine ⟨_, a, by omega, fun h => ?_⟩
      rw [trM_neg] at h
      rcases h with ⟨_, h⟩ | ⟨h, _⟩
      · rw [show (-((i + 1 : Nat) : Int)).natAbs - 1 = i by omega, b] at h; cases h
      · omega
  · rintro ⟨x, hx, e, hn⟩
    rw [trM_neg] at hn
    have h0 := (hl x hx).1
    rcases Int.lt_or_gt_of_ne h0 with h | h
    · right
      have hxe : x = -((i + 1 : Nat) : Int) := by omega
      refine ⟨by rw [← hxe]; exact hx, ?_⟩
      cases hb : y.testBit i with
      | false => rfl
      | true => exact (hn (.inl ⟨h, by rw [show x.natAbs - 1 = i by omega]; exact hb⟩)).elim
    · left
      have hxe : x = ((i + 1 : Nat) : Int) := by omega
      refine ⟨by rw [← hxe]; exact hx, ?_⟩
      cases hb : m.testBit i with
      | false => rfl
      | true => exact (hn (.inr ⟨h, by rw [show x.natAbs - 1 = i by omega]; exact hb⟩)).elim
section
variable {cls : List (List Int)} {xs : List Int}
theorem layN_ok : ∀ {ys : List Int} {y m : Nat}, (∀ x ∈ ys, Lit x ∧ x ∈ xs) → (∀ z, trM y m z → Der cls xs z) → y &&& m = 0 →
    ((layN ys y m).2 = true → (∀ z, trM (layN ys y m).1.1 (layN ys y m).1.2 z → Der cls xs z) ∧ (layN ys y m).1.1 &&& (layN ys y m).1.2 = 0 ∧ (∀ x ∈ ys, trM (layN ys y m).1.1 (layN ys y m).1.2 x) ∧ ∀ z, trM y m z → trM (layN ys y m).1.1 (layN ys y m).1.2 z) ∧
    ((layN ys y m).2 = false → ∃ x, Der cls xs x ∧ Der cls xs (-x)) := by
  intro ys
  induction ys with
  | nil => intro y m _ hs hc; exact ⟨fun _ => ⟨hs, hc, fun x hx => (by cases hx), fun z h => h⟩, fun h => by cases h⟩
  | cons x ys ih =>
    intro y m hl hs hc
    have hx := hl x (List.mem_cons_self ..)
    have hs' : ∀ z, trM (withN y m x).1 (withN y m x).2 z → Der cls xs z := fun z h => by
      rcases (trM_with hx.1).1 h with h | rfl
      · exact hs z h
      · exact .base hx.2
    simp only [layN]
    split
    · rename_i h0
      obtain ⟨a, b⟩ := ih (fun z hz => hl z (List.mem_cons_of_mem _ hz)) hs' h0
      refine ⟨fun h => ?_, b⟩
      obtain ⟨a1, a2, a3, a4⟩ := a h
      refine ⟨a1, a2, fun z hz => ?_, fun z hz => a4 z ((trM_with hx.1).2 (.inl hz))⟩
      rcases List.mem_cons.1 hz with rfl | hz
      · exact a4 z ((trM_with hx.1).2 (.inr rfl))
      · exact a3 z hz
    · rename_i h0
      refine ⟨fun h => (by cases h), fun _ => ?_⟩
      -- both contraries are true
      obtain ⟨i, hi⟩ := Classical.not_forall.1 (fun h => h0 ((and_zero_iff _ _).2 h))
      have hi := Classical.not_not.1 hi
      refine ⟨((i + 1 : Nat) : Int), hs' _ (.inl ⟨by omega, ?_⟩), hs' _ (.inr ⟨by omega, ?_⟩)⟩
      · rw [show ((i + 1 : Nat) : Int).natAbs - 1 = i by omega]; exact hi.1
      · rw [show (-((i + 1 : Nat) : Int)).natAbs - 1 = i by omega]; exact hi.2
theorem stepS_ok (hd : ∀ l ∈ cls, (∀ x ∈ l, Lit x) ∧ Dif l) {y m : Nat} (hs : ∀ z, trM y m z → Der cls xs z) (hc : y &&& m = 0) : ∀ {cs : List (List Int)}, (∀ l ∈ cs, l ∈ cls) →
    (stepS y m (cs.map sideN) = none → ∀ l ∈ cs, (∃ x ∈ l, trM y m x) ∨ ∃ x ∈ l, ∃ z ∈ l, x ≠ z ∧ ¬ trM y m x ∧ ¬ trM y m (-x) ∧ ¬ trM y m z ∧ ¬ trM y m (-z)) ∧
    (stepS y m (cs.map sideN) = some none → ∃ l ∈ cls, ∀ x ∈ l, Der cls xs (-x)) ∧
    (∀ p, stepS y m (cs.map sideN) = some (some p) → ∃ x, Lit x ∧ Der cls xs x ∧ ¬ trM y m (-x) ∧ p = withN y m x) := by
  intro cs
  induction cs with
  | nil => intro _; exact ⟨fun _ l hl => (by cases hl), fun h => (by cases h), fun p h => by cases h⟩
  | cons l cs ih =>
    intro hsub
    have hlc := hsub l (List.mem_cons_self ..)
    obtain ⟨hl, hdl⟩ := hd l hlc
    obtain ⟨i1, i2, i3⟩ := ih fun l h => hsub l (List.mem_cons_of_mem _ h)
    have hz := open_mask hl y m
    have hlt : ((sideN l).1 - ((sideN l).1 &&& m)) ||| ((sideN l).2 - ((sideN l).2 &&& y)) < 2 ^ 30 := by
      have := sideF_lt hl (y := 0) (m := 0) (by decide) (by decide)
      exact Nat.or_lt_two_pow (Nat.lt_of_le_of_lt (Nat.sub_le _ _) this.1) (Nat.lt_of_le_of_lt (Nat.sub_le _ _) this.2)
    rw [List.map_cons]
    simp only [stepS]
    by_cases h0 : ((sideN l).1 &&& y) ||| ((sideN l).2 &&& m) = 0
    · rw [if_pos h0]
      have hun := (sat_mask hl y m).1 h0
      by_cases h1 : popN (((sideN l).1 - ((sideN l).1 &&& m)) ||| ((sideN l).2 - ((sideN l).2 &&& y))) = 0
      · rw [if_pos h1]
        refine ⟨fun h => (by cases h), fun _ => ⟨l, hlc, fun x hx => hs _ ?_⟩, fun p h => by cases h⟩
        have hu := (popN_zero (by omega)).1 h1
        apply Classical.byContradiction
        intro hn
        have := (hz (x.natAbs - 1)).2 ⟨x, hx, by have := (hl x hx).1; omega, hn⟩
        rw [hu, Nat.zero_testBit] at this
        cases this
      · rw [if_neg h1]
        by_cases h2 : popN (((sideN l).1 - ((sideN l).1 &&& m)) ||| ((sideN l).2 - ((sideN l).2 &&& y))) = 1
        · rw [if_pos h2]
          refine ⟨fun h => (by cases h), fun h => (by cases h), fun p h => ?_⟩
          injection h with h; injection h with h
          obtain ⟨i, hi, e⟩ := (popN_one (by omega)).1 h2
          obtain ⟨x, hx, ex, hn⟩ := (hz i).1 (by rw [e, Nat.testBit_two_pow_self])
          refine ⟨x, hl x hx, .unit hlc hx (fun w hw hne => hs _ ?_), hn, ?_⟩
          · apply Classical.byContradiction
            intro hnw
            have := (hz (w.natAbs - 1)).2 ⟨w, hw, by have := (hl w hw).1; omega, hnw⟩
            rw [e, Nat.testBit_two_pow] at this
            have : i = w.natAbs - 1 := by simpa using this
            exact hne (hdl.eq hw hx (by have := (hl w hw).1; omega))
          · rw [← h]
            have hsp := fun j => sideF_test (y := 0) (m := 0) hl j
            have pj : ∀ j, ((sideN l).1 - ((sideN l).1 &&& m)).testBit j = true → j = i ∧ x = ((i + 1 : Nat) : Int) := fun j hj => by
              have h3 := congrArg (fun z => z.testBit j) e
              simp only [Nat.testBit_or, hj, Bool.true_or, Nat.testBit_two_pow] at h3
              have hji : i = j := by simpa using h3.symm
              subst hji
              refine ⟨rfl, ?_⟩
              rw [testBit_andn, Bool.and_eq_true] at hj
              have h4 := hj.1
              unfold sideN at h4
              rw [(hsp i).1, Nat.zero_testBit, Bool.false_or] at h4
              exact hdl.eq hx (of_decide_eq_true h4) (by omega)
            have mj : ∀ j, ((sideN l).2 - ((sideN l).2 &&& y)).testBit j = true → j = i ∧ x = -((i + 1 : Nat) : Int) := fun j hj => by
              have h3 := congrArg (fun z => z.testBit j) e
              simp only [Nat.testBit_or, hj, Bool.or_true, Nat.testBit_two_pow] at h3
              have hji : i = j := by simpa using h3.symm
              subst hji
              refine ⟨rfl, ?_⟩
              rw [testBit_andn, Bool.and_eq_true] at hj
              have h4 := hj.1
              unfold sideN at h4
              rw [(hsp i).2, Nat.zero_testBit, Bool.false_or] at h4
              exact hdl.eq hx (of_decide_eq_true h4) (by omega)
            have hb : bitN x = 2 ^ i := by unfold bitN; rw [ex, Nat.add_sub_cancel]
            unfold withN
            by_cases hp : 0 < x
            · have m0 : (sideN l).2 - ((sideN l).2 &&& y) = 0 := Nat.eq_of_testBit_eq fun j => by
                rw [Nat.zero_testBit]
                cases hj : ((sideN l).2 - ((sideN l).2 &&& y)).testBit j with
                | false => rfl
                | true => have := (mj j hj).2; omega
              rw [m0, Nat.or_zero] at e
              rw [if_pos hp, m0, e, hb, Nat.or_zero]
            · have p0 : (sideN l).1 - ((sideN l).1 &&& m) = 0 := Nat.eq_of_testBit_eq fun j => by
                rw [Nat.zero_testBit]
                cases hj : ((sideN l).1 - ((sideN l).1 &&& m)).testBit j with
                | false => rfl
                | true => have := (pj j hj).2; omega
              rw [p0, Nat.zero_or] at e
              rw [if_neg hp, p0, e, hb, Nat.or_zero]
        · rw [if_neg h2]
          refine ⟨fun h w hw => ?_, i2, i3⟩
          rcases List.mem_cons.1 hw with rfl | hw
          · right
            have hu : ((sideN w).1 - ((sideN w).1 &&& m)) ||| ((sideN w).2 - ((sideN w).2 &&& y)) ≠ 0 := fun hh => h1 ((popN_zero (by omega)).2 hh)
            obtain ⟨i, hi⟩ := Nat.exists_testBit_of_ne_zero hu
            obtain ⟨x, hx, ex, hnx⟩ := (hz i).1 hi
            have hex : ∃ j, j ≠ i ∧ (((sideN w).1 - ((sideN w).1 &&& m)) ||| ((sideN w).2 - ((sideN w).2 &&& y))).testBit j = true := by
              apply Classical.byContradiction
              intro hn
              have hi30 : i < 30 := by
                apply Classical.byContradiction
                intro hge
                rw [Nat.testBit_lt_two_pow (Nat.lt_of_lt_of_le hlt (Nat.pow_le_pow_right (by decide) (by omega)))] at hi
                cases hi
              refine h2 ((popN_one (by omega)).2 ⟨i, by omega, Nat.eq_of_testBit_eq fun j => ?_⟩)
              rw [Nat.testBit_two_pow]
              by_cases hji : i = j
              · subst hji; rw [hi]; simp
              · rw [decide_eq_false hji]
                cases hj : (((sideN w).1 - ((sideN w).1 &&& m)) ||| ((sideN w).2 - ((sideN w).2 &&& y))).testBit j with
                | false => rfl
                | true => exact (hn ⟨j, fun hh => hji hh.symm, hj⟩).elim
            obtain ⟨j, hji, hj⟩ := hex
            obtain ⟨z, hz2, ez, hnz⟩ := (hz j).1 hj
            exact ⟨x, hx, z, hz2, fun hh => hji (by rw [hh] at ex; omega), hun x hx, hnx, hun z hz2, hnz⟩
          · exact i1 h w hw
    · rw [if_neg h0]
      refine ⟨fun h w hw => ?_, i2, i3⟩
      rcases List.mem_cons.1 hw with rfl | hw
      · left
        apply Classical.byContradiction
        intro hn
        exact h0 ((sat_mask hl y m).2 fun x hx hT => hn ⟨x, hx, hT⟩)
      · exact i1 h w hw
end
end Go.Proofs.YtfgfhplgnfbaaaaDoor
/- The plain law of propagation, continued: to the end, both ways. -/
namespace Go.Proofs.YtfgfhplgnfbaaaaDoor
open Go Go.Ev
section
variable {cls : List (List Int)} {xs : List Int}
theorem with_con {y m : Nat} {x : Int} (hx : Lit x) (hc : y &&& m = 0) (hn : ¬ trM y m (-x)) : (withN y m x).1 &&& (withN y m x).2 = 0 := by
  refine (and_zero_iff _ _).2 fun i hi => ?_
  have h1 : trM (withN y m x).1 (withN y m x).2 ((i + 1 : Nat) : Int) := .inl ⟨by omega, by rw [show ((i + 1 : Nat) : Int).natAbs - 1 = i by omega]; exact hi.1⟩
  have h2 : trM (withN y m x).1 (withN y m x).2 (-((i + 1 : Nat) : Int)) := .inr ⟨by omega, by rw [show (-((i + 1 : Nat) : Int)).natAbs - 1 = i by omega]; exact hi.2⟩
  rcases (trM_with hx).1 h1 with h1 | h1 <;> rcases (trM_with hx).1 h2 with h2 | h2
  · exact trM_con hc _ h1 h2
  · rw [← h2, Int.neg_neg] at hn; exact hn h1
  · rw [← h1] at hn; exact hn h2
  · omega
theorem spreadF_ok (hd : ∀ l ∈ cls, (∀ x ∈ l, Lit x) ∧ Dif l) : ∀ (d : Nat) {y m : Nat}, y < 2 ^ 30 → m < 2 ^ 30 → freeN (y ||| m) < d → (∀ z, trM y m z → Der cls xs z) → y &&& m = 0 → (∀ x ∈ xs, trM y m x) →
    ((spreadF (cls.map sideN) d y m).2 = true → Calm cls xs (trM (spreadF (cls.map sideN) d y m).1.1 (spreadF (cls.map sideN) d y m).1.2) ∧ ∀ z, trM (spreadF (cls.map sideN) d y m).1.1 (spreadF (cls.map sideN) d y m).1.2 z → Der cls xs z) ∧ ((spreadF (cls.map sideN) d y m).2 = false → Cl cls xs) := by
  intro d
  induction d with
  | zero => intro y m _ _ h; omega
  | succ d ih =>
    intro y m hy hm hf hs hc hb
    have hss : ∀ c ∈ cls.map sideN, c.1 < 2 ^ 30 ∧ c.2 < 2 ^ 30 := fun c hc => by
      obtain ⟨l, hl, rfl⟩ := List.mem_map.1 hc
      exact sideF_lt (hd l hl).1 (by decide) (by decide)
    obtain ⟨s1, s2, s3⟩ := stepS_ok hd hs hc (cs := cls) fun _ h => h
    simp only [spreadF]
    cases hst : stepS y m (cls.map sideN) with
    | none => exact ⟨fun _ => ⟨⟨trM_con hc, hb, s1 hst⟩, hs⟩, fun h => by cases h⟩
    | some o =>
      cases o with
      | none => exact ⟨fun h => (by cases h), fun _ => .inr (s2 hst)⟩
      | some p =>
        obtain ⟨x, hx, hD, hn, rfl⟩ := s3 p hst
        obtain ⟨f1, f2, f3⟩ := stepS_free hy hm hss hst
        refine ih f2 f3 (by omega) (fun z hz => ?_) (with_con hx hc hn) fun z hz => (trM_with hx).2 (.inl (hb z hz))
        rcases (trM_with hx).1 hz with h | rfl
        · exact hs z h
        · exact hD
theorem layN_lt : ∀ {ys : List Int} {y m : Nat}, (∀ x ∈ ys, Lit x) → y < 2 ^ 30 → m < 2 ^ 30 → (layN ys y m).1.1 < 2 ^ 30 ∧ (layN ys y m).1.2 < 2 ^ 30 := by
  intro ys
  induction ys with
  | nil => intro y m _ hy hm; exact ⟨hy, hm⟩
  | cons x ys ih =>
    intro y m hl hy hm
    have w := withN_lt (hl x (List.mem_cons_self ..)) hy hm
    simp only [layN]
    split
    · exact ih (fun z hz => hl z (List.mem_cons_of_mem _ hz)) w.1 w.2
    · exact w
theorem fromN_ok (hd : ∀ l ∈ cls, (∀ x ∈ l, Lit x) ∧ Dif l) (hx : ∀ x ∈ xs, Lit x) :
    ((fromN (cls.map sideN) xs).2 = true → Calm cls xs (trM (fromN (cls.map sideN) xs).1.1 (fromN (cls.map sideN) xs).1.2) ∧ ∀ z, trM (fromN (cls.map sideN) xs).1.1 (fromN (cls.map sideN) xs).1.2 z → Der cls xs z) ∧ ((fromN (cls.map sideN) xs).2 = false → Cl cls xs) := by
  have z0 : ∀ z, ¬ trM 0 0 z := fun z h => by
    rcases h with ⟨_, h⟩ | ⟨_, h⟩ <;> simp at h
  obtain ⟨a, b⟩ := layN_ok (cls := cls) (xs := xs) (ys := xs) (y := 0) (m := 0) (fun x h => ⟨hx x h, h⟩) (fun z h => (z0 z h).elim) rfl
  have lt := layN_lt (ys := xs) (y := 0) (m := 0) hx (by decide) (by decide)
  unfold fromN fromR
  cases hl : (layN xs 0 0).2 with
  | false => exact ⟨fun h => (by rw [if_neg (by decide), hl] at h; cases h), fun _ => .inl (b hl)⟩
  | true =>
    obtain ⟨a1, a2, a3, _⟩ := a hl
    rw [if_pos rfl]
    have := freeN_le ((layN xs 0 0).1.1 ||| (layN xs 0 0).1.2)
    exact spreadF_ok hd 31 lt.1 lt.2 (by omega) a1 a2 a3
/-! ### by truths -/
end
end Go.Proofs.YtfgfhplgnfbaaaaDoor
/- Contracts of functions of layer 20's reference: contraries; the literals that are true. -/
namespace Go.Proofs.YtfgfhplgnfbaaaaDoor
open Go Go.Ev
end Go.Proofs.YtfgfhplgnfbaaaaDoor
/- Conditions of functions' code, printed by a program of ours. -/
namespace Go.Proofs.YtfgfhplgnfbaaaaDoor
open Go Go.Ev
set_option maxRecDepth 100000
set_option linter.unusedVariables false
/-! sward/sat.contrary -/
noncomputable def b96 : Code := (Tryd.f96.body).getD .skip
noncomputable def stk96_0 : List KI := [.code (sub [1, 1, 0, 1, 0] b96), .blk 0, .code (sub [1, 1, 1] b96)]
def lv96 : List (Nat × List Nat) := [(0, [2, 3, 6, 7, 8])]
def I96_0 (O : CallF) (Q : Value → Hp → Prop) (a0 : Option Addr) (n0 : Nat) (c0 : Nat) (a3 : Option Addr) (n3 : Nat) (c3 : Nat) (x8 : Int) (h : Hp) : Prop := RKL Tryd.prog O Tryd.f96 stk96_0 21 [2, 3, 6, 7, 8] [(.slice none 0 0), (.slice a3 n3 c3), (.slice a0 n0 c0), (.int .i64 (Int.ofNat n0)), (.int .i64 x8)] h Q
def T96 (O : CallF) (Q : Value → Hp → Prop) (a0 : Option Addr) (n0 : Nat) (c0 : Nat) (h : Hp) : Prop :=
  I96_0 O Q a0 n0 c0 none 0 0 0 h
theorem rk96 {O Q} (a0 n0 c0) {h : Hp} (hO : O 96 [(.slice a0 n0 c0)] h = none) (hh : T96 O Q a0 n0 c0 h) : Ret Tryd.prog O 96 [(.slice a0 n0 c0)] h Q :=
  .of (c := b96) Tryd.func96 (by kernel_rfl) hO (V_ok (tb := lv96) (cuts := []) 500 (Eq.mp (by kernel_rfl) hh))
def T96_0 (O : CallF) (Q : Value → Hp → Prop) (a0 : Option Addr) (n0 : Nat) (c0 : Nat) (a3 : Option Addr) (n3 : Nat) (c3 : Nat) (x8 : Int) (h : Hp) : Prop :=
  vcond (ltI x8 (Int.ofNat n0))
  (isNat x8 fun n101' =>
  isAddr a0 fun b102' f103' =>
  vreq (Nat.blt n101' n0)
  (∃ x104', readAt h b102' (f103' + (n101' * 1)) 1 = some [(.int .i64 x104')] ∧
  ∃ a105' n106' c107' h108', appendV Tryd.prog (h.add (.cells [(.int .i64 (wrapF .i64 (0 - x104')))] 3 .fix)) 32 32 (.slice a3 n3 c3) (.slice (some ⟨h.nx, 0, none⟩) 1 1) = some (.slice a105' n106' c107', h108') ∧
  I96_0 O Q a0 n0 c0 a105' n106' c107' (wrapF .i64 (x8 + 1)) h108'))
  (∃ h109', EvC Tryd.prog O 74 [(.slice a3 n3 c3), (.func (.func 123) #[] #[])] h undef h109' ∧
  Q (.slice a3 n3 c3) h109')
theorem I96_0.of {O Q} (a0 n0 c0 a3 n3 c3 x8) {h : Hp} (hh : T96_0 O Q a0 n0 c0 a3 n3 c3 x8 h) : I96_0 O Q a0 n0 c0 a3 n3 c3 x8 h :=
  RKL.of (tb := lv96) (cuts := []) 500 fun _ => Eq.mp (by kernel_rfl) hh
/-! sward/sat.contrary$1 -/
noncomputable def b123 : Code := (Tryd.f123.body).getD .skip
def lv123 : List (Nat × List Nat) := []
def T123 (O : CallF) (Q : Value → Hp → Prop) (x0 : Int) (x1 : Int) (h : Hp) : Prop :=
  ∃ x1', ∃ h2', EvC Tryd.prog O 94 [(.int .i64 x0)] h (.int .i64 x1') h2' ∧
  ∃ x3', ∃ h4', EvC Tryd.prog O 94 [(.int .i64 x1)] h2' (.int .i64 x3') h4' ∧
  Q (.int .i64 (wrapF .i64 (x1' - x3'))) h4'
theorem rk123 {O Q} (x0 x1) {h : Hp} (hO : O 123 [(.int .i64 x0), (.int .i64 x1)] h = none) (hh : T123 O Q x0 x1 h) : Ret Tryd.prog O 123 [(.int .i64 x0), (.int .i64 x1)] h Q :=
  .of (c := b123) Tryd.func123 (by kernel_rfl) hO (V_ok (tb := lv123) (cuts := []) 500 (Eq.mp (by kernel_rfl) hh))
/-! slices.SortFunc[[]int,int] -/
noncomputable def b74 : Code := (Tryd.f74.body).getD .skip
def lv74 : List (Nat × List Nat) := []
def T74 (O : CallF) (Q : Value → Hp → Prop) (a0 : Option Addr) (n0 : Nat) (c0 : Nat) (g1 : Nat) (fi1 : Array Value) (ca1 : Array Value) (h : Hp) : Prop :=
  ∃ x1', ∃ h2', EvC Tryd.prog O 116 [(.int .u64 (wrapF .u64 (Int.ofNat n0)))] h (.int .i64 x1') h2' ∧
  ∃ h3', EvC Tryd.prog O 115 [(.slice a0 n0 c0), (.int .i64 0), (.int .i64 (Int.ofNat n0)), (.int .i64 x1'), (.func (.func g1) fi1 ca1)] h2' undef h3' ∧
  Q undef h3'
theorem rk74 {O Q} (a0 n0 c0 g1 fi1 ca1) {h : Hp} (hO : O 74 [(.slice a0 n0 c0), (.func (.func g1) fi1 ca1)] h = none) (hh : T74 O Q a0 n0 c0 g1 fi1 ca1 h) : Ret Tryd.prog O 74 [(.slice a0 n0 c0), (.func (.func g1) fi1 ca1)] h Q :=
  .of (c := b74) Tryd.func74 (by kernel_rfl) hO (V_ok (tb := lv74) (cuts := []) 500 (Eq.mp (by kernel_rfl) hh))
/-! slices.pdqsortCmpFunc[int] -/
noncomputable def b115 : Code := (Tryd.f115.body).getD .skip
noncomputable def stk115_0 : List KI := [.code (sub [1, 1, 0] b115), .blk 0]
def lv115 : List (Nat × List Nat) := [(0, [0, 1, 2, 3, 4, 10, 11])]
def I115_0 (O : CallF) (Q : Value → Hp → Prop) (a0 : Option Addr) (n0 : Nat) (c0 : Nat) (x1 : Int) (x2 : Int) (x3 : Int) (g4 : Nat) (fi4 : Array Value) (ca4 : Array Value) (x1s : Int) (x2s : Int) (x3s : Int) (g4s : Nat) (fi4s : Array Value) (ca4s : Array Value) (q10 : Bool) (q11 : Bool) (h : Hp) : Prop := RKL Tryd.prog O Tryd.f115 stk115_0 148 [0, 1, 2, 3, 4, 10, 11] [(.slice a0 n0 c0), (.int .i64 x1s), (.int .i64 x2s), (.int .i64 x3s), (.func (.func g4s) fi4s ca4s), (.bool q10), (.bool q11)] h Q
def T115 (O : CallF) (Q : Value → Hp → Prop) (a0 : Option Addr) (n0 : Nat) (c0 : Nat) (x1 : Int) (x2 : Int) (x3 : Int) (g4 : Nat) (fi4 : Array Value) (ca4 : Array Value) (h : Hp) : Prop :=
  I115_0 O Q a0 n0 c0 x1 x2 x3 g4 fi4 ca4 x1 x2 x3 g4 fi4 ca4 true true h
theorem rk115 {O Q} (a0 n0 c0 x1 x2 x3 g4 fi4 ca4) {h : Hp} (hO : O 115 [(.slice a0 n0 c0), (.int .i64 x1), (.int .i64 x2), (.int .i64 x3), (.func (.func g4) fi4 ca4)] h = none) (hh : T115 O Q a0 n0 c0 x1 x2 x3 g4 fi4 ca4 h) : Ret Tryd.prog O 115 [(.slice a0 n0 c0), (.int .i64 x1), (.int .i64 x2), (.int .i64 x3), (.func (.func g4) fi4 ca4)] h Q :=
  .of (c := b115) Tryd.func115 (by kernel_rfl) hO (V_ok (tb := lv115) (cuts := []) 500 (Eq.mp (by kernel_rfl) hh))
def T115_0 (O : CallF) (Q : Value → Hp → Prop) (a0 : Option Addr) (n0 : Nat) (c0 : Nat) (x1 : Int) (x2 : Int) (x3 : Int) (g4 : Nat) (fi4 : Array Value) (ca4 : Array Value) (x1s : Int) (x2s : Int) (x3s : Int) (g4s : Nat) (fi4s : Array Value) (ca4s : Array Value) (q10 : Bool) (q11 : Bool) (h : Hp) : Prop :=
  vcond (!(ltI 12 (wrapF .i64 (x2s - x1s))))
  (∃ h101', EvC Tryd.prog O 127 [(.slice a0 n0 c0), (.int .i64 x1s), (.int .i64 x2s), (.func (.func g4s) fi4s ca4s)] h undef h101' ∧
  Q undef h101')
  (vcond (eqI x3s 0)
  (∃ h102', EvC Tryd.prog O 128 [(.slice a0 n0 c0), (.int .i64 x1s), (.int .i64 x2s), (.func (.func g4s) fi4s ca4s)] h undef h102' ∧
  Q undef h102')
  (vcond (!q10)
  (∃ h103', EvC Tryd.prog O 129 [(.slice a0 n0 c0), (.int .i64 x1s), (.int .i64 x2s), (.func (.func g4s) fi4s ca4s)] h undef h103' ∧
  ∃ x104', ∃ x105', ∃ h106', EvC Tryd.prog O 130 [(.slice a0 n0 c0), (.int .i64 x1s), (.int .i64 x2s), (.func (.func g4s) fi4s ca4s)] h103' (.tuple #[(.int .i64 x104'), (.int .i64 x105')]) h106' ∧
  vcond (eqI x105' 2)
  (∃ h107', EvC Tryd.prog O 131 [(.slice a0 n0 c0), (.int .i64 x1s), (.int .i64 x2s), (.func (.func g4s) fi4s ca4s)] h106' undef h107' ∧
  vcond q10
  (vcond q11
  (∃ q108', ∃ h109', EvC Tryd.prog O 132 [(.slice a0 n0 c0), (.int .i64 x1s), (.int .i64 x2s), (.func (.func g4s) fi4s ca4s)] h107' (.bool q108') h109' ∧
  vcond q108'
  (Q undef h109')
  (vcond (ltI 0 x1s)
  (isNat (wrapF .i64 (x1s - 1)) fun n110' =>
  isAddr a0 fun b111' f112' =>
  vreq (Nat.blt n110' n0)
  (∃ x113', readAt (h109'.rsv 17) b111' (f112' + (n110' * 1)) 1 = some [(.int .i64 x113')] ∧
  isNat (wrapF .i64 ((wrapF .i64 (x2s - 1)) - (wrapF .i64 (x104' - x1s)))) fun n114' =>
  isAddr a0 fun b115' f116' =>
  vreq (Nat.blt n114' n0)
  (∃ x117', readAt (h109'.rsv 17) b115' (f116' + (n114' * 1)) 1 = some [(.int .i64 x117')] ∧
  ∃ x118', ∃ h119', EvC Tryd.prog O g4s (fi4s.toList ++ [(.int .i64 x113'), (.int .i64 x117')] ++ ca4s.toList) ((h109'.rsv 17).grd []) (.int .i64 x118') h119' ∧
  vcond (!(ltI x118' 0))
  (∃ x120', ∃ h121', EvC Tryd.prog O 133 [(.slice a0 n0 c0), (.int .i64 x1s), (.int .i64 x2s), (.int .i64 (wrapF .i64 ((wrapF .i64 (x2s - 1)) - (wrapF .i64 (x104' - x1s))))), (.func (.func g4s) fi4s ca4s)] (h119'.rst (h109'.rsv 17)) (.int .i64 x120') h121' ∧
  I115_0 O Q a0 n0 c0 x1 x2 x3 g4 fi4 ca4 x120' x2s (wrapF .i64 (x3s - 1)) g4s fi4s ca4s q10 q11 h121')
  (∃ x122', ∃ q123', ∃ h124', EvC Tryd.prog O 134 [(.slice a0 n0 c0), (.int .i64 x1s), (.int .i64 x2s), (.int .i64 (wrapF .i64 ((wrapF .i64 (x2s - 1)) - (wrapF .i64 (x104' - x1s))))), (.func (.func g4s) fi4s ca4s)] (h119'.rst (h109'.rsv 17)) (.tuple #[(.int .i64 x122'), (.bool q123')]) h124' ∧
  vcond (ltI (wrapF .i64 (x122' - x1s)) (wrapF .i64 (x2s - x122')))
  (∃ h125', EvC Tryd.prog O 115 [(.slice a0 n0 c0), (.int .i64 x1s), (.int .i64 x122'), (.int .i64 (wrapF .i64 (x3s - 1))), (.func (.func g4s) fi4s ca4s)] h124' undef h125' ∧
  I115_0 O Q a0 n0 c0 x1 x2 x3 g4 fi4 ca4 (wrapF .i64 (x122' + 1)) x2s (wrapF .i64 (x3s - 1)) g4s fi4s ca4s (!(ltI (wrapF .i64 (x122' - x1s)) (wrapF .i64 (Int.tdiv (wrapF .i64 (x2s - x1s)) 8)))) q123' h125')
  (∃ h126', EvC Tryd.prog O 115 [(.slice a0 n0 c0), (.int .i64 (wrapF .i64 (x122' + 1))), (.int .i64 x2s), (.int .i64 (wrapF .i64 (x3s - 1))), (.func (.func g4s) fi4s ca4s)] h124' undef h126' ∧
  I115_0 O Q a0 n0 c0 x1 x2 x3 g4 fi4 ca4 x1s x122' (wrapF .i64 (x3s - 1)) g4s fi4s ca4s (!(ltI (wrapF .i64 (x2s - x122')) (wrapF .i64 (Int.tdiv (wrapF .i64 (x2s - x1s)) 8)))) q123' h126')))))
  (∃ x127', ∃ q128', ∃ h129', EvC Tryd.prog O 134 [(.slice a0 n0 c0), (.int .i64 x1s), (.int .i64 x2s), (.int .i64 (wrapF .i64 ((wrapF .i64 (x2s - 1)) - (wrapF .i64 (x104' - x1s))))), (.func (.func g4s) fi4s ca4s)] (h109'.rsv 17) (.tuple #[(.int .i64 x127'), (.bool q128')]) h129' ∧
  vcond (ltI (wrapF .i64 (x127' - x1s)) (wrapF .i64 (x2s - x127')))
  (∃ h130', EvC Tryd.prog O 115 [(.slice a0 n0 c0), (.int .i64 x1s), (.int .i64 x127'), (.int .i64 (wrapF .i64 (x3s - 1))), (.func (.func g4s) fi4s ca4s)] h129' undef h130' ∧
  I115_0 O Q a0 n0 c0 x1 x2 x3 g4 fi4 ca4 (wrapF .i64 (x127' + 1)) x2s (wrapF .i64 (x3s - 1)) g4s fi4s ca4s (!(ltI (wrapF .i64 (x127' - x1s)) (wrapF .i64 (Int.tdiv (wrapF .i64 (x2s - x1s)) 8)))) q128' h130')
  (∃ h131', EvC Tryd.prog O 115 [(.slice a0 n0 c0), (.int .i64 (wrapF .i64 (x127' + 1))), (.int .i64 x2s), (.int .i64 (wrapF .i64 (x3s - 1))), (.func (.func g4s) fi4s ca4s)] h129' undef h131' ∧
  I115_0 O Q a0 n0 c0 x1 x2 x3 g4 fi4 ca4 x1s x127' (wrapF .i64 (x3s - 1)) g4s fi4s ca4s (!(ltI (wrapF .i64 (x2s - x127')) (wrapF .i64 (Int.tdiv (wrapF .i64 (x2s - x1s)) 8)))) q128' h131'))))
  (vcond (ltI 0 x1s)
  (isNat (wrapF .i64 (x1s - 1)) fun n132' =>
  isAddr a0 fun b133' f134' =>
  vreq (Nat.blt n132' n0)
  (∃ x135', readAt (h107'.rsv 17) b133' (f134' + (n132' * 1)) 1 = some [(.int .i64 x135')] ∧
  isNat (wrapF .i64 ((wrapF .i64 (x2s - 1)) - (wrapF .i64 (x104' - x1s)))) fun n136' =>
  isAddr a0 fun b137' f138' =>
  vreq (Nat.blt n136' n0)
  (∃ x139', readAt (h107'.rsv 17) b137' (f138' + (n136' * 1)) 1 = some [(.int .i64 x139')] ∧
  ∃ x140', ∃ h141', EvC Tryd.prog O g4s (fi4s.toList ++ [(.int .i64 x135'), (.int .i64 x139')] ++ ca4s.toList) ((h107'.rsv 17).grd []) (.int .i64 x140') h141' ∧
  vcond (!(ltI x140' 0))
  (∃ x142', ∃ h143', EvC Tryd.prog O 133 [(.slice a0 n0 c0), (.int .i64 x1s), (.int .i64 x2s), (.int .i64 (wrapF .i64 ((wrapF .i64 (x2s - 1)) - (wrapF .i64 (x104' - x1s))))), (.func (.func g4s) fi4s ca4s)] (h141'.rst (h107'.rsv 17)) (.int .i64 x142') h143' ∧
  I115_0 O Q a0 n0 c0 x1 x2 x3 g4 fi4 ca4 x142' x2s (wrapF .i64 (x3s - 1)) g4s fi4s ca4s q10 q11 h143')
  (∃ x144', ∃ q145', ∃ h146', EvC Tryd.prog O 134 [(.slice a0 n0 c0), (.int .i64 x1s), (.int .i64 x2s), (.int .i64 (wrapF .i64 ((wrapF .i64 (x2s - 1)) - (wrapF .i64 (x104' - x1s))))), (.func (.func g4s) fi4s ca4s)] (h141'.rst (h107'.rsv 17)) (.tuple #[(.int .i64 x144'), (.bool q145')]) h146' ∧
  vcond (ltI (wrapF .i64 (x144' - x1s)) (wrapF .i64 (x2s - x144')))
  (∃ h147', EvC Tryd.prog O 115 [(.slice a0 n0 c0), (.int .i64 x1s), (.int .i64 x144'), (.int .i64 (wrapF .i64 (x3s - 1))), (.func (.func g4s) fi4s ca4s)] h146' undef h147' ∧
  I115_0 O Q a0 n0 c0 x1 x2 x3 g4 fi4 ca4 (wrapF .i64 (x144' + 1)) x2s (wrapF .i64 (x3s - 1)) g4s fi4s ca4s (!(ltI (wrapF .i64 (x144' - x1s)) (wrapF .i64 (Int.tdiv (wrapF .i64 (x2s - x1s)) 8)))) q145' h147')
  (∃ h148', EvC Tryd.prog O 115 [(.slice a0 n0 c0), (.int .i64 (wrapF .i64 (x144' + 1))), (.int .i64 x2s), (.int .i64 (wrapF .i64 (x3s - 1))), (.func (.func g4s) fi4s ca4s)] h146' undef h148' ∧
  I115_0 O Q a0 n0 c0 x1 x2 x3 g4 fi4 ca4 x1s x144' (wrapF .i64 (x3s - 1)) g4s fi4s ca4s (!(ltI (wrapF .i64 (x2s - x144')) (wrapF .i64 (Int.tdiv (wrapF .i64 (x2s - x1s)) 8)))) q145' h148')))))
  (∃ x149', ∃ q150', ∃ h151', EvC Tryd.prog O 134 [(.slice a0 n0 c0), (.int .i64 x1s), (.int .i64 x2s), (.int .i64 (wrapF .i64 ((wrapF .i64 (x2s - 1)) - (wrapF .i64 (x104' - x1s))))), (.func (.func g4s) fi4s ca4s)] (h107'.rsv 17) (.tuple #[(.int .i64 x149'), (.bool q150')]) h151' ∧
  vcond (ltI (wrapF .i64 (x149' - x1s)) (wrapF .i64 (x2s - x149')))
  (∃ h152', EvC Tryd.prog O 115 [(.slice a0 n0 c0), (.int .i64 x1s), (.int .i64 x149'), (.int .i64 (wrapF .i64 (x3s - 1))), (.func (.func g4s) fi4s ca4s)] h151' undef h152' ∧
  I115_0 O Q a0 n0 c0 x1 x2 x3 g4 fi4 ca4 (wrapF .i64 (x149' + 1)) x2s (wrapF .i64 (x3s - 1)) g4s fi4s ca4s (!(ltI (wrapF .i64 (x149' - x1s)) (wrapF .i64 (Int.tdiv (wrapF .i64 (x2s - x1s)) 8)))) q150' h152')
  (∃ h153', EvC Tryd.prog O 115 [(.slice a0 n0 c0), (.int .i64 (wrapF .i64 (x149' + 1))), (.int .i64 x2s), (.int .i64 (wrapF .i64 (x3s - 1))), (.func (.func g4s) fi4s ca4s)] h151' undef h153' ∧
  I115_0 O Q a0 n0 c0 x1 x2 x3 g4 fi4 ca4 x1s x149' (wrapF .i64 (x3s - 1)) g4s fi4s ca4s (!(ltI (wrapF .i64 (x2s - x149')) (wrapF .i64 (Int.tdiv (wrapF .i64 (x2s - x1s)) 8)))) q150' h153'))))
  (vcond (ltI 0 x1s)
  (isNat (wrapF .i64 (x1s - 1)) fun n154' =>
  isAddr a0 fun b155' f156' =>
  vreq (Nat.blt n154' n0)
  (∃ x157', readAt (h107'.rsv 17) b155' (f156' + (n154' * 1)) 1 = some [(.int .i64 x157')] ∧
  isNat (wrapF .i64 ((wrapF .i64 (x2s - 1)) - (wrapF .i64 (x104' - x1s)))) fun n158' =>
  isAddr a0 fun b159' f160' =>
  vreq (Nat.blt n158' n0)
  (∃ x161', readAt (h107'.rsv 17) b159' (f160' + (n158' * 1)) 1 = some [(.int .i64 x161')] ∧
  ∃ x162', ∃ h163', EvC Tryd.prog O g4s (fi4s.toList ++ [(.int .i64 x157'), (.int .i64 x161')] ++ ca4s.toList) ((h107'.rsv 17).grd []) (.int .i64 x162') h163' ∧
  vcond (!(ltI x162' 0))
  (∃ x164', ∃ h165', EvC Tryd.prog O 133 [(.slice a0 n0 c0), (.int .i64 x1s), (.int .i64 x2s), (.int .i64 (wrapF .i64 ((wrapF .i64 (x2s - 1)) - (wrapF .i64 (x104' - x1s))))), (.func (.func g4s) fi4s ca4s)] (h163'.rst (h107'.rsv 17)) (.int .i64 x164') h165' ∧
  I115_0 O Q a0 n0 c0 x1 x2 x3 g4 fi4 ca4 x164' x2s (wrapF .i64 (x3s - 1)) g4s fi4s ca4s q10 q11 h165')
  (∃ x166', ∃ q167', ∃ h168', EvC Tryd.prog O 134 [(.slice a0 n0 c0), (.int .i64 x1s), (.int .i64 x2s), (.int .i64 (wrapF .i64 ((wrapF .i64 (x2s - 1)) - (wrapF .i64 (x104' - x1s))))), (.func (.func g4s) fi4s ca4s)] (h163'.rst (h107'.rsv 17)) (.tuple #[(.int .i64 x166'), (.bool q167')]) h168' ∧
  vcond (ltI (wrapF .i64 (x166' - x1s)) (wrapF .i64 (x2s - x166')))
  (∃ h169', EvC Tryd.prog O 115 [(.slice a0 n0 c0), (.int .i64 x1s), (.int .i64 x166'), (.int .i64 (wrapF .i64 (x3s - 1))), (.func (.func g4s) fi4s ca4s)] h168' undef h169' ∧
  I115_0 O Q a0 n0 c0 x1 x2 x3 g4 fi4 ca4 (wrapF .i64 (x166' + 1)) x2s (wrapF .i64 (x3s - 1)) g4s fi4s ca4s (!(ltI (wrapF .i64 (x166' - x1s)) (wrapF .i64 (Int.tdiv (wrapF .i64 (x2s - x1s)) 8)))) q167' h169')
  (∃ h170', EvC Tryd.prog O 115 [(.slice a0 n0 c0), (.int .i64 (wrapF .i64 (x166' + 1))), (.int .i64 x2s), (.int .i64 (wrapF .i64 (x3s - 1))), (.func (.func g4s) fi4s ca4s)] h168' undef h170' ∧
  I115_0 O Q a0 n0 c0 x1 x2 x3 g4 fi4 ca4 x1s x166' (wrapF .i64 (x3s - 1)) g4s fi4s ca4s (!(ltI (wrapF .i64 (x2s - x166')) (wrapF .i64 (Int.tdiv (wrapF .i64 (x2s - x1s)) 8)))) q167' h170')))))
  (∃ x171', ∃ q172', ∃ h173', EvC Tryd.prog O 134 [(.slice a0 n0 c0), (.int .i64 x1s), (.int .i64 x2s), (.int .i64 (wrapF .i64 ((wrapF .i64 (x2s - 1)) - (wrapF .i64 (x104' - x1s))))), (.func (.func g4s) fi4s ca4s)] (h107'.rsv 17) (.tuple #[(.int .i64 x171'), (.bool q172')]) h173' ∧
  vcond (ltI (wrapF .i64 (x171' - x1s)) (wrapF .i64 (x2s - x171')))
  (∃ h174', EvC Tryd.prog O 115 [(.slice a0 n0 c0), (.int .i64 x1s), (.int .i64 x171'), (.int .i64 (wrapF .i64 (x3s - 1))), (.func (.func g4s) fi4s ca4s)] h173' undef h174' ∧
  I115_0 O Q a0 n0 c0 x1 x2 x3 g4 fi4 ca4 (wrapF .i64 (x171' + 1)) x2s (wrapF .i64 (x3s - 1)) g4s fi4s ca4s (!(ltI (wrapF .i64 (x171' - x1s)) (wrapF .i64 (Int.tdiv (wrapF .i64 (x2s - x1s)) 8)))) q172' h174')
  (∃ h175', EvC Tryd.prog O 115 [(.slice a0 n0 c0), (.int .i64 (wrapF .i64 (x171' + 1))), (.int .i64 x2s), (.int .i64 (wrapF .i64 (x3s - 1))), (.func (.func g4s) fi4s ca4s)] h173' undef h175' ∧
  I115_0 O Q a0 n0 c0 x1 x2 x3 g4 fi4 ca4 x1s x171' (wrapF .i64 (x3s - 1)) g4s fi4s ca4s (!(ltI (wrapF .i64 (x2s - x171')) (wrapF .i64 (Int.tdiv (wrapF .i64 (x2s - x1s)) 8)))) q172' h175'))))
  (vcond q10
  (vcond q11
  (vcond (eqI x105' 1)
  (∃ q176', ∃ h177', EvC Tryd.prog O 132 [(.slice a0 n0 c0), (.int .i64 x1s), (.int .i64 x2s), (.func (.func g4s) fi4s ca4s)] h106' (.bool q176') h177' ∧
  vcond q176'
  (Q undef h177')
  (vcond (ltI 0 x1s)
  (isNat (wrapF .i64 (x1s - 1)) fun n178' =>
  isAddr a0 fun b179' f180' =>
  vreq (Nat.blt n178' n0)
  (∃ x181', readAt (h177'.rsv 17) b179' (f180' + (n178' * 1)) 1 = some [(.int .i64 x181')] ∧
  isNat x104' fun n182' =>
  isAddr a0 fun b183' f184' =>
  vreq (Nat.blt n182' n0)
  (∃ x185', readAt (h177'.rsv 17) b183' (f184' + (n182' * 1)) 1 = some [(.int .i64 x185')] ∧
  ∃ x186', ∃ h187', EvC Tryd.prog O g4s (fi4s.toList ++ [(.int .i64 x181'), (.int .i64 x185')] ++ ca4s.toList) ((h177'.rsv 17).grd []) (.int .i64 x186') h187' ∧
  vcond (!(ltI x186' 0))
  (∃ x188', ∃ h189', EvC Tryd.prog O 133 [(.slice a0 n0 c0), (.int .i64 x1s), (.int .i64 x2s), (.int .i64 x104'), (.func (.func g4s) fi4s ca4s)] (h187'.rst (h177'.rsv 17)) (.int .i64 x188') h189' ∧
  I115_0 O Q a0 n0 c0 x1 x2 x3 g4 fi4 ca4 x188' x2s (wrapF .i64 (x3s - 1)) g4s fi4s ca4s q10 q11 h189')
  (∃ x190', ∃ q191', ∃ h192', EvC Tryd.prog O 134 [(.slice a0 n0 c0), (.int .i64 x1s), (.int .i64 x2s), (.int .i64 x104'), (.func (.func g4s) fi4s ca4s)] (h187'.rst (h177'.rsv 17)) (.tuple #[(.int .i64 x190'), (.bool q191')]) h192' ∧
  vcond (ltI (wrapF .i64 (x190' - x1s)) (wrapF .i64 (x2s - x190')))
  (∃ h193', EvC Tryd.prog O 115 [(.slice a0 n0 c0), (.int .i64 x1s), (.int .i64 x190'), (.int .i64 (wrapF .i64 (x3s - 1))), (.func (.func g4s) fi4s ca4s)] h192' undef h193' ∧
  I115_0 O Q a0 n0 c0 x1 x2 x3 g4 fi4 ca4 (wrapF .i64 (x190' + 1)) x2s (wrapF .i64 (x3s - 1)) g4s fi4s ca4s (!(ltI (wrapF .i64 (x190' - x1s)) (wrapF .i64 (Int.tdiv (wrapF .i64 (x2s - x1s)) 8)))) q191' h193')
  (∃ h194', EvC Tryd.prog O 115 [(.slice a0 n0 c0), (.int .i64 (wrapF .i64 (x190' + 1))), (.int .i64 x2s), (.int .i64 (wrapF .i64 (x3s - 1))), (.func (.func g4s) fi4s ca4s)] h192' undef h194' ∧
  I115_0 O Q a0 n0 c0 x1 x2 x3 g4 fi4 ca4 x1s x190' (wrapF .i64 (x3s - 1)) g4s fi4s ca4s (!(ltI (wrapF .i64 (x2s - x190')) (wrapF .i64 (Int.tdiv (wrapF .i64 (x2s - x1s)) 8)))) q191' h194')))))
  (∃ x195', ∃ q196', ∃ h197', EvC Tryd.prog O 134 [(.slice a0 n0 c0), (.int .i64 x1s), (.int .i64 x2s), (.int .i64 x104'), (.func (.func g4s) fi4s ca4s)] (h177'.rsv 17) (.tuple #[(.int .i64 x195'), (.bool q196')]) h197' ∧
  vcond (ltI (wrapF .i64 (x195' - x1s)) (wrapF .i64 (x2s - x195')))
  (∃ h198', EvC Tryd.prog O 115 [(.slice a0 n0 c0), (.int .i64 x1s), (.int .i64 x195'), (.int .i64 (wrapF .i64 (x3s - 1))), (.func (.func g4s) fi4s ca4s)] h197' undef h198' ∧
  I115_0 O Q a0 n0 c0 x1 x2 x3 g4 fi4 ca4 (wrapF .i64 (x195' + 1)) x2s (wrapF .i64 (x3s - 1)) g4s fi4s ca4s (!(ltI (wrapF .i64 (x195' - x1s)) (wrapF .i64 (Int.tdiv (wrapF .i64 (x2s - x1s)) 8)))) q196' h198')
  (∃ h199', EvC Tryd.prog O 115 [(.slice a0 n0 c0), (.int .i64 (wrapF .i64 (x195' + 1))), (.int .i64 x2s), (.int .i64 (wrapF .i64 (x3s - 1))), (.func (.func g4s) fi4s ca4s)] h197' undef h199' ∧
  I115_0 O Q a0 n0 c0 x1 x2 x3 g4 fi4 ca4 x1s x195' (wrapF .i64 (x3s - 1)) g4s fi4s ca4s (!(ltI (wrapF .i64 (x2s - x195')) (wrapF .i64 (Int.tdiv (wrapF .i64 (x2s - x1s)) 8)))) q196' h199'))))
  (vcond (ltI 0 x1s)
  (isNat (wrapF .i64 (x1s - 1)) fun n200' =>
  isAddr a0 fun b201' f202' =>
  vreq (Nat.blt n200' n0)
  (∃ x203', readAt (h106'.rsv 17) b201' (f202' + (n200' * 1)) 1 = some [(.int .i64 x203')] ∧
  isNat x104' fun n204' =>
  isAddr a0 fun b205' f206' =>
  vreq (Nat.blt n204' n0)
  (∃ x207', readAt (h106'.rsv 17) b205' (f206' + (n204' * 1)) 1 = some [(.int .i64 x207')] ∧
  ∃ x208', ∃ h209', EvC Tryd.prog O g4s (fi4s.toList ++ [(.int .i64 x203'), (.int .i64 x207')] ++ ca4s.toList) ((h106'.rsv 17).grd []) (.int .i64 x208') h209' ∧
  vcond (!(ltI x208' 0))
  (∃ x210', ∃ h211', EvC Tryd.prog O 133 [(.slice a0 n0 c0), (.int .i64 x1s), (.int .i64 x2s), (.int .i64 x104'), (.func (.func g4s) fi4s ca4s)] (h209'.rst (h106'.rsv 17)) (.int .i64 x210') h211' ∧
  I115_0 O Q a0 n0 c0 x1 x2 x3 g4 fi4 ca4 x210' x2s (wrapF .i64 (x3s - 1)) g4s fi4s ca4s q10 q11 h211')
  (∃ x212', ∃ q213', ∃ h214', EvC Tryd.prog O 134 [(.slice a0 n0 c0), (.int .i64 x1s), (.int .i64 x2s), (.int .i64 x104'), (.func (.func g4s) fi4s ca4s)] (h209'.rst (h106'.rsv 17)) (.tuple #[(.int .i64 x212'), (.bool q213')]) h214' ∧
  vcond (ltI (wrapF .i64 (x212' - x1s)) (wrapF .i64 (x2s - x212')))
  (∃ h215', EvC Tryd.prog O 115 [(.slice a0 n0 c0), (.int .i64 x1s), (.int .i64 x212'), (.int .i64 (wrapF .i64 (x3s - 1))), (.func (.func g4s) fi4s ca4s)] h214' undef h215' ∧
  I115_0 O Q a0 n0 c0 x1 x2 x3 g4 fi4 ca4 (wrapF .i64 (x212' + 1)) x2s (wrapF .i64 (x3s - 1)) g4s fi4s ca4s (!(ltI (wrapF .i64 (x212' - x1s)) (wrapF .i64 (Int.tdiv (wrapF .i64 (x2s - x1s)) 8)))) q213' h215')
  (∃ h216', EvC Tryd.prog O 115 [(.slice a0 n0 c0), (.int .i64 (wrapF .i64 (x212' + 1))), (.int .i64 x2s), (.int .i64 (wrapF .i64 (x3s - 1))), (.func (.func g4s) fi4s ca4s)] h214' undef h216' ∧
  I115_0 O Q a0 n0 c0 x1 x2 x3 g4 fi4 ca4 x1s x212' (wrapF .i64 (x3s - 1)) g4s fi4s ca4s (!(ltI (wrapF .i64 (x2s - x212')) (wrapF .i64 (Int.tdiv (wrapF .i64 (x2s - x1s)) 8)))) q213' h216')))))
  (∃ x217', ∃ q218', ∃ h219', EvC Tryd.prog O 134 [(.slice a0 n0 c0), (.int .i64 x1s), (.int .i64 x2s), (.int .i64 x104'), (.func (.func g4s) fi4s ca4s)] (h106'.rsv 17) (.tuple #[(.int .i64 x217'), (.bool q218')]) h219' ∧
  vcond (ltI (wrapF .i64 (x217' - x1s)) (wrapF .i64 (x2s - x217')))
  (∃ h220', EvC Tryd.prog O 115 [(.slice a0 n0 c0), (.int .i64 x1s), (.int .i64 x217'), (.int .i64 (wrapF .i64 (x3s - 1))), (.func (.func g4s) fi4s ca4s)] h219' undef h220' ∧
  I115_0 O Q a0 n0 c0 x1 x2 x3 g4 fi4 ca4 (wrapF .i64 (x217' + 1)) x2s (wrapF .i64 (x3s - 1)) g4s fi4s ca4s (!(ltI (wrapF .i64 (x217' - x1s)) (wrapF .i64 (Int.tdiv (wrapF .i64 (x2s - x1s)) 8)))) q218' h220')
  (∃ h221', EvC Tryd.prog O 115 [(.slice a0 n0 c0), (.int .i64 (wrapF .i64 (x217' + 1))), (.int .i64 x2s), (.int .i64 (wrapF .i64 (x3s - 1))), (.func (.func g4s) fi4s ca4s)] h219' undef h221' ∧
  I115_0 O Q a0 n0 c0 x1 x2 x3 g4 fi4 ca4 x1s x217' (wrapF .i64 (x3s - 1)) g4s fi4s ca4s (!(ltI (wrapF .i64 (x2s - x217')) (wrapF .i64 (Int.tdiv (wrapF .i64 (x2s - x1s)) 8)))) q218' h221'))))
  (vcond (ltI 0 x1s)
  (isNat (wrapF .i64 (x1s - 1)) fun n222' =>
  isAddr a0 fun b223' f224' =>
  vreq (Nat.blt n222' n0)
  (∃ x225', readAt (h106'.rsv 17) b223' (f224' + (n222' * 1)) 1 = some [(.int .i64 x225')] ∧
  isNat x104' fun n226' =>
  isAddr a0 fun b227' f228' =>
  vreq (Nat.blt n226' n0)
  (∃ x229', readAt (h106'.rsv 17) b227' (f228' + (n226' * 1)) 1 = some [(.int .i64 x229')] ∧
  ∃ x230', ∃ h231', EvC Tryd.prog O g4s (fi4s.toList ++ [(.int .i64 x225'), (.int .i64 x229')] ++ ca4s.toList) ((h106'.rsv 17).grd []) (.int .i64 x230') h231' ∧
  vcond (!(ltI x230' 0))
  (∃ x232', ∃ h233', EvC Tryd.prog O 133 [(.slice a0 n0 c0), (.int .i64 x1s), (.int .i64 x2s), (.int .i64 x104'), (.func (.func g4s) fi4s ca4s)] (h231'.rst (h106'.rsv 17)) (.int .i64 x232') h233' ∧
  I115_0 O Q a0 n0 c0 x1 x2 x3 g4 fi4 ca4 x232' x2s (wrapF .i64 (x3s - 1)) g4s fi4s ca4s q10 q11 h233')
  (∃ x234', ∃ q235', ∃ h236', EvC Tryd.prog O 134 [(.slice a0 n0 c0), (.int .i64 x1s), (.int .i64 x2s), (.int .i64 x104'), (.func (.func g4s) fi4s ca4s)] (h231'.rst (h106'.rsv 17)) (.tuple #[(.int .i64 x234'), (.bool q235')]) h236' ∧
  vcond (ltI (wrapF .i64 (x234' - x1s)) (wrapF .i64 (x2s - x234')))
  (∃ h237', EvC Tryd.prog O 115 [(.slice a0 n0 c0), (.int .i64 x1s), (.int .i64 x234'), (.int .i64 (wrapF .i64 (x3s - 1))), (.func (.func g4s) fi4s ca4s)] h236' undef h237' ∧
  I115_0 O Q a0 n0 c0 x1 x2 x3 g4 fi4 ca4 (wrapF .i64 (x234' + 1)) x2s (wrapF .i64 (x3s - 1)) g4s fi4s ca4s (!(ltI (wrapF .i64 (x234' - x1s)) (wrapF .i64 (Int.tdiv (wrapF .i64 (x2s - x1s)) 8)))) q235' h237')
  (∃ h238', EvC Tryd.prog O 115 [(.slice a0 n0 c0), (.int .i64 (wrapF .i64 (x234' + 1))), (.int .i64 x2s), (.int .i64 (wrapF .i64 (x3s - 1))), (.func (.func g4s) fi4s ca4s)] h236' undef h238' ∧
  I115_0 O Q a0 n0 c0 x1 x2 x3 g4 fi4 ca4 x1s x234' (wrapF .i64 (x3s - 1)) g4s fi4s ca4s (!(ltI (wrapF .i64 (x2s - x234')) (wrapF .i64 (Int.tdiv (wrapF .i64 (x2s - x1s)) 8)))) q235' h238')))))
  (∃ x239', ∃ q240', ∃ h241', EvC Tryd.prog O 134 [(.slice a0 n0 c0), (.int .i64 x1s), (.int .i64 x2s), (.int .i64 x104'), (.func (.func g4s) fi4s ca4s)] (h106'.rsv 17) (.tuple #[(.int .i64 x239'), (.bool q240')]) h241' ∧
  vcond (ltI (wrapF .i64 (x239' - x1s)) (wrapF .i64 (x2s - x239')))
  (∃ h242', EvC Tryd.prog O 115 [(.slice a0 n0 c0), (.int .i64 x1s), (.int .i64 x239'), (.int .i64 (wrapF .i64 (x3s - 1))), (.func (.func g4s) fi4s ca4s)] h241' undef h242' ∧
  I115_0 O Q a0 n0 c0 x1 x2 x3 g4 fi4 ca4 (wrapF .i64 (x239' + 1)) x2s (wrapF .i64 (x3s - 1)) g4s fi4s ca4s (!(ltI (wrapF .i64 (x239' - x1s)) (wrapF .i64 (Int.tdiv (wrapF .i64 (x2s - x1s)) 8)))) q240' h242')
  (∃ h243', EvC Tryd.prog O 115 [(.slice a0 n0 c0), (.int .i64 (wrapF .i64 (x239' + 1))), (.int .i64 x2s), (.int .i64 (wrapF .i64 (x3s - 1))), (.func (.func g4s) fi4s ca4s)] h241' undef h243' ∧
  I115_0 O Q a0 n0 c0 x1 x2 x3 g4 fi4 ca4 x1s x239' (wrapF .i64 (x3s - 1)) g4s fi4s ca4s (!(ltI (wrapF .i64 (x2s - x239')) (wrapF .i64 (Int.tdiv (wrapF .i64 (x2s - x1s)) 8)))) q240' h243'))))
  (vcond (ltI 0 x1s)
  (isNat (wrapF .i64 (x1s - 1)) fun n244' =>
  isAddr a0 fun b245' f246' =>
  vreq (Nat.blt n244' n0)
  (∃ x247', readAt (h106'.rsv 17) b245' (f246' + (n244' * 1)) 1 = some [(.int .i64 x247')] ∧
  isNat x104' fun n248' =>
  isAddr a0 fun b249' f250' =>
  vreq (Nat.blt n248' n0)
  (∃ x251', readAt (h106'.rsv 17) b249' (f250' + (n248' * 1)) 1 = some [(.int .i64 x251')] ∧
  ∃ x252', ∃ h253', EvC Tryd.prog O g4s (fi4s.toList ++ [(.int .i64 x247'), (.int .i64 x251')] ++ ca4s.toList) ((h106'.rsv 17).grd []) (.int .i64 x252') h253' ∧
  vcond (!(ltI x252' 0))
  (∃ x254', ∃ h255', EvC Tryd.prog O 133 [(.slice a0 n0 c0), (.int .i64 x1s), (.int .i64 x2s), (.int .i64 x104'), (.func (.func g4s) fi4s ca4s)] (h253'.rst (h106'.rsv 17)) (.int .i64 x254') h255' ∧
  I115_0 O Q a0 n0 c0 x1 x2 x3 g4 fi4 ca4 x254' x2s (wrapF .i64 (x3s - 1)) g4s fi4s ca4s q10 q11 h255')
  (∃ x256', ∃ q257', ∃ h258', EvC Tryd.prog O 134 [(.slice a0 n0 c0), (.int .i64 x1s), (.int .i64 x2s), (.int .i64 x104'), (.func (.func g4s) fi4s ca4s)] (h253'.rst (h106'.rsv 17)) (.tuple #[(.int .i64 x256'), (.bool q257')]) h258' ∧
  vcond (ltI (wrapF .i64 (x256' - x1s)) (wrapF .i64 (x2s - x256')))
  (∃ h259', EvC Tryd.prog O 115 [(.slice a0 n0 c0), (.int .i64 x1s), (.int .i64 x256'), (.int .i64 (wrapF .i64 (x3s - 1))), (.func (.func g4s) fi4s ca4s)] h258' undef h259' ∧
  I115_0 O Q a0 n0 c0 x1 x2 x3 g4 fi4 ca4 (wrapF .i64 (x256' + 1)) x2s (wrapF .i64 (x3s - 1)) g4s fi4s ca4s (!(ltI (wrapF .i64 (x256' - x1s)) (wrapF .i64 (Int.tdiv (wrapF .i64 (x2s - x1s)) 8)))) q257' h259')
  (∃ h260', EvC Tryd.prog O 115 [(.slice a0 n0 c0), (.int .i64 (wrapF .i64 (x256' + 1))), (.int .i64 x2s), (.int .i64 (wrapF .i64 (x3s - 1))), (.func (.func g4s) fi4s ca4s)] h258' undef h260' ∧
  I115_0 O Q a0 n0 c0 x1 x2 x3 g4 fi4 ca4 x1s x256' (wrapF .i64 (x3s - 1)) g4s fi4s ca4s (!(ltI (wrapF .i64 (x2s - x256')) (wrapF .i64 (Int.tdiv (wrapF .i64 (x2s - x1s)) 8)))) q257' h260')))))
  (∃ x261', ∃ q262', ∃ h263', EvC Tryd.prog O 134 [(.slice a0 n0 c0), (.int .i64 x1s), (.int .i64 x2s), (.int .i64 x104'), (.func (.func g4s) fi4s ca4s)] (h106'.rsv 17) (.tuple #[(.int .i64 x261'), (.bool q262')]) h263' ∧
  vcond (ltI (wrapF .i64 (x261' - x1s)) (wrapF .i64 (x2s - x261')))
  (∃ h264', EvC Tryd.prog O 115 [(.slice a0 n0 c0), (.int .i64 x1s), (.int .i64 x261'), (.int .i64 (wrapF .i64 (x3s - 1))), (.func (.func g4s) fi4s ca4s)] h263' undef h264' ∧
  I115_0 O Q a0 n0 c0 x1 x2 x3 g4 fi4 ca4 (wrapF .i64 (x261' + 1)) x2s (wrapF .i64 (x3s - 1)) g4s fi4s ca4s (!(ltI (wrapF .i64 (x261' - x1s)) (wrapF .i64 (Int.tdiv (wrapF .i64 (x2s - x1s)) 8)))) q262' h264')
  (∃ h265', EvC Tryd.prog O 115 [(.slice a0 n0 c0), (.int .i64 (wrapF .i64 (x261' + 1))), (.int .i64 x2s), (.int .i64 (wrapF .i64 (x3s - 1))), (.func (.func g4s) fi4s ca4s)] h263' undef h265' ∧
  I115_0 O Q a0 n0 c0 x1 x2 x3 g4 fi4 ca4 x1s x261' (wrapF .i64 (x3s - 1)) g4s fi4s ca4s (!(ltI (wrapF .i64 (x2s - x261')) (wrapF .i64 (Int.tdiv (wrapF .i64 (x2s - x1s)) 8)))) q262' h265')))))
  (∃ x266', ∃ x267', ∃ h268', EvC Tryd.prog O 130 [(.slice a0 n0 c0), (.int .i64 x1s), (.int .i64 x2s), (.func (.func g4s) fi4s ca4s)] h (.tuple #[(.int .i64 x266'), (.int .i64 x267')]) h268' ∧
  vcond (eqI x267' 2)
  (∃ h269', EvC Tryd.prog O 131 [(.slice a0 n0 c0), (.int .i64 x1s), (.int .i64 x2s), (.func (.func g4s) fi4s ca4s)] h268' undef h269' ∧
  vcond q10
  (vcond q11
  (∃ q270', ∃ h271', EvC Tryd.prog O 132 [(.slice a0 n0 c0), (.int .i64 x1s), (.int .i64 x2s), (.func (.func g4s) fi4s ca4s)] h269' (.bool q270') h271' ∧
  vcond q270'
  (Q undef h271')
  (vcond (ltI 0 x1s)
  (isNat (wrapF .i64 (x1s - 1)) fun n272' =>
  isAddr a0 fun b273' f274' =>
  vreq (Nat.blt n272' n0)
  (∃ x275', readAt (h271'.rsv 17) b273' (f274' + (n272' * 1)) 1 = some [(.int .i64 x275')] ∧
  isNat (wrapF .i64 ((wrapF .i64 (x2s - 1)) - (wrapF .i64 (x266' - x1s)))) fun n276' =>
  isAddr a0 fun b277' f278' =>
  vreq (Nat.blt n276' n0)
  (∃ x279', readAt (h271'.rsv 17) b277' (f278' + (n276' * 1)) 1 = some [(.int .i64 x279')] ∧
  ∃ x280', ∃ h281', EvC Tryd.prog O g4s (fi4s.toList ++ [(.int .i64 x275'), (.int .i64 x279')] ++ ca4s.toList) ((h271'.rsv 17).grd []) (.int .i64 x280') h281' ∧
  vcond (!(ltI x280' 0))
  (∃ x282', ∃ h283', EvC Tryd.prog O 133 [(.slice a0 n0 c0), (.int .i64 x1s), (.int .i64 x2s), (.int .i64 (wrapF .i64 ((wrapF .i64 (x2s - 1)) - (wrapF .i64 (x266' - x1s))))), (.func (.func g4s) fi4s ca4s)] (h281'.rst (h271'.rsv 17)) (.int .i64 x282') h283' ∧
  I115_0 O Q a0 n0 c0 x1 x2 x3 g4 fi4 ca4 x282' x2s x3s g4s fi4s ca4s q10 q11 h283')
  (∃ x284', ∃ q285', ∃ h286', EvC Tryd.prog O 134 [(.slice a0 n0 c0), (.int .i64 x1s), (.int .i64 x2s), (.int .i64 (wrapF .i64 ((wrapF .i64 (x2s - 1)) - (wrapF .i64 (x266' - x1s))))), (.func (.func g4s) fi4s ca4s)] (h281'.rst (h271'.rsv 17)) (.tuple #[(.int .i64 x284'), (.bool q285')]) h286' ∧
  vcond (ltI (wrapF .i64 (x284' - x1s)) (wrapF .i64 (x2s - x284')))
  (∃ h287', EvC Tryd.prog O 115 [(.slice a0 n0 c0), (.int .i64 x1s), (.int .i64 x284'), (.int .i64 x3s), (.func (.func g4s) fi4s ca4s)] h286' undef h287' ∧
  I115_0 O Q a0 n0 c0 x1 x2 x3 g4 fi4 ca4 (wrapF .i64 (x284' + 1)) x2s x3s g4s fi4s ca4s (!(ltI (wrapF .i64 (x284' - x1s)) (wrapF .i64 (Int.tdiv (wrapF .i64 (x2s - x1s)) 8)))) q285' h287')
  (∃ h288', EvC Tryd.prog O 115 [(.slice a0 n0 c0), (.int .i64 (wrapF .i64 (x284' + 1))), (.int .i64 x2s), (.int .i64 x3s), (.func (.func g4s) fi4s ca4s)] h286' undef h288' ∧
  I115_0 O Q a0 n0 c0 x1 x2 x3 g4 fi4 ca4 x1s x284' x3s g4s fi4s ca4s (!(ltI (wrapF .i64 (x2s - x284')) (wrapF .i64 (Int.tdiv (wrapF .i64 (x2s - x1s)) 8)))) q285' h288')))))
  (∃ x289', ∃ q290', ∃ h291', EvC Tryd.prog O 134 [(.slice a0 n0 c0), (.int .i64 x1s), (.int .i64 x2s), (.int .i64 (wrapF .i64 ((wrapF .i64 (x2s - 1)) - (wrapF .i64 (x266' - x1s))))), (.func (.func g4s) fi4s ca4s)] (h271'.rsv 17) (.tuple #[(.int .i64 x289'), (.bool q290')]) h291' ∧
  vcond (ltI (wrapF .i64 (x289' - x1s)) (wrapF .i64 (x2s - x289')))
  (∃ h292', EvC Tryd.prog O 115 [(.slice a0 n0 c0), (.int .i64 x1s), (.int .i64 x289'), (.int .i64 x3s), (.func (.func g4s) fi4s ca4s)] h291' undef h292' ∧
  I115_0 O Q a0 n0 c0 x1 x2 x3 g4 fi4 ca4 (wrapF .i64 (x289' + 1)) x2s x3s g4s fi4s ca4s (!(ltI (wrapF .i64 (x289' - x1s)) (wrapF .i64 (Int.tdiv (wrapF .i64 (x2s - x1s)) 8)))) q290' h292')
  (∃ h293', EvC Tryd.prog O 115 [(.slice a0 n0 c0), (.int .i64 (wrapF .i64 (x289' + 1))), (.int .i64 x2s), (.int .i64 x3s), (.func (.func g4s) fi4s ca4s)] h291' undef h293' ∧
  I115_0 O Q a0 n0 c0 x1 x2 x3 g4 fi4 ca4 x1s x289' x3s g4s fi4s ca4s (!(ltI (wrapF .i64 (x2s - x289')) (wrapF .i64 (Int.tdiv (wrapF .i64 (x2s - x1s)) 8)))) q290' h293'))))
  (vcond (ltI 0 x1s)
  (isNat (wrapF .i64 (x1s - 1)) fun n294' =>
  isAddr a0 fun b295' f296' =>
  vreq (Nat.blt n294' n0)
  (∃ x297', readAt (h269'.rsv 17) b295' (f296' + (n294' * 1)) 1 = some [(.int .i64 x297')] ∧
  isNat (wrapF .i64 ((wrapF .i64 (x2s - 1)) - (wrapF .i64 (x266' - x1s)))) fun n298' =>
  isAddr a0 fun b299' f300' =>
  vreq (Nat.blt n298' n0)
  (∃ x301', readAt (h269'.rsv 17) b299' (f300' + (n298' * 1)) 1 = some [(.int .i64 x301')] ∧
  ∃ x302', ∃ h303', EvC Tryd.prog O g4s (fi4s.toList ++ [(.int .i64 x297'), (.int .i64 x301')] ++ ca4s.toList) ((h269'.rsv 17).grd []) (.int .i64 x302') h303' ∧
  vcond (!(ltI x302' 0))
  (∃ x304', ∃ h305', EvC Tryd.prog O 133 [(.slice a0 n0 c0), (.int .i64 x1s), (.int .i64 x2s), (.int .i64 (wrapF .i64 ((wrapF .i64 (x2s - 1)) - (wrapF .i64 (x266' - x1s))))), (.func (.func g4s) fi4s ca4s)] (h303'.rst (h269'.rsv 17)) (.int .i64 x304') h305' ∧
  I115_0 O Q a0 n0 c0 x1 x2 x3 g4 fi4 ca4 x304' x2s x3s g4s fi4s ca4s q10 q11 h305')
  (∃ x306', ∃ q307', ∃ h308', EvC Tryd.prog O 134 [(.slice a0 n0 c0), (.int .i64 x1s), (.int .i64 x2s), (.int .i64 (wrapF .i64 ((wrapF .i64 (x2s - 1)) - (wrapF .i64 (x266' - x1s))))), (.func (.func g4s) fi4s ca4s)] (h303'.rst (h269'.rsv 17)) (.tuple #[(.int .i64 x306'), (.bool q307')]) h308' ∧
  vcond (ltI (wrapF .i64 (x306' - x1s)) (wrapF .i64 (x2s - x306')))
  (∃ h309', EvC Tryd.prog O 115 [(.slice a0 n0 c0), (.int .i64 x1s), (.int .i64 x306'), (.int .i64 x3s), (.func (.func g4s) fi4s ca4s)] h308' undef h309' ∧
  I115_0 O Q a0 n0 c0 x1 x2 x3 g4 fi4 ca4 (wrapF .i64 (x306' + 1)) x2s x3s g4s fi4s ca4s (!(ltI (wrapF .i64 (x306' - x1s)) (wrapF .i64 (Int.tdiv (wrapF .i64 (x2s - x1s)) 8)))) q307' h309')
  (∃ h310', EvC Tryd.prog O 115 [(.slice a0 n0 c0), (.int .i64 (wrapF .i64 (x306' + 1))), (.int .i64 x2s), (.int .i64 x3s), (.func (.func g4s) fi4s ca4s)] h308' undef h310' ∧
  I115_0 O Q a0 n0 c0 x1 x2 x3 g4 fi4 ca4 x1s x306' x3s g4s fi4s ca4s (!(ltI (wrapF .i64 (x2s - x306')) (wrapF .i64 (Int.tdiv (wrapF .i64 (x2s - x1s)) 8)))) q307' h310')))))
  (∃ x311', ∃ q312', ∃ h313', EvC Tryd.prog O 134 [(.slice a0 n0 c0), (.int .i64 x1s), (.int .i64 x2s), (.int .i64 (wrapF .i64 ((wrapF .i64 (x2s - 1)) - (wrapF .i64 (x266' - x1s))))), (.func (.func g4s) fi4s ca4s)] (h269'.rsv 17) (.tuple #[(.int .i64 x311'), (.bool q312')]) h313' ∧
  vcond (ltI (wrapF .i64 (x311' - x1s)) (wrapF .i64 (x2s - x311')))
  (∃ h314', EvC Tryd.prog O 115 [(.slice a0 n0 c0), (.int .i64 x1s), (.int .i64 x311'), (.int .i64 x3s), (.func (.func g4s) fi4s ca4s)] h313' undef h314' ∧
  I115_0 O Q a0 n0 c0 x1 x2 x3 g4 fi4 ca4 (wrapF .i64 (x311' + 1)) x2s x3s g4s fi4s ca4s (!(ltI (wrapF .i64 (x311' - x1s)) (wrapF .i64 (Int.tdiv (wrapF .i64 (x2s - x1s)) 8)))) q312' h314')
  (∃ h315', EvC Tryd.prog O 115 [(.slice a0 n0 c0), (.int .i64 (wrapF .i64 (x311' + 1))), (.int .i64 x2s), (.int .i64 x3s), (.func (.func g4s) fi4s ca4s)] h313' undef h315' ∧
  I115_0 O Q a0 n0 c0 x1 x2 x3 g4 fi4 ca4 x1s x311' x3s g4s fi4s ca4s (!(ltI (wrapF .i64 (x2s - x311')) (wrapF .i64 (Int.tdiv (wrapF .i64 (x2s - x1s)) 8)))) q312' h315'))))
  (vcond (ltI 0 x1s)
  (isNat (wrapF .i64 (x1s - 1)) fun n316' =>
  isAddr a0 fun b317' f318' =>
  vreq (Nat.blt n316' n0)
  (∃ x319', readAt (h269'.rsv 17) b317' (f318' + (n316' * 1)) 1 = some [(.int .i64 x319')] ∧
  isNat (wrapF .i64 ((wrapF .i64 (x2s - 1)) - (wrapF .i64 (x266' - x1s)))) fun n320' =>
  isAddr a0 fun b321' f322' =>
  vreq (Nat.blt n320' n0)
  (∃ x323', readAt (h269'.rsv 17) b321' (f322' + (n320' * 1)) 1 = some [(.int .i64 x323')] ∧
  ∃ x324', ∃ h325', EvC Tryd.prog O g4s (fi4s.toList ++ [(.int .i64 x319'), (.int .i64 x323')] ++ ca4s.toList) ((h269'.rsv 17).grd []) (.int .i64 x324') h325' ∧
  vcond (!(ltI x324' 0))
  (∃ x326', ∃ h327', EvC Tryd.prog O 133 [(.slice a0 n0 c0), (.int .i64 x1s), (.int .i64 x2s), (.int .i64 (wrapF .i64 ((wrapF .i64 (x2s - 1)) - (wrapF .i64 (x266' - x1s))))), (.func (.func g4s) fi4s ca4s)] (h325'.rst (h269'.rsv 17)) (.int .i64 x326') h327' ∧
  I115_0 O Q a0 n0 c0 x1 x2 x3 g4 fi4 ca4 x326' x2s x3s g4s fi4s ca4s q10 q11 h327')
  (∃ x328', ∃ q329', ∃ h330', EvC Tryd.prog O 134 [(.slice a0 n0 c0), (.int .i64 x1s), (.int .i64 x2s), (.int .i64 (wrapF .i64 ((wrapF .i64 (x2s - 1)) - (wrapF .i64 (x266' - x1s))))), (.func (.func g4s) fi4s ca4s)] (h325'.rst (h269'.rsv 17)) (.tuple #[(.int .i64 x328'), (.bool q329')]) h330' ∧
  vcond (ltI (wrapF .i64 (x328' - x1s)) (wrapF .i64 (x2s - x328')))
  (∃ h331', EvC Tryd.prog O 115 [(.slice a0 n0 c0), (.int .i64 x1s), (.int .i64 x328'), (.int .i64 x3s), (.func (.func g4s) fi4s ca4s)] h330' undef h331' ∧
  I115_0 O Q a0 n0 c0 x1 x2 x3 g4 fi4 ca4 (wrapF .i64 (x328' + 1)) x2s x3s g4s fi4s ca4s (!(ltI (wrapF .i64 (x328' - x1s)) (wrapF .i64 (Int.tdiv (wrapF .i64 (x2s - x1s)) 8)))) q329' h331')
  (∃ h332', EvC Tryd.prog O 115 [(.slice a0 n0 c0), (.int .i64 (wrapF .i64 (x328' + 1))), (.int .i64 x2s), (.int .i64 x3s), (.func (.func g4s) fi4s ca4s)] h330' undef h332' ∧
  I115_0 O Q a0 n0 c0 x1 x2 x3 g4 fi4 ca4 x1s x328' x3s g4s fi4s ca4s (!(ltI (wrapF .i64 (x2s - x328')) (wrapF .i64 (Int.tdiv (wrapF .i64 (x2s - x1s)) 8)))) q329' h332')))))
  (∃ x333', ∃ q334', ∃ h335', EvC Tryd.prog O 134 [(.slice a0 n0 c0), (.int .i64 x1s), (.int .i64 x2s), (.int .i64 (wrapF .i64 ((wrapF .i64 (x2s - 1)) - (wrapF .i64 (x266' - x1s))))), (.func (.func g4s) fi4s ca4s)] (h269'.rsv 17) (.tuple #[(.int .i64 x333'), (.bool q334')]) h335' ∧
  vcond (ltI (wrapF .i64 (x333' - x1s)) (wrapF .i64 (x2s - x333')))
  (∃ h336', EvC Tryd.prog O 115 [(.slice a0 n0 c0), (.int .i64 x1s), (.int .i64 x333'), (.int .i64 x3s), (.func (.func g4s) fi4s ca4s)] h335' undef h336' ∧
  I115_0 O Q a0 n0 c0 x1 x2 x3 g4 fi4 ca4 (wrapF .i64 (x333' + 1)) x2s x3s g4s fi4s ca4s (!(ltI (wrapF .i64 (x333' - x1s)) (wrapF .i64 (Int.tdiv (wrapF .i64 (x2s - x1s)) 8)))) q334' h336')
  (∃ h337', EvC Tryd.prog O 115 [(.slice a0 n0 c0), (.int .i64 (wrapF .i64 (x333' + 1))), (.int .i64 x2s), (.int .i64 x3s), (.func (.func g4s) fi4s ca4s)] h335' undef h337' ∧
  I115_0 O Q a0 n0 c0 x1 x2 x3 g4 fi4 ca4 x1s x333' x3s g4s fi4s ca4s (!(ltI (wrapF .i64 (x2s - x333')) (wrapF .i64 (Int.tdiv (wrapF .i64 (x2s - x1s)) 8)))) q334' h337'))))
  (vcond q10
  (vcond q11
  (vcond (eqI x267' 1)
  (∃ q338', ∃ h339', EvC Tryd.prog O 132 [(.slice a0 n0 c0), (.int .i64 x1s), (.int .i64 x2s), (.func (.func g4s) fi4s ca4s)] h268' (.bool q338') h339' ∧
  vcond q338'
  (Q undef h339')
  (vcond (ltI 0 x1s)
  (isNat (wrapF .i64 (x1s - 1)) fun n340' =>
  isAddr a0 fun b341' f342' =>
  vreq (Nat.blt n340' n0)
  (∃ x343', readAt (h339'.rsv 17) b341' (f342' + (n340' * 1)) 1 = some [(.int .i64 x343')] ∧
  isNat x266' fun n344' =>
  isAddr a0 fun b345' f346' =>
  vreq (Nat.blt n344' n0)
  (∃ x347', readAt (h339'.rsv 17) b345' (f346' + (n344' * 1)) 1 = some [(.int .i64 x347')] ∧
  ∃ x348', ∃ h349', EvC Tryd.prog O g4s (fi4s.toList ++ [(.int .i64 x343'), (.int .i64 x347')] ++ ca4s.toList) ((h339'.rsv 17).grd []) (.int .i64 x348') h349' ∧
  vcond (!(ltI x348' 0))
  (∃ x350', ∃ h351', EvC Tryd.prog O 133 [(.slice a0 n0 c0), (.int .i64 x1s), (.int .i64 x2s), (.int .i64 x266'), (.func (.func g4s) fi4s ca4s)] (h349'.rst (h339'.rsv 17)) (.int .i64 x350') h351' ∧
  I115_0 O Q a0 n0 c0 x1 x2 x3 g4 fi4 ca4 x350' x2s x3s g4s fi4s ca4s q10 q11 h351')
  (∃ x352', ∃ q353', ∃ h354', EvC Tryd.prog O 134 [(.slice a0 n0 c0), (.int .i64 x1s), (.int .i64 x2s), (.int .i64 x266'), (.func (.func g4s) fi4s ca4s)] (h349'.rst (h339'.rsv 17)) (.tuple #[(.int .i64 x352'), (.bool q353')]) h354' ∧
  vcond (ltI (wrapF .i64 (x352' - x1s)) (wrapF .i64 (x2s - x352')))
  (∃ h355', EvC Tryd.prog O 115 [(.slice a0 n0 c0), (.int .i64 x1s), (.int .i64 x352'), (.int .i64 x3s), (.func (.func g4s) fi4s ca4s)] h354' undef h355' ∧
  I115_0 O Q a0 n0 c0 x1 x2 x3 g4 fi4 ca4 (wrapF .i64 (x352' + 1)) x2s x3s g4s fi4s ca4s (!(ltI (wrapF .i64 (x352' - x1s)) (wrapF .i64 (Int.tdiv (wrapF .i64 (x2s - x1s)) 8)))) q353' h355')
  (∃ h356', EvC Tryd.prog O 115 [(.slice a0 n0 c0), (.int .i64 (wrapF .i64 (x352' + 1))), (.int .i64 x2s), (.int .i64 x3s), (.func (.func g4s) fi4s ca4s)] h354' undef h356' ∧
  I115_0 O Q a0 n0 c0 x1 x2 x3 g4 fi4 ca4 x1s x352' x3s g4s fi4s ca4s (!(ltI (wrapF .i64 (x2s - x352')) (wrapF .i64 (Int.tdiv (wrapF .i64 (x2s - x1s)) 8)))) q353' h356')))))
  (∃ x357', ∃ q358', ∃ h359', EvC Tryd.prog O 134 [(.slice a0 n0 c0), (.int .i64 x1s), (.int .i64 x2s), (.int .i64 x266'), (.func (.func g4s) fi4s ca4s)] (h339'.rsv 17) (.tuple #[(.int .i64 x357'), (.bool q358')]) h359' ∧
  vcond (ltI (wrapF .i64 (x357' - x1s)) (wrapF .i64 (x2s - x357')))
  (∃ h360', EvC Tryd.prog O 115 [(.slice a0 n0 c0), (.int .i64 x1s), (.int .i64 x357'), (.int .i64 x3s), (.func (.func g4s) fi4s ca4s)] h359' undef h360' ∧
  I115_0 O Q a0 n0 c0 x1 x2 x3 g4 fi4 ca4 (wrapF .i64 (x357' + 1)) x2s x3s g4s fi4s ca4s (!(ltI (wrapF .i64 (x357' - x1s)) (wrapF .i64 (Int.tdiv (wrapF .i64 (x2s - x1s)) 8)))) q358' h360')
  (∃ h361', EvC Tryd.prog O 115 [(.slice a0 n0 c0), (.int .i64 (wrapF .i64 (x357' + 1))), (.int .i64 x2s), (.int .i64 x3s), (.func (.func g4s) fi4s ca4s)] h359' undef h361' ∧
  I115_0 O Q a0 n0 c0 x1 x2 x3 g4 fi4 ca4 x1s x357' x3s g4s fi4s ca4s (!(ltI (wrapF .i64 (x2s - x357')) (wrapF .i64 (Int.tdiv (wrapF .i64 (x2s - x1s)) 8)))) q358' h361'))))
  (vcond (ltI 0 x1s)
  (isNat (wrapF .i64 (x1s - 1)) fun n362' =>
  isAddr a0 fun b363' f364' =>
  vreq (Nat.blt n362' n0)
  (∃ x365', readAt (h268'.rsv 17) b363' (f364' + (n362' * 1)) 1 = some [(.int .i64 x365')] ∧
  isNat x266' fun n366' =>
  isAddr a0 fun b367' f368' =>
  vreq (Nat.blt n366' n0)
  (∃ x369', readAt (h268'.rsv 17) b367' (f368' + (n366' * 1)) 1 = some [(.int .i64 x369')] ∧
  ∃ x370', ∃ h371', EvC Tryd.prog O g4s (fi4s.toList ++ [(.int .i64 x365'), (.int .i64 x369')] ++ ca4s.toList) ((h268'.rsv 17).grd []) (.int .i64 x370') h371' ∧
  vcond (!(ltI x370' 0))
  (∃ x372', ∃ h373', EvC Tryd.prog O 133 [(.slice a0 n0 c0), (.int .i64 x1s), (.int .i64 x2s), (.int .i64 x266'), (.func (.func g4s) fi4s ca4s)] (h371'.rst (h268'.rsv 17)) (.int .i64 x372') h373' ∧
  I115_0 O Q a0 n0 c0 x1 x2 x3 g4 fi4 ca4 x372' x2s x3s g4s fi4s ca4s q10 q11 h373')
  (∃ x374', ∃ q375', ∃ h376', EvC Tryd.prog O 134 [(.slice a0 n0 c0), (.int .i64 x1s), (.int .i64 x2s), (.int .i64 x266'), (.func (.func g4s) fi4s ca4s)] (h371'.rst (h268'.rsv 17)) (.tuple #[(.int .i64 x374'), (.bool q375')]) h376' ∧
  vcond (ltI (wrapF .i64 (x374' - x1s)) (wrapF .i64 (x2s - x374')))
  (∃ h377', EvC Tryd.prog O 115 [(.slice a0 n0 c0), (.int .i64 x1s), (.int .i64 x374'), (.int .i64 x3s), (.func (.func g4s) fi4s ca4s)] h376' undef h377' ∧
  I115_0 O Q a0 n0 c0 x1 x2 x3 g4 fi4 ca4 (wrapF .i64 (x374' + 1)) x2s x3s g4s fi4s ca4s (!(ltI (wrapF .i64 (x374' - x1s)) (wrapF .i64 (Int.tdiv (wrapF .i64 (x2s - x1s)) 8)))) q375' h377')
  (∃ h378', EvC Tryd.prog O 115 [(.slice a0 n0 c0), (.int .i64 (wrapF .i64 (x374' + 1))), (.int .i64 x2s), (.int .i64 x3s), (.func (.func g4s) fi4s ca4s)] h376' undef h378' ∧
  I115_0 O Q a0 n0 c0 x1 x2 x3 g4 fi4 ca4 x1s x374' x3s g4s fi4s ca4s (!(ltI (wrapF .i64 (x2s - x374')) (wrapF .i64 (Int.tdiv (wrapF .i64 (x2s - x1s)) 8)))) q375' h378')))))
  (∃ x379', ∃ q380', ∃ h381', EvC Tryd.prog O 134 [(.slice a0 n0 c0), (.int .i64 x1s), (.int .i64 x2s), (.int .i64 x266'), (.func (.func g4s) fi4s ca4s)] (h268'.rsv 17) (.tuple #[(.int .i64 x379'), (.bool q380')]) h381' ∧
  vcond (ltI (wrapF .i64 (x379' - x1s)) (wrapF .i64 (x2s - x379')))
  (∃ h382', EvC Tryd.prog O 115 [(.slice a0 n0 c0), (.int .i64 x1s), (.int .i64 x379'), (.int .i64 x3s), (.func (.func g4s) fi4s ca4s)] h381' undef h382' ∧
  I115_0 O Q a0 n0 c0 x1 x2 x3 g4 fi4 ca4 (wrapF .i64 (x379' + 1)) x2s x3s g4s fi4s ca4s (!(ltI (wrapF .i64 (x379' - x1s)) (wrapF .i64 (Int.tdiv (wrapF .i64 (x2s - x1s)) 8)))) q380' h382')
  (∃ h383', EvC Tryd.prog O 115 [(.slice a0 n0 c0), (.int .i64 (wrapF .i64 (x379' + 1))), (.int .i64 x2s), (.int .i64 x3s), (.func (.func g4s) fi4s ca4s)] h381' undef h383' ∧
  I115_0 O Q a0 n0 c0 x1 x2 x3 g4 fi4 ca4 x1s x379' x3s g4s fi4s ca4s (!(ltI (wrapF .i64 (x2s - x379')) (wrapF .i64 (Int.tdiv (wrapF .i64 (x2s - x1s)) 8)))) q380' h383'))))
  (vcond (ltI 0 x1s)
  (isNat (wrapF .i64 (x1s - 1)) fun n384' =>
  isAddr a0 fun b385' f386' =>
  vreq (Nat.blt n384' n0)
  (∃ x387', readAt (h268'.rsv 17) b385' (f386' + (n384' * 1)) 1 = some [(.int .i64 x387')] ∧
  isNat x266' fun n388' =>
  isAddr a0 fun b389' f390' =>
  vreq (Nat.blt n388' n0)
  (∃ x391', readAt (h268'.rsv 17) b389' (f390' + (n388' * 1)) 1 = some [(.int .i64 x391')] ∧
  ∃ x392', ∃ h393', EvC Tryd.prog O g4s (fi4s.toList ++ [(.int .i64 x387'), (.int .i64 x391')] ++ ca4s.toList) ((h268'.rsv 17).grd []) (.int .i64 x392') h393' ∧
  vcond (!(ltI x392' 0))
  (∃ x394', ∃ h395', EvC Tryd.prog O 133 [(.slice a0 n0 c0), (.int .i64 x1s), (.int .i64 x2s), (.int .i64 x266'), (.func (.func g4s) fi4s ca4s)] (h393'.rst (h268'.rsv 17)) (.int .i64 x394') h395' ∧
  I115_0 O Q a0 n0 c0 x1 x2 x3 g4 fi4 ca4 x394' x2s x3s g4s fi4s ca4s q10 q11 h395')
  (∃ x396', ∃ q397', ∃ h398', EvC Tryd.prog O 134 [(.slice a0 n0 c0), (.int .i64 x1s), (.int .i64 x2s), (.int .i64 x266'), (.func (.func g4s) fi4s ca4s)] (h393'.rst (h268'.rsv 17)) (.tuple #[(.int .i64 x396'), (.bool q397')]) h398' ∧
  vcond (ltI (wrapF .i64 (x396' - x1s)) (wrapF .i64 (x2s - x396')))
  (∃ h399', EvC Tryd.prog O 115 [(.slice a0 n0 c0), (.int .i64 x1s), (.int .i64 x396'), (.int .i64 x3s), (.func (.func g4s) fi4s ca4s)] h398' undef h399' ∧
  I115_0 O Q a0 n0 c0 x1 x2 x3 g4 fi4 ca4 (wrapF .i64 (x396' + 1)) x2s x3s g4s fi4s ca4s (!(ltI (wrapF .i64 (x396' - x1s)) (wrapF .i64 (Int.tdiv (wrapF .i64 (x2s - x1s)) 8)))) q397' h399')
  (∃ h400', EvC Tryd.prog O 115 [(.slice a0 n0 c0), (.int .i64 (wrapF .i64 (x396' + 1))), (.int .i64 x2s), (.int .i64 x3s), (.func (.func g4s) fi4s ca4s)] h398' undef h400' ∧
  I115_0 O Q a0 n0 c0 x1 x2 x3 g4 fi4 ca4 x1s x396' x3s g4s fi4s ca4s (!(ltI (wrapF .i64 (x2s - x396')) (wrapF .i64 (Int.tdiv (wrapF .i64 (x2s - x1s)) 8)))) q397' h400')))))
  (∃ x401', ∃ q402', ∃ h403', EvC Tryd.prog O 134 [(.slice a0 n0 c0), (.int .i64 x1s), (.int .i64 x2s), (.int .i64 x266'), (.func (.func g4s) fi4s ca4s)] (h268'.rsv 17) (.tuple #[(.int .i64 x401'), (.bool q402')]) h403' ∧
  vcond (ltI (wrapF .i64 (x401' - x1s)) (wrapF .i64 (x2s - x401')))
  (∃ h404', EvC Tryd.prog O 115 [(.slice a0 n0 c0), (.int .i64 x1s), (.int .i64 x401'), (.int .i64 x3s), (.func (.func g4s) fi4s ca4s)] h403' undef h404' ∧
  I115_0 O Q a0 n0 c0 x1 x2 x3 g4 fi4 ca4 (wrapF .i64 (x401' + 1)) x2s x3s g4s fi4s ca4s (!(ltI (wrapF .i64 (x401' - x1s)) (wrapF .i64 (Int.tdiv (wrapF .i64 (x2s - x1s)) 8)))) q402' h404')
  (∃ h405', EvC Tryd.prog O 115 [(.slice a0 n0 c0), (.int .i64 (wrapF .i64 (x401' + 1))), (.int .i64 x2s), (.int .i64 x3s), (.func (.func g4s) fi4s ca4s)] h403' undef h405' ∧
  I115_0 O Q a0 n0 c0 x1 x2 x3 g4 fi4 ca4 x1s x401' x3s g4s fi4s ca4s (!(ltI (wrapF .i64 (x2s - x401')) (wrapF .i64 (Int.tdiv (wrapF .i64 (x2s - x1s)) 8)))) q402' h405'))))
  (vcond (ltI 0 x1s)
  (isNat (wrapF .i64 (x1s - 1)) fun n406' =>
  isAddr a0 fun b407' f408' =>
  vreq (Nat.blt n406' n0)
  (∃ x409', readAt (h268'.rsv 17) b407' (f408' + (n406' * 1)) 1 = some [(.int .i64 x409')] ∧
  isNat x266' fun n410' =>
  isAddr a0 fun b411' f412' =>
  vreq (Nat.blt n410' n0)
  (∃ x413', readAt (h268'.rsv 17) b411' (f412' + (n410' * 1)) 1 = some [(.int .i64 x413')] ∧
  ∃ x414', ∃ h415', EvC Tryd.prog O g4s (fi4s.toList ++ [(.int .i64 x409'), (.int .i64 x413')] ++ ca4s.toList) ((h268'.rsv 17).grd []) (.int .i64 x414') h415' ∧
  vcond (!(ltI x414' 0))
  (∃ x416', ∃ h417', EvC Tryd.prog O 133 [(.slice a0 n0 c0), (.int .i64 x1s), (.int .i64 x2s), (.int .i64 x266'), (.func (.func g4s) fi4s ca4s)] (h415'.rst (h268'.rsv 17)) (.int .i64 x416') h417' ∧
  I115_0 O Q a0 n0 c0 x1 x2 x3 g4 fi4 ca4 x416' x2s x3s g4s fi4s ca4s q10 q11 h417')
  (∃ x418', ∃ q419', ∃ h420', EvC Tryd.prog O 134 [(.slice a0 n0 c0), (.int .i64 x1s), (.int .i64 x2s), (.int .i64 x266'), (.func (.func g4s) fi4s ca4s)] (h415'.rst (h268'.rsv 17)) (.tuple #[(.int .i64 x418'), (.bool q419')]) h420' ∧
  vcond (ltI (wrapF .i64 (x418' - x1s)) (wrapF .i64 (x2s - x418')))
  (∃ h421', EvC Tryd.prog O 115 [(.slice a0 n0 c0), (.int .i64 x1s), (.int .i64 x418'), (.int .i64 x3s), (.func (.func g4s) fi4s ca4s)] h420' undef h421' ∧
  I115_0 O Q a0 n0 c0 x1 x2 x3 g4 fi4 ca4 (wrapF .i64 (x418' + 1)) x2s x3s g4s fi4s ca4s (!(ltI (wrapF .i64 (x418' - x1s)) (wrapF .i64 (Int.tdiv (wrapF .i64 (x2s - x1s)) 8)))) q419' h421')
  (∃ h422', EvC Tryd.prog O 115 [(.slice a0 n0 c0), (.int .i64 (wrapF .i64 (x418' + 1))), (.int .i64 x2s), (.int .i64 x3s), (.func (.func g4s) fi4s ca4s)] h420' undef h422' ∧
  I115_0 O Q a0 n0 c0 x1 x2 x3 g4 fi4 ca4 x1s x418' x3s g4s fi4s ca4s (!(ltI (wrapF .i64 (x2s - x418')) (wrapF .i64 (Int.tdiv (wrapF .i64 (x2s - x1s)) 8)))) q419' h422')))))
  (∃ x423', ∃ q424', ∃ h425', EvC Tryd.prog O 134 [(.slice a0 n0 c0), (.int .i64 x1s), (.int .i64 x2s), (.int .i64 x266'), (.func (.func g4s) fi4s ca4s)] (h268'.rsv 17) (.tuple #[(.int .i64 x423'), (.bool q424')]) h425' ∧
  vcond (ltI (wrapF .i64 (x423' - x1s)) (wrapF .i64 (x2s - x423')))
  (∃ h426', EvC Tryd.prog O 115 [(.slice a0 n0 c0), (.int .i64 x1s), (.int .i64 x423'), (.int .i64 x3s), (.func (.func g4s) fi4s ca4s)] h425' undef h426' ∧
  I115_0 O Q a0 n0 c0 x1 x2 x3 g4 fi4 ca4 (wrapF .i64 (x423' + 1)) x2s x3s g4s fi4s ca4s (!(ltI (wrapF .i64 (x423' - x1s)) (wrapF .i64 (Int.tdiv (wrapF .i64 (x2s - x1s)) 8)))) q424' h426')
  (∃ h427', EvC Tryd.prog O 115 [(.slice a0 n0 c0), (.int .i64 (wrapF .i64 (x423' + 1))), (.int .i64 x2s), (.int .i64 x3s), (.func (.func g4s) fi4s ca4s)] h425' undef h427' ∧
  I115_0 O Q a0 n0 c0 x1 x2 x3 g4 fi4 ca4 x1s x423' x3s g4s fi4s ca4s (!(ltI (wrapF .i64 (x2s - x423')) (wrapF .i64 (Int.tdiv (wrapF .i64 (x2s - x1s)) 8)))) q424' h427')))))))
theorem I115_0.of {O Q} (a0 n0 c0 x1 x2 x3 g4 fi4 ca4 x1s x2s x3s g4s fi4s ca4s q10 q11) {h : Hp} (hh : T115_0 O Q a0 n0 c0 x1 x2 x3 g4 fi4 ca4 x1s x2s x3s g4s fi4s ca4s q10 q11 h) : I115_0 O Q a0 n0 c0 x1 x2 x3 g4 fi4 ca4 x1s x2s x3s g4s fi4s ca4s q10 q11 h :=
  RKL.of (tb := lv115) (cuts := []) 500 fun _ => Eq.mp (by kernel_rfl) hh
/-! slices.insertionSortCmpFunc[int] -/
noncomputable def b127 : Code := (Tryd.f127.body).getD .skip
noncomputable def stk127_0 : List KI := [.code (sub [1, 0] b127), .blk 0]
noncomputable def stk127_1 : List KI := [.code (sub [1, 0, 0, 1, 0, 0, 1, 0] b127), .blk 2, .blk 1, .code (sub [1, 0, 0, 1, 1] b127), .code (sub [1, 0] b127), .blk 0]
def lv127 : List (Nat × List Nat) := [(0, [0, 1, 2, 3, 8]), (2, [0, 1, 2, 3, 8, 9])]
def I127_0 (O : CallF) (Q : Value → Hp → Prop) (a0 : Option Addr) (n0 : Nat) (c0 : Nat) (x1 : Int) (x2 : Int) (g3 : Nat) (fi3 : Array Value) (ca3 : Array Value) (g3s : Nat) (fi3s : Array Value) (ca3s : Array Value) (x8 : Int) (h : Hp) : Prop := RKL Tryd.prog O Tryd.f127 stk127_0 53 [0, 1, 2, 3, 8] [(.slice a0 n0 c0), (.int .i64 x1), (.int .i64 x2), (.func (.func g3s) fi3s ca3s), (.int .i64 x8)] h Q
def I127_1 (O : CallF) (Q : Value → Hp → Prop) (a0 : Option Addr) (n0 : Nat) (c0 : Nat) (x1 : Int) (x2 : Int) (g3 : Nat) (fi3 : Array Value) (ca3 : Array Value) (g3s : Nat) (fi3s : Array Value) (ca3s : Array Value) (x8 : Int) (x9 : Int) (h : Hp) : Prop := RKL Tryd.prog O Tryd.f127 stk127_1 53 [0, 1, 2, 3, 8, 9] [(.slice a0 n0 c0), (.int .i64 x1), (.int .i64 x2), (.func (.func g3s) fi3s ca3s), (.int .i64 x8), (.int .i64 x9)] h Q
def T127 (O : CallF) (Q : Value → Hp → Prop) (a0 : Option Addr) (n0 : Nat) (c0 : Nat) (x1 : Int) (x2 : Int) (g3 : Nat) (fi3 : Array Value) (ca3 : Array Value) (h : Hp) : Prop :=
  I127_0 O Q a0 n0 c0 x1 x2 g3 fi3 ca3 g3 fi3 ca3 (wrapF .i64 (x1 + 1)) h
theorem rk127 {O Q} (a0 n0 c0 x1 x2 g3 fi3 ca3) {h : Hp} (hO : O 127 [(.slice a0 n0 c0), (.int .i64 x1), (.int .i64 x2), (.func (.func g3) fi3 ca3)] h = none) (hh : T127 O Q a0 n0 c0 x1 x2 g3 fi3 ca3 h) : Ret Tryd.prog O 127 [(.slice a0 n0 c0), (.int .i64 x1), (.int .i64 x2), (.func (.func g3) fi3 ca3)] h Q :=
  .of (c := b127) Tryd.func127 (by kernel_rfl) hO (V_ok (tb := lv127) (cuts := []) 500 (Eq.mp (by kernel_rfl) hh))
def T127_0 (O : CallF) (Q : Value → Hp → Prop) (a0 : Option Addr) (n0 : Nat) (c0 : Nat) (x1 : Int) (x2 : Int) (g3 : Nat) (fi3 : Array Value) (ca3 : Array Value) (g3s : Nat) (fi3s : Array Value) (ca3s : Array Value) (x8 : Int) (h : Hp) : Prop :=
  vcond (ltI x8 x2)
  (I127_1 O Q a0 n0 c0 x1 x2 g3 fi3 ca3 g3s fi3s ca3s x8 x8 h)
  (Q undef h)
theorem I127_0.of {O Q} (a0 n0 c0 x1 x2 g3 fi3 ca3 g3s fi3s ca3s x8) {h : Hp} (hh : T127_0 O Q a0 n0 c0 x1 x2 g3 fi3 ca3 g3s fi3s ca3s x8 h) : I127_0 O Q a0 n0 c0 x1 x2 g3 fi3 ca3 g3s fi3s ca3s x8 h :=
  RKL.of (tb := lv127) (cuts := []) 500 fun _ => Eq.mp (by kernel_rfl) hh
def T127_1 (O : CallF) (Q : Value → Hp → Prop) (a0 : Option Addr) (n0 : Nat) (c0 : Nat) (x1 : Int) (x2 : Int) (g3 : Nat) (fi3 : Array Value) (ca3 : Array Value) (g3s : Nat) (fi3s : Array Value) (ca3s : Array Value) (x8 : Int) (x9 : Int) (h : Hp) : Prop :=
  vcond (ltI x1 x9)
  (isNat x9 fun n201' =>
  isAddr a0 fun b202' f203' =>
  vreq (Nat.blt n201' n0)
  (∃ x204', readAt (h.rsv 17) b202' (f203' + (n201' * 1)) 1 = some [(.int .i64 x204')] ∧
  isNat (wrapF .i64 (x9 - 1)) fun n205' =>
  isAddr a0 fun b206' f207' =>
  vreq (Nat.blt n205' n0)
  (∃ x208', readAt (h.rsv 17) b206' (f207' + (n205' * 1)) 1 = some [(.int .i64 x208')] ∧
  ∃ x209', ∃ h210', EvC Tryd.prog O g3s (fi3s.toList ++ [(.int .i64 x204'), (.int .i64 x208')] ++ ca3s.toList) ((h.rsv 17).grd []) (.int .i64 x209') h210' ∧
  vcond (ltI x209' 0)
  (isNat (wrapF .i64 (x9 - 1)) fun n211' =>
  isAddr a0 fun b212' f213' =>
  vreq (Nat.blt n211' n0)
  (∃ x214', readAt ((h210'.rst (h.rsv 17)).rsv 18) b212' (f213' + (n211' * 1)) 1 = some [(.int .i64 x214')] ∧
  isNat x9 fun n215' =>
  isAddr a0 fun b216' f217' =>
  vreq (Nat.blt n215' n0)
  (∃ x218', readAt ((h210'.rst (h.rsv 17)).rsv 18) b216' (f217' + (n215' * 1)) 1 = some [(.int .i64 x218')] ∧
  isNat x9 fun n219' =>
  isAddr a0 fun b220' f221' =>
  vreq (Nat.blt n219' n0)
  (vreq (canW (((h210'.rst (h.rsv 17)).rsv 18).grd []) b220' (f221' + (n219' * 1)) [(.int .i64 x214')])
  (isNat (wrapF .i64 (x9 - 1)) fun n222' =>
  isAddr a0 fun b223' f224' =>
  vreq (Nat.blt n222' n0)
  (vreq (canW ((((((h210'.rst (h.rsv 17)).rsv 18).grd []).wr b220' (f221' + (n219' * 1)) [(.int .i64 x214')]).rst ((h210'.rst (h.rsv 17)).rsv 18)).grd []) b223' (f224' + (n222' * 1)) [(.int .i64 x218')])
  (I127_1 O Q a0 n0 c0 x1 x2 g3 fi3 ca3 g3s fi3s ca3s x8 (wrapF .i64 (x9 - 1)) ((((((((h210'.rst (h.rsv 17)).rsv 18).grd []).wr b220' (f221' + (n219' * 1)) [(.int .i64 x214')]).rst ((h210'.rst (h.rsv 17)).rsv 18)).grd []).wr b223' (f224' + (n222' * 1)) [(.int .i64 x218')]).rst (((((h210'.rst (h.rsv 17)).rsv 18).grd []).wr b220' (f221' + (n219' * 1)) [(.int .i64 x214')]).rst ((h210'.rst (h.rsv 17)).rsv 18))))))))))
  (I127_0 O Q a0 n0 c0 x1 x2 g3 fi3 ca3 g3s fi3s ca3s (wrapF .i64 (x8 + 1)) (h210'.rst (h.rsv 17))))))
  (I127_0 O Q a0 n0 c0 x1 x2 g3 fi3 ca3 g3s fi3s ca3s (wrapF .i64 (x8 + 1)) (h.rsv 17))
theorem I127_1.of {O Q} (a0 n0 c0 x1 x2 g3 fi3 ca3 g3s fi3s ca3s x8 x9) {h : Hp} (hh : T127_1 O Q a0 n0 c0 x1 x2 g3 fi3 ca3 g3s fi3s ca3s x8 x9 h) : I127_1 O Q a0 n0 c0 x1 x2 g3 fi3 ca3 g3s fi3s ca3s x8 x9 h :=
  RKL.of (tb := lv127) (cuts := []) 500 fun _ => Eq.mp (by kernel_rfl) hh
/-! slices.choosePivotCmpFunc[int] -/
noncomputable def b130 : Code := (Tryd.f130.body).getD .skip
def lv130 : List (Nat × List Nat) := []
def T130 (O : CallF) (Q : Value → Hp → Prop) (a0 : Option Addr) (n0 : Nat) (c0 : Nat) (x1 : Int) (x2 : Int) (g3 : Nat) (fi3 : Array Value) (ca3 : Array Value) (h : Hp) : Prop :=
  vcond (!(ltI (wrapF .i64 (x2 - x1)) 8))
  (vcond (!(ltI (wrapF .i64 (x2 - x1)) 50))
  (∃ x1', ∃ h2', EvC Tryd.prog O 143 [(.slice a0 n0 c0), (.int .i64 (wrapF .i64 (x1 + (wrapF .i64 ((wrapF .i64 (Int.tdiv (wrapF .i64 (x2 - x1)) 4)) * 1))))), (.pointer (some ⟨h.nx, 0, none⟩)), (.func (.func g3) fi3 ca3)] (h.add (.cells [(.int .i64 0)] 3 .fix)) (.int .i64 x1') h2' ∧
  ∃ x3', ∃ h4', EvC Tryd.prog O 143 [(.slice a0 n0 c0), (.int .i64 (wrapF .i64 (x1 + (wrapF .i64 ((wrapF .i64 (Int.tdiv (wrapF .i64 (x2 - x1)) 4)) * 2))))), (.pointer (some ⟨h.nx, 0, none⟩)), (.func (.func g3) fi3 ca3)] h2' (.int .i64 x3') h4' ∧
  ∃ x5', ∃ h6', EvC Tryd.prog O 143 [(.slice a0 n0 c0), (.int .i64 (wrapF .i64 (x1 + (wrapF .i64 ((wrapF .i64 (Int.tdiv (wrapF .i64 (x2 - x1)) 4)) * 3))))), (.pointer (some ⟨h.nx, 0, none⟩)), (.func (.func g3) fi3 ca3)] h4' (.int .i64 x5') h6' ∧
  ∃ x7', ∃ h8', EvC Tryd.prog O 144 [(.slice a0 n0 c0), (.int .i64 x1'), (.int .i64 x3'), (.int .i64 x5'), (.pointer (some ⟨h.nx, 0, none⟩)), (.func (.func g3) fi3 ca3)] h6' (.int .i64 x7') h8' ∧
  ∃ x9', readAt h8' h.nx 0 1 = some [(.int .i64 x9')] ∧
  vcond (eqI x9' 0)
  (Q (.tuple #[(.int .i64 x7'), (.int .i64 1)]) h8')
  (vcond (eqI x9' 12)
  (Q (.tuple #[(.int .i64 x7'), (.int .i64 2)]) h8')
  (Q (.tuple #[(.int .i64 x7'), (.int .i64 0)]) h8')))
  (∃ x10', ∃ h11', EvC Tryd.prog O 144 [(.slice a0 n0 c0), (.int .i64 (wrapF .i64 (x1 + (wrapF .i64 ((wrapF .i64 (Int.tdiv (wrapF .i64 (x2 - x1)) 4)) * 1))))), (.int .i64 (wrapF .i64 (x1 + (wrapF .i64 ((wrapF .i64 (Int.tdiv (wrapF .i64 (x2 - x1)) 4)) * 2))))), (.int .i64 (wrapF .i64 (x1 + (wrapF .i64 ((wrapF .i64 (Int.tdiv (wrapF .i64 (x2 - x1)) 4)) * 3))))), (.pointer (some ⟨h.nx, 0, none⟩)), (.func (.func g3) fi3 ca3)] (h.add (.cells [(.int .i64 0)] 3 .fix)) (.int .i64 x10') h11' ∧
  ∃ x12', readAt h11' h.nx 0 1 = some [(.int .i64 x12')] ∧
  vcond (eqI x12' 0)
  (Q (.tuple #[(.int .i64 x10'), (.int .i64 1)]) h11')
  (vcond (eqI x12' 12)
  (Q (.tuple #[(.int .i64 x10'), (.int .i64 2)]) h11')
  (Q (.tuple #[(.int .i64 x10'), (.int .i64 0)]) h11'))))
  (∃ x13', readAt (h.add (.cells [(.int .i64 0)] 3 .fix)) h.nx 0 1 = some [(.int .i64 x13')] ∧
  vcond (eqI x13' 0)
  (Q (.tuple #[(.int .i64 (wrapF .i64 (x1 + (wrapF .i64 ((wrapF .i64 (Int.tdiv (wrapF .i64 (x2 - x1)) 4)) * 2))))), (.int .i64 1)]) (h.add (.cells [(.int .i64 0)] 3 .fix)))
  (vcond (eqI x13' 12)
  (Q (.tuple #[(.int .i64 (wrapF .i64 (x1 + (wrapF .i64 ((wrapF .i64 (Int.tdiv (wrapF .i64 (x2 - x1)) 4)) * 2))))), (.int .i64 2)]) (h.add (.cells [(.int .i64 0)] 3 .fix)))
  (Q (.tuple #[(.int .i64 (wrapF .i64 (x1 + (wrapF .i64 ((wrapF .i64 (Int.tdiv (wrapF .i64 (x2 - x1)) 4)) * 2))))), (.int .i64 0)]) (h.add (.cells [(.int .i64 0)] 3 .fix)))))
theorem rk130 {O Q} (a0 n0 c0 x1 x2 g3 fi3 ca3) {h : Hp} (hO : O 130 [(.slice a0 n0 c0), (.int .i64 x1), (.int .i64 x2), (.func (.func g3) fi3 ca3)] h = none) (hh : T130 O Q a0 n0 c0 x1 x2 g3 fi3 ca3 h) : Ret Tryd.prog O 130 [(.slice a0 n0 c0), (.int .i64 x1), (.int .i64 x2), (.func (.func g3) fi3 ca3)] h Q :=
  .of (c := b130) Tryd.func130 (by kernel_rfl) hO (V_ok (tb := lv130) (cuts := []) 500 (Eq.mp (by kernel_rfl) hh))
/-! slices.partialInsertionSortCmpFunc[int] -/
noncomputable def b132 : Code := (Tryd.f132.body).getD .skip
noncomputable def stk132_0 : List KI := [.code (sub [1, 1, 0, 1, 0] b132), .blk 0, .code (sub [1, 1, 1] b132)]
noncomputable def stk132_1 : List KI := [.code (sub [1, 1, 0, 1, 0, 0, 1, 0, 0, 0, 0] b132), .blk 2, .code (sub [1, 1, 0, 1, 0, 0, 1, 0, 0, 1] b132), .blk 1, .code (sub [1, 1, 0, 1, 0, 0, 1, 1] b132), .code (sub [1, 1, 0, 1, 0] b132), .blk 0, .code (sub [1, 1, 1] b132)]
noncomputable def stk132_2 : List KI := [.code (sub [1, 1, 0, 1, 0, 0, 1, 0, 0, 1, 1, 1, 1, 0, 1, 0, 1, 0] b132), .blk 4, .code (sub [1, 1, 0, 1, 0, 0, 1, 0, 0, 1, 1, 1, 1, 1] b132), .blk 1, .code (sub [1, 1, 0, 1, 0, 0, 1, 1] b132), .code (sub [1, 1, 0, 1, 0] b132), .blk 0, .code (sub [1, 1, 1] b132)]
noncomputable def stk132_3 : List KI := [.code (sub [1, 1, 0, 1, 0, 0, 1, 0, 0, 1, 1, 1, 1, 1, 1, 0, 1, 0] b132), .blk 6, .blk 1, .code (sub [1, 1, 0, 1, 0, 0, 1, 1] b132), .code (sub [1, 1, 0, 1, 0] b132), .blk 0, .code (sub [1, 1, 1] b132)]
def lv132 : List (Nat × List Nat) := [(0, [0, 1, 2, 3, 8, 9, 10]), (2, [0, 1, 2, 3, 8, 9, 10]), (4, [0, 1, 2, 3, 8, 9, 10, 11]), (6, [0, 1, 2, 3, 8, 9, 10, 12])]
def I132_0 (O : CallF) (Q : Value → Hp → Prop) (a0 : Option Addr) (n0 : Nat) (c0 : Nat) (x1 : Int) (x2 : Int) (g3 : Nat) (fi3 : Array Value) (ca3 : Array Value) (g3s : Nat) (fi3s : Array Value) (ca3s : Array Value) (q8 : Bool) (x9 : Int) (x10 : Int) (h : Hp) : Prop := RKL Tryd.prog O Tryd.f132 stk132_0 141 [0, 1, 2, 3, 8, 9, 10] [(.slice a0 n0 c0), (.int .i64 x1), (.int .i64 x2), (.func (.func g3s) fi3s ca3s), (.bool q8), (.int .i64 x9), (.int .i64 x10)] h Q
def I132_1 (O : CallF) (Q : Value → Hp → Prop) (a0 : Option Addr) (n0 : Nat) (c0 : Nat) (x1 : Int) (x2 : Int) (g3 : Nat) (fi3 : Array Value) (ca3 : Array Value) (g3s : Nat) (fi3s : Array Value) (ca3s : Array Value) (q8 : Bool) (x9 : Int) (x10 : Int) (h : Hp) : Prop := RKL Tryd.prog O Tryd.f132 stk132_1 141 [0, 1, 2, 3, 8, 9, 10] [(.slice a0 n0 c0), (.int .i64 x1), (.int .i64 x2), (.func (.func g3s) fi3s ca3s), (.bool q8), (.int .i64 x9), (.int .i64 x10)] h Q
def I132_2 (O : CallF) (Q : Value → Hp → Prop) (a0 : Option Addr) (n0 : Nat) (c0 : Nat) (x1 : Int) (x2 : Int) (g3 : Nat) (fi3 : Array Value) (ca3 : Array Value) (g3s : Nat) (fi3s : Array Value) (ca3s : Array Value) (q8 : Bool) (x9 : Int) (x10 : Int) (x11 : Int) (h : Hp) : Prop := RKL Tryd.prog O Tryd.f132 stk132_2 141 [0, 1, 2, 3, 8, 9, 10, 11] [(.slice a0 n0 c0), (.int .i64 x1), (.int .i64 x2), (.func (.func g3s) fi3s ca3s), (.bool q8), (.int .i64 x9), (.int .i64 x10), (.int .i64 x11)] h Q
def I132_3 (O : CallF) (Q : Value → Hp → Prop) (a0 : Option Addr) (n0 : Nat) (c0 : Nat) (x1 : Int) (x2 : Int) (g3 : Nat) (fi3 : Array Value) (ca3 : Array Value) (g3s : Nat) (fi3s : Array Value) (ca3s : Array Value) (q8 : Bool) (x9 : Int) (x10 : Int) (x12 : Int) (h : Hp) : Prop := RKL Tryd.prog O Tryd.f132 stk132_3 141 [0, 1, 2, 3, 8, 9, 10, 12] [(.slice a0 n0 c0), (.int .i64 x1), (.int .i64 x2), (.func (.func g3s) fi3s ca3s), (.bool q8), (.int .i64 x9), (.int .i64 x10), (.int .i64 x12)] h Q
def T132 (O : CallF) (Q : Value → Hp → Prop) (a0 : Option Addr) (n0 : Nat) (c0 : Nat) (x1 : Int) (x2 : Int) (g3 : Nat) (fi3 : Array Value) (ca3 : Array Value) (h : Hp) : Prop :=
  I132_0 O Q a0 n0 c0 x1 x2 g3 fi3 ca3 g3 fi3 ca3 false (wrapF .i64 (x1 + 1)) 0 h
theorem rk132 {O Q} (a0 n0 c0 x1 x2 g3 fi3 ca3) {h : Hp} (hO : O 132 [(.slice a0 n0 c0), (.int .i64 x1), (.int .i64 x2), (.func (.func g3) fi3 ca3)] h = none) (hh : T132 O Q a0 n0 c0 x1 x2 g3 fi3 ca3 h) : Ret Tryd.prog O 132 [(.slice a0 n0 c0), (.int .i64 x1), (.int .i64 x2), (.func (.func g3) fi3 ca3)] h Q :=
  .of (c := b132) Tryd.func132 (by kernel_rfl) hO (V_ok (tb := lv132) (cuts := []) 500 (Eq.mp (by kernel_rfl) hh))
def T132_0 (O : CallF) (Q : Value → Hp → Prop) (a0 : Option Addr) (n0 : Nat) (c0 : Nat) (x1 : Int) (x2 : Int) (g3 : Nat) (fi3 : Array Value) (ca3 : Array Value) (g3s : Nat) (fi3s : Array Value) (ca3s : Array Value) (q8 : Bool) (x9 : Int) (x10 : Int) (h : Hp) : Prop :=
  vcond (ltI x10 5)
  (I132_1 O Q a0 n0 c0 x1 x2 g3 fi3 ca3 g3s fi3s ca3s q8 x9 x10 h)
  (Q (.bool false) h)
theorem I132_0.of {O Q} (a0 n0 c0 x1 x2 g3 fi3 ca3 g3s fi3s ca3s q8 x9 x10) {h : Hp} (hh : T132_0 O Q a0 n0 c0 x1 x2 g3 fi3 ca3 g3s fi3s ca3s q8 x9 x10 h) : I132_0 O Q a0 n0 c0 x1 x2 g3 fi3 ca3 g3s fi3s ca3s q8 x9 x10 h :=
  RKL.of (tb := lv132) (cuts := []) 500 fun _ => Eq.mp (by kernel_rfl) hh
def T132_1 (O : CallF) (Q : Value → Hp → Prop) (a0 : Option Addr) (n0 : Nat) (c0 : Nat) (x1 : Int) (x2 : Int) (g3 : Nat) (fi3 : Array Value) (ca3 : Array Value) (g3s : Nat) (fi3s : Array Value) (ca3s : Array Value) (q8 : Bool) (x9 : Int) (x10 : Int) (h : Hp) : Prop :=
  vcond (ltI x9 x2)
  (isNat x9 fun n201' =>
  isAddr a0 fun b202' f203' =>
  vreq (Nat.blt n201' n0)
  (∃ x204', readAt (h.rsv 18) b202' (f203' + (n201' * 1)) 1 = some [(.int .i64 x204')] ∧
  isNat (wrapF .i64 (x9 - 1)) fun n205' =>
  isAddr a0 fun b206' f207' =>
  vreq (Nat.blt n205' n0)
  (∃ x208', readAt (h.rsv 18) b206' (f207' + (n205' * 1)) 1 = some [(.int .i64 x208')] ∧
  ∃ x209', ∃ h210', EvC Tryd.prog O g3s (fi3s.toList ++ [(.int .i64 x204'), (.int .i64 x208')] ++ ca3s.toList) ((h.rsv 18).grd []) (.int .i64 x209') h210' ∧
  vcond (!(ltI x209' 0))
  (I132_1 O Q a0 n0 c0 x1 x2 g3 fi3 ca3 g3s fi3s ca3s q8 (wrapF .i64 (x9 + 1)) x10 (h210'.rst (h.rsv 18)))
  (vcond (eqI x9 x2)
  (Q (.bool true) (h210'.rst (h.rsv 18)))
  (vcond (ltI (wrapF .i64 (x2 - x1)) 50)
  (Q (.bool false) (h210'.rst (h.rsv 18)))
  (isNat (wrapF .i64 (x9 - 1)) fun n211' =>
  isAddr a0 fun b212' f213' =>
  vreq (Nat.blt n211' n0)
  (∃ x214', readAt ((h210'.rst (h.rsv 18)).rsv 18) b212' (f213' + (n211' * 1)) 1 = some [(.int .i64 x214')] ∧
  isNat x9 fun n215' =>
  isAddr a0 fun b216' f217' =>
  vreq (Nat.blt n215' n0)
  (∃ x218', readAt ((h210'.rst (h.rsv 18)).rsv 18) b216' (f217' + (n215' * 1)) 1 = some [(.int .i64 x218')] ∧
  isNat x9 fun n219' =>
  isAddr a0 fun b220' f221' =>
  vreq (Nat.blt n219' n0)
  (vreq (canW (((h210'.rst (h.rsv 18)).rsv 18).grd []) b220' (f221' + (n219' * 1)) [(.int .i64 x214')])
  (isNat (wrapF .i64 (x9 - 1)) fun n222' =>
  isAddr a0 fun b223' f224' =>
  vreq (Nat.blt n222' n0)
  (vreq (canW ((((((h210'.rst (h.rsv 18)).rsv 18).grd []).wr b220' (f221' + (n219' * 1)) [(.int .i64 x214')]).rst ((h210'.rst (h.rsv 18)).rsv 18)).grd []) b223' (f224' + (n222' * 1)) [(.int .i64 x218')])
  (vcond (!(ltI (wrapF .i64 (x9 - x1)) 2))
  (I132_2 O Q a0 n0 c0 x1 x2 g3 fi3 ca3 g3s fi3s ca3s q8 x9 x10 (wrapF .i64 (x9 - 1)) ((((((((h210'.rst (h.rsv 18)).rsv 18).grd []).wr b220' (f221' + (n219' * 1)) [(.int .i64 x214')]).rst ((h210'.rst (h.rsv 18)).rsv 18)).grd []).wr b223' (f224' + (n222' * 1)) [(.int .i64 x218')]).rst (((((h210'.rst (h.rsv 18)).rsv 18).grd []).wr b220' (f221' + (n219' * 1)) [(.int .i64 x214')]).rst ((h210'.rst (h.rsv 18)).rsv 18))))
  (vcond (!(ltI (wrapF .i64 (x2 - x9)) 2))
  (I132_3 O Q a0 n0 c0 x1 x2 g3 fi3 ca3 g3s fi3s ca3s q8 x9 x10 (wrapF .i64 (x9 + 1)) ((((((((h210'.rst (h.rsv 18)).rsv 18).grd []).wr b220' (f221' + (n219' * 1)) [(.int .i64 x214')]).rst ((h210'.rst (h.rsv 18)).rsv 18)).grd []).wr b223' (f224' + (n222' * 1)) [(.int .i64 x218')]).rst (((((h210'.rst (h.rsv 18)).rsv 18).grd []).wr b220' (f221' + (n219' * 1)) [(.int .i64 x214')]).rst ((h210'.rst (h.rsv 18)).rsv 18))))
  (I132_0 O Q a0 n0 c0 x1 x2 g3 fi3 ca3 g3s fi3s ca3s q8 x9 (wrapF .i64 (x10 + 1)) ((((((((h210'.rst (h.rsv 18)).rsv 18).grd []).wr b220' (f221' + (n219' * 1)) [(.int .i64 x214')]).rst ((h210'.rst (h.rsv 18)).rsv 18)).grd []).wr b223' (f224' + (n222' * 1)) [(.int .i64 x218')]).rst (((((h210'.rst (h.rsv 18)).rsv 18).grd []).wr b220' (f221' + (n219' * 1)) [(.int .i64 x214')]).rst ((h210'.rst (h.rsv 18)).rsv 18)))))))))))))))))
  (vcond (eqI x9 x2)
  (Q (.bool true) (h.rsv 18))
  (vcond (ltI (wrapF .i64 (x2 - x1)) 50)
  (Q (.bool false) (h.rsv 18))
  (isNat (wrapF .i64 (x9 - 1)) fun n225' =>
  isAddr a0 fun b226' f227' =>
  vreq (Nat.blt n225' n0)
  (∃ x228', readAt ((h.rsv 18).rsv 18) b226' (f227' + (n225' * 1)) 1 = some [(.int .i64 x228')] ∧
  isNat x9 fun n229' =>
  isAddr a0 fun b230' f231' =>
  vreq (Nat.blt n229' n0)
  (∃ x232', readAt ((h.rsv 18).rsv 18) b230' (f231' + (n229' * 1)) 1 = some [(.int .i64 x232')] ∧
  isNat x9 fun n233' =>
  isAddr a0 fun b234' f235' =>
  vreq (Nat.blt n233' n0)
  (vreq (canW (((h.rsv 18).rsv 18).grd []) b234' (f235' + (n233' * 1)) [(.int .i64 x228')])
  (isNat (wrapF .i64 (x9 - 1)) fun n236' =>
  isAddr a0 fun b237' f238' =>
  vreq (Nat.blt n236' n0)
  (vreq (canW ((((((h.rsv 18).rsv 18).grd []).wr b234' (f235' + (n233' * 1)) [(.int .i64 x228')]).rst ((h.rsv 18).rsv 18)).grd []) b237' (f238' + (n236' * 1)) [(.int .i64 x232')])
  (vcond (!(ltI (wrapF .i64 (x9 - x1)) 2))
  (I132_2 O Q a0 n0 c0 x1 x2 g3 fi3 ca3 g3s fi3s ca3s q8 x9 x10 (wrapF .i64 (x9 - 1)) ((((((((h.rsv 18).rsv 18).grd []).wr b234' (f235' + (n233' * 1)) [(.int .i64 x228')]).rst ((h.rsv 18).rsv 18)).grd []).wr b237' (f238' + (n236' * 1)) [(.int .i64 x232')]).rst (((((h.rsv 18).rsv 18).grd []).wr b234' (f235' + (n233' * 1)) [(.int .i64 x228')]).rst ((h.rsv 18).rsv 18))))
  (vcond (!(ltI (wrapF .i64 (x2 - x9)) 2))
  (I132_3 O Q a0 n0 c0 x1 x2 g3 fi3 ca3 g3s fi3s ca3s q8 x9 x10 (wrapF .i64 (x9 + 1)) ((((((((h.rsv 18).rsv 18).grd []).wr b234' (f235' + (n233' * 1)) [(.int .i64 x228')]).rst ((h.rsv 18).rsv 18)).grd []).wr b237' (f238' + (n236' * 1)) [(.int .i64 x232')]).rst (((((h.rsv 18).rsv 18).grd []).wr b234' (f235' + (n233' * 1)) [(.int .i64 x228')]).rst ((h.rsv 18).rsv 18))))
  (I132_0 O Q a0 n0 c0 x1 x2 g3 fi3 ca3 g3s fi3s ca3s q8 x9 (wrapF .i64 (x10 + 1)) ((((((((h.rsv 18).rsv 18).grd []).wr b234' (f235' + (n233' * 1)) [(.int .i64 x228')]).rst ((h.rsv 18).rsv 18)).grd []).wr b237' (f238' + (n236' * 1)) [(.int .i64 x232')]).rst (((((h.rsv 18).rsv 18).grd []).wr b234' (f235' + (n233' * 1)) [(.int .i64 x228')]).rst ((h.rsv 18).rsv 18))))))))))))))
theorem I132_1.of {O Q} (a0 n0 c0 x1 x2 g3 fi3 ca3 g3s fi3s ca3s q8 x9 x10) {h : Hp} (hh : T132_1 O Q a0 n0 c0 x1 x2 g3 fi3 ca3 g3s fi3s ca3s q8 x9 x10 h) : I132_1 O Q a0 n0 c0 x1 x2 g3 fi3 ca3 g3s fi3s ca3s q8 x9 x10 h :=
  RKL.of (tb := lv132) (cuts := []) 500 fun _ => Eq.mp (by kernel_rfl) hh
/-! slices.medianCmpFunc[int] -/
noncomputable def b144 : Code := (Tryd.f144.body).getD .skip
def lv144 : List (Nat × List Nat) := []
def T144 (O : CallF) (Q : Value → Hp → Prop) (a0 : Option Addr) (n0 : Nat) (c0 : Nat) (x1 : Int) (x2 : Int) (x3 : Int) (b4 : Nat) (f4 : Nat) (g5 : Nat) (fi5 : Array Value) (ca5 : Array Value) (h : Hp) : Prop :=
  ∃ x1', ∃ x2', ∃ h3', EvC Tryd.prog O 145 [(.slice a0 n0 c0), (.int .i64 x1), (.int .i64 x2), (.pointer (some ⟨b4, f4, none⟩)), (.func (.func g5) fi5 ca5)] h (.tuple #[(.int .i64 x1'), (.int .i64 x2')]) h3' ∧
  ∃ x4', ∃ x5', ∃ h6', EvC Tryd.prog O 145 [(.slice a0 n0 c0), (.int .i64 x2'), (.int .i64 x3), (.pointer (some ⟨b4, f4, none⟩)), (.func (.func g5) fi5 ca5)] h3' (.tuple #[(.int .i64 x4'), (.int .i64 x5')]) h6' ∧
  ∃ x7', ∃ x8', ∃ h9', EvC Tryd.prog O 145 [(.slice a0 n0 c0), (.int .i64 x1'), (.int .i64 x4'), (.pointer (some ⟨b4, f4, none⟩)), (.func (.func g5) fi5 ca5)] h6' (.tuple #[(.int .i64 x7'), (.int .i64 x8')]) h9' ∧
  Q (.int .i64 x8') h9'
theorem rk144 {O Q} (a0 n0 c0 x1 x2 x3 b4 f4 g5 fi5 ca5) {h : Hp} (hO : O 144 [(.slice a0 n0 c0), (.int .i64 x1), (.int .i64 x2), (.int .i64 x3), (.pointer (some ⟨b4, f4, none⟩)), (.func (.func g5) fi5 ca5)] h = none) (hh : T144 O Q a0 n0 c0 x1 x2 x3 b4 f4 g5 fi5 ca5 h) : Ret Tryd.prog O 144 [(.slice a0 n0 c0), (.int .i64 x1), (.int .i64 x2), (.int .i64 x3), (.pointer (some ⟨b4, f4, none⟩)), (.func (.func g5) fi5 ca5)] h Q :=
  .of (c := b144) Tryd.func144 (by kernel_rfl) hO (V_ok (tb := lv144) (cuts := []) 500 (Eq.mp (by kernel_rfl) hh))
/-! slices.order2CmpFunc[int] -/
noncomputable def b145 : Code := (Tryd.f145.body).getD .skip
def lv145 : List (Nat × List Nat) := []
def T145 (O : CallF) (Q : Value → Hp → Prop) (a0 : Option Addr) (n0 : Nat) (c0 : Nat) (x1 : Int) (x2 : Int) (b3 : Nat) (f3 : Nat) (g4 : Nat) (fi4 : Array Value) (ca4 : Array Value) (h : Hp) : Prop :=
  isNat x2 fun n1' =>
  isAddr a0 fun b2' f3' =>
  vreq (Nat.blt n1' n0)
  (∃ x4', readAt (h.rsv 11) b2' (f3' + (n1' * 1)) 1 = some [(.int .i64 x4')] ∧
  isNat x1 fun n5' =>
  isAddr a0 fun b6' f7' =>
  vreq (Nat.blt n5' n0)
  (∃ x8', readAt (h.rsv 11) b6' (f7' + (n5' * 1)) 1 = some [(.int .i64 x8')] ∧
  ∃ x9', ∃ h10', EvC Tryd.prog O g4 (fi4.toList ++ [(.int .i64 x4'), (.int .i64 x8')] ++ ca4.toList) ((h.rsv 11).grd []) (.int .i64 x9') h10' ∧
  vcond (ltI x9' 0)
  (∃ x11', readAt (h10'.rst (h.rsv 11)) b3 f3 1 = some [(.int .i64 x11')] ∧
  vreq (canW (h10'.rst (h.rsv 11)) b3 f3 [(.int .i64 (wrapF .i64 (x11' + 1)))])
  (Q (.tuple #[(.int .i64 x2), (.int .i64 x1)]) ((h10'.rst (h.rsv 11)).wr b3 f3 [(.int .i64 (wrapF .i64 (x11' + 1)))])))
  (Q (.tuple #[(.int .i64 x1), (.int .i64 x2)]) (h10'.rst (h.rsv 11)))))
theorem rk145 {O Q} (a0 n0 c0 x1 x2 b3 f3 g4 fi4 ca4) {h : Hp} (hO : O 145 [(.slice a0 n0 c0), (.int .i64 x1), (.int .i64 x2), (.pointer (some ⟨b3, f3, none⟩)), (.func (.func g4) fi4 ca4)] h = none) (hh : T145 O Q a0 n0 c0 x1 x2 b3 f3 g4 fi4 ca4 h) : Ret Tryd.prog O 145 [(.slice a0 n0 c0), (.int .i64 x1), (.int .i64 x2), (.pointer (some ⟨b3, f3, none⟩)), (.func (.func g4) fi4 ca4)] h Q :=
  .of (c := b145) Tryd.func145 (by kernel_rfl) hO (V_ok (tb := lv145) (cuts := []) 500 (Eq.mp (by kernel_rfl) hh))
/-! math/bits.Len -/
noncomputable def b116 : Code := (Tryd.f116.body).getD .skip
def lv116 : List (Nat × List Nat) := []
def T116 (O : CallF) (Q : Value → Hp → Prop) (x0 : Int) (h : Hp) : Prop :=
  ∃ x1', ∃ h2', EvC Tryd.prog O 136 [(.int .u64 x0)] h (.int .i64 x1') h2' ∧
  Q (.int .i64 x1') h2'
theorem rk116 {O Q} (x0) {h : Hp} (hO : O 116 [(.int .u64 x0)] h = none) (hh : T116 O Q x0 h) : Ret Tryd.prog O 116 [(.int .u64 x0)] h Q :=
  .of (c := b116) Tryd.func116 (by kernel_rfl) hO (V_ok (tb := lv116) (cuts := []) 500 (Eq.mp (by kernel_rfl) hh))
/-! math/bits.Len64 -/
noncomputable def b136 : Code := (Tryd.f136.body).getD .skip
def lv136 : List (Nat × List Nat) := []
def T136 (O : CallF) (Q : Value → Hp → Prop) (x0 : Int) (h : Hp) : Prop :=
  vcond (!(ltI x0 4294967296))
  (vcond (!(ltI (shrF .u64 x0 32) 65536))
  (vcond (!(ltI (shrF .u64 (shrF .u64 x0 32) 16) 256))
  (isNat (wrapF .u8 (shrF .u64 (shrF .u64 (shrF .u64 x0 32) 16) 8)) fun n1' =>
  vreq (Nat.blt n1' 256)
  (Q (.int .i64 (wrapF .i64 (56 + (wrapF .i64 (byteI (ByteArray.mk #[0, 1, 2, 2, 3, 3, 3, 3, 4, 4, 4, 4, 4, 4, 4, 4, 5, 5, 5, 5, 5, 5, 5, 5, 5, 5, 5, 5, 5, 5, 5, 5, 6, 6, 6, 6, 6, 6, 6, 6, 6, 6, 6, 6, 6, 6, 6, 6, 6, 6, 6, 6, 6, 6, 6, 6, 6, 6, 6, 6, 6, 6, 6, 6, 7, 7, 7, 7, 7, 7, 7, 7, 7, 7, 7, 7, 7, 7, 7, 7, 7, 7, 7, 7, 7, 7, 7, 7, 7, 7, 7, 7, 7, 7, 7, 7, 7, 7, 7, 7, 7, 7, 7, 7, 7, 7, 7, 7, 7, 7, 7, 7, 7, 7, 7, 7, 7, 7, 7, 7, 7, 7, 7, 7, 7, 7, 7, 7, 8, 8, 8, 8, 8, 8, 8, 8, 8, 8, 8, 8, 8, 8, 8, 8, 8, 8, 8, 8, 8, 8, 8, 8, 8, 8, 8, 8, 8, 8, 8, 8, 8, 8, 8, 8, 8, 8, 8, 8, 8, 8, 8, 8, 8, 8, 8, 8, 8, 8, 8, 8, 8, 8, 8, 8, 8, 8, 8, 8, 8, 8, 8, 8, 8, 8, 8, 8, 8, 8, 8, 8, 8, 8, 8, 8, 8, 8, 8, 8, 8, 8, 8, 8, 8, 8, 8, 8, 8, 8, 8, 8, 8, 8, 8, 8, 8, 8, 8, 8, 8, 8, 8, 8, 8, 8, 8, 8, 8, 8, 8, 8, 8, 8, 8, 8, 8, 8, 8, 8, 8, 8, 8, 8, 8, 8, 8, 8]) n1'))))) h))
  (isNat (wrapF .u8 (shrF .u64 (shrF .u64 x0 32) 16)) fun n2' =>
  vreq (Nat.blt n2' 256)
  (Q (.int .i64 (wrapF .i64 (48 + (wrapF .i64 (byteI (ByteArray.mk #[0, 1, 2, 2, 3, 3, 3, 3, 4, 4, 4, 4, 4, 4, 4, 4, 5, 5, 5, 5, 5, 5, 5, 5, 5, 5, 5, 5, 5, 5, 5, 5, 6, 6, 6, 6, 6, 6, 6, 6, 6, 6, 6, 6, 6, 6, 6, 6, 6, 6, 6, 6, 6, 6, 6, 6, 6, 6, 6, 6, 6, 6, 6, 6, 7, 7, 7, 7, 7, 7, 7, 7, 7, 7, 7, 7, 7, 7, 7, 7, 7, 7, 7, 7, 7, 7, 7, 7, 7, 7, 7, 7, 7, 7, 7, 7, 7, 7, 7, 7, 7, 7, 7, 7, 7, 7, 7, 7, 7, 7, 7, 7, 7, 7, 7, 7, 7, 7, 7, 7, 7, 7, 7, 7, 7, 7, 7, 7, 8, 8, 8, 8, 8, 8, 8, 8, 8, 8, 8, 8, 8, 8, 8, 8, 8, 8, 8, 8, 8, 8, 8, 8, 8, 8, 8, 8, 8, 8, 8, 8, 8, 8, 8, 8, 8, 8, 8, 8, 8, 8, 8, 8, 8, 8, 8, 8, 8, 8, 8, 8, 8, 8, 8, 8, 8, 8, 8, 8, 8, 8, 8, 8, 8, 8, 8, 8, 8, 8, 8, 8, 8, 8, 8, 8, 8, 8, 8, 8, 8, 8, 8, 8, 8, 8, 8, 8, 8, 8, 8, 8, 8, 8, 8, 8, 8, 8, 8, 8, 8, 8, 8, 8, 8, 8, 8, 8, 8, 8, 8, 8, 8, 8, 8, 8, 8, 8, 8, 8, 8, 8, 8, 8, 8, 8, 8, 8]) n2'))))) h)))
  (vcond (!(ltI (shrF .u64 x0 32) 256))
  (isNat (wrapF .u8 (shrF .u64 (shrF .u64 x0 32) 8)) fun n3' =>
  vreq (Nat.blt n3' 256)
  (Q (.int .i64 (wrapF .i64 (40 + (wrapF .i64 (byteI (ByteArray.mk #[0, 1, 2, 2, 3, 3, 3, 3, 4, 4, 4, 4, 4, 4, 4, 4, 5, 5, 5, 5, 5, 5, 5, 5, 5, 5, 5, 5, 5, 5, 5, 5, 6, 6, 6, 6, 6, 6, 6, 6, 6, 6, 6, 6, 6, 6, 6, 6, 6, 6, 6, 6, 6, 6, 6, 6, 6, 6, 6, 6, 6, 6, 6, 6, 7, 7, 7, 7, 7, 7, 7, 7, 7, 7, 7, 7, 7, 7, 7, 7, 7, 7, 7, 7, 7, 7, 7, 7, 7, 7, 7, 7, 7, 7, 7, 7, 7, 7, 7, 7, 7, 7, 7, 7, 7, 7, 7, 7, 7, 7, 7, 7, 7, 7, 7, 7, 7, 7, 7, 7, 7, 7, 7, 7, 7, 7, 7, 7, 8, 8, 8, 8, 8, 8, 8, 8, 8, 8, 8, 8, 8, 8, 8, 8, 8, 8, 8, 8, 8, 8, 8, 8, 8, 8, 8, 8, 8, 8, 8, 8, 8, 8, 8, 8, 8, 8, 8, 8, 8, 8, 8, 8, 8, 8, 8, 8, 8, 8, 8, 8, 8, 8, 8, 8, 8, 8, 8, 8, 8, 8, 8, 8, 8, 8, 8, 8, 8, 8, 8, 8, 8, 8, 8, 8, 8, 8, 8, 8, 8, 8, 8, 8, 8, 8, 8, 8, 8, 8, 8, 8, 8, 8, 8, 8, 8, 8, 8, 8, 8, 8, 8, 8, 8, 8, 8, 8, 8, 8, 8, 8, 8, 8, 8, 8, 8, 8, 8, 8, 8, 8, 8, 8, 8, 8, 8, 8]) n3'))))) h))
  (isNat (wrapF .u8 (shrF .u64 x0 32)) fun n4' =>
  vreq (Nat.blt n4' 256)
  (Q (.int .i64 (wrapF .i64 (32 + (wrapF .i64 (byteI (ByteArray.mk #[0, 1, 2, 2, 3, 3, 3, 3, 4, 4, 4, 4, 4, 4, 4, 4, 5, 5, 5, 5, 5, 5, 5, 5, 5, 5, 5, 5, 5, 5, 5, 5, 6, 6, 6, 6, 6, 6, 6, 6, 6, 6, 6, 6, 6, 6, 6, 6, 6, 6, 6, 6, 6, 6, 6, 6, 6, 6, 6, 6, 6, 6, 6, 6, 7, 7, 7, 7, 7, 7, 7, 7, 7, 7, 7, 7, 7, 7, 7, 7, 7, 7, 7, 7, 7, 7, 7, 7, 7, 7, 7, 7, 7, 7, 7, 7, 7, 7, 7, 7, 7, 7, 7, 7, 7, 7, 7, 7, 7, 7, 7, 7, 7, 7, 7, 7, 7, 7, 7, 7, 7, 7, 7, 7, 7, 7, 7, 7, 8, 8, 8, 8, 8, 8, 8, 8, 8, 8, 8, 8, 8, 8, 8, 8, 8, 8, 8, 8, 8, 8, 8, 8, 8, 8, 8, 8, 8, 8, 8, 8, 8, 8, 8, 8, 8, 8, 8, 8, 8, 8, 8, 8, 8, 8, 8, 8, 8, 8, 8, 8, 8, 8, 8, 8, 8, 8, 8, 8, 8, 8, 8, 8, 8, 8, 8, 8, 8, 8, 8, 8, 8, 8, 8, 8, 8, 8, 8, 8, 8, 8, 8, 8, 8, 8, 8, 8, 8, 8, 8, 8, 8, 8, 8, 8, 8, 8, 8, 8, 8, 8, 8, 8, 8, 8, 8, 8, 8, 8, 8, 8, 8, 8, 8, 8, 8, 8, 8, 8, 8, 8, 8, 8, 8, 8, 8, 8]) n4'))))) h))))
  (vcond (!(ltI x0 65536))
  (vcond (!(ltI (shrF .u64 x0 16) 256))
  (isNat (wrapF .u8 (shrF .u64 (shrF .u64 x0 16) 8)) fun n5' =>
  vreq (Nat.blt n5' 256)
  (Q (.int .i64 (wrapF .i64 (24 + (wrapF .i64 (byteI (ByteArray.mk #[0, 1, 2, 2, 3, 3, 3, 3, 4, 4, 4, 4, 4, 4, 4, 4, 5, 5, 5, 5, 5, 5, 5, 5, 5, 5, 5, 5, 5, 5, 5, 5, 6, 6, 6, 6, 6, 6, 6, 6, 6, 6, 6, 6, 6, 6, 6, 6, 6, 6, 6, 6, 6, 6, 6, 6, 6, 6, 6, 6, 6, 6, 6, 6, 7, 7, 7, 7, 7, 7, 7, 7, 7, 7, 7, 7, 7, 7, 7, 7, 7, 7, 7, 7, 7, 7, 7, 7, 7, 7, 7, 7, 7, 7, 7, 7, 7, 7, 7, 7, 7, 7, 7, 7, 7, 7, 7, 7, 7, 7, 7, 7, 7, 7, 7, 7, 7, 7, 7, 7, 7, 7, 7, 7, 7, 7, 7, 7, 8, 8, 8, 8, 8, 8, 8, 8, 8, 8, 8, 8, 8, 8, 8, 8, 8, 8, 8, 8, 8, 8, 8, 8, 8, 8, 8, 8, 8, 8, 8, 8, 8, 8, 8, 8, 8, 8, 8, 8, 8, 8, 8, 8, 8, 8, 8, 8, 8, 8, 8, 8, 8, 8, 8, 8, 8, 8, 8, 8, 8, 8, 8, 8, 8, 8, 8, 8, 8, 8, 8, 8, 8, 8, 8, 8, 8, 8, 8, 8, 8, 8, 8, 8, 8, 8, 8, 8, 8, 8, 8, 8, 8, 8, 8, 8, 8, 8, 8, 8, 8, 8, 8, 8, 8, 8, 8, 8, 8, 8, 8, 8, 8, 8, 8, 8, 8, 8, 8, 8, 8, 8, 8, 8, 8, 8, 8, 8]) n5'))))) h))
  (isNat (wrapF .u8 (shrF .u64 x0 16)) fun n6' =>
  vreq (Nat.blt n6' 256)
  (Q (.int .i64 (wrapF .i64 (16 + (wrapF .i64 (byteI (ByteArray.mk #[0, 1, 2, 2, 3, 3, 3, 3, 4, 4, 4, 4, 4, 4, 4, 4, 5, 5, 5, 5, 5, 5, 5, 5, 5, 5, 5, 5, 5, 5, 5, 5, 6, 6, 6, 6, 6, 6, 6, 6, 6, 6, 6, 6, 6, 6, 6, 6, 6, 6, 6, 6, 6, 6, 6, 6, 6, 6, 6, 6, 6, 6, 6, 6, 7, 7, 7, 7, 7, 7, 7, 7, 7, 7, 7, 7, 7, 7, 7, 7, 7, 7, 7, 7, 7, 7, 7, 7, 7, 7, 7, 7, 7, 7, 7, 7, 7, 7, 7, 7, 7, 7, 7, 7, 7, 7, 7, 7, 7, 7, 7, 7, 7, 7, 7, 7, 7, 7, 7, 7, 7, 7, 7, 7, 7, 7, 7, 7, 8, 8, 8, 8, 8, 8, 8, 8, 8, 8, 8, 8, 8, 8, 8, 8, 8, 8, 8, 8, 8, 8, 8, 8, 8, 8, 8, 8, 8, 8, 8, 8, 8, 8, 8, 8, 8, 8, 8, 8, 8, 8, 8, 8, 8, 8, 8, 8, 8, 8, 8, 8, 8, 8, 8, 8, 8, 8, 8, 8, 8, 8, 8, 8, 8, 8, 8, 8, 8, 8, 8, 8, 8, 8, 8, 8, 8, 8, 8, 8, 8, 8, 8, 8, 8, 8, 8, 8, 8, 8, 8, 8, 8, 8, 8, 8, 8, 8, 8, 8, 8, 8, 8, 8, 8, 8, 8, 8, 8, 8, 8, 8, 8, 8, 8, 8, 8, 8, 8, 8, 8, 8, 8, 8, 8, 8, 8, 8]) n6'))))) h)))
  (vcond (!(ltI x0 256))
  (isNat (wrapF .u8 (shrF .u64 x0 8)) fun n7' =>
  vreq (Nat.blt n7' 256)
  (Q (.int .i64 (wrapF .i64 (8 + (wrapF .i64 (byteI (ByteArray.mk #[0, 1, 2, 2, 3, 3, 3, 3, 4, 4, 4, 4, 4, 4, 4, 4, 5, 5, 5, 5, 5, 5, 5, 5, 5, 5, 5, 5, 5, 5, 5, 5, 6, 6, 6, 6, 6, 6, 6, 6, 6, 6, 6, 6, 6, 6, 6, 6, 6, 6, 6, 6, 6, 6, 6, 6, 6, 6, 6, 6, 6, 6, 6, 6, 7, 7, 7, 7, 7, 7, 7, 7, 7, 7, 7, 7, 7, 7, 7, 7, 7, 7, 7, 7, 7, 7, 7, 7, 7, 7, 7, 7, 7, 7, 7, 7, 7, 7, 7, 7, 7, 7, 7, 7, 7, 7, 7, 7, 7, 7, 7, 7, 7, 7, 7, 7, 7, 7, 7, 7, 7, 7, 7, 7, 7, 7, 7, 7, 8, 8, 8, 8, 8, 8, 8, 8, 8, 8, 8, 8, 8, 8, 8, 8, 8, 8, 8, 8, 8, 8, 8, 8, 8, 8, 8, 8, 8, 8, 8, 8, 8, 8, 8, 8, 8, 8, 8, 8, 8, 8, 8, 8, 8, 8, 8, 8, 8, 8, 8, 8, 8, 8, 8, 8, 8, 8, 8, 8, 8, 8, 8, 8, 8, 8, 8, 8, 8, 8, 8, 8, 8, 8, 8, 8, 8, 8, 8, 8, 8, 8, 8, 8, 8, 8, 8, 8, 8, 8, 8, 8, 8, 8, 8, 8, 8, 8, 8, 8, 8, 8, 8, 8, 8, 8, 8, 8, 8, 8, 8, 8, 8, 8, 8, 8, 8, 8, 8, 8, 8, 8, 8, 8, 8, 8, 8, 8]) n7'))))) h))
  (isNat (wrapF .u8 x0) fun n8' =>
  vreq (Nat.blt n8' 256)
  (Q (.int .i64 (wrapF .i64 (0 + (wrapF .i64 (byteI (ByteArray.mk #[0, 1, 2, 2, 3, 3, 3, 3, 4, 4, 4, 4, 4, 4, 4, 4, 5, 5, 5, 5, 5, 5, 5, 5, 5, 5, 5, 5, 5, 5, 5, 5, 6, 6, 6, 6, 6, 6, 6, 6, 6, 6, 6, 6, 6, 6, 6, 6, 6, 6, 6, 6, 6, 6, 6, 6, 6, 6, 6, 6, 6, 6, 6, 6, 7, 7, 7, 7, 7, 7, 7, 7, 7, 7, 7, 7, 7, 7, 7, 7, 7, 7, 7, 7, 7, 7, 7, 7, 7, 7, 7, 7, 7, 7, 7, 7, 7, 7, 7, 7, 7, 7, 7, 7, 7, 7, 7, 7, 7, 7, 7, 7, 7, 7, 7, 7, 7, 7, 7, 7, 7, 7, 7, 7, 7, 7, 7, 7, 8, 8, 8, 8, 8, 8, 8, 8, 8, 8, 8, 8, 8, 8, 8, 8, 8, 8, 8, 8, 8, 8, 8, 8, 8, 8, 8, 8, 8, 8, 8, 8, 8, 8, 8, 8, 8, 8, 8, 8, 8, 8, 8, 8, 8, 8, 8, 8, 8, 8, 8, 8, 8, 8, 8, 8, 8, 8, 8, 8, 8, 8, 8, 8, 8, 8, 8, 8, 8, 8, 8, 8, 8, 8, 8, 8, 8, 8, 8, 8, 8, 8, 8, 8, 8, 8, 8, 8, 8, 8, 8, 8, 8, 8, 8, 8, 8, 8, 8, 8, 8, 8, 8, 8, 8, 8, 8, 8, 8, 8, 8, 8, 8, 8, 8, 8, 8, 8, 8, 8, 8, 8, 8, 8, 8, 8, 8, 8]) n8'))))) h))))
theorem rk136 {O Q} (x0) {h : Hp} (hO : O 136 [(.int .u64 x0)] h = none) (hh : T136 O Q x0 h) : Ret Tryd.prog O 136 [(.int .u64 x0)] h Q :=
  .of (c := b136) Tryd.func136 (by kernel_rfl) hO (V_ok (tb := lv136) (cuts := []) 500 (Eq.mp (by kernel_rfl) hh))
end Go.Proofs.YtfgfhplgnfbaaaaDoor
/- Contracts of library functions that sort, where the list is sorted. -/
namespace Go.Proofs.YtfgfhplgnfbaaaaDoor
open Go Go.Ev
section
variable {O : CallF} (hO : Oth O)
include hO
theorem ct123 {x y : Int} (hx : Lit x) (hy : Lit y) (h : Hp) : EvT O 123 [.int .i64 x, .int .i64 y] h (.int .i64 ((x.natAbs : Int) - (y.natAbs : Int))) h := by
  refine EvC.of_ret (rk123 _ _ (hO _ _ _ (by decide)) ?_)
  unfold T123
  refine ⟨_, _, ct94 hO x h, _, _, ct94 hO y h, ?_, rfl⟩
  have := hx.2; have := hy.2
  rw [varI_lit2 hx, varI_lit2 hy, wrap64 (by omega) (by omega)]
theorem Dif.at {l : List Int} (h : Dif l) {k : Nat} (hk : k + 1 < l.length) : l[k].natAbs < l[k + 1].natAbs := by
  have _ := hO
  exact List.pairwise_iff_getElem.1 h k (k + 1) (by omega) hk (by omega)
theorem lp127_0 {h₀ : Hp} {a0 : Option Addr} {n0 c0 : Nat} {l : List Int} (X : IntsAt h₀ a0 n0 l) (hl : l.length < 1000) (hlit : ∀ x ∈ l, Lit x) (hd : Dif l) :
    ∀ (d k : Nat), k + d = l.length → ∀ {h : Hp}, Kp h₀.nx h₀ h → I127_0 O (fun v h' => v = undef ∧ Kp h₀.nx h₀ h') a0 n0 c0 0 (Int.ofNat n0) 123 #[] #[] 123 #[] #[] (Int.ofNat (k + 1)) h := by
  have hn := X.1
  intro d
  induction d with
  | zero =>
    intro k hk h K
    refine I127_0.of _ _ _ _ _ _ _ _ _ _ _ _ ?_
    intros
    unfold T127_0
    exact vcond_f (by rw [ltI_nat]; exact blt_f (by omega)) ⟨rfl, K⟩
  | succ d ih =>
    intro k hk h K
    refine I127_0.of _ _ _ _ _ _ _ _ _ _ _ _ ?_
    intros
    unfold T127_0
    by_cases hlast : k + 1 = l.length
    · exact vcond_f (by rw [ltI_nat]; exact blt_f (by omega)) ⟨rfl, K⟩
    have inner : I127_1 O (fun v h' => v = undef ∧ Kp h₀.nx h₀ h') a0 n0 c0 0 (Int.ofNat n0) 123 #[] #[] 123 #[] #[] (Int.ofNat (k + 1)) (Int.ofNat (k + 1)) h := by
      refine I127_1.of _ _ _ _ _ _ _ _ _ _ _ _ _ ?_
      intros
      unfold T127_1
      have k17 : Kp h₀.nx h₀ (h.rsv 17) := K.rsv 17
      have e1 : wrapF .i64 (Int.ofNat (k + 1) - 1) = Int.ofNat k := by rw [wrap64] <;> simp only [Int.ofNat_eq_natCast] <;> omega
      have hlt := Dif.at hO hd (k := k) (by omega)
      refine vcond_t (ltI_t (by simp only [Int.ofNat_eq_natCast]; omega)) (isNat_of (X.get (k := k + 1) (by omega) fun b off _ hb hrd => vreq_t (blt_t (by omega)) ⟨_, by rw [readAt_kp k17 hb]; exact hrd, ?_⟩))
      rw [e1]
      refine isNat_of (X.get (k := k) (by omega) fun b off _ hb hrd => vreq_t (blt_t (by omega)) ⟨_, by rw [readAt_kp k17 hb]; exact hrd, _, _, ct123 hO (hlit _ (List.getElem_mem _)) (hlit _ (List.getElem_mem _)) _, vcond_f (ltI_f (by omega)) ?_⟩)
      rw [wrap_succ (by omega)]
      exact ih (k + 1) (by omega) k17 ..
    exact vcond_t (by rw [ltI_nat]; exact blt_t (by omega)) (inner ..)
theorem ct127 {h : Hp} {a0 : Option Addr} {n0 c0 : Nat} {l : List Int} (X : IntsAt h a0 n0 l) (hl : l.length < 1000) (hlit : ∀ x ∈ l, Lit x) (hd : Dif l) :
    Ret Tryd.prog O 127 [.slice a0 n0 c0, .int .i64 0, .int .i64 (Int.ofNat n0), .func (.func 123) #[] #[]] h fun v h' => v = undef ∧ Kp h.nx h h' := by
  refine rk127 _ _ _ _ _ _ _ _ (hO _ _ _ (by decide)) ?_
  unfold T127
  exact lp127_0 hO X hl hlit hd l.length 0 (by omega) (.refl _ _) ..
theorem lp132 {h₀ : Hp} {a0 : Option Addr} {n0 c0 : Nat} {l : List Int} (X : IntsAt h₀ a0 n0 l) (hl : l.length < 1000) (hlit : ∀ x ∈ l, Lit x) (hd : Dif l) :
    ∀ (d k : Nat), k + 1 + d = l.length → ∀ {h : Hp}, Kp h₀.nx h₀ h → I132_1 O (fun v h' => v = .bool true ∧ Kp h₀.nx h₀ h') a0 n0 c0 0 (Int.ofNat n0) 123 #[] #[] 123 #[] #[] false (Int.ofNat (k + 1)) 0 h := by
  have hn := X.1
  intro d
  induction d with
  | zero =>
    intro k hk h K
    refine I132_1.of _ _ _ _ _ _ _ _ _ _ _ _ _ _ ?_
    intros
    unfold T132_1
    exact vcond_f (by rw [ltI_nat]; exact blt_f (by omega)) (vcond_t (eqI_t (by rw [show n0 = k + 1 by omega])) ⟨rfl, K.rsv 18⟩)
  | succ d ih =>
    intro k hk h K
    refine I132_1.of _ _ _ _ _ _ _ _ _ _ _ _ _ _ ?_
    intros
    unfold T132_1
    have k18 : Kp h₀.nx h₀ (h.rsv 18) := K.rsv 18
    have e1 : wrapF .i64 (Int.ofNat (k + 1) - 1) = Int.ofNat k := by rw [wrap64] <;> simp only [Int.ofNat_eq_natCast] <;> omega
    have hlt := Dif.at hO hd (k := k) (by omega)
    refine vcond_t (by rw [ltI_nat]; exact blt_t (by omega)) (isNat_of (X.get (k := k + 1) (by omega) fun b off _ hb hrd => vreq_t (blt_t (by omega)) ⟨_, by rw [readAt_kp k18 hb]; exact hrd, ?_⟩))
    rw [e1]
    refine isNat_of (X.get (k := k) (by omega) fun b off _ hb hrd => vreq_t (blt_t (by omega)) ⟨_, by rw [readAt_kp k18 hb]; exact hrd, _, _, ct123 hO (hlit _ (List.getElem_mem _)) (hlit _ (List.getElem_mem _)) _, vcond_t (by rw [ltI_f (by omega)]; rfl) ?_⟩)
    rw [wrap_succ (by omega)]
    exact ih (k + 1) (by omega) k18 ..
theorem ct132 {h : Hp} {a0 : Option Addr} {n0 c0 : Nat} {l : List Int} (X : IntsAt h a0 n0 l) (hl : l.length < 1000) (h1 : 1 ≤ l.length) (hlit : ∀ x ∈ l, Lit x) (hd : Dif l) :
    Ret Tryd.prog O 132 [.slice a0 n0 c0, .int .i64 0, .int .i64 (Int.ofNat n0), .func (.func 123) #[] #[]] h fun v h' => v = .bool true ∧ Kp h.nx h h' := by
  refine rk132 _ _ _ _ _ _ _ _ (hO _ _ _ (by decide)) ?_
  unfold T132
  have i0 : I132_0 O (fun v h' => v = .bool true ∧ Kp h.nx h h') a0 n0 c0 0 (Int.ofNat n0) 123 #[] #[] 123 #[] #[] false 1 0 h := by
    refine I132_0.of _ _ _ _ _ _ _ _ _ _ _ _ _ _ ?_
    intros
    unfold T132_0
    exact vcond_t rfl (lp132 hO X hl hlit hd (l.length - 1) 0 (by omega) (.refl _ _) ..)
  exact i0 ..
theorem Dif.lt {l : List Int} (h : Dif l) {i j : Nat} (hij : i < j) (hj : j < l.length) : l[i].natAbs < l[j].natAbs := by
  have _ := hO
  exact List.pairwise_iff_getElem.1 h i j (by omega) hj hij
theorem ct145 {h₀ h : Hp} (K : Kp h₀.nx h₀ h) {a0 : Option Addr} {n0 c0 : Nat} {l : List Int} (X : IntsAt h₀ a0 n0 l) (hlit : ∀ x ∈ l, Lit x) (hd : Dif l) {i j : Nat} (hij : i < j) (hj : j < l.length) {b : Nat} :
    Ret Tryd.prog O 145 [.slice a0 n0 c0, .int .i64 (Int.ofNat i), .int .i64 (Int.ofNat j), .pointer (some ⟨b, 0, none⟩), .func (.func 123) #[] #[]] h fun v h' => v = .tuple #[.int .i64 (Int.ofNat i), .int .i64 (Int.ofNat j)] ∧ Kp h.nx h h' := by
  refine rk145 _ _ _ _ _ _ _ _ _ _ (hO _ _ _ (by decide)) ?_
  unfold T145
  have hn := X.1
  have k11 : Kp h₀.nx h₀ (h.rsv 11) := K.rsv 11
  have hlt := Dif.lt hO hd hij hj
  exact isNat_of (X.get (k := j) hj fun b off _ hb hrd => vreq_t (blt_t (by omega)) ⟨_, by rw [readAt_kp k11 hb]; exact hrd, isNat_of (X.get (k := i) (by omega) fun b off _ hb hrd => vreq_t (blt_t (by omega)) ⟨_, by rw [readAt_kp k11 hb]; exact hrd, _, _, ct123 hO (hlit _ (List.getElem_mem _)) (hlit _ (List.getElem_mem _)) _, vcond_f (ltI_f (by omega)) ⟨rfl, (Kp.refl _ h).rsv 11⟩⟩)⟩)
theorem ct144 {h₀ h : Hp} (K : Kp h₀.nx h₀ h) {a0 : Option Addr} {n0 c0 : Nat} {l : List Int} (X : IntsAt h₀ a0 n0 l) (hlit : ∀ x ∈ l, Lit x) (hd : Dif l) {i j k : Nat} (hij : i < j) (hjk : j < k) (hk : k < l.length) {b : Nat} :
    Ret Tryd.prog O 144 [.slice a0 n0 c0, .int .i64 (Int.ofNat i), .int .i64 (Int.ofNat j), .int .i64 (Int.ofNat k), .pointer (some ⟨b, 0, none⟩), .func (.func 123) #[] #[]] h fun v h' => v = .int .i64 (Int.ofNat j) ∧ Kp h.nx h h' := by
  refine rk144 _ _ _ _ _ _ _ _ _ _ _ (hO _ _ _ (by decide)) ?_
  unfold T144
  obtain ⟨v1, h1, e1, rfl, K1⟩ := ct145 hO K X hlit hd hij (by omega) (c0 := c0) (b := b)
  have k1 := K.trans (K1.le K.nx)
  obtain ⟨v2, h2, e2, rfl, K2⟩ := ct145 hO k1 X hlit hd hjk hk (c0 := c0) (b := b)
  have k2 := k1.trans (K2.le k1.nx)
  obtain ⟨v3, h3, e3, rfl, K3⟩ := ct145 hO k2 X hlit hd hij (by omega) (c0 := c0) (b := b)
  exact ⟨_, _, _, e1, _, _, _, e2, _, _, _, e3, rfl, (K1.trans (K2.le K1.nx)).trans (K3.le (Nat.le_trans K1.nx K2.nx))⟩
theorem ct130 {h : Hp} {a0 : Option Addr} {n0 c0 : Nat} {l : List Int} (X : IntsAt h a0 n0 l) (hl : l.length < 50) (h1 : 8 ≤ l.length) (hlit : ∀ x ∈ l, Lit x) (hd : Dif l) :
    Ret Tryd.prog O 130 [.slice a0 n0 c0, .int .i64 0, .int .i64 (Int.ofNat n0), .func (.func 123) #[] #[]] h fun v h' => (∃ p, v = .tuple #[.int .i64 p, .int .i64 1]) ∧ Kp h.nx h h' := by
  refine rk130 _ _ _ _ _ _ _ _ (hO _ _ _ (by decide)) ?_
  unfold T130
  have hn := X.1
  have e0 : wrapF .i64 (Int.ofNat n0 - 0) = Int.ofNat n0 := by rw [wrap64] <;> simp only [Int.ofNat_eq_natCast] <;> omega
  have e4 : wrapF .i64 (Int.tdiv (Int.ofNat n0) 4) = Int.ofNat (n0 / 4) := by
    show wrapF .i64 (Int.ofNat (n0 / 4)) = _
    rw [wrap64] <;> simp only [Int.ofNat_eq_natCast] <;> omega
  have em : ∀ q : Nat, q ≤ 3 → wrapF .i64 (0 + wrapF .i64 (Int.ofNat (n0 / 4) * (q : Int))) = Int.ofNat (n0 / 4 * q) := fun q hq => by
    have hb : n0 / 4 * q ≤ 12 * 3 := Nat.mul_le_mul (by omega) hq
    have e : Int.ofNat (n0 / 4) * (q : Int) = Int.ofNat (n0 / 4 * q) := rfl
    rw [e, Int.zero_add, wrap64 (n := Int.ofNat (n0 / 4 * q)) (by simp only [Int.ofNat_eq_natCast]; omega) (by simp only [Int.ofNat_eq_natCast]; omega), wrap64 (by simp only [Int.ofNat_eq_natCast]; omega) (by simp only [Int.ofNat_eq_natCast]; omega)]
  have em1 : wrapF .i64 (0 + wrapF .i64 (Int.ofNat (n0 / 4) * 1)) = Int.ofNat (n0 / 4 * 1) := em 1 (by omega)
  have em2 : wrapF .i64 (0 + wrapF .i64 (Int.ofNat (n0 / 4) * 2)) = Int.ofNat (n0 / 4 * 2) := em 2 (by omega)
  have em3 : wrapF .i64 (0 + wrapF .i64 (Int.ofNat (n0 / 4) * 3)) = Int.ofNat (n0 / 4 * 3) := em 3 (by omega)
  rw [e0, e4]
  rw [em1, em2, em3]
  have K0 : Kp h.nx h (h.add (.cells [(.int .i64 0)] 3 .fix)) := (Kp.refl _ h).add (Nat.le_refl _) _
  obtain ⟨v, h2, e2, rfl, K2⟩ := ct144 hO K0 X hlit hd (i := n0 / 4 * 1) (j := n0 / 4 * 2) (k := n0 / 4 * 3) (by omega) (by omega) (by omega) (c0 := c0) (b := h.nx)
  have g2 : h2.get h.nx = some (.cells [.int .i64 0] 3 .fix) := by rw [K2.get _ (by rw [nx_add]; omega)]; exact get_add_same ..
  refine vcond_t (by rw [ltI_f (by simp only [Int.ofNat_eq_natCast]; omega)]; rfl) (vcond_f (by rw [ltI_t (by simp only [Int.ofNat_eq_natCast]; omega)]; rfl) ⟨_, _, e2, _, read1 g2 rfl, vcond_t (eqI_t rfl) ⟨⟨_, rfl⟩, K0.trans (K2.le K0.nx)⟩⟩)
end
end Go.Proofs.YtfgfhplgnfbaaaaDoor
/- Contracts of library functions that sort, where the list is sorted: to the end. Contraries. -/
namespace Go.Proofs.YtfgfhplgnfbaaaaDoor
open Go Go.Ev
def lenT : ByteArray := ByteArray.mk #[0, 1, 2, 2, 3, 3, 3, 3, 4, 4, 4, 4, 4, 4, 4, 4, 5, 5, 5, 5, 5, 5, 5, 5, 5, 5, 5, 5, 5, 5, 5, 5, 6, 6, 6, 6, 6, 6, 6, 6, 6, 6, 6, 6, 6, 6, 6, 6, 6, 6, 6, 6, 6, 6, 6, 6, 6, 6, 6, 6, 6, 6, 6, 6, 7, 7, 7, 7, 7, 7, 7, 7, 7, 7, 7, 7, 7, 7, 7, 7, 7, 7, 7, 7, 7, 7, 7, 7, 7, 7, 7, 7, 7, 7, 7, 7, 7, 7, 7, 7, 7, 7, 7, 7, 7, 7, 7, 7, 7, 7, 7, 7, 7, 7, 7, 7, 7, 7, 7, 7, 7, 7, 7, 7, 7, 7, 7, 7, 8, 8, 8, 8, 8, 8, 8, 8, 8, 8, 8, 8, 8, 8, 8, 8, 8, 8, 8, 8, 8, 8, 8, 8, 8, 8, 8, 8, 8, 8, 8, 8, 8, 8, 8, 8, 8, 8, 8, 8, 8, 8, 8, 8, 8, 8, 8, 8, 8, 8, 8, 8, 8, 8, 8, 8, 8, 8, 8, 8, 8, 8, 8, 8, 8, 8, 8, 8, 8, 8, 8, 8, 8, 8, 8, 8, 8, 8, 8, 8, 8, 8, 8, 8, 8, 8, 8, 8, 8, 8, 8, 8, 8, 8, 8, 8, 8, 8, 8, 8, 8, 8, 8, 8, 8, 8, 8, 8, 8, 8, 8, 8, 8, 8, 8, 8, 8, 8, 8, 8, 8, 8, 8, 8, 8, 8, 8, 8]
theorem lenT_ok : ∀ k, k < 256 → wrapF .i64 (0 + wrapF .i64 (byteI lenT k)) ≠ 0 ∨ k = 0 := by decide +kernel
section
variable {O : CallF} (hO : Oth O)
include hO
theorem ct136 {n : Nat} (hn : n < 256) (h : Hp) : EvT O 136 [.int .u64 (Int.ofNat n)] h (.int .i64 (wrapF .i64 (0 + wrapF .i64 (byteI lenT n)))) h := by
  refine EvC.of_ret (rk136 _ (hO _ _ _ (by decide)) ?_)
  unfold T136
  have e8 : wrapF .u8 (Int.ofNat n) = Int.ofNat n := by
    show Int.ofNat (n % 256) = _
    rw [Nat.mod_eq_of_lt hn]
  rw [e8]
  refine vcond_f (by rw [ltI_t (by simp only [Int.ofNat_eq_natCast]; omega)]; rfl) (vcond_f (by rw [ltI_t (by simp only [Int.ofNat_eq_natCast]; omega)]; rfl) (vcond_f (by rw [ltI_t (by simp only [Int.ofNat_eq_natCast]; omega)]; rfl) (isNat_of (vreq_t (blt_t hn) ⟨rfl, rfl⟩))))
theorem ct116 {n : Nat} (hn : n < 256) (h : Hp) : EvT O 116 [.int .u64 (Int.ofNat n)] h (.int .i64 (wrapF .i64 (0 + wrapF .i64 (byteI lenT n)))) h := by
  refine EvC.of_ret (rk116 _ (hO _ _ _ (by decide)) ?_)
  unfold T116
  exact ⟨_, _, ct136 hO hn h, rfl, rfl⟩
theorem ct115 {h : Hp} {a0 : Option Addr} {n0 c0 : Nat} {l : List Int} (X : IntsAt h a0 n0 l) (hl : l.length < 50) (hlit : ∀ x ∈ l, Lit x) (hd : Dif l) {x3 : Int} (h3 : 12 < l.length → x3 ≠ 0) :
    Ret Tryd.prog O 115 [.slice a0 n0 c0, .int .i64 0, .int .i64 (Int.ofNat n0), .int .i64 x3, .func (.func 123) #[] #[]] h fun v h' => v = undef ∧ Kp h.nx h h' := by
  refine rk115 _ _ _ _ _ _ _ _ _ (hO _ _ _ (by decide)) ?_
  unfold T115
  have hn := X.1
  have i0 : I115_0 O (fun v h' => v = undef ∧ Kp h.nx h h') a0 n0 c0 0 (Int.ofNat n0) x3 123 #[] #[] 0 (Int.ofNat n0) x3 123 #[] #[] true true h := by
    refine I115_0.of _ _ _ _ _ _ _ _ _ _ _ _ _ _ _ _ _ ?_
    intros
    unfold T115_0
    have e0 : wrapF .i64 (Int.ofNat n0 - 0) = Int.ofNat n0 := by rw [wrap64] <;> simp only [Int.ofNat_eq_natCast] <;> omega
    rw [e0]
    refine vcond_split (fun h1 => ?_) fun h1 => ?_
    · obtain ⟨v, h2, e2, rfl, K2⟩ := ct127 hO X (by omega) hlit hd (c0 := c0)
      exact ⟨_, e2, rfl, K2⟩
    · have h1 : 12 < l.length := by
        have : ltI 12 (Int.ofNat n0) = true := by simpa using h1
        have := lt_of_t this
        simp only [Int.ofNat_eq_natCast] at this
        omega
      refine vcond_f (eqI_f (h3 h1)) (vcond_f rfl ?_)
      obtain ⟨v, h2, e2, ⟨p, rfl⟩, K2⟩ := ct130 hO X hl (by omega) hlit hd (c0 := c0)
      obtain ⟨v, h4, e4, rfl, K4⟩ := ct132 hO (X.up EInt.up K2) (by omega) (by omega) hlit hd (c0 := c0)
      exact ⟨_, _, _, e2, vcond_f (eqI_f (by decide)) (vcond_t rfl (vcond_t rfl (vcond_t (eqI_t rfl) ⟨_, _, e4, vcond_t rfl ⟨rfl, K2.trans (K4.le K2.nx)⟩⟩)))⟩
  exact i0 ..
theorem ct74 {h : Hp} {a0 : Option Addr} {n0 c0 : Nat} {l : List Int} (X : IntsAt h a0 n0 l) (hl : l.length < 50) (hlit : ∀ x ∈ l, Lit x) (hd : Dif l) :
    Ret Tryd.prog O 74 [.slice a0 n0 c0, .func (.func 123) #[] #[]] h fun v h' => v = undef ∧ Kp h.nx h h' := by
  refine rk74 _ _ _ _ _ _ (hO _ _ _ (by decide)) ?_
  unfold T74
  have hn := X.1
  have e : wrapF .u64 (Int.ofNat n0) = Int.ofNat n0 := by
    have : n0 < 50 := by omega
    clear X hn
    revert n0
    decide +kernel
  rw [e]
  obtain ⟨v, h2, e2, rfl, K2⟩ := ct115 hO X hl hlit hd (c0 := c0) (x3 := wrapF .i64 (0 + wrapF .i64 (byteI lenT n0))) (fun h12 => (lenT_ok n0 (by omega)).resolve_right (by omega))
  exact ⟨_, _, ct116 hO (by omega) h, _, e2, rfl, K2⟩
omit hO in
theorem Dif.neg {l : List Int} (h : Dif l) : Dif (l.map fun x => -x) := by
  unfold Dif
  rw [List.pairwise_map]
  refine h.imp fun {x z} hxz => ?_
  rw [Int.natAbs_neg, Int.natAbs_neg]; exact hxz
omit hO in
theorem lit_neg {l : List Int} (h : ∀ x ∈ l, Lit x) : ∀ x ∈ l.map (fun x => -x), Lit x := by
  intro x hx
  obtain ⟨z, hz, rfl⟩ := List.mem_map.1 hx
  have := h z hz
  exact ⟨by have := this.1; omega, by have := this.2; omega⟩
theorem lp96_0 {h₀ : Hp} (ok : h₀.Ok) {a0 : Option Addr} {n0 c0 : Nat} {l : List Int} (X : IntsAt h₀ a0 n0 l) (hl : l.length < 50) (hlit : ∀ x ∈ l, Lit x) (hd : Dif l) :
    ∀ (d k : Nat), k + d = l.length → ∀ {a : Option Addr} {n c : Nat} {h : Hp}, Kp h₀.nx h₀ h → AccI 3 h h₀.nx a n c ((l.take k).map fun x => -x) → I96_0 O (RInts h₀ (l.map fun x => -x)) a0 n0 c0 a n c (Int.ofNat k) h := by
  have hn := X.1
  intro d
  induction d with
  | zero =>
    intro k hk a n c h K A
    refine I96_0.of _ _ _ _ _ _ _ ?_
    intros
    unfold T96_0
    rw [List.take_of_length_le (by omega)] at A
    obtain ⟨v, h2, e2, rfl, K2⟩ := ct74 hO A.ints (by simpa using hl) (lit_neg hlit) hd.neg (c0 := c)
    exact vcond_f (by rw [ltI_nat]; exact blt_f (by omega)) ⟨_, e2, a, n, c, rfl, A.ints.up EInt.up K2, K.trans (K2.le K.nx), fun b off e => Acc.fresh A e⟩
  | succ d ih =>
    intro k hk a n c h K A
    refine I96_0.of _ _ _ _ _ _ _ ?_
    intros
    unfold T96_0
    have hx := hlit l[k] (List.getElem_mem _)
    have e2 : wrapF .i64 (0 - l[k]) = -l[k] := by have := hx.2; rw [wrap64 (by omega) (by omega)]; omega
    obtain ⟨a', n', c', h', p1, p2, p3⟩ := app_int app32 A K.nx (fun q hq => by rw [K.gd] at hq; exact ok.gd q hq) (by simp; omega) (-l[k])
    refine vcond_t (by rw [ltI_nat]; exact blt_t (by omega)) (isNat_of (X.get (k := k) (by omega) fun b' off _ hlt hrd => vreq_t (blt_t (by omega)) ⟨_, by rw [readAt_kp K hlt]; exact hrd, a', n', c', h', by rw [e2]; exact p1, ?_⟩))
    rw [wrap_succ (by omega)]
    have e1 : l.take (k + 1) = l.take k ++ [l[k]] := List.take_succ_eq_append_getElem (by omega)
    refine ih (k + 1) (by omega) (K.trans (p3.kp A K.nx)) ?_ ..
    rw [e1, List.map_append]; exact p2
theorem ct96 {h : Hp} (ok : h.Ok) {a0 : Option Addr} {n0 c0 : Nat} {l : List Int} (X : IntsAt h a0 n0 l) (hl : l.length < 50) (hlit : ∀ x ∈ l, Lit x) (hd : Dif l) : Ret Tryd.prog O 96 [.slice a0 n0 c0] h (RInts h (l.map fun x => -x)) := by
  refine rk96 _ _ _ (hO _ _ _ (by decide)) ?_
  unfold T96
  exact lp96_0 hO ok X hl hlit hd l.length 0 (by omega) (.refl _ _) (AccI.nil ..) ..
end
end Go.Proofs.YtfgfhplgnfbaaaaDoor
/- Conditions of functions' code, printed by a program of ours. -/
namespace Go.Proofs.YtfgfhplgnfbaaaaDoor
open Go Go.Ev
set_option maxRecDepth 100000
set_option linter.unusedVariables false
/-! (sward/swardlaw20.Puzzle).made -/
noncomputable def b16 : Code := (Tryd.f16.body).getD .skip
noncomputable def stk16_0 : List KI := [.code (sub [1, 1, 0, 1, 0] b16), .blk 0, .code (sub [1, 1, 1] b16)]
noncomputable def stk16_1 : List KI := [.code (sub [1, 1, 0, 1, 0, 0, 1, 1, 0, 0, 1, 1, 0, 1, 0] b16), .blk 2, .code (sub [1, 1, 0, 1, 0, 0, 1, 1, 0, 0, 1, 1, 1] b16), .blk 1, .code (sub [1, 1, 0, 1, 0, 0, 1, 1, 1] b16), .code (sub [1, 1, 0, 1, 0] b16), .blk 0, .code (sub [1, 1, 1] b16)]
def lv16 : List (Nat × List Nat) := [(0, [4, 5, 23, 24, 25]), (2, [4, 5, 8, 23, 24, 25, 29, 30])]
def I16_0 (O : CallF) (Q : Value → Hp → Prop) (v0 : Array Value) (x1 : Int) (b4 : Nat) (f4 : Nat) (b5 : Nat) (f5 : Nat) (a23 : Option Addr) (n23 : Nat) (c23 : Nat) (x24 : Int) (x25 : Int) (h : Hp) : Prop := RKL Tryd.prog O Tryd.f16 stk16_0 57 [4, 5, 23, 24, 25] [(.pointer (some ⟨b4, f4, none⟩)), (.pointer (some ⟨b5, f5, none⟩)), (.slice a23 n23 c23), (.int .i64 x24), (.int .i64 x25)] h Q
def I16_1 (O : CallF) (Q : Value → Hp → Prop) (v0 : Array Value) (x1 : Int) (b4 : Nat) (f4 : Nat) (b5 : Nat) (f5 : Nat) (a8 : Option Addr) (n8 : Nat) (c8 : Nat) (a23 : Option Addr) (n23 : Nat) (c23 : Nat) (x24 : Int) (x25 : Int) (x29_0 : Int) (x29_1 : Int) (x29_2 : Int) (x30 : Int) (h : Hp) : Prop := RKL Tryd.prog O Tryd.f16 stk16_1 57 [4, 5, 8, 23, 24, 25, 29, 30] [(.pointer (some ⟨b4, f4, none⟩)), (.pointer (some ⟨b5, f5, none⟩)), (.slice a8 n8 c8), (.slice a23 n23 c23), (.int .i64 x24), (.int .i64 x25), (.agg #[(.int .i8 x29_0), (.int .i8 x29_1), (.int .i8 x29_2)]), (.int .i64 x30)] h Q
def T16 (O : CallF) (Q : Value → Hp → Prop) (v0 : Array Value) (x1 : Int) (h : Hp) : Prop :=
  vreq (v0.toList.all one)
  (let g1 : Hp := h.add (.cells v0.toList 26 .fix)
  let g2 : Hp := g1.add (.cells [(.int .i64 0), (.slice none 0 0)] 30 .fix)
  ∃ x3', readAt g2 h.nx 0 1 = some [(.int .u8 x3')] ∧
  vreq (!(eqI x1 0))
  (let g4 : Hp := g2.add (.cells [(.int .i64 0), (.slice none 0 0)] 30 .fix)
  vreq (canW g4 g2.nx 0 [(.int .i64 (wrapF .i64 (1 + (Int.tmod (wrapF .i64 x3') x1)))), (.slice none 0 0)])
  (let g5 : Hp := g4.wr g2.nx 0 [(.int .i64 (wrapF .i64 (1 + (Int.tmod (wrapF .i64 x3') x1)))), (.slice none 0 0)]
  ∃ x6', readAt g5 h.nx 1 1 = some [(.int .u8 x6')] ∧
  ∃ a7' n8' c9', sliceV Tryd.prog g5 24 (.pointer (some ⟨h.nx, 2, none⟩)) none (some (.int .i64 (Int.tmod (wrapF .i64 x6') 15))) none = some (.slice a7' n8' c9') ∧
  I16_0 O Q v0 x1 g1.nx 0 g2.nx 0 a7' n8' c9' (Int.ofNat n8') 0 g5)))
theorem rk16 {O Q} (v0 x1) {h : Hp} (hO : O 16 [(.agg v0), (.int .i64 x1)] h = none) (hh : T16 O Q v0 x1 h) : Ret Tryd.prog O 16 [(.agg v0), (.int .i64 x1)] h Q :=
  .of (c := b16) Tryd.func16 (by kernel_rfl) hO (V_ok (tb := lv16) (cuts := []) 500 (Eq.mp (by kernel_rfl) hh))
def T16_0 (O : CallF) (Q : Value → Hp → Prop) (v0 : Array Value) (x1 : Int) (b4 : Nat) (f4 : Nat) (b5 : Nat) (f5 : Nat) (a23 : Option Addr) (n23 : Nat) (c23 : Nat) (x24 : Int) (x25 : Int) (h : Hp) : Prop :=
  vcond (ltI x25 x24)
  (isNat x25 fun n101' =>
  isAddr a23 fun b102' f103' =>
  vreq (Nat.blt n101' n23)
  (∃ x104', ∃ x105', ∃ x106', readAt h b102' (f103' + (n101' * 3)) 3 = some [(.int .i8 x104'), (.int .i8 x105'), (.int .i8 x106')] ∧
  let g107 : Hp := h.add (.cells [(.int .i8 0), (.int .i8 0), (.int .i8 0)] 23 .fix)
  vreq (canW g107 h.nx 0 [(.int .i8 x104'), (.int .i8 x105'), (.int .i8 x106')])
  (let g108 : Hp := g107.wr h.nx 0 [(.int .i8 x104'), (.int .i8 x105'), (.int .i8 x106')]
  ∃ x109', ∃ x110', ∃ x111', readAt g108 h.nx 0 3 = some [(.int .i8 x109'), (.int .i8 x110'), (.int .i8 x111')] ∧
  I16_1 O Q v0 x1 b4 f4 b5 f5 none 0 0 a23 n23 c23 x24 x25 x109' x110' x111' 0 g108)))
  (∃ x112', ∃ a113' n114' c115', readAt h b5 f5 2 = some [(.int .i64 x112'), (.slice a113' n114' c115')] ∧
  vreq (canW h b4 f4 [(.int .i64 x112'), (.slice a113' n114' c115')])
  (let g116 : Hp := h.wr b4 f4 [(.int .i64 x112'), (.slice a113' n114' c115')]
  ∃ x117', ∃ a118' n119' c120', readAt g116 b4 f4 2 = some [(.int .i64 x117'), (.slice a118' n119' c120')] ∧
  Q (.agg #[(.int .i64 x117'), (.slice a118' n119' c120')]) g116))
theorem I16_0.of {O Q} (v0 x1 b4 f4 b5 f5 a23 n23 c23 x24 x25) {h : Hp} (hh : T16_0 O Q v0 x1 b4 f4 b5 f5 a23 n23 c23 x24 x25 h) : I16_0 O Q v0 x1 b4 f4 b5 f5 a23 n23 c23 x24 x25 h :=
  RKL.of (tb := lv16) (cuts := []) 500 fun _ => Eq.mp (by kernel_rfl) hh
def T16_1 (O : CallF) (Q : Value → Hp → Prop) (v0 : Array Value) (x1 : Int) (b4 : Nat) (f4 : Nat) (b5 : Nat) (f5 : Nat) (a8 : Option Addr) (n8 : Nat) (c8 : Nat) (a23 : Option Addr) (n23 : Nat) (c23 : Nat) (x24 : Int) (x25 : Int) (x29_0 : Int) (x29_1 : Int) (x29_2 : Int) (x30 : Int) (h : Hp) : Prop :=
  vcond (ltI x30 3)
  (isNat x30 fun n201' =>
  vreq (Nat.blt n201' 3)
  (vcond (ltI x30 2)
  (∃ x202', readAt h b5 (f5 + 0) 1 = some [(.int .i64 x202')] ∧
  ∃ x203', ∃ h204', EvC Tryd.prog O 21 [(.int .i8 (List.getD [x29_0, x29_1, x29_2] n201' 0)), (.int .i64 x202')] h (.int .i64 x203') h204' ∧
  let g205 : Hp := h204'.add (.cells [(.int .i64 x203')] 3 .fix)
  ∃ a206' n207' c208' h209', appendV Tryd.prog g205 32 32 (.slice a8 n8 c8) (.slice (some ⟨h204'.nx, 0, none⟩) 1 1) = some (.slice a206' n207' c208', h209') ∧
  I16_1 O Q v0 x1 b4 f4 b5 f5 a206' n207' c208' a23 n23 c23 x24 x25 x29_0 x29_1 x29_2 (wrapF .i64 (x30 + 1)) h209')
  (vcond (!(ltI (List.getD [x29_0, x29_1, x29_2] n201' 0) 0))
  (∃ x210', readAt h b5 (f5 + 0) 1 = some [(.int .i64 x210')] ∧
  ∃ x211', ∃ h212', EvC Tryd.prog O 21 [(.int .i8 (List.getD [x29_0, x29_1, x29_2] n201' 0)), (.int .i64 x210')] h (.int .i64 x211') h212' ∧
  let g213 : Hp := h212'.add (.cells [(.int .i64 x211')] 3 .fix)
  ∃ a214' n215' c216' h217', appendV Tryd.prog g213 32 32 (.slice a8 n8 c8) (.slice (some ⟨h212'.nx, 0, none⟩) 1 1) = some (.slice a214' n215' c216', h217') ∧
  I16_1 O Q v0 x1 b4 f4 b5 f5 a214' n215' c216' a23 n23 c23 x24 x25 x29_0 x29_1 x29_2 (wrapF .i64 (x30 + 1)) h217')
  (I16_1 O Q v0 x1 b4 f4 b5 f5 a8 n8 c8 a23 n23 c23 x24 x25 x29_0 x29_1 x29_2 (wrapF .i64 (x30 + 1)) h))))
  (let g218 : Hp := h.rsv 8
  ∃ a219' n220' c221', readAt g218 b5 (f5 + 1) 1 = some [(.slice a219' n220' c221')] ∧
  ∃ a222' n223' c224', ∃ h225', EvC Tryd.prog O 19 [(.slice a8 n8 c8)] (g218.grd [b5]) (.slice a222' n223' c224') h225' ∧
  let g226 : Hp := h225'.rst g218
  vreq (g226.free (h.nx + 4))
  (let g227 : Hp := g226.lay (h.nx + 4) (.cells [(.slice a222' n223' c224')] 32 .fix)
  ∃ a228' n229' c230' h231', appendV Tryd.prog (g227.grd []) 28 28 (.slice a219' n220' c221') (.slice (some ⟨(h.nx + 4), 0, none⟩) 1 1) = some (.slice a228' n229' c230', h231') ∧
  let g232 : Hp := h231'.rst g227
  vreq (canW (g232.grd []) b5 (f5 + 1) [(.slice a228' n229' c230')])
  (let g233 : Hp := (g232.grd []).wr b5 (f5 + 1) [(.slice a228' n229' c230')]
  let g234 : Hp := g233.rst g232
  I16_0 O Q v0 x1 b4 f4 b5 f5 a23 n23 c23 x24 (wrapF .i64 (x25 + 1)) g234)))
theorem I16_1.of {O Q} (v0 x1 b4 f4 b5 f5 a8 n8 c8 a23 n23 c23 x24 x25 x29_0 x29_1 x29_2 x30) {h : Hp} (hh : T16_1 O Q v0 x1 b4 f4 b5 f5 a8 n8 c8 a23 n23 c23 x24 x25 x29_0 x29_1 x29_2 x30 h) : I16_1 O Q v0 x1 b4 f4 b5 f5 a8 n8 c8 a23 n23 c23 x24 x25 x29_0 x29_1 x29_2 x30 h :=
  RKL.of (tb := lv16) (cuts := []) 500 fun _ => Eq.mp (by kernel_rfl) hh
/-! sward/swardlaw20.clause -/
noncomputable def b19 : Code := (Tryd.f19.body).getD .skip
noncomputable def stk19_0 : List KI := [.code (sub [1, 1, 0, 1, 0] b19), .blk 0, .code (sub [1, 1, 1] b19)]
def lv19 : List (Nat × List Nat) := [(0, [2, 3, 6, 7, 8])]
def I19_0 (O : CallF) (Q : Value → Hp → Prop) (a0 : Option Addr) (n0 : Nat) (c0 : Nat) (a3 : Option Addr) (n3 : Nat) (c3 : Nat) (x8 : Int) (h : Hp) : Prop := RKL Tryd.prog O Tryd.f19 stk19_0 31 [2, 3, 6, 7, 8] [(.slice none 0 0), (.slice a3 n3 c3), (.slice a0 n0 c0), (.int .i64 (Int.ofNat n0)), (.int .i64 x8)] h Q
def T19 (O : CallF) (Q : Value → Hp → Prop) (a0 : Option Addr) (n0 : Nat) (c0 : Nat) (h : Hp) : Prop :=
  I19_0 O Q a0 n0 c0 none 0 0 0 h
theorem rk19 {O Q} (a0 n0 c0) {h : Hp} (hO : O 19 [(.slice a0 n0 c0)] h = none) (hh : T19 O Q a0 n0 c0 h) : Ret Tryd.prog O 19 [(.slice a0 n0 c0)] h Q :=
  .of (c := b19) Tryd.func19 (by kernel_rfl) hO (V_ok (tb := lv19) (cuts := []) 500 (Eq.mp (by kernel_rfl) hh))
def T19_0 (O : CallF) (Q : Value → Hp → Prop) (a0 : Option Addr) (n0 : Nat) (c0 : Nat) (a3 : Option Addr) (n3 : Nat) (c3 : Nat) (x8 : Int) (h : Hp) : Prop :=
  vcond (ltI x8 (Int.ofNat n0))
  (isNat x8 fun n101' =>
  isAddr a0 fun b102' f103' =>
  vreq (Nat.blt n101' n0)
  (∃ x104', readAt h b102' (f103' + (n101' * 1)) 1 = some [(.int .i64 x104')] ∧
  ∃ q105', ∃ h106', EvC Tryd.prog O 62 [(.slice a3 n3 c3), (.int .i64 x104')] h (.bool q105') h106' ∧
  vcond (!q105')
  (∃ q107', ∃ h108', EvC Tryd.prog O 62 [(.slice a3 n3 c3), (.int .i64 (wrapF .i64 (0 - x104')))] h106' (.bool q107') h108' ∧
  vcond (!q107')
  (let g109 : Hp := h108'.add (.cells [(.int .i64 x104')] 3 .fix)
  ∃ a110' n111' c112' h113', appendV Tryd.prog g109 32 32 (.slice a3 n3 c3) (.slice (some ⟨h108'.nx, 0, none⟩) 1 1) = some (.slice a110' n111' c112', h113') ∧
  I19_0 O Q a0 n0 c0 a110' n111' c112' (wrapF .i64 (x8 + 1)) h113')
  (I19_0 O Q a0 n0 c0 a3 n3 c3 (wrapF .i64 (x8 + 1)) h108'))
  (I19_0 O Q a0 n0 c0 a3 n3 c3 (wrapF .i64 (x8 + 1)) h106')))
  (∃ h114', EvC Tryd.prog O 74 [(.slice a3 n3 c3), (.func (.func 75) #[] #[])] h undef h114' ∧
  Q (.slice a3 n3 c3) h114')
theorem I19_0.of {O Q} (a0 n0 c0 a3 n3 c3 x8) {h : Hp} (hh : T19_0 O Q a0 n0 c0 a3 n3 c3 x8 h) : I19_0 O Q a0 n0 c0 a3 n3 c3 x8 h :=
  RKL.of (tb := lv19) (cuts := []) 500 fun _ => Eq.mp (by kernel_rfl) hh
/-! sward/swardlaw20.list -/
noncomputable def b20 : Code := (Tryd.f20.body).getD .skip
def lv20 : List (Nat × List Nat) := []
def T20 (O : CallF) (Q : Value → Hp → Prop) (a0 : Option Addr) (n0 : Nat) (c0 : Nat) (h : Hp) : Prop :=
  Q (.slice a0 n0 c0) h
theorem rk20 {O Q} (a0 n0 c0) {h : Hp} (hO : O 20 [(.slice a0 n0 c0)] h = none) (hh : T20 O Q a0 n0 c0 h) : Ret Tryd.prog O 20 [(.slice a0 n0 c0)] h Q :=
  .of (c := b20) Tryd.func20 (by kernel_rfl) hO (V_ok (tb := lv20) (cuts := []) 500 (Eq.mp (by kernel_rfl) hh))
/-! sward/swardlaw20.literal -/
noncomputable def b21 : Code := (Tryd.f21.body).getD .skip
def lv21 : List (Nat × List Nat) := []
def T21 (O : CallF) (Q : Value → Hp → Prop) (x0 : Int) (x1 : Int) (h : Hp) : Prop :=
  vreq (!(eqI x1 0))
  (vcond (eqI (Int.tmod x0 2) 0)
  (Q (.int .i64 (wrapF .i64 (0 - (wrapF .i64 (1 + (Int.tmod (wrapF .i64 (Int.tdiv (wrapF .i64 ((wrapF .i64 x0) + 128)) 2)) x1)))))) h)
  (Q (.int .i64 (wrapF .i64 (1 + (Int.tmod (wrapF .i64 (Int.tdiv (wrapF .i64 ((wrapF .i64 x0) + 128)) 2)) x1)))) h))
theorem rk21 {O Q} (x0 x1) {h : Hp} (hO : O 21 [(.int .i8 x0), (.int .i64 x1)] h = none) (hh : T21 O Q x0 x1 h) : Ret Tryd.prog O 21 [(.int .i8 x0), (.int .i64 x1)] h Q :=
  .of (c := b21) Tryd.func21 (by kernel_rfl) hO (V_ok (tb := lv21) (cuts := []) 500 (Eq.mp (by kernel_rfl) hh))
/-! slices.Clone[[]int,int] -/
noncomputable def b60 : Code := (Tryd.f60.body).getD .skip
def lv60 : List (Nat × List Nat) := []
def T60 (O : CallF) (Q : Value → Hp → Prop) (a0 : Option Addr) (n0 : Nat) (c0 : Nat) (h : Hp) : Prop :=
  vnil a0
  (Q (.slice none 0 0) h)
  (let g1 : Hp := h.add (.cells [] 3 .fix)
  ∃ a2' n3' c4' h5', appendV Tryd.prog g1 32 32 (.slice (some ⟨h.nx, 0, none⟩) 0 0) (.slice a0 n0 c0) = some (.slice a2' n3' c4', h5') ∧
  Q (.slice a2' n3' c4') h5')
theorem rk60 {O Q} (a0 n0 c0) {h : Hp} (hO : O 60 [(.slice a0 n0 c0)] h = none) (hh : T60 O Q a0 n0 c0 h) : Ret Tryd.prog O 60 [(.slice a0 n0 c0)] h Q :=
  .of (c := b60) Tryd.func60 (by kernel_rfl) hO (V_ok (tb := lv60) (cuts := []) 500 (Eq.mp (by kernel_rfl) hh))
/-! sward/swardlaw20.clause$1 -/
noncomputable def b75 : Code := (Tryd.f75.body).getD .skip
def lv75 : List (Nat × List Nat) := []
def T75 (O : CallF) (Q : Value → Hp → Prop) (x0 : Int) (x1 : Int) (h : Hp) : Prop :=
  Q (.int .i64 (wrapF .i64 ((maxI x0 (wrapF .i64 (0 - x0))) - (maxI x1 (wrapF .i64 (0 - x1)))))) h
theorem rk75 {O Q} (x0 x1) {h : Hp} (hO : O 75 [(.int .i64 x0), (.int .i64 x1)] h = none) (hh : T75 O Q x0 x1 h) : Ret Tryd.prog O 75 [(.int .i64 x0), (.int .i64 x1)] h Q :=
  .of (c := b75) Tryd.func75 (by kernel_rfl) hO (V_ok (tb := lv75) (cuts := []) 500 (Eq.mp (by kernel_rfl) hh))
/-! slices.IndexFunc[[]int,int] -/
end Go.Proofs.YtfgfhplgnfbaaaaDoor
/- Contracts of layer 20: sorting of few numbers; literals by numbers, clauses of them. -/
namespace Go.Proofs.YtfgfhplgnfbaaaaDoor
open Go Go.Ev
/-- All but one object is as it was. -/
structure Kx (b : Nat) (h h' : Hp) : Prop where
  get : ∀ o, o < h.nx → o ≠ b → h'.get o = h.get o
  nx : h.nx ≤ h'.nx
  gd : h'.gd = h.gd
  fr : h.Fresh → h'.Fresh
theorem Kx.refl (b : Nat) (h : Hp) : Kx b h h := ⟨fun _ _ _ => rfl, Nat.le_refl _, rfl, id⟩
theorem Kx.rsv {b : Nat} {g h : Hp} (k : Kx b g h) (n : Nat) : Kx b g (h.rsv n) := ⟨k.get, by rw [nx_rsv]; have := k.nx; omega, k.gd, fun f o ho => k.fr f o (by rw [nx_rsv] at ho; omega)⟩
theorem Kx.wr {b : Nat} {g h : Hp} (k : Kx b g h) (off : Nat) (vs : List Value) : Kx b g (h.wr b off vs) := ⟨fun o h1 h2 => by rw [wr_get_ne _ _ _ _ h2]; exact k.get o h1 h2, by rw [nx_wr]; exact k.nx, by rw [gd_wr]; exact k.gd, fun f => (k.fr f).wr b off vs⟩
theorem Kx.trans {b : Nat} {g h h' : Hp} (k : Kx b g h) (k2 : Kx b h h') : Kx b g h' := ⟨fun o h1 h2 => (k2.get o (by have := k.nx; omega) h2).trans (k.get o h1 h2), Nat.le_trans k.nx k2.nx, k2.gd.trans k.gd, fun f => k2.fr (k.fr f)⟩
theorem Kx.kp {b n : Nat} {h h' : Hp} (k : Kx b h h') (hb : n ≤ b) (hn : n ≤ h.nx) : Kp n h h' := ⟨fun o ho => k.get o (by omega) (by omega), k.nx, k.gd, k.fr⟩
theorem Kx.rst {b : Nat} {g h h' : Hp} (k : Kx b g h) (e : h'.gd = g.gd) : Kx b g (h.rst h') := ⟨k.get, k.nx, e, k.fr⟩
theorem Kx.grd {b : Nat} {g h : Hp} (k : Kx b g h) : Kx b g (h.grd []) := ⟨k.get, k.nx, k.gd, k.fr⟩
/-- A row of whole numbers that may be written. -/
structure RowAt (b : Nat) (e : TypeId) (m : Md) (h : Hp) (l : List Int) : Prop where
  lt : b < h.nx
  get : h.get b = some (.cells (l.map (Value.int .i64)) e m)
theorem RowAt.rd {b : Nat} {e : TypeId} {m : Md} {h : Hp} {l : List Int} (R : RowAt b e m h l) {k : Nat} (hk : k < l.length) {off : Nat} (ho : off = k) : readAt h b off 1 = some [.int .i64 l[k]] :=
  read1 R.get (by subst ho; simp [hk])
theorem RowAt.ints {b : Nat} {e : TypeId} {m : Md} {h : Hp} {l : List Int} (R : RowAt b e m h l) : IntsAt h (some ⟨b, 0, none⟩) l.length l :=
  ⟨rfl, .inr ⟨b, 0, _, _, _, rfl, R.lt, R.get, by simp, fun i hi => by
    show ((l.map (Value.int .i64)).drop (0 + i * 1)).take 1 = [.int .i64 l[i]]
    rw [Nat.zero_add, Nat.mul_one, List.drop_eq_getElem_cons (by simpa using hi)]
    simp⟩⟩
theorem RowAt.wr {b : Nat} {e : TypeId} {m : Md} {h : Hp} {l : List Int} (R : RowAt b e m h l) (hm : m ≠ .ro) (hg : h.guarded b = false) {k : Nat} (hk : k < l.length) {off : Nat} (ho : off = k) (x : Int) : canW h b off [.int .i64 x] = true ∧ RowAt b e m (h.wr b off [.int .i64 x]) (l.set k x) := by
  subst ho
  refine ⟨canW_t R.get hm hg (by simp; omega) rfl, by rw [nx_wr]; exact R.lt, ?_⟩
  rw [wr_get R.get hm hg (by simp; omega) rfl, putAt_set hk]
/-- A comparison by a key. -/
def CmpOk (O : CallF) (g : Nat) (key : Int → Int) (D : Int → Prop) : Prop := ∀ x y h, D x → D y → EvT O g [.int .i64 x, .int .i64 y] h (.int .i64 (key x - key y)) h
section
variable {O : CallF} {g : Nat} {key : Int → Int} {D : Int → Prop} (hO : Oth O) (C : CmpOk O g key D)
include hO C
/-- Of the first elements all but one stand in order. -/
def Near (key : Int → Int) (l : List Int) (k j : Nat) : Prop := ∀ i i', i < i' → i' ≤ k → i' ≠ j → key (l.getD i 0) ≤ key (l.getD i' 0)
omit hO C in
theorem swp {l : List Int} {j : Nat} (hj : j + 1 < l.length) {x y : Int} (p : Nat) : ((l.set (j + 1) y).set j x).getD p 0 = if p = j then x else if p = j + 1 then y else l.getD p 0 := by
  simp only [List.getD_eq_getElem?_getD, List.getElem?_set, List.length_set]
  by_cases c : p = j
  · subst c; rw [if_pos rfl, if_pos (by omega), if_pos rfl]; rfl
  · rw [if_neg (by omega), if_neg c]
    by_cases c2 : p = j + 1
    · subst c2; rw [if_pos rfl, if_pos hj, if_pos rfl]; rfl
    · rw [if_neg (by omega), if_neg c2]
theorem lp127g_1 {b : Nat} {e : TypeId} {m : Md} (hm : m ≠ .ro) {h₀ : Hp} (hg : ∀ q ∈ h₀.gd, q ≠ b) {N c k : Nat} {l₀ : List Int} (hN : N < 1000000) (hk : k < N) (hD : ∀ x ∈ l₀, D x) {Q : Value → Hp → Prop}
    (next : ∀ l h, l.Perm l₀ → l.length = N → Near key l k (k + 1) → RowAt b e m h l → Kx b h₀ h → I127_0 O Q (some ⟨b, 0, none⟩) N c 0 (Int.ofNat N) g #[] #[] g #[] #[] (Int.ofNat (k + 1)) h) :
    ∀ (j : Nat), j ≤ k → ∀ {l : List Int} {h : Hp}, l.Perm l₀ → l.length = N → Near key l k j → RowAt b e m h l → Kx b h₀ h →
      I127_1 O Q (some ⟨b, 0, none⟩) N c 0 (Int.ofNat N) g #[] #[] g #[] #[] (Int.ofNat k) (Int.ofNat j) h := by
  have _ := hO
  intro j
  induction j with
  | zero =>
    intro hj l h hp hl hs R K
    refine I127_1.of _ _ _ _ _ _ _ _ _ _ _ _ _ ?_
    unfold T127_1
    rw [wrap_succ (by omega)]
    refine vcond_f (by rfl) (next l _ hp hl ?_ ⟨Nat.lt_of_lt_of_le R.lt (Nat.le_add_right ..), R.get⟩ (K.rsv 17))
    intro i i' h1 h2 _
    exact hs i i' h1 h2 (by omega)
  | succ j ih =>
    intro hj l h hp hl hs R K
    refine I127_1.of _ _ _ _ _ _ _ _ _ _ _ _ _ ?_
    unfold T127_1
    have e1 : wrapF .i64 (Int.ofNat (j + 1) - 1) = Int.ofNat j := by rw [wrap64] <;> simp only [Int.ofNat_eq_natCast] <;> omega
    rw [e1, wrap_succ (by omega)]
    have R1 : RowAt b e m (h.rsv 17) l := ⟨by rw [nx_rsv]; have := R.lt; omega, R.get⟩
    have hj1 : j + 1 < l.length := by omega
    have hj0 : j < l.length := by omega
    have hDx : D l[j + 1] := hD _ (hp.subset (List.getElem_mem _))
    have hDy : D l[j] := hD _ (hp.subset (List.getElem_mem _))
    refine vcond_t (by rfl) (isNat_of (show isAddr (some ⟨b, 0, none⟩) _ from vreq_t (blt_t (by omega)) ⟨_, R1.rd hj1 (by omega), ?_⟩))
    refine isNat_of (show isAddr (some ⟨b, 0, none⟩) _ from vreq_t (blt_t (by omega)) ⟨_, R1.rd hj0 (by omega), _, _, C _ _ _ hDx hDy, ?_⟩)
    have gd (k : Nat) (x : List Int) : x.getD k 0 = (x[k]?).getD 0 := List.getD_eq_getElem?_getD ..
    refine vcond_split (fun hlt => ?_) fun hlt => ?_
    · have hlt := lt_of_t hlt
      have R2 : RowAt b e m (((((h.rsv 17).grd []).rst (h.rsv 17)).rsv 18).grd []) l := ⟨by rw [nx_grd, nx_rsv]; have := R1.lt; exact Nat.lt_of_lt_of_le this (Nat.le_add_right ..), R.get⟩
      have gu : ∀ {h' : Hp}, h'.gd = h₀.gd → h'.guarded b = false := fun e => guarded_of fun q hq => by rw [e] at hq; exact hg q hq
      have g2 : (((((h.rsv 17).grd []).rst (h.rsv 17)).rsv 18).grd []).gd = h₀.gd := K.gd
      obtain ⟨w1, R3⟩ := R2.wr hm (gu g2) (k := j + 1) (off := 0 + (j + 1) * 1) hj1 (by omega) l[j]
      obtain ⟨w2, R4⟩ := RowAt.wr (h := (((((((h.rsv 17).grd []).rst (h.rsv 17)).rsv 18).grd []).wr b (0 + (j + 1) * 1) [.int .i64 l[j]]).rst ((((h.rsv 17).grd []).rst (h.rsv 17)).rsv 18)).grd []) ⟨R3.lt, R3.get⟩ hm (gu K.gd) (k := j) (off := 0 + j * 1) (by simp; omega) (by omega) l[j + 1]
      refine isNat_of (show isAddr (some ⟨b, 0, none⟩) _ from vreq_t (blt_t (by omega)) ⟨_, R2.rd hj0 (by omega), ?_⟩)
      refine isNat_of (show isAddr (some ⟨b, 0, none⟩) _ from vreq_t (blt_t (by omega)) ⟨_, R2.rd hj1 (by omega), ?_⟩)
      refine isNat_of (show isAddr (some ⟨b, 0, none⟩) _ from vreq_t (blt_t (by omega)) (vreq_t w1 ?_))
      refine isNat_of (show isAddr (some ⟨b, 0, none⟩) _ from vreq_t (blt_t (by omega)) (vreq_t w2 ?_))
      have sw : ((l.set (j + 1) l[j]).set j l[j + 1]).Perm l₀ := by
        refine List.Perm.trans ?_ hp
        exact List.set_set_perm hj1 hj0
      refine ih (by omega) (l := (l.set (j + 1) l[j]).set j l[j + 1]) sw (by simpa using hl) ?_ ⟨R4.lt, R4.get⟩ ?_
      · intro i i' h1 h2 h3
        rw [swp hj1, swp hj1]
        have q0 : l.getD j 0 = l[j] := by simp [List.getD_eq_getElem?_getD, List.getElem?_eq_getElem hj0]
        have q1 : l.getD (j + 1) 0 = l[j + 1] := by simp [List.getD_eq_getElem?_getD, List.getElem?_eq_getElem hj1]
        rw [if_neg h3]
        by_cases c2 : i' = j + 1
        · rw [if_pos c2]
          by_cases c3 : i = j
          · rw [if_pos c3]; omega
          · rw [if_neg c3, if_neg (by omega), ← q0]
            exact hs i j (by omega) (by omega) (by omega)
        · rw [if_neg c2]
          by_cases c3 : i = j
          · rw [if_pos c3, ← q1]
            exact hs (j + 1) i' (by omega) h2 (by omega)
          · rw [if_neg c3]
            by_cases c4 : i = j + 1
            · rw [if_pos c4, ← q0]
              exact hs j i' (by omega) h2 (by omega)
            · rw [if_neg c4]
              exact hs i i' h1 h2 (by omega)
      · have K1 : Kx b h₀ (((((h.rsv 17).grd []).rst (h.rsv 17)).rsv 18).grd []) := (((K.rsv 17).grd.rst K.gd).rsv 18).grd
        exact (((K1.wr _ _).rst K.gd).grd.wr _ _).rst K.gd
    · have hlt := not_lt_of_f hlt
      refine next l _ hp hl ?_ ⟨R1.lt, R1.get⟩ ⟨(K.rsv 17).get, (K.rsv 17).nx, K.gd, (K.rsv 17).fr⟩
      intro i i' h1 h2 _
      by_cases c : i' = j + 1
      · subst c
        have h5 : key (l.getD j 0) ≤ key (l.getD (j + 1) 0) := by
          simp only [gd]
          rw [List.getElem?_eq_getElem hj0, List.getElem?_eq_getElem hj1]
          simp only [Option.getD_some]; omega
        by_cases c2 : i = j
        · subst c2; exact h5
        · exact Int.le_trans (hs i j (by omega) (by omega) (by omega)) h5
      · exact hs i i' h1 h2 c
theorem lp127g_0 {b : Nat} {e : TypeId} {m : Md} (hm : m ≠ .ro) {h₀ : Hp} (hg : ∀ q ∈ h₀.gd, q ≠ b) {N c : Nat} {l₀ : List Int} (hN : N < 1000000) (hD : ∀ x ∈ l₀, D x) :
    ∀ (d k : Nat), k + d = N → ∀ {l : List Int} {h : Hp}, l.Perm l₀ → l.length = N → Near key l (k - 1) (k + 1) → RowAt b e m h l → Kx b h₀ h →
      I127_0 O (fun v h' => v = undef ∧ ∃ l, l.Perm l₀ ∧ l.Pairwise (fun x y => key x ≤ key y) ∧ RowAt b e m h' l ∧ Kx b h₀ h') (some ⟨b, 0, none⟩) N c 0 (Int.ofNat N) g #[] #[] g #[] #[] (Int.ofNat k) h := by
  intro d
  induction d with
  | zero =>
    intro k hk l h hp hl hs R K
    refine I127_0.of _ _ _ _ _ _ _ _ _ _ _ _ ?_
    unfold T127_0
    refine vcond_f (by rw [ltI_nat]; exact blt_f (by omega)) ⟨rfl, l, hp, ?_, R, K⟩
    rw [List.pairwise_iff_getElem]
    intro i i' h1 h2 h3
    have := hs i i' h3 (by omega) (by omega)
    simp only [List.getD_eq_getElem?_getD] at this
    rw [List.getElem?_eq_getElem h1, List.getElem?_eq_getElem h2] at this
    exact this
  | succ d ih =>
    intro k hk l h hp hl hs R K
    refine I127_0.of _ _ _ _ _ _ _ _ _ _ _ _ ?_
    unfold T127_0
    refine vcond_t (by rw [ltI_nat]; exact blt_t (by omega)) ?_
    refine lp127g_1 hO C hm hg hN (by omega) hD (fun l' h' p1 p2 p3 p4 p5 => ih (k + 1) (by omega) p1 p2 (fun i i' a1 a2 a3 => p3 i i' a1 (by omega) (by omega)) p4 p5) k (Nat.le_refl _) hp hl ?_ R K
    intro i i' a1 a2 a3
    exact hs i i' a1 (by omega) (by omega)
theorem ct127g {b : Nat} {e : TypeId} {m : Md} (hm : m ≠ .ro) {h : Hp} (hg : ∀ q ∈ h.gd, q ≠ b) {c : Nat} {l : List Int} (hN : l.length < 1000000) (hD : ∀ x ∈ l, D x) (R : RowAt b e m h l) :
    Ret Tryd.prog O 127 [.slice (some ⟨b, 0, none⟩) l.length c, .int .i64 0, .int .i64 (Int.ofNat l.length), .func (.func g) #[] #[]] h fun v h' => v = undef ∧ ∃ l', l'.Perm l ∧ l'.Pairwise (fun x y => key x ≤ key y) ∧ RowAt b e m h' l' ∧ Kx b h h' := by
  refine rk127 _ _ _ _ _ _ _ _ (hO _ _ _ (by decide)) ?_
  unfold T127
  have z : wrapF .i64 (0 + 1) = Int.ofNat 1 := rfl
  rw [z]
  by_cases h0 : l.length = 0
  · refine I127_0.of _ _ _ _ _ _ _ _ _ _ _ _ ?_
    unfold T127_0
    refine vcond_f (by rw [ltI_nat]; exact blt_f (by omega)) ⟨rfl, l, .refl _, ?_, R, .refl _ _⟩
    rw [List.length_eq_zero_iff.1 h0]; exact List.Pairwise.nil
  · refine lp127g_0 hO C hm hg hN hD (l.length - 1) 1 (by omega) (.refl _) rfl ?_ R (.refl _ _)
    intro i i' a1 a2 a3; omega
/-- At most twelve numbers are sorted. -/
theorem ct74g {b : Nat} {e : TypeId} {m : Md} (hm : m ≠ .ro) {h : Hp} (hg : ∀ q ∈ h.gd, q ≠ b) {c : Nat} {l : List Int} (hN : l.length ≤ 12) (hD : ∀ x ∈ l, D x) (R : RowAt b e m h l) :
    Ret Tryd.prog O 74 [.slice (some ⟨b, 0, none⟩) l.length c, .func (.func g) #[] #[]] h fun v h' => v = undef ∧ ∃ l', l'.Perm l ∧ l'.Pairwise (fun x y => key x ≤ key y) ∧ RowAt b e m h' l' ∧ Kx b h h' := by
  refine rk74 _ _ _ _ _ _ (hO _ _ _ (by decide)) ?_
  unfold T74
  have w : wrapF .u64 (Int.ofNat l.length) = Int.ofNat l.length := by
    have : ∀ n, n < 13 → wrapF .u64 (Int.ofNat n) = Int.ofNat n := by decide +kernel
    exact this _ (by omega)
  rw [w]
  refine ⟨_, _, ct116 hO (by omega) h, ?_⟩
  have r : Ret Tryd.prog O 115 [.slice (some ⟨b, 0, none⟩) l.length c, .int .i64 0, .int .i64 (Int.ofNat l.length), .int .i64 (wrapF .i64 (0 + wrapF .i64 (byteI lenT l.length))), .func (.func g) #[] #[]] h fun v h' => v = undef ∧ ∃ l', l'.Perm l ∧ l'.Pairwise (fun x y => key x ≤ key y) ∧ RowAt b e m h' l' ∧ Kx b h h' := by
    refine rk115 _ _ _ _ _ _ _ _ _ (hO _ _ _ (by decide)) ?_
    unfold T115
    refine I115_0.of _ _ _ _ _ _ _ _ _ _ _ _ _ _ _ _ _ ?_
    unfold T115_0
    have e1 : wrapF .i64 (Int.ofNat l.length - 0) = Int.ofNat l.length := by rw [wrap64] <;> simp only [Int.ofNat_eq_natCast] <;> omega
    rw [e1]
    refine vcond_t (by rw [ltI_f (by simp only [Int.ofNat_eq_natCast]; omega)]; rfl) ?_
    exact (ct127g hO C hm hg (c := c) (by omega) hD R).u fun h' p => ⟨rfl, p⟩
  exact r.u fun h' p => ⟨rfl, p⟩
end
/-! ### literals by numbers, clauses of them -/
/-- A literal of one of some variables by a number. -/
def litP (x vars : Int) : Int := if x.tmod 2 = 0 then -(1 + ((x + 128).tdiv 2).tmod vars) else 1 + ((x + 128).tdiv 2).tmod vars
theorem litP_ok {x vars : Int} (h1 : -128 ≤ x) (h2 : x < 128) (h3 : 1 ≤ vars) (h4 : vars ≤ 30) : Lit (litP x vars) ∧ (litP x vars).natAbs ≤ vars.toNat := by
  have a : 0 ≤ ((x + 128).tdiv 2).tmod vars ∧ ((x + 128).tdiv 2).tmod vars < vars := by
    have : 0 ≤ (x + 128).tdiv 2 := Int.tdiv_nonneg (by omega) (by decide)
    exact ⟨Int.tmod_nonneg _ this, Int.tmod_lt_of_pos _ (by omega)⟩
  unfold litP Lit
  split <;> omega
section
variable {O : CallF} (hO : Oth O)
include hO
theorem ct21 {x vars : Int} (h1 : -128 ≤ x) (h2 : x < 128) (h3 : 1 ≤ vars) (h4 : vars ≤ 30) (h : Hp) : EvT O 21 [.int .i8 x, .int .i64 vars] h (.int .i64 (litP x vars)) h := by
  refine EvC.of_ret (rk21 _ _ (hO _ _ _ (by decide)) ?_)
  unfold T21
  have a : 0 ≤ ((x + 128).tdiv 2).tmod vars ∧ ((x + 128).tdiv 2).tmod vars < vars := by
    have : 0 ≤ (x + 128).tdiv 2 := Int.tdiv_nonneg (by omega) (by decide)
    exact ⟨Int.tmod_nonneg _ this, Int.tmod_lt_of_pos _ (by omega)⟩
  have b : 0 ≤ (x + 128).tdiv 2 ∧ (x + 128).tdiv 2 ≤ x + 128 := ⟨Int.tdiv_nonneg (by omega) (by decide), by have := Int.tdiv_le_self (b := 2) (show 0 ≤ x + 128 by omega); omega⟩
  rw [wrap64 (n := x) (by omega) (by omega), wrap64 (n := x + 128) (by omega) (by omega), wrap64 (n := (x + 128).tdiv 2) (by omega) (by omega), wrap64 (n := 1 + _) (by omega) (by omega)]
  refine vreq_t (by rw [eqI_f (by omega)]; rfl) (vcond_split (fun hh => ?_) fun hh => ?_)
  · rw [wrap64 (by omega) (by omega)]
    refine ⟨?_, rfl⟩
    unfold litP
    rw [if_pos (eq_of_t hh)]; congr 1; omega
  · refine ⟨?_, rfl⟩
    unfold litP
    rw [if_neg (ne_of_f hh)]
theorem ct75 {x y : Int} (hx : Lit x) (hy : Lit y) (h : Hp) : EvT O 75 [.int .i64 x, .int .i64 y] h (.int .i64 ((x.natAbs : Int) - (y.natAbs : Int))) h := by
  refine EvC.of_ret (rk75 _ _ (hO _ _ _ (by decide)) ?_)
  unfold T75
  have := hx.2; have := hy.2
  rw [max_neg (by omega) (by omega), max_neg (by omega) (by omega)]
  have e : ∀ z : Int, (if z < 0 then -z else z) = (z.natAbs : Int) := fun z => by split <;> omega
  rw [e, e, wrap64 (by omega) (by omega)]
  exact ⟨rfl, rfl⟩
theorem cmp75 : CmpOk O 75 (fun x => (x.natAbs : Int)) Lit := fun _ _ h hx hy => ct75 hO hx hy h
theorem ct20 (a : Option Addr) (n c : Nat) (h : Hp) : EvT O 20 [.slice a n c] h (.slice a n c) h := by
  refine EvC.of_ret (rk20 _ _ _ (hO _ _ _ (by decide)) ?_)
  unfold T20
  exact ⟨rfl, rfl⟩
end
/-- Of each variable the first literal. -/
def firstF : List Int → List Int → List Int
  | [], acc => acc
  | x :: xs, acc => if x ∈ acc ∨ -x ∈ acc then firstF xs acc else firstF xs (acc ++ [x])
def ins (x : Int) : List Int → List Int
  | [] => [x]
  | y :: l => if x.natAbs < y.natAbs then x :: y :: l else y :: ins x l
def isrt : List Int → List Int
  | [] => []
  | x :: l => ins x (isrt l)
/-- The clause of some literals. -/
def clauseN (l : List Int) : List Int := isrt (firstF l [])
end Go.Proofs.YtfgfhplgnfbaaaaDoor
