/- Contracts of layer 20: propagation once more, without the reference. -/
import Derived.Test.YtfgfhplgnfbaaaaDoorYE
import Derived.Test.YtfgfhplgnfbaaaaDoorProg
import Derived.Test.YtfgfhplgnfbaaaaDoorYC
import Derived.KernelRfl
import Derived.Test.YtfgfhplgnfbaaaaDoorYD
import Derived.Lib.LaidTab
import Derived.WalkKit
import Derived.ProofKit
import Derived.OpenShut
import Derived.Deep.DeepHandedRow
import Derived.Test.YtfgfhplgnfbaaaaDoorYB
import Derived.Shelf.Spec.SlicesInsert
import Derived.Shelf.Spec.SlicesInsertGrow
namespace Go.Proofs.YtfgfhplgnfbaaaaDoor
open Go Go.Ev
/-- A literal is true, by two sets of variables. -/
def trP (y n : Nat) (x : Int) : Prop := (0 < x ∧ y.testBit x.natAbs = true) ∨ (x < 0 ∧ n.testBit x.natAbs = true)
def tvP (y n : Nat) (x : Int) : Bool := if 0 < x then y.testBit x.natAbs else n.testBit x.natAbs
def unP (y n : Nat) (x : Int) : Bool := !(y ||| n).testBit x.natAbs
/-- What is open in a clause, and whether nothing is to be done with it. -/
def opF (y n : Nat) : List Int → Int → Bool → Int × Bool
  | [], o, d => (o, d)
  | x :: xs, o, d => if tvP y n x then opF y n xs o true else if unP y n x then opF y n xs x (d || o != 0) else opF y n xs o d
theorem tvP_iff {y n : Nat} {x : Int} (hx : x ≠ 0) : tvP y n x = true ↔ trP y n x := by
  unfold tvP trP
  by_cases h : 0 < x
  · rw [if_pos h]; constructor
    · exact fun e => .inl ⟨h, e⟩
    · rintro (⟨_, e⟩ | ⟨e, _⟩)
      · exact e
      · omega
  · rw [if_neg h]; constructor
    · exact fun e => .inr ⟨by omega, e⟩
    · rintro (⟨e, _⟩ | ⟨_, e⟩)
      · omega
      · exact e
theorem trP_neg {y n : Nat} {x : Int} : trP y n (-x) ↔ (x < 0 ∧ y.testBit x.natAbs = true) ∨ (0 < x ∧ n.testBit x.natAbs = true) := by
  unfold trP
  rw [Int.natAbs_neg]
  constructor <;> rintro (⟨a, b⟩ | ⟨a, b⟩)
  · exact .inl ⟨by omega, b⟩
  · exact .inr ⟨by omega, b⟩
  · exact .inl ⟨by omega, b⟩
  · exact .inr ⟨by omega, b⟩
theorem unP_iff {y n : Nat} {x : Int} (hx : x ≠ 0) : unP y n x = true ↔ ¬ trP y n x ∧ ¬ trP y n (-x) := by
  unfold unP
  rw [trP_neg, Nat.testBit_or]
  unfold trP
  have : 0 < x ∨ x < 0 := by omega
  cases y.testBit x.natAbs <;> cases n.testBit x.natAbs <;> simp <;> omega
/-- What the pass over a clause finds. -/
def OpOk (y n : Nat) (seen : List Int) (o : Int) (d : Bool) : Prop :=
  (d = true → (∃ x ∈ seen, trP y n x) ∨ ∃ x ∈ seen, ∃ z ∈ seen, x ≠ z ∧ ¬ trP y n x ∧ ¬ trP y n (-x) ∧ ¬ trP y n z ∧ ¬ trP y n (-z)) ∧
  (d = false → ∀ x ∈ seen, x ≠ o → trP y n (-x)) ∧ (o ≠ 0 → o ∈ seen ∧ ¬ trP y n o ∧ ¬ trP y n (-o))
theorem opF_ok {y n : Nat} : ∀ {xs seen : List Int} {o : Int} {d : Bool}, (∀ x ∈ seen ++ xs, Lit x) → Dif (seen ++ xs) → OpOk y n seen o d → OpOk y n (seen ++ xs) (opF y n xs o d).1 (opF y n xs o d).2 := by
  intro xs
  induction xs with
  | nil => intro seen o d _ _ h; rw [List.append_nil]; exact h
  | cons x xs ih =>
    intro seen o d hl hd h
    obtain ⟨h1, h2, h3⟩ := h
    have e : seen ++ x :: xs = (seen ++ [x]) ++ xs := by simp
    have hx0 : x ≠ 0 := (hl x (by simp)).1
    rw [e] at hl hd ⊢
    have sub : ∀ z ∈ seen, z ∈ seen ++ [x] := fun z hz => List.mem_append_left _ hz
    have hxm : x ∈ seen ++ [x] := List.mem_append_right _ (List.mem_singleton.2 rfl)
    have ne : ∀ z ∈ seen, z ≠ x := fun z hz e => by
      have := (List.pairwise_append.1 (List.pairwise_append.1 hd).1).2.2 z hz x (List.mem_singleton.2 rfl)
      subst e; omega
    simp only [opF]
    split
    · rename_i ht
      have ht := (tvP_iff hx0).1 ht
      exact ih hl hd ⟨fun _ => .inl ⟨x, hxm, ht⟩, fun e => (by cases e), fun ho => ⟨sub _ (h3 ho).1, (h3 ho).2⟩⟩
    · rename_i ht
      have ht : ¬ trP y n x := fun e => ht ((tvP_iff hx0).2 e)
      split
      · rename_i hu
        have hu := (unP_iff hx0).1 hu
        refine ih hl hd ⟨fun hd2 => ?_, fun hd2 z hz hzx => ?_, fun _ => ⟨hxm, hu⟩⟩
        · rw [Bool.or_eq_true] at hd2
          rcases hd2 with hd2 | hd2
          · rcases h1 hd2 with ⟨z, hz, hz2⟩ | ⟨z, hz, w, hw, r⟩
            · exact .inl ⟨z, sub z hz, hz2⟩
            · exact .inr ⟨z, sub z hz, w, sub w hw, r⟩
          · have ho : o ≠ 0 := by simpa using hd2
            obtain ⟨a, b, c⟩ := h3 ho
            exact .inr ⟨o, sub o a, x, hxm, ne o a, b, c, hu.1, hu.2⟩
        · rw [Bool.or_eq_false_iff] at hd2
          have ho : o = 0 := by simpa using hd2.2
          rcases List.mem_append.1 hz with hz | hz
          · refine h2 hd2.1 z hz fun e => ?_
            have := (hl z (by simp [hz])).1
            omega
          · exact absurd (List.mem_singleton.1 hz) hzx
      · rename_i hu
        have hneg : trP y n (-x) := by
          have : ¬ (¬ trP y n x ∧ ¬ trP y n (-x)) := fun e => hu ((unP_iff hx0).2 e)
          by_cases q : trP y n (-x)
          · exact q
          · exact absurd ⟨ht, q⟩ this
        refine ih hl hd ⟨fun hd2 => ?_, fun hd2 z hz hzo => ?_, fun ho => ⟨sub _ (h3 ho).1, (h3 ho).2⟩⟩
        · rcases h1 hd2 with ⟨z, hz, hz2⟩ | ⟨z, hz, w, hw, r⟩
          · exact .inl ⟨z, sub z hz, hz2⟩
          · exact .inr ⟨z, sub z hz, w, sub w hw, r⟩
        · rcases List.mem_append.1 hz with hz | hz
          · exact h2 hd2 z hz hzo
          · rw [List.mem_singleton.1 hz]; exact hneg
theorem trP_add {y n : Nat} {x z : Int} (hx : Lit x) : trP (if 0 < x then y ||| 2 ^ x.natAbs else y) (if 0 < x then n else n ||| 2 ^ x.natAbs) z ↔ trP y n z ∨ z = x := by
  have h0 := hx.1
  unfold trP
  by_cases h : 0 < x
  · simp only [if_pos h, Nat.testBit_or, Nat.testBit_two_pow, Bool.or_eq_true, decide_eq_true_eq]
    constructor
    · rintro (⟨a, b | b⟩ | b)
      · exact .inl (.inl ⟨a, b⟩)
      · exact .inr (by omega)
      · exact .inl (.inr b)
    · rintro ((⟨a, b⟩ | b) | rfl)
      · exact .inl ⟨a, .inl b⟩
      · exact .inr b
      · exact .inl ⟨h, .inr rfl⟩
  · simp only [if_neg h, Nat.testBit_or, Nat.testBit_two_pow, Bool.or_eq_true, decide_eq_true_eq]
    constructor
    · rintro (b | ⟨a, b | b⟩)
      · exact .inl (.inl b)
      · exact .inl (.inr ⟨a, b⟩)
      · exact .inr (by omega)
    · rintro ((b | ⟨a, b⟩) | rfl)
      · exact .inl b
      · exact .inr ⟨a, .inl b⟩
      · exact .inr ⟨by omega, .inr rfl⟩
def fr31 (z : Nat) : Nat := ((List.range 31).filter fun i => !z.testBit i).length
theorem fr31_lt {a b : Nat} (hb : b < 2 ^ 31) (h : ∀ i, a.testBit i = true → b.testBit i = true) (hne : b ≠ a) : fr31 b < fr31 a := by
  obtain ⟨i, hi⟩ : ∃ i, a.testBit i ≠ b.testBit i := by
    refine Classical.byContradiction fun hc => hne (Nat.eq_of_testBit_eq fun i => ?_)
    refine Classical.byContradiction fun hh => hc ⟨i, fun e => hh e.symm⟩
  have h1 : a.testBit i = false := by
    cases ha : a.testBit i with
    | false => rfl
    | true => rw [ha, h i ha] at hi; exact absurd rfl hi
  have h2 : b.testBit i = true := by
    cases hb' : b.testBit i with
    | true => rfl
    | false => rw [h1, hb'] at hi; exact absurd rfl hi
  have hi31 : i < 31 := by
    refine Classical.byContradiction fun hc => ?_
    have : b < 2 ^ i := Nat.lt_of_lt_of_le hb (Nat.pow_le_pow_right (by decide) (by omega))
    rw [Nat.testBit_lt_two_pow this] at h2; cases h2
  refine filter_lt (a := i) (List.mem_range.2 hi31) (by rw [h1]; rfl) (by rw [h2]; rfl) fun x hx => ?_
  cases ha : a.testBit x with
  | false => rfl
  | true => rw [h x ha] at hx; cases hx
theorem or31 {y : Nat} {x : Int} (hy : y < 2 ^ 31) (hx : Lit x) : y ||| 2 ^ x.natAbs < 2 ^ 31 := Nat.or_lt_two_pow hy (Nat.pow_lt_pow_right (by decide) (by have := hx.2; omega))
/-- What propagation returns. -/
def PshOk (cls : List (List Int)) (xs : List Int) (h : Hp) (v : Value) (h' : Hp) : Prop := h' = h ∧ ∃ (y n : Nat) (b : Bool), v = .tuple #[.int .i64 (Int.ofNat y), .int .i64 (Int.ofNat n), .bool b] ∧ y < 2 ^ 31 ∧ n < 2 ^ 31 ∧ (b = true → Calm cls xs (trP y n) ∧ ∀ z, trP y n z → z ≠ 0 → Der cls xs z) ∧ (b = false → y = 0 ∧ n = 0 ∧ Cl cls xs)
section
variable {O : CallF} (hO : Oth O)
include hO
theorem lp63_3 {h : Hp} {a0 a1 a48 : Option Addr} {n0 c0 n1 c1 n48 c48 y n : Nat} (hy : y < 2 ^ 31) (hn : n < 2 ^ 31) {q6 : Bool} {x9 x44 : Int} {l : List Int} (L : IntsAt h a48 n48 l) (hl : l.length < 1000000) (hlit : ∀ x ∈ l, Lit x) {Q : Value → Hp → Prop}
    (next : ∀ o d, opF y n l 0 false = (o, d) → vcond d (I63_2 O Q a0 n0 c0 a1 n1 c1 (Int.ofNat y) (Int.ofNat n) q6 x9 (wrapF .i64 (x44 + 1)) h) (vcond (ltI 0 o) (vreq (le0 o) (vreq (inD 9223372036854775808 (Int.ofNat y)) (vreq (inD 9223372036854775808 (shlF .i64 1 (Int.toNat o))) (I63_2 O Q a0 n0 c0 a1 n1 c1 (lorI (Int.ofNat y) (shlF .i64 1 (Int.toNat o))) (Int.ofNat n) q6 x9 (wrapF .i64 (x44 + 1)) h)))) (vcond (ltI o 0) (vreq (le0 (wrapF .i64 (0 - o))) (vreq (inD 9223372036854775808 (Int.ofNat n)) (vreq (inD 9223372036854775808 (shlF .i64 1 (Int.toNat (wrapF .i64 (0 - o))))) (I63_2 O Q a0 n0 c0 a1 n1 c1 (Int.ofNat y) (lorI (Int.ofNat n) (shlF .i64 1 (Int.toNat (wrapF .i64 (0 - o))))) q6 x9 (wrapF .i64 (x44 + 1)) h)))) (Q (.tuple #[.int .i64 0, .int .i64 0, .bool false]) h)))) :
    ∀ (d k : Nat), k + d = l.length → ∀ (o : Int) (q : Bool), opF y n (l.drop k) o q = opF y n l 0 false →
      I63_3 O Q a0 n0 c0 a1 n1 c1 (Int.ofNat y) (Int.ofNat n) q6 x9 o q x44 a48 n48 c48 (Int.ofNat n48) (Int.ofNat k) h := by
  have _ := hO
  have hn48 := L.1
  intro d
  induction d with
  | zero =>
    intro k hk o q he
    refine I63_3.of _ _ _ _ _ _ _ _ _ _ _ _ _ _ _ _ _ _ ?_
    unfold T63_3
    rw [List.drop_of_length_le (by omega)] at he
    exact vcond_f (by rw [ltI_nat]; exact blt_f (by omega)) (next o q he.symm)
  | succ d ih =>
    intro k hk o q he
    refine I63_3.of _ _ _ _ _ _ _ _ _ _ _ _ _ _ _ _ _ _ ?_
    unfold T63_3
    have hkl : k < l.length := by omega
    rw [List.drop_eq_getElem_cons hkl] at he
    simp only [opF] at he
    have hx := hlit _ (List.getElem_mem hkl)
    have hx1 := hx.1; have hx2 := hx.2
    refine vcond_t (by rw [ltI_nat]; exact blt_t (by omega)) (isNat_i (L.rd hkl ?_))
    generalize l[k] = x at *
    have em : maxI x (wrapF .i64 (0 - x)) = Int.ofNat x.natAbs := by
      rw [max_neg (by omega) (by omega)]; simp only [Int.ofNat_eq_natCast]; split <;> omega
    have yl : y < 9223372036854775808 := Nat.lt_trans hy (by decide)
    have nl : n < 9223372036854775808 := Nat.lt_trans hn (by decide)
    have ol : y ||| n < 9223372036854775808 := Nat.lt_trans (Nat.or_lt_two_pow hy hn) (by decide)
    have dl : ∀ m : Nat, m < 9223372036854775808 → inD 9223372036854775808 (Int.ofNat (m / 2 ^ x.natAbs)) = true := fun m hm => inD_of (Nat.lt_of_le_of_lt (Nat.div_le_self ..) hm)
    rw [em, show (Int.ofNat x.natAbs).toNat = x.natAbs from rfl, shr64 y (k := x.natAbs) (by omega), shr64 n (k := x.natAbs) (by omega), lor_nat, shr64 (y ||| n) (k := x.natAbs) (by omega), and_one, and_one, and_one, bit_eq, bit_eq, bit_eq, wrap_succ (by omega)]
    have b1 : ∀ b : Bool, eqI (Int.ofNat b.toNat) 1 = b := by decide
    have b0 : ∀ b : Bool, eqI (Int.ofNat b.toNat) 0 = !b := by decide
    simp only [b1, b0]
    have U : tvP y n x = false → vreq (inD 9223372036854775808 (Int.ofNat y)) (vreq (inD 9223372036854775808 (Int.ofNat n)) (vreq (le0 (Int.ofNat x.natAbs)) (vreq (inD 9223372036854775808 (Int.ofNat ((y ||| n) / 2 ^ x.natAbs))) (vcond (!(y ||| n).testBit x.natAbs) (vcond (!(eqI o 0)) (I63_3 O Q a0 n0 c0 a1 n1 c1 (Int.ofNat y) (Int.ofNat n) q6 x9 x true x44 a48 n48 c48 (Int.ofNat n48) (Int.ofNat (k + 1)) h) (I63_3 O Q a0 n0 c0 a1 n1 c1 (Int.ofNat y) (Int.ofNat n) q6 x9 x q x44 a48 n48 c48 (Int.ofNat n48) (Int.ofNat (k + 1)) h)) (I63_3 O Q a0 n0 c0 a1 n1 c1 (Int.ofNat y) (Int.ofNat n) q6 x9 o q x44 a48 n48 c48 (Int.ofNat n48) (Int.ofNat (k + 1)) h))))) := by
      intro ht
      rw [if_neg (by rw [ht]; decide)] at he
      refine vreq_t (inD_of yl) (vreq_t (inD_of nl) (vreq_t rfl (vreq_t (dl _ ol) (vcond_split (fun hu => vcond_split (fun ho => ?_) fun ho => ?_) fun hu => ?_))))
      · have ho : o ≠ 0 := ne_of_f (by simpa using ho)
        rw [if_pos (show unP y n x = true from hu), show (q || o != 0) = true by simp [ho]] at he
        exact ih (k + 1) (by omega) x true he
      · have ho : o = 0 := eq_of_t (by simpa using ho)
        rw [if_pos (show unP y n x = true from hu), show (q || o != 0) = q by simp [ho]] at he
        exact ih (k + 1) (by omega) x q he
      · rw [if_neg (by show ¬ unP y n x = true; unfold unP; rw [hu]; decide)] at he
        exact ih (k + 1) (by omega) o q he
    by_cases hp : 0 < x
    · refine vcond_t (ltI_t hp) (vreq_t rfl (vreq_t (dl _ yl) (vcond_split (fun ht => ?_) fun ht => ?_)))
      · rw [if_pos (show tvP y n x = true by unfold tvP; rw [if_pos hp]; exact ht)] at he
        exact ih (k + 1) (by omega) o true he
      · exact vcond_f (ltI_f (by omega)) (U (by unfold tvP; rw [if_pos hp]; exact ht))
    · refine vcond_f (ltI_f hp) (vcond_t (ltI_t (by omega)) (vreq_t rfl (vreq_t (dl _ nl) (vcond_split (fun ht => ?_) fun ht => ?_))))
      · rw [if_pos (show tvP y n x = true by unfold tvP; rw [if_neg hp]; exact ht)] at he
        exact ih (k + 1) (by omega) o true he
      · exact U (by unfold tvP; rw [if_neg hp]; exact ht)
/-- What is true is derived; what was given is true. -/
structure PInv (cls : List (List Int)) (xs : List Int) (y n : Nat) : Prop where
  ly : y < 2 ^ 31
  ln : n < 2 ^ 31
  der : ∀ z, trP y n z → z ≠ 0 → Der cls xs z
  beg : ∀ x ∈ xs, trP y n x
  z0 : y.testBit 0 = false ∧ n.testBit 0 = false
omit hO in
theorem PInv.add {cls : List (List Int)} {xs : List Int} {y n : Nat} (I : PInv cls xs y n) {x : Int} (hx : Lit x) (hD : Der cls xs x) : PInv cls xs (if 0 < x then y ||| 2 ^ x.natAbs else y) (if 0 < x then n else n ||| 2 ^ x.natAbs) :=
  ⟨by split; exact or31 I.ly hx; exact I.ly, by split; exact I.ln; exact or31 I.ln hx, fun z hz h0 => by
    rcases (trP_add hx).1 hz with h | rfl
    · exact I.der z h h0
    · exact hD, fun z hz => (trP_add hx).2 (.inl (I.beg z hz)), by
    have h0 : (2 ^ x.natAbs).testBit 0 = false := by rw [Nat.testBit_two_pow]; have := hx.1; simp; omega
    split
    · exact ⟨by rw [Nat.testBit_or, h0, I.z0.1]; rfl, I.z0.2⟩
    · exact ⟨I.z0.1, by rw [Nat.testBit_or, h0, I.z0.2]; rfl⟩⟩
omit hO in
theorem shl1 {x : Int} {m : Nat} (hm : Int.toNat (m : Int) = x.natAbs) (hx : Lit x) : shlF .i64 1 m = Int.ofNat (2 ^ x.natAbs) ∧ 2 ^ x.natAbs < 9223372036854775808 := by
  have e : m = x.natAbs := by simpa using hm
  subst e
  have := hx.2
  have p : (2 : Nat) ^ x.natAbs ≤ 2 ^ 30 := Nat.pow_le_pow_right (by decide) (by omega)
  have lt : 2 ^ x.natAbs < 9223372036854775808 := Nat.lt_of_le_of_lt p (by decide)
  have := shl64 (a := 1) (k := x.natAbs) (by omega) (by rw [Nat.one_mul]; exact lt)
  rw [Nat.one_mul] at this
  exact ⟨this, lt⟩
theorem lp63_2 {cls : List (List Int)} {xs : List Int} {h : Hp} {a0 a1 : Option Addr} {n0 c0 n1 c1 y0 m0 : Nat} {q6 : Bool} (F : IntssAt h a0 n0 cls) (hl : cls.length < 1000000) (hll : ∀ l ∈ cls, l.length < 1000000) (hd : ∀ l ∈ cls, (∀ x ∈ l, Lit x) ∧ Dif l) (hc : ∀ x, trP y0 m0 x → trP y0 m0 (-x) → False)
    (again : ∀ y n, PInv cls xs y n → fr31 (y ||| n) < fr31 (y0 ||| m0) → I63_1 O (PshOk cls xs h) a0 n0 c0 a1 n1 c1 (Int.ofNat y) (Int.ofNat n) q6 h) :
    ∀ (d k : Nat), k + d = cls.length → ∀ {y n : Nat}, PInv cls xs y n → ((y = y0 ∧ n = m0 ∧ ∀ l ∈ cls.take k, (∃ x ∈ l, trP y n x) ∨ ∃ x ∈ l, ∃ z ∈ l, x ≠ z ∧ ¬ trP y n x ∧ ¬ trP y n (-x) ∧ ¬ trP y n z ∧ ¬ trP y n (-z)) ∨ (fr31 (y ||| n) < fr31 (y0 ||| m0) ∧ ∀ i, (y0 ||| m0).testBit i = true → (y ||| n).testBit i = true)) →
      I63_2 O (PshOk cls xs h) a0 n0 c0 a1 n1 c1 (Int.ofNat y) (Int.ofNat n) q6 (Int.ofNat (y0 ||| m0)) (Int.ofNat k) h := by
  have hn := F.1
  intro d
  induction d with
  | zero =>
    intro k hk y n I hi
    refine I63_2.of _ _ _ _ _ _ _ _ _ _ _ ?_
    unfold T63_2
    have yl : y < 9223372036854775808 := Nat.lt_trans I.ly (by decide)
    have nl : n < 9223372036854775808 := Nat.lt_trans I.ln (by decide)
    refine vcond_f (by rw [ltI_nat]; exact blt_f (by omega)) (vreq_t (inD_of yl) (vreq_t (inD_of nl) ?_))
    rw [lor_nat]
    rcases hi with ⟨rfl, rfl, hg⟩ | ⟨hlt, _⟩
    · rw [List.take_of_length_le (by omega)] at hg
      exact vcond_t (eqI_t rfl) ⟨rfl, y, n, true, rfl, I.ly, I.ln, fun _ => ⟨⟨hc, I.beg, hg⟩, I.der⟩, fun e => (by cases e)⟩
    · refine vcond_f (eqI_f fun e => ?_) (again y n I hlt)
      have e : y ||| n = y0 ||| m0 := Int.ofNat.inj e
      rw [e] at hlt; omega
  | succ d ih =>
    intro k hk y n I hi
    refine I63_2.of _ _ _ _ _ _ _ _ _ _ _ ?_
    unfold T63_2
    have hkl : k < cls.length := by omega
    have hm : cls[k] ∈ cls := List.getElem_mem _
    obtain ⟨hlit, hdif⟩ := hd _ hm
    refine vcond_t (by rw [ltI_nat]; exact blt_t (by omega)) (isNat_i (F.rd hkl fun a' n' c' L => ?_))
    have hll' := hll _ hm
    refine lp63_3 hO I.ly I.ln L hll' hlit (fun o d ho => ?_) cls[k].length 0 (by omega) 0 false rfl
    have ok := opF_ok (y := y) (n := n) (xs := cls[k]) (seen := []) (o := 0) (d := false) (by simpa using hlit) (by simpa using hdif) ⟨fun e => (by cases e), fun _ x hx => (by cases hx), fun e => absurd rfl e⟩
    rw [ho, List.nil_append] at ok
    obtain ⟨k1, k2, k3⟩ := ok
    rw [wrap_succ (by omega)]
    have e1 : cls.take (k + 1) = cls.take k ++ [cls[k]] := List.take_succ_eq_append_getElem hkl
    have yl : y < 9223372036854775808 := Nat.lt_trans I.ly (by decide)
    have nl : n < 9223372036854775808 := Nat.lt_trans I.ln (by decide)
    -- a literal becomes true
    have add : d = false → o ≠ 0 → I63_2 O (PshOk cls xs h) a0 n0 c0 a1 n1 c1 (Int.ofNat (if 0 < o then y ||| 2 ^ o.natAbs else y)) (Int.ofNat (if 0 < o then n else n ||| 2 ^ o.natAbs)) q6 (Int.ofNat (y0 ||| m0)) (Int.ofNat (k + 1)) h := by
      intro hd0 ho0
      obtain ⟨om, u1, u2⟩ := k3 ho0
      have ol := hlit o om
      have hD : Der cls xs o := .unit hm om fun z hz hne => I.der _ (k2 hd0 z hz hne) (by have := (hlit z hz).1; omega)
      refine ih (k + 1) (by omega) (I.add ol hD) (.inr ?_)
      have eor : (if 0 < o then y ||| 2 ^ o.natAbs else y) ||| (if 0 < o then n else n ||| 2 ^ o.natAbs) = (y ||| n) ||| 2 ^ o.natAbs := by
        refine Nat.eq_of_testBit_eq fun i => ?_
        split <;> simp only [Nat.testBit_or] <;> cases y.testBit i <;> cases n.testBit i <;> cases (2 ^ o.natAbs).testBit i <;> rfl
      rw [eor]
      have hu : (y ||| n).testBit o.natAbs = false := by
        have := (unP_iff ol.1).2 ⟨u1, u2⟩
        unfold unP at this; simpa using this
      have lt : fr31 ((y ||| n) ||| 2 ^ o.natAbs) < fr31 (y ||| n) := by
        refine fr31_lt (or31 (Nat.or_lt_two_pow I.ly I.ln) ol) (fun i hi => by rw [Nat.testBit_or, hi]; rfl) fun e => ?_
        have : ((y ||| n) ||| 2 ^ o.natAbs).testBit o.natAbs = true := by rw [Nat.testBit_or, Nat.testBit_two_pow]; simp
        rw [e, hu] at this; cases this
      rcases hi with ⟨rfl, rfl, _⟩ | ⟨h1, h2⟩
      · exact ⟨lt, fun i hi => by rw [Nat.testBit_or, hi]; rfl⟩
      · exact ⟨by omega, fun i hi => by rw [Nat.testBit_or, h2 i hi]; rfl⟩
    refine vcond_split (fun hd0 => ?_) fun hd0 => vcond_split (fun hp => ?_) fun hp => vcond_split (fun hn0 => ?_) fun hn0 => ?_
    · refine ih (k + 1) (by omega) I (hi.imp (fun ⟨a, b, c⟩ => ⟨a, b, fun l hl => ?_⟩) id)
      rw [e1] at hl
      rcases List.mem_append.1 hl with hl | hl
      · exact c l hl
      · rw [List.mem_singleton.1 hl]; exact k1 hd0
    · have hp := lt_of_t hp
      have := add hd0 (by omega)
      rw [if_pos hp, if_pos hp] at this
      obtain ⟨s1, s2⟩ := shl1 (x := o) (m := Int.toNat o) (by omega) (hlit o (k3 (by omega)).1)
      rw [s1, lor_nat]
      obtain ⟨om, rfl⟩ : ∃ w : Nat, o = Int.ofNat w := ⟨o.toNat, by simp only [Int.ofNat_eq_natCast]; omega⟩
      exact vreq_t rfl (vreq_t (inD_of yl) (vreq_t (inD_of s2) this))
    · have hn0 := lt_of_t hn0
      have hp := not_lt_of_f hp
      have := add hd0 (by omega)
      rw [if_neg hp, if_neg hp] at this
      have ol := hlit o (k3 (by omega)).1
      have ol2 := ol.2
      have ew : wrapF .i64 (0 - o) = Int.ofNat o.natAbs := by rw [wrap64 (by omega) (by omega)]; simp only [Int.ofNat_eq_natCast]; omega
      rw [ew, show (Int.ofNat o.natAbs).toNat = o.natAbs from rfl]
      obtain ⟨s1, s2⟩ := shl1 (x := o) (m := o.natAbs) (by simp) ol
      rw [s1, lor_nat]
      exact vreq_t rfl (vreq_t (inD_of nl) (vreq_t (inD_of s2) this))
    · have hp := not_lt_of_f hp; have hn0 := not_lt_of_f hn0
      obtain rfl : o = 0 := by omega
      refine ⟨rfl, 0, 0, false, rfl, by decide, by decide, fun e => (by cases e), fun _ => ⟨rfl, rfl, .inr ⟨_, hm, fun z hz => I.der _ (k2 hd0 z hz (hlit z hz).1) (by have := (hlit z hz).1; omega)⟩⟩⟩
theorem lp63_1 {cls : List (List Int)} {xs : List Int} {h : Hp} {a0 a1 : Option Addr} {n0 c0 n1 c1 : Nat} {q6 : Bool} (F : IntssAt h a0 n0 cls) (hl : cls.length < 1000000) (hll : ∀ l ∈ cls, l.length < 1000000) (hd : ∀ l ∈ cls, (∀ x ∈ l, Lit x) ∧ Dif l) :
    ∀ (f : Nat) {y n : Nat}, fr31 (y ||| n) < f → PInv cls xs y n → I63_1 O (PshOk cls xs h) a0 n0 c0 a1 n1 c1 (Int.ofNat y) (Int.ofNat n) q6 h := by
  intro f
  induction f with
  | zero => intro y n hf; omega
  | succ f ih =>
    intro y n hf I
    refine I63_1.of _ _ _ _ _ _ _ _ _ ?_
    unfold T63_1
    have yl : y < 9223372036854775808 := Nat.lt_trans I.ly (by decide)
    have nl : n < 9223372036854775808 := Nat.lt_trans I.ln (by decide)
    rw [land_nat, lor_nat]
    refine vreq_t (inD_of yl) (vreq_t (inD_of nl) (vcond_split (fun hc => ?_) fun hc => ?_))
    · have hc : y &&& n ≠ 0 := fun e => ne_of_f (show eqI (Int.ofNat (y &&& n)) 0 = false by simpa using hc) (by rw [e]; rfl)
      obtain ⟨i, hi⟩ : ∃ i, (y &&& n).testBit i = true := by
        refine Classical.byContradiction fun hh => hc (Nat.eq_of_testBit_eq fun i => ?_)
        rw [Nat.zero_testBit]
        cases hb : (y &&& n).testBit i with
        | false => rfl
        | true => exact absurd ⟨i, hb⟩ hh
      rw [Nat.testBit_and, Bool.and_eq_true] at hi
      refine ⟨rfl, 0, 0, false, rfl, by decide, by decide, fun e => (by cases e), fun _ => ⟨rfl, rfl, ?_⟩⟩
      by_cases h0 : i = 0
      · subst h0; rw [I.z0.1] at hi; cases hi.1
      · refine .inl ⟨(i : Int), I.der _ (.inl ⟨by omega, by simpa using hi.1⟩) (by omega), I.der _ (.inr ⟨by omega, by simpa using hi.2⟩) (by omega)⟩
    · have hc : y &&& n = 0 := Int.ofNat.inj (eq_of_t (show eqI (Int.ofNat (y &&& n)) 0 = true by simpa using hc))
      have con : ∀ x, trP y n x → trP y n (-x) → False := by
        intro x h1 h2
        have : (y &&& n).testBit x.natAbs = false := by rw [hc, Nat.zero_testBit]
        rw [Nat.testBit_and] at this
        rw [trP_neg] at h2
        rcases h1 with ⟨a, b⟩ | ⟨a, b⟩ <;> rcases h2 with ⟨c, d⟩ | ⟨c, d⟩
        · omega
        · rw [b, d] at this; cases this
        · rw [b, d] at this; cases this
        · omega
      exact vreq_t (inD_of yl) (vreq_t (inD_of nl) (lp63_2 hO F hl hll hd con (fun y' n' I' hlt => ih (by omega) I') cls.length 0 (by omega) I (.inl ⟨rfl, rfl, fun l hl => by simp at hl⟩)))
theorem lp63_0 {cls : List (List Int)} {xs : List Int} {h : Hp} {a0 a1 : Option Addr} {n0 c0 n1 c1 : Nat} (F : IntssAt h a0 n0 cls) (hl : cls.length < 1000000) (hll : ∀ l ∈ cls, l.length < 1000000) (hd : ∀ l ∈ cls, (∀ x ∈ l, Lit x) ∧ Dif l) (X : IntsAt h a1 n1 xs) (hxl : xs.length < 1000000) (hx : ∀ x ∈ xs, Lit x) :
    ∀ (d k : Nat), k + d = xs.length → ∀ {y n : Nat}, PInv cls xs y n ∨ (y < 2 ^ 31 ∧ n < 2 ^ 31 ∧ (∀ z, trP y n z → z ≠ 0 → Der cls xs z) ∧ (∀ x ∈ xs.take k, trP y n x) ∧ y.testBit 0 = false ∧ n.testBit 0 = false) → I63_0 O (PshOk cls xs h) a0 n0 c0 a1 n1 c1 (Int.ofNat y) (Int.ofNat n) (Int.ofNat k) h := by
  have hn := X.1
  intro d
  induction d with
  | zero =>
    intro k hk y n I
    refine I63_0.of _ _ _ _ _ _ _ _ _ ?_
    unfold T63_0
    have I : PInv cls xs y n := by
      rcases I with I | ⟨a, b, c, d, e⟩
      · exact I
      · rw [List.take_of_length_le (by omega)] at d; exact ⟨a, b, c, d, e⟩
    exact vcond_f (by rw [ltI_nat]; exact blt_f (by omega)) (lp63_1 hO F hl hll hd (fr31 (y ||| n) + 1) (by omega) I)
  | succ d ih =>
    intro k hk y n I
    refine I63_0.of _ _ _ _ _ _ _ _ _ ?_
    unfold T63_0
    have hkl : k < xs.length := by omega
    have hxk := hx _ (List.getElem_mem hkl)
    have hx1 := hxk.1; have hx2 := hxk.2
    have hD : Der cls xs xs[k] := .base (List.getElem_mem hkl)
    have e1 : xs.take (k + 1) = xs.take k ++ [xs[k]] := List.take_succ_eq_append_getElem hkl
    have I : y < 2 ^ 31 ∧ n < 2 ^ 31 ∧ (∀ z, trP y n z → z ≠ 0 → Der cls xs z) ∧ (∀ x ∈ xs.take k, trP y n x) ∧ y.testBit 0 = false ∧ n.testBit 0 = false := by
      rcases I with I | I
      · exact ⟨I.ly, I.ln, I.der, fun x hx => I.beg x (List.mem_of_mem_take hx), I.z0⟩
      · exact I
    obtain ⟨ly, ln, ider, ibeg, iz⟩ := I
    have add : I63_0 O (PshOk cls xs h) a0 n0 c0 a1 n1 c1 (Int.ofNat (if 0 < xs[k] then y ||| 2 ^ xs[k].natAbs else y)) (Int.ofNat (if 0 < xs[k] then n else n ||| 2 ^ xs[k].natAbs)) (Int.ofNat (k + 1)) h := by
      refine ih (k + 1) (by omega) (.inr ?_)
      have h0 : (2 ^ xs[k].natAbs).testBit 0 = false := by rw [Nat.testBit_two_pow]; simp; omega
      refine ⟨by split; exact or31 ly hxk; exact ly, by split; exact ln; exact or31 ln hxk, fun z hz hz0 => ?_, fun z hz => ?_, ?_⟩
      · rcases (trP_add hxk).1 hz with h | rfl
        · exact ider z h hz0
        · exact hD
      · rw [e1] at hz
        rcases List.mem_append.1 hz with hz | hz
        · exact (trP_add hxk).2 (.inl (ibeg z hz))
        · exact (trP_add hxk).2 (.inr (List.mem_singleton.1 hz))
      · split
        · exact ⟨by rw [Nat.testBit_or, h0, iz.1]; rfl, iz.2⟩
        · exact ⟨iz.1, by rw [Nat.testBit_or, h0, iz.2]; rfl⟩
    have yl : y < 9223372036854775808 := Nat.lt_trans ly (by decide)
    have nl : n < 9223372036854775808 := Nat.lt_trans ln (by decide)
    rw [wrap_succ (by omega)]
    refine vcond_t (by rw [ltI_nat]; exact blt_t (by omega)) (isNat_i (X.rd hkl (vcond_split (fun hp => ?_) fun hp => ?_)))
    · have hp := lt_of_t hp
      rw [if_pos hp, if_pos hp] at add
      obtain ⟨s1, s2⟩ := shl1 (x := xs[k]) (m := Int.toNat xs[k]) (by omega) hxk
      rw [s1, lor_nat]
      have el : le0 xs[k] = true := by
        obtain ⟨w, hw⟩ : ∃ w : Nat, xs[k] = Int.ofNat w := ⟨xs[k].toNat, by simp only [Int.ofNat_eq_natCast]; omega⟩
        rw [hw]; rfl
      exact vreq_t el (vreq_t (inD_of yl) (vreq_t (inD_of s2) add))
    · have hp := not_lt_of_f hp
      rw [if_neg hp, if_neg hp] at add
      have ew : wrapF .i64 (0 - xs[k]) = Int.ofNat xs[k].natAbs := by rw [wrap64 (by omega) (by omega)]; simp only [Int.ofNat_eq_natCast]; omega
      rw [ew, show (Int.ofNat xs[k].natAbs).toNat = xs[k].natAbs from rfl]
      obtain ⟨s1, s2⟩ := shl1 (x := xs[k]) (m := xs[k].natAbs) (by simp) hxk
      rw [s1, lor_nat]
      exact vreq_t rfl (vreq_t (inD_of nl) (vreq_t (inD_of s2) add))
theorem ct63 {cls : List (List Int)} {xs : List Int} {h : Hp} {a0 a1 : Option Addr} {n0 c0 n1 c1 : Nat} (F : IntssAt h a0 n0 cls) (hl : cls.length < 1000000) (hll : ∀ l ∈ cls, l.length < 1000000) (hd : ∀ l ∈ cls, (∀ x ∈ l, Lit x) ∧ Dif l) (X : IntsAt h a1 n1 xs) (hxl : xs.length < 1000000) (hx : ∀ x ∈ xs, Lit x) :
    Ret Tryd.prog O 63 [.slice a0 n0 c0, .slice a1 n1 c1] h (PshOk cls xs h) := by
  refine rk63 _ _ _ _ _ _ (hO _ _ _ (by decide)) ?_
  unfold T63
  refine lp63_0 hO F hl hll hd X hxl hx xs.length 0 (by omega) (.inr ⟨by decide, by decide, fun z hz => ?_, fun x hx => by simp at hx, rfl, rfl⟩)
  rcases hz with ⟨_, h⟩ | ⟨_, h⟩ <;> simp at h
/-- A list of its own, with another one's elements. -/
def RCl (h : Hp) (xs : List Int) (a : Option Addr) (n c : Nat) (h' : Hp) : Prop := AccE h' h.nx 3 1 a n c (xs.map (Value.int .i64)) ∧ Kp h.nx h h'
theorem ct60 {h : Hp} (ok : h.Ok) {a0 : Option Addr} {n0 c0 : Nat} {xs : List Int} (X : IntsAt h a0 n0 xs) (hl : xs.length < 100000000) : Ret Tryd.prog O 60 [.slice a0 n0 c0] h fun v h' => ∃ a n c, v = .slice a n c ∧ RCl h xs a n c h' := by
  refine rk60 _ _ _ (hO _ _ _ (by decide)) ?_
  unfold T60
  cases a0 with
  | none =>
    have : xs = [] := by
      rcases X.2 with ⟨e, _⟩ | ⟨_, _, _, _, _, e, _⟩
      · exact e
      · cases e
    subst this
    exact ⟨_, _, _, rfl, .inl (Acc.nil ..), .refl _ _⟩
  | some q =>
    show let g1 : Hp := h.add (.cells [] 3 .fix); _
    intro g1
    have X1 : IntsAt g1 (some q) n0 xs := X.to _
    have Z : AccE g1 h.nx 3 1 (some ⟨h.nx, 0, none⟩) 0 0 [] := .inr ⟨rfl, rfl, rfl, h.nx, rfl, Nat.le_refl _, Nat.lt_succ_self _, _, _, get_add_same ..⟩
    have k1 : Kp h.nx h g1 := (Kp.refl _ _).add (Nat.le_refl _) _
    have src : srcCells g1 1 (.slice (some q) n0 c0) = some (xs.map (Value.int .i64), n0) := X1.src
    obtain ⟨a', n', c', h', e1, A, _, K⟩ := append_accE app32 Z (by show h.nx ≤ h.nx + 1; omega) (fun q hq => ok.gd q hq) ⟨_, _, _, rfl⟩ src (by rw [X.1]; simp) (by simp [one]) (by rw [X.1]; omega) (by rw [X.1]; unfold big; omega)
    exact ⟨a', n', c', h', e1, _, _, _, rfl, A, k1.trans (K.kpE Z (by show h.nx ≤ h.nx + 1; omega))⟩
/-- One is appended to a list of its own. -/
theorem appIE {e sT : TypeId} (T : AppT Tryd.prog sT e 1 8) {h : Hp} {base : Nat} {a : Option Addr} {n c : Nat} {xs : List Int} (A : AccE h base e 1 a n c (xs.map (Value.int .i64))) (hb : base ≤ h.nx) (hg : GdLt h base) (hn : n = xs.length) (hl : xs.length < 1000000000) {x : Int}
    {K : Option Addr → Nat → Nat → Hp → Prop} (next : ∀ a' c' h', AccE h' base e 1 a' (n + 1) c' ((xs ++ [x]).map (Value.int .i64)) → Kp base h h' → K a' (n + 1) c' h') :
    ∃ a' n' c' h', appendV Tryd.prog (h.add (.cells [.int .i64 x] e .fix)) sT sT (.slice a n c) (.slice (some ⟨h.nx, 0, none⟩) 1 1) = some (.slice a' n' c', h') ∧ K a' n' c' h' := by
  have _ := hO
  have A1 : AccE (h.add (.cells [.int .i64 x] e .fix)) base e 1 a n c (xs.map (Value.int .i64)) := A.keep (fun o ho _ => get_add_ne (by omega)) (by rw [nx_add]; omega)
  obtain ⟨a', n', c', h', e1, A', rfl, k⟩ := append_accE T A1 (by rw [nx_add]; omega) hg ⟨_, _, _, rfl⟩ (src_get (n := 1) (c := 1) (esz := 1) (off := 0) (read1 (i := 0) (v := .int .i64 x) (get_add_same ..) rfl)) rfl rfl (by omega) (by unfold big; omega)
  have k' : AppK h h' a := ⟨Nat.le_trans (by rw [nx_add]; omega) k.nx, k.gd, fun f => k.fr (f.add _), fun q hq hne => by rw [k.get q (by rw [nx_add]; omega) hne, get_add_ne (by omega)]⟩
  exact ⟨a', _, c', h', e1, next a' c' h' (by rw [List.map_append]; exact A') (k'.kpE A hb)⟩
omit hO in
theorem accE_ints {e : TypeId} {h : Hp} {base : Nat} {a : Option Addr} {n c : Nat} {xs : List Int} (H : AccE h base e 1 a n c (xs.map (Value.int .i64))) : IntsAt h a n xs := by
  rcases H with H | ⟨h1, h2, h3, o, h4, h5, h6, e2, m, h7⟩
  · exact AccI.ints H
  · have hx : xs = [] := by
      cases xs with
      | nil => rfl
      | cons x xs => cases h1
    subst hx h2 h4
    exact ⟨rfl, .inr ⟨o, 0, _, _, _, rfl, h6, h7, by simp, fun i hi => by simp at hi⟩⟩
theorem lp57 {cls : List (List Int)} {gs l : List Int} {h₀ : Hp} (ok : h₀.Ok) {a0 a1 a2 : Option Addr} {n0 c0 n1 c1 n2 c2 : Nat} (F : IntssAt h₀ a0 n0 cls) (hl : cls.length < 1000000) (hll : ∀ l ∈ cls, l.length < 1000000) (hd : ∀ l ∈ cls, (∀ x ∈ l, Lit x) ∧ Dif l) (hgl : gs.length < 1000) (hg : ∀ x ∈ gs, Lit x) (L : IntsAt h₀ a2 n2 l) (hln : l.length < 1000) (hlit : ∀ x ∈ l, Lit x) :
    ∀ (d k : Nat), k + d = l.length → ∀ {h : Hp} {a n c}, Kp h₀.nx h₀ h → AccE h h₀.nx 3 1 a n c ((gs ++ (l.take k).map fun x => -x).map (Value.int .i64)) → n = gs.length + k →
      I57_0 O (fun v h' => ∃ b : Bool, v = .bool b ∧ (b = true ↔ Cl cls (gs ++ l.map fun x => -x)) ∧ Kp h₀.nx h₀ h') a0 n0 c0 a1 n1 c1 a2 n2 c2 a n c (Int.ofNat k) h := by
  have hn := L.1
  intro d
  induction d with
  | zero =>
    intro k hk h a n c kp A hnn
    refine I57_0.of _ _ _ _ _ _ _ _ _ _ _ _ _ ?_
    unfold T57_0
    rw [List.take_of_length_le (by omega)] at A
    have := kp.ex (Nat.le_refl _)
    have lits : ∀ x ∈ gs ++ l.map (fun x => -x), Lit x := fun x hx => by
      rcases List.mem_append.1 hx with hx | hx
      · exact hg x hx
      · exact lit_neg hlit x hx
    obtain ⟨v, h', e, rfl, y, m, b, rfl, _, _, p1, p2⟩ := ct63 hO (F.to h) hl hll hd (accE_ints A) (by simp; omega) lits
    refine vcond_f (by rw [ltI_nat]; exact blt_f (by omega)) ⟨_, _, _, _, e, !b, rfl, ?_, kp⟩
    cases b with
    | true => exact ⟨fun e => (by cases e), fun hc => absurd hc ((p1 rfl).1.not)⟩
    | false => exact ⟨fun _ => (p2 rfl).2.2, fun _ => rfl⟩
  | succ d ih =>
    intro k hk h a n c kp A hnn
    refine I57_0.of _ _ _ _ _ _ _ _ _ _ _ _ _ ?_
    unfold T57_0
    have hkl : k < l.length := by omega
    have hx := hlit _ (List.getElem_mem hkl)
    have hx2 := hx.2
    have := kp.ex (Nat.le_refl _)
    refine vcond_t (by rw [ltI_nat]; exact blt_t (by omega)) (isNat_i (L.rd hkl ?_))
    rw [wrap_succ (by omega), show wrapF .i64 (0 - l[k]) = -l[k] by rw [wrap64 (by omega) (by omega)]; omega]
    refine appIE hO app32 A kp.nx (GdLt.kp ok.lt kp) (by simp; omega) (by simp; omega) fun a' c' h' A' kA => ih (k + 1) (by omega) (kp.trans kA) ?_ (by omega)
    rw [List.take_succ_eq_append_getElem hkl, List.map_append (l₁ := l.take k), ← List.append_assoc]; exact A'
theorem ct57 {cls : List (List Int)} {gs l : List Int} {h : Hp} (ok : h.Ok) {a0 a1 a2 : Option Addr} {n0 c0 n1 c1 n2 c2 : Nat} (F : IntssAt h a0 n0 cls) (hl : cls.length < 1000000) (hll : ∀ l ∈ cls, l.length < 1000000) (hd : ∀ l ∈ cls, (∀ x ∈ l, Lit x) ∧ Dif l) (G : IntsAt h a1 n1 gs) (hgl : gs.length < 1000) (hg : ∀ x ∈ gs, Lit x) (L : IntsAt h a2 n2 l) (hln : l.length < 1000) (hlit : ∀ x ∈ l, Lit x) :
    Ret Tryd.prog O 57 [.slice a0 n0 c0, .slice a1 n1 c1, .slice a2 n2 c2] h fun v h' => ∃ b : Bool, v = .bool b ∧ (b = true ↔ Cl cls (gs ++ l.map fun x => -x)) ∧ Kp h.nx h h' := by
  refine rk57 _ _ _ _ _ _ _ _ _ (hO _ _ _ (by decide)) ?_
  unfold T57
  refine (ct60 hO ok G (by omega)).s fun a n c h' ⟨A, k⟩ => ?_
  exact lp57 hO ok F hl hll hd hgl hg L hln hlit l.length 0 (by omega) k (by simpa using A) (by have := (accE_ints A).1; simpa using this)
end
end Go.Proofs.YtfgfhplgnfbaaaaDoor
/- Lists of lists that grow, their elements laid meanwhile. -/
namespace Go.Proofs.YtfgfhplgnfbaaaaDoor
open Go Go.Ev
/-- Where an element may lie: neither in what is written nor in the list that grows. -/
def VOk (lo base : Nat) (v : Value) : Prop := ∀ b off n c, v = .slice (some ⟨b, off, none⟩) n c → (b < lo ∨ base ≤ b) ∧ (b < base ∨ 0 < n)
def LL (lo base : Nat) (h : Hp) (a : Option Addr) (n c : Nat) (xss : List (List Int)) : Prop := ∃ vs, AccE h base 32 1 a n c vs ∧ Lis h vs xss ∧ ∀ v ∈ vs, VOk lo base v
theorem LL.nil (lo base : Nat) (h : Hp) : LL lo base h none 0 0 [] := ⟨[], .inl (Acc.nil ..), .nil h, fun _ h => by cases h⟩
theorem LL.intss {lo base : Nat} {h : Hp} {a : Option Addr} {n c : Nat} {xss : List (List Int)} (A : LL lo base h a n c xss) : IntssAt h a n xss := let ⟨_, A, L, _⟩ := A; AccE.intss A L
theorem LL.len {lo base : Nat} {h : Hp} {a : Option Addr} {n c : Nat} {xss : List (List Int)} (A : LL lo base h a n c xss) : n = xss.length := A.intss.1
theorem AccE.to {h : Hp} (h' : Hp) [k : Ft h h'] {base : Nat} {e : TypeId} {esz : Nat} {a : Option Addr} {n c : Nat} {xs : List Value} (H : AccE h base e esz a n c xs) : AccE h' base e esz a n c xs :=
  H.keep (fun o ho _ => k.get o ho) k.nx
theorem Lis.to {h : Hp} (h' : Hp) [k : Ft h h'] {vs : List Value} {xs : List (List Int)} (A : Lis h vs xs) : Lis h' vs xs := ⟨A.1, fun i hi => let ⟨v, h1, h2⟩ := A.2 i hi; ⟨v, h1, EUp.up _ _ _ _ k h2⟩⟩
theorem LL.to {lo base : Nat} {h : Hp} (h' : Hp) [k : Ft h h'] {a : Option Addr} {n c : Nat} {xss : List (List Int)} (A : LL lo base h a n c xss) : LL lo base h' a n c xss :=
  let ⟨vs, A, L, o⟩ := A; ⟨vs, AccE.to h' A, L.to h', o⟩
/-- Something else changes. -/
theorem ints_sub {h h' : Hp} {a : Option Addr} {n : Nat} {xs : List Int} (X : IntsAt h a n xs) (hk : ∀ b off, a = some ⟨b, off, none⟩ → b < h.nx → h'.get b = h.get b) (hn : h.nx ≤ h'.nx) : IntsAt h' a n xs := by
  refine ⟨X.1, X.2.imp id ?_⟩
  rintro ⟨b, off, c, e, m, h1, h2, h3, h4, h5⟩
  exact ⟨b, off, c, e, m, h1, Nat.lt_of_lt_of_le h2 hn, by rw [hk b off h1 h2]; exact h3, h4, h5⟩
theorem LL.wr {lo base : Nat} {h : Hp} {a : Option Addr} {n c : Nat} {xss : List (List Int)} (A : LL lo base h a n c xss) {q : Nat} (h1 : lo ≤ q) (h2 : q < base) (off : Nat) (ws : List Value) : LL lo base (h.wr q off ws) a n c xss := by
  obtain ⟨vs, A, L, o⟩ := A
  refine ⟨vs, A.keep (fun p _ hp => wr_get_ne _ _ _ _ (by have := (A.lt hp).1; omega)) (by rw [nx_wr]; omega), ⟨L.1, fun i hi => ?_⟩, o⟩
  obtain ⟨v, hv, a', n', c', e, X⟩ := L.2 i hi
  refine ⟨v, hv, a', n', c', e, ints_sub X (fun b off hb _ => wr_get_ne _ _ _ _ ?_) (by rw [nx_wr]; omega)⟩
  have := (o v (List.mem_of_getElem? hv) b off n' c' (by rw [← hb]; simpa using e)).1
  omega
/-- An element lies elsewhere than the list. -/
theorem LL.ne {h : Hp} {base : Nat} {a : Option Addr} {n c : Nat} {vs : List Value} {xss : List (List Int)} (A : AccE h base 32 1 a n c vs) (L : Lis h vs xss) {a1 : Option Addr} {n1 : Nat} {ys : List Int} (Y : IntsAt h a1 n1 ys) {b off : Nat} (hb : a1 = some ⟨b, off, none⟩) (hn : b < base ∨ 0 < n1) : a ≠ some ⟨b, 0, none⟩ := by
  intro e
  have hlt := A.lt e
  have hn : 0 < n1 := by omega
  rcases Y.2 with ⟨_, e2⟩ | ⟨b', off', cs, e', m', h1, h2, h3, h4, h5⟩
  · rw [hb] at e2; cases e2
  · rw [hb] at h1; injection h1 with h1; injection h1 with h1 h1'; subst h1 h1'
    have hy := Y.1
    have h6 : (cs.drop (off + 0 * 1)).take 1 = [.int .i64 ys[0]] := h5 0 (by omega)
    have hc : cs[off]? = some (.int .i64 ys[0]) := by
      rw [Nat.zero_mul, Nat.add_zero] at h6
      have : ((cs.drop off).take 1)[0]? = some (.int .i64 ys[0]) := by rw [h6]; rfl
      simpa using this
    have hvs : cs = vs ∨ cs = [] := by
      rcases A with (⟨q, _⟩ | ⟨o, q, _, _, _, _, hg⟩) | ⟨_, _, _, o, q, _, _, e2, m, hg⟩
      · rw [q] at e; cases e
      · rw [q] at e; injection e with e; injection e with e; subst e; rw [h3] at hg; injection hg with hg; injection hg with hg; exact .inl hg
      · rw [q] at e; injection e with e; injection e with e; subst e; rw [h3] at hg; injection hg with hg; injection hg with hg; exact .inr hg
    rcases hvs with rfl | rfl
    · have hl : off < xss.length := by
        have := (List.getElem?_eq_some_iff.1 hc).1
        rw [← L.1]; exact this
      obtain ⟨v, hv, a2, n2, c2, e2, _⟩ := L.2 off hl
      rw [hv] at hc
      injection hc with hc
      subst hc
      cases e2
    · simp at hc
/-- What is appended to lies at a new number: also a row of no elements. -/
theorem append_newE {P : Program} {sT e : TypeId} {esz bytes : Nat} (T : AppT P sT e esz bytes) {h : Hp} {base : Nat} {a : Option Addr} {n c : Nat} {xs : List Value} (H : AccE h base e esz a n c xs)
    {x : Value} {ys : List Value} {k : Nat} (hx : ∃ a n c, x = .slice a n c) (hs : srcCells h esz x = some (ys, k)) (h1 : ys.all one = true) (hkp : 0 < k) {a' : Option Addr} {n' c' : Nat} {h' : Hp} (e1 : appendV P h sT sT (.slice a n c) x = some (.slice a' n' c', h')) : a' = some ⟨h.nx, 0, none⟩ := by
  rcases H with H | ⟨rfl, rfl, rfl, o, rfl, h2, h3, e2, m, h4⟩
  · exact append_new T H hx hs h1 hkp e1
  · obtain ⟨hz, info, z, hi, hzz, hrun⟩ := T.run
    rw [hrun h _ x hx, hs] at e1
    have hk0 : Nat.beq k 0 = false := by rw [Bool.eq_false_iff]; intro hh; have := Nat.eq_of_beq_eq_true hh; omega
    simp only [Option.bind_some, h1, cond_true, hk0, cond_false] at e1
    unfold appSome at e1
    have e3 : Nat.beq 0 unk = false := by
      rw [Bool.eq_false_iff]; intro hh; have := Nat.eq_of_beq_eq_true hh; have : unk = 18446744073709551616 := rfl; omega
    have e4 : Nat.ble (0 + k) 0 = false := by
      rw [Bool.eq_false_iff]; intro hh; have : 0 + k ≤ 0 := by simpa using hh
      omega
    have e5 : readAt h o 0 (0 * esz) = some [] := by rw [Nat.zero_mul, readAt_get h4 (by simp)]; rfl
    simp only [h4, e3, e4, e5, cond_false, Option.bind_some] at e1
    unfold appNew at e1
    obtain ⟨_, e1⟩ := cond_some e1
    injection e1 with e1
    injection e1 with e1 _
    injection e1 with e1 _
    exact e1.symm
/-- What an append to a list of lists leaves. -/
structure LLK (lo base : Nat) (g h' : Hp) (a : Option Addr) : Prop where
  kp : Kp base g h'
  st : ∀ {a3 : Option Addr} {n3 c3 : Nat} {zs : List Int}, IntsAt g a3 n3 zs → VOk lo base (.slice a3 n3 c3) → IntsAt h' a3 n3 zs
  oth : ∀ q, q < g.nx → a ≠ some ⟨q, 0, none⟩ → g.get q ≠ none → h'.get q = g.get q
theorem accE_live {h : Hp} {base : Nat} {e : TypeId} {esz : Nat} {a : Option Addr} {n c : Nat} {xs : List Value} (A : AccE h base e esz a n c xs) {o : Nat} (ha : a = some ⟨o, 0, none⟩) : h.get o ≠ none := by
  rcases A with (⟨h0, _⟩ | ⟨p, h0, _, _, _, _, h6⟩) | ⟨_, _, _, p, h0, _, _, _, _, h6⟩
  · rw [h0] at ha; cases ha
  · rw [h0] at ha; injection ha with ha; injection ha with ha; subst ha; rw [h6]; simp
  · rw [h0] at ha; injection ha with ha; injection ha with ha; subst ha; rw [h6]; simp
theorem LL.appR {lo base : Nat} (hlo : lo ≤ base) {g : Hp} {a : Option Addr} {n c : Nat} {xss : List (List Int)} (A : LL lo base g a n c xss) {a1 : Option Addr} {n1 c1 : Nat} {ys : List Int} (Y : IntsAt g a1 n1 ys) (okY : VOk lo base (.slice a1 n1 c1)) (hb : base ≤ g.nx) (hg : GdLt g base)
    {q : Nat} (hq : g.get q = none) (hq2 : q < g.nx) (hqb : base ≤ q) {l : List Nat} (hl : ∀ i ∈ l, i < base) (hn : n < 10000000)
    {K : Option Addr → Nat → Nat → Hp → Prop} (next : ∀ a' c' h', LL lo base (h'.rst (g.lay q (.cells [.slice a1 n1 c1] 32 .fix))) a' (n + 1) c' (xss ++ [ys]) → (∀ p, a' = some ⟨p, 0, none⟩ → g.nx ≤ p) → LLK lo base g (h'.rst (g.lay q (.cells [.slice a1 n1 c1] 32 .fix))) a → K a' (n + 1) c' h') :
    vreq (g.free q) (let g2 := g.lay q (.cells [.slice a1 n1 c1] 32 .fix); ∃ a' n' c' h', appendV Tryd.prog (g2.grd l) 28 28 (.slice a n c) (.slice (some ⟨q, 0, none⟩) 1 1) = some (.slice a' n' c', h') ∧ K a' n' c' h') := by
  have _ := hlo
  obtain ⟨vs, A, L, o⟩ := A
  refine vreq_t (free_t hq) ?_
  intro g2
  have aq : a ≠ some ⟨q, 0, none⟩ := fun ha => by
    rcases A with (⟨h0, _⟩ | ⟨p, h0, _, _, _, _, h6⟩) | ⟨_, _, _, p, h0, _, _, _, _, h6⟩
    · rw [h0] at ha; cases ha
    · rw [h0] at ha; injection ha with ha; injection ha with ha; subst ha; rw [hq] at h6; cases h6
    · rw [h0] at ha; injection ha with ha; injection ha with ha; subst ha; rw [hq] at h6; cases h6
  have A2 : AccE (g2.grd l) base 32 1 a n c vs := A.keep (fun p _ hp => by
    show g2.get p = _
    rw [get_lay, if_neg (show p ≠ q from fun hh => aq (by rw [← hh]; exact hp))]) (Nat.le_refl _)
  have gl : GdLt (g2.grd l) base := fun i hi => (List.mem_append.1 hi).elim (hl i) (hg i)
  have src : (g2.grd l).get q = some (.cells [.slice a1 n1 c1] 32 .fix) := by show g2.get q = _; rw [get_lay, if_pos rfl]
  obtain ⟨a', n', c', h', e1, A', rfl, k⟩ := append_accE app28 A2 hb gl ⟨_, _, _, rfl⟩ (src_get (n := 1) (c := 1) (esz := 1) (off := 0) (read1 (i := 0) (v := .slice a1 n1 c1) src rfl)) rfl rfl (by omega) (by unfold big; omega)
  have k1 : AppK g2 (h'.rst g2) a := ⟨k.nx, rfl, k.fr, k.get⟩
  have k2 : Kp base g (h'.rst g2) := ((Kp.refl base g).lay hqb hq2 _).trans (k1.kpE A2 hb)
  -- what lies elsewhere stays
  have st : ∀ {a3 : Option Addr} {n3 c3 : Nat} {zs : List Int}, IntsAt g a3 n3 zs → VOk lo base (.slice a3 n3 c3) → IntsAt (h'.rst g2) a3 n3 zs := by
    intro a3 n3 c3 zs Z ok
    refine ints_sub Z (fun b off hb hlt => ?_) k2.nx
    have hne := LL.ne A L Z hb (ok b off n3 c3 (by rw [hb])).2
    have hbq : b ≠ q := by
      rintro rfl
      rcases Z.2 with ⟨_, e⟩ | ⟨b', off', cs, e', m', h1, h2, h3, _⟩
      · rw [hb] at e; cases e
      · rw [hb] at h1; injection h1 with h1; injection h1 with h1; subst h1; rw [hq] at h3; cases h3
    rw [k1.get b hlt hne, get_lay, if_neg hbq]
  have fr := append_newE app28 A2 ⟨_, _, _, rfl⟩ (src_get (n := 1) (c := 1) (esz := 1) (off := 0) (read1 (i := 0) (v := .slice a1 n1 c1) src rfl)) rfl Nat.one_pos e1
  refine ⟨a', _, c', h', e1, next a' c' h' ⟨vs ++ [.slice a1 n1 c1], AccE.keep (h := h') A' (fun _ _ _ => rfl) (Nat.le_refl _), Lis.app ⟨L.1, fun i hi => ?_⟩ ⟨rfl, fun i hi => ?_⟩, fun v hv => ?_⟩ (fun p hp => by rw [fr] at hp; injection hp with hp; injection hp with hp; exact Nat.le_of_eq hp) ⟨k2, st, fun p hp hne hl => by rw [k1.get p hp hne, get_lay, if_neg (fun hh => hl (by rw [hh]; exact hq))]⟩⟩
  · obtain ⟨v, hv, a3, n3, c3, e, X⟩ := L.2 i hi
    have e' : v = .slice a3 n3 c3 := by simpa using e
    exact ⟨v, hv, a3, n3, c3, e, st X (by rw [← e']; exact o v (List.mem_of_getElem? hv))⟩
  · have : i = 0 := by simpa using hi
    subst this
    exact ⟨_, rfl, a1, n1, c1, rfl, st Y okY⟩
  · rcases List.mem_append.1 hv with hv | hv
    · exact o v hv
    · obtain rfl := List.mem_singleton.1 hv; exact okY
/-- The same outside of a region. -/
theorem LL.app {lo base : Nat} (hlo : lo ≤ base) {g : Hp} {a : Option Addr} {n c : Nat} {xss : List (List Int)} (A : LL lo base g a n c xss) {a1 : Option Addr} {n1 c1 : Nat} {ys : List Int} (Y : IntsAt g a1 n1 ys) (okY : VOk lo base (.slice a1 n1 c1)) (hb : base ≤ g.nx) (hg : GdLt g base) (hf : g.Fresh) (hn : n < 10000000)
    {K : Option Addr → Nat → Nat → Hp → Prop} (next : ∀ a' c' h', LL lo base h' a' (n + 1) c' (xss ++ [ys]) → (∀ p, a' = some ⟨p, 0, none⟩ → g.nx ≤ p) → LLK lo base g h' a → K a' (n + 1) c' h') :
    ∃ a' n' c' h', appendV Tryd.prog (g.add (.cells [.slice a1 n1 c1] 32 .fix)) 28 28 (.slice a n c) (.slice (some ⟨g.nx, 0, none⟩) 1 1) = some (.slice a' n' c', h') ∧ K a' n' c' h' := by
  have _ := hlo
  obtain ⟨vs, A, L, o⟩ := A
  have A2 : AccE (g.add (.cells [.slice a1 n1 c1] 32 .fix)) base 32 1 a n c vs := AccE.to _ A
  obtain ⟨a', n', c', h', e1, A', rfl, k⟩ := append_accE app28 A2 (by rw [nx_add]; omega) hg ⟨_, _, _, rfl⟩ (src_get (n := 1) (c := 1) (esz := 1) (off := 0) (read1 (i := 0) (v := .slice a1 n1 c1) (get_add_same ..) rfl)) rfl rfl (by omega) (by unfold big; omega)
  have _ := hf
  have k2 : Kp base g h' := ((Kp.refl base g).add hb _).trans (k.kpE A2 (by rw [nx_add]; omega))
  have st : ∀ {a3 : Option Addr} {n3 c3 : Nat} {zs : List Int}, IntsAt g a3 n3 zs → VOk lo base (.slice a3 n3 c3) → IntsAt h' a3 n3 zs := by
    intro a3 n3 c3 zs Z ok
    refine ints_sub Z (fun b off hb hlt => ?_) k2.nx
    have hne := LL.ne A L Z hb (ok b off n3 c3 (by rw [hb])).2
    rw [k.get b (by rw [nx_add]; omega) hne, get_add_ne (by omega)]
  have fr := append_newE app28 A2 ⟨_, _, _, rfl⟩ (src_get (n := 1) (c := 1) (esz := 1) (off := 0) (read1 (i := 0) (v := .slice a1 n1 c1) (get_add_same ..) rfl)) rfl Nat.one_pos e1
  refine ⟨a', _, c', h', e1, next a' c' _ ⟨vs ++ [.slice a1 n1 c1], A', Lis.app ⟨L.1, fun i hi => ?_⟩ ⟨rfl, fun i hi => ?_⟩, fun v hv => ?_⟩ (fun p hp => by rw [fr] at hp; injection hp with hp; injection hp with hp; have : (g.add (.cells [.slice a1 n1 c1] 32 .fix)).nx = g.nx + 1 := rfl; omega) ⟨k2, st, fun p hp hne _ => by rw [k.get p (by rw [nx_add]; omega) hne, get_add_ne (by omega)]⟩⟩
  · obtain ⟨v, hv, a3, n3, c3, e, X⟩ := L.2 i hi
    have e' : v = .slice a3 n3 c3 := by simpa using e
    exact ⟨v, hv, a3, n3, c3, e, st X (by rw [← e']; exact o v (List.mem_of_getElem? hv))⟩
  · have : i = 0 := by simpa using hi
    subst this
    exact ⟨_, rfl, a1, n1, c1, rfl, st Y okY⟩
  · rcases List.mem_append.1 hv with hv | hv
    · exact o v hv
    · obtain rfl := List.mem_singleton.1 hv; exact okY
/-- Something is laid at a number that was free. -/
theorem ints_lay {h : Hp} {q : Nat} (hq : h.get q = none) (x : Ob) {a : Option Addr} {n : Nat} {xs : List Int} (X : IntsAt h a n xs) : IntsAt (h.lay q x) a n xs := by
  refine ⟨X.1, X.2.imp id ?_⟩
  rintro ⟨b, off, c, e, m, h1, h2, h3, h4, h5⟩
  exact ⟨b, off, c, e, m, h1, h2, by rw [get_lay, if_neg (fun hh => by rw [hh, hq] at h3; cases h3)]; exact h3, h4, h5⟩
theorem LL.lay {lo base : Nat} {h : Hp} {q : Nat} (hq : h.get q = none) (x : Ob) {a : Option Addr} {n c : Nat} {xss : List (List Int)} (A : LL lo base h a n c xss) : LL lo base (h.lay q x) a n c xss := by
  obtain ⟨vs, A, L, o⟩ := A
  refine ⟨vs, A.keep (fun p _ hp => by rw [get_lay, if_neg (fun hh => accE_live A hp (by rw [hh]; exact hq))]) (Nat.le_refl _), ⟨L.1, fun i hi => ?_⟩, o⟩
  obtain ⟨v, hv, a', n', c', e, X⟩ := L.2 i hi
  exact ⟨v, hv, a', n', c', e, ints_lay hq x X⟩
end Go.Proofs.YtfgfhplgnfbaaaaDoor
/- Conditions of functions' code, printed by a program of ours. -/
namespace Go.Proofs.YtfgfhplgnfbaaaaDoor
open Go Go.Ev
set_option maxRecDepth 100000
set_option linter.unusedVariables false
/-! slices.Delete[[]int,int] -/
noncomputable def b59 : Code := (Tryd.f59.body).getD .skip
def lv59 : List (Nat × List Nat) := []
def T59 (O : CallF) (Q : Value → Hp → Prop) (a0 : Option Addr) (n0 : Nat) (c0 : Nat) (x1 : Int) (x2 : Int) (h : Hp) : Prop :=
  ∃ a1' n2' c3', sliceV Tryd.prog h 32 (.slice a0 n0 c0) (some (.int .i64 x1)) (some (.int .i64 x2)) (some (.int .i64 (Int.ofNat n0))) = some (.slice a1' n2' c3') ∧
  vcond (eqI x1 x2)
  (Q (.slice a0 n0 c0) h)
  (let g4 : Hp := h.rsv 8
  ∃ a5' n6' c7', sliceV Tryd.prog g4 32 (.slice a0 n0 c0) none (some (.int .i64 x1)) none = some (.slice a5' n6' c7') ∧
  ∃ a8' n9' c10', sliceV Tryd.prog g4 32 (.slice a0 n0 c0) (some (.int .i64 x2)) none none = some (.slice a8' n9' c10') ∧
  ∃ a11' n12' c13' h14', appendV Tryd.prog (g4.grd []) 32 32 (.slice a5' n6' c7') (.slice a8' n9' c10') = some (.slice a11' n12' c13', h14') ∧
  let g15 : Hp := h14'.rst g4
  ∃ a16' n17' c18', sliceV Tryd.prog g15 32 (.slice a11' n12' c13') (some (.int .i64 (Int.ofNat n12'))) (some (.int .i64 (Int.ofNat n0))) none = some (.slice a16' n17' c18') ∧
  ∃ h19', clearV Tryd.prog g15 32 (.slice a16' n17' c18') = some (undef, h19') ∧
  Q (.slice a11' n12' c13') h19')
theorem rk59 {O Q} (a0 n0 c0 x1 x2) {h : Hp} (hO : O 59 [(.slice a0 n0 c0), (.int .i64 x1), (.int .i64 x2)] h = none) (hh : T59 O Q a0 n0 c0 x1 x2 h) : Ret Tryd.prog O 59 [(.slice a0 n0 c0), (.int .i64 x1), (.int .i64 x2)] h Q :=
  .of (c := b59) Tryd.func59 (by kernel_rfl) hO (V_ok (tb := lv59) (cuts := []) 500 (Eq.mp (by kernel_rfl) hh))
/-! sward/sat.needed -/
noncomputable def b97 : Code := (Tryd.f97.body).getD .skip
noncomputable def stk97_0 : List KI := [.code (sub [1, 1, 0, 1, 0] b97), .blk 0, .code (sub [1, 1, 1] b97)]
def lv97 : List (Nat × List Nat) := [(0, [1, 4, 5, 6])]
def I97_0 (O : CallF) (Q : Value → Hp → Prop) (a0 : Option Addr) (n0 : Nat) (c0 : Nat) (g1 : Nat) (fi1 : Array Value) (ca1 : Array Value) (g1s : Nat) (fi1s : Array Value) (ca1s : Array Value) (a5 : Option Addr) (n5 : Nat) (c5 : Nat) (x6 : Int) (h : Hp) : Prop := RKL Tryd.prog O Tryd.f97 stk97_0 28 [1, 4, 5, 6] [(.func (.func g1s) fi1s ca1s), (.slice none 0 0), (.slice a5 n5 c5), (.int .i64 x6)] h Q
def T97 (O : CallF) (Q : Value → Hp → Prop) (a0 : Option Addr) (n0 : Nat) (c0 : Nat) (g1 : Nat) (fi1 : Array Value) (ca1 : Array Value) (h : Hp) : Prop :=
  ∃ a1' n2' c3', ∃ h4', EvC Tryd.prog O 60 [(.slice a0 n0 c0)] h (.slice a1' n2' c3') h4' ∧
  I97_0 O Q a0 n0 c0 g1 fi1 ca1 g1 fi1 ca1 a1' n2' c3' (wrapF .i64 ((Int.ofNat n2') - 1)) h4'
theorem rk97 {O Q} (a0 n0 c0 g1 fi1 ca1) {h : Hp} (hO : O 97 [(.slice a0 n0 c0), (.func (.func g1) fi1 ca1)] h = none) (hh : T97 O Q a0 n0 c0 g1 fi1 ca1 h) : Ret Tryd.prog O 97 [(.slice a0 n0 c0), (.func (.func g1) fi1 ca1)] h Q :=
  .of (c := b97) Tryd.func97 (by kernel_rfl) hO (V_ok (tb := lv97) (cuts := []) 500 (Eq.mp (by kernel_rfl) hh))
def T97_0 (O : CallF) (Q : Value → Hp → Prop) (a0 : Option Addr) (n0 : Nat) (c0 : Nat) (g1 : Nat) (fi1 : Array Value) (ca1 : Array Value) (g1s : Nat) (fi1s : Array Value) (ca1s : Array Value) (a5 : Option Addr) (n5 : Nat) (c5 : Nat) (x6 : Int) (h : Hp) : Prop :=
  vcond (!(ltI x6 0))
  (∃ a101' n102' c103', ∃ h104', EvC Tryd.prog O 60 [(.slice a5 n5 c5)] h (.slice a101' n102' c103') h104' ∧
  ∃ a105' n106' c107', ∃ h108', EvC Tryd.prog O 59 [(.slice a101' n102' c103'), (.int .i64 x6), (.int .i64 (wrapF .i64 (x6 + 1)))] h104' (.slice a105' n106' c107') h108' ∧
  ∃ q109', ∃ h110', EvC Tryd.prog O g1s (fi1s.toList ++ [(.slice a105' n106' c107')] ++ ca1s.toList) h108' (.bool q109') h110' ∧
  vcond q109'
  (I97_0 O Q a0 n0 c0 g1 fi1 ca1 g1s fi1s ca1s a105' n106' c107' (wrapF .i64 (x6 - 1)) h110')
  (I97_0 O Q a0 n0 c0 g1 fi1 ca1 g1s fi1s ca1s a5 n5 c5 (wrapF .i64 (x6 - 1)) h110'))
  (Q (.slice a5 n5 c5) h)
theorem I97_0.of {O Q} (a0 n0 c0 g1 fi1 ca1 g1s fi1s ca1s a5 n5 c5 x6) {h : Hp} (hh : T97_0 O Q a0 n0 c0 g1 fi1 ca1 g1s fi1s ca1s a5 n5 c5 x6 h) : I97_0 O Q a0 n0 c0 g1 fi1 ca1 g1s fi1s ca1s a5 n5 c5 x6 h :=
  RKL.of (tb := lv97) (cuts := []) 500 fun _ => Eq.mp (by kernel_rfl) hh
/-! sward/swardlaw20.SatProves -/
end Go.Proofs.YtfgfhplgnfbaaaaDoor
/- The walk of search: slices.Delete of one, what is needed. -/
namespace Go.Proofs.YtfgfhplgnfbaaaaDoor
open Go Go.Ev
theorem writeAt_some {h : Hp} {o off : Nat} {vs : List Value} (hc : canW h o off vs = true) : writeAt h o off vs = some (h.wr o off vs) := by
  unfold canW at hc; unfold Hp.wr
  cases hw : writeAt h o off vs with
  | none => rw [hw] at hc; cases hc
  | some h' => rfl
theorem seen_g {h : Hp} {o n : Nat} {cs : List Value} (H : h.get o = some (.cells cs 3 .grow)) : Ev.seen h 3 1 (.slice (some ⟨o, 0, none⟩) n unk) = some cs.length := by
  simp only [Ev.seen, Nat.beq_refl, cond_true, H]
  have e5 : Nat.blt 0 1 = true := rfl
  rw [e5]
  show some ((cs.length - 0) / 1) = _
  rw [Nat.sub_zero, Nat.div_one]
theorem sz3 : sz Tryd.prog 3 = some 1 := by kernel_rfl
/-- A part of a list that grows. -/
theorem slice_g {h : Hp} {o n l hh : Nat} {cs : List Value} (H : h.get o = some (.cells cs 3 .grow)) {lo hi : Option Value} (elo : boundL lo hh = some l) (ehi : boundH hi none cs.length n = some hh) :
    sliceV Tryd.prog h 32 (.slice (some ⟨o, 0, none⟩) n unk) lo hi none = some (.slice (some ⟨o, l, none⟩) (hh - l) unk) := by
  have e4 : bounds n cs.length lo hi none = some (l, hh, cs.length) := by
    unfold bounds boundM; simp only [Option.bind_some]; rw [ehi, Option.bind_some, elo]; rfl
  unfold sliceV
  rw [Tryd.underlying32]
  simp only [sz3, bind, Option.bind_some, seen_g H, e4]
  rw [Nat.beq_refl]; simp
theorem slice_m {h : Hp} {o n l hh m : Nat} {cs : List Value} (H : h.get o = some (.cells cs 3 .grow)) {lo hi mx : Option Value} (em : boundM mx cs.length = some m) (hx : ∃ v, mx = some v) (elo : boundL lo hh = some l) (ehi : boundH hi mx m n = some hh) (hm : m < unk) :
    ∃ off, sliceV Tryd.prog h 32 (.slice (some ⟨o, 0, none⟩) n unk) lo hi mx = some (.slice (some ⟨o, off, none⟩) (hh - l) (m - l)) ∧ (l = 0 → off = 0) := by
  obtain ⟨v, rfl⟩ := hx
  have e4 : bounds n cs.length lo hi (some v) = some (l, hh, m) := by
    unfold bounds; rw [em]; simp only [Option.bind_some]; rw [ehi, Option.bind_some, elo]; rfl
  refine ⟨bif Nat.beq m l then 0 else 0 + l * 1, ?_, fun hl => ?_⟩
  · unfold sliceV
    rw [Tryd.underlying32]
    simp only [sz3, bind, Option.bind_some, seen_g H, e4]
    rw [Nat.beq_refl, blt_t hm]; simp
  · subst hl
    cases Nat.beq m 0 <;> rfl
theorem bound_i {k m : Nat} (h : k ≤ m) : boundV (.int .i64 (Int.ofNat k)) m = some k := by
  unfold boundV; simp only; rw [ble_t h]; rfl
/-- What stands behind an address, cell by cell. -/
theorem ints_of_get {h : Hp} {o : Nat} {cs : List Value} {e : TypeId} {m : Md} {xs : List Int} (H : h.get o = some (.cells cs e m)) (ho : o < h.nx) (hl : xs.length ≤ cs.length) (hx : ∀ i (hi : i < xs.length), cs[i]? = some (.int .i64 xs[i])) : IntsAt h (some ⟨o, 0, none⟩) xs.length xs := by
  refine ⟨rfl, .inr ⟨o, 0, _, _, _, rfl, ho, H, by omega, fun i hi => ?_⟩⟩
  show (cs.drop (0 + i * 1)).take 1 = [.int .i64 xs[i]]
  have h1 := hx i hi
  obtain ⟨h2, h3⟩ := List.getElem?_eq_some_iff.1 h1
  rw [Nat.zero_add, Nat.mul_one, List.drop_eq_getElem_cons h2, h3]; rfl
theorem all_one (xs : List Int) : (xs.map (Value.int .i64)).all one = true := by
  rw [List.all_eq_true]; intro v hv; obtain ⟨x, _, rfl⟩ := List.mem_map.1 hv; rfl
section
variable {O : CallF} (hO : Oth O)
include hO
/-- One element is taken out of a list of its own. -/
theorem ct59 {h : Hp} {o i : Nat} {xs : List Int} (H : h.get o = some (.cells (xs.map (Value.int .i64)) 3 .grow)) (ho : o < h.nx) (hg : h.guarded o = false) (hi : i < xs.length) (hl : xs.length < 1000000) :
    Ret Tryd.prog O 59 [.slice (some ⟨o, 0, none⟩) xs.length unk, .int .i64 (Int.ofNat i), .int .i64 (Int.ofNat (i + 1))] h fun v h' => v = .slice (some ⟨o, 0, none⟩) (xs.length - 1) unk ∧ IntsAt h' (some ⟨o, 0, none⟩) (xs.length - 1) (xs.eraseIdx i) ∧ ∀ b, b ≤ o → b ≤ h.nx → Kp b h h' := by
  have hb : big = 4611686018427387904 := rfl
  have hu : unk = 18446744073709551616 := rfl
  refine rk59 _ _ _ _ _ (hO _ _ _ (by decide)) ?_
  unfold T59
  have hcl : (xs.map (Value.int .i64)).length = xs.length := List.length_map ..
  obtain ⟨off, e1, _⟩ := slice_m (n := xs.length) (l := i) (hh := i + 1) H (lo := some (.int .i64 (Int.ofNat i))) (hi := some (.int .i64 (Int.ofNat (i + 1)))) (mx := some (.int .i64 (Int.ofNat xs.length))) (bound_i (Nat.le_of_eq hcl.symm)) ⟨_, rfl⟩ (bound_i (by omega)) (bound_i (by omega)) (by omega)
  refine ⟨_, _, _, e1, vcond_f (eqI_f (by simp only [Int.ofNat_eq_natCast, ne_eq]; omega)) ?_⟩
  intro g4
  have H4 : g4.get o = some (.cells (xs.map (Value.int .i64)) 3 .grow) := H
  refine ⟨_, _, _, slice_g (l := 0) (hh := i) H4 rfl (bound_i (by rw [hcl]; omega)), _, _, _, slice_g (l := i + 1) (hh := xs.length) H4 (bound_i (by omega)) rfl, ?_⟩
  have T := (app32 : AppT Tryd.prog 32 3 1 8)
  obtain ⟨hz, info, z, hi', hzz, hrun⟩ := T.run
  have hrd : readAt (g4.grd []) o (i + 1) ((xs.length - (i + 1)) * 1) = some ((xs.drop (i + 1)).map (Value.int .i64)) := by
    rw [readAt_get (h := g4.grd []) H4 (by rw [hcl]; omega), ← List.map_drop, Nat.mul_one, List.take_of_length_le (by simp)]
  have hk4 : ∀ b, b ≤ o → b ≤ h.nx → Kp b h g4 := fun b _ _ => (Kp.refl _ _).rsv 8
  -- the part behind it is moved forward
  have main : ∃ h', appendV Tryd.prog (g4.grd []) 32 32 (.slice (some ⟨o, 0, none⟩) (i - 0) unk) (.slice (some ⟨o, i + 1, none⟩) (xs.length - (i + 1)) unk) = some (.slice (some ⟨o, 0, none⟩) (xs.length - 1) unk, h') ∧ ∃ cs, h'.get o = some (.cells cs 3 .grow) ∧ cs.length = xs.length ∧ (∀ k (hk : k < (xs.eraseIdx i).length), cs[k]? = some (.int .i64 (xs.eraseIdx i)[k])) ∧ h'.nx = g4.nx ∧ h'.gd = g4.gd ∧ ∀ b, b ≤ o → b ≤ h.nx → Kp b g4 h' := by
    rw [hrun _ _ _ ⟨_, _, _, rfl⟩, src_get hrd]
    simp only [Option.bind_some, show ((xs.drop (i + 1)).map (Value.int .i64)).all one = true from all_one _, cond_true]
    rcases Nat.lt_or_ge (i + 1) xs.length with hlt | hge
    · have hk0 : Nat.beq (xs.length - (i + 1)) 0 = false := by rw [Bool.eq_false_iff]; intro hh; have := Nat.eq_of_beq_eq_true hh; omega
      simp only [hk0, cond_false]
      have hH : (g4.grd []).get o = some (.cells (xs.map (Value.int .i64)) 3 .grow) := H4
      have hcw : canW (g4.grd []) o i ((xs.drop (i + 1)).map (Value.int .i64)) = true := canW_t hH (by decide) hg (by simp; omega) (all_one _)
      have hw := writeAt_some hcw
      refine ⟨(g4.grd []).wr o i ((xs.drop (i + 1)).map (Value.int .i64)), ?_, _, wr_get hH (by decide) hg (by simp; omega) (all_one _), by rw [putAt_length, hcl], fun k hk => ?_, by rw [nx_wr]; rfl, by rw [gd_wr]; rfl, fun b h1 h2 => ((Kp.refl b g4)).wr h1 _ _⟩
      · unfold appSome
        have e5 : Nat.beq unk unk = true := Nat.beq_refl _
        have e6 : Nat.beq 3 3 = true := rfl
        have e7 : Nat.ble (0 + (i - 0 + (xs.length - (i + 1))) * 1) (xs.map (Value.int .i64)).length = true := by rw [hcl]; exact ble_t (by omega)
        simp only [hH, e5, e6, e7, cond_true, isGrow, Bool.and_self]
        rw [show 0 + (i - 0) * 1 = i by omega, hw, show i - 0 + (xs.length - (i + 1)) = xs.length - 1 by omega]; rfl
      · rw [putAt_get _ _ _ (by simp; omega)]
        have hkl : k < xs.length - 1 := by rw [List.length_eraseIdx_of_lt hi] at hk; exact hk
        rw [List.getElem_eraseIdx]
        simp only [List.length_map, List.length_drop]
        by_cases h1 : k < i
        · rw [if_neg (by omega)]
          simp [h1, show k < xs.length by omega]
        · rw [if_pos (by omega)]
          simp [h1, List.getElem?_eq_getElem (show i + 1 + (k - i) < xs.length by omega), show i + 1 + (k - i) = k + 1 by omega]
    · have hin : i + 1 = xs.length := by omega
      have e8 : xs.length - (i + 1) = 0 := by omega
      rw [e8]
      refine ⟨g4.grd [], ?_, _, H4, hcl, fun k hk => ?_, rfl, rfl, fun b _ _ => Kp.refl b g4⟩
      · show (bif Nat.ble (i - 0) unk then _ else _) = _
        rw [ble_t (by omega), show i - 0 = xs.length - 1 by omega]; rfl
      · have hkl : k < xs.length - 1 := by rw [List.length_eraseIdx_of_lt hi] at hk; exact hk
        rw [List.getElem_eraseIdx]
        simp [show k < i by omega, show k < xs.length by omega]
  obtain ⟨h', e9, cs, hcs, hcl2, hcx, hnx, hgd, hk⟩ := main
  refine ⟨_, _, _, _, e9, ?_⟩
  intro g15
  have H15 : g15.get o = some (.cells cs 3 .grow) := hcs
  have hg15 : g15.guarded o = false := hg
  refine ⟨_, _, _, slice_g (l := xs.length - 1) (hh := xs.length) H15 (bound_i (by omega)) (bound_i (by rw [hcl2]; omega)), ?_⟩
  have hcw : canW g15 o (xs.length - 1) [.int .i64 0] = true := canW_t H15 (by decide) hg15 (by simp; omega) rfl
  have e10 : elemT Tryd.prog 32 = some 3 := by kernel_rfl
  have e11 : ((Tryd.prog.info? 3).bind fun info => info.zero) = some (.int .i64 0) := by kernel_rfl
  obtain ⟨info3, e12, e13⟩ := Option.bind_eq_some_iff.1 e11
  refine ⟨g15.wr o (xs.length - 1) [.int .i64 0], ?_, rfl, ?_, fun b h1 h2 => (hk4 b h1 h2).trans (Kp.wr (h' := g15) ⟨(hk b h1 h2).get, (hk b h1 h2).nx, rfl, (hk b h1 h2).fr⟩ h1 _ _)⟩
  · unfold clearV
    simp only [e10, Option.bind_some, e12, e13, show xs.length - (xs.length - 1) = 1 by omega]
    show (bif Nat.beq 1 0 then _ else bif [Value.int .i64 0].all _ then _ else _) = _
    have : Nat.beq 1 0 = false := rfl
    rw [this, cond_false, show ([Value.int .i64 0].all fun v => flat v && one v) = true from rfl, cond_true]
    show (writeAt g15 o (xs.length - 1) [.int .i64 0]).map _ = _
    rw [writeAt_some hcw]; rfl
  · have hel : (xs.eraseIdx i).length = xs.length - 1 := List.length_eraseIdx_of_lt hi
    have := ints_of_get (xs := xs.eraseIdx i) (wr_get H15 (by decide) hg15 (vs := [.int .i64 0]) (off := xs.length - 1) (by simp; omega) rfl) (by rw [nx_wr]; show o < h'.nx; rw [hnx]; show o < h.nx + 8; omega) (by rw [putAt_length]; omega) fun k hk => by
      rw [putAt_get _ _ _ (by simp; omega), if_neg (by omega)]; exact hcx k hk
    rw [hel] at this; exact this
end
/-- What is left of a list, from the last one on, without which a clash remains. -/
def needF (cl : List Int → Bool) : Nat → List Int → List Int
  | 0, out => out
  | i + 1, out => if cl (out.eraseIdx i) = true then needF cl i (out.eraseIdx i) else needF cl i out
def clashN (ss : List (Nat × Nat)) (gs l : List Int) : Bool := !(fromN ss (gs ++ l)).2
section
variable {O : CallF} (hO : Oth O)
include hO
theorem lp97 {b : Nat} {h₀ : Hp} (ok : h₀.Ok) {vars left : Int} {a a1 a2 : Option Addr} {n c n1 c1 n2 c2 : Nat} (hb : h₀.get b = some (.cells (baseC vars a n c a1 n1 c1 left a2 n2 c2) 128 .fix)) (hbn : b < h₀.nx) {ss : List (Nat × Nat)} (H : SidesAt2 h₀ a n ss) (hl : ss.length < 1000000) (hss : ∀ p ∈ ss, p.1 < 2 ^ 30 ∧ p.2 < 2 ^ 30)
    {gs : List Int} (G : IntsAt h₀ a1 n1 gs) (hgl : gs.length < 1000000) (hg : ∀ x ∈ gs, Lit x) {a0 : Option Addr} {n0 c0 : Nat} {r : List Int} :
    ∀ (i : Nat) {out : List Int} {x6 : Int} {h : Hp} {a5 : Option Addr} {n5 c5 : Nat}, x6 = Int.ofNat i - 1 → i ≤ out.length → out.length < 1000000 → (∀ x ∈ out, Lit x) → IntsAt h a5 n5 out → Kp h₀.nx h₀ h → r = needF (clashN ss gs) i out →
      I97_0 O (fun v h' => ∃ a' n' c', v = .slice a' n' c' ∧ IntsAt h' a' n' r ∧ Kp h₀.nx h₀ h') a0 n0 c0 95 #[.pointer (some ⟨b, 0, none⟩)] #[] 95 #[.pointer (some ⟨b, 0, none⟩)] #[] a5 n5 c5 x6 h := by
  intro i
  induction i with
  | zero =>
    intro out x6 h a5 n5 c5 hx _ _ _ X kp hr
    subst hx
    refine I97_0.of (hh := ?_) ..
    unfold T97_0
    exact vcond_f rfl ⟨_, _, _, rfl, by rw [hr]; exact X, kp⟩
  | succ i ih =>
    intro out x6 h a5 n5 c5 hx hi hol hlit X kp hr
    obtain rfl : x6 = Int.ofNat i := by rw [hx]; simp only [Int.ofNat_eq_natCast]; omega
    have okh := ok.kp kp
    have f0 := kp.ex (Nat.le_refl _)
    refine I97_0.of (hh := ?_) ..
    unfold T97_0
    refine vcond_t (by rw [show ltI (Int.ofNat i) 0 = false from rfl]; rfl) ?_
    refine (ct60 hO okh X (by omega)).s fun a3 n3 c3 h3 ⟨A3, K3⟩ => ?_
    have hne : out.map (Value.int .i64) ≠ [] := fun e => by
      have : out.length = 0 := by simpa using congrArg List.length e
      omega
    rcases A3 with (⟨_, _, _, e⟩ | ⟨o, rfl, rfl, q3, q4, q5, q6⟩) | ⟨e, _⟩
    · exact absurd e hne
    · obtain rfl : n3 = out.length := by simpa using q3
      obtain ⟨v, h4, e4, rfl, Y, K4⟩ := ct59 hO (h := h3) (i := i) q6 q5 (GdLt.free (GdLt.kp okh.lt K3) q4) (by omega) hol
      rw [wrap_succ (by omega)]
      have K34 : Kp h.nx h h4 := K3.trans (K4 h.nx q4 K3.nx)
      have kp4 : Kp h₀.nx h₀ h4 := kp.trans (K34.le kp.nx)
      have f4 := kp4.ex (Nat.le_refl _)
      have hl2 : (out.eraseIdx i).length = out.length - 1 := List.length_eraseIdx_of_lt (by omega)
      have hlit2 : ∀ x ∈ out.eraseIdx i, Lit x := fun x hx => hlit x (List.mem_of_mem_eraseIdx hx)
      refine ⟨_, _, _, h4, e4, ?_⟩
      obtain ⟨v, h5, e5, rfl, K5⟩ := ct95 hO (ok.kp kp4) (by rw [kp4.get _ hbn]; exact hb) (Nat.lt_of_lt_of_le hbn kp4.nx) (H.to h4) hl hss (G.to h4) hgl hg Y (cm := unk) (by omega) hlit2
      have kp5 := kp4.trans (K5.le kp4.nx)
      refine ⟨_, h5, e5, ?_⟩
      rw [wrap64 (by simp only [Int.ofNat_eq_natCast]; omega) (by simp only [Int.ofNat_eq_natCast]; omega)]
      have f5 := K5.ex (Nat.le_refl _)
      have f35 : Ft h h5 := Ft.tr (K34.ex (Nat.le_refl _)) f5
      unfold needF at hr
      unfold clashN at hr
      refine vcond_split (fun hc => ?_) fun hc => ?_
      · rw [if_pos hc] at hr
        rw [← hl2] at Y ⊢
        exact ih rfl (by omega) (by omega) hlit2 (Y.to h5) kp5 hr
      · rw [if_neg (by rw [hc]; decide)] at hr
        exact ih rfl (by omega) hol hlit (X.to h5) kp5 hr
    · exact absurd e hne
theorem ct97 {b : Nat} {h : Hp} (ok : h.Ok) {vars left : Int} {a a1 a2 : Option Addr} {n c n1 c1 n2 c2 : Nat} (hb : h.get b = some (.cells (baseC vars a n c a1 n1 c1 left a2 n2 c2) 128 .fix)) (hbn : b < h.nx) {ss : List (Nat × Nat)} (H : SidesAt2 h a n ss) (hl : ss.length < 1000000) (hss : ∀ p ∈ ss, p.1 < 2 ^ 30 ∧ p.2 < 2 ^ 30)
    {gs xs : List Int} (G : IntsAt h a1 n1 gs) (hgl : gs.length < 1000000) (hg : ∀ x ∈ gs, Lit x) {am : Option Addr} {nm cm : Nat} (X : IntsAt h am nm xs) (hxl : xs.length < 1000000) (hx : ∀ x ∈ xs, Lit x) :
    Ret Tryd.prog O 97 [.slice am nm cm, .func (.func 95) #[.pointer (some ⟨b, 0, none⟩)] #[]] h fun v h' => ∃ a' n' c', v = .slice a' n' c' ∧ IntsAt h' a' n' (needF (clashN ss gs) xs.length xs) ∧ Kp h.nx h h' := by
  refine rk97 _ _ _ _ _ _ (hO _ _ _ (by decide)) ?_
  unfold T97
  refine (ct60 hO ok X (by omega)).s fun a3 n3 c3 h3 ⟨A3, K3⟩ => ?_
  have hn3 : n3 = xs.length := (accE_ints A3).1
  exact lp97 hO ok hb hbn H hl hss G hgl hg xs.length (by rw [hn3, wrap64 (by simp only [Int.ofNat_eq_natCast]; omega) (by simp only [Int.ofNat_eq_natCast]; omega)]) (Nat.le_refl _) hxl hx (accE_ints A3) K3 rfl
end
end Go.Proofs.YtfgfhplgnfbaaaaDoor
/- Resolving, its result at a new place. -/
namespace Go.Proofs.YtfgfhplgnfbaaaaDoor
open Go Go.Ev
/-- A list at a new place, and an error. -/
def RPairF (h : Hp) (r : List Int × Int) (v : Value) (h' : Hp) : Prop := ∃ a n c, v = .tuple #[.slice a n c, .int .i64 r.2] ∧ IntsAt h' a n r.1 ∧ Kp h.nx h h' ∧ (∀ b off, a = some ⟨b, off, none⟩ → h.nx ≤ b) ∧ (a = none ∨ 0 < n)
theorem RPairF.none {h h' : Hp} {e : Int} (k : Kp h.nx h h') : RPairF h ([], e) (.tuple #[.slice none 0 0, .int .i64 e]) h' := ⟨_, _, _, rfl, SlAt.nil .., k, (fun _ _ e => by cases e), .inl rfl⟩
end Go.Proofs.YtfgfhplgnfbaaaaDoor
/- The walk of search: the base while it is searched. -/
namespace Go.Proofs.YtfgfhplgnfbaaaaDoor
open Go Go.Ev
/-- It lies neither in the base nor in the list of lines. -/
def Aw (b : Nat) (a2 a : Option Addr) : Prop := ∀ q off, a = some ⟨q, off, none⟩ → q ≠ b ∧ a2 ≠ some ⟨q, 0, none⟩
theorem Aw.none (b : Nat) (a2 : Option Addr) : Aw b a2 none := fun _ _ e => by cases e
/-- The lines: each lies elsewhere. -/
def Ln (b : Nat) (h : Hp) (a : Option Addr) (n c : Nat) (xss : List (List Int)) : Prop :=
  ∃ vs, Acc h (b + 1) 32 1 a n c vs ∧ Lis h vs xss ∧ ∀ v ∈ vs, ∀ a1 n1 c1, v = .slice a1 n1 c1 → Aw b a a1 ∧ (a1 = none ∨ 0 < n1)
/-- From one memory to a later one: the base and the list of lines may change. -/
structure Nx (b : Nat) (a2 : Option Addr) (h : Hp) (a2' : Option Addr) (h' : Hp) : Prop where
  nx : h.nx ≤ h'.nx
  gd : h'.gd = h.gd
  fr : h.Fresh → h'.Fresh
  get : ∀ o, o < h.nx → o ≠ b → a2 ≠ some ⟨o, 0, none⟩ → h'.get o = h.get o
  nw : a2' = a2 ∨ ∀ q off, a2' = some ⟨q, off, none⟩ → h.nx ≤ q
theorem Nx.of {b : Nat} {a2 : Option Addr} {h h' : Hp} (k : Kp h.nx h h') : Nx b a2 h a2 h' := ⟨k.nx, k.gd, k.fr, fun o ho _ _ => k.get o ho, .inl rfl⟩
theorem Nx.refl (b : Nat) (a2 : Option Addr) (h : Hp) : Nx b a2 h a2 h := .of (.refl _ _)
theorem Nx.trans {b : Nat} {a2 a3 a4 : Option Addr} {h h' h'' : Hp} (k : Nx b a2 h a3 h') (l : Nx b a3 h' a4 h'') : Nx b a2 h a4 h'' := by
  refine ⟨Nat.le_trans k.nx l.nx, l.gd.trans k.gd, fun f => l.fr (k.fr f), fun o ho h1 h2 => ?_, ?_⟩
  · rw [l.get o (Nat.lt_of_lt_of_le ho k.nx) h1, k.get o ho h1 h2]
    rcases k.nw with rfl | e
    · exact h2
    · exact fun e2 => by have := e _ _ e2; omega
  · rcases l.nw with rfl | e
    · exact k.nw
    · exact .inr fun q off e2 => Nat.le_trans k.nx (e q off e2)
theorem Nx.aw {b : Nat} {a2 a3 : Option Addr} {h h' : Hp} (k : Nx b a2 h a3 h') {a : Option Addr} (ha : Aw b a2 a) (hn : ∀ q off, a = some ⟨q, off, none⟩ → q < h.nx) : Aw b a3 a := fun q off e => by
  refine ⟨(ha q off e).1, ?_⟩
  rcases k.nw with rfl | e2
  · exact (ha q off e).2
  · exact fun e3 => by have := e2 _ _ e3; have := hn q off e; omega
theorem SlAt.lt {α : Type} {w : Nat} {R : Enc α} {h : Hp} {a : Option Addr} {n : Nat} {xs : List α} (X : SlAt w R h a n xs) : ∀ q off, a = some ⟨q, off, none⟩ → q < h.nx := fun q off e => by
  rcases X.2 with ⟨_, e2⟩ | ⟨b, off', _, _, _, e2, h2, _⟩
  · rw [e2] at e; cases e
  · rw [e2] at e; injection e with e; injection e with e; omega
/-- What lies elsewhere stays. -/
theorem Nx.sl {α : Type} {w : Nat} {R : Enc α} {b : Nat} {a2 a3 : Option Addr} {h h' : Hp} (k : Nx b a2 h a3 h') (hR : ∀ x vs, R h x vs → R h' x vs) {a : Option Addr} {n : Nat} {xs : List α} (X : SlAt w R h a n xs) (ha : Aw b a2 a) : SlAt w R h' a n xs :=
  X.keep (fun q off e => k.get q (SlAt.lt X q off e) (ha q off e).1 (ha q off e).2) k.nx hR
theorem Nx.ints {b : Nat} {a2 a3 : Option Addr} {h h' : Hp} (k : Nx b a2 h a3 h') {a : Option Addr} {n : Nat} {xs : List Int} (X : IntsAt h a n xs) (ha : Aw b a2 a) : IntsAt h' a n xs := k.sl (fun _ _ h => h) X ha
/-- A base while it is searched. -/
structure Bs (b : Nat) (vars : Int) (a : Option Addr) (n c : Nat) (a1 : Option Addr) (n1 c1 : Nat) (ss : List (Nat × Nat)) (gs : List Int) (left : Int) (lines : List (List Int)) (a2 : Option Addr) (n2 c2 : Nat) (h : Hp) : Prop where
  ok : h.Ok
  tb : Tb h
  bn : b < h.nx
  get : h.get b = some (.cells (baseC vars a n c a1 n1 c1 left a2 n2 c2) 128 .fix)
  S : SidesAt2 h a n ss
  Sa : Aw b a2 a
  G : IntsAt h a1 n1 gs
  Ga : Aw b a2 a1
  L : Ln b h a2 n2 c2 lines
  ug : ∀ q ∈ h.gd, q ≠ b ∧ a2 ≠ some ⟨q, 0, none⟩
section
variable {b : Nat} {vars : Int} {a : Option Addr} {n c : Nat} {a1 : Option Addr} {n1 c1 : Nat} {ss : List (Nat × Nat)} {gs : List Int} {left : Int} {lines : List (List Int)} {a2 : Option Addr} {n2 c2 : Nat} {h h' : Hp}
theorem Ln.lt (L : Ln b h a2 n2 c2 lines) : ∀ q, a2 = some ⟨q, 0, none⟩ → b < q ∧ q < h.nx := fun q e => let ⟨_, A, _, _⟩ := L; A.lt e
theorem Bs.ub (B : Bs b vars a n c a1 n1 c1 ss gs left lines a2 n2 c2 h) : h.guarded b = false := guarded_of fun q hq => (B.ug q hq).1
theorem Bs.ul (B : Bs b vars a n c a1 n1 c1 ss gs left lines a2 n2 c2 h) : ∀ q, a2 = some ⟨q, 0, none⟩ → h.guarded q = false := fun q e => guarded_of fun p hp e2 => (B.ug p hp).2 (by rw [e2]; exact e)
theorem Bs.tb0 (B : Bs b vars a n c a1 n1 c1 ss gs left lines a2 n2 c2 h) : 0 ≠ b ∧ a2 ≠ some ⟨0, 0, none⟩ := by
  refine ⟨fun e => ?_, fun e => ?_⟩
  · have := B.tb.2; rw [e, B.get] at this; injection this with this; injection this with _ _ this; cases this
  · have := (B.L.lt 0 e).1; omega
/-- Something else is laid. -/
theorem Bs.kp (B : Bs b vars a n c a1 n1 c1 ss gs left lines a2 n2 c2 h) (k : Kp h.nx h h') : Bs b vars a n c a1 n1 c1 ss gs left lines a2 n2 c2 h' := by
  obtain ⟨vs, A, L, V⟩ := B.L
  exact ⟨B.ok.kp k, B.tb.kp k B.tb.1, Nat.lt_of_lt_of_le B.bn k.nx, by rw [k.get _ B.bn]; exact B.get, B.S.up (ECells.up uu) k, B.Sa, B.G.up EInt.up k, B.Ga, ⟨vs, A.keep (fun o ho _ => k.get o ho) k.nx, L.up k, V⟩, fun q hq => B.ug q (by rw [← k.gd]; exact hq)⟩
theorem Bs.grd (B : Bs b vars a n c a1 n1 c1 ss gs left lines a2 n2 c2 h) {l : List Nat} (hl : ∀ q ∈ l, q < h.nx ∧ q ≠ b ∧ a2 ≠ some ⟨q, 0, none⟩) : Bs b vars a n c a1 n1 c1 ss gs left lines a2 n2 c2 (h.grd l) := by
  obtain ⟨vs, A, L, V⟩ := B.L
  refine ⟨⟨fun q hq => ?_, B.ok.fr⟩, B.tb, B.bn, B.get, B.S.keep (fun _ _ _ => rfl) (Nat.le_refl _) fun _ _ h => h, B.Sa, B.G.keep (fun _ _ _ => rfl) (Nat.le_refl _) fun _ _ h => h, B.Ga, ⟨vs, A.keep (fun _ _ _ => rfl) (Nat.le_refl _), L, V⟩, fun q hq => ?_⟩
  · rcases List.mem_append.1 hq with hq | hq
    · exact (hl q hq).1
    · exact B.ok.gd q hq
  · rcases List.mem_append.1 hq with hq | hq
    · exact (hl q hq).2
    · exact B.ug q hq
theorem Nx.rst {a3 : Option Addr} {l : List Nat} (k : Nx b a2 (h.grd l) a3 h') : Nx b a2 h a3 (h'.rst h) := ⟨k.nx, rfl, k.fr, k.get, k.nw⟩
theorem Bs.rst {left0 left' : Int} {lines0 lines' : List (List Int)} {a3 : Option Addr} {n3 c3 : Nat} (B0 : Bs b vars a n c a1 n1 c1 ss gs left0 lines0 a2 n2 c2 h) (B : Bs b vars a n c a1 n1 c1 ss gs left' lines' a3 n3 c3 h') {l : List Nat} (k : Nx b a2 (h.grd l) a3 h') : Bs b vars a n c a1 n1 c1 ss gs left' lines' a3 n3 c3 (h'.rst h) := by
  obtain ⟨vs, A, L, V⟩ := B.L
  refine ⟨⟨fun q hq => Nat.lt_of_lt_of_le (B0.ok.gd q hq) k.nx, B.ok.fr⟩, B.tb, B.bn, B.get, B.S.keep (fun _ _ _ => rfl) (Nat.le_refl _) fun _ _ h => h, B.Sa, B.G.keep (fun _ _ _ => rfl) (Nat.le_refl _) fun _ _ h => h, B.Ga, ⟨vs, A.keep (fun _ _ _ => rfl) (Nat.le_refl _), L, V⟩, fun q hq => ⟨(B0.ug q hq).1, ?_⟩⟩
  rcases k.nw with rfl | e
  · exact (B0.ug q hq).2
  · exact fun e2 => by have := e _ _ e2; have := B0.ok.gd q hq; have : (h.grd l).nx = h.nx := rfl; omega
/-- Nodes are counted down. -/
theorem Bs.count (B : Bs b vars a n c a1 n1 c1 ss gs left lines a2 n2 c2 h) (l' : Int) : canW h b (0 + 3) [.int .i64 l'] = true ∧ Bs b vars a n c a1 n1 c1 ss gs l' lines a2 n2 c2 (h.wr b (0 + 3) [.int .i64 l']) ∧ Nx b a2 h a2 (h.wr b (0 + 3) [.int .i64 l']) := by
  have gw := wr_get B.get (by decide) B.ub (off := 0 + 3) (vs := [.int .i64 l']) (by simp [baseC]) rfl
  have ne : ∀ q, q ≠ b → (h.wr b (0 + 3) [.int .i64 l']).get q = h.get q := fun q hq => wr_get_ne _ _ _ _ hq
  have nx : (h.wr b (0 + 3) [.int .i64 l']).nx = h.nx := nx_wr ..
  have gd : (h.wr b (0 + 3) [.int .i64 l']).gd = h.gd := gd_wr ..
  have K : Nx b a2 h a2 (h.wr b (0 + 3) [.int .i64 l']) := ⟨Nat.le_of_eq nx.symm, gd, fun f => f.wr _ _ _, fun q _ hq _ => ne q hq, .inl rfl⟩
  obtain ⟨vs, A, L, V⟩ := B.L
  refine ⟨canW_t B.get (by decide) B.ub (by simp [baseC]) rfl, ⟨⟨fun q hq => by rw [gd] at hq; rw [nx]; exact B.ok.gd q hq, B.ok.fr.wr _ _ _⟩, ⟨by rw [nx]; exact B.tb.1, by rw [ne _ B.tb0.1]; exact B.tb.2⟩, by rw [nx]; exact B.bn, gw, K.sl (fun _ _ h => h) B.S B.Sa, B.Sa, K.ints B.G B.Ga, B.Ga, ⟨vs, A.keep (fun o _ e => ne o (by have := (A.lt e).1; omega)) (Nat.le_of_eq nx.symm), ⟨L.1, fun i hi => ?_⟩, V⟩, fun q hq => B.ug q (by rw [← gd]; exact hq)⟩, K⟩
  obtain ⟨v, hv, a', n', c', e, X⟩ := L.2 i hi
  exact ⟨v, hv, a', n', c', e, K.ints X (V v (List.mem_of_getElem? hv) a' n' c' (by simpa using e)).1⟩
/-- One list is appended: what is guarded must not be the list. -/
theorem append_f {P : Program} {sT e : TypeId} {bytes : Nat} (T : AppT P sT e 1 bytes) {h : Hp} {base : Nat} {a : Option Addr} {n c : Nat} {xs : List Value} (H : Acc h base e 1 a n c xs) (hb : base ≤ h.nx) (hg : ∀ q, a = some ⟨q, 0, none⟩ → h.guarded q = false)
    {x y : Value} (hx : ∃ a n c, x = .slice a n c) (hs : srcCells h 1 x = some ([y], 1)) (h1 : one y = true) (hB : (n + 1 + (n + 1)) * bytes ≤ 281474976710656) (hU : n + 1 < big) :
    ∃ h', appendV P h sT sT (.slice a n c) x = some (.slice (some ⟨h.nx, 0, none⟩) (n + 1) unk, h') ∧ Acc h' base e 1 (some ⟨h.nx, 0, none⟩) (n + 1) unk (xs ++ [y]) ∧ AppK h h' a := by
  obtain ⟨hz, info, z, hi, hzz, hrun⟩ := T.run
  rw [hrun h _ x hx, hs]
  simp only [Option.bind_some, List.all_cons, List.all_nil, h1, Bool.and_true, cond_true, show Nat.beq 1 0 = false from rfl, cond_false]
  have new : ∀ m old, m = n + 1 → appNew h e bytes old [y] m = some (.slice (some ⟨h.nx, 0, none⟩) m unk, h.add (.cells (old ++ [y]) e .grow)) := by
    rintro m old rfl
    unfold appNew
    rw [ble_t hB, blt_t hU]; rfl
  rcases H with ⟨rfl, rfl, rfl, rfl⟩ | ⟨o, rfl, rfl, h3, h4, h5, h6⟩
  · exact ⟨_, new 1 [] (by omega), .inr ⟨h.nx, rfl, rfl, by simp, hb, by rw [nx_add]; omega, get_add_same ..⟩, ⟨by rw [nx_add]; omega, rfl, fun f => f.add _, fun q hq _ => get_add_ne (by omega)⟩⟩
  · have hcap : Nat.beq unk unk = true := Nat.beq_refl _
    have hee : Nat.beq e e = true := Nat.beq_refl _
    have e1 : appSome h e bytes 1 (.slice (some ⟨o, 0, none⟩) n unk) [y] 1 = ((appNew h e bytes (xs.drop 0) [y] (n + 1)).bind fun r => (r.2.put o none).map fun h' => (r.1, h')) := by
      unfold appSome
      have : Nat.ble (0 + (n + 1) * 1) xs.length = false := by
        rw [Bool.eq_false_iff]; intro hh
        have hh : 0 + (n + 1) * 1 ≤ xs.length := by simpa using hh
        omega
      simp only [h6, hcap, hee, cond_true, isGrow, Bool.and_self, this, cond_false]
      rw [show Nat.beq (0 + n * 1) xs.length = true by rw [Nat.beq_eq]; omega]; rfl
    rw [e1, new _ _ rfl, Option.bind_some]
    have gf : (h.add (.cells (xs.drop 0 ++ [y]) e .grow)).guarded o = false := hg o rfl
    have hput : ∃ h', (h.add (.cells (xs.drop 0 ++ [y]) e .grow)).put o none = some h' := by
      unfold Hp.put; rw [gf]; exact ⟨_, rfl⟩
    obtain ⟨h', hp⟩ := hput
    obtain ⟨p1, p2, p3, p4⟩ := Hp.get_put hp
    have p4 : ∀ q, h'.get q = if q = o then none else (h.add (.cells (xs.drop 0 ++ [y]) e .grow)).get q := p4
    simp only [hp, Option.map_some]
    refine ⟨h', rfl, .inr ⟨h.nx, rfl, rfl, by simp; omega, hb, by rw [p1, nx_add]; omega, ?_⟩, ⟨by rw [p1, nx_add]; omega, p2, fun f q hq => ?_, fun q hq hne => ?_⟩⟩
    · rw [p4, if_neg (by omega), get_add_same]; simp
    · rw [p1] at hq
      rw [p4]
      split
      · rfl
      · exact (f.add _) q hq
    · rw [p4, if_neg (fun hh => hne (by rw [hh])), get_add_ne (by omega)]
/-- A line more: what is laid, and what is written into the base. -/
theorem Bs.line (B : Bs b vars a n c a1 n1 c1 ss gs left lines a2 n2 c2 h) (hl : lines.length < 1000000) {ac : Option Addr} {nc cc : Nat} {cl : List Int} (X : IntsAt h ac nc cl) (ha : Aw b a2 ac) (hne : ac = none ∨ 0 < nc) :
    ∃ h1, appendV Tryd.prog (h.add (.cells [.slice ac nc cc] 32 .fix)) 28 28 (.slice a2 n2 c2) (.slice (some ⟨h.nx, 0, none⟩) 1 1) = some (.slice (some ⟨h.nx + 1, 0, none⟩) (n2 + 1) unk, h1) ∧ canW h1 b (0 + 4) [.slice (some ⟨h.nx + 1, 0, none⟩) (n2 + 1) unk] = true ∧
      (let h' := h1.wr b (0 + 4) [.slice (some ⟨h.nx + 1, 0, none⟩) (n2 + 1) unk]; Bs b vars a n c a1 n1 c1 ss gs left (lines ++ [cl]) (some ⟨h.nx + 1, 0, none⟩) (n2 + 1) unk h' ∧ Nx b a2 h (some ⟨h.nx + 1, 0, none⟩) h' ∧ IntsAt h' ac nc cl ∧ Aw b (some ⟨h.nx + 1, 0, none⟩) ac) := by
  obtain ⟨vs, A, L, V⟩ := B.L
  have hn2 : n2 = lines.length := by
    have := L.1
    rcases A with ⟨_, h1, _, h4⟩ | ⟨_, _, _, h3, _⟩
    · rw [h4] at this; rw [h1]; exact this
    · omega
  have hb := B.bn
  have k0 : Kp h.nx h (h.add (.cells [.slice ac nc cc] 32 .fix)) := (Kp.refl _ _).add (Nat.le_refl _) _
  have B1 := B.kp k0
  have A1 : Acc (h.add (.cells [.slice ac nc cc] 32 .fix)) (b + 1) 32 1 a2 n2 c2 vs := A.keep (fun o ho _ => k0.get o ho) k0.nx
  have hnx1 : (h.add (.cells [.slice ac nc cc] 32 .fix)).nx = h.nx + 1 := nx_add ..
  obtain ⟨h1, e1, A2, K⟩ := append_f app28 A1 (by rw [hnx1]; omega) B1.ul ⟨_, _, _, rfl⟩ (src_get (n := 1) (c := 1) (esz := 1) (off := 0) (read1 (i := 0) (v := .slice ac nc cc) (get_add_same ..) rfl)) rfl (by omega) (by unfold big; omega)
  rw [hnx1] at e1 A2
  have hbk : h1.get b = some (.cells (baseC vars a n c a1 n1 c1 left a2 n2 c2) 128 .fix) := by
    rw [K.get b (by rw [hnx1]; omega) (fun e => by have := (B.L.lt b e).1; omega)]; exact B1.get
  have gd1 : h1.gd = h.gd := K.gd
  have ub1 : h1.guarded b = false := by have := B.ub; unfold Hp.guarded at *; rw [gd1]; exact this
  have hnx : h.nx + 1 < h1.nx := by
    rcases A2 with ⟨e, _⟩ | ⟨o, e, _, _, _, h5, _⟩
    · cases e
    · injection e with e; injection e with e; omega
  have gw := wr_get hbk (by decide) ub1 (off := 0 + 4) (vs := [.slice (some ⟨h.nx + 1, 0, none⟩) (n2 + 1) unk]) (by simp [baseC]) rfl
  refine ⟨h1, e1, canW_t hbk (by decide) ub1 (by simp [baseC]) rfl, ?_⟩
  intro h'
  have nx : h'.nx = h1.nx := nx_wr ..
  have gd : h'.gd = h1.gd := gd_wr ..
  have ne : ∀ q, q ≠ b → h'.get q = h1.get q := fun q hq => wr_get_ne _ _ _ _ hq
  have N : Nx b a2 h (some ⟨h.nx + 1, 0, none⟩) h' := by
    refine ⟨by rw [nx]; omega, by rw [gd, gd1], fun f => ((K.fr (f.add _))).wr _ _ _, fun q hq h1 h2 => ?_, .inr fun q off e => by injection e with e; injection e with e; omega⟩
    rw [ne q h1, K.get q (by rw [hnx1]; omega) h2, get_add_ne (by omega)]
  have aw : ∀ {x : Option Addr}, Aw b a2 x → (∀ q off, x = some ⟨q, off, none⟩ → q < h.nx) → Aw b (some ⟨h.nx + 1, 0, none⟩) x := fun ha hn => N.aw ha hn
  have fr : h'.Fresh := N.fr B.ok.fr
  have n2' : h1.get (h.nx + 1) = some (.cells (vs ++ [.slice ac nc cc]) 32 .grow) := by
    rcases A2 with ⟨e, _⟩ | ⟨o, e, _, _, _, h5, h6⟩
    · cases e
    · have e8 : h.nx + 1 = o := congrArg Addr.block (Option.some.inj e)
      rw [e8]
      exact h6
  have Xh : IntsAt h' ac nc cl := N.ints X ha
  refine ⟨⟨⟨fun q hq => by rw [gd, gd1] at hq; have := B.ok.gd q hq; rw [nx]; omega, fr⟩, ⟨by rw [nx]; omega, by rw [N.get 0 B.tb.1 B.tb0.1 B.tb0.2]; exact B.tb.2⟩, by rw [nx]; omega, gw, N.sl (fun _ _ h => h) B.S B.Sa, aw B.Sa (SlAt.lt B.S), N.ints B.G B.Ga, aw B.Ga (SlAt.lt B.G), ⟨vs ++ [.slice ac nc cc], .inr ⟨h.nx + 1, rfl, rfl, ?_, by omega, by rw [nx]; exact hnx, by rw [ne _ (by omega)]; exact n2'⟩, ?_, ?_⟩, fun q hq => ?_⟩, N, Xh, aw ha (SlAt.lt X)⟩
  · rcases A2 with ⟨e, _⟩ | ⟨o, e, _, h3, _⟩
    · cases e
    · exact h3
  · refine Lis.app ⟨L.1, fun i hi => ?_⟩ ⟨rfl, fun i hi => ?_⟩
    · obtain ⟨v, hv, a', n', c', e, X'⟩ := L.2 i hi
      exact ⟨v, hv, a', n', c', e, N.ints X' (V v (List.mem_of_getElem? hv) a' n' c' (by simpa using e)).1⟩
    · obtain rfl : i = 0 := by simp at hi; exact hi
      exact ⟨_, rfl, ac, nc, cc, rfl, Xh⟩
  · intro v hv a' n' c' e
    rcases List.mem_append.1 hv with hv | hv
    · obtain ⟨i, hi, rfl⟩ := List.getElem_of_mem hv
      obtain ⟨v', hv', a'', n'', c'', e', X'⟩ := L.2 i (by rw [← L.1]; exact hi)
      have e3 := V _ hv _ _ _ e
      have e4 : vs[i] = v' := Option.some.inj ((List.getElem?_eq_getElem hi).symm.trans hv')
      injection e' with e' _
      have e5 : Value.slice a' n' c' = .slice a'' n'' c'' := by rw [← e, ← e', e4]
      injection e5 with e5 _ _
      subst e5
      exact ⟨aw e3.1 (SlAt.lt X'), e3.2⟩
    · rw [List.mem_singleton] at hv
      rw [hv] at e; injection e with e e9 _; subst e e9
      exact ⟨aw ha (SlAt.lt X), hne⟩
  · rw [gd, gd1] at hq
    exact ⟨(B.ug q hq).1, fun e => by injection e with e; injection e with e; have := B.ok.gd q hq; omega⟩
end
end Go.Proofs.YtfgfhplgnfbaaaaDoor
/- The walk of search: what it computes; a line more; a decision more; how it returns. -/
namespace Go.Proofs.YtfgfhplgnfbaaaaDoor
open Go Go.Ev
theorem spreadF_lt {ss : List (Nat × Nat)} (hs : ∀ c ∈ ss, c.1 < 2 ^ 30 ∧ c.2 < 2 ^ 30) : ∀ (d : Nat) {y m : Nat}, y < 2 ^ 30 → m < 2 ^ 30 → (spreadF ss d y m).1.1 < 2 ^ 30 ∧ (spreadF ss d y m).1.2 < 2 ^ 30 := by
  intro d
  induction d with
  | zero => intro y m hy hm; exact ⟨hy, hm⟩
  | succ d ih =>
    intro y m hy hm
    unfold spreadF
    split
    · exact ⟨hy, hm⟩
    · exact ⟨hy, hm⟩
    · rename_i p e
      have := stepS_free hy hm hs e
      exact ih this.2.1 this.2.2
theorem layN_lt2 : ∀ {xs : List Int}, (∀ x ∈ xs, Lit x) → ∀ {y m : Nat}, y < 2 ^ 30 → m < 2 ^ 30 → (layN xs y m).1.1 < 2 ^ 30 ∧ (layN xs y m).1.2 < 2 ^ 30 := by
  intro xs
  induction xs with
  | nil => intro _ y m hy hm; exact ⟨hy, hm⟩
  | cons x xs ih =>
    intro hx y m hy hm
    have h1 := withN_lt (hx x (by simp)) hy hm
    unfold layN
    split
    · exact ih (fun x h => hx x (List.mem_cons_of_mem _ h)) h1.1 h1.2
    · exact h1
theorem fromN_lt {ss : List (Nat × Nat)} (hs : ∀ c ∈ ss, c.1 < 2 ^ 30 ∧ c.2 < 2 ^ 30) {xs : List Int} (hx : ∀ x ∈ xs, Lit x) : (fromN ss xs).1.1 < 2 ^ 30 ∧ (fromN ss xs).1.2 < 2 ^ 30 := by
  have h1 := layN_lt2 hx (y := 0) (m := 0) (by decide) (by decide)
  unfold fromN fromR
  split
  · exact spreadF_lt hs 31 h1.1 h1.2
  · exact h1
/-- The lowest digit. -/
def lowF (u : Nat) : Nat := (digits 30 u).head?.getD 0
/-- The variables that are open. -/
def freeM (n y m : Nat) : Nat := (2 ^ n - 1) - ((2 ^ n - 1) &&& (y ||| m))
/-- How a search ends: truths, a clause, the end, nodes left, lines. -/
structure Sr where
  y : Nat
  m : Nat
  c : List Int
  how : Int
  left : Nat
  lines : List (List Int)
end Go.Proofs.YtfgfhplgnfbaaaaDoor
/- The walk of search: one of the two branches. -/
namespace Go.Proofs.YtfgfhplgnfbaaaaDoor
open Go Go.Ev
theorem needF_sub (cl : List Int → Bool) : ∀ (i : Nat) (out : List Int), (needF cl i out).Sublist out := by
  intro i
  induction i with
  | zero => intro out; exact List.Sublist.refl _
  | succ i ih =>
    intro out
    unfold needF
    split
    · exact (ih _).trans (List.eraseIdx_sublist ..)
    · exact ih _
/-- Decisions that are proper. -/
structure Dec (N : Nat) (ss : List (Nat × Nat)) (gs : List Int) (Dc : List Int → Prop) : Prop where
  ok : ∀ ds, Dc ds → ds.length ≤ N ∧ (∀ x ∈ ds, Lit x) ∧ Dif ds
  more : ∀ ds, Dc ds → (fromN ss (gs ++ ds)).2 = true → freeM N (fromN ss (gs ++ ds)).1.1 (fromN ss (gs ++ ds)).1.2 ≠ 0 → Dc (ds ++ [-(Int.ofNat (lowF (freeM N (fromN ss (gs ++ ds)).1.1 (fromN ss (gs ++ ds)).1.2) + 1))]) ∧ Dc (ds ++ [Int.ofNat (lowF (freeM N (fromN ss (gs ++ ds)).1.1 (fromN ss (gs ++ ds)).1.2) + 1)])
section
variable {b : Nat} {vars : Int} {a : Option Addr} {n c : Nat} {a1 : Option Addr} {n1 c1 : Nat} {ss : List (Nat × Nat)} {gs : List Int} {left left' : Int} {lines lines' : List (List Int)} {a2 a3 : Option Addr} {n2 c2 n3 c3 : Nat} {h g g' : Hp}
/-- A list of slices goes: lists of numbers stay. -/
theorem ints_app {ab : Option Addr} {e : TypeId} (k : AppK g g' ab) (hab : ∀ o, ab = some ⟨o, 0, none⟩ → ∃ vs, g.get o = some (.cells vs e .grow) ∧ ∀ v ∈ vs, ∃ a n c, v = Value.slice a n c) {ac : Option Addr} {nc : Nat} {cl : List Int} (X : IntsAt g ac nc cl) (hne : ac = none ∨ 0 < nc) : IntsAt g' ac nc cl := by
  refine ⟨X.1, X.2.imp id ?_⟩
  rintro ⟨q, off, cs, e, m, h1, h2, h3, h4, h5⟩
  refine ⟨q, off, cs, e, m, h1, Nat.lt_of_lt_of_le h2 k.nx, ?_, h4, h5⟩
  by_cases hq : ab = some ⟨q, 0, none⟩
  · exfalso
    obtain ⟨vs, hg, hv⟩ := hab q hq
    rw [h3] at hg; injection hg with hg; injection hg with hg _ _; subst hg
    have hn : 0 < nc := by
      rcases hne with hne | hne
      · rw [hne] at h1; cases h1
      · exact hne
    have hx := X.1
    have h6 : (cs.drop (off + 0 * 1)).take 1 = [.int .i64 cl[0]] := h5 0 (by omega)
    rw [Nat.zero_mul, Nat.add_zero] at h6
    have h7 : cs[off]? = some (.int .i64 cl[0]) := by
      have : ((cs.drop off).take 1)[0]? = some (.int .i64 cl[0]) := by rw [h6]; rfl
      simpa using this
    obtain ⟨_, _, _, e9⟩ := hv _ (List.mem_of_getElem? h7)
    cases e9
  · rw [k.get q h2 hq]; exact h3
theorem Bs.app (B0 : Bs b vars a n c a1 n1 c1 ss gs left lines a2 n2 c2 h) (B : Bs b vars a n c a1 n1 c1 ss gs left' lines' a3 n3 c3 g) (N : Nx b a2 h a3 g) {ab : Option Addr} {e : TypeId} (k : AppK g g' ab)
    (hn : ∀ o, ab = some ⟨o, 0, none⟩ → h.nx ≤ o) (ha : Aw b a3 ab) (hab : ∀ o, ab = some ⟨o, 0, none⟩ → ∃ vs, g.get o = some (.cells vs e .grow) ∧ ∀ v ∈ vs, ∃ a n c, v = Value.slice a n c) :
    Bs b vars a n c a1 n1 c1 ss gs left' lines' a3 n3 c3 g' ∧ Nx b a2 h a3 g' := by
  have old : ∀ q, q < h.nx → g'.get q = g.get q := fun q hq => k.get q (Nat.lt_of_lt_of_le hq N.nx) fun e => by have := hn q e; omega
  obtain ⟨vs, A, L, V⟩ := B.L
  refine ⟨⟨⟨fun q hq => by rw [k.gd] at hq; exact Nat.lt_of_lt_of_le (B.ok.gd q hq) k.nx, k.fr B.ok.fr⟩, ⟨Nat.lt_of_lt_of_le B.tb.1 k.nx, by rw [old 0 B0.tb.1]; exact B.tb.2⟩, Nat.lt_of_lt_of_le B.bn k.nx, by rw [old b B0.bn]; exact B.get, B.S.keep (fun q off e => old q (SlAt.lt B0.S q off e)) k.nx fun _ _ h => h, B.Sa, B.G.keep (fun q off e => old q (SlAt.lt B0.G q off e)) k.nx fun _ _ h => h, B.Ga, ⟨vs, A.keep (fun o ho e => k.get o ho fun e2 => (ha o 0 e2).2 e) k.nx, ⟨L.1, fun i hi => ?_⟩, V⟩, fun q hq => B.ug q (by rw [← k.gd]; exact hq)⟩, ⟨Nat.le_trans N.nx k.nx, k.gd.trans N.gd, fun f => k.fr (N.fr f), fun o ho h1 h2 => by rw [old o ho]; exact N.get o ho h1 h2, N.nw⟩⟩
  obtain ⟨v, hv, a', n', c', e, X'⟩ := L.2 i hi
  exact ⟨v, hv, a', n', c', e, ints_app k hab X' (V v (List.mem_of_getElem? hv) a' n' c' (by simpa using e)).2⟩
end
end Go.Proofs.YtfgfhplgnfbaaaaDoor
/- The walk of search: a node. -/
namespace Go.Proofs.YtfgfhplgnfbaaaaDoor
open Go Go.Ev
end Go.Proofs.YtfgfhplgnfbaaaaDoor
/- The walks of solve, Model, Prove. -/
namespace Go.Proofs.YtfgfhplgnfbaaaaDoor
open Go Go.Ev
end Go.Proofs.YtfgfhplgnfbaaaaDoor
/- Contracts of layer 20: formulas by numbers. -/
namespace Go.Proofs.YtfgfhplgnfbaaaaDoor
open Go Go.Ev
/-- The literals of a clause by numbers, from one on. -/
def rst3 (N a b c : Int) : Nat → List Int
  | 0 => litP a N :: litP b N :: (if c < 0 then [] else [litP c N])
  | 1 => litP b N :: (if c < 0 then [] else [litP c N])
  | 2 => if c < 0 then [] else [litP c N]
  | _ => []
/-- The clauses of a formula by numbers. -/
def clsN (N : Int) (cl : List Int) : Nat → List (List Int)
  | 0 => []
  | k + 1 => clsN N cl k ++ [clauseN (rst3 N (cl.getD (3 * k) 0) (cl.getD (3 * k + 1) 0) (cl.getD (3 * k + 2) 0) 0)]
/-- A puzzle's cells. -/
def puzV (vars many : Nat) (cl : List Int) : List Value := .int .u8 (Int.ofNat vars) :: .int .u8 (Int.ofNat many) :: cl.map (Value.int .i8)
structure PuzOk (vars many : Nat) (cl : List Int) : Prop where
  v : vars < 256
  m : many < 256
  len : cl.length = 42
  rng : ∀ x ∈ cl, -128 ≤ x ∧ x < 128
theorem PuzOk.at {vars many : Nat} {cl : List Int} (p : PuzOk vars many cl) (k : Nat) : -128 ≤ cl.getD k 0 ∧ cl.getD k 0 < 128 := by
  rw [List.getD_eq_getElem?_getD]
  by_cases hk : k < cl.length
  · rw [List.getElem?_eq_getElem hk]; exact p.rng _ (List.getElem_mem hk)
  · rw [List.getElem?_eq_none (by omega)]; exact ⟨by decide, by decide⟩
theorem rst3_lit {N a b c : Int} (hN : 1 ≤ N ∧ N ≤ 30) (ha : -128 ≤ a ∧ a < 128) (hb : -128 ≤ b ∧ b < 128) (hc : -128 ≤ c ∧ c < 128) (k : Nat) : ∀ x ∈ rst3 N a b c k, Lit x ∧ x.natAbs ≤ N.toNat := by
  have la := litP_ok ha.1 ha.2 hN.1 hN.2
  have lb := litP_ok hb.1 hb.2 hN.1 hN.2
  have lc := litP_ok hc.1 hc.2 hN.1 hN.2
  have t : ∀ x ∈ (if c < 0 then [] else [litP c N]), Lit x ∧ x.natAbs ≤ N.toNat := by
    intro x hx
    split at hx
    · cases hx
    · rw [List.mem_singleton.1 hx]; exact lc
  intro x hx
  match k with
  | 0 =>
    rcases List.mem_cons.1 hx with rfl | hx
    · exact la
    · rcases List.mem_cons.1 hx with rfl | hx
      · exact lb
      · exact t x hx
  | 1 =>
    rcases List.mem_cons.1 hx with rfl | hx
    · exact lb
    · exact t x hx
  | 2 => exact t x hx
  | _ + 3 => cases hx
theorem rst3_len (N a b c : Int) : (rst3 N a b c 0).length ≤ 3 := by
  show (litP a N :: litP b N :: (if c < 0 then [] else [litP c N])).length ≤ 3
  split <;> simp
section
variable {O : CallF} (hO : Oth O)
include hO
theorem lp16_1 {h₀ hI : Hp} (ok : h₀.Ok) (kI : Kp h₀.nx h₀ hI) {v0 : Array Value} {x1 : Int} {b4 f4 b5 : Nat} {aC : Option Addr} {nC cC : Nat} {N : Int} (hN : 1 ≤ N ∧ N ≤ 30) (g5 : hI.get b5 = some (.cells [.int .i64 N, .slice aC nC cC] 30 .fix)) (hb5 : h₀.nx ≤ b5 ∧ b5 < hI.nx) {B : Nat} (hB : b5 < B ∧ B ≤ hI.nx) {cls : List (List Int)} (A : LL h₀.nx B hI aC nC cC cls) (hcl : nC < 100) {a23 : Option Addr} {n23 c23 : Nat} {x24 : Int} {j : Nat} (hj : j < 100) {a b c : Int} (ha : -128 ≤ a ∧ a < 128) (hb : -128 ≤ b ∧ b < 128) (hc : -128 ≤ c ∧ c < 128) {Q : Value → Hp → Prop}
    (next : ∀ h a' c', Kp h₀.nx h₀ h → (∀ o, o < B → o ≠ b5 → h.get o = hI.get o) → hI.nx ≤ h.nx → h.get b5 = some (.cells [.int .i64 N, .slice a' (nC + 1) c'] 30 .fix) → LL h₀.nx B h a' (nC + 1) c' (cls ++ [clauseN (rst3 N a b c 0)]) → I16_0 O Q v0 x1 b4 f4 b5 0 a23 n23 c23 x24 (Int.ofNat (j + 1)) h) :
    ∀ (d k : Nat), k + d = 3 → ∀ {h : Hp} {a8 n8 c8} {acc : List Int}, Kp hI.nx hI h → AccI 3 h hI.nx a8 n8 c8 acc → acc ++ rst3 N a b c k = rst3 N a b c 0 →
      I16_1 O Q v0 x1 b4 f4 b5 0 a8 n8 c8 a23 n23 c23 x24 (Int.ofNat j) a b c (Int.ofNat k) h := by
  have gdb : ∀ {h : Hp}, Kp hI.nx hI h → GdLt h hI.nx := fun k q hq => by
    have : q ∈ h₀.gd := by rw [← kI.gd, ← k.gd]; exact hq
    have := ok.gd q this; have := kI.nx; omega
  intro d
  induction d with
  | zero =>
    intro k hk h a8 n8 c8 acc kp Ac he
    refine I16_1.of _ _ _ _ _ _ _ _ _ _ _ _ _ _ _ _ _ _ ?_
    unfold T16_1
    obtain rfl : k = 3 := by omega
    have he : acc = rst3 N a b c 0 := by simpa [rst3] using he
    refine vcond_f rfl ?_
    intro g1
    have fI : Ft hI h := kp.ex (Nat.le_refl _)
    have f1 : Ft hI g1 := inferInstanceAs (Ft hI (h.rsv _))
    refine ⟨_, _, _, (readAt_ex (g := hI) hb5.2).trans (read1 g5 (i := 0 + 1) rfl), ?_⟩
    have okh : h.Ok := (ok.kp kI).kp kp
    have okg : (g1.grd [b5]).Ok := (okh.rsv _).grd fun q hq => by
      obtain rfl := List.mem_singleton.1 hq
      show q < h.nx + 8
      have := kp.nx; omega
    have Ag : IntsAt (g1.grd [b5]) a8 n8 acc := Ac.ints.to _
    have lits := rst3_lit hN ha hb hc 0
    subst he
    refine (ct19 hO okg Ag (by have := rst3_len N a b c; omega) fun x hx => (lits x hx).1).s fun a1 n1 c1 h2 ⟨Y, K2, fr, ez⟩ => ?_
    intro g2
    have K2' : Kp g1.nx g1 g2 := ⟨K2.get, K2.nx, rfl, K2.fr⟩
    have f2 : Ft hI g2 := f1.tr (K2'.ex (Nat.le_refl _))
    have A2 : LL h₀.nx B g2 aC nC cC cls := A.to g2
    have hnx := kp.nx
    have hq : g2.get (h.nx + 4) = none := by
      rw [K2'.get _ (show h.nx + 4 < h.nx + 8 by omega)]
      exact okh.fr _ (by omega)
    have nx2 : h.nx + 4 < g2.nx := Nat.lt_of_lt_of_le (show h.nx + 4 < h.nx + 8 by omega) K2'.nx
    have okY : VOk h₀.nx B (.slice a1 n1 c1) := fun p off m w e => by
      injection e with e1 e2
      have hh : g1.nx ≤ p := fr p off e1
      have hh2 : h.nx ≤ p := Nat.le_trans (Nat.le_add_right ..) hh
      refine ⟨.inr (by omega), .inr ?_⟩
      rcases Nat.eq_zero_or_pos m with h0 | h0
      · have := Y.1
        have : clauseN (rst3 N a b c 0) = [] := List.length_eq_zero_iff.1 (by omega)
        rw [ez this] at e1; cases e1
      · exact h0
    have Y2 : IntsAt g2 a1 n1 (clauseN (rst3 N a b c 0)) := Y.to _
    have gd2 : GdLt g2 B := fun q hq => by
      have : q ∈ h₀.gd := by rw [← kI.gd, ← kp.gd]; exact hq
      have := ok.gd q this; omega
    refine LL.appR (by omega) A2 Y2 okY (by omega) gd2 hq nx2 (by omega) (fun i hi => by cases hi) (by omega) fun a' c' h3 A3 _ K3 => ?_
    intro g3
    have K3 : Kp B g2 g3 := K3.kp
    have A3 : LL h₀.nx B g3 a' (nC + 1) c' _ := A3
    have e5 : g3.get b5 = some (.cells [.int .i64 N, .slice aC nC cC] 30 .fix) := by
      rw [K3.get _ hB.1, f2.get _ hb5.2]; exact g5
    have gu : (g3.grd []).guarded b5 = false := guarded_of fun q hq => by
      have : q ∈ h₀.gd := by rw [← kI.gd, ← kp.gd]; exact K3.gd ▸ hq
      have := ok.gd q this; omega
    have e5' : (g3.grd []).get b5 = some (.cells [.int .i64 N, .slice aC nC cC] 30 .fix) := e5
    refine vreq_t (canW_t e5' (by decide) gu (by simp) rfl) ?_
    intro g4 g5'
    rw [wrap_succ (by omega)]
    have w4 : g4.get b5 = some (.cells [.int .i64 N, .slice a' (nC + 1) c'] 30 .fix) := (wr_get e5' (by decide) gu (by simp) rfl).trans rfl
    have A4 : LL h₀.nx B g4 a' (nC + 1) c' _ := (show LL h₀.nx B (g3.grd []) a' (nC + 1) c' _ from A3.to _).wr hb5.1 hB.1 _ _
    have k12 : Kp h₀.nx h₀ g3 := ((kI.trans (kp.le kI.nx)).rsv _ |>.trans (K2'.le (Nat.le_trans kI.nx (Nat.le_trans hnx (Nat.le_add_right ..))))).trans (K3.le (by omega))
    have k4 : Kp h₀.nx h₀ g5' := by
      have w : Kp h₀.nx h₀ g4 := (show Kp h₀.nx h₀ (g3.grd []) from ⟨k12.get, k12.nx, k12.gd, k12.fr⟩).wr hb5.1 _ _
      exact ⟨w.get, w.nx, k12.gd, w.fr⟩
    have n3 : hI.nx ≤ g3.nx := Nat.le_trans hnx (Nat.le_trans (Nat.le_of_lt (Nat.lt_of_le_of_lt (Nat.le_add_right _ 4) nx2)) K3.nx)
    refine next g5' a' c' k4 (fun o ho h1 => ?_) ?_ w4 (A4.to _)
    · show g4.get o = _
      rw [wr_get_ne _ _ _ _ h1]
      show g3.get o = _
      rw [K3.get o ho, f2.get o (by omega)]
    · show hI.nx ≤ g4.nx
      rw [nx_wr]; exact n3
  | succ d ih =>
    intro k hk h a8 n8 c8 acc kp Ac he
    refine I16_1.of _ _ _ _ _ _ _ _ _ _ _ _ _ _ _ _ _ _ ?_
    unfold T16_1
    have f1 : Ft hI h := kp.ex (Nat.le_refl _)
    have gN : readAt h b5 (0 + 0) 1 = some [.int .i64 N] := (readAt_ex (g := hI) hb5.2).trans (read1 g5 (i := 0) rfl)
    have push : ∀ {x : Int}, (-128 ≤ x ∧ x < 128) → rst3 N a b c k = litP x N :: rst3 N a b c (k + 1) → ∃ x', readAt h b5 (0 + 0) 1 = some [.int .i64 x'] ∧ ∃ y, ∃ h', EvC Tryd.prog O 21 [.int .i8 x, .int .i64 x'] h (.int .i64 y) h' ∧ (let g := h'.add (.cells [.int .i64 y] 3 .fix); ∃ a' n' c' h2, appendV Tryd.prog g 32 32 (.slice a8 n8 c8) (.slice (some ⟨h'.nx, 0, none⟩) 1 1) = some (.slice a' n' c', h2) ∧ I16_1 O Q v0 x1 b4 f4 b5 0 a' n' c' a23 n23 c23 x24 (Int.ofNat j) a b c (Int.ofNat (k + 1)) h2) := by
      intro x hx hr
      refine ⟨_, gN, _, _, ct21 hO hx.1 hx.2 hN.1 hN.2 h, ?_⟩
      intro g
      have al : acc.length ≤ 3 := by
        have := congrArg List.length he
        have := rst3_len N a b c
        simp at *; omega
      exact appI app32 Ac kp.nx (gdb kp) (by omega) fun a' n' c' h' A' _ kA => ih (k + 1) (by omega) (kp.trans kA) A' (by rw [List.append_assoc, List.singleton_append, ← hr]; exact he)
    rw [wrap_succ (by omega)]
    have hk3 : k = 0 ∨ k = 1 ∨ k = 2 := by omega
    rcases hk3 with rfl | rfl | rfl
    · refine vcond_t rfl (isNat_i (vreq_t rfl (vcond_t rfl ?_)))
      exact push ha rfl
    · refine vcond_t rfl (isNat_i (vreq_t rfl (vcond_t rfl ?_)))
      exact push hb rfl
    · refine vcond_t rfl (isNat_i (vreq_t rfl (vcond_f rfl (vcond_split (fun hh => ?_) fun hh => ?_))))
      · have hh : ¬ c < 0 := not_lt_of_f (show ltI c 0 = false by simpa using hh)
        exact push hc (by simp [rst3, hh])
      · have hh : c < 0 := lt_of_t (show ltI c 0 = true by simpa using hh)
        exact ih 3 (by omega) kp Ac (by simpa [rst3, hh] using he)
theorem lp16_0 {h₀ : Hp} (ok : h₀.Ok) {vars many : Nat} {cl : List Int} (p : PuzOk vars many cl) {v0 : Array Value} {x1 : Int} {N : Int} (hN : 1 ≤ N ∧ N ≤ 30) {M c23 : Nat} (hM : M ≤ 14) :
    ∀ (d k : Nat), k + d = M → ∀ {h : Hp} {aC nC cC}, Kp h₀.nx h₀ h → h₀.nx + 3 ≤ h.nx → h.get h₀.nx = some (.cells (puzV vars many cl) 26 .fix) → h.get (h₀.nx + 1) = some (.cells [.int .i64 0, .slice none 0 0] 30 .fix) → h.get (h₀.nx + 2) = some (.cells [.int .i64 N, .slice aC nC cC] 30 .fix) → LL h₀.nx (h₀.nx + 3) h aC nC cC (clsN N cl k) → nC = k →
      I16_0 O (fun v h' => ∃ a n c, v = .agg #[.int .i64 N, .slice a n c] ∧ IntssAt h' a n (clsN N cl M) ∧ Kp h₀.nx h₀ h') v0 x1 (h₀.nx + 1) 0 (h₀.nx + 2) 0 (some ⟨h₀.nx, 2, none⟩) M c23 (Int.ofNat M) (Int.ofNat k) h := by
  intro d
  induction d with
  | zero =>
    intro k hk h aC nC cC kp hnx g0 g1 g2 A hnk
    refine I16_0.of _ _ _ _ _ _ _ _ _ _ _ ?_
    unfold T16_0
    obtain rfl : k = M := by omega
    refine vcond_f (by rw [ltI_nat]; exact blt_f (by omega)) ⟨_, _, _, _, readAt_get g2 (by simp), ?_⟩
    have gu : h.guarded (h₀.nx + 1) = false := guarded_of fun q hq => by
      have : q ∈ h₀.gd := by rw [← kp.gd]; exact hq
      have := ok.gd q this; omega
    refine vreq_t (canW_t g1 (by decide) gu (by simp) rfl) ?_
    intro gw
    have w : gw.get (h₀.nx + 1) = some (.cells [.int .i64 N, .slice aC nC cC] 30 .fix) := (wr_get g1 (by decide) gu (by simp) rfl).trans rfl
    exact ⟨_, _, _, _, readAt_get w (by simp), _, _, _, rfl, (A.wr (by omega) (by omega) _ _).intss, kp.wr (by omega) _ _⟩
  | succ d ih =>
    intro k hk h aC nC cC kp hnx g0 g1 g2 A hnk
    refine I16_0.of _ _ _ _ _ _ _ _ _ _ _ ?_
    unfold T16_0
    have hl := p.len
    have rd : readAt h h₀.nx (2 + k * 3) 3 = some [.int .i8 (cl.getD (3 * k) 0), .int .i8 (cl.getD (3 * k + 1) 0), .int .i8 (cl.getD (3 * k + 2) 0)] := by
      rw [readAt_get g0 (by simp [puzV]; omega)]
      have h1 : 3 * k + 2 < cl.length := by omega
      have e : (puzV vars many cl).drop (2 + k * 3) = (cl.map (Value.int .i8)).drop (3 * k) := by
        unfold puzV
        rw [show 2 + k * 3 = 3 * k + 1 + 1 by omega, List.drop_succ_cons, List.drop_succ_cons]
      rw [e, List.drop_eq_getElem_cons (by simp; omega), List.drop_eq_getElem_cons (by simp; omega), List.drop_eq_getElem_cons (by simp; omega)]
      simp only [List.take_succ_cons, List.take_zero, List.getElem_map, List.getD_eq_getElem?_getD]
      rw [List.getElem?_eq_getElem (by omega), List.getElem?_eq_getElem (by omega), List.getElem?_eq_getElem (by omega)]; rfl
    refine vcond_t (by rw [ltI_nat]; exact blt_t (by omega)) (isNat_i (show isAddr (some ⟨h₀.nx, 2, none⟩) _ from vreq_t (blt_t (by omega)) ⟨_, _, _, rd, ?_⟩))
    intro g101
    have gu : g101.guarded h.nx = false := guarded_of fun q hq => by
      have : q ∈ h₀.gd := by rw [← kp.gd]; exact hq
      have := ok.gd q this; omega
    have ga : g101.get h.nx = some (.cells [.int .i8 0, .int .i8 0, .int .i8 0] 23 .fix) := get_add_same ..
    refine vreq_t (canW_t ga (by decide) gu (by simp) rfl) ?_
    intro gw
    have w : gw.get h.nx = some (.cells [.int .i8 (cl.getD (3 * k) 0), .int .i8 (cl.getD (3 * k + 1) 0), .int .i8 (cl.getD (3 * k + 2) 0)] 23 .fix) := (wr_get ga (by decide) gu (by simp) rfl).trans rfl
    refine ⟨_, _, _, readAt_get w (by simp), ?_⟩
    have kw : Kp h.nx h gw := ((Kp.refl h.nx h).add (Nat.le_refl _) _).wr (Nat.le_refl _) _ _
    have fw : Ft h gw := kw.ex (Nat.le_refl _)
    have kI : Kp h₀.nx h₀ gw := kp.trans (kw.le kp.nx)
    refine lp16_1 hO ok kI hN (aC := aC) (nC := nC) (cC := cC) (cls := clsN N cl k) ((fw.get _ (by omega)).trans g2) ⟨by omega, Nat.lt_of_lt_of_le (by omega) kw.nx⟩ (B := h₀.nx + 3) ⟨by omega, Nat.le_trans hnx kw.nx⟩ (A.to gw) (by omega) (by omega) (p.at _) (p.at _) (p.at _) (fun h' a' c' k' hs hn' g5 A' => ?_) 3 0 (by omega) (.refl _ _) (AccI.nil ..) (by simp)
    have fo : ∀ o, o < h₀.nx + 2 → h'.get o = h.get o := fun o ho => by rw [hs o (by omega) (by omega), fw.get o (by omega)]
    exact ih (k + 1) (by omega) k' (Nat.le_trans hnx (Nat.le_trans kw.nx hn')) ((fo _ (by omega)).trans g0) ((fo _ (by omega)).trans g1) g5 A' (by omega)
theorem ct16 {h : Hp} (ok : h.Ok) {vars many : Nat} {cl : List Int} (p : PuzOk vars many cl) {x1 : Int} (h1 : 1 ≤ x1 ∧ x1 ≤ 20) :
    Ret Tryd.prog O 16 [.agg (puzV vars many cl).toArray, .int .i64 x1] h fun v h' => ∃ a n c, v = .agg #[.int .i64 (1 + (vars : Int).tmod x1), .slice a n c] ∧ IntssAt h' a n (clsN (1 + (vars : Int).tmod x1) cl (many % 15)) ∧ Kp h.nx h h' := by
  refine rk16 _ _ (hO _ _ _ (by decide)) ?_
  unfold T16
  have pv := p.v; have pm := p.m
  have hmod : 0 ≤ (vars : Int).tmod x1 ∧ (vars : Int).tmod x1 < x1 := ⟨Int.tmod_nonneg _ (by omega), Int.tmod_lt_of_pos _ (by omega)⟩
  refine vreq_t ?_ ?_
  · simp [puzV, one]
  intro g1 g2
  have e1 : g1.get h.nx = some (.cells (puzV vars many cl) 26 .fix) := get_add_same ..
  have e2 : g2.get h.nx = some (.cells (puzV vars many cl) 26 .fix) := (get_add_ne (show h.nx ≠ h.nx + 1 by omega)).trans e1
  refine ⟨_, read1 e2 (i := 0) rfl, vreq_t (by rw [eqI_f (by omega)]; rfl) ?_⟩
  intro g4
  have ea : g4.get g2.nx = some (.cells [.int .i64 0, .slice none 0 0] 30 .fix) := get_add_same ..
  have gu : g4.guarded g2.nx = false := guarded_of fun q hq => by
    have := ok.gd q hq
    have : g2.nx = h.nx + 1 + 1 := rfl
    omega
  rw [wrap64 (n := Int.ofNat vars) (by simp only [Int.ofNat_eq_natCast]; omega) (by simp only [Int.ofNat_eq_natCast]; omega)]
  rw [show (Int.ofNat vars) = (vars : Int) from rfl, wrap64 (n := 1 + (vars : Int).tmod x1) (by omega) (by omega)]
  refine vreq_t (canW_t ea (by decide) gu (by simp) rfl) ?_
  intro g5
  have w5 : g5.get g2.nx = some (.cells [.int .i64 (1 + (vars : Int).tmod x1), .slice none 0 0] 30 .fix) := (wr_get ea (by decide) gu (by simp) rfl).trans rfl
  have e5 : g5.get h.nx = some (.cells (puzV vars many cl) 26 .fix) :=
    (wr_get_ne _ _ _ _ (show h.nx ≠ h.nx + 1 + 1 by omega)).trans ((get_add_ne (show h.nx ≠ h.nx + 1 + 1 by omega)).trans e2)
  have e6 : g5.get (h.nx + 1) = some (.cells [.int .i64 0, .slice none 0 0] 30 .fix) :=
    (wr_get_ne _ _ _ _ (show h.nx + 1 ≠ h.nx + 1 + 1 by omega)).trans ((get_add_ne (show h.nx + 1 ≠ h.nx + 1 + 1 by omega)).trans (get_add_same g1 _))
  refine ⟨_, read1 e5 (i := 1) rfl, ?_⟩
  rw [wrap64 (n := Int.ofNat many) (by simp only [Int.ofNat_eq_natCast]; omega) (by simp only [Int.ofNat_eq_natCast]; omega)]
  have em : (Int.ofNat many).tmod 15 = Int.ofNat (many % 15) := rfl
  rw [em]
  have sl : sliceV Tryd.prog g5 24 (.pointer (some ⟨h.nx, 2, none⟩)) none (some (.int .i64 (Int.ofNat (many % 15)))) none = some (.slice (some ⟨h.nx, 2, none⟩) (many % 15) 14) := by
    have e2 : sz Tryd.prog 23 = some 3 := by kernel_rfl
    have e3 : Tryd.prog.underlying 24 = some (.array 14 23) := by kernel_rfl
    have e4 : bounds 14 14 none (some (.int .i64 (Int.ofNat (many % 15)))) none = some (0, many % 15, 14) := by
      unfold bounds boundM boundH boundL boundV
      simp only [Option.bind_some, Option.map_some]
      rw [ble_t (by omega)]; rfl
    unfold sliceV
    rw [e3]
    simp only [e2, bind, Option.bind_some, e4]
    rfl
  refine ⟨_, _, _, sl, ?_⟩
  have k5 : Kp h.nx h g5 := ((((Kp.refl h.nx h).add (Nat.le_refl _) _).add (by show h.nx ≤ h.nx + 1; omega) _).add (by show h.nx ≤ h.nx + 1 + 1; omega) _).wr (show h.nx ≤ h.nx + 1 + 1 by omega) _ _
  exact lp16_0 hO ok p (N := 1 + (vars : Int).tmod x1) ⟨by omega, by omega⟩ (M := many % 15) (c23 := 14) (by omega) (many % 15) 0 (by omega) k5 (show h.nx + 3 ≤ g5.nx by show h.nx + 3 ≤ (g4.wr _ _ _).nx; rw [nx_wr]; exact Nat.le_refl _) e5 e6 w5 (.nil ..) rfl
end
end Go.Proofs.YtfgfhplgnfbaaaaDoor
/- The plain law of resolution: what it returns. -/
namespace Go.Proofs.YtfgfhplgnfbaaaaDoor
open Go Go.Ev
theorem lits_mem {y m : Nat} (hy : y < 2 ^ 30) (hm : m < 2 ^ 30) (hc : y &&& m = 0) {x : Int} : x ∈ litsN y m ↔ trM y m x := by
  have ex : ∀ i, y.testBit i = true → m.testBit i = true → False := fun i a b => (and_zero_iff _ _).1 hc i ⟨a, b⟩
  have big : ∀ {u i : Nat}, u < 2 ^ 30 → u.testBit i = true → i < 30 := fun {u i} hu h => by
    refine Classical.byContradiction fun hn => ?_
    rw [Nat.testBit_lt_two_pow (Nat.lt_of_lt_of_le hu (Nat.pow_le_pow_right (by decide) (by omega)))] at h; cases h
  unfold litsN digits
  rw [List.mem_map]
  constructor
  · rintro ⟨v, hv, rfl⟩
    obtain ⟨h1, h2⟩ := List.mem_filter.1 hv
    rw [Nat.testBit_or, Bool.or_eq_true] at h2
    unfold litOf ofN
    cases hyv : y.testBit v with
    | true => exact .inl ⟨by simp, by simp only [if_pos]; exact hyv⟩
    | false =>
      have hmv : m.testBit v = true := by rcases h2 with h2 | h2; rw [hyv] at h2; cases h2; exact h2
      simp only [hmv, Bool.false_eq_true, if_false, if_true]
      exact .inr ⟨by omega, by rw [show (-((v + 1 : Nat) : Int)).natAbs - 1 = v by omega]; exact hmv⟩
  · rintro (⟨h0, h1⟩ | ⟨h0, h1⟩)
    · refine ⟨x.natAbs - 1, List.mem_filter.2 ⟨List.mem_range.2 (big hy h1), by rw [Nat.testBit_or, h1]; rfl⟩, ?_⟩
      unfold litOf ofN
      rw [if_pos h1, if_neg (by decide)]; omega
    · refine ⟨x.natAbs - 1, List.mem_filter.2 ⟨List.mem_range.2 (big hm h1), by rw [Nat.testBit_or, h1, Bool.or_true]⟩, ?_⟩
      unfold litOf ofN
      have : y.testBit (x.natAbs - 1) = false := by
        cases h : y.testBit (x.natAbs - 1) with
        | false => rfl
        | true => exact (ex _ h h1).elim
      have e : (if y.testBit (x.natAbs - 1) = true then (1 : Int) else if m.testBit (x.natAbs - 1) = true then 2 else 0) = 2 := by rw [if_neg (by rw [this]; decide), if_pos h1]
      rw [if_pos e]; omega
theorem litOf_abs (y m v : Nat) : (litOf y m v).natAbs = v + 1 := by
  unfold litOf; split <;> omega
theorem lits_dif (y m : Nat) : Dif (litsN y m) := by
  unfold litsN digits Dif
  rw [List.pairwise_map]
  refine (List.Pairwise.filter _ List.pairwise_lt_range).imp fun h => ?_
  rw [litOf_abs, litOf_abs]; omega
theorem dif_ext : ∀ {l l' : List Int}, Dif l → Dif l' → (∀ x, x ∈ l ↔ x ∈ l') → l = l' := by
  intro l
  induction l with
  | nil =>
    intro l' _ _ h
    cases l' with
    | nil => rfl
    | cons y l' => exact absurd ((h y).2 (List.mem_cons_self ..)) (by simp)
  | cons x l ih =>
    intro l' h1 h2 h
    cases l' with
    | nil => exact absurd ((h x).1 (List.mem_cons_self ..)) (by simp)
    | cons y l' =>
      obtain ⟨a, b⟩ := List.pairwise_cons.1 h1
      obtain ⟨c, d⟩ := List.pairwise_cons.1 h2
      have e : x = y := by
        rcases List.mem_cons.1 ((h x).1 (List.mem_cons_self ..)) with e | hx
        · exact e
        rcases List.mem_cons.1 ((h y).2 (List.mem_cons_self ..)) with e | hy
        · exact e.symm
        have := a y hy; have := c x hx; omega
      subst e
      rw [ih b d fun z => ⟨fun hz => ?_, fun hz => ?_⟩]
      · rcases List.mem_cons.1 ((h z).1 (List.mem_cons_of_mem _ hz)) with rfl | hz'
        · have := a z hz; omega
        · exact hz'
      · rcases List.mem_cons.1 ((h z).2 (List.mem_cons_of_mem _ hz)) with rfl | hz'
        · have := c z hz; omega
        · exact hz'
theorem isB_neg {m : Nat} {x : Int} (hx : x ≠ 0) : isB m (-x) = !(isB m x) := by
  unfold isB
  rw [Int.natAbs_neg]
  by_cases h : x < 0
  · rw [if_neg (by omega), if_pos h, Bool.not_not]
  · rw [if_pos (by omega), if_neg h]
theorem clB_of {vars : Int} : ∀ {l : List Int} {last : Int}, Dif l → (∀ x ∈ l, Lit x ∧ (x.natAbs : Int) ≤ vars) → (∀ x ∈ l, last < (x.natAbs : Int)) → clB vars last l = true := by
  intro l
  induction l with
  | nil => intro last _ _ _; rfl
  | cons x l ih =>
    intro last hd hl hlast
    obtain ⟨h1, h2⟩ := List.pairwise_cons.1 hd
    have hx := hl x (List.mem_cons_self ..)
    have := hlast x (List.mem_cons_self ..)
    simp only [clB]
    rw [varI_lit2 hx.1, if_neg (by omega)]
    exact ih h2 (fun z hz => hl z (List.mem_cons_of_mem _ hz)) fun z hz => by have := h1 z hz; omega
end Go.Proofs.YtfgfhplgnfbaaaaDoor
/- What a call's arguments hold, as the evaluator's memory. -/
namespace Go.Ev
open Go
/-- Fields lie one behind the other. -/
def layOk (P : Program) : Nat → List Field → Nat → Bool
  | off, [], n => Nat.beq off n
  | off, f :: fs, n => Nat.beq f.offset off && layOk P (off + P.cellsOf f.type) fs n
/-- A type of truths, whole numbers, lists, structs and rows of these. -/
def Plain (P : Program) : Nat → TypeId → Bool
  | 0, _ => false
  | n + 1, t => match P.underlying t with
    | some .bool => true
    | some (.int _) => true
    | some (.slice e) => Plain P n e && !(Nat.beq (P.cellsOf e) 0)
    | some (.struct fs) => fs.toList.all (fun f => Plain P n f.type) && layOk P 0 fs.toList (P.cellsOf t)
    | some (.array m e) => Plain P n e && Nat.beq (m * P.cellsOf e) (P.cellsOf t)
    | _ => false
/-- Cells that read as some data, in the evaluator's memory. -/
def DE {H : Type} (P : Program) (h : Hp) : Nat → TypeId → List Value → DataW H → Prop
  | 0, _, _, _ => False
  | n + 1, t, cs, d => match P.underlying t, d with
    | some .bool, .lit (.bool b) => cs = [.bool b]
    | some (.int k), .lit (.int k' x) => k' = k ∧ cs = [.int k x] ∧ (Lit.int k x).wf = true
    | some (.slice _), .nil => cs = [.slice none 0 0]
    | some (.slice e), .slice elems _ => ∃ k cap c e', cs = [.slice (some ⟨k, 0, none⟩) elems.length cap] ∧ cap < unk ∧ elems.length ≤ cap ∧ k < h.nx ∧ h.get k = some (.cells c e' .ro) ∧ elems.length * P.cellsOf e ≤ c.length ∧
        ∀ i (hi : i < elems.length), DE P h n e ((c.drop (i * P.cellsOf e)).take (P.cellsOf e)) elems[i]
    | some (.struct fs), .agg parts => cs.length = P.cellsOf t ∧ parts.length = fs.size ∧ ∀ i (hi : i < parts.length) f, fs[i]? = some f → DE P h n f.type ((cs.drop f.offset).take (P.cellsOf f.type)) parts[i]
    | some (.array m e), .agg parts => cs.length = P.cellsOf t ∧ parts.length = m ∧ ∀ i (hi : i < parts.length), DE P h n e ((cs.drop (i * P.cellsOf e)).take (P.cellsOf e)) parts[i]
    | _, _ => False
/-- Memory with more in it, that none writes. -/
structure Ext1 (h : Hp) (ι : Inj) (h' : Hp) (ι' : Inj) : Prop where
  nx : h.nx ≤ h'.nx
  gd : h'.gd = h.gd
  get : ∀ o, o < h.nx → h'.get o = h.get o
  inj : ∀ o, o < h.nx → ι' o = ι o
theorem Ext1.refl (h : Hp) (ι : Inj) : Ext1 h ι h ι := ⟨Nat.le_refl _, rfl, fun _ _ => rfl, fun _ _ => rfl⟩
theorem Ext1.trans {h h' h'' : Hp} {ι ι' ι'' : Inj} (a : Ext1 h ι h' ι') (b : Ext1 h' ι' h'' ι'') : Ext1 h ι h'' ι'' :=
  ⟨Nat.le_trans a.nx b.nx, b.gd.trans a.gd, fun o ho => (b.get o (Nat.lt_of_lt_of_le ho a.nx)).trans (a.get o ho), fun o ho => (b.inj o (Nat.lt_of_lt_of_le ho a.nx)).trans (a.inj o ho)⟩
theorem DE.mono {H : Type} {P : Program} {h h' : Hp} (hn : h.nx ≤ h'.nx) (hg : ∀ o, o < h.nx → h'.get o = h.get o) : ∀ {n : Nat} {t : TypeId} {cs : List Value} {d : DataW H}, DE P h n t cs d → DE P h' n t cs d := by
  intro n
  induction n with
  | zero => intro t cs d h; exact h
  | succ n ih =>
    intro t cs d hd
    unfold DE at hd ⊢
    split at hd
    · exact hd
    · exact hd
    · exact hd
    · obtain ⟨k, cap, c, e', h1, h2, h3, h4, h5, h6, h7⟩ := hd
      exact ⟨k, cap, c, e', h1, h2, h3, Nat.lt_of_lt_of_le h4 hn, by rw [hg k h4]; exact h5, h6, fun i hi => ih (h7 i hi)⟩
    · exact ⟨hd.1, hd.2.1, fun i hi f hf => ih (hd.2.2 i hi f hf)⟩
    · exact ⟨hd.1, hd.2.1, fun i hi => ih (hd.2.2 i hi)⟩
    · exact hd
section
variable {H : Type} {enc : TypeId × Value → H} {P : Program} {W : World}
/-- What is ahead: memory that none writes, and an object in it. -/
structure Base (P : Program) (ι : Inj) (h : Hp) (W : World) : Prop where
  rh : RH P ι h W
  ro : ∀ o x, h.get o = some x → x.wr = false
  gd : h.gd = []
  some0 : ∃ x v, h.get 0 = some x ∧ ι 0 = some v ∧ 0 < h.nx ∧ ∃ c e, x = .cells c e .ro
/-- An object more. -/
theorem Base.push {ι : Inj} {h : Hp} (B : Base P ι h W) {c : List Value} {e : TypeId} {v : Vw} (h1 : c.all one = true) {c' : Array Value} {e' : TypeId} {fr : Nat × Nat} (hb : W.heap[v.blk]? = some (.cells c' e' fr)) (hc : ∀ (j : Nat) x, c[j]? = some x → ∃ y, c'[v.base + j]? = some y ∧ VR ι x y) :
    Base P (ι.set h.nx v) (h.add (.cells c e .ro)) W ∧ Ext1 h ι (h.add (.cells c e .ro)) (ι.set h.nx v) := by
  have hfresh : ι h.nx = none := B.rh.fresh _ (Nat.le_refl _)
  have mono := Inj.set_mono (v := v) hfresh
  have hE : Ext1 h ι (h.add (.cells c e .ro)) (ι.set h.nx v) := ⟨by rw [nx_add]; omega, rfl, fun o ho => get_add_ne (by omega), fun o ho => Inj.set_other _ _ _ (by omega)⟩
  have hget : ∀ o x, (h.add (.cells c e .ro)).get o = some x → (o = h.nx ∧ x = .cells c e .ro) ∨ h.get o = some x := fun o x ho => by
    rw [get_add] at ho
    split at ho
    · exact .inl ⟨‹_›, (Option.some.inj ho).symm⟩
    · exact .inr ho
  have hro : ∀ o x, (h.add (.cells c e .ro)).get o = some x → x.wr = false := fun o x ho => by
    rcases hget o x ho with ⟨_, rfl⟩ | ho
    · rfl
    · exact B.ro o x ho
  refine ⟨⟨⟨fun o x ho => ?_, fun o q x y vo vq _ ho hx => ?_, fun o ho => ?_, fun g hg => ?_, ?_⟩, hro, B.gd, ?_⟩, hE⟩
  · rcases hget o x ho with ⟨rfl, rfl⟩ | ho
    · refine ⟨by rw [nx_add]; omega, v, Inj.set_same .., h1, c', e', fr, hb, fun j x hx => ?_, fun h => absurd rfl h, fun h => by cases h⟩
      obtain ⟨y, hy, hv⟩ := hc j x hx
      exact ⟨y, hy, hv.mono mono⟩
    · obtain ⟨h2, u, hu, hor⟩ := B.rh.live o x ho
      exact ⟨by rw [nx_add]; omega, u, mono _ _ hu, hor.of_block mono rfl⟩
  · rw [hro o x ho] at hx; cases hx
  · rw [nx_add] at ho
    rw [Inj.set_other _ _ _ (by omega)]; exact B.rh.fresh o (by omega)
  · rw [Inj.set_other _ _ _ (by have := B.rh.gsize; omega)]; exact B.rh.glob g hg
  · rw [nx_add]; have := B.rh.gsize; omega
  · obtain ⟨x, u, a1, a2, a3, a4⟩ := B.some0
    exact ⟨x, u, by rw [get_add_ne (by omega)]; exact a1, by rw [Inj.set_other _ _ _ (by omega)]; exact a2, by rw [nx_add]; omega, a4⟩
/-- A whole part is built, whatever a part is built of. -/
def Builds (H : Type) (enc : TypeId × Value → H) (P : Program) (W : World) (n : Nat) (t : TypeId) : Prop := ∀ (cs : List Value) (d : DataW H) (ps : List MemPlace), DataW.trod enc P W 0 (fun _ => true) true n t cs = some (d, ps) →
  ∀ ι h, Base P ι h W → ∃ ι' h' ev, Ext1 h ι h' ι' ∧ Base P ι' h' W ∧ VRs ι' ev cs ∧ ev.all one = true ∧ DE P h' n t ev d
theorem VRs.mono1 {ι ι' : Inj} {h h' : Hp} (E : Ext1 h ι h' ι') (R : ∀ o, h.nx ≤ o → ι o = none) {a b : List Value} (hv : VRs ι a b) : VRs ι' a b := hv.mono fun o v hv => by
  have : o < h.nx := by
    rcases Nat.lt_or_ge o h.nx with hh | hh
    · exact hh
    · rw [R o hh] at hv; cases hv
  rw [E.inj o this]; exact hv
/-- Parts, one after the other. -/
theorem build_list {n : Nat} : ∀ (l : List (TypeId × List Value × DataW H)), (∀ p ∈ l, Builds H enc P W n p.1 ∧ ∃ ps, DataW.trod enc P W 0 (fun _ => true) true n p.1 p.2.1 = some (p.2.2, ps)) → ∀ ι h, Base P ι h W →
    ∃ ι' h', ∃ evs : List (List Value), Ext1 h ι h' ι' ∧ Base P ι' h' W ∧ evs.length = l.length ∧ VRs ι' evs.flatten (l.map (·.2.1)).flatten ∧ evs.flatten.all one = true ∧
      ∀ i (hi : i < l.length), ∃ ev, evs[i]? = some ev ∧ VRs ι' ev l[i].2.1 ∧ DE P h' n l[i].1 ev l[i].2.2 := by
  intro l
  induction l with
  | nil => intro _ ι h B; exact ⟨ι, h, [], .refl _ _, B, rfl, .nil _, rfl, fun i hi => absurd hi (Nat.not_lt_zero _)⟩
  | cons p l ih =>
    intro hl ι h B
    obtain ⟨hb, ps, hp⟩ := hl p (List.mem_cons_self ..)
    obtain ⟨ι1, h1, ev, E1, B1, V1, O1, D1⟩ := hb _ _ _ hp ι h B
    obtain ⟨ι2, h2, evs, E2, B2, L2, V2, O2, D2⟩ := ih (fun q hq => hl q (List.mem_cons_of_mem _ hq)) ι1 h1 B1
    have V1' := VRs.mono1 E2 B1.rh.fresh V1
    refine ⟨ι2, h2, ev :: evs, E1.trans E2, B2, by simp [L2], ?_, ?_, fun i hi => ?_⟩
    · rw [List.flatten_cons, List.map_cons, List.flatten_cons]; exact V1'.append V2
    · rw [List.flatten_cons, List.all_append, O1, O2]; rfl
    · cases i with
      | zero => exact ⟨ev, rfl, V1', D1.mono E2.nx E2.get⟩
      | succ i => exact D2 i (by simpa using hi)
theorem flat_row {l : List (List Value)} {w : Nat} (hw : ∀ x ∈ l, x.length = w) : l.flatten.length = l.length * w ∧ ∀ i x, l[i]? = some x → (l.flatten.drop (i * w)).take w = x := by
  induction l with
  | nil => exact ⟨by simp, fun i x h => by simp at h⟩
  | cons y l ih =>
    obtain ⟨h1, h2⟩ := ih fun x hx => hw x (List.mem_cons_of_mem _ hx)
    have hy := hw y (List.mem_cons_self ..)
    refine ⟨by rw [List.flatten_cons, List.length_append, h1, hy, List.length_cons, Nat.add_mul]; omega, fun i x hx => ?_⟩
    rw [List.flatten_cons]
    cases i with
    | zero =>
      simp at hx
      subst hx
      rw [Nat.zero_mul, List.drop_zero, ← hy, List.take_left]
    | succ i =>
      rw [List.drop_append, List.drop_of_length_le (by rw [hy, Nat.add_mul]; omega), List.nil_append, hy, show (i + 1) * w - w = i * w by rw [Nat.add_mul]; omega]
      exact h2 i x (by simpa using hx)
theorem build_int {n : Nat} {t : TypeId} {k : IntKind} (hu : P.underlying t = some (.int k)) : Builds H enc P W (n + 1) t := by
  intro cs d ps h ι hp B
  unfold DataW.trod at h
  rw [hu] at h
  rcases cs with _ | ⟨v, _ | ⟨w, r⟩⟩
  · cases h
  · cases v with
    | int k' x =>
      simp only at h
      split at h
      · rename_i hc
        injection h with h; injection h with h _
        subst h
        obtain ⟨rfl, hw⟩ := hc
        exact ⟨ι, hp, [.int k' x], .refl _ _, B, .of_flat rfl, rfl, by unfold DE; rw [hu]; exact ⟨rfl, rfl, hw⟩⟩
      · cases h
    | slice a len cap => cases a <;> cases len <;> cases cap <;> cases h
    | _ => cases h
  · cases v with
    | slice a len cap => cases a <;> cases len <;> cases cap <;> cases h
    | _ => cases h
end
end Go.Ev
/- A law's arguments, as the evaluator's memory; from its word to the kit's. -/
namespace Go.Ev
open Go Go.ChangeShapes Go.WideShapes Go.ChangeAt Go.RowKit
section
variable {H : Type} {enc : TypeId × Value → H} {P : Program} {W : World}
/-- Arguments that read as some data. -/
def DEs (P : Program) (h : Hp) : List TypeId → List Value → List (DataW H) → Prop
  | [], [], [] => True
  | t :: ts, v :: vs, d :: ds => ((∃ n, DE P h n t v.cells.toList d) ∧ (aggT P t = some true ∨ v.cells.toList = [v])) ∧ DEs P h ts vs ds
  | _, _, _ => False
theorem DEs.mono {h h' : Hp} (hn : h.nx ≤ h'.nx) (hg : ∀ o, o < h.nx → h'.get o = h.get o) : ∀ {ts : List TypeId} {vs : List Value} {ds : List (DataW H)}, DEs P h ts vs ds → DEs P h' ts vs ds
  | [], [], [], h => h
  | _ :: _, _ :: _, _ :: _, ⟨⟨⟨n, h1⟩, h3⟩, h2⟩ => ⟨⟨⟨n, h1.mono hn hg⟩, h3⟩, h2.mono hn hg⟩
/-- A value is one cell, or a struct's or a row's cells. -/
def Shaped1 (P : Program) (t : TypeId) (v : Value) : Prop := v.cells.toList = [v] ∨ (∃ cs, v = .agg cs) ∧ aggT P t = some true
theorem args_build : ∀ {ts : List TypeId} {vs : List Value} {ds : List (DataW H)} {p : List MemPlace}, DataW.TrodAll enc P W 0 (fun _ => true) true ts vs ds p → (∀ t ∈ ts, ∀ n, Builds H enc P W n t) → (∀ (i : Nat) t v, ts[i]? = some t → vs[i]? = some v → Shaped1 P t v) → ∀ ι h, Base P ι h W →
    ∃ ι' h' evs, Ext1 h ι h' ι' ∧ Base P ι' h' W ∧ VRs ι' evs vs ∧ DEs P h' ts evs ds
  | [], [], [], _, _, _, _, ι, h, B => ⟨ι, h, [], .refl _ _, B, .nil _, trivial⟩
  | t :: ts, v :: vs, d :: ds, _, ⟨p, q, ⟨n, h1⟩, h2, _⟩, hb, hs, ι, h, B => by
    obtain ⟨ι1, h3, ev, E1, B1, V1, O1, D1⟩ := hb t (List.mem_cons_self ..) n _ _ _ h1 ι h B
    obtain ⟨ι2, h4, evs, E2, B2, V2, D2⟩ := args_build h2 (fun t ht => hb t (List.mem_cons_of_mem _ ht)) (fun i t v a b => hs (i + 1) t v (by simpa using a) (by simpa using b)) ι1 h3 B1
    have V1' := VRs.mono1 E2 B1.rh.fresh V1
    rcases hs 0 t v rfl rfl with hc | ⟨⟨cs, rfl⟩, hag⟩
    · rw [hc] at V1'
      have hl : ev.length = 1 := by have := V1'.1; simpa using this.symm
      obtain ⟨x, rfl⟩ : ∃ x, ev = [x] := List.length_eq_one_iff.1 hl
      have hx : x.cells.toList = [x] := by
        have : one x = true := by simpa using O1
        cases x <;> first | rfl | cases this
      obtain ⟨y, c, e1, e2, _⟩ := V1'.head
      injection e1 with e1 _
      subst e1
      refine ⟨ι2, h4, x :: evs, E1.trans E2, B2, .cons e2 V2, ⟨⟨n, ?_⟩, .inr hx⟩, D2⟩
      rw [hx]; exact D1.mono E2.nx E2.get
    · refine ⟨ι2, h4, .agg ev.toArray :: evs, E1.trans E2, B2, .cons ?_ V2, ⟨⟨n, ?_⟩, .inl hag⟩, D2⟩
      · have V1'' : VRs ι2 ev.toArray.toList cs.toList := by rw [List.toList_toArray]; exact V1'
        obtain ⟨a1, a2⟩ := VRs.arr.1 V1''
        exact .agg a1 a2
      · show DE P h4 n t (ev.toArray).toList d
        simpa using D1.mono E2.nx E2.get
theorem shaped_of {r : Reach} {base n : Nat} {t : TypeId} {v : Value} (hp : Plain P n t = true) (h : Value.okWide P W r base t v) : Shaped1 P t v := by
  cases n with
  | zero => cases hp
  | succ n =>
    unfold Plain at hp
    unfold Value.okWide at h
    split at hp
    · rename_i hu
      rw [hu] at h
      unfold Cell.okWide Cell.ok at h
      rw [hu] at h
      cases v <;> first | exact .inl rfl | exact h.elim
    · rename_i hu
      rw [hu] at h
      unfold Cell.okWide Cell.ok at h
      rw [hu] at h
      cases v <;> first | exact .inl rfl | exact h.elim
    · rename_i hu
      rw [hu] at h
      unfold Cell.okWide Cell.ok at h
      rw [hu] at h
      cases v <;> first | exact .inl rfl | exact h.elim
    · rename_i hu
      rw [hu] at h
      obtain ⟨cs, rfl, _⟩ := h
      exact .inr ⟨⟨cs, rfl⟩, by unfold aggT; rw [hu]⟩
    · rename_i hu
      rw [hu] at h
      obtain ⟨cs, rfl, _⟩ := h
      exact .inr ⟨⟨cs, rfl⟩, by unfold aggT; rw [hu]⟩
    · cases hp
theorem DE_int {h : Hp} {n : Nat} {t : TypeId} {k : IntKind} (hu : P.underlying t = some (.int k)) {cs : List Value} {d : DataW H} (hd : DE P h n t cs d) : ∃ x, cs = [.int k x] ∧ (Lit.int k x).wf = true := by
  cases n with
  | zero => exact hd.elim
  | succ n =>
    unfold DE at hd
    rw [hu] at hd
    split at hd
    all_goals first | (rename_i heq; cases heq; done) | skip
    · rename_i k' k2 x heq
      injection heq with heq; injection heq with heq
      subst heq
      exact ⟨x, hd.2⟩
    all_goals first | exact hd.elim | skip
/-- What was there stays, but for what is new. -/
theorem post_of_old {f : Func} {s : ChangeSpec} {apart fresh handsOn again : Bool} {W W' : World} {args : Array Value} {v : Value} {ds gs : List (DataW H)} {before pa pv : List MemPlace}
    (hW : DataW.Whole enc P f.params.toList s.vars apart W args.toList ds gs before)
    (hres : ∀ (b : Nat) (sp : Nat → Bool) (hd : Bool), DataW.TrodAll enc P W' b sp hd f.resultTypes.toList (v.resultList f.resultTypes.size) (s.fn H (ds ++ gs)).results [])
    (hargs : ∀ sp : Nat → Bool, (∀ p ∈ before, sp p.block = true) → DataW.TrodAll enc P W' 0 sp true f.params.toList args.toList (s.fn H (ds ++ gs)).args pa)
    (hvars : ∀ sp : Nat → Bool, (∀ p ∈ before, sp p.block = true) → DataW.TrodVars enc P W' sp s.vars (s.fn H (ds ++ gs)).vars pv)
    (hps : before = pa ++ pv) (hk : W.keptBut W' (· ∈ before)) (hfz : ∀ a : Addr, a.block < W.heap.size → W'.frozen? a = W.frozen? a)
    (hok : ∀ (j : Nat) (t : TypeId) (r : Value), f.resultTypes[j]? = some t → (v.resultList f.resultTypes.size)[j]? = some r → Value.okWide P W' .any 0 t r) :
    s.post enc P f apart fresh handsOn again W args v W' := by
  have hold : ∀ p ∈ before, (fun b => decide (b < W.heap.size)) p.block = true := fun p hp => by simpa using hW.lt p hp
  have hlt := hW.lt
  refine ⟨ds, gs, before, [], pa, pv, hW, hres _ _ _, hargs _ hold, hvars _ hold, World.keptBut_mono (fun p hp => ⟨hp, ?_⟩) hk, fun _ => ?_⟩
  · rw [hps, List.mem_append] at hp
    exact Or.inr hp
  · obtain ⟨_, _, _, _, _, hz, hn⟩ := hW
    refine ⟨hok, _, _, ([] ++ pa) ++ pv, ⟨[] ++ pa, pv, trodAll_append (hargs _ (fun _ _ => rfl)) (hres _ _ _), hvars _ (fun _ _ => rfl), rfl, ?_, ?_⟩, ?_⟩
    · intro b off hp
      have hp2 : MemPlace.cell b off ∈ before := by rw [hps]; simpa using hp
      rw [hfz _ (hlt _ hp2)]
      exact hz b off hp2
    · intro ha
      have := hn ha
      rw [hps] at this
      simpa using this
    · intro p hp _
      rw [hps]
      simpa using hp
/-- Arguments read again as they did. -/
theorem again {ts : List TypeId} {vs : List Value} {ds : List (DataW H)} {p : List MemPlace} {W' : World} (K : Kids P (· < P.types.size)) (full : ∀ t e, t < P.types.size → P.underlying t = some (.slice e) → 0 < P.cellsOf e) (hts : ∀ t ∈ ts, t < P.types.size)
    (hA : DataW.TrodAll enc P W 0 (fun _ => true) true ts vs ds p) (hb : Below W.heap.size W W') (hlt : ∀ q ∈ p, q.block < W.heap.size) (sp : Nat → Bool) (hs : ∀ q ∈ p, sp q.block = true) : DataW.TrodAll enc P W' 0 sp true ts vs ds p := by
  have hA' := DataW.TrodAll.respare K full hts hA hs
  clear hA hs hts
  induction ts generalizing vs ds p with
  | nil => match vs, ds, hA' with
    | [], [], h => exact h
  | cons t ts ih => match vs, ds, hA' with
    | v :: vs, d :: ds, ⟨p1, p2, ⟨n, h1⟩, h2, e⟩ =>
      subst e
      exact ⟨p1, p2, ⟨n, DataW.trod_carry n _ _ _ h1 fun q hq => hb.same (hlt q (List.mem_append_left _ hq))⟩, ih (fun q hq => hlt q (List.mem_append_right _ hq)) h2, rfl⟩
end
end Go.Ev
/- A law's arguments, as the evaluator's memory: structs, rows, and lists of lists. -/
namespace Go.Ev
open Go Go.ChangeShapes Go.WideShapes Go.ChangeAt Go.RowKit
section
variable {H : Type} {enc : TypeId × Value → H} {P : Program} {W : World}
/-- Fields one behind the other are the whole. -/
theorem lay_flat {n : Nat} : ∀ (fs : List Field) (off : Nat), layOk P off fs n = true → ∀ (cs : List Value), cs.length = n → (fs.map fun f => (cs.drop f.offset).take (P.cellsOf f.type)).flatten = cs.drop off := by
  intro fs
  induction fs with
  | nil =>
    intro off h cs hc
    have : off = n := Nat.eq_of_beq_eq_true h
    rw [List.drop_of_length_le (by omega)]; rfl
  | cons f fs ih =>
    intro off h cs hc
    simp only [layOk, Bool.and_eq_true] at h
    have h1 : f.offset = off := Nat.eq_of_beq_eq_true h.1
    rw [List.map_cons, List.flatten_cons, ih _ h.2 cs hc, h1, ← List.drop_drop, List.take_append_drop]
theorem lay_part {n : Nat} : ∀ (fs : List Field) (off : Nat), layOk P off fs n = true → ∀ (evs : List (List Value)), evs.length = fs.length → (∀ (i : Nat) f ev, fs[i]? = some f → evs[i]? = some ev → ev.length = P.cellsOf f.type) →
    ∀ (i : Nat) f ev, fs[i]? = some f → evs[i]? = some ev → off ≤ f.offset ∧ (evs.flatten.drop (f.offset - off)).take (P.cellsOf f.type) = ev := by
  intro fs
  induction fs with
  | nil => intro off _ evs _ _ i f ev hf; simp at hf
  | cons g fs ih =>
    intro off h evs hl hlen i f ev hf he
    simp only [layOk, Bool.and_eq_true] at h
    have h1 : g.offset = off := Nat.eq_of_beq_eq_true h.1
    rcases evs with _ | ⟨e0, evs⟩
    · simp at hl
    have hl0 : e0.length = P.cellsOf g.type := hlen 0 g e0 rfl rfl
    cases i with
    | zero =>
      simp at hf he
      subst hf he
      refine ⟨by omega, ?_⟩
      rw [h1, Nat.sub_self, List.drop_zero, List.flatten_cons, ← hl0, List.take_left]
    | succ i =>
      obtain ⟨g1, g2⟩ := ih _ h.2 evs (by simpa using hl) (fun i f ev a b => hlen (i + 1) f ev (by simpa using a) (by simpa using b)) i f ev (by simpa using hf) (by simpa using he)
      refine ⟨by omega, ?_⟩
      rw [List.flatten_cons, List.drop_append, List.drop_of_length_le (by omega), List.nil_append, show f.offset - off - e0.length = f.offset - (off + P.cellsOf g.type) by omega]
      exact g2
theorem lay_fit {n : Nat} : ∀ (fs : List Field) (off : Nat), layOk P off fs n = true → off ≤ n ∧ ∀ f ∈ fs, f.offset + P.cellsOf f.type ≤ n := by
  intro fs
  induction fs with
  | nil => intro off h; exact ⟨Nat.le_of_eq (Nat.eq_of_beq_eq_true h), fun f hf => by cases hf⟩
  | cons g fs ih =>
    intro off h
    simp only [layOk, Bool.and_eq_true] at h
    have h1 : g.offset = off := Nat.eq_of_beq_eq_true h.1
    obtain ⟨a, b⟩ := ih _ h.2
    refine ⟨by omega, fun f hf => ?_⟩
    rcases List.mem_cons.1 hf with rfl | hf
    · omega
    · exact b f hf
theorem build_struct {n : Nat} {fs : Array Field} {t : TypeId} (he : ∀ f ∈ fs.toList, Builds H enc P W n f.type) (hlay : layOk P 0 fs.toList (P.cellsOf t) = true) (hu : P.underlying t = some (.struct fs)) : Builds H enc P W (n + 1) t := by
  intro cs d ps h ι hp B
  have h : (if cs.length = P.cellsOf t then (fs.toList.mapM fun f => DataW.trod enc P W 0 (fun _ => true) true n f.type ((cs.drop f.offset).take (P.cellsOf f.type))).map fun xs => (DataW.agg (xs.map (·.1)), xs.flatMap (·.2)) else none) = some (d, ps) := by
    unfold DataW.trod at h
    rw [hu] at h
    exact h
  split at h
  · rename_i hc
    obtain ⟨xs, h1, h2⟩ := Option.map_eq_some_iff.1 h
    injection h2 with h2 _
    subst h2
    have l1 := Lib.mapM_length h1
    let l : List (TypeId × List Value × DataW H) := (fs.toList.zip (xs.map (·.1))).map fun p => (p.1.type, (cs.drop p.1.offset).take (P.cellsOf p.1.type), p.2)
    have hll : l.length = fs.toList.length := by simp [l, l1]
    have lget : ∀ i (hi : i < l.length), ∃ f x, fs.toList[i]? = some f ∧ xs[i]? = some x ∧ l[i] = (f.type, (cs.drop f.offset).take (P.cellsOf f.type), x.1) ∧ DataW.trod enc P W 0 (fun _ => true) true n f.type ((cs.drop f.offset).take (P.cellsOf f.type)) = some x := by
      intro i hi
      have hi1 : i < fs.toList.length := by omega
      have hi2 : i < xs.length := by omega
      obtain ⟨b, e1, e2⟩ := Lib.mapM_at h1 i _ (List.getElem?_eq_getElem hi1)
      rw [List.getElem?_eq_getElem hi2] at e1
      obtain rfl := Option.some.inj e1
      exact ⟨_, _, List.getElem?_eq_getElem hi1, List.getElem?_eq_getElem hi2, by simp [l], e2⟩
    obtain ⟨ι1, h3, evs, E1, B1, L1, V1, O1, D1⟩ := build_list l (fun p hpm => by
      obtain ⟨i, hi, rfl⟩ := List.getElem_of_mem hpm
      obtain ⟨f, x, a1, a2, a3, a4⟩ := lget i hi
      rw [a3]
      exact ⟨he f (List.mem_of_getElem? a1), _, a4⟩) ι hp B
    have hcells : l.map (·.2.1) = fs.toList.map fun f => (cs.drop f.offset).take (P.cellsOf f.type) := by
      refine List.ext_getElem (by simp [hll]) fun i hi hi' => ?_
      have hi3 : i < l.length := by simpa using hi
      obtain ⟨f, x, a1, a2, a3, a4⟩ := lget i hi3
      have hi4 : i < fs.toList.length := by omega
      have hf : fs.toList[i] = f := by rw [List.getElem?_eq_getElem hi4] at a1; exact Option.some.inj a1
      simp only [List.getElem_map]
      rw [a3, hf]
    rw [hcells, lay_flat fs.toList 0 hlay cs hc, List.drop_zero] at V1
    refine ⟨ι1, h3, evs.flatten, E1, B1, V1, O1, ?_⟩
    unfold DE
    rw [hu]
    have hlen : ∀ (i : Nat) f ev, fs.toList[i]? = some f → evs[i]? = some ev → ev.length = P.cellsOf f.type := by
      intro i f ev hf hev
      have hi : i < l.length := by have := (List.getElem?_eq_some_iff.1 hf).1; omega
      obtain ⟨ev', e1, e2, _⟩ := D1 i hi
      rw [hev] at e1
      obtain rfl := Option.some.inj e1
      obtain ⟨f', x, a1, a2, a3, a4⟩ := lget i hi
      rw [hf] at a1
      obtain rfl := Option.some.inj a1
      rw [← e2.1, a3]
      have hfit := (lay_fit fs.toList 0 hlay).2 f (List.mem_of_getElem? hf)
      show ((cs.drop f.offset).take (P.cellsOf f.type)).length = _
      rw [List.length_take, List.length_drop]; omega
    refine ⟨by rw [← V1.1]; exact hc, by simp [l1], fun i hi f hf => ?_⟩
    have hi2 : i < l.length := by simp at hi; omega
    obtain ⟨ev, e1, e2, e3⟩ := D1 i hi2
    obtain ⟨f', x, a1, a2, a3, a4⟩ := lget i hi2
    have hf' : fs.toList[i]? = some f := by rw [Array.getElem?_toList]; exact hf
    rw [hf'] at a1
    obtain rfl := Option.some.inj a1
    have := (lay_part fs.toList 0 hlay evs (by omega) hlen i f ev hf' e1).2
    rw [Nat.sub_zero] at this
    rw [this]
    rw [a3] at e3
    have hx : (xs.map (·.1))[i]'(by simpa using hi) = x.1 := by
      have hi3 : i < xs.length := by simpa using hi
      rw [List.getElem?_eq_getElem hi3] at a2
      obtain rfl := Option.some.inj a2
      simp
    rw [hx]; exact e3
  · cases h
/-- The parts of a struct. -/
theorem DE_struct {h : Hp} {n : Nat} {t : TypeId} {fs : Array Field} (hu : P.underlying t = some (.struct fs)) {cs : List Value} {d : DataW H} (hd : DE P h (n + 1) t cs d) :
    cs.length = P.cellsOf t ∧ ∀ (i : Nat) (f : Field), fs[i]? = some f → ∃ d' : DataW H, DE P h n f.type ((cs.drop f.offset).take (P.cellsOf f.type)) d' := by
  unfold DE at hd
  rw [hu] at hd
  split at hd
  all_goals first | (rename_i heq; cases heq; done) | skip
  · rename_i fs' parts heq
    injection heq with heq; injection heq with heq
    subst heq
    obtain ⟨h1, h2, h3⟩ := hd
    refine ⟨h1, fun i f hf => ?_⟩
    have hi : i < parts.length := by rw [h2]; exact (Array.getElem?_eq_some_iff.1 hf).1
    exact ⟨_, h3 i hi f hf⟩
  all_goals first | exact hd.elim | skip
end
end Go.Ev
/- A law's arguments, as the evaluator's memory: rows. -/
namespace Go.Ev
open Go Go.ChangeShapes Go.WideShapes Go.ChangeAt Go.RowKit
section
variable {H : Type} {enc : TypeId × Value → H} {P : Program} {W : World}
theorem row_flat {w : Nat} : ∀ (m : Nat) (cs : List Value), cs.length = m * w → ((List.range m).map fun i => (cs.drop (i * w)).take w).flatten = cs := by
  intro m
  induction m with
  | zero => intro cs h; rw [Nat.zero_mul] at h; rw [List.length_eq_zero_iff.1 h]; rfl
  | succ m ih =>
    intro cs h
    have e : cs = cs.take (m * w) ++ cs.drop (m * w) := (List.take_append_drop ..).symm
    have hm : (cs.take (m * w)).length = m * w := by rw [List.length_take, h, Nat.add_mul]; omega
    rw [List.range_succ, List.map_append, List.flatten_append]
    have e1 : ((List.range m).map fun i => (cs.drop (i * w)).take w) = (List.range m).map fun i => ((cs.take (m * w)).drop (i * w)).take w := by
      refine List.map_congr_left fun i hi => ?_
      have hi := List.mem_range.1 hi
      have : (i + 1) * w ≤ m * w := Nat.mul_le_mul_right w hi
      rw [Nat.add_mul] at this
      rw [List.drop_take, List.take_take, Nat.min_eq_left (by omega)]
    rw [e1, ih _ hm]
    simp only [List.map_cons, List.map_nil, List.flatten_cons, List.flatten_nil, List.append_nil]
    rw [List.take_of_length_le (l := cs.drop (m * w)) (by rw [List.length_drop, h, Nat.add_mul]; omega)]
    exact List.take_append_drop ..
theorem build_array {n m : Nat} {e t : TypeId} (he : Builds H enc P W n e) (hsz : P.cellsOf t = m * P.cellsOf e) (hu : P.underlying t = some (.array m e)) : Builds H enc P W (n + 1) t := by
  intro cs d ps h ι hp B
  have h : (if cs.length = P.cellsOf t then ((List.range m).mapM fun i => DataW.trod enc P W 0 (fun _ => true) true n e ((cs.drop (i * P.cellsOf e)).take (P.cellsOf e))).map fun xs => (DataW.agg (xs.map (·.1)), xs.flatMap (·.2)) else none) = some (d, ps) := by
    unfold DataW.trod at h
    rw [hu] at h
    exact h
  split at h
  · rename_i hc
    obtain ⟨xs, h1, h2⟩ := Option.map_eq_some_iff.1 h
    injection h2 with h2 _
    subst h2
    have l1 := Lib.mapM_length h1
    rw [List.length_range] at l1
    let l : List (TypeId × List Value × DataW H) := (List.range m).map fun i => (e, (cs.drop (i * P.cellsOf e)).take (P.cellsOf e), ((xs.map (·.1))[i]?).getD .nil)
    have hll : l.length = m := by simp [l]
    have lget : ∀ i (hi : i < l.length), ∃ x, xs[i]? = some x ∧ l[i] = (e, (cs.drop (i * P.cellsOf e)).take (P.cellsOf e), x.1) ∧ DataW.trod enc P W 0 (fun _ => true) true n e ((cs.drop (i * P.cellsOf e)).take (P.cellsOf e)) = some x := by
      intro i hi
      have hi1 : i < m := by omega
      have hi2 : i < xs.length := by omega
      obtain ⟨b, e1, e2⟩ := Lib.mapM_at h1 i i (by simp [hi1])
      rw [List.getElem?_eq_getElem hi2] at e1
      obtain rfl := Option.some.inj e1
      exact ⟨_, List.getElem?_eq_getElem hi2, by simp [l, hi2], e2⟩
    obtain ⟨ι1, h3, evs, E1, B1, L1, V1, O1, D1⟩ := build_list l (fun p hpm => by
      obtain ⟨i, hi, rfl⟩ := List.getElem_of_mem hpm
      obtain ⟨x, a2, a3, a4⟩ := lget i hi
      rw [a3]
      exact ⟨he, _, a4⟩) ι hp B
    have hcells : l.map (·.2.1) = (List.range m).map fun i => (cs.drop (i * P.cellsOf e)).take (P.cellsOf e) := by simp [l]
    rw [hcells, row_flat m cs (by rw [hc, hsz])] at V1
    refine ⟨ι1, h3, evs.flatten, E1, B1, V1, O1, ?_⟩
    unfold DE
    rw [hu]
    have hw : ∀ x ∈ evs, x.length = P.cellsOf e := by
      intro x hx
      obtain ⟨i, hi, rfl⟩ := List.getElem_of_mem hx
      obtain ⟨ev, e1, e2, _⟩ := D1 i (by omega)
      rw [List.getElem?_eq_getElem hi] at e1
      obtain rfl := Option.some.inj e1
      obtain ⟨x, a2, a3, a4⟩ := lget i (by omega)
      rw [← e2.1, a3]
      have : (i + 1) * P.cellsOf e ≤ m * P.cellsOf e := Nat.mul_le_mul_right _ (by omega)
      rw [Nat.add_mul] at this
      show ((cs.drop (i * P.cellsOf e)).take (P.cellsOf e)).length = _
      rw [List.length_take, List.length_drop, hc, hsz]; omega
    refine ⟨by rw [← V1.1]; exact hc, by simp [l1], fun i hi => ?_⟩
    have hi2 : i < l.length := by simp at hi; omega
    obtain ⟨ev, e1, e2, e3⟩ := D1 i hi2
    obtain ⟨x, a2, a3, a4⟩ := lget i hi2
    rw [(flat_row hw).2 i ev e1]
    rw [a3] at e3
    have hx : (xs.map (·.1))[i]'(by simpa using hi) = x.1 := by
      have hi3 : i < xs.length := by simpa using hi
      rw [List.getElem?_eq_getElem hi3] at a2
      obtain rfl := Option.some.inj a2
      simp
    rw [hx]; exact e3
  · cases h
/-- Cells are whole numbers of a kind, each in its range. -/
def AllInt (k : IntKind) (cs : List Value) : Prop := ∀ v ∈ cs, ∃ x, v = .int k x ∧ (Lit.int k x).wf = true
theorem AllInt.list {k : IntKind} : ∀ {cs : List Value}, AllInt k cs → ∃ xs : List Int, cs = xs.map (Value.int k) ∧ ∀ x ∈ xs, (Lit.int k x).wf = true := by
  intro cs
  induction cs with
  | nil => intro _; exact ⟨[], rfl, fun x h => by cases h⟩
  | cons v cs ih =>
    intro h
    obtain ⟨x, rfl, hx⟩ := h v (List.mem_cons_self ..)
    obtain ⟨xs, rfl, hxs⟩ := ih fun w hw => h w (List.mem_cons_of_mem _ hw)
    exact ⟨x :: xs, rfl, fun y hy => by
      rcases List.mem_cons.1 hy with rfl | hy
      · exact hx
      · exact hxs y hy⟩
theorem DE_allInt {h : Hp} {n : Nat} {t : TypeId} {k : IntKind} (hu : P.underlying t = some (.int k)) {cs : List Value} {d : DataW H} (hd : DE P h n t cs d) : AllInt k cs := by
  obtain ⟨x, rfl, hx⟩ := DE_int hu hd
  intro v hv
  exact ⟨x, List.mem_singleton.1 hv, hx⟩
/-- A row's cells are those of its parts. -/
theorem DE_array {h : Hp} {n m : Nat} {t e : TypeId} (hu : P.underlying t = some (.array m e)) (hsz : P.cellsOf t = m * P.cellsOf e) {k : IntKind} (he : ∀ n cs (d : DataW H), DE P h n e cs d → AllInt k cs) {cs : List Value} {d : DataW H} (hd : DE P h n t cs d) : cs.length = P.cellsOf t ∧ AllInt k cs := by
  cases n with
  | zero => exact hd.elim
  | succ n =>
    unfold DE at hd
    rw [hu] at hd
    split at hd
    all_goals first | (rename_i heq; cases heq; done) | skip
    · rename_i m' e' parts heq
      injection heq with heq; injection heq with h1 h2
      subst h1 h2
      obtain ⟨h1, h2, h3⟩ := hd
      refine ⟨h1, fun v hv => ?_⟩
      obtain ⟨j, hj, rfl⟩ := List.getElem_of_mem hv
      have hw : 0 < P.cellsOf e := by
        rcases Nat.eq_zero_or_pos (P.cellsOf e) with h0 | h0
        · rw [h1, hsz, h0] at hj; omega
        · exact h0
      have hi : j / P.cellsOf e < parts.length := by
        rw [h2]
        exact Nat.div_lt_of_lt_mul (by rw [Nat.mul_comm, ← hsz, ← h1]; exact hj)
      refine he _ _ _ (h3 _ hi) _ ?_
      have hmod := Nat.mod_lt j hw
      have hdm := Nat.div_add_mod j (P.cellsOf e)
      refine List.mem_iff_getElem?.2 ⟨j % P.cellsOf e, ?_⟩
      rw [List.getElem?_take_of_lt hmod, List.getElem?_drop, Nat.mul_comm, hdm, List.getElem?_eq_getElem hj]
    all_goals first | exact hd.elim | skip
theorem wf_rng {k : IntKind} {x : Int} (h : (Lit.int k x).wf = true) : k.min ≤ x ∧ x ≤ k.max := by
  have h : (decide (k.min ≤ x) && decide (x ≤ k.max)) = true := h
  simpa using h
end
end Go.Ev
namespace Go.Proofs.YtfgfhplgnfbaaaaDoor
open Go.Ev
theorem works_ev : saysTrue (evCall Tryd.prog 1000 100 27 [] h0) = true := by kernel_rfl
end Go.Proofs.YtfgfhplgnfbaaaaDoor
/- Two writes into one row are one append and one write. -/
namespace Go.Ev
open Go
theorem sc_get {w : World} {b o : Nat} {vs : List Value} {c : Array Value} {e : TypeId} {fr : Nat × Nat} (hb : w.heap[b]? = some (.cells c e fr)) (hl : o + vs.length ≤ c.size) :
    ∃ c2, (w.setCells b o vs).heap[b]? = some (.cells c2 e fr) ∧ c2.size = c.size ∧ ∀ i, c2[i]? = if o ≤ i ∧ i < o + vs.length then vs[i - o]? else c[i]? := by
  obtain ⟨_, _, _, _, _, s6⟩ := setCells_facts b vs o w
  obtain ⟨c2, h1, h2, h3⟩ := s6 _ _ _ hb
  exact ⟨c2, h1, h2, h3 hl⟩
/-- In place: what stands from the place on is moved up, then the value is laid. -/
theorem ins_shift {w : World} {b p i n : Nat} {x : Value} {cs : List Value} {c : Array Value} {e : TypeId} {fr : Nat × Nat} (hb : w.heap[b]? = some (.cells c e fr)) (hn : cs.length = n) (hi : i ≤ n) (hl : p + n + 1 ≤ c.size) :
    ((w.drew.setCells b (p + (i + 1)) (cs.drop i)).setCells b (p + i) [x]).heap = ((w.setCells b (p + n) [x]).setCells b (p + i) (x :: cs.drop i)).heap := by
  have hdl : (cs.drop i).length = n - i := by rw [List.length_drop, hn]
  have hbd : w.drew.heap[b]? = some (.cells c e fr) := hb
  obtain ⟨c1, a1, a2, a3⟩ := sc_get (o := p + (i + 1)) (vs := cs.drop i) hbd (by omega)
  obtain ⟨c2, b1, b2, b3⟩ := sc_get (o := p + i) (vs := [x]) a1 (by rw [a2]; show p + i + 1 ≤ _; omega)
  obtain ⟨c3, d1, d2, d3⟩ := sc_get (o := p + n) (vs := [x]) hb (by show p + n + 1 ≤ _; omega)
  obtain ⟨c4, e1, e2, e3⟩ := sc_get (o := p + i) (vs := x :: cs.drop i) d1 (by rw [d2, List.length_cons]; omega)
  refine Array.ext_getElem? fun q => ?_
  by_cases hq : q = b
  · subst hq
    rw [b1, e1]
    have : c2 = c4 := by
      refine Array.ext_getElem? fun j => ?_
      rw [b3, e3, a3, d3]
      simp only [List.length_cons, List.length_nil, hdl]
      by_cases h1 : j < p + i
      · rw [if_neg (by omega), if_neg (by omega), if_neg (by omega), if_neg (by omega)]
      · by_cases h2 : j = p + i
        · subst h2
          rw [if_pos (by omega), if_pos (by omega), Nat.sub_self]; rfl
        · by_cases h3 : j < p + n + 1
          · rw [if_neg (by omega), if_pos (by omega), if_pos (by omega)]
            have : j - (p + i) = (j - (p + (i + 1))) + 1 := by omega
            rw [this, List.getElem?_cons_succ]
          · rw [if_neg (by omega), if_neg (by omega), if_neg (by omega), if_neg (by omega)]
    rw [this]
  · obtain ⟨_, _, _, _, s5, _⟩ := setCells_facts b [x] (p + i) (w.drew.setCells b (p + (i + 1)) (cs.drop i))
    obtain ⟨_, _, _, _, t5, _⟩ := setCells_facts b (cs.drop i) (p + (i + 1)) w.drew
    obtain ⟨_, _, _, _, u5, _⟩ := setCells_facts b (x :: cs.drop i) (p + i) (w.setCells b (p + n) [x])
    obtain ⟨_, _, _, _, v5, _⟩ := setCells_facts b [x] (p + n) w
    rw [s5 q hq, t5 q hq, u5 q hq, v5 q hq]; rfl
/-- At the end: written twice is written once. -/
theorem ins_end {w : World} {b p : Nat} {x : Value} {c : Array Value} {e : TypeId} {fr : Nat × Nat} (hb : w.heap[b]? = some (.cells c e fr)) (hl : p + 1 ≤ c.size) :
    (w.setCells b p [x]).heap = ((w.setCells b p [x]).setCells b p [x]).heap := by
  obtain ⟨c3, d1, d2, d3⟩ := sc_get (o := p) (vs := [x]) hb hl
  obtain ⟨c4, e1, _, e3⟩ := sc_get (o := p) (vs := [x]) d1 (by rw [d2]; exact hl)
  refine Array.ext_getElem? fun q => ?_
  by_cases hq : q = b
  · subst hq
    rw [d1, e1]
    have : c3 = c4 := by
      refine Array.ext_getElem? fun j => ?_
      rw [e3, d3]
      split
      · rfl
      · rfl
    rw [this]
  · obtain ⟨_, _, _, _, u5, _⟩ := setCells_facts b [x] p (w.setCells b p [x])
    rw [u5 q hq]
/-- A new row. -/
theorem ins_grow {w : World} {i n : Nat} {x : Value} {cs : List Value} {Z1 Z2 : Array Value} {e : TypeId} (hn : cs.length = n) (hi : i ≤ n) (hz : Z1.size = n + 1 - i) :
    (((w.alloc (.cells ((cs.take i).toArray ++ Z1 ++ Z2) e)).drew.setCells w.heap.size i [x]).drew.setCells w.heap.size (i + 1) (cs.drop i)).heap = ((w.drew.alloc (.cells ((cs ++ [x]).toArray ++ Z2) e)).setCells w.heap.size i (x :: cs.drop i)).heap := by
  have hdl : (cs.drop i).length = n - i := by rw [List.length_drop, hn]
  have htl : (cs.take i).length = i := by rw [List.length_take, hn]; omega
  have hA : (w.alloc (.cells ((cs.take i).toArray ++ Z1 ++ Z2) e)).drew.heap[w.heap.size]? = some (.cells ((cs.take i).toArray ++ Z1 ++ Z2) e (0, 0)) := by
    show (w.alloc _).heap[w.heap.size]? = _
    rw [alloc_get, if_pos rfl]
  have hB : (w.drew.alloc (.cells ((cs ++ [x]).toArray ++ Z2) e)).heap[w.heap.size]? = some (.cells ((cs ++ [x]).toArray ++ Z2) e (0, 0)) := by
    rw [alloc_get]; exact if_pos rfl
  have sA : ((cs.take i).toArray ++ Z1 ++ Z2).size = n + 1 + Z2.size := by simp only [Array.size_append, List.size_toArray, htl, hz]; omega
  have sB : ((cs ++ [x]).toArray ++ Z2).size = n + 1 + Z2.size := by simp only [Array.size_append, List.size_toArray, List.length_append, hn, List.length_cons, List.length_nil]
  obtain ⟨c1, a1, a2, a3⟩ := sc_get (o := i) (vs := [x]) hA (by rw [sA]; show i + 1 ≤ _; omega)
  have a1 : ((w.alloc (.cells ((cs.take i).toArray ++ Z1 ++ Z2) e)).drew.setCells w.heap.size i [x]).drew.heap[w.heap.size]? = some (.cells c1 e (0, 0)) := a1
  obtain ⟨c2, b1, b2, b3⟩ := sc_get (o := i + 1) (vs := cs.drop i) a1 (by rw [a2, sA]; omega)
  obtain ⟨c4, e1, e2, e3⟩ := sc_get (o := i) (vs := x :: cs.drop i) hB (by rw [sB, List.length_cons]; omega)
  refine Array.ext_getElem? fun q => ?_
  by_cases hq : q = w.heap.size
  · subst hq
    rw [b1, e1]
    have : c2 = c4 := by
      refine Array.ext_getElem? fun j => ?_
      rw [b3, e3, a3]
      simp only [List.length_cons, List.length_nil, hdl]
      by_cases h1 : j < i
      · rw [if_neg (by omega), if_neg (by omega), if_neg (by omega)]
        rw [Array.append_assoc, Array.getElem?_append, if_pos (by simp only [List.size_toArray, htl]; exact h1), Array.getElem?_append, if_pos (by simp only [List.size_toArray, List.length_append, hn]; omega)]
        simp only [List.getElem?_toArray]
        rw [List.getElem?_take, if_pos h1, List.getElem?_append_left (by omega)]
      · by_cases h2 : j = i
        · subst h2
          rw [if_neg (by omega), if_pos (by omega), if_pos (by omega), Nat.sub_self]; rfl
        · by_cases h3 : j < n + 1
          · rw [if_pos (by omega), if_pos (by omega)]
            have : j - i = (j - (i + 1)) + 1 := by omega
            rw [this, List.getElem?_cons_succ]
          · rw [if_neg (by omega), if_neg (by omega), if_neg (by omega)]
            rw [Array.getElem?_append, if_neg (by simp only [Array.size_append, List.size_toArray, htl, hz]; omega), Array.getElem?_append, if_neg (by simp only [List.size_toArray, List.length_append, hn, List.length_cons, List.length_nil]; omega)]
            simp only [Array.size_append, List.size_toArray, htl, hz, List.length_append, hn, List.length_cons, List.length_nil]
            congr 1; omega
    rw [this]
  · obtain ⟨_, _, _, _, s5, _⟩ := setCells_facts w.heap.size (cs.drop i) (i + 1) ((w.alloc (.cells ((cs.take i).toArray ++ Z1 ++ Z2) e)).drew.setCells w.heap.size i [x]).drew
    obtain ⟨_, _, _, _, t5, _⟩ := setCells_facts w.heap.size [x] i (w.alloc (.cells ((cs.take i).toArray ++ Z1 ++ Z2) e)).drew
    obtain ⟨_, _, _, _, u5, _⟩ := setCells_facts w.heap.size (x :: cs.drop i) i (w.drew.alloc (.cells ((cs ++ [x]).toArray ++ Z2) e))
    rw [s5 q hq, u5 q hq]
    show ((w.alloc _).drew.setCells w.heap.size i [x]).heap[q]? = _
    rw [t5 q hq]
    show (w.alloc _).heap[q]? = _
    rw [alloc_get, if_neg hq, alloc_get]
    exact (if_neg hq).symm
end Go.Ev
/- slices.Insert of one whole number, answered beforehand: an append and a write. -/
namespace Go.Ev
open Go
/-- One number is put into a list that grows, at a place: what the evaluator's memory is behind it. -/
noncomputable def insV (h : Hp) (args : List Value) : Option (Value × Hp) := match args with
  | [s, .int .i64 (.ofNat i), .slice (some ⟨v, 0, none⟩) 1 1] => match h.get v with
    | some (.cells [x] 3 .fix) => bif flat x then (match s with
      | .slice none 0 0 => bif Nat.beq i 0 then (appSome h 3 8 1 s [x] 1).bind fun r => (writeAt r.2 h.nx i [x]).map fun h' => (r.1, h') else none
      | .slice (some ⟨o, 0, none⟩) n c => match h.get o with
        | some (.cells old 3 .grow) => bif Nat.beq c unk && Nat.beq n old.length && Nat.ble i n && !(Nat.beq o v) then
            (appSome h 3 8 1 s [x] 1).bind fun r => (writeAt r.2 h.nx i (x :: old.drop i)).map fun h' => (r.1, h')
          else none
        | _ => none
      | _ => none) else none
    | _ => none
  | _ => none
/-- A list that grows, and is full, is appended to at a new number. -/
theorem ins_app {h : Hp} {o : Nat} {old : List Value} {x : Value} (hg : h.get o = some (.cells old 3 .grow)) : appSome h 3 8 1 (.slice (some ⟨o, 0, none⟩) old.length unk) [x] 1 = (appNew h 3 8 old [x] (old.length + 1)).bind fun r => (r.2.put o none).map fun h' => (r.1, h') := by
  have e1 : Nat.ble (0 + (old.length + 1) * 1) old.length = false := by rw [Bool.eq_false_iff]; intro hh; have := Nat.le_of_ble_eq_true hh; omega
  have e2 : Nat.beq (0 + old.length * 1) old.length = true := by rw [Nat.zero_add, Nat.mul_one]; exact Nat.beq_refl _
  show (match h.get o with
    | some (.cells c e' m) =>
      bif Nat.beq unk unk then
        bif Nat.beq 3 e' && isGrow m then
          bif Nat.ble (0 + (old.length + 1) * 1) c.length then (writeAt h o (0 + old.length * 1) [x]).map fun h' => (Value.slice (some ⟨o, 0, none⟩) (old.length + 1) unk, h')
          else bif Nat.beq (0 + old.length * 1) c.length then (appNew h 3 8 (c.drop 0) [x] (old.length + 1)).bind fun r => (r.2.put o none).map fun h' => (r.1, h')
          else none
        else none
      else bif Nat.ble (old.length + 1) unk then (writeAt h o (0 + old.length * 1) [x]).map fun h' => (Value.slice (some ⟨o, 0, none⟩) (old.length + 1) unk, h')
      else (readAt h o 0 (old.length * 1)).bind fun old' => appNew h 3 8 old' [x] (old.length + 1)
    | _ => none) = _
  rw [hg]
  simp only [Nat.beq_refl, cond_true, e1, cond_false, e2, List.drop_zero, isGrow, Bool.and_self]
end Go.Ev
/- The oracle for slices.Insert is sound. -/
namespace Go.Ev
open Go Go.Shelf Go.Proofs
/-- A world with the same memory, reached with other draws. -/
theorem Went.world {P : Program} {h h' : Hp} {ι ι' : Inj} {w wB wC : World} (g : Went P h ι w h' ι' wB) (hh : wC.heap = wB.heap) (h1 : wC.os = wB.os) (h2 : wC.tape = wB.tape) (h3 : wC.output = wB.output) : Went P h ι w h' ι' wC :=
  { g with
    rh := g.rh.world hh
    fr := ⟨h2.trans g.fr.tape, h1.trans g.fr.os, h3.trans g.fr.output, by rw [hh]; exact g.fr.size, fun b hb hall => by rw [hh]; exact g.fr.rest b hb hall⟩ }
/-- What is written is there already. -/
theorem ins_same {w : World} {b p : Nat} {x : Value} {c : Array Value} {e : TypeId} {fr : Nat × Nat} (hb : w.heap[b]? = some (.cells c e fr)) (hx : c[p]? = some x) : (w.setCells b p [x]).heap = w.heap := by
  have hl := (Array.getElem?_eq_some_iff.1 hx).1
  obtain ⟨c3, d1, _, d3⟩ := sc_get (o := p) (vs := [x]) hb (by show p + 1 ≤ _; omega)
  refine Array.ext_getElem? fun q => ?_
  by_cases hq : q = b
  · subst hq
    rw [d1, hb]
    have : c3 = c := by
      refine Array.ext_getElem? fun j => ?_
      rw [d3]
      split
      · rename_i h
        have : j = p := by simp only [List.length_cons, List.length_nil] at h; omega
        rw [this, Nat.sub_self, hx]; rfl
      · rfl
    rw [this]
  · obtain ⟨_, _, _, _, u5, _⟩ := setCells_facts b [x] p w
    exact u5 q hq
theorem slu_inv {ι : Inj} {o n b off c : Nat} (h : VR ι (.slice (some ⟨o, 0, none⟩) (n + 1) unk) (.slice (some ⟨b, off, none⟩) (n + 1) c)) : ∃ vw, ι o = some vw ∧ vw.blk = b ∧ vw.base + 0 = off := by
  cases h with
  | flat hf => simp [flat, flatN] at hf
  | slc _ hne => exact absurd rfl hne
  | slu hvw1 _ _ => exact ⟨_, hvw1, rfl, rfl⟩
/-- The word that is to be shown. -/
def InsQ (P : Program) (ι : Inj) (h : Hp) (w : World) (h' : Hp) (rv : Value) : Ending → World → Prop := fun e w' => ∃ ι' v', e = .returned v' ∧ Went P h ι w h' ι' w' ∧ VR ι' rv v'
section
variable {P : Program} {ρ : Ren} (L : Lays2.n21 P ρ) (t3 : ρ.t 3 = 3) {T : TypeId} (t22 : ρ.t 22 = T)
include L t3 t22
theorem ins_ty : ∃ i0, P.info? 3 = some i0 ∧ i0.zero = some (.int .i64 0) ∧ i0.size = 1 ∧ i0.bytes = 8 ∧ P.underlying T = some (.slice 3) := by
  have _ := t22
  obtain ⟨i0, a, b, c, d⟩ := info_parts L.i3
  rw [t3] at a
  have h := L.t22
  rw [t22, t3] at h
  exact ⟨i0, a, b, c, d, h⟩
/-- No room: a new row, whatever stood there. -/
theorem ins_new {ι : Inj} {h h1 h' : Hp} {w : World} (R : RH P ι h w) {s : Value} {base : Option Addr} {n c0 v i : Nat} {old old' : List Value} {x rv : Value} (hn : old.length = n) (hi : i ≤ n) (hfl : flat x = true) (hone : one x = true)
    (hnil : base = none → n = 0 ∧ c0 = 0) (hnc : n ≤ c0) (hroom : c0 < n + 1) (hbig : (n + 1) * 8 ≤ 140737488355328)
    (hold : VRs ι old old') (honeO : ∀ u ∈ old', u.oneCell' = true) (hcs : ∀ a, base = some a → ∀ (j : Nat) u, old'[j]? = some u → w.cell? (a.add j) = some u) (hpl : i < n → ∃ b off, base = some ⟨b, off, none⟩)
    (hv : h.get v = some (.cells [x] 3 .fix)) {x' : Value} (hx : VR ι (.slice (some ⟨v, 0, none⟩) 1 1) x')
    (hs : VR ι s (.slice base n c0)) (happ : appSome h 3 8 1 s [x] 1 = some (rv, h1)) (hrv : rv = .slice (some ⟨h.nx, 0, none⟩) (n + 1) unk) (hw : writeAt h1 h.nx i (x :: old.drop i) = some h') :
    Calls P (ρ.f 21) #[.slice base n c0, .int .i64 (i : Nat), x'] w (InsQ P ι h w h' rv) := by
  obtain ⟨i0, hi0, hz0, hsz, hby, ht⟩ := ins_ty L t3 t22
  have hol : old'.length = n := by rw [hold.1, hn]
  obtain ⟨_, vwv, hvwv, _, cv, ev, frv, hbv, hcv, hfrv, _⟩ := R.live v _ hv
  obtain rfl : frv = (0, 0) := hfrv (by decide)
  have ex : x' = .slice (some ⟨vwv.blk, vwv.base + 0, none⟩) 1 1 := by
    cases hx with
    | flat hf => simp [flat, flatN] at hf
    | slc hvw _ => rw [hvw] at hvwv; rw [Option.some.inj hvwv]
  subst ex
  have hvx : ∀ (j : Nat) u, [x][j]? = some u → w.cell? ⟨vwv.blk, vwv.base + 0 + j, none⟩ = some u := fun j u hj => by
    obtain ⟨y, hy, hvy⟩ := hcv j u hj
    have hj0 : j = 0 := by have := (List.getElem?_eq_some_iff.1 hj).1; simpa using this
    subst hj0
    injection hj with hj
    subst hj
    obtain rfl := VR.of_flat hfl hvy
    simpa [World.cell?, hbv] using hy
  have h1v : ∀ u ∈ [x], u.oneCell' = true := fun u hu => by rw [List.mem_singleton.1 hu, one_eq]; exact hone
  have S : Src P i0.size T (.slice (some ⟨vwv.blk, vwv.base + 0, none⟩) 1 1) 1 [x] w := by
    rw [hsz]
    exact Src.ofSlice w ht ⟨vwv.blk, vwv.base + 0, none⟩ 1 1 [x] rfl (fun j u hj => by rw [Addr.add_lit]; exact hvx j u hj) h1v
  have hA := AppSrc.ofSrc ht hi0 hz0 S
  have happ' : appSome h 3 i0.bytes i0.size s [x] 1 = some (rv, h1) := by rw [hsz, hby]; exact happ
  obtain ⟨ι1, v1, w1, hrun, W1, V1⟩ := appSome_sound R ht hi0 hz0 (by rw [hsz]; decide) (by rw [hsz]; rfl) (n := 1) (by decide) hs (.of_flat (by rw [List.all_cons, hfl]; rfl)) (by rw [List.all_cons, hone]; rfl) hA happ' 22
  have hfc : (Builtin.firstCells i0.size n (.slice base n c0)).run P w.drew = .ok old'.toArray w.drew := by
    rw [hsz]
    cases base with
    | none =>
      obtain ⟨rfl, rfl⟩ := hnil rfl
      rw [List.length_eq_zero_iff.1 hol]
      exact run_firstCells_none w.drew 1 0 0 0
    | some a => exact run_firstCells_some w.drew 1 n a n c0 old' (by omega) (fun j u hj => hcs a rfl j u hj)
  have hgr := hA.grow Nat.one_pos 22 base n c0 old' hfc hroom (by omega) (by rw [hby]; exact growslice_fits hroom hbig)
  rw [hgr] at hrun
  injection hrun with e7 e8
  subst e7 e8
  subst hrv
  generalize hG : grownCap w (n + 1) c0 3 = G at V1 W1 hgr
  have hblk : (w.drew.alloc (.cells ((old' ++ [x]).toArray ++ Builtin.zeroCells (Value.int .i64 0).cells (G - (n + 1))) 3)).heap[w.heap.size]? = some (.cells ((old' ++ [x]).toArray ++ Builtin.zeroCells (Value.int .i64 0).cells (G - (n + 1))) 3 (0, 0)) := by
    rw [alloc_get]; exact if_pos rfl
  obtain ⟨vw1, hvw1, eb, eo⟩ := slu_inv V1
  have hcs' : VRs ι1 (x :: old.drop i) (x :: old'.drop i) := .cons (.flat hfl) ((hold.drop i).mono (W1.mono R))
  have W2 := Went.write W1.rh hw hvw1 hcs'
  rw [eb, show vw1.base + i = i by omega] at W2
  have W := W1.trans W2
  have h63 : G ≤ 9223372036854775807 := by
    have := grownCap_le_maxLen w (n + 1) c0 3 (by unfold maxLen; omega)
    rw [hG] at this
    unfold maxLen at this
    omega
  have fin : ∀ wC : World, wC.heap = ((w.drew.alloc (.cells ((old' ++ [x]).toArray ++ Builtin.zeroCells (Value.int .i64 0).cells (G - (n + 1))) 3)).setCells w.heap.size i (x :: old'.drop i)).heap → wC.os = w.os → wC.tape = w.tape → wC.output = w.output →
      InsQ P ι h w h' (.slice (some ⟨h.nx, 0, none⟩) (n + 1) unk) (.returned (.slice (some ⟨w.heap.size, 0, none⟩) (n + 1) G)) wC := fun wC q1 q2 q3 q4 => by
    obtain ⟨_, s2, s3, s4, _, _⟩ := setCells_facts w.heap.size (x :: old'.drop i) i (w.drew.alloc (.cells ((old' ++ [x]).toArray ++ Builtin.zeroCells (Value.int .i64 0).cells (G - (n + 1))) 3))
    exact ⟨ι1, _, rfl, W.world q1 (q2.trans s3.symm) (q3.trans s2.symm) (q4.trans s4.symm), V1⟩
  by_cases hin : i < n
  · obtain ⟨b, off, rfl⟩ := hpl hin
    refine (Any2.slices_Insert_int_grow L b off n c0 i vwv.blk (vwv.base + 0) 1 1 old' [x] w hin Nat.one_pos hnc hroom hbig hol rfl (fun j u hj => by have := hcs _ rfl j u hj; rwa [Addr.add_lit] at this) hvx honeO h1v).mono fun e w' ⟨he, hw'⟩ => ?_
    rw [t3, hG] at he hw'
    subst he hw'
    have hh := ins_grow (w := w) (i := i) (n := n) (x := x) (cs := old') (Z1 := Builtin.zeroCells (Value.int .i64 0).cells (n + 1 - i)) (Z2 := Builtin.zeroCells (Value.int .i64 0).cells (G - (n + 1))) (e := 3) hol hi (by simp [Builtin.zeroCells, Value.cells])
    have f1 := setCells_facts w.heap.size [x] i (w.alloc (.cells ((old'.take i).toArray ++ Builtin.zeroCells (Value.int .i64 0).cells (n + 1 - i) ++ Builtin.zeroCells (Value.int .i64 0).cells (G - (n + 1))) 3)).drew
    have f2 := setCells_facts w.heap.size (old'.drop i) (i + 1) ((w.alloc (.cells ((old'.take i).toArray ++ Builtin.zeroCells (Value.int .i64 0).cells (n + 1 - i) ++ Builtin.zeroCells (Value.int .i64 0).cells (G - (n + 1))) 3)).drew.setCells w.heap.size i [x]).drew
    exact fin _ hh (f2.2.2.1.trans f1.2.2.1) (f2.2.1.trans f1.2.1) (f2.2.2.2.1.trans f1.2.2.2.1)
  · obtain rfl : i = n := by omega
    refine (Any2.slices_Insert_int_end_grow L base i c0 vwv.blk (vwv.base + 0) 1 1 old' [x] w Nat.one_pos hnc hroom hbig hol rfl (fun h => (hnil h).1) hcs hvx h1v).mono fun e w' ⟨he, hw'⟩ => ?_
    rw [t3, hG] at he hw'
    subst he hw'
    refine fin _ ?_ rfl rfl rfl
    rw [List.drop_of_length_le (Nat.le_of_eq hol)]
    refine (ins_same hblk ?_).symm
    rw [Array.getElem?_append, if_pos (by simp only [List.size_toArray, List.length_append, hol, List.length_cons, List.length_nil]; omega), List.getElem?_toArray, List.getElem?_append_right (Nat.le_of_eq hol), hol, Nat.sub_self]
    rfl
/-- Into a list that grows, and has numbers. -/
theorem ins_some {ι : Inj} {h h1 h' : Hp} {w : World} (R : RH P ι h w) {o v i n : Nat} {old : List Value} (hn : n = old.length) {x s' x' rv : Value} (ho : h.get o = some (.cells old 3 .grow)) (hv : h.get v = some (.cells [x] 3 .fix)) (hov : o ≠ v) (hfl : flat x = true) (hone : one x = true) (hi : i ≤ old.length)
    (happ : appSome h 3 8 1 (.slice (some ⟨o, 0, none⟩) old.length unk) [x] 1 = some (rv, h1)) (hw : writeAt h1 h.nx i (x :: old.drop i) = some h')
    (hs : VR ι (.slice (some ⟨o, 0, none⟩) n unk) s') (hx : VR ι (.slice (some ⟨v, 0, none⟩) 1 1) x') :
    Calls P (ρ.f 21) #[s', .int .i64 (i : Nat), x'] w (InsQ P ι h w h' rv) := by
  obtain ⟨i0, hi0, hz0, hsz, hby, ht⟩ := ins_ty L t3 t22
  have hs1 : VR ι (.slice (some ⟨o, 0, none⟩) old.length unk) s' := hn ▸ hs
  have hsrc : srcCells h 1 (.slice (some ⟨v, 0, none⟩) 1 1) = some ([x], 1) := by
    show (readAt h v 0 (1 * 1)).map _ = _
    unfold readAt
    rw [hv]
    rfl
  obtain ⟨xs', hxs, S⟩ := src_sound (w := w) R hx (.inl ⟨3, ht⟩) hsrc (by rw [List.all_cons, hone]; rfl) (fun _ _ _ h => by cases h) (fun hh => by rw [ht] at hh; cases hh)
  have S' : Src P i0.size T x' 1 xs' w := by rw [hsz]; exact S
  have hA := AppSrc.ofSrc ht hi0 hz0 S'
  have happ' : appSome h 3 i0.bytes i0.size (.slice (some ⟨o, 0, none⟩) old.length unk) [x] 1 = some (rv, h1) := by rw [hsz, hby]; exact happ
  obtain ⟨ι1, v1, w1, hrun, W1, V1⟩ := appSome_sound R ht hi0 hz0 (by rw [hsz]; decide) (by rw [hsz]; rfl) (n := 1) (by decide) hs1 hxs (by rw [List.all_cons, hone]; rfl) hA happ' 22
  have happ0 := happ
  rw [ins_app ho] at happ
  obtain ⟨⟨r1, h2⟩, hnew, hput⟩ := Option.bind_eq_some_iff.1 happ
  obtain ⟨h3, hp, e3⟩ := Option.map_eq_some_iff.1 hput
  injection e3 with e3 e4
  subst e3 e4
  unfold appNew at hnew
  obtain ⟨hbig, hnew⟩ := cond_some hnew
  injection hnew with hnew
  injection hnew with e5 e6
  subst e5 e6
  rw [Bool.and_eq_true] at hbig
  have hb1 := Nat.le_of_ble_eq_true hbig.1
  obtain ⟨_, vwo, hvwo, hco, c', e'', fr, hb, hcells, hfr, hgr⟩ := R.live o _ ho
  obtain rfl : fr = (0, 0) := hfr (by decide)
  obtain ⟨g1, g2, g3, g4, g5⟩ := hgr rfl
  have hesz : vwo.esz = 1 := by
    have : sz P 3 = some 1 := by unfold sz; rw [hi0]; exact congrArg some hsz
    rw [this] at g2; exact (Option.some.inj g2).symm
  obtain ⟨_, vwv, hvwv, _, cv, ev, frv, hbv, hcv, hfrv, _⟩ := R.live v _ hv
  obtain rfl : frv = (0, 0) := hfrv (by decide)
  have hne : vwv.blk ≠ vwo.blk := fun hh => R.apart o v _ _ vwo vwv hov ho rfl hv hvwo hvwv hh.symm
  have hread : readAt h o 0 (old.length * 1) = some old := by
    unfold readAt
    rw [ho]
    simp only [List.drop_zero, Nat.mul_one, List.take_length, Nat.beq_refl, cond_true]
  obtain ⟨a, c0', old', es', q1, q2, q3⟩ := slice_cells (w := w) R hs1 hread
  have hxx : xs' = [x] := by
    obtain ⟨y, c, rfl, hy, hc⟩ := hxs.head
    obtain rfl := VR.of_flat hfl hy
    have : c = [] := List.length_eq_zero_iff.1 hc.1
    rw [this]
  subst hxx
  cases hs with
  | flat hf => simp [flat, flatN] at hf
  | slc _ hne' => exact absurd rfl hne'
  | @slu _ _ _ c0 vw hvw hcc hll =>
    rw [hvw] at hvwo
    obtain rfl := Option.some.inj hvwo
    subst hn
    injection es' with ea _ ec
    injection ea with ea
    subst ea ec
    have hc63 : c0 ≤ 9223372036854775807 := by rw [hesz] at hcc g5; omega
    have h1o : ∀ u ∈ old', u.oneCell' = true := fun u hu => by rw [one_eq]; exact List.all_eq_true.1 (q1.one hco) u hu
    by_cases hroom : old.length + 1 ≤ c0
    · have hsp : ∀ j, j < old.length + 1 → (w.cell? ⟨vw.blk, vw.base + 0 + j, none⟩).isSome = true := fun j hj => by
        have : vw.base + 0 + j < c'.size := by rw [← g1]; rw [hesz] at hcc; omega
        have e : w.cell? ⟨vw.blk, vw.base + 0 + j, none⟩ = c'[vw.base + 0 + j]? := by simp [World.cell?, hb]
        rw [e, Array.getElem?_eq_getElem this]; rfl
      have hfz : ∀ j, w.frozen? ⟨vw.blk, j, none⟩ = false := fun j => by simp [World.frozen?, hb]
      have hr1 := hA.room 22 vw.blk (vw.base + 0) old.length c0 hroom (fun j hj => by
        have : j = 0 := by simpa using hj
        subst this
        rw [hsz, Nat.mul_one, Nat.add_zero]
        exact hsp _ (by omega)) (fun j hj => hfz _)
      rw [hr1] at hrun
      injection hrun with e7 e8
      subst e7 e8
      rw [hsz, Nat.mul_one] at W1
      obtain ⟨vw1, hvw1, eb, eo⟩ := slu_inv V1
      have hq3 : old'.length = old.length := by rw [q2, Nat.mul_one]
      have hcs' : VRs ι1 (x :: old.drop i) (x :: old'.drop i) := .cons (.flat hfl) ((q1.drop i).mono (W1.mono R))
      have W2 := Went.write W1.rh hw hvw1 hcs'
      rw [eb, show vw1.base + i = vw.base + 0 + i by omega] at W2
      have W := W1.trans W2
      have fin : ∀ wC : World, wC.heap = ((w.setCells vw.blk (vw.base + 0 + old.length) [x]).setCells vw.blk (vw.base + 0 + i) (x :: old'.drop i)).heap → wC.os = w.os → wC.tape = w.tape → wC.output = w.output →
          InsQ P ι h w h' (.slice (some ⟨h.nx, 0, none⟩) (old.length + 1) unk) (.returned (.slice (some ⟨vw.blk, vw.base + 0, none⟩) (old.length + 1) c0)) wC := fun wC q1 q2 q3 q4 => by
        obtain ⟨_, s2, s3, s4, _, _⟩ := setCells_facts vw.blk (x :: old'.drop i) (vw.base + 0 + i) (w.setCells vw.blk (vw.base + 0 + old.length) [x])
        obtain ⟨_, r2, r3, r4, _, _⟩ := setCells_facts vw.blk [x] (vw.base + 0 + old.length) w
        exact ⟨ι1, _, rfl, W.world q1 (q2.trans (s3.trans r3).symm) (q3.trans (s2.trans r2).symm) (q4.trans (s4.trans r4).symm), V1⟩
      have ex : x' = .slice (some ⟨vwv.blk, vwv.base + 0, none⟩) 1 1 := by
        cases hx with
        | flat hf => simp [flat, flatN] at hf
        | slc hvw _ => rw [hvw] at hvwv; rw [Option.some.inj hvwv]
      subst ex
      have hvx : ∀ (j : Nat) u, [x][j]? = some u → w.cell? ⟨vwv.blk, vwv.base + 0 + j, none⟩ = some u := fun j u hj => by
        obtain ⟨y, hy, hvy⟩ := hcv j u hj
        have hj0 : j = 0 := by have := (List.getElem?_eq_some_iff.1 hj).1; simpa using this
        subst hj0
        injection hj with hj
        subst hj
        obtain rfl := VR.of_flat hfl hvy
        simpa [World.cell?, hbv] using hy
      have h1v : ∀ u ∈ [x], u.oneCell' = true := fun u hu => by rw [List.mem_singleton.1 hu, one_eq]; exact hone
      have hcells' : ∀ (j : Nat) u, old'[j]? = some u → w.cell? ⟨vw.blk, vw.base + 0 + j, none⟩ = some u := fun j u hj => by
        obtain ⟨y, hy⟩ : ∃ y, old[j]? = some y := by
          have := (List.getElem?_eq_some_iff.1 hj).1
          exact ⟨_, List.getElem?_eq_getElem (by omega)⟩
        have := q3 j u hj
        rwa [Addr.add_lit] at this
      by_cases hin : i < old.length
      · refine (Any2.slices_Insert_int_shift L vw.blk (vw.base + 0) old.length c0 i vwv.blk (vwv.base + 0) 1 1 old' [x] w hin Nat.one_pos hroom hc63 hne hq3 rfl hcells' hsp (fun j _ => hfz _) hvx h1o h1v ev e'' cv.size c'.size (by simp [World.shape?, hbv]) (by simp [World.shape?, hb]) (by rw [← g1]; rw [hesz] at hcc; omega) (by simp [World.frozen?, hbv]) (by simp [World.frozen?, hbv])).mono fun e w' ⟨he, hw'⟩ => ?_
        subst he hw'
        have hh := ins_shift (w := w) (b := vw.blk) (p := vw.base + 0) (i := i) (n := old.length) (x := x) (cs := old') hb hq3 hi (by rw [← g1]; rw [hesz] at hcc; omega)
        obtain ⟨_, s2, s3, s4, _, _⟩ := setCells_facts vw.blk [x] (vw.base + 0 + i) (w.drew.setCells vw.blk (vw.base + 0 + (i + 1)) (old'.drop i))
        obtain ⟨_, r2, r3, r4, _, _⟩ := setCells_facts vw.blk (old'.drop i) (vw.base + 0 + (i + 1)) w.drew
        exact fin _ hh (s3.trans r3) (s2.trans r2) (s4.trans r4)
      · obtain rfl : i = old.length := by omega
        refine (Any2.slices_Insert_int_end_room L vw.blk (vw.base + 0) old.length c0 vwv.blk (vwv.base + 0) 1 1 [x] w Nat.one_pos hroom hc63 rfl (fun j hj => by rw [Nat.add_assoc]; exact hsp _ (by omega)) (fun j _ => hfz _) hvx h1v).mono fun e w' ⟨he, hw'⟩ => ?_
        subst he hw'
        obtain ⟨_, r2, r3, r4, _, _⟩ := setCells_facts vw.blk [x] (vw.base + 0 + old.length) w
        refine fin _ ?_ r3 r2 r4
        rw [List.drop_of_length_le (Nat.le_of_eq hq3)]
        exact ins_end hb (by rw [← g1]; rw [hesz] at hcc; omega)
    · exact ins_new L t3 t22 R rfl hi hfl hone (fun hh => by cases hh) hll (by omega) (by omega) q1 h1o (fun a ha j u hj => by injection ha with ha; subst ha; exact q3 j u hj) (fun _ => ⟨_, _, rfl⟩) hv hx (.slu hvw hcc hll) happ0 rfl hw
  | sl0 hvw hcc =>
    have h0 : old = [] := List.length_eq_zero_iff.1 hn.symm
    subst h0
    obtain rfl : i = 0 := by simpa using hi
    exact ins_new L t3 t22 R (n := 0) (c0 := 0) (old := []) (old' := []) rfl (Nat.le_refl _) hfl hone (fun hh => by cases hh) (Nat.le_refl _) (by omega) (by omega) (.nil ι) (fun u hu => by cases hu) (fun a ha j u hj => by simp at hj) (fun hh => absurd hh (by omega)) hv hx (.sl0 hvw hcc) happ0 rfl hw
/-- Into the list that is nil. -/
theorem ins_nil {ι : Inj} {h h1 h' : Hp} {w : World} (R : RH P ι h w) {v : Nat} {x s' x' rv : Value} (hv : h.get v = some (.cells [x] 3 .fix)) (hfl : flat x = true) (hone : one x = true)
    (happ : appSome h 3 8 1 (.slice none 0 0) [x] 1 = some (rv, h1)) (hw : writeAt h1 h.nx 0 [x] = some h')
    (hs : VR ι (.slice none 0 0) s') (hx : VR ι (.slice (some ⟨v, 0, none⟩) 1 1) x') :
    Calls P (ρ.f 21) #[s', .int .i64 (0 : Nat), x'] w (InsQ P ι h w h' rv) := by
  obtain rfl := VR.of_flat (by rfl) hs
  have happ0 := happ
  have hnew : appNew h 3 8 [] [x] 1 = some (rv, h1) := happ
  unfold appNew at hnew
  obtain ⟨_, hnew⟩ := cond_some hnew
  injection hnew with hnew
  injection hnew with e5 e6
  exact ins_new L t3 t22 R (n := 0) (c0 := 0) (old := []) (old' := []) rfl (Nat.le_refl _) hfl hone (fun _ => ⟨rfl, rfl⟩) (Nat.le_refl _) (by omega) (by omega) (.nil ι) (fun u hu => by cases hu) (fun a ha => by cases ha) (fun hh => absurd hh (by omega)) hv hx hs happ0 e5.symm hw
/-- The oracle's word is true. -/
theorem ins_sound {ι : Inj} {h h' : Hp} {w : World} (R : RH P ι h w) {args args' : List Value} {rv : Value} (he : insV h args = some (rv, h')) (ha : VRs ι args args') : Calls P (ρ.f 21) args'.toArray w (InsQ P ι h w h' rv) := by
  unfold insV at he
  split at he
  · rename_i s i v
    obtain ⟨s', l1, rfl, hs, u1⟩ := ha.head
    obtain ⟨i', l2, rfl, hi', u2⟩ := u1.head
    obtain ⟨x', l3, rfl, hx, u3⟩ := u2.head
    obtain rfl := u3.of_nil
    obtain rfl := VR.of_flat (by rfl) hi'
    split at he
    · rename_i x hv
      obtain ⟨hfl, he⟩ := cond_some he
      have hone : one x = true := by
        obtain ⟨_, _, _, h1, _⟩ := R.live v _ hv
        simpa using h1
      split at he
      · obtain ⟨h0, he⟩ := cond_some he
        obtain rfl := Nat.eq_of_beq_eq_true h0
        obtain ⟨⟨r1, h1⟩, happ, he⟩ := Option.bind_eq_some_iff.1 he
        obtain ⟨h2, hw, e⟩ := Option.map_eq_some_iff.1 he
        injection e with e1 e2
        subst e1 e2
        exact ins_nil L t3 t22 R hv hfl hone happ hw hs hx
      · rename_i _ o n c _
        split at he
        · rename_i old ho
          obtain ⟨hc, he⟩ := cond_some he
          simp only [Bool.and_eq_true, Bool.not_eq_true'] at hc
          obtain ⟨⟨⟨c1, c2⟩, c3⟩, c4⟩ := hc
          obtain rfl := Nat.eq_of_beq_eq_true c1
          have c2 := Nat.eq_of_beq_eq_true c2
          have c3 := Nat.le_of_ble_eq_true c3
          have c4 : o ≠ v := fun hh => by rw [hh, Nat.beq_refl] at c4; cases c4
          obtain ⟨⟨r1, h1⟩, happ, he⟩ := Option.bind_eq_some_iff.1 he
          obtain ⟨h2, hw, e⟩ := Option.map_eq_some_iff.1 he
          injection e with e1 e2
          subst e1 e2
          exact ins_some L t3 t22 R c2 ho hv c4 hfl hone (by omega) (by rw [← c2]; exact happ) hw hs hx
        · cases he
      · cases he
    · cases he
  · cases he
end
end Go.Ev
/- slices.Insert at the numbers of this program. -/
namespace Go.Proofs.YtfgfhplgnfbaaaaDoor
open Go Go.Shelf
def ren21 : Go.Shelf.Ren := ⟨fun | 21 => 17 | 27 => 72 | 28 => 73 | 35 => 114 | 39 => 126 | n => n, fun | 22 => 32 | 3 => 3 | 4 => 4 | 0 => 0 | n => n, fun | n => n⟩
theorem lays21 : Go.Proofs.Lays2.n21 Tryd.prog ren21 := {
  mixed := by kernel_rfl
  f21 := Tryd.func17.trans (congrArg some (by kernel_rfl))
  f27 := Tryd.func72.trans (congrArg some (by kernel_rfl))
  f28 := Tryd.func73.trans (congrArg some (by kernel_rfl))
  f35 := Tryd.func114.trans (congrArg some (by kernel_rfl))
  f39 := Tryd.func126.trans (congrArg some (by kernel_rfl))
  t0 := Tryd.underlying0
  a0 := Tryd.isAgg0
  z0 := Tryd.sizeOf0
  v0 := Tryd.zeroValue0
  t3 := Tryd.underlying3
  a3 := Tryd.isAgg3
  z3 := Tryd.sizeOf3
  v3 := Tryd.zeroValue3
  t4 := Tryd.underlying4
  a4 := Tryd.isAgg4
  z4 := Tryd.sizeOf4
  v4 := Tryd.zeroValue4
  t22 := Tryd.underlying32
  a22 := Tryd.isAgg32
  z22 := Tryd.sizeOf32
  v22 := Tryd.zeroValue32
  i3 := by kernel_rfl }
end Go.Proofs.YtfgfhplgnfbaaaaDoor
/- 'works' is answered beforehand. -/
namespace Go.Proofs.YtfgfhplgnfbaaaaDoor
open Go Go.Ev
theorem h0_get (o : Nat) (x : Ob) (h : h0.get o = some x) : o = 0 ∧ x = .cells tab 0 .ro := by
  have h : (Tr.set (Tr.full none 64) 0 (some (Ob.cells tab 0 .ro))).get none o = some x := h
  rw [Tr.get_set] at h
  split at h
  · split at h
    · exact ⟨‹_›, (Option.some.inj h).symm⟩
    · cases h
  · rw [Tr.get_full] at h; cases h
theorem tab_flat : tab.all flat = true := by kernel_rfl
theorem tab_one : tab.all one = true := by kernel_rfl
/-- 'works' is true, wherever the table stands. -/
theorem works_calls {h : Hp} (_ : 0 < h.nx) (hh : h.get 0 = some (.cells tab 0 .ro)) {iota : Inj} {w : World} (R : RH Tryd.prog iota h w) : Calls Tryd.prog 27 #[] w fun e w' => e = .returned (.bool true) ∧ Went Tryd.prog h iota w h iota w' := by
  have hev := works_ev
  cases hr : evCall Tryd.prog 1000 100 27 [] h0 with
  | none => rw [hr] at hev; cases hev
  | some r =>
    obtain ⟨v, h1⟩ := r
    rw [hr] at hev
    obtain rfl : v = .bool true := by
      cases v with
      | bool b => have : b = true := hev; rw [this]
      | _ => cases hev
    exact closed_call mixed noNum (fn := Tryd.f27) (by decide) Tryd.func27 (by kernel_rfl) hr rfl rfl (fun o x ho => ⟨tab, 0, (h0_get o x ho).2, tab_flat⟩) (fun o x ho => by
      obtain ⟨rfl, rfl⟩ := h0_get o x ho
      exact ⟨hh, Nat.zero_lt_one⟩) (by rw [gsz]; exact Nat.le_refl _) R
def isTab : List Value → List Value → Bool
  | [], [] => true
  | .int .u8 a :: l, .int .u8 b :: r => eqI a b && isTab l r
  | _, _ => false
theorem isTab_eq : ∀ (l r : List Value), isTab l r = true → l = r := by
  intro l
  induction l with
  | nil => intro r h; cases r with
    | nil => rfl
    | cons => simp [isTab] at h
  | cons a l ih =>
    intro r h
    unfold isTab at h
    split at h
    · rename_i h2; cases h2
    · rename_i x l2 y r2 h2
      injection h2 with e1 e2
      subst e1 e2
      rw [Bool.and_eq_true, eqI_eq] at h
      rw [ih _ h.2, (by simpa using h.1 : x = y)]
    · cases h
/-- The calls that are answered beforehand: 'works', and slices.Insert of one number. -/
noncomputable def Ow : CallF := fun f args h => bif Nat.beq f 27 then (match args, h.get 0 with
  | [], some (.cells l 0 .ro) => bif Nat.blt 0 h.nx && isTab l tab then some (.bool true, h) else none
  | _, _ => none) else bif Nat.beq f 17 then insV h args else none
set_option maxRecDepth 100000 in
theorem Ow_ok : COk Tryd.prog Ow := by
  intro f args h v h' hs iota w args' R ha rd o a next Q hn
  unfold Ow at hs
  cases hf : Nat.beq f 27 with
  | false =>
    rw [hf, cond_false] at hs
    obtain ⟨h17, hs⟩ := cond_some hs
    obtain rfl : f = 17 := Nat.eq_of_beq_eq_true h17
    rw [run_callFunc noNum Tryd.func17 (by kernel_rfl) args'.toArray w]
    refine ⟨fun _ => ⟨fun h => (by cases h), calls_rd ((ins_sound lays21 (rfl : ren21.t 3 = 3) (rfl : ren21.t 22 = 32) R hs ha).mono fun e w' ⟨iota', v', he, g, hv⟩ => ?_)⟩, fun l hl => ?_⟩
    · subst he
      exact hn iota' v' w' g hv
    · exact absurd hl (Nat.ne_of_lt (Nat.lt_of_lt_of_le (by decide : 17 < yB) (Nat.le_add_right yB l)))
  | true =>
    obtain rfl : f = 27 := Nat.eq_of_beq_eq_true hf
    rw [hf, cond_true] at hs
    split at hs
    · rename_i l hg
      obtain ⟨ht, h2⟩ := cond_some hs
      rw [Bool.and_eq_true] at ht
      injection h2 with h2
      injection h2 with e1 e2
      subst e1 e2
      obtain rfl := isTab_eq _ _ ht.2
      obtain rfl := List.length_eq_zero_iff.1 ha.1
      rw [run_callFunc noNum Tryd.func27 (by kernel_rfl) ([] : List Value).toArray w]
      refine ⟨fun _ => ⟨fun h => (by cases h), calls_rd ((works_calls (by simpa using ht.1) hg R).mono fun e w' ⟨he, g⟩ => ?_)⟩, fun l hl => ?_⟩
      · subst he
        exact hn iota _ w' g (.flat rfl)
      · exact absurd hl (Nat.ne_of_lt (Nat.lt_of_lt_of_le (by decide : 27 < yB) (Nat.le_add_right yB l)))
    · cases hs
theorem Ow_oth (f : FuncId) (args : List Value) (h : Hp) (hf : f ≠ 27 ∧ f ≠ 17) : Ow f args h = none := by
  unfold Ow
  have h1 : Nat.beq f 27 = false := by rw [Bool.eq_false_iff]; intro hh; exact hf.1 (Nat.eq_of_beq_eq_true hh)
  have h2 : Nat.beq f 17 = false := by rw [Bool.eq_false_iff]; intro hh; exact hf.2 (Nat.eq_of_beq_eq_true hh)
  rw [h1, h2]; rfl
theorem tab_self : isTab tab tab = true := by kernel_rfl
theorem Ow_works {h : Hp} (hn : 0 < h.nx) (hh : h.get 0 = some (.cells tab 0 .ro)) : EvC Tryd.prog Ow 27 [] h (.bool true) h := by
  refine ⟨0, ?_⟩
  show Ow 27 [] h = _
  unfold Ow
  show (match ([] : List Value), h.get 0 with
    | [], some (.cells l 0 .ro) => bif Nat.blt 0 h.nx && isTab l tab then some (Value.bool true, h) else none
    | _, _ => none) = _
  rw [hh]
  simp only [tab_self, show Nat.blt 0 h.nx = true by simpa using hn, Bool.and_self, cond_true]
end Go.Proofs.YtfgfhplgnfbaaaaDoor
