/- Contracts of layer 20: all models of a formula; lists cloned. -/
import Derived.Test.YtfgfhplgnfbaaaaDoorYD
import Derived.Test.YtfgfhplgnfbaaaaDoorYC
import Derived.Lib.LaidTab
import Derived.WalkKit
import Derived.ProofKit
import Derived.OpenShut
import Derived.Deep.DeepHandedRow
import Derived.Test.YtfgfhplgnfbaaaaDoorCards
import Derived.Test.YtfgfhplgnfbaaaaDoorTie
import Derived.Test.YtfgfhplgnfbaaaaDoorProg
import Derived.KernelRfl
namespace Go.Proofs.YtfgfhplgnfbaaaaDoor
open Go Go.Ev
theorem satM_step (cls : List (List Int)) (m k : Nat) (hk : k < cls.length) (q : Bool) : (q && (cls.drop k).all fun c => c.any (isB m)) = ((q && cls[k].any (isB m)) && (cls.drop (k + 1)).all fun c => c.any (isB m)) := by
  rw [List.drop_eq_getElem_cons hk, List.all_cons, Bool.and_assoc]
section
variable {O : CallF} (hO : Oth O)
include hO
/-- The end of the loop over clauses is told by what goes on from there. -/
theorem lp54c {h₀ hI : Hp} {x0 : Int} {a0 a1 a2 a7 : Option Addr} {n0 c0 n1 c1 n2 c2 n7 c7 : Nat} {cls : List (List Int)} (F : IntssAt h₀ a1 n1 cls) (hl : cls.length < 1000000) (hll : ∀ l ∈ cls, l.length < 1000000) (hlit : ∀ l ∈ cls, ∀ x ∈ l, Lit x) (kI : Kp h₀.nx h₀ hI) {b3 f3 m : Nat} (hm : m < 9223372036854775808) {x16 x17 : Int} {Q : Value → Hp → Prop} {r : Bool}
    (next : ∀ h1, Kp hI.nx hI h1 → RowAt hI.nx 3 .fix h1 [Int.ofNat m] → vcond r (∃ x, readAt h1 hI.nx 0 1 = some [.int .i64 x] ∧ ∃ a n c h', appendV Tryd.prog (h1.add (.cells [.int .i64 x] 3 .fix)) 32 32 (.slice a7 n7 c7) (.slice (some ⟨h1.nx, 0, none⟩) 1 1) = some (.slice a n c, h') ∧ I54_0 O Q x0 a0 n0 c0 a1 n1 c1 a2 n2 c2 b3 f3 a n c x16 (wrapF .i64 (x17 + 1)) h') (I54_0 O Q x0 a0 n0 c0 a1 n1 c1 a2 n2 c2 b3 f3 a7 n7 c7 x16 (wrapF .i64 (x17 + 1)) h1)) :
    ∀ (d k : Nat), k + d = cls.length → ∀ {h1 : Hp} {q : Bool}, Kp hI.nx hI h1 → RowAt hI.nx 3 .fix h1 [Int.ofNat m] → r = (q && (cls.drop k).all fun c => c.any (isB m)) →
      I54_2 O Q x0 a0 n0 c0 a1 n1 c1 a2 n2 c2 b3 f3 a7 n7 c7 hI.nx 0 q x16 x17 (Int.ofNat k) h1 := by
  have hn := F.1
  intro d
  induction d with
  | zero =>
    intro k hk h1 q kp R hr
    refine I54_2.of _ _ _ _ _ _ _ _ _ _ _ _ _ _ _ _ _ _ _ _ _ ?_
    unfold T54_2
    rw [List.drop_of_length_le (by omega)] at hr
    obtain rfl : r = q := by simpa using hr
    exact vcond_f (by rw [ltI_nat]; exact blt_f (by omega)) (next h1 kp R)
  | succ d ih =>
    intro k hk h1 q kp R hr
    refine I54_2.of _ _ _ _ _ _ _ _ _ _ _ _ _ _ _ _ _ _ _ _ _ ?_
    unfold T54_2
    have hkl : k < cls.length := by omega
    rw [satM_step _ _ _ hkl] at hr
    have f1 := (kI.trans (kp.le kI.nx)).ex (Nat.le_refl _)
    rw [wrap_succ (by omega)]
    refine vcond_t (by rw [ltI_nat]; exact blt_t (by omega)) (isNat_i (F.rd hkl fun a' n' c' Y => vcond_split (fun hq => ?_) fun hq => ?_))
    · subst hq
      have hm1 : cls[k] ∈ cls := List.getElem_mem _
      refine ⟨_, _, ct64 hO (Y.to h1) (hll _ hm1) (fun x hx => ct112 hO hm (hlit _ hm1 x hx) (R.rd (k := 0) (by simp) rfl)), ih (k + 1) (by omega) kp R (by rw [hr]; rfl)⟩
    · subst hq
      exact ih (k + 1) (by omega) kp R (by rw [hr]; rfl)
theorem lp54_1 {h₀ hI : Hp} (ok : h₀.Ok) {x0 : Int} {a0 a1 a2 a7 : Option Addr} {n0 c0 n1 c1 n2 c2 n7 c7 : Nat} {gs : List Int} (G : IntsAt h₀ a2 n2 gs) (hgl : gs.length < 1000000) (hg : ∀ x ∈ gs, Lit x) (kI : Kp h₀.nx h₀ hI) {b3 N kk : Nat} (hN : N ≤ 30) (hb : hI.get b3 = some (.cells [.int .i64 (Int.ofNat N), .slice a0 n0 c0] 30 .fix)) (hb3 : b3 < hI.nx) (hkk : kk < 2 ^ N) {x16 : Int} {Q : Value → Hp → Prop}
    (next : ∀ h1, Kp hI.nx hI h1 → RowAt hI.nx 3 .fix h1 [Int.ofNat (bitsF N kk N)] → I54_2 O Q x0 a0 n0 c0 a1 n1 c1 a2 n2 c2 b3 0 a7 n7 c7 hI.nx 0 (gs.all (isB (bitsF N kk N))) x16 (Int.ofNat kk) 0 h1) :
    ∀ (d v : Nat), v + d = N → ∀ {h1 : Hp}, Kp hI.nx hI h1 → RowAt hI.nx 3 .fix h1 [Int.ofNat (bitsF N kk v)] →
      I54_1 O Q x0 a0 n0 c0 a1 n1 c1 a2 n2 c2 b3 0 a7 n7 c7 (Int.ofNat kk) hI.nx 0 x16 (Int.ofNat kk) (Int.ofNat N) (Int.ofNat v) h1 := by
  have p30 : (2 : Nat) ^ N ≤ 2 ^ 30 := Nat.pow_le_pow_right (by decide) hN
  intro d
  induction d with
  | zero =>
    intro v hv h1 kp R
    refine I54_1.of _ _ _ _ _ _ _ _ _ _ _ _ _ _ _ _ _ _ _ _ _ _ ?_
    unfold T54_1
    obtain rfl : v = N := by omega
    have lt : bitsF v kk v < 9223372036854775808 := Nat.lt_of_lt_of_le (bitsF_lt v kk v) (Nat.le_trans p30 (by decide))
    have f1 := (kI.trans (kp.le kI.nx)).ex (Nat.le_refl _)
    refine vcond_f (by rw [ltI_nat]; exact blt_f (by omega)) ⟨_, _, ct64 hO (G.to h1) hgl (φ := fun x => !(isB (bitsF v kk v) x)) (fun x hx => ct111 hO lt (hg x hx) (R.rd (k := 0) (by simp) rfl)), ?_⟩
    have e : (!(gs.any fun x => !(isB (bitsF v kk v) x))) = gs.all (isB (bitsF v kk v)) := by
      rw [List.not_any_eq_all_not]; simp
    rw [e]
    exact next h1 kp R
  | succ d ih =>
    intro v hv h1 kp R
    refine I54_1.of _ _ _ _ _ _ _ _ _ _ _ _ _ _ _ _ _ _ _ _ _ _ ?_
    unfold T54_1
    have lt : bitsF N kk v < 2 ^ v := bitsF_lt N kk v
    have pv : (2 : Nat) ^ v ≤ 2 ^ 30 := Nat.pow_le_pow_right (by decide) (by omega)
    have f1 := kp.ex (Nat.le_refl _)
    refine vcond_t (by rw [ltI_nat]; exact blt_t (by omega)) ?_
    intro g201
    have e1 : wrapF .i64 (wrapF .i64 (Int.ofNat N - 1) - Int.ofNat v) = Int.ofNat (N - 1 - v) := by
      rw [wrap64 (n := Int.ofNat N - 1) (by simp only [Int.ofNat_eq_natCast]; omega) (by simp only [Int.ofNat_eq_natCast]; omega), wrap64 (by simp only [Int.ofNat_eq_natCast]; omega) (by simp only [Int.ofNat_eq_natCast]; omega)]
      simp only [Int.ofNat_eq_natCast]; omega
    refine ⟨_, R.rd (k := 0) (by simp) rfl, _, (readAt_ex (g := hI) hb3).trans (read1 hb (i := 0 + 0) rfl), ?_⟩
    rw [e1, wrap_succ (by omega), show (Int.ofNat (N - 1 - v)).toNat = N - 1 - v from rfl, show (Int.ofNat v).toNat = v from rfl, shr64 kk (k := N - 1 - v) (by omega), and_one]
    have lt2 : kk / 2 ^ (N - 1 - v) < 9223372036854775808 := Nat.lt_of_le_of_lt (Nat.div_le_self ..) (Nat.lt_of_lt_of_le hkk (Nat.le_trans p30 (by decide)))
    have lt3 : (kk / 2 ^ (N - 1 - v) % 2) * 2 ^ v ≤ 2 ^ v := by
      have := Nat.mod_lt (kk / 2 ^ (N - 1 - v)) (y := 2) (by decide)
      exact Nat.le_trans (Nat.mul_le_mul_right _ (show _ ≤ 1 by omega)) (by omega)
    rw [shl64 (by omega) (Nat.lt_of_le_of_lt (Nat.le_trans lt3 pv) (by decide))]
    have gu : (g201.grd []).guarded hI.nx = false := guarded_of fun q hq => by
      have : q ∈ h₀.gd := by rw [← kI.gd, ← kp.gd]; exact hq
      have := ok.gd q this; have := kI.nx; omega
    obtain ⟨w, R2⟩ := RowAt.wr (h := g201.grd []) ⟨Nat.lt_of_lt_of_le R.lt (Nat.le_add_right ..), R.get⟩ (by decide) gu (k := 0) (off := 0) (by simp) rfl (Int.ofNat (bitsF N kk v ||| (kk / 2 ^ (N - 1 - v) % 2) * 2 ^ v))
    refine vreq_t rfl (vreq_t (inD_of lt2) (vreq_t rfl (vreq_t (inD_of (Nat.lt_of_lt_of_le lt (Nat.le_trans pv (by decide)))) (vreq_t (inD_of (Nat.lt_of_le_of_lt (Nat.le_trans lt3 pv) (by decide))) (vreq_t w ?_)))))
    intro g204 g205
    have K1 : Kp hI.nx hI (g201.grd []) := (kp.rsv 13)
    have K2 : Kp hI.nx hI g204 := K1.wr (Nat.le_refl _) _ _
    exact ih (v + 1) (by omega) ⟨K2.get, K2.nx, kp.gd, K2.fr⟩ ⟨R2.lt, R2.get⟩
theorem lp54_0 {h₀ : Hp} (ok : h₀.Ok) {x0 : Int} {a0 a1 a2 : Option Addr} {n0 c0 n1 c1 n2 c2 : Nat} {cls : List (List Int)} {gs : List Int} (F : IntssAt h₀ a1 n1 cls) (hl : cls.length < 1000000) (hll : ∀ l ∈ cls, l.length < 1000000) (hlit : ∀ l ∈ cls, ∀ x ∈ l, Lit x) (G : IntsAt h₀ a2 n2 gs) (hgl : gs.length < 1000000) (hg : ∀ x ∈ gs, Lit x) {N : Nat} (hN : N ≤ 20) :
    ∀ (d k : Nat), k + d = 2 ^ N → ∀ {h : Hp} {a7 n7 c7} {acc : List Int}, Kp h₀.nx h₀ h → h.get h₀.nx = some (.cells [.int .i64 (Int.ofNat N), .slice a0 n0 c0] 30 .fix) → h₀.nx < h.nx → AccI 3 h (h₀.nx + 1) a7 n7 c7 acc → acc.length ≤ k → (acc ++ (((List.range' k d).map fun k => bitsF N k N).filter (satM cls gs)).map Int.ofNat) = (modelsN N cls gs).map Int.ofNat →
      I54_0 O (RInts h₀ ((modelsN N cls gs).map Int.ofNat)) x0 a0 n0 c0 a1 n1 c1 a2 n2 c2 h₀.nx 0 a7 n7 c7 (Int.ofNat (2 ^ N)) (Int.ofNat k) h := by
  have p20 : (2 : Nat) ^ N ≤ 2 ^ 20 := Nat.pow_le_pow_right (by decide) hN
  intro d
  induction d with
  | zero =>
    intro k hk h a7 n7 c7 acc kp hb hb2 A hal he
    refine I54_0.of _ _ _ _ _ _ _ _ _ _ _ _ _ _ _ _ _ ?_
    unfold T54_0
    have he : acc = (modelsN N cls gs).map Int.ofNat := by simpa using he
    subst he
    refine vcond_f (by rw [ltI_nat]; exact blt_f (by omega)) ⟨_, _, _, rfl, A.ints, kp, fun b off e => ?_⟩
    have := A.fresh e; omega
  | succ d ih =>
    intro k hk h a7 n7 c7 acc kp hb hb2 A hal he
    refine I54_0.of _ _ _ _ _ _ _ _ _ _ _ _ _ _ _ _ _ ?_
    unfold T54_0
    refine vcond_t (by rw [ltI_nat]; exact blt_t (by omega)) ?_
    intro g101
    have hnx := kp.nx
    have gu : g101.guarded h.nx = false := guarded_of fun q hq => by
      have : q ∈ h₀.gd := by rw [← kp.gd]; exact hq
      have := ok.gd q this; omega
    have R0 : RowAt h.nx 3 .fix g101 [0] := ⟨by show h.nx < h.nx + 1; omega, get_add_same ..⟩
    obtain ⟨w, R1⟩ := R0.wr (by decide) gu (k := 0) (off := 0) (by simp) rfl 0
    refine vreq_t w ?_
    intro g102
    have K1 : Kp h.nx h g102 := ((Kp.refl h.nx h).add (Nat.le_refl _) _).wr (Nat.le_refl _) _ _
    have f1 : Ft h g102 := K1.ex (Nat.le_refl _)
    refine ⟨_, (readAt_ex (g := h) (by omega)).trans (read1 hb (i := 0 + 0) rfl), ?_⟩
    rw [List.range'_succ, List.map_cons, List.filter_cons] at he
    have hkk : k < 2 ^ N := by omega
    have lt : bitsF N k N < 9223372036854775808 := Nat.lt_of_lt_of_le (bitsF_lt N k N) (Nat.le_trans p20 (by decide))
    refine lp54_1 hO ok G hgl hg kp (by omega) hb hb2 hkk (fun h1 k1 R => lp54c hO F hl hll hlit kp lt (r := satM cls gs (bitsF N k N)) (fun h2 k2 R2 => ?_) cls.length 0 (by omega) k1 R rfl) N 0 (by omega) K1 ⟨R1.lt, R1.get⟩
    have f2 : Ft h h2 := k2.ex (Nat.le_refl _)
    have A2 : AccI 3 h2 (h₀.nx + 1) a7 n7 c7 acc := Acc.to h2 A
    have kp2 := kp.trans (k2.le hnx)
    have hb' : h2.get h₀.nx = _ := (f2.get _ hb2).trans hb
    rw [wrap_succ (by omega)]
    refine vcond_split (fun hr => ?_) fun hr => ?_
    · rw [hr] at he
      have gd2 : GdLt h2 (h₀.nx + 1) := fun q hq => by have : q ∈ h₀.gd := by rw [← kp2.gd]; exact hq
                                                       have := ok.gd q this; omega
      refine ⟨_, R2.rd (k := 0) (by simp) rfl, appI app32 A2 (by have := k2.nx; omega) gd2 (by omega) fun a' n' c' h' A' _ kA => ih (k + 1) (by omega) (kp2.trans (kA.le (by omega))) ?_ (Nat.lt_of_lt_of_le (by have := k2.nx; omega) kA.nx) A' (by simp; omega) ?_⟩
      · rw [kA.get _ (by omega)]; exact hb'
      · simp only [if_true, List.map_cons] at he
        rw [List.append_assoc]; exact he
    · rw [hr] at he
      exact ih (k + 1) (by omega) kp2 hb' (by have := k2.nx; omega) A2 (by omega) (by simpa using he)
theorem ct54 {h : Hp} (ok : h.Ok) {a0 a1 a2 : Option Addr} {n0 c0 n1 c1 n2 c2 : Nat} {cls : List (List Int)} {gs : List Int} (F : IntssAt h a1 n1 cls) (hl : cls.length < 1000000) (hll : ∀ l ∈ cls, l.length < 1000000) (hlit : ∀ l ∈ cls, ∀ x ∈ l, Lit x) (G : IntsAt h a2 n2 gs) (hgl : gs.length < 1000000) (hg : ∀ x ∈ gs, Lit x) {N : Nat} (hN : N ≤ 20) :
    Ret Tryd.prog O 54 [.agg #[.int .i64 (Int.ofNat N), .slice a0 n0 c0], .slice a1 n1 c1, .slice a2 n2 c2] h (RInts h ((modelsN N cls gs).map Int.ofNat)) := by
  refine rk54 _ _ _ _ _ _ _ _ _ _ (hO _ _ _ (by decide)) ?_
  unfold T54
  intro g1
  refine ⟨_, read1 (get_add_same ..) (i := 0) rfl, vreq_t rfl ?_⟩
  have e : shlF .i64 1 (Int.ofNat N).toNat = Int.ofNat (2 ^ N) := by
    have p20 : (2 : Nat) ^ N ≤ 2 ^ 20 := Nat.pow_le_pow_right (by decide) hN
    have := shl64 (a := 1) (k := N) (by omega) (by rw [Nat.one_mul]; exact Nat.lt_of_le_of_lt p20 (by decide))
    rw [Nat.one_mul] at this; exact this
  rw [e]
  refine lp54_0 hO ok F hl hll hlit G hgl hg hN (2 ^ N) 0 (by omega) ((Kp.refl _ _).add (Nat.le_refl _) _) (get_add_same ..) (by show h.nx < h.nx + 1; omega) (AccI.nil ..) (by simp) ?_
  rw [modelsN, List.range_eq_range']; rfl
end
end Go.Proofs.YtfgfhplgnfbaaaaDoor
/- Contracts of layer 20: propagation once more, without the reference. -/
namespace Go.Proofs.YtfgfhplgnfbaaaaDoor
open Go Go.Ev
/-- A literal is true, by two sets of variables. -/
def trP (y n : Nat) (x : Int) : Prop := (0 < x ∧ y.testBit x.natAbs = true) ∨ (x < 0 ∧ n.testBit x.natAbs = true)
def tvP (y n : Nat) (x : Int) : Bool := if 0 < x then y.testBit x.natAbs else n.testBit x.natAbs
theorem tvP_iff {y n : Nat} {x : Int} (hx : x ≠ 0) : tvP y n x = true ↔ trP y n x := by
  unfold tvP trP
  by_cases h : 0 < x
  · rw [if_pos h]; constructor
    · exact fun e => .inl ⟨h, e⟩
    · rintro (⟨_, e⟩ | ⟨e, _⟩)
      · exact e
      · omega
  · rw [if_neg h]; constructor
    · exact fun e => .inr ⟨by omega, e⟩
    · rintro (⟨e, _⟩ | ⟨_, e⟩)
      · omega
      · exact e
theorem trP_add {y n : Nat} {x z : Int} (hx : Lit x) : trP (if 0 < x then y ||| 2 ^ x.natAbs else y) (if 0 < x then n else n ||| 2 ^ x.natAbs) z ↔ trP y n z ∨ z = x := by
  have h0 := hx.1
  unfold trP
  by_cases h : 0 < x
  · simp only [if_pos h, Nat.testBit_or, Nat.testBit_two_pow, Bool.or_eq_true, decide_eq_true_eq]
    constructor
    · rintro (⟨a, b | b⟩ | b)
      · exact .inl (.inl ⟨a, b⟩)
      · exact .inr (by omega)
      · exact .inl (.inr b)
    · rintro ((⟨a, b⟩ | b) | rfl)
      · exact .inl ⟨a, .inl b⟩
      · exact .inr b
      · exact .inl ⟨h, .inr rfl⟩
  · simp only [if_neg h, Nat.testBit_or, Nat.testBit_two_pow, Bool.or_eq_true, decide_eq_true_eq]
    constructor
    · rintro (b | ⟨a, b | b⟩)
      · exact .inl (.inl b)
      · exact .inl (.inr ⟨a, b⟩)
      · exact .inr (by omega)
    · rintro ((b | ⟨a, b⟩) | rfl)
      · exact .inl b
      · exact .inr ⟨a, .inl b⟩
      · exact .inr ⟨by omega, .inr rfl⟩
theorem or31 {y : Nat} {x : Int} (hy : y < 2 ^ 31) (hx : Lit x) : y ||| 2 ^ x.natAbs < 2 ^ 31 := Nat.or_lt_two_pow hy (Nat.pow_lt_pow_right (by decide) (by have := hx.2; omega))
section
variable {O : CallF} (hO : Oth O)
include hO
/-- What is true is derived; what was given is true. -/
structure PInv (cls : List (List Int)) (xs : List Int) (y n : Nat) : Prop where
  ly : y < 2 ^ 31
  ln : n < 2 ^ 31
  der : ∀ z, trP y n z → z ≠ 0 → Der cls xs z
  beg : ∀ x ∈ xs, trP y n x
  z0 : y.testBit 0 = false ∧ n.testBit 0 = false
omit hO in
theorem PInv.add {cls : List (List Int)} {xs : List Int} {y n : Nat} (I : PInv cls xs y n) {x : Int} (hx : Lit x) (hD : Der cls xs x) : PInv cls xs (if 0 < x then y ||| 2 ^ x.natAbs else y) (if 0 < x then n else n ||| 2 ^ x.natAbs) :=
  ⟨by split; exact or31 I.ly hx; exact I.ly, by split; exact I.ln; exact or31 I.ln hx, fun z hz h0 => by
    rcases (trP_add hx).1 hz with h | rfl
    · exact I.der z h h0
    · exact hD, fun z hz => (trP_add hx).2 (.inl (I.beg z hz)), by
    have h0 : (2 ^ x.natAbs).testBit 0 = false := by rw [Nat.testBit_two_pow]; have := hx.1; simp; omega
    split
    · exact ⟨by rw [Nat.testBit_or, h0, I.z0.1]; rfl, I.z0.2⟩
    · exact ⟨I.z0.1, by rw [Nat.testBit_or, h0, I.z0.2]; rfl⟩⟩
/-- A list of its own, with another one's elements. -/
def RCl (h : Hp) (xs : List Int) (a : Option Addr) (n c : Nat) (h' : Hp) : Prop := AccE h' h.nx 3 1 a n c (xs.map (Value.int .i64)) ∧ Kp h.nx h h'
theorem ct60 {h : Hp} (ok : h.Ok) {a0 : Option Addr} {n0 c0 : Nat} {xs : List Int} (X : IntsAt h a0 n0 xs) (hl : xs.length < 100000000) : Ret Tryd.prog O 60 [.slice a0 n0 c0] h fun v h' => ∃ a n c, v = .slice a n c ∧ RCl h xs a n c h' := by
  refine rk60 _ _ _ (hO _ _ _ (by decide)) ?_
  unfold T60
  cases a0 with
  | none =>
    have : xs = [] := by
      rcases X.2 with ⟨e, _⟩ | ⟨_, _, _, _, _, e, _⟩
      · exact e
      · cases e
    subst this
    exact ⟨_, _, _, rfl, .inl (Acc.nil ..), .refl _ _⟩
  | some q =>
    show let g1 : Hp := h.add (.cells [] 3 .fix); _
    intro g1
    have X1 : IntsAt g1 (some q) n0 xs := X.to _
    have Z : AccE g1 h.nx 3 1 (some ⟨h.nx, 0, none⟩) 0 0 [] := .inr ⟨rfl, rfl, rfl, h.nx, rfl, Nat.le_refl _, Nat.lt_succ_self _, _, _, get_add_same ..⟩
    have k1 : Kp h.nx h g1 := (Kp.refl _ _).add (Nat.le_refl _) _
    have src : srcCells g1 1 (.slice (some q) n0 c0) = some (xs.map (Value.int .i64), n0) := X1.src
    obtain ⟨a', n', c', h', e1, A, _, K⟩ := append_accE app32 Z (by show h.nx ≤ h.nx + 1; omega) (fun q hq => ok.gd q hq) ⟨_, _, _, rfl⟩ src (by rw [X.1]; simp) (by simp [one]) (by rw [X.1]; omega) (by rw [X.1]; unfold big; omega)
    exact ⟨a', n', c', h', e1, _, _, _, rfl, A, k1.trans (K.kpE Z (by show h.nx ≤ h.nx + 1; omega))⟩
end
end Go.Proofs.YtfgfhplgnfbaaaaDoor
/- Lists of lists that grow, their elements laid meanwhile. -/
namespace Go.Proofs.YtfgfhplgnfbaaaaDoor
open Go Go.Ev
/-- Where an element may lie: neither in what is written nor in the list that grows. -/
def VOk (lo base : Nat) (v : Value) : Prop := ∀ b off n c, v = .slice (some ⟨b, off, none⟩) n c → (b < lo ∨ base ≤ b) ∧ (b < base ∨ 0 < n)
def LL (lo base : Nat) (h : Hp) (a : Option Addr) (n c : Nat) (xss : List (List Int)) : Prop := ∃ vs, AccE h base 32 1 a n c vs ∧ Lis h vs xss ∧ ∀ v ∈ vs, VOk lo base v
theorem LL.nil (lo base : Nat) (h : Hp) : LL lo base h none 0 0 [] := ⟨[], .inl (Acc.nil ..), .nil h, fun _ h => by cases h⟩
theorem LL.intss {lo base : Nat} {h : Hp} {a : Option Addr} {n c : Nat} {xss : List (List Int)} (A : LL lo base h a n c xss) : IntssAt h a n xss := let ⟨_, A, L, _⟩ := A; AccE.intss A L
theorem LL.len {lo base : Nat} {h : Hp} {a : Option Addr} {n c : Nat} {xss : List (List Int)} (A : LL lo base h a n c xss) : n = xss.length := A.intss.1
theorem AccE.to {h : Hp} (h' : Hp) [k : Ft h h'] {base : Nat} {e : TypeId} {esz : Nat} {a : Option Addr} {n c : Nat} {xs : List Value} (H : AccE h base e esz a n c xs) : AccE h' base e esz a n c xs :=
  H.keep (fun o ho _ => k.get o ho) k.nx
/-- Something else changes. -/
theorem ints_sub {h h' : Hp} {a : Option Addr} {n : Nat} {xs : List Int} (X : IntsAt h a n xs) (hk : ∀ b off, a = some ⟨b, off, none⟩ → b < h.nx → h'.get b = h.get b) (hn : h.nx ≤ h'.nx) : IntsAt h' a n xs := by
  refine ⟨X.1, X.2.imp id ?_⟩
  rintro ⟨b, off, c, e, m, h1, h2, h3, h4, h5⟩
  exact ⟨b, off, c, e, m, h1, Nat.lt_of_lt_of_le h2 hn, by rw [hk b off h1 h2]; exact h3, h4, h5⟩
/-- An element lies elsewhere than the list. -/
theorem LL.ne {h : Hp} {base : Nat} {a : Option Addr} {n c : Nat} {vs : List Value} {xss : List (List Int)} (A : AccE h base 32 1 a n c vs) (L : Lis h vs xss) {a1 : Option Addr} {n1 : Nat} {ys : List Int} (Y : IntsAt h a1 n1 ys) {b off : Nat} (hb : a1 = some ⟨b, off, none⟩) (hn : b < base ∨ 0 < n1) : a ≠ some ⟨b, 0, none⟩ := by
  intro e
  have hlt := A.lt e
  have hn : 0 < n1 := by omega
  rcases Y.2 with ⟨_, e2⟩ | ⟨b', off', cs, e', m', h1, h2, h3, h4, h5⟩
  · rw [hb] at e2; cases e2
  · rw [hb] at h1; injection h1 with h1; injection h1 with h1 h1'; subst h1 h1'
    have hy := Y.1
    have h6 : (cs.drop (off + 0 * 1)).take 1 = [.int .i64 ys[0]] := h5 0 (by omega)
    have hc : cs[off]? = some (.int .i64 ys[0]) := by
      rw [Nat.zero_mul, Nat.add_zero] at h6
      have : ((cs.drop off).take 1)[0]? = some (.int .i64 ys[0]) := by rw [h6]; rfl
      simpa using this
    have hvs : cs = vs ∨ cs = [] := by
      rcases A with (⟨q, _⟩ | ⟨o, q, _, _, _, _, hg⟩) | ⟨_, _, _, o, q, _, _, e2, m, hg⟩
      · rw [q] at e; cases e
      · rw [q] at e; injection e with e; injection e with e; subst e; rw [h3] at hg; injection hg with hg; injection hg with hg; exact .inl hg
      · rw [q] at e; injection e with e; injection e with e; subst e; rw [h3] at hg; injection hg with hg; injection hg with hg; exact .inr hg
    rcases hvs with rfl | rfl
    · have hl : off < xss.length := by
        have := (List.getElem?_eq_some_iff.1 hc).1
        rw [← L.1]; exact this
      obtain ⟨v, hv, a2, n2, c2, e2, _⟩ := L.2 off hl
      rw [hv] at hc
      injection hc with hc
      subst hc
      cases e2
    · simp at hc
/-- What is appended to lies at a new number: also a row of no elements. -/
theorem append_newE {P : Program} {sT e : TypeId} {esz bytes : Nat} (T : AppT P sT e esz bytes) {h : Hp} {base : Nat} {a : Option Addr} {n c : Nat} {xs : List Value} (H : AccE h base e esz a n c xs)
    {x : Value} {ys : List Value} {k : Nat} (hx : ∃ a n c, x = .slice a n c) (hs : srcCells h esz x = some (ys, k)) (h1 : ys.all one = true) (hkp : 0 < k) {a' : Option Addr} {n' c' : Nat} {h' : Hp} (e1 : appendV P h sT sT (.slice a n c) x = some (.slice a' n' c', h')) : a' = some ⟨h.nx, 0, none⟩ := by
  rcases H with H | ⟨rfl, rfl, rfl, o, rfl, h2, h3, e2, m, h4⟩
  · exact append_new T H hx hs h1 hkp e1
  · obtain ⟨hz, info, z, hi, hzz, hrun⟩ := T.run
    rw [hrun h _ x hx, hs] at e1
    have hk0 : Nat.beq k 0 = false := by rw [Bool.eq_false_iff]; intro hh; have := Nat.eq_of_beq_eq_true hh; omega
    simp only [Option.bind_some, h1, cond_true, hk0, cond_false] at e1
    unfold appSome at e1
    have e3 : Nat.beq 0 unk = false := by
      rw [Bool.eq_false_iff]; intro hh; have := Nat.eq_of_beq_eq_true hh; have : unk = 18446744073709551616 := rfl; omega
    have e4 : Nat.ble (0 + k) 0 = false := by
      rw [Bool.eq_false_iff]; intro hh; have : 0 + k ≤ 0 := by simpa using hh
      omega
    have e5 : readAt h o 0 (0 * esz) = some [] := by rw [Nat.zero_mul, readAt_get h4 (by simp)]; rfl
    simp only [h4, e3, e4, e5, cond_false, Option.bind_some] at e1
    unfold appNew at e1
    obtain ⟨_, e1⟩ := cond_some e1
    injection e1 with e1
    injection e1 with e1 _
    injection e1 with e1 _
    exact e1.symm
/-- What an append to a list of lists leaves. -/
structure LLK (lo base : Nat) (g h' : Hp) (a : Option Addr) : Prop where
  kp : Kp base g h'
  st : ∀ {a3 : Option Addr} {n3 c3 : Nat} {zs : List Int}, IntsAt g a3 n3 zs → VOk lo base (.slice a3 n3 c3) → IntsAt h' a3 n3 zs
  oth : ∀ q, q < g.nx → a ≠ some ⟨q, 0, none⟩ → g.get q ≠ none → h'.get q = g.get q
theorem accE_live {h : Hp} {base : Nat} {e : TypeId} {esz : Nat} {a : Option Addr} {n c : Nat} {xs : List Value} (A : AccE h base e esz a n c xs) {o : Nat} (ha : a = some ⟨o, 0, none⟩) : h.get o ≠ none := by
  rcases A with (⟨h0, _⟩ | ⟨p, h0, _, _, _, _, h6⟩) | ⟨_, _, _, p, h0, _, _, _, _, h6⟩
  · rw [h0] at ha; cases ha
  · rw [h0] at ha; injection ha with ha; injection ha with ha; subst ha; rw [h6]; simp
  · rw [h0] at ha; injection ha with ha; injection ha with ha; subst ha; rw [h6]; simp
theorem LL.appR {lo base : Nat} (hlo : lo ≤ base) {g : Hp} {a : Option Addr} {n c : Nat} {xss : List (List Int)} (A : LL lo base g a n c xss) {a1 : Option Addr} {n1 c1 : Nat} {ys : List Int} (Y : IntsAt g a1 n1 ys) (okY : VOk lo base (.slice a1 n1 c1)) (hb : base ≤ g.nx) (hg : GdLt g base)
    {q : Nat} (hq : g.get q = none) (hq2 : q < g.nx) (hqb : base ≤ q) {l : List Nat} (hl : ∀ i ∈ l, i < base) (hn : n < 10000000)
    {K : Option Addr → Nat → Nat → Hp → Prop} (next : ∀ a' c' h', LL lo base (h'.rst (g.lay q (.cells [.slice a1 n1 c1] 32 .fix))) a' (n + 1) c' (xss ++ [ys]) → (∀ p, a' = some ⟨p, 0, none⟩ → g.nx ≤ p) → LLK lo base g (h'.rst (g.lay q (.cells [.slice a1 n1 c1] 32 .fix))) a → K a' (n + 1) c' h') :
    vreq (g.free q) (let g2 := g.lay q (.cells [.slice a1 n1 c1] 32 .fix); ∃ a' n' c' h', appendV Tryd.prog (g2.grd l) 28 28 (.slice a n c) (.slice (some ⟨q, 0, none⟩) 1 1) = some (.slice a' n' c', h') ∧ K a' n' c' h') := by
  have _ := hlo
  obtain ⟨vs, A, L, o⟩ := A
  refine vreq_t (free_t hq) ?_
  intro g2
  have aq : a ≠ some ⟨q, 0, none⟩ := fun ha => by
    rcases A with (⟨h0, _⟩ | ⟨p, h0, _, _, _, _, h6⟩) | ⟨_, _, _, p, h0, _, _, _, _, h6⟩
    · rw [h0] at ha; cases ha
    · rw [h0] at ha; injection ha with ha; injection ha with ha; subst ha; rw [hq] at h6; cases h6
    · rw [h0] at ha; injection ha with ha; injection ha with ha; subst ha; rw [hq] at h6; cases h6
  have A2 : AccE (g2.grd l) base 32 1 a n c vs := A.keep (fun p _ hp => by
    show g2.get p = _
    rw [get_lay, if_neg (show p ≠ q from fun hh => aq (by rw [← hh]; exact hp))]) (Nat.le_refl _)
  have gl : GdLt (g2.grd l) base := fun i hi => (List.mem_append.1 hi).elim (hl i) (hg i)
  have src : (g2.grd l).get q = some (.cells [.slice a1 n1 c1] 32 .fix) := by show g2.get q = _; rw [get_lay, if_pos rfl]
  obtain ⟨a', n', c', h', e1, A', rfl, k⟩ := append_accE app28 A2 hb gl ⟨_, _, _, rfl⟩ (src_get (n := 1) (c := 1) (esz := 1) (off := 0) (read1 (i := 0) (v := .slice a1 n1 c1) src rfl)) rfl rfl (by omega) (by unfold big; omega)
  have k1 : AppK g2 (h'.rst g2) a := ⟨k.nx, rfl, k.fr, k.get⟩
  have k2 : Kp base g (h'.rst g2) := ((Kp.refl base g).lay hqb hq2 _).trans (k1.kpE A2 hb)
  -- what lies elsewhere stays
  have st : ∀ {a3 : Option Addr} {n3 c3 : Nat} {zs : List Int}, IntsAt g a3 n3 zs → VOk lo base (.slice a3 n3 c3) → IntsAt (h'.rst g2) a3 n3 zs := by
    intro a3 n3 c3 zs Z ok
    refine ints_sub Z (fun b off hb hlt => ?_) k2.nx
    have hne := LL.ne A L Z hb (ok b off n3 c3 (by rw [hb])).2
    have hbq : b ≠ q := by
      rintro rfl
      rcases Z.2 with ⟨_, e⟩ | ⟨b', off', cs, e', m', h1, h2, h3, _⟩
      · rw [hb] at e; cases e
      · rw [hb] at h1; injection h1 with h1; injection h1 with h1; subst h1; rw [hq] at h3; cases h3
    rw [k1.get b hlt hne, get_lay, if_neg hbq]
  have fr := append_newE app28 A2 ⟨_, _, _, rfl⟩ (src_get (n := 1) (c := 1) (esz := 1) (off := 0) (read1 (i := 0) (v := .slice a1 n1 c1) src rfl)) rfl Nat.one_pos e1
  refine ⟨a', _, c', h', e1, next a' c' h' ⟨vs ++ [.slice a1 n1 c1], AccE.keep (h := h') A' (fun _ _ _ => rfl) (Nat.le_refl _), Lis.app ⟨L.1, fun i hi => ?_⟩ ⟨rfl, fun i hi => ?_⟩, fun v hv => ?_⟩ (fun p hp => by rw [fr] at hp; injection hp with hp; injection hp with hp; exact Nat.le_of_eq hp) ⟨k2, st, fun p hp hne hl => by rw [k1.get p hp hne, get_lay, if_neg (fun hh => hl (by rw [hh]; exact hq))]⟩⟩
  · obtain ⟨v, hv, a3, n3, c3, e, X⟩ := L.2 i hi
    have e' : v = .slice a3 n3 c3 := by simpa using e
    exact ⟨v, hv, a3, n3, c3, e, st X (by rw [← e']; exact o v (List.mem_of_getElem? hv))⟩
  · have : i = 0 := by simpa using hi
    subst this
    exact ⟨_, rfl, a1, n1, c1, rfl, st Y okY⟩
  · rcases List.mem_append.1 hv with hv | hv
    · exact o v hv
    · obtain rfl := List.mem_singleton.1 hv; exact okY
/-- The same outside of a region. -/
theorem LL.app {lo base : Nat} (hlo : lo ≤ base) {g : Hp} {a : Option Addr} {n c : Nat} {xss : List (List Int)} (A : LL lo base g a n c xss) {a1 : Option Addr} {n1 c1 : Nat} {ys : List Int} (Y : IntsAt g a1 n1 ys) (okY : VOk lo base (.slice a1 n1 c1)) (hb : base ≤ g.nx) (hg : GdLt g base) (hf : g.Fresh) (hn : n < 10000000)
    {K : Option Addr → Nat → Nat → Hp → Prop} (next : ∀ a' c' h', LL lo base h' a' (n + 1) c' (xss ++ [ys]) → (∀ p, a' = some ⟨p, 0, none⟩ → g.nx ≤ p) → LLK lo base g h' a → K a' (n + 1) c' h') :
    ∃ a' n' c' h', appendV Tryd.prog (g.add (.cells [.slice a1 n1 c1] 32 .fix)) 28 28 (.slice a n c) (.slice (some ⟨g.nx, 0, none⟩) 1 1) = some (.slice a' n' c', h') ∧ K a' n' c' h' := by
  have _ := hlo
  obtain ⟨vs, A, L, o⟩ := A
  have A2 : AccE (g.add (.cells [.slice a1 n1 c1] 32 .fix)) base 32 1 a n c vs := AccE.to _ A
  obtain ⟨a', n', c', h', e1, A', rfl, k⟩ := append_accE app28 A2 (by rw [nx_add]; omega) hg ⟨_, _, _, rfl⟩ (src_get (n := 1) (c := 1) (esz := 1) (off := 0) (read1 (i := 0) (v := .slice a1 n1 c1) (get_add_same ..) rfl)) rfl rfl (by omega) (by unfold big; omega)
  have _ := hf
  have k2 : Kp base g h' := ((Kp.refl base g).add hb _).trans (k.kpE A2 (by rw [nx_add]; omega))
  have st : ∀ {a3 : Option Addr} {n3 c3 : Nat} {zs : List Int}, IntsAt g a3 n3 zs → VOk lo base (.slice a3 n3 c3) → IntsAt h' a3 n3 zs := by
    intro a3 n3 c3 zs Z ok
    refine ints_sub Z (fun b off hb hlt => ?_) k2.nx
    have hne := LL.ne A L Z hb (ok b off n3 c3 (by rw [hb])).2
    rw [k.get b (by rw [nx_add]; omega) hne, get_add_ne (by omega)]
  have fr := append_newE app28 A2 ⟨_, _, _, rfl⟩ (src_get (n := 1) (c := 1) (esz := 1) (off := 0) (read1 (i := 0) (v := .slice a1 n1 c1) (get_add_same ..) rfl)) rfl Nat.one_pos e1
  refine ⟨a', _, c', h', e1, next a' c' _ ⟨vs ++ [.slice a1 n1 c1], A', Lis.app ⟨L.1, fun i hi => ?_⟩ ⟨rfl, fun i hi => ?_⟩, fun v hv => ?_⟩ (fun p hp => by rw [fr] at hp; injection hp with hp; injection hp with hp; have : (g.add (.cells [.slice a1 n1 c1] 32 .fix)).nx = g.nx + 1 := rfl; omega) ⟨k2, st, fun p hp hne _ => by rw [k.get p (by rw [nx_add]; omega) hne, get_add_ne (by omega)]⟩⟩
  · obtain ⟨v, hv, a3, n3, c3, e, X⟩ := L.2 i hi
    have e' : v = .slice a3 n3 c3 := by simpa using e
    exact ⟨v, hv, a3, n3, c3, e, st X (by rw [← e']; exact o v (List.mem_of_getElem? hv))⟩
  · have : i = 0 := by simpa using hi
    subst this
    exact ⟨_, rfl, a1, n1, c1, rfl, st Y okY⟩
  · rcases List.mem_append.1 hv with hv | hv
    · exact o v hv
    · obtain rfl := List.mem_singleton.1 hv; exact okY
section
variable {O : CallF} (hO : Oth O)
include hO
end
/-- Something is laid at a number that was free. -/
theorem ints_lay {h : Hp} {q : Nat} (hq : h.get q = none) (x : Ob) {a : Option Addr} {n : Nat} {xs : List Int} (X : IntsAt h a n xs) : IntsAt (h.lay q x) a n xs := by
  refine ⟨X.1, X.2.imp id ?_⟩
  rintro ⟨b, off, c, e, m, h1, h2, h3, h4, h5⟩
  exact ⟨b, off, c, e, m, h1, h2, by rw [get_lay, if_neg (fun hh => by rw [hh, hq] at h3; cases h3)]; exact h3, h4, h5⟩
theorem LL.lay {lo base : Nat} {h : Hp} {q : Nat} (hq : h.get q = none) (x : Ob) {a : Option Addr} {n c : Nat} {xss : List (List Int)} (A : LL lo base h a n c xss) : LL lo base (h.lay q x) a n c xss := by
  obtain ⟨vs, A, L, o⟩ := A
  refine ⟨vs, A.keep (fun p _ hp => by rw [get_lay, if_neg (fun hh => accE_live A hp (by rw [hh]; exact hq))]) (Nat.le_refl _), ⟨L.1, fun i hi => ?_⟩, o⟩
  obtain ⟨v, hv, a', n', c', e, X⟩ := L.2 i hi
  exact ⟨v, hv, a', n', c', e, ints_lay hq x X⟩
end Go.Proofs.YtfgfhplgnfbaaaaDoor
/- Contracts of layer 20: formulas by numbers. -/
namespace Go.Proofs.YtfgfhplgnfbaaaaDoor
open Go Go.Ev
structure PuzOk (vars many : Nat) (cl : List Int) : Prop where
  v : vars < 256
  m : many < 256
  len : cl.length = 42
  rng : ∀ x ∈ cl, -128 ≤ x ∧ x < 128
section
variable {O : CallF} (hO : Oth O)
include hO
end
end Go.Proofs.YtfgfhplgnfbaaaaDoor
/- The plain law of resolution: what it returns. -/
namespace Go.Proofs.YtfgfhplgnfbaaaaDoor
open Go Go.Ev
theorem lits_mem {y m : Nat} (hy : y < 2 ^ 30) (hm : m < 2 ^ 30) (hc : y &&& m = 0) {x : Int} : x ∈ litsN y m ↔ trM y m x := by
  have ex : ∀ i, y.testBit i = true → m.testBit i = true → False := fun i a b => (and_zero_iff _ _).1 hc i ⟨a, b⟩
  have big : ∀ {u i : Nat}, u < 2 ^ 30 → u.testBit i = true → i < 30 := fun {u i} hu h => by
    refine Classical.byContradiction fun hn => ?_
    rw [Nat.testBit_lt_two_pow (Nat.lt_of_lt_of_le hu (Nat.pow_le_pow_right (by decide) (by omega)))] at h; cases h
  unfold litsN digits
  rw [List.mem_map]
  constructor
  · rintro ⟨v, hv, rfl⟩
    obtain ⟨h1, h2⟩ := List.mem_filter.1 hv
    rw [Nat.testBit_or, Bool.or_eq_true] at h2
    unfold litOf ofN
    cases hyv : y.testBit v with
    | true => exact .inl ⟨by simp, by simp only [if_pos]; exact hyv⟩
    | false =>
      have hmv : m.testBit v = true := by rcases h2 with h2 | h2; rw [hyv] at h2; cases h2; exact h2
      simp only [hmv, Bool.false_eq_true, if_false, if_true]
      exact .inr ⟨by omega, by rw [show (-((v + 1 : Nat) : Int)).natAbs - 1 = v by omega]; exact hmv⟩
  · rintro (⟨h0, h1⟩ | ⟨h0, h1⟩)
    · refine ⟨x.natAbs - 1, List.mem_filter.2 ⟨List.mem_range.2 (big hy h1), by rw [Nat.testBit_or, h1]; rfl⟩, ?_⟩
      unfold litOf ofN
      rw [if_pos h1, if_neg (by decide)]; omega
    · refine ⟨x.natAbs - 1, List.mem_filter.2 ⟨List.mem_range.2 (big hm h1), by rw [Nat.testBit_or, h1, Bool.or_true]⟩, ?_⟩
      unfold litOf ofN
      have : y.testBit (x.natAbs - 1) = false := by
        cases h : y.testBit (x.natAbs - 1) with
        | false => rfl
        | true => exact (ex _ h h1).elim
      have e : (if y.testBit (x.natAbs - 1) = true then (1 : Int) else if m.testBit (x.natAbs - 1) = true then 2 else 0) = 2 := by rw [if_neg (by rw [this]; decide), if_pos h1]
      rw [if_pos e]; omega
theorem litOf_abs (y m v : Nat) : (litOf y m v).natAbs = v + 1 := by
  unfold litOf; split <;> omega
theorem lits_dif (y m : Nat) : Dif (litsN y m) := by
  unfold litsN digits Dif
  rw [List.pairwise_map]
  refine (List.Pairwise.filter _ List.pairwise_lt_range).imp fun h => ?_
  rw [litOf_abs, litOf_abs]; omega
theorem lits_lit (y m : Nat) : ∀ x ∈ litsN y m, Lit x := by
  intro x hx
  unfold litsN digits at hx
  obtain ⟨v, hv, rfl⟩ := List.mem_map.1 hx
  have := List.mem_range.1 (List.mem_filter.1 hv).1
  have := litOf_abs y m v
  unfold Lit; omega
theorem dif_ext : ∀ {l l' : List Int}, Dif l → Dif l' → (∀ x, x ∈ l ↔ x ∈ l') → l = l' := by
  intro l
  induction l with
  | nil =>
    intro l' _ _ h
    cases l' with
    | nil => rfl
    | cons y l' => exact absurd ((h y).2 (List.mem_cons_self ..)) (by simp)
  | cons x l ih =>
    intro l' h1 h2 h
    cases l' with
    | nil => exact absurd ((h x).1 (List.mem_cons_self ..)) (by simp)
    | cons y l' =>
      obtain ⟨a, b⟩ := List.pairwise_cons.1 h1
      obtain ⟨c, d⟩ := List.pairwise_cons.1 h2
      have e : x = y := by
        rcases List.mem_cons.1 ((h x).1 (List.mem_cons_self ..)) with e | hx
        · exact e
        rcases List.mem_cons.1 ((h y).2 (List.mem_cons_self ..)) with e | hy
        · exact e.symm
        have := a y hy; have := c x hx; omega
      subst e
      rw [ih b d fun z => ⟨fun hz => ?_, fun hz => ?_⟩]
      · rcases List.mem_cons.1 ((h z).1 (List.mem_cons_of_mem _ hz)) with rfl | hz'
        · have := a z hz; omega
        · exact hz'
      · rcases List.mem_cons.1 ((h z).2 (List.mem_cons_of_mem _ hz)) with rfl | hz'
        · have := c z hz; omega
        · exact hz'
theorem con_iff {y m : Nat} : y &&& m = 0 ↔ ∀ x, trM y m x → trM y m (-x) → False := by
  constructor
  · intro h x a b; exact trM_con h x a b
  · intro h
    refine (and_zero_iff _ _).2 fun i hi => h ((i + 1 : Nat) : Int) (.inl ⟨by omega, ?_⟩) (.inr ⟨by omega, ?_⟩)
    · rw [show ((i + 1 : Nat) : Int).natAbs - 1 = i by omega]; exact hi.1
    · rw [show (-((i + 1 : Nat) : Int)).natAbs - 1 = i by omega]; exact hi.2
theorem rsF_ok {v : Int} : ∀ {zs : List Int} {y m : Nat} {q : Bool}, (∀ z ∈ zs, Lit z) → y < 2 ^ 30 → m < 2 ^ 30 → (y &&& m = 0 ∨ q = false) →
    (∀ z, trM (rsF v zs y m q).1 (rsF v zs y m q).2.1 z ↔ trM y m z ∨ (z ∈ zs ∧ z ≠ v ∧ z ≠ -v)) ∧ ((rsF v zs y m q).2.2 = true ↔ q = true ∧ (rsF v zs y m q).1 &&& (rsF v zs y m q).2.1 = 0) ∧ (rsF v zs y m q).1 < 2 ^ 30 ∧ (rsF v zs y m q).2.1 < 2 ^ 30 := by
  intro zs
  induction zs with
  | nil =>
    intro y m q _ hy hm hc
    refine ⟨fun z => ⟨.inl, fun h => h.elim id fun h => by cases h.1⟩, ⟨fun h => ⟨h, hc.resolve_right fun e => ?_⟩, fun h => h.1⟩, hy, hm⟩
    have h : q = true := h
    rw [e] at h; cases h
  | cons x zs ih =>
    intro y m q hl hy hm hc
    have hx := hl x (List.mem_cons_self ..)
    have hl' : ∀ z ∈ zs, Lit z := fun z hz => hl z (List.mem_cons_of_mem _ hz)
    simp only [rsF]
    split
    · rename_i hv
      obtain ⟨a, b, c⟩ := ih hl' hy hm hc
      refine ⟨fun z => ?_, b, c⟩
      rw [a]
      constructor
      · rintro (h | ⟨h, r⟩)
        · exact .inl h
        · exact .inr ⟨List.mem_cons_of_mem _ h, r⟩
      · rintro (h | ⟨h, r1, r2⟩)
        · exact .inl h
        · rcases List.mem_cons.1 h with rfl | h
          · exact absurd hv (by omega)
          · exact .inr ⟨h, r1, r2⟩
    · rename_i hv
      have w := withN_lt hx hy hm
      obtain ⟨a, b, c⟩ := ih (q := q && decide ((withN y m x).1 &&& (withN y m x).2 = 0)) hl' w.1 w.2 (by
        by_cases h : (withN y m x).1 &&& (withN y m x).2 = 0
        · exact .inl h
        · right; simp [h])
      refine ⟨fun z => ?_, ?_, c⟩
      · rw [a, trM_with hx]
        constructor
        · rintro ((h | rfl) | ⟨h, r⟩)
          · exact .inl h
          · exact .inr ⟨List.mem_cons_self .., by omega, by omega⟩
          · exact .inr ⟨List.mem_cons_of_mem _ h, r⟩
        · rintro (h | ⟨h, r⟩)
          · exact .inl (.inl h)
          · rcases List.mem_cons.1 h with rfl | h
            · exact .inl (.inr rfl)
            · exact .inr ⟨h, r⟩
      · rw [b, Bool.and_eq_true, decide_eq_true_eq]
        constructor
        · rintro ⟨⟨h1, _⟩, h2⟩; exact ⟨h1, h2⟩
        · rintro ⟨h1, h2⟩
          refine ⟨⟨h1, con_iff.2 fun z p1 p2 => con_iff.1 h2 z ((a z).2 (.inl p1)) ((a (-z)).2 (.inl p2))⟩, h2⟩
/-- What two clauses are resolved to. -/
theorem resP_spec {xs ys : List Int} {v : Int} (hx : clB 30 0 xs = true) (hy : clB 30 0 ys = true) (h1 : 1 ≤ v) (h2 : v ≤ 30) (hv : v ∈ xs) (hw : -v ∈ ys) :
    (resP xs ys v = ([], 7) ∧ ∃ x ∈ xs, x ≠ v ∧ x ≠ -v ∧ -x ∈ ys) ∨ ∃ L, resP xs ys v = (L, 0) ∧ (¬ ∃ x ∈ xs, x ≠ v ∧ x ≠ -v ∧ -x ∈ ys) ∧ Dif L ∧ (∀ x ∈ L, Lit x) ∧ ∀ x, x ∈ L ↔ (x ∈ xs ∨ x ∈ ys) ∧ x ≠ v ∧ x ≠ -v := by
  have lx := fun x h => (clB_lit (by decide) hx x h).1
  have ly := fun x h => (clB_lit (by decide) hy x h).1
  have dx := clB_dif (by decide) hx
  have dy := clB_dif (by decide) hy
  have one : ∀ {l : List Int}, Dif l → ∀ {x}, x ≠ 0 → x ∈ l → -x ∈ l → False := by
    intro l d x h0 a b
    obtain ⟨i, hi, e1⟩ := List.getElem_of_mem a
    obtain ⟨j, hj, e2⟩ := List.getElem_of_mem b
    have := List.pairwise_iff_getElem.1 d
    rcases Nat.lt_trichotomy i j with h | h | h
    · have := this i j hi hj h; omega
    · subst h; omega
    · have := this j i hj hi h; omega
  have e : resP xs ys v = fin38 (rsF v (xs ++ ys) 0 0 true) := by
    unfold resP
    rw [if_neg (by rw [hx, hy]; simp; omega), if_neg (by simp [hv, hw])]
  have lz : ∀ z ∈ xs ++ ys, Lit z := fun z hz => (List.mem_append.1 hz).elim (lx z) (ly z)
  obtain ⟨a, b, c, d⟩ := rsF_ok (v := v) (q := true) lz (y := 0) (m := 0) (by decide) (by decide) (.inl rfl)
  have z0 : ∀ z, ¬ trM 0 0 z := fun z h => by
    rcases h with ⟨_, h⟩ | ⟨_, h⟩ <;> simp at h
  rw [e]
  unfold fin38
  cases hq : (rsF v (xs ++ ys) 0 0 true).2.2 with
  | false =>
    refine .inl ⟨rfl, Classical.byContradiction fun hn => ?_⟩
    have : (rsF v (xs ++ ys) 0 0 true).2.2 = true := b.2 ⟨rfl, con_iff.2 fun z p1 p2 => ?_⟩
    · rw [hq] at this; cases this
    · obtain ⟨m1, n1, n2⟩ := ((a z).1 p1).resolve_left (z0 z)
      obtain ⟨m2, _, _⟩ := ((a (-z)).1 p2).resolve_left (z0 _)
      have h0 := (lz z m1).1
      rcases List.mem_append.1 m1 with m1 | m1 <;> rcases List.mem_append.1 m2 with m2 | m2
      · exact one dx h0 m1 m2
      · exact hn ⟨z, m1, n1, n2, m2⟩
      · exact hn ⟨-z, m2, by omega, by omega, by rw [Int.neg_neg]; exact m1⟩
      · exact one dy h0 m1 m2
  | true =>
    have h0 := (b.1 hq).2
    refine .inr ⟨_, rfl, ?_, lits_dif _ _, lits_lit _ _, fun x => ?_⟩
    · rintro ⟨x, m1, n1, n2, m2⟩
      exact con_iff.1 h0 x ((a x).2 (.inr ⟨List.mem_append_left _ m1, n1, n2⟩)) ((a (-x)).2 (.inr ⟨List.mem_append_right _ m2, by omega, by omega⟩))
    · rw [lits_mem c d h0, a]
      constructor
      · rintro (h | ⟨h, r⟩)
        · exact (z0 _ h).elim
        · exact ⟨List.mem_append.1 h, r⟩
      · rintro ⟨h, r⟩
        exact .inr ⟨List.mem_append.2 h, r⟩
theorem isB_neg {m : Nat} {x : Int} (hx : x ≠ 0) : isB m (-x) = !(isB m x) := by
  unfold isB
  rw [Int.natAbs_neg]
  by_cases h : x < 0
  · rw [if_neg (by omega), if_pos h, Bool.not_not]
  · rw [if_pos (by omega), if_neg h]
/-- It is true whenever both are. -/
theorem res_true {xs ys L : List Int} {v : Int} (hv0 : v ≠ 0) (hL : ∀ x, x ∈ L ↔ (x ∈ xs ∨ x ∈ ys) ∧ x ≠ v ∧ x ≠ -v) (one : v ∈ xs → -v ∈ xs → False) (two : v ∈ ys → -v ∈ ys → False) (hv : v ∈ xs) (hw : -v ∈ ys) {m : Nat} (a : xs.any (isB m) = true) (b : ys.any (isB m) = true) : L.any (isB m) = true := by
  rw [List.any_eq_true] at a b ⊢
  obtain ⟨x, hx, tx⟩ := a
  obtain ⟨z, hz, tz⟩ := b
  by_cases e1 : x = v
  · subst e1
    have nz : z ≠ -x := fun e => by rw [e, isB_neg hv0, tx] at tz; cases tz
    have nz2 : z ≠ x := fun e => two (e ▸ hz) hw
    exact ⟨z, (hL z).2 ⟨.inr hz, nz2, nz⟩, tz⟩
  · have e2 : x ≠ -v := fun e => one hv (e ▸ hx)
    exact ⟨x, (hL x).2 ⟨.inl hx, e1, e2⟩, tx⟩
theorem clB_of {vars : Int} : ∀ {l : List Int} {last : Int}, Dif l → (∀ x ∈ l, Lit x ∧ (x.natAbs : Int) ≤ vars) → (∀ x ∈ l, last < (x.natAbs : Int)) → clB vars last l = true := by
  intro l
  induction l with
  | nil => intro last _ _ _; rfl
  | cons x l ih =>
    intro last hd hl hlast
    obtain ⟨h1, h2⟩ := List.pairwise_cons.1 hd
    have hx := hl x (List.mem_cons_self ..)
    have := hlast x (List.mem_cons_self ..)
    simp only [clB]
    rw [varI_lit2 hx.1, if_neg (by omega)]
    exact ih h2 (fun z hz => hl z (List.mem_cons_of_mem _ hz)) fun z hz => by have := h1 z hz; omega
/-- A clause of what is left of both, where nothing contradicts. -/
theorem clause_res {xs ys L : List Int} {v : Int} (hd : Dif L) (h0 : ∀ z ∈ xs ++ ys, z ≠ 0) (one : ∀ x, x ≠ 0 → x ∈ xs → -x ∈ xs → False) (two : ∀ x, x ≠ 0 → x ∈ ys → -x ∈ ys → False) (hn : ¬ ∃ x ∈ xs, x ≠ v ∧ x ≠ -v ∧ -x ∈ ys) (hL : ∀ x, x ∈ L ↔ (x ∈ xs ∨ x ∈ ys) ∧ x ≠ v ∧ x ≠ -v) : clauseN ((xs ++ ys).filter fun x => !(x == v) && !(x == -v)) = L := by
  refine dif_ext (clauseN_dif _) hd fun x => ?_
  have mw : ∀ z, z ∈ ((xs ++ ys).filter fun x => !(x == v) && !(x == -v)) ↔ (z ∈ xs ∨ z ∈ ys) ∧ z ≠ v ∧ z ≠ -v := by
    intro z
    rw [List.mem_filter, List.mem_append]
    simp
  constructor
  · intro hx
    exact (hL x).2 (clauseN_mem (P := fun x => (x ∈ xs ∨ x ∈ ys) ∧ x ≠ v ∧ x ≠ -v) (fun z hz => (mw z).1 hz) x hx)
  · intro hx
    have hx' := (hL x).1 hx
    have hxw := (mw x).2 hx'
    rcases firstF_has (acc := []) hxw with h | h
    · exact (isrt_perm _).symm.subset h
    · have hneg := firstF_mem (P := fun x => (x ∈ xs ∨ x ∈ ys) ∧ x ≠ v ∧ x ≠ -v) (fun z hz => (mw z).1 hz) (fun z hz => by cases hz) (-x) h
      have x0 : x ≠ 0 := h0 x (by rw [List.mem_append]; exact hx'.1)
      refine absurd ?_ (fun h => h)
      rcases hx'.1 with a | a <;> rcases hneg.1 with b | b
      · exact one x x0 a b
      · exact hn ⟨x, a, hx'.2.1, hx'.2.2, b⟩
      · exact hn ⟨-x, b, hneg.2.1, by have := hx'.2.1; omega, by rw [Int.neg_neg]; exact a⟩
      · exact two x x0 a b
end Go.Proofs.YtfgfhplgnfbaaaaDoor
/- What a call's arguments hold, as the evaluator's memory. -/
namespace Go.Ev
open Go
/-- Fields lie one behind the other. -/
def layOk (P : Program) : Nat → List Field → Nat → Bool
  | off, [], n => Nat.beq off n
  | off, f :: fs, n => Nat.beq f.offset off && layOk P (off + P.cellsOf f.type) fs n
/-- A type of truths, whole numbers, lists, structs and rows of these. -/
def Plain (P : Program) : Nat → TypeId → Bool
  | 0, _ => false
  | n + 1, t => match P.underlying t with
    | some .bool => true
    | some (.int _) => true
    | some (.slice e) => Plain P n e && !(Nat.beq (P.cellsOf e) 0)
    | some (.struct fs) => fs.toList.all (fun f => Plain P n f.type) && layOk P 0 fs.toList (P.cellsOf t)
    | some (.array m e) => Plain P n e && Nat.beq (m * P.cellsOf e) (P.cellsOf t)
    | _ => false
/-- Cells that read as some data, in the evaluator's memory. -/
def DE {H : Type} (P : Program) (h : Hp) : Nat → TypeId → List Value → DataW H → Prop
  | 0, _, _, _ => False
  | n + 1, t, cs, d => match P.underlying t, d with
    | some .bool, .lit (.bool b) => cs = [.bool b]
    | some (.int k), .lit (.int k' x) => k' = k ∧ cs = [.int k x] ∧ (Lit.int k x).wf = true
    | some (.slice _), .nil => cs = [.slice none 0 0]
    | some (.slice e), .slice elems _ => ∃ k cap c e', cs = [.slice (some ⟨k, 0, none⟩) elems.length cap] ∧ cap < unk ∧ elems.length ≤ cap ∧ k < h.nx ∧ h.get k = some (.cells c e' .ro) ∧ elems.length * P.cellsOf e ≤ c.length ∧
        ∀ i (hi : i < elems.length), DE P h n e ((c.drop (i * P.cellsOf e)).take (P.cellsOf e)) elems[i]
    | some (.struct fs), .agg parts => cs.length = P.cellsOf t ∧ parts.length = fs.size ∧ ∀ i (hi : i < parts.length) f, fs[i]? = some f → DE P h n f.type ((cs.drop f.offset).take (P.cellsOf f.type)) parts[i]
    | some (.array m e), .agg parts => cs.length = P.cellsOf t ∧ parts.length = m ∧ ∀ i (hi : i < parts.length), DE P h n e ((cs.drop (i * P.cellsOf e)).take (P.cellsOf e)) parts[i]
    | _, _ => False
/-- Memory with more in it, that none writes. -/
structure Ext1 (h : Hp) (ι : Inj) (h' : Hp) (ι' : Inj) : Prop where
  nx : h.nx ≤ h'.nx
  gd : h'.gd = h.gd
  get : ∀ o, o < h.nx → h'.get o = h.get o
  inj : ∀ o, o < h.nx → ι' o = ι o
theorem Ext1.refl (h : Hp) (ι : Inj) : Ext1 h ι h ι := ⟨Nat.le_refl _, rfl, fun _ _ => rfl, fun _ _ => rfl⟩
theorem Ext1.trans {h h' h'' : Hp} {ι ι' ι'' : Inj} (a : Ext1 h ι h' ι') (b : Ext1 h' ι' h'' ι'') : Ext1 h ι h'' ι'' :=
  ⟨Nat.le_trans a.nx b.nx, b.gd.trans a.gd, fun o ho => (b.get o (Nat.lt_of_lt_of_le ho a.nx)).trans (a.get o ho), fun o ho => (b.inj o (Nat.lt_of_lt_of_le ho a.nx)).trans (a.inj o ho)⟩
theorem DE.mono {H : Type} {P : Program} {h h' : Hp} (hn : h.nx ≤ h'.nx) (hg : ∀ o, o < h.nx → h'.get o = h.get o) : ∀ {n : Nat} {t : TypeId} {cs : List Value} {d : DataW H}, DE P h n t cs d → DE P h' n t cs d := by
  intro n
  induction n with
  | zero => intro t cs d h; exact h
  | succ n ih =>
    intro t cs d hd
    unfold DE at hd ⊢
    split at hd
    · exact hd
    · exact hd
    · exact hd
    · obtain ⟨k, cap, c, e', h1, h2, h3, h4, h5, h6, h7⟩ := hd
      exact ⟨k, cap, c, e', h1, h2, h3, Nat.lt_of_lt_of_le h4 hn, by rw [hg k h4]; exact h5, h6, fun i hi => ih (h7 i hi)⟩
    · exact ⟨hd.1, hd.2.1, fun i hi f hf => ih (hd.2.2 i hi f hf)⟩
    · exact ⟨hd.1, hd.2.1, fun i hi => ih (hd.2.2 i hi)⟩
    · exact hd
section
variable {H : Type} {enc : TypeId × Value → H} {P : Program} {W : World}
/-- What is ahead: memory that none writes, and an object in it. -/
structure Base (P : Program) (ι : Inj) (h : Hp) (W : World) : Prop where
  rh : RH P ι h W
  ro : ∀ o x, h.get o = some x → x.wr = false
  gd : h.gd = []
  some0 : ∃ x v, h.get 0 = some x ∧ ι 0 = some v ∧ 0 < h.nx ∧ ∃ c e, x = .cells c e .ro
/-- A whole part is built, whatever a part is built of. -/
def Builds (H : Type) (enc : TypeId × Value → H) (P : Program) (W : World) (n : Nat) (t : TypeId) : Prop := ∀ (cs : List Value) (d : DataW H) (ps : List MemPlace), DataW.trod enc P W 0 (fun _ => true) true n t cs = some (d, ps) →
  ∀ ι h, Base P ι h W → ∃ ι' h' ev, Ext1 h ι h' ι' ∧ Base P ι' h' W ∧ VRs ι' ev cs ∧ ev.all one = true ∧ DE P h' n t ev d
theorem VRs.mono1 {ι ι' : Inj} {h h' : Hp} (E : Ext1 h ι h' ι') (R : ∀ o, h.nx ≤ o → ι o = none) {a b : List Value} (hv : VRs ι a b) : VRs ι' a b := hv.mono fun o v hv => by
  have : o < h.nx := by
    rcases Nat.lt_or_ge o h.nx with hh | hh
    · exact hh
    · rw [R o hh] at hv; cases hv
  rw [E.inj o this]; exact hv
/-- Parts, one after the other. -/
theorem build_list {n : Nat} : ∀ (l : List (TypeId × List Value × DataW H)), (∀ p ∈ l, Builds H enc P W n p.1 ∧ ∃ ps, DataW.trod enc P W 0 (fun _ => true) true n p.1 p.2.1 = some (p.2.2, ps)) → ∀ ι h, Base P ι h W →
    ∃ ι' h', ∃ evs : List (List Value), Ext1 h ι h' ι' ∧ Base P ι' h' W ∧ evs.length = l.length ∧ VRs ι' evs.flatten (l.map (·.2.1)).flatten ∧ evs.flatten.all one = true ∧
      ∀ i (hi : i < l.length), ∃ ev, evs[i]? = some ev ∧ VRs ι' ev l[i].2.1 ∧ DE P h' n l[i].1 ev l[i].2.2 := by
  intro l
  induction l with
  | nil => intro _ ι h B; exact ⟨ι, h, [], .refl _ _, B, rfl, .nil _, rfl, fun i hi => absurd hi (Nat.not_lt_zero _)⟩
  | cons p l ih =>
    intro hl ι h B
    obtain ⟨hb, ps, hp⟩ := hl p (List.mem_cons_self ..)
    obtain ⟨ι1, h1, ev, E1, B1, V1, O1, D1⟩ := hb _ _ _ hp ι h B
    obtain ⟨ι2, h2, evs, E2, B2, L2, V2, O2, D2⟩ := ih (fun q hq => hl q (List.mem_cons_of_mem _ hq)) ι1 h1 B1
    have V1' := VRs.mono1 E2 B1.rh.fresh V1
    refine ⟨ι2, h2, ev :: evs, E1.trans E2, B2, by simp [L2], ?_, ?_, fun i hi => ?_⟩
    · rw [List.flatten_cons, List.map_cons, List.flatten_cons]; exact V1'.append V2
    · rw [List.flatten_cons, List.all_append, O1, O2]; rfl
    · cases i with
      | zero => exact ⟨ev, rfl, V1', D1.mono E2.nx E2.get⟩
      | succ i => exact D2 i (by simpa using hi)
theorem flat_row {l : List (List Value)} {w : Nat} (hw : ∀ x ∈ l, x.length = w) : l.flatten.length = l.length * w ∧ ∀ i x, l[i]? = some x → (l.flatten.drop (i * w)).take w = x := by
  induction l with
  | nil => exact ⟨by simp, fun i x h => by simp at h⟩
  | cons y l ih =>
    obtain ⟨h1, h2⟩ := ih fun x hx => hw x (List.mem_cons_of_mem _ hx)
    have hy := hw y (List.mem_cons_self ..)
    refine ⟨by rw [List.flatten_cons, List.length_append, h1, hy, List.length_cons, Nat.add_mul]; omega, fun i x hx => ?_⟩
    rw [List.flatten_cons]
    cases i with
    | zero =>
      simp at hx
      subst hx
      rw [Nat.zero_mul, List.drop_zero, ← hy, List.take_left]
    | succ i =>
      rw [List.drop_append, List.drop_of_length_le (by rw [hy, Nat.add_mul]; omega), List.nil_append, hy, show (i + 1) * w - w = i * w by rw [Nat.add_mul]; omega]
      exact h2 i x (by simpa using hx)
theorem build_int {n : Nat} {t : TypeId} {k : IntKind} (hu : P.underlying t = some (.int k)) : Builds H enc P W (n + 1) t := by
  intro cs d ps h ι hp B
  unfold DataW.trod at h
  rw [hu] at h
  rcases cs with _ | ⟨v, _ | ⟨w, r⟩⟩
  · cases h
  · cases v with
    | int k' x =>
      simp only at h
      split at h
      · rename_i hc
        injection h with h; injection h with h _
        subst h
        obtain ⟨rfl, hw⟩ := hc
        exact ⟨ι, hp, [.int k' x], .refl _ _, B, .of_flat rfl, rfl, by unfold DE; rw [hu]; exact ⟨rfl, rfl, hw⟩⟩
      · cases h
    | slice a len cap => cases a <;> cases len <;> cases cap <;> cases h
    | _ => cases h
  · cases v with
    | slice a len cap => cases a <;> cases len <;> cases cap <;> cases h
    | _ => cases h
end
end Go.Ev
/- A law's arguments, as the evaluator's memory; from its word to the kit's. -/
namespace Go.Ev
open Go Go.ChangeShapes Go.WideShapes Go.ChangeAt Go.RowKit
section
variable {H : Type} {enc : TypeId × Value → H} {P : Program} {W : World}
/-- Arguments that read as some data. -/
def DEs (P : Program) (h : Hp) : List TypeId → List Value → List (DataW H) → Prop
  | [], [], [] => True
  | t :: ts, v :: vs, d :: ds => ((∃ n, DE P h n t v.cells.toList d) ∧ (aggT P t = some true ∨ v.cells.toList = [v])) ∧ DEs P h ts vs ds
  | _, _, _ => False
theorem DEs.mono {h h' : Hp} (hn : h.nx ≤ h'.nx) (hg : ∀ o, o < h.nx → h'.get o = h.get o) : ∀ {ts : List TypeId} {vs : List Value} {ds : List (DataW H)}, DEs P h ts vs ds → DEs P h' ts vs ds
  | [], [], [], h => h
  | _ :: _, _ :: _, _ :: _, ⟨⟨⟨n, h1⟩, h3⟩, h2⟩ => ⟨⟨⟨n, h1.mono hn hg⟩, h3⟩, h2.mono hn hg⟩
/-- A value is one cell, or a struct's or a row's cells. -/
def Shaped1 (P : Program) (t : TypeId) (v : Value) : Prop := v.cells.toList = [v] ∨ (∃ cs, v = .agg cs) ∧ aggT P t = some true
theorem args_build : ∀ {ts : List TypeId} {vs : List Value} {ds : List (DataW H)} {p : List MemPlace}, DataW.TrodAll enc P W 0 (fun _ => true) true ts vs ds p → (∀ t ∈ ts, ∀ n, Builds H enc P W n t) → (∀ (i : Nat) t v, ts[i]? = some t → vs[i]? = some v → Shaped1 P t v) → ∀ ι h, Base P ι h W →
    ∃ ι' h' evs, Ext1 h ι h' ι' ∧ Base P ι' h' W ∧ VRs ι' evs vs ∧ DEs P h' ts evs ds
  | [], [], [], _, _, _, _, ι, h, B => ⟨ι, h, [], .refl _ _, B, .nil _, trivial⟩
  | t :: ts, v :: vs, d :: ds, _, ⟨p, q, ⟨n, h1⟩, h2, _⟩, hb, hs, ι, h, B => by
    obtain ⟨ι1, h3, ev, E1, B1, V1, O1, D1⟩ := hb t (List.mem_cons_self ..) n _ _ _ h1 ι h B
    obtain ⟨ι2, h4, evs, E2, B2, V2, D2⟩ := args_build h2 (fun t ht => hb t (List.mem_cons_of_mem _ ht)) (fun i t v a b => hs (i + 1) t v (by simpa using a) (by simpa using b)) ι1 h3 B1
    have V1' := VRs.mono1 E2 B1.rh.fresh V1
    rcases hs 0 t v rfl rfl with hc | ⟨⟨cs, rfl⟩, hag⟩
    · rw [hc] at V1'
      have hl : ev.length = 1 := by have := V1'.1; simpa using this.symm
      obtain ⟨x, rfl⟩ : ∃ x, ev = [x] := List.length_eq_one_iff.1 hl
      have hx : x.cells.toList = [x] := by
        have : one x = true := by simpa using O1
        cases x <;> first | rfl | cases this
      obtain ⟨y, c, e1, e2, _⟩ := V1'.head
      injection e1 with e1 _
      subst e1
      refine ⟨ι2, h4, x :: evs, E1.trans E2, B2, .cons e2 V2, ⟨⟨n, ?_⟩, .inr hx⟩, D2⟩
      rw [hx]; exact D1.mono E2.nx E2.get
    · refine ⟨ι2, h4, .agg ev.toArray :: evs, E1.trans E2, B2, .cons ?_ V2, ⟨⟨n, ?_⟩, .inl hag⟩, D2⟩
      · have V1'' : VRs ι2 ev.toArray.toList cs.toList := by rw [List.toList_toArray]; exact V1'
        obtain ⟨a1, a2⟩ := VRs.arr.1 V1''
        exact .agg a1 a2
      · show DE P h4 n t (ev.toArray).toList d
        simpa using D1.mono E2.nx E2.get
theorem shaped_of {r : Reach} {base n : Nat} {t : TypeId} {v : Value} (hp : Plain P n t = true) (h : Value.okWide P W r base t v) : Shaped1 P t v := by
  cases n with
  | zero => cases hp
  | succ n =>
    unfold Plain at hp
    unfold Value.okWide at h
    split at hp
    · rename_i hu
      rw [hu] at h
      unfold Cell.okWide Cell.ok at h
      rw [hu] at h
      cases v <;> first | exact .inl rfl | exact h.elim
    · rename_i hu
      rw [hu] at h
      unfold Cell.okWide Cell.ok at h
      rw [hu] at h
      cases v <;> first | exact .inl rfl | exact h.elim
    · rename_i hu
      rw [hu] at h
      unfold Cell.okWide Cell.ok at h
      rw [hu] at h
      cases v <;> first | exact .inl rfl | exact h.elim
    · rename_i hu
      rw [hu] at h
      obtain ⟨cs, rfl, _⟩ := h
      exact .inr ⟨⟨cs, rfl⟩, by unfold aggT; rw [hu]⟩
    · rename_i hu
      rw [hu] at h
      obtain ⟨cs, rfl, _⟩ := h
      exact .inr ⟨⟨cs, rfl⟩, by unfold aggT; rw [hu]⟩
    · cases hp
theorem DE_int {h : Hp} {n : Nat} {t : TypeId} {k : IntKind} (hu : P.underlying t = some (.int k)) {cs : List Value} {d : DataW H} (hd : DE P h n t cs d) : ∃ x, cs = [.int k x] ∧ (Lit.int k x).wf = true := by
  cases n with
  | zero => exact hd.elim
  | succ n =>
    unfold DE at hd
    rw [hu] at hd
    split at hd
    all_goals first | (rename_i heq; cases heq; done) | skip
    · rename_i k' k2 x heq
      injection heq with heq; injection heq with heq
      subst heq
      exact ⟨x, hd.2⟩
    all_goals first | exact hd.elim | skip
/-- What was there stays, but for what is new. -/
theorem post_of_old {f : Func} {s : ChangeSpec} {apart fresh handsOn again : Bool} {W W' : World} {args : Array Value} {v : Value} {ds gs : List (DataW H)} {before pa pv : List MemPlace}
    (hW : DataW.Whole enc P f.params.toList s.vars apart W args.toList ds gs before)
    (hres : ∀ (b : Nat) (sp : Nat → Bool) (hd : Bool), DataW.TrodAll enc P W' b sp hd f.resultTypes.toList (v.resultList f.resultTypes.size) (s.fn H (ds ++ gs)).results [])
    (hargs : ∀ sp : Nat → Bool, (∀ p ∈ before, sp p.block = true) → DataW.TrodAll enc P W' 0 sp true f.params.toList args.toList (s.fn H (ds ++ gs)).args pa)
    (hvars : ∀ sp : Nat → Bool, (∀ p ∈ before, sp p.block = true) → DataW.TrodVars enc P W' sp s.vars (s.fn H (ds ++ gs)).vars pv)
    (hps : before = pa ++ pv) (hk : W.keptBut W' (· ∈ before)) (hfz : ∀ a : Addr, a.block < W.heap.size → W'.frozen? a = W.frozen? a)
    (hok : ∀ (j : Nat) (t : TypeId) (r : Value), f.resultTypes[j]? = some t → (v.resultList f.resultTypes.size)[j]? = some r → Value.okWide P W' .any 0 t r) :
    s.post enc P f apart fresh handsOn again W args v W' := by
  have hold : ∀ p ∈ before, (fun b => decide (b < W.heap.size)) p.block = true := fun p hp => by simpa using hW.lt p hp
  have hlt := hW.lt
  refine ⟨ds, gs, before, [], pa, pv, hW, hres _ _ _, hargs _ hold, hvars _ hold, World.keptBut_mono (fun p hp => ⟨hp, ?_⟩) hk, fun _ => ?_⟩
  · rw [hps, List.mem_append] at hp
    exact Or.inr hp
  · obtain ⟨_, _, _, _, _, hz, hn⟩ := hW
    refine ⟨hok, _, _, ([] ++ pa) ++ pv, ⟨[] ++ pa, pv, trodAll_append (hargs _ (fun _ _ => rfl)) (hres _ _ _), hvars _ (fun _ _ => rfl), rfl, ?_, ?_⟩, ?_⟩
    · intro b off hp
      have hp2 : MemPlace.cell b off ∈ before := by rw [hps]; simpa using hp
      rw [hfz _ (hlt _ hp2)]
      exact hz b off hp2
    · intro ha
      have := hn ha
      rw [hps] at this
      simpa using this
    · intro p hp _
      rw [hps]
      simpa using hp
/-- Arguments read again as they did. -/
theorem again {ts : List TypeId} {vs : List Value} {ds : List (DataW H)} {p : List MemPlace} {W' : World} (K : Kids P (· < P.types.size)) (full : ∀ t e, t < P.types.size → P.underlying t = some (.slice e) → 0 < P.cellsOf e) (hts : ∀ t ∈ ts, t < P.types.size)
    (hA : DataW.TrodAll enc P W 0 (fun _ => true) true ts vs ds p) (hb : Below W.heap.size W W') (hlt : ∀ q ∈ p, q.block < W.heap.size) (sp : Nat → Bool) (hs : ∀ q ∈ p, sp q.block = true) : DataW.TrodAll enc P W' 0 sp true ts vs ds p := by
  have hA' := DataW.TrodAll.respare K full hts hA hs
  clear hA hs hts
  induction ts generalizing vs ds p with
  | nil => match vs, ds, hA' with
    | [], [], h => exact h
  | cons t ts ih => match vs, ds, hA' with
    | v :: vs, d :: ds, ⟨p1, p2, ⟨n, h1⟩, h2, e⟩ =>
      subst e
      exact ⟨p1, p2, ⟨n, DataW.trod_carry n _ _ _ h1 fun q hq => hb.same (hlt q (List.mem_append_left _ hq))⟩, ih (fun q hq => hlt q (List.mem_append_right _ hq)) h2, rfl⟩
end
end Go.Ev
/- A law's arguments, as the evaluator's memory: structs, rows, and lists of lists. -/
namespace Go.Ev
open Go Go.ChangeShapes Go.WideShapes Go.ChangeAt Go.RowKit
section
variable {H : Type} {enc : TypeId × Value → H} {P : Program} {W : World}
end
end Go.Ev
/- A law's arguments, as the evaluator's memory: rows. -/
namespace Go.Ev
open Go Go.ChangeShapes Go.WideShapes Go.ChangeAt Go.RowKit
section
variable {H : Type} {enc : TypeId × Value → H} {P : Program} {W : World}
theorem row_flat {w : Nat} : ∀ (m : Nat) (cs : List Value), cs.length = m * w → ((List.range m).map fun i => (cs.drop (i * w)).take w).flatten = cs := by
  intro m
  induction m with
  | zero => intro cs h; rw [Nat.zero_mul] at h; rw [List.length_eq_zero_iff.1 h]; rfl
  | succ m ih =>
    intro cs h
    have e : cs = cs.take (m * w) ++ cs.drop (m * w) := (List.take_append_drop ..).symm
    have hm : (cs.take (m * w)).length = m * w := by rw [List.length_take, h, Nat.add_mul]; omega
    rw [List.range_succ, List.map_append, List.flatten_append]
    have e1 : ((List.range m).map fun i => (cs.drop (i * w)).take w) = (List.range m).map fun i => ((cs.take (m * w)).drop (i * w)).take w := by
      refine List.map_congr_left fun i hi => ?_
      have hi := List.mem_range.1 hi
      have : (i + 1) * w ≤ m * w := Nat.mul_le_mul_right w hi
      rw [Nat.add_mul] at this
      rw [List.drop_take, List.take_take, Nat.min_eq_left (by omega)]
    rw [e1, ih _ hm]
    simp only [List.map_cons, List.map_nil, List.flatten_cons, List.flatten_nil, List.append_nil]
    rw [List.take_of_length_le (l := cs.drop (m * w)) (by rw [List.length_drop, h, Nat.add_mul]; omega)]
    exact List.take_append_drop ..
theorem build_array {n m : Nat} {e t : TypeId} (he : Builds H enc P W n e) (hsz : P.cellsOf t = m * P.cellsOf e) (hu : P.underlying t = some (.array m e)) : Builds H enc P W (n + 1) t := by
  intro cs d ps h ι hp B
  have h : (if cs.length = P.cellsOf t then ((List.range m).mapM fun i => DataW.trod enc P W 0 (fun _ => true) true n e ((cs.drop (i * P.cellsOf e)).take (P.cellsOf e))).map fun xs => (DataW.agg (xs.map (·.1)), xs.flatMap (·.2)) else none) = some (d, ps) := by
    unfold DataW.trod at h
    rw [hu] at h
    exact h
  split at h
  · rename_i hc
    obtain ⟨xs, h1, h2⟩ := Option.map_eq_some_iff.1 h
    injection h2 with h2 _
    subst h2
    have l1 := Lib.mapM_length h1
    rw [List.length_range] at l1
    let l : List (TypeId × List Value × DataW H) := (List.range m).map fun i => (e, (cs.drop (i * P.cellsOf e)).take (P.cellsOf e), ((xs.map (·.1))[i]?).getD .nil)
    have hll : l.length = m := by simp [l]
    have lget : ∀ i (hi : i < l.length), ∃ x, xs[i]? = some x ∧ l[i] = (e, (cs.drop (i * P.cellsOf e)).take (P.cellsOf e), x.1) ∧ DataW.trod enc P W 0 (fun _ => true) true n e ((cs.drop (i * P.cellsOf e)).take (P.cellsOf e)) = some x := by
      intro i hi
      have hi1 : i < m := by omega
      have hi2 : i < xs.length := by omega
      obtain ⟨b, e1, e2⟩ := Lib.mapM_at h1 i i (by simp [hi1])
      rw [List.getElem?_eq_getElem hi2] at e1
      obtain rfl := Option.some.inj e1
      exact ⟨_, List.getElem?_eq_getElem hi2, by simp [l, hi2], e2⟩
    obtain ⟨ι1, h3, evs, E1, B1, L1, V1, O1, D1⟩ := build_list l (fun p hpm => by
      obtain ⟨i, hi, rfl⟩ := List.getElem_of_mem hpm
      obtain ⟨x, a2, a3, a4⟩ := lget i hi
      rw [a3]
      exact ⟨he, _, a4⟩) ι hp B
    have hcells : l.map (·.2.1) = (List.range m).map fun i => (cs.drop (i * P.cellsOf e)).take (P.cellsOf e) := by simp [l]
    rw [hcells, row_flat m cs (by rw [hc, hsz])] at V1
    refine ⟨ι1, h3, evs.flatten, E1, B1, V1, O1, ?_⟩
    unfold DE
    rw [hu]
    have hw : ∀ x ∈ evs, x.length = P.cellsOf e := by
      intro x hx
      obtain ⟨i, hi, rfl⟩ := List.getElem_of_mem hx
      obtain ⟨ev, e1, e2, _⟩ := D1 i (by omega)
      rw [List.getElem?_eq_getElem hi] at e1
      obtain rfl := Option.some.inj e1
      obtain ⟨x, a2, a3, a4⟩ := lget i (by omega)
      rw [← e2.1, a3]
      have : (i + 1) * P.cellsOf e ≤ m * P.cellsOf e := Nat.mul_le_mul_right _ (by omega)
      rw [Nat.add_mul] at this
      show ((cs.drop (i * P.cellsOf e)).take (P.cellsOf e)).length = _
      rw [List.length_take, List.length_drop, hc, hsz]; omega
    refine ⟨by rw [← V1.1]; exact hc, by simp [l1], fun i hi => ?_⟩
    have hi2 : i < l.length := by simp at hi; omega
    obtain ⟨ev, e1, e2, e3⟩ := D1 i hi2
    obtain ⟨x, a2, a3, a4⟩ := lget i hi2
    rw [(flat_row hw).2 i ev e1]
    rw [a3] at e3
    have hx : (xs.map (·.1))[i]'(by simpa using hi) = x.1 := by
      have hi3 : i < xs.length := by simpa using hi
      rw [List.getElem?_eq_getElem hi3] at a2
      obtain rfl := Option.some.inj a2
      simp
    rw [hx]; exact e3
  · cases h
/-- Cells are whole numbers of a kind, each in its range. -/
def AllInt (k : IntKind) (cs : List Value) : Prop := ∀ v ∈ cs, ∃ x, v = .int k x ∧ (Lit.int k x).wf = true
theorem AllInt.list {k : IntKind} : ∀ {cs : List Value}, AllInt k cs → ∃ xs : List Int, cs = xs.map (Value.int k) ∧ ∀ x ∈ xs, (Lit.int k x).wf = true := by
  intro cs
  induction cs with
  | nil => intro _; exact ⟨[], rfl, fun x h => by cases h⟩
  | cons v cs ih =>
    intro h
    obtain ⟨x, rfl, hx⟩ := h v (List.mem_cons_self ..)
    obtain ⟨xs, rfl, hxs⟩ := ih fun w hw => h w (List.mem_cons_of_mem _ hw)
    exact ⟨x :: xs, rfl, fun y hy => by
      rcases List.mem_cons.1 hy with rfl | hy
      · exact hx
      · exact hxs y hy⟩
theorem DE_allInt {h : Hp} {n : Nat} {t : TypeId} {k : IntKind} (hu : P.underlying t = some (.int k)) {cs : List Value} {d : DataW H} (hd : DE P h n t cs d) : AllInt k cs := by
  obtain ⟨x, rfl, hx⟩ := DE_int hu hd
  intro v hv
  exact ⟨x, List.mem_singleton.1 hv, hx⟩
/-- A row's cells are those of its parts. -/
theorem DE_array {h : Hp} {n m : Nat} {t e : TypeId} (hu : P.underlying t = some (.array m e)) (hsz : P.cellsOf t = m * P.cellsOf e) {k : IntKind} (he : ∀ n cs (d : DataW H), DE P h n e cs d → AllInt k cs) {cs : List Value} {d : DataW H} (hd : DE P h n t cs d) : cs.length = P.cellsOf t ∧ AllInt k cs := by
  cases n with
  | zero => exact hd.elim
  | succ n =>
    unfold DE at hd
    rw [hu] at hd
    split at hd
    all_goals first | (rename_i heq; cases heq; done) | skip
    · rename_i m' e' parts heq
      injection heq with heq; injection heq with h1 h2
      subst h1 h2
      obtain ⟨h1, h2, h3⟩ := hd
      refine ⟨h1, fun v hv => ?_⟩
      obtain ⟨j, hj, rfl⟩ := List.getElem_of_mem hv
      have hw : 0 < P.cellsOf e := by
        rcases Nat.eq_zero_or_pos (P.cellsOf e) with h0 | h0
        · rw [h1, hsz, h0] at hj; omega
        · exact h0
      have hi : j / P.cellsOf e < parts.length := by
        rw [h2]
        exact Nat.div_lt_of_lt_mul (by rw [Nat.mul_comm, ← hsz, ← h1]; exact hj)
      refine he _ _ _ (h3 _ hi) _ ?_
      have hmod := Nat.mod_lt j hw
      have hdm := Nat.div_add_mod j (P.cellsOf e)
      refine List.mem_iff_getElem?.2 ⟨j % P.cellsOf e, ?_⟩
      rw [List.getElem?_take_of_lt hmod, List.getElem?_drop, Nat.mul_comm, hdm, List.getElem?_eq_getElem hj]
    all_goals first | exact hd.elim | skip
theorem wf_rng {k : IntKind} {x : Int} (h : (Lit.int k x).wf = true) : k.min ≤ x ∧ x ≤ k.max := by
  have h : (decide (k.min ≤ x) && decide (x ≤ k.max)) = true := h
  simpa using h
end
end Go.Ev
namespace Go.Proofs.YtfgfhplgnfbaaaaDoor
open Go.Ev
theorem works_ev : saysTrue (evCall Tryd.prog 1000 100 27 [] h0) = true := by kernel_rfl
end Go.Proofs.YtfgfhplgnfbaaaaDoor
/- 'works' is answered beforehand. -/
namespace Go.Proofs.YtfgfhplgnfbaaaaDoor
open Go Go.Ev
theorem h0_get (o : Nat) (x : Ob) (h : h0.get o = some x) : o = 0 ∧ x = .cells tab 0 .ro := by
  have h : (Tr.set (Tr.full none 64) 0 (some (Ob.cells tab 0 .ro))).get none o = some x := h
  rw [Tr.get_set] at h
  split at h
  · split at h
    · exact ⟨‹_›, (Option.some.inj h).symm⟩
    · cases h
  · rw [Tr.get_full] at h; cases h
theorem tab_flat : tab.all flat = true := by kernel_rfl
theorem tab_one : tab.all one = true := by kernel_rfl
/-- 'works' is true, wherever the table stands. -/
theorem works_calls {h : Hp} (_ : 0 < h.nx) (hh : h.get 0 = some (.cells tab 0 .ro)) {iota : Inj} {w : World} (R : RH Tryd.prog iota h w) : Calls Tryd.prog 27 #[] w fun e w' => e = .returned (.bool true) ∧ Went Tryd.prog h iota w h iota w' := by
  have hev := works_ev
  cases hr : evCall Tryd.prog 1000 100 27 [] h0 with
  | none => rw [hr] at hev; cases hev
  | some r =>
    obtain ⟨v, h1⟩ := r
    rw [hr] at hev
    obtain rfl : v = .bool true := by
      cases v with
      | bool b => have : b = true := hev; rw [this]
      | _ => cases hev
    exact closed_call mixed noNum (fn := Tryd.f27) Tryd.func27 (by kernel_rfl) hr rfl rfl (fun o x ho => ⟨tab, 0, (h0_get o x ho).2, tab_flat⟩) (fun o x ho => by
      obtain ⟨rfl, rfl⟩ := h0_get o x ho
      exact ⟨hh, Nat.zero_lt_one⟩) (by rw [gsz]; exact Nat.le_refl _) R
def isTab : List Value → List Value → Bool
  | [], [] => true
  | .int .u8 a :: l, .int .u8 b :: r => eqI a b && isTab l r
  | _, _ => false
theorem isTab_eq : ∀ (l r : List Value), isTab l r = true → l = r := by
  intro l
  induction l with
  | nil => intro r h; cases r with
    | nil => rfl
    | cons => simp [isTab] at h
  | cons a l ih =>
    intro r h
    unfold isTab at h
    split at h
    · rename_i h2; cases h2
    · rename_i x l2 y r2 h2
      injection h2 with e1 e2
      subst e1 e2
      rw [Bool.and_eq_true, eqI_eq] at h
      rw [ih _ h.2, (by simpa using h.1 : x = y)]
    · cases h
/-- The one call that is answered beforehand. -/
noncomputable def Ow : CallF := fun f args h => bif Nat.beq f 27 then (match args, h.get 0 with
  | [], some (.cells l 0 .ro) => bif Nat.blt 0 h.nx && isTab l tab then some (.bool true, h) else none
  | _, _ => none) else none
set_option maxRecDepth 100000 in
theorem Ow_ok : COk Tryd.prog Ow := by
  intro f args h v h' hs iota w args' R ha o a next Q hn
  unfold Ow at hs
  cases hf : Nat.beq f 27 with
  | false => rw [hf, cond_false] at hs; cases hs
  | true =>
    obtain rfl : f = 27 := Nat.eq_of_beq_eq_true hf
    rw [hf, cond_true] at hs
    split at hs
    · rename_i l hg
      obtain ⟨ht, h2⟩ := cond_some hs
      rw [Bool.and_eq_true] at ht
      injection h2 with h2
      injection h2 with e1 e2
      subst e1 e2
      obtain rfl := isTab_eq _ _ ht.2
      obtain rfl := List.length_eq_zero_iff.1 ha.1
      rw [run_callFunc noNum Tryd.func27 (by kernel_rfl) ([] : List Value).toArray w]
      refine (works_calls (by simpa using ht.1) hg R).mono fun e w' ⟨he, g⟩ => ?_
      subst he
      exact hn iota _ w' g (.flat rfl)
    · cases hs
theorem Ow_oth (f : FuncId) (args : List Value) (h : Hp) (hf : f ≠ 27) : Ow f args h = none := by
  unfold Ow
  have : Nat.beq f 27 = false := by rw [Bool.eq_false_iff]; intro hh; exact hf (Nat.eq_of_beq_eq_true hh)
  rw [this]; rfl
theorem tab_self : isTab tab tab = true := by kernel_rfl
theorem Ow_works {h : Hp} (hn : 0 < h.nx) (hh : h.get 0 = some (.cells tab 0 .ro)) : EvC Tryd.prog Ow 27 [] h (.bool true) h := by
  refine ⟨0, ?_⟩
  show Ow 27 [] h = _
  unfold Ow
  show (match ([] : List Value), h.get 0 with
    | [], some (.cells l 0 .ro) => bif Nat.blt 0 h.nx && isTab l tab then some (Value.bool true, h) else none
    | _, _ => none) = _
  rw [hh]
  simp only [tab_self, show Nat.blt 0 h.nx = true by simpa using hn, Bool.and_self, cond_true]
end Go.Proofs.YtfgfhplgnfbaaaaDoor
/- From the evaluator's word on a law of layer 20 to the kit's. -/
namespace Go.Proofs.YtfgfhplgnfbaaaaDoor
open Go Go.Ev Go.ChangeShapes Go.WideShapes Go.ChangeAt Go.RowKit
theorem own : ownKnob Tryd.prog.godebug = none := by kernel_rfl
theorem gTab : Tryd.prog.globalNamed "math/bits.deBruijn32tab" = some 0 := by kernel_rfl
theorem gTabType : (Tryd.prog.globals[0]?).map (·.type) = some 156 := by kernel_rfl
theorem cellsArr : Tryd.prog.cellsOf 156 = 32 := by kernel_rfl
theorem cellsOne : Tryd.prog.cellsOf 5 = 1 := by kernel_rfl
def nums : List Int := [0,1,28,2,29,14,24,3,30,22,20,15,25,17,4,8,31,27,13,23,21,19,16,7,26,12,18,6,11,5,10,9]
set_option maxRecDepth 100000 in
theorem kids : Kids Tryd.prog (· < Tryd.prog.types.size) := kids_rows (by kernel_rfl) (by kernel_rfl)
set_option maxRecDepth 100000 in
theorem full : ∀ t e, t < Tryd.prog.types.size → Tryd.prog.underlying t = some (.slice e) → 0 < Tryd.prog.cellsOf e := slices_full_of _ (by kernel_rfl)
theorem tab_cells {W : World} (h : Lib.TabIs Tryd.prog W "math/bits.deBruijn32tab" .u8 nums) : ∀ j x, tab[j]? = some x → W.cell? ⟨0, j, none⟩ = some x := by
  intro j x hj
  have hjl : j < 32 := (List.getElem?_eq_some_iff.1 hj).1
  have hn : j < nums.length := hjl
  have := h.cell gTab j hn
  rw [this]
  have e : tab = nums.map fun x => Value.int .u8 x := rfl
  rw [e, List.getElem?_map, List.getElem?_eq_getElem hn] at hj
  rw [List.getD_eq_getElem?_getD, List.getElem?_eq_getElem hn]
  exact hj
/-- The names at the start: the one package-level variable. -/
def iota0 : Inj := fun o => if o = 0 then some ⟨0, 0, 0, 0⟩ else none
theorem start_RH {W : World} (ht : ∀ j x, tab[j]? = some x → W.cell? ⟨0, j, none⟩ = some x) : RH Tryd.prog iota0 h0 W := by
  have h00 := ht 0 _ rfl
  have hblk : ∃ c e fr, W.heap[0]? = some (.cells c e fr) := by
    cases hb : W.heap[0]? with
    | none => simp [World.cell?, hb] at h00
    | some y =>
      cases y with
      | cells c e fr => exact ⟨c, e, fr, rfl⟩
      | _ => simp [World.cell?, hb] at h00
  obtain ⟨c, e, fr, hb⟩ := hblk
  refine ⟨fun o x ho => ?_, fun o q x y vo vq _ ho hx => ?_, fun o ho => if_neg (by have : 1 ≤ o := ho; omega), fun g hg => ?_, by rw [gsz]; exact Nat.le_refl _⟩
  · obtain ⟨rfl, rfl⟩ := h0_get o x ho
    refine ⟨Nat.zero_lt_one, ⟨0, 0, 0, 0⟩, rfl, tab_one, c, e, fr, hb, fun j x hx => ?_, fun h => absurd rfl h, fun h => by cases h⟩
    have := ht j x hx
    refine ⟨x, ?_, .flat (all_get tab_flat hx)⟩
    simpa [World.cell?, hb] using this
  · obtain ⟨rfl, rfl⟩ := h0_get o x ho
    cases hx
  · rw [gsz] at hg
    obtain rfl : g = 0 := by omega
    exact ⟨0, 0, rfl⟩
set_option maxRecDepth 100000 in
theorem h0_tab : h0.get 0 = some (.cells tab 0 .ro) := by kernel_rfl
set_option maxRecDepth 100000 in
theorem start_base {W : World} (ht : ∀ j x, tab[j]? = some x → W.cell? ⟨0, j, none⟩ = some x) : Base Tryd.prog iota0 h0 W :=
  ⟨start_RH ht, fun o x ho => by obtain ⟨rfl, rfl⟩ := h0_get o x ho; rfl, rfl, ⟨_, ⟨0, 0, 0, 0⟩, h0_tab, rfl, Nat.zero_lt_one, tab, 0, rfl⟩⟩
set_option maxRecDepth 100000 in
/-- A law that the evaluator finds true, wherever its arguments lie, is true. -/
theorem law_calls {H : Type} {enc : TypeId × Value → H} {f : FuncId} {fn : Func} (hf : Tryd.prog.funcs[f]? = some fn) (hb : fn.body.isSome = true) (h27 : f ≠ 27) {W : World} (ht : ∀ j x, tab[j]? = some x → W.cell? ⟨0, j, none⟩ = some x)
    {ts : List TypeId} {args : Array Value} {ds : List (DataW H)} {p : List MemPlace} (hA : DataW.TrodAll enc Tryd.prog W 0 (fun _ => true) true ts args.toList ds p) (hbd : ∀ t ∈ ts, ∀ n, Builds H enc Tryd.prog W n t) (hs : ∀ (i : Nat) t v, ts[i]? = some t → args.toList[i]? = some v → Shaped1 Tryd.prog t v)
    (hR : ∀ (h : Hp) (evs : List Value), Tb h → h.Ok → h.gd = [] → DEs Tryd.prog h ts evs ds → Ret Tryd.prog Ow f evs h fun v _ => v = .bool true) :
    Calls Tryd.prog f args W fun e W' => e = .returned (.bool true) ∧ Below W.heap.size W W' := by
  obtain ⟨ι, h, evs, E, B, V, D⟩ := args_build hA hbd hs iota0 h0 (start_base ht)
  have hg : h.gd = [] := B.gd
  have htb : Tb h := ⟨Nat.lt_of_lt_of_le Nat.zero_lt_one E.nx, by rw [E.get 0 Nat.zero_lt_one]; exact h0_tab⟩
  have hfr : h.Fresh := fun o ho => by
    cases ho2 : h.get o with
    | none => rfl
    | some x => have := (B.rh.live o x ho2).1; omega
  obtain ⟨v, h', he, rfl⟩ := hR h evs htb ⟨fun q hq => (by rw [hg] at hq; cases hq), hfr⟩ hg D
  have := calls_of_EvC mixed noNum Ow_ok hf hb (Ow_oth f evs h h27) he B.rh V
  have e : args.toList.toArray = args := by simp
  rw [e] at this
  refine this.mono fun e W' ⟨ι', v', h1, h2, h3⟩ => ?_
  obtain rfl := VR.of_flat rfl h3
  exact ⟨h1, h2.fr.os, h2.fr.tape, h2.fr.output, h2.fr.size, fun k hk => h2.fr.rest k hk fun o x _ ho hx => by rw [B.ro o x ho] at hx; cases hx⟩
/-- A world for the witness: the table holds what its initialiser lays. -/
noncomputable def laidWorld (os : Os) : World :=
  { World.holding Tryd.prog os ⟨#[], #[], []⟩ with heap := (World.holding Tryd.prog os ⟨#[], #[], []⟩).heap.modify 0 fun
      | .cells _ t frozen => .cells tab.toArray t frozen
      | o => o }
end Go.Proofs.YtfgfhplgnfbaaaaDoor
/- SatForms of layer 20 returns true, for every input: its law, by the contracts of what it calls. -/
namespace Go.Proofs.YtfgfhplgnfbaaaaDoor
open Go Go.Ev
theorem works_true {h : Hp} (ht : Tb h) : EvT Ow 27 [] h (.bool true) h := Ow_works ht.1 ht.2
/-! ### arguments -/
section
variable {H : Type} {enc : TypeId × Value → H} {W : World}
theorem build0 (t : TypeId) : Builds H enc Tryd.prog W 0 t := fun cs d ps h => by simp [DataW.trod] at h
end
end Go.Proofs.YtfgfhplgnfbaaaaDoor
/- Arguments by numbers: how they lie in memory. -/
namespace Go.Proofs.YtfgfhplgnfbaaaaDoor
open Go Go.Ev Go.ChangeShapes Go.WideShapes Go.ChangeAt Go.RowKit
theorem und5 : Tryd.prog.underlying 5 = some (.int .u8) := by kernel_rfl
theorem und22 : Tryd.prog.underlying 22 = some (.int .i8) := by kernel_rfl
theorem und90 : Tryd.prog.underlying 90 = some (.array 4 22) := by kernel_rfl
theorem sz90 : Tryd.prog.cellsOf 90 = 4 * Tryd.prog.cellsOf 22 := by kernel_rfl
theorem n90 : Tryd.prog.cellsOf 90 = 4 := by kernel_rfl
theorem agg5 : aggT Tryd.prog 5 ≠ some true := by unfold aggT; rw [und5]; simp
section
variable {H : Type} {enc : TypeId × Value → H} {W : World}
theorem bld5 : ∀ n, Builds H enc Tryd.prog W n 5
  | 0 => build0 5
  | _ + 1 => build_int und5
theorem bld22 : ∀ n, Builds H enc Tryd.prog W n 22
  | 0 => build0 22
  | _ + 1 => build_int und22
theorem bld90 : ∀ n, Builds H enc Tryd.prog W n 90
  | 0 => build0 90
  | n + 1 => build_array (bld22 n) sz90 und90
theorem agg_of_list {v : Value} {l : List Value} (h : v.cells.toList = l) (hl : l.length ≠ 1) : v = .agg l.toArray := by
  cases v with
  | agg cs =>
    have h : cs.toList = l := h
    obtain ⟨k⟩ := cs
    have h : k = l := h
    rw [h]
  | _ => exact absurd (by rw [← h]; rfl) hl
/-- A row of four small numbers. -/
theorem four_of {h : Hp} {n : Nat} {v : Value} {d : DataW H} (D : DE Tryd.prog h n 90 v.cells.toList d) : ∃ a b c e, v = .agg #[.int .i8 a, .int .i8 b, .int .i8 c, .int .i8 e] ∧ ∀ x ∈ [a, b, c, e], -128 ≤ x ∧ x < 128 := by
  obtain ⟨h1, h2⟩ := DE_array und90 sz90 (fun _ _ _ D => DE_allInt und22 D) D
  obtain ⟨xs, e, hx⟩ := h2.list
  rw [n90, e, List.length_map] at h1
  match xs, h1 with
  | [a, b, c, f], _ =>
    refine ⟨a, b, c, f, agg_of_list e (by simp), fun x hx' => ?_⟩
    have := wf_rng (hx x hx')
    have m1 : IntKind.min .i8 = -128 := rfl
    have m2 : IntKind.max .i8 = 127 := rfl
    omega
theorem byte_of {h : Hp} {n : Nat} {cs : List Value} {d : DataW H} (D : DE Tryd.prog h n 5 cs d) : ∃ x : Nat, cs = [.int .u8 (Int.ofNat x)] ∧ x < 256 := by
  obtain ⟨x, e, hx⟩ := DE_int und5 D
  have := wf_rng hx
  have m1 : IntKind.min .u8 = 0 := rfl
  have m2 : IntKind.max .u8 = 255 := rfl
  obtain ⟨n, rfl⟩ : ∃ n : Nat, x = Int.ofNat n := ⟨x.toNat, by simp only [Int.ofNat_eq_natCast]; omega⟩
  exact ⟨n, e, by simp only [Int.ofNat_eq_natCast] at *; omega⟩
end
end Go.Proofs.YtfgfhplgnfbaaaaDoor
/- Conditions of functions' code, printed by a program of ours. -/
namespace Go.Proofs.YtfgfhplgnfbaaaaDoor
open Go Go.Ev
set_option maxRecDepth 100000
set_option linter.unusedVariables false
/-! sward/swardlaw20.lists -/
noncomputable def b50 : Code := (Tryd.f50.body).getD .skip
def lv50 : List (Nat × List Nat) := []
def T50 (O : CallF) (Q : Value → Hp → Prop) (a0 : Option Addr) (n0 : Nat) (c0 : Nat) (h : Hp) : Prop :=
  Q (.slice a0 n0 c0) h
theorem rk50 {O Q} (a0 n0 c0) {h : Hp} (hO : O 50 [(.slice a0 n0 c0)] h = none) (hh : T50 O Q a0 n0 c0 h) : Ret Tryd.prog O 50 [(.slice a0 n0 c0)] h Q :=
  .of (c := b50) Tryd.func50 (by kernel_rfl) hO (V_ok (tb := lv50) (cuts := []) 500 (Eq.mp (by kernel_rfl) hh))
/-! sward/swardlaw20.SatProves -/
end Go.Proofs.YtfgfhplgnfbaaaaDoor
/- SatResolved of layer 20: the law. -/
namespace Go.Proofs.YtfgfhplgnfbaaaaDoor
open Go Go.Ev
theorem fm_map (f : Int → Value) (xs : List Int) : (xs.flatMap fun x => [f x]) = xs.map f := by
  induction xs with
  | nil => rfl
  | cons x xs ih => rw [List.flatMap_cons, ih]; rfl
/-- A whole number is appended in a region. -/
theorem appRI {h : Hp} {base : Nat} {a : Option Addr} {n c : Nat} {xs : List Int} (A : AccI 3 h base a n c xs) (hb : base ≤ h.nx) (hg : GdLt h base) {q : Nat} (hq : h.get q = none) (hq2 : q < h.nx) (hqb : base ≤ q) {l : List Nat} (hlE : ∀ i ∈ l, i < base) {x : Int} (hl : xs.length < 1000000)
    {K : Option Addr → Nat → Nat → Hp → Prop} (next : ∀ a' n' c' h', AccI 3 (h'.rst (h.lay q (.cells [.int .i64 x] 3 .fix))) base a' n' c' (xs ++ [x]) → (∀ p, a' = some ⟨p, 0, none⟩ → h.nx ≤ p) → AppK (h.lay q (.cells [.int .i64 x] 3 .fix)) (h'.rst (h.lay q (.cells [.int .i64 x] 3 .fix))) a → Kp base h (h'.rst (h.lay q (.cells [.int .i64 x] 3 .fix))) → K a' n' c' h') :
    vreq (h.free q) (let g := h.lay q (.cells [.int .i64 x] 3 .fix); ∃ a' n' c' h', appendV Tryd.prog (g.grd l) 32 32 (.slice a n c) (.slice (some ⟨q, 0, none⟩) 1 1) = some (.slice a' n' c', h') ∧ K a' n' c' h') := by
  have hn : n = xs.length := A.ints.1
  have A2 : Acc h base 3 1 a n c (xs.flatMap fun x => [.int .i64 x]) := by rw [fm_map]; exact A
  exact appR (enc := fun x => [.int .i64 x]) (fun _ => rfl) (fun _ => rfl) app32 A2 hb hg hq hq2 hqb hlE (x := x) (by omega) (by unfold big; omega) fun a' c' h' A' fr k1 k2 => next a' _ c' h' (by rw [fm_map] at A'; exact A') fr k1 k2
/-- A part of a list that grows. -/
theorem slice_grow {h : Hp} {base : Nat} {a : Option Addr} {n c : Nat} {xs : List Int} (A : AccI 3 h base a n c xs) {k : Nat} (hk : k ≤ xs.length) (h0 : 0 < xs.length) (hs : xs.length < 1000000) : ∃ a' c', sliceV Tryd.prog h 32 (.slice a n c) none (some (.int .i64 (Int.ofNat k))) none = some (.slice a' k c') ∧ IntsAt h a' k (xs.take k) := by
  have X := A.ints
  rcases A with ⟨rfl, _, _, h4⟩ | ⟨o, rfl, rfl, h3, h4, h5, h6⟩
  · have : xs = [] := by simpa using h4
    subst this; simp at h0
  · have hn := X.1
    refine ⟨some ⟨o, 0, none⟩, unk, ?_, SlAt.take X k hk⟩
    have e2 : sz Tryd.prog 3 = some 1 := by kernel_rfl
    have e3 : Ev.seen h 3 1 (.slice (some ⟨o, 0, none⟩) n unk) = some n := by
      simp only [Ev.seen, Nat.beq_refl, cond_true, h6]
      have e5 : Nat.blt 0 1 = true := rfl
      rw [e5]
      show some (((xs.map (Value.int .i64)).length - 0) / 1) = some n
      rw [List.length_map, Nat.sub_zero, Nat.div_one, hn]
    have e4 : bounds n n none (some (.int .i64 (Int.ofNat k))) none = some (0, k, n) := by
      unfold bounds boundM boundH boundL boundV
      simp only [Option.bind_some, Option.map_some]
      rw [ble_t (by omega)]; rfl
    unfold sliceV
    rw [Tryd.underlying32]
    simp only [e2, bind, Option.bind_some, e3, e4]
    rw [Nat.beq_refl]; simp
theorem ret_ri {O : CallF} {f : FuncId} {az : List Value} {h : Hp} {xs : List Int} (r : Ret Tryd.prog O f az h (RInts h xs)) {K : Option Addr → Nat → Nat → Hp → Prop} (next : ∀ a n c h', IntsAt h' a n xs → Kp h.nx h h' → (∀ b off, a = some ⟨b, off, none⟩ → h.nx ≤ b) → K a n c h') : ∃ a n c, ∃ h', EvC Tryd.prog O f az h (.slice a n c) h' ∧ K a n c h' :=
  let ⟨_, h', e, a, n, c, hv, q1, q2, q3⟩ := r; ⟨a, n, c, h', hv ▸ e, next a n c h' q1 q2 q3⟩
abbrev Yes : Value → Hp → Prop := fun v _ => v = .bool true
theorem ct50 {O : CallF} (hO : Oth O) (a : Option Addr) (n c : Nat) (h : Hp) : EvT O 50 [.slice a n c] h (.slice a n c) h := by
  refine EvC.of_ret (rk50 _ _ _ (hO _ _ _ (by decide)) ?_)
  unfold T50
  exact ⟨rfl, rfl⟩
section
variable {p0 p1 p2 p3 q0 q1 q2 q3 pw : Int} {h₀ : Hp} (ok : h₀.Ok) (ht : Tb h₀)
include ok ht
theorem lp15_3 {q6 : Bool} {a11 a156 : Option Addr} {n11 c11 n156 c156 : Nat} {L : List Int} {ms : List Nat} (X : IntsAt h₀ a156 n156 (ms.map Int.ofNat)) (hl : ms.length < 1000000) (hm : ∀ m ∈ ms, m < 9223372036854775808 ∧ L.any (isB m) = true) (Y : IntsAt h₀ a11 n11 L) (hL : L.length < 1000000) (hlit : ∀ x ∈ L, Lit x) :
    ∀ (d k : Nat), k + d = ms.length → ∀ {h : Hp}, Kp h₀.nx h₀ h → I15_3 Ow Yes p0 p1 p2 p3 q0 q1 q2 q3 pw q6 a11 n11 c11 a156 n156 c156 (Int.ofNat n156) (Int.ofNat k) h := by
  have hO : Oth Ow := Ow_oth
  have hn := X.1
  rw [List.length_map] at hn
  intro d
  induction d with
  | zero =>
    intro k hk h kp
    refine I15_3.of (hh := ?_) ..
    unfold T15_3
    exact vcond_f (by rw [ltI_nat]; exact blt_f (by omega)) ⟨_, _, works_true (ht.kp kp ht.1), rfl⟩
  | succ d ih =>
    intro k hk h kp
    refine I15_3.of (hh := ?_) ..
    unfold T15_3
    have hkl : k < ms.length := by omega
    have f1 := kp.ex (Nat.le_refl _)
    refine vcond_t (by rw [ltI_nat]; exact blt_t (by omega)) (isNat_i (X.rd (by simpa using hkl) ?_))
    intro g405
    have okh := ok.kp kp
    have R0 : RowAt h.nx 3 .fix g405 [0] := ⟨by show h.nx < h.nx + 1; omega, get_add_same ..⟩
    have gu : g405.guarded h.nx = false := guarded_of fun q hq => by have := okh.gd q hq; omega
    have ek : (ms.map Int.ofNat)[k]'(by simpa using hkl) = Int.ofNat ms[k] := by simp
    rw [ek]
    obtain ⟨w, R1⟩ := R0.wr (by decide) gu (k := 0) (off := 0) (by simp) rfl (Int.ofNat ms[k])
    refine vreq_t w ?_
    intro g406
    have K1 : Kp h.nx h g406 := ((Kp.refl h.nx h).add (Nat.le_refl _) _).wr (Nat.le_refl _) _ _
    have f2 : Ft h₀ g406 := f1.tr (K1.ex (Nat.le_refl _))
    obtain ⟨m1, m2⟩ := hm _ (List.getElem_mem hkl)
    refine ⟨_, _, ct64 hO (Y.to g406) hL (φ := isB ms[k]) (fun x hx => ct71 hO m1 (hlit x hx) (R1.rd (k := 0) (by simp) rfl)), vcond_f (by rw [m2]; rfl) ?_⟩
    rw [wrap_succ (by omega)]
    exact ih (k + 1) (by omega) (kp.trans (K1.le kp.nx))
/-- What resolves is as tried: the end of the law. -/
theorem lp15_2 {a7 a8 a11 a119 : Option Addr} {n7 c7 n8 c8 n11 c11 n119 c119 : Nat} {xs ys L zs : List Int} {v : Int} (hv : Lit v) (hv1 : 1 ≤ v) (X : IntsAt h₀ a7 n7 xs) (Y : IntsAt h₀ a8 n8 ys) (Z : IntsAt h₀ a119 n119 zs) (hz : zs = xs ++ ys) (hxl : xs.length ≤ 4) (hyl : ys.length ≤ 4) (hzl : ∀ z ∈ zs, Lit z) (W : IntsAt h₀ a11 n11 L) (hL : L.length < 1000000) (hLlit : ∀ x ∈ L, Lit x) (hc : clauseN (zs.filter fun x => !(x == v) && !(x == -v)) = L) (ht2 : ∀ m, xs.any (isB m) = true → ys.any (isB m) = true → L.any (isB m) = true) :
    ∀ (d k : Nat), k + d = zs.length → ∀ {h : Hp} {a n c} {acc : List Int}, Kp h₀.nx h₀ h → AccI 3 h h₀.nx a n c acc → acc.length ≤ k → acc ++ (zs.drop k).filter (fun x => !(x == v) && !(x == -v)) = zs.filter (fun x => !(x == v) && !(x == -v)) →
      I15_2 Ow Yes p0 p1 p2 p3 q0 q1 q2 q3 pw a7 n7 c7 a8 n8 c8 v a11 n11 c11 0 a n c a119 n119 c119 (Int.ofNat n119) (Int.ofNat k) h := by
  have hO : Oth Ow := Ow_oth
  have hn := Z.1
  have hzs : zs.length ≤ 8 := by rw [hz]; simp; omega
  intro d
  induction d with
  | zero =>
    intro k hk h a n c acc kp A hal he
    refine I15_2.of (hh := ?_) ..
    unfold T15_2
    rw [List.drop_of_length_le (by omega), List.filter_nil, List.append_nil] at he
    refine vcond_f (by rw [ltI_nat]; exact blt_f (by omega)) (vcond_f rfl ?_)
    have alit : ∀ x ∈ acc, Lit x := fun x hx => hzl x (by rw [he] at hx; exact (List.mem_filter.1 hx).1)
    refine (ct19 hO (ok.kp kp) A.ints (by omega) alit).s fun a1 n1 c1 h1 ⟨C, k1, _, _⟩ => ?_
    rw [he, hc] at C
    have kp1 := kp.trans (k1.le kp.nx)
    have f1 := kp1.ex (Nat.le_refl _)
    refine (ct26 hO (W.to h1) C hL).b1 fun h2 k2 => vcond_f (by simp) ?_
    have kp2 := kp1.trans (k2.le kp1.nx)
    intro g1
    have kg1 : Kp h₀.nx h₀ g1 := kp2.add kp2.nx _
    refine ⟨_, _, _, _, ct50 hO _ _ _ _, ?_⟩
    intro g2
    have e2 : g2.get g1.nx = some (.cells [.int .i64 0, .slice none 0 0] 30 .fix) := get_add_same ..
    have gu : g2.guarded g1.nx = false := guarded_of fun q hq => by
      have : q ∈ h₀.gd := by rw [← kg1.gd]; exact hq
      have := ok.gd q this; have := kg1.nx; omega
    refine vreq_t (canW_t e2 (by decide) gu (by simp) rfl) ?_
    intro g3
    have e3 : g3.get g1.nx = some (.cells [.int .i64 6, .slice (some ⟨h2.nx, 0, none⟩) 2 2] 30 .fix) := (wr_get e2 (by decide) gu (by simp) rfl).trans rfl
    have kg3 : Kp h₀.nx h₀ g3 := (kg1.add kg1.nx _).wr kg1.nx _ _
    refine ⟨_, _, _, _, readAt_get e3 (by simp), _, _, _, read1 e3 (i := 1) rfl, ?_⟩
    have f3 := kg3.ex (Nat.le_refl _)
    -- the two clauses, one after the other
    have e1 : g3.get h2.nx = some (.cells [.slice a7 n7 c7, .slice a8 n8 c8] 32 .fix) :=
      (wr_get_ne _ _ _ _ (show h2.nx ≠ h2.nx + 1 by omega)).trans ((get_add_ne (show h2.nx ≠ h2.nx + 1 by omega)).trans (get_add_same ..))
    have F : IntssAt g3 (some ⟨h2.nx, 0, none⟩) 2 [xs, ys] := ⟨rfl, .inr ⟨h2.nx, 0, _, _, _, rfl, Nat.lt_of_lt_of_le (show h2.nx < h2.nx + 1 + 1 by omega) (by rw [nx_wr]; exact Nat.le_refl _), e1, by simp, fun i hi => by
      match i, hi with
      | 0, _ => exact ⟨a7, n7, c7, rfl, X.to g3⟩
      | 1, _ => exact ⟨a8, n8, c8, rfl, Y.to g3⟩⟩⟩
    have xl : ∀ x ∈ xs, Lit x := fun x hx => hzl x (by rw [hz]; exact List.mem_append_left _ hx)
    have yl : ∀ x ∈ ys, Lit x := fun x hx => hzl x (by rw [hz]; exact List.mem_append_right _ hx)
    refine ret_ri (ct54 hO (N := 6) (gs := []) (cls := [xs, ys]) (ok.kp kg3) F (by simp) (fun l hl => ?_) (fun l hl x hx => ?_) (SlAt.nil ..) (by simp) (fun x hx => by cases hx) (by decide)) fun a5 n5 c5 h5 M k5 _ => ?_
    · rcases List.mem_cons.1 hl with rfl | hl
      · omega
      · rw [List.mem_singleton.1 hl]; omega
    · rcases List.mem_cons.1 hl with rfl | hl
      · exact xl x hx
      · rw [List.mem_singleton.1 hl] at hx; exact yl x hx
    have kp5 := kg3.trans (k5.le kg3.nx)
    have f5 := kp5.ex (Nat.le_refl _)
    refine lp15_3 (ok.kp kp5) (ht.kp kp5 ht.1) M (Nat.lt_of_le_of_lt (List.length_filter_le _ _) (by simp)) (fun m hm => ?_) (W.to h5) hL hLlit _ 0 (Nat.zero_add _) (.refl _ _)
    obtain ⟨h6, h7⟩ := List.mem_filter.1 hm
    obtain ⟨kk, hkk, rfl⟩ := List.mem_map.1 h6
    refine ⟨Nat.lt_of_lt_of_le (bitsF_lt 6 kk 6) (by decide), ?_⟩
    unfold satM at h7
    simp only [List.all_nil, List.all_cons, Bool.true_and, Bool.and_true, Bool.and_eq_true] at h7
    exact ht2 _ h7.1 h7.2
  | succ d ih =>
    intro k hk h a n c acc kp A hal he
    refine I15_2.of (hh := ?_) ..
    unfold T15_2
    have hkl : k < zs.length := by omega
    rw [List.drop_eq_getElem_cons hkl, List.filter_cons] at he
    have f1 := kp.ex (Nat.le_refl _)
    have hv2 := hv.2
    rw [show wrapF .i64 (0 - v) = -v by rw [wrap64 (by omega) (by omega)]; omega, wrap_succ (by omega)]
    refine vcond_t (by rw [ltI_nat]; exact blt_t (by omega)) (isNat_i (Z.rd hkl (vcond_split (fun h1 => vcond_split (fun h2 => ?_) fun h2 => ?_) fun h1 => ?_)))
    · have h1 : zs[k] ≠ v := ne_of_f (by simpa using h1)
      have h2 : zs[k] ≠ -v := ne_of_f (by simpa using h2)
      rw [if_pos (by simp [h1, h2])] at he
      exact appI app32 A kp.nx (GdLt.kp ok.lt kp) (by omega) fun a' n' c' h' A' _ kA => ih (k + 1) (by omega) (kp.trans kA) A' (by simp; omega) (by rw [List.append_assoc]; exact he)
    · have h2 : zs[k] = -v := eq_of_t (by simpa using h2)
      rw [if_neg (by simp [h2])] at he
      exact ih (k + 1) (by omega) kp A (by omega) he
    · have h1 : zs[k] = v := eq_of_t (by simpa using h1)
      rw [if_neg (by simp [h1])] at he
      exact ih (k + 1) (by omega) kp A (by omega) he
/-- Does anything contradict? -/
def clsh (v : Int) (ys : List Int) : List Int → Bool → Bool
  | [], q => q
  | x :: xs, q => clsh v ys xs (if q = true then true else if x ≠ v ∧ x ≠ -v then decide (-x ∈ ys) else false)
omit ok ht in
theorem clsh_iff {v : Int} {ys : List Int} : ∀ {xs : List Int} {q : Bool}, clsh v ys xs q = true ↔ q = true ∨ ∃ x ∈ xs, x ≠ v ∧ x ≠ -v ∧ -x ∈ ys := by
  intro xs
  induction xs with
  | nil => intro q; exact ⟨.inl, fun h => h.elim id fun ⟨x, h, _⟩ => by cases h⟩
  | cons x xs ih =>
    intro q
    simp only [clsh]
    rw [ih]
    constructor
    · rintro (h | ⟨z, hz, r⟩)
      · split at h
        · rename_i hq; exact .inl hq
        · split at h
          · rename_i hh; exact .inr ⟨x, List.mem_cons_self .., hh.1, hh.2, of_decide_eq_true h⟩
          · cases h
      · exact .inr ⟨z, List.mem_cons_of_mem _ hz, r⟩
    · rintro (h | ⟨z, hz, r⟩)
      · left; rw [if_pos h]
      · rcases List.mem_cons.1 hz with rfl | hz
        · left
          split
          · rfl
          · rw [if_pos ⟨r.1, r.2.1⟩]; exact decide_eq_true r.2.2
        · exact .inr ⟨z, hz, r⟩
theorem lp15_1 {a7 a8 a11 : Option Addr} {n7 c7 n8 c8 n11 c11 : Nat} {xs ys R : List Int} {v e : Int} (hv1 : 1 ≤ v) (hv2 : v ≤ 6) (X : IntsAt h₀ a7 n7 xs) (Y : IntsAt h₀ a8 n8 ys) (hx : clB 30 0 xs = true) (hy : clB 30 0 ys = true) (hxl : xs.length ≤ 4) (hyl : ys.length ≤ 4) (W : IntsAt h₀ a11 n11 R) (hr : resP xs ys v = (R, e)) :
    ∀ (d k : Nat), k + d = xs.length → ∀ {h : Hp} {q : Bool}, Kp h₀.nx h₀ h → clsh v ys (xs.drop k) q = clsh v ys xs false →
      I15_1 Ow Yes p0 p1 p2 p3 q0 q1 q2 q3 pw a7 n7 c7 a8 n8 c8 v a11 n11 c11 e q a7 n7 c7 (Int.ofNat n7) (Int.ofNat k) h := by
  have hO : Oth Ow := Ow_oth
  have hn := X.1
  have wv : wrapF .i64 (0 - v) = -v := by rw [wrap64 (by omega) (by omega)]; omega
  have lx := fun x h => (clB_lit (by decide) hx x h).1
  have ly := fun x h => (clB_lit (by decide) hy x h).1
  intro d
  induction d with
  | zero =>
    intro k hk h q kp he
    refine I15_1.of (hh := ?_) ..
    unfold T15_1
    rw [List.drop_of_length_le (by omega)] at he
    have he : q = clsh v ys xs false := he
    have f1 := kp.ex (Nat.le_refl _)
    have hc : q = true ↔ ∃ x ∈ xs, x ≠ v ∧ x ≠ -v ∧ -x ∈ ys := by rw [he, clsh_iff]; simp
    rw [wv]
    have no : R = [] → e = 7 → vcond (eqI e 7) (vcond (eqI (Int.ofNat n11) 0) (∃ q', ∃ h', EvC Tryd.prog Ow 27 [] h (.bool q') h' ∧ Yes (.bool q') h') (Yes (.bool false) h)) (Yes (.bool false) h) := by
      intro h1 h2
      have := W.1
      rw [h1] at this
      exact vcond_t (eqI_t h2) (vcond_t (eqI_t (by rw [this]; rfl)) ⟨_, _, works_true (ht.kp kp ht.1), rfl⟩)
    have miss : v ∉ xs ∨ -v ∉ ys → R = [] ∧ e = 7 := by
      intro hm
      have : resP xs ys v = ([], 7) := by
        unfold resP
        rw [if_neg (by rw [hx, hy]; simp; omega), if_pos hm]
      rw [this] at hr
      injection hr with h1 h2
      exact ⟨h1.symm, h2.symm⟩
    refine vcond_f (by rw [ltI_nat]; exact blt_f (by omega)) ⟨_, _, ct62 hO _ (X.to h) (by omega), vcond_split (fun h1 => ?_) fun h1 => ⟨_, _, ct62 hO _ (Y.to h) (by omega), vcond_split (fun h2 => ?_) fun h2 => ?_⟩⟩
    · have h1 : v ∉ xs := by simpa using h1
      exact no (miss (.inl h1)).1 (miss (.inl h1)).2
    · have h2 : -v ∉ ys := by simpa using h2
      exact no (miss (.inr h2)).1 (miss (.inr h2)).2
    have h1 : v ∈ xs := by simpa using h1
    have h2 : -v ∈ ys := by simpa using h2
    rcases resP_spec hx hy hv1 (by omega) h1 h2 with ⟨s1, s2⟩ | ⟨L, s1, s2, s3, s4, s5⟩
    · rw [s1] at hr
      injection hr with r1 r2
      exact vcond_t (hc.2 s2) (no r1.symm r2.symm)
    · rw [s1] at hr
      injection hr with r1 r2
      subst r1 r2
      refine vcond_f (by cases hq : q; rfl; exact absurd (hc.1 hq) s2) ?_
      refine (ct60 hO (ok.kp kp) (X.to h) (by omega)).s fun a1 n1 c1 h3 ⟨A, k3⟩ => ?_
      have kp3 := kp.trans (k3.le kp.nx)
      have f3 := kp3.ex (Nat.le_refl _)
      have Y3 : IntsAt h3 a8 n8 ys := Y.to h3
      have n1e : n1 = xs.length := (AccE.ints A).1
      have ny := Y.1
      obtain ⟨a', n', c', h4, e4, A4, _, k4⟩ := append_accE app32 A k3.nx (fun q hq => by rw [k3.gd] at hq; exact (ok.kp kp).gd q hq) ⟨_, _, _, rfl⟩ (Y3.src (c2 := c8)) (by simp; omega) (by simp [one]) (by omega) (by unfold big; omega)
      have kp4 := kp.trans ((k3.trans (k4.kpE A k3.nx)).le kp.nx)
      have f4 := kp4.ex (Nat.le_refl _)
      rw [← List.map_append] at A4
      have Z := AccE.ints A4
      refine ⟨a', n', c', h4, e4, ?_⟩
      have v0 : v ≠ 0 := by omega
      have lz : ∀ z ∈ xs ++ ys, Lit z := fun z hz => (List.mem_append.1 hz).elim (lx z) (ly z)
      have one : ∀ {l : List Int}, Dif l → ∀ x, x ≠ 0 → x ∈ l → -x ∈ l → False := by
        intro l d x h0 a b
        obtain ⟨i, hi, e1⟩ := List.getElem_of_mem a
        obtain ⟨j, hj, e2⟩ := List.getElem_of_mem b
        have := List.pairwise_iff_getElem.1 d
        rcases Nat.lt_trichotomy i j with h | h | h
        · have := this i j hi hj h; omega
        · subst h; omega
        · have := this j i hj hi h; omega
      have dx := clB_dif (by decide) hx
      have dy := clB_dif (by decide) hy
      have hLlen : L.length < 1000000 := by
        have := congrArg (fun r : List Int × Int => r.1.length) s1
        have : L.length = (resP xs ys v).1.length := this.symm
        have h9 : (resP xs ys v).1.length ≤ 30 := by
          unfold resP
          split
          · simp
          · split
            · simp
            · unfold fin38
              split
              · unfold litsN digits
                rw [List.length_map]
                exact Nat.le_trans (List.length_filter_le _ _) (by simp)
              · simp
        omega
      exact lp15_2 (ok.kp kp4) (ht.kp kp4 ht.1) (zs := xs ++ ys) ⟨v0, by omega, by omega⟩ hv1 (X.to h4) (Y.to h4) Z rfl hxl hyl lz (W.to h4) hLlen s4 (clause_res s3 (fun z hz => (lz z hz).1) (one dx) (one dy) s2 s5) (fun m a b => res_true v0 s5 (one dx v v0) (one dy v v0) h1 h2 a b) _ 0 (Nat.zero_add _) (.refl _ _) (AccI.nil ..) (by simp) rfl
  | succ d ih =>
    intro k hk h q kp he
    refine I15_1.of (hh := ?_) ..
    unfold T15_1
    have hkl : k < xs.length := by omega
    rw [List.drop_eq_getElem_cons hkl] at he
    simp only [clsh] at he
    have f1 := kp.ex (Nat.le_refl _)
    have lk := lx _ (List.getElem_mem hkl)
    have lk2 := lk.2
    rw [wv, wrap_succ (by omega)]
    refine vcond_t (by rw [ltI_nat]; exact blt_t (by omega)) (isNat_i (X.rd hkl (vcond_split (fun hq => ?_) fun hq => vcond_split (fun h1 => vcond_split (fun h2 => ?_) fun h2 => ?_) fun h1 => ?_)))
    · rw [if_pos hq] at he
      exact ih (k + 1) (by omega) kp he
    · have h1 : xs[k] ≠ v := ne_of_f (by simpa using h1)
      have h2 : xs[k] ≠ -v := ne_of_f (by simpa using h2)
      rw [if_neg (by rw [hq]; decide), if_pos ⟨h1, h2⟩] at he
      rw [show wrapF .i64 (0 - xs[k]) = -xs[k] by rw [wrap64 (by omega) (by omega)]; omega]
      exact ⟨_, _, ct62 hO _ (Y.to h) (by omega), ih (k + 1) (by omega) kp he⟩
    · have h2 : xs[k] = -v := eq_of_t (by simpa using h2)
      rw [if_neg (by rw [hq]; decide), if_neg (fun hh => hh.2 h2)] at he
      exact ih (k + 1) (by omega) kp he
    · have h1 : xs[k] = v := eq_of_t (by simpa using h1)
      rw [if_neg (by rw [hq]; decide), if_neg (fun hh => hh.1 h1)] at he
      exact ih (k + 1) (by omega) kp he
end
section
variable {x0 x1 x2 x3 y0 y1 y2 y3 : Int} (hx : ∀ x ∈ [x0, x1, x2, x3], -128 ≤ x ∧ x < 128) (hy : ∀ x ∈ [y0, y1, y2, y3], -128 ≤ x ∧ x < 128) {w : Nat} (hw : w < 256) {h₀ : Hp} (ok : h₀.Ok) (ht : Tb h₀)
include hx hy hw ok ht
theorem lp15_0 : ∀ (d k : Nat), k + d = 4 → ∀ {h : Hp} {a7 n7 c7 a8 n8 c8} {xs ys : List Int}, Kp h₀.nx h₀ h → h₀.nx + 2 ≤ h.nx → h.get h₀.nx = some (.cells ([x0, x1, x2, x3].map (Value.int .i8)) 90 .fix) → h.get (h₀.nx + 1) = some (.cells ([y0, y1, y2, y3].map (Value.int .i8)) 90 .fix) →
    AccI 3 h (h₀.nx + 2) a7 n7 c7 xs → AccI 3 h (h₀.nx + 2) a8 n8 c8 ys → (∀ q, a7 = some ⟨q, 0, none⟩ → a8 = some ⟨q, 0, none⟩ → False) → xs = ([x0, x1, x2, x3].take k).map (fun x => litP x 6) → ys = ([y0, y1, y2, y3].take k).map (fun x => litP x 6) →
      I15_0 Ow Yes x0 x1 x2 x3 y0 y1 y2 y3 (Int.ofNat w) h₀.nx 0 (h₀.nx + 1) 0 a7 n7 c7 a8 n8 c8 (Int.ofNat k) h := by
  have hO : Oth Ow := Ow_oth
  intro d
  induction d with
  | zero =>
    intro k hk h a7 n7 c7 a8 n8 c8 xs ys kp hnx g0 g1 A B dj hxs hys
    obtain rfl : k = 4 := by omega
    refine I15_0.of (hh := ?_) ..
    unfold T15_0
    refine vcond_f rfl ?_
    intro g1'
    have okh := ok.kp kp
    have k1 : Kp h₀.nx h₀ g1' := kp.rsv _
    have e4 : wrapF .i64 (1 + (wrapF .i64 (Int.ofNat w)).tmod 4) = Int.ofNat (1 + w % 4) := by
      rw [wrap64 (n := Int.ofNat w) (by simp only [Int.ofNat_eq_natCast]; omega) (by simp only [Int.ofNat_eq_natCast]; omega), show (Int.ofNat w).tmod 4 = Int.ofNat (w % 4) from rfl, wrap64 (by simp only [Int.ofNat_eq_natCast]; omega) (by simp only [Int.ofNat_eq_natCast]; omega)]
      simp only [Int.ofNat_eq_natCast]; omega
    have td : ∀ m : Nat, wrapF .i64 ((wrapF .i64 (Int.ofNat w)).tdiv (Int.ofNat m)) = Int.ofNat (w / m) := by
      intro m
      have := Nat.div_le_self w m
      rw [wrap64 (n := Int.ofNat w) (by simp only [Int.ofNat_eq_natCast]; omega) (by simp only [Int.ofNat_eq_natCast]; omega), show (Int.ofNat w).tdiv (Int.ofNat m) = Int.ofNat (w / m) from rfl]
      generalize w / m = z at *
      rw [wrap64 (by simp only [Int.ofNat_eq_natCast]; omega) (by simp only [Int.ofNat_eq_natCast]; omega)]
    have e5 : wrapF .i64 (1 + (wrapF .i64 ((wrapF .i64 (Int.ofNat w)).tdiv 4)).tmod 4) = Int.ofNat (1 + w / 4 % 4) := by
      rw [show (wrapF .i64 ((wrapF .i64 (Int.ofNat w)).tdiv 4)) = Int.ofNat (w / 4) from td 4, show (Int.ofNat (w / 4)).tmod 4 = Int.ofNat (w / 4 % 4) from rfl, wrap64 (by simp only [Int.ofNat_eq_natCast]; omega) (by simp only [Int.ofNat_eq_natCast]; omega)]
      simp only [Int.ofNat_eq_natCast]; omega
    have e6 : wrapF .i64 (1 + (wrapF .i64 ((wrapF .i64 (Int.ofNat w)).tdiv 16)).tmod 6) = Int.ofNat (1 + w / 16 % 6) := by
      rw [show (wrapF .i64 ((wrapF .i64 (Int.ofNat w)).tdiv 16)) = Int.ofNat (w / 16) from td 16, show (Int.ofNat (w / 16)).tmod 6 = Int.ofNat (w / 16 % 6) from rfl, wrap64 (by simp only [Int.ofNat_eq_natCast]; omega) (by simp only [Int.ofNat_eq_natCast]; omega)]
      simp only [Int.ofNat_eq_natCast]; omega
    rw [e4, e5, e6]
    have lxs : xs.length = 4 := by rw [hxs]; simp
    have lys : ys.length = 4 := by rw [hys]; simp
    have A1 : AccI 3 g1' (h₀.nx + 2) a7 n7 c7 xs := Acc.to g1' A
    have B1 : AccI 3 g1' (h₀.nx + 2) a8 n8 c8 ys := Acc.to g1' B
    obtain ⟨a9, c9, s9, X9⟩ := slice_grow A1 (k := 1 + w % 4) (by omega) (by omega) (by omega)
    obtain ⟨b9, d9, t9, Y9⟩ := slice_grow B1 (k := 1 + w / 4 % 4) (by omega) (by omega) (by omega)
    refine ⟨_, _, _, s9, _, _, _, t9, ?_⟩
    have litx : ∀ x ∈ xs, Lit x ∧ x.natAbs ≤ 6 := fun x hh => by
      rw [hxs] at hh
      obtain ⟨z, hz, rfl⟩ := List.mem_map.1 hh
      have := hx z (List.mem_of_mem_take hz)
      exact litP_ok this.1 this.2 (by decide) (by decide)
    have lity : ∀ x ∈ ys, Lit x ∧ x.natAbs ≤ 6 := fun x hh => by
      rw [hys] at hh
      obtain ⟨z, hz, rfl⟩ := List.mem_map.1 hh
      have := hy z (List.mem_of_mem_take hz)
      exact litP_ok this.1 this.2 (by decide) (by decide)
    have okg : (g1'.grd (blocksOf (.slice a8 n8 c8) ++ [])).Ok := (okh.rsv _).grd fun q hq => by
      rw [List.append_nil] at hq
      rcases B1 with ⟨e, _⟩ | ⟨o, e, _, _, _, h5, _⟩
      · rw [e] at hq; cases hq
      · rw [e] at hq
        rw [List.mem_singleton.1 hq]; exact h5
    refine (ct19 hO okg (X9.to _) (by simp; omega) fun x hh => (litx x (List.mem_of_mem_take hh)).1).s fun a1 n1 c1 h1 ⟨C1, q1, _, _⟩ => ?_
    intro g2
    have k2 : Kp h₀.nx h₀ g2 := k1.trans ⟨fun o ho => q1.get o (Nat.lt_of_lt_of_le ho k1.nx), q1.nx, rfl, q1.fr⟩
    have f12 : Ft g1' g2 := ⟨q1.get, q1.nx⟩
    refine (ct19 hO ((ok.kp k2).grd (g := []) (fun q hq => by cases hq)) ((Y9.to g2).to (g2.grd [])) (by simp; omega) fun x hh => (lity x (List.mem_of_mem_take hh)).1).s fun a2 n2 c2 h2 ⟨C2, q2, _, _⟩ => ?_
    intro g3
    have k3 : Kp h₀.nx h₀ g3 := k2.trans ⟨fun o ho => q2.get o (Nat.lt_of_lt_of_le ho k2.nx), q2.nx, rfl, q2.fr⟩
    have f23 : Ft g2 g3 := ⟨q2.get, q2.nx⟩
    have C1' : IntsAt g3 a1 n1 (clauseN (xs.take (1 + w % 4))) := (C1.to g2).to g3
    have C2' : IntsAt g3 a2 n2 (clauseN (ys.take (1 + w / 4 % 4))) := C2.to g3
    have lc1 := clauseN_len (xs.take (1 + w % 4))
    have lc2 := clauseN_len (ys.take (1 + w / 4 % 4))
    rw [List.length_take] at lc1 lc2
    have cl : ∀ {l : List Int}, (∀ x ∈ l, Lit x) → clB 30 0 (clauseN l) = true := fun {l} hl => clB_of (clauseN_dif l) (fun x hx => by
      have := clauseN_mem hl x hx
      have := this.2
      exact ⟨clauseN_mem hl x hx, by omega⟩) fun x hx => by
        have := (clauseN_mem hl x hx).1; omega
    obtain ⟨v4, h4, e4, a4, n4, c4, rfl, W4, q4⟩ := ct38 hO (Int.ofNat (1 + w / 16 % 6)) C1' C2' (c := c1) (c' := c2) (by omega) (by omega) (ok.kp k3) (ht.kp k3 ht.1)
    have k4 := k3.trans (q4.le k3.nx)
    have f34 := q4.ex (Nat.le_refl _)
    refine ⟨_, _, _, _, _, e4, ?_⟩
    refine lp15_1 (ok.kp k4) (ht.kp k4 ht.1) (by simp only [Int.ofNat_eq_natCast]; omega) (by simp only [Int.ofNat_eq_natCast]; omega) (C1'.to h4) (C2'.to h4) (cl fun x hh => (litx x (List.mem_of_mem_take hh)).1) (cl fun x hh => (lity x (List.mem_of_mem_take hh)).1) (by omega) (by omega) W4 rfl _ 0 (Nat.zero_add _) (.refl _ _) rfl
  | succ d ih =>
    intro k hk h a7 n7 c7 a8 n8 c8 xs ys kp hnx g0 g1 A B dj hxs hys
    refine I15_0.of (hh := ?_) ..
    unfold T15_0
    have hk4 : k < 4 := by omega
    have lxs : xs.length = k := by rw [hxs]; simp; omega
    have lys : ys.length = k := by rw [hys]; simp; omega
    refine vcond_t (by rw [show (4 : Int) = Int.ofNat 4 from rfl, ltI_nat]; exact blt_t hk4) ?_
    intro g2
    have okh := ok.kp kp
    have kx : k < [x0, x1, x2, x3].length := hk4
    have ky : k < [y0, y1, y2, y3].length := hk4
    have rx : readAt g2 h₀.nx (0 + k * 1) 1 = some [.int .i8 ([x0, x1, x2, x3][k])] := read1 g0 (by rw [Nat.zero_add, Nat.mul_one, List.getElem?_map, List.getElem?_eq_getElem kx]; rfl)
    have ry : readAt g2 (h₀.nx + 1) (0 + k * 1) 1 = some [.int .i8 ([y0, y1, y2, y3][k])] := read1 g1 (by rw [Nat.zero_add, Nat.mul_one, List.getElem?_map, List.getElem?_eq_getElem ky]; rfl)
    have bx := hx _ (List.getElem_mem kx)
    have by_ := hy _ (List.getElem_mem ky)
    refine isNat_i (vreq_t (blt_t hk4) ⟨_, rx, isNat_i (vreq_t (blt_t hk4) ⟨_, ry, _, _, ct21 hO bx.1 bx.2 (by decide) (by decide) _, ?_⟩)⟩)
    intro g3
    have n3 : g3.nx = h.nx + 16 := rfl
    have A3 : AccI 3 g3 (h₀.nx + 2) a7 n7 c7 xs := Acc.to (h := h) g3 A (k := inferInstanceAs (Ft h ((((h.rsv 16).grd [h₀.nx + 1])).rst (h.rsv 16))))
    have B3 : AccI 3 g3 (h₀.nx + 2) a8 n8 c8 ys := Acc.to (h := h) g3 B (k := inferInstanceAs (Ft h ((((h.rsv 16).grd [h₀.nx + 1])).rst (h.rsv 16))))
    have gd3 : GdLt g3 (h₀.nx + 2) := fun q hq => by
      have : q ∈ h₀.gd := by rw [← kp.gd]; exact hq
      have := ok.gd q this; omega
    refine appRI A3 (by omega) gd3 (q := h.nx + 5) (okh.fr _ (by omega)) (by omega) (by omega) (l := [h₀.nx + 1]) (fun i hi => by rw [List.mem_singleton.1 hi]; omega) (by omega) fun a' n' c' h' A4 fr4 p4 k4 => ?_
    intro g4
    have K4 : Kp (h₀.nx + 2) g3 g4 := k4
    have n4 : h.nx + 16 ≤ g4.nx := Nat.le_trans (Nat.le_of_eq n3.symm) K4.nx
    have B4 : AccI 3 g4 (h₀.nx + 2) a8 n8 c8 ys := B3.keep (fun o ho hb => by
      have e := p4.get o ho (fun ha => dj o ha hb)
      have : o ≠ h.nx + 5 := by
        rintro rfl
        rcases B3 with ⟨e, _⟩ | ⟨o', e, _, _, _, _, h6⟩
        · rw [e] at hb; cases hb
        · rw [e] at hb; injection hb with hb; injection hb with hb; subst hb
          rw [show g3.get (h.nx + 5) = h.get (h.nx + 5) from rfl, okh.fr _ (by omega)] at h6; cases h6
      show g4.get o = _
      rw [show g4.get o = _ from e, get_lay, if_neg this]) K4.nx
    refine ⟨_, _, ct21 hO by_.1 by_.2 (by decide) (by decide) _, ?_⟩
    intro g5
    have n5 : g5.nx = g4.nx := rfl
    have B5 : AccI 3 g5 (h₀.nx + 2) a8 n8 c8 ys := B4.keep (fun _ _ _ => rfl) (Nat.le_refl _)
    have A5 : AccI 3 g5 (h₀.nx + 2) a' n' c' (xs ++ [litP [x0, x1, x2, x3][k] 6]) := Acc.keep (h := g4) A4 (fun _ _ _ => rfl) (Nat.le_refl _)
    have ne7 : ∀ q, h.nx ≤ q → a7 ≠ some ⟨q, 0, none⟩ := fun q hq ha => by have := (Acc.lt A ha).2; omega
    have g12 : g5.get (h.nx + 12) = none := by
      refine (p4.get (h.nx + 12) (show h.nx + 12 < h.nx + 16 by omega) (ne7 _ (by omega))).trans ?_
      rw [get_lay, if_neg (by omega)]
      exact okh.fr _ (by omega)
    have kp5 : Kp h₀.nx h₀ g5 := by
      have K3 : Kp h₀.nx h₀ g3 := kp.rsv 16
      exact K3.trans (K4.le (by omega))
    have gd5 : GdLt g5 (h₀.nx + 2) := fun q hq => by
      have : q ∈ h₀.gd := by rw [← kp5.gd]; exact hq
      have := ok.gd q this; omega
    refine appRI B5 (by omega) gd5 (q := h.nx + 12) g12 (by omega) (by omega) (l := []) (fun i hi => by cases hi) (by omega) fun b' m' d' h6 B6 fr6 p6 k6 => ?_
    intro g7
    have K7 : Kp (h₀.nx + 2) g5 g7 := k6
    have ne8 : ∀ q, a' = some ⟨q, 0, none⟩ → a8 ≠ some ⟨q, 0, none⟩ := fun q ha hb => by
      have := fr4 q ha
      have := (Acc.lt B hb).2
      omega
    have A7 : AccI 3 g7 (h₀.nx + 2) a' n' c' (xs ++ [litP [x0, x1, x2, x3][k] 6]) := A5.keep (fun o ho ha => by
      refine (p6.get o ho (ne8 o ha)).trans ?_
      have : o ≠ h.nx + 12 := by have := fr4 o ha; omega
      rw [get_lay, if_neg this]) K7.nx
    rw [wrap_succ (by omega)]
    refine ih (k + 1) (by omega) (kp5.trans (K7.le (by omega))) (Nat.le_trans (show h₀.nx + 2 ≤ g5.nx by omega) K7.nx) ?_ ?_ A7 B6 (fun q ha hb => ?_) ?_ ?_
    · rw [K7.get _ (by omega)]
      show g4.get _ = _
      rw [K4.get _ (by omega)]; exact g0
    · rw [K7.get _ (by omega)]
      show g4.get _ = _
      rw [K4.get _ (by omega)]; exact g1
    · have := fr6 q hb
      have := (Acc.lt A5 ha).2
      omega
    · rw [hxs, List.take_succ_eq_append_getElem kx, List.map_append]; rfl
    · rw [hys, List.take_succ_eq_append_getElem ky, List.map_append]; rfl
/-- The law. -/
theorem law15 : Ret Tryd.prog Ow 15 [.agg #[.int .i8 x0, .int .i8 x1, .int .i8 x2, .int .i8 x3], .agg #[.int .i8 y0, .int .i8 y1, .int .i8 y2, .int .i8 y3], .int .u8 (Int.ofNat w)] h₀ Yes := by
  refine rk15 _ _ _ _ _ _ _ _ _ (Ow_oth _ _ _ (by decide)) ?_
  unfold T15
  intro g1 g2
  have e1 : g2.get h₀.nx = some (.cells ([x0, x1, x2, x3].map (Value.int .i8)) 90 .fix) := (get_add_ne (show h₀.nx ≠ h₀.nx + 1 by omega)).trans (get_add_same ..)
  have e2 : g2.get (h₀.nx + 1) = some (.cells ([y0, y1, y2, y3].map (Value.int .i8)) 90 .fix) := get_add_same g1 _
  exact lp15_0 hx hy hw ok ht 4 0 rfl (((Kp.refl _ _).add (Nat.le_refl _) _).add (by show h₀.nx ≤ h₀.nx + 1; omega) _) (Nat.le_refl _) e1 e2 (AccI.nil ..) (AccI.nil ..) (fun q h => by cases h) rfl rfl
end
end Go.Proofs.YtfgfhplgnfbaaaaDoor
