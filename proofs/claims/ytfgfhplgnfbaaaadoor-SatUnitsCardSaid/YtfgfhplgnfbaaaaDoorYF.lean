/- Contracts of library functions that sort, where the list is sorted. -/
import Derived.Test.YtfgfhplgnfbaaaaDoorYE
import Derived.Test.YtfgfhplgnfbaaaaDoorProg
import Derived.Test.YtfgfhplgnfbaaaaDoorYC
import Derived.KernelRfl
import Derived.Test.YtfgfhplgnfbaaaaDoorYD
import Derived.Lib.LaidTab
import Derived.WalkKit
import Derived.ProofKit
import Derived.OpenShut
import Derived.Deep.DeepHandedRow
import Derived.Test.YtfgfhplgnfbaaaaDoorYB
import Derived.Shelf.Spec.SlicesInsert
import Derived.Shelf.Spec.SlicesInsertGrow
import Derived.Test.YtfgfhplgnfbaaaaDoorCards
import Derived.Test.YtfgfhplgnfbaaaaDoorTie
namespace Go.Proofs.YtfgfhplgnfbaaaaDoor
open Go Go.Ev
section
variable {O : CallF} (hO : Oth O)
include hO
theorem ct123 {x y : Int} (hx : Lit x) (hy : Lit y) (h : Hp) : EvT O 123 [.int .i64 x, .int .i64 y] h (.int .i64 ((x.natAbs : Int) - (y.natAbs : Int))) h := by
  refine EvC.of_ret (rk123 _ _ (hO _ _ _ (by decide)) ?_)
  unfold T123
  refine ⟨_, _, ct94 hO x h, _, _, ct94 hO y h, ?_, rfl⟩
  have := hx.2; have := hy.2
  rw [varI_lit2 hx, varI_lit2 hy, wrap64 (by omega) (by omega)]
theorem Dif.at {l : List Int} (h : Dif l) {k : Nat} (hk : k + 1 < l.length) : l[k].natAbs < l[k + 1].natAbs := by
  have _ := hO
  exact List.pairwise_iff_getElem.1 h k (k + 1) (by omega) hk (by omega)
theorem lp127_0 {h₀ : Hp} {a0 : Option Addr} {n0 c0 : Nat} {l : List Int} (X : IntsAt h₀ a0 n0 l) (hl : l.length < 1000) (hlit : ∀ x ∈ l, Lit x) (hd : Dif l) :
    ∀ (d k : Nat), k + d = l.length → ∀ {h : Hp}, Kp h₀.nx h₀ h → I127_0 O (fun v h' => v = undef ∧ Kp h₀.nx h₀ h') a0 n0 c0 0 (Int.ofNat n0) 123 #[] #[] 123 #[] #[] (Int.ofNat (k + 1)) h := by
  have hn := X.1
  intro d
  induction d with
  | zero =>
    intro k hk h K
    refine I127_0.of _ _ _ _ _ _ _ _ _ _ _ _ ?_
    intros
    unfold T127_0
    exact vcond_f (by rw [ltI_nat]; exact blt_f (by omega)) ⟨rfl, K⟩
  | succ d ih =>
    intro k hk h K
    refine I127_0.of _ _ _ _ _ _ _ _ _ _ _ _ ?_
    intros
    unfold T127_0
    by_cases hlast : k + 1 = l.length
    · exact vcond_f (by rw [ltI_nat]; exact blt_f (by omega)) ⟨rfl, K⟩
    have inner : I127_1 O (fun v h' => v = undef ∧ Kp h₀.nx h₀ h') a0 n0 c0 0 (Int.ofNat n0) 123 #[] #[] 123 #[] #[] (Int.ofNat (k + 1)) (Int.ofNat (k + 1)) h := by
      refine I127_1.of _ _ _ _ _ _ _ _ _ _ _ _ _ ?_
      intros
      unfold T127_1
      have k17 : Kp h₀.nx h₀ (h.rsv 17) := K.rsv 17
      have e1 : wrapF .i64 (Int.ofNat (k + 1) - 1) = Int.ofNat k := by rw [wrap64] <;> simp only [Int.ofNat_eq_natCast] <;> omega
      have hlt := Dif.at hO hd (k := k) (by omega)
      refine vcond_t (ltI_t (by simp only [Int.ofNat_eq_natCast]; omega)) (isNat_of (X.get (k := k + 1) (by omega) fun b off _ hb hrd => vreq_t (blt_t (by omega)) ⟨_, by rw [readAt_kp k17 hb]; exact hrd, ?_⟩))
      rw [e1]
      refine isNat_of (X.get (k := k) (by omega) fun b off _ hb hrd => vreq_t (blt_t (by omega)) ⟨_, by rw [readAt_kp k17 hb]; exact hrd, _, _, ct123 hO (hlit _ (List.getElem_mem _)) (hlit _ (List.getElem_mem _)) _, vcond_f (ltI_f (by omega)) ?_⟩)
      rw [wrap_succ (by omega)]
      exact ih (k + 1) (by omega) k17 ..
    exact vcond_t (by rw [ltI_nat]; exact blt_t (by omega)) (inner ..)
theorem ct127 {h : Hp} {a0 : Option Addr} {n0 c0 : Nat} {l : List Int} (X : IntsAt h a0 n0 l) (hl : l.length < 1000) (hlit : ∀ x ∈ l, Lit x) (hd : Dif l) :
    Ret Tryd.prog O 127 [.slice a0 n0 c0, .int .i64 0, .int .i64 (Int.ofNat n0), .func (.func 123) #[] #[]] h fun v h' => v = undef ∧ Kp h.nx h h' := by
  refine rk127 _ _ _ _ _ _ _ _ (hO _ _ _ (by decide)) ?_
  unfold T127
  exact lp127_0 hO X hl hlit hd l.length 0 (by omega) (.refl _ _) ..
theorem lp132 {h₀ : Hp} {a0 : Option Addr} {n0 c0 : Nat} {l : List Int} (X : IntsAt h₀ a0 n0 l) (hl : l.length < 1000) (hlit : ∀ x ∈ l, Lit x) (hd : Dif l) :
    ∀ (d k : Nat), k + 1 + d = l.length → ∀ {h : Hp}, Kp h₀.nx h₀ h → I132_1 O (fun v h' => v = .bool true ∧ Kp h₀.nx h₀ h') a0 n0 c0 0 (Int.ofNat n0) 123 #[] #[] 123 #[] #[] false (Int.ofNat (k + 1)) 0 h := by
  have hn := X.1
  intro d
  induction d with
  | zero =>
    intro k hk h K
    refine I132_1.of _ _ _ _ _ _ _ _ _ _ _ _ _ _ ?_
    intros
    unfold T132_1
    exact vcond_f (by rw [ltI_nat]; exact blt_f (by omega)) (vcond_t (eqI_t (by rw [show n0 = k + 1 by omega])) ⟨rfl, K.rsv 18⟩)
  | succ d ih =>
    intro k hk h K
    refine I132_1.of _ _ _ _ _ _ _ _ _ _ _ _ _ _ ?_
    intros
    unfold T132_1
    have k18 : Kp h₀.nx h₀ (h.rsv 18) := K.rsv 18
    have e1 : wrapF .i64 (Int.ofNat (k + 1) - 1) = Int.ofNat k := by rw [wrap64] <;> simp only [Int.ofNat_eq_natCast] <;> omega
    have hlt := Dif.at hO hd (k := k) (by omega)
    refine vcond_t (by rw [ltI_nat]; exact blt_t (by omega)) (isNat_of (X.get (k := k + 1) (by omega) fun b off _ hb hrd => vreq_t (blt_t (by omega)) ⟨_, by rw [readAt_kp k18 hb]; exact hrd, ?_⟩))
    rw [e1]
    refine isNat_of (X.get (k := k) (by omega) fun b off _ hb hrd => vreq_t (blt_t (by omega)) ⟨_, by rw [readAt_kp k18 hb]; exact hrd, _, _, ct123 hO (hlit _ (List.getElem_mem _)) (hlit _ (List.getElem_mem _)) _, vcond_t (by rw [ltI_f (by omega)]; rfl) ?_⟩)
    rw [wrap_succ (by omega)]
    exact ih (k + 1) (by omega) k18 ..
theorem ct132 {h : Hp} {a0 : Option Addr} {n0 c0 : Nat} {l : List Int} (X : IntsAt h a0 n0 l) (hl : l.length < 1000) (h1 : 1 ≤ l.length) (hlit : ∀ x ∈ l, Lit x) (hd : Dif l) :
    Ret Tryd.prog O 132 [.slice a0 n0 c0, .int .i64 0, .int .i64 (Int.ofNat n0), .func (.func 123) #[] #[]] h fun v h' => v = .bool true ∧ Kp h.nx h h' := by
  refine rk132 _ _ _ _ _ _ _ _ (hO _ _ _ (by decide)) ?_
  unfold T132
  have i0 : I132_0 O (fun v h' => v = .bool true ∧ Kp h.nx h h') a0 n0 c0 0 (Int.ofNat n0) 123 #[] #[] 123 #[] #[] false 1 0 h := by
    refine I132_0.of _ _ _ _ _ _ _ _ _ _ _ _ _ _ ?_
    intros
    unfold T132_0
    exact vcond_t rfl (lp132 hO X hl hlit hd (l.length - 1) 0 (by omega) (.refl _ _) ..)
  exact i0 ..
theorem Dif.lt {l : List Int} (h : Dif l) {i j : Nat} (hij : i < j) (hj : j < l.length) : l[i].natAbs < l[j].natAbs := by
  have _ := hO
  exact List.pairwise_iff_getElem.1 h i j (by omega) hj hij
theorem ct145 {h₀ h : Hp} (K : Kp h₀.nx h₀ h) {a0 : Option Addr} {n0 c0 : Nat} {l : List Int} (X : IntsAt h₀ a0 n0 l) (hlit : ∀ x ∈ l, Lit x) (hd : Dif l) {i j : Nat} (hij : i < j) (hj : j < l.length) {b : Nat} :
    Ret Tryd.prog O 145 [.slice a0 n0 c0, .int .i64 (Int.ofNat i), .int .i64 (Int.ofNat j), .pointer (some ⟨b, 0, none⟩), .func (.func 123) #[] #[]] h fun v h' => v = .tuple #[.int .i64 (Int.ofNat i), .int .i64 (Int.ofNat j)] ∧ Kp h.nx h h' := by
  refine rk145 _ _ _ _ _ _ _ _ _ _ (hO _ _ _ (by decide)) ?_
  unfold T145
  have hn := X.1
  have k11 : Kp h₀.nx h₀ (h.rsv 11) := K.rsv 11
  have hlt := Dif.lt hO hd hij hj
  exact isNat_of (X.get (k := j) hj fun b off _ hb hrd => vreq_t (blt_t (by omega)) ⟨_, by rw [readAt_kp k11 hb]; exact hrd, isNat_of (X.get (k := i) (by omega) fun b off _ hb hrd => vreq_t (blt_t (by omega)) ⟨_, by rw [readAt_kp k11 hb]; exact hrd, _, _, ct123 hO (hlit _ (List.getElem_mem _)) (hlit _ (List.getElem_mem _)) _, vcond_f (ltI_f (by omega)) ⟨rfl, (Kp.refl _ h).rsv 11⟩⟩)⟩)
theorem ct144 {h₀ h : Hp} (K : Kp h₀.nx h₀ h) {a0 : Option Addr} {n0 c0 : Nat} {l : List Int} (X : IntsAt h₀ a0 n0 l) (hlit : ∀ x ∈ l, Lit x) (hd : Dif l) {i j k : Nat} (hij : i < j) (hjk : j < k) (hk : k < l.length) {b : Nat} :
    Ret Tryd.prog O 144 [.slice a0 n0 c0, .int .i64 (Int.ofNat i), .int .i64 (Int.ofNat j), .int .i64 (Int.ofNat k), .pointer (some ⟨b, 0, none⟩), .func (.func 123) #[] #[]] h fun v h' => v = .int .i64 (Int.ofNat j) ∧ Kp h.nx h h' := by
  refine rk144 _ _ _ _ _ _ _ _ _ _ _ (hO _ _ _ (by decide)) ?_
  unfold T144
  obtain ⟨v1, h1, e1, rfl, K1⟩ := ct145 hO K X hlit hd hij (by omega) (c0 := c0) (b := b)
  have k1 := K.trans (K1.le K.nx)
  obtain ⟨v2, h2, e2, rfl, K2⟩ := ct145 hO k1 X hlit hd hjk hk (c0 := c0) (b := b)
  have k2 := k1.trans (K2.le k1.nx)
  obtain ⟨v3, h3, e3, rfl, K3⟩ := ct145 hO k2 X hlit hd hij (by omega) (c0 := c0) (b := b)
  exact ⟨_, _, _, e1, _, _, _, e2, _, _, _, e3, rfl, (K1.trans (K2.le K1.nx)).trans (K3.le (Nat.le_trans K1.nx K2.nx))⟩
theorem ct130 {h : Hp} {a0 : Option Addr} {n0 c0 : Nat} {l : List Int} (X : IntsAt h a0 n0 l) (hl : l.length < 50) (h1 : 8 ≤ l.length) (hlit : ∀ x ∈ l, Lit x) (hd : Dif l) :
    Ret Tryd.prog O 130 [.slice a0 n0 c0, .int .i64 0, .int .i64 (Int.ofNat n0), .func (.func 123) #[] #[]] h fun v h' => (∃ p, v = .tuple #[.int .i64 p, .int .i64 1]) ∧ Kp h.nx h h' := by
  refine rk130 _ _ _ _ _ _ _ _ (hO _ _ _ (by decide)) ?_
  unfold T130
  have hn := X.1
  have e0 : wrapF .i64 (Int.ofNat n0 - 0) = Int.ofNat n0 := by rw [wrap64] <;> simp only [Int.ofNat_eq_natCast] <;> omega
  have e4 : wrapF .i64 (Int.tdiv (Int.ofNat n0) 4) = Int.ofNat (n0 / 4) := by
    show wrapF .i64 (Int.ofNat (n0 / 4)) = _
    rw [wrap64] <;> simp only [Int.ofNat_eq_natCast] <;> omega
  have em : ∀ q : Nat, q ≤ 3 → wrapF .i64 (0 + wrapF .i64 (Int.ofNat (n0 / 4) * (q : Int))) = Int.ofNat (n0 / 4 * q) := fun q hq => by
    have hb : n0 / 4 * q ≤ 12 * 3 := Nat.mul_le_mul (by omega) hq
    have e : Int.ofNat (n0 / 4) * (q : Int) = Int.ofNat (n0 / 4 * q) := rfl
    rw [e, Int.zero_add, wrap64 (n := Int.ofNat (n0 / 4 * q)) (by simp only [Int.ofNat_eq_natCast]; omega) (by simp only [Int.ofNat_eq_natCast]; omega), wrap64 (by simp only [Int.ofNat_eq_natCast]; omega) (by simp only [Int.ofNat_eq_natCast]; omega)]
  have em1 : wrapF .i64 (0 + wrapF .i64 (Int.ofNat (n0 / 4) * 1)) = Int.ofNat (n0 / 4 * 1) := em 1 (by omega)
  have em2 : wrapF .i64 (0 + wrapF .i64 (Int.ofNat (n0 / 4) * 2)) = Int.ofNat (n0 / 4 * 2) := em 2 (by omega)
  have em3 : wrapF .i64 (0 + wrapF .i64 (Int.ofNat (n0 / 4) * 3)) = Int.ofNat (n0 / 4 * 3) := em 3 (by omega)
  rw [e0, e4]
  rw [em1, em2, em3]
  have K0 : Kp h.nx h (h.add (.cells [(.int .i64 0)] 3 .fix)) := (Kp.refl _ h).add (Nat.le_refl _) _
  obtain ⟨v, h2, e2, rfl, K2⟩ := ct144 hO K0 X hlit hd (i := n0 / 4 * 1) (j := n0 / 4 * 2) (k := n0 / 4 * 3) (by omega) (by omega) (by omega) (c0 := c0) (b := h.nx)
  have g2 : h2.get h.nx = some (.cells [.int .i64 0] 3 .fix) := by rw [K2.get _ (by rw [nx_add]; omega)]; exact get_add_same ..
  refine vcond_t (by rw [ltI_f (by simp only [Int.ofNat_eq_natCast]; omega)]; rfl) (vcond_f (by rw [ltI_t (by simp only [Int.ofNat_eq_natCast]; omega)]; rfl) ⟨_, _, e2, _, read1 g2 rfl, vcond_t (eqI_t rfl) ⟨⟨_, rfl⟩, K0.trans (K2.le K0.nx)⟩⟩)
end
end Go.Proofs.YtfgfhplgnfbaaaaDoor
/- Contracts of library functions that sort, where the list is sorted: to the end. Contraries. -/
namespace Go.Proofs.YtfgfhplgnfbaaaaDoor
open Go Go.Ev
def lenT : ByteArray := ByteArray.mk #[0, 1, 2, 2, 3, 3, 3, 3, 4, 4, 4, 4, 4, 4, 4, 4, 5, 5, 5, 5, 5, 5, 5, 5, 5, 5, 5, 5, 5, 5, 5, 5, 6, 6, 6, 6, 6, 6, 6, 6, 6, 6, 6, 6, 6, 6, 6, 6, 6, 6, 6, 6, 6, 6, 6, 6, 6, 6, 6, 6, 6, 6, 6, 6, 7, 7, 7, 7, 7, 7, 7, 7, 7, 7, 7, 7, 7, 7, 7, 7, 7, 7, 7, 7, 7, 7, 7, 7, 7, 7, 7, 7, 7, 7, 7, 7, 7, 7, 7, 7, 7, 7, 7, 7, 7, 7, 7, 7, 7, 7, 7, 7, 7, 7, 7, 7, 7, 7, 7, 7, 7, 7, 7, 7, 7, 7, 7, 7, 8, 8, 8, 8, 8, 8, 8, 8, 8, 8, 8, 8, 8, 8, 8, 8, 8, 8, 8, 8, 8, 8, 8, 8, 8, 8, 8, 8, 8, 8, 8, 8, 8, 8, 8, 8, 8, 8, 8, 8, 8, 8, 8, 8, 8, 8, 8, 8, 8, 8, 8, 8, 8, 8, 8, 8, 8, 8, 8, 8, 8, 8, 8, 8, 8, 8, 8, 8, 8, 8, 8, 8, 8, 8, 8, 8, 8, 8, 8, 8, 8, 8, 8, 8, 8, 8, 8, 8, 8, 8, 8, 8, 8, 8, 8, 8, 8, 8, 8, 8, 8, 8, 8, 8, 8, 8, 8, 8, 8, 8, 8, 8, 8, 8, 8, 8, 8, 8, 8, 8, 8, 8, 8, 8, 8, 8, 8, 8]
theorem lenT_ok : ∀ k, k < 256 → wrapF .i64 (0 + wrapF .i64 (byteI lenT k)) ≠ 0 ∨ k = 0 := by decide +kernel
section
variable {O : CallF} (hO : Oth O)
include hO
theorem ct136 {n : Nat} (hn : n < 256) (h : Hp) : EvT O 136 [.int .u64 (Int.ofNat n)] h (.int .i64 (wrapF .i64 (0 + wrapF .i64 (byteI lenT n)))) h := by
  refine EvC.of_ret (rk136 _ (hO _ _ _ (by decide)) ?_)
  unfold T136
  have e8 : wrapF .u8 (Int.ofNat n) = Int.ofNat n := by
    show Int.ofNat (n % 256) = _
    rw [Nat.mod_eq_of_lt hn]
  rw [e8]
  refine vcond_f (by rw [ltI_t (by simp only [Int.ofNat_eq_natCast]; omega)]; rfl) (vcond_f (by rw [ltI_t (by simp only [Int.ofNat_eq_natCast]; omega)]; rfl) (vcond_f (by rw [ltI_t (by simp only [Int.ofNat_eq_natCast]; omega)]; rfl) (isNat_of (vreq_t (blt_t hn) ⟨rfl, rfl⟩))))
theorem ct116 {n : Nat} (hn : n < 256) (h : Hp) : EvT O 116 [.int .u64 (Int.ofNat n)] h (.int .i64 (wrapF .i64 (0 + wrapF .i64 (byteI lenT n)))) h := by
  refine EvC.of_ret (rk116 _ (hO _ _ _ (by decide)) ?_)
  unfold T116
  exact ⟨_, _, ct136 hO hn h, rfl, rfl⟩
theorem ct115 {h : Hp} {a0 : Option Addr} {n0 c0 : Nat} {l : List Int} (X : IntsAt h a0 n0 l) (hl : l.length < 50) (hlit : ∀ x ∈ l, Lit x) (hd : Dif l) {x3 : Int} (h3 : 12 < l.length → x3 ≠ 0) :
    Ret Tryd.prog O 115 [.slice a0 n0 c0, .int .i64 0, .int .i64 (Int.ofNat n0), .int .i64 x3, .func (.func 123) #[] #[]] h fun v h' => v = undef ∧ Kp h.nx h h' := by
  refine rk115 _ _ _ _ _ _ _ _ _ (hO _ _ _ (by decide)) ?_
  unfold T115
  have hn := X.1
  have i0 : I115_0 O (fun v h' => v = undef ∧ Kp h.nx h h') a0 n0 c0 0 (Int.ofNat n0) x3 123 #[] #[] 0 (Int.ofNat n0) x3 123 #[] #[] true true h := by
    refine I115_0.of _ _ _ _ _ _ _ _ _ _ _ _ _ _ _ _ _ ?_
    intros
    unfold T115_0
    have e0 : wrapF .i64 (Int.ofNat n0 - 0) = Int.ofNat n0 := by rw [wrap64] <;> simp only [Int.ofNat_eq_natCast] <;> omega
    rw [e0]
    refine vcond_split (fun h1 => ?_) fun h1 => ?_
    · obtain ⟨v, h2, e2, rfl, K2⟩ := ct127 hO X (by omega) hlit hd (c0 := c0)
      exact ⟨_, e2, rfl, K2⟩
    · have h1 : 12 < l.length := by
        have : ltI 12 (Int.ofNat n0) = true := by simpa using h1
        have := lt_of_t this
        simp only [Int.ofNat_eq_natCast] at this
        omega
      refine vcond_f (eqI_f (h3 h1)) (vcond_f rfl ?_)
      obtain ⟨v, h2, e2, ⟨p, rfl⟩, K2⟩ := ct130 hO X hl (by omega) hlit hd (c0 := c0)
      obtain ⟨v, h4, e4, rfl, K4⟩ := ct132 hO (X.up EInt.up K2) (by omega) (by omega) hlit hd (c0 := c0)
      exact ⟨_, _, _, e2, vcond_f (eqI_f (by decide)) (vcond_t rfl (vcond_t rfl (vcond_t (eqI_t rfl) ⟨_, _, e4, vcond_t rfl ⟨rfl, K2.trans (K4.le K2.nx)⟩⟩)))⟩
  exact i0 ..
theorem ct74 {h : Hp} {a0 : Option Addr} {n0 c0 : Nat} {l : List Int} (X : IntsAt h a0 n0 l) (hl : l.length < 50) (hlit : ∀ x ∈ l, Lit x) (hd : Dif l) :
    Ret Tryd.prog O 74 [.slice a0 n0 c0, .func (.func 123) #[] #[]] h fun v h' => v = undef ∧ Kp h.nx h h' := by
  refine rk74 _ _ _ _ _ _ (hO.sorted _ _ _ _ _ _ X hd) ?_
  unfold T74
  have hn := X.1
  have e : wrapF .u64 (Int.ofNat n0) = Int.ofNat n0 := by
    have : n0 < 50 := by omega
    clear X hn
    revert n0
    decide +kernel
  rw [e]
  obtain ⟨v, h2, e2, rfl, K2⟩ := ct115 hO X hl hlit hd (c0 := c0) (x3 := wrapF .i64 (0 + wrapF .i64 (byteI lenT n0))) (fun h12 => (lenT_ok n0 (by omega)).resolve_right (by omega))
  exact ⟨_, _, ct116 hO (by omega) h, _, e2, rfl, K2⟩
omit hO in
theorem Dif.neg {l : List Int} (h : Dif l) : Dif (l.map fun x => -x) := by
  unfold Dif
  rw [List.pairwise_map]
  refine h.imp fun {x z} hxz => ?_
  rw [Int.natAbs_neg, Int.natAbs_neg]; exact hxz
omit hO in
theorem lit_neg {l : List Int} (h : ∀ x ∈ l, Lit x) : ∀ x ∈ l.map (fun x => -x), Lit x := by
  intro x hx
  obtain ⟨z, hz, rfl⟩ := List.mem_map.1 hx
  have := h z hz
  exact ⟨by have := this.1; omega, by have := this.2; omega⟩
end
end Go.Proofs.YtfgfhplgnfbaaaaDoor
/- Conditions of functions' code, printed by a program of ours. -/
namespace Go.Proofs.YtfgfhplgnfbaaaaDoor
open Go Go.Ev
set_option maxRecDepth 100000
set_option linter.unusedVariables false
/-! slices.Clone[[]int,int] -/
noncomputable def b60 : Code := (Tryd.f60.body).getD .skip
def lv60 : List (Nat × List Nat) := []
def T60 (O : CallF) (Q : Value → Hp → Prop) (a0 : Option Addr) (n0 : Nat) (c0 : Nat) (h : Hp) : Prop :=
  vnil a0
  (Q (.slice none 0 0) h)
  (let g1 : Hp := h.add (.cells [] 3 .fix)
  ∃ a2' n3' c4' h5', appendV Tryd.prog g1 32 32 (.slice (some ⟨h.nx, 0, none⟩) 0 0) (.slice a0 n0 c0) = some (.slice a2' n3' c4', h5') ∧
  Q (.slice a2' n3' c4') h5')
theorem rk60 {O Q} (a0 n0 c0) {h : Hp} (hO : O 60 [(.slice a0 n0 c0)] h = none) (hh : T60 O Q a0 n0 c0 h) : Ret Tryd.prog O 60 [(.slice a0 n0 c0)] h Q :=
  .of (c := b60) Tryd.func60 (by kernel_rfl) hO (V_ok (tb := lv60) (cuts := []) 500 (Eq.mp (by kernel_rfl) hh))
/-! slices.IndexFunc[[]int,int] -/
end Go.Proofs.YtfgfhplgnfbaaaaDoor
/- Contracts of layer 20: sorting of few numbers; literals by numbers, clauses of them. -/
namespace Go.Proofs.YtfgfhplgnfbaaaaDoor
open Go Go.Ev
/-- All but one object is as it was. -/
structure Kx (b : Nat) (h h' : Hp) : Prop where
  get : ∀ o, o < h.nx → o ≠ b → h'.get o = h.get o
  nx : h.nx ≤ h'.nx
  gd : h'.gd = h.gd
  fr : h.Fresh → h'.Fresh
theorem Kx.refl (b : Nat) (h : Hp) : Kx b h h := ⟨fun _ _ _ => rfl, Nat.le_refl _, rfl, id⟩
theorem Kx.rsv {b : Nat} {g h : Hp} (k : Kx b g h) (n : Nat) : Kx b g (h.rsv n) := ⟨k.get, by rw [nx_rsv]; have := k.nx; omega, k.gd, fun f o ho => k.fr f o (by rw [nx_rsv] at ho; omega)⟩
theorem Kx.wr {b : Nat} {g h : Hp} (k : Kx b g h) (off : Nat) (vs : List Value) : Kx b g (h.wr b off vs) := ⟨fun o h1 h2 => by rw [wr_get_ne _ _ _ _ h2]; exact k.get o h1 h2, by rw [nx_wr]; exact k.nx, by rw [gd_wr]; exact k.gd, fun f => (k.fr f).wr b off vs⟩
theorem Kx.trans {b : Nat} {g h h' : Hp} (k : Kx b g h) (k2 : Kx b h h') : Kx b g h' := ⟨fun o h1 h2 => (k2.get o (by have := k.nx; omega) h2).trans (k.get o h1 h2), Nat.le_trans k.nx k2.nx, k2.gd.trans k.gd, fun f => k2.fr (k.fr f)⟩
theorem Kx.kp {b n : Nat} {h h' : Hp} (k : Kx b h h') (hb : n ≤ b) (hn : n ≤ h.nx) : Kp n h h' := ⟨fun o ho => k.get o (by omega) (by omega), k.nx, k.gd, k.fr⟩
theorem Kx.rst {b : Nat} {g h h' : Hp} (k : Kx b g h) (e : h'.gd = g.gd) : Kx b g (h.rst h') := ⟨k.get, k.nx, e, k.fr⟩
theorem Kx.grd {b : Nat} {g h : Hp} (k : Kx b g h) : Kx b g (h.grd []) := ⟨k.get, k.nx, k.gd, k.fr⟩
/-- A row of whole numbers that may be written. -/
structure RowAt (b : Nat) (e : TypeId) (m : Md) (h : Hp) (l : List Int) : Prop where
  lt : b < h.nx
  get : h.get b = some (.cells (l.map (Value.int .i64)) e m)
theorem RowAt.rd {b : Nat} {e : TypeId} {m : Md} {h : Hp} {l : List Int} (R : RowAt b e m h l) {k : Nat} (hk : k < l.length) {off : Nat} (ho : off = k) : readAt h b off 1 = some [.int .i64 l[k]] :=
  read1 R.get (by subst ho; simp [hk])
theorem RowAt.ints {b : Nat} {e : TypeId} {m : Md} {h : Hp} {l : List Int} (R : RowAt b e m h l) : IntsAt h (some ⟨b, 0, none⟩) l.length l :=
  ⟨rfl, .inr ⟨b, 0, _, _, _, rfl, R.lt, R.get, by simp, fun i hi => by
    show ((l.map (Value.int .i64)).drop (0 + i * 1)).take 1 = [.int .i64 l[i]]
    rw [Nat.zero_add, Nat.mul_one, List.drop_eq_getElem_cons (by simpa using hi)]
    simp⟩⟩
theorem RowAt.wr {b : Nat} {e : TypeId} {m : Md} {h : Hp} {l : List Int} (R : RowAt b e m h l) (hm : m ≠ .ro) (hg : h.guarded b = false) {k : Nat} (hk : k < l.length) {off : Nat} (ho : off = k) (x : Int) : canW h b off [.int .i64 x] = true ∧ RowAt b e m (h.wr b off [.int .i64 x]) (l.set k x) := by
  subst ho
  refine ⟨canW_t R.get hm hg (by simp; omega) rfl, by rw [nx_wr]; exact R.lt, ?_⟩
  rw [wr_get R.get hm hg (by simp; omega) rfl, putAt_set hk]
/-- A comparison by a key. -/
def CmpOk (O : CallF) (g : Nat) (key : Int → Int) (D : Int → Prop) : Prop := ∀ x y h, D x → D y → EvT O g [.int .i64 x, .int .i64 y] h (.int .i64 (key x - key y)) h
section
variable {O : CallF} {g : Nat} {key : Int → Int} {D : Int → Prop} (hO : Oth O) (C : CmpOk O g key D)
include hO C
/-- Of the first elements all but one stand in order. -/
def Near (key : Int → Int) (l : List Int) (k j : Nat) : Prop := ∀ i i', i < i' → i' ≤ k → i' ≠ j → key (l.getD i 0) ≤ key (l.getD i' 0)
omit hO C in
theorem swp {l : List Int} {j : Nat} (hj : j + 1 < l.length) {x y : Int} (p : Nat) : ((l.set (j + 1) y).set j x).getD p 0 = if p = j then x else if p = j + 1 then y else l.getD p 0 := by
  simp only [List.getD_eq_getElem?_getD, List.getElem?_set, List.length_set]
  by_cases c : p = j
  · subst c; rw [if_pos rfl, if_pos (by omega), if_pos rfl]; rfl
  · rw [if_neg (by omega), if_neg c]
    by_cases c2 : p = j + 1
    · subst c2; rw [if_pos rfl, if_pos hj, if_pos rfl]; rfl
    · rw [if_neg (by omega), if_neg c2]
theorem lp127g_1 {b : Nat} {e : TypeId} {m : Md} (hm : m ≠ .ro) {h₀ : Hp} (hg : ∀ q ∈ h₀.gd, q ≠ b) {N c k : Nat} {l₀ : List Int} (hN : N < 1000000) (hk : k < N) (hD : ∀ x ∈ l₀, D x) {Q : Value → Hp → Prop}
    (next : ∀ l h, l.Perm l₀ → l.length = N → Near key l k (k + 1) → RowAt b e m h l → Kx b h₀ h → I127_0 O Q (some ⟨b, 0, none⟩) N c 0 (Int.ofNat N) g #[] #[] g #[] #[] (Int.ofNat (k + 1)) h) :
    ∀ (j : Nat), j ≤ k → ∀ {l : List Int} {h : Hp}, l.Perm l₀ → l.length = N → Near key l k j → RowAt b e m h l → Kx b h₀ h →
      I127_1 O Q (some ⟨b, 0, none⟩) N c 0 (Int.ofNat N) g #[] #[] g #[] #[] (Int.ofNat k) (Int.ofNat j) h := by
  have _ := hO
  intro j
  induction j with
  | zero =>
    intro hj l h hp hl hs R K
    refine I127_1.of _ _ _ _ _ _ _ _ _ _ _ _ _ ?_
    unfold T127_1
    rw [wrap_succ (by omega)]
    refine vcond_f (by rfl) (next l _ hp hl ?_ ⟨Nat.lt_of_lt_of_le R.lt (Nat.le_add_right ..), R.get⟩ (K.rsv 17))
    intro i i' h1 h2 _
    exact hs i i' h1 h2 (by omega)
  | succ j ih =>
    intro hj l h hp hl hs R K
    refine I127_1.of _ _ _ _ _ _ _ _ _ _ _ _ _ ?_
    unfold T127_1
    have e1 : wrapF .i64 (Int.ofNat (j + 1) - 1) = Int.ofNat j := by rw [wrap64] <;> simp only [Int.ofNat_eq_natCast] <;> omega
    rw [e1, wrap_succ (by omega)]
    have R1 : RowAt b e m (h.rsv 17) l := ⟨by rw [nx_rsv]; have := R.lt; omega, R.get⟩
    have hj1 : j + 1 < l.length := by omega
    have hj0 : j < l.length := by omega
    have hDx : D l[j + 1] := hD _ (hp.subset (List.getElem_mem _))
    have hDy : D l[j] := hD _ (hp.subset (List.getElem_mem _))
    refine vcond_t (by rfl) (isNat_of (show isAddr (some ⟨b, 0, none⟩) _ from vreq_t (blt_t (by omega)) ⟨_, R1.rd hj1 (by omega), ?_⟩))
    refine isNat_of (show isAddr (some ⟨b, 0, none⟩) _ from vreq_t (blt_t (by omega)) ⟨_, R1.rd hj0 (by omega), _, _, C _ _ _ hDx hDy, ?_⟩)
    have gd (k : Nat) (x : List Int) : x.getD k 0 = (x[k]?).getD 0 := List.getD_eq_getElem?_getD ..
    refine vcond_split (fun hlt => ?_) fun hlt => ?_
    · have hlt := lt_of_t hlt
      have R2 : RowAt b e m (((((h.rsv 17).grd []).rst (h.rsv 17)).rsv 18).grd []) l := ⟨by rw [nx_grd, nx_rsv]; have := R1.lt; exact Nat.lt_of_lt_of_le this (Nat.le_add_right ..), R.get⟩
      have gu : ∀ {h' : Hp}, h'.gd = h₀.gd → h'.guarded b = false := fun e => guarded_of fun q hq => by rw [e] at hq; exact hg q hq
      have g2 : (((((h.rsv 17).grd []).rst (h.rsv 17)).rsv 18).grd []).gd = h₀.gd := K.gd
      obtain ⟨w1, R3⟩ := R2.wr hm (gu g2) (k := j + 1) (off := 0 + (j + 1) * 1) hj1 (by omega) l[j]
      obtain ⟨w2, R4⟩ := RowAt.wr (h := (((((((h.rsv 17).grd []).rst (h.rsv 17)).rsv 18).grd []).wr b (0 + (j + 1) * 1) [.int .i64 l[j]]).rst ((((h.rsv 17).grd []).rst (h.rsv 17)).rsv 18)).grd []) ⟨R3.lt, R3.get⟩ hm (gu K.gd) (k := j) (off := 0 + j * 1) (by simp; omega) (by omega) l[j + 1]
      refine isNat_of (show isAddr (some ⟨b, 0, none⟩) _ from vreq_t (blt_t (by omega)) ⟨_, R2.rd hj0 (by omega), ?_⟩)
      refine isNat_of (show isAddr (some ⟨b, 0, none⟩) _ from vreq_t (blt_t (by omega)) ⟨_, R2.rd hj1 (by omega), ?_⟩)
      refine isNat_of (show isAddr (some ⟨b, 0, none⟩) _ from vreq_t (blt_t (by omega)) (vreq_t w1 ?_))
      refine isNat_of (show isAddr (some ⟨b, 0, none⟩) _ from vreq_t (blt_t (by omega)) (vreq_t w2 ?_))
      have sw : ((l.set (j + 1) l[j]).set j l[j + 1]).Perm l₀ := by
        refine List.Perm.trans ?_ hp
        exact List.set_set_perm hj1 hj0
      refine ih (by omega) (l := (l.set (j + 1) l[j]).set j l[j + 1]) sw (by simpa using hl) ?_ ⟨R4.lt, R4.get⟩ ?_
      · intro i i' h1 h2 h3
        rw [swp hj1, swp hj1]
        have q0 : l.getD j 0 = l[j] := by simp [List.getD_eq_getElem?_getD, List.getElem?_eq_getElem hj0]
        have q1 : l.getD (j + 1) 0 = l[j + 1] := by simp [List.getD_eq_getElem?_getD, List.getElem?_eq_getElem hj1]
        rw [if_neg h3]
        by_cases c2 : i' = j + 1
        · rw [if_pos c2]
          by_cases c3 : i = j
          · rw [if_pos c3]; omega
          · rw [if_neg c3, if_neg (by omega), ← q0]
            exact hs i j (by omega) (by omega) (by omega)
        · rw [if_neg c2]
          by_cases c3 : i = j
          · rw [if_pos c3, ← q1]
            exact hs (j + 1) i' (by omega) h2 (by omega)
          · rw [if_neg c3]
            by_cases c4 : i = j + 1
            · rw [if_pos c4, ← q0]
              exact hs j i' (by omega) h2 (by omega)
            · rw [if_neg c4]
              exact hs i i' h1 h2 (by omega)
      · have K1 : Kx b h₀ (((((h.rsv 17).grd []).rst (h.rsv 17)).rsv 18).grd []) := (((K.rsv 17).grd.rst K.gd).rsv 18).grd
        exact (((K1.wr _ _).rst K.gd).grd.wr _ _).rst K.gd
    · have hlt := not_lt_of_f hlt
      refine next l _ hp hl ?_ ⟨R1.lt, R1.get⟩ ⟨(K.rsv 17).get, (K.rsv 17).nx, K.gd, (K.rsv 17).fr⟩
      intro i i' h1 h2 _
      by_cases c : i' = j + 1
      · subst c
        have h5 : key (l.getD j 0) ≤ key (l.getD (j + 1) 0) := by
          simp only [gd]
          rw [List.getElem?_eq_getElem hj0, List.getElem?_eq_getElem hj1]
          simp only [Option.getD_some]; omega
        by_cases c2 : i = j
        · subst c2; exact h5
        · exact Int.le_trans (hs i j (by omega) (by omega) (by omega)) h5
      · exact hs i i' h1 h2 c
theorem lp127g_0 {b : Nat} {e : TypeId} {m : Md} (hm : m ≠ .ro) {h₀ : Hp} (hg : ∀ q ∈ h₀.gd, q ≠ b) {N c : Nat} {l₀ : List Int} (hN : N < 1000000) (hD : ∀ x ∈ l₀, D x) :
    ∀ (d k : Nat), k + d = N → ∀ {l : List Int} {h : Hp}, l.Perm l₀ → l.length = N → Near key l (k - 1) (k + 1) → RowAt b e m h l → Kx b h₀ h →
      I127_0 O (fun v h' => v = undef ∧ ∃ l, l.Perm l₀ ∧ l.Pairwise (fun x y => key x ≤ key y) ∧ RowAt b e m h' l ∧ Kx b h₀ h') (some ⟨b, 0, none⟩) N c 0 (Int.ofNat N) g #[] #[] g #[] #[] (Int.ofNat k) h := by
  intro d
  induction d with
  | zero =>
    intro k hk l h hp hl hs R K
    refine I127_0.of _ _ _ _ _ _ _ _ _ _ _ _ ?_
    unfold T127_0
    refine vcond_f (by rw [ltI_nat]; exact blt_f (by omega)) ⟨rfl, l, hp, ?_, R, K⟩
    rw [List.pairwise_iff_getElem]
    intro i i' h1 h2 h3
    have := hs i i' h3 (by omega) (by omega)
    simp only [List.getD_eq_getElem?_getD] at this
    rw [List.getElem?_eq_getElem h1, List.getElem?_eq_getElem h2] at this
    exact this
  | succ d ih =>
    intro k hk l h hp hl hs R K
    refine I127_0.of _ _ _ _ _ _ _ _ _ _ _ _ ?_
    unfold T127_0
    refine vcond_t (by rw [ltI_nat]; exact blt_t (by omega)) ?_
    refine lp127g_1 hO C hm hg hN (by omega) hD (fun l' h' p1 p2 p3 p4 p5 => ih (k + 1) (by omega) p1 p2 (fun i i' a1 a2 a3 => p3 i i' a1 (by omega) (by omega)) p4 p5) k (Nat.le_refl _) hp hl ?_ R K
    intro i i' a1 a2 a3
    exact hs i i' a1 (by omega) (by omega)
theorem ct127g {b : Nat} {e : TypeId} {m : Md} (hm : m ≠ .ro) {h : Hp} (hg : ∀ q ∈ h.gd, q ≠ b) {c : Nat} {l : List Int} (hN : l.length < 1000000) (hD : ∀ x ∈ l, D x) (R : RowAt b e m h l) :
    Ret Tryd.prog O 127 [.slice (some ⟨b, 0, none⟩) l.length c, .int .i64 0, .int .i64 (Int.ofNat l.length), .func (.func g) #[] #[]] h fun v h' => v = undef ∧ ∃ l', l'.Perm l ∧ l'.Pairwise (fun x y => key x ≤ key y) ∧ RowAt b e m h' l' ∧ Kx b h h' := by
  refine rk127 _ _ _ _ _ _ _ _ (hO _ _ _ (by decide)) ?_
  unfold T127
  have z : wrapF .i64 (0 + 1) = Int.ofNat 1 := rfl
  rw [z]
  by_cases h0 : l.length = 0
  · refine I127_0.of _ _ _ _ _ _ _ _ _ _ _ _ ?_
    unfold T127_0
    refine vcond_f (by rw [ltI_nat]; exact blt_f (by omega)) ⟨rfl, l, .refl _, ?_, R, .refl _ _⟩
    rw [List.length_eq_zero_iff.1 h0]; exact List.Pairwise.nil
  · refine lp127g_0 hO C hm hg hN hD (l.length - 1) 1 (by omega) (.refl _) rfl ?_ R (.refl _ _)
    intro i i' a1 a2 a3; omega
/-- At most twelve numbers are sorted. -/
theorem ct74g {b : Nat} {e : TypeId} {m : Md} (hm : m ≠ .ro) {h : Hp} (hg : ∀ q ∈ h.gd, q ≠ b) {c : Nat} {l : List Int} (hN : l.length ≤ 12) (hD : ∀ x ∈ l, D x) (R : RowAt b e m h l) :
    Ret Tryd.prog O 74 [.slice (some ⟨b, 0, none⟩) l.length c, .func (.func g) #[] #[]] h fun v h' => v = undef ∧ ∃ l', l'.Perm l ∧ l'.Pairwise (fun x y => key x ≤ key y) ∧ RowAt b e m h' l' ∧ Kx b h h' := by
  refine rk74 _ _ _ _ _ _ (hO.short _ _ _ _ _ hN) ?_
  unfold T74
  have w : wrapF .u64 (Int.ofNat l.length) = Int.ofNat l.length := by
    have : ∀ n, n < 13 → wrapF .u64 (Int.ofNat n) = Int.ofNat n := by decide +kernel
    exact this _ (by omega)
  rw [w]
  refine ⟨_, _, ct116 hO (by omega) h, ?_⟩
  have r : Ret Tryd.prog O 115 [.slice (some ⟨b, 0, none⟩) l.length c, .int .i64 0, .int .i64 (Int.ofNat l.length), .int .i64 (wrapF .i64 (0 + wrapF .i64 (byteI lenT l.length))), .func (.func g) #[] #[]] h fun v h' => v = undef ∧ ∃ l', l'.Perm l ∧ l'.Pairwise (fun x y => key x ≤ key y) ∧ RowAt b e m h' l' ∧ Kx b h h' := by
    refine rk115 _ _ _ _ _ _ _ _ _ (hO _ _ _ (by decide)) ?_
    unfold T115
    refine I115_0.of _ _ _ _ _ _ _ _ _ _ _ _ _ _ _ _ _ ?_
    unfold T115_0
    have e1 : wrapF .i64 (Int.ofNat l.length - 0) = Int.ofNat l.length := by rw [wrap64] <;> simp only [Int.ofNat_eq_natCast] <;> omega
    rw [e1]
    refine vcond_t (by rw [ltI_f (by simp only [Int.ofNat_eq_natCast]; omega)]; rfl) ?_
    exact (ct127g hO C hm hg (c := c) (by omega) hD R).u fun h' p => ⟨rfl, p⟩
  exact r.u fun h' p => ⟨rfl, p⟩
end
/-! ### literals by numbers, clauses of them -/
def ins (x : Int) : List Int → List Int
  | [] => [x]
  | y :: l => if x.natAbs < y.natAbs then x :: y :: l else y :: ins x l
def isrt : List Int → List Int
  | [] => []
  | x :: l => ins x (isrt l)
end Go.Proofs.YtfgfhplgnfbaaaaDoor
/- Contracts of layer 20: clauses of literals by numbers. -/
namespace Go.Proofs.YtfgfhplgnfbaaaaDoor
open Go Go.Ev
theorem ins_perm (x : Int) : ∀ l : List Int, (ins x l).Perm (x :: l) := by
  intro l
  induction l with
  | nil => exact .refl _
  | cons y l ih =>
    simp only [ins]
    split
    · exact .refl _
    · exact ((List.Perm.cons y ih)).trans (.swap x y l)
theorem isrt_perm : ∀ l : List Int, (isrt l).Perm l := by
  intro l
  induction l with
  | nil => exact .refl _
  | cons x l ih => exact (ins_perm x _).trans (ih.cons x)
theorem ins_dif {x : Int} : ∀ {l : List Int}, Dif l → (∀ y ∈ l, y.natAbs ≠ x.natAbs) → Dif (ins x l) := by
  intro l
  induction l with
  | nil => intro _ _; exact List.pairwise_singleton ..
  | cons y l ih =>
    intro h hn
    obtain ⟨h1, h2⟩ := List.pairwise_cons.1 h
    simp only [ins]
    split
    · rename_i hlt
      refine List.pairwise_cons.2 ⟨fun z hz => ?_, h⟩
      rcases List.mem_cons.1 hz with rfl | hz
      · exact hlt
      · have := h1 z hz; omega
    · rename_i hlt
      refine List.pairwise_cons.2 ⟨fun z hz => ?_, ih h2 fun z hz => hn z (List.mem_cons_of_mem _ hz)⟩
      have := hn y (List.mem_cons_self ..)
      rcases List.mem_cons.1 ((ins_perm x l).subset hz) with rfl | hz
      · omega
      · exact h1 z hz
/-- No variable twice. -/
def Nod (l : List Int) : Prop := l.Pairwise fun x y => x.natAbs ≠ y.natAbs
theorem isrt_dif : ∀ {l : List Int}, Nod l → Dif (isrt l) := by
  intro l
  induction l with
  | nil => intro _; exact List.Pairwise.nil
  | cons x l ih =>
    intro h
    obtain ⟨h1, h2⟩ := List.pairwise_cons.1 h
    exact ins_dif (ih h2) fun y hy => fun e => h1 y ((isrt_perm l).subset hy) e.symm
theorem dif_eq : ∀ {l l' : List Int}, Dif l → Dif l' → l.Perm l' → l = l' := by
  intro l
  induction l with
  | nil => intro l' _ _ h; exact (List.nil_perm.1 h).symm
  | cons x l ih =>
    intro l' h h' p
    cases l' with
    | nil => exact (List.nil_perm.1 p.symm)
    | cons y l' =>
      obtain ⟨h1, h2⟩ := List.pairwise_cons.1 h
      obtain ⟨h3, h4⟩ := List.pairwise_cons.1 h'
      have e : x = y := by
        rcases List.mem_cons.1 (p.subset (List.mem_cons_self ..)) with e | hx
        · exact e
        rcases List.mem_cons.1 (p.symm.subset (List.mem_cons_self ..)) with e | hy
        · exact e.symm
        have := h1 y hy; have := h3 x hx; omega
      subst e
      rw [ih h2 h4 (List.Perm.cons_inv p)]
theorem Nod.perm {l l' : List Int} (h : Nod l) (p : l.Perm l') : Nod l' := (p.pairwise_iff fun h => Ne.symm h).1 h
/-- What is sorted by variables, none twice, is the sorted list. -/
theorem srt_eq {l l' : List Int} (hn : Nod l) (p : l'.Perm l) (s : l'.Pairwise fun x y => (x.natAbs : Int) ≤ (y.natAbs : Int)) : l' = isrt l := by
  refine dif_eq ?_ (isrt_dif hn) (p.trans (isrt_perm l).symm)
  have := List.Pairwise.and s (hn.perm p.symm)
  exact this.imp fun h => by omega
section
variable {O : CallF} (hO : Oth O)
include hO
theorem ct74n (c g : Nat) (h : Hp) : Ret Tryd.prog O 74 [.slice none 0 c, .func (.func g) #[] #[]] h fun v h' => v = undef ∧ Kp h.nx h h' := by
  refine rk74 _ _ _ _ _ _ (hO.short _ _ _ _ _ (by decide)) ?_
  unfold T74
  refine ⟨_, _, ct116 hO (n := 0) (by omega) h, ?_⟩
  have r : Ret Tryd.prog O 115 [.slice none 0 c, .int .i64 0, .int .i64 (Int.ofNat 0), .int .i64 (wrapF .i64 (0 + wrapF .i64 (byteI lenT 0))), .func (.func g) #[] #[]] h fun v h' => v = undef ∧ Kp h.nx h h' := by
    refine rk115 _ _ _ _ _ _ _ _ _ (hO _ _ _ (by decide)) ?_
    unfold T115
    refine I115_0.of _ _ _ _ _ _ _ _ _ _ _ _ _ _ _ _ _ ?_
    unfold T115_0
    refine vcond_t (by rfl) ?_
    have r2 : Ret Tryd.prog O 127 [.slice none 0 c, .int .i64 0, .int .i64 (Int.ofNat 0), .func (.func g) #[] #[]] h fun v h' => v = undef ∧ Kp h.nx h h' := by
      refine rk127 _ _ _ _ _ _ _ _ (hO _ _ _ (by decide)) ?_
      unfold T127
      refine I127_0.of _ _ _ _ _ _ _ _ _ _ _ _ ?_
      unfold T127_0
      exact vcond_f (by rfl) ⟨rfl, .refl _ _⟩
    exact r2.u fun h' p => ⟨rfl, p⟩
  exact r.u fun h' p => ⟨rfl, p⟩
end
end Go.Proofs.YtfgfhplgnfbaaaaDoor
/- Contracts of layer 20: all truths are tried. -/
namespace Go.Proofs.YtfgfhplgnfbaaaaDoor
open Go Go.Ev
/-- Is a literal true, with truths as the digits of a number? -/
def isB (m : Nat) (x : Int) : Bool := if x < 0 then !m.testBit (x.natAbs - 1) else m.testBit (x.natAbs - 1)
/-- A number whose digits stand the other way round. -/
def bitsF (n k : Nat) : Nat → Nat
  | 0 => 0
  | v + 1 => bitsF n k v ||| ((k / 2 ^ (n - 1 - v) % 2) * 2 ^ v)
end Go.Proofs.YtfgfhplgnfbaaaaDoor
/- Contract of layer 20: a proof is accepted, or not. -/
namespace Go.Proofs.YtfgfhplgnfbaaaaDoor
open Go Go.Ev
/-- The first line from which propagation of its contraries does not clash. -/
def accF (gs : List Int) : List (List Int) → List (List Int) → Nat → Option Nat
  | _, [], _ => none
  | cls, l :: ls, i => if (fromN (cls.map sideN) (gs ++ l.map fun x => -x)).2 = true then some i else accF gs (cls ++ [l]) ls (i + 1)
end Go.Proofs.YtfgfhplgnfbaaaaDoor
/- Lists of lists: what is appended of them, and their first ones. -/
namespace Go.Proofs.YtfgfhplgnfbaaaaDoor
open Go Go.Ev
theorem SlAt.take {α : Type} {w : Nat} {R : Enc α} {h : Hp} {a : Option Addr} {n : Nat} {xs : List α} (H : SlAt w R h a n xs) (k : Nat) (hk : k ≤ xs.length) : SlAt w R h a k (xs.take k) := by
  refine ⟨by simp; omega, ?_⟩
  rcases H.2 with ⟨rfl, rfl⟩ | ⟨b, off, c, e, m, rfl, h2, h3, h4, h5⟩
  · exact .inl ⟨by simp, rfl⟩
  · refine .inr ⟨b, off, c, e, m, rfl, h2, h3, ?_, fun i hi => ?_⟩
    · have : (xs.take k).length * w ≤ xs.length * w := Nat.mul_le_mul_right _ (by simp; omega)
      omega
    · have hi2 : i < xs.length := by simp at hi; omega
      have := h5 i hi2
      rw [List.getElem_take]
      exact this
/-- Cells that hold lists. -/
def Lis (h : Hp) (vs : List Value) (xs : List (List Int)) : Prop := vs.length = xs.length ∧ ∀ i (hi : i < xs.length), ∃ v, vs[i]? = some v ∧ EInts h xs[i] [v]
theorem Lis.nil (h : Hp) : Lis h [] [] := ⟨rfl, fun i hi => by simp at hi⟩
theorem Lis.app {h : Hp} {vs ws : List Value} {xs ys : List (List Int)} (A : Lis h vs xs) (B : Lis h ws ys) : Lis h (vs ++ ws) (xs ++ ys) := by
  refine ⟨by simp [A.1, B.1], fun i hi => ?_⟩
  by_cases h1 : i < xs.length
  · obtain ⟨v, e1, e2⟩ := A.2 i h1
    exact ⟨v, by rw [List.getElem?_append_left (by rw [A.1]; exact h1)]; exact e1, by rw [List.getElem_append_left h1]; exact e2⟩
  · obtain ⟨v, e1, e2⟩ := B.2 (i - xs.length) (by simp at hi; omega)
    exact ⟨v, by rw [List.getElem?_append_right (by rw [A.1]; omega), A.1]; exact e1, by rw [List.getElem_append_right (by omega)]; exact e2⟩
theorem Lis.up {h h' : Hp} (K : Kp h.nx h h') {vs : List Value} {xs : List (List Int)} (A : Lis h vs xs) : Lis h' vs xs := ⟨A.1, fun i hi => by
  obtain ⟨v, e1, e2⟩ := A.2 i hi
  exact ⟨v, e1, EInts.up _ _ _ _ K e2⟩⟩
theorem Lis.one {h : Hp} {vs : List Value} {xs : List (List Int)} (A : Lis h vs xs) : vs.all one = true := by
  rw [List.all_eq_true]
  intro v hv
  obtain ⟨i, hi, rfl⟩ := List.getElem_of_mem hv
  obtain ⟨w, e1, a, n, c, e2, _⟩ := A.2 i (by rw [← A.1]; exact hi)
  rw [List.getElem?_eq_getElem hi] at e1
  obtain rfl := Option.some.inj e1
  injection e2 with e2 _
  rw [e2]; rfl
theorem AccE.intss {h : Hp} {base : Nat} {e : TypeId} {a : Option Addr} {n c : Nat} {vs : List Value} {xs : List (List Int)} (A : AccE h base e 1 a n c vs) (L : Lis h vs xs) : IntssAt h a n xs := by
  rcases A with (⟨rfl, rfl, rfl, h4⟩ | ⟨o, rfl, rfl, h3, h4, h5, h6⟩) | ⟨h1, h2, h3, o, h4, h5, h6, e2, m, h7⟩
  · have : xs = [] := List.length_eq_zero_iff.1 (by rw [← L.1, h4]; rfl)
    subst this; exact SlAt.nil ..
  · refine ⟨by rw [← L.1]; omega, .inr ⟨o, 0, _, _, _, rfl, h5, h6, by rw [← L.1]; omega, fun i hi => ?_⟩⟩
    obtain ⟨v, e1, e2⟩ := L.2 i hi
    have hv : i < vs.length := by rw [L.1]; exact hi
    rw [List.getElem?_eq_getElem hv] at e1
    have e1 := Option.some.inj e1
    show EInts h xs[i] ((vs.drop (0 + i * 1)).take 1)
    rw [Nat.zero_add, Nat.mul_one, List.drop_eq_getElem_cons hv, List.take_succ_cons, List.take_zero, e1]
    exact e2
  · have : xs = [] := List.length_eq_zero_iff.1 (by rw [← L.1, h1]; rfl)
    subst this h2 h4
    exact ⟨rfl, .inr ⟨o, 0, _, _, _, rfl, h6, h7, by simp, fun i hi => by simp at hi⟩⟩
theorem AccE.ints {h : Hp} {base : Nat} {e : TypeId} {a : Option Addr} {n c : Nat} {xs : List Int} (H : AccE h base e 1 a n c (xs.map (Value.int .i64))) : IntsAt h a n xs := by
  rcases H with H | ⟨h1, h2, h3, o, h4, h5, h6, e2, m, h7⟩
  · exact AccI.ints H
  · have hx : xs = [] := by
      cases xs with
      | nil => rfl
      | cons x xs => cases h1
    subst hx h2 h4
    exact ⟨rfl, .inr ⟨o, 0, _, _, _, rfl, h6, h7, by simp, fun i hi => by simp at hi⟩⟩
/-- A list is appended. -/
theorem appE_ints {X : Hp} {g : List Nat} {base : Nat} {a : Option Addr} {n c : Nat} {xs ys : List Int} {a1 : Option Addr} {n1 c1 : Nat} (Z : AccE X base 3 1 a n c (xs.map (Value.int .i64))) (hb2 : base ≤ X.nx) (hg : ∀ q ∈ g ++ X.gd, q < base) (Y : IntsAt X a1 n1 ys) (hl : xs.length + ys.length < 100000) :
    ∃ a' n' c' h', appendV Tryd.prog (X.grd g) 32 32 (.slice a n c) (.slice a1 n1 c1) = some (.slice a' n' c', h') ∧ AccE h' base 3 1 a' n' c' ((xs ++ ys).map (Value.int .i64)) ∧ Kp base X (h'.rst X) ∧ X.nx ≤ h'.nx ∧ ∀ q, q < X.nx → a ≠ some ⟨q, 0, none⟩ → h'.get q = X.get q := by
  have Z' : AccE (X.grd g) base 3 1 a n c (xs.map (Value.int .i64)) := Z.keep (fun _ _ _ => rfl) (Nat.le_refl _)
  have hn := Y.1
  have hn2 := (AccE.ints Z).1
  have Y2 : IntsAt (X.grd g) a1 n1 ys := SlAt.keep Y (fun _ _ _ => rfl) (Nat.le_refl _) fun _ _ h => h
  obtain ⟨a', n', c', h', e1, Z1, en, P1⟩ := append_accE app32 Z' hb2 (fun q hq => hg q hq) ⟨_, _, _, rfl⟩ (ints_src (c2 := c1) Y2) (by simp; omega) (by simp [one]) (by omega) (by unfold big; omega)
  exact ⟨a', n', c', h', e1, by rw [List.map_append]; exact Z1, (Kp.refl base X).rst (g := g) (P1.kpE Z' hb2), P1.nx, fun q hq hne => P1.get q hq hne⟩
end Go.Proofs.YtfgfhplgnfbaaaaDoor
/- Contracts of layer 20: all models of a formula; lists cloned. -/
namespace Go.Proofs.YtfgfhplgnfbaaaaDoor
open Go Go.Ev
end Go.Proofs.YtfgfhplgnfbaaaaDoor
/- Contracts of layer 20: propagation once more, without the reference. -/
namespace Go.Proofs.YtfgfhplgnfbaaaaDoor
open Go Go.Ev
/-- A literal is true, by two sets of variables. -/
def trP (y n : Nat) (x : Int) : Prop := (0 < x ∧ y.testBit x.natAbs = true) ∨ (x < 0 ∧ n.testBit x.natAbs = true)
def tvP (y n : Nat) (x : Int) : Bool := if 0 < x then y.testBit x.natAbs else n.testBit x.natAbs
theorem tvP_iff {y n : Nat} {x : Int} (hx : x ≠ 0) : tvP y n x = true ↔ trP y n x := by
  unfold tvP trP
  by_cases h : 0 < x
  · rw [if_pos h]; constructor
    · exact fun e => .inl ⟨h, e⟩
    · rintro (⟨_, e⟩ | ⟨e, _⟩)
      · exact e
      · omega
  · rw [if_neg h]; constructor
    · exact fun e => .inr ⟨by omega, e⟩
    · rintro (⟨e, _⟩ | ⟨_, e⟩)
      · omega
      · exact e
theorem trP_add {y n : Nat} {x z : Int} (hx : Lit x) : trP (if 0 < x then y ||| 2 ^ x.natAbs else y) (if 0 < x then n else n ||| 2 ^ x.natAbs) z ↔ trP y n z ∨ z = x := by
  have h0 := hx.1
  unfold trP
  by_cases h : 0 < x
  · simp only [if_pos h, Nat.testBit_or, Nat.testBit_two_pow, Bool.or_eq_true, decide_eq_true_eq]
    constructor
    · rintro (⟨a, b | b⟩ | b)
      · exact .inl (.inl ⟨a, b⟩)
      · exact .inr (by omega)
      · exact .inl (.inr b)
    · rintro ((⟨a, b⟩ | b) | rfl)
      · exact .inl ⟨a, .inl b⟩
      · exact .inr b
      · exact .inl ⟨h, .inr rfl⟩
  · simp only [if_neg h, Nat.testBit_or, Nat.testBit_two_pow, Bool.or_eq_true, decide_eq_true_eq]
    constructor
    · rintro (b | ⟨a, b | b⟩)
      · exact .inl (.inl b)
      · exact .inl (.inr ⟨a, b⟩)
      · exact .inr (by omega)
    · rintro ((b | ⟨a, b⟩) | rfl)
      · exact .inl b
      · exact .inr ⟨a, .inl b⟩
      · exact .inr ⟨by omega, .inr rfl⟩
theorem or31 {y : Nat} {x : Int} (hy : y < 2 ^ 31) (hx : Lit x) : y ||| 2 ^ x.natAbs < 2 ^ 31 := Nat.or_lt_two_pow hy (Nat.pow_lt_pow_right (by decide) (by have := hx.2; omega))
section
variable {O : CallF} (hO : Oth O)
include hO
/-- What is true is derived; what was given is true. -/
structure PInv (cls : List (List Int)) (xs : List Int) (y n : Nat) : Prop where
  ly : y < 2 ^ 31
  ln : n < 2 ^ 31
  der : ∀ z, trP y n z → z ≠ 0 → Der cls xs z
  beg : ∀ x ∈ xs, trP y n x
  z0 : y.testBit 0 = false ∧ n.testBit 0 = false
omit hO in
theorem PInv.add {cls : List (List Int)} {xs : List Int} {y n : Nat} (I : PInv cls xs y n) {x : Int} (hx : Lit x) (hD : Der cls xs x) : PInv cls xs (if 0 < x then y ||| 2 ^ x.natAbs else y) (if 0 < x then n else n ||| 2 ^ x.natAbs) :=
  ⟨by split; exact or31 I.ly hx; exact I.ly, by split; exact I.ln; exact or31 I.ln hx, fun z hz h0 => by
    rcases (trP_add hx).1 hz with h | rfl
    · exact I.der z h h0
    · exact hD, fun z hz => (trP_add hx).2 (.inl (I.beg z hz)), by
    have h0 : (2 ^ x.natAbs).testBit 0 = false := by rw [Nat.testBit_two_pow]; have := hx.1; simp; omega
    split
    · exact ⟨by rw [Nat.testBit_or, h0, I.z0.1]; rfl, I.z0.2⟩
    · exact ⟨I.z0.1, by rw [Nat.testBit_or, h0, I.z0.2]; rfl⟩⟩
/-- A list of its own, with another one's elements. -/
def RCl (h : Hp) (xs : List Int) (a : Option Addr) (n c : Nat) (h' : Hp) : Prop := AccE h' h.nx 3 1 a n c (xs.map (Value.int .i64)) ∧ Kp h.nx h h'
theorem ct60 {h : Hp} (ok : h.Ok) {a0 : Option Addr} {n0 c0 : Nat} {xs : List Int} (X : IntsAt h a0 n0 xs) (hl : xs.length < 100000000) : Ret Tryd.prog O 60 [.slice a0 n0 c0] h fun v h' => ∃ a n c, v = .slice a n c ∧ RCl h xs a n c h' := by
  refine rk60 _ _ _ (hO _ _ _ (by decide)) ?_
  unfold T60
  cases a0 with
  | none =>
    have : xs = [] := by
      rcases X.2 with ⟨e, _⟩ | ⟨_, _, _, _, _, e, _⟩
      · exact e
      · cases e
    subst this
    exact ⟨_, _, _, rfl, .inl (Acc.nil ..), .refl _ _⟩
  | some q =>
    show let g1 : Hp := h.add (.cells [] 3 .fix); _
    intro g1
    have X1 : IntsAt g1 (some q) n0 xs := X.to _
    have Z : AccE g1 h.nx 3 1 (some ⟨h.nx, 0, none⟩) 0 0 [] := .inr ⟨rfl, rfl, rfl, h.nx, rfl, Nat.le_refl _, Nat.lt_succ_self _, _, _, get_add_same ..⟩
    have k1 : Kp h.nx h g1 := (Kp.refl _ _).add (Nat.le_refl _) _
    have src : srcCells g1 1 (.slice (some q) n0 c0) = some (xs.map (Value.int .i64), n0) := X1.src
    obtain ⟨a', n', c', h', e1, A, _, K⟩ := append_accE app32 Z (by show h.nx ≤ h.nx + 1; omega) (fun q hq => ok.gd q hq) ⟨_, _, _, rfl⟩ src (by rw [X.1]; simp) (by simp [one]) (by rw [X.1]; omega) (by rw [X.1]; unfold big; omega)
    exact ⟨a', n', c', h', e1, _, _, _, rfl, A, k1.trans (K.kpE Z (by show h.nx ≤ h.nx + 1; omega))⟩
omit hO in
theorem accE_ints {e : TypeId} {h : Hp} {base : Nat} {a : Option Addr} {n c : Nat} {xs : List Int} (H : AccE h base e 1 a n c (xs.map (Value.int .i64))) : IntsAt h a n xs := by
  rcases H with H | ⟨h1, h2, h3, o, h4, h5, h6, e2, m, h7⟩
  · exact AccI.ints H
  · have hx : xs = [] := by
      cases xs with
      | nil => rfl
      | cons x xs => cases h1
    subst hx h2 h4
    exact ⟨rfl, .inr ⟨o, 0, _, _, _, rfl, h6, h7, by simp, fun i hi => by simp at hi⟩⟩
end
end Go.Proofs.YtfgfhplgnfbaaaaDoor
/- Lists of lists that grow, their elements laid meanwhile. -/
namespace Go.Proofs.YtfgfhplgnfbaaaaDoor
open Go Go.Ev
/-- Where an element may lie: neither in what is written nor in the list that grows. -/
def VOk (lo base : Nat) (v : Value) : Prop := ∀ b off n c, v = .slice (some ⟨b, off, none⟩) n c → (b < lo ∨ base ≤ b) ∧ (b < base ∨ 0 < n)
def LL (lo base : Nat) (h : Hp) (a : Option Addr) (n c : Nat) (xss : List (List Int)) : Prop := ∃ vs, AccE h base 32 1 a n c vs ∧ Lis h vs xss ∧ ∀ v ∈ vs, VOk lo base v
theorem LL.nil (lo base : Nat) (h : Hp) : LL lo base h none 0 0 [] := ⟨[], .inl (Acc.nil ..), .nil h, fun _ h => by cases h⟩
theorem LL.intss {lo base : Nat} {h : Hp} {a : Option Addr} {n c : Nat} {xss : List (List Int)} (A : LL lo base h a n c xss) : IntssAt h a n xss := let ⟨_, A, L, _⟩ := A; AccE.intss A L
theorem LL.len {lo base : Nat} {h : Hp} {a : Option Addr} {n c : Nat} {xss : List (List Int)} (A : LL lo base h a n c xss) : n = xss.length := A.intss.1
theorem AccE.to {h : Hp} (h' : Hp) [k : Ft h h'] {base : Nat} {e : TypeId} {esz : Nat} {a : Option Addr} {n c : Nat} {xs : List Value} (H : AccE h base e esz a n c xs) : AccE h' base e esz a n c xs :=
  H.keep (fun o ho _ => k.get o ho) k.nx
/-- Something else changes. -/
theorem ints_sub {h h' : Hp} {a : Option Addr} {n : Nat} {xs : List Int} (X : IntsAt h a n xs) (hk : ∀ b off, a = some ⟨b, off, none⟩ → b < h.nx → h'.get b = h.get b) (hn : h.nx ≤ h'.nx) : IntsAt h' a n xs := by
  refine ⟨X.1, X.2.imp id ?_⟩
  rintro ⟨b, off, c, e, m, h1, h2, h3, h4, h5⟩
  exact ⟨b, off, c, e, m, h1, Nat.lt_of_lt_of_le h2 hn, by rw [hk b off h1 h2]; exact h3, h4, h5⟩
/-- An element lies elsewhere than the list. -/
theorem LL.ne {h : Hp} {base : Nat} {a : Option Addr} {n c : Nat} {vs : List Value} {xss : List (List Int)} (A : AccE h base 32 1 a n c vs) (L : Lis h vs xss) {a1 : Option Addr} {n1 : Nat} {ys : List Int} (Y : IntsAt h a1 n1 ys) {b off : Nat} (hb : a1 = some ⟨b, off, none⟩) (hn : b < base ∨ 0 < n1) : a ≠ some ⟨b, 0, none⟩ := by
  intro e
  have hlt := A.lt e
  have hn : 0 < n1 := by omega
  rcases Y.2 with ⟨_, e2⟩ | ⟨b', off', cs, e', m', h1, h2, h3, h4, h5⟩
  · rw [hb] at e2; cases e2
  · rw [hb] at h1; injection h1 with h1; injection h1 with h1 h1'; subst h1 h1'
    have hy := Y.1
    have h6 : (cs.drop (off + 0 * 1)).take 1 = [.int .i64 ys[0]] := h5 0 (by omega)
    have hc : cs[off]? = some (.int .i64 ys[0]) := by
      rw [Nat.zero_mul, Nat.add_zero] at h6
      have : ((cs.drop off).take 1)[0]? = some (.int .i64 ys[0]) := by rw [h6]; rfl
      simpa using this
    have hvs : cs = vs ∨ cs = [] := by
      rcases A with (⟨q, _⟩ | ⟨o, q, _, _, _, _, hg⟩) | ⟨_, _, _, o, q, _, _, e2, m, hg⟩
      · rw [q] at e; cases e
      · rw [q] at e; injection e with e; injection e with e; subst e; rw [h3] at hg; injection hg with hg; injection hg with hg; exact .inl hg
      · rw [q] at e; injection e with e; injection e with e; subst e; rw [h3] at hg; injection hg with hg; injection hg with hg; exact .inr hg
    rcases hvs with rfl | rfl
    · have hl : off < xss.length := by
        have := (List.getElem?_eq_some_iff.1 hc).1
        rw [← L.1]; exact this
      obtain ⟨v, hv, a2, n2, c2, e2, _⟩ := L.2 off hl
      rw [hv] at hc
      injection hc with hc
      subst hc
      cases e2
    · simp at hc
/-- What is appended to lies at a new number: also a row of no elements. -/
theorem append_newE {P : Program} {sT e : TypeId} {esz bytes : Nat} (T : AppT P sT e esz bytes) {h : Hp} {base : Nat} {a : Option Addr} {n c : Nat} {xs : List Value} (H : AccE h base e esz a n c xs)
    {x : Value} {ys : List Value} {k : Nat} (hx : ∃ a n c, x = .slice a n c) (hs : srcCells h esz x = some (ys, k)) (h1 : ys.all one = true) (hkp : 0 < k) {a' : Option Addr} {n' c' : Nat} {h' : Hp} (e1 : appendV P h sT sT (.slice a n c) x = some (.slice a' n' c', h')) : a' = some ⟨h.nx, 0, none⟩ := by
  rcases H with H | ⟨rfl, rfl, rfl, o, rfl, h2, h3, e2, m, h4⟩
  · exact append_new T H hx hs h1 hkp e1
  · obtain ⟨hz, info, z, hi, hzz, hrun⟩ := T.run
    rw [hrun h _ x hx, hs] at e1
    have hk0 : Nat.beq k 0 = false := by rw [Bool.eq_false_iff]; intro hh; have := Nat.eq_of_beq_eq_true hh; omega
    simp only [Option.bind_some, h1, cond_true, hk0, cond_false] at e1
    unfold appSome at e1
    have e3 : Nat.beq 0 unk = false := by
      rw [Bool.eq_false_iff]; intro hh; have := Nat.eq_of_beq_eq_true hh; have : unk = 18446744073709551616 := rfl; omega
    have e4 : Nat.ble (0 + k) 0 = false := by
      rw [Bool.eq_false_iff]; intro hh; have : 0 + k ≤ 0 := by simpa using hh
      omega
    have e5 : readAt h o 0 (0 * esz) = some [] := by rw [Nat.zero_mul, readAt_get h4 (by simp)]; rfl
    simp only [h4, e3, e4, e5, cond_false, Option.bind_some] at e1
    unfold appNew at e1
    obtain ⟨_, e1⟩ := cond_some e1
    injection e1 with e1
    injection e1 with e1 _
    injection e1 with e1 _
    exact e1.symm
/-- What an append to a list of lists leaves. -/
structure LLK (lo base : Nat) (g h' : Hp) (a : Option Addr) : Prop where
  kp : Kp base g h'
  st : ∀ {a3 : Option Addr} {n3 c3 : Nat} {zs : List Int}, IntsAt g a3 n3 zs → VOk lo base (.slice a3 n3 c3) → IntsAt h' a3 n3 zs
  oth : ∀ q, q < g.nx → a ≠ some ⟨q, 0, none⟩ → g.get q ≠ none → h'.get q = g.get q
theorem accE_live {h : Hp} {base : Nat} {e : TypeId} {esz : Nat} {a : Option Addr} {n c : Nat} {xs : List Value} (A : AccE h base e esz a n c xs) {o : Nat} (ha : a = some ⟨o, 0, none⟩) : h.get o ≠ none := by
  rcases A with (⟨h0, _⟩ | ⟨p, h0, _, _, _, _, h6⟩) | ⟨_, _, _, p, h0, _, _, _, _, h6⟩
  · rw [h0] at ha; cases ha
  · rw [h0] at ha; injection ha with ha; injection ha with ha; subst ha; rw [h6]; simp
  · rw [h0] at ha; injection ha with ha; injection ha with ha; subst ha; rw [h6]; simp
/-- The same outside of a region. -/
theorem LL.app {lo base : Nat} (hlo : lo ≤ base) {g : Hp} {a : Option Addr} {n c : Nat} {xss : List (List Int)} (A : LL lo base g a n c xss) {a1 : Option Addr} {n1 c1 : Nat} {ys : List Int} (Y : IntsAt g a1 n1 ys) (okY : VOk lo base (.slice a1 n1 c1)) (hb : base ≤ g.nx) (hg : GdLt g base) (hf : g.Fresh) (hn : n < 10000000)
    {K : Option Addr → Nat → Nat → Hp → Prop} (next : ∀ a' c' h', LL lo base h' a' (n + 1) c' (xss ++ [ys]) → (∀ p, a' = some ⟨p, 0, none⟩ → g.nx ≤ p) → LLK lo base g h' a → K a' (n + 1) c' h') :
    ∃ a' n' c' h', appendV Tryd.prog (g.add (.cells [.slice a1 n1 c1] 32 .fix)) 28 28 (.slice a n c) (.slice (some ⟨g.nx, 0, none⟩) 1 1) = some (.slice a' n' c', h') ∧ K a' n' c' h' := by
  have _ := hlo
  obtain ⟨vs, A, L, o⟩ := A
  have A2 : AccE (g.add (.cells [.slice a1 n1 c1] 32 .fix)) base 32 1 a n c vs := AccE.to _ A
  obtain ⟨a', n', c', h', e1, A', rfl, k⟩ := append_accE app28 A2 (by rw [nx_add]; omega) hg ⟨_, _, _, rfl⟩ (src_get (n := 1) (c := 1) (esz := 1) (off := 0) (read1 (i := 0) (v := .slice a1 n1 c1) (get_add_same ..) rfl)) rfl rfl (by omega) (by unfold big; omega)
  have _ := hf
  have k2 : Kp base g h' := ((Kp.refl base g).add hb _).trans (k.kpE A2 (by rw [nx_add]; omega))
  have st : ∀ {a3 : Option Addr} {n3 c3 : Nat} {zs : List Int}, IntsAt g a3 n3 zs → VOk lo base (.slice a3 n3 c3) → IntsAt h' a3 n3 zs := by
    intro a3 n3 c3 zs Z ok
    refine ints_sub Z (fun b off hb hlt => ?_) k2.nx
    have hne := LL.ne A L Z hb (ok b off n3 c3 (by rw [hb])).2
    rw [k.get b (by rw [nx_add]; omega) hne, get_add_ne (by omega)]
  have fr := append_newE app28 A2 ⟨_, _, _, rfl⟩ (src_get (n := 1) (c := 1) (esz := 1) (off := 0) (read1 (i := 0) (v := .slice a1 n1 c1) (get_add_same ..) rfl)) rfl Nat.one_pos e1
  refine ⟨a', _, c', h', e1, next a' c' _ ⟨vs ++ [.slice a1 n1 c1], A', Lis.app ⟨L.1, fun i hi => ?_⟩ ⟨rfl, fun i hi => ?_⟩, fun v hv => ?_⟩ (fun p hp => by rw [fr] at hp; injection hp with hp; injection hp with hp; have : (g.add (.cells [.slice a1 n1 c1] 32 .fix)).nx = g.nx + 1 := rfl; omega) ⟨k2, st, fun p hp hne _ => by rw [k.get p (by rw [nx_add]; omega) hne, get_add_ne (by omega)]⟩⟩
  · obtain ⟨v, hv, a3, n3, c3, e, X⟩ := L.2 i hi
    have e' : v = .slice a3 n3 c3 := by simpa using e
    exact ⟨v, hv, a3, n3, c3, e, st X (by rw [← e']; exact o v (List.mem_of_getElem? hv))⟩
  · have : i = 0 := by simpa using hi
    subst this
    exact ⟨_, rfl, a1, n1, c1, rfl, st Y okY⟩
  · rcases List.mem_append.1 hv with hv | hv
    · exact o v hv
    · obtain rfl := List.mem_singleton.1 hv; exact okY
/-- Something is laid at a number that was free. -/
theorem ints_lay {h : Hp} {q : Nat} (hq : h.get q = none) (x : Ob) {a : Option Addr} {n : Nat} {xs : List Int} (X : IntsAt h a n xs) : IntsAt (h.lay q x) a n xs := by
  refine ⟨X.1, X.2.imp id ?_⟩
  rintro ⟨b, off, c, e, m, h1, h2, h3, h4, h5⟩
  exact ⟨b, off, c, e, m, h1, h2, by rw [get_lay, if_neg (fun hh => by rw [hh, hq] at h3; cases h3)]; exact h3, h4, h5⟩
theorem LL.lay {lo base : Nat} {h : Hp} {q : Nat} (hq : h.get q = none) (x : Ob) {a : Option Addr} {n c : Nat} {xss : List (List Int)} (A : LL lo base h a n c xss) : LL lo base (h.lay q x) a n c xss := by
  obtain ⟨vs, A, L, o⟩ := A
  refine ⟨vs, A.keep (fun p _ hp => by rw [get_lay, if_neg (fun hh => accE_live A hp (by rw [hh]; exact hq))]) (Nat.le_refl _), ⟨L.1, fun i hi => ?_⟩, o⟩
  obtain ⟨v, hv, a', n', c', e, X⟩ := L.2 i hi
  exact ⟨v, hv, a', n', c', e, ints_lay hq x X⟩
end Go.Proofs.YtfgfhplgnfbaaaaDoor
/- Conditions of functions' code, printed by a program of ours. -/
namespace Go.Proofs.YtfgfhplgnfbaaaaDoor
open Go Go.Ev
set_option maxRecDepth 100000
set_option linter.unusedVariables false
/-! slices.Delete[[]int,int] -/
noncomputable def b59 : Code := (Tryd.f59.body).getD .skip
def lv59 : List (Nat × List Nat) := []
def T59 (O : CallF) (Q : Value → Hp → Prop) (a0 : Option Addr) (n0 : Nat) (c0 : Nat) (x1 : Int) (x2 : Int) (h : Hp) : Prop :=
  ∃ a1' n2' c3', sliceV Tryd.prog h 32 (.slice a0 n0 c0) (some (.int .i64 x1)) (some (.int .i64 x2)) (some (.int .i64 (Int.ofNat n0))) = some (.slice a1' n2' c3') ∧
  vcond (eqI x1 x2)
  (Q (.slice a0 n0 c0) h)
  (let g4 : Hp := h.rsv 8
  ∃ a5' n6' c7', sliceV Tryd.prog g4 32 (.slice a0 n0 c0) none (some (.int .i64 x1)) none = some (.slice a5' n6' c7') ∧
  ∃ a8' n9' c10', sliceV Tryd.prog g4 32 (.slice a0 n0 c0) (some (.int .i64 x2)) none none = some (.slice a8' n9' c10') ∧
  ∃ a11' n12' c13' h14', appendV Tryd.prog (g4.grd []) 32 32 (.slice a5' n6' c7') (.slice a8' n9' c10') = some (.slice a11' n12' c13', h14') ∧
  let g15 : Hp := h14'.rst g4
  ∃ a16' n17' c18', sliceV Tryd.prog g15 32 (.slice a11' n12' c13') (some (.int .i64 (Int.ofNat n12'))) (some (.int .i64 (Int.ofNat n0))) none = some (.slice a16' n17' c18') ∧
  ∃ h19', clearV Tryd.prog g15 32 (.slice a16' n17' c18') = some (undef, h19') ∧
  Q (.slice a11' n12' c13') h19')
theorem rk59 {O Q} (a0 n0 c0 x1 x2) {h : Hp} (hO : O 59 [(.slice a0 n0 c0), (.int .i64 x1), (.int .i64 x2)] h = none) (hh : T59 O Q a0 n0 c0 x1 x2 h) : Ret Tryd.prog O 59 [(.slice a0 n0 c0), (.int .i64 x1), (.int .i64 x2)] h Q :=
  .of (c := b59) Tryd.func59 (by kernel_rfl) hO (V_ok (tb := lv59) (cuts := []) 500 (Eq.mp (by kernel_rfl) hh))
/-! sward/sat.needed -/
noncomputable def b97 : Code := (Tryd.f97.body).getD .skip
noncomputable def stk97_0 : List KI := [.code (sub [1, 1, 0, 1, 0] b97), .blk 0, .code (sub [1, 1, 1] b97)]
def lv97 : List (Nat × List Nat) := [(0, [1, 4, 5, 6])]
def I97_0 (O : CallF) (Q : Value → Hp → Prop) (a0 : Option Addr) (n0 : Nat) (c0 : Nat) (g1 : Nat) (fi1 : Array Value) (ca1 : Array Value) (g1s : Nat) (fi1s : Array Value) (ca1s : Array Value) (a5 : Option Addr) (n5 : Nat) (c5 : Nat) (x6 : Int) (h : Hp) : Prop := RKL Tryd.prog O Tryd.f97 stk97_0 28 [1, 4, 5, 6] [(.func (.func g1s) fi1s ca1s), (.slice none 0 0), (.slice a5 n5 c5), (.int .i64 x6)] h Q
def T97 (O : CallF) (Q : Value → Hp → Prop) (a0 : Option Addr) (n0 : Nat) (c0 : Nat) (g1 : Nat) (fi1 : Array Value) (ca1 : Array Value) (h : Hp) : Prop :=
  ∃ a1' n2' c3', ∃ h4', EvC Tryd.prog O 60 [(.slice a0 n0 c0)] h (.slice a1' n2' c3') h4' ∧
  I97_0 O Q a0 n0 c0 g1 fi1 ca1 g1 fi1 ca1 a1' n2' c3' (wrapF .i64 ((Int.ofNat n2') - 1)) h4'
theorem rk97 {O Q} (a0 n0 c0 g1 fi1 ca1) {h : Hp} (hO : O 97 [(.slice a0 n0 c0), (.func (.func g1) fi1 ca1)] h = none) (hh : T97 O Q a0 n0 c0 g1 fi1 ca1 h) : Ret Tryd.prog O 97 [(.slice a0 n0 c0), (.func (.func g1) fi1 ca1)] h Q :=
  .of (c := b97) Tryd.func97 (by kernel_rfl) hO (V_ok (tb := lv97) (cuts := []) 500 (Eq.mp (by kernel_rfl) hh))
def T97_0 (O : CallF) (Q : Value → Hp → Prop) (a0 : Option Addr) (n0 : Nat) (c0 : Nat) (g1 : Nat) (fi1 : Array Value) (ca1 : Array Value) (g1s : Nat) (fi1s : Array Value) (ca1s : Array Value) (a5 : Option Addr) (n5 : Nat) (c5 : Nat) (x6 : Int) (h : Hp) : Prop :=
  vcond (!(ltI x6 0))
  (∃ a101' n102' c103', ∃ h104', EvC Tryd.prog O 60 [(.slice a5 n5 c5)] h (.slice a101' n102' c103') h104' ∧
  ∃ a105' n106' c107', ∃ h108', EvC Tryd.prog O 59 [(.slice a101' n102' c103'), (.int .i64 x6), (.int .i64 (wrapF .i64 (x6 + 1)))] h104' (.slice a105' n106' c107') h108' ∧
  ∃ q109', ∃ h110', EvC Tryd.prog O g1s (fi1s.toList ++ [(.slice a105' n106' c107')] ++ ca1s.toList) h108' (.bool q109') h110' ∧
  vcond q109'
  (I97_0 O Q a0 n0 c0 g1 fi1 ca1 g1s fi1s ca1s a105' n106' c107' (wrapF .i64 (x6 - 1)) h110')
  (I97_0 O Q a0 n0 c0 g1 fi1 ca1 g1s fi1s ca1s a5 n5 c5 (wrapF .i64 (x6 - 1)) h110'))
  (Q (.slice a5 n5 c5) h)
theorem I97_0.of {O Q} (a0 n0 c0 g1 fi1 ca1 g1s fi1s ca1s a5 n5 c5 x6) {h : Hp} (hh : T97_0 O Q a0 n0 c0 g1 fi1 ca1 g1s fi1s ca1s a5 n5 c5 x6 h) : I97_0 O Q a0 n0 c0 g1 fi1 ca1 g1s fi1s ca1s a5 n5 c5 x6 h :=
  RKL.of (tb := lv97) (cuts := []) 500 fun _ => Eq.mp (by kernel_rfl) hh
/-! sward/swardref20.clashes -/
noncomputable def b100 : Code := (Tryd.f100.body).getD .skip
def lv100 : List (Nat × List Nat) := []
def T100 (O : CallF) (Q : Value → Hp → Prop) (x0_0 : Int) (a0_1 : Option Addr) (n0_1 : Nat) (c0_1 : Nat) (a1 : Option Addr) (n1 : Nat) (c1 : Nat) (h : Hp) : Prop :=
  let g1 : Hp := h.add (.cells [(.int .i64 x0_0), (.slice a0_1 n0_1 c0_1)] 30 .fix)
  ∃ x2', readAt g1 h.nx 0 1 = some [(.int .i64 x2')] ∧
  ∃ a3' n4' c5', readAt g1 h.nx 1 1 = some [(.slice a3' n4' c5')] ∧
  ∃ a6' n7' c8', ∃ q9', ∃ h10', EvC Tryd.prog O 92 [(.int .i64 x2'), (.slice a3' n4' c5'), (.slice a1 n1 c1)] g1 (.tuple #[(.slice a6' n7' c8'), (.bool q9')]) h10' ∧
  Q (.bool (!q9')) h10'
theorem rk100 {O Q} (x0_0 a0_1 n0_1 c0_1 a1 n1 c1) {h : Hp} (hO : O 100 [(.agg #[(.int .i64 x0_0), (.slice a0_1 n0_1 c0_1)]), (.slice a1 n1 c1)] h = none) (hh : T100 O Q x0_0 a0_1 n0_1 c0_1 a1 n1 c1 h) : Ret Tryd.prog O 100 [(.agg #[(.int .i64 x0_0), (.slice a0_1 n0_1 c0_1)]), (.slice a1 n1 c1)] h Q :=
  .of (c := b100) Tryd.func100 (by kernel_rfl) hO (V_ok (tb := lv100) (cuts := []) 500 (Eq.mp (by kernel_rfl) hh))
/-! sward/swardref20.without -/
noncomputable def b101 : Code := (Tryd.f101.body).getD .skip
def lv101 : List (Nat × List Nat) := []
def T101 (O : CallF) (Q : Value → Hp → Prop) (a0 : Option Addr) (n0 : Nat) (c0 : Nat) (x1 : Int) (h : Hp) : Prop :=
  let g1 : Hp := h.rsv 11
  ∃ a2' n3' c4', sliceV Tryd.prog g1 32 (.slice a0 n0 c0) none (some (.int .i64 x1)) none = some (.slice a2' n3' c4') ∧
  ∃ a5' n6' c7', sliceV Tryd.prog g1 32 (.slice a0 n0 c0) (some (.int .i64 (wrapF .i64 (x1 + 1)))) none none = some (.slice a5' n6' c7') ∧
  vreq (g1.free (h.nx + 0))
  (let g8 : Hp := g1.lay (h.nx + 0) (.cells [] 3 .fix)
  ∃ a9' n10' c11' h12', appendV Tryd.prog (g8.grd (blocksOf (.slice a0 n0 c0) ++ [])) 32 32 (.slice (some ⟨(h.nx + 0), 0, none⟩) 0 0) (.slice a2' n3' c4') = some (.slice a9' n10' c11', h12') ∧
  let g13 : Hp := h12'.rst g8
  ∃ a14' n15' c16' h17', appendV Tryd.prog (g13.grd []) 32 32 (.slice a9' n10' c11') (.slice a5' n6' c7') = some (.slice a14' n15' c16', h17') ∧
  let g18 : Hp := h17'.rst g13
  Q (.slice a14' n15' c16') g18)
theorem rk101 {O Q} (a0 n0 c0 x1) {h : Hp} (hO : O 101 [(.slice a0 n0 c0), (.int .i64 x1)] h = none) (hh : T101 O Q a0 n0 c0 x1 h) : Ret Tryd.prog O 101 [(.slice a0 n0 c0), (.int .i64 x1)] h Q :=
  .of (c := b101) Tryd.func101 (by kernel_rfl) hO (V_ok (tb := lv101) (cuts := []) 500 (Eq.mp (by kernel_rfl) hh))
/-! sward/swardref20.told -/
noncomputable def b99 : Code := (Tryd.f99.body).getD .skip
noncomputable def stk99_0 : List KI := [.code (sub [1, 0, 1, 0] b99), .blk 0, .code (sub [1, 1] b99)]
def lv99 : List (Nat × List Nat) := [(0, [0, 1, 4, 5])]
def I99_0 (O : CallF) (Q : Value → Hp → Prop) (a0 : Option Addr) (n0 : Nat) (c0 : Nat) (x1 : Int) (q4 : Bool) (x5 : Int) (h : Hp) : Prop := RKL Tryd.prog O Tryd.f99 stk99_0 19 [0, 1, 4, 5] [(.slice a0 n0 c0), (.int .i64 x1), (.bool q4), (.int .i64 x5)] h Q
def T99 (O : CallF) (Q : Value → Hp → Prop) (a0 : Option Addr) (n0 : Nat) (c0 : Nat) (x1 : Int) (h : Hp) : Prop :=
  I99_0 O Q a0 n0 c0 x1 false 0 h
theorem rk99 {O Q} (a0 n0 c0 x1) {h : Hp} (hO : O 99 [(.slice a0 n0 c0), (.int .i64 x1)] h = none) (hh : T99 O Q a0 n0 c0 x1 h) : Ret Tryd.prog O 99 [(.slice a0 n0 c0), (.int .i64 x1)] h Q :=
  .of (c := b99) Tryd.func99 (by kernel_rfl) hO (V_ok (tb := lv99) (cuts := []) 500 (Eq.mp (by kernel_rfl) hh))
def T99_0 (O : CallF) (Q : Value → Hp → Prop) (a0 : Option Addr) (n0 : Nat) (c0 : Nat) (x1 : Int) (q4 : Bool) (x5 : Int) (h : Hp) : Prop :=
  vcond (ltI x5 (Int.ofNat n0))
  (isNat x5 fun n101' =>
  isAddr a0 fun b102' f103' =>
  vreq (Nat.blt n101' n0)
  (∃ x104', readAt h b102' (f103' + (n101' * 1)) 1 = some [(.int .i64 x104')] ∧
  ∃ x105', ∃ h106', EvC Tryd.prog O 98 [(.int .i64 x104')] h (.int .i64 x105') h106' ∧
  vcond (eqI x105' x1)
  (Q (.bool true) h106')
  (I99_0 O Q a0 n0 c0 x1 q4 (wrapF .i64 (x5 + 1)) h106')))
  (Q (.bool false) h)
theorem I99_0.of {O Q} (a0 n0 c0 x1 q4 x5) {h : Hp} (hh : T99_0 O Q a0 n0 c0 x1 q4 x5 h) : I99_0 O Q a0 n0 c0 x1 q4 x5 h :=
  RKL.of (tb := lv99) (cuts := []) 500 fun _ => Eq.mp (by kernel_rfl) hh
/-! sward/swardlaw20.SatProves -/
end Go.Proofs.YtfgfhplgnfbaaaaDoor
/- The walk of search: slices.Delete of one, what is needed. -/
namespace Go.Proofs.YtfgfhplgnfbaaaaDoor
open Go Go.Ev
theorem writeAt_some {h : Hp} {o off : Nat} {vs : List Value} (hc : canW h o off vs = true) : writeAt h o off vs = some (h.wr o off vs) := by
  unfold canW at hc; unfold Hp.wr
  cases hw : writeAt h o off vs with
  | none => rw [hw] at hc; cases hc
  | some h' => rfl
theorem seen_g {h : Hp} {o n : Nat} {cs : List Value} (H : h.get o = some (.cells cs 3 .grow)) : Ev.seen h 3 1 (.slice (some ⟨o, 0, none⟩) n unk) = some cs.length := by
  simp only [Ev.seen, Nat.beq_refl, cond_true, H]
  have e5 : Nat.blt 0 1 = true := rfl
  rw [e5]
  show some ((cs.length - 0) / 1) = _
  rw [Nat.sub_zero, Nat.div_one]
theorem sz3 : sz Tryd.prog 3 = some 1 := by kernel_rfl
/-- A part of a list that grows. -/
theorem slice_g {h : Hp} {o n l hh : Nat} {cs : List Value} (H : h.get o = some (.cells cs 3 .grow)) {lo hi : Option Value} (elo : boundL lo hh = some l) (ehi : boundH hi none cs.length n = some hh) :
    sliceV Tryd.prog h 32 (.slice (some ⟨o, 0, none⟩) n unk) lo hi none = some (.slice (some ⟨o, l, none⟩) (hh - l) unk) := by
  have e4 : bounds n cs.length lo hi none = some (l, hh, cs.length) := by
    unfold bounds boundM; simp only [Option.bind_some]; rw [ehi, Option.bind_some, elo]; rfl
  unfold sliceV
  rw [Tryd.underlying32]
  simp only [sz3, bind, Option.bind_some, seen_g H, e4]
  rw [Nat.beq_refl]; simp
theorem slice_m {h : Hp} {o n l hh m : Nat} {cs : List Value} (H : h.get o = some (.cells cs 3 .grow)) {lo hi mx : Option Value} (em : boundM mx cs.length = some m) (hx : ∃ v, mx = some v) (elo : boundL lo hh = some l) (ehi : boundH hi mx m n = some hh) (hm : m < unk) :
    ∃ off, sliceV Tryd.prog h 32 (.slice (some ⟨o, 0, none⟩) n unk) lo hi mx = some (.slice (some ⟨o, off, none⟩) (hh - l) (m - l)) ∧ (l = 0 → off = 0) := by
  obtain ⟨v, rfl⟩ := hx
  have e4 : bounds n cs.length lo hi (some v) = some (l, hh, m) := by
    unfold bounds; rw [em]; simp only [Option.bind_some]; rw [ehi, Option.bind_some, elo]; rfl
  refine ⟨bif Nat.beq m l then 0 else 0 + l * 1, ?_, fun hl => ?_⟩
  · unfold sliceV
    rw [Tryd.underlying32]
    simp only [sz3, bind, Option.bind_some, seen_g H, e4]
    rw [Nat.beq_refl, blt_t hm]; simp
  · subst hl
    cases Nat.beq m 0 <;> rfl
theorem bound_i {k m : Nat} (h : k ≤ m) : boundV (.int .i64 (Int.ofNat k)) m = some k := by
  unfold boundV; simp only; rw [ble_t h]; rfl
/-- What stands behind an address, cell by cell. -/
theorem ints_of_get {h : Hp} {o : Nat} {cs : List Value} {e : TypeId} {m : Md} {xs : List Int} (H : h.get o = some (.cells cs e m)) (ho : o < h.nx) (hl : xs.length ≤ cs.length) (hx : ∀ i (hi : i < xs.length), cs[i]? = some (.int .i64 xs[i])) : IntsAt h (some ⟨o, 0, none⟩) xs.length xs := by
  refine ⟨rfl, .inr ⟨o, 0, _, _, _, rfl, ho, H, by omega, fun i hi => ?_⟩⟩
  show (cs.drop (0 + i * 1)).take 1 = [.int .i64 xs[i]]
  have h1 := hx i hi
  obtain ⟨h2, h3⟩ := List.getElem?_eq_some_iff.1 h1
  rw [Nat.zero_add, Nat.mul_one, List.drop_eq_getElem_cons h2, h3]; rfl
theorem all_one (xs : List Int) : (xs.map (Value.int .i64)).all one = true := by
  rw [List.all_eq_true]; intro v hv; obtain ⟨x, _, rfl⟩ := List.mem_map.1 hv; rfl
section
variable {O : CallF} (hO : Oth O)
include hO
/-- One element is taken out of a list of its own. -/
theorem ct59 {h : Hp} {o i : Nat} {xs : List Int} (H : h.get o = some (.cells (xs.map (Value.int .i64)) 3 .grow)) (ho : o < h.nx) (hg : h.guarded o = false) (hi : i < xs.length) (hl : xs.length < 1000000) :
    Ret Tryd.prog O 59 [.slice (some ⟨o, 0, none⟩) xs.length unk, .int .i64 (Int.ofNat i), .int .i64 (Int.ofNat (i + 1))] h fun v h' => v = .slice (some ⟨o, 0, none⟩) (xs.length - 1) unk ∧ IntsAt h' (some ⟨o, 0, none⟩) (xs.length - 1) (xs.eraseIdx i) ∧ ∀ b, b ≤ o → b ≤ h.nx → Kp b h h' := by
  have hb : big = 4611686018427387904 := rfl
  have hu : unk = 18446744073709551616 := rfl
  refine rk59 _ _ _ _ _ (hO _ _ _ (by decide)) ?_
  unfold T59
  have hcl : (xs.map (Value.int .i64)).length = xs.length := List.length_map ..
  obtain ⟨off, e1, _⟩ := slice_m (n := xs.length) (l := i) (hh := i + 1) H (lo := some (.int .i64 (Int.ofNat i))) (hi := some (.int .i64 (Int.ofNat (i + 1)))) (mx := some (.int .i64 (Int.ofNat xs.length))) (bound_i (Nat.le_of_eq hcl.symm)) ⟨_, rfl⟩ (bound_i (by omega)) (bound_i (by omega)) (by omega)
  refine ⟨_, _, _, e1, vcond_f (eqI_f (by simp only [Int.ofNat_eq_natCast, ne_eq]; omega)) ?_⟩
  intro g4
  have H4 : g4.get o = some (.cells (xs.map (Value.int .i64)) 3 .grow) := H
  refine ⟨_, _, _, slice_g (l := 0) (hh := i) H4 rfl (bound_i (by rw [hcl]; omega)), _, _, _, slice_g (l := i + 1) (hh := xs.length) H4 (bound_i (by omega)) rfl, ?_⟩
  have T := (app32 : AppT Tryd.prog 32 3 1 8)
  obtain ⟨hz, info, z, hi', hzz, hrun⟩ := T.run
  have hrd : readAt (g4.grd []) o (i + 1) ((xs.length - (i + 1)) * 1) = some ((xs.drop (i + 1)).map (Value.int .i64)) := by
    rw [readAt_get (h := g4.grd []) H4 (by rw [hcl]; omega), ← List.map_drop, Nat.mul_one, List.take_of_length_le (by simp)]
  have hk4 : ∀ b, b ≤ o → b ≤ h.nx → Kp b h g4 := fun b _ _ => (Kp.refl _ _).rsv 8
  -- the part behind it is moved forward
  have main : ∃ h', appendV Tryd.prog (g4.grd []) 32 32 (.slice (some ⟨o, 0, none⟩) (i - 0) unk) (.slice (some ⟨o, i + 1, none⟩) (xs.length - (i + 1)) unk) = some (.slice (some ⟨o, 0, none⟩) (xs.length - 1) unk, h') ∧ ∃ cs, h'.get o = some (.cells cs 3 .grow) ∧ cs.length = xs.length ∧ (∀ k (hk : k < (xs.eraseIdx i).length), cs[k]? = some (.int .i64 (xs.eraseIdx i)[k])) ∧ h'.nx = g4.nx ∧ h'.gd = g4.gd ∧ ∀ b, b ≤ o → b ≤ h.nx → Kp b g4 h' := by
    rw [hrun _ _ _ ⟨_, _, _, rfl⟩, src_get hrd]
    simp only [Option.bind_some, show ((xs.drop (i + 1)).map (Value.int .i64)).all one = true from all_one _, cond_true]
    rcases Nat.lt_or_ge (i + 1) xs.length with hlt | hge
    · have hk0 : Nat.beq (xs.length - (i + 1)) 0 = false := by rw [Bool.eq_false_iff]; intro hh; have := Nat.eq_of_beq_eq_true hh; omega
      simp only [hk0, cond_false]
      have hH : (g4.grd []).get o = some (.cells (xs.map (Value.int .i64)) 3 .grow) := H4
      have hcw : canW (g4.grd []) o i ((xs.drop (i + 1)).map (Value.int .i64)) = true := canW_t hH (by decide) hg (by simp; omega) (all_one _)
      have hw := writeAt_some hcw
      refine ⟨(g4.grd []).wr o i ((xs.drop (i + 1)).map (Value.int .i64)), ?_, _, wr_get hH (by decide) hg (by simp; omega) (all_one _), by rw [putAt_length, hcl], fun k hk => ?_, by rw [nx_wr]; rfl, by rw [gd_wr]; rfl, fun b h1 h2 => ((Kp.refl b g4)).wr h1 _ _⟩
      · unfold appSome
        have e5 : Nat.beq unk unk = true := Nat.beq_refl _
        have e6 : Nat.beq 3 3 = true := rfl
        have e7 : Nat.ble (0 + (i - 0 + (xs.length - (i + 1))) * 1) (xs.map (Value.int .i64)).length = true := by rw [hcl]; exact ble_t (by omega)
        simp only [hH, e5, e6, e7, cond_true, isGrow, Bool.and_self]
        rw [show 0 + (i - 0) * 1 = i by omega, hw, show i - 0 + (xs.length - (i + 1)) = xs.length - 1 by omega]; rfl
      · rw [putAt_get _ _ _ (by simp; omega)]
        have hkl : k < xs.length - 1 := by rw [List.length_eraseIdx_of_lt hi] at hk; exact hk
        rw [List.getElem_eraseIdx]
        simp only [List.length_map, List.length_drop]
        by_cases h1 : k < i
        · rw [if_neg (by omega)]
          simp [h1, show k < xs.length by omega]
        · rw [if_pos (by omega)]
          simp [h1, List.getElem?_eq_getElem (show i + 1 + (k - i) < xs.length by omega), show i + 1 + (k - i) = k + 1 by omega]
    · have hin : i + 1 = xs.length := by omega
      have e8 : xs.length - (i + 1) = 0 := by omega
      rw [e8]
      refine ⟨g4.grd [], ?_, _, H4, hcl, fun k hk => ?_, rfl, rfl, fun b _ _ => Kp.refl b g4⟩
      · show (bif Nat.ble (i - 0) unk then _ else _) = _
        rw [ble_t (by omega), show i - 0 = xs.length - 1 by omega]; rfl
      · have hkl : k < xs.length - 1 := by rw [List.length_eraseIdx_of_lt hi] at hk; exact hk
        rw [List.getElem_eraseIdx]
        simp [show k < i by omega, show k < xs.length by omega]
  obtain ⟨h', e9, cs, hcs, hcl2, hcx, hnx, hgd, hk⟩ := main
  refine ⟨_, _, _, _, e9, ?_⟩
  intro g15
  have H15 : g15.get o = some (.cells cs 3 .grow) := hcs
  have hg15 : g15.guarded o = false := hg
  refine ⟨_, _, _, slice_g (l := xs.length - 1) (hh := xs.length) H15 (bound_i (by omega)) (bound_i (by rw [hcl2]; omega)), ?_⟩
  have hcw : canW g15 o (xs.length - 1) [.int .i64 0] = true := canW_t H15 (by decide) hg15 (by simp; omega) rfl
  have e10 : elemT Tryd.prog 32 = some 3 := by kernel_rfl
  have e11 : ((Tryd.prog.info? 3).bind fun info => info.zero) = some (.int .i64 0) := by kernel_rfl
  obtain ⟨info3, e12, e13⟩ := Option.bind_eq_some_iff.1 e11
  refine ⟨g15.wr o (xs.length - 1) [.int .i64 0], ?_, rfl, ?_, fun b h1 h2 => (hk4 b h1 h2).trans (Kp.wr (h' := g15) ⟨(hk b h1 h2).get, (hk b h1 h2).nx, rfl, (hk b h1 h2).fr⟩ h1 _ _)⟩
  · unfold clearV
    simp only [e10, Option.bind_some, e12, e13, show xs.length - (xs.length - 1) = 1 by omega]
    show (bif Nat.beq 1 0 then _ else bif [Value.int .i64 0].all _ then _ else _) = _
    have : Nat.beq 1 0 = false := rfl
    rw [this, cond_false, show ([Value.int .i64 0].all fun v => flat v && one v) = true from rfl, cond_true]
    show (writeAt g15 o (xs.length - 1) [.int .i64 0]).map _ = _
    rw [writeAt_some hcw]; rfl
  · have hel : (xs.eraseIdx i).length = xs.length - 1 := List.length_eraseIdx_of_lt hi
    have := ints_of_get (xs := xs.eraseIdx i) (wr_get H15 (by decide) hg15 (vs := [.int .i64 0]) (off := xs.length - 1) (by simp; omega) rfl) (by rw [nx_wr]; show o < h'.nx; rw [hnx]; show o < h.nx + 8; omega) (by rw [putAt_length]; omega) fun k hk => by
      rw [putAt_get _ _ _ (by simp; omega), if_neg (by omega)]; exact hcx k hk
    rw [hel] at this; exact this
end
/-- What is left of a list, from the last one on, without which a clash remains. -/
def needF (cl : List Int → Bool) : Nat → List Int → List Int
  | 0, out => out
  | i + 1, out => if cl (out.eraseIdx i) = true then needF cl i (out.eraseIdx i) else needF cl i out
def clashN (ss : List (Nat × Nat)) (gs l : List Int) : Bool := !(fromN ss (gs ++ l)).2
section
variable {O : CallF} (hO : Oth O)
include hO
theorem lp97 {b : Nat} {h₀ : Hp} (ok : h₀.Ok) {vars left : Int} {a a1 a2 : Option Addr} {n c n1 c1 n2 c2 : Nat} (hb : h₀.get b = some (.cells (baseC vars a n c a1 n1 c1 left a2 n2 c2) 128 .fix)) (hbn : b < h₀.nx) {ss : List (Nat × Nat)} (H : SidesAt2 h₀ a n ss) (hl : ss.length < 1000000) (hss : ∀ p ∈ ss, p.1 < 2 ^ 30 ∧ p.2 < 2 ^ 30)
    {gs : List Int} (G : IntsAt h₀ a1 n1 gs) (hgl : gs.length < 1000000) (hg : ∀ x ∈ gs, Lit x) {a0 : Option Addr} {n0 c0 : Nat} {r : List Int} :
    ∀ (i : Nat) {out : List Int} {x6 : Int} {h : Hp} {a5 : Option Addr} {n5 c5 : Nat}, x6 = Int.ofNat i - 1 → i ≤ out.length → out.length < 1000000 → (∀ x ∈ out, Lit x) → IntsAt h a5 n5 out → Kp h₀.nx h₀ h → r = needF (clashN ss gs) i out →
      I97_0 O (fun v h' => ∃ a' n' c', v = .slice a' n' c' ∧ IntsAt h' a' n' r ∧ Kp h₀.nx h₀ h') a0 n0 c0 95 #[.pointer (some ⟨b, 0, none⟩)] #[] 95 #[.pointer (some ⟨b, 0, none⟩)] #[] a5 n5 c5 x6 h := by
  intro i
  induction i with
  | zero =>
    intro out x6 h a5 n5 c5 hx _ _ _ X kp hr
    subst hx
    refine I97_0.of (hh := ?_) ..
    unfold T97_0
    exact vcond_f rfl ⟨_, _, _, rfl, by rw [hr]; exact X, kp⟩
  | succ i ih =>
    intro out x6 h a5 n5 c5 hx hi hol hlit X kp hr
    obtain rfl : x6 = Int.ofNat i := by rw [hx]; simp only [Int.ofNat_eq_natCast]; omega
    have okh := ok.kp kp
    have f0 := kp.ex (Nat.le_refl _)
    refine I97_0.of (hh := ?_) ..
    unfold T97_0
    refine vcond_t (by rw [show ltI (Int.ofNat i) 0 = false from rfl]; rfl) ?_
    refine (ct60 hO okh X (by omega)).s fun a3 n3 c3 h3 ⟨A3, K3⟩ => ?_
    have hne : out.map (Value.int .i64) ≠ [] := fun e => by
      have : out.length = 0 := by simpa using congrArg List.length e
      omega
    rcases A3 with (⟨_, _, _, e⟩ | ⟨o, rfl, rfl, q3, q4, q5, q6⟩) | ⟨e, _⟩
    · exact absurd e hne
    · obtain rfl : n3 = out.length := by simpa using q3
      obtain ⟨v, h4, e4, rfl, Y, K4⟩ := ct59 hO (h := h3) (i := i) q6 q5 (GdLt.free (GdLt.kp okh.lt K3) q4) (by omega) hol
      rw [wrap_succ (by omega)]
      have K34 : Kp h.nx h h4 := K3.trans (K4 h.nx q4 K3.nx)
      have kp4 : Kp h₀.nx h₀ h4 := kp.trans (K34.le kp.nx)
      have f4 := kp4.ex (Nat.le_refl _)
      have hl2 : (out.eraseIdx i).length = out.length - 1 := List.length_eraseIdx_of_lt (by omega)
      have hlit2 : ∀ x ∈ out.eraseIdx i, Lit x := fun x hx => hlit x (List.mem_of_mem_eraseIdx hx)
      refine ⟨_, _, _, h4, e4, ?_⟩
      obtain ⟨v, h5, e5, rfl, K5⟩ := ct95 hO (ok.kp kp4) (by rw [kp4.get _ hbn]; exact hb) (Nat.lt_of_lt_of_le hbn kp4.nx) (H.to h4) hl hss (G.to h4) hgl hg Y (cm := unk) (by omega) hlit2
      have kp5 := kp4.trans (K5.le kp4.nx)
      refine ⟨_, h5, e5, ?_⟩
      rw [wrap64 (by simp only [Int.ofNat_eq_natCast]; omega) (by simp only [Int.ofNat_eq_natCast]; omega)]
      have f5 := K5.ex (Nat.le_refl _)
      have f35 : Ft h h5 := Ft.tr (K34.ex (Nat.le_refl _)) f5
      unfold needF at hr
      unfold clashN at hr
      refine vcond_split (fun hc => ?_) fun hc => ?_
      · rw [if_pos hc] at hr
        rw [← hl2] at Y ⊢
        exact ih rfl (by omega) (by omega) hlit2 (Y.to h5) kp5 hr
      · rw [if_neg (by rw [hc]; decide)] at hr
        exact ih rfl (by omega) hol hlit (X.to h5) kp5 hr
    · exact absurd e hne
theorem ct97 {b : Nat} {h : Hp} (ok : h.Ok) {vars left : Int} {a a1 a2 : Option Addr} {n c n1 c1 n2 c2 : Nat} (hb : h.get b = some (.cells (baseC vars a n c a1 n1 c1 left a2 n2 c2) 128 .fix)) (hbn : b < h.nx) {ss : List (Nat × Nat)} (H : SidesAt2 h a n ss) (hl : ss.length < 1000000) (hss : ∀ p ∈ ss, p.1 < 2 ^ 30 ∧ p.2 < 2 ^ 30)
    {gs xs : List Int} (G : IntsAt h a1 n1 gs) (hgl : gs.length < 1000000) (hg : ∀ x ∈ gs, Lit x) {am : Option Addr} {nm cm : Nat} (X : IntsAt h am nm xs) (hxl : xs.length < 1000000) (hx : ∀ x ∈ xs, Lit x) :
    Ret Tryd.prog O 97 [.slice am nm cm, .func (.func 95) #[.pointer (some ⟨b, 0, none⟩)] #[]] h fun v h' => ∃ a' n' c', v = .slice a' n' c' ∧ IntsAt h' a' n' (needF (clashN ss gs) xs.length xs) ∧ Kp h.nx h h' := by
  refine rk97 _ _ _ _ _ _ (hO _ _ _ (by decide)) ?_
  unfold T97
  refine (ct60 hO ok X (by omega)).s fun a3 n3 c3 h3 ⟨A3, K3⟩ => ?_
  have hn3 : n3 = xs.length := (accE_ints A3).1
  exact lp97 hO ok hb hbn H hl hss G hgl hg xs.length (by rw [hn3, wrap64 (by simp only [Int.ofNat_eq_natCast]; omega) (by simp only [Int.ofNat_eq_natCast]; omega)]) (Nat.le_refl _) hxl hx (accE_ints A3) K3 rfl
end
end Go.Proofs.YtfgfhplgnfbaaaaDoor
/- Resolving, its result at a new place. -/
namespace Go.Proofs.YtfgfhplgnfbaaaaDoor
open Go Go.Ev
/-- A list at a new place, and an error. -/
def RPairF (h : Hp) (r : List Int × Int) (v : Value) (h' : Hp) : Prop := ∃ a n c, v = .tuple #[.slice a n c, .int .i64 r.2] ∧ IntsAt h' a n r.1 ∧ Kp h.nx h h' ∧ (∀ b off, a = some ⟨b, off, none⟩ → h.nx ≤ b) ∧ (a = none ∨ 0 < n)
theorem RPairF.none {h h' : Hp} {e : Int} (k : Kp h.nx h h') : RPairF h ([], e) (.tuple #[.slice none 0 0, .int .i64 e]) h' := ⟨_, _, _, rfl, SlAt.nil .., k, (fun _ _ e => by cases e), .inl rfl⟩
end Go.Proofs.YtfgfhplgnfbaaaaDoor
/- The walk of search: the base while it is searched. -/
namespace Go.Proofs.YtfgfhplgnfbaaaaDoor
open Go Go.Ev
/-- It lies neither in the base nor in the list of lines. -/
def Aw (b : Nat) (a2 a : Option Addr) : Prop := ∀ q off, a = some ⟨q, off, none⟩ → q ≠ b ∧ a2 ≠ some ⟨q, 0, none⟩
theorem Aw.none (b : Nat) (a2 : Option Addr) : Aw b a2 none := fun _ _ e => by cases e
/-- The lines: each lies elsewhere. -/
def Ln (b : Nat) (h : Hp) (a : Option Addr) (n c : Nat) (xss : List (List Int)) : Prop :=
  ∃ vs, Acc h (b + 1) 32 1 a n c vs ∧ Lis h vs xss ∧ ∀ v ∈ vs, ∀ a1 n1 c1, v = .slice a1 n1 c1 → Aw b a a1 ∧ (a1 = none ∨ 0 < n1)
/-- From one memory to a later one: the base and the list of lines may change. -/
structure Nx (b : Nat) (a2 : Option Addr) (h : Hp) (a2' : Option Addr) (h' : Hp) : Prop where
  nx : h.nx ≤ h'.nx
  gd : h'.gd = h.gd
  fr : h.Fresh → h'.Fresh
  get : ∀ o, o < h.nx → o ≠ b → a2 ≠ some ⟨o, 0, none⟩ → h'.get o = h.get o
  nw : a2' = a2 ∨ ∀ q off, a2' = some ⟨q, off, none⟩ → h.nx ≤ q
theorem Nx.of {b : Nat} {a2 : Option Addr} {h h' : Hp} (k : Kp h.nx h h') : Nx b a2 h a2 h' := ⟨k.nx, k.gd, k.fr, fun o ho _ _ => k.get o ho, .inl rfl⟩
theorem Nx.refl (b : Nat) (a2 : Option Addr) (h : Hp) : Nx b a2 h a2 h := .of (.refl _ _)
theorem Nx.trans {b : Nat} {a2 a3 a4 : Option Addr} {h h' h'' : Hp} (k : Nx b a2 h a3 h') (l : Nx b a3 h' a4 h'') : Nx b a2 h a4 h'' := by
  refine ⟨Nat.le_trans k.nx l.nx, l.gd.trans k.gd, fun f => l.fr (k.fr f), fun o ho h1 h2 => ?_, ?_⟩
  · rw [l.get o (Nat.lt_of_lt_of_le ho k.nx) h1, k.get o ho h1 h2]
    rcases k.nw with rfl | e
    · exact h2
    · exact fun e2 => by have := e _ _ e2; omega
  · rcases l.nw with rfl | e
    · exact k.nw
    · exact .inr fun q off e2 => Nat.le_trans k.nx (e q off e2)
theorem Nx.aw {b : Nat} {a2 a3 : Option Addr} {h h' : Hp} (k : Nx b a2 h a3 h') {a : Option Addr} (ha : Aw b a2 a) (hn : ∀ q off, a = some ⟨q, off, none⟩ → q < h.nx) : Aw b a3 a := fun q off e => by
  refine ⟨(ha q off e).1, ?_⟩
  rcases k.nw with rfl | e2
  · exact (ha q off e).2
  · exact fun e3 => by have := e2 _ _ e3; have := hn q off e; omega
theorem SlAt.lt {α : Type} {w : Nat} {R : Enc α} {h : Hp} {a : Option Addr} {n : Nat} {xs : List α} (X : SlAt w R h a n xs) : ∀ q off, a = some ⟨q, off, none⟩ → q < h.nx := fun q off e => by
  rcases X.2 with ⟨_, e2⟩ | ⟨b, off', _, _, _, e2, h2, _⟩
  · rw [e2] at e; cases e
  · rw [e2] at e; injection e with e; injection e with e; omega
/-- What lies elsewhere stays. -/
theorem Nx.sl {α : Type} {w : Nat} {R : Enc α} {b : Nat} {a2 a3 : Option Addr} {h h' : Hp} (k : Nx b a2 h a3 h') (hR : ∀ x vs, R h x vs → R h' x vs) {a : Option Addr} {n : Nat} {xs : List α} (X : SlAt w R h a n xs) (ha : Aw b a2 a) : SlAt w R h' a n xs :=
  X.keep (fun q off e => k.get q (SlAt.lt X q off e) (ha q off e).1 (ha q off e).2) k.nx hR
theorem Nx.ints {b : Nat} {a2 a3 : Option Addr} {h h' : Hp} (k : Nx b a2 h a3 h') {a : Option Addr} {n : Nat} {xs : List Int} (X : IntsAt h a n xs) (ha : Aw b a2 a) : IntsAt h' a n xs := k.sl (fun _ _ h => h) X ha
/-- A base while it is searched. -/
structure Bs (b : Nat) (vars : Int) (a : Option Addr) (n c : Nat) (a1 : Option Addr) (n1 c1 : Nat) (ss : List (Nat × Nat)) (gs : List Int) (left : Int) (lines : List (List Int)) (a2 : Option Addr) (n2 c2 : Nat) (h : Hp) : Prop where
  ok : h.Ok
  tb : Tb h
  bn : b < h.nx
  get : h.get b = some (.cells (baseC vars a n c a1 n1 c1 left a2 n2 c2) 128 .fix)
  S : SidesAt2 h a n ss
  Sa : Aw b a2 a
  G : IntsAt h a1 n1 gs
  Ga : Aw b a2 a1
  L : Ln b h a2 n2 c2 lines
  ug : ∀ q ∈ h.gd, q ≠ b ∧ a2 ≠ some ⟨q, 0, none⟩
section
variable {b : Nat} {vars : Int} {a : Option Addr} {n c : Nat} {a1 : Option Addr} {n1 c1 : Nat} {ss : List (Nat × Nat)} {gs : List Int} {left : Int} {lines : List (List Int)} {a2 : Option Addr} {n2 c2 : Nat} {h h' : Hp}
theorem Ln.lt (L : Ln b h a2 n2 c2 lines) : ∀ q, a2 = some ⟨q, 0, none⟩ → b < q ∧ q < h.nx := fun q e => let ⟨_, A, _, _⟩ := L; A.lt e
theorem Bs.ub (B : Bs b vars a n c a1 n1 c1 ss gs left lines a2 n2 c2 h) : h.guarded b = false := guarded_of fun q hq => (B.ug q hq).1
theorem Bs.ul (B : Bs b vars a n c a1 n1 c1 ss gs left lines a2 n2 c2 h) : ∀ q, a2 = some ⟨q, 0, none⟩ → h.guarded q = false := fun q e => guarded_of fun p hp e2 => (B.ug p hp).2 (by rw [e2]; exact e)
theorem Bs.tb0 (B : Bs b vars a n c a1 n1 c1 ss gs left lines a2 n2 c2 h) : 0 ≠ b ∧ a2 ≠ some ⟨0, 0, none⟩ := by
  refine ⟨fun e => ?_, fun e => ?_⟩
  · have := B.tb.2; rw [e, B.get] at this; injection this with this; injection this with _ _ this; cases this
  · have := (B.L.lt 0 e).1; omega
/-- Something else is laid. -/
theorem Bs.kp (B : Bs b vars a n c a1 n1 c1 ss gs left lines a2 n2 c2 h) (k : Kp h.nx h h') : Bs b vars a n c a1 n1 c1 ss gs left lines a2 n2 c2 h' := by
  obtain ⟨vs, A, L, V⟩ := B.L
  exact ⟨B.ok.kp k, B.tb.kp k B.tb.1, Nat.lt_of_lt_of_le B.bn k.nx, by rw [k.get _ B.bn]; exact B.get, B.S.up (ECells.up uu) k, B.Sa, B.G.up EInt.up k, B.Ga, ⟨vs, A.keep (fun o ho _ => k.get o ho) k.nx, L.up k, V⟩, fun q hq => B.ug q (by rw [← k.gd]; exact hq)⟩
theorem Bs.grd (B : Bs b vars a n c a1 n1 c1 ss gs left lines a2 n2 c2 h) {l : List Nat} (hl : ∀ q ∈ l, q < h.nx ∧ q ≠ b ∧ a2 ≠ some ⟨q, 0, none⟩) : Bs b vars a n c a1 n1 c1 ss gs left lines a2 n2 c2 (h.grd l) := by
  obtain ⟨vs, A, L, V⟩ := B.L
  refine ⟨⟨fun q hq => ?_, B.ok.fr⟩, B.tb, B.bn, B.get, B.S.keep (fun _ _ _ => rfl) (Nat.le_refl _) fun _ _ h => h, B.Sa, B.G.keep (fun _ _ _ => rfl) (Nat.le_refl _) fun _ _ h => h, B.Ga, ⟨vs, A.keep (fun _ _ _ => rfl) (Nat.le_refl _), L, V⟩, fun q hq => ?_⟩
  · rcases List.mem_append.1 hq with hq | hq
    · exact (hl q hq).1
    · exact B.ok.gd q hq
  · rcases List.mem_append.1 hq with hq | hq
    · exact (hl q hq).2
    · exact B.ug q hq
theorem Nx.rst {a3 : Option Addr} {l : List Nat} (k : Nx b a2 (h.grd l) a3 h') : Nx b a2 h a3 (h'.rst h) := ⟨k.nx, rfl, k.fr, k.get, k.nw⟩
theorem Bs.rst {left0 left' : Int} {lines0 lines' : List (List Int)} {a3 : Option Addr} {n3 c3 : Nat} (B0 : Bs b vars a n c a1 n1 c1 ss gs left0 lines0 a2 n2 c2 h) (B : Bs b vars a n c a1 n1 c1 ss gs left' lines' a3 n3 c3 h') {l : List Nat} (k : Nx b a2 (h.grd l) a3 h') : Bs b vars a n c a1 n1 c1 ss gs left' lines' a3 n3 c3 (h'.rst h) := by
  obtain ⟨vs, A, L, V⟩ := B.L
  refine ⟨⟨fun q hq => Nat.lt_of_lt_of_le (B0.ok.gd q hq) k.nx, B.ok.fr⟩, B.tb, B.bn, B.get, B.S.keep (fun _ _ _ => rfl) (Nat.le_refl _) fun _ _ h => h, B.Sa, B.G.keep (fun _ _ _ => rfl) (Nat.le_refl _) fun _ _ h => h, B.Ga, ⟨vs, A.keep (fun _ _ _ => rfl) (Nat.le_refl _), L, V⟩, fun q hq => ⟨(B0.ug q hq).1, ?_⟩⟩
  rcases k.nw with rfl | e
  · exact (B0.ug q hq).2
  · exact fun e2 => by have := e _ _ e2; have := B0.ok.gd q hq; have : (h.grd l).nx = h.nx := rfl; omega
/-- Nodes are counted down. -/
theorem Bs.count (B : Bs b vars a n c a1 n1 c1 ss gs left lines a2 n2 c2 h) (l' : Int) : canW h b (0 + 3) [.int .i64 l'] = true ∧ Bs b vars a n c a1 n1 c1 ss gs l' lines a2 n2 c2 (h.wr b (0 + 3) [.int .i64 l']) ∧ Nx b a2 h a2 (h.wr b (0 + 3) [.int .i64 l']) := by
  have gw := wr_get B.get (by decide) B.ub (off := 0 + 3) (vs := [.int .i64 l']) (by simp [baseC]) rfl
  have ne : ∀ q, q ≠ b → (h.wr b (0 + 3) [.int .i64 l']).get q = h.get q := fun q hq => wr_get_ne _ _ _ _ hq
  have nx : (h.wr b (0 + 3) [.int .i64 l']).nx = h.nx := nx_wr ..
  have gd : (h.wr b (0 + 3) [.int .i64 l']).gd = h.gd := gd_wr ..
  have K : Nx b a2 h a2 (h.wr b (0 + 3) [.int .i64 l']) := ⟨Nat.le_of_eq nx.symm, gd, fun f => f.wr _ _ _, fun q _ hq _ => ne q hq, .inl rfl⟩
  obtain ⟨vs, A, L, V⟩ := B.L
  refine ⟨canW_t B.get (by decide) B.ub (by simp [baseC]) rfl, ⟨⟨fun q hq => by rw [gd] at hq; rw [nx]; exact B.ok.gd q hq, B.ok.fr.wr _ _ _⟩, ⟨by rw [nx]; exact B.tb.1, by rw [ne _ B.tb0.1]; exact B.tb.2⟩, by rw [nx]; exact B.bn, gw, K.sl (fun _ _ h => h) B.S B.Sa, B.Sa, K.ints B.G B.Ga, B.Ga, ⟨vs, A.keep (fun o _ e => ne o (by have := (A.lt e).1; omega)) (Nat.le_of_eq nx.symm), ⟨L.1, fun i hi => ?_⟩, V⟩, fun q hq => B.ug q (by rw [← gd]; exact hq)⟩, K⟩
  obtain ⟨v, hv, a', n', c', e, X⟩ := L.2 i hi
  exact ⟨v, hv, a', n', c', e, K.ints X (V v (List.mem_of_getElem? hv) a' n' c' (by simpa using e)).1⟩
/-- One list is appended: what is guarded must not be the list. -/
theorem append_f {P : Program} {sT e : TypeId} {bytes : Nat} (T : AppT P sT e 1 bytes) {h : Hp} {base : Nat} {a : Option Addr} {n c : Nat} {xs : List Value} (H : Acc h base e 1 a n c xs) (hb : base ≤ h.nx) (hg : ∀ q, a = some ⟨q, 0, none⟩ → h.guarded q = false)
    {x y : Value} (hx : ∃ a n c, x = .slice a n c) (hs : srcCells h 1 x = some ([y], 1)) (h1 : one y = true) (hB : (n + 1 + (n + 1)) * bytes ≤ 281474976710656) (hU : n + 1 < big) :
    ∃ h', appendV P h sT sT (.slice a n c) x = some (.slice (some ⟨h.nx, 0, none⟩) (n + 1) unk, h') ∧ Acc h' base e 1 (some ⟨h.nx, 0, none⟩) (n + 1) unk (xs ++ [y]) ∧ AppK h h' a := by
  obtain ⟨hz, info, z, hi, hzz, hrun⟩ := T.run
  rw [hrun h _ x hx, hs]
  simp only [Option.bind_some, List.all_cons, List.all_nil, h1, Bool.and_true, cond_true, show Nat.beq 1 0 = false from rfl, cond_false]
  have new : ∀ m old, m = n + 1 → appNew h e bytes old [y] m = some (.slice (some ⟨h.nx, 0, none⟩) m unk, h.add (.cells (old ++ [y]) e .grow)) := by
    rintro m old rfl
    unfold appNew
    rw [ble_t hB, blt_t hU]; rfl
  rcases H with ⟨rfl, rfl, rfl, rfl⟩ | ⟨o, rfl, rfl, h3, h4, h5, h6⟩
  · exact ⟨_, new 1 [] (by omega), .inr ⟨h.nx, rfl, rfl, by simp, hb, by rw [nx_add]; omega, get_add_same ..⟩, ⟨by rw [nx_add]; omega, rfl, fun f => f.add _, fun q hq _ => get_add_ne (by omega)⟩⟩
  · have hcap : Nat.beq unk unk = true := Nat.beq_refl _
    have hee : Nat.beq e e = true := Nat.beq_refl _
    have e1 : appSome h e bytes 1 (.slice (some ⟨o, 0, none⟩) n unk) [y] 1 = ((appNew h e bytes (xs.drop 0) [y] (n + 1)).bind fun r => (r.2.put o none).map fun h' => (r.1, h')) := by
      unfold appSome
      have : Nat.ble (0 + (n + 1) * 1) xs.length = false := by
        rw [Bool.eq_false_iff]; intro hh
        have hh : 0 + (n + 1) * 1 ≤ xs.length := by simpa using hh
        omega
      simp only [h6, hcap, hee, cond_true, isGrow, Bool.and_self, this, cond_false]
      rw [show Nat.beq (0 + n * 1) xs.length = true by rw [Nat.beq_eq]; omega]; rfl
    rw [e1, new _ _ rfl, Option.bind_some]
    have gf : (h.add (.cells (xs.drop 0 ++ [y]) e .grow)).guarded o = false := hg o rfl
    have hput : ∃ h', (h.add (.cells (xs.drop 0 ++ [y]) e .grow)).put o none = some h' := by
      unfold Hp.put; rw [gf]; exact ⟨_, rfl⟩
    obtain ⟨h', hp⟩ := hput
    obtain ⟨p1, p2, p3, p4⟩ := Hp.get_put hp
    have p4 : ∀ q, h'.get q = if q = o then none else (h.add (.cells (xs.drop 0 ++ [y]) e .grow)).get q := p4
    simp only [hp, Option.map_some]
    refine ⟨h', rfl, .inr ⟨h.nx, rfl, rfl, by simp; omega, hb, by rw [p1, nx_add]; omega, ?_⟩, ⟨by rw [p1, nx_add]; omega, p2, fun f q hq => ?_, fun q hq hne => ?_⟩⟩
    · rw [p4, if_neg (by omega), get_add_same]; simp
    · rw [p1] at hq
      rw [p4]
      split
      · rfl
      · exact (f.add _) q hq
    · rw [p4, if_neg (fun hh => hne (by rw [hh])), get_add_ne (by omega)]
/-- A line more: what is laid, and what is written into the base. -/
theorem Bs.line (B : Bs b vars a n c a1 n1 c1 ss gs left lines a2 n2 c2 h) (hl : lines.length < 1000000) {ac : Option Addr} {nc cc : Nat} {cl : List Int} (X : IntsAt h ac nc cl) (ha : Aw b a2 ac) (hne : ac = none ∨ 0 < nc) :
    ∃ h1, appendV Tryd.prog (h.add (.cells [.slice ac nc cc] 32 .fix)) 28 28 (.slice a2 n2 c2) (.slice (some ⟨h.nx, 0, none⟩) 1 1) = some (.slice (some ⟨h.nx + 1, 0, none⟩) (n2 + 1) unk, h1) ∧ canW h1 b (0 + 4) [.slice (some ⟨h.nx + 1, 0, none⟩) (n2 + 1) unk] = true ∧
      (let h' := h1.wr b (0 + 4) [.slice (some ⟨h.nx + 1, 0, none⟩) (n2 + 1) unk]; Bs b vars a n c a1 n1 c1 ss gs left (lines ++ [cl]) (some ⟨h.nx + 1, 0, none⟩) (n2 + 1) unk h' ∧ Nx b a2 h (some ⟨h.nx + 1, 0, none⟩) h' ∧ IntsAt h' ac nc cl ∧ Aw b (some ⟨h.nx + 1, 0, none⟩) ac) := by
  obtain ⟨vs, A, L, V⟩ := B.L
  have hn2 : n2 = lines.length := by
    have := L.1
    rcases A with ⟨_, h1, _, h4⟩ | ⟨_, _, _, h3, _⟩
    · rw [h4] at this; rw [h1]; exact this
    · omega
  have hb := B.bn
  have k0 : Kp h.nx h (h.add (.cells [.slice ac nc cc] 32 .fix)) := (Kp.refl _ _).add (Nat.le_refl _) _
  have B1 := B.kp k0
  have A1 : Acc (h.add (.cells [.slice ac nc cc] 32 .fix)) (b + 1) 32 1 a2 n2 c2 vs := A.keep (fun o ho _ => k0.get o ho) k0.nx
  have hnx1 : (h.add (.cells [.slice ac nc cc] 32 .fix)).nx = h.nx + 1 := nx_add ..
  obtain ⟨h1, e1, A2, K⟩ := append_f app28 A1 (by rw [hnx1]; omega) B1.ul ⟨_, _, _, rfl⟩ (src_get (n := 1) (c := 1) (esz := 1) (off := 0) (read1 (i := 0) (v := .slice ac nc cc) (get_add_same ..) rfl)) rfl (by omega) (by unfold big; omega)
  rw [hnx1] at e1 A2
  have hbk : h1.get b = some (.cells (baseC vars a n c a1 n1 c1 left a2 n2 c2) 128 .fix) := by
    rw [K.get b (by rw [hnx1]; omega) (fun e => by have := (B.L.lt b e).1; omega)]; exact B1.get
  have gd1 : h1.gd = h.gd := K.gd
  have ub1 : h1.guarded b = false := by have := B.ub; unfold Hp.guarded at *; rw [gd1]; exact this
  have hnx : h.nx + 1 < h1.nx := by
    rcases A2 with ⟨e, _⟩ | ⟨o, e, _, _, _, h5, _⟩
    · cases e
    · injection e with e; injection e with e; omega
  have gw := wr_get hbk (by decide) ub1 (off := 0 + 4) (vs := [.slice (some ⟨h.nx + 1, 0, none⟩) (n2 + 1) unk]) (by simp [baseC]) rfl
  refine ⟨h1, e1, canW_t hbk (by decide) ub1 (by simp [baseC]) rfl, ?_⟩
  intro h'
  have nx : h'.nx = h1.nx := nx_wr ..
  have gd : h'.gd = h1.gd := gd_wr ..
  have ne : ∀ q, q ≠ b → h'.get q = h1.get q := fun q hq => wr_get_ne _ _ _ _ hq
  have N : Nx b a2 h (some ⟨h.nx + 1, 0, none⟩) h' := by
    refine ⟨by rw [nx]; omega, by rw [gd, gd1], fun f => ((K.fr (f.add _))).wr _ _ _, fun q hq h1 h2 => ?_, .inr fun q off e => by injection e with e; injection e with e; omega⟩
    rw [ne q h1, K.get q (by rw [hnx1]; omega) h2, get_add_ne (by omega)]
  have aw : ∀ {x : Option Addr}, Aw b a2 x → (∀ q off, x = some ⟨q, off, none⟩ → q < h.nx) → Aw b (some ⟨h.nx + 1, 0, none⟩) x := fun ha hn => N.aw ha hn
  have fr : h'.Fresh := N.fr B.ok.fr
  have n2' : h1.get (h.nx + 1) = some (.cells (vs ++ [.slice ac nc cc]) 32 .grow) := by
    rcases A2 with ⟨e, _⟩ | ⟨o, e, _, _, _, h5, h6⟩
    · cases e
    · have e8 : h.nx + 1 = o := congrArg Addr.block (Option.some.inj e)
      rw [e8]
      exact h6
  have Xh : IntsAt h' ac nc cl := N.ints X ha
  refine ⟨⟨⟨fun q hq => by rw [gd, gd1] at hq; have := B.ok.gd q hq; rw [nx]; omega, fr⟩, ⟨by rw [nx]; omega, by rw [N.get 0 B.tb.1 B.tb0.1 B.tb0.2]; exact B.tb.2⟩, by rw [nx]; omega, gw, N.sl (fun _ _ h => h) B.S B.Sa, aw B.Sa (SlAt.lt B.S), N.ints B.G B.Ga, aw B.Ga (SlAt.lt B.G), ⟨vs ++ [.slice ac nc cc], .inr ⟨h.nx + 1, rfl, rfl, ?_, by omega, by rw [nx]; exact hnx, by rw [ne _ (by omega)]; exact n2'⟩, ?_, ?_⟩, fun q hq => ?_⟩, N, Xh, aw ha (SlAt.lt X)⟩
  · rcases A2 with ⟨e, _⟩ | ⟨o, e, _, h3, _⟩
    · cases e
    · exact h3
  · refine Lis.app ⟨L.1, fun i hi => ?_⟩ ⟨rfl, fun i hi => ?_⟩
    · obtain ⟨v, hv, a', n', c', e, X'⟩ := L.2 i hi
      exact ⟨v, hv, a', n', c', e, N.ints X' (V v (List.mem_of_getElem? hv) a' n' c' (by simpa using e)).1⟩
    · obtain rfl : i = 0 := by simp at hi; exact hi
      exact ⟨_, rfl, ac, nc, cc, rfl, Xh⟩
  · intro v hv a' n' c' e
    rcases List.mem_append.1 hv with hv | hv
    · obtain ⟨i, hi, rfl⟩ := List.getElem_of_mem hv
      obtain ⟨v', hv', a'', n'', c'', e', X'⟩ := L.2 i (by rw [← L.1]; exact hi)
      have e3 := V _ hv _ _ _ e
      have e4 : vs[i] = v' := Option.some.inj ((List.getElem?_eq_getElem hi).symm.trans hv')
      injection e' with e' _
      have e5 : Value.slice a' n' c' = .slice a'' n'' c'' := by rw [← e, ← e', e4]
      injection e5 with e5 _ _
      subst e5
      exact ⟨aw e3.1 (SlAt.lt X'), e3.2⟩
    · rw [List.mem_singleton] at hv
      rw [hv] at e; injection e with e e9 _; subst e e9
      exact ⟨aw ha (SlAt.lt X), hne⟩
  · rw [gd, gd1] at hq
    exact ⟨(B.ug q hq).1, fun e => by injection e with e; injection e with e; have := B.ok.gd q hq; omega⟩
end
end Go.Proofs.YtfgfhplgnfbaaaaDoor
/- The walk of search: what it computes; a line more; a decision more; how it returns. -/
namespace Go.Proofs.YtfgfhplgnfbaaaaDoor
open Go Go.Ev
theorem spreadF_lt {ss : List (Nat × Nat)} (hs : ∀ c ∈ ss, c.1 < 2 ^ 30 ∧ c.2 < 2 ^ 30) : ∀ (d : Nat) {y m : Nat}, y < 2 ^ 30 → m < 2 ^ 30 → (spreadF ss d y m).1.1 < 2 ^ 30 ∧ (spreadF ss d y m).1.2 < 2 ^ 30 := by
  intro d
  induction d with
  | zero => intro y m hy hm; exact ⟨hy, hm⟩
  | succ d ih =>
    intro y m hy hm
    unfold spreadF
    split
    · exact ⟨hy, hm⟩
    · exact ⟨hy, hm⟩
    · rename_i p e
      have := stepS_free hy hm hs e
      exact ih this.2.1 this.2.2
theorem layN_lt2 : ∀ {xs : List Int}, (∀ x ∈ xs, Lit x) → ∀ {y m : Nat}, y < 2 ^ 30 → m < 2 ^ 30 → (layN xs y m).1.1 < 2 ^ 30 ∧ (layN xs y m).1.2 < 2 ^ 30 := by
  intro xs
  induction xs with
  | nil => intro _ y m hy hm; exact ⟨hy, hm⟩
  | cons x xs ih =>
    intro hx y m hy hm
    have h1 := withN_lt (hx x (by simp)) hy hm
    unfold layN
    split
    · exact ih (fun x h => hx x (List.mem_cons_of_mem _ h)) h1.1 h1.2
    · exact h1
theorem fromN_lt {ss : List (Nat × Nat)} (hs : ∀ c ∈ ss, c.1 < 2 ^ 30 ∧ c.2 < 2 ^ 30) {xs : List Int} (hx : ∀ x ∈ xs, Lit x) : (fromN ss xs).1.1 < 2 ^ 30 ∧ (fromN ss xs).1.2 < 2 ^ 30 := by
  have h1 := layN_lt2 hx (y := 0) (m := 0) (by decide) (by decide)
  unfold fromN fromR
  split
  · exact spreadF_lt hs 31 h1.1 h1.2
  · exact h1
/-- The lowest digit. -/
def lowF (u : Nat) : Nat := (digits 30 u).head?.getD 0
/-- The variables that are open. -/
def freeM (n y m : Nat) : Nat := (2 ^ n - 1) - ((2 ^ n - 1) &&& (y ||| m))
/-- How a search ends: truths, a clause, the end, nodes left, lines. -/
structure Sr where
  y : Nat
  m : Nat
  c : List Int
  how : Int
  left : Nat
  lines : List (List Int)
end Go.Proofs.YtfgfhplgnfbaaaaDoor
/- The walk of search: one of the two branches. -/
namespace Go.Proofs.YtfgfhplgnfbaaaaDoor
open Go Go.Ev
theorem needF_sub (cl : List Int → Bool) : ∀ (i : Nat) (out : List Int), (needF cl i out).Sublist out := by
  intro i
  induction i with
  | zero => intro out; exact List.Sublist.refl _
  | succ i ih =>
    intro out
    unfold needF
    split
    · exact (ih _).trans (List.eraseIdx_sublist ..)
    · exact ih _
theorem litsN_len (y m : Nat) : (litsN y m).length ≤ 30 := by
  unfold litsN digits
  rw [List.length_map]
  exact Nat.le_trans (List.length_filter_le _ _) (by simp)
/-- Decisions that are proper. -/
structure Dec (N : Nat) (ss : List (Nat × Nat)) (gs : List Int) (Dc : List Int → Prop) : Prop where
  ok : ∀ ds, Dc ds → ds.length ≤ N ∧ (∀ x ∈ ds, Lit x) ∧ Dif ds
  more : ∀ ds, Dc ds → (fromN ss (gs ++ ds)).2 = true → freeM N (fromN ss (gs ++ ds)).1.1 (fromN ss (gs ++ ds)).1.2 ≠ 0 → Dc (ds ++ [-(Int.ofNat (lowF (freeM N (fromN ss (gs ++ ds)).1.1 (fromN ss (gs ++ ds)).1.2) + 1))]) ∧ Dc (ds ++ [Int.ofNat (lowF (freeM N (fromN ss (gs ++ ds)).1.1 (fromN ss (gs ++ ds)).1.2) + 1)])
section
variable {b : Nat} {vars : Int} {a : Option Addr} {n c : Nat} {a1 : Option Addr} {n1 c1 : Nat} {ss : List (Nat × Nat)} {gs : List Int} {left left' : Int} {lines lines' : List (List Int)} {a2 a3 : Option Addr} {n2 c2 n3 c3 : Nat} {h g g' : Hp}
/-- A list of slices goes: lists of numbers stay. -/
theorem ints_app {ab : Option Addr} {e : TypeId} (k : AppK g g' ab) (hab : ∀ o, ab = some ⟨o, 0, none⟩ → ∃ vs, g.get o = some (.cells vs e .grow) ∧ ∀ v ∈ vs, ∃ a n c, v = Value.slice a n c) {ac : Option Addr} {nc : Nat} {cl : List Int} (X : IntsAt g ac nc cl) (hne : ac = none ∨ 0 < nc) : IntsAt g' ac nc cl := by
  refine ⟨X.1, X.2.imp id ?_⟩
  rintro ⟨q, off, cs, e, m, h1, h2, h3, h4, h5⟩
  refine ⟨q, off, cs, e, m, h1, Nat.lt_of_lt_of_le h2 k.nx, ?_, h4, h5⟩
  by_cases hq : ab = some ⟨q, 0, none⟩
  · exfalso
    obtain ⟨vs, hg, hv⟩ := hab q hq
    rw [h3] at hg; injection hg with hg; injection hg with hg _ _; subst hg
    have hn : 0 < nc := by
      rcases hne with hne | hne
      · rw [hne] at h1; cases h1
      · exact hne
    have hx := X.1
    have h6 : (cs.drop (off + 0 * 1)).take 1 = [.int .i64 cl[0]] := h5 0 (by omega)
    rw [Nat.zero_mul, Nat.add_zero] at h6
    have h7 : cs[off]? = some (.int .i64 cl[0]) := by
      have : ((cs.drop off).take 1)[0]? = some (.int .i64 cl[0]) := by rw [h6]; rfl
      simpa using this
    obtain ⟨_, _, _, e9⟩ := hv _ (List.mem_of_getElem? h7)
    cases e9
  · rw [k.get q h2 hq]; exact h3
theorem Bs.app (B0 : Bs b vars a n c a1 n1 c1 ss gs left lines a2 n2 c2 h) (B : Bs b vars a n c a1 n1 c1 ss gs left' lines' a3 n3 c3 g) (N : Nx b a2 h a3 g) {ab : Option Addr} {e : TypeId} (k : AppK g g' ab)
    (hn : ∀ o, ab = some ⟨o, 0, none⟩ → h.nx ≤ o) (ha : Aw b a3 ab) (hab : ∀ o, ab = some ⟨o, 0, none⟩ → ∃ vs, g.get o = some (.cells vs e .grow) ∧ ∀ v ∈ vs, ∃ a n c, v = Value.slice a n c) :
    Bs b vars a n c a1 n1 c1 ss gs left' lines' a3 n3 c3 g' ∧ Nx b a2 h a3 g' := by
  have old : ∀ q, q < h.nx → g'.get q = g.get q := fun q hq => k.get q (Nat.lt_of_lt_of_le hq N.nx) fun e => by have := hn q e; omega
  obtain ⟨vs, A, L, V⟩ := B.L
  refine ⟨⟨⟨fun q hq => by rw [k.gd] at hq; exact Nat.lt_of_lt_of_le (B.ok.gd q hq) k.nx, k.fr B.ok.fr⟩, ⟨Nat.lt_of_lt_of_le B.tb.1 k.nx, by rw [old 0 B0.tb.1]; exact B.tb.2⟩, Nat.lt_of_lt_of_le B.bn k.nx, by rw [old b B0.bn]; exact B.get, B.S.keep (fun q off e => old q (SlAt.lt B0.S q off e)) k.nx fun _ _ h => h, B.Sa, B.G.keep (fun q off e => old q (SlAt.lt B0.G q off e)) k.nx fun _ _ h => h, B.Ga, ⟨vs, A.keep (fun o ho e => k.get o ho fun e2 => (ha o 0 e2).2 e) k.nx, ⟨L.1, fun i hi => ?_⟩, V⟩, fun q hq => B.ug q (by rw [← k.gd]; exact hq)⟩, ⟨Nat.le_trans N.nx k.nx, k.gd.trans N.gd, fun f => k.fr (N.fr f), fun o ho h1 h2 => by rw [old o ho]; exact N.get o ho h1 h2, N.nw⟩⟩
  obtain ⟨v, hv, a', n', c', e, X'⟩ := L.2 i hi
  exact ⟨v, hv, a', n', c', e, ints_app k hab X' (V v (List.mem_of_getElem? hv) a' n' c' (by simpa using e)).2⟩
end
end Go.Proofs.YtfgfhplgnfbaaaaDoor
/- The walk of search: a node. -/
namespace Go.Proofs.YtfgfhplgnfbaaaaDoor
open Go Go.Ev
end Go.Proofs.YtfgfhplgnfbaaaaDoor
/- The walks of solve, Model, Prove. -/
namespace Go.Proofs.YtfgfhplgnfbaaaaDoor
open Go Go.Ev
section
variable {O : CallF} (hO : Oth O)
include hO
omit hO in
theorem form_bounds {vars : Int} {cls : List (List Int)} {gs : List Int} (ha : askB vars cls gs = true) : (0 ≤ vars ∧ vars ≤ 30) ∧ cls.length ≤ 120 ∧ (∀ l ∈ cls, clB vars 0 l = true) ∧ clB vars 0 gs = true := by
  unfold askB formB at ha
  simp only [Bool.and_eq_true, Bool.not_eq_true', decide_eq_false_iff_not, List.all_eq_true] at ha
  obtain ⟨⟨⟨⟨h1, h2⟩, h3⟩, h4⟩, h5⟩ := ha
  exact ⟨⟨by omega, by omega⟩, by omega, h4, h5⟩
end
end Go.Proofs.YtfgfhplgnfbaaaaDoor
/- Contracts of layer 20: formulas by numbers. -/
namespace Go.Proofs.YtfgfhplgnfbaaaaDoor
open Go Go.Ev
structure PuzOk (vars many : Nat) (cl : List Int) : Prop where
  v : vars < 256
  m : many < 256
  len : cl.length = 42
  rng : ∀ x ∈ cl, -128 ≤ x ∧ x < 128
end Go.Proofs.YtfgfhplgnfbaaaaDoor
/- The plain law of resolution: what it returns. -/
namespace Go.Proofs.YtfgfhplgnfbaaaaDoor
open Go Go.Ev
theorem isB_neg {m : Nat} {x : Int} (hx : x ≠ 0) : isB m (-x) = !(isB m x) := by
  unfold isB
  rw [Int.natAbs_neg]
  by_cases h : x < 0
  · rw [if_neg (by omega), if_pos h, Bool.not_not]
  · rw [if_pos (by omega), if_neg h]
end Go.Proofs.YtfgfhplgnfbaaaaDoor
/- What a call's arguments hold, as the evaluator's memory. -/
namespace Go.Ev
open Go
/-- Fields lie one behind the other. -/
def layOk (P : Program) : Nat → List Field → Nat → Bool
  | off, [], n => Nat.beq off n
  | off, f :: fs, n => Nat.beq f.offset off && layOk P (off + P.cellsOf f.type) fs n
/-- A type of truths, whole numbers, lists, structs and rows of these. -/
def Plain (P : Program) : Nat → TypeId → Bool
  | 0, _ => false
  | n + 1, t => match P.underlying t with
    | some .bool => true
    | some (.int _) => true
    | some (.slice e) => Plain P n e && !(Nat.beq (P.cellsOf e) 0)
    | some (.struct fs) => fs.toList.all (fun f => Plain P n f.type) && layOk P 0 fs.toList (P.cellsOf t)
    | some (.array m e) => Plain P n e && Nat.beq (m * P.cellsOf e) (P.cellsOf t)
    | _ => false
/-- Cells that read as some data, in the evaluator's memory. -/
def DE {H : Type} (P : Program) (h : Hp) : Nat → TypeId → List Value → DataW H → Prop
  | 0, _, _, _ => False
  | n + 1, t, cs, d => match P.underlying t, d with
    | some .bool, .lit (.bool b) => cs = [.bool b]
    | some (.int k), .lit (.int k' x) => k' = k ∧ cs = [.int k x] ∧ (Lit.int k x).wf = true
    | some (.slice _), .nil => cs = [.slice none 0 0]
    | some (.slice e), .slice elems _ => ∃ k cap c e', cs = [.slice (some ⟨k, 0, none⟩) elems.length cap] ∧ cap < unk ∧ elems.length ≤ cap ∧ k < h.nx ∧ h.get k = some (.cells c e' .ro) ∧ elems.length * P.cellsOf e ≤ c.length ∧
        ∀ i (hi : i < elems.length), DE P h n e ((c.drop (i * P.cellsOf e)).take (P.cellsOf e)) elems[i]
    | some (.struct fs), .agg parts => cs.length = P.cellsOf t ∧ parts.length = fs.size ∧ ∀ i (hi : i < parts.length) f, fs[i]? = some f → DE P h n f.type ((cs.drop f.offset).take (P.cellsOf f.type)) parts[i]
    | some (.array m e), .agg parts => cs.length = P.cellsOf t ∧ parts.length = m ∧ ∀ i (hi : i < parts.length), DE P h n e ((cs.drop (i * P.cellsOf e)).take (P.cellsOf e)) parts[i]
    | _, _ => False
/-- Memory with more in it, that none writes. -/
structure Ext1 (h : Hp) (ι : Inj) (h' : Hp) (ι' : Inj) : Prop where
  nx : h.nx ≤ h'.nx
  gd : h'.gd = h.gd
  get : ∀ o, o < h.nx → h'.get o = h.get o
  inj : ∀ o, o < h.nx → ι' o = ι o
theorem Ext1.refl (h : Hp) (ι : Inj) : Ext1 h ι h ι := ⟨Nat.le_refl _, rfl, fun _ _ => rfl, fun _ _ => rfl⟩
theorem Ext1.trans {h h' h'' : Hp} {ι ι' ι'' : Inj} (a : Ext1 h ι h' ι') (b : Ext1 h' ι' h'' ι'') : Ext1 h ι h'' ι'' :=
  ⟨Nat.le_trans a.nx b.nx, b.gd.trans a.gd, fun o ho => (b.get o (Nat.lt_of_lt_of_le ho a.nx)).trans (a.get o ho), fun o ho => (b.inj o (Nat.lt_of_lt_of_le ho a.nx)).trans (a.inj o ho)⟩
theorem DE.mono {H : Type} {P : Program} {h h' : Hp} (hn : h.nx ≤ h'.nx) (hg : ∀ o, o < h.nx → h'.get o = h.get o) : ∀ {n : Nat} {t : TypeId} {cs : List Value} {d : DataW H}, DE P h n t cs d → DE P h' n t cs d := by
  intro n
  induction n with
  | zero => intro t cs d h; exact h
  | succ n ih =>
    intro t cs d hd
    unfold DE at hd ⊢
    split at hd
    · exact hd
    · exact hd
    · exact hd
    · obtain ⟨k, cap, c, e', h1, h2, h3, h4, h5, h6, h7⟩ := hd
      exact ⟨k, cap, c, e', h1, h2, h3, Nat.lt_of_lt_of_le h4 hn, by rw [hg k h4]; exact h5, h6, fun i hi => ih (h7 i hi)⟩
    · exact ⟨hd.1, hd.2.1, fun i hi f hf => ih (hd.2.2 i hi f hf)⟩
    · exact ⟨hd.1, hd.2.1, fun i hi => ih (hd.2.2 i hi)⟩
    · exact hd
section
variable {H : Type} {enc : TypeId × Value → H} {P : Program} {W : World}
/-- What is ahead: memory that none writes, and an object in it. -/
structure Base (P : Program) (ι : Inj) (h : Hp) (W : World) : Prop where
  rh : RH P ι h W
  ro : ∀ o x, h.get o = some x → x.wr = false
  gd : h.gd = []
  some0 : ∃ x v, h.get 0 = some x ∧ ι 0 = some v ∧ 0 < h.nx ∧ ∃ c e, x = .cells c e .ro
/-- An object more. -/
theorem Base.push {ι : Inj} {h : Hp} (B : Base P ι h W) {c : List Value} {e : TypeId} {v : Vw} (h1 : c.all one = true) {c' : Array Value} {e' : TypeId} {fr : Nat × Nat} (hb : W.heap[v.blk]? = some (.cells c' e' fr)) (hc : ∀ (j : Nat) x, c[j]? = some x → ∃ y, c'[v.base + j]? = some y ∧ VR ι x y) :
    Base P (ι.set h.nx v) (h.add (.cells c e .ro)) W ∧ Ext1 h ι (h.add (.cells c e .ro)) (ι.set h.nx v) := by
  have hfresh : ι h.nx = none := B.rh.fresh _ (Nat.le_refl _)
  have mono := Inj.set_mono (v := v) hfresh
  have hE : Ext1 h ι (h.add (.cells c e .ro)) (ι.set h.nx v) := ⟨by rw [nx_add]; omega, rfl, fun o ho => get_add_ne (by omega), fun o ho => Inj.set_other _ _ _ (by omega)⟩
  have hget : ∀ o x, (h.add (.cells c e .ro)).get o = some x → (o = h.nx ∧ x = .cells c e .ro) ∨ h.get o = some x := fun o x ho => by
    rw [get_add] at ho
    split at ho
    · exact .inl ⟨‹_›, (Option.some.inj ho).symm⟩
    · exact .inr ho
  have hro : ∀ o x, (h.add (.cells c e .ro)).get o = some x → x.wr = false := fun o x ho => by
    rcases hget o x ho with ⟨_, rfl⟩ | ho
    · rfl
    · exact B.ro o x ho
  refine ⟨⟨⟨fun o x ho => ?_, fun o q x y vo vq _ ho hx => ?_, fun o ho => ?_, fun g hg => ?_, ?_⟩, hro, B.gd, ?_⟩, hE⟩
  · rcases hget o x ho with ⟨rfl, rfl⟩ | ho
    · refine ⟨by rw [nx_add]; omega, v, Inj.set_same .., h1, c', e', fr, hb, fun j x hx => ?_, fun h => absurd rfl h, fun h => by cases h⟩
      obtain ⟨y, hy, hv⟩ := hc j x hx
      exact ⟨y, hy, hv.mono mono⟩
    · obtain ⟨h2, u, hu, hor⟩ := B.rh.live o x ho
      exact ⟨by rw [nx_add]; omega, u, mono _ _ hu, hor.of_block mono rfl⟩
  · rw [hro o x ho] at hx; cases hx
  · rw [nx_add] at ho
    rw [Inj.set_other _ _ _ (by omega)]; exact B.rh.fresh o (by omega)
  · rw [Inj.set_other _ _ _ (by have := B.rh.gsize; omega)]; exact B.rh.glob g hg
  · rw [nx_add]; have := B.rh.gsize; omega
  · obtain ⟨x, u, a1, a2, a3, a4⟩ := B.some0
    exact ⟨x, u, by rw [get_add_ne (by omega)]; exact a1, by rw [Inj.set_other _ _ _ (by omega)]; exact a2, by rw [nx_add]; omega, a4⟩
theorem cells_take {a : Addr} {n : Nat} {cs : List Value} (h : W.cells? 0 a n = some cs) : cs.length = n ∧ ∀ j, j < n → W.cell? (a.add j) = cs[j]? := by
  unfold World.cells? at h
  rw [if_pos (Nat.zero_le _)] at h
  have hl := Lib.mapM_length h
  rw [List.length_range] at hl
  refine ⟨hl, fun j hj => ?_⟩
  obtain ⟨b, h1, h2⟩ := Lib.mapM_at h j j (by simp [hj])
  rw [h1, h2]
/-- A whole part is built, whatever a part is built of. -/
def Builds (H : Type) (enc : TypeId × Value → H) (P : Program) (W : World) (n : Nat) (t : TypeId) : Prop := ∀ (cs : List Value) (d : DataW H) (ps : List MemPlace), DataW.trod enc P W 0 (fun _ => true) true n t cs = some (d, ps) →
  ∀ ι h, Base P ι h W → ∃ ι' h' ev, Ext1 h ι h' ι' ∧ Base P ι' h' W ∧ VRs ι' ev cs ∧ ev.all one = true ∧ DE P h' n t ev d
theorem VRs.mono1 {ι ι' : Inj} {h h' : Hp} (E : Ext1 h ι h' ι') (R : ∀ o, h.nx ≤ o → ι o = none) {a b : List Value} (hv : VRs ι a b) : VRs ι' a b := hv.mono fun o v hv => by
  have : o < h.nx := by
    rcases Nat.lt_or_ge o h.nx with hh | hh
    · exact hh
    · rw [R o hh] at hv; cases hv
  rw [E.inj o this]; exact hv
/-- Parts, one after the other. -/
theorem build_list {n : Nat} : ∀ (l : List (TypeId × List Value × DataW H)), (∀ p ∈ l, Builds H enc P W n p.1 ∧ ∃ ps, DataW.trod enc P W 0 (fun _ => true) true n p.1 p.2.1 = some (p.2.2, ps)) → ∀ ι h, Base P ι h W →
    ∃ ι' h', ∃ evs : List (List Value), Ext1 h ι h' ι' ∧ Base P ι' h' W ∧ evs.length = l.length ∧ VRs ι' evs.flatten (l.map (·.2.1)).flatten ∧ evs.flatten.all one = true ∧
      ∀ i (hi : i < l.length), ∃ ev, evs[i]? = some ev ∧ VRs ι' ev l[i].2.1 ∧ DE P h' n l[i].1 ev l[i].2.2 := by
  intro l
  induction l with
  | nil => intro _ ι h B; exact ⟨ι, h, [], .refl _ _, B, rfl, .nil _, rfl, fun i hi => absurd hi (Nat.not_lt_zero _)⟩
  | cons p l ih =>
    intro hl ι h B
    obtain ⟨hb, ps, hp⟩ := hl p (List.mem_cons_self ..)
    obtain ⟨ι1, h1, ev, E1, B1, V1, O1, D1⟩ := hb _ _ _ hp ι h B
    obtain ⟨ι2, h2, evs, E2, B2, L2, V2, O2, D2⟩ := ih (fun q hq => hl q (List.mem_cons_of_mem _ hq)) ι1 h1 B1
    have V1' := VRs.mono1 E2 B1.rh.fresh V1
    refine ⟨ι2, h2, ev :: evs, E1.trans E2, B2, by simp [L2], ?_, ?_, fun i hi => ?_⟩
    · rw [List.flatten_cons, List.map_cons, List.flatten_cons]; exact V1'.append V2
    · rw [List.flatten_cons, List.all_append, O1, O2]; rfl
    · cases i with
      | zero => exact ⟨ev, rfl, V1', D1.mono E2.nx E2.get⟩
      | succ i => exact D2 i (by simpa using hi)
theorem flat_row {l : List (List Value)} {w : Nat} (hw : ∀ x ∈ l, x.length = w) : l.flatten.length = l.length * w ∧ ∀ i x, l[i]? = some x → (l.flatten.drop (i * w)).take w = x := by
  induction l with
  | nil => exact ⟨by simp, fun i x h => by simp at h⟩
  | cons y l ih =>
    obtain ⟨h1, h2⟩ := ih fun x hx => hw x (List.mem_cons_of_mem _ hx)
    have hy := hw y (List.mem_cons_self ..)
    refine ⟨by rw [List.flatten_cons, List.length_append, h1, hy, List.length_cons, Nat.add_mul]; omega, fun i x hx => ?_⟩
    rw [List.flatten_cons]
    cases i with
    | zero =>
      simp at hx
      subst hx
      rw [Nat.zero_mul, List.drop_zero, ← hy, List.take_left]
    | succ i =>
      rw [List.drop_append, List.drop_of_length_le (by rw [hy, Nat.add_mul]; omega), List.nil_append, hy, show (i + 1) * w - w = i * w by rw [Nat.add_mul]; omega]
      exact h2 i x (by simpa using hx)
/-- What a slice reads as. -/
theorem trod_slice {n : Nat} {e t : TypeId} (hu : P.underlying t = some (.slice e)) {cs : List Value} {d : DataW H} {ps : List MemPlace} (h : DataW.trod enc P W 0 (fun _ => true) true (n + 1) t cs = some (d, ps)) :
    (cs = [.slice none 0 0] ∧ d = .nil) ∨ ∃ (a : Addr) (len cap : Nat) (elems rest : List (DataW H × List MemPlace)), cs = [.slice (some a) len cap] ∧ len ≤ cap ∧ cap ≤ maxLen ∧
      (List.range len).mapM (fun i => (W.cells? 0 (a.add (i * P.cellsOf e)) (P.cellsOf e)).bind (DataW.trod enc P W 0 (fun _ => true) true n e)) = some elems ∧
      (List.range (cap - len)).mapM (fun j => (W.cells? 0 (a.add ((len + j) * P.cellsOf e)) (P.cellsOf e)).bind (DataW.trod enc P W 0 (fun _ => true) true n e)) = some rest ∧ d = .slice (elems.map (·.1)) (rest.map (·.1)) := by
  unfold DataW.trod at h
  rw [hu] at h
  rcases cs with _ | ⟨v, _ | ⟨w, r⟩⟩
  · cases h
  · cases v with
    | slice a len cap =>
      rcases a with _ | a
      · rcases len with _ | len
        · rcases cap with _ | cap
          · injection h with h; injection h with h1 h2; exact .inl ⟨rfl, h1.symm⟩
          · cases h
        · cases h
      · right
        simp only at h
        split at h
        · rename_i hc
          obtain ⟨elems, h1, h2⟩ := Option.bind_eq_some_iff.1 h
          obtain ⟨rest, h3, h4⟩ := Option.map_eq_some_iff.1 h2
          injection h4 with h4 h5
          rw [if_pos trivial] at h3
          exact ⟨a, len, cap, elems, rest, rfl, hc.2.1, hc.2.2, h1, h3, h4.symm⟩
        · cases h
    | _ => cases h
  · cases v with
    | slice a len cap => cases a <;> cases len <;> cases cap <;> cases h
    | _ => cases h
theorem cell_block {a : Addr} {v : Value} (h : W.cell? a = some v) : ∃ c e fr, W.heap[a.block]? = some (.cells c e fr) ∧ a.spot = none ∧ c[a.off]? = some v := by
  unfold World.cell? at h
  split at h
  · rename_i c e fr hb
    split at h
    · cases h
    · rename_i hs
      exact ⟨c, e, fr, hb, by simpa using hs, h⟩
  · cases h
theorem add_add (a : Addr) (i j : Nat) : ((a.add i).add j).block = a.block ∧ ((a.add i).add j).off = a.off + i + j := by
  unfold Addr.add
  by_cases hi : i = 0
  · subst hi; by_cases hj : j = 0
    · subst hj; exact ⟨rfl, rfl⟩
    · simp [hj]
  · by_cases hj : j = 0
    · subst hj; simp [hi]
    · simp [hi, hj]
theorem build_slice {n : Nat} {e t : TypeId} (he : Builds H enc P W n e) (hs : P.cellsOf e ≠ 0) (hu : P.underlying t = some (.slice e)) : Builds H enc P W (n + 1) t := by
  intro cs d ps h ι hp B
  rcases trod_slice hu h with ⟨rfl, rfl⟩ | ⟨a, len, cap, elems, rest, rfl, hlc, hcap, h1, h2, rfl⟩
  · exact ⟨ι, hp, [.slice none 0 0], .refl _ _, B, .of_flat rfl, rfl, by unfold DE; rw [hu]⟩
  have hcl : cap < unk := by
    have : unk = 18446744073709551616 := rfl
    have : maxLen = 2 ^ 63 - 1 := rfl
    omega
  have hcu : cap ≠ unk := Nat.ne_of_lt hcl
  have l1 := Lib.mapM_length h1
  have l2 := Lib.mapM_length h2
  rw [List.length_range] at l1 l2
  -- the elements
  let cell (i : Nat) : List Value := (W.cells? 0 (a.add (i * P.cellsOf e)) (P.cellsOf e)).getD []
  have el : ∀ i (hi : i < len), W.cells? 0 (a.add (i * P.cellsOf e)) (P.cellsOf e) = some (cell i) ∧ DataW.trod enc P W 0 (fun _ => true) true n e (cell i) = some (elems[i]'(by omega)) := by
    intro i hi
    obtain ⟨b, e1, e2⟩ := Lib.mapM_at h1 i i (by simp [hi])
    obtain ⟨c, e3, e4⟩ := Option.bind_eq_some_iff.1 e2
    have hc : cell i = c := by show (W.cells? 0 _ _).getD [] = c; rw [e3]; rfl
    rw [hc]
    refine ⟨e3, ?_⟩
    rw [e4, ← e1, List.getElem?_eq_getElem]
  by_cases hcap0 : cap = 0
  · -- nothing at all
    subst hcap0
    obtain rfl : len = 0 := by omega
    obtain ⟨x, v, g1, g2, g3, c, e', rfl⟩ := B.some0
    have he0 : elems = [] := List.length_eq_zero_iff.1 l1
    subst he0
    refine ⟨ι, hp, [.slice (some ⟨0, 0, none⟩) 0 0], .refl _ _, B, .cons (.sl0 g2 (.inr rfl)) (.nil _), rfl, ?_⟩
    unfold DE
    rw [hu]
    have hm : ∃ c' e'', hp.get 0 = some (.cells c' e'' .ro) := by
      refine ⟨c, e', ?_⟩
      have := B.ro 0 _ g1
      rw [g1]
    obtain ⟨c', e'', hm⟩ := hm
    exact ⟨0, 0, c', e'', rfl, hcl, Nat.le_refl _, g3, hm, by simp, fun i hi => absurd hi (Nat.not_lt_zero _)⟩
  · -- the block
    have hblk : ∃ c' e' fr, W.heap[a.block]? = some (.cells c' e' fr) ∧ a.spot = none := by
      have first : ∃ c, W.cells? 0 a (P.cellsOf e) = some c := by
        rcases Nat.eq_zero_or_pos len with h0 | h0
        · obtain ⟨b, _, e2⟩ := Lib.mapM_at h2 0 0 (by rw [List.getElem?_eq_getElem (by simp; omega)]; simp)
          obtain ⟨c, e3, _⟩ := Option.bind_eq_some_iff.1 e2
          rw [h0, Nat.zero_add, Nat.zero_mul] at e3
          exact ⟨c, e3⟩
        · have := (el 0 h0).1
          rw [Nat.zero_mul] at this
          exact ⟨_, this⟩
      obtain ⟨c, hc⟩ := first
      obtain ⟨g1, g2⟩ := cells_take hc
      have := g2 0 (by omega)
      obtain ⟨v, hv⟩ : ∃ v, c[0]? = some v := ⟨c[0]'(by omega), List.getElem?_eq_getElem _⟩
      rw [hv] at this
      obtain ⟨c', e', fr, q1, q2, _⟩ := cell_block this
      exact ⟨c', e', fr, q1, q2⟩
    obtain ⟨c', e', fr, hb, hsp⟩ := hblk
    let l : List (TypeId × List Value × DataW H) := (List.range len).map fun i => (e, cell i, ((elems.map (·.1))[i]?).getD .nil)
    have hll : l.length = len := by simp [l]
    have lget : ∀ i (hi : i < l.length), l[i] = (e, cell i, (elems[i]'(by omega)).1) := by
      intro i hi
      have hi' : i < elems.length := by omega
      simp [l, hi']
    obtain ⟨ι1, h3, evs, E1, B1, L1, V1, O1, D1⟩ := build_list l (fun p hpm => by
      obtain ⟨i, hi, rfl⟩ := List.getElem_of_mem hpm
      rw [lget i hi]
      exact ⟨he, _, (el i (by omega)).2⟩) ι hp B
    have hw : ∀ x ∈ evs, x.length = P.cellsOf e := by
      intro x hx
      obtain ⟨i, hi, rfl⟩ := List.getElem_of_mem hx
      obtain ⟨ev, e1, e2, _⟩ := D1 i (by omega)
      rw [List.getElem?_eq_getElem hi] at e1
      obtain rfl := Option.some.inj e1
      rw [← e2.1, lget i (by omega)]
      exact (cells_take (el i (by omega)).1).1
    obtain ⟨f1, f2⟩ := flat_row hw
    obtain ⟨B2, E2⟩ := B1.push (c := evs.flatten) (e := e) (v := ⟨a.block, a.off, 0, 0⟩) O1 hb (fun j x hx => by
      have hj : j < evs.flatten.length := (List.getElem?_eq_some_iff.1 hx).1
      rw [f1, L1, hll] at hj
      have hlt : j / P.cellsOf e < len := Nat.div_lt_of_lt_mul (by rw [Nat.mul_comm]; exact hj)
      have hmod : j % P.cellsOf e < P.cellsOf e := Nat.mod_lt _ (by omega)
      have hdm : j = j / P.cellsOf e * P.cellsOf e + j % P.cellsOf e := by rw [Nat.mul_comm]; exact (Nat.div_add_mod j _).symm
      obtain ⟨ev, e1, e2, _⟩ := D1 (j / P.cellsOf e) (by omega)
      have e3 := f2 _ _ e1
      have hx' : ev[j % P.cellsOf e]? = some x := by
        rw [← e3, List.getElem?_take, if_pos hmod, List.getElem?_drop, ← hdm]; exact hx
      obtain ⟨y, hy, hv⟩ := e2.get hx'
      rw [lget _ (by omega)] at hy
      have hy : (cell (j / P.cellsOf e))[j % P.cellsOf e]? = some y := hy
      have := (cells_take (el _ hlt).1).2 _ hmod
      rw [hy] at this
      obtain ⟨c2, e2', fr2, q1, _, q3⟩ := cell_block this
      obtain ⟨p1, p2⟩ := add_add a (j / P.cellsOf e * P.cellsOf e) (j % P.cellsOf e)
      rw [p1] at q1
      rw [p2] at q3
      rw [hb] at q1
      injection q1 with q1
      injection q1 with q1 _ _
      subst q1
      exact ⟨y, by rw [show a.off + j = a.off + j / P.cellsOf e * P.cellsOf e + j % P.cellsOf e by omega]; exact q3, hv⟩)
    refine ⟨_, _, [.slice (some ⟨h3.nx, 0, none⟩) len cap], E1.trans E2, B2, .cons ?_ (.nil _), rfl, ?_⟩
    · have ha : a = ⟨a.block, a.off + 0, none⟩ := by cases a; simp at hsp; subst hsp; rfl
      rw [ha]
      exact .slc (w := ⟨a.block, a.off, 0, 0⟩) (Inj.set_same ..) hcu
    · unfold DE
      rw [hu]
      have hel : (elems.map (·.1)).length = len := by simp [l1]
      refine ⟨h3.nx, cap, evs.flatten, e, by rw [hel], hcl, by rw [hel]; exact hlc, by rw [nx_add]; omega, get_add_same .., Nat.le_of_eq (by rw [hel, f1, L1, hll]), fun i hi => ?_⟩
      rw [hel] at hi
      obtain ⟨ev, e1, _, e3⟩ := D1 i (by omega)
      rw [f2 i ev e1]
      rw [lget i (by omega)] at e3
      have : (elems.map (·.1))[i]'(by rw [hel]; exact hi) = (elems[i]'(by omega)).1 := by simp
      rw [this]
      exact e3.mono (by rw [nx_add]; omega) fun o ho => get_add_ne (by omega)
theorem build_int {n : Nat} {t : TypeId} {k : IntKind} (hu : P.underlying t = some (.int k)) : Builds H enc P W (n + 1) t := by
  intro cs d ps h ι hp B
  unfold DataW.trod at h
  rw [hu] at h
  rcases cs with _ | ⟨v, _ | ⟨w, r⟩⟩
  · cases h
  · cases v with
    | int k' x =>
      simp only at h
      split at h
      · rename_i hc
        injection h with h; injection h with h _
        subst h
        obtain ⟨rfl, hw⟩ := hc
        exact ⟨ι, hp, [.int k' x], .refl _ _, B, .of_flat rfl, rfl, by unfold DE; rw [hu]; exact ⟨rfl, rfl, hw⟩⟩
      · cases h
    | slice a len cap => cases a <;> cases len <;> cases cap <;> cases h
    | _ => cases h
  · cases v with
    | slice a len cap => cases a <;> cases len <;> cases cap <;> cases h
    | _ => cases h
end
end Go.Ev
/- A law's arguments, as the evaluator's memory; from its word to the kit's. -/
namespace Go.Ev
open Go Go.ChangeShapes Go.WideShapes Go.ChangeAt Go.RowKit
section
variable {H : Type} {enc : TypeId × Value → H} {P : Program} {W : World}
/-- Arguments that read as some data. -/
def DEs (P : Program) (h : Hp) : List TypeId → List Value → List (DataW H) → Prop
  | [], [], [] => True
  | t :: ts, v :: vs, d :: ds => ((∃ n, DE P h n t v.cells.toList d) ∧ (aggT P t = some true ∨ v.cells.toList = [v])) ∧ DEs P h ts vs ds
  | _, _, _ => False
theorem DEs.mono {h h' : Hp} (hn : h.nx ≤ h'.nx) (hg : ∀ o, o < h.nx → h'.get o = h.get o) : ∀ {ts : List TypeId} {vs : List Value} {ds : List (DataW H)}, DEs P h ts vs ds → DEs P h' ts vs ds
  | [], [], [], h => h
  | _ :: _, _ :: _, _ :: _, ⟨⟨⟨n, h1⟩, h3⟩, h2⟩ => ⟨⟨⟨n, h1.mono hn hg⟩, h3⟩, h2.mono hn hg⟩
/-- A value is one cell, or a struct's or a row's cells. -/
def Shaped1 (P : Program) (t : TypeId) (v : Value) : Prop := v.cells.toList = [v] ∨ (∃ cs, v = .agg cs) ∧ aggT P t = some true
theorem args_build : ∀ {ts : List TypeId} {vs : List Value} {ds : List (DataW H)} {p : List MemPlace}, DataW.TrodAll enc P W 0 (fun _ => true) true ts vs ds p → (∀ t ∈ ts, ∀ n, Builds H enc P W n t) → (∀ (i : Nat) t v, ts[i]? = some t → vs[i]? = some v → Shaped1 P t v) → ∀ ι h, Base P ι h W →
    ∃ ι' h' evs, Ext1 h ι h' ι' ∧ Base P ι' h' W ∧ VRs ι' evs vs ∧ DEs P h' ts evs ds
  | [], [], [], _, _, _, _, ι, h, B => ⟨ι, h, [], .refl _ _, B, .nil _, trivial⟩
  | t :: ts, v :: vs, d :: ds, _, ⟨p, q, ⟨n, h1⟩, h2, _⟩, hb, hs, ι, h, B => by
    obtain ⟨ι1, h3, ev, E1, B1, V1, O1, D1⟩ := hb t (List.mem_cons_self ..) n _ _ _ h1 ι h B
    obtain ⟨ι2, h4, evs, E2, B2, V2, D2⟩ := args_build h2 (fun t ht => hb t (List.mem_cons_of_mem _ ht)) (fun i t v a b => hs (i + 1) t v (by simpa using a) (by simpa using b)) ι1 h3 B1
    have V1' := VRs.mono1 E2 B1.rh.fresh V1
    rcases hs 0 t v rfl rfl with hc | ⟨⟨cs, rfl⟩, hag⟩
    · rw [hc] at V1'
      have hl : ev.length = 1 := by have := V1'.1; simpa using this.symm
      obtain ⟨x, rfl⟩ : ∃ x, ev = [x] := List.length_eq_one_iff.1 hl
      have hx : x.cells.toList = [x] := by
        have : one x = true := by simpa using O1
        cases x <;> first | rfl | cases this
      obtain ⟨y, c, e1, e2, _⟩ := V1'.head
      injection e1 with e1 _
      subst e1
      refine ⟨ι2, h4, x :: evs, E1.trans E2, B2, .cons e2 V2, ⟨⟨n, ?_⟩, .inr hx⟩, D2⟩
      rw [hx]; exact D1.mono E2.nx E2.get
    · refine ⟨ι2, h4, .agg ev.toArray :: evs, E1.trans E2, B2, .cons ?_ V2, ⟨⟨n, ?_⟩, .inl hag⟩, D2⟩
      · have V1'' : VRs ι2 ev.toArray.toList cs.toList := by rw [List.toList_toArray]; exact V1'
        obtain ⟨a1, a2⟩ := VRs.arr.1 V1''
        exact .agg a1 a2
      · show DE P h4 n t (ev.toArray).toList d
        simpa using D1.mono E2.nx E2.get
theorem shaped_of {r : Reach} {base n : Nat} {t : TypeId} {v : Value} (hp : Plain P n t = true) (h : Value.okWide P W r base t v) : Shaped1 P t v := by
  cases n with
  | zero => cases hp
  | succ n =>
    unfold Plain at hp
    unfold Value.okWide at h
    split at hp
    · rename_i hu
      rw [hu] at h
      unfold Cell.okWide Cell.ok at h
      rw [hu] at h
      cases v <;> first | exact .inl rfl | exact h.elim
    · rename_i hu
      rw [hu] at h
      unfold Cell.okWide Cell.ok at h
      rw [hu] at h
      cases v <;> first | exact .inl rfl | exact h.elim
    · rename_i hu
      rw [hu] at h
      unfold Cell.okWide Cell.ok at h
      rw [hu] at h
      cases v <;> first | exact .inl rfl | exact h.elim
    · rename_i hu
      rw [hu] at h
      obtain ⟨cs, rfl, _⟩ := h
      exact .inr ⟨⟨cs, rfl⟩, by unfold aggT; rw [hu]⟩
    · rename_i hu
      rw [hu] at h
      obtain ⟨cs, rfl, _⟩ := h
      exact .inr ⟨⟨cs, rfl⟩, by unfold aggT; rw [hu]⟩
    · cases hp
theorem DE_int {h : Hp} {n : Nat} {t : TypeId} {k : IntKind} (hu : P.underlying t = some (.int k)) {cs : List Value} {d : DataW H} (hd : DE P h n t cs d) : ∃ x, cs = [.int k x] ∧ (Lit.int k x).wf = true := by
  cases n with
  | zero => exact hd.elim
  | succ n =>
    unfold DE at hd
    rw [hu] at hd
    split at hd
    all_goals first | (rename_i heq; cases heq; done) | skip
    · rename_i k' k2 x heq
      injection heq with heq; injection heq with heq
      subst heq
      exact ⟨x, hd.2⟩
    all_goals first | exact hd.elim | skip
/-- A list of whole numbers. -/
theorem DE_ints {h : Hp} {n : Nat} {t e : TypeId} (hu : P.underlying t = some (.slice e)) (he : P.underlying e = some (.int .i64)) (hc : P.cellsOf e = 1) {cs : List Value} {d : DataW H} (hd : DE P h n t cs d) :
    ∃ a m c xs, cs = [.slice a m c] ∧ IntsAt h a m xs ∧ c < unk ∧ m ≤ c := by
  cases n with
  | zero => exact hd.elim
  | succ n =>
    unfold DE at hd
    rw [hu] at hd
    split at hd
    all_goals first | (rename_i heq; cases heq; done) | skip
    · exact ⟨none, 0, 0, [], hd, SlAt.nil .., by decide, Nat.le_refl _⟩
    · rename_i e2 elems sp heq
      injection heq with heq; injection heq with heq
      subst heq
      obtain ⟨k, cap, c, e', h1, h2, h3, h4, h5, h6, h7⟩ := hd
      rw [hc] at h6
      have hx : ∀ i (hi : i < elems.length), ∃ x, (c.drop (i * 1)).take 1 = [.int .i64 x] := fun i hi => by
        have := h7 i hi
        rw [hc] at this
        obtain ⟨x, hx, _⟩ := DE_int he this
        exact ⟨x, hx⟩
      let xs : List Int := (List.range elems.length).map fun i => if hi : i < elems.length then (hx i hi).choose else 0
      have hl : xs.length = elems.length := by simp [xs]
      refine ⟨some ⟨k, 0, none⟩, elems.length, cap, xs, h1, ⟨hl.symm, .inr ⟨k, 0, c, e', .ro, rfl, h4, h5, by rw [hl]; omega, fun i hi => ?_⟩⟩, h2, h3⟩
      rw [hl] at hi
      show (c.drop (0 + i * 1)).take 1 = [.int .i64 xs[i]]
      have : xs[i]'(by rw [hl]; exact hi) = (hx i hi).choose := by simp [xs, hi]
      rw [this, Nat.zero_add]
      exact (hx i hi).choose_spec
    all_goals first | exact hd.elim | skip
/-- What was there stays, but for what is new. -/
theorem post_of_old {f : Func} {s : ChangeSpec} {apart fresh handsOn again : Bool} {W W' : World} {args : Array Value} {v : Value} {ds gs : List (DataW H)} {before pa pv : List MemPlace}
    (hW : DataW.Whole enc P f.params.toList s.vars apart W args.toList ds gs before)
    (hres : ∀ (b : Nat) (sp : Nat → Bool) (hd : Bool), DataW.TrodAll enc P W' b sp hd f.resultTypes.toList (v.resultList f.resultTypes.size) (s.fn H (ds ++ gs)).results [])
    (hargs : ∀ sp : Nat → Bool, (∀ p ∈ before, sp p.block = true) → DataW.TrodAll enc P W' 0 sp true f.params.toList args.toList (s.fn H (ds ++ gs)).args pa)
    (hvars : ∀ sp : Nat → Bool, (∀ p ∈ before, sp p.block = true) → DataW.TrodVars enc P W' sp s.vars (s.fn H (ds ++ gs)).vars pv)
    (hps : before = pa ++ pv) (hk : W.keptBut W' (· ∈ before)) (hfz : ∀ a : Addr, a.block < W.heap.size → W'.frozen? a = W.frozen? a)
    (hok : ∀ (j : Nat) (t : TypeId) (r : Value), f.resultTypes[j]? = some t → (v.resultList f.resultTypes.size)[j]? = some r → Value.okWide P W' .any 0 t r) :
    s.post enc P f apart fresh handsOn again W args v W' := by
  have hold : ∀ p ∈ before, (fun b => decide (b < W.heap.size)) p.block = true := fun p hp => by simpa using hW.lt p hp
  have hlt := hW.lt
  refine ⟨ds, gs, before, [], pa, pv, hW, hres _ _ _, hargs _ hold, hvars _ hold, World.keptBut_mono (fun p hp => ⟨hp, ?_⟩) hk, fun _ => ?_⟩
  · rw [hps, List.mem_append] at hp
    exact Or.inr hp
  · obtain ⟨_, _, _, _, _, hz, hn⟩ := hW
    refine ⟨hok, _, _, ([] ++ pa) ++ pv, ⟨[] ++ pa, pv, trodAll_append (hargs _ (fun _ _ => rfl)) (hres _ _ _), hvars _ (fun _ _ => rfl), rfl, ?_, ?_⟩, ?_⟩
    · intro b off hp
      have hp2 : MemPlace.cell b off ∈ before := by rw [hps]; simpa using hp
      rw [hfz _ (hlt _ hp2)]
      exact hz b off hp2
    · intro ha
      have := hn ha
      rw [hps] at this
      simpa using this
    · intro p hp _
      rw [hps]
      simpa using hp
/-- Arguments read again as they did. -/
theorem again {ts : List TypeId} {vs : List Value} {ds : List (DataW H)} {p : List MemPlace} {W' : World} (K : Kids P (· < P.types.size)) (full : ∀ t e, t < P.types.size → P.underlying t = some (.slice e) → 0 < P.cellsOf e) (hts : ∀ t ∈ ts, t < P.types.size)
    (hA : DataW.TrodAll enc P W 0 (fun _ => true) true ts vs ds p) (hb : Below W.heap.size W W') (hlt : ∀ q ∈ p, q.block < W.heap.size) (sp : Nat → Bool) (hs : ∀ q ∈ p, sp q.block = true) : DataW.TrodAll enc P W' 0 sp true ts vs ds p := by
  have hA' := DataW.TrodAll.respare K full hts hA hs
  clear hA hs hts
  induction ts generalizing vs ds p with
  | nil => match vs, ds, hA' with
    | [], [], h => exact h
  | cons t ts ih => match vs, ds, hA' with
    | v :: vs, d :: ds, ⟨p1, p2, ⟨n, h1⟩, h2, e⟩ =>
      subst e
      exact ⟨p1, p2, ⟨n, DataW.trod_carry n _ _ _ h1 fun q hq => hb.same (hlt q (List.mem_append_left _ hq))⟩, ih (fun q hq => hlt q (List.mem_append_right _ hq)) h2, rfl⟩
end
end Go.Ev
/- A law's arguments, as the evaluator's memory: structs, rows, and lists of lists. -/
namespace Go.Ev
open Go Go.ChangeShapes Go.WideShapes Go.ChangeAt Go.RowKit
section
variable {H : Type} {enc : TypeId × Value → H} {P : Program} {W : World}
/-- Fields one behind the other are the whole. -/
theorem lay_flat {n : Nat} : ∀ (fs : List Field) (off : Nat), layOk P off fs n = true → ∀ (cs : List Value), cs.length = n → (fs.map fun f => (cs.drop f.offset).take (P.cellsOf f.type)).flatten = cs.drop off := by
  intro fs
  induction fs with
  | nil =>
    intro off h cs hc
    have : off = n := Nat.eq_of_beq_eq_true h
    rw [List.drop_of_length_le (by omega)]; rfl
  | cons f fs ih =>
    intro off h cs hc
    simp only [layOk, Bool.and_eq_true] at h
    have h1 : f.offset = off := Nat.eq_of_beq_eq_true h.1
    rw [List.map_cons, List.flatten_cons, ih _ h.2 cs hc, h1, ← List.drop_drop, List.take_append_drop]
theorem lay_part {n : Nat} : ∀ (fs : List Field) (off : Nat), layOk P off fs n = true → ∀ (evs : List (List Value)), evs.length = fs.length → (∀ (i : Nat) f ev, fs[i]? = some f → evs[i]? = some ev → ev.length = P.cellsOf f.type) →
    ∀ (i : Nat) f ev, fs[i]? = some f → evs[i]? = some ev → off ≤ f.offset ∧ (evs.flatten.drop (f.offset - off)).take (P.cellsOf f.type) = ev := by
  intro fs
  induction fs with
  | nil => intro off _ evs _ _ i f ev hf; simp at hf
  | cons g fs ih =>
    intro off h evs hl hlen i f ev hf he
    simp only [layOk, Bool.and_eq_true] at h
    have h1 : g.offset = off := Nat.eq_of_beq_eq_true h.1
    rcases evs with _ | ⟨e0, evs⟩
    · simp at hl
    have hl0 : e0.length = P.cellsOf g.type := hlen 0 g e0 rfl rfl
    cases i with
    | zero =>
      simp at hf he
      subst hf he
      refine ⟨by omega, ?_⟩
      rw [h1, Nat.sub_self, List.drop_zero, List.flatten_cons, ← hl0, List.take_left]
    | succ i =>
      obtain ⟨g1, g2⟩ := ih _ h.2 evs (by simpa using hl) (fun i f ev a b => hlen (i + 1) f ev (by simpa using a) (by simpa using b)) i f ev (by simpa using hf) (by simpa using he)
      refine ⟨by omega, ?_⟩
      rw [List.flatten_cons, List.drop_append, List.drop_of_length_le (by omega), List.nil_append, show f.offset - off - e0.length = f.offset - (off + P.cellsOf g.type) by omega]
      exact g2
theorem lay_fit {n : Nat} : ∀ (fs : List Field) (off : Nat), layOk P off fs n = true → off ≤ n ∧ ∀ f ∈ fs, f.offset + P.cellsOf f.type ≤ n := by
  intro fs
  induction fs with
  | nil => intro off h; exact ⟨Nat.le_of_eq (Nat.eq_of_beq_eq_true h), fun f hf => by cases hf⟩
  | cons g fs ih =>
    intro off h
    simp only [layOk, Bool.and_eq_true] at h
    have h1 : g.offset = off := Nat.eq_of_beq_eq_true h.1
    obtain ⟨a, b⟩ := ih _ h.2
    refine ⟨by omega, fun f hf => ?_⟩
    rcases List.mem_cons.1 hf with rfl | hf
    · omega
    · exact b f hf
theorem build_struct {n : Nat} {fs : Array Field} {t : TypeId} (he : ∀ f ∈ fs.toList, Builds H enc P W n f.type) (hlay : layOk P 0 fs.toList (P.cellsOf t) = true) (hu : P.underlying t = some (.struct fs)) : Builds H enc P W (n + 1) t := by
  intro cs d ps h ι hp B
  have h : (if cs.length = P.cellsOf t then (fs.toList.mapM fun f => DataW.trod enc P W 0 (fun _ => true) true n f.type ((cs.drop f.offset).take (P.cellsOf f.type))).map fun xs => (DataW.agg (xs.map (·.1)), xs.flatMap (·.2)) else none) = some (d, ps) := by
    unfold DataW.trod at h
    rw [hu] at h
    exact h
  split at h
  · rename_i hc
    obtain ⟨xs, h1, h2⟩ := Option.map_eq_some_iff.1 h
    injection h2 with h2 _
    subst h2
    have l1 := Lib.mapM_length h1
    let l : List (TypeId × List Value × DataW H) := (fs.toList.zip (xs.map (·.1))).map fun p => (p.1.type, (cs.drop p.1.offset).take (P.cellsOf p.1.type), p.2)
    have hll : l.length = fs.toList.length := by simp [l, l1]
    have lget : ∀ i (hi : i < l.length), ∃ f x, fs.toList[i]? = some f ∧ xs[i]? = some x ∧ l[i] = (f.type, (cs.drop f.offset).take (P.cellsOf f.type), x.1) ∧ DataW.trod enc P W 0 (fun _ => true) true n f.type ((cs.drop f.offset).take (P.cellsOf f.type)) = some x := by
      intro i hi
      have hi1 : i < fs.toList.length := by omega
      have hi2 : i < xs.length := by omega
      obtain ⟨b, e1, e2⟩ := Lib.mapM_at h1 i _ (List.getElem?_eq_getElem hi1)
      rw [List.getElem?_eq_getElem hi2] at e1
      obtain rfl := Option.some.inj e1
      exact ⟨_, _, List.getElem?_eq_getElem hi1, List.getElem?_eq_getElem hi2, by simp [l], e2⟩
    obtain ⟨ι1, h3, evs, E1, B1, L1, V1, O1, D1⟩ := build_list l (fun p hpm => by
      obtain ⟨i, hi, rfl⟩ := List.getElem_of_mem hpm
      obtain ⟨f, x, a1, a2, a3, a4⟩ := lget i hi
      rw [a3]
      exact ⟨he f (List.mem_of_getElem? a1), _, a4⟩) ι hp B
    have hcells : l.map (·.2.1) = fs.toList.map fun f => (cs.drop f.offset).take (P.cellsOf f.type) := by
      refine List.ext_getElem (by simp [hll]) fun i hi hi' => ?_
      have hi3 : i < l.length := by simpa using hi
      obtain ⟨f, x, a1, a2, a3, a4⟩ := lget i hi3
      have hi4 : i < fs.toList.length := by omega
      have hf : fs.toList[i] = f := by rw [List.getElem?_eq_getElem hi4] at a1; exact Option.some.inj a1
      simp only [List.getElem_map]
      rw [a3, hf]
    rw [hcells, lay_flat fs.toList 0 hlay cs hc, List.drop_zero] at V1
    refine ⟨ι1, h3, evs.flatten, E1, B1, V1, O1, ?_⟩
    unfold DE
    rw [hu]
    have hlen : ∀ (i : Nat) f ev, fs.toList[i]? = some f → evs[i]? = some ev → ev.length = P.cellsOf f.type := by
      intro i f ev hf hev
      have hi : i < l.length := by have := (List.getElem?_eq_some_iff.1 hf).1; omega
      obtain ⟨ev', e1, e2, _⟩ := D1 i hi
      rw [hev] at e1
      obtain rfl := Option.some.inj e1
      obtain ⟨f', x, a1, a2, a3, a4⟩ := lget i hi
      rw [hf] at a1
      obtain rfl := Option.some.inj a1
      rw [← e2.1, a3]
      have hfit := (lay_fit fs.toList 0 hlay).2 f (List.mem_of_getElem? hf)
      show ((cs.drop f.offset).take (P.cellsOf f.type)).length = _
      rw [List.length_take, List.length_drop]; omega
    refine ⟨by rw [← V1.1]; exact hc, by simp [l1], fun i hi f hf => ?_⟩
    have hi2 : i < l.length := by simp at hi; omega
    obtain ⟨ev, e1, e2, e3⟩ := D1 i hi2
    obtain ⟨f', x, a1, a2, a3, a4⟩ := lget i hi2
    have hf' : fs.toList[i]? = some f := by rw [Array.getElem?_toList]; exact hf
    rw [hf'] at a1
    obtain rfl := Option.some.inj a1
    have := (lay_part fs.toList 0 hlay evs (by omega) hlen i f ev hf' e1).2
    rw [Nat.sub_zero] at this
    rw [this]
    rw [a3] at e3
    have hx : (xs.map (·.1))[i]'(by simpa using hi) = x.1 := by
      have hi3 : i < xs.length := by simpa using hi
      rw [List.getElem?_eq_getElem hi3] at a2
      obtain rfl := Option.some.inj a2
      simp
    rw [hx]; exact e3
  · cases h
/-- A list of lists of whole numbers. -/
theorem DE_intss {h : Hp} {n : Nat} {t e i : TypeId} (hu : P.underlying t = some (.slice e)) (he : P.underlying e = some (.slice i)) (hi : P.underlying i = some (.int .i64)) (hc1 : P.cellsOf i = 1) (hc : P.cellsOf e = 1) {cs : List Value} {d : DataW H} (hd : DE P h n t cs d) :
    ∃ a m c xs, cs = [.slice a m c] ∧ IntssAt h a m xs ∧ c < unk ∧ m ≤ c := by
  cases n with
  | zero => exact hd.elim
  | succ n =>
    unfold DE at hd
    rw [hu] at hd
    split at hd
    all_goals first | (rename_i heq; cases heq; done) | skip
    · exact ⟨none, 0, 0, [], hd, SlAt.nil .., by decide, Nat.le_refl _⟩
    · rename_i e2 elems sp heq
      injection heq with heq; injection heq with heq
      subst heq
      obtain ⟨k, cap, c, e', h1, h2, h3, h4, h5, h6, h7⟩ := hd
      rw [hc] at h6
      have hx : ∀ i (hi : i < elems.length), ∃ x, EInts h x ((c.drop (i * 1)).take 1) := fun i hi' => by
        have := h7 i hi'
        rw [hc] at this
        obtain ⟨a, m, c, xs, e1, e2, _⟩ := DE_ints he hi hc1 this
        exact ⟨xs, a, m, c, e1, e2⟩
      let xs : List (List Int) := (List.range elems.length).map fun i => if hi : i < elems.length then (hx i hi).choose else []
      have hl : xs.length = elems.length := by simp [xs]
      refine ⟨some ⟨k, 0, none⟩, elems.length, cap, xs, h1, ⟨hl.symm, .inr ⟨k, 0, c, e', .ro, rfl, h4, h5, by rw [hl]; omega, fun i hi => ?_⟩⟩, h2, h3⟩
      rw [hl] at hi
      show EInts h xs[i] ((c.drop (0 + i * 1)).take 1)
      have : xs[i]'(by rw [hl]; exact hi) = (hx i hi).choose := by simp [xs, hi]
      rw [this, Nat.zero_add]
      exact (hx i hi).choose_spec
    all_goals first | exact hd.elim | skip
/-- The parts of a struct. -/
theorem DE_struct {h : Hp} {n : Nat} {t : TypeId} {fs : Array Field} (hu : P.underlying t = some (.struct fs)) {cs : List Value} {d : DataW H} (hd : DE P h (n + 1) t cs d) :
    cs.length = P.cellsOf t ∧ ∀ (i : Nat) (f : Field), fs[i]? = some f → ∃ d' : DataW H, DE P h n f.type ((cs.drop f.offset).take (P.cellsOf f.type)) d' := by
  unfold DE at hd
  rw [hu] at hd
  split at hd
  all_goals first | (rename_i heq; cases heq; done) | skip
  · rename_i fs' parts heq
    injection heq with heq; injection heq with heq
    subst heq
    obtain ⟨h1, h2, h3⟩ := hd
    refine ⟨h1, fun i f hf => ?_⟩
    have hi : i < parts.length := by rw [h2]; exact (Array.getElem?_eq_some_iff.1 hf).1
    exact ⟨_, h3 i hi f hf⟩
  all_goals first | exact hd.elim | skip
/-- A value of two cells is a struct. -/
theorem agg_of_two {v x y : Value} (h : v.cells.toList = [x, y]) : v = .agg #[x, y] := by
  cases v with
  | agg cs =>
    have h : cs.toList = [x, y] := h
    obtain ⟨l⟩ := cs
    have h : l = [x, y] := h
    rw [h]
  | _ => cases h
theorem two_of {cs : List Value} {x y : Value} (hl : cs.length = 2) (h1 : (cs.drop 0).take 1 = [x]) (h2 : (cs.drop 1).take 1 = [y]) : cs = [x, y] := by
  rcases cs with _ | ⟨a, _ | ⟨b, _ | ⟨c, r⟩⟩⟩
  · cases hl
  · cases hl
  · simp at h1 h2; rw [h1, h2]
  · simp at hl
end
end Go.Ev
/- A law's arguments, as the evaluator's memory: rows. -/
namespace Go.Ev
open Go Go.ChangeShapes Go.WideShapes Go.ChangeAt Go.RowKit
section
variable {H : Type} {enc : TypeId × Value → H} {P : Program} {W : World}
/-- Cells are whole numbers of a kind, each in its range. -/
def AllInt (k : IntKind) (cs : List Value) : Prop := ∀ v ∈ cs, ∃ x, v = .int k x ∧ (Lit.int k x).wf = true
theorem AllInt.list {k : IntKind} : ∀ {cs : List Value}, AllInt k cs → ∃ xs : List Int, cs = xs.map (Value.int k) ∧ ∀ x ∈ xs, (Lit.int k x).wf = true := by
  intro cs
  induction cs with
  | nil => intro _; exact ⟨[], rfl, fun x h => by cases h⟩
  | cons v cs ih =>
    intro h
    obtain ⟨x, rfl, hx⟩ := h v (List.mem_cons_self ..)
    obtain ⟨xs, rfl, hxs⟩ := ih fun w hw => h w (List.mem_cons_of_mem _ hw)
    exact ⟨x :: xs, rfl, fun y hy => by
      rcases List.mem_cons.1 hy with rfl | hy
      · exact hx
      · exact hxs y hy⟩
end
end Go.Ev
namespace Go.Proofs.YtfgfhplgnfbaaaaDoor
open Go.Ev
theorem works_ev : saysTrue (evCall Tryd.prog 1000 100 27 [] h0) = true := by kernel_rfl
end Go.Proofs.YtfgfhplgnfbaaaaDoor
/- Two writes into one row are one append and one write. -/
namespace Go.Ev
open Go
theorem sc_get {w : World} {b o : Nat} {vs : List Value} {c : Array Value} {e : TypeId} {fr : Nat × Nat} (hb : w.heap[b]? = some (.cells c e fr)) (hl : o + vs.length ≤ c.size) :
    ∃ c2, (w.setCells b o vs).heap[b]? = some (.cells c2 e fr) ∧ c2.size = c.size ∧ ∀ i, c2[i]? = if o ≤ i ∧ i < o + vs.length then vs[i - o]? else c[i]? := by
  obtain ⟨_, _, _, _, _, s6⟩ := setCells_facts b vs o w
  obtain ⟨c2, h1, h2, h3⟩ := s6 _ _ _ hb
  exact ⟨c2, h1, h2, h3 hl⟩
/-- In place: what stands from the place on is moved up, then the value is laid. -/
theorem ins_shift {w : World} {b p i n : Nat} {x : Value} {cs : List Value} {c : Array Value} {e : TypeId} {fr : Nat × Nat} (hb : w.heap[b]? = some (.cells c e fr)) (hn : cs.length = n) (hi : i ≤ n) (hl : p + n + 1 ≤ c.size) :
    ((w.drew.setCells b (p + (i + 1)) (cs.drop i)).setCells b (p + i) [x]).heap = ((w.setCells b (p + n) [x]).setCells b (p + i) (x :: cs.drop i)).heap := by
  have hdl : (cs.drop i).length = n - i := by rw [List.length_drop, hn]
  have hbd : w.drew.heap[b]? = some (.cells c e fr) := hb
  obtain ⟨c1, a1, a2, a3⟩ := sc_get (o := p + (i + 1)) (vs := cs.drop i) hbd (by omega)
  obtain ⟨c2, b1, b2, b3⟩ := sc_get (o := p + i) (vs := [x]) a1 (by rw [a2]; show p + i + 1 ≤ _; omega)
  obtain ⟨c3, d1, d2, d3⟩ := sc_get (o := p + n) (vs := [x]) hb (by show p + n + 1 ≤ _; omega)
  obtain ⟨c4, e1, e2, e3⟩ := sc_get (o := p + i) (vs := x :: cs.drop i) d1 (by rw [d2, List.length_cons]; omega)
  refine Array.ext_getElem? fun q => ?_
  by_cases hq : q = b
  · subst hq
    rw [b1, e1]
    have : c2 = c4 := by
      refine Array.ext_getElem? fun j => ?_
      rw [b3, e3, a3, d3]
      simp only [List.length_cons, List.length_nil, hdl]
      by_cases h1 : j < p + i
      · rw [if_neg (by omega), if_neg (by omega), if_neg (by omega), if_neg (by omega)]
      · by_cases h2 : j = p + i
        · subst h2
          rw [if_pos (by omega), if_pos (by omega), Nat.sub_self]; rfl
        · by_cases h3 : j < p + n + 1
          · rw [if_neg (by omega), if_pos (by omega), if_pos (by omega)]
            have : j - (p + i) = (j - (p + (i + 1))) + 1 := by omega
            rw [this, List.getElem?_cons_succ]
          · rw [if_neg (by omega), if_neg (by omega), if_neg (by omega), if_neg (by omega)]
    rw [this]
  · obtain ⟨_, _, _, _, s5, _⟩ := setCells_facts b [x] (p + i) (w.drew.setCells b (p + (i + 1)) (cs.drop i))
    obtain ⟨_, _, _, _, t5, _⟩ := setCells_facts b (cs.drop i) (p + (i + 1)) w.drew
    obtain ⟨_, _, _, _, u5, _⟩ := setCells_facts b (x :: cs.drop i) (p + i) (w.setCells b (p + n) [x])
    obtain ⟨_, _, _, _, v5, _⟩ := setCells_facts b [x] (p + n) w
    rw [s5 q hq, t5 q hq, u5 q hq, v5 q hq]; rfl
/-- At the end: written twice is written once. -/
theorem ins_end {w : World} {b p : Nat} {x : Value} {c : Array Value} {e : TypeId} {fr : Nat × Nat} (hb : w.heap[b]? = some (.cells c e fr)) (hl : p + 1 ≤ c.size) :
    (w.setCells b p [x]).heap = ((w.setCells b p [x]).setCells b p [x]).heap := by
  obtain ⟨c3, d1, d2, d3⟩ := sc_get (o := p) (vs := [x]) hb hl
  obtain ⟨c4, e1, _, e3⟩ := sc_get (o := p) (vs := [x]) d1 (by rw [d2]; exact hl)
  refine Array.ext_getElem? fun q => ?_
  by_cases hq : q = b
  · subst hq
    rw [d1, e1]
    have : c3 = c4 := by
      refine Array.ext_getElem? fun j => ?_
      rw [e3, d3]
      split
      · rfl
      · rfl
    rw [this]
  · obtain ⟨_, _, _, _, u5, _⟩ := setCells_facts b [x] p (w.setCells b p [x])
    rw [u5 q hq]
/-- A new row. -/
theorem ins_grow {w : World} {i n : Nat} {x : Value} {cs : List Value} {Z1 Z2 : Array Value} {e : TypeId} (hn : cs.length = n) (hi : i ≤ n) (hz : Z1.size = n + 1 - i) :
    (((w.alloc (.cells ((cs.take i).toArray ++ Z1 ++ Z2) e)).drew.setCells w.heap.size i [x]).drew.setCells w.heap.size (i + 1) (cs.drop i)).heap = ((w.drew.alloc (.cells ((cs ++ [x]).toArray ++ Z2) e)).setCells w.heap.size i (x :: cs.drop i)).heap := by
  have hdl : (cs.drop i).length = n - i := by rw [List.length_drop, hn]
  have htl : (cs.take i).length = i := by rw [List.length_take, hn]; omega
  have hA : (w.alloc (.cells ((cs.take i).toArray ++ Z1 ++ Z2) e)).drew.heap[w.heap.size]? = some (.cells ((cs.take i).toArray ++ Z1 ++ Z2) e (0, 0)) := by
    show (w.alloc _).heap[w.heap.size]? = _
    rw [alloc_get, if_pos rfl]
  have hB : (w.drew.alloc (.cells ((cs ++ [x]).toArray ++ Z2) e)).heap[w.heap.size]? = some (.cells ((cs ++ [x]).toArray ++ Z2) e (0, 0)) := by
    rw [alloc_get]; exact if_pos rfl
  have sA : ((cs.take i).toArray ++ Z1 ++ Z2).size = n + 1 + Z2.size := by simp only [Array.size_append, List.size_toArray, htl, hz]; omega
  have sB : ((cs ++ [x]).toArray ++ Z2).size = n + 1 + Z2.size := by simp only [Array.size_append, List.size_toArray, List.length_append, hn, List.length_cons, List.length_nil]
  obtain ⟨c1, a1, a2, a3⟩ := sc_get (o := i) (vs := [x]) hA (by rw [sA]; show i + 1 ≤ _; omega)
  have a1 : ((w.alloc (.cells ((cs.take i).toArray ++ Z1 ++ Z2) e)).drew.setCells w.heap.size i [x]).drew.heap[w.heap.size]? = some (.cells c1 e (0, 0)) := a1
  obtain ⟨c2, b1, b2, b3⟩ := sc_get (o := i + 1) (vs := cs.drop i) a1 (by rw [a2, sA]; omega)
  obtain ⟨c4, e1, e2, e3⟩ := sc_get (o := i) (vs := x :: cs.drop i) hB (by rw [sB, List.length_cons]; omega)
  refine Array.ext_getElem? fun q => ?_
  by_cases hq : q = w.heap.size
  · subst hq
    rw [b1, e1]
    have : c2 = c4 := by
      refine Array.ext_getElem? fun j => ?_
      rw [b3, e3, a3]
      simp only [List.length_cons, List.length_nil, hdl]
      by_cases h1 : j < i
      · rw [if_neg (by omega), if_neg (by omega), if_neg (by omega)]
        rw [Array.append_assoc, Array.getElem?_append, if_pos (by simp only [List.size_toArray, htl]; exact h1), Array.getElem?_append, if_pos (by simp only [List.size_toArray, List.length_append, hn]; omega)]
        simp only [List.getElem?_toArray]
        rw [List.getElem?_take, if_pos h1, List.getElem?_append_left (by omega)]
      · by_cases h2 : j = i
        · subst h2
          rw [if_neg (by omega), if_pos (by omega), if_pos (by omega), Nat.sub_self]; rfl
        · by_cases h3 : j < n + 1
          · rw [if_pos (by omega), if_pos (by omega)]
            have : j - i = (j - (i + 1)) + 1 := by omega
            rw [this, List.getElem?_cons_succ]
          · rw [if_neg (by omega), if_neg (by omega), if_neg (by omega)]
            rw [Array.getElem?_append, if_neg (by simp only [Array.size_append, List.size_toArray, htl, hz]; omega), Array.getElem?_append, if_neg (by simp only [List.size_toArray, List.length_append, hn, List.length_cons, List.length_nil]; omega)]
            simp only [Array.size_append, List.size_toArray, htl, hz, List.length_append, hn, List.length_cons, List.length_nil]
            congr 1; omega
    rw [this]
  · obtain ⟨_, _, _, _, s5, _⟩ := setCells_facts w.heap.size (cs.drop i) (i + 1) ((w.alloc (.cells ((cs.take i).toArray ++ Z1 ++ Z2) e)).drew.setCells w.heap.size i [x]).drew
    obtain ⟨_, _, _, _, t5, _⟩ := setCells_facts w.heap.size [x] i (w.alloc (.cells ((cs.take i).toArray ++ Z1 ++ Z2) e)).drew
    obtain ⟨_, _, _, _, u5, _⟩ := setCells_facts w.heap.size (x :: cs.drop i) i (w.drew.alloc (.cells ((cs ++ [x]).toArray ++ Z2) e))
    rw [s5 q hq, u5 q hq]
    show ((w.alloc _).drew.setCells w.heap.size i [x]).heap[q]? = _
    rw [t5 q hq]
    show (w.alloc _).heap[q]? = _
    rw [alloc_get, if_neg hq, alloc_get]
    exact (if_neg hq).symm
end Go.Ev
/- slices.Insert of one whole number, answered beforehand: an append and a write. -/
namespace Go.Ev
open Go
/-- One number is put into a list that grows, at a place: what the evaluator's memory is behind it. -/
noncomputable def insV (h : Hp) (args : List Value) : Option (Value × Hp) := match args with
  | [s, .int .i64 (.ofNat i), .slice (some ⟨v, 0, none⟩) 1 1] => match h.get v with
    | some (.cells [x] 3 .fix) => bif flat x then (match s with
      | .slice none 0 0 => bif Nat.beq i 0 then (appSome h 3 8 1 s [x] 1).bind fun r => (writeAt r.2 h.nx i [x]).map fun h' => (r.1, h') else none
      | .slice (some ⟨o, 0, none⟩) n c => match h.get o with
        | some (.cells old 3 .grow) => bif Nat.beq c unk && Nat.beq n old.length && Nat.ble i n && !(Nat.beq o v) then
            (appSome h 3 8 1 s [x] 1).bind fun r => (writeAt r.2 h.nx i (x :: old.drop i)).map fun h' => (r.1, h')
          else none
        | _ => none
      | _ => none) else none
    | _ => none
  | _ => none
/-- A list that grows, and is full, is appended to at a new number. -/
theorem ins_app {h : Hp} {o : Nat} {old : List Value} {x : Value} (hg : h.get o = some (.cells old 3 .grow)) : appSome h 3 8 1 (.slice (some ⟨o, 0, none⟩) old.length unk) [x] 1 = (appNew h 3 8 old [x] (old.length + 1)).bind fun r => (r.2.put o none).map fun h' => (r.1, h') := by
  have e1 : Nat.ble (0 + (old.length + 1) * 1) old.length = false := by rw [Bool.eq_false_iff]; intro hh; have := Nat.le_of_ble_eq_true hh; omega
  have e2 : Nat.beq (0 + old.length * 1) old.length = true := by rw [Nat.zero_add, Nat.mul_one]; exact Nat.beq_refl _
  show (match h.get o with
    | some (.cells c e' m) =>
      bif Nat.beq unk unk then
        bif Nat.beq 3 e' && isGrow m then
          bif Nat.ble (0 + (old.length + 1) * 1) c.length then (writeAt h o (0 + old.length * 1) [x]).map fun h' => (Value.slice (some ⟨o, 0, none⟩) (old.length + 1) unk, h')
          else bif Nat.beq (0 + old.length * 1) c.length then (appNew h 3 8 (c.drop 0) [x] (old.length + 1)).bind fun r => (r.2.put o none).map fun h' => (r.1, h')
          else none
        else none
      else bif Nat.ble (old.length + 1) unk then (writeAt h o (0 + old.length * 1) [x]).map fun h' => (Value.slice (some ⟨o, 0, none⟩) (old.length + 1) unk, h')
      else (readAt h o 0 (old.length * 1)).bind fun old' => appNew h 3 8 old' [x] (old.length + 1)
    | _ => none) = _
  rw [hg]
  simp only [Nat.beq_refl, cond_true, e1, cond_false, e2, List.drop_zero, isGrow, Bool.and_self]
end Go.Ev
/- The oracle for slices.Insert is sound. -/
namespace Go.Ev
open Go Go.Shelf Go.Proofs
/-- A world with the same memory, reached with other draws. -/
theorem Went.world {P : Program} {h h' : Hp} {ι ι' : Inj} {w wB wC : World} (g : Went P h ι w h' ι' wB) (hh : wC.heap = wB.heap) (h1 : wC.os = wB.os) (h2 : wC.tape = wB.tape) (h3 : wC.output = wB.output) : Went P h ι w h' ι' wC :=
  { g with
    rh := g.rh.world hh
    fr := ⟨h2.trans g.fr.tape, h1.trans g.fr.os, h3.trans g.fr.output, by rw [hh]; exact g.fr.size, fun b hb hall => by rw [hh]; exact g.fr.rest b hb hall⟩ }
/-- What is written is there already. -/
theorem ins_same {w : World} {b p : Nat} {x : Value} {c : Array Value} {e : TypeId} {fr : Nat × Nat} (hb : w.heap[b]? = some (.cells c e fr)) (hx : c[p]? = some x) : (w.setCells b p [x]).heap = w.heap := by
  have hl := (Array.getElem?_eq_some_iff.1 hx).1
  obtain ⟨c3, d1, _, d3⟩ := sc_get (o := p) (vs := [x]) hb (by show p + 1 ≤ _; omega)
  refine Array.ext_getElem? fun q => ?_
  by_cases hq : q = b
  · subst hq
    rw [d1, hb]
    have : c3 = c := by
      refine Array.ext_getElem? fun j => ?_
      rw [d3]
      split
      · rename_i h
        have : j = p := by simp only [List.length_cons, List.length_nil] at h; omega
        rw [this, Nat.sub_self, hx]; rfl
      · rfl
    rw [this]
  · obtain ⟨_, _, _, _, u5, _⟩ := setCells_facts b [x] p w
    exact u5 q hq
theorem slu_inv {ι : Inj} {o n b off c : Nat} (h : VR ι (.slice (some ⟨o, 0, none⟩) (n + 1) unk) (.slice (some ⟨b, off, none⟩) (n + 1) c)) : ∃ vw, ι o = some vw ∧ vw.blk = b ∧ vw.base + 0 = off := by
  cases h with
  | flat hf => simp [flat, flatN] at hf
  | slc _ hne => exact absurd rfl hne
  | slu hvw1 _ _ => exact ⟨_, hvw1, rfl, rfl⟩
/-- The word that is to be shown. -/
def InsQ (P : Program) (ι : Inj) (h : Hp) (w : World) (h' : Hp) (rv : Value) : Ending → World → Prop := fun e w' => ∃ ι' v', e = .returned v' ∧ Went P h ι w h' ι' w' ∧ VR ι' rv v'
section
variable {P : Program} {ρ : Ren} (L : Lays2.n21 P ρ) (t3 : ρ.t 3 = 3) {T : TypeId} (t22 : ρ.t 22 = T)
include L t3 t22
theorem ins_ty : ∃ i0, P.info? 3 = some i0 ∧ i0.zero = some (.int .i64 0) ∧ i0.size = 1 ∧ i0.bytes = 8 ∧ P.underlying T = some (.slice 3) := by
  have _ := t22
  obtain ⟨i0, a, b, c, d⟩ := info_parts L.i3
  rw [t3] at a
  have h := L.t22
  rw [t22, t3] at h
  exact ⟨i0, a, b, c, d, h⟩
/-- No room: a new row, whatever stood there. -/
theorem ins_new {ι : Inj} {h h1 h' : Hp} {w : World} (R : RH P ι h w) {s : Value} {base : Option Addr} {n c0 v i : Nat} {old old' : List Value} {x rv : Value} (hn : old.length = n) (hi : i ≤ n) (hfl : flat x = true) (hone : one x = true)
    (hnil : base = none → n = 0 ∧ c0 = 0) (hnc : n ≤ c0) (hroom : c0 < n + 1) (hbig : (n + 1) * 8 ≤ 140737488355328)
    (hold : VRs ι old old') (honeO : ∀ u ∈ old', u.oneCell' = true) (hcs : ∀ a, base = some a → ∀ (j : Nat) u, old'[j]? = some u → w.cell? (a.add j) = some u) (hpl : i < n → ∃ b off, base = some ⟨b, off, none⟩)
    (hv : h.get v = some (.cells [x] 3 .fix)) {x' : Value} (hx : VR ι (.slice (some ⟨v, 0, none⟩) 1 1) x')
    (hs : VR ι s (.slice base n c0)) (happ : appSome h 3 8 1 s [x] 1 = some (rv, h1)) (hrv : rv = .slice (some ⟨h.nx, 0, none⟩) (n + 1) unk) (hw : writeAt h1 h.nx i (x :: old.drop i) = some h') :
    Calls P (ρ.f 21) #[.slice base n c0, .int .i64 (i : Nat), x'] w (InsQ P ι h w h' rv) := by
  obtain ⟨i0, hi0, hz0, hsz, hby, ht⟩ := ins_ty L t3 t22
  have hol : old'.length = n := by rw [hold.1, hn]
  obtain ⟨_, vwv, hvwv, _, cv, ev, frv, hbv, hcv, hfrv, _⟩ := R.live v _ hv
  obtain rfl : frv = (0, 0) := hfrv (by decide)
  have ex : x' = .slice (some ⟨vwv.blk, vwv.base + 0, none⟩) 1 1 := by
    cases hx with
    | flat hf => simp [flat, flatN] at hf
    | slc hvw _ => rw [hvw] at hvwv; rw [Option.some.inj hvwv]
  subst ex
  have hvx : ∀ (j : Nat) u, [x][j]? = some u → w.cell? ⟨vwv.blk, vwv.base + 0 + j, none⟩ = some u := fun j u hj => by
    obtain ⟨y, hy, hvy⟩ := hcv j u hj
    have hj0 : j = 0 := by have := (List.getElem?_eq_some_iff.1 hj).1; simpa using this
    subst hj0
    injection hj with hj
    subst hj
    obtain rfl := VR.of_flat hfl hvy
    simpa [World.cell?, hbv] using hy
  have h1v : ∀ u ∈ [x], u.oneCell' = true := fun u hu => by rw [List.mem_singleton.1 hu, one_eq]; exact hone
  have S : Src P i0.size T (.slice (some ⟨vwv.blk, vwv.base + 0, none⟩) 1 1) 1 [x] w := by
    rw [hsz]
    exact Src.ofSlice w ht ⟨vwv.blk, vwv.base + 0, none⟩ 1 1 [x] rfl (fun j u hj => by rw [Addr.add_lit]; exact hvx j u hj) h1v
  have hA := AppSrc.ofSrc ht hi0 hz0 S
  have happ' : appSome h 3 i0.bytes i0.size s [x] 1 = some (rv, h1) := by rw [hsz, hby]; exact happ
  obtain ⟨ι1, v1, w1, hrun, W1, V1⟩ := appSome_sound R ht hi0 hz0 (by rw [hsz]; decide) (by rw [hsz]; rfl) (n := 1) (by decide) hs (.of_flat (by rw [List.all_cons, hfl]; rfl)) (by rw [List.all_cons, hone]; rfl) hA happ' 22
  have hfc : (Builtin.firstCells i0.size n (.slice base n c0)).run P w.drew = .ok old'.toArray w.drew := by
    rw [hsz]
    cases base with
    | none =>
      obtain ⟨rfl, rfl⟩ := hnil rfl
      rw [List.length_eq_zero_iff.1 hol]
      exact run_firstCells_none w.drew 1 0 0 0
    | some a => exact run_firstCells_some w.drew 1 n a n c0 old' (by omega) (fun j u hj => hcs a rfl j u hj)
  have hgr := hA.grow Nat.one_pos 22 base n c0 old' hfc hroom (by omega) (by rw [hby]; exact growslice_fits hroom hbig)
  rw [hgr] at hrun
  injection hrun with e7 e8
  subst e7 e8
  subst hrv
  generalize hG : grownCap w (n + 1) c0 3 = G at V1 W1 hgr
  have hblk : (w.drew.alloc (.cells ((old' ++ [x]).toArray ++ Builtin.zeroCells (Value.int .i64 0).cells (G - (n + 1))) 3)).heap[w.heap.size]? = some (.cells ((old' ++ [x]).toArray ++ Builtin.zeroCells (Value.int .i64 0).cells (G - (n + 1))) 3 (0, 0)) := by
    rw [alloc_get]; exact if_pos rfl
  obtain ⟨vw1, hvw1, eb, eo⟩ := slu_inv V1
  have hcs' : VRs ι1 (x :: old.drop i) (x :: old'.drop i) := .cons (.flat hfl) ((hold.drop i).mono (W1.mono R))
  have W2 := Went.write W1.rh hw hvw1 hcs'
  rw [eb, show vw1.base + i = i by omega] at W2
  have W := W1.trans W2
  have h63 : G ≤ 9223372036854775807 := by
    have := grownCap_le_maxLen w (n + 1) c0 3 (by unfold maxLen; omega)
    rw [hG] at this
    unfold maxLen at this
    omega
  have fin : ∀ wC : World, wC.heap = ((w.drew.alloc (.cells ((old' ++ [x]).toArray ++ Builtin.zeroCells (Value.int .i64 0).cells (G - (n + 1))) 3)).setCells w.heap.size i (x :: old'.drop i)).heap → wC.os = w.os → wC.tape = w.tape → wC.output = w.output →
      InsQ P ι h w h' (.slice (some ⟨h.nx, 0, none⟩) (n + 1) unk) (.returned (.slice (some ⟨w.heap.size, 0, none⟩) (n + 1) G)) wC := fun wC q1 q2 q3 q4 => by
    obtain ⟨_, s2, s3, s4, _, _⟩ := setCells_facts w.heap.size (x :: old'.drop i) i (w.drew.alloc (.cells ((old' ++ [x]).toArray ++ Builtin.zeroCells (Value.int .i64 0).cells (G - (n + 1))) 3))
    exact ⟨ι1, _, rfl, W.world q1 (q2.trans s3.symm) (q3.trans s2.symm) (q4.trans s4.symm), V1⟩
  by_cases hin : i < n
  · obtain ⟨b, off, rfl⟩ := hpl hin
    refine (Any2.slices_Insert_int_grow L b off n c0 i vwv.blk (vwv.base + 0) 1 1 old' [x] w hin Nat.one_pos hnc hroom hbig hol rfl (fun j u hj => by have := hcs _ rfl j u hj; rwa [Addr.add_lit] at this) hvx honeO h1v).mono fun e w' ⟨he, hw'⟩ => ?_
    rw [t3, hG] at he hw'
    subst he hw'
    have hh := ins_grow (w := w) (i := i) (n := n) (x := x) (cs := old') (Z1 := Builtin.zeroCells (Value.int .i64 0).cells (n + 1 - i)) (Z2 := Builtin.zeroCells (Value.int .i64 0).cells (G - (n + 1))) (e := 3) hol hi (by simp [Builtin.zeroCells, Value.cells])
    have f1 := setCells_facts w.heap.size [x] i (w.alloc (.cells ((old'.take i).toArray ++ Builtin.zeroCells (Value.int .i64 0).cells (n + 1 - i) ++ Builtin.zeroCells (Value.int .i64 0).cells (G - (n + 1))) 3)).drew
    have f2 := setCells_facts w.heap.size (old'.drop i) (i + 1) ((w.alloc (.cells ((old'.take i).toArray ++ Builtin.zeroCells (Value.int .i64 0).cells (n + 1 - i) ++ Builtin.zeroCells (Value.int .i64 0).cells (G - (n + 1))) 3)).drew.setCells w.heap.size i [x]).drew
    exact fin _ hh (f2.2.2.1.trans f1.2.2.1) (f2.2.1.trans f1.2.1) (f2.2.2.2.1.trans f1.2.2.2.1)
  · obtain rfl : i = n := by omega
    refine (Any2.slices_Insert_int_end_grow L base i c0 vwv.blk (vwv.base + 0) 1 1 old' [x] w Nat.one_pos hnc hroom hbig hol rfl (fun h => (hnil h).1) hcs hvx h1v).mono fun e w' ⟨he, hw'⟩ => ?_
    rw [t3, hG] at he hw'
    subst he hw'
    refine fin _ ?_ rfl rfl rfl
    rw [List.drop_of_length_le (Nat.le_of_eq hol)]
    refine (ins_same hblk ?_).symm
    rw [Array.getElem?_append, if_pos (by simp only [List.size_toArray, List.length_append, hol, List.length_cons, List.length_nil]; omega), List.getElem?_toArray, List.getElem?_append_right (Nat.le_of_eq hol), hol, Nat.sub_self]
    rfl
/-- Into a list that grows, and has numbers. -/
theorem ins_some {ι : Inj} {h h1 h' : Hp} {w : World} (R : RH P ι h w) {o v i n : Nat} {old : List Value} (hn : n = old.length) {x s' x' rv : Value} (ho : h.get o = some (.cells old 3 .grow)) (hv : h.get v = some (.cells [x] 3 .fix)) (hov : o ≠ v) (hfl : flat x = true) (hone : one x = true) (hi : i ≤ old.length)
    (happ : appSome h 3 8 1 (.slice (some ⟨o, 0, none⟩) old.length unk) [x] 1 = some (rv, h1)) (hw : writeAt h1 h.nx i (x :: old.drop i) = some h')
    (hs : VR ι (.slice (some ⟨o, 0, none⟩) n unk) s') (hx : VR ι (.slice (some ⟨v, 0, none⟩) 1 1) x') :
    Calls P (ρ.f 21) #[s', .int .i64 (i : Nat), x'] w (InsQ P ι h w h' rv) := by
  obtain ⟨i0, hi0, hz0, hsz, hby, ht⟩ := ins_ty L t3 t22
  have hs1 : VR ι (.slice (some ⟨o, 0, none⟩) old.length unk) s' := hn ▸ hs
  have hsrc : srcCells h 1 (.slice (some ⟨v, 0, none⟩) 1 1) = some ([x], 1) := by
    show (readAt h v 0 (1 * 1)).map _ = _
    unfold readAt
    rw [hv]
    rfl
  obtain ⟨xs', hxs, S⟩ := src_sound (w := w) R hx (.inl ⟨3, ht⟩) hsrc (by rw [List.all_cons, hone]; rfl) (fun _ _ _ h => by cases h) (fun hh => by rw [ht] at hh; cases hh)
  have S' : Src P i0.size T x' 1 xs' w := by rw [hsz]; exact S
  have hA := AppSrc.ofSrc ht hi0 hz0 S'
  have happ' : appSome h 3 i0.bytes i0.size (.slice (some ⟨o, 0, none⟩) old.length unk) [x] 1 = some (rv, h1) := by rw [hsz, hby]; exact happ
  obtain ⟨ι1, v1, w1, hrun, W1, V1⟩ := appSome_sound R ht hi0 hz0 (by rw [hsz]; decide) (by rw [hsz]; rfl) (n := 1) (by decide) hs1 hxs (by rw [List.all_cons, hone]; rfl) hA happ' 22
  have happ0 := happ
  rw [ins_app ho] at happ
  obtain ⟨⟨r1, h2⟩, hnew, hput⟩ := Option.bind_eq_some_iff.1 happ
  obtain ⟨h3, hp, e3⟩ := Option.map_eq_some_iff.1 hput
  injection e3 with e3 e4
  subst e3 e4
  unfold appNew at hnew
  obtain ⟨hbig, hnew⟩ := cond_some hnew
  injection hnew with hnew
  injection hnew with e5 e6
  subst e5 e6
  rw [Bool.and_eq_true] at hbig
  have hb1 := Nat.le_of_ble_eq_true hbig.1
  obtain ⟨_, vwo, hvwo, hco, c', e'', fr, hb, hcells, hfr, hgr⟩ := R.live o _ ho
  obtain rfl : fr = (0, 0) := hfr (by decide)
  obtain ⟨g1, g2, g3, g4, g5⟩ := hgr rfl
  have hesz : vwo.esz = 1 := by
    have : sz P 3 = some 1 := by unfold sz; rw [hi0]; exact congrArg some hsz
    rw [this] at g2; exact (Option.some.inj g2).symm
  obtain ⟨_, vwv, hvwv, _, cv, ev, frv, hbv, hcv, hfrv, _⟩ := R.live v _ hv
  obtain rfl : frv = (0, 0) := hfrv (by decide)
  have hne : vwv.blk ≠ vwo.blk := fun hh => R.apart o v _ _ vwo vwv hov ho rfl hv hvwo hvwv hh.symm
  have hread : readAt h o 0 (old.length * 1) = some old := by
    unfold readAt
    rw [ho]
    simp only [List.drop_zero, Nat.mul_one, List.take_length, Nat.beq_refl, cond_true]
  obtain ⟨a, c0', old', es', q1, q2, q3⟩ := slice_cells (w := w) R hs1 hread
  have hxx : xs' = [x] := by
    obtain ⟨y, c, rfl, hy, hc⟩ := hxs.head
    obtain rfl := VR.of_flat hfl hy
    have : c = [] := List.length_eq_zero_iff.1 hc.1
    rw [this]
  subst hxx
  cases hs with
  | flat hf => simp [flat, flatN] at hf
  | slc _ hne' => exact absurd rfl hne'
  | @slu _ _ _ c0 vw hvw hcc hll =>
    rw [hvw] at hvwo
    obtain rfl := Option.some.inj hvwo
    subst hn
    injection es' with ea _ ec
    injection ea with ea
    subst ea ec
    have hc63 : c0 ≤ 9223372036854775807 := by rw [hesz] at hcc g5; omega
    have h1o : ∀ u ∈ old', u.oneCell' = true := fun u hu => by rw [one_eq]; exact List.all_eq_true.1 (q1.one hco) u hu
    by_cases hroom : old.length + 1 ≤ c0
    · have hsp : ∀ j, j < old.length + 1 → (w.cell? ⟨vw.blk, vw.base + 0 + j, none⟩).isSome = true := fun j hj => by
        have : vw.base + 0 + j < c'.size := by rw [← g1]; rw [hesz] at hcc; omega
        have e : w.cell? ⟨vw.blk, vw.base + 0 + j, none⟩ = c'[vw.base + 0 + j]? := by simp [World.cell?, hb]
        rw [e, Array.getElem?_eq_getElem this]; rfl
      have hfz : ∀ j, w.frozen? ⟨vw.blk, j, none⟩ = false := fun j => by simp [World.frozen?, hb]
      have hr1 := hA.room 22 vw.blk (vw.base + 0) old.length c0 hroom (fun j hj => by
        have : j = 0 := by simpa using hj
        subst this
        rw [hsz, Nat.mul_one, Nat.add_zero]
        exact hsp _ (by omega)) (fun j hj => hfz _)
      rw [hr1] at hrun
      injection hrun with e7 e8
      subst e7 e8
      rw [hsz, Nat.mul_one] at W1
      obtain ⟨vw1, hvw1, eb, eo⟩ := slu_inv V1
      have hq3 : old'.length = old.length := by rw [q2, Nat.mul_one]
      have hcs' : VRs ι1 (x :: old.drop i) (x :: old'.drop i) := .cons (.flat hfl) ((q1.drop i).mono (W1.mono R))
      have W2 := Went.write W1.rh hw hvw1 hcs'
      rw [eb, show vw1.base + i = vw.base + 0 + i by omega] at W2
      have W := W1.trans W2
      have fin : ∀ wC : World, wC.heap = ((w.setCells vw.blk (vw.base + 0 + old.length) [x]).setCells vw.blk (vw.base + 0 + i) (x :: old'.drop i)).heap → wC.os = w.os → wC.tape = w.tape → wC.output = w.output →
          InsQ P ι h w h' (.slice (some ⟨h.nx, 0, none⟩) (old.length + 1) unk) (.returned (.slice (some ⟨vw.blk, vw.base + 0, none⟩) (old.length + 1) c0)) wC := fun wC q1 q2 q3 q4 => by
        obtain ⟨_, s2, s3, s4, _, _⟩ := setCells_facts vw.blk (x :: old'.drop i) (vw.base + 0 + i) (w.setCells vw.blk (vw.base + 0 + old.length) [x])
        obtain ⟨_, r2, r3, r4, _, _⟩ := setCells_facts vw.blk [x] (vw.base + 0 + old.length) w
        exact ⟨ι1, _, rfl, W.world q1 (q2.trans (s3.trans r3).symm) (q3.trans (s2.trans r2).symm) (q4.trans (s4.trans r4).symm), V1⟩
      have ex : x' = .slice (some ⟨vwv.blk, vwv.base + 0, none⟩) 1 1 := by
        cases hx with
        | flat hf => simp [flat, flatN] at hf
        | slc hvw _ => rw [hvw] at hvwv; rw [Option.some.inj hvwv]
      subst ex
      have hvx : ∀ (j : Nat) u, [x][j]? = some u → w.cell? ⟨vwv.blk, vwv.base + 0 + j, none⟩ = some u := fun j u hj => by
        obtain ⟨y, hy, hvy⟩ := hcv j u hj
        have hj0 : j = 0 := by have := (List.getElem?_eq_some_iff.1 hj).1; simpa using this
        subst hj0
        injection hj with hj
        subst hj
        obtain rfl := VR.of_flat hfl hvy
        simpa [World.cell?, hbv] using hy
      have h1v : ∀ u ∈ [x], u.oneCell' = true := fun u hu => by rw [List.mem_singleton.1 hu, one_eq]; exact hone
      have hcells' : ∀ (j : Nat) u, old'[j]? = some u → w.cell? ⟨vw.blk, vw.base + 0 + j, none⟩ = some u := fun j u hj => by
        obtain ⟨y, hy⟩ : ∃ y, old[j]? = some y := by
          have := (List.getElem?_eq_some_iff.1 hj).1
          exact ⟨_, List.getElem?_eq_getElem (by omega)⟩
        have := q3 j u hj
        rwa [Addr.add_lit] at this
      by_cases hin : i < old.length
      · refine (Any2.slices_Insert_int_shift L vw.blk (vw.base + 0) old.length c0 i vwv.blk (vwv.base + 0) 1 1 old' [x] w hin Nat.one_pos hroom hc63 hne hq3 rfl hcells' hsp (fun j _ => hfz _) hvx h1o h1v ev e'' cv.size c'.size (by simp [World.shape?, hbv]) (by simp [World.shape?, hb]) (by rw [← g1]; rw [hesz] at hcc; omega) (by simp [World.frozen?, hbv]) (by simp [World.frozen?, hbv])).mono fun e w' ⟨he, hw'⟩ => ?_
        subst he hw'
        have hh := ins_shift (w := w) (b := vw.blk) (p := vw.base + 0) (i := i) (n := old.length) (x := x) (cs := old') hb hq3 hi (by rw [← g1]; rw [hesz] at hcc; omega)
        obtain ⟨_, s2, s3, s4, _, _⟩ := setCells_facts vw.blk [x] (vw.base + 0 + i) (w.drew.setCells vw.blk (vw.base + 0 + (i + 1)) (old'.drop i))
        obtain ⟨_, r2, r3, r4, _, _⟩ := setCells_facts vw.blk (old'.drop i) (vw.base + 0 + (i + 1)) w.drew
        exact fin _ hh (s3.trans r3) (s2.trans r2) (s4.trans r4)
      · obtain rfl : i = old.length := by omega
        refine (Any2.slices_Insert_int_end_room L vw.blk (vw.base + 0) old.length c0 vwv.blk (vwv.base + 0) 1 1 [x] w Nat.one_pos hroom hc63 rfl (fun j hj => by rw [Nat.add_assoc]; exact hsp _ (by omega)) (fun j _ => hfz _) hvx h1v).mono fun e w' ⟨he, hw'⟩ => ?_
        subst he hw'
        obtain ⟨_, r2, r3, r4, _, _⟩ := setCells_facts vw.blk [x] (vw.base + 0 + old.length) w
        refine fin _ ?_ r3 r2 r4
        rw [List.drop_of_length_le (Nat.le_of_eq hq3)]
        exact ins_end hb (by rw [← g1]; rw [hesz] at hcc; omega)
    · exact ins_new L t3 t22 R rfl hi hfl hone (fun hh => by cases hh) hll (by omega) (by omega) q1 h1o (fun a ha j u hj => by injection ha with ha; subst ha; exact q3 j u hj) (fun _ => ⟨_, _, rfl⟩) hv hx (.slu hvw hcc hll) happ0 rfl hw
  | sl0 hvw hcc =>
    have h0 : old = [] := List.length_eq_zero_iff.1 hn.symm
    subst h0
    obtain rfl : i = 0 := by simpa using hi
    exact ins_new L t3 t22 R (n := 0) (c0 := 0) (old := []) (old' := []) rfl (Nat.le_refl _) hfl hone (fun hh => by cases hh) (Nat.le_refl _) (by omega) (by omega) (.nil ι) (fun u hu => by cases hu) (fun a ha j u hj => by simp at hj) (fun hh => absurd hh (by omega)) hv hx (.sl0 hvw hcc) happ0 rfl hw
/-- Into the list that is nil. -/
theorem ins_nil {ι : Inj} {h h1 h' : Hp} {w : World} (R : RH P ι h w) {v : Nat} {x s' x' rv : Value} (hv : h.get v = some (.cells [x] 3 .fix)) (hfl : flat x = true) (hone : one x = true)
    (happ : appSome h 3 8 1 (.slice none 0 0) [x] 1 = some (rv, h1)) (hw : writeAt h1 h.nx 0 [x] = some h')
    (hs : VR ι (.slice none 0 0) s') (hx : VR ι (.slice (some ⟨v, 0, none⟩) 1 1) x') :
    Calls P (ρ.f 21) #[s', .int .i64 (0 : Nat), x'] w (InsQ P ι h w h' rv) := by
  obtain rfl := VR.of_flat (by rfl) hs
  have happ0 := happ
  have hnew : appNew h 3 8 [] [x] 1 = some (rv, h1) := happ
  unfold appNew at hnew
  obtain ⟨_, hnew⟩ := cond_some hnew
  injection hnew with hnew
  injection hnew with e5 e6
  exact ins_new L t3 t22 R (n := 0) (c0 := 0) (old := []) (old' := []) rfl (Nat.le_refl _) hfl hone (fun _ => ⟨rfl, rfl⟩) (Nat.le_refl _) (by omega) (by omega) (.nil ι) (fun u hu => by cases hu) (fun a ha => by cases ha) (fun hh => absurd hh (by omega)) hv hx hs happ0 e5.symm hw
/-- The oracle's word is true. -/
theorem ins_sound {ι : Inj} {h h' : Hp} {w : World} (R : RH P ι h w) {args args' : List Value} {rv : Value} (he : insV h args = some (rv, h')) (ha : VRs ι args args') : Calls P (ρ.f 21) args'.toArray w (InsQ P ι h w h' rv) := by
  unfold insV at he
  split at he
  · rename_i s i v
    obtain ⟨s', l1, rfl, hs, u1⟩ := ha.head
    obtain ⟨i', l2, rfl, hi', u2⟩ := u1.head
    obtain ⟨x', l3, rfl, hx, u3⟩ := u2.head
    obtain rfl := u3.of_nil
    obtain rfl := VR.of_flat (by rfl) hi'
    split at he
    · rename_i x hv
      obtain ⟨hfl, he⟩ := cond_some he
      have hone : one x = true := by
        obtain ⟨_, _, _, h1, _⟩ := R.live v _ hv
        simpa using h1
      split at he
      · obtain ⟨h0, he⟩ := cond_some he
        obtain rfl := Nat.eq_of_beq_eq_true h0
        obtain ⟨⟨r1, h1⟩, happ, he⟩ := Option.bind_eq_some_iff.1 he
        obtain ⟨h2, hw, e⟩ := Option.map_eq_some_iff.1 he
        injection e with e1 e2
        subst e1 e2
        exact ins_nil L t3 t22 R hv hfl hone happ hw hs hx
      · rename_i _ o n c _
        split at he
        · rename_i old ho
          obtain ⟨hc, he⟩ := cond_some he
          simp only [Bool.and_eq_true, Bool.not_eq_true'] at hc
          obtain ⟨⟨⟨c1, c2⟩, c3⟩, c4⟩ := hc
          obtain rfl := Nat.eq_of_beq_eq_true c1
          have c2 := Nat.eq_of_beq_eq_true c2
          have c3 := Nat.le_of_ble_eq_true c3
          have c4 : o ≠ v := fun hh => by rw [hh, Nat.beq_refl] at c4; cases c4
          obtain ⟨⟨r1, h1⟩, happ, he⟩ := Option.bind_eq_some_iff.1 he
          obtain ⟨h2, hw, e⟩ := Option.map_eq_some_iff.1 he
          injection e with e1 e2
          subst e1 e2
          exact ins_some L t3 t22 R c2 ho hv c4 hfl hone (by omega) (by rw [← c2]; exact happ) hw hs hx
        · cases he
      · cases he
    · cases he
  · cases he
end
end Go.Ev
/- slices.Insert at the numbers of this program. -/
namespace Go.Proofs.YtfgfhplgnfbaaaaDoor
open Go Go.Shelf
def ren21 : Go.Shelf.Ren := ⟨fun | 21 => 17 | 27 => 72 | 28 => 73 | 35 => 114 | 39 => 126 | n => n, fun | 22 => 32 | 3 => 3 | 4 => 4 | 0 => 0 | n => n, fun | n => n⟩
theorem lays21 : Go.Proofs.Lays2.n21 Tryd.prog ren21 := {
  mixed := by kernel_rfl
  f21 := Tryd.func17.trans (congrArg some (by kernel_rfl))
  f27 := Tryd.func72.trans (congrArg some (by kernel_rfl))
  f28 := Tryd.func73.trans (congrArg some (by kernel_rfl))
  f35 := Tryd.func114.trans (congrArg some (by kernel_rfl))
  f39 := Tryd.func126.trans (congrArg some (by kernel_rfl))
  t0 := Tryd.underlying0
  a0 := Tryd.isAgg0
  z0 := Tryd.sizeOf0
  v0 := Tryd.zeroValue0
  t3 := Tryd.underlying3
  a3 := Tryd.isAgg3
  z3 := Tryd.sizeOf3
  v3 := Tryd.zeroValue3
  t4 := Tryd.underlying4
  a4 := Tryd.isAgg4
  z4 := Tryd.sizeOf4
  v4 := Tryd.zeroValue4
  t22 := Tryd.underlying32
  a22 := Tryd.isAgg32
  z22 := Tryd.sizeOf32
  v22 := Tryd.zeroValue32
  i3 := by kernel_rfl }
end Go.Proofs.YtfgfhplgnfbaaaaDoor
/- 'works' is answered beforehand. -/
namespace Go.Proofs.YtfgfhplgnfbaaaaDoor
open Go Go.Ev
theorem h0_get (o : Nat) (x : Ob) (h : h0.get o = some x) : o = 0 ∧ x = .cells tab 0 .ro := by
  have h : (Tr.set (Tr.full none 64) 0 (some (Ob.cells tab 0 .ro))).get none o = some x := h
  rw [Tr.get_set] at h
  split at h
  · split at h
    · exact ⟨‹_›, (Option.some.inj h).symm⟩
    · cases h
  · rw [Tr.get_full] at h; cases h
theorem tab_flat : tab.all flat = true := by kernel_rfl
theorem tab_one : tab.all one = true := by kernel_rfl
/-- 'works' is true, wherever the table stands. -/
theorem works_calls {h : Hp} (_ : 0 < h.nx) (hh : h.get 0 = some (.cells tab 0 .ro)) {iota : Inj} {w : World} (R : RH Tryd.prog iota h w) : Calls Tryd.prog 27 #[] w fun e w' => e = .returned (.bool true) ∧ Went Tryd.prog h iota w h iota w' := by
  have hev := works_ev
  cases hr : evCall Tryd.prog 1000 100 27 [] h0 with
  | none => rw [hr] at hev; cases hev
  | some r =>
    obtain ⟨v, h1⟩ := r
    rw [hr] at hev
    obtain rfl : v = .bool true := by
      cases v with
      | bool b => have : b = true := hev; rw [this]
      | _ => cases hev
    exact closed_call mixed noNum (fn := Tryd.f27) (by decide) Tryd.func27 (by kernel_rfl) hr rfl rfl (fun o x ho => ⟨tab, 0, (h0_get o x ho).2, tab_flat⟩) (fun o x ho => by
      obtain ⟨rfl, rfl⟩ := h0_get o x ho
      exact ⟨hh, Nat.zero_lt_one⟩) (by rw [gsz]; exact Nat.le_refl _) R
def isTab : List Value → List Value → Bool
  | [], [] => true
  | .int .u8 a :: l, .int .u8 b :: r => eqI a b && isTab l r
  | _, _ => false
theorem isTab_eq : ∀ (l r : List Value), isTab l r = true → l = r := by
  intro l
  induction l with
  | nil => intro r h; cases r with
    | nil => rfl
    | cons => simp [isTab] at h
  | cons a l ih =>
    intro r h
    unfold isTab at h
    split at h
    · rename_i h2; cases h2
    · rename_i x l2 y r2 h2
      injection h2 with e1 e2
      subst e1 e2
      rw [Bool.and_eq_true, eqI_eq] at h
      rw [ih _ h.2, (by simpa using h.1 : x = y)]
    · cases h
/-- The calls that are answered beforehand: 'works', and slices.Insert of one number. -/
noncomputable def Ow : CallF := fun f args h => bif Nat.beq f 27 then (match args, h.get 0 with
  | [], some (.cells l 0 .ro) => bif Nat.blt 0 h.nx && isTab l tab then some (.bool true, h) else none
  | _, _ => none) else bif Nat.beq f 17 then insV h args else none
set_option maxRecDepth 100000 in
theorem Ow_ok : COk Tryd.prog Ow := by
  intro f args h v h' hs iota w args' R ha rd o a next Q hn
  unfold Ow at hs
  cases hf : Nat.beq f 27 with
  | false =>
    rw [hf, cond_false] at hs
    obtain ⟨h17, hs⟩ := cond_some hs
    obtain rfl : f = 17 := Nat.eq_of_beq_eq_true h17
    rw [run_callFunc noNum Tryd.func17 (by kernel_rfl) args'.toArray w]
    refine ⟨fun _ => ⟨fun h => (by cases h), calls_rd ((ins_sound lays21 (rfl : ren21.t 3 = 3) (rfl : ren21.t 22 = 32) R hs ha).mono fun e w' ⟨iota', v', he, g, hv⟩ => ?_)⟩, fun l hl => ?_⟩
    · subst he
      exact hn iota' v' w' g hv
    · exact absurd hl (Nat.ne_of_lt (Nat.lt_of_lt_of_le (by decide : 17 < yB) (Nat.le_add_right yB l)))
  | true =>
    obtain rfl : f = 27 := Nat.eq_of_beq_eq_true hf
    rw [hf, cond_true] at hs
    split at hs
    · rename_i l hg
      obtain ⟨ht, h2⟩ := cond_some hs
      rw [Bool.and_eq_true] at ht
      injection h2 with h2
      injection h2 with e1 e2
      subst e1 e2
      obtain rfl := isTab_eq _ _ ht.2
      obtain rfl := List.length_eq_zero_iff.1 ha.1
      rw [run_callFunc noNum Tryd.func27 (by kernel_rfl) ([] : List Value).toArray w]
      refine ⟨fun _ => ⟨fun h => (by cases h), calls_rd ((works_calls (by simpa using ht.1) hg R).mono fun e w' ⟨he, g⟩ => ?_)⟩, fun l hl => ?_⟩
      · subst he
        exact hn iota _ w' g (.flat rfl)
      · exact absurd hl (Nat.ne_of_lt (Nat.lt_of_lt_of_le (by decide : 27 < yB) (Nat.le_add_right yB l)))
    · cases hs
theorem Ow_oth0 (f : FuncId) (args : List Value) (h : Hp) (hf : f ≠ 27 ∧ f ≠ 17) : Ow f args h = none := by
  unfold Ow
  have h1 : Nat.beq f 27 = false := by rw [Bool.eq_false_iff]; intro hh; exact hf.1 (Nat.eq_of_beq_eq_true hh)
  have h2 : Nat.beq f 17 = false := by rw [Bool.eq_false_iff]; intro hh; exact hf.2 (Nat.eq_of_beq_eq_true hh)
  rw [h1, h2]; rfl
theorem tab_self : isTab tab tab = true := by kernel_rfl
end Go.Proofs.YtfgfhplgnfbaaaaDoor
/- From the evaluator's word on a law of layer 20 to the kit's. -/
namespace Go.Proofs.YtfgfhplgnfbaaaaDoor
open Go Go.Ev Go.ChangeShapes Go.WideShapes Go.ChangeAt Go.RowKit
theorem own : ownKnob Tryd.prog.godebug = none := by kernel_rfl
theorem gTab : Tryd.prog.globalNamed "math/bits.deBruijn32tab" = some 0 := by kernel_rfl
theorem gTabType : (Tryd.prog.globals[0]?).map (·.type) = some 156 := by kernel_rfl
theorem cellsArr : Tryd.prog.cellsOf 156 = 32 := by kernel_rfl
theorem cellsOne : Tryd.prog.cellsOf 5 = 1 := by kernel_rfl
theorem cellsInt : Tryd.prog.cellsOf 3 = 1 := by kernel_rfl
def nums : List Int := [0,1,28,2,29,14,24,3,30,22,20,15,25,17,4,8,31,27,13,23,21,19,16,7,26,12,18,6,11,5,10,9]
set_option maxRecDepth 100000 in
theorem kids : Kids Tryd.prog (· < Tryd.prog.types.size) := kids_rows (by kernel_rfl) (by kernel_rfl)
set_option maxRecDepth 100000 in
theorem full : ∀ t e, t < Tryd.prog.types.size → Tryd.prog.underlying t = some (.slice e) → 0 < Tryd.prog.cellsOf e := slices_full_of _ (by kernel_rfl)
theorem tab_cells {W : World} (h : Lib.TabIs Tryd.prog W "math/bits.deBruijn32tab" .u8 nums) : ∀ j x, tab[j]? = some x → W.cell? ⟨0, j, none⟩ = some x := by
  intro j x hj
  have hjl : j < 32 := (List.getElem?_eq_some_iff.1 hj).1
  have hn : j < nums.length := hjl
  have := h.cell gTab j hn
  rw [this]
  have e : tab = nums.map fun x => Value.int .u8 x := rfl
  rw [e, List.getElem?_map, List.getElem?_eq_getElem hn] at hj
  rw [List.getD_eq_getElem?_getD, List.getElem?_eq_getElem hn]
  exact hj
/-- The names at the start: the one package-level variable. -/
def iota0 : Inj := fun o => if o = 0 then some ⟨0, 0, 0, 0⟩ else none
theorem start_RH {W : World} (ht : ∀ j x, tab[j]? = some x → W.cell? ⟨0, j, none⟩ = some x) : RH Tryd.prog iota0 h0 W := by
  have h00 := ht 0 _ rfl
  have hblk : ∃ c e fr, W.heap[0]? = some (.cells c e fr) := by
    cases hb : W.heap[0]? with
    | none => simp [World.cell?, hb] at h00
    | some y =>
      cases y with
      | cells c e fr => exact ⟨c, e, fr, rfl⟩
      | _ => simp [World.cell?, hb] at h00
  obtain ⟨c, e, fr, hb⟩ := hblk
  refine ⟨fun o x ho => ?_, fun o q x y vo vq _ ho hx => ?_, fun o ho => if_neg (by have : 1 ≤ o := ho; omega), fun g hg => ?_, by rw [gsz]; exact Nat.le_refl _⟩
  · obtain ⟨rfl, rfl⟩ := h0_get o x ho
    refine ⟨Nat.zero_lt_one, ⟨0, 0, 0, 0⟩, rfl, tab_one, c, e, fr, hb, fun j x hx => ?_, fun h => absurd rfl h, fun h => by cases h⟩
    have := ht j x hx
    refine ⟨x, ?_, .flat (all_get tab_flat hx)⟩
    simpa [World.cell?, hb] using this
  · obtain ⟨rfl, rfl⟩ := h0_get o x ho
    cases hx
  · rw [gsz] at hg
    obtain rfl : g = 0 := by omega
    exact ⟨0, 0, rfl⟩
set_option maxRecDepth 100000 in
theorem h0_tab : h0.get 0 = some (.cells tab 0 .ro) := by kernel_rfl
set_option maxRecDepth 100000 in
theorem start_base {W : World} (ht : ∀ j x, tab[j]? = some x → W.cell? ⟨0, j, none⟩ = some x) : Base Tryd.prog iota0 h0 W :=
  ⟨start_RH ht, fun o x ho => by obtain ⟨rfl, rfl⟩ := h0_get o x ho; rfl, rfl, ⟨_, ⟨0, 0, 0, 0⟩, h0_tab, rfl, Nat.zero_lt_one, tab, 0, rfl⟩⟩
/-- A world for the witness: the table holds what its initialiser lays. -/
noncomputable def laidWorld (os : Os) : World :=
  { World.holding Tryd.prog os ⟨#[], #[], []⟩ with heap := (World.holding Tryd.prog os ⟨#[], #[], []⟩).heap.modify 0 fun
      | .cells _ t frozen => .cells tab.toArray t frozen
      | o => o }
end Go.Proofs.YtfgfhplgnfbaaaaDoor
