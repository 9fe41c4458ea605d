/- Laws of append to an empty row, that a literal of no elements is. Lists of booleans. -/
import Derived.Test.YtfgfhplgnfbaaaaDoorYC
import Derived.Test.YtfgfhplgnfbaaaaDoorProg
import Derived.KernelRfl
namespace Go.Ev
open Go
/-- A list that grows, or a row of no elements. -/
def AccE (h : Hp) (base : Nat) (e : TypeId) (esz : Nat) (a : Option Addr) (n c : Nat) (xs : List Value) : Prop :=
  Acc h base e esz a n c xs ∨ (xs = [] ∧ n = 0 ∧ c = 0 ∧ ∃ o, a = some ⟨o, 0, none⟩ ∧ base ≤ o ∧ o < h.nx ∧ ∃ e2 m, h.get o = some (.cells [] e2 m))
theorem AccE.keep {h h' : Hp} {base : Nat} {e : TypeId} {esz : Nat} {a : Option Addr} {n c : Nat} {xs : List Value} (H : AccE h base e esz a n c xs) (hk : ∀ o, o < h.nx → a = some ⟨o, 0, none⟩ → h'.get o = h.get o) (hn : h.nx ≤ h'.nx) : AccE h' base e esz a n c xs :=
  H.imp (fun H => H.keep hk hn) fun ⟨h1, h2, h3, o, h4, h5, h6, e2, m, h7⟩ => ⟨h1, h2, h3, o, h4, h5, Nat.lt_of_lt_of_le h6 hn, e2, m, by rw [hk o h6 h4]; exact h7⟩
theorem AccE.lt {h : Hp} {base : Nat} {e : TypeId} {esz : Nat} {a : Option Addr} {n c : Nat} {xs : List Value} (H : AccE h base e esz a n c xs) {o : Nat} (ha : a = some ⟨o, 0, none⟩) : base ≤ o ∧ o < h.nx := by
  rcases H with (⟨h1, _⟩ | ⟨q, h1, _, _, h2, h3, _⟩) | ⟨_, _, _, q, h1, h2, h3, _⟩
  · rw [h1] at ha; cases ha
  · rw [h1] at ha; injection ha with ha; injection ha with ha; subst ha; exact ⟨h2, h3⟩
  · rw [h1] at ha; injection ha with ha; injection ha with ha; subst ha; exact ⟨h2, h3⟩
theorem AppK.kpE {h h' : Hp} {base : Nat} {e : TypeId} {esz : Nat} {a : Option Addr} {n c : Nat} {xs : List Value} (k : AppK h h' a) (H : AccE h base e esz a n c xs) (hb : base ≤ h.nx) : Kp base h h' :=
  ⟨fun q hq => k.get q (by omega) fun hh => by have := (H.lt hh).1; omega, k.nx, k.gd, k.fr⟩
theorem append_accE {P : Program} {sT e : TypeId} {esz bytes : Nat} (T : AppT P sT e esz bytes) {h : Hp} {base : Nat} {a : Option Addr} {n c : Nat} {xs : List Value} (H : AccE h base e esz a n c xs) (hb : base ≤ h.nx) (hg : GdLt h base)
    {x : Value} {ys : List Value} {k : Nat} (hx : ∃ a n c, x = .slice a n c) (hs : srcCells h esz x = some (ys, k)) (hk : ys.length = k * esz) (h1 : ys.all one = true) (hB : (n + k + (n + k)) * bytes ≤ 281474976710656) (hU : n + k < big) :
    ∃ a' n' c' h', appendV P h sT sT (.slice a n c) x = some (.slice a' n' c', h') ∧ AccE h' base e esz a' n' c' (xs ++ ys) ∧ n' = n + k ∧ AppK h h' a := by
  rcases H with H | ⟨rfl, rfl, rfl, o, rfl, h2, h3, e2, m, h4⟩
  · obtain ⟨a', n', c', h', e1, A, en, k1, k2, k3, k4⟩ := append_acc T H hb hg hx hs hk h1 hB hU
    exact ⟨a', n', c', h', e1, .inl A, en, k1, k2, k3, k4⟩
  · obtain ⟨hz, info, z, hi, hzz, hrun⟩ := T.run
    rw [hrun h _ x hx, hs]
    simp only [Option.bind_some, h1, cond_true]
    rcases Nat.eq_zero_or_pos k with rfl | hkp
    · have : ys = [] := List.length_eq_zero_iff.1 (by omega)
      subst this
      simp only [Nat.beq_refl, cond_true]
      exact ⟨_, 0, 0, h, rfl, .inr ⟨rfl, rfl, rfl, o, rfl, h2, h3, e2, m, h4⟩, rfl, Nat.le_refl _, rfl, id, fun _ _ _ => rfl⟩
    · have hk0 : Nat.beq k 0 = false := by rw [Bool.eq_false_iff]; intro hh; have := Nat.eq_of_beq_eq_true hh; omega
      simp only [hk0, cond_false]
      have e1 : appSome h e bytes esz (.slice (some ⟨o, 0, none⟩) 0 0) ys k = some (.slice (some ⟨h.nx, 0, none⟩) k unk, h.add (.cells ([] ++ ys) e .grow)) := by
        unfold appSome
        have e3 : Nat.beq 0 unk = false := by
          rw [Bool.eq_false_iff]; intro hh; have := Nat.eq_of_beq_eq_true hh; have : unk = 18446744073709551616 := rfl; omega
        have e4 : Nat.ble (0 + k) 0 = false := by rw [Bool.eq_false_iff]; intro hh; have : 0 + k ≤ 0 := by simpa using hh
                                                  omega
        have e5 : readAt h o 0 (0 * esz) = some [] := by rw [Nat.zero_mul, readAt_get h4 (by simp)]; rfl
        simp only [h4, e3, e4, e5, cond_false, Option.bind_some]
        unfold appNew
        rw [Nat.zero_add] at hB hU ⊢
        rw [ble_t hB, blt_t hU]; rfl
      rw [e1]
      exact ⟨_, k, unk, _, rfl, .inl (.inr ⟨h.nx, rfl, rfl, by simp [hk], hb, by rw [nx_add]; omega, get_add_same ..⟩), by omega, by rw [nx_add]; omega, rfl, fun f => f.add _, fun q hq _ => get_add_ne (by omega)⟩
def bb (b : Bool) : List Value := [.bool b]
theorem bb_map (ys : List Bool) : ys.flatMap bb = ys.map Value.bool := by
  induction ys with
  | nil => rfl
  | cons y ys ih => rw [List.flatMap_cons, ih]; rfl
theorem BoolsAt.src {h : Hp} {a2 : Option Addr} {n2 c2 : Nat} {ys : List Bool} (Y : BoolsAt h a2 n2 ys) : srcCells h 1 (.slice a2 n2 c2) = some (ys.flatMap bb, n2) := by
  rw [bb_map]
  have hn2 := Y.1
  rcases Y.2 with ⟨rfl, rfl⟩ | ⟨b, off, cs, e', m, rfl, h2, h3, h4, h5⟩
  · subst hn2; rfl
  · refine src_get ?_
    rw [Nat.mul_one, readAt_get h3 (by omega)]
    congr 1
    refine List.ext_getElem (by simp; omega) fun i hi hi' => ?_
    have hi2 : i < ys.length := by simpa using hi'
    have h7 : (cs.drop (off + i * 1)).take 1 = [.bool ys[i]] := h5 i hi2
    rw [Nat.mul_one, List.drop_eq_getElem_cons (show off + i < cs.length by omega)] at h7
    simp only [List.take_succ_cons, List.take_zero, List.cons.injEq, and_true] at h7
    simp [h7]
end Go.Ev
/- Digits of whole numbers: the lowest one. -/
namespace Go.Ev
theorem low_split : ∀ (u : Nat), 0 < u → ∃ k j, u = 2 ^ (k + 1) * j + 2 ^ k := by
  intro u
  induction u using Nat.strongRecOn with
  | _ u ih =>
    intro hu
    rcases Nat.mod_two_eq_zero_or_one u with h | h
    · obtain ⟨k, j, hk⟩ := ih (u / 2) (by omega) (by omega)
      refine ⟨k + 1, j, ?_⟩
      have : u = 2 * (u / 2) := by omega
      rw [this, hk, Nat.mul_add, ← Nat.mul_assoc, ← Nat.pow_succ', ← Nat.pow_succ']
    · exact ⟨0, u / 2, by simp; omega⟩
theorem two_pow_lt_succ (k : Nat) : 2 ^ k < 2 ^ (k + 1) := Nat.pow_lt_pow_right (by decide) (by omega)
/-- Without its lowest digit. -/
theorem low_clear (k j : Nat) : (2 ^ (k + 1) * j + 2 ^ k) &&& (2 ^ (k + 1) * j + 2 ^ k - 1) = 2 ^ (k + 1) * j := by
  have hp : 0 < 2 ^ k := Nat.pow_pos (by decide)
  refine Nat.eq_of_testBit_eq fun i => ?_
  rw [Nat.testBit_and, show 2 ^ (k + 1) * j + 2 ^ k - 1 = 2 ^ (k + 1) * j + (2 ^ k - 1) by omega]
  rw [Nat.testBit_two_pow_mul_add _ (two_pow_lt_succ k), Nat.testBit_two_pow_mul_add _ (by have := two_pow_lt_succ k; omega), Nat.testBit_two_pow_mul]
  by_cases hi : i < k + 1
  · rw [if_pos hi, if_pos hi, Nat.testBit_two_pow, Nat.testBit_two_pow_sub_one]
    have : ¬ i ≥ k + 1 := by omega
    simp only [this, decide_false, Bool.false_and]
    by_cases h : k = i
    · subst h; simp
    · simp [h]
  · rw [if_neg hi, if_neg hi]
    have : i ≥ k + 1 := by omega
    simp [this]
/-- The lowest digit alone. -/
theorem low_only (k j : Nat) (hu : 2 ^ (k + 1) * j + 2 ^ k < 2 ^ 32) : (2 ^ (k + 1) * j + 2 ^ k) &&& (2 ^ 32 - (2 ^ (k + 1) * j + 2 ^ k)) = 2 ^ k := by
  have hk : k < 32 := by
    rcases Nat.lt_or_ge k 32 with h | h
    · exact h
    · have := Nat.pow_le_pow_right (show 0 < 2 by decide) h
      omega
  have e32 : 2 ^ 32 = 2 ^ (k + 1) * 2 ^ (31 - k) := by rw [← Nat.pow_add]; congr 1; omega
  have hj : j < 2 ^ (31 - k) := by
    have hp : 0 < 2 ^ (k + 1) := Nat.pow_pos (by decide)
    refine Nat.lt_of_mul_lt_mul_left (a := 2 ^ (k + 1)) ?_
    omega
  have e1 : 2 ^ 32 - (2 ^ (k + 1) * j + 2 ^ k) = 2 ^ (k + 1) * (2 ^ (31 - k) - (j + 1)) + 2 ^ k := by
    rw [Nat.mul_sub, ← e32, Nat.mul_add, Nat.mul_one]
    have : 2 ^ (k + 1) = 2 ^ k + 2 ^ k := by rw [Nat.pow_succ]; omega
    have h2 : 2 ^ (k + 1) * (j + 1) ≤ 2 ^ 32 := by rw [e32]; exact Nat.mul_le_mul_left _ hj
    rw [Nat.mul_add, Nat.mul_one] at h2
    omega
  rw [e1]
  refine Nat.eq_of_testBit_eq fun i => ?_
  rw [Nat.testBit_and, Nat.testBit_two_pow_mul_add _ (two_pow_lt_succ k), Nat.testBit_two_pow_mul_add _ (two_pow_lt_succ k), Nat.testBit_two_pow]
  by_cases hi : i < k + 1
  · rw [if_pos hi, if_pos hi]; simp
  · rw [if_neg hi, if_neg hi, Nat.testBit_two_pow_sub_succ hj]
    have : k ≠ i := by omega
    simp only [this, decide_false]
    cases j.testBit (i - (k + 1)) <;> simp
/-- The digits that are set, from the lowest one on. -/
def digits (n u : Nat) : List Nat := (List.range n).filter fun i => u.testBit i
theorem filter_range_eq {n k : Nat} {p q : Nat → Bool} (hk : k < n) (hp : p k = true) (hlow : ∀ i, i < k → p i = false) (hq : ∀ i, q i = (p i && decide (i ≠ k))) : (List.range n).filter p = k :: (List.range n).filter q := by
  obtain ⟨m, rfl⟩ : ∃ m, n = k + (1 + m) := ⟨n - (k + 1), by omega⟩
  have e : List.range (k + (1 + m)) = List.range k ++ (k :: List.range' (k + 1) m) := by
    rw [List.range_eq_range', ← List.range'_append_1, ← List.range'_append_1, List.range_eq_range']
    simp
  have z1 : (List.range k).filter p = [] := List.filter_eq_nil_iff.2 fun i hi => by rw [hlow i (List.mem_range.1 hi)]; simp
  have z2 : (List.range k).filter q = [] := List.filter_eq_nil_iff.2 fun i hi => by rw [hq, hlow i (List.mem_range.1 hi)]; simp
  rw [e, List.filter_append, List.filter_append, z1, z2, List.nil_append, List.nil_append, List.filter_cons, if_pos hp, List.filter_cons, if_neg (by rw [hq]; simp)]
  congr 1
  refine List.filter_congr fun i hi => ?_
  have : k + 1 ≤ i := by rw [List.mem_range'_1] at hi; omega
  rw [hq, decide_eq_true (by omega), Bool.and_true]
theorem digits_step {n k j : Nat} (hk : k < n) : digits n (2 ^ (k + 1) * j + 2 ^ k) = k :: digits n (2 ^ (k + 1) * j) := by
  have hb : ∀ i, (2 ^ (k + 1) * j + 2 ^ k).testBit i = if i < k + 1 then decide (k = i) else j.testBit (i - (k + 1)) := fun i => by
    rw [Nat.testBit_two_pow_mul_add _ (two_pow_lt_succ k), Nat.testBit_two_pow]
  refine filter_range_eq hk ?_ (fun i hi => ?_) fun i => ?_
  · rw [hb, if_pos (by omega)]; simp
  · rw [hb, if_pos (by omega)]; simp; omega
  · rw [hb, Nat.testBit_two_pow_mul]
    by_cases hi : i < k + 1
    · rw [if_pos hi]
      have : ¬ i ≥ k + 1 := by omega
      simp only [this, decide_false, Bool.false_and]
      by_cases h : k = i
      · subst h; simp
      · simp [h]
    · rw [if_neg hi]
      have h1 : i ≥ k + 1 := by omega
      have h2 : i ≠ k := by omega
      simp [h1, h2]
theorem digits_zero (n : Nat) : digits n 0 = [] := by unfold digits; rw [List.filter_eq_nil_iff]; intro i _; simp
end Go.Ev
/- What stays, found by instances; steps that many functions share. -/
namespace Go.Ev
open Go
/-- A later memory: what there was is as it was. -/
class Ft (h h' : Hp) : Prop where
  get : ∀ o, o < h.nx → h'.get o = h.get o
  nx : h.nx ≤ h'.nx
/-- A number that was not there yet. -/
class Nw (b : Nat) (g : Hp) : Prop where
  ge : g.nx ≤ b
instance (h : Hp) : Ft h h := ⟨fun _ _ => rfl, Nat.le_refl _⟩
instance (g h : Hp) (x : Ob) [k : Ft g h] : Ft g (h.add x) := ⟨fun o ho => by have := k.nx; rw [get_add_ne (by omega)]; exact k.get o ho, by have := k.nx; rw [nx_add]; omega⟩
instance (g h : Hp) (n : Nat) [k : Ft g h] : Ft g (h.rsv n) := ⟨k.get, Nat.le_trans k.nx (Nat.le_add_right ..)⟩
instance (g h : Hp) (l : List Nat) [k : Ft g h] : Ft g (h.grd l) := ⟨k.get, k.nx⟩
instance (g h h' : Hp) [k : Ft g h] : Ft g (h.rst h') := ⟨k.get, k.nx⟩
instance (g h : Hp) [k : Ft g h] : Nw h.nx g := ⟨k.nx⟩
instance (g : Hp) (n m : Nat) [k : Nw n g] : Nw (n + m) g := ⟨Nat.le_trans k.ge (Nat.le_add_right ..)⟩
instance (g h : Hp) (b off : Nat) (vs : List Value) [k : Ft g h] [q : Nw b g] : Ft g (h.wr b off vs) := ⟨fun o ho => by have := q.ge; rw [wr_get_ne _ _ _ _ (by omega)]; exact k.get o ho, by rw [nx_wr]; exact k.nx⟩
instance (g h : Hp) (b : Nat) (x : Ob) [k : Ft g h] [q : Nw b g] : Ft g (h.lay b x) := ⟨fun o ho => by have := q.ge; rw [get_lay, if_neg (by omega)]; exact k.get o ho, k.nx⟩
theorem Kp.ex {n : Nat} {h h' : Hp} (k : Kp n h h') (hn : h.nx ≤ n) : Ft h h' := ⟨fun o ho => k.get o (by omega), k.nx⟩
theorem Ft.tr {g h h' : Hp} (a : Ft g h) (b : Ft h h') : Ft g h' := ⟨fun o ho => (b.get o (Nat.lt_of_lt_of_le ho a.nx)).trans (a.get o ho), Nat.le_trans a.nx b.nx⟩
/-- How an element is held does not change with time. -/
class EUp {α : Type} (R : Enc α) : Prop where
  up : ∀ (h h' : Hp) x vs, Ft h h' → R h x vs → R h' x vs
instance : EUp EInt := ⟨fun _ _ _ _ _ h => h⟩
instance : EUp EBool := ⟨fun _ _ _ _ _ h => h⟩
instance {α : Type} (enc : α → List Value) : EUp (ECells enc) := ⟨fun _ _ _ _ _ h => h⟩
theorem SlAt.to {α : Type} {w : Nat} {R : Enc α} [hR : EUp R] {h : Hp} (h' : Hp) [k : Ft h h'] {a : Option Addr} {n : Nat} {xs : List α} (H : SlAt w R h a n xs) : SlAt w R h' a n xs := by
  refine ⟨H.1, H.2.imp id ?_⟩
  rintro ⟨b, off, c, e, m, h1, h2, h3, h4, h5⟩
  exact ⟨b, off, c, e, m, h1, Nat.lt_of_lt_of_le h2 k.nx, by rw [k.get b h2]; exact h3, h4, fun i hi => hR.up _ _ _ _ k (h5 i hi)⟩
instance : EUp EInts := ⟨fun _ h' _ _ _ ⟨a, n, c, h1, h2⟩ => ⟨a, n, c, h1, h2.to h'⟩⟩
theorem readAt_ex {g h : Hp} [k : Ft g h] {b off n : Nat} (hb : b < g.nx) : readAt h b off n = readAt g b off n := by
  unfold readAt; rw [k.get b hb]
theorem isNat_i {n : Nat} {K : Nat → Prop} (h : K n) : isNat (Int.ofNat n) K := h
/-- An element of a list is read. -/
theorem IntsAt.rd {g h : Hp} {a : Option Addr} {n : Nat} {xs : List Int} (H : IntsAt g a n xs) [Ft g h] {k : Nat} (hk : k < xs.length) {K : Int → Prop} (next : K xs[k]) :
    isAddr a fun b off => vreq (Nat.blt k n) (∃ x, readAt h b (off + k * 1) 1 = some [.int .i64 x] ∧ K x) :=
  IntsAt.get H hk fun _ _ _ hb hr => vreq_t (blt_t (by rw [H.1]; exact hk)) ⟨_, by rw [readAt_ex (g := g) hb]; exact hr, next⟩
theorem IntsAt.src {h : Hp} {a2 : Option Addr} {n2 c2 : Nat} {ys : List Int} (Y : IntsAt h a2 n2 ys) : srcCells h 1 (.slice a2 n2 c2) = some (ys.map (Value.int .i64), n2) := by
  have hn2 := Y.1
  rcases Y.2 with ⟨rfl, rfl⟩ | ⟨b, off, cs, e', m, rfl, h2, h3, h4, h5⟩
  · subst hn2; rfl
  · refine src_get ?_
    rw [Nat.mul_one, readAt_get h3 (by omega)]
    congr 1
    refine List.ext_getElem (by simp; omega) fun i hi hi' => ?_
    have hi2 : i < ys.length := by simpa using hi'
    have h7 : (cs.drop (off + i * 1)).take 1 = [.int .i64 ys[i]] := h5 i hi2
    rw [Nat.mul_one, List.drop_eq_getElem_cons (show off + i < cs.length by omega)] at h7
    simp only [List.take_succ_cons, List.take_zero, List.cons.injEq, and_true] at h7
    simp [h7]
/-! ### what a call returns -/
section
variable {P : Program} {O : CallF} {f : FuncId} {az : List Value} {h : Hp}
theorem Ret.b1 {x : Bool} {R : Hp → Prop} (r : Ret P O f az h fun v h' => v = .bool x ∧ R h') {K : Bool → Hp → Prop} (next : ∀ h', R h' → K x h') : ∃ x, ∃ h', EvC P O f az h (.bool x) h' ∧ K x h' :=
  let ⟨_, h', e, hv, q⟩ := r; ⟨x, h', hv ▸ e, next h' q⟩
theorem Ret.u {R : Hp → Prop} (r : Ret P O f az h fun v h' => v = undef ∧ R h') {K : Hp → Prop} (next : ∀ h', R h' → K h') : ∃ h', EvC P O f az h undef h' ∧ K h' :=
  let ⟨_, h', e, hv, q⟩ := r; ⟨h', hv ▸ e, next h' q⟩
theorem Ret.s {R : Option Addr → Nat → Nat → Hp → Prop} (r : Ret P O f az h fun v h' => ∃ a n c, v = .slice a n c ∧ R a n c h') {K : Option Addr → Nat → Nat → Hp → Prop} (next : ∀ a n c h', R a n c h' → K a n c h') : ∃ a n c, ∃ h', EvC P O f az h (.slice a n c) h' ∧ K a n c h' :=
  let ⟨_, h', e, a, n, c, hv, q⟩ := r; ⟨a, n, c, h', hv ▸ e, next a n c h' q⟩
end
/-! ### lists that grow -/
theorem Acc.lt {h : Hp} {base : Nat} {e : TypeId} {esz : Nat} {a : Option Addr} {n c : Nat} {xs : List Value} (H : Acc h base e esz a n c xs) {o : Nat} (ha : a = some ⟨o, 0, none⟩) : base ≤ o ∧ o < h.nx := (AccE.lt (.inl H)) ha
/-- What is appended to lies at a new number. -/
theorem append_new {P : Program} {sT e : TypeId} {esz bytes : Nat} (T : AppT P sT e esz bytes) {h : Hp} {base : Nat} {a : Option Addr} {n c : Nat} {xs : List Value} (H : Acc h base e esz a n c xs)
    {x : Value} {ys : List Value} {k : Nat} (hx : ∃ a n c, x = .slice a n c) (hs : srcCells h esz x = some (ys, k)) (h1 : ys.all one = true) (hkp : 0 < k) {a' : Option Addr} {n' c' : Nat} {h' : Hp} (e1 : appendV P h sT sT (.slice a n c) x = some (.slice a' n' c', h')) : a' = some ⟨h.nx, 0, none⟩ := by
  obtain ⟨hz, info, z, hi, hzz, hrun⟩ := T.run
  rw [hrun h _ x hx, hs] at e1
  have hk0 : Nat.beq k 0 = false := by rw [Bool.eq_false_iff]; intro hh; have := Nat.eq_of_beq_eq_true hh; omega
  simp only [Option.bind_some, h1, cond_true, hk0, cond_false] at e1
  have new : ∀ {old : List Value} {m : Nat} {r : Value × Hp}, appNew h e bytes old ys m = some r → r.1 = .slice (some ⟨h.nx, 0, none⟩) m unk := by
    intro old m r hr
    unfold appNew at hr
    obtain ⟨_, hr⟩ := cond_some hr
    rw [← Option.some.inj hr]
  rcases H with ⟨rfl, rfl, rfl, rfl⟩ | ⟨o, rfl, rfl, h3, h4, h5, h6⟩
  · have := new (show appNew h e bytes [] ys k = some (.slice a' n' c', h') from e1)
    injection this
  · have e2 : appSome h e bytes esz (.slice (some ⟨o, 0, none⟩) n unk) ys k = ((appNew h e bytes (xs.drop 0) ys (n + k)).bind fun r => (r.2.put o none).map fun h' => (r.1, h')) := by
      unfold appSome
      have hcap : Nat.beq unk unk = true := Nat.beq_refl _
      have hee : Nat.beq e e = true := Nat.beq_refl _
      have : Nat.ble (0 + (n + k) * esz) xs.length = false := by
        rw [Bool.eq_false_iff]; intro hh
        have hh : 0 + (n + k) * esz ≤ xs.length := by simpa using hh
        have : 0 < k * esz := Nat.mul_pos hkp hz
        rw [Nat.add_mul] at hh
        omega
      simp only [h6, hcap, hee, cond_true, isGrow, Bool.and_self, this, cond_false]
      rw [show Nat.beq (0 + n * esz) xs.length = true by rw [Nat.beq_eq]; omega]; rfl
    rw [e2] at e1
    obtain ⟨r, h7, h8⟩ := Option.bind_eq_some_iff.1 e1
    obtain ⟨h9, _, h10⟩ := Option.map_eq_some_iff.1 h8
    have := new h7
    rw [show r.1 = .slice a' n' c' by injection h10] at this
    injection this
end Go.Ev
/- The library of texts that hold as memory goes on: as in the other seat. -/
/- Conditions of functions' code, printed by a program of ours. -/
namespace Go.Proofs.YtfgfhplgnfbaaaaDoor
open Go Go.Ev
set_option maxRecDepth 100000
set_option linter.unusedVariables false
/-! sward/sat.clause -/
noncomputable def b87 : Code := (Tryd.f87.body).getD .skip
noncomputable def stk87_0 : List KI := [.code (sub [1, 1, 0, 1, 0] b87), .blk 0, .code (sub [1, 1, 1] b87)]
def lv87 : List (Nat × List Nat) := [(0, [1, 4, 5, 9, 10, 11])]
def I87_0 (O : CallF) (Q : Value → Hp → Prop) (a0 : Option Addr) (n0 : Nat) (c0 : Nat) (x1 : Int) (q4 : Bool) (x5 : Int) (x11 : Int) (h : Hp) : Prop := RKL Tryd.prog O Tryd.f87 stk87_0 27 [1, 4, 5, 9, 10, 11] [(.int .i64 x1), (.bool q4), (.int .i64 x5), (.slice a0 n0 c0), (.int .i64 (Int.ofNat n0)), (.int .i64 x11)] h Q
def T87 (O : CallF) (Q : Value → Hp → Prop) (a0 : Option Addr) (n0 : Nat) (c0 : Nat) (x1 : Int) (h : Hp) : Prop :=
  I87_0 O Q a0 n0 c0 x1 false 0 0 h
theorem rk87 {O Q} (a0 n0 c0 x1) {h : Hp} (hO : O 87 [(.slice a0 n0 c0), (.int .i64 x1)] h = none) (hh : T87 O Q a0 n0 c0 x1 h) : Ret Tryd.prog O 87 [(.slice a0 n0 c0), (.int .i64 x1)] h Q :=
  .of (c := b87) Tryd.func87 (by kernel_rfl) hO (V_ok (tb := lv87) (cuts := []) 500 (Eq.mp (by kernel_rfl) hh))
def T87_0 (O : CallF) (Q : Value → Hp → Prop) (a0 : Option Addr) (n0 : Nat) (c0 : Nat) (x1 : Int) (q4 : Bool) (x5 : Int) (x11 : Int) (h : Hp) : Prop :=
  vcond (ltI x11 (Int.ofNat n0))
  (isNat x11 fun n101' =>
  isAddr a0 fun b102' f103' =>
  vreq (Nat.blt n101' n0)
  (∃ x104', readAt h b102' (f103' + (n101' * 1)) 1 = some [(.int .i64 x104')] ∧
  ∃ x105', ∃ h106', EvC Tryd.prog O 94 [(.int .i64 x104')] h (.int .i64 x105') h106' ∧
  vcond (!(ltI x5 x105'))
  (Q (.bool false) h106')
  (vcond (ltI x1 x105')
  (Q (.bool false) h106')
  (I87_0 O Q a0 n0 c0 x1 q4 x105' (wrapF .i64 (x11 + 1)) h106'))))
  (Q (.bool true) h)
theorem I87_0.of {O Q} (a0 n0 c0 x1 q4 x5 x11) {h : Hp} (hh : T87_0 O Q a0 n0 c0 x1 q4 x5 x11 h) : I87_0 O Q a0 n0 c0 x1 q4 x5 x11 h :=
  RKL.of (tb := lv87) (cuts := []) 500 fun _ => Eq.mp (by kernel_rfl) hh
/-! sward/sat.variable -/
noncomputable def b94 : Code := (Tryd.f94.body).getD .skip
def lv94 : List (Nat × List Nat) := []
def T94 (O : CallF) (Q : Value → Hp → Prop) (x0 : Int) (h : Hp) : Prop :=
  vcond (ltI x0 (-30))
  (Q (.int .i64 0) h)
  (vcond (ltI 30 x0)
  (Q (.int .i64 0) h)
  (Q (.int .i64 (maxI x0 (wrapF .i64 (0 - x0)))) h))
theorem rk94 {O Q} (x0) {h : Hp} (hO : O 94 [(.int .i64 x0)] h = none) (hh : T94 O Q x0 h) : Ret Tryd.prog O 94 [(.int .i64 x0)] h Q :=
  .of (c := b94) Tryd.func94 (by kernel_rfl) hO (V_ok (tb := lv94) (cuts := []) 500 (Eq.mp (by kernel_rfl) hh))
/-! (sward/sat.truths).with -/
noncomputable def b104 : Code := (Tryd.f104.body).getD .skip
def lv104 : List (Nat × List Nat) := []
def T104 (O : CallF) (Q : Value → Hp → Prop) (x0_0 : Int) (x0_1 : Int) (x1 : Int) (h : Hp) : Prop :=
  ∃ x1', ∃ h2', EvC Tryd.prog O 84 [(.int .i64 x1)] ((h.add (.cells [(.int .u32 x0_0), (.int .u32 x0_1)] 102 .fix)).add (.cells [(.int .u32 0), (.int .u32 0)] 102 .fix)) (.int .u32 x1') h2' ∧
  vcond (ltI 0 x1)
  (∃ x3', readAt h2' h.nx 0 1 = some [(.int .u32 x3')] ∧
  vreq (inD 4294967296 x3')
  (vreq (inD 4294967296 x1')
  (vreq (canW h2' h.nx 0 [(.int .u32 (lorI x3' x1'))])
  (∃ x4', ∃ x5', readAt ((h2'.wr h.nx 0 [(.int .u32 (lorI x3' x1'))]).rsv 9) h.nx 0 2 = some [(.int .u32 x4'), (.int .u32 x5')] ∧
  ∃ x6', readAt ((h2'.wr h.nx 0 [(.int .u32 (lorI x3' x1'))]).rsv 9) h.nx 0 1 = some [(.int .u32 x6')] ∧
  ∃ x7', readAt ((h2'.wr h.nx 0 [(.int .u32 (lorI x3' x1'))]).rsv 9) h.nx 1 1 = some [(.int .u32 x7')] ∧
  vreq (inD 4294967296 x6')
  (vreq (inD 4294967296 x7')
  (vreq (canW (((h2'.wr h.nx 0 [(.int .u32 (lorI x3' x1'))]).rsv 9).grd [h.nx, h.nx]) (h.add (.cells [(.int .u32 x0_0), (.int .u32 x0_1)] 102 .fix)).nx 0 [(.int .u32 x4'), (.int .u32 x5')])
  (∃ x8', ∃ x9', readAt (((((h2'.wr h.nx 0 [(.int .u32 (lorI x3' x1'))]).rsv 9).grd [h.nx, h.nx]).wr (h.add (.cells [(.int .u32 x0_0), (.int .u32 x0_1)] 102 .fix)).nx 0 [(.int .u32 x4'), (.int .u32 x5')]).rst ((h2'.wr h.nx 0 [(.int .u32 (lorI x3' x1'))]).rsv 9)) (h.add (.cells [(.int .u32 x0_0), (.int .u32 x0_1)] 102 .fix)).nx 0 2 = some [(.int .u32 x8'), (.int .u32 x9')] ∧
  Q (.tuple #[(.agg #[(.int .u32 x8'), (.int .u32 x9')]), (.bool (eqI (landI x6' x7') 0))]) (((((h2'.wr h.nx 0 [(.int .u32 (lorI x3' x1'))]).rsv 9).grd [h.nx, h.nx]).wr (h.add (.cells [(.int .u32 x0_0), (.int .u32 x0_1)] 102 .fix)).nx 0 [(.int .u32 x4'), (.int .u32 x5')]).rst ((h2'.wr h.nx 0 [(.int .u32 (lorI x3' x1'))]).rsv 9)))))))))
  (∃ x10', readAt h2' h.nx 1 1 = some [(.int .u32 x10')] ∧
  vreq (inD 4294967296 x10')
  (vreq (inD 4294967296 x1')
  (vreq (canW h2' h.nx 1 [(.int .u32 (lorI x10' x1'))])
  (∃ x11', ∃ x12', readAt ((h2'.wr h.nx 1 [(.int .u32 (lorI x10' x1'))]).rsv 9) h.nx 0 2 = some [(.int .u32 x11'), (.int .u32 x12')] ∧
  ∃ x13', readAt ((h2'.wr h.nx 1 [(.int .u32 (lorI x10' x1'))]).rsv 9) h.nx 0 1 = some [(.int .u32 x13')] ∧
  ∃ x14', readAt ((h2'.wr h.nx 1 [(.int .u32 (lorI x10' x1'))]).rsv 9) h.nx 1 1 = some [(.int .u32 x14')] ∧
  vreq (inD 4294967296 x13')
  (vreq (inD 4294967296 x14')
  (vreq (canW (((h2'.wr h.nx 1 [(.int .u32 (lorI x10' x1'))]).rsv 9).grd [h.nx, h.nx]) (h.add (.cells [(.int .u32 x0_0), (.int .u32 x0_1)] 102 .fix)).nx 0 [(.int .u32 x11'), (.int .u32 x12')])
  (∃ x15', ∃ x16', readAt (((((h2'.wr h.nx 1 [(.int .u32 (lorI x10' x1'))]).rsv 9).grd [h.nx, h.nx]).wr (h.add (.cells [(.int .u32 x0_0), (.int .u32 x0_1)] 102 .fix)).nx 0 [(.int .u32 x11'), (.int .u32 x12')]).rst ((h2'.wr h.nx 1 [(.int .u32 (lorI x10' x1'))]).rsv 9)) (h.add (.cells [(.int .u32 x0_0), (.int .u32 x0_1)] 102 .fix)).nx 0 2 = some [(.int .u32 x15'), (.int .u32 x16')] ∧
  Q (.tuple #[(.agg #[(.int .u32 x15'), (.int .u32 x16')]), (.bool (eqI (landI x13' x14') 0))]) (((((h2'.wr h.nx 1 [(.int .u32 (lorI x10' x1'))]).rsv 9).grd [h.nx, h.nx]).wr (h.add (.cells [(.int .u32 x0_0), (.int .u32 x0_1)] 102 .fix)).nx 0 [(.int .u32 x11'), (.int .u32 x12')]).rst ((h2'.wr h.nx 1 [(.int .u32 (lorI x10' x1'))]).rsv 9)))))))))
theorem rk104 {O Q} (x0_0 x0_1 x1) {h : Hp} (hO : O 104 [(.agg #[(.int .u32 x0_0), (.int .u32 x0_1)]), (.int .i64 x1)] h = none) (hh : T104 O Q x0_0 x0_1 x1 h) : Ret Tryd.prog O 104 [(.agg #[(.int .u32 x0_0), (.int .u32 x0_1)]), (.int .i64 x1)] h Q :=
  .of (c := b104) Tryd.func104 (by kernel_rfl) hO (V_ok (tb := lv104) (cuts := []) 500 (Eq.mp (by kernel_rfl) hh))
/-! (sward/sat.truths).literals -/
noncomputable def b90 : Code := (Tryd.f90.body).getD .skip
noncomputable def stk90_0 : List KI := [.code (sub [1, 1, 0, 1, 0] b90), .blk 0, .code (sub [1, 1, 1] b90)]
def lv90 : List (Nat × List Nat) := [(0, [1, 2, 3, 4])]
def I90_0 (O : CallF) (Q : Value → Hp → Prop) (x0_0 : Int) (x0_1 : Int) (b1 : Nat) (f1 : Nat) (a3 : Option Addr) (n3 : Nat) (c3 : Nat) (x4 : Int) (h : Hp) : Prop := RKL Tryd.prog O Tryd.f90 stk90_0 31 [1, 2, 3, 4] [(.pointer (some ⟨b1, f1, none⟩)), (.slice none 0 0), (.slice a3 n3 c3), (.int .u32 x4)] h Q
def T90 (O : CallF) (Q : Value → Hp → Prop) (x0_0 : Int) (x0_1 : Int) (h : Hp) : Prop :=
  ∃ x1', readAt (h.add (.cells [(.int .u32 x0_0), (.int .u32 x0_1)] 102 .fix)) h.nx 0 1 = some [(.int .u32 x1')] ∧
  ∃ x2', readAt (h.add (.cells [(.int .u32 x0_0), (.int .u32 x0_1)] 102 .fix)) h.nx 1 1 = some [(.int .u32 x2')] ∧
  vreq (inD 4294967296 x1')
  (vreq (inD 4294967296 x2')
  (I90_0 O Q x0_0 x0_1 h.nx 0 none 0 0 (lorI x1' x2') (h.add (.cells [(.int .u32 x0_0), (.int .u32 x0_1)] 102 .fix))))
theorem rk90 {O Q} (x0_0 x0_1) {h : Hp} (hO : O 90 [(.agg #[(.int .u32 x0_0), (.int .u32 x0_1)])] h = none) (hh : T90 O Q x0_0 x0_1 h) : Ret Tryd.prog O 90 [(.agg #[(.int .u32 x0_0), (.int .u32 x0_1)])] h Q :=
  .of (c := b90) Tryd.func90 (by kernel_rfl) hO (V_ok (tb := lv90) (cuts := []) 500 (Eq.mp (by kernel_rfl) hh))
def T90_0 (O : CallF) (Q : Value → Hp → Prop) (x0_0 : Int) (x0_1 : Int) (b1 : Nat) (f1 : Nat) (a3 : Option Addr) (n3 : Nat) (c3 : Nat) (x4 : Int) (h : Hp) : Prop :=
  vcond (!(eqI x4 0))
  (∃ x101', ∃ h102', EvC Tryd.prog O 120 [(.int .u32 x4)] h (.int .i64 x101') h102' ∧
  ∃ x103', ∃ x104', readAt h102' b1 f1 2 = some [(.int .u32 x103'), (.int .u32 x104')] ∧
  ∃ x105', ∃ h106', EvC Tryd.prog O 81 [(.agg #[(.int .u32 x103'), (.int .u32 x104')]), (.int .i64 (wrapF .i64 (x101' + 1)))] h102' (.int .i64 x105') h106' ∧
  vcond (eqI x105' 2)
  (∃ a107' n108' c109' h110', appendV Tryd.prog (h106'.add (.cells [(.int .i64 (wrapF .i64 (0 - (wrapF .i64 (x101' + 1)))))] 3 .fix)) 32 32 (.slice a3 n3 c3) (.slice (some ⟨h106'.nx, 0, none⟩) 1 1) = some (.slice a107' n108' c109', h110') ∧
  vreq (inD 4294967296 x4)
  (vreq (inD 4294967296 (wrapF .u32 (x4 - 1)))
  (I90_0 O Q x0_0 x0_1 b1 f1 a107' n108' c109' (landI x4 (wrapF .u32 (x4 - 1))) h110')))
  (∃ a111' n112' c113' h114', appendV Tryd.prog (h106'.add (.cells [(.int .i64 (wrapF .i64 (x101' + 1)))] 3 .fix)) 32 32 (.slice a3 n3 c3) (.slice (some ⟨h106'.nx, 0, none⟩) 1 1) = some (.slice a111' n112' c113', h114') ∧
  vreq (inD 4294967296 x4)
  (vreq (inD 4294967296 (wrapF .u32 (x4 - 1)))
  (I90_0 O Q x0_0 x0_1 b1 f1 a111' n112' c113' (landI x4 (wrapF .u32 (x4 - 1))) h114'))))
  (Q (.slice a3 n3 c3) h)
theorem I90_0.of {O Q} (x0_0 x0_1 b1 f1 a3 n3 c3 x4) {h : Hp} (hh : T90_0 O Q x0_0 x0_1 b1 f1 a3 n3 c3 x4 h) : I90_0 O Q x0_0 x0_1 b1 f1 a3 n3 c3 x4 h :=
  RKL.of (tb := lv90) (cuts := []) 500 fun _ => Eq.mp (by kernel_rfl) hh
/-! (sward/sat.truths).of -/
noncomputable def b81 : Code := (Tryd.f81.body).getD .skip
def lv81 : List (Nat × List Nat) := []
def T81 (O : CallF) (Q : Value → Hp → Prop) (x0_0 : Int) (x0_1 : Int) (x1 : Int) (h : Hp) : Prop :=
  ∃ x1', ∃ h2', EvC Tryd.prog O 84 [(.int .i64 x1)] (h.add (.cells [(.int .u32 x0_0), (.int .u32 x0_1)] 102 .fix)) (.int .u32 x1') h2' ∧
  ∃ x3', readAt h2' h.nx 0 1 = some [(.int .u32 x3')] ∧
  vreq (inD 4294967296 x3')
  (vreq (inD 4294967296 x1')
  (vcond (!(eqI (landI x3' x1') 0))
  (Q (.int .i64 1) h2')
  (∃ x4', readAt h2' h.nx 1 1 = some [(.int .u32 x4')] ∧
  vreq (inD 4294967296 x4')
  (vreq (inD 4294967296 x1')
  (vcond (!(eqI (landI x4' x1') 0))
  (Q (.int .i64 2) h2')
  (Q (.int .i64 0) h2'))))))
theorem rk81 {O Q} (x0_0 x0_1 x1) {h : Hp} (hO : O 81 [(.agg #[(.int .u32 x0_0), (.int .u32 x0_1)]), (.int .i64 x1)] h = none) (hh : T81 O Q x0_0 x0_1 x1 h) : Ret Tryd.prog O 81 [(.agg #[(.int .u32 x0_0), (.int .u32 x0_1)]), (.int .i64 x1)] h Q :=
  .of (c := b81) Tryd.func81 (by kernel_rfl) hO (V_ok (tb := lv81) (cuts := []) 500 (Eq.mp (by kernel_rfl) hh))
/-! sward/sat.bit -/
noncomputable def b84 : Code := (Tryd.f84.body).getD .skip
def lv84 : List (Nat × List Nat) := []
def T84 (O : CallF) (Q : Value → Hp → Prop) (x0 : Int) (h : Hp) : Prop :=
  vreq (le0 (wrapF .i64 ((maxI x0 (wrapF .i64 (0 - x0))) - 1)))
  (Q (.int .u32 (shlF .u32 1 (Int.toNat (wrapF .i64 ((maxI x0 (wrapF .i64 (0 - x0))) - 1))))) h)
theorem rk84 {O Q} (x0) {h : Hp} (hO : O 84 [(.int .i64 x0)] h = none) (hh : T84 O Q x0 h) : Ret Tryd.prog O 84 [(.int .i64 x0)] h Q :=
  .of (c := b84) Tryd.func84 (by kernel_rfl) hO (V_ok (tb := lv84) (cuts := []) 500 (Eq.mp (by kernel_rfl) hh))
/-! math/bits.TrailingZeros32 -/
noncomputable def b120 : Code := (Tryd.f120.body).getD .skip
def lv120 : List (Nat × List Nat) := []
def T120 (O : CallF) (Q : Value → Hp → Prop) (x0 : Int) (h : Hp) : Prop :=
  vcond (eqI x0 0)
  (Q (.int .i64 32) h)
  (vreq (inD 4294967296 x0)
  (vreq (inD 4294967296 (wrapF .u32 (0 - x0)))
  (isNat (shrF .u32 (wrapF .u32 ((landI x0 (wrapF .u32 (0 - x0))) * 125613361)) 27) fun n1' =>
  vreq (Nat.blt n1' 32)
  (∃ x2', readAt h 0 (0 + (n1' * 1)) 1 = some [(.int .u8 x2')] ∧
  Q (.int .i64 (wrapF .i64 x2')) h))))
theorem rk120 {O Q} (x0) {h : Hp} (hO : O 120 [(.int .u32 x0)] h = none) (hh : T120 O Q x0 h) : Ret Tryd.prog O 120 [(.int .u32 x0)] h Q :=
  .of (c := b120) Tryd.func120 (by kernel_rfl) hO (V_ok (tb := lv120) (cuts := []) 500 (Eq.mp (by kernel_rfl) hh))
/-! sward/swardref20.Clause -/
noncomputable def b105 : Code := (Tryd.f105.body).getD .skip
noncomputable def stk105_0 : List KI := [.code (sub [1, 0, 1, 0] b105), .blk 0, .code (sub [1, 1] b105)]
def lv105 : List (Nat × List Nat) := [(0, [0, 1, 4, 5])]
def I105_0 (O : CallF) (Q : Value → Hp → Prop) (a0 : Option Addr) (n0 : Nat) (c0 : Nat) (x1 : Int) (q4 : Bool) (x5 : Int) (h : Hp) : Prop := RKL Tryd.prog O Tryd.f105 stk105_0 39 [0, 1, 4, 5] [(.slice a0 n0 c0), (.int .i64 x1), (.bool q4), (.int .i64 x5)] h Q
def T105 (O : CallF) (Q : Value → Hp → Prop) (a0 : Option Addr) (n0 : Nat) (c0 : Nat) (x1 : Int) (h : Hp) : Prop :=
  I105_0 O Q a0 n0 c0 x1 false 0 h
theorem rk105 {O Q} (a0 n0 c0 x1) {h : Hp} (hO : O 105 [(.slice a0 n0 c0), (.int .i64 x1)] h = none) (hh : T105 O Q a0 n0 c0 x1 h) : Ret Tryd.prog O 105 [(.slice a0 n0 c0), (.int .i64 x1)] h Q :=
  .of (c := b105) Tryd.func105 (by kernel_rfl) hO (V_ok (tb := lv105) (cuts := []) 500 (Eq.mp (by kernel_rfl) hh))
def T105_0 (O : CallF) (Q : Value → Hp → Prop) (a0 : Option Addr) (n0 : Nat) (c0 : Nat) (x1 : Int) (q4 : Bool) (x5 : Int) (h : Hp) : Prop :=
  vcond (ltI x5 (Int.ofNat n0))
  (isNat x5 fun n101' =>
  isAddr a0 fun b102' f103' =>
  vreq (Nat.blt n101' n0)
  (∃ x104', readAt h b102' (f103' + (n101' * 1)) 1 = some [(.int .i64 x104')] ∧
  ∃ x105', ∃ h106', EvC Tryd.prog O 98 [(.int .i64 x104')] h (.int .i64 x105') h106' ∧
  vcond (ltI x105' 1)
  (Q (.bool false) h106')
  (vcond (ltI x1 x105')
  (Q (.bool false) h106')
  (vcond (ltI 0 x5)
  (isNat (wrapF .i64 (x5 - 1)) fun n107' =>
  isAddr a0 fun b108' f109' =>
  vreq (Nat.blt n107' n0)
  (∃ x110', readAt h106' b108' (f109' + (n107' * 1)) 1 = some [(.int .i64 x110')] ∧
  ∃ x111', ∃ h112', EvC Tryd.prog O 98 [(.int .i64 x110')] h106' (.int .i64 x111') h112' ∧
  vcond (!(ltI x111' x105'))
  (Q (.bool false) h112')
  (I105_0 O Q a0 n0 c0 x1 q4 (wrapF .i64 (x5 + 1)) h112')))
  (I105_0 O Q a0 n0 c0 x1 q4 (wrapF .i64 (x5 + 1)) h106')))))
  (Q (.bool true) h)
theorem I105_0.of {O Q} (a0 n0 c0 x1 q4 x5) {h : Hp} (hh : T105_0 O Q a0 n0 c0 x1 q4 x5 h) : I105_0 O Q a0 n0 c0 x1 q4 x5 h :=
  RKL.of (tb := lv105) (cuts := []) 500 fun _ => Eq.mp (by kernel_rfl) hh
/-! sward/swardref20.Plain -/
noncomputable def b98 : Code := (Tryd.f98.body).getD .skip
def lv98 : List (Nat × List Nat) := []
def T98 (O : CallF) (Q : Value → Hp → Prop) (x0 : Int) (h : Hp) : Prop :=
  vcond (!(ltI x0 (-30)))
  (vcond (!(ltI 30 x0))
  (Q (.int .i64 (maxI x0 (wrapF .i64 (0 - x0)))) h)
  (Q (.int .i64 0) h))
  (Q (.int .i64 0) h)
theorem rk98 {O Q} (x0) {h : Hp} (hO : O 98 [(.int .i64 x0)] h = none) (hh : T98 O Q x0 h) : Ret Tryd.prog O 98 [(.int .i64 x0)] h Q :=
  .of (c := b98) Tryd.func98 (by kernel_rfl) hO (V_ok (tb := lv98) (cuts := []) 500 (Eq.mp (by kernel_rfl) hh))
/-! sward/swardlaw20.same -/
noncomputable def b26 : Code := (Tryd.f26.body).getD .skip
noncomputable def stk26_0 : List KI := [.code (sub [1, 1, 0, 1, 0] b26), .blk 0, .code (sub [1, 1, 1] b26)]
def lv26 : List (Nat × List Nat) := [(0, [0, 1, 4, 5])]
def I26_0 (O : CallF) (Q : Value → Hp → Prop) (a0 : Option Addr) (n0 : Nat) (c0 : Nat) (a1 : Option Addr) (n1 : Nat) (c1 : Nat) (q4 : Bool) (x5 : Int) (h : Hp) : Prop := RKL Tryd.prog O Tryd.f26 stk26_0 26 [0, 1, 4, 5] [(.slice a0 n0 c0), (.slice a1 n1 c1), (.bool q4), (.int .i64 x5)] h Q
def T26 (O : CallF) (Q : Value → Hp → Prop) (a0 : Option Addr) (n0 : Nat) (c0 : Nat) (a1 : Option Addr) (n1 : Nat) (c1 : Nat) (h : Hp) : Prop :=
  vcond (!(eqI (Int.ofNat n0) (Int.ofNat n1)))
  (Q (.bool false) h)
  (I26_0 O Q a0 n0 c0 a1 n1 c1 false 0 h)
theorem rk26 {O Q} (a0 n0 c0 a1 n1 c1) {h : Hp} (hO : O 26 [(.slice a0 n0 c0), (.slice a1 n1 c1)] h = none) (hh : T26 O Q a0 n0 c0 a1 n1 c1 h) : Ret Tryd.prog O 26 [(.slice a0 n0 c0), (.slice a1 n1 c1)] h Q :=
  .of (c := b26) Tryd.func26 (by kernel_rfl) hO (V_ok (tb := lv26) (cuts := []) 500 (Eq.mp (by kernel_rfl) hh))
def T26_0 (O : CallF) (Q : Value → Hp → Prop) (a0 : Option Addr) (n0 : Nat) (c0 : Nat) (a1 : Option Addr) (n1 : Nat) (c1 : Nat) (q4 : Bool) (x5 : Int) (h : Hp) : Prop :=
  vcond (ltI x5 (Int.ofNat n0))
  (isNat x5 fun n101' =>
  isAddr a0 fun b102' f103' =>
  vreq (Nat.blt n101' n0)
  (∃ x104', readAt (h.rsv 9) b102' (f103' + (n101' * 1)) 1 = some [(.int .i64 x104')] ∧
  isNat x5 fun n105' =>
  isAddr a1 fun b106' f107' =>
  vreq (Nat.blt n105' n1)
  (∃ x108', readAt (h.rsv 9) b106' (f107' + (n105' * 1)) 1 = some [(.int .i64 x108')] ∧
  vcond (!(eqI x104' x108'))
  (Q (.bool false) (h.rsv 9))
  (I26_0 O Q a0 n0 c0 a1 n1 c1 q4 (wrapF .i64 (x5 + 1)) (h.rsv 9)))))
  (Q (.bool true) h)
theorem I26_0.of {O Q} (a0 n0 c0 a1 n1 c1 q4 x5) {h : Hp} (hh : T26_0 O Q a0 n0 c0 a1 n1 c1 q4 x5 h) : I26_0 O Q a0 n0 c0 a1 n1 c1 q4 x5 h :=
  RKL.of (tb := lv26) (cuts := []) 500 fun _ => Eq.mp (by kernel_rfl) hh
end Go.Proofs.YtfgfhplgnfbaaaaDoor
/- Contracts of small functions of layer 20. -/
namespace Go.Proofs.YtfgfhplgnfbaaaaDoor
open Go Go.Ev
abbrev EvT := EvC Tryd.prog
/-- All but one function are evaluated. -/
structure Oth (O : CallF) : Prop where
  o : ∀ f args h, (f ≠ 27 ∧ f ≠ 17 ∧ f ≠ 74) → O f args h = none
  short : ∀ a n c l h, n ≤ 12 → O 74 (.slice a n c :: l) h = none
  sorted : ∀ a n c l h (xs : List Int), IntsAt h a n xs → (xs.Pairwise fun x y => x.natAbs < y.natAbs) → O 74 (.slice a n c :: l) h = none
instance (O : CallF) : CoeFun (Oth O) fun _ => ∀ f args h, (f ≠ 27 ∧ f ≠ 17 ∧ f ≠ 74) → O f args h = none := ⟨Oth.o⟩
theorem isNat_of {n : Nat} {K : Nat → Prop} (h : K n) : isNat (Int.ofNat n) K := h
theorem EvC.of_ret {O : CallF} {f : FuncId} {args : List Value} {h : Hp} {v : Value} {h' : Hp} (hr : Ret Tryd.prog O f args h fun a b => a = v ∧ b = h') : EvT O f args h v h' := by
  obtain ⟨a, b, h1, rfl, rfl⟩ := hr; exact h1
/-- The variable of a literal. -/
def varI (x : Int) : Int := if x < -30 ∨ 30 < x then 0 else if x < 0 then -x else x
theorem max_neg {x : Int} (h1 : ¬ x < -30) (h2 : ¬ 30 < x) : maxI x (wrapF .i64 (0 - x)) = if x < 0 then -x else x := by
  rw [wrap64 (by omega) (by omega)]
  unfold maxI
  rw [ltI_eq]
  by_cases hx : x < 0
  · rw [if_pos hx, decide_eq_true (by omega)]; simp
  · rw [if_neg hx]
    by_cases hz : x < 0 - x
    · omega
    · rw [decide_eq_false hz]; rfl
section
variable {O : CallF} (hO : Oth O)
include hO
theorem ct94 (x : Int) (h : Hp) : EvT O 94 [.int .i64 x] h (.int .i64 (varI x)) h := by
  refine EvC.of_ret (rk94 x (hO _ _ _ (by decide)) ?_)
  unfold T94 varI
  refine vcond_split (fun h1 => ?_) fun h1 => vcond_split (fun h2 => ?_) fun h2 => ?_
  · rw [if_pos (.inl (lt_of_t h1))]; exact ⟨rfl, rfl⟩
  · rw [if_pos (.inr (lt_of_t h2))]; exact ⟨rfl, rfl⟩
  · have h1 := not_lt_of_f h1; have h2 := not_lt_of_f h2
    rw [if_neg (by omega), max_neg h1 h2]; exact ⟨rfl, rfl⟩
theorem ct98 (x : Int) (h : Hp) : EvT O 98 [.int .i64 x] h (.int .i64 (varI x)) h := by
  refine EvC.of_ret (rk98 x (hO _ _ _ (by decide)) ?_)
  unfold T98 varI
  refine vcond_split (fun h1 => vcond_split (fun h2 => ?_) fun h2 => ?_) fun h1 => ?_
  · have h1 := not_lt_of_f (by simpa using h1); have h2 := not_lt_of_f (by simpa using h2)
    rw [if_neg (by omega), max_neg h1 h2]; exact ⟨rfl, rfl⟩
  · rw [if_pos (.inr (lt_of_t (by simpa using h2)))]; exact ⟨rfl, rfl⟩
  · rw [if_pos (.inl (lt_of_t (by simpa using h1)))]; exact ⟨rfl, rfl⟩
end
/-- A list is a clause, behind a variable. -/
def clB (vars : Int) : Int → List Int → Bool
  | _, [] => true
  | last, x :: xs => if varI x ≤ last ∨ vars < varI x then false else clB vars (varI x) xs
section
variable {O : CallF} (hO : Oth O)
include hO
theorem lp87 {a : Option Addr} {n c : Nat} {vars : Int} {h : Hp} {xs : List Int} (H : IntsAt h a n xs) (hl : xs.length < 1000000) {Q : Value → Hp → Prop} :
    ∀ (d k : Nat), k + d = xs.length → ∀ (last : Int) (q : Bool), Q (.bool (clB vars last (xs.drop k))) h → I87_0 O Q a n c vars q last (Int.ofNat k) h := by
  have hn := H.1
  intro d
  induction d with
  | zero =>
    intro k hk last q hQ
    refine I87_0.of _ _ _ _ _ _ _ ?_
    intros
    unfold T87_0
    refine vcond_f (by rw [ltI_nat]; exact blt_f (by omega)) ?_
    rw [List.drop_of_length_le (by omega)] at hQ
    exact hQ
  | succ d ih =>
    intro k hk last q hQ
    refine I87_0.of _ _ _ _ _ _ _ ?_
    intros
    unfold T87_0
    refine vcond_t (by rw [ltI_nat]; exact blt_t (by omega)) (isNat_of (H.get (k := k) (by omega) fun b off h1 h2 hr => vreq_t (blt_t (by omega)) ⟨_, hr, _, _, ct94 hO _ _, ?_⟩))
    rw [List.drop_eq_getElem_cons (show k < xs.length by omega)] at hQ
    simp only [clB] at hQ
    refine vcond_split (fun h1 => ?_) fun h1 => vcond_split (fun h2 => ?_) fun h2 => ?_
    · rw [if_pos (.inl (by have := not_lt_of_f (by simpa using h1); omega))] at hQ; exact hQ
    · rw [if_pos (.inr (lt_of_t h2))] at hQ; exact hQ
    · have h1 := lt_of_t (by simpa using h1)
      have h2 := not_lt_of_f h2
      rw [if_neg (by omega)] at hQ
      rw [wrap_succ (by omega)]
      exact ih (k + 1) (by omega) _ _ hQ ..
theorem ct87 {a : Option Addr} {n c : Nat} (vars : Int) {h : Hp} {xs : List Int} (H : IntsAt h a n xs) (hl : xs.length < 1000000) : EvT O 87 [.slice a n c, .int .i64 vars] h (.bool (clB vars 0 xs)) h := by
  refine EvC.of_ret (rk87 _ _ _ _ (hO _ _ _ (by decide)) ?_)
  unfold T87
  exact lp87 hO H hl xs.length 0 (by omega) 0 false ⟨rfl, rfl⟩ ..
theorem lp105 {a : Option Addr} {n c : Nat} {vars : Int} {h : Hp} {xs : List Int} (H : IntsAt h a n xs) (hl : xs.length < 1000000) {Q : Value → Hp → Prop} :
    ∀ (d k : Nat), k + d = xs.length → ∀ (q : Bool), Q (.bool (clB vars (if k = 0 then 0 else varI (xs.getD (k - 1) 0)) (xs.drop k))) h → I105_0 O Q a n c vars q (Int.ofNat k) h := by
  have hn := H.1
  intro d
  induction d with
  | zero =>
    intro k hk q hQ
    refine I105_0.of _ _ _ _ _ _ ?_
    intros
    unfold T105_0
    refine vcond_f (by rw [ltI_nat]; exact blt_f (by omega)) ?_
    rw [List.drop_of_length_le (by omega)] at hQ
    exact hQ
  | succ d ih =>
    intro k hk q hQ
    refine I105_0.of _ _ _ _ _ _ ?_
    intros
    unfold T105_0
    refine vcond_t (by rw [ltI_nat]; exact blt_t (by omega)) (isNat_of (H.get (k := k) (by omega) fun b off h1 h2 hr => vreq_t (blt_t (by omega)) ⟨_, hr, _, _, ct98 hO _ _, ?_⟩))
    rw [List.drop_eq_getElem_cons (show k < xs.length by omega)] at hQ
    simp only [clB] at hQ
    have hnn : ∀ x, 0 ≤ varI x := fun x => by unfold varI; (repeat' split) <;> omega
    have hlast : 0 ≤ (if k = 0 then (0 : Int) else varI (xs.getD (k - 1) 0)) := by
      split
      · omega
      · exact hnn _
    have next : varI xs[k] = (if k + 1 = 0 then (0 : Int) else varI (xs.getD (k + 1 - 1) 0)) := by
      rw [if_neg (by omega), Nat.add_sub_cancel]
      simp [show k < xs.length by omega]
    refine vcond_split (fun h2 => ?_) fun h2 => vcond_split (fun h3 => ?_) fun h3 => vcond_split (fun h4 => ?_) fun h4 => ?_
    · have h2 := lt_of_t h2
      rw [if_pos (.inl (by omega))] at hQ; exact hQ
    · rw [if_pos (.inr (lt_of_t h3))] at hQ; exact hQ
    · have h4 : 0 < k := lt_of_blt h4
      have e : wrapF .i64 (Int.ofNat k - 1) = Int.ofNat (k - 1) := by
        rw [wrap64] <;> simp <;> omega
      rw [e]
      refine isNat_of (H.get (k := k - 1) (by omega) fun b off h1 h2 hr => vreq_t (blt_t (by omega)) ⟨_, hr, _, _, ct98 hO _ _, ?_⟩)
      rw [if_neg (by omega : ¬ k = 0)] at hQ
      have e2 : xs.getD (k - 1) 0 = xs[k - 1]'(by omega) := by simp [show k - 1 < xs.length by omega]
      rw [e2] at hQ
      refine vcond_split (fun h5 => ?_) fun h5 => ?_
      · rw [if_pos (.inl (by have := not_lt_of_f (by simpa using h5); omega))] at hQ; exact hQ
      · have h5 := lt_of_t (by simpa using h5)
        have h3 := not_lt_of_f h3
        rw [if_neg (by omega), next] at hQ
        rw [wrap_succ (by omega)]
        exact ih (k + 1) (by omega) _ hQ ..
    · have h4 : k = 0 := by have : ¬ (0 : Int) < (k : Int) := not_lt_of_f h4; omega
      subst h4
      have h2 := not_lt_of_f h2
      have h3 := not_lt_of_f h3
      rw [if_pos rfl, if_neg (by omega), next] at hQ
      rw [wrap_succ (by omega)]
      exact ih 1 (by omega) _ hQ ..
theorem ct105 {a : Option Addr} {n c : Nat} (vars : Int) {h : Hp} {xs : List Int} (H : IntsAt h a n xs) (hl : xs.length < 1000000) : EvT O 105 [.slice a n c, .int .i64 vars] h (.bool (clB vars 0 xs)) h := by
  refine EvC.of_ret (rk105 _ _ _ _ (hO _ _ _ (by decide)) ?_)
  unfold T105
  exact lp105 hO H hl xs.length 0 (by omega) false ⟨rfl, rfl⟩ ..
/-- The variable's digit. -/
theorem ct84 {x : Int} (h1 : x ≠ 0) (h2 : -30 ≤ x) (h3 : x ≤ 30) (h : Hp) : EvT O 84 [.int .i64 x] h (.int .u32 (Int.ofNat (2 ^ (x.natAbs - 1)))) h := by
  refine EvC.of_ret (rk84 x (hO _ _ _ (by decide)) ?_)
  unfold T84
  have e : wrapF .i64 (maxI x (wrapF .i64 (0 - x)) - 1) = Int.ofNat (x.natAbs - 1) := by
    rw [max_neg (by omega) (by omega), wrap64]
    · simp only [Int.ofNat_eq_natCast]; split <;> omega
    · split <;> omega
    · split <;> omega
  rw [e]
  refine vreq_t rfl ⟨?_, rfl⟩
  show Value.int .u32 (shlF .u32 1 (x.natAbs - 1)) = _
  have hx : x.natAbs - 1 < 30 := by omega
  generalize x.natAbs - 1 = m at hx
  congr 1
  revert m
  decide +kernel
theorem lp26 {a a' : Option Addr} {n c n' c' : Nat} {xs ys : List Int} (hl : xs.length < 1000000) (he : xs.length = ys.length) {Q : Value → Hp → Prop} :
    ∀ (d k : Nat), k + d = xs.length → ∀ (q : Bool) {h : Hp}, IntsAt h a n xs → IntsAt h a' n' ys → (∀ h', Kp h.nx h h' → Q (.bool (decide (xs.drop k = ys.drop k))) h') → I26_0 O Q a n c a' n' c' q (Int.ofNat k) h := by
  have _ := hO
  intro d
  induction d with
  | zero =>
    intro k hk q h H H' hQ
    have hn := H.1
    refine I26_0.of _ _ _ _ _ _ _ _ ?_
    intros
    unfold T26_0
    refine vcond_f (by rw [ltI_nat]; exact blt_f (by omega)) ?_
    have := hQ h (.refl _ _)
    rw [List.drop_of_length_le (by omega), List.drop_of_length_le (by omega)] at this
    simpa using this
  | succ d ih =>
    intro k hk q h H H' hQ
    have hn := H.1
    have hn' := H'.1
    refine I26_0.of _ _ _ _ _ _ _ _ ?_
    intros
    unfold T26_0
    refine vcond_t (by rw [ltI_nat]; exact blt_t (by omega)) (isNat_of (H.get (k := k) (by omega) fun b off h1 h2 hr => vreq_t (blt_t (by omega)) ⟨_, hr, ?_⟩))
    refine isNat_of (H'.get (k := k) (by omega) fun b' off' h1' h2' hr' => vreq_t (blt_t (by omega)) ⟨_, hr', ?_⟩)
    have kp : Kp h.nx h (h.rsv 9) := (Kp.refl _ _).rsv 9
    have e1 : xs.drop k = xs[k] :: xs.drop (k + 1) := List.drop_eq_getElem_cons (by omega)
    have e2 : ys.drop k = ys[k] :: ys.drop (k + 1) := List.drop_eq_getElem_cons (by omega)
    rw [e1, e2] at hQ
    refine vcond_split (fun h3 => ?_) fun h3 => ?_
    · have h3 := ne_of_f (by simpa using h3)
      have := hQ _ kp
      rw [decide_eq_false (by intro hh; injection hh with hh _; exact h3 hh)] at this
      exact this
    · have h3 := eq_of_t (by simpa using h3)
      rw [wrap_succ (by omega)]
      refine ih (k + 1) (by omega) _ (H.up EInt.up kp) (H'.up EInt.up kp) (fun h' kp' => ?_) ..
      have := hQ h' (kp.trans (kp'.le kp.nx))
      have e3 : (xs[k] :: xs.drop (k + 1) = ys[k] :: ys.drop (k + 1)) ↔ (xs.drop (k + 1) = ys.drop (k + 1)) := by
        rw [List.cons.injEq]; exact ⟨fun h => h.2, fun h => ⟨h3, h⟩⟩
      rw [decide_eq_decide.2 e3] at this
      exact this
/-- Two lists are equal. -/
theorem ct26 {a a' : Option Addr} {n c n' c' : Nat} {h : Hp} {xs ys : List Int} (H : IntsAt h a n xs) (H' : IntsAt h a' n' ys) (hl : xs.length < 1000000) : Ret Tryd.prog O 26 [.slice a n c, .slice a' n' c'] h fun v h' => v = .bool (decide (xs = ys)) ∧ Kp h.nx h h' := by
  refine rk26 _ _ _ _ _ _ (hO _ _ _ (by decide)) ?_
  unfold T26
  have hn := H.1
  have hn' := H'.1
  refine vcond_split (fun h1 => ?_) fun h1 => ?_
  · have h1 := ne_of_f (by simpa using h1)
    refine ⟨?_, .refl _ _⟩
    rw [decide_eq_false]
    rintro rfl; exact h1 (by rw [hn, hn'])
  · have h1 := eq_of_t (by simpa using h1)
    refine lp26 hO hl (by have h1 : (n : Int) = n' := h1; omega) xs.length 0 (by omega) false H H' (fun h' kp => ⟨rfl, kp⟩) ..
end
end Go.Proofs.YtfgfhplgnfbaaaaDoor
/- Contracts of functions of layer 20: sets of variables as masks. -/
namespace Go.Proofs.YtfgfhplgnfbaaaaDoor
open Go Go.Ev
theorem app32 : AppT Tryd.prog 32 3 1 8 := ⟨Tryd.underlying32, by kernel_rfl⟩
/-- A literal's digit. -/
def bitN (x : Int) : Nat := 2 ^ (x.natAbs - 1)
def Lit (x : Int) : Prop := x ≠ 0 ∧ -30 ≤ x ∧ x ≤ 30
abbrev U (n : Nat) : Value := .int .u32 (Int.ofNat n)
theorem inD_of {m n : Nat} (h : n < m) : inD m (Int.ofNat n) = true := blt_t h
theorem lor_nat (a b : Nat) : lorI (Int.ofNat a) (Int.ofNat b) = Int.ofNat (a ||| b) := rfl
theorem land_nat (a b : Nat) : landI (Int.ofNat a) (Int.ofNat b) = Int.ofNat (a &&& b) := rfl
theorem andn_nat (a b : Nat) : andnI (Int.ofNat a) (Int.ofNat b) = Int.ofNat (a - (a &&& b)) := rfl
theorem bitN_lt {x : Int} (h : Lit x) : bitN x < 2 ^ 30 := Nat.pow_lt_pow_right (by decide) (by have := h.2; omega)
section
variable {O : CallF} (hO : Oth O)
include hO
theorem bit_ct {x : Int} (hx : Lit x) (h : Hp) : EvT O 84 [.int .i64 x] h (U (bitN x)) h := ct84 hO hx.1 hx.2.1 hx.2.2 h
/-- What is true, and false, with a literal more. -/
def withN (y m : Nat) (x : Int) : Nat × Nat := if 0 < x then (y ||| bitN x, m) else (y, m ||| bitN x)
theorem ct104 {y m : Nat} {x : Int} (hx : Lit x) (hy : y < 2 ^ 30) (hm : m < 2 ^ 30) {h : Hp} (hk : h.Ok) :
    Ret Tryd.prog O 104 [.agg #[U y, U m], .int .i64 x] h fun v h' => v = .tuple #[.agg #[U (withN y m x).1, U (withN y m x).2], .bool (decide ((withN y m x).1 &&& (withN y m x).2 = 0))] ∧ Kp h.nx h h' := by
  refine rk104 _ _ _ (hO _ _ _ (by decide)) ?_
  unfold T104
  let h0 := (h.add (.cells [U y, U m] 102 .fix)).add (.cells [U 0, U 0] 102 .fix)
  have k0 : Kp h.nx h h0 := ((Kp.refl _ _).add (Nat.le_refl _) _).add (by rw [nx_add]; omega) _
  have g1 : h0.get h.nx = some (.cells [U y, U m] 102 .fix) := by
    show ((h.add _).add _).get h.nx = _
    rw [get_add_ne (by rw [nx_add]; omega), get_add_same]
  have g2 : h0.get (h.nx + 1) = some (.cells [U 0, U 0] 102 .fix) := get_add_same ..
  have hgd : h0.gd = h.gd := rfl
  have hnx : h0.nx = h.nx + 2 := rfl
  have gu : ∀ o, h.nx ≤ o → h0.guarded o = false := fun o ho => guarded_of fun q hq => by have := hk.gd q hq; omega
  have hb := bitN_lt hx
  have hor : ∀ a, a < 2 ^ 30 → a ||| bitN x < 2 ^ 30 := fun a ha => Nat.or_lt_two_pow ha hb
  refine ⟨_, _, bit_ct hO hx h0, ?_⟩
  have fin : ∀ (y' m' : Nat) (h2 : Hp), y' < 2 ^ 30 → m' < 2 ^ 30 → Kp h.nx h h2 → h2.nx = h0.nx → h2.get h.nx = some (.cells [U y', U m'] 102 .fix) → h2.get (h.nx + 1) = some (.cells [U 0, U 0] 102 .fix) →
      ∃ x4 x5 : Int, readAt (h2.rsv 9) h.nx 0 2 = some [(.int .u32 x4), (.int .u32 x5)] ∧ ∃ x6 : Int, readAt (h2.rsv 9) h.nx 0 1 = some [(.int .u32 x6)] ∧ ∃ x7 : Int, readAt (h2.rsv 9) h.nx 1 1 = some [(.int .u32 x7)] ∧
      vreq (inD 4294967296 x6) (vreq (inD 4294967296 x7) (vreq (canW ((h2.rsv 9).grd [h.nx, h.nx]) (h.add (.cells [U y, U m] 102 .fix)).nx 0 [(.int .u32 x4), (.int .u32 x5)])
      (∃ x8 x9 : Int, readAt ((((h2.rsv 9).grd [h.nx, h.nx]).wr (h.add (.cells [U y, U m] 102 .fix)).nx 0 [(.int .u32 x4), (.int .u32 x5)]).rst (h2.rsv 9)) (h.add (.cells [U y, U m] 102 .fix)).nx 0 2 = some [(.int .u32 x8), (.int .u32 x9)] ∧
       (Value.tuple #[.agg #[.int .u32 x8, .int .u32 x9], .bool (eqI (landI x6 x7) 0)] = .tuple #[.agg #[U y', U m'], .bool (decide (y' &&& m' = 0))] ∧ Kp h.nx h ((((h2.rsv 9).grd [h.nx, h.nx]).wr (h.add (.cells [U y, U m] 102 .fix)).nx 0 [(.int .u32 x4), (.int .u32 x5)]).rst (h2.rsv 9)))))) := by
    intro y' m' h2 hy' hm' k2 n2 e1 e2
    have e1' : (h2.rsv 9).get h.nx = _ := e1
    refine ⟨_, _, readAt_get e1' (by simp), _, read1 e1' rfl, _, read1 e1' rfl, vreq_t (inD_of (by omega)) (vreq_t (inD_of (by omega)) ?_)⟩
    have e2' : ((h2.rsv 9).grd [h.nx, h.nx]).get (h.nx + 1) = _ := e2
    have gg : ((h2.rsv 9).grd [h.nx, h.nx]).guarded (h.nx + 1) = false := guarded_of fun q hq => by
      have hq : q ∈ [h.nx, h.nx] ++ h2.gd := hq
      rw [k2.gd] at hq
      rcases List.mem_append.1 hq with hq | hq
      · simp at hq; omega
      · have := hk.gd q hq; omega
    refine vreq_t (canW_t e2' (by decide) gg (by simp) rfl) ⟨_, _, readAt_get (wr_get e2' (by decide) gg (by simp) rfl) (by simp [putAt]), ?_, ?_⟩
    · rw [land_nat, eqI_eq]
      congr 3
      by_cases hz : y' &&& m' = 0 <;> simp [hz]
    · exact (k2.rsv 9).rst ((Kp.refl _ _).wr (by rw [nx_add]; omega) _ _)
  have hx0 := hx.1
  refine vcond_split (fun h1 => ?_) fun h1 => ?_
  · have h1 := lt_of_t h1
    refine ⟨_, read1 g1 rfl, vreq_t (inD_of (by omega)) (vreq_t (inD_of (by omega)) (vreq_t (canW_t g1 (by decide) (gu _ (Nat.le_refl _)) (by simp) rfl) ?_))⟩
    rw [lor_nat]
    have := fin (y ||| bitN x) m (h0.wr h.nx 0 [U (y ||| bitN x)]) (hor y hy) hm (k0.wr (Nat.le_refl _) _ _) (nx_wr ..) (wr_get g1 (by decide) (gu _ (Nat.le_refl _)) (by simp) rfl) (by rw [wr_get_ne _ _ _ _ (by omega)]; exact g2)
    have e : withN y m x = (y ||| bitN x, m) := if_pos h1
    rw [e]
    exact this
  · have h1 := not_lt_of_f h1
    refine ⟨_, read1 g1 rfl, vreq_t (inD_of (by omega)) (vreq_t (inD_of (by omega)) (vreq_t (canW_t g1 (by decide) (gu _ (Nat.le_refl _)) (by simp) rfl) ?_))⟩
    rw [lor_nat]
    have := fin y (m ||| bitN x) (h0.wr h.nx 1 [U (m ||| bitN x)]) hy (hor m hm) (k0.wr (Nat.le_refl _) _ _) (nx_wr ..) (wr_get g1 (by decide) (gu _ (Nat.le_refl _)) (by simp) rfl) (by rw [wr_get_ne _ _ _ _ (by omega)]; exact g2)
    have e : withN y m x = (y, m ||| bitN x) := if_neg h1
    rw [e]
    exact this
end
end Go.Proofs.YtfgfhplgnfbaaaaDoor
/- Types of lists that grow. -/
namespace Go.Proofs.YtfgfhplgnfbaaaaDoor
open Go Go.Ev
theorem app28 : AppT Tryd.prog 28 32 1 24 := ⟨by kernel_rfl, by kernel_rfl⟩
theorem app126 : AppT Tryd.prog 126 130 2 8 := ⟨by kernel_rfl, by kernel_rfl⟩
end Go.Proofs.YtfgfhplgnfbaaaaDoor
/- Conditions of functions' code, printed by a program of ours. -/
namespace Go.Proofs.YtfgfhplgnfbaaaaDoor
open Go Go.Ev
set_option maxRecDepth 100000
set_option linter.unusedVariables false
/-! sward/sat.Unit -/
noncomputable def b34 : Code := (Tryd.f34.body).getD .skip
def lv34 : List (Nat × List Nat) := []
def T34 (O : CallF) (Q : Value → Hp → Prop) (x0_0 : Int) (a0_1 : Option Addr) (n0_1 : Nat) (c0_1 : Nat) (a1 : Option Addr) (n1 : Nat) (c1 : Nat) (h : Hp) : Prop :=
  ∃ x1', ∃ a2' n3' c4', readAt (h.add (.cells [(.int .i64 x0_0), (.slice a0_1 n0_1 c0_1)] 30 .fix)) h.nx 0 2 = some [(.int .i64 x1'), (.slice a2' n3' c4')] ∧
  ∃ x5', ∃ h6', EvC Tryd.prog O 78 [(.agg #[(.int .i64 x1'), (.slice a2' n3' c4')]), (.slice a1 n1 c1)] (h.add (.cells [(.int .i64 x0_0), (.slice a0_1 n0_1 c0_1)] 30 .fix)) (.int .i64 x5') h6' ∧
  vcond (!(eqI x5' 0))
  (Q (.tuple #[(.slice none 0 0), (.bool false), (.int .i64 x5')]) h6')
  (∃ x7', ∃ a8' n9' c10', readAt h6' h.nx 0 2 = some [(.int .i64 x7'), (.slice a8' n9' c10')] ∧
  ∃ a11', ∃ h12', EvC Tryd.prog O 76 [(.agg #[(.int .i64 x7'), (.slice a8' n9' c10')]), (.slice a1 n1 c1)] h6' (.pointer a11') h12' ∧
  ∃ x13', ∃ x14', ∃ q15', ∃ h16', EvC Tryd.prog O 89 [(.pointer a11'), (.slice none 0 0)] h12' (.tuple #[(.agg #[(.int .u32 x13'), (.int .u32 x14')]), (.bool q15')]) h16' ∧
  vreq (canW (h16'.add (.cells [(.int .u32 0), (.int .u32 0)] 102 .fix)) h16'.nx 0 [(.int .u32 x13'), (.int .u32 x14')])
  (vcond (!q15')
  (Q (.tuple #[(.slice none 0 0), (.bool true), (.int .i64 0)]) ((h16'.add (.cells [(.int .u32 0), (.int .u32 0)] 102 .fix)).wr h16'.nx 0 [(.int .u32 x13'), (.int .u32 x14')]))
  (∃ x17', ∃ x18', readAt ((h16'.add (.cells [(.int .u32 0), (.int .u32 0)] 102 .fix)).wr h16'.nx 0 [(.int .u32 x13'), (.int .u32 x14')]) h16'.nx 0 2 = some [(.int .u32 x17'), (.int .u32 x18')] ∧
  ∃ a19' n20' c21', ∃ h22', EvC Tryd.prog O 90 [(.agg #[(.int .u32 x17'), (.int .u32 x18')])] ((h16'.add (.cells [(.int .u32 0), (.int .u32 0)] 102 .fix)).wr h16'.nx 0 [(.int .u32 x13'), (.int .u32 x14')]) (.slice a19' n20' c21') h22' ∧
  Q (.tuple #[(.slice a19' n20' c21'), (.bool false), (.int .i64 0)]) h22')))
theorem rk34 {O Q} (x0_0 a0_1 n0_1 c0_1 a1 n1 c1) {h : Hp} (hO : O 34 [(.agg #[(.int .i64 x0_0), (.slice a0_1 n0_1 c0_1)]), (.slice a1 n1 c1)] h = none) (hh : T34 O Q x0_0 a0_1 n0_1 c0_1 a1 n1 c1 h) : Ret Tryd.prog O 34 [(.agg #[(.int .i64 x0_0), (.slice a0_1 n0_1 c0_1)]), (.slice a1 n1 c1)] h Q :=
  .of (c := b34) Tryd.func34 (by kernel_rfl) hO (V_ok (tb := lv34) (cuts := []) 500 (Eq.mp (by kernel_rfl) hh))
/-! sward/swardref20.Unit -/
noncomputable def b35 : Code := (Tryd.f35.body).getD .skip
def lv35 : List (Nat × List Nat) := []
def T35 (O : CallF) (Q : Value → Hp → Prop) (x0_0 : Int) (a0_1 : Option Addr) (n0_1 : Nat) (c0_1 : Nat) (a1 : Option Addr) (n1 : Nat) (c1 : Nat) (h : Hp) : Prop :=
  ∃ x1', ∃ a2' n3' c4', readAt (h.add (.cells [(.int .i64 x0_0), (.slice a0_1 n0_1 c0_1)] 30 .fix)) h.nx 0 2 = some [(.int .i64 x1'), (.slice a2' n3' c4')] ∧
  ∃ x5', ∃ h6', EvC Tryd.prog O 91 [(.agg #[(.int .i64 x1'), (.slice a2' n3' c4')]), (.slice a1 n1 c1)] (h.add (.cells [(.int .i64 x0_0), (.slice a0_1 n0_1 c0_1)] 30 .fix)) (.int .i64 x5') h6' ∧
  vcond (!(eqI x5' 0))
  (Q (.tuple #[(.slice none 0 0), (.bool false), (.int .i64 x5')]) h6')
  (∃ x7', readAt h6' h.nx 0 1 = some [(.int .i64 x7')] ∧
  ∃ a8' n9' c10', readAt h6' h.nx 1 1 = some [(.slice a8' n9' c10')] ∧
  ∃ a11' n12' c13', ∃ q14', ∃ h15', EvC Tryd.prog O 92 [(.int .i64 x7'), (.slice a8' n9' c10'), (.slice a1 n1 c1)] h6' (.tuple #[(.slice a11' n12' c13'), (.bool q14')]) h15' ∧
  vcond (!q14')
  (Q (.tuple #[(.slice none 0 0), (.bool true), (.int .i64 0)]) h15')
  (∃ a16' n17' c18', ∃ h19', EvC Tryd.prog O 93 [(.slice a11' n12' c13')] h15' (.slice a16' n17' c18') h19' ∧
  Q (.tuple #[(.slice a16' n17' c18'), (.bool false), (.int .i64 0)]) h19'))
theorem rk35 {O Q} (x0_0 a0_1 n0_1 c0_1 a1 n1 c1) {h : Hp} (hO : O 35 [(.agg #[(.int .i64 x0_0), (.slice a0_1 n0_1 c0_1)]), (.slice a1 n1 c1)] h = none) (hh : T35 O Q x0_0 a0_1 n0_1 c0_1 a1 n1 c1 h) : Ret Tryd.prog O 35 [(.agg #[(.int .i64 x0_0), (.slice a0_1 n0_1 c0_1)]), (.slice a1 n1 c1)] h Q :=
  .of (c := b35) Tryd.func35 (by kernel_rfl) hO (V_ok (tb := lv35) (cuts := []) 500 (Eq.mp (by kernel_rfl) hh))
/-! sward/sat.asked -/
noncomputable def b78 : Code := (Tryd.f78.body).getD .skip
def lv78 : List (Nat × List Nat) := []
def T78 (O : CallF) (Q : Value → Hp → Prop) (x0_0 : Int) (a0_1 : Option Addr) (n0_1 : Nat) (c0_1 : Nat) (a1 : Option Addr) (n1 : Nat) (c1 : Nat) (h : Hp) : Prop :=
  ∃ x1', ∃ a2' n3' c4', readAt (h.add (.cells [(.int .i64 x0_0), (.slice a0_1 n0_1 c0_1)] 30 .fix)) h.nx 0 2 = some [(.int .i64 x1'), (.slice a2' n3' c4')] ∧
  ∃ x5', ∃ h6', EvC Tryd.prog O 31 [(.agg #[(.int .i64 x1'), (.slice a2' n3' c4')])] (h.add (.cells [(.int .i64 x0_0), (.slice a0_1 n0_1 c0_1)] 30 .fix)) (.int .i64 x5') h6' ∧
  vcond (eqI x5' 0)
  (∃ x7', readAt h6' h.nx 0 1 = some [(.int .i64 x7')] ∧
  ∃ q8', ∃ h9', EvC Tryd.prog O 87 [(.slice a1 n1 c1), (.int .i64 x7')] h6' (.bool q8') h9' ∧
  vcond (!q8')
  (Q (.int .i64 2) h9')
  (Q (.int .i64 x5') h9'))
  (Q (.int .i64 x5') h6')
theorem rk78 {O Q} (x0_0 a0_1 n0_1 c0_1 a1 n1 c1) {h : Hp} (hO : O 78 [(.agg #[(.int .i64 x0_0), (.slice a0_1 n0_1 c0_1)]), (.slice a1 n1 c1)] h = none) (hh : T78 O Q x0_0 a0_1 n0_1 c0_1 a1 n1 c1 h) : Ret Tryd.prog O 78 [(.agg #[(.int .i64 x0_0), (.slice a0_1 n0_1 c0_1)]), (.slice a1 n1 c1)] h Q :=
  .of (c := b78) Tryd.func78 (by kernel_rfl) hO (V_ok (tb := lv78) (cuts := []) 500 (Eq.mp (by kernel_rfl) hh))
/-! (*sward/sat.base).from -/
noncomputable def b89 : Code := (Tryd.f89.body).getD .skip
noncomputable def stk89_0 : List KI := [.code (sub [1, 1, 0, 1, 0] b89), .blk 0, .code (sub [1, 1, 1] b89)]
noncomputable def stk89_1 : List KI := [.code (sub [1, 1, 0, 1, 0, 0, 1, 1, 0, 0, 1, 1, 0] b89), .blk 2, .blk 1, .code (sub [1, 1, 0, 1, 0, 0, 1, 1, 1] b89), .code (sub [1, 1, 0, 1, 0] b89), .blk 0, .code (sub [1, 1, 1] b89)]
def lv89 : List (Nat × List Nat) := [(0, [0, 4, 5, 6, 18, 19, 20]), (2, [0, 4, 5, 6, 18, 19, 20, 24, 25, 26])]
def I89_0 (O : CallF) (Q : Value → Hp → Prop) (b0 : Nat) (f0 : Nat) (a1 : Option Addr) (n1 : Nat) (c1 : Nat) (b4 : Nat) (f4 : Nat) (q5 : Bool) (b6 : Nat) (f6 : Nat) (a18 : Option Addr) (n18 : Nat) (c18 : Nat) (x20 : Int) (h : Hp) : Prop := RKL Tryd.prog O Tryd.f89 stk89_0 47 [0, 4, 5, 6, 18, 19, 20] [(.pointer (some ⟨b0, f0, none⟩)), (.pointer (some ⟨b4, f4, none⟩)), (.bool q5), (.pointer (some ⟨b6, f6, none⟩)), (.slice a18 n18 c18), (.int .i64 2), (.int .i64 x20)] h Q
def I89_1 (O : CallF) (Q : Value → Hp → Prop) (b0 : Nat) (f0 : Nat) (a1 : Option Addr) (n1 : Nat) (c1 : Nat) (b4 : Nat) (f4 : Nat) (q5 : Bool) (b6 : Nat) (f6 : Nat) (a18 : Option Addr) (n18 : Nat) (c18 : Nat) (x20 : Int) (a24 : Option Addr) (n24 : Nat) (c24 : Nat) (x25 : Int) (x26 : Int) (h : Hp) : Prop := RKL Tryd.prog O Tryd.f89 stk89_1 47 [0, 4, 5, 6, 18, 19, 20, 24, 25, 26] [(.pointer (some ⟨b0, f0, none⟩)), (.pointer (some ⟨b4, f4, none⟩)), (.bool q5), (.pointer (some ⟨b6, f6, none⟩)), (.slice a18 n18 c18), (.int .i64 2), (.int .i64 x20), (.slice a24 n24 c24), (.int .i64 x25), (.int .i64 x26)] h Q
def T89 (O : CallF) (Q : Value → Hp → Prop) (b0 : Nat) (f0 : Nat) (a1 : Option Addr) (n1 : Nat) (c1 : Nat) (h : Hp) : Prop :=
  ∃ a1' n2' c3', readAt ((h.add (.cells [(.int .u32 0), (.int .u32 0)] 102 .fix)).add (.cells [(.int .u32 0), (.int .u32 0)] 102 .fix)) b0 (f0 + 2) 1 = some [(.slice a1' n2' c3')] ∧
  I89_0 O Q b0 f0 a1 n1 c1 h.nx 0 false (h.add (.cells [(.int .u32 0), (.int .u32 0)] 102 .fix)).nx 0 (some ⟨((h.add (.cells [(.int .u32 0), (.int .u32 0)] 102 .fix)).add (.cells [(.int .u32 0), (.int .u32 0)] 102 .fix)).nx, 0, none⟩) 2 2 0 (((h.add (.cells [(.int .u32 0), (.int .u32 0)] 102 .fix)).add (.cells [(.int .u32 0), (.int .u32 0)] 102 .fix)).add (.cells [(.slice a1' n2' c3'), (.slice a1 n1 c1)] 32 .fix))
theorem rk89 {O Q} (b0 f0 a1 n1 c1) {h : Hp} (hO : O 89 [(.pointer (some ⟨b0, f0, none⟩)), (.slice a1 n1 c1)] h = none) (hh : T89 O Q b0 f0 a1 n1 c1 h) : Ret Tryd.prog O 89 [(.pointer (some ⟨b0, f0, none⟩)), (.slice a1 n1 c1)] h Q :=
  .of (c := b89) Tryd.func89 (by kernel_rfl) hO (V_ok (tb := lv89) (cuts := []) 500 (Eq.mp (by kernel_rfl) hh))
def T89_0 (O : CallF) (Q : Value → Hp → Prop) (b0 : Nat) (f0 : Nat) (a1 : Option Addr) (n1 : Nat) (c1 : Nat) (b4 : Nat) (f4 : Nat) (q5 : Bool) (b6 : Nat) (f6 : Nat) (a18 : Option Addr) (n18 : Nat) (c18 : Nat) (x20 : Int) (h : Hp) : Prop :=
  vcond (ltI x20 2)
  (isNat x20 fun n101' =>
  isAddr a18 fun b102' f103' =>
  vreq (Nat.blt n101' n18)
  (∃ a104' n105' c106', readAt h b102' (f103' + (n101' * 1)) 1 = some [(.slice a104' n105' c106')] ∧
  I89_1 O Q b0 f0 a1 n1 c1 b4 f4 q5 b6 f6 a18 n18 c18 x20 a104' n105' c106' (Int.ofNat n105') 0 h))
  (∃ x107', ∃ x108', readAt h b6 f6 2 = some [(.int .u32 x107'), (.int .u32 x108')] ∧
  ∃ x109', ∃ x110', ∃ q111', ∃ h112', EvC Tryd.prog O 119 [(.pointer (some ⟨b0, f0, none⟩)), (.agg #[(.int .u32 x107'), (.int .u32 x108')])] h (.tuple #[(.agg #[(.int .u32 x109'), (.int .u32 x110')]), (.bool q111')]) h112' ∧
  vreq (canW h112' b4 f4 [(.int .u32 x109'), (.int .u32 x110')])
  (∃ x113', ∃ x114', readAt (h112'.wr b4 f4 [(.int .u32 x109'), (.int .u32 x110')]) b4 f4 2 = some [(.int .u32 x113'), (.int .u32 x114')] ∧
  Q (.tuple #[(.agg #[(.int .u32 x113'), (.int .u32 x114')]), (.bool q111')]) (h112'.wr b4 f4 [(.int .u32 x109'), (.int .u32 x110')])))
theorem I89_0.of {O Q} (b0 f0 a1 n1 c1 b4 f4 q5 b6 f6 a18 n18 c18 x20) {h : Hp} (hh : T89_0 O Q b0 f0 a1 n1 c1 b4 f4 q5 b6 f6 a18 n18 c18 x20 h) : I89_0 O Q b0 f0 a1 n1 c1 b4 f4 q5 b6 f6 a18 n18 c18 x20 h :=
  RKL.of (tb := lv89) (cuts := []) 500 fun _ => Eq.mp (by kernel_rfl) hh
def T89_1 (O : CallF) (Q : Value → Hp → Prop) (b0 : Nat) (f0 : Nat) (a1 : Option Addr) (n1 : Nat) (c1 : Nat) (b4 : Nat) (f4 : Nat) (q5 : Bool) (b6 : Nat) (f6 : Nat) (a18 : Option Addr) (n18 : Nat) (c18 : Nat) (x20 : Int) (a24 : Option Addr) (n24 : Nat) (c24 : Nat) (x25 : Int) (x26 : Int) (h : Hp) : Prop :=
  vcond (ltI x26 x25)
  (isNat x26 fun n201' =>
  isAddr a24 fun b202' f203' =>
  vreq (Nat.blt n201' n24)
  (∃ x204', readAt h b202' (f203' + (n201' * 1)) 1 = some [(.int .i64 x204')] ∧
  ∃ x205', ∃ x206', readAt h b6 f6 2 = some [(.int .u32 x205'), (.int .u32 x206')] ∧
  ∃ x207', ∃ x208', ∃ q209', ∃ h210', EvC Tryd.prog O 104 [(.agg #[(.int .u32 x205'), (.int .u32 x206')]), (.int .i64 x204')] h (.tuple #[(.agg #[(.int .u32 x207'), (.int .u32 x208')]), (.bool q209')]) h210' ∧
  vreq (canW (h210'.add (.cells [(.int .u32 0), (.int .u32 0)] 102 .fix)) h210'.nx 0 [(.int .u32 x207'), (.int .u32 x208')])
  (vcond (!q209')
  (∃ x211', ∃ x212', readAt ((h210'.add (.cells [(.int .u32 0), (.int .u32 0)] 102 .fix)).wr h210'.nx 0 [(.int .u32 x207'), (.int .u32 x208')]) h210'.nx 0 2 = some [(.int .u32 x211'), (.int .u32 x212')] ∧
  vreq (canW ((h210'.add (.cells [(.int .u32 0), (.int .u32 0)] 102 .fix)).wr h210'.nx 0 [(.int .u32 x207'), (.int .u32 x208')]) b4 f4 [(.int .u32 x211'), (.int .u32 x212')])
  (∃ x213', ∃ x214', readAt (((h210'.add (.cells [(.int .u32 0), (.int .u32 0)] 102 .fix)).wr h210'.nx 0 [(.int .u32 x207'), (.int .u32 x208')]).wr b4 f4 [(.int .u32 x211'), (.int .u32 x212')]) b4 f4 2 = some [(.int .u32 x213'), (.int .u32 x214')] ∧
  Q (.tuple #[(.agg #[(.int .u32 x213'), (.int .u32 x214')]), (.bool false)]) (((h210'.add (.cells [(.int .u32 0), (.int .u32 0)] 102 .fix)).wr h210'.nx 0 [(.int .u32 x207'), (.int .u32 x208')]).wr b4 f4 [(.int .u32 x211'), (.int .u32 x212')])))
  (∃ x215', ∃ x216', readAt ((h210'.add (.cells [(.int .u32 0), (.int .u32 0)] 102 .fix)).wr h210'.nx 0 [(.int .u32 x207'), (.int .u32 x208')]) h210'.nx 0 2 = some [(.int .u32 x215'), (.int .u32 x216')] ∧
  vreq (canW ((h210'.add (.cells [(.int .u32 0), (.int .u32 0)] 102 .fix)).wr h210'.nx 0 [(.int .u32 x207'), (.int .u32 x208')]) b6 f6 [(.int .u32 x215'), (.int .u32 x216')])
  (I89_1 O Q b0 f0 a1 n1 c1 b4 f4 q5 b6 f6 a18 n18 c18 x20 a24 n24 c24 x25 (wrapF .i64 (x26 + 1)) (((h210'.add (.cells [(.int .u32 0), (.int .u32 0)] 102 .fix)).wr h210'.nx 0 [(.int .u32 x207'), (.int .u32 x208')]).wr b6 f6 [(.int .u32 x215'), (.int .u32 x216')]))))))
  (I89_0 O Q b0 f0 a1 n1 c1 b4 f4 q5 b6 f6 a18 n18 c18 (wrapF .i64 (x20 + 1)) h)
theorem I89_1.of {O Q} (b0 f0 a1 n1 c1 b4 f4 q5 b6 f6 a18 n18 c18 x20 a24 n24 c24 x25 x26) {h : Hp} (hh : T89_1 O Q b0 f0 a1 n1 c1 b4 f4 q5 b6 f6 a18 n18 c18 x20 a24 n24 c24 x25 x26 h) : I89_1 O Q b0 f0 a1 n1 c1 b4 f4 q5 b6 f6 a18 n18 c18 x20 a24 n24 c24 x25 x26 h :=
  RKL.of (tb := lv89) (cuts := []) 500 fun _ => Eq.mp (by kernel_rfl) hh
/-! sward/swardref20.given -/
noncomputable def b91 : Code := (Tryd.f91.body).getD .skip
def lv91 : List (Nat × List Nat) := []
def T91 (O : CallF) (Q : Value → Hp → Prop) (x0_0 : Int) (a0_1 : Option Addr) (n0_1 : Nat) (c0_1 : Nat) (a1 : Option Addr) (n1 : Nat) (c1 : Nat) (h : Hp) : Prop :=
  ∃ x1', ∃ a2' n3' c4', readAt (h.add (.cells [(.int .i64 x0_0), (.slice a0_1 n0_1 c0_1)] 30 .fix)) h.nx 0 2 = some [(.int .i64 x1'), (.slice a2' n3' c4')] ∧
  ∃ q5', ∃ h6', EvC Tryd.prog O 85 [(.agg #[(.int .i64 x1'), (.slice a2' n3' c4')])] (h.add (.cells [(.int .i64 x0_0), (.slice a0_1 n0_1 c0_1)] 30 .fix)) (.bool q5') h6' ∧
  vcond (!q5')
  (Q (.int .i64 2) h6')
  (∃ x7', readAt h6' h.nx 0 1 = some [(.int .i64 x7')] ∧
  ∃ q8', ∃ h9', EvC Tryd.prog O 105 [(.slice a1 n1 c1), (.int .i64 x7')] h6' (.bool q8') h9' ∧
  vcond (!q8')
  (Q (.int .i64 2) h9')
  (Q (.int .i64 0) h9'))
theorem rk91 {O Q} (x0_0 a0_1 n0_1 c0_1 a1 n1 c1) {h : Hp} (hO : O 91 [(.agg #[(.int .i64 x0_0), (.slice a0_1 n0_1 c0_1)]), (.slice a1 n1 c1)] h = none) (hh : T91 O Q x0_0 a0_1 n0_1 c0_1 a1 n1 c1 h) : Ret Tryd.prog O 91 [(.agg #[(.int .i64 x0_0), (.slice a0_1 n0_1 c0_1)]), (.slice a1 n1 c1)] h Q :=
  .of (c := b91) Tryd.func91 (by kernel_rfl) hO (V_ok (tb := lv91) (cuts := []) 500 (Eq.mp (by kernel_rfl) hh))
/-! sward/swardref20.Propagated -/
noncomputable def b92 : Code := (Tryd.f92.body).getD .skip
noncomputable def stk92_0 : List KI := [.code (sub [1, 1, 0, 1, 0] b92), .blk 0, .code (sub [1, 1, 1] b92)]
noncomputable def stk92_1 : List KI := [.code (sub [1, 1, 1, 1, 0, 0] b92), .blk 2, .code (sub [1, 1, 1, 1, 1] b92)]
def lv92 : List (Nat × List Nat) := [(0, [1, 2, 6, 7, 8, 9]), (2, [1, 6, 7, 8, 10, 11])]
def I92_0 (O : CallF) (Q : Value → Hp → Prop) (x0 : Int) (a1 : Option Addr) (n1 : Nat) (c1 : Nat) (a2 : Option Addr) (n2 : Nat) (c2 : Nat) (a6 : Option Addr) (n6 : Nat) (c6 : Nat) (q7 : Bool) (a8 : Option Addr) (n8 : Nat) (c8 : Nat) (x9 : Int) (h : Hp) : Prop := RKL Tryd.prog O Tryd.f92 stk92_0 42 [1, 2, 6, 7, 8, 9] [(.slice a1 n1 c1), (.slice a2 n2 c2), (.slice a6 n6 c6), (.bool q7), (.slice a8 n8 c8), (.int .i64 x9)] h Q
def I92_1 (O : CallF) (Q : Value → Hp → Prop) (x0 : Int) (a1 : Option Addr) (n1 : Nat) (c1 : Nat) (a2 : Option Addr) (n2 : Nat) (c2 : Nat) (a6 : Option Addr) (n6 : Nat) (c6 : Nat) (q7 : Bool) (a8 : Option Addr) (n8 : Nat) (c8 : Nat) (q10 : Bool) (q11 : Bool) (h : Hp) : Prop := RKL Tryd.prog O Tryd.f92 stk92_1 42 [1, 6, 7, 8, 10, 11] [(.slice a1 n1 c1), (.slice a6 n6 c6), (.bool q7), (.slice a8 n8 c8), (.bool q10), (.bool q11)] h Q
def T92 (O : CallF) (Q : Value → Hp → Prop) (x0 : Int) (a1 : Option Addr) (n1 : Nat) (c1 : Nat) (a2 : Option Addr) (n2 : Nat) (c2 : Nat) (h : Hp) : Prop :=
  isNat (wrapF .i64 (x0 + 1)) fun n1' =>
  isNat (wrapF .i64 (x0 + 1)) fun n2' =>
  vreq (Nat.ble n1' n2')
  (vreq (Nat.ble (n2' * 8) 281474976710656)
  (vreq (Nat.blt n2' big)
  (I92_0 O Q x0 a1 n1 c1 a2 n2 c2 none 0 0 false (some ⟨h.nx, 0, none⟩) n1' n2' 0 (h.add (.cells (List.flatten (List.replicate n2' [(.int .i64 0)])) 3 .fix)))))
theorem rk92 {O Q} (x0 a1 n1 c1 a2 n2 c2) {h : Hp} (hO : O 92 [(.int .i64 x0), (.slice a1 n1 c1), (.slice a2 n2 c2)] h = none) (hh : T92 O Q x0 a1 n1 c1 a2 n2 c2 h) : Ret Tryd.prog O 92 [(.int .i64 x0), (.slice a1 n1 c1), (.slice a2 n2 c2)] h Q :=
  .of (c := b92) Tryd.func92 (by kernel_rfl) hO (V_ok (tb := lv92) (cuts := []) 500 (Eq.mp (by kernel_rfl) hh))
def T92_0 (O : CallF) (Q : Value → Hp → Prop) (x0 : Int) (a1 : Option Addr) (n1 : Nat) (c1 : Nat) (a2 : Option Addr) (n2 : Nat) (c2 : Nat) (a6 : Option Addr) (n6 : Nat) (c6 : Nat) (q7 : Bool) (a8 : Option Addr) (n8 : Nat) (c8 : Nat) (x9 : Int) (h : Hp) : Prop :=
  vcond (ltI x9 (Int.ofNat n2))
  (isNat x9 fun n101' =>
  isAddr a2 fun b102' f103' =>
  vreq (Nat.blt n101' n2)
  (∃ x104', readAt h b102' (f103' + (n101' * 1)) 1 = some [(.int .i64 x104')] ∧
  ∃ q105', ∃ h106', EvC Tryd.prog O 121 [(.slice a8 n8 c8), (.int .i64 x104')] h (.bool q105') h106' ∧
  vcond (!q105')
  (Q (.tuple #[(.slice none 0 0), (.bool false)]) h106')
  (I92_0 O Q x0 a1 n1 c1 a2 n2 c2 a6 n6 c6 q7 a8 n8 c8 (wrapF .i64 (x9 + 1)) h106')))
  (I92_1 O Q x0 a1 n1 c1 a2 n2 c2 a6 n6 c6 q7 a8 n8 c8 true false h)
theorem I92_0.of {O Q} (x0 a1 n1 c1 a2 n2 c2 a6 n6 c6 q7 a8 n8 c8 x9) {h : Hp} (hh : T92_0 O Q x0 a1 n1 c1 a2 n2 c2 a6 n6 c6 q7 a8 n8 c8 x9 h) : I92_0 O Q x0 a1 n1 c1 a2 n2 c2 a6 n6 c6 q7 a8 n8 c8 x9 h :=
  RKL.of (tb := lv92) (cuts := []) 500 fun _ => Eq.mp (by kernel_rfl) hh
def T92_1 (O : CallF) (Q : Value → Hp → Prop) (x0 : Int) (a1 : Option Addr) (n1 : Nat) (c1 : Nat) (a2 : Option Addr) (n2 : Nat) (c2 : Nat) (a6 : Option Addr) (n6 : Nat) (c6 : Nat) (q7 : Bool) (a8 : Option Addr) (n8 : Nat) (c8 : Nat) (q10 : Bool) (q11 : Bool) (h : Hp) : Prop :=
  vcond q10
  (vcond (!q11)
  (∃ q201', ∃ q202', ∃ h203', EvC Tryd.prog O 122 [(.slice a8 n8 c8), (.slice a1 n1 c1)] h (.tuple #[(.bool q201'), (.bool q202')]) h203' ∧
  I92_1 O Q x0 a1 n1 c1 a2 n2 c2 a6 n6 c6 q7 a8 n8 c8 q201' q202' h203')
  (Q (.tuple #[(.slice a8 n8 c8), (.bool (!q11))]) h))
  (Q (.tuple #[(.slice a8 n8 c8), (.bool (!q11))]) h)
theorem I92_1.of {O Q} (x0 a1 n1 c1 a2 n2 c2 a6 n6 c6 q7 a8 n8 c8 q10 q11) {h : Hp} (hh : T92_1 O Q x0 a1 n1 c1 a2 n2 c2 a6 n6 c6 q7 a8 n8 c8 q10 q11 h) : I92_1 O Q x0 a1 n1 c1 a2 n2 c2 a6 n6 c6 q7 a8 n8 c8 q10 q11 h :=
  RKL.of (tb := lv92) (cuts := []) 500 fun _ => Eq.mp (by kernel_rfl) hh
/-! sward/swardref20.literals -/
noncomputable def b93 : Code := (Tryd.f93.body).getD .skip
noncomputable def stk93_0 : List KI := [.code (sub [1, 1, 0, 1, 0] b93), .blk 0, .code (sub [1, 1, 1] b93)]
def lv93 : List (Nat × List Nat) := [(0, [0, 2, 3, 4])]
def I93_0 (O : CallF) (Q : Value → Hp → Prop) (a0 : Option Addr) (n0 : Nat) (c0 : Nat) (a3 : Option Addr) (n3 : Nat) (c3 : Nat) (x4 : Int) (h : Hp) : Prop := RKL Tryd.prog O Tryd.f93 stk93_0 26 [0, 2, 3, 4] [(.slice a0 n0 c0), (.slice none 0 0), (.slice a3 n3 c3), (.int .i64 x4)] h Q
def T93 (O : CallF) (Q : Value → Hp → Prop) (a0 : Option Addr) (n0 : Nat) (c0 : Nat) (h : Hp) : Prop :=
  I93_0 O Q a0 n0 c0 none 0 0 1 h
theorem rk93 {O Q} (a0 n0 c0) {h : Hp} (hO : O 93 [(.slice a0 n0 c0)] h = none) (hh : T93 O Q a0 n0 c0 h) : Ret Tryd.prog O 93 [(.slice a0 n0 c0)] h Q :=
  .of (c := b93) Tryd.func93 (by kernel_rfl) hO (V_ok (tb := lv93) (cuts := []) 500 (Eq.mp (by kernel_rfl) hh))
def T93_0 (O : CallF) (Q : Value → Hp → Prop) (a0 : Option Addr) (n0 : Nat) (c0 : Nat) (a3 : Option Addr) (n3 : Nat) (c3 : Nat) (x4 : Int) (h : Hp) : Prop :=
  vcond (ltI x4 (Int.ofNat n0))
  (isNat x4 fun n101' =>
  isAddr a0 fun b102' f103' =>
  vreq (Nat.blt n101' n0)
  (∃ x104', readAt h b102' (f103' + (n101' * 1)) 1 = some [(.int .i64 x104')] ∧
  vcond (!(eqI x104' 0))
  (isNat x4 fun n105' =>
  isAddr a0 fun b106' f107' =>
  vreq (Nat.blt n105' n0)
  (∃ x108', readAt h b106' (f107' + (n105' * 1)) 1 = some [(.int .i64 x108')] ∧
  ∃ a109' n110' c111' h112', appendV Tryd.prog (h.add (.cells [(.int .i64 (wrapF .i64 (x4 * x108')))] 3 .fix)) 32 32 (.slice a3 n3 c3) (.slice (some ⟨h.nx, 0, none⟩) 1 1) = some (.slice a109' n110' c111', h112') ∧
  I93_0 O Q a0 n0 c0 a109' n110' c111' (wrapF .i64 (x4 + 1)) h112'))
  (I93_0 O Q a0 n0 c0 a3 n3 c3 (wrapF .i64 (x4 + 1)) h)))
  (Q (.slice a3 n3 c3) h)
theorem I93_0.of {O Q} (a0 n0 c0 a3 n3 c3 x4) {h : Hp} (hh : T93_0 O Q a0 n0 c0 a3 n3 c3 x4 h) : I93_0 O Q a0 n0 c0 a3 n3 c3 x4 h :=
  RKL.of (tb := lv93) (cuts := []) 500 fun _ => Eq.mp (by kernel_rfl) hh
/-! (*sward/sat.base).clashes -/
noncomputable def b95 : Code := (Tryd.f95.body).getD .skip
def lv95 : List (Nat × List Nat) := []
def T95 (O : CallF) (Q : Value → Hp → Prop) (b0 : Nat) (f0 : Nat) (a1 : Option Addr) (n1 : Nat) (c1 : Nat) (h : Hp) : Prop :=
  ∃ x1', ∃ x2', ∃ q3', ∃ h4', EvC Tryd.prog O 89 [(.pointer (some ⟨b0, f0, none⟩)), (.slice a1 n1 c1)] h (.tuple #[(.agg #[(.int .u32 x1'), (.int .u32 x2')]), (.bool q3')]) h4' ∧
  vreq (canW (h4'.add (.cells [(.int .u32 0), (.int .u32 0)] 102 .fix)) h4'.nx 0 [(.int .u32 x1'), (.int .u32 x2')])
  (Q (.bool (!q3')) ((h4'.add (.cells [(.int .u32 0), (.int .u32 0)] 102 .fix)).wr h4'.nx 0 [(.int .u32 x1'), (.int .u32 x2')]))
theorem rk95 {O Q} (b0 f0 a1 n1 c1) {h : Hp} (hO : O 95 [(.pointer (some ⟨b0, f0, none⟩)), (.slice a1 n1 c1)] h = none) (hh : T95 O Q b0 f0 a1 n1 c1 h) : Ret Tryd.prog O 95 [(.pointer (some ⟨b0, f0, none⟩)), (.slice a1 n1 c1)] h Q :=
  .of (c := b95) Tryd.func95 (by kernel_rfl) hO (V_ok (tb := lv95) (cuts := []) 500 (Eq.mp (by kernel_rfl) hh))
/-! sward/swardref20.contrary -/
noncomputable def b102 : Code := (Tryd.f102.body).getD .skip
noncomputable def stk102_0 : List KI := [.code (sub [1, 1, 0, 1, 0] b102), .blk 0, .code (sub [1, 1, 1] b102)]
noncomputable def stk102_1 : List KI := [.code (sub [1, 1, 0, 1, 0, 0, 1, 0, 0, 1, 0] b102), .blk 2, .blk 1, .code (sub [1, 1, 0, 1, 0, 0, 1, 1] b102), .code (sub [1, 1, 0, 1, 0] b102), .blk 0, .code (sub [1, 1, 1] b102)]
def lv102 : List (Nat × List Nat) := [(0, [0, 2, 3, 4]), (2, [0, 2, 3, 4, 5])]
def I102_0 (O : CallF) (Q : Value → Hp → Prop) (a0 : Option Addr) (n0 : Nat) (c0 : Nat) (a3 : Option Addr) (n3 : Nat) (c3 : Nat) (x4 : Int) (h : Hp) : Prop := RKL Tryd.prog O Tryd.f102 stk102_0 32 [0, 2, 3, 4] [(.slice a0 n0 c0), (.slice none 0 0), (.slice a3 n3 c3), (.int .i64 x4)] h Q
def I102_1 (O : CallF) (Q : Value → Hp → Prop) (a0 : Option Addr) (n0 : Nat) (c0 : Nat) (a3 : Option Addr) (n3 : Nat) (c3 : Nat) (x4 : Int) (x5 : Int) (h : Hp) : Prop := RKL Tryd.prog O Tryd.f102 stk102_1 32 [0, 2, 3, 4, 5] [(.slice a0 n0 c0), (.slice none 0 0), (.slice a3 n3 c3), (.int .i64 x4), (.int .i64 x5)] h Q
def T102 (O : CallF) (Q : Value → Hp → Prop) (a0 : Option Addr) (n0 : Nat) (c0 : Nat) (h : Hp) : Prop :=
  I102_0 O Q a0 n0 c0 none 0 0 1 h
theorem rk102 {O Q} (a0 n0 c0) {h : Hp} (hO : O 102 [(.slice a0 n0 c0)] h = none) (hh : T102 O Q a0 n0 c0 h) : Ret Tryd.prog O 102 [(.slice a0 n0 c0)] h Q :=
  .of (c := b102) Tryd.func102 (by kernel_rfl) hO (V_ok (tb := lv102) (cuts := []) 500 (Eq.mp (by kernel_rfl) hh))
def T102_0 (O : CallF) (Q : Value → Hp → Prop) (a0 : Option Addr) (n0 : Nat) (c0 : Nat) (a3 : Option Addr) (n3 : Nat) (c3 : Nat) (x4 : Int) (h : Hp) : Prop :=
  vcond (!(ltI 30 x4))
  (I102_1 O Q a0 n0 c0 a3 n3 c3 x4 0 h)
  (Q (.slice a3 n3 c3) h)
theorem I102_0.of {O Q} (a0 n0 c0 a3 n3 c3 x4) {h : Hp} (hh : T102_0 O Q a0 n0 c0 a3 n3 c3 x4 h) : I102_0 O Q a0 n0 c0 a3 n3 c3 x4 h :=
  RKL.of (tb := lv102) (cuts := []) 500 fun _ => Eq.mp (by kernel_rfl) hh
def T102_1 (O : CallF) (Q : Value → Hp → Prop) (a0 : Option Addr) (n0 : Nat) (c0 : Nat) (a3 : Option Addr) (n3 : Nat) (c3 : Nat) (x4 : Int) (x5 : Int) (h : Hp) : Prop :=
  vcond (ltI x5 (Int.ofNat n0))
  (isNat x5 fun n201' =>
  isAddr a0 fun b202' f203' =>
  vreq (Nat.blt n201' n0)
  (∃ x204', readAt h b202' (f203' + (n201' * 1)) 1 = some [(.int .i64 x204')] ∧
  ∃ x205', ∃ h206', EvC Tryd.prog O 98 [(.int .i64 x204')] h (.int .i64 x205') h206' ∧
  vcond (eqI x205' x4)
  (isNat x5 fun n207' =>
  isAddr a0 fun b208' f209' =>
  vreq (Nat.blt n207' n0)
  (∃ x210', readAt h206' b208' (f209' + (n207' * 1)) 1 = some [(.int .i64 x210')] ∧
  ∃ a211' n212' c213' h214', appendV Tryd.prog (h206'.add (.cells [(.int .i64 (wrapF .i64 (0 - x210')))] 3 .fix)) 32 32 (.slice a3 n3 c3) (.slice (some ⟨h206'.nx, 0, none⟩) 1 1) = some (.slice a211' n212' c213', h214') ∧
  I102_1 O Q a0 n0 c0 a211' n212' c213' x4 (wrapF .i64 (x5 + 1)) h214'))
  (I102_1 O Q a0 n0 c0 a3 n3 c3 x4 (wrapF .i64 (x5 + 1)) h206')))
  (I102_0 O Q a0 n0 c0 a3 n3 c3 (wrapF .i64 (x4 + 1)) h)
theorem I102_1.of {O Q} (a0 n0 c0 a3 n3 c3 x4 x5) {h : Hp} (hh : T102_1 O Q a0 n0 c0 a3 n3 c3 x4 x5 h) : I102_1 O Q a0 n0 c0 a3 n3 c3 x4 x5 h :=
  RKL.of (tb := lv102) (cuts := []) 500 fun _ => Eq.mp (by kernel_rfl) hh
/-! (*sward/sat.base).spread -/
noncomputable def b119 : Code := (Tryd.f119.body).getD .skip
noncomputable def stk119_0 : List KI := [.code (sub [1, 0, 1, 0] b119), .blk 0, .scp (sub [1, 0] b119)]
noncomputable def stk119_1 : List KI := [.code (sub [1, 0, 1, 0, 0, 0, 0, 1, 0] b119), .blk 2, .code (sub [1, 0, 1, 0, 0, 0, 1] b119), .blk 1, .code (sub [1, 0, 1, 0] b119), .blk 0, .scp (sub [1, 0] b119)]
def lv119 : List (Nat × List Nat) := [(0, [0, 3, 4, 5]), (2, [0, 3, 4, 5, 13, 14, 15])]
def I119_0 (O : CallF) (Q : Value → Hp → Prop) (b0 : Nat) (f0 : Nat) (x1_0 : Int) (x1_1 : Int) (b3 : Nat) (f3 : Nat) (b4 : Nat) (f4 : Nat) (q5 : Bool) (h : Hp) : Prop := RKL Tryd.prog O Tryd.f119 stk119_0 62 [0, 3, 4, 5] [(.pointer (some ⟨b0, f0, none⟩)), (.pointer (some ⟨b3, f3, none⟩)), (.pointer (some ⟨b4, f4, none⟩)), (.bool q5)] h Q
def I119_1 (O : CallF) (Q : Value → Hp → Prop) (b0 : Nat) (f0 : Nat) (x1_0 : Int) (x1_1 : Int) (b3 : Nat) (f3 : Nat) (b4 : Nat) (f4 : Nat) (q5 : Bool) (a13 : Option Addr) (n13 : Nat) (c13 : Nat) (x14 : Int) (x15 : Int) (h : Hp) : Prop := RKL Tryd.prog O Tryd.f119 stk119_1 62 [0, 3, 4, 5, 13, 14, 15] [(.pointer (some ⟨b0, f0, none⟩)), (.pointer (some ⟨b3, f3, none⟩)), (.pointer (some ⟨b4, f4, none⟩)), (.bool q5), (.slice a13 n13 c13), (.int .i64 x14), (.int .i64 x15)] h Q
def T119 (O : CallF) (Q : Value → Hp → Prop) (b0 : Nat) (f0 : Nat) (x1_0 : Int) (x1_1 : Int) (h : Hp) : Prop :=
  I119_0 O Q b0 f0 x1_0 x1_1 h.nx 0 (h.add (.cells [(.int .u32 x1_0), (.int .u32 x1_1)] 102 .fix)).nx 0 false ((h.add (.cells [(.int .u32 x1_0), (.int .u32 x1_1)] 102 .fix)).add (.cells [(.int .u32 0), (.int .u32 0)] 102 .fix))
theorem rk119 {O Q} (b0 f0 x1_0 x1_1) {h : Hp} (hO : O 119 [(.pointer (some ⟨b0, f0, none⟩)), (.agg #[(.int .u32 x1_0), (.int .u32 x1_1)])] h = none) (hh : T119 O Q b0 f0 x1_0 x1_1 h) : Ret Tryd.prog O 119 [(.pointer (some ⟨b0, f0, none⟩)), (.agg #[(.int .u32 x1_0), (.int .u32 x1_1)])] h Q :=
  .of (c := b119) Tryd.func119 (by kernel_rfl) hO (V_ok (tb := lv119) (cuts := []) 500 (Eq.mp (by kernel_rfl) hh))
def T119_0 (O : CallF) (Q : Value → Hp → Prop) (b0 : Nat) (f0 : Nat) (x1_0 : Int) (x1_1 : Int) (b3 : Nat) (f3 : Nat) (b4 : Nat) (f4 : Nat) (q5 : Bool) (h : Hp) : Prop :=
  ∃ a101' n102' c103', readAt h b0 (f0 + 1) 1 = some [(.slice a101' n102' c103')] ∧
  I119_1 O Q b0 f0 x1_0 x1_1 b3 f3 b4 f4 q5 a101' n102' c103' (Int.ofNat n102') 0 h
theorem I119_0.of {O Q} (b0 f0 x1_0 x1_1 b3 f3 b4 f4 q5) {h : Hp} (hh : T119_0 O Q b0 f0 x1_0 x1_1 b3 f3 b4 f4 q5 h) : I119_0 O Q b0 f0 x1_0 x1_1 b3 f3 b4 f4 q5 h :=
  RKL.of (tb := lv119) (cuts := []) 500 fun _ => Eq.mp (by kernel_rfl) hh
def T119_1 (O : CallF) (Q : Value → Hp → Prop) (b0 : Nat) (f0 : Nat) (x1_0 : Int) (x1_1 : Int) (b3 : Nat) (f3 : Nat) (b4 : Nat) (f4 : Nat) (q5 : Bool) (a13 : Option Addr) (n13 : Nat) (c13 : Nat) (x14 : Int) (x15 : Int) (h : Hp) : Prop :=
  vcond (ltI x15 x14)
  (isNat x15 fun n201' =>
  isAddr a13 fun b202' f203' =>
  vreq (Nat.blt n201' n13)
  (∃ x204', ∃ x205', readAt h b202' (f203' + (n201' * 2)) 2 = some [(.int .u32 x204'), (.int .u32 x205')] ∧
  vreq (canW (h.add (.cells [(.int .u32 0), (.int .u32 0)] 130 .fix)) h.nx 0 [(.int .u32 x204'), (.int .u32 x205')])
  (∃ x206', readAt ((h.add (.cells [(.int .u32 0), (.int .u32 0)] 130 .fix)).wr h.nx 0 [(.int .u32 x204'), (.int .u32 x205')]) h.nx 0 1 = some [(.int .u32 x206')] ∧
  ∃ x207', readAt ((h.add (.cells [(.int .u32 0), (.int .u32 0)] 130 .fix)).wr h.nx 0 [(.int .u32 x204'), (.int .u32 x205')]) b3 (f3 + 0) 1 = some [(.int .u32 x207')] ∧
  vreq (inD 4294967296 x206')
  (vreq (inD 4294967296 x207')
  (∃ x208', readAt ((h.add (.cells [(.int .u32 0), (.int .u32 0)] 130 .fix)).wr h.nx 0 [(.int .u32 x204'), (.int .u32 x205')]) h.nx 1 1 = some [(.int .u32 x208')] ∧
  ∃ x209', readAt ((h.add (.cells [(.int .u32 0), (.int .u32 0)] 130 .fix)).wr h.nx 0 [(.int .u32 x204'), (.int .u32 x205')]) b3 (f3 + 1) 1 = some [(.int .u32 x209')] ∧
  vreq (inD 4294967296 x208')
  (vreq (inD 4294967296 x209')
  (vreq (inD 4294967296 (landI x206' x207'))
  (vreq (inD 4294967296 (landI x208' x209'))
  (vcond (!(eqI (lorI (landI x206' x207') (landI x208' x209')) 0))
  (I119_1 O Q b0 f0 x1_0 x1_1 b3 f3 b4 f4 q5 a13 n13 c13 x14 (wrapF .i64 (x15 + 1)) ((h.add (.cells [(.int .u32 0), (.int .u32 0)] 130 .fix)).wr h.nx 0 [(.int .u32 x204'), (.int .u32 x205')]))
  (∃ x210', readAt (((h.add (.cells [(.int .u32 0), (.int .u32 0)] 130 .fix)).wr h.nx 0 [(.int .u32 x204'), (.int .u32 x205')]).rsv 12) h.nx 0 1 = some [(.int .u32 x210')] ∧
  ∃ x211', readAt (((h.add (.cells [(.int .u32 0), (.int .u32 0)] 130 .fix)).wr h.nx 0 [(.int .u32 x204'), (.int .u32 x205')]).rsv 12) b3 (f3 + 1) 1 = some [(.int .u32 x211')] ∧
  vreq (inD 4294967296 x210')
  (vreq (inD 4294967296 x211')
  (∃ x212', readAt (((h.add (.cells [(.int .u32 0), (.int .u32 0)] 130 .fix)).wr h.nx 0 [(.int .u32 x204'), (.int .u32 x205')]).rsv 12) h.nx 1 1 = some [(.int .u32 x212')] ∧
  ∃ x213', readAt (((h.add (.cells [(.int .u32 0), (.int .u32 0)] 130 .fix)).wr h.nx 0 [(.int .u32 x204'), (.int .u32 x205')]).rsv 12) b3 (f3 + 0) 1 = some [(.int .u32 x213')] ∧
  vreq (inD 4294967296 x212')
  (vreq (inD 4294967296 x213')
  (vreq (inD 4294967296 (andnI x210' x211'))
  (vreq (inD 4294967296 (andnI x212' x213'))
  (∃ x214', ∃ h215', EvC Tryd.prog O 138 [(.int .u32 (lorI (andnI x210' x211') (andnI x212' x213')))] (((h.add (.cells [(.int .u32 0), (.int .u32 0)] 130 .fix)).wr h.nx 0 [(.int .u32 x204'), (.int .u32 x205')]).rsv 12) (.int .i64 x214') h215' ∧
  vcond (eqI x214' 0)
  (∃ x216', ∃ x217', readAt h215' b3 f3 2 = some [(.int .u32 x216'), (.int .u32 x217')] ∧
  vreq (canW h215' b4 f4 [(.int .u32 x216'), (.int .u32 x217')])
  (∃ x218', ∃ x219', readAt (h215'.wr b4 f4 [(.int .u32 x216'), (.int .u32 x217')]) b4 f4 2 = some [(.int .u32 x218'), (.int .u32 x219')] ∧
  Q (.tuple #[(.agg #[(.int .u32 x218'), (.int .u32 x219')]), (.bool false)]) (h215'.wr b4 f4 [(.int .u32 x216'), (.int .u32 x217')])))
  (vcond (eqI x214' 1)
  (∃ x220', readAt h215' b3 (f3 + 0) 1 = some [(.int .u32 x220')] ∧
  vreq (inD 4294967296 x220')
  (vreq (inD 4294967296 (andnI x210' x211'))
  (vreq (canW h215' b3 (f3 + 0) [(.int .u32 (lorI x220' (andnI x210' x211')))])
  (∃ x221', readAt (h215'.wr b3 (f3 + 0) [(.int .u32 (lorI x220' (andnI x210' x211')))]) b3 (f3 + 1) 1 = some [(.int .u32 x221')] ∧
  vreq (inD 4294967296 x221')
  (vreq (inD 4294967296 (andnI x212' x213'))
  (vreq (canW (h215'.wr b3 (f3 + 0) [(.int .u32 (lorI x220' (andnI x210' x211')))]) b3 (f3 + 1) [(.int .u32 (lorI x221' (andnI x212' x213')))])
  (I119_0 O Q b0 f0 x1_0 x1_1 b3 f3 b4 f4 q5 ((h215'.wr b3 (f3 + 0) [(.int .u32 (lorI x220' (andnI x210' x211')))]).wr b3 (f3 + 1) [(.int .u32 (lorI x221' (andnI x212' x213')))]))))))))
  (I119_1 O Q b0 f0 x1_0 x1_1 b3 f3 b4 f4 q5 a13 n13 c13 x14 (wrapF .i64 (x15 + 1)) h215'))))))))))))))))))
  (∃ x222', ∃ x223', readAt h b3 f3 2 = some [(.int .u32 x222'), (.int .u32 x223')] ∧
  vreq (canW h b4 f4 [(.int .u32 x222'), (.int .u32 x223')])
  (∃ x224', ∃ x225', readAt (h.wr b4 f4 [(.int .u32 x222'), (.int .u32 x223')]) b4 f4 2 = some [(.int .u32 x224'), (.int .u32 x225')] ∧
  Q (.tuple #[(.agg #[(.int .u32 x224'), (.int .u32 x225')]), (.bool true)]) (h.wr b4 f4 [(.int .u32 x222'), (.int .u32 x223')])))
theorem I119_1.of {O Q} (b0 f0 x1_0 x1_1 b3 f3 b4 f4 q5 a13 n13 c13 x14 x15) {h : Hp} (hh : T119_1 O Q b0 f0 x1_0 x1_1 b3 f3 b4 f4 q5 a13 n13 c13 x14 x15 h) : I119_1 O Q b0 f0 x1_0 x1_1 b3 f3 b4 f4 q5 a13 n13 c13 x14 x15 h :=
  RKL.of (tb := lv119) (cuts := []) 500 fun _ => Eq.mp (by kernel_rfl) hh
/-! sward/swardref20.lay -/
noncomputable def b121 : Code := (Tryd.f121.body).getD .skip
def lv121 : List (Nat × List Nat) := []
def T121 (O : CallF) (Q : Value → Hp → Prop) (a0 : Option Addr) (n0 : Nat) (c0 : Nat) (x1 : Int) (h : Hp) : Prop :=
  ∃ x1', ∃ h2', EvC Tryd.prog O 118 [(.slice a0 n0 c0), (.int .i64 x1)] h (.int .i64 x1') h2' ∧
  vcond (ltI x1' 0)
  (Q (.bool false) h2')
  (∃ x3', ∃ h4', EvC Tryd.prog O 98 [(.int .i64 x1)] h2' (.int .i64 x3') h4' ∧
  isNat x3' fun n5' =>
  isAddr a0 fun b6' f7' =>
  vreq (Nat.blt n5' n0)
  (vreq (canW h4' b6' (f7' + (n5' * 1)) [(.int .i64 1)])
  (vcond (ltI x1 0)
  (isNat (wrapF .i64 (0 - x1)) fun n8' =>
  isAddr a0 fun b9' f10' =>
  vreq (Nat.blt n8' n0)
  (vreq (canW (h4'.wr b6' (f7' + (n5' * 1)) [(.int .i64 1)]) b9' (f10' + (n8' * 1)) [(.int .i64 (-1))])
  (Q (.bool true) ((h4'.wr b6' (f7' + (n5' * 1)) [(.int .i64 1)]).wr b9' (f10' + (n8' * 1)) [(.int .i64 (-1))]))))
  (Q (.bool true) (h4'.wr b6' (f7' + (n5' * 1)) [(.int .i64 1)])))))
theorem rk121 {O Q} (a0 n0 c0 x1) {h : Hp} (hO : O 121 [(.slice a0 n0 c0), (.int .i64 x1)] h = none) (hh : T121 O Q a0 n0 c0 x1 h) : Ret Tryd.prog O 121 [(.slice a0 n0 c0), (.int .i64 x1)] h Q :=
  .of (c := b121) Tryd.func121 (by kernel_rfl) hO (V_ok (tb := lv121) (cuts := []) 500 (Eq.mp (by kernel_rfl) hh))
/-! sward/swardref20.step -/
noncomputable def b122 : Code := (Tryd.f122.body).getD .skip
noncomputable def stk122_0 : List KI := [.code (sub [1, 1, 0, 1, 0] b122), .blk 0, .code (sub [1, 1, 1] b122)]
noncomputable def stk122_1 : List KI := [.code (sub [1, 1, 0, 1, 0, 0, 1, 0, 0, 1, 1, 0, 1, 0] b122), .blk 2, .code (sub [1, 1, 0, 1, 0, 0, 1, 0, 0, 1, 1, 1] b122), .blk 1, .code (sub [1, 1, 0, 1, 0, 0, 1, 1] b122), .code (sub [1, 1, 0, 1, 0] b122), .blk 0, .code (sub [1, 1, 1] b122)]
def lv122 : List (Nat × List Nat) := [(0, [0, 1, 4, 5, 6, 7]), (2, [0, 1, 4, 5, 6, 7, 8, 9, 10, 11])]
def I122_0 (O : CallF) (Q : Value → Hp → Prop) (a0 : Option Addr) (n0 : Nat) (c0 : Nat) (a1 : Option Addr) (n1 : Nat) (c1 : Nat) (q4 : Bool) (q5 : Bool) (q6 : Bool) (x7 : Int) (h : Hp) : Prop := RKL Tryd.prog O Tryd.f122 stk122_0 54 [0, 1, 4, 5, 6, 7] [(.slice a0 n0 c0), (.slice a1 n1 c1), (.bool q4), (.bool q5), (.bool q6), (.int .i64 x7)] h Q
def I122_1 (O : CallF) (Q : Value → Hp → Prop) (a0 : Option Addr) (n0 : Nat) (c0 : Nat) (a1 : Option Addr) (n1 : Nat) (c1 : Nat) (q4 : Bool) (q5 : Bool) (q6 : Bool) (x7 : Int) (a8 : Option Addr) (n8 : Nat) (c8 : Nat) (x9 : Int) (x10 : Int) (x11 : Int) (h : Hp) : Prop := RKL Tryd.prog O Tryd.f122 stk122_1 54 [0, 1, 4, 5, 6, 7, 8, 9, 10, 11] [(.slice a0 n0 c0), (.slice a1 n1 c1), (.bool q4), (.bool q5), (.bool q6), (.int .i64 x7), (.slice a8 n8 c8), (.int .i64 x9), (.int .i64 x10), (.int .i64 x11)] h Q
def T122 (O : CallF) (Q : Value → Hp → Prop) (a0 : Option Addr) (n0 : Nat) (c0 : Nat) (a1 : Option Addr) (n1 : Nat) (c1 : Nat) (h : Hp) : Prop :=
  I122_0 O Q a0 n0 c0 a1 n1 c1 false false false 0 h
theorem rk122 {O Q} (a0 n0 c0 a1 n1 c1) {h : Hp} (hO : O 122 [(.slice a0 n0 c0), (.slice a1 n1 c1)] h = none) (hh : T122 O Q a0 n0 c0 a1 n1 c1 h) : Ret Tryd.prog O 122 [(.slice a0 n0 c0), (.slice a1 n1 c1)] h Q :=
  .of (c := b122) Tryd.func122 (by kernel_rfl) hO (V_ok (tb := lv122) (cuts := []) 500 (Eq.mp (by kernel_rfl) hh))
def T122_0 (O : CallF) (Q : Value → Hp → Prop) (a0 : Option Addr) (n0 : Nat) (c0 : Nat) (a1 : Option Addr) (n1 : Nat) (c1 : Nat) (q4 : Bool) (q5 : Bool) (q6 : Bool) (x7 : Int) (h : Hp) : Prop :=
  vcond (ltI x7 (Int.ofNat n1))
  (isNat x7 fun n101' =>
  isAddr a1 fun b102' f103' =>
  vreq (Nat.blt n101' n1)
  (∃ a104' n105' c106', readAt h b102' (f103' + (n101' * 1)) 1 = some [(.slice a104' n105' c106')] ∧
  I122_1 O Q a0 n0 c0 a1 n1 c1 q4 q5 q6 x7 a104' n105' c106' 0 0 0 h))
  (Q (.tuple #[(.bool q6), (.bool false)]) h)
theorem I122_0.of {O Q} (a0 n0 c0 a1 n1 c1 q4 q5 q6 x7) {h : Hp} (hh : T122_0 O Q a0 n0 c0 a1 n1 c1 q4 q5 q6 x7 h) : I122_0 O Q a0 n0 c0 a1 n1 c1 q4 q5 q6 x7 h :=
  RKL.of (tb := lv122) (cuts := []) 500 fun _ => Eq.mp (by kernel_rfl) hh
def T122_1 (O : CallF) (Q : Value → Hp → Prop) (a0 : Option Addr) (n0 : Nat) (c0 : Nat) (a1 : Option Addr) (n1 : Nat) (c1 : Nat) (q4 : Bool) (q5 : Bool) (q6 : Bool) (x7 : Int) (a8 : Option Addr) (n8 : Nat) (c8 : Nat) (x9 : Int) (x10 : Int) (x11 : Int) (h : Hp) : Prop :=
  vcond (ltI x11 (Int.ofNat n8))
  (isNat x11 fun n201' =>
  isAddr a8 fun b202' f203' =>
  vreq (Nat.blt n201' n8)
  (∃ x204', readAt h b202' (f203' + (n201' * 1)) 1 = some [(.int .i64 x204')] ∧
  ∃ x205', ∃ h206', EvC Tryd.prog O 118 [(.slice a0 n0 c0), (.int .i64 x204')] h (.int .i64 x205') h206' ∧
  vcond (eqI x205' 0)
  (isNat x11 fun n207' =>
  isAddr a8 fun b208' f209' =>
  vreq (Nat.blt n207' n8)
  (∃ x210', readAt h206' b208' (f209' + (n207' * 1)) 1 = some [(.int .i64 x210')] ∧
  I122_1 O Q a0 n0 c0 a1 n1 c1 q4 q5 q6 x7 a8 n8 c8 (wrapF .i64 (x9 + 1)) x210' (wrapF .i64 (x11 + 1)) h206'))
  (I122_1 O Q a0 n0 c0 a1 n1 c1 q4 q5 q6 x7 a8 n8 c8 x9 x10 (wrapF .i64 (x11 + 1)) h206')))
  (∃ q211', ∃ h212', EvC Tryd.prog O 86 [(.slice a0 n0 c0), (.slice a8 n8 c8)] h (.bool q211') h212' ∧
  vcond q211'
  (I122_0 O Q a0 n0 c0 a1 n1 c1 q4 q5 q6 (wrapF .i64 (x7 + 1)) h212')
  (vcond (ltI 1 x9)
  (I122_0 O Q a0 n0 c0 a1 n1 c1 q4 q5 q6 (wrapF .i64 (x7 + 1)) h212')
  (vcond (eqI x9 0)
  (Q (.tuple #[(.bool false), (.bool true)]) h212')
  (∃ q213', ∃ h214', EvC Tryd.prog O 121 [(.slice a0 n0 c0), (.int .i64 x10)] h212' (.bool q213') h214' ∧
  I122_0 O Q a0 n0 c0 a1 n1 c1 q4 q5 true (wrapF .i64 (x7 + 1)) h214'))))
theorem I122_1.of {O Q} (a0 n0 c0 a1 n1 c1 q4 q5 q6 x7 a8 n8 c8 x9 x10 x11) {h : Hp} (hh : T122_1 O Q a0 n0 c0 a1 n1 c1 q4 q5 q6 x7 a8 n8 c8 x9 x10 x11 h) : I122_1 O Q a0 n0 c0 a1 n1 c1 q4 q5 q6 x7 a8 n8 c8 x9 x10 x11 h :=
  RKL.of (tb := lv122) (cuts := []) 500 fun _ => Eq.mp (by kernel_rfl) hh
/-! math/bits.OnesCount32 -/
noncomputable def b138 : Code := (Tryd.f138.body).getD .skip
def lv138 : List (Nat × List Nat) := []
def T138 (O : CallF) (Q : Value → Hp → Prop) (x0 : Int) (h : Hp) : Prop :=
  isNat (shrF .u32 x0 24) fun n1' =>
  vreq (Nat.blt n1' 256)
  (vreq (inD 4294967296 (shrF .u32 x0 16))
  (isNat (landI (shrF .u32 x0 16) 255) fun n2' =>
  vreq (Nat.blt n2' 256)
  (vreq (inD 4294967296 (shrF .u32 x0 8))
  (isNat (landI (shrF .u32 x0 8) 255) fun n3' =>
  vreq (Nat.blt n3' 256)
  (vreq (inD 4294967296 x0)
  (isNat (landI x0 255) fun n4' =>
  vreq (Nat.blt n4' 256)
  (Q (.int .i64 (wrapF .i64 (wrapF .u8 ((wrapF .u8 ((wrapF .u8 ((byteI (ByteArray.mk #[0, 1, 1, 2, 1, 2, 2, 3, 1, 2, 2, 3, 2, 3, 3, 4, 1, 2, 2, 3, 2, 3, 3, 4, 2, 3, 3, 4, 3, 4, 4, 5, 1, 2, 2, 3, 2, 3, 3, 4, 2, 3, 3, 4, 3, 4, 4, 5, 2, 3, 3, 4, 3, 4, 4, 5, 3, 4, 4, 5, 4, 5, 5, 6, 1, 2, 2, 3, 2, 3, 3, 4, 2, 3, 3, 4, 3, 4, 4, 5, 2, 3, 3, 4, 3, 4, 4, 5, 3, 4, 4, 5, 4, 5, 5, 6, 2, 3, 3, 4, 3, 4, 4, 5, 3, 4, 4, 5, 4, 5, 5, 6, 3, 4, 4, 5, 4, 5, 5, 6, 4, 5, 5, 6, 5, 6, 6, 7, 1, 2, 2, 3, 2, 3, 3, 4, 2, 3, 3, 4, 3, 4, 4, 5, 2, 3, 3, 4, 3, 4, 4, 5, 3, 4, 4, 5, 4, 5, 5, 6, 2, 3, 3, 4, 3, 4, 4, 5, 3, 4, 4, 5, 4, 5, 5, 6, 3, 4, 4, 5, 4, 5, 5, 6, 4, 5, 5, 6, 5, 6, 6, 7, 2, 3, 3, 4, 3, 4, 4, 5, 3, 4, 4, 5, 4, 5, 5, 6, 3, 4, 4, 5, 4, 5, 5, 6, 4, 5, 5, 6, 5, 6, 6, 7, 3, 4, 4, 5, 4, 5, 5, 6, 4, 5, 5, 6, 5, 6, 6, 7, 4, 5, 5, 6, 5, 6, 6, 7, 5, 6, 6, 7, 6, 7, 7, 8]) n1') + (byteI (ByteArray.mk #[0, 1, 1, 2, 1, 2, 2, 3, 1, 2, 2, 3, 2, 3, 3, 4, 1, 2, 2, 3, 2, 3, 3, 4, 2, 3, 3, 4, 3, 4, 4, 5, 1, 2, 2, 3, 2, 3, 3, 4, 2, 3, 3, 4, 3, 4, 4, 5, 2, 3, 3, 4, 3, 4, 4, 5, 3, 4, 4, 5, 4, 5, 5, 6, 1, 2, 2, 3, 2, 3, 3, 4, 2, 3, 3, 4, 3, 4, 4, 5, 2, 3, 3, 4, 3, 4, 4, 5, 3, 4, 4, 5, 4, 5, 5, 6, 2, 3, 3, 4, 3, 4, 4, 5, 3, 4, 4, 5, 4, 5, 5, 6, 3, 4, 4, 5, 4, 5, 5, 6, 4, 5, 5, 6, 5, 6, 6, 7, 1, 2, 2, 3, 2, 3, 3, 4, 2, 3, 3, 4, 3, 4, 4, 5, 2, 3, 3, 4, 3, 4, 4, 5, 3, 4, 4, 5, 4, 5, 5, 6, 2, 3, 3, 4, 3, 4, 4, 5, 3, 4, 4, 5, 4, 5, 5, 6, 3, 4, 4, 5, 4, 5, 5, 6, 4, 5, 5, 6, 5, 6, 6, 7, 2, 3, 3, 4, 3, 4, 4, 5, 3, 4, 4, 5, 4, 5, 5, 6, 3, 4, 4, 5, 4, 5, 5, 6, 4, 5, 5, 6, 5, 6, 6, 7, 3, 4, 4, 5, 4, 5, 5, 6, 4, 5, 5, 6, 5, 6, 6, 7, 4, 5, 5, 6, 5, 6, 6, 7, 5, 6, 6, 7, 6, 7, 7, 8]) n2'))) + (byteI (ByteArray.mk #[0, 1, 1, 2, 1, 2, 2, 3, 1, 2, 2, 3, 2, 3, 3, 4, 1, 2, 2, 3, 2, 3, 3, 4, 2, 3, 3, 4, 3, 4, 4, 5, 1, 2, 2, 3, 2, 3, 3, 4, 2, 3, 3, 4, 3, 4, 4, 5, 2, 3, 3, 4, 3, 4, 4, 5, 3, 4, 4, 5, 4, 5, 5, 6, 1, 2, 2, 3, 2, 3, 3, 4, 2, 3, 3, 4, 3, 4, 4, 5, 2, 3, 3, 4, 3, 4, 4, 5, 3, 4, 4, 5, 4, 5, 5, 6, 2, 3, 3, 4, 3, 4, 4, 5, 3, 4, 4, 5, 4, 5, 5, 6, 3, 4, 4, 5, 4, 5, 5, 6, 4, 5, 5, 6, 5, 6, 6, 7, 1, 2, 2, 3, 2, 3, 3, 4, 2, 3, 3, 4, 3, 4, 4, 5, 2, 3, 3, 4, 3, 4, 4, 5, 3, 4, 4, 5, 4, 5, 5, 6, 2, 3, 3, 4, 3, 4, 4, 5, 3, 4, 4, 5, 4, 5, 5, 6, 3, 4, 4, 5, 4, 5, 5, 6, 4, 5, 5, 6, 5, 6, 6, 7, 2, 3, 3, 4, 3, 4, 4, 5, 3, 4, 4, 5, 4, 5, 5, 6, 3, 4, 4, 5, 4, 5, 5, 6, 4, 5, 5, 6, 5, 6, 6, 7, 3, 4, 4, 5, 4, 5, 5, 6, 4, 5, 5, 6, 5, 6, 6, 7, 4, 5, 5, 6, 5, 6, 6, 7, 5, 6, 6, 7, 6, 7, 7, 8]) n3'))) + (byteI (ByteArray.mk #[0, 1, 1, 2, 1, 2, 2, 3, 1, 2, 2, 3, 2, 3, 3, 4, 1, 2, 2, 3, 2, 3, 3, 4, 2, 3, 3, 4, 3, 4, 4, 5, 1, 2, 2, 3, 2, 3, 3, 4, 2, 3, 3, 4, 3, 4, 4, 5, 2, 3, 3, 4, 3, 4, 4, 5, 3, 4, 4, 5, 4, 5, 5, 6, 1, 2, 2, 3, 2, 3, 3, 4, 2, 3, 3, 4, 3, 4, 4, 5, 2, 3, 3, 4, 3, 4, 4, 5, 3, 4, 4, 5, 4, 5, 5, 6, 2, 3, 3, 4, 3, 4, 4, 5, 3, 4, 4, 5, 4, 5, 5, 6, 3, 4, 4, 5, 4, 5, 5, 6, 4, 5, 5, 6, 5, 6, 6, 7, 1, 2, 2, 3, 2, 3, 3, 4, 2, 3, 3, 4, 3, 4, 4, 5, 2, 3, 3, 4, 3, 4, 4, 5, 3, 4, 4, 5, 4, 5, 5, 6, 2, 3, 3, 4, 3, 4, 4, 5, 3, 4, 4, 5, 4, 5, 5, 6, 3, 4, 4, 5, 4, 5, 5, 6, 4, 5, 5, 6, 5, 6, 6, 7, 2, 3, 3, 4, 3, 4, 4, 5, 3, 4, 4, 5, 4, 5, 5, 6, 3, 4, 4, 5, 4, 5, 5, 6, 4, 5, 5, 6, 5, 6, 6, 7, 3, 4, 4, 5, 4, 5, 5, 6, 4, 5, 5, 6, 5, 6, 6, 7, 4, 5, 5, 6, 5, 6, 6, 7, 5, 6, 6, 7, 6, 7, 7, 8]) n4'))))) (h.rsv 19))))))))
theorem rk138 {O Q} (x0) {h : Hp} (hO : O 138 [(.int .u32 x0)] h = none) (hh : T138 O Q x0 h) : Ret Tryd.prog O 138 [(.int .u32 x0)] h Q :=
  .of (c := b138) Tryd.func138 (by kernel_rfl) hO (V_ok (tb := lv138) (cuts := []) 500 (Eq.mp (by kernel_rfl) hh))
end Go.Proofs.YtfgfhplgnfbaaaaDoor
/- Conditions of functions' code, printed by a program of ours. -/
namespace Go.Proofs.YtfgfhplgnfbaaaaDoor
open Go Go.Ev
set_option maxRecDepth 100000
set_option linter.unusedVariables false
/-! sward/swardlaw20.large -/
noncomputable def b28 : Code := (Tryd.f28.body).getD .skip
def lv28 : List (Nat × List Nat) := []
def T28 (O : CallF) (Q : Value → Hp → Prop) (x0_0 : Int) (a0_1 : Option Addr) (n0_1 : Nat) (c0_1 : Nat) (a1 : Option Addr) (n1 : Nat) (c1 : Nat) (h : Hp) : Prop :=
  ∃ a1' n2' c3', readAt (h.add (.cells [(.int .i64 x0_0), (.slice a0_1 n0_1 c0_1)] 30 .fix)) h.nx 1 1 = some [(.slice a1' n2' c3')] ∧
  ∃ q4', ∃ h5', EvC Tryd.prog O 43 [(.slice a1' n2' c3')] (h.add (.cells [(.int .i64 x0_0), (.slice a0_1 n0_1 c0_1)] 30 .fix)) (.bool q4') h5' ∧
  vcond q4'
  (Q (.bool true) h5')
  (Q (.bool (ltI 40 (Int.ofNat n1))) h5')
theorem rk28 {O Q} (x0_0 a0_1 n0_1 c0_1 a1 n1 c1) {h : Hp} (hO : O 28 [(.agg #[(.int .i64 x0_0), (.slice a0_1 n0_1 c0_1)]), (.slice a1 n1 c1)] h = none) (hh : T28 O Q x0_0 a0_1 n0_1 c0_1 a1 n1 c1 h) : Ret Tryd.prog O 28 [(.agg #[(.int .i64 x0_0), (.slice a0_1 n0_1 c0_1)]), (.slice a1 n1 c1)] h Q :=
  .of (c := b28) Tryd.func28 (by kernel_rfl) hO (V_ok (tb := lv28) (cuts := []) 500 (Eq.mp (by kernel_rfl) hh))
/-! sward/swardlaw20.great -/
noncomputable def b43 : Code := (Tryd.f43.body).getD .skip
noncomputable def stk43_0 : List KI := [.code (sub [1, 1, 0, 1, 0] b43), .blk 0, .code (sub [1, 1, 1] b43)]
def lv43 : List (Nat × List Nat) := [(0, [0, 2, 3])]
def I43_0 (O : CallF) (Q : Value → Hp → Prop) (a0 : Option Addr) (n0 : Nat) (c0 : Nat) (q2 : Bool) (x3 : Int) (h : Hp) : Prop := RKL Tryd.prog O Tryd.f43 stk43_0 19 [0, 2, 3] [(.slice a0 n0 c0), (.bool q2), (.int .i64 x3)] h Q
def T43 (O : CallF) (Q : Value → Hp → Prop) (a0 : Option Addr) (n0 : Nat) (c0 : Nat) (h : Hp) : Prop :=
  vcond (ltI 150 (Int.ofNat n0))
  (Q (.bool true) h)
  (I43_0 O Q a0 n0 c0 false 0 h)
theorem rk43 {O Q} (a0 n0 c0) {h : Hp} (hO : O 43 [(.slice a0 n0 c0)] h = none) (hh : T43 O Q a0 n0 c0 h) : Ret Tryd.prog O 43 [(.slice a0 n0 c0)] h Q :=
  .of (c := b43) Tryd.func43 (by kernel_rfl) hO (V_ok (tb := lv43) (cuts := []) 500 (Eq.mp (by kernel_rfl) hh))
def T43_0 (O : CallF) (Q : Value → Hp → Prop) (a0 : Option Addr) (n0 : Nat) (c0 : Nat) (q2 : Bool) (x3 : Int) (h : Hp) : Prop :=
  vcond (ltI x3 (Int.ofNat n0))
  (isNat x3 fun n101' =>
  isAddr a0 fun b102' f103' =>
  vreq (Nat.blt n101' n0)
  (∃ a104' n105' c106', readAt h b102' (f103' + (n101' * 1)) 1 = some [(.slice a104' n105' c106')] ∧
  vcond (ltI 40 (Int.ofNat n105'))
  (Q (.bool true) h)
  (I43_0 O Q a0 n0 c0 q2 (wrapF .i64 (x3 + 1)) h)))
  (Q (.bool false) h)
theorem I43_0.of {O Q} (a0 n0 c0 q2 x3) {h : Hp} (hh : T43_0 O Q a0 n0 c0 q2 x3 h) : I43_0 O Q a0 n0 c0 q2 x3 h :=
  RKL.of (tb := lv43) (cuts := []) 500 fun _ => Eq.mp (by kernel_rfl) hh
/-! sward/sat.Check -/
noncomputable def b31 : Code := (Tryd.f31.body).getD .skip
noncomputable def stk31_0 : List KI := [.code (sub [1, 1, 0, 1, 0] b31), .blk 0, .code (sub [1, 1, 1] b31)]
def lv31 : List (Nat × List Nat) := [(0, [1, 2, 20, 21, 22])]
def I31_0 (O : CallF) (Q : Value → Hp → Prop) (x0_0 : Int) (a0_1 : Option Addr) (n0_1 : Nat) (c0_1 : Nat) (b1 : Nat) (f1 : Nat) (x2 : Int) (a20 : Option Addr) (n20 : Nat) (c20 : Nat) (x21 : Int) (x22 : Int) (h : Hp) : Prop := RKL Tryd.prog O Tryd.f31 stk31_0 32 [1, 2, 20, 21, 22] [(.pointer (some ⟨b1, f1, none⟩)), (.int .i64 x2), (.slice a20 n20 c20), (.int .i64 x21), (.int .i64 x22)] h Q
def T31 (O : CallF) (Q : Value → Hp → Prop) (x0_0 : Int) (a0_1 : Option Addr) (n0_1 : Nat) (c0_1 : Nat) (h : Hp) : Prop :=
  ∃ x1', readAt (h.add (.cells [(.int .i64 x0_0), (.slice a0_1 n0_1 c0_1)] 30 .fix)) h.nx 0 1 = some [(.int .i64 x1')] ∧
  vcond (ltI x1' 0)
  (Q (.int .i64 2) (h.add (.cells [(.int .i64 x0_0), (.slice a0_1 n0_1 c0_1)] 30 .fix)))
  (∃ x2', readAt (h.add (.cells [(.int .i64 x0_0), (.slice a0_1 n0_1 c0_1)] 30 .fix)) h.nx 0 1 = some [(.int .i64 x2')] ∧
  vcond (ltI 30 x2')
  (Q (.int .i64 2) (h.add (.cells [(.int .i64 x0_0), (.slice a0_1 n0_1 c0_1)] 30 .fix)))
  (∃ a3' n4' c5', readAt (h.add (.cells [(.int .i64 x0_0), (.slice a0_1 n0_1 c0_1)] 30 .fix)) h.nx 1 1 = some [(.slice a3' n4' c5')] ∧
  vcond (ltI 120 (Int.ofNat n4'))
  (Q (.int .i64 2) (h.add (.cells [(.int .i64 x0_0), (.slice a0_1 n0_1 c0_1)] 30 .fix)))
  (∃ a6' n7' c8', readAt (h.add (.cells [(.int .i64 x0_0), (.slice a0_1 n0_1 c0_1)] 30 .fix)) h.nx 1 1 = some [(.slice a6' n7' c8')] ∧
  I31_0 O Q x0_0 a0_1 n0_1 c0_1 h.nx 0 0 a6' n7' c8' (Int.ofNat n7') 0 (h.add (.cells [(.int .i64 x0_0), (.slice a0_1 n0_1 c0_1)] 30 .fix)))))
theorem rk31 {O Q} (x0_0 a0_1 n0_1 c0_1) {h : Hp} (hO : O 31 [(.agg #[(.int .i64 x0_0), (.slice a0_1 n0_1 c0_1)])] h = none) (hh : T31 O Q x0_0 a0_1 n0_1 c0_1 h) : Ret Tryd.prog O 31 [(.agg #[(.int .i64 x0_0), (.slice a0_1 n0_1 c0_1)])] h Q :=
  .of (c := b31) Tryd.func31 (by kernel_rfl) hO (V_ok (tb := lv31) (cuts := []) 500 (Eq.mp (by kernel_rfl) hh))
def T31_0 (O : CallF) (Q : Value → Hp → Prop) (x0_0 : Int) (a0_1 : Option Addr) (n0_1 : Nat) (c0_1 : Nat) (b1 : Nat) (f1 : Nat) (x2 : Int) (a20 : Option Addr) (n20 : Nat) (c20 : Nat) (x21 : Int) (x22 : Int) (h : Hp) : Prop :=
  vcond (ltI x22 x21)
  (isNat x22 fun n101' =>
  isAddr a20 fun b102' f103' =>
  vreq (Nat.blt n101' n20)
  (∃ a104' n105' c106', readAt h b102' (f103' + (n101' * 1)) 1 = some [(.slice a104' n105' c106')] ∧
  ∃ x107', readAt h b1 (f1 + 0) 1 = some [(.int .i64 x107')] ∧
  ∃ q108', ∃ h109', EvC Tryd.prog O 87 [(.slice a104' n105' c106'), (.int .i64 x107')] h (.bool q108') h109' ∧
  vcond (!q108')
  (Q (.int .i64 2) h109')
  (I31_0 O Q x0_0 a0_1 n0_1 c0_1 b1 f1 x2 a20 n20 c20 x21 (wrapF .i64 (x22 + 1)) h109')))
  (Q (.int .i64 0) h)
theorem I31_0.of {O Q} (x0_0 a0_1 n0_1 c0_1 b1 f1 x2 a20 n20 c20 x21 x22) {h : Hp} (hh : T31_0 O Q x0_0 a0_1 n0_1 c0_1 b1 f1 x2 a20 n20 c20 x21 x22 h) : I31_0 O Q x0_0 a0_1 n0_1 c0_1 b1 f1 x2 a20 n20 c20 x21 x22 h :=
  RKL.of (tb := lv31) (cuts := []) 500 fun _ => Eq.mp (by kernel_rfl) hh
/-! sward/sat.based -/
noncomputable def b76 : Code := (Tryd.f76.body).getD .skip
noncomputable def stk76_0 : List KI := [.code (sub [1, 1, 0, 1, 0] b76), .blk 0, .code (sub [1, 1, 1] b76)]
def lv76 : List (Nat × List Nat) := [(0, [4, 5, 14, 15, 16])]
def I76_0 (O : CallF) (Q : Value → Hp → Prop) (x0_0 : Int) (a0_1 : Option Addr) (n0_1 : Nat) (c0_1 : Nat) (a1 : Option Addr) (n1 : Nat) (c1 : Nat) (b5 : Nat) (f5 : Nat) (a14 : Option Addr) (n14 : Nat) (c14 : Nat) (x15 : Int) (x16 : Int) (h : Hp) : Prop := RKL Tryd.prog O Tryd.f76 stk76_0 33 [4, 5, 14, 15, 16] [(.pointer none), (.pointer (some ⟨b5, f5, none⟩)), (.slice a14 n14 c14), (.int .i64 x15), (.int .i64 x16)] h Q
def T76 (O : CallF) (Q : Value → Hp → Prop) (x0_0 : Int) (a0_1 : Option Addr) (n0_1 : Nat) (c0_1 : Nat) (a1 : Option Addr) (n1 : Nat) (c1 : Nat) (h : Hp) : Prop :=
  ∃ x1', readAt (h.add (.cells [(.int .i64 x0_0), (.slice a0_1 n0_1 c0_1)] 30 .fix)) h.nx 0 1 = some [(.int .i64 x1')] ∧
  ∃ a2' n3' c4', readAt ((h.add (.cells [(.int .i64 x0_0), (.slice a0_1 n0_1 c0_1)] 30 .fix)).add (.cells [(.int .i64 x1'), (.slice none 0 0), (.slice a1 n1 c1), (.int .i64 2000), (.slice none 0 0)] 128 .fix)) h.nx 1 1 = some [(.slice a2' n3' c4')] ∧
  I76_0 O Q x0_0 a0_1 n0_1 c0_1 a1 n1 c1 (h.add (.cells [(.int .i64 x0_0), (.slice a0_1 n0_1 c0_1)] 30 .fix)).nx 0 a2' n3' c4' (Int.ofNat n3') 0 ((h.add (.cells [(.int .i64 x0_0), (.slice a0_1 n0_1 c0_1)] 30 .fix)).add (.cells [(.int .i64 x1'), (.slice none 0 0), (.slice a1 n1 c1), (.int .i64 2000), (.slice none 0 0)] 128 .fix))
theorem rk76 {O Q} (x0_0 a0_1 n0_1 c0_1 a1 n1 c1) {h : Hp} (hO : O 76 [(.agg #[(.int .i64 x0_0), (.slice a0_1 n0_1 c0_1)]), (.slice a1 n1 c1)] h = none) (hh : T76 O Q x0_0 a0_1 n0_1 c0_1 a1 n1 c1 h) : Ret Tryd.prog O 76 [(.agg #[(.int .i64 x0_0), (.slice a0_1 n0_1 c0_1)]), (.slice a1 n1 c1)] h Q :=
  .of (c := b76) Tryd.func76 (by kernel_rfl) hO (V_ok (tb := lv76) (cuts := []) 500 (Eq.mp (by kernel_rfl) hh))
def T76_0 (O : CallF) (Q : Value → Hp → Prop) (x0_0 : Int) (a0_1 : Option Addr) (n0_1 : Nat) (c0_1 : Nat) (a1 : Option Addr) (n1 : Nat) (c1 : Nat) (b5 : Nat) (f5 : Nat) (a14 : Option Addr) (n14 : Nat) (c14 : Nat) (x15 : Int) (x16 : Int) (h : Hp) : Prop :=
  vcond (ltI x16 x15)
  (isNat x16 fun n101' =>
  isAddr a14 fun b102' f103' =>
  vreq (Nat.blt n101' n14)
  (∃ a104' n105' c106', readAt h b102' (f103' + (n101' * 1)) 1 = some [(.slice a104' n105' c106')] ∧
  ∃ a107' n108' c109', readAt (h.rsv 12) b5 (f5 + 1) 1 = some [(.slice a107' n108' c109')] ∧
  ∃ x110', ∃ x111', ∃ h112', EvC Tryd.prog O 107 [(.slice a104' n105' c106')] ((h.rsv 12).grd [b5]) (.agg #[(.int .u32 x110'), (.int .u32 x111')]) h112' ∧
  vreq ((h112'.rst (h.rsv 12)).free (h.nx + 7))
  (∃ a113' n114' c115' h116', appendV Tryd.prog (((h112'.rst (h.rsv 12)).lay (h.nx + 7) (.cells [(.int .u32 x110'), (.int .u32 x111')] 130 .fix)).grd []) 126 126 (.slice a107' n108' c109') (.slice (some ⟨(h.nx + 7), 0, none⟩) 1 1) = some (.slice a113' n114' c115', h116') ∧
  vreq (canW ((h116'.rst ((h112'.rst (h.rsv 12)).lay (h.nx + 7) (.cells [(.int .u32 x110'), (.int .u32 x111')] 130 .fix))).grd []) b5 (f5 + 1) [(.slice a113' n114' c115')])
  (I76_0 O Q x0_0 a0_1 n0_1 c0_1 a1 n1 c1 b5 f5 a14 n14 c14 x15 (wrapF .i64 (x16 + 1)) ((((h116'.rst ((h112'.rst (h.rsv 12)).lay (h.nx + 7) (.cells [(.int .u32 x110'), (.int .u32 x111')] 130 .fix))).grd []).wr b5 (f5 + 1) [(.slice a113' n114' c115')]).rst (h116'.rst ((h112'.rst (h.rsv 12)).lay (h.nx + 7) (.cells [(.int .u32 x110'), (.int .u32 x111')] 130 .fix))))))))
  (Q (.pointer (some ⟨b5, f5, none⟩)) h)
theorem I76_0.of {O Q} (x0_0 a0_1 n0_1 c0_1 a1 n1 c1 b5 f5 a14 n14 c14 x15 x16) {h : Hp} (hh : T76_0 O Q x0_0 a0_1 n0_1 c0_1 a1 n1 c1 b5 f5 a14 n14 c14 x15 x16 h) : I76_0 O Q x0_0 a0_1 n0_1 c0_1 a1 n1 c1 b5 f5 a14 n14 c14 x15 x16 h :=
  RKL.of (tb := lv76) (cuts := []) 500 fun _ => Eq.mp (by kernel_rfl) hh
/-! sward/swardref20.Formed -/
noncomputable def b85 : Code := (Tryd.f85.body).getD .skip
noncomputable def stk85_0 : List KI := [.code (sub [1, 1, 0, 1, 0] b85), .blk 0, .code (sub [1, 1, 1] b85)]
def lv85 : List (Nat × List Nat) := [(0, [1, 2, 3])]
def I85_0 (O : CallF) (Q : Value → Hp → Prop) (x0_0 : Int) (a0_1 : Option Addr) (n0_1 : Nat) (c0_1 : Nat) (b1 : Nat) (f1 : Nat) (q2 : Bool) (x3 : Int) (h : Hp) : Prop := RKL Tryd.prog O Tryd.f85 stk85_0 34 [1, 2, 3] [(.pointer (some ⟨b1, f1, none⟩)), (.bool q2), (.int .i64 x3)] h Q
def T85 (O : CallF) (Q : Value → Hp → Prop) (x0_0 : Int) (a0_1 : Option Addr) (n0_1 : Nat) (c0_1 : Nat) (h : Hp) : Prop :=
  ∃ x1', readAt (h.add (.cells [(.int .i64 x0_0), (.slice a0_1 n0_1 c0_1)] 30 .fix)) h.nx 0 1 = some [(.int .i64 x1')] ∧
  vcond (ltI x1' 0)
  (Q (.bool false) (h.add (.cells [(.int .i64 x0_0), (.slice a0_1 n0_1 c0_1)] 30 .fix)))
  (∃ x2', readAt (h.add (.cells [(.int .i64 x0_0), (.slice a0_1 n0_1 c0_1)] 30 .fix)) h.nx 0 1 = some [(.int .i64 x2')] ∧
  vcond (ltI 30 x2')
  (Q (.bool false) (h.add (.cells [(.int .i64 x0_0), (.slice a0_1 n0_1 c0_1)] 30 .fix)))
  (∃ a3' n4' c5', readAt (h.add (.cells [(.int .i64 x0_0), (.slice a0_1 n0_1 c0_1)] 30 .fix)) h.nx 1 1 = some [(.slice a3' n4' c5')] ∧
  vcond (ltI 120 (Int.ofNat n4'))
  (Q (.bool false) (h.add (.cells [(.int .i64 x0_0), (.slice a0_1 n0_1 c0_1)] 30 .fix)))
  (I85_0 O Q x0_0 a0_1 n0_1 c0_1 h.nx 0 false 0 (h.add (.cells [(.int .i64 x0_0), (.slice a0_1 n0_1 c0_1)] 30 .fix)))))
theorem rk85 {O Q} (x0_0 a0_1 n0_1 c0_1) {h : Hp} (hO : O 85 [(.agg #[(.int .i64 x0_0), (.slice a0_1 n0_1 c0_1)])] h = none) (hh : T85 O Q x0_0 a0_1 n0_1 c0_1 h) : Ret Tryd.prog O 85 [(.agg #[(.int .i64 x0_0), (.slice a0_1 n0_1 c0_1)])] h Q :=
  .of (c := b85) Tryd.func85 (by kernel_rfl) hO (V_ok (tb := lv85) (cuts := []) 500 (Eq.mp (by kernel_rfl) hh))
def T85_0 (O : CallF) (Q : Value → Hp → Prop) (x0_0 : Int) (a0_1 : Option Addr) (n0_1 : Nat) (c0_1 : Nat) (b1 : Nat) (f1 : Nat) (q2 : Bool) (x3 : Int) (h : Hp) : Prop :=
  ∃ a101' n102' c103', readAt h b1 (f1 + 1) 1 = some [(.slice a101' n102' c103')] ∧
  vcond (ltI x3 (Int.ofNat n102'))
  (∃ a104' n105' c106', readAt (h.rsv 9) b1 (f1 + 1) 1 = some [(.slice a104' n105' c106')] ∧
  isNat x3 fun n107' =>
  isAddr a104' fun b108' f109' =>
  vreq (Nat.blt n107' n105')
  (∃ a110' n111' c112', readAt (h.rsv 9) b108' (f109' + (n107' * 1)) 1 = some [(.slice a110' n111' c112')] ∧
  ∃ x113', readAt (h.rsv 9) b1 (f1 + 0) 1 = some [(.int .i64 x113')] ∧
  ∃ q114', ∃ h115', EvC Tryd.prog O 105 [(.slice a110' n111' c112'), (.int .i64 x113')] ((h.rsv 9).grd []) (.bool q114') h115' ∧
  vcond (!q114')
  (Q (.bool false) (h115'.rst (h.rsv 9)))
  (I85_0 O Q x0_0 a0_1 n0_1 c0_1 b1 f1 q2 (wrapF .i64 (x3 + 1)) (h115'.rst (h.rsv 9)))))
  (Q (.bool true) h)
theorem I85_0.of {O Q} (x0_0 a0_1 n0_1 c0_1 b1 f1 q2 x3) {h : Hp} (hh : T85_0 O Q x0_0 a0_1 n0_1 c0_1 b1 f1 q2 x3 h) : I85_0 O Q x0_0 a0_1 n0_1 c0_1 b1 f1 q2 x3 h :=
  RKL.of (tb := lv85) (cuts := []) 500 fun _ => Eq.mp (by kernel_rfl) hh
/-! sward/swardref20.satisfied -/
noncomputable def b86 : Code := (Tryd.f86.body).getD .skip
noncomputable def stk86_0 : List KI := [.code (sub [1, 0, 1, 0] b86), .blk 0, .code (sub [1, 1] b86)]
def lv86 : List (Nat × List Nat) := [(0, [0, 1, 4, 5])]
def I86_0 (O : CallF) (Q : Value → Hp → Prop) (a0 : Option Addr) (n0 : Nat) (c0 : Nat) (a1 : Option Addr) (n1 : Nat) (c1 : Nat) (q4 : Bool) (x5 : Int) (h : Hp) : Prop := RKL Tryd.prog O Tryd.f86 stk86_0 19 [0, 1, 4, 5] [(.slice a0 n0 c0), (.slice a1 n1 c1), (.bool q4), (.int .i64 x5)] h Q
def T86 (O : CallF) (Q : Value → Hp → Prop) (a0 : Option Addr) (n0 : Nat) (c0 : Nat) (a1 : Option Addr) (n1 : Nat) (c1 : Nat) (h : Hp) : Prop :=
  I86_0 O Q a0 n0 c0 a1 n1 c1 false 0 h
theorem rk86 {O Q} (a0 n0 c0 a1 n1 c1) {h : Hp} (hO : O 86 [(.slice a0 n0 c0), (.slice a1 n1 c1)] h = none) (hh : T86 O Q a0 n0 c0 a1 n1 c1 h) : Ret Tryd.prog O 86 [(.slice a0 n0 c0), (.slice a1 n1 c1)] h Q :=
  .of (c := b86) Tryd.func86 (by kernel_rfl) hO (V_ok (tb := lv86) (cuts := []) 500 (Eq.mp (by kernel_rfl) hh))
def T86_0 (O : CallF) (Q : Value → Hp → Prop) (a0 : Option Addr) (n0 : Nat) (c0 : Nat) (a1 : Option Addr) (n1 : Nat) (c1 : Nat) (q4 : Bool) (x5 : Int) (h : Hp) : Prop :=
  vcond (ltI x5 (Int.ofNat n1))
  (isNat x5 fun n101' =>
  isAddr a1 fun b102' f103' =>
  vreq (Nat.blt n101' n1)
  (∃ x104', readAt h b102' (f103' + (n101' * 1)) 1 = some [(.int .i64 x104')] ∧
  ∃ x105', ∃ h106', EvC Tryd.prog O 118 [(.slice a0 n0 c0), (.int .i64 x104')] h (.int .i64 x105') h106' ∧
  vcond (ltI 0 x105')
  (Q (.bool true) h106')
  (I86_0 O Q a0 n0 c0 a1 n1 c1 q4 (wrapF .i64 (x5 + 1)) h106')))
  (Q (.bool false) h)
theorem I86_0.of {O Q} (a0 n0 c0 a1 n1 c1 q4 x5) {h : Hp} (hh : T86_0 O Q a0 n0 c0 a1 n1 c1 q4 x5 h) : I86_0 O Q a0 n0 c0 a1 n1 c1 q4 x5 h :=
  RKL.of (tb := lv86) (cuts := []) 500 fun _ => Eq.mp (by kernel_rfl) hh
/-! sward/sat.split -/
noncomputable def b107 : Code := (Tryd.f107.body).getD .skip
noncomputable def stk107_0 : List KI := [.code (sub [1, 1, 0, 1, 0] b107), .blk 0, .code (sub [1, 1, 1] b107)]
def lv107 : List (Nat × List Nat) := [(0, [2, 3, 6, 7, 8])]
def I107_0 (O : CallF) (Q : Value → Hp → Prop) (a0 : Option Addr) (n0 : Nat) (c0 : Nat) (b2 : Nat) (f2 : Nat) (b3 : Nat) (f3 : Nat) (x8 : Int) (h : Hp) : Prop := RKL Tryd.prog O Tryd.f107 stk107_0 28 [2, 3, 6, 7, 8] [(.pointer (some ⟨b2, f2, none⟩)), (.pointer (some ⟨b3, f3, none⟩)), (.slice a0 n0 c0), (.int .i64 (Int.ofNat n0)), (.int .i64 x8)] h Q
def T107 (O : CallF) (Q : Value → Hp → Prop) (a0 : Option Addr) (n0 : Nat) (c0 : Nat) (h : Hp) : Prop :=
  I107_0 O Q a0 n0 c0 h.nx 0 (h.add (.cells [(.int .u32 0), (.int .u32 0)] 130 .fix)).nx 0 0 ((h.add (.cells [(.int .u32 0), (.int .u32 0)] 130 .fix)).add (.cells [(.int .u32 0), (.int .u32 0)] 130 .fix))
theorem rk107 {O Q} (a0 n0 c0) {h : Hp} (hO : O 107 [(.slice a0 n0 c0)] h = none) (hh : T107 O Q a0 n0 c0 h) : Ret Tryd.prog O 107 [(.slice a0 n0 c0)] h Q :=
  .of (c := b107) Tryd.func107 (by kernel_rfl) hO (V_ok (tb := lv107) (cuts := []) 500 (Eq.mp (by kernel_rfl) hh))
def T107_0 (O : CallF) (Q : Value → Hp → Prop) (a0 : Option Addr) (n0 : Nat) (c0 : Nat) (b2 : Nat) (f2 : Nat) (b3 : Nat) (f3 : Nat) (x8 : Int) (h : Hp) : Prop :=
  vcond (ltI x8 (Int.ofNat n0))
  (isNat x8 fun n101' =>
  isAddr a0 fun b102' f103' =>
  vreq (Nat.blt n101' n0)
  (∃ x104', readAt h b102' (f103' + (n101' * 1)) 1 = some [(.int .i64 x104')] ∧
  vcond (ltI 0 x104')
  (∃ x105', readAt (h.rsv 7) b3 (f3 + 0) 1 = some [(.int .u32 x105')] ∧
  ∃ x106', ∃ h107', EvC Tryd.prog O 84 [(.int .i64 x104')] ((h.rsv 7).grd [b3]) (.int .u32 x106') h107' ∧
  vreq (inD 4294967296 x105')
  (vreq (inD 4294967296 x106')
  (vreq (canW ((h107'.rst (h.rsv 7)).grd []) b3 (f3 + 0) [(.int .u32 (lorI x105' x106'))])
  (I107_0 O Q a0 n0 c0 b2 f2 b3 f3 (wrapF .i64 (x8 + 1)) ((((h107'.rst (h.rsv 7)).grd []).wr b3 (f3 + 0) [(.int .u32 (lorI x105' x106'))]).rst (h107'.rst (h.rsv 7)))))))
  (∃ x108', readAt (h.rsv 7) b3 (f3 + 1) 1 = some [(.int .u32 x108')] ∧
  ∃ x109', ∃ h110', EvC Tryd.prog O 84 [(.int .i64 x104')] ((h.rsv 7).grd [b3]) (.int .u32 x109') h110' ∧
  vreq (inD 4294967296 x108')
  (vreq (inD 4294967296 x109')
  (vreq (canW ((h110'.rst (h.rsv 7)).grd []) b3 (f3 + 1) [(.int .u32 (lorI x108' x109'))])
  (I107_0 O Q a0 n0 c0 b2 f2 b3 f3 (wrapF .i64 (x8 + 1)) ((((h110'.rst (h.rsv 7)).grd []).wr b3 (f3 + 1) [(.int .u32 (lorI x108' x109'))]).rst (h110'.rst (h.rsv 7)))))))))
  (∃ x111', ∃ x112', readAt h b3 f3 2 = some [(.int .u32 x111'), (.int .u32 x112')] ∧
  vreq (canW h b2 f2 [(.int .u32 x111'), (.int .u32 x112')])
  (∃ x113', ∃ x114', readAt (h.wr b2 f2 [(.int .u32 x111'), (.int .u32 x112')]) b2 f2 2 = some [(.int .u32 x113'), (.int .u32 x114')] ∧
  Q (.agg #[(.int .u32 x113'), (.int .u32 x114')]) (h.wr b2 f2 [(.int .u32 x111'), (.int .u32 x112')])))
theorem I107_0.of {O Q} (a0 n0 c0 b2 f2 b3 f3 x8) {h : Hp} (hh : T107_0 O Q a0 n0 c0 b2 f2 b3 f3 x8 h) : I107_0 O Q a0 n0 c0 b2 f2 b3 f3 x8 h :=
  RKL.of (tb := lv107) (cuts := []) 500 fun _ => Eq.mp (by kernel_rfl) hh
/-! sward/swardref20.truth -/
noncomputable def b118 : Code := (Tryd.f118.body).getD .skip
def lv118 : List (Nat × List Nat) := []
def T118 (O : CallF) (Q : Value → Hp → Prop) (a0 : Option Addr) (n0 : Nat) (c0 : Nat) (x1 : Int) (h : Hp) : Prop :=
  vcond (ltI x1 0)
  (isNat (wrapF .i64 (0 - x1)) fun n1' =>
  isAddr a0 fun b2' f3' =>
  vreq (Nat.blt n1' n0)
  (∃ x4', readAt h b2' (f3' + (n1' * 1)) 1 = some [(.int .i64 x4')] ∧
  Q (.int .i64 (wrapF .i64 (0 - x4'))) h))
  (isNat x1 fun n5' =>
  isAddr a0 fun b6' f7' =>
  vreq (Nat.blt n5' n0)
  (∃ x8', readAt h b6' (f7' + (n5' * 1)) 1 = some [(.int .i64 x8')] ∧
  Q (.int .i64 x8') h))
theorem rk118 {O Q} (a0 n0 c0 x1) {h : Hp} (hO : O 118 [(.slice a0 n0 c0), (.int .i64 x1)] h = none) (hh : T118 O Q a0 n0 c0 x1 h) : Ret Tryd.prog O 118 [(.slice a0 n0 c0), (.int .i64 x1)] h Q :=
  .of (c := b118) Tryd.func118 (by kernel_rfl) hO (V_ok (tb := lv118) (cuts := []) 500 (Eq.mp (by kernel_rfl) hh))
end Go.Proofs.YtfgfhplgnfbaaaaDoor
namespace Go.Proofs.YtfgfhplgnfbaaaaDoor
open Go.Ev
def tab : List Value := [0,1,28,2,29,14,24,3,30,22,20,15,25,17,4,8,31,27,13,23,21,19,16,7,26,12,18,6,11,5,10,9].map fun x => .int .u8 x
noncomputable def h0 : Hp := { t := Tr.set (Tr.full none 64) 0 (some (.cells tab 0 .ro)), nx := 1, gd := [] }
def saysTrue (r : Option (Value × Hp)) : Bool := match r with | some (.bool b, _) => b | _ => false
theorem gsz : Tryd.prog.globals.size = 1 := by kernel_rfl
theorem mixed : Tryd.prog.follows .mixedOrders = true := by kernel_rfl
theorem noNumB : (Tryd.prog.funcs.toList.all fun fn => !(fn.name == "runtime.NumGoroutine")) = true := by kernel_rfl
theorem noNum : NoNum Tryd.prog := fun f fn hf => by
  have := List.all_eq_true.1 noNumB fn (by rw [← Array.getElem?_toList] at hf; exact List.mem_of_getElem? hf)
  simpa using this
end Go.Proofs.YtfgfhplgnfbaaaaDoor
/- Contracts of functions of layer 20: what masks hold. -/
namespace Go.Proofs.YtfgfhplgnfbaaaaDoor
open Go Go.Ev
/-- The table is there. -/
def Tb (h : Hp) : Prop := 0 < h.nx ∧ h.get 0 = some (.cells tab 0 .ro)
theorem Tb.kp {h h' : Hp} (t : Tb h) {n : Nat} (k : Kp n h h') (hn : 0 < n) : Tb h' := ⟨Nat.lt_of_lt_of_le t.1 k.nx, by rw [k.get 0 hn]; exact t.2⟩
def tabN : List Nat := [0,1,28,2,29,14,24,3,30,22,20,15,25,17,4,8,31,27,13,23,21,19,16,7,26,12,18,6,11,5,10,9]
theorem tab_eq : tab = tabN.map fun x : Nat => Value.int .u8 (Int.ofNat x) := rfl
theorem bruijn : ∀ k, k < 32 → shrF .u32 (wrapF .u32 (Int.ofNat (2 ^ k) * 125613361)) 27 = Int.ofNat ((2 ^ k * 125613361 % 4294967296) / 134217728) ∧ (2 ^ k * 125613361 % 4294967296) / 134217728 < 32 ∧ tabN[(2 ^ k * 125613361 % 4294967296) / 134217728]? = some k := by decide +kernel
theorem neg32 {u : Nat} (h : 0 < u) (h2 : u < 4294967296) : wrapF .u32 (0 - Int.ofNat u) = Int.ofNat (4294967296 - u) := by
  rw [wrapF_eq]
  unfold IntKind.wrap
  simp only [IntKind.bits, IntKind.signed, Bool.false_and, Bool.false_eq_true, if_false, Int.ofNat_eq_natCast]
  omega
theorem pred32 {u : Nat} (h : 0 < u) (h2 : u < 4294967296) : wrapF .u32 (Int.ofNat u - 1) = Int.ofNat (u - 1) := by
  rw [wrapF_eq]
  unfold IntKind.wrap
  simp only [IntKind.bits, IntKind.signed, Bool.false_and, Bool.false_eq_true, if_false, Int.ofNat_eq_natCast]
  omega
section
variable {O : CallF} (hO : Oth O)
include hO
theorem ct120 {k j : Nat} (hu : 2 ^ (k + 1) * j + 2 ^ k < 2 ^ 32) {h : Hp} (ht : Tb h) : EvT O 120 [U (2 ^ (k + 1) * j + 2 ^ k)] h (.int .i64 (Int.ofNat k)) h := by
  refine EvC.of_ret (rk120 _ (hO _ _ _ (by decide)) ?_)
  unfold T120
  have hp : 0 < 2 ^ k := Nat.pow_pos (by decide)
  have hk : k < 32 := by
    rcases Nat.lt_or_ge k 32 with h | h
    · exact h
    · have := Nat.pow_le_pow_right (show 0 < 2 by decide) h
      omega
  generalize hu' : 2 ^ (k + 1) * j + 2 ^ k = u at hu
  have hu0 : 0 < u := by omega
  rw [neg32 hu0 (by omega), land_nat, ← hu', show (4294967296 : Nat) = 2 ^ 32 from rfl, low_only k j (by omega), hu']
  obtain ⟨b1, b2, b3⟩ := bruijn k hk
  refine vcond_f (eqI_f (by simp only [Int.ofNat_eq_natCast]; omega)) (vreq_t (inD_of (by omega)) (vreq_t (inD_of (by omega)) ?_))
  rw [b1]
  refine isNat_of (vreq_t (blt_t b2) ⟨_, read1 ht.2 (v := .int .u8 (Int.ofNat k)) ?_, ?_, rfl⟩)
  · rw [tab_eq, List.getElem?_map, Nat.zero_add, Nat.mul_one, b3]; rfl
  · rw [wrap64] <;> simp only [Int.ofNat_eq_natCast] <;> omega
/-- What a variable is: 1 true, 2 false, 0 neither. -/
def ofN (y m : Nat) (v : Nat) : Int := if y.testBit v then 1 else if m.testBit v then 2 else 0
omit hO in
theorem testBit_and_pow (y v : Nat) : (y &&& 2 ^ v = 0) ↔ y.testBit v = false := by
  constructor
  · intro h
    have := congrArg (fun z => z.testBit v) h
    simpa [Nat.testBit_and, Nat.testBit_two_pow] using this
  · intro h
    refine Nat.eq_of_testBit_eq fun i => ?_
    rw [Nat.testBit_and, Nat.testBit_two_pow]
    by_cases hi : v = i
    · subst hi; simp [h]
    · simp [hi]
theorem ct81 {y m v : Nat} (hv : v < 30) (hy : y < 2 ^ 32) (hm : m < 2 ^ 32) {h : Hp} : Ret Tryd.prog O 81 [.agg #[U y, U m], .int .i64 (Int.ofNat (v + 1))] h fun r h' => r = .int .i64 (ofN y m v) ∧ Kp h.nx h h' := by
  refine rk81 _ _ _ (hO _ _ _ (by decide)) ?_
  unfold T81
  have hx : Lit (Int.ofNat (v + 1)) := ⟨by simp only [Int.ofNat_eq_natCast]; omega, by simp only [Int.ofNat_eq_natCast]; omega, by simp only [Int.ofNat_eq_natCast]; omega⟩
  have hb : bitN (Int.ofNat (v + 1)) = 2 ^ v := by
    unfold bitN
    have : (Int.ofNat (v + 1)).natAbs = v + 1 := rfl
    rw [this, Nat.add_sub_cancel]
  have hb2 : 2 ^ v < 4294967296 := by
    have : 2 ^ v < 2 ^ 32 := Nat.pow_lt_pow_right (by decide) (by omega)
    omega
  have k0 : Kp h.nx h (h.add (.cells [U y, U m] 102 .fix)) := (Kp.refl _ _).add (Nat.le_refl _) _
  have g1 : (h.add (.cells [U y, U m] 102 .fix)).get h.nx = some (.cells [U y, U m] 102 .fix) := get_add_same ..
  refine ⟨_, _, bit_ct hO hx _, ?_⟩
  rw [hb]
  refine ⟨_, read1 g1 rfl, vreq_t (inD_of (by omega)) (vreq_t (inD_of hb2) ?_)⟩
  have hz : ∀ a : Nat, eqI (landI (Int.ofNat a) (Int.ofNat (2 ^ v))) 0 = !(a.testBit v) := fun a => by
    rw [land_nat, eqI_eq]
    have := testBit_and_pow a v
    cases ht : a.testBit v with
    | false => rw [this.2 ht]; rfl
    | true =>
      have : ¬ (a &&& 2 ^ v = 0) := fun hh => by rw [this.1 hh] at ht; cases ht
      show ((((a &&& 2 ^ v : Nat) : Int)) == 0) = false
      simpa using this
  rw [hz]
  unfold ofN
  refine vcond_split (fun h1 => ?_) fun h1 => ?_
  · rw [if_pos (by simpa using h1)]; exact ⟨rfl, k0⟩
  · rw [if_neg (by simpa using h1)]
    refine ⟨_, read1 g1 rfl, vreq_t (inD_of (by omega)) (vreq_t (inD_of hb2) ?_)⟩
    rw [hz]
    refine vcond_split (fun h2 => ?_) fun h2 => ?_
    · rw [if_pos (by simpa using h2)]; exact ⟨rfl, k0⟩
    · rw [if_neg (by simpa using h2)]; exact ⟨rfl, k0⟩
/-- The literals of masks, their variables increasing. -/
def litOf (y m : Nat) (v : Nat) : Int := if ofN y m v = 2 then -(v + 1 : Nat) else (v + 1 : Nat)
def litsN (y m : Nat) : List Int := (digits 30 (y ||| m)).map (litOf y m)
theorem lp90 {y m : Nat} (hy : y < 2 ^ 30) (hm : m < 2 ^ 30) {b base : Nat} {Q : Value → Hp → Prop} : ∀ (f u : Nat), (digits 30 u).length ≤ f → u < 2 ^ 30 → ∀ {h : Hp} {a : Option Addr} {n c : Nat} {xs : List Int}, Tb h → b < h.nx → h.get b = some (.cells [U y, U m] 102 .fix) → AccI 3 h base a n c xs → base ≤ h.nx → 0 < base → b < base → GdLt h base → xs.length + f ≤ 1000 →
    (∀ a' n' c' h', AccI 3 h' base a' n' c' (xs ++ (digits 30 u).map (litOf y m)) → Kp base h h' → Q (.slice a' n' c') h') → I90_0 O Q (Int.ofNat y) (Int.ofNat m) b 0 a n c (Int.ofNat u) h := by
  intro f
  induction f with
  | zero =>
    intro u hf hu h a n c xs ht hb hg H hbase h0 hbb hgd hl hQ
    refine I90_0.of _ _ _ _ _ _ _ _ ?_
    intros
    unfold T90_0
    have hu0 : u = 0 := by
      rcases Nat.eq_zero_or_pos u with h | h
      · exact h
      · obtain ⟨k, j, rfl⟩ := low_split u h
        have hk : k < 30 := by
          rcases Nat.lt_or_ge k 30 with h | h
          · exact h
          · have := Nat.pow_le_pow_right (show 0 < 2 by decide) h
            omega
        rw [digits_step hk] at hf
        simp at hf
    subst hu0
    refine vcond_f rfl ?_
    have := hQ a n c h (by rw [digits_zero]; simpa using H) (.refl _ _)
    exact this
  | succ f ih =>
    intro u hf hu h a n c xs ht hb hg H hbase h0 hbb hgd hl hQ
    refine I90_0.of _ _ _ _ _ _ _ _ ?_
    intros
    unfold T90_0
    rcases Nat.eq_zero_or_pos u with hu0 | hu0
    · subst hu0
      refine vcond_f rfl ?_
      have := hQ a n c h (by rw [digits_zero]; simpa using H) (.refl _ _)
      exact this
    · obtain ⟨k, j, rfl⟩ := low_split u hu0
      have hk : k < 30 := by
        rcases Nat.lt_or_ge k 30 with h | h
        · exact h
        · have := Nat.pow_le_pow_right (show 0 < 2 by decide) h
          omega
      rw [digits_step hk] at hf hQ
      have hp : 0 < 2 ^ k := Nat.pow_pos (by decide)
      refine vcond_t (by rw [eqI_f (by simp only [Int.ofNat_eq_natCast]; omega)]; rfl) ⟨_, _, ct120 hO (by omega) ht, _, _, readAt_get hg (by simp), ?_⟩
      rw [wrap_succ (by omega)]
      obtain ⟨v, h1, e1, rfl, kp1⟩ := ct81 hO (y := y) (m := m) (v := k) hk (by omega) (by omega) (h := h)
      refine ⟨_, _, e1, ?_⟩
      have H1 : AccI 3 h1 base a n c xs := H.kp kp1 (Nat.le_refl _)
      have go : ∀ x, x = litOf y m k → ∃ a' n' c' h', appendV Tryd.prog (h1.add (.cells [.int .i64 x] 3 .fix)) 32 32 (.slice a n c) (.slice (some ⟨h1.nx, 0, none⟩) 1 1) = some (.slice a' n' c', h') ∧
          vreq (inD 4294967296 (Int.ofNat (2 ^ (k + 1) * j + 2 ^ k))) (vreq (inD 4294967296 (wrapF .u32 (Int.ofNat (2 ^ (k + 1) * j + 2 ^ k) - 1))) (I90_0 O Q (Int.ofNat y) (Int.ofNat m) b 0 a' n' c' (landI (Int.ofNat (2 ^ (k + 1) * j + 2 ^ k)) (wrapF .u32 (Int.ofNat (2 ^ (k + 1) * j + 2 ^ k) - 1))) h')) := by
        rintro x rfl
        obtain ⟨a', n', c', h', e2, H2, k2⟩ := app_int app32 H1 (Nat.le_trans hbase kp1.nx) (hgd.kp kp1) (by omega) (litOf y m k)
        refine ⟨a', n', c', h', e2, ?_⟩
        rw [pred32 (by omega) (by omega), land_nat, low_clear]
        refine vreq_t (inD_of (by omega)) (vreq_t (inD_of (by omega)) ?_)
        have kp2 : Kp base h h' := (kp1.le hbase).trans (k2.kp H1 (Nat.le_trans hbase kp1.nx))
        refine ih _ (by simpa using hf) (by omega) (ht.kp kp2 h0) (Nat.lt_of_lt_of_le hb kp2.nx) (by rw [kp2.get b hbb]; exact hg) H2 (Nat.le_trans hbase kp2.nx) h0 hbb (hgd.kp kp2) (by simp; omega) fun a3 n3 c3 h3 A K => hQ a3 n3 c3 h3 (by simpa using A) (kp2.trans K)
      refine vcond_split (fun hc => ?_) fun hc => ?_
      · have hc := eq_of_t hc
        have e : wrapF .i64 (0 - Int.ofNat (k + 1)) = litOf y m k := by
          rw [wrap64 (by simp only [Int.ofNat_eq_natCast]; omega) (by simp only [Int.ofNat_eq_natCast]; omega)]
          unfold litOf
          rw [if_pos hc]
          simp only [Int.ofNat_eq_natCast]; omega
        obtain ⟨a', n', c', h', e2, hr⟩ := go _ e
        refine ⟨a', n', c', h', e2, ?_⟩
        obtain ⟨q1, hr⟩ := vreq_iff hr
        obtain ⟨q2, hr⟩ := vreq_iff hr
        exact vreq_t q1 (vreq_t q2 (hr ..))
      · have hc := ne_of_f hc
        have e : Int.ofNat (k + 1) = litOf y m k := by
          unfold litOf
          rw [if_neg hc]; rfl
        obtain ⟨a', n', c', h', e2, hr⟩ := go _ e
        refine ⟨a', n', c', h', e2, ?_⟩
        obtain ⟨q1, hr⟩ := vreq_iff hr
        obtain ⟨q2, hr⟩ := vreq_iff hr
        exact vreq_t q1 (vreq_t q2 (hr ..))
/-- What a call leaves: a list, and all memory as it was but for what is new. -/
def RInts (h : Hp) (xs : List Int) (v : Value) (h' : Hp) : Prop := ∃ a n c, v = .slice a n c ∧ IntsAt h' a n xs ∧ Kp h.nx h h' ∧ ∀ b off, a = some ⟨b, off, none⟩ → h.nx ≤ b
theorem ct90 {y m : Nat} (hy : y < 2 ^ 30) (hm : m < 2 ^ 30) {h : Hp} (hk : h.Ok) (ht : Tb h) : Ret Tryd.prog O 90 [.agg #[U y, U m]] h (RInts h (litsN y m)) := by
  refine rk90 _ _ (hO _ _ _ (by decide)) ?_
  unfold T90
  have g1 : (h.add (.cells [U y, U m] 102 .fix)).get h.nx = some (.cells [U y, U m] 102 .fix) := get_add_same ..
  have k0 : Kp h.nx h (h.add (.cells [U y, U m] 102 .fix)) := (Kp.refl _ _).add (Nat.le_refl _) _
  have hor : y ||| m < 2 ^ 30 := Nat.or_lt_two_pow hy hm
  refine ⟨_, read1 g1 rfl, _, read1 g1 rfl, vreq_t (inD_of (by omega)) (vreq_t (inD_of (by omega)) ?_)⟩
  rw [lor_nat]
  refine lp90 hO hy hm (base := h.nx + 1) (xs := []) 30 _ ?_ hor (ht.kp k0 ht.1) (by rw [nx_add]; omega) g1 (AccI.nil ..) (by rw [nx_add]; omega) (by omega) (by omega) (fun q hq => by have := hk.gd q hq; omega) (by simp) (fun a' n' c' h' A K => ⟨a', n', c', rfl, by have := A.ints; rwa [List.nil_append] at this, k0.trans (K.le (by omega)), fun b off e => by have := Acc.fresh A e; omega⟩) ..
  unfold digits
  exact Nat.le_trans (List.length_filter_le _ _) (by simp)
end
end Go.Proofs.YtfgfhplgnfbaaaaDoor
/- Contracts of functions of layer 20: lists one behind the other; resolution. -/
namespace Go.Proofs.YtfgfhplgnfbaaaaDoor
open Go Go.Ev
/-- A list that grows into room that was made for it. -/
def AccZ (h : Hp) (base : Nat) (a : Option Addr) (n c : Nat) (xs : List Int) (m : Nat) : Prop :=
  (a = none ∧ n = 0 ∧ c = 0 ∧ xs = [] ∧ m = 0) ∨ ∃ o zs, a = some ⟨o, 0, none⟩ ∧ c = unk ∧ n = xs.length ∧ base ≤ o ∧ o < h.nx ∧ h.get o = some (.cells (xs.map (Value.int .i64) ++ zs) 3 .grow) ∧ zs.length = m
theorem AccZ.ints {h : Hp} {base : Nat} {a : Option Addr} {n c m : Nat} {xs : List Int} (H : AccZ h base a n c xs m) : IntsAt h a n xs := by
  rcases H with ⟨rfl, rfl, rfl, rfl, _⟩ | ⟨o, zs, rfl, rfl, rfl, h3, h4, h5, h6⟩
  · exact SlAt.nil ..
  · refine ⟨rfl, .inr ⟨o, 0, _, _, _, rfl, h4, h5, by simp, fun i hi => ?_⟩⟩
    show ((xs.map (Value.int .i64) ++ zs).drop (0 + i * 1)).take 1 = [.int .i64 xs[i]]
    rw [Nat.zero_add, Nat.mul_one, List.drop_append_of_le_length (by simp; omega), List.drop_eq_getElem_cons (by simpa using hi)]
    simp
theorem AccZ.fresh {h : Hp} {base : Nat} {a : Option Addr} {n c m : Nat} {xs : List Int} (H : AccZ h base a n c xs m) {b off : Nat} (ha : a = some ⟨b, off, none⟩) : base ≤ b := by
  rcases H with ⟨rfl, _⟩ | ⟨o, zs, rfl, rfl, rfl, h3, h4, h5, h6⟩
  · cases ha
  · injection ha with ha; injection ha with ha _; omega
theorem ints_src {h : Hp} {a2 : Option Addr} {n2 c2 : Nat} {ys : List Int} (Y : IntsAt h a2 n2 ys) : srcCells h 1 (.slice a2 n2 c2) = some (ys.map (Value.int .i64), n2) := by
  have hn2 := Y.1
  rcases Y.2 with ⟨rfl, rfl⟩ | ⟨b, off, cs, e', m, rfl, h2, h3, h4, h5⟩
  · subst hn2; rfl
  · refine src_get ?_
    rw [Nat.mul_one, readAt_get h3 (by omega)]
    congr 1
    refine List.ext_getElem (by simp; omega) fun i hi hi' => ?_
    have hi2 : i < ys.length := by simpa using hi'
    have h7 : (cs.drop (off + i * 1)).take 1 = [.int .i64 ys[i]] := h5 i hi2
    rw [Nat.mul_one, List.drop_eq_getElem_cons (show off + i < cs.length by omega)] at h7
    simp only [List.take_succ_cons, List.take_zero, List.cons.injEq, and_true] at h7
    simp [h7]
section
variable {O : CallF} (hO : Oth O)
include hO
theorem sl_none {h : Hp} : sliceV Tryd.prog h 32 (.slice none 0 0) none (some (.int .i64 (Int.ofNat 0))) none = some (.slice none 0 0) := by
  have _ := hO
  unfold sliceV
  rw [Tryd.underlying32]
  have : sz Tryd.prog 3 = some 1 := by kernel_rfl
  simp only [this, bind, Option.bind_some]
  rfl
end
end Go.Proofs.YtfgfhplgnfbaaaaDoor
/- Contracts of functions of layer 20: formulas, as clauses' sides. -/
namespace Go.Proofs.YtfgfhplgnfbaaaaDoor
open Go Go.Ev
/-- A clause's sides. -/
def sideF : List Int → Nat → Nat → Nat × Nat
  | [], y, m => (y, m)
  | x :: xs, y, m => sideF xs (withN y m x).1 (withN y m x).2
def sideN (xs : List Int) : Nat × Nat := sideF xs 0 0
theorem sideF_lt : ∀ {xs : List Int} {y m : Nat}, (∀ x ∈ xs, Lit x) → y < 2 ^ 30 → m < 2 ^ 30 → (sideF xs y m).1 < 2 ^ 30 ∧ (sideF xs y m).2 < 2 ^ 30 := by
  intro xs
  induction xs with
  | nil => intro y m _ hy hm; exact ⟨hy, hm⟩
  | cons x xs ih =>
    intro y m hl hy hm
    have hx := hl x (List.mem_cons_self ..)
    have hb := bitN_lt hx
    refine ih (fun z hz => hl z (List.mem_cons_of_mem _ hz)) ?_ ?_
    · unfold withN; split
      · exact Nat.or_lt_two_pow hy hb
      · exact hy
    · unfold withN; split
      · exact hm
      · exact Nat.or_lt_two_pow hm hb
theorem SlAt.below {α : Type} {w : Nat} {R : Enc α} {h : Hp} {a : Option Addr} {n : Nat} {xs : List α} (H : SlAt w R h a n xs) : ∀ b off, a = some ⟨b, off, none⟩ → b < h.nx := by
  intro b off e
  rcases H.2 with ⟨_, h0⟩ | ⟨b', off', _, _, _, h0, h2, _⟩
  · rw [h0] at e; cases e
  · rw [h0] at e; injection e with e; injection e with e _; omega
section
variable {O : CallF} (hO : Oth O)
include hO
theorem lp107 {a : Option Addr} {n c : Nat} {xs : List Int} (hx : ∀ x ∈ xs, Lit x) (hl : xs.length < 1000000) {h₀ : Hp} (ok : h₀.Ok) (H : IntsAt h₀ a n xs) {r : Nat × Nat} :
    ∀ (d k : Nat), k + d = xs.length → ∀ (y m : Nat) {h : Hp}, y < 2 ^ 30 → m < 2 ^ 30 → Kp h₀.nx h₀ h → h₀.nx + 2 ≤ h.nx → h.get h₀.nx = some (.cells [U 0, U 0] 130 .fix) → h.get (h₀.nx + 1) = some (.cells [U y, U m] 130 .fix) → r = sideF (xs.drop k) y m →
      I107_0 O (fun v h' => v = .agg #[U r.1, U r.2] ∧ Kp h₀.nx h₀ h') a n c h₀.nx 0 (h₀.nx + 1) 0 (Int.ofNat k) h := by
  have hn := H.1
  intro d
  induction d with
  | zero =>
    intro k hk y m h hy hm kp hnx g2 g3 hr
    refine I107_0.of _ _ _ _ _ _ _ _ ?_
    intros
    unfold T107_0
    refine vcond_f (by rw [ltI_nat]; exact blt_f (by omega)) ?_
    rw [List.drop_of_length_le (by omega)] at hr
    subst hr
    have gu : h.guarded h₀.nx = false := guarded_of fun q hq => by rw [kp.gd] at hq; have := ok.gd q hq; omega
    refine ⟨_, _, readAt_get g3 (by simp), vreq_t (canW_t g2 (by decide) gu (by simp) rfl) ⟨_, _, readAt_get (wr_get g2 (by decide) gu (by simp) rfl) (by simp [putAt]), rfl, kp.wr (Nat.le_refl _) _ _⟩⟩
  | succ d ih =>
    intro k hk y m h hy hm kp hnx g2 g3 hr
    refine I107_0.of _ _ _ _ _ _ _ _ ?_
    intros
    unfold T107_0
    have e1 : xs.drop k = xs[k] :: xs.drop (k + 1) := List.drop_eq_getElem_cons (by omega)
    rw [e1] at hr
    simp only [sideF] at hr
    have hlit := hx xs[k] (List.getElem_mem _)
    have H1 : IntsAt h a n xs := H.up EInt.up kp
    refine vcond_t (by rw [ltI_nat]; exact blt_t (by omega)) (isNat_of (H1.get (k := k) (by omega) fun b off h1 h2 hrd => vreq_t (blt_t (by omega)) ⟨_, hrd, ?_⟩))
    have g3' : (h.rsv 7).get (h₀.nx + 1) = _ := g3
    have gu : (h.rsv 7).guarded (h₀.nx + 1) = false := guarded_of fun q hq => by
      have : q ∈ h₀.gd := by rw [← kp.gd]; exact hq
      have := ok.gd q this; omega
    have es : (((h.rsv 7).grd [h₀.nx + 1]).rst (h.rsv 7)).grd [] = h.rsv 7 := rfl
    have es2 : ((h.rsv 7).grd [h₀.nx + 1]).rst (h.rsv 7) = h.rsv 7 := rfl
    have hb := bitN_lt hlit
    have k7 : Kp h₀.nx h₀ (h.rsv 7) := kp.rsv 7
    have go : ∀ (y' m' off : Nat) (z : Nat), y' < 2 ^ 30 → m' < 2 ^ 30 → off < 2 → putAt [U y, U m] off [U z] = [U y', U m'] → r = sideF (xs.drop (k + 1)) y' m' →
        I107_0 O (fun v h' => v = .agg #[U r.1, U r.2] ∧ Kp h₀.nx h₀ h') a n c h₀.nx 0 (h₀.nx + 1) 0 (Int.ofNat (k + 1)) (((h.rsv 7).wr (h₀.nx + 1) off [U z]).rst (h.rsv 7)) := by
      intro y' m' off z hy' hm' hoff hput hr'
      refine ih (k + 1) (by omega) y' m' hy' hm' ?_ (by rw [nx_rst, nx_wr, nx_rsv]; omega) ?_ ?_ hr'
      · exact k7.rst (g := []) (show Kp h₀.nx ((h.rsv 7).grd []) ((h.rsv 7).wr (h₀.nx + 1) off [U z]) from (Kp.refl h₀.nx (h.rsv 7)).wr (by omega) off [U z])
      · rw [get_rst, wr_get_ne _ _ _ _ (by omega)]; exact g2
      · rw [get_rst, wr_get g3' (by decide) gu (by simp; omega) rfl, hput]
    refine vcond_split (fun h3 => ?_) fun h3 => ?_
    · have e2 : withN y m xs[k] = (y ||| bitN xs[k], m) := if_pos (lt_of_t h3)
      rw [e2] at hr
      refine ⟨_, read1 g3' (i := 0 + 0) rfl, _, _, bit_ct hO hlit _, vreq_t (inD_of (by omega)) (vreq_t (inD_of (by omega)) ?_)⟩
      rw [es, es2, lor_nat, wrap_succ (by omega)]
      exact vreq_t (canW_t g3' (by decide) gu (by simp) rfl) (go (y ||| bitN xs[k]) m 0 _ (Nat.or_lt_two_pow hy hb) hm (by decide) rfl hr ..)
    · have e2 : withN y m xs[k] = (y, m ||| bitN xs[k]) := if_neg (not_lt_of_f h3)
      rw [e2] at hr
      refine ⟨_, read1 g3' (i := 0 + 1) rfl, _, _, bit_ct hO hlit _, vreq_t (inD_of (by omega)) (vreq_t (inD_of (by omega)) ?_)⟩
      rw [es, es2, lor_nat, wrap_succ (by omega)]
      exact vreq_t (canW_t g3' (by decide) gu (by simp) rfl) (go y (m ||| bitN xs[k]) 1 _ hy (Nat.or_lt_two_pow hm hb) (by decide) rfl hr ..)
theorem ct107 {a : Option Addr} {n c : Nat} {xs : List Int} (hx : ∀ x ∈ xs, Lit x) (hl : xs.length < 1000000) {h : Hp} (ok : h.Ok) (H : IntsAt h a n xs) :
    Ret Tryd.prog O 107 [.slice a n c] h fun v h' => v = .agg #[U (sideN xs).1, U (sideN xs).2] ∧ Kp h.nx h h' := by
  refine rk107 _ _ _ (hO _ _ _ (by decide)) ?_
  unfold T107
  have k1 : Kp h.nx h (h.add (.cells [U 0, U 0] 130 .fix)) := (Kp.refl _ _).add (Nat.le_refl _) _
  exact lp107 hO hx hl ok H xs.length 0 (by omega) 0 0 (by decide) (by decide) (k1.add (by rw [nx_add]; omega) _) (Nat.le_refl _) (by rw [get_add_ne (by rw [nx_add]; omega), get_add_same]; rfl) (get_add_same ..) rfl ..
end
end Go.Proofs.YtfgfhplgnfbaaaaDoor
/- Contracts of functions of layer 20: formulas are checked. -/
namespace Go.Proofs.YtfgfhplgnfbaaaaDoor
open Go Go.Ev
/-- A formula is as defined. -/
def formB (vars : Int) (cls : List (List Int)) : Bool := !(decide (vars < 0)) && !(decide (30 < vars)) && !(decide (120 < cls.length)) && cls.all (clB vars 0)
/-- Lists are many more, or longer, than they may be. -/
def greatB (cls : List (List Int)) : Bool := decide (150 < cls.length) || cls.any fun l => decide (40 < l.length)
abbrev Fm (vars : Int) (a : Option Addr) (n c : Nat) : Value := .agg #[.int .i64 vars, .slice a n c]
section
variable {O : CallF} (hO : Oth O)
include hO
theorem lp43 {a : Option Addr} {n c : Nat} {h : Hp} {cls : List (List Int)} (H : IntssAt h a n cls) (hl : cls.length < 1000000) {Q : Value → Hp → Prop} :
    ∀ (d k : Nat), k + d = cls.length → ∀ (q : Bool), Q (.bool ((cls.drop k).any fun l => decide (40 < l.length))) h → I43_0 O Q a n c q (Int.ofNat k) h := by
  have _ := hO
  have hn := H.1
  intro d
  induction d with
  | zero =>
    intro k hk q hQ
    refine I43_0.of _ _ _ _ _ ?_
    intros
    unfold T43_0
    refine vcond_f (by rw [ltI_nat]; exact blt_f (by omega)) ?_
    rw [List.drop_of_length_le (by omega)] at hQ
    exact hQ
  | succ d ih =>
    intro k hk q hQ
    refine I43_0.of _ _ _ _ _ ?_
    intros
    unfold T43_0
    refine vcond_t (by rw [ltI_nat]; exact blt_t (by omega)) (isNat_of (H.get (k := k) (by omega) fun b off a' n' c' h1 h2 hr Y => vreq_t (blt_t (by omega)) ⟨_, _, _, hr, ?_⟩))
    have hY := Y.1
    have e1 : cls.drop k = cls[k] :: cls.drop (k + 1) := List.drop_eq_getElem_cons (by omega)
    rw [e1, List.any_cons] at hQ
    refine vcond_split (fun h3 => ?_) fun h3 => ?_
    · have h3 : (40 : Int) < (n' : Int) := lt_of_t h3
      rw [decide_eq_true (by omega), Bool.true_or] at hQ; exact hQ
    · have h3 : ¬ (40 : Int) < (n' : Int) := not_lt_of_f h3
      rw [decide_eq_false (by omega), Bool.false_or] at hQ
      rw [wrap_succ (by omega)]
      exact ih (k + 1) (by omega) _ hQ ..
theorem ct43 {a : Option Addr} {n c : Nat} {h : Hp} {cls : List (List Int)} (H : IntssAt h a n cls) : EvT O 43 [.slice a n c] h (.bool (greatB cls)) h := by
  refine EvC.of_ret (rk43 _ _ _ (hO _ _ _ (by decide)) ?_)
  unfold T43 greatB
  have hn := H.1
  refine vcond_split (fun h1 => ?_) fun h1 => ?_
  · have h1 : (150 : Int) < (n : Int) := lt_of_t h1
    rw [decide_eq_true (by omega), Bool.true_or]; exact ⟨rfl, rfl⟩
  · have h1 : ¬ (150 : Int) < (n : Int) := not_lt_of_f h1
    rw [decide_eq_false (by omega), Bool.false_or]
    exact lp43 hO H (by omega) cls.length 0 (by omega) false ⟨rfl, rfl⟩ ..
omit hO in
/-- A formula's place, when it was laid. -/
theorem fm_get (h : Hp) (vars : Int) (a : Option Addr) (n c : Nat) : (h.add (.cells [.int .i64 vars, .slice a n c] 30 .fix)).get h.nx = some (.cells [.int .i64 vars, .slice a n c] 30 .fix) := get_add_same ..
omit hO in
theorem fm_kp (h : Hp) (vars : Int) (a : Option Addr) (n c : Nat) : Kp h.nx h (h.add (.cells [.int .i64 vars, .slice a n c] 30 .fix)) := (Kp.refl _ _).add (Nat.le_refl _) _
theorem ct28 {a a1 : Option Addr} {n c n1 c1 : Nat} {vars : Int} {h : Hp} {cls : List (List Int)} (H : IntssAt h a n cls) : Ret Tryd.prog O 28 [Fm vars a n c, .slice a1 n1 c1] h fun v h' => v = .bool (greatB cls || decide (40 < n1)) ∧ Kp h.nx h h' := by
  refine rk28 _ _ _ _ _ _ _ (hO _ _ _ (by decide)) ?_
  unfold T28
  refine ⟨_, _, _, read1 (fm_get ..) rfl, _, _, ct43 hO (H.up EInts.up (fm_kp ..)), vcond_split (fun h1 => ?_) fun h1 => ?_⟩
  · rw [h1, Bool.true_or]; exact ⟨rfl, fm_kp ..⟩
  · rw [h1, Bool.false_or]
    refine ⟨?_, fm_kp ..⟩
    congr 1
    rw [ltI_eq]
    refine decide_eq_decide.2 ?_
    show (40 : Int) < (n1 : Int) ↔ _
    omega
theorem lp31 {a a1 : Option Addr} {n c n1 c1 : Nat} {vars w : Int} {h : Hp} {b : Nat} {cls : List (List Int)} (H : IntssAt h a n cls) (hl : cls.length < 1000000) (hll : ∀ l ∈ cls, l.length < 1000000) (hb : h.get b = some (.cells [.int .i64 vars, .slice a1 n1 c1] 30 .fix)) {Q : Value → Hp → Prop} {x0 : Int} {a0 : Option Addr} {n0 c0 : Nat} :
    ∀ (d k : Nat), k + d = cls.length → Q (.int .i64 (if (cls.drop k).all (clB vars 0) = true then 0 else 2)) h → I31_0 O Q x0 a0 n0 c0 b 0 w a n c (Int.ofNat n) (Int.ofNat k) h := by
  have hn := H.1
  intro d
  induction d with
  | zero =>
    intro k hk hQ
    refine I31_0.of _ _ _ _ _ _ _ _ _ _ _ _ ?_
    intros
    unfold T31_0
    refine vcond_f (by rw [ltI_nat]; exact blt_f (by omega)) ?_
    rw [List.drop_of_length_le (by omega)] at hQ
    exact hQ
  | succ d ih =>
    intro k hk hQ
    refine I31_0.of _ _ _ _ _ _ _ _ _ _ _ _ ?_
    intros
    unfold T31_0
    refine vcond_t (by rw [ltI_nat]; exact blt_t (by omega)) (isNat_of (H.get (k := k) (by omega) fun b off a' n' c' h1 h2 hr Y => vreq_t (blt_t (by omega)) ⟨_, _, _, hr, _, read1 hb (i := 0 + 0) rfl, _, _, ct87 hO vars Y (hll _ (List.getElem_mem _)), ?_⟩))
    have e1 : cls.drop k = cls[k] :: cls.drop (k + 1) := List.drop_eq_getElem_cons (by omega)
    rw [e1, List.all_cons] at hQ
    refine vcond_split (fun h3 => ?_) fun h3 => ?_
    · have h3 : clB vars 0 cls[k] = false := by simpa using h3
      rw [h3, Bool.false_and] at hQ; exact hQ
    · have h3 : clB vars 0 cls[k] = true := by simpa using h3
      rw [h3, Bool.true_and] at hQ
      rw [wrap_succ (by omega)]
      exact ih (k + 1) (by omega) hQ ..
theorem ct31 {a : Option Addr} {n c : Nat} {vars : Int} {h : Hp} {cls : List (List Int)} (H : IntssAt h a n cls) (hl : cls.length < 1000000) (hll : ∀ l ∈ cls, l.length < 1000000) : Ret Tryd.prog O 31 [Fm vars a n c] h fun v h' => v = .int .i64 (if formB vars cls = true then 0 else 2) ∧ Kp h.nx h h' := by
  refine rk31 _ _ _ _ (hO _ _ _ (by decide)) ?_
  unfold T31 formB
  have hn := H.1
  have g := fm_get h vars a n c
  have kp := fm_kp h vars a n c
  refine ⟨_, read1 g rfl, vcond_split (fun h1 => ?_) fun h1 => ⟨_, read1 g rfl, vcond_split (fun h2 => ?_) fun h2 => ⟨_, _, _, read1 g rfl, vcond_split (fun h3 => ?_) fun h3 => ⟨_, _, _, read1 g rfl, ?_⟩⟩⟩⟩
  · rw [decide_eq_true (lt_of_t h1)]; exact ⟨rfl, kp⟩
  · rw [decide_eq_true (lt_of_t h2)]; refine ⟨?_, kp⟩; simp
  · have h3 : (120 : Int) < (n : Int) := lt_of_t h3
    rw [decide_eq_true (show 120 < cls.length by omega)]; refine ⟨?_, kp⟩; simp
  · have h3 : ¬ (120 : Int) < (n : Int) := not_lt_of_f h3
    rw [decide_eq_false (not_lt_of_f h1), decide_eq_false (not_lt_of_f h2), decide_eq_false (show ¬ 120 < cls.length by omega)]
    refine lp31 hO (H.up EInts.up kp) hl hll g cls.length 0 (by omega) ⟨?_, kp⟩ ..
    simp
theorem lp85 {a : Option Addr} {n c : Nat} {vars : Int} {b : Nat} {h₀ : Hp} {cls : List (List Int)} (H : IntssAt h₀ a n cls) (hl : cls.length < 1000000) (hll : ∀ l ∈ cls, l.length < 1000000) {x0 : Int} {a0 : Option Addr} {n0 c0 : Nat} {r : Bool} :
    ∀ (d k : Nat), k + d = cls.length → ∀ (q : Bool) {h : Hp}, Kp h₀.nx h₀ h → h.get b = some (.cells [.int .i64 vars, .slice a n c] 30 .fix) → b < h.nx → r = (cls.drop k).all (clB vars 0) →
      I85_0 O (fun v h' => v = .bool r ∧ Kp h₀.nx h₀ h') x0 a0 n0 c0 b 0 q (Int.ofNat k) h := by
  have hn := H.1
  intro d
  induction d with
  | zero =>
    intro k hk q h kp hb hb2 hr
    refine I85_0.of _ _ _ _ _ _ _ _ ?_
    intros
    unfold T85_0
    refine ⟨_, _, _, read1 hb (i := 0 + 1) rfl, vcond_f (by rw [ltI_nat]; exact blt_f (by omega)) ?_⟩
    rw [List.drop_of_length_le (by omega)] at hr
    subst hr
    exact ⟨rfl, kp⟩
  | succ d ih =>
    intro k hk q h kp hb hb2 hr
    refine I85_0.of _ _ _ _ _ _ _ _ ?_
    intros
    unfold T85_0
    have k9 : Kp h₀.nx h₀ (h.rsv 9) := kp.rsv 9
    have hb9 : (h.rsv 9).get b = _ := hb
    have H9 : IntssAt (h.rsv 9) a n cls := H.up EInts.up k9
    refine ⟨_, _, _, read1 hb (i := 0 + 1) rfl, vcond_t (by rw [ltI_nat]; exact blt_t (by omega)) ⟨_, _, _, read1 hb9 (i := 0 + 1) rfl, isNat_of (H9.get (k := k) (by omega) fun b' off a' n' c' h1 h2 hrd Y => vreq_t (blt_t (by omega)) ⟨_, _, _, hrd, _, read1 hb9 (i := 0 + 0) rfl, _, _, ct105 hO vars (h := (h.rsv 9).grd []) Y (hll _ (List.getElem_mem _)), ?_⟩)⟩⟩
    have es : ((h.rsv 9).grd []).rst (h.rsv 9) = h.rsv 9 := rfl
    rw [es]
    have e1 : cls.drop k = cls[k] :: cls.drop (k + 1) := List.drop_eq_getElem_cons (by omega)
    rw [e1, List.all_cons] at hr
    refine vcond_split (fun h3 => ?_) fun h3 => ?_
    · have h3 : clB vars 0 cls[k] = false := by simpa using h3
      rw [h3, Bool.false_and] at hr; subst hr; exact ⟨rfl, k9⟩
    · have h3 : clB vars 0 cls[k] = true := by simpa using h3
      rw [h3, Bool.true_and] at hr
      rw [wrap_succ (by omega)]
      exact ih (k + 1) (by omega) _ k9 hb9 (by rw [nx_rsv]; omega) hr ..
theorem ct85 {a : Option Addr} {n c : Nat} {vars : Int} {h : Hp} {cls : List (List Int)} (H : IntssAt h a n cls) (hl : cls.length < 1000000) (hll : ∀ l ∈ cls, l.length < 1000000) : Ret Tryd.prog O 85 [Fm vars a n c] h fun v h' => v = .bool (formB vars cls) ∧ Kp h.nx h h' := by
  refine rk85 _ _ _ _ (hO _ _ _ (by decide)) ?_
  unfold T85 formB
  have hn := H.1
  have g := fm_get h vars a n c
  have kp := fm_kp h vars a n c
  refine ⟨_, read1 g rfl, vcond_split (fun h1 => ?_) fun h1 => ⟨_, read1 g rfl, vcond_split (fun h2 => ?_) fun h2 => ⟨_, _, _, read1 g rfl, vcond_split (fun h3 => ?_) fun h3 => ?_⟩⟩⟩
  · rw [decide_eq_true (lt_of_t h1)]; exact ⟨rfl, kp⟩
  · rw [decide_eq_true (lt_of_t h2)]; refine ⟨?_, kp⟩; simp
  · have h3 : (120 : Int) < (n : Int) := lt_of_t h3
    rw [decide_eq_true (show 120 < cls.length by omega)]; refine ⟨?_, kp⟩; simp
  · have h3 : ¬ (120 : Int) < (n : Int) := not_lt_of_f h3
    rw [decide_eq_false (not_lt_of_f h1), decide_eq_false (not_lt_of_f h2), decide_eq_false (show ¬ 120 < cls.length by omega)]
    refine lp85 hO H hl hll cls.length 0 (by omega) false kp g (by rw [nx_add]; omega) ?_ ..
    simp
end
end Go.Proofs.YtfgfhplgnfbaaaaDoor
/- Contracts of functions of layer 20: the base of a formula. -/
namespace Go.Proofs.YtfgfhplgnfbaaaaDoor
open Go Go.Ev
def uu (p : Nat × Nat) : List Value := [U p.1, U p.2]
theorem uu_len (p : Nat × Nat) : (uu p).length = 2 := rfl
theorem uu_one (p : Nat × Nat) : (uu p).all one = true := rfl
abbrev SidesAt2 := SlAt 2 (ECells uu)
/-- The cells of a base. -/
def baseC (vars : Int) (a : Option Addr) (n c : Nat) (a1 : Option Addr) (n1 c1 : Nat) (left : Int) (a2 : Option Addr) (n2 c2 : Nat) : List Value := [.int .i64 vars, .slice a n c, .slice a1 n1 c1, .int .i64 left, .slice a2 n2 c2]
section
variable {O : CallF} (hO : Oth O)
include hO
theorem lp76 {a a1 : Option Addr} {n c n1 c1 : Nat} {vars : Int} {h₀ : Hp} {cls : List (List Int)} (ok : h₀.Ok) (H : IntssAt h₀ a n cls) (hl : cls.length < 10000) (hll : ∀ l ∈ cls, l.length < 1000000) (hlit : ∀ l ∈ cls, ∀ x ∈ l, Lit x) {x0 : Int} {a0 : Option Addr} {n0 c0 : Nat} :
    ∀ (d k : Nat), k + d = cls.length → ∀ {h : Hp} {a6 : Option Addr} {n6 c6 : Nat}, Kp h₀.nx h₀ h → h₀.nx + 2 ≤ h.nx → h.get (h₀.nx + 1) = some (.cells (baseC vars a6 n6 c6 a1 n1 c1 2000 none 0 0) 128 .fix) → Acc h (h₀.nx + 2) 130 2 a6 n6 c6 (((cls.take k).map sideN).flatMap uu) → n6 = k →
      I76_0 O (fun v h' => ∃ a6 n6 c6, v = .pointer (some ⟨h₀.nx + 1, 0, none⟩) ∧ h'.get (h₀.nx + 1) = some (.cells (baseC vars a6 n6 c6 a1 n1 c1 2000 none 0 0) 128 .fix) ∧ h₀.nx + 1 < h'.nx ∧ Acc h' (h₀.nx + 2) 130 2 a6 n6 c6 ((cls.map sideN).flatMap uu) ∧ Kp h₀.nx h₀ h') x0 a0 n0 c0 a1 n1 c1 (h₀.nx + 1) 0 a n c (Int.ofNat n) (Int.ofNat k) h := by
  have hn := H.1
  intro d
  induction d with
  | zero =>
    intro k hk h a6 n6 c6 kp hnx gb A hn6
    refine I76_0.of _ _ _ _ _ _ _ _ _ _ _ _ _ _ ?_
    intros
    unfold T76_0
    refine vcond_f (by rw [ltI_nat]; exact blt_f (by omega)) ?_
    rw [List.take_of_length_le (by omega)] at A
    exact ⟨_, _, _, rfl, gb, by omega, A, kp⟩
  | succ d ih =>
    intro k hk h a6 n6 c6 kp hnx gb A hn6
    refine I76_0.of _ _ _ _ _ _ _ _ _ _ _ _ _ _ ?_
    intros
    unfold T76_0
    have H1 : IntssAt h a n cls := H.up EInts.up kp
    refine vcond_t (by rw [ltI_nat]; exact blt_t (by omega)) (isNat_of (H1.get (k := k) (by omega) fun b off a' n' c' h1 h2 hrd Y => vreq_t (blt_t (by omega)) ⟨_, _, _, hrd, ?_⟩))
    have okh : h.Ok := ok.kp kp
    have gb1 : (h.rsv 12).get (h₀.nx + 1) = _ := gb
    have okg : ((h.rsv 12).grd [h₀.nx + 1]).Ok := (okh.rsv 12).grd fun q hq => by
      obtain rfl := List.mem_singleton.1 hq; rw [nx_rsv]; omega
    have Y1 : IntsAt ((h.rsv 12).grd [h₀.nx + 1]) a' n' cls[k] := Y.keep (fun _ _ _ => rfl) (by rw [nx_grd, nx_rsv]; omega) fun _ _ h => h
    obtain ⟨v2, h2', e2, rfl, K2⟩ := ct107 hO (hlit _ (List.getElem_mem _)) (hll _ (List.getElem_mem _)) okg Y1 (c := c')
    refine ⟨_, _, _, read1 gb1 (i := 0 + 1) rfl, _, _, _, e2, ?_⟩
    have K2' : Kp (h.nx + 12) (h.rsv 12) (h2'.rst (h.rsv 12)) := (Kp.refl (h.nx + 12) (h.rsv 12)).rst K2
    have K2h : Kp (h.nx + 12) h (h2'.rst (h.rsv 12)) := (Kp.refl (h.nx + 12) h).rsv 12 |>.trans K2'
    refine vreq_t (free_t (by rw [K2h.get _ (by omega)]; exact okh.fr _ (by omega))) ?_
    generalize hg2 : h2'.rst (h.rsv 12) = g2 at *
    have hnx2 : h.nx + 12 ≤ g2.nx := K2'.nx
    have K3 : Kp h.nx h (g2.lay (h.nx + 7) (.cells (uu (sideN cls[k])) 130 .fix)) := (K2h.le (by omega)).lay (by omega) (by omega) _
    have A3 : Acc (g2.lay (h.nx + 7) (.cells (uu (sideN cls[k])) 130 .fix)) (h₀.nx + 2) 130 2 a6 n6 c6 (((cls.take k).map sideN).flatMap uu) := A.kp K3 (Nat.le_refl _)
    have gdh : GdLt (g2.lay (h.nx + 7) (.cells (uu (sideN cls[k])) 130 .fix)) (h₀.nx + 2) := fun q hq => by
      have : q ∈ h₀.gd := by rw [← kp.gd, ← K3.gd]; exact hq
      have := ok.gd q this; omega
    obtain ⟨a9, n9, c9, h4', e4, A4, hn9, k4⟩ := app_enc uu_len uu_one app126 A3 (by rw [nx_lay]; omega) gdh (t := h.nx + 7) (c2 := 1) (m := .fix) (e2 := 130) (x := sideN cls[k]) (by rw [get_lay, if_pos rfl]) (by omega) (by unfold big; omega)
    refine ⟨a9, n9, c9, h4', e4, ?_⟩
    have ab : ∀ off, a6 ≠ some ⟨h₀.nx + 1, off, none⟩ := fun off e => by have := A.fresh e; omega
    have gb4 : h4'.get (h₀.nx + 1) = some (.cells (baseC vars a6 n6 c6 a1 n1 c1 2000 none 0 0) 128 .fix) := by
      rw [k4.get _ (by rw [nx_lay]; omega) (ab 0), K3.get _ (by omega)]; exact gb
    have gb4' : ((h4'.rst (g2.lay (h.nx + 7) (.cells (uu (sideN cls[k])) 130 .fix))).grd []).get (h₀.nx + 1) = some (.cells (baseC vars a6 n6 c6 a1 n1 c1 2000 none 0 0) 128 .fix) := gb4
    have gu : ((h4'.rst (g2.lay (h.nx + 7) (.cells (uu (sideN cls[k])) 130 .fix))).grd []).guarded (h₀.nx + 1) = false := guarded_of fun q hq => by
      have : q ∈ h₀.gd := by rw [← kp.gd, ← K3.gd]; exact hq
      have := ok.gd q this; omega
    refine vreq_t (canW_t gb4' (by decide) gu (by simp [baseC]) rfl) ?_
    rw [wrap_succ (by omega)]
    have Kf : Kp h₀.nx h₀ ((((h4'.rst (g2.lay (h.nx + 7) (.cells (uu (sideN cls[k])) 130 .fix))).grd []).wr (h₀.nx + 1) (0 + 1) [.slice a9 n9 c9]).rst (h4'.rst (g2.lay (h.nx + 7) (.cells (uu (sideN cls[k])) 130 .fix)))) := by
      have K4 : Kp h₀.nx h₀ h4' := (kp.trans (K3.le (by omega))).trans ((k4.kp A3 (by rw [nx_lay]; omega)).le (by omega))
      refine ⟨fun o ho => ?_, ?_, ?_, fun f => ?_⟩
      · rw [get_rst, wr_get_ne _ _ _ _ (by omega)]; exact K4.get o ho
      · rw [nx_rst, nx_wr]; exact K4.nx
      · rw [gd_rst, gd_rst, gd_lay]
        have := (kp.trans (K3.le (by omega : h₀.nx ≤ h.nx))).gd
        rw [gd_lay] at this; exact this
      · exact (show Hp.Fresh (((h4'.rst (g2.lay (h.nx + 7) (.cells (uu (sideN cls[k])) 130 .fix))).grd []).wr (h₀.nx + 1) (0 + 1) [.slice a9 n9 c9]) from Hp.Fresh.wr (h := (h4'.rst (g2.lay (h.nx + 7) (.cells (uu (sideN cls[k])) 130 .fix))).grd []) (K4.fr f) _ _ _)
    have hnx4 : (g2.lay (h.nx + 7) (.cells (uu (sideN cls[k])) 130 .fix)).nx ≤ h4'.nx := k4.nx
    rw [nx_lay] at hnx4
    refine ih (k + 1) (by omega) (a6 := a9) (n6 := n9) (c6 := c9) Kf (by rw [nx_rst, nx_wr, nx_grd, nx_rst]; omega) (by rw [get_rst]; exact (wr_get gb4' (by decide) gu (by simp [baseC]) rfl).trans rfl) ?_ (by omega) ..
    have e1 : cls.take (k + 1) = cls.take k ++ [cls[k]] := List.take_succ_eq_append_getElem (by omega)
    rw [e1, List.map_append]
    refine A4.keep (fun o ho e => ?_) (by rw [nx_rst, nx_wr, nx_grd, nx_rst]; omega)
    rw [get_rst, wr_get_ne _ _ _ _ (by have := A4.fresh e; omega)]; rfl
/-- The base of a formula and given literals. -/
def RBase (h : Hp) (vars : Int) (cls : List (List Int)) (a1 : Option Addr) (n1 c1 : Nat) (v : Value) (h' : Hp) : Prop :=
  ∃ b a6 n6 c6, v = .pointer (some ⟨b, 0, none⟩) ∧ h.nx ≤ b ∧ b < h'.nx ∧ h'.get b = some (.cells (baseC vars a6 n6 c6 a1 n1 c1 2000 none 0 0) 128 .fix) ∧ Acc h' (b + 1) 130 2 a6 n6 c6 ((cls.map sideN).flatMap uu) ∧ Kp h.nx h h'
theorem ct76 {a a1 : Option Addr} {n c n1 c1 : Nat} {vars : Int} {h : Hp} {cls : List (List Int)} (ok : h.Ok) (H : IntssAt h a n cls) (hl : cls.length < 10000) (hll : ∀ l ∈ cls, l.length < 1000000) (hlit : ∀ l ∈ cls, ∀ x ∈ l, Lit x) :
    Ret Tryd.prog O 76 [Fm vars a n c, .slice a1 n1 c1] h (RBase h vars cls a1 n1 c1) := by
  refine rk76 _ _ _ _ _ _ _ (hO _ _ _ (by decide)) ?_
  unfold T76
  have hn := H.1
  have kp := fm_kp h vars a n c
  have g := fm_get h vars a n c
  have g' : ((h.add (.cells [.int .i64 vars, .slice a n c] 30 .fix)).add (.cells (baseC vars none 0 0 a1 n1 c1 2000 none 0 0) 128 .fix)).get h.nx = some (.cells [.int .i64 vars, .slice a n c] 30 .fix) := by
    rw [get_add_ne (by rw [nx_add]; omega)]; exact g
  refine ⟨_, read1 g rfl, _, _, _, read1 g' rfl, ?_⟩
  have := lp76 hO ok H hl hll hlit (a1 := a1) (n1 := n1) (c1 := c1) (vars := vars) (x0 := vars) (a0 := a) (n0 := n) (c0 := c) (c := c) cls.length 0 (by omega) (h := (h.add (.cells [.int .i64 vars, .slice a n c] 30 .fix)).add (.cells (baseC vars none 0 0 a1 n1 c1 2000 none 0 0) 128 .fix)) (a6 := none) (n6 := 0) (c6 := 0) (kp.add (by rw [nx_add]; omega) _) (by rw [nx_add, nx_add]; omega) (get_add_same ..) (by simpa using Acc.nil ..) rfl
  refine RKL.mono (this ..) ?_
  rintro v h' ⟨a6, n6, c6, rfl, e1, e2, e3, e4⟩
  exact ⟨h.nx + 1, a6, n6, c6, rfl, by omega, e2, e1, e3, e4⟩
end
end Go.Proofs.YtfgfhplgnfbaaaaDoor
/- Contract of sat.Resolve. -/
namespace Go.Proofs.YtfgfhplgnfbaaaaDoor
open Go Go.Ev
/-- A list and an error. -/
def RPair (h : Hp) (r : List Int × Int) (v : Value) (h' : Hp) : Prop := ∃ a n c, v = .tuple #[.slice a n c, .int .i64 r.2] ∧ IntsAt h' a n r.1 ∧ Kp h.nx h h'
theorem RPair.none {h h' : Hp} {e : Int} (k : Kp h.nx h h') : RPair h ([], e) (.tuple #[.slice none 0 0, .int .i64 e]) h' := ⟨_, _, _, rfl, SlAt.nil .., k⟩
theorem withN_lt {y m : Nat} {x : Int} (hx : Lit x) (hy : y < 2 ^ 30) (hm : m < 2 ^ 30) : (withN y m x).1 < 2 ^ 30 ∧ (withN y m x).2 < 2 ^ 30 := by
  unfold withN
  split
  · exact ⟨Nat.or_lt_two_pow hy (bitN_lt hx), hm⟩
  · exact ⟨hy, Nat.or_lt_two_pow hm (bitN_lt hx)⟩
theorem clB_lit {vars : Int} : ∀ {xs : List Int} {last : Int}, 0 ≤ last → clB vars last xs = true → ∀ x ∈ xs, Lit x ∧ varI x ≤ vars := by
  intro xs
  induction xs with
  | nil => intro last _ _ x hx; cases hx
  | cons z zs ih =>
    intro last hl h x hx
    simp only [clB] at h
    split at h
    · cases h
    · rename_i hz
      have h0 : 0 < varI z := by omega
      rcases List.mem_cons.1 hx with rfl | hx
      · refine ⟨?_, by omega⟩
        unfold varI at h0
        unfold Lit
        split at h0
        · omega
        · split at h0 <;> omega
      · exact ih (by omega) h x hx
end Go.Proofs.YtfgfhplgnfbaaaaDoor
/- Contracts of functions of layer 20: models are held against formulas, and counted. -/
namespace Go.Proofs.YtfgfhplgnfbaaaaDoor
open Go Go.Ev
theorem EInts.grd {h : Hp} {g : List Nat} {x : List Int} {vs : List Value} (H : EInts h x vs) : EInts (h.grd g) x vs :=
  let ⟨a, n, c, h1, h2⟩ := H
  ⟨a, n, c, h1, h2.keep (fun _ _ _ => rfl) (Nat.le_refl _) fun _ _ h => h⟩
theorem IntssAt.grd {h : Hp} {g : List Nat} {a : Option Addr} {n : Nat} {xs : List (List Int)} (H : IntssAt h a n xs) : IntssAt (h.grd g) a n xs := H.keep (fun _ _ _ => rfl) (Nat.le_refl _) fun _ _ h => EInts.grd h
theorem BoolsAt.get {h : Hp} {a : Option Addr} {n : Nat} {xs : List Bool} (H : BoolsAt h a n xs) {k : Nat} (hk : k < xs.length) {K : Nat → Nat → Prop}
    (hK : ∀ b off, a = some ⟨b, off, none⟩ → b < h.nx → readAt h b (off + k * 1) 1 = some [.bool xs[k]] → K b off) : isAddr a K :=
  SlAt.read H hk fun b off vs h1 h2 h3 h4 => hK b off h1 h2 (by rw [h3, show vs = _ from h4])
/-- Two masks in a list. -/
theorem Sides.get {h : Hp} {a : Option Addr} {n : Nat} {xs : List (Nat × Nat)} (H : SidesAt2 h a n xs) {k : Nat} (hk : k < xs.length) {K : Nat → Nat → Prop}
    (hK : ∀ b off, a = some ⟨b, off, none⟩ → b < h.nx → readAt h b (off + k * 2) 2 = some [U xs[k].1, U xs[k].2] → K b off) : isAddr a K :=
  SlAt.read H hk fun b off vs h1 h2 h3 h4 => hK b off h1 h2 (by rw [h3, show vs = _ from h4]; rfl)
section
variable {O : CallF} (hO : Oth O)
include hO
theorem sides_lt {cls : List (List Int)} (h : ∀ l ∈ cls, ∀ x ∈ l, Lit x) : ∀ p ∈ cls.map sideN, p.1 < 2 ^ 30 ∧ p.2 < 2 ^ 30 := by
  have _ := hO
  intro p hp
  obtain ⟨l, hl, rfl⟩ := List.mem_map.1 hp
  exact sideF_lt (h l hl) (by decide) (by decide)
end
end Go.Proofs.YtfgfhplgnfbaaaaDoor
/- Contracts of functions of layer 20: how many bits; propagation by masks. -/
namespace Go.Proofs.YtfgfhplgnfbaaaaDoor
open Go Go.Ev
/-- The table of counts. -/
def popT : ByteArray := ByteArray.mk #[0, 1, 1, 2, 1, 2, 2, 3, 1, 2, 2, 3, 2, 3, 3, 4, 1, 2, 2, 3, 2, 3, 3, 4, 2, 3, 3, 4, 3, 4, 4, 5, 1, 2, 2, 3, 2, 3, 3, 4, 2, 3, 3, 4, 3, 4, 4, 5, 2, 3, 3, 4, 3, 4, 4, 5, 3, 4, 4, 5, 4, 5, 5, 6, 1, 2, 2, 3, 2, 3, 3, 4, 2, 3, 3, 4, 3, 4, 4, 5, 2, 3, 3, 4, 3, 4, 4, 5, 3, 4, 4, 5, 4, 5, 5, 6, 2, 3, 3, 4, 3, 4, 4, 5, 3, 4, 4, 5, 4, 5, 5, 6, 3, 4, 4, 5, 4, 5, 5, 6, 4, 5, 5, 6, 5, 6, 6, 7, 1, 2, 2, 3, 2, 3, 3, 4, 2, 3, 3, 4, 3, 4, 4, 5, 2, 3, 3, 4, 3, 4, 4, 5, 3, 4, 4, 5, 4, 5, 5, 6, 2, 3, 3, 4, 3, 4, 4, 5, 3, 4, 4, 5, 4, 5, 5, 6, 3, 4, 4, 5, 4, 5, 5, 6, 4, 5, 5, 6, 5, 6, 6, 7, 2, 3, 3, 4, 3, 4, 4, 5, 3, 4, 4, 5, 4, 5, 5, 6, 3, 4, 4, 5, 4, 5, 5, 6, 4, 5, 5, 6, 5, 6, 6, 7, 3, 4, 4, 5, 4, 5, 5, 6, 4, 5, 5, 6, 5, 6, 6, 7, 4, 5, 5, 6, 5, 6, 6, 7, 5, 6, 6, 7, 6, 7, 7, 8]
def pt (k : Nat) : Nat := (byteI popT k).toNat
theorem pt_byte : ∀ k, k < 256 → byteI popT k = Int.ofNat (pt k) ∧ pt k ≤ 8 ∧ (pt k = 0 → k = 0) ∧ (pt k = 1 → k = 1 ∨ k = 2 ∨ k = 4 ∨ k = 8 ∨ k = 16 ∨ k = 32 ∨ k = 64 ∨ k = 128) := by decide +kernel
theorem pt_zero : pt 0 = 0 := by decide +kernel
/-- How many bits a number has. -/
def popN (x : Nat) : Nat := pt (x / 16777216) + pt (x / 65536 % 256) + pt (x / 256 % 256) + pt (x % 256)
theorem fdiv_nat (x n : Nat) : Int.fdiv (Int.ofNat x) (Int.ofNat n) = Int.ofNat (x / n) := by
  have := Int.fdiv_eq_ediv_of_nonneg (Int.ofNat x) (Int.natCast_nonneg n)
  exact this.trans rfl
theorem shr_nat (x : Nat) : shrF .u32 (Int.ofNat x) 24 = Int.ofNat (x / 16777216) ∧ shrF .u32 (Int.ofNat x) 16 = Int.ofNat (x / 65536) ∧ shrF .u32 (Int.ofNat x) 8 = Int.ofNat (x / 256) := ⟨fdiv_nat x 16777216, fdiv_nat x 65536, fdiv_nat x 256⟩
theorem land255 (x : Nat) : landI (Int.ofNat x) 255 = Int.ofNat (x % 256) := by
  show Int.ofNat (x &&& 255) = _
  rw [show x &&& 255 = x % 256 from Nat.and_two_pow_sub_one_eq_mod x 8]
theorem wrap8 {a b : Nat} (h : a + b < 256) : wrapF .u8 (Int.ofNat a + Int.ofNat b) = Int.ofNat (a + b) := by
  show Int.ofNat ((a + b) % 256) = _
  rw [Nat.mod_eq_of_lt h]
theorem popN_zero {x : Nat} (hx : x < 2 ^ 32) : popN x = 0 ↔ x = 0 := by
  unfold popN
  constructor
  · intro h
    have h1 := (pt_byte (x / 16777216) (by omega)).2.2.1 (by omega)
    have h2 := (pt_byte (x / 65536 % 256) (by omega)).2.2.1 (by omega)
    have h3 := (pt_byte (x / 256 % 256) (by omega)).2.2.1 (by omega)
    have h4 := (pt_byte (x % 256) (by omega)).2.2.1 (by omega)
    omega
  · rintro rfl; simp [pt_zero]
theorem popN_one {x : Nat} (hx : x < 2 ^ 32) : popN x = 1 ↔ ∃ i, i < 32 ∧ x = 2 ^ i := by
  constructor
  · unfold popN
    intro h
    obtain ⟨_, _, a1, b1⟩ := pt_byte (x / 16777216) (by omega)
    obtain ⟨_, _, a2, b2⟩ := pt_byte (x / 65536 % 256) (by omega)
    obtain ⟨_, _, a3, b3⟩ := pt_byte (x / 256 % 256) (by omega)
    obtain ⟨_, _, a4, b4⟩ := pt_byte (x % 256) (by omega)
    have pw : ∀ (k s : Nat), (k = 1 ∨ k = 2 ∨ k = 4 ∨ k = 8 ∨ k = 16 ∨ k = 32 ∨ k = 64 ∨ k = 128) → ∃ i, i < 8 ∧ k * 2 ^ s = 2 ^ (i + s) := by
      intro k s hk
      rcases hk with rfl | rfl | rfl | rfl | rfl | rfl | rfl | rfl
      · exact ⟨0, by omega, by rw [Nat.pow_add]⟩
      · exact ⟨1, by omega, by rw [Nat.pow_add]⟩
      · exact ⟨2, by omega, by rw [Nat.pow_add]⟩
      · exact ⟨3, by omega, by rw [Nat.pow_add]⟩
      · exact ⟨4, by omega, by rw [Nat.pow_add]⟩
      · exact ⟨5, by omega, by rw [Nat.pow_add]⟩
      · exact ⟨6, by omega, by rw [Nat.pow_add]⟩
      · exact ⟨7, by omega, by rw [Nat.pow_add]⟩
    have cases4 : (pt (x / 16777216) = 1 ∧ pt (x / 65536 % 256) = 0 ∧ pt (x / 256 % 256) = 0 ∧ pt (x % 256) = 0) ∨ (pt (x / 16777216) = 0 ∧ pt (x / 65536 % 256) = 1 ∧ pt (x / 256 % 256) = 0 ∧ pt (x % 256) = 0) ∨ (pt (x / 16777216) = 0 ∧ pt (x / 65536 % 256) = 0 ∧ pt (x / 256 % 256) = 1 ∧ pt (x % 256) = 0) ∨ (pt (x / 16777216) = 0 ∧ pt (x / 65536 % 256) = 0 ∧ pt (x / 256 % 256) = 0 ∧ pt (x % 256) = 1) := by omega
    rcases cases4 with ⟨h1, h2, h3, h4⟩ | ⟨h1, h2, h3, h4⟩ | ⟨h1, h2, h3, h4⟩ | ⟨h1, h2, h3, h4⟩
    · obtain ⟨i, hi, e⟩ := pw _ 24 (b1 h1)
      have := a2 h2; have := a3 h3; have := a4 h4
      exact ⟨i + 24, by omega, by rw [← e]; omega⟩
    · obtain ⟨i, hi, e⟩ := pw _ 16 (b2 h2)
      have := a1 h1; have := a3 h3; have := a4 h4
      exact ⟨i + 16, by omega, by rw [← e]; omega⟩
    · obtain ⟨i, hi, e⟩ := pw _ 8 (b3 h3)
      have := a1 h1; have := a2 h2; have := a4 h4
      exact ⟨i + 8, by omega, by rw [← e]; omega⟩
    · obtain ⟨i, hi, e⟩ := pw _ 0 (b4 h4)
      have := a1 h1; have := a2 h2; have := a3 h3
      exact ⟨i, by omega, by rw [← Nat.add_zero i, ← e]; omega⟩
  · rintro ⟨i, hi, rfl⟩
    clear hx
    revert i
    decide +kernel
section
variable {O : CallF} (hO : Oth O)
include hO
theorem ct138 {x : Nat} (hx : x < 2 ^ 32) {h : Hp} : Ret Tryd.prog O 138 [U x] h fun v h' => v = .int .i64 (Int.ofNat (popN x)) ∧ Kp h.nx h h' := by
  refine rk138 _ (hO _ _ _ (by decide)) ?_
  unfold T138
  obtain ⟨s1, s2, s3⟩ := shr_nat x
  rw [s1, s2, s3, land255, land255, land255]
  obtain ⟨p1, q1, _⟩ := pt_byte (x / 16777216) (by omega)
  obtain ⟨p2, q2, _⟩ := pt_byte (x / 65536 % 256) (by omega)
  obtain ⟨p3, q3, _⟩ := pt_byte (x / 256 % 256) (by omega)
  obtain ⟨p4, q4, _⟩ := pt_byte (x % 256) (by omega)
  refine isNat_of (vreq_t (blt_t (by omega)) (vreq_t (inD_of (by omega)) (isNat_of (vreq_t (blt_t (by omega)) (vreq_t (inD_of (by omega)) (isNat_of (vreq_t (blt_t (by omega)) (vreq_t (inD_of (by omega)) (isNat_of (vreq_t (blt_t (by omega)) ⟨?_, (Kp.refl _ h).rsv 19⟩))))))))))
  show Value.int .i64 (wrapF .i64 (wrapF .u8 (wrapF .u8 (wrapF .u8 (byteI popT (x / 16777216) + byteI popT (x / 65536 % 256)) + byteI popT (x / 256 % 256)) + byteI popT (x % 256)))) = _
  rw [p1, p2, p3, p4, wrap8 (by omega), wrap8 (by omega), wrap8 (by omega), wrap64 (by simp only [Int.ofNat_eq_natCast]; omega) (by simp only [Int.ofNat_eq_natCast]; omega)]
  rfl
/-! ### spread -/
omit hO in
/-- The first clause that is not true, and clashes, or has one open literal: none: there is none; none in it: it clashes; else the masks with the literal. -/
def stepS (y m : Nat) : List (Nat × Nat) → Option (Option (Nat × Nat))
  | [] => none
  | c :: cs => if (c.1 &&& y) ||| (c.2 &&& m) = 0 then
      (if popN ((c.1 - (c.1 &&& m)) ||| (c.2 - (c.2 &&& y))) = 0 then some none
      else if popN ((c.1 - (c.1 &&& m)) ||| (c.2 - (c.2 &&& y))) = 1 then some (some (y ||| (c.1 - (c.1 &&& m)), m ||| (c.2 - (c.2 &&& y))))
      else stepS y m cs) else stepS y m cs
/-- Clauses propagate, so many times at most. -/
def spreadF (ss : List (Nat × Nat)) : Nat → Nat → Nat → (Nat × Nat) × Bool
  | 0, y, m => ((y, m), true)
  | d + 1, y, m => match stepS y m ss with
    | none => ((y, m), true)
    | some none => ((y, m), false)
    | some (some p) => spreadF ss d p.1 p.2
structure InvS (h₀ : Hp) (b3 b4 : Nat) (y m : Nat) (h : Hp) : Prop where
  kp : Kp h₀.nx h₀ h
  l3 : b3 < h.nx
  l4 : b4 < h.nx
  g3 : h.get b3 = some (.cells [U y, U m] 102 .fix)
  g4 : h.get b4 = some (.cells [U 0, U 0] 102 .fix)
omit hO in
theorem InvS.of {h₀ : Hp} {b3 b4 y m : Nat} {h h' : Hp} (I : InvS h₀ b3 b4 y m h) (k : Kp h.nx h h') : InvS h₀ b3 b4 y m h' :=
  ⟨I.kp.trans (k.le I.kp.nx), Nat.lt_of_lt_of_le I.l3 k.nx, Nat.lt_of_lt_of_le I.l4 k.nx, by rw [k.get _ I.l3]; exact I.g3, by rw [k.get _ I.l4]; exact I.g4⟩
theorem lp119_1 {b : Nat} {x1 x2 : Int} {h₀ : Hp} (ok : h₀.Ok) {a : Option Addr} {n c : Nat} {ss : List (Nat × Nat)} (H : SidesAt2 h₀ a n ss) (hl : ss.length < 1000000) (hss : ∀ p ∈ ss, p.1 < 2 ^ 30 ∧ p.2 < 2 ^ 30) {b3 b4 : Nat} (hb3 : h₀.nx ≤ b3) (hb4 : h₀.nx ≤ b4) (h34 : b3 ≠ b4) {y m : Nat} (hy : y < 2 ^ 30) (hm : m < 2 ^ 30) {r : (Nat × Nat) × Bool}
    (r0 : stepS y m ss = none → r = ((y, m), true)) (r1 : stepS y m ss = some none → r = ((y, m), false))
    (r2 : ∀ p, stepS y m ss = some (some p) → ∀ h, InvS h₀ b3 b4 p.1 p.2 h → I119_0 O (fun v h' => v = .tuple #[.agg #[U r.1.1, U r.1.2], .bool r.2] ∧ Kp h₀.nx h₀ h') b 0 x1 x2 b3 0 b4 0 false h) :
    ∀ (d k : Nat), k + d = ss.length → stepS y m (ss.drop k) = stepS y m ss → ∀ {h : Hp}, InvS h₀ b3 b4 y m h →
      I119_1 O (fun v h' => v = .tuple #[.agg #[U r.1.1, U r.1.2], .bool r.2] ∧ Kp h₀.nx h₀ h') b 0 x1 x2 b3 0 b4 0 false a n c (Int.ofNat n) (Int.ofNat k) h := by
  have hn := H.1
  have gfree : ∀ {h : Hp}, Kp h₀.nx h₀ h → ∀ o, h₀.nx ≤ o → h.guarded o = false := fun k o ho => guarded_of fun q hq => by
    rw [k.gd] at hq
    have := ok.gd q hq; omega
  have fin : ∀ {h : Hp}, InvS h₀ b3 b4 y m h → (canW h b4 0 [U y, U m] = true) ∧ (h.wr b4 0 [U y, U m]).get b4 = some (.cells [U y, U m] 102 .fix) ∧ Kp h₀.nx h₀ (h.wr b4 0 [U y, U m]) := fun I =>
    ⟨canW_t I.g4 (by decide) (gfree I.kp _ hb4) (by simp) rfl, wr_get I.g4 (by decide) (gfree I.kp _ hb4) (by simp) rfl, I.kp.wr hb4 _ _⟩
  intro d
  induction d with
  | zero =>
    intro k hk hs h I
    refine I119_1.of _ _ _ _ _ _ _ _ _ _ _ _ _ _ ?_
    intros
    unfold T119_1
    rw [List.drop_of_length_le (by omega)] at hs
    obtain rfl := r0 (by rw [← hs]; rfl)
    obtain ⟨f1, f2, f3⟩ := fin I
    exact vcond_f (by rw [ltI_nat]; exact blt_f (by omega)) ⟨_, _, readAt_get I.g3 (by simp), vreq_t f1 ⟨_, _, readAt_get f2 (by simp), rfl, f3⟩⟩
  | succ d ih =>
    intro k hk hs h I
    refine I119_1.of _ _ _ _ _ _ _ _ _ _ _ _ _ _ ?_
    intros
    unfold T119_1
    have H1 : SidesAt2 h a n ss := H.up (ECells.up uu) I.kp
    have hp := hss ss[k] (List.getElem_mem _)
    have e1 : ss.drop k = ss[k] :: ss.drop (k + 1) := List.drop_eq_getElem_cons (by omega)
    rw [e1] at hs
    simp only [stepS] at hs
    have okh := ok.kp I.kp
    have gn : (h.add (.cells [(.int .u32 0), (.int .u32 0)] 130 .fix)).get h.nx = _ := get_add_same ..
    have gu : (h.add (.cells [(.int .u32 0), (.int .u32 0)] 130 .fix)).guarded h.nx = false := guarded_of fun q hq => by have := okh.gd q hq; omega
    refine vcond_t (by rw [ltI_nat]; exact blt_t (by omega)) (isNat_of (Sides.get H1 (k := k) (by omega) fun b' off h1 h2 hrd => vreq_t (blt_t (by omega)) ⟨_, _, hrd, vreq_t (canW_t gn (by decide) gu (by simp) rfl) ?_⟩))
    have gw := wr_get gn (by decide) gu (off := 0) (vs := [U ss[k].1, U ss[k].2]) (by simp) rfl
    have kw : Kp h.nx h ((h.add (.cells [(.int .u32 0), (.int .u32 0)] 130 .fix)).wr h.nx 0 [U ss[k].1, U ss[k].2]) := ((Kp.refl _ h).add (Nat.le_refl _) _).wr (Nat.le_refl _) _ _
    have gw : ((h.add (.cells [(.int .u32 0), (.int .u32 0)] 130 .fix)).wr h.nx 0 [U ss[k].1, U ss[k].2]).get h.nx = some (.cells [U ss[k].1, U ss[k].2] 130 .fix) := gw
    have nw : h.nx < ((h.add (.cells [(.int .u32 0), (.int .u32 0)] 130 .fix)).wr h.nx 0 [U ss[k].1, U ss[k].2]).nx := by rw [nx_wr, nx_add]; omega
    generalize ss[k] = cc at hp hs gw kw nw ⊢
    generalize (h.add (.cells [(.int .u32 0), (.int .u32 0)] 130 .fix)).wr h.nx 0 [U cc.1, U cc.2] = hw at gw kw nw ⊢
    have Iw := I.of kw
    have I12 := I.of (kw.rsv 12)
    have g12 : (hw.rsv 12).get h.nx = some (.cells [U cc.1, U cc.2] 130 .fix) := gw
    have l1 : cc.1 &&& y ≤ cc.1 := Nat.and_le_left
    have l2 : cc.2 &&& m ≤ cc.2 := Nat.and_le_left
    have l3 : cc.1 - (cc.1 &&& m) ≤ cc.1 := Nat.sub_le _ _
    have l4 : cc.2 - (cc.2 &&& y) ≤ cc.2 := Nat.sub_le _ _
    refine ⟨_, read1 gw (i := 0) rfl, _, read1 Iw.g3 (i := 0 + 0) rfl, vreq_t (inD_of (by omega)) (vreq_t (inD_of (by omega)) ⟨_, read1 gw (i := 1) rfl, _, read1 Iw.g3 (i := 0 + 1) rfl, vreq_t (inD_of (by omega)) (vreq_t (inD_of (by omega)) (vreq_t (by rw [land_nat]; exact inD_of (by omega)) (vreq_t (by rw [land_nat]; exact inD_of (by omega)) ?_)))⟩)⟩
    rw [land_nat, land_nat, lor_nat, wrap_succ (by omega)]
    refine vcond_split (fun h3 => ?_) fun h3 => ?_
    · have h3 : ¬ ((cc.1 &&& y) ||| (cc.2 &&& m) = 0) := fun hh => by rw [hh] at h3; exact absurd h3 (by decide)
      rw [if_neg h3] at hs
      exact ih (k + 1) (by omega) hs Iw ..
    have h3 : (cc.1 &&& y) ||| (cc.2 &&& m) = 0 := by
      have h3 : eqI (Int.ofNat ((cc.1 &&& y) ||| (cc.2 &&& m))) 0 = true := by simpa using h3
      exact Int.ofNat.inj (eq_of_t h3)
    rw [if_pos h3] at hs
    refine ⟨_, read1 g12 (i := 0) rfl, _, read1 I12.g3 (i := 0 + 1) rfl, vreq_t (inD_of (by omega)) (vreq_t (inD_of (by omega)) ⟨_, read1 g12 (i := 1) rfl, _, read1 I12.g3 (i := 0 + 0) rfl, vreq_t (inD_of (by omega)) (vreq_t (inD_of (by omega)) (vreq_t (by rw [andn_nat]; exact inD_of (by omega)) (vreq_t (by rw [andn_nat]; exact inD_of (by omega)) ?_)))⟩)⟩
    rw [andn_nat, andn_nat, lor_nat]
    have hz : (cc.1 - (cc.1 &&& m)) ||| (cc.2 - (cc.2 &&& y)) < 2 ^ 30 := Nat.or_lt_two_pow (by omega) (by omega)
    obtain ⟨v, h5, e5, rfl, K5⟩ := ct138 hO (x := (cc.1 - (cc.1 &&& m)) ||| (cc.2 - (cc.2 &&& y))) (by omega) (h := hw.rsv 12)
    have I5 := I12.of K5
    refine ⟨_, _, e5, vcond_split (fun h6 => ?_) fun h6 => ?_⟩
    · have h6 : popN ((cc.1 - (cc.1 &&& m)) ||| (cc.2 - (cc.2 &&& y))) = 0 := Int.ofNat.inj (eq_of_t h6)
      rw [if_pos h6] at hs
      obtain rfl := r1 hs.symm
      obtain ⟨f1, f2, f3⟩ := fin I5
      exact ⟨_, _, readAt_get I5.g3 (by simp), vreq_t f1 ⟨_, _, readAt_get f2 (by simp), rfl, f3⟩⟩
    have h6 : ¬ popN ((cc.1 - (cc.1 &&& m)) ||| (cc.2 - (cc.2 &&& y))) = 0 := fun hh => ne_of_f h6 (by rw [hh]; rfl)
    rw [if_neg h6] at hs
    refine vcond_split (fun h7 => ?_) fun h7 => ?_
    · have h7 : popN ((cc.1 - (cc.1 &&& m)) ||| (cc.2 - (cc.2 &&& y))) = 1 := Int.ofNat.inj (eq_of_t h7)
      rw [if_pos h7] at hs
      have gu5 := gfree I5.kp b3 hb3
      have c1 := canW_t I5.g3 (by decide) gu5 (off := 0 + 0) (vs := [U (y ||| (cc.1 - (cc.1 &&& m)))]) (by simp) rfl
      have w1 := wr_get I5.g3 (by decide) gu5 (off := 0 + 0) (vs := [U (y ||| (cc.1 - (cc.1 &&& m)))]) (by simp) rfl
      have k6 := I5.kp.wr hb3 (0 + 0) [U (y ||| (cc.1 - (cc.1 &&& m)))]
      have w1 : (h5.wr b3 (0 + 0) [U (y ||| (cc.1 - (cc.1 &&& m)))]).get b3 = some (.cells [U (y ||| (cc.1 - (cc.1 &&& m))), U m] 102 .fix) := w1
      have gu6 := gfree k6 b3 hb3
      have c2 := canW_t w1 (by decide) gu6 (off := 0 + 1) (vs := [U (m ||| (cc.2 - (cc.2 &&& y)))]) (by simp) rfl
      have w2 := wr_get w1 (by decide) gu6 (off := 0 + 1) (vs := [U (m ||| (cc.2 - (cc.2 &&& y)))]) (by simp) rfl
      refine ⟨_, read1 I5.g3 (i := 0 + 0) rfl, vreq_t (inD_of (by omega)) (vreq_t (inD_of (by omega)) (vreq_t (by rw [lor_nat]; exact c1) ?_))⟩
      rw [lor_nat]
      refine ⟨_, read1 w1 (i := 0 + 1) rfl, vreq_t (inD_of (by omega)) (vreq_t (inD_of (by omega)) (vreq_t (by rw [lor_nat]; exact c2) ?_))⟩
      rw [lor_nat]
      exact r2 _ hs.symm _ ⟨k6.wr hb3 _ _, by rw [nx_wr, nx_wr]; exact I5.l3, by rw [nx_wr, nx_wr]; exact I5.l4, w2, by rw [wr_get_ne _ _ _ _ (Ne.symm h34), wr_get_ne _ _ _ _ (Ne.symm h34)]; exact I5.g4⟩ ..
    · have h7 : ¬ popN ((cc.1 - (cc.1 &&& m)) ||| (cc.2 - (cc.2 &&& y))) = 1 := fun hh => ne_of_f h7 (by rw [hh]; rfl)
      rw [if_neg h7] at hs
      exact ih (k + 1) (by omega) hs I5 ..
end
end Go.Proofs.YtfgfhplgnfbaaaaDoor
/- Contracts of functions of layer 20: models are counted, by masks. -/
namespace Go.Proofs.YtfgfhplgnfbaaaaDoor
open Go Go.Ev
end Go.Proofs.YtfgfhplgnfbaaaaDoor
/- Contracts of functions of layer 20's reference: models are held against formulas. -/
namespace Go.Proofs.YtfgfhplgnfbaaaaDoor
open Go Go.Ev
theorem varI_lit2 {x : Int} (h : Lit x) : varI x = x.natAbs := by
  unfold varI
  rw [if_neg (by have := h.2; omega)]
  split <;> omega
/-- A literal's truth. -/
def tvR (ts : List Int) (x : Int) : Int := if x < 0 then -(ts.getD (-x).toNat 0) else ts.getD x.toNat 0
def satR (ts : List Int) (l : List Int) : Bool := l.any fun x => decide (0 < tvR ts x)
section
variable {O : CallF} (hO : Oth O)
include hO
theorem ct118 {a : Option Addr} {n c : Nat} {ts : List Int} {h : Hp} (H : IntsAt h a n ts) (ht : ∀ t ∈ ts, -1 ≤ t ∧ t ≤ 1) {x : Int} (hx : Lit x) (hx2 : x.natAbs < ts.length) : EvT O 118 [.slice a n c, .int .i64 x] h (.int .i64 (tvR ts x)) h := by
  refine EvC.of_ret (rk118 _ _ _ _ (hO _ _ _ (by decide)) ?_)
  unfold T118 tvR
  have hn := H.1
  have hl := hx.2
  refine vcond_split (fun h1 => ?_) fun h1 => ?_
  · have h1 := lt_of_t h1
    have e : wrapF .i64 (0 - x) = Int.ofNat (-x).toNat := by rw [wrap64 (by omega) (by omega)]; simp only [Int.ofNat_eq_natCast]; omega
    rw [e, if_pos h1]
    refine isNat_of (H.get (k := (-x).toNat) (by omega) fun b off _ _ hr => vreq_t (blt_t (by omega)) ⟨_, hr, ?_, rfl⟩)
    have := ht _ (List.getElem_mem (by omega : (-x).toNat < ts.length))
    rw [wrap64 (by omega) (by omega), List.getD_eq_getElem?_getD, List.getElem?_eq_getElem (by omega)]
    congr 1
    show 0 - _ = -_
    simp
  · have h1 := not_lt_of_f h1
    have e : x = Int.ofNat x.toNat := by simp only [Int.ofNat_eq_natCast]; omega
    rw [if_neg h1]
    have key : isNat (Int.ofNat x.toNat) (fun n5' => isAddr a fun b6' f7' => vreq (Nat.blt n5' n) (∃ x8' : Int, readAt h b6' (f7' + (n5' * 1)) 1 = some [(.int .i64 x8')] ∧ (Value.int .i64 x8' = .int .i64 (ts.getD x.toNat 0) ∧ h = h))) :=
      isNat_of (H.get (k := x.toNat) (by omega) fun b off _ _ hr => vreq_t (blt_t (by omega)) ⟨_, hr, by rw [List.getD_eq_getElem?_getD, List.getElem?_eq_getElem (by omega)]; rfl, rfl⟩)
    rw [← e] at key
    exact key
theorem lp86 {a a1 : Option Addr} {n c n1 c1 : Nat} {ts l : List Int} {h : Hp} (H : IntsAt h a n ts) (ht : ∀ t ∈ ts, -1 ≤ t ∧ t ≤ 1) (L : IntsAt h a1 n1 l) (hll : l.length < 1000000) (hl : ∀ x ∈ l, Lit x ∧ x.natAbs < ts.length) {Q : Value → Hp → Prop} :
    ∀ (d k : Nat), k + d = l.length → ∀ (q : Bool), Q (.bool (satR ts (l.drop k))) h → I86_0 O Q a n c a1 n1 c1 q (Int.ofNat k) h := by
  have hn := L.1
  intro d
  induction d with
  | zero =>
    intro k hk q hQ
    refine I86_0.of _ _ _ _ _ _ _ _ ?_
    intros
    unfold T86_0
    refine vcond_f (by rw [ltI_nat]; exact blt_f (by omega)) ?_
    rw [List.drop_of_length_le (by omega)] at hQ
    exact hQ
  | succ d ih =>
    intro k hk q hQ
    refine I86_0.of _ _ _ _ _ _ _ _ ?_
    intros
    unfold T86_0
    have hx := hl l[k] (List.getElem_mem _)
    refine vcond_t (by rw [ltI_nat]; exact blt_t (by omega)) (isNat_of (L.get (k := k) (by omega) fun b off _ _ hr => vreq_t (blt_t (by omega)) ⟨_, hr, _, _, ct118 hO H ht hx.1 hx.2, ?_⟩))
    have e1 : l.drop k = l[k] :: l.drop (k + 1) := List.drop_eq_getElem_cons (by omega)
    rw [e1] at hQ
    unfold satR at hQ
    rw [List.any_cons] at hQ
    refine vcond_split (fun h3 => ?_) fun h3 => ?_
    · rw [decide_eq_true (lt_of_t h3), Bool.true_or] at hQ; exact hQ
    · rw [decide_eq_false (not_lt_of_f h3), Bool.false_or] at hQ
      rw [wrap_succ (by omega)]
      exact ih (k + 1) (by omega) _ hQ ..
theorem ct86 {a a1 : Option Addr} {n c n1 c1 : Nat} {ts l : List Int} {h : Hp} (H : IntsAt h a n ts) (ht : ∀ t ∈ ts, -1 ≤ t ∧ t ≤ 1) (L : IntsAt h a1 n1 l) (hll : l.length < 1000000) (hl : ∀ x ∈ l, Lit x ∧ x.natAbs < ts.length) : EvT O 86 [.slice a n c, .slice a1 n1 c1] h (.bool (satR ts l)) h := by
  refine EvC.of_ret (rk86 _ _ _ _ _ _ (hO _ _ _ (by decide)) ?_)
  unfold T86
  exact lp86 hO H ht L hll hl l.length 0 (by omega) false ⟨rfl, rfl⟩ ..
end
end Go.Proofs.YtfgfhplgnfbaaaaDoor
/- Contracts of functions of layer 20's reference: models are counted, one by one. -/
namespace Go.Proofs.YtfgfhplgnfbaaaaDoor
open Go Go.Ev
end Go.Proofs.YtfgfhplgnfbaaaaDoor
/- Contract of the reference's Resolve. -/
namespace Go.Proofs.YtfgfhplgnfbaaaaDoor
open Go Go.Ev
end Go.Proofs.YtfgfhplgnfbaaaaDoor
/- The plain law: both texts resolve alike. -/
namespace Go.Proofs.YtfgfhplgnfbaaaaDoor
open Go Go.Ev
theorem clB_gt {vars : Int} : ∀ {xs : List Int} {last : Int}, clB vars last xs = true → ∀ z ∈ xs, last < varI z := by
  intro xs
  induction xs with
  | nil => intro last _ z hz; cases hz
  | cons x xs ih =>
    intro last h z hz
    simp only [clB] at h
    split at h
    · cases h
    · rename_i hx
      rcases List.mem_cons.1 hz with rfl | hz
      · omega
      · have := ih h z hz; omega
/-! ### the masks -/
theorem bitN_test {x : Int} (h : Lit x) (i : Nat) : (bitN x).testBit i = decide (x = (i + 1 : Nat) ∨ x = -(i + 1 : Nat)) := by
  unfold bitN
  rw [Nat.testBit_two_pow]
  have := h.1
  congr 1
  refine propext ⟨fun e => ?_, fun e => ?_⟩ <;> omega
theorem withN_test {y m : Nat} {x : Int} (h : Lit x) (i : Nat) : (withN y m x).1.testBit i = (y.testBit i || decide (x = (i + 1 : Nat))) ∧ (withN y m x).2.testBit i = (m.testBit i || decide (x = -(i + 1 : Nat))) := by
  have hb := bitN_test h i
  unfold withN
  split
  · rename_i hp
    refine ⟨by simp only [Nat.testBit_or, hb]; congr 2; exact propext ⟨fun e => by omega, .inl⟩, ?_⟩
    have : ¬ (x = -(i + 1 : Nat)) := by omega
    rw [decide_eq_false this, Bool.or_false]
  · rename_i hp
    refine ⟨?_, by simp only [Nat.testBit_or, hb]; congr 2; exact propext ⟨fun e => by omega, .inr⟩⟩
    have : ¬ (x = (i + 1 : Nat)) := by have := h.1; omega
    rw [decide_eq_false this, Bool.or_false]
theorem and_zero_iff (y m : Nat) : y &&& m = 0 ↔ ∀ i, ¬ (y.testBit i = true ∧ m.testBit i = true) := by
  constructor
  · intro h i ⟨a, b⟩
    have := congrArg (fun z => z.testBit i) h
    simp [Nat.testBit_and, a, b] at this
  · intro h
    refine Nat.eq_of_testBit_eq fun i => ?_
    rw [Nat.testBit_and]
    have := h i
    cases a : y.testBit i <;> cases b : m.testBit i <;> simp_all
/-! ### the reference's loop -/
end Go.Proofs.YtfgfhplgnfbaaaaDoor
/- The plain law of formulas: a model's masks and its values say the same; so do the counts. -/
namespace Go.Proofs.YtfgfhplgnfbaaaaDoor
open Go Go.Ev
theorem add_or : ∀ (n x y : Nat), x < 2 ^ n → x &&& y = 0 → x + y = x ||| y := by
  intro n
  induction n with
  | zero => intro x y hx _; have : x = 0 := by simpa using hx
            subst this; simp
  | succ n ih =>
    intro x y hx h
    have hd := ih (x / 2) (y / 2) (by rw [Nat.pow_succ] at hx; omega) (by rw [← Nat.and_div_two, h])
    have h0 := Nat.testBit_and x y 0
    rw [h, Nat.zero_testBit] at h0
    have t := Nat.testBit_or x y 0
    rw [Nat.testBit_zero, Nat.testBit_zero] at h0
    rw [Nat.testBit_zero, Nat.testBit_zero, Nat.testBit_zero] at t
    have e := Nat.or_div_two (a := x) (b := y)
    have e2 : (x ||| y) % 2 = (x % 2 + y % 2) := by
      rcases Nat.mod_two_eq_zero_or_one x with a | a <;> rcases Nat.mod_two_eq_zero_or_one y with b | b <;> rcases Nat.mod_two_eq_zero_or_one (x ||| y) with c | c <;> rw [a, b] at h0 t <;> rw [c] at t <;> simp at h0 t <;> omega
    omega
theorem testBit_andn (a b i : Nat) : (a - (a &&& b)).testBit i = (a.testBit i && !b.testBit i) := by
  have h : (a ^^^ (a &&& b)) &&& (a &&& b) = 0 := Nat.eq_of_testBit_eq fun i => by
    simp only [Nat.testBit_and, Nat.testBit_xor, Nat.zero_testBit]
    cases a.testBit i <;> cases b.testBit i <;> rfl
  have h2 := add_or _ _ _ (Nat.lt_two_pow_self) h
  have h3 : (a ^^^ (a &&& b)) ||| (a &&& b) = a := Nat.eq_of_testBit_eq fun i => by
    simp only [Nat.testBit_and, Nat.testBit_xor, Nat.testBit_or]
    cases a.testBit i <;> cases b.testBit i <;> rfl
  have h4 : a - (a &&& b) = a ^^^ (a &&& b) := by omega
  rw [h4]
  simp only [Nat.testBit_and, Nat.testBit_xor]
  cases a.testBit i <;> cases b.testBit i <;> rfl
theorem sideF_test : ∀ {L : List Int} {y m : Nat}, (∀ x ∈ L, Lit x) → ∀ i : Nat,
    (sideF L y m).1.testBit i = (y.testBit i || decide (((i + 1 : Nat) : Int) ∈ L)) ∧ (sideF L y m).2.testBit i = (m.testBit i || decide (-((i + 1 : Nat) : Int) ∈ L)) := by
  intro L
  induction L with
  | nil => intro y m _ i; simp [sideF]
  | cons x L ih =>
    intro y m hl i
    obtain ⟨h1, h2⟩ := ih (y := (withN y m x).1) (m := (withN y m x).2) (fun z hz => hl z (List.mem_cons_of_mem _ hz)) i
    obtain ⟨w1, w2⟩ := withN_test (y := y) (m := m) (hl x (List.mem_cons_self ..)) i
    simp only [sideF]
    rw [h1, h2, w1, w2, Bool.or_assoc, Bool.or_assoc]
    refine ⟨?_, ?_⟩ <;> · congr 1; simp only [List.mem_cons]; rw [← Bool.decide_or]; congr 1; refine propext (or_congr ⟨fun e => e.symm, fun e => e.symm⟩ Iff.rfl)
theorem or_zero_iff (y m : Nat) : y ||| m = 0 ↔ ∀ i, y.testBit i = false ∧ m.testBit i = false := by
  constructor
  · intro h i
    have := congrArg (fun z => z.testBit i) h
    simpa [Nat.testBit_or] using this
  · intro h
    refine Nat.eq_of_testBit_eq fun i => ?_
    obtain ⟨a, b⟩ := h i
    rw [Nat.testBit_or, a, b, Nat.zero_testBit]; rfl
end Go.Proofs.YtfgfhplgnfbaaaaDoor
