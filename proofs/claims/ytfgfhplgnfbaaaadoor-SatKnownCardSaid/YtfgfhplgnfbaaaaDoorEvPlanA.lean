/- Plans of regions that draw: what their tests say. -/
import Derived.Test.YtfgfhplgnfbaaaaDoorEvCong
import Derived.Orders
namespace Go.Ev
open Go

/-! ### tables out of functions -/
def Tr.ofFn {α : Type} (f : Nat → α) : Nat → Tr α
  | 0 => .nil
  | k + 1 => .node (f 0) (Tr.ofFn (fun m => f (2 * m + 1)) k) (Tr.ofFn (fun m => f (2 * m + 2)) k)
theorem Tr.get_ofFn {α : Type} (d : α) : ∀ (k : Nat) (f : Nat → α) (n : Nat), n + 1 < 2 ^ k → (Tr.ofFn f k).get d n = f n := by
  intro k
  induction k with
  | zero => intro f n h; simp at h
  | succ k ih =>
    intro f n h
    cases n with
    | zero => rfl
    | succ m =>
      have h' : m / 2 + 1 < 2 ^ k := by rw [Nat.pow_succ] at h; omega
      rw [Tr.ofFn, Tr.get_node_succ]
      split
      · rw [ih _ _ h']; congr 1; omega
      · rw [ih _ _ h']; congr 1; omega
theorem Tr.has_ofFn {α : Type} : ∀ (k : Nat) (f : Nat → α) (n : Nat), n + 1 < 2 ^ k → (Tr.ofFn f k).has n = true := by
  intro k
  induction k with
  | zero => intro f n h; simp at h
  | succ k ih =>
    intro f n h
    cases n with
    | zero => rfl
    | succ m =>
      have h' : m / 2 + 1 < 2 ^ k := by rw [Nat.pow_succ] at h; omega
      show (if m % 2 = 0 then _ else _) = true
      split <;> exact ih _ _ h'
/-- A memory that holds what a function says, below a number. -/
def mkHp (f : Nat → Option Ob) (n : Nat) (g : List Nat) : Hp := ⟨Tr.ofFn (fun o => if o < n then f o else none) (n + 2), n, g⟩
theorem Tr.get_ofFn_none {α : Type} : ∀ (k : Nat) (f : Nat → Option α) (n : Nat), f n = none → (Tr.ofFn f k).get none n = none := by
  intro k
  induction k with
  | zero => intro f n h; rfl
  | succ k ih =>
    intro f n h
    cases n with
    | zero => exact h
    | succ m =>
      rw [Tr.ofFn, Tr.get_node_succ]
      split
      · exact ih _ _ (by rw [show 2 * (m / 2) + 1 = m + 1 by omega]; exact h)
      · exact ih _ _ (by rw [show 2 * (m / 2) + 2 = m + 1 by omega]; exact h)
theorem get_mkHp (f : Nat → Option Ob) (n : Nat) (g : List Nat) (o : Nat) : (mkHp f n g).get o = if o < n then f o else none := by
  unfold mkHp Hp.get
  by_cases h : o < n
  · rw [Tr.get_ofFn _ _ _ _ (by have : n + 2 < 2 ^ (n + 2) := Nat.lt_two_pow_self; omega), if_pos h]
  · simp only [if_neg h]
    exact Tr.get_ofFn_none _ _ _ (by simp [h])

/-! ### the masks -/
def maskOf (acc : List Nat) (o : Oper) : Nat := o.after.toList.foldl (fun m e => bif Region.binds .any e then (m ||| 2 ^ e.on ||| acc.getD e.on 0) else m) 0
theorem fold_bit (acc : List Nat) (k : Nat) : ∀ (es : List Edge) (m : Nat), (es.foldl (fun m e => bif Region.binds .any e then (m ||| 2 ^ e.on ||| acc.getD e.on 0) else m) m).testBit k = true ↔ m.testBit k = true ∨ ∃ e ∈ es, Region.binds .any e = true ∧ (k = e.on ∨ (acc.getD e.on 0).testBit k = true) := by
  intro es
  induction es with
  | nil => intro m; simp
  | cons e es ih =>
    intro m
    rw [List.foldl_cons, ih]
    cases hb : Region.binds .any e with
    | false => simp [hb]
    | true =>
      simp only [cond_true, Nat.testBit_or, Bool.or_eq_true, Nat.testBit_two_pow, decide_eq_true_eq, List.mem_cons, exists_eq_or_imp, hb, true_and]
      constructor
      · rintro (((h | h) | h) | h)
        · exact .inl h
        · exact .inr (.inl (.inl h.symm))
        · exact .inr (.inl (.inr h))
        · exact .inr (.inr h)
      · rintro (h | (h | h) | h)
        · exact .inl (.inl (.inl h))
        · exact .inl (.inl (.inr h.symm))
        · exact .inl (.inr h)
        · exact .inr h
theorem masksF_cons (o : Oper) (rest : List Oper) (acc : List Nat) : masksF (o :: rest) acc = masksF rest (acc ++ [maskOf acc o]) := rfl
theorem masksF_spec : ∀ (l : List Oper) (acc : List Nat), (masksF l acc).take acc.length = acc ∧ (masksF l acc).length = acc.length + l.length ∧
    ∀ (j : Nat) o, l[j]? = some o → (masksF l acc).getD (acc.length + j) 0 = maskOf ((masksF l acc).take (acc.length + j)) o := by
  intro l
  induction l with
  | nil => intro acc; exact ⟨List.take_length, by simp [masksF], fun j o h => by simp at h⟩
  | cons o l ih =>
    intro acc
    rw [masksF_cons]
    obtain ⟨h1, h2, h3⟩ := ih (acc ++ [maskOf acc o])
    simp only [List.length_append, List.length_cons, List.length_nil, Nat.zero_add] at h1 h2 h3
    refine ⟨?_, by rw [h2]; simp; omega, fun j q hj => ?_⟩
    · have := congrArg (List.take acc.length) h1
      rw [List.take_take, Nat.min_eq_left (by omega), List.take_left'  rfl] at this
      exact this
    · cases j with
      | zero =>
        simp at hj
        subst hj
        have h4 : (masksF l (acc ++ [maskOf acc o])).take acc.length = acc := by
          have := congrArg (List.take acc.length) h1
          rw [List.take_take, Nat.min_eq_left (by omega), List.take_left' rfl] at this
          exact this
        rw [Nat.add_zero, h4]
        have h5 : (masksF l (acc ++ [maskOf acc o]))[acc.length]? = (acc ++ [maskOf acc o])[acc.length]? := by
          rw [← h1, List.getElem?_take, if_pos (by omega)]
          rw [h1]
        simp [List.getD_eq_getElem?_getD, h5]
      | succ j =>
        have := h3 j q (by simpa using hj)
        rw [show acc.length + (j + 1) = acc.length + 1 + j by omega]
        exact this
theorem masks_bit {l : List Oper} {i : Nat} {o : Oper} (hi : l[i]? = some o) (k : Nat) : ((masks l).getD i 0).testBit k = true ↔ ∃ e ∈ o.after.toList, Region.binds .any e = true ∧ (k = e.on ∨ (e.on < i ∧ ((masks l).getD e.on 0).testBit k = true)) := by
  obtain ⟨_, h2, h3⟩ := masksF_spec l []
  have h3 := h3 i o hi
  simp only [List.length_nil, Nat.zero_add] at h3 h2
  show ((masksF l []).getD i 0).testBit k = true ↔ _
  rw [h3]
  unfold maskOf
  rw [fold_bit]
  have hin : i < l.length := (List.getElem?_eq_some_iff.1 hi).1
  have hg : ∀ j, ((masksF l []).take i).getD j 0 = if j < i then (masks l).getD j 0 else 0 := fun j => by
    rw [List.getD_eq_getElem?_getD, List.getElem?_take]
    split
    · rw [List.getD_eq_getElem?_getD]; rfl
    · rfl
  constructor
  · rintro (h | ⟨e, he, hb, h⟩)
    · simp at h
    · refine ⟨e, he, hb, h.imp id fun h => ?_⟩
      rw [hg] at h
      split at h
      · exact ⟨‹_›, h⟩
      · simp at h
  · rintro ⟨e, he, hb, h⟩
    refine .inr ⟨e, he, hb, h.imp id fun h => ?_⟩
    rw [hg, if_pos h.1]; exact h.2

/-! ### the plan's tests -/
theorem sub_bits {m done : Nat} (h : Nat.beq (m &&& done) m = true) {k : Nat} (hk : m.testBit k = true) : done.testBit k = true := by
  have := Nat.eq_of_beq_eq_true h
  have h2 : (m &&& done).testBit k = true := by rw [this]; exact hk
  rw [Nat.testBit_and, Bool.and_eq_true] at h2
  exact h2.2
theorem linearOk_spec {ms : List Nat} : ∀ (pl : List Nat) (done : Nat), linearOk ms done pl = true → pl.Nodup ∧ (∀ i ∈ pl, done.testBit i = false) ∧
    ∀ (p i : Nat), pl[p]? = some i → ∀ k, (ms.getD i 0).testBit k = true → done.testBit k = true ∨ ∃ r, r < p ∧ pl[r]? = some k := by
  intro pl
  induction pl with
  | nil => intro done _; exact ⟨List.nodup_nil, fun i h => by simp at h, fun p i h => by simp at h⟩
  | cons x pl ih =>
    intro done h
    simp only [linearOk, Bool.and_eq_true, Bool.not_eq_true'] at h
    obtain ⟨⟨h1, h2⟩, h3⟩ := h
    obtain ⟨k1, k2, k3⟩ := ih _ h3
    have hx : x ∉ pl := fun hx => by
      have := k2 x hx
      simp [Nat.testBit_or] at this
    refine ⟨List.nodup_cons.2 ⟨hx, k1⟩, fun i hi => ?_, fun p i hp k hk => ?_⟩
    · rcases List.mem_cons.1 hi with rfl | hi
      · exact h1
      · have := k2 i hi
        rw [Nat.testBit_or, Bool.or_eq_false_iff] at this
        exact this.1
    · cases p with
      | zero =>
        simp at hp
        subst hp
        exact .inl (sub_bits h2 hk)
      | succ p =>
        rcases k3 p i (by simpa using hp) k hk with h | ⟨r, hr, hrk⟩
        · rw [Nat.testBit_or, Bool.or_eq_true, Nat.testBit_two_pow, decide_eq_true_eq] at h
          rcases h with h | h
          · exact .inl h
          · exact .inr ⟨0, by omega, by simp [h]⟩
        · exact .inr ⟨r + 1, by omega, by simpa using hrk⟩
theorem pairsOk_spec {ops : List Oper} {ms : List Nat} : ∀ (pl : List Nat), pairsOk ops ms pl = true → ∀ (p r i j : Nat) a b, p < r → pl[p]? = some i → pl[r]? = some j → ops[i]? = some a → ops[j]? = some b → (ms.getD j 0).testBit i = true ∨ swapOk ops a b = true := by
  intro pl
  induction pl with
  | nil => intro _ p r i j a b _ hp; simp at hp
  | cons x pl ih =>
    intro h p r i j a b hpr hp hr ha hb
    simp only [pairsOk, Bool.and_eq_true] at h
    obtain ⟨h1, h2⟩ := h
    cases r with
    | zero => omega
    | succ r =>
      have hr : pl[r]? = some j := by simpa using hr
      cases p with
      | zero =>
        simp at hp
        subst hp
        have := List.all_eq_true.1 h1 j (List.mem_of_getElem? hr)
        rw [Bool.or_eq_true] at this
        rcases this with h | h
        · exact .inl h
        · rw [ha, hb] at h; exact .inr h
      | succ p => exact ih h2 p r i j a b (by omega) (by simpa using hp) hr ha hb
theorem nodup_length_le : ∀ (n : Nat) (l : List Nat), l.Nodup → (∀ x ∈ l, x < n) → l.length ≤ n := by
  intro n
  induction n with
  | zero => intro l _ h; cases l with
    | nil => simp
    | cons x l => exact absurd (h x (by simp)) (by omega)
  | succ n ih =>
    intro l hn h
    have h1 := ih (l.erase n) (hn.erase n) fun x hx => by
      have := h x (List.mem_of_mem_erase hx)
      have hne : x ≠ n := fun he => by rw [he] at hx; exact (List.Nodup.mem_erase_iff hn |>.1 hx).1 rfl
      omega
    have h2 : l.length ≤ (l.erase n).length + 1 := by
      rw [List.length_erase]
      split <;> omega
    omega
theorem plan_full {l : List Nat} {n : Nat} (hn : l.Nodup) (h : ∀ x ∈ l, x < n) (hl : l.length = n) {i : Nat} (hi : i < n) : ∃ p : Nat, l[p]? = some i := by
  by_cases hm : i ∈ l
  · exact List.getElem?_of_mem hm
  · have := nodup_length_le n (i :: l) (List.nodup_cons.2 ⟨hm, hn⟩) (fun x hx => by
      rcases List.mem_cons.1 hx with rfl | hx
      · exact hi
      · exact h x hx)
    simp at this; omega
end Go.Ev
