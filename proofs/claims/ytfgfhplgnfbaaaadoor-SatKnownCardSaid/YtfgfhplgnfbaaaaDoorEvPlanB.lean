/- Regions that draw: the slots. -/
import Derived.Test.YtfgfhplgnfbaaaaDoorEvPlan
namespace Go.Ev
open Go

theorem VR.undef_of {ι : Inj} {v : Value} (h : VR ι v undef) : v = undef := by
  cases h with
  | flat => rfl
  | tup ha =>
    rename_i a _
    have : a = #[] := Array.eq_empty_of_size_eq_zero ha.symm
    rw [this]; rfl
theorem Tr.get_ofFn_d {α : Type} (d : α) : ∀ (k : Nat) (f : Nat → α) (n : Nat), f n = d → (Tr.ofFn f k).get d n = d := by
  intro k
  induction k with
  | zero => intro f n h; rfl
  | succ k ih =>
    intro f n h
    cases n with
    | zero => exact h
    | succ m =>
      rw [Tr.ofFn, Tr.get_node_succ]
      split
      · exact ih _ _ (by rw [show 2 * (m / 2) + 1 = m + 1 by omega]; exact h)
      · exact ih _ _ (by rw [show 2 * (m / 2) + 2 = m + 1 by omega]; exact h)
theorem slot_setT {s : St} {d : Option Nat} {v : Value} {k : Nat} (h : d ≠ some k ∨ s.n ≤ k) : slot (s.setT d v) k = slot s.t k := by
  cases d with
  | none => rfl
  | some d =>
    simp only [St.setT]
    cases hd : Nat.blt d s.n with
    | false => rfl
    | true =>
      have hd : d < s.n := by simpa using hd
      have : k ≠ d := by
        rcases h with h | h
        · rintro rfl; exact h rfl
        · omega
      simp only [cond_true, slot, Tr.get_set, if_neg this]
theorem slot_setT_same {s : St} {d : Nat} {v : Value} (h : d < s.n) (hh : s.t.has d = true) : slot (s.setT (some d) v) d = v := by
  have : Nat.blt d s.n = true := by simpa using h
  simp only [St.setT, this, cond_true, slot, Tr.get_set, if_pos, hh]
theorem has_setT {s : St} {d : Option Nat} {v : Value} {k : Nat} : (s.setT d v).has k = s.t.has k := by
  cases d with
  | none => rfl
  | some d =>
    simp only [St.setT]
    cases Nat.blt d s.n with
    | false => rfl
    | true => simp only [cond_true, Tr.has_set]
theorem Did.set {P : Program} {cf : CallF} {ops : Array Oper} {ms : List Nat} {n0 i : Nat} {o : Oper} {q q' : Rds × St} (h : Did P cf ops ms n0 i o q q') : ∃ v, q'.2.t = q.2.setT o.dst v := by
  cases h with
  | skip _ ht => exact ⟨_, ht⟩
  | pure _ _ _ _ ht => exact ⟨_, ht⟩
  | read _ _ _ _ _ ht => exact ⟨_, ht⟩
  | mk _ _ _ _ _ ht => exact ⟨_, ht⟩
  | eff _ _ _ _ _ ht => exact ⟨_, ht⟩

section
variable {P : Program} {cf : CallF} {ops : Array Oper} {pl : List Nat} {s0 : St} {qs : Nat → Rds × St}
  (h0 : qs 0 = ([], { s0 with h := { s0.h with nx := s0.h.nx + ops.size } }))
  (hq : ∀ (p i : Nat), pl[p]? = some i → ∃ o, ops[i]? = some o ∧ (qs (p + 1)).2.n = (qs p).2.n ∧ Did P cf ops (masks ops.toList) s0.h.nx i o (qs p) (qs (p + 1)))
include h0 hq

theorem seq_n : ∀ p, p ≤ pl.length → (qs p).2.n = s0.n := by
  intro p
  induction p with
  | zero => intro _; rw [h0]
  | succ p ih =>
    intro h
    obtain ⟨o, _, h2, _⟩ := hq p _ (List.getElem?_eq_getElem (show p < pl.length by omega))
    rw [h2]; exact ih (by omega)
theorem seq_has (hh : ∀ d, d < s0.n → s0.t.has d = true) : ∀ p, p ≤ pl.length → ∀ d, d < s0.n → (qs p).2.t.has d = true := by
  intro p
  induction p with
  | zero => intro _ d hd; rw [h0]; exact hh d hd
  | succ p ih =>
    intro h d hd
    obtain ⟨o, _, _, h3⟩ := hq p _ (List.getElem?_eq_getElem (show p < pl.length by omega))
    obtain ⟨v, hv⟩ := h3.set
    rw [hv, has_setT]; exact ih (by omega) d hd
/-- A slot that none writes. -/
theorem seq_slot {d p : Nat} : ∀ k, p + k ≤ pl.length → ((∀ r i o, p ≤ r → r < p + k → pl[r]? = some i → ops[i]? = some o → o.dst ≠ some d) ∨ s0.n ≤ d) → slot (qs (p + k)).2.t d = slot (qs p).2.t d := by
  intro k
  induction k with
  | zero => intro _ _; rfl
  | succ k ih =>
    intro h hno
    obtain ⟨o, ho, _, h3⟩ := hq (p + k) _ (List.getElem?_eq_getElem (show p + k < pl.length by omega))
    obtain ⟨v, hv⟩ := h3.set
    show slot (qs (p + k + 1)).2.t d = _
    rw [hv, slot_setT]
    · exact ih (by omega) (hno.imp (fun hno r i o h1 h2 => hno r i o h1 (by omega)) id)
    · rcases hno with hno | hno
      · exact .inl (hno (p + k) _ o (by omega) (by omega) (List.getElem?_eq_getElem (show p + k < pl.length by omega)) ho)
      · right; rw [seq_n h0 hq (p + k) (by omega)]; exact hno
theorem seq_slot_to {d p p' : Nat} (hpp : p ≤ p') (hl : p' ≤ pl.length) (hno : (∀ r i o, p ≤ r → r < p' → pl[r]? = some i → ops[i]? = some o → o.dst ≠ some d) ∨ s0.n ≤ d) : slot (qs p').2.t d = slot (qs p).2.t d := by
  obtain ⟨k, rfl⟩ := Nat.exists_eq_add_of_le hpp
  exact seq_slot h0 hq k hl hno
end

/-! ### what the plan says of an operation whose turn it is -/
section
variable {ops : Array Oper} {pl : List Nat} (hp : PlanOk ops (masks ops.toList) pl) {L : Nat → Bool} (hcl : ∀ i, i < ops.size → L i = true → ∀ k, ((masks ops.toList).getD i 0).testBit k = true → L k = true)
  {i p : Nat} {o : Oper} (hi : ops[i]? = some o) (hpi : pl[p]? = some i) (hLi : L i = false) (hr : ∀ k, ((masks ops.toList).getD i 0).testBit k = true → L k = true)
include hp hi hpi hr

theorem before_in {r j : Nat} {b : Oper} (hrp : r < p) (hrj : pl[r]? = some j) (hj : ops[j]? = some b) (hs : swapOk ops.toList b o = false) : L j = true := by
  rcases hp.pairs r p j i b o hrp hrj hpi hj hi with h | h
  · exact hr j h
  · rw [hs] at h; cases h
omit hr
include hcl hLi
theorem behind_out {r j : Nat} {b : Oper} (hrp : p < r) (hrj : pl[r]? = some j) (hj : ops[j]? = some b) (hs : swapOk ops.toList o b = false) : L j = false := by
  rcases hp.pairs p r i j o b hrp hpi hrj hi hj with h | h
  · cases hL : L j with
    | false => rfl
    | true => rw [hcl j (Array.getElem?_eq_some_iff.1 hj).1 hL i h] at hLi; cases hLi
  · rw [hs] at h; cases h
include hr
/-- Of the names that the operation uses, those who write them ahead of it have, and no others. -/
theorem cut_at {d : Nat} (hd : d ∈ namesOf ops.toList o) : ∀ r j b, pl[r]? = some j → ops[j]? = some b → b.dst = some d → (L j = true ↔ r < p) := by
  intro r j b hrj hj hb
  have hany : (namesOf ops.toList o).any (Nat.beq d) = true := List.any_eq_true.2 ⟨d, hd, Nat.beq_refl d⟩
  rcases Nat.lt_trichotomy r p with h | h | h
  · have := before_in hp hi hpi hr h hrj hj (by unfold swapOk; rw [hb]; simp [hany])
    exact ⟨fun _ => h, fun _ => this⟩
  · subst h
    rw [hpi] at hrj
    obtain rfl := Option.some.inj hrj
    rw [hLi]
    exact ⟨fun h => (by cases h), fun h => absurd h (Nat.lt_irrefl _)⟩
  · have := behind_out hp hcl hi hpi hLi h hrj hj (by
      unfold swapOk; rw [hb]
      simp only [hany, Bool.not_true, Bool.and_false, Bool.false_and])
    rw [this]
    exact ⟨fun h => (by cases h), fun h' => by omega⟩
end
end Go.Ev
