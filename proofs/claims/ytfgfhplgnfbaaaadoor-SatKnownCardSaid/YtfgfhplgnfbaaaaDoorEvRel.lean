/- How the evaluator's memory and the model's are related, and small laws. -/
import Derived.Test.YtfgfhplgnfbaaaaDoorEvDefs
import Derived.Laws.Cells
namespace Go.Ev
open Go

/-! ### tables -/
theorem Tr.get_node_zero {α : Type} (d v : α) (l r : Tr α) : (Tr.node v l r).get d 0 = v := rfl
theorem Tr.get_node_succ {α : Type} (d v : α) (l r : Tr α) (m : Nat) : (Tr.node v l r).get d (m + 1) = if m % 2 = 0 then l.get d (m / 2) else r.get d (m / 2) := by
  have h : m % 2 = 0 ∨ m % 2 = 1 := by omega
  show Nat.rec (motive := fun _ => α) (l.get d (m / 2)) (fun _ _ => r.get d (m / 2)) (m % 2) = _
  rcases h with h | h <;> rw [h] <;> rfl
theorem Tr.get_nil {α : Type} (d : α) (n : Nat) : (Tr.nil : Tr α).get d n = d := rfl
theorem Tr.set_nil {α : Type} (n : Nat) (x : α) : (Tr.nil : Tr α).set n x = .nil := rfl
theorem Tr.set_node_zero {α : Type} (v x : α) (l r : Tr α) : (Tr.node v l r).set 0 x = .node x l r := rfl
theorem Tr.set_node_succ {α : Type} (v x : α) (l r : Tr α) (m : Nat) : (Tr.node v l r).set (m + 1) x = if m % 2 = 0 then .node v (l.set (m / 2) x) r else .node v l (r.set (m / 2) x) := by
  have h : m % 2 = 0 ∨ m % 2 = 1 := by omega
  show Nat.rec (motive := fun _ => Tr α) (Tr.node v (l.set (m / 2) x) r) (fun _ _ => .node v l (r.set (m / 2) x)) (m % 2) = _
  rcases h with h | h <;> rw [h] <;> rfl

/-- Is there room for a number in a table? -/
def Tr.has {α : Type} : Tr α → Nat → Bool
  | .nil, _ => false
  | .node _ l r, n => match n with
    | 0 => true
    | m + 1 => if m % 2 = 0 then l.has (m / 2) else r.has (m / 2)

theorem Tr.get_set {α : Type} (d x : α) (t : Tr α) : ∀ n m, (t.set n x).get d m = if m = n then (if t.has n then x else d) else t.get d m := by
  induction t with
  | nil => intro n m; rw [Tr.set_nil, Tr.get_nil]; simp [Tr.has]
  | node v l r ihl ihr =>
    intro n m
    cases n with
    | zero =>
      rw [Tr.set_node_zero]
      cases m with
      | zero => simp [Tr.get_node_zero, Tr.has]
      | succ m => rw [Tr.get_node_succ, Tr.get_node_succ]; simp
    | succ n =>
      rw [Tr.set_node_succ]
      cases m with
      | zero => split <;> simp [Tr.get_node_zero]
      | succ m =>
        rw [Tr.get_node_succ]
        by_cases hn : n % 2 = 0
        · rw [if_pos hn, Tr.get_node_succ]
          by_cases hm : m % 2 = 0
          · rw [if_pos hm, if_pos hm, ihl]
            by_cases e : m = n
            · subst e; simp [Tr.has, hm]
            · rw [if_neg (by omega), if_neg (by omega)]
          · rw [if_neg hm, if_neg hm, if_neg (by omega)]
        · rw [if_neg hn, Tr.get_node_succ]
          by_cases hm : m % 2 = 0
          · rw [if_pos hm, if_pos hm, if_neg (by omega)]
          · rw [if_neg hm, if_neg hm, ihr]
            by_cases e : m = n
            · subst e; simp [Tr.has, hm]
            · rw [if_neg (by omega), if_neg (by omega)]

theorem Tr.has_set {α : Type} (x : α) (t : Tr α) : ∀ n m, (t.set n x).has m = t.has m := by
  induction t with
  | nil => intro n m; rfl
  | node v l r ihl ihr =>
    intro n m
    cases n with
    | zero => cases m <;> rfl
    | succ n =>
      rw [Tr.set_node_succ]
      cases m with
      | zero => split <;> rfl
      | succ m =>
        split
        · show (if m % 2 = 0 then (l.set (n / 2) x).has (m / 2) else r.has (m / 2)) = _
          rw [ihl]; rfl
        · show (if m % 2 = 0 then l.has (m / 2) else (r.set (n / 2) x).has (m / 2)) = _
          rw [ihr]; rfl

theorem Tr.full_succ {α : Type} (d : α) (k : Nat) : Tr.full d (k + 1) = .node d (Tr.full d k) (Tr.full d k) := rfl
theorem Tr.has_full {α : Type} (d : α) : ∀ k n, n + 1 < 2 ^ k → (Tr.full d k).has n = true := by
  intro k
  induction k with
  | zero => intro n h; simp at h
  | succ k ih =>
    intro n h
    rw [Tr.full_succ]
    cases n with
    | zero => rfl
    | succ m =>
      have h' : m / 2 + 1 < 2 ^ k := by rw [Nat.pow_succ] at h; omega
      show (if m % 2 = 0 then _ else _) = true
      split <;> exact ih _ h'
theorem Tr.get_full {α : Type} (d : α) : ∀ k n, (Tr.full d k).get d n = d := by
  intro k
  induction k with
  | zero => intro n; rfl
  | succ k ih =>
    intro n
    rw [Tr.full_succ]
    cases n with
    | zero => rfl
    | succ m => rw [Tr.get_node_succ]; split <;> exact ih _

/-! ### memory -/
theorem Hp.get_put {h h' : Hp} {o : Nat} {x : Option Ob} (hp : h.put o x = some h') : h'.nx = h.nx ∧ h'.gd = h.gd ∧ h.guarded o = false ∧
    ∀ q, h'.get q = if q = o then (if h.t.has o then x else none) else h.get q := by
  unfold Hp.put at hp
  cases hg : h.guarded o with
  | true => rw [hg] at hp; cases hp
  | false =>
    rw [hg] at hp
    obtain rfl := Option.some.inj hp
    exact ⟨rfl, rfl, rfl, fun q => Tr.get_set ..⟩
theorem Hp.get_add (h : Hp) (x : Ob) (q : Nat) : (h.add x).get q = if q = h.nx then (if h.t.has h.nx then some x else none) else h.get q := Tr.get_set ..
theorem Hp.get_addAt {h h' : Hp} {k : Nat} {x : Ob} (hp : h.addAt k x = some h') : h'.nx = h.nx ∧ h'.gd = h.gd ∧ h.get k = none ∧
    ∀ q, h'.get q = if q = k then (if h.t.has k then some x else none) else h.get q := by
  unfold Hp.addAt at hp
  split at hp
  · rename_i hk
    obtain rfl := Option.some.inj hp
    exact ⟨rfl, rfl, hk, fun q => Tr.get_set ..⟩
  · cases hp

/-! ### lists -/
theorem nth_eq {α : Type} (l : List α) : ∀ n, nth l n = l[n]? := by
  induction l with
  | nil => intro n; rfl
  | cons a l ih =>
    intro n
    cases n with
    | zero => rfl
    | succ n => show nth l n = _; rw [ih]; rfl
theorem mapO_nil {α β : Type} (f : α → Option β) : mapO f [] = some [] := rfl
theorem mapO_cons {α β : Type} (f : α → Option β) (a : α) (l : List α) : mapO f (a :: l) = (f a).bind fun b => (mapO f l).map (b :: ·) := rfl
theorem mapO_some {α β : Type} {f : α → Option β} : ∀ {l : List α} {r : List β}, mapO f l = some r → r.length = l.length ∧ ∀ (i : Nat) a, l[i]? = some a → ∃ b, r[i]? = some b ∧ f a = some b := by
  intro l
  induction l with
  | nil => intro r h; obtain rfl := Option.some.inj h; exact ⟨rfl, fun i a h => by simp at h⟩
  | cons x l ih =>
    intro r h
    rw [mapO_cons] at h
    obtain ⟨b, hb, h⟩ := Option.bind_eq_some_iff.1 h
    obtain ⟨r', hr', rfl⟩ := Option.map_eq_some_iff.1 h
    obtain ⟨h1, h2⟩ := ih hr'
    refine ⟨by simp [h1], fun i a hi => ?_⟩
    cases i with
    | zero => simp at hi; subst hi; exact ⟨b, rfl, hb⟩
    | succ i => simpa using h2 i a (by simpa using hi)
theorem putAt_length {α : Type} : ∀ (l : List α) (n : Nat) (v : List α), (putAt l n v).length = l.length := by
  intro l
  induction l with
  | nil => intro n v; cases n <;> cases v <;> rfl
  | cons x l ih =>
    intro n v
    cases n with
    | zero => cases v with
      | nil => rfl
      | cons y v => simp [putAt, ih]
    | succ n => simp [putAt, ih]
theorem putAt_get {α : Type} : ∀ (l : List α) (n : Nat) (v : List α), n + v.length ≤ l.length → ∀ i, (putAt l n v)[i]? = if n ≤ i ∧ i < n + v.length then v[i - n]? else l[i]? := by
  intro l
  induction l with
  | nil =>
    intro n v h i
    have h1 : n = 0 := by simp at h; omega
    have h2 : v = [] := by cases v <;> simp_all
    subst h1; subst h2
    simp [putAt]
  | cons x l ih =>
    intro n v h i
    cases n with
    | zero => cases v with
      | nil => simp [putAt]
      | cons y v =>
        cases i with
        | zero => simp [putAt]
        | succ i =>
          have := ih 0 v (by simp at h ⊢; omega) i
          simp only [putAt, List.getElem?_cons_succ, this]
          by_cases hi : i < v.length
          · rw [if_pos ⟨by omega, by omega⟩, if_pos ⟨by omega, by simp; omega⟩]; simp
          · rw [if_neg (by omega), if_neg (by simp; omega)]
    | succ n =>
      cases i with
      | zero => simp [putAt]
      | succ i =>
        have := ih n v (by simp at h; omega) i
        simp only [putAt, List.getElem?_cons_succ, this]
        by_cases hi : n ≤ i ∧ i < n + v.length
        · rw [if_pos hi, if_pos (by omega)]
          congr 1; omega
        · rw [if_neg hi, if_neg (by omega)]
end Go.Ev
