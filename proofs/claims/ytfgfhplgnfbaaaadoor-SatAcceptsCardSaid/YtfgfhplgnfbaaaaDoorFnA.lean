/- Contracts of small functions of layer 20. -/
import Derived.Test.YtfgfhplgnfbaaaaDoorOutA
import Derived.Test.YtfgfhplgnfbaaaaDoorVcB
import Derived.Test.YtfgfhplgnfbaaaaDoorWkA
namespace Go.Proofs.YtfgfhplgnfbaaaaDoor
open Go Go.Ev

abbrev EvT := EvC Tryd.prog
/-- All but one function are evaluated. -/
def Oth (O : CallF) : Prop := ∀ f args h, f ≠ 27 → O f args h = none

theorem isNat_of {n : Nat} {K : Nat → Prop} (h : K n) : isNat (Int.ofNat n) K := h
theorem EvC.of_ret {O : CallF} {f : FuncId} {args : List Value} {h : Hp} {v : Value} {h' : Hp} (hr : Ret Tryd.prog O f args h fun a b => a = v ∧ b = h') : EvT O f args h v h' := by
  obtain ⟨a, b, h1, rfl, rfl⟩ := hr; exact h1

/-- The variable of a literal. -/
def varI (x : Int) : Int := if x < -30 ∨ 30 < x then 0 else if x < 0 then -x else x
theorem max_neg {x : Int} (h1 : ¬ x < -30) (h2 : ¬ 30 < x) : maxI x (wrapF .i64 (0 - x)) = if x < 0 then -x else x := by
  rw [wrap64 (by omega) (by omega)]
  unfold maxI
  rw [ltI_eq]
  by_cases hx : x < 0
  · rw [if_pos hx, decide_eq_true (by omega)]; simp
  · rw [if_neg hx]
    by_cases hz : x < 0 - x
    · omega
    · rw [decide_eq_false hz]; rfl

section
variable {O : CallF} (hO : Oth O)
include hO

theorem ct94 (x : Int) (h : Hp) : EvT O 94 [.int .i64 x] h (.int .i64 (varI x)) h := by
  refine EvC.of_ret (rk94 x (hO _ _ _ (by decide)) ?_)
  unfold T94 varI
  refine vcond_split (fun h1 => ?_) fun h1 => vcond_split (fun h2 => ?_) fun h2 => ?_
  · rw [if_pos (.inl (lt_of_t h1))]; exact ⟨rfl, rfl⟩
  · rw [if_pos (.inr (lt_of_t h2))]; exact ⟨rfl, rfl⟩
  · have h1 := not_lt_of_f h1; have h2 := not_lt_of_f h2
    rw [if_neg (by omega), max_neg h1 h2]; exact ⟨rfl, rfl⟩
theorem ct98 (x : Int) (h : Hp) : EvT O 98 [.int .i64 x] h (.int .i64 (varI x)) h := by
  refine EvC.of_ret (rk98 x (hO _ _ _ (by decide)) ?_)
  unfold T98 varI
  refine vcond_split (fun h1 => vcond_split (fun h2 => ?_) fun h2 => ?_) fun h1 => ?_
  · have h1 := not_lt_of_f (by simpa using h1); have h2 := not_lt_of_f (by simpa using h2)
    rw [if_neg (by omega), max_neg h1 h2]; exact ⟨rfl, rfl⟩
  · rw [if_pos (.inr (lt_of_t (by simpa using h2)))]; exact ⟨rfl, rfl⟩
  · rw [if_pos (.inl (lt_of_t (by simpa using h1)))]; exact ⟨rfl, rfl⟩
end

/-- A list is a clause, behind a variable. -/
def clB (vars : Int) : Int → List Int → Bool
  | _, [] => true
  | last, x :: xs => if varI x ≤ last ∨ vars < varI x then false else clB vars (varI x) xs

section
variable {O : CallF} (hO : Oth O)
include hO

theorem lp87 {a : Option Addr} {n c : Nat} {vars : Int} {h : Hp} {xs : List Int} (H : IntsAt h a n xs) (hl : xs.length < 1000000) {Q : Value → Hp → Prop} :
    ∀ (d k : Nat), k + d = xs.length → ∀ (last : Int) (q : Bool), Q (.bool (clB vars last (xs.drop k))) h → I87_0 O Q a n c vars q last (Int.ofNat k) h := by
  have hn := H.1
  intro d
  induction d with
  | zero =>
    intro k hk last q hQ
    refine I87_0.of _ _ _ _ _ _ _ ?_
    intros
    unfold T87_0
    refine vcond_f (by rw [ltI_nat]; exact blt_f (by omega)) ?_
    rw [List.drop_of_length_le (by omega)] at hQ
    exact hQ
  | succ d ih =>
    intro k hk last q hQ
    refine I87_0.of _ _ _ _ _ _ _ ?_
    intros
    unfold T87_0
    refine vcond_t (by rw [ltI_nat]; exact blt_t (by omega)) (isNat_of (H.get (k := k) (by omega) fun b off h1 h2 hr => vreq_t (blt_t (by omega)) ⟨_, hr, _, _, ct94 hO _ _, ?_⟩))
    rw [List.drop_eq_getElem_cons (show k < xs.length by omega)] at hQ
    simp only [clB] at hQ
    refine vcond_split (fun h1 => ?_) fun h1 => vcond_split (fun h2 => ?_) fun h2 => ?_
    · rw [if_pos (.inl (by have := not_lt_of_f (by simpa using h1); omega))] at hQ; exact hQ
    · rw [if_pos (.inr (lt_of_t h2))] at hQ; exact hQ
    · have h1 := lt_of_t (by simpa using h1)
      have h2 := not_lt_of_f h2
      rw [if_neg (by omega)] at hQ
      rw [wrap_succ (by omega)]
      exact ih (k + 1) (by omega) _ _ hQ ..
theorem ct87 {a : Option Addr} {n c : Nat} (vars : Int) {h : Hp} {xs : List Int} (H : IntsAt h a n xs) (hl : xs.length < 1000000) : EvT O 87 [.slice a n c, .int .i64 vars] h (.bool (clB vars 0 xs)) h := by
  refine EvC.of_ret (rk87 _ _ _ _ (hO _ _ _ (by decide)) ?_)
  unfold T87
  exact lp87 hO H hl xs.length 0 (by omega) 0 false ⟨rfl, rfl⟩ ..

theorem lp105 {a : Option Addr} {n c : Nat} {vars : Int} {h : Hp} {xs : List Int} (H : IntsAt h a n xs) (hl : xs.length < 1000000) {Q : Value → Hp → Prop} :
    ∀ (d k : Nat), k + d = xs.length → ∀ (q : Bool), Q (.bool (clB vars (if k = 0 then 0 else varI (xs.getD (k - 1) 0)) (xs.drop k))) h → I105_0 O Q a n c vars q (Int.ofNat k) h := by
  have hn := H.1
  intro d
  induction d with
  | zero =>
    intro k hk q hQ
    refine I105_0.of _ _ _ _ _ _ ?_
    intros
    unfold T105_0
    refine vcond_f (by rw [ltI_nat]; exact blt_f (by omega)) ?_
    rw [List.drop_of_length_le (by omega)] at hQ
    exact hQ
  | succ d ih =>
    intro k hk q hQ
    refine I105_0.of _ _ _ _ _ _ ?_
    intros
    unfold T105_0
    refine vcond_t (by rw [ltI_nat]; exact blt_t (by omega)) (isNat_of (H.get (k := k) (by omega) fun b off h1 h2 hr => vreq_t (blt_t (by omega)) ⟨_, hr, _, _, ct98 hO _ _, ?_⟩))
    rw [List.drop_eq_getElem_cons (show k < xs.length by omega)] at hQ
    simp only [clB] at hQ
    have hnn : ∀ x, 0 ≤ varI x := fun x => by unfold varI; (repeat' split) <;> omega
    have hlast : 0 ≤ (if k = 0 then (0 : Int) else varI (xs.getD (k - 1) 0)) := by
      split
      · omega
      · exact hnn _
    have next : varI xs[k] = (if k + 1 = 0 then (0 : Int) else varI (xs.getD (k + 1 - 1) 0)) := by
      rw [if_neg (by omega), Nat.add_sub_cancel]
      simp [show k < xs.length by omega]
    refine vcond_split (fun h2 => ?_) fun h2 => vcond_split (fun h3 => ?_) fun h3 => vcond_split (fun h4 => ?_) fun h4 => ?_
    · have h2 := lt_of_t h2
      rw [if_pos (.inl (by omega))] at hQ; exact hQ
    · rw [if_pos (.inr (lt_of_t h3))] at hQ; exact hQ
    · have h4 : 0 < k := lt_of_blt h4
      have e : wrapF .i64 (Int.ofNat k - 1) = Int.ofNat (k - 1) := by
        rw [wrap64] <;> simp <;> omega
      rw [e]
      refine isNat_of (H.get (k := k - 1) (by omega) fun b off h1 h2 hr => vreq_t (blt_t (by omega)) ⟨_, hr, _, _, ct98 hO _ _, ?_⟩)
      rw [if_neg (by omega : ¬ k = 0)] at hQ
      have e2 : xs.getD (k - 1) 0 = xs[k - 1]'(by omega) := by simp [show k - 1 < xs.length by omega]
      rw [e2] at hQ
      refine vcond_split (fun h5 => ?_) fun h5 => ?_
      · rw [if_pos (.inl (by have := not_lt_of_f (by simpa using h5); omega))] at hQ; exact hQ
      · have h5 := lt_of_t (by simpa using h5)
        have h3 := not_lt_of_f h3
        rw [if_neg (by omega), next] at hQ
        rw [wrap_succ (by omega)]
        exact ih (k + 1) (by omega) _ hQ ..
    · have h4 : k = 0 := by have : ¬ (0 : Int) < (k : Int) := not_lt_of_f h4; omega
      subst h4
      have h2 := not_lt_of_f h2
      have h3 := not_lt_of_f h3
      rw [if_pos rfl, if_neg (by omega), next] at hQ
      rw [wrap_succ (by omega)]
      exact ih 1 (by omega) _ hQ ..
theorem ct105 {a : Option Addr} {n c : Nat} (vars : Int) {h : Hp} {xs : List Int} (H : IntsAt h a n xs) (hl : xs.length < 1000000) : EvT O 105 [.slice a n c, .int .i64 vars] h (.bool (clB vars 0 xs)) h := by
  refine EvC.of_ret (rk105 _ _ _ _ (hO _ _ _ (by decide)) ?_)
  unfold T105
  exact lp105 hO H hl xs.length 0 (by omega) false ⟨rfl, rfl⟩ ..

/-- The variable's digit. -/
theorem ct84 {x : Int} (h1 : x ≠ 0) (h2 : -30 ≤ x) (h3 : x ≤ 30) (h : Hp) : EvT O 84 [.int .i64 x] h (.int .u32 (Int.ofNat (2 ^ (x.natAbs - 1)))) h := by
  refine EvC.of_ret (rk84 x (hO _ _ _ (by decide)) ?_)
  unfold T84
  have e : wrapF .i64 (maxI x (wrapF .i64 (0 - x)) - 1) = Int.ofNat (x.natAbs - 1) := by
    rw [max_neg (by omega) (by omega), wrap64]
    · simp only [Int.ofNat_eq_natCast]; split <;> omega
    · split <;> omega
    · split <;> omega
  rw [e]
  refine vreq_t rfl ⟨?_, rfl⟩
  show Value.int .u32 (shlF .u32 1 (x.natAbs - 1)) = _
  have hx : x.natAbs - 1 < 30 := by omega
  generalize x.natAbs - 1 = m at hx
  congr 1
  revert m
  decide +kernel

def idxI (x : Int) : List Int → Nat → Int
  | [], _ => -1
  | y :: ys, k => if x = y then k else idxI x ys (k + 1)
theorem lp61 {a : Option Addr} {n c : Nat} {x : Int} {h : Hp} {xs : List Int} (H : IntsAt h a n xs) (hl : xs.length < 1000000) {Q : Value → Hp → Prop} :
    ∀ (d k : Nat), k + d = xs.length → ∀ (z : Int), Q (.int .i64 (idxI x (xs.drop k) k)) h → I61_0 O Q a n c x z (Int.ofNat k) h := by
  have _ := hO
  have hn := H.1
  intro d
  induction d with
  | zero =>
    intro k hk z hQ
    refine I61_0.of _ _ _ _ _ _ ?_
    intros
    unfold T61_0
    refine vcond_f (by rw [ltI_nat]; exact blt_f (by omega)) ?_
    rw [List.drop_of_length_le (by omega)] at hQ
    exact hQ
  | succ d ih =>
    intro k hk z hQ
    refine I61_0.of _ _ _ _ _ _ ?_
    intros
    unfold T61_0
    refine vcond_t (by rw [ltI_nat]; exact blt_t (by omega)) (isNat_of (H.get (k := k) (by omega) fun b off h1 h2 hr => vreq_t (blt_t (by omega)) ⟨_, hr, ?_⟩))
    rw [List.drop_eq_getElem_cons (show k < xs.length by omega)] at hQ
    simp only [idxI] at hQ
    refine vcond_split (fun h1 => ?_) fun h1 => ?_
    · rw [if_pos (eq_of_t h1)] at hQ; exact hQ
    · rw [if_neg (ne_of_f h1)] at hQ
      rw [wrap_succ (by omega)]
      exact ih (k + 1) (by omega) _ hQ ..
theorem ct61 {a : Option Addr} {n c : Nat} (x : Int) {h : Hp} {xs : List Int} (H : IntsAt h a n xs) (hl : xs.length < 1000000) : EvT O 61 [.slice a n c, .int .i64 x] h (.int .i64 (idxI x xs 0)) h := by
  refine EvC.of_ret (rk61 _ _ _ _ (hO _ _ _ (by decide)) ?_)
  unfold T61
  exact lp61 hO H hl xs.length 0 (by omega) 0 ⟨rfl, rfl⟩ ..
omit hO in
theorem idxI_lt (x : Int) : ∀ (xs : List Int) (k : Nat), idxI x xs k < 0 ↔ ¬ x ∈ xs := by
  intro xs
  induction xs with
  | nil => intro k; simp [idxI]
  | cons y ys ih =>
    intro k
    simp only [idxI]
    split
    · rename_i h; subst h; simp
    · rename_i h; rw [ih]; simp [h]
theorem ct62 {a : Option Addr} {n c : Nat} (x : Int) {h : Hp} {xs : List Int} (H : IntsAt h a n xs) (hl : xs.length < 1000000) : EvT O 62 [.slice a n c, .int .i64 x] h (.bool (decide (x ∈ xs))) h := by
  refine EvC.of_ret (rk62 _ _ _ _ (hO _ _ _ (by decide)) ?_)
  unfold T62
  refine ⟨_, _, ct61 hO x H hl, ?_, rfl⟩
  congr 1
  rw [ltI_eq]
  have := idxI_lt x xs 0
  by_cases hx : x ∈ xs
  · rw [decide_eq_true hx, decide_eq_false (by rw [this]; simpa using hx)]; rfl
  · rw [decide_eq_false hx, decide_eq_true (by rw [this]; exact hx)]; rfl

theorem lp26 {a a' : Option Addr} {n c n' c' : Nat} {xs ys : List Int} (hl : xs.length < 1000000) (he : xs.length = ys.length) {Q : Value → Hp → Prop} :
    ∀ (d k : Nat), k + d = xs.length → ∀ (q : Bool) {h : Hp}, IntsAt h a n xs → IntsAt h a' n' ys → (∀ h', Kp h.nx h h' → Q (.bool (decide (xs.drop k = ys.drop k))) h') → I26_0 O Q a n c a' n' c' q (Int.ofNat k) h := by
  have _ := hO
  intro d
  induction d with
  | zero =>
    intro k hk q h H H' hQ
    have hn := H.1
    refine I26_0.of _ _ _ _ _ _ _ _ ?_
    intros
    unfold T26_0
    refine vcond_f (by rw [ltI_nat]; exact blt_f (by omega)) ?_
    have := hQ h (.refl _ _)
    rw [List.drop_of_length_le (by omega), List.drop_of_length_le (by omega)] at this
    simpa using this
  | succ d ih =>
    intro k hk q h H H' hQ
    have hn := H.1
    have hn' := H'.1
    refine I26_0.of _ _ _ _ _ _ _ _ ?_
    intros
    unfold T26_0
    refine vcond_t (by rw [ltI_nat]; exact blt_t (by omega)) (isNat_of (H.get (k := k) (by omega) fun b off h1 h2 hr => vreq_t (blt_t (by omega)) ⟨_, hr, ?_⟩))
    refine isNat_of (H'.get (k := k) (by omega) fun b' off' h1' h2' hr' => vreq_t (blt_t (by omega)) ⟨_, hr', ?_⟩)
    have kp : Kp h.nx h (h.rsv 9) := (Kp.refl _ _).rsv 9
    have e1 : xs.drop k = xs[k] :: xs.drop (k + 1) := List.drop_eq_getElem_cons (by omega)
    have e2 : ys.drop k = ys[k] :: ys.drop (k + 1) := List.drop_eq_getElem_cons (by omega)
    rw [e1, e2] at hQ
    refine vcond_split (fun h3 => ?_) fun h3 => ?_
    · have h3 := ne_of_f (by simpa using h3)
      have := hQ _ kp
      rw [decide_eq_false (by intro hh; injection hh with hh _; exact h3 hh)] at this
      exact this
    · have h3 := eq_of_t (by simpa using h3)
      rw [wrap_succ (by omega)]
      refine ih (k + 1) (by omega) _ (H.up EInt.up kp) (H'.up EInt.up kp) (fun h' kp' => ?_) ..
      have := hQ h' (kp.trans (kp'.le kp.nx))
      have e3 : (xs[k] :: xs.drop (k + 1) = ys[k] :: ys.drop (k + 1)) ↔ (xs.drop (k + 1) = ys.drop (k + 1)) := by
        rw [List.cons.injEq]; exact ⟨fun h => h.2, fun h => ⟨h3, h⟩⟩
      rw [decide_eq_decide.2 e3] at this
      exact this
/-- Two lists are equal. -/
theorem ct26 {a a' : Option Addr} {n c n' c' : Nat} {h : Hp} {xs ys : List Int} (H : IntsAt h a n xs) (H' : IntsAt h a' n' ys) (hl : xs.length < 1000000) : Ret Tryd.prog O 26 [.slice a n c, .slice a' n' c'] h fun v h' => v = .bool (decide (xs = ys)) ∧ Kp h.nx h h' := by
  refine rk26 _ _ _ _ _ _ (hO _ _ _ (by decide)) ?_
  unfold T26
  have hn := H.1
  have hn' := H'.1
  refine vcond_split (fun h1 => ?_) fun h1 => ?_
  · have h1 := ne_of_f (by simpa using h1)
    refine ⟨?_, .refl _ _⟩
    rw [decide_eq_false]
    rintro rfl; exact h1 (by rw [hn, hn'])
  · have h1 := eq_of_t (by simpa using h1)
    refine lp26 hO hl (by have h1 : (n : Int) = n' := h1; omega) xs.length 0 (by omega) false H H' (fun h' kp => ⟨rfl, kp⟩) ..
end
end Go.Proofs.YtfgfhplgnfbaaaaDoor
/- Contracts of functions of layer 20: sets of variables as masks. -/
namespace Go.Proofs.YtfgfhplgnfbaaaaDoor
open Go Go.Ev

theorem app32 : AppT Tryd.prog 32 3 1 8 := ⟨Tryd.underlying32, by kernel_rfl⟩
/-- A literal's digit. -/
def bitN (x : Int) : Nat := 2 ^ (x.natAbs - 1)
def Lit (x : Int) : Prop := x ≠ 0 ∧ -30 ≤ x ∧ x ≤ 30
abbrev U (n : Nat) : Value := .int .u32 (Int.ofNat n)
theorem inD_of {m n : Nat} (h : n < m) : inD m (Int.ofNat n) = true := blt_t h
theorem lor_nat (a b : Nat) : lorI (Int.ofNat a) (Int.ofNat b) = Int.ofNat (a ||| b) := rfl
theorem land_nat (a b : Nat) : landI (Int.ofNat a) (Int.ofNat b) = Int.ofNat (a &&& b) := rfl
theorem andn_nat (a b : Nat) : andnI (Int.ofNat a) (Int.ofNat b) = Int.ofNat (a - (a &&& b)) := rfl
theorem bitN_lt {x : Int} (h : Lit x) : bitN x < 2 ^ 30 := Nat.pow_lt_pow_right (by decide) (by have := h.2; omega)

theorem guard_nil {h : Hp} (hg : h.gd = []) (o : Nat) : h.guarded o = false := by unfold Hp.guarded; rw [hg]; rfl

section
variable {O : CallF} (hO : Oth O)
include hO

theorem bit_ct {x : Int} (hx : Lit x) (h : Hp) : EvT O 84 [.int .i64 x] h (U (bitN x)) h := ct84 hO hx.1 hx.2.1 hx.2.2 h

/-- What is true, and false, with a literal more. -/
def withN (y m : Nat) (x : Int) : Nat × Nat := if 0 < x then (y ||| bitN x, m) else (y, m ||| bitN x)
theorem ct104 {y m : Nat} {x : Int} (hx : Lit x) (hy : y < 2 ^ 30) (hm : m < 2 ^ 30) {h : Hp} (hk : h.Ok) :
    Ret Tryd.prog O 104 [.agg #[U y, U m], .int .i64 x] h fun v h' => v = .tuple #[.agg #[U (withN y m x).1, U (withN y m x).2], .bool (decide ((withN y m x).1 &&& (withN y m x).2 = 0))] ∧ Kp h.nx h h' := by
  refine rk104 _ _ _ (hO _ _ _ (by decide)) ?_
  unfold T104
  let h0 := (h.add (.cells [U y, U m] 102 .fix)).add (.cells [U 0, U 0] 102 .fix)
  have k0 : Kp h.nx h h0 := ((Kp.refl _ _).add (Nat.le_refl _) _).add (by rw [nx_add]; omega) _
  have g1 : h0.get h.nx = some (.cells [U y, U m] 102 .fix) := by
    show ((h.add _).add _).get h.nx = _
    rw [get_add_ne (by rw [nx_add]; omega), get_add_same]
  have g2 : h0.get (h.nx + 1) = some (.cells [U 0, U 0] 102 .fix) := get_add_same ..
  have hgd : h0.gd = h.gd := rfl
  have hnx : h0.nx = h.nx + 2 := rfl
  have gu : ∀ o, h.nx ≤ o → h0.guarded o = false := fun o ho => guarded_of fun q hq => by have := hk.gd q hq; omega
  have hb := bitN_lt hx
  have hor : ∀ a, a < 2 ^ 30 → a ||| bitN x < 2 ^ 30 := fun a ha => Nat.or_lt_two_pow ha hb
  refine ⟨_, _, bit_ct hO hx h0, ?_⟩
  have fin : ∀ (y' m' : Nat) (h2 : Hp), y' < 2 ^ 30 → m' < 2 ^ 30 → Kp h.nx h h2 → h2.nx = h0.nx → h2.get h.nx = some (.cells [U y', U m'] 102 .fix) → h2.get (h.nx + 1) = some (.cells [U 0, U 0] 102 .fix) →
      ∃ x4 x5 : Int, readAt (h2.rsv 9) h.nx 0 2 = some [(.int .u32 x4), (.int .u32 x5)] ∧ ∃ x6 : Int, readAt (h2.rsv 9) h.nx 0 1 = some [(.int .u32 x6)] ∧ ∃ x7 : Int, readAt (h2.rsv 9) h.nx 1 1 = some [(.int .u32 x7)] ∧
      vreq (inD 4294967296 x6) (vreq (inD 4294967296 x7) (vreq (canW ((h2.rsv 9).grd [h.nx, h.nx]) (h.add (.cells [U y, U m] 102 .fix)).nx 0 [(.int .u32 x4), (.int .u32 x5)])
      (∃ x8 x9 : Int, readAt ((((h2.rsv 9).grd [h.nx, h.nx]).wr (h.add (.cells [U y, U m] 102 .fix)).nx 0 [(.int .u32 x4), (.int .u32 x5)]).rst (h2.rsv 9)) (h.add (.cells [U y, U m] 102 .fix)).nx 0 2 = some [(.int .u32 x8), (.int .u32 x9)] ∧
       (Value.tuple #[.agg #[.int .u32 x8, .int .u32 x9], .bool (eqI (landI x6 x7) 0)] = .tuple #[.agg #[U y', U m'], .bool (decide (y' &&& m' = 0))] ∧ Kp h.nx h ((((h2.rsv 9).grd [h.nx, h.nx]).wr (h.add (.cells [U y, U m] 102 .fix)).nx 0 [(.int .u32 x4), (.int .u32 x5)]).rst (h2.rsv 9)))))) := by
    intro y' m' h2 hy' hm' k2 n2 e1 e2
    have e1' : (h2.rsv 9).get h.nx = _ := e1
    refine ⟨_, _, readAt_get e1' (by simp), _, read1 e1' rfl, _, read1 e1' rfl, vreq_t (inD_of (by omega)) (vreq_t (inD_of (by omega)) ?_)⟩
    have e2' : ((h2.rsv 9).grd [h.nx, h.nx]).get (h.nx + 1) = _ := e2
    have gg : ((h2.rsv 9).grd [h.nx, h.nx]).guarded (h.nx + 1) = false := guarded_of fun q hq => by
      have hq : q ∈ [h.nx, h.nx] ++ h2.gd := hq
      rw [k2.gd] at hq
      rcases List.mem_append.1 hq with hq | hq
      · simp at hq; omega
      · have := hk.gd q hq; omega
    refine vreq_t (canW_t e2' (by decide) gg (by simp) rfl) ⟨_, _, readAt_get (wr_get e2' (by decide) gg (by simp) rfl) (by simp [putAt]), ?_, ?_⟩
    · rw [land_nat, eqI_eq]
      congr 3
      by_cases hz : y' &&& m' = 0 <;> simp [hz]
    · exact (k2.rsv 9).rst ((Kp.refl _ _).wr (by rw [nx_add]; omega) _ _)
  have hx0 := hx.1
  refine vcond_split (fun h1 => ?_) fun h1 => ?_
  · have h1 := lt_of_t h1
    refine ⟨_, read1 g1 rfl, vreq_t (inD_of (by omega)) (vreq_t (inD_of (by omega)) (vreq_t (canW_t g1 (by decide) (gu _ (Nat.le_refl _)) (by simp) rfl) ?_))⟩
    rw [lor_nat]
    have := fin (y ||| bitN x) m (h0.wr h.nx 0 [U (y ||| bitN x)]) (hor y hy) hm (k0.wr (Nat.le_refl _) _ _) (nx_wr ..) (wr_get g1 (by decide) (gu _ (Nat.le_refl _)) (by simp) rfl) (by rw [wr_get_ne _ _ _ _ (by omega)]; exact g2)
    have e : withN y m x = (y ||| bitN x, m) := if_pos h1
    rw [e]
    exact this
  · have h1 := not_lt_of_f h1
    refine ⟨_, read1 g1 rfl, vreq_t (inD_of (by omega)) (vreq_t (inD_of (by omega)) (vreq_t (canW_t g1 (by decide) (gu _ (Nat.le_refl _)) (by simp) rfl) ?_))⟩
    rw [lor_nat]
    have := fin y (m ||| bitN x) (h0.wr h.nx 1 [U (m ||| bitN x)]) hy (hor m hm) (k0.wr (Nat.le_refl _) _ _) (nx_wr ..) (wr_get g1 (by decide) (gu _ (Nat.le_refl _)) (by simp) rfl) (by rw [wr_get_ne _ _ _ _ (by omega)]; exact g2)
    have e : withN y m x = (y, m ||| bitN x) := if_neg h1
    rw [e]
    exact this
end
end Go.Proofs.YtfgfhplgnfbaaaaDoor
/- Contracts of functions of layer 20: what masks hold. -/
namespace Go.Proofs.YtfgfhplgnfbaaaaDoor
open Go Go.Ev

/-- The table is there. -/
def Tb (h : Hp) : Prop := 0 < h.nx ∧ h.get 0 = some (.cells tab 0 .ro)
theorem Tb.kp {h h' : Hp} (t : Tb h) {n : Nat} (k : Kp n h h') (hn : 0 < n) : Tb h' := ⟨Nat.lt_of_lt_of_le t.1 k.nx, by rw [k.get 0 hn]; exact t.2⟩
def tabN : List Nat := [0,1,28,2,29,14,24,3,30,22,20,15,25,17,4,8,31,27,13,23,21,19,16,7,26,12,18,6,11,5,10,9]
theorem tab_eq : tab = tabN.map fun x : Nat => Value.int .u8 (Int.ofNat x) := rfl
theorem bruijn : ∀ k, k < 32 → shrF .u32 (wrapF .u32 (Int.ofNat (2 ^ k) * 125613361)) 27 = Int.ofNat ((2 ^ k * 125613361 % 4294967296) / 134217728) ∧ (2 ^ k * 125613361 % 4294967296) / 134217728 < 32 ∧ tabN[(2 ^ k * 125613361 % 4294967296) / 134217728]? = some k := by decide +kernel
theorem neg32 {u : Nat} (h : 0 < u) (h2 : u < 4294967296) : wrapF .u32 (0 - Int.ofNat u) = Int.ofNat (4294967296 - u) := by
  rw [wrapF_eq]
  unfold IntKind.wrap
  simp only [IntKind.bits, IntKind.signed, Bool.false_and, Bool.false_eq_true, if_false, Int.ofNat_eq_natCast]
  omega
theorem pred32 {u : Nat} (h : 0 < u) (h2 : u < 4294967296) : wrapF .u32 (Int.ofNat u - 1) = Int.ofNat (u - 1) := by
  rw [wrapF_eq]
  unfold IntKind.wrap
  simp only [IntKind.bits, IntKind.signed, Bool.false_and, Bool.false_eq_true, if_false, Int.ofNat_eq_natCast]
  omega

section
variable {O : CallF} (hO : Oth O)
include hO

theorem ct120 {k j : Nat} (hu : 2 ^ (k + 1) * j + 2 ^ k < 2 ^ 32) {h : Hp} (ht : Tb h) : EvT O 120 [U (2 ^ (k + 1) * j + 2 ^ k)] h (.int .i64 (Int.ofNat k)) h := by
  refine EvC.of_ret (rk120 _ (hO _ _ _ (by decide)) ?_)
  unfold T120
  have hp : 0 < 2 ^ k := Nat.pow_pos (by decide)
  have hk : k < 32 := by
    rcases Nat.lt_or_ge k 32 with h | h
    · exact h
    · have := Nat.pow_le_pow_right (show 0 < 2 by decide) h
      omega
  generalize hu' : 2 ^ (k + 1) * j + 2 ^ k = u at hu
  have hu0 : 0 < u := by omega
  rw [neg32 hu0 (by omega), land_nat, ← hu', show (4294967296 : Nat) = 2 ^ 32 from rfl, low_only k j (by omega), hu']
  obtain ⟨b1, b2, b3⟩ := bruijn k hk
  refine vcond_f (eqI_f (by simp only [Int.ofNat_eq_natCast]; omega)) (vreq_t (inD_of (by omega)) (vreq_t (inD_of (by omega)) ?_))
  rw [b1]
  refine isNat_of (vreq_t (blt_t b2) ⟨_, read1 ht.2 (v := .int .u8 (Int.ofNat k)) ?_, ?_, rfl⟩)
  · rw [tab_eq, List.getElem?_map, Nat.zero_add, Nat.mul_one, b3]; rfl
  · rw [wrap64] <;> simp only [Int.ofNat_eq_natCast] <;> omega

/-- What a variable is: 1 true, 2 false, 0 neither. -/
def ofN (y m : Nat) (v : Nat) : Int := if y.testBit v then 1 else if m.testBit v then 2 else 0
omit hO in
theorem testBit_and_pow (y v : Nat) : (y &&& 2 ^ v = 0) ↔ y.testBit v = false := by
  constructor
  · intro h
    have := congrArg (fun z => z.testBit v) h
    simpa [Nat.testBit_and, Nat.testBit_two_pow] using this
  · intro h
    refine Nat.eq_of_testBit_eq fun i => ?_
    rw [Nat.testBit_and, Nat.testBit_two_pow]
    by_cases hi : v = i
    · subst hi; simp [h]
    · simp [hi]
theorem ct81 {y m v : Nat} (hv : v < 30) (hy : y < 2 ^ 32) (hm : m < 2 ^ 32) {h : Hp} : Ret Tryd.prog O 81 [.agg #[U y, U m], .int .i64 (Int.ofNat (v + 1))] h fun r h' => r = .int .i64 (ofN y m v) ∧ Kp h.nx h h' := by
  refine rk81 _ _ _ (hO _ _ _ (by decide)) ?_
  unfold T81
  have hx : Lit (Int.ofNat (v + 1)) := ⟨by simp only [Int.ofNat_eq_natCast]; omega, by simp only [Int.ofNat_eq_natCast]; omega, by simp only [Int.ofNat_eq_natCast]; omega⟩
  have hb : bitN (Int.ofNat (v + 1)) = 2 ^ v := by
    unfold bitN
    have : (Int.ofNat (v + 1)).natAbs = v + 1 := rfl
    rw [this, Nat.add_sub_cancel]
  have hb2 : 2 ^ v < 4294967296 := by
    have : 2 ^ v < 2 ^ 32 := Nat.pow_lt_pow_right (by decide) (by omega)
    omega
  have k0 : Kp h.nx h (h.add (.cells [U y, U m] 102 .fix)) := (Kp.refl _ _).add (Nat.le_refl _) _
  have g1 : (h.add (.cells [U y, U m] 102 .fix)).get h.nx = some (.cells [U y, U m] 102 .fix) := get_add_same ..
  refine ⟨_, _, bit_ct hO hx _, ?_⟩
  rw [hb]
  refine ⟨_, read1 g1 rfl, vreq_t (inD_of (by omega)) (vreq_t (inD_of hb2) ?_)⟩
  have hz : ∀ a : Nat, eqI (landI (Int.ofNat a) (Int.ofNat (2 ^ v))) 0 = !(a.testBit v) := fun a => by
    rw [land_nat, eqI_eq]
    have := testBit_and_pow a v
    cases ht : a.testBit v with
    | false => rw [this.2 ht]; rfl
    | true =>
      have : ¬ (a &&& 2 ^ v = 0) := fun hh => by rw [this.1 hh] at ht; cases ht
      show ((((a &&& 2 ^ v : Nat) : Int)) == 0) = false
      simpa using this
  rw [hz]
  unfold ofN
  refine vcond_split (fun h1 => ?_) fun h1 => ?_
  · rw [if_pos (by simpa using h1)]; exact ⟨rfl, k0⟩
  · rw [if_neg (by simpa using h1)]
    refine ⟨_, read1 g1 rfl, vreq_t (inD_of (by omega)) (vreq_t (inD_of hb2) ?_)⟩
    rw [hz]
    refine vcond_split (fun h2 => ?_) fun h2 => ?_
    · rw [if_pos (by simpa using h2)]; exact ⟨rfl, k0⟩
    · rw [if_neg (by simpa using h2)]; exact ⟨rfl, k0⟩

/-- The literals of masks, their variables increasing. -/
def litOf (y m : Nat) (v : Nat) : Int := if ofN y m v = 2 then -(v + 1 : Nat) else (v + 1 : Nat)
def litsN (y m : Nat) : List Int := (digits 30 (y ||| m)).map (litOf y m)

theorem lp90 {y m : Nat} (hy : y < 2 ^ 30) (hm : m < 2 ^ 30) {b base : Nat} {Q : Value → Hp → Prop} : ∀ (f u : Nat), (digits 30 u).length ≤ f → u < 2 ^ 30 → ∀ {h : Hp} {a : Option Addr} {n c : Nat} {xs : List Int}, Tb h → b < h.nx → h.get b = some (.cells [U y, U m] 102 .fix) → AccI 3 h base a n c xs → base ≤ h.nx → 0 < base → b < base → GdLt h base → xs.length + f ≤ 1000 →
    (∀ a' n' c' h', AccI 3 h' base a' n' c' (xs ++ (digits 30 u).map (litOf y m)) → Kp base h h' → Q (.slice a' n' c') h') → I90_0 O Q (Int.ofNat y) (Int.ofNat m) b 0 a n c (Int.ofNat u) h := by
  intro f
  induction f with
  | zero =>
    intro u hf hu h a n c xs ht hb hg H hbase h0 hbb hgd hl hQ
    refine I90_0.of _ _ _ _ _ _ _ _ ?_
    intros
    unfold T90_0
    have hu0 : u = 0 := by
      rcases Nat.eq_zero_or_pos u with h | h
      · exact h
      · obtain ⟨k, j, rfl⟩ := low_split u h
        have hk : k < 30 := by
          rcases Nat.lt_or_ge k 30 with h | h
          · exact h
          · have := Nat.pow_le_pow_right (show 0 < 2 by decide) h
            omega
        rw [digits_step hk] at hf
        simp at hf
    subst hu0
    refine vcond_f rfl ?_
    have := hQ a n c h (by rw [digits_zero]; simpa using H) (.refl _ _)
    exact this
  | succ f ih =>
    intro u hf hu h a n c xs ht hb hg H hbase h0 hbb hgd hl hQ
    refine I90_0.of _ _ _ _ _ _ _ _ ?_
    intros
    unfold T90_0
    rcases Nat.eq_zero_or_pos u with hu0 | hu0
    · subst hu0
      refine vcond_f rfl ?_
      have := hQ a n c h (by rw [digits_zero]; simpa using H) (.refl _ _)
      exact this
    · obtain ⟨k, j, rfl⟩ := low_split u hu0
      have hk : k < 30 := by
        rcases Nat.lt_or_ge k 30 with h | h
        · exact h
        · have := Nat.pow_le_pow_right (show 0 < 2 by decide) h
          omega
      rw [digits_step hk] at hf hQ
      have hp : 0 < 2 ^ k := Nat.pow_pos (by decide)
      refine vcond_t (by rw [eqI_f (by simp only [Int.ofNat_eq_natCast]; omega)]; rfl) ⟨_, _, ct120 hO (by omega) ht, _, _, readAt_get hg (by simp), ?_⟩
      rw [wrap_succ (by omega)]
      obtain ⟨v, h1, e1, rfl, kp1⟩ := ct81 hO (y := y) (m := m) (v := k) hk (by omega) (by omega) (h := h)
      refine ⟨_, _, e1, ?_⟩
      have H1 : AccI 3 h1 base a n c xs := H.kp kp1 (Nat.le_refl _)
      have go : ∀ x, x = litOf y m k → ∃ a' n' c' h', appendV Tryd.prog (h1.add (.cells [.int .i64 x] 3 .fix)) 32 32 (.slice a n c) (.slice (some ⟨h1.nx, 0, none⟩) 1 1) = some (.slice a' n' c', h') ∧
          vreq (inD 4294967296 (Int.ofNat (2 ^ (k + 1) * j + 2 ^ k))) (vreq (inD 4294967296 (wrapF .u32 (Int.ofNat (2 ^ (k + 1) * j + 2 ^ k) - 1))) (I90_0 O Q (Int.ofNat y) (Int.ofNat m) b 0 a' n' c' (landI (Int.ofNat (2 ^ (k + 1) * j + 2 ^ k)) (wrapF .u32 (Int.ofNat (2 ^ (k + 1) * j + 2 ^ k) - 1))) h')) := by
        rintro x rfl
        obtain ⟨a', n', c', h', e2, H2, k2⟩ := app_int app32 H1 (Nat.le_trans hbase kp1.nx) (hgd.kp kp1) (by omega) (litOf y m k)
        refine ⟨a', n', c', h', e2, ?_⟩
        rw [pred32 (by omega) (by omega), land_nat, low_clear]
        refine vreq_t (inD_of (by omega)) (vreq_t (inD_of (by omega)) ?_)
        have kp2 : Kp base h h' := (kp1.le hbase).trans (k2.kp H1 (Nat.le_trans hbase kp1.nx))
        refine ih _ (by simpa using hf) (by omega) (ht.kp kp2 h0) (Nat.lt_of_lt_of_le hb kp2.nx) (by rw [kp2.get b hbb]; exact hg) H2 (Nat.le_trans hbase kp2.nx) h0 hbb (hgd.kp kp2) (by simp; omega) fun a3 n3 c3 h3 A K => hQ a3 n3 c3 h3 (by simpa using A) (kp2.trans K)
      refine vcond_split (fun hc => ?_) fun hc => ?_
      · have hc := eq_of_t hc
        have e : wrapF .i64 (0 - Int.ofNat (k + 1)) = litOf y m k := by
          rw [wrap64 (by simp only [Int.ofNat_eq_natCast]; omega) (by simp only [Int.ofNat_eq_natCast]; omega)]
          unfold litOf
          rw [if_pos hc]
          simp only [Int.ofNat_eq_natCast]; omega
        obtain ⟨a', n', c', h', e2, hr⟩ := go _ e
        refine ⟨a', n', c', h', e2, ?_⟩
        obtain ⟨q1, hr⟩ := vreq_iff hr
        obtain ⟨q2, hr⟩ := vreq_iff hr
        exact vreq_t q1 (vreq_t q2 (hr ..))
      · have hc := ne_of_f hc
        have e : Int.ofNat (k + 1) = litOf y m k := by
          unfold litOf
          rw [if_neg hc]; rfl
        obtain ⟨a', n', c', h', e2, hr⟩ := go _ e
        refine ⟨a', n', c', h', e2, ?_⟩
        obtain ⟨q1, hr⟩ := vreq_iff hr
        obtain ⟨q2, hr⟩ := vreq_iff hr
        exact vreq_t q1 (vreq_t q2 (hr ..))
/-- What a call leaves: a list, and all memory as it was but for what is new. -/
def RInts (h : Hp) (xs : List Int) (v : Value) (h' : Hp) : Prop := ∃ a n c, v = .slice a n c ∧ IntsAt h' a n xs ∧ Kp h.nx h h' ∧ ∀ b off, a = some ⟨b, off, none⟩ → h.nx ≤ b
theorem ct90 {y m : Nat} (hy : y < 2 ^ 30) (hm : m < 2 ^ 30) {h : Hp} (hk : h.Ok) (ht : Tb h) : Ret Tryd.prog O 90 [.agg #[U y, U m]] h (RInts h (litsN y m)) := by
  refine rk90 _ _ (hO _ _ _ (by decide)) ?_
  unfold T90
  have g1 : (h.add (.cells [U y, U m] 102 .fix)).get h.nx = some (.cells [U y, U m] 102 .fix) := get_add_same ..
  have k0 : Kp h.nx h (h.add (.cells [U y, U m] 102 .fix)) := (Kp.refl _ _).add (Nat.le_refl _) _
  have hor : y ||| m < 2 ^ 30 := Nat.or_lt_two_pow hy hm
  refine ⟨_, read1 g1 rfl, _, read1 g1 rfl, vreq_t (inD_of (by omega)) (vreq_t (inD_of (by omega)) ?_)⟩
  rw [lor_nat]
  refine lp90 hO hy hm (base := h.nx + 1) (xs := []) 30 _ ?_ hor (ht.kp k0 ht.1) (by rw [nx_add]; omega) g1 (AccI.nil ..) (by rw [nx_add]; omega) (by omega) (by omega) (fun q hq => by have := hk.gd q hq; omega) (by simp) (fun a' n' c' h' A K => ⟨a', n', c', rfl, by have := A.ints; rwa [List.nil_append] at this, k0.trans (K.le (by omega)), fun b off e => by have := Acc.fresh A e; omega⟩) ..
  unfold digits
  exact Nat.le_trans (List.length_filter_le _ _) (by simp)
end
end Go.Proofs.YtfgfhplgnfbaaaaDoor
/- Contracts of functions of layer 20: lists one behind the other; resolution. -/
namespace Go.Proofs.YtfgfhplgnfbaaaaDoor
open Go Go.Ev

/-- A list that grows into room that was made for it. -/
def AccZ (h : Hp) (base : Nat) (a : Option Addr) (n c : Nat) (xs : List Int) (m : Nat) : Prop :=
  (a = none ∧ n = 0 ∧ c = 0 ∧ xs = [] ∧ m = 0) ∨ ∃ o zs, a = some ⟨o, 0, none⟩ ∧ c = unk ∧ n = xs.length ∧ base ≤ o ∧ o < h.nx ∧ h.get o = some (.cells (xs.map (Value.int .i64) ++ zs) 3 .grow) ∧ zs.length = m
theorem putAt_app {α : Type} : ∀ (xs ys zs : List α), ys.length ≤ zs.length → putAt (xs ++ zs) xs.length ys = xs ++ (ys ++ zs.drop ys.length) := by
  intro xs ys zs hl
  refine List.ext_getElem? fun i => ?_
  rw [putAt_get _ _ _ (by simp; omega)]
  simp only [List.getElem?_append, List.getElem?_drop]
  by_cases h1 : i < xs.length
  · rw [if_neg (by omega), if_pos h1, if_pos h1]
  · by_cases h2 : i < xs.length + ys.length
    · rw [if_pos ⟨by omega, h2⟩, if_neg h1, if_pos (by omega)]
    · rw [if_neg (by omega), if_neg h1, if_neg h1, if_neg (by omega)]
      congr 1; omega
theorem AccZ.ints {h : Hp} {base : Nat} {a : Option Addr} {n c m : Nat} {xs : List Int} (H : AccZ h base a n c xs m) : IntsAt h a n xs := by
  rcases H with ⟨rfl, rfl, rfl, rfl, _⟩ | ⟨o, zs, rfl, rfl, rfl, h3, h4, h5, h6⟩
  · exact SlAt.nil ..
  · refine ⟨rfl, .inr ⟨o, 0, _, _, _, rfl, h4, h5, by simp, fun i hi => ?_⟩⟩
    show ((xs.map (Value.int .i64) ++ zs).drop (0 + i * 1)).take 1 = [.int .i64 xs[i]]
    rw [Nat.zero_add, Nat.mul_one, List.drop_append_of_le_length (by simp; omega), List.drop_eq_getElem_cons (by simpa using hi)]
    simp
theorem AccZ.fresh {h : Hp} {base : Nat} {a : Option Addr} {n c m : Nat} {xs : List Int} (H : AccZ h base a n c xs m) {b off : Nat} (ha : a = some ⟨b, off, none⟩) : base ≤ b := by
  rcases H with ⟨rfl, _⟩ | ⟨o, zs, rfl, rfl, rfl, h3, h4, h5, h6⟩
  · cases ha
  · injection ha with ha; injection ha with ha _; omega
theorem ints_src {h : Hp} {a2 : Option Addr} {n2 c2 : Nat} {ys : List Int} (Y : IntsAt h a2 n2 ys) : srcCells h 1 (.slice a2 n2 c2) = some (ys.map (Value.int .i64), n2) := by
  have hn2 := Y.1
  rcases Y.2 with ⟨rfl, rfl⟩ | ⟨b, off, cs, e', m, rfl, h2, h3, h4, h5⟩
  · subst hn2; rfl
  · refine src_get ?_
    rw [Nat.mul_one, readAt_get h3 (by omega)]
    congr 1
    refine List.ext_getElem (by simp; omega) fun i hi hi' => ?_
    have hi2 : i < ys.length := by simpa using hi'
    have h7 : (cs.drop (off + i * 1)).take 1 = [.int .i64 ys[i]] := h5 i hi2
    rw [Nat.mul_one, List.drop_eq_getElem_cons (show off + i < cs.length by omega)] at h7
    simp only [List.take_succ_cons, List.take_zero, List.cons.injEq, and_true] at h7
    simp [h7]
theorem app_room {h : Hp} {base : Nat} {a : Option Addr} {n c m : Nat} {xs : List Int} (H : AccZ h base a n c xs m) (hg : GdLt h base) {a2 : Option Addr} {n2 c2 : Nat} {ys : List Int} (Y : IntsAt h a2 n2 ys) (hl : ys.length ≤ m) (hB : xs.length + m < 1000000) :
    ∃ a' n' c' h', appendV Tryd.prog h 32 32 (.slice a n c) (.slice a2 n2 c2) = some (.slice a' n' c', h') ∧ AccZ h' base a' n' c' (xs ++ ys) (m - ys.length) ∧ h'.nx = h.nx ∧ Kp base h h' := by
  obtain ⟨hz, info, z, hi, hzz, hrun⟩ := app32.run
  rw [hrun h _ _ ⟨_, _, _, rfl⟩, ints_src Y]
  have hn2 := Y.1
  have h1 : (ys.map (Value.int .i64)).all one = true := by simp [one]
  simp only [Option.bind_some, h1, cond_true]
  rcases Nat.eq_zero_or_pos n2 with h0 | h0
  · have : ys = [] := List.length_eq_zero_iff.1 (by omega)
    subst this
    subst h0
    simp only [Nat.beq_refl, cond_true]
    rcases H with ⟨rfl, rfl, rfl, rfl, rfl⟩ | ⟨o, zs, rfl, rfl, rfl, h3, h4, h5, h6⟩
    · exact ⟨none, 0, 0, h, rfl, .inl ⟨rfl, rfl, rfl, rfl, rfl⟩, rfl, .refl _ _⟩
    · refine ⟨_, xs.length, unk, h, ?_, .inr ⟨o, zs, rfl, rfl, by simp, h3, h4, by simpa using h5, by simpa using h6⟩, rfl, .refl _ _⟩
      show (bif Nat.ble xs.length unk then _ else _) = _
      rw [ble_t (by unfold unk; omega)]; rfl
  · have hk0 : Nat.beq n2 0 = false := by rw [Bool.eq_false_iff]; intro hh; have := Nat.eq_of_beq_eq_true hh; omega
    simp only [hk0, cond_false]
    rcases H with ⟨rfl, rfl, rfl, rfl, rfl⟩ | ⟨o, zs, rfl, rfl, rfl, h3, h4, h5, h6⟩
    · omega
    · have fit : Nat.ble (0 + (xs.length + n2) * 1) (xs.map (Value.int .i64) ++ zs).length = true := ble_t (by simp; omega)
      have gf : h.guarded o = false := hg.free h3
      obtain ⟨h', hw, hg'⟩ := writeAt_mk h5 (by decide) gf (off := xs.length) (vs := ys.map (Value.int .i64)) (by simp; omega) h1
      have hwr : h.wr o xs.length (ys.map (Value.int .i64)) = h' := by unfold Hp.wr; rw [hw]
      refine ⟨_, xs.length + n2, unk, h', ?_, .inr ⟨o, zs.drop ys.length, rfl, rfl, by simp; omega, h3, ?_, ?_, by simp; omega⟩, ?_, ?_⟩
      · unfold appSome
        simp only [h5, Nat.beq_refl, cond_true, isGrow, Bool.and_self, fit]
        rw [show 0 + xs.length * 1 = xs.length by omega, hw]; rfl
      · rw [← hwr, nx_wr]; exact h4
      · rw [hg']
        have := putAt_app (xs.map (Value.int .i64)) (ys.map (Value.int .i64)) zs (by simp; omega)
        rw [List.length_map] at this
        rw [this]
        simp
      · rw [← hwr, nx_wr]
      · rw [← hwr]; exact (Kp.refl _ _).wr h3 _ _

section
variable {O : CallF} (hO : Oth O)
include hO
theorem sl_none {h : Hp} : sliceV Tryd.prog h 32 (.slice none 0 0) none (some (.int .i64 (Int.ofNat 0))) none = some (.slice none 0 0) := by
  have _ := hO
  unfold sliceV
  rw [Tryd.underlying32]
  have : sz Tryd.prog 3 = some 1 := by kernel_rfl
  simp only [this, bind, Option.bind_some]
  rfl
omit hO in
theorem zeros_new {N : Nat} (hN : N < 1000000) (h1 : 0 < N) {h : Hp} : ∃ zs : List Value, zs.length = N ∧ appendV Tryd.prog h 32 3 (.slice none 0 0) (.int .i64 (Int.ofNat N)) = some (.slice (some ⟨h.nx, 0, none⟩) N unk, h.add (.cells zs 3 .grow)) := by
  refine ⟨List.flatten (List.replicate N [.int .i64 0]), by simp, ?_⟩
  have e1 : elemT Tryd.prog 32 = some 3 := by unfold elemT; rw [Tryd.underlying32]
  have ok : (match Tryd.prog.info? 3 with
    | some info => match info.zero with
      | some z => Nat.beq info.size 1 && Nat.beq info.bytes 8 && decide (z.cells.size = 1) && (match z.cells.toList with
        | [.int .i64 0] => true
        | _ => false)
      | none => false
    | none => false) = true := by kernel_rfl
  split at ok
  · rename_i info hi
    split at ok
    · rename_i z hz
      rw [Bool.and_eq_true, Bool.and_eq_true, Bool.and_eq_true] at ok
      obtain ⟨⟨⟨h2, h3⟩, h4⟩, h5⟩ := ok
      have h2 := Nat.eq_of_beq_eq_true h2
      have h3 := Nat.eq_of_beq_eq_true h3
      have h4 := of_decide_eq_true h4
      split at h5
      · rename_i hzc
        have nd : (!(Nat.beq info.size 0) && Nat.beq z.cells.size info.size && z.cells.toList.all (fun v => flat v && one v)) = true := by rw [h2, h4, hzc]; rfl
        have e2 : Tryd.prog.underlying 3 = some (.int .i64) := by kernel_rfl
        unfold appendV
        simp only [e1, hi, hz, bind, Option.bind_some, need, nd, cond_true]
        have e3 : appSrc Tryd.prog h info z 3 (.int .i64 (Int.ofNat N)) = some (List.flatten (List.replicate N [.int .i64 0]), N) := by
          unfold appSrc
          rw [e2]
          show (bif Nat.ble (N * info.bytes) 281474976710656 && Nat.blt N big && Nat.blt 0 N then some (List.flatten (List.replicate N z.cells.toList), N) else none) = _
          rw [hzc, h3, ble_t (by omega), blt_t (by unfold big; omega), blt_t h1]; rfl
        have e4 : (List.flatten (List.replicate N [Value.int .i64 0])).all one = true := by
          rw [List.all_eq_true]; intro v hv; simp at hv; rw [hv.2]; rfl
        have hk0 : Nat.beq N 0 = false := by rw [Bool.eq_false_iff]; intro hh; have := Nat.eq_of_beq_eq_true hh; omega
        rw [e3]
        simp only [Option.bind_some, e4, cond_true, hk0, cond_false, h2, h3]
        show appNew h 3 8 [] _ N = _
        unfold appNew
        rw [ble_t (by omega), blt_t (by unfold big; omega)]; rfl
      · cases h5
    · cases ok
  · cases ok
theorem ct124 {N : Nat} (hN : N < 1000000) {h : Hp} : Ret Tryd.prog O 124 [.slice none 0 0, .int .i64 (Int.ofNat N)] h fun v h' => ∃ a n c, v = .slice a n c ∧ AccZ h' h.nx a n c [] N ∧ Kp h.nx h h' := by
  refine rk124 _ _ _ _ (hO _ _ _ (by decide)) ?_
  unfold T124
  refine vcond_f (ltI_f (by simp only [Int.ofNat_eq_natCast]; omega)) (vreq_t rfl ?_)
  have e1 : wrapF .i64 (Int.ofNat N - wrapF .i64 (Int.ofNat 0 - Int.ofNat 0)) = Int.ofNat N := by
    rw [wrap64 (n := Int.ofNat 0 - Int.ofNat 0) (by decide) (by decide), wrap64] <;> simp only [Int.ofNat_eq_natCast] <;> omega
  rw [e1]
  refine vcond_split (fun h1 => vreq_t rfl ⟨none, 0, 0, sl_none hO, ?_⟩) fun h1 => ?_
  · have h1 : 0 < N := by have : (0 : Int) < (N : Int) := lt_of_t h1; omega
    obtain ⟨zs, hz, he⟩ := zeros_new hN h1 (h := h)
    refine ⟨_, _, _, _, he, some ⟨h.nx, 0 + 0 * 1, none⟩, 0 - 0, unk, ?_, _, _, _, rfl, .inr ⟨h.nx, zs, rfl, rfl, rfl, Nat.le_refl _, by rw [nx_add]; omega, get_add_same .., hz⟩, (Kp.refl _ _).add (Nat.le_refl _) _⟩
    unfold sliceV
    rw [Tryd.underlying32]
    have e3 : sz Tryd.prog 3 = some 1 := by kernel_rfl
    have e4 : Ev.seen (h.add (.cells zs 3 .grow)) 3 1 (.slice (some ⟨h.nx, 0, none⟩) N unk) = some N := by
      show (bif Nat.beq unk unk then (match (h.add (.cells zs 3 .grow)).get h.nx with
        | some (.cells cs e' .grow) => bif Nat.beq 3 e' && Nat.blt 0 1 then some ((cs.length - 0) / 1) else none
        | _ => none) else some unk) = _
      rw [get_add_same]
      show some ((zs.length - 0) / 1) = _
      rw [hz]; simp
    simp only [e3, e4, bind, Option.bind_some]
    rfl
  · have h1 : N = 0 := by have : ¬ (0 : Int) < (N : Int) := not_lt_of_f h1; omega
    subst h1
    exact ⟨none, 0, 0, rfl, .inl ⟨rfl, rfl, rfl, rfl, rfl⟩, .refl _ _⟩

/-- The lists' lengths together. -/
def lenSum (xss : List (List Int)) : Nat := (xss.map List.length).sum
omit hO in
theorem lenSum_cons (xs : List Int) (xss : List (List Int)) : lenSum (xs :: xss) = xs.length + lenSum xss := by simp [lenSum]
theorem lp103_1 {a : Option Addr} {n c : Nat} {xss : List (List Int)} (hl : xss.length < 1000) {Q : Value → Hp → Prop} {base : Nat} :
    ∀ (d k : Nat), k + d = xss.length → ∀ {h : Hp} {a6 : Option Addr} {n6 c6 : Nat} {ys : List Int}, IntssAt h a n xss → AccZ h base a6 n6 c6 ys (lenSum (xss.drop k)) → ys.length + lenSum (xss.drop k) < 1000000 → GdLt h base → (∀ b off, a = some ⟨b, off, none⟩ → b < base) → (∀ h', Kp base h h' → IntssAt h' a n xss) →
      (∀ a' n' c' h', AccZ h' base a' n' c' (ys ++ (xss.drop k).flatten) 0 → Kp base h h' → Q (.slice a' n' c') h') → I103_1 O Q a n c a6 n6 c6 (Int.ofNat k) h := by
  have _ := hO
  intro d
  induction d with
  | zero =>
    intro k hk h a6 n6 c6 ys H A hB hg hb hup hQ
    have hn := H.1
    refine I103_1.of _ _ _ _ _ _ _ ?_
    intros
    unfold T103_1
    refine vcond_f (by rw [ltI_nat]; exact blt_f (by omega)) ?_
    rw [List.drop_of_length_le (by omega)] at A hQ
    exact hQ _ _ _ _ (by simpa [lenSum] using A) (.refl _ _)
  | succ d ih =>
    intro k hk h a6 n6 c6 ys H A hB hg hb hup hQ
    have hn := H.1
    have e1 : xss.drop k = xss[k] :: xss.drop (k + 1) := List.drop_eq_getElem_cons (by omega)
    rw [e1, lenSum_cons] at A hB
    rw [e1, List.flatten_cons] at hQ
    refine I103_1.of _ _ _ _ _ _ _ ?_
    intros
    unfold T103_1
    refine vcond_t (by rw [ltI_nat]; exact blt_t (by omega)) (isNat_of (H.get (k := k) (by omega) fun b off a' n' c' h1 h2 hr Y => vreq_t (blt_t (by omega)) ⟨_, _, _, hr, ?_⟩))
    obtain ⟨a3, n3, c3, h3, e3, A3, hnx, kp⟩ := app_room A hg Y (c2 := c') (by omega) (by omega)
    refine ⟨a3, n3, c3, h3, e3, ?_⟩
    rw [wrap_succ (by omega)]
    rw [Nat.add_sub_cancel_left] at A3
    refine ih (k + 1) (by omega) (hup _ kp) A3 (by simp; omega) (hg.kp kp) hb (fun h' kp' => hup h' (kp.trans kp')) (fun a4 n4 c4 h4 A4 K4 => hQ a4 n4 c4 h4 (by rw [← List.append_assoc]; exact A4) (kp.trans K4)) ..
theorem lp103_0 {a : Option Addr} {n c : Nat} {xss : List (List Int)} {h : Hp} (H : IntssAt h a n xss) (hl : xss.length < 1000) (hs : lenSum xss < 100000) (hk : h.Ok) :
    ∀ (d k : Nat), k + d = xss.length → ∀ (s : Nat), s + lenSum (xss.drop k) = lenSum xss → I103_0 O (RInts h xss.flatten) a n c (Int.ofNat s) (Int.ofNat k) h := by
  have hn := H.1
  intro d
  induction d with
  | zero =>
    intro k hk' s hs'
    refine I103_0.of _ _ _ _ _ ?_
    intros
    unfold T103_0
    refine vcond_f (by rw [ltI_nat]; exact blt_f (by omega)) ?_
    rw [List.drop_of_length_le (by omega)] at hs'
    have hs' : s = lenSum xss := by simpa [lenSum] using hs'
    obtain ⟨v, h1, e1, a1, n1, c1, rfl, A, kp⟩ := ct124 hO (N := s) (by omega) (h := h)
    refine ⟨_, _, _, _, e1, ?_⟩
    refine lp103_1 hO hl xss.length 0 (by omega) (H.up EInts.up kp) (by rw [List.drop_zero, ← hs']; exact A) (by simp; omega) (fun q hq => by rw [kp.gd] at hq; exact hk.gd q hq) (fun b off e => ?_) (fun h' kp' => H.up EInts.up (kp.trans kp')) (fun a' n' c' h' A' K' => ⟨a', n', c', rfl, by simpa using A'.ints, kp.trans K', fun b off e => A'.fresh e⟩) ..
    rcases H.2 with ⟨_, h0⟩ | ⟨b', off', _, _, _, h0, h2, _⟩
    · rw [h0] at e; cases e
    · rw [h0] at e; injection e with e; injection e with e _; omega
  | succ d ih =>
    intro k hk' s hs'
    have e1 : xss.drop k = xss[k] :: xss.drop (k + 1) := List.drop_eq_getElem_cons (by omega)
    rw [e1, lenSum_cons] at hs'
    refine I103_0.of _ _ _ _ _ ?_
    intros
    unfold T103_0
    refine vcond_t (by rw [ltI_nat]; exact blt_t (by omega)) (isNat_of (H.get (k := k) (by omega) fun b off a' n' c' h1 h2 hr Y => vreq_t (blt_t (by omega)) ⟨_, _, _, hr, ?_⟩))
    have hY := Y.1
    have e : wrapF .i64 (Int.ofNat s + Int.ofNat n') = Int.ofNat (s + n') := by
      rw [wrap64] <;> simp only [Int.ofNat_eq_natCast] <;> omega
    rw [e, wrap_succ (by omega)]
    refine vcond_f (ltI_f (by simp only [Int.ofNat_eq_natCast]; omega)) ?_
    exact ih (k + 1) (by omega) (s + n') (by omega) ..
/-- Lists, one behind the other. -/
theorem ct103 {a : Option Addr} {n c : Nat} {xss : List (List Int)} {h : Hp} (H : IntssAt h a n xss) (hl : xss.length < 1000) (hs : lenSum xss < 100000) (hk : h.Ok) : Ret Tryd.prog O 103 [.slice a n c] h (RInts h xss.flatten) := by
  refine rk103 _ _ _ (hO _ _ _ (by decide)) ?_
  unfold T103
  exact lp103_0 hO H hl hs hk xss.length 0 (by omega) 0 (by simp) ..
end
end Go.Proofs.YtfgfhplgnfbaaaaDoor
/- Contract of sat.Resolve. -/
namespace Go.Proofs.YtfgfhplgnfbaaaaDoor
open Go Go.Ev

/-- The truths of two clauses' literals but those of a variable, and whether they clash. -/
def rsF (v : Int) : List Int → Nat → Nat → Bool → Nat × Nat × Bool
  | [], y, m, q => (y, m, q)
  | x :: xs, y, m, q => if x = v ∨ x = -v then rsF v xs y m q else rsF v xs (withN y m x).1 (withN y m x).2 (q && decide ((withN y m x).1 &&& (withN y m x).2 = 0))
/-- The answer from them. -/
def fin38 (t : Nat × Nat × Bool) : List Int × Int := match t.2.2 with
  | true => (litsN t.1 t.2.1, 0)
  | false => ([], 7)
def resP (xs ys : List Int) (v : Int) : List Int × Int :=
  if clB 30 0 xs = false ∨ clB 30 0 ys = false ∨ v < 1 ∨ 30 < v then ([], 2)
  else if ¬ v ∈ xs ∨ ¬ (-v) ∈ ys then ([], 7)
  else fin38 (rsF v (xs ++ ys) 0 0 true)
/-- A list and an error. -/
def RPair (h : Hp) (r : List Int × Int) (v : Value) (h' : Hp) : Prop := ∃ a n c, v = .tuple #[.slice a n c, .int .i64 r.2] ∧ IntsAt h' a n r.1 ∧ Kp h.nx h h'
theorem RPair.none {h h' : Hp} {e : Int} (k : Kp h.nx h h') : RPair h ([], e) (.tuple #[.slice none 0 0, .int .i64 e]) h' := ⟨_, _, _, rfl, SlAt.nil .., k⟩
theorem withN_lt {y m : Nat} {x : Int} (hx : Lit x) (hy : y < 2 ^ 30) (hm : m < 2 ^ 30) : (withN y m x).1 < 2 ^ 30 ∧ (withN y m x).2 < 2 ^ 30 := by
  unfold withN
  split
  · exact ⟨Nat.or_lt_two_pow hy (bitN_lt hx), hm⟩
  · exact ⟨hy, Nat.or_lt_two_pow hm (bitN_lt hx)⟩
theorem clB_lit {vars : Int} : ∀ {xs : List Int} {last : Int}, 0 ≤ last → clB vars last xs = true → ∀ x ∈ xs, Lit x ∧ varI x ≤ vars := by
  intro xs
  induction xs with
  | nil => intro last _ _ x hx; cases hx
  | cons z zs ih =>
    intro last hl h x hx
    simp only [clB] at h
    split at h
    · cases h
    · rename_i hz
      have h0 : 0 < varI z := by omega
      rcases List.mem_cons.1 hx with rfl | hx
      · refine ⟨?_, by omega⟩
        unfold varI at h0
        unfold Lit
        split at h0
        · omega
        · split at h0 <;> omega
      · exact ih (by omega) h x hx

section
variable {O : CallF} (hO : Oth O)
include hO

theorem lp38 {a a' al : Option Addr} {n c n' c' nl cl : Nat} {v : Int} {h₀ : Hp} {b8 : Nat} {L : List Int} (hL : ∀ x ∈ L, Lit x) (hll : L.length < 1000000) (hv : 1 ≤ v ∧ v ≤ 30) (hb8 : h₀.nx ≤ b8) (ha : ∀ b off, al = some ⟨b, off, none⟩ → b ≠ b8) (ho : h₀.Ok) (ht : Tb h₀) {r : List Int × Int} :
    ∀ (d k : Nat), k + d = L.length → ∀ (y m : Nat) (q : Bool) {h : Hp}, y < 2 ^ 30 → m < 2 ^ 30 → IntsAt h al nl L → h.get b8 = some (.cells [U y, U m] 102 .fix) → b8 < h.nx → Kp h₀.nx h₀ h →
      r = fin38 (rsF v (L.drop k) y m q) → I38_0 O (RPair h₀ r) a n c a' n' c' v b8 0 q al nl cl (Int.ofNat nl) (Int.ofNat k) h := by
  intro d
  induction d with
  | zero =>
    intro k hk y m q h hy hm H g8 hb kp hr
    have hn := H.1
    refine I38_0.of _ _ _ _ _ _ _ _ _ _ _ _ _ _ _ ?_
    intros
    unfold T38_0
    refine vcond_f (by rw [ltI_nat]; exact blt_f (by omega)) ?_
    rw [List.drop_of_length_le (by omega)] at hr
    simp only [rsF] at hr
    refine vcond_split (fun h1 => ?_) fun h1 => ?_
    · have h1 : q = false := by simpa using h1
      subst h1
      subst hr
      exact .none kp
    · have h1 : q = true := by simpa using h1
      subst h1
      subst hr
      obtain ⟨v', h', e1, a3, n3, c3, rfl, A, K, _⟩ := ct90 hO hy hm (ho.kp kp) (ht.kp kp ht.1)
      refine ⟨_, _, readAt_get g8 (by simp), _, _, _, _, e1, _, _, _, rfl, A, kp.trans (K.le kp.nx)⟩
  | succ d ih =>
    intro k hk y m q h hy hm H g8 hb kp hr
    have hn := H.1
    refine I38_0.of _ _ _ _ _ _ _ _ _ _ _ _ _ _ _ ?_
    intros
    unfold T38_0
    have e1 : L.drop k = L[k] :: L.drop (k + 1) := List.drop_eq_getElem_cons (by omega)
    rw [e1] at hr
    simp only [rsF] at hr
    have hlit := hL L[k] (List.getElem_mem _)
    refine vcond_t (by rw [ltI_nat]; exact blt_t (by omega)) (isNat_of (H.get (k := k) (by omega) fun b off h1 h2 hrd => vreq_t (blt_t (by omega)) ⟨_, hrd, ?_⟩))
    have hneg : wrapF .i64 (0 - v) = -v := by rw [wrap64] <;> omega
    rw [hneg, wrap_succ (by omega)]
    refine vcond_split (fun h3 => ?_) fun h3 => vcond_split (fun h4 => ?_) fun h4 => ?_
    · rw [if_pos (.inl (eq_of_t h3))] at hr
      exact ih (k + 1) (by omega) y m q hy hm H g8 hb kp hr ..
    · rw [if_pos (.inr (eq_of_t h4))] at hr
      exact ih (k + 1) (by omega) y m q hy hm H g8 hb kp hr ..
    · rw [if_neg (by rintro (h | h)
                     · exact ne_of_f h3 h
                     · exact ne_of_f h4 h)] at hr
      obtain ⟨v2, h2', e2, rfl, K2⟩ := ct104 hO hlit hy hm (ho.kp kp)
      obtain ⟨l1, l2⟩ := withN_lt hlit hy hm
      refine ⟨_, _, readAt_get g8 (by simp), _, _, _, _, e2, ?_⟩
      generalize (withN y m L[k]).1 = y1 at *
      generalize (withN y m L[k]).2 = m1 at *
      have ok2 : h2'.Ok := ho.kp (kp.trans (K2.le kp.nx))
      have gn : (h2'.add (.cells [(.int .u32 0), (.int .u32 0)] 102 .fix)).get h2'.nx = _ := get_add_same ..
      have gu : ∀ o, h₀.nx ≤ o → (h2'.add (.cells [(.int .u32 0), (.int .u32 0)] 102 .fix)).guarded o = false := fun o ho' => guarded_of fun q hq => by
        have : q ∈ h₀.gd := by have := (kp.trans (K2.le kp.nx)).gd; rw [← this]; exact hq
        have := ho.gd q this; omega
      have hnx2 : h₀.nx ≤ h2'.nx := Nat.le_trans kp.nx K2.nx
      refine vreq_t (canW_t gn (by decide) (gu _ hnx2) (by simp) rfl) ⟨_, _, readAt_get (wr_get gn (by decide) (gu _ hnx2) (by simp) rfl) (by simp [putAt]), ?_⟩
      have hb2 : b8 < h2'.nx := Nat.lt_of_lt_of_le hb K2.nx
      have g8' : ((h2'.add (.cells [(.int .u32 0), (.int .u32 0)] 102 .fix)).wr h2'.nx 0 [U y1, U m1]).get b8 = some (.cells [U y, U m] 102 .fix) := by
        rw [wr_get_ne _ _ _ _ (by omega), get_add_ne (by omega), K2.get _ hb]; exact g8
      have gu' : ((h2'.add (.cells [(.int .u32 0), (.int .u32 0)] 102 .fix)).wr h2'.nx 0 [U y1, U m1]).guarded b8 = false := by
        have := gu b8 hb8
        unfold Hp.guarded at *
        rw [gd_wr]; exact this
      have cw := canW_t g8' (by decide) gu' (off := 0) (vs := [U y1, U m1]) (by simp) rfl
      have next : ∀ q', r = fin38 (rsF v (L.drop (k + 1)) y1 m1 q') →
          I38_0 O (RPair h₀ r) a n c a' n' c' v b8 0 q' al nl cl (Int.ofNat nl) (Int.ofNat (k + 1)) (((h2'.add (.cells [(.int .u32 0), (.int .u32 0)] 102 .fix)).wr h2'.nx 0 [U y1, U m1]).wr b8 0 [U y1, U m1]) := by
        intro q' hr'
        refine ih (k + 1) (by omega) y1 m1 q' l1 l2 ?_ (wr_get g8' (by decide) gu' (by simp) rfl) (by rw [nx_wr, nx_wr, nx_add]; omega) ?_ hr'
        · refine (H.up EInt.up K2).keep (fun b' off' hab => ?_) (by rw [nx_wr, nx_wr, nx_add]; omega) fun _ _ h => h
          have hne := ha b' off' hab
          rcases H.2 with ⟨_, h0⟩ | ⟨b3, off3, _, _, _, h0, hlt, _⟩
          · rw [h0] at hab; cases hab
          · rw [h0] at hab; injection hab with hab; injection hab with hab _
            have := K2.nx
            rw [wr_get_ne _ _ _ _ hne, wr_get_ne _ _ _ _ (by omega), get_add_ne (by omega)]
        · exact (((kp.trans (K2.le kp.nx)).add hnx2 _).wr hnx2 _ _).wr hb8 _ _
      refine vcond_split (fun h5 => ?_) fun h5 => ?_
      · subst h5
        exact vreq_t cw (next _ (by simpa using hr) ..)
      · subst h5
        exact vreq_t cw (next _ (by simpa using hr) ..)
theorem ct38 {a a' : Option Addr} {n c n' c' : Nat} {h : Hp} {xs ys : List Int} (v : Int) (H : IntsAt h a n xs) (H' : IntsAt h a' n' ys) (hl : xs.length < 1000) (hl' : ys.length < 1000) (ho : h.Ok) (ht : Tb h) : Ret Tryd.prog O 38 [.slice a n c, .slice a' n' c', .int .i64 v] h (RPair h (resP xs ys v)) := by
  refine rk38 _ _ _ _ _ _ _ (hO _ _ _ (by decide)) ?_
  unfold T38 resP
  refine ⟨_, _, ct87 hO 30 H (by omega), vcond_split (fun h1 => ?_) fun h1 => ⟨_, _, ct87 hO 30 H' (by omega), vcond_split (fun h2 => ?_) fun h2 => vcond_split (fun h3 => ?_) fun h3 => vcond_split (fun h4 => ?_) fun h4 => ?_⟩⟩
  · rw [if_pos (.inl (by simpa using h1))]; exact .none (.refl _ _)
  · rw [if_pos (.inr (.inl (by simpa using h2)))]; exact .none (.refl _ _)
  · rw [if_pos (.inr (.inr (.inl (lt_of_t h3))))]; exact .none (.refl _ _)
  · rw [if_pos (.inr (.inr (.inr (lt_of_t h4))))]; exact .none (.refl _ _)
  · have h3 := not_lt_of_f h3
    have h4 := not_lt_of_f h4
    have hc1 : clB 30 0 xs = true := by simpa using h1
    have hc2 : clB 30 0 ys = true := by simpa using h2
    rw [if_neg (by rw [hc1, hc2]; simp; omega)]
    have hneg : wrapF .i64 (0 - v) = -v := by rw [wrap64] <;> omega
    rw [hneg]
    refine ⟨_, _, ct62 hO v H (by omega), vcond_split (fun h5 => ?_) fun h5 => ⟨_, _, ct62 hO (-v) H' (by omega), vcond_split (fun h6 => ?_) fun h6 => ?_⟩⟩
    · rw [if_pos (.inl (by simpa using h5))]; exact .none (.refl _ _)
    · rw [if_pos (.inr (by simpa using h6))]; exact .none (.refl _ _)
    · rw [if_neg (by simp at h5 h6; simp [h5, h6])]
      let h1' := h.add (.cells [U 0, U 0] 102 .fix)
      let h2' := h1'.add (.cells [(.slice a n c), (.slice a' n' c')] 32 .fix)
      have k1 : Kp h.nx h h2' := ((Kp.refl _ _).add (Nat.le_refl _) _).add (by rw [nx_add]; omega) _
      have I1 := H.up EInt.up k1
      have I2 := H'.up EInt.up k1
      have LL : IntssAt h2' (some ⟨h1'.nx, 0, none⟩) 2 [xs, ys] := by
        refine ⟨rfl, .inr ⟨h1'.nx, 0, _, _, _, rfl, by show h1'.nx < h1'.nx + 1; omega, get_add_same .., by simp, fun i hi => ?_⟩⟩
        match i, hi with
        | 0, _ => exact ⟨a, n, c, rfl, I1⟩
        | 1, _ => exact ⟨a', n', c', rfl, I2⟩
      obtain ⟨v', h3', e1, a3, n3, c3, rfl, A, K, F⟩ := ct103 hO LL (by simp) (by simp [lenSum]; omega) (ho.kp k1) (c := 2)
      refine ⟨_, _, _, _, e1, ?_⟩
      have hA : [xs, ys].flatten = xs ++ ys := by simp
      rw [hA] at A
      have hA1 := A.1
      rw [hA1]
      rw [hA1] at A
      have g8 : h2'.get h.nx = some (.cells [U 0, U 0] 102 .fix) := by
        show (h1'.add _).get h.nx = _
        rw [get_add_ne (by show h.nx ≠ h.nx + 1; omega)]
        exact get_add_same ..
      refine lp38 hO (L := xs ++ ys) (h₀ := h) (fun x hx => ?_) (by simp; omega) ⟨by omega, by omega⟩ (Nat.le_refl _) (fun b off e => ?_) ho ht (xs ++ ys).length 0 (by omega) 0 0 true (by decide) (by decide) A ?_ ?_ (k1.trans (K.le k1.nx)) rfl ..
      · rcases List.mem_append.1 hx with hx | hx
        · exact (clB_lit (by decide) hc1 x hx).1
        · exact (clB_lit (by decide) hc2 x hx).1
      · have := F b off e
        have : h2'.nx = h.nx + 2 := rfl
        omega
      · rw [K.get _ (by show h.nx < h.nx + 2; omega)]; exact g8
      · exact Nat.lt_of_lt_of_le (by show h.nx < h.nx + 2; omega) K.nx
end
end Go.Proofs.YtfgfhplgnfbaaaaDoor
/- Contract of the reference's Resolve. -/
namespace Go.Proofs.YtfgfhplgnfbaaaaDoor
open Go Go.Ev

/-- The last literal of a variable. -/
def lastV (x : Int) : List Int → Int → Int
  | [], o => o
  | z :: zs, o => lastV x zs (if varI z = x then z else o)
/-- The variables one after the other. -/
def rrF (v : Int) (xs ys : List Int) : Nat → Int → List Int → Bool → Bool → List Int × Int
  | 0, _, out, l, r => if l = false ∨ r = false then ([], 7) else (out, 0)
  | d + 1, x, out, l, r =>
    if x = v then rrF v xs ys d (x + 1) out (eqI (lastV x xs 0) v) (eqI (lastV x ys 0) (-v))
    else if lastV x xs 0 * lastV x ys 0 < 0 then ([], 7)
    else if lastV x xs 0 ≠ 0 then rrF v xs ys d (x + 1) (out ++ [lastV x xs 0]) l r
    else if lastV x ys 0 ≠ 0 then rrF v xs ys d (x + 1) (out ++ [lastV x ys 0]) l r
    else rrF v xs ys d (x + 1) out l r
def resR (xs ys : List Int) (v : Int) : List Int × Int :=
  if clB 30 0 xs = false ∨ clB 30 0 ys = false ∨ v < 1 ∨ 30 < v then ([], 2) else rrF v xs ys 30 1 [] false false
theorem lastV_small {x : Int} : ∀ {xs : List Int} {o : Int}, (∀ z ∈ xs, Lit z) → -30 ≤ o ∧ o ≤ 30 → -30 ≤ lastV x xs o ∧ lastV x xs o ≤ 30 := by
  intro xs
  induction xs with
  | nil => intro o _ ho; exact ho
  | cons z zs ih =>
    intro o hz ho
    refine ih (fun w hw => hz w (List.mem_cons_of_mem _ hw)) ?_
    have := hz z (List.mem_cons_self ..)
    split
    · exact this.2
    · exact ho

section
variable {O : CallF} (hO : Oth O)
include hO

theorem lp39_1 {a a' : Option Addr} {n c n' c' : Nat} {v : Int} {xs : List Int} {h : Hp} (H : IntsAt h a n xs) (hl : xs.length < 1000000) {Q : Value → Hp → Prop} {a8 : Option Addr} {n8 c8 : Nat} {l r : Bool} {x : Int} :
    ∀ (d k : Nat), k + d = xs.length → ∀ (o : Int), I39_2 O Q a n c a' n' c' v none 0 0 0 a8 n8 c8 l r x (lastV x (xs.drop k) o) 0 0 h → I39_1 O Q a n c a' n' c' v none 0 0 0 a8 n8 c8 l r x o (Int.ofNat k) h := by
  have hn := H.1
  intro d
  induction d with
  | zero =>
    intro k hk o hQ
    refine I39_1.of _ _ _ _ _ _ _ _ _ _ _ _ _ _ _ _ _ _ _ ?_
    intros
    unfold T39_1
    refine vcond_f (by rw [ltI_nat]; exact blt_f (by omega)) ?_
    rw [List.drop_of_length_le (by omega)] at hQ
    exact hQ ..
  | succ d ih =>
    intro k hk o hQ
    have e1 : xs.drop k = xs[k] :: xs.drop (k + 1) := List.drop_eq_getElem_cons (by omega)
    rw [e1] at hQ
    simp only [lastV] at hQ
    refine I39_1.of _ _ _ _ _ _ _ _ _ _ _ _ _ _ _ _ _ _ _ ?_
    intros
    unfold T39_1
    refine vcond_t (by rw [ltI_nat]; exact blt_t (by omega)) (isNat_of (H.get (k := k) (by omega) fun b off h1 h2 hr => vreq_t (blt_t (by omega)) ⟨_, hr, _, _, ct98 hO _ _, ?_⟩))
    rw [wrap_succ (by omega)]
    refine vcond_split (fun h3 => ?_) fun h3 => ?_
    · rw [if_pos (eq_of_t h3)] at hQ
      exact isNat_of (H.get (k := k) (by omega) fun b off h1 h2 hr => vreq_t (blt_t (by omega)) ⟨_, hr, ih (k + 1) (by omega) _ hQ ..⟩)
    · rw [if_neg (ne_of_f h3)] at hQ
      exact ih (k + 1) (by omega) _ hQ ..

/-- What comes behind the two inner loops. -/
theorem lp39_2 {a a' : Option Addr} {n c n' c' : Nat} {v : Int} (hv : 1 ≤ v ∧ v ≤ 30) {ys : List Int} {h : Hp} (H : IntsAt h a' n' ys) (hl : ys.length < 1000000) {Q : Value → Hp → Prop} {base : Nat} {out : List Int} {a8 : Option Addr} {n8 c8 : Nat} {l r : Bool} {x : Int} (hx : 1 ≤ x ∧ x ≤ 30) (A : AccI 3 h base a8 n8 c8 out) (hb : base ≤ h.nx) (hg : GdLt h base) (ho : out.length < 1000) {one : Int} (h1 : -30 ≤ one ∧ one ≤ 30) (hys : ∀ z ∈ ys, Lit z)
    (hQ : ∀ two, two = lastV x ys 0 → (x = v → I39_0 O Q a n c a' n' c' v none 0 0 0 a8 n8 c8 (eqI one v) (eqI two (-v)) (x + 1) h) ∧ (x ≠ v → (one * two < 0 → Q (.tuple #[.slice none 0 0, .int .i64 7]) h) ∧
      (¬ one * two < 0 → (∀ z, (one ≠ 0 ∧ z = one ∨ one = 0 ∧ two ≠ 0 ∧ z = two) → ∀ a9 n9 c9 h', AccI 3 h' base a9 n9 c9 (out ++ [z]) → Kp base h h' → I39_0 O Q a n c a' n' c' v none 0 0 0 a9 n9 c9 l r (x + 1) h') ∧ (one = 0 → two = 0 → I39_0 O Q a n c a' n' c' v none 0 0 0 a8 n8 c8 l r (x + 1) h)))) :
    ∀ (d k : Nat), k + d = ys.length → ∀ (o : Int), lastV x (ys.drop k) o = lastV x ys 0 → I39_2 O Q a n c a' n' c' v none 0 0 0 a8 n8 c8 l r x one o (Int.ofNat k) h := by
  have hn := H.1
  intro d
  induction d with
  | zero =>
    intro k hk o hoo
    refine I39_2.of _ _ _ _ _ _ _ _ _ _ _ _ _ _ _ _ _ _ _ _ ?_
    intros
    unfold T39_2
    refine vcond_f (by rw [ltI_nat]; exact blt_f (by omega)) ?_
    rw [List.drop_of_length_le (by omega)] at hoo
    have hoo : o = lastV x ys 0 := hoo
    have h2 := lastV_small (x := x) (o := 0) hys ⟨by decide, by decide⟩
    rw [← hoo] at h2
    obtain ⟨q1, q2⟩ := hQ o hoo
    have ex : wrapF .i64 (x + 1) = x + 1 := by rw [wrap64] <;> omega
    have ev : wrapF .i64 (0 - v) = -v := by rw [wrap64] <;> omega
    rw [ex, ev]
    refine vcond_split (fun h3 => q1 (eq_of_t h3) ..) fun h3 => ?_
    obtain ⟨q3, q4⟩ := q2 (ne_of_f h3)
    have hm : -900 ≤ one * o ∧ one * o ≤ 900 := by
      have e1 : (one * o).natAbs ≤ 900 := by
        rw [Int.natAbs_mul]
        exact Nat.le_trans (Nat.mul_le_mul (show one.natAbs ≤ 30 by omega) (show o.natAbs ≤ 30 by omega)) (by decide)
      omega
    rw [wrap64 (n := one * o) (by omega) (by omega)]
    refine vcond_split (fun h4 => q3 (lt_of_t h4)) fun h4 => ?_
    obtain ⟨q5, q6⟩ := q4 (not_lt_of_f h4)
    refine vcond_split (fun h5 => ?_) fun h5 => vcond_split (fun h6 => ?_) fun h6 => ?_
    · obtain ⟨a9, n9, c9, h', e, A', k'⟩ := app_int app32 A hb hg (by omega) one
      exact ⟨a9, n9, c9, h', e, q5 one (.inl ⟨ne_of_f (by simpa using h5), rfl⟩) _ _ _ _ A' (k'.kp A hb) ..⟩
    · obtain ⟨a9, n9, c9, h', e, A', k'⟩ := app_int app32 A hb hg (by omega) o
      exact ⟨a9, n9, c9, h', e, q5 o (.inr ⟨eq_of_t (by simpa using h5), ne_of_f (by simpa using h6), rfl⟩) _ _ _ _ A' (k'.kp A hb) ..⟩
    · exact q6 (eq_of_t (by simpa using h5)) (eq_of_t (by simpa using h6)) ..
  | succ d ih =>
    intro k hk o hoo
    have e1 : ys.drop k = ys[k] :: ys.drop (k + 1) := List.drop_eq_getElem_cons (by omega)
    rw [e1] at hoo
    simp only [lastV] at hoo
    refine I39_2.of _ _ _ _ _ _ _ _ _ _ _ _ _ _ _ _ _ _ _ _ ?_
    intros
    unfold T39_2
    refine vcond_t (by rw [ltI_nat]; exact blt_t (by omega)) (isNat_of (H.get (k := k) (by omega) fun b off h1 h2 hr => vreq_t (blt_t (by omega)) ⟨_, hr, _, _, ct98 hO _ _, ?_⟩))
    rw [wrap_succ (by omega)]
    refine vcond_split (fun h3 => ?_) fun h3 => ?_
    · rw [if_pos (eq_of_t h3)] at hoo
      exact isNat_of (H.get (k := k) (by omega) fun b off h1 h2 hr => vreq_t (blt_t (by omega)) ⟨_, hr, ih (k + 1) (by omega) _ hoo ..⟩)
    · rw [if_neg (ne_of_f h3)] at hoo
      exact ih (k + 1) (by omega) _ hoo ..

theorem lp39_0 {a a' : Option Addr} {n c n' c' : Nat} {v : Int} (hv : 1 ≤ v ∧ v ≤ 30) {xs ys : List Int} {h₀ : Hp} (hl : xs.length < 1000) (hl' : ys.length < 1000) (hxs : ∀ z ∈ xs, Lit z) (hys : ∀ z ∈ ys, Lit z) (ho : h₀.Ok) {res : List Int × Int} :
    ∀ (d : Nat) (x : Int), x + d = 31 → 1 ≤ x → ∀ (out : List Int) (l r : Bool) {h : Hp} {a8 : Option Addr} {n8 c8 : Nat}, out.length + d ≤ 40 → IntsAt h a n xs → IntsAt h a' n' ys → AccI 3 h h₀.nx a8 n8 c8 out → Kp h₀.nx h₀ h → (∀ h', Kp h₀.nx h h' → IntsAt h' a n xs ∧ IntsAt h' a' n' ys) →
      res = rrF v xs ys d x out l r → I39_0 O (RPair h₀ res) a n c a' n' c' v none 0 0 0 a8 n8 c8 l r x h := by
  intro d
  induction d with
  | zero =>
    intro x hx h1 out l r h a8 n8 c8 hlen H H' A kp hup hr
    refine I39_0.of _ _ _ _ _ _ _ _ _ _ _ _ _ _ _ _ _ ?_
    intros
    unfold T39_0
    refine vcond_f (by rw [ltI_t (by omega)]; rfl) ?_
    subst hr
    simp only [rrF]
    refine vcond_split (fun h3 => ?_) fun h3 => vcond_split (fun h4 => ?_) fun h4 => ?_
    · rw [if_pos (.inl (by simpa using h3))]; exact .none kp
    · rw [if_pos (.inr (by simpa using h4))]; exact .none kp
    · rw [if_neg (by simp at h3 h4; simp [h3, h4])]; exact ⟨_, _, _, rfl, A.ints, kp⟩
  | succ d ih =>
    intro x hx h1 out l r h a8 n8 c8 hlen H H' A kp hup hr
    refine I39_0.of _ _ _ _ _ _ _ _ _ _ _ _ _ _ _ _ _ ?_
    intros
    unfold T39_0
    refine vcond_t (by rw [ltI_f (by omega)]; rfl) ?_
    simp only [rrF] at hr
    have hb : h₀.nx ≤ h.nx := kp.nx
    have hg : GdLt h h₀.nx := fun q hq => by rw [kp.gd] at hq; exact ho.gd q hq
    refine lp39_1 hO H (by omega) xs.length 0 (by omega) 0 ?_ ..
    rw [List.drop_zero]
    refine lp39_2 hO hv H' (by omega) ⟨h1, by omega⟩ A hb hg (by omega) (lastV_small hxs ⟨by decide, by decide⟩) hys (fun two e2 => ⟨fun hxv => ?_, fun hxv => ⟨fun hm => ?_, fun hm => ⟨fun z hz a9 n9 c9 h' A' k' => ?_, fun z1 z2 => ?_⟩⟩⟩) ys.length 0 (by omega) 0 rfl
    · rw [if_pos hxv, ← e2] at hr
      exact ih (x + 1) (by omega) (by omega) out _ _ (by omega) H H' A kp hup hr
    · rw [if_neg hxv, ← e2, if_pos hm] at hr
      subst hr; exact .none kp
    · rw [if_neg hxv, ← e2, if_neg hm] at hr
      obtain ⟨u1, u2⟩ := hup h' k'
      refine ih (x + 1) (by omega) (by omega) (out ++ [z]) l r (by simp; omega) u1 u2 A' (kp.trans k') (fun h2 k2 => hup h2 (k'.trans k2)) ?_
      rcases hz with ⟨z1, rfl⟩ | ⟨z1, z2, rfl⟩
      · rw [if_pos z1] at hr; exact hr
      · rw [if_neg (by simpa using z1), if_pos z2] at hr; exact hr
    · rw [if_neg hxv, ← e2, if_neg hm, if_neg (by simpa using z1), if_neg (by simpa using z2)] at hr
      exact ih (x + 1) (by omega) (by omega) out l r (by omega) H H' A kp hup hr
theorem ct39 {a a' : Option Addr} {n c n' c' : Nat} {h : Hp} {xs ys : List Int} (v : Int) (H : IntsAt h a n xs) (H' : IntsAt h a' n' ys) (hl : xs.length < 1000) (hl' : ys.length < 1000) (ho : h.Ok) : Ret Tryd.prog O 39 [.slice a n c, .slice a' n' c', .int .i64 v] h (RPair h (resR xs ys v)) := by
  refine rk39 _ _ _ _ _ _ _ (hO _ _ _ (by decide)) ?_
  unfold T39 resR
  refine ⟨_, _, ct105 hO 30 H (by omega), vcond_split (fun h1 => ?_) fun h1 => ⟨_, _, ct105 hO 30 H' (by omega), vcond_split (fun h2 => ?_) fun h2 => vcond_split (fun h3 => ?_) fun h3 => vcond_split (fun h4 => ?_) fun h4 => ?_⟩⟩
  · rw [if_pos (.inl (by simpa using h1))]; exact .none (.refl _ _)
  · rw [if_pos (.inr (.inl (by simpa using h2)))]; exact .none (.refl _ _)
  · rw [if_pos (.inr (.inr (.inl (lt_of_t h3))))]; exact .none (.refl _ _)
  · rw [if_pos (.inr (.inr (.inr (lt_of_t h4))))]; exact .none (.refl _ _)
  · have h3 := not_lt_of_f h3
    have h4 := not_lt_of_f h4
    have hc1 : clB 30 0 xs = true := by simpa using h1
    have hc2 : clB 30 0 ys = true := by simpa using h2
    rw [if_neg (by rw [hc1, hc2]; simp; omega)]
    exact lp39_0 hO ⟨by omega, by omega⟩ hl hl' (fun z hz => (clB_lit (by decide) hc1 z hz).1) (fun z hz => (clB_lit (by decide) hc2 z hz).1) ho 30 1 (by decide) (by decide) [] false false (by decide) H H' (AccI.nil ..) (.refl _ _) (fun h' k' => ⟨H.up EInt.up k', H'.up EInt.up k'⟩) rfl ..
end
end Go.Proofs.YtfgfhplgnfbaaaaDoor
/- The plain law: both texts resolve alike. -/
namespace Go.Proofs.YtfgfhplgnfbaaaaDoor
open Go Go.Ev

theorem varI_lit {x : Int} (h : Lit x) : varI x = if x < 0 then -x else x := by
  unfold varI
  rw [if_neg (by have := h.2; omega)]
theorem clB_gt {vars : Int} : ∀ {xs : List Int} {last : Int}, clB vars last xs = true → ∀ z ∈ xs, last < varI z := by
  intro xs
  induction xs with
  | nil => intro last _ z hz; cases hz
  | cons x xs ih =>
    intro last h z hz
    simp only [clB] at h
    split at h
    · cases h
    · rename_i hx
      rcases List.mem_cons.1 hz with rfl | hz
      · omega
      · have := ih h z hz; omega
theorem lastV_none {w : Int} : ∀ {xs : List Int} {o : Int}, (∀ z ∈ xs, varI z ≠ w) → lastV w xs o = o := by
  intro xs
  induction xs with
  | nil => intro o _; rfl
  | cons x xs ih =>
    intro o h
    simp only [lastV]
    rw [if_neg (h x (List.mem_cons_self ..)), ih fun z hz => h z (List.mem_cons_of_mem _ hz)]
/-- The literal of a variable in a clause. -/
def litIn (w : Int) (xs : List Int) : Int := if w ∈ xs then w else if -w ∈ xs then -w else 0
theorem lastV_eq {w : Int} (hw : 1 ≤ w ∧ w ≤ 30) : ∀ {xs : List Int} {last : Int}, 0 ≤ last → clB 30 last xs = true → lastV w xs 0 = litIn w xs := by
  intro xs
  induction xs with
  | nil => intro last _ _; rfl
  | cons x xs ih =>
    intro last h0 h
    have hlit := clB_lit h0 h
    simp only [clB] at h
    split at h
    · cases h
    · rename_i hx
      have hl := (hlit x (List.mem_cons_self ..)).1
      have hv := varI_lit hl
      simp only [lastV]
      by_cases hxw : varI x = w
      · rw [if_pos hxw, lastV_none fun z hz => by have := clB_gt h z hz; omega]
        unfold litIn
        have no : ∀ z ∈ xs, z ≠ w ∧ z ≠ -w := fun z hz => by
          have h1 := clB_gt h z hz
          have h2 := varI_lit (hlit z (List.mem_cons_of_mem _ hz)).1
          constructor
          · rintro rfl; rw [if_neg (by omega)] at h2; omega
          · rintro rfl; rw [if_pos (by omega)] at h2; omega
        rw [hxw] at hv
        by_cases hneg : x < 0
        · rw [if_pos hneg] at hv
          have e1 : x = -w := by omega
          subst e1
          rw [if_neg, if_pos (List.mem_cons_self ..)]
          intro hm
          rcases List.mem_cons.1 hm with hm | hm
          · omega
          · exact (no _ hm).1 rfl
        · rw [if_neg hneg] at hv
          have e1 : x = w := by omega
          subst e1
          rw [if_pos (List.mem_cons_self ..)]
      · rw [if_neg hxw, ih (by omega) h]
        unfold litIn
        have n1 : x ≠ w := by rintro rfl; rw [if_neg (by omega)] at hv; omega
        have n2 : x ≠ -w := by rintro rfl; rw [if_pos (by omega)] at hv; omega
        have m1 : w ∈ x :: xs ↔ w ∈ xs := by rw [List.mem_cons]; exact ⟨fun h => h.resolve_left fun h => n1 h.symm, .inr⟩
        have m2 : -w ∈ x :: xs ↔ -w ∈ xs := by rw [List.mem_cons]; exact ⟨fun h => h.resolve_left fun h => n2 h.symm, .inr⟩
        simp only [m1, m2]
/-- A clause has no variable twice. -/
theorem cl_one {w : Int} (hw : 1 ≤ w) : ∀ {xs : List Int} {last : Int}, 0 ≤ last → clB 30 last xs = true → ¬ (w ∈ xs ∧ -w ∈ xs) := by
  intro xs
  induction xs with
  | nil => intro _ _ _ h; cases h.1
  | cons x xs ih =>
    intro last h0 h ⟨h1, h2⟩
    have hlit := clB_lit h0 h
    simp only [clB] at h
    split at h
    · cases h
    · rename_i hx
      have v1 := varI_lit (hlit w h1).1
      have v2 := varI_lit (hlit (-w) h2).1
      rw [if_neg (by omega)] at v1
      rw [if_pos (by omega)] at v2
      rcases List.mem_cons.1 h1 with e1 | m1
      · rcases List.mem_cons.1 h2 with e2 | m2
        · omega
        · have := clB_gt h _ m2; rw [← e1] at this; omega
      · rcases List.mem_cons.1 h2 with e2 | m2
        · have := clB_gt h _ m1; rw [← e2] at this; omega
        · exact ih (by omega) h ⟨m1, m2⟩

/-! ### the masks -/
theorem bitN_test {x : Int} (h : Lit x) (i : Nat) : (bitN x).testBit i = decide (x = (i + 1 : Nat) ∨ x = -(i + 1 : Nat)) := by
  unfold bitN
  rw [Nat.testBit_two_pow]
  have := h.1
  congr 1
  refine propext ⟨fun e => ?_, fun e => ?_⟩ <;> omega
theorem withN_test {y m : Nat} {x : Int} (h : Lit x) (i : Nat) : (withN y m x).1.testBit i = (y.testBit i || decide (x = (i + 1 : Nat))) ∧ (withN y m x).2.testBit i = (m.testBit i || decide (x = -(i + 1 : Nat))) := by
  have hb := bitN_test h i
  unfold withN
  split
  · rename_i hp
    refine ⟨by simp only [Nat.testBit_or, hb]; congr 2; exact propext ⟨fun e => by omega, .inl⟩, ?_⟩
    have : ¬ (x = -(i + 1 : Nat)) := by omega
    rw [decide_eq_false this, Bool.or_false]
  · rename_i hp
    refine ⟨?_, by simp only [Nat.testBit_or, hb]; congr 2; exact propext ⟨fun e => by omega, .inr⟩⟩
    have : ¬ (x = (i + 1 : Nat)) := by have := h.1; omega
    rw [decide_eq_false this, Bool.or_false]
theorem rsF_test {v : Int} : ∀ {L : List Int} {y m : Nat} {q : Bool}, (∀ x ∈ L, Lit x) → ∀ i : Nat,
    (rsF v L y m q).1.testBit i = (y.testBit i || decide (((i + 1 : Nat) : Int) ∈ L ∧ ((i + 1 : Nat) : Int) ≠ v ∧ ((i + 1 : Nat) : Int) ≠ -v)) ∧
    (rsF v L y m q).2.1.testBit i = (m.testBit i || decide (-((i + 1 : Nat) : Int) ∈ L ∧ -((i + 1 : Nat) : Int) ≠ v ∧ -((i + 1 : Nat) : Int) ≠ -v)) := by
  intro L
  induction L with
  | nil => intro y m q _ i; simp [rsF]
  | cons x L ih =>
    intro y m q hl i
    have hl' : ∀ x ∈ L, Lit x := fun z hz => hl z (List.mem_cons_of_mem _ hz)
    simp only [rsF]
    split
    · rename_i hx
      obtain ⟨h1, h2⟩ := ih (y := y) (m := m) (q := q) hl' i
      rw [h1, h2]
      constructor
      · congr 2
        refine propext ⟨fun ⟨a, b⟩ => ⟨List.mem_cons_of_mem _ a, b⟩, fun ⟨a, b⟩ => ⟨?_, b⟩⟩
        rcases List.mem_cons.1 a with a | a
        · omega
        · exact a
      · congr 2
        refine propext ⟨fun ⟨a, b⟩ => ⟨List.mem_cons_of_mem _ a, b⟩, fun ⟨a, b⟩ => ⟨?_, b⟩⟩
        rcases List.mem_cons.1 a with a | a
        · omega
        · exact a
    · rename_i hx
      obtain ⟨w1, w2⟩ := withN_test (y := y) (m := m) (hl x (List.mem_cons_self ..)) i
      obtain ⟨h1, h2⟩ := ih (y := (withN y m x).1) (m := (withN y m x).2) (q := (q && decide ((withN y m x).1 &&& (withN y m x).2 = 0))) hl' i
      rw [h1, h2, w1, w2, Bool.or_assoc, Bool.or_assoc]
      constructor
      · congr 1
        rw [← Bool.decide_or]
        refine decide_eq_decide.2 ⟨fun h => ?_, fun ⟨a, b⟩ => ?_⟩
        · rcases h with rfl | ⟨a, b⟩
          · exact ⟨List.mem_cons_self .., by omega⟩
          · exact ⟨List.mem_cons_of_mem _ a, b⟩
        · rcases List.mem_cons.1 a with a | a
          · exact .inl a.symm
          · exact .inr ⟨a, b⟩
      · congr 1
        rw [← Bool.decide_or]
        refine decide_eq_decide.2 ⟨fun h => ?_, fun ⟨a, b⟩ => ?_⟩
        · rcases h with rfl | ⟨a, b⟩
          · exact ⟨List.mem_cons_self .., by omega⟩
          · exact ⟨List.mem_cons_of_mem _ a, b⟩
        · rcases List.mem_cons.1 a with a | a
          · exact .inl a.symm
          · exact .inr ⟨a, b⟩
theorem rsF_false {v : Int} : ∀ {L : List Int} {y m : Nat}, (rsF v L y m false).2.2 = false := by
  intro L
  induction L with
  | nil => intro y m; rfl
  | cons x L ih => intro y m; simp only [rsF]; split <;> simp [ih]
theorem and_zero_iff (y m : Nat) : y &&& m = 0 ↔ ∀ i, ¬ (y.testBit i = true ∧ m.testBit i = true) := by
  constructor
  · intro h i ⟨a, b⟩
    have := congrArg (fun z => z.testBit i) h
    simp [Nat.testBit_and, a, b] at this
  · intro h
    refine Nat.eq_of_testBit_eq fun i => ?_
    rw [Nat.testBit_and]
    have := h i
    cases a : y.testBit i <;> cases b : m.testBit i <;> simp_all
theorem rsF_good {v : Int} : ∀ {L : List Int} {y m : Nat} {q : Bool}, (∀ x ∈ L, Lit x) → y &&& m = 0 → ((rsF v L y m q).2.2 = true ↔ q = true ∧ (rsF v L y m q).1 &&& (rsF v L y m q).2.1 = 0) := by
  intro L
  induction L with
  | nil => intro y m q _ h; simp [rsF, h]
  | cons x L ih =>
    intro y m q hl h
    have hl' : ∀ x ∈ L, Lit x := fun z hz => hl z (List.mem_cons_of_mem _ hz)
    simp only [rsF]
    split
    · exact ih hl' h
    · by_cases hg : (withN y m x).1 &&& (withN y m x).2 = 0
      · rw [decide_eq_true hg, Bool.and_true]
        exact ih hl' hg
      · rw [decide_eq_false hg, Bool.and_false, rsF_false]
        refine ⟨fun h => (by cases h), fun ⟨_, h0⟩ => ?_⟩
        exfalso
        refine hg ((and_zero_iff _ _).2 fun i ⟨a, b⟩ => ?_)
        obtain ⟨t1, t2⟩ := rsF_test (v := v) (L := L) (y := (withN y m x).1) (m := (withN y m x).2) (q := false) hl' i
        rw [a] at t1
        rw [b] at t2
        exact (and_zero_iff _ _).1 h0 i ⟨by rw [t1]; rfl, by rw [t2]; rfl⟩

/-! ### the reference's loop -/
def gR (v : Int) (xs ys : List Int) (w : Int) : Option Int := if w = v then none else if litIn w xs ≠ 0 then some (litIn w xs) else if litIn w ys ≠ 0 then some (litIn w ys) else none
open Classical in
theorem rrF_eq {v : Int} {xs ys : List Int} (hx : clB 30 0 xs = true) (hy : clB 30 0 ys = true) (hv : 1 ≤ v ∧ v ≤ 30) : ∀ (d s : Nat), s + d = 30 → ∀ (out : List Int) (l r : Bool), (v ≤ s → l = eqI (litIn v xs) v ∧ r = eqI (litIn v ys) (-v)) →
    rrF v xs ys d (Int.ofNat (s + 1)) out l r = if (∃ i : Nat, s ≤ i ∧ i < 30 ∧ ((i + 1 : Nat) : Int) ≠ v ∧ litIn ((i + 1 : Nat) : Int) xs * litIn ((i + 1 : Nat) : Int) ys < 0) ∨ eqI (litIn v xs) v = false ∨ eqI (litIn v ys) (-v) = false then ([], 7)
      else (out ++ (List.range' s d).filterMap (fun i : Nat => gR v xs ys ((i + 1 : Nat) : Int)), 0) := by
  intro d
  induction d with
  | zero =>
    intro s hs out l r hlr
    obtain ⟨e1, e2⟩ := hlr (by omega)
    subst e1 e2
    simp only [rrF]
    by_cases hc : eqI (litIn v xs) v = false ∨ eqI (litIn v ys) (-v) = false
    · rw [if_pos hc, if_pos (.inr hc)]
    · rw [if_neg hc, if_neg]
      · simp
      · rintro (⟨i, h1, h2, _⟩ | h)
        · omega
        · exact hc h
  | succ d ih =>
    intro s hs out l r hlr
    simp only [rrF]
    have e1 : lastV (Int.ofNat (s + 1)) xs 0 = litIn ((s + 1 : Nat) : Int) xs := lastV_eq ⟨by simp only [Int.ofNat_eq_natCast]; omega, by simp only [Int.ofNat_eq_natCast]; omega⟩ (by decide) hx
    have e2 : lastV (Int.ofNat (s + 1)) ys 0 = litIn ((s + 1 : Nat) : Int) ys := lastV_eq ⟨by simp only [Int.ofNat_eq_natCast]; omega, by simp only [Int.ofNat_eq_natCast]; omega⟩ (by decide) hy
    have e3 : Int.ofNat (s + 1) + 1 = Int.ofNat (s + 1 + 1) := rfl
    rw [e1, e2, e3]
    have step : ∀ (out' : List Int) (l' r' : Bool), (v ≤ (s + 1 : Nat) → l' = eqI (litIn v xs) v ∧ r' = eqI (litIn v ys) (-v)) → ¬ (((s + 1 : Nat) : Int) ≠ v ∧ litIn ((s + 1 : Nat) : Int) xs * litIn ((s + 1 : Nat) : Int) ys < 0) → out' = out ++ (gR v xs ys ((s + 1 : Nat) : Int)).toList →
        rrF v xs ys d (Int.ofNat (s + 1 + 1)) out' l' r' = if (∃ i : Nat, s ≤ i ∧ i < 30 ∧ ((i + 1 : Nat) : Int) ≠ v ∧ litIn ((i + 1 : Nat) : Int) xs * litIn ((i + 1 : Nat) : Int) ys < 0) ∨ eqI (litIn v xs) v = false ∨ eqI (litIn v ys) (-v) = false then ([], 7)
          else (out ++ (List.range' s (d + 1)).filterMap (fun i : Nat => gR v xs ys ((i + 1 : Nat) : Int)), 0) := by
      intro out' l' r' h1 h2 h3
      rw [ih (s + 1) (by omega) out' l' r' h1]
      have hex : (∃ i : Nat, s + 1 ≤ i ∧ i < 30 ∧ ((i + 1 : Nat) : Int) ≠ v ∧ litIn ((i + 1 : Nat) : Int) xs * litIn ((i + 1 : Nat) : Int) ys < 0) ↔ (∃ i : Nat, s ≤ i ∧ i < 30 ∧ ((i + 1 : Nat) : Int) ≠ v ∧ litIn ((i + 1 : Nat) : Int) xs * litIn ((i + 1 : Nat) : Int) ys < 0) := by
        refine ⟨fun ⟨i, a, b⟩ => ⟨i, by omega, b⟩, fun ⟨i, a, b, c⟩ => ⟨i, ?_, b, c⟩⟩
        rcases Nat.lt_or_ge s i with h | h
        · omega
        · obtain rfl : i = s := by omega
          exact absurd c h2
      simp only [hex]
      congr 2
      rw [h3, List.range'_succ, List.filterMap_cons]
      cases gR v xs ys ((s + 1 : Nat) : Int) <;> simp
    by_cases hsv : Int.ofNat (s + 1) = v
    · rw [if_pos hsv]
      have hsv' : ((s + 1 : Nat) : Int) = v := hsv
      rw [hsv']
      refine step _ _ _ (fun _ => ⟨rfl, rfl⟩) (fun h => h.1 hsv') ?_
      unfold gR
      rw [if_pos hsv']; simp
    · rw [if_neg hsv]
      have hsv' : ((s + 1 : Nat) : Int) ≠ v := hsv
      have hlr' : v ≤ (s + 1 : Nat) → l = eqI (litIn v xs) v ∧ r = eqI (litIn v ys) (-v) := fun h => hlr (by omega)
      by_cases hm : litIn ((s + 1 : Nat) : Int) xs * litIn ((s + 1 : Nat) : Int) ys < 0
      · rw [if_pos hm, if_pos (.inl ⟨s, Nat.le_refl _, by omega, hsv', hm⟩)]
      · rw [if_neg hm]
        have hm' : ¬ (((s + 1 : Nat) : Int) ≠ v ∧ litIn ((s + 1 : Nat) : Int) xs * litIn ((s + 1 : Nat) : Int) ys < 0) := fun h => hm h.2
        by_cases h1 : litIn ((s + 1 : Nat) : Int) xs ≠ 0
        · rw [if_pos h1]
          refine step _ _ _ hlr' hm' ?_
          unfold gR
          rw [if_neg hsv', if_pos h1]; simp
        · rw [if_neg h1]
          by_cases h2 : litIn ((s + 1 : Nat) : Int) ys ≠ 0
          · rw [if_pos h2]
            refine step _ _ _ hlr' hm' ?_
            unfold gR
            rw [if_neg hsv', if_neg h1, if_pos h2]; simp
          · rw [if_neg h2]
            refine step _ _ _ hlr' hm' ?_
            unfold gR
            rw [if_neg hsv', if_neg h1, if_neg h2]; simp
theorem litIn_cases (w : Int) (xs : List Int) : (w ∈ xs ∧ litIn w xs = w) ∨ (¬ w ∈ xs ∧ -w ∈ xs ∧ litIn w xs = -w) ∨ (¬ w ∈ xs ∧ ¬ -w ∈ xs ∧ litIn w xs = 0) := by
  unfold litIn
  by_cases h1 : w ∈ xs
  · exact .inl ⟨h1, if_pos h1⟩
  · by_cases h2 : -w ∈ xs
    · exact .inr (.inl ⟨h1, h2, by rw [if_neg h1, if_pos h2]⟩)
    · exact .inr (.inr ⟨h1, h2, by rw [if_neg h1, if_neg h2]⟩)

theorem filter_map_eq {α β : Type} {p : α → Bool} {f : α → β} {g : α → Option β} : ∀ {l : List α}, (∀ i ∈ l, (if p i = true then some (f i) else none) = g i) → (l.filter p).map f = l.filterMap g := by
  intro l
  induction l with
  | nil => intro _; rfl
  | cons a l ih =>
    intro h
    have h1 := h a (List.mem_cons_self ..)
    rw [List.filterMap_cons, ← h1]
    by_cases hp : p a = true
    · rw [List.filter_cons_of_pos hp, if_pos hp, List.map_cons, ih fun i hi => h i (List.mem_cons_of_mem _ hi)]
    · rw [List.filter_cons_of_neg hp, if_neg hp, ih fun i hi => h i (List.mem_cons_of_mem _ hi)]
/-- Both resolve alike. -/
theorem res_same (xs ys : List Int) (v : Int) : resP xs ys v = resR xs ys v := by
  unfold resP resR
  by_cases hbad : clB 30 0 xs = false ∨ clB 30 0 ys = false ∨ v < 1 ∨ 30 < v
  · rw [if_pos hbad, if_pos hbad]
  · rw [if_neg hbad, if_neg hbad]
    have hx : clB 30 0 xs = true := by cases h : clB 30 0 xs <;> simp_all
    have hy : clB 30 0 ys = true := by cases h : clB 30 0 ys <;> simp_all
    have hv : 1 ≤ v ∧ v ≤ 30 := by omega
    have := rrF_eq hx hy hv 30 0 rfl [] false false (fun h => by omega)
    rw [show (1 : Int) = Int.ofNat (0 + 1) from rfl, this, List.nil_append]
    clear this
    have hxl : ∀ x ∈ xs, Lit x := fun x h => (clB_lit (by decide) hx x h).1
    have hyl : ∀ x ∈ ys, Lit x := fun x h => (clB_lit (by decide) hy x h).1
    have hL : ∀ x ∈ xs ++ ys, Lit x := fun x h => (List.mem_append.1 h).elim (hxl x) (hyl x)
    have ex : eqI (litIn v xs) v = decide (v ∈ xs) := by
      rw [eqI_eq]
      rcases litIn_cases v xs with ⟨a, b⟩ | ⟨a, _, b⟩ | ⟨a, _, b⟩ <;> rw [b] <;> simp [a] <;> omega
    have ey : eqI (litIn v ys) (-v) = decide (-v ∈ ys) := by
      rw [eqI_eq]
      have := cl_one hv.1 (by decide) hy
      rcases litIn_cases v ys with ⟨a, b⟩ | ⟨_, a, b⟩ | ⟨_, a, b⟩
      · have : ¬ -v ∈ ys := fun h => this ⟨a, h⟩
        rw [b]; simp [this]; omega
      · rw [b]; simp [a]
      · rw [b]; simp [a]; omega
    rw [ex, ey]
    by_cases hno : ¬ v ∈ xs ∨ ¬ (-v) ∈ ys
    · rw [if_pos hno, if_pos (.inr (by simpa using hno))]
    · rw [if_neg hno]
      have hvx : v ∈ xs := by simp at hno; exact hno.1
      have hvy : -v ∈ ys := by simp at hno; exact hno.2
      have tst := fun i => rsF_test (v := v) (L := xs ++ ys) (y := 0) (m := 0) (q := true) hL i
      have good := rsF_good (v := v) (L := xs ++ ys) (y := 0) (m := 0) (q := true) hL rfl
      generalize rsF v (xs ++ ys) 0 0 true = t at tst good
      obtain ⟨Y, M, q⟩ := t
      simp only [Nat.zero_testBit, Bool.false_or, true_and] at tst good
      have tY : ∀ i, Y.testBit i = true ↔ ((i + 1 : Nat) : Int) ≠ v ∧ (((i + 1 : Nat) : Int) ∈ xs ∨ ((i + 1 : Nat) : Int) ∈ ys) := fun i => by
        rw [(tst i).1]; simp only [decide_eq_true_eq, List.mem_append]
        constructor
        · rintro ⟨a, b, _⟩; exact ⟨b, a⟩
        · rintro ⟨a, b⟩; exact ⟨b, a, by omega⟩
      have tM : ∀ i, M.testBit i = true ↔ ((i + 1 : Nat) : Int) ≠ v ∧ (-((i + 1 : Nat) : Int) ∈ xs ∨ -((i + 1 : Nat) : Int) ∈ ys) := fun i => by
        rw [(tst i).2]; simp only [decide_eq_true_eq, List.mem_append]
        constructor
        · rintro ⟨a, _, b⟩; exact ⟨by omega, a⟩
        · rintro ⟨a, b⟩; exact ⟨b, by omega, by omega⟩
      have clash : (∃ i : Nat, 0 ≤ i ∧ i < 30 ∧ ((i + 1 : Nat) : Int) ≠ v ∧ litIn ((i + 1 : Nat) : Int) xs * litIn ((i + 1 : Nat) : Int) ys < 0) ↔ ¬ (Y &&& M = 0) := by
        rw [and_zero_iff]
        constructor
        · rintro ⟨i, _, hi, hne, hm⟩ hall
          refine hall i ⟨(tY i).2 ⟨hne, ?_⟩, (tM i).2 ⟨hne, ?_⟩⟩
          · rcases litIn_cases ((i + 1 : Nat) : Int) xs with ⟨a, b⟩ | ⟨a, c, b⟩ | ⟨a, c, b⟩
            · exact .inl a
            · rcases litIn_cases ((i + 1 : Nat) : Int) ys with ⟨a', b'⟩ | ⟨a', c', b'⟩ | ⟨a', c', b'⟩
              · exact .inr a'
              · rw [b, b'] at hm
                have : 0 ≤ -((i + 1 : Nat) : Int) * -((i + 1 : Nat) : Int) := by rw [Int.neg_mul_neg]; exact Int.mul_nonneg (by omega) (by omega)
                omega
              · rw [b'] at hm; simp at hm
            · rw [b] at hm; simp at hm
          · rcases litIn_cases ((i + 1 : Nat) : Int) xs with ⟨a, b⟩ | ⟨a, c, b⟩ | ⟨a, c, b⟩
            · rcases litIn_cases ((i + 1 : Nat) : Int) ys with ⟨a', b'⟩ | ⟨a', c', b'⟩ | ⟨a', c', b'⟩
              · rw [b, b'] at hm
                have : 0 ≤ ((i + 1 : Nat) : Int) * ((i + 1 : Nat) : Int) := Int.mul_nonneg (by omega) (by omega)
                omega
              · exact .inr c'
              · rw [b'] at hm; simp at hm
            · exact .inl c
            · rw [b] at hm; simp at hm
        · intro hall
          obtain ⟨i, hi⟩ : ∃ i, Y.testBit i = true ∧ M.testBit i = true := by
            refine Classical.byContradiction fun hn => hall fun i hh => hn ⟨i, hh⟩
          obtain ⟨n1, p1⟩ := (tY i).1 hi.1
          obtain ⟨_, p2⟩ := (tM i).1 hi.2
          have lit : Lit ((i + 1 : Nat) : Int) := p1.elim (hxl _) (hyl _)
          have hpos : 0 < ((i + 1 : Nat) : Int) * ((i + 1 : Nat) : Int) := Int.mul_pos (by omega) (by omega)
          refine ⟨i, Nat.zero_le _, by have := lit.2.2; omega, n1, ?_⟩
          have o1 := cl_one (w := ((i + 1 : Nat) : Int)) (by omega) (by decide) hx
          have o2 := cl_one (w := ((i + 1 : Nat) : Int)) (by omega) (by decide) hy
          rcases litIn_cases ((i + 1 : Nat) : Int) xs with ⟨a, b⟩ | ⟨a, c, b⟩ | ⟨a, c, b⟩ <;> rcases litIn_cases ((i + 1 : Nat) : Int) ys with ⟨a', b'⟩ | ⟨a', c', b'⟩ | ⟨a', c', b'⟩ <;> rw [b, b'] <;> first
            | (rw [Int.mul_neg]; omega)
            | (rw [Int.neg_mul]; omega)
            | (exfalso; rcases p1 with p1 | p1 <;> rcases p2 with p2 | p2 <;> first | exact a p1 | exact a' p1 | exact c p2 | exact c' p2 | exact o1 ⟨p1, p2⟩ | exact o2 ⟨p1, p2⟩ | exact o1 ⟨a, p2⟩ | exact o2 ⟨a', p2⟩ | exact o1 ⟨p1, c⟩ | exact o2 ⟨p1, c'⟩)
      have hc2 : ¬ (decide (v ∈ xs) = false ∨ decide (-v ∈ ys) = false) := by simp [hvx, hvy]
      by_cases hz : Y &&& M = 0
      · have hq : q = true := good.2 hz
        subst hq
        rw [if_neg (by rintro (h | h)
                       · exact clash.1 h hz
                       · exact hc2 h)]
        show (litsN Y M, (0 : Int)) = _
        congr 1
        unfold litsN digits
        rw [List.range_eq_range']
        refine filter_map_eq fun i hi => ?_
        have hi : i < 30 := by rw [List.mem_range'_1] at hi; omega
        have nb : ¬ (Y.testBit i = true ∧ M.testBit i = true) := (and_zero_iff _ _).1 hz i
        have o1 := cl_one (w := ((i + 1 : Nat) : Int)) (by omega) (by decide) hx
        have o2 := cl_one (w := ((i + 1 : Nat) : Int)) (by omega) (by decide) hy
        rw [Nat.testBit_or]
        unfold gR
        by_cases hne : ((i + 1 : Nat) : Int) = v
        · rw [if_pos hne]
          have h1 : Y.testBit i = false := by rw [Bool.eq_false_iff]; intro h; exact ((tY i).1 h).1 hne
          have h2 : M.testBit i = false := by rw [Bool.eq_false_iff]; intro h; exact ((tM i).1 h).1 hne
          rw [h1, h2]; rfl
        · rw [if_neg hne]
          have lit1 : Y.testBit i = true → litOf Y M i = ((i + 1 : Nat) : Int) := fun h => by
            unfold litOf ofN; rw [if_pos h, if_neg (by decide)]
          have lit2 : M.testBit i = true → litOf Y M i = -((i + 1 : Nat) : Int) := fun h => by
            have : ¬ Y.testBit i = true := fun h' => nb ⟨h', h⟩
            unfold litOf ofN; rw [if_neg this, if_pos h, if_pos rfl]
          have yes : (((i + 1 : Nat) : Int) ∈ xs ∨ ((i + 1 : Nat) : Int) ∈ ys) → (if (Y.testBit i || M.testBit i) = true then some (litOf Y M i) else none) = some ((i + 1 : Nat) : Int) := fun h => by
            have h1 := (tY i).2 ⟨hne, h⟩
            rw [h1, Bool.true_or, if_pos rfl, lit1 h1]
          have non : (-((i + 1 : Nat) : Int) ∈ xs ∨ -((i + 1 : Nat) : Int) ∈ ys) → (if (Y.testBit i || M.testBit i) = true then some (litOf Y M i) else none) = some (-((i + 1 : Nat) : Int)) := fun h => by
            have h1 := (tM i).2 ⟨hne, h⟩
            rw [h1, Bool.or_true, if_pos rfl, lit2 h1]
          rcases litIn_cases ((i + 1 : Nat) : Int) xs with ⟨a, b⟩ | ⟨a, c, b⟩ | ⟨a, c, b⟩
          · rw [yes (.inl a), b, if_pos (by omega)]
          · rw [non (.inl c), b, if_pos (by omega)]
          · rcases litIn_cases ((i + 1 : Nat) : Int) ys with ⟨a', b'⟩ | ⟨a', c', b'⟩ | ⟨a', c', b'⟩
            · rw [yes (.inr a'), b, if_neg (by omega), b', if_pos (by omega)]
            · rw [non (.inr c'), b, if_neg (by omega), b', if_pos (by omega)]
            · have h1 : Y.testBit i = false := by rw [Bool.eq_false_iff]; intro h; exact ((tY i).1 h).2.elim a a'
              have h2 : M.testBit i = false := by rw [Bool.eq_false_iff]; intro h; exact ((tM i).1 h).2.elim c c'
              rw [h1, h2, b, b']; rfl
      · have hq : q = false := by cases q with | false => rfl | true => exact absurd (good.1 rfl) hz
        subst hq
        rw [if_pos (.inl (clash.2 hz))]; rfl
end Go.Proofs.YtfgfhplgnfbaaaaDoor
