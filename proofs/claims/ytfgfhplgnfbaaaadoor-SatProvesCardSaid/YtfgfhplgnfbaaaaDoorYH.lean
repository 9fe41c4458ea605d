/- What a search finds: the decisions are proper; what clashes is enough. -/
import Derived.Test.YtfgfhplgnfbaaaaDoorYG
import Derived.Test.YtfgfhplgnfbaaaaDoorYF
import Derived.Test.YtfgfhplgnfbaaaaDoorProg
import Derived.Test.YtfgfhplgnfbaaaaDoorYC
import Derived.KernelRfl
import Derived.Lib.LaidTab
import Derived.WalkKit
import Derived.ProofKit
import Derived.OpenShut
import Derived.Deep.DeepHandedRow
import Derived.Test.YtfgfhplgnfbaaaaDoorYD
import Derived.Test.YtfgfhplgnfbaaaaDoorYB
import Derived.Shelf.Spec.SlicesInsert
import Derived.Shelf.Spec.SlicesInsertGrow
import Derived.Test.YtfgfhplgnfbaaaaDoorCards
import Derived.Test.YtfgfhplgnfbaaaaDoorTie
import Derived.Test.YtfgfhplgnfbaaaaDoorYE
namespace Go.Proofs.YtfgfhplgnfbaaaaDoor
open Go Go.Ev
/-- Literals of some variables. -/
abbrev Lv (vars : Int) (l : List Int) : Prop := ∀ x ∈ l, Lit x ∧ (x.natAbs : Int) ≤ vars
/-- Decisions: their variables increase, and all variables before one of them have a truth. -/
structure Dcs (N : Nat) (cls : List (List Int)) (gs ds : List Int) : Prop where
  cv : Cv (Int.ofNat N) ds
  all : ∀ x ∈ ds, ∀ w : Int, 1 ≤ w → w < x.natAbs → Der cls (gs ++ ds) w ∨ Der cls (gs ++ ds) (-w)
theorem dif_len {N : Nat} : ∀ {l : List Int} {lo : Nat}, Dif l → (∀ x ∈ l, lo < x.natAbs ∧ x.natAbs ≤ N) → l.length + lo ≤ N ∨ l = [] := by
  intro l
  induction l with
  | nil => intro lo _ _; exact .inr rfl
  | cons x l ih =>
    intro lo hd hx
    obtain ⟨h1, h2⟩ := List.pairwise_cons.1 hd
    have h3 := hx x (by simp)
    rcases ih (lo := x.natAbs) h2 (fun y hy => ⟨h1 y hy, (hx y (List.mem_cons_of_mem _ hy)).2⟩) with h | h
    · left; simp; omega
    · subst h; left; simp; omega
theorem Dcs.len {N : Nat} {cls : List (List Int)} {gs ds : List Int} (D : Dcs N cls gs ds) : ds.length ≤ N := by
  rcases dif_len (N := N) (lo := 0) D.cv.1 (fun x hx => by obtain ⟨h1, h2⟩ := D.cv.2 x hx; have := h1.1; simp only [Int.ofNat_eq_natCast] at h2; omega) with h | h
  · omega
  · subst h; simp
theorem freeM_bit {N y m i : Nat} : (freeM N y m).testBit i = (decide (i < N) && !(y ||| m).testBit i) := by
  unfold freeM
  rw [testBit_andn, Nat.testBit_two_pow_sub_one]
theorem lowF_bit {u : Nat} (h0 : u ≠ 0) (hu : u < 2 ^ 30) : u.testBit (lowF u) = true ∧ ∀ i, i < lowF u → u.testBit i = false := by
  obtain ⟨j, e, _⟩ := lowF_spec h0 hu
  generalize lowF u = k at *
  have e2 : u = 2 ^ k * (2 * j + 1) := by rw [e, Nat.pow_succ, Nat.mul_add, Nat.mul_one, Nat.mul_assoc]
  subst e2
  refine ⟨?_, fun i hi => ?_⟩
  · rw [Nat.testBit_two_pow_mul]
    simp
  · rw [Nat.testBit_two_pow_mul]
    simp; omega
section
variable {N : Nat} {cls : List (List Int)} {gs : List Int} (hN : N ≤ 30) (hc : ∀ l ∈ cls, Cv (Int.ofNat N) l) (hg : Lv (Int.ofNat N) gs)
include hN hc hg
omit hN hc in
theorem Dcs.lit {ds : List Int} (D : Dcs N cls gs ds) : ∀ x ∈ gs ++ ds, Lit x := fun x hx => by
  rcases List.mem_append.1 hx with hx | hx
  · exact (hg x hx).1
  · exact (D.cv.2 x hx).1
/-- What a node knows whose propagation is calm. -/
theorem node_calm {ds : List Int} (D : Dcs N cls gs ds) (hq : (fromN (cls.map sideN) (gs ++ ds)).2 = true) :
    Calm cls (gs ++ ds) (trM (fromN (cls.map sideN) (gs ++ ds)).1.1 (fromN (cls.map sideN) (gs ++ ds)).1.2) ∧ ∀ z, trM (fromN (cls.map sideN) (gs ++ ds)).1.1 (fromN (cls.map sideN) (gs ++ ds)).1.2 z → Der cls (gs ++ ds) z :=
  have _ := hN
  (fromN_ok (good_of hc) (Dcs.lit hg D)).1 hq
/-- The variables before the one that is open have a truth. -/
theorem low_der {ds : List Int} (D : Dcs N cls gs ds) (hq : (fromN (cls.map sideN) (gs ++ ds)).2 = true) {k : Nat} (hk : k = lowF (freeM N (fromN (cls.map sideN) (gs ++ ds)).1.1 (fromN (cls.map sideN) (gs ++ ds)).1.2)) (hf : freeM N (fromN (cls.map sideN) (gs ++ ds)).1.1 (fromN (cls.map sideN) (gs ++ ds)).1.2 ≠ 0) :
    k < N ∧ (∀ w : Int, 1 ≤ w → w < Int.ofNat (k + 1) → Der cls (gs ++ ds) w ∨ Der cls (gs ++ ds) (-w)) ∧ ∀ x ∈ ds, x.natAbs < k + 1 := by
  obtain ⟨C, T⟩ := node_calm hN hc hg D hq
  generalize (fromN (cls.map sideN) (gs ++ ds)).1.1 = y at *
  generalize (fromN (cls.map sideN) (gs ++ ds)).1.2 = m at *
  obtain ⟨b1, b2⟩ := lowF_bit hf (freeM_lt hN)
  rw [← hk] at b1 b2
  rw [freeM_bit, Bool.and_eq_true] at b1
  have hkN : k < N := of_decide_eq_true b1.1
  have bk : (y ||| m).testBit k = false := by simpa using b1.2
  rw [Nat.testBit_or, Bool.or_eq_false_iff] at bk
  have nt : ∀ x : Int, x.natAbs = k + 1 → ¬ trM y m x := fun x hx h => by
    rcases h with ⟨_, h⟩ | ⟨_, h⟩
    · rw [hx, Nat.add_sub_cancel, bk.1] at h; cases h
    · rw [hx, Nat.add_sub_cancel, bk.2] at h; cases h
  refine ⟨hkN, fun w h1 h2 => ?_, fun x hx => ?_⟩
  · simp only [Int.ofNat_eq_natCast] at h2
    have b3 := b2 (w.natAbs - 1) (by omega)
    rw [freeM_bit, decide_eq_true (by omega), Bool.true_and, Bool.not_eq_false', Nat.testBit_or, Bool.or_eq_true] at b3
    rcases b3 with b3 | b3
    · exact .inl (T w (.inl ⟨by omega, b3⟩))
    · exact .inr (T (-w) (.inr ⟨by omega, by rw [Int.natAbs_neg]; exact b3⟩))
  · rcases Nat.lt_trichotomy x.natAbs (k + 1) with h | h | h
    · exact h
    · exact absurd (C.beg x (List.mem_append_right _ hx)) (nt x h)
    · exfalso
      rcases D.all x hx (Int.ofNat (k + 1)) (by simp only [Int.ofNat_eq_natCast]; omega) (by simp only [Int.ofNat_eq_natCast]; omega) with h1 | h1
      · exact nt _ (by simp only [Int.ofNat_eq_natCast]; omega) (C.all h1)
      · exact nt _ (by simp only [Int.ofNat_eq_natCast]; omega) (C.all h1)
theorem Dcs.more {ds : List Int} (D : Dcs N cls gs ds) {k : Nat} (hk : k < N) (hw : ∀ w : Int, 1 ≤ w → w < Int.ofNat (k + 1) → Der cls (gs ++ ds) w ∨ Der cls (gs ++ ds) (-w)) (hd : ∀ x ∈ ds, x.natAbs < k + 1) {x : Int} (hx : x.natAbs = k + 1) : Dcs N cls gs (ds ++ [x]) := by
  have _ := hc; have _ := hg
  have mono : ∀ {z}, Der cls (gs ++ ds) z → Der cls (gs ++ (ds ++ [x])) z := fun h => h.mono (fun _ h => h) fun z hz => by
    rcases List.mem_append.1 hz with h | h
    · exact List.mem_append_left _ h
    · exact List.mem_append_right _ (List.mem_append_left _ h)
  refine ⟨⟨List.pairwise_append.2 ⟨D.cv.1, List.pairwise_singleton _ _, fun a ha b hb => by rw [List.mem_singleton] at hb; subst hb; have := hd a ha; omega⟩, fun z hz => ?_⟩, fun z hz w h1 h2 => ?_⟩
  · rcases List.mem_append.1 hz with h | h
    · exact D.cv.2 z h
    · rw [List.mem_singleton] at h; subst h
      exact ⟨⟨by omega, by omega, by omega⟩, by simp only [Int.ofNat_eq_natCast]; omega⟩
  · rcases List.mem_append.1 hz with h | h
    · exact (D.all z h w h1 h2).imp mono mono
    · rw [List.mem_singleton] at h; subst h
      exact (hw w h1 (by simp only [Int.ofNat_eq_natCast]; omega)).imp mono mono
theorem dec_ok : Dec N (cls.map sideN) gs (Dcs N cls gs) := by
  refine ⟨fun ds D => ⟨D.len, fun x hx => (D.cv.2 x hx).1, D.cv.1⟩, fun ds D hq hf => ?_⟩
  obtain ⟨h1, h2, h3⟩ := low_der hN hc hg D hq rfl hf
  exact ⟨Dcs.more hN hc hg D h1 h2 h3 (by simp only [Int.ofNat_eq_natCast]; omega), Dcs.more hN hc hg D h1 h2 h3 (by simp only [Int.ofNat_eq_natCast]; omega)⟩
omit hN hc hg in
theorem dcs_nil : Dcs N cls gs [] := ⟨⟨List.Pairwise.nil, fun _ h => by cases h⟩, fun _ h => by cases h⟩
omit hN hc hg in
theorem needF_clash (cl : List Int → Bool) : ∀ (i : Nat) (out : List Int), cl out = true → cl (needF cl i out) = true := by
  intro i
  induction i with
  | zero => intro out h; exact h
  | succ i ih =>
    intro out h
    unfold needF
    split
    · exact ih _ (by assumption)
    · exact ih _ h
omit hN hc hg in
theorem accF_none_i {gs : List Int} : ∀ {pf cls : List (List Int)} {i j : Nat}, accF gs cls pf i = none → accF gs cls pf j = none := by
  intro pf
  induction pf with
  | nil => intro cls i j _; rfl
  | cons l ls ih =>
    intro cls i j h
    unfold accF at h ⊢
    split at h
    · cases h
    · rename_i h1
      rw [if_neg h1]
      exact ih h
omit hN hc hg in
theorem accF_append {gs : List Int} : ∀ {ls ks cls : List (List Int)} {i : Nat}, accF gs cls ls i = none → accF gs (cls ++ ls) ks 0 = none → accF gs cls (ls ++ ks) i = none := by
  intro ls
  induction ls with
  | nil => intro ks cls i _ h; rw [List.append_nil] at h; exact accF_none_i h
  | cons l ls ih =>
    intro ks cls i h1 h2
    unfold accF at h1
    rw [List.cons_append]
    unfold accF
    split at h1
    · cases h1
    · rename_i h3
      rw [if_neg h3]
      exact ih h1 (by rw [List.append_assoc]; exact h2)
end
end Go.Proofs.YtfgfhplgnfbaaaaDoor
/- What a search finds: the first model, or lines that follow. -/
namespace Go.Proofs.YtfgfhplgnfbaaaaDoor
open Go Go.Ev
/-- An earlier model: the first variable in which they differ is false. -/
def LexLt (N a b : Nat) : Prop := ∃ i, i < N ∧ a.testBit i = false ∧ b.testBit i = true ∧ ∀ j, j < i → a.testBit j = b.testBit j
/-- A literal and its contrary are of one variable. -/
theorem dif_ne {l : List Int} (d : Dif l) {x : Int} (h1 : x ∈ l) (h2 : -x ∈ l) (h0 : x ≠ 0) : False := by
  induction l with
  | nil => cases h1
  | cons z l ih =>
    obtain ⟨d1, d2⟩ := List.pairwise_cons.1 d
    rcases List.mem_cons.1 h1 with e1 | e1 <;> rcases List.mem_cons.1 h2 with e2 | e2
    · omega
    · have := d1 _ e2; rw [Int.natAbs_neg, e1] at this; omega
    · have := d1 _ e1; rw [← e2, Int.natAbs_neg] at this; omega
    · exact ih d2 e1 e2
/-- What holds at a search's end. -/
structure Spec (N : Nat) (cls : List (List Int)) (gs ds : List Int) (s : Sr) : Prop where
  how : s.how = 0 ∨ s.how = 1 ∨ s.how = 2
  good : ∀ l ∈ s.lines, Cv (Int.ofNat N) l
  rup : accF gs cls s.lines 0 = none
  clo : s.how = 1 → Cv (Int.ofNat N) s.c ∧ (∀ x ∈ s.c, -x ∈ ds) ∧ ∃ L, s.lines = L ++ [s.c]
  ful : s.how = 0 → (∀ i, (s.y ||| s.m).testBit i = decide (i < N)) ∧ s.y &&& s.m = 0
  fnd : s.how = 0 → (∀ x ∈ gs ++ ds, isB s.y x = true) ∧ (∀ l ∈ cls, l.any (isB s.y) = true) ∧ ∀ m', (∀ x ∈ gs ++ ds, isB m' x = true) → (∀ l ∈ cls, l.any (isB m') = true) → (∀ i, i < N → s.y.testBit i = m'.testBit i) ∨ LexLt N s.y m'
theorem der_true {cls : List (List Int)} {xs : List Int} {m : Nat} (hd : ∀ l ∈ cls, ∀ x ∈ l, x ≠ 0) (hx : ∀ x ∈ xs, x ≠ 0) (h1 : ∀ c ∈ cls, c.any (isB m) = true) (h2 : ∀ x ∈ xs, isB m x = true) {z : Int} (h : Der cls xs z) : isB m z = true := by
  have C : Calm cls xs fun x => x ≠ 0 ∧ isB m x = true := by
    refine ⟨fun x a b => ?_, fun x h => ⟨hx x h, h2 x h⟩, fun l hl => .inl ?_⟩
    · have b2 := b.2
      rw [isB_neg a.1, a.2] at b2
      cases b2
    · obtain ⟨x, hx, h⟩ := List.any_eq_true.1 (h1 l hl)
      exact ⟨x, hx, hd l hl x hx, h⟩
  exact (C.all h).2
/-- Bits that a literal tells. -/
theorem isB_pos {m k : Nat} : isB m (Int.ofNat (k + 1)) = m.testBit k := by
  unfold isB
  rw [if_neg (by simp only [Int.ofNat_eq_natCast]; omega)]
  rfl
theorem isB_of_neg {m k : Nat} : isB m (-Int.ofNat (k + 1)) = !m.testBit k := by
  rw [isB_neg (by simp only [Int.ofNat_eq_natCast]; omega), isB_pos]
section
variable {N : Nat} {cls : List (List Int)} {gs : List Int} (hN : N ≤ 30) (hc : ∀ l ∈ cls, Cv (Int.ofNat N) l) (hg : Lv (Int.ofNat N) gs)
include hN hc hg
theorem nz_cls : ∀ l ∈ cls, ∀ x ∈ l, x ≠ 0 := fun l hl x hx => by have _ := hN; have _ := hg; exact ((hc l hl).2 x hx).1.1
/-- A clash at a node: the clause of the contraries of what is needed. -/
theorem leaf_spec {ds : List Int} (D : Dcs N cls gs ds) (hq : (fromN (cls.map sideN) (gs ++ ds)).2 = false) {y m left : Nat} : Spec N cls gs ds ⟨y, m, (needF (clashN (cls.map sideN) gs) ds.length ds).map fun x => -x, 1, left, [(needF (clashN (cls.map sideN) gs) ds.length ds).map fun x => -x]⟩ := by
  have _ := hN; have _ := hc; have _ := hg
  have sub := needF_sub (clashN (cls.map sideN) gs) ds.length ds
  have cl := needF_clash (clashN (cls.map sideN) gs) ds.length ds (by unfold clashN; rw [hq]; rfl)
  generalize needF (clashN (cls.map sideN) gs) ds.length ds = nd at *
  have cv : Cv (Int.ofNat N) (nd.map fun x => -x) := ⟨Dif.neg (List.Pairwise.sublist sub D.cv.1), fun x hx => by
    obtain ⟨z, hz, rfl⟩ := List.mem_map.1 hx
    have h := D.cv.2 z (sub.subset hz)
    refine ⟨lit_neg (l := nd) (fun x hx => (D.cv.2 x (sub.subset hx)).1) _ hx, by rw [Int.natAbs_neg]; exact h.2⟩⟩
  refine ⟨.inr (.inl rfl), fun l hl => by rw [List.mem_singleton] at hl; subst hl; exact cv, ?_, fun _ => ⟨cv, fun x hx => ?_, [], rfl⟩, fun h => (by cases h), fun h => by cases h⟩
  · unfold accF
    rw [List.map_map, show ((fun x : Int => -x) ∘ fun x => -x) = id by funext x; simp, List.map_id]
    unfold clashN at cl
    rw [if_neg (by simpa using cl)]
    rfl
  · obtain ⟨z, hz, rfl⟩ := List.mem_map.1 hx
    rw [Int.neg_neg]; exact sub.subset hz
/-- What is derived is of the variables. -/
theorem der_le {ds : List Int} (D : Dcs N cls gs ds) {z : Int} (h : Der cls (gs ++ ds) z) : (z.natAbs : Int) ≤ Int.ofNat N := by
  have _ := hN
  induction h with
  | base h =>
    rcases List.mem_append.1 h with h | h
    · exact (hg _ h).2
    · exact (D.cv.2 _ h).2
  | unit hl hx _ _ => exact ((hc _ hl).2 _ hx).2
/-- No clash, and nothing is open: the first model. -/
theorem found_spec {ds : List Int} (D : Dcs N cls gs ds) (hq : (fromN (cls.map sideN) (gs ++ ds)).2 = true) (hf : freeM N (fromN (cls.map sideN) (gs ++ ds)).1.1 (fromN (cls.map sideN) (gs ++ ds)).1.2 = 0) {left : Nat} :
    Spec N cls gs ds ⟨(fromN (cls.map sideN) (gs ++ ds)).1.1, (fromN (cls.map sideN) (gs ++ ds)).1.2, [], 0, left, []⟩ := by
  obtain ⟨C, T⟩ := node_calm hN hc hg D hq
  generalize (fromN (cls.map sideN) (gs ++ ds)).1.1 = y at *
  generalize (fromN (cls.map sideN) (gs ++ ds)).1.2 = m at *
  have full : ∀ i, i < N → y.testBit i = true ∨ m.testBit i = true := fun i hi => by
    have h : (freeM N y m).testBit i = false := by rw [hf]; exact Nat.zero_testBit i
    rw [freeM_bit, decide_eq_true hi, Bool.true_and, Bool.not_eq_false', Nat.testBit_or, Bool.or_eq_true] at h
    exact h
  have tr : ∀ x : Int, x ≠ 0 → trM y m x → isB y x = true := fun x hx h => by
    unfold isB
    rcases h with ⟨h1, h2⟩ | ⟨h1, h2⟩
    · rw [if_neg (by omega)]; exact h2
    · rw [if_pos h1]
      cases h3 : y.testBit (x.natAbs - 1) with
      | false => rfl
      | true => exact (C.con x (.inr ⟨h1, h2⟩) (.inl ⟨by omega, by rw [Int.natAbs_neg]; exact h3⟩)).elim
  have lits := Dcs.lit hg D
  refine ⟨.inl rfl, fun l hl => (by cases hl), rfl, fun h => (by cases h), fun _ => ⟨fun i => ?_, Nat.eq_of_testBit_eq fun i => ?_⟩, fun _ => ⟨fun x hx => tr x (lits x hx).1 (C.beg x hx), fun l hl => ?_, fun m' h1 h2 => .inl fun i hi => ?_⟩⟩
  · rw [Nat.testBit_or]
    rcases Nat.lt_or_ge i N with hi | hi
    · rw [decide_eq_true hi, Bool.or_eq_true]; exact full i hi
    · rw [decide_eq_false (by omega), Bool.or_eq_false_iff]
      constructor
      · cases h : y.testBit i with
        | false => rfl
        | true =>
          have := der_le hN hc hg D (T (Int.ofNat (i + 1)) (.inl ⟨by simp only [Int.ofNat_eq_natCast]; omega, by rw [show (Int.ofNat (i + 1)).natAbs - 1 = i by simp only [Int.ofNat_eq_natCast]; omega]; exact h⟩))
          simp only [Int.ofNat_eq_natCast] at this; omega
      · cases h : m.testBit i with
        | false => rfl
        | true =>
          have := der_le hN hc hg D (T (-Int.ofNat (i + 1)) (.inr ⟨by simp only [Int.ofNat_eq_natCast]; omega, by rw [show (-Int.ofNat (i + 1)).natAbs - 1 = i by simp only [Int.ofNat_eq_natCast]; omega]; exact h⟩))
          simp only [Int.ofNat_eq_natCast] at this; omega
  · rw [Nat.testBit_and, Nat.zero_testBit]
    cases h3 : y.testBit i with
    | false => rfl
    | true =>
      cases h : m.testBit i with
      | false => rfl
      | true => exact (C.con (Int.ofNat (i + 1)) (.inl ⟨by simp only [Int.ofNat_eq_natCast]; omega, by rw [show (Int.ofNat (i + 1)).natAbs - 1 = i by simp only [Int.ofNat_eq_natCast]; omega]; exact h3⟩) (.inr ⟨by simp only [Int.ofNat_eq_natCast]; omega, by rw [show (-Int.ofNat (i + 1)).natAbs - 1 = i by simp only [Int.ofNat_eq_natCast]; omega]; exact h⟩)).elim
  · rcases C.cl l hl with ⟨x, hx, h⟩ | ⟨x, hx, z, hz, _, h1, h2, _⟩
    · exact List.any_eq_true.2 ⟨x, hx, tr x (nz_cls hN hc hg l hl x hx) h⟩
    · exfalso
      obtain ⟨⟨n0, _⟩, hle⟩ := (hc l hl).2 x hx
      simp only [Int.ofNat_eq_natCast] at hle
      rcases full (x.natAbs - 1) (by omega) with h | h
      · rcases Int.lt_or_gt_of_ne n0 with hs | hs
        · exact h2 (.inl ⟨by omega, by rw [Int.natAbs_neg]; exact h⟩)
        · exact h1 (.inl ⟨by omega, h⟩)
      · rcases Int.lt_or_gt_of_ne n0 with hs | hs
        · exact h1 (.inr ⟨by omega, h⟩)
        · exact h2 (.inr ⟨by omega, by rw [Int.natAbs_neg]; exact h⟩)
  · have dt := fun {z : Int} (h : Der cls (gs ++ ds) z) => der_true (nz_cls hN hc hg) (fun x hx => (lits x hx).1) h2 h1 h
    rcases full i hi with h | h
    · have := dt (T (Int.ofNat (i + 1)) (.inl ⟨by simp only [Int.ofNat_eq_natCast]; omega, by rw [show (Int.ofNat (i + 1)).natAbs - 1 = i by simp only [Int.ofNat_eq_natCast]; omega]; exact h⟩))
      rw [isB_pos] at this
      rw [h, this]
    · have := dt (T (-Int.ofNat (i + 1)) (.inr ⟨by simp only [Int.ofNat_eq_natCast]; omega, by rw [show (-Int.ofNat (i + 1)).natAbs - 1 = i by simp only [Int.ofNat_eq_natCast]; omega]; exact h⟩))
      rw [isB_of_neg, Bool.not_eq_true'] at this
      rw [this]
      cases h3 : y.testBit i with
      | false => rfl
      | true => exact (C.con (Int.ofNat (i + 1)) (.inl ⟨by simp only [Int.ofNat_eq_natCast]; omega, by rw [show (Int.ofNat (i + 1)).natAbs - 1 = i by simp only [Int.ofNat_eq_natCast]; omega]; exact h3⟩) (.inr ⟨by simp only [Int.ofNat_eq_natCast]; omega, by rw [show (-Int.ofNat (i + 1)).natAbs - 1 = i by simp only [Int.ofNat_eq_natCast]; omega]; exact h⟩)).elim
/-- Two clauses of two branches are resolved. -/
theorem res_line {ds c1 c2 : List Int} {ls : List (List Int)} (D : Dcs N cls gs ds) {v : Int} (v1 : 1 ≤ v) (v2 : v ≤ N) (hv : ∀ x ∈ ds, (x.natAbs : Int) < v) (h1 : Cv (Int.ofNat N) c1) (h2 : Cv (Int.ofNat N) c2) (s1 : ∀ x ∈ c1, -x ∈ ds ++ [-v]) (s2 : ∀ x ∈ c2, -x ∈ ds ++ [v]) (m1 : v ∈ c1) (m2 : -v ∈ c2) (l1 : c1 ∈ ls) (l2 : c2 ∈ ls) (hls : ∀ l ∈ ls, Cv (Int.ofNat N) l) :
    Cv (Int.ofNat N) (resP c1 c2 v).1 ∧ (∀ x ∈ (resP c1 c2 v).1, -x ∈ ds) ∧ accF gs (cls ++ ls) [(resP c1 c2 v).1] 0 = none := by
  have a1 : ∀ x ∈ c1, x = v ∨ -x ∈ ds := fun x hx => by
    rcases List.mem_append.1 (s1 x hx) with h | h
    · exact .inr h
    · rw [List.mem_singleton] at h; exact .inl (by omega)
  have a2 : ∀ x ∈ c2, x = -v ∨ -x ∈ ds := fun x hx => by
    rcases List.mem_append.1 (s2 x hx) with h | h
    · exact .inr h
    · rw [List.mem_singleton] at h; exact .inl (by omega)
  have b30 : ∀ {l : List Int}, Cv (Int.ofNat N) l → clB 30 0 l = true := fun {l} h => clB_of h.1 (fun x hx => ⟨(h.2 x hx).1, by have := (h.2 x hx).2; simp only [Int.ofNat_eq_natCast] at this; omega⟩) fun x hx => by have := (h.2 x hx).1.1; omega
  rcases resP_spec (b30 h1) (b30 h2) v1 (by omega) m1 m2 with ⟨_, x, hx, e1, e2, e3⟩ | ⟨L, eL, _, dL, lL, mL⟩
  · exfalso
    rcases a1 x hx with h | h
    · exact e1 h
    · rcases a2 (-x) e3 with h' | h'
      · exact e1 (by omega)
      · rw [Int.neg_neg] at h'
        have hx0 := (h1.2 x hx).1.1
        exact dif_ne D.cv.1 h' h hx0
  · rw [eL]
    have sub : ∀ x ∈ L, -x ∈ ds := fun x hx => by
      obtain ⟨h, n1, n2⟩ := (mL x).1 hx
      rcases h with h | h
      · rcases a1 x h with h | h
        · exact absurd h n1
        · exact h
      · rcases a2 x h with h | h
        · exact absurd h n2
        · exact h
    have cv : Cv (Int.ofNat N) L := ⟨dL, fun x hx => ⟨lL x hx, by have := (D.cv.2 _ (sub x hx)).2; rwa [Int.natAbs_neg] at this⟩⟩
    refine ⟨cv, sub, ?_⟩
    have gd : Good (cls ++ ls) := fun l hl => by
      rcases List.mem_append.1 hl with h | h
      · exact good_of hc l h
      · exact good_of hls l h
    have lit : ∀ x ∈ gs ++ L.map fun x => -x, Lit x := fun x hx => by
      rcases List.mem_append.1 hx with h | h
      · exact (hg x h).1
      · exact lit_neg lL x h
    have neg : ∀ x ∈ L, Der (cls ++ ls) (gs ++ L.map fun x => -x) (-x) := fun x hx => .base (List.mem_append_right _ (List.mem_map.2 ⟨x, hx, rfl⟩))
    have n1 : ∀ x ∈ c1, x ≠ v → x ≠ -v := fun x hx e e2 => by
      rcases a1 x hx with h | h
      · exact e h
      · have := hv _ h; omega
    have n2 : ∀ x ∈ c2, x ≠ -v → x ≠ v := fun x hx e e2 => by
      rcases a2 x hx with h | h
      · exact e h
      · have := hv _ h; omega
    have dv : Der (cls ++ ls) (gs ++ L.map fun x => -x) v := .unit (List.mem_append_right _ l1) m1 fun x hx e => neg x ((mL x).2 ⟨.inl hx, e, n1 x hx e⟩)
    have hcl : Cl (cls ++ ls) (gs ++ L.map fun x => -x) := .inr ⟨c2, List.mem_append_right _ l2, fun x hx => by
      by_cases e : x = -v
      · subst e; rw [Int.neg_neg]; exact dv
      · exact neg x ((mL x).2 ⟨.inr hx, n2 x hx e, e⟩)⟩
    unfold accF
    rw [if_neg fun h => (calm_iff gd lit).1 h hcl]
    rfl
end
end Go.Proofs.YtfgfhplgnfbaaaaDoor
/- What a search finds: by induction over the tree. -/
namespace Go.Proofs.YtfgfhplgnfbaaaaDoor
open Go Go.Ev
section
variable {N : Nat} {cls : List (List Int)} {gs : List Int} (hN : N ≤ 30) (hc : ∀ l ∈ cls, Cv (Int.ofNat N) l) (hg : Lv (Int.ofNat N) gs)
include hN hc hg
omit hN hc hg in
theorem cv_nz {l : List Int} (h : Cv (Int.ofNat N) l) : ∀ x ∈ l, x ≠ 0 := fun x hx => (h.2 x hx).1.1
theorem search_spec : ∀ (d : Nat) {ds : List Int} {left : Nat}, Dcs N cls gs ds → N + 1 ≤ ds.length + d → Spec N cls gs ds (searchF N (cls.map sideN) gs d ds left) := by
  intro d
  induction d with
  | zero => intro ds left D hd; have := D.len; omega
  | succ d ih =>
    intro ds left D hd
    cases left with
    | zero => exact ⟨.inr (.inr rfl), fun l hl => (by cases hl), rfl, fun h => (by cases h), fun h => (by cases h), fun h => by cases h⟩
    | succ left =>
      unfold searchF
      split
      · rename_i hq; exact leaf_spec hN hc hg D hq
      · rename_i hq
        have hq : (fromN (cls.map sideN) (gs ++ ds)).2 = true := by simpa using hq
        split
        · rename_i hf; exact found_spec hN hc hg D hq hf
        · rename_i hf
          obtain ⟨hk, hw, hx⟩ := low_der hN hc hg D hq rfl hf
          have lits := Dcs.lit hg D
          generalize fromN (cls.map sideN) (gs ++ ds) = R at *
          obtain ⟨⟨y, m⟩, fq⟩ := R
          simp only at hk hw hx hf ⊢
          generalize lowF (freeM N y m) = k at *
          have Dn := Dcs.more hN hc hg D hk hw hx (x := -Int.ofNat (k + 1)) (by simp only [Int.ofNat_eq_natCast]; omega)
          have Dp := Dcs.more hN hc hg D hk hw hx (x := Int.ofNat (k + 1)) (by simp only [Int.ofNat_eq_natCast]; omega)
          have S1 := ih (left := left) Dn (by simp; omega)
          have S2 := ih (left := (searchF N (cls.map sideN) gs d (ds ++ [-Int.ofNat (k + 1)]) left).left) Dp (by simp; omega)
          generalize searchF N (cls.map sideN) gs d (ds ++ [-Int.ofNat (k + 1)]) left = s at *
          generalize searchF N (cls.map sideN) gs d (ds ++ [Int.ofNat (k + 1)]) s.left = t at *
          -- truths of a model, with the variable or without it
          have split_ : ∀ m', (∀ x ∈ gs ++ ds, isB m' x = true) → m'.testBit k = false → ∀ x ∈ gs ++ (ds ++ [-Int.ofNat (k + 1)]), isB m' x = true := fun m' h1 h2 x hx => by
            rcases List.mem_append.1 hx with h | h
            · exact h1 x (List.mem_append_left _ h)
            · rcases List.mem_append.1 h with h | h
              · exact h1 x (List.mem_append_right _ h)
              · rw [List.mem_singleton] at h; subst h; rw [isB_of_neg, h2]; rfl
          have split2 : ∀ m', (∀ x ∈ gs ++ ds, isB m' x = true) → m'.testBit k = true → ∀ x ∈ gs ++ (ds ++ [Int.ofNat (k + 1)]), isB m' x = true := fun m' h1 h2 x hx => by
            rcases List.mem_append.1 hx with h | h
            · exact h1 x (List.mem_append_left _ h)
            · rcases List.mem_append.1 h with h | h
              · exact h1 x (List.mem_append_right _ h)
              · rw [List.mem_singleton] at h; subst h; rw [isB_pos, h2]
          have back : ∀ {z : Int} {a : Nat}, (∀ x ∈ gs ++ (ds ++ [z]), isB a x = true) → ∀ x ∈ gs ++ ds, isB a x = true := fun {z a} h x hx => by
            rcases List.mem_append.1 hx with h' | h'
            · exact h x (List.mem_append_left _ h')
            · exact h x (List.mem_append_right _ (List.mem_append_left _ h'))
          split
          · rename_i he
            -- the first branch is enough
            refine ⟨S1.how, S1.good, S1.rup, fun h1 => ?_, S1.ful, fun h0 => ?_⟩
            · obtain ⟨c1, c2, c3⟩ := S1.clo h1
              refine ⟨c1, fun x hx => ?_, c3⟩
              have hv : Int.ofNat (k + 1) ∉ s.c := by
                rcases he with he | he
                · exact absurd h1 he
                · exact he
              rcases List.mem_append.1 (c2 x hx) with h | h
              · exact h
              · rw [List.mem_singleton] at h
                exact absurd (by rw [show Int.ofNat (k + 1) = x by omega]; exact hx) hv
            · obtain ⟨f1, f2, f3⟩ := S1.fnd h0
              refine ⟨back f1, f2, fun m' h1 h2 => ?_⟩
              cases hb : m'.testBit k with
              | false => exact f3 m' (split_ m' h1 hb) h2
              | true =>
                have yk : s.y.testBit k = false := by
                  have := f1 (-Int.ofNat (k + 1)) (List.mem_append_right _ (List.mem_append_right _ (by simp)))
                  rw [isB_of_neg] at this; simpa using this
                refine .inr ⟨k, hk, yk, hb, fun j hj => ?_⟩
                have nz := nz_cls hN hc hg
                have dy := fun {z : Int} (h : Der cls (gs ++ ds) z) => der_true nz (fun x hx => (lits x hx).1) f2 (back f1) h
                have dm := fun {z : Int} (h : Der cls (gs ++ ds) z) => der_true nz (fun x hx => (lits x hx).1) h2 h1 h
                rcases hw (Int.ofNat (j + 1)) (by simp only [Int.ofNat_eq_natCast]; omega) (by simp only [Int.ofNat_eq_natCast]; omega) with h | h
                · have a := dy h; have b := dm h
                  rw [isB_pos] at a b; rw [a, b]
                · have a := dy h; have b := dm h
                  rw [isB_of_neg, Bool.not_eq_true'] at a b; rw [a, b]
          · rename_i he
            have h1 : s.how = 1 := Decidable.byContradiction fun h => he (.inl h)
            have hv : Int.ofNat (k + 1) ∈ s.c := Decidable.byContradiction fun h => he (.inr h)
            obtain ⟨c1, c2, L1, c3⟩ := S1.clo h1
            have gcls := good_of hc
            have gl1 := good_of S1.good
            have gall : Good (cls ++ s.lines) := fun l hl => by
              rcases List.mem_append.1 hl with h | h
              · exact gcls l h
              · exact gl1 l h
            have glit : ∀ x ∈ gs, Lit x := fun x hx => (hg x hx).1
            have rup2 : accF gs cls (s.lines ++ t.lines) 0 = none := accF_append S1.rup (accF_mono (fun _ h => h) glit gcls gall (good_of S2.good) (fun l h => List.mem_append_left _ h) S2.rup)
            have good2 : ∀ l ∈ s.lines ++ t.lines, Cv (Int.ofNat N) l := fun l hl => by
              rcases List.mem_append.1 hl with h | h
              · exact S1.good l h
              · exact S2.good l h
            split
            · rename_i he2
              refine ⟨S2.how, good2, rup2, fun h2 => ?_, S2.ful, fun h0 => ?_⟩
              · obtain ⟨e1, e2, L2, e3⟩ := S2.clo h2
                refine ⟨e1, fun x hx => ?_, s.lines ++ L2, by show s.lines ++ t.lines = _; rw [e3]; simp⟩
                have hv : -Int.ofNat (k + 1) ∉ t.c := by
                  rcases he2 with he2 | he2
                  · exact absurd h2 he2
                  · exact he2
                rcases List.mem_append.1 (e2 x hx) with h | h
                · exact h
                · rw [List.mem_singleton] at h
                  exact absurd (by rw [show -Int.ofNat (k + 1) = x by omega]; exact hx) hv
              · obtain ⟨f1, f2, f3⟩ := S2.fnd h0
                refine ⟨back f1, f2, fun m' g1 g2 => ?_⟩
                cases hb : m'.testBit k with
                | true => exact f3 m' (split2 m' g1 hb) g2
                | false =>
                  exfalso
                  have tr := accF_true (fun x hx => ⟨glit x hx, g1 x (List.mem_append_left _ hx)⟩) gcls gl1 S1.rup g2 s.c (by rw [c3]; simp)
                  obtain ⟨x, hx, hxt⟩ := List.any_eq_true.1 tr
                  have h3 := split_ m' g1 hb (-x) (List.mem_append_right _ (c2 x hx))
                  rw [isB_neg (cv_nz c1 x hx), hxt] at h3
                  cases h3
            · rename_i he2
              have h2 : t.how = 1 := Decidable.byContradiction fun h => he2 (.inl h)
              have hv2 : -Int.ofNat (k + 1) ∈ t.c := Decidable.byContradiction fun h => he2 (.inr h)
              obtain ⟨e1, e2, L2, e3⟩ := S2.clo h2
              obtain ⟨r1, r2, r3⟩ := res_line hN hc hg D (v := Int.ofNat (k + 1)) (by simp only [Int.ofNat_eq_natCast]; omega) (by simp only [Int.ofNat_eq_natCast]; omega) (fun x h => by have := hx x h; simp only [Int.ofNat_eq_natCast]; omega) c1 e1 c2 e2 hv hv2 (ls := s.lines ++ t.lines) (by rw [c3]; simp) (by rw [e3]; simp) good2
              refine ⟨.inr (.inl rfl), fun l hl => ?_, accF_append rup2 r3, fun _ => ⟨r1, r2, _, rfl⟩, fun h => (by cases h), fun h => by cases h⟩
              rcases List.mem_append.1 hl with h | h
              · exact good2 l h
              · rw [List.mem_singleton] at h; subst h; exact r1
end
end Go.Proofs.YtfgfhplgnfbaaaaDoor
/- What Model and Prove return: the first of all models, or a proof. -/
namespace Go.Proofs.YtfgfhplgnfbaaaaDoor
open Go Go.Ev
section
variable {N : Nat} {cls : List (List Int)} {gs : List Int} (hN : N ≤ 30) (hc : ∀ l ∈ cls, Cv (Int.ofNat N) l) (hg : Lv (Int.ofNat N) gs)
include hN hc hg
theorem search_lt : ∀ (d : Nat) {ds : List Int} {left : Nat}, Dcs N cls gs ds → (searchF N (cls.map sideN) gs d ds left).y < 2 ^ 30 ∧ (searchF N (cls.map sideN) gs d ds left).m < 2 ^ 30 := by
  have hss : ∀ p ∈ cls.map sideN, p.1 < 2 ^ 30 ∧ p.2 < 2 ^ 30 := fun p hp => by
    obtain ⟨l, hl, rfl⟩ := List.mem_map.1 hp
    exact sideF_lt (fun x hx => ((hc l hl).2 x hx).1) (by decide) (by decide)
  intro d
  induction d with
  | zero => intro ds left _; exact ⟨by show 0 < 2 ^ 30; decide, by show 0 < 2 ^ 30; decide⟩
  | succ d ih =>
    intro ds left D
    cases left with
    | zero => exact ⟨by show 0 < 2 ^ 30; decide, by show 0 < 2 ^ 30; decide⟩
    | succ left =>
      have lt := fromN_lt hss (Dcs.lit hg D)
      unfold searchF
      split
      · exact lt
      · rename_i hq
        split
        · exact lt
        · rename_i hf
          obtain ⟨p1, p2⟩ := (dec_ok hN hc hg).more ds D (by simpa using hq) hf
          simp only
          split
          · exact ih p1
          · split
            · exact ih p2
            · exact lt
end
end Go.Proofs.YtfgfhplgnfbaaaaDoor
/- SatProves: plain law: the reference's search and the code's, side by side. -/
namespace Go.Proofs.YtfgfhplgnfbaaaaDoor
open Go Go.Ev
/-- What the reference's search comes to: a model, nodes left, how many lines. -/
structure Rt where
  model : List Int
  left : Int
  ln : Nat
/-- The first variable that is open. -/
def openV (ts : List Int) : Nat → Nat → Nat
  | 0, v => v
  | d + 1, v => if ts.getD v 0 = 0 then v else openV ts d (v + 1)
def refS (N : Nat) (cls : List (List Int)) (gs : List Int) : Nat → List Int → Int → Rt
  | 0, _, _ => ⟨[], -1, 0⟩
  | d + 1, ds, left =>
    if left < 1 then ⟨[], -1, 0⟩
    else if (propR N cls (gs ++ ds)).2 = false then ⟨[], left - 1, 1⟩
    else if N < openV (propR N cls (gs ++ ds)).1 N 1 then ⟨(propR N cls (gs ++ ds)).1, left - 1, 0⟩
    else
      let v : Int := (openV (propR N cls (gs ++ ds)).1 N 1 : Nat)
      let one := refS N cls gs d (ds ++ [-v]) (left - 1)
      if one.left < 0 ∨ one.model ≠ [] then one
      else
        let two := refS N cls gs d (ds ++ [v]) one.left
        ⟨two.model, two.left, one.ln + two.ln + 1⟩
theorem openV_eq {ts : List Int} {w : Nat} : ∀ (d v : Nat), v ≤ w → w < v + d → (∀ i, v ≤ i → i < w → ts.getD i 0 ≠ 0) → ts.getD w 0 = 0 → openV ts d v = w := by
  intro d
  induction d with
  | zero => intro v h1 h2; omega
  | succ d ih =>
    intro v h1 h2 h3 h4
    unfold openV
    by_cases e : v = w
    · subst e; rw [if_pos h4]
    · rw [if_neg (h3 v (Nat.le_refl _) (by omega))]
      exact ih (v + 1) (by omega) (by omega) (fun i a b => h3 i (by omega) b) h4
theorem openV_all {ts : List Int} : ∀ (d v : Nat), (∀ i, v ≤ i → i < v + d → ts.getD i 0 ≠ 0) → openV ts d v = v + d := by
  intro d
  induction d with
  | zero => intro v _; rfl
  | succ d ih =>
    intro v h
    unfold openV
    rw [if_neg (h v (Nat.le_refl _) (by omega)), ih (v + 1) fun i a b => h i (by omega) (by omega)]
    omega
theorem bit_open {y m : Nat} {ts : List Int} (h : ∀ z, trM y m z ↔ trT ts z) (v : Nat) : (y ||| m).testBit v = decide (ts.getD (v + 1) 0 ≠ 0) := by
  have hp := h ((v + 1 : Nat) : Int)
  have hm := h (-((v + 1 : Nat) : Int))
  have p1 : trM y m ((v + 1 : Nat) : Int) ↔ y.testBit v = true := by
    unfold trM
    rw [show ((v + 1 : Nat) : Int).natAbs - 1 = v by omega]
    constructor
    · rintro (⟨_, h⟩ | ⟨h, _⟩)
      · exact h
      · omega
    · intro h; exact .inl ⟨by omega, h⟩
  have m1 : trM y m (-((v + 1 : Nat) : Int)) ↔ m.testBit v = true := by
    unfold trM
    rw [show (-((v + 1 : Nat) : Int)).natAbs - 1 = v by omega]
    constructor
    · rintro (⟨h, _⟩ | ⟨_, h⟩)
      · omega
      · exact h
    · intro h; exact .inr ⟨by omega, h⟩
  have p2 : trT ts ((v + 1 : Nat) : Int) ↔ 0 < ts.getD (v + 1) 0 := by
    unfold trT tvR
    rw [if_neg (by omega), show ((v + 1 : Nat) : Int).toNat = v + 1 by omega]
    exact ⟨fun h => h.2, fun h => ⟨by omega, h⟩⟩
  have m2 : trT ts (-((v + 1 : Nat) : Int)) ↔ ts.getD (v + 1) 0 < 0 := by
    unfold trT tvR
    rw [if_pos (by omega), show (-(-((v + 1 : Nat) : Int))).toNat = v + 1 by omega]
    constructor
    · intro h; have := h.2; omega
    · intro h; exact ⟨by omega, by omega⟩
  rw [p1, p2] at hp
  rw [m1, m2] at hm
  rw [Nat.testBit_or, Bool.eq_iff_iff, Bool.or_eq_true, hp, hm, decide_eq_true_iff]
  omega
section
variable {N : Nat} (hN : N ≤ 30) {cls : List (List Int)} (hc : ∀ l ∈ cls, Cv (Int.ofNat N) l) {gs : List Int} (hg : Lv (Int.ofNat N) gs)
include hN hc hg
theorem refS_left : ∀ (d : Nat) (ds : List Int) (L : Int), 0 ≤ L → (refS N cls gs d ds L).left ≤ L ∧ -1 ≤ (refS N cls gs d ds L).left ∧ ((refS N cls gs d ds L).ln : Int) + max (refS N cls gs d ds L).left 0 ≤ L := by
  have _ := hN; have _ := hc; have _ := hg
  intro d
  induction d with
  | zero => intro ds L h; show (-1 : Int) ≤ L ∧ (-1 : Int) ≤ -1 ∧ ((0 : Nat) : Int) + max (-1) 0 ≤ L; omega
  | succ d ih =>
    intro ds L h
    rw [refS]
    by_cases h1 : L < 1
    · rw [if_pos h1]; show (-1 : Int) ≤ L ∧ (-1 : Int) ≤ -1 ∧ ((0 : Nat) : Int) + max (-1) 0 ≤ L; omega
    rw [if_neg h1]
    split
    · show L - 1 ≤ L ∧ -1 ≤ L - 1 ∧ ((1 : Nat) : Int) + max (L - 1) 0 ≤ L; omega
    split
    · show L - 1 ≤ L ∧ -1 ≤ L - 1 ∧ ((0 : Nat) : Int) + max (L - 1) 0 ≤ L; omega
    have i1 := ih (ds ++ [-((openV (propR N cls (gs ++ ds)).1 N 1 : Nat) : Int)]) (L - 1) (by omega)
    dsimp only
    split
    · omega
    · rename_i h2
      have i2 := ih (ds ++ [((openV (propR N cls (gs ++ ds)).1 N 1 : Nat) : Int)]) (refS N cls gs d (ds ++ [-((openV (propR N cls (gs ++ ds)).1 N 1 : Nat) : Int)]) (L - 1)).left (by omega)
      generalize refS N cls gs d (ds ++ [-((openV (propR N cls (gs ++ ds)).1 N 1 : Nat) : Int)]) (L - 1) = one at *
      generalize refS N cls gs d (ds ++ [((openV (propR N cls (gs ++ ds)).1 N 1 : Nat) : Int)]) one.left = two at *
      show two.left ≤ L ∧ -1 ≤ two.left ∧ ((one.ln + two.ln + 1 : Nat) : Int) + max two.left 0 ≤ L
      omega
/-- A clause that closes a branch without its decision closes the other one. -/
theorem other_closed {ds : List Int} {v : Int} (hv : v ≠ 0) {s : Sr} (S : Spec N cls gs (ds ++ [-v]) s) (h1 : s.how = 1) (hn : v ∉ s.c) {m : Nat} (hm : ∀ x ∈ gs ++ ds, isB m x = true) (hcl : ∀ l ∈ cls, l.any (isB m) = true) : False := by
  have _ := hN; have _ := hv
  obtain ⟨cv, hsub, L, eL⟩ := S.clo h1
  have hgood : Good s.lines := good_of S.good
  have ht := accF_true (m := m) (gs := gs) (fun x hx => ⟨(hg x hx).1, hm x (List.mem_append_left _ hx)⟩) (good_of hc) hgood S.rup hcl s.c (by rw [eL]; simp)
  obtain ⟨x, hx, hxt⟩ := List.any_eq_true.1 ht
  have h2 := hsub x hx
  have h0 := (cv.2 x hx).1.1
  rcases List.mem_append.1 h2 with h2 | h2
  · have := hm (-x) (List.mem_append_right _ h2)
    rw [isB_neg h0, hxt] at this
    cases this
  · rw [List.mem_singleton] at h2
    have : x = v := by omega
    exact hn (this ▸ hx)
theorem lock : ∀ (d : Nat) {ds : List Int} {L : Int} {Lc : Nat}, Dcs N cls gs ds → N + 1 ≤ ds.length + d → L ≤ Lc → 0 ≤ (refS N cls gs d ds L).left →
    (searchF N (cls.map sideN) gs d ds Lc).how ≠ 2 ∧ (refS N cls gs d ds L).left ≤ (searchF N (cls.map sideN) gs d ds Lc).left ∧ ((searchF N (cls.map sideN) gs d ds Lc).how = 0 ↔ (refS N cls gs d ds L).model ≠ []) := by
  intro d
  induction d with
  | zero => intro ds L Lc D hd; have := D.len; omega
  | succ d ih =>
    intro ds L Lc D hd hL h0
    have hlt : ¬ L < 1 := fun h => by rw [refS, if_pos h] at h0; exact absurd h0 (by decide)
    obtain ⟨lc, rfl⟩ : ∃ lc, Lc = lc + 1 := ⟨Lc - 1, by omega⟩
    have hx : ∀ x ∈ gs ++ ds, Lit x ∧ x.natAbs < N + 1 := fun x hx => by
      rcases List.mem_append.1 hx with h | h
      · have := hg x h; exact ⟨this.1, by have := this.2; simp only [Int.ofNat_eq_natCast] at this; omega⟩
      · have := D.cv.2 x h; exact ⟨this.1, by have := this.2; simp only [Int.ofNat_eq_natCast] at this; omega⟩
    have hcd : ∀ l ∈ cls, (∀ x ∈ l, Lit x ∧ x.natAbs < N + 1) ∧ Dif l := fun l hl => ⟨fun x hx => by have := (hc l hl).2 x hx; exact ⟨this.1, by have := this.2; simp only [Int.ofNat_eq_natCast] at this; omega⟩, (hc l hl).1⟩
    obtain ⟨pe, pt⟩ := prop_same (cls := cls) (xs := gs ++ ds) hN hcd hx
    rw [refS, if_neg hlt] at h0 ⊢
    rw [searchF]
    rw [pe]
    by_cases hq : (propR N cls (gs ++ ds)).2 = false
    · rw [if_pos hq, if_pos hq]
      exact ⟨by show (1 : Int) ≠ 2; decide, by show L - 1 ≤ (lc : Int); omega, by show (1 : Int) = 0 ↔ ([] : List Int) ≠ []; simp⟩
    rw [if_neg hq, if_neg hq]
    rw [if_neg hq] at h0
    have hq1 : (propR N cls (gs ++ ds)).2 = true := by simpa using hq
    have hq2 : (fromN (cls.map sideN) (gs ++ ds)).2 = true := pe.trans hq1
    have ptz := pt hq1
    have hb := bit_open ptz
    have hlen0 := ((propR_ok hN hcd hx).1 hq1).2.2.1
    generalize hts : (propR N cls (gs ++ ds)).1 = ts at h0 hb hlen0 ⊢
    by_cases hf : freeM N (fromN (cls.map sideN) (gs ++ ds)).1.1 (fromN (cls.map sideN) (gs ++ ds)).1.2 = 0
    · have hall : openV ts N 1 = 1 + N := openV_all N 1 fun i h1 h2 => by
        have h3 := freeM_bit (N := N) (y := (fromN (cls.map sideN) (gs ++ ds)).1.1) (m := (fromN (cls.map sideN) (gs ++ ds)).1.2) (i := i - 1)
        rw [hf, Nat.zero_testBit, hb, decide_eq_true (by omega), Bool.true_and, show i - 1 + 1 = i by omega] at h3
        have h4 : decide (ts.getD i 0 ≠ 0) = true := by simpa using h3.symm
        exact of_decide_eq_true h4
      have hlen : ts ≠ [] := fun e => by
        rw [e] at hlen0; simp at hlen0
      rw [if_pos hf, if_pos (by omega)]
      exact ⟨by show (0 : Int) ≠ 2; decide, by show L - 1 ≤ (lc : Int); omega, by show (0 : Int) = 0 ↔ ts ≠ []; exact ⟨fun _ => hlen, fun _ => rfl⟩⟩
    obtain ⟨b1, b2⟩ := lowF_bit hf (freeM_lt hN)
    obtain ⟨k1, k2, k3⟩ := low_der hN hc hg D hq2 rfl hf
    have dc := (dec_ok hN hc hg).2 ds D hq2 hf
    generalize hk : lowF (freeM N (fromN (cls.map sideN) (gs ++ ds)).1.1 (fromN (cls.map sideN) (gs ++ ds)).1.2) = k at b1 b2 k1 k2 k3 dc ⊢
    have hopen : openV ts N 1 = k + 1 := openV_eq N 1 (by omega) (by omega) (fun i h1 h2 => by
        have h3 := b2 (i - 1) (by omega)
        rw [freeM_bit, hb, decide_eq_true (by omega), Bool.true_and, show i - 1 + 1 = i by omega] at h3
        have h4 : decide (ts.getD i 0 ≠ 0) = true := by simpa using h3
        exact of_decide_eq_true h4) (by
        rw [freeM_bit, hb, Bool.and_eq_true] at b1
        have h4 : decide (ts.getD (k + 1) 0 ≠ 0) = false := by simpa using b1.2
        have := of_decide_eq_false h4
        exact Classical.byContradiction fun h => this h)
    rw [if_neg hf, if_neg (show ¬ N < openV ts N 1 by omega), hopen]
    rw [if_neg (show ¬ N < openV ts N 1 by omega), hopen] at h0
    have ev : ((k + 1 : Nat) : Int) = Int.ofNat (k + 1) := rfl
    rw [ev] at h0 ⊢
    dsimp only at h0 ⊢
    have D1 : Dcs N cls gs (ds ++ [-Int.ofNat (k + 1)]) := dc.1
    have D2 : Dcs N cls gs (ds ++ [Int.ofNat (k + 1)]) := dc.2
    have l1 : N + 1 ≤ (ds ++ [-Int.ofNat (k + 1)]).length + d := by rw [List.length_append]; simp; omega
    have l2 : N + 1 ≤ (ds ++ [Int.ofNat (k + 1)]).length + d := by rw [List.length_append]; simp; omega
    have S1 := search_spec hN hc hg d (left := lc) D1 l1
    have rl := refS_left hN hc hg d (ds ++ [-Int.ofNat (k + 1)]) (L - 1) (by omega)
    have i1 := ih (L := L - 1) (Lc := lc) D1 l1 (by omega)
    generalize refS N cls gs d (ds ++ [-Int.ofNat (k + 1)]) (L - 1) = one at h0 rl i1 ⊢
    generalize searchF N (cls.map sideN) gs d (ds ++ [-Int.ofNat (k + 1)]) lc = s at S1 i1 ⊢
    by_cases ho : one.left < 0 ∨ one.model ≠ []
    · rw [if_pos ho] at h0 ⊢
      rcases ho with ho | ho
      · omega
      obtain ⟨a, b, c⟩ := i1 h0
      have hs0 := c.2 ho
      rw [if_pos (Or.inl (by rw [hs0]; decide))]
      exact ⟨a, b, c⟩
    rw [if_neg ho] at h0 ⊢
    have ho1 : 0 ≤ one.left := by omega
    have ho2 : one.model = [] := Classical.byContradiction fun h => ho (.inr h)
    obtain ⟨a, b, c⟩ := i1 ho1
    have hs1 : s.how = 1 := by
      rcases S1.how with h | h | h
      · exact absurd ho2 (c.1 h)
      · exact h
      · exact absurd h a
    have h0 : 0 ≤ (refS N cls gs d (ds ++ [Int.ofNat (k + 1)]) one.left).left := h0
    have rl2 := refS_left hN hc hg d (ds ++ [Int.ofNat (k + 1)]) one.left ho1
    by_cases hv : Int.ofNat (k + 1) ∈ s.c
    · rw [if_neg (by rintro (h | h); exact h hs1; exact h hv)]
      obtain ⟨a2, b2', c2⟩ := ih (L := one.left) (Lc := s.left) D2 l2 b h0
      have S2 := search_spec hN hc hg d (left := s.left) D2 l2
      generalize refS N cls gs d (ds ++ [Int.ofNat (k + 1)]) one.left = two at h0 rl2 a2 b2' c2 ⊢
      generalize searchF N (cls.map sideN) gs d (ds ++ [Int.ofNat (k + 1)]) s.left = t at S2 a2 b2' c2 ⊢
      by_cases ht : t.how ≠ 1 ∨ -Int.ofNat (k + 1) ∉ t.c
      · rw [if_pos ht]
        exact ⟨a2, b2', c2⟩
      · rw [if_neg ht]
        have ht1 : t.how = 1 := Classical.byContradiction fun h => ht (.inl h)
        refine ⟨by show (1 : Int) ≠ 2; decide, b2', ?_⟩
        show (1 : Int) = 0 ↔ two.model ≠ []
        refine ⟨fun h => absurd h (by decide), fun h => ?_⟩
        have := c2.2 h
        rw [ht1] at this; exact absurd this (by decide)
    · rw [if_pos (Or.inr hv)]
      obtain ⟨a2, b2', c2⟩ := ih (L := one.left) (Lc := one.left.toNat) D2 l2 (by omega) h0
      have S2 := search_spec hN hc hg d (left := one.left.toNat) D2 l2
      refine ⟨a, by show (refS N cls gs d (ds ++ [Int.ofNat (k + 1)]) one.left).left ≤ _; omega, ?_⟩
      show s.how = 0 ↔ (refS N cls gs d (ds ++ [Int.ofNat (k + 1)]) one.left).model ≠ []
      refine ⟨fun h => by rw [hs1] at h; exact absurd h (by decide), fun h => ?_⟩
      have h2 := S2.fnd (c2.2 h)
      exact (other_closed hN hc hg (v := Int.ofNat (k + 1)) (by simp only [Int.ofNat_eq_natCast]; omega) S1 hs1 hv (m := _) (fun x hx => h2.1 x (by
        rcases List.mem_append.1 hx with hx | hx
        · exact List.mem_append_left _ hx
        · exact List.mem_append_right _ (List.mem_append_left _ hx))) h2.2.1).elim
/-- The lines are no more than the nodes. -/
theorem search_lines : ∀ (d : Nat) (ds : List Int) (left : Nat), (searchF N (cls.map sideN) gs d ds left).lines.length + (searchF N (cls.map sideN) gs d ds left).left ≤ left := by
  have _ := hN; have _ := hc; have _ := hg
  intro d
  induction d with
  | zero => intro ds left; show 0 + left ≤ left; omega
  | succ d ih =>
    intro ds left
    cases left with
    | zero => show 0 + 0 ≤ 0; omega
    | succ left =>
      rw [searchF]
      split
      · show 1 + left ≤ left + 1; omega
      split
      · show 0 + left ≤ left + 1; omega
      dsimp only
      have i1 := ih (ds ++ [-Int.ofNat (lowF (freeM N (fromN (cls.map sideN) (gs ++ ds)).1.1 (fromN (cls.map sideN) (gs ++ ds)).1.2) + 1)]) left
      generalize searchF N (cls.map sideN) gs d (ds ++ [-Int.ofNat (lowF (freeM N (fromN (cls.map sideN) (gs ++ ds)).1.1 (fromN (cls.map sideN) (gs ++ ds)).1.2) + 1)]) left = s at i1 ⊢
      split
      · omega
      have i2 := ih (ds ++ [Int.ofNat (lowF (freeM N (fromN (cls.map sideN) (gs ++ ds)).1.1 (fromN (cls.map sideN) (gs ++ ds)).1.2) + 1)]) s.left
      generalize searchF N (cls.map sideN) gs d (ds ++ [Int.ofNat (lowF (freeM N (fromN (cls.map sideN) (gs ++ ds)).1.1 (fromN (cls.map sideN) (gs ++ ds)).1.2) + 1)]) s.left = t at i2 ⊢
      split
      · show (s.lines ++ t.lines).length + t.left ≤ left + 1; rw [List.length_append]; omega
      · show (s.lines ++ t.lines ++ [_]).length + t.left ≤ left + 1; rw [List.length_append, List.length_append]; simp; omega
end
end Go.Proofs.YtfgfhplgnfbaaaaDoor
/- Conditions of functions' code, printed by a program of ours. -/
namespace Go.Proofs.YtfgfhplgnfbaaaaDoor
open Go Go.Ev
set_option maxRecDepth 100000
set_option linter.unusedVariables false
/-! sward/swardlaw20.SatNames$1 -/
noncomputable def b18 : Code := (Tryd.f18.body).getD .skip
def T18 (O : CallF) (Q : Value → Hp → Prop) (x0 : Int) (b1 : Nat) (f1 : Nat) (b2 : Nat) (f2 : Nat) (h : Hp) : Prop :=
  ∃ a1' n2' c3', readAt h b1 f1 1 = some [(.slice a1' n2' c3')] ∧
  isNat (wrapF .i64 ((maxI x0 (wrapF .i64 (0 - x0))) - 1)) fun n4' =>
  isAddr a1' fun b5' f6' =>
  vreq (Nat.blt n4' n2')
  (∃ x7', readAt h b5' (f6' + (n4' * 1)) 1 = some [(.int .i64 x7')] ∧
  ∃ x8', readAt h b2 f2 1 = some [(.int .u8 x8')] ∧
  vreq (le0 (wrapF .i64 ((maxI x0 (wrapF .i64 (0 - x0))) - 1)))
  (vreq (inD 256 (shrF .u8 x8' (Int.toNat (wrapF .i64 ((maxI x0 (wrapF .i64 (0 - x0))) - 1)))))
  (vcond (!eqB (ltI x0 0) (eqI (landI (shrF .u8 x8' (Int.toNat (wrapF .i64 ((maxI x0 (wrapF .i64 (0 - x0))) - 1)))) 1) 1))
  (Q (.int .i64 (wrapF .i64 (0 - x7'))) h)
  (Q (.int .i64 x7') h))))
/-! slices.Reverse[[]int,int] -/
end Go.Proofs.YtfgfhplgnfbaaaaDoor
/- Forced: its walk. -/
namespace Go.Proofs.YtfgfhplgnfbaaaaDoor
open Go Go.Ev
end Go.Proofs.YtfgfhplgnfbaaaaDoor
/- Those to blame: the walk of Core and Blame. -/
namespace Go.Proofs.YtfgfhplgnfbaaaaDoor
open Go Go.Ev
end Go.Proofs.YtfgfhplgnfbaaaaDoor
/- What a call's arguments hold, as the evaluator's memory. -/
namespace Go.Ev
open Go
/-- Fields lie one behind the other. -/
def layOk (P : Program) : Nat → List Field → Nat → Bool
  | off, [], n => Nat.beq off n
  | off, f :: fs, n => Nat.beq f.offset off && layOk P (off + P.cellsOf f.type) fs n
/-- A type of truths, whole numbers, lists, structs and rows of these. -/
def Plain (P : Program) : Nat → TypeId → Bool
  | 0, _ => false
  | n + 1, t => match P.underlying t with
    | some .bool => true
    | some (.int _) => true
    | some (.slice e) => Plain P n e && !(Nat.beq (P.cellsOf e) 0)
    | some (.struct fs) => fs.toList.all (fun f => Plain P n f.type) && layOk P 0 fs.toList (P.cellsOf t)
    | some (.array m e) => Plain P n e && Nat.beq (m * P.cellsOf e) (P.cellsOf t)
    | _ => false
/-- Cells that read as some data, in the evaluator's memory. -/
def DE {H : Type} (P : Program) (h : Hp) : Nat → TypeId → List Value → DataW H → Prop
  | 0, _, _, _ => False
  | n + 1, t, cs, d => match P.underlying t, d with
    | some .bool, .lit (.bool b) => cs = [.bool b]
    | some (.int k), .lit (.int k' x) => k' = k ∧ cs = [.int k x] ∧ (Lit.int k x).wf = true
    | some (.slice _), .nil => cs = [.slice none 0 0]
    | some (.slice e), .slice elems _ => ∃ k cap c e', cs = [.slice (some ⟨k, 0, none⟩) elems.length cap] ∧ cap < unk ∧ elems.length ≤ cap ∧ k < h.nx ∧ h.get k = some (.cells c e' .ro) ∧ elems.length * P.cellsOf e ≤ c.length ∧
        ∀ i (hi : i < elems.length), DE P h n e ((c.drop (i * P.cellsOf e)).take (P.cellsOf e)) elems[i]
    | some (.struct fs), .agg parts => cs.length = P.cellsOf t ∧ parts.length = fs.size ∧ ∀ i (hi : i < parts.length) f, fs[i]? = some f → DE P h n f.type ((cs.drop f.offset).take (P.cellsOf f.type)) parts[i]
    | some (.array m e), .agg parts => cs.length = P.cellsOf t ∧ parts.length = m ∧ ∀ i (hi : i < parts.length), DE P h n e ((cs.drop (i * P.cellsOf e)).take (P.cellsOf e)) parts[i]
    | _, _ => False
/-- Memory with more in it, that none writes. -/
structure Ext1 (h : Hp) (ι : Inj) (h' : Hp) (ι' : Inj) : Prop where
  nx : h.nx ≤ h'.nx
  gd : h'.gd = h.gd
  get : ∀ o, o < h.nx → h'.get o = h.get o
  inj : ∀ o, o < h.nx → ι' o = ι o
theorem Ext1.refl (h : Hp) (ι : Inj) : Ext1 h ι h ι := ⟨Nat.le_refl _, rfl, fun _ _ => rfl, fun _ _ => rfl⟩
theorem Ext1.trans {h h' h'' : Hp} {ι ι' ι'' : Inj} (a : Ext1 h ι h' ι') (b : Ext1 h' ι' h'' ι'') : Ext1 h ι h'' ι'' :=
  ⟨Nat.le_trans a.nx b.nx, b.gd.trans a.gd, fun o ho => (b.get o (Nat.lt_of_lt_of_le ho a.nx)).trans (a.get o ho), fun o ho => (b.inj o (Nat.lt_of_lt_of_le ho a.nx)).trans (a.inj o ho)⟩
theorem DE.mono {H : Type} {P : Program} {h h' : Hp} (hn : h.nx ≤ h'.nx) (hg : ∀ o, o < h.nx → h'.get o = h.get o) : ∀ {n : Nat} {t : TypeId} {cs : List Value} {d : DataW H}, DE P h n t cs d → DE P h' n t cs d := by
  intro n
  induction n with
  | zero => intro t cs d h; exact h
  | succ n ih =>
    intro t cs d hd
    unfold DE at hd ⊢
    split at hd
    · exact hd
    · exact hd
    · exact hd
    · obtain ⟨k, cap, c, e', h1, h2, h3, h4, h5, h6, h7⟩ := hd
      exact ⟨k, cap, c, e', h1, h2, h3, Nat.lt_of_lt_of_le h4 hn, by rw [hg k h4]; exact h5, h6, fun i hi => ih (h7 i hi)⟩
    · exact ⟨hd.1, hd.2.1, fun i hi f hf => ih (hd.2.2 i hi f hf)⟩
    · exact ⟨hd.1, hd.2.1, fun i hi => ih (hd.2.2 i hi)⟩
    · exact hd
section
variable {H : Type} {enc : TypeId × Value → H} {P : Program} {W : World}
/-- What is ahead: memory that none writes, and an object in it. -/
structure Base (P : Program) (ι : Inj) (h : Hp) (W : World) : Prop where
  rh : RH P ι h W
  ro : ∀ o x, h.get o = some x → x.wr = false
  gd : h.gd = []
  some0 : ∃ x v, h.get 0 = some x ∧ ι 0 = some v ∧ 0 < h.nx ∧ ∃ c e, x = .cells c e .ro
/-- An object more. -/
theorem Base.push {ι : Inj} {h : Hp} (B : Base P ι h W) {c : List Value} {e : TypeId} {v : Vw} (h1 : c.all one = true) {c' : Array Value} {e' : TypeId} {fr : Nat × Nat} (hb : W.heap[v.blk]? = some (.cells c' e' fr)) (hc : ∀ (j : Nat) x, c[j]? = some x → ∃ y, c'[v.base + j]? = some y ∧ VR ι x y) :
    Base P (ι.set h.nx v) (h.add (.cells c e .ro)) W ∧ Ext1 h ι (h.add (.cells c e .ro)) (ι.set h.nx v) := by
  have hfresh : ι h.nx = none := B.rh.fresh _ (Nat.le_refl _)
  have mono := Inj.set_mono (v := v) hfresh
  have hE : Ext1 h ι (h.add (.cells c e .ro)) (ι.set h.nx v) := ⟨by rw [nx_add]; omega, rfl, fun o ho => get_add_ne (by omega), fun o ho => Inj.set_other _ _ _ (by omega)⟩
  have hget : ∀ o x, (h.add (.cells c e .ro)).get o = some x → (o = h.nx ∧ x = .cells c e .ro) ∨ h.get o = some x := fun o x ho => by
    rw [get_add] at ho
    split at ho
    · exact .inl ⟨‹_›, (Option.some.inj ho).symm⟩
    · exact .inr ho
  have hro : ∀ o x, (h.add (.cells c e .ro)).get o = some x → x.wr = false := fun o x ho => by
    rcases hget o x ho with ⟨_, rfl⟩ | ho
    · rfl
    · exact B.ro o x ho
  refine ⟨⟨⟨fun o x ho => ?_, fun o q x y vo vq _ ho hx => ?_, fun o ho => ?_, fun g hg => ?_, ?_⟩, hro, B.gd, ?_⟩, hE⟩
  · rcases hget o x ho with ⟨rfl, rfl⟩ | ho
    · refine ⟨by rw [nx_add]; omega, v, Inj.set_same .., h1, c', e', fr, hb, fun j x hx => ?_, fun h => absurd rfl h, fun h => by cases h⟩
      obtain ⟨y, hy, hv⟩ := hc j x hx
      exact ⟨y, hy, hv.mono mono⟩
    · obtain ⟨h2, u, hu, hor⟩ := B.rh.live o x ho
      exact ⟨by rw [nx_add]; omega, u, mono _ _ hu, hor.of_block mono rfl⟩
  · rw [hro o x ho] at hx; cases hx
  · rw [nx_add] at ho
    rw [Inj.set_other _ _ _ (by omega)]; exact B.rh.fresh o (by omega)
  · rw [Inj.set_other _ _ _ (by have := B.rh.gsize; omega)]; exact B.rh.glob g hg
  · rw [nx_add]; have := B.rh.gsize; omega
  · obtain ⟨x, u, a1, a2, a3, a4⟩ := B.some0
    exact ⟨x, u, by rw [get_add_ne (by omega)]; exact a1, by rw [Inj.set_other _ _ _ (by omega)]; exact a2, by rw [nx_add]; omega, a4⟩
theorem cells_take {a : Addr} {n : Nat} {cs : List Value} (h : W.cells? 0 a n = some cs) : cs.length = n ∧ ∀ j, j < n → W.cell? (a.add j) = cs[j]? := by
  unfold World.cells? at h
  rw [if_pos (Nat.zero_le _)] at h
  have hl := Lib.mapM_length h
  rw [List.length_range] at hl
  refine ⟨hl, fun j hj => ?_⟩
  obtain ⟨b, h1, h2⟩ := Lib.mapM_at h j j (by simp [hj])
  rw [h1, h2]
/-- A whole part is built, whatever a part is built of. -/
def Builds (H : Type) (enc : TypeId × Value → H) (P : Program) (W : World) (n : Nat) (t : TypeId) : Prop := ∀ (cs : List Value) (d : DataW H) (ps : List MemPlace), DataW.trod enc P W 0 (fun _ => true) true n t cs = some (d, ps) →
  ∀ ι h, Base P ι h W → ∃ ι' h' ev, Ext1 h ι h' ι' ∧ Base P ι' h' W ∧ VRs ι' ev cs ∧ ev.all one = true ∧ DE P h' n t ev d
theorem VRs.mono1 {ι ι' : Inj} {h h' : Hp} (E : Ext1 h ι h' ι') (R : ∀ o, h.nx ≤ o → ι o = none) {a b : List Value} (hv : VRs ι a b) : VRs ι' a b := hv.mono fun o v hv => by
  have : o < h.nx := by
    rcases Nat.lt_or_ge o h.nx with hh | hh
    · exact hh
    · rw [R o hh] at hv; cases hv
  rw [E.inj o this]; exact hv
/-- Parts, one after the other. -/
theorem build_list {n : Nat} : ∀ (l : List (TypeId × List Value × DataW H)), (∀ p ∈ l, Builds H enc P W n p.1 ∧ ∃ ps, DataW.trod enc P W 0 (fun _ => true) true n p.1 p.2.1 = some (p.2.2, ps)) → ∀ ι h, Base P ι h W →
    ∃ ι' h', ∃ evs : List (List Value), Ext1 h ι h' ι' ∧ Base P ι' h' W ∧ evs.length = l.length ∧ VRs ι' evs.flatten (l.map (·.2.1)).flatten ∧ evs.flatten.all one = true ∧
      ∀ i (hi : i < l.length), ∃ ev, evs[i]? = some ev ∧ VRs ι' ev l[i].2.1 ∧ DE P h' n l[i].1 ev l[i].2.2 := by
  intro l
  induction l with
  | nil => intro _ ι h B; exact ⟨ι, h, [], .refl _ _, B, rfl, .nil _, rfl, fun i hi => absurd hi (Nat.not_lt_zero _)⟩
  | cons p l ih =>
    intro hl ι h B
    obtain ⟨hb, ps, hp⟩ := hl p (List.mem_cons_self ..)
    obtain ⟨ι1, h1, ev, E1, B1, V1, O1, D1⟩ := hb _ _ _ hp ι h B
    obtain ⟨ι2, h2, evs, E2, B2, L2, V2, O2, D2⟩ := ih (fun q hq => hl q (List.mem_cons_of_mem _ hq)) ι1 h1 B1
    have V1' := VRs.mono1 E2 B1.rh.fresh V1
    refine ⟨ι2, h2, ev :: evs, E1.trans E2, B2, by simp [L2], ?_, ?_, fun i hi => ?_⟩
    · rw [List.flatten_cons, List.map_cons, List.flatten_cons]; exact V1'.append V2
    · rw [List.flatten_cons, List.all_append, O1, O2]; rfl
    · cases i with
      | zero => exact ⟨ev, rfl, V1', D1.mono E2.nx E2.get⟩
      | succ i => exact D2 i (by simpa using hi)
theorem flat_row {l : List (List Value)} {w : Nat} (hw : ∀ x ∈ l, x.length = w) : l.flatten.length = l.length * w ∧ ∀ i x, l[i]? = some x → (l.flatten.drop (i * w)).take w = x := by
  induction l with
  | nil => exact ⟨by simp, fun i x h => by simp at h⟩
  | cons y l ih =>
    obtain ⟨h1, h2⟩ := ih fun x hx => hw x (List.mem_cons_of_mem _ hx)
    have hy := hw y (List.mem_cons_self ..)
    refine ⟨by rw [List.flatten_cons, List.length_append, h1, hy, List.length_cons, Nat.add_mul]; omega, fun i x hx => ?_⟩
    rw [List.flatten_cons]
    cases i with
    | zero =>
      simp at hx
      subst hx
      rw [Nat.zero_mul, List.drop_zero, ← hy, List.take_left]
    | succ i =>
      rw [List.drop_append, List.drop_of_length_le (by rw [hy, Nat.add_mul]; omega), List.nil_append, hy, show (i + 1) * w - w = i * w by rw [Nat.add_mul]; omega]
      exact h2 i x (by simpa using hx)
/-- What a slice reads as. -/
theorem trod_slice {n : Nat} {e t : TypeId} (hu : P.underlying t = some (.slice e)) {cs : List Value} {d : DataW H} {ps : List MemPlace} (h : DataW.trod enc P W 0 (fun _ => true) true (n + 1) t cs = some (d, ps)) :
    (cs = [.slice none 0 0] ∧ d = .nil) ∨ ∃ (a : Addr) (len cap : Nat) (elems rest : List (DataW H × List MemPlace)), cs = [.slice (some a) len cap] ∧ len ≤ cap ∧ cap ≤ maxLen ∧
      (List.range len).mapM (fun i => (W.cells? 0 (a.add (i * P.cellsOf e)) (P.cellsOf e)).bind (DataW.trod enc P W 0 (fun _ => true) true n e)) = some elems ∧
      (List.range (cap - len)).mapM (fun j => (W.cells? 0 (a.add ((len + j) * P.cellsOf e)) (P.cellsOf e)).bind (DataW.trod enc P W 0 (fun _ => true) true n e)) = some rest ∧ d = .slice (elems.map (·.1)) (rest.map (·.1)) := by
  unfold DataW.trod at h
  rw [hu] at h
  rcases cs with _ | ⟨v, _ | ⟨w, r⟩⟩
  · cases h
  · cases v with
    | slice a len cap =>
      rcases a with _ | a
      · rcases len with _ | len
        · rcases cap with _ | cap
          · injection h with h; injection h with h1 h2; exact .inl ⟨rfl, h1.symm⟩
          · cases h
        · cases h
      · right
        simp only at h
        split at h
        · rename_i hc
          obtain ⟨elems, h1, h2⟩ := Option.bind_eq_some_iff.1 h
          obtain ⟨rest, h3, h4⟩ := Option.map_eq_some_iff.1 h2
          injection h4 with h4 h5
          rw [if_pos trivial] at h3
          exact ⟨a, len, cap, elems, rest, rfl, hc.2.1, hc.2.2, h1, h3, h4.symm⟩
        · cases h
    | _ => cases h
  · cases v with
    | slice a len cap => cases a <;> cases len <;> cases cap <;> cases h
    | _ => cases h
theorem cell_block {a : Addr} {v : Value} (h : W.cell? a = some v) : ∃ c e fr, W.heap[a.block]? = some (.cells c e fr) ∧ a.spot = none ∧ c[a.off]? = some v := by
  unfold World.cell? at h
  split at h
  · rename_i c e fr hb
    split at h
    · cases h
    · rename_i hs
      exact ⟨c, e, fr, hb, by simpa using hs, h⟩
  · cases h
theorem add_add (a : Addr) (i j : Nat) : ((a.add i).add j).block = a.block ∧ ((a.add i).add j).off = a.off + i + j := by
  unfold Addr.add
  by_cases hi : i = 0
  · subst hi; by_cases hj : j = 0
    · subst hj; exact ⟨rfl, rfl⟩
    · simp [hj]
  · by_cases hj : j = 0
    · subst hj; simp [hi]
    · simp [hi, hj]
theorem build_slice {n : Nat} {e t : TypeId} (he : Builds H enc P W n e) (hs : P.cellsOf e ≠ 0) (hu : P.underlying t = some (.slice e)) : Builds H enc P W (n + 1) t := by
  intro cs d ps h ι hp B
  rcases trod_slice hu h with ⟨rfl, rfl⟩ | ⟨a, len, cap, elems, rest, rfl, hlc, hcap, h1, h2, rfl⟩
  · exact ⟨ι, hp, [.slice none 0 0], .refl _ _, B, .of_flat rfl, rfl, by unfold DE; rw [hu]⟩
  have hcl : cap < unk := by
    have : unk = 18446744073709551616 := rfl
    have : maxLen = 2 ^ 63 - 1 := rfl
    omega
  have hcu : cap ≠ unk := Nat.ne_of_lt hcl
  have l1 := Lib.mapM_length h1
  have l2 := Lib.mapM_length h2
  rw [List.length_range] at l1 l2
  -- the elements
  let cell (i : Nat) : List Value := (W.cells? 0 (a.add (i * P.cellsOf e)) (P.cellsOf e)).getD []
  have el : ∀ i (hi : i < len), W.cells? 0 (a.add (i * P.cellsOf e)) (P.cellsOf e) = some (cell i) ∧ DataW.trod enc P W 0 (fun _ => true) true n e (cell i) = some (elems[i]'(by omega)) := by
    intro i hi
    obtain ⟨b, e1, e2⟩ := Lib.mapM_at h1 i i (by simp [hi])
    obtain ⟨c, e3, e4⟩ := Option.bind_eq_some_iff.1 e2
    have hc : cell i = c := by show (W.cells? 0 _ _).getD [] = c; rw [e3]; rfl
    rw [hc]
    refine ⟨e3, ?_⟩
    rw [e4, ← e1, List.getElem?_eq_getElem]
  by_cases hcap0 : cap = 0
  · -- nothing at all
    subst hcap0
    obtain rfl : len = 0 := by omega
    obtain ⟨x, v, g1, g2, g3, c, e', rfl⟩ := B.some0
    have he0 : elems = [] := List.length_eq_zero_iff.1 l1
    subst he0
    refine ⟨ι, hp, [.slice (some ⟨0, 0, none⟩) 0 0], .refl _ _, B, .cons (.sl0 g2 (.inr rfl)) (.nil _), rfl, ?_⟩
    unfold DE
    rw [hu]
    have hm : ∃ c' e'', hp.get 0 = some (.cells c' e'' .ro) := by
      refine ⟨c, e', ?_⟩
      have := B.ro 0 _ g1
      rw [g1]
    obtain ⟨c', e'', hm⟩ := hm
    exact ⟨0, 0, c', e'', rfl, hcl, Nat.le_refl _, g3, hm, by simp, fun i hi => absurd hi (Nat.not_lt_zero _)⟩
  · -- the block
    have hblk : ∃ c' e' fr, W.heap[a.block]? = some (.cells c' e' fr) ∧ a.spot = none := by
      have first : ∃ c, W.cells? 0 a (P.cellsOf e) = some c := by
        rcases Nat.eq_zero_or_pos len with h0 | h0
        · obtain ⟨b, _, e2⟩ := Lib.mapM_at h2 0 0 (by rw [List.getElem?_eq_getElem (by simp; omega)]; simp)
          obtain ⟨c, e3, _⟩ := Option.bind_eq_some_iff.1 e2
          rw [h0, Nat.zero_add, Nat.zero_mul] at e3
          exact ⟨c, e3⟩
        · have := (el 0 h0).1
          rw [Nat.zero_mul] at this
          exact ⟨_, this⟩
      obtain ⟨c, hc⟩ := first
      obtain ⟨g1, g2⟩ := cells_take hc
      have := g2 0 (by omega)
      obtain ⟨v, hv⟩ : ∃ v, c[0]? = some v := ⟨c[0]'(by omega), List.getElem?_eq_getElem _⟩
      rw [hv] at this
      obtain ⟨c', e', fr, q1, q2, _⟩ := cell_block this
      exact ⟨c', e', fr, q1, q2⟩
    obtain ⟨c', e', fr, hb, hsp⟩ := hblk
    let l : List (TypeId × List Value × DataW H) := (List.range len).map fun i => (e, cell i, ((elems.map (·.1))[i]?).getD .nil)
    have hll : l.length = len := by simp [l]
    have lget : ∀ i (hi : i < l.length), l[i] = (e, cell i, (elems[i]'(by omega)).1) := by
      intro i hi
      have hi' : i < elems.length := by omega
      simp [l, hi']
    obtain ⟨ι1, h3, evs, E1, B1, L1, V1, O1, D1⟩ := build_list l (fun p hpm => by
      obtain ⟨i, hi, rfl⟩ := List.getElem_of_mem hpm
      rw [lget i hi]
      exact ⟨he, _, (el i (by omega)).2⟩) ι hp B
    have hw : ∀ x ∈ evs, x.length = P.cellsOf e := by
      intro x hx
      obtain ⟨i, hi, rfl⟩ := List.getElem_of_mem hx
      obtain ⟨ev, e1, e2, _⟩ := D1 i (by omega)
      rw [List.getElem?_eq_getElem hi] at e1
      obtain rfl := Option.some.inj e1
      rw [← e2.1, lget i (by omega)]
      exact (cells_take (el i (by omega)).1).1
    obtain ⟨f1, f2⟩ := flat_row hw
    obtain ⟨B2, E2⟩ := B1.push (c := evs.flatten) (e := e) (v := ⟨a.block, a.off, 0, 0⟩) O1 hb (fun j x hx => by
      have hj : j < evs.flatten.length := (List.getElem?_eq_some_iff.1 hx).1
      rw [f1, L1, hll] at hj
      have hlt : j / P.cellsOf e < len := Nat.div_lt_of_lt_mul (by rw [Nat.mul_comm]; exact hj)
      have hmod : j % P.cellsOf e < P.cellsOf e := Nat.mod_lt _ (by omega)
      have hdm : j = j / P.cellsOf e * P.cellsOf e + j % P.cellsOf e := by rw [Nat.mul_comm]; exact (Nat.div_add_mod j _).symm
      obtain ⟨ev, e1, e2, _⟩ := D1 (j / P.cellsOf e) (by omega)
      have e3 := f2 _ _ e1
      have hx' : ev[j % P.cellsOf e]? = some x := by
        rw [← e3, List.getElem?_take, if_pos hmod, List.getElem?_drop, ← hdm]; exact hx
      obtain ⟨y, hy, hv⟩ := e2.get hx'
      rw [lget _ (by omega)] at hy
      have hy : (cell (j / P.cellsOf e))[j % P.cellsOf e]? = some y := hy
      have := (cells_take (el _ hlt).1).2 _ hmod
      rw [hy] at this
      obtain ⟨c2, e2', fr2, q1, _, q3⟩ := cell_block this
      obtain ⟨p1, p2⟩ := add_add a (j / P.cellsOf e * P.cellsOf e) (j % P.cellsOf e)
      rw [p1] at q1
      rw [p2] at q3
      rw [hb] at q1
      injection q1 with q1
      injection q1 with q1 _ _
      subst q1
      exact ⟨y, by rw [show a.off + j = a.off + j / P.cellsOf e * P.cellsOf e + j % P.cellsOf e by omega]; exact q3, hv⟩)
    refine ⟨_, _, [.slice (some ⟨h3.nx, 0, none⟩) len cap], E1.trans E2, B2, .cons ?_ (.nil _), rfl, ?_⟩
    · have ha : a = ⟨a.block, a.off + 0, none⟩ := by cases a; simp at hsp; subst hsp; rfl
      rw [ha]
      exact .slc (w := ⟨a.block, a.off, 0, 0⟩) (Inj.set_same ..) hcu
    · unfold DE
      rw [hu]
      have hel : (elems.map (·.1)).length = len := by simp [l1]
      refine ⟨h3.nx, cap, evs.flatten, e, by rw [hel], hcl, by rw [hel]; exact hlc, by rw [nx_add]; omega, get_add_same .., Nat.le_of_eq (by rw [hel, f1, L1, hll]), fun i hi => ?_⟩
      rw [hel] at hi
      obtain ⟨ev, e1, _, e3⟩ := D1 i (by omega)
      rw [f2 i ev e1]
      rw [lget i (by omega)] at e3
      have : (elems.map (·.1))[i]'(by rw [hel]; exact hi) = (elems[i]'(by omega)).1 := by simp
      rw [this]
      exact e3.mono (by rw [nx_add]; omega) fun o ho => get_add_ne (by omega)
theorem build_int {n : Nat} {t : TypeId} {k : IntKind} (hu : P.underlying t = some (.int k)) : Builds H enc P W (n + 1) t := by
  intro cs d ps h ι hp B
  unfold DataW.trod at h
  rw [hu] at h
  rcases cs with _ | ⟨v, _ | ⟨w, r⟩⟩
  · cases h
  · cases v with
    | int k' x =>
      simp only at h
      split at h
      · rename_i hc
        injection h with h; injection h with h _
        subst h
        obtain ⟨rfl, hw⟩ := hc
        exact ⟨ι, hp, [.int k' x], .refl _ _, B, .of_flat rfl, rfl, by unfold DE; rw [hu]; exact ⟨rfl, rfl, hw⟩⟩
      · cases h
    | slice a len cap => cases a <;> cases len <;> cases cap <;> cases h
    | _ => cases h
  · cases v with
    | slice a len cap => cases a <;> cases len <;> cases cap <;> cases h
    | _ => cases h
end
end Go.Ev
/- A law's arguments, as the evaluator's memory; from its word to the kit's. -/
namespace Go.Ev
open Go Go.ChangeShapes Go.WideShapes Go.ChangeAt Go.RowKit
section
variable {H : Type} {enc : TypeId × Value → H} {P : Program} {W : World}
/-- Arguments that read as some data. -/
def DEs (P : Program) (h : Hp) : List TypeId → List Value → List (DataW H) → Prop
  | [], [], [] => True
  | t :: ts, v :: vs, d :: ds => ((∃ n, DE P h n t v.cells.toList d) ∧ (aggT P t = some true ∨ v.cells.toList = [v])) ∧ DEs P h ts vs ds
  | _, _, _ => False
theorem DEs.mono {h h' : Hp} (hn : h.nx ≤ h'.nx) (hg : ∀ o, o < h.nx → h'.get o = h.get o) : ∀ {ts : List TypeId} {vs : List Value} {ds : List (DataW H)}, DEs P h ts vs ds → DEs P h' ts vs ds
  | [], [], [], h => h
  | _ :: _, _ :: _, _ :: _, ⟨⟨⟨n, h1⟩, h3⟩, h2⟩ => ⟨⟨⟨n, h1.mono hn hg⟩, h3⟩, h2.mono hn hg⟩
/-- A value is one cell, or a struct's or a row's cells. -/
def Shaped1 (P : Program) (t : TypeId) (v : Value) : Prop := v.cells.toList = [v] ∨ (∃ cs, v = .agg cs) ∧ aggT P t = some true
theorem args_build : ∀ {ts : List TypeId} {vs : List Value} {ds : List (DataW H)} {p : List MemPlace}, DataW.TrodAll enc P W 0 (fun _ => true) true ts vs ds p → (∀ t ∈ ts, ∀ n, Builds H enc P W n t) → (∀ (i : Nat) t v, ts[i]? = some t → vs[i]? = some v → Shaped1 P t v) → ∀ ι h, Base P ι h W →
    ∃ ι' h' evs, Ext1 h ι h' ι' ∧ Base P ι' h' W ∧ VRs ι' evs vs ∧ DEs P h' ts evs ds
  | [], [], [], _, _, _, _, ι, h, B => ⟨ι, h, [], .refl _ _, B, .nil _, trivial⟩
  | t :: ts, v :: vs, d :: ds, _, ⟨p, q, ⟨n, h1⟩, h2, _⟩, hb, hs, ι, h, B => by
    obtain ⟨ι1, h3, ev, E1, B1, V1, O1, D1⟩ := hb t (List.mem_cons_self ..) n _ _ _ h1 ι h B
    obtain ⟨ι2, h4, evs, E2, B2, V2, D2⟩ := args_build h2 (fun t ht => hb t (List.mem_cons_of_mem _ ht)) (fun i t v a b => hs (i + 1) t v (by simpa using a) (by simpa using b)) ι1 h3 B1
    have V1' := VRs.mono1 E2 B1.rh.fresh V1
    rcases hs 0 t v rfl rfl with hc | ⟨⟨cs, rfl⟩, hag⟩
    · rw [hc] at V1'
      have hl : ev.length = 1 := by have := V1'.1; simpa using this.symm
      obtain ⟨x, rfl⟩ : ∃ x, ev = [x] := List.length_eq_one_iff.1 hl
      have hx : x.cells.toList = [x] := by
        have : one x = true := by simpa using O1
        cases x <;> first | rfl | cases this
      obtain ⟨y, c, e1, e2, _⟩ := V1'.head
      injection e1 with e1 _
      subst e1
      refine ⟨ι2, h4, x :: evs, E1.trans E2, B2, .cons e2 V2, ⟨⟨n, ?_⟩, .inr hx⟩, D2⟩
      rw [hx]; exact D1.mono E2.nx E2.get
    · refine ⟨ι2, h4, .agg ev.toArray :: evs, E1.trans E2, B2, .cons ?_ V2, ⟨⟨n, ?_⟩, .inl hag⟩, D2⟩
      · have V1'' : VRs ι2 ev.toArray.toList cs.toList := by rw [List.toList_toArray]; exact V1'
        obtain ⟨a1, a2⟩ := VRs.arr.1 V1''
        exact .agg a1 a2
      · show DE P h4 n t (ev.toArray).toList d
        simpa using D1.mono E2.nx E2.get
theorem shaped_of {r : Reach} {base n : Nat} {t : TypeId} {v : Value} (hp : Plain P n t = true) (h : Value.okWide P W r base t v) : Shaped1 P t v := by
  cases n with
  | zero => cases hp
  | succ n =>
    unfold Plain at hp
    unfold Value.okWide at h
    split at hp
    · rename_i hu
      rw [hu] at h
      unfold Cell.okWide Cell.ok at h
      rw [hu] at h
      cases v <;> first | exact .inl rfl | exact h.elim
    · rename_i hu
      rw [hu] at h
      unfold Cell.okWide Cell.ok at h
      rw [hu] at h
      cases v <;> first | exact .inl rfl | exact h.elim
    · rename_i hu
      rw [hu] at h
      unfold Cell.okWide Cell.ok at h
      rw [hu] at h
      cases v <;> first | exact .inl rfl | exact h.elim
    · rename_i hu
      rw [hu] at h
      obtain ⟨cs, rfl, _⟩ := h
      exact .inr ⟨⟨cs, rfl⟩, by unfold aggT; rw [hu]⟩
    · rename_i hu
      rw [hu] at h
      obtain ⟨cs, rfl, _⟩ := h
      exact .inr ⟨⟨cs, rfl⟩, by unfold aggT; rw [hu]⟩
    · cases hp
theorem DE_int {h : Hp} {n : Nat} {t : TypeId} {k : IntKind} (hu : P.underlying t = some (.int k)) {cs : List Value} {d : DataW H} (hd : DE P h n t cs d) : ∃ x, cs = [.int k x] ∧ (Lit.int k x).wf = true := by
  cases n with
  | zero => exact hd.elim
  | succ n =>
    unfold DE at hd
    rw [hu] at hd
    split at hd
    all_goals first | (rename_i heq; cases heq; done) | skip
    · rename_i k' k2 x heq
      injection heq with heq; injection heq with heq
      subst heq
      exact ⟨x, hd.2⟩
    all_goals first | exact hd.elim | skip
/-- A list of whole numbers. -/
theorem DE_ints {h : Hp} {n : Nat} {t e : TypeId} (hu : P.underlying t = some (.slice e)) (he : P.underlying e = some (.int .i64)) (hc : P.cellsOf e = 1) {cs : List Value} {d : DataW H} (hd : DE P h n t cs d) :
    ∃ a m c xs, cs = [.slice a m c] ∧ IntsAt h a m xs ∧ c < unk ∧ m ≤ c := by
  cases n with
  | zero => exact hd.elim
  | succ n =>
    unfold DE at hd
    rw [hu] at hd
    split at hd
    all_goals first | (rename_i heq; cases heq; done) | skip
    · exact ⟨none, 0, 0, [], hd, SlAt.nil .., by decide, Nat.le_refl _⟩
    · rename_i e2 elems sp heq
      injection heq with heq; injection heq with heq
      subst heq
      obtain ⟨k, cap, c, e', h1, h2, h3, h4, h5, h6, h7⟩ := hd
      rw [hc] at h6
      have hx : ∀ i (hi : i < elems.length), ∃ x, (c.drop (i * 1)).take 1 = [.int .i64 x] := fun i hi => by
        have := h7 i hi
        rw [hc] at this
        obtain ⟨x, hx, _⟩ := DE_int he this
        exact ⟨x, hx⟩
      let xs : List Int := (List.range elems.length).map fun i => if hi : i < elems.length then (hx i hi).choose else 0
      have hl : xs.length = elems.length := by simp [xs]
      refine ⟨some ⟨k, 0, none⟩, elems.length, cap, xs, h1, ⟨hl.symm, .inr ⟨k, 0, c, e', .ro, rfl, h4, h5, by rw [hl]; omega, fun i hi => ?_⟩⟩, h2, h3⟩
      rw [hl] at hi
      show (c.drop (0 + i * 1)).take 1 = [.int .i64 xs[i]]
      have : xs[i]'(by rw [hl]; exact hi) = (hx i hi).choose := by simp [xs, hi]
      rw [this, Nat.zero_add]
      exact (hx i hi).choose_spec
    all_goals first | exact hd.elim | skip
/-- What was there stays, but for what is new. -/
theorem post_of_old {f : Func} {s : ChangeSpec} {apart fresh handsOn again : Bool} {W W' : World} {args : Array Value} {v : Value} {ds gs : List (DataW H)} {before pa pv : List MemPlace}
    (hW : DataW.Whole enc P f.params.toList s.vars apart W args.toList ds gs before)
    (hres : ∀ (b : Nat) (sp : Nat → Bool) (hd : Bool), DataW.TrodAll enc P W' b sp hd f.resultTypes.toList (v.resultList f.resultTypes.size) (s.fn H (ds ++ gs)).results [])
    (hargs : ∀ sp : Nat → Bool, (∀ p ∈ before, sp p.block = true) → DataW.TrodAll enc P W' 0 sp true f.params.toList args.toList (s.fn H (ds ++ gs)).args pa)
    (hvars : ∀ sp : Nat → Bool, (∀ p ∈ before, sp p.block = true) → DataW.TrodVars enc P W' sp s.vars (s.fn H (ds ++ gs)).vars pv)
    (hps : before = pa ++ pv) (hk : W.keptBut W' (· ∈ before)) (hfz : ∀ a : Addr, a.block < W.heap.size → W'.frozen? a = W.frozen? a)
    (hok : ∀ (j : Nat) (t : TypeId) (r : Value), f.resultTypes[j]? = some t → (v.resultList f.resultTypes.size)[j]? = some r → Value.okWide P W' .any 0 t r) :
    s.post enc P f apart fresh handsOn again W args v W' := by
  have hold : ∀ p ∈ before, (fun b => decide (b < W.heap.size)) p.block = true := fun p hp => by simpa using hW.lt p hp
  have hlt := hW.lt
  refine ⟨ds, gs, before, [], pa, pv, hW, hres _ _ _, hargs _ hold, hvars _ hold, World.keptBut_mono (fun p hp => ⟨hp, ?_⟩) hk, fun _ => ?_⟩
  · rw [hps, List.mem_append] at hp
    exact Or.inr hp
  · obtain ⟨_, _, _, _, _, hz, hn⟩ := hW
    refine ⟨hok, _, _, ([] ++ pa) ++ pv, ⟨[] ++ pa, pv, trodAll_append (hargs _ (fun _ _ => rfl)) (hres _ _ _), hvars _ (fun _ _ => rfl), rfl, ?_, ?_⟩, ?_⟩
    · intro b off hp
      have hp2 : MemPlace.cell b off ∈ before := by rw [hps]; simpa using hp
      rw [hfz _ (hlt _ hp2)]
      exact hz b off hp2
    · intro ha
      have := hn ha
      rw [hps] at this
      simpa using this
    · intro p hp _
      rw [hps]
      simpa using hp
/-- Arguments read again as they did. -/
theorem again {ts : List TypeId} {vs : List Value} {ds : List (DataW H)} {p : List MemPlace} {W' : World} (K : Kids P (· < P.types.size)) (full : ∀ t e, t < P.types.size → P.underlying t = some (.slice e) → 0 < P.cellsOf e) (hts : ∀ t ∈ ts, t < P.types.size)
    (hA : DataW.TrodAll enc P W 0 (fun _ => true) true ts vs ds p) (hb : Below W.heap.size W W') (hlt : ∀ q ∈ p, q.block < W.heap.size) (sp : Nat → Bool) (hs : ∀ q ∈ p, sp q.block = true) : DataW.TrodAll enc P W' 0 sp true ts vs ds p := by
  have hA' := DataW.TrodAll.respare K full hts hA hs
  clear hA hs hts
  induction ts generalizing vs ds p with
  | nil => match vs, ds, hA' with
    | [], [], h => exact h
  | cons t ts ih => match vs, ds, hA' with
    | v :: vs, d :: ds, ⟨p1, p2, ⟨n, h1⟩, h2, e⟩ =>
      subst e
      exact ⟨p1, p2, ⟨n, DataW.trod_carry n _ _ _ h1 fun q hq => hb.same (hlt q (List.mem_append_left _ hq))⟩, ih (fun q hq => hlt q (List.mem_append_right _ hq)) h2, rfl⟩
end
end Go.Ev
/- A law's arguments, as the evaluator's memory: structs, rows, and lists of lists. -/
namespace Go.Ev
open Go Go.ChangeShapes Go.WideShapes Go.ChangeAt Go.RowKit
section
variable {H : Type} {enc : TypeId × Value → H} {P : Program} {W : World}
/-- Fields one behind the other are the whole. -/
theorem lay_flat {n : Nat} : ∀ (fs : List Field) (off : Nat), layOk P off fs n = true → ∀ (cs : List Value), cs.length = n → (fs.map fun f => (cs.drop f.offset).take (P.cellsOf f.type)).flatten = cs.drop off := by
  intro fs
  induction fs with
  | nil =>
    intro off h cs hc
    have : off = n := Nat.eq_of_beq_eq_true h
    rw [List.drop_of_length_le (by omega)]; rfl
  | cons f fs ih =>
    intro off h cs hc
    simp only [layOk, Bool.and_eq_true] at h
    have h1 : f.offset = off := Nat.eq_of_beq_eq_true h.1
    rw [List.map_cons, List.flatten_cons, ih _ h.2 cs hc, h1, ← List.drop_drop, List.take_append_drop]
theorem lay_part {n : Nat} : ∀ (fs : List Field) (off : Nat), layOk P off fs n = true → ∀ (evs : List (List Value)), evs.length = fs.length → (∀ (i : Nat) f ev, fs[i]? = some f → evs[i]? = some ev → ev.length = P.cellsOf f.type) →
    ∀ (i : Nat) f ev, fs[i]? = some f → evs[i]? = some ev → off ≤ f.offset ∧ (evs.flatten.drop (f.offset - off)).take (P.cellsOf f.type) = ev := by
  intro fs
  induction fs with
  | nil => intro off _ evs _ _ i f ev hf; simp at hf
  | cons g fs ih =>
    intro off h evs hl hlen i f ev hf he
    simp only [layOk, Bool.and_eq_true] at h
    have h1 : g.offset = off := Nat.eq_of_beq_eq_true h.1
    rcases evs with _ | ⟨e0, evs⟩
    · simp at hl
    have hl0 : e0.length = P.cellsOf g.type := hlen 0 g e0 rfl rfl
    cases i with
    | zero =>
      simp at hf he
      subst hf he
      refine ⟨by omega, ?_⟩
      rw [h1, Nat.sub_self, List.drop_zero, List.flatten_cons, ← hl0, List.take_left]
    | succ i =>
      obtain ⟨g1, g2⟩ := ih _ h.2 evs (by simpa using hl) (fun i f ev a b => hlen (i + 1) f ev (by simpa using a) (by simpa using b)) i f ev (by simpa using hf) (by simpa using he)
      refine ⟨by omega, ?_⟩
      rw [List.flatten_cons, List.drop_append, List.drop_of_length_le (by omega), List.nil_append, show f.offset - off - e0.length = f.offset - (off + P.cellsOf g.type) by omega]
      exact g2
theorem lay_fit {n : Nat} : ∀ (fs : List Field) (off : Nat), layOk P off fs n = true → off ≤ n ∧ ∀ f ∈ fs, f.offset + P.cellsOf f.type ≤ n := by
  intro fs
  induction fs with
  | nil => intro off h; exact ⟨Nat.le_of_eq (Nat.eq_of_beq_eq_true h), fun f hf => by cases hf⟩
  | cons g fs ih =>
    intro off h
    simp only [layOk, Bool.and_eq_true] at h
    have h1 : g.offset = off := Nat.eq_of_beq_eq_true h.1
    obtain ⟨a, b⟩ := ih _ h.2
    refine ⟨by omega, fun f hf => ?_⟩
    rcases List.mem_cons.1 hf with rfl | hf
    · omega
    · exact b f hf
theorem build_struct {n : Nat} {fs : Array Field} {t : TypeId} (he : ∀ f ∈ fs.toList, Builds H enc P W n f.type) (hlay : layOk P 0 fs.toList (P.cellsOf t) = true) (hu : P.underlying t = some (.struct fs)) : Builds H enc P W (n + 1) t := by
  intro cs d ps h ι hp B
  have h : (if cs.length = P.cellsOf t then (fs.toList.mapM fun f => DataW.trod enc P W 0 (fun _ => true) true n f.type ((cs.drop f.offset).take (P.cellsOf f.type))).map fun xs => (DataW.agg (xs.map (·.1)), xs.flatMap (·.2)) else none) = some (d, ps) := by
    unfold DataW.trod at h
    rw [hu] at h
    exact h
  split at h
  · rename_i hc
    obtain ⟨xs, h1, h2⟩ := Option.map_eq_some_iff.1 h
    injection h2 with h2 _
    subst h2
    have l1 := Lib.mapM_length h1
    let l : List (TypeId × List Value × DataW H) := (fs.toList.zip (xs.map (·.1))).map fun p => (p.1.type, (cs.drop p.1.offset).take (P.cellsOf p.1.type), p.2)
    have hll : l.length = fs.toList.length := by simp [l, l1]
    have lget : ∀ i (hi : i < l.length), ∃ f x, fs.toList[i]? = some f ∧ xs[i]? = some x ∧ l[i] = (f.type, (cs.drop f.offset).take (P.cellsOf f.type), x.1) ∧ DataW.trod enc P W 0 (fun _ => true) true n f.type ((cs.drop f.offset).take (P.cellsOf f.type)) = some x := by
      intro i hi
      have hi1 : i < fs.toList.length := by omega
      have hi2 : i < xs.length := by omega
      obtain ⟨b, e1, e2⟩ := Lib.mapM_at h1 i _ (List.getElem?_eq_getElem hi1)
      rw [List.getElem?_eq_getElem hi2] at e1
      obtain rfl := Option.some.inj e1
      exact ⟨_, _, List.getElem?_eq_getElem hi1, List.getElem?_eq_getElem hi2, by simp [l], e2⟩
    obtain ⟨ι1, h3, evs, E1, B1, L1, V1, O1, D1⟩ := build_list l (fun p hpm => by
      obtain ⟨i, hi, rfl⟩ := List.getElem_of_mem hpm
      obtain ⟨f, x, a1, a2, a3, a4⟩ := lget i hi
      rw [a3]
      exact ⟨he f (List.mem_of_getElem? a1), _, a4⟩) ι hp B
    have hcells : l.map (·.2.1) = fs.toList.map fun f => (cs.drop f.offset).take (P.cellsOf f.type) := by
      refine List.ext_getElem (by simp [hll]) fun i hi hi' => ?_
      have hi3 : i < l.length := by simpa using hi
      obtain ⟨f, x, a1, a2, a3, a4⟩ := lget i hi3
      have hi4 : i < fs.toList.length := by omega
      have hf : fs.toList[i] = f := by rw [List.getElem?_eq_getElem hi4] at a1; exact Option.some.inj a1
      simp only [List.getElem_map]
      rw [a3, hf]
    rw [hcells, lay_flat fs.toList 0 hlay cs hc, List.drop_zero] at V1
    refine ⟨ι1, h3, evs.flatten, E1, B1, V1, O1, ?_⟩
    unfold DE
    rw [hu]
    have hlen : ∀ (i : Nat) f ev, fs.toList[i]? = some f → evs[i]? = some ev → ev.length = P.cellsOf f.type := by
      intro i f ev hf hev
      have hi : i < l.length := by have := (List.getElem?_eq_some_iff.1 hf).1; omega
      obtain ⟨ev', e1, e2, _⟩ := D1 i hi
      rw [hev] at e1
      obtain rfl := Option.some.inj e1
      obtain ⟨f', x, a1, a2, a3, a4⟩ := lget i hi
      rw [hf] at a1
      obtain rfl := Option.some.inj a1
      rw [← e2.1, a3]
      have hfit := (lay_fit fs.toList 0 hlay).2 f (List.mem_of_getElem? hf)
      show ((cs.drop f.offset).take (P.cellsOf f.type)).length = _
      rw [List.length_take, List.length_drop]; omega
    refine ⟨by rw [← V1.1]; exact hc, by simp [l1], fun i hi f hf => ?_⟩
    have hi2 : i < l.length := by simp at hi; omega
    obtain ⟨ev, e1, e2, e3⟩ := D1 i hi2
    obtain ⟨f', x, a1, a2, a3, a4⟩ := lget i hi2
    have hf' : fs.toList[i]? = some f := by rw [Array.getElem?_toList]; exact hf
    rw [hf'] at a1
    obtain rfl := Option.some.inj a1
    have := (lay_part fs.toList 0 hlay evs (by omega) hlen i f ev hf' e1).2
    rw [Nat.sub_zero] at this
    rw [this]
    rw [a3] at e3
    have hx : (xs.map (·.1))[i]'(by simpa using hi) = x.1 := by
      have hi3 : i < xs.length := by simpa using hi
      rw [List.getElem?_eq_getElem hi3] at a2
      obtain rfl := Option.some.inj a2
      simp
    rw [hx]; exact e3
  · cases h
/-- A list of lists of whole numbers. -/
theorem DE_intss {h : Hp} {n : Nat} {t e i : TypeId} (hu : P.underlying t = some (.slice e)) (he : P.underlying e = some (.slice i)) (hi : P.underlying i = some (.int .i64)) (hc1 : P.cellsOf i = 1) (hc : P.cellsOf e = 1) {cs : List Value} {d : DataW H} (hd : DE P h n t cs d) :
    ∃ a m c xs, cs = [.slice a m c] ∧ IntssAt h a m xs ∧ c < unk ∧ m ≤ c := by
  cases n with
  | zero => exact hd.elim
  | succ n =>
    unfold DE at hd
    rw [hu] at hd
    split at hd
    all_goals first | (rename_i heq; cases heq; done) | skip
    · exact ⟨none, 0, 0, [], hd, SlAt.nil .., by decide, Nat.le_refl _⟩
    · rename_i e2 elems sp heq
      injection heq with heq; injection heq with heq
      subst heq
      obtain ⟨k, cap, c, e', h1, h2, h3, h4, h5, h6, h7⟩ := hd
      rw [hc] at h6
      have hx : ∀ i (hi : i < elems.length), ∃ x, EInts h x ((c.drop (i * 1)).take 1) := fun i hi' => by
        have := h7 i hi'
        rw [hc] at this
        obtain ⟨a, m, c, xs, e1, e2, _⟩ := DE_ints he hi hc1 this
        exact ⟨xs, a, m, c, e1, e2⟩
      let xs : List (List Int) := (List.range elems.length).map fun i => if hi : i < elems.length then (hx i hi).choose else []
      have hl : xs.length = elems.length := by simp [xs]
      refine ⟨some ⟨k, 0, none⟩, elems.length, cap, xs, h1, ⟨hl.symm, .inr ⟨k, 0, c, e', .ro, rfl, h4, h5, by rw [hl]; omega, fun i hi => ?_⟩⟩, h2, h3⟩
      rw [hl] at hi
      show EInts h xs[i] ((c.drop (0 + i * 1)).take 1)
      have : xs[i]'(by rw [hl]; exact hi) = (hx i hi).choose := by simp [xs, hi]
      rw [this, Nat.zero_add]
      exact (hx i hi).choose_spec
    all_goals first | exact hd.elim | skip
/-- The parts of a struct. -/
theorem DE_struct {h : Hp} {n : Nat} {t : TypeId} {fs : Array Field} (hu : P.underlying t = some (.struct fs)) {cs : List Value} {d : DataW H} (hd : DE P h (n + 1) t cs d) :
    cs.length = P.cellsOf t ∧ ∀ (i : Nat) (f : Field), fs[i]? = some f → ∃ d' : DataW H, DE P h n f.type ((cs.drop f.offset).take (P.cellsOf f.type)) d' := by
  unfold DE at hd
  rw [hu] at hd
  split at hd
  all_goals first | (rename_i heq; cases heq; done) | skip
  · rename_i fs' parts heq
    injection heq with heq; injection heq with heq
    subst heq
    obtain ⟨h1, h2, h3⟩ := hd
    refine ⟨h1, fun i f hf => ?_⟩
    have hi : i < parts.length := by rw [h2]; exact (Array.getElem?_eq_some_iff.1 hf).1
    exact ⟨_, h3 i hi f hf⟩
  all_goals first | exact hd.elim | skip
/-- A value of two cells is a struct. -/
theorem agg_of_two {v x y : Value} (h : v.cells.toList = [x, y]) : v = .agg #[x, y] := by
  cases v with
  | agg cs =>
    have h : cs.toList = [x, y] := h
    obtain ⟨l⟩ := cs
    have h : l = [x, y] := h
    rw [h]
  | _ => cases h
theorem two_of {cs : List Value} {x y : Value} (hl : cs.length = 2) (h1 : (cs.drop 0).take 1 = [x]) (h2 : (cs.drop 1).take 1 = [y]) : cs = [x, y] := by
  rcases cs with _ | ⟨a, _ | ⟨b, _ | ⟨c, r⟩⟩⟩
  · cases hl
  · cases hl
  · simp at h1 h2; rw [h1, h2]
  · simp at hl
end
end Go.Ev
/- A law's arguments, as the evaluator's memory: rows. -/
namespace Go.Ev
open Go Go.ChangeShapes Go.WideShapes Go.ChangeAt Go.RowKit
section
variable {H : Type} {enc : TypeId × Value → H} {P : Program} {W : World}
/-- Cells are whole numbers of a kind, each in its range. -/
def AllInt (k : IntKind) (cs : List Value) : Prop := ∀ v ∈ cs, ∃ x, v = .int k x ∧ (Lit.int k x).wf = true
theorem AllInt.list {k : IntKind} : ∀ {cs : List Value}, AllInt k cs → ∃ xs : List Int, cs = xs.map (Value.int k) ∧ ∀ x ∈ xs, (Lit.int k x).wf = true := by
  intro cs
  induction cs with
  | nil => intro _; exact ⟨[], rfl, fun x h => by cases h⟩
  | cons v cs ih =>
    intro h
    obtain ⟨x, rfl, hx⟩ := h v (List.mem_cons_self ..)
    obtain ⟨xs, rfl, hxs⟩ := ih fun w hw => h w (List.mem_cons_of_mem _ hw)
    exact ⟨x :: xs, rfl, fun y hy => by
      rcases List.mem_cons.1 hy with rfl | hy
      · exact hx
      · exact hxs y hy⟩
end
end Go.Ev
namespace Go.Proofs.YtfgfhplgnfbaaaaDoor
open Go.Ev
theorem works_ev : saysTrue (evCall Tryd.prog 1000 100 27 [] h0) = true := by kernel_rfl
end Go.Proofs.YtfgfhplgnfbaaaaDoor
/- Two writes into one row are one append and one write. -/
namespace Go.Ev
open Go
theorem sc_get {w : World} {b o : Nat} {vs : List Value} {c : Array Value} {e : TypeId} {fr : Nat × Nat} (hb : w.heap[b]? = some (.cells c e fr)) (hl : o + vs.length ≤ c.size) :
    ∃ c2, (w.setCells b o vs).heap[b]? = some (.cells c2 e fr) ∧ c2.size = c.size ∧ ∀ i, c2[i]? = if o ≤ i ∧ i < o + vs.length then vs[i - o]? else c[i]? := by
  obtain ⟨_, _, _, _, _, s6⟩ := setCells_facts b vs o w
  obtain ⟨c2, h1, h2, h3⟩ := s6 _ _ _ hb
  exact ⟨c2, h1, h2, h3 hl⟩
/-- In place: what stands from the place on is moved up, then the value is laid. -/
theorem ins_shift {w : World} {b p i n : Nat} {x : Value} {cs : List Value} {c : Array Value} {e : TypeId} {fr : Nat × Nat} (hb : w.heap[b]? = some (.cells c e fr)) (hn : cs.length = n) (hi : i ≤ n) (hl : p + n + 1 ≤ c.size) :
    ((w.drew.setCells b (p + (i + 1)) (cs.drop i)).setCells b (p + i) [x]).heap = ((w.setCells b (p + n) [x]).setCells b (p + i) (x :: cs.drop i)).heap := by
  have hdl : (cs.drop i).length = n - i := by rw [List.length_drop, hn]
  have hbd : w.drew.heap[b]? = some (.cells c e fr) := hb
  obtain ⟨c1, a1, a2, a3⟩ := sc_get (o := p + (i + 1)) (vs := cs.drop i) hbd (by omega)
  obtain ⟨c2, b1, b2, b3⟩ := sc_get (o := p + i) (vs := [x]) a1 (by rw [a2]; show p + i + 1 ≤ _; omega)
  obtain ⟨c3, d1, d2, d3⟩ := sc_get (o := p + n) (vs := [x]) hb (by show p + n + 1 ≤ _; omega)
  obtain ⟨c4, e1, e2, e3⟩ := sc_get (o := p + i) (vs := x :: cs.drop i) d1 (by rw [d2, List.length_cons]; omega)
  refine Array.ext_getElem? fun q => ?_
  by_cases hq : q = b
  · subst hq
    rw [b1, e1]
    have : c2 = c4 := by
      refine Array.ext_getElem? fun j => ?_
      rw [b3, e3, a3, d3]
      simp only [List.length_cons, List.length_nil, hdl]
      by_cases h1 : j < p + i
      · rw [if_neg (by omega), if_neg (by omega), if_neg (by omega), if_neg (by omega)]
      · by_cases h2 : j = p + i
        · subst h2
          rw [if_pos (by omega), if_pos (by omega), Nat.sub_self]; rfl
        · by_cases h3 : j < p + n + 1
          · rw [if_neg (by omega), if_pos (by omega), if_pos (by omega)]
            have : j - (p + i) = (j - (p + (i + 1))) + 1 := by omega
            rw [this, List.getElem?_cons_succ]
          · rw [if_neg (by omega), if_neg (by omega), if_neg (by omega), if_neg (by omega)]
    rw [this]
  · obtain ⟨_, _, _, _, s5, _⟩ := setCells_facts b [x] (p + i) (w.drew.setCells b (p + (i + 1)) (cs.drop i))
    obtain ⟨_, _, _, _, t5, _⟩ := setCells_facts b (cs.drop i) (p + (i + 1)) w.drew
    obtain ⟨_, _, _, _, u5, _⟩ := setCells_facts b (x :: cs.drop i) (p + i) (w.setCells b (p + n) [x])
    obtain ⟨_, _, _, _, v5, _⟩ := setCells_facts b [x] (p + n) w
    rw [s5 q hq, t5 q hq, u5 q hq, v5 q hq]; rfl
/-- At the end: written twice is written once. -/
theorem ins_end {w : World} {b p : Nat} {x : Value} {c : Array Value} {e : TypeId} {fr : Nat × Nat} (hb : w.heap[b]? = some (.cells c e fr)) (hl : p + 1 ≤ c.size) :
    (w.setCells b p [x]).heap = ((w.setCells b p [x]).setCells b p [x]).heap := by
  obtain ⟨c3, d1, d2, d3⟩ := sc_get (o := p) (vs := [x]) hb hl
  obtain ⟨c4, e1, _, e3⟩ := sc_get (o := p) (vs := [x]) d1 (by rw [d2]; exact hl)
  refine Array.ext_getElem? fun q => ?_
  by_cases hq : q = b
  · subst hq
    rw [d1, e1]
    have : c3 = c4 := by
      refine Array.ext_getElem? fun j => ?_
      rw [e3, d3]
      split
      · rfl
      · rfl
    rw [this]
  · obtain ⟨_, _, _, _, u5, _⟩ := setCells_facts b [x] p (w.setCells b p [x])
    rw [u5 q hq]
/-- A new row. -/
theorem ins_grow {w : World} {i n : Nat} {x : Value} {cs : List Value} {Z1 Z2 : Array Value} {e : TypeId} (hn : cs.length = n) (hi : i ≤ n) (hz : Z1.size = n + 1 - i) :
    (((w.alloc (.cells ((cs.take i).toArray ++ Z1 ++ Z2) e)).drew.setCells w.heap.size i [x]).drew.setCells w.heap.size (i + 1) (cs.drop i)).heap = ((w.drew.alloc (.cells ((cs ++ [x]).toArray ++ Z2) e)).setCells w.heap.size i (x :: cs.drop i)).heap := by
  have hdl : (cs.drop i).length = n - i := by rw [List.length_drop, hn]
  have htl : (cs.take i).length = i := by rw [List.length_take, hn]; omega
  have hA : (w.alloc (.cells ((cs.take i).toArray ++ Z1 ++ Z2) e)).drew.heap[w.heap.size]? = some (.cells ((cs.take i).toArray ++ Z1 ++ Z2) e (0, 0)) := by
    show (w.alloc _).heap[w.heap.size]? = _
    rw [alloc_get, if_pos rfl]
  have hB : (w.drew.alloc (.cells ((cs ++ [x]).toArray ++ Z2) e)).heap[w.heap.size]? = some (.cells ((cs ++ [x]).toArray ++ Z2) e (0, 0)) := by
    rw [alloc_get]; exact if_pos rfl
  have sA : ((cs.take i).toArray ++ Z1 ++ Z2).size = n + 1 + Z2.size := by simp only [Array.size_append, List.size_toArray, htl, hz]; omega
  have sB : ((cs ++ [x]).toArray ++ Z2).size = n + 1 + Z2.size := by simp only [Array.size_append, List.size_toArray, List.length_append, hn, List.length_cons, List.length_nil]
  obtain ⟨c1, a1, a2, a3⟩ := sc_get (o := i) (vs := [x]) hA (by rw [sA]; show i + 1 ≤ _; omega)
  have a1 : ((w.alloc (.cells ((cs.take i).toArray ++ Z1 ++ Z2) e)).drew.setCells w.heap.size i [x]).drew.heap[w.heap.size]? = some (.cells c1 e (0, 0)) := a1
  obtain ⟨c2, b1, b2, b3⟩ := sc_get (o := i + 1) (vs := cs.drop i) a1 (by rw [a2, sA]; omega)
  obtain ⟨c4, e1, e2, e3⟩ := sc_get (o := i) (vs := x :: cs.drop i) hB (by rw [sB, List.length_cons]; omega)
  refine Array.ext_getElem? fun q => ?_
  by_cases hq : q = w.heap.size
  · subst hq
    rw [b1, e1]
    have : c2 = c4 := by
      refine Array.ext_getElem? fun j => ?_
      rw [b3, e3, a3]
      simp only [List.length_cons, List.length_nil, hdl]
      by_cases h1 : j < i
      · rw [if_neg (by omega), if_neg (by omega), if_neg (by omega)]
        rw [Array.append_assoc, Array.getElem?_append, if_pos (by simp only [List.size_toArray, htl]; exact h1), Array.getElem?_append, if_pos (by simp only [List.size_toArray, List.length_append, hn]; omega)]
        simp only [List.getElem?_toArray]
        rw [List.getElem?_take, if_pos h1, List.getElem?_append_left (by omega)]
      · by_cases h2 : j = i
        · subst h2
          rw [if_neg (by omega), if_pos (by omega), if_pos (by omega), Nat.sub_self]; rfl
        · by_cases h3 : j < n + 1
          · rw [if_pos (by omega), if_pos (by omega)]
            have : j - i = (j - (i + 1)) + 1 := by omega
            rw [this, List.getElem?_cons_succ]
          · rw [if_neg (by omega), if_neg (by omega), if_neg (by omega)]
            rw [Array.getElem?_append, if_neg (by simp only [Array.size_append, List.size_toArray, htl, hz]; omega), Array.getElem?_append, if_neg (by simp only [List.size_toArray, List.length_append, hn, List.length_cons, List.length_nil]; omega)]
            simp only [Array.size_append, List.size_toArray, htl, hz, List.length_append, hn, List.length_cons, List.length_nil]
            congr 1; omega
    rw [this]
  · obtain ⟨_, _, _, _, s5, _⟩ := setCells_facts w.heap.size (cs.drop i) (i + 1) ((w.alloc (.cells ((cs.take i).toArray ++ Z1 ++ Z2) e)).drew.setCells w.heap.size i [x]).drew
    obtain ⟨_, _, _, _, t5, _⟩ := setCells_facts w.heap.size [x] i (w.alloc (.cells ((cs.take i).toArray ++ Z1 ++ Z2) e)).drew
    obtain ⟨_, _, _, _, u5, _⟩ := setCells_facts w.heap.size (x :: cs.drop i) i (w.drew.alloc (.cells ((cs ++ [x]).toArray ++ Z2) e))
    rw [s5 q hq, u5 q hq]
    show ((w.alloc _).drew.setCells w.heap.size i [x]).heap[q]? = _
    rw [t5 q hq]
    show (w.alloc _).heap[q]? = _
    rw [alloc_get, if_neg hq, alloc_get]
    exact (if_neg hq).symm
end Go.Ev
/- slices.Insert of one whole number, answered beforehand: an append and a write. -/
namespace Go.Ev
open Go
/-- One number is put into a list that grows, at a place: what the evaluator's memory is behind it. -/
noncomputable def insV (h : Hp) (args : List Value) : Option (Value × Hp) := match args with
  | [s, .int .i64 (.ofNat i), .slice (some ⟨v, 0, none⟩) 1 1] => match h.get v with
    | some (.cells [x] 3 .fix) => bif flat x then (match s with
      | .slice none 0 0 => bif Nat.beq i 0 then (appSome h 3 8 1 s [x] 1).bind fun r => (writeAt r.2 h.nx i [x]).map fun h' => (r.1, h') else none
      | .slice (some ⟨o, 0, none⟩) n c => match h.get o with
        | some (.cells old 3 .grow) => bif Nat.beq c unk && Nat.beq n old.length && Nat.ble i n && !(Nat.beq o v) then
            (appSome h 3 8 1 s [x] 1).bind fun r => (writeAt r.2 h.nx i (x :: old.drop i)).map fun h' => (r.1, h')
          else none
        | _ => none
      | _ => none) else none
    | _ => none
  | _ => none
/-- A list that grows, and is full, is appended to at a new number. -/
theorem ins_app {h : Hp} {o : Nat} {old : List Value} {x : Value} (hg : h.get o = some (.cells old 3 .grow)) : appSome h 3 8 1 (.slice (some ⟨o, 0, none⟩) old.length unk) [x] 1 = (appNew h 3 8 old [x] (old.length + 1)).bind fun r => (r.2.put o none).map fun h' => (r.1, h') := by
  have e1 : Nat.ble (0 + (old.length + 1) * 1) old.length = false := by rw [Bool.eq_false_iff]; intro hh; have := Nat.le_of_ble_eq_true hh; omega
  have e2 : Nat.beq (0 + old.length * 1) old.length = true := by rw [Nat.zero_add, Nat.mul_one]; exact Nat.beq_refl _
  show (match h.get o with
    | some (.cells c e' m) =>
      bif Nat.beq unk unk then
        bif Nat.beq 3 e' && isGrow m then
          bif Nat.ble (0 + (old.length + 1) * 1) c.length then (writeAt h o (0 + old.length * 1) [x]).map fun h' => (Value.slice (some ⟨o, 0, none⟩) (old.length + 1) unk, h')
          else bif Nat.beq (0 + old.length * 1) c.length then (appNew h 3 8 (c.drop 0) [x] (old.length + 1)).bind fun r => (r.2.put o none).map fun h' => (r.1, h')
          else none
        else none
      else bif Nat.ble (old.length + 1) unk then (writeAt h o (0 + old.length * 1) [x]).map fun h' => (Value.slice (some ⟨o, 0, none⟩) (old.length + 1) unk, h')
      else (readAt h o 0 (old.length * 1)).bind fun old' => appNew h 3 8 old' [x] (old.length + 1)
    | _ => none) = _
  rw [hg]
  simp only [Nat.beq_refl, cond_true, e1, cond_false, e2, List.drop_zero, isGrow, Bool.and_self]
end Go.Ev
/- The oracle for slices.Insert is sound. -/
namespace Go.Ev
open Go Go.Shelf Go.Proofs
/-- A world with the same memory, reached with other draws. -/
theorem Went.world {P : Program} {h h' : Hp} {ι ι' : Inj} {w wB wC : World} (g : Went P h ι w h' ι' wB) (hh : wC.heap = wB.heap) (h1 : wC.os = wB.os) (h2 : wC.tape = wB.tape) (h3 : wC.output = wB.output) : Went P h ι w h' ι' wC :=
  { g with
    rh := g.rh.world hh
    fr := ⟨h2.trans g.fr.tape, h1.trans g.fr.os, h3.trans g.fr.output, by rw [hh]; exact g.fr.size, fun b hb hall => by rw [hh]; exact g.fr.rest b hb hall⟩ }
/-- What is written is there already. -/
theorem ins_same {w : World} {b p : Nat} {x : Value} {c : Array Value} {e : TypeId} {fr : Nat × Nat} (hb : w.heap[b]? = some (.cells c e fr)) (hx : c[p]? = some x) : (w.setCells b p [x]).heap = w.heap := by
  have hl := (Array.getElem?_eq_some_iff.1 hx).1
  obtain ⟨c3, d1, _, d3⟩ := sc_get (o := p) (vs := [x]) hb (by show p + 1 ≤ _; omega)
  refine Array.ext_getElem? fun q => ?_
  by_cases hq : q = b
  · subst hq
    rw [d1, hb]
    have : c3 = c := by
      refine Array.ext_getElem? fun j => ?_
      rw [d3]
      split
      · rename_i h
        have : j = p := by simp only [List.length_cons, List.length_nil] at h; omega
        rw [this, Nat.sub_self, hx]; rfl
      · rfl
    rw [this]
  · obtain ⟨_, _, _, _, u5, _⟩ := setCells_facts b [x] p w
    exact u5 q hq
theorem slu_inv {ι : Inj} {o n b off c : Nat} (h : VR ι (.slice (some ⟨o, 0, none⟩) (n + 1) unk) (.slice (some ⟨b, off, none⟩) (n + 1) c)) : ∃ vw, ι o = some vw ∧ vw.blk = b ∧ vw.base + 0 = off := by
  cases h with
  | flat hf => simp [flat, flatN] at hf
  | slc _ hne => exact absurd rfl hne
  | slu hvw1 _ _ => exact ⟨_, hvw1, rfl, rfl⟩
/-- The word that is to be shown. -/
def InsQ (P : Program) (ι : Inj) (h : Hp) (w : World) (h' : Hp) (rv : Value) : Ending → World → Prop := fun e w' => ∃ ι' v', e = .returned v' ∧ Went P h ι w h' ι' w' ∧ VR ι' rv v'
section
variable {P : Program} {ρ : Ren} (L : Lays2.n21 P ρ) (t3 : ρ.t 3 = 3) {T : TypeId} (t22 : ρ.t 22 = T)
include L t3 t22
theorem ins_ty : ∃ i0, P.info? 3 = some i0 ∧ i0.zero = some (.int .i64 0) ∧ i0.size = 1 ∧ i0.bytes = 8 ∧ P.underlying T = some (.slice 3) := by
  have _ := t22
  obtain ⟨i0, a, b, c, d⟩ := info_parts L.i3
  rw [t3] at a
  have h := L.t22
  rw [t22, t3] at h
  exact ⟨i0, a, b, c, d, h⟩
/-- No room: a new row, whatever stood there. -/
theorem ins_new {ι : Inj} {h h1 h' : Hp} {w : World} (R : RH P ι h w) {s : Value} {base : Option Addr} {n c0 v i : Nat} {old old' : List Value} {x rv : Value} (hn : old.length = n) (hi : i ≤ n) (hfl : flat x = true) (hone : one x = true)
    (hnil : base = none → n = 0 ∧ c0 = 0) (hnc : n ≤ c0) (hroom : c0 < n + 1) (hbig : (n + 1) * 8 ≤ 140737488355328)
    (hold : VRs ι old old') (honeO : ∀ u ∈ old', u.oneCell' = true) (hcs : ∀ a, base = some a → ∀ (j : Nat) u, old'[j]? = some u → w.cell? (a.add j) = some u) (hpl : i < n → ∃ b off, base = some ⟨b, off, none⟩)
    (hv : h.get v = some (.cells [x] 3 .fix)) {x' : Value} (hx : VR ι (.slice (some ⟨v, 0, none⟩) 1 1) x')
    (hs : VR ι s (.slice base n c0)) (happ : appSome h 3 8 1 s [x] 1 = some (rv, h1)) (hrv : rv = .slice (some ⟨h.nx, 0, none⟩) (n + 1) unk) (hw : writeAt h1 h.nx i (x :: old.drop i) = some h') :
    Calls P (ρ.f 21) #[.slice base n c0, .int .i64 (i : Nat), x'] w (InsQ P ι h w h' rv) := by
  obtain ⟨i0, hi0, hz0, hsz, hby, ht⟩ := ins_ty L t3 t22
  have hol : old'.length = n := by rw [hold.1, hn]
  obtain ⟨_, vwv, hvwv, _, cv, ev, frv, hbv, hcv, hfrv, _⟩ := R.live v _ hv
  obtain rfl : frv = (0, 0) := hfrv (by decide)
  have ex : x' = .slice (some ⟨vwv.blk, vwv.base + 0, none⟩) 1 1 := by
    cases hx with
    | flat hf => simp [flat, flatN] at hf
    | slc hvw _ => rw [hvw] at hvwv; rw [Option.some.inj hvwv]
  subst ex
  have hvx : ∀ (j : Nat) u, [x][j]? = some u → w.cell? ⟨vwv.blk, vwv.base + 0 + j, none⟩ = some u := fun j u hj => by
    obtain ⟨y, hy, hvy⟩ := hcv j u hj
    have hj0 : j = 0 := by have := (List.getElem?_eq_some_iff.1 hj).1; simpa using this
    subst hj0
    injection hj with hj
    subst hj
    obtain rfl := VR.of_flat hfl hvy
    simpa [World.cell?, hbv] using hy
  have h1v : ∀ u ∈ [x], u.oneCell' = true := fun u hu => by rw [List.mem_singleton.1 hu, one_eq]; exact hone
  have S : Src P i0.size T (.slice (some ⟨vwv.blk, vwv.base + 0, none⟩) 1 1) 1 [x] w := by
    rw [hsz]
    exact Src.ofSlice w ht ⟨vwv.blk, vwv.base + 0, none⟩ 1 1 [x] rfl (fun j u hj => by rw [Addr.add_lit]; exact hvx j u hj) h1v
  have hA := AppSrc.ofSrc ht hi0 hz0 S
  have happ' : appSome h 3 i0.bytes i0.size s [x] 1 = some (rv, h1) := by rw [hsz, hby]; exact happ
  obtain ⟨ι1, v1, w1, hrun, W1, V1⟩ := appSome_sound R ht hi0 hz0 (by rw [hsz]; decide) (by rw [hsz]; rfl) (n := 1) (by decide) hs (.of_flat (by rw [List.all_cons, hfl]; rfl)) (by rw [List.all_cons, hone]; rfl) hA happ' 22
  have hfc : (Builtin.firstCells i0.size n (.slice base n c0)).run P w.drew = .ok old'.toArray w.drew := by
    rw [hsz]
    cases base with
    | none =>
      obtain ⟨rfl, rfl⟩ := hnil rfl
      rw [List.length_eq_zero_iff.1 hol]
      exact run_firstCells_none w.drew 1 0 0 0
    | some a => exact run_firstCells_some w.drew 1 n a n c0 old' (by omega) (fun j u hj => hcs a rfl j u hj)
  have hgr := hA.grow Nat.one_pos 22 base n c0 old' hfc hroom (by omega) (by rw [hby]; exact growslice_fits hroom hbig)
  rw [hgr] at hrun
  injection hrun with e7 e8
  subst e7 e8
  subst hrv
  generalize hG : grownCap w (n + 1) c0 3 = G at V1 W1 hgr
  have hblk : (w.drew.alloc (.cells ((old' ++ [x]).toArray ++ Builtin.zeroCells (Value.int .i64 0).cells (G - (n + 1))) 3)).heap[w.heap.size]? = some (.cells ((old' ++ [x]).toArray ++ Builtin.zeroCells (Value.int .i64 0).cells (G - (n + 1))) 3 (0, 0)) := by
    rw [alloc_get]; exact if_pos rfl
  obtain ⟨vw1, hvw1, eb, eo⟩ := slu_inv V1
  have hcs' : VRs ι1 (x :: old.drop i) (x :: old'.drop i) := .cons (.flat hfl) ((hold.drop i).mono (W1.mono R))
  have W2 := Went.write W1.rh hw hvw1 hcs'
  rw [eb, show vw1.base + i = i by omega] at W2
  have W := W1.trans W2
  have h63 : G ≤ 9223372036854775807 := by
    have := grownCap_le_maxLen w (n + 1) c0 3 (by unfold maxLen; omega)
    rw [hG] at this
    unfold maxLen at this
    omega
  have fin : ∀ wC : World, wC.heap = ((w.drew.alloc (.cells ((old' ++ [x]).toArray ++ Builtin.zeroCells (Value.int .i64 0).cells (G - (n + 1))) 3)).setCells w.heap.size i (x :: old'.drop i)).heap → wC.os = w.os → wC.tape = w.tape → wC.output = w.output →
      InsQ P ι h w h' (.slice (some ⟨h.nx, 0, none⟩) (n + 1) unk) (.returned (.slice (some ⟨w.heap.size, 0, none⟩) (n + 1) G)) wC := fun wC q1 q2 q3 q4 => by
    obtain ⟨_, s2, s3, s4, _, _⟩ := setCells_facts w.heap.size (x :: old'.drop i) i (w.drew.alloc (.cells ((old' ++ [x]).toArray ++ Builtin.zeroCells (Value.int .i64 0).cells (G - (n + 1))) 3))
    exact ⟨ι1, _, rfl, W.world q1 (q2.trans s3.symm) (q3.trans s2.symm) (q4.trans s4.symm), V1⟩
  by_cases hin : i < n
  · obtain ⟨b, off, rfl⟩ := hpl hin
    refine (Any2.slices_Insert_int_grow L b off n c0 i vwv.blk (vwv.base + 0) 1 1 old' [x] w hin Nat.one_pos hnc hroom hbig hol rfl (fun j u hj => by have := hcs _ rfl j u hj; rwa [Addr.add_lit] at this) hvx honeO h1v).mono fun e w' ⟨he, hw'⟩ => ?_
    rw [t3, hG] at he hw'
    subst he hw'
    have hh := ins_grow (w := w) (i := i) (n := n) (x := x) (cs := old') (Z1 := Builtin.zeroCells (Value.int .i64 0).cells (n + 1 - i)) (Z2 := Builtin.zeroCells (Value.int .i64 0).cells (G - (n + 1))) (e := 3) hol hi (by simp [Builtin.zeroCells, Value.cells])
    have f1 := setCells_facts w.heap.size [x] i (w.alloc (.cells ((old'.take i).toArray ++ Builtin.zeroCells (Value.int .i64 0).cells (n + 1 - i) ++ Builtin.zeroCells (Value.int .i64 0).cells (G - (n + 1))) 3)).drew
    have f2 := setCells_facts w.heap.size (old'.drop i) (i + 1) ((w.alloc (.cells ((old'.take i).toArray ++ Builtin.zeroCells (Value.int .i64 0).cells (n + 1 - i) ++ Builtin.zeroCells (Value.int .i64 0).cells (G - (n + 1))) 3)).drew.setCells w.heap.size i [x]).drew
    exact fin _ hh (f2.2.2.1.trans f1.2.2.1) (f2.2.1.trans f1.2.1) (f2.2.2.2.1.trans f1.2.2.2.1)
  · obtain rfl : i = n := by omega
    refine (Any2.slices_Insert_int_end_grow L base i c0 vwv.blk (vwv.base + 0) 1 1 old' [x] w Nat.one_pos hnc hroom hbig hol rfl (fun h => (hnil h).1) hcs hvx h1v).mono fun e w' ⟨he, hw'⟩ => ?_
    rw [t3, hG] at he hw'
    subst he hw'
    refine fin _ ?_ rfl rfl rfl
    rw [List.drop_of_length_le (Nat.le_of_eq hol)]
    refine (ins_same hblk ?_).symm
    rw [Array.getElem?_append, if_pos (by simp only [List.size_toArray, List.length_append, hol, List.length_cons, List.length_nil]; omega), List.getElem?_toArray, List.getElem?_append_right (Nat.le_of_eq hol), hol, Nat.sub_self]
    rfl
/-- Into a list that grows, and has numbers. -/
theorem ins_some {ι : Inj} {h h1 h' : Hp} {w : World} (R : RH P ι h w) {o v i n : Nat} {old : List Value} (hn : n = old.length) {x s' x' rv : Value} (ho : h.get o = some (.cells old 3 .grow)) (hv : h.get v = some (.cells [x] 3 .fix)) (hov : o ≠ v) (hfl : flat x = true) (hone : one x = true) (hi : i ≤ old.length)
    (happ : appSome h 3 8 1 (.slice (some ⟨o, 0, none⟩) old.length unk) [x] 1 = some (rv, h1)) (hw : writeAt h1 h.nx i (x :: old.drop i) = some h')
    (hs : VR ι (.slice (some ⟨o, 0, none⟩) n unk) s') (hx : VR ι (.slice (some ⟨v, 0, none⟩) 1 1) x') :
    Calls P (ρ.f 21) #[s', .int .i64 (i : Nat), x'] w (InsQ P ι h w h' rv) := by
  obtain ⟨i0, hi0, hz0, hsz, hby, ht⟩ := ins_ty L t3 t22
  have hs1 : VR ι (.slice (some ⟨o, 0, none⟩) old.length unk) s' := hn ▸ hs
  have hsrc : srcCells h 1 (.slice (some ⟨v, 0, none⟩) 1 1) = some ([x], 1) := by
    show (readAt h v 0 (1 * 1)).map _ = _
    unfold readAt
    rw [hv]
    rfl
  obtain ⟨xs', hxs, S⟩ := src_sound (w := w) R hx (.inl ⟨3, ht⟩) hsrc (by rw [List.all_cons, hone]; rfl) (fun _ _ _ h => by cases h) (fun hh => by rw [ht] at hh; cases hh)
  have S' : Src P i0.size T x' 1 xs' w := by rw [hsz]; exact S
  have hA := AppSrc.ofSrc ht hi0 hz0 S'
  have happ' : appSome h 3 i0.bytes i0.size (.slice (some ⟨o, 0, none⟩) old.length unk) [x] 1 = some (rv, h1) := by rw [hsz, hby]; exact happ
  obtain ⟨ι1, v1, w1, hrun, W1, V1⟩ := appSome_sound R ht hi0 hz0 (by rw [hsz]; decide) (by rw [hsz]; rfl) (n := 1) (by decide) hs1 hxs (by rw [List.all_cons, hone]; rfl) hA happ' 22
  have happ0 := happ
  rw [ins_app ho] at happ
  obtain ⟨⟨r1, h2⟩, hnew, hput⟩ := Option.bind_eq_some_iff.1 happ
  obtain ⟨h3, hp, e3⟩ := Option.map_eq_some_iff.1 hput
  injection e3 with e3 e4
  subst e3 e4
  unfold appNew at hnew
  obtain ⟨hbig, hnew⟩ := cond_some hnew
  injection hnew with hnew
  injection hnew with e5 e6
  subst e5 e6
  rw [Bool.and_eq_true] at hbig
  have hb1 := Nat.le_of_ble_eq_true hbig.1
  obtain ⟨_, vwo, hvwo, hco, c', e'', fr, hb, hcells, hfr, hgr⟩ := R.live o _ ho
  obtain rfl : fr = (0, 0) := hfr (by decide)
  obtain ⟨g1, g2, g3, g4, g5⟩ := hgr rfl
  have hesz : vwo.esz = 1 := by
    have : sz P 3 = some 1 := by unfold sz; rw [hi0]; exact congrArg some hsz
    rw [this] at g2; exact (Option.some.inj g2).symm
  obtain ⟨_, vwv, hvwv, _, cv, ev, frv, hbv, hcv, hfrv, _⟩ := R.live v _ hv
  obtain rfl : frv = (0, 0) := hfrv (by decide)
  have hne : vwv.blk ≠ vwo.blk := fun hh => R.apart o v _ _ vwo vwv hov ho rfl hv hvwo hvwv hh.symm
  have hread : readAt h o 0 (old.length * 1) = some old := by
    unfold readAt
    rw [ho]
    simp only [List.drop_zero, Nat.mul_one, List.take_length, Nat.beq_refl, cond_true]
  obtain ⟨a, c0', old', es', q1, q2, q3⟩ := slice_cells (w := w) R hs1 hread
  have hxx : xs' = [x] := by
    obtain ⟨y, c, rfl, hy, hc⟩ := hxs.head
    obtain rfl := VR.of_flat hfl hy
    have : c = [] := List.length_eq_zero_iff.1 hc.1
    rw [this]
  subst hxx
  cases hs with
  | flat hf => simp [flat, flatN] at hf
  | slc _ hne' => exact absurd rfl hne'
  | @slu _ _ _ c0 vw hvw hcc hll =>
    rw [hvw] at hvwo
    obtain rfl := Option.some.inj hvwo
    subst hn
    injection es' with ea _ ec
    injection ea with ea
    subst ea ec
    have hc63 : c0 ≤ 9223372036854775807 := by rw [hesz] at hcc g5; omega
    have h1o : ∀ u ∈ old', u.oneCell' = true := fun u hu => by rw [one_eq]; exact List.all_eq_true.1 (q1.one hco) u hu
    by_cases hroom : old.length + 1 ≤ c0
    · have hsp : ∀ j, j < old.length + 1 → (w.cell? ⟨vw.blk, vw.base + 0 + j, none⟩).isSome = true := fun j hj => by
        have : vw.base + 0 + j < c'.size := by rw [← g1]; rw [hesz] at hcc; omega
        have e : w.cell? ⟨vw.blk, vw.base + 0 + j, none⟩ = c'[vw.base + 0 + j]? := by simp [World.cell?, hb]
        rw [e, Array.getElem?_eq_getElem this]; rfl
      have hfz : ∀ j, w.frozen? ⟨vw.blk, j, none⟩ = false := fun j => by simp [World.frozen?, hb]
      have hr1 := hA.room 22 vw.blk (vw.base + 0) old.length c0 hroom (fun j hj => by
        have : j = 0 := by simpa using hj
        subst this
        rw [hsz, Nat.mul_one, Nat.add_zero]
        exact hsp _ (by omega)) (fun j hj => hfz _)
      rw [hr1] at hrun
      injection hrun with e7 e8
      subst e7 e8
      rw [hsz, Nat.mul_one] at W1
      obtain ⟨vw1, hvw1, eb, eo⟩ := slu_inv V1
      have hq3 : old'.length = old.length := by rw [q2, Nat.mul_one]
      have hcs' : VRs ι1 (x :: old.drop i) (x :: old'.drop i) := .cons (.flat hfl) ((q1.drop i).mono (W1.mono R))
      have W2 := Went.write W1.rh hw hvw1 hcs'
      rw [eb, show vw1.base + i = vw.base + 0 + i by omega] at W2
      have W := W1.trans W2
      have fin : ∀ wC : World, wC.heap = ((w.setCells vw.blk (vw.base + 0 + old.length) [x]).setCells vw.blk (vw.base + 0 + i) (x :: old'.drop i)).heap → wC.os = w.os → wC.tape = w.tape → wC.output = w.output →
          InsQ P ι h w h' (.slice (some ⟨h.nx, 0, none⟩) (old.length + 1) unk) (.returned (.slice (some ⟨vw.blk, vw.base + 0, none⟩) (old.length + 1) c0)) wC := fun wC q1 q2 q3 q4 => by
        obtain ⟨_, s2, s3, s4, _, _⟩ := setCells_facts vw.blk (x :: old'.drop i) (vw.base + 0 + i) (w.setCells vw.blk (vw.base + 0 + old.length) [x])
        obtain ⟨_, r2, r3, r4, _, _⟩ := setCells_facts vw.blk [x] (vw.base + 0 + old.length) w
        exact ⟨ι1, _, rfl, W.world q1 (q2.trans (s3.trans r3).symm) (q3.trans (s2.trans r2).symm) (q4.trans (s4.trans r4).symm), V1⟩
      have ex : x' = .slice (some ⟨vwv.blk, vwv.base + 0, none⟩) 1 1 := by
        cases hx with
        | flat hf => simp [flat, flatN] at hf
        | slc hvw _ => rw [hvw] at hvwv; rw [Option.some.inj hvwv]
      subst ex
      have hvx : ∀ (j : Nat) u, [x][j]? = some u → w.cell? ⟨vwv.blk, vwv.base + 0 + j, none⟩ = some u := fun j u hj => by
        obtain ⟨y, hy, hvy⟩ := hcv j u hj
        have hj0 : j = 0 := by have := (List.getElem?_eq_some_iff.1 hj).1; simpa using this
        subst hj0
        injection hj with hj
        subst hj
        obtain rfl := VR.of_flat hfl hvy
        simpa [World.cell?, hbv] using hy
      have h1v : ∀ u ∈ [x], u.oneCell' = true := fun u hu => by rw [List.mem_singleton.1 hu, one_eq]; exact hone
      have hcells' : ∀ (j : Nat) u, old'[j]? = some u → w.cell? ⟨vw.blk, vw.base + 0 + j, none⟩ = some u := fun j u hj => by
        obtain ⟨y, hy⟩ : ∃ y, old[j]? = some y := by
          have := (List.getElem?_eq_some_iff.1 hj).1
          exact ⟨_, List.getElem?_eq_getElem (by omega)⟩
        have := q3 j u hj
        rwa [Addr.add_lit] at this
      by_cases hin : i < old.length
      · refine (Any2.slices_Insert_int_shift L vw.blk (vw.base + 0) old.length c0 i vwv.blk (vwv.base + 0) 1 1 old' [x] w hin Nat.one_pos hroom hc63 hne hq3 rfl hcells' hsp (fun j _ => hfz _) hvx h1o h1v ev e'' cv.size c'.size (by simp [World.shape?, hbv]) (by simp [World.shape?, hb]) (by rw [← g1]; rw [hesz] at hcc; omega) (by simp [World.frozen?, hbv]) (by simp [World.frozen?, hbv])).mono fun e w' ⟨he, hw'⟩ => ?_
        subst he hw'
        have hh := ins_shift (w := w) (b := vw.blk) (p := vw.base + 0) (i := i) (n := old.length) (x := x) (cs := old') hb hq3 hi (by rw [← g1]; rw [hesz] at hcc; omega)
        obtain ⟨_, s2, s3, s4, _, _⟩ := setCells_facts vw.blk [x] (vw.base + 0 + i) (w.drew.setCells vw.blk (vw.base + 0 + (i + 1)) (old'.drop i))
        obtain ⟨_, r2, r3, r4, _, _⟩ := setCells_facts vw.blk (old'.drop i) (vw.base + 0 + (i + 1)) w.drew
        exact fin _ hh (s3.trans r3) (s2.trans r2) (s4.trans r4)
      · obtain rfl : i = old.length := by omega
        refine (Any2.slices_Insert_int_end_room L vw.blk (vw.base + 0) old.length c0 vwv.blk (vwv.base + 0) 1 1 [x] w Nat.one_pos hroom hc63 rfl (fun j hj => by rw [Nat.add_assoc]; exact hsp _ (by omega)) (fun j _ => hfz _) hvx h1v).mono fun e w' ⟨he, hw'⟩ => ?_
        subst he hw'
        obtain ⟨_, r2, r3, r4, _, _⟩ := setCells_facts vw.blk [x] (vw.base + 0 + old.length) w
        refine fin _ ?_ r3 r2 r4
        rw [List.drop_of_length_le (Nat.le_of_eq hq3)]
        exact ins_end hb (by rw [← g1]; rw [hesz] at hcc; omega)
    · exact ins_new L t3 t22 R rfl hi hfl hone (fun hh => by cases hh) hll (by omega) (by omega) q1 h1o (fun a ha j u hj => by injection ha with ha; subst ha; exact q3 j u hj) (fun _ => ⟨_, _, rfl⟩) hv hx (.slu hvw hcc hll) happ0 rfl hw
  | sl0 hvw hcc =>
    have h0 : old = [] := List.length_eq_zero_iff.1 hn.symm
    subst h0
    obtain rfl : i = 0 := by simpa using hi
    exact ins_new L t3 t22 R (n := 0) (c0 := 0) (old := []) (old' := []) rfl (Nat.le_refl _) hfl hone (fun hh => by cases hh) (Nat.le_refl _) (by omega) (by omega) (.nil ι) (fun u hu => by cases hu) (fun a ha j u hj => by simp at hj) (fun hh => absurd hh (by omega)) hv hx (.sl0 hvw hcc) happ0 rfl hw
/-- Into the list that is nil. -/
theorem ins_nil {ι : Inj} {h h1 h' : Hp} {w : World} (R : RH P ι h w) {v : Nat} {x s' x' rv : Value} (hv : h.get v = some (.cells [x] 3 .fix)) (hfl : flat x = true) (hone : one x = true)
    (happ : appSome h 3 8 1 (.slice none 0 0) [x] 1 = some (rv, h1)) (hw : writeAt h1 h.nx 0 [x] = some h')
    (hs : VR ι (.slice none 0 0) s') (hx : VR ι (.slice (some ⟨v, 0, none⟩) 1 1) x') :
    Calls P (ρ.f 21) #[s', .int .i64 (0 : Nat), x'] w (InsQ P ι h w h' rv) := by
  obtain rfl := VR.of_flat (by rfl) hs
  have happ0 := happ
  have hnew : appNew h 3 8 [] [x] 1 = some (rv, h1) := happ
  unfold appNew at hnew
  obtain ⟨_, hnew⟩ := cond_some hnew
  injection hnew with hnew
  injection hnew with e5 e6
  exact ins_new L t3 t22 R (n := 0) (c0 := 0) (old := []) (old' := []) rfl (Nat.le_refl _) hfl hone (fun _ => ⟨rfl, rfl⟩) (Nat.le_refl _) (by omega) (by omega) (.nil ι) (fun u hu => by cases hu) (fun a ha => by cases ha) (fun hh => absurd hh (by omega)) hv hx hs happ0 e5.symm hw
/-- The oracle's word is true. -/
theorem ins_sound {ι : Inj} {h h' : Hp} {w : World} (R : RH P ι h w) {args args' : List Value} {rv : Value} (he : insV h args = some (rv, h')) (ha : VRs ι args args') : Calls P (ρ.f 21) args'.toArray w (InsQ P ι h w h' rv) := by
  unfold insV at he
  split at he
  · rename_i s i v
    obtain ⟨s', l1, rfl, hs, u1⟩ := ha.head
    obtain ⟨i', l2, rfl, hi', u2⟩ := u1.head
    obtain ⟨x', l3, rfl, hx, u3⟩ := u2.head
    obtain rfl := u3.of_nil
    obtain rfl := VR.of_flat (by rfl) hi'
    split at he
    · rename_i x hv
      obtain ⟨hfl, he⟩ := cond_some he
      have hone : one x = true := by
        obtain ⟨_, _, _, h1, _⟩ := R.live v _ hv
        simpa using h1
      split at he
      · obtain ⟨h0, he⟩ := cond_some he
        obtain rfl := Nat.eq_of_beq_eq_true h0
        obtain ⟨⟨r1, h1⟩, happ, he⟩ := Option.bind_eq_some_iff.1 he
        obtain ⟨h2, hw, e⟩ := Option.map_eq_some_iff.1 he
        injection e with e1 e2
        subst e1 e2
        exact ins_nil L t3 t22 R hv hfl hone happ hw hs hx
      · rename_i _ o n c _
        split at he
        · rename_i old ho
          obtain ⟨hc, he⟩ := cond_some he
          simp only [Bool.and_eq_true, Bool.not_eq_true'] at hc
          obtain ⟨⟨⟨c1, c2⟩, c3⟩, c4⟩ := hc
          obtain rfl := Nat.eq_of_beq_eq_true c1
          have c2 := Nat.eq_of_beq_eq_true c2
          have c3 := Nat.le_of_ble_eq_true c3
          have c4 : o ≠ v := fun hh => by rw [hh, Nat.beq_refl] at c4; cases c4
          obtain ⟨⟨r1, h1⟩, happ, he⟩ := Option.bind_eq_some_iff.1 he
          obtain ⟨h2, hw, e⟩ := Option.map_eq_some_iff.1 he
          injection e with e1 e2
          subst e1 e2
          exact ins_some L t3 t22 R c2 ho hv c4 hfl hone (by omega) (by rw [← c2]; exact happ) hw hs hx
        · cases he
      · cases he
    · cases he
  · cases he
end
end Go.Ev
/- slices.Insert at the numbers of this program. -/
namespace Go.Proofs.YtfgfhplgnfbaaaaDoor
open Go Go.Shelf
def ren21 : Go.Shelf.Ren := ⟨fun | 21 => 17 | 27 => 72 | 28 => 73 | 35 => 114 | 39 => 126 | n => n, fun | 22 => 32 | 3 => 3 | 4 => 4 | 0 => 0 | n => n, fun | n => n⟩
theorem lays21 : Go.Proofs.Lays2.n21 Tryd.prog ren21 := {
  mixed := by kernel_rfl
  f21 := Tryd.func17.trans (congrArg some (by kernel_rfl))
  f27 := Tryd.func72.trans (congrArg some (by kernel_rfl))
  f28 := Tryd.func73.trans (congrArg some (by kernel_rfl))
  f35 := Tryd.func114.trans (congrArg some (by kernel_rfl))
  f39 := Tryd.func126.trans (congrArg some (by kernel_rfl))
  t0 := Tryd.underlying0
  a0 := Tryd.isAgg0
  z0 := Tryd.sizeOf0
  v0 := Tryd.zeroValue0
  t3 := Tryd.underlying3
  a3 := Tryd.isAgg3
  z3 := Tryd.sizeOf3
  v3 := Tryd.zeroValue3
  t4 := Tryd.underlying4
  a4 := Tryd.isAgg4
  z4 := Tryd.sizeOf4
  v4 := Tryd.zeroValue4
  t22 := Tryd.underlying32
  a22 := Tryd.isAgg32
  z22 := Tryd.sizeOf32
  v22 := Tryd.zeroValue32
  i3 := by kernel_rfl }
end Go.Proofs.YtfgfhplgnfbaaaaDoor
/- 'works' is answered beforehand. -/
namespace Go.Proofs.YtfgfhplgnfbaaaaDoor
open Go Go.Ev
theorem h0_get (o : Nat) (x : Ob) (h : h0.get o = some x) : o = 0 ∧ x = .cells tab 0 .ro := by
  have h : (Tr.set (Tr.full none 64) 0 (some (Ob.cells tab 0 .ro))).get none o = some x := h
  rw [Tr.get_set] at h
  split at h
  · split at h
    · exact ⟨‹_›, (Option.some.inj h).symm⟩
    · cases h
  · rw [Tr.get_full] at h; cases h
theorem tab_flat : tab.all flat = true := by kernel_rfl
theorem tab_one : tab.all one = true := by kernel_rfl
/-- 'works' is true, wherever the table stands. -/
theorem works_calls {h : Hp} (_ : 0 < h.nx) (hh : h.get 0 = some (.cells tab 0 .ro)) {iota : Inj} {w : World} (R : RH Tryd.prog iota h w) : Calls Tryd.prog 27 #[] w fun e w' => e = .returned (.bool true) ∧ Went Tryd.prog h iota w h iota w' := by
  have hev := works_ev
  cases hr : evCall Tryd.prog 1000 100 27 [] h0 with
  | none => rw [hr] at hev; cases hev
  | some r =>
    obtain ⟨v, h1⟩ := r
    rw [hr] at hev
    obtain rfl : v = .bool true := by
      cases v with
      | bool b => have : b = true := hev; rw [this]
      | _ => cases hev
    exact closed_call mixed noNum (fn := Tryd.f27) (by decide) Tryd.func27 (by kernel_rfl) hr rfl rfl (fun o x ho => ⟨tab, 0, (h0_get o x ho).2, tab_flat⟩) (fun o x ho => by
      obtain ⟨rfl, rfl⟩ := h0_get o x ho
      exact ⟨hh, Nat.zero_lt_one⟩) (by rw [gsz]; exact Nat.le_refl _) R
def isTab : List Value → List Value → Bool
  | [], [] => true
  | .int .u8 a :: l, .int .u8 b :: r => eqI a b && isTab l r
  | _, _ => false
theorem isTab_eq : ∀ (l r : List Value), isTab l r = true → l = r := by
  intro l
  induction l with
  | nil => intro r h; cases r with
    | nil => rfl
    | cons => simp [isTab] at h
  | cons a l ih =>
    intro r h
    unfold isTab at h
    split at h
    · rename_i h2; cases h2
    · rename_i x l2 y r2 h2
      injection h2 with e1 e2
      subst e1 e2
      rw [Bool.and_eq_true, eqI_eq] at h
      rw [ih _ h.2, (by simpa using h.1 : x = y)]
    · cases h
/-- The calls that are answered beforehand: 'works', and slices.Insert of one number. -/
noncomputable def Ow : CallF := fun f args h => bif Nat.beq f 27 then (match args, h.get 0 with
  | [], some (.cells l 0 .ro) => bif Nat.blt 0 h.nx && isTab l tab then some (.bool true, h) else none
  | _, _ => none) else bif Nat.beq f 17 then insV h args else none
set_option maxRecDepth 100000 in
theorem Ow_ok : COk Tryd.prog Ow := by
  intro f args h v h' hs iota w args' R ha rd o a next Q hn
  unfold Ow at hs
  cases hf : Nat.beq f 27 with
  | false =>
    rw [hf, cond_false] at hs
    obtain ⟨h17, hs⟩ := cond_some hs
    obtain rfl : f = 17 := Nat.eq_of_beq_eq_true h17
    rw [run_callFunc noNum Tryd.func17 (by kernel_rfl) args'.toArray w]
    refine ⟨fun _ => ⟨fun h => (by cases h), calls_rd ((ins_sound lays21 (rfl : ren21.t 3 = 3) (rfl : ren21.t 22 = 32) R hs ha).mono fun e w' ⟨iota', v', he, g, hv⟩ => ?_)⟩, fun l hl => ?_⟩
    · subst he
      exact hn iota' v' w' g hv
    · exact absurd hl (Nat.ne_of_lt (Nat.lt_of_lt_of_le (by decide : 17 < yB) (Nat.le_add_right yB l)))
  | true =>
    obtain rfl : f = 27 := Nat.eq_of_beq_eq_true hf
    rw [hf, cond_true] at hs
    split at hs
    · rename_i l hg
      obtain ⟨ht, h2⟩ := cond_some hs
      rw [Bool.and_eq_true] at ht
      injection h2 with h2
      injection h2 with e1 e2
      subst e1 e2
      obtain rfl := isTab_eq _ _ ht.2
      obtain rfl := List.length_eq_zero_iff.1 ha.1
      rw [run_callFunc noNum Tryd.func27 (by kernel_rfl) ([] : List Value).toArray w]
      refine ⟨fun _ => ⟨fun h => (by cases h), calls_rd ((works_calls (by simpa using ht.1) hg R).mono fun e w' ⟨he, g⟩ => ?_)⟩, fun l hl => ?_⟩
      · subst he
        exact hn iota _ w' g (.flat rfl)
      · exact absurd hl (Nat.ne_of_lt (Nat.lt_of_lt_of_le (by decide : 27 < yB) (Nat.le_add_right yB l)))
    · cases hs
theorem Ow_oth (f : FuncId) (args : List Value) (h : Hp) (hf : f ≠ 27 ∧ f ≠ 17) : Ow f args h = none := by
  unfold Ow
  have h1 : Nat.beq f 27 = false := by rw [Bool.eq_false_iff]; intro hh; exact hf.1 (Nat.eq_of_beq_eq_true hh)
  have h2 : Nat.beq f 17 = false := by rw [Bool.eq_false_iff]; intro hh; exact hf.2 (Nat.eq_of_beq_eq_true hh)
  rw [h1, h2]; rfl
theorem tab_self : isTab tab tab = true := by kernel_rfl
theorem Ow_works {h : Hp} (hn : 0 < h.nx) (hh : h.get 0 = some (.cells tab 0 .ro)) : EvC Tryd.prog Ow 27 [] h (.bool true) h := by
  refine ⟨0, ?_⟩
  show Ow 27 [] h = _
  unfold Ow
  show (match ([] : List Value), h.get 0 with
    | [], some (.cells l 0 .ro) => bif Nat.blt 0 h.nx && isTab l tab then some (Value.bool true, h) else none
    | _, _ => none) = _
  rw [hh]
  simp only [tab_self, show Nat.blt 0 h.nx = true by simpa using hn, Bool.and_self, cond_true]
end Go.Proofs.YtfgfhplgnfbaaaaDoor
/- From the evaluator's word on a law of layer 20 to the kit's. -/
namespace Go.Proofs.YtfgfhplgnfbaaaaDoor
open Go Go.Ev Go.ChangeShapes Go.WideShapes Go.ChangeAt Go.RowKit
theorem own : ownKnob Tryd.prog.godebug = none := by kernel_rfl
theorem gTab : Tryd.prog.globalNamed "math/bits.deBruijn32tab" = some 0 := by kernel_rfl
theorem gTabType : (Tryd.prog.globals[0]?).map (·.type) = some 156 := by kernel_rfl
theorem cellsArr : Tryd.prog.cellsOf 156 = 32 := by kernel_rfl
theorem cellsOne : Tryd.prog.cellsOf 5 = 1 := by kernel_rfl
theorem cellsInt : Tryd.prog.cellsOf 3 = 1 := by kernel_rfl
def nums : List Int := [0,1,28,2,29,14,24,3,30,22,20,15,25,17,4,8,31,27,13,23,21,19,16,7,26,12,18,6,11,5,10,9]
set_option maxRecDepth 100000 in
theorem kids : Kids Tryd.prog (· < Tryd.prog.types.size) := kids_rows (by kernel_rfl) (by kernel_rfl)
set_option maxRecDepth 100000 in
theorem full : ∀ t e, t < Tryd.prog.types.size → Tryd.prog.underlying t = some (.slice e) → 0 < Tryd.prog.cellsOf e := slices_full_of _ (by kernel_rfl)
theorem tab_cells {W : World} (h : Lib.TabIs Tryd.prog W "math/bits.deBruijn32tab" .u8 nums) : ∀ j x, tab[j]? = some x → W.cell? ⟨0, j, none⟩ = some x := by
  intro j x hj
  have hjl : j < 32 := (List.getElem?_eq_some_iff.1 hj).1
  have hn : j < nums.length := hjl
  have := h.cell gTab j hn
  rw [this]
  have e : tab = nums.map fun x => Value.int .u8 x := rfl
  rw [e, List.getElem?_map, List.getElem?_eq_getElem hn] at hj
  rw [List.getD_eq_getElem?_getD, List.getElem?_eq_getElem hn]
  exact hj
/-- The names at the start: the one package-level variable. -/
def iota0 : Inj := fun o => if o = 0 then some ⟨0, 0, 0, 0⟩ else none
theorem start_RH {W : World} (ht : ∀ j x, tab[j]? = some x → W.cell? ⟨0, j, none⟩ = some x) : RH Tryd.prog iota0 h0 W := by
  have h00 := ht 0 _ rfl
  have hblk : ∃ c e fr, W.heap[0]? = some (.cells c e fr) := by
    cases hb : W.heap[0]? with
    | none => simp [World.cell?, hb] at h00
    | some y =>
      cases y with
      | cells c e fr => exact ⟨c, e, fr, rfl⟩
      | _ => simp [World.cell?, hb] at h00
  obtain ⟨c, e, fr, hb⟩ := hblk
  refine ⟨fun o x ho => ?_, fun o q x y vo vq _ ho hx => ?_, fun o ho => if_neg (by have : 1 ≤ o := ho; omega), fun g hg => ?_, by rw [gsz]; exact Nat.le_refl _⟩
  · obtain ⟨rfl, rfl⟩ := h0_get o x ho
    refine ⟨Nat.zero_lt_one, ⟨0, 0, 0, 0⟩, rfl, tab_one, c, e, fr, hb, fun j x hx => ?_, fun h => absurd rfl h, fun h => by cases h⟩
    have := ht j x hx
    refine ⟨x, ?_, .flat (all_get tab_flat hx)⟩
    simpa [World.cell?, hb] using this
  · obtain ⟨rfl, rfl⟩ := h0_get o x ho
    cases hx
  · rw [gsz] at hg
    obtain rfl : g = 0 := by omega
    exact ⟨0, 0, rfl⟩
set_option maxRecDepth 100000 in
theorem h0_tab : h0.get 0 = some (.cells tab 0 .ro) := by kernel_rfl
set_option maxRecDepth 100000 in
theorem start_base {W : World} (ht : ∀ j x, tab[j]? = some x → W.cell? ⟨0, j, none⟩ = some x) : Base Tryd.prog iota0 h0 W :=
  ⟨start_RH ht, fun o x ho => by obtain ⟨rfl, rfl⟩ := h0_get o x ho; rfl, rfl, ⟨_, ⟨0, 0, 0, 0⟩, h0_tab, rfl, Nat.zero_lt_one, tab, 0, rfl⟩⟩
set_option maxRecDepth 100000 in
/-- A law that the evaluator finds true, wherever its arguments lie, is true. -/
theorem law_calls {H : Type} {enc : TypeId × Value → H} {f : FuncId} {fn : Func} (hf : Tryd.prog.funcs[f]? = some fn) (hb : fn.body.isSome = true) (h27 : f ≠ 27 ∧ f ≠ 17) {W : World} (ht : ∀ j x, tab[j]? = some x → W.cell? ⟨0, j, none⟩ = some x)
    {ts : List TypeId} {args : Array Value} {ds : List (DataW H)} {p : List MemPlace} (hA : DataW.TrodAll enc Tryd.prog W 0 (fun _ => true) true ts args.toList ds p) (hbd : ∀ t ∈ ts, ∀ n, Builds H enc Tryd.prog W n t) (hs : ∀ (i : Nat) t v, ts[i]? = some t → args.toList[i]? = some v → Shaped1 Tryd.prog t v)
    (hR : ∀ (h : Hp) (evs : List Value), Tb h → h.Ok → h.gd = [] → DEs Tryd.prog h ts evs ds → Ret Tryd.prog Ow f evs h fun v _ => v = .bool true) (hlt : f < yB := by decide) :
    Calls Tryd.prog f args W fun e W' => e = .returned (.bool true) ∧ Below W.heap.size W W' := by
  obtain ⟨ι, h, evs, E, B, V, D⟩ := args_build hA hbd hs iota0 h0 (start_base ht)
  have hg : h.gd = [] := B.gd
  have htb : Tb h := ⟨Nat.lt_of_lt_of_le Nat.zero_lt_one E.nx, by rw [E.get 0 Nat.zero_lt_one]; exact h0_tab⟩
  have hfr : h.Fresh := fun o ho => by
    cases ho2 : h.get o with
    | none => rfl
    | some x => have := (B.rh.live o x ho2).1; omega
  obtain ⟨v, h', he, rfl⟩ := hR h evs htb ⟨fun q hq => (by rw [hg] at hq; cases hq), hfr⟩ hg D
  have := calls_of_EvC mixed noNum Ow_ok hlt hf hb (Ow_oth f evs h h27) he B.rh V
  have e : args.toList.toArray = args := by simp
  rw [e] at this
  refine this.mono fun e W' ⟨ι', v', h1, h2, h3⟩ => ?_
  obtain rfl := VR.of_flat rfl h3
  exact ⟨h1, h2.fr.os, h2.fr.tape, h2.fr.output, h2.fr.size, fun k hk => h2.fr.rest k hk fun o x _ ho hx => by rw [B.ro o x ho] at hx; cases hx⟩
/-- A world for the witness: the table holds what its initialiser lays. -/
noncomputable def laidWorld (os : Os) : World :=
  { World.holding Tryd.prog os ⟨#[], #[], []⟩ with heap := (World.holding Tryd.prog os ⟨#[], #[], []⟩).heap.modify 0 fun
      | .cells _ t frozen => .cells tab.toArray t frozen
      | o => o }
end Go.Proofs.YtfgfhplgnfbaaaaDoor
/- SatForms of layer 20 returns true, for every input: its law, by the contracts of what it calls. -/
namespace Go.Proofs.YtfgfhplgnfbaaaaDoor
open Go Go.Ev
theorem works_true {h : Hp} (ht : Tb h) : EvT Ow 27 [] h (.bool true) h := Ow_works ht.1 ht.2
theorem greatB_not {cls : List (List Int)} (h : greatB cls = false) : cls.length ≤ 150 ∧ ∀ l ∈ cls, l.length ≤ 40 := by
  unfold greatB at h
  rw [Bool.or_eq_false_iff] at h
  refine ⟨by have := of_decide_eq_false h.1; omega, fun l hl => ?_⟩
  have := List.any_eq_false.1 h.2 l hl
  have : ¬ 40 < l.length := fun hh => this (decide_eq_true hh)
  omega
/-! ### arguments -/
theorem cells32 : Tryd.prog.cellsOf 32 = 1 := by kernel_rfl
theorem cells28 : Tryd.prog.cellsOf 28 = 1 := by kernel_rfl
theorem cells30 : Tryd.prog.cellsOf 30 = 2 := by kernel_rfl
theorem agg32 : aggT Tryd.prog 32 ≠ some true := by unfold aggT; rw [Tryd.underlying32]; simp
section
variable {H : Type} {enc : TypeId × Value → H} {W : World}
theorem build0 (t : TypeId) : Builds H enc Tryd.prog W 0 t := fun cs d ps h => by simp [DataW.trod] at h
theorem bld3 : ∀ n, Builds H enc Tryd.prog W n 3
  | 0 => build0 3
  | _ + 1 => build_int Tryd.underlying3
theorem bld32 : ∀ n, Builds H enc Tryd.prog W n 32
  | 0 => build0 32
  | n + 1 => build_slice (bld3 n) (by rw [cellsInt]; decide) Tryd.underlying32
theorem bld28 : ∀ n, Builds H enc Tryd.prog W n 28
  | 0 => build0 28
  | n + 1 => build_slice (bld32 n) (by rw [cells32]; decide) Tryd.underlying28
theorem bld30 : ∀ n, Builds H enc Tryd.prog W n 30
  | 0 => build0 30
  | n + 1 => build_struct (fun f hf => by
      simp at hf
      rcases hf with rfl | rfl
      · exact bld3 n
      · exact bld28 n) (by kernel_rfl) Tryd.underlying30
set_option maxRecDepth 100000 in
/-- A formula in memory. -/
theorem form_of {h : Hp} {n : Nat} {v : Value} {d : DataW H} (D : DE Tryd.prog h n 30 v.cells.toList d) : ∃ vars a m c cls, v = Fm vars a m c ∧ IntssAt h a m cls := by
  cases n with
  | zero => exact D.elim
  | succ n =>
    obtain ⟨h1, h2⟩ := DE_struct Tryd.underlying30 D
    obtain ⟨d1, D1⟩ := h2 0 _ rfl
    obtain ⟨d2, D2⟩ := h2 1 _ rfl
    have D1 : DE Tryd.prog h n 3 ((v.cells.toList.drop 0).take (Tryd.prog.cellsOf 3)) d1 := D1
    have D2 : DE Tryd.prog h n 28 ((v.cells.toList.drop 1).take (Tryd.prog.cellsOf 28)) d2 := D2
    rw [cellsInt] at D1
    rw [cells28] at D2
    obtain ⟨x, z1, _⟩ := DE_int Tryd.underlying3 D1
    obtain ⟨a, m, c, cls, z2, A, _⟩ := DE_intss Tryd.underlying28 Tryd.underlying32 Tryd.underlying3 cellsInt cells32 D2
    exact ⟨x, a, m, c, cls, agg_of_two (two_of (h1.trans cells30) z1 z2), A⟩
end
end Go.Proofs.YtfgfhplgnfbaaaaDoor
/- Arguments by numbers: how they lie in memory. -/
namespace Go.Proofs.YtfgfhplgnfbaaaaDoor
open Go Go.Ev Go.ChangeShapes Go.WideShapes Go.ChangeAt Go.RowKit
theorem n24 : Tryd.prog.cellsOf 24 = 42 := by kernel_rfl
section
variable {H : Type} {enc : TypeId × Value → H} {W : World}
theorem n26 : Tryd.prog.cellsOf 26 = 44 := by kernel_rfl
end
end Go.Proofs.YtfgfhplgnfbaaaaDoor
/- SatResolved of layer 20: the law. -/
namespace Go.Proofs.YtfgfhplgnfbaaaaDoor
open Go Go.Ev
abbrev Yes : Value → Hp → Prop := fun v _ => v = .bool true
end Go.Proofs.YtfgfhplgnfbaaaaDoor
/- Conditions of functions' code, printed by a program of ours. -/
namespace Go.Proofs.YtfgfhplgnfbaaaaDoor
open Go Go.Ev
set_option maxRecDepth 100000
set_option linter.unusedVariables false
/-! sward/swardlaw20.SatProofs -/
noncomputable def b10 : Code := (Tryd.f10.body).getD .skip
end Go.Proofs.YtfgfhplgnfbaaaaDoor
/- SatProofs of layer 20: its law. -/
namespace Go.Proofs.YtfgfhplgnfbaaaaDoor
open Go Go.Ev
section
variable {v0 : Array Value} {x1 x2 : Int} {N : Nat} (hN : 1 ≤ N ∧ N ≤ 8) {cls : List (List Int)} {gs : List Int} {pf : List (List Int)} (hcl : cls.length ≤ 14) (hc : ∀ l ∈ cls, Cv (Int.ofNat N) l) (hg : Cv (Int.ofNat N) gs) (hp : ∀ l ∈ pf, Cv (Int.ofNat N) l) (hpl : pf.length ≤ 2000) (hr : accF gs cls pf 0 = none) {L : List (List Int)} (hL : pf = L ++ [[]])
  {hB : Hp} (ok : hB.Ok) (ht : Tb hB) {b7 : Nat} (hb7 : b7 < hB.nx) {aF a8 aP : Option Addr} {nF cF n8 c8 nP cP : Nat} (g7 : hB.get b7 = some (.cells [.int .i64 (Int.ofNat N), .slice aF nF cF] 30 .fix)) (F : IntssAt hB aF nF cls) (G : IntsAt hB a8 n8 gs) (PL : IntssAt hB aP nP pf)
include hN hcl hc hg hp hpl hr hL ok ht hb7 g7 F G PL
end
end Go.Proofs.YtfgfhplgnfbaaaaDoor
/- SatProofs of layer 20: its law, joined. -/
namespace Go.Proofs.YtfgfhplgnfbaaaaDoor
open Go Go.Ev
theorem cv_len {N : Nat} {l : List Int} (h : Cv (Int.ofNat N) l) : l.length ≤ N := by
  rcases dif_len (N := N) (lo := 0) h.1 (fun x hx => by obtain ⟨h1, h2⟩ := h.2 x hx; have := h1.1; simp only [Int.ofNat_eq_natCast] at h2; omega) with h | h
  · omega
  · rw [h]; simp
end Go.Proofs.YtfgfhplgnfbaaaaDoor
/- Core and Blame: their contracts, where the formula and what is given are as defined. -/
namespace Go.Proofs.YtfgfhplgnfbaaaaDoor
open Go Go.Ev
end Go.Proofs.YtfgfhplgnfbaaaaDoor
/- Forced: the plain law. -/
namespace Go.Proofs.YtfgfhplgnfbaaaaDoor
open Go Go.Ev
end Go.Proofs.YtfgfhplgnfbaaaaDoor
/- SatMinimal of layer 20: the plain law. -/
namespace Go.Proofs.YtfgfhplgnfbaaaaDoor
open Go Go.Ev
end Go.Proofs.YtfgfhplgnfbaaaaDoor
/- What is known of a memory: who has which objects. A step of the code changes one's own alone. -/
namespace Go.Ev
open Go
/-- From one memory to a later one: of what there was some objects alone change. -/
structure Ch (S : Nat → Prop) (h h' : Hp) : Prop where
  get : ∀ o, o < h.nx → ¬ S o → h'.get o = h.get o
  nx : h.nx ≤ h'.nx
  gd : h'.gd = h.gd
  fr : h.Fresh → h'.Fresh
theorem Ch.kp {S : Nat → Prop} {h h' : Hp} (k : Kp h.nx h h') : Ch S h h' := ⟨fun o ho _ => k.get o ho, k.nx, k.gd, k.fr⟩
theorem Ch.refl (S : Nat → Prop) (h : Hp) : Ch S h h := ⟨fun _ _ _ => rfl, Nat.le_refl _, rfl, id⟩
theorem Ch.trans {S : Nat → Prop} {h h' h'' : Hp} (a : Ch S h h') (b : Ch S h' h'') : Ch S h h'' := ⟨fun o ho hS => (b.get o (Nat.lt_of_lt_of_le ho a.nx) hS).trans (a.get o ho hS), Nat.le_trans a.nx b.nx, b.gd.trans a.gd, fun f => b.fr (a.fr f)⟩
theorem Ch.low {S : Nat → Prop} {h h' : Hp} {n : Nat} (a : Ch S h h') (hn : n ≤ h.nx) (hs : ∀ o, S o → n ≤ o) : Kp n h h' := ⟨fun o ho => a.get o (by omega) (fun h => by have := hs o h; omega), a.nx, a.gd, a.fr⟩
theorem Ch.wr (h : Hp) (b off : Nat) (vs : List Value) : Ch (fun o => o = b) h (h.wr b off vs) := ⟨fun _ _ hne => wr_get_ne _ _ _ _ hne, by rw [nx_wr]; exact Nat.le_refl _, gd_wr .., fun f => f.wr _ _ _⟩
/-- Something that somebody has: objects, and what is so of them. -/
structure Rs where
  own : Nat → Prop
  P : Hp → Prop
/-- It speaks of its own objects alone. -/
def Rs.Loc (r : Rs) : Prop := ∀ h h' : Hp, h.nx ≤ h'.nx → (∀ b, r.own b → h'.get b = h.get b) → r.P h → r.P h'
/-- An object. -/
def ob (b : Nat) (x : Ob) : Rs := ⟨fun o => o = b, fun h => h.get b = some x⟩
theorem ob.loc (b : Nat) (x : Ob) : (ob b x).Loc := fun _ _ _ h e => (h b rfl).trans e
/-- A list that grows. -/
def acc (lo : Nat) (e : TypeId) (esz : Nat) (a : Option Addr) (n c : Nat) (xs : List Value) : Rs := ⟨fun o => a = some ⟨o, 0, none⟩, fun h => AccE h lo e esz a n c xs⟩
theorem acc.loc (lo : Nat) (e : TypeId) (esz : Nat) (a : Option Addr) (n c : Nat) (xs : List Value) : (acc lo e esz a n c xs).Loc := fun _ _ hn h A => A.keep (fun o _ ha => h o ha) hn
/-- Numbers that are laid aside. -/
def hole (lo k : Nat) (used : List Nat) : Rs := ⟨fun o => lo ≤ o ∧ o < lo + k ∧ o ∉ used, fun h => ∀ o, lo ≤ o → o < lo + k → o ∉ used → h.get o = none⟩
theorem hole.loc (lo k : Nat) (used : List Nat) : (hole lo k used).Loc := fun _ _ _ h e o h1 h2 h3 => (h o ⟨h1, h2, h3⟩).trans (e o h1 h2 h3)
/-- What is known of a memory that began as another one. -/
structure Know (h0 g : Hp) (L : List Rs) : Prop where
  ok : g.Ok
  kp : Kp h0.nx h0 g
  at_ : ∀ r ∈ L, r.Loc ∧ r.P g ∧ ∀ b, r.own b → h0.nx ≤ b ∧ b < g.nx
  dis : L.Pairwise (fun r s => ∀ b, r.own b → ¬ s.own b)
  ok0 : h0.Ok
section
variable {h0 g : Hp} {L : List Rs}
theorem Know.nil (ok : g.Ok) : Know g g [] := ⟨ok, Kp.refl _ _, fun _ h => (by cases h), .nil, ok⟩
theorem Know.ft (S : Know h0 g L) : Ft h0 g := S.kp.ex (Nat.le_refl _)
theorem Know.len (_ : Know h0 g L) {i : Nat} {r : Rs} (hi : L[i]? = some r) : i < L.length := (List.getElem?_eq_some_iff.1 hi).1
theorem Know.lo (S : Know h0 g L) : h0.nx ≤ g.nx := S.kp.nx
theorem Know.gl (S : Know h0 g L) : GdLt g h0.nx := fun q hq => by rw [S.kp.gd] at hq; exact S.ok0.gd q hq
theorem Know.get (S : Know h0 g L) (i : Nat) {r : Rs} (hi : L[i]? = some r) : r.P g := (S.at_ r (List.mem_of_getElem? hi)).2.1
theorem Know.obj (S : Know h0 g L) (i : Nat) {b : Nat} {x : Ob} (hi : L[i]? = some (ob b x)) : g.get b = some x := S.get i hi
theorem Know.rng (S : Know h0 g L) (i : Nat) {r : Rs} (hi : L[i]? = some r) : ∀ b, r.own b → h0.nx ≤ b ∧ b < g.nx := (S.at_ r (List.mem_of_getElem? hi)).2.2
theorem Know.orng (S : Know h0 g L) (i : Nat) {b : Nat} {x : Ob} (hi : L[i]? = some (ob b x)) : h0.nx ≤ b ∧ b < g.nx := S.rng i hi b rfl
theorem pw_get {α : Type} {R : α → α → Prop} (hs : ∀ a b, R a b → R b a) : ∀ {l : List α}, l.Pairwise R → ∀ {i j : Nat} {x y : α}, l[i]? = some x → l[j]? = some y → i ≠ j → R x y := by
  intro l
  induction l with
  | nil => intro _ i j x y h; cases h
  | cons a l ih =>
    intro hp i j x y hx hy hij
    obtain ⟨p1, p2⟩ := List.pairwise_cons.1 hp
    cases i with
    | zero =>
      cases j with
      | zero => exact absurd rfl hij
      | succ j => obtain rfl := Option.some.inj hx; exact p1 y (List.mem_of_getElem? (i := j) hy)
    | succ i =>
      cases j with
      | zero => obtain rfl := Option.some.inj hy; exact hs _ _ (p1 x (List.mem_of_getElem? (i := i) hx))
      | succ j => exact ih p2 (i := i) (j := j) hx hy (by omega)
theorem Know.sep (S : Know h0 g L) (i j : Nat) {r s : Rs} (hi : L[i]? = some r) (hj : L[j]? = some s) (hij : i ≠ j) : ∀ b, r.own b → ¬ s.own b :=
  pw_get (fun _ _ h b hb ha => h b ha hb) S.dis hi hj hij
/-- A new object. -/
theorem Know.add (S : Know h0 g L) (x : Ob) : Know h0 (g.add x) (ob g.nx x :: L) := by
  refine ⟨S.ok.add x, S.kp.add S.lo x, fun r hr => ?_, List.pairwise_cons.2 ⟨fun r hr b hb hrb => ?_, S.dis⟩, S.ok0⟩
  · rcases List.mem_cons.1 hr with rfl | hr
    · exact ⟨ob.loc _ _, get_add_same .., fun b hb => by cases hb; rw [nx_add]; have := S.lo; omega⟩
    · obtain ⟨h1, h2, h3⟩ := S.at_ r hr
      exact ⟨h1, h1 g _ (by rw [nx_add]; omega) (fun b hb => get_add_ne (by have := h3 b hb; omega)) h2, fun b hb => by rw [nx_add]; have := h3 b hb; omega⟩
  · have := (S.at_ r hr).2.2 b hrb
    cases hb; omega
/-- Memory goes on. -/
theorem Know.call (S : Know h0 g L) {g' : Hp} (k : Kp g.nx g g') : Know h0 g' L :=
  ⟨S.ok.kp k, S.kp.trans (k.le S.lo), fun r hr => let ⟨h1, h2, h3⟩ := S.at_ r hr; ⟨h1, h1 g g' k.nx (fun b hb => k.get b (h3 b hb).2) h2, fun b hb => by have := h3 b hb; have := k.nx; omega⟩, S.dis, S.ok0⟩
theorem Know.rsv (S : Know h0 g L) (k : Nat) : Know h0 (g.rsv k) L := S.call ((Kp.refl _ g).rsv k)
/-- Memory goes on while some must not be written. -/
theorem Know.callg (S : Know h0 g L) {l : List Nat} {h' : Hp} (k : Kp g.nx (g.grd l) h') : Know h0 (h'.rst g) L := S.call ⟨k.get, k.nx, rfl, fun f => k.fr f⟩
theorem Know.okg (S : Know h0 g L) {l : List Nat} (hl : ∀ q ∈ l, q < g.nx) : (g.grd l).Ok := S.ok.grd hl
theorem Know.ftg (S : Know h0 g L) (l : List Nat) : Ft h0 (g.grd l) := ⟨S.ft.get, S.ft.nx⟩
/-- One changes. -/
theorem Know.upd (S : Know h0 g L) (i : Nat) {r r' : Rs} (hi : L[i]? = some r) {g' : Hp} (k : Ch r.own g g') (hl : r'.Loc) (hP : r'.P g') (ho : ∀ b, r'.own b → r.own b ∨ (g.nx ≤ b ∧ b < g'.nx)) : Know h0 g' (L.set i r') := by
  have hr := S.rng i hi
  have hi' : i < L.length := (List.getElem?_eq_some_iff.1 hi).1
  have ho' : ∀ b, r'.own b → h0.nx ≤ b ∧ b < g'.nx := fun b hb => by
    rcases ho b hb with h | h
    · have := hr b h; have := k.nx; omega
    · have := S.lo; omega
  refine ⟨⟨fun q hq => by rw [k.gd] at hq; exact Nat.lt_of_lt_of_le (S.ok.gd q hq) k.nx, k.fr S.ok.fr⟩, S.kp.trans (k.low S.lo fun o h => (hr o h).1), fun s hs => ?_, ?_, S.ok0⟩
  · obtain ⟨j, hj⟩ := List.mem_iff_getElem?.1 hs
    by_cases hij : i = j
    · subst hij
      rw [List.getElem?_set_self hi'] at hj
      obtain rfl := Option.some.inj hj
      exact ⟨hl, hP, ho'⟩
    · rw [List.getElem?_set_ne hij] at hj
      obtain ⟨h1, h2, h3⟩ := S.at_ s (List.mem_of_getElem? hj)
      exact ⟨h1, h1 g g' k.nx (fun b hb => k.get b (h3 b hb).2 fun h => S.sep i j hi hj hij b h hb) h2, fun b hb => by have := h3 b hb; have := k.nx; omega⟩
  · rw [List.pairwise_iff_getElem]
    intro a b ha hb hab
    rw [List.length_set] at ha hb
    have key : ∀ j s, i ≠ j → L[j]? = some s → ∀ q, r'.own q → ¬ s.own q := fun j s hij hj q hq hs => by
      rcases ho q hq with h | h
      · exact S.sep i j hi hj hij q h hs
      · have := (S.at_ s (List.mem_of_getElem? hj)).2.2 q hs; omega
    rw [List.getElem_set, List.getElem_set]
    by_cases h1 : i = a
    · rw [if_pos h1, if_neg (by omega)]
      exact key b _ (by omega) (List.getElem?_eq_getElem hb)
    · rw [if_neg h1]
      by_cases h2 : i = b
      · rw [if_pos h2]
        exact fun q hq hs => key a _ h1 (List.getElem?_eq_getElem ha) q hs hq
      · rw [if_neg h2]
        exact List.pairwise_iff_getElem.1 S.dis a b ha hb hab
theorem Ch.rst {R : Nat → Prop} {l : List Nat} {h' : Hp} (k : Ch R (g.grd l) h') : Ch R g (h'.rst g) := ⟨k.get, k.nx, rfl, fun f => k.fr f⟩
/-- Something new. -/
theorem Know.push (S : Know h0 g L) {r' : Rs} {g' : Hp} (k : Kp g.nx g g') (hl : r'.Loc) (hP : r'.P g') (ho : ∀ b, r'.own b → g.nx ≤ b ∧ b < g'.nx) : Know h0 g' (r' :: L) := by
  have T := S.call k
  refine ⟨T.ok, T.kp, fun r hr => ?_, List.pairwise_cons.2 ⟨fun r hr b hb hrb => ?_, T.dis⟩, S.ok0⟩
  · rcases List.mem_cons.1 hr with rfl | hr
    · exact ⟨hl, hP, fun b hb => by have := ho b hb; have := S.lo; omega⟩
    · exact T.at_ r hr
  · have := (S.at_ r hr).2.2 b hrb
    have := ho b hb; omega
/-- What a call has made comes to what there was. -/
theorem Know.comp (S : Know h0 g L) {g' : Hp} {M : List Rs} (T : Know g g' M) : Know h0 g' (M ++ L) := by
  have U := S.call T.kp
  refine ⟨U.ok, U.kp, fun r hr => ?_, List.pairwise_append.2 ⟨T.dis, U.dis, fun r hr s hs b hb hsb => ?_⟩, S.ok0⟩
  · rcases List.mem_append.1 hr with hr | hr
    · obtain ⟨h1, h2, h3⟩ := T.at_ r hr
      exact ⟨h1, h2, fun b hb => by have := h3 b hb; have := S.lo; omega⟩
    · exact U.at_ r hr
  · have := (T.at_ r hr).2.2 b hb
    have := (S.at_ s hs).2.2 b hsb
    omega
/-- The same behind a call while some must not be written. -/
theorem Know.compg (S : Know h0 g L) {l : List Nat} {h' : Hp} {M : List Rs} (T : Know (g.grd l) h' M) : Know h0 (h'.rst g) (M ++ L) := by
  refine S.comp (g' := h'.rst g) ⟨S.ok.kp ⟨T.kp.get, T.kp.nx, rfl, T.kp.fr⟩, ⟨T.kp.get, T.kp.nx, rfl, T.kp.fr⟩, fun r hr => ?_, T.dis, S.ok⟩
  obtain ⟨h1, h2, h3⟩ := T.at_ r hr
  exact ⟨h1, h1 h' _ (Nat.le_refl _) (fun _ _ => rfl) h2, h3⟩
/-- Some are forgotten, or come in another order. -/
theorem Know.sel (S : Know h0 g L) (is : List Nat) (hn : is.Nodup) {M : List Rs} (hM : M = is.filterMap (fun i => L[i]?)) : Know h0 g M := by
  subst hM
  refine ⟨S.ok, S.kp, fun r hr => ?_, ?_, S.ok0⟩
  · obtain ⟨i, _, hi⟩ := List.mem_filterMap.1 hr
    exact S.at_ r (List.mem_of_getElem? hi)
  · rw [List.pairwise_filterMap]
    exact hn.imp fun {i j} hij r hr s hs => S.sep i j hr hs hij
/-- What is known of the second one of two. -/
theorem Know.sub (S : Know h0 g L) (M : List Rs) (h : M.Sublist L) : Know h0 g M := ⟨S.ok, S.kp, fun r hr => S.at_ r (h.subset hr), S.dis.sublist h, S.ok0⟩
/-- What is appended to lies at a new number: also a row of no elements. -/
theorem append_newE {P : Program} {sT e : TypeId} {esz bytes : Nat} (T : AppT P sT e esz bytes) {h : Hp} {base : Nat} {a : Option Addr} {n c : Nat} {xs : List Value} (H : AccE h base e esz a n c xs)
    {x : Value} {ys : List Value} {k : Nat} (hx : ∃ a n c, x = .slice a n c) (hs : srcCells h esz x = some (ys, k)) (h1 : ys.all one = true) (hkp : 0 < k) {a' : Option Addr} {n' c' : Nat} {h' : Hp} (e1 : appendV P h sT sT (.slice a n c) x = some (.slice a' n' c', h')) : a' = some ⟨h.nx, 0, none⟩ := by
  rcases H with H | ⟨rfl, rfl, rfl, o, rfl, h2, h3, e2, m, h4⟩
  · exact append_new T H hx hs h1 hkp e1
  · obtain ⟨hz, info, z, hi, hzz, hrun⟩ := T.run
    rw [hrun h _ x hx, hs] at e1
    have hk0 : Nat.beq k 0 = false := by rw [Bool.eq_false_iff]; intro hh; have := Nat.eq_of_beq_eq_true hh; omega
    simp only [Option.bind_some, h1, cond_true, hk0, cond_false] at e1
    unfold appSome at e1
    have e3 : Nat.beq 0 unk = false := by
      rw [Bool.eq_false_iff]; intro hh; have := Nat.eq_of_beq_eq_true hh; have : unk = 18446744073709551616 := rfl; omega
    have e4 : Nat.ble (0 + k) 0 = false := by
      rw [Bool.eq_false_iff]; intro hh; have : 0 + k ≤ 0 := by simpa using hh
      omega
    have e5 : readAt h o 0 (0 * esz) = some [] := by rw [Nat.zero_mul, readAt_get h4 (by simp)]; rfl
    simp only [h4, e3, e4, e5, cond_false, Option.bind_some] at e1
    unfold appNew at e1
    obtain ⟨_, e1⟩ := cond_some e1
    injection e1 with e1
    injection e1 with e1 _
    injection e1 with e1 _
    exact e1.symm
/-! ### steps -/
theorem Know.rd (S : Know h0 g L) (i : Nat) {b : Nat} {c : List Value} {e : TypeId} {m : Md} (hi : L[i]? = some (ob b (.cells c e m))) {off n : Nat} {r : List Value} (hr : (c.drop off).take n = r) (hl : Nat.ble (off + n) c.length = true) : readAt g b off n = some r := by
  rw [readAt_get (S.obj i hi) (Nat.le_of_ble_eq_true hl), hr]
theorem Know.gdf (S : Know h0 g L) {b : Nat} (hb : h0.nx ≤ b) : g.guarded b = false := S.gl.free hb
theorem Know.gdfg (S : Know h0 g L) {b : Nat} {l : List Nat} (hb : h0.nx ≤ b) (hl : ∀ q ∈ l, q ≠ b) : (g.grd l).guarded b = false := guarded_of fun q hq => by
  rcases List.mem_append.1 hq with h | h
  · exact hl q h
  · have := S.gl q h; omega
theorem Know.cw (S : Know h0 g L) (i : Nat) {b : Nat} {c : List Value} {e : TypeId} {m : Md} (hi : L[i]? = some (ob b (.cells c e m))) {off : Nat} {vs : List Value} (hm : m ≠ .ro) (hl : Nat.ble (off + vs.length) c.length = true) (h1 : vs.all one = true) : canW g b off vs = true := canW_t (S.obj i hi) hm (S.gdf (S.orng i hi).1) (Nat.le_of_ble_eq_true hl) h1
theorem Know.wr (S : Know h0 g L) (i : Nat) {b : Nat} {c : List Value} {e : TypeId} {m : Md} (hi : L[i]? = some (ob b (.cells c e m))) {off : Nat} {vs : List Value} (hm : m ≠ .ro) (hl : Nat.ble (off + vs.length) c.length = true) (h1 : vs.all one = true) : Know h0 (g.wr b off vs) (L.set i (ob b (.cells (putAt c off vs) e m))) :=
  S.upd i hi (Ch.wr g b off vs) (ob.loc _ _) (wr_get (S.obj i hi) hm (S.gdf (S.orng i hi).1) (Nat.le_of_ble_eq_true hl) h1) fun _ h => .inl h
theorem Know.cwg (S : Know h0 g L) (i : Nat) {b : Nat} {c : List Value} {e : TypeId} {m : Md} (hi : L[i]? = some (ob b (.cells c e m))) {l : List Nat} (hg : ∀ q ∈ l, q ≠ b) {off : Nat} {vs : List Value} (hm : m ≠ .ro) (hl : Nat.ble (off + vs.length) c.length = true) (h1 : vs.all one = true) : canW (g.grd l) b off vs = true := canW_t (h := g.grd l) (S.obj i hi) hm (S.gdfg (S.orng i hi).1 hg) (Nat.le_of_ble_eq_true hl) h1
theorem Know.wrg (S : Know h0 g L) (i : Nat) {b : Nat} {c : List Value} {e : TypeId} {m : Md} (hi : L[i]? = some (ob b (.cells c e m))) {l : List Nat} (hg : ∀ q ∈ l, q ≠ b) {off : Nat} {vs : List Value} (hm : m ≠ .ro) (hl : Nat.ble (off + vs.length) c.length = true) (h1 : vs.all one = true) : Know h0 (((g.grd l).wr b off vs).rst g) (L.set i (ob b (.cells (putAt c off vs) e m))) :=
  S.upd i hi (Ch.wr (g.grd l) b off vs).rst (ob.loc _ _) (wr_get (h := g.grd l) (S.obj i hi) hm (S.gdfg (S.orng i hi).1 hg) (Nat.le_of_ble_eq_true hl) h1) fun _ h => .inl h
/-- Numbers are laid aside, and used later. -/
theorem Know.rsvK (S : Know h0 g L) (k : Nat) : Know h0 (g.rsv k) (hole g.nx k [] :: L) :=
  S.push ((Kp.refl _ g).rsv k) (hole.loc _ _ _) (fun o h1 _ _ => S.ok.fr o h1) fun b hb => ⟨hb.1, hb.2.1⟩
theorem Know.fre (S : Know h0 g L) (i : Nat) {lo k : Nat} {used : List Nat} (hi : L[i]? = some (hole lo k used)) {q : Nat} (h1 : lo ≤ q) (h2 : q < lo + k) (h3 : q ∉ used) : g.free q = true := free_t (S.get i hi q h1 h2 h3)
theorem Know.lay (S : Know h0 g L) (i : Nat) {lo k : Nat} {used : List Nat} (hi : L[i]? = some (hole lo k used)) {q : Nat} (h1 : lo ≤ q) (h2 : q < lo + k) (h3 : q ∉ used) (x : Ob) : Know h0 (g.lay q x) (ob q x :: L.set i (hole lo k (q :: used))) := by
  have hq := S.rng i hi q ⟨h1, h2, h3⟩
  have ge : ∀ o, o ≠ q → (g.lay q x).get o = g.get o := fun o ho => by rw [get_lay, if_neg ho]
  have S1 : Know h0 (g.lay q x) (L.set i (hole lo k (q :: used))) := S.upd i hi (g' := g.lay q x) ⟨fun o _ ho => ge o (fun h => ho (h ▸ ⟨h1, h2, h3⟩)), Nat.le_refl _, rfl, fun f => f.lay hq.2 x⟩ (hole.loc _ _ _) (fun o a b c => (ge o (fun h => c (h ▸ List.mem_cons_self ..))).trans (S.get i hi o a b (fun h => c (List.mem_cons_of_mem _ h)))) fun b hb => .inl ⟨hb.1, hb.2.1, fun h => hb.2.2 (List.mem_cons_of_mem _ h)⟩
  refine ⟨S1.ok, S1.kp, fun r hr => ?_, List.pairwise_cons.2 ⟨fun r hr b hb hrb => ?_, S1.dis⟩, S.ok0⟩
  · rcases List.mem_cons.1 hr with rfl | hr
    · exact ⟨ob.loc _ _, by show (g.lay q x).get q = _; rw [get_lay, if_pos rfl], fun b hb => by cases hb; exact hq⟩
    · exact S1.at_ r hr
  · obtain rfl : b = q := hb
    obtain ⟨j, hj⟩ := List.mem_iff_getElem?.1 hr
    by_cases hij : i = j
    · subst hij
      rw [List.getElem?_set_self (List.getElem?_eq_some_iff.1 hi).1] at hj
      obtain rfl := Option.some.inj hj
      exact hrb.2.2 (List.mem_cons_self ..)
    · rw [List.getElem?_set_ne hij] at hj
      exact S.sep i j hi hj hij b ⟨h1, h2, h3⟩ hrb
theorem rst_eq {h h' : Hp} (e : h'.gd = h.gd) : h'.rst h = h' := by
  cases h'; unfold Hp.rst; cases e; rfl
/-- An empty row is a list that may grow. -/
theorem Know.acc0 (S : Know h0 g L) (i : Nat) {b : Nat} {e' : TypeId} {m : Md} (hi : L[i]? = some (ob b (.cells [] e' m))) (lo : Nat) (hlo : lo ≤ b) (e : TypeId) (esz : Nat) : Know h0 g (L.set i (acc lo e esz (some ⟨b, 0, none⟩) 0 0 [])) :=
  S.upd i hi (Ch.refl _ g) (acc.loc _ _ _ _ _ _ _) (.inr ⟨rfl, rfl, rfl, b, rfl, hlo, (S.orng i hi).2, _, _, S.obj i hi⟩) fun q hq => .inl (by injection hq with hq; injection hq with hq; exact hq.symm)
/-- A list grows. -/
theorem Know.appg (S : Know h0 g L) (i : Nat) {lo : Nat} {e : TypeId} {esz : Nat} {a : Option Addr} {n c : Nat} {xs : List Value} (hi : L[i]? = some (acc lo e esz a n c xs)) (hlo : h0.nx ≤ lo) (hlo2 : lo ≤ g.nx) {P : Program} {sT : TypeId} {bytes : Nat} (T : AppT P sT e esz bytes) {l : List Nat} (hl : ∀ q ∈ l, q < lo)
    {x : Value} {ys : List Value} {k : Nat} (hx : ∃ a n c, x = .slice a n c) (hs : srcCells g esz x = some (ys, k)) (hk : ys.length = k * esz) (h1 : ys.all one = true) (hB : (n + k + (n + k)) * bytes ≤ 281474976710656) (hU : n + k < big) :
    ∃ a' n' c' h', appendV P (g.grd l) sT sT (.slice a n c) x = some (.slice a' n' c', h') ∧ n' = n + k ∧ Know h0 (h'.rst g) (L.set i (acc lo e esz a' n' c' (xs ++ ys))) := by
  have A : AccE (g.grd l) lo e esz a n c xs := S.get i hi
  have G : GdLt (g.grd l) lo := fun q hq => by
    rcases List.mem_append.1 hq with h | h
    · exact hl q h
    · have := S.gl q h; omega
  obtain ⟨a', n', c', h', e1, A', en, k'⟩ := append_accE T (h := g.grd l) A hlo2 G hx hs hk h1 hB hU
  refine ⟨a', n', c', h', e1, en, S.upd i hi (r' := acc lo e esz a' n' c' (xs ++ ys)) (g' := h'.rst g) ⟨fun o ho hne => k'.get o ho hne, k'.nx, rfl, fun f => k'.fr f⟩ (acc.loc _ _ _ _ _ _ _) (A'.keep (fun _ _ _ => rfl) (Nat.le_refl _)) fun b hb => ?_⟩
  rcases Nat.eq_zero_or_pos k with rfl | hkp
  · left
    show a = some ⟨b, 0, none⟩
    rw [← hb]
    obtain ⟨_, info, z, hi', hzz, hrun⟩ := T.run
    rw [hrun _ _ x hx, show srcCells (g.grd l) esz x = some (ys, 0) from hs] at e1
    simp only [Option.bind_some, h1, cond_true, Nat.beq_refl] at e1
    unfold appNone at e1
    split at e1
    · injection e1 with e1; injection e1 with e1 _; injection e1
    · obtain ⟨_, e1⟩ := cond_some e1
      injection e1 with e1; injection e1 with e1 _; injection e1
    · cases e1
  · have := append_newE T A hx hs h1 hkp e1
    have hb : a' = some ⟨b, 0, none⟩ := hb
    rw [this] at hb; injection hb with hb; injection hb with hb
    have := (A'.lt (by rw [this])).2
    exact .inr ⟨Nat.le_of_eq hb, by rw [← hb]; exact this⟩
/-- The same where nothing else is under way. -/
theorem Know.app (S : Know h0 g L) (i : Nat) {lo : Nat} {e : TypeId} {esz : Nat} {a : Option Addr} {n c : Nat} {xs : List Value} (hi : L[i]? = some (acc lo e esz a n c xs)) (hlo : h0.nx ≤ lo) (hlo2 : lo ≤ g.nx) {P : Program} {sT : TypeId} {bytes : Nat} (T : AppT P sT e esz bytes)
    {x : Value} {ys : List Value} {k : Nat} (hx : ∃ a n c, x = .slice a n c) (hs : srcCells g esz x = some (ys, k)) (hk : ys.length = k * esz) (h1 : ys.all one = true) (hB : (n + k + (n + k)) * bytes ≤ 281474976710656) (hU : n + k < big) :
    ∃ a' n' c' h', appendV P g sT sT (.slice a n c) x = some (.slice a' n' c', h') ∧ n' = n + k ∧ Know h0 h' (L.set i (acc lo e esz a' n' c' (xs ++ ys))) := by
  have A : AccE g lo e esz a n c xs := S.get i hi
  obtain ⟨a', n', c', h', e1, en, S'⟩ := S.appg (l := []) i hi hlo hlo2 T (fun _ h => by cases h) hx hs hk h1 hB hU
  obtain ⟨a2, n2, c2, h2, e2, _, _, k'⟩ := append_accE T A hlo2 (fun q hq => by have := S.gl q hq; omega) hx hs hk h1 hB hU
  have e1' : appendV P g sT sT (.slice a n c) x = some (.slice a' n' c', h') := e1
  rw [e1'] at e2
  have : h' = h2 := by injection e2 with e2; injection e2
  subst this
  rw [rst_eq k'.gd] at S'
  exact ⟨a', n', c', h', e1', en, S'⟩
end
end Go.Ev
/- slices.Insert of one whole number, among what is owned. -/
namespace Go.Ev
open Go
end Go.Ev
/- SatNames: plain law: variables with other numbers, and literals with the contrary sign. -/
namespace Go.Proofs.YtfgfhplgnfbaaaaDoor
open Go Go.Ev
/-! ### the renaming -/
/-- The numbers of the variables: each from one on, once. -/
structure Ren (N : Nat) (tn : List Nat) : Prop where
  perm : tn.Perm ((List.range N).map (· + 1))
section
variable {N : Nat} {tn : List Nat} (R : Ren N tn)
include R
theorem Ren.len : tn.length = N := by rw [R.perm.length_eq, List.length_map, List.length_range]
theorem Ren.nd : tn.Nodup := R.perm.nodup_iff.2 (by
  unfold List.Nodup
  rw [List.pairwise_map]
  exact List.nodup_range.imp fun h e => h (by omega))
theorem Ren.rng {v : Nat} (hv : v < N) : 1 ≤ tn.getD v 0 ∧ tn.getD v 0 ≤ N := by
  have hl := R.len
  have h : tn.getD v 0 ∈ tn := by rw [List.getD_eq_getElem?_getD, List.getElem?_eq_getElem (by omega)]; exact List.getElem_mem _
  obtain ⟨i, hi, e⟩ := List.mem_map.1 (R.perm.subset h)
  have := List.mem_range.1 hi
  omega
theorem Ren.inj {v w : Nat} (hv : v < N) (hw : w < N) (e : tn.getD v 0 = tn.getD w 0) : v = w := by
  have hl := R.len
  rw [List.getD_eq_getElem?_getD, List.getD_eq_getElem?_getD, List.getElem?_eq_getElem (by omega), List.getElem?_eq_getElem (by omega)] at e
  have e : tn[v]'(by omega) = tn[w]'(by omega) := e
  have nd := List.pairwise_iff_getElem.1 R.nd
  rcases Nat.lt_trichotomy v w with h | h | h
  · exact absurd e (nd v w (by omega) (by omega) h)
  · exact h
  · exact absurd e.symm (nd w v (by omega) (by omega) h)
theorem Ren.sur {j : Nat} (hj : j < N) : tn.idxOf (j + 1) < N ∧ tn.getD (tn.idxOf (j + 1)) 0 = j + 1 := by
  have hl := R.len
  have hm : j + 1 ∈ tn := R.perm.mem_iff.2 (List.mem_map.2 ⟨j, List.mem_range.2 hj, rfl⟩)
  have h := List.idxOf_lt_length_of_mem hm
  refine ⟨by omega, ?_⟩
  rw [List.getD_eq_getElem?_getD, List.getElem?_eq_getElem h]
  exact List.getElem_idxOf h
theorem Ren.back {v : Nat} (hv : v < N) : tn.idxOf (tn.getD v 0 - 1 + 1) = v := by
  have h := R.rng hv
  have e : tn.getD v 0 - 1 + 1 = tn.getD v 0 := by omega
  have h2 := R.sur (j := tn.getD v 0 - 1) (by omega)
  rw [e] at h2 ⊢
  exact R.inj h2.1 hv h2.2
end
end Go.Proofs.YtfgfhplgnfbaaaaDoor
/- What is so as long as some objects stay; lists of lists that grow: for this seat. -/
namespace Go.Ev
open Go
/-- What is so as long as some objects stay. -/
def clo (own : Nat → Prop) (F : Hp → Prop) : Rs := ⟨own, fun h => ∀ h' : Hp, h.nx ≤ h'.nx → (∀ b, own b → h'.get b = h.get b) → F h'⟩
theorem clo.loc (own : Nat → Prop) (F : Hp → Prop) : (clo own F).Loc := fun _ _ hn he hP h'' hn2 he2 => hP h'' (Nat.le_trans hn hn2) fun b hb => (he2 b hb).trans (he b hb)
theorem clo.get {own : Nat → Prop} {F : Hp → Prop} {h : Hp} (hP : (clo own F).P h) : F h := hP h (Nat.le_refl _) fun _ _ => rfl
end Go.Ev
/- Conditions of functions' code, printed by a program of ours. -/
namespace Go.Proofs.YtfgfhplgnfbaaaaDoor
open Go Go.Ev
set_option maxRecDepth 100000
set_option linter.unusedVariables false
/-! sward/swardlaw20.SatNames -/
end Go.Proofs.YtfgfhplgnfbaaaaDoor
/- Conditions of functions' code, printed by a program of ours. -/
namespace Go.Proofs.YtfgfhplgnfbaaaaDoor
open Go Go.Ev
set_option maxRecDepth 100000
set_option linter.unusedVariables false
/-! sward/swardlaw20.SatForced -/
end Go.Proofs.YtfgfhplgnfbaaaaDoor
/- SatForced of layer 20: the loops of its law. -/
namespace Go.Proofs.YtfgfhplgnfbaaaaDoor
open Go Go.Ev
section
variable {v0 : Array Value} {x1 x2 : Int} {N : Nat} (hN : 1 ≤ N ∧ N ≤ 8) {ms : List Nat} (hms : ∀ m ∈ ms, m < 9223372036854775808) (hml : ms.length < 1000000)
  {hB : Hp} (ok : hB.Ok) {b7 : Nat} (hb7 : b7 < hB.nx) {aF a9 : Option Addr} {nF cF n9 c9 : Nat} (g7 : hB.get b7 = some (.cells [.int .i64 (Int.ofNat N), .slice aF nF cF] 30 .fix)) (M : IntsAt hB a9 n9 (ms.map Int.ofNat))
include hN hms hml ok hb7 g7 M
end
end Go.Proofs.YtfgfhplgnfbaaaaDoor
/- SatForced of layer 20: each model holds. -/
namespace Go.Proofs.YtfgfhplgnfbaaaaDoor
open Go Go.Ev
section
variable {v0 : Array Value} {x1 x2 : Int} {N : Nat} (hN : 1 ≤ N ∧ N ≤ 8) {cls : List (List Int)} (hcl : cls.length ≤ 14) (hc : ∀ l ∈ cls, Cv (Int.ofNat N) l) {ms : List Nat} (hms : ∀ m ∈ ms, m < 9223372036854775808 ∧ ∀ l ∈ cls, l.any (isB m) = true) (hml : ms.length < 1000000)
  {hB : Hp} (ok : hB.Ok) (ht : Tb hB) {b7 : Nat} (hb7 : b7 < hB.nx) {aF a9 : Option Addr} {nF cF n9 c9 : Nat} (g7 : hB.get b7 = some (.cells [.int .i64 (Int.ofNat N), .slice aF nF cF] 30 .fix)) (F : IntssAt hB aF nF cls) (M : IntsAt hB a9 n9 (ms.map Int.ofNat))
  {a10 a14 : Option Addr} {n10 c10 n14 c14 : Nat} {xs : List Int} (X : IntsAt hB a10 n10 xs) (Y : IntsAt hB a14 n14 xs) (hxl : xs.length < 1000000)
include hN hcl hc hms hml ok ht hb7 g7 F M X Y hxl
end
end Go.Proofs.YtfgfhplgnfbaaaaDoor
/- SatForced of layer 20: its law, joined. -/
namespace Go.Proofs.YtfgfhplgnfbaaaaDoor
open Go Go.Ev
end Go.Proofs.YtfgfhplgnfbaaaaDoor
/- SatNames: contracts. -/
namespace Go.Proofs.YtfgfhplgnfbaaaaDoor
set_option maxRecDepth 100000
open Go Go.Ev
abbrev iv (xs : List Int) : List Value := xs.map (Value.int .i64)
theorem app32' : AppT Tryd.prog 32 3 1 8 := app32
end Go.Proofs.YtfgfhplgnfbaaaaDoor
/- SatProves: lists of lists that can be appended to; the reference's branch. -/
namespace Go.Proofs.YtfgfhplgnfbaaaaDoor
set_option maxRecDepth 100000
open Go Go.Ev
/-- A list of lists that can be appended to: nothing, a row of just its size, or one that grows. -/
def Lw (h : Hp) (a : Option Addr) (n c : Nat) : Prop := (a = none ∧ n = 0 ∧ c = 0) ∨ ∃ o cs, a = some ⟨o, 0, none⟩ ∧ n = cs.length ∧ cs.all one = true ∧ o < h.nx ∧ ((c = n ∧ h.get o = some (.cells cs 32 .fix)) ∨ (c = unk ∧ cs ≠ [] ∧ h.get o = some (.cells cs 32 .grow)))
def lns (a : Option Addr) (n c : Nat) : Rs := ⟨fun o => a = some ⟨o, 0, none⟩, fun h => Lw h a n c⟩
theorem lns.loc (a : Option Addr) (n c : Nat) : (lns a n c).Loc := fun h h' hn hb w => by
  rcases w with w | ⟨o, cs, e1, e2, e3, e4, w⟩
  · exact .inl w
  · refine .inr ⟨o, cs, e1, e2, e3, Nat.lt_of_lt_of_le e4 hn, ?_⟩
    rw [hb o e1]; exact w
theorem Lw.src {h : Hp} {a : Option Addr} {n c : Nat} (w : Lw h a n c) : ∃ ys, srcCells h 1 (.slice a n c) = some (ys, n) ∧ ys.length = n ∧ ys.all one = true := by
  rcases w with ⟨rfl, rfl, rfl⟩ | ⟨o, cs, rfl, rfl, e3, _, w⟩
  · exact ⟨[], rfl, rfl, rfl⟩
  · refine ⟨cs, ?_, rfl, e3⟩
    rcases w with ⟨_, w⟩ | ⟨_, _, w⟩
    · exact src_get (by rw [readAt_get w (by omega)]; simp)
    · exact src_get (by rw [readAt_get w (by omega)]; simp)
theorem app_fix {P : Program} {sT e : TypeId} {bytes : Nat} (T : AppT P sT e 1 bytes) {g : Hp} {o : Nat} {cs : List Value} (hg : g.get o = some (.cells cs e .fix)) {x : Value} {ys : List Value} {k : Nat} (hx : ∃ a n c, x = .slice a n c) (hs : srcCells g 1 x = some (ys, k)) (h1 : ys.all one = true) (h0 : 0 < k)
    (hB : (cs.length + k + (cs.length + k)) * bytes ≤ 281474976710656) (hU : cs.length + k < big) :
    appendV P g sT sT (.slice (some ⟨o, 0, none⟩) cs.length cs.length) x = some (.slice (some ⟨g.nx, 0, none⟩) (cs.length + k) unk, g.add (.cells (cs ++ ys) e .grow)) := by
  have hu : unk = 18446744073709551616 := rfl
  have hb : big = 4611686018427387904 := rfl
  obtain ⟨_, info, z, hi, hzz, hrun⟩ := T.run
  rw [hrun g _ _ hx, hs]
  have hk0 : Nat.beq k 0 = false := by rw [Bool.eq_false_iff]; intro hh; have := Nat.eq_of_beq_eq_true hh; omega
  simp only [Option.bind_some, h1, cond_true, hk0, cond_false]
  have e3 : Nat.beq cs.length unk = false := by rw [Bool.eq_false_iff]; intro hh; have := Nat.eq_of_beq_eq_true hh; omega
  have e4 : Nat.ble (cs.length + k) cs.length = false := by
    rw [Bool.eq_false_iff]; intro hh
    have : cs.length + k ≤ cs.length := by simpa using hh
    omega
  have e5 : readAt g o 0 (cs.length * 1) = some cs := by rw [readAt_get hg (by omega)]; simp
  unfold appSome
  simp only [hg, e3, e4, e5, cond_false, Option.bind_some]
  unfold appNew
  rw [ble_t hB, blt_t hU]; rfl
theorem app_none {P : Program} {sT e : TypeId} {bytes : Nat} (T : AppT P sT e 1 bytes) {g : Hp} {a : Option Addr} {n c : Nat} (hc : (a = none ∧ n = 0 ∧ c = 0) ∨ (∃ o, a = some o) ∧ n ≤ c) {x : Value} (hx : ∃ a n c, x = .slice a n c) (hs : srcCells g 1 x = some ([], 0)) :
    appendV P g sT sT (.slice a n c) x = some (.slice a n c, g) := by
  obtain ⟨_, info, z, hi, hzz, hrun⟩ := T.run
  rw [hrun g _ _ hx, hs]
  simp only [Option.bind_some, List.all_nil, cond_true, Nat.beq_refl]
  rcases hc with ⟨rfl, rfl, rfl⟩ | ⟨⟨o, rfl⟩, h⟩
  · rfl
  · show (bif Nat.ble n c then some _ else none) = _
    rw [ble_t h]; rfl
/-- A list of lists is appended to. -/
theorem Know.appL {h0 g : Hp} {L : List Rs} (S : Know h0 g L) (i : Nat) {a : Option Addr} {n c : Nat} (hi : L[i]? = some (lns a n c)) {x : Value} {ys : List Value} {k : Nat} (hx : ∃ a n c, x = .slice a n c) (hs : srcCells g 1 x = some (ys, k)) (hk : ys.length = k) (h1 : ys.all one = true) (hB : n + k ≤ 1000000) :
    ∃ a' n' c' h', appendV Tryd.prog g 28 28 (.slice a n c) x = some (.slice a' n' c', h') ∧ n' = n + k ∧ Know h0 h' (L.set i (lns a' n' c')) := by
  have hu : unk = 18446744073709551616 := rfl
  have hb : big = 4611686018427387904 := rfl
  have hil : i < L.length := S.len hi
  have w : Lw g a n c := S.get i hi
  -- by an append to a list that grows
  have grow : ∀ cs, L[i]? = some (lns a n c) → AccE g h0.nx 32 1 a n c cs → cs.all one = true → (cs ++ ys ≠ [] ∨ (a = none ∧ k = 0)) → (∀ b, (acc h0.nx 32 1 a n c cs).own b → (lns a n c).own b) → ∃ a' n' c' h', appendV Tryd.prog g 28 28 (.slice a n c) x = some (.slice a' n' c', h') ∧ n' = n + k ∧ Know h0 h' (L.set i (lns a' n' c')) := by
    intro cs hi A hone hne hown
    have S1 : Know h0 g (L.set i (acc h0.nx 32 1 a n c cs)) := S.upd i hi (Ch.refl _ g) (acc.loc _ _ _ _ _ _ _) A fun b hb => .inl (hown b hb)
    have hi1 : (L.set i (acc h0.nx 32 1 a n c cs))[i]? = some (acc h0.nx 32 1 a n c cs) := by rw [List.getElem?_set_self hil]
    obtain ⟨a', n', c', h', e, en, S2⟩ := S1.app i hi1 (Nat.le_refl _) S.lo app28 hx hs (by omega) h1 (by omega) (by omega)
    rw [List.set_set] at S2
    have hi2 : (L.set i (acc h0.nx 32 1 a' n' c' (cs ++ ys)))[i]? = some (acc h0.nx 32 1 a' n' c' (cs ++ ys)) := by rw [List.getElem?_set_self hil]
    have A2 : AccE h' h0.nx 32 1 a' n' c' (cs ++ ys) := S2.get i hi2
    have hall : (cs ++ ys).all one = true := by rw [List.all_append, hone, h1]; rfl
    have S3 := S2.upd i hi2 (r' := lns a' n' c') (Ch.refl _ h') (lns.loc _ _ _) (by
      rcases A2 with (⟨e1, e2, e3, _⟩ | ⟨o, e1, e2, e3, _, e4, e5⟩) | ⟨e1, e2, e3, o, e4, _, _, _, _, _⟩
      · exact .inl ⟨e1, e2, e3⟩
      · rcases hne with hne | ⟨ha, hk0⟩
        · exact .inr ⟨o, cs ++ ys, e1, by omega, hall, e4, .inr ⟨e2, hne, e5⟩⟩
        · -- nothing was appended to nothing
          subst hk0
          have hys : ys = [] := List.length_eq_zero_iff.1 hk
          subst hys
          have w2 := w
          rcases w2 with ⟨_, h2, h3⟩ | ⟨o2, cs2, h2, _⟩
          · have := app_none app28 (.inl ⟨ha, h2, h3⟩) hx hs
            rw [this] at e
            injection e with e; injection e with e _; injection e with e _ _
            rw [← e, ha] at e1; cases e1
          · rw [ha] at h2; cases h2
      · rcases hne with hne | ⟨ha, hk0⟩
        · exact absurd e1 hne
        · subst hk0
          have hys : ys = [] := List.length_eq_zero_iff.1 hk
          subst hys
          rcases w with ⟨_, h2, h3⟩ | ⟨o2, cs2, h2, _⟩
          · have := app_none app28 (.inl ⟨ha, h2, h3⟩) hx hs
            rw [this] at e
            injection e with e; injection e with e _; injection e with e _ _
            rw [← e, ha] at e4; cases e4
          · rw [ha] at h2; cases h2) fun b hb => .inl hb
    rw [List.set_set] at S3
    exact ⟨a', n', c', h', e, en, S3⟩
  rcases w with ⟨h2, h3, h4⟩ | ⟨o, cs, h2, h3, h4, h5, w⟩
  · subst h2 h3 h4
    exact grow [] hi (.inl (Acc.nil ..)) rfl (by
      cases ys with
      | nil => exact .inr ⟨rfl, hk.symm⟩
      | cons y l => exact .inl (by simp)) fun b hb => by cases hb
  · have hor := (S.rng i hi o h2).1
    rcases w with ⟨hc, w⟩ | ⟨hc, hne, w⟩
    · rcases Nat.eq_zero_or_pos k with hk0 | hk0
      · subst hk0
        have hys : ys = [] := List.length_eq_zero_iff.1 hk
        subst hys
        refine ⟨a, n, c, g, app_none app28 (.inr ⟨⟨_, h2⟩, by omega⟩) hx hs, rfl, ?_⟩
        have : L.set i (lns a n c) = L := by
          refine List.ext_getElem? fun j => ?_
          by_cases hj : i = j
          · subst hj; rw [List.getElem?_set_self hil]; exact hi.symm
          · rw [List.getElem?_set_ne hj]
        rw [this]; exact S
      · have e := app_fix app28 w hx hs h1 hk0 (by omega) (by omega)
        refine ⟨some ⟨g.nx, 0, none⟩, cs.length + k, unk, g.add (.cells (cs ++ ys) 32 .grow), by rw [h2, hc, h3]; exact e, by omega, ?_⟩
        have ge := get_add_same g (.cells (cs ++ ys) 32 .grow)
        refine S.upd i hi (r' := lns (some ⟨g.nx, 0, none⟩) (cs.length + k) unk) (Ch.kp ((Kp.refl _ g).add (Nat.le_refl _) _)) (lns.loc _ _ _) (.inr ⟨g.nx, cs ++ ys, rfl, by rw [List.length_append]; omega, by rw [List.all_append, h4, h1]; rfl, by rw [nx_add]; omega, .inr ⟨rfl, fun hh => ?_, ge⟩⟩) fun b hb => .inr ?_
        · have hys : ys = [] := (List.append_eq_nil_iff.1 hh).2
          rw [hys, List.length_nil] at hk; omega
        · have hb : some (⟨g.nx, 0, none⟩ : Addr) = some ⟨b, 0, none⟩ := hb
          injection hb with hb; injection hb with hb
          rw [nx_add]; omega
    · exact grow cs hi (.inl (.inr ⟨o, h2, hc, by omega, hor, h5, w⟩)) h4 (.inl (by simp [hne])) fun b hb => hb
section
variable {O : CallF} (hO : Oth O)
include hO
/-- 'branch'. -/
theorem ct139 {h : Hp} (ok : h.Ok) {a0 : Option Addr} {n0 c0 : Nat} {ds : List Int} (X : IntsAt h a0 n0 ds) (hl : ds.length ≤ 1000) (x : Int) : Ret Tryd.prog O 139 [.slice a0 n0 c0, .int .i64 x] h fun v h' => ∃ a n c, v = .slice a n c ∧ Know h h' [acc h.nx 3 1 a n c (iv (ds ++ [x]))] := by
  refine rk139 (hO := hO _ _ _ (by decide)) (hh := ?_) ..
  unfold T139
  have hn := X.1
  intro g1
  have S : Know h g1 [_] := (Know.nil ok).add _
  have S : Know h g1 [acc h.nx 3 1 (some ⟨h.nx, 0, none⟩) 0 0 []] := S.acc0 0 rfl h.nx (Nat.le_refl _) 3 1
  have f1 := S.ft
  obtain ⟨a2, n2, c2, h5, e5, en, S⟩ := S.app 0 rfl (Nat.le_refl _) S.lo app32' (x := .slice a0 n0 c0) (ys := iv ds) (k := n0) ⟨_, _, _, rfl⟩ (IntsAt.src (X.to g1)) (by rw [List.length_map]; omega) (List.all_eq_true.2 fun y hy => by obtain ⟨_, _, rfl⟩ := List.mem_map.1 hy; rfl) (by omega) (by unfold big; omega)
  have S : Know h h5 [acc h.nx 3 1 a2 n2 c2 (iv ds)] := S
  refine ⟨_, _, _, _, e5, ?_⟩
  intro g6
  have S : Know h g6 [_, _] := S.add _
  obtain ⟨a7, n8, c9, h10, e10, en2, S⟩ := S.app 1 rfl (Nat.le_refl _) S.lo app32' (x := .slice (some ⟨h5.nx, 0, none⟩) 1 1) (ys := [.int .i64 x]) (k := 1) ⟨_, _, _, rfl⟩ (src_get (n := 1) (c := 1) (esz := 1) (off := 0) (S.rd 0 rfl rfl rfl)) rfl rfl (by omega) (by unfold big; omega)
  refine ⟨_, _, _, _, e10, _, _, _, rfl, ?_⟩
  have S : Know h h10 [_, _] := S
  have e : iv (ds ++ [x]) = iv ds ++ [.int .i64 x] := List.map_append
  rw [e]
  exact S.sel [1] (by decide) rfl
end
end Go.Proofs.YtfgfhplgnfbaaaaDoor
/- SatNames: loops. -/
namespace Go.Proofs.YtfgfhplgnfbaaaaDoor
set_option maxRecDepth 100000
open Go Go.Ev
/-- A list that a call has made. -/
theorem Know.list {h0 g g' : Hp} {L : List Rs} (S : Know h0 g L) (k : Kp g.nx g g') {a : Option Addr} {n : Nat} {xs : List Int} (X : IntsAt g' a n xs) (hf : ∀ b off, a = some ⟨b, off, none⟩ → g.nx ≤ b) :
    Know h0 g' (clo (fun o => ∃ off, a = some ⟨o, off, none⟩) (fun h => IntsAt h a n xs) :: L) :=
  S.push (r' := clo (fun o => ∃ off, a = some ⟨o, off, none⟩) (fun h => IntsAt h a n xs)) k (clo.loc _ _) (fun h' hn he => ints_sub X (fun b off e _ => he b ⟨off, e⟩) hn) fun b hb => by
    obtain ⟨off, e⟩ := hb
    exact ⟨hf b off e, SlAt.lt X b off e⟩
section
variable {O : CallF} (hO : Oth O)
include hO
/-- The closure's value. -/
abbrev v18 (b10 b6 : Nat) : Value := .func (.func 18) #[] #[.pointer (some ⟨b10, 0, none⟩), .pointer (some ⟨b6, 0, none⟩)]
end
end Go.Proofs.YtfgfhplgnfbaaaaDoor
