/- What a search finds: the first model, or lines that follow. -/
import Derived.Test.YtfgfhplgnfbaaaaDoorYF
import Derived.Test.YtfgfhplgnfbaaaaDoorYE
import Derived.Test.YtfgfhplgnfbaaaaDoorProg
import Derived.Test.YtfgfhplgnfbaaaaDoorYC
import Derived.KernelRfl
import Derived.Test.YtfgfhplgnfbaaaaDoorYD
import Derived.Lib.LaidTab
import Derived.WalkKit
import Derived.ProofKit
import Derived.OpenShut
import Derived.Deep.DeepHandedRow
import Derived.Test.YtfgfhplgnfbaaaaDoorCards
import Derived.Test.YtfgfhplgnfbaaaaDoorTie
namespace Go.Proofs.YtfgfhplgnfbaaaaDoor
open Go Go.Ev
/-- An earlier model: the first variable in which they differ is false. -/
def LexLt (N a b : Nat) : Prop := ∃ i, i < N ∧ a.testBit i = false ∧ b.testBit i = true ∧ ∀ j, j < i → a.testBit j = b.testBit j
/-- A literal and its contrary are of one variable. -/
theorem dif_ne {l : List Int} (d : Dif l) {x : Int} (h1 : x ∈ l) (h2 : -x ∈ l) (h0 : x ≠ 0) : False := by
  induction l with
  | nil => cases h1
  | cons z l ih =>
    obtain ⟨d1, d2⟩ := List.pairwise_cons.1 d
    rcases List.mem_cons.1 h1 with e1 | e1 <;> rcases List.mem_cons.1 h2 with e2 | e2
    · omega
    · have := d1 _ e2; rw [Int.natAbs_neg, e1] at this; omega
    · have := d1 _ e1; rw [← e2, Int.natAbs_neg] at this; omega
    · exact ih d2 e1 e2
/-- What holds at a search's end. -/
structure Spec (N : Nat) (cls : List (List Int)) (gs ds : List Int) (s : Sr) : Prop where
  how : s.how = 0 ∨ s.how = 1 ∨ s.how = 2
  good : ∀ l ∈ s.lines, Cv (Int.ofNat N) l
  rup : accF gs cls s.lines 0 = none
  clo : s.how = 1 → Cv (Int.ofNat N) s.c ∧ (∀ x ∈ s.c, -x ∈ ds) ∧ ∃ L, s.lines = L ++ [s.c]
  ful : s.how = 0 → (∀ i, (s.y ||| s.m).testBit i = decide (i < N)) ∧ s.y &&& s.m = 0
  fnd : s.how = 0 → (∀ x ∈ gs ++ ds, isB s.y x = true) ∧ (∀ l ∈ cls, l.any (isB s.y) = true) ∧ ∀ m', (∀ x ∈ gs ++ ds, isB m' x = true) → (∀ l ∈ cls, l.any (isB m') = true) → (∀ i, i < N → s.y.testBit i = m'.testBit i) ∨ LexLt N s.y m'
theorem der_true {cls : List (List Int)} {xs : List Int} {m : Nat} (hd : ∀ l ∈ cls, ∀ x ∈ l, x ≠ 0) (hx : ∀ x ∈ xs, x ≠ 0) (h1 : ∀ c ∈ cls, c.any (isB m) = true) (h2 : ∀ x ∈ xs, isB m x = true) {z : Int} (h : Der cls xs z) : isB m z = true := by
  have C : Calm cls xs fun x => x ≠ 0 ∧ isB m x = true := by
    refine ⟨fun x a b => ?_, fun x h => ⟨hx x h, h2 x h⟩, fun l hl => .inl ?_⟩
    · have b2 := b.2
      rw [isB_neg a.1, a.2] at b2
      cases b2
    · obtain ⟨x, hx, h⟩ := List.any_eq_true.1 (h1 l hl)
      exact ⟨x, hx, hd l hl x hx, h⟩
  exact (C.all h).2
/-- Bits that a literal tells. -/
theorem isB_pos {m k : Nat} : isB m (Int.ofNat (k + 1)) = m.testBit k := by
  unfold isB
  rw [if_neg (by simp only [Int.ofNat_eq_natCast]; omega)]
  rfl
theorem isB_of_neg {m k : Nat} : isB m (-Int.ofNat (k + 1)) = !m.testBit k := by
  rw [isB_neg (by simp only [Int.ofNat_eq_natCast]; omega), isB_pos]
section
variable {N : Nat} {cls : List (List Int)} {gs : List Int} (hN : N ≤ 30) (hc : ∀ l ∈ cls, Cv (Int.ofNat N) l) (hg : Lv (Int.ofNat N) gs)
include hN hc hg
theorem nz_cls : ∀ l ∈ cls, ∀ x ∈ l, x ≠ 0 := fun l hl x hx => by have _ := hN; have _ := hg; exact ((hc l hl).2 x hx).1.1
/-- A clash at a node: the clause of the contraries of what is needed. -/
theorem leaf_spec {ds : List Int} (D : Dcs N cls gs ds) (hq : (fromN (cls.map sideN) (gs ++ ds)).2 = false) {y m left : Nat} : Spec N cls gs ds ⟨y, m, (needF (clashN (cls.map sideN) gs) ds.length ds).map fun x => -x, 1, left, [(needF (clashN (cls.map sideN) gs) ds.length ds).map fun x => -x]⟩ := by
  have _ := hN; have _ := hc; have _ := hg
  have sub := needF_sub (clashN (cls.map sideN) gs) ds.length ds
  have cl := needF_clash (clashN (cls.map sideN) gs) ds.length ds (by unfold clashN; rw [hq]; rfl)
  generalize needF (clashN (cls.map sideN) gs) ds.length ds = nd at *
  have cv : Cv (Int.ofNat N) (nd.map fun x => -x) := ⟨Dif.neg (List.Pairwise.sublist sub D.cv.1), fun x hx => by
    obtain ⟨z, hz, rfl⟩ := List.mem_map.1 hx
    have h := D.cv.2 z (sub.subset hz)
    refine ⟨lit_neg (l := nd) (fun x hx => (D.cv.2 x (sub.subset hx)).1) _ hx, by rw [Int.natAbs_neg]; exact h.2⟩⟩
  refine ⟨.inr (.inl rfl), fun l hl => by rw [List.mem_singleton] at hl; subst hl; exact cv, ?_, fun _ => ⟨cv, fun x hx => ?_, [], rfl⟩, fun h => (by cases h), fun h => by cases h⟩
  · unfold accF
    rw [List.map_map, show ((fun x : Int => -x) ∘ fun x => -x) = id by funext x; simp, List.map_id]
    unfold clashN at cl
    rw [if_neg (by simpa using cl)]
    rfl
  · obtain ⟨z, hz, rfl⟩ := List.mem_map.1 hx
    rw [Int.neg_neg]; exact sub.subset hz
/-- What is derived is of the variables. -/
theorem der_le {ds : List Int} (D : Dcs N cls gs ds) {z : Int} (h : Der cls (gs ++ ds) z) : (z.natAbs : Int) ≤ Int.ofNat N := by
  have _ := hN
  induction h with
  | base h =>
    rcases List.mem_append.1 h with h | h
    · exact (hg _ h).2
    · exact (D.cv.2 _ h).2
  | unit hl hx _ _ => exact ((hc _ hl).2 _ hx).2
/-- No clash, and nothing is open: the first model. -/
theorem found_spec {ds : List Int} (D : Dcs N cls gs ds) (hq : (fromN (cls.map sideN) (gs ++ ds)).2 = true) (hf : freeM N (fromN (cls.map sideN) (gs ++ ds)).1.1 (fromN (cls.map sideN) (gs ++ ds)).1.2 = 0) {left : Nat} :
    Spec N cls gs ds ⟨(fromN (cls.map sideN) (gs ++ ds)).1.1, (fromN (cls.map sideN) (gs ++ ds)).1.2, [], 0, left, []⟩ := by
  obtain ⟨C, T⟩ := node_calm hN hc hg D hq
  generalize (fromN (cls.map sideN) (gs ++ ds)).1.1 = y at *
  generalize (fromN (cls.map sideN) (gs ++ ds)).1.2 = m at *
  have full : ∀ i, i < N → y.testBit i = true ∨ m.testBit i = true := fun i hi => by
    have h : (freeM N y m).testBit i = false := by rw [hf]; exact Nat.zero_testBit i
    rw [freeM_bit, decide_eq_true hi, Bool.true_and, Bool.not_eq_false', Nat.testBit_or, Bool.or_eq_true] at h
    exact h
  have tr : ∀ x : Int, x ≠ 0 → trM y m x → isB y x = true := fun x hx h => by
    unfold isB
    rcases h with ⟨h1, h2⟩ | ⟨h1, h2⟩
    · rw [if_neg (by omega)]; exact h2
    · rw [if_pos h1]
      cases h3 : y.testBit (x.natAbs - 1) with
      | false => rfl
      | true => exact (C.con x (.inr ⟨h1, h2⟩) (.inl ⟨by omega, by rw [Int.natAbs_neg]; exact h3⟩)).elim
  have lits := Dcs.lit hg D
  refine ⟨.inl rfl, fun l hl => (by cases hl), rfl, fun h => (by cases h), fun _ => ⟨fun i => ?_, Nat.eq_of_testBit_eq fun i => ?_⟩, fun _ => ⟨fun x hx => tr x (lits x hx).1 (C.beg x hx), fun l hl => ?_, fun m' h1 h2 => .inl fun i hi => ?_⟩⟩
  · rw [Nat.testBit_or]
    rcases Nat.lt_or_ge i N with hi | hi
    · rw [decide_eq_true hi, Bool.or_eq_true]; exact full i hi
    · rw [decide_eq_false (by omega), Bool.or_eq_false_iff]
      constructor
      · cases h : y.testBit i with
        | false => rfl
        | true =>
          have := der_le hN hc hg D (T (Int.ofNat (i + 1)) (.inl ⟨by simp only [Int.ofNat_eq_natCast]; omega, by rw [show (Int.ofNat (i + 1)).natAbs - 1 = i by simp only [Int.ofNat_eq_natCast]; omega]; exact h⟩))
          simp only [Int.ofNat_eq_natCast] at this; omega
      · cases h : m.testBit i with
        | false => rfl
        | true =>
          have := der_le hN hc hg D (T (-Int.ofNat (i + 1)) (.inr ⟨by simp only [Int.ofNat_eq_natCast]; omega, by rw [show (-Int.ofNat (i + 1)).natAbs - 1 = i by simp only [Int.ofNat_eq_natCast]; omega]; exact h⟩))
          simp only [Int.ofNat_eq_natCast] at this; omega
  · rw [Nat.testBit_and, Nat.zero_testBit]
    cases h3 : y.testBit i with
    | false => rfl
    | true =>
      cases h : m.testBit i with
      | false => rfl
      | true => exact (C.con (Int.ofNat (i + 1)) (.inl ⟨by simp only [Int.ofNat_eq_natCast]; omega, by rw [show (Int.ofNat (i + 1)).natAbs - 1 = i by simp only [Int.ofNat_eq_natCast]; omega]; exact h3⟩) (.inr ⟨by simp only [Int.ofNat_eq_natCast]; omega, by rw [show (-Int.ofNat (i + 1)).natAbs - 1 = i by simp only [Int.ofNat_eq_natCast]; omega]; exact h⟩)).elim
  · rcases C.cl l hl with ⟨x, hx, h⟩ | ⟨x, hx, z, hz, _, h1, h2, _⟩
    · exact List.any_eq_true.2 ⟨x, hx, tr x (nz_cls hN hc hg l hl x hx) h⟩
    · exfalso
      obtain ⟨⟨n0, _⟩, hle⟩ := (hc l hl).2 x hx
      simp only [Int.ofNat_eq_natCast] at hle
      rcases full (x.natAbs - 1) (by omega) with h | h
      · rcases Int.lt_or_gt_of_ne n0 with hs | hs
        · exact h2 (.inl ⟨by omega, by rw [Int.natAbs_neg]; exact h⟩)
        · exact h1 (.inl ⟨by omega, h⟩)
      · rcases Int.lt_or_gt_of_ne n0 with hs | hs
        · exact h1 (.inr ⟨by omega, h⟩)
        · exact h2 (.inr ⟨by omega, by rw [Int.natAbs_neg]; exact h⟩)
  · have dt := fun {z : Int} (h : Der cls (gs ++ ds) z) => der_true (nz_cls hN hc hg) (fun x hx => (lits x hx).1) h2 h1 h
    rcases full i hi with h | h
    · have := dt (T (Int.ofNat (i + 1)) (.inl ⟨by simp only [Int.ofNat_eq_natCast]; omega, by rw [show (Int.ofNat (i + 1)).natAbs - 1 = i by simp only [Int.ofNat_eq_natCast]; omega]; exact h⟩))
      rw [isB_pos] at this
      rw [h, this]
    · have := dt (T (-Int.ofNat (i + 1)) (.inr ⟨by simp only [Int.ofNat_eq_natCast]; omega, by rw [show (-Int.ofNat (i + 1)).natAbs - 1 = i by simp only [Int.ofNat_eq_natCast]; omega]; exact h⟩))
      rw [isB_of_neg, Bool.not_eq_true'] at this
      rw [this]
      cases h3 : y.testBit i with
      | false => rfl
      | true => exact (C.con (Int.ofNat (i + 1)) (.inl ⟨by simp only [Int.ofNat_eq_natCast]; omega, by rw [show (Int.ofNat (i + 1)).natAbs - 1 = i by simp only [Int.ofNat_eq_natCast]; omega]; exact h3⟩) (.inr ⟨by simp only [Int.ofNat_eq_natCast]; omega, by rw [show (-Int.ofNat (i + 1)).natAbs - 1 = i by simp only [Int.ofNat_eq_natCast]; omega]; exact h⟩)).elim
/-- Two clauses of two branches are resolved. -/
theorem res_line {ds c1 c2 : List Int} {ls : List (List Int)} (D : Dcs N cls gs ds) {v : Int} (v1 : 1 ≤ v) (v2 : v ≤ N) (hv : ∀ x ∈ ds, (x.natAbs : Int) < v) (h1 : Cv (Int.ofNat N) c1) (h2 : Cv (Int.ofNat N) c2) (s1 : ∀ x ∈ c1, -x ∈ ds ++ [-v]) (s2 : ∀ x ∈ c2, -x ∈ ds ++ [v]) (m1 : v ∈ c1) (m2 : -v ∈ c2) (l1 : c1 ∈ ls) (l2 : c2 ∈ ls) (hls : ∀ l ∈ ls, Cv (Int.ofNat N) l) :
    Cv (Int.ofNat N) (resP c1 c2 v).1 ∧ (∀ x ∈ (resP c1 c2 v).1, -x ∈ ds) ∧ accF gs (cls ++ ls) [(resP c1 c2 v).1] 0 = none := by
  have a1 : ∀ x ∈ c1, x = v ∨ -x ∈ ds := fun x hx => by
    rcases List.mem_append.1 (s1 x hx) with h | h
    · exact .inr h
    · rw [List.mem_singleton] at h; exact .inl (by omega)
  have a2 : ∀ x ∈ c2, x = -v ∨ -x ∈ ds := fun x hx => by
    rcases List.mem_append.1 (s2 x hx) with h | h
    · exact .inr h
    · rw [List.mem_singleton] at h; exact .inl (by omega)
  have b30 : ∀ {l : List Int}, Cv (Int.ofNat N) l → clB 30 0 l = true := fun {l} h => clB_of h.1 (fun x hx => ⟨(h.2 x hx).1, by have := (h.2 x hx).2; simp only [Int.ofNat_eq_natCast] at this; omega⟩) fun x hx => by have := (h.2 x hx).1.1; omega
  rcases resP_spec (b30 h1) (b30 h2) v1 (by omega) m1 m2 with ⟨_, x, hx, e1, e2, e3⟩ | ⟨L, eL, _, dL, lL, mL⟩
  · exfalso
    rcases a1 x hx with h | h
    · exact e1 h
    · rcases a2 (-x) e3 with h' | h'
      · exact e1 (by omega)
      · rw [Int.neg_neg] at h'
        have hx0 := (h1.2 x hx).1.1
        exact dif_ne D.cv.1 h' h hx0
  · rw [eL]
    have sub : ∀ x ∈ L, -x ∈ ds := fun x hx => by
      obtain ⟨h, n1, n2⟩ := (mL x).1 hx
      rcases h with h | h
      · rcases a1 x h with h | h
        · exact absurd h n1
        · exact h
      · rcases a2 x h with h | h
        · exact absurd h n2
        · exact h
    have cv : Cv (Int.ofNat N) L := ⟨dL, fun x hx => ⟨lL x hx, by have := (D.cv.2 _ (sub x hx)).2; rwa [Int.natAbs_neg] at this⟩⟩
    refine ⟨cv, sub, ?_⟩
    have gd : Good (cls ++ ls) := fun l hl => by
      rcases List.mem_append.1 hl with h | h
      · exact good_of hc l h
      · exact good_of hls l h
    have lit : ∀ x ∈ gs ++ L.map fun x => -x, Lit x := fun x hx => by
      rcases List.mem_append.1 hx with h | h
      · exact (hg x h).1
      · exact lit_neg lL x h
    have neg : ∀ x ∈ L, Der (cls ++ ls) (gs ++ L.map fun x => -x) (-x) := fun x hx => .base (List.mem_append_right _ (List.mem_map.2 ⟨x, hx, rfl⟩))
    have n1 : ∀ x ∈ c1, x ≠ v → x ≠ -v := fun x hx e e2 => by
      rcases a1 x hx with h | h
      · exact e h
      · have := hv _ h; omega
    have n2 : ∀ x ∈ c2, x ≠ -v → x ≠ v := fun x hx e e2 => by
      rcases a2 x hx with h | h
      · exact e h
      · have := hv _ h; omega
    have dv : Der (cls ++ ls) (gs ++ L.map fun x => -x) v := .unit (List.mem_append_right _ l1) m1 fun x hx e => neg x ((mL x).2 ⟨.inl hx, e, n1 x hx e⟩)
    have hcl : Cl (cls ++ ls) (gs ++ L.map fun x => -x) := .inr ⟨c2, List.mem_append_right _ l2, fun x hx => by
      by_cases e : x = -v
      · subst e; rw [Int.neg_neg]; exact dv
      · exact neg x ((mL x).2 ⟨.inr hx, n2 x hx e, e⟩)⟩
    unfold accF
    rw [if_neg fun h => (calm_iff gd lit).1 h hcl]
    rfl
end
end Go.Proofs.YtfgfhplgnfbaaaaDoor
/- What a search finds: by induction over the tree. -/
namespace Go.Proofs.YtfgfhplgnfbaaaaDoor
open Go Go.Ev
section
variable {N : Nat} {cls : List (List Int)} {gs : List Int} (hN : N ≤ 30) (hc : ∀ l ∈ cls, Cv (Int.ofNat N) l) (hg : Lv (Int.ofNat N) gs)
include hN hc hg
omit hN hc hg in
theorem cv_nz {l : List Int} (h : Cv (Int.ofNat N) l) : ∀ x ∈ l, x ≠ 0 := fun x hx => (h.2 x hx).1.1
theorem search_spec : ∀ (d : Nat) {ds : List Int} {left : Nat}, Dcs N cls gs ds → N + 1 ≤ ds.length + d → Spec N cls gs ds (searchF N (cls.map sideN) gs d ds left) := by
  intro d
  induction d with
  | zero => intro ds left D hd; have := D.len; omega
  | succ d ih =>
    intro ds left D hd
    cases left with
    | zero => exact ⟨.inr (.inr rfl), fun l hl => (by cases hl), rfl, fun h => (by cases h), fun h => (by cases h), fun h => by cases h⟩
    | succ left =>
      unfold searchF
      split
      · rename_i hq; exact leaf_spec hN hc hg D hq
      · rename_i hq
        have hq : (fromN (cls.map sideN) (gs ++ ds)).2 = true := by simpa using hq
        split
        · rename_i hf; exact found_spec hN hc hg D hq hf
        · rename_i hf
          obtain ⟨hk, hw, hx⟩ := low_der hN hc hg D hq rfl hf
          have lits := Dcs.lit hg D
          generalize fromN (cls.map sideN) (gs ++ ds) = R at *
          obtain ⟨⟨y, m⟩, fq⟩ := R
          simp only at hk hw hx hf ⊢
          generalize lowF (freeM N y m) = k at *
          have Dn := Dcs.more hN hc hg D hk hw hx (x := -Int.ofNat (k + 1)) (by simp only [Int.ofNat_eq_natCast]; omega)
          have Dp := Dcs.more hN hc hg D hk hw hx (x := Int.ofNat (k + 1)) (by simp only [Int.ofNat_eq_natCast]; omega)
          have S1 := ih (left := left) Dn (by simp; omega)
          have S2 := ih (left := (searchF N (cls.map sideN) gs d (ds ++ [-Int.ofNat (k + 1)]) left).left) Dp (by simp; omega)
          generalize searchF N (cls.map sideN) gs d (ds ++ [-Int.ofNat (k + 1)]) left = s at *
          generalize searchF N (cls.map sideN) gs d (ds ++ [Int.ofNat (k + 1)]) s.left = t at *
          -- truths of a model, with the variable or without it
          have split_ : ∀ m', (∀ x ∈ gs ++ ds, isB m' x = true) → m'.testBit k = false → ∀ x ∈ gs ++ (ds ++ [-Int.ofNat (k + 1)]), isB m' x = true := fun m' h1 h2 x hx => by
            rcases List.mem_append.1 hx with h | h
            · exact h1 x (List.mem_append_left _ h)
            · rcases List.mem_append.1 h with h | h
              · exact h1 x (List.mem_append_right _ h)
              · rw [List.mem_singleton] at h; subst h; rw [isB_of_neg, h2]; rfl
          have split2 : ∀ m', (∀ x ∈ gs ++ ds, isB m' x = true) → m'.testBit k = true → ∀ x ∈ gs ++ (ds ++ [Int.ofNat (k + 1)]), isB m' x = true := fun m' h1 h2 x hx => by
            rcases List.mem_append.1 hx with h | h
            · exact h1 x (List.mem_append_left _ h)
            · rcases List.mem_append.1 h with h | h
              · exact h1 x (List.mem_append_right _ h)
              · rw [List.mem_singleton] at h; subst h; rw [isB_pos, h2]
          have back : ∀ {z : Int} {a : Nat}, (∀ x ∈ gs ++ (ds ++ [z]), isB a x = true) → ∀ x ∈ gs ++ ds, isB a x = true := fun {z a} h x hx => by
            rcases List.mem_append.1 hx with h' | h'
            · exact h x (List.mem_append_left _ h')
            · exact h x (List.mem_append_right _ (List.mem_append_left _ h'))
          split
          · rename_i he
            -- the first branch is enough
            refine ⟨S1.how, S1.good, S1.rup, fun h1 => ?_, S1.ful, fun h0 => ?_⟩
            · obtain ⟨c1, c2, c3⟩ := S1.clo h1
              refine ⟨c1, fun x hx => ?_, c3⟩
              have hv : Int.ofNat (k + 1) ∉ s.c := by
                rcases he with he | he
                · exact absurd h1 he
                · exact he
              rcases List.mem_append.1 (c2 x hx) with h | h
              · exact h
              · rw [List.mem_singleton] at h
                exact absurd (by rw [show Int.ofNat (k + 1) = x by omega]; exact hx) hv
            · obtain ⟨f1, f2, f3⟩ := S1.fnd h0
              refine ⟨back f1, f2, fun m' h1 h2 => ?_⟩
              cases hb : m'.testBit k with
              | false => exact f3 m' (split_ m' h1 hb) h2
              | true =>
                have yk : s.y.testBit k = false := by
                  have := f1 (-Int.ofNat (k + 1)) (List.mem_append_right _ (List.mem_append_right _ (by simp)))
                  rw [isB_of_neg] at this; simpa using this
                refine .inr ⟨k, hk, yk, hb, fun j hj => ?_⟩
                have nz := nz_cls hN hc hg
                have dy := fun {z : Int} (h : Der cls (gs ++ ds) z) => der_true nz (fun x hx => (lits x hx).1) f2 (back f1) h
                have dm := fun {z : Int} (h : Der cls (gs ++ ds) z) => der_true nz (fun x hx => (lits x hx).1) h2 h1 h
                rcases hw (Int.ofNat (j + 1)) (by simp only [Int.ofNat_eq_natCast]; omega) (by simp only [Int.ofNat_eq_natCast]; omega) with h | h
                · have a := dy h; have b := dm h
                  rw [isB_pos] at a b; rw [a, b]
                · have a := dy h; have b := dm h
                  rw [isB_of_neg, Bool.not_eq_true'] at a b; rw [a, b]
          · rename_i he
            have h1 : s.how = 1 := Decidable.byContradiction fun h => he (.inl h)
            have hv : Int.ofNat (k + 1) ∈ s.c := Decidable.byContradiction fun h => he (.inr h)
            obtain ⟨c1, c2, L1, c3⟩ := S1.clo h1
            have gcls := good_of hc
            have gl1 := good_of S1.good
            have gall : Good (cls ++ s.lines) := fun l hl => by
              rcases List.mem_append.1 hl with h | h
              · exact gcls l h
              · exact gl1 l h
            have glit : ∀ x ∈ gs, Lit x := fun x hx => (hg x hx).1
            have rup2 : accF gs cls (s.lines ++ t.lines) 0 = none := accF_append S1.rup (accF_mono (fun _ h => h) glit gcls gall (good_of S2.good) (fun l h => List.mem_append_left _ h) S2.rup)
            have good2 : ∀ l ∈ s.lines ++ t.lines, Cv (Int.ofNat N) l := fun l hl => by
              rcases List.mem_append.1 hl with h | h
              · exact S1.good l h
              · exact S2.good l h
            split
            · rename_i he2
              refine ⟨S2.how, good2, rup2, fun h2 => ?_, S2.ful, fun h0 => ?_⟩
              · obtain ⟨e1, e2, L2, e3⟩ := S2.clo h2
                refine ⟨e1, fun x hx => ?_, s.lines ++ L2, by show s.lines ++ t.lines = _; rw [e3]; simp⟩
                have hv : -Int.ofNat (k + 1) ∉ t.c := by
                  rcases he2 with he2 | he2
                  · exact absurd h2 he2
                  · exact he2
                rcases List.mem_append.1 (e2 x hx) with h | h
                · exact h
                · rw [List.mem_singleton] at h
                  exact absurd (by rw [show -Int.ofNat (k + 1) = x by omega]; exact hx) hv
              · obtain ⟨f1, f2, f3⟩ := S2.fnd h0
                refine ⟨back f1, f2, fun m' g1 g2 => ?_⟩
                cases hb : m'.testBit k with
                | true => exact f3 m' (split2 m' g1 hb) g2
                | false =>
                  exfalso
                  have tr := accF_true (fun x hx => ⟨glit x hx, g1 x (List.mem_append_left _ hx)⟩) gcls gl1 S1.rup g2 s.c (by rw [c3]; simp)
                  obtain ⟨x, hx, hxt⟩ := List.any_eq_true.1 tr
                  have h3 := split_ m' g1 hb (-x) (List.mem_append_right _ (c2 x hx))
                  rw [isB_neg (cv_nz c1 x hx), hxt] at h3
                  cases h3
            · rename_i he2
              have h2 : t.how = 1 := Decidable.byContradiction fun h => he2 (.inl h)
              have hv2 : -Int.ofNat (k + 1) ∈ t.c := Decidable.byContradiction fun h => he2 (.inr h)
              obtain ⟨e1, e2, L2, e3⟩ := S2.clo h2
              obtain ⟨r1, r2, r3⟩ := res_line hN hc hg D (v := Int.ofNat (k + 1)) (by simp only [Int.ofNat_eq_natCast]; omega) (by simp only [Int.ofNat_eq_natCast]; omega) (fun x h => by have := hx x h; simp only [Int.ofNat_eq_natCast]; omega) c1 e1 c2 e2 hv hv2 (ls := s.lines ++ t.lines) (by rw [c3]; simp) (by rw [e3]; simp) good2
              refine ⟨.inr (.inl rfl), fun l hl => ?_, accF_append rup2 r3, fun _ => ⟨r1, r2, _, rfl⟩, fun h => (by cases h), fun h => by cases h⟩
              rcases List.mem_append.1 hl with h | h
              · exact good2 l h
              · rw [List.mem_singleton] at h; subst h; exact r1
omit hN hc hg in
theorem pow_step {N n : Nat} (h : n + 1 ≤ N) : 2 ^ (N + 1 - n) = 2 * 2 ^ (N + 1 - (n + 1)) := by
  rw [show N + 1 - n = (N + 1 - (n + 1)) + 1 by omega, Nat.pow_succ]; omega
/-- A small tree is gone through. -/
theorem search_small : ∀ (d : Nat) {ds : List Int} {left : Nat}, Dcs N cls gs ds → N + 1 ≤ ds.length + d → 2 ^ (N + 1 - ds.length) - 1 ≤ left → (searchF N (cls.map sideN) gs d ds left).how ≠ 2 ∧ left ≤ (searchF N (cls.map sideN) gs d ds left).left + (2 ^ (N + 1 - ds.length) - 1) := by
  intro d
  induction d with
  | zero => intro ds left D hd; have := D.len; omega
  | succ d ih =>
    intro ds left D hd hl
    have hlen := D.len
    have two : 2 ^ 1 ≤ 2 ^ (N + 1 - ds.length) := Nat.pow_le_pow_right (by decide) (by omega)
    cases left with
    | zero => omega
    | succ left =>
      unfold searchF
      split
      · exact ⟨(by show (1 : Int) ≠ 2; decide), by simp only; omega⟩
      · rename_i hq
        have hq : (fromN (cls.map sideN) (gs ++ ds)).2 = true := by simpa using hq
        split
        · exact ⟨(by show (0 : Int) ≠ 2; decide), by simp only; omega⟩
        · rename_i hf
          obtain ⟨hk, hw, hx⟩ := low_der hN hc hg D hq rfl hf
          generalize fromN (cls.map sideN) (gs ++ ds) = R at *
          obtain ⟨⟨y, m⟩, fq⟩ := R
          simp only at hk hw hx hf ⊢
          generalize lowF (freeM N y m) = k at *
          have Dn := Dcs.more hN hc hg D hk hw hx (x := -Int.ofNat (k + 1)) (by simp only [Int.ofNat_eq_natCast]; omega)
          have Dp := Dcs.more hN hc hg D hk hw hx (x := Int.ofNat (k + 1)) (by simp only [Int.ofNat_eq_natCast]; omega)
          have dn := Dn.len
          simp only [List.length_append, List.length_singleton] at dn
          have ps := pow_step dn
          have S1 := ih (left := left) Dn (by simp; omega) (by simp only [List.length_append, List.length_singleton]; omega)
          have S2 := ih (left := (searchF N (cls.map sideN) gs d (ds ++ [-Int.ofNat (k + 1)]) left).left) Dp (by simp; omega)
          generalize searchF N (cls.map sideN) gs d (ds ++ [-Int.ofNat (k + 1)]) left = s at *
          generalize searchF N (cls.map sideN) gs d (ds ++ [Int.ofNat (k + 1)]) s.left = t at *
          simp only [List.length_append, List.length_singleton] at S1 S2
          have S2 := S2 (by omega)
          split
          · exact ⟨S1.1, by omega⟩
          · split
            · exact ⟨S2.1, by simp only; omega⟩
            · exact ⟨(by show (1 : Int) ≠ 2; decide), by simp only; omega⟩
end
end Go.Proofs.YtfgfhplgnfbaaaaDoor
/- What Model and Prove return: the first of all models, or a proof. -/
namespace Go.Proofs.YtfgfhplgnfbaaaaDoor
open Go Go.Ev
theorem filter_head {f : Nat → Nat} {p : Nat → Bool} : ∀ {n k : Nat}, k < n → p (f k) = true → (∀ j, j < k → p (f j) = false) → ∃ rest, ((List.range n).map f).filter p = f k :: rest := by
  intro n
  induction n with
  | zero => intro k hk; omega
  | succ n ih =>
    intro k hk hp hj
    rw [List.range_succ, List.map_append, List.filter_append]
    rcases Nat.lt_or_ge k n with h | h
    · obtain ⟨rest, e⟩ := ih h hp hj
      rw [e]; exact ⟨_, rfl⟩
    · obtain rfl : k = n := by omega
      have : ((List.range k).map f).filter p = [] := by
        rw [List.filter_eq_nil_iff]
        intro x hx
        obtain ⟨j, hj', rfl⟩ := List.mem_map.1 hx
        rw [hj j (List.mem_range.1 hj')]; decide
      rw [this]
      exact ⟨[], by simp [hp]⟩
theorem lt_of_bit {a b i : Nat} (ha : a.testBit i = false) (hb : b.testBit i = true) (h : ∀ j, i < j → a.testBit j = b.testBit j) : a < b := by
  have e : a / 2 ^ (i + 1) = b / 2 ^ (i + 1) := Nat.eq_of_testBit_eq fun j => by
    rw [Nat.testBit_div_two_pow, Nat.testBit_div_two_pow]; exact h _ (by omega)
  have ha' : a / 2 ^ i % 2 = 0 := by
    have := Nat.testBit_eq_decide_div_mod_eq (x := a) (i := i); rw [ha] at this
    have : ¬ a / 2 ^ i % 2 = 1 := by simpa using this.symm
    omega
  have hb' : b / 2 ^ i % 2 = 1 := by
    have := Nat.testBit_eq_decide_div_mod_eq (x := b) (i := i); rw [hb] at this
    simpa using this.symm
  rw [Nat.pow_succ, ← Nat.div_div_eq_div_mul, ← Nat.div_div_eq_div_mul] at e
  have h1 : a / 2 ^ i < b / 2 ^ i := by omega
  exact Nat.lt_of_not_le fun hle => by
    have := Nat.div_le_div_right (c := 2 ^ i) hle
    omega
/-- A clause's truth is that of its variables. -/
theorem isB_same {N a b : Nat} (h : ∀ i, i < N → a.testBit i = b.testBit i) {x : Int} (h0 : x ≠ 0) (hx : (x.natAbs : Int) ≤ Int.ofNat N) : isB a x = isB b x := by
  unfold isB
  simp only [Int.ofNat_eq_natCast] at hx
  rw [h (x.natAbs - 1) (by omega)]
theorem satM_same {N a b : Nat} {cls : List (List Int)} {gs : List Int} (hc : ∀ l ∈ cls, Cv (Int.ofNat N) l) (hg : Lv (Int.ofNat N) gs) (h : ∀ i, i < N → a.testBit i = b.testBit i) (hs : satM cls gs a = true) : satM cls gs b = true := by
  unfold satM at hs ⊢
  rw [Bool.and_eq_true, List.all_eq_true, List.all_eq_true] at hs ⊢
  refine ⟨fun x hx => ?_, fun l hl => ?_⟩
  · rw [← isB_same h (hg x hx).1.1 (hg x hx).2]; exact hs.1 x hx
  · obtain ⟨x, hx, hxt⟩ := List.any_eq_true.1 (hs.2 l hl)
    exact List.any_eq_true.2 ⟨x, hx, by rw [← isB_same h ((hc l hl).2 x hx).1.1 ((hc l hl).2 x hx).2]; exact hxt⟩
theorem modelsN_head {N y : Nat} {cls : List (List Int)} {gs : List Int} (hc : ∀ l ∈ cls, Cv (Int.ofNat N) l) (hg : Lv (Int.ofNat N) gs) (hy : satM cls gs y = true) (hf : ∀ m', satM cls gs m' = true → (∀ i, i < N → y.testBit i = m'.testBit i) ∨ LexLt N y m') :
    ∃ m rest, modelsN N cls gs = m :: rest ∧ ∀ i, i < N → m.testBit i = y.testBit i := by
  have hb : ∀ i, i < N → (bitsF N (bitsF N y N) N).testBit i = y.testBit i := fun i hi => by
    rw [bitsF_bit N _ N i hi, bitsF_bit N _ N _ (by omega), show N - 1 - (N - 1 - i) = i by omega]
  have hk := bitsF_lt N y N
  obtain ⟨rest, e⟩ := filter_head (f := fun k => bitsF N k N) (p := satM cls gs) hk (satM_same hc hg (fun i hi => (hb i hi).symm) hy) fun j hj => by
    cases hs : satM cls gs (bitsF N j N) with
    | false => rfl
    | true =>
      exfalso
      have hjN : j < 2 ^ N := Nat.lt_trans hj hk
      have high : ∀ {x : Nat}, x < 2 ^ N → ∀ i, N ≤ i → x.testBit i = false := fun {x} hx i hi => Nat.testBit_lt_two_pow (Nat.lt_of_lt_of_le hx (Nat.pow_le_pow_right (by decide) hi))
      rcases hf _ hs with h | ⟨i, hi, h1, h2, h3⟩
      · have : j = bitsF N y N := Nat.eq_of_testBit_eq fun i => by
          rcases Nat.lt_or_ge i N with hi | hi
          · have := h (N - 1 - i) (by omega)
            rw [bitsF_bit N _ N _ (by omega), show N - 1 - (N - 1 - i) = i by omega] at this
            rw [bitsF_bit N _ N _ hi, this]
          · rw [high hjN i hi, high hk i hi]
        omega
      · have hlt : bitsF N y N < j := by
          refine lt_of_bit (i := N - 1 - i) ?_ ?_ fun q hq => ?_
          · rw [bitsF_bit N _ N _ (by omega), show N - 1 - (N - 1 - i) = i by omega]; exact h1
          · rw [bitsF_bit N _ N _ hi] at h2; exact h2
          · rcases Nat.lt_or_ge q N with hqN | hqN
            · have := h3 (N - 1 - q) (by omega)
              rw [bitsF_bit N _ N _ (by omega), show N - 1 - (N - 1 - q) = q by omega] at this
              rw [bitsF_bit N _ N _ hqN, this]
            · rw [high hjN q hqN, high hk q hqN]
        omega
  exact ⟨_, rest, e, hb⟩
section
variable {N : Nat} {cls : List (List Int)} {gs : List Int} (hN : N ≤ 30) (hc : ∀ l ∈ cls, Cv (Int.ofNat N) l) (hg : Lv (Int.ofNat N) gs)
include hN hc hg
theorem search_lt : ∀ (d : Nat) {ds : List Int} {left : Nat}, Dcs N cls gs ds → (searchF N (cls.map sideN) gs d ds left).y < 2 ^ 30 ∧ (searchF N (cls.map sideN) gs d ds left).m < 2 ^ 30 := by
  have hss : ∀ p ∈ cls.map sideN, p.1 < 2 ^ 30 ∧ p.2 < 2 ^ 30 := fun p hp => by
    obtain ⟨l, hl, rfl⟩ := List.mem_map.1 hp
    exact sideF_lt (fun x hx => ((hc l hl).2 x hx).1) (by decide) (by decide)
  intro d
  induction d with
  | zero => intro ds left _; exact ⟨by show 0 < 2 ^ 30; decide, by show 0 < 2 ^ 30; decide⟩
  | succ d ih =>
    intro ds left D
    cases left with
    | zero => exact ⟨by show 0 < 2 ^ 30; decide, by show 0 < 2 ^ 30; decide⟩
    | succ left =>
      have lt := fromN_lt hss (Dcs.lit hg D)
      unfold searchF
      split
      · exact lt
      · rename_i hq
        split
        · exact lt
        · rename_i hf
          obtain ⟨p1, p2⟩ := (dec_ok hN hc hg).more ds D (by simpa using hq) hf
          simp only
          split
          · exact ih p1
          · split
            · exact ih p2
            · exact lt
/-- A small formula: the first of all models, or a proof. -/
theorem solve_small (h8 : N ≤ 8) : ((solF N cls gs).how = 0 ∧ (∀ i, ((solF N cls gs).y ||| (solF N cls gs).m).testBit i = decide (i < N)) ∧ (solF N cls gs).y &&& (solF N cls gs).m = 0 ∧ ∃ m rest, modelsN N cls gs = m :: rest ∧ ∀ i, i < N → m.testBit i = (solF N cls gs).y.testBit i) ∨
    ((solF N cls gs).how = 1 ∧ modelsN N cls gs = [] ∧ (∀ l ∈ (solF N cls gs).lines, Cv (Int.ofNat N) l) ∧ accF gs cls (solF N cls gs).lines 0 = none ∧ (solF N cls gs).lines.length ≤ 2000 ∧ ∃ L, (solF N cls gs).lines = L ++ [[]]) := by
  have S := search_spec hN hc hg (N + 1) (ds := []) (left := 2000) dcs_nil (by simp)
  have p9 : 2 ^ (N + 1) ≤ 2 ^ 9 := Nat.pow_le_pow_right (by decide) (by omega)
  have T := search_small hN hc hg (N + 1) (ds := []) (left := 2000) dcs_nil (by simp) (by simp only [List.length_nil, Nat.sub_zero]; omega)
  have K := searchF_ok (dec_ok hN hc hg) hN (N + 1) (ds := []) (left := 2000) dcs_nil
  unfold solF
  generalize searchF N (cls.map sideN) gs (N + 1) [] 2000 = s at *
  rcases S.how with h | h | h
  · left
    obtain ⟨f1, f2, f3⟩ := S.fnd h
    rw [List.append_nil] at f1 f3
    refine ⟨h, (S.ful h).1, (S.ful h).2, modelsN_head hc hg ?_ fun m' hm => ?_⟩
    · unfold satM; rw [Bool.and_eq_true, List.all_eq_true, List.all_eq_true]; exact ⟨f1, f2⟩
    · unfold satM at hm; rw [Bool.and_eq_true, List.all_eq_true, List.all_eq_true] at hm; exact f3 m' hm.1 hm.2
  · right
    obtain ⟨c1, c2, L, c3⟩ := S.clo h
    have hce : s.c = [] := by
      cases hs : s.c with
      | nil => rfl
      | cons x xs => have := c2 x (by rw [hs]; simp); cases this
    rw [hce] at c3
    exact ⟨h, sound (good_of hc) (good_of S.good) (fun x hx => (hg x hx).1) S.rup (by rw [c3]; simp) N, S.good, S.rup, by omega, L, c3⟩
  · exact absurd h T.1
end
end Go.Proofs.YtfgfhplgnfbaaaaDoor
/- Conditions of functions' code, printed by a program of ours. -/
namespace Go.Proofs.YtfgfhplgnfbaaaaDoor
open Go Go.Ev
set_option maxRecDepth 100000
set_option linter.unusedVariables false
/-! sward/swardlaw20.SatNames$1 -/
noncomputable def b18 : Code := (Tryd.f18.body).getD .skip
def T18 (O : CallF) (Q : Value → Hp → Prop) (x0 : Int) (b1 : Nat) (f1 : Nat) (b2 : Nat) (f2 : Nat) (h : Hp) : Prop :=
  ∃ a1' n2' c3', readAt h b1 f1 1 = some [(.slice a1' n2' c3')] ∧
  isNat (wrapF .i64 ((maxI x0 (wrapF .i64 (0 - x0))) - 1)) fun n4' =>
  isAddr a1' fun b5' f6' =>
  vreq (Nat.blt n4' n2')
  (∃ x7', readAt h b5' (f6' + (n4' * 1)) 1 = some [(.int .i64 x7')] ∧
  ∃ x8', readAt h b2 f2 1 = some [(.int .u8 x8')] ∧
  vreq (le0 (wrapF .i64 ((maxI x0 (wrapF .i64 (0 - x0))) - 1)))
  (vreq (inD 256 (shrF .u8 x8' (Int.toNat (wrapF .i64 ((maxI x0 (wrapF .i64 (0 - x0))) - 1)))))
  (vcond (!eqB (ltI x0 0) (eqI (landI (shrF .u8 x8' (Int.toNat (wrapF .i64 ((maxI x0 (wrapF .i64 (0 - x0))) - 1)))) 1) 1))
  (Q (.int .i64 (wrapF .i64 (0 - x7'))) h)
  (Q (.int .i64 x7') h))))
/-! sward/sat.Forced -/
noncomputable def b52 : Code := (Tryd.f52.body).getD .skip
noncomputable def stk52_0 : List KI := [.code (sub [1, 1, 1, 1, 1, 0, 1, 0] b52), .blk 0, .code (sub [1, 1, 1, 1, 1, 1] b52)]
def lv52 : List (Nat × List Nat) := [(0, [1, 2, 4, 5, 10, 34, 35, 36])]
def I52_0 (O : CallF) (Q : Value → Hp → Prop) (x0_0 : Int) (a0_1 : Option Addr) (n0_1 : Nat) (c0_1 : Nat) (a1 : Option Addr) (n1 : Nat) (c1 : Nat) (b2 : Nat) (f2 : Nat) (a4 : Option Addr) (n4 : Nat) (c4 : Nat) (x5 : Int) (a10 : Option Addr) (n10 : Nat) (c10 : Nat) (a34 : Option Addr) (n34 : Nat) (c34 : Nat) (x35 : Int) (x36 : Int) (h : Hp) : Prop := RKL Tryd.prog O Tryd.f52 stk52_0 66 [1, 2, 4, 5, 10, 34, 35, 36] [(.slice a1 n1 c1), (.pointer (some ⟨b2, f2, none⟩)), (.slice a4 n4 c4), (.int .i64 x5), (.slice a10 n10 c10), (.slice a34 n34 c34), (.int .i64 x35), (.int .i64 x36)] h Q
def T52 (O : CallF) (Q : Value → Hp → Prop) (x0_0 : Int) (a0_1 : Option Addr) (n0_1 : Nat) (c0_1 : Nat) (a1 : Option Addr) (n1 : Nat) (c1 : Nat) (h : Hp) : Prop :=
  let g1 : Hp := h.add (.cells [(.int .i64 x0_0), (.slice a0_1 n0_1 c0_1)] 30 .fix)
  ∃ x2', ∃ a3' n4' c5', readAt g1 h.nx 0 2 = some [(.int .i64 x2'), (.slice a3' n4' c5')] ∧
  ∃ x6', ∃ h7', EvC Tryd.prog O 78 [(.agg #[(.int .i64 x2'), (.slice a3' n4' c5')]), (.slice a1 n1 c1)] g1 (.int .i64 x6') h7' ∧
  vcond (!(eqI x6' 0))
  (Q (.tuple #[(.slice none 0 0), (.int .i64 x6')]) h7')
  (∃ x8', ∃ a9' n10' c11', readAt h7' h.nx 0 2 = some [(.int .i64 x8'), (.slice a9' n10' c11')] ∧
  ∃ x12', ∃ x13', ∃ a14' n15' c16', ∃ x17', ∃ h18', EvC Tryd.prog O 79 [(.agg #[(.int .i64 x8'), (.slice a9' n10' c11')]), (.slice a1 n1 c1)] h7' (.tuple #[(.agg #[(.int .u32 x12'), (.int .u32 x13')]), (.slice a14' n15' c16'), (.int .i64 x17')]) h18' ∧
  let g19 : Hp := h18'.add (.cells [(.int .u32 0), (.int .u32 0)] 102 .fix)
  vreq (canW g19 h18'.nx 0 [(.int .u32 x12'), (.int .u32 x13')])
  (let g20 : Hp := g19.wr h18'.nx 0 [(.int .u32 x12'), (.int .u32 x13')]
  vcond (!(eqI x17' 0))
  (∃ x21', ∃ h22', EvC Tryd.prog O 80 [(.int .i64 x17')] g20 (.int .i64 x21') h22' ∧
  Q (.tuple #[(.slice none 0 0), (.int .i64 x21')]) h22')
  (∃ x23', ∃ x24', readAt g20 h18'.nx 0 2 = some [(.int .u32 x23'), (.int .u32 x24')] ∧
  ∃ a25' n26' c27', ∃ h28', EvC Tryd.prog O 90 [(.agg #[(.int .u32 x23'), (.int .u32 x24')])] g20 (.slice a25' n26' c27') h28' ∧
  I52_0 O Q x0_0 a0_1 n0_1 c0_1 a1 n1 c1 h.nx 0 none 0 0 0 none 0 0 a25' n26' c27' (Int.ofNat n26') 0 h28')))
theorem rk52 {O Q} (x0_0 a0_1 n0_1 c0_1 a1 n1 c1) {h : Hp} (hO : O 52 [(.agg #[(.int .i64 x0_0), (.slice a0_1 n0_1 c0_1)]), (.slice a1 n1 c1)] h = none) (hh : T52 O Q x0_0 a0_1 n0_1 c0_1 a1 n1 c1 h) : Ret Tryd.prog O 52 [(.agg #[(.int .i64 x0_0), (.slice a0_1 n0_1 c0_1)]), (.slice a1 n1 c1)] h Q :=
  .of (c := b52) Tryd.func52 (by kernel_rfl) hO (V_ok (tb := lv52) (cuts := []) 500 (Eq.mp (by kernel_rfl) hh))
def T52_0 (O : CallF) (Q : Value → Hp → Prop) (x0_0 : Int) (a0_1 : Option Addr) (n0_1 : Nat) (c0_1 : Nat) (a1 : Option Addr) (n1 : Nat) (c1 : Nat) (b2 : Nat) (f2 : Nat) (a4 : Option Addr) (n4 : Nat) (c4 : Nat) (x5 : Int) (a10 : Option Addr) (n10 : Nat) (c10 : Nat) (a34 : Option Addr) (n34 : Nat) (c34 : Nat) (x35 : Int) (x36 : Int) (h : Hp) : Prop :=
  vcond (ltI x36 x35)
  (isNat x36 fun n101' =>
  isAddr a34 fun b102' f103' =>
  vreq (Nat.blt n101' n34)
  (∃ x104', readAt h b102' (f103' + (n101' * 1)) 1 = some [(.int .i64 x104')] ∧
  ∃ q105', ∃ h106', EvC Tryd.prog O 62 [(.slice a1 n1 c1), (.int .i64 x104')] h (.bool q105') h106' ∧
  vcond (!q105')
  (let g107 : Hp := h106'.rsv 16
  ∃ x108', ∃ a109' n110' c111', readAt g107 b2 f2 2 = some [(.int .i64 x108'), (.slice a109' n110' c111')] ∧
  ∃ a112' n113' c114', ∃ h115', EvC Tryd.prog O 110 [(.slice a1 n1 c1)] (g107.grd [b2]) (.slice a112' n113' c114') h115' ∧
  let g116 : Hp := h115'.rst g107
  vreq (g116.free (h106'.nx + 5))
  (let g117 : Hp := g116.lay (h106'.nx + 5) (.cells [(.int .i64 (wrapF .i64 (0 - x104')))] 3 .fix)
  ∃ a118' n119' c120' h121', appendV Tryd.prog (g117.grd [b2]) 32 32 (.slice a112' n113' c114') (.slice (some ⟨(h106'.nx + 5), 0, none⟩) 1 1) = some (.slice a118' n119' c120', h121') ∧
  let g122 : Hp := h121'.rst g117
  ∃ x123', ∃ x124', ∃ a125' n126' c127', ∃ x128', ∃ h129', EvC Tryd.prog O 79 [(.agg #[(.int .i64 x108'), (.slice a109' n110' c111')]), (.slice a118' n119' c120')] (g122.grd []) (.tuple #[(.agg #[(.int .u32 x123'), (.int .u32 x124')]), (.slice a125' n126' c127'), (.int .i64 x128')]) h129' ∧
  let g130 : Hp := h129'.rst g122
  vreq (g130.free (h106'.nx + 12))
  (let g131 : Hp := g130.lay (h106'.nx + 12) (.cells [(.int .u32 0), (.int .u32 0)] 102 .fix)
  vreq (canW (g131.grd []) (h106'.nx + 12) 0 [(.int .u32 x123'), (.int .u32 x124')])
  (let g132 : Hp := (g131.grd []).wr (h106'.nx + 12) 0 [(.int .u32 x123'), (.int .u32 x124')]
  let g133 : Hp := g132.rst g131
  vcond (eqI x128' 2)
  (Q (.tuple #[(.slice none 0 0), (.int .i64 8)]) g133)
  (vcond (eqI x128' 0)
  (I52_0 O Q x0_0 a0_1 n0_1 c0_1 a1 n1 c1 b2 f2 a4 n4 c4 x5 a10 n10 c10 a34 n34 c34 x35 (wrapF .i64 (x36 + 1)) g133)
  (let g134 : Hp := g133.add (.cells [(.int .i64 x104')] 3 .fix)
  ∃ a135' n136' c137' h138', appendV Tryd.prog g134 32 32 (.slice a10 n10 c10) (.slice (some ⟨g133.nx, 0, none⟩) 1 1) = some (.slice a135' n136' c137', h138') ∧
  I52_0 O Q x0_0 a0_1 n0_1 c0_1 a1 n1 c1 b2 f2 a4 n4 c4 x5 a135' n136' c137' a34 n34 c34 x35 (wrapF .i64 (x36 + 1)) h138'))))))
  (let g139 : Hp := h106'.add (.cells [(.int .i64 x104')] 3 .fix)
  ∃ a140' n141' c142' h143', appendV Tryd.prog g139 32 32 (.slice a10 n10 c10) (.slice (some ⟨h106'.nx, 0, none⟩) 1 1) = some (.slice a140' n141' c142', h143') ∧
  I52_0 O Q x0_0 a0_1 n0_1 c0_1 a1 n1 c1 b2 f2 a4 n4 c4 x5 a140' n141' c142' a34 n34 c34 x35 (wrapF .i64 (x36 + 1)) h143')))
  (Q (.tuple #[(.slice a10 n10 c10), (.int .i64 0)]) h)
theorem I52_0.of {O Q} (x0_0 a0_1 n0_1 c0_1 a1 n1 c1 b2 f2 a4 n4 c4 x5 a10 n10 c10 a34 n34 c34 x35 x36) {h : Hp} (hh : T52_0 O Q x0_0 a0_1 n0_1 c0_1 a1 n1 c1 b2 f2 a4 n4 c4 x5 a10 n10 c10 a34 n34 c34 x35 x36 h) : I52_0 O Q x0_0 a0_1 n0_1 c0_1 a1 n1 c1 b2 f2 a4 n4 c4 x5 a10 n10 c10 a34 n34 c34 x35 x36 h :=
  RKL.of (tb := lv52) (cuts := []) 500 fun _ => Eq.mp (by kernel_rfl) hh
/-! sward/swardlaw20.SatForced$1 -/
noncomputable def b70 : Code := (Tryd.f70.body).getD .skip
def lv70 : List (Nat × List Nat) := []
def T70 (O : CallF) (Q : Value → Hp → Prop) (x0 : Int) (b1 : Nat) (f1 : Nat) (h : Hp) : Prop :=
  ∃ x1', readAt h b1 f1 1 = some [(.int .i64 x1')] ∧
  ∃ q2', ∃ h3', EvC Tryd.prog O 66 [(.int .i64 x0), (.int .i64 x1')] h (.bool q2') h3' ∧
  Q (.bool (!q2')) h3'
theorem rk70 {O Q} (x0 b1 f1) {h : Hp} (hO : O 70 [(.int .i64 x0), (.pointer (some ⟨b1, f1, none⟩))] h = none) (hh : T70 O Q x0 b1 f1 h) : Ret Tryd.prog O 70 [(.int .i64 x0), (.pointer (some ⟨b1, f1, none⟩))] h Q :=
  .of (c := b70) Tryd.func70 (by kernel_rfl) hO (V_ok (tb := lv70) (cuts := []) 500 (Eq.mp (by kernel_rfl) hh))
/-! slices.Reverse[[]int,int] -/
end Go.Proofs.YtfgfhplgnfbaaaaDoor
/- Forced: its walk. -/
namespace Go.Proofs.YtfgfhplgnfbaaaaDoor
open Go Go.Ev
section
variable {O : CallF} (hO : Oth O)
include hO
theorem lp19A {h₀ : Hp} (ok : h₀.Ok) {a0 : Option Addr} {n0 c0 : Nat} {xs : List Int} (X : IntsAt h₀ a0 n0 xs) (hl : xs.length ≤ 12) (hx : ∀ x ∈ xs, Lit x) :
    ∀ (d k : Nat), k + d = xs.length → ∀ {h : Hp} {a n c} {acc : List Int}, Kp h₀.nx h₀ h → AccI 3 h h₀.nx a n c acc → acc.length ≤ k → (∀ x ∈ acc, Lit x) → Nod acc → (acc = [] → a = none) → firstF (xs.drop k) acc = firstF xs [] →
      I19_0 O (fun v h' => ∃ a n c, v = .slice a n c ∧ AccI 3 h' h₀.nx a n c (clauseN xs) ∧ Kp h₀.nx h₀ h') a0 n0 c0 a n c (Int.ofNat k) h := by
  have hn := X.1
  intro d
  induction d with
  | zero =>
    intro k hk h a n c acc kp A hal ha hnd hz he
    refine I19_0.of _ _ _ _ _ _ _ ?_
    unfold T19_0
    rw [List.drop_of_length_le (by omega)] at he
    have he : acc = firstF xs [] := he
    have eq : clauseN xs = isrt acc := by rw [clauseN, he]
    rw [eq]
    refine vcond_f (by rw [ltI_nat]; exact blt_f (by omega)) ?_
    have hnn : n = acc.length := A.ints.1
    have A' := A
    rcases A with ⟨rfl, rfl, rfl, h4⟩ | ⟨o, rfl, rfl, h3, h4, h5, h6⟩
    · have : acc = [] := by simpa using h4
      subst this
      exact (ct74n hO 0 75 h).u fun h' k => ⟨_, _, _, rfl, AccI.nil .., kp.trans (k.le kp.nx)⟩
    · subst hnn
      refine (ct74g hO (cmp75 hO) (m := .grow) (by decide) (b := o) (c := unk) (fun q hq => ?_) (by omega) ha ⟨h5, h6⟩).u fun h' ⟨l', p, s, R, K⟩ => ?_
      · rw [kp.gd] at hq; have := ok.gd q hq; omega
      · obtain rfl := srt_eq hnd p s
        exact ⟨_, _, _, rfl, .inr ⟨o, rfl, rfl, by rw [List.length_map, p.length_eq]; omega, h4, R.lt, R.get⟩, kp.trans (K.kp h4 kp.nx)⟩
  | succ d ih =>
    intro k hk h a n c acc kp A hal ha hnd hz he
    refine I19_0.of _ _ _ _ _ _ _ ?_
    unfold T19_0
    have hkl : k < xs.length := by omega
    rw [List.drop_eq_getElem_cons hkl] at he
    simp only [firstF] at he
    have hxk := hx _ (List.getElem_mem hkl)
    have neg : wrapF .i64 (0 - xs[k]) = -xs[k] := by have := hxk.2; rw [wrap64] <;> omega
    have := kp.ex (Nat.le_refl _)
    refine vcond_t (by rw [ltI_nat]; exact blt_t (by omega)) (isNat_i (X.rd hkl ⟨_, _, ct62 hO _ A.ints (by omega), vcond_split (fun h1 => ?_) fun h1 => ?_⟩))
    · have h1 : xs[k] ∉ acc := by simpa using h1
      rw [neg]
      refine ⟨_, _, ct62 hO _ A.ints (by omega), vcond_split (fun h2 => ?_) fun h2 => ?_⟩
      · have h2 : -xs[k] ∉ acc := by simpa using h2
        rw [if_neg (by simp [h1, h2])] at he
        rw [wrap_succ (by omega)]
        refine appI app32 A kp.nx (GdLt.kp ok.lt kp) (by omega) fun a' n' c' h' A' _ kA => ih (k + 1) (by omega) (kp.trans kA) A' (by simp; omega) (fun x hx => ?_) ?_ ?_ he
        · rcases List.mem_append.1 hx with hx | hx
          · exact ha x hx
          · obtain rfl := List.mem_singleton.1 hx; exact hxk
        · refine List.pairwise_append.2 ⟨hnd, List.pairwise_singleton .., fun y hy z hz e => ?_⟩
          obtain rfl := List.mem_singleton.1 hz
          have : y = xs[k] ∨ y = -xs[k] := by omega
          rcases this with rfl | rfl
          · exact h1 hy
          · exact h2 hy
        · exact fun e => absurd e (by simp)
      · have h2 : -xs[k] ∈ acc := by simpa using h2
        rw [if_pos (.inr h2)] at he
        rw [wrap_succ (by omega)]
        exact ih (k + 1) (by omega) kp A (by omega) ha hnd hz he
    · have h1 : xs[k] ∈ acc := by simpa using h1
      rw [if_pos (.inl h1)] at he
      rw [wrap_succ (by omega)]
      exact ih (k + 1) (by omega) kp A (by omega) ha hnd hz he
theorem ct19A {h : Hp} (ok : h.Ok) {a0 : Option Addr} {n0 c0 : Nat} {xs : List Int} (X : IntsAt h a0 n0 xs) (hl : xs.length ≤ 12) (hx : ∀ x ∈ xs, Lit x) : Ret Tryd.prog O 19 [.slice a0 n0 c0] h fun v h' => ∃ a n c, v = .slice a n c ∧ AccI 3 h' h.nx a n c (clauseN xs) ∧ Kp h.nx h h' := by
  refine rk19 _ _ _ (hO _ _ _ (by decide)) ?_
  unfold T19
  exact lp19A hO ok X hl hx xs.length 0 (by omega) (.refl _ _) (AccI.nil ..) (by simp) (fun _ h => by cases h) List.Pairwise.nil (fun _ => rfl) rfl
/-- What a clipped list is, and what is appended to it. -/
theorem clip_app {base : Nat} {ad : Option Addr} {nd cd : Nat} {ds : List Int} {h : Hp} (A : AccI 3 h base ad nd cd ds) (hl : ds.length < 1000) :
    ∃ cc, EvT O 110 [.slice ad nd cd] h (.slice ad nd cc) h ∧ ∀ (g : Hp), (∀ o, ad = some ⟨o, 0, none⟩ → g.get o = h.get o) → ∀ q x, readAt g q 0 1 = some [.int .i64 x] → appendV Tryd.prog g 32 32 (.slice ad nd cc) (.slice (some ⟨q, 0, none⟩) 1 1) = some (.slice (some ⟨g.nx, 0, none⟩) (nd + 1) unk, g.add (.cells ((ds ++ [x]).map (Value.int .i64)) 3 .grow)) := by
  have hb : big = 4611686018427387904 := rfl
  have hu : unk = 18446744073709551616 := rfl
  obtain ⟨hz, info, z, hi, hzz, hrun⟩ := (app32 : AppT Tryd.prog 32 3 1 8).run
  rcases A with ⟨rfl, rfl, rfl, h4⟩ | ⟨o, rfl, rfl, h3, h4, h5, h6⟩
  · have hds : ds = [] := by simpa using h4
    subst hds
    refine ⟨0, EvC.of_ret (rk110 _ _ _ (hO _ _ _ (by decide)) ?_), fun g _ q x hq => ?_⟩
    · unfold T110
      exact ⟨none, 0, 0, by unfold sliceV; rw [Tryd.underlying32]; simp only [sz3, bind, Option.bind_some]; rfl, rfl, rfl⟩
    · rw [hrun _ _ _ ⟨_, _, _, rfl⟩, src_get (n := 1) (c := 1) (esz := 1) (off := 0) hq]
      rfl
  · have hn : nd = ds.length := by simpa using h3
    have hcl : (ds.map (Value.int .i64)).length = ds.length := List.length_map ..
    obtain ⟨off, e1, e2⟩ := slice_m (n := nd) (l := 0) (hh := nd) h6 (lo := none) (hi := some (.int .i64 (Int.ofNat nd))) (mx := some (.int .i64 (Int.ofNat nd))) (bound_i (by omega)) ⟨_, rfl⟩ rfl (bound_i (Nat.le_refl _)) (by omega)
    obtain rfl := e2 rfl
    refine ⟨nd, EvC.of_ret (rk110 _ _ _ (hO _ _ _ (by decide)) ?_), fun g hg q x hq => ?_⟩
    · unfold T110
      exact ⟨_, _, _, e1, rfl, rfl⟩
    · rw [hrun _ _ _ ⟨_, _, _, rfl⟩, src_get (n := 1) (c := 1) (esz := 1) (off := 0) hq]
      simp only [Option.bind_some, show ([Value.int .i64 x].all one) = true from rfl, cond_true, show Nat.beq 1 0 = false from rfl, cond_false]
      have hg : g.get o = some (.cells (ds.map (Value.int .i64)) 3 .grow) := by rw [hg o rfl]; exact h6
      unfold appSome
      have b1 : Nat.beq nd unk = false := by rw [Bool.eq_false_iff]; intro hh; have := Nat.eq_of_beq_eq_true hh; omega
      have b2 : Nat.ble (nd + 1) nd = false := by rw [Bool.eq_false_iff]; intro hh; have hh : nd + 1 ≤ nd := (by simpa using hh); omega
      simp only [hg, b1, b2, cond_false]
      rw [readAt_get hg (by omega), List.drop_zero, Nat.mul_one, List.take_of_length_le (by omega), Option.bind_some]
      unfold appNew
      rw [ble_t (by omega), blt_t (by omega), List.map_append]
      rfl
/-- The literals that are forced, of some. -/
def frcF (N : Nat) (cls : List (List Int)) (gs : List Int) : List Int → List Int → List Int × Int
  | [], acc => (acc, 0)
  | x :: xs, acc => if x ∈ gs then frcF N cls gs xs (acc ++ [x]) else if (solF N cls (gs ++ [-x])).how = 2 then ([], 8) else if (solF N cls (gs ++ [-x])).how = 0 then frcF N cls gs xs acc else frcF N cls gs xs (acc ++ [x])
def forcedP (vars : Int) (cls : List (List Int)) (gs : List Int) : List Int × Int :=
  if askB vars cls gs = false then ([], 2)
  else if (solF vars.toNat cls gs).how = 0 then frcF vars.toNat cls gs (litsN (solF vars.toNat cls gs).y (solF vars.toNat cls gs).m) []
  else ([], if (solF vars.toNat cls gs).how = 1 then 5 else if (solF vars.toNat cls gs).how = 2 then 8 else 0)
theorem lp52 {N : Nat} (hN : N ≤ 30) {h₀ : Hp} (ok : h₀.Ok) (ht : Tb h₀) {cls : List (List Int)} {gs : List Int} {aF a1 : Option Addr} {nF cF n1 c1 : Nat} (F : IntssAt h₀ aF nF cls) (hl : cls.length < 10000) (hll : ∀ l ∈ cls, l.length < 1000000) (hlit : ∀ l ∈ cls, ∀ x ∈ l, Lit x) {base : Nat} (A1 : AccI 3 h₀ base a1 n1 c1 gs) (hgl : gs.length < 900) (hg : ∀ x ∈ gs, Lit x)
    {b2 : Nat} (hb2 : b2 < h₀.nx) (g2 : h₀.get b2 = some (.cells [.int .i64 (Int.ofNat N), .slice aF nF cF] 30 .fix)) {x0 : Int} {aq a5 : Option Addr} {nq cq n5 c5 : Nat} {x5 : Int} {xs : List Int} {al : Option Addr} {nl cl : Nat} (XL : IntsAt h₀ al nl xs) (hxl : xs.length < 1000) (hxs : ∀ x ∈ xs, Lit x)
    (D : ∀ x ∈ xs, ∃ Dc, Dec N (cls.map sideN) (gs ++ [-x]) Dc ∧ Dc []) :
    ∀ (d k : Nat), k + d = xs.length → ∀ {h : Hp} {a10 : Option Addr} {n10 c10 : Nat} {acc : List Int}, Kp h₀.nx h₀ h → AccI 3 h h₀.nx a10 n10 c10 acc → acc.length ≤ k →
      I52_0 O (fun v h' => ∃ a n c, v = .tuple #[.slice a n c, .int .i64 (frcF N cls gs (xs.drop k) acc).2] ∧ IntsAt h' a n (frcF N cls gs (xs.drop k) acc).1 ∧ Kp h₀.nx h₀ h') x0 aq nq cq a1 n1 c1 b2 0 a5 n5 c5 x5 a10 n10 c10 al nl cl (Int.ofNat nl) (Int.ofNat k) h := by
  have hn := XL.1
  have G := A1.ints
  intro d
  induction d with
  | zero =>
    intro k hk h a10 n10 c10 acc kp A hal
    refine I52_0.of (hh := ?_) ..
    unfold T52_0
    rw [List.drop_of_length_le (by omega)]
    exact vcond_f (by rw [ltI_nat]; exact blt_f (by omega)) ⟨_, _, _, rfl, A.ints, kp⟩
  | succ d ih =>
    intro k hk h a10 n10 c10 acc kp A hal
    refine I52_0.of (hh := ?_) ..
    unfold T52_0
    have hkl : k < xs.length := by omega
    have f := kp.ex (Nat.le_refl _)
    have okh := ok.kp kp
    have e1 : xs.drop k = xs[k] :: xs.drop (k + 1) := List.drop_eq_getElem_cons hkl
    rw [e1]
    have lx := hxs _ (List.getElem_mem hkl)
    have lx2 := lx.2
    have lx1 := lx.1
    have ih' := fun {h a10 n10 c10 acc} => @ih (k + 1) (by omega) h a10 n10 c10 acc
    refine vcond_t (by rw [ltI_nat]; exact blt_t (by omega)) (isNat_i (XL.rd (h := h) hkl ⟨_, h, ct62 hO _ (G.to h) (by omega), ?_⟩))
    unfold frcF
    refine vcond_split (fun h1 => ?_) fun h1 => ?_
    · have h1 : xs[k] ∉ gs := by simpa using h1
      rw [if_neg h1]
      intro g107
      have K107 : Kp h.nx h g107 := (Kp.refl _ _).rsv 16
      have g107nx : g107.nx = h.nx + 16 := rfl
      have g2h : g107.get b2 = some (.cells [.int .i64 (Int.ofNat N), .slice aF nF cF] 30 .fix) := by rw [K107.get _ (by have := kp.nx; omega), kp.get _ hb2]; exact g2
      refine ⟨_, _, _, _, by rw [readAt_get g2h (by simp)]; rfl, ?_⟩
      have A107 : AccI 3 (g107.grd [b2]) base a1 n1 c1 gs := A1.keep (fun o ho _ => (K107.get o (by have := kp.nx; omega)).trans (kp.get o ho)) (by show h₀.nx ≤ h.nx + 16; have := kp.nx; omega)
      obtain ⟨cc, e110, app⟩ := clip_app hO A107 (by omega)
      refine ⟨_, _, _, _, e110, ?_⟩
      intro g116
      have e116 : g116 = g107 := rfl
      have fr : g116.get (h.nx + 5) = none := by rw [e116]; exact okh.fr _ (by omega)
      refine vreq_t (free_t fr) ?_
      rw [show wrapF .i64 (0 - xs[k]) = -xs[k] by rw [wrap64 (by omega) (by omega)]; omega]
      intro g117
      have K117 : Kp h.nx h g117 := K107.lay (h' := g107) (by omega) (by omega) _
      have g117nx : g117.nx = h.nx + 16 := rfl
      have w117 : g117.get (h.nx + 5) = some (.cells [.int .i64 (-xs[k])] 3 .fix) := by
        show (g107.lay _ _).get _ = _
        rw [get_lay, if_pos rfl]
      refine ⟨_, _, _, _, app (g117.grd [b2]) (fun o e => ?_) (h.nx + 5) (-xs[k]) (read1 (h := g117.grd [b2]) w117 (i := 0) rfl), ?_⟩
      · have ho : o < h.nx := by have := SlAt.lt G o 0 e; have := kp.nx; omega
        show g117.get o = g107.get o
        rw [K117.get o ho, K107.get o ho]
      intro g122
      have K122 : Kp h.nx h g122 := Kp.rst (g := [b2]) K117 ((Kp.refl _ (g117.grd [b2])).add (by show h.nx ≤ h.nx + 16; omega) _)
      have g122nx : g122.nx = h.nx + 17 := rfl
      have k122 := kp.trans (K122.le kp.nx)
      have ok122 : (g122.grd []).Ok := ok.kp k122
      have ht122 : Tb (g122.grd []) := ht.kp k122 ht.1
      have f122 := k122.ex (Nat.le_refl _)
      have F122 : IntssAt (g122.grd []) aF nF cls := (F.to g122).keep (fun _ _ _ => rfl) (Nat.le_refl _) fun _ _ h => h
      have w122 : (g122.grd []).get (h.nx + 16) = some (.cells ((gs ++ [-xs[k]]).map (Value.int .i64)) 3 .grow) := get_add_same (g117.grd [b2]) _
      have G122 : IntsAt (g122.grd []) (some ⟨h.nx + 16, 0, none⟩) (n1 + 1) (gs ++ [-xs[k]]) := by
        have := ints_of_get (xs := gs ++ [-xs[k]]) w122 (by show h.nx + 16 < h.nx + 17; omega) (by simp) fun i hi => by rw [List.getElem?_map, List.getElem?_eq_getElem hi]; rfl
        rw [show (gs ++ [-xs[k]]).length = n1 + 1 by rw [List.length_append, G.1]; rfl] at this
        exact this
      obtain ⟨Dc, D1, D0⟩ := D _ (List.getElem_mem hkl)
      obtain ⟨v129, h129, e129, az, nz, cz, rfl, _, K129⟩ := ct79 hO ok122 ht122 F122 hl hll hlit G122 (by simp; omega) (fun x hx => by
        rcases List.mem_append.1 hx with h | h
        · exact hg x h
        · rw [List.mem_singleton] at h; subst h; exact ⟨by omega, by omega, by omega⟩) hN D1 D0 (c := cF) (c1 := unk)
      generalize solF N cls (gs ++ [-xs[k]]) = r at *
      refine ⟨_, _, _, _, _, _, h129, e129, ?_⟩
      intro g130
      have K130 : Kp h.nx h g130 := K122.trans (Kp.le (n := g122.nx) (show Kp g122.nx g122 g130 from Kp.rst (Kp.refl _ _) K129) (by omega))
      have n130 : h.nx + 17 ≤ g130.nx := K129.nx
      have fr2 : g130.get (h.nx + 12) = none := by
        rw [show g130.get (h.nx + 12) = h129.get (h.nx + 12) from rfl, K129.get _ (by show h.nx + 12 < h.nx + 17; omega)]
        show ((g117.grd [b2]).add _).get _ = none
        rw [get_add_ne (by show h.nx + 12 ≠ h.nx + 16; omega)]
        show (g107.lay _ _).get _ = none
        rw [get_lay, if_neg (by omega)]
        exact okh.fr _ (by omega)
      refine vreq_t (free_t fr2) ?_
      intro g131
      have K131 : Kp h.nx h g131 := K130.lay (by omega) (by omega) _
      have w131 : g131.get (h.nx + 12) = some (.cells [U 0, U 0] 102 .fix) := by
        show (g130.lay _ _).get _ = _
        rw [get_lay, if_pos rfl]; rfl
      have gf : (g131.grd []).guarded (h.nx + 12) = false := guarded_of fun q hq => by
        have : q ∈ g131.gd := hq
        rw [K131.gd] at this; have := okh.gd q this; omega
      refine vreq_t (canW_t (h := g131.grd []) w131 (by decide) gf (by simp) rfl) ?_
      intro g132 g133
      have K133 : Kp h.nx h g133 := Kp.rst (g := []) K131 ((Kp.refl _ (g131.grd [])).wr (by omega) _ _)
      have k133 := kp.trans (K133.le kp.nx)
      have f133 := K133.ex (Nat.le_refl _)
      refine vcond_split (fun h2 => ?_) fun h2 => vcond_split (fun h3 => ?_) fun h3 => ?_
      · rw [if_pos (eq_of_t h2)]
        exact ⟨_, _, _, rfl, SlAt.nil .., k133⟩
      · rw [if_neg (ne_of_f h2), if_pos (eq_of_t h3), wrap_succ (by omega)]
        exact ih' k133 (A.to g133) (by omega)
      · rw [if_neg (ne_of_f h2), if_neg (ne_of_f h3)]
        intro g134
        rw [wrap_succ (by omega)]
        exact appI app32 (A.to g133) k133.nx (GdLt.kp ok.lt k133) (by omega) fun a' n' c' h' A' _ kA => ih' (k133.trans kA) A' (by simp; omega)
    · have h1 : xs[k] ∈ gs := by simpa using h1
      rw [if_pos h1]
      intro g139
      rw [wrap_succ (by omega)]
      exact appI app32 A kp.nx (GdLt.kp ok.lt kp) (by omega) fun a' n' c' h' A' _ kA => ih' (kp.trans kA) A' (by simp; omega)
theorem ct52 {base : Nat} {a a1 : Option Addr} {n c n1 c1 : Nat} {vars : Int} {h : Hp} {cls : List (List Int)} {gs : List Int} (ok : h.Ok) (ht : Tb h) (H : IntssAt h a n cls) (hl : cls.length < 1000000) (hll : ∀ l ∈ cls, l.length < 1000000) (A1 : AccI 3 h base a1 n1 c1 gs) (hgl : gs.length < 900)
    (D : askB vars cls gs = true → ∃ Dc, Dec vars.toNat (cls.map sideN) gs Dc ∧ Dc []) (D2 : askB vars cls gs = true → (solF vars.toNat cls gs).how = 0 → ∀ x ∈ litsN (solF vars.toNat cls gs).y (solF vars.toNat cls gs).m, Lit x ∧ ∃ Dc, Dec vars.toNat (cls.map sideN) (gs ++ [-x]) Dc ∧ Dc []) (hlt : askB vars cls gs = true → (solF vars.toNat cls gs).y < 2 ^ 30 ∧ (solF vars.toNat cls gs).m < 2 ^ 30) :
    Ret Tryd.prog O 52 [Fm vars a n c, .slice a1 n1 c1] h fun v h' => ∃ al nl cl, v = .tuple #[.slice al nl cl, .int .i64 (forcedP vars cls gs).2] ∧ IntsAt h' al nl (forcedP vars cls gs).1 ∧ Kp h.nx h h' := by
  have G := A1.ints
  refine rk52 _ _ _ _ _ _ _ (hO _ _ _ (by decide)) ?_
  unfold T52
  intro g1
  have kp : Kp h.nx h g1 := fm_kp h vars a n c
  have g : g1.get h.nx = some (.cells [.int .i64 vars, .slice a n c] 30 .fix) := fm_get h vars a n c
  have g1nx : g1.nx = h.nx + 1 := nx_add ..
  obtain ⟨v1, h7, e7, rfl, K7⟩ := ct78 hO (c := c) (vars := vars) (c1 := c1) (H.up EInts.up kp) hl hll (G.up EInt.up kp) (by omega)
  have k7 : Kp h.nx h h7 := kp.trans (K7.le kp.nx)
  have hn7 := K7.nx
  have g7 : h7.get h.nx = some (.cells [.int .i64 vars, .slice a n c] 30 .fix) := by rw [K7.get _ (by omega)]; exact g
  refine ⟨_, _, _, _, by rw [readAt_get g (by simp)]; rfl, _, h7, e7, ?_⟩
  unfold forcedP
  cases ha : askB vars cls gs with
  | false => exact vcond_t (by decide) ⟨_, _, _, by rw [if_pos rfl]; rfl, by rw [if_pos rfl]; exact SlAt.nil .., k7⟩
  | true =>
    obtain ⟨⟨v0, v30⟩, q1, q2, q3⟩ := form_bounds ha
    obtain ⟨Dc, D, D0⟩ := D ha
    obtain ⟨hy, hm⟩ := hlt ha
    have D2 := D2 ha
    rw [if_neg (show ¬ (true = false) by decide)]
    refine vcond_f (by decide) ⟨_, _, _, _, by rw [readAt_get g7 (by simp)]; rfl, ?_⟩
    have lits : ∀ l ∈ cls, ∀ x ∈ l, Lit x := fun l hl x hx => (clB_lit (by decide) (q2 l hl) x hx).1
    have glit : ∀ x ∈ gs, Lit x := fun x hx => (clB_lit (by decide) q3 x hx).1
    have ev : vars = Int.ofNat vars.toNat := by simp only [Int.ofNat_eq_natCast]; omega
    obtain ⟨v18, h18, e18, al, nl, cl, rfl, L18, K18⟩ := ct79 hO (N := vars.toNat) (ok.kp k7) (ht.kp k7 ht.1) (H.up EInts.up k7) (by omega) hll lits (G.up EInt.up k7) (by omega) glit (by omega) D D0 (c := c) (c1 := c1)
    rw [← ev] at e18
    refine ⟨_, _, _, _, _, _, h18, e18, ?_⟩
    generalize hr : solF vars.toNat cls gs = r at *
    intro g19
    have k18 : Kp h.nx h h18 := k7.trans (K18.le k7.nx)
    have hn18 := K18.nx
    have gf : g19.guarded h18.nx = false := guarded_of fun q hq => by have := (ok.kp k18).gd q hq; omega
    have gs19 : g19.get h18.nx = some (.cells [U 0, U 0] 102 .fix) := get_add_same ..
    refine vreq_t (canW_t gs19 (by decide) gf (by simp) rfl) ?_
    intro g20
    have K20 : Kp h18.nx h18 g20 := ((Kp.refl _ _).add (Nat.le_refl _) _).wr (Nat.le_refl _) _ _
    have k20 : Kp h.nx h g20 := k18.trans (K20.le k18.nx)
    have g20nx : g20.nx = h18.nx + 1 := (nx_wr ..).trans (nx_add ..)
    have w20 : g20.get h18.nx = some (.cells [U r.y, U r.m] 102 .fix) := wr_get gs19 (by decide) gf (by simp) rfl
    refine vcond_split (fun h1 => ?_) fun h1 => ?_
    · rw [if_neg (fun e => by rw [e] at h1; exact absurd h1 (by decide))]
      exact ⟨_, _, ct80 hO _ _, _, _, _, rfl, SlAt.nil .., k20⟩
    · have h1 : r.how = 0 := eq_of_t (by simpa using h1)
      have D2 := D2 h1
      rw [if_pos h1]
      refine ⟨_, _, by rw [readAt_get w20 (by simp)]; rfl, ?_⟩
      have ok20 := ok.kp k20
      have ht20 := ht.kp k20 ht.1
      obtain ⟨v28, h28, e28, a25, n26, c27, rfl, X28, K28, _⟩ := ct90 hO hy hm ok20 ht20
      refine ⟨_, _, _, h28, e28, ?_⟩
      have k28 : Kp h.nx h h28 := k20.trans (K28.le k20.nx)
      have hn28 := K28.nx
      have f28 := k28.ex (Nat.le_refl _)
      have g28 : h28.get h.nx = some (.cells [.int .i64 (Int.ofNat vars.toNat), .slice a n c] 30 .fix) := by rw [← ev, K28.get _ (by omega), K20.get _ (by omega), K18.get _ (by omega)]; exact g7
      have ok28 := ok.kp k28
      have := lp52 hO (N := vars.toNat) (by omega) ok28 (ht.kp k28 ht.1) (H.to h28) (by omega) hll lits (A1.to h28) hgl glit (b2 := h.nx) (by omega) g28 (x0 := vars) (aq := a) (nq := n) (cq := c) (a5 := none) (n5 := 0) (c5 := 0) (x5 := 0) X28 (by have := litsN_len r.y r.m; omega) (fun x hx => (D2 x hx).1) (fun x hx => (D2 x hx).2) _ 0 (Nat.zero_add _) (.refl _ _) (AccI.nil 3 h28 h28.nx) (Nat.le_refl _) (cl := c27)
      rw [List.drop_zero] at this
      exact RKL.mono this fun v h' ⟨a, n, c, e, X, K⟩ => ⟨a, n, c, e, X, k28.trans (K.le k28.nx)⟩
end
end Go.Proofs.YtfgfhplgnfbaaaaDoor
/- Forced: the plain law. -/
namespace Go.Proofs.YtfgfhplgnfbaaaaDoor
open Go Go.Ev
theorem rev_rev {N k : Nat} (hk : k < 2 ^ N) : bitsF N (bitsF N k N) N = k := by
  have hb := bitsF_lt N (bitsF N k N) N
  refine Nat.eq_of_testBit_eq fun i => ?_
  rcases Nat.lt_or_ge i N with hi | hi
  · rw [bitsF_bit N _ N i hi, bitsF_bit N _ N _ (by omega), show N - 1 - (N - 1 - i) = i by omega]
  · have high : ∀ {x : Nat}, x < 2 ^ N → x.testBit i = false := fun {x} hx => Nat.testBit_lt_two_pow (Nat.lt_of_lt_of_le hx (Nat.pow_le_pow_right (by decide) hi))
    rw [high hb, high hk]
theorem rev_perm (N : Nat) : ((List.range (2 ^ N)).map fun k => bitsF N k N).Perm (List.range (2 ^ N)) := by
  refine (List.perm_ext_iff_of_nodup ?_ List.nodup_range).2 fun x => ?_
  · unfold List.Nodup
    rw [List.pairwise_map]
    refine List.Pairwise.imp_of_mem (fun {x y} hx hy h e => h ?_) List.nodup_range
    rw [← rev_rev (List.mem_range.1 hx), e, rev_rev (List.mem_range.1 hy)]
  · rw [List.mem_map, List.mem_range]
    constructor
    · rintro ⟨k, _, rfl⟩; exact bitsF_lt N k N
    · intro hx; exact ⟨bitsF N x N, List.mem_range.2 (bitsF_lt N x N), rev_rev hx⟩
theorem sideT_any {l : List Int} (hl : ∀ x ∈ l, Lit x) (m : Nat) : sideT m (sideN l) = l.any (isB m) := by
  have h := sideT_iff hl m
  have h2 : l.any (isB m) = true ↔ ∃ i : Nat, (((i + 1 : Nat) : Int) ∈ l ∧ m.testBit i = true) ∨ (-((i + 1 : Nat) : Int) ∈ l ∧ m.testBit i = false) := by
    rw [List.any_eq_true]
    constructor
    · rintro ⟨x, hx, hb⟩
      have h0 := (hl x hx).1
      refine ⟨x.natAbs - 1, ?_⟩
      unfold isB at hb
      split at hb
      · right; exact ⟨by rw [show -(((x.natAbs - 1 + 1 : Nat)) : Int) = x by omega]; exact hx, by simpa using hb⟩
      · left; exact ⟨by rw [show (((x.natAbs - 1 + 1 : Nat)) : Int) = x by omega]; exact hx, hb⟩
    · rintro ⟨i, ⟨hx, hb⟩ | ⟨hx, hb⟩⟩
      · exact ⟨_, hx, by rw [show (((i + 1 : Nat)) : Int) = Int.ofNat (i + 1) from rfl, isB_pos]; exact hb⟩
      · exact ⟨_, hx, by rw [show (((i + 1 : Nat)) : Int) = Int.ofNat (i + 1) from rfl, isB_of_neg, hb]; rfl⟩
  rw [Bool.eq_iff_iff, h, h2]
theorem smF_filter (p : Nat → Bool) : ∀ n, smF (fun j => if p j = true then 1 else 0) n = ((List.range n).filter p).length := by
  intro n
  induction n with
  | zero => rfl
  | succ n ih =>
    rw [List.range_succ, List.filter_append, List.length_append, ← ih]
    show smF _ n + (if p n = true then 1 else 0) = _
    cases hp : p n <;> simp [hp]
theorem count_models {N : Nat} {cls : List (List Int)} (hl : ∀ l ∈ cls, ∀ x ∈ l, Lit x) : cntP (cls.map sideN) (2 ^ N) 0 = (modelsN N cls []).length := by
  rw [cntP_sm]
  simp only [Nat.zero_add]
  rw [smF_filter fun j => (cls.map sideN).all (sideT j)]
  unfold modelsN
  rw [((rev_perm N).filter (satM cls [])).length_eq]
  congr 1
  refine List.filter_congr fun m _ => ?_
  unfold satM
  rw [List.all_nil, Bool.true_and, List.all_map]
  rw [Bool.eq_iff_iff, List.all_eq_true, List.all_eq_true]
  exact ⟨fun h l hl' => by have := h l hl'; rwa [Function.comp, sideT_any (hl l hl')] at this, fun h l hl' => by rw [Function.comp, sideT_any (hl l hl')]; exact h l hl'⟩
/-- What all of some models have. -/
def wantF (ms : List Nat) (N : Nat) : List Int := (List.range N).flatMap fun i => (if ms.any (fun m => !(isB m (Int.ofNat (i + 1)))) = true then [] else [Int.ofNat (i + 1)]) ++ (if ms.any (fun m => !(isB m (-Int.ofNat (i + 1)))) = true then [] else [-Int.ofNat (i + 1)])
theorem frcF_eq {N : Nat} {cls : List (List Int)} {gs : List Int} : ∀ {xs acc : List Int}, (∀ x ∈ xs, (solF N cls (gs ++ [-x])).how ≠ 2) → frcF N cls gs xs acc = (acc ++ xs.filter fun x => decide (x ∈ gs) || !(decide ((solF N cls (gs ++ [-x])).how = 0)), 0) := by
  intro xs
  induction xs with
  | nil => intro acc _; simp [frcF]
  | cons x xs ih =>
    intro acc h
    have ih := fun acc => ih (acc := acc) fun z hz => h z (List.mem_cons_of_mem _ hz)
    unfold frcF
    rw [List.filter_cons]
    by_cases h1 : x ∈ gs
    · rw [if_pos h1, ih]; simp [h1]
    · rw [if_neg h1, if_neg (h x (by simp))]
      by_cases h2 : (solF N cls (gs ++ [-x])).how = 0
      · rw [if_pos h2, ih]; simp [h1, h2]
      · rw [if_neg h2, ih]; simp [h1, h2]
theorem range_lt {N M : Nat} (h : N ≤ M) : (List.range M).filter (fun i => decide (i < N)) = List.range N := by
  induction M with
  | zero => obtain rfl : N = 0 := by omega
            rfl
  | succ M ih =>
    rw [List.range_succ, List.filter_append]
    rcases Nat.lt_or_ge M N with h1 | h1
    · obtain rfl : N = M + 1 := by omega
      rw [List.filter_eq_self.2 fun x hx => by have := List.mem_range.1 hx; simp; omega, List.range_succ]
      simp
    · rw [ih (by omega)]
      simp; omega
theorem filter_flat {lit : Nat → Int} {keep : Int → Bool} {piece : Nat → List Int} : ∀ {l : List Nat}, (∀ i ∈ l, piece i = if keep (lit i) = true then [lit i] else []) → (l.map lit).filter keep = l.flatMap piece := by
  intro l
  induction l with
  | nil => intro _; rfl
  | cons i l ih =>
    intro h
    rw [List.map_cons, List.filter_cons, List.flatMap_cons, h i (by simp), ih fun j hj => h j (List.mem_cons_of_mem _ hj)]
    cases keep (lit i) <;> simp
theorem models_more {N : Nat} {cls : List (List Int)} {gs : List Int} {x : Int} : modelsN N cls (gs ++ [x]) = (modelsN N cls gs).filter fun m => isB m x := by
  unfold modelsN
  rw [List.filter_filter]
  refine List.filter_congr fun m _ => ?_
  unfold satM
  rw [List.all_append, List.all_cons, List.all_nil, Bool.and_true]
  cases gs.all (isB m) <;> cases isB m x <;> cases cls.all (fun c => c.any (isB m)) <;> rfl
theorem forced_want {N : Nat} (hN : 1 ≤ N ∧ N ≤ 8) {cls : List (List Int)} {gs : List Int} (hc : ∀ l ∈ cls, Cv (Int.ofNat N) l) (hg : Lv (Int.ofNat N) gs) (h0 : (solF N cls gs).how = 0) :
    (∀ x ∈ litsN (solF N cls gs).y (solF N cls gs).m, Lit x ∧ (x.natAbs : Int) ≤ Int.ofNat N) ∧ frcF N cls gs (litsN (solF N cls gs).y (solF N cls gs).m) [] = (wantF (modelsN N cls gs) N, 0) := by
  have h30 : N ≤ 30 := by omega
  rcases solve_small h30 hc hg hN.2 with ⟨_, ful, dis, m, rest, em, hm⟩ | ⟨h1, _⟩
  · generalize (solF N cls gs).y = y at *
    generalize (solF N cls gs).m = z at *
    have el : litsN y z = (List.range N).map fun i => if y.testBit i = true then Int.ofNat (i + 1) else -Int.ofNat (i + 1) := by
      unfold litsN digits
      rw [show (List.range 30).filter (fun i => (y ||| z).testBit i) = List.range N by rw [← range_lt h30]; exact List.filter_congr fun i _ => ful i]
      refine List.map_congr_left fun i hi => ?_
      have hf := ful i
      rw [decide_eq_true (List.mem_range.1 hi), Nat.testBit_or] at hf
      unfold litOf ofN
      cases hy : y.testBit i with
      | true => simp
      | false => rw [hy, Bool.false_or] at hf; simp [hf]
    have lx : ∀ x ∈ litsN y z, Lit x ∧ (x.natAbs : Int) ≤ Int.ofNat N := fun x hx => by
      rw [el] at hx
      obtain ⟨i, hi, rfl⟩ := List.mem_map.1 hx
      have := List.mem_range.1 hi
      split <;> exact ⟨⟨by simp only [Int.ofNat_eq_natCast]; omega, by simp only [Int.ofNat_eq_natCast]; omega, by simp only [Int.ofNat_eq_natCast]; omega⟩, by simp only [Int.ofNat_eq_natCast]; omega⟩
    have lv : ∀ x ∈ litsN y z, Lv (Int.ofNat N) (gs ++ [-x]) := fun x hx w hw => by
      rcases List.mem_append.1 hw with h | h
      · exact hg w h
      · rw [List.mem_singleton] at h; subst h
        obtain ⟨a, b⟩ := lx x hx
        exact ⟨⟨by have := a.1; omega, by have := a.2; omega⟩, by rw [Int.natAbs_neg]; exact b⟩
    have sm := fun x hx => solve_small h30 hc (lv x hx) hN.2
    refine ⟨lx, ?_⟩
    rw [frcF_eq fun x hx => by
      rcases sm x hx with ⟨h, _⟩ | ⟨h, _⟩ <;> rw [h] <;> decide]
    rw [List.nil_append]
    have keep : ∀ x ∈ litsN y z, (decide (x ∈ gs) || !(decide ((solF N cls (gs ++ [-x])).how = 0))) = !((modelsN N cls gs).any fun m => !(isB m x)) := fun x hx => by
      have nx := (lx x hx).1.1
      by_cases hxg : x ∈ gs
      · rw [decide_eq_true hxg, Bool.true_or]
        symm
        rw [Bool.not_eq_true', List.any_eq_false]
        intro m hm
        have := (List.mem_filter.1 hm).2
        unfold satM at this
        rw [Bool.and_eq_true, List.all_eq_true] at this
        rw [this.1 x hxg]; decide
      · rw [decide_eq_false hxg, Bool.false_or]
        congr 1
        have eqf : ∀ m, isB m (-x) = !(isB m x) := fun m => isB_neg nx
        rcases sm x hx with ⟨h, _, _, m', rest', em', _⟩ | ⟨h, em', _⟩
        · rw [decide_eq_true h]; symm
          rw [models_more] at em'
          have : m' ∈ (modelsN N cls gs).filter fun m => isB m (-x) := by rw [em']; simp
          obtain ⟨a, b⟩ := List.mem_filter.1 this
          rw [List.any_eq_true]
          exact ⟨m', a, by rw [← eqf]; exact b⟩
        · rw [decide_eq_false (by rw [h]; decide)]; symm
          rw [models_more, List.filter_eq_nil_iff] at em'
          rw [List.any_eq_false]
          intro m hm
          rw [← eqf]; exact em' m hm
    rw [List.filter_congr keep, el]
    congr 1
    unfold wantF
    refine filter_flat fun i hi => ?_
    have hb := hm i (List.mem_range.1 hi)
    cases hy : y.testBit i with
    | true =>
      have : ((modelsN N cls gs).any fun m => !(isB m (-Int.ofNat (i + 1)))) = true := by
        rw [em, List.any_cons, isB_of_neg, hb, hy]; rfl
      simp only [this, ↓reduceIte, List.append_nil]
      cases ((modelsN N cls gs).any fun m => !(isB m (Int.ofNat (i + 1)))) <;> rfl
    | false =>
      have : ((modelsN N cls gs).any fun m => !(isB m (Int.ofNat (i + 1)))) = true := by
        rw [em, List.any_cons, isB_pos, hb, hy]; rfl
      simp only [this, ↓reduceIte, List.nil_append, Bool.false_eq_true]
      cases ((modelsN N cls gs).any fun m => !(isB m (-Int.ofNat (i + 1)))) <;> rfl
  · rw [h0] at h1; cases h1
end Go.Proofs.YtfgfhplgnfbaaaaDoor
/- What a call's arguments hold, as the evaluator's memory. -/
namespace Go.Ev
open Go
/-- Fields lie one behind the other. -/
def layOk (P : Program) : Nat → List Field → Nat → Bool
  | off, [], n => Nat.beq off n
  | off, f :: fs, n => Nat.beq f.offset off && layOk P (off + P.cellsOf f.type) fs n
/-- A type of truths, whole numbers, lists, structs and rows of these. -/
def Plain (P : Program) : Nat → TypeId → Bool
  | 0, _ => false
  | n + 1, t => match P.underlying t with
    | some .bool => true
    | some (.int _) => true
    | some (.slice e) => Plain P n e && !(Nat.beq (P.cellsOf e) 0)
    | some (.struct fs) => fs.toList.all (fun f => Plain P n f.type) && layOk P 0 fs.toList (P.cellsOf t)
    | some (.array m e) => Plain P n e && Nat.beq (m * P.cellsOf e) (P.cellsOf t)
    | _ => false
/-- Cells that read as some data, in the evaluator's memory. -/
def DE {H : Type} (P : Program) (h : Hp) : Nat → TypeId → List Value → DataW H → Prop
  | 0, _, _, _ => False
  | n + 1, t, cs, d => match P.underlying t, d with
    | some .bool, .lit (.bool b) => cs = [.bool b]
    | some (.int k), .lit (.int k' x) => k' = k ∧ cs = [.int k x] ∧ (Lit.int k x).wf = true
    | some (.slice _), .nil => cs = [.slice none 0 0]
    | some (.slice e), .slice elems _ => ∃ k cap c e', cs = [.slice (some ⟨k, 0, none⟩) elems.length cap] ∧ cap < unk ∧ elems.length ≤ cap ∧ k < h.nx ∧ h.get k = some (.cells c e' .ro) ∧ elems.length * P.cellsOf e ≤ c.length ∧
        ∀ i (hi : i < elems.length), DE P h n e ((c.drop (i * P.cellsOf e)).take (P.cellsOf e)) elems[i]
    | some (.struct fs), .agg parts => cs.length = P.cellsOf t ∧ parts.length = fs.size ∧ ∀ i (hi : i < parts.length) f, fs[i]? = some f → DE P h n f.type ((cs.drop f.offset).take (P.cellsOf f.type)) parts[i]
    | some (.array m e), .agg parts => cs.length = P.cellsOf t ∧ parts.length = m ∧ ∀ i (hi : i < parts.length), DE P h n e ((cs.drop (i * P.cellsOf e)).take (P.cellsOf e)) parts[i]
    | _, _ => False
/-- Memory with more in it, that none writes. -/
structure Ext1 (h : Hp) (ι : Inj) (h' : Hp) (ι' : Inj) : Prop where
  nx : h.nx ≤ h'.nx
  gd : h'.gd = h.gd
  get : ∀ o, o < h.nx → h'.get o = h.get o
  inj : ∀ o, o < h.nx → ι' o = ι o
theorem Ext1.refl (h : Hp) (ι : Inj) : Ext1 h ι h ι := ⟨Nat.le_refl _, rfl, fun _ _ => rfl, fun _ _ => rfl⟩
theorem Ext1.trans {h h' h'' : Hp} {ι ι' ι'' : Inj} (a : Ext1 h ι h' ι') (b : Ext1 h' ι' h'' ι'') : Ext1 h ι h'' ι'' :=
  ⟨Nat.le_trans a.nx b.nx, b.gd.trans a.gd, fun o ho => (b.get o (Nat.lt_of_lt_of_le ho a.nx)).trans (a.get o ho), fun o ho => (b.inj o (Nat.lt_of_lt_of_le ho a.nx)).trans (a.inj o ho)⟩
theorem DE.mono {H : Type} {P : Program} {h h' : Hp} (hn : h.nx ≤ h'.nx) (hg : ∀ o, o < h.nx → h'.get o = h.get o) : ∀ {n : Nat} {t : TypeId} {cs : List Value} {d : DataW H}, DE P h n t cs d → DE P h' n t cs d := by
  intro n
  induction n with
  | zero => intro t cs d h; exact h
  | succ n ih =>
    intro t cs d hd
    unfold DE at hd ⊢
    split at hd
    · exact hd
    · exact hd
    · exact hd
    · obtain ⟨k, cap, c, e', h1, h2, h3, h4, h5, h6, h7⟩ := hd
      exact ⟨k, cap, c, e', h1, h2, h3, Nat.lt_of_lt_of_le h4 hn, by rw [hg k h4]; exact h5, h6, fun i hi => ih (h7 i hi)⟩
    · exact ⟨hd.1, hd.2.1, fun i hi f hf => ih (hd.2.2 i hi f hf)⟩
    · exact ⟨hd.1, hd.2.1, fun i hi => ih (hd.2.2 i hi)⟩
    · exact hd
section
variable {H : Type} {enc : TypeId × Value → H} {P : Program} {W : World}
/-- What is ahead: memory that none writes, and an object in it. -/
structure Base (P : Program) (ι : Inj) (h : Hp) (W : World) : Prop where
  rh : RH P ι h W
  ro : ∀ o x, h.get o = some x → x.wr = false
  gd : h.gd = []
  some0 : ∃ x v, h.get 0 = some x ∧ ι 0 = some v ∧ 0 < h.nx ∧ ∃ c e, x = .cells c e .ro
/-- An object more. -/
theorem Base.push {ι : Inj} {h : Hp} (B : Base P ι h W) {c : List Value} {e : TypeId} {v : Vw} (h1 : c.all one = true) {c' : Array Value} {e' : TypeId} {fr : Nat × Nat} (hb : W.heap[v.blk]? = some (.cells c' e' fr)) (hc : ∀ (j : Nat) x, c[j]? = some x → ∃ y, c'[v.base + j]? = some y ∧ VR ι x y) :
    Base P (ι.set h.nx v) (h.add (.cells c e .ro)) W ∧ Ext1 h ι (h.add (.cells c e .ro)) (ι.set h.nx v) := by
  have hfresh : ι h.nx = none := B.rh.fresh _ (Nat.le_refl _)
  have mono := Inj.set_mono (v := v) hfresh
  have hE : Ext1 h ι (h.add (.cells c e .ro)) (ι.set h.nx v) := ⟨by rw [nx_add]; omega, rfl, fun o ho => get_add_ne (by omega), fun o ho => Inj.set_other _ _ _ (by omega)⟩
  have hget : ∀ o x, (h.add (.cells c e .ro)).get o = some x → (o = h.nx ∧ x = .cells c e .ro) ∨ h.get o = some x := fun o x ho => by
    rw [get_add] at ho
    split at ho
    · exact .inl ⟨‹_›, (Option.some.inj ho).symm⟩
    · exact .inr ho
  have hro : ∀ o x, (h.add (.cells c e .ro)).get o = some x → x.wr = false := fun o x ho => by
    rcases hget o x ho with ⟨_, rfl⟩ | ho
    · rfl
    · exact B.ro o x ho
  refine ⟨⟨⟨fun o x ho => ?_, fun o q x y vo vq _ ho hx => ?_, fun o ho => ?_, fun g hg => ?_, ?_⟩, hro, B.gd, ?_⟩, hE⟩
  · rcases hget o x ho with ⟨rfl, rfl⟩ | ho
    · refine ⟨by rw [nx_add]; omega, v, Inj.set_same .., h1, c', e', fr, hb, fun j x hx => ?_, fun h => absurd rfl h, fun h => by cases h⟩
      obtain ⟨y, hy, hv⟩ := hc j x hx
      exact ⟨y, hy, hv.mono mono⟩
    · obtain ⟨h2, u, hu, hor⟩ := B.rh.live o x ho
      exact ⟨by rw [nx_add]; omega, u, mono _ _ hu, hor.of_block mono rfl⟩
  · rw [hro o x ho] at hx; cases hx
  · rw [nx_add] at ho
    rw [Inj.set_other _ _ _ (by omega)]; exact B.rh.fresh o (by omega)
  · rw [Inj.set_other _ _ _ (by have := B.rh.gsize; omega)]; exact B.rh.glob g hg
  · rw [nx_add]; have := B.rh.gsize; omega
  · obtain ⟨x, u, a1, a2, a3, a4⟩ := B.some0
    exact ⟨x, u, by rw [get_add_ne (by omega)]; exact a1, by rw [Inj.set_other _ _ _ (by omega)]; exact a2, by rw [nx_add]; omega, a4⟩
/-- A whole part is built, whatever a part is built of. -/
def Builds (H : Type) (enc : TypeId × Value → H) (P : Program) (W : World) (n : Nat) (t : TypeId) : Prop := ∀ (cs : List Value) (d : DataW H) (ps : List MemPlace), DataW.trod enc P W 0 (fun _ => true) true n t cs = some (d, ps) →
  ∀ ι h, Base P ι h W → ∃ ι' h' ev, Ext1 h ι h' ι' ∧ Base P ι' h' W ∧ VRs ι' ev cs ∧ ev.all one = true ∧ DE P h' n t ev d
theorem VRs.mono1 {ι ι' : Inj} {h h' : Hp} (E : Ext1 h ι h' ι') (R : ∀ o, h.nx ≤ o → ι o = none) {a b : List Value} (hv : VRs ι a b) : VRs ι' a b := hv.mono fun o v hv => by
  have : o < h.nx := by
    rcases Nat.lt_or_ge o h.nx with hh | hh
    · exact hh
    · rw [R o hh] at hv; cases hv
  rw [E.inj o this]; exact hv
/-- Parts, one after the other. -/
theorem build_list {n : Nat} : ∀ (l : List (TypeId × List Value × DataW H)), (∀ p ∈ l, Builds H enc P W n p.1 ∧ ∃ ps, DataW.trod enc P W 0 (fun _ => true) true n p.1 p.2.1 = some (p.2.2, ps)) → ∀ ι h, Base P ι h W →
    ∃ ι' h', ∃ evs : List (List Value), Ext1 h ι h' ι' ∧ Base P ι' h' W ∧ evs.length = l.length ∧ VRs ι' evs.flatten (l.map (·.2.1)).flatten ∧ evs.flatten.all one = true ∧
      ∀ i (hi : i < l.length), ∃ ev, evs[i]? = some ev ∧ VRs ι' ev l[i].2.1 ∧ DE P h' n l[i].1 ev l[i].2.2 := by
  intro l
  induction l with
  | nil => intro _ ι h B; exact ⟨ι, h, [], .refl _ _, B, rfl, .nil _, rfl, fun i hi => absurd hi (Nat.not_lt_zero _)⟩
  | cons p l ih =>
    intro hl ι h B
    obtain ⟨hb, ps, hp⟩ := hl p (List.mem_cons_self ..)
    obtain ⟨ι1, h1, ev, E1, B1, V1, O1, D1⟩ := hb _ _ _ hp ι h B
    obtain ⟨ι2, h2, evs, E2, B2, L2, V2, O2, D2⟩ := ih (fun q hq => hl q (List.mem_cons_of_mem _ hq)) ι1 h1 B1
    have V1' := VRs.mono1 E2 B1.rh.fresh V1
    refine ⟨ι2, h2, ev :: evs, E1.trans E2, B2, by simp [L2], ?_, ?_, fun i hi => ?_⟩
    · rw [List.flatten_cons, List.map_cons, List.flatten_cons]; exact V1'.append V2
    · rw [List.flatten_cons, List.all_append, O1, O2]; rfl
    · cases i with
      | zero => exact ⟨ev, rfl, V1', D1.mono E2.nx E2.get⟩
      | succ i => exact D2 i (by simpa using hi)
theorem flat_row {l : List (List Value)} {w : Nat} (hw : ∀ x ∈ l, x.length = w) : l.flatten.length = l.length * w ∧ ∀ i x, l[i]? = some x → (l.flatten.drop (i * w)).take w = x := by
  induction l with
  | nil => exact ⟨by simp, fun i x h => by simp at h⟩
  | cons y l ih =>
    obtain ⟨h1, h2⟩ := ih fun x hx => hw x (List.mem_cons_of_mem _ hx)
    have hy := hw y (List.mem_cons_self ..)
    refine ⟨by rw [List.flatten_cons, List.length_append, h1, hy, List.length_cons, Nat.add_mul]; omega, fun i x hx => ?_⟩
    rw [List.flatten_cons]
    cases i with
    | zero =>
      simp at hx
      subst hx
      rw [Nat.zero_mul, List.drop_zero, ← hy, List.take_left]
    | succ i =>
      rw [List.drop_append, List.drop_of_length_le (by rw [hy, Nat.add_mul]; omega), List.nil_append, hy, show (i + 1) * w - w = i * w by rw [Nat.add_mul]; omega]
      exact h2 i x (by simpa using hx)
theorem build_int {n : Nat} {t : TypeId} {k : IntKind} (hu : P.underlying t = some (.int k)) : Builds H enc P W (n + 1) t := by
  intro cs d ps h ι hp B
  unfold DataW.trod at h
  rw [hu] at h
  rcases cs with _ | ⟨v, _ | ⟨w, r⟩⟩
  · cases h
  · cases v with
    | int k' x =>
      simp only at h
      split at h
      · rename_i hc
        injection h with h; injection h with h _
        subst h
        obtain ⟨rfl, hw⟩ := hc
        exact ⟨ι, hp, [.int k' x], .refl _ _, B, .of_flat rfl, rfl, by unfold DE; rw [hu]; exact ⟨rfl, rfl, hw⟩⟩
      · cases h
    | slice a len cap => cases a <;> cases len <;> cases cap <;> cases h
    | _ => cases h
  · cases v with
    | slice a len cap => cases a <;> cases len <;> cases cap <;> cases h
    | _ => cases h
end
end Go.Ev
/- A law's arguments, as the evaluator's memory; from its word to the kit's. -/
namespace Go.Ev
open Go Go.ChangeShapes Go.WideShapes Go.ChangeAt Go.RowKit
section
variable {H : Type} {enc : TypeId × Value → H} {P : Program} {W : World}
/-- Arguments that read as some data. -/
def DEs (P : Program) (h : Hp) : List TypeId → List Value → List (DataW H) → Prop
  | [], [], [] => True
  | t :: ts, v :: vs, d :: ds => ((∃ n, DE P h n t v.cells.toList d) ∧ (aggT P t = some true ∨ v.cells.toList = [v])) ∧ DEs P h ts vs ds
  | _, _, _ => False
theorem DEs.mono {h h' : Hp} (hn : h.nx ≤ h'.nx) (hg : ∀ o, o < h.nx → h'.get o = h.get o) : ∀ {ts : List TypeId} {vs : List Value} {ds : List (DataW H)}, DEs P h ts vs ds → DEs P h' ts vs ds
  | [], [], [], h => h
  | _ :: _, _ :: _, _ :: _, ⟨⟨⟨n, h1⟩, h3⟩, h2⟩ => ⟨⟨⟨n, h1.mono hn hg⟩, h3⟩, h2.mono hn hg⟩
/-- A value is one cell, or a struct's or a row's cells. -/
def Shaped1 (P : Program) (t : TypeId) (v : Value) : Prop := v.cells.toList = [v] ∨ (∃ cs, v = .agg cs) ∧ aggT P t = some true
theorem args_build : ∀ {ts : List TypeId} {vs : List Value} {ds : List (DataW H)} {p : List MemPlace}, DataW.TrodAll enc P W 0 (fun _ => true) true ts vs ds p → (∀ t ∈ ts, ∀ n, Builds H enc P W n t) → (∀ (i : Nat) t v, ts[i]? = some t → vs[i]? = some v → Shaped1 P t v) → ∀ ι h, Base P ι h W →
    ∃ ι' h' evs, Ext1 h ι h' ι' ∧ Base P ι' h' W ∧ VRs ι' evs vs ∧ DEs P h' ts evs ds
  | [], [], [], _, _, _, _, ι, h, B => ⟨ι, h, [], .refl _ _, B, .nil _, trivial⟩
  | t :: ts, v :: vs, d :: ds, _, ⟨p, q, ⟨n, h1⟩, h2, _⟩, hb, hs, ι, h, B => by
    obtain ⟨ι1, h3, ev, E1, B1, V1, O1, D1⟩ := hb t (List.mem_cons_self ..) n _ _ _ h1 ι h B
    obtain ⟨ι2, h4, evs, E2, B2, V2, D2⟩ := args_build h2 (fun t ht => hb t (List.mem_cons_of_mem _ ht)) (fun i t v a b => hs (i + 1) t v (by simpa using a) (by simpa using b)) ι1 h3 B1
    have V1' := VRs.mono1 E2 B1.rh.fresh V1
    rcases hs 0 t v rfl rfl with hc | ⟨⟨cs, rfl⟩, hag⟩
    · rw [hc] at V1'
      have hl : ev.length = 1 := by have := V1'.1; simpa using this.symm
      obtain ⟨x, rfl⟩ : ∃ x, ev = [x] := List.length_eq_one_iff.1 hl
      have hx : x.cells.toList = [x] := by
        have : one x = true := by simpa using O1
        cases x <;> first | rfl | cases this
      obtain ⟨y, c, e1, e2, _⟩ := V1'.head
      injection e1 with e1 _
      subst e1
      refine ⟨ι2, h4, x :: evs, E1.trans E2, B2, .cons e2 V2, ⟨⟨n, ?_⟩, .inr hx⟩, D2⟩
      rw [hx]; exact D1.mono E2.nx E2.get
    · refine ⟨ι2, h4, .agg ev.toArray :: evs, E1.trans E2, B2, .cons ?_ V2, ⟨⟨n, ?_⟩, .inl hag⟩, D2⟩
      · have V1'' : VRs ι2 ev.toArray.toList cs.toList := by rw [List.toList_toArray]; exact V1'
        obtain ⟨a1, a2⟩ := VRs.arr.1 V1''
        exact .agg a1 a2
      · show DE P h4 n t (ev.toArray).toList d
        simpa using D1.mono E2.nx E2.get
theorem shaped_of {r : Reach} {base n : Nat} {t : TypeId} {v : Value} (hp : Plain P n t = true) (h : Value.okWide P W r base t v) : Shaped1 P t v := by
  cases n with
  | zero => cases hp
  | succ n =>
    unfold Plain at hp
    unfold Value.okWide at h
    split at hp
    · rename_i hu
      rw [hu] at h
      unfold Cell.okWide Cell.ok at h
      rw [hu] at h
      cases v <;> first | exact .inl rfl | exact h.elim
    · rename_i hu
      rw [hu] at h
      unfold Cell.okWide Cell.ok at h
      rw [hu] at h
      cases v <;> first | exact .inl rfl | exact h.elim
    · rename_i hu
      rw [hu] at h
      unfold Cell.okWide Cell.ok at h
      rw [hu] at h
      cases v <;> first | exact .inl rfl | exact h.elim
    · rename_i hu
      rw [hu] at h
      obtain ⟨cs, rfl, _⟩ := h
      exact .inr ⟨⟨cs, rfl⟩, by unfold aggT; rw [hu]⟩
    · rename_i hu
      rw [hu] at h
      obtain ⟨cs, rfl, _⟩ := h
      exact .inr ⟨⟨cs, rfl⟩, by unfold aggT; rw [hu]⟩
    · cases hp
theorem DE_int {h : Hp} {n : Nat} {t : TypeId} {k : IntKind} (hu : P.underlying t = some (.int k)) {cs : List Value} {d : DataW H} (hd : DE P h n t cs d) : ∃ x, cs = [.int k x] ∧ (Lit.int k x).wf = true := by
  cases n with
  | zero => exact hd.elim
  | succ n =>
    unfold DE at hd
    rw [hu] at hd
    split at hd
    all_goals first | (rename_i heq; cases heq; done) | skip
    · rename_i k' k2 x heq
      injection heq with heq; injection heq with heq
      subst heq
      exact ⟨x, hd.2⟩
    all_goals first | exact hd.elim | skip
/-- What was there stays, but for what is new. -/
theorem post_of_old {f : Func} {s : ChangeSpec} {apart fresh handsOn again : Bool} {W W' : World} {args : Array Value} {v : Value} {ds gs : List (DataW H)} {before pa pv : List MemPlace}
    (hW : DataW.Whole enc P f.params.toList s.vars apart W args.toList ds gs before)
    (hres : ∀ (b : Nat) (sp : Nat → Bool) (hd : Bool), DataW.TrodAll enc P W' b sp hd f.resultTypes.toList (v.resultList f.resultTypes.size) (s.fn H (ds ++ gs)).results [])
    (hargs : ∀ sp : Nat → Bool, (∀ p ∈ before, sp p.block = true) → DataW.TrodAll enc P W' 0 sp true f.params.toList args.toList (s.fn H (ds ++ gs)).args pa)
    (hvars : ∀ sp : Nat → Bool, (∀ p ∈ before, sp p.block = true) → DataW.TrodVars enc P W' sp s.vars (s.fn H (ds ++ gs)).vars pv)
    (hps : before = pa ++ pv) (hk : W.keptBut W' (· ∈ before)) (hfz : ∀ a : Addr, a.block < W.heap.size → W'.frozen? a = W.frozen? a)
    (hok : ∀ (j : Nat) (t : TypeId) (r : Value), f.resultTypes[j]? = some t → (v.resultList f.resultTypes.size)[j]? = some r → Value.okWide P W' .any 0 t r) :
    s.post enc P f apart fresh handsOn again W args v W' := by
  have hold : ∀ p ∈ before, (fun b => decide (b < W.heap.size)) p.block = true := fun p hp => by simpa using hW.lt p hp
  have hlt := hW.lt
  refine ⟨ds, gs, before, [], pa, pv, hW, hres _ _ _, hargs _ hold, hvars _ hold, World.keptBut_mono (fun p hp => ⟨hp, ?_⟩) hk, fun _ => ?_⟩
  · rw [hps, List.mem_append] at hp
    exact Or.inr hp
  · obtain ⟨_, _, _, _, _, hz, hn⟩ := hW
    refine ⟨hok, _, _, ([] ++ pa) ++ pv, ⟨[] ++ pa, pv, trodAll_append (hargs _ (fun _ _ => rfl)) (hres _ _ _), hvars _ (fun _ _ => rfl), rfl, ?_, ?_⟩, ?_⟩
    · intro b off hp
      have hp2 : MemPlace.cell b off ∈ before := by rw [hps]; simpa using hp
      rw [hfz _ (hlt _ hp2)]
      exact hz b off hp2
    · intro ha
      have := hn ha
      rw [hps] at this
      simpa using this
    · intro p hp _
      rw [hps]
      simpa using hp
/-- Arguments read again as they did. -/
theorem again {ts : List TypeId} {vs : List Value} {ds : List (DataW H)} {p : List MemPlace} {W' : World} (K : Kids P (· < P.types.size)) (full : ∀ t e, t < P.types.size → P.underlying t = some (.slice e) → 0 < P.cellsOf e) (hts : ∀ t ∈ ts, t < P.types.size)
    (hA : DataW.TrodAll enc P W 0 (fun _ => true) true ts vs ds p) (hb : Below W.heap.size W W') (hlt : ∀ q ∈ p, q.block < W.heap.size) (sp : Nat → Bool) (hs : ∀ q ∈ p, sp q.block = true) : DataW.TrodAll enc P W' 0 sp true ts vs ds p := by
  have hA' := DataW.TrodAll.respare K full hts hA hs
  clear hA hs hts
  induction ts generalizing vs ds p with
  | nil => match vs, ds, hA' with
    | [], [], h => exact h
  | cons t ts ih => match vs, ds, hA' with
    | v :: vs, d :: ds, ⟨p1, p2, ⟨n, h1⟩, h2, e⟩ =>
      subst e
      exact ⟨p1, p2, ⟨n, DataW.trod_carry n _ _ _ h1 fun q hq => hb.same (hlt q (List.mem_append_left _ hq))⟩, ih (fun q hq => hlt q (List.mem_append_right _ hq)) h2, rfl⟩
end
end Go.Ev
/- A law's arguments, as the evaluator's memory: structs, rows, and lists of lists. -/
namespace Go.Ev
open Go Go.ChangeShapes Go.WideShapes Go.ChangeAt Go.RowKit
section
variable {H : Type} {enc : TypeId × Value → H} {P : Program} {W : World}
/-- Fields one behind the other are the whole. -/
theorem lay_flat {n : Nat} : ∀ (fs : List Field) (off : Nat), layOk P off fs n = true → ∀ (cs : List Value), cs.length = n → (fs.map fun f => (cs.drop f.offset).take (P.cellsOf f.type)).flatten = cs.drop off := by
  intro fs
  induction fs with
  | nil =>
    intro off h cs hc
    have : off = n := Nat.eq_of_beq_eq_true h
    rw [List.drop_of_length_le (by omega)]; rfl
  | cons f fs ih =>
    intro off h cs hc
    simp only [layOk, Bool.and_eq_true] at h
    have h1 : f.offset = off := Nat.eq_of_beq_eq_true h.1
    rw [List.map_cons, List.flatten_cons, ih _ h.2 cs hc, h1, ← List.drop_drop, List.take_append_drop]
theorem lay_part {n : Nat} : ∀ (fs : List Field) (off : Nat), layOk P off fs n = true → ∀ (evs : List (List Value)), evs.length = fs.length → (∀ (i : Nat) f ev, fs[i]? = some f → evs[i]? = some ev → ev.length = P.cellsOf f.type) →
    ∀ (i : Nat) f ev, fs[i]? = some f → evs[i]? = some ev → off ≤ f.offset ∧ (evs.flatten.drop (f.offset - off)).take (P.cellsOf f.type) = ev := by
  intro fs
  induction fs with
  | nil => intro off _ evs _ _ i f ev hf; simp at hf
  | cons g fs ih =>
    intro off h evs hl hlen i f ev hf he
    simp only [layOk, Bool.and_eq_true] at h
    have h1 : g.offset = off := Nat.eq_of_beq_eq_true h.1
    rcases evs with _ | ⟨e0, evs⟩
    · simp at hl
    have hl0 : e0.length = P.cellsOf g.type := hlen 0 g e0 rfl rfl
    cases i with
    | zero =>
      simp at hf he
      subst hf he
      refine ⟨by omega, ?_⟩
      rw [h1, Nat.sub_self, List.drop_zero, List.flatten_cons, ← hl0, List.take_left]
    | succ i =>
      obtain ⟨g1, g2⟩ := ih _ h.2 evs (by simpa using hl) (fun i f ev a b => hlen (i + 1) f ev (by simpa using a) (by simpa using b)) i f ev (by simpa using hf) (by simpa using he)
      refine ⟨by omega, ?_⟩
      rw [List.flatten_cons, List.drop_append, List.drop_of_length_le (by omega), List.nil_append, show f.offset - off - e0.length = f.offset - (off + P.cellsOf g.type) by omega]
      exact g2
theorem lay_fit {n : Nat} : ∀ (fs : List Field) (off : Nat), layOk P off fs n = true → off ≤ n ∧ ∀ f ∈ fs, f.offset + P.cellsOf f.type ≤ n := by
  intro fs
  induction fs with
  | nil => intro off h; exact ⟨Nat.le_of_eq (Nat.eq_of_beq_eq_true h), fun f hf => by cases hf⟩
  | cons g fs ih =>
    intro off h
    simp only [layOk, Bool.and_eq_true] at h
    have h1 : g.offset = off := Nat.eq_of_beq_eq_true h.1
    obtain ⟨a, b⟩ := ih _ h.2
    refine ⟨by omega, fun f hf => ?_⟩
    rcases List.mem_cons.1 hf with rfl | hf
    · omega
    · exact b f hf
theorem build_struct {n : Nat} {fs : Array Field} {t : TypeId} (he : ∀ f ∈ fs.toList, Builds H enc P W n f.type) (hlay : layOk P 0 fs.toList (P.cellsOf t) = true) (hu : P.underlying t = some (.struct fs)) : Builds H enc P W (n + 1) t := by
  intro cs d ps h ι hp B
  have h : (if cs.length = P.cellsOf t then (fs.toList.mapM fun f => DataW.trod enc P W 0 (fun _ => true) true n f.type ((cs.drop f.offset).take (P.cellsOf f.type))).map fun xs => (DataW.agg (xs.map (·.1)), xs.flatMap (·.2)) else none) = some (d, ps) := by
    unfold DataW.trod at h
    rw [hu] at h
    exact h
  split at h
  · rename_i hc
    obtain ⟨xs, h1, h2⟩ := Option.map_eq_some_iff.1 h
    injection h2 with h2 _
    subst h2
    have l1 := Lib.mapM_length h1
    let l : List (TypeId × List Value × DataW H) := (fs.toList.zip (xs.map (·.1))).map fun p => (p.1.type, (cs.drop p.1.offset).take (P.cellsOf p.1.type), p.2)
    have hll : l.length = fs.toList.length := by simp [l, l1]
    have lget : ∀ i (hi : i < l.length), ∃ f x, fs.toList[i]? = some f ∧ xs[i]? = some x ∧ l[i] = (f.type, (cs.drop f.offset).take (P.cellsOf f.type), x.1) ∧ DataW.trod enc P W 0 (fun _ => true) true n f.type ((cs.drop f.offset).take (P.cellsOf f.type)) = some x := by
      intro i hi
      have hi1 : i < fs.toList.length := by omega
      have hi2 : i < xs.length := by omega
      obtain ⟨b, e1, e2⟩ := Lib.mapM_at h1 i _ (List.getElem?_eq_getElem hi1)
      rw [List.getElem?_eq_getElem hi2] at e1
      obtain rfl := Option.some.inj e1
      exact ⟨_, _, List.getElem?_eq_getElem hi1, List.getElem?_eq_getElem hi2, by simp [l], e2⟩
    obtain ⟨ι1, h3, evs, E1, B1, L1, V1, O1, D1⟩ := build_list l (fun p hpm => by
      obtain ⟨i, hi, rfl⟩ := List.getElem_of_mem hpm
      obtain ⟨f, x, a1, a2, a3, a4⟩ := lget i hi
      rw [a3]
      exact ⟨he f (List.mem_of_getElem? a1), _, a4⟩) ι hp B
    have hcells : l.map (·.2.1) = fs.toList.map fun f => (cs.drop f.offset).take (P.cellsOf f.type) := by
      refine List.ext_getElem (by simp [hll]) fun i hi hi' => ?_
      have hi3 : i < l.length := by simpa using hi
      obtain ⟨f, x, a1, a2, a3, a4⟩ := lget i hi3
      have hi4 : i < fs.toList.length := by omega
      have hf : fs.toList[i] = f := by rw [List.getElem?_eq_getElem hi4] at a1; exact Option.some.inj a1
      simp only [List.getElem_map]
      rw [a3, hf]
    rw [hcells, lay_flat fs.toList 0 hlay cs hc, List.drop_zero] at V1
    refine ⟨ι1, h3, evs.flatten, E1, B1, V1, O1, ?_⟩
    unfold DE
    rw [hu]
    have hlen : ∀ (i : Nat) f ev, fs.toList[i]? = some f → evs[i]? = some ev → ev.length = P.cellsOf f.type := by
      intro i f ev hf hev
      have hi : i < l.length := by have := (List.getElem?_eq_some_iff.1 hf).1; omega
      obtain ⟨ev', e1, e2, _⟩ := D1 i hi
      rw [hev] at e1
      obtain rfl := Option.some.inj e1
      obtain ⟨f', x, a1, a2, a3, a4⟩ := lget i hi
      rw [hf] at a1
      obtain rfl := Option.some.inj a1
      rw [← e2.1, a3]
      have hfit := (lay_fit fs.toList 0 hlay).2 f (List.mem_of_getElem? hf)
      show ((cs.drop f.offset).take (P.cellsOf f.type)).length = _
      rw [List.length_take, List.length_drop]; omega
    refine ⟨by rw [← V1.1]; exact hc, by simp [l1], fun i hi f hf => ?_⟩
    have hi2 : i < l.length := by simp at hi; omega
    obtain ⟨ev, e1, e2, e3⟩ := D1 i hi2
    obtain ⟨f', x, a1, a2, a3, a4⟩ := lget i hi2
    have hf' : fs.toList[i]? = some f := by rw [Array.getElem?_toList]; exact hf
    rw [hf'] at a1
    obtain rfl := Option.some.inj a1
    have := (lay_part fs.toList 0 hlay evs (by omega) hlen i f ev hf' e1).2
    rw [Nat.sub_zero] at this
    rw [this]
    rw [a3] at e3
    have hx : (xs.map (·.1))[i]'(by simpa using hi) = x.1 := by
      have hi3 : i < xs.length := by simpa using hi
      rw [List.getElem?_eq_getElem hi3] at a2
      obtain rfl := Option.some.inj a2
      simp
    rw [hx]; exact e3
  · cases h
/-- The parts of a struct. -/
theorem DE_struct {h : Hp} {n : Nat} {t : TypeId} {fs : Array Field} (hu : P.underlying t = some (.struct fs)) {cs : List Value} {d : DataW H} (hd : DE P h (n + 1) t cs d) :
    cs.length = P.cellsOf t ∧ ∀ (i : Nat) (f : Field), fs[i]? = some f → ∃ d' : DataW H, DE P h n f.type ((cs.drop f.offset).take (P.cellsOf f.type)) d' := by
  unfold DE at hd
  rw [hu] at hd
  split at hd
  all_goals first | (rename_i heq; cases heq; done) | skip
  · rename_i fs' parts heq
    injection heq with heq; injection heq with heq
    subst heq
    obtain ⟨h1, h2, h3⟩ := hd
    refine ⟨h1, fun i f hf => ?_⟩
    have hi : i < parts.length := by rw [h2]; exact (Array.getElem?_eq_some_iff.1 hf).1
    exact ⟨_, h3 i hi f hf⟩
  all_goals first | exact hd.elim | skip
end
end Go.Ev
/- A law's arguments, as the evaluator's memory: rows. -/
namespace Go.Ev
open Go Go.ChangeShapes Go.WideShapes Go.ChangeAt Go.RowKit
section
variable {H : Type} {enc : TypeId × Value → H} {P : Program} {W : World}
theorem row_flat {w : Nat} : ∀ (m : Nat) (cs : List Value), cs.length = m * w → ((List.range m).map fun i => (cs.drop (i * w)).take w).flatten = cs := by
  intro m
  induction m with
  | zero => intro cs h; rw [Nat.zero_mul] at h; rw [List.length_eq_zero_iff.1 h]; rfl
  | succ m ih =>
    intro cs h
    have e : cs = cs.take (m * w) ++ cs.drop (m * w) := (List.take_append_drop ..).symm
    have hm : (cs.take (m * w)).length = m * w := by rw [List.length_take, h, Nat.add_mul]; omega
    rw [List.range_succ, List.map_append, List.flatten_append]
    have e1 : ((List.range m).map fun i => (cs.drop (i * w)).take w) = (List.range m).map fun i => ((cs.take (m * w)).drop (i * w)).take w := by
      refine List.map_congr_left fun i hi => ?_
      have hi := List.mem_range.1 hi
      have : (i + 1) * w ≤ m * w := Nat.mul_le_mul_right w hi
      rw [Nat.add_mul] at this
      rw [List.drop_take, List.take_take, Nat.min_eq_left (by omega)]
    rw [e1, ih _ hm]
    simp only [List.map_cons, List.map_nil, List.flatten_cons, List.flatten_nil, List.append_nil]
    rw [List.take_of_length_le (l := cs.drop (m * w)) (by rw [List.length_drop, h, Nat.add_mul]; omega)]
    exact List.take_append_drop ..
theorem build_array {n m : Nat} {e t : TypeId} (he : Builds H enc P W n e) (hsz : P.cellsOf t = m * P.cellsOf e) (hu : P.underlying t = some (.array m e)) : Builds H enc P W (n + 1) t := by
  intro cs d ps h ι hp B
  have h : (if cs.length = P.cellsOf t then ((List.range m).mapM fun i => DataW.trod enc P W 0 (fun _ => true) true n e ((cs.drop (i * P.cellsOf e)).take (P.cellsOf e))).map fun xs => (DataW.agg (xs.map (·.1)), xs.flatMap (·.2)) else none) = some (d, ps) := by
    unfold DataW.trod at h
    rw [hu] at h
    exact h
  split at h
  · rename_i hc
    obtain ⟨xs, h1, h2⟩ := Option.map_eq_some_iff.1 h
    injection h2 with h2 _
    subst h2
    have l1 := Lib.mapM_length h1
    rw [List.length_range] at l1
    let l : List (TypeId × List Value × DataW H) := (List.range m).map fun i => (e, (cs.drop (i * P.cellsOf e)).take (P.cellsOf e), ((xs.map (·.1))[i]?).getD .nil)
    have hll : l.length = m := by simp [l]
    have lget : ∀ i (hi : i < l.length), ∃ x, xs[i]? = some x ∧ l[i] = (e, (cs.drop (i * P.cellsOf e)).take (P.cellsOf e), x.1) ∧ DataW.trod enc P W 0 (fun _ => true) true n e ((cs.drop (i * P.cellsOf e)).take (P.cellsOf e)) = some x := by
      intro i hi
      have hi1 : i < m := by omega
      have hi2 : i < xs.length := by omega
      obtain ⟨b, e1, e2⟩ := Lib.mapM_at h1 i i (by simp [hi1])
      rw [List.getElem?_eq_getElem hi2] at e1
      obtain rfl := Option.some.inj e1
      exact ⟨_, List.getElem?_eq_getElem hi2, by simp [l, hi2], e2⟩
    obtain ⟨ι1, h3, evs, E1, B1, L1, V1, O1, D1⟩ := build_list l (fun p hpm => by
      obtain ⟨i, hi, rfl⟩ := List.getElem_of_mem hpm
      obtain ⟨x, a2, a3, a4⟩ := lget i hi
      rw [a3]
      exact ⟨he, _, a4⟩) ι hp B
    have hcells : l.map (·.2.1) = (List.range m).map fun i => (cs.drop (i * P.cellsOf e)).take (P.cellsOf e) := by simp [l]
    rw [hcells, row_flat m cs (by rw [hc, hsz])] at V1
    refine ⟨ι1, h3, evs.flatten, E1, B1, V1, O1, ?_⟩
    unfold DE
    rw [hu]
    have hw : ∀ x ∈ evs, x.length = P.cellsOf e := by
      intro x hx
      obtain ⟨i, hi, rfl⟩ := List.getElem_of_mem hx
      obtain ⟨ev, e1, e2, _⟩ := D1 i (by omega)
      rw [List.getElem?_eq_getElem hi] at e1
      obtain rfl := Option.some.inj e1
      obtain ⟨x, a2, a3, a4⟩ := lget i (by omega)
      rw [← e2.1, a3]
      have : (i + 1) * P.cellsOf e ≤ m * P.cellsOf e := Nat.mul_le_mul_right _ (by omega)
      rw [Nat.add_mul] at this
      show ((cs.drop (i * P.cellsOf e)).take (P.cellsOf e)).length = _
      rw [List.length_take, List.length_drop, hc, hsz]; omega
    refine ⟨by rw [← V1.1]; exact hc, by simp [l1], fun i hi => ?_⟩
    have hi2 : i < l.length := by simp at hi; omega
    obtain ⟨ev, e1, e2, e3⟩ := D1 i hi2
    obtain ⟨x, a2, a3, a4⟩ := lget i hi2
    rw [(flat_row hw).2 i ev e1]
    rw [a3] at e3
    have hx : (xs.map (·.1))[i]'(by simpa using hi) = x.1 := by
      have hi3 : i < xs.length := by simpa using hi
      rw [List.getElem?_eq_getElem hi3] at a2
      obtain rfl := Option.some.inj a2
      simp
    rw [hx]; exact e3
  · cases h
/-- Cells are whole numbers of a kind, each in its range. -/
def AllInt (k : IntKind) (cs : List Value) : Prop := ∀ v ∈ cs, ∃ x, v = .int k x ∧ (Lit.int k x).wf = true
theorem AllInt.list {k : IntKind} : ∀ {cs : List Value}, AllInt k cs → ∃ xs : List Int, cs = xs.map (Value.int k) ∧ ∀ x ∈ xs, (Lit.int k x).wf = true := by
  intro cs
  induction cs with
  | nil => intro _; exact ⟨[], rfl, fun x h => by cases h⟩
  | cons v cs ih =>
    intro h
    obtain ⟨x, rfl, hx⟩ := h v (List.mem_cons_self ..)
    obtain ⟨xs, rfl, hxs⟩ := ih fun w hw => h w (List.mem_cons_of_mem _ hw)
    exact ⟨x :: xs, rfl, fun y hy => by
      rcases List.mem_cons.1 hy with rfl | hy
      · exact hx
      · exact hxs y hy⟩
theorem DE_allInt {h : Hp} {n : Nat} {t : TypeId} {k : IntKind} (hu : P.underlying t = some (.int k)) {cs : List Value} {d : DataW H} (hd : DE P h n t cs d) : AllInt k cs := by
  obtain ⟨x, rfl, hx⟩ := DE_int hu hd
  intro v hv
  exact ⟨x, List.mem_singleton.1 hv, hx⟩
/-- A row's cells are those of its parts. -/
theorem DE_array {h : Hp} {n m : Nat} {t e : TypeId} (hu : P.underlying t = some (.array m e)) (hsz : P.cellsOf t = m * P.cellsOf e) {k : IntKind} (he : ∀ n cs (d : DataW H), DE P h n e cs d → AllInt k cs) {cs : List Value} {d : DataW H} (hd : DE P h n t cs d) : cs.length = P.cellsOf t ∧ AllInt k cs := by
  cases n with
  | zero => exact hd.elim
  | succ n =>
    unfold DE at hd
    rw [hu] at hd
    split at hd
    all_goals first | (rename_i heq; cases heq; done) | skip
    · rename_i m' e' parts heq
      injection heq with heq; injection heq with h1 h2
      subst h1 h2
      obtain ⟨h1, h2, h3⟩ := hd
      refine ⟨h1, fun v hv => ?_⟩
      obtain ⟨j, hj, rfl⟩ := List.getElem_of_mem hv
      have hw : 0 < P.cellsOf e := by
        rcases Nat.eq_zero_or_pos (P.cellsOf e) with h0 | h0
        · rw [h1, hsz, h0] at hj; omega
        · exact h0
      have hi : j / P.cellsOf e < parts.length := by
        rw [h2]
        exact Nat.div_lt_of_lt_mul (by rw [Nat.mul_comm, ← hsz, ← h1]; exact hj)
      refine he _ _ _ (h3 _ hi) _ ?_
      have hmod := Nat.mod_lt j hw
      have hdm := Nat.div_add_mod j (P.cellsOf e)
      refine List.mem_iff_getElem?.2 ⟨j % P.cellsOf e, ?_⟩
      rw [List.getElem?_take_of_lt hmod, List.getElem?_drop, Nat.mul_comm, hdm, List.getElem?_eq_getElem hj]
    all_goals first | exact hd.elim | skip
theorem wf_rng {k : IntKind} {x : Int} (h : (Lit.int k x).wf = true) : k.min ≤ x ∧ x ≤ k.max := by
  have h : (decide (k.min ≤ x) && decide (x ≤ k.max)) = true := h
  simpa using h
end
end Go.Ev
namespace Go.Proofs.YtfgfhplgnfbaaaaDoor
open Go.Ev
theorem works_ev : saysTrue (evCall Tryd.prog 1000 100 27 [] h0) = true := by kernel_rfl
end Go.Proofs.YtfgfhplgnfbaaaaDoor
/- 'works' is answered beforehand. -/
namespace Go.Proofs.YtfgfhplgnfbaaaaDoor
open Go Go.Ev
theorem h0_get (o : Nat) (x : Ob) (h : h0.get o = some x) : o = 0 ∧ x = .cells tab 0 .ro := by
  have h : (Tr.set (Tr.full none 64) 0 (some (Ob.cells tab 0 .ro))).get none o = some x := h
  rw [Tr.get_set] at h
  split at h
  · split at h
    · exact ⟨‹_›, (Option.some.inj h).symm⟩
    · cases h
  · rw [Tr.get_full] at h; cases h
theorem tab_flat : tab.all flat = true := by kernel_rfl
theorem tab_one : tab.all one = true := by kernel_rfl
/-- 'works' is true, wherever the table stands. -/
theorem works_calls {h : Hp} (_ : 0 < h.nx) (hh : h.get 0 = some (.cells tab 0 .ro)) {iota : Inj} {w : World} (R : RH Tryd.prog iota h w) : Calls Tryd.prog 27 #[] w fun e w' => e = .returned (.bool true) ∧ Went Tryd.prog h iota w h iota w' := by
  have hev := works_ev
  cases hr : evCall Tryd.prog 1000 100 27 [] h0 with
  | none => rw [hr] at hev; cases hev
  | some r =>
    obtain ⟨v, h1⟩ := r
    rw [hr] at hev
    obtain rfl : v = .bool true := by
      cases v with
      | bool b => have : b = true := hev; rw [this]
      | _ => cases hev
    exact closed_call mixed noNum (fn := Tryd.f27) Tryd.func27 (by kernel_rfl) hr rfl rfl (fun o x ho => ⟨tab, 0, (h0_get o x ho).2, tab_flat⟩) (fun o x ho => by
      obtain ⟨rfl, rfl⟩ := h0_get o x ho
      exact ⟨hh, Nat.zero_lt_one⟩) (by rw [gsz]; exact Nat.le_refl _) R
def isTab : List Value → List Value → Bool
  | [], [] => true
  | .int .u8 a :: l, .int .u8 b :: r => eqI a b && isTab l r
  | _, _ => false
theorem isTab_eq : ∀ (l r : List Value), isTab l r = true → l = r := by
  intro l
  induction l with
  | nil => intro r h; cases r with
    | nil => rfl
    | cons => simp [isTab] at h
  | cons a l ih =>
    intro r h
    unfold isTab at h
    split at h
    · rename_i h2; cases h2
    · rename_i x l2 y r2 h2
      injection h2 with e1 e2
      subst e1 e2
      rw [Bool.and_eq_true, eqI_eq] at h
      rw [ih _ h.2, (by simpa using h.1 : x = y)]
    · cases h
/-- The one call that is answered beforehand. -/
noncomputable def Ow : CallF := fun f args h => bif Nat.beq f 27 then (match args, h.get 0 with
  | [], some (.cells l 0 .ro) => bif Nat.blt 0 h.nx && isTab l tab then some (.bool true, h) else none
  | _, _ => none) else none
set_option maxRecDepth 100000 in
theorem Ow_ok : COk Tryd.prog Ow := by
  intro f args h v h' hs iota w args' R ha o a next Q hn
  unfold Ow at hs
  cases hf : Nat.beq f 27 with
  | false => rw [hf, cond_false] at hs; cases hs
  | true =>
    obtain rfl : f = 27 := Nat.eq_of_beq_eq_true hf
    rw [hf, cond_true] at hs
    split at hs
    · rename_i l hg
      obtain ⟨ht, h2⟩ := cond_some hs
      rw [Bool.and_eq_true] at ht
      injection h2 with h2
      injection h2 with e1 e2
      subst e1 e2
      obtain rfl := isTab_eq _ _ ht.2
      obtain rfl := List.length_eq_zero_iff.1 ha.1
      rw [run_callFunc noNum Tryd.func27 (by kernel_rfl) ([] : List Value).toArray w]
      refine (works_calls (by simpa using ht.1) hg R).mono fun e w' ⟨he, g⟩ => ?_
      subst he
      exact hn iota _ w' g (.flat rfl)
    · cases hs
theorem Ow_oth (f : FuncId) (args : List Value) (h : Hp) (hf : f ≠ 27) : Ow f args h = none := by
  unfold Ow
  have : Nat.beq f 27 = false := by rw [Bool.eq_false_iff]; intro hh; exact hf (Nat.eq_of_beq_eq_true hh)
  rw [this]; rfl
theorem tab_self : isTab tab tab = true := by kernel_rfl
theorem Ow_works {h : Hp} (hn : 0 < h.nx) (hh : h.get 0 = some (.cells tab 0 .ro)) : EvC Tryd.prog Ow 27 [] h (.bool true) h := by
  refine ⟨0, ?_⟩
  show Ow 27 [] h = _
  unfold Ow
  show (match ([] : List Value), h.get 0 with
    | [], some (.cells l 0 .ro) => bif Nat.blt 0 h.nx && isTab l tab then some (Value.bool true, h) else none
    | _, _ => none) = _
  rw [hh]
  simp only [tab_self, show Nat.blt 0 h.nx = true by simpa using hn, Bool.and_self, cond_true]
end Go.Proofs.YtfgfhplgnfbaaaaDoor
/- From the evaluator's word on a law of layer 20 to the kit's. -/
namespace Go.Proofs.YtfgfhplgnfbaaaaDoor
open Go Go.Ev Go.ChangeShapes Go.WideShapes Go.ChangeAt Go.RowKit
theorem own : ownKnob Tryd.prog.godebug = none := by kernel_rfl
theorem gTab : Tryd.prog.globalNamed "math/bits.deBruijn32tab" = some 0 := by kernel_rfl
theorem gTabType : (Tryd.prog.globals[0]?).map (·.type) = some 156 := by kernel_rfl
theorem cellsArr : Tryd.prog.cellsOf 156 = 32 := by kernel_rfl
theorem cellsOne : Tryd.prog.cellsOf 5 = 1 := by kernel_rfl
def nums : List Int := [0,1,28,2,29,14,24,3,30,22,20,15,25,17,4,8,31,27,13,23,21,19,16,7,26,12,18,6,11,5,10,9]
set_option maxRecDepth 100000 in
theorem kids : Kids Tryd.prog (· < Tryd.prog.types.size) := kids_rows (by kernel_rfl) (by kernel_rfl)
set_option maxRecDepth 100000 in
theorem full : ∀ t e, t < Tryd.prog.types.size → Tryd.prog.underlying t = some (.slice e) → 0 < Tryd.prog.cellsOf e := slices_full_of _ (by kernel_rfl)
theorem tab_cells {W : World} (h : Lib.TabIs Tryd.prog W "math/bits.deBruijn32tab" .u8 nums) : ∀ j x, tab[j]? = some x → W.cell? ⟨0, j, none⟩ = some x := by
  intro j x hj
  have hjl : j < 32 := (List.getElem?_eq_some_iff.1 hj).1
  have hn : j < nums.length := hjl
  have := h.cell gTab j hn
  rw [this]
  have e : tab = nums.map fun x => Value.int .u8 x := rfl
  rw [e, List.getElem?_map, List.getElem?_eq_getElem hn] at hj
  rw [List.getD_eq_getElem?_getD, List.getElem?_eq_getElem hn]
  exact hj
/-- The names at the start: the one package-level variable. -/
def iota0 : Inj := fun o => if o = 0 then some ⟨0, 0, 0, 0⟩ else none
theorem start_RH {W : World} (ht : ∀ j x, tab[j]? = some x → W.cell? ⟨0, j, none⟩ = some x) : RH Tryd.prog iota0 h0 W := by
  have h00 := ht 0 _ rfl
  have hblk : ∃ c e fr, W.heap[0]? = some (.cells c e fr) := by
    cases hb : W.heap[0]? with
    | none => simp [World.cell?, hb] at h00
    | some y =>
      cases y with
      | cells c e fr => exact ⟨c, e, fr, rfl⟩
      | _ => simp [World.cell?, hb] at h00
  obtain ⟨c, e, fr, hb⟩ := hblk
  refine ⟨fun o x ho => ?_, fun o q x y vo vq _ ho hx => ?_, fun o ho => if_neg (by have : 1 ≤ o := ho; omega), fun g hg => ?_, by rw [gsz]; exact Nat.le_refl _⟩
  · obtain ⟨rfl, rfl⟩ := h0_get o x ho
    refine ⟨Nat.zero_lt_one, ⟨0, 0, 0, 0⟩, rfl, tab_one, c, e, fr, hb, fun j x hx => ?_, fun h => absurd rfl h, fun h => by cases h⟩
    have := ht j x hx
    refine ⟨x, ?_, .flat (all_get tab_flat hx)⟩
    simpa [World.cell?, hb] using this
  · obtain ⟨rfl, rfl⟩ := h0_get o x ho
    cases hx
  · rw [gsz] at hg
    obtain rfl : g = 0 := by omega
    exact ⟨0, 0, rfl⟩
set_option maxRecDepth 100000 in
theorem h0_tab : h0.get 0 = some (.cells tab 0 .ro) := by kernel_rfl
set_option maxRecDepth 100000 in
theorem start_base {W : World} (ht : ∀ j x, tab[j]? = some x → W.cell? ⟨0, j, none⟩ = some x) : Base Tryd.prog iota0 h0 W :=
  ⟨start_RH ht, fun o x ho => by obtain ⟨rfl, rfl⟩ := h0_get o x ho; rfl, rfl, ⟨_, ⟨0, 0, 0, 0⟩, h0_tab, rfl, Nat.zero_lt_one, tab, 0, rfl⟩⟩
set_option maxRecDepth 100000 in
/-- A law that the evaluator finds true, wherever its arguments lie, is true. -/
theorem law_calls {H : Type} {enc : TypeId × Value → H} {f : FuncId} {fn : Func} (hf : Tryd.prog.funcs[f]? = some fn) (hb : fn.body.isSome = true) (h27 : f ≠ 27) {W : World} (ht : ∀ j x, tab[j]? = some x → W.cell? ⟨0, j, none⟩ = some x)
    {ts : List TypeId} {args : Array Value} {ds : List (DataW H)} {p : List MemPlace} (hA : DataW.TrodAll enc Tryd.prog W 0 (fun _ => true) true ts args.toList ds p) (hbd : ∀ t ∈ ts, ∀ n, Builds H enc Tryd.prog W n t) (hs : ∀ (i : Nat) t v, ts[i]? = some t → args.toList[i]? = some v → Shaped1 Tryd.prog t v)
    (hR : ∀ (h : Hp) (evs : List Value), Tb h → h.Ok → h.gd = [] → DEs Tryd.prog h ts evs ds → Ret Tryd.prog Ow f evs h fun v _ => v = .bool true) :
    Calls Tryd.prog f args W fun e W' => e = .returned (.bool true) ∧ Below W.heap.size W W' := by
  obtain ⟨ι, h, evs, E, B, V, D⟩ := args_build hA hbd hs iota0 h0 (start_base ht)
  have hg : h.gd = [] := B.gd
  have htb : Tb h := ⟨Nat.lt_of_lt_of_le Nat.zero_lt_one E.nx, by rw [E.get 0 Nat.zero_lt_one]; exact h0_tab⟩
  have hfr : h.Fresh := fun o ho => by
    cases ho2 : h.get o with
    | none => rfl
    | some x => have := (B.rh.live o x ho2).1; omega
  obtain ⟨v, h', he, rfl⟩ := hR h evs htb ⟨fun q hq => (by rw [hg] at hq; cases hq), hfr⟩ hg D
  have := calls_of_EvC mixed noNum Ow_ok hf hb (Ow_oth f evs h h27) he B.rh V
  have e : args.toList.toArray = args := by simp
  rw [e] at this
  refine this.mono fun e W' ⟨ι', v', h1, h2, h3⟩ => ?_
  obtain rfl := VR.of_flat rfl h3
  exact ⟨h1, h2.fr.os, h2.fr.tape, h2.fr.output, h2.fr.size, fun k hk => h2.fr.rest k hk fun o x _ ho hx => by rw [B.ro o x ho] at hx; cases hx⟩
/-- A world for the witness: the table holds what its initialiser lays. -/
noncomputable def laidWorld (os : Os) : World :=
  { World.holding Tryd.prog os ⟨#[], #[], []⟩ with heap := (World.holding Tryd.prog os ⟨#[], #[], []⟩).heap.modify 0 fun
      | .cells _ t frozen => .cells tab.toArray t frozen
      | o => o }
end Go.Proofs.YtfgfhplgnfbaaaaDoor
/- SatForms of layer 20 returns true, for every input: its law, by the contracts of what it calls. -/
namespace Go.Proofs.YtfgfhplgnfbaaaaDoor
open Go Go.Ev
theorem works_true {h : Hp} (ht : Tb h) : EvT Ow 27 [] h (.bool true) h := Ow_works ht.1 ht.2
/-! ### arguments -/
section
variable {H : Type} {enc : TypeId × Value → H} {W : World}
theorem build0 (t : TypeId) : Builds H enc Tryd.prog W 0 t := fun cs d ps h => by simp [DataW.trod] at h
end
end Go.Proofs.YtfgfhplgnfbaaaaDoor
/- Arguments by numbers: how they lie in memory. -/
namespace Go.Proofs.YtfgfhplgnfbaaaaDoor
open Go Go.Ev Go.ChangeShapes Go.WideShapes Go.ChangeAt Go.RowKit
theorem und5 : Tryd.prog.underlying 5 = some (.int .u8) := by kernel_rfl
theorem und22 : Tryd.prog.underlying 22 = some (.int .i8) := by kernel_rfl
theorem und23 : Tryd.prog.underlying 23 = some (.array 3 22) := by kernel_rfl
theorem und24 : Tryd.prog.underlying 24 = some (.array 14 23) := by kernel_rfl
theorem sz23 : Tryd.prog.cellsOf 23 = 3 * Tryd.prog.cellsOf 22 := by kernel_rfl
theorem sz24 : Tryd.prog.cellsOf 24 = 14 * Tryd.prog.cellsOf 23 := by kernel_rfl
theorem n24 : Tryd.prog.cellsOf 24 = 42 := by kernel_rfl
theorem agg22 : aggT Tryd.prog 22 ≠ some true := by unfold aggT; rw [und22]; simp
section
variable {H : Type} {enc : TypeId × Value → H} {W : World}
theorem bld5 : ∀ n, Builds H enc Tryd.prog W n 5
  | 0 => build0 5
  | _ + 1 => build_int und5
theorem bld22 : ∀ n, Builds H enc Tryd.prog W n 22
  | 0 => build0 22
  | _ + 1 => build_int und22
theorem bld23 : ∀ n, Builds H enc Tryd.prog W n 23
  | 0 => build0 23
  | n + 1 => build_array (bld22 n) sz23 und23
theorem bld24 : ∀ n, Builds H enc Tryd.prog W n 24
  | 0 => build0 24
  | n + 1 => build_array (bld23 n) sz24 und24
theorem agg_of_list {v : Value} {l : List Value} (h : v.cells.toList = l) (hl : l.length ≠ 1) : v = .agg l.toArray := by
  cases v with
  | agg cs =>
    have h : cs.toList = l := h
    obtain ⟨k⟩ := cs
    have h : k = l := h
    rw [h]
  | _ => exact absurd (by rw [← h]; rfl) hl
theorem byte_of {h : Hp} {n : Nat} {cs : List Value} {d : DataW H} (D : DE Tryd.prog h n 5 cs d) : ∃ x : Nat, cs = [.int .u8 (Int.ofNat x)] ∧ x < 256 := by
  obtain ⟨x, e, hx⟩ := DE_int und5 D
  have := wf_rng hx
  have m1 : IntKind.min .u8 = 0 := rfl
  have m2 : IntKind.max .u8 = 255 := rfl
  obtain ⟨n, rfl⟩ : ∃ n : Nat, x = Int.ofNat n := ⟨x.toNat, by simp only [Int.ofNat_eq_natCast]; omega⟩
  exact ⟨n, e, by simp only [Int.ofNat_eq_natCast] at *; omega⟩
theorem n26 : Tryd.prog.cellsOf 26 = 44 := by kernel_rfl
theorem n5 : Tryd.prog.cellsOf 5 = 1 := by kernel_rfl
set_option maxRecDepth 100000 in
theorem bld26 : ∀ n, Builds H enc Tryd.prog W n 26
  | 0 => build0 26
  | n + 1 => build_struct (fun f hf => by
      simp at hf
      rcases hf with rfl | rfl | rfl
      · exact bld5 n
      · exact bld5 n
      · exact bld24 n) (by kernel_rfl) Tryd.underlying26
theorem int22 {h : Hp} : ∀ n cs (d : DataW H), DE Tryd.prog h n 22 cs d → AllInt .i8 cs := fun _ _ _ D => DE_allInt und22 D
theorem int23 {h : Hp} : ∀ n cs (d : DataW H), DE Tryd.prog h n 23 cs d → AllInt .i8 cs := fun _ _ _ D => (DE_array und23 sz23 int22 D).2
theorem i8_rng {x : Int} (h : (Lit.int .i8 x).wf = true) : -128 ≤ x ∧ x < 128 := by
  have := wf_rng h
  have m1 : IntKind.min .i8 = -128 := rfl
  have m2 : IntKind.max .i8 = 127 := rfl
  omega
set_option maxRecDepth 100000 in
/-- A puzzle. -/
theorem puz_of {h : Hp} {n : Nat} {v : Value} {d : DataW H} (D : DE Tryd.prog h n 26 v.cells.toList d) : ∃ vars many cl, v = .agg (puzV vars many cl).toArray ∧ PuzOk vars many cl := by
  cases n with
  | zero => exact D.elim
  | succ n =>
    obtain ⟨hl, hf⟩ := DE_struct Tryd.underlying26 D
    rw [n26] at hl
    obtain ⟨d0, D0⟩ := hf 0 _ rfl
    obtain ⟨d1, D1⟩ := hf 1 _ rfl
    obtain ⟨d2, D2⟩ := hf 2 _ rfl
    obtain ⟨x, e0, hx⟩ := byte_of D0
    obtain ⟨y, e1, hy⟩ := byte_of D1
    obtain ⟨l2, a2⟩ := DE_array und24 sz24 int23 D2
    obtain ⟨cl, e2, hcl⟩ := a2.list
    have e0 : (v.cells.toList.drop 0).take 1 = [.int .u8 (Int.ofNat x)] := by rw [← n5]; exact e0
    have e1 : (v.cells.toList.drop 1).take 1 = [.int .u8 (Int.ofNat y)] := by rw [← n5]; exact e1
    have e2 : (v.cells.toList.drop 2).take 42 = cl.map (Value.int .i8) := by rw [← n24]; exact e2
    have e : v.cells.toList = puzV x y cl := by
      generalize v.cells.toList = cs at *
      rcases cs with _ | ⟨a, _ | ⟨b, r⟩⟩
      · simp at hl
      · simp at hl
      · simp at e0 e1 e2
        rw [List.take_of_length_le (by simp at hl; omega)] at e2
        rw [e0, e1, e2]; rfl
    have lcl : cl.length = 42 := by
      have := congrArg List.length e
      rw [hl] at this
      simp [puzV] at this; omega
    exact ⟨x, y, cl, agg_of_list e (by simp [puzV, lcl]), hx, hy, lcl, fun z hz => i8_rng (hcl z hz)⟩
theorem small_of {h : Hp} {n : Nat} {cs : List Value} {d : DataW H} (D : DE Tryd.prog h n 22 cs d) : ∃ x, cs = [.int .i8 x] ∧ -128 ≤ x ∧ x < 128 := by
  obtain ⟨x, e, hx⟩ := DE_int und22 D
  exact ⟨x, e, i8_rng hx⟩
end
end Go.Proofs.YtfgfhplgnfbaaaaDoor
/- SatResolved of layer 20: the law. -/
namespace Go.Proofs.YtfgfhplgnfbaaaaDoor
open Go Go.Ev
theorem ret_ri {O : CallF} {f : FuncId} {az : List Value} {h : Hp} {xs : List Int} (r : Ret Tryd.prog O f az h (RInts h xs)) {K : Option Addr → Nat → Nat → Hp → Prop} (next : ∀ a n c h', IntsAt h' a n xs → Kp h.nx h h' → (∀ b off, a = some ⟨b, off, none⟩ → h.nx ≤ b) → K a n c h') : ∃ a n c, ∃ h', EvC Tryd.prog O f az h (.slice a n c) h' ∧ K a n c h' :=
  let ⟨_, h', e, a, n, c, hv, q1, q2, q3⟩ := r; ⟨a, n, c, h', hv ▸ e, next a n c h' q1 q2 q3⟩
abbrev Yes : Value → Hp → Prop := fun v _ => v = .bool true
section
variable {p0 p1 p2 p3 q0 q1 q2 q3 pw : Int} {h₀ : Hp} (ok : h₀.Ok) (ht : Tb h₀)
include ok ht
end
section
variable {x0 x1 x2 x3 y0 y1 y2 y3 : Int} (hx : ∀ x ∈ [x0, x1, x2, x3], -128 ≤ x ∧ x < 128) (hy : ∀ x ∈ [y0, y1, y2, y3], -128 ≤ x ∧ x < 128) {w : Nat} (hw : w < 256) {h₀ : Hp} (ok : h₀.Ok) (ht : Tb h₀)
include hx hy hw ok ht
end
end Go.Proofs.YtfgfhplgnfbaaaaDoor
/- Conditions of functions' code, printed by a program of ours. -/
namespace Go.Proofs.YtfgfhplgnfbaaaaDoor
open Go Go.Ev
set_option maxRecDepth 100000
set_option linter.unusedVariables false
/-! sward/swardlaw20.SatProofs -/
end Go.Proofs.YtfgfhplgnfbaaaaDoor
/- SatProofs of layer 20: its law. -/
namespace Go.Proofs.YtfgfhplgnfbaaaaDoor
open Go Go.Ev
section
variable {O : CallF} (hO : Oth O)
include hO
end
section
variable {v0 : Array Value} {x1 x2 : Int} {N : Nat} (hN : 1 ≤ N ∧ N ≤ 8) {cls : List (List Int)} {gs : List Int} {pf : List (List Int)} (hcl : cls.length ≤ 14) (hc : ∀ l ∈ cls, Cv (Int.ofNat N) l) (hg : Cv (Int.ofNat N) gs) (hp : ∀ l ∈ pf, Cv (Int.ofNat N) l) (hpl : pf.length ≤ 2000) (hr : accF gs cls pf 0 = none) {L : List (List Int)} (hL : pf = L ++ [[]])
  {hB : Hp} (ok : hB.Ok) (ht : Tb hB) {b7 : Nat} (hb7 : b7 < hB.nx) {aF a8 aP : Option Addr} {nF cF n8 c8 nP cP : Nat} (g7 : hB.get b7 = some (.cells [.int .i64 (Int.ofNat N), .slice aF nF cF] 30 .fix)) (F : IntssAt hB aF nF cls) (G : IntsAt hB a8 n8 gs) (PL : IntssAt hB aP nP pf)
include hN hcl hc hg hp hpl hr hL ok ht hb7 g7 F G PL
end
end Go.Proofs.YtfgfhplgnfbaaaaDoor
/- SatProofs of layer 20: its law, joined. -/
namespace Go.Proofs.YtfgfhplgnfbaaaaDoor
open Go Go.Ev
theorem cv_len {N : Nat} {l : List Int} (h : Cv (Int.ofNat N) l) : l.length ≤ N := by
  rcases dif_len (N := N) (lo := 0) h.1 (fun x hx => by obtain ⟨h1, h2⟩ := h.2 x hx; have := h1.1; simp only [Int.ofNat_eq_natCast] at h2; omega) with h | h
  · omega
  · rw [h]; simp
end Go.Proofs.YtfgfhplgnfbaaaaDoor
/- Conditions of functions' code, printed by a program of ours. -/
namespace Go.Proofs.YtfgfhplgnfbaaaaDoor
open Go Go.Ev
set_option maxRecDepth 100000
set_option linter.unusedVariables false
/-! sward/swardlaw20.SatForced -/
noncomputable def b14 : Code := (Tryd.f14.body).getD .skip
noncomputable def stk14_0 : List KI := [.code (sub [1, 1, 1, 1, 1, 1, 1, 1, 1, 1, 0, 1, 0] b14), .blk 0, .code (sub [1, 1, 1, 1, 1, 1, 1, 1, 1, 1, 1] b14)]
noncomputable def stk14_1 : List KI := [.code (sub [1, 1, 1, 1, 1, 1, 1, 1, 1, 1, 0, 1, 0, 0, 1, 0, 0, 1, 0] b14), .blk 2, .blk 1, .code (sub [1, 1, 1, 1, 1, 1, 1, 1, 1, 1, 0, 1, 0, 0, 1, 1] b14), .code (sub [1, 1, 1, 1, 1, 1, 1, 1, 1, 1, 0, 1, 0] b14), .blk 0, .code (sub [1, 1, 1, 1, 1, 1, 1, 1, 1, 1, 1] b14)]
noncomputable def stk14_2 : List KI := [.code (sub [1, 1, 1, 1, 1, 1, 1, 1, 1, 1, 1, 0, 1, 0] b14), .blk 4, .code (sub [1, 1, 1, 1, 1, 1, 1, 1, 1, 1, 1, 1] b14)]
def lv14 : List (Nat × List Nat) := [(0, [6, 7, 9, 10, 11, 14, 15]), (2, [6, 7, 9, 10, 11, 14, 15, 87, 88, 89]), (4, [6, 7, 10, 11, 14, 102, 103, 104])]
def I14_0 (O : CallF) (Q : Value → Hp → Prop) (v0 : Array Value) (x1 : Int) (x2 : Int) (b7 : Nat) (f7 : Nat) (a9 : Option Addr) (n9 : Nat) (c9 : Nat) (a10 : Option Addr) (n10 : Nat) (c10 : Nat) (x11 : Int) (a14 : Option Addr) (n14 : Nat) (c14 : Nat) (x15 : Int) (h : Hp) : Prop := RKL Tryd.prog O Tryd.f14 stk14_0 134 [6, 7, 9, 10, 11, 14, 15] [(.bool false), (.pointer (some ⟨b7, f7, none⟩)), (.slice a9 n9 c9), (.slice a10 n10 c10), (.int .i64 x11), (.slice a14 n14 c14), (.int .i64 x15)] h Q
def I14_1 (O : CallF) (Q : Value → Hp → Prop) (v0 : Array Value) (x1 : Int) (x2 : Int) (b7 : Nat) (f7 : Nat) (a9 : Option Addr) (n9 : Nat) (c9 : Nat) (a10 : Option Addr) (n10 : Nat) (c10 : Nat) (x11 : Int) (a14 : Option Addr) (n14 : Nat) (c14 : Nat) (x15 : Int) (a87 : Option Addr) (n87 : Nat) (c87 : Nat) (x88 : Int) (x89 : Int) (h : Hp) : Prop := RKL Tryd.prog O Tryd.f14 stk14_1 134 [6, 7, 9, 10, 11, 14, 15, 87, 88, 89] [(.bool false), (.pointer (some ⟨b7, f7, none⟩)), (.slice a9 n9 c9), (.slice a10 n10 c10), (.int .i64 x11), (.slice a14 n14 c14), (.int .i64 x15), (.slice a87 n87 c87), (.int .i64 x88), (.int .i64 x89)] h Q
def I14_2 (O : CallF) (Q : Value → Hp → Prop) (v0 : Array Value) (x1 : Int) (x2 : Int) (q6 : Bool) (b7 : Nat) (f7 : Nat) (a10 : Option Addr) (n10 : Nat) (c10 : Nat) (x11 : Int) (a14 : Option Addr) (n14 : Nat) (c14 : Nat) (a102 : Option Addr) (n102 : Nat) (c102 : Nat) (x103 : Int) (x104 : Int) (h : Hp) : Prop := RKL Tryd.prog O Tryd.f14 stk14_2 134 [6, 7, 10, 11, 14, 102, 103, 104] [(.bool q6), (.pointer (some ⟨b7, f7, none⟩)), (.slice a10 n10 c10), (.int .i64 x11), (.slice a14 n14 c14), (.slice a102 n102 c102), (.int .i64 x103), (.int .i64 x104)] h Q
def T14 (O : CallF) (Q : Value → Hp → Prop) (v0 : Array Value) (x1 : Int) (x2 : Int) (h : Hp) : Prop :=
  vreq (v0.toList.all one)
  (let g1 : Hp := h.add (.cells v0.toList 26 .fix)
  ∃ l2', readAt g1 h.nx 0 44 = some l2' ∧
  ∃ x3', ∃ a4' n5' c6', ∃ h7', EvC Tryd.prog O 16 [(.agg l2'.toArray), (.int .i64 8)] g1 (.agg #[(.int .i64 x3'), (.slice a4' n5' c6')]) h7' ∧
  let g8 : Hp := h7'.add (.cells [(.int .i64 0), (.slice none 0 0)] 30 .fix)
  vreq (canW g8 h7'.nx 0 [(.int .i64 x3'), (.slice a4' n5' c6')])
  (let g9 : Hp := g8.wr h7'.nx 0 [(.int .i64 x3'), (.slice a4' n5' c6')]
  let g10 : Hp := g9.rsv 11
  ∃ x11', readAt g10 h7'.nx 0 1 = some [(.int .i64 x11')] ∧
  ∃ x12', readAt g10 h7'.nx 0 1 = some [(.int .i64 x12')] ∧
  ∃ x13', ∃ h14', EvC Tryd.prog O 21 [(.int .i8 x1), (.int .i64 x11')] (g10.grd [h7'.nx]) (.int .i64 x13') h14' ∧
  let g15 : Hp := h14'.rst g10
  ∃ x16', ∃ h17', EvC Tryd.prog O 21 [(.int .i8 x2), (.int .i64 x12')] (g15.grd []) (.int .i64 x16') h17' ∧
  let g18 : Hp := h17'.rst g15
  vreq (g18.free (g9.nx + 8))
  (let g19 : Hp := g18.lay (g9.nx + 8) (.cells [(.int .i64 x13'), (.int .i64 x16')] 3 .fix)
  ∃ a20' n21' c22', ∃ h23', EvC Tryd.prog O 19 [(.slice (some ⟨(g9.nx + 8), 0, none⟩) 2 2)] (g19.grd []) (.slice a20' n21' c22') h23' ∧
  let g24 : Hp := h23'.rst g19
  vcond (eqI (Int.tmod x1 3) 0)
  (∃ x25', ∃ a26' n27' c28', readAt g24 h7'.nx 0 2 = some [(.int .i64 x25'), (.slice a26' n27' c28')] ∧
  ∃ a29' n30' c31', readAt g24 h7'.nx 1 1 = some [(.slice a29' n30' c31')] ∧
  ∃ a32' n33' c34', ∃ h35', EvC Tryd.prog O 54 [(.agg #[(.int .i64 x25'), (.slice a26' n27' c28')]), (.slice a29' n30' c31'), (.slice none 0 0)] g24 (.slice a32' n33' c34') h35' ∧
  ∃ x36', ∃ a37' n38' c39', readAt h35' h7'.nx 0 2 = some [(.int .i64 x36'), (.slice a37' n38' c39')] ∧
  ∃ a40' n41' c42', ∃ x43', ∃ h44', EvC Tryd.prog O 52 [(.agg #[(.int .i64 x36'), (.slice a37' n38' c39')]), (.slice none 0 0)] h35' (.tuple #[(.slice a40' n41' c42'), (.int .i64 x43')]) h44' ∧
  ∃ x45', ∃ a46' n47' c48', readAt h44' h7'.nx 0 2 = some [(.int .i64 x45'), (.slice a46' n47' c48')] ∧
  ∃ x49', ∃ x50', ∃ h51', EvC Tryd.prog O 22 [(.agg #[(.int .i64 x45'), (.slice a46' n47' c48')])] h44' (.tuple #[(.int .i64 x49'), (.int .i64 x50')]) h51' ∧
  vcond (!(eqI x50' 0))
  (Q (.bool false) h51')
  (∃ x52', ∃ a53' n54' c55', readAt h51' h7'.nx 0 2 = some [(.int .i64 x52'), (.slice a53' n54' c55')] ∧
  ∃ a56' n57' c58', readAt h51' h7'.nx 1 1 = some [(.slice a56' n57' c58')] ∧
  ∃ a59' n60' c61', ∃ h62', EvC Tryd.prog O 54 [(.agg #[(.int .i64 x52'), (.slice a53' n54' c55')]), (.slice a56' n57' c58'), (.slice none 0 0)] h51' (.slice a59' n60' c61') h62' ∧
  vcond (!(eqI x49' (Int.ofNat n60')))
  (Q (.bool false) h62')
  (vcond (eqI (Int.ofNat n33') 0)
  (vcond (eqI x43' 5)
  (vcond (eqI (Int.ofNat n41') 0)
  (∃ q63', ∃ h64', EvC Tryd.prog O 27 [] h62' (.bool q63') h64' ∧
  Q (.bool q63') h64')
  (Q (.bool false) h62'))
  (Q (.bool false) h62'))
  (I14_0 O Q v0 x1 x2 h7'.nx 0 a32' n33' c34' a40' n41' c42' x43' none 0 0 1 h62'))))
  (∃ x65', ∃ a66' n67' c68', readAt g24 h7'.nx 0 2 = some [(.int .i64 x65'), (.slice a66' n67' c68')] ∧
  ∃ a69' n70' c71', readAt g24 h7'.nx 1 1 = some [(.slice a69' n70' c71')] ∧
  ∃ a72' n73' c74', ∃ h75', EvC Tryd.prog O 54 [(.agg #[(.int .i64 x65'), (.slice a66' n67' c68')]), (.slice a69' n70' c71'), (.slice a20' n21' c22')] g24 (.slice a72' n73' c74') h75' ∧
  ∃ x76', ∃ a77' n78' c79', readAt h75' h7'.nx 0 2 = some [(.int .i64 x76'), (.slice a77' n78' c79')] ∧
  ∃ a80' n81' c82', ∃ x83', ∃ h84', EvC Tryd.prog O 52 [(.agg #[(.int .i64 x76'), (.slice a77' n78' c79')]), (.slice a20' n21' c22')] h75' (.tuple #[(.slice a80' n81' c82'), (.int .i64 x83')]) h84' ∧
  ∃ x85', ∃ a86' n87' c88', readAt h84' h7'.nx 0 2 = some [(.int .i64 x85'), (.slice a86' n87' c88')] ∧
  ∃ x89', ∃ x90', ∃ h91', EvC Tryd.prog O 22 [(.agg #[(.int .i64 x85'), (.slice a86' n87' c88')])] h84' (.tuple #[(.int .i64 x89'), (.int .i64 x90')]) h91' ∧
  vcond (!(eqI x90' 0))
  (Q (.bool false) h91')
  (∃ x92', ∃ a93' n94' c95', readAt h91' h7'.nx 0 2 = some [(.int .i64 x92'), (.slice a93' n94' c95')] ∧
  ∃ a96' n97' c98', readAt h91' h7'.nx 1 1 = some [(.slice a96' n97' c98')] ∧
  ∃ a99' n100' c101', ∃ h102', EvC Tryd.prog O 54 [(.agg #[(.int .i64 x92'), (.slice a93' n94' c95')]), (.slice a96' n97' c98'), (.slice none 0 0)] h91' (.slice a99' n100' c101') h102' ∧
  vcond (!(eqI x89' (Int.ofNat n100')))
  (Q (.bool false) h102')
  (vcond (eqI (Int.ofNat n73') 0)
  (vcond (eqI x83' 5)
  (vcond (eqI (Int.ofNat n81') 0)
  (∃ q103', ∃ h104', EvC Tryd.prog O 27 [] h102' (.bool q103') h104' ∧
  Q (.bool q103') h104')
  (Q (.bool false) h102'))
  (Q (.bool false) h102'))
  (I14_0 O Q v0 x1 x2 h7'.nx 0 a72' n73' c74' a80' n81' c82' x83' none 0 0 1 h102')))))))
theorem rk14 {O Q} (v0 x1 x2) {h : Hp} (hO : O 14 [(.agg v0), (.int .i8 x1), (.int .i8 x2)] h = none) (hh : T14 O Q v0 x1 x2 h) : Ret Tryd.prog O 14 [(.agg v0), (.int .i8 x1), (.int .i8 x2)] h Q :=
  .of (c := b14) Tryd.func14 (by kernel_rfl) hO (V_ok (tb := lv14) (cuts := []) 500 (Eq.mp (by kernel_rfl) hh))
def T14_0 (O : CallF) (Q : Value → Hp → Prop) (v0 : Array Value) (x1 : Int) (x2 : Int) (b7 : Nat) (f7 : Nat) (a9 : Option Addr) (n9 : Nat) (c9 : Nat) (a10 : Option Addr) (n10 : Nat) (c10 : Nat) (x11 : Int) (a14 : Option Addr) (n14 : Nat) (c14 : Nat) (x15 : Int) (h : Hp) : Prop :=
  ∃ x101', readAt h b7 (f7 + 0) 1 = some [(.int .i64 x101')] ∧
  vcond (!(ltI x101' x15))
  (let g102 : Hp := h.add (.cells [(.int .i64 x15), (.int .i64 (wrapF .i64 (0 - x15)))] 3 .fix)
  ∃ a103' n104' c105', ∃ h106', EvC Tryd.prog O 20 [(.slice (some ⟨h.nx, 0, none⟩) 2 2)] g102 (.slice a103' n104' c105') h106' ∧
  I14_1 O Q v0 x1 x2 b7 f7 a9 n9 c9 a10 n10 c10 x11 a14 n14 c14 x15 a103' n104' c105' (Int.ofNat n104') 0 h106')
  (I14_2 O Q v0 x1 x2 false b7 f7 a10 n10 c10 x11 a14 n14 c14 a9 n9 c9 (Int.ofNat n9) 0 h)
theorem I14_0.of {O Q} (v0 x1 x2 b7 f7 a9 n9 c9 a10 n10 c10 x11 a14 n14 c14 x15) {h : Hp} (hh : T14_0 O Q v0 x1 x2 b7 f7 a9 n9 c9 a10 n10 c10 x11 a14 n14 c14 x15 h) : I14_0 O Q v0 x1 x2 b7 f7 a9 n9 c9 a10 n10 c10 x11 a14 n14 c14 x15 h :=
  RKL.of (tb := lv14) (cuts := []) 500 fun _ => Eq.mp (by kernel_rfl) hh
def T14_1 (O : CallF) (Q : Value → Hp → Prop) (v0 : Array Value) (x1 : Int) (x2 : Int) (b7 : Nat) (f7 : Nat) (a9 : Option Addr) (n9 : Nat) (c9 : Nat) (a10 : Option Addr) (n10 : Nat) (c10 : Nat) (x11 : Int) (a14 : Option Addr) (n14 : Nat) (c14 : Nat) (x15 : Int) (a87 : Option Addr) (n87 : Nat) (c87 : Nat) (x88 : Int) (x89 : Int) (h : Hp) : Prop :=
  vcond (ltI x89 x88)
  (isNat x89 fun n201' =>
  isAddr a87 fun b202' f203' =>
  vreq (Nat.blt n201' n87)
  (∃ x204', readAt h b202' (f203' + (n201' * 1)) 1 = some [(.int .i64 x204')] ∧
  let g205 : Hp := h.add (.cells [(.int .i64 0)] 3 .fix)
  vreq (canW g205 h.nx 0 [(.int .i64 x204')])
  (let g206 : Hp := g205.wr h.nx 0 [(.int .i64 x204')]
  ∃ q207', ∃ h208', EvC Tryd.prog O 64 [(.slice a9 n9 c9), (.func (.func 70) #[] #[(.pointer (some ⟨h.nx, 0, none⟩))])] g206 (.bool q207') h208' ∧
  vcond (!q207')
  (∃ x209', readAt h208' h.nx 0 1 = some [(.int .i64 x209')] ∧
  let g210 : Hp := h208'.add (.cells [(.int .i64 x209')] 3 .fix)
  ∃ a211' n212' c213' h214', appendV Tryd.prog g210 32 32 (.slice a14 n14 c14) (.slice (some ⟨h208'.nx, 0, none⟩) 1 1) = some (.slice a211' n212' c213', h214') ∧
  I14_1 O Q v0 x1 x2 b7 f7 a9 n9 c9 a10 n10 c10 x11 a211' n212' c213' x15 a87 n87 c87 x88 (wrapF .i64 (x89 + 1)) h214')
  (I14_1 O Q v0 x1 x2 b7 f7 a9 n9 c9 a10 n10 c10 x11 a14 n14 c14 x15 a87 n87 c87 x88 (wrapF .i64 (x89 + 1)) h208'))))
  (I14_0 O Q v0 x1 x2 b7 f7 a9 n9 c9 a10 n10 c10 x11 a14 n14 c14 (wrapF .i64 (x15 + 1)) h)
theorem I14_1.of {O Q} (v0 x1 x2 b7 f7 a9 n9 c9 a10 n10 c10 x11 a14 n14 c14 x15 a87 n87 c87 x88 x89) {h : Hp} (hh : T14_1 O Q v0 x1 x2 b7 f7 a9 n9 c9 a10 n10 c10 x11 a14 n14 c14 x15 a87 n87 c87 x88 x89 h) : I14_1 O Q v0 x1 x2 b7 f7 a9 n9 c9 a10 n10 c10 x11 a14 n14 c14 x15 a87 n87 c87 x88 x89 h :=
  RKL.of (tb := lv14) (cuts := []) 500 fun _ => Eq.mp (by kernel_rfl) hh
def T14_2 (O : CallF) (Q : Value → Hp → Prop) (v0 : Array Value) (x1 : Int) (x2 : Int) (q6 : Bool) (b7 : Nat) (f7 : Nat) (a10 : Option Addr) (n10 : Nat) (c10 : Nat) (x11 : Int) (a14 : Option Addr) (n14 : Nat) (c14 : Nat) (a102 : Option Addr) (n102 : Nat) (c102 : Nat) (x103 : Int) (x104 : Int) (h : Hp) : Prop :=
  vcond (ltI x104 x103)
  (isNat x104 fun n301' =>
  isAddr a102 fun b302' f303' =>
  vreq (Nat.blt n301' n102)
  (∃ x304', readAt h b302' (f303' + (n301' * 1)) 1 = some [(.int .i64 x304')] ∧
  let g305 : Hp := h.rsv 11
  ∃ x306', ∃ a307' n308' c309', readAt g305 b7 f7 2 = some [(.int .i64 x306'), (.slice a307' n308' c309')] ∧
  ∃ x310', readAt g305 b7 (f7 + 0) 1 = some [(.int .i64 x310')] ∧
  ∃ a311' n312' c313', ∃ h314', EvC Tryd.prog O 55 [(.int .i64 x304'), (.int .i64 x310')] (g305.grd [b7]) (.slice a311' n312' c313') h314' ∧
  let g315 : Hp := h314'.rst g305
  ∃ q316', ∃ x317', ∃ h318', EvC Tryd.prog O 29 [(.agg #[(.int .i64 x306'), (.slice a307' n308' c309')]), (.slice a311' n312' c313')] (g315.grd []) (.tuple #[(.bool q316'), (.int .i64 x317')]) h318' ∧
  let g319 : Hp := h318'.rst g315
  vcond (!(eqI x317' 0))
  (Q (.bool false) g319)
  (vcond (!q316')
  (Q (.bool false) g319)
  (I14_2 O Q v0 x1 x2 q6 b7 f7 a10 n10 c10 x11 a14 n14 c14 a102 n102 c102 x103 (wrapF .i64 (x104 + 1)) g319))))
  (vcond (eqI x11 0)
  (∃ q320', ∃ h321', EvC Tryd.prog O 26 [(.slice a10 n10 c10), (.slice a14 n14 c14)] h (.bool q320') h321' ∧
  vcond q320'
  (∃ q322', ∃ h323', EvC Tryd.prog O 27 [] h321' (.bool q322') h323' ∧
  Q (.bool q322') h323')
  (Q (.bool false) h321'))
  (Q (.bool false) h))
theorem I14_2.of {O Q} (v0 x1 x2 q6 b7 f7 a10 n10 c10 x11 a14 n14 c14 a102 n102 c102 x103 x104) {h : Hp} (hh : T14_2 O Q v0 x1 x2 q6 b7 f7 a10 n10 c10 x11 a14 n14 c14 a102 n102 c102 x103 x104 h) : I14_2 O Q v0 x1 x2 q6 b7 f7 a10 n10 c10 x11 a14 n14 c14 a102 n102 c102 x103 x104 h :=
  RKL.of (tb := lv14) (cuts := []) 500 fun _ => Eq.mp (by kernel_rfl) hh
end Go.Proofs.YtfgfhplgnfbaaaaDoor
/- SatForced of layer 20: the loops of its law. -/
namespace Go.Proofs.YtfgfhplgnfbaaaaDoor
open Go Go.Ev
/-- A number is appended: the list lies at a new place. -/
theorem appI_new {e sT : TypeId} (T : AppT Tryd.prog sT e 1 8) {h : Hp} {base : Nat} {a : Option Addr} {n c : Nat} {xs : List Int} (A : AccI e h base a n c xs) {x : Int} {a' : Option Addr} {n' c' : Nat} {h' : Hp}
    (e1 : appendV Tryd.prog (h.add (.cells [.int .i64 x] e .fix)) sT sT (.slice a n c) (.slice (some ⟨h.nx, 0, none⟩) 1 1) = some (.slice a' n' c', h')) : ∀ q, a' = some ⟨q, 0, none⟩ → h.nx ≤ q := fun q e2 => by
  have A1 : AccI e (h.add (.cells [.int .i64 x] e .fix)) base a n c xs := Acc.to _ A
  have := append_new T A1 ⟨_, _, _, rfl⟩ (src_get (n := 1) (c := 1) (esz := 1) (off := 0) (read1 (i := 0) (v := .int .i64 x) (get_add_same ..) rfl)) rfl Nat.one_pos e1
  rw [this] at e2
  have e3 : (h.add (.cells [.int .i64 x] e .fix)).nx = q := congrArg Addr.block (Option.some.inj e2)
  rw [nx_add] at e3
  omega
/-- All of some models have it. -/
def allB (ms : List Nat) (x : Int) : Bool := !(ms.any fun m => !(isB m x))
section
variable {v0 : Array Value} {x1 x2 : Int} {N : Nat} (hN : 1 ≤ N ∧ N ≤ 8) {ms : List Nat} (hms : ∀ m ∈ ms, m < 9223372036854775808) (hml : ms.length < 1000000)
  {hB : Hp} (ok : hB.Ok) {b7 : Nat} (hb7 : b7 < hB.nx) {aF a9 : Option Addr} {nF cF n9 c9 : Nat} (g7 : hB.get b7 = some (.cells [.int .i64 (Int.ofNat N), .slice aF nF cF] 30 .fix)) (M : IntsAt hB a9 n9 (ms.map Int.ofNat))
include hN hms hml ok hb7 g7 M
theorem fn70 {x : Int} (lx : Lit x) {h : Hp} {b : Nat} (hr : readAt h b 0 1 = some [.int .i64 x]) : FnB Ow 70 #[] #[.pointer (some ⟨b, 0, none⟩)] h (fun z => !(isB z.toNat x)) (ms.map Int.ofNat) := by
  have _ := hN; have _ := hml; have _ := ok; have _ := hb7; have _ := g7; have _ := M
  intro z hz
  obtain ⟨m, hm, rfl⟩ := List.mem_map.1 hz
  have hO : Oth Ow := Ow_oth
  refine EvC.of_ret (rk70 _ _ _ (hO _ _ _ (by decide)) ?_)
  unfold T70
  exact ⟨_, hr, _, _, ct66 hO (hms m hm) lx h, rfl, rfl⟩
theorem lp14_1 {Q : Value → Hp → Prop} {a10 a87 : Option Addr} {n10 c10 c87 : Nat} {x11 : Int} {k0 : Nat} (hk0 : k0 < N) {tot : List Int}
    (next : ∀ h a n c, Kp hB.nx hB h → AccI 3 h hB.nx a n c tot → I14_0 Ow Q v0 x1 x2 b7 0 a9 n9 c9 a10 n10 c10 x11 a n c (Int.ofNat (k0 + 2)) h) :
    ∀ (d k : Nat), k + d = 2 → ∀ {h : Hp} {a14 : Option Addr} {n14 c14 : Nat} {acc : List Int}, Kp hB.nx hB h → IntsAt h a87 2 [Int.ofNat (k0 + 1), -Int.ofNat (k0 + 1)] → (∀ q off, a87 = some ⟨q, off, none⟩ → a14 ≠ some ⟨q, 0, none⟩) → AccI 3 h hB.nx a14 n14 c14 acc → acc.length ≤ 1000 + k → acc ++ ([Int.ofNat (k0 + 1), -Int.ofNat (k0 + 1)].drop k).filter (allB ms) = tot →
      I14_1 Ow Q v0 x1 x2 b7 0 a9 n9 c9 a10 n10 c10 x11 a14 n14 c14 (Int.ofNat (k0 + 1)) a87 2 c87 2 (Int.ofNat k) h := by
  have hO : Oth Ow := Ow_oth
  intro d
  induction d with
  | zero =>
    intro k hk h a14 n14 c14 acc kB XL hne A hal ht
    refine I14_1.of (hh := ?_) ..
    unfold T14_1
    rw [List.drop_of_length_le (by simp; omega)] at ht
    rw [List.filter_nil, List.append_nil] at ht
    subst ht
    refine vcond_f (by rw [show (2 : Int) = Int.ofNat 2 from rfl, ltI_nat]; exact blt_f (by omega)) ?_
    rw [wrap_succ (by omega)]
    exact next h _ _ _ kB A
  | succ d ih =>
    intro k hk h a14 n14 c14 acc kB XL hne A hal ht
    refine I14_1.of (hh := ?_) ..
    unfold T14_1
    have f := kB.ex (Nat.le_refl _)
    have okh := ok.kp kB
    have hkl : k < [Int.ofNat (k0 + 1), -Int.ofNat (k0 + 1)].length := by simp; omega
    refine vcond_t (by rw [show (2 : Int) = Int.ofNat 2 from rfl, ltI_nat]; exact blt_t (by omega)) (isNat_i (IntsAt.rd (g := h) (h := h) XL hkl ?_))
    rw [List.drop_eq_getElem_cons hkl] at ht
    have lx : Lit [Int.ofNat (k0 + 1), -Int.ofNat (k0 + 1)][k] := by
      match k, hkl with
      | 0, _ => exact ⟨by show Int.ofNat (k0 + 1) ≠ 0; simp only [Int.ofNat_eq_natCast]; omega, by show -30 ≤ Int.ofNat (k0 + 1); simp only [Int.ofNat_eq_natCast]; omega, by show Int.ofNat (k0 + 1) ≤ 30; simp only [Int.ofNat_eq_natCast]; omega⟩
      | 1, _ => exact ⟨by show -Int.ofNat (k0 + 1) ≠ 0; simp only [Int.ofNat_eq_natCast]; omega, by show -30 ≤ -Int.ofNat (k0 + 1); simp only [Int.ofNat_eq_natCast]; omega, by show -Int.ofNat (k0 + 1) ≤ 30; simp only [Int.ofNat_eq_natCast]; omega⟩
    generalize [Int.ofNat (k0 + 1), -Int.ofNat (k0 + 1)][k] = x at *
    intro g205
    have e205 : g205.get h.nx = some (.cells [.int .i64 0] 3 .fix) := get_add_same ..
    have gu : g205.guarded h.nx = false := guarded_of fun q hq => by have := okh.gd q hq; omega
    refine vreq_t (canW_t e205 (by decide) gu (by simp) rfl) ?_
    intro g206
    have w206 : g206.get h.nx = some (.cells [.int .i64 x] 3 .fix) := wr_get e205 (by decide) gu (vs := [.int .i64 x]) (by simp) rfl
    have k206 : Kp h.nx h g206 := ((Kp.refl _ _).add (Nat.le_refl _) _).wr (Nat.le_refl _) _ _
    have kB6 := kB.trans (k206.le kB.nx)
    have fB := kB6.ex (Nat.le_refl _)
    have f6 := k206.ex (Nat.le_refl _)
    have rd := read1 w206 (i := 0) rfl
    refine ⟨_, g206, ct64 hO (M.to g206) (by simpa using hml) (fn70 hN hms hml ok hb7 g7 M lx rd), ?_⟩
    have eq : ((ms.map Int.ofNat).any fun z => !(isB z.toNat x)) = !(allB ms x) := by
      unfold allB
      rw [List.any_map, Bool.not_not]; rfl
    rw [eq]
    rw [List.filter_cons] at ht
    refine vcond_split (fun h1 => ?_) fun h1 => ?_
    · rw [if_pos (by simpa using h1)] at ht
      refine ⟨_, rd, ?_⟩
      intro g210
      rw [wrap_succ (by omega)]
      obtain ⟨a', n', c', h', e', A', ka⟩ := app_int app32 (A.to g206) kB6.nx (GdLt.kp ok.lt kB6) (by omega) x
      refine ⟨a', n', c', h', e', ?_⟩
      have kA : Kp hB.nx g206 h' := ka.kp (A.to g206) kB6.nx
      have X6 : IntsAt g206 a87 2 [Int.ofNat (k0 + 1), -Int.ofNat (k0 + 1)] := XL.to g206
      have n6 := k206.nx
      refine ih (k + 1) (by omega) (kB6.trans kA) (X6.keep (fun q off e => ka.get q (SlAt.lt X6 q off e) (hne q off e)) ka.nx fun _ _ h => h) (fun q off e e2 => ?_) A' (by simp; omega) (by rw [List.append_assoc]; exact ht)
      have h3 := SlAt.lt X6 q off e
      have h4 := appI_new app32 (A.to g206) e' q e2
      omega
    · rw [if_neg (by simpa using h1)] at ht
      rw [wrap_succ (by omega)]
      exact ih (k + 1) (by omega) kB6 (XL.to g206) hne (A.to g206) (by omega) ht
theorem lp14_0 {Q : Value → Hp → Prop} {a10 : Option Addr} {n10 c10 : Nat} {x11 : Int}
    (next : ∀ h a n c, Kp hB.nx hB h → AccI 3 h hB.nx a n c (wantF ms N) → I14_2 Ow Q v0 x1 x2 false b7 0 a10 n10 c10 x11 a n c a9 n9 c9 (Int.ofNat n9) 0 h) :
    ∀ (d k : Nat), k + d = N → ∀ {h : Hp} {a14 : Option Addr} {n14 c14 : Nat} {acc : List Int}, Kp hB.nx hB h → AccI 3 h hB.nx a14 n14 c14 acc → acc.length ≤ 2 * k → acc ++ ((List.range N).drop k).flatMap (fun i => [Int.ofNat (i + 1), -Int.ofNat (i + 1)].filter (allB ms)) = wantF ms N →
      I14_0 Ow Q v0 x1 x2 b7 0 a9 n9 c9 a10 n10 c10 x11 a14 n14 c14 (Int.ofNat (k + 1)) h := by
  have hO : Oth Ow := Ow_oth
  intro d
  induction d with
  | zero =>
    intro k hk h a14 n14 c14 acc kB A hal ht
    refine I14_0.of (hh := ?_) ..
    unfold T14_0
    have g7h : h.get b7 = some (.cells [.int .i64 (Int.ofNat N), .slice aF nF cF] 30 .fix) := by rw [kB.get _ hb7]; exact g7
    rw [List.drop_of_length_le (by simp; omega), List.flatMap_nil, List.append_nil] at ht
    subst ht
    refine ⟨_, read1 g7h (i := 0 + 0) rfl, vcond_f (by rw [ltI_nat, blt_t (by omega)]; rfl) ?_⟩
    exact next h _ _ _ kB A
  | succ d ih =>
    intro k hk h a14 n14 c14 acc kB A hal ht
    refine I14_0.of (hh := ?_) ..
    unfold T14_0
    have g7h : h.get b7 = some (.cells [.int .i64 (Int.ofNat N), .slice aF nF cF] 30 .fix) := by rw [kB.get _ hb7]; exact g7
    refine ⟨_, read1 g7h (i := 0 + 0) rfl, vcond_t (by rw [ltI_nat, blt_f (by omega)]; rfl) ?_⟩
    rw [show wrapF .i64 (0 - Int.ofNat (k + 1)) = -Int.ofNat (k + 1) by rw [wrap64 (by simp only [Int.ofNat_eq_natCast]; omega) (by simp only [Int.ofNat_eq_natCast]; omega)]; omega]
    intro g102
    have k102 : Kp h.nx h g102 := (Kp.refl _ _).add (Nat.le_refl _) _
    have f := k102.ex (Nat.le_refl _)
    refine ⟨_, _, _, _, ct20 hO _ _ _ _, ?_⟩
    have g102nx : g102.nx = h.nx + 1 := nx_add ..
    have X : IntsAt g102 (some ⟨h.nx, 0, none⟩) 2 [Int.ofNat (k + 1), -Int.ofNat (k + 1)] := ints_of_get (xs := [Int.ofNat (k + 1), -Int.ofNat (k + 1)]) (get_add_same ..) (by omega) (by simp) fun i hi => by
      match i, hi with
      | 0, _ => rfl
      | 1, _ => rfl
    have kB2 := kB.trans (k102.le kB.nx)
    have e1 : (List.range N).drop k = k :: (List.range N).drop (k + 1) := by rw [List.drop_eq_getElem_cons (by simp; omega), List.getElem_range]
    rw [e1, List.flatMap_cons, ← List.append_assoc] at ht
    have flen : ([Int.ofNat (k + 1), -Int.ofNat (k + 1)].filter (allB ms)).length ≤ 2 := Nat.le_trans (List.length_filter_le _ _) (by simp)
    refine lp14_1 hN hms hml ok hb7 g7 M (k0 := k) (by omega) (fun h' a n c k' A' => ih (k + 1) (by omega) k' A' (by simp only [List.length_append]; omega) ht) 2 0 (by omega) kB2 X (fun q off e e2 => ?_) (A.to g102) (by omega) rfl
    injection e with e; injection e with e _
    have : a14 = some ⟨q, 0, none⟩ := e2
    have := (Acc.lt A this).2
    omega
end
theorem wantF_eq (ms : List Nat) (N : Nat) : (List.range N).flatMap (fun i => [Int.ofNat (i + 1), -Int.ofNat (i + 1)].filter (allB ms)) = wantF ms N := by
  unfold wantF allB
  congr 1
  funext i
  simp only [List.filter_cons, List.filter_nil]
  cases (ms.any fun m => !(isB m (Int.ofNat (i + 1)))) <;> cases (ms.any fun m => !(isB m (-Int.ofNat (i + 1)))) <;> simp
end Go.Proofs.YtfgfhplgnfbaaaaDoor
/- SatForced of layer 20: each model holds. -/
namespace Go.Proofs.YtfgfhplgnfbaaaaDoor
open Go Go.Ev
theorem holds_true {N m : Nat} (hN : N ≤ 30) {cls : List (List Int)} (hcl : cls.length ≤ 120) (hc : ∀ l ∈ cls, Cv (Int.ofNat N) l) (h : ∀ l ∈ cls, l.any (isB m) = true) : holdsP (Int.ofNat N) cls ((List.range N).map m.testBit) = (true, 0) := by
  have ha := ask_of (vars := Int.ofNat N) (gs := []) (by simp only [Int.ofNat_eq_natCast]; omega) (by simp only [Int.ofNat_eq_natCast]; omega) hcl hc ⟨List.Pairwise.nil, fun _ h => by cases h⟩
  have hf : formB (Int.ofNat N) cls = true := by unfold askB at ha; exact (Bool.and_eq_true _ _ ▸ ha).1
  unfold holdsP
  rw [hf, if_neg (by decide), if_neg (by simp)]
  congr 1
  rw [List.all_map, List.all_eq_true]
  intro l hl
  rw [Function.comp, sideT_any (fun x hx => ((hc l hl).2 x hx).1)]
  obtain ⟨x, hx, hxt⟩ := List.any_eq_true.1 (h l hl)
  refine List.any_eq_true.2 ⟨x, hx, ?_⟩
  rw [isB_same (N := N) (b := m) (fun i hi => ?_) ((hc l hl).2 x hx).1.1 ((hc l hl).2 x hx).2]
  · exact hxt
  · rw [maskF_test, Nat.zero_testBit, Bool.false_or, decide_eq_true (Nat.zero_le _), Bool.true_and, Nat.sub_zero, List.getD_eq_getElem?_getD, List.getElem?_map, List.getElem?_range hi]
    rfl
section
variable {v0 : Array Value} {x1 x2 : Int} {N : Nat} (hN : 1 ≤ N ∧ N ≤ 8) {cls : List (List Int)} (hcl : cls.length ≤ 14) (hc : ∀ l ∈ cls, Cv (Int.ofNat N) l) {ms : List Nat} (hms : ∀ m ∈ ms, m < 9223372036854775808 ∧ ∀ l ∈ cls, l.any (isB m) = true) (hml : ms.length < 1000000)
  {hB : Hp} (ok : hB.Ok) (ht : Tb hB) {b7 : Nat} (hb7 : b7 < hB.nx) {aF a9 : Option Addr} {nF cF n9 c9 : Nat} (g7 : hB.get b7 = some (.cells [.int .i64 (Int.ofNat N), .slice aF nF cF] 30 .fix)) (F : IntssAt hB aF nF cls) (M : IntsAt hB a9 n9 (ms.map Int.ofNat))
  {a10 a14 : Option Addr} {n10 c10 n14 c14 : Nat} {xs : List Int} (X : IntsAt hB a10 n10 xs) (Y : IntsAt hB a14 n14 xs) (hxl : xs.length < 1000000)
include hN hcl hc hms hml ok ht hb7 g7 F M X Y hxl
theorem lp14_2 : ∀ (d k : Nat), k + d = ms.length → ∀ {h : Hp}, Kp hB.nx hB h → I14_2 Ow Yes v0 x1 x2 false b7 0 a10 n10 c10 0 a14 n14 c14 a9 n9 c9 (Int.ofNat n9) (Int.ofNat k) h := by
  have hO : Oth Ow := Ow_oth
  have hn := M.1
  rw [List.length_map] at hn
  intro d
  induction d with
  | zero =>
    intro k hk h kp
    refine I14_2.of (hh := ?_) ..
    unfold T14_2
    have f := kp.ex (Nat.le_refl _)
    obtain ⟨v, h2, e2, rfl, K2⟩ := ct26 hO (X.to h) (Y.to h) hxl (c := c10) (c' := c14)
    rw [decide_eq_true rfl] at e2
    refine vcond_f (by rw [ltI_nat]; exact blt_f (by omega)) (vcond_t rfl ⟨_, h2, e2, vcond_t rfl ⟨_, h2, works_true ((ht.kp kp ht.1).kp K2 (ht.kp kp ht.1).1), rfl⟩⟩)
  | succ d ih =>
    intro k hk h kp
    refine I14_2.of (hh := ?_) ..
    unfold T14_2
    have f := kp.ex (Nat.le_refl _)
    have hkm : k < ms.length := by omega
    obtain ⟨mb, mc⟩ := hms _ (List.getElem_mem hkm)
    refine vcond_t (by rw [ltI_nat]; exact blt_t (by omega)) (isNat_i (IntsAt.rd (g := hB) (h := h) M (k := k) (by simpa using hkm) ?_))
    rw [List.getElem_map]
    intro g305
    have K305 : Kp h.nx h g305 := (Kp.refl _ _).rsv 11
    have kp5 := kp.trans (K305.le kp.nx)
    have g7h : g305.get b7 = some (.cells [.int .i64 (Int.ofNat N), .slice aF nF cF] 30 .fix) := by rw [kp5.get _ hb7]; exact g7
    refine ⟨_, _, _, _, by rw [readAt_get g7h (by simp)]; rfl, _, read1 g7h (i := 0 + 0) rfl, ?_⟩
    have okg : (g305.grd [b7]).Ok := (ok.kp kp5).grd fun q hq => by
      rw [List.mem_singleton] at hq; subst hq
      exact Nat.lt_of_lt_of_le hb7 kp5.nx
    obtain ⟨v, h314, e314, a311, n312, c313, rfl, B, K⟩ := ct55 hO okg (m := ms[k]) mb (N := N) (by omega)
    refine ⟨_, _, _, h314, e314, ?_⟩
    intro g315
    have K315 : Kp g305.nx g305 g315 := Kp.rst (Kp.refl _ _) K
    have kp315 := kp5.trans (K315.le kp5.nx)
    have f315 := kp315.ex (Nat.le_refl _)
    have B315 : BoolsAt (g315.grd []) a311 n312 ((List.range N).map ms[k].testBit) := B.keep (fun _ _ _ => rfl) (Nat.le_refl _) fun _ _ h => h
    have F315 : IntssAt (g315.grd []) aF nF cls := (F.to g315).keep (fun _ _ _ => rfl) (Nat.le_refl _) fun _ _ h => h
    have ok315 : (g315.grd []).Ok := ok.kp kp315
    obtain ⟨v, h318, e318, rfl, K318⟩ := ct29 hO ok315 F315 B315 (by omega) (fun l hl => by have := cv_len (hc l hl); omega) (vars := Int.ofNat N) (c := cF) (c1 := c313)
    rw [holds_true (by omega) (by omega) hc mc] at e318
    refine ⟨_, _, h318, e318, ?_⟩
    intro g319
    have K319 : Kp g315.nx g315 g319 := Kp.rst (Kp.refl _ _) K318
    refine vcond_f rfl (vcond_f rfl ?_)
    rw [wrap_succ (by omega)]
    exact ih (k + 1) (by omega) (kp315.trans (K319.le kp315.nx))
end
end Go.Proofs.YtfgfhplgnfbaaaaDoor
/- SatForced of layer 20: its law, joined. -/
namespace Go.Proofs.YtfgfhplgnfbaaaaDoor
open Go Go.Ev
def Tail14 (O : CallF) (Q : Value → Hp → Prop) (v0 : Array Value) (x1 x2 : Int) (b7 : Nat) (a8 : Option Addr) (n8 c8 : Nat) (g : Hp) : Prop :=
  ∃ x65', ∃ a66' n67' c68', readAt g b7 0 2 = some [(.int .i64 x65'), (.slice a66' n67' c68')] ∧
  ∃ a69' n70' c71', readAt g b7 1 1 = some [(.slice a69' n70' c71')] ∧
  ∃ a72' n73' c74', ∃ h75', EvC Tryd.prog O 54 [(.agg #[(.int .i64 x65'), (.slice a66' n67' c68')]), (.slice a69' n70' c71'), (.slice a8 n8 c8)] g (.slice a72' n73' c74') h75' ∧
  ∃ x76', ∃ a77' n78' c79', readAt h75' b7 0 2 = some [(.int .i64 x76'), (.slice a77' n78' c79')] ∧
  ∃ a80' n81' c82', ∃ x83', ∃ h84', EvC Tryd.prog O 52 [(.agg #[(.int .i64 x76'), (.slice a77' n78' c79')]), (.slice a8 n8 c8)] h75' (.tuple #[(.slice a80' n81' c82'), (.int .i64 x83')]) h84' ∧
  ∃ x85', ∃ a86' n87' c88', readAt h84' b7 0 2 = some [(.int .i64 x85'), (.slice a86' n87' c88')] ∧
  ∃ x89', ∃ x90', ∃ h91', EvC Tryd.prog O 22 [(.agg #[(.int .i64 x85'), (.slice a86' n87' c88')])] h84' (.tuple #[(.int .i64 x89'), (.int .i64 x90')]) h91' ∧
  vcond (!(eqI x90' 0))
  (Q (.bool false) h91')
  (∃ x92', ∃ a93' n94' c95', readAt h91' b7 0 2 = some [(.int .i64 x92'), (.slice a93' n94' c95')] ∧
  ∃ a96' n97' c98', readAt h91' b7 1 1 = some [(.slice a96' n97' c98')] ∧
  ∃ a99' n100' c101', ∃ h102', EvC Tryd.prog O 54 [(.agg #[(.int .i64 x92'), (.slice a93' n94' c95')]), (.slice a96' n97' c98'), (.slice none 0 0)] h91' (.slice a99' n100' c101') h102' ∧
  vcond (!(eqI x89' (Int.ofNat n100')))
  (Q (.bool false) h102')
  (vcond (eqI (Int.ofNat n73') 0)
  (vcond (eqI x83' 5)
  (vcond (eqI (Int.ofNat n81') 0)
  (∃ q103', ∃ h104', EvC Tryd.prog O 27 [] h102' (.bool q103') h104' ∧
  Q (.bool q103') h104')
  (Q (.bool false) h102'))
  (Q (.bool false) h102'))
  (I14_0 O Q v0 x1 x2 b7 0 a72' n73' c74' a80' n81' c82' x83' none 0 0 1 h102')))
theorem tail14 {v0 : Array Value} {x1 x2 : Int} {N : Nat} (hN : 1 ≤ N ∧ N ≤ 8) {cls : List (List Int)} {gs : List Int} (hcl : cls.length ≤ 14) (hc : ∀ l ∈ cls, Cv (Int.ofNat N) l) (hg : Cv (Int.ofNat N) gs)
    {g : Hp} (ok : g.Ok) (ht : Tb g) {b7 : Nat} (hb7 : b7 < g.nx) {aF a8 : Option Addr} {nF cF n8 c8 base : Nat} (g7 : g.get b7 = some (.cells [.int .i64 (Int.ofNat N), .slice aF nF cF] 30 .fix)) (F : IntssAt g aF nF cls) (A8 : AccI 3 g base a8 n8 c8 gs) : Tail14 Ow Yes v0 x1 x2 b7 a8 n8 c8 g := by
  have hO : Oth Ow := Ow_oth
  have h30 : N ≤ 30 := by omega
  have G := A8.ints
  have lits : ∀ l ∈ cls, ∀ x ∈ l, Lit x := fun l hl x hx => ((hc l hl).2 x hx).1
  have glit : ∀ x ∈ gs, Lit x := fun x hx => (hg.2 x hx).1
  have glen := cv_len hg
  have llen : ∀ l ∈ cls, l.length < 1000000 := fun l hl => by have := cv_len (hc l hl); omega
  have ha : askB (Int.ofNat N) cls gs = true := ask_of (by simp only [Int.ofNat_eq_natCast]; omega) (by simp only [Int.ofNat_eq_natCast]; omega) (by omega) hc hg
  unfold Tail14
  refine ⟨_, _, _, _, by rw [readAt_get g7 (by simp)]; rfl, _, _, _, read1 g7 (i := 1) rfl, ?_⟩
  have hgl : Lv (Int.ofNat N) gs := hg.2
  have lits2 : (solF N cls gs).how = 0 → ∀ x ∈ litsN (solF N cls gs).y (solF N cls gs).m, Lit x ∧ (x.natAbs : Int) ≤ Int.ofNat N := fun h0 => (forced_want hN hc hgl h0).1
  have D : askB (Int.ofNat N) cls gs = true → ∃ Dc, Dec (Int.ofNat N).toNat (cls.map sideN) gs Dc ∧ Dc [] := fun _ => ⟨_, dec_ok h30 hc hgl, dcs_nil⟩
  have D2 : askB (Int.ofNat N) cls gs = true → (solF (Int.ofNat N).toNat cls gs).how = 0 → ∀ x ∈ litsN (solF (Int.ofNat N).toNat cls gs).y (solF (Int.ofNat N).toNat cls gs).m, Lit x ∧ ∃ Dc, Dec (Int.ofNat N).toNat (cls.map sideN) (gs ++ [-x]) Dc ∧ Dc [] := fun _ h0 x hx => by
    obtain ⟨a, b⟩ := lits2 h0 x hx
    refine ⟨a, _, dec_ok (N := N) h30 hc (fun w hw => ?_), dcs_nil⟩
    rcases List.mem_append.1 hw with h | h
    · exact hgl w h
    · rw [List.mem_singleton] at h; subst h
      exact ⟨⟨by have := a.1; omega, by have := a.2; omega⟩, by rw [Int.natAbs_neg]; exact b⟩
  have hlt : askB (Int.ofNat N) cls gs = true → (solF (Int.ofNat N).toNat cls gs).y < 2 ^ 30 ∧ (solF (Int.ofNat N).toNat cls gs).m < 2 ^ 30 := fun _ => search_lt h30 hc hgl (N + 1) dcs_nil
  refine ret_ri (ct54 hO ok F (by omega) llen lits G (by omega) glit (N := N) (by omega) (a0 := aF) (n0 := nF) (c0 := cF) (c1 := cF) (c2 := c8)) fun a72 n72 c72 h75 M K75 _ => ?_
  have f75 := K75.ex (Nat.le_refl _)
  have ok75 := ok.kp K75
  have ht75 := ht.kp K75 ht.1
  have g75 : h75.get b7 = some (.cells [.int .i64 (Int.ofNat N), .slice aF nF cF] 30 .fix) := by rw [K75.get _ hb7]; exact g7
  refine ⟨_, _, _, _, by rw [readAt_get g75 (by simp)]; rfl, ?_⟩
  obtain ⟨v84, h84, e84, a80, n80, c80, rfl, X84, K84⟩ := ct52 hO ok75 ht75 (F.to h75) (by omega) llen (A8.to h75) (by omega) D D2 hlt (vars := Int.ofNat N) (c := cF) (c1 := c8)
  refine ⟨_, _, _, _, h84, e84, ?_⟩
  have k84 : Kp g.nx g h84 := K75.trans (K84.le K75.nx)
  have f84 := k84.ex (Nat.le_refl _)
  have ok84 := ok.kp k84
  have g84 : h84.get b7 = some (.cells [.int .i64 (Int.ofNat N), .slice aF nF cF] 30 .fix) := by rw [k84.get _ hb7]; exact g7
  refine ⟨_, _, _, _, by rw [readAt_get g84 (by simp)]; rfl, ?_⟩
  obtain ⟨v91, h91, e91, rfl, K91⟩ := ct22 hO ok84 (F.to h84) (by omega) llen (vars := Int.ofNat N) (c := cF)
  have cP : countP (Int.ofNat N) cls = (Int.ofNat (modelsN N cls []).length, 0) := by
    have hf : formB (Int.ofNat N) cls = true := by unfold askB at ha; exact (Bool.and_eq_true _ _ ▸ ha).1
    unfold countP
    rw [hf, if_neg (by decide), if_neg (by simp only [Int.ofNat_eq_natCast]; omega)]
    rw [show (Int.ofNat N).toNat = N from rfl, count_models lits]
  rw [cP] at e91
  have k91 : Kp g.nx g h91 := k84.trans (K91.le k84.nx)
  have f91 := k91.ex (Nat.le_refl _)
  have ok91 := ok.kp k91
  have g91 : h91.get b7 = some (.cells [.int .i64 (Int.ofNat N), .slice aF nF cF] 30 .fix) := by rw [k91.get _ hb7]; exact g7
  refine ⟨_, _, h91, e91, vcond_f rfl ⟨_, _, _, _, by rw [readAt_get g91 (by simp)]; rfl, _, _, _, read1 g91 (i := 1) rfl, ?_⟩⟩
  refine ret_ri (ct54 hO ok91 (F.to h91) (by omega) llen lits (gs := []) (SlAt.nil ..) (by simp) (fun _ h => by cases h) (N := N) (by omega) (a0 := aF) (n0 := nF) (c0 := cF) (c1 := cF) (c2 := 0)) fun a99 n99 c99 h102 M' K102 _ => ?_
  refine vcond_f (by rw [M'.1, List.length_map, eqI_t rfl]; rfl) ?_
  have k102 : Kp g.nx g h102 := k91.trans (K102.le k91.nx)
  have f102 := k102.ex (Nat.le_refl _)
  have ok102 := ok.kp k102
  have ht102 := ht.kp k102 ht.1
  have g102 : h102.get b7 = some (.cells [.int .i64 (Int.ofNat N), .slice aF nF cF] 30 .fix) := by rw [k102.get _ hb7]; exact g7
  have k75 : Kp h75.nx h75 h102 := K84.trans ((K91.le K84.nx).trans (K102.le (Nat.le_trans K84.nx K91.nx)))
  have k842 : Kp h84.nx h84 h102 := K91.trans (K102.le K91.nx)
  have f1 := k75.ex (Nat.le_refl _)
  have f2 := k842.ex (Nat.le_refl _)
  have M2 : IntsAt h102 a72 n72 ((modelsN N cls gs).map Int.ofNat) := M.to h102
  have X2 := X84.to h102
  have hn72 : n72 = (modelsN N cls gs).length := by rw [M.1, List.length_map]
  have hmb : ∀ m ∈ modelsN N cls gs, m < 9223372036854775808 ∧ ∀ l ∈ cls, l.any (isB m) = true := fun m hm => by
    obtain ⟨h1, h2⟩ := List.mem_filter.1 hm
    obtain ⟨k, _, rfl⟩ := List.mem_map.1 h1
    have := bitsF_lt N k N
    have : 2 ^ N ≤ 2 ^ 8 := Nat.pow_le_pow_right (by decide) hN.2
    refine ⟨by omega, ?_⟩
    unfold satM at h2
    rw [Bool.and_eq_true, List.all_eq_true, List.all_eq_true] at h2
    exact h2.2
  have hml : (modelsN N cls gs).length < 1000000 := by
    have : (modelsN N cls gs).length ≤ 2 ^ N := by unfold modelsN; exact Nat.le_trans (List.length_filter_le _ _) (by simp)
    have : 2 ^ N ≤ 2 ^ 8 := Nat.pow_le_pow_right (by decide) hN.2
    omega
  have hb102 : b7 < h102.nx := by have := k102.nx; omega
  rcases solve_small h30 hc hgl hN.2 with ⟨h0, _, _, m, rest, em, hm⟩ | ⟨h1, em, _⟩
  · have fP : forcedP (Int.ofNat N) cls gs = (wantF (modelsN N cls gs) N, 0) := by
      unfold forcedP
      rw [ha, if_neg (by decide)]
      show (if (solF N cls gs).how = 0 then _ else _) = _
      rw [if_pos h0]
      exact (forced_want hN hc hgl h0).2
    rw [fP] at X2 ⊢
    refine vcond_f (eqI_f (by rw [hn72, em]; simp only [List.length_cons, Int.ofNat_eq_natCast]; omega)) ?_
    have wl : (wantF (modelsN N cls gs) N).length < 1000000 := by
      rw [← wantF_eq]
      have : ∀ l : List Nat, (l.flatMap fun i => [Int.ofNat (i + 1), -Int.ofNat (i + 1)].filter (allB (modelsN N cls gs))).length ≤ 2 * l.length := by
        intro l
        induction l with
        | nil => simp
        | cons i l ih =>
          rw [List.flatMap_cons, List.length_append, List.length_cons]
          have : ([Int.ofNat (i + 1), -Int.ofNat (i + 1)].filter (allB (modelsN N cls gs))).length ≤ 2 := Nat.le_trans (List.length_filter_le _ _) (by simp)
          omega
      have := this (List.range N)
      rw [List.length_range] at this
      omega
    refine lp14_0 hN (fun m hm => (hmb m hm).1) hml ok102 hb102 g102 M2 (fun h a n c kp A => ?_) N 0 (Nat.zero_add _) (.refl _ _) (AccI.nil 3 h102 h102.nx) (Nat.zero_le _) (by rw [List.drop_zero, List.nil_append]; exact wantF_eq _ _)
    have f := kp.ex (Nat.le_refl _)
    have fg : Ft g h := (k102.trans (kp.le k102.nx)).ex (Nat.le_refl _)
    exact lp14_2 hN hcl hc hmb hml (ok102.kp kp) (ht102.kp kp ht102.1) (Nat.lt_of_lt_of_le hb102 kp.nx) (by rw [kp.get _ hb102]; exact g102) (F.to h) (M2.to h) (X2.to h) A.ints wl _ 0 (Nat.zero_add _) (.refl _ _)
  · have fP : forcedP (Int.ofNat N) cls gs = ([], 5) := by
      unfold forcedP
      rw [ha, if_neg (by decide)]
      show (if (solF N cls gs).how = 0 then _ else ([], if (solF N cls gs).how = 1 then _ else _)) = _
      rw [h1]; rfl
    rw [fP] at X2 ⊢
    have n0 : n72 = 0 := by rw [hn72, em]; rfl
    exact vcond_t (by rw [n0]; rfl) (vcond_t rfl (vcond_t (by rw [X2.1]; rfl) ⟨_, _, works_true ht102, rfl⟩))
theorem law14 {vars many : Nat} {cl : List Int} (p : PuzOk vars many cl) {x1 x2 : Int} (h1 : -128 ≤ x1 ∧ x1 < 128) (h2 : -128 ≤ x2 ∧ x2 < 128) {h : Hp} (ok : h.Ok) (ht : Tb h) :
    Ret Tryd.prog Ow 14 [.agg (puzV vars many cl).toArray, .int .i8 x1, .int .i8 x2] h Yes := by
  have hO : Oth Ow := Ow_oth
  refine rk14 _ _ _ (Ow_oth _ _ _ (by decide)) ?_
  unfold T14
  have pv := p.v
  refine vreq_t (by simp [puzV, one]) ?_
  intro g1
  have e1 : g1.get h.nx = some (.cells (puzV vars many cl) 26 .fix) := get_add_same h _
  have k1 : Kp h.nx h g1 := (Kp.refl _ _).add (Nat.le_refl _) _
  have n1 : g1.nx = h.nx + 1 := rfl
  have pl : (puzV vars many cl).length = 44 := by simp [puzV, p.len]
  have rd : readAt g1 h.nx 0 44 = some (puzV vars many cl) := by rw [readAt_get e1 (by omega), List.drop_zero, ← pl, List.take_length]
  refine ⟨_, rd, ?_⟩
  obtain ⟨v7, h7, e7, a5, n5, c6, rfl, F7, k7⟩ := ct16 hO (ok.kp k1) p (x1 := 8) ⟨by decide, by decide⟩
  refine ⟨_, _, _, _, _, e7, ?_⟩
  have hmod : 0 ≤ (vars : Int).tmod 8 ∧ (vars : Int).tmod 8 < 8 := ⟨Int.tmod_nonneg _ (by omega), Int.tmod_lt_of_pos _ (by omega)⟩
  obtain ⟨N, hNe⟩ : ∃ N : Nat, 1 + (vars : Int).tmod 8 = Int.ofNat N := ⟨(1 + (vars : Int).tmod 8).toNat, by simp only [Int.ofNat_eq_natCast]; omega⟩
  rw [hNe] at e7 F7 ⊢
  have hN : 1 ≤ N ∧ N ≤ 8 := by simp only [Int.ofNat_eq_natCast] at hNe; omega
  have hNi : (1 : Int) ≤ Int.ofNat N ∧ Int.ofNat N ≤ 30 := by simp only [Int.ofNat_eq_natCast]; omega
  obtain ⟨cn, co⟩ := clsN_ok p (N := Int.ofNat N) hNi (many % 15)
  intro g8
  have kh7 := k1.trans (k7.le k1.nx)
  have ok7 := ok.kp kh7
  have ea : g8.get h7.nx = some (.cells [.int .i64 0, .slice none 0 0] 30 .fix) := get_add_same ..
  have gu : g8.guarded h7.nx = false := guarded_of fun q hq => by have := ok7.gd q hq; omega
  refine vreq_t (canW_t ea (by decide) gu (by simp) rfl) ?_
  intro g9 g10
  have w9 : g9.get h7.nx = some (.cells [.int .i64 (Int.ofNat N), .slice a5 n5 c6] 30 .fix) := (wr_get ea (by decide) gu (by simp) rfl).trans rfl
  have n9 : g9.nx = h7.nx + 1 := nx_wr ..
  have k10 : Kp h7.nx h7 g10 := (((Kp.refl h7.nx h7).add (Nat.le_refl _) _).wr (Nat.le_refl _) _ _).rsv 11
  have w10 : g10.get h7.nx = some (.cells [.int .i64 (Int.ofNat N), .slice a5 n5 c6] 30 .fix) := w9
  have n10 : g10.nx = g9.nx + 11 := rfl
  have kh10 := kh7.trans (k10.le kh7.nx)
  have ok10 := ok.kp kh10
  refine ⟨_, read1 w10 (i := 0) rfl, _, read1 w10 (i := 0) rfl, _, _, ct21 hO h1.1 h1.2 hNi.1 hNi.2 _, ?_⟩
  intro g15
  refine ⟨_, _, ct21 hO h2.1 h2.2 hNi.1 hNi.2 _, ?_⟩
  intro g18
  have e18 : g18 = g10 := rfl
  obtain ⟨l1, l1'⟩ := litP_ok h1.1 h1.2 hNi.1 hNi.2
  obtain ⟨l2, l2'⟩ := litP_ok h2.1 h2.2 hNi.1 hNi.2
  generalize litP x1 (Int.ofNat N) = y1 at *
  generalize litP x2 (Int.ofNat N) = y2 at *
  have fr : g18.get (g9.nx + 8) = none := by
    rw [e18]
    show g9.get (g9.nx + 8) = none
    have q : g9.Fresh := (ok7.fr.add _).wr _ _ _
    exact q _ (Nat.le_add_right _ _)
  refine vreq_t (free_t fr) ?_
  intro g19
  have k19 : Kp h7.nx h7 g19 := k10.lay (h' := g10) (by omega) (by omega) _
  have kh19 := kh7.trans (k19.le kh7.nx)
  have ok19 := ok.kp kh19
  have n19 : g19.nx = g10.nx := rfl
  have w19 : g19.get h7.nx = some (.cells [.int .i64 (Int.ofNat N), .slice a5 n5 c6] 30 .fix) := by
    show (g10.lay _ _).get _ = _
    rw [get_lay, if_neg (by omega)]; exact w10
  have w19b : g19.get (g9.nx + 8) = some (.cells [.int .i64 y1, .int .i64 y2] 3 .fix) := by
    show (g10.lay _ _).get _ = _
    rw [get_lay, if_pos rfl]
  have X19 : IntsAt (g19.grd []) (some ⟨g9.nx + 8, 0, none⟩) 2 [y1, y2] := ints_of_get (h := g19.grd []) (xs := [y1, y2]) w19b (by show g9.nx + 8 < g10.nx; omega) (by simp) fun i hi => by
    match i, hi with
    | 0, _ => rfl
    | 1, _ => rfl
  have ok19' : (g19.grd []).Ok := ok19
  refine (ct19A hO ok19' X19 (by simp) (fun x hx => by simp at hx; rcases hx with rfl | rfl <;> assumption) (c0 := 2)).s fun a20 n21 c22 h23 ⟨X23, K23⟩ => ?_
  intro g24
  have K24 : Kp g19.nx g19 g24 := Kp.rst (Kp.refl _ _) K23
  have k24 : Kp h7.nx h7 g24 := k19.trans (K24.le k19.nx)
  have kh24 := kh7.trans (k24.le kh7.nx)
  have ok24 := ok.kp kh24
  have ht24 := ht.kp kh24 ht.1
  have w24 : g24.get h7.nx = some (.cells [.int .i64 (Int.ofNat N), .slice a5 n5 c6] 30 .fix) := by rw [K24.get _ (by omega)]; exact w19
  have f24 := k24.ex (Nat.le_refl _)
  have X24 : AccI 3 g24 (g19.grd []).nx a20 n21 c22 (clauseN [y1, y2]) := Acc.keep X23 (fun _ _ _ => rfl) (Nat.le_refl _)
  have hb : h7.nx < g24.nx := by have := K24.nx; have : g18.nx = g10.nx := rfl; omega
  have hc : ∀ l ∈ clsN (Int.ofNat N) cl (many % 15), Cv (Int.ofNat N) l := fun l hl => (co l hl).1
  refine vcond_split (fun _ => ?_) fun _ => ?_
  · exact tail14 hN (by omega) hc (gs := []) ⟨List.Pairwise.nil, fun _ h => by cases h⟩ ok24 ht24 hb w24 (F7.to g24) (base := 0) (AccI.nil ..)
  · refine tail14 hN (by omega) hc (gs := clauseN [y1, y2]) ⟨clauseN_dif _, fun x hx => ?_⟩ ok24 ht24 hb w24 (F7.to g24) X24
    exact clauseN_mem (l := [y1, y2]) (P := fun x => Lit x ∧ (x.natAbs : Int) ≤ Int.ofNat N) (fun x hx => by
      simp at hx
      rcases hx with rfl | rfl
      · exact ⟨l1, by simp only [Int.ofNat_eq_natCast, Int.toNat_natCast] at *; omega⟩
      · exact ⟨l2, by simp only [Int.ofNat_eq_natCast, Int.toNat_natCast] at *; omega⟩) x hx
end Go.Proofs.YtfgfhplgnfbaaaaDoor
