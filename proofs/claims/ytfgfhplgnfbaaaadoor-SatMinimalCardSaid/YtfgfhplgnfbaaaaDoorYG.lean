/- What a search finds: by induction over the tree. -/
import Derived.Test.YtfgfhplgnfbaaaaDoorYF
import Derived.Test.YtfgfhplgnfbaaaaDoorYE
import Derived.Test.YtfgfhplgnfbaaaaDoorProg
import Derived.Test.YtfgfhplgnfbaaaaDoorYC
import Derived.KernelRfl
import Derived.Lib.LaidTab
import Derived.WalkKit
import Derived.ProofKit
import Derived.OpenShut
import Derived.Deep.DeepHandedRow
import Derived.Test.YtfgfhplgnfbaaaaDoorYD
import Derived.Test.YtfgfhplgnfbaaaaDoorCards
import Derived.Test.YtfgfhplgnfbaaaaDoorTie
namespace Go.Proofs.YtfgfhplgnfbaaaaDoor
open Go Go.Ev
section
variable {N : Nat} {cls : List (List Int)} {gs : List Int} (hN : N ≤ 30) (hc : ∀ l ∈ cls, Cv (Int.ofNat N) l) (hg : Lv (Int.ofNat N) gs)
include hN hc hg
omit hN hc hg in
theorem cv_nz {l : List Int} (h : Cv (Int.ofNat N) l) : ∀ x ∈ l, x ≠ 0 := fun x hx => (h.2 x hx).1.1
theorem search_spec : ∀ (d : Nat) {ds : List Int} {left : Nat}, Dcs N cls gs ds → N + 1 ≤ ds.length + d → Spec N cls gs ds (searchF N (cls.map sideN) gs d ds left) := by
  intro d
  induction d with
  | zero => intro ds left D hd; have := D.len; omega
  | succ d ih =>
    intro ds left D hd
    cases left with
    | zero => exact ⟨.inr (.inr rfl), fun l hl => (by cases hl), rfl, fun h => (by cases h), fun h => (by cases h), fun h => by cases h⟩
    | succ left =>
      unfold searchF
      split
      · rename_i hq; exact leaf_spec hN hc hg D hq
      · rename_i hq
        have hq : (fromN (cls.map sideN) (gs ++ ds)).2 = true := by simpa using hq
        split
        · rename_i hf; exact found_spec hN hc hg D hq hf
        · rename_i hf
          obtain ⟨hk, hw, hx⟩ := low_der hN hc hg D hq rfl hf
          have lits := Dcs.lit hg D
          generalize fromN (cls.map sideN) (gs ++ ds) = R at *
          obtain ⟨⟨y, m⟩, fq⟩ := R
          simp only at hk hw hx hf ⊢
          generalize lowF (freeM N y m) = k at *
          have Dn := Dcs.more hN hc hg D hk hw hx (x := -Int.ofNat (k + 1)) (by simp only [Int.ofNat_eq_natCast]; omega)
          have Dp := Dcs.more hN hc hg D hk hw hx (x := Int.ofNat (k + 1)) (by simp only [Int.ofNat_eq_natCast]; omega)
          have S1 := ih (left := left) Dn (by simp; omega)
          have S2 := ih (left := (searchF N (cls.map sideN) gs d (ds ++ [-Int.ofNat (k + 1)]) left).left) Dp (by simp; omega)
          generalize searchF N (cls.map sideN) gs d (ds ++ [-Int.ofNat (k + 1)]) left = s at *
          generalize searchF N (cls.map sideN) gs d (ds ++ [Int.ofNat (k + 1)]) s.left = t at *
          -- truths of a model, with the variable or without it
          have split_ : ∀ m', (∀ x ∈ gs ++ ds, isB m' x = true) → m'.testBit k = false → ∀ x ∈ gs ++ (ds ++ [-Int.ofNat (k + 1)]), isB m' x = true := fun m' h1 h2 x hx => by
            rcases List.mem_append.1 hx with h | h
            · exact h1 x (List.mem_append_left _ h)
            · rcases List.mem_append.1 h with h | h
              · exact h1 x (List.mem_append_right _ h)
              · rw [List.mem_singleton] at h; subst h; rw [isB_of_neg, h2]; rfl
          have split2 : ∀ m', (∀ x ∈ gs ++ ds, isB m' x = true) → m'.testBit k = true → ∀ x ∈ gs ++ (ds ++ [Int.ofNat (k + 1)]), isB m' x = true := fun m' h1 h2 x hx => by
            rcases List.mem_append.1 hx with h | h
            · exact h1 x (List.mem_append_left _ h)
            · rcases List.mem_append.1 h with h | h
              · exact h1 x (List.mem_append_right _ h)
              · rw [List.mem_singleton] at h; subst h; rw [isB_pos, h2]
          have back : ∀ {z : Int} {a : Nat}, (∀ x ∈ gs ++ (ds ++ [z]), isB a x = true) → ∀ x ∈ gs ++ ds, isB a x = true := fun {z a} h x hx => by
            rcases List.mem_append.1 hx with h' | h'
            · exact h x (List.mem_append_left _ h')
            · exact h x (List.mem_append_right _ (List.mem_append_left _ h'))
          split
          · rename_i he
            -- the first branch is enough
            refine ⟨S1.how, S1.good, S1.rup, fun h1 => ?_, S1.ful, fun h0 => ?_⟩
            · obtain ⟨c1, c2, c3⟩ := S1.clo h1
              refine ⟨c1, fun x hx => ?_, c3⟩
              have hv : Int.ofNat (k + 1) ∉ s.c := by
                rcases he with he | he
                · exact absurd h1 he
                · exact he
              rcases List.mem_append.1 (c2 x hx) with h | h
              · exact h
              · rw [List.mem_singleton] at h
                exact absurd (by rw [show Int.ofNat (k + 1) = x by omega]; exact hx) hv
            · obtain ⟨f1, f2, f3⟩ := S1.fnd h0
              refine ⟨back f1, f2, fun m' h1 h2 => ?_⟩
              cases hb : m'.testBit k with
              | false => exact f3 m' (split_ m' h1 hb) h2
              | true =>
                have yk : s.y.testBit k = false := by
                  have := f1 (-Int.ofNat (k + 1)) (List.mem_append_right _ (List.mem_append_right _ (by simp)))
                  rw [isB_of_neg] at this; simpa using this
                refine .inr ⟨k, hk, yk, hb, fun j hj => ?_⟩
                have nz := nz_cls hN hc hg
                have dy := fun {z : Int} (h : Der cls (gs ++ ds) z) => der_true nz (fun x hx => (lits x hx).1) f2 (back f1) h
                have dm := fun {z : Int} (h : Der cls (gs ++ ds) z) => der_true nz (fun x hx => (lits x hx).1) h2 h1 h
                rcases hw (Int.ofNat (j + 1)) (by simp only [Int.ofNat_eq_natCast]; omega) (by simp only [Int.ofNat_eq_natCast]; omega) with h | h
                · have a := dy h; have b := dm h
                  rw [isB_pos] at a b; rw [a, b]
                · have a := dy h; have b := dm h
                  rw [isB_of_neg, Bool.not_eq_true'] at a b; rw [a, b]
          · rename_i he
            have h1 : s.how = 1 := Decidable.byContradiction fun h => he (.inl h)
            have hv : Int.ofNat (k + 1) ∈ s.c := Decidable.byContradiction fun h => he (.inr h)
            obtain ⟨c1, c2, L1, c3⟩ := S1.clo h1
            have gcls := good_of hc
            have gl1 := good_of S1.good
            have gall : Good (cls ++ s.lines) := fun l hl => by
              rcases List.mem_append.1 hl with h | h
              · exact gcls l h
              · exact gl1 l h
            have glit : ∀ x ∈ gs, Lit x := fun x hx => (hg x hx).1
            have rup2 : accF gs cls (s.lines ++ t.lines) 0 = none := accF_append S1.rup (accF_mono (fun _ h => h) glit gcls gall (good_of S2.good) (fun l h => List.mem_append_left _ h) S2.rup)
            have good2 : ∀ l ∈ s.lines ++ t.lines, Cv (Int.ofNat N) l := fun l hl => by
              rcases List.mem_append.1 hl with h | h
              · exact S1.good l h
              · exact S2.good l h
            split
            · rename_i he2
              refine ⟨S2.how, good2, rup2, fun h2 => ?_, S2.ful, fun h0 => ?_⟩
              · obtain ⟨e1, e2, L2, e3⟩ := S2.clo h2
                refine ⟨e1, fun x hx => ?_, s.lines ++ L2, by show s.lines ++ t.lines = _; rw [e3]; simp⟩
                have hv : -Int.ofNat (k + 1) ∉ t.c := by
                  rcases he2 with he2 | he2
                  · exact absurd h2 he2
                  · exact he2
                rcases List.mem_append.1 (e2 x hx) with h | h
                · exact h
                · rw [List.mem_singleton] at h
                  exact absurd (by rw [show -Int.ofNat (k + 1) = x by omega]; exact hx) hv
              · obtain ⟨f1, f2, f3⟩ := S2.fnd h0
                refine ⟨back f1, f2, fun m' g1 g2 => ?_⟩
                cases hb : m'.testBit k with
                | true => exact f3 m' (split2 m' g1 hb) g2
                | false =>
                  exfalso
                  have tr := accF_true (fun x hx => ⟨glit x hx, g1 x (List.mem_append_left _ hx)⟩) gcls gl1 S1.rup g2 s.c (by rw [c3]; simp)
                  obtain ⟨x, hx, hxt⟩ := List.any_eq_true.1 tr
                  have h3 := split_ m' g1 hb (-x) (List.mem_append_right _ (c2 x hx))
                  rw [isB_neg (cv_nz c1 x hx), hxt] at h3
                  cases h3
            · rename_i he2
              have h2 : t.how = 1 := Decidable.byContradiction fun h => he2 (.inl h)
              have hv2 : -Int.ofNat (k + 1) ∈ t.c := Decidable.byContradiction fun h => he2 (.inr h)
              obtain ⟨e1, e2, L2, e3⟩ := S2.clo h2
              obtain ⟨r1, r2, r3⟩ := res_line hN hc hg D (v := Int.ofNat (k + 1)) (by simp only [Int.ofNat_eq_natCast]; omega) (by simp only [Int.ofNat_eq_natCast]; omega) (fun x h => by have := hx x h; simp only [Int.ofNat_eq_natCast]; omega) c1 e1 c2 e2 hv hv2 (ls := s.lines ++ t.lines) (by rw [c3]; simp) (by rw [e3]; simp) good2
              refine ⟨.inr (.inl rfl), fun l hl => ?_, accF_append rup2 r3, fun _ => ⟨r1, r2, _, rfl⟩, fun h => (by cases h), fun h => by cases h⟩
              rcases List.mem_append.1 hl with h | h
              · exact good2 l h
              · rw [List.mem_singleton] at h; subst h; exact r1
omit hN hc hg in
theorem pow_step {N n : Nat} (h : n + 1 ≤ N) : 2 ^ (N + 1 - n) = 2 * 2 ^ (N + 1 - (n + 1)) := by
  rw [show N + 1 - n = (N + 1 - (n + 1)) + 1 by omega, Nat.pow_succ]; omega
/-- A small tree is gone through. -/
theorem search_small : ∀ (d : Nat) {ds : List Int} {left : Nat}, Dcs N cls gs ds → N + 1 ≤ ds.length + d → 2 ^ (N + 1 - ds.length) - 1 ≤ left → (searchF N (cls.map sideN) gs d ds left).how ≠ 2 ∧ left ≤ (searchF N (cls.map sideN) gs d ds left).left + (2 ^ (N + 1 - ds.length) - 1) := by
  intro d
  induction d with
  | zero => intro ds left D hd; have := D.len; omega
  | succ d ih =>
    intro ds left D hd hl
    have hlen := D.len
    have two : 2 ^ 1 ≤ 2 ^ (N + 1 - ds.length) := Nat.pow_le_pow_right (by decide) (by omega)
    cases left with
    | zero => omega
    | succ left =>
      unfold searchF
      split
      · exact ⟨(by show (1 : Int) ≠ 2; decide), by simp only; omega⟩
      · rename_i hq
        have hq : (fromN (cls.map sideN) (gs ++ ds)).2 = true := by simpa using hq
        split
        · exact ⟨(by show (0 : Int) ≠ 2; decide), by simp only; omega⟩
        · rename_i hf
          obtain ⟨hk, hw, hx⟩ := low_der hN hc hg D hq rfl hf
          generalize fromN (cls.map sideN) (gs ++ ds) = R at *
          obtain ⟨⟨y, m⟩, fq⟩ := R
          simp only at hk hw hx hf ⊢
          generalize lowF (freeM N y m) = k at *
          have Dn := Dcs.more hN hc hg D hk hw hx (x := -Int.ofNat (k + 1)) (by simp only [Int.ofNat_eq_natCast]; omega)
          have Dp := Dcs.more hN hc hg D hk hw hx (x := Int.ofNat (k + 1)) (by simp only [Int.ofNat_eq_natCast]; omega)
          have dn := Dn.len
          simp only [List.length_append, List.length_singleton] at dn
          have ps := pow_step dn
          have S1 := ih (left := left) Dn (by simp; omega) (by simp only [List.length_append, List.length_singleton]; omega)
          have S2 := ih (left := (searchF N (cls.map sideN) gs d (ds ++ [-Int.ofNat (k + 1)]) left).left) Dp (by simp; omega)
          generalize searchF N (cls.map sideN) gs d (ds ++ [-Int.ofNat (k + 1)]) left = s at *
          generalize searchF N (cls.map sideN) gs d (ds ++ [Int.ofNat (k + 1)]) s.left = t at *
          simp only [List.length_append, List.length_singleton] at S1 S2
          have S2 := S2 (by omega)
          split
          · exact ⟨S1.1, by omega⟩
          · split
            · exact ⟨S2.1, by simp only; omega⟩
            · exact ⟨(by show (1 : Int) ≠ 2; decide), by simp only; omega⟩
end
end Go.Proofs.YtfgfhplgnfbaaaaDoor
/- What Model and Prove return: the first of all models, or a proof. -/
namespace Go.Proofs.YtfgfhplgnfbaaaaDoor
open Go Go.Ev
theorem filter_head {f : Nat → Nat} {p : Nat → Bool} : ∀ {n k : Nat}, k < n → p (f k) = true → (∀ j, j < k → p (f j) = false) → ∃ rest, ((List.range n).map f).filter p = f k :: rest := by
  intro n
  induction n with
  | zero => intro k hk; omega
  | succ n ih =>
    intro k hk hp hj
    rw [List.range_succ, List.map_append, List.filter_append]
    rcases Nat.lt_or_ge k n with h | h
    · obtain ⟨rest, e⟩ := ih h hp hj
      rw [e]; exact ⟨_, rfl⟩
    · obtain rfl : k = n := by omega
      have : ((List.range k).map f).filter p = [] := by
        rw [List.filter_eq_nil_iff]
        intro x hx
        obtain ⟨j, hj', rfl⟩ := List.mem_map.1 hx
        rw [hj j (List.mem_range.1 hj')]; decide
      rw [this]
      exact ⟨[], by simp [hp]⟩
theorem lt_of_bit {a b i : Nat} (ha : a.testBit i = false) (hb : b.testBit i = true) (h : ∀ j, i < j → a.testBit j = b.testBit j) : a < b := by
  have e : a / 2 ^ (i + 1) = b / 2 ^ (i + 1) := Nat.eq_of_testBit_eq fun j => by
    rw [Nat.testBit_div_two_pow, Nat.testBit_div_two_pow]; exact h _ (by omega)
  have ha' : a / 2 ^ i % 2 = 0 := by
    have := Nat.testBit_eq_decide_div_mod_eq (x := a) (i := i); rw [ha] at this
    have : ¬ a / 2 ^ i % 2 = 1 := by simpa using this.symm
    omega
  have hb' : b / 2 ^ i % 2 = 1 := by
    have := Nat.testBit_eq_decide_div_mod_eq (x := b) (i := i); rw [hb] at this
    simpa using this.symm
  rw [Nat.pow_succ, ← Nat.div_div_eq_div_mul, ← Nat.div_div_eq_div_mul] at e
  have h1 : a / 2 ^ i < b / 2 ^ i := by omega
  exact Nat.lt_of_not_le fun hle => by
    have := Nat.div_le_div_right (c := 2 ^ i) hle
    omega
/-- A clause's truth is that of its variables. -/
theorem isB_same {N a b : Nat} (h : ∀ i, i < N → a.testBit i = b.testBit i) {x : Int} (h0 : x ≠ 0) (hx : (x.natAbs : Int) ≤ Int.ofNat N) : isB a x = isB b x := by
  unfold isB
  simp only [Int.ofNat_eq_natCast] at hx
  rw [h (x.natAbs - 1) (by omega)]
theorem satM_same {N a b : Nat} {cls : List (List Int)} {gs : List Int} (hc : ∀ l ∈ cls, Cv (Int.ofNat N) l) (hg : Lv (Int.ofNat N) gs) (h : ∀ i, i < N → a.testBit i = b.testBit i) (hs : satM cls gs a = true) : satM cls gs b = true := by
  unfold satM at hs ⊢
  rw [Bool.and_eq_true, List.all_eq_true, List.all_eq_true] at hs ⊢
  refine ⟨fun x hx => ?_, fun l hl => ?_⟩
  · rw [← isB_same h (hg x hx).1.1 (hg x hx).2]; exact hs.1 x hx
  · obtain ⟨x, hx, hxt⟩ := List.any_eq_true.1 (hs.2 l hl)
    exact List.any_eq_true.2 ⟨x, hx, by rw [← isB_same h ((hc l hl).2 x hx).1.1 ((hc l hl).2 x hx).2]; exact hxt⟩
theorem modelsN_head {N y : Nat} {cls : List (List Int)} {gs : List Int} (hc : ∀ l ∈ cls, Cv (Int.ofNat N) l) (hg : Lv (Int.ofNat N) gs) (hy : satM cls gs y = true) (hf : ∀ m', satM cls gs m' = true → (∀ i, i < N → y.testBit i = m'.testBit i) ∨ LexLt N y m') :
    ∃ m rest, modelsN N cls gs = m :: rest ∧ ∀ i, i < N → m.testBit i = y.testBit i := by
  have hb : ∀ i, i < N → (bitsF N (bitsF N y N) N).testBit i = y.testBit i := fun i hi => by
    rw [bitsF_bit N _ N i hi, bitsF_bit N _ N _ (by omega), show N - 1 - (N - 1 - i) = i by omega]
  have hk := bitsF_lt N y N
  obtain ⟨rest, e⟩ := filter_head (f := fun k => bitsF N k N) (p := satM cls gs) hk (satM_same hc hg (fun i hi => (hb i hi).symm) hy) fun j hj => by
    cases hs : satM cls gs (bitsF N j N) with
    | false => rfl
    | true =>
      exfalso
      have hjN : j < 2 ^ N := Nat.lt_trans hj hk
      have high : ∀ {x : Nat}, x < 2 ^ N → ∀ i, N ≤ i → x.testBit i = false := fun {x} hx i hi => Nat.testBit_lt_two_pow (Nat.lt_of_lt_of_le hx (Nat.pow_le_pow_right (by decide) hi))
      rcases hf _ hs with h | ⟨i, hi, h1, h2, h3⟩
      · have : j = bitsF N y N := Nat.eq_of_testBit_eq fun i => by
          rcases Nat.lt_or_ge i N with hi | hi
          · have := h (N - 1 - i) (by omega)
            rw [bitsF_bit N _ N _ (by omega), show N - 1 - (N - 1 - i) = i by omega] at this
            rw [bitsF_bit N _ N _ hi, this]
          · rw [high hjN i hi, high hk i hi]
        omega
      · have hlt : bitsF N y N < j := by
          refine lt_of_bit (i := N - 1 - i) ?_ ?_ fun q hq => ?_
          · rw [bitsF_bit N _ N _ (by omega), show N - 1 - (N - 1 - i) = i by omega]; exact h1
          · rw [bitsF_bit N _ N _ hi] at h2; exact h2
          · rcases Nat.lt_or_ge q N with hqN | hqN
            · have := h3 (N - 1 - q) (by omega)
              rw [bitsF_bit N _ N _ (by omega), show N - 1 - (N - 1 - q) = q by omega] at this
              rw [bitsF_bit N _ N _ hqN, this]
            · rw [high hjN q hqN, high hk q hqN]
        omega
  exact ⟨_, rest, e, hb⟩
section
variable {N : Nat} {cls : List (List Int)} {gs : List Int} (hN : N ≤ 30) (hc : ∀ l ∈ cls, Cv (Int.ofNat N) l) (hg : Lv (Int.ofNat N) gs)
include hN hc hg
/-- A small formula: the first of all models, or a proof. -/
theorem solve_small (h8 : N ≤ 8) : ((solF N cls gs).how = 0 ∧ (∀ i, ((solF N cls gs).y ||| (solF N cls gs).m).testBit i = decide (i < N)) ∧ (solF N cls gs).y &&& (solF N cls gs).m = 0 ∧ ∃ m rest, modelsN N cls gs = m :: rest ∧ ∀ i, i < N → m.testBit i = (solF N cls gs).y.testBit i) ∨
    ((solF N cls gs).how = 1 ∧ modelsN N cls gs = [] ∧ (∀ l ∈ (solF N cls gs).lines, Cv (Int.ofNat N) l) ∧ accF gs cls (solF N cls gs).lines 0 = none ∧ (solF N cls gs).lines.length ≤ 2000 ∧ ∃ L, (solF N cls gs).lines = L ++ [[]]) := by
  have S := search_spec hN hc hg (N + 1) (ds := []) (left := 2000) dcs_nil (by simp)
  have p9 : 2 ^ (N + 1) ≤ 2 ^ 9 := Nat.pow_le_pow_right (by decide) (by omega)
  have T := search_small hN hc hg (N + 1) (ds := []) (left := 2000) dcs_nil (by simp) (by simp only [List.length_nil, Nat.sub_zero]; omega)
  have K := searchF_ok (dec_ok hN hc hg) hN (N + 1) (ds := []) (left := 2000) dcs_nil
  unfold solF
  generalize searchF N (cls.map sideN) gs (N + 1) [] 2000 = s at *
  rcases S.how with h | h | h
  · left
    obtain ⟨f1, f2, f3⟩ := S.fnd h
    rw [List.append_nil] at f1 f3
    refine ⟨h, (S.ful h).1, (S.ful h).2, modelsN_head hc hg ?_ fun m' hm => ?_⟩
    · unfold satM; rw [Bool.and_eq_true, List.all_eq_true, List.all_eq_true]; exact ⟨f1, f2⟩
    · unfold satM at hm; rw [Bool.and_eq_true, List.all_eq_true, List.all_eq_true] at hm; exact f3 m' hm.1 hm.2
  · right
    obtain ⟨c1, c2, L, c3⟩ := S.clo h
    have hce : s.c = [] := by
      cases hs : s.c with
      | nil => rfl
      | cons x xs => have := c2 x (by rw [hs]; simp); cases this
    rw [hce] at c3
    exact ⟨h, sound (good_of hc) (good_of S.good) (fun x hx => (hg x hx).1) S.rup (by rw [c3]; simp) N, S.good, S.rup, by omega, L, c3⟩
  · exact absurd h T.1
end
end Go.Proofs.YtfgfhplgnfbaaaaDoor
/- Conditions of functions' code, printed by a program of ours. -/
namespace Go.Proofs.YtfgfhplgnfbaaaaDoor
open Go Go.Ev
set_option maxRecDepth 100000
set_option linter.unusedVariables false
/-! sward/swardlaw20.SatNames$1 -/
noncomputable def b18 : Code := (Tryd.f18.body).getD .skip
def T18 (O : CallF) (Q : Value → Hp → Prop) (x0 : Int) (b1 : Nat) (f1 : Nat) (b2 : Nat) (f2 : Nat) (h : Hp) : Prop :=
  ∃ a1' n2' c3', readAt h b1 f1 1 = some [(.slice a1' n2' c3')] ∧
  isNat (wrapF .i64 ((maxI x0 (wrapF .i64 (0 - x0))) - 1)) fun n4' =>
  isAddr a1' fun b5' f6' =>
  vreq (Nat.blt n4' n2')
  (∃ x7', readAt h b5' (f6' + (n4' * 1)) 1 = some [(.int .i64 x7')] ∧
  ∃ x8', readAt h b2 f2 1 = some [(.int .u8 x8')] ∧
  vreq (le0 (wrapF .i64 ((maxI x0 (wrapF .i64 (0 - x0))) - 1)))
  (vreq (inD 256 (shrF .u8 x8' (Int.toNat (wrapF .i64 ((maxI x0 (wrapF .i64 (0 - x0))) - 1)))))
  (vcond (!eqB (ltI x0 0) (eqI (landI (shrF .u8 x8' (Int.toNat (wrapF .i64 ((maxI x0 (wrapF .i64 (0 - x0))) - 1)))) 1) 1))
  (Q (.int .i64 (wrapF .i64 (0 - x7'))) h)
  (Q (.int .i64 x7') h))))
/-! sward/sat.Core -/
noncomputable def b25 : Code := (Tryd.f25.body).getD .skip
def lv25 : List (Nat × List Nat) := []
def T25 (O : CallF) (Q : Value → Hp → Prop) (x0_0 : Int) (a0_1 : Option Addr) (n0_1 : Nat) (c0_1 : Nat) (a1 : Option Addr) (n1 : Nat) (c1 : Nat) (h : Hp) : Prop :=
  let g1 : Hp := h.add (.cells [(.int .i64 x0_0), (.slice a0_1 n0_1 c0_1)] 30 .fix)
  let g2 : Hp := g1.add (.cells [(.slice a1 n1 c1)] 32 .fix)
  ∃ x3', ∃ a4' n5' c6', readAt g2 h.nx 0 2 = some [(.int .i64 x3'), (.slice a4' n5' c6')] ∧
  ∃ a7' n8' c9', readAt g2 g1.nx 0 1 = some [(.slice a7' n8' c9')] ∧
  ∃ x10', ∃ h11', EvC Tryd.prog O 78 [(.agg #[(.int .i64 x3'), (.slice a4' n5' c6')]), (.slice a7' n8' c9')] g2 (.int .i64 x10') h11' ∧
  vcond (!(eqI x10' 0))
  (Q (.tuple #[(.slice none 0 0), (.int .i64 x10')]) h11')
  (∃ a12' n13' c14', readAt h11' h.nx 1 1 = some [(.slice a12' n13' c14')] ∧
  ∃ a15' n16' c17', ∃ x18', ∃ h19', EvC Tryd.prog O 82 [(.int .i64 (Int.ofNat n13')), (.func (.func 83) #[] #[(.pointer (some ⟨h.nx, 0, none⟩)), (.pointer (some ⟨g1.nx, 0, none⟩))])] h11' (.tuple #[(.slice a15' n16' c17'), (.int .i64 x18')]) h19' ∧
  Q (.tuple #[(.slice a15' n16' c17'), (.int .i64 x18')]) h19')
theorem rk25 {O Q} (x0_0 a0_1 n0_1 c0_1 a1 n1 c1) {h : Hp} (hO : O 25 [(.agg #[(.int .i64 x0_0), (.slice a0_1 n0_1 c0_1)]), (.slice a1 n1 c1)] h = none) (hh : T25 O Q x0_0 a0_1 n0_1 c0_1 a1 n1 c1 h) : Ret Tryd.prog O 25 [(.agg #[(.int .i64 x0_0), (.slice a0_1 n0_1 c0_1)]), (.slice a1 n1 c1)] h Q :=
  .of (c := b25) Tryd.func25 (by kernel_rfl) hO (V_ok (tb := lv25) (cuts := []) 500 (Eq.mp (by kernel_rfl) hh))
/-! sward/sat.Blame -/
noncomputable def b51 : Code := (Tryd.f51.body).getD .skip
def lv51 : List (Nat × List Nat) := []
def T51 (O : CallF) (Q : Value → Hp → Prop) (x0_0 : Int) (a0_1 : Option Addr) (n0_1 : Nat) (c0_1 : Nat) (a1 : Option Addr) (n1 : Nat) (c1 : Nat) (h : Hp) : Prop :=
  let g1 : Hp := h.add (.cells [(.int .i64 x0_0), (.slice a0_1 n0_1 c0_1)] 30 .fix)
  let g2 : Hp := g1.add (.cells [(.slice a1 n1 c1)] 32 .fix)
  ∃ x3', ∃ a4' n5' c6', readAt g2 h.nx 0 2 = some [(.int .i64 x3'), (.slice a4' n5' c6')] ∧
  ∃ a7' n8' c9', readAt g2 g1.nx 0 1 = some [(.slice a7' n8' c9')] ∧
  ∃ x10', ∃ h11', EvC Tryd.prog O 78 [(.agg #[(.int .i64 x3'), (.slice a4' n5' c6')]), (.slice a7' n8' c9')] g2 (.int .i64 x10') h11' ∧
  vcond (!(eqI x10' 0))
  (Q (.tuple #[(.slice none 0 0), (.int .i64 x10')]) h11')
  (let g12 : Hp := h11'.add (.cells [.nilFunc] 79 .fix)
  vreq (canW g12 h11'.nx 0 [(.func (.func 108) #[] #[(.pointer (some ⟨g1.nx, 0, none⟩))])])
  (let g13 : Hp := g12.wr h11'.nx 0 [(.func (.func 108) #[] #[(.pointer (some ⟨g1.nx, 0, none⟩))])]
  ∃ a14' n15' c16', readAt g13 g1.nx 0 1 = some [(.slice a14' n15' c16')] ∧
  ∃ a17' n18' c19', ∃ x20', ∃ h21', EvC Tryd.prog O 82 [(.int .i64 (Int.ofNat n15')), (.func (.func 109) #[] #[(.pointer (some ⟨h.nx, 0, none⟩)), (.pointer (some ⟨h11'.nx, 0, none⟩))])] g13 (.tuple #[(.slice a17' n18' c19'), (.int .i64 x20')]) h21' ∧
  ∃ v22', readAt h21' h11'.nx 0 1 = some [v22'] ∧
  isFn v22' fun g23' r24' r25' =>
  ∃ a26' n27' c28', ∃ h29', EvC Tryd.prog O g23' (r24' ++ [(.slice a17' n18' c19')] ++ r25') h21' (.slice a26' n27' c28') h29' ∧
  Q (.tuple #[(.slice a26' n27' c28'), (.int .i64 x20')]) h29'))
theorem rk51 {O Q} (x0_0 a0_1 n0_1 c0_1 a1 n1 c1) {h : Hp} (hO : O 51 [(.agg #[(.int .i64 x0_0), (.slice a0_1 n0_1 c0_1)]), (.slice a1 n1 c1)] h = none) (hh : T51 O Q x0_0 a0_1 n0_1 c0_1 a1 n1 c1 h) : Ret Tryd.prog O 51 [(.agg #[(.int .i64 x0_0), (.slice a0_1 n0_1 c0_1)]), (.slice a1 n1 c1)] h Q :=
  .of (c := b51) Tryd.func51 (by kernel_rfl) hO (V_ok (tb := lv51) (cuts := []) 500 (Eq.mp (by kernel_rfl) hh))
/-! sward/swardlaw20.SatMinimal$1 -/
noncomputable def b58 : Code := (Tryd.f58.body).getD .skip
noncomputable def stk58_0 : List KI := [.code (sub [1, 1, 0, 1, 0] b58), .blk 0, .code (sub [1, 1, 1] b58)]
def lv58 : List (Nat × List Nat) := [(0, [1, 3, 4, 7, 8, 9])]
def I58_0 (O : CallF) (Q : Value → Hp → Prop) (a0 : Option Addr) (n0 : Nat) (c0 : Nat) (b1 : Nat) (f1 : Nat) (a4 : Option Addr) (n4 : Nat) (c4 : Nat) (x9 : Int) (h : Hp) : Prop := RKL Tryd.prog O Tryd.f58 stk58_0 23 [1, 3, 4, 7, 8, 9] [(.pointer (some ⟨b1, f1, none⟩)), (.slice none 0 0), (.slice a4 n4 c4), (.slice a0 n0 c0), (.int .i64 (Int.ofNat n0)), (.int .i64 x9)] h Q
def T58 (O : CallF) (Q : Value → Hp → Prop) (a0 : Option Addr) (n0 : Nat) (c0 : Nat) (b1 : Nat) (f1 : Nat) (h : Hp) : Prop :=
  I58_0 O Q a0 n0 c0 b1 f1 none 0 0 0 h
theorem rk58 {O Q} (a0 n0 c0 b1 f1) {h : Hp} (hO : O 58 [(.slice a0 n0 c0), (.pointer (some ⟨b1, f1, none⟩))] h = none) (hh : T58 O Q a0 n0 c0 b1 f1 h) : Ret Tryd.prog O 58 [(.slice a0 n0 c0), (.pointer (some ⟨b1, f1, none⟩))] h Q :=
  .of (c := b58) Tryd.func58 (by kernel_rfl) hO (V_ok (tb := lv58) (cuts := []) 500 (Eq.mp (by kernel_rfl) hh))
def T58_0 (O : CallF) (Q : Value → Hp → Prop) (a0 : Option Addr) (n0 : Nat) (c0 : Nat) (b1 : Nat) (f1 : Nat) (a4 : Option Addr) (n4 : Nat) (c4 : Nat) (x9 : Int) (h : Hp) : Prop :=
  vcond (ltI x9 (Int.ofNat n0))
  (isNat x9 fun n101' =>
  isAddr a0 fun b102' f103' =>
  vreq (Nat.blt n101' n0)
  (∃ x104', readAt h b102' (f103' + (n101' * 1)) 1 = some [(.int .i64 x104')] ∧
  ∃ a105' n106' c107', readAt h b1 (f1 + 1) 1 = some [(.slice a105' n106' c107')] ∧
  isNat x104' fun n108' =>
  isAddr a105' fun b109' f110' =>
  vreq (Nat.blt n108' n106')
  (∃ a111' n112' c113', readAt h b109' (f110' + (n108' * 1)) 1 = some [(.slice a111' n112' c113')] ∧
  let g114 : Hp := h.add (.cells [(.slice a111' n112' c113')] 32 .fix)
  ∃ a115' n116' c117' h118', appendV Tryd.prog g114 28 28 (.slice a4 n4 c4) (.slice (some ⟨h.nx, 0, none⟩) 1 1) = some (.slice a115' n116' c117', h118') ∧
  I58_0 O Q a0 n0 c0 b1 f1 a115' n116' c117' (wrapF .i64 (x9 + 1)) h118')))
  (Q (.slice a4 n4 c4) h)
theorem I58_0.of {O Q} (a0 n0 c0 b1 f1 a4 n4 c4 x9) {h : Hp} (hh : T58_0 O Q a0 n0 c0 b1 f1 a4 n4 c4 x9 h) : I58_0 O Q a0 n0 c0 b1 f1 a4 n4 c4 x9 h :=
  RKL.of (tb := lv58) (cuts := []) 500 fun _ => Eq.mp (by kernel_rfl) hh
/-! sward/sat.blamed -/
noncomputable def b82 : Code := (Tryd.f82.body).getD .skip
noncomputable def stk82_0 : List KI := [.code (sub [1, 1, 0, 1, 0] b82), .blk 0, .code (sub [1, 1, 1] b82)]
noncomputable def stk82_1 : List KI := [.code (sub [1, 1, 1, 1, 0, 1, 0] b82), .blk 3, .code (sub [1, 1, 1, 1, 1] b82)]
def lv82 : List (Nat × List Nat) := [(0, [0, 1, 4, 5, 6, 10, 11]), (3, [1, 4, 5, 6, 8])]
def I82_0 (O : CallF) (Q : Value → Hp → Prop) (x0 : Int) (g1 : Nat) (fi1 : Array Value) (ca1 : Array Value) (g1s : Nat) (fi1s : Array Value) (ca1s : Array Value) (a6 : Option Addr) (n6 : Nat) (c6 : Nat) (x11 : Int) (h : Hp) : Prop := RKL Tryd.prog O Tryd.f82 stk82_0 47 [0, 1, 4, 5, 6, 10, 11] [(.int .i64 x0), (.func (.func g1s) fi1s ca1s), (.slice none 0 0), (.int .i64 0), (.slice a6 n6 c6), (.int .i64 x0), (.int .i64 x11)] h Q
def I82_1 (O : CallF) (Q : Value → Hp → Prop) (x0 : Int) (g1 : Nat) (fi1 : Array Value) (ca1 : Array Value) (g1s : Nat) (fi1s : Array Value) (ca1s : Array Value) (a4 : Option Addr) (n4 : Nat) (c4 : Nat) (x5 : Int) (a6 : Option Addr) (n6 : Nat) (c6 : Nat) (x8 : Int) (h : Hp) : Prop := RKL Tryd.prog O Tryd.f82 stk82_1 47 [1, 4, 5, 6, 8] [(.func (.func g1s) fi1s ca1s), (.slice a4 n4 c4), (.int .i64 x5), (.slice a6 n6 c6), (.int .i64 x8)] h Q
def T82 (O : CallF) (Q : Value → Hp → Prop) (x0 : Int) (g1 : Nat) (fi1 : Array Value) (ca1 : Array Value) (h : Hp) : Prop :=
  I82_0 O Q x0 g1 fi1 ca1 g1 fi1 ca1 none 0 0 0 h
theorem rk82 {O Q} (x0 g1 fi1 ca1) {h : Hp} (hO : O 82 [(.int .i64 x0), (.func (.func g1) fi1 ca1)] h = none) (hh : T82 O Q x0 g1 fi1 ca1 h) : Ret Tryd.prog O 82 [(.int .i64 x0), (.func (.func g1) fi1 ca1)] h Q :=
  .of (c := b82) Tryd.func82 (by kernel_rfl) hO (V_ok (tb := lv82) (cuts := []) 500 (Eq.mp (by kernel_rfl) hh))
def T82_0 (O : CallF) (Q : Value → Hp → Prop) (x0 : Int) (g1 : Nat) (fi1 : Array Value) (ca1 : Array Value) (g1s : Nat) (fi1s : Array Value) (ca1s : Array Value) (a6 : Option Addr) (n6 : Nat) (c6 : Nat) (x11 : Int) (h : Hp) : Prop :=
  vcond (ltI x11 x0)
  (let g101 : Hp := h.add (.cells [(.int .i64 x11)] 3 .fix)
  ∃ a102' n103' c104' h105', appendV Tryd.prog g101 32 32 (.slice a6 n6 c6) (.slice (some ⟨h.nx, 0, none⟩) 1 1) = some (.slice a102' n103' c104', h105') ∧
  I82_0 O Q x0 g1 fi1 ca1 g1s fi1s ca1s a102' n103' c104' (wrapF .i64 (x11 + 1)) h105')
  (∃ x106', ∃ h107', EvC Tryd.prog O g1s (fi1s.toList ++ [(.slice a6 n6 c6)] ++ ca1s.toList) h (.int .i64 x106') h107' ∧
  vcond (eqI x106' 0)
  (Q (.tuple #[(.slice none 0 0), (.int .i64 5)]) h107')
  (vcond (eqI x106' 2)
  (Q (.tuple #[(.slice none 0 0), (.int .i64 8)]) h107')
  (I82_1 O Q x0 g1 fi1 ca1 g1s fi1s ca1s none 0 0 0 a6 n6 c6 (wrapF .i64 (x0 - 1)) h107')))
theorem I82_0.of {O Q} (x0 g1 fi1 ca1 g1s fi1s ca1s a6 n6 c6 x11) {h : Hp} (hh : T82_0 O Q x0 g1 fi1 ca1 g1s fi1s ca1s a6 n6 c6 x11 h) : I82_0 O Q x0 g1 fi1 ca1 g1s fi1s ca1s a6 n6 c6 x11 h :=
  RKL.of (tb := lv82) (cuts := []) 500 fun _ => Eq.mp (by kernel_rfl) hh
def T82_1 (O : CallF) (Q : Value → Hp → Prop) (x0 : Int) (g1 : Nat) (fi1 : Array Value) (ca1 : Array Value) (g1s : Nat) (fi1s : Array Value) (ca1s : Array Value) (a4 : Option Addr) (n4 : Nat) (c4 : Nat) (x5 : Int) (a6 : Option Addr) (n6 : Nat) (c6 : Nat) (x8 : Int) (h : Hp) : Prop :=
  vcond (!(ltI x8 0))
  (∃ a201' n202' c203', ∃ h204', EvC Tryd.prog O 60 [(.slice a6 n6 c6)] h (.slice a201' n202' c203') h204' ∧
  ∃ a205' n206' c207', ∃ h208', EvC Tryd.prog O 59 [(.slice a201' n202' c203'), (.int .i64 x8), (.int .i64 (wrapF .i64 (x8 + 1)))] h204' (.slice a205' n206' c207') h208' ∧
  ∃ x209', ∃ h210', EvC Tryd.prog O g1s (fi1s.toList ++ [(.slice a205' n206' c207')] ++ ca1s.toList) h208' (.int .i64 x209') h210' ∧
  vcond (eqI x209' 1)
  (I82_1 O Q x0 g1 fi1 ca1 g1s fi1s ca1s a4 n4 c4 x5 a205' n206' c207' (wrapF .i64 (x8 - 1)) h210')
  (vcond (eqI x209' 2)
  (Q (.tuple #[(.slice none 0 0), (.int .i64 8)]) h210')
  (I82_1 O Q x0 g1 fi1 ca1 g1s fi1s ca1s a4 n4 c4 x5 a6 n6 c6 (wrapF .i64 (x8 - 1)) h210')))
  (Q (.tuple #[(.slice a6 n6 c6), (.int .i64 0)]) h)
theorem I82_1.of {O Q} (x0 g1 fi1 ca1 g1s fi1s ca1s a4 n4 c4 x5 a6 n6 c6 x8) {h : Hp} (hh : T82_1 O Q x0 g1 fi1 ca1 g1s fi1s ca1s a4 n4 c4 x5 a6 n6 c6 x8 h) : I82_1 O Q x0 g1 fi1 ca1 g1s fi1s ca1s a4 n4 c4 x5 a6 n6 c6 x8 h :=
  RKL.of (tb := lv82) (cuts := []) 500 fun _ => Eq.mp (by kernel_rfl) hh
/-! sward/sat.Core$1 -/
noncomputable def b83 : Code := (Tryd.f83.body).getD .skip
noncomputable def stk83_0 : List KI := [.code (sub [1, 1, 0, 1, 0] b83), .blk 0, .code (sub [1, 1, 1] b83)]
def lv83 : List (Nat × List Nat) := [(0, [1, 2, 4, 5, 14, 15, 16])]
def I83_0 (O : CallF) (Q : Value → Hp → Prop) (a0 : Option Addr) (n0 : Nat) (c0 : Nat) (b1 : Nat) (f1 : Nat) (b2 : Nat) (f2 : Nat) (b5 : Nat) (f5 : Nat) (x16 : Int) (h : Hp) : Prop := RKL Tryd.prog O Tryd.f83 stk83_0 39 [1, 2, 4, 5, 14, 15, 16] [(.pointer (some ⟨b1, f1, none⟩)), (.pointer (some ⟨b2, f2, none⟩)), (.int .i64 0), (.pointer (some ⟨b5, f5, none⟩)), (.slice a0 n0 c0), (.int .i64 (Int.ofNat n0)), (.int .i64 x16)] h Q
def T83 (O : CallF) (Q : Value → Hp → Prop) (a0 : Option Addr) (n0 : Nat) (c0 : Nat) (b1 : Nat) (f1 : Nat) (b2 : Nat) (f2 : Nat) (h : Hp) : Prop :=
  ∃ x1', readAt h b1 (f1 + 0) 1 = some [(.int .i64 x1')] ∧
  let g2 : Hp := h.add (.cells [(.int .i64 0), (.slice none 0 0)] 30 .fix)
  vreq (canW g2 h.nx 0 [(.int .i64 x1'), (.slice none 0 0)])
  (let g3 : Hp := g2.wr h.nx 0 [(.int .i64 x1'), (.slice none 0 0)]
  I83_0 O Q a0 n0 c0 b1 f1 b2 f2 h.nx 0 0 g3)
theorem rk83 {O Q} (a0 n0 c0 b1 f1 b2 f2) {h : Hp} (hO : O 83 [(.slice a0 n0 c0), (.pointer (some ⟨b1, f1, none⟩)), (.pointer (some ⟨b2, f2, none⟩))] h = none) (hh : T83 O Q a0 n0 c0 b1 f1 b2 f2 h) : Ret Tryd.prog O 83 [(.slice a0 n0 c0), (.pointer (some ⟨b1, f1, none⟩)), (.pointer (some ⟨b2, f2, none⟩))] h Q :=
  .of (c := b83) Tryd.func83 (by kernel_rfl) hO (V_ok (tb := lv83) (cuts := []) 500 (Eq.mp (by kernel_rfl) hh))
def T83_0 (O : CallF) (Q : Value → Hp → Prop) (a0 : Option Addr) (n0 : Nat) (c0 : Nat) (b1 : Nat) (f1 : Nat) (b2 : Nat) (f2 : Nat) (b5 : Nat) (f5 : Nat) (x16 : Int) (h : Hp) : Prop :=
  vcond (ltI x16 (Int.ofNat n0))
  (isNat x16 fun n101' =>
  isAddr a0 fun b102' f103' =>
  vreq (Nat.blt n101' n0)
  (∃ x104', readAt h b102' (f103' + (n101' * 1)) 1 = some [(.int .i64 x104')] ∧
  let g105 : Hp := h.rsv 11
  ∃ a106' n107' c108', readAt g105 b5 (f5 + 1) 1 = some [(.slice a106' n107' c108')] ∧
  ∃ a109' n110' c111', readAt g105 b1 (f1 + 1) 1 = some [(.slice a109' n110' c111')] ∧
  isNat x104' fun n112' =>
  isAddr a109' fun b113' f114' =>
  vreq (Nat.blt n112' n110')
  (∃ a115' n116' c117', readAt g105 b113' (f114' + (n112' * 1)) 1 = some [(.slice a115' n116' c117')] ∧
  vreq (g105.free (h.nx + 7))
  (let g118 : Hp := g105.lay (h.nx + 7) (.cells [(.slice a115' n116' c117')] 32 .fix)
  ∃ a119' n120' c121' h122', appendV Tryd.prog (g118.grd []) 28 28 (.slice a106' n107' c108') (.slice (some ⟨(h.nx + 7), 0, none⟩) 1 1) = some (.slice a119' n120' c121', h122') ∧
  let g123 : Hp := h122'.rst g118
  vreq (canW (g123.grd []) b5 (f5 + 1) [(.slice a119' n120' c121')])
  (let g124 : Hp := (g123.grd []).wr b5 (f5 + 1) [(.slice a119' n120' c121')]
  let g125 : Hp := g124.rst g123
  I83_0 O Q a0 n0 c0 b1 f1 b2 f2 b5 f5 (wrapF .i64 (x16 + 1)) g125)))))
  (∃ x126', ∃ a127' n128' c129', readAt h b5 f5 2 = some [(.int .i64 x126'), (.slice a127' n128' c129')] ∧
  ∃ a130' n131' c132', readAt h b2 f2 1 = some [(.slice a130' n131' c132')] ∧
  ∃ x133', ∃ x134', ∃ a135' n136' c137', ∃ x138', ∃ h139', EvC Tryd.prog O 79 [(.agg #[(.int .i64 x126'), (.slice a127' n128' c129')]), (.slice a130' n131' c132')] h (.tuple #[(.agg #[(.int .u32 x133'), (.int .u32 x134')]), (.slice a135' n136' c137'), (.int .i64 x138')]) h139' ∧
  let g140 : Hp := h139'.add (.cells [(.int .u32 0), (.int .u32 0)] 102 .fix)
  vreq (canW g140 h139'.nx 0 [(.int .u32 x133'), (.int .u32 x134')])
  (let g141 : Hp := g140.wr h139'.nx 0 [(.int .u32 x133'), (.int .u32 x134')]
  Q (.int .i64 x138') g141))
theorem I83_0.of {O Q} (a0 n0 c0 b1 f1 b2 f2 b5 f5 x16) {h : Hp} (hh : T83_0 O Q a0 n0 c0 b1 f1 b2 f2 b5 f5 x16 h) : I83_0 O Q a0 n0 c0 b1 f1 b2 f2 b5 f5 x16 h :=
  RKL.of (tb := lv83) (cuts := []) 500 fun _ => Eq.mp (by kernel_rfl) hh
/-! sward/sat.Blame$1 -/
noncomputable def b108 : Code := (Tryd.f108.body).getD .skip
noncomputable def stk108_0 : List KI := [.code (sub [1, 1, 0, 1, 0] b108), .blk 0, .code (sub [1, 1, 1] b108)]
def lv108 : List (Nat × List Nat) := [(0, [1, 3, 4, 7, 8, 9])]
def I108_0 (O : CallF) (Q : Value → Hp → Prop) (a0 : Option Addr) (n0 : Nat) (c0 : Nat) (b1 : Nat) (f1 : Nat) (a4 : Option Addr) (n4 : Nat) (c4 : Nat) (x9 : Int) (h : Hp) : Prop := RKL Tryd.prog O Tryd.f108 stk108_0 22 [1, 3, 4, 7, 8, 9] [(.pointer (some ⟨b1, f1, none⟩)), (.slice none 0 0), (.slice a4 n4 c4), (.slice a0 n0 c0), (.int .i64 (Int.ofNat n0)), (.int .i64 x9)] h Q
def T108 (O : CallF) (Q : Value → Hp → Prop) (a0 : Option Addr) (n0 : Nat) (c0 : Nat) (b1 : Nat) (f1 : Nat) (h : Hp) : Prop :=
  I108_0 O Q a0 n0 c0 b1 f1 none 0 0 0 h
theorem rk108 {O Q} (a0 n0 c0 b1 f1) {h : Hp} (hO : O 108 [(.slice a0 n0 c0), (.pointer (some ⟨b1, f1, none⟩))] h = none) (hh : T108 O Q a0 n0 c0 b1 f1 h) : Ret Tryd.prog O 108 [(.slice a0 n0 c0), (.pointer (some ⟨b1, f1, none⟩))] h Q :=
  .of (c := b108) Tryd.func108 (by kernel_rfl) hO (V_ok (tb := lv108) (cuts := []) 500 (Eq.mp (by kernel_rfl) hh))
def T108_0 (O : CallF) (Q : Value → Hp → Prop) (a0 : Option Addr) (n0 : Nat) (c0 : Nat) (b1 : Nat) (f1 : Nat) (a4 : Option Addr) (n4 : Nat) (c4 : Nat) (x9 : Int) (h : Hp) : Prop :=
  vcond (ltI x9 (Int.ofNat n0))
  (isNat x9 fun n101' =>
  isAddr a0 fun b102' f103' =>
  vreq (Nat.blt n101' n0)
  (∃ x104', readAt h b102' (f103' + (n101' * 1)) 1 = some [(.int .i64 x104')] ∧
  ∃ a105' n106' c107', readAt h b1 f1 1 = some [(.slice a105' n106' c107')] ∧
  isNat x104' fun n108' =>
  isAddr a105' fun b109' f110' =>
  vreq (Nat.blt n108' n106')
  (∃ x111', readAt h b109' (f110' + (n108' * 1)) 1 = some [(.int .i64 x111')] ∧
  let g112 : Hp := h.add (.cells [(.int .i64 x111')] 3 .fix)
  ∃ a113' n114' c115' h116', appendV Tryd.prog g112 32 32 (.slice a4 n4 c4) (.slice (some ⟨h.nx, 0, none⟩) 1 1) = some (.slice a113' n114' c115', h116') ∧
  I108_0 O Q a0 n0 c0 b1 f1 a113' n114' c115' (wrapF .i64 (x9 + 1)) h116')))
  (Q (.slice a4 n4 c4) h)
theorem I108_0.of {O Q} (a0 n0 c0 b1 f1 a4 n4 c4 x9) {h : Hp} (hh : T108_0 O Q a0 n0 c0 b1 f1 a4 n4 c4 x9 h) : I108_0 O Q a0 n0 c0 b1 f1 a4 n4 c4 x9 h :=
  RKL.of (tb := lv108) (cuts := []) 500 fun _ => Eq.mp (by kernel_rfl) hh
/-! sward/sat.Blame$2 -/
noncomputable def b109 : Code := (Tryd.f109.body).getD .skip
def lv109 : List (Nat × List Nat) := []
def T109 (O : CallF) (Q : Value → Hp → Prop) (a0 : Option Addr) (n0 : Nat) (c0 : Nat) (b1 : Nat) (f1 : Nat) (b2 : Nat) (f2 : Nat) (h : Hp) : Prop :=
  let g1 : Hp := h.rsv 13
  ∃ x2', ∃ a3' n4' c5', readAt g1 b1 f1 2 = some [(.int .i64 x2'), (.slice a3' n4' c5')] ∧
  ∃ v6', readAt g1 b2 f2 1 = some [v6'] ∧
  isFn v6' fun g7' r8' r9' =>
  ∃ a10' n11' c12', ∃ h13', EvC Tryd.prog O g7' (r8' ++ [(.slice a0 n0 c0)] ++ r9') (g1.grd [b1]) (.slice a10' n11' c12') h13' ∧
  let g14 : Hp := h13'.rst g1
  ∃ x15', ∃ x16', ∃ a17' n18' c19', ∃ x20', ∃ h21', EvC Tryd.prog O 79 [(.agg #[(.int .i64 x2'), (.slice a3' n4' c5')]), (.slice a10' n11' c12')] (g14.grd []) (.tuple #[(.agg #[(.int .u32 x15'), (.int .u32 x16')]), (.slice a17' n18' c19'), (.int .i64 x20')]) h21' ∧
  let g22 : Hp := h21'.rst g14
  vreq (g22.free (h.nx + 9))
  (let g23 : Hp := g22.lay (h.nx + 9) (.cells [(.int .u32 0), (.int .u32 0)] 102 .fix)
  vreq (canW (g23.grd []) (h.nx + 9) 0 [(.int .u32 x15'), (.int .u32 x16')])
  (let g24 : Hp := (g23.grd []).wr (h.nx + 9) 0 [(.int .u32 x15'), (.int .u32 x16')]
  let g25 : Hp := g24.rst g23
  Q (.int .i64 x20') g25))
theorem rk109 {O Q} (a0 n0 c0 b1 f1 b2 f2) {h : Hp} (hO : O 109 [(.slice a0 n0 c0), (.pointer (some ⟨b1, f1, none⟩)), (.pointer (some ⟨b2, f2, none⟩))] h = none) (hh : T109 O Q a0 n0 c0 b1 f1 b2 f2 h) : Ret Tryd.prog O 109 [(.slice a0 n0 c0), (.pointer (some ⟨b1, f1, none⟩)), (.pointer (some ⟨b2, f2, none⟩))] h Q :=
  .of (c := b109) Tryd.func109 (by kernel_rfl) hO (V_ok (tb := lv109) (cuts := []) 500 (Eq.mp (by kernel_rfl) hh))
/-! slices.Reverse[[]int,int] -/
end Go.Proofs.YtfgfhplgnfbaaaaDoor
/- Forced: its walk. -/
namespace Go.Proofs.YtfgfhplgnfbaaaaDoor
open Go Go.Ev
section
variable {O : CallF} (hO : Oth O)
include hO
end
end Go.Proofs.YtfgfhplgnfbaaaaDoor
/- Those to blame: the walk of Core and Blame. -/
namespace Go.Proofs.YtfgfhplgnfbaaaaDoor
open Go Go.Ev
/-- How a search with some of them ends is known. -/
def HaveOk (O : CallF) (g : Nat) (fi ca : Array Value) (h₀ : Hp) (n : Nat) (φ : List Int → Int) : Prop :=
  ∀ h, Kp h₀.nx h₀ h → ∀ a m c xs, IntsAt h a m xs → xs.Sublist ((List.range n).map Int.ofNat) → Ret Tryd.prog O g (fi.toList ++ [.slice a m c] ++ ca.toList) h fun v h' => v = .int .i64 (φ xs) ∧ Kp h.nx h h'
def blmF (φ : List Int → Int) : Nat → List Int → List Int × Int
  | 0, kept => (kept, 0)
  | i + 1, kept => if φ (kept.eraseIdx i) = 1 then blmF φ i (kept.eraseIdx i) else if φ (kept.eraseIdx i) = 2 then ([], 8) else blmF φ i kept
def blamedF (n : Nat) (φ : List Int → Int) : List Int × Int :=
  if φ ((List.range n).map Int.ofNat) = 0 then ([], 5) else if φ ((List.range n).map Int.ofNat) = 2 then ([], 8) else blmF φ n ((List.range n).map Int.ofNat)
def selC (cls : List (List Int)) (xs : List Int) : List (List Int) := xs.map fun i => cls.getD i.toNat []
def selG (gs : List Int) (xs : List Int) : List Int := xs.map fun i => gs.getD i.toNat 0
theorem sub_mem {n : Nat} {xs : List Int} (s : xs.Sublist ((List.range n).map Int.ofNat)) : ∀ x ∈ xs, ∃ k, k < n ∧ x = Int.ofNat k := fun x hx => by
  obtain ⟨k, hk, e⟩ := List.mem_map.1 (s.subset hx)
  exact ⟨k, List.mem_range.1 hk, e.symm⟩
theorem sub_len {n : Nat} {xs : List Int} (s : xs.Sublist ((List.range n).map Int.ofNat)) : xs.length ≤ n := by
  have := s.length_le
  simpa using this
theorem blmF_sub {φ : List Int → Int} {n : Nat} : ∀ (i : Nat) {kept : List Int}, kept.Sublist ((List.range n).map Int.ofNat) → (blmF φ i kept).1.Sublist ((List.range n).map Int.ofNat) := by
  intro i
  induction i with
  | zero => intro kept h; exact h
  | succ i ih =>
    intro kept h
    unfold blmF
    split
    · exact ih ((List.eraseIdx_sublist ..).trans h)
    · split
      · exact List.nil_sublist _
      · exact ih h
theorem blamedF_sub {φ : List Int → Int} {n : Nat} : (blamedF n φ).1.Sublist ((List.range n).map Int.ofNat) := by
  unfold blamedF
  split
  · exact List.nil_sublist _
  · split
    · exact List.nil_sublist _
    · exact blmF_sub _ (List.Sublist.refl _)
section
variable {O : CallF} (hO : Oth O)
include hO
theorem lp82_1 {h₀ : Hp} (ok : h₀.Ok) {N : Nat} (hN : N < 100000) {g : Nat} {fi ca : Array Value} {φ : List Int → Int} (H : HaveOk O g fi ca h₀ N φ) {a4 : Option Addr} {n4 c4 : Nat} {x5 x0 : Int} {r : List Int × Int} :
    ∀ (i : Nat) {kept : List Int} {x8 : Int} {h : Hp} {a6 : Option Addr} {n6 c6 : Nat}, x8 = Int.ofNat i - 1 → i ≤ kept.length → kept.Sublist ((List.range N).map Int.ofNat) → IntsAt h a6 n6 kept → Kp h₀.nx h₀ h → r = blmF φ i kept →
      I82_1 O (fun v h' => ∃ a n c, v = .tuple #[.slice a n c, .int .i64 r.2] ∧ IntsAt h' a n r.1 ∧ Kp h₀.nx h₀ h') x0 g fi ca g fi ca a4 n4 c4 x5 a6 n6 c6 x8 h := by
  intro i
  induction i with
  | zero =>
    intro kept x8 h a6 n6 c6 hx _ _ X kp hr
    subst hx
    refine I82_1.of (hh := ?_) ..
    unfold T82_1
    exact vcond_f rfl ⟨_, _, _, by rw [hr]; rfl, by rw [hr]; exact X, kp⟩
  | succ i ih =>
    intro kept x8 h a6 n6 c6 hx hi hs X kp hr
    obtain rfl : x8 = Int.ofNat i := by rw [hx]; simp only [Int.ofNat_eq_natCast]; omega
    have okh := ok.kp kp
    have hol := sub_len hs
    refine I82_1.of (hh := ?_) ..
    unfold T82_1
    refine vcond_t (by rw [show ltI (Int.ofNat i) 0 = false from rfl]; rfl) ?_
    refine (ct60 hO okh X (by omega)).s fun a3 n3 c3 h3 ⟨A3, K3⟩ => ?_
    have hne : kept.map (Value.int .i64) ≠ [] := fun e => by
      have : kept.length = 0 := by simpa using congrArg List.length e
      omega
    rcases A3 with (⟨_, _, _, e⟩ | ⟨o, rfl, rfl, q3, q4, q5, q6⟩) | ⟨e, _⟩
    · exact absurd e hne
    · obtain rfl : n3 = kept.length := by simpa using q3
      obtain ⟨v, h4, e4, rfl, Y, K4⟩ := ct59 hO (h := h3) (i := i) q6 q5 (GdLt.free (GdLt.kp okh.lt K3) q4) (by omega) (by omega)
      rw [wrap_succ (by omega)]
      have K34 : Kp h.nx h h4 := K3.trans (K4 h.nx q4 K3.nx)
      have kp4 : Kp h₀.nx h₀ h4 := kp.trans (K34.le kp.nx)
      have hl2 : (kept.eraseIdx i).length = kept.length - 1 := List.length_eraseIdx_of_lt (by omega)
      have hs2 : (kept.eraseIdx i).Sublist ((List.range N).map Int.ofNat) := (List.eraseIdx_sublist ..).trans hs
      refine ⟨_, _, _, h4, e4, ?_⟩
      obtain ⟨v, h5, e5, rfl, K5⟩ := H h4 kp4 _ _ unk _ Y hs2
      have kp5 := kp4.trans (K5.le kp4.nx)
      refine ⟨_, h5, e5, ?_⟩
      rw [wrap64 (by simp only [Int.ofNat_eq_natCast]; omega) (by simp only [Int.ofNat_eq_natCast]; omega)]
      have f5 := K5.ex (Nat.le_refl _)
      have f35 : Ft h h5 := Ft.tr (K34.ex (Nat.le_refl _)) f5
      unfold blmF at hr
      refine vcond_split (fun hc => ?_) fun hc => ?_
      · rw [if_pos (eq_of_t hc)] at hr
        rw [← hl2] at Y ⊢
        exact ih rfl (by omega) hs2 (Y.to h5) kp5 hr
      · rw [if_neg (ne_of_f hc)] at hr
        refine vcond_split (fun hd => ?_) fun hd => ?_
        · rw [if_pos (eq_of_t hd)] at hr
          exact ⟨_, _, _, by rw [hr], by rw [hr]; exact SlAt.nil .., kp5⟩
        · rw [if_neg (ne_of_f hd)] at hr
          exact ih rfl (by omega) hs (X.to h5) kp5 hr
    · exact absurd e hne
theorem lp82_0 {h₀ : Hp} (ok : h₀.Ok) {N : Nat} (hN : N < 100000) {g : Nat} {fi ca : Array Value} {φ : List Int → Int} (H : HaveOk O g fi ca h₀ N φ) :
    ∀ (d k : Nat), k + d = N → ∀ {h : Hp} {a6 : Option Addr} {n6 c6 : Nat}, Kp h₀.nx h₀ h → AccI 3 h h₀.nx a6 n6 c6 ((List.range k).map Int.ofNat) →
      I82_0 O (fun v h' => ∃ a n c, v = .tuple #[.slice a n c, .int .i64 (blamedF N φ).2] ∧ IntsAt h' a n (blamedF N φ).1 ∧ Kp h₀.nx h₀ h') (Int.ofNat N) g fi ca g fi ca a6 n6 c6 (Int.ofNat k) h := by
  intro d
  induction d with
  | zero =>
    intro k hk h a6 n6 c6 kp A
    obtain rfl : k = N := by omega
    refine I82_0.of (hh := ?_) ..
    unfold T82_0
    refine vcond_f (by rw [ltI_nat]; exact blt_f (by omega)) ?_
    obtain ⟨v, h1, e1, rfl, K1⟩ := H h kp _ _ c6 _ A.ints (List.Sublist.refl _)
    refine ⟨_, h1, e1, ?_⟩
    have kp1 := kp.trans (K1.le kp.nx)
    have f1 := K1.ex (Nat.le_refl _)
    have r : blamedF k φ = blamedF k φ := rfl
    conv at r => rhs; unfold blamedF
    refine vcond_split (fun hc => ?_) fun hc => ?_
    · rw [if_pos (eq_of_t hc)] at r
      exact ⟨_, _, _, by rw [r], by rw [r]; exact SlAt.nil .., kp1⟩
    · rw [if_neg (ne_of_f hc)] at r
      refine vcond_split (fun hd => ?_) fun hd => ?_
      · rw [if_pos (eq_of_t hd)] at r
        exact ⟨_, _, _, by rw [r], by rw [r]; exact SlAt.nil .., kp1⟩
      · rw [if_neg (ne_of_f hd)] at r
        exact lp82_1 hO ok hN H k (by rw [wrap64 (by simp only [Int.ofNat_eq_natCast]; omega) (by simp only [Int.ofNat_eq_natCast]; omega)]) (by simp) (List.Sublist.refl _) (A.ints.to h1) kp1 r
  | succ d ih =>
    intro k hk h a6 n6 c6 kp A
    refine I82_0.of (hh := ?_) ..
    unfold T82_0
    refine vcond_t (by rw [ltI_nat]; exact blt_t (by omega)) ?_
    intro g101
    rw [wrap_succ (by omega)]
    refine appI app32 A kp.nx (GdLt.kp ok.lt kp) (by simp; omega) fun a' n' c' h' A' _ ka => ?_
    exact ih (k + 1) (by omega) (kp.trans ka) (by rw [List.range_succ, List.map_append]; exact A')
theorem ct82 {h : Hp} (ok : h.Ok) {N : Nat} (hN : N < 100000) {g : Nat} {fi ca : Array Value} {φ : List Int → Int} (H : HaveOk O g fi ca h N φ) :
    Ret Tryd.prog O 82 [.int .i64 (Int.ofNat N), .func (.func g) fi ca] h fun v h' => ∃ a n c, v = .tuple #[.slice a n c, .int .i64 (blamedF N φ).2] ∧ IntsAt h' a n (blamedF N φ).1 ∧ Kp h.nx h h' := by
  refine rk82 _ _ _ _ (hO _ _ _ (by decide)) ?_
  unfold T82
  exact lp82_0 hO ok hN H N 0 (Nat.zero_add _) (.refl _ _) (AccI.nil ..)
theorem lp83 {h₀ : Hp} (ok : h₀.Ok) (ht : Tb h₀) {N : Nat} (hN : N ≤ 30) {cls : List (List Int)} {gs : List Int} (hc : ∀ l ∈ cls, Cv (Int.ofNat N) l) (hcl : cls.length < 10000) (hg : Lv (Int.ofNat N) gs) (hgl : gs.length < 1000)
    {b1 b2 : Nat} {aF aG : Option Addr} {nF cF nG cG : Nat} (hb1 : b1 < h₀.nx) (g1 : h₀.get b1 = some (.cells [.int .i64 (Int.ofNat N), .slice aF nF cF] 30 .fix)) (hb2 : b2 < h₀.nx) (g2 : h₀.get b2 = some (.cells [.slice aG nG cG] 32 .fix)) (F : IntssAt h₀ aF nF cls) (G : IntsAt h₀ aG nG gs)
    {a0 : Option Addr} {n0 c0 : Nat} {xs : List Int} (X : IntsAt h₀ a0 n0 xs) (s : xs.Sublist ((List.range cls.length).map Int.ofNat)) :
    ∀ (d k : Nat), k + d = xs.length → ∀ {h : Hp} {a : Option Addr} {n c : Nat}, Kp h₀.nx h₀ h → h₀.nx < h.nx → h.get h₀.nx = some (.cells [.int .i64 (Int.ofNat N), .slice a n c] 30 .fix) → LL h₀.nx (h₀.nx + 1) h a n c (selC cls (xs.take k)) →
      I83_0 O (fun v h' => v = .int .i64 (solF N (selC cls xs) gs).how ∧ Kp h₀.nx h₀ h') a0 n0 c0 b1 0 b2 0 h₀.nx 0 (Int.ofNat k) h := by
  have hxl := sub_len s
  have hn0 := X.1
  have hin := sub_mem s
  intro d
  induction d with
  | zero =>
    intro k hk h a n c kp hnx g3 A
    refine I83_0.of (hh := ?_) ..
    unfold T83_0
    have okh := ok.kp kp
    refine vcond_f (by rw [ltI_nat]; exact blt_f (by omega)) ⟨_, _, _, _, by rw [readAt_get g3 (by simp)]; rfl, _, _, _, read1 (i := 0) (by rw [kp.get _ hb2]; exact g2) rfl, ?_⟩
    rw [List.take_of_length_le (by omega)] at A
    have f := kp.ex (Nat.le_refl _)
    have hm : ∀ l ∈ selC cls xs, l ∈ cls := fun l hl => by
      obtain ⟨x, hx, rfl⟩ := List.mem_map.1 hl
      obtain ⟨j, hj, rfl⟩ := hin x hx
      show cls.getD j [] ∈ cls
      rw [List.getD_eq_getElem?_getD, List.getElem?_eq_getElem hj]
      exact List.getElem_mem hj
    have hc2 : ∀ l ∈ selC cls xs, Cv (Int.ofNat N) l := fun l hl => hc l (hm l hl)
    have lits : ∀ l ∈ selC cls xs, ∀ x ∈ l, Lit x := fun l hl x hx => ((hc2 l hl).2 x hx).1
    have llen : ∀ l ∈ selC cls xs, l.length < 1000000 := fun l hl => by
      rcases dif_len (N := N) (lo := 0) (hc2 l hl).1 (fun x hx => by obtain ⟨h1, h2⟩ := (hc2 l hl).2 x hx; have := h1.1; simp only [Int.ofNat_eq_natCast] at h2; omega) with h | h
      · omega
      · rw [h]; simp
    obtain ⟨v, h1, e1, al, nl, cl, rfl, _, K1⟩ := ct79 hO okh (ht.kp kp ht.1) A.intss (by unfold selC; rw [List.length_map]; omega) llen lits (G.to h) (by omega) (fun x hx => (hg x hx).1) hN (dec_ok hN hc2 hg) dcs_nil (c := c) (c1 := cG)
    refine ⟨_, _, _, _, _, _, h1, e1, ?_⟩
    intro g140
    have okh1 := okh.kp K1
    have gf : g140.guarded h1.nx = false := guarded_of fun q hq => by have := okh1.gd q hq; omega
    refine vreq_t (canW_t (get_add_same ..) (by decide) gf (by simp) rfl) ?_
    intro g141
    exact ⟨rfl, kp.trans ((K1.trans (((Kp.refl h1.nx h1).add (Nat.le_refl _) _).wr (Nat.le_refl _) _ _ |>.le K1.nx)).le kp.nx)⟩
  | succ d ih =>
    intro k hk h a n c kp hnx g3 A
    refine I83_0.of (hh := ?_) ..
    unfold T83_0
    have okh := ok.kp kp
    have f := kp.ex (Nat.le_refl _)
    have hkl : k < xs.length := by omega
    refine vcond_t (by rw [ltI_nat]; exact blt_t (by omega)) (isNat_i (IntsAt.rd (g := h₀) (h := h) X hkl ?_))
    obtain ⟨j, hj, ej⟩ := hin _ (List.getElem_mem hkl)
    rw [ej]
    intro g105
    have K5 : Kp h.nx h g105 := (Kp.refl _ _).rsv 11
    have kp5 := kp.trans (K5.le kp.nx)
    have f5 := kp5.ex (Nat.le_refl _)
    have g35 : g105.get h₀.nx = some (.cells [.int .i64 (Int.ofNat N), .slice a n c] 30 .fix) := g3
    refine ⟨_, _, _, read1 g35 (i := 0 + 1) rfl, _, _, _, read1 (i := 0 + 1) (by rw [kp5.get _ hb1]; exact g1) rfl, isNat_i (IntssAt.rd (g := h₀) (h := g105) F hj fun a' n' c' Y => ?_)⟩
    have okY : VOk h₀.nx (h₀.nx + 1) (.slice a' n' c') := fun b off m c e => by
      injection e with e _ _
      have := SlAt.lt Y b off e
      omega
    have nx5 : g105.nx = h.nx + 11 := rfl
    have gd5 : GdLt g105 (h₀.nx + 1) := fun q hq => by
      have : q ∈ h₀.gd := by rw [← kp.gd]; exact hq
      have := ok.gd q this; omega
    have hq : g105.get (h.nx + 7) = none := okh.fr _ (Nat.le_add_right _ _)
    have A5 : LL h₀.nx (h₀.nx + 1) g105 a n c (selC cls (xs.take k)) := A.to g105
    have nA := A.len
    have ltk : (selC cls (xs.take k)).length = k := by unfold selC; rw [List.length_map, List.length_take]; omega
    refine LL.appR (by omega) A5 (Y.to g105) okY (by omega) gd5 hq (by omega) (by omega) (fun i hi => by cases hi) (by omega) fun a2 c2 h2 A2 _ K2 => ?_
    intro g123
    have gN : g123.get h₀.nx = some (.cells [.int .i64 (Int.ofNat N), .slice a n c] 30 .fix) := by
      refine (K2.oth _ (by omega) (fun e => ?_) (by rw [g35]; simp)).trans g35
      obtain ⟨vs, E, _, _⟩ := A5
      have := (E.lt e).1
      omega
    have gu : (g123.grd []).guarded h₀.nx = false := guarded_of fun q hq => by
      have : q ∈ h₀.gd := by rw [← kp5.gd]; exact hq
      have := ok.gd q this; omega
    refine vreq_t (canW_t (h := g123.grd []) gN (by decide) gu (by simp) rfl) ?_
    intro g124 g125
    have w : g125.get h₀.nx = some (.cells [.int .i64 (Int.ofNat N), .slice a2 (n + 1) c2] 30 .fix) := (wr_get (h := g123.grd []) gN (by decide) gu (by simp) rfl).trans rfl
    have k3 : Kp h₀.nx h₀ g123 := kp5.trans (K2.kp.le (by omega))
    have k4 : Kp h₀.nx h₀ g125 := by
      have w : Kp h₀.nx h₀ g124 := (show Kp h₀.nx h₀ (g123.grd []) from ⟨k3.get, k3.nx, k3.gd, k3.fr⟩).wr (Nat.le_refl _) _ _
      exact ⟨w.get, w.nx, k3.gd, w.fr⟩
    have n5 : g125.nx = g123.nx := nx_wr ..
    have A3 : LL h₀.nx (h₀.nx + 1) g124 a2 (n + 1) c2 _ := (show LL h₀.nx (h₀.nx + 1) (g123.grd []) a2 (n + 1) c2 _ from A2.to _).wr (q := h₀.nx) (by omega) (by omega) (0 + 1) [.slice a2 (n + 1) c2]
    rw [wrap_succ (by omega)]
    have k2n : g105.nx ≤ g123.nx := K2.kp.nx
    refine ih (k + 1) (by omega) k4 (by rw [n5]; omega) w ?_
    have e2 : selC cls (xs.take (k + 1)) = selC cls (xs.take k) ++ [cls[j]] := by
      unfold selC
      rw [List.take_add_one, List.map_append, List.getElem?_eq_getElem hkl, ej]
      simp [List.getElem?_eq_getElem hj]
    rw [e2]
    exact A3.to g125
theorem ct83 {h : Hp} (ok : h.Ok) (ht : Tb h) {N : Nat} (hN : N ≤ 30) {cls : List (List Int)} {gs : List Int} (hc : ∀ l ∈ cls, Cv (Int.ofNat N) l) (hcl : cls.length < 10000) (hg : Lv (Int.ofNat N) gs) (hgl : gs.length < 1000)
    {b1 b2 : Nat} {aF aG : Option Addr} {nF cF nG cG : Nat} (hb1 : b1 < h.nx) (g1 : h.get b1 = some (.cells [.int .i64 (Int.ofNat N), .slice aF nF cF] 30 .fix)) (hb2 : b2 < h.nx) (g2 : h.get b2 = some (.cells [.slice aG nG cG] 32 .fix)) (F : IntssAt h aF nF cls) (G : IntsAt h aG nG gs)
    {a0 : Option Addr} {n0 c0 : Nat} {xs : List Int} (X : IntsAt h a0 n0 xs) (s : xs.Sublist ((List.range cls.length).map Int.ofNat)) :
    Ret Tryd.prog O 83 [.slice a0 n0 c0, .pointer (some ⟨b1, 0, none⟩), .pointer (some ⟨b2, 0, none⟩)] h fun v h' => v = .int .i64 (solF N (selC cls xs) gs).how ∧ Kp h.nx h h' := by
  refine rk83 _ _ _ _ _ _ _ (hO _ _ _ (by decide)) ?_
  unfold T83
  refine ⟨_, read1 g1 (i := 0 + 0) rfl, ?_⟩
  intro g2'
  have gf : g2'.guarded h.nx = false := guarded_of fun q hq => by have := ok.gd q hq; omega
  refine vreq_t (canW_t (get_add_same ..) (by decide) gf (by simp) rfl) ?_
  intro g3
  have w : g3.get h.nx = some (.cells [.int .i64 (Int.ofNat N), .slice none 0 0] 30 .fix) := (wr_get (get_add_same ..) (by decide) gf (by simp) rfl).trans rfl
  exact lp83 hO ok ht hN hc hcl hg hgl hb1 g1 hb2 g2 F G X s xs.length 0 (Nat.zero_add _) (((Kp.refl h.nx h).add (Nat.le_refl _) _).wr (Nat.le_refl _) _ _) (by show h.nx < g3.nx; rw [show g3.nx = h.nx + 1 from nx_wr ..]; omega) w (LL.nil ..)
omit hO in
theorem lp108 {h₀ : Hp} (ok : h₀.Ok) {gs : List Int} (hgl : gs.length < 100000) {b1 : Nat} {aG : Option Addr} {nG cG : Nat} (hb1 : b1 < h₀.nx) (g1 : h₀.get b1 = some (.cells [.slice aG nG cG] 32 .fix)) (G : IntsAt h₀ aG nG gs)
    {a0 : Option Addr} {n0 c0 : Nat} {xs : List Int} (X : IntsAt h₀ a0 n0 xs) (s : xs.Sublist ((List.range gs.length).map Int.ofNat)) :
    ∀ (d k : Nat), k + d = xs.length → ∀ {h : Hp} {a : Option Addr} {n c : Nat}, Kp h₀.nx h₀ h → AccI 3 h h₀.nx a n c (selG gs (xs.take k)) →
      I108_0 O (fun v h' => ∃ a n c, v = .slice a n c ∧ AccI 3 h' h₀.nx a n c (selG gs xs) ∧ Kp h₀.nx h₀ h') a0 n0 c0 b1 0 a n c (Int.ofNat k) h := by
  have hxl := sub_len s
  have hn0 := X.1
  have hin := sub_mem s
  intro d
  induction d with
  | zero =>
    intro k hk h a n c kp A
    refine I108_0.of (hh := ?_) ..
    unfold T108_0
    rw [List.take_of_length_le (by omega)] at A
    exact vcond_f (by rw [ltI_nat]; exact blt_f (by omega)) ⟨_, _, _, rfl, A, kp⟩
  | succ d ih =>
    intro k hk h a n c kp A
    refine I108_0.of (hh := ?_) ..
    unfold T108_0
    have f := kp.ex (Nat.le_refl _)
    have hkl : k < xs.length := by omega
    refine vcond_t (by rw [ltI_nat]; exact blt_t (by omega)) (isNat_i (IntsAt.rd (g := h₀) (h := h) X hkl ?_))
    obtain ⟨j, hj, ej⟩ := hin _ (List.getElem_mem hkl)
    rw [ej]
    refine ⟨_, _, _, read1 (i := 0) (by rw [kp.get _ hb1]; exact g1) rfl, isNat_i (IntsAt.rd (g := h₀) (h := h) G hj ?_)⟩
    intro g112
    rw [wrap_succ (by omega)]
    have ltk : (selG gs (xs.take k)).length = k := by unfold selG; rw [List.length_map, List.length_take]; omega
    refine appI app32 A kp.nx (GdLt.kp ok.lt kp) (by omega) fun a' n' c' h' A' _ ka => ?_
    refine ih (k + 1) (by omega) (kp.trans ka) ?_
    have e2 : selG gs (xs.take (k + 1)) = selG gs (xs.take k) ++ [gs[j]] := by
      unfold selG
      rw [List.take_add_one, List.map_append, List.getElem?_eq_getElem hkl, ej]
      simp [List.getElem?_eq_getElem hj]
    rw [e2]
    exact A'
theorem ct108 {h : Hp} (ok : h.Ok) {gs : List Int} (hgl : gs.length < 100000) {b1 : Nat} {aG : Option Addr} {nG cG : Nat} (hb1 : b1 < h.nx) (g1 : h.get b1 = some (.cells [.slice aG nG cG] 32 .fix)) (G : IntsAt h aG nG gs)
    {a0 : Option Addr} {n0 c0 : Nat} {xs : List Int} (X : IntsAt h a0 n0 xs) (s : xs.Sublist ((List.range gs.length).map Int.ofNat)) :
    Ret Tryd.prog O 108 [.slice a0 n0 c0, .pointer (some ⟨b1, 0, none⟩)] h fun v h' => ∃ a n c, v = .slice a n c ∧ AccI 3 h' h.nx a n c (selG gs xs) ∧ Kp h.nx h h' := by
  refine rk108 _ _ _ _ _ (hO _ _ _ (by decide)) ?_
  unfold T108
  exact lp108 ok hgl hb1 g1 G X s xs.length 0 (Nat.zero_add _) (.refl _ _) (AccI.nil ..)
theorem ct109 {h : Hp} (ok : h.Ok) (ht : Tb h) {N : Nat} (hN : N ≤ 30) {cls : List (List Int)} {gs : List Int} (hc : ∀ l ∈ cls, Cv (Int.ofNat N) l) (hcl : cls.length < 10000) (hg : Lv (Int.ofNat N) gs) (hgl : gs.length < 1000)
    {b1 b2 b3 : Nat} {aF aG : Option Addr} {nF cF nG cG : Nat} (hb1 : b1 < h.nx) (g1 : h.get b1 = some (.cells [.int .i64 (Int.ofNat N), .slice aF nF cF] 30 .fix)) (hb3 : b3 < h.nx) (g3 : h.get b3 = some (.cells [.slice aG nG cG] 32 .fix)) (g2 : h.get b2 = some (.cells [.func (.func 108) #[] #[.pointer (some ⟨b3, 0, none⟩)]] 79 .fix)) (F : IntssAt h aF nF cls) (G : IntsAt h aG nG gs)
    {a0 : Option Addr} {n0 c0 : Nat} {xs : List Int} (X : IntsAt h a0 n0 xs) (s : xs.Sublist ((List.range gs.length).map Int.ofNat)) :
    Ret Tryd.prog O 109 [.slice a0 n0 c0, .pointer (some ⟨b1, 0, none⟩), .pointer (some ⟨b2, 0, none⟩)] h fun v h' => v = .int .i64 (solF N cls (selG gs xs)).how ∧ Kp h.nx h h' := by
  have hin := sub_mem s
  have hxl := sub_len s
  refine rk109 _ _ _ _ _ _ _ (hO _ _ _ (by decide)) ?_
  unfold T109
  intro g1'
  have K1 : Kp h.nx h g1' := (Kp.refl _ _).rsv 13
  have f1 := K1.ex (Nat.le_refl _)
  have ok1 : (g1'.grd [b1]).Ok := (ok.kp K1).grd fun q hq => by
    rw [List.mem_singleton] at hq; subst hq
    exact Nat.lt_of_lt_of_le hb1 K1.nx
  refine ⟨_, _, _, _, by rw [readAt_get (h := g1') g1 (by simp)]; rfl, _, read1 (h := g1') g2 (i := 0) rfl, ?_⟩
  have fg : Ft h (g1'.grd [b1]) := ⟨f1.get, f1.nx⟩
  refine (ct108 hO ok1 (gs := gs) (by omega) (Nat.lt_of_lt_of_le hb3 K1.nx) g3 (G.to _) (X.to _) s (cG := cG)).s fun a10 n11 c12 h13 ⟨A13, K13⟩ => ?_
  intro g14
  have K14 : Kp g1'.nx g1' g14 := Kp.rst (Kp.refl _ _) K13
  have k14 : Kp h.nx h g14 := K1.trans (K14.le K1.nx)
  have f14 := k14.ex (Nat.le_refl _)
  have ok14 : (g14.grd []).Ok := ok.kp k14
  have ht14 : Tb (g14.grd []) := ht.kp k14 ht.1
  have S14 : IntsAt (g14.grd []) a10 n11 (selG gs xs) := A13.ints.keep (fun _ _ _ => rfl) (Nat.le_refl _) fun _ _ h => h
  have hg2 : Lv (Int.ofNat N) (selG gs xs) := fun x hx => by
    obtain ⟨i, hi, rfl⟩ := List.mem_map.1 hx
    obtain ⟨j, hj, rfl⟩ := hin i hi
    have : gs.getD j 0 ∈ gs := by
      rw [List.getD_eq_getElem?_getD, List.getElem?_eq_getElem hj]
      exact List.getElem_mem hj
    exact hg _ this
  have lits : ∀ l ∈ cls, ∀ x ∈ l, Lit x := fun l hl x hx => ((hc l hl).2 x hx).1
  have llen : ∀ l ∈ cls, l.length < 1000000 := fun l hl => by
    rcases dif_len (N := N) (lo := 0) (hc l hl).1 (fun x hx => by obtain ⟨h1, h2⟩ := (hc l hl).2 x hx; have := h1.1; simp only [Int.ofNat_eq_natCast] at h2; omega) with h | h
    · omega
    · rw [h]; simp
  have F14 : IntssAt (g14.grd []) aF nF cls := (F.to g14).keep (fun _ _ _ => rfl) (Nat.le_refl _) fun _ _ h => h
  obtain ⟨v, h21, e21, al, nl, cl, rfl, _, K21⟩ := ct79 hO ok14 ht14 F14 hcl llen lits S14 (by unfold selG; rw [List.length_map]; omega) (fun x hx => (hg2 x hx).1) hN (dec_ok hN hc hg2) dcs_nil (c := cF) (c1 := c12)
  refine ⟨_, _, _, _, _, _, h21, e21, ?_⟩
  intro g22
  have K22 : Kp g14.nx g14 g22 := Kp.rst (Kp.refl _ _) K21
  have k22 : Kp h.nx h g22 := k14.trans (K22.le k14.nx)
  have n14 : h.nx + 13 ≤ g14.nx := K14.nx
  have fr : g22.get (h.nx + 9) = none := by
    rw [K22.get _ (by omega)]
    have e : g14.get (h.nx + 9) = g1'.get (h.nx + 9) := K14.get _ (by show h.nx + 9 < h.nx + 13; omega)
    rw [e]
    exact ok.fr _ (Nat.le_add_right _ _)
  refine vreq_t (free_t fr) ?_
  intro g23
  have n22 : h.nx + 9 < g22.nx := by have := K22.nx; omega
  have g23g : (g23.grd []).get (h.nx + 9) = some (.cells [U 0, U 0] 102 .fix) := by
    show (g22.lay _ _).get _ = _
    rw [get_lay, if_pos rfl]; rfl
  have gu : (g23.grd []).guarded (h.nx + 9) = false := guarded_of fun q hq => by
    have : q ∈ h.gd := by rw [← k22.gd]; exact hq
    have := ok.gd q this; omega
  refine vreq_t (canW_t g23g (by decide) gu (by simp) rfl) ?_
  intro g24 g25
  have k23 : Kp h.nx h g23 := k22.lay (by omega) n22 _
  have k25 : Kp h.nx h g25 := by
    have w : Kp h.nx h g24 := (show Kp h.nx h (g23.grd []) from ⟨k23.get, k23.nx, k23.gd, k23.fr⟩).wr (Nat.le_add_right _ _) _ _
    exact ⟨w.get, w.nx, k23.gd, w.fr⟩
  exact ⟨rfl, k25⟩
end
end Go.Proofs.YtfgfhplgnfbaaaaDoor
/- What a call's arguments hold, as the evaluator's memory. -/
namespace Go.Ev
open Go
/-- Fields lie one behind the other. -/
def layOk (P : Program) : Nat → List Field → Nat → Bool
  | off, [], n => Nat.beq off n
  | off, f :: fs, n => Nat.beq f.offset off && layOk P (off + P.cellsOf f.type) fs n
/-- A type of truths, whole numbers, lists, structs and rows of these. -/
def Plain (P : Program) : Nat → TypeId → Bool
  | 0, _ => false
  | n + 1, t => match P.underlying t with
    | some .bool => true
    | some (.int _) => true
    | some (.slice e) => Plain P n e && !(Nat.beq (P.cellsOf e) 0)
    | some (.struct fs) => fs.toList.all (fun f => Plain P n f.type) && layOk P 0 fs.toList (P.cellsOf t)
    | some (.array m e) => Plain P n e && Nat.beq (m * P.cellsOf e) (P.cellsOf t)
    | _ => false
/-- Cells that read as some data, in the evaluator's memory. -/
def DE {H : Type} (P : Program) (h : Hp) : Nat → TypeId → List Value → DataW H → Prop
  | 0, _, _, _ => False
  | n + 1, t, cs, d => match P.underlying t, d with
    | some .bool, .lit (.bool b) => cs = [.bool b]
    | some (.int k), .lit (.int k' x) => k' = k ∧ cs = [.int k x] ∧ (Lit.int k x).wf = true
    | some (.slice _), .nil => cs = [.slice none 0 0]
    | some (.slice e), .slice elems _ => ∃ k cap c e', cs = [.slice (some ⟨k, 0, none⟩) elems.length cap] ∧ cap < unk ∧ elems.length ≤ cap ∧ k < h.nx ∧ h.get k = some (.cells c e' .ro) ∧ elems.length * P.cellsOf e ≤ c.length ∧
        ∀ i (hi : i < elems.length), DE P h n e ((c.drop (i * P.cellsOf e)).take (P.cellsOf e)) elems[i]
    | some (.struct fs), .agg parts => cs.length = P.cellsOf t ∧ parts.length = fs.size ∧ ∀ i (hi : i < parts.length) f, fs[i]? = some f → DE P h n f.type ((cs.drop f.offset).take (P.cellsOf f.type)) parts[i]
    | some (.array m e), .agg parts => cs.length = P.cellsOf t ∧ parts.length = m ∧ ∀ i (hi : i < parts.length), DE P h n e ((cs.drop (i * P.cellsOf e)).take (P.cellsOf e)) parts[i]
    | _, _ => False
/-- Memory with more in it, that none writes. -/
structure Ext1 (h : Hp) (ι : Inj) (h' : Hp) (ι' : Inj) : Prop where
  nx : h.nx ≤ h'.nx
  gd : h'.gd = h.gd
  get : ∀ o, o < h.nx → h'.get o = h.get o
  inj : ∀ o, o < h.nx → ι' o = ι o
theorem Ext1.refl (h : Hp) (ι : Inj) : Ext1 h ι h ι := ⟨Nat.le_refl _, rfl, fun _ _ => rfl, fun _ _ => rfl⟩
theorem Ext1.trans {h h' h'' : Hp} {ι ι' ι'' : Inj} (a : Ext1 h ι h' ι') (b : Ext1 h' ι' h'' ι'') : Ext1 h ι h'' ι'' :=
  ⟨Nat.le_trans a.nx b.nx, b.gd.trans a.gd, fun o ho => (b.get o (Nat.lt_of_lt_of_le ho a.nx)).trans (a.get o ho), fun o ho => (b.inj o (Nat.lt_of_lt_of_le ho a.nx)).trans (a.inj o ho)⟩
theorem DE.mono {H : Type} {P : Program} {h h' : Hp} (hn : h.nx ≤ h'.nx) (hg : ∀ o, o < h.nx → h'.get o = h.get o) : ∀ {n : Nat} {t : TypeId} {cs : List Value} {d : DataW H}, DE P h n t cs d → DE P h' n t cs d := by
  intro n
  induction n with
  | zero => intro t cs d h; exact h
  | succ n ih =>
    intro t cs d hd
    unfold DE at hd ⊢
    split at hd
    · exact hd
    · exact hd
    · exact hd
    · obtain ⟨k, cap, c, e', h1, h2, h3, h4, h5, h6, h7⟩ := hd
      exact ⟨k, cap, c, e', h1, h2, h3, Nat.lt_of_lt_of_le h4 hn, by rw [hg k h4]; exact h5, h6, fun i hi => ih (h7 i hi)⟩
    · exact ⟨hd.1, hd.2.1, fun i hi f hf => ih (hd.2.2 i hi f hf)⟩
    · exact ⟨hd.1, hd.2.1, fun i hi => ih (hd.2.2 i hi)⟩
    · exact hd
section
variable {H : Type} {enc : TypeId × Value → H} {P : Program} {W : World}
/-- What is ahead: memory that none writes, and an object in it. -/
structure Base (P : Program) (ι : Inj) (h : Hp) (W : World) : Prop where
  rh : RH P ι h W
  ro : ∀ o x, h.get o = some x → x.wr = false
  gd : h.gd = []
  some0 : ∃ x v, h.get 0 = some x ∧ ι 0 = some v ∧ 0 < h.nx ∧ ∃ c e, x = .cells c e .ro
/-- An object more. -/
theorem Base.push {ι : Inj} {h : Hp} (B : Base P ι h W) {c : List Value} {e : TypeId} {v : Vw} (h1 : c.all one = true) {c' : Array Value} {e' : TypeId} {fr : Nat × Nat} (hb : W.heap[v.blk]? = some (.cells c' e' fr)) (hc : ∀ (j : Nat) x, c[j]? = some x → ∃ y, c'[v.base + j]? = some y ∧ VR ι x y) :
    Base P (ι.set h.nx v) (h.add (.cells c e .ro)) W ∧ Ext1 h ι (h.add (.cells c e .ro)) (ι.set h.nx v) := by
  have hfresh : ι h.nx = none := B.rh.fresh _ (Nat.le_refl _)
  have mono := Inj.set_mono (v := v) hfresh
  have hE : Ext1 h ι (h.add (.cells c e .ro)) (ι.set h.nx v) := ⟨by rw [nx_add]; omega, rfl, fun o ho => get_add_ne (by omega), fun o ho => Inj.set_other _ _ _ (by omega)⟩
  have hget : ∀ o x, (h.add (.cells c e .ro)).get o = some x → (o = h.nx ∧ x = .cells c e .ro) ∨ h.get o = some x := fun o x ho => by
    rw [get_add] at ho
    split at ho
    · exact .inl ⟨‹_›, (Option.some.inj ho).symm⟩
    · exact .inr ho
  have hro : ∀ o x, (h.add (.cells c e .ro)).get o = some x → x.wr = false := fun o x ho => by
    rcases hget o x ho with ⟨_, rfl⟩ | ho
    · rfl
    · exact B.ro o x ho
  refine ⟨⟨⟨fun o x ho => ?_, fun o q x y vo vq _ ho hx => ?_, fun o ho => ?_, fun g hg => ?_, ?_⟩, hro, B.gd, ?_⟩, hE⟩
  · rcases hget o x ho with ⟨rfl, rfl⟩ | ho
    · refine ⟨by rw [nx_add]; omega, v, Inj.set_same .., h1, c', e', fr, hb, fun j x hx => ?_, fun h => absurd rfl h, fun h => by cases h⟩
      obtain ⟨y, hy, hv⟩ := hc j x hx
      exact ⟨y, hy, hv.mono mono⟩
    · obtain ⟨h2, u, hu, hor⟩ := B.rh.live o x ho
      exact ⟨by rw [nx_add]; omega, u, mono _ _ hu, hor.of_block mono rfl⟩
  · rw [hro o x ho] at hx; cases hx
  · rw [nx_add] at ho
    rw [Inj.set_other _ _ _ (by omega)]; exact B.rh.fresh o (by omega)
  · rw [Inj.set_other _ _ _ (by have := B.rh.gsize; omega)]; exact B.rh.glob g hg
  · rw [nx_add]; have := B.rh.gsize; omega
  · obtain ⟨x, u, a1, a2, a3, a4⟩ := B.some0
    exact ⟨x, u, by rw [get_add_ne (by omega)]; exact a1, by rw [Inj.set_other _ _ _ (by omega)]; exact a2, by rw [nx_add]; omega, a4⟩
/-- A whole part is built, whatever a part is built of. -/
def Builds (H : Type) (enc : TypeId × Value → H) (P : Program) (W : World) (n : Nat) (t : TypeId) : Prop := ∀ (cs : List Value) (d : DataW H) (ps : List MemPlace), DataW.trod enc P W 0 (fun _ => true) true n t cs = some (d, ps) →
  ∀ ι h, Base P ι h W → ∃ ι' h' ev, Ext1 h ι h' ι' ∧ Base P ι' h' W ∧ VRs ι' ev cs ∧ ev.all one = true ∧ DE P h' n t ev d
theorem VRs.mono1 {ι ι' : Inj} {h h' : Hp} (E : Ext1 h ι h' ι') (R : ∀ o, h.nx ≤ o → ι o = none) {a b : List Value} (hv : VRs ι a b) : VRs ι' a b := hv.mono fun o v hv => by
  have : o < h.nx := by
    rcases Nat.lt_or_ge o h.nx with hh | hh
    · exact hh
    · rw [R o hh] at hv; cases hv
  rw [E.inj o this]; exact hv
/-- Parts, one after the other. -/
theorem build_list {n : Nat} : ∀ (l : List (TypeId × List Value × DataW H)), (∀ p ∈ l, Builds H enc P W n p.1 ∧ ∃ ps, DataW.trod enc P W 0 (fun _ => true) true n p.1 p.2.1 = some (p.2.2, ps)) → ∀ ι h, Base P ι h W →
    ∃ ι' h', ∃ evs : List (List Value), Ext1 h ι h' ι' ∧ Base P ι' h' W ∧ evs.length = l.length ∧ VRs ι' evs.flatten (l.map (·.2.1)).flatten ∧ evs.flatten.all one = true ∧
      ∀ i (hi : i < l.length), ∃ ev, evs[i]? = some ev ∧ VRs ι' ev l[i].2.1 ∧ DE P h' n l[i].1 ev l[i].2.2 := by
  intro l
  induction l with
  | nil => intro _ ι h B; exact ⟨ι, h, [], .refl _ _, B, rfl, .nil _, rfl, fun i hi => absurd hi (Nat.not_lt_zero _)⟩
  | cons p l ih =>
    intro hl ι h B
    obtain ⟨hb, ps, hp⟩ := hl p (List.mem_cons_self ..)
    obtain ⟨ι1, h1, ev, E1, B1, V1, O1, D1⟩ := hb _ _ _ hp ι h B
    obtain ⟨ι2, h2, evs, E2, B2, L2, V2, O2, D2⟩ := ih (fun q hq => hl q (List.mem_cons_of_mem _ hq)) ι1 h1 B1
    have V1' := VRs.mono1 E2 B1.rh.fresh V1
    refine ⟨ι2, h2, ev :: evs, E1.trans E2, B2, by simp [L2], ?_, ?_, fun i hi => ?_⟩
    · rw [List.flatten_cons, List.map_cons, List.flatten_cons]; exact V1'.append V2
    · rw [List.flatten_cons, List.all_append, O1, O2]; rfl
    · cases i with
      | zero => exact ⟨ev, rfl, V1', D1.mono E2.nx E2.get⟩
      | succ i => exact D2 i (by simpa using hi)
theorem flat_row {l : List (List Value)} {w : Nat} (hw : ∀ x ∈ l, x.length = w) : l.flatten.length = l.length * w ∧ ∀ i x, l[i]? = some x → (l.flatten.drop (i * w)).take w = x := by
  induction l with
  | nil => exact ⟨by simp, fun i x h => by simp at h⟩
  | cons y l ih =>
    obtain ⟨h1, h2⟩ := ih fun x hx => hw x (List.mem_cons_of_mem _ hx)
    have hy := hw y (List.mem_cons_self ..)
    refine ⟨by rw [List.flatten_cons, List.length_append, h1, hy, List.length_cons, Nat.add_mul]; omega, fun i x hx => ?_⟩
    rw [List.flatten_cons]
    cases i with
    | zero =>
      simp at hx
      subst hx
      rw [Nat.zero_mul, List.drop_zero, ← hy, List.take_left]
    | succ i =>
      rw [List.drop_append, List.drop_of_length_le (by rw [hy, Nat.add_mul]; omega), List.nil_append, hy, show (i + 1) * w - w = i * w by rw [Nat.add_mul]; omega]
      exact h2 i x (by simpa using hx)
theorem build_int {n : Nat} {t : TypeId} {k : IntKind} (hu : P.underlying t = some (.int k)) : Builds H enc P W (n + 1) t := by
  intro cs d ps h ι hp B
  unfold DataW.trod at h
  rw [hu] at h
  rcases cs with _ | ⟨v, _ | ⟨w, r⟩⟩
  · cases h
  · cases v with
    | int k' x =>
      simp only at h
      split at h
      · rename_i hc
        injection h with h; injection h with h _
        subst h
        obtain ⟨rfl, hw⟩ := hc
        exact ⟨ι, hp, [.int k' x], .refl _ _, B, .of_flat rfl, rfl, by unfold DE; rw [hu]; exact ⟨rfl, rfl, hw⟩⟩
      · cases h
    | slice a len cap => cases a <;> cases len <;> cases cap <;> cases h
    | _ => cases h
  · cases v with
    | slice a len cap => cases a <;> cases len <;> cases cap <;> cases h
    | _ => cases h
end
end Go.Ev
/- A law's arguments, as the evaluator's memory; from its word to the kit's. -/
namespace Go.Ev
open Go Go.ChangeShapes Go.WideShapes Go.ChangeAt Go.RowKit
section
variable {H : Type} {enc : TypeId × Value → H} {P : Program} {W : World}
/-- Arguments that read as some data. -/
def DEs (P : Program) (h : Hp) : List TypeId → List Value → List (DataW H) → Prop
  | [], [], [] => True
  | t :: ts, v :: vs, d :: ds => ((∃ n, DE P h n t v.cells.toList d) ∧ (aggT P t = some true ∨ v.cells.toList = [v])) ∧ DEs P h ts vs ds
  | _, _, _ => False
theorem DEs.mono {h h' : Hp} (hn : h.nx ≤ h'.nx) (hg : ∀ o, o < h.nx → h'.get o = h.get o) : ∀ {ts : List TypeId} {vs : List Value} {ds : List (DataW H)}, DEs P h ts vs ds → DEs P h' ts vs ds
  | [], [], [], h => h
  | _ :: _, _ :: _, _ :: _, ⟨⟨⟨n, h1⟩, h3⟩, h2⟩ => ⟨⟨⟨n, h1.mono hn hg⟩, h3⟩, h2.mono hn hg⟩
/-- A value is one cell, or a struct's or a row's cells. -/
def Shaped1 (P : Program) (t : TypeId) (v : Value) : Prop := v.cells.toList = [v] ∨ (∃ cs, v = .agg cs) ∧ aggT P t = some true
theorem args_build : ∀ {ts : List TypeId} {vs : List Value} {ds : List (DataW H)} {p : List MemPlace}, DataW.TrodAll enc P W 0 (fun _ => true) true ts vs ds p → (∀ t ∈ ts, ∀ n, Builds H enc P W n t) → (∀ (i : Nat) t v, ts[i]? = some t → vs[i]? = some v → Shaped1 P t v) → ∀ ι h, Base P ι h W →
    ∃ ι' h' evs, Ext1 h ι h' ι' ∧ Base P ι' h' W ∧ VRs ι' evs vs ∧ DEs P h' ts evs ds
  | [], [], [], _, _, _, _, ι, h, B => ⟨ι, h, [], .refl _ _, B, .nil _, trivial⟩
  | t :: ts, v :: vs, d :: ds, _, ⟨p, q, ⟨n, h1⟩, h2, _⟩, hb, hs, ι, h, B => by
    obtain ⟨ι1, h3, ev, E1, B1, V1, O1, D1⟩ := hb t (List.mem_cons_self ..) n _ _ _ h1 ι h B
    obtain ⟨ι2, h4, evs, E2, B2, V2, D2⟩ := args_build h2 (fun t ht => hb t (List.mem_cons_of_mem _ ht)) (fun i t v a b => hs (i + 1) t v (by simpa using a) (by simpa using b)) ι1 h3 B1
    have V1' := VRs.mono1 E2 B1.rh.fresh V1
    rcases hs 0 t v rfl rfl with hc | ⟨⟨cs, rfl⟩, hag⟩
    · rw [hc] at V1'
      have hl : ev.length = 1 := by have := V1'.1; simpa using this.symm
      obtain ⟨x, rfl⟩ : ∃ x, ev = [x] := List.length_eq_one_iff.1 hl
      have hx : x.cells.toList = [x] := by
        have : one x = true := by simpa using O1
        cases x <;> first | rfl | cases this
      obtain ⟨y, c, e1, e2, _⟩ := V1'.head
      injection e1 with e1 _
      subst e1
      refine ⟨ι2, h4, x :: evs, E1.trans E2, B2, .cons e2 V2, ⟨⟨n, ?_⟩, .inr hx⟩, D2⟩
      rw [hx]; exact D1.mono E2.nx E2.get
    · refine ⟨ι2, h4, .agg ev.toArray :: evs, E1.trans E2, B2, .cons ?_ V2, ⟨⟨n, ?_⟩, .inl hag⟩, D2⟩
      · have V1'' : VRs ι2 ev.toArray.toList cs.toList := by rw [List.toList_toArray]; exact V1'
        obtain ⟨a1, a2⟩ := VRs.arr.1 V1''
        exact .agg a1 a2
      · show DE P h4 n t (ev.toArray).toList d
        simpa using D1.mono E2.nx E2.get
theorem shaped_of {r : Reach} {base n : Nat} {t : TypeId} {v : Value} (hp : Plain P n t = true) (h : Value.okWide P W r base t v) : Shaped1 P t v := by
  cases n with
  | zero => cases hp
  | succ n =>
    unfold Plain at hp
    unfold Value.okWide at h
    split at hp
    · rename_i hu
      rw [hu] at h
      unfold Cell.okWide Cell.ok at h
      rw [hu] at h
      cases v <;> first | exact .inl rfl | exact h.elim
    · rename_i hu
      rw [hu] at h
      unfold Cell.okWide Cell.ok at h
      rw [hu] at h
      cases v <;> first | exact .inl rfl | exact h.elim
    · rename_i hu
      rw [hu] at h
      unfold Cell.okWide Cell.ok at h
      rw [hu] at h
      cases v <;> first | exact .inl rfl | exact h.elim
    · rename_i hu
      rw [hu] at h
      obtain ⟨cs, rfl, _⟩ := h
      exact .inr ⟨⟨cs, rfl⟩, by unfold aggT; rw [hu]⟩
    · rename_i hu
      rw [hu] at h
      obtain ⟨cs, rfl, _⟩ := h
      exact .inr ⟨⟨cs, rfl⟩, by unfold aggT; rw [hu]⟩
    · cases hp
theorem DE_int {h : Hp} {n : Nat} {t : TypeId} {k : IntKind} (hu : P.underlying t = some (.int k)) {cs : List Value} {d : DataW H} (hd : DE P h n t cs d) : ∃ x, cs = [.int k x] ∧ (Lit.int k x).wf = true := by
  cases n with
  | zero => exact hd.elim
  | succ n =>
    unfold DE at hd
    rw [hu] at hd
    split at hd
    all_goals first | (rename_i heq; cases heq; done) | skip
    · rename_i k' k2 x heq
      injection heq with heq; injection heq with heq
      subst heq
      exact ⟨x, hd.2⟩
    all_goals first | exact hd.elim | skip
/-- What was there stays, but for what is new. -/
theorem post_of_old {f : Func} {s : ChangeSpec} {apart fresh handsOn again : Bool} {W W' : World} {args : Array Value} {v : Value} {ds gs : List (DataW H)} {before pa pv : List MemPlace}
    (hW : DataW.Whole enc P f.params.toList s.vars apart W args.toList ds gs before)
    (hres : ∀ (b : Nat) (sp : Nat → Bool) (hd : Bool), DataW.TrodAll enc P W' b sp hd f.resultTypes.toList (v.resultList f.resultTypes.size) (s.fn H (ds ++ gs)).results [])
    (hargs : ∀ sp : Nat → Bool, (∀ p ∈ before, sp p.block = true) → DataW.TrodAll enc P W' 0 sp true f.params.toList args.toList (s.fn H (ds ++ gs)).args pa)
    (hvars : ∀ sp : Nat → Bool, (∀ p ∈ before, sp p.block = true) → DataW.TrodVars enc P W' sp s.vars (s.fn H (ds ++ gs)).vars pv)
    (hps : before = pa ++ pv) (hk : W.keptBut W' (· ∈ before)) (hfz : ∀ a : Addr, a.block < W.heap.size → W'.frozen? a = W.frozen? a)
    (hok : ∀ (j : Nat) (t : TypeId) (r : Value), f.resultTypes[j]? = some t → (v.resultList f.resultTypes.size)[j]? = some r → Value.okWide P W' .any 0 t r) :
    s.post enc P f apart fresh handsOn again W args v W' := by
  have hold : ∀ p ∈ before, (fun b => decide (b < W.heap.size)) p.block = true := fun p hp => by simpa using hW.lt p hp
  have hlt := hW.lt
  refine ⟨ds, gs, before, [], pa, pv, hW, hres _ _ _, hargs _ hold, hvars _ hold, World.keptBut_mono (fun p hp => ⟨hp, ?_⟩) hk, fun _ => ?_⟩
  · rw [hps, List.mem_append] at hp
    exact Or.inr hp
  · obtain ⟨_, _, _, _, _, hz, hn⟩ := hW
    refine ⟨hok, _, _, ([] ++ pa) ++ pv, ⟨[] ++ pa, pv, trodAll_append (hargs _ (fun _ _ => rfl)) (hres _ _ _), hvars _ (fun _ _ => rfl), rfl, ?_, ?_⟩, ?_⟩
    · intro b off hp
      have hp2 : MemPlace.cell b off ∈ before := by rw [hps]; simpa using hp
      rw [hfz _ (hlt _ hp2)]
      exact hz b off hp2
    · intro ha
      have := hn ha
      rw [hps] at this
      simpa using this
    · intro p hp _
      rw [hps]
      simpa using hp
/-- Arguments read again as they did. -/
theorem again {ts : List TypeId} {vs : List Value} {ds : List (DataW H)} {p : List MemPlace} {W' : World} (K : Kids P (· < P.types.size)) (full : ∀ t e, t < P.types.size → P.underlying t = some (.slice e) → 0 < P.cellsOf e) (hts : ∀ t ∈ ts, t < P.types.size)
    (hA : DataW.TrodAll enc P W 0 (fun _ => true) true ts vs ds p) (hb : Below W.heap.size W W') (hlt : ∀ q ∈ p, q.block < W.heap.size) (sp : Nat → Bool) (hs : ∀ q ∈ p, sp q.block = true) : DataW.TrodAll enc P W' 0 sp true ts vs ds p := by
  have hA' := DataW.TrodAll.respare K full hts hA hs
  clear hA hs hts
  induction ts generalizing vs ds p with
  | nil => match vs, ds, hA' with
    | [], [], h => exact h
  | cons t ts ih => match vs, ds, hA' with
    | v :: vs, d :: ds, ⟨p1, p2, ⟨n, h1⟩, h2, e⟩ =>
      subst e
      exact ⟨p1, p2, ⟨n, DataW.trod_carry n _ _ _ h1 fun q hq => hb.same (hlt q (List.mem_append_left _ hq))⟩, ih (fun q hq => hlt q (List.mem_append_right _ hq)) h2, rfl⟩
end
end Go.Ev
/- A law's arguments, as the evaluator's memory: structs, rows, and lists of lists. -/
namespace Go.Ev
open Go Go.ChangeShapes Go.WideShapes Go.ChangeAt Go.RowKit
section
variable {H : Type} {enc : TypeId × Value → H} {P : Program} {W : World}
/-- Fields one behind the other are the whole. -/
theorem lay_flat {n : Nat} : ∀ (fs : List Field) (off : Nat), layOk P off fs n = true → ∀ (cs : List Value), cs.length = n → (fs.map fun f => (cs.drop f.offset).take (P.cellsOf f.type)).flatten = cs.drop off := by
  intro fs
  induction fs with
  | nil =>
    intro off h cs hc
    have : off = n := Nat.eq_of_beq_eq_true h
    rw [List.drop_of_length_le (by omega)]; rfl
  | cons f fs ih =>
    intro off h cs hc
    simp only [layOk, Bool.and_eq_true] at h
    have h1 : f.offset = off := Nat.eq_of_beq_eq_true h.1
    rw [List.map_cons, List.flatten_cons, ih _ h.2 cs hc, h1, ← List.drop_drop, List.take_append_drop]
theorem lay_part {n : Nat} : ∀ (fs : List Field) (off : Nat), layOk P off fs n = true → ∀ (evs : List (List Value)), evs.length = fs.length → (∀ (i : Nat) f ev, fs[i]? = some f → evs[i]? = some ev → ev.length = P.cellsOf f.type) →
    ∀ (i : Nat) f ev, fs[i]? = some f → evs[i]? = some ev → off ≤ f.offset ∧ (evs.flatten.drop (f.offset - off)).take (P.cellsOf f.type) = ev := by
  intro fs
  induction fs with
  | nil => intro off _ evs _ _ i f ev hf; simp at hf
  | cons g fs ih =>
    intro off h evs hl hlen i f ev hf he
    simp only [layOk, Bool.and_eq_true] at h
    have h1 : g.offset = off := Nat.eq_of_beq_eq_true h.1
    rcases evs with _ | ⟨e0, evs⟩
    · simp at hl
    have hl0 : e0.length = P.cellsOf g.type := hlen 0 g e0 rfl rfl
    cases i with
    | zero =>
      simp at hf he
      subst hf he
      refine ⟨by omega, ?_⟩
      rw [h1, Nat.sub_self, List.drop_zero, List.flatten_cons, ← hl0, List.take_left]
    | succ i =>
      obtain ⟨g1, g2⟩ := ih _ h.2 evs (by simpa using hl) (fun i f ev a b => hlen (i + 1) f ev (by simpa using a) (by simpa using b)) i f ev (by simpa using hf) (by simpa using he)
      refine ⟨by omega, ?_⟩
      rw [List.flatten_cons, List.drop_append, List.drop_of_length_le (by omega), List.nil_append, show f.offset - off - e0.length = f.offset - (off + P.cellsOf g.type) by omega]
      exact g2
theorem lay_fit {n : Nat} : ∀ (fs : List Field) (off : Nat), layOk P off fs n = true → off ≤ n ∧ ∀ f ∈ fs, f.offset + P.cellsOf f.type ≤ n := by
  intro fs
  induction fs with
  | nil => intro off h; exact ⟨Nat.le_of_eq (Nat.eq_of_beq_eq_true h), fun f hf => by cases hf⟩
  | cons g fs ih =>
    intro off h
    simp only [layOk, Bool.and_eq_true] at h
    have h1 : g.offset = off := Nat.eq_of_beq_eq_true h.1
    obtain ⟨a, b⟩ := ih _ h.2
    refine ⟨by omega, fun f hf => ?_⟩
    rcases List.mem_cons.1 hf with rfl | hf
    · omega
    · exact b f hf
theorem build_struct {n : Nat} {fs : Array Field} {t : TypeId} (he : ∀ f ∈ fs.toList, Builds H enc P W n f.type) (hlay : layOk P 0 fs.toList (P.cellsOf t) = true) (hu : P.underlying t = some (.struct fs)) : Builds H enc P W (n + 1) t := by
  intro cs d ps h ι hp B
  have h : (if cs.length = P.cellsOf t then (fs.toList.mapM fun f => DataW.trod enc P W 0 (fun _ => true) true n f.type ((cs.drop f.offset).take (P.cellsOf f.type))).map fun xs => (DataW.agg (xs.map (·.1)), xs.flatMap (·.2)) else none) = some (d, ps) := by
    unfold DataW.trod at h
    rw [hu] at h
    exact h
  split at h
  · rename_i hc
    obtain ⟨xs, h1, h2⟩ := Option.map_eq_some_iff.1 h
    injection h2 with h2 _
    subst h2
    have l1 := Lib.mapM_length h1
    let l : List (TypeId × List Value × DataW H) := (fs.toList.zip (xs.map (·.1))).map fun p => (p.1.type, (cs.drop p.1.offset).take (P.cellsOf p.1.type), p.2)
    have hll : l.length = fs.toList.length := by simp [l, l1]
    have lget : ∀ i (hi : i < l.length), ∃ f x, fs.toList[i]? = some f ∧ xs[i]? = some x ∧ l[i] = (f.type, (cs.drop f.offset).take (P.cellsOf f.type), x.1) ∧ DataW.trod enc P W 0 (fun _ => true) true n f.type ((cs.drop f.offset).take (P.cellsOf f.type)) = some x := by
      intro i hi
      have hi1 : i < fs.toList.length := by omega
      have hi2 : i < xs.length := by omega
      obtain ⟨b, e1, e2⟩ := Lib.mapM_at h1 i _ (List.getElem?_eq_getElem hi1)
      rw [List.getElem?_eq_getElem hi2] at e1
      obtain rfl := Option.some.inj e1
      exact ⟨_, _, List.getElem?_eq_getElem hi1, List.getElem?_eq_getElem hi2, by simp [l], e2⟩
    obtain ⟨ι1, h3, evs, E1, B1, L1, V1, O1, D1⟩ := build_list l (fun p hpm => by
      obtain ⟨i, hi, rfl⟩ := List.getElem_of_mem hpm
      obtain ⟨f, x, a1, a2, a3, a4⟩ := lget i hi
      rw [a3]
      exact ⟨he f (List.mem_of_getElem? a1), _, a4⟩) ι hp B
    have hcells : l.map (·.2.1) = fs.toList.map fun f => (cs.drop f.offset).take (P.cellsOf f.type) := by
      refine List.ext_getElem (by simp [hll]) fun i hi hi' => ?_
      have hi3 : i < l.length := by simpa using hi
      obtain ⟨f, x, a1, a2, a3, a4⟩ := lget i hi3
      have hi4 : i < fs.toList.length := by omega
      have hf : fs.toList[i] = f := by rw [List.getElem?_eq_getElem hi4] at a1; exact Option.some.inj a1
      simp only [List.getElem_map]
      rw [a3, hf]
    rw [hcells, lay_flat fs.toList 0 hlay cs hc, List.drop_zero] at V1
    refine ⟨ι1, h3, evs.flatten, E1, B1, V1, O1, ?_⟩
    unfold DE
    rw [hu]
    have hlen : ∀ (i : Nat) f ev, fs.toList[i]? = some f → evs[i]? = some ev → ev.length = P.cellsOf f.type := by
      intro i f ev hf hev
      have hi : i < l.length := by have := (List.getElem?_eq_some_iff.1 hf).1; omega
      obtain ⟨ev', e1, e2, _⟩ := D1 i hi
      rw [hev] at e1
      obtain rfl := Option.some.inj e1
      obtain ⟨f', x, a1, a2, a3, a4⟩ := lget i hi
      rw [hf] at a1
      obtain rfl := Option.some.inj a1
      rw [← e2.1, a3]
      have hfit := (lay_fit fs.toList 0 hlay).2 f (List.mem_of_getElem? hf)
      show ((cs.drop f.offset).take (P.cellsOf f.type)).length = _
      rw [List.length_take, List.length_drop]; omega
    refine ⟨by rw [← V1.1]; exact hc, by simp [l1], fun i hi f hf => ?_⟩
    have hi2 : i < l.length := by simp at hi; omega
    obtain ⟨ev, e1, e2, e3⟩ := D1 i hi2
    obtain ⟨f', x, a1, a2, a3, a4⟩ := lget i hi2
    have hf' : fs.toList[i]? = some f := by rw [Array.getElem?_toList]; exact hf
    rw [hf'] at a1
    obtain rfl := Option.some.inj a1
    have := (lay_part fs.toList 0 hlay evs (by omega) hlen i f ev hf' e1).2
    rw [Nat.sub_zero] at this
    rw [this]
    rw [a3] at e3
    have hx : (xs.map (·.1))[i]'(by simpa using hi) = x.1 := by
      have hi3 : i < xs.length := by simpa using hi
      rw [List.getElem?_eq_getElem hi3] at a2
      obtain rfl := Option.some.inj a2
      simp
    rw [hx]; exact e3
  · cases h
/-- The parts of a struct. -/
theorem DE_struct {h : Hp} {n : Nat} {t : TypeId} {fs : Array Field} (hu : P.underlying t = some (.struct fs)) {cs : List Value} {d : DataW H} (hd : DE P h (n + 1) t cs d) :
    cs.length = P.cellsOf t ∧ ∀ (i : Nat) (f : Field), fs[i]? = some f → ∃ d' : DataW H, DE P h n f.type ((cs.drop f.offset).take (P.cellsOf f.type)) d' := by
  unfold DE at hd
  rw [hu] at hd
  split at hd
  all_goals first | (rename_i heq; cases heq; done) | skip
  · rename_i fs' parts heq
    injection heq with heq; injection heq with heq
    subst heq
    obtain ⟨h1, h2, h3⟩ := hd
    refine ⟨h1, fun i f hf => ?_⟩
    have hi : i < parts.length := by rw [h2]; exact (Array.getElem?_eq_some_iff.1 hf).1
    exact ⟨_, h3 i hi f hf⟩
  all_goals first | exact hd.elim | skip
end
end Go.Ev
/- A law's arguments, as the evaluator's memory: rows. -/
namespace Go.Ev
open Go Go.ChangeShapes Go.WideShapes Go.ChangeAt Go.RowKit
section
variable {H : Type} {enc : TypeId × Value → H} {P : Program} {W : World}
theorem row_flat {w : Nat} : ∀ (m : Nat) (cs : List Value), cs.length = m * w → ((List.range m).map fun i => (cs.drop (i * w)).take w).flatten = cs := by
  intro m
  induction m with
  | zero => intro cs h; rw [Nat.zero_mul] at h; rw [List.length_eq_zero_iff.1 h]; rfl
  | succ m ih =>
    intro cs h
    have e : cs = cs.take (m * w) ++ cs.drop (m * w) := (List.take_append_drop ..).symm
    have hm : (cs.take (m * w)).length = m * w := by rw [List.length_take, h, Nat.add_mul]; omega
    rw [List.range_succ, List.map_append, List.flatten_append]
    have e1 : ((List.range m).map fun i => (cs.drop (i * w)).take w) = (List.range m).map fun i => ((cs.take (m * w)).drop (i * w)).take w := by
      refine List.map_congr_left fun i hi => ?_
      have hi := List.mem_range.1 hi
      have : (i + 1) * w ≤ m * w := Nat.mul_le_mul_right w hi
      rw [Nat.add_mul] at this
      rw [List.drop_take, List.take_take, Nat.min_eq_left (by omega)]
    rw [e1, ih _ hm]
    simp only [List.map_cons, List.map_nil, List.flatten_cons, List.flatten_nil, List.append_nil]
    rw [List.take_of_length_le (l := cs.drop (m * w)) (by rw [List.length_drop, h, Nat.add_mul]; omega)]
    exact List.take_append_drop ..
theorem build_array {n m : Nat} {e t : TypeId} (he : Builds H enc P W n e) (hsz : P.cellsOf t = m * P.cellsOf e) (hu : P.underlying t = some (.array m e)) : Builds H enc P W (n + 1) t := by
  intro cs d ps h ι hp B
  have h : (if cs.length = P.cellsOf t then ((List.range m).mapM fun i => DataW.trod enc P W 0 (fun _ => true) true n e ((cs.drop (i * P.cellsOf e)).take (P.cellsOf e))).map fun xs => (DataW.agg (xs.map (·.1)), xs.flatMap (·.2)) else none) = some (d, ps) := by
    unfold DataW.trod at h
    rw [hu] at h
    exact h
  split at h
  · rename_i hc
    obtain ⟨xs, h1, h2⟩ := Option.map_eq_some_iff.1 h
    injection h2 with h2 _
    subst h2
    have l1 := Lib.mapM_length h1
    rw [List.length_range] at l1
    let l : List (TypeId × List Value × DataW H) := (List.range m).map fun i => (e, (cs.drop (i * P.cellsOf e)).take (P.cellsOf e), ((xs.map (·.1))[i]?).getD .nil)
    have hll : l.length = m := by simp [l]
    have lget : ∀ i (hi : i < l.length), ∃ x, xs[i]? = some x ∧ l[i] = (e, (cs.drop (i * P.cellsOf e)).take (P.cellsOf e), x.1) ∧ DataW.trod enc P W 0 (fun _ => true) true n e ((cs.drop (i * P.cellsOf e)).take (P.cellsOf e)) = some x := by
      intro i hi
      have hi1 : i < m := by omega
      have hi2 : i < xs.length := by omega
      obtain ⟨b, e1, e2⟩ := Lib.mapM_at h1 i i (by simp [hi1])
      rw [List.getElem?_eq_getElem hi2] at e1
      obtain rfl := Option.some.inj e1
      exact ⟨_, List.getElem?_eq_getElem hi2, by simp [l, hi2], e2⟩
    obtain ⟨ι1, h3, evs, E1, B1, L1, V1, O1, D1⟩ := build_list l (fun p hpm => by
      obtain ⟨i, hi, rfl⟩ := List.getElem_of_mem hpm
      obtain ⟨x, a2, a3, a4⟩ := lget i hi
      rw [a3]
      exact ⟨he, _, a4⟩) ι hp B
    have hcells : l.map (·.2.1) = (List.range m).map fun i => (cs.drop (i * P.cellsOf e)).take (P.cellsOf e) := by simp [l]
    rw [hcells, row_flat m cs (by rw [hc, hsz])] at V1
    refine ⟨ι1, h3, evs.flatten, E1, B1, V1, O1, ?_⟩
    unfold DE
    rw [hu]
    have hw : ∀ x ∈ evs, x.length = P.cellsOf e := by
      intro x hx
      obtain ⟨i, hi, rfl⟩ := List.getElem_of_mem hx
      obtain ⟨ev, e1, e2, _⟩ := D1 i (by omega)
      rw [List.getElem?_eq_getElem hi] at e1
      obtain rfl := Option.some.inj e1
      obtain ⟨x, a2, a3, a4⟩ := lget i (by omega)
      rw [← e2.1, a3]
      have : (i + 1) * P.cellsOf e ≤ m * P.cellsOf e := Nat.mul_le_mul_right _ (by omega)
      rw [Nat.add_mul] at this
      show ((cs.drop (i * P.cellsOf e)).take (P.cellsOf e)).length = _
      rw [List.length_take, List.length_drop, hc, hsz]; omega
    refine ⟨by rw [← V1.1]; exact hc, by simp [l1], fun i hi => ?_⟩
    have hi2 : i < l.length := by simp at hi; omega
    obtain ⟨ev, e1, e2, e3⟩ := D1 i hi2
    obtain ⟨x, a2, a3, a4⟩ := lget i hi2
    rw [(flat_row hw).2 i ev e1]
    rw [a3] at e3
    have hx : (xs.map (·.1))[i]'(by simpa using hi) = x.1 := by
      have hi3 : i < xs.length := by simpa using hi
      rw [List.getElem?_eq_getElem hi3] at a2
      obtain rfl := Option.some.inj a2
      simp
    rw [hx]; exact e3
  · cases h
/-- Cells are whole numbers of a kind, each in its range. -/
def AllInt (k : IntKind) (cs : List Value) : Prop := ∀ v ∈ cs, ∃ x, v = .int k x ∧ (Lit.int k x).wf = true
theorem AllInt.list {k : IntKind} : ∀ {cs : List Value}, AllInt k cs → ∃ xs : List Int, cs = xs.map (Value.int k) ∧ ∀ x ∈ xs, (Lit.int k x).wf = true := by
  intro cs
  induction cs with
  | nil => intro _; exact ⟨[], rfl, fun x h => by cases h⟩
  | cons v cs ih =>
    intro h
    obtain ⟨x, rfl, hx⟩ := h v (List.mem_cons_self ..)
    obtain ⟨xs, rfl, hxs⟩ := ih fun w hw => h w (List.mem_cons_of_mem _ hw)
    exact ⟨x :: xs, rfl, fun y hy => by
      rcases List.mem_cons.1 hy with rfl | hy
      · exact hx
      · exact hxs y hy⟩
theorem DE_allInt {h : Hp} {n : Nat} {t : TypeId} {k : IntKind} (hu : P.underlying t = some (.int k)) {cs : List Value} {d : DataW H} (hd : DE P h n t cs d) : AllInt k cs := by
  obtain ⟨x, rfl, hx⟩ := DE_int hu hd
  intro v hv
  exact ⟨x, List.mem_singleton.1 hv, hx⟩
/-- A row's cells are those of its parts. -/
theorem DE_array {h : Hp} {n m : Nat} {t e : TypeId} (hu : P.underlying t = some (.array m e)) (hsz : P.cellsOf t = m * P.cellsOf e) {k : IntKind} (he : ∀ n cs (d : DataW H), DE P h n e cs d → AllInt k cs) {cs : List Value} {d : DataW H} (hd : DE P h n t cs d) : cs.length = P.cellsOf t ∧ AllInt k cs := by
  cases n with
  | zero => exact hd.elim
  | succ n =>
    unfold DE at hd
    rw [hu] at hd
    split at hd
    all_goals first | (rename_i heq; cases heq; done) | skip
    · rename_i m' e' parts heq
      injection heq with heq; injection heq with h1 h2
      subst h1 h2
      obtain ⟨h1, h2, h3⟩ := hd
      refine ⟨h1, fun v hv => ?_⟩
      obtain ⟨j, hj, rfl⟩ := List.getElem_of_mem hv
      have hw : 0 < P.cellsOf e := by
        rcases Nat.eq_zero_or_pos (P.cellsOf e) with h0 | h0
        · rw [h1, hsz, h0] at hj; omega
        · exact h0
      have hi : j / P.cellsOf e < parts.length := by
        rw [h2]
        exact Nat.div_lt_of_lt_mul (by rw [Nat.mul_comm, ← hsz, ← h1]; exact hj)
      refine he _ _ _ (h3 _ hi) _ ?_
      have hmod := Nat.mod_lt j hw
      have hdm := Nat.div_add_mod j (P.cellsOf e)
      refine List.mem_iff_getElem?.2 ⟨j % P.cellsOf e, ?_⟩
      rw [List.getElem?_take_of_lt hmod, List.getElem?_drop, Nat.mul_comm, hdm, List.getElem?_eq_getElem hj]
    all_goals first | exact hd.elim | skip
theorem wf_rng {k : IntKind} {x : Int} (h : (Lit.int k x).wf = true) : k.min ≤ x ∧ x ≤ k.max := by
  have h : (decide (k.min ≤ x) && decide (x ≤ k.max)) = true := h
  simpa using h
end
end Go.Ev
namespace Go.Proofs.YtfgfhplgnfbaaaaDoor
open Go.Ev
theorem works_ev : saysTrue (evCall Tryd.prog 1000 100 27 [] h0) = true := by kernel_rfl
end Go.Proofs.YtfgfhplgnfbaaaaDoor
/- 'works' is answered beforehand. -/
namespace Go.Proofs.YtfgfhplgnfbaaaaDoor
open Go Go.Ev
theorem h0_get (o : Nat) (x : Ob) (h : h0.get o = some x) : o = 0 ∧ x = .cells tab 0 .ro := by
  have h : (Tr.set (Tr.full none 64) 0 (some (Ob.cells tab 0 .ro))).get none o = some x := h
  rw [Tr.get_set] at h
  split at h
  · split at h
    · exact ⟨‹_›, (Option.some.inj h).symm⟩
    · cases h
  · rw [Tr.get_full] at h; cases h
theorem tab_flat : tab.all flat = true := by kernel_rfl
theorem tab_one : tab.all one = true := by kernel_rfl
/-- 'works' is true, wherever the table stands. -/
theorem works_calls {h : Hp} (_ : 0 < h.nx) (hh : h.get 0 = some (.cells tab 0 .ro)) {iota : Inj} {w : World} (R : RH Tryd.prog iota h w) : Calls Tryd.prog 27 #[] w fun e w' => e = .returned (.bool true) ∧ Went Tryd.prog h iota w h iota w' := by
  have hev := works_ev
  cases hr : evCall Tryd.prog 1000 100 27 [] h0 with
  | none => rw [hr] at hev; cases hev
  | some r =>
    obtain ⟨v, h1⟩ := r
    rw [hr] at hev
    obtain rfl : v = .bool true := by
      cases v with
      | bool b => have : b = true := hev; rw [this]
      | _ => cases hev
    exact closed_call mixed noNum (fn := Tryd.f27) Tryd.func27 (by kernel_rfl) hr rfl rfl (fun o x ho => ⟨tab, 0, (h0_get o x ho).2, tab_flat⟩) (fun o x ho => by
      obtain ⟨rfl, rfl⟩ := h0_get o x ho
      exact ⟨hh, Nat.zero_lt_one⟩) (by rw [gsz]; exact Nat.le_refl _) R
def isTab : List Value → List Value → Bool
  | [], [] => true
  | .int .u8 a :: l, .int .u8 b :: r => eqI a b && isTab l r
  | _, _ => false
theorem isTab_eq : ∀ (l r : List Value), isTab l r = true → l = r := by
  intro l
  induction l with
  | nil => intro r h; cases r with
    | nil => rfl
    | cons => simp [isTab] at h
  | cons a l ih =>
    intro r h
    unfold isTab at h
    split at h
    · rename_i h2; cases h2
    · rename_i x l2 y r2 h2
      injection h2 with e1 e2
      subst e1 e2
      rw [Bool.and_eq_true, eqI_eq] at h
      rw [ih _ h.2, (by simpa using h.1 : x = y)]
    · cases h
/-- The one call that is answered beforehand. -/
noncomputable def Ow : CallF := fun f args h => bif Nat.beq f 27 then (match args, h.get 0 with
  | [], some (.cells l 0 .ro) => bif Nat.blt 0 h.nx && isTab l tab then some (.bool true, h) else none
  | _, _ => none) else none
set_option maxRecDepth 100000 in
theorem Ow_ok : COk Tryd.prog Ow := by
  intro f args h v h' hs iota w args' R ha o a next Q hn
  unfold Ow at hs
  cases hf : Nat.beq f 27 with
  | false => rw [hf, cond_false] at hs; cases hs
  | true =>
    obtain rfl : f = 27 := Nat.eq_of_beq_eq_true hf
    rw [hf, cond_true] at hs
    split at hs
    · rename_i l hg
      obtain ⟨ht, h2⟩ := cond_some hs
      rw [Bool.and_eq_true] at ht
      injection h2 with h2
      injection h2 with e1 e2
      subst e1 e2
      obtain rfl := isTab_eq _ _ ht.2
      obtain rfl := List.length_eq_zero_iff.1 ha.1
      rw [run_callFunc noNum Tryd.func27 (by kernel_rfl) ([] : List Value).toArray w]
      refine (works_calls (by simpa using ht.1) hg R).mono fun e w' ⟨he, g⟩ => ?_
      subst he
      exact hn iota _ w' g (.flat rfl)
    · cases hs
theorem Ow_oth (f : FuncId) (args : List Value) (h : Hp) (hf : f ≠ 27) : Ow f args h = none := by
  unfold Ow
  have : Nat.beq f 27 = false := by rw [Bool.eq_false_iff]; intro hh; exact hf (Nat.eq_of_beq_eq_true hh)
  rw [this]; rfl
theorem tab_self : isTab tab tab = true := by kernel_rfl
theorem Ow_works {h : Hp} (hn : 0 < h.nx) (hh : h.get 0 = some (.cells tab 0 .ro)) : EvC Tryd.prog Ow 27 [] h (.bool true) h := by
  refine ⟨0, ?_⟩
  show Ow 27 [] h = _
  unfold Ow
  show (match ([] : List Value), h.get 0 with
    | [], some (.cells l 0 .ro) => bif Nat.blt 0 h.nx && isTab l tab then some (Value.bool true, h) else none
    | _, _ => none) = _
  rw [hh]
  simp only [tab_self, show Nat.blt 0 h.nx = true by simpa using hn, Bool.and_self, cond_true]
end Go.Proofs.YtfgfhplgnfbaaaaDoor
/- From the evaluator's word on a law of layer 20 to the kit's. -/
namespace Go.Proofs.YtfgfhplgnfbaaaaDoor
open Go Go.Ev Go.ChangeShapes Go.WideShapes Go.ChangeAt Go.RowKit
theorem own : ownKnob Tryd.prog.godebug = none := by kernel_rfl
theorem gTab : Tryd.prog.globalNamed "math/bits.deBruijn32tab" = some 0 := by kernel_rfl
theorem gTabType : (Tryd.prog.globals[0]?).map (·.type) = some 156 := by kernel_rfl
theorem cellsArr : Tryd.prog.cellsOf 156 = 32 := by kernel_rfl
theorem cellsOne : Tryd.prog.cellsOf 5 = 1 := by kernel_rfl
def nums : List Int := [0,1,28,2,29,14,24,3,30,22,20,15,25,17,4,8,31,27,13,23,21,19,16,7,26,12,18,6,11,5,10,9]
set_option maxRecDepth 100000 in
theorem kids : Kids Tryd.prog (· < Tryd.prog.types.size) := kids_rows (by kernel_rfl) (by kernel_rfl)
set_option maxRecDepth 100000 in
theorem full : ∀ t e, t < Tryd.prog.types.size → Tryd.prog.underlying t = some (.slice e) → 0 < Tryd.prog.cellsOf e := slices_full_of _ (by kernel_rfl)
theorem tab_cells {W : World} (h : Lib.TabIs Tryd.prog W "math/bits.deBruijn32tab" .u8 nums) : ∀ j x, tab[j]? = some x → W.cell? ⟨0, j, none⟩ = some x := by
  intro j x hj
  have hjl : j < 32 := (List.getElem?_eq_some_iff.1 hj).1
  have hn : j < nums.length := hjl
  have := h.cell gTab j hn
  rw [this]
  have e : tab = nums.map fun x => Value.int .u8 x := rfl
  rw [e, List.getElem?_map, List.getElem?_eq_getElem hn] at hj
  rw [List.getD_eq_getElem?_getD, List.getElem?_eq_getElem hn]
  exact hj
/-- The names at the start: the one package-level variable. -/
def iota0 : Inj := fun o => if o = 0 then some ⟨0, 0, 0, 0⟩ else none
theorem start_RH {W : World} (ht : ∀ j x, tab[j]? = some x → W.cell? ⟨0, j, none⟩ = some x) : RH Tryd.prog iota0 h0 W := by
  have h00 := ht 0 _ rfl
  have hblk : ∃ c e fr, W.heap[0]? = some (.cells c e fr) := by
    cases hb : W.heap[0]? with
    | none => simp [World.cell?, hb] at h00
    | some y =>
      cases y with
      | cells c e fr => exact ⟨c, e, fr, rfl⟩
      | _ => simp [World.cell?, hb] at h00
  obtain ⟨c, e, fr, hb⟩ := hblk
  refine ⟨fun o x ho => ?_, fun o q x y vo vq _ ho hx => ?_, fun o ho => if_neg (by have : 1 ≤ o := ho; omega), fun g hg => ?_, by rw [gsz]; exact Nat.le_refl _⟩
  · obtain ⟨rfl, rfl⟩ := h0_get o x ho
    refine ⟨Nat.zero_lt_one, ⟨0, 0, 0, 0⟩, rfl, tab_one, c, e, fr, hb, fun j x hx => ?_, fun h => absurd rfl h, fun h => by cases h⟩
    have := ht j x hx
    refine ⟨x, ?_, .flat (all_get tab_flat hx)⟩
    simpa [World.cell?, hb] using this
  · obtain ⟨rfl, rfl⟩ := h0_get o x ho
    cases hx
  · rw [gsz] at hg
    obtain rfl : g = 0 := by omega
    exact ⟨0, 0, rfl⟩
set_option maxRecDepth 100000 in
theorem h0_tab : h0.get 0 = some (.cells tab 0 .ro) := by kernel_rfl
set_option maxRecDepth 100000 in
theorem start_base {W : World} (ht : ∀ j x, tab[j]? = some x → W.cell? ⟨0, j, none⟩ = some x) : Base Tryd.prog iota0 h0 W :=
  ⟨start_RH ht, fun o x ho => by obtain ⟨rfl, rfl⟩ := h0_get o x ho; rfl, rfl, ⟨_, ⟨0, 0, 0, 0⟩, h0_tab, rfl, Nat.zero_lt_one, tab, 0, rfl⟩⟩
set_option maxRecDepth 100000 in
/-- A law that the evaluator finds true, wherever its arguments lie, is true. -/
theorem law_calls {H : Type} {enc : TypeId × Value → H} {f : FuncId} {fn : Func} (hf : Tryd.prog.funcs[f]? = some fn) (hb : fn.body.isSome = true) (h27 : f ≠ 27) {W : World} (ht : ∀ j x, tab[j]? = some x → W.cell? ⟨0, j, none⟩ = some x)
    {ts : List TypeId} {args : Array Value} {ds : List (DataW H)} {p : List MemPlace} (hA : DataW.TrodAll enc Tryd.prog W 0 (fun _ => true) true ts args.toList ds p) (hbd : ∀ t ∈ ts, ∀ n, Builds H enc Tryd.prog W n t) (hs : ∀ (i : Nat) t v, ts[i]? = some t → args.toList[i]? = some v → Shaped1 Tryd.prog t v)
    (hR : ∀ (h : Hp) (evs : List Value), Tb h → h.Ok → h.gd = [] → DEs Tryd.prog h ts evs ds → Ret Tryd.prog Ow f evs h fun v _ => v = .bool true) :
    Calls Tryd.prog f args W fun e W' => e = .returned (.bool true) ∧ Below W.heap.size W W' := by
  obtain ⟨ι, h, evs, E, B, V, D⟩ := args_build hA hbd hs iota0 h0 (start_base ht)
  have hg : h.gd = [] := B.gd
  have htb : Tb h := ⟨Nat.lt_of_lt_of_le Nat.zero_lt_one E.nx, by rw [E.get 0 Nat.zero_lt_one]; exact h0_tab⟩
  have hfr : h.Fresh := fun o ho => by
    cases ho2 : h.get o with
    | none => rfl
    | some x => have := (B.rh.live o x ho2).1; omega
  obtain ⟨v, h', he, rfl⟩ := hR h evs htb ⟨fun q hq => (by rw [hg] at hq; cases hq), hfr⟩ hg D
  have := calls_of_EvC mixed noNum Ow_ok hf hb (Ow_oth f evs h h27) he B.rh V
  have e : args.toList.toArray = args := by simp
  rw [e] at this
  refine this.mono fun e W' ⟨ι', v', h1, h2, h3⟩ => ?_
  obtain rfl := VR.of_flat rfl h3
  exact ⟨h1, h2.fr.os, h2.fr.tape, h2.fr.output, h2.fr.size, fun k hk => h2.fr.rest k hk fun o x _ ho hx => by rw [B.ro o x ho] at hx; cases hx⟩
/-- A world for the witness: the table holds what its initialiser lays. -/
noncomputable def laidWorld (os : Os) : World :=
  { World.holding Tryd.prog os ⟨#[], #[], []⟩ with heap := (World.holding Tryd.prog os ⟨#[], #[], []⟩).heap.modify 0 fun
      | .cells _ t frozen => .cells tab.toArray t frozen
      | o => o }
end Go.Proofs.YtfgfhplgnfbaaaaDoor
/- SatForms of layer 20 returns true, for every input: its law, by the contracts of what it calls. -/
namespace Go.Proofs.YtfgfhplgnfbaaaaDoor
open Go Go.Ev
theorem works_true {h : Hp} (ht : Tb h) : EvT Ow 27 [] h (.bool true) h := Ow_works ht.1 ht.2
/-! ### arguments -/
section
variable {H : Type} {enc : TypeId × Value → H} {W : World}
theorem build0 (t : TypeId) : Builds H enc Tryd.prog W 0 t := fun cs d ps h => by simp [DataW.trod] at h
end
end Go.Proofs.YtfgfhplgnfbaaaaDoor
/- Arguments by numbers: how they lie in memory. -/
namespace Go.Proofs.YtfgfhplgnfbaaaaDoor
open Go Go.Ev Go.ChangeShapes Go.WideShapes Go.ChangeAt Go.RowKit
theorem und5 : Tryd.prog.underlying 5 = some (.int .u8) := by kernel_rfl
theorem und22 : Tryd.prog.underlying 22 = some (.int .i8) := by kernel_rfl
theorem und23 : Tryd.prog.underlying 23 = some (.array 3 22) := by kernel_rfl
theorem und24 : Tryd.prog.underlying 24 = some (.array 14 23) := by kernel_rfl
theorem sz23 : Tryd.prog.cellsOf 23 = 3 * Tryd.prog.cellsOf 22 := by kernel_rfl
theorem sz24 : Tryd.prog.cellsOf 24 = 14 * Tryd.prog.cellsOf 23 := by kernel_rfl
theorem n24 : Tryd.prog.cellsOf 24 = 42 := by kernel_rfl
section
variable {H : Type} {enc : TypeId × Value → H} {W : World}
theorem bld5 : ∀ n, Builds H enc Tryd.prog W n 5
  | 0 => build0 5
  | _ + 1 => build_int und5
theorem bld22 : ∀ n, Builds H enc Tryd.prog W n 22
  | 0 => build0 22
  | _ + 1 => build_int und22
theorem bld23 : ∀ n, Builds H enc Tryd.prog W n 23
  | 0 => build0 23
  | n + 1 => build_array (bld22 n) sz23 und23
theorem bld24 : ∀ n, Builds H enc Tryd.prog W n 24
  | 0 => build0 24
  | n + 1 => build_array (bld23 n) sz24 und24
theorem agg_of_list {v : Value} {l : List Value} (h : v.cells.toList = l) (hl : l.length ≠ 1) : v = .agg l.toArray := by
  cases v with
  | agg cs =>
    have h : cs.toList = l := h
    obtain ⟨k⟩ := cs
    have h : k = l := h
    rw [h]
  | _ => exact absurd (by rw [← h]; rfl) hl
theorem byte_of {h : Hp} {n : Nat} {cs : List Value} {d : DataW H} (D : DE Tryd.prog h n 5 cs d) : ∃ x : Nat, cs = [.int .u8 (Int.ofNat x)] ∧ x < 256 := by
  obtain ⟨x, e, hx⟩ := DE_int und5 D
  have := wf_rng hx
  have m1 : IntKind.min .u8 = 0 := rfl
  have m2 : IntKind.max .u8 = 255 := rfl
  obtain ⟨n, rfl⟩ : ∃ n : Nat, x = Int.ofNat n := ⟨x.toNat, by simp only [Int.ofNat_eq_natCast]; omega⟩
  exact ⟨n, e, by simp only [Int.ofNat_eq_natCast] at *; omega⟩
theorem n26 : Tryd.prog.cellsOf 26 = 44 := by kernel_rfl
theorem n5 : Tryd.prog.cellsOf 5 = 1 := by kernel_rfl
set_option maxRecDepth 100000 in
theorem bld26 : ∀ n, Builds H enc Tryd.prog W n 26
  | 0 => build0 26
  | n + 1 => build_struct (fun f hf => by
      simp at hf
      rcases hf with rfl | rfl | rfl
      · exact bld5 n
      · exact bld5 n
      · exact bld24 n) (by kernel_rfl) Tryd.underlying26
theorem int22 {h : Hp} : ∀ n cs (d : DataW H), DE Tryd.prog h n 22 cs d → AllInt .i8 cs := fun _ _ _ D => DE_allInt und22 D
theorem int23 {h : Hp} : ∀ n cs (d : DataW H), DE Tryd.prog h n 23 cs d → AllInt .i8 cs := fun _ _ _ D => (DE_array und23 sz23 int22 D).2
theorem i8_rng {x : Int} (h : (Lit.int .i8 x).wf = true) : -128 ≤ x ∧ x < 128 := by
  have := wf_rng h
  have m1 : IntKind.min .i8 = -128 := rfl
  have m2 : IntKind.max .i8 = 127 := rfl
  omega
set_option maxRecDepth 100000 in
/-- A puzzle. -/
theorem puz_of {h : Hp} {n : Nat} {v : Value} {d : DataW H} (D : DE Tryd.prog h n 26 v.cells.toList d) : ∃ vars many cl, v = .agg (puzV vars many cl).toArray ∧ PuzOk vars many cl := by
  cases n with
  | zero => exact D.elim
  | succ n =>
    obtain ⟨hl, hf⟩ := DE_struct Tryd.underlying26 D
    rw [n26] at hl
    obtain ⟨d0, D0⟩ := hf 0 _ rfl
    obtain ⟨d1, D1⟩ := hf 1 _ rfl
    obtain ⟨d2, D2⟩ := hf 2 _ rfl
    obtain ⟨x, e0, hx⟩ := byte_of D0
    obtain ⟨y, e1, hy⟩ := byte_of D1
    obtain ⟨l2, a2⟩ := DE_array und24 sz24 int23 D2
    obtain ⟨cl, e2, hcl⟩ := a2.list
    have e0 : (v.cells.toList.drop 0).take 1 = [.int .u8 (Int.ofNat x)] := by rw [← n5]; exact e0
    have e1 : (v.cells.toList.drop 1).take 1 = [.int .u8 (Int.ofNat y)] := by rw [← n5]; exact e1
    have e2 : (v.cells.toList.drop 2).take 42 = cl.map (Value.int .i8) := by rw [← n24]; exact e2
    have e : v.cells.toList = puzV x y cl := by
      generalize v.cells.toList = cs at *
      rcases cs with _ | ⟨a, _ | ⟨b, r⟩⟩
      · simp at hl
      · simp at hl
      · simp at e0 e1 e2
        rw [List.take_of_length_le (by simp at hl; omega)] at e2
        rw [e0, e1, e2]; rfl
    have lcl : cl.length = 42 := by
      have := congrArg List.length e
      rw [hl] at this
      simp [puzV] at this; omega
    exact ⟨x, y, cl, agg_of_list e (by simp [puzV, lcl]), hx, hy, lcl, fun z hz => i8_rng (hcl z hz)⟩
/-- A row of small numbers. -/
theorem row_of {h : Hp} {n m t : Nat} {v : Value} {d : DataW H} (hu : Tryd.prog.underlying t = some (.array m 22)) (hs : Tryd.prog.cellsOf t = m * Tryd.prog.cellsOf 22) {w : Nat} (hw : Tryd.prog.cellsOf t = w) (hw1 : w ≠ 1) (D : DE Tryd.prog h n t v.cells.toList d) : ∃ ls : List Int, v = .agg (ls.map (Value.int .i8)).toArray ∧ ls.length = w ∧ ∀ x ∈ ls, -128 ≤ x ∧ x < 128 := by
  obtain ⟨l2, a2⟩ := DE_array hu hs int22 D
  obtain ⟨ls, e, hls⟩ := a2.list
  have hl : ls.length = w := by
    have := congrArg List.length e
    rw [l2, hw] at this
    simpa using this.symm
  exact ⟨ls, agg_of_list e (by rw [List.length_map]; omega), hl, fun z hz => i8_rng (hls z hz)⟩
end
end Go.Proofs.YtfgfhplgnfbaaaaDoor
/- SatResolved of layer 20: the law. -/
namespace Go.Proofs.YtfgfhplgnfbaaaaDoor
open Go Go.Ev
theorem ret_ri {O : CallF} {f : FuncId} {az : List Value} {h : Hp} {xs : List Int} (r : Ret Tryd.prog O f az h (RInts h xs)) {K : Option Addr → Nat → Nat → Hp → Prop} (next : ∀ a n c h', IntsAt h' a n xs → Kp h.nx h h' → (∀ b off, a = some ⟨b, off, none⟩ → h.nx ≤ b) → K a n c h') : ∃ a n c, ∃ h', EvC Tryd.prog O f az h (.slice a n c) h' ∧ K a n c h' :=
  let ⟨_, h', e, a, n, c, hv, q1, q2, q3⟩ := r; ⟨a, n, c, h', hv ▸ e, next a n c h' q1 q2 q3⟩
abbrev Yes : Value → Hp → Prop := fun v _ => v = .bool true
section
variable {p0 p1 p2 p3 q0 q1 q2 q3 pw : Int} {h₀ : Hp} (ok : h₀.Ok) (ht : Tb h₀)
include ok ht
end
section
variable {x0 x1 x2 x3 y0 y1 y2 y3 : Int} (hx : ∀ x ∈ [x0, x1, x2, x3], -128 ≤ x ∧ x < 128) (hy : ∀ x ∈ [y0, y1, y2, y3], -128 ≤ x ∧ x < 128) {w : Nat} (hw : w < 256) {h₀ : Hp} (ok : h₀.Ok) (ht : Tb h₀)
include hx hy hw ok ht
end
end Go.Proofs.YtfgfhplgnfbaaaaDoor
/- Conditions of functions' code, printed by a program of ours. -/
namespace Go.Proofs.YtfgfhplgnfbaaaaDoor
open Go Go.Ev
set_option maxRecDepth 100000
set_option linter.unusedVariables false
/-! sward/swardlaw20.SatProofs -/
end Go.Proofs.YtfgfhplgnfbaaaaDoor
/- SatProofs of layer 20: its law. -/
namespace Go.Proofs.YtfgfhplgnfbaaaaDoor
open Go Go.Ev
section
variable {O : CallF} (hO : Oth O)
include hO
end
section
variable {v0 : Array Value} {x1 x2 : Int} {N : Nat} (hN : 1 ≤ N ∧ N ≤ 8) {cls : List (List Int)} {gs : List Int} {pf : List (List Int)} (hcl : cls.length ≤ 14) (hc : ∀ l ∈ cls, Cv (Int.ofNat N) l) (hg : Cv (Int.ofNat N) gs) (hp : ∀ l ∈ pf, Cv (Int.ofNat N) l) (hpl : pf.length ≤ 2000) (hr : accF gs cls pf 0 = none) {L : List (List Int)} (hL : pf = L ++ [[]])
  {hB : Hp} (ok : hB.Ok) (ht : Tb hB) {b7 : Nat} (hb7 : b7 < hB.nx) {aF a8 aP : Option Addr} {nF cF n8 c8 nP cP : Nat} (g7 : hB.get b7 = some (.cells [.int .i64 (Int.ofNat N), .slice aF nF cF] 30 .fix)) (F : IntssAt hB aF nF cls) (G : IntsAt hB a8 n8 gs) (PL : IntssAt hB aP nP pf)
include hN hcl hc hg hp hpl hr hL ok ht hb7 g7 F G PL
end
end Go.Proofs.YtfgfhplgnfbaaaaDoor
/- SatProofs of layer 20: its law, joined. -/
namespace Go.Proofs.YtfgfhplgnfbaaaaDoor
open Go Go.Ev
theorem cv_len {N : Nat} {l : List Int} (h : Cv (Int.ofNat N) l) : l.length ≤ N := by
  rcases dif_len (N := N) (lo := 0) h.1 (fun x hx => by obtain ⟨h1, h2⟩ := h.2 x hx; have := h1.1; simp only [Int.ofNat_eq_natCast] at h2; omega) with h | h
  · omega
  · rw [h]; simp
end Go.Proofs.YtfgfhplgnfbaaaaDoor
/- Core and Blame: their contracts, where the formula and what is given are as defined. -/
namespace Go.Proofs.YtfgfhplgnfbaaaaDoor
open Go Go.Ev
/-- How the search ends with some of the clauses, and with some of the given literals. -/
abbrev howC (N : Nat) (cls : List (List Int)) (gs : List Int) (xs : List Int) : Int := (solF N (selC cls xs) gs).how
abbrev howG (N : Nat) (cls : List (List Int)) (gs : List Int) (xs : List Int) : Int := (solF N cls (selG gs xs)).how
section
variable {O : CallF} (hO : Oth O)
include hO
theorem ct25 {h : Hp} (ok : h.Ok) (ht : Tb h) {N : Nat} (hN : N ≤ 30) {cls : List (List Int)} {gs : List Int} (hcl : cls.length ≤ 120) (hc : ∀ l ∈ cls, Cv (Int.ofNat N) l) (hg : Cv (Int.ofNat N) gs)
    {aF aG : Option Addr} {nF cF nG cG : Nat} (F : IntssAt h aF nF cls) (G : IntsAt h aG nG gs) :
    Ret Tryd.prog O 25 [Fm (Int.ofNat N) aF nF cF, .slice aG nG cG] h fun v h' => ∃ a n c, v = .tuple #[.slice a n c, .int .i64 (blamedF cls.length (howC N cls gs)).2] ∧ IntsAt h' a n (blamedF cls.length (howC N cls gs)).1 ∧ Kp h.nx h h' := by
  refine rk25 _ _ _ _ _ _ _ (hO _ _ _ (by decide)) ?_
  unfold T25
  intro g1 g2
  have k1 : Kp h.nx h g1 := (Kp.refl _ _).add (Nat.le_refl _) _
  have e1 : g1.get h.nx = some (.cells [.int .i64 (Int.ofNat N), .slice aF nF cF] 30 .fix) := get_add_same ..
  have n1 : g1.nx = h.nx + 1 := nx_add ..
  have k2 : Kp h.nx h g2 := k1.add (by omega) _
  have e2 : g2.get h.nx = some (.cells [.int .i64 (Int.ofNat N), .slice aF nF cF] 30 .fix) := by
    rw [show g2.get h.nx = g1.get h.nx from get_add_ne (by omega)]; exact e1
  have e3 : g2.get g1.nx = some (.cells [.slice aG nG cG] 32 .fix) := get_add_same ..
  have n2 : g2.nx = h.nx + 2 := by show g1.nx + 1 = _; omega
  have f2 := k2.ex (Nat.le_refl _)
  have glen := cv_len hg
  have llen : ∀ l ∈ cls, l.length < 1000000 := fun l hl => by have := cv_len (hc l hl); omega
  have ha : askB (Int.ofNat N) cls gs = true := ask_of (by simp only [Int.ofNat_eq_natCast]; omega) (by simp only [Int.ofNat_eq_natCast]; omega) hcl hc hg
  refine ⟨_, _, _, _, by rw [readAt_get e2 (by simp)]; rfl, _, _, _, read1 e3 (i := 0) rfl, ?_⟩
  obtain ⟨v, h11, e11, rfl, K11⟩ := ct78 hO (c := cF) (vars := Int.ofNat N) (c1 := cG) (F.to g2) (by omega) llen (G.to g2) (by omega)
  rw [ha, if_pos rfl] at e11
  have k11 : Kp h.nx h h11 := k2.trans (K11.le k2.nx)
  have f11 := k11.ex (Nat.le_refl _)
  have g11 : h11.get h.nx = some (.cells [.int .i64 (Int.ofNat N), .slice aF nF cF] 30 .fix) := by rw [K11.get _ (by omega)]; exact e2
  have g11b : h11.get g1.nx = some (.cells [.slice aG nG cG] 32 .fix) := by rw [K11.get _ (by omega)]; exact e3
  have n11 := K11.nx
  refine ⟨_, h11, e11, vcond_f rfl ⟨_, _, _, read1 g11 (i := 1) rfl, ?_⟩⟩
  have ok11 := ok.kp k11
  have ht11 := ht.kp k11 ht.1
  have hnF := F.1
  have HV : HaveOk O 83 #[] #[.pointer (some ⟨h.nx, 0, none⟩), .pointer (some ⟨g1.nx, 0, none⟩)] h11 cls.length (howC N cls gs) := fun h' kp a m c xs X s => by
    have f := kp.ex (Nat.le_refl _)
    exact ct83 hO (ok11.kp kp) (ht11.kp kp ht11.1) hN hc (by omega) hg.2 (by omega) (Nat.lt_of_lt_of_le (by omega) kp.nx) (by rw [kp.get _ (by omega)]; exact g11) (Nat.lt_of_lt_of_le (by omega) kp.nx) (by rw [kp.get _ (by omega)]; exact g11b) ((F.to h11).to h') ((G.to h11).to h') X s
  rw [hnF]
  obtain ⟨v, h19, e19, a, n, c, rfl, X19, K19⟩ := ct82 hO ok11 (by omega) HV
  exact ⟨_, _, _, _, h19, e19, _, _, _, rfl, X19, k11.trans (K19.le k11.nx)⟩
theorem ct51 {h : Hp} (ok : h.Ok) (ht : Tb h) {N : Nat} (hN : N ≤ 30) {cls : List (List Int)} {gs : List Int} (hcl : cls.length ≤ 120) (hc : ∀ l ∈ cls, Cv (Int.ofNat N) l) (hg : Cv (Int.ofNat N) gs)
    {aF aG : Option Addr} {nF cF nG cG : Nat} (F : IntssAt h aF nF cls) (G : IntsAt h aG nG gs) :
    Ret Tryd.prog O 51 [Fm (Int.ofNat N) aF nF cF, .slice aG nG cG] h fun v h' => ∃ a n c, v = .tuple #[.slice a n c, .int .i64 (blamedF gs.length (howG N cls gs)).2] ∧ IntsAt h' a n (selG gs (blamedF gs.length (howG N cls gs)).1) ∧ Kp h.nx h h' := by
  refine rk51 _ _ _ _ _ _ _ (hO _ _ _ (by decide)) ?_
  unfold T51
  intro g1 g2
  have k1 : Kp h.nx h g1 := (Kp.refl _ _).add (Nat.le_refl _) _
  have e1 : g1.get h.nx = some (.cells [.int .i64 (Int.ofNat N), .slice aF nF cF] 30 .fix) := get_add_same ..
  have n1 : g1.nx = h.nx + 1 := nx_add ..
  have k2 : Kp h.nx h g2 := k1.add (by omega) _
  have e2 : g2.get h.nx = some (.cells [.int .i64 (Int.ofNat N), .slice aF nF cF] 30 .fix) := by
    rw [show g2.get h.nx = g1.get h.nx from get_add_ne (by omega)]; exact e1
  have e3 : g2.get g1.nx = some (.cells [.slice aG nG cG] 32 .fix) := get_add_same ..
  have n2 : g2.nx = h.nx + 2 := by show g1.nx + 1 = _; omega
  have f2 := k2.ex (Nat.le_refl _)
  have glen := cv_len hg
  have llen : ∀ l ∈ cls, l.length < 1000000 := fun l hl => by have := cv_len (hc l hl); omega
  have ha : askB (Int.ofNat N) cls gs = true := ask_of (by simp only [Int.ofNat_eq_natCast]; omega) (by simp only [Int.ofNat_eq_natCast]; omega) hcl hc hg
  refine ⟨_, _, _, _, by rw [readAt_get e2 (by simp)]; rfl, _, _, _, read1 e3 (i := 0) rfl, ?_⟩
  obtain ⟨v, h11, e11, rfl, K11⟩ := ct78 hO (c := cF) (vars := Int.ofNat N) (c1 := cG) (F.to g2) (by omega) llen (G.to g2) (by omega)
  rw [ha, if_pos rfl] at e11
  have k11 : Kp h.nx h h11 := k2.trans (K11.le k2.nx)
  have g11 : h11.get h.nx = some (.cells [.int .i64 (Int.ofNat N), .slice aF nF cF] 30 .fix) := by rw [K11.get _ (by omega)]; exact e2
  have g11b : h11.get g1.nx = some (.cells [.slice aG nG cG] 32 .fix) := by rw [K11.get _ (by omega)]; exact e3
  have n11 := K11.nx
  have ok11 := ok.kp k11
  refine ⟨_, h11, e11, vcond_f rfl ?_⟩
  intro g12
  have gf : g12.guarded h11.nx = false := guarded_of fun q hq => by have := ok11.gd q hq; omega
  refine vreq_t (canW_t (get_add_same ..) (by decide) gf (by simp) rfl) ?_
  intro g13
  have w : g13.get h11.nx = some (.cells [.func (.func 108) #[] #[.pointer (some ⟨g1.nx, 0, none⟩)]] 79 .fix) := (wr_get (get_add_same ..) (by decide) gf (by simp) rfl).trans rfl
  have K13 : Kp h11.nx h11 g13 := ((Kp.refl h11.nx h11).add (Nat.le_refl _) _).wr (Nat.le_refl _) _ _
  have k13 : Kp h.nx h g13 := k11.trans (K13.le k11.nx)
  have f13 := k13.ex (Nat.le_refl _)
  have n13 : g13.nx = h11.nx + 1 := (nx_wr ..).trans (nx_add ..)
  have g13a : g13.get h.nx = some (.cells [.int .i64 (Int.ofNat N), .slice aF nF cF] 30 .fix) := by rw [K13.get _ (by omega)]; exact g11
  have g13b : g13.get g1.nx = some (.cells [.slice aG nG cG] 32 .fix) := by rw [K13.get _ (by omega)]; exact g11b
  refine ⟨_, _, _, read1 g13b (i := 0) rfl, ?_⟩
  have ok13 := ok.kp k13
  have ht13 := ht.kp k13 ht.1
  have hnG := G.1
  have HV : HaveOk O 109 #[] #[.pointer (some ⟨h.nx, 0, none⟩), .pointer (some ⟨h11.nx, 0, none⟩)] g13 gs.length (howG N cls gs) := fun h' kp a m c xs X s => by
    have f := kp.ex (Nat.le_refl _)
    exact ct109 hO (ok13.kp kp) (ht13.kp kp ht13.1) hN hc (by omega) hg.2 (by omega) (Nat.lt_of_lt_of_le (by omega) kp.nx) (by rw [kp.get _ (by omega)]; exact g13a) (b3 := g1.nx) (Nat.lt_of_lt_of_le (by omega) kp.nx) (by rw [kp.get _ (by omega)]; exact g13b) (by rw [kp.get _ (by omega)]; exact w) ((F.to g13).to h') ((G.to g13).to h') X s
  rw [hnG]
  obtain ⟨v, h21, e21, a, n, c, rfl, X21, K21⟩ := ct82 hO ok13 (by omega) HV
  have k21 := k13.trans (K21.le k13.nx)
  have f21 := K21.ex (Nat.le_refl _)
  refine ⟨_, _, _, _, h21, e21, _, read1 (by rw [K21.get _ (by omega)]; exact w) (i := 0) rfl, ?_⟩
  have ok21 := ok.kp k21
  have F21 := k21.ex (Nat.le_refl _)
  refine (ct108 hO ok21 (gs := gs) (by omega) (b1 := g1.nx) (by have := K21.nx; omega) (by rw [K21.get _ (by omega)]; exact g13b) (G.to h21) X21 blamedF_sub).s fun a26 n27 c28 h29 ⟨A29, K29⟩ => ?_
  exact ⟨_, _, _, rfl, A29.ints, k21.trans (K29.le k21.nx)⟩
end
end Go.Proofs.YtfgfhplgnfbaaaaDoor
/- Forced: the plain law. -/
namespace Go.Proofs.YtfgfhplgnfbaaaaDoor
open Go Go.Ev
end Go.Proofs.YtfgfhplgnfbaaaaDoor
/- SatMinimal of layer 20: the plain law. -/
namespace Go.Proofs.YtfgfhplgnfbaaaaDoor
open Go Go.Ev
def allI (n : Nat) : List Int := (List.range n).map Int.ofNat
theorem allI_len (n : Nat) : (allI n).length = n := by simp [allI]
theorem sel_all {cls : List (List Int)} : selC cls (allI cls.length) = cls := by
  unfold selC allI
  rw [List.map_map]
  refine List.ext_getElem (by simp) fun i h1 h2 => ?_
  simp [List.getElem?_eq_getElem h2]
theorem selG_all {gs : List Int} : selG gs (allI gs.length) = gs := by
  unfold selG allI
  rw [List.map_map]
  refine List.ext_getElem (by simp) fun i h1 h2 => ?_
  simp [List.getElem?_eq_getElem h2]
theorem needF_map {f : Int → Int} {ψ : List Int → Bool} : ∀ (i : Nat) (out : List Int), (needF (fun l => ψ (l.map f)) i out).map f = needF ψ i (out.map f) := by
  intro i
  induction i with
  | zero => intro out; rfl
  | succ i ih =>
    intro out
    have e : (out.eraseIdx i).map f = (out.map f).eraseIdx i := by rw [List.eraseIdx_eq_take_drop_succ, List.eraseIdx_eq_take_drop_succ]; simp
    unfold needF
    rw [e]
    split
    · rw [ih, e]
    · rw [ih]
theorem erase_erase {α : Type} : ∀ (l : List α) (i k : Nat), i ≤ k → (l.eraseIdx i).eraseIdx k = (l.eraseIdx (k + 1)).eraseIdx i := by
  intro l
  induction l with
  | nil => intro i k _; rfl
  | cons a l ih =>
    intro i k h
    match i, k with
    | 0, k => rfl
    | i + 1, 0 => omega
    | i + 1, k + 1 =>
      show a :: ((l.eraseIdx i).eraseIdx k) = a :: ((l.eraseIdx (k + 1)).eraseIdx i)
      rw [ih i k (by omega)]
/-- Without any one of those that are left it is not so. -/
theorem needF_min {ψ : List Int → Bool} (mono : ∀ l l', l.Sublist l' → ψ l = true → ψ l' = true) : ∀ (i : Nat) (out : List Int), (∀ k, i ≤ k → k < out.length → ψ (out.eraseIdx k) = false) → i ≤ out.length → ∀ k, k < (needF ψ i out).length → ψ ((needF ψ i out).eraseIdx k) = false := by
  intro i
  induction i with
  | zero => intro out h _ k hk; exact h k (Nat.zero_le _) hk
  | succ i ih =>
    intro out h hi k hk
    unfold needF at hk ⊢
    split
    · rename_i h1
      rw [if_pos h1] at hk
      have hl : (out.eraseIdx i).length = out.length - 1 := List.length_eraseIdx_of_lt (by omega)
      refine ih _ (fun j hj hjl => ?_) (by omega) k hk
      cases hb : ψ ((out.eraseIdx i).eraseIdx j) with
      | false => rfl
      | true =>
        rw [erase_erase _ _ _ hj] at hb
        rw [← mono _ _ (List.eraseIdx_sublist ..) hb]
        exact h (j + 1) (by omega) (by omega)
    · rename_i h1
      rw [if_neg h1] at hk
      refine ih _ (fun j hj hjl => ?_) (by omega) k hk
      rcases Nat.lt_or_ge i j with h2 | h2
      · exact h j h2 hjl
      · obtain rfl : i = j := by omega
        cases hb : ψ (out.eraseIdx i) with
        | false => rfl
        | true => exact absurd hb h1
/-- Whether there is no model. -/
def noM (N : Nat) (cls : List (List Int)) (gs : List Int) : Bool := decide (modelsN N cls gs = [])
theorem noM_mono {N : Nat} {cls cls' : List (List Int)} {gs gs' : List Int} (h1 : ∀ l ∈ cls, l ∈ cls') (h2 : ∀ x ∈ gs, x ∈ gs') (h : noM N cls gs = true) : noM N cls' gs' = true := by
  unfold noM at h ⊢
  rw [decide_eq_true_iff] at h ⊢
  unfold modelsN at h ⊢
  rw [List.filter_eq_nil_iff] at h ⊢
  intro m hm hs
  refine h m hm ?_
  unfold satM at hs ⊢
  rw [Bool.and_eq_true, List.all_eq_true, List.all_eq_true] at hs ⊢
  exact ⟨fun x hx => hs.1 x (h2 x hx), fun l hl => hs.2 l (h1 l hl)⟩
def psiC (N : Nat) (cls : List (List Int)) (gs : List Int) (xs : List Int) : Bool := noM N (selC cls xs) gs
theorem psiC_mono {N : Nat} {cls : List (List Int)} {gs : List Int} : ∀ l l' : List Int, l.Sublist l' → psiC N cls gs l = true → psiC N cls gs l' = true := fun _ _ s h => noM_mono (fun _ hx => (s.map _).subset hx) (fun _ hx => hx) h
theorem blm_need {φ : List Int → Int} {ψ : List Int → Bool} {all : List Int} (H : ∀ xs, xs.Sublist all → (φ xs = 0 ∧ ψ xs = false) ∨ (φ xs = 1 ∧ ψ xs = true)) : ∀ (i : Nat) {kept : List Int}, kept.Sublist all → blmF φ i kept = (needF ψ i kept, 0) := by
  intro i
  induction i with
  | zero => intro kept _; rfl
  | succ i ih =>
    intro kept h
    unfold blmF needF
    have h2 : (kept.eraseIdx i).Sublist all := (List.eraseIdx_sublist ..).trans h
    rcases H _ h2 with ⟨a, b⟩ | ⟨a, b⟩
    · rw [if_neg (by rw [a]; decide), if_neg (by rw [a]; decide), if_neg (by rw [b]; decide)]; exact ih h
    · rw [if_pos a, if_pos b]; exact ih h2
theorem blamed_need {n : Nat} {φ : List Int → Int} {ψ : List Int → Bool} (H : ∀ xs, xs.Sublist (allI n) → (φ xs = 0 ∧ ψ xs = false) ∨ (φ xs = 1 ∧ ψ xs = true)) : blamedF n φ = if ψ (allI n) = true then (needF ψ n (allI n), 0) else ([], 5) := by
  unfold blamedF
  show (if φ (allI n) = 0 then ([], 5) else if φ (allI n) = 2 then ([], 8) else blmF φ n (allI n)) = _
  rcases H _ (List.Sublist.refl _) with ⟨a, b⟩ | ⟨a, b⟩
  · rw [if_pos a, if_neg (by rw [b]; decide)]
  · rw [if_neg (by rw [show φ _ = 1 from a]; decide), if_neg (by rw [show φ _ = 1 from a]; decide), if_pos b]
    exact blm_need H n (List.Sublist.refl _)
section
variable {N : Nat} (hN : 1 ≤ N ∧ N ≤ 8) {cls : List (List Int)} (hc : ∀ l ∈ cls, Cv (Int.ofNat N) l) {gs : List Int} (hg : Lv (Int.ofNat N) gs)
include hN hc hg
theorem core_is : blamedF cls.length (howC N cls gs) = if noM N cls gs = true then (needF (psiC N cls gs) cls.length (allI cls.length), 0) else ([], 5) := by
  have h30 : N ≤ 30 := by omega
  rw [blamed_need (ψ := psiC N cls gs) fun xs s => ?_]
  · unfold psiC; rw [sel_all]
  · have hin := sub_mem s
    have hc2 : ∀ l ∈ selC cls xs, Cv (Int.ofNat N) l := fun l hl => by
      obtain ⟨x, hx, rfl⟩ := List.mem_map.1 hl
      obtain ⟨j, hj, rfl⟩ := hin x hx
      refine hc _ ?_
      show cls.getD j [] ∈ cls
      rw [List.getD_eq_getElem?_getD, List.getElem?_eq_getElem hj]
      exact List.getElem_mem hj
    rcases solve_small h30 hc2 hg hN.2 with ⟨h0, _, _, m, rest, em, _⟩ | ⟨h1, em, _⟩
    · exact .inl ⟨h0, by unfold psiC noM; rw [em]; rfl⟩
    · exact .inr ⟨h1, by unfold psiC noM; rw [em]; rfl⟩
theorem blame_is : ((blamedF gs.length (howG N cls gs)).2 = if noM N cls gs = true then 0 else 5) ∧ selG gs (blamedF gs.length (howG N cls gs)).1 = if noM N cls gs = true then needF (noM N cls) gs.length gs else [] := by
  have h30 : N ≤ 30 := by omega
  rw [blamed_need (ψ := fun xs => noM N cls (selG gs xs)) fun xs s => ?_]
  · rw [selG_all]
    cases noM N cls gs with
    | false => exact ⟨rfl, rfl⟩
    | true =>
      refine ⟨rfl, ?_⟩
      rw [if_pos rfl, if_pos rfl]
      have := needF_map (f := fun i => gs.getD i.toNat 0) (ψ := noM N cls) gs.length (allI gs.length)
      have e : (allI gs.length).map (fun i => gs.getD i.toNat 0) = gs := selG_all
      rw [e] at this
      exact this
  · have hin := sub_mem s
    have hg2 : Lv (Int.ofNat N) (selG gs xs) := fun x hx => by
      obtain ⟨i, hi, rfl⟩ := List.mem_map.1 hx
      obtain ⟨j, hj, rfl⟩ := hin i hi
      have : gs.getD j 0 ∈ gs := by
        rw [List.getD_eq_getElem?_getD, List.getElem?_eq_getElem hj]
        exact List.getElem_mem hj
      exact hg _ this
    rcases solve_small h30 hc hg2 hN.2 with ⟨h0, _, _, m, rest, em, _⟩ | ⟨h1, em, _⟩
    · exact .inl ⟨h0, by unfold noM; rw [em]; rfl⟩
    · exact .inr ⟨h1, by unfold noM; rw [em]; rfl⟩
end
theorem idxI_at : ∀ (m k s : Nat) (tl : List Int) (j : Nat), k < m → idxI (Int.ofNat (s + k)) ((List.range' s m).map Int.ofNat ++ tl) j = ((j + k : Nat) : Int) := by
  intro m
  induction m with
  | zero => intro k s tl j h; omega
  | succ m ih =>
    intro k s tl j h
    rw [List.range'_succ, List.map_cons, List.cons_append]
    unfold idxI
    match k with
    | 0 => rw [if_pos (by rw [Nat.add_zero])]; rfl
    | k + 1 =>
      rw [if_neg (by simp only [Int.ofNat_eq_natCast]; omega), show s + (k + 1) = s + 1 + k by omega, ih k (s + 1) tl (j + 1) (by omega)]
      omega
theorem idx_all {m k : Nat} (h : k < m) (tl : List Int) : idxI (Int.ofNat k) (allI m ++ tl) 0 = Int.ofNat k := by
  have := idxI_at m k 0 tl 0 h
  rw [Nat.zero_add] at this
  unfold allI
  rw [List.range_eq_range']
  exact this
theorem allI_succ (n : Nat) : allI (n + 1) = allI n ++ [Int.ofNat n] := by unfold allI; rw [List.range_succ, List.map_append]; rfl
theorem erase_all (m : Nat) (tl : List Int) : (allI (m + 1) ++ tl).eraseIdx m = allI m ++ tl := by
  rw [allI_succ, List.append_assoc, List.eraseIdx_append_of_length_le (by rw [allI_len]; omega), allI_len, Nat.sub_self]; rfl
end Go.Proofs.YtfgfhplgnfbaaaaDoor
/- Conditions of functions' code, printed by a program of ours. -/
namespace Go.Proofs.YtfgfhplgnfbaaaaDoor
open Go Go.Ev
set_option maxRecDepth 100000
set_option linter.unusedVariables false
/-! sward/swardlaw20.SatMinimal -/
noncomputable def b12 : Code := (Tryd.f12.body).getD .skip
noncomputable def stk12_0 : List KI := [.code (sub [1, 1, 1, 0, 1, 0] b12), .blk 0, .code (sub [1, 1, 1, 1] b12)]
noncomputable def stk12_1 : List KI := [.code (sub [1, 1, 1, 1, 1, 1, 1, 1, 1, 1, 0, 1, 0] b12), .blk 2, .code (sub [1, 1, 1, 1, 1, 1, 1, 1, 1, 1, 1] b12)]
noncomputable def stk12_2 : List KI := [.code (sub [1, 1, 1, 1, 1, 1, 1, 1, 1, 1, 1, 1, 0, 1, 0] b12), .blk 4, .code (sub [1, 1, 1, 1, 1, 1, 1, 1, 1, 1, 1, 1, 1] b12)]
noncomputable def stk12_3 : List KI := [.code (sub [1, 1, 1, 1, 1, 1, 1, 1, 1, 1, 1, 1, 1, 1, 0, 1, 0] b12), .blk 6, .code (sub [1, 1, 1, 1, 1, 1, 1, 1, 1, 1, 1, 1, 1, 1, 1] b12)]
noncomputable def stk12_4 : List KI := [.code (sub [1, 1, 1, 1, 1, 1, 1, 1, 1, 1, 1, 1, 1, 1, 1, 1, 0, 1, 0] b12), .blk 8, .code (sub [1, 1, 1, 1, 1, 1, 1, 1, 1, 1, 1, 1, 1, 1, 1, 1, 1] b12)]
def lv12 : List (Nat × List Nat) := [(0, [4, 5, 6, 24, 25]), (2, [4, 5, 6, 9, 11, 13, 85, 86]), (4, [4, 5, 6, 9, 11, 13, 15, 16]), (6, [4, 5, 6, 9, 11, 13, 15, 18, 19]), (8, [4, 5, 6, 13, 15, 156, 157])]
def I12_0 (O : CallF) (Q : Value → Hp → Prop) (v0 : Array Value) (x1_0 : Int) (x1_1 : Int) (x1_2 : Int) (x1_3 : Int) (x1_4 : Int) (b5 : Nat) (f5 : Nat) (a6 : Option Addr) (n6 : Nat) (c6 : Nat) (x24_0 : Int) (x24_1 : Int) (x24_2 : Int) (x24_3 : Int) (x24_4 : Int) (x25 : Int) (h : Hp) : Prop := RKL Tryd.prog O Tryd.f12 stk12_0 175 [4, 5, 6, 24, 25] [(.bool false), (.pointer (some ⟨b5, f5, none⟩)), (.slice a6 n6 c6), (.agg #[(.int .i8 x24_0), (.int .i8 x24_1), (.int .i8 x24_2), (.int .i8 x24_3), (.int .i8 x24_4)]), (.int .i64 x25)] h Q
def I12_1 (O : CallF) (Q : Value → Hp → Prop) (v0 : Array Value) (x1_0 : Int) (x1_1 : Int) (x1_2 : Int) (x1_3 : Int) (x1_4 : Int) (b5 : Nat) (f5 : Nat) (a6 : Option Addr) (n6 : Nat) (c6 : Nat) (a9 : Option Addr) (n9 : Nat) (c9 : Nat) (a11 : Option Addr) (n11 : Nat) (c11 : Nat) (a13 : Option Addr) (n13 : Nat) (c13 : Nat) (x85 : Int) (x86 : Int) (h : Hp) : Prop := RKL Tryd.prog O Tryd.f12 stk12_1 175 [4, 5, 6, 9, 11, 13, 85, 86] [(.bool false), (.pointer (some ⟨b5, f5, none⟩)), (.slice a6 n6 c6), (.slice a9 n9 c9), (.slice a11 n11 c11), (.slice a13 n13 c13), (.int .i64 x85), (.int .i64 x86)] h Q
def I12_2 (O : CallF) (Q : Value → Hp → Prop) (v0 : Array Value) (x1_0 : Int) (x1_1 : Int) (x1_2 : Int) (x1_3 : Int) (x1_4 : Int) (b5 : Nat) (f5 : Nat) (a6 : Option Addr) (n6 : Nat) (c6 : Nat) (a9 : Option Addr) (n9 : Nat) (c9 : Nat) (a11 : Option Addr) (n11 : Nat) (c11 : Nat) (a13 : Option Addr) (n13 : Nat) (c13 : Nat) (v15 : Value) (x16 : Int) (h : Hp) : Prop := RKL Tryd.prog O Tryd.f12 stk12_2 175 [4, 5, 6, 9, 11, 13, 15, 16] [(.bool false), (.pointer (some ⟨b5, f5, none⟩)), (.slice a6 n6 c6), (.slice a9 n9 c9), (.slice a11 n11 c11), (.slice a13 n13 c13), v15, (.int .i64 x16)] h Q
def I12_3 (O : CallF) (Q : Value → Hp → Prop) (v0 : Array Value) (x1_0 : Int) (x1_1 : Int) (x1_2 : Int) (x1_3 : Int) (x1_4 : Int) (b5 : Nat) (f5 : Nat) (a6 : Option Addr) (n6 : Nat) (c6 : Nat) (a9 : Option Addr) (n9 : Nat) (c9 : Nat) (a11 : Option Addr) (n11 : Nat) (c11 : Nat) (a13 : Option Addr) (n13 : Nat) (c13 : Nat) (v15 : Value) (a18 : Option Addr) (n18 : Nat) (c18 : Nat) (x19 : Int) (h : Hp) : Prop := RKL Tryd.prog O Tryd.f12 stk12_3 175 [4, 5, 6, 9, 11, 13, 15, 18, 19] [(.bool false), (.pointer (some ⟨b5, f5, none⟩)), (.slice a6 n6 c6), (.slice a9 n9 c9), (.slice a11 n11 c11), (.slice a13 n13 c13), v15, (.slice a18 n18 c18), (.int .i64 x19)] h Q
def I12_4 (O : CallF) (Q : Value → Hp → Prop) (v0 : Array Value) (x1_0 : Int) (x1_1 : Int) (x1_2 : Int) (x1_3 : Int) (x1_4 : Int) (q4 : Bool) (b5 : Nat) (f5 : Nat) (a6 : Option Addr) (n6 : Nat) (c6 : Nat) (a13 : Option Addr) (n13 : Nat) (c13 : Nat) (v15 : Value) (x156 : Int) (x157 : Int) (h : Hp) : Prop := RKL Tryd.prog O Tryd.f12 stk12_4 175 [4, 5, 6, 13, 15, 156, 157] [(.bool q4), (.pointer (some ⟨b5, f5, none⟩)), (.slice a6 n6 c6), (.slice a13 n13 c13), v15, (.int .i64 x156), (.int .i64 x157)] h Q
def T12 (O : CallF) (Q : Value → Hp → Prop) (v0 : Array Value) (x1_0 : Int) (x1_1 : Int) (x1_2 : Int) (x1_3 : Int) (x1_4 : Int) (h : Hp) : Prop :=
  vreq (v0.toList.all one)
  (let g1 : Hp := h.add (.cells v0.toList 26 .fix)
  let g2 : Hp := g1.add (.cells [(.int .i8 x1_0), (.int .i8 x1_1), (.int .i8 x1_2), (.int .i8 x1_3), (.int .i8 x1_4)] 76 .fix)
  ∃ l3', readAt g2 h.nx 0 44 = some l3' ∧
  ∃ x4', ∃ a5' n6' c7', ∃ h8', EvC Tryd.prog O 16 [(.agg l3'.toArray), (.int .i64 7)] g2 (.agg #[(.int .i64 x4'), (.slice a5' n6' c7')]) h8' ∧
  let g9 : Hp := h8'.add (.cells [(.int .i64 0), (.slice none 0 0)] 30 .fix)
  vreq (canW g9 h8'.nx 0 [(.int .i64 x4'), (.slice a5' n6' c7')])
  (let g10 : Hp := g9.wr h8'.nx 0 [(.int .i64 x4'), (.slice a5' n6' c7')]
  ∃ x11', ∃ x12', ∃ x13', ∃ x14', ∃ x15', readAt g10 g1.nx 0 5 = some [(.int .i8 x11'), (.int .i8 x12'), (.int .i8 x13'), (.int .i8 x14'), (.int .i8 x15')] ∧
  I12_0 O Q v0 x1_0 x1_1 x1_2 x1_3 x1_4 h8'.nx 0 none 0 0 x11' x12' x13' x14' x15' 0 g10))
theorem rk12 {O Q} (v0 x1_0 x1_1 x1_2 x1_3 x1_4) {h : Hp} (hO : O 12 [(.agg v0), (.agg #[(.int .i8 x1_0), (.int .i8 x1_1), (.int .i8 x1_2), (.int .i8 x1_3), (.int .i8 x1_4)])] h = none) (hh : T12 O Q v0 x1_0 x1_1 x1_2 x1_3 x1_4 h) : Ret Tryd.prog O 12 [(.agg v0), (.agg #[(.int .i8 x1_0), (.int .i8 x1_1), (.int .i8 x1_2), (.int .i8 x1_3), (.int .i8 x1_4)])] h Q :=
  .of (c := b12) Tryd.func12 (by kernel_rfl) hO (V_ok (tb := lv12) (cuts := []) 500 (Eq.mp (by kernel_rfl) hh))
def T12_0 (O : CallF) (Q : Value → Hp → Prop) (v0 : Array Value) (x1_0 : Int) (x1_1 : Int) (x1_2 : Int) (x1_3 : Int) (x1_4 : Int) (b5 : Nat) (f5 : Nat) (a6 : Option Addr) (n6 : Nat) (c6 : Nat) (x24_0 : Int) (x24_1 : Int) (x24_2 : Int) (x24_3 : Int) (x24_4 : Int) (x25 : Int) (h : Hp) : Prop :=
  vcond (ltI x25 5)
  (isNat x25 fun n101' =>
  vreq (Nat.blt n101' 5)
  (∃ x102', readAt h b5 (f5 + 0) 1 = some [(.int .i64 x102')] ∧
  ∃ x103', ∃ h104', EvC Tryd.prog O 21 [(.int .i8 (List.getD [x24_0, x24_1, x24_2, x24_3, x24_4] n101' 0)), (.int .i64 x102')] h (.int .i64 x103') h104' ∧
  let g105 : Hp := h104'.add (.cells [(.int .i64 x103')] 3 .fix)
  ∃ a106' n107' c108' h109', appendV Tryd.prog g105 32 32 (.slice a6 n6 c6) (.slice (some ⟨h104'.nx, 0, none⟩) 1 1) = some (.slice a106' n107' c108', h109') ∧
  I12_0 O Q v0 x1_0 x1_1 x1_2 x1_3 x1_4 b5 f5 a106' n107' c108' x24_0 x24_1 x24_2 x24_3 x24_4 (wrapF .i64 (x25 + 1)) h109'))
  (∃ a110' n111' c112', ∃ h113', EvC Tryd.prog O 19 [(.slice a6 n6 c6)] h (.slice a110' n111' c112') h113' ∧
  ∃ x114', ∃ a115' n116' c117', readAt h113' b5 f5 2 = some [(.int .i64 x114'), (.slice a115' n116' c117')] ∧
  ∃ a118' n119' c120', ∃ x121', ∃ h122', EvC Tryd.prog O 25 [(.agg #[(.int .i64 x114'), (.slice a115' n116' c117')]), (.slice a110' n111' c112')] h113' (.tuple #[(.slice a118' n119' c120'), (.int .i64 x121')]) h122' ∧
  ∃ x123', ∃ a124' n125' c126', readAt h122' b5 f5 2 = some [(.int .i64 x123'), (.slice a124' n125' c126')] ∧
  ∃ a127' n128' c129', ∃ x130', ∃ h131', EvC Tryd.prog O 51 [(.agg #[(.int .i64 x123'), (.slice a124' n125' c126')]), (.slice a110' n111' c112')] h122' (.tuple #[(.slice a127' n128' c129'), (.int .i64 x130')]) h131' ∧
  ∃ x132', ∃ a133' n134' c135', readAt h131' b5 f5 2 = some [(.int .i64 x132'), (.slice a133' n134' c135')] ∧
  ∃ a136' n137' c138', readAt h131' b5 (f5 + 1) 1 = some [(.slice a136' n137' c138')] ∧
  ∃ a139' n140' c141', ∃ h142', EvC Tryd.prog O 54 [(.agg #[(.int .i64 x132'), (.slice a133' n134' c135')]), (.slice a136' n137' c138'), (.slice a110' n111' c112')] h131' (.slice a139' n140' c141') h142' ∧
  vcond (ltI 0 (Int.ofNat n140'))
  (vcond (eqI x121' 5)
  (vcond (eqI x130' 5)
  (vcond (eqI (wrapF .i64 ((Int.ofNat n119') + (Int.ofNat n128'))) 0)
  (∃ q143', ∃ h144', EvC Tryd.prog O 27 [] h142' (.bool q143') h144' ∧
  Q (.bool q143') h144')
  (Q (.bool false) h142'))
  (Q (.bool false) h142'))
  (Q (.bool false) h142'))
  (vcond (!(eqI x121' 0))
  (Q (.bool false) h142')
  (vcond (!(eqI x130' 0))
  (Q (.bool false) h142')
  (∃ a145' n146' c147', readAt h142' b5 (f5 + 1) 1 = some [(.slice a145' n146' c147')] ∧
  vreq (Nat.ble n146' n146')
  (vreq (Nat.ble (n146' * 8) 281474976710656)
  (vreq (Nat.blt n146' big)
  (let g148 : Hp := h142'.add (.cells (List.flatten (List.replicate n146' [(.int .i64 0)])) 3 .fix)
  I12_1 O Q v0 x1_0 x1_1 x1_2 x1_3 x1_4 b5 f5 a110' n111' c112' a118' n119' c120' a127' n128' c129' (some ⟨h142'.nx, 0, none⟩) n146' n146' (Int.ofNat n146') 0 g148)))))))
theorem I12_0.of {O Q} (v0 x1_0 x1_1 x1_2 x1_3 x1_4 b5 f5 a6 n6 c6 x24_0 x24_1 x24_2 x24_3 x24_4 x25) {h : Hp} (hh : T12_0 O Q v0 x1_0 x1_1 x1_2 x1_3 x1_4 b5 f5 a6 n6 c6 x24_0 x24_1 x24_2 x24_3 x24_4 x25 h) : I12_0 O Q v0 x1_0 x1_1 x1_2 x1_3 x1_4 b5 f5 a6 n6 c6 x24_0 x24_1 x24_2 x24_3 x24_4 x25 h :=
  RKL.of (tb := lv12) (cuts := []) 500 fun _ => Eq.mp (by kernel_rfl) hh
def T12_1 (O : CallF) (Q : Value → Hp → Prop) (v0 : Array Value) (x1_0 : Int) (x1_1 : Int) (x1_2 : Int) (x1_3 : Int) (x1_4 : Int) (b5 : Nat) (f5 : Nat) (a6 : Option Addr) (n6 : Nat) (c6 : Nat) (a9 : Option Addr) (n9 : Nat) (c9 : Nat) (a11 : Option Addr) (n11 : Nat) (c11 : Nat) (a13 : Option Addr) (n13 : Nat) (c13 : Nat) (x85 : Int) (x86 : Int) (h : Hp) : Prop :=
  vcond (ltI x86 x85)
  (isNat x86 fun n201' =>
  isAddr a13 fun b202' f203' =>
  vreq (Nat.blt n201' n13)
  (vreq (canW h b202' (f203' + (n201' * 1)) [(.int .i64 x86)])
  (let g204 : Hp := h.wr b202' (f203' + (n201' * 1)) [(.int .i64 x86)]
  I12_1 O Q v0 x1_0 x1_1 x1_2 x1_3 x1_4 b5 f5 a6 n6 c6 a9 n9 c9 a11 n11 c11 a13 n13 c13 x85 (wrapF .i64 (x86 + 1)) g204)))
  (∃ a205' n206' c207', readAt h b5 (f5 + 1) 1 = some [(.slice a205' n206' c207')] ∧
  I12_2 O Q v0 x1_0 x1_1 x1_2 x1_3 x1_4 b5 f5 a6 n6 c6 a9 n9 c9 a11 n11 c11 a13 n13 c13 (.func (.func 58) #[] #[(.pointer (some ⟨b5, f5, none⟩))]) (wrapF .i64 ((Int.ofNat n206') - 1)) h)
theorem I12_1.of {O Q} (v0 x1_0 x1_1 x1_2 x1_3 x1_4 b5 f5 a6 n6 c6 a9 n9 c9 a11 n11 c11 a13 n13 c13 x85 x86) {h : Hp} (hh : T12_1 O Q v0 x1_0 x1_1 x1_2 x1_3 x1_4 b5 f5 a6 n6 c6 a9 n9 c9 a11 n11 c11 a13 n13 c13 x85 x86 h) : I12_1 O Q v0 x1_0 x1_1 x1_2 x1_3 x1_4 b5 f5 a6 n6 c6 a9 n9 c9 a11 n11 c11 a13 n13 c13 x85 x86 h :=
  RKL.of (tb := lv12) (cuts := []) 500 fun _ => Eq.mp (by kernel_rfl) hh
def T12_2 (O : CallF) (Q : Value → Hp → Prop) (v0 : Array Value) (x1_0 : Int) (x1_1 : Int) (x1_2 : Int) (x1_3 : Int) (x1_4 : Int) (b5 : Nat) (f5 : Nat) (a6 : Option Addr) (n6 : Nat) (c6 : Nat) (a9 : Option Addr) (n9 : Nat) (c9 : Nat) (a11 : Option Addr) (n11 : Nat) (c11 : Nat) (a13 : Option Addr) (n13 : Nat) (c13 : Nat) (v15 : Value) (x16 : Int) (h : Hp) : Prop :=
  vcond (!(ltI x16 0))
  (∃ a301' n302' c303', ∃ h304', EvC Tryd.prog O 60 [(.slice a13 n13 c13)] h (.slice a301' n302' c303') h304' ∧
  ∃ x305', ∃ h306', EvC Tryd.prog O 61 [(.slice a13 n13 c13), (.int .i64 x16)] h304' (.int .i64 x305') h306' ∧
  ∃ x307', ∃ h308', EvC Tryd.prog O 61 [(.slice a13 n13 c13), (.int .i64 x16)] h306' (.int .i64 x307') h308' ∧
  ∃ a309' n310' c311', ∃ h312', EvC Tryd.prog O 59 [(.slice a301' n302' c303'), (.int .i64 x305'), (.int .i64 (wrapF .i64 (x307' + 1)))] h308' (.slice a309' n310' c311') h312' ∧
  let g313 : Hp := h312'.rsv 8
  ∃ x314', ∃ a315' n316' c317', readAt g313 b5 f5 2 = some [(.int .i64 x314'), (.slice a315' n316' c317')] ∧
  isFn v15 fun g318' r319' r320' =>
  ∃ a321' n322' c323', ∃ h324', EvC Tryd.prog O g318' (r319' ++ [(.slice a309' n310' c311')] ++ r320') (g313.grd [b5]) (.slice a321' n322' c323') h324' ∧
  let g325 : Hp := h324'.rst g313
  ∃ a326' n327' c328', ∃ h329', EvC Tryd.prog O 54 [(.agg #[(.int .i64 x314'), (.slice a315' n316' c317')]), (.slice a321' n322' c323'), (.slice a6 n6 c6)] (g325.grd []) (.slice a326' n327' c328') h329' ∧
  let g330 : Hp := h329'.rst g325
  vcond (eqI (Int.ofNat n327') 0)
  (I12_2 O Q v0 x1_0 x1_1 x1_2 x1_3 x1_4 b5 f5 a6 n6 c6 a9 n9 c9 a11 n11 c11 a309' n310' c311' v15 (wrapF .i64 (x16 - 1)) g330)
  (I12_2 O Q v0 x1_0 x1_1 x1_2 x1_3 x1_4 b5 f5 a6 n6 c6 a9 n9 c9 a11 n11 c11 a13 n13 c13 v15 (wrapF .i64 (x16 - 1)) g330))
  (∃ a331' n332' c333', ∃ h334', EvC Tryd.prog O 60 [(.slice a6 n6 c6)] h (.slice a331' n332' c333') h334' ∧
  I12_3 O Q v0 x1_0 x1_1 x1_2 x1_3 x1_4 b5 f5 a6 n6 c6 a9 n9 c9 a11 n11 c11 a13 n13 c13 v15 a331' n332' c333' (wrapF .i64 ((Int.ofNat n6) - 1)) h334')
theorem I12_2.of {O Q} (v0 x1_0 x1_1 x1_2 x1_3 x1_4 b5 f5 a6 n6 c6 a9 n9 c9 a11 n11 c11 a13 n13 c13 v15 x16) {h : Hp} (hh : T12_2 O Q v0 x1_0 x1_1 x1_2 x1_3 x1_4 b5 f5 a6 n6 c6 a9 n9 c9 a11 n11 c11 a13 n13 c13 v15 x16 h) : I12_2 O Q v0 x1_0 x1_1 x1_2 x1_3 x1_4 b5 f5 a6 n6 c6 a9 n9 c9 a11 n11 c11 a13 n13 c13 v15 x16 h :=
  RKL.of (tb := lv12) (cuts := []) 500 fun _ => Eq.mp (by kernel_rfl) hh
def T12_3 (O : CallF) (Q : Value → Hp → Prop) (v0 : Array Value) (x1_0 : Int) (x1_1 : Int) (x1_2 : Int) (x1_3 : Int) (x1_4 : Int) (b5 : Nat) (f5 : Nat) (a6 : Option Addr) (n6 : Nat) (c6 : Nat) (a9 : Option Addr) (n9 : Nat) (c9 : Nat) (a11 : Option Addr) (n11 : Nat) (c11 : Nat) (a13 : Option Addr) (n13 : Nat) (c13 : Nat) (v15 : Value) (a18 : Option Addr) (n18 : Nat) (c18 : Nat) (x19 : Int) (h : Hp) : Prop :=
  vcond (!(ltI x19 0))
  (∃ a401' n402' c403', ∃ h404', EvC Tryd.prog O 60 [(.slice a18 n18 c18)] h (.slice a401' n402' c403') h404' ∧
  ∃ a405' n406' c407', ∃ h408', EvC Tryd.prog O 59 [(.slice a401' n402' c403'), (.int .i64 x19), (.int .i64 (wrapF .i64 (x19 + 1)))] h404' (.slice a405' n406' c407') h408' ∧
  ∃ x409', ∃ a410' n411' c412', readAt h408' b5 f5 2 = some [(.int .i64 x409'), (.slice a410' n411' c412')] ∧
  ∃ a413' n414' c415', readAt h408' b5 (f5 + 1) 1 = some [(.slice a413' n414' c415')] ∧
  ∃ a416' n417' c418', ∃ h419', EvC Tryd.prog O 54 [(.agg #[(.int .i64 x409'), (.slice a410' n411' c412')]), (.slice a413' n414' c415'), (.slice a405' n406' c407')] h408' (.slice a416' n417' c418') h419' ∧
  vcond (eqI (Int.ofNat n417') 0)
  (I12_3 O Q v0 x1_0 x1_1 x1_2 x1_3 x1_4 b5 f5 a6 n6 c6 a9 n9 c9 a11 n11 c11 a13 n13 c13 v15 a405' n406' c407' (wrapF .i64 (x19 - 1)) h419')
  (I12_3 O Q v0 x1_0 x1_1 x1_2 x1_3 x1_4 b5 f5 a6 n6 c6 a9 n9 c9 a11 n11 c11 a13 n13 c13 v15 a18 n18 c18 (wrapF .i64 (x19 - 1)) h419'))
  (∃ q420', ∃ h421', EvC Tryd.prog O 26 [(.slice a9 n9 c9), (.slice a13 n13 c13)] h (.bool q420') h421' ∧
  vcond (!q420')
  (Q (.bool false) h421')
  (∃ q422', ∃ h423', EvC Tryd.prog O 26 [(.slice a11 n11 c11), (.slice a18 n18 c18)] h421' (.bool q422') h423' ∧
  vcond (!q422')
  (Q (.bool false) h423')
  (I12_4 O Q v0 x1_0 x1_1 x1_2 x1_3 x1_4 false b5 f5 a6 n6 c6 a13 n13 c13 v15 (Int.ofNat n13) 0 h423')))
theorem I12_3.of {O Q} (v0 x1_0 x1_1 x1_2 x1_3 x1_4 b5 f5 a6 n6 c6 a9 n9 c9 a11 n11 c11 a13 n13 c13 v15 a18 n18 c18 x19) {h : Hp} (hh : T12_3 O Q v0 x1_0 x1_1 x1_2 x1_3 x1_4 b5 f5 a6 n6 c6 a9 n9 c9 a11 n11 c11 a13 n13 c13 v15 a18 n18 c18 x19 h) : I12_3 O Q v0 x1_0 x1_1 x1_2 x1_3 x1_4 b5 f5 a6 n6 c6 a9 n9 c9 a11 n11 c11 a13 n13 c13 v15 a18 n18 c18 x19 h :=
  RKL.of (tb := lv12) (cuts := []) 500 fun _ => Eq.mp (by kernel_rfl) hh
def T12_4 (O : CallF) (Q : Value → Hp → Prop) (v0 : Array Value) (x1_0 : Int) (x1_1 : Int) (x1_2 : Int) (x1_3 : Int) (x1_4 : Int) (q4 : Bool) (b5 : Nat) (f5 : Nat) (a6 : Option Addr) (n6 : Nat) (c6 : Nat) (a13 : Option Addr) (n13 : Nat) (c13 : Nat) (v15 : Value) (x156 : Int) (x157 : Int) (h : Hp) : Prop :=
  vcond (ltI x157 x156)
  (let g501 : Hp := h.rsv 13
  ∃ x502', ∃ a503' n504' c505', readAt g501 b5 f5 2 = some [(.int .i64 x502'), (.slice a503' n504' c505')] ∧
  ∃ a506' n507' c508', ∃ h509', EvC Tryd.prog O 60 [(.slice a13 n13 c13)] (g501.grd [b5]) (.slice a506' n507' c508') h509' ∧
  let g510 : Hp := h509'.rst g501
  ∃ a511' n512' c513', ∃ h514', EvC Tryd.prog O 59 [(.slice a506' n507' c508'), (.int .i64 x157), (.int .i64 (wrapF .i64 (x157 + 1)))] (g510.grd [b5]) (.slice a511' n512' c513') h514' ∧
  let g515 : Hp := h514'.rst g510
  isFn v15 fun g516' r517' r518' =>
  ∃ a519' n520' c521', ∃ h522', EvC Tryd.prog O g516' (r517' ++ [(.slice a511' n512' c513')] ++ r518') (g515.grd [b5]) (.slice a519' n520' c521') h522' ∧
  let g523 : Hp := h522'.rst g515
  ∃ a524' n525' c526', ∃ h527', EvC Tryd.prog O 54 [(.agg #[(.int .i64 x502'), (.slice a503' n504' c505')]), (.slice a519' n520' c521'), (.slice a6 n6 c6)] (g523.grd []) (.slice a524' n525' c526') h527' ∧
  let g528 : Hp := h527'.rst g523
  vcond (eqI (Int.ofNat n525') 0)
  (Q (.bool false) g528)
  (I12_4 O Q v0 x1_0 x1_1 x1_2 x1_3 x1_4 q4 b5 f5 a6 n6 c6 a13 n13 c13 v15 x156 (wrapF .i64 (x157 + 1)) g528))
  (∃ q529', ∃ h530', EvC Tryd.prog O 27 [] h (.bool q529') h530' ∧
  Q (.bool q529') h530')
theorem I12_4.of {O Q} (v0 x1_0 x1_1 x1_2 x1_3 x1_4 q4 b5 f5 a6 n6 c6 a13 n13 c13 v15 x156 x157) {h : Hp} (hh : T12_4 O Q v0 x1_0 x1_1 x1_2 x1_3 x1_4 q4 b5 f5 a6 n6 c6 a13 n13 c13 v15 x156 x157 h) : I12_4 O Q v0 x1_0 x1_1 x1_2 x1_3 x1_4 q4 b5 f5 a6 n6 c6 a13 n13 c13 v15 x156 x157 h :=
  RKL.of (tb := lv12) (cuts := []) 500 fun _ => Eq.mp (by kernel_rfl) hh
end Go.Proofs.YtfgfhplgnfbaaaaDoor
/- SatMinimal of layer 20: its law. -/
namespace Go.Proofs.YtfgfhplgnfbaaaaDoor
open Go Go.Ev
section
variable {O : CallF} (hO : Oth O)
include hO
theorem lp58 {h₀ : Hp} (ok : h₀.Ok) {cls : List (List Int)} (hcl : cls.length < 10000) {b1 : Nat} {x0 : Int} {aF : Option Addr} {nF cF : Nat} (hb1 : b1 < h₀.nx) (g1 : h₀.get b1 = some (.cells [.int .i64 x0, .slice aF nF cF] 30 .fix)) (F : IntssAt h₀ aF nF cls)
    {a0 : Option Addr} {n0 c0 : Nat} {xs : List Int} (X : IntsAt h₀ a0 n0 xs) (s : xs.Sublist (allI cls.length)) :
    ∀ (d k : Nat), k + d = xs.length → ∀ {h : Hp} {a : Option Addr} {n c : Nat}, Kp h₀.nx h₀ h → LL h₀.nx h₀.nx h a n c (selC cls (xs.take k)) →
      I58_0 O (fun v h' => ∃ a n c, v = .slice a n c ∧ IntssAt h' a n (selC cls xs) ∧ Kp h₀.nx h₀ h') a0 n0 c0 b1 0 a n c (Int.ofNat k) h := by
  have _ := hO
  have hxl := sub_len s
  have hn0 := X.1
  have hin := sub_mem s
  intro d
  induction d with
  | zero =>
    intro k hk h a n c kp A
    refine I58_0.of (hh := ?_) ..
    unfold T58_0
    rw [List.take_of_length_le (by omega)] at A
    exact vcond_f (by rw [ltI_nat]; exact blt_f (by omega)) ⟨_, _, _, rfl, A.intss, kp⟩
  | succ d ih =>
    intro k hk h a n c kp A
    refine I58_0.of (hh := ?_) ..
    unfold T58_0
    have f := kp.ex (Nat.le_refl _)
    have okh := ok.kp kp
    have hkl : k < xs.length := by omega
    refine vcond_t (by rw [ltI_nat]; exact blt_t (by omega)) (isNat_i (IntsAt.rd (g := h₀) (h := h) X hkl ?_))
    obtain ⟨j, hj, ej⟩ := hin _ (List.getElem_mem hkl)
    rw [ej]
    refine ⟨_, _, _, read1 (i := 0 + 1) (by rw [kp.get _ hb1]; exact g1) rfl, isNat_i (IntssAt.rd (g := h₀) (h := h) F hj fun a' n' c' Y => ?_)⟩
    intro g114
    rw [wrap_succ (by omega)]
    have okY : VOk h₀.nx h₀.nx (.slice a' n' c') := fun b off m c e => by
      injection e with e _ _
      have := SlAt.lt Y b off e
      omega
    have nA := A.len
    have ltk : (selC cls (xs.take k)).length = k := by unfold selC; rw [List.length_map, List.length_take]; omega
    refine LL.app (Nat.le_refl _) A (Y.to h) okY kp.nx (GdLt.kp ok.lt kp) okh.fr (by omega) fun a2 c2 h2 A2 _ K2 => ?_
    refine ih (k + 1) (by omega) (kp.trans K2.kp) ?_
    have e2 : selC cls (xs.take (k + 1)) = selC cls (xs.take k) ++ [cls[j]] := by
      unfold selC
      rw [List.take_add_one, List.map_append, List.getElem?_eq_getElem hkl, ej]
      simp [List.getElem?_eq_getElem hj]
    rw [e2]
    exact A2
theorem ct58 {h : Hp} (ok : h.Ok) {cls : List (List Int)} (hcl : cls.length < 10000) {b1 : Nat} {x0 : Int} {aF : Option Addr} {nF cF : Nat} (hb1 : b1 < h.nx) (g1 : h.get b1 = some (.cells [.int .i64 x0, .slice aF nF cF] 30 .fix)) (F : IntssAt h aF nF cls)
    {a0 : Option Addr} {n0 c0 : Nat} {xs : List Int} (X : IntsAt h a0 n0 xs) (s : xs.Sublist (allI cls.length)) :
    Ret Tryd.prog O 58 [.slice a0 n0 c0, .pointer (some ⟨b1, 0, none⟩)] h fun v h' => ∃ a n c, v = .slice a n c ∧ IntssAt h' a n (selC cls xs) ∧ Kp h.nx h h' := by
  refine rk58 _ _ _ _ _ (hO _ _ _ (by decide)) ?_
  unfold T58
  exact lp58 hO ok hcl hb1 g1 F X s xs.length 0 (Nat.zero_add _) (.refl _ _) (LL.nil ..)
/-- A copy of a list without one element. -/
theorem cl_del {h : Hp} (ok : h.Ok) {a : Option Addr} {n c i : Nat} {xs : List Int} (X : IntsAt h a n xs) (hi : i < xs.length) (hl : xs.length < 100000) {K : Option Addr → Nat → Nat → Hp → Prop}
    (next : ∀ a3 n3 c3 h3, Kp h.nx h h3 → (∀ h4, Ft h3 h4 → (∀ q, q ∈ h4.gd → q < h.nx) → ∃ a5 n5 c5, ∃ h5, EvC Tryd.prog O 59 [.slice a3 n3 c3, .int .i64 (Int.ofNat i), .int .i64 (Int.ofNat (i + 1))] h4 (.slice a5 n5 c5) h5 ∧ IntsAt h5 a5 n5 (xs.eraseIdx i) ∧ Kp h.nx h4 h5) → K a3 n3 c3 h3) :
    ∃ a3 n3 c3, ∃ h3, EvC Tryd.prog O 60 [.slice a n c] h (.slice a3 n3 c3) h3 ∧ K a3 n3 c3 h3 := by
  refine (ct60 hO ok X (by omega)).s fun a3 n3 c3 h3 ⟨A3, K3⟩ => next a3 n3 c3 h3 K3 fun h4 f4 g4 => ?_
  have hne : xs.map (Value.int .i64) ≠ [] := fun e => by
    have : xs.length = 0 := by simpa using congrArg List.length e
    omega
  rcases A3 with (⟨_, _, _, e⟩ | ⟨o, rfl, rfl, q3, q4, q5, q6⟩) | ⟨e, _⟩
  · exact absurd e hne
  · obtain rfl : n3 = xs.length := by simpa using q3
    have q64 : h4.get o = _ := (f4.get o q5).trans q6
    obtain ⟨v, h5, e5, rfl, Y, K5⟩ := ct59 hO (h := h4) (i := i) q64 (Nat.lt_of_lt_of_le q5 f4.nx) (guarded_of fun q hq => by have := g4 q hq; omega) hi (by omega)
    have hl2 : (xs.eraseIdx i).length = xs.length - 1 := List.length_eraseIdx_of_lt hi
    have := K3.nx
    exact ⟨_, _, _, h5, e5, by rw [← hl2] at Y ⊢; exact Y, K5 h.nx q4 (by have := f4.nx; omega)⟩
  · exact absurd e hne
end
section
variable {v0 : Array Value} {x0 x1 x2 x3 x4 : Int} {N : Nat} (hN : 1 ≤ N ∧ N ≤ 8) {cls : List (List Int)} (hcl : cls.length ≤ 14) (hc : ∀ l ∈ cls, Cv (Int.ofNat N) l) {gs : List Int} (hg : Cv (Int.ofNat N) gs)
  {hB : Hp} (ok : hB.Ok) (ht : Tb hB) {b5 : Nat} (hb5 : b5 < hB.nx) {aF a6 : Option Addr} {nF cF n6 c6 : Nat} (g5 : hB.get b5 = some (.cells [.int .i64 (Int.ofNat N), .slice aF nF cF] 30 .fix)) (F : IntssAt hB aF nF cls) (G : IntsAt hB a6 n6 gs) {Q : Value → Hp → Prop} {a9 a11 : Option Addr} {n9 c9 n11 c11 : Nat}
include hN hcl hc hg ok ht hb5 g5 F G
/-- The models of a part, and of some given literals. -/
theorem ms12 {h : Hp} (kp : Kp hB.nx hB h) {h' : Hp} (f : Ft hB h') (okh : h'.Ok) {a1 a2 : Option Addr} {n1 c1 n2 c2 : Nat} {cs : List (List Int)} {ls : List Int} (hcs : ∀ l ∈ cs, l ∈ cls) (hcsl : cs.length ≤ cls.length) (hls : ∀ x ∈ ls, x ∈ gs) (hlsl : ls.length ≤ gs.length) (C : IntssAt h' a1 n1 cs) (L : IntsAt h' a2 n2 ls) {K : Option Addr → Nat → Nat → Hp → Prop}
    (next : ∀ a n c h2, (eqI (Int.ofNat n) 0 = noM N cs ls) → Kp h'.nx h' h2 → K a n c h2) :
    ∃ a n c, ∃ h2, EvC Tryd.prog Ow 54 [Fm (Int.ofNat N) aF nF cF, .slice a1 n1 c1, .slice a2 n2 c2] h' (.slice a n c) h2 ∧ K a n c h2 := by
  have hO : Oth Ow := Ow_oth
  have _ := ok; have _ := ht; have _ := hb5; have _ := g5; have _ := F; have _ := G; have _ := kp; have _ := f
  have glen := cv_len hg
  refine ret_ri (ct54 hO okh C (by omega) (fun l hl => by have := cv_len (hc l (hcs l hl)); omega) (fun l hl x hx => ((hc l (hcs l hl)).2 x hx).1) L (by omega) (fun x hx => (hg.2 x (hls x hx)).1) (N := N) (by omega)) fun a n c h2 M K2 _ => next a n c h2 ?_ K2
  have := M.1
  rw [List.length_map] at this
  unfold noM
  rw [this]
  cases modelsN N cs ls with
  | nil => rfl
  | cons m r => rw [eqI_f (by simp only [List.length_cons, Int.ofNat_eq_natCast]; omega)]; rfl
theorem lp12_4 (hQ : ∀ h, Q (.bool true) h) {K : List Int} (hK : K.Sublist (allI cls.length)) (min : ∀ k, k < K.length → psiC N cls gs (K.eraseIdx k) = false) {a13 : Option Addr} {n13 c13 : Nat} {q4 : Bool} (X : IntsAt hB a13 n13 K) :
    ∀ (d k : Nat), k + d = K.length → ∀ {h : Hp}, Kp hB.nx hB h → I12_4 Ow Q v0 x0 x1 x2 x3 x4 q4 b5 0 a6 n6 c6 a13 n13 c13 (.func (.func 58) #[] #[.pointer (some ⟨b5, 0, none⟩)]) (Int.ofNat n13) (Int.ofNat k) h := by
  have hO : Oth Ow := Ow_oth
  have hn := X.1
  have hKl := sub_len hK
  intro d
  induction d with
  | zero =>
    intro k hk h kp
    refine I12_4.of (hh := ?_) ..
    unfold T12_4
    exact vcond_f (by rw [ltI_nat]; exact blt_f (by omega)) ⟨_, h, works_true (ht.kp kp ht.1), hQ _⟩
  | succ d ih =>
    intro k hk h kp
    refine I12_4.of (hh := ?_) ..
    unfold T12_4
    refine vcond_t (by rw [ltI_nat]; exact blt_t (by omega)) ?_
    intro g501
    have K1 : Kp h.nx h g501 := (Kp.refl _ _).rsv 13
    have kp1 := kp.trans (K1.le kp.nx)
    have f1 := kp1.ex (Nat.le_refl _)
    have ok1 := ok.kp kp1
    have okg : (g501.grd [b5]).Ok := ok1.grd fun q hq => by
      rw [List.mem_singleton] at hq; subst hq
      exact Nat.lt_of_lt_of_le hb5 kp1.nx
    refine ⟨_, _, _, _, by rw [readAt_get (h := g501) (by rw [kp1.get _ hb5]; exact g5) (by simp)]; rfl, ?_⟩
    have X1 : IntsAt (g501.grd [b5]) a13 n13 K := (X.to g501).keep (fun _ _ _ => rfl) (Nat.le_refl _) fun _ _ h => h
    rw [wrap_succ (by omega)]
    refine cl_del hO okg (i := k) X1 (by omega) (by omega) fun a3 n3 c3 h3 K3 nx3 => ?_
    intro g510
    have K10 : Kp g501.nx g501 g510 := Kp.rst (Kp.refl _ _) K3
    have kp10 := kp1.trans (K10.le kp1.nx)
    obtain ⟨a4, n4, c4, h4, e4, Y4, K4⟩ := nx3 (g510.grd [b5]) ⟨fun _ _ => rfl, Nat.le_refl _⟩ (fun q hq => by
      show q < g501.nx
      rcases List.mem_append.1 hq with hq | hq
      · rw [List.mem_singleton] at hq; subst hq; exact Nat.lt_of_lt_of_le hb5 kp1.nx
      · have hq2 : q ∈ g501.gd := by rw [← K10.gd]; exact hq
        exact ok1.gd q hq2)
    refine ⟨_, _, _, h4, e4, ?_⟩
    intro g515
    have K15 : Kp g501.nx g510 g515 := Kp.rst (Kp.refl _ _) K4
    have kp15 := kp10.trans (K15.le kp1.nx)
    have f15 := kp15.ex (Nat.le_refl _)
    have okg15 : (g515.grd [b5]).Ok := (ok.kp kp15).grd fun q hq => by
      rw [List.mem_singleton] at hq; subst hq
      exact Nat.lt_of_lt_of_le hb5 kp15.nx
    have Y15 : IntsAt (g515.grd [b5]) a4 n4 (K.eraseIdx k) := Y4.keep (fun _ _ _ => rfl) (Nat.le_refl _) fun _ _ h => h
    have F15 : IntssAt (g515.grd [b5]) aF nF cls := (F.to g515).keep (fun _ _ _ => rfl) (Nat.le_refl _) fun _ _ h => h
    have s2 : (K.eraseIdx k).Sublist (allI cls.length) := (List.eraseIdx_sublist ..).trans hK
    refine (ct58 hO okg15 (by omega) (Nat.lt_of_lt_of_le hb5 kp15.nx) (by show g515.get b5 = _; rw [kp15.get _ hb5]; exact g5) F15 Y15 s2 (c0 := c4)).s fun a5 n5 c5 h5 ⟨C5, K5⟩ => ?_
    intro g523
    have K23 : Kp g515.nx g515 g523 := Kp.rst (Kp.refl _ _) K5
    have kp23 := kp15.trans (K23.le kp15.nx)
    have f23 : Ft hB (g523.grd []) := ⟨(kp23.ex (Nat.le_refl _)).get, kp23.nx⟩
    have ok23 : (g523.grd []).Ok := ok.kp kp23
    have hin := sub_mem s2
    have hsl := sub_len s2
    have C23 : IntssAt (g523.grd []) a5 n5 (selC cls (K.eraseIdx k)) := C5.keep (fun _ _ _ => rfl) (Nat.le_refl _) fun _ _ h => h
    have f23' := kp23.ex (Nat.le_refl _)
    have G23 : IntsAt (g523.grd []) a6 n6 gs := (G.to g523).keep (fun _ _ _ => rfl) (Nat.le_refl _) fun _ _ h => h
    refine ms12 hN hcl hc hg ok ht hb5 g5 F G kp f23 ok23 (cs := selC cls (K.eraseIdx k)) (ls := gs) (fun l hl => by
      obtain ⟨x, hx, rfl⟩ := List.mem_map.1 hl
      obtain ⟨j, hj, rfl⟩ := hin x hx
      show cls.getD j [] ∈ cls
      rw [List.getD_eq_getElem?_getD, List.getElem?_eq_getElem hj]
      exact List.getElem_mem hj) (by unfold selC; rw [List.length_map]; exact hsl) (fun _ h => h) (Nat.le_refl _) C23 G23 fun a n c h2 en K2 => ?_
    intro g528
    have K28 : Kp g523.nx g523 g528 := Kp.rst (Kp.refl _ _) K2
    have kp28 := kp23.trans (K28.le kp23.nx)
    refine vcond_f (by rw [en]; exact min k (by omega)) ?_
    exact ih (k + 1) (by omega) kp28
theorem lp12_3 {core blame : List Int} (CO : IntsAt hB a9 n9 core) (BL : IntsAt hB a11 n11 blame) (hQ : ∀ h, Q (.bool true) h) {a13 : Option Addr} {n13 c13 : Nat} {hK : Hp} (kK : Kp hB.nx hB hK) (X : IntsAt hK a13 n13 core) (hCO : core.Sublist (allI cls.length)) (min : ∀ k, k < core.length → psiC N cls gs (core.eraseIdx k) = false) :
    ∀ (i : Nat) {rest : List Int} {x19 : Int} {h : Hp} {a18 : Option Addr} {n18 c18 : Nat}, x19 = Int.ofNat i - 1 → i ≤ rest.length → rest.Sublist gs → IntsAt h a18 n18 rest → Kp hK.nx hK h → blame = needF (noM N cls) i rest →
      I12_3 Ow Q v0 x0 x1 x2 x3 x4 b5 0 a6 n6 c6 a9 n9 c9 a11 n11 c11 a13 n13 c13 (.func (.func 58) #[] #[.pointer (some ⟨b5, 0, none⟩)]) a18 n18 c18 x19 h := by
  have hO : Oth Ow := Ow_oth
  have glen := cv_len hg
  have hcol := sub_len hCO
  intro i
  induction i with
  | zero =>
    intro rest x19 h a18 n18 c18 hx _ hs R kp hr
    subst hx
    have hsl := hs.length_le
    have hr : blame = rest := hr
    subst hr
    refine I12_3.of (hh := ?_) ..
    unfold T12_3
    have kB := kK.trans (kp.le kK.nx)
    have fB := kB.ex (Nat.le_refl _)
    have fK := kp.ex (Nat.le_refl _)
    refine vcond_f rfl ?_
    obtain ⟨v, h2, e2, rfl, K2⟩ := ct26 hO (CO.to h) (X.to h) (by omega) (c := c9) (c' := c13)
    rw [decide_eq_true rfl] at e2
    have k2 := kB.trans (K2.le kB.nx)
    have f2 := k2.ex (Nat.le_refl _)
    have f2' := K2.ex (Nat.le_refl _)
    refine ⟨_, h2, e2, vcond_f rfl ?_⟩
    obtain ⟨v, h3, e3, rfl, K3⟩ := ct26 hO (BL.to h2) (R.to h2) (by omega) (c := c11) (c' := c18)
    rw [decide_eq_true rfl] at e3
    have k3 := k2.trans (K3.le k2.nx)
    refine ⟨_, h3, e3, vcond_f rfl ?_⟩
    have k3K : Kp hK.nx hK h3 := kp.trans ((K2.trans (K3.le K2.nx)).le kp.nx)
    have fKK := k3K.ex (Nat.le_refl _)
    have fB3 := k3.ex (Nat.le_refl _)
    exact lp12_4 hN hcl hc hg (ok.kp k3) (ht.kp k3 ht.1) (Nat.lt_of_lt_of_le hb5 k3.nx) (by rw [k3.get _ hb5]; exact g5) (F.to h3) (G.to h3) hQ hCO min (X.to h3) core.length 0 (Nat.zero_add _) (.refl _ _)
  | succ i ih =>
    intro rest x19 h a18 n18 c18 hx hi hs R kp hr
    obtain rfl : x19 = Int.ofNat i := by rw [hx]; simp only [Int.ofNat_eq_natCast]; omega
    refine I12_3.of (hh := ?_) ..
    unfold T12_3
    have kB := kK.trans (kp.le kK.nx)
    have okh := ok.kp kB
    have hrl := hs.length_le
    refine vcond_t (by rw [show ltI (Int.ofNat i) 0 = false from rfl]; rfl) ?_
    rw [wrap_succ (by omega)]
    refine cl_del hO okh (i := i) R (by omega) (by omega) fun a3 n3 c3 h3 K3 nx3 => ?_
    obtain ⟨a4, n4, c4, h4, e4, Y4, K4⟩ := nx3 h3 ⟨fun _ _ => rfl, Nat.le_refl _⟩ (fun q hq => okh.gd q (by rw [← K3.gd]; exact hq))
    refine ⟨_, _, _, h4, e4, ?_⟩
    have K34 : Kp h.nx h h4 := K3.trans K4
    have kB4 := kB.trans (K34.le kB.nx)
    have fB4 := kB4.ex (Nat.le_refl _)
    have g4 : h4.get b5 = some (.cells [.int .i64 (Int.ofNat N), .slice aF nF cF] 30 .fix) := by rw [kB4.get _ hb5]; exact g5
    refine ⟨_, _, _, _, by rw [readAt_get g4 (by simp)]; rfl, _, _, _, read1 g4 (i := 0 + 1) rfl, ?_⟩
    have s2 : (rest.eraseIdx i).Sublist gs := (List.eraseIdx_sublist ..).trans hs
    refine ms12 hN hcl hc hg ok ht hb5 g5 F G kB fB4 (ok.kp kB4) (cs := cls) (ls := rest.eraseIdx i) (fun _ h => h) (Nat.le_refl _) (fun x hx => s2.subset hx) s2.length_le (F.to h4) Y4 fun a n c h5 en K5 => ?_
    have f45 := K5.ex (Nat.le_refl _)
    have f35 : Ft h h5 := Ft.tr (K34.ex (Nat.le_refl _)) f45
    have kK5 : Kp hK.nx hK h5 := kp.trans ((K34.trans (K5.le K34.nx)).le kp.nx)
    have hl2 : (rest.eraseIdx i).length = rest.length - 1 := List.length_eraseIdx_of_lt (by omega)
    rw [wrap64 (by simp only [Int.ofNat_eq_natCast]; omega) (by simp only [Int.ofNat_eq_natCast]; omega)]
    unfold needF at hr
    refine vcond_split (fun hz => ?_) fun hz => ?_
    · rw [en] at hz
      rw [if_pos hz] at hr
      exact ih rfl (by omega) s2 (Y4.to h5) kK5 hr
    · rw [en] at hz
      rw [if_neg (by rw [hz]; decide)] at hr
      exact ih rfl (by omega) hs (R.to h5) kK5 hr
theorem lp12_2 {r : List Int} (next : ∀ h a13 n13 c13 a18 n18 c18, Kp hB.nx hB h → IntsAt h a13 n13 r → IntsAt h a18 n18 gs → I12_3 Ow Q v0 x0 x1 x2 x3 x4 b5 0 a6 n6 c6 a9 n9 c9 a11 n11 c11 a13 n13 c13 (.func (.func 58) #[] #[.pointer (some ⟨b5, 0, none⟩)]) a18 n18 c18 (Int.ofNat gs.length - 1) h) :
    ∀ (i : Nat) {tl : List Int} {x16 : Int} {h : Hp} {a13 : Option Addr} {n13 c13 : Nat}, x16 = Int.ofNat i - 1 → (allI i ++ tl).Sublist (allI cls.length) → IntsAt h a13 n13 (allI i ++ tl) → Kp hB.nx hB h → r = needF (psiC N cls gs) i (allI i ++ tl) →
      I12_2 Ow Q v0 x0 x1 x2 x3 x4 b5 0 a6 n6 c6 a9 n9 c9 a11 n11 c11 a13 n13 c13 (.func (.func 58) #[] #[.pointer (some ⟨b5, 0, none⟩)]) x16 h := by
  have hO : Oth Ow := Ow_oth
  have glen := cv_len hg
  have hn6 := G.1
  intro i
  induction i with
  | zero =>
    intro tl x16 h a13 n13 c13 hx hs X kB hr
    subst hx
    refine I12_2.of (hh := ?_) ..
    unfold T12_2
    have fB := kB.ex (Nat.le_refl _)
    refine vcond_f rfl ?_
    refine (ct60 hO (ok.kp kB) (G.to h) (by omega)).s fun a3 n3 c3 h3 ⟨A3, K3⟩ => ?_
    have f3 := K3.ex (Nat.le_refl _)
    have hw : wrapF .i64 (Int.ofNat n6 - 1) = Int.ofNat gs.length - 1 := by rw [hn6, wrap64 (by simp only [Int.ofNat_eq_natCast]; omega) (by simp only [Int.ofNat_eq_natCast]; omega)]
    rw [hw]
    exact next h3 _ _ _ _ _ _ (kB.trans (K3.le kB.nx)) (by rw [hr]; exact X.to h3) (accE_ints A3)
  | succ i ih =>
    intro tl x16 h a13 n13 c13 hx hs X kB hr
    obtain rfl : x16 = Int.ofNat i := by rw [hx]; simp only [Int.ofNat_eq_natCast]; omega
    have hl := sub_len hs
    have hal : (allI (i + 1) ++ tl).length = i + 1 + tl.length := by rw [List.length_append, allI_len]
    have ix : idxI (Int.ofNat i) (allI (i + 1) ++ tl) 0 = Int.ofNat i := idx_all (by omega) tl
    have okh := ok.kp kB
    refine I12_2.of (hh := ?_) ..
    unfold T12_2
    refine vcond_t (by rw [show ltI (Int.ofNat i) 0 = false from rfl]; rfl) ?_
    refine cl_del hO okh (i := i) X (by omega) (by omega) fun a3 n3 c3 h3 K3 nx3 => ?_
    have f3 := K3.ex (Nat.le_refl _)
    have X3 := X.to h3
    have i3 := ct61 hO (Int.ofNat i) X3 (by omega) (c := c13)
    rw [ix] at i3
    refine ⟨_, h3, i3, _, h3, i3, ?_⟩
    rw [wrap_succ (by omega)]
    obtain ⟨a4, n4, c4, h4, e4, Y4, K4⟩ := nx3 h3 ⟨fun _ _ => rfl, Nat.le_refl _⟩ (fun q hq => okh.gd q (by rw [← K3.gd]; exact hq))
    refine ⟨_, _, _, h4, e4, ?_⟩
    rw [erase_all] at Y4
    intro g313
    have K34 : Kp h.nx h g313 := (K3.trans K4).rsv 8
    have kB4 := kB.trans (K34.le kB.nx)
    have fB4 := kB4.ex (Nat.le_refl _)
    have g4 : g313.get b5 = some (.cells [.int .i64 (Int.ofNat N), .slice aF nF cF] 30 .fix) := by rw [kB4.get _ hb5]; exact g5
    refine ⟨_, _, _, _, by rw [readAt_get g4 (by simp)]; rfl, ?_⟩
    have okg : (g313.grd [b5]).Ok := (ok.kp kB4).grd fun q hq => by
      rw [List.mem_singleton] at hq; subst hq
      exact Nat.lt_of_lt_of_le hb5 kB4.nx
    have s2 : (allI i ++ tl).Sublist (allI cls.length) := by
      rw [← erase_all]; exact (List.eraseIdx_sublist ..).trans hs
    have Yg : IntsAt (g313.grd [b5]) a4 n4 (allI i ++ tl) := Y4.keep (fun _ _ _ => rfl) (Nat.le_add_right _ _) fun _ _ h => h
    have Fg : IntssAt (g313.grd [b5]) aF nF cls := (F.to g313).keep (fun _ _ _ => rfl) (Nat.le_refl _) fun _ _ h => h
    refine (ct58 hO okg (by omega) (Nat.lt_of_lt_of_le hb5 kB4.nx) g4 Fg Yg s2 (c0 := c4)).s fun a5 n5 c5 h5 ⟨C5, K5⟩ => ?_
    intro g325
    have K25 : Kp g313.nx g313 g325 := Kp.rst (Kp.refl _ _) K5
    have kB25 := kB4.trans (K25.le kB4.nx)
    have f25' := kB25.ex (Nat.le_refl _)
    have f25 : Ft hB (g325.grd []) := ⟨f25'.get, f25'.nx⟩
    have ok25 : (g325.grd []).Ok := ok.kp kB25
    have C25 : IntssAt (g325.grd []) a5 n5 (selC cls (allI i ++ tl)) := C5.keep (fun _ _ _ => rfl) (Nat.le_refl _) fun _ _ h => h
    have G25 : IntsAt (g325.grd []) a6 n6 gs := (G.to g325).keep (fun _ _ _ => rfl) (Nat.le_refl _) fun _ _ h => h
    have hin := sub_mem s2
    have hsl := sub_len s2
    refine ms12 hN hcl hc hg ok ht hb5 g5 F G kB f25 ok25 (cs := selC cls (allI i ++ tl)) (ls := gs) (fun l hl => by
      obtain ⟨x, hx, rfl⟩ := List.mem_map.1 hl
      obtain ⟨j, hj, rfl⟩ := hin x hx
      show cls.getD j [] ∈ cls
      rw [List.getD_eq_getElem?_getD, List.getElem?_eq_getElem hj]
      exact List.getElem_mem hj) (by unfold selC; rw [List.length_map]; exact hsl) (fun _ h => h) (Nat.le_refl _) C25 G25 fun a n c h6 en K6 => ?_
    intro g330
    have K30 : Kp g325.nx g325 g330 := Kp.rst (Kp.refl _ _) K6
    have kB30 := kB25.trans (K30.le kB25.nx)
    have k430 : Kp g313.nx g313 g330 := K25.trans (K30.le K25.nx)
    rw [wrap64 (by simp only [Int.ofNat_eq_natCast]; omega) (by simp only [Int.ofNat_eq_natCast]; omega)]
    unfold needF at hr
    rw [erase_all] at hr
    have f430 := k430.ex (Nat.le_refl _)
    refine vcond_split (fun hz => ?_) fun hz => ?_
    · rw [en] at hz
      rw [if_pos (show psiC N cls gs (allI i ++ tl) = true from hz)] at hr
      have Y5 : IntsAt g313 a4 n4 (allI i ++ tl) := Yg.keep (fun _ _ _ => rfl) (Nat.le_refl _) fun _ _ h => h
      exact ih rfl s2 (Y5.to g330) kB30 hr
    · rw [en] at hz
      rw [if_neg (by rw [show psiC N cls gs (allI i ++ tl) = false from hz]; decide)] at hr
      have fh : Ft h g330 := Ft.tr (K34.ex (Nat.le_refl _)) f430
      have e : allI (i + 1) ++ tl = allI i ++ (Int.ofNat i :: tl) := by rw [allI_succ, List.append_assoc]; rfl
      rw [e] at hr hs X
      exact ih rfl hs (X.to g330) kB30 hr
end
end Go.Proofs.YtfgfhplgnfbaaaaDoor
/- SatMinimal of layer 20: its law, joined. -/
namespace Go.Proofs.YtfgfhplgnfbaaaaDoor
open Go Go.Ev Go.ChangeShapes Go.WideShapes Go.ChangeAt Go.RowKit
theorem und76 : Tryd.prog.underlying 76 = some (.array 5 22) := by kernel_rfl
theorem sz76 : Tryd.prog.cellsOf 76 = 5 * Tryd.prog.cellsOf 22 := by kernel_rfl
theorem n76 : Tryd.prog.cellsOf 76 = 5 := by kernel_rfl
theorem bld76 {H : Type} {enc : TypeId × Value → H} {W : World} : ∀ n, Builds H enc Tryd.prog W n 76
  | 0 => build0 76
  | n + 1 => build_array (bld22 n) sz76 und76
section
variable {v0 : Array Value} {x0 x1 x2 x3 x4 : Int} {N : Nat} (hN : 1 ≤ N ∧ N ≤ 7) {cls : List (List Int)} (hcl : cls.length ≤ 14) (hc : ∀ l ∈ cls, Cv (Int.ofNat N) l)
include hN hcl hc
theorem lp12_1 {gs : List Int} (hg : Cv (Int.ofNat N) gs) {hB : Hp} (ok : hB.Ok) (ht : Tb hB) {b5 : Nat} (hb5 : b5 < hB.nx) {aF a6 : Option Addr} {nF cF n6 c6 : Nat} (g5 : hB.get b5 = some (.cells [.int .i64 (Int.ofNat N), .slice aF nF cF] 30 .fix)) (F : IntssAt hB aF nF cls) (G : IntsAt hB a6 n6 gs) {a9 a11 : Option Addr} {n9 c9 n11 c11 : Nat} (CO : IntsAt hB a9 n9 (needF (psiC N cls gs) cls.length (allI cls.length))) (BL : IntsAt hB a11 n11 (needF (noM N cls) gs.length gs)) :
    ∀ (d k : Nat), k + d = cls.length → ∀ {h : Hp}, Kp hB.nx hB h → hB.nx < h.nx → h.get hB.nx = some (.cells ((allI k ++ List.replicate d 0).map (Value.int .i64)) 3 .fix) →
      I12_1 Ow Yes v0 x0 x1 x2 x3 x4 b5 0 a6 n6 c6 a9 n9 c9 a11 n11 c11 (some ⟨hB.nx, 0, none⟩) cls.length cls.length (Int.ofNat cls.length) (Int.ofNat k) h := by
  have glen := cv_len hg
  have hN8 : 1 ≤ N ∧ N ≤ 8 := by omega
  have hnF := F.1
  intro d
  induction d with
  | zero =>
    intro k hk h kp hnx gk
    obtain rfl : k = cls.length := by omega
    refine I12_1.of (hh := ?_) ..
    unfold T12_1
    have f := kp.ex (Nat.le_refl _)
    have g5h : h.get b5 = some (.cells [.int .i64 (Int.ofNat N), .slice aF nF cF] 30 .fix) := by rw [kp.get _ hb5]; exact g5
    refine vcond_f (by rw [ltI_nat]; exact blt_f (by omega)) ⟨_, _, _, read1 g5h (i := 0 + 1) rfl, ?_⟩
    rw [List.replicate_zero, List.append_nil] at gk
    have X := ints_of_get (xs := allI cls.length) gk hnx (by simp) fun i hi => by rw [List.getElem?_map, List.getElem?_eq_getElem hi]; rfl
    rw [allI_len] at X
    rw [hnF, wrap64 (by simp only [Int.ofNat_eq_natCast]; omega) (by simp only [Int.ofNat_eq_natCast]; omega)]
    refine lp12_2 hN8 hcl hc hg (ok.kp kp) (ht.kp kp ht.1) (Nat.lt_of_lt_of_le hb5 kp.nx) g5h (F.to h) (G.to h) (r := needF (psiC N cls gs) cls.length (allI cls.length)) (fun h2 a13 n13 c13 a18 n18 c18 k2 X13 X18 => ?_) cls.length (tl := []) rfl (by rw [List.append_nil]; exact List.Sublist.refl _) (by rw [List.append_nil]; exact X) (.refl _ _) (by rw [List.append_nil])
    have f2 := k2.ex (Nat.le_refl _)
    exact lp12_3 hN8 hcl hc hg (ok.kp kp) (ht.kp kp ht.1) (Nat.lt_of_lt_of_le hb5 kp.nx) g5h (F.to h) (G.to h) (CO.to h) (BL.to h) (Q := Yes) (fun _ => rfl) k2 X13 (needF_sub ..) (needF_min psiC_mono _ _ (fun k h1 h2 => by rw [allI_len] at h2; omega) (by rw [allI_len]; omega)) gs.length rfl (Nat.le_refl _) (List.Sublist.refl _) X18 (.refl _ _) rfl
  | succ d ih =>
    intro k hk h kp hnx gk
    refine I12_1.of (hh := ?_) ..
    unfold T12_1
    have okh := ok.kp kp
    have gu : h.guarded hB.nx = false := guarded_of fun q hq => by
      have : q ∈ hB.gd := by rw [← kp.gd]; exact hq
      have := ok.gd q this; omega
    have hl : 0 + k * 1 + [Value.int .i64 (Int.ofNat k)].length ≤ ((allI k ++ List.replicate (d + 1) 0).map (Value.int .i64)).length := by
      simp [allI_len]
    refine vcond_t (by rw [ltI_nat]; exact blt_t (by omega)) (isNat_i (show isAddr (some ⟨hB.nx, 0, none⟩) _ from vreq_t (blt_t (by omega)) (vreq_t (canW_t gk (by decide) gu hl rfl) ?_)))
    intro g204
    have w : g204.get hB.nx = some (.cells ((allI (k + 1) ++ List.replicate d 0).map (Value.int .i64)) 3 .fix) := by
      refine (wr_get gk (by decide) gu hl rfl).trans ?_
      rw [show 0 + k * 1 = k by omega, putAt_set (by simp [allI_len]), List.set_append_right _ _ (by rw [allI_len]; omega), allI_len, Nat.sub_self, List.replicate_succ, List.set_cons_zero, allI_succ, List.append_assoc]; rfl
    rw [wrap_succ (by omega)]
    exact ih (k + 1) (by omega) (kp.wr (Nat.le_refl _) _ _) (by rw [nx_wr]; exact hnx) w
theorem lp12_0 (hx : ∀ x ∈ [x0, x1, x2, x3, x4], -128 ≤ x ∧ x < 128) {hB : Hp} (ok : hB.Ok) (ht : Tb hB) {b5 : Nat} (hb5 : b5 < hB.nx) {aF : Option Addr} {nF cF : Nat} (g5 : hB.get b5 = some (.cells [.int .i64 (Int.ofNat N), .slice aF nF cF] 30 .fix)) (F : IntssAt hB aF nF cls) {y0 y1 y2 y3 y4 : Int} :
    ∀ (d k : Nat), k + d = 5 → ∀ {h : Hp} {a6 : Option Addr} {n6 c6 : Nat}, Kp hB.nx hB h → AccI 3 h hB.nx a6 n6 c6 (([x0, x1, x2, x3, x4].take k).map fun x => litP x (Int.ofNat N)) →
      I12_0 Ow Yes v0 y0 y1 y2 y3 y4 b5 0 a6 n6 c6 x0 x1 x2 x3 x4 (Int.ofNat k) h := by
  have hO : Oth Ow := Ow_oth
  have hN8 : 1 ≤ N ∧ N ≤ 8 := by omega
  intro d
  induction d with
  | zero =>
    intro k hk h a6 n6 c6 kp A
    obtain rfl : k = 5 := by omega
    refine I12_0.of (hh := ?_) ..
    unfold T12_0
    have okh := ok.kp kp
    refine vcond_f rfl ?_
    rw [List.take_of_length_le (by simp)] at A
    have lits : ∀ x ∈ [x0, x1, x2, x3, x4].map (fun x => litP x (Int.ofNat N)), Lit x ∧ (x.natAbs : Int) ≤ Int.ofNat N := fun x hx' => by
      obtain ⟨z, hz, rfl⟩ := List.mem_map.1 hx'
      obtain ⟨h1, h2⟩ := hx z hz
      obtain ⟨l1, l2⟩ := litP_ok h1 h2 (vars := Int.ofNat N) (by simp only [Int.ofNat_eq_natCast]; omega) (by simp only [Int.ofNat_eq_natCast]; omega)
      exact ⟨l1, by simp only [Int.ofNat_eq_natCast, Int.toNat_natCast] at *; omega⟩
    refine (ct19 hO okh A.ints (by simp) (fun x hx => (lits x hx).1) (c0 := c6)).s fun a20 n21 c22 h113 ⟨X, K, _, _⟩ => ?_
    generalize hgs : clauseN ([x0, x1, x2, x3, x4].map fun x => litP x (Int.ofNat N)) = gs at X
    have hg : Cv (Int.ofNat N) gs := by
      subst hgs
      exact ⟨clauseN_dif _, fun x hx => clauseN_mem (P := fun x => Lit x ∧ (x.natAbs : Int) ≤ Int.ofNat N) lits x hx⟩
    have glen := cv_len hg
    have llen : ∀ l ∈ cls, l.length < 1000000 := fun l hl => by have := cv_len (hc l hl); omega
    have clits : ∀ l ∈ cls, ∀ x ∈ l, Lit x := fun l hl x hx => ((hc l hl).2 x hx).1
    have k1 := kp.trans (K.le kp.nx)
    have f1 := k1.ex (Nat.le_refl _)
    have g1 : h113.get b5 = some (.cells [.int .i64 (Int.ofNat N), .slice aF nF cF] 30 .fix) := by rw [k1.get _ hb5]; exact g5
    refine ⟨_, _, _, _, by rw [readAt_get g1 (by simp)]; rfl, ?_⟩
    obtain ⟨v, h122, e122, a118, n119, c120, rfl, X118, K2⟩ := ct25 hO (ok.kp k1) (ht.kp k1 ht.1) (N := N) (by omega) (by omega) hc hg (F.to h113) X (cF := cF) (cG := c22)
    refine ⟨_, _, _, _, h122, e122, ?_⟩
    have k2 := k1.trans (K2.le k1.nx)
    have f2 := k2.ex (Nat.le_refl _)
    have f12 := K2.ex (Nat.le_refl _)
    have g2 : h122.get b5 = some (.cells [.int .i64 (Int.ofNat N), .slice aF nF cF] 30 .fix) := by rw [k2.get _ hb5]; exact g5
    refine ⟨_, _, _, _, by rw [readAt_get g2 (by simp)]; rfl, ?_⟩
    obtain ⟨v, h131, e131, a127, n128, c129, rfl, X127, K3⟩ := ct51 hO (ok.kp k2) (ht.kp k2 ht.1) (N := N) (by omega) (by omega) hc hg (F.to h122) (X.to h122) (cF := cF) (cG := c22)
    refine ⟨_, _, _, _, h131, e131, ?_⟩
    have k3 := k2.trans (K3.le k2.nx)
    have f3 := k3.ex (Nat.le_refl _)
    have f23 := K3.ex (Nat.le_refl _)
    have f13 : Ft h113 h131 := f12.tr f23
    have g3 : h131.get b5 = some (.cells [.int .i64 (Int.ofNat N), .slice aF nF cF] 30 .fix) := by rw [k3.get _ hb5]; exact g5
    refine ⟨_, _, _, _, by rw [readAt_get g3 (by simp)]; rfl, _, _, _, read1 g3 (i := 0 + 1) rfl, ?_⟩
    refine ret_ri (ct54 hO (ok.kp k3) (F.to h131) (by omega) llen clits (X.to h131) (by omega) (fun x hx => (hg.2 x hx).1) (N := N) (by omega) (a0 := aF) (n0 := nF) (c0 := cF) (c1 := cF) (c2 := c22)) fun a139 n140 c141 h142 M K4 _ => ?_
    have k4 := k3.trans (K4.le k3.nx)
    have f4 := k4.ex (Nat.le_refl _)
    have f34 := K4.ex (Nat.le_refl _)
    have f24 : Ft h122 h142 := f23.tr f34
    have f14 : Ft h113 h142 := f12.tr f24
    have X118' := X118.to h142
    have X127' := X127.to h142
    have hn := M.1
    rw [List.length_map] at hn
    have c1 := core_is hN8 hc hg.2
    obtain ⟨b1, b2⟩ := blame_is hN8 hc hg.2
    rw [c1] at X118' ⊢
    rw [b2] at X127'
    rw [b1]
    cases hm : noM N cls gs with
    | false =>
      rw [hm] at X118' X127'
      have z1 := X118'.1
      have z2 := X127'.1
      have hne : 0 < n140 := by
        rw [hn]
        unfold noM at hm
        cases h : modelsN N cls gs with
        | nil => rw [h] at hm; cases hm
        | cons _ _ => simp
      refine vcond_t (by rw [show (0 : Int) = Int.ofNat 0 from rfl, ltI_nat]; exact blt_t hne) (vcond_t rfl (vcond_t rfl (vcond_t ?_ ⟨_, _, works_true (ht.kp k4 ht.1), rfl⟩)))
      rw [z1, z2]; rfl
    | true =>
      rw [hm] at X118' X127'
      have h0 : n140 = 0 := by
        rw [hn]
        unfold noM at hm
        rw [decide_eq_true_iff] at hm
        rw [hm]; rfl
      have g4 : h142.get b5 = some (.cells [.int .i64 (Int.ofNat N), .slice aF nF cF] 30 .fix) := by rw [k4.get _ hb5]; exact g5
      have hnF := F.1
      have hb : big = 4611686018427387904 := rfl
      refine vcond_f (by rw [h0]; rfl) (vcond_f rfl (vcond_f rfl ⟨_, _, _, read1 g4 (i := 0 + 1) rfl, vreq_t (ble_t (Nat.le_refl _)) (vreq_t (ble_t (by omega)) (vreq_t (blt_t (by omega)) ?_))⟩))
      intro g148
      rw [hnF]
      have e148 : g148.get h142.nx = some (.cells ((allI 0 ++ List.replicate cls.length 0).map (Value.int .i64)) 3 .fix) := by
        refine (get_add_same ..).trans ?_
        rw [hnF]
        congr 2
        have : ∀ n : Nat, List.flatten (List.replicate n [Value.int .i64 0]) = (List.replicate n (0 : Int)).map (Value.int .i64) := by
          intro n
          induction n with
          | zero => rfl
          | succ n ih => rw [List.replicate_succ, List.flatten_cons, ih, List.replicate_succ]; rfl
        exact this _
      exact lp12_1 hN hcl hc hg (ok.kp k4) (ht.kp k4 ht.1) (Nat.lt_of_lt_of_le hb5 k4.nx) g4 (F.to h142) (X.to h142) X118' X127' cls.length 0 (Nat.zero_add _) ((Kp.refl h142.nx h142).add (Nat.le_refl _) _) (by show h142.nx < h142.nx + 1; omega) e148
  | succ d ih =>
    intro k hk h a6 n6 c6 kp A
    refine I12_0.of (hh := ?_) ..
    unfold T12_0
    have hk5 : k < [x0, x1, x2, x3, x4].length := by simp; omega
    have g1 : h.get b5 = some (.cells [.int .i64 (Int.ofNat N), .slice aF nF cF] 30 .fix) := by rw [kp.get _ hb5]; exact g5
    refine vcond_t (by rw [show (5 : Int) = Int.ofNat 5 from rfl, ltI_nat]; exact blt_t (by simpa using hk5)) (isNat_i (vreq_t (blt_t (by simpa using hk5)) ⟨_, read1 g1 (i := 0 + 0) rfl, ?_⟩))
    have e : List.getD [x0, x1, x2, x3, x4] k 0 = [x0, x1, x2, x3, x4][k] := by rw [List.getD_eq_getElem?_getD, List.getElem?_eq_getElem hk5]; rfl
    rw [e]
    obtain ⟨r1, r2⟩ := hx _ (List.getElem_mem hk5)
    refine ⟨_, _, ct21 hO r1 r2 (by simp only [Int.ofNat_eq_natCast]; omega) (by simp only [Int.ofNat_eq_natCast]; omega) h, ?_⟩
    intro g105
    rw [wrap_succ (by omega)]
    refine appI app32 A kp.nx (GdLt.kp ok.lt kp) (by simp; omega) fun a' n' c' h' A' _ ka => ?_
    refine ih (k + 1) (by omega) (kp.trans ka) ?_
    rw [List.take_succ_eq_append_getElem hk5, List.map_append]; exact A'
end
theorem law12 {vars many : Nat} {cl : List Int} (p : PuzOk vars many cl) {x0 x1 x2 x3 x4 : Int} (hx : ∀ x ∈ [x0, x1, x2, x3, x4], -128 ≤ x ∧ x < 128) {h : Hp} (ok : h.Ok) (ht : Tb h) :
    Ret Tryd.prog Ow 12 [.agg (puzV vars many cl).toArray, .agg #[.int .i8 x0, .int .i8 x1, .int .i8 x2, .int .i8 x3, .int .i8 x4]] h Yes := by
  have hO : Oth Ow := Ow_oth
  refine rk12 _ _ _ _ _ _ (Ow_oth _ _ _ (by decide)) ?_
  unfold T12
  have pv := p.v
  refine vreq_t (by simp [puzV, one]) ?_
  intro g1 g2
  have k1 : Kp h.nx h g1 := (Kp.refl _ _).add (Nat.le_refl _) _
  have n1 : g1.nx = h.nx + 1 := rfl
  have k2 : Kp h.nx h g2 := k1.add (by omega) _
  have n2 : g2.nx = h.nx + 2 := rfl
  have e2 : g2.get h.nx = some (.cells (puzV vars many cl) 26 .fix) := by rw [show g2.get h.nx = g1.get h.nx from get_add_ne (by omega)]; exact get_add_same h _
  have e3 : g2.get g1.nx = some (.cells [.int .i8 x0, .int .i8 x1, .int .i8 x2, .int .i8 x3, .int .i8 x4] 76 .fix) := get_add_same ..
  have pl : (puzV vars many cl).length = 44 := by simp [puzV, p.len]
  refine ⟨_, by rw [readAt_get e2 (by omega), List.drop_zero, ← pl, List.take_length], ?_⟩
  obtain ⟨v7, h8, e8, a5, n5, c6, rfl, F8, K8⟩ := ct16 hO (ok.kp k2) p (x1 := 7) ⟨by decide, by decide⟩
  refine ⟨_, _, _, _, _, e8, ?_⟩
  have hmod : 0 ≤ (vars : Int).tmod 7 ∧ (vars : Int).tmod 7 < 7 := ⟨Int.tmod_nonneg _ (by omega), Int.tmod_lt_of_pos _ (by omega)⟩
  obtain ⟨N, hNe⟩ : ∃ N : Nat, 1 + (vars : Int).tmod 7 = Int.ofNat N := ⟨(1 + (vars : Int).tmod 7).toNat, by simp only [Int.ofNat_eq_natCast]; omega⟩
  rw [hNe] at e8 F8 ⊢
  have hN : 1 ≤ N ∧ N ≤ 7 := by simp only [Int.ofNat_eq_natCast] at hNe; omega
  have hNi : (1 : Int) ≤ Int.ofNat N ∧ Int.ofNat N ≤ 30 := by simp only [Int.ofNat_eq_natCast]; omega
  obtain ⟨cn, co⟩ := clsN_ok p (N := Int.ofNat N) hNi (many % 15)
  intro g9
  have k8 := k2.trans (K8.le k2.nx)
  have ok8 := ok.kp k8
  have ea : g9.get h8.nx = some (.cells [.int .i64 0, .slice none 0 0] 30 .fix) := get_add_same ..
  have gu : g9.guarded h8.nx = false := guarded_of fun q hq => by have := ok8.gd q hq; omega
  refine vreq_t (canW_t ea (by decide) gu (by simp) rfl) ?_
  intro g10
  have w10 : g10.get h8.nx = some (.cells [.int .i64 (Int.ofNat N), .slice a5 n5 c6] 30 .fix) := (wr_get ea (by decide) gu (by simp) rfl).trans rfl
  have K10 : Kp h8.nx h8 g10 := ((Kp.refl h8.nx h8).add (Nat.le_refl _) _).wr (Nat.le_refl _) _ _
  have k10 := k8.trans (K10.le k8.nx)
  have f10 := K10.ex (Nat.le_refl _)
  have n10 : g10.nx = h8.nx + 1 := nx_wr ..
  have n8 := K8.nx
  have e10 : g10.get g1.nx = some (.cells [.int .i8 x0, .int .i8 x1, .int .i8 x2, .int .i8 x3, .int .i8 x4] 76 .fix) := by rw [K10.get _ (by omega), K8.get _ (by omega)]; exact e3
  refine ⟨_, _, _, _, _, by rw [readAt_get e10 (by simp)]; rfl, ?_⟩
  exact lp12_0 hN (by omega) (fun l hl => (co l hl).1) hx (ok.kp k10) (ht.kp k10 ht.1) (by omega) w10 (F8.to g10) 5 0 rfl (.refl _ _) (AccI.nil ..)
end Go.Proofs.YtfgfhplgnfbaaaaDoor
