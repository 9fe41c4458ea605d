/- Contracts of functions of layer 20: formulas, as clauses' sides. -/
import Derived.Test.YtfgfhplgnfbaaaaDoorOutB
import Derived.Test.YtfgfhplgnfbaaaaDoorFnA
import Derived.Test.YtfgfhplgnfbaaaaDoorVcC
namespace Go.Proofs.YtfgfhplgnfbaaaaDoor
open Go Go.Ev

/-- Two masks. -/
def EUU : Enc (Nat × Nat) := fun _ x vs => vs = [U x.1, U x.2]
theorem EUU.up : EUU.Up := fun _ _ _ _ _ h => h
abbrev SidesAt := SlAt 2 EUU
/-- A clause's sides. -/
def sideF : List Int → Nat → Nat → Nat × Nat
  | [], y, m => (y, m)
  | x :: xs, y, m => sideF xs (withN y m x).1 (withN y m x).2
def sideN (xs : List Int) : Nat × Nat := sideF xs 0 0
theorem sideF_lt : ∀ {xs : List Int} {y m : Nat}, (∀ x ∈ xs, Lit x) → y < 2 ^ 30 → m < 2 ^ 30 → (sideF xs y m).1 < 2 ^ 30 ∧ (sideF xs y m).2 < 2 ^ 30 := by
  intro xs
  induction xs with
  | nil => intro y m _ hy hm; exact ⟨hy, hm⟩
  | cons x xs ih =>
    intro y m hl hy hm
    have hx := hl x (List.mem_cons_self ..)
    have hb := bitN_lt hx
    refine ih (fun z hz => hl z (List.mem_cons_of_mem _ hz)) ?_ ?_
    · unfold withN; split
      · exact Nat.or_lt_two_pow hy hb
      · exact hy
    · unfold withN; split
      · exact hm
      · exact Nat.or_lt_two_pow hm hb
theorem IntsAt.keepK {h h' : Hp} {a : Option Addr} {n : Nat} {xs : List Int} {base : Nat} (H : IntsAt h a n xs) (hb : ∀ b off, a = some ⟨b, off, none⟩ → b < base) (k : Kp base h h') : IntsAt h' a n xs :=
  H.keep (fun b off e => k.get b (hb b off e)) k.nx fun _ _ h => h
theorem SlAt.below {α : Type} {w : Nat} {R : Enc α} {h : Hp} {a : Option Addr} {n : Nat} {xs : List α} (H : SlAt w R h a n xs) : ∀ b off, a = some ⟨b, off, none⟩ → b < h.nx := by
  intro b off e
  rcases H.2 with ⟨_, h0⟩ | ⟨b', off', _, _, _, h0, h2, _⟩
  · rw [h0] at e; cases e
  · rw [h0] at e; injection e with e; injection e with e _; omega

section
variable {O : CallF} (hO : Oth O)
include hO

theorem lp107 {a : Option Addr} {n c : Nat} {xs : List Int} (hx : ∀ x ∈ xs, Lit x) (hl : xs.length < 1000000) {h₀ : Hp} (ok : h₀.Ok) (H : IntsAt h₀ a n xs) {r : Nat × Nat} :
    ∀ (d k : Nat), k + d = xs.length → ∀ (y m : Nat) {h : Hp}, y < 2 ^ 30 → m < 2 ^ 30 → Kp h₀.nx h₀ h → h₀.nx + 2 ≤ h.nx → h.get h₀.nx = some (.cells [U 0, U 0] 130 .fix) → h.get (h₀.nx + 1) = some (.cells [U y, U m] 130 .fix) → r = sideF (xs.drop k) y m →
      I107_0 O (fun v h' => v = .agg #[U r.1, U r.2] ∧ Kp h₀.nx h₀ h') a n c h₀.nx 0 (h₀.nx + 1) 0 (Int.ofNat k) h := by
  have hn := H.1
  intro d
  induction d with
  | zero =>
    intro k hk y m h hy hm kp hnx g2 g3 hr
    refine I107_0.of _ _ _ _ _ _ _ _ ?_
    intros
    unfold T107_0
    refine vcond_f (by rw [ltI_nat]; exact blt_f (by omega)) ?_
    rw [List.drop_of_length_le (by omega)] at hr
    subst hr
    have gu : h.guarded h₀.nx = false := guarded_of fun q hq => by rw [kp.gd] at hq; have := ok.gd q hq; omega
    refine ⟨_, _, readAt_get g3 (by simp), vreq_t (canW_t g2 (by decide) gu (by simp) rfl) ⟨_, _, readAt_get (wr_get g2 (by decide) gu (by simp) rfl) (by simp [putAt]), rfl, kp.wr (Nat.le_refl _) _ _⟩⟩
  | succ d ih =>
    intro k hk y m h hy hm kp hnx g2 g3 hr
    refine I107_0.of _ _ _ _ _ _ _ _ ?_
    intros
    unfold T107_0
    have e1 : xs.drop k = xs[k] :: xs.drop (k + 1) := List.drop_eq_getElem_cons (by omega)
    rw [e1] at hr
    simp only [sideF] at hr
    have hlit := hx xs[k] (List.getElem_mem _)
    have H1 : IntsAt h a n xs := H.up EInt.up kp
    refine vcond_t (by rw [ltI_nat]; exact blt_t (by omega)) (isNat_of (H1.get (k := k) (by omega) fun b off h1 h2 hrd => vreq_t (blt_t (by omega)) ⟨_, hrd, ?_⟩))
    have g3' : (h.rsv 7).get (h₀.nx + 1) = _ := g3
    have gu : (h.rsv 7).guarded (h₀.nx + 1) = false := guarded_of fun q hq => by
      have : q ∈ h₀.gd := by rw [← kp.gd]; exact hq
      have := ok.gd q this; omega
    have es : (((h.rsv 7).grd [h₀.nx + 1]).rst (h.rsv 7)).grd [] = h.rsv 7 := rfl
    have es2 : ((h.rsv 7).grd [h₀.nx + 1]).rst (h.rsv 7) = h.rsv 7 := rfl
    have hb := bitN_lt hlit
    have k7 : Kp h₀.nx h₀ (h.rsv 7) := kp.rsv 7
    have go : ∀ (y' m' off : Nat) (z : Nat), y' < 2 ^ 30 → m' < 2 ^ 30 → off < 2 → putAt [U y, U m] off [U z] = [U y', U m'] → r = sideF (xs.drop (k + 1)) y' m' →
        I107_0 O (fun v h' => v = .agg #[U r.1, U r.2] ∧ Kp h₀.nx h₀ h') a n c h₀.nx 0 (h₀.nx + 1) 0 (Int.ofNat (k + 1)) (((h.rsv 7).wr (h₀.nx + 1) off [U z]).rst (h.rsv 7)) := by
      intro y' m' off z hy' hm' hoff hput hr'
      refine ih (k + 1) (by omega) y' m' hy' hm' ?_ (by rw [nx_rst, nx_wr, nx_rsv]; omega) ?_ ?_ hr'
      · exact k7.rst (g := []) (show Kp h₀.nx ((h.rsv 7).grd []) ((h.rsv 7).wr (h₀.nx + 1) off [U z]) from (Kp.refl h₀.nx (h.rsv 7)).wr (by omega) off [U z])
      · rw [get_rst, wr_get_ne _ _ _ _ (by omega)]; exact g2
      · rw [get_rst, wr_get g3' (by decide) gu (by simp; omega) rfl, hput]
    refine vcond_split (fun h3 => ?_) fun h3 => ?_
    · have e2 : withN y m xs[k] = (y ||| bitN xs[k], m) := if_pos (lt_of_t h3)
      rw [e2] at hr
      refine ⟨_, read1 g3' (i := 0 + 0) rfl, _, _, bit_ct hO hlit _, vreq_t (inD_of (by omega)) (vreq_t (inD_of (by omega)) ?_)⟩
      rw [es, es2, lor_nat, wrap_succ (by omega)]
      exact vreq_t (canW_t g3' (by decide) gu (by simp) rfl) (go (y ||| bitN xs[k]) m 0 _ (Nat.or_lt_two_pow hy hb) hm (by decide) rfl hr ..)
    · have e2 : withN y m xs[k] = (y, m ||| bitN xs[k]) := if_neg (not_lt_of_f h3)
      rw [e2] at hr
      refine ⟨_, read1 g3' (i := 0 + 1) rfl, _, _, bit_ct hO hlit _, vreq_t (inD_of (by omega)) (vreq_t (inD_of (by omega)) ?_)⟩
      rw [es, es2, lor_nat, wrap_succ (by omega)]
      exact vreq_t (canW_t g3' (by decide) gu (by simp) rfl) (go y (m ||| bitN xs[k]) 1 _ hy (Nat.or_lt_two_pow hm hb) (by decide) rfl hr ..)
theorem ct107 {a : Option Addr} {n c : Nat} {xs : List Int} (hx : ∀ x ∈ xs, Lit x) (hl : xs.length < 1000000) {h : Hp} (ok : h.Ok) (H : IntsAt h a n xs) :
    Ret Tryd.prog O 107 [.slice a n c] h fun v h' => v = .agg #[U (sideN xs).1, U (sideN xs).2] ∧ Kp h.nx h h' := by
  refine rk107 _ _ _ (hO _ _ _ (by decide)) ?_
  unfold T107
  have k1 : Kp h.nx h (h.add (.cells [U 0, U 0] 130 .fix)) := (Kp.refl _ _).add (Nat.le_refl _) _
  exact lp107 hO hx hl ok H xs.length 0 (by omega) 0 0 (by decide) (by decide) (k1.add (by rw [nx_add]; omega) _) (Nat.le_refl _) (by rw [get_add_ne (by rw [nx_add]; omega), get_add_same]; rfl) (get_add_same ..) rfl ..
end
end Go.Proofs.YtfgfhplgnfbaaaaDoor
/- Contracts of functions of layer 20: formulas are checked. -/
namespace Go.Proofs.YtfgfhplgnfbaaaaDoor
open Go Go.Ev

/-- A formula is as defined. -/
def formB (vars : Int) (cls : List (List Int)) : Bool := !(decide (vars < 0)) && !(decide (30 < vars)) && !(decide (120 < cls.length)) && cls.all (clB vars 0)
/-- Lists are many more, or longer, than they may be. -/
def greatB (cls : List (List Int)) : Bool := decide (150 < cls.length) || cls.any fun l => decide (40 < l.length)
abbrev Fm (vars : Int) (a : Option Addr) (n c : Nat) : Value := .agg #[.int .i64 vars, .slice a n c]

section
variable {O : CallF} (hO : Oth O)
include hO

theorem lp43 {a : Option Addr} {n c : Nat} {h : Hp} {cls : List (List Int)} (H : IntssAt h a n cls) (hl : cls.length < 1000000) {Q : Value → Hp → Prop} :
    ∀ (d k : Nat), k + d = cls.length → ∀ (q : Bool), Q (.bool ((cls.drop k).any fun l => decide (40 < l.length))) h → I43_0 O Q a n c q (Int.ofNat k) h := by
  have _ := hO
  have hn := H.1
  intro d
  induction d with
  | zero =>
    intro k hk q hQ
    refine I43_0.of _ _ _ _ _ ?_
    intros
    unfold T43_0
    refine vcond_f (by rw [ltI_nat]; exact blt_f (by omega)) ?_
    rw [List.drop_of_length_le (by omega)] at hQ
    exact hQ
  | succ d ih =>
    intro k hk q hQ
    refine I43_0.of _ _ _ _ _ ?_
    intros
    unfold T43_0
    refine vcond_t (by rw [ltI_nat]; exact blt_t (by omega)) (isNat_of (H.get (k := k) (by omega) fun b off a' n' c' h1 h2 hr Y => vreq_t (blt_t (by omega)) ⟨_, _, _, hr, ?_⟩))
    have hY := Y.1
    have e1 : cls.drop k = cls[k] :: cls.drop (k + 1) := List.drop_eq_getElem_cons (by omega)
    rw [e1, List.any_cons] at hQ
    refine vcond_split (fun h3 => ?_) fun h3 => ?_
    · have h3 : (40 : Int) < (n' : Int) := lt_of_t h3
      rw [decide_eq_true (by omega), Bool.true_or] at hQ; exact hQ
    · have h3 : ¬ (40 : Int) < (n' : Int) := not_lt_of_f h3
      rw [decide_eq_false (by omega), Bool.false_or] at hQ
      rw [wrap_succ (by omega)]
      exact ih (k + 1) (by omega) _ hQ ..
theorem ct43 {a : Option Addr} {n c : Nat} {h : Hp} {cls : List (List Int)} (H : IntssAt h a n cls) : EvT O 43 [.slice a n c] h (.bool (greatB cls)) h := by
  refine EvC.of_ret (rk43 _ _ _ (hO _ _ _ (by decide)) ?_)
  unfold T43 greatB
  have hn := H.1
  refine vcond_split (fun h1 => ?_) fun h1 => ?_
  · have h1 : (150 : Int) < (n : Int) := lt_of_t h1
    rw [decide_eq_true (by omega), Bool.true_or]; exact ⟨rfl, rfl⟩
  · have h1 : ¬ (150 : Int) < (n : Int) := not_lt_of_f h1
    rw [decide_eq_false (by omega), Bool.false_or]
    exact lp43 hO H (by omega) cls.length 0 (by omega) false ⟨rfl, rfl⟩ ..
omit hO in
/-- A formula's place, when it was laid. -/
theorem fm_get (h : Hp) (vars : Int) (a : Option Addr) (n c : Nat) : (h.add (.cells [.int .i64 vars, .slice a n c] 30 .fix)).get h.nx = some (.cells [.int .i64 vars, .slice a n c] 30 .fix) := get_add_same ..
omit hO in
theorem fm_kp (h : Hp) (vars : Int) (a : Option Addr) (n c : Nat) : Kp h.nx h (h.add (.cells [.int .i64 vars, .slice a n c] 30 .fix)) := (Kp.refl _ _).add (Nat.le_refl _) _
theorem ct28 {a a1 : Option Addr} {n c n1 c1 : Nat} {vars : Int} {h : Hp} {cls : List (List Int)} (H : IntssAt h a n cls) : Ret Tryd.prog O 28 [Fm vars a n c, .slice a1 n1 c1] h fun v h' => v = .bool (greatB cls || decide (40 < n1)) ∧ Kp h.nx h h' := by
  refine rk28 _ _ _ _ _ _ _ (hO _ _ _ (by decide)) ?_
  unfold T28
  refine ⟨_, _, _, read1 (fm_get ..) rfl, _, _, ct43 hO (H.up EInts.up (fm_kp ..)), vcond_split (fun h1 => ?_) fun h1 => ?_⟩
  · rw [h1, Bool.true_or]; exact ⟨rfl, fm_kp ..⟩
  · rw [h1, Bool.false_or]
    refine ⟨?_, fm_kp ..⟩
    congr 1
    rw [ltI_eq]
    refine decide_eq_decide.2 ?_
    show (40 : Int) < (n1 : Int) ↔ _
    omega

theorem lp31 {a a1 : Option Addr} {n c n1 c1 : Nat} {vars w : Int} {h : Hp} {b : Nat} {cls : List (List Int)} (H : IntssAt h a n cls) (hl : cls.length < 1000000) (hll : ∀ l ∈ cls, l.length < 1000000) (hb : h.get b = some (.cells [.int .i64 vars, .slice a1 n1 c1] 30 .fix)) {Q : Value → Hp → Prop} {x0 : Int} {a0 : Option Addr} {n0 c0 : Nat} :
    ∀ (d k : Nat), k + d = cls.length → Q (.int .i64 (if (cls.drop k).all (clB vars 0) = true then 0 else 2)) h → I31_0 O Q x0 a0 n0 c0 b 0 w a n c (Int.ofNat n) (Int.ofNat k) h := by
  have hn := H.1
  intro d
  induction d with
  | zero =>
    intro k hk hQ
    refine I31_0.of _ _ _ _ _ _ _ _ _ _ _ _ ?_
    intros
    unfold T31_0
    refine vcond_f (by rw [ltI_nat]; exact blt_f (by omega)) ?_
    rw [List.drop_of_length_le (by omega)] at hQ
    exact hQ
  | succ d ih =>
    intro k hk hQ
    refine I31_0.of _ _ _ _ _ _ _ _ _ _ _ _ ?_
    intros
    unfold T31_0
    refine vcond_t (by rw [ltI_nat]; exact blt_t (by omega)) (isNat_of (H.get (k := k) (by omega) fun b off a' n' c' h1 h2 hr Y => vreq_t (blt_t (by omega)) ⟨_, _, _, hr, _, read1 hb (i := 0 + 0) rfl, _, _, ct87 hO vars Y (hll _ (List.getElem_mem _)), ?_⟩))
    have e1 : cls.drop k = cls[k] :: cls.drop (k + 1) := List.drop_eq_getElem_cons (by omega)
    rw [e1, List.all_cons] at hQ
    refine vcond_split (fun h3 => ?_) fun h3 => ?_
    · have h3 : clB vars 0 cls[k] = false := by simpa using h3
      rw [h3, Bool.false_and] at hQ; exact hQ
    · have h3 : clB vars 0 cls[k] = true := by simpa using h3
      rw [h3, Bool.true_and] at hQ
      rw [wrap_succ (by omega)]
      exact ih (k + 1) (by omega) hQ ..
theorem ct31 {a : Option Addr} {n c : Nat} {vars : Int} {h : Hp} {cls : List (List Int)} (H : IntssAt h a n cls) (hl : cls.length < 1000000) (hll : ∀ l ∈ cls, l.length < 1000000) : Ret Tryd.prog O 31 [Fm vars a n c] h fun v h' => v = .int .i64 (if formB vars cls = true then 0 else 2) ∧ Kp h.nx h h' := by
  refine rk31 _ _ _ _ (hO _ _ _ (by decide)) ?_
  unfold T31 formB
  have hn := H.1
  have g := fm_get h vars a n c
  have kp := fm_kp h vars a n c
  refine ⟨_, read1 g rfl, vcond_split (fun h1 => ?_) fun h1 => ⟨_, read1 g rfl, vcond_split (fun h2 => ?_) fun h2 => ⟨_, _, _, read1 g rfl, vcond_split (fun h3 => ?_) fun h3 => ⟨_, _, _, read1 g rfl, ?_⟩⟩⟩⟩
  · rw [decide_eq_true (lt_of_t h1)]; exact ⟨rfl, kp⟩
  · rw [decide_eq_true (lt_of_t h2)]; refine ⟨?_, kp⟩; simp
  · have h3 : (120 : Int) < (n : Int) := lt_of_t h3
    rw [decide_eq_true (show 120 < cls.length by omega)]; refine ⟨?_, kp⟩; simp
  · have h3 : ¬ (120 : Int) < (n : Int) := not_lt_of_f h3
    rw [decide_eq_false (not_lt_of_f h1), decide_eq_false (not_lt_of_f h2), decide_eq_false (show ¬ 120 < cls.length by omega)]
    refine lp31 hO (H.up EInts.up kp) hl hll g cls.length 0 (by omega) ⟨?_, kp⟩ ..
    simp

theorem lp85 {a : Option Addr} {n c : Nat} {vars : Int} {b : Nat} {h₀ : Hp} {cls : List (List Int)} (H : IntssAt h₀ a n cls) (hl : cls.length < 1000000) (hll : ∀ l ∈ cls, l.length < 1000000) {x0 : Int} {a0 : Option Addr} {n0 c0 : Nat} {r : Bool} :
    ∀ (d k : Nat), k + d = cls.length → ∀ (q : Bool) {h : Hp}, Kp h₀.nx h₀ h → h.get b = some (.cells [.int .i64 vars, .slice a n c] 30 .fix) → b < h.nx → r = (cls.drop k).all (clB vars 0) →
      I85_0 O (fun v h' => v = .bool r ∧ Kp h₀.nx h₀ h') x0 a0 n0 c0 b 0 q (Int.ofNat k) h := by
  have hn := H.1
  intro d
  induction d with
  | zero =>
    intro k hk q h kp hb hb2 hr
    refine I85_0.of _ _ _ _ _ _ _ _ ?_
    intros
    unfold T85_0
    refine ⟨_, _, _, read1 hb (i := 0 + 1) rfl, vcond_f (by rw [ltI_nat]; exact blt_f (by omega)) ?_⟩
    rw [List.drop_of_length_le (by omega)] at hr
    subst hr
    exact ⟨rfl, kp⟩
  | succ d ih =>
    intro k hk q h kp hb hb2 hr
    refine I85_0.of _ _ _ _ _ _ _ _ ?_
    intros
    unfold T85_0
    have k9 : Kp h₀.nx h₀ (h.rsv 9) := kp.rsv 9
    have hb9 : (h.rsv 9).get b = _ := hb
    have H9 : IntssAt (h.rsv 9) a n cls := H.up EInts.up k9
    refine ⟨_, _, _, read1 hb (i := 0 + 1) rfl, vcond_t (by rw [ltI_nat]; exact blt_t (by omega)) ⟨_, _, _, read1 hb9 (i := 0 + 1) rfl, isNat_of (H9.get (k := k) (by omega) fun b' off a' n' c' h1 h2 hrd Y => vreq_t (blt_t (by omega)) ⟨_, _, _, hrd, _, read1 hb9 (i := 0 + 0) rfl, _, _, ct105 hO vars (h := (h.rsv 9).grd []) Y (hll _ (List.getElem_mem _)), ?_⟩)⟩⟩
    have es : ((h.rsv 9).grd []).rst (h.rsv 9) = h.rsv 9 := rfl
    rw [es]
    have e1 : cls.drop k = cls[k] :: cls.drop (k + 1) := List.drop_eq_getElem_cons (by omega)
    rw [e1, List.all_cons] at hr
    refine vcond_split (fun h3 => ?_) fun h3 => ?_
    · have h3 : clB vars 0 cls[k] = false := by simpa using h3
      rw [h3, Bool.false_and] at hr; subst hr; exact ⟨rfl, k9⟩
    · have h3 : clB vars 0 cls[k] = true := by simpa using h3
      rw [h3, Bool.true_and] at hr
      rw [wrap_succ (by omega)]
      exact ih (k + 1) (by omega) _ k9 hb9 (by rw [nx_rsv]; omega) hr ..
theorem ct85 {a : Option Addr} {n c : Nat} {vars : Int} {h : Hp} {cls : List (List Int)} (H : IntssAt h a n cls) (hl : cls.length < 1000000) (hll : ∀ l ∈ cls, l.length < 1000000) : Ret Tryd.prog O 85 [Fm vars a n c] h fun v h' => v = .bool (formB vars cls) ∧ Kp h.nx h h' := by
  refine rk85 _ _ _ _ (hO _ _ _ (by decide)) ?_
  unfold T85 formB
  have hn := H.1
  have g := fm_get h vars a n c
  have kp := fm_kp h vars a n c
  refine ⟨_, read1 g rfl, vcond_split (fun h1 => ?_) fun h1 => ⟨_, read1 g rfl, vcond_split (fun h2 => ?_) fun h2 => ⟨_, _, _, read1 g rfl, vcond_split (fun h3 => ?_) fun h3 => ?_⟩⟩⟩
  · rw [decide_eq_true (lt_of_t h1)]; exact ⟨rfl, kp⟩
  · rw [decide_eq_true (lt_of_t h2)]; refine ⟨?_, kp⟩; simp
  · have h3 : (120 : Int) < (n : Int) := lt_of_t h3
    rw [decide_eq_true (show 120 < cls.length by omega)]; refine ⟨?_, kp⟩; simp
  · have h3 : ¬ (120 : Int) < (n : Int) := not_lt_of_f h3
    rw [decide_eq_false (not_lt_of_f h1), decide_eq_false (not_lt_of_f h2), decide_eq_false (show ¬ 120 < cls.length by omega)]
    refine lp85 hO H hl hll cls.length 0 (by omega) false kp g (by rw [nx_add]; omega) ?_ ..
    simp
theorem ct32 {a : Option Addr} {n c : Nat} {vars : Int} {h : Hp} {cls : List (List Int)} (H : IntssAt h a n cls) (hl : cls.length < 1000000) (hll : ∀ l ∈ cls, l.length < 1000000) : Ret Tryd.prog O 32 [Fm vars a n c] h fun v h' => v = .int .i64 (if formB vars cls = true then 0 else 2) ∧ Kp h.nx h h' := by
  refine rk32 _ _ _ _ (hO _ _ _ (by decide)) ?_
  unfold T32
  have kp := fm_kp h vars a n c
  obtain ⟨v, h', e, rfl, k2⟩ := ct85 hO (c := c) (vars := vars) (H.up EInts.up kp) hl hll
  refine ⟨_, _, _, _, readAt_get (fm_get ..) (by simp), _, _, e, vcond_split (fun h1 => ?_) fun h1 => ?_⟩
  · rw [if_neg (by simpa using h1)]; exact ⟨rfl, kp.trans (k2.le kp.nx)⟩
  · rw [if_pos (by simpa using h1)]; exact ⟨rfl, kp.trans (k2.le kp.nx)⟩
end
end Go.Proofs.YtfgfhplgnfbaaaaDoor
/- Contracts of functions of layer 20: the base of a formula. -/
namespace Go.Proofs.YtfgfhplgnfbaaaaDoor
open Go Go.Ev

theorem app126 : AppT Tryd.prog 126 130 2 8 := ⟨by kernel_rfl, by kernel_rfl⟩
def uu (p : Nat × Nat) : List Value := [U p.1, U p.2]
theorem uu_len (p : Nat × Nat) : (uu p).length = 2 := rfl
theorem uu_one (p : Nat × Nat) : (uu p).all one = true := rfl
abbrev SidesAt2 := SlAt 2 (ECells uu)
/-- The cells of a base. -/
def baseC (vars : Int) (a : Option Addr) (n c : Nat) (a1 : Option Addr) (n1 c1 : Nat) (left : Int) (a2 : Option Addr) (n2 c2 : Nat) : List Value := [.int .i64 vars, .slice a n c, .slice a1 n1 c1, .int .i64 left, .slice a2 n2 c2]

section
variable {O : CallF} (hO : Oth O)
include hO

theorem lp76 {a a1 : Option Addr} {n c n1 c1 : Nat} {vars : Int} {h₀ : Hp} {cls : List (List Int)} (ok : h₀.Ok) (H : IntssAt h₀ a n cls) (hl : cls.length < 10000) (hll : ∀ l ∈ cls, l.length < 1000000) (hlit : ∀ l ∈ cls, ∀ x ∈ l, Lit x) {x0 : Int} {a0 : Option Addr} {n0 c0 : Nat} :
    ∀ (d k : Nat), k + d = cls.length → ∀ {h : Hp} {a6 : Option Addr} {n6 c6 : Nat}, Kp h₀.nx h₀ h → h₀.nx + 2 ≤ h.nx → h.get (h₀.nx + 1) = some (.cells (baseC vars a6 n6 c6 a1 n1 c1 2000 none 0 0) 128 .fix) → Acc h (h₀.nx + 2) 130 2 a6 n6 c6 (((cls.take k).map sideN).flatMap uu) → n6 = k →
      I76_0 O (fun v h' => ∃ a6 n6 c6, v = .pointer (some ⟨h₀.nx + 1, 0, none⟩) ∧ h'.get (h₀.nx + 1) = some (.cells (baseC vars a6 n6 c6 a1 n1 c1 2000 none 0 0) 128 .fix) ∧ h₀.nx + 1 < h'.nx ∧ Acc h' (h₀.nx + 2) 130 2 a6 n6 c6 ((cls.map sideN).flatMap uu) ∧ Kp h₀.nx h₀ h') x0 a0 n0 c0 a1 n1 c1 (h₀.nx + 1) 0 a n c (Int.ofNat n) (Int.ofNat k) h := by
  have hn := H.1
  intro d
  induction d with
  | zero =>
    intro k hk h a6 n6 c6 kp hnx gb A hn6
    refine I76_0.of _ _ _ _ _ _ _ _ _ _ _ _ _ _ ?_
    intros
    unfold T76_0
    refine vcond_f (by rw [ltI_nat]; exact blt_f (by omega)) ?_
    rw [List.take_of_length_le (by omega)] at A
    exact ⟨_, _, _, rfl, gb, by omega, A, kp⟩
  | succ d ih =>
    intro k hk h a6 n6 c6 kp hnx gb A hn6
    refine I76_0.of _ _ _ _ _ _ _ _ _ _ _ _ _ _ ?_
    intros
    unfold T76_0
    have H1 : IntssAt h a n cls := H.up EInts.up kp
    refine vcond_t (by rw [ltI_nat]; exact blt_t (by omega)) (isNat_of (H1.get (k := k) (by omega) fun b off a' n' c' h1 h2 hrd Y => vreq_t (blt_t (by omega)) ⟨_, _, _, hrd, ?_⟩))
    have okh : h.Ok := ok.kp kp
    have gb1 : (h.rsv 12).get (h₀.nx + 1) = _ := gb
    have okg : ((h.rsv 12).grd [h₀.nx + 1]).Ok := (okh.rsv 12).grd fun q hq => by
      obtain rfl := List.mem_singleton.1 hq; rw [nx_rsv]; omega
    have Y1 : IntsAt ((h.rsv 12).grd [h₀.nx + 1]) a' n' cls[k] := Y.keep (fun _ _ _ => rfl) (by rw [nx_grd, nx_rsv]; omega) fun _ _ h => h
    obtain ⟨v2, h2', e2, rfl, K2⟩ := ct107 hO (hlit _ (List.getElem_mem _)) (hll _ (List.getElem_mem _)) okg Y1 (c := c')
    refine ⟨_, _, _, read1 gb1 (i := 0 + 1) rfl, _, _, _, e2, ?_⟩
    have K2' : Kp (h.nx + 12) (h.rsv 12) (h2'.rst (h.rsv 12)) := (Kp.refl (h.nx + 12) (h.rsv 12)).rst K2
    have K2h : Kp (h.nx + 12) h (h2'.rst (h.rsv 12)) := (Kp.refl (h.nx + 12) h).rsv 12 |>.trans K2'
    refine vreq_t (free_t (by rw [K2h.get _ (by omega)]; exact okh.fr _ (by omega))) ?_
    generalize hg2 : h2'.rst (h.rsv 12) = g2 at *
    have hnx2 : h.nx + 12 ≤ g2.nx := K2'.nx
    have K3 : Kp h.nx h (g2.lay (h.nx + 7) (.cells (uu (sideN cls[k])) 130 .fix)) := (K2h.le (by omega)).lay (by omega) (by omega) _
    have A3 : Acc (g2.lay (h.nx + 7) (.cells (uu (sideN cls[k])) 130 .fix)) (h₀.nx + 2) 130 2 a6 n6 c6 (((cls.take k).map sideN).flatMap uu) := A.kp K3 (Nat.le_refl _)
    have gdh : GdLt (g2.lay (h.nx + 7) (.cells (uu (sideN cls[k])) 130 .fix)) (h₀.nx + 2) := fun q hq => by
      have : q ∈ h₀.gd := by rw [← kp.gd, ← K3.gd]; exact hq
      have := ok.gd q this; omega
    obtain ⟨a9, n9, c9, h4', e4, A4, hn9, k4⟩ := app_enc uu_len uu_one app126 A3 (by rw [nx_lay]; omega) gdh (t := h.nx + 7) (c2 := 1) (m := .fix) (e2 := 130) (x := sideN cls[k]) (by rw [get_lay, if_pos rfl]) (by omega) (by unfold big; omega)
    refine ⟨a9, n9, c9, h4', e4, ?_⟩
    have ab : ∀ off, a6 ≠ some ⟨h₀.nx + 1, off, none⟩ := fun off e => by have := A.fresh e; omega
    have gb4 : h4'.get (h₀.nx + 1) = some (.cells (baseC vars a6 n6 c6 a1 n1 c1 2000 none 0 0) 128 .fix) := by
      rw [k4.get _ (by rw [nx_lay]; omega) (ab 0), K3.get _ (by omega)]; exact gb
    have gb4' : ((h4'.rst (g2.lay (h.nx + 7) (.cells (uu (sideN cls[k])) 130 .fix))).grd []).get (h₀.nx + 1) = some (.cells (baseC vars a6 n6 c6 a1 n1 c1 2000 none 0 0) 128 .fix) := gb4
    have gu : ((h4'.rst (g2.lay (h.nx + 7) (.cells (uu (sideN cls[k])) 130 .fix))).grd []).guarded (h₀.nx + 1) = false := guarded_of fun q hq => by
      have : q ∈ h₀.gd := by rw [← kp.gd, ← K3.gd]; exact hq
      have := ok.gd q this; omega
    refine vreq_t (canW_t gb4' (by decide) gu (by simp [baseC]) rfl) ?_
    rw [wrap_succ (by omega)]
    have Kf : Kp h₀.nx h₀ ((((h4'.rst (g2.lay (h.nx + 7) (.cells (uu (sideN cls[k])) 130 .fix))).grd []).wr (h₀.nx + 1) (0 + 1) [.slice a9 n9 c9]).rst (h4'.rst (g2.lay (h.nx + 7) (.cells (uu (sideN cls[k])) 130 .fix)))) := by
      have K4 : Kp h₀.nx h₀ h4' := (kp.trans (K3.le (by omega))).trans ((k4.kp A3 (by rw [nx_lay]; omega)).le (by omega))
      refine ⟨fun o ho => ?_, ?_, ?_, fun f => ?_⟩
      · rw [get_rst, wr_get_ne _ _ _ _ (by omega)]; exact K4.get o ho
      · rw [nx_rst, nx_wr]; exact K4.nx
      · rw [gd_rst, gd_rst, gd_lay]
        have := (kp.trans (K3.le (by omega : h₀.nx ≤ h.nx))).gd
        rw [gd_lay] at this; exact this
      · exact (show Hp.Fresh (((h4'.rst (g2.lay (h.nx + 7) (.cells (uu (sideN cls[k])) 130 .fix))).grd []).wr (h₀.nx + 1) (0 + 1) [.slice a9 n9 c9]) from Hp.Fresh.wr (h := (h4'.rst (g2.lay (h.nx + 7) (.cells (uu (sideN cls[k])) 130 .fix))).grd []) (K4.fr f) _ _ _)
    have hnx4 : (g2.lay (h.nx + 7) (.cells (uu (sideN cls[k])) 130 .fix)).nx ≤ h4'.nx := k4.nx
    rw [nx_lay] at hnx4
    refine ih (k + 1) (by omega) (a6 := a9) (n6 := n9) (c6 := c9) Kf (by rw [nx_rst, nx_wr, nx_grd, nx_rst]; omega) (by rw [get_rst]; exact (wr_get gb4' (by decide) gu (by simp [baseC]) rfl).trans rfl) ?_ (by omega) ..
    have e1 : cls.take (k + 1) = cls.take k ++ [cls[k]] := List.take_succ_eq_append_getElem (by omega)
    rw [e1, List.map_append]
    refine A4.keep (fun o ho e => ?_) (by rw [nx_rst, nx_wr, nx_grd, nx_rst]; omega)
    rw [get_rst, wr_get_ne _ _ _ _ (by have := A4.fresh e; omega)]; rfl
/-- The base of a formula and given literals. -/
def RBase (h : Hp) (vars : Int) (cls : List (List Int)) (a1 : Option Addr) (n1 c1 : Nat) (v : Value) (h' : Hp) : Prop :=
  ∃ b a6 n6 c6, v = .pointer (some ⟨b, 0, none⟩) ∧ h.nx ≤ b ∧ b < h'.nx ∧ h'.get b = some (.cells (baseC vars a6 n6 c6 a1 n1 c1 2000 none 0 0) 128 .fix) ∧ Acc h' (b + 1) 130 2 a6 n6 c6 ((cls.map sideN).flatMap uu) ∧ Kp h.nx h h'
theorem ct76 {a a1 : Option Addr} {n c n1 c1 : Nat} {vars : Int} {h : Hp} {cls : List (List Int)} (ok : h.Ok) (H : IntssAt h a n cls) (hl : cls.length < 10000) (hll : ∀ l ∈ cls, l.length < 1000000) (hlit : ∀ l ∈ cls, ∀ x ∈ l, Lit x) :
    Ret Tryd.prog O 76 [Fm vars a n c, .slice a1 n1 c1] h (RBase h vars cls a1 n1 c1) := by
  refine rk76 _ _ _ _ _ _ _ (hO _ _ _ (by decide)) ?_
  unfold T76
  have hn := H.1
  have kp := fm_kp h vars a n c
  have g := fm_get h vars a n c
  have g' : ((h.add (.cells [.int .i64 vars, .slice a n c] 30 .fix)).add (.cells (baseC vars none 0 0 a1 n1 c1 2000 none 0 0) 128 .fix)).get h.nx = some (.cells [.int .i64 vars, .slice a n c] 30 .fix) := by
    rw [get_add_ne (by rw [nx_add]; omega)]; exact g
  refine ⟨_, read1 g rfl, _, _, _, read1 g' rfl, ?_⟩
  have := lp76 hO ok H hl hll hlit (a1 := a1) (n1 := n1) (c1 := c1) (vars := vars) (x0 := vars) (a0 := a) (n0 := n) (c0 := c) (c := c) cls.length 0 (by omega) (h := (h.add (.cells [.int .i64 vars, .slice a n c] 30 .fix)).add (.cells (baseC vars none 0 0 a1 n1 c1 2000 none 0 0) 128 .fix)) (a6 := none) (n6 := 0) (c6 := 0) (kp.add (by rw [nx_add]; omega) _) (by rw [nx_add, nx_add]; omega) (get_add_same ..) (by simpa using Acc.nil ..) rfl
  refine RKL.mono (this ..) ?_
  rintro v h' ⟨a6, n6, c6, rfl, e1, e2, e3, e4⟩
  exact ⟨h.nx + 1, a6, n6, c6, rfl, by omega, e2, e1, e3, e4⟩
end
end Go.Proofs.YtfgfhplgnfbaaaaDoor
/- Contracts of functions of layer 20: models are held against formulas, and counted. -/
namespace Go.Proofs.YtfgfhplgnfbaaaaDoor
open Go Go.Ev

theorem EInts.grd {h : Hp} {g : List Nat} {x : List Int} {vs : List Value} (H : EInts h x vs) : EInts (h.grd g) x vs :=
  let ⟨a, n, c, h1, h2⟩ := H
  ⟨a, n, c, h1, h2.keep (fun _ _ _ => rfl) (Nat.le_refl _) fun _ _ h => h⟩
theorem IntssAt.grd {h : Hp} {g : List Nat} {a : Option Addr} {n : Nat} {xs : List (List Int)} (H : IntssAt h a n xs) : IntssAt (h.grd g) a n xs := H.keep (fun _ _ _ => rfl) (Nat.le_refl _) fun _ _ h => EInts.grd h
theorem BoolsAt.get {h : Hp} {a : Option Addr} {n : Nat} {xs : List Bool} (H : BoolsAt h a n xs) {k : Nat} (hk : k < xs.length) {K : Nat → Nat → Prop}
    (hK : ∀ b off, a = some ⟨b, off, none⟩ → b < h.nx → readAt h b (off + k * 1) 1 = some [.bool xs[k]] → K b off) : isAddr a K :=
  SlAt.read H hk fun b off vs h1 h2 h3 h4 => hK b off h1 h2 (by rw [h3, show vs = _ from h4])
/-- Two masks in a list. -/
theorem Sides.get {h : Hp} {a : Option Addr} {n : Nat} {xs : List (Nat × Nat)} (H : SidesAt2 h a n xs) {k : Nat} (hk : k < xs.length) {K : Nat → Nat → Prop}
    (hK : ∀ b off, a = some ⟨b, off, none⟩ → b < h.nx → readAt h b (off + k * 2) 2 = some [U xs[k].1, U xs[k].2] → K b off) : isAddr a K :=
  SlAt.read H hk fun b off vs h1 h2 h3 h4 => hK b off h1 h2 (by rw [h3, show vs = _ from h4]; rfl)

/-- A clause's sides are true, with some variables true and all others false. -/
def sideT (x : Nat) (p : Nat × Nat) : Bool := !(decide ((p.1 &&& x) ||| (p.2 - (p.2 &&& x)) = 0))
def maskF : List Bool → Nat → Nat → Nat
  | [], _, y => y
  | b :: bs, i, y => maskF bs (i + 1) (if b = true then y ||| 2 ^ i else y)
theorem maskF_lt : ∀ {bs : List Bool} {i y : Nat}, i + bs.length ≤ 30 → y < 2 ^ 30 → maskF bs i y < 2 ^ 30 := by
  intro bs
  induction bs with
  | nil => intro i y _ hy; exact hy
  | cons b bs ih =>
    intro i y hi hy
    simp at hi
    refine ih (by omega) ?_
    split
    · exact Nat.or_lt_two_pow hy (Nat.pow_lt_pow_right (by decide) (by omega))
    · exact hy

section
variable {O : CallF} (hO : Oth O)
include hO

theorem lp77 {b x : Nat} (hx : x < 2 ^ 32) {h₀ : Hp} (ok : h₀.Ok) {a : Option Addr} {n c : Nat} {ss : List (Nat × Nat)} (H : SidesAt2 h₀ a n ss) (hl : ss.length < 1000000) (hss : ∀ p ∈ ss, p.1 < 2 ^ 30 ∧ p.2 < 2 ^ 30) {r : Bool} :
    ∀ (d k : Nat), k + d = ss.length → ∀ (q : Bool) {h : Hp}, Kp h₀.nx h₀ h → r = (ss.drop k).all (sideT x) → I77_0 O (fun v h' => v = .bool r ∧ Kp h₀.nx h₀ h') b 0 (Int.ofNat x) q a n c (Int.ofNat n) (Int.ofNat k) h := by
  have _ := hO
  have hn := H.1
  intro d
  induction d with
  | zero =>
    intro k hk q h kp hr
    refine I77_0.of _ _ _ _ _ _ _ _ _ ?_
    intros
    unfold T77_0
    refine vcond_f (by rw [ltI_nat]; exact blt_f (by omega)) ?_
    rw [List.drop_of_length_le (by omega)] at hr
    subst hr; exact ⟨rfl, kp⟩
  | succ d ih =>
    intro k hk q h kp hr
    refine I77_0.of _ _ _ _ _ _ _ _ _ ?_
    intros
    unfold T77_0
    have H1 : SidesAt2 h a n ss := H.up (ECells.up uu) kp
    have hp := hss ss[k] (List.getElem_mem _)
    have e1 : ss.drop k = ss[k] :: ss.drop (k + 1) := List.drop_eq_getElem_cons (by omega)
    rw [e1, List.all_cons] at hr
    have okh := ok.kp kp
    have gn : (h.add (.cells [(.int .u32 0), (.int .u32 0)] 130 .fix)).get h.nx = _ := get_add_same ..
    have gu : (h.add (.cells [(.int .u32 0), (.int .u32 0)] 130 .fix)).guarded h.nx = false := guarded_of fun q hq => by have := okh.gd q hq; omega
    refine vcond_t (by rw [ltI_nat]; exact blt_t (by omega)) (isNat_of (Sides.get H1 (k := k) (by omega) fun b off h1 h2 hrd => vreq_t (blt_t (by omega)) ⟨_, _, hrd, vreq_t (canW_t gn (by decide) gu (by simp) rfl) ?_⟩))
    have gw := wr_get gn (by decide) gu (off := 0) (vs := [U ss[k].1, U ss[k].2]) (by simp) rfl
    have l1 : ss[k].1 &&& x ≤ ss[k].1 := Nat.and_le_left
    have l2 : ss[k].2 - (ss[k].2 &&& x) ≤ ss[k].2 := Nat.sub_le _ _
    refine ⟨_, read1 gw (i := 0) rfl, vreq_t (inD_of (by omega)) (vreq_t (inD_of hx) ⟨_, read1 gw (i := 1) rfl, vreq_t (inD_of (by omega)) (vreq_t (inD_of hx) (vreq_t (by rw [land_nat]; exact inD_of (by omega)) (vreq_t (by rw [andn_nat]; exact inD_of (by omega)) ?_)))⟩)⟩
    rw [land_nat, andn_nat, lor_nat, wrap_succ (by omega)]
    have k2 : Kp h₀.nx h₀ ((h.add (.cells [(.int .u32 0), (.int .u32 0)] 130 .fix)).wr h.nx 0 [U ss[k].1, U ss[k].2]) := (kp.add kp.nx _).wr kp.nx _ _
    refine vcond_split (fun h3 => ?_) fun h3 => ?_
    · have h3 : (ss[k].1 &&& x) ||| (ss[k].2 - (ss[k].2 &&& x)) = 0 := by have := eq_of_t h3; exact Int.ofNat.inj this
      rw [show sideT x ss[k] = false by unfold sideT; rw [decide_eq_true h3]; rfl, Bool.false_and] at hr
      subst hr; exact ⟨rfl, k2⟩
    · have h3 : ¬ ((ss[k].1 &&& x) ||| (ss[k].2 - (ss[k].2 &&& x)) = 0) := fun hh => ne_of_f h3 (by rw [hh]; rfl)
      rw [show sideT x ss[k] = true by unfold sideT; rw [decide_eq_false h3]; rfl, Bool.true_and] at hr
      exact ih (k + 1) (by omega) _ k2 hr ..
theorem ct77 {b x : Nat} (hx : x < 2 ^ 32) {h : Hp} (ok : h.Ok) {vars left : Int} {a a1 a2 : Option Addr} {n c n1 c1 n2 c2 : Nat} (hb : h.get b = some (.cells (baseC vars a n c a1 n1 c1 left a2 n2 c2) 128 .fix)) {ss : List (Nat × Nat)} (H : SidesAt2 h a n ss) (hl : ss.length < 1000000) (hss : ∀ p ∈ ss, p.1 < 2 ^ 30 ∧ p.2 < 2 ^ 30) :
    Ret Tryd.prog O 77 [.pointer (some ⟨b, 0, none⟩), U x] h fun v h' => v = .bool (ss.all (sideT x)) ∧ Kp h.nx h h' := by
  refine rk77 _ _ _ (hO _ _ _ (by decide)) ?_
  unfold T77
  refine ⟨_, _, _, read1 hb (i := 0 + 1) rfl, ?_⟩
  exact lp77 hO hx ok H hl hss ss.length 0 (by omega) false (.refl _ _) rfl ..

/-- Is it a model? The answer, and the error. -/
def holdsP (vars : Int) (cls : List (List Int)) (ms : List Bool) : Bool × Int :=
  if formB vars cls = false then (false, 2) else if (ms.length : Int) ≠ vars then (false, 2) else ((cls.map sideN).all (sideT (maskF ms 0 0)), 0)

theorem formB_lit {vars : Int} {cls : List (List Int)} (h : formB vars cls = true) : vars ≤ 30 ∧ 0 ≤ vars ∧ cls.length ≤ 120 ∧ (∀ l ∈ cls, ∀ x ∈ l, Lit x) ∧ ∀ l ∈ cls, clB vars 0 l = true := by
  have _ := hO
  unfold formB at h
  simp only [Bool.and_eq_true, Bool.not_eq_true', decide_eq_false_iff_not, List.all_eq_true] at h
  obtain ⟨⟨⟨h1, h2⟩, h3⟩, h4⟩ := h
  exact ⟨by omega, by omega, by omega, fun l hl x hx => (clB_lit (by decide) (h4 l hl) x hx).1, h4⟩
theorem sides_lt {cls : List (List Int)} (h : ∀ l ∈ cls, ∀ x ∈ l, Lit x) : ∀ p ∈ cls.map sideN, p.1 < 2 ^ 30 ∧ p.2 < 2 ^ 30 := by
  have _ := hO
  intro p hp
  obtain ⟨l, hl, rfl⟩ := List.mem_map.1 hp
  exact sideF_lt (h l hl) (by decide) (by decide)

theorem lp29 {a a1 : Option Addr} {n c n1 c1 : Nat} {vars : Int} {h₀ : Hp} {cls : List (List Int)} {ms : List Bool} (ok : h₀.Ok) (H : IntssAt h₀ a n cls) (M : BoolsAt h₀ a1 n1 ms) (hf : formB vars cls = true) (hv : (ms.length : Int) = vars) (hll : ∀ l ∈ cls, l.length < 1000000) {x0 : Int} {a0 : Option Addr} {n0 c0 : Nat} {b7 : Nat} (hb7 : h₀.nx < b7) {r : Bool} :
    ∀ (d k : Nat), k + d = ms.length → ∀ (y : Nat) {h : Hp}, y < 2 ^ 30 → Kp h₀.nx h₀ h → b7 < h.nx → h.get h₀.nx = some (.cells [.int .i64 vars, .slice a n c] 30 .fix) → h.get b7 = some (.cells [U y, U 0] 102 .fix) → r = (cls.map sideN).all (sideT (maskF (ms.drop k) k y)) →
      I29_0 O (fun v h' => v = .tuple #[.bool r, .int .i64 0] ∧ Kp h₀.nx h₀ h') x0 a0 n0 c0 a1 n1 c1 h₀.nx 0 b7 0 (Int.ofNat k) h := by
  have hn1 := M.1
  obtain ⟨f1, f2, f3, f4, f5⟩ := formB_lit hO hf
  intro d
  induction d with
  | zero =>
    intro k hk y h hy kp hb g2 g7 hr
    refine I29_0.of _ _ _ _ _ _ _ _ _ _ _ _ ?_
    intros
    unfold T29_0
    refine vcond_f (by rw [ltI_nat]; exact blt_f (by omega)) ?_
    rw [List.drop_of_length_le (by omega)] at hr
    have hr : r = (cls.map sideN).all (sideT y) := hr
    have g2' : (h.rsv 7).get h₀.nx = _ := g2
    have g7' : (h.rsv 7).get b7 = _ := g7
    have okh := ok.kp kp
    have k7 : Kp h₀.nx h₀ (h.rsv 7) := kp.rsv 7
    have okg : ((h.rsv 7).grd [b7]).Ok := (okh.rsv 7).grd fun q hq => by obtain rfl := List.mem_singleton.1 hq; rw [nx_rsv]; omega
    have H7 : IntssAt (h.rsv 7) a n cls := H.up EInts.up k7
    obtain ⟨v1, h1', e1, b, a6, n6, c6, rfl, z1, z2, z3, z4, z5⟩ := ct76 hO (vars := vars) okg (IntssAt.grd H7) (by omega) hll f4 (c := c) (a1 := none) (n1 := 0) (c1 := 0)
    refine ⟨_, _, _, _, readAt_get g2' (by simp), _, read1 g7' (i := 0 + 0) rfl, _, _, e1, ?_⟩
    have K1 : Kp (h.rsv 7).nx (h.rsv 7) (h1'.rst (h.rsv 7)) := (Kp.refl _ (h.rsv 7)).rst z5
    have ok1 : (h1'.rst (h.rsv 7)).Ok := (okh.rsv 7).kp K1
    have S1 : SidesAt2 h1' a6 n6 (cls.map sideN) := z4.slAt uu_len (by decide)
    have S2 : SidesAt2 ((h1'.rst (h.rsv 7)).grd []) a6 n6 (cls.map sideN) := S1.keep (fun _ _ _ => rfl) (Nat.le_refl _) fun _ _ h => h
    obtain ⟨v2, h2', e2, rfl, K2⟩ := ct77 hO (x := y) (by omega) (h := (h1'.rst (h.rsv 7)).grd []) ok1 z3 S2 (by simp; omega) (sides_lt hO f4)
    refine ⟨_, _, e2, ?_⟩
    rw [← hr]
    have K12 : Kp h₀.nx h₀ (h1'.rst (h.rsv 7)) := k7.trans (K1.le k7.nx)
    exact ⟨rfl, K12.rst (g := []) (K2.le K12.nx)⟩
  | succ d ih =>
    intro k hk y h hy kp hb g2 g7 hr
    refine I29_0.of _ _ _ _ _ _ _ _ _ _ _ _ ?_
    intros
    unfold T29_0
    have M1 : BoolsAt h a1 n1 ms := M.up EBool.up kp
    refine vcond_t (by rw [ltI_nat]; exact blt_t (by omega)) (isNat_of (BoolsAt.get M1 (k := k) (by omega) fun b off h1 h2 hrd => vreq_t (blt_t (by omega)) ⟨_, hrd, ?_⟩))
    have e1 : ms.drop k = ms[k] :: ms.drop (k + 1) := List.drop_eq_getElem_cons (by omega)
    rw [e1] at hr
    simp only [maskF] at hr
    have okh := ok.kp kp
    have hx : Lit (Int.ofNat (k + 1)) := ⟨by simp only [Int.ofNat_eq_natCast]; omega, by simp only [Int.ofNat_eq_natCast]; omega, by simp only [Int.ofNat_eq_natCast]; omega⟩
    have hbit : bitN (Int.ofNat (k + 1)) = 2 ^ k := by
      unfold bitN
      have : (Int.ofNat (k + 1)).natAbs = k + 1 := rfl
      rw [this, Nat.add_sub_cancel]
    have hp : 2 ^ k < 2 ^ 30 := Nat.pow_lt_pow_right (by decide) (by omega)
    rw [wrap_succ (by omega)]
    refine vcond_split (fun h3 => ?_) fun h3 => ?_
    · rw [if_pos h3] at hr
      have g7' : (h.rsv 8).get b7 = _ := g7
      have gu : (h.rsv 8).guarded b7 = false := guarded_of fun q hq => by
        have : q ∈ h₀.gd := by rw [← kp.gd]; exact hq
        have := ok.gd q this; omega
      refine ⟨_, read1 g7' (i := 0 + 0) rfl, _, _, bit_ct hO hx _, vreq_t (inD_of (by omega)) (vreq_t (by rw [hbit]; exact inD_of (by omega)) ?_)⟩
      rw [hbit, lor_nat]
      have es : (((h.rsv 8).grd [b7]).rst (h.rsv 8)).grd [] = h.rsv 8 := rfl
      have es2 : ((h.rsv 8).grd [b7]).rst (h.rsv 8) = h.rsv 8 := rfl
      rw [es, es2]
      refine vreq_t (canW_t g7' (by decide) gu (by simp) rfl) ?_
      have k8 : Kp h₀.nx h₀ (h.rsv 8) := kp.rsv 8
      refine ih (k + 1) (by omega) (y ||| 2 ^ k) (Nat.or_lt_two_pow hy hp) ?_ (by rw [nx_rst, nx_wr, nx_rsv]; omega) ?_ ?_ hr ..
      · exact k8.rst (g := []) (show Kp h₀.nx ((h.rsv 8).grd []) ((h.rsv 8).wr b7 (0 + 0) [U (y ||| 2 ^ k)]) from (Kp.refl h₀.nx (h.rsv 8)).wr (by omega) _ _)
      · rw [get_rst, wr_get_ne _ _ _ _ (by omega)]; exact g2
      · rw [get_rst, wr_get g7' (by decide) gu (by simp) rfl]; rfl
    · rw [if_neg (by rw [h3]; decide)] at hr
      exact ih (k + 1) (by omega) y hy kp hb g2 g7 hr ..
theorem ct29 {a a1 : Option Addr} {n c n1 c1 : Nat} {vars : Int} {h : Hp} {cls : List (List Int)} {ms : List Bool} (ok : h.Ok) (H : IntssAt h a n cls) (M : BoolsAt h a1 n1 ms) (hl : cls.length < 1000000) (hll : ∀ l ∈ cls, l.length < 1000000) :
    Ret Tryd.prog O 29 [Fm vars a n c, .slice a1 n1 c1] h fun v h' => v = .tuple #[.bool (holdsP vars cls ms).1, .int .i64 (holdsP vars cls ms).2] ∧ Kp h.nx h h' := by
  refine rk29 _ _ _ _ _ _ _ (hO _ _ _ (by decide)) ?_
  unfold T29
  have kp := fm_kp h vars a n c
  have g := fm_get h vars a n c
  have hn1 := M.1
  obtain ⟨v1, h1, e1, rfl, K1⟩ := ct31 hO (c := c) (vars := vars) (H.up EInts.up kp) hl hll
  have k1 : Kp h.nx h h1 := kp.trans (K1.le kp.nx)
  have g1 : h1.get h.nx = some (.cells [.int .i64 vars, .slice a n c] 30 .fix) := by rw [K1.get _ (by rw [nx_add]; omega)]; exact g
  refine ⟨_, _, _, _, readAt_get g (by simp), _, _, e1, vcond_split (fun h2 => ?_) fun h2 => ⟨_, read1 g1 rfl, vcond_split (fun h3 => ?_) fun h3 => ?_⟩⟩
  · have hf : formB vars cls = false := by
      cases hf : formB vars cls with
      | false => rfl
      | true => rw [hf] at h2; simp at h2; exact absurd (eqI_t rfl) (by rw [h2]; decide)
    have e : holdsP vars cls ms = (false, 2) := by unfold holdsP; rw [if_pos hf]
    rw [e, hf]; exact ⟨rfl, k1⟩
  · have hf : formB vars cls = true := by
      cases hf : formB vars cls with
      | true => rfl
      | false => rw [hf] at h2; simp at h2; exact absurd (eq_of_t h2) (by decide)
    have e : holdsP vars cls ms = (false, 2) := by
      unfold holdsP
      rw [if_neg (by rw [hf]; decide), if_pos]
      have : Int.ofNat n1 ≠ vars := ne_of_f (by simpa using h3)
      rw [← hn1]; exact this
    rw [e]; exact ⟨rfl, k1⟩
  · have hf : formB vars cls = true := by
      cases hf : formB vars cls with
      | true => rfl
      | false => rw [hf] at h2; simp at h2; exact absurd (eq_of_t h2) (by decide)
    have hv : Int.ofNat n1 = vars := eq_of_t (by simpa using h3)
    have e : holdsP vars cls ms = ((cls.map sideN).all (sideT (maskF ms 0 0)), 0) := by
      unfold holdsP
      rw [if_neg (by rw [hf]; decide), if_neg (by rw [← hn1]; simpa using hv)]
    rw [e]
    have k2 : Kp h.nx h (h1.add (.cells [(.int .u32 0), (.int .u32 0)] 102 .fix)) := k1.add k1.nx _
    refine lp29 hO (c := c) ok H M hf (by rw [← hn1]; exact hv) hll (b7 := h1.nx) (by have := K1.nx; rw [nx_add] at this; omega) ms.length 0 (by omega) 0 (by decide) k2 (by rw [nx_add]; omega) ?_ (get_add_same ..) rfl ..
    have := K1.nx
    rw [nx_add] at this
    rw [get_add_ne (by omega)]; exact g1
end
end Go.Proofs.YtfgfhplgnfbaaaaDoor
/- Contracts of functions of layer 20's reference: models are held against formulas. -/
namespace Go.Proofs.YtfgfhplgnfbaaaaDoor
open Go Go.Ev

theorem varI_lit2 {x : Int} (h : Lit x) : varI x = x.natAbs := by
  unfold varI
  rw [if_neg (by have := h.2; omega)]
  split <;> omega
/-- A literal's truth. -/
def tvR (ts : List Int) (x : Int) : Int := if x < 0 then -(ts.getD (-x).toNat 0) else ts.getD x.toNat 0
def satR (ts : List Int) (l : List Int) : Bool := l.any fun x => decide (0 < tvR ts x)
def tb (b : Bool) : Int := if b = true then 1 else -1
def holdsR (vars : Int) (cls : List (List Int)) (ms : List Bool) : Bool × Int :=
  if formB vars cls = false then (false, 2) else if (ms.length : Int) ≠ vars then (false, 2) else (cls.all (satR (0 :: ms.map tb)), 0)

section
variable {O : CallF} (hO : Oth O)
include hO

theorem ct118 {a : Option Addr} {n c : Nat} {ts : List Int} {h : Hp} (H : IntsAt h a n ts) (ht : ∀ t ∈ ts, -1 ≤ t ∧ t ≤ 1) {x : Int} (hx : Lit x) (hx2 : x.natAbs < ts.length) : EvT O 118 [.slice a n c, .int .i64 x] h (.int .i64 (tvR ts x)) h := by
  refine EvC.of_ret (rk118 _ _ _ _ (hO _ _ _ (by decide)) ?_)
  unfold T118 tvR
  have hn := H.1
  have hl := hx.2
  refine vcond_split (fun h1 => ?_) fun h1 => ?_
  · have h1 := lt_of_t h1
    have e : wrapF .i64 (0 - x) = Int.ofNat (-x).toNat := by rw [wrap64 (by omega) (by omega)]; simp only [Int.ofNat_eq_natCast]; omega
    rw [e, if_pos h1]
    refine isNat_of (H.get (k := (-x).toNat) (by omega) fun b off _ _ hr => vreq_t (blt_t (by omega)) ⟨_, hr, ?_, rfl⟩)
    have := ht _ (List.getElem_mem (by omega : (-x).toNat < ts.length))
    rw [wrap64 (by omega) (by omega), List.getD_eq_getElem?_getD, List.getElem?_eq_getElem (by omega)]
    congr 1
    show 0 - _ = -_
    simp
  · have h1 := not_lt_of_f h1
    have e : x = Int.ofNat x.toNat := by simp only [Int.ofNat_eq_natCast]; omega
    rw [if_neg h1]
    have key : isNat (Int.ofNat x.toNat) (fun n5' => isAddr a fun b6' f7' => vreq (Nat.blt n5' n) (∃ x8' : Int, readAt h b6' (f7' + (n5' * 1)) 1 = some [(.int .i64 x8')] ∧ (Value.int .i64 x8' = .int .i64 (ts.getD x.toNat 0) ∧ h = h))) :=
      isNat_of (H.get (k := x.toNat) (by omega) fun b off _ _ hr => vreq_t (blt_t (by omega)) ⟨_, hr, by rw [List.getD_eq_getElem?_getD, List.getElem?_eq_getElem (by omega)]; rfl, rfl⟩)
    rw [← e] at key
    exact key

theorem lp86 {a a1 : Option Addr} {n c n1 c1 : Nat} {ts l : List Int} {h : Hp} (H : IntsAt h a n ts) (ht : ∀ t ∈ ts, -1 ≤ t ∧ t ≤ 1) (L : IntsAt h a1 n1 l) (hll : l.length < 1000000) (hl : ∀ x ∈ l, Lit x ∧ x.natAbs < ts.length) {Q : Value → Hp → Prop} :
    ∀ (d k : Nat), k + d = l.length → ∀ (q : Bool), Q (.bool (satR ts (l.drop k))) h → I86_0 O Q a n c a1 n1 c1 q (Int.ofNat k) h := by
  have hn := L.1
  intro d
  induction d with
  | zero =>
    intro k hk q hQ
    refine I86_0.of _ _ _ _ _ _ _ _ ?_
    intros
    unfold T86_0
    refine vcond_f (by rw [ltI_nat]; exact blt_f (by omega)) ?_
    rw [List.drop_of_length_le (by omega)] at hQ
    exact hQ
  | succ d ih =>
    intro k hk q hQ
    refine I86_0.of _ _ _ _ _ _ _ _ ?_
    intros
    unfold T86_0
    have hx := hl l[k] (List.getElem_mem _)
    refine vcond_t (by rw [ltI_nat]; exact blt_t (by omega)) (isNat_of (L.get (k := k) (by omega) fun b off _ _ hr => vreq_t (blt_t (by omega)) ⟨_, hr, _, _, ct118 hO H ht hx.1 hx.2, ?_⟩))
    have e1 : l.drop k = l[k] :: l.drop (k + 1) := List.drop_eq_getElem_cons (by omega)
    rw [e1] at hQ
    unfold satR at hQ
    rw [List.any_cons] at hQ
    refine vcond_split (fun h3 => ?_) fun h3 => ?_
    · rw [decide_eq_true (lt_of_t h3), Bool.true_or] at hQ; exact hQ
    · rw [decide_eq_false (not_lt_of_f h3), Bool.false_or] at hQ
      rw [wrap_succ (by omega)]
      exact ih (k + 1) (by omega) _ hQ ..
theorem ct86 {a a1 : Option Addr} {n c n1 c1 : Nat} {ts l : List Int} {h : Hp} (H : IntsAt h a n ts) (ht : ∀ t ∈ ts, -1 ≤ t ∧ t ≤ 1) (L : IntsAt h a1 n1 l) (hll : l.length < 1000000) (hl : ∀ x ∈ l, Lit x ∧ x.natAbs < ts.length) : EvT O 86 [.slice a n c, .slice a1 n1 c1] h (.bool (satR ts l)) h := by
  refine EvC.of_ret (rk86 _ _ _ _ _ _ (hO _ _ _ (by decide)) ?_)
  unfold T86
  exact lp86 hO H ht L hll hl l.length 0 (by omega) false ⟨rfl, rfl⟩ ..

theorem lp30_1 {a a1 a6 : Option Addr} {n c n1 c1 n6 c6 : Nat} {vars : Int} {h : Hp} {cls : List (List Int)} {ts : List Int} {b2 : Nat} (H : IntssAt h a n cls) (T : IntsAt h a6 n6 ts) (ht : ∀ t ∈ ts, -1 ≤ t ∧ t ≤ 1) (hl : cls.length < 10000) (hll : ∀ l ∈ cls, l.length < 1000000) (hlit : ∀ l ∈ cls, ∀ x ∈ l, Lit x ∧ x.natAbs < ts.length)
    (g2 : h.get b2 = some (.cells [.int .i64 vars, .slice a n c] 30 .fix)) {x0 : Int} {a0 : Option Addr} {n0 c0 : Nat} {x5 : Int} {Q : Value → Hp → Prop} :
    ∀ (d k : Nat), k + d = cls.length → ∀ (q : Bool), Q (.tuple #[.bool ((cls.drop k).all (satR ts)), .int .i64 0]) h → I30_1 O Q x0 a0 n0 c0 a1 n1 c1 b2 0 q x5 a6 n6 c6 (Int.ofNat k) h := by
  have hn := H.1
  intro d
  induction d with
  | zero =>
    intro k hk q hQ
    refine I30_1.of _ _ _ _ _ _ _ _ _ _ _ _ _ _ _ ?_
    intros
    unfold T30_1
    refine ⟨_, _, _, read1 g2 (i := 0 + 1) rfl, vcond_f (by rw [ltI_nat]; exact blt_f (by omega)) ?_⟩
    rw [List.drop_of_length_le (by omega)] at hQ
    exact hQ
  | succ d ih =>
    intro k hk q hQ
    refine I30_1.of _ _ _ _ _ _ _ _ _ _ _ _ _ _ _ ?_
    intros
    unfold T30_1
    have e1 : cls.drop k = cls[k] :: cls.drop (k + 1) := List.drop_eq_getElem_cons (by omega)
    rw [e1, List.all_cons] at hQ
    refine ⟨_, _, _, read1 g2 (i := 0 + 1) rfl, vcond_t (by rw [ltI_nat]; exact blt_t (by omega)) ⟨_, _, _, read1 g2 (i := 0 + 1) rfl, isNat_of (H.get (k := k) (by omega) fun b off a' n' c' _ _ hr Y => vreq_t (blt_t (by omega)) ⟨_, _, _, hr, _, _, ct86 hO T ht Y (hll _ (List.getElem_mem _)) (hlit _ (List.getElem_mem _)), vcond_split (fun h3 => ?_) fun h3 => ?_⟩)⟩⟩
    · have h3 : satR ts cls[k] = false := by simpa using h3
      rw [h3, Bool.false_and] at hQ; exact hQ
    · have h3 : satR ts cls[k] = true := by simpa using h3
      rw [h3, Bool.true_and] at hQ
      rw [wrap_succ (by omega)]
      exact ih (k + 1) (by omega) _ hQ ..

theorem lp30_0 {a a1 : Option Addr} {n c n1 c1 : Nat} {vars : Int} {h₀ : Hp} {cls : List (List Int)} {ms : List Bool} (ok : h₀.Ok) (H : IntssAt h₀ a n cls) (M : BoolsAt h₀ a1 n1 ms) (hf : formB vars cls = true) (hv : (ms.length : Int) = vars) (hll : ∀ l ∈ cls, l.length < 1000000) {x0 : Int} {a0 : Option Addr} {n0 c0 : Nat} {b6 : Nat} (hb6 : h₀.nx < b6) {r : Bool} (hr : r = cls.all (satR (0 :: ms.map tb))) :
    ∀ (d k : Nat), k + d = ms.length → ∀ {h : Hp}, Kp h₀.nx h₀ h → b6 < h.nx → h.get h₀.nx = some (.cells [.int .i64 vars, .slice a n c] 30 .fix) → h.get b6 = some (.cells (((0 :: (ms.take k).map tb) ++ List.replicate (ms.length - k) (0 : Int)).map (Value.int .i64)) 3 .fix) →
      I30_0 O (fun v h' => v = .tuple #[.bool r, .int .i64 0] ∧ Kp h₀.nx h₀ h') x0 a0 n0 c0 a1 n1 c1 h₀.nx 0 (some ⟨b6, 0, none⟩) (ms.length + 1) (ms.length + 1) (Int.ofNat (k + 1)) h := by
  have hn1 := M.1
  obtain ⟨f1, f2, f3, f4, f5⟩ := formB_lit hO hf
  intro d
  induction d with
  | zero =>
    intro k hk h kp hb g2 g6
    refine I30_0.of _ _ _ _ _ _ _ _ _ _ _ _ _ ?_
    intros
    unfold T30_0
    refine ⟨_, read1 g2 (i := 0 + 0) rfl, vcond_f (by rw [ltI_t (by simp only [Int.ofNat_eq_natCast]; omega)]; rfl) ?_⟩
    rw [List.take_of_length_le (by omega), show ms.length - k = 0 by omega, List.replicate_zero, List.append_nil] at g6
    have H1 : IntssAt h a n cls := H.up EInts.up kp
    have T : IntsAt h (some ⟨b6, 0, none⟩) (ms.length + 1) (0 :: ms.map tb) := ⟨by simp, .inr ⟨b6, 0, _, _, _, rfl, hb, g6, by simp, fun i hi => by
      show (((0 :: ms.map tb).map (Value.int .i64)).drop (0 + i * 1)).take 1 = [.int .i64 (0 :: ms.map tb)[i]]
      rw [Nat.zero_add, Nat.mul_one, List.drop_eq_getElem_cons (by simpa using hi)]
      simp only [List.getElem_map, List.take_succ_cons, List.take_zero]⟩⟩
    refine lp30_1 hO H1 T (fun t ht => ?_) (by omega) hll (fun l hl x hx => ⟨f4 l hl x hx, ?_⟩) g2 cls.length 0 (by omega) false ⟨?_, kp⟩ ..
    · rcases List.mem_cons.1 ht with rfl | ht
      · omega
      · obtain ⟨b, _, rfl⟩ := List.mem_map.1 ht
        unfold tb; split <;> omega
    · have := (clB_lit (by decide) (f5 l hl) x hx).2
      have h2 := varI_lit2 (f4 l hl x hx)
      simp
      omega
    · rw [List.drop_zero, ← hr]
  | succ d ih =>
    intro k hk h kp hb g2 g6
    refine I30_0.of _ _ _ _ _ _ _ _ _ _ _ _ _ ?_
    intros
    unfold T30_0
    have gu : h.guarded b6 = false := guarded_of fun q hq => by
      have : q ∈ h₀.gd := by rw [← kp.gd]; exact hq
      have := ok.gd q this; omega
    have el : (0 :: (ms.take k).map tb).length = k + 1 := by simp; omega
    have cl : (((0 :: (ms.take k).map tb) ++ List.replicate (ms.length - k) (0 : Int)).map (Value.int .i64)).length = ms.length + 1 := by simp; omega
    have put : ∀ (z w : Int), putAt (((0 :: (ms.take k).map tb) ++ (z :: List.replicate (ms.length - (k + 1)) (0 : Int))).map (Value.int .i64)) (k + 1) [.int .i64 w] = (((0 :: (ms.take k).map tb) ++ (w :: List.replicate (ms.length - (k + 1)) (0 : Int))).map (Value.int .i64)) := by
      intro z w
      rw [List.map_append, List.map_append]
      have := putAt_app ((0 :: (ms.take k).map tb).map (Value.int .i64)) [Value.int .i64 w] ((z :: List.replicate (ms.length - (k + 1)) (0 : Int)).map (Value.int .i64)) (by simp)
      rw [List.length_map, el] at this
      rw [this]; rfl
    have er : List.replicate (ms.length - k) (0 : Int) = 0 :: List.replicate (ms.length - (k + 1)) (0 : Int) := by
      rw [show ms.length - k = (ms.length - (k + 1)) + 1 by omega, List.replicate_succ]
    rw [er] at g6 cl
    have cw := canW_t g6 (by decide) gu (off := 0 + (k + 1) * 1) (vs := [.int .i64 (-1)]) (by rw [cl]; simp; omega) rfl
    have gw := wr_get g6 (by decide) gu (off := 0 + (k + 1) * 1) (vs := [.int .i64 (-1)]) (by rw [cl]; simp; omega) rfl
    have M1 : BoolsAt (h.wr b6 (0 + (k + 1) * 1) [.int .i64 (-1)]) a1 n1 ms := M.up EBool.up (kp.wr (by omega) _ _)
    have e2 : wrapF .i64 (Int.ofNat (k + 1) - 1) = Int.ofNat k := by
      rw [wrap64] <;> simp only [Int.ofNat_eq_natCast] <;> omega
    rw [show 0 + (k + 1) * 1 = k + 1 by omega, put] at gw
    rw [e2]
    refine ⟨_, read1 g2 (i := 0 + 0) rfl, vcond_t (by rw [ltI_f (by simp only [Int.ofNat_eq_natCast]; omega)]; rfl) (isNat_of (vreq_t (blt_t (by omega)) (vreq_t cw (isNat_of (BoolsAt.get M1 (k := k) (by omega) fun b off _ _ hr2 => vreq_t (blt_t (by omega)) ⟨_, hr2, ?_⟩)))))⟩
    have etk : ms.take (k + 1) = ms.take k ++ [ms[k]] := List.take_succ_eq_append_getElem (by omega)
    rw [wrap_succ (by omega)]
    have k1 : Kp h₀.nx h₀ (h.wr b6 (0 + (k + 1) * 1) [.int .i64 (-1)]) := kp.wr (by omega) _ _
    refine vcond_split (fun h3 => ?_) fun h3 => ?_
    · have gu2 : (h.wr b6 (0 + (k + 1) * 1) [.int .i64 (-1)]).guarded b6 = false := by unfold Hp.guarded at *; rw [gd_wr]; exact gu
      rw [show 0 + (k + 1) * 1 = k + 1 by omega] at gu2 k1 ⊢
      have cl2 : (((0 :: (ms.take k).map tb) ++ ((-1) :: List.replicate (ms.length - (k + 1)) (0 : Int))).map (Value.int .i64)).length = ms.length + 1 := by simp; omega
      refine isNat_of (vreq_t (blt_t (by omega)) (vreq_t (canW_t gw (by decide) gu2 (by rw [cl2]; simp; omega) rfl) ?_))
      refine ih (k + 1) (by omega) (k1.wr (by omega) _ _) (by rw [nx_wr, nx_wr]; exact hb) (by rw [wr_get_ne _ _ _ _ (by omega), wr_get_ne _ _ _ _ (by omega)]; exact g2) ?_ ..
      have gw2 := wr_get gw (by decide) gu2 (off := 0 + (k + 1) * 1) (vs := [.int .i64 1]) (by rw [cl2]; simp; omega) rfl
      rw [show 0 + (k + 1) * 1 = k + 1 by omega, put] at gw2
      have et : tb ms[k] = 1 := if_pos h3
      have em : (0 :: (ms.take (k + 1)).map tb) = (0 :: (ms.take k).map tb) ++ [1] := by rw [etk, List.map_append, List.map_singleton, et]; rfl
      rw [em, List.append_assoc, show 0 + (k + 1) * 1 = k + 1 by omega]
      exact gw2
    · refine ih (k + 1) (by omega) k1 (by rw [nx_wr]; exact hb) (by rw [wr_get_ne _ _ _ _ (by omega)]; exact g2) ?_ ..
      have et : tb ms[k] = -1 := if_neg (by rw [h3]; decide)
      have em : (0 :: (ms.take (k + 1)).map tb) = (0 :: (ms.take k).map tb) ++ [-1] := by rw [etk, List.map_append, List.map_singleton, et]; rfl
      rw [em, List.append_assoc, show 0 + (k + 1) * 1 = k + 1 by omega]
      exact gw
theorem ct30 {a a1 : Option Addr} {n c n1 c1 : Nat} {vars : Int} {h : Hp} {cls : List (List Int)} {ms : List Bool} (ok : h.Ok) (H : IntssAt h a n cls) (M : BoolsAt h a1 n1 ms) (hl : cls.length < 1000000) (hll : ∀ l ∈ cls, l.length < 1000000) :
    Ret Tryd.prog O 30 [Fm vars a n c, .slice a1 n1 c1] h fun v h' => v = .tuple #[.bool (holdsR vars cls ms).1, .int .i64 (holdsR vars cls ms).2] ∧ Kp h.nx h h' := by
  refine rk30 _ _ _ _ _ _ _ (hO _ _ _ (by decide)) ?_
  unfold T30
  have kp := fm_kp h vars a n c
  have g := fm_get h vars a n c
  have hn1 := M.1
  obtain ⟨v1, h1, e1, rfl, K1⟩ := ct85 hO (c := c) (vars := vars) (H.up EInts.up kp) hl hll
  have k1 : Kp h.nx h h1 := kp.trans (K1.le kp.nx)
  have g1 : h1.get h.nx = some (.cells [.int .i64 vars, .slice a n c] 30 .fix) := by rw [K1.get _ (by rw [nx_add]; omega)]; exact g
  refine ⟨_, _, _, _, readAt_get g (by simp), _, _, e1, vcond_split (fun h2 => ?_) fun h2 => ⟨_, read1 g1 rfl, vcond_split (fun h3 => ?_) fun h3 => ⟨_, read1 g1 rfl, ?_⟩⟩⟩
  · have hf : formB vars cls = false := by simpa using h2
    have e : holdsR vars cls ms = (false, 2) := by unfold holdsR; rw [if_pos hf]
    rw [e]; exact ⟨rfl, k1⟩
  · have hf : formB vars cls = true := by simpa using h2
    have e : holdsR vars cls ms = (false, 2) := by
      unfold holdsR
      rw [if_neg (by rw [hf]; decide), if_pos]
      have : Int.ofNat n1 ≠ vars := ne_of_f (by simpa using h3)
      rw [← hn1]; exact this
    rw [e]; exact ⟨rfl, k1⟩
  · have hf : formB vars cls = true := by simpa using h2
    have hv : Int.ofNat n1 = vars := eq_of_t (by simpa using h3)
    have hv' : (ms.length : Int) = vars := by rw [← hn1]; exact hv
    obtain ⟨f1, f2, f3, f4, f5⟩ := formB_lit hO hf
    have e : holdsR vars cls ms = (cls.all (satR (0 :: ms.map tb)), 0) := by
      unfold holdsR
      rw [if_neg (by rw [hf]; decide), if_neg (by simpa using hv')]
    rw [e]
    have ew : wrapF .i64 (vars + 1) = Int.ofNat (ms.length + 1) := by
      rw [wrap64 (by omega) (by omega)]; simp only [Int.ofNat_eq_natCast]; omega
    rw [ew]
    have k2 : Kp h.nx h (h1.add (.cells (List.flatten (List.replicate (ms.length + 1) [(.int .i64 0)])) 3 .fix)) := k1.add k1.nx _
    refine isNat_of (isNat_of (vreq_t (ble_t (Nat.le_refl _)) (vreq_t (ble_t (by omega)) (vreq_t (blt_t (by unfold big; omega)) ?_))))
    have hK := K1.nx
    rw [nx_add] at hK
    refine lp30_0 hO (c := c) ok H M hf hv' hll (b6 := h1.nx) (by omega) rfl ms.length 0 (by omega) k2 (by rw [nx_add]; omega) (by rw [get_add_ne (by omega)]; exact g1) ?_ ..
    rw [get_add_same]
    have er : List.flatten (List.replicate (ms.length + 1) [Value.int .i64 0]) = ((0 :: (ms.take 0).map tb) ++ List.replicate (ms.length - 0) (0 : Int)).map (Value.int .i64) := by
      simp [List.replicate_succ]
    rw [er]
end
end Go.Proofs.YtfgfhplgnfbaaaaDoor
/- Contracts of functions of layer 20: models are counted, by masks. -/
namespace Go.Proofs.YtfgfhplgnfbaaaaDoor
open Go Go.Ev

/-- How many of the masks from here on, that many, are models. -/
def cntP (ss : List (Nat × Nat)) : Nat → Nat → Nat
  | 0, _ => 0
  | d + 1, k => (if ss.all (sideT k) = true then 1 else 0) + cntP ss d (k + 1)
theorem cntP_le {ss : List (Nat × Nat)} : ∀ (d k : Nat), cntP ss d k ≤ d := by
  intro d
  induction d with
  | zero => intro k; exact Nat.le_refl _
  | succ d ih => intro k; have := ih (k + 1); unfold cntP; split <;> omega
/-- The count, and the error. -/
def countP (vars : Int) (cls : List (List Int)) : Int × Int :=
  if formB vars cls = false then (0, 2) else if 12 < vars then (0, 3) else (Int.ofNat (cntP (cls.map sideN) (2 ^ vars.toNat) 0), 0)

theorem wrap32 {k : Nat} (h : k + 1 < 4294967296) : wrapF .u32 (Int.ofNat k + 1) = Int.ofNat (k + 1) := by
  show Int.ofNat ((k + 1) % 4294967296) = _
  rw [Nat.mod_eq_of_lt h]
section
variable {O : CallF} (hO : Oth O)
include hO

theorem lp22 {b : Nat} {h₀ h : Hp} (ok : h.Ok) (K0 : Kp h₀.nx h₀ h) {vars left : Int} {a a1 a2 : Option Addr} {n c n1 c1 n2 c2 : Nat} (hb : h.get b = some (.cells (baseC vars a n c a1 n1 c1 left a2 n2 c2) 128 .fix)) (hbn : b < h.nx) {ss : List (Nat × Nat)} (H : SidesAt2 h a n ss) (hl : ss.length < 1000000) (hss : ∀ p ∈ ss, p.1 < 2 ^ 30 ∧ p.2 < 2 ^ 30) {N : Nat} (hN : N < 2 ^ 31) {x0 : Int} {a0 : Option Addr} {n0 c0 : Nat} {r : Nat} (hr30 : r < 2 ^ 31) :
    ∀ (d k : Nat), k + d = N → ∀ (m : Nat) {h1 : Hp}, Kp h.nx h h1 → r = m + cntP ss d k → I22_0 O (fun v h' => v = .tuple #[.int .i64 (Int.ofNat r), .int .i64 0] ∧ Kp h₀.nx h₀ h') x0 a0 n0 c0 (some ⟨b, 0, none⟩) (Int.ofNat m) (Int.ofNat N) (Int.ofNat k) h1 := by
  intro d
  induction d with
  | zero =>
    intro k hk m h1 kp hr
    refine I22_0.of _ _ _ _ _ _ _ _ ?_
    intros
    unfold T22_0
    refine vcond_f (by rw [ltI_nat]; exact blt_f (by omega)) ?_
    have : r = m := by simpa [cntP] using hr
    subst this
    exact ⟨rfl, K0.trans (kp.le K0.nx)⟩
  | succ d ih =>
    intro k hk m h1 kp hr
    refine I22_0.of _ _ _ _ _ _ _ _ ?_
    intros
    unfold T22_0
    have H1 : SidesAt2 h1 a n ss := H.up (ECells.up uu) kp
    obtain ⟨v, h2, e1, rfl, K2⟩ := ct77 hO (x := k) (by omega) (ok.kp kp) (show h1.get b = _ by rw [kp.get b hbn]; exact hb) H1 hl hss
    have k2 : Kp h.nx h h2 := kp.trans (K2.le kp.nx)
    have hc := cntP_le (ss := ss) d (k + 1)
    unfold cntP at hr
    refine vcond_t (by rw [ltI_nat]; exact blt_t (by omega)) ⟨_, _, e1, ?_⟩
    rw [wrap32 (by omega)]
    refine vcond_split (fun h3 => ?_) fun h3 => ?_
    · rw [if_pos h3] at hr
      rw [wrap_succ (by omega)]
      exact ih (k + 1) (by omega) (m + 1) k2 (by omega) ..
    · rw [if_neg (by rw [h3]; decide)] at hr
      exact ih (k + 1) (by omega) m k2 (by omega) ..
theorem ct22 {a : Option Addr} {n c : Nat} {vars : Int} {h : Hp} {cls : List (List Int)} (ok : h.Ok) (H : IntssAt h a n cls) (hl : cls.length < 1000000) (hll : ∀ l ∈ cls, l.length < 1000000) :
    Ret Tryd.prog O 22 [Fm vars a n c] h fun v h' => v = .tuple #[.int .i64 (countP vars cls).1, .int .i64 (countP vars cls).2] ∧ Kp h.nx h h' := by
  refine rk22 _ _ _ _ (hO _ _ _ (by decide)) ?_
  unfold T22
  have kp := fm_kp h vars a n c
  have g := fm_get h vars a n c
  obtain ⟨v1, h1, e1, rfl, K1⟩ := ct31 hO (c := c) (vars := vars) (H.up EInts.up kp) hl hll
  have k1 : Kp h.nx h h1 := kp.trans (K1.le kp.nx)
  have g1 : h1.get h.nx = some (.cells [.int .i64 vars, .slice a n c] 30 .fix) := by rw [K1.get _ (by rw [nx_add]; omega)]; exact g
  refine ⟨_, _, _, _, readAt_get g (by simp), _, _, e1, vcond_split (fun h2 => ?_) fun h2 => ?_⟩
  · have hf : formB vars cls = false := by
      cases hf : formB vars cls with
      | false => rfl
      | true => rw [hf] at h2; simp at h2; exact absurd (eqI_t rfl) (by rw [h2]; decide)
    have e : countP vars cls = (0, 2) := by unfold countP; rw [if_pos hf]
    rw [e, hf]; exact ⟨rfl, k1⟩
  have hf : formB vars cls = true := by
    cases hf : formB vars cls with
    | true => rfl
    | false => rw [hf] at h2; simp at h2; exact absurd (eq_of_t h2) (by decide)
  obtain ⟨f1, f2, f3, f4, f5⟩ := formB_lit hO hf
  refine ⟨_, read1 g1 rfl, vcond_split (fun h3 => ?_) fun h3 => ?_⟩
  · have e : countP vars cls = (0, 3) := by unfold countP; rw [if_neg (by rw [hf]; decide), if_pos (lt_of_t h3)]
    rw [e]; exact ⟨rfl, k1⟩
  have h3 := not_lt_of_f h3
  have e : countP vars cls = (Int.ofNat (cntP (cls.map sideN) (2 ^ vars.toNat) 0), 0) := by unfold countP; rw [if_neg (by rw [hf]; decide), if_neg h3]
  rw [e]
  have ok1 := ok.kp k1
  obtain ⟨v1, h2', e2, b, a6, n6, c6, rfl, z1, z2, z3, z4, z5⟩ := ct76 hO (vars := vars) ok1 (H.up EInts.up k1) (by omega) hll f4 (c := c) (a1 := none) (n1 := 0) (c1 := 0)
  have k2 : Kp h.nx h h2' := k1.trans (z5.le k1.nx)
  have hn1 := k1.nx
  have hn := K1.nx
  rw [nx_add] at hn
  have g2 : h2'.get h.nx = some (.cells [.int .i64 vars, .slice a n c] 30 .fix) := by rw [z5.get _ (by omega)]; exact g1
  have ev : vars = Int.ofNat vars.toNat := by simp only [Int.ofNat_eq_natCast]; omega
  refine ⟨_, _, _, _, readAt_get g1 (by simp), _, _, e2, _, read1 g2 rfl, ?_⟩
  have hle : le0 vars = true := by rw [ev]; rfl
  have es : shlF .u32 1 vars.toNat = Int.ofNat (2 ^ vars.toNat) := by
    have hm : vars.toNat < 30 := by omega
    generalize vars.toNat = m at hm
    revert m
    decide +kernel
  have hp : 2 ^ vars.toNat ≤ 2 ^ 12 := Nat.pow_le_pow_right (by decide) (by omega)
  refine vreq_t hle ?_
  rw [show Int.toNat vars = vars.toNat from rfl, es]
  have hc := cntP_le (ss := cls.map sideN) (2 ^ vars.toNat) 0
  exact lp22 hO (ok1.kp z5) k2 z3 z2 (z4.slAt uu_len (by decide)) (by simp; omega) (sides_lt hO f4) (N := 2 ^ vars.toNat) (by omega) (by omega) (2 ^ vars.toNat) 0 (by omega) 0 (.refl _ _) (by omega) ..
end
end Go.Proofs.YtfgfhplgnfbaaaaDoor
/- Contracts of functions of layer 20's reference: models are counted, one by one. -/
namespace Go.Proofs.YtfgfhplgnfbaaaaDoor
open Go Go.Ev

theorem app40 : AppT Tryd.prog 40 4 1 1 := ⟨by kernel_rfl, by kernel_rfl⟩
/-- How many models begin so, of that many more variables. -/
def cntR (vars : Int) (cls : List (List Int)) : Nat → List Bool → Nat
  | 0, ms => if (holdsR vars cls ms).1 = true then 1 else 0
  | d + 1, ms => cntR vars cls d (ms ++ [false]) + cntR vars cls d (ms ++ [true])
theorem cntR_le {vars : Int} {cls : List (List Int)} : ∀ (d : Nat) (ms : List Bool), cntR vars cls d ms ≤ 2 ^ d := by
  intro d
  induction d with
  | zero => intro ms; unfold cntR; split <;> decide
  | succ d ih => intro ms; have := ih (ms ++ [false]); have := ih (ms ++ [true]); unfold cntR; rw [Nat.pow_succ]; omega
/-- The count, and the error. -/
def countR (vars : Int) (cls : List (List Int)) : Int × Int :=
  if formB vars cls = false then (0, 2) else if 12 < vars then (0, 3) else (Int.ofNat (cntR vars cls vars.toNat []), 0)

theorem app_one {X : Hp} {g : List Nat} {base : Nat} {a : Option Addr} {n c : Nat} {ms : List Bool} {b : Bool} (Z : AccE X base 4 1 a n c (ms.flatMap bb)) (hb : base ≤ X.nx) (hg : ∀ q ∈ g ++ X.gd, q < base) {t : Nat} {e : TypeId} {m : Md} (src : X.get t = some (.cells [.bool b] e m)) (hl : ms.length < 1000) :
    ∃ a' n' c' h', appendV Tryd.prog (X.grd g) 40 40 (.slice a n c) (.slice (some ⟨t, 0, none⟩) 1 1) = some (.slice a' n' c', h') ∧ AccE h' base 4 1 a' n' c' ((ms ++ [b]).flatMap bb) ∧ Kp base X (h'.rst X) ∧ X.nx ≤ h'.nx ∧ ∀ q, q < X.nx → a ≠ some ⟨q, 0, none⟩ → h'.get q = X.get q := by
  have hn := (AccE.bools Z).1
  have Z' : AccE (X.grd g) base 4 1 a n c (ms.flatMap bb) := Z.keep (fun _ _ _ => rfl) (Nat.le_refl _)
  obtain ⟨a', n', c', h', e1, Z1, _, P1⟩ := append_accE app40 Z' hb (fun q hq => hg q hq) ⟨_, _, _, rfl⟩ (src_get (n := 1) (c := 1) (esz := 1) (off := 0) (read1 (i := 0) (v := .bool b) (show (X.grd g).get t = _ from src) rfl)) rfl rfl (by omega) (by unfold big; omega)
  refine ⟨a', n', c', h', e1, by rw [List.flatMap_append]; exact Z1, (Kp.refl base X).rst (g := g) (P1.kpE Z' hb), P1.nx, fun q hq hne => P1.get q hq hne⟩
theorem app_all {X : Hp} {g : List Nat} {base : Nat} {a : Option Addr} {a1 : Option Addr} {n1 c1 : Nat} {ms : List Bool} (Z : AccE X base 4 1 a 0 0 []) (hb : base ≤ X.nx) (hg : ∀ q ∈ g ++ X.gd, q < base) (M : BoolsAt X a1 n1 ms) (hl : ms.length < 1000) :
    ∃ a' n' c' h', appendV Tryd.prog (X.grd g) 40 40 (.slice a 0 0) (.slice a1 n1 c1) = some (.slice a' n' c', h') ∧ AccE h' base 4 1 a' n' c' (ms.flatMap bb) ∧ (Kp base (X.grd g) h' ∧ Kp base X (h'.rst X)) ∧ X.nx ≤ h'.nx ∧ ∀ q, q < X.nx → a ≠ some ⟨q, 0, none⟩ → h'.get q = X.get q := by
  have hn := M.1
  have Z' : AccE (X.grd g) base 4 1 a 0 0 [] := Z.keep (fun _ _ _ => rfl) (Nat.le_refl _)
  have M' : BoolsAt (X.grd g) a1 n1 ms := SlAt.keep M (fun _ _ _ => rfl) (Nat.le_refl _) fun _ _ h => h
  obtain ⟨a', n', c', h', e1, Z1, _, P1⟩ := append_accE app40 Z' hb (fun q hq => hg q hq) ⟨_, _, _, rfl⟩ (BoolsAt.src (c2 := c1) M') (by rw [bb_map, List.length_map]; omega) (by rw [bb_map]; simp [one]) (by omega) (by unfold big; omega)
  exact ⟨a', n', c', h', e1, Z1, ⟨P1.kpE Z' hb, (Kp.refl base X).rst (g := g) (P1.kpE Z' hb)⟩, P1.nx, fun q hq hne => P1.get q hq hne⟩

section
variable {O : CallF} (hO : Oth O)
include hO

theorem ct88 {a : Option Addr} {n c : Nat} {vars : Int} {cls : List (List Int)} (hl : cls.length < 1000000) (hll : ∀ l ∈ cls, l.length < 1000000) (hv : vars ≤ 12) :
    ∀ (d : Nat) {ms : List Bool} {a1 : Option Addr} {n1 c1 : Nat} {h : Hp}, h.Ok → IntssAt h a n cls → BoolsAt h a1 n1 ms → (ms.length : Int) + d = vars →
      Ret Tryd.prog O 88 [Fm vars a n c, .slice a1 n1 c1] h fun v h' => v = .int .i64 (Int.ofNat (cntR vars cls d ms)) ∧ Kp h.nx h h' := by
  intro d
  induction d with
  | zero =>
    intro ms a1 n1 c1 h ok H M hd
    refine rk88 _ _ _ _ _ _ _ (hO _ _ _ (by decide)) ?_
    unfold T88
    have kp := fm_kp h vars a n c
    have g := fm_get h vars a n c
    have hn1 := M.1
    obtain ⟨v1, h1, e1, rfl, K1⟩ := ct30 hO (c := c) (c1 := c1) (vars := vars) (ok.kp kp) (H.up EInts.up kp) (M.up EBool.up kp) hl hll
    refine ⟨_, read1 g rfl, vcond_t (eqI_t (by simp only [Int.ofNat_eq_natCast]; omega)) ⟨_, _, _, _, readAt_get g (by simp), _, _, _, e1, ?_⟩⟩
    have k1 : Kp h.nx h h1 := kp.trans (K1.le kp.nx)
    unfold cntR
    refine vcond_split (fun h3 => ?_) fun h3 => ?_
    · rw [if_pos h3]; exact ⟨rfl, k1⟩
    · rw [if_neg (by rw [h3]; decide)]; exact ⟨rfl, k1⟩
  | succ d ih =>
    intro ms a1 n1 c1 h ok H M hd
    refine rk88 _ _ _ _ _ _ _ (hO _ _ _ (by decide)) ?_
    unfold T88
    have kp := fm_kp h vars a n c
    have g := fm_get h vars a n c
    have hn1 := M.1
    have hgd : ∀ q ∈ h.gd, q < h.nx := ok.gd
    refine ⟨_, read1 g rfl, vcond_f (eqI_f (by simp only [Int.ofNat_eq_natCast]; omega)) ?_⟩
    generalize hX1 : h.add (.cells [.int .i64 vars, .slice a n c] 30 .fix) = h1 at kp g ⊢
    have n1x : h1.nx = h.nx + 1 := by rw [← hX1]; rfl
    have gd1 : h1.gd = h.gd := by rw [← hX1]; rfl
    have ok1 := ok.kp kp
    have up1 : ∀ {x : Hp}, Kp h1.nx h1 x → Kp h.nx h x := fun k => kp.trans (k.le kp.nx)
    have lit0 : ∀ {x : Hp}, h1.nx ≤ x.nx → AccE (x.add (.cells [] 4 .fix)) h1.nx 4 1 (some ⟨x.nx, 0, none⟩) 0 0 [] := fun hx => .inr ⟨rfl, rfl, rfl, _, rfl, hx, by rw [nx_add]; omega, _, _, get_add_same ..⟩
    have gF : ∀ {x : Hp}, Kp h1.nx h1 x → x.get h.nx = some (.cells [.int .i64 vars, .slice a n c] 30 .fix) := fun k => by rw [k.get _ (by omega)]; exact g
    have gd0 : ∀ {x : Hp}, Kp h1.nx h1 x → ∀ g : List Nat, (∀ q ∈ g, q = h.nx) → ∀ q ∈ g ++ x.gd, q < h1.nx := fun k g hg q hq => by
      rcases List.mem_append.1 hq with hq | hq
      · have := hg q hq; omega
      · rw [k.gd, gd1] at hq; have := hgd q hq; omega
    -- the first list
    have kA : Kp h1.nx h1 (h1.add (.cells [] 4 .fix)) := (Kp.refl _ _).add (Nat.le_refl _) _
    obtain ⟨a9, n10, c11, h12, e1, Z1, ⟨K1, _⟩, N1, G1⟩ := app_all (g := []) (c1 := c1) (lit0 (Nat.le_refl h1.nx)) kA.nx (gd0 kA [] (fun _ h => by cases h)) (M.up EBool.up (up1 kA)) (by omega)
    refine ⟨a9, n10, c11, h12, e1, ?_⟩
    have k12 : Kp h1.nx h1 h12 := kA.trans K1
    have n12 : h1.nx + 1 ≤ h12.nx := N1
    have f12 := (ok1.kp k12).fr
    have k14 : Kp h1.nx h1 (h12.rsv 14) := k12.rsv 14
    have gn : ∀ q, h12.nx ≤ q → (h12.rsv 14).get q = none := fun q hq => f12 q hq
    have Z2 : AccE (h12.rsv 14) h1.nx 4 1 a9 n10 c11 (ms.flatMap bb) := Z1.keep (fun _ _ _ => rfl) (by rw [nx_rsv]; omega)
    have a9lt : ∀ q, h12.nx ≤ q → a9 ≠ some ⟨q, 0, none⟩ := fun q hq hh => by have := (Z1.lt hh).2; omega
    have n14 : (h12.rsv 14).nx = h12.nx + 14 := rfl
    refine ⟨_, _, _, _, readAt_get (gF k14) (by simp), _, _, _, _, readAt_get (gF k14) (by simp), vreq_t (free_t (gn _ (by omega))) ?_⟩
    generalize h12.rsv 14 = X3 at k14 gn Z2 n14 ⊢
    generalize h12.nx = N at n12 gn a9lt n14 ⊢
    -- false behind it
    have k4 : Kp h1.nx h1 (X3.lay (N + 2) (.cells [.bool false] 4 .fix)) := k14.lay (by omega) (by omega) _
    have g4 : (X3.lay (N + 2) (.cells [.bool false] 4 .fix)).get (N + 2) = some (.cells [.bool false] 4 .fix) := by rw [get_lay, if_pos rfl]
    have gn4 : ∀ q, N ≤ q → q ≠ N + 2 → (X3.lay (N + 2) (.cells [.bool false] 4 .fix)).get q = none := fun q hq hne => by rw [get_lay, if_neg hne]; exact gn q hq
    have Z4 : AccE (X3.lay (N + 2) (.cells [.bool false] 4 .fix)) h1.nx 4 1 a9 n10 c11 (ms.flatMap bb) := Z2.keep (fun o ho ha => by rw [get_lay, if_neg (fun hh => a9lt o (by omega) ha)]) (Nat.le_refl _)
    have n4 : (X3.lay (N + 2) (.cells [.bool false] 4 .fix)).nx = N + 14 := n14
    generalize X3.lay (N + 2) (.cells [.bool false] 4 .fix) = X4 at k4 g4 gn4 Z4 n4 ⊢
    obtain ⟨a21, n22, c23, h24, e2, Z5, K5, N5, G5⟩ := app_one (g := [h.nx, h.nx]) Z4 (by omega) (gd0 k4 _ (fun q hq => by simpa using hq)) g4 (by omega)
    refine ⟨a21, n22, c23, h24, e2, ?_⟩
    have k5 : Kp h1.nx h1 (h24.rst X4) := k4.trans K5
    have gn5 : ∀ q, N ≤ q → q ≠ N + 2 → q < N + 14 → (h24.rst X4).get q = none := fun q hq hne hlt => by rw [get_rst, G5 q (by omega) (a9lt q hq)]; exact gn4 q hq hne
    have Z5' : AccE (h24.rst X4) h1.nx 4 1 a21 n22 c23 ((ms ++ [false]).flatMap bb) := Z5.keep (fun _ _ _ => rfl) (Nat.le_refl _)
    have n5 : N + 14 ≤ (h24.rst X4).nx := by rw [nx_rst]; omega
    generalize h24.rst X4 = X5 at k5 gn5 Z5' n5 ⊢
    have okg : (X5.grd [h.nx]).Ok := (ok1.kp k5).grd fun q hq => by obtain rfl := List.mem_singleton.1 hq; omega
    obtain ⟨v1, h26, e3, rfl, K6⟩ := ih (c1 := c23) okg (IntssAt.grd (H.up EInts.up (up1 k5))) (SlAt.keep (AccE.bools Z5') (fun _ _ _ => rfl) (Nat.le_refl _) fun _ _ h => h) (by simp; omega)
    have kk6 : Kp X5.nx X5 (h26.rst X5) := (Kp.refl _ X5).rst (g := [h.nx]) K6
    have k6 : Kp h1.nx h1 (h26.rst X5) := k5.trans (kk6.le k5.nx)
    have gn6 : ∀ q, N ≤ q → q ≠ N + 2 → q < N + 14 → (h26.rst X5).get q = none := fun q hq hne hlt => by rw [kk6.get q (by omega)]; exact gn5 q hq hne hlt
    have n6 : N + 14 ≤ (h26.rst X5).nx := Nat.le_trans n5 kk6.nx
    refine ⟨_, _, e3, vreq_t (free_t (gn6 _ (by omega) (by omega) (by omega))) ?_⟩
    generalize h26.rst X5 = X6 at k6 gn6 n6 ⊢
    -- the second list
    have k7 : Kp h1.nx h1 (X6.lay (N + 6) (.cells [] 4 .fix)) := k6.lay (by omega) (by omega) _
    have gn7 : ∀ q, N ≤ q → q ≠ N + 2 → q ≠ N + 6 → q < N + 14 → (X6.lay (N + 6) (.cells [] 4 .fix)).get q = none := fun q hq h1 h2 h3 => by rw [get_lay, if_neg h2]; exact gn6 q hq h1 h3
    have Z7 : AccE (X6.lay (N + 6) (.cells [] 4 .fix)) h1.nx 4 1 (some ⟨N + 6, 0, none⟩) 0 0 [] := .inr ⟨rfl, rfl, rfl, _, rfl, by omega, by rw [nx_lay]; omega, _, _, by rw [get_lay, if_pos rfl]⟩
    have n7 : N + 14 ≤ (X6.lay (N + 6) (.cells [] 4 .fix)).nx := n6
    generalize X6.lay (N + 6) (.cells [] 4 .fix) = X7 at k7 gn7 Z7 n7 ⊢
    obtain ⟨a27, n28, c29, h30, e4, Z8, ⟨_, K8⟩, N8, G8⟩ := app_all (g := [h.nx]) (c1 := c1) Z7 (by omega) (gd0 k7 _ (fun q hq => by simpa using hq)) (M.up EBool.up (up1 k7)) (by omega)
    have k8 : Kp h1.nx h1 (h30.rst X7) := k7.trans K8
    have gn8 : (h30.rst X7).get (N + 9) = none := by rw [get_rst, G8 _ (by omega) (by intro hh; injection hh with hh; injection hh with hh; omega)]; exact gn7 _ (by omega) (by omega) (by omega) (by omega)
    have Z8' : AccE (h30.rst X7) h1.nx 4 1 a27 n28 c29 (ms.flatMap bb) := Z8.keep (fun _ _ _ => rfl) (Nat.le_refl _)
    have n8 : N + 14 ≤ (h30.rst X7).nx := by rw [nx_rst]; omega
    refine ⟨a27, n28, c29, h30, e4, vreq_t (free_t gn8) ?_⟩
    generalize h30.rst X7 = X8 at k8 gn8 Z8' n8 ⊢
    have k9 : Kp h1.nx h1 (X8.lay (N + 9) (.cells [.bool true] 4 .fix)) := k8.lay (by omega) (by omega) _
    have g9 : (X8.lay (N + 9) (.cells [.bool true] 4 .fix)).get (N + 9) = some (.cells [.bool true] 4 .fix) := by rw [get_lay, if_pos rfl]
    have Z9 : AccE (X8.lay (N + 9) (.cells [.bool true] 4 .fix)) h1.nx 4 1 a27 n28 c29 (ms.flatMap bb) := by
      refine Z8'.keep (fun o ho ha => ?_) (Nat.le_refl _)
      rw [get_lay, if_neg]
      rintro rfl
      rcases Z8' with (⟨h1, _⟩ | ⟨q, h1, _, _, _, _, h2⟩) | ⟨_, _, _, q, h1, _, _, e2, m, h2⟩
      · rw [h1] at ha; cases ha
      · rw [h1] at ha; injection ha with ha; injection ha with ha; subst ha; rw [gn8] at h2; cases h2
      · rw [h1] at ha; injection ha with ha; injection ha with ha; subst ha; rw [gn8] at h2; cases h2
    have n9 : N + 14 ≤ (X8.lay (N + 9) (.cells [.bool true] 4 .fix)).nx := n8
    generalize X8.lay (N + 9) (.cells [.bool true] 4 .fix) = X9 at k9 g9 Z9 n9 ⊢
    obtain ⟨a31, n32, c33, h34, e5, Z10, K10, N10, G10⟩ := app_one (g := [h.nx]) Z9 (by omega) (gd0 k9 _ (fun q hq => by simpa using hq)) g9 (by omega)
    have k10 : Kp h1.nx h1 (h34.rst X9) := k9.trans K10
    have Z10' : AccE (h34.rst X9) h1.nx 4 1 a31 n32 c33 ((ms ++ [true]).flatMap bb) := Z10.keep (fun _ _ _ => rfl) (Nat.le_refl _)
    refine ⟨a31, n32, c33, h34, e5, ?_⟩
    generalize h34.rst X9 = X10 at k10 Z10' ⊢
    obtain ⟨v2, h36, e6, rfl, K11⟩ := ih (h := X10.grd []) (c1 := c33) (ok1.kp k10) (H.up EInts.up (up1 k10)) (AccE.bools Z10') (by simp; omega)
    refine ⟨_, _, e6, ?_, ?_⟩
    · have b1 := cntR_le (vars := vars) (cls := cls) d (ms ++ [false])
      have b2 := cntR_le (vars := vars) (cls := cls) d (ms ++ [true])
      have b3 : 2 ^ d ≤ 2 ^ 12 := Nat.pow_le_pow_right (by decide) (by omega)
      rw [wrap64]
      · rfl
      · simp only [Int.ofNat_eq_natCast]; omega
      · simp only [Int.ofNat_eq_natCast]; omega
    · exact up1 (k10.rst (g := []) (K11.le k10.nx))
theorem ct33 {a : Option Addr} {n c : Nat} {vars : Int} {h : Hp} {cls : List (List Int)} (ok : h.Ok) (H : IntssAt h a n cls) (hl : cls.length < 1000000) (hll : ∀ l ∈ cls, l.length < 1000000) :
    Ret Tryd.prog O 33 [Fm vars a n c] h fun v h' => v = .tuple #[.int .i64 (countR vars cls).1, .int .i64 (countR vars cls).2] ∧ Kp h.nx h h' := by
  refine rk33 _ _ _ _ (hO _ _ _ (by decide)) ?_
  unfold T33
  have kp := fm_kp h vars a n c
  have g := fm_get h vars a n c
  obtain ⟨v1, h1, e1, rfl, K1⟩ := ct85 hO (c := c) (vars := vars) (H.up EInts.up kp) hl hll
  have k1 : Kp h.nx h h1 := kp.trans (K1.le kp.nx)
  have g1 : h1.get h.nx = some (.cells [.int .i64 vars, .slice a n c] 30 .fix) := by rw [K1.get _ (by rw [nx_add]; omega)]; exact g
  refine ⟨_, _, _, _, readAt_get g (by simp), _, _, e1, vcond_split (fun h2 => ?_) fun h2 => ⟨_, read1 g1 rfl, vcond_split (fun h3 => ?_) fun h3 => ⟨_, _, _, _, readAt_get g1 (by simp), ?_⟩⟩⟩
  · have hf : formB vars cls = false := by simpa using h2
    have e : countR vars cls = (0, 2) := by unfold countR; rw [if_pos hf]
    rw [e]; exact ⟨rfl, k1⟩
  · have hf : formB vars cls = true := by simpa using h2
    have e : countR vars cls = (0, 3) := by unfold countR; rw [if_neg (by rw [hf]; decide), if_pos (lt_of_t h3)]
    rw [e]; exact ⟨rfl, k1⟩
  · have hf : formB vars cls = true := by simpa using h2
    have h3 := not_lt_of_f h3
    obtain ⟨f1, f2, f3, f4, f5⟩ := formB_lit hO hf
    have e : countR vars cls = (Int.ofNat (cntR vars cls vars.toNat []), 0) := by unfold countR; rw [if_neg (by rw [hf]; decide), if_neg h3]
    rw [e]
    obtain ⟨v2, h2', e2, rfl, K2⟩ := ct88 hO hl hll (by omega : vars ≤ 12) vars.toNat (c1 := 0) (c := c) (ok.kp k1) (H.up EInts.up k1) (SlAt.nil 1 EBool h1) (by simp; omega)
    exact ⟨_, _, e2, rfl, k1.trans (K2.le k1.nx)⟩
end
end Go.Proofs.YtfgfhplgnfbaaaaDoor
/- The plain law of formulas: a model's masks and its values say the same; so do the counts. -/
namespace Go.Proofs.YtfgfhplgnfbaaaaDoor
open Go Go.Ev

theorem add_or : ∀ (n x y : Nat), x < 2 ^ n → x &&& y = 0 → x + y = x ||| y := by
  intro n
  induction n with
  | zero => intro x y hx _; have : x = 0 := by simpa using hx
            subst this; simp
  | succ n ih =>
    intro x y hx h
    have hd := ih (x / 2) (y / 2) (by rw [Nat.pow_succ] at hx; omega) (by rw [← Nat.and_div_two, h])
    have h0 := Nat.testBit_and x y 0
    rw [h, Nat.zero_testBit] at h0
    have t := Nat.testBit_or x y 0
    rw [Nat.testBit_zero, Nat.testBit_zero] at h0
    rw [Nat.testBit_zero, Nat.testBit_zero, Nat.testBit_zero] at t
    have e := Nat.or_div_two (a := x) (b := y)
    have e2 : (x ||| y) % 2 = (x % 2 + y % 2) := by
      rcases Nat.mod_two_eq_zero_or_one x with a | a <;> rcases Nat.mod_two_eq_zero_or_one y with b | b <;> rcases Nat.mod_two_eq_zero_or_one (x ||| y) with c | c <;> rw [a, b] at h0 t <;> rw [c] at t <;> simp at h0 t <;> omega
    omega
theorem testBit_andn (a b i : Nat) : (a - (a &&& b)).testBit i = (a.testBit i && !b.testBit i) := by
  have h : (a ^^^ (a &&& b)) &&& (a &&& b) = 0 := Nat.eq_of_testBit_eq fun i => by
    simp only [Nat.testBit_and, Nat.testBit_xor, Nat.zero_testBit]
    cases a.testBit i <;> cases b.testBit i <;> rfl
  have h2 := add_or _ _ _ (Nat.lt_two_pow_self) h
  have h3 : (a ^^^ (a &&& b)) ||| (a &&& b) = a := Nat.eq_of_testBit_eq fun i => by
    simp only [Nat.testBit_and, Nat.testBit_xor, Nat.testBit_or]
    cases a.testBit i <;> cases b.testBit i <;> rfl
  have h4 : a - (a &&& b) = a ^^^ (a &&& b) := by omega
  rw [h4]
  simp only [Nat.testBit_and, Nat.testBit_xor]
  cases a.testBit i <;> cases b.testBit i <;> rfl

theorem sideF_test : ∀ {L : List Int} {y m : Nat}, (∀ x ∈ L, Lit x) → ∀ i : Nat,
    (sideF L y m).1.testBit i = (y.testBit i || decide (((i + 1 : Nat) : Int) ∈ L)) ∧ (sideF L y m).2.testBit i = (m.testBit i || decide (-((i + 1 : Nat) : Int) ∈ L)) := by
  intro L
  induction L with
  | nil => intro y m _ i; simp [sideF]
  | cons x L ih =>
    intro y m hl i
    obtain ⟨h1, h2⟩ := ih (y := (withN y m x).1) (m := (withN y m x).2) (fun z hz => hl z (List.mem_cons_of_mem _ hz)) i
    obtain ⟨w1, w2⟩ := withN_test (y := y) (m := m) (hl x (List.mem_cons_self ..)) i
    simp only [sideF]
    rw [h1, h2, w1, w2, Bool.or_assoc, Bool.or_assoc]
    refine ⟨?_, ?_⟩ <;> · congr 1; simp only [List.mem_cons]; rw [← Bool.decide_or]; congr 1; refine propext (or_congr ⟨fun e => e.symm, fun e => e.symm⟩ Iff.rfl)
theorem or_zero_iff (y m : Nat) : y ||| m = 0 ↔ ∀ i, y.testBit i = false ∧ m.testBit i = false := by
  constructor
  · intro h i
    have := congrArg (fun z => z.testBit i) h
    simpa [Nat.testBit_or] using this
  · intro h
    refine Nat.eq_of_testBit_eq fun i => ?_
    obtain ⟨a, b⟩ := h i
    rw [Nat.testBit_or, a, b, Nat.zero_testBit]; rfl
theorem sideT_iff {l : List Int} (hl : ∀ x ∈ l, Lit x) (x : Nat) : sideT x (sideN l) = true ↔ ∃ i : Nat, (((i + 1 : Nat) : Int) ∈ l ∧ x.testBit i = true) ∨ (-((i + 1 : Nat) : Int) ∈ l ∧ x.testBit i = false) := by
  unfold sideT
  rw [Bool.not_eq_true', decide_eq_false_iff_not, or_zero_iff]
  have hs := fun i => sideF_test (y := 0) (m := 0) hl i
  simp only [Nat.testBit_and, testBit_andn]
  unfold sideN
  simp only [fun i => (hs i).1, fun i => (hs i).2, Nat.zero_testBit, Bool.false_or]
  rw [Classical.not_forall]
  refine exists_congr fun i => ?_
  cases x.testBit i <;> simp
theorem satR_iff {l : List Int} (hl : ∀ x ∈ l, Lit x) {ms : List Bool} (hv : ∀ x ∈ l, x.natAbs ≤ ms.length) : satR (0 :: ms.map tb) l = true ↔ ∃ i : Nat, (((i + 1 : Nat) : Int) ∈ l ∧ ms.getD i false = true) ∨ (-((i + 1 : Nat) : Int) ∈ l ∧ ms.getD i false = false) := by
  unfold satR
  rw [List.any_eq_true]
  have tbv : ∀ i : Nat, i < ms.length → (0 :: ms.map tb).getD (i + 1) 0 = tb (ms.getD i false) := fun i hi => by
    simp [List.getD_eq_getElem?_getD, hi]
  constructor
  · rintro ⟨x, hx, h⟩
    have h := of_decide_eq_true h
    have h0 := (hl x hx).1
    have h1 := hv x hx
    unfold tvR at h
    refine ⟨x.natAbs - 1, ?_⟩
    split at h
    · rename_i hn
      have e : (-x).toNat = (x.natAbs - 1) + 1 := by omega
      rw [e, tbv _ (by omega)] at h
      refine .inr ⟨by rw [show -((x.natAbs - 1 + 1 : Nat) : Int) = x by omega]; exact hx, ?_⟩
      cases hb : ms.getD (x.natAbs - 1) false with
      | false => rfl
      | true => rw [hb] at h; simp [tb] at h
    · rename_i hn
      have e : x.toNat = (x.natAbs - 1) + 1 := by omega
      rw [e, tbv _ (by omega)] at h
      refine .inl ⟨by rw [show ((x.natAbs - 1 + 1 : Nat) : Int) = x by omega]; exact hx, ?_⟩
      cases hb : ms.getD (x.natAbs - 1) false with
      | true => rfl
      | false => rw [hb] at h; simp [tb] at h
  · rintro ⟨i, ⟨hx, hb⟩ | ⟨hx, hb⟩⟩
    · have h1 := hv _ hx
      refine ⟨_, hx, decide_eq_true ?_⟩
      unfold tvR
      rw [if_neg (by omega), show (((i + 1 : Nat) : Int)).toNat = i + 1 by omega, tbv _ (by omega), hb]
      decide
    · have h1 := hv _ hx
      refine ⟨_, hx, decide_eq_true ?_⟩
      unfold tvR
      rw [if_pos (by omega), show (-(-((i + 1 : Nat) : Int))).toNat = i + 1 by omega, tbv _ (by omega), hb]
      decide
theorem maskF_test : ∀ (bs : List Bool) (i y j : Nat), (maskF bs i y).testBit j = (y.testBit j || (decide (i ≤ j) && bs.getD (j - i) false)) := by
  intro bs
  induction bs with
  | nil => intro i y j; simp [maskF]
  | cons b bs ih =>
    intro i y j
    simp only [maskF]
    rw [ih]
    have e : (if b = true then y ||| 2 ^ i else y).testBit j = (y.testBit j || (b && decide (i = j))) := by
      cases b with
      | false => simp
      | true => rw [if_pos rfl, Nat.testBit_or, Nat.testBit_two_pow]; simp
    rw [e, Bool.or_assoc]
    congr 1
    rcases Nat.lt_trichotomy i j with h | h | h
    · rw [decide_eq_false (by omega : ¬ i = j), decide_eq_true (by omega : i + 1 ≤ j), decide_eq_true (by omega : i ≤ j), show j - i = (j - (i + 1)) + 1 by omega]
      simp
    · subst h
      rw [decide_eq_true rfl, decide_eq_false (by omega : ¬ i + 1 ≤ i), decide_eq_true (Nat.le_refl i), Nat.sub_self]
      simp
    · rw [decide_eq_false (by omega : ¬ i = j), decide_eq_false (by omega : ¬ i + 1 ≤ j), decide_eq_false (by omega : ¬ i ≤ j)]
      simp
theorem sat_same {l : List Int} (hl : ∀ x ∈ l, Lit x) {ms : List Bool} (hv : ∀ x ∈ l, x.natAbs ≤ ms.length) : sideT (maskF ms 0 0) (sideN l) = satR (0 :: ms.map tb) l := by
  rw [Bool.eq_iff_iff, sideT_iff hl, satR_iff hl hv]
  refine exists_congr fun i => ?_
  rw [maskF_test]
  simp
/-- A sum over the first numbers. -/
def smF (f : Nat → Nat) : Nat → Nat
  | 0 => 0
  | n + 1 => smF f n + f n
theorem sm_split (f : Nat → Nat) : ∀ n : Nat, smF f (n + n) = smF (fun j => f (2 * j)) n + smF (fun j => f (2 * j + 1)) n := by
  intro n
  induction n with
  | zero => rfl
  | succ n ih =>
    rw [show n + 1 + (n + 1) = (n + n) + 1 + 1 by omega]
    simp only [smF]
    rw [ih, show n + n = 2 * n by omega]
    omega
theorem sm_congr {f g : Nat → Nat} (h : ∀ j, f j = g j) : ∀ n, smF f n = smF g n := by
  intro n
  have : f = g := funext h
  rw [this]
theorem sm_front (f : Nat → Nat) : ∀ n, smF f (n + 1) = f 0 + smF (fun j => f (j + 1)) n := by
  intro n
  induction n with
  | zero => simp [smF]
  | succ n ih => rw [smF, ih]; simp only [smF]; omega
theorem cntP_sm (ss : List (Nat × Nat)) : ∀ (d k : Nat), cntP ss d k = smF (fun j => if ss.all (sideT (k + j)) = true then 1 else 0) d := by
  intro d
  induction d with
  | zero => intro k; rfl
  | succ d ih =>
    intro k
    rw [sm_front, cntP, ih]
    simp only [Nat.add_zero]
    congr 1
    refine sm_congr (fun j => ?_) d
    rw [show k + 1 + j = k + (j + 1) by omega]
theorem maskF_app : ∀ (ms : List Bool) (b : Bool) (i y : Nat), maskF (ms ++ [b]) i y = if b = true then maskF ms i y ||| 2 ^ (i + ms.length) else maskF ms i y := by
  intro ms
  induction ms with
  | nil => intro b i y; rfl
  | cons m ms ih => intro b i y; simp only [List.cons_append, maskF]; rw [ih, List.length_cons, show i + 1 + ms.length = i + (ms.length + 1) by omega]
theorem maskF_lt2 (ms : List Bool) : maskF ms 0 0 < 2 ^ ms.length := by
  refine Nat.lt_pow_two_of_testBit _ fun i hi => ?_
  rw [maskF_test]
  simp [List.getD_eq_getElem?_getD, hi]
theorem maskF_add (ms : List Bool) (b : Bool) : maskF (ms ++ [b]) 0 0 = maskF ms 0 0 + if b = true then 2 ^ ms.length else 0 := by
  rw [maskF_app, Nat.zero_add]
  cases b with
  | false => rfl
  | true =>
    rw [if_pos rfl, if_pos rfl]
    have := Nat.two_pow_add_eq_or_of_lt (maskF_lt2 ms) 1
    rw [Nat.mul_one] at this
    rw [Nat.add_comm, this, Nat.or_comm]
section
variable {O : CallF} (hO : Oth O)
include hO
theorem holds_same (vars : Int) (cls : List (List Int)) (ms : List Bool) : holdsP vars cls ms = holdsR vars cls ms := by
  unfold holdsP holdsR
  split
  · rfl
  rename_i hf
  have hf : formB vars cls = true := by simpa using hf
  obtain ⟨f1, f2, f3, f4, f5⟩ := formB_lit hO hf
  split
  · rfl
  rename_i hv
  have hv : (ms.length : Int) = vars := Classical.not_not.1 hv
  congr 1
  rw [Bool.eq_iff_iff, List.all_eq_true, List.all_eq_true]
  have key : ∀ l ∈ cls, sideT (maskF ms 0 0) (sideN l) = satR (0 :: ms.map tb) l := fun l hl => sat_same (f4 l hl) fun x hx => by
    have := (clB_lit (by decide) (f5 l hl) x hx).2
    have h2 := varI_lit2 (f4 l hl x hx)
    omega
  constructor
  · intro h l hl; rw [← key l hl]; exact h _ (List.mem_map_of_mem hl)
  · intro h p hp
    obtain ⟨l, hl, rfl⟩ := List.mem_map.1 hp
    rw [key l hl]; exact h l hl

theorem cntR_sm {vars : Int} {cls : List (List Int)} (hf : formB vars cls = true) : ∀ (d : Nat) (ms : List Bool), (ms.length : Int) + d = vars →
    cntR vars cls d ms = smF (fun j => if (cls.map sideN).all (sideT (maskF ms 0 0 + 2 ^ ms.length * j)) = true then 1 else 0) (2 ^ d) := by
  intro d
  induction d with
  | zero =>
    intro ms h
    have e : holdsP vars cls ms = ((cls.map sideN).all (sideT (maskF ms 0 0)), 0) := by
      unfold holdsP
      rw [if_neg (by rw [hf]; decide), if_neg (fun hh => hh (by omega))]
    rw [cntR, ← holds_same hO, e]
    show _ = 0 + if (cls.map sideN).all (sideT (maskF ms 0 0 + 2 ^ ms.length * 0)) = true then 1 else 0
    rw [Nat.mul_zero, Nat.add_zero, Nat.zero_add]
  | succ d ih =>
    intro ms h
    rw [cntR, ih _ (by simp; omega), ih _ (by simp; omega), Nat.pow_succ, Nat.mul_two, sm_split]
    simp only [maskF_add, List.length_append, List.length_singleton, if_true, Nat.pow_succ]
    congr 1
    · refine sm_congr (fun j => ?_) _
      simp only [Bool.false_eq_true, if_false, Nat.add_zero, Nat.mul_assoc]
    · refine sm_congr (fun j => ?_) _
      rw [show maskF ms 0 0 + 2 ^ ms.length + 2 ^ ms.length * 2 * j = maskF ms 0 0 + 2 ^ ms.length * (2 * j + 1) by rw [Nat.mul_add, Nat.mul_one, Nat.mul_assoc]; omega]
theorem count_same (vars : Int) (cls : List (List Int)) : countP vars cls = countR vars cls := by
  unfold countP countR
  split
  · rfl
  rename_i hf
  have hf : formB vars cls = true := by simpa using hf
  obtain ⟨f1, f2, f3, f4, f5⟩ := formB_lit hO hf
  split
  · rfl
  rw [cntR_sm hO hf vars.toNat [] (by simp; omega), cntP_sm]
  congr 2
  refine sm_congr (fun j => ?_) _
  show (if _ then _ else _) = if (cls.map sideN).all (sideT (0 + 1 * j)) = true then 1 else 0
  rw [Nat.one_mul]
end
end Go.Proofs.YtfgfhplgnfbaaaaDoor
