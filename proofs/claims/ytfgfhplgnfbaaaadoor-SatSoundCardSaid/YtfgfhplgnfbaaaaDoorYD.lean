/- Contracts of functions of layer 20: formulas, as clauses' sides. -/
import Derived.Test.YtfgfhplgnfbaaaaDoorYC
import Derived.Test.YtfgfhplgnfbaaaaDoorProg
import Derived.KernelRfl
namespace Go.Proofs.YtfgfhplgnfbaaaaDoor
open Go Go.Ev
/-- A clause's sides. -/
def sideF : List Int → Nat → Nat → Nat × Nat
  | [], y, m => (y, m)
  | x :: xs, y, m => sideF xs (withN y m x).1 (withN y m x).2
def sideN (xs : List Int) : Nat × Nat := sideF xs 0 0
theorem sideF_lt : ∀ {xs : List Int} {y m : Nat}, (∀ x ∈ xs, Lit x) → y < 2 ^ 30 → m < 2 ^ 30 → (sideF xs y m).1 < 2 ^ 30 ∧ (sideF xs y m).2 < 2 ^ 30 := by
  intro xs
  induction xs with
  | nil => intro y m _ hy hm; exact ⟨hy, hm⟩
  | cons x xs ih =>
    intro y m hl hy hm
    have hx := hl x (List.mem_cons_self ..)
    have hb := bitN_lt hx
    refine ih (fun z hz => hl z (List.mem_cons_of_mem _ hz)) ?_ ?_
    · unfold withN; split
      · exact Nat.or_lt_two_pow hy hb
      · exact hy
    · unfold withN; split
      · exact hm
      · exact Nat.or_lt_two_pow hm hb
theorem SlAt.below {α : Type} {w : Nat} {R : Enc α} {h : Hp} {a : Option Addr} {n : Nat} {xs : List α} (H : SlAt w R h a n xs) : ∀ b off, a = some ⟨b, off, none⟩ → b < h.nx := by
  intro b off e
  rcases H.2 with ⟨_, h0⟩ | ⟨b', off', _, _, _, h0, h2, _⟩
  · rw [h0] at e; cases e
  · rw [h0] at e; injection e with e; injection e with e _; omega
section
variable {O : CallF} (hO : Oth O)
include hO
theorem lp107 {a : Option Addr} {n c : Nat} {xs : List Int} (hx : ∀ x ∈ xs, Lit x) (hl : xs.length < 1000000) {h₀ : Hp} (ok : h₀.Ok) (H : IntsAt h₀ a n xs) {r : Nat × Nat} :
    ∀ (d k : Nat), k + d = xs.length → ∀ (y m : Nat) {h : Hp}, y < 2 ^ 30 → m < 2 ^ 30 → Kp h₀.nx h₀ h → h₀.nx + 2 ≤ h.nx → h.get h₀.nx = some (.cells [U 0, U 0] 130 .fix) → h.get (h₀.nx + 1) = some (.cells [U y, U m] 130 .fix) → r = sideF (xs.drop k) y m →
      I107_0 O (fun v h' => v = .agg #[U r.1, U r.2] ∧ Kp h₀.nx h₀ h') a n c h₀.nx 0 (h₀.nx + 1) 0 (Int.ofNat k) h := by
  have hn := H.1
  intro d
  induction d with
  | zero =>
    intro k hk y m h hy hm kp hnx g2 g3 hr
    refine I107_0.of _ _ _ _ _ _ _ _ ?_
    intros
    unfold T107_0
    refine vcond_f (by rw [ltI_nat]; exact blt_f (by omega)) ?_
    rw [List.drop_of_length_le (by omega)] at hr
    subst hr
    have gu : h.guarded h₀.nx = false := guarded_of fun q hq => by rw [kp.gd] at hq; have := ok.gd q hq; omega
    refine ⟨_, _, readAt_get g3 (by simp), vreq_t (canW_t g2 (by decide) gu (by simp) rfl) ⟨_, _, readAt_get (wr_get g2 (by decide) gu (by simp) rfl) (by simp [putAt]), rfl, kp.wr (Nat.le_refl _) _ _⟩⟩
  | succ d ih =>
    intro k hk y m h hy hm kp hnx g2 g3 hr
    refine I107_0.of _ _ _ _ _ _ _ _ ?_
    intros
    unfold T107_0
    have e1 : xs.drop k = xs[k] :: xs.drop (k + 1) := List.drop_eq_getElem_cons (by omega)
    rw [e1] at hr
    simp only [sideF] at hr
    have hlit := hx xs[k] (List.getElem_mem _)
    have H1 : IntsAt h a n xs := H.up EInt.up kp
    refine vcond_t (by rw [ltI_nat]; exact blt_t (by omega)) (isNat_of (H1.get (k := k) (by omega) fun b off h1 h2 hrd => vreq_t (blt_t (by omega)) ⟨_, hrd, ?_⟩))
    have g3' : (h.rsv 7).get (h₀.nx + 1) = _ := g3
    have gu : (h.rsv 7).guarded (h₀.nx + 1) = false := guarded_of fun q hq => by
      have : q ∈ h₀.gd := by rw [← kp.gd]; exact hq
      have := ok.gd q this; omega
    have es : (((h.rsv 7).grd [h₀.nx + 1]).rst (h.rsv 7)).grd [] = h.rsv 7 := rfl
    have es2 : ((h.rsv 7).grd [h₀.nx + 1]).rst (h.rsv 7) = h.rsv 7 := rfl
    have hb := bitN_lt hlit
    have k7 : Kp h₀.nx h₀ (h.rsv 7) := kp.rsv 7
    have go : ∀ (y' m' off : Nat) (z : Nat), y' < 2 ^ 30 → m' < 2 ^ 30 → off < 2 → putAt [U y, U m] off [U z] = [U y', U m'] → r = sideF (xs.drop (k + 1)) y' m' →
        I107_0 O (fun v h' => v = .agg #[U r.1, U r.2] ∧ Kp h₀.nx h₀ h') a n c h₀.nx 0 (h₀.nx + 1) 0 (Int.ofNat (k + 1)) (((h.rsv 7).wr (h₀.nx + 1) off [U z]).rst (h.rsv 7)) := by
      intro y' m' off z hy' hm' hoff hput hr'
      refine ih (k + 1) (by omega) y' m' hy' hm' ?_ (by rw [nx_rst, nx_wr, nx_rsv]; omega) ?_ ?_ hr'
      · exact k7.rst (g := []) (show Kp h₀.nx ((h.rsv 7).grd []) ((h.rsv 7).wr (h₀.nx + 1) off [U z]) from (Kp.refl h₀.nx (h.rsv 7)).wr (by omega) off [U z])
      · rw [get_rst, wr_get_ne _ _ _ _ (by omega)]; exact g2
      · rw [get_rst, wr_get g3' (by decide) gu (by simp; omega) rfl, hput]
    refine vcond_split (fun h3 => ?_) fun h3 => ?_
    · have e2 : withN y m xs[k] = (y ||| bitN xs[k], m) := if_pos (lt_of_t h3)
      rw [e2] at hr
      refine ⟨_, read1 g3' (i := 0 + 0) rfl, _, _, bit_ct hO hlit _, vreq_t (inD_of (by omega)) (vreq_t (inD_of (by omega)) ?_)⟩
      rw [es, es2, lor_nat, wrap_succ (by omega)]
      exact vreq_t (canW_t g3' (by decide) gu (by simp) rfl) (go (y ||| bitN xs[k]) m 0 _ (Nat.or_lt_two_pow hy hb) hm (by decide) rfl hr ..)
    · have e2 : withN y m xs[k] = (y, m ||| bitN xs[k]) := if_neg (not_lt_of_f h3)
      rw [e2] at hr
      refine ⟨_, read1 g3' (i := 0 + 1) rfl, _, _, bit_ct hO hlit _, vreq_t (inD_of (by omega)) (vreq_t (inD_of (by omega)) ?_)⟩
      rw [es, es2, lor_nat, wrap_succ (by omega)]
      exact vreq_t (canW_t g3' (by decide) gu (by simp) rfl) (go y (m ||| bitN xs[k]) 1 _ hy (Nat.or_lt_two_pow hm hb) (by decide) rfl hr ..)
theorem ct107 {a : Option Addr} {n c : Nat} {xs : List Int} (hx : ∀ x ∈ xs, Lit x) (hl : xs.length < 1000000) {h : Hp} (ok : h.Ok) (H : IntsAt h a n xs) :
    Ret Tryd.prog O 107 [.slice a n c] h fun v h' => v = .agg #[U (sideN xs).1, U (sideN xs).2] ∧ Kp h.nx h h' := by
  refine rk107 _ _ _ (hO _ _ _ (by decide)) ?_
  unfold T107
  have k1 : Kp h.nx h (h.add (.cells [U 0, U 0] 130 .fix)) := (Kp.refl _ _).add (Nat.le_refl _) _
  exact lp107 hO hx hl ok H xs.length 0 (by omega) 0 0 (by decide) (by decide) (k1.add (by rw [nx_add]; omega) _) (Nat.le_refl _) (by rw [get_add_ne (by rw [nx_add]; omega), get_add_same]; rfl) (get_add_same ..) rfl ..
end
end Go.Proofs.YtfgfhplgnfbaaaaDoor
/- Contracts of functions of layer 20: formulas are checked. -/
namespace Go.Proofs.YtfgfhplgnfbaaaaDoor
open Go Go.Ev
/-- A formula is as defined. -/
def formB (vars : Int) (cls : List (List Int)) : Bool := !(decide (vars < 0)) && !(decide (30 < vars)) && !(decide (120 < cls.length)) && cls.all (clB vars 0)
/-- Lists are many more, or longer, than they may be. -/
def greatB (cls : List (List Int)) : Bool := decide (150 < cls.length) || cls.any fun l => decide (40 < l.length)
abbrev Fm (vars : Int) (a : Option Addr) (n c : Nat) : Value := .agg #[.int .i64 vars, .slice a n c]
section
variable {O : CallF} (hO : Oth O)
include hO
theorem lp43 {a : Option Addr} {n c : Nat} {h : Hp} {cls : List (List Int)} (H : IntssAt h a n cls) (hl : cls.length < 1000000) {Q : Value → Hp → Prop} :
    ∀ (d k : Nat), k + d = cls.length → ∀ (q : Bool), Q (.bool ((cls.drop k).any fun l => decide (40 < l.length))) h → I43_0 O Q a n c q (Int.ofNat k) h := by
  have _ := hO
  have hn := H.1
  intro d
  induction d with
  | zero =>
    intro k hk q hQ
    refine I43_0.of _ _ _ _ _ ?_
    intros
    unfold T43_0
    refine vcond_f (by rw [ltI_nat]; exact blt_f (by omega)) ?_
    rw [List.drop_of_length_le (by omega)] at hQ
    exact hQ
  | succ d ih =>
    intro k hk q hQ
    refine I43_0.of _ _ _ _ _ ?_
    intros
    unfold T43_0
    refine vcond_t (by rw [ltI_nat]; exact blt_t (by omega)) (isNat_of (H.get (k := k) (by omega) fun b off a' n' c' h1 h2 hr Y => vreq_t (blt_t (by omega)) ⟨_, _, _, hr, ?_⟩))
    have hY := Y.1
    have e1 : cls.drop k = cls[k] :: cls.drop (k + 1) := List.drop_eq_getElem_cons (by omega)
    rw [e1, List.any_cons] at hQ
    refine vcond_split (fun h3 => ?_) fun h3 => ?_
    · have h3 : (40 : Int) < (n' : Int) := lt_of_t h3
      rw [decide_eq_true (by omega), Bool.true_or] at hQ; exact hQ
    · have h3 : ¬ (40 : Int) < (n' : Int) := not_lt_of_f h3
      rw [decide_eq_false (by omega), Bool.false_or] at hQ
      rw [wrap_succ (by omega)]
      exact ih (k + 1) (by omega) _ hQ ..
theorem ct43 {a : Option Addr} {n c : Nat} {h : Hp} {cls : List (List Int)} (H : IntssAt h a n cls) : EvT O 43 [.slice a n c] h (.bool (greatB cls)) h := by
  refine EvC.of_ret (rk43 _ _ _ (hO _ _ _ (by decide)) ?_)
  unfold T43 greatB
  have hn := H.1
  refine vcond_split (fun h1 => ?_) fun h1 => ?_
  · have h1 : (150 : Int) < (n : Int) := lt_of_t h1
    rw [decide_eq_true (by omega), Bool.true_or]; exact ⟨rfl, rfl⟩
  · have h1 : ¬ (150 : Int) < (n : Int) := not_lt_of_f h1
    rw [decide_eq_false (by omega), Bool.false_or]
    exact lp43 hO H (by omega) cls.length 0 (by omega) false ⟨rfl, rfl⟩ ..
omit hO in
/-- A formula's place, when it was laid. -/
theorem fm_get (h : Hp) (vars : Int) (a : Option Addr) (n c : Nat) : (h.add (.cells [.int .i64 vars, .slice a n c] 30 .fix)).get h.nx = some (.cells [.int .i64 vars, .slice a n c] 30 .fix) := get_add_same ..
omit hO in
theorem fm_kp (h : Hp) (vars : Int) (a : Option Addr) (n c : Nat) : Kp h.nx h (h.add (.cells [.int .i64 vars, .slice a n c] 30 .fix)) := (Kp.refl _ _).add (Nat.le_refl _) _
theorem lp31 {a a1 : Option Addr} {n c n1 c1 : Nat} {vars w : Int} {h : Hp} {b : Nat} {cls : List (List Int)} (H : IntssAt h a n cls) (hl : cls.length < 1000000) (hll : ∀ l ∈ cls, l.length < 1000000) (hb : h.get b = some (.cells [.int .i64 vars, .slice a1 n1 c1] 30 .fix)) {Q : Value → Hp → Prop} {x0 : Int} {a0 : Option Addr} {n0 c0 : Nat} :
    ∀ (d k : Nat), k + d = cls.length → Q (.int .i64 (if (cls.drop k).all (clB vars 0) = true then 0 else 2)) h → I31_0 O Q x0 a0 n0 c0 b 0 w a n c (Int.ofNat n) (Int.ofNat k) h := by
  have hn := H.1
  intro d
  induction d with
  | zero =>
    intro k hk hQ
    refine I31_0.of _ _ _ _ _ _ _ _ _ _ _ _ ?_
    intros
    unfold T31_0
    refine vcond_f (by rw [ltI_nat]; exact blt_f (by omega)) ?_
    rw [List.drop_of_length_le (by omega)] at hQ
    exact hQ
  | succ d ih =>
    intro k hk hQ
    refine I31_0.of _ _ _ _ _ _ _ _ _ _ _ _ ?_
    intros
    unfold T31_0
    refine vcond_t (by rw [ltI_nat]; exact blt_t (by omega)) (isNat_of (H.get (k := k) (by omega) fun b off a' n' c' h1 h2 hr Y => vreq_t (blt_t (by omega)) ⟨_, _, _, hr, _, read1 hb (i := 0 + 0) rfl, _, _, ct87 hO vars Y (hll _ (List.getElem_mem _)), ?_⟩))
    have e1 : cls.drop k = cls[k] :: cls.drop (k + 1) := List.drop_eq_getElem_cons (by omega)
    rw [e1, List.all_cons] at hQ
    refine vcond_split (fun h3 => ?_) fun h3 => ?_
    · have h3 : clB vars 0 cls[k] = false := by simpa using h3
      rw [h3, Bool.false_and] at hQ; exact hQ
    · have h3 : clB vars 0 cls[k] = true := by simpa using h3
      rw [h3, Bool.true_and] at hQ
      rw [wrap_succ (by omega)]
      exact ih (k + 1) (by omega) hQ ..
theorem ct31 {a : Option Addr} {n c : Nat} {vars : Int} {h : Hp} {cls : List (List Int)} (H : IntssAt h a n cls) (hl : cls.length < 1000000) (hll : ∀ l ∈ cls, l.length < 1000000) : Ret Tryd.prog O 31 [Fm vars a n c] h fun v h' => v = .int .i64 (if formB vars cls = true then 0 else 2) ∧ Kp h.nx h h' := by
  refine rk31 _ _ _ _ (hO _ _ _ (by decide)) ?_
  unfold T31 formB
  have hn := H.1
  have g := fm_get h vars a n c
  have kp := fm_kp h vars a n c
  refine ⟨_, read1 g rfl, vcond_split (fun h1 => ?_) fun h1 => ⟨_, read1 g rfl, vcond_split (fun h2 => ?_) fun h2 => ⟨_, _, _, read1 g rfl, vcond_split (fun h3 => ?_) fun h3 => ⟨_, _, _, read1 g rfl, ?_⟩⟩⟩⟩
  · rw [decide_eq_true (lt_of_t h1)]; exact ⟨rfl, kp⟩
  · rw [decide_eq_true (lt_of_t h2)]; refine ⟨?_, kp⟩; simp
  · have h3 : (120 : Int) < (n : Int) := lt_of_t h3
    rw [decide_eq_true (show 120 < cls.length by omega)]; refine ⟨?_, kp⟩; simp
  · have h3 : ¬ (120 : Int) < (n : Int) := not_lt_of_f h3
    rw [decide_eq_false (not_lt_of_f h1), decide_eq_false (not_lt_of_f h2), decide_eq_false (show ¬ 120 < cls.length by omega)]
    refine lp31 hO (H.up EInts.up kp) hl hll g cls.length 0 (by omega) ⟨?_, kp⟩ ..
    simp
end
end Go.Proofs.YtfgfhplgnfbaaaaDoor
/- Contracts of functions of layer 20: the base of a formula. -/
namespace Go.Proofs.YtfgfhplgnfbaaaaDoor
open Go Go.Ev
def uu (p : Nat × Nat) : List Value := [U p.1, U p.2]
theorem uu_len (p : Nat × Nat) : (uu p).length = 2 := rfl
theorem uu_one (p : Nat × Nat) : (uu p).all one = true := rfl
abbrev SidesAt2 := SlAt 2 (ECells uu)
/-- The cells of a base. -/
def baseC (vars : Int) (a : Option Addr) (n c : Nat) (a1 : Option Addr) (n1 c1 : Nat) (left : Int) (a2 : Option Addr) (n2 c2 : Nat) : List Value := [.int .i64 vars, .slice a n c, .slice a1 n1 c1, .int .i64 left, .slice a2 n2 c2]
section
variable {O : CallF} (hO : Oth O)
include hO
theorem lp76 {a a1 : Option Addr} {n c n1 c1 : Nat} {vars : Int} {h₀ : Hp} {cls : List (List Int)} (ok : h₀.Ok) (H : IntssAt h₀ a n cls) (hl : cls.length < 10000) (hll : ∀ l ∈ cls, l.length < 1000000) (hlit : ∀ l ∈ cls, ∀ x ∈ l, Lit x) {x0 : Int} {a0 : Option Addr} {n0 c0 : Nat} :
    ∀ (d k : Nat), k + d = cls.length → ∀ {h : Hp} {a6 : Option Addr} {n6 c6 : Nat}, Kp h₀.nx h₀ h → h₀.nx + 2 ≤ h.nx → h.get (h₀.nx + 1) = some (.cells (baseC vars a6 n6 c6 a1 n1 c1 2000 none 0 0) 128 .fix) → Acc h (h₀.nx + 2) 130 2 a6 n6 c6 (((cls.take k).map sideN).flatMap uu) → n6 = k →
      I76_0 O (fun v h' => ∃ a6 n6 c6, v = .pointer (some ⟨h₀.nx + 1, 0, none⟩) ∧ h'.get (h₀.nx + 1) = some (.cells (baseC vars a6 n6 c6 a1 n1 c1 2000 none 0 0) 128 .fix) ∧ h₀.nx + 1 < h'.nx ∧ Acc h' (h₀.nx + 2) 130 2 a6 n6 c6 ((cls.map sideN).flatMap uu) ∧ Kp h₀.nx h₀ h') x0 a0 n0 c0 a1 n1 c1 (h₀.nx + 1) 0 a n c (Int.ofNat n) (Int.ofNat k) h := by
  have hn := H.1
  intro d
  induction d with
  | zero =>
    intro k hk h a6 n6 c6 kp hnx gb A hn6
    refine I76_0.of _ _ _ _ _ _ _ _ _ _ _ _ _ _ ?_
    intros
    unfold T76_0
    refine vcond_f (by rw [ltI_nat]; exact blt_f (by omega)) ?_
    rw [List.take_of_length_le (by omega)] at A
    exact ⟨_, _, _, rfl, gb, by omega, A, kp⟩
  | succ d ih =>
    intro k hk h a6 n6 c6 kp hnx gb A hn6
    refine I76_0.of _ _ _ _ _ _ _ _ _ _ _ _ _ _ ?_
    intros
    unfold T76_0
    have H1 : IntssAt h a n cls := H.up EInts.up kp
    refine vcond_t (by rw [ltI_nat]; exact blt_t (by omega)) (isNat_of (H1.get (k := k) (by omega) fun b off a' n' c' h1 h2 hrd Y => vreq_t (blt_t (by omega)) ⟨_, _, _, hrd, ?_⟩))
    have okh : h.Ok := ok.kp kp
    have gb1 : (h.rsv 12).get (h₀.nx + 1) = _ := gb
    have okg : ((h.rsv 12).grd [h₀.nx + 1]).Ok := (okh.rsv 12).grd fun q hq => by
      obtain rfl := List.mem_singleton.1 hq; rw [nx_rsv]; omega
    have Y1 : IntsAt ((h.rsv 12).grd [h₀.nx + 1]) a' n' cls[k] := Y.keep (fun _ _ _ => rfl) (by rw [nx_grd, nx_rsv]; omega) fun _ _ h => h
    obtain ⟨v2, h2', e2, rfl, K2⟩ := ct107 hO (hlit _ (List.getElem_mem _)) (hll _ (List.getElem_mem _)) okg Y1 (c := c')
    refine ⟨_, _, _, read1 gb1 (i := 0 + 1) rfl, _, _, _, e2, ?_⟩
    have K2' : Kp (h.nx + 12) (h.rsv 12) (h2'.rst (h.rsv 12)) := (Kp.refl (h.nx + 12) (h.rsv 12)).rst K2
    have K2h : Kp (h.nx + 12) h (h2'.rst (h.rsv 12)) := (Kp.refl (h.nx + 12) h).rsv 12 |>.trans K2'
    refine vreq_t (free_t (by rw [K2h.get _ (by omega)]; exact okh.fr _ (by omega))) ?_
    generalize hg2 : h2'.rst (h.rsv 12) = g2 at *
    have hnx2 : h.nx + 12 ≤ g2.nx := K2'.nx
    have K3 : Kp h.nx h (g2.lay (h.nx + 7) (.cells (uu (sideN cls[k])) 130 .fix)) := (K2h.le (by omega)).lay (by omega) (by omega) _
    have A3 : Acc (g2.lay (h.nx + 7) (.cells (uu (sideN cls[k])) 130 .fix)) (h₀.nx + 2) 130 2 a6 n6 c6 (((cls.take k).map sideN).flatMap uu) := A.kp K3 (Nat.le_refl _)
    have gdh : GdLt (g2.lay (h.nx + 7) (.cells (uu (sideN cls[k])) 130 .fix)) (h₀.nx + 2) := fun q hq => by
      have : q ∈ h₀.gd := by rw [← kp.gd, ← K3.gd]; exact hq
      have := ok.gd q this; omega
    obtain ⟨a9, n9, c9, h4', e4, A4, hn9, k4⟩ := app_enc uu_len uu_one app126 A3 (by rw [nx_lay]; omega) gdh (t := h.nx + 7) (c2 := 1) (m := .fix) (e2 := 130) (x := sideN cls[k]) (by rw [get_lay, if_pos rfl]) (by omega) (by unfold big; omega)
    refine ⟨a9, n9, c9, h4', e4, ?_⟩
    have ab : ∀ off, a6 ≠ some ⟨h₀.nx + 1, off, none⟩ := fun off e => by have := A.fresh e; omega
    have gb4 : h4'.get (h₀.nx + 1) = some (.cells (baseC vars a6 n6 c6 a1 n1 c1 2000 none 0 0) 128 .fix) := by
      rw [k4.get _ (by rw [nx_lay]; omega) (ab 0), K3.get _ (by omega)]; exact gb
    have gb4' : ((h4'.rst (g2.lay (h.nx + 7) (.cells (uu (sideN cls[k])) 130 .fix))).grd []).get (h₀.nx + 1) = some (.cells (baseC vars a6 n6 c6 a1 n1 c1 2000 none 0 0) 128 .fix) := gb4
    have gu : ((h4'.rst (g2.lay (h.nx + 7) (.cells (uu (sideN cls[k])) 130 .fix))).grd []).guarded (h₀.nx + 1) = false := guarded_of fun q hq => by
      have : q ∈ h₀.gd := by rw [← kp.gd, ← K3.gd]; exact hq
      have := ok.gd q this; omega
    refine vreq_t (canW_t gb4' (by decide) gu (by simp [baseC]) rfl) ?_
    rw [wrap_succ (by omega)]
    have Kf : Kp h₀.nx h₀ ((((h4'.rst (g2.lay (h.nx + 7) (.cells (uu (sideN cls[k])) 130 .fix))).grd []).wr (h₀.nx + 1) (0 + 1) [.slice a9 n9 c9]).rst (h4'.rst (g2.lay (h.nx + 7) (.cells (uu (sideN cls[k])) 130 .fix)))) := by
      have K4 : Kp h₀.nx h₀ h4' := (kp.trans (K3.le (by omega))).trans ((k4.kp A3 (by rw [nx_lay]; omega)).le (by omega))
      refine ⟨fun o ho => ?_, ?_, ?_, fun f => ?_⟩
      · rw [get_rst, wr_get_ne _ _ _ _ (by omega)]; exact K4.get o ho
      · rw [nx_rst, nx_wr]; exact K4.nx
      · rw [gd_rst, gd_rst, gd_lay]
        have := (kp.trans (K3.le (by omega : h₀.nx ≤ h.nx))).gd
        rw [gd_lay] at this; exact this
      · exact (show Hp.Fresh (((h4'.rst (g2.lay (h.nx + 7) (.cells (uu (sideN cls[k])) 130 .fix))).grd []).wr (h₀.nx + 1) (0 + 1) [.slice a9 n9 c9]) from Hp.Fresh.wr (h := (h4'.rst (g2.lay (h.nx + 7) (.cells (uu (sideN cls[k])) 130 .fix))).grd []) (K4.fr f) _ _ _)
    have hnx4 : (g2.lay (h.nx + 7) (.cells (uu (sideN cls[k])) 130 .fix)).nx ≤ h4'.nx := k4.nx
    rw [nx_lay] at hnx4
    refine ih (k + 1) (by omega) (a6 := a9) (n6 := n9) (c6 := c9) Kf (by rw [nx_rst, nx_wr, nx_grd, nx_rst]; omega) (by rw [get_rst]; exact (wr_get gb4' (by decide) gu (by simp [baseC]) rfl).trans rfl) ?_ (by omega) ..
    have e1 : cls.take (k + 1) = cls.take k ++ [cls[k]] := List.take_succ_eq_append_getElem (by omega)
    rw [e1, List.map_append]
    refine A4.keep (fun o ho e => ?_) (by rw [nx_rst, nx_wr, nx_grd, nx_rst]; omega)
    rw [get_rst, wr_get_ne _ _ _ _ (by have := A4.fresh e; omega)]; rfl
/-- The base of a formula and given literals. -/
def RBase (h : Hp) (vars : Int) (cls : List (List Int)) (a1 : Option Addr) (n1 c1 : Nat) (v : Value) (h' : Hp) : Prop :=
  ∃ b a6 n6 c6, v = .pointer (some ⟨b, 0, none⟩) ∧ h.nx ≤ b ∧ b < h'.nx ∧ h'.get b = some (.cells (baseC vars a6 n6 c6 a1 n1 c1 2000 none 0 0) 128 .fix) ∧ Acc h' (b + 1) 130 2 a6 n6 c6 ((cls.map sideN).flatMap uu) ∧ Kp h.nx h h'
theorem ct76 {a a1 : Option Addr} {n c n1 c1 : Nat} {vars : Int} {h : Hp} {cls : List (List Int)} (ok : h.Ok) (H : IntssAt h a n cls) (hl : cls.length < 10000) (hll : ∀ l ∈ cls, l.length < 1000000) (hlit : ∀ l ∈ cls, ∀ x ∈ l, Lit x) :
    Ret Tryd.prog O 76 [Fm vars a n c, .slice a1 n1 c1] h (RBase h vars cls a1 n1 c1) := by
  refine rk76 _ _ _ _ _ _ _ (hO _ _ _ (by decide)) ?_
  unfold T76
  have hn := H.1
  have kp := fm_kp h vars a n c
  have g := fm_get h vars a n c
  have g' : ((h.add (.cells [.int .i64 vars, .slice a n c] 30 .fix)).add (.cells (baseC vars none 0 0 a1 n1 c1 2000 none 0 0) 128 .fix)).get h.nx = some (.cells [.int .i64 vars, .slice a n c] 30 .fix) := by
    rw [get_add_ne (by rw [nx_add]; omega)]; exact g
  refine ⟨_, read1 g rfl, _, _, _, read1 g' rfl, ?_⟩
  have := lp76 hO ok H hl hll hlit (a1 := a1) (n1 := n1) (c1 := c1) (vars := vars) (x0 := vars) (a0 := a) (n0 := n) (c0 := c) (c := c) cls.length 0 (by omega) (h := (h.add (.cells [.int .i64 vars, .slice a n c] 30 .fix)).add (.cells (baseC vars none 0 0 a1 n1 c1 2000 none 0 0) 128 .fix)) (a6 := none) (n6 := 0) (c6 := 0) (kp.add (by rw [nx_add]; omega) _) (by rw [nx_add, nx_add]; omega) (get_add_same ..) (by simpa using Acc.nil ..) rfl
  refine RKL.mono (this ..) ?_
  rintro v h' ⟨a6, n6, c6, rfl, e1, e2, e3, e4⟩
  exact ⟨h.nx + 1, a6, n6, c6, rfl, by omega, e2, e1, e3, e4⟩
end
end Go.Proofs.YtfgfhplgnfbaaaaDoor
/- Contract of sat.Resolve. -/
namespace Go.Proofs.YtfgfhplgnfbaaaaDoor
open Go Go.Ev
/-- A list and an error. -/
def RPair (h : Hp) (r : List Int × Int) (v : Value) (h' : Hp) : Prop := ∃ a n c, v = .tuple #[.slice a n c, .int .i64 r.2] ∧ IntsAt h' a n r.1 ∧ Kp h.nx h h'
theorem RPair.none {h h' : Hp} {e : Int} (k : Kp h.nx h h') : RPair h ([], e) (.tuple #[.slice none 0 0, .int .i64 e]) h' := ⟨_, _, _, rfl, SlAt.nil .., k⟩
theorem withN_lt {y m : Nat} {x : Int} (hx : Lit x) (hy : y < 2 ^ 30) (hm : m < 2 ^ 30) : (withN y m x).1 < 2 ^ 30 ∧ (withN y m x).2 < 2 ^ 30 := by
  unfold withN
  split
  · exact ⟨Nat.or_lt_two_pow hy (bitN_lt hx), hm⟩
  · exact ⟨hy, Nat.or_lt_two_pow hm (bitN_lt hx)⟩
theorem clB_lit {vars : Int} : ∀ {xs : List Int} {last : Int}, 0 ≤ last → clB vars last xs = true → ∀ x ∈ xs, Lit x ∧ varI x ≤ vars := by
  intro xs
  induction xs with
  | nil => intro last _ _ x hx; cases hx
  | cons z zs ih =>
    intro last hl h x hx
    simp only [clB] at h
    split at h
    · cases h
    · rename_i hz
      have h0 : 0 < varI z := by omega
      rcases List.mem_cons.1 hx with rfl | hx
      · refine ⟨?_, by omega⟩
        unfold varI at h0
        unfold Lit
        split at h0
        · omega
        · split at h0 <;> omega
      · exact ih (by omega) h x hx
section
variable {O : CallF} (hO : Oth O)
include hO
end
end Go.Proofs.YtfgfhplgnfbaaaaDoor
/- Contracts of functions of layer 20: models are held against formulas, and counted. -/
namespace Go.Proofs.YtfgfhplgnfbaaaaDoor
open Go Go.Ev
theorem EInts.grd {h : Hp} {g : List Nat} {x : List Int} {vs : List Value} (H : EInts h x vs) : EInts (h.grd g) x vs :=
  let ⟨a, n, c, h1, h2⟩ := H
  ⟨a, n, c, h1, h2.keep (fun _ _ _ => rfl) (Nat.le_refl _) fun _ _ h => h⟩
theorem IntssAt.grd {h : Hp} {g : List Nat} {a : Option Addr} {n : Nat} {xs : List (List Int)} (H : IntssAt h a n xs) : IntssAt (h.grd g) a n xs := H.keep (fun _ _ _ => rfl) (Nat.le_refl _) fun _ _ h => EInts.grd h
theorem BoolsAt.get {h : Hp} {a : Option Addr} {n : Nat} {xs : List Bool} (H : BoolsAt h a n xs) {k : Nat} (hk : k < xs.length) {K : Nat → Nat → Prop}
    (hK : ∀ b off, a = some ⟨b, off, none⟩ → b < h.nx → readAt h b (off + k * 1) 1 = some [.bool xs[k]] → K b off) : isAddr a K :=
  SlAt.read H hk fun b off vs h1 h2 h3 h4 => hK b off h1 h2 (by rw [h3, show vs = _ from h4])
/-- Two masks in a list. -/
theorem Sides.get {h : Hp} {a : Option Addr} {n : Nat} {xs : List (Nat × Nat)} (H : SidesAt2 h a n xs) {k : Nat} (hk : k < xs.length) {K : Nat → Nat → Prop}
    (hK : ∀ b off, a = some ⟨b, off, none⟩ → b < h.nx → readAt h b (off + k * 2) 2 = some [U xs[k].1, U xs[k].2] → K b off) : isAddr a K :=
  SlAt.read H hk fun b off vs h1 h2 h3 h4 => hK b off h1 h2 (by rw [h3, show vs = _ from h4]; rfl)
section
variable {O : CallF} (hO : Oth O)
include hO
theorem formB_lit {vars : Int} {cls : List (List Int)} (h : formB vars cls = true) : vars ≤ 30 ∧ 0 ≤ vars ∧ cls.length ≤ 120 ∧ (∀ l ∈ cls, ∀ x ∈ l, Lit x) ∧ ∀ l ∈ cls, clB vars 0 l = true := by
  have _ := hO
  unfold formB at h
  simp only [Bool.and_eq_true, Bool.not_eq_true', decide_eq_false_iff_not, List.all_eq_true] at h
  obtain ⟨⟨⟨h1, h2⟩, h3⟩, h4⟩ := h
  exact ⟨by omega, by omega, by omega, fun l hl x hx => (clB_lit (by decide) (h4 l hl) x hx).1, h4⟩
theorem sides_lt {cls : List (List Int)} (h : ∀ l ∈ cls, ∀ x ∈ l, Lit x) : ∀ p ∈ cls.map sideN, p.1 < 2 ^ 30 ∧ p.2 < 2 ^ 30 := by
  have _ := hO
  intro p hp
  obtain ⟨l, hl, rfl⟩ := List.mem_map.1 hp
  exact sideF_lt (h l hl) (by decide) (by decide)
end
end Go.Proofs.YtfgfhplgnfbaaaaDoor
/- Contracts of functions of layer 20: how many bits; propagation by masks. -/
namespace Go.Proofs.YtfgfhplgnfbaaaaDoor
open Go Go.Ev
/-- The table of counts. -/
def popT : ByteArray := ByteArray.mk #[0, 1, 1, 2, 1, 2, 2, 3, 1, 2, 2, 3, 2, 3, 3, 4, 1, 2, 2, 3, 2, 3, 3, 4, 2, 3, 3, 4, 3, 4, 4, 5, 1, 2, 2, 3, 2, 3, 3, 4, 2, 3, 3, 4, 3, 4, 4, 5, 2, 3, 3, 4, 3, 4, 4, 5, 3, 4, 4, 5, 4, 5, 5, 6, 1, 2, 2, 3, 2, 3, 3, 4, 2, 3, 3, 4, 3, 4, 4, 5, 2, 3, 3, 4, 3, 4, 4, 5, 3, 4, 4, 5, 4, 5, 5, 6, 2, 3, 3, 4, 3, 4, 4, 5, 3, 4, 4, 5, 4, 5, 5, 6, 3, 4, 4, 5, 4, 5, 5, 6, 4, 5, 5, 6, 5, 6, 6, 7, 1, 2, 2, 3, 2, 3, 3, 4, 2, 3, 3, 4, 3, 4, 4, 5, 2, 3, 3, 4, 3, 4, 4, 5, 3, 4, 4, 5, 4, 5, 5, 6, 2, 3, 3, 4, 3, 4, 4, 5, 3, 4, 4, 5, 4, 5, 5, 6, 3, 4, 4, 5, 4, 5, 5, 6, 4, 5, 5, 6, 5, 6, 6, 7, 2, 3, 3, 4, 3, 4, 4, 5, 3, 4, 4, 5, 4, 5, 5, 6, 3, 4, 4, 5, 4, 5, 5, 6, 4, 5, 5, 6, 5, 6, 6, 7, 3, 4, 4, 5, 4, 5, 5, 6, 4, 5, 5, 6, 5, 6, 6, 7, 4, 5, 5, 6, 5, 6, 6, 7, 5, 6, 6, 7, 6, 7, 7, 8]
def pt (k : Nat) : Nat := (byteI popT k).toNat
theorem pt_byte : ∀ k, k < 256 → byteI popT k = Int.ofNat (pt k) ∧ pt k ≤ 8 ∧ (pt k = 0 → k = 0) ∧ (pt k = 1 → k = 1 ∨ k = 2 ∨ k = 4 ∨ k = 8 ∨ k = 16 ∨ k = 32 ∨ k = 64 ∨ k = 128) := by decide +kernel
theorem pt_zero : pt 0 = 0 := by decide +kernel
/-- How many bits a number has. -/
def popN (x : Nat) : Nat := pt (x / 16777216) + pt (x / 65536 % 256) + pt (x / 256 % 256) + pt (x % 256)
theorem fdiv_nat (x n : Nat) : Int.fdiv (Int.ofNat x) (Int.ofNat n) = Int.ofNat (x / n) := by
  have := Int.fdiv_eq_ediv_of_nonneg (Int.ofNat x) (Int.natCast_nonneg n)
  exact this.trans rfl
theorem shr_nat (x : Nat) : shrF .u32 (Int.ofNat x) 24 = Int.ofNat (x / 16777216) ∧ shrF .u32 (Int.ofNat x) 16 = Int.ofNat (x / 65536) ∧ shrF .u32 (Int.ofNat x) 8 = Int.ofNat (x / 256) := ⟨fdiv_nat x 16777216, fdiv_nat x 65536, fdiv_nat x 256⟩
theorem land255 (x : Nat) : landI (Int.ofNat x) 255 = Int.ofNat (x % 256) := by
  show Int.ofNat (x &&& 255) = _
  rw [show x &&& 255 = x % 256 from Nat.and_two_pow_sub_one_eq_mod x 8]
theorem wrap8 {a b : Nat} (h : a + b < 256) : wrapF .u8 (Int.ofNat a + Int.ofNat b) = Int.ofNat (a + b) := by
  show Int.ofNat ((a + b) % 256) = _
  rw [Nat.mod_eq_of_lt h]
theorem popN_zero {x : Nat} (hx : x < 2 ^ 32) : popN x = 0 ↔ x = 0 := by
  unfold popN
  constructor
  · intro h
    have h1 := (pt_byte (x / 16777216) (by omega)).2.2.1 (by omega)
    have h2 := (pt_byte (x / 65536 % 256) (by omega)).2.2.1 (by omega)
    have h3 := (pt_byte (x / 256 % 256) (by omega)).2.2.1 (by omega)
    have h4 := (pt_byte (x % 256) (by omega)).2.2.1 (by omega)
    omega
  · rintro rfl; simp [pt_zero]
theorem popN_one {x : Nat} (hx : x < 2 ^ 32) : popN x = 1 ↔ ∃ i, i < 32 ∧ x = 2 ^ i := by
  constructor
  · unfold popN
    intro h
    obtain ⟨_, _, a1, b1⟩ := pt_byte (x / 16777216) (by omega)
    obtain ⟨_, _, a2, b2⟩ := pt_byte (x / 65536 % 256) (by omega)
    obtain ⟨_, _, a3, b3⟩ := pt_byte (x / 256 % 256) (by omega)
    obtain ⟨_, _, a4, b4⟩ := pt_byte (x % 256) (by omega)
    have pw : ∀ (k s : Nat), (k = 1 ∨ k = 2 ∨ k = 4 ∨ k = 8 ∨ k = 16 ∨ k = 32 ∨ k = 64 ∨ k = 128) → ∃ i, i < 8 ∧ k * 2 ^ s = 2 ^ (i + s) := by
      intro k s hk
      rcases hk with rfl | rfl | rfl | rfl | rfl | rfl | rfl | rfl
      · exact ⟨0, by omega, by rw [Nat.pow_add]⟩
      · exact ⟨1, by omega, by rw [Nat.pow_add]⟩
      · exact ⟨2, by omega, by rw [Nat.pow_add]⟩
      · exact ⟨3, by omega, by rw [Nat.pow_add]⟩
      · exact ⟨4, by omega, by rw [Nat.pow_add]⟩
      · exact ⟨5, by omega, by rw [Nat.pow_add]⟩
      · exact ⟨6, by omega, by rw [Nat.pow_add]⟩
      · exact ⟨7, by omega, by rw [Nat.pow_add]⟩
    have cases4 : (pt (x / 16777216) = 1 ∧ pt (x / 65536 % 256) = 0 ∧ pt (x / 256 % 256) = 0 ∧ pt (x % 256) = 0) ∨ (pt (x / 16777216) = 0 ∧ pt (x / 65536 % 256) = 1 ∧ pt (x / 256 % 256) = 0 ∧ pt (x % 256) = 0) ∨ (pt (x / 16777216) = 0 ∧ pt (x / 65536 % 256) = 0 ∧ pt (x / 256 % 256) = 1 ∧ pt (x % 256) = 0) ∨ (pt (x / 16777216) = 0 ∧ pt (x / 65536 % 256) = 0 ∧ pt (x / 256 % 256) = 0 ∧ pt (x % 256) = 1) := by omega
    rcases cases4 with ⟨h1, h2, h3, h4⟩ | ⟨h1, h2, h3, h4⟩ | ⟨h1, h2, h3, h4⟩ | ⟨h1, h2, h3, h4⟩
    · obtain ⟨i, hi, e⟩ := pw _ 24 (b1 h1)
      have := a2 h2; have := a3 h3; have := a4 h4
      exact ⟨i + 24, by omega, by rw [← e]; omega⟩
    · obtain ⟨i, hi, e⟩ := pw _ 16 (b2 h2)
      have := a1 h1; have := a3 h3; have := a4 h4
      exact ⟨i + 16, by omega, by rw [← e]; omega⟩
    · obtain ⟨i, hi, e⟩ := pw _ 8 (b3 h3)
      have := a1 h1; have := a2 h2; have := a4 h4
      exact ⟨i + 8, by omega, by rw [← e]; omega⟩
    · obtain ⟨i, hi, e⟩ := pw _ 0 (b4 h4)
      have := a1 h1; have := a2 h2; have := a3 h3
      exact ⟨i, by omega, by rw [← Nat.add_zero i, ← e]; omega⟩
  · rintro ⟨i, hi, rfl⟩
    clear hx
    revert i
    decide +kernel
section
variable {O : CallF} (hO : Oth O)
include hO
theorem ct138 {x : Nat} (hx : x < 2 ^ 32) {h : Hp} : Ret Tryd.prog O 138 [U x] h fun v h' => v = .int .i64 (Int.ofNat (popN x)) ∧ Kp h.nx h h' := by
  refine rk138 _ (hO _ _ _ (by decide)) ?_
  unfold T138
  obtain ⟨s1, s2, s3⟩ := shr_nat x
  rw [s1, s2, s3, land255, land255, land255]
  obtain ⟨p1, q1, _⟩ := pt_byte (x / 16777216) (by omega)
  obtain ⟨p2, q2, _⟩ := pt_byte (x / 65536 % 256) (by omega)
  obtain ⟨p3, q3, _⟩ := pt_byte (x / 256 % 256) (by omega)
  obtain ⟨p4, q4, _⟩ := pt_byte (x % 256) (by omega)
  refine isNat_of (vreq_t (blt_t (by omega)) (vreq_t (inD_of (by omega)) (isNat_of (vreq_t (blt_t (by omega)) (vreq_t (inD_of (by omega)) (isNat_of (vreq_t (blt_t (by omega)) (vreq_t (inD_of (by omega)) (isNat_of (vreq_t (blt_t (by omega)) ⟨?_, (Kp.refl _ h).rsv 19⟩))))))))))
  show Value.int .i64 (wrapF .i64 (wrapF .u8 (wrapF .u8 (wrapF .u8 (byteI popT (x / 16777216) + byteI popT (x / 65536 % 256)) + byteI popT (x / 256 % 256)) + byteI popT (x % 256)))) = _
  rw [p1, p2, p3, p4, wrap8 (by omega), wrap8 (by omega), wrap8 (by omega), wrap64 (by simp only [Int.ofNat_eq_natCast]; omega) (by simp only [Int.ofNat_eq_natCast]; omega)]
  rfl
/-! ### spread -/
omit hO in
/-- The first clause that is not true, and clashes, or has one open literal: none: there is none; none in it: it clashes; else the masks with the literal. -/
def stepS (y m : Nat) : List (Nat × Nat) → Option (Option (Nat × Nat))
  | [] => none
  | c :: cs => if (c.1 &&& y) ||| (c.2 &&& m) = 0 then
      (if popN ((c.1 - (c.1 &&& m)) ||| (c.2 - (c.2 &&& y))) = 0 then some none
      else if popN ((c.1 - (c.1 &&& m)) ||| (c.2 - (c.2 &&& y))) = 1 then some (some (y ||| (c.1 - (c.1 &&& m)), m ||| (c.2 - (c.2 &&& y))))
      else stepS y m cs) else stepS y m cs
/-- Clauses propagate, so many times at most. -/
def spreadF (ss : List (Nat × Nat)) : Nat → Nat → Nat → (Nat × Nat) × Bool
  | 0, y, m => ((y, m), true)
  | d + 1, y, m => match stepS y m ss with
    | none => ((y, m), true)
    | some none => ((y, m), false)
    | some (some p) => spreadF ss d p.1 p.2
structure InvS (h₀ : Hp) (b3 b4 : Nat) (y m : Nat) (h : Hp) : Prop where
  kp : Kp h₀.nx h₀ h
  l3 : b3 < h.nx
  l4 : b4 < h.nx
  g3 : h.get b3 = some (.cells [U y, U m] 102 .fix)
  g4 : h.get b4 = some (.cells [U 0, U 0] 102 .fix)
omit hO in
theorem InvS.of {h₀ : Hp} {b3 b4 y m : Nat} {h h' : Hp} (I : InvS h₀ b3 b4 y m h) (k : Kp h.nx h h') : InvS h₀ b3 b4 y m h' :=
  ⟨I.kp.trans (k.le I.kp.nx), Nat.lt_of_lt_of_le I.l3 k.nx, Nat.lt_of_lt_of_le I.l4 k.nx, by rw [k.get _ I.l3]; exact I.g3, by rw [k.get _ I.l4]; exact I.g4⟩
theorem lp119_1 {b : Nat} {x1 x2 : Int} {h₀ : Hp} (ok : h₀.Ok) {a : Option Addr} {n c : Nat} {ss : List (Nat × Nat)} (H : SidesAt2 h₀ a n ss) (hl : ss.length < 1000000) (hss : ∀ p ∈ ss, p.1 < 2 ^ 30 ∧ p.2 < 2 ^ 30) {b3 b4 : Nat} (hb3 : h₀.nx ≤ b3) (hb4 : h₀.nx ≤ b4) (h34 : b3 ≠ b4) {y m : Nat} (hy : y < 2 ^ 30) (hm : m < 2 ^ 30) {r : (Nat × Nat) × Bool}
    (r0 : stepS y m ss = none → r = ((y, m), true)) (r1 : stepS y m ss = some none → r = ((y, m), false))
    (r2 : ∀ p, stepS y m ss = some (some p) → ∀ h, InvS h₀ b3 b4 p.1 p.2 h → I119_0 O (fun v h' => v = .tuple #[.agg #[U r.1.1, U r.1.2], .bool r.2] ∧ Kp h₀.nx h₀ h') b 0 x1 x2 b3 0 b4 0 false h) :
    ∀ (d k : Nat), k + d = ss.length → stepS y m (ss.drop k) = stepS y m ss → ∀ {h : Hp}, InvS h₀ b3 b4 y m h →
      I119_1 O (fun v h' => v = .tuple #[.agg #[U r.1.1, U r.1.2], .bool r.2] ∧ Kp h₀.nx h₀ h') b 0 x1 x2 b3 0 b4 0 false a n c (Int.ofNat n) (Int.ofNat k) h := by
  have hn := H.1
  have gfree : ∀ {h : Hp}, Kp h₀.nx h₀ h → ∀ o, h₀.nx ≤ o → h.guarded o = false := fun k o ho => guarded_of fun q hq => by
    rw [k.gd] at hq
    have := ok.gd q hq; omega
  have fin : ∀ {h : Hp}, InvS h₀ b3 b4 y m h → (canW h b4 0 [U y, U m] = true) ∧ (h.wr b4 0 [U y, U m]).get b4 = some (.cells [U y, U m] 102 .fix) ∧ Kp h₀.nx h₀ (h.wr b4 0 [U y, U m]) := fun I =>
    ⟨canW_t I.g4 (by decide) (gfree I.kp _ hb4) (by simp) rfl, wr_get I.g4 (by decide) (gfree I.kp _ hb4) (by simp) rfl, I.kp.wr hb4 _ _⟩
  intro d
  induction d with
  | zero =>
    intro k hk hs h I
    refine I119_1.of _ _ _ _ _ _ _ _ _ _ _ _ _ _ ?_
    intros
    unfold T119_1
    rw [List.drop_of_length_le (by omega)] at hs
    obtain rfl := r0 (by rw [← hs]; rfl)
    obtain ⟨f1, f2, f3⟩ := fin I
    exact vcond_f (by rw [ltI_nat]; exact blt_f (by omega)) ⟨_, _, readAt_get I.g3 (by simp), vreq_t f1 ⟨_, _, readAt_get f2 (by simp), rfl, f3⟩⟩
  | succ d ih =>
    intro k hk hs h I
    refine I119_1.of _ _ _ _ _ _ _ _ _ _ _ _ _ _ ?_
    intros
    unfold T119_1
    have H1 : SidesAt2 h a n ss := H.up (ECells.up uu) I.kp
    have hp := hss ss[k] (List.getElem_mem _)
    have e1 : ss.drop k = ss[k] :: ss.drop (k + 1) := List.drop_eq_getElem_cons (by omega)
    rw [e1] at hs
    simp only [stepS] at hs
    have okh := ok.kp I.kp
    have gn : (h.add (.cells [(.int .u32 0), (.int .u32 0)] 130 .fix)).get h.nx = _ := get_add_same ..
    have gu : (h.add (.cells [(.int .u32 0), (.int .u32 0)] 130 .fix)).guarded h.nx = false := guarded_of fun q hq => by have := okh.gd q hq; omega
    refine vcond_t (by rw [ltI_nat]; exact blt_t (by omega)) (isNat_of (Sides.get H1 (k := k) (by omega) fun b' off h1 h2 hrd => vreq_t (blt_t (by omega)) ⟨_, _, hrd, vreq_t (canW_t gn (by decide) gu (by simp) rfl) ?_⟩))
    have gw := wr_get gn (by decide) gu (off := 0) (vs := [U ss[k].1, U ss[k].2]) (by simp) rfl
    have kw : Kp h.nx h ((h.add (.cells [(.int .u32 0), (.int .u32 0)] 130 .fix)).wr h.nx 0 [U ss[k].1, U ss[k].2]) := ((Kp.refl _ h).add (Nat.le_refl _) _).wr (Nat.le_refl _) _ _
    have gw : ((h.add (.cells [(.int .u32 0), (.int .u32 0)] 130 .fix)).wr h.nx 0 [U ss[k].1, U ss[k].2]).get h.nx = some (.cells [U ss[k].1, U ss[k].2] 130 .fix) := gw
    have nw : h.nx < ((h.add (.cells [(.int .u32 0), (.int .u32 0)] 130 .fix)).wr h.nx 0 [U ss[k].1, U ss[k].2]).nx := by rw [nx_wr, nx_add]; omega
    generalize ss[k] = cc at hp hs gw kw nw ⊢
    generalize (h.add (.cells [(.int .u32 0), (.int .u32 0)] 130 .fix)).wr h.nx 0 [U cc.1, U cc.2] = hw at gw kw nw ⊢
    have Iw := I.of kw
    have I12 := I.of (kw.rsv 12)
    have g12 : (hw.rsv 12).get h.nx = some (.cells [U cc.1, U cc.2] 130 .fix) := gw
    have l1 : cc.1 &&& y ≤ cc.1 := Nat.and_le_left
    have l2 : cc.2 &&& m ≤ cc.2 := Nat.and_le_left
    have l3 : cc.1 - (cc.1 &&& m) ≤ cc.1 := Nat.sub_le _ _
    have l4 : cc.2 - (cc.2 &&& y) ≤ cc.2 := Nat.sub_le _ _
    refine ⟨_, read1 gw (i := 0) rfl, _, read1 Iw.g3 (i := 0 + 0) rfl, vreq_t (inD_of (by omega)) (vreq_t (inD_of (by omega)) ⟨_, read1 gw (i := 1) rfl, _, read1 Iw.g3 (i := 0 + 1) rfl, vreq_t (inD_of (by omega)) (vreq_t (inD_of (by omega)) (vreq_t (by rw [land_nat]; exact inD_of (by omega)) (vreq_t (by rw [land_nat]; exact inD_of (by omega)) ?_)))⟩)⟩
    rw [land_nat, land_nat, lor_nat, wrap_succ (by omega)]
    refine vcond_split (fun h3 => ?_) fun h3 => ?_
    · have h3 : ¬ ((cc.1 &&& y) ||| (cc.2 &&& m) = 0) := fun hh => by rw [hh] at h3; exact absurd h3 (by decide)
      rw [if_neg h3] at hs
      exact ih (k + 1) (by omega) hs Iw ..
    have h3 : (cc.1 &&& y) ||| (cc.2 &&& m) = 0 := by
      have h3 : eqI (Int.ofNat ((cc.1 &&& y) ||| (cc.2 &&& m))) 0 = true := by simpa using h3
      exact Int.ofNat.inj (eq_of_t h3)
    rw [if_pos h3] at hs
    refine ⟨_, read1 g12 (i := 0) rfl, _, read1 I12.g3 (i := 0 + 1) rfl, vreq_t (inD_of (by omega)) (vreq_t (inD_of (by omega)) ⟨_, read1 g12 (i := 1) rfl, _, read1 I12.g3 (i := 0 + 0) rfl, vreq_t (inD_of (by omega)) (vreq_t (inD_of (by omega)) (vreq_t (by rw [andn_nat]; exact inD_of (by omega)) (vreq_t (by rw [andn_nat]; exact inD_of (by omega)) ?_)))⟩)⟩
    rw [andn_nat, andn_nat, lor_nat]
    have hz : (cc.1 - (cc.1 &&& m)) ||| (cc.2 - (cc.2 &&& y)) < 2 ^ 30 := Nat.or_lt_two_pow (by omega) (by omega)
    obtain ⟨v, h5, e5, rfl, K5⟩ := ct138 hO (x := (cc.1 - (cc.1 &&& m)) ||| (cc.2 - (cc.2 &&& y))) (by omega) (h := hw.rsv 12)
    have I5 := I12.of K5
    refine ⟨_, _, e5, vcond_split (fun h6 => ?_) fun h6 => ?_⟩
    · have h6 : popN ((cc.1 - (cc.1 &&& m)) ||| (cc.2 - (cc.2 &&& y))) = 0 := Int.ofNat.inj (eq_of_t h6)
      rw [if_pos h6] at hs
      obtain rfl := r1 hs.symm
      obtain ⟨f1, f2, f3⟩ := fin I5
      exact ⟨_, _, readAt_get I5.g3 (by simp), vreq_t f1 ⟨_, _, readAt_get f2 (by simp), rfl, f3⟩⟩
    have h6 : ¬ popN ((cc.1 - (cc.1 &&& m)) ||| (cc.2 - (cc.2 &&& y))) = 0 := fun hh => ne_of_f h6 (by rw [hh]; rfl)
    rw [if_neg h6] at hs
    refine vcond_split (fun h7 => ?_) fun h7 => ?_
    · have h7 : popN ((cc.1 - (cc.1 &&& m)) ||| (cc.2 - (cc.2 &&& y))) = 1 := Int.ofNat.inj (eq_of_t h7)
      rw [if_pos h7] at hs
      have gu5 := gfree I5.kp b3 hb3
      have c1 := canW_t I5.g3 (by decide) gu5 (off := 0 + 0) (vs := [U (y ||| (cc.1 - (cc.1 &&& m)))]) (by simp) rfl
      have w1 := wr_get I5.g3 (by decide) gu5 (off := 0 + 0) (vs := [U (y ||| (cc.1 - (cc.1 &&& m)))]) (by simp) rfl
      have k6 := I5.kp.wr hb3 (0 + 0) [U (y ||| (cc.1 - (cc.1 &&& m)))]
      have w1 : (h5.wr b3 (0 + 0) [U (y ||| (cc.1 - (cc.1 &&& m)))]).get b3 = some (.cells [U (y ||| (cc.1 - (cc.1 &&& m))), U m] 102 .fix) := w1
      have gu6 := gfree k6 b3 hb3
      have c2 := canW_t w1 (by decide) gu6 (off := 0 + 1) (vs := [U (m ||| (cc.2 - (cc.2 &&& y)))]) (by simp) rfl
      have w2 := wr_get w1 (by decide) gu6 (off := 0 + 1) (vs := [U (m ||| (cc.2 - (cc.2 &&& y)))]) (by simp) rfl
      refine ⟨_, read1 I5.g3 (i := 0 + 0) rfl, vreq_t (inD_of (by omega)) (vreq_t (inD_of (by omega)) (vreq_t (by rw [lor_nat]; exact c1) ?_))⟩
      rw [lor_nat]
      refine ⟨_, read1 w1 (i := 0 + 1) rfl, vreq_t (inD_of (by omega)) (vreq_t (inD_of (by omega)) (vreq_t (by rw [lor_nat]; exact c2) ?_))⟩
      rw [lor_nat]
      exact r2 _ hs.symm _ ⟨k6.wr hb3 _ _, by rw [nx_wr, nx_wr]; exact I5.l3, by rw [nx_wr, nx_wr]; exact I5.l4, w2, by rw [wr_get_ne _ _ _ _ (Ne.symm h34), wr_get_ne _ _ _ _ (Ne.symm h34)]; exact I5.g4⟩ ..
    · have h7 : ¬ popN ((cc.1 - (cc.1 &&& m)) ||| (cc.2 - (cc.2 &&& y))) = 1 := fun hh => ne_of_f h7 (by rw [hh]; rfl)
      rw [if_neg h7] at hs
      exact ih (k + 1) (by omega) hs I5 ..
end
end Go.Proofs.YtfgfhplgnfbaaaaDoor
/- Contracts of functions of layer 20: models are counted, by masks. -/
namespace Go.Proofs.YtfgfhplgnfbaaaaDoor
open Go Go.Ev
section
variable {O : CallF} (hO : Oth O)
include hO
end
end Go.Proofs.YtfgfhplgnfbaaaaDoor
/- Contracts of functions of layer 20's reference: models are held against formulas. -/
namespace Go.Proofs.YtfgfhplgnfbaaaaDoor
open Go Go.Ev
theorem varI_lit2 {x : Int} (h : Lit x) : varI x = x.natAbs := by
  unfold varI
  rw [if_neg (by have := h.2; omega)]
  split <;> omega
/-- A literal's truth. -/
def tvR (ts : List Int) (x : Int) : Int := if x < 0 then -(ts.getD (-x).toNat 0) else ts.getD x.toNat 0
section
variable {O : CallF} (hO : Oth O)
include hO
end
end Go.Proofs.YtfgfhplgnfbaaaaDoor
/- Contracts of functions of layer 20's reference: models are counted, one by one. -/
namespace Go.Proofs.YtfgfhplgnfbaaaaDoor
open Go Go.Ev
section
variable {O : CallF} (hO : Oth O)
include hO
end
end Go.Proofs.YtfgfhplgnfbaaaaDoor
/- Contract of the reference's Resolve. -/
namespace Go.Proofs.YtfgfhplgnfbaaaaDoor
open Go Go.Ev
section
variable {O : CallF} (hO : Oth O)
include hO
end
end Go.Proofs.YtfgfhplgnfbaaaaDoor
/- The plain law: both texts resolve alike. -/
namespace Go.Proofs.YtfgfhplgnfbaaaaDoor
open Go Go.Ev
theorem clB_gt {vars : Int} : ∀ {xs : List Int} {last : Int}, clB vars last xs = true → ∀ z ∈ xs, last < varI z := by
  intro xs
  induction xs with
  | nil => intro last _ z hz; cases hz
  | cons x xs ih =>
    intro last h z hz
    simp only [clB] at h
    split at h
    · cases h
    · rename_i hx
      rcases List.mem_cons.1 hz with rfl | hz
      · omega
      · have := ih h z hz; omega
/-! ### the masks -/
theorem bitN_test {x : Int} (h : Lit x) (i : Nat) : (bitN x).testBit i = decide (x = (i + 1 : Nat) ∨ x = -(i + 1 : Nat)) := by
  unfold bitN
  rw [Nat.testBit_two_pow]
  have := h.1
  congr 1
  refine propext ⟨fun e => ?_, fun e => ?_⟩ <;> omega
theorem withN_test {y m : Nat} {x : Int} (h : Lit x) (i : Nat) : (withN y m x).1.testBit i = (y.testBit i || decide (x = (i + 1 : Nat))) ∧ (withN y m x).2.testBit i = (m.testBit i || decide (x = -(i + 1 : Nat))) := by
  have hb := bitN_test h i
  unfold withN
  split
  · rename_i hp
    refine ⟨by simp only [Nat.testBit_or, hb]; congr 2; exact propext ⟨fun e => by omega, .inl⟩, ?_⟩
    have : ¬ (x = -(i + 1 : Nat)) := by omega
    rw [decide_eq_false this, Bool.or_false]
  · rename_i hp
    refine ⟨?_, by simp only [Nat.testBit_or, hb]; congr 2; exact propext ⟨fun e => by omega, .inr⟩⟩
    have : ¬ (x = (i + 1 : Nat)) := by have := h.1; omega
    rw [decide_eq_false this, Bool.or_false]
theorem and_zero_iff (y m : Nat) : y &&& m = 0 ↔ ∀ i, ¬ (y.testBit i = true ∧ m.testBit i = true) := by
  constructor
  · intro h i ⟨a, b⟩
    have := congrArg (fun z => z.testBit i) h
    simp [Nat.testBit_and, a, b] at this
  · intro h
    refine Nat.eq_of_testBit_eq fun i => ?_
    rw [Nat.testBit_and]
    have := h i
    cases a : y.testBit i <;> cases b : m.testBit i <;> simp_all
/-! ### the reference's loop -/
end Go.Proofs.YtfgfhplgnfbaaaaDoor
/- The plain law of formulas: a model's masks and its values say the same; so do the counts. -/
namespace Go.Proofs.YtfgfhplgnfbaaaaDoor
open Go Go.Ev
theorem add_or : ∀ (n x y : Nat), x < 2 ^ n → x &&& y = 0 → x + y = x ||| y := by
  intro n
  induction n with
  | zero => intro x y hx _; have : x = 0 := by simpa using hx
            subst this; simp
  | succ n ih =>
    intro x y hx h
    have hd := ih (x / 2) (y / 2) (by rw [Nat.pow_succ] at hx; omega) (by rw [← Nat.and_div_two, h])
    have h0 := Nat.testBit_and x y 0
    rw [h, Nat.zero_testBit] at h0
    have t := Nat.testBit_or x y 0
    rw [Nat.testBit_zero, Nat.testBit_zero] at h0
    rw [Nat.testBit_zero, Nat.testBit_zero, Nat.testBit_zero] at t
    have e := Nat.or_div_two (a := x) (b := y)
    have e2 : (x ||| y) % 2 = (x % 2 + y % 2) := by
      rcases Nat.mod_two_eq_zero_or_one x with a | a <;> rcases Nat.mod_two_eq_zero_or_one y with b | b <;> rcases Nat.mod_two_eq_zero_or_one (x ||| y) with c | c <;> rw [a, b] at h0 t <;> rw [c] at t <;> simp at h0 t <;> omega
    omega
theorem testBit_andn (a b i : Nat) : (a - (a &&& b)).testBit i = (a.testBit i && !b.testBit i) := by
  have h : (a ^^^ (a &&& b)) &&& (a &&& b) = 0 := Nat.eq_of_testBit_eq fun i => by
    simp only [Nat.testBit_and, Nat.testBit_xor, Nat.zero_testBit]
    cases a.testBit i <;> cases b.testBit i <;> rfl
  have h2 := add_or _ _ _ (Nat.lt_two_pow_self) h
  have h3 : (a ^^^ (a &&& b)) ||| (a &&& b) = a := Nat.eq_of_testBit_eq fun i => by
    simp only [Nat.testBit_and, Nat.testBit_xor, Nat.testBit_or]
    cases a.testBit i <;> cases b.testBit i <;> rfl
  have h4 : a - (a &&& b) = a ^^^ (a &&& b) := by omega
  rw [h4]
  simp only [Nat.testBit_and, Nat.testBit_xor]
  cases a.testBit i <;> cases b.testBit i <;> rfl
theorem sideF_test : ∀ {L : List Int} {y m : Nat}, (∀ x ∈ L, Lit x) → ∀ i : Nat,
    (sideF L y m).1.testBit i = (y.testBit i || decide (((i + 1 : Nat) : Int) ∈ L)) ∧ (sideF L y m).2.testBit i = (m.testBit i || decide (-((i + 1 : Nat) : Int) ∈ L)) := by
  intro L
  induction L with
  | nil => intro y m _ i; simp [sideF]
  | cons x L ih =>
    intro y m hl i
    obtain ⟨h1, h2⟩ := ih (y := (withN y m x).1) (m := (withN y m x).2) (fun z hz => hl z (List.mem_cons_of_mem _ hz)) i
    obtain ⟨w1, w2⟩ := withN_test (y := y) (m := m) (hl x (List.mem_cons_self ..)) i
    simp only [sideF]
    rw [h1, h2, w1, w2, Bool.or_assoc, Bool.or_assoc]
    refine ⟨?_, ?_⟩ <;> · congr 1; simp only [List.mem_cons]; rw [← Bool.decide_or]; congr 1; refine propext (or_congr ⟨fun e => e.symm, fun e => e.symm⟩ Iff.rfl)
theorem or_zero_iff (y m : Nat) : y ||| m = 0 ↔ ∀ i, y.testBit i = false ∧ m.testBit i = false := by
  constructor
  · intro h i
    have := congrArg (fun z => z.testBit i) h
    simpa [Nat.testBit_or] using this
  · intro h
    refine Nat.eq_of_testBit_eq fun i => ?_
    obtain ⟨a, b⟩ := h i
    rw [Nat.testBit_or, a, b, Nat.zero_testBit]; rfl
section
variable {O : CallF} (hO : Oth O)
include hO
end
end Go.Proofs.YtfgfhplgnfbaaaaDoor
/- Contracts of functions of layer 20: propagation by masks, to its end; what is given, and asked. -/
namespace Go.Proofs.YtfgfhplgnfbaaaaDoor
open Go Go.Ev
/-- How many variables are open. -/
def freeN (z : Nat) : Nat := ((List.range 30).filter fun i => !z.testBit i).length
theorem freeN_le (z : Nat) : freeN z ≤ 30 := Nat.le_trans (List.length_filter_le _ _) (by simp)
theorem filter_lt {α : Type} {p q : α → Bool} {a : α} : ∀ {l : List α}, a ∈ l → p a = true → q a = false → (∀ x, q x = true → p x = true) → (l.filter q).length < (l.filter p).length := by
  intro l
  induction l with
  | nil => intro h; cases h
  | cons x l ih =>
    intro h hp hq hi
    have hle : (l.filter q).length ≤ (l.filter p).length := by
      clear ih h
      induction l with
      | nil => exact Nat.le_refl _
      | cons y l ih =>
        rw [List.filter_cons, List.filter_cons]
        cases hy : q y with
        | true => rw [hi y hy]; simpa using ih
        | false => cases p y <;> simp <;> omega
    rw [List.filter_cons, List.filter_cons]
    rcases List.mem_cons.1 h with rfl | h
    · rw [hp, hq]; simp; omega
    · have := ih h hp hq hi
      cases hy : q x with
      | true => rw [hi x hy]; simpa using this
      | false => cases p x <;> simp <;> omega
theorem freeN_lt {z i : Nat} (hi : i < 30) (h : z.testBit i = false) : freeN (z ||| 2 ^ i) < freeN z := by
  refine filter_lt (a := i) (List.mem_range.2 hi) (by rw [h]; rfl) (by rw [Nat.testBit_or, Nat.testBit_two_pow]; simp) fun x hx => ?_
  rw [Nat.testBit_or] at hx
  cases hz : z.testBit x with
  | true => rw [hz] at hx; simp at hx
  | false => rfl
theorem stepS_unit {y m : Nat} {p : Nat × Nat} (hy : y < 2 ^ 30) (hm : m < 2 ^ 30) : ∀ {ss : List (Nat × Nat)}, (∀ c ∈ ss, c.1 < 2 ^ 30 ∧ c.2 < 2 ^ 30) → stepS y m ss = some (some p) →
    ∃ c ∈ ss, (c.1 &&& y) ||| (c.2 &&& m) = 0 ∧ p = (y ||| (c.1 - (c.1 &&& m)), m ||| (c.2 - (c.2 &&& y))) ∧ ∃ i, i < 30 ∧ (c.1 - (c.1 &&& m)) ||| (c.2 - (c.2 &&& y)) = 2 ^ i := by
  intro ss
  induction ss with
  | nil => intro _ h; cases h
  | cons c ss ih =>
    intro hs h
    have hc := hs c (List.mem_cons_self ..)
    simp only [stepS] at h
    have next : stepS y m ss = some (some p) → ∃ c' ∈ c :: ss, (c'.1 &&& y) ||| (c'.2 &&& m) = 0 ∧ p = (y ||| (c'.1 - (c'.1 &&& m)), m ||| (c'.2 - (c'.2 &&& y))) ∧ ∃ i, i < 30 ∧ (c'.1 - (c'.1 &&& m)) ||| (c'.2 - (c'.2 &&& y)) = 2 ^ i := fun h => by
      obtain ⟨c', a, b⟩ := ih (fun c hc => hs c (List.mem_cons_of_mem _ hc)) h
      exact ⟨c', List.mem_cons_of_mem _ a, b⟩
    split at h
    · rename_i h0
      split at h
      · cases h
      · split at h
        · rename_i h1
          have hz : (c.1 - (c.1 &&& m)) ||| (c.2 - (c.2 &&& y)) < 2 ^ 30 := Nat.or_lt_two_pow (Nat.lt_of_le_of_lt (Nat.sub_le _ _) hc.1) (Nat.lt_of_le_of_lt (Nat.sub_le _ _) hc.2)
          obtain ⟨i, hi, e⟩ := (popN_one (Nat.lt_of_lt_of_le hz (by decide))).1 h1
          refine ⟨c, List.mem_cons_self .., h0, by injection h with h; injection h with h; exact h.symm, i, ?_, e⟩
          rw [e] at hz
          exact (Nat.pow_lt_pow_iff_right (by decide)).1 hz
        · exact next h
    · exact next h
theorem stepS_free {y m : Nat} {p : Nat × Nat} (hy : y < 2 ^ 30) (hm : m < 2 ^ 30) {ss : List (Nat × Nat)} (hs : ∀ c ∈ ss, c.1 < 2 ^ 30 ∧ c.2 < 2 ^ 30) (h : stepS y m ss = some (some p)) : freeN (p.1 ||| p.2) < freeN (y ||| m) ∧ p.1 < 2 ^ 30 ∧ p.2 < 2 ^ 30 := by
  obtain ⟨c, hc, h0, rfl, i, hi, e⟩ := stepS_unit hy hm hs h
  have hc := hs c hc
  refine ⟨?_, Nat.or_lt_two_pow hy (Nat.lt_of_le_of_lt (Nat.sub_le _ _) hc.1), Nat.or_lt_two_pow hm (Nat.lt_of_le_of_lt (Nat.sub_le _ _) hc.2)⟩
  have e2 : (y ||| (c.1 - (c.1 &&& m))) ||| (m ||| (c.2 - (c.2 &&& y))) = (y ||| m) ||| 2 ^ i := by
    rw [← e]
    refine Nat.eq_of_testBit_eq fun j => ?_
    simp only [Nat.testBit_or]
    cases y.testBit j <;> cases m.testBit j <;> cases (c.1 - (c.1 &&& m)).testBit j <;> rfl
  rw [e2]
  refine freeN_lt hi ?_
  have hb := congrArg (fun z => z.testBit i) e
  have hz := (or_zero_iff _ _).1 h0 i
  simp only [Nat.testBit_or, testBit_andn, Nat.testBit_two_pow_self] at hb
  simp only [Nat.testBit_and] at hz
  rw [Nat.testBit_or]
  cases h1 : y.testBit i <;> cases h2 : m.testBit i <;> cases h3 : c.1.testBit i <;> cases h4 : c.2.testBit i <;> simp_all
section
variable {O : CallF} (hO : Oth O)
include hO
theorem lp119_0 {b : Nat} {x1 x2 : Int} {h₀ : Hp} (ok : h₀.Ok) {vars left : Int} {a a1 a2 : Option Addr} {n c n1 c1 n2 c2 : Nat} (hb : h₀.get b = some (.cells (baseC vars a n c a1 n1 c1 left a2 n2 c2) 128 .fix)) (hbn : b < h₀.nx) {ss : List (Nat × Nat)} (H : SidesAt2 h₀ a n ss) (hl : ss.length < 1000000) (hss : ∀ p ∈ ss, p.1 < 2 ^ 30 ∧ p.2 < 2 ^ 30) {b3 b4 : Nat} (hb3 : h₀.nx ≤ b3) (hb4 : h₀.nx ≤ b4) (h34 : b3 ≠ b4) {r : (Nat × Nat) × Bool} :
    ∀ (d : Nat) {y m : Nat}, y < 2 ^ 30 → m < 2 ^ 30 → freeN (y ||| m) < d → r = spreadF ss d y m → ∀ {h : Hp}, InvS h₀ b3 b4 y m h →
      I119_0 O (fun v h' => v = .tuple #[.agg #[U r.1.1, U r.1.2], .bool r.2] ∧ Kp h₀.nx h₀ h') b 0 x1 x2 b3 0 b4 0 false h := by
  intro d
  induction d with
  | zero => intro y m _ _ h; omega
  | succ d ih =>
    intro y m hy hm hd hr h I
    refine I119_0.of _ _ _ _ _ _ _ _ _ ?_
    intros
    unfold T119_0
    refine ⟨_, _, _, read1 (by rw [I.kp.get _ hbn]; exact hb) (i := 0 + 1) rfl, ?_⟩
    simp only [spreadF] at hr
    refine lp119_1 hO ok H hl hss hb3 hb4 h34 hy hm (fun h0 => by rw [h0] at hr; exact hr) (fun h1 => by rw [h1] at hr; exact hr) (fun p h2 h' I' => ?_) ss.length 0 (by omega) rfl I ..
    rw [h2] at hr
    obtain ⟨f1, f2, f3⟩ := stepS_free hy hm hss h2
    exact ih f2 f3 (by omega) hr I'
theorem ct119 {b : Nat} {h : Hp} (ok : h.Ok) {vars left : Int} {a a1 a2 : Option Addr} {n c n1 c1 n2 c2 : Nat} (hb : h.get b = some (.cells (baseC vars a n c a1 n1 c1 left a2 n2 c2) 128 .fix)) (hbn : b < h.nx) {ss : List (Nat × Nat)} (H : SidesAt2 h a n ss) (hl : ss.length < 1000000) (hss : ∀ p ∈ ss, p.1 < 2 ^ 30 ∧ p.2 < 2 ^ 30) {y m : Nat} (hy : y < 2 ^ 30) (hm : m < 2 ^ 30) :
    Ret Tryd.prog O 119 [.pointer (some ⟨b, 0, none⟩), .agg #[U y, U m]] h fun v h' => v = .tuple #[.agg #[U (spreadF ss 31 y m).1.1, U (spreadF ss 31 y m).1.2], .bool (spreadF ss 31 y m).2] ∧ Kp h.nx h h' := by
  refine rk119 _ _ _ _ (hO _ _ _ (by decide)) ?_
  unfold T119
  have hf := freeN_le (y ||| m)
  refine lp119_0 hO ok hb hbn H hl hss (Nat.le_refl _) (show h.nx ≤ h.nx + 1 by omega) (show h.nx ≠ h.nx + 1 by omega) 31 hy hm (by omega) rfl ⟨((Kp.refl _ h).add (Nat.le_refl _) _).add (by rw [nx_add]; omega) _, show h.nx < h.nx + 1 + 1 by omega, show h.nx + 1 < h.nx + 1 + 1 by omega, ?_, get_add_same ..⟩ ..
  rw [get_add_ne (by rw [nx_add]; omega), get_add_same]
/-- Literals are made true, one after the other; false: one was false. -/
def layN : List Int → Nat → Nat → (Nat × Nat) × Bool
  | [], y, m => ((y, m), true)
  | x :: xs, y, m => if (withN y m x).1 &&& (withN y m x).2 = 0 then layN xs (withN y m x).1 (withN y m x).2 else (withN y m x, false)
/-- Propagation from truths and literals. -/
def fromR (ss : List (Nat × Nat)) (xs : List Int) (y m : Nat) : (Nat × Nat) × Bool := if (layN xs y m).2 = true then spreadF ss 31 (layN xs y m).1.1 (layN xs y m).1.2 else layN xs y m
def fromN (ss : List (Nat × Nat)) (xs : List Int) : (Nat × Nat) × Bool := fromR ss xs 0 0
omit hO in
theorem fromR_cons (ss : List (Nat × Nat)) (x : Int) (xs : List Int) (y m : Nat) : fromR ss (x :: xs) y m = if (withN y m x).1 &&& (withN y m x).2 = 0 then fromR ss xs (withN y m x).1 (withN y m x).2 else (withN y m x, false) := by
  unfold fromR
  simp only [layN]
  split
  · rfl
  · rfl
/-- The inner loop: a list's literals are made true. -/
theorem lp89_1 {b : Nat} {a1 : Option Addr} {n1 c1 : Nat} {h₀ : Hp} (ok : h₀.Ok) {b4 b6 b18 : Nat} (hb4 : h₀.nx ≤ b4) (hb6 : h₀.nx ≤ b6) (hb18 : h₀.nx ≤ b18) (h46 : b4 ≠ b6) (h418 : b4 ≠ b18) (h618 : b6 ≠ b18) {cells : List Value} {x20 : Int} {ss : List (Nat × Nat)} {xs rest : List Int} (hl : xs.length < 1000000) (hx : ∀ x ∈ xs, Lit x) {r : (Nat × Nat) × Bool} {a : Option Addr} {n c : Nat} (X : IntsAt h₀ a n xs)
    (next : ∀ y m h, y < 2 ^ 30 → m < 2 ^ 30 → InvS h₀ b6 b4 y m h → b18 < h.nx → h.get b18 = some (.cells cells 32 .fix) → r = fromR ss rest y m → I89_0 O (fun v h' => v = .tuple #[.agg #[U r.1.1, U r.1.2], .bool r.2] ∧ Kp h₀.nx h₀ h') b 0 a1 n1 c1 b4 0 false b6 0 (some ⟨b18, 0, none⟩) 2 2 (wrapF .i64 (x20 + 1)) h) :
    ∀ (d k : Nat), k + d = xs.length → ∀ {y m : Nat} {h : Hp}, y < 2 ^ 30 → m < 2 ^ 30 → InvS h₀ b6 b4 y m h → b18 < h.nx → h.get b18 = some (.cells cells 32 .fix) → r = fromR ss (xs.drop k ++ rest) y m →
      I89_1 O (fun v h' => v = .tuple #[.agg #[U r.1.1, U r.1.2], .bool r.2] ∧ Kp h₀.nx h₀ h') b 0 a1 n1 c1 b4 0 false b6 0 (some ⟨b18, 0, none⟩) 2 2 x20 a n c (Int.ofNat n) (Int.ofNat k) h := by
  have hn := X.1
  intro d
  induction d with
  | zero =>
    intro k hk y m h hy hm I l18 g18 hr
    refine I89_1.of _ _ _ _ _ _ _ _ _ _ _ _ _ _ _ _ _ _ _ ?_
    intros
    unfold T89_1
    rw [List.drop_of_length_le (by omega), List.nil_append] at hr
    exact vcond_f (by rw [ltI_nat]; exact blt_f (by omega)) (next y m h hy hm I l18 g18 hr ..)
  | succ d ih =>
    intro k hk y m h hy hm I l18 g18 hr
    refine I89_1.of _ _ _ _ _ _ _ _ _ _ _ _ _ _ _ _ _ _ _ ?_
    intros
    unfold T89_1
    have X1 : IntsAt h a n xs := X.up EInt.up I.kp
    have e1 : xs.drop k = xs[k] :: xs.drop (k + 1) := List.drop_eq_getElem_cons (by omega)
    have hxk := hx xs[k] (List.getElem_mem _)
    rw [e1, List.cons_append, fromR_cons] at hr
    refine vcond_t (by rw [ltI_nat]; exact blt_t (by omega)) (isNat_of (X1.get (k := k) (by omega) fun b' off h1 h2 hrd => vreq_t (blt_t (by omega)) ⟨_, hrd, ?_⟩))
    obtain ⟨w1, w2⟩ := withN_lt hxk hy hm
    obtain ⟨v, h5, e5, rfl, K5⟩ := ct104 hO hxk hy hm (ok.kp I.kp)
    have I5 := I.of K5
    have ok5 := ok.kp I5.kp
    have gn : (h5.add (.cells [(.int .u32 0), (.int .u32 0)] 102 .fix)).get h5.nx = _ := get_add_same ..
    have gu : (h5.add (.cells [(.int .u32 0), (.int .u32 0)] 102 .fix)).guarded h5.nx = false := guarded_of fun q hq => by have := ok5.gd q hq; omega
    refine ⟨_, _, readAt_get I.g3 (by simp), _, _, _, _, e5, vreq_t (canW_t gn (by decide) gu (by simp) rfl) ?_⟩
    have gw : ((h5.add (.cells [(.int .u32 0), (.int .u32 0)] 102 .fix)).wr h5.nx 0 [U (withN y m xs[k]).1, U (withN y m xs[k]).2]).get h5.nx = some (.cells [U (withN y m xs[k]).1, U (withN y m xs[k]).2] 102 .fix) := wr_get gn (by decide) gu (by simp) rfl
    have kw : Kp h5.nx h5 ((h5.add (.cells [(.int .u32 0), (.int .u32 0)] 102 .fix)).wr h5.nx 0 [U (withN y m xs[k]).1, U (withN y m xs[k]).2]) := ((Kp.refl _ h5).add (Nat.le_refl _) _).wr (Nat.le_refl _) _ _
    have kk := K5.trans (kw.le K5.nx)
    generalize (h5.add (.cells [(.int .u32 0), (.int .u32 0)] 102 .fix)).wr h5.nx 0 [U (withN y m xs[k]).1, U (withN y m xs[k]).2] = hw at gw kw kk ⊢
    have Iw := I.of kk
    have g18w : hw.get b18 = some (.cells cells 32 .fix) := by rw [kk.get _ l18]; exact g18
    have l18w : b18 < hw.nx := Nat.lt_of_lt_of_le l18 kk.nx
    have gfree : ∀ o, h₀.nx ≤ o → hw.guarded o = false := fun o ho => guarded_of fun q hq => by
      rw [Iw.kp.gd] at hq
      have := ok.gd q hq; omega
    refine vcond_split (fun h3 => ?_) fun h3 => ?_
    · have h3 : ¬ ((withN y m xs[k]).1 &&& (withN y m xs[k]).2 = 0) := by simpa using h3
      rw [if_neg h3] at hr
      subst hr
      refine ⟨_, _, readAt_get gw (by simp), vreq_t (canW_t Iw.g4 (by decide) (gfree _ hb4) (by simp) rfl) ⟨_, _, readAt_get (wr_get Iw.g4 (by decide) (gfree _ hb4) (by simp) rfl) (by simp [putAt]), ?_, Iw.kp.wr hb4 _ _⟩⟩
      rfl
    · have h3 : (withN y m xs[k]).1 &&& (withN y m xs[k]).2 = 0 := by simpa using h3
      rw [if_pos h3] at hr
      refine ⟨_, _, readAt_get gw (by simp), vreq_t (canW_t Iw.g3 (by decide) (gfree _ hb6) (by simp) rfl) ?_⟩
      rw [wrap_succ (by omega)]
      have w3 := wr_get Iw.g3 (by decide) (gfree _ hb6) (off := 0) (vs := [U (withN y m xs[k]).1, U (withN y m xs[k]).2]) (by simp) rfl
      exact ih (k + 1) (by omega) w1 w2 ⟨Iw.kp.wr hb6 _ _, by rw [nx_wr]; exact Iw.l3, by rw [nx_wr]; exact Iw.l4, w3, by rw [wr_get_ne _ _ _ _ h46]; exact Iw.g4⟩ (by rw [nx_wr]; exact l18w) (by rw [wr_get_ne _ _ _ _ (Ne.symm h618)]; exact g18w) hr ..
theorem ct89 {b : Nat} {h : Hp} (ok : h.Ok) {vars left : Int} {a a1 a2 : Option Addr} {n c n1 c1 n2 c2 : Nat} (hb : h.get b = some (.cells (baseC vars a n c a1 n1 c1 left a2 n2 c2) 128 .fix)) (hbn : b < h.nx) {ss : List (Nat × Nat)} (H : SidesAt2 h a n ss) (hl : ss.length < 1000000) (hss : ∀ p ∈ ss, p.1 < 2 ^ 30 ∧ p.2 < 2 ^ 30)
    {gs xs : List Int} (G : IntsAt h a1 n1 gs) (hgl : gs.length < 1000000) (hg : ∀ x ∈ gs, Lit x) {am : Option Addr} {nm cm : Nat} (X : IntsAt h am nm xs) (hxl : xs.length < 1000000) (hx : ∀ x ∈ xs, Lit x) :
    Ret Tryd.prog O 89 [.pointer (some ⟨b, 0, none⟩), .slice am nm cm] h fun v h' => v = .tuple #[.agg #[U (fromN ss (gs ++ xs)).1.1, U (fromN ss (gs ++ xs)).1.2], .bool (fromN ss (gs ++ xs)).2] ∧ Kp h.nx h h' := by
  refine rk89 _ _ _ _ _ (hO _ _ _ (by decide)) ?_
  unfold T89
  have k2 : Kp h.nx h ((h.add (.cells [(.int .u32 0), (.int .u32 0)] 102 .fix)).add (.cells [(.int .u32 0), (.int .u32 0)] 102 .fix)) := ((Kp.refl _ h).add (Nat.le_refl _) _).add (by rw [nx_add]; omega) _
  refine ⟨_, _, _, read1 (by rw [k2.get _ hbn]; exact hb) (i := 0 + 2) rfl, ?_⟩
  -- the end
  have fin : ∀ y m h', y < 2 ^ 30 → m < 2 ^ 30 → InvS h (h.nx + 1) h.nx y m h' → fromN ss (gs ++ xs) = fromR ss [] y m → I89_0 O (fun v h' => v = .tuple #[.agg #[U (fromN ss (gs ++ xs)).1.1, U (fromN ss (gs ++ xs)).1.2], .bool (fromN ss (gs ++ xs)).2] ∧ Kp h.nx h h') b 0 am nm cm h.nx 0 false (h.nx + 1) 0 (some ⟨h.nx + 2, 0, none⟩) 2 2 2 h' := by
    intro y m h' hy hm I hr
    refine I89_0.of _ _ _ _ _ _ _ _ _ _ _ _ _ _ ?_
    intros
    unfold T89_0
    have hr : fromN ss (gs ++ xs) = spreadF ss 31 y m := hr
    obtain ⟨v, h5, e5, rfl, K5⟩ := ct119 hO (ok.kp I.kp) (show h'.get b = _ by rw [I.kp.get _ hbn]; exact hb) (Nat.lt_of_lt_of_le hbn I.kp.nx) (H.up (ECells.up uu) I.kp) hl hss hy hm
    have I5 := I.of K5
    have gu : h5.guarded h.nx = false := guarded_of fun q hq => by
      rw [I5.kp.gd] at hq
      have := ok.gd q hq; omega
    refine vcond_f rfl ⟨_, _, readAt_get I.g3 (by simp), _, _, _, _, e5, vreq_t (canW_t I5.g4 (by decide) gu (by simp) rfl) ⟨_, _, readAt_get (wr_get I5.g4 (by decide) gu (by simp) rfl) (by simp [putAt]), ?_, I5.kp.wr (Nat.le_refl _) _ _⟩⟩
    rw [hr]
  -- what is asked
  have more : ∀ y m h', y < 2 ^ 30 → m < 2 ^ 30 → InvS h (h.nx + 1) h.nx y m h' → h.nx + 2 < h'.nx → h'.get (h.nx + 2) = some (.cells [.slice a1 n1 c1, .slice am nm cm] 32 .fix) → fromN ss (gs ++ xs) = fromR ss xs y m → I89_0 O (fun v h' => v = .tuple #[.agg #[U (fromN ss (gs ++ xs)).1.1, U (fromN ss (gs ++ xs)).1.2], .bool (fromN ss (gs ++ xs)).2] ∧ Kp h.nx h h') b 0 am nm cm h.nx 0 false (h.nx + 1) 0 (some ⟨h.nx + 2, 0, none⟩) 2 2 1 h' := by
    intro y m h' hy hm I l18 g18 hr
    refine I89_0.of _ _ _ _ _ _ _ _ _ _ _ _ _ _ ?_
    intros
    unfold T89_0
    refine vcond_t rfl (isNat_of (n := 1) (show vreq (Nat.blt 1 2) _ from vreq_t rfl ⟨_, _, _, read1 g18 (i := 0 + 1 * 1) rfl, ?_⟩))
    exact lp89_1 hO ok (Nat.le_refl _) (by omega) (by omega) (by omega) (by omega) (by omega) (rest := []) hxl hx X (fun y m h' hy hm I _ _ hr => fin y m h' hy hm I hr) xs.length 0 (by omega) hy hm I l18 g18 (by rw [List.drop_zero, List.append_nil]; exact hr) ..
  have I0 : InvS h (h.nx + 1) h.nx 0 0 (((h.add (.cells [(.int .u32 0), (.int .u32 0)] 102 .fix)).add (.cells [(.int .u32 0), (.int .u32 0)] 102 .fix)).add (.cells [.slice a1 n1 c1, .slice am nm cm] 32 .fix)) :=
    ⟨k2.add k2.nx _, show h.nx + 1 < h.nx + 1 + 1 + 1 by omega, show h.nx < h.nx + 1 + 1 + 1 by omega, by rw [get_add_ne (show h.nx + 1 ≠ h.nx + 1 + 1 by omega)]; exact get_add_same .., by rw [get_add_ne (show h.nx ≠ h.nx + 1 + 1 by omega), get_add_ne (show h.nx ≠ h.nx + 1 by omega)]; exact get_add_same ..⟩
  have g18 : (((h.add (.cells [(.int .u32 0), (.int .u32 0)] 102 .fix)).add (.cells [(.int .u32 0), (.int .u32 0)] 102 .fix)).add (.cells [.slice a1 n1 c1, .slice am nm cm] 32 .fix)).get (h.nx + 2) = some (.cells [.slice a1 n1 c1, .slice am nm cm] 32 .fix) := get_add_same ..
  refine I89_0.of _ _ _ _ _ _ _ _ _ _ _ _ _ _ ?_ ..
  intros
  unfold T89_0
  refine vcond_t rfl (isNat_of (n := 0) (show vreq (Nat.blt 0 2) _ from vreq_t rfl ⟨_, _, _, read1 g18 (i := 0 + 0 * 1) rfl, ?_⟩))
  exact lp89_1 hO ok (Nat.le_refl _) (by omega) (by omega) (by omega) (by omega) (by omega) (rest := xs) hgl hg G (fun y m h' hy hm I l g hr => more y m h' hy hm I l g hr) gs.length 0 (by omega) (y := 0) (m := 0) (by decide) (by decide) I0 (show h.nx + 2 < h.nx + 1 + 1 + 1 by omega) g18 rfl ..
/-- Does propagation clash? -/
theorem ct95 {b : Nat} {h : Hp} (ok : h.Ok) {vars left : Int} {a a1 a2 : Option Addr} {n c n1 c1 n2 c2 : Nat} (hb : h.get b = some (.cells (baseC vars a n c a1 n1 c1 left a2 n2 c2) 128 .fix)) (hbn : b < h.nx) {ss : List (Nat × Nat)} (H : SidesAt2 h a n ss) (hl : ss.length < 1000000) (hss : ∀ p ∈ ss, p.1 < 2 ^ 30 ∧ p.2 < 2 ^ 30)
    {gs xs : List Int} (G : IntsAt h a1 n1 gs) (hgl : gs.length < 1000000) (hg : ∀ x ∈ gs, Lit x) {am : Option Addr} {nm cm : Nat} (X : IntsAt h am nm xs) (hxl : xs.length < 1000000) (hx : ∀ x ∈ xs, Lit x) :
    Ret Tryd.prog O 95 [.pointer (some ⟨b, 0, none⟩), .slice am nm cm] h fun v h' => v = .bool (!(fromN ss (gs ++ xs)).2) ∧ Kp h.nx h h' := by
  refine rk95 _ _ _ _ _ (hO _ _ _ (by decide)) ?_
  unfold T95
  obtain ⟨v, h5, e5, rfl, K5⟩ := ct89 hO ok hb hbn H hl hss G hgl hg X hxl hx (cm := cm)
  have ok5 := ok.kp K5
  have gn : (h5.add (.cells [(.int .u32 0), (.int .u32 0)] 102 .fix)).get h5.nx = _ := get_add_same ..
  have gu : (h5.add (.cells [(.int .u32 0), (.int .u32 0)] 102 .fix)).guarded h5.nx = false := guarded_of fun q hq => by have := ok5.gd q hq; omega
  exact ⟨_, _, _, _, e5, vreq_t (canW_t gn (by decide) gu (by simp) rfl) ⟨rfl, (K5.add K5.nx _).wr K5.nx _ _⟩⟩
/-- Are a formula, and literals, as they should be? -/
def askB (vars : Int) (cls : List (List Int)) (gs : List Int) : Bool := formB vars cls && clB vars 0 gs
theorem ct78 {a a1 : Option Addr} {n c n1 c1 : Nat} {vars : Int} {h : Hp} {cls : List (List Int)} {gs : List Int} (H : IntssAt h a n cls) (hl : cls.length < 1000000) (hll : ∀ l ∈ cls, l.length < 1000000) (G : IntsAt h a1 n1 gs) (hgl : gs.length < 1000000) :
    Ret Tryd.prog O 78 [Fm vars a n c, .slice a1 n1 c1] h fun v h' => v = .int .i64 (if askB vars cls gs = true then 0 else 2) ∧ Kp h.nx h h' := by
  refine rk78 _ _ _ _ _ _ _ (hO _ _ _ (by decide)) ?_
  unfold T78
  have kp := fm_kp h vars a n c
  have g := fm_get h vars a n c
  obtain ⟨v1, h1, e1, rfl, K1⟩ := ct31 hO (c := c) (vars := vars) (H.up EInts.up kp) hl hll
  have k1 : Kp h.nx h h1 := kp.trans (K1.le kp.nx)
  have g1 : h1.get h.nx = some (.cells [.int .i64 vars, .slice a n c] 30 .fix) := by rw [K1.get _ (by rw [nx_add]; omega)]; exact g
  refine ⟨_, _, _, _, readAt_get g (by simp), _, _, e1, vcond_split (fun h2 => ?_) fun h2 => ?_⟩
  · have hf : formB vars cls = true := by
      cases hf : formB vars cls with
      | true => rfl
      | false => rw [hf] at h2; exact absurd (eq_of_t h2) (by decide)
    refine ⟨_, read1 g1 rfl, _, _, ct87 hO vars (G.up EInt.up k1) hgl (c := c1), vcond_split (fun h3 => ?_) fun h3 => ?_⟩
    · have h3 : clB vars 0 gs = false := by simpa using h3
      unfold askB; rw [hf, h3]; exact ⟨rfl, k1⟩
    · have h3 : clB vars 0 gs = true := by simpa using h3
      unfold askB; rw [hf, h3]; exact ⟨rfl, k1⟩
  · have hf : formB vars cls = false := by
      cases hf : formB vars cls with
      | false => rfl
      | true => rw [hf] at h2; exact absurd (eqI_t rfl) (by rw [if_pos rfl] at h2; rw [h2]; decide)
    unfold askB; rw [hf]; exact ⟨rfl, k1⟩
end
end Go.Proofs.YtfgfhplgnfbaaaaDoor
/- Contracts of functions of layer 20's reference: truths, laid and propagated. -/
namespace Go.Proofs.YtfgfhplgnfbaaaaDoor
open Go Go.Ev
def TV (ts : List Int) : Prop := ∀ t ∈ ts, -1 ≤ t ∧ t ≤ 1
/-- A literal is made true; false: it was false. -/
def layR (ts : List Int) (x : Int) : List Int × Bool := if tvR ts x < 0 then (ts, false) else (ts.set x.natAbs (if x < 0 then -1 else 1), true)
theorem TV.lay {ts : List Int} (h : TV ts) (x : Int) : TV (layR ts x).1 := by
  unfold layR
  split
  · exact h
  · intro t ht
    rcases List.mem_or_eq_of_mem_set ht with ht | rfl
    · exact h t ht
    · split <;> omega
theorem putAt_set {ts : List Int} {k : Nat} {z : Int} (hk : k < ts.length) : putAt (ts.map (Value.int .i64)) k [.int .i64 z] = (ts.set k z).map (Value.int .i64) := by
  refine List.ext_getElem? fun i => ?_
  rw [putAt_get _ _ _ (by simp; omega)]
  simp only [List.getElem?_map, List.getElem?_set, List.length_singleton]
  by_cases h1 : k ≤ i ∧ i < k + 1
  · obtain rfl : i = k := by omega
    rw [if_pos h1, if_pos rfl, if_pos hk, Nat.sub_self]; rfl
  · rw [if_neg h1, if_neg (by omega)]
theorem readAt_kp {hb h : Hp} (K : Kp hb.nx hb h) {b : Nat} (hbb : b < hb.nx) (off n : Nat) : readAt h b off n = readAt hb b off n := by
  unfold readAt
  rw [K.get b hbb]
section
variable {O : CallF} (hO : Oth O)
include hO
end
end Go.Proofs.YtfgfhplgnfbaaaaDoor
/- Contracts of functions of layer 20's reference: propagation to its end. -/
namespace Go.Proofs.YtfgfhplgnfbaaaaDoor
open Go Go.Ev
section
variable {O : CallF} (hO : Oth O)
include hO
end
end Go.Proofs.YtfgfhplgnfbaaaaDoor
/- The plain law of propagation: both ways to propagate end with the same literals, or both clash. -/
namespace Go.Proofs.YtfgfhplgnfbaaaaDoor
open Go Go.Ev
/-- What follows by unit clauses. -/
inductive Der (cls : List (List Int)) (xs : List Int) : Int → Prop
  | base {x : Int} : x ∈ xs → Der cls xs x
  | unit {l : List Int} {x : Int} : l ∈ cls → x ∈ l → (∀ y ∈ l, y ≠ x → Der cls xs (-y)) → Der cls xs x
def Cl (cls : List (List Int)) (xs : List Int) : Prop := (∃ x, Der cls xs x ∧ Der cls xs (-x)) ∨ ∃ l ∈ cls, ∀ y ∈ l, Der cls xs (-y)
structure Calm (cls : List (List Int)) (xs : List Int) (T : Int → Prop) : Prop where
  con : ∀ x, T x → T (-x) → False
  beg : ∀ x ∈ xs, T x
  cl : ∀ l ∈ cls, (∃ x ∈ l, T x) ∨ ∃ x ∈ l, ∃ z ∈ l, x ≠ z ∧ ¬ T x ∧ ¬ T (-x) ∧ ¬ T z ∧ ¬ T (-z)
theorem Calm.all {cls : List (List Int)} {xs : List Int} {T : Int → Prop} (C : Calm cls xs T) {x : Int} (h : Der cls xs x) : T x := by
  induction h with
  | base h => exact C.beg _ h
  | @unit l x hl hx _ ih =>
    rcases C.cl l hl with ⟨z, hz, hT⟩ | ⟨z, hz, w, hw, hne, h1, h2, h3, h4⟩
    · by_cases e : z = x
      · rw [← e]; exact hT
      · exact (C.con z hT (ih z hz e)).elim
    · by_cases e : z = x
      · have : w ≠ x := fun hh => hne (e.trans hh.symm)
        exact (h4 (ih w hw this)).elim
      · exact (h2 (ih z hz e)).elim
theorem Calm.not {cls : List (List Int)} {xs : List Int} {T : Int → Prop} (C : Calm cls xs T) : ¬ Cl cls xs := by
  rintro (⟨x, h1, h2⟩ | ⟨l, hl, h⟩)
  · exact C.con x (C.all h1) (C.all h2)
  · rcases C.cl l hl with ⟨z, hz, hT⟩ | ⟨z, hz, w, hw, hne, h1, h2, h3, h4⟩
    · exact C.con z hT (C.all (h z hz))
    · exact h2 (C.all (h z hz))
/-- A clause's variables differ. -/
def Dif (l : List Int) : Prop := l.Pairwise fun x z => x.natAbs < z.natAbs
theorem clB_dif {vars : Int} : ∀ {l : List Int} {last : Int}, 0 ≤ last → clB vars last l = true → Dif l := by
  intro l
  induction l with
  | nil => intro _ _ _; exact List.Pairwise.nil
  | cons x l ih =>
    intro last h0 h
    have hx := (clB_lit h0 h x (List.mem_cons_self ..)).1
    simp only [clB] at h
    split at h
    · cases h
    · have h1 : 0 ≤ varI x := by rw [varI_lit2 hx]; omega
      refine List.pairwise_cons.2 ⟨fun z hz => ?_, ih h1 h⟩
      have := clB_gt h z hz
      rw [varI_lit2 hx, varI_lit2 (clB_lit h1 h z hz).1] at this
      omega
theorem Dif.eq {l : List Int} (h : Dif l) {x z : Int} (hx : x ∈ l) (hz : z ∈ l) (e : x.natAbs = z.natAbs) : x = z := by
  induction l with
  | nil => cases hx
  | cons w l ih =>
    have hp := List.pairwise_cons.1 h
    rcases List.mem_cons.1 hx with e1 | hx1 <;> rcases List.mem_cons.1 hz with e2 | hz1
    · rw [e1, e2]
    · have := hp.1 z hz1; rw [← e1] at this; omega
    · have := hp.1 x hx1; rw [← e2] at this; omega
    · exact ih hp.2 hx1 hz1
/-! ### by masks -/
def trM (y m : Nat) (x : Int) : Prop := (0 < x ∧ y.testBit (x.natAbs - 1) = true) ∨ (x < 0 ∧ m.testBit (x.natAbs - 1) = true)
theorem trM_neg {y m : Nat} {x : Int} : trM y m (-x) ↔ (x < 0 ∧ y.testBit (x.natAbs - 1) = true) ∨ (0 < x ∧ m.testBit (x.natAbs - 1) = true) := by
  unfold trM
  rw [Int.natAbs_neg]
  constructor
  · rintro (⟨a, b⟩ | ⟨a, b⟩)
    · exact .inl ⟨by omega, b⟩
    · exact .inr ⟨by omega, b⟩
  · rintro (⟨a, b⟩ | ⟨a, b⟩)
    · exact .inl ⟨by omega, b⟩
    · exact .inr ⟨by omega, b⟩
theorem trM_with {y m : Nat} {x z : Int} (hx : Lit x) : trM (withN y m x).1 (withN y m x).2 z ↔ trM y m z ∨ z = x := by
  have hw := withN_test (y := y) (m := m) hx (z.natAbs - 1)
  unfold trM
  rw [hw.1, hw.2]
  simp only [Bool.or_eq_true, decide_eq_true_eq]
  have := hx.1
  constructor
  · rintro (⟨a, b | b⟩ | ⟨a, b | b⟩)
    · exact .inl (.inl ⟨a, b⟩)
    · exact .inr (by omega)
    · exact .inl (.inr ⟨a, b⟩)
    · exact .inr (by omega)
  · rintro ((⟨a, b⟩ | ⟨a, b⟩) | rfl)
    · exact .inl ⟨a, .inl b⟩
    · exact .inr ⟨a, .inl b⟩
    · rcases Int.lt_or_gt_of_ne this with h | h
      · exact .inr ⟨h, .inr (by omega)⟩
      · exact .inl ⟨h, .inr (by omega)⟩
theorem trM_con {y m : Nat} (h : y &&& m = 0) (x : Int) : trM y m x → trM y m (-x) → False := by
  intro h1 h2
  have := (and_zero_iff y m).1 h (x.natAbs - 1)
  rw [trM_neg] at h2
  rcases h1 with ⟨a, b⟩ | ⟨a, b⟩ <;> rcases h2 with ⟨c, d⟩ | ⟨c, d⟩
  · omega
  · exact this ⟨b, d⟩
  · exact this ⟨d, b⟩
  · omega
/-- A clause has a literal that is true. -/
theorem sat_mask {l : List Int} (hl : ∀ x ∈ l, Lit x) (y m : Nat) : (((sideN l).1 &&& y) ||| ((sideN l).2 &&& m) = 0) ↔ ∀ x ∈ l, ¬ trM y m x := by
  have hs := fun i => sideF_test (y := 0) (m := 0) hl i
  rw [or_zero_iff]
  simp only [Nat.testBit_and]
  unfold sideN
  simp only [fun i => (hs i).1, fun i => (hs i).2, Nat.zero_testBit, Bool.false_or, Bool.and_eq_false_iff, decide_eq_false_iff_not]
  constructor
  · rintro h x hx (⟨a, b⟩ | ⟨a, b⟩)
    · have := (h (x.natAbs - 1)).1
      rw [show ((x.natAbs - 1 + 1 : Nat) : Int) = x by omega] at this
      rcases this with h | h
      · exact h hx
      · rw [b] at h; cases h
    · have := (h (x.natAbs - 1)).2
      rw [show -((x.natAbs - 1 + 1 : Nat) : Int) = x by omega] at this
      rcases this with h | h
      · exact h hx
      · rw [b] at h; cases h
  · intro h i
    constructor
    · by_cases hx : ((i + 1 : Nat) : Int) ∈ l
      · right
        have := h _ hx
        cases hb : y.testBit i with
        | false => rfl
        | true => exact (this (.inl ⟨by omega, by rw [show ((i + 1 : Nat) : Int).natAbs - 1 = i by omega]; exact hb⟩)).elim
      · exact .inl hx
    · by_cases hx : -((i + 1 : Nat) : Int) ∈ l
      · right
        have := h _ hx
        cases hb : m.testBit i with
        | false => rfl
        | true => exact (this (.inr ⟨by omega, by rw [show (-((i + 1 : Nat) : Int)).natAbs - 1 = i by omega]; exact hb⟩)).elim
      · exact .inl hx
/-- The variables of a clause's literals that are not false. -/
theorem open_mask {l : List Int} (hl : ∀ x ∈ l, Lit x) (y m i : Nat) : (((sideN l).1 - ((sideN l).1 &&& m)) ||| ((sideN l).2 - ((sideN l).2 &&& y))).testBit i = true ↔ ∃ x ∈ l, x.natAbs = i + 1 ∧ ¬ trM y m (-x) := by
  have hs := sideF_test (y := 0) (m := 0) hl i
  rw [Nat.testBit_or, testBit_andn, testBit_andn]
  unfold sideN
  rw [hs.1, hs.2]
  simp only [Nat.zero_testBit, Bool.false_or, Bool.or_eq_true, Bool.and_eq_true, decide_eq_true_eq, Bool.not_eq_true']
  constructor
  · rintro (⟨a, b⟩ | ⟨a, b⟩)
    · refine ⟨_, a, by omega, fun h => ?_⟩
      rw [trM_neg] at h
      rcases h with ⟨h, _⟩ | ⟨_, h⟩
      · omega
      · rw [show ((i + 1 : Nat) : Int).natAbs - 1 = i by omega, b] at h; cases h
    · refine ⟨_, a, by omega, fun h => ?_⟩
      rw [trM_neg] at h
      rcases h with ⟨_, h⟩ | ⟨h, _⟩
      · rw [show (-((i + 1 : Nat) : Int)).natAbs - 1 = i by omega, b] at h; cases h
      · omega
  · rintro ⟨x, hx, e, hn⟩
    rw [trM_neg] at hn
    have h0 := (hl x hx).1
    rcases Int.lt_or_gt_of_ne h0 with h | h
    · right
      have hxe : x = -((i + 1 : Nat) : Int) := by omega
      refine ⟨by rw [← hxe]; exact hx, ?_⟩
      cases hb : y.testBit i with
      | false => rfl
      | true => exact (hn (.inl ⟨h, by rw [show x.natAbs - 1 = i by omega]; exact hb⟩)).elim
    · left
      have hxe : x = ((i + 1 : Nat) : Int) := by omega
      refine ⟨by rw [← hxe]; exact hx, ?_⟩
      cases hb : m.testBit i with
      | false => rfl
      | true => exact (hn (.inr ⟨h, by rw [show x.natAbs - 1 = i by omega]; exact hb⟩)).elim
section
variable {cls : List (List Int)} {xs : List Int}
theorem layN_ok : ∀ {ys : List Int} {y m : Nat}, (∀ x ∈ ys, Lit x ∧ x ∈ xs) → (∀ z, trM y m z → Der cls xs z) → y &&& m = 0 →
    ((layN ys y m).2 = true → (∀ z, trM (layN ys y m).1.1 (layN ys y m).1.2 z → Der cls xs z) ∧ (layN ys y m).1.1 &&& (layN ys y m).1.2 = 0 ∧ (∀ x ∈ ys, trM (layN ys y m).1.1 (layN ys y m).1.2 x) ∧ ∀ z, trM y m z → trM (layN ys y m).1.1 (layN ys y m).1.2 z) ∧
    ((layN ys y m).2 = false → ∃ x, Der cls xs x ∧ Der cls xs (-x)) := by
  intro ys
  induction ys with
  | nil => intro y m _ hs hc; exact ⟨fun _ => ⟨hs, hc, fun x hx => (by cases hx), fun z h => h⟩, fun h => by cases h⟩
  | cons x ys ih =>
    intro y m hl hs hc
    have hx := hl x (List.mem_cons_self ..)
    have hs' : ∀ z, trM (withN y m x).1 (withN y m x).2 z → Der cls xs z := fun z h => by
      rcases (trM_with hx.1).1 h with h | rfl
      · exact hs z h
      · exact .base hx.2
    simp only [layN]
    split
    · rename_i h0
      obtain ⟨a, b⟩ := ih (fun z hz => hl z (List.mem_cons_of_mem _ hz)) hs' h0
      refine ⟨fun h => ?_, b⟩
      obtain ⟨a1, a2, a3, a4⟩ := a h
      refine ⟨a1, a2, fun z hz => ?_, fun z hz => a4 z ((trM_with hx.1).2 (.inl hz))⟩
      rcases List.mem_cons.1 hz with rfl | hz
      · exact a4 z ((trM_with hx.1).2 (.inr rfl))
      · exact a3 z hz
    · rename_i h0
      refine ⟨fun h => (by cases h), fun _ => ?_⟩
      -- both contraries are true
      obtain ⟨i, hi⟩ := Classical.not_forall.1 (fun h => h0 ((and_zero_iff _ _).2 h))
      have hi := Classical.not_not.1 hi
      refine ⟨((i + 1 : Nat) : Int), hs' _ (.inl ⟨by omega, ?_⟩), hs' _ (.inr ⟨by omega, ?_⟩)⟩
      · rw [show ((i + 1 : Nat) : Int).natAbs - 1 = i by omega]; exact hi.1
      · rw [show (-((i + 1 : Nat) : Int)).natAbs - 1 = i by omega]; exact hi.2
theorem stepS_ok (hd : ∀ l ∈ cls, (∀ x ∈ l, Lit x) ∧ Dif l) {y m : Nat} (hs : ∀ z, trM y m z → Der cls xs z) (hc : y &&& m = 0) : ∀ {cs : List (List Int)}, (∀ l ∈ cs, l ∈ cls) →
    (stepS y m (cs.map sideN) = none → ∀ l ∈ cs, (∃ x ∈ l, trM y m x) ∨ ∃ x ∈ l, ∃ z ∈ l, x ≠ z ∧ ¬ trM y m x ∧ ¬ trM y m (-x) ∧ ¬ trM y m z ∧ ¬ trM y m (-z)) ∧
    (stepS y m (cs.map sideN) = some none → ∃ l ∈ cls, ∀ x ∈ l, Der cls xs (-x)) ∧
    (∀ p, stepS y m (cs.map sideN) = some (some p) → ∃ x, Lit x ∧ Der cls xs x ∧ ¬ trM y m (-x) ∧ p = withN y m x) := by
  intro cs
  induction cs with
  | nil => intro _; exact ⟨fun _ l hl => (by cases hl), fun h => (by cases h), fun p h => by cases h⟩
  | cons l cs ih =>
    intro hsub
    have hlc := hsub l (List.mem_cons_self ..)
    obtain ⟨hl, hdl⟩ := hd l hlc
    obtain ⟨i1, i2, i3⟩ := ih fun l h => hsub l (List.mem_cons_of_mem _ h)
    have hz := open_mask hl y m
    have hlt : ((sideN l).1 - ((sideN l).1 &&& m)) ||| ((sideN l).2 - ((sideN l).2 &&& y)) < 2 ^ 30 := by
      have := sideF_lt hl (y := 0) (m := 0) (by decide) (by decide)
      exact Nat.or_lt_two_pow (Nat.lt_of_le_of_lt (Nat.sub_le _ _) this.1) (Nat.lt_of_le_of_lt (Nat.sub_le _ _) this.2)
    rw [List.map_cons]
    simp only [stepS]
    by_cases h0 : ((sideN l).1 &&& y) ||| ((sideN l).2 &&& m) = 0
    · rw [if_pos h0]
      have hun := (sat_mask hl y m).1 h0
      by_cases h1 : popN (((sideN l).1 - ((sideN l).1 &&& m)) ||| ((sideN l).2 - ((sideN l).2 &&& y))) = 0
      · rw [if_pos h1]
        refine ⟨fun h => (by cases h), fun _ => ⟨l, hlc, fun x hx => hs _ ?_⟩, fun p h => by cases h⟩
        have hu := (popN_zero (by omega)).1 h1
        apply Classical.byContradiction
        intro hn
        have := (hz (x.natAbs - 1)).2 ⟨x, hx, by have := (hl x hx).1; omega, hn⟩
        rw [hu, Nat.zero_testBit] at this
        cases this
      · rw [if_neg h1]
        by_cases h2 : popN (((sideN l).1 - ((sideN l).1 &&& m)) ||| ((sideN l).2 - ((sideN l).2 &&& y))) = 1
        · rw [if_pos h2]
          refine ⟨fun h => (by cases h), fun h => (by cases h), fun p h => ?_⟩
          injection h with h; injection h with h
          obtain ⟨i, hi, e⟩ := (popN_one (by omega)).1 h2
          obtain ⟨x, hx, ex, hn⟩ := (hz i).1 (by rw [e, Nat.testBit_two_pow_self])
          refine ⟨x, hl x hx, .unit hlc hx (fun w hw hne => hs _ ?_), hn, ?_⟩
          · apply Classical.byContradiction
            intro hnw
            have := (hz (w.natAbs - 1)).2 ⟨w, hw, by have := (hl w hw).1; omega, hnw⟩
            rw [e, Nat.testBit_two_pow] at this
            have : i = w.natAbs - 1 := by simpa using this
            exact hne (hdl.eq hw hx (by have := (hl w hw).1; omega))
          · rw [← h]
            have hsp := fun j => sideF_test (y := 0) (m := 0) hl j
            have pj : ∀ j, ((sideN l).1 - ((sideN l).1 &&& m)).testBit j = true → j = i ∧ x = ((i + 1 : Nat) : Int) := fun j hj => by
              have h3 := congrArg (fun z => z.testBit j) e
              simp only [Nat.testBit_or, hj, Bool.true_or, Nat.testBit_two_pow] at h3
              have hji : i = j := by simpa using h3.symm
              subst hji
              refine ⟨rfl, ?_⟩
              rw [testBit_andn, Bool.and_eq_true] at hj
              have h4 := hj.1
              unfold sideN at h4
              rw [(hsp i).1, Nat.zero_testBit, Bool.false_or] at h4
              exact hdl.eq hx (of_decide_eq_true h4) (by omega)
            have mj : ∀ j, ((sideN l).2 - ((sideN l).2 &&& y)).testBit j = true → j = i ∧ x = -((i + 1 : Nat) : Int) := fun j hj => by
              have h3 := congrArg (fun z => z.testBit j) e
              simp only [Nat.testBit_or, hj, Bool.or_true, Nat.testBit_two_pow] at h3
              have hji : i = j := by simpa using h3.symm
              subst hji
              refine ⟨rfl, ?_⟩
              rw [testBit_andn, Bool.and_eq_true] at hj
              have h4 := hj.1
              unfold sideN at h4
              rw [(hsp i).2, Nat.zero_testBit, Bool.false_or] at h4
              exact hdl.eq hx (of_decide_eq_true h4) (by omega)
            have hb : bitN x = 2 ^ i := by unfold bitN; rw [ex, Nat.add_sub_cancel]
            unfold withN
            by_cases hp : 0 < x
            · have m0 : (sideN l).2 - ((sideN l).2 &&& y) = 0 := Nat.eq_of_testBit_eq fun j => by
                rw [Nat.zero_testBit]
                cases hj : ((sideN l).2 - ((sideN l).2 &&& y)).testBit j with
                | false => rfl
                | true => have := (mj j hj).2; omega
              rw [m0, Nat.or_zero] at e
              rw [if_pos hp, m0, e, hb, Nat.or_zero]
            · have p0 : (sideN l).1 - ((sideN l).1 &&& m) = 0 := Nat.eq_of_testBit_eq fun j => by
                rw [Nat.zero_testBit]
                cases hj : ((sideN l).1 - ((sideN l).1 &&& m)).testBit j with
                | false => rfl
                | true => have := (pj j hj).2; omega
              rw [p0, Nat.zero_or] at e
              rw [if_neg hp, p0, e, hb, Nat.or_zero]
        · rw [if_neg h2]
          refine ⟨fun h w hw => ?_, i2, i3⟩
          rcases List.mem_cons.1 hw with rfl | hw
          · right
            have hu : ((sideN w).1 - ((sideN w).1 &&& m)) ||| ((sideN w).2 - ((sideN w).2 &&& y)) ≠ 0 := fun hh => h1 ((popN_zero (by omega)).2 hh)
            obtain ⟨i, hi⟩ := Nat.exists_testBit_of_ne_zero hu
            obtain ⟨x, hx, ex, hnx⟩ := (hz i).1 hi
            have hex : ∃ j, j ≠ i ∧ (((sideN w).1 - ((sideN w).1 &&& m)) ||| ((sideN w).2 - ((sideN w).2 &&& y))).testBit j = true := by
              apply Classical.byContradiction
              intro hn
              have hi30 : i < 30 := by
                apply Classical.byContradiction
                intro hge
                rw [Nat.testBit_lt_two_pow (Nat.lt_of_lt_of_le hlt (Nat.pow_le_pow_right (by decide) (by omega)))] at hi
                cases hi
              refine h2 ((popN_one (by omega)).2 ⟨i, by omega, Nat.eq_of_testBit_eq fun j => ?_⟩)
              rw [Nat.testBit_two_pow]
              by_cases hji : i = j
              · subst hji; rw [hi]; simp
              · rw [decide_eq_false hji]
                cases hj : (((sideN w).1 - ((sideN w).1 &&& m)) ||| ((sideN w).2 - ((sideN w).2 &&& y))).testBit j with
                | false => rfl
                | true => exact (hn ⟨j, fun hh => hji hh.symm, hj⟩).elim
            obtain ⟨j, hji, hj⟩ := hex
            obtain ⟨z, hz2, ez, hnz⟩ := (hz j).1 hj
            exact ⟨x, hx, z, hz2, fun hh => hji (by rw [hh] at ex; omega), hun x hx, hnx, hun z hz2, hnz⟩
          · exact i1 h w hw
    · rw [if_neg h0]
      refine ⟨fun h w hw => ?_, i2, i3⟩
      rcases List.mem_cons.1 hw with rfl | hw
      · left
        apply Classical.byContradiction
        intro hn
        exact h0 ((sat_mask hl y m).2 fun x hx hT => hn ⟨x, hx, hT⟩)
      · exact i1 h w hw
end
end Go.Proofs.YtfgfhplgnfbaaaaDoor
/- The plain law of propagation, continued: to the end, both ways. -/
namespace Go.Proofs.YtfgfhplgnfbaaaaDoor
open Go Go.Ev
section
variable {cls : List (List Int)} {xs : List Int}
theorem with_con {y m : Nat} {x : Int} (hx : Lit x) (hc : y &&& m = 0) (hn : ¬ trM y m (-x)) : (withN y m x).1 &&& (withN y m x).2 = 0 := by
  refine (and_zero_iff _ _).2 fun i hi => ?_
  have h1 : trM (withN y m x).1 (withN y m x).2 ((i + 1 : Nat) : Int) := .inl ⟨by omega, by rw [show ((i + 1 : Nat) : Int).natAbs - 1 = i by omega]; exact hi.1⟩
  have h2 : trM (withN y m x).1 (withN y m x).2 (-((i + 1 : Nat) : Int)) := .inr ⟨by omega, by rw [show (-((i + 1 : Nat) : Int)).natAbs - 1 = i by omega]; exact hi.2⟩
  rcases (trM_with hx).1 h1 with h1 | h1 <;> rcases (trM_with hx).1 h2 with h2 | h2
  · exact trM_con hc _ h1 h2
  · rw [← h2, Int.neg_neg] at hn; exact hn h1
  · rw [← h1] at hn; exact hn h2
  · omega
theorem spreadF_ok (hd : ∀ l ∈ cls, (∀ x ∈ l, Lit x) ∧ Dif l) : ∀ (d : Nat) {y m : Nat}, y < 2 ^ 30 → m < 2 ^ 30 → freeN (y ||| m) < d → (∀ z, trM y m z → Der cls xs z) → y &&& m = 0 → (∀ x ∈ xs, trM y m x) →
    ((spreadF (cls.map sideN) d y m).2 = true → Calm cls xs (trM (spreadF (cls.map sideN) d y m).1.1 (spreadF (cls.map sideN) d y m).1.2) ∧ ∀ z, trM (spreadF (cls.map sideN) d y m).1.1 (spreadF (cls.map sideN) d y m).1.2 z → Der cls xs z) ∧ ((spreadF (cls.map sideN) d y m).2 = false → Cl cls xs) := by
  intro d
  induction d with
  | zero => intro y m _ _ h; omega
  | succ d ih =>
    intro y m hy hm hf hs hc hb
    have hss : ∀ c ∈ cls.map sideN, c.1 < 2 ^ 30 ∧ c.2 < 2 ^ 30 := fun c hc => by
      obtain ⟨l, hl, rfl⟩ := List.mem_map.1 hc
      exact sideF_lt (hd l hl).1 (by decide) (by decide)
    obtain ⟨s1, s2, s3⟩ := stepS_ok hd hs hc (cs := cls) fun _ h => h
    simp only [spreadF]
    cases hst : stepS y m (cls.map sideN) with
    | none => exact ⟨fun _ => ⟨⟨trM_con hc, hb, s1 hst⟩, hs⟩, fun h => by cases h⟩
    | some o =>
      cases o with
      | none => exact ⟨fun h => (by cases h), fun _ => .inr (s2 hst)⟩
      | some p =>
        obtain ⟨x, hx, hD, hn, rfl⟩ := s3 p hst
        obtain ⟨f1, f2, f3⟩ := stepS_free hy hm hss hst
        refine ih f2 f3 (by omega) (fun z hz => ?_) (with_con hx hc hn) fun z hz => (trM_with hx).2 (.inl (hb z hz))
        rcases (trM_with hx).1 hz with h | rfl
        · exact hs z h
        · exact hD
theorem layN_lt : ∀ {ys : List Int} {y m : Nat}, (∀ x ∈ ys, Lit x) → y < 2 ^ 30 → m < 2 ^ 30 → (layN ys y m).1.1 < 2 ^ 30 ∧ (layN ys y m).1.2 < 2 ^ 30 := by
  intro ys
  induction ys with
  | nil => intro y m _ hy hm; exact ⟨hy, hm⟩
  | cons x ys ih =>
    intro y m hl hy hm
    have w := withN_lt (hl x (List.mem_cons_self ..)) hy hm
    simp only [layN]
    split
    · exact ih (fun z hz => hl z (List.mem_cons_of_mem _ hz)) w.1 w.2
    · exact w
theorem fromN_ok (hd : ∀ l ∈ cls, (∀ x ∈ l, Lit x) ∧ Dif l) (hx : ∀ x ∈ xs, Lit x) :
    ((fromN (cls.map sideN) xs).2 = true → Calm cls xs (trM (fromN (cls.map sideN) xs).1.1 (fromN (cls.map sideN) xs).1.2) ∧ ∀ z, trM (fromN (cls.map sideN) xs).1.1 (fromN (cls.map sideN) xs).1.2 z → Der cls xs z) ∧ ((fromN (cls.map sideN) xs).2 = false → Cl cls xs) := by
  have z0 : ∀ z, ¬ trM 0 0 z := fun z h => by
    rcases h with ⟨_, h⟩ | ⟨_, h⟩ <;> simp at h
  obtain ⟨a, b⟩ := layN_ok (cls := cls) (xs := xs) (ys := xs) (y := 0) (m := 0) (fun x h => ⟨hx x h, h⟩) (fun z h => (z0 z h).elim) rfl
  have lt := layN_lt (ys := xs) (y := 0) (m := 0) hx (by decide) (by decide)
  unfold fromN fromR
  cases hl : (layN xs 0 0).2 with
  | false => exact ⟨fun h => (by rw [if_neg (by decide), hl] at h; cases h), fun _ => .inl (b hl)⟩
  | true =>
    obtain ⟨a1, a2, a3, _⟩ := a hl
    rw [if_pos rfl]
    have := freeN_le ((layN xs 0 0).1.1 ||| (layN xs 0 0).1.2)
    exact spreadF_ok hd 31 lt.1 lt.2 (by omega) a1 a2 a3
/-! ### by truths -/
end
end Go.Proofs.YtfgfhplgnfbaaaaDoor
/- Contracts of functions of layer 20's reference: contraries; the literals that are true. -/
namespace Go.Proofs.YtfgfhplgnfbaaaaDoor
open Go Go.Ev
section
variable {O : CallF} (hO : Oth O)
include hO
end
end Go.Proofs.YtfgfhplgnfbaaaaDoor
/- Conditions of functions' code, printed by a program of ours. -/
namespace Go.Proofs.YtfgfhplgnfbaaaaDoor
open Go Go.Ev
set_option maxRecDepth 100000
set_option linter.unusedVariables false
/-! sward/sat.contrary -/
noncomputable def b96 : Code := (Tryd.f96.body).getD .skip
noncomputable def stk96_0 : List KI := [.code (sub [1, 1, 0, 1, 0] b96), .blk 0, .code (sub [1, 1, 1] b96)]
def lv96 : List (Nat × List Nat) := [(0, [2, 3, 6, 7, 8])]
def I96_0 (O : CallF) (Q : Value → Hp → Prop) (a0 : Option Addr) (n0 : Nat) (c0 : Nat) (a3 : Option Addr) (n3 : Nat) (c3 : Nat) (x8 : Int) (h : Hp) : Prop := RKL Tryd.prog O Tryd.f96 stk96_0 21 [2, 3, 6, 7, 8] [(.slice none 0 0), (.slice a3 n3 c3), (.slice a0 n0 c0), (.int .i64 (Int.ofNat n0)), (.int .i64 x8)] h Q
def T96 (O : CallF) (Q : Value → Hp → Prop) (a0 : Option Addr) (n0 : Nat) (c0 : Nat) (h : Hp) : Prop :=
  I96_0 O Q a0 n0 c0 none 0 0 0 h
theorem rk96 {O Q} (a0 n0 c0) {h : Hp} (hO : O 96 [(.slice a0 n0 c0)] h = none) (hh : T96 O Q a0 n0 c0 h) : Ret Tryd.prog O 96 [(.slice a0 n0 c0)] h Q :=
  .of (c := b96) Tryd.func96 (by kernel_rfl) hO (V_ok (tb := lv96) (cuts := []) 500 (Eq.mp (by kernel_rfl) hh))
def T96_0 (O : CallF) (Q : Value → Hp → Prop) (a0 : Option Addr) (n0 : Nat) (c0 : Nat) (a3 : Option Addr) (n3 : Nat) (c3 : Nat) (x8 : Int) (h : Hp) : Prop :=
  vcond (ltI x8 (Int.ofNat n0))
  (isNat x8 fun n101' =>
  isAddr a0 fun b102' f103' =>
  vreq (Nat.blt n101' n0)
  (∃ x104', readAt h b102' (f103' + (n101' * 1)) 1 = some [(.int .i64 x104')] ∧
  ∃ a105' n106' c107' h108', appendV Tryd.prog (h.add (.cells [(.int .i64 (wrapF .i64 (0 - x104')))] 3 .fix)) 32 32 (.slice a3 n3 c3) (.slice (some ⟨h.nx, 0, none⟩) 1 1) = some (.slice a105' n106' c107', h108') ∧
  I96_0 O Q a0 n0 c0 a105' n106' c107' (wrapF .i64 (x8 + 1)) h108'))
  (∃ h109', EvC Tryd.prog O 74 [(.slice a3 n3 c3), (.func (.func 123) #[] #[])] h undef h109' ∧
  Q (.slice a3 n3 c3) h109')
theorem I96_0.of {O Q} (a0 n0 c0 a3 n3 c3 x8) {h : Hp} (hh : T96_0 O Q a0 n0 c0 a3 n3 c3 x8 h) : I96_0 O Q a0 n0 c0 a3 n3 c3 x8 h :=
  RKL.of (tb := lv96) (cuts := []) 500 fun _ => Eq.mp (by kernel_rfl) hh
/-! sward/sat.contrary$1 -/
noncomputable def b123 : Code := (Tryd.f123.body).getD .skip
def lv123 : List (Nat × List Nat) := []
def T123 (O : CallF) (Q : Value → Hp → Prop) (x0 : Int) (x1 : Int) (h : Hp) : Prop :=
  ∃ x1', ∃ h2', EvC Tryd.prog O 94 [(.int .i64 x0)] h (.int .i64 x1') h2' ∧
  ∃ x3', ∃ h4', EvC Tryd.prog O 94 [(.int .i64 x1)] h2' (.int .i64 x3') h4' ∧
  Q (.int .i64 (wrapF .i64 (x1' - x3'))) h4'
theorem rk123 {O Q} (x0 x1) {h : Hp} (hO : O 123 [(.int .i64 x0), (.int .i64 x1)] h = none) (hh : T123 O Q x0 x1 h) : Ret Tryd.prog O 123 [(.int .i64 x0), (.int .i64 x1)] h Q :=
  .of (c := b123) Tryd.func123 (by kernel_rfl) hO (V_ok (tb := lv123) (cuts := []) 500 (Eq.mp (by kernel_rfl) hh))
/-! slices.SortFunc[[]int,int] -/
noncomputable def b74 : Code := (Tryd.f74.body).getD .skip
def lv74 : List (Nat × List Nat) := []
def T74 (O : CallF) (Q : Value → Hp → Prop) (a0 : Option Addr) (n0 : Nat) (c0 : Nat) (g1 : Nat) (fi1 : Array Value) (ca1 : Array Value) (h : Hp) : Prop :=
  ∃ x1', ∃ h2', EvC Tryd.prog O 116 [(.int .u64 (wrapF .u64 (Int.ofNat n0)))] h (.int .i64 x1') h2' ∧
  ∃ h3', EvC Tryd.prog O 115 [(.slice a0 n0 c0), (.int .i64 0), (.int .i64 (Int.ofNat n0)), (.int .i64 x1'), (.func (.func g1) fi1 ca1)] h2' undef h3' ∧
  Q undef h3'
theorem rk74 {O Q} (a0 n0 c0 g1 fi1 ca1) {h : Hp} (hO : O 74 [(.slice a0 n0 c0), (.func (.func g1) fi1 ca1)] h = none) (hh : T74 O Q a0 n0 c0 g1 fi1 ca1 h) : Ret Tryd.prog O 74 [(.slice a0 n0 c0), (.func (.func g1) fi1 ca1)] h Q :=
  .of (c := b74) Tryd.func74 (by kernel_rfl) hO (V_ok (tb := lv74) (cuts := []) 500 (Eq.mp (by kernel_rfl) hh))
/-! slices.pdqsortCmpFunc[int] -/
noncomputable def b115 : Code := (Tryd.f115.body).getD .skip
noncomputable def stk115_0 : List KI := [.code (sub [1, 1, 0] b115), .blk 0]
def lv115 : List (Nat × List Nat) := [(0, [0, 1, 2, 3, 4, 10, 11])]
def I115_0 (O : CallF) (Q : Value → Hp → Prop) (a0 : Option Addr) (n0 : Nat) (c0 : Nat) (x1 : Int) (x2 : Int) (x3 : Int) (g4 : Nat) (fi4 : Array Value) (ca4 : Array Value) (x1s : Int) (x2s : Int) (x3s : Int) (g4s : Nat) (fi4s : Array Value) (ca4s : Array Value) (q10 : Bool) (q11 : Bool) (h : Hp) : Prop := RKL Tryd.prog O Tryd.f115 stk115_0 148 [0, 1, 2, 3, 4, 10, 11] [(.slice a0 n0 c0), (.int .i64 x1s), (.int .i64 x2s), (.int .i64 x3s), (.func (.func g4s) fi4s ca4s), (.bool q10), (.bool q11)] h Q
def T115 (O : CallF) (Q : Value → Hp → Prop) (a0 : Option Addr) (n0 : Nat) (c0 : Nat) (x1 : Int) (x2 : Int) (x3 : Int) (g4 : Nat) (fi4 : Array Value) (ca4 : Array Value) (h : Hp) : Prop :=
  I115_0 O Q a0 n0 c0 x1 x2 x3 g4 fi4 ca4 x1 x2 x3 g4 fi4 ca4 true true h
theorem rk115 {O Q} (a0 n0 c0 x1 x2 x3 g4 fi4 ca4) {h : Hp} (hO : O 115 [(.slice a0 n0 c0), (.int .i64 x1), (.int .i64 x2), (.int .i64 x3), (.func (.func g4) fi4 ca4)] h = none) (hh : T115 O Q a0 n0 c0 x1 x2 x3 g4 fi4 ca4 h) : Ret Tryd.prog O 115 [(.slice a0 n0 c0), (.int .i64 x1), (.int .i64 x2), (.int .i64 x3), (.func (.func g4) fi4 ca4)] h Q :=
  .of (c := b115) Tryd.func115 (by kernel_rfl) hO (V_ok (tb := lv115) (cuts := []) 500 (Eq.mp (by kernel_rfl) hh))
def T115_0 (O : CallF) (Q : Value → Hp → Prop) (a0 : Option Addr) (n0 : Nat) (c0 : Nat) (x1 : Int) (x2 : Int) (x3 : Int) (g4 : Nat) (fi4 : Array Value) (ca4 : Array Value) (x1s : Int) (x2s : Int) (x3s : Int) (g4s : Nat) (fi4s : Array Value) (ca4s : Array Value) (q10 : Bool) (q11 : Bool) (h : Hp) : Prop :=
  vcond (!(ltI 12 (wrapF .i64 (x2s - x1s))))
  (∃ h101', EvC Tryd.prog O 127 [(.slice a0 n0 c0), (.int .i64 x1s), (.int .i64 x2s), (.func (.func g4s) fi4s ca4s)] h undef h101' ∧
  Q undef h101')
  (vcond (eqI x3s 0)
  (∃ h102', EvC Tryd.prog O 128 [(.slice a0 n0 c0), (.int .i64 x1s), (.int .i64 x2s), (.func (.func g4s) fi4s ca4s)] h undef h102' ∧
  Q undef h102')
  (vcond (!q10)
  (∃ h103', EvC Tryd.prog O 129 [(.slice a0 n0 c0), (.int .i64 x1s), (.int .i64 x2s), (.func (.func g4s) fi4s ca4s)] h undef h103' ∧
  ∃ x104', ∃ x105', ∃ h106', EvC Tryd.prog O 130 [(.slice a0 n0 c0), (.int .i64 x1s), (.int .i64 x2s), (.func (.func g4s) fi4s ca4s)] h103' (.tuple #[(.int .i64 x104'), (.int .i64 x105')]) h106' ∧
  vcond (eqI x105' 2)
  (∃ h107', EvC Tryd.prog O 131 [(.slice a0 n0 c0), (.int .i64 x1s), (.int .i64 x2s), (.func (.func g4s) fi4s ca4s)] h106' undef h107' ∧
  vcond q10
  (vcond q11
  (∃ q108', ∃ h109', EvC Tryd.prog O 132 [(.slice a0 n0 c0), (.int .i64 x1s), (.int .i64 x2s), (.func (.func g4s) fi4s ca4s)] h107' (.bool q108') h109' ∧
  vcond q108'
  (Q undef h109')
  (vcond (ltI 0 x1s)
  (isNat (wrapF .i64 (x1s - 1)) fun n110' =>
  isAddr a0 fun b111' f112' =>
  vreq (Nat.blt n110' n0)
  (∃ x113', readAt (h109'.rsv 17) b111' (f112' + (n110' * 1)) 1 = some [(.int .i64 x113')] ∧
  isNat (wrapF .i64 ((wrapF .i64 (x2s - 1)) - (wrapF .i64 (x104' - x1s)))) fun n114' =>
  isAddr a0 fun b115' f116' =>
  vreq (Nat.blt n114' n0)
  (∃ x117', readAt (h109'.rsv 17) b115' (f116' + (n114' * 1)) 1 = some [(.int .i64 x117')] ∧
  ∃ x118', ∃ h119', EvC Tryd.prog O g4s (fi4s.toList ++ [(.int .i64 x113'), (.int .i64 x117')] ++ ca4s.toList) ((h109'.rsv 17).grd []) (.int .i64 x118') h119' ∧
  vcond (!(ltI x118' 0))
  (∃ x120', ∃ h121', EvC Tryd.prog O 133 [(.slice a0 n0 c0), (.int .i64 x1s), (.int .i64 x2s), (.int .i64 (wrapF .i64 ((wrapF .i64 (x2s - 1)) - (wrapF .i64 (x104' - x1s))))), (.func (.func g4s) fi4s ca4s)] (h119'.rst (h109'.rsv 17)) (.int .i64 x120') h121' ∧
  I115_0 O Q a0 n0 c0 x1 x2 x3 g4 fi4 ca4 x120' x2s (wrapF .i64 (x3s - 1)) g4s fi4s ca4s q10 q11 h121')
  (∃ x122', ∃ q123', ∃ h124', EvC Tryd.prog O 134 [(.slice a0 n0 c0), (.int .i64 x1s), (.int .i64 x2s), (.int .i64 (wrapF .i64 ((wrapF .i64 (x2s - 1)) - (wrapF .i64 (x104' - x1s))))), (.func (.func g4s) fi4s ca4s)] (h119'.rst (h109'.rsv 17)) (.tuple #[(.int .i64 x122'), (.bool q123')]) h124' ∧
  vcond (ltI (wrapF .i64 (x122' - x1s)) (wrapF .i64 (x2s - x122')))
  (∃ h125', EvC Tryd.prog O 115 [(.slice a0 n0 c0), (.int .i64 x1s), (.int .i64 x122'), (.int .i64 (wrapF .i64 (x3s - 1))), (.func (.func g4s) fi4s ca4s)] h124' undef h125' ∧
  I115_0 O Q a0 n0 c0 x1 x2 x3 g4 fi4 ca4 (wrapF .i64 (x122' + 1)) x2s (wrapF .i64 (x3s - 1)) g4s fi4s ca4s (!(ltI (wrapF .i64 (x122' - x1s)) (wrapF .i64 (Int.tdiv (wrapF .i64 (x2s - x1s)) 8)))) q123' h125')
  (∃ h126', EvC Tryd.prog O 115 [(.slice a0 n0 c0), (.int .i64 (wrapF .i64 (x122' + 1))), (.int .i64 x2s), (.int .i64 (wrapF .i64 (x3s - 1))), (.func (.func g4s) fi4s ca4s)] h124' undef h126' ∧
  I115_0 O Q a0 n0 c0 x1 x2 x3 g4 fi4 ca4 x1s x122' (wrapF .i64 (x3s - 1)) g4s fi4s ca4s (!(ltI (wrapF .i64 (x2s - x122')) (wrapF .i64 (Int.tdiv (wrapF .i64 (x2s - x1s)) 8)))) q123' h126')))))
  (∃ x127', ∃ q128', ∃ h129', EvC Tryd.prog O 134 [(.slice a0 n0 c0), (.int .i64 x1s), (.int .i64 x2s), (.int .i64 (wrapF .i64 ((wrapF .i64 (x2s - 1)) - (wrapF .i64 (x104' - x1s))))), (.func (.func g4s) fi4s ca4s)] (h109'.rsv 17) (.tuple #[(.int .i64 x127'), (.bool q128')]) h129' ∧
  vcond (ltI (wrapF .i64 (x127' - x1s)) (wrapF .i64 (x2s - x127')))
  (∃ h130', EvC Tryd.prog O 115 [(.slice a0 n0 c0), (.int .i64 x1s), (.int .i64 x127'), (.int .i64 (wrapF .i64 (x3s - 1))), (.func (.func g4s) fi4s ca4s)] h129' undef h130' ∧
  I115_0 O Q a0 n0 c0 x1 x2 x3 g4 fi4 ca4 (wrapF .i64 (x127' + 1)) x2s (wrapF .i64 (x3s - 1)) g4s fi4s ca4s (!(ltI (wrapF .i64 (x127' - x1s)) (wrapF .i64 (Int.tdiv (wrapF .i64 (x2s - x1s)) 8)))) q128' h130')
  (∃ h131', EvC Tryd.prog O 115 [(.slice a0 n0 c0), (.int .i64 (wrapF .i64 (x127' + 1))), (.int .i64 x2s), (.int .i64 (wrapF .i64 (x3s - 1))), (.func (.func g4s) fi4s ca4s)] h129' undef h131' ∧
  I115_0 O Q a0 n0 c0 x1 x2 x3 g4 fi4 ca4 x1s x127' (wrapF .i64 (x3s - 1)) g4s fi4s ca4s (!(ltI (wrapF .i64 (x2s - x127')) (wrapF .i64 (Int.tdiv (wrapF .i64 (x2s - x1s)) 8)))) q128' h131'))))
  (vcond (ltI 0 x1s)
  (isNat (wrapF .i64 (x1s - 1)) fun n132' =>
  isAddr a0 fun b133' f134' =>
  vreq (Nat.blt n132' n0)
  (∃ x135', readAt (h107'.rsv 17) b133' (f134' + (n132' * 1)) 1 = some [(.int .i64 x135')] ∧
  isNat (wrapF .i64 ((wrapF .i64 (x2s - 1)) - (wrapF .i64 (x104' - x1s)))) fun n136' =>
  isAddr a0 fun b137' f138' =>
  vreq (Nat.blt n136' n0)
  (∃ x139', readAt (h107'.rsv 17) b137' (f138' + (n136' * 1)) 1 = some [(.int .i64 x139')] ∧
  ∃ x140', ∃ h141', EvC Tryd.prog O g4s (fi4s.toList ++ [(.int .i64 x135'), (.int .i64 x139')] ++ ca4s.toList) ((h107'.rsv 17).grd []) (.int .i64 x140') h141' ∧
  vcond (!(ltI x140' 0))
  (∃ x142', ∃ h143', EvC Tryd.prog O 133 [(.slice a0 n0 c0), (.int .i64 x1s), (.int .i64 x2s), (.int .i64 (wrapF .i64 ((wrapF .i64 (x2s - 1)) - (wrapF .i64 (x104' - x1s))))), (.func (.func g4s) fi4s ca4s)] (h141'.rst (h107'.rsv 17)) (.int .i64 x142') h143' ∧
  I115_0 O Q a0 n0 c0 x1 x2 x3 g4 fi4 ca4 x142' x2s (wrapF .i64 (x3s - 1)) g4s fi4s ca4s q10 q11 h143')
  (∃ x144', ∃ q145', ∃ h146', EvC Tryd.prog O 134 [(.slice a0 n0 c0), (.int .i64 x1s), (.int .i64 x2s), (.int .i64 (wrapF .i64 ((wrapF .i64 (x2s - 1)) - (wrapF .i64 (x104' - x1s))))), (.func (.func g4s) fi4s ca4s)] (h141'.rst (h107'.rsv 17)) (.tuple #[(.int .i64 x144'), (.bool q145')]) h146' ∧
  vcond (ltI (wrapF .i64 (x144' - x1s)) (wrapF .i64 (x2s - x144')))
  (∃ h147', EvC Tryd.prog O 115 [(.slice a0 n0 c0), (.int .i64 x1s), (.int .i64 x144'), (.int .i64 (wrapF .i64 (x3s - 1))), (.func (.func g4s) fi4s ca4s)] h146' undef h147' ∧
  I115_0 O Q a0 n0 c0 x1 x2 x3 g4 fi4 ca4 (wrapF .i64 (x144' + 1)) x2s (wrapF .i64 (x3s - 1)) g4s fi4s ca4s (!(ltI (wrapF .i64 (x144' - x1s)) (wrapF .i64 (Int.tdiv (wrapF .i64 (x2s - x1s)) 8)))) q145' h147')
  (∃ h148', EvC Tryd.prog O 115 [(.slice a0 n0 c0), (.int .i64 (wrapF .i64 (x144' + 1))), (.int .i64 x2s), (.int .i64 (wrapF .i64 (x3s - 1))), (.func (.func g4s) fi4s ca4s)] h146' undef h148' ∧
  I115_0 O Q a0 n0 c0 x1 x2 x3 g4 fi4 ca4 x1s x144' (wrapF .i64 (x3s - 1)) g4s fi4s ca4s (!(ltI (wrapF .i64 (x2s - x144')) (wrapF .i64 (Int.tdiv (wrapF .i64 (x2s - x1s)) 8)))) q145' h148')))))
  (∃ x149', ∃ q150', ∃ h151', EvC Tryd.prog O 134 [(.slice a0 n0 c0), (.int .i64 x1s), (.int .i64 x2s), (.int .i64 (wrapF .i64 ((wrapF .i64 (x2s - 1)) - (wrapF .i64 (x104' - x1s))))), (.func (.func g4s) fi4s ca4s)] (h107'.rsv 17) (.tuple #[(.int .i64 x149'), (.bool q150')]) h151' ∧
  vcond (ltI (wrapF .i64 (x149' - x1s)) (wrapF .i64 (x2s - x149')))
  (∃ h152', EvC Tryd.prog O 115 [(.slice a0 n0 c0), (.int .i64 x1s), (.int .i64 x149'), (.int .i64 (wrapF .i64 (x3s - 1))), (.func (.func g4s) fi4s ca4s)] h151' undef h152' ∧
  I115_0 O Q a0 n0 c0 x1 x2 x3 g4 fi4 ca4 (wrapF .i64 (x149' + 1)) x2s (wrapF .i64 (x3s - 1)) g4s fi4s ca4s (!(ltI (wrapF .i64 (x149' - x1s)) (wrapF .i64 (Int.tdiv (wrapF .i64 (x2s - x1s)) 8)))) q150' h152')
  (∃ h153', EvC Tryd.prog O 115 [(.slice a0 n0 c0), (.int .i64 (wrapF .i64 (x149' + 1))), (.int .i64 x2s), (.int .i64 (wrapF .i64 (x3s - 1))), (.func (.func g4s) fi4s ca4s)] h151' undef h153' ∧
  I115_0 O Q a0 n0 c0 x1 x2 x3 g4 fi4 ca4 x1s x149' (wrapF .i64 (x3s - 1)) g4s fi4s ca4s (!(ltI (wrapF .i64 (x2s - x149')) (wrapF .i64 (Int.tdiv (wrapF .i64 (x2s - x1s)) 8)))) q150' h153'))))
  (vcond (ltI 0 x1s)
  (isNat (wrapF .i64 (x1s - 1)) fun n154' =>
  isAddr a0 fun b155' f156' =>
  vreq (Nat.blt n154' n0)
  (∃ x157', readAt (h107'.rsv 17) b155' (f156' + (n154' * 1)) 1 = some [(.int .i64 x157')] ∧
  isNat (wrapF .i64 ((wrapF .i64 (x2s - 1)) - (wrapF .i64 (x104' - x1s)))) fun n158' =>
  isAddr a0 fun b159' f160' =>
  vreq (Nat.blt n158' n0)
  (∃ x161', readAt (h107'.rsv 17) b159' (f160' + (n158' * 1)) 1 = some [(.int .i64 x161')] ∧
  ∃ x162', ∃ h163', EvC Tryd.prog O g4s (fi4s.toList ++ [(.int .i64 x157'), (.int .i64 x161')] ++ ca4s.toList) ((h107'.rsv 17).grd []) (.int .i64 x162') h163' ∧
  vcond (!(ltI x162' 0))
  (∃ x164', ∃ h165', EvC Tryd.prog O 133 [(.slice a0 n0 c0), (.int .i64 x1s), (.int .i64 x2s), (.int .i64 (wrapF .i64 ((wrapF .i64 (x2s - 1)) - (wrapF .i64 (x104' - x1s))))), (.func (.func g4s) fi4s ca4s)] (h163'.rst (h107'.rsv 17)) (.int .i64 x164') h165' ∧
  I115_0 O Q a0 n0 c0 x1 x2 x3 g4 fi4 ca4 x164' x2s (wrapF .i64 (x3s - 1)) g4s fi4s ca4s q10 q11 h165')
  (∃ x166', ∃ q167', ∃ h168', EvC Tryd.prog O 134 [(.slice a0 n0 c0), (.int .i64 x1s), (.int .i64 x2s), (.int .i64 (wrapF .i64 ((wrapF .i64 (x2s - 1)) - (wrapF .i64 (x104' - x1s))))), (.func (.func g4s) fi4s ca4s)] (h163'.rst (h107'.rsv 17)) (.tuple #[(.int .i64 x166'), (.bool q167')]) h168' ∧
  vcond (ltI (wrapF .i64 (x166' - x1s)) (wrapF .i64 (x2s - x166')))
  (∃ h169', EvC Tryd.prog O 115 [(.slice a0 n0 c0), (.int .i64 x1s), (.int .i64 x166'), (.int .i64 (wrapF .i64 (x3s - 1))), (.func (.func g4s) fi4s ca4s)] h168' undef h169' ∧
  I115_0 O Q a0 n0 c0 x1 x2 x3 g4 fi4 ca4 (wrapF .i64 (x166' + 1)) x2s (wrapF .i64 (x3s - 1)) g4s fi4s ca4s (!(ltI (wrapF .i64 (x166' - x1s)) (wrapF .i64 (Int.tdiv (wrapF .i64 (x2s - x1s)) 8)))) q167' h169')
  (∃ h170', EvC Tryd.prog O 115 [(.slice a0 n0 c0), (.int .i64 (wrapF .i64 (x166' + 1))), (.int .i64 x2s), (.int .i64 (wrapF .i64 (x3s - 1))), (.func (.func g4s) fi4s ca4s)] h168' undef h170' ∧
  I115_0 O Q a0 n0 c0 x1 x2 x3 g4 fi4 ca4 x1s x166' (wrapF .i64 (x3s - 1)) g4s fi4s ca4s (!(ltI (wrapF .i64 (x2s - x166')) (wrapF .i64 (Int.tdiv (wrapF .i64 (x2s - x1s)) 8)))) q167' h170')))))
  (∃ x171', ∃ q172', ∃ h173', EvC Tryd.prog O 134 [(.slice a0 n0 c0), (.int .i64 x1s), (.int .i64 x2s), (.int .i64 (wrapF .i64 ((wrapF .i64 (x2s - 1)) - (wrapF .i64 (x104' - x1s))))), (.func (.func g4s) fi4s ca4s)] (h107'.rsv 17) (.tuple #[(.int .i64 x171'), (.bool q172')]) h173' ∧
  vcond (ltI (wrapF .i64 (x171' - x1s)) (wrapF .i64 (x2s - x171')))
  (∃ h174', EvC Tryd.prog O 115 [(.slice a0 n0 c0), (.int .i64 x1s), (.int .i64 x171'), (.int .i64 (wrapF .i64 (x3s - 1))), (.func (.func g4s) fi4s ca4s)] h173' undef h174' ∧
  I115_0 O Q a0 n0 c0 x1 x2 x3 g4 fi4 ca4 (wrapF .i64 (x171' + 1)) x2s (wrapF .i64 (x3s - 1)) g4s fi4s ca4s (!(ltI (wrapF .i64 (x171' - x1s)) (wrapF .i64 (Int.tdiv (wrapF .i64 (x2s - x1s)) 8)))) q172' h174')
  (∃ h175', EvC Tryd.prog O 115 [(.slice a0 n0 c0), (.int .i64 (wrapF .i64 (x171' + 1))), (.int .i64 x2s), (.int .i64 (wrapF .i64 (x3s - 1))), (.func (.func g4s) fi4s ca4s)] h173' undef h175' ∧
  I115_0 O Q a0 n0 c0 x1 x2 x3 g4 fi4 ca4 x1s x171' (wrapF .i64 (x3s - 1)) g4s fi4s ca4s (!(ltI (wrapF .i64 (x2s - x171')) (wrapF .i64 (Int.tdiv (wrapF .i64 (x2s - x1s)) 8)))) q172' h175'))))
  (vcond q10
  (vcond q11
  (vcond (eqI x105' 1)
  (∃ q176', ∃ h177', EvC Tryd.prog O 132 [(.slice a0 n0 c0), (.int .i64 x1s), (.int .i64 x2s), (.func (.func g4s) fi4s ca4s)] h106' (.bool q176') h177' ∧
  vcond q176'
  (Q undef h177')
  (vcond (ltI 0 x1s)
  (isNat (wrapF .i64 (x1s - 1)) fun n178' =>
  isAddr a0 fun b179' f180' =>
  vreq (Nat.blt n178' n0)
  (∃ x181', readAt (h177'.rsv 17) b179' (f180' + (n178' * 1)) 1 = some [(.int .i64 x181')] ∧
  isNat x104' fun n182' =>
  isAddr a0 fun b183' f184' =>
  vreq (Nat.blt n182' n0)
  (∃ x185', readAt (h177'.rsv 17) b183' (f184' + (n182' * 1)) 1 = some [(.int .i64 x185')] ∧
  ∃ x186', ∃ h187', EvC Tryd.prog O g4s (fi4s.toList ++ [(.int .i64 x181'), (.int .i64 x185')] ++ ca4s.toList) ((h177'.rsv 17).grd []) (.int .i64 x186') h187' ∧
  vcond (!(ltI x186' 0))
  (∃ x188', ∃ h189', EvC Tryd.prog O 133 [(.slice a0 n0 c0), (.int .i64 x1s), (.int .i64 x2s), (.int .i64 x104'), (.func (.func g4s) fi4s ca4s)] (h187'.rst (h177'.rsv 17)) (.int .i64 x188') h189' ∧
  I115_0 O Q a0 n0 c0 x1 x2 x3 g4 fi4 ca4 x188' x2s (wrapF .i64 (x3s - 1)) g4s fi4s ca4s q10 q11 h189')
  (∃ x190', ∃ q191', ∃ h192', EvC Tryd.prog O 134 [(.slice a0 n0 c0), (.int .i64 x1s), (.int .i64 x2s), (.int .i64 x104'), (.func (.func g4s) fi4s ca4s)] (h187'.rst (h177'.rsv 17)) (.tuple #[(.int .i64 x190'), (.bool q191')]) h192' ∧
  vcond (ltI (wrapF .i64 (x190' - x1s)) (wrapF .i64 (x2s - x190')))
  (∃ h193', EvC Tryd.prog O 115 [(.slice a0 n0 c0), (.int .i64 x1s), (.int .i64 x190'), (.int .i64 (wrapF .i64 (x3s - 1))), (.func (.func g4s) fi4s ca4s)] h192' undef h193' ∧
  I115_0 O Q a0 n0 c0 x1 x2 x3 g4 fi4 ca4 (wrapF .i64 (x190' + 1)) x2s (wrapF .i64 (x3s - 1)) g4s fi4s ca4s (!(ltI (wrapF .i64 (x190' - x1s)) (wrapF .i64 (Int.tdiv (wrapF .i64 (x2s - x1s)) 8)))) q191' h193')
  (∃ h194', EvC Tryd.prog O 115 [(.slice a0 n0 c0), (.int .i64 (wrapF .i64 (x190' + 1))), (.int .i64 x2s), (.int .i64 (wrapF .i64 (x3s - 1))), (.func (.func g4s) fi4s ca4s)] h192' undef h194' ∧
  I115_0 O Q a0 n0 c0 x1 x2 x3 g4 fi4 ca4 x1s x190' (wrapF .i64 (x3s - 1)) g4s fi4s ca4s (!(ltI (wrapF .i64 (x2s - x190')) (wrapF .i64 (Int.tdiv (wrapF .i64 (x2s - x1s)) 8)))) q191' h194')))))
  (∃ x195', ∃ q196', ∃ h197', EvC Tryd.prog O 134 [(.slice a0 n0 c0), (.int .i64 x1s), (.int .i64 x2s), (.int .i64 x104'), (.func (.func g4s) fi4s ca4s)] (h177'.rsv 17) (.tuple #[(.int .i64 x195'), (.bool q196')]) h197' ∧
  vcond (ltI (wrapF .i64 (x195' - x1s)) (wrapF .i64 (x2s - x195')))
  (∃ h198', EvC Tryd.prog O 115 [(.slice a0 n0 c0), (.int .i64 x1s), (.int .i64 x195'), (.int .i64 (wrapF .i64 (x3s - 1))), (.func (.func g4s) fi4s ca4s)] h197' undef h198' ∧
  I115_0 O Q a0 n0 c0 x1 x2 x3 g4 fi4 ca4 (wrapF .i64 (x195' + 1)) x2s (wrapF .i64 (x3s - 1)) g4s fi4s ca4s (!(ltI (wrapF .i64 (x195' - x1s)) (wrapF .i64 (Int.tdiv (wrapF .i64 (x2s - x1s)) 8)))) q196' h198')
  (∃ h199', EvC Tryd.prog O 115 [(.slice a0 n0 c0), (.int .i64 (wrapF .i64 (x195' + 1))), (.int .i64 x2s), (.int .i64 (wrapF .i64 (x3s - 1))), (.func (.func g4s) fi4s ca4s)] h197' undef h199' ∧
  I115_0 O Q a0 n0 c0 x1 x2 x3 g4 fi4 ca4 x1s x195' (wrapF .i64 (x3s - 1)) g4s fi4s ca4s (!(ltI (wrapF .i64 (x2s - x195')) (wrapF .i64 (Int.tdiv (wrapF .i64 (x2s - x1s)) 8)))) q196' h199'))))
  (vcond (ltI 0 x1s)
  (isNat (wrapF .i64 (x1s - 1)) fun n200' =>
  isAddr a0 fun b201' f202' =>
  vreq (Nat.blt n200' n0)
  (∃ x203', readAt (h106'.rsv 17) b201' (f202' + (n200' * 1)) 1 = some [(.int .i64 x203')] ∧
  isNat x104' fun n204' =>
  isAddr a0 fun b205' f206' =>
  vreq (Nat.blt n204' n0)
  (∃ x207', readAt (h106'.rsv 17) b205' (f206' + (n204' * 1)) 1 = some [(.int .i64 x207')] ∧
  ∃ x208', ∃ h209', EvC Tryd.prog O g4s (fi4s.toList ++ [(.int .i64 x203'), (.int .i64 x207')] ++ ca4s.toList) ((h106'.rsv 17).grd []) (.int .i64 x208') h209' ∧
  vcond (!(ltI x208' 0))
  (∃ x210', ∃ h211', EvC Tryd.prog O 133 [(.slice a0 n0 c0), (.int .i64 x1s), (.int .i64 x2s), (.int .i64 x104'), (.func (.func g4s) fi4s ca4s)] (h209'.rst (h106'.rsv 17)) (.int .i64 x210') h211' ∧
  I115_0 O Q a0 n0 c0 x1 x2 x3 g4 fi4 ca4 x210' x2s (wrapF .i64 (x3s - 1)) g4s fi4s ca4s q10 q11 h211')
  (∃ x212', ∃ q213', ∃ h214', EvC Tryd.prog O 134 [(.slice a0 n0 c0), (.int .i64 x1s), (.int .i64 x2s), (.int .i64 x104'), (.func (.func g4s) fi4s ca4s)] (h209'.rst (h106'.rsv 17)) (.tuple #[(.int .i64 x212'), (.bool q213')]) h214' ∧
  vcond (ltI (wrapF .i64 (x212' - x1s)) (wrapF .i64 (x2s - x212')))
  (∃ h215', EvC Tryd.prog O 115 [(.slice a0 n0 c0), (.int .i64 x1s), (.int .i64 x212'), (.int .i64 (wrapF .i64 (x3s - 1))), (.func (.func g4s) fi4s ca4s)] h214' undef h215' ∧
  I115_0 O Q a0 n0 c0 x1 x2 x3 g4 fi4 ca4 (wrapF .i64 (x212' + 1)) x2s (wrapF .i64 (x3s - 1)) g4s fi4s ca4s (!(ltI (wrapF .i64 (x212' - x1s)) (wrapF .i64 (Int.tdiv (wrapF .i64 (x2s - x1s)) 8)))) q213' h215')
  (∃ h216', EvC Tryd.prog O 115 [(.slice a0 n0 c0), (.int .i64 (wrapF .i64 (x212' + 1))), (.int .i64 x2s), (.int .i64 (wrapF .i64 (x3s - 1))), (.func (.func g4s) fi4s ca4s)] h214' undef h216' ∧
  I115_0 O Q a0 n0 c0 x1 x2 x3 g4 fi4 ca4 x1s x212' (wrapF .i64 (x3s - 1)) g4s fi4s ca4s (!(ltI (wrapF .i64 (x2s - x212')) (wrapF .i64 (Int.tdiv (wrapF .i64 (x2s - x1s)) 8)))) q213' h216')))))
  (∃ x217', ∃ q218', ∃ h219', EvC Tryd.prog O 134 [(.slice a0 n0 c0), (.int .i64 x1s), (.int .i64 x2s), (.int .i64 x104'), (.func (.func g4s) fi4s ca4s)] (h106'.rsv 17) (.tuple #[(.int .i64 x217'), (.bool q218')]) h219' ∧
  vcond (ltI (wrapF .i64 (x217' - x1s)) (wrapF .i64 (x2s - x217')))
  (∃ h220', EvC Tryd.prog O 115 [(.slice a0 n0 c0), (.int .i64 x1s), (.int .i64 x217'), (.int .i64 (wrapF .i64 (x3s - 1))), (.func (.func g4s) fi4s ca4s)] h219' undef h220' ∧
  I115_0 O Q a0 n0 c0 x1 x2 x3 g4 fi4 ca4 (wrapF .i64 (x217' + 1)) x2s (wrapF .i64 (x3s - 1)) g4s fi4s ca4s (!(ltI (wrapF .i64 (x217' - x1s)) (wrapF .i64 (Int.tdiv (wrapF .i64 (x2s - x1s)) 8)))) q218' h220')
  (∃ h221', EvC Tryd.prog O 115 [(.slice a0 n0 c0), (.int .i64 (wrapF .i64 (x217' + 1))), (.int .i64 x2s), (.int .i64 (wrapF .i64 (x3s - 1))), (.func (.func g4s) fi4s ca4s)] h219' undef h221' ∧
  I115_0 O Q a0 n0 c0 x1 x2 x3 g4 fi4 ca4 x1s x217' (wrapF .i64 (x3s - 1)) g4s fi4s ca4s (!(ltI (wrapF .i64 (x2s - x217')) (wrapF .i64 (Int.tdiv (wrapF .i64 (x2s - x1s)) 8)))) q218' h221'))))
  (vcond (ltI 0 x1s)
  (isNat (wrapF .i64 (x1s - 1)) fun n222' =>
  isAddr a0 fun b223' f224' =>
  vreq (Nat.blt n222' n0)
  (∃ x225', readAt (h106'.rsv 17) b223' (f224' + (n222' * 1)) 1 = some [(.int .i64 x225')] ∧
  isNat x104' fun n226' =>
  isAddr a0 fun b227' f228' =>
  vreq (Nat.blt n226' n0)
  (∃ x229', readAt (h106'.rsv 17) b227' (f228' + (n226' * 1)) 1 = some [(.int .i64 x229')] ∧
  ∃ x230', ∃ h231', EvC Tryd.prog O g4s (fi4s.toList ++ [(.int .i64 x225'), (.int .i64 x229')] ++ ca4s.toList) ((h106'.rsv 17).grd []) (.int .i64 x230') h231' ∧
  vcond (!(ltI x230' 0))
  (∃ x232', ∃ h233', EvC Tryd.prog O 133 [(.slice a0 n0 c0), (.int .i64 x1s), (.int .i64 x2s), (.int .i64 x104'), (.func (.func g4s) fi4s ca4s)] (h231'.rst (h106'.rsv 17)) (.int .i64 x232') h233' ∧
  I115_0 O Q a0 n0 c0 x1 x2 x3 g4 fi4 ca4 x232' x2s (wrapF .i64 (x3s - 1)) g4s fi4s ca4s q10 q11 h233')
  (∃ x234', ∃ q235', ∃ h236', EvC Tryd.prog O 134 [(.slice a0 n0 c0), (.int .i64 x1s), (.int .i64 x2s), (.int .i64 x104'), (.func (.func g4s) fi4s ca4s)] (h231'.rst (h106'.rsv 17)) (.tuple #[(.int .i64 x234'), (.bool q235')]) h236' ∧
  vcond (ltI (wrapF .i64 (x234' - x1s)) (wrapF .i64 (x2s - x234')))
  (∃ h237', EvC Tryd.prog O 115 [(.slice a0 n0 c0), (.int .i64 x1s), (.int .i64 x234'), (.int .i64 (wrapF .i64 (x3s - 1))), (.func (.func g4s) fi4s ca4s)] h236' undef h237' ∧
  I115_0 O Q a0 n0 c0 x1 x2 x3 g4 fi4 ca4 (wrapF .i64 (x234' + 1)) x2s (wrapF .i64 (x3s - 1)) g4s fi4s ca4s (!(ltI (wrapF .i64 (x234' - x1s)) (wrapF .i64 (Int.tdiv (wrapF .i64 (x2s - x1s)) 8)))) q235' h237')
  (∃ h238', EvC Tryd.prog O 115 [(.slice a0 n0 c0), (.int .i64 (wrapF .i64 (x234' + 1))), (.int .i64 x2s), (.int .i64 (wrapF .i64 (x3s - 1))), (.func (.func g4s) fi4s ca4s)] h236' undef h238' ∧
  I115_0 O Q a0 n0 c0 x1 x2 x3 g4 fi4 ca4 x1s x234' (wrapF .i64 (x3s - 1)) g4s fi4s ca4s (!(ltI (wrapF .i64 (x2s - x234')) (wrapF .i64 (Int.tdiv (wrapF .i64 (x2s - x1s)) 8)))) q235' h238')))))
  (∃ x239', ∃ q240', ∃ h241', EvC Tryd.prog O 134 [(.slice a0 n0 c0), (.int .i64 x1s), (.int .i64 x2s), (.int .i64 x104'), (.func (.func g4s) fi4s ca4s)] (h106'.rsv 17) (.tuple #[(.int .i64 x239'), (.bool q240')]) h241' ∧
  vcond (ltI (wrapF .i64 (x239' - x1s)) (wrapF .i64 (x2s - x239')))
  (∃ h242', EvC Tryd.prog O 115 [(.slice a0 n0 c0), (.int .i64 x1s), (.int .i64 x239'), (.int .i64 (wrapF .i64 (x3s - 1))), (.func (.func g4s) fi4s ca4s)] h241' undef h242' ∧
  I115_0 O Q a0 n0 c0 x1 x2 x3 g4 fi4 ca4 (wrapF .i64 (x239' + 1)) x2s (wrapF .i64 (x3s - 1)) g4s fi4s ca4s (!(ltI (wrapF .i64 (x239' - x1s)) (wrapF .i64 (Int.tdiv (wrapF .i64 (x2s - x1s)) 8)))) q240' h242')
  (∃ h243', EvC Tryd.prog O 115 [(.slice a0 n0 c0), (.int .i64 (wrapF .i64 (x239' + 1))), (.int .i64 x2s), (.int .i64 (wrapF .i64 (x3s - 1))), (.func (.func g4s) fi4s ca4s)] h241' undef h243' ∧
  I115_0 O Q a0 n0 c0 x1 x2 x3 g4 fi4 ca4 x1s x239' (wrapF .i64 (x3s - 1)) g4s fi4s ca4s (!(ltI (wrapF .i64 (x2s - x239')) (wrapF .i64 (Int.tdiv (wrapF .i64 (x2s - x1s)) 8)))) q240' h243'))))
  (vcond (ltI 0 x1s)
  (isNat (wrapF .i64 (x1s - 1)) fun n244' =>
  isAddr a0 fun b245' f246' =>
  vreq (Nat.blt n244' n0)
  (∃ x247', readAt (h106'.rsv 17) b245' (f246' + (n244' * 1)) 1 = some [(.int .i64 x247')] ∧
  isNat x104' fun n248' =>
  isAddr a0 fun b249' f250' =>
  vreq (Nat.blt n248' n0)
  (∃ x251', readAt (h106'.rsv 17) b249' (f250' + (n248' * 1)) 1 = some [(.int .i64 x251')] ∧
  ∃ x252', ∃ h253', EvC Tryd.prog O g4s (fi4s.toList ++ [(.int .i64 x247'), (.int .i64 x251')] ++ ca4s.toList) ((h106'.rsv 17).grd []) (.int .i64 x252') h253' ∧
  vcond (!(ltI x252' 0))
  (∃ x254', ∃ h255', EvC Tryd.prog O 133 [(.slice a0 n0 c0), (.int .i64 x1s), (.int .i64 x2s), (.int .i64 x104'), (.func (.func g4s) fi4s ca4s)] (h253'.rst (h106'.rsv 17)) (.int .i64 x254') h255' ∧
  I115_0 O Q a0 n0 c0 x1 x2 x3 g4 fi4 ca4 x254' x2s (wrapF .i64 (x3s - 1)) g4s fi4s ca4s q10 q11 h255')
  (∃ x256', ∃ q257', ∃ h258', EvC Tryd.prog O 134 [(.slice a0 n0 c0), (.int .i64 x1s), (.int .i64 x2s), (.int .i64 x104'), (.func (.func g4s) fi4s ca4s)] (h253'.rst (h106'.rsv 17)) (.tuple #[(.int .i64 x256'), (.bool q257')]) h258' ∧
  vcond (ltI (wrapF .i64 (x256' - x1s)) (wrapF .i64 (x2s - x256')))
  (∃ h259', EvC Tryd.prog O 115 [(.slice a0 n0 c0), (.int .i64 x1s), (.int .i64 x256'), (.int .i64 (wrapF .i64 (x3s - 1))), (.func (.func g4s) fi4s ca4s)] h258' undef h259' ∧
  I115_0 O Q a0 n0 c0 x1 x2 x3 g4 fi4 ca4 (wrapF .i64 (x256' + 1)) x2s (wrapF .i64 (x3s - 1)) g4s fi4s ca4s (!(ltI (wrapF .i64 (x256' - x1s)) (wrapF .i64 (Int.tdiv (wrapF .i64 (x2s - x1s)) 8)))) q257' h259')
  (∃ h260', EvC Tryd.prog O 115 [(.slice a0 n0 c0), (.int .i64 (wrapF .i64 (x256' + 1))), (.int .i64 x2s), (.int .i64 (wrapF .i64 (x3s - 1))), (.func (.func g4s) fi4s ca4s)] h258' undef h260' ∧
  I115_0 O Q a0 n0 c0 x1 x2 x3 g4 fi4 ca4 x1s x256' (wrapF .i64 (x3s - 1)) g4s fi4s ca4s (!(ltI (wrapF .i64 (x2s - x256')) (wrapF .i64 (Int.tdiv (wrapF .i64 (x2s - x1s)) 8)))) q257' h260')))))
  (∃ x261', ∃ q262', ∃ h263', EvC Tryd.prog O 134 [(.slice a0 n0 c0), (.int .i64 x1s), (.int .i64 x2s), (.int .i64 x104'), (.func (.func g4s) fi4s ca4s)] (h106'.rsv 17) (.tuple #[(.int .i64 x261'), (.bool q262')]) h263' ∧
  vcond (ltI (wrapF .i64 (x261' - x1s)) (wrapF .i64 (x2s - x261')))
  (∃ h264', EvC Tryd.prog O 115 [(.slice a0 n0 c0), (.int .i64 x1s), (.int .i64 x261'), (.int .i64 (wrapF .i64 (x3s - 1))), (.func (.func g4s) fi4s ca4s)] h263' undef h264' ∧
  I115_0 O Q a0 n0 c0 x1 x2 x3 g4 fi4 ca4 (wrapF .i64 (x261' + 1)) x2s (wrapF .i64 (x3s - 1)) g4s fi4s ca4s (!(ltI (wrapF .i64 (x261' - x1s)) (wrapF .i64 (Int.tdiv (wrapF .i64 (x2s - x1s)) 8)))) q262' h264')
  (∃ h265', EvC Tryd.prog O 115 [(.slice a0 n0 c0), (.int .i64 (wrapF .i64 (x261' + 1))), (.int .i64 x2s), (.int .i64 (wrapF .i64 (x3s - 1))), (.func (.func g4s) fi4s ca4s)] h263' undef h265' ∧
  I115_0 O Q a0 n0 c0 x1 x2 x3 g4 fi4 ca4 x1s x261' (wrapF .i64 (x3s - 1)) g4s fi4s ca4s (!(ltI (wrapF .i64 (x2s - x261')) (wrapF .i64 (Int.tdiv (wrapF .i64 (x2s - x1s)) 8)))) q262' h265')))))
  (∃ x266', ∃ x267', ∃ h268', EvC Tryd.prog O 130 [(.slice a0 n0 c0), (.int .i64 x1s), (.int .i64 x2s), (.func (.func g4s) fi4s ca4s)] h (.tuple #[(.int .i64 x266'), (.int .i64 x267')]) h268' ∧
  vcond (eqI x267' 2)
  (∃ h269', EvC Tryd.prog O 131 [(.slice a0 n0 c0), (.int .i64 x1s), (.int .i64 x2s), (.func (.func g4s) fi4s ca4s)] h268' undef h269' ∧
  vcond q10
  (vcond q11
  (∃ q270', ∃ h271', EvC Tryd.prog O 132 [(.slice a0 n0 c0), (.int .i64 x1s), (.int .i64 x2s), (.func (.func g4s) fi4s ca4s)] h269' (.bool q270') h271' ∧
  vcond q270'
  (Q undef h271')
  (vcond (ltI 0 x1s)
  (isNat (wrapF .i64 (x1s - 1)) fun n272' =>
  isAddr a0 fun b273' f274' =>
  vreq (Nat.blt n272' n0)
  (∃ x275', readAt (h271'.rsv 17) b273' (f274' + (n272' * 1)) 1 = some [(.int .i64 x275')] ∧
  isNat (wrapF .i64 ((wrapF .i64 (x2s - 1)) - (wrapF .i64 (x266' - x1s)))) fun n276' =>
  isAddr a0 fun b277' f278' =>
  vreq (Nat.blt n276' n0)
  (∃ x279', readAt (h271'.rsv 17) b277' (f278' + (n276' * 1)) 1 = some [(.int .i64 x279')] ∧
  ∃ x280', ∃ h281', EvC Tryd.prog O g4s (fi4s.toList ++ [(.int .i64 x275'), (.int .i64 x279')] ++ ca4s.toList) ((h271'.rsv 17).grd []) (.int .i64 x280') h281' ∧
  vcond (!(ltI x280' 0))
  (∃ x282', ∃ h283', EvC Tryd.prog O 133 [(.slice a0 n0 c0), (.int .i64 x1s), (.int .i64 x2s), (.int .i64 (wrapF .i64 ((wrapF .i64 (x2s - 1)) - (wrapF .i64 (x266' - x1s))))), (.func (.func g4s) fi4s ca4s)] (h281'.rst (h271'.rsv 17)) (.int .i64 x282') h283' ∧
  I115_0 O Q a0 n0 c0 x1 x2 x3 g4 fi4 ca4 x282' x2s x3s g4s fi4s ca4s q10 q11 h283')
  (∃ x284', ∃ q285', ∃ h286', EvC Tryd.prog O 134 [(.slice a0 n0 c0), (.int .i64 x1s), (.int .i64 x2s), (.int .i64 (wrapF .i64 ((wrapF .i64 (x2s - 1)) - (wrapF .i64 (x266' - x1s))))), (.func (.func g4s) fi4s ca4s)] (h281'.rst (h271'.rsv 17)) (.tuple #[(.int .i64 x284'), (.bool q285')]) h286' ∧
  vcond (ltI (wrapF .i64 (x284' - x1s)) (wrapF .i64 (x2s - x284')))
  (∃ h287', EvC Tryd.prog O 115 [(.slice a0 n0 c0), (.int .i64 x1s), (.int .i64 x284'), (.int .i64 x3s), (.func (.func g4s) fi4s ca4s)] h286' undef h287' ∧
  I115_0 O Q a0 n0 c0 x1 x2 x3 g4 fi4 ca4 (wrapF .i64 (x284' + 1)) x2s x3s g4s fi4s ca4s (!(ltI (wrapF .i64 (x284' - x1s)) (wrapF .i64 (Int.tdiv (wrapF .i64 (x2s - x1s)) 8)))) q285' h287')
  (∃ h288', EvC Tryd.prog O 115 [(.slice a0 n0 c0), (.int .i64 (wrapF .i64 (x284' + 1))), (.int .i64 x2s), (.int .i64 x3s), (.func (.func g4s) fi4s ca4s)] h286' undef h288' ∧
  I115_0 O Q a0 n0 c0 x1 x2 x3 g4 fi4 ca4 x1s x284' x3s g4s fi4s ca4s (!(ltI (wrapF .i64 (x2s - x284')) (wrapF .i64 (Int.tdiv (wrapF .i64 (x2s - x1s)) 8)))) q285' h288')))))
  (∃ x289', ∃ q290', ∃ h291', EvC Tryd.prog O 134 [(.slice a0 n0 c0), (.int .i64 x1s), (.int .i64 x2s), (.int .i64 (wrapF .i64 ((wrapF .i64 (x2s - 1)) - (wrapF .i64 (x266' - x1s))))), (.func (.func g4s) fi4s ca4s)] (h271'.rsv 17) (.tuple #[(.int .i64 x289'), (.bool q290')]) h291' ∧
  vcond (ltI (wrapF .i64 (x289' - x1s)) (wrapF .i64 (x2s - x289')))
  (∃ h292', EvC Tryd.prog O 115 [(.slice a0 n0 c0), (.int .i64 x1s), (.int .i64 x289'), (.int .i64 x3s), (.func (.func g4s) fi4s ca4s)] h291' undef h292' ∧
  I115_0 O Q a0 n0 c0 x1 x2 x3 g4 fi4 ca4 (wrapF .i64 (x289' + 1)) x2s x3s g4s fi4s ca4s (!(ltI (wrapF .i64 (x289' - x1s)) (wrapF .i64 (Int.tdiv (wrapF .i64 (x2s - x1s)) 8)))) q290' h292')
  (∃ h293', EvC Tryd.prog O 115 [(.slice a0 n0 c0), (.int .i64 (wrapF .i64 (x289' + 1))), (.int .i64 x2s), (.int .i64 x3s), (.func (.func g4s) fi4s ca4s)] h291' undef h293' ∧
  I115_0 O Q a0 n0 c0 x1 x2 x3 g4 fi4 ca4 x1s x289' x3s g4s fi4s ca4s (!(ltI (wrapF .i64 (x2s - x289')) (wrapF .i64 (Int.tdiv (wrapF .i64 (x2s - x1s)) 8)))) q290' h293'))))
  (vcond (ltI 0 x1s)
  (isNat (wrapF .i64 (x1s - 1)) fun n294' =>
  isAddr a0 fun b295' f296' =>
  vreq (Nat.blt n294' n0)
  (∃ x297', readAt (h269'.rsv 17) b295' (f296' + (n294' * 1)) 1 = some [(.int .i64 x297')] ∧
  isNat (wrapF .i64 ((wrapF .i64 (x2s - 1)) - (wrapF .i64 (x266' - x1s)))) fun n298' =>
  isAddr a0 fun b299' f300' =>
  vreq (Nat.blt n298' n0)
  (∃ x301', readAt (h269'.rsv 17) b299' (f300' + (n298' * 1)) 1 = some [(.int .i64 x301')] ∧
  ∃ x302', ∃ h303', EvC Tryd.prog O g4s (fi4s.toList ++ [(.int .i64 x297'), (.int .i64 x301')] ++ ca4s.toList) ((h269'.rsv 17).grd []) (.int .i64 x302') h303' ∧
  vcond (!(ltI x302' 0))
  (∃ x304', ∃ h305', EvC Tryd.prog O 133 [(.slice a0 n0 c0), (.int .i64 x1s), (.int .i64 x2s), (.int .i64 (wrapF .i64 ((wrapF .i64 (x2s - 1)) - (wrapF .i64 (x266' - x1s))))), (.func (.func g4s) fi4s ca4s)] (h303'.rst (h269'.rsv 17)) (.int .i64 x304') h305' ∧
  I115_0 O Q a0 n0 c0 x1 x2 x3 g4 fi4 ca4 x304' x2s x3s g4s fi4s ca4s q10 q11 h305')
  (∃ x306', ∃ q307', ∃ h308', EvC Tryd.prog O 134 [(.slice a0 n0 c0), (.int .i64 x1s), (.int .i64 x2s), (.int .i64 (wrapF .i64 ((wrapF .i64 (x2s - 1)) - (wrapF .i64 (x266' - x1s))))), (.func (.func g4s) fi4s ca4s)] (h303'.rst (h269'.rsv 17)) (.tuple #[(.int .i64 x306'), (.bool q307')]) h308' ∧
  vcond (ltI (wrapF .i64 (x306' - x1s)) (wrapF .i64 (x2s - x306')))
  (∃ h309', EvC Tryd.prog O 115 [(.slice a0 n0 c0), (.int .i64 x1s), (.int .i64 x306'), (.int .i64 x3s), (.func (.func g4s) fi4s ca4s)] h308' undef h309' ∧
  I115_0 O Q a0 n0 c0 x1 x2 x3 g4 fi4 ca4 (wrapF .i64 (x306' + 1)) x2s x3s g4s fi4s ca4s (!(ltI (wrapF .i64 (x306' - x1s)) (wrapF .i64 (Int.tdiv (wrapF .i64 (x2s - x1s)) 8)))) q307' h309')
  (∃ h310', EvC Tryd.prog O 115 [(.slice a0 n0 c0), (.int .i64 (wrapF .i64 (x306' + 1))), (.int .i64 x2s), (.int .i64 x3s), (.func (.func g4s) fi4s ca4s)] h308' undef h310' ∧
  I115_0 O Q a0 n0 c0 x1 x2 x3 g4 fi4 ca4 x1s x306' x3s g4s fi4s ca4s (!(ltI (wrapF .i64 (x2s - x306')) (wrapF .i64 (Int.tdiv (wrapF .i64 (x2s - x1s)) 8)))) q307' h310')))))
  (∃ x311', ∃ q312', ∃ h313', EvC Tryd.prog O 134 [(.slice a0 n0 c0), (.int .i64 x1s), (.int .i64 x2s), (.int .i64 (wrapF .i64 ((wrapF .i64 (x2s - 1)) - (wrapF .i64 (x266' - x1s))))), (.func (.func g4s) fi4s ca4s)] (h269'.rsv 17) (.tuple #[(.int .i64 x311'), (.bool q312')]) h313' ∧
  vcond (ltI (wrapF .i64 (x311' - x1s)) (wrapF .i64 (x2s - x311')))
  (∃ h314', EvC Tryd.prog O 115 [(.slice a0 n0 c0), (.int .i64 x1s), (.int .i64 x311'), (.int .i64 x3s), (.func (.func g4s) fi4s ca4s)] h313' undef h314' ∧
  I115_0 O Q a0 n0 c0 x1 x2 x3 g4 fi4 ca4 (wrapF .i64 (x311' + 1)) x2s x3s g4s fi4s ca4s (!(ltI (wrapF .i64 (x311' - x1s)) (wrapF .i64 (Int.tdiv (wrapF .i64 (x2s - x1s)) 8)))) q312' h314')
  (∃ h315', EvC Tryd.prog O 115 [(.slice a0 n0 c0), (.int .i64 (wrapF .i64 (x311' + 1))), (.int .i64 x2s), (.int .i64 x3s), (.func (.func g4s) fi4s ca4s)] h313' undef h315' ∧
  I115_0 O Q a0 n0 c0 x1 x2 x3 g4 fi4 ca4 x1s x311' x3s g4s fi4s ca4s (!(ltI (wrapF .i64 (x2s - x311')) (wrapF .i64 (Int.tdiv (wrapF .i64 (x2s - x1s)) 8)))) q312' h315'))))
  (vcond (ltI 0 x1s)
  (isNat (wrapF .i64 (x1s - 1)) fun n316' =>
  isAddr a0 fun b317' f318' =>
  vreq (Nat.blt n316' n0)
  (∃ x319', readAt (h269'.rsv 17) b317' (f318' + (n316' * 1)) 1 = some [(.int .i64 x319')] ∧
  isNat (wrapF .i64 ((wrapF .i64 (x2s - 1)) - (wrapF .i64 (x266' - x1s)))) fun n320' =>
  isAddr a0 fun b321' f322' =>
  vreq (Nat.blt n320' n0)
  (∃ x323', readAt (h269'.rsv 17) b321' (f322' + (n320' * 1)) 1 = some [(.int .i64 x323')] ∧
  ∃ x324', ∃ h325', EvC Tryd.prog O g4s (fi4s.toList ++ [(.int .i64 x319'), (.int .i64 x323')] ++ ca4s.toList) ((h269'.rsv 17).grd []) (.int .i64 x324') h325' ∧
  vcond (!(ltI x324' 0))
  (∃ x326', ∃ h327', EvC Tryd.prog O 133 [(.slice a0 n0 c0), (.int .i64 x1s), (.int .i64 x2s), (.int .i64 (wrapF .i64 ((wrapF .i64 (x2s - 1)) - (wrapF .i64 (x266' - x1s))))), (.func (.func g4s) fi4s ca4s)] (h325'.rst (h269'.rsv 17)) (.int .i64 x326') h327' ∧
  I115_0 O Q a0 n0 c0 x1 x2 x3 g4 fi4 ca4 x326' x2s x3s g4s fi4s ca4s q10 q11 h327')
  (∃ x328', ∃ q329', ∃ h330', EvC Tryd.prog O 134 [(.slice a0 n0 c0), (.int .i64 x1s), (.int .i64 x2s), (.int .i64 (wrapF .i64 ((wrapF .i64 (x2s - 1)) - (wrapF .i64 (x266' - x1s))))), (.func (.func g4s) fi4s ca4s)] (h325'.rst (h269'.rsv 17)) (.tuple #[(.int .i64 x328'), (.bool q329')]) h330' ∧
  vcond (ltI (wrapF .i64 (x328' - x1s)) (wrapF .i64 (x2s - x328')))
  (∃ h331', EvC Tryd.prog O 115 [(.slice a0 n0 c0), (.int .i64 x1s), (.int .i64 x328'), (.int .i64 x3s), (.func (.func g4s) fi4s ca4s)] h330' undef h331' ∧
  I115_0 O Q a0 n0 c0 x1 x2 x3 g4 fi4 ca4 (wrapF .i64 (x328' + 1)) x2s x3s g4s fi4s ca4s (!(ltI (wrapF .i64 (x328' - x1s)) (wrapF .i64 (Int.tdiv (wrapF .i64 (x2s - x1s)) 8)))) q329' h331')
  (∃ h332', EvC Tryd.prog O 115 [(.slice a0 n0 c0), (.int .i64 (wrapF .i64 (x328' + 1))), (.int .i64 x2s), (.int .i64 x3s), (.func (.func g4s) fi4s ca4s)] h330' undef h332' ∧
  I115_0 O Q a0 n0 c0 x1 x2 x3 g4 fi4 ca4 x1s x328' x3s g4s fi4s ca4s (!(ltI (wrapF .i64 (x2s - x328')) (wrapF .i64 (Int.tdiv (wrapF .i64 (x2s - x1s)) 8)))) q329' h332')))))
  (∃ x333', ∃ q334', ∃ h335', EvC Tryd.prog O 134 [(.slice a0 n0 c0), (.int .i64 x1s), (.int .i64 x2s), (.int .i64 (wrapF .i64 ((wrapF .i64 (x2s - 1)) - (wrapF .i64 (x266' - x1s))))), (.func (.func g4s) fi4s ca4s)] (h269'.rsv 17) (.tuple #[(.int .i64 x333'), (.bool q334')]) h335' ∧
  vcond (ltI (wrapF .i64 (x333' - x1s)) (wrapF .i64 (x2s - x333')))
  (∃ h336', EvC Tryd.prog O 115 [(.slice a0 n0 c0), (.int .i64 x1s), (.int .i64 x333'), (.int .i64 x3s), (.func (.func g4s) fi4s ca4s)] h335' undef h336' ∧
  I115_0 O Q a0 n0 c0 x1 x2 x3 g4 fi4 ca4 (wrapF .i64 (x333' + 1)) x2s x3s g4s fi4s ca4s (!(ltI (wrapF .i64 (x333' - x1s)) (wrapF .i64 (Int.tdiv (wrapF .i64 (x2s - x1s)) 8)))) q334' h336')
  (∃ h337', EvC Tryd.prog O 115 [(.slice a0 n0 c0), (.int .i64 (wrapF .i64 (x333' + 1))), (.int .i64 x2s), (.int .i64 x3s), (.func (.func g4s) fi4s ca4s)] h335' undef h337' ∧
  I115_0 O Q a0 n0 c0 x1 x2 x3 g4 fi4 ca4 x1s x333' x3s g4s fi4s ca4s (!(ltI (wrapF .i64 (x2s - x333')) (wrapF .i64 (Int.tdiv (wrapF .i64 (x2s - x1s)) 8)))) q334' h337'))))
  (vcond q10
  (vcond q11
  (vcond (eqI x267' 1)
  (∃ q338', ∃ h339', EvC Tryd.prog O 132 [(.slice a0 n0 c0), (.int .i64 x1s), (.int .i64 x2s), (.func (.func g4s) fi4s ca4s)] h268' (.bool q338') h339' ∧
  vcond q338'
  (Q undef h339')
  (vcond (ltI 0 x1s)
  (isNat (wrapF .i64 (x1s - 1)) fun n340' =>
  isAddr a0 fun b341' f342' =>
  vreq (Nat.blt n340' n0)
  (∃ x343', readAt (h339'.rsv 17) b341' (f342' + (n340' * 1)) 1 = some [(.int .i64 x343')] ∧
  isNat x266' fun n344' =>
  isAddr a0 fun b345' f346' =>
  vreq (Nat.blt n344' n0)
  (∃ x347', readAt (h339'.rsv 17) b345' (f346' + (n344' * 1)) 1 = some [(.int .i64 x347')] ∧
  ∃ x348', ∃ h349', EvC Tryd.prog O g4s (fi4s.toList ++ [(.int .i64 x343'), (.int .i64 x347')] ++ ca4s.toList) ((h339'.rsv 17).grd []) (.int .i64 x348') h349' ∧
  vcond (!(ltI x348' 0))
  (∃ x350', ∃ h351', EvC Tryd.prog O 133 [(.slice a0 n0 c0), (.int .i64 x1s), (.int .i64 x2s), (.int .i64 x266'), (.func (.func g4s) fi4s ca4s)] (h349'.rst (h339'.rsv 17)) (.int .i64 x350') h351' ∧
  I115_0 O Q a0 n0 c0 x1 x2 x3 g4 fi4 ca4 x350' x2s x3s g4s fi4s ca4s q10 q11 h351')
  (∃ x352', ∃ q353', ∃ h354', EvC Tryd.prog O 134 [(.slice a0 n0 c0), (.int .i64 x1s), (.int .i64 x2s), (.int .i64 x266'), (.func (.func g4s) fi4s ca4s)] (h349'.rst (h339'.rsv 17)) (.tuple #[(.int .i64 x352'), (.bool q353')]) h354' ∧
  vcond (ltI (wrapF .i64 (x352' - x1s)) (wrapF .i64 (x2s - x352')))
  (∃ h355', EvC Tryd.prog O 115 [(.slice a0 n0 c0), (.int .i64 x1s), (.int .i64 x352'), (.int .i64 x3s), (.func (.func g4s) fi4s ca4s)] h354' undef h355' ∧
  I115_0 O Q a0 n0 c0 x1 x2 x3 g4 fi4 ca4 (wrapF .i64 (x352' + 1)) x2s x3s g4s fi4s ca4s (!(ltI (wrapF .i64 (x352' - x1s)) (wrapF .i64 (Int.tdiv (wrapF .i64 (x2s - x1s)) 8)))) q353' h355')
  (∃ h356', EvC Tryd.prog O 115 [(.slice a0 n0 c0), (.int .i64 (wrapF .i64 (x352' + 1))), (.int .i64 x2s), (.int .i64 x3s), (.func (.func g4s) fi4s ca4s)] h354' undef h356' ∧
  I115_0 O Q a0 n0 c0 x1 x2 x3 g4 fi4 ca4 x1s x352' x3s g4s fi4s ca4s (!(ltI (wrapF .i64 (x2s - x352')) (wrapF .i64 (Int.tdiv (wrapF .i64 (x2s - x1s)) 8)))) q353' h356')))))
  (∃ x357', ∃ q358', ∃ h359', EvC Tryd.prog O 134 [(.slice a0 n0 c0), (.int .i64 x1s), (.int .i64 x2s), (.int .i64 x266'), (.func (.func g4s) fi4s ca4s)] (h339'.rsv 17) (.tuple #[(.int .i64 x357'), (.bool q358')]) h359' ∧
  vcond (ltI (wrapF .i64 (x357' - x1s)) (wrapF .i64 (x2s - x357')))
  (∃ h360', EvC Tryd.prog O 115 [(.slice a0 n0 c0), (.int .i64 x1s), (.int .i64 x357'), (.int .i64 x3s), (.func (.func g4s) fi4s ca4s)] h359' undef h360' ∧
  I115_0 O Q a0 n0 c0 x1 x2 x3 g4 fi4 ca4 (wrapF .i64 (x357' + 1)) x2s x3s g4s fi4s ca4s (!(ltI (wrapF .i64 (x357' - x1s)) (wrapF .i64 (Int.tdiv (wrapF .i64 (x2s - x1s)) 8)))) q358' h360')
  (∃ h361', EvC Tryd.prog O 115 [(.slice a0 n0 c0), (.int .i64 (wrapF .i64 (x357' + 1))), (.int .i64 x2s), (.int .i64 x3s), (.func (.func g4s) fi4s ca4s)] h359' undef h361' ∧
  I115_0 O Q a0 n0 c0 x1 x2 x3 g4 fi4 ca4 x1s x357' x3s g4s fi4s ca4s (!(ltI (wrapF .i64 (x2s - x357')) (wrapF .i64 (Int.tdiv (wrapF .i64 (x2s - x1s)) 8)))) q358' h361'))))
  (vcond (ltI 0 x1s)
  (isNat (wrapF .i64 (x1s - 1)) fun n362' =>
  isAddr a0 fun b363' f364' =>
  vreq (Nat.blt n362' n0)
  (∃ x365', readAt (h268'.rsv 17) b363' (f364' + (n362' * 1)) 1 = some [(.int .i64 x365')] ∧
  isNat x266' fun n366' =>
  isAddr a0 fun b367' f368' =>
  vreq (Nat.blt n366' n0)
  (∃ x369', readAt (h268'.rsv 17) b367' (f368' + (n366' * 1)) 1 = some [(.int .i64 x369')] ∧
  ∃ x370', ∃ h371', EvC Tryd.prog O g4s (fi4s.toList ++ [(.int .i64 x365'), (.int .i64 x369')] ++ ca4s.toList) ((h268'.rsv 17).grd []) (.int .i64 x370') h371' ∧
  vcond (!(ltI x370' 0))
  (∃ x372', ∃ h373', EvC Tryd.prog O 133 [(.slice a0 n0 c0), (.int .i64 x1s), (.int .i64 x2s), (.int .i64 x266'), (.func (.func g4s) fi4s ca4s)] (h371'.rst (h268'.rsv 17)) (.int .i64 x372') h373' ∧
  I115_0 O Q a0 n0 c0 x1 x2 x3 g4 fi4 ca4 x372' x2s x3s g4s fi4s ca4s q10 q11 h373')
  (∃ x374', ∃ q375', ∃ h376', EvC Tryd.prog O 134 [(.slice a0 n0 c0), (.int .i64 x1s), (.int .i64 x2s), (.int .i64 x266'), (.func (.func g4s) fi4s ca4s)] (h371'.rst (h268'.rsv 17)) (.tuple #[(.int .i64 x374'), (.bool q375')]) h376' ∧
  vcond (ltI (wrapF .i64 (x374' - x1s)) (wrapF .i64 (x2s - x374')))
  (∃ h377', EvC Tryd.prog O 115 [(.slice a0 n0 c0), (.int .i64 x1s), (.int .i64 x374'), (.int .i64 x3s), (.func (.func g4s) fi4s ca4s)] h376' undef h377' ∧
  I115_0 O Q a0 n0 c0 x1 x2 x3 g4 fi4 ca4 (wrapF .i64 (x374' + 1)) x2s x3s g4s fi4s ca4s (!(ltI (wrapF .i64 (x374' - x1s)) (wrapF .i64 (Int.tdiv (wrapF .i64 (x2s - x1s)) 8)))) q375' h377')
  (∃ h378', EvC Tryd.prog O 115 [(.slice a0 n0 c0), (.int .i64 (wrapF .i64 (x374' + 1))), (.int .i64 x2s), (.int .i64 x3s), (.func (.func g4s) fi4s ca4s)] h376' undef h378' ∧
  I115_0 O Q a0 n0 c0 x1 x2 x3 g4 fi4 ca4 x1s x374' x3s g4s fi4s ca4s (!(ltI (wrapF .i64 (x2s - x374')) (wrapF .i64 (Int.tdiv (wrapF .i64 (x2s - x1s)) 8)))) q375' h378')))))
  (∃ x379', ∃ q380', ∃ h381', EvC Tryd.prog O 134 [(.slice a0 n0 c0), (.int .i64 x1s), (.int .i64 x2s), (.int .i64 x266'), (.func (.func g4s) fi4s ca4s)] (h268'.rsv 17) (.tuple #[(.int .i64 x379'), (.bool q380')]) h381' ∧
  vcond (ltI (wrapF .i64 (x379' - x1s)) (wrapF .i64 (x2s - x379')))
  (∃ h382', EvC Tryd.prog O 115 [(.slice a0 n0 c0), (.int .i64 x1s), (.int .i64 x379'), (.int .i64 x3s), (.func (.func g4s) fi4s ca4s)] h381' undef h382' ∧
  I115_0 O Q a0 n0 c0 x1 x2 x3 g4 fi4 ca4 (wrapF .i64 (x379' + 1)) x2s x3s g4s fi4s ca4s (!(ltI (wrapF .i64 (x379' - x1s)) (wrapF .i64 (Int.tdiv (wrapF .i64 (x2s - x1s)) 8)))) q380' h382')
  (∃ h383', EvC Tryd.prog O 115 [(.slice a0 n0 c0), (.int .i64 (wrapF .i64 (x379' + 1))), (.int .i64 x2s), (.int .i64 x3s), (.func (.func g4s) fi4s ca4s)] h381' undef h383' ∧
  I115_0 O Q a0 n0 c0 x1 x2 x3 g4 fi4 ca4 x1s x379' x3s g4s fi4s ca4s (!(ltI (wrapF .i64 (x2s - x379')) (wrapF .i64 (Int.tdiv (wrapF .i64 (x2s - x1s)) 8)))) q380' h383'))))
  (vcond (ltI 0 x1s)
  (isNat (wrapF .i64 (x1s - 1)) fun n384' =>
  isAddr a0 fun b385' f386' =>
  vreq (Nat.blt n384' n0)
  (∃ x387', readAt (h268'.rsv 17) b385' (f386' + (n384' * 1)) 1 = some [(.int .i64 x387')] ∧
  isNat x266' fun n388' =>
  isAddr a0 fun b389' f390' =>
  vreq (Nat.blt n388' n0)
  (∃ x391', readAt (h268'.rsv 17) b389' (f390' + (n388' * 1)) 1 = some [(.int .i64 x391')] ∧
  ∃ x392', ∃ h393', EvC Tryd.prog O g4s (fi4s.toList ++ [(.int .i64 x387'), (.int .i64 x391')] ++ ca4s.toList) ((h268'.rsv 17).grd []) (.int .i64 x392') h393' ∧
  vcond (!(ltI x392' 0))
  (∃ x394', ∃ h395', EvC Tryd.prog O 133 [(.slice a0 n0 c0), (.int .i64 x1s), (.int .i64 x2s), (.int .i64 x266'), (.func (.func g4s) fi4s ca4s)] (h393'.rst (h268'.rsv 17)) (.int .i64 x394') h395' ∧
  I115_0 O Q a0 n0 c0 x1 x2 x3 g4 fi4 ca4 x394' x2s x3s g4s fi4s ca4s q10 q11 h395')
  (∃ x396', ∃ q397', ∃ h398', EvC Tryd.prog O 134 [(.slice a0 n0 c0), (.int .i64 x1s), (.int .i64 x2s), (.int .i64 x266'), (.func (.func g4s) fi4s ca4s)] (h393'.rst (h268'.rsv 17)) (.tuple #[(.int .i64 x396'), (.bool q397')]) h398' ∧
  vcond (ltI (wrapF .i64 (x396' - x1s)) (wrapF .i64 (x2s - x396')))
  (∃ h399', EvC Tryd.prog O 115 [(.slice a0 n0 c0), (.int .i64 x1s), (.int .i64 x396'), (.int .i64 x3s), (.func (.func g4s) fi4s ca4s)] h398' undef h399' ∧
  I115_0 O Q a0 n0 c0 x1 x2 x3 g4 fi4 ca4 (wrapF .i64 (x396' + 1)) x2s x3s g4s fi4s ca4s (!(ltI (wrapF .i64 (x396' - x1s)) (wrapF .i64 (Int.tdiv (wrapF .i64 (x2s - x1s)) 8)))) q397' h399')
  (∃ h400', EvC Tryd.prog O 115 [(.slice a0 n0 c0), (.int .i64 (wrapF .i64 (x396' + 1))), (.int .i64 x2s), (.int .i64 x3s), (.func (.func g4s) fi4s ca4s)] h398' undef h400' ∧
  I115_0 O Q a0 n0 c0 x1 x2 x3 g4 fi4 ca4 x1s x396' x3s g4s fi4s ca4s (!(ltI (wrapF .i64 (x2s - x396')) (wrapF .i64 (Int.tdiv (wrapF .i64 (x2s - x1s)) 8)))) q397' h400')))))
  (∃ x401', ∃ q402', ∃ h403', EvC Tryd.prog O 134 [(.slice a0 n0 c0), (.int .i64 x1s), (.int .i64 x2s), (.int .i64 x266'), (.func (.func g4s) fi4s ca4s)] (h268'.rsv 17) (.tuple #[(.int .i64 x401'), (.bool q402')]) h403' ∧
  vcond (ltI (wrapF .i64 (x401' - x1s)) (wrapF .i64 (x2s - x401')))
  (∃ h404', EvC Tryd.prog O 115 [(.slice a0 n0 c0), (.int .i64 x1s), (.int .i64 x401'), (.int .i64 x3s), (.func (.func g4s) fi4s ca4s)] h403' undef h404' ∧
  I115_0 O Q a0 n0 c0 x1 x2 x3 g4 fi4 ca4 (wrapF .i64 (x401' + 1)) x2s x3s g4s fi4s ca4s (!(ltI (wrapF .i64 (x401' - x1s)) (wrapF .i64 (Int.tdiv (wrapF .i64 (x2s - x1s)) 8)))) q402' h404')
  (∃ h405', EvC Tryd.prog O 115 [(.slice a0 n0 c0), (.int .i64 (wrapF .i64 (x401' + 1))), (.int .i64 x2s), (.int .i64 x3s), (.func (.func g4s) fi4s ca4s)] h403' undef h405' ∧
  I115_0 O Q a0 n0 c0 x1 x2 x3 g4 fi4 ca4 x1s x401' x3s g4s fi4s ca4s (!(ltI (wrapF .i64 (x2s - x401')) (wrapF .i64 (Int.tdiv (wrapF .i64 (x2s - x1s)) 8)))) q402' h405'))))
  (vcond (ltI 0 x1s)
  (isNat (wrapF .i64 (x1s - 1)) fun n406' =>
  isAddr a0 fun b407' f408' =>
  vreq (Nat.blt n406' n0)
  (∃ x409', readAt (h268'.rsv 17) b407' (f408' + (n406' * 1)) 1 = some [(.int .i64 x409')] ∧
  isNat x266' fun n410' =>
  isAddr a0 fun b411' f412' =>
  vreq (Nat.blt n410' n0)
  (∃ x413', readAt (h268'.rsv 17) b411' (f412' + (n410' * 1)) 1 = some [(.int .i64 x413')] ∧
  ∃ x414', ∃ h415', EvC Tryd.prog O g4s (fi4s.toList ++ [(.int .i64 x409'), (.int .i64 x413')] ++ ca4s.toList) ((h268'.rsv 17).grd []) (.int .i64 x414') h415' ∧
  vcond (!(ltI x414' 0))
  (∃ x416', ∃ h417', EvC Tryd.prog O 133 [(.slice a0 n0 c0), (.int .i64 x1s), (.int .i64 x2s), (.int .i64 x266'), (.func (.func g4s) fi4s ca4s)] (h415'.rst (h268'.rsv 17)) (.int .i64 x416') h417' ∧
  I115_0 O Q a0 n0 c0 x1 x2 x3 g4 fi4 ca4 x416' x2s x3s g4s fi4s ca4s q10 q11 h417')
  (∃ x418', ∃ q419', ∃ h420', EvC Tryd.prog O 134 [(.slice a0 n0 c0), (.int .i64 x1s), (.int .i64 x2s), (.int .i64 x266'), (.func (.func g4s) fi4s ca4s)] (h415'.rst (h268'.rsv 17)) (.tuple #[(.int .i64 x418'), (.bool q419')]) h420' ∧
  vcond (ltI (wrapF .i64 (x418' - x1s)) (wrapF .i64 (x2s - x418')))
  (∃ h421', EvC Tryd.prog O 115 [(.slice a0 n0 c0), (.int .i64 x1s), (.int .i64 x418'), (.int .i64 x3s), (.func (.func g4s) fi4s ca4s)] h420' undef h421' ∧
  I115_0 O Q a0 n0 c0 x1 x2 x3 g4 fi4 ca4 (wrapF .i64 (x418' + 1)) x2s x3s g4s fi4s ca4s (!(ltI (wrapF .i64 (x418' - x1s)) (wrapF .i64 (Int.tdiv (wrapF .i64 (x2s - x1s)) 8)))) q419' h421')
  (∃ h422', EvC Tryd.prog O 115 [(.slice a0 n0 c0), (.int .i64 (wrapF .i64 (x418' + 1))), (.int .i64 x2s), (.int .i64 x3s), (.func (.func g4s) fi4s ca4s)] h420' undef h422' ∧
  I115_0 O Q a0 n0 c0 x1 x2 x3 g4 fi4 ca4 x1s x418' x3s g4s fi4s ca4s (!(ltI (wrapF .i64 (x2s - x418')) (wrapF .i64 (Int.tdiv (wrapF .i64 (x2s - x1s)) 8)))) q419' h422')))))
  (∃ x423', ∃ q424', ∃ h425', EvC Tryd.prog O 134 [(.slice a0 n0 c0), (.int .i64 x1s), (.int .i64 x2s), (.int .i64 x266'), (.func (.func g4s) fi4s ca4s)] (h268'.rsv 17) (.tuple #[(.int .i64 x423'), (.bool q424')]) h425' ∧
  vcond (ltI (wrapF .i64 (x423' - x1s)) (wrapF .i64 (x2s - x423')))
  (∃ h426', EvC Tryd.prog O 115 [(.slice a0 n0 c0), (.int .i64 x1s), (.int .i64 x423'), (.int .i64 x3s), (.func (.func g4s) fi4s ca4s)] h425' undef h426' ∧
  I115_0 O Q a0 n0 c0 x1 x2 x3 g4 fi4 ca4 (wrapF .i64 (x423' + 1)) x2s x3s g4s fi4s ca4s (!(ltI (wrapF .i64 (x423' - x1s)) (wrapF .i64 (Int.tdiv (wrapF .i64 (x2s - x1s)) 8)))) q424' h426')
  (∃ h427', EvC Tryd.prog O 115 [(.slice a0 n0 c0), (.int .i64 (wrapF .i64 (x423' + 1))), (.int .i64 x2s), (.int .i64 x3s), (.func (.func g4s) fi4s ca4s)] h425' undef h427' ∧
  I115_0 O Q a0 n0 c0 x1 x2 x3 g4 fi4 ca4 x1s x423' x3s g4s fi4s ca4s (!(ltI (wrapF .i64 (x2s - x423')) (wrapF .i64 (Int.tdiv (wrapF .i64 (x2s - x1s)) 8)))) q424' h427')))))))
theorem I115_0.of {O Q} (a0 n0 c0 x1 x2 x3 g4 fi4 ca4 x1s x2s x3s g4s fi4s ca4s q10 q11) {h : Hp} (hh : T115_0 O Q a0 n0 c0 x1 x2 x3 g4 fi4 ca4 x1s x2s x3s g4s fi4s ca4s q10 q11 h) : I115_0 O Q a0 n0 c0 x1 x2 x3 g4 fi4 ca4 x1s x2s x3s g4s fi4s ca4s q10 q11 h :=
  RKL.of (tb := lv115) (cuts := []) 500 fun _ => Eq.mp (by kernel_rfl) hh
/-! slices.insertionSortCmpFunc[int] -/
noncomputable def b127 : Code := (Tryd.f127.body).getD .skip
noncomputable def stk127_0 : List KI := [.code (sub [1, 0] b127), .blk 0]
noncomputable def stk127_1 : List KI := [.code (sub [1, 0, 0, 1, 0, 0, 1, 0] b127), .blk 2, .blk 1, .code (sub [1, 0, 0, 1, 1] b127), .code (sub [1, 0] b127), .blk 0]
def lv127 : List (Nat × List Nat) := [(0, [0, 1, 2, 3, 8]), (2, [0, 1, 2, 3, 8, 9])]
def I127_0 (O : CallF) (Q : Value → Hp → Prop) (a0 : Option Addr) (n0 : Nat) (c0 : Nat) (x1 : Int) (x2 : Int) (g3 : Nat) (fi3 : Array Value) (ca3 : Array Value) (g3s : Nat) (fi3s : Array Value) (ca3s : Array Value) (x8 : Int) (h : Hp) : Prop := RKL Tryd.prog O Tryd.f127 stk127_0 53 [0, 1, 2, 3, 8] [(.slice a0 n0 c0), (.int .i64 x1), (.int .i64 x2), (.func (.func g3s) fi3s ca3s), (.int .i64 x8)] h Q
def I127_1 (O : CallF) (Q : Value → Hp → Prop) (a0 : Option Addr) (n0 : Nat) (c0 : Nat) (x1 : Int) (x2 : Int) (g3 : Nat) (fi3 : Array Value) (ca3 : Array Value) (g3s : Nat) (fi3s : Array Value) (ca3s : Array Value) (x8 : Int) (x9 : Int) (h : Hp) : Prop := RKL Tryd.prog O Tryd.f127 stk127_1 53 [0, 1, 2, 3, 8, 9] [(.slice a0 n0 c0), (.int .i64 x1), (.int .i64 x2), (.func (.func g3s) fi3s ca3s), (.int .i64 x8), (.int .i64 x9)] h Q
def T127 (O : CallF) (Q : Value → Hp → Prop) (a0 : Option Addr) (n0 : Nat) (c0 : Nat) (x1 : Int) (x2 : Int) (g3 : Nat) (fi3 : Array Value) (ca3 : Array Value) (h : Hp) : Prop :=
  I127_0 O Q a0 n0 c0 x1 x2 g3 fi3 ca3 g3 fi3 ca3 (wrapF .i64 (x1 + 1)) h
theorem rk127 {O Q} (a0 n0 c0 x1 x2 g3 fi3 ca3) {h : Hp} (hO : O 127 [(.slice a0 n0 c0), (.int .i64 x1), (.int .i64 x2), (.func (.func g3) fi3 ca3)] h = none) (hh : T127 O Q a0 n0 c0 x1 x2 g3 fi3 ca3 h) : Ret Tryd.prog O 127 [(.slice a0 n0 c0), (.int .i64 x1), (.int .i64 x2), (.func (.func g3) fi3 ca3)] h Q :=
  .of (c := b127) Tryd.func127 (by kernel_rfl) hO (V_ok (tb := lv127) (cuts := []) 500 (Eq.mp (by kernel_rfl) hh))
def T127_0 (O : CallF) (Q : Value → Hp → Prop) (a0 : Option Addr) (n0 : Nat) (c0 : Nat) (x1 : Int) (x2 : Int) (g3 : Nat) (fi3 : Array Value) (ca3 : Array Value) (g3s : Nat) (fi3s : Array Value) (ca3s : Array Value) (x8 : Int) (h : Hp) : Prop :=
  vcond (ltI x8 x2)
  (I127_1 O Q a0 n0 c0 x1 x2 g3 fi3 ca3 g3s fi3s ca3s x8 x8 h)
  (Q undef h)
theorem I127_0.of {O Q} (a0 n0 c0 x1 x2 g3 fi3 ca3 g3s fi3s ca3s x8) {h : Hp} (hh : T127_0 O Q a0 n0 c0 x1 x2 g3 fi3 ca3 g3s fi3s ca3s x8 h) : I127_0 O Q a0 n0 c0 x1 x2 g3 fi3 ca3 g3s fi3s ca3s x8 h :=
  RKL.of (tb := lv127) (cuts := []) 500 fun _ => Eq.mp (by kernel_rfl) hh
def T127_1 (O : CallF) (Q : Value → Hp → Prop) (a0 : Option Addr) (n0 : Nat) (c0 : Nat) (x1 : Int) (x2 : Int) (g3 : Nat) (fi3 : Array Value) (ca3 : Array Value) (g3s : Nat) (fi3s : Array Value) (ca3s : Array Value) (x8 : Int) (x9 : Int) (h : Hp) : Prop :=
  vcond (ltI x1 x9)
  (isNat x9 fun n201' =>
  isAddr a0 fun b202' f203' =>
  vreq (Nat.blt n201' n0)
  (∃ x204', readAt (h.rsv 17) b202' (f203' + (n201' * 1)) 1 = some [(.int .i64 x204')] ∧
  isNat (wrapF .i64 (x9 - 1)) fun n205' =>
  isAddr a0 fun b206' f207' =>
  vreq (Nat.blt n205' n0)
  (∃ x208', readAt (h.rsv 17) b206' (f207' + (n205' * 1)) 1 = some [(.int .i64 x208')] ∧
  ∃ x209', ∃ h210', EvC Tryd.prog O g3s (fi3s.toList ++ [(.int .i64 x204'), (.int .i64 x208')] ++ ca3s.toList) ((h.rsv 17).grd []) (.int .i64 x209') h210' ∧
  vcond (ltI x209' 0)
  (isNat (wrapF .i64 (x9 - 1)) fun n211' =>
  isAddr a0 fun b212' f213' =>
  vreq (Nat.blt n211' n0)
  (∃ x214', readAt ((h210'.rst (h.rsv 17)).rsv 18) b212' (f213' + (n211' * 1)) 1 = some [(.int .i64 x214')] ∧
  isNat x9 fun n215' =>
  isAddr a0 fun b216' f217' =>
  vreq (Nat.blt n215' n0)
  (∃ x218', readAt ((h210'.rst (h.rsv 17)).rsv 18) b216' (f217' + (n215' * 1)) 1 = some [(.int .i64 x218')] ∧
  isNat x9 fun n219' =>
  isAddr a0 fun b220' f221' =>
  vreq (Nat.blt n219' n0)
  (vreq (canW (((h210'.rst (h.rsv 17)).rsv 18).grd []) b220' (f221' + (n219' * 1)) [(.int .i64 x214')])
  (isNat (wrapF .i64 (x9 - 1)) fun n222' =>
  isAddr a0 fun b223' f224' =>
  vreq (Nat.blt n222' n0)
  (vreq (canW ((((((h210'.rst (h.rsv 17)).rsv 18).grd []).wr b220' (f221' + (n219' * 1)) [(.int .i64 x214')]).rst ((h210'.rst (h.rsv 17)).rsv 18)).grd []) b223' (f224' + (n222' * 1)) [(.int .i64 x218')])
  (I127_1 O Q a0 n0 c0 x1 x2 g3 fi3 ca3 g3s fi3s ca3s x8 (wrapF .i64 (x9 - 1)) ((((((((h210'.rst (h.rsv 17)).rsv 18).grd []).wr b220' (f221' + (n219' * 1)) [(.int .i64 x214')]).rst ((h210'.rst (h.rsv 17)).rsv 18)).grd []).wr b223' (f224' + (n222' * 1)) [(.int .i64 x218')]).rst (((((h210'.rst (h.rsv 17)).rsv 18).grd []).wr b220' (f221' + (n219' * 1)) [(.int .i64 x214')]).rst ((h210'.rst (h.rsv 17)).rsv 18))))))))))
  (I127_0 O Q a0 n0 c0 x1 x2 g3 fi3 ca3 g3s fi3s ca3s (wrapF .i64 (x8 + 1)) (h210'.rst (h.rsv 17))))))
  (I127_0 O Q a0 n0 c0 x1 x2 g3 fi3 ca3 g3s fi3s ca3s (wrapF .i64 (x8 + 1)) (h.rsv 17))
theorem I127_1.of {O Q} (a0 n0 c0 x1 x2 g3 fi3 ca3 g3s fi3s ca3s x8 x9) {h : Hp} (hh : T127_1 O Q a0 n0 c0 x1 x2 g3 fi3 ca3 g3s fi3s ca3s x8 x9 h) : I127_1 O Q a0 n0 c0 x1 x2 g3 fi3 ca3 g3s fi3s ca3s x8 x9 h :=
  RKL.of (tb := lv127) (cuts := []) 500 fun _ => Eq.mp (by kernel_rfl) hh
/-! slices.choosePivotCmpFunc[int] -/
noncomputable def b130 : Code := (Tryd.f130.body).getD .skip
def lv130 : List (Nat × List Nat) := []
def T130 (O : CallF) (Q : Value → Hp → Prop) (a0 : Option Addr) (n0 : Nat) (c0 : Nat) (x1 : Int) (x2 : Int) (g3 : Nat) (fi3 : Array Value) (ca3 : Array Value) (h : Hp) : Prop :=
  vcond (!(ltI (wrapF .i64 (x2 - x1)) 8))
  (vcond (!(ltI (wrapF .i64 (x2 - x1)) 50))
  (∃ x1', ∃ h2', EvC Tryd.prog O 143 [(.slice a0 n0 c0), (.int .i64 (wrapF .i64 (x1 + (wrapF .i64 ((wrapF .i64 (Int.tdiv (wrapF .i64 (x2 - x1)) 4)) * 1))))), (.pointer (some ⟨h.nx, 0, none⟩)), (.func (.func g3) fi3 ca3)] (h.add (.cells [(.int .i64 0)] 3 .fix)) (.int .i64 x1') h2' ∧
  ∃ x3', ∃ h4', EvC Tryd.prog O 143 [(.slice a0 n0 c0), (.int .i64 (wrapF .i64 (x1 + (wrapF .i64 ((wrapF .i64 (Int.tdiv (wrapF .i64 (x2 - x1)) 4)) * 2))))), (.pointer (some ⟨h.nx, 0, none⟩)), (.func (.func g3) fi3 ca3)] h2' (.int .i64 x3') h4' ∧
  ∃ x5', ∃ h6', EvC Tryd.prog O 143 [(.slice a0 n0 c0), (.int .i64 (wrapF .i64 (x1 + (wrapF .i64 ((wrapF .i64 (Int.tdiv (wrapF .i64 (x2 - x1)) 4)) * 3))))), (.pointer (some ⟨h.nx, 0, none⟩)), (.func (.func g3) fi3 ca3)] h4' (.int .i64 x5') h6' ∧
  ∃ x7', ∃ h8', EvC Tryd.prog O 144 [(.slice a0 n0 c0), (.int .i64 x1'), (.int .i64 x3'), (.int .i64 x5'), (.pointer (some ⟨h.nx, 0, none⟩)), (.func (.func g3) fi3 ca3)] h6' (.int .i64 x7') h8' ∧
  ∃ x9', readAt h8' h.nx 0 1 = some [(.int .i64 x9')] ∧
  vcond (eqI x9' 0)
  (Q (.tuple #[(.int .i64 x7'), (.int .i64 1)]) h8')
  (vcond (eqI x9' 12)
  (Q (.tuple #[(.int .i64 x7'), (.int .i64 2)]) h8')
  (Q (.tuple #[(.int .i64 x7'), (.int .i64 0)]) h8')))
  (∃ x10', ∃ h11', EvC Tryd.prog O 144 [(.slice a0 n0 c0), (.int .i64 (wrapF .i64 (x1 + (wrapF .i64 ((wrapF .i64 (Int.tdiv (wrapF .i64 (x2 - x1)) 4)) * 1))))), (.int .i64 (wrapF .i64 (x1 + (wrapF .i64 ((wrapF .i64 (Int.tdiv (wrapF .i64 (x2 - x1)) 4)) * 2))))), (.int .i64 (wrapF .i64 (x1 + (wrapF .i64 ((wrapF .i64 (Int.tdiv (wrapF .i64 (x2 - x1)) 4)) * 3))))), (.pointer (some ⟨h.nx, 0, none⟩)), (.func (.func g3) fi3 ca3)] (h.add (.cells [(.int .i64 0)] 3 .fix)) (.int .i64 x10') h11' ∧
  ∃ x12', readAt h11' h.nx 0 1 = some [(.int .i64 x12')] ∧
  vcond (eqI x12' 0)
  (Q (.tuple #[(.int .i64 x10'), (.int .i64 1)]) h11')
  (vcond (eqI x12' 12)
  (Q (.tuple #[(.int .i64 x10'), (.int .i64 2)]) h11')
  (Q (.tuple #[(.int .i64 x10'), (.int .i64 0)]) h11'))))
  (∃ x13', readAt (h.add (.cells [(.int .i64 0)] 3 .fix)) h.nx 0 1 = some [(.int .i64 x13')] ∧
  vcond (eqI x13' 0)
  (Q (.tuple #[(.int .i64 (wrapF .i64 (x1 + (wrapF .i64 ((wrapF .i64 (Int.tdiv (wrapF .i64 (x2 - x1)) 4)) * 2))))), (.int .i64 1)]) (h.add (.cells [(.int .i64 0)] 3 .fix)))
  (vcond (eqI x13' 12)
  (Q (.tuple #[(.int .i64 (wrapF .i64 (x1 + (wrapF .i64 ((wrapF .i64 (Int.tdiv (wrapF .i64 (x2 - x1)) 4)) * 2))))), (.int .i64 2)]) (h.add (.cells [(.int .i64 0)] 3 .fix)))
  (Q (.tuple #[(.int .i64 (wrapF .i64 (x1 + (wrapF .i64 ((wrapF .i64 (Int.tdiv (wrapF .i64 (x2 - x1)) 4)) * 2))))), (.int .i64 0)]) (h.add (.cells [(.int .i64 0)] 3 .fix)))))
theorem rk130 {O Q} (a0 n0 c0 x1 x2 g3 fi3 ca3) {h : Hp} (hO : O 130 [(.slice a0 n0 c0), (.int .i64 x1), (.int .i64 x2), (.func (.func g3) fi3 ca3)] h = none) (hh : T130 O Q a0 n0 c0 x1 x2 g3 fi3 ca3 h) : Ret Tryd.prog O 130 [(.slice a0 n0 c0), (.int .i64 x1), (.int .i64 x2), (.func (.func g3) fi3 ca3)] h Q :=
  .of (c := b130) Tryd.func130 (by kernel_rfl) hO (V_ok (tb := lv130) (cuts := []) 500 (Eq.mp (by kernel_rfl) hh))
/-! slices.partialInsertionSortCmpFunc[int] -/
noncomputable def b132 : Code := (Tryd.f132.body).getD .skip
noncomputable def stk132_0 : List KI := [.code (sub [1, 1, 0, 1, 0] b132), .blk 0, .code (sub [1, 1, 1] b132)]
noncomputable def stk132_1 : List KI := [.code (sub [1, 1, 0, 1, 0, 0, 1, 0, 0, 0, 0] b132), .blk 2, .code (sub [1, 1, 0, 1, 0, 0, 1, 0, 0, 1] b132), .blk 1, .code (sub [1, 1, 0, 1, 0, 0, 1, 1] b132), .code (sub [1, 1, 0, 1, 0] b132), .blk 0, .code (sub [1, 1, 1] b132)]
noncomputable def stk132_2 : List KI := [.code (sub [1, 1, 0, 1, 0, 0, 1, 0, 0, 1, 1, 1, 1, 0, 1, 0, 1, 0] b132), .blk 4, .code (sub [1, 1, 0, 1, 0, 0, 1, 0, 0, 1, 1, 1, 1, 1] b132), .blk 1, .code (sub [1, 1, 0, 1, 0, 0, 1, 1] b132), .code (sub [1, 1, 0, 1, 0] b132), .blk 0, .code (sub [1, 1, 1] b132)]
noncomputable def stk132_3 : List KI := [.code (sub [1, 1, 0, 1, 0, 0, 1, 0, 0, 1, 1, 1, 1, 1, 1, 0, 1, 0] b132), .blk 6, .blk 1, .code (sub [1, 1, 0, 1, 0, 0, 1, 1] b132), .code (sub [1, 1, 0, 1, 0] b132), .blk 0, .code (sub [1, 1, 1] b132)]
def lv132 : List (Nat × List Nat) := [(0, [0, 1, 2, 3, 8, 9, 10]), (2, [0, 1, 2, 3, 8, 9, 10]), (4, [0, 1, 2, 3, 8, 9, 10, 11]), (6, [0, 1, 2, 3, 8, 9, 10, 12])]
def I132_0 (O : CallF) (Q : Value → Hp → Prop) (a0 : Option Addr) (n0 : Nat) (c0 : Nat) (x1 : Int) (x2 : Int) (g3 : Nat) (fi3 : Array Value) (ca3 : Array Value) (g3s : Nat) (fi3s : Array Value) (ca3s : Array Value) (q8 : Bool) (x9 : Int) (x10 : Int) (h : Hp) : Prop := RKL Tryd.prog O Tryd.f132 stk132_0 141 [0, 1, 2, 3, 8, 9, 10] [(.slice a0 n0 c0), (.int .i64 x1), (.int .i64 x2), (.func (.func g3s) fi3s ca3s), (.bool q8), (.int .i64 x9), (.int .i64 x10)] h Q
def I132_1 (O : CallF) (Q : Value → Hp → Prop) (a0 : Option Addr) (n0 : Nat) (c0 : Nat) (x1 : Int) (x2 : Int) (g3 : Nat) (fi3 : Array Value) (ca3 : Array Value) (g3s : Nat) (fi3s : Array Value) (ca3s : Array Value) (q8 : Bool) (x9 : Int) (x10 : Int) (h : Hp) : Prop := RKL Tryd.prog O Tryd.f132 stk132_1 141 [0, 1, 2, 3, 8, 9, 10] [(.slice a0 n0 c0), (.int .i64 x1), (.int .i64 x2), (.func (.func g3s) fi3s ca3s), (.bool q8), (.int .i64 x9), (.int .i64 x10)] h Q
def I132_2 (O : CallF) (Q : Value → Hp → Prop) (a0 : Option Addr) (n0 : Nat) (c0 : Nat) (x1 : Int) (x2 : Int) (g3 : Nat) (fi3 : Array Value) (ca3 : Array Value) (g3s : Nat) (fi3s : Array Value) (ca3s : Array Value) (q8 : Bool) (x9 : Int) (x10 : Int) (x11 : Int) (h : Hp) : Prop := RKL Tryd.prog O Tryd.f132 stk132_2 141 [0, 1, 2, 3, 8, 9, 10, 11] [(.slice a0 n0 c0), (.int .i64 x1), (.int .i64 x2), (.func (.func g3s) fi3s ca3s), (.bool q8), (.int .i64 x9), (.int .i64 x10), (.int .i64 x11)] h Q
def I132_3 (O : CallF) (Q : Value → Hp → Prop) (a0 : Option Addr) (n0 : Nat) (c0 : Nat) (x1 : Int) (x2 : Int) (g3 : Nat) (fi3 : Array Value) (ca3 : Array Value) (g3s : Nat) (fi3s : Array Value) (ca3s : Array Value) (q8 : Bool) (x9 : Int) (x10 : Int) (x12 : Int) (h : Hp) : Prop := RKL Tryd.prog O Tryd.f132 stk132_3 141 [0, 1, 2, 3, 8, 9, 10, 12] [(.slice a0 n0 c0), (.int .i64 x1), (.int .i64 x2), (.func (.func g3s) fi3s ca3s), (.bool q8), (.int .i64 x9), (.int .i64 x10), (.int .i64 x12)] h Q
def T132 (O : CallF) (Q : Value → Hp → Prop) (a0 : Option Addr) (n0 : Nat) (c0 : Nat) (x1 : Int) (x2 : Int) (g3 : Nat) (fi3 : Array Value) (ca3 : Array Value) (h : Hp) : Prop :=
  I132_0 O Q a0 n0 c0 x1 x2 g3 fi3 ca3 g3 fi3 ca3 false (wrapF .i64 (x1 + 1)) 0 h
theorem rk132 {O Q} (a0 n0 c0 x1 x2 g3 fi3 ca3) {h : Hp} (hO : O 132 [(.slice a0 n0 c0), (.int .i64 x1), (.int .i64 x2), (.func (.func g3) fi3 ca3)] h = none) (hh : T132 O Q a0 n0 c0 x1 x2 g3 fi3 ca3 h) : Ret Tryd.prog O 132 [(.slice a0 n0 c0), (.int .i64 x1), (.int .i64 x2), (.func (.func g3) fi3 ca3)] h Q :=
  .of (c := b132) Tryd.func132 (by kernel_rfl) hO (V_ok (tb := lv132) (cuts := []) 500 (Eq.mp (by kernel_rfl) hh))
def T132_0 (O : CallF) (Q : Value → Hp → Prop) (a0 : Option Addr) (n0 : Nat) (c0 : Nat) (x1 : Int) (x2 : Int) (g3 : Nat) (fi3 : Array Value) (ca3 : Array Value) (g3s : Nat) (fi3s : Array Value) (ca3s : Array Value) (q8 : Bool) (x9 : Int) (x10 : Int) (h : Hp) : Prop :=
  vcond (ltI x10 5)
  (I132_1 O Q a0 n0 c0 x1 x2 g3 fi3 ca3 g3s fi3s ca3s q8 x9 x10 h)
  (Q (.bool false) h)
theorem I132_0.of {O Q} (a0 n0 c0 x1 x2 g3 fi3 ca3 g3s fi3s ca3s q8 x9 x10) {h : Hp} (hh : T132_0 O Q a0 n0 c0 x1 x2 g3 fi3 ca3 g3s fi3s ca3s q8 x9 x10 h) : I132_0 O Q a0 n0 c0 x1 x2 g3 fi3 ca3 g3s fi3s ca3s q8 x9 x10 h :=
  RKL.of (tb := lv132) (cuts := []) 500 fun _ => Eq.mp (by kernel_rfl) hh
def T132_1 (O : CallF) (Q : Value → Hp → Prop) (a0 : Option Addr) (n0 : Nat) (c0 : Nat) (x1 : Int) (x2 : Int) (g3 : Nat) (fi3 : Array Value) (ca3 : Array Value) (g3s : Nat) (fi3s : Array Value) (ca3s : Array Value) (q8 : Bool) (x9 : Int) (x10 : Int) (h : Hp) : Prop :=
  vcond (ltI x9 x2)
  (isNat x9 fun n201' =>
  isAddr a0 fun b202' f203' =>
  vreq (Nat.blt n201' n0)
  (∃ x204', readAt (h.rsv 18) b202' (f203' + (n201' * 1)) 1 = some [(.int .i64 x204')] ∧
  isNat (wrapF .i64 (x9 - 1)) fun n205' =>
  isAddr a0 fun b206' f207' =>
  vreq (Nat.blt n205' n0)
  (∃ x208', readAt (h.rsv 18) b206' (f207' + (n205' * 1)) 1 = some [(.int .i64 x208')] ∧
  ∃ x209', ∃ h210', EvC Tryd.prog O g3s (fi3s.toList ++ [(.int .i64 x204'), (.int .i64 x208')] ++ ca3s.toList) ((h.rsv 18).grd []) (.int .i64 x209') h210' ∧
  vcond (!(ltI x209' 0))
  (I132_1 O Q a0 n0 c0 x1 x2 g3 fi3 ca3 g3s fi3s ca3s q8 (wrapF .i64 (x9 + 1)) x10 (h210'.rst (h.rsv 18)))
  (vcond (eqI x9 x2)
  (Q (.bool true) (h210'.rst (h.rsv 18)))
  (vcond (ltI (wrapF .i64 (x2 - x1)) 50)
  (Q (.bool false) (h210'.rst (h.rsv 18)))
  (isNat (wrapF .i64 (x9 - 1)) fun n211' =>
  isAddr a0 fun b212' f213' =>
  vreq (Nat.blt n211' n0)
  (∃ x214', readAt ((h210'.rst (h.rsv 18)).rsv 18) b212' (f213' + (n211' * 1)) 1 = some [(.int .i64 x214')] ∧
  isNat x9 fun n215' =>
  isAddr a0 fun b216' f217' =>
  vreq (Nat.blt n215' n0)
  (∃ x218', readAt ((h210'.rst (h.rsv 18)).rsv 18) b216' (f217' + (n215' * 1)) 1 = some [(.int .i64 x218')] ∧
  isNat x9 fun n219' =>
  isAddr a0 fun b220' f221' =>
  vreq (Nat.blt n219' n0)
  (vreq (canW (((h210'.rst (h.rsv 18)).rsv 18).grd []) b220' (f221' + (n219' * 1)) [(.int .i64 x214')])
  (isNat (wrapF .i64 (x9 - 1)) fun n222' =>
  isAddr a0 fun b223' f224' =>
  vreq (Nat.blt n222' n0)
  (vreq (canW ((((((h210'.rst (h.rsv 18)).rsv 18).grd []).wr b220' (f221' + (n219' * 1)) [(.int .i64 x214')]).rst ((h210'.rst (h.rsv 18)).rsv 18)).grd []) b223' (f224' + (n222' * 1)) [(.int .i64 x218')])
  (vcond (!(ltI (wrapF .i64 (x9 - x1)) 2))
  (I132_2 O Q a0 n0 c0 x1 x2 g3 fi3 ca3 g3s fi3s ca3s q8 x9 x10 (wrapF .i64 (x9 - 1)) ((((((((h210'.rst (h.rsv 18)).rsv 18).grd []).wr b220' (f221' + (n219' * 1)) [(.int .i64 x214')]).rst ((h210'.rst (h.rsv 18)).rsv 18)).grd []).wr b223' (f224' + (n222' * 1)) [(.int .i64 x218')]).rst (((((h210'.rst (h.rsv 18)).rsv 18).grd []).wr b220' (f221' + (n219' * 1)) [(.int .i64 x214')]).rst ((h210'.rst (h.rsv 18)).rsv 18))))
  (vcond (!(ltI (wrapF .i64 (x2 - x9)) 2))
  (I132_3 O Q a0 n0 c0 x1 x2 g3 fi3 ca3 g3s fi3s ca3s q8 x9 x10 (wrapF .i64 (x9 + 1)) ((((((((h210'.rst (h.rsv 18)).rsv 18).grd []).wr b220' (f221' + (n219' * 1)) [(.int .i64 x214')]).rst ((h210'.rst (h.rsv 18)).rsv 18)).grd []).wr b223' (f224' + (n222' * 1)) [(.int .i64 x218')]).rst (((((h210'.rst (h.rsv 18)).rsv 18).grd []).wr b220' (f221' + (n219' * 1)) [(.int .i64 x214')]).rst ((h210'.rst (h.rsv 18)).rsv 18))))
  (I132_0 O Q a0 n0 c0 x1 x2 g3 fi3 ca3 g3s fi3s ca3s q8 x9 (wrapF .i64 (x10 + 1)) ((((((((h210'.rst (h.rsv 18)).rsv 18).grd []).wr b220' (f221' + (n219' * 1)) [(.int .i64 x214')]).rst ((h210'.rst (h.rsv 18)).rsv 18)).grd []).wr b223' (f224' + (n222' * 1)) [(.int .i64 x218')]).rst (((((h210'.rst (h.rsv 18)).rsv 18).grd []).wr b220' (f221' + (n219' * 1)) [(.int .i64 x214')]).rst ((h210'.rst (h.rsv 18)).rsv 18)))))))))))))))))
  (vcond (eqI x9 x2)
  (Q (.bool true) (h.rsv 18))
  (vcond (ltI (wrapF .i64 (x2 - x1)) 50)
  (Q (.bool false) (h.rsv 18))
  (isNat (wrapF .i64 (x9 - 1)) fun n225' =>
  isAddr a0 fun b226' f227' =>
  vreq (Nat.blt n225' n0)
  (∃ x228', readAt ((h.rsv 18).rsv 18) b226' (f227' + (n225' * 1)) 1 = some [(.int .i64 x228')] ∧
  isNat x9 fun n229' =>
  isAddr a0 fun b230' f231' =>
  vreq (Nat.blt n229' n0)
  (∃ x232', readAt ((h.rsv 18).rsv 18) b230' (f231' + (n229' * 1)) 1 = some [(.int .i64 x232')] ∧
  isNat x9 fun n233' =>
  isAddr a0 fun b234' f235' =>
  vreq (Nat.blt n233' n0)
  (vreq (canW (((h.rsv 18).rsv 18).grd []) b234' (f235' + (n233' * 1)) [(.int .i64 x228')])
  (isNat (wrapF .i64 (x9 - 1)) fun n236' =>
  isAddr a0 fun b237' f238' =>
  vreq (Nat.blt n236' n0)
  (vreq (canW ((((((h.rsv 18).rsv 18).grd []).wr b234' (f235' + (n233' * 1)) [(.int .i64 x228')]).rst ((h.rsv 18).rsv 18)).grd []) b237' (f238' + (n236' * 1)) [(.int .i64 x232')])
  (vcond (!(ltI (wrapF .i64 (x9 - x1)) 2))
  (I132_2 O Q a0 n0 c0 x1 x2 g3 fi3 ca3 g3s fi3s ca3s q8 x9 x10 (wrapF .i64 (x9 - 1)) ((((((((h.rsv 18).rsv 18).grd []).wr b234' (f235' + (n233' * 1)) [(.int .i64 x228')]).rst ((h.rsv 18).rsv 18)).grd []).wr b237' (f238' + (n236' * 1)) [(.int .i64 x232')]).rst (((((h.rsv 18).rsv 18).grd []).wr b234' (f235' + (n233' * 1)) [(.int .i64 x228')]).rst ((h.rsv 18).rsv 18))))
  (vcond (!(ltI (wrapF .i64 (x2 - x9)) 2))
  (I132_3 O Q a0 n0 c0 x1 x2 g3 fi3 ca3 g3s fi3s ca3s q8 x9 x10 (wrapF .i64 (x9 + 1)) ((((((((h.rsv 18).rsv 18).grd []).wr b234' (f235' + (n233' * 1)) [(.int .i64 x228')]).rst ((h.rsv 18).rsv 18)).grd []).wr b237' (f238' + (n236' * 1)) [(.int .i64 x232')]).rst (((((h.rsv 18).rsv 18).grd []).wr b234' (f235' + (n233' * 1)) [(.int .i64 x228')]).rst ((h.rsv 18).rsv 18))))
  (I132_0 O Q a0 n0 c0 x1 x2 g3 fi3 ca3 g3s fi3s ca3s q8 x9 (wrapF .i64 (x10 + 1)) ((((((((h.rsv 18).rsv 18).grd []).wr b234' (f235' + (n233' * 1)) [(.int .i64 x228')]).rst ((h.rsv 18).rsv 18)).grd []).wr b237' (f238' + (n236' * 1)) [(.int .i64 x232')]).rst (((((h.rsv 18).rsv 18).grd []).wr b234' (f235' + (n233' * 1)) [(.int .i64 x228')]).rst ((h.rsv 18).rsv 18))))))))))))))
theorem I132_1.of {O Q} (a0 n0 c0 x1 x2 g3 fi3 ca3 g3s fi3s ca3s q8 x9 x10) {h : Hp} (hh : T132_1 O Q a0 n0 c0 x1 x2 g3 fi3 ca3 g3s fi3s ca3s q8 x9 x10 h) : I132_1 O Q a0 n0 c0 x1 x2 g3 fi3 ca3 g3s fi3s ca3s q8 x9 x10 h :=
  RKL.of (tb := lv132) (cuts := []) 500 fun _ => Eq.mp (by kernel_rfl) hh
/-! slices.medianCmpFunc[int] -/
noncomputable def b144 : Code := (Tryd.f144.body).getD .skip
def lv144 : List (Nat × List Nat) := []
def T144 (O : CallF) (Q : Value → Hp → Prop) (a0 : Option Addr) (n0 : Nat) (c0 : Nat) (x1 : Int) (x2 : Int) (x3 : Int) (b4 : Nat) (f4 : Nat) (g5 : Nat) (fi5 : Array Value) (ca5 : Array Value) (h : Hp) : Prop :=
  ∃ x1', ∃ x2', ∃ h3', EvC Tryd.prog O 145 [(.slice a0 n0 c0), (.int .i64 x1), (.int .i64 x2), (.pointer (some ⟨b4, f4, none⟩)), (.func (.func g5) fi5 ca5)] h (.tuple #[(.int .i64 x1'), (.int .i64 x2')]) h3' ∧
  ∃ x4', ∃ x5', ∃ h6', EvC Tryd.prog O 145 [(.slice a0 n0 c0), (.int .i64 x2'), (.int .i64 x3), (.pointer (some ⟨b4, f4, none⟩)), (.func (.func g5) fi5 ca5)] h3' (.tuple #[(.int .i64 x4'), (.int .i64 x5')]) h6' ∧
  ∃ x7', ∃ x8', ∃ h9', EvC Tryd.prog O 145 [(.slice a0 n0 c0), (.int .i64 x1'), (.int .i64 x4'), (.pointer (some ⟨b4, f4, none⟩)), (.func (.func g5) fi5 ca5)] h6' (.tuple #[(.int .i64 x7'), (.int .i64 x8')]) h9' ∧
  Q (.int .i64 x8') h9'
theorem rk144 {O Q} (a0 n0 c0 x1 x2 x3 b4 f4 g5 fi5 ca5) {h : Hp} (hO : O 144 [(.slice a0 n0 c0), (.int .i64 x1), (.int .i64 x2), (.int .i64 x3), (.pointer (some ⟨b4, f4, none⟩)), (.func (.func g5) fi5 ca5)] h = none) (hh : T144 O Q a0 n0 c0 x1 x2 x3 b4 f4 g5 fi5 ca5 h) : Ret Tryd.prog O 144 [(.slice a0 n0 c0), (.int .i64 x1), (.int .i64 x2), (.int .i64 x3), (.pointer (some ⟨b4, f4, none⟩)), (.func (.func g5) fi5 ca5)] h Q :=
  .of (c := b144) Tryd.func144 (by kernel_rfl) hO (V_ok (tb := lv144) (cuts := []) 500 (Eq.mp (by kernel_rfl) hh))
/-! slices.order2CmpFunc[int] -/
noncomputable def b145 : Code := (Tryd.f145.body).getD .skip
def lv145 : List (Nat × List Nat) := []
def T145 (O : CallF) (Q : Value → Hp → Prop) (a0 : Option Addr) (n0 : Nat) (c0 : Nat) (x1 : Int) (x2 : Int) (b3 : Nat) (f3 : Nat) (g4 : Nat) (fi4 : Array Value) (ca4 : Array Value) (h : Hp) : Prop :=
  isNat x2 fun n1' =>
  isAddr a0 fun b2' f3' =>
  vreq (Nat.blt n1' n0)
  (∃ x4', readAt (h.rsv 11) b2' (f3' + (n1' * 1)) 1 = some [(.int .i64 x4')] ∧
  isNat x1 fun n5' =>
  isAddr a0 fun b6' f7' =>
  vreq (Nat.blt n5' n0)
  (∃ x8', readAt (h.rsv 11) b6' (f7' + (n5' * 1)) 1 = some [(.int .i64 x8')] ∧
  ∃ x9', ∃ h10', EvC Tryd.prog O g4 (fi4.toList ++ [(.int .i64 x4'), (.int .i64 x8')] ++ ca4.toList) ((h.rsv 11).grd []) (.int .i64 x9') h10' ∧
  vcond (ltI x9' 0)
  (∃ x11', readAt (h10'.rst (h.rsv 11)) b3 f3 1 = some [(.int .i64 x11')] ∧
  vreq (canW (h10'.rst (h.rsv 11)) b3 f3 [(.int .i64 (wrapF .i64 (x11' + 1)))])
  (Q (.tuple #[(.int .i64 x2), (.int .i64 x1)]) ((h10'.rst (h.rsv 11)).wr b3 f3 [(.int .i64 (wrapF .i64 (x11' + 1)))])))
  (Q (.tuple #[(.int .i64 x1), (.int .i64 x2)]) (h10'.rst (h.rsv 11)))))
theorem rk145 {O Q} (a0 n0 c0 x1 x2 b3 f3 g4 fi4 ca4) {h : Hp} (hO : O 145 [(.slice a0 n0 c0), (.int .i64 x1), (.int .i64 x2), (.pointer (some ⟨b3, f3, none⟩)), (.func (.func g4) fi4 ca4)] h = none) (hh : T145 O Q a0 n0 c0 x1 x2 b3 f3 g4 fi4 ca4 h) : Ret Tryd.prog O 145 [(.slice a0 n0 c0), (.int .i64 x1), (.int .i64 x2), (.pointer (some ⟨b3, f3, none⟩)), (.func (.func g4) fi4 ca4)] h Q :=
  .of (c := b145) Tryd.func145 (by kernel_rfl) hO (V_ok (tb := lv145) (cuts := []) 500 (Eq.mp (by kernel_rfl) hh))
/-! math/bits.Len -/
noncomputable def b116 : Code := (Tryd.f116.body).getD .skip
def lv116 : List (Nat × List Nat) := []
def T116 (O : CallF) (Q : Value → Hp → Prop) (x0 : Int) (h : Hp) : Prop :=
  ∃ x1', ∃ h2', EvC Tryd.prog O 136 [(.int .u64 x0)] h (.int .i64 x1') h2' ∧
  Q (.int .i64 x1') h2'
theorem rk116 {O Q} (x0) {h : Hp} (hO : O 116 [(.int .u64 x0)] h = none) (hh : T116 O Q x0 h) : Ret Tryd.prog O 116 [(.int .u64 x0)] h Q :=
  .of (c := b116) Tryd.func116 (by kernel_rfl) hO (V_ok (tb := lv116) (cuts := []) 500 (Eq.mp (by kernel_rfl) hh))
/-! math/bits.Len64 -/
noncomputable def b136 : Code := (Tryd.f136.body).getD .skip
def lv136 : List (Nat × List Nat) := []
def T136 (O : CallF) (Q : Value → Hp → Prop) (x0 : Int) (h : Hp) : Prop :=
  vcond (!(ltI x0 4294967296))
  (vcond (!(ltI (shrF .u64 x0 32) 65536))
  (vcond (!(ltI (shrF .u64 (shrF .u64 x0 32) 16) 256))
  (isNat (wrapF .u8 (shrF .u64 (shrF .u64 (shrF .u64 x0 32) 16) 8)) fun n1' =>
  vreq (Nat.blt n1' 256)
  (Q (.int .i64 (wrapF .i64 (56 + (wrapF .i64 (byteI (ByteArray.mk #[0, 1, 2, 2, 3, 3, 3, 3, 4, 4, 4, 4, 4, 4, 4, 4, 5, 5, 5, 5, 5, 5, 5, 5, 5, 5, 5, 5, 5, 5, 5, 5, 6, 6, 6, 6, 6, 6, 6, 6, 6, 6, 6, 6, 6, 6, 6, 6, 6, 6, 6, 6, 6, 6, 6, 6, 6, 6, 6, 6, 6, 6, 6, 6, 7, 7, 7, 7, 7, 7, 7, 7, 7, 7, 7, 7, 7, 7, 7, 7, 7, 7, 7, 7, 7, 7, 7, 7, 7, 7, 7, 7, 7, 7, 7, 7, 7, 7, 7, 7, 7, 7, 7, 7, 7, 7, 7, 7, 7, 7, 7, 7, 7, 7, 7, 7, 7, 7, 7, 7, 7, 7, 7, 7, 7, 7, 7, 7, 8, 8, 8, 8, 8, 8, 8, 8, 8, 8, 8, 8, 8, 8, 8, 8, 8, 8, 8, 8, 8, 8, 8, 8, 8, 8, 8, 8, 8, 8, 8, 8, 8, 8, 8, 8, 8, 8, 8, 8, 8, 8, 8, 8, 8, 8, 8, 8, 8, 8, 8, 8, 8, 8, 8, 8, 8, 8, 8, 8, 8, 8, 8, 8, 8, 8, 8, 8, 8, 8, 8, 8, 8, 8, 8, 8, 8, 8, 8, 8, 8, 8, 8, 8, 8, 8, 8, 8, 8, 8, 8, 8, 8, 8, 8, 8, 8, 8, 8, 8, 8, 8, 8, 8, 8, 8, 8, 8, 8, 8, 8, 8, 8, 8, 8, 8, 8, 8, 8, 8, 8, 8, 8, 8, 8, 8, 8, 8]) n1'))))) h))
  (isNat (wrapF .u8 (shrF .u64 (shrF .u64 x0 32) 16)) fun n2' =>
  vreq (Nat.blt n2' 256)
  (Q (.int .i64 (wrapF .i64 (48 + (wrapF .i64 (byteI (ByteArray.mk #[0, 1, 2, 2, 3, 3, 3, 3, 4, 4, 4, 4, 4, 4, 4, 4, 5, 5, 5, 5, 5, 5, 5, 5, 5, 5, 5, 5, 5, 5, 5, 5, 6, 6, 6, 6, 6, 6, 6, 6, 6, 6, 6, 6, 6, 6, 6, 6, 6, 6, 6, 6, 6, 6, 6, 6, 6, 6, 6, 6, 6, 6, 6, 6, 7, 7, 7, 7, 7, 7, 7, 7, 7, 7, 7, 7, 7, 7, 7, 7, 7, 7, 7, 7, 7, 7, 7, 7, 7, 7, 7, 7, 7, 7, 7, 7, 7, 7, 7, 7, 7, 7, 7, 7, 7, 7, 7, 7, 7, 7, 7, 7, 7, 7, 7, 7, 7, 7, 7, 7, 7, 7, 7, 7, 7, 7, 7, 7, 8, 8, 8, 8, 8, 8, 8, 8, 8, 8, 8, 8, 8, 8, 8, 8, 8, 8, 8, 8, 8, 8, 8, 8, 8, 8, 8, 8, 8, 8, 8, 8, 8, 8, 8, 8, 8, 8, 8, 8, 8, 8, 8, 8, 8, 8, 8, 8, 8, 8, 8, 8, 8, 8, 8, 8, 8, 8, 8, 8, 8, 8, 8, 8, 8, 8, 8, 8, 8, 8, 8, 8, 8, 8, 8, 8, 8, 8, 8, 8, 8, 8, 8, 8, 8, 8, 8, 8, 8, 8, 8, 8, 8, 8, 8, 8, 8, 8, 8, 8, 8, 8, 8, 8, 8, 8, 8, 8, 8, 8, 8, 8, 8, 8, 8, 8, 8, 8, 8, 8, 8, 8, 8, 8, 8, 8, 8, 8]) n2'))))) h)))
  (vcond (!(ltI (shrF .u64 x0 32) 256))
  (isNat (wrapF .u8 (shrF .u64 (shrF .u64 x0 32) 8)) fun n3' =>
  vreq (Nat.blt n3' 256)
  (Q (.int .i64 (wrapF .i64 (40 + (wrapF .i64 (byteI (ByteArray.mk #[0, 1, 2, 2, 3, 3, 3, 3, 4, 4, 4, 4, 4, 4, 4, 4, 5, 5, 5, 5, 5, 5, 5, 5, 5, 5, 5, 5, 5, 5, 5, 5, 6, 6, 6, 6, 6, 6, 6, 6, 6, 6, 6, 6, 6, 6, 6, 6, 6, 6, 6, 6, 6, 6, 6, 6, 6, 6, 6, 6, 6, 6, 6, 6, 7, 7, 7, 7, 7, 7, 7, 7, 7, 7, 7, 7, 7, 7, 7, 7, 7, 7, 7, 7, 7, 7, 7, 7, 7, 7, 7, 7, 7, 7, 7, 7, 7, 7, 7, 7, 7, 7, 7, 7, 7, 7, 7, 7, 7, 7, 7, 7, 7, 7, 7, 7, 7, 7, 7, 7, 7, 7, 7, 7, 7, 7, 7, 7, 8, 8, 8, 8, 8, 8, 8, 8, 8, 8, 8, 8, 8, 8, 8, 8, 8, 8, 8, 8, 8, 8, 8, 8, 8, 8, 8, 8, 8, 8, 8, 8, 8, 8, 8, 8, 8, 8, 8, 8, 8, 8, 8, 8, 8, 8, 8, 8, 8, 8, 8, 8, 8, 8, 8, 8, 8, 8, 8, 8, 8, 8, 8, 8, 8, 8, 8, 8, 8, 8, 8, 8, 8, 8, 8, 8, 8, 8, 8, 8, 8, 8, 8, 8, 8, 8, 8, 8, 8, 8, 8, 8, 8, 8, 8, 8, 8, 8, 8, 8, 8, 8, 8, 8, 8, 8, 8, 8, 8, 8, 8, 8, 8, 8, 8, 8, 8, 8, 8, 8, 8, 8, 8, 8, 8, 8, 8, 8]) n3'))))) h))
  (isNat (wrapF .u8 (shrF .u64 x0 32)) fun n4' =>
  vreq (Nat.blt n4' 256)
  (Q (.int .i64 (wrapF .i64 (32 + (wrapF .i64 (byteI (ByteArray.mk #[0, 1, 2, 2, 3, 3, 3, 3, 4, 4, 4, 4, 4, 4, 4, 4, 5, 5, 5, 5, 5, 5, 5, 5, 5, 5, 5, 5, 5, 5, 5, 5, 6, 6, 6, 6, 6, 6, 6, 6, 6, 6, 6, 6, 6, 6, 6, 6, 6, 6, 6, 6, 6, 6, 6, 6, 6, 6, 6, 6, 6, 6, 6, 6, 7, 7, 7, 7, 7, 7, 7, 7, 7, 7, 7, 7, 7, 7, 7, 7, 7, 7, 7, 7, 7, 7, 7, 7, 7, 7, 7, 7, 7, 7, 7, 7, 7, 7, 7, 7, 7, 7, 7, 7, 7, 7, 7, 7, 7, 7, 7, 7, 7, 7, 7, 7, 7, 7, 7, 7, 7, 7, 7, 7, 7, 7, 7, 7, 8, 8, 8, 8, 8, 8, 8, 8, 8, 8, 8, 8, 8, 8, 8, 8, 8, 8, 8, 8, 8, 8, 8, 8, 8, 8, 8, 8, 8, 8, 8, 8, 8, 8, 8, 8, 8, 8, 8, 8, 8, 8, 8, 8, 8, 8, 8, 8, 8, 8, 8, 8, 8, 8, 8, 8, 8, 8, 8, 8, 8, 8, 8, 8, 8, 8, 8, 8, 8, 8, 8, 8, 8, 8, 8, 8, 8, 8, 8, 8, 8, 8, 8, 8, 8, 8, 8, 8, 8, 8, 8, 8, 8, 8, 8, 8, 8, 8, 8, 8, 8, 8, 8, 8, 8, 8, 8, 8, 8, 8, 8, 8, 8, 8, 8, 8, 8, 8, 8, 8, 8, 8, 8, 8, 8, 8, 8, 8]) n4'))))) h))))
  (vcond (!(ltI x0 65536))
  (vcond (!(ltI (shrF .u64 x0 16) 256))
  (isNat (wrapF .u8 (shrF .u64 (shrF .u64 x0 16) 8)) fun n5' =>
  vreq (Nat.blt n5' 256)
  (Q (.int .i64 (wrapF .i64 (24 + (wrapF .i64 (byteI (ByteArray.mk #[0, 1, 2, 2, 3, 3, 3, 3, 4, 4, 4, 4, 4, 4, 4, 4, 5, 5, 5, 5, 5, 5, 5, 5, 5, 5, 5, 5, 5, 5, 5, 5, 6, 6, 6, 6, 6, 6, 6, 6, 6, 6, 6, 6, 6, 6, 6, 6, 6, 6, 6, 6, 6, 6, 6, 6, 6, 6, 6, 6, 6, 6, 6, 6, 7, 7, 7, 7, 7, 7, 7, 7, 7, 7, 7, 7, 7, 7, 7, 7, 7, 7, 7, 7, 7, 7, 7, 7, 7, 7, 7, 7, 7, 7, 7, 7, 7, 7, 7, 7, 7, 7, 7, 7, 7, 7, 7, 7, 7, 7, 7, 7, 7, 7, 7, 7, 7, 7, 7, 7, 7, 7, 7, 7, 7, 7, 7, 7, 8, 8, 8, 8, 8, 8, 8, 8, 8, 8, 8, 8, 8, 8, 8, 8, 8, 8, 8, 8, 8, 8, 8, 8, 8, 8, 8, 8, 8, 8, 8, 8, 8, 8, 8, 8, 8, 8, 8, 8, 8, 8, 8, 8, 8, 8, 8, 8, 8, 8, 8, 8, 8, 8, 8, 8, 8, 8, 8, 8, 8, 8, 8, 8, 8, 8, 8, 8, 8, 8, 8, 8, 8, 8, 8, 8, 8, 8, 8, 8, 8, 8, 8, 8, 8, 8, 8, 8, 8, 8, 8, 8, 8, 8, 8, 8, 8, 8, 8, 8, 8, 8, 8, 8, 8, 8, 8, 8, 8, 8, 8, 8, 8, 8, 8, 8, 8, 8, 8, 8, 8, 8, 8, 8, 8, 8, 8, 8]) n5'))))) h))
  (isNat (wrapF .u8 (shrF .u64 x0 16)) fun n6' =>
  vreq (Nat.blt n6' 256)
  (Q (.int .i64 (wrapF .i64 (16 + (wrapF .i64 (byteI (ByteArray.mk #[0, 1, 2, 2, 3, 3, 3, 3, 4, 4, 4, 4, 4, 4, 4, 4, 5, 5, 5, 5, 5, 5, 5, 5, 5, 5, 5, 5, 5, 5, 5, 5, 6, 6, 6, 6, 6, 6, 6, 6, 6, 6, 6, 6, 6, 6, 6, 6, 6, 6, 6, 6, 6, 6, 6, 6, 6, 6, 6, 6, 6, 6, 6, 6, 7, 7, 7, 7, 7, 7, 7, 7, 7, 7, 7, 7, 7, 7, 7, 7, 7, 7, 7, 7, 7, 7, 7, 7, 7, 7, 7, 7, 7, 7, 7, 7, 7, 7, 7, 7, 7, 7, 7, 7, 7, 7, 7, 7, 7, 7, 7, 7, 7, 7, 7, 7, 7, 7, 7, 7, 7, 7, 7, 7, 7, 7, 7, 7, 8, 8, 8, 8, 8, 8, 8, 8, 8, 8, 8, 8, 8, 8, 8, 8, 8, 8, 8, 8, 8, 8, 8, 8, 8, 8, 8, 8, 8, 8, 8, 8, 8, 8, 8, 8, 8, 8, 8, 8, 8, 8, 8, 8, 8, 8, 8, 8, 8, 8, 8, 8, 8, 8, 8, 8, 8, 8, 8, 8, 8, 8, 8, 8, 8, 8, 8, 8, 8, 8, 8, 8, 8, 8, 8, 8, 8, 8, 8, 8, 8, 8, 8, 8, 8, 8, 8, 8, 8, 8, 8, 8, 8, 8, 8, 8, 8, 8, 8, 8, 8, 8, 8, 8, 8, 8, 8, 8, 8, 8, 8, 8, 8, 8, 8, 8, 8, 8, 8, 8, 8, 8, 8, 8, 8, 8, 8, 8]) n6'))))) h)))
  (vcond (!(ltI x0 256))
  (isNat (wrapF .u8 (shrF .u64 x0 8)) fun n7' =>
  vreq (Nat.blt n7' 256)
  (Q (.int .i64 (wrapF .i64 (8 + (wrapF .i64 (byteI (ByteArray.mk #[0, 1, 2, 2, 3, 3, 3, 3, 4, 4, 4, 4, 4, 4, 4, 4, 5, 5, 5, 5, 5, 5, 5, 5, 5, 5, 5, 5, 5, 5, 5, 5, 6, 6, 6, 6, 6, 6, 6, 6, 6, 6, 6, 6, 6, 6, 6, 6, 6, 6, 6, 6, 6, 6, 6, 6, 6, 6, 6, 6, 6, 6, 6, 6, 7, 7, 7, 7, 7, 7, 7, 7, 7, 7, 7, 7, 7, 7, 7, 7, 7, 7, 7, 7, 7, 7, 7, 7, 7, 7, 7, 7, 7, 7, 7, 7, 7, 7, 7, 7, 7, 7, 7, 7, 7, 7, 7, 7, 7, 7, 7, 7, 7, 7, 7, 7, 7, 7, 7, 7, 7, 7, 7, 7, 7, 7, 7, 7, 8, 8, 8, 8, 8, 8, 8, 8, 8, 8, 8, 8, 8, 8, 8, 8, 8, 8, 8, 8, 8, 8, 8, 8, 8, 8, 8, 8, 8, 8, 8, 8, 8, 8, 8, 8, 8, 8, 8, 8, 8, 8, 8, 8, 8, 8, 8, 8, 8, 8, 8, 8, 8, 8, 8, 8, 8, 8, 8, 8, 8, 8, 8, 8, 8, 8, 8, 8, 8, 8, 8, 8, 8, 8, 8, 8, 8, 8, 8, 8, 8, 8, 8, 8, 8, 8, 8, 8, 8, 8, 8, 8, 8, 8, 8, 8, 8, 8, 8, 8, 8, 8, 8, 8, 8, 8, 8, 8, 8, 8, 8, 8, 8, 8, 8, 8, 8, 8, 8, 8, 8, 8, 8, 8, 8, 8, 8, 8]) n7'))))) h))
  (isNat (wrapF .u8 x0) fun n8' =>
  vreq (Nat.blt n8' 256)
  (Q (.int .i64 (wrapF .i64 (0 + (wrapF .i64 (byteI (ByteArray.mk #[0, 1, 2, 2, 3, 3, 3, 3, 4, 4, 4, 4, 4, 4, 4, 4, 5, 5, 5, 5, 5, 5, 5, 5, 5, 5, 5, 5, 5, 5, 5, 5, 6, 6, 6, 6, 6, 6, 6, 6, 6, 6, 6, 6, 6, 6, 6, 6, 6, 6, 6, 6, 6, 6, 6, 6, 6, 6, 6, 6, 6, 6, 6, 6, 7, 7, 7, 7, 7, 7, 7, 7, 7, 7, 7, 7, 7, 7, 7, 7, 7, 7, 7, 7, 7, 7, 7, 7, 7, 7, 7, 7, 7, 7, 7, 7, 7, 7, 7, 7, 7, 7, 7, 7, 7, 7, 7, 7, 7, 7, 7, 7, 7, 7, 7, 7, 7, 7, 7, 7, 7, 7, 7, 7, 7, 7, 7, 7, 8, 8, 8, 8, 8, 8, 8, 8, 8, 8, 8, 8, 8, 8, 8, 8, 8, 8, 8, 8, 8, 8, 8, 8, 8, 8, 8, 8, 8, 8, 8, 8, 8, 8, 8, 8, 8, 8, 8, 8, 8, 8, 8, 8, 8, 8, 8, 8, 8, 8, 8, 8, 8, 8, 8, 8, 8, 8, 8, 8, 8, 8, 8, 8, 8, 8, 8, 8, 8, 8, 8, 8, 8, 8, 8, 8, 8, 8, 8, 8, 8, 8, 8, 8, 8, 8, 8, 8, 8, 8, 8, 8, 8, 8, 8, 8, 8, 8, 8, 8, 8, 8, 8, 8, 8, 8, 8, 8, 8, 8, 8, 8, 8, 8, 8, 8, 8, 8, 8, 8, 8, 8, 8, 8, 8, 8, 8, 8]) n8'))))) h))))
theorem rk136 {O Q} (x0) {h : Hp} (hO : O 136 [(.int .u64 x0)] h = none) (hh : T136 O Q x0 h) : Ret Tryd.prog O 136 [(.int .u64 x0)] h Q :=
  .of (c := b136) Tryd.func136 (by kernel_rfl) hO (V_ok (tb := lv136) (cuts := []) 500 (Eq.mp (by kernel_rfl) hh))
end Go.Proofs.YtfgfhplgnfbaaaaDoor
/- Contracts of library functions that sort, where the list is sorted. -/
namespace Go.Proofs.YtfgfhplgnfbaaaaDoor
open Go Go.Ev
section
variable {O : CallF} (hO : Oth O)
include hO
theorem ct123 {x y : Int} (hx : Lit x) (hy : Lit y) (h : Hp) : EvT O 123 [.int .i64 x, .int .i64 y] h (.int .i64 ((x.natAbs : Int) - (y.natAbs : Int))) h := by
  refine EvC.of_ret (rk123 _ _ (hO _ _ _ (by decide)) ?_)
  unfold T123
  refine ⟨_, _, ct94 hO x h, _, _, ct94 hO y h, ?_, rfl⟩
  have := hx.2; have := hy.2
  rw [varI_lit2 hx, varI_lit2 hy, wrap64 (by omega) (by omega)]
theorem Dif.at {l : List Int} (h : Dif l) {k : Nat} (hk : k + 1 < l.length) : l[k].natAbs < l[k + 1].natAbs := by
  have _ := hO
  exact List.pairwise_iff_getElem.1 h k (k + 1) (by omega) hk (by omega)
theorem lp127_0 {h₀ : Hp} {a0 : Option Addr} {n0 c0 : Nat} {l : List Int} (X : IntsAt h₀ a0 n0 l) (hl : l.length < 1000) (hlit : ∀ x ∈ l, Lit x) (hd : Dif l) :
    ∀ (d k : Nat), k + d = l.length → ∀ {h : Hp}, Kp h₀.nx h₀ h → I127_0 O (fun v h' => v = undef ∧ Kp h₀.nx h₀ h') a0 n0 c0 0 (Int.ofNat n0) 123 #[] #[] 123 #[] #[] (Int.ofNat (k + 1)) h := by
  have hn := X.1
  intro d
  induction d with
  | zero =>
    intro k hk h K
    refine I127_0.of _ _ _ _ _ _ _ _ _ _ _ _ ?_
    intros
    unfold T127_0
    exact vcond_f (by rw [ltI_nat]; exact blt_f (by omega)) ⟨rfl, K⟩
  | succ d ih =>
    intro k hk h K
    refine I127_0.of _ _ _ _ _ _ _ _ _ _ _ _ ?_
    intros
    unfold T127_0
    by_cases hlast : k + 1 = l.length
    · exact vcond_f (by rw [ltI_nat]; exact blt_f (by omega)) ⟨rfl, K⟩
    have inner : I127_1 O (fun v h' => v = undef ∧ Kp h₀.nx h₀ h') a0 n0 c0 0 (Int.ofNat n0) 123 #[] #[] 123 #[] #[] (Int.ofNat (k + 1)) (Int.ofNat (k + 1)) h := by
      refine I127_1.of _ _ _ _ _ _ _ _ _ _ _ _ _ ?_
      intros
      unfold T127_1
      have k17 : Kp h₀.nx h₀ (h.rsv 17) := K.rsv 17
      have e1 : wrapF .i64 (Int.ofNat (k + 1) - 1) = Int.ofNat k := by rw [wrap64] <;> simp only [Int.ofNat_eq_natCast] <;> omega
      have hlt := Dif.at hO hd (k := k) (by omega)
      refine vcond_t (ltI_t (by simp only [Int.ofNat_eq_natCast]; omega)) (isNat_of (X.get (k := k + 1) (by omega) fun b off _ hb hrd => vreq_t (blt_t (by omega)) ⟨_, by rw [readAt_kp k17 hb]; exact hrd, ?_⟩))
      rw [e1]
      refine isNat_of (X.get (k := k) (by omega) fun b off _ hb hrd => vreq_t (blt_t (by omega)) ⟨_, by rw [readAt_kp k17 hb]; exact hrd, _, _, ct123 hO (hlit _ (List.getElem_mem _)) (hlit _ (List.getElem_mem _)) _, vcond_f (ltI_f (by omega)) ?_⟩)
      rw [wrap_succ (by omega)]
      exact ih (k + 1) (by omega) k17 ..
    exact vcond_t (by rw [ltI_nat]; exact blt_t (by omega)) (inner ..)
theorem ct127 {h : Hp} {a0 : Option Addr} {n0 c0 : Nat} {l : List Int} (X : IntsAt h a0 n0 l) (hl : l.length < 1000) (hlit : ∀ x ∈ l, Lit x) (hd : Dif l) :
    Ret Tryd.prog O 127 [.slice a0 n0 c0, .int .i64 0, .int .i64 (Int.ofNat n0), .func (.func 123) #[] #[]] h fun v h' => v = undef ∧ Kp h.nx h h' := by
  refine rk127 _ _ _ _ _ _ _ _ (hO _ _ _ (by decide)) ?_
  unfold T127
  exact lp127_0 hO X hl hlit hd l.length 0 (by omega) (.refl _ _) ..
theorem lp132 {h₀ : Hp} {a0 : Option Addr} {n0 c0 : Nat} {l : List Int} (X : IntsAt h₀ a0 n0 l) (hl : l.length < 1000) (hlit : ∀ x ∈ l, Lit x) (hd : Dif l) :
    ∀ (d k : Nat), k + 1 + d = l.length → ∀ {h : Hp}, Kp h₀.nx h₀ h → I132_1 O (fun v h' => v = .bool true ∧ Kp h₀.nx h₀ h') a0 n0 c0 0 (Int.ofNat n0) 123 #[] #[] 123 #[] #[] false (Int.ofNat (k + 1)) 0 h := by
  have hn := X.1
  intro d
  induction d with
  | zero =>
    intro k hk h K
    refine I132_1.of _ _ _ _ _ _ _ _ _ _ _ _ _ _ ?_
    intros
    unfold T132_1
    exact vcond_f (by rw [ltI_nat]; exact blt_f (by omega)) (vcond_t (eqI_t (by rw [show n0 = k + 1 by omega])) ⟨rfl, K.rsv 18⟩)
  | succ d ih =>
    intro k hk h K
    refine I132_1.of _ _ _ _ _ _ _ _ _ _ _ _ _ _ ?_
    intros
    unfold T132_1
    have k18 : Kp h₀.nx h₀ (h.rsv 18) := K.rsv 18
    have e1 : wrapF .i64 (Int.ofNat (k + 1) - 1) = Int.ofNat k := by rw [wrap64] <;> simp only [Int.ofNat_eq_natCast] <;> omega
    have hlt := Dif.at hO hd (k := k) (by omega)
    refine vcond_t (by rw [ltI_nat]; exact blt_t (by omega)) (isNat_of (X.get (k := k + 1) (by omega) fun b off _ hb hrd => vreq_t (blt_t (by omega)) ⟨_, by rw [readAt_kp k18 hb]; exact hrd, ?_⟩))
    rw [e1]
    refine isNat_of (X.get (k := k) (by omega) fun b off _ hb hrd => vreq_t (blt_t (by omega)) ⟨_, by rw [readAt_kp k18 hb]; exact hrd, _, _, ct123 hO (hlit _ (List.getElem_mem _)) (hlit _ (List.getElem_mem _)) _, vcond_t (by rw [ltI_f (by omega)]; rfl) ?_⟩)
    rw [wrap_succ (by omega)]
    exact ih (k + 1) (by omega) k18 ..
theorem ct132 {h : Hp} {a0 : Option Addr} {n0 c0 : Nat} {l : List Int} (X : IntsAt h a0 n0 l) (hl : l.length < 1000) (h1 : 1 ≤ l.length) (hlit : ∀ x ∈ l, Lit x) (hd : Dif l) :
    Ret Tryd.prog O 132 [.slice a0 n0 c0, .int .i64 0, .int .i64 (Int.ofNat n0), .func (.func 123) #[] #[]] h fun v h' => v = .bool true ∧ Kp h.nx h h' := by
  refine rk132 _ _ _ _ _ _ _ _ (hO _ _ _ (by decide)) ?_
  unfold T132
  have i0 : I132_0 O (fun v h' => v = .bool true ∧ Kp h.nx h h') a0 n0 c0 0 (Int.ofNat n0) 123 #[] #[] 123 #[] #[] false 1 0 h := by
    refine I132_0.of _ _ _ _ _ _ _ _ _ _ _ _ _ _ ?_
    intros
    unfold T132_0
    exact vcond_t rfl (lp132 hO X hl hlit hd (l.length - 1) 0 (by omega) (.refl _ _) ..)
  exact i0 ..
theorem Dif.lt {l : List Int} (h : Dif l) {i j : Nat} (hij : i < j) (hj : j < l.length) : l[i].natAbs < l[j].natAbs := by
  have _ := hO
  exact List.pairwise_iff_getElem.1 h i j (by omega) hj hij
theorem ct145 {h₀ h : Hp} (K : Kp h₀.nx h₀ h) {a0 : Option Addr} {n0 c0 : Nat} {l : List Int} (X : IntsAt h₀ a0 n0 l) (hlit : ∀ x ∈ l, Lit x) (hd : Dif l) {i j : Nat} (hij : i < j) (hj : j < l.length) {b : Nat} :
    Ret Tryd.prog O 145 [.slice a0 n0 c0, .int .i64 (Int.ofNat i), .int .i64 (Int.ofNat j), .pointer (some ⟨b, 0, none⟩), .func (.func 123) #[] #[]] h fun v h' => v = .tuple #[.int .i64 (Int.ofNat i), .int .i64 (Int.ofNat j)] ∧ Kp h.nx h h' := by
  refine rk145 _ _ _ _ _ _ _ _ _ _ (hO _ _ _ (by decide)) ?_
  unfold T145
  have hn := X.1
  have k11 : Kp h₀.nx h₀ (h.rsv 11) := K.rsv 11
  have hlt := Dif.lt hO hd hij hj
  exact isNat_of (X.get (k := j) hj fun b off _ hb hrd => vreq_t (blt_t (by omega)) ⟨_, by rw [readAt_kp k11 hb]; exact hrd, isNat_of (X.get (k := i) (by omega) fun b off _ hb hrd => vreq_t (blt_t (by omega)) ⟨_, by rw [readAt_kp k11 hb]; exact hrd, _, _, ct123 hO (hlit _ (List.getElem_mem _)) (hlit _ (List.getElem_mem _)) _, vcond_f (ltI_f (by omega)) ⟨rfl, (Kp.refl _ h).rsv 11⟩⟩)⟩)
theorem ct144 {h₀ h : Hp} (K : Kp h₀.nx h₀ h) {a0 : Option Addr} {n0 c0 : Nat} {l : List Int} (X : IntsAt h₀ a0 n0 l) (hlit : ∀ x ∈ l, Lit x) (hd : Dif l) {i j k : Nat} (hij : i < j) (hjk : j < k) (hk : k < l.length) {b : Nat} :
    Ret Tryd.prog O 144 [.slice a0 n0 c0, .int .i64 (Int.ofNat i), .int .i64 (Int.ofNat j), .int .i64 (Int.ofNat k), .pointer (some ⟨b, 0, none⟩), .func (.func 123) #[] #[]] h fun v h' => v = .int .i64 (Int.ofNat j) ∧ Kp h.nx h h' := by
  refine rk144 _ _ _ _ _ _ _ _ _ _ _ (hO _ _ _ (by decide)) ?_
  unfold T144
  obtain ⟨v1, h1, e1, rfl, K1⟩ := ct145 hO K X hlit hd hij (by omega) (c0 := c0) (b := b)
  have k1 := K.trans (K1.le K.nx)
  obtain ⟨v2, h2, e2, rfl, K2⟩ := ct145 hO k1 X hlit hd hjk hk (c0 := c0) (b := b)
  have k2 := k1.trans (K2.le k1.nx)
  obtain ⟨v3, h3, e3, rfl, K3⟩ := ct145 hO k2 X hlit hd hij (by omega) (c0 := c0) (b := b)
  exact ⟨_, _, _, e1, _, _, _, e2, _, _, _, e3, rfl, (K1.trans (K2.le K1.nx)).trans (K3.le (Nat.le_trans K1.nx K2.nx))⟩
theorem ct130 {h : Hp} {a0 : Option Addr} {n0 c0 : Nat} {l : List Int} (X : IntsAt h a0 n0 l) (hl : l.length < 50) (h1 : 8 ≤ l.length) (hlit : ∀ x ∈ l, Lit x) (hd : Dif l) :
    Ret Tryd.prog O 130 [.slice a0 n0 c0, .int .i64 0, .int .i64 (Int.ofNat n0), .func (.func 123) #[] #[]] h fun v h' => (∃ p, v = .tuple #[.int .i64 p, .int .i64 1]) ∧ Kp h.nx h h' := by
  refine rk130 _ _ _ _ _ _ _ _ (hO _ _ _ (by decide)) ?_
  unfold T130
  have hn := X.1
  have e0 : wrapF .i64 (Int.ofNat n0 - 0) = Int.ofNat n0 := by rw [wrap64] <;> simp only [Int.ofNat_eq_natCast] <;> omega
  have e4 : wrapF .i64 (Int.tdiv (Int.ofNat n0) 4) = Int.ofNat (n0 / 4) := by
    show wrapF .i64 (Int.ofNat (n0 / 4)) = _
    rw [wrap64] <;> simp only [Int.ofNat_eq_natCast] <;> omega
  have em : ∀ q : Nat, q ≤ 3 → wrapF .i64 (0 + wrapF .i64 (Int.ofNat (n0 / 4) * (q : Int))) = Int.ofNat (n0 / 4 * q) := fun q hq => by
    have hb : n0 / 4 * q ≤ 12 * 3 := Nat.mul_le_mul (by omega) hq
    have e : Int.ofNat (n0 / 4) * (q : Int) = Int.ofNat (n0 / 4 * q) := rfl
    rw [e, Int.zero_add, wrap64 (n := Int.ofNat (n0 / 4 * q)) (by simp only [Int.ofNat_eq_natCast]; omega) (by simp only [Int.ofNat_eq_natCast]; omega), wrap64 (by simp only [Int.ofNat_eq_natCast]; omega) (by simp only [Int.ofNat_eq_natCast]; omega)]
  have em1 : wrapF .i64 (0 + wrapF .i64 (Int.ofNat (n0 / 4) * 1)) = Int.ofNat (n0 / 4 * 1) := em 1 (by omega)
  have em2 : wrapF .i64 (0 + wrapF .i64 (Int.ofNat (n0 / 4) * 2)) = Int.ofNat (n0 / 4 * 2) := em 2 (by omega)
  have em3 : wrapF .i64 (0 + wrapF .i64 (Int.ofNat (n0 / 4) * 3)) = Int.ofNat (n0 / 4 * 3) := em 3 (by omega)
  rw [e0, e4]
  rw [em1, em2, em3]
  have K0 : Kp h.nx h (h.add (.cells [(.int .i64 0)] 3 .fix)) := (Kp.refl _ h).add (Nat.le_refl _) _
  obtain ⟨v, h2, e2, rfl, K2⟩ := ct144 hO K0 X hlit hd (i := n0 / 4 * 1) (j := n0 / 4 * 2) (k := n0 / 4 * 3) (by omega) (by omega) (by omega) (c0 := c0) (b := h.nx)
  have g2 : h2.get h.nx = some (.cells [.int .i64 0] 3 .fix) := by rw [K2.get _ (by rw [nx_add]; omega)]; exact get_add_same ..
  refine vcond_t (by rw [ltI_f (by simp only [Int.ofNat_eq_natCast]; omega)]; rfl) (vcond_f (by rw [ltI_t (by simp only [Int.ofNat_eq_natCast]; omega)]; rfl) ⟨_, _, e2, _, read1 g2 rfl, vcond_t (eqI_t rfl) ⟨⟨_, rfl⟩, K0.trans (K2.le K0.nx)⟩⟩)
end
end Go.Proofs.YtfgfhplgnfbaaaaDoor
