/- Contracts of layer 20: formulas by numbers. -/
import Derived.Test.YtfgfhplgnfbaaaaDoorYF
import Derived.Test.YtfgfhplgnfbaaaaDoorProg
import Derived.Test.YtfgfhplgnfbaaaaDoorYC
import Derived.KernelRfl
import Derived.Lib.LaidTab
import Derived.WalkKit
import Derived.ProofKit
import Derived.OpenShut
import Derived.Deep.DeepHandedRow
import Derived.Test.YtfgfhplgnfbaaaaDoorYD
import Derived.Test.YtfgfhplgnfbaaaaDoorYB
import Derived.Shelf.Spec.SlicesInsert
import Derived.Shelf.Spec.SlicesInsertGrow
import Derived.Test.YtfgfhplgnfbaaaaDoorCards
import Derived.Test.YtfgfhplgnfbaaaaDoorTie
import Derived.Test.YtfgfhplgnfbaaaaDoorYE
namespace Go.Proofs.YtfgfhplgnfbaaaaDoor
open Go Go.Ev
/-- The literals of a clause by numbers, from one on. -/
def rst3 (N a b c : Int) : Nat → List Int
  | 0 => litP a N :: litP b N :: (if c < 0 then [] else [litP c N])
  | 1 => litP b N :: (if c < 0 then [] else [litP c N])
  | 2 => if c < 0 then [] else [litP c N]
  | _ => []
/-- The clauses of a formula by numbers. -/
def clsN (N : Int) (cl : List Int) : Nat → List (List Int)
  | 0 => []
  | k + 1 => clsN N cl k ++ [clauseN (rst3 N (cl.getD (3 * k) 0) (cl.getD (3 * k + 1) 0) (cl.getD (3 * k + 2) 0) 0)]
/-- A puzzle's cells. -/
def puzV (vars many : Nat) (cl : List Int) : List Value := .int .u8 (Int.ofNat vars) :: .int .u8 (Int.ofNat many) :: cl.map (Value.int .i8)
structure PuzOk (vars many : Nat) (cl : List Int) : Prop where
  v : vars < 256
  m : many < 256
  len : cl.length = 42
  rng : ∀ x ∈ cl, -128 ≤ x ∧ x < 128
theorem PuzOk.at {vars many : Nat} {cl : List Int} (p : PuzOk vars many cl) (k : Nat) : -128 ≤ cl.getD k 0 ∧ cl.getD k 0 < 128 := by
  rw [List.getD_eq_getElem?_getD]
  by_cases hk : k < cl.length
  · rw [List.getElem?_eq_getElem hk]; exact p.rng _ (List.getElem_mem hk)
  · rw [List.getElem?_eq_none (by omega)]; exact ⟨by decide, by decide⟩
theorem rst3_lit {N a b c : Int} (hN : 1 ≤ N ∧ N ≤ 30) (ha : -128 ≤ a ∧ a < 128) (hb : -128 ≤ b ∧ b < 128) (hc : -128 ≤ c ∧ c < 128) (k : Nat) : ∀ x ∈ rst3 N a b c k, Lit x ∧ x.natAbs ≤ N.toNat := by
  have la := litP_ok ha.1 ha.2 hN.1 hN.2
  have lb := litP_ok hb.1 hb.2 hN.1 hN.2
  have lc := litP_ok hc.1 hc.2 hN.1 hN.2
  have t : ∀ x ∈ (if c < 0 then [] else [litP c N]), Lit x ∧ x.natAbs ≤ N.toNat := by
    intro x hx
    split at hx
    · cases hx
    · rw [List.mem_singleton.1 hx]; exact lc
  intro x hx
  match k with
  | 0 =>
    rcases List.mem_cons.1 hx with rfl | hx
    · exact la
    · rcases List.mem_cons.1 hx with rfl | hx
      · exact lb
      · exact t x hx
  | 1 =>
    rcases List.mem_cons.1 hx with rfl | hx
    · exact lb
    · exact t x hx
  | 2 => exact t x hx
  | _ + 3 => cases hx
theorem rst3_len (N a b c : Int) : (rst3 N a b c 0).length ≤ 3 := by
  show (litP a N :: litP b N :: (if c < 0 then [] else [litP c N])).length ≤ 3
  split <;> simp
section
variable {O : CallF} (hO : Oth O)
include hO
theorem lp16_1 {h₀ hI : Hp} (ok : h₀.Ok) (kI : Kp h₀.nx h₀ hI) {v0 : Array Value} {x1 : Int} {b4 f4 b5 : Nat} {aC : Option Addr} {nC cC : Nat} {N : Int} (hN : 1 ≤ N ∧ N ≤ 30) (g5 : hI.get b5 = some (.cells [.int .i64 N, .slice aC nC cC] 30 .fix)) (hb5 : h₀.nx ≤ b5 ∧ b5 < hI.nx) {B : Nat} (hB : b5 < B ∧ B ≤ hI.nx) {cls : List (List Int)} (A : LL h₀.nx B hI aC nC cC cls) (hcl : nC < 100) {a23 : Option Addr} {n23 c23 : Nat} {x24 : Int} {j : Nat} (hj : j < 100) {a b c : Int} (ha : -128 ≤ a ∧ a < 128) (hb : -128 ≤ b ∧ b < 128) (hc : -128 ≤ c ∧ c < 128) {Q : Value → Hp → Prop}
    (next : ∀ h a' c', Kp h₀.nx h₀ h → (∀ o, o < B → o ≠ b5 → h.get o = hI.get o) → hI.nx ≤ h.nx → h.get b5 = some (.cells [.int .i64 N, .slice a' (nC + 1) c'] 30 .fix) → LL h₀.nx B h a' (nC + 1) c' (cls ++ [clauseN (rst3 N a b c 0)]) → I16_0 O Q v0 x1 b4 f4 b5 0 a23 n23 c23 x24 (Int.ofNat (j + 1)) h) :
    ∀ (d k : Nat), k + d = 3 → ∀ {h : Hp} {a8 n8 c8} {acc : List Int}, Kp hI.nx hI h → AccI 3 h hI.nx a8 n8 c8 acc → acc ++ rst3 N a b c k = rst3 N a b c 0 →
      I16_1 O Q v0 x1 b4 f4 b5 0 a8 n8 c8 a23 n23 c23 x24 (Int.ofNat j) a b c (Int.ofNat k) h := by
  have gdb : ∀ {h : Hp}, Kp hI.nx hI h → GdLt h hI.nx := fun k q hq => by
    have : q ∈ h₀.gd := by rw [← kI.gd, ← k.gd]; exact hq
    have := ok.gd q this; have := kI.nx; omega
  intro d
  induction d with
  | zero =>
    intro k hk h a8 n8 c8 acc kp Ac he
    refine I16_1.of _ _ _ _ _ _ _ _ _ _ _ _ _ _ _ _ _ _ ?_
    unfold T16_1
    obtain rfl : k = 3 := by omega
    have he : acc = rst3 N a b c 0 := by simpa [rst3] using he
    refine vcond_f rfl ?_
    intro g1
    have fI : Ft hI h := kp.ex (Nat.le_refl _)
    have f1 : Ft hI g1 := inferInstanceAs (Ft hI (h.rsv _))
    refine ⟨_, _, _, (readAt_ex (g := hI) hb5.2).trans (read1 g5 (i := 0 + 1) rfl), ?_⟩
    have okh : h.Ok := (ok.kp kI).kp kp
    have okg : (g1.grd [b5]).Ok := (okh.rsv _).grd fun q hq => by
      obtain rfl := List.mem_singleton.1 hq
      show q < h.nx + 8
      have := kp.nx; omega
    have Ag : IntsAt (g1.grd [b5]) a8 n8 acc := Ac.ints.to _
    have lits := rst3_lit hN ha hb hc 0
    subst he
    refine (ct19 hO okg Ag (by have := rst3_len N a b c; omega) fun x hx => (lits x hx).1).s fun a1 n1 c1 h2 ⟨Y, K2, fr, ez⟩ => ?_
    intro g2
    have K2' : Kp g1.nx g1 g2 := ⟨K2.get, K2.nx, rfl, K2.fr⟩
    have f2 : Ft hI g2 := f1.tr (K2'.ex (Nat.le_refl _))
    have A2 : LL h₀.nx B g2 aC nC cC cls := A.to g2
    have hnx := kp.nx
    have hq : g2.get (h.nx + 4) = none := by
      rw [K2'.get _ (show h.nx + 4 < h.nx + 8 by omega)]
      exact okh.fr _ (by omega)
    have nx2 : h.nx + 4 < g2.nx := Nat.lt_of_lt_of_le (show h.nx + 4 < h.nx + 8 by omega) K2'.nx
    have okY : VOk h₀.nx B (.slice a1 n1 c1) := fun p off m w e => by
      injection e with e1 e2
      have hh : g1.nx ≤ p := fr p off e1
      have hh2 : h.nx ≤ p := Nat.le_trans (Nat.le_add_right ..) hh
      refine ⟨.inr (by omega), .inr ?_⟩
      rcases Nat.eq_zero_or_pos m with h0 | h0
      · have := Y.1
        have : clauseN (rst3 N a b c 0) = [] := List.length_eq_zero_iff.1 (by omega)
        rw [ez this] at e1; cases e1
      · exact h0
    have Y2 : IntsAt g2 a1 n1 (clauseN (rst3 N a b c 0)) := Y.to _
    have gd2 : GdLt g2 B := fun q hq => by
      have : q ∈ h₀.gd := by rw [← kI.gd, ← kp.gd]; exact hq
      have := ok.gd q this; omega
    refine LL.appR (by omega) A2 Y2 okY (by omega) gd2 hq nx2 (by omega) (fun i hi => by cases hi) (by omega) fun a' c' h3 A3 _ K3 => ?_
    intro g3
    have K3 : Kp B g2 g3 := K3.kp
    have A3 : LL h₀.nx B g3 a' (nC + 1) c' _ := A3
    have e5 : g3.get b5 = some (.cells [.int .i64 N, .slice aC nC cC] 30 .fix) := by
      rw [K3.get _ hB.1, f2.get _ hb5.2]; exact g5
    have gu : (g3.grd []).guarded b5 = false := guarded_of fun q hq => by
      have : q ∈ h₀.gd := by rw [← kI.gd, ← kp.gd]; exact K3.gd ▸ hq
      have := ok.gd q this; omega
    have e5' : (g3.grd []).get b5 = some (.cells [.int .i64 N, .slice aC nC cC] 30 .fix) := e5
    refine vreq_t (canW_t e5' (by decide) gu (by simp) rfl) ?_
    intro g4 g5'
    rw [wrap_succ (by omega)]
    have w4 : g4.get b5 = some (.cells [.int .i64 N, .slice a' (nC + 1) c'] 30 .fix) := (wr_get e5' (by decide) gu (by simp) rfl).trans rfl
    have A4 : LL h₀.nx B g4 a' (nC + 1) c' _ := (show LL h₀.nx B (g3.grd []) a' (nC + 1) c' _ from A3.to _).wr hb5.1 hB.1 _ _
    have k12 : Kp h₀.nx h₀ g3 := ((kI.trans (kp.le kI.nx)).rsv _ |>.trans (K2'.le (Nat.le_trans kI.nx (Nat.le_trans hnx (Nat.le_add_right ..))))).trans (K3.le (by omega))
    have k4 : Kp h₀.nx h₀ g5' := by
      have w : Kp h₀.nx h₀ g4 := (show Kp h₀.nx h₀ (g3.grd []) from ⟨k12.get, k12.nx, k12.gd, k12.fr⟩).wr hb5.1 _ _
      exact ⟨w.get, w.nx, k12.gd, w.fr⟩
    have n3 : hI.nx ≤ g3.nx := Nat.le_trans hnx (Nat.le_trans (Nat.le_of_lt (Nat.lt_of_le_of_lt (Nat.le_add_right _ 4) nx2)) K3.nx)
    refine next g5' a' c' k4 (fun o ho h1 => ?_) ?_ w4 (A4.to _)
    · show g4.get o = _
      rw [wr_get_ne _ _ _ _ h1]
      show g3.get o = _
      rw [K3.get o ho, f2.get o (by omega)]
    · show hI.nx ≤ g4.nx
      rw [nx_wr]; exact n3
  | succ d ih =>
    intro k hk h a8 n8 c8 acc kp Ac he
    refine I16_1.of _ _ _ _ _ _ _ _ _ _ _ _ _ _ _ _ _ _ ?_
    unfold T16_1
    have f1 : Ft hI h := kp.ex (Nat.le_refl _)
    have gN : readAt h b5 (0 + 0) 1 = some [.int .i64 N] := (readAt_ex (g := hI) hb5.2).trans (read1 g5 (i := 0) rfl)
    have push : ∀ {x : Int}, (-128 ≤ x ∧ x < 128) → rst3 N a b c k = litP x N :: rst3 N a b c (k + 1) → ∃ x', readAt h b5 (0 + 0) 1 = some [.int .i64 x'] ∧ ∃ y, ∃ h', EvC Tryd.prog O 21 [.int .i8 x, .int .i64 x'] h (.int .i64 y) h' ∧ (let g := h'.add (.cells [.int .i64 y] 3 .fix); ∃ a' n' c' h2, appendV Tryd.prog g 32 32 (.slice a8 n8 c8) (.slice (some ⟨h'.nx, 0, none⟩) 1 1) = some (.slice a' n' c', h2) ∧ I16_1 O Q v0 x1 b4 f4 b5 0 a' n' c' a23 n23 c23 x24 (Int.ofNat j) a b c (Int.ofNat (k + 1)) h2) := by
      intro x hx hr
      refine ⟨_, gN, _, _, ct21 hO hx.1 hx.2 hN.1 hN.2 h, ?_⟩
      intro g
      have al : acc.length ≤ 3 := by
        have := congrArg List.length he
        have := rst3_len N a b c
        simp at *; omega
      exact appI app32 Ac kp.nx (gdb kp) (by omega) fun a' n' c' h' A' _ kA => ih (k + 1) (by omega) (kp.trans kA) A' (by rw [List.append_assoc, List.singleton_append, ← hr]; exact he)
    rw [wrap_succ (by omega)]
    have hk3 : k = 0 ∨ k = 1 ∨ k = 2 := by omega
    rcases hk3 with rfl | rfl | rfl
    · refine vcond_t rfl (isNat_i (vreq_t rfl (vcond_t rfl ?_)))
      exact push ha rfl
    · refine vcond_t rfl (isNat_i (vreq_t rfl (vcond_t rfl ?_)))
      exact push hb rfl
    · refine vcond_t rfl (isNat_i (vreq_t rfl (vcond_f rfl (vcond_split (fun hh => ?_) fun hh => ?_))))
      · have hh : ¬ c < 0 := not_lt_of_f (show ltI c 0 = false by simpa using hh)
        exact push hc (by simp [rst3, hh])
      · have hh : c < 0 := lt_of_t (show ltI c 0 = true by simpa using hh)
        exact ih 3 (by omega) kp Ac (by simpa [rst3, hh] using he)
theorem lp16_0 {h₀ : Hp} (ok : h₀.Ok) {vars many : Nat} {cl : List Int} (p : PuzOk vars many cl) {v0 : Array Value} {x1 : Int} {N : Int} (hN : 1 ≤ N ∧ N ≤ 30) {M c23 : Nat} (hM : M ≤ 14) :
    ∀ (d k : Nat), k + d = M → ∀ {h : Hp} {aC nC cC}, Kp h₀.nx h₀ h → h₀.nx + 3 ≤ h.nx → h.get h₀.nx = some (.cells (puzV vars many cl) 26 .fix) → h.get (h₀.nx + 1) = some (.cells [.int .i64 0, .slice none 0 0] 30 .fix) → h.get (h₀.nx + 2) = some (.cells [.int .i64 N, .slice aC nC cC] 30 .fix) → LL h₀.nx (h₀.nx + 3) h aC nC cC (clsN N cl k) → nC = k →
      I16_0 O (fun v h' => ∃ a n c, v = .agg #[.int .i64 N, .slice a n c] ∧ IntssAt h' a n (clsN N cl M) ∧ Kp h₀.nx h₀ h') v0 x1 (h₀.nx + 1) 0 (h₀.nx + 2) 0 (some ⟨h₀.nx, 2, none⟩) M c23 (Int.ofNat M) (Int.ofNat k) h := by
  intro d
  induction d with
  | zero =>
    intro k hk h aC nC cC kp hnx g0 g1 g2 A hnk
    refine I16_0.of _ _ _ _ _ _ _ _ _ _ _ ?_
    unfold T16_0
    obtain rfl : k = M := by omega
    refine vcond_f (by rw [ltI_nat]; exact blt_f (by omega)) ⟨_, _, _, _, readAt_get g2 (by simp), ?_⟩
    have gu : h.guarded (h₀.nx + 1) = false := guarded_of fun q hq => by
      have : q ∈ h₀.gd := by rw [← kp.gd]; exact hq
      have := ok.gd q this; omega
    refine vreq_t (canW_t g1 (by decide) gu (by simp) rfl) ?_
    intro gw
    have w : gw.get (h₀.nx + 1) = some (.cells [.int .i64 N, .slice aC nC cC] 30 .fix) := (wr_get g1 (by decide) gu (by simp) rfl).trans rfl
    exact ⟨_, _, _, _, readAt_get w (by simp), _, _, _, rfl, (A.wr (by omega) (by omega) _ _).intss, kp.wr (by omega) _ _⟩
  | succ d ih =>
    intro k hk h aC nC cC kp hnx g0 g1 g2 A hnk
    refine I16_0.of _ _ _ _ _ _ _ _ _ _ _ ?_
    unfold T16_0
    have hl := p.len
    have rd : readAt h h₀.nx (2 + k * 3) 3 = some [.int .i8 (cl.getD (3 * k) 0), .int .i8 (cl.getD (3 * k + 1) 0), .int .i8 (cl.getD (3 * k + 2) 0)] := by
      rw [readAt_get g0 (by simp [puzV]; omega)]
      have h1 : 3 * k + 2 < cl.length := by omega
      have e : (puzV vars many cl).drop (2 + k * 3) = (cl.map (Value.int .i8)).drop (3 * k) := by
        unfold puzV
        rw [show 2 + k * 3 = 3 * k + 1 + 1 by omega, List.drop_succ_cons, List.drop_succ_cons]
      rw [e, List.drop_eq_getElem_cons (by simp; omega), List.drop_eq_getElem_cons (by simp; omega), List.drop_eq_getElem_cons (by simp; omega)]
      simp only [List.take_succ_cons, List.take_zero, List.getElem_map, List.getD_eq_getElem?_getD]
      rw [List.getElem?_eq_getElem (by omega), List.getElem?_eq_getElem (by omega), List.getElem?_eq_getElem (by omega)]; rfl
    refine vcond_t (by rw [ltI_nat]; exact blt_t (by omega)) (isNat_i (show isAddr (some ⟨h₀.nx, 2, none⟩) _ from vreq_t (blt_t (by omega)) ⟨_, _, _, rd, ?_⟩))
    intro g101
    have gu : g101.guarded h.nx = false := guarded_of fun q hq => by
      have : q ∈ h₀.gd := by rw [← kp.gd]; exact hq
      have := ok.gd q this; omega
    have ga : g101.get h.nx = some (.cells [.int .i8 0, .int .i8 0, .int .i8 0] 23 .fix) := get_add_same ..
    refine vreq_t (canW_t ga (by decide) gu (by simp) rfl) ?_
    intro gw
    have w : gw.get h.nx = some (.cells [.int .i8 (cl.getD (3 * k) 0), .int .i8 (cl.getD (3 * k + 1) 0), .int .i8 (cl.getD (3 * k + 2) 0)] 23 .fix) := (wr_get ga (by decide) gu (by simp) rfl).trans rfl
    refine ⟨_, _, _, readAt_get w (by simp), ?_⟩
    have kw : Kp h.nx h gw := ((Kp.refl h.nx h).add (Nat.le_refl _) _).wr (Nat.le_refl _) _ _
    have fw : Ft h gw := kw.ex (Nat.le_refl _)
    have kI : Kp h₀.nx h₀ gw := kp.trans (kw.le kp.nx)
    refine lp16_1 hO ok kI hN (aC := aC) (nC := nC) (cC := cC) (cls := clsN N cl k) ((fw.get _ (by omega)).trans g2) ⟨by omega, Nat.lt_of_lt_of_le (by omega) kw.nx⟩ (B := h₀.nx + 3) ⟨by omega, Nat.le_trans hnx kw.nx⟩ (A.to gw) (by omega) (by omega) (p.at _) (p.at _) (p.at _) (fun h' a' c' k' hs hn' g5 A' => ?_) 3 0 (by omega) (.refl _ _) (AccI.nil ..) (by simp)
    have fo : ∀ o, o < h₀.nx + 2 → h'.get o = h.get o := fun o ho => by rw [hs o (by omega) (by omega), fw.get o (by omega)]
    exact ih (k + 1) (by omega) k' (Nat.le_trans hnx (Nat.le_trans kw.nx hn')) ((fo _ (by omega)).trans g0) ((fo _ (by omega)).trans g1) g5 A' (by omega)
theorem ct16 {h : Hp} (ok : h.Ok) {vars many : Nat} {cl : List Int} (p : PuzOk vars many cl) {x1 : Int} (h1 : 1 ≤ x1 ∧ x1 ≤ 20) :
    Ret Tryd.prog O 16 [.agg (puzV vars many cl).toArray, .int .i64 x1] h fun v h' => ∃ a n c, v = .agg #[.int .i64 (1 + (vars : Int).tmod x1), .slice a n c] ∧ IntssAt h' a n (clsN (1 + (vars : Int).tmod x1) cl (many % 15)) ∧ Kp h.nx h h' := by
  refine rk16 _ _ (hO _ _ _ (by decide)) ?_
  unfold T16
  have pv := p.v; have pm := p.m
  have hmod : 0 ≤ (vars : Int).tmod x1 ∧ (vars : Int).tmod x1 < x1 := ⟨Int.tmod_nonneg _ (by omega), Int.tmod_lt_of_pos _ (by omega)⟩
  refine vreq_t ?_ ?_
  · simp [puzV, one]
  intro g1 g2
  have e1 : g1.get h.nx = some (.cells (puzV vars many cl) 26 .fix) := get_add_same ..
  have e2 : g2.get h.nx = some (.cells (puzV vars many cl) 26 .fix) := (get_add_ne (show h.nx ≠ h.nx + 1 by omega)).trans e1
  refine ⟨_, read1 e2 (i := 0) rfl, vreq_t (by rw [eqI_f (by omega)]; rfl) ?_⟩
  intro g4
  have ea : g4.get g2.nx = some (.cells [.int .i64 0, .slice none 0 0] 30 .fix) := get_add_same ..
  have gu : g4.guarded g2.nx = false := guarded_of fun q hq => by
    have := ok.gd q hq
    have : g2.nx = h.nx + 1 + 1 := rfl
    omega
  rw [wrap64 (n := Int.ofNat vars) (by simp only [Int.ofNat_eq_natCast]; omega) (by simp only [Int.ofNat_eq_natCast]; omega)]
  rw [show (Int.ofNat vars) = (vars : Int) from rfl, wrap64 (n := 1 + (vars : Int).tmod x1) (by omega) (by omega)]
  refine vreq_t (canW_t ea (by decide) gu (by simp) rfl) ?_
  intro g5
  have w5 : g5.get g2.nx = some (.cells [.int .i64 (1 + (vars : Int).tmod x1), .slice none 0 0] 30 .fix) := (wr_get ea (by decide) gu (by simp) rfl).trans rfl
  have e5 : g5.get h.nx = some (.cells (puzV vars many cl) 26 .fix) :=
    (wr_get_ne _ _ _ _ (show h.nx ≠ h.nx + 1 + 1 by omega)).trans ((get_add_ne (show h.nx ≠ h.nx + 1 + 1 by omega)).trans e2)
  have e6 : g5.get (h.nx + 1) = some (.cells [.int .i64 0, .slice none 0 0] 30 .fix) :=
    (wr_get_ne _ _ _ _ (show h.nx + 1 ≠ h.nx + 1 + 1 by omega)).trans ((get_add_ne (show h.nx + 1 ≠ h.nx + 1 + 1 by omega)).trans (get_add_same g1 _))
  refine ⟨_, read1 e5 (i := 1) rfl, ?_⟩
  rw [wrap64 (n := Int.ofNat many) (by simp only [Int.ofNat_eq_natCast]; omega) (by simp only [Int.ofNat_eq_natCast]; omega)]
  have em : (Int.ofNat many).tmod 15 = Int.ofNat (many % 15) := rfl
  rw [em]
  have sl : sliceV Tryd.prog g5 24 (.pointer (some ⟨h.nx, 2, none⟩)) none (some (.int .i64 (Int.ofNat (many % 15)))) none = some (.slice (some ⟨h.nx, 2, none⟩) (many % 15) 14) := by
    have e2 : sz Tryd.prog 23 = some 3 := by kernel_rfl
    have e3 : Tryd.prog.underlying 24 = some (.array 14 23) := by kernel_rfl
    have e4 : bounds 14 14 none (some (.int .i64 (Int.ofNat (many % 15)))) none = some (0, many % 15, 14) := by
      unfold bounds boundM boundH boundL boundV
      simp only [Option.bind_some, Option.map_some]
      rw [ble_t (by omega)]; rfl
    unfold sliceV
    rw [e3]
    simp only [e2, bind, Option.bind_some, e4]
    rfl
  refine ⟨_, _, _, sl, ?_⟩
  have k5 : Kp h.nx h g5 := ((((Kp.refl h.nx h).add (Nat.le_refl _) _).add (by show h.nx ≤ h.nx + 1; omega) _).add (by show h.nx ≤ h.nx + 1 + 1; omega) _).wr (show h.nx ≤ h.nx + 1 + 1 by omega) _ _
  exact lp16_0 hO ok p (N := 1 + (vars : Int).tmod x1) ⟨by omega, by omega⟩ (M := many % 15) (c23 := 14) (by omega) (many % 15) 0 (by omega) k5 (show h.nx + 3 ≤ g5.nx by show h.nx + 3 ≤ (g4.wr _ _ _).nx; rw [nx_wr]; exact Nat.le_refl _) e5 e6 w5 (.nil ..) rfl
end
end Go.Proofs.YtfgfhplgnfbaaaaDoor
/- The plain law of resolution: what it returns. -/
namespace Go.Proofs.YtfgfhplgnfbaaaaDoor
open Go Go.Ev
theorem lits_mem {y m : Nat} (hy : y < 2 ^ 30) (hm : m < 2 ^ 30) (hc : y &&& m = 0) {x : Int} : x ∈ litsN y m ↔ trM y m x := by
  have ex : ∀ i, y.testBit i = true → m.testBit i = true → False := fun i a b => (and_zero_iff _ _).1 hc i ⟨a, b⟩
  have big : ∀ {u i : Nat}, u < 2 ^ 30 → u.testBit i = true → i < 30 := fun {u i} hu h => by
    refine Classical.byContradiction fun hn => ?_
    rw [Nat.testBit_lt_two_pow (Nat.lt_of_lt_of_le hu (Nat.pow_le_pow_right (by decide) (by omega)))] at h; cases h
  unfold litsN digits
  rw [List.mem_map]
  constructor
  · rintro ⟨v, hv, rfl⟩
    obtain ⟨h1, h2⟩ := List.mem_filter.1 hv
    rw [Nat.testBit_or, Bool.or_eq_true] at h2
    unfold litOf ofN
    cases hyv : y.testBit v with
    | true => exact .inl ⟨by simp, by simp only [if_pos]; exact hyv⟩
    | false =>
      have hmv : m.testBit v = true := by rcases h2 with h2 | h2; rw [hyv] at h2; cases h2; exact h2
      simp only [hmv, Bool.false_eq_true, if_false, if_true]
      exact .inr ⟨by omega, by rw [show (-((v + 1 : Nat) : Int)).natAbs - 1 = v by omega]; exact hmv⟩
  · rintro (⟨h0, h1⟩ | ⟨h0, h1⟩)
    · refine ⟨x.natAbs - 1, List.mem_filter.2 ⟨List.mem_range.2 (big hy h1), by rw [Nat.testBit_or, h1]; rfl⟩, ?_⟩
      unfold litOf ofN
      rw [if_pos h1, if_neg (by decide)]; omega
    · refine ⟨x.natAbs - 1, List.mem_filter.2 ⟨List.mem_range.2 (big hm h1), by rw [Nat.testBit_or, h1, Bool.or_true]⟩, ?_⟩
      unfold litOf ofN
      have : y.testBit (x.natAbs - 1) = false := by
        cases h : y.testBit (x.natAbs - 1) with
        | false => rfl
        | true => exact (ex _ h h1).elim
      have e : (if y.testBit (x.natAbs - 1) = true then (1 : Int) else if m.testBit (x.natAbs - 1) = true then 2 else 0) = 2 := by rw [if_neg (by rw [this]; decide), if_pos h1]
      rw [if_pos e]; omega
theorem litOf_abs (y m v : Nat) : (litOf y m v).natAbs = v + 1 := by
  unfold litOf; split <;> omega
theorem lits_dif (y m : Nat) : Dif (litsN y m) := by
  unfold litsN digits Dif
  rw [List.pairwise_map]
  refine (List.Pairwise.filter _ List.pairwise_lt_range).imp fun h => ?_
  rw [litOf_abs, litOf_abs]; omega
theorem lits_lit (y m : Nat) : ∀ x ∈ litsN y m, Lit x := by
  intro x hx
  unfold litsN digits at hx
  obtain ⟨v, hv, rfl⟩ := List.mem_map.1 hx
  have := List.mem_range.1 (List.mem_filter.1 hv).1
  have := litOf_abs y m v
  unfold Lit; omega
theorem con_iff {y m : Nat} : y &&& m = 0 ↔ ∀ x, trM y m x → trM y m (-x) → False := by
  constructor
  · intro h x a b; exact trM_con h x a b
  · intro h
    refine (and_zero_iff _ _).2 fun i hi => h ((i + 1 : Nat) : Int) (.inl ⟨by omega, ?_⟩) (.inr ⟨by omega, ?_⟩)
    · rw [show ((i + 1 : Nat) : Int).natAbs - 1 = i by omega]; exact hi.1
    · rw [show (-((i + 1 : Nat) : Int)).natAbs - 1 = i by omega]; exact hi.2
theorem rsF_ok {v : Int} : ∀ {zs : List Int} {y m : Nat} {q : Bool}, (∀ z ∈ zs, Lit z) → y < 2 ^ 30 → m < 2 ^ 30 → (y &&& m = 0 ∨ q = false) →
    (∀ z, trM (rsF v zs y m q).1 (rsF v zs y m q).2.1 z ↔ trM y m z ∨ (z ∈ zs ∧ z ≠ v ∧ z ≠ -v)) ∧ ((rsF v zs y m q).2.2 = true ↔ q = true ∧ (rsF v zs y m q).1 &&& (rsF v zs y m q).2.1 = 0) ∧ (rsF v zs y m q).1 < 2 ^ 30 ∧ (rsF v zs y m q).2.1 < 2 ^ 30 := by
  intro zs
  induction zs with
  | nil =>
    intro y m q _ hy hm hc
    refine ⟨fun z => ⟨.inl, fun h => h.elim id fun h => by cases h.1⟩, ⟨fun h => ⟨h, hc.resolve_right fun e => ?_⟩, fun h => h.1⟩, hy, hm⟩
    have h : q = true := h
    rw [e] at h; cases h
  | cons x zs ih =>
    intro y m q hl hy hm hc
    have hx := hl x (List.mem_cons_self ..)
    have hl' : ∀ z ∈ zs, Lit z := fun z hz => hl z (List.mem_cons_of_mem _ hz)
    simp only [rsF]
    split
    · rename_i hv
      obtain ⟨a, b, c⟩ := ih hl' hy hm hc
      refine ⟨fun z => ?_, b, c⟩
      rw [a]
      constructor
      · rintro (h | ⟨h, r⟩)
        · exact .inl h
        · exact .inr ⟨List.mem_cons_of_mem _ h, r⟩
      · rintro (h | ⟨h, r1, r2⟩)
        · exact .inl h
        · rcases List.mem_cons.1 h with rfl | h
          · exact absurd hv (by omega)
          · exact .inr ⟨h, r1, r2⟩
    · rename_i hv
      have w := withN_lt hx hy hm
      obtain ⟨a, b, c⟩ := ih (q := q && decide ((withN y m x).1 &&& (withN y m x).2 = 0)) hl' w.1 w.2 (by
        by_cases h : (withN y m x).1 &&& (withN y m x).2 = 0
        · exact .inl h
        · right; simp [h])
      refine ⟨fun z => ?_, ?_, c⟩
      · rw [a, trM_with hx]
        constructor
        · rintro ((h | rfl) | ⟨h, r⟩)
          · exact .inl h
          · exact .inr ⟨List.mem_cons_self .., by omega, by omega⟩
          · exact .inr ⟨List.mem_cons_of_mem _ h, r⟩
        · rintro (h | ⟨h, r⟩)
          · exact .inl (.inl h)
          · rcases List.mem_cons.1 h with rfl | h
            · exact .inl (.inr rfl)
            · exact .inr ⟨h, r⟩
      · rw [b, Bool.and_eq_true, decide_eq_true_eq]
        constructor
        · rintro ⟨⟨h1, _⟩, h2⟩; exact ⟨h1, h2⟩
        · rintro ⟨h1, h2⟩
          refine ⟨⟨h1, con_iff.2 fun z p1 p2 => con_iff.1 h2 z ((a z).2 (.inl p1)) ((a (-z)).2 (.inl p2))⟩, h2⟩
/-- What two clauses are resolved to. -/
theorem resP_spec {xs ys : List Int} {v : Int} (hx : clB 30 0 xs = true) (hy : clB 30 0 ys = true) (h1 : 1 ≤ v) (h2 : v ≤ 30) (hv : v ∈ xs) (hw : -v ∈ ys) :
    (resP xs ys v = ([], 7) ∧ ∃ x ∈ xs, x ≠ v ∧ x ≠ -v ∧ -x ∈ ys) ∨ ∃ L, resP xs ys v = (L, 0) ∧ (¬ ∃ x ∈ xs, x ≠ v ∧ x ≠ -v ∧ -x ∈ ys) ∧ Dif L ∧ (∀ x ∈ L, Lit x) ∧ ∀ x, x ∈ L ↔ (x ∈ xs ∨ x ∈ ys) ∧ x ≠ v ∧ x ≠ -v := by
  have lx := fun x h => (clB_lit (by decide) hx x h).1
  have ly := fun x h => (clB_lit (by decide) hy x h).1
  have dx := clB_dif (by decide) hx
  have dy := clB_dif (by decide) hy
  have one : ∀ {l : List Int}, Dif l → ∀ {x}, x ≠ 0 → x ∈ l → -x ∈ l → False := by
    intro l d x h0 a b
    obtain ⟨i, hi, e1⟩ := List.getElem_of_mem a
    obtain ⟨j, hj, e2⟩ := List.getElem_of_mem b
    have := List.pairwise_iff_getElem.1 d
    rcases Nat.lt_trichotomy i j with h | h | h
    · have := this i j hi hj h; omega
    · subst h; omega
    · have := this j i hj hi h; omega
  have e : resP xs ys v = fin38 (rsF v (xs ++ ys) 0 0 true) := by
    unfold resP
    rw [if_neg (by rw [hx, hy]; simp; omega), if_neg (by simp [hv, hw])]
  have lz : ∀ z ∈ xs ++ ys, Lit z := fun z hz => (List.mem_append.1 hz).elim (lx z) (ly z)
  obtain ⟨a, b, c, d⟩ := rsF_ok (v := v) (q := true) lz (y := 0) (m := 0) (by decide) (by decide) (.inl rfl)
  have z0 : ∀ z, ¬ trM 0 0 z := fun z h => by
    rcases h with ⟨_, h⟩ | ⟨_, h⟩ <;> simp at h
  rw [e]
  unfold fin38
  cases hq : (rsF v (xs ++ ys) 0 0 true).2.2 with
  | false =>
    refine .inl ⟨rfl, Classical.byContradiction fun hn => ?_⟩
    have : (rsF v (xs ++ ys) 0 0 true).2.2 = true := b.2 ⟨rfl, con_iff.2 fun z p1 p2 => ?_⟩
    · rw [hq] at this; cases this
    · obtain ⟨m1, n1, n2⟩ := ((a z).1 p1).resolve_left (z0 z)
      obtain ⟨m2, _, _⟩ := ((a (-z)).1 p2).resolve_left (z0 _)
      have h0 := (lz z m1).1
      rcases List.mem_append.1 m1 with m1 | m1 <;> rcases List.mem_append.1 m2 with m2 | m2
      · exact one dx h0 m1 m2
      · exact hn ⟨z, m1, n1, n2, m2⟩
      · exact hn ⟨-z, m2, by omega, by omega, by rw [Int.neg_neg]; exact m1⟩
      · exact one dy h0 m1 m2
  | true =>
    have h0 := (b.1 hq).2
    refine .inr ⟨_, rfl, ?_, lits_dif _ _, lits_lit _ _, fun x => ?_⟩
    · rintro ⟨x, m1, n1, n2, m2⟩
      exact con_iff.1 h0 x ((a x).2 (.inr ⟨List.mem_append_left _ m1, n1, n2⟩)) ((a (-x)).2 (.inr ⟨List.mem_append_right _ m2, by omega, by omega⟩))
    · rw [lits_mem c d h0, a]
      constructor
      · rintro (h | ⟨h, r⟩)
        · exact (z0 _ h).elim
        · exact ⟨List.mem_append.1 h, r⟩
      · rintro ⟨h, r⟩
        exact .inr ⟨List.mem_append.2 h, r⟩
theorem isB_neg {m : Nat} {x : Int} (hx : x ≠ 0) : isB m (-x) = !(isB m x) := by
  unfold isB
  rw [Int.natAbs_neg]
  by_cases h : x < 0
  · rw [if_neg (by omega), if_pos h, Bool.not_not]
  · rw [if_pos (by omega), if_neg h]
theorem clB_of {vars : Int} : ∀ {l : List Int} {last : Int}, Dif l → (∀ x ∈ l, Lit x ∧ (x.natAbs : Int) ≤ vars) → (∀ x ∈ l, last < (x.natAbs : Int)) → clB vars last l = true := by
  intro l
  induction l with
  | nil => intro last _ _ _; rfl
  | cons x l ih =>
    intro last hd hl hlast
    obtain ⟨h1, h2⟩ := List.pairwise_cons.1 hd
    have hx := hl x (List.mem_cons_self ..)
    have := hlast x (List.mem_cons_self ..)
    simp only [clB]
    rw [varI_lit2 hx.1, if_neg (by omega)]
    exact ih h2 (fun z hz => hl z (List.mem_cons_of_mem _ hz)) fun z hz => by have := h1 z hz; omega
end Go.Proofs.YtfgfhplgnfbaaaaDoor
/- The plain law of proofs: what is accepted follows; more clauses do no harm. -/
namespace Go.Proofs.YtfgfhplgnfbaaaaDoor
open Go Go.Ev
theorem Der.mono {cls cls' : List (List Int)} {xs xs' : List Int} (h1 : ∀ l ∈ cls, l ∈ cls') (h2 : ∀ x ∈ xs, x ∈ xs') {z : Int} (h : Der cls xs z) : Der cls' xs' z := by
  induction h with
  | base h => exact .base (h2 _ h)
  | unit hl hx _ ih => exact .unit (h1 _ hl) hx ih
theorem Cl.mono {cls cls' : List (List Int)} {xs xs' : List Int} (h1 : ∀ l ∈ cls, l ∈ cls') (h2 : ∀ x ∈ xs, x ∈ xs') (h : Cl cls xs) : Cl cls' xs' := by
  rcases h with ⟨x, a, b⟩ | ⟨l, hl, a⟩
  · exact .inl ⟨x, a.mono h1 h2, b.mono h1 h2⟩
  · exact .inr ⟨l, h1 l hl, fun y hy => (a y hy).mono h1 h2⟩
/-- Clauses as they are asked for. -/
def Good (cls : List (List Int)) : Prop := ∀ l ∈ cls, (∀ x ∈ l, Lit x) ∧ Dif l
theorem calm_iff {cls : List (List Int)} {xs : List Int} (hd : Good cls) (hx : ∀ x ∈ xs, Lit x) : (fromN (cls.map sideN) xs).2 = true ↔ ¬ Cl cls xs := by
  obtain ⟨a, b⟩ := fromN_ok hd hx
  constructor
  · intro h; exact (a h).1.not
  · intro h
    cases e : (fromN (cls.map sideN) xs).2 with
    | true => rfl
    | false => exact absurd (b e) h
/-- A model is calm. -/
theorem model_calm {cls : List (List Int)} {xs : List Int} {m : Nat} (hd : ∀ l ∈ cls, ∀ x ∈ l, x ≠ 0) (hx : ∀ x ∈ xs, x ≠ 0) (h1 : ∀ c ∈ cls, c.any (isB m) = true) (h2 : ∀ x ∈ xs, isB m x = true) : ¬ Cl cls xs := by
  have C : Calm cls xs fun x => x ≠ 0 ∧ isB m x = true := ⟨fun x a b => by
    have b2 := b.2
    rw [isB_neg a.1, a.2] at b2
    exact Bool.noConfusion b2, fun x h => ⟨hx x h, h2 x h⟩, fun l hl => by
    obtain ⟨x, hxl, ht⟩ := List.any_eq_true.1 (h1 l hl)
    exact .inl ⟨x, hxl, hd l hl x hxl, ht⟩⟩
  exact C.not
theorem accF_true {gs : List Int} {m : Nat} (hg : ∀ x ∈ gs, Lit x ∧ isB m x = true) : ∀ {pf cls : List (List Int)} {i : Nat}, Good cls → Good pf → accF gs cls pf i = none → (∀ c ∈ cls, c.any (isB m) = true) → ∀ l ∈ pf, l.any (isB m) = true := by
  intro pf
  induction pf with
  | nil => intro cls i _ _ _ _ l h; cases h
  | cons x pf ih =>
    intro cls i hc hp ha hm l hl
    simp only [accF] at ha
    split at ha
    · cases ha
    · rename_i hn
      obtain ⟨hx1, hx2⟩ := hp x (List.mem_cons_self ..)
      have lits : ∀ z ∈ gs ++ x.map (fun x => -x), Lit z := fun z hz => (List.mem_append.1 hz).elim (fun h => (hg z h).1) (lit_neg hx1 z)
      have hcl : Cl cls (gs ++ x.map fun x => -x) := Classical.byContradiction fun h => hn ((calm_iff hc lits).2 h)
      have hx : x.any (isB m) = true := by
        cases e : x.any (isB m) with
        | true => rfl
        | false =>
          refine absurd hcl (model_calm (fun l hl z hz => ((hc l hl).1 z hz).1) (fun z hz => (lits z hz).1) hm fun z hz => ?_)
          rcases List.mem_append.1 hz with hz | hz
          · exact (hg z hz).2
          · obtain ⟨w, hw, rfl⟩ := List.mem_map.1 hz
            rw [isB_neg (hx1 w hw).1]
            have := List.any_eq_false.1 e w hw
            simpa using this
      rcases List.mem_cons.1 hl with rfl | hl
      · exact hx
      · refine ih (cls := cls ++ [x]) (fun l hl => ?_) (fun l hl => hp l (List.mem_cons_of_mem _ hl)) ha (fun c hc' => ?_) l hl
        · rcases List.mem_append.1 hl with hl | hl
          · exact hc l hl
          · rw [List.mem_singleton.1 hl]; exact ⟨hx1, hx2⟩
        · rcases List.mem_append.1 hc' with hc' | hc'
          · exact hm c hc'
          · rw [List.mem_singleton.1 hc']; exact hx
theorem accF_mono {gs gs' : List Int} (hg : ∀ x ∈ gs, x ∈ gs') (hgl : ∀ x ∈ gs', Lit x) : ∀ {pf cls cls' : List (List Int)} {i : Nat}, Good cls → Good cls' → Good pf → (∀ l ∈ cls, l ∈ cls') → accF gs cls pf i = none → accF gs' cls' pf i = none := by
  intro pf
  induction pf with
  | nil => intro cls cls' i _ _ _ _ _; rfl
  | cons x pf ih =>
    intro cls cls' i hc hc' hp hs ha
    simp only [accF] at ha ⊢
    split at ha
    · cases ha
    · rename_i hn
      obtain ⟨hx1, hx2⟩ := hp x (List.mem_cons_self ..)
      have lits : ∀ z ∈ gs ++ x.map (fun x => -x), Lit z := fun z hz => (List.mem_append.1 hz).elim (fun h => hgl z (hg z h)) (lit_neg hx1 z)
      have lits' : ∀ z ∈ gs' ++ x.map (fun x => -x), Lit z := fun z hz => (List.mem_append.1 hz).elim (hgl z) (lit_neg hx1 z)
      have hcl : Cl cls (gs ++ x.map fun x => -x) := Classical.byContradiction fun h => hn ((calm_iff hc lits).2 h)
      have hcl' : Cl cls' (gs' ++ x.map fun x => -x) := hcl.mono hs fun z hz => (List.mem_append.1 hz).elim (fun h => List.mem_append_left _ (hg z h)) (List.mem_append_right _)
      rw [if_neg (fun h => (calm_iff hc' lits').1 h hcl')]
      have add : ∀ {c : List (List Int)}, Good c → Good (c ++ [x]) := fun {c} h l hl => by
        rcases List.mem_append.1 hl with hl | hl
        · exact h l hl
        · rw [List.mem_singleton.1 hl]; exact ⟨hx1, hx2⟩
      exact ih (add hc) (add hc') (fun l hl => hp l (List.mem_cons_of_mem _ hl)) (fun l hl => by
        rcases List.mem_append.1 hl with hl | hl
        · exact List.mem_append_left _ (hs l hl)
        · exact List.mem_append_right _ hl) ha
/-- A clause of variables up to a number. -/
def Cv (vars : Int) (l : List Int) : Prop := Dif l ∧ ∀ x ∈ l, Lit x ∧ (x.natAbs : Int) ≤ vars
theorem Cv.b {vars : Int} {l : List Int} (h : Cv vars l) : clB vars 0 l = true := clB_of h.1 h.2 fun x hx => by have := (h.2 x hx).1.1; omega
theorem good_of {vars : Int} {cls : List (List Int)} (h : ∀ l ∈ cls, Cv vars l) : Good cls := fun l hl => ⟨fun x hx => ((h l hl).2 x hx).1, (h l hl).1⟩
theorem ask_of {vars : Int} {cls : List (List Int)} {gs : List Int} (h0 : 0 ≤ vars) (h1 : vars ≤ 30) (hl : cls.length ≤ 120) (hc : ∀ l ∈ cls, Cv vars l) (hg : Cv vars gs) : askB vars cls gs = true := by
  unfold askB formB
  rw [hg.b, List.all_eq_true.2 fun l hl => (hc l hl).b]
  simp; omega
/-- What is accepted has no model. -/
theorem sound {cls pf : List (List Int)} {gs : List Int} (hc : Good cls) (hp : Good pf) (hg : ∀ x ∈ gs, Lit x) (ha : accF gs cls pf 0 = none) (he : [] ∈ pf) (n : Nat) : modelsN n cls gs = [] := by
  unfold modelsN
  rw [List.filter_eq_nil_iff]
  intro m _ hm
  unfold satM at hm
  rw [Bool.and_eq_true, List.all_eq_true, List.all_eq_true] at hm
  have := accF_true (fun x hx => ⟨hg x hx, hm.1 x hx⟩) hc hp ha hm.2 [] he
  cases this
theorem clsN_ok {vars many : Nat} {cl : List Int} (p : PuzOk vars many cl) {N : Int} (hN : 1 ≤ N ∧ N ≤ 30) : ∀ k, (clsN N cl k).length = k ∧ ∀ l ∈ clsN N cl k, Cv N l ∧ l.length ≤ 3 := by
  intro k
  induction k with
  | zero => exact ⟨rfl, fun l h => by cases h⟩
  | succ k ih =>
    refine ⟨by simp [clsN, ih.1], fun l hl => ?_⟩
    simp only [clsN] at hl
    rcases List.mem_append.1 hl with hl | hl
    · exact ih.2 l hl
    · rw [List.mem_singleton.1 hl]
      have := rst3_lit hN (p.at (3 * k)) (p.at (3 * k + 1)) (p.at (3 * k + 2)) 0
      refine ⟨⟨clauseN_dif _, fun x hx => ?_⟩, Nat.le_trans (clauseN_len _) (rst3_len ..)⟩
      have := clauseN_mem this x hx
      exact ⟨this.1, by omega⟩
end Go.Proofs.YtfgfhplgnfbaaaaDoor
/- What a search finds: the decisions are proper; what clashes is enough. -/
namespace Go.Proofs.YtfgfhplgnfbaaaaDoor
open Go Go.Ev
/-- Literals of some variables. -/
abbrev Lv (vars : Int) (l : List Int) : Prop := ∀ x ∈ l, Lit x ∧ (x.natAbs : Int) ≤ vars
/-- Decisions: their variables increase, and all variables before one of them have a truth. -/
structure Dcs (N : Nat) (cls : List (List Int)) (gs ds : List Int) : Prop where
  cv : Cv (Int.ofNat N) ds
  all : ∀ x ∈ ds, ∀ w : Int, 1 ≤ w → w < x.natAbs → Der cls (gs ++ ds) w ∨ Der cls (gs ++ ds) (-w)
theorem dif_len {N : Nat} : ∀ {l : List Int} {lo : Nat}, Dif l → (∀ x ∈ l, lo < x.natAbs ∧ x.natAbs ≤ N) → l.length + lo ≤ N ∨ l = [] := by
  intro l
  induction l with
  | nil => intro lo _ _; exact .inr rfl
  | cons x l ih =>
    intro lo hd hx
    obtain ⟨h1, h2⟩ := List.pairwise_cons.1 hd
    have h3 := hx x (by simp)
    rcases ih (lo := x.natAbs) h2 (fun y hy => ⟨h1 y hy, (hx y (List.mem_cons_of_mem _ hy)).2⟩) with h | h
    · left; simp; omega
    · subst h; left; simp; omega
theorem Dcs.len {N : Nat} {cls : List (List Int)} {gs ds : List Int} (D : Dcs N cls gs ds) : ds.length ≤ N := by
  rcases dif_len (N := N) (lo := 0) D.cv.1 (fun x hx => by obtain ⟨h1, h2⟩ := D.cv.2 x hx; have := h1.1; simp only [Int.ofNat_eq_natCast] at h2; omega) with h | h
  · omega
  · subst h; simp
theorem freeM_bit {N y m i : Nat} : (freeM N y m).testBit i = (decide (i < N) && !(y ||| m).testBit i) := by
  unfold freeM
  rw [testBit_andn, Nat.testBit_two_pow_sub_one]
theorem lowF_bit {u : Nat} (h0 : u ≠ 0) (hu : u < 2 ^ 30) : u.testBit (lowF u) = true ∧ ∀ i, i < lowF u → u.testBit i = false := by
  obtain ⟨j, e, _⟩ := lowF_spec h0 hu
  generalize lowF u = k at *
  have e2 : u = 2 ^ k * (2 * j + 1) := by rw [e, Nat.pow_succ, Nat.mul_add, Nat.mul_one, Nat.mul_assoc]
  subst e2
  refine ⟨?_, fun i hi => ?_⟩
  · rw [Nat.testBit_two_pow_mul]
    simp
  · rw [Nat.testBit_two_pow_mul]
    simp; omega
section
variable {N : Nat} {cls : List (List Int)} {gs : List Int} (hN : N ≤ 30) (hc : ∀ l ∈ cls, Cv (Int.ofNat N) l) (hg : Lv (Int.ofNat N) gs)
include hN hc hg
omit hN hc in
theorem Dcs.lit {ds : List Int} (D : Dcs N cls gs ds) : ∀ x ∈ gs ++ ds, Lit x := fun x hx => by
  rcases List.mem_append.1 hx with hx | hx
  · exact (hg x hx).1
  · exact (D.cv.2 x hx).1
/-- What a node knows whose propagation is calm. -/
theorem node_calm {ds : List Int} (D : Dcs N cls gs ds) (hq : (fromN (cls.map sideN) (gs ++ ds)).2 = true) :
    Calm cls (gs ++ ds) (trM (fromN (cls.map sideN) (gs ++ ds)).1.1 (fromN (cls.map sideN) (gs ++ ds)).1.2) ∧ ∀ z, trM (fromN (cls.map sideN) (gs ++ ds)).1.1 (fromN (cls.map sideN) (gs ++ ds)).1.2 z → Der cls (gs ++ ds) z :=
  have _ := hN
  (fromN_ok (good_of hc) (Dcs.lit hg D)).1 hq
/-- The variables before the one that is open have a truth. -/
theorem low_der {ds : List Int} (D : Dcs N cls gs ds) (hq : (fromN (cls.map sideN) (gs ++ ds)).2 = true) {k : Nat} (hk : k = lowF (freeM N (fromN (cls.map sideN) (gs ++ ds)).1.1 (fromN (cls.map sideN) (gs ++ ds)).1.2)) (hf : freeM N (fromN (cls.map sideN) (gs ++ ds)).1.1 (fromN (cls.map sideN) (gs ++ ds)).1.2 ≠ 0) :
    k < N ∧ (∀ w : Int, 1 ≤ w → w < Int.ofNat (k + 1) → Der cls (gs ++ ds) w ∨ Der cls (gs ++ ds) (-w)) ∧ ∀ x ∈ ds, x.natAbs < k + 1 := by
  obtain ⟨C, T⟩ := node_calm hN hc hg D hq
  generalize (fromN (cls.map sideN) (gs ++ ds)).1.1 = y at *
  generalize (fromN (cls.map sideN) (gs ++ ds)).1.2 = m at *
  obtain ⟨b1, b2⟩ := lowF_bit hf (freeM_lt hN)
  rw [← hk] at b1 b2
  rw [freeM_bit, Bool.and_eq_true] at b1
  have hkN : k < N := of_decide_eq_true b1.1
  have bk : (y ||| m).testBit k = false := by simpa using b1.2
  rw [Nat.testBit_or, Bool.or_eq_false_iff] at bk
  have nt : ∀ x : Int, x.natAbs = k + 1 → ¬ trM y m x := fun x hx h => by
    rcases h with ⟨_, h⟩ | ⟨_, h⟩
    · rw [hx, Nat.add_sub_cancel, bk.1] at h; cases h
    · rw [hx, Nat.add_sub_cancel, bk.2] at h; cases h
  refine ⟨hkN, fun w h1 h2 => ?_, fun x hx => ?_⟩
  · simp only [Int.ofNat_eq_natCast] at h2
    have b3 := b2 (w.natAbs - 1) (by omega)
    rw [freeM_bit, decide_eq_true (by omega), Bool.true_and, Bool.not_eq_false', Nat.testBit_or, Bool.or_eq_true] at b3
    rcases b3 with b3 | b3
    · exact .inl (T w (.inl ⟨by omega, b3⟩))
    · exact .inr (T (-w) (.inr ⟨by omega, by rw [Int.natAbs_neg]; exact b3⟩))
  · rcases Nat.lt_trichotomy x.natAbs (k + 1) with h | h | h
    · exact h
    · exact absurd (C.beg x (List.mem_append_right _ hx)) (nt x h)
    · exfalso
      rcases D.all x hx (Int.ofNat (k + 1)) (by simp only [Int.ofNat_eq_natCast]; omega) (by simp only [Int.ofNat_eq_natCast]; omega) with h1 | h1
      · exact nt _ (by simp only [Int.ofNat_eq_natCast]; omega) (C.all h1)
      · exact nt _ (by simp only [Int.ofNat_eq_natCast]; omega) (C.all h1)
theorem Dcs.more {ds : List Int} (D : Dcs N cls gs ds) {k : Nat} (hk : k < N) (hw : ∀ w : Int, 1 ≤ w → w < Int.ofNat (k + 1) → Der cls (gs ++ ds) w ∨ Der cls (gs ++ ds) (-w)) (hd : ∀ x ∈ ds, x.natAbs < k + 1) {x : Int} (hx : x.natAbs = k + 1) : Dcs N cls gs (ds ++ [x]) := by
  have _ := hc; have _ := hg
  have mono : ∀ {z}, Der cls (gs ++ ds) z → Der cls (gs ++ (ds ++ [x])) z := fun h => h.mono (fun _ h => h) fun z hz => by
    rcases List.mem_append.1 hz with h | h
    · exact List.mem_append_left _ h
    · exact List.mem_append_right _ (List.mem_append_left _ h)
  refine ⟨⟨List.pairwise_append.2 ⟨D.cv.1, List.pairwise_singleton _ _, fun a ha b hb => by rw [List.mem_singleton] at hb; subst hb; have := hd a ha; omega⟩, fun z hz => ?_⟩, fun z hz w h1 h2 => ?_⟩
  · rcases List.mem_append.1 hz with h | h
    · exact D.cv.2 z h
    · rw [List.mem_singleton] at h; subst h
      exact ⟨⟨by omega, by omega, by omega⟩, by simp only [Int.ofNat_eq_natCast]; omega⟩
  · rcases List.mem_append.1 hz with h | h
    · exact (D.all z h w h1 h2).imp mono mono
    · rw [List.mem_singleton] at h; subst h
      exact (hw w h1 (by simp only [Int.ofNat_eq_natCast]; omega)).imp mono mono
theorem dec_ok : Dec N (cls.map sideN) gs (Dcs N cls gs) := by
  refine ⟨fun ds D => ⟨D.len, fun x hx => (D.cv.2 x hx).1, D.cv.1⟩, fun ds D hq hf => ?_⟩
  obtain ⟨h1, h2, h3⟩ := low_der hN hc hg D hq rfl hf
  exact ⟨Dcs.more hN hc hg D h1 h2 h3 (by simp only [Int.ofNat_eq_natCast]; omega), Dcs.more hN hc hg D h1 h2 h3 (by simp only [Int.ofNat_eq_natCast]; omega)⟩
omit hN hc hg in
theorem dcs_nil : Dcs N cls gs [] := ⟨⟨List.Pairwise.nil, fun _ h => by cases h⟩, fun _ h => by cases h⟩
omit hN hc hg in
theorem needF_clash (cl : List Int → Bool) : ∀ (i : Nat) (out : List Int), cl out = true → cl (needF cl i out) = true := by
  intro i
  induction i with
  | zero => intro out h; exact h
  | succ i ih =>
    intro out h
    unfold needF
    split
    · exact ih _ (by assumption)
    · exact ih _ h
omit hN hc hg in
theorem accF_none_i {gs : List Int} : ∀ {pf cls : List (List Int)} {i j : Nat}, accF gs cls pf i = none → accF gs cls pf j = none := by
  intro pf
  induction pf with
  | nil => intro cls i j _; rfl
  | cons l ls ih =>
    intro cls i j h
    unfold accF at h ⊢
    split at h
    · cases h
    · rename_i h1
      rw [if_neg h1]
      exact ih h
omit hN hc hg in
theorem accF_append {gs : List Int} : ∀ {ls ks cls : List (List Int)} {i : Nat}, accF gs cls ls i = none → accF gs (cls ++ ls) ks 0 = none → accF gs cls (ls ++ ks) i = none := by
  intro ls
  induction ls with
  | nil => intro ks cls i _ h; rw [List.append_nil] at h; exact accF_none_i h
  | cons l ls ih =>
    intro ks cls i h1 h2
    unfold accF at h1
    rw [List.cons_append]
    unfold accF
    split at h1
    · cases h1
    · rename_i h3
      rw [if_neg h3]
      exact ih h1 (by rw [List.append_assoc]; exact h2)
end
end Go.Proofs.YtfgfhplgnfbaaaaDoor
/- What a search finds: the first model, or lines that follow. -/
namespace Go.Proofs.YtfgfhplgnfbaaaaDoor
open Go Go.Ev
/-- An earlier model: the first variable in which they differ is false. -/
def LexLt (N a b : Nat) : Prop := ∃ i, i < N ∧ a.testBit i = false ∧ b.testBit i = true ∧ ∀ j, j < i → a.testBit j = b.testBit j
/-- A literal and its contrary are of one variable. -/
theorem dif_ne {l : List Int} (d : Dif l) {x : Int} (h1 : x ∈ l) (h2 : -x ∈ l) (h0 : x ≠ 0) : False := by
  induction l with
  | nil => cases h1
  | cons z l ih =>
    obtain ⟨d1, d2⟩ := List.pairwise_cons.1 d
    rcases List.mem_cons.1 h1 with e1 | e1 <;> rcases List.mem_cons.1 h2 with e2 | e2
    · omega
    · have := d1 _ e2; rw [Int.natAbs_neg, e1] at this; omega
    · have := d1 _ e1; rw [← e2, Int.natAbs_neg] at this; omega
    · exact ih d2 e1 e2
/-- What holds at a search's end. -/
structure Spec (N : Nat) (cls : List (List Int)) (gs ds : List Int) (s : Sr) : Prop where
  how : s.how = 0 ∨ s.how = 1 ∨ s.how = 2
  good : ∀ l ∈ s.lines, Cv (Int.ofNat N) l
  rup : accF gs cls s.lines 0 = none
  clo : s.how = 1 → Cv (Int.ofNat N) s.c ∧ (∀ x ∈ s.c, -x ∈ ds) ∧ ∃ L, s.lines = L ++ [s.c]
  ful : s.how = 0 → (∀ i, (s.y ||| s.m).testBit i = decide (i < N)) ∧ s.y &&& s.m = 0
  fnd : s.how = 0 → (∀ x ∈ gs ++ ds, isB s.y x = true) ∧ (∀ l ∈ cls, l.any (isB s.y) = true) ∧ ∀ m', (∀ x ∈ gs ++ ds, isB m' x = true) → (∀ l ∈ cls, l.any (isB m') = true) → (∀ i, i < N → s.y.testBit i = m'.testBit i) ∨ LexLt N s.y m'
theorem der_true {cls : List (List Int)} {xs : List Int} {m : Nat} (hd : ∀ l ∈ cls, ∀ x ∈ l, x ≠ 0) (hx : ∀ x ∈ xs, x ≠ 0) (h1 : ∀ c ∈ cls, c.any (isB m) = true) (h2 : ∀ x ∈ xs, isB m x = true) {z : Int} (h : Der cls xs z) : isB m z = true := by
  have C : Calm cls xs fun x => x ≠ 0 ∧ isB m x = true := by
    refine ⟨fun x a b => ?_, fun x h => ⟨hx x h, h2 x h⟩, fun l hl => .inl ?_⟩
    · have b2 := b.2
      rw [isB_neg a.1, a.2] at b2
      cases b2
    · obtain ⟨x, hx, h⟩ := List.any_eq_true.1 (h1 l hl)
      exact ⟨x, hx, hd l hl x hx, h⟩
  exact (C.all h).2
/-- Bits that a literal tells. -/
theorem isB_pos {m k : Nat} : isB m (Int.ofNat (k + 1)) = m.testBit k := by
  unfold isB
  rw [if_neg (by simp only [Int.ofNat_eq_natCast]; omega)]
  rfl
theorem isB_of_neg {m k : Nat} : isB m (-Int.ofNat (k + 1)) = !m.testBit k := by
  rw [isB_neg (by simp only [Int.ofNat_eq_natCast]; omega), isB_pos]
section
variable {N : Nat} {cls : List (List Int)} {gs : List Int} (hN : N ≤ 30) (hc : ∀ l ∈ cls, Cv (Int.ofNat N) l) (hg : Lv (Int.ofNat N) gs)
include hN hc hg
theorem nz_cls : ∀ l ∈ cls, ∀ x ∈ l, x ≠ 0 := fun l hl x hx => by have _ := hN; have _ := hg; exact ((hc l hl).2 x hx).1.1
/-- A clash at a node: the clause of the contraries of what is needed. -/
theorem leaf_spec {ds : List Int} (D : Dcs N cls gs ds) (hq : (fromN (cls.map sideN) (gs ++ ds)).2 = false) {y m left : Nat} : Spec N cls gs ds ⟨y, m, (needF (clashN (cls.map sideN) gs) ds.length ds).map fun x => -x, 1, left, [(needF (clashN (cls.map sideN) gs) ds.length ds).map fun x => -x]⟩ := by
  have _ := hN; have _ := hc; have _ := hg
  have sub := needF_sub (clashN (cls.map sideN) gs) ds.length ds
  have cl := needF_clash (clashN (cls.map sideN) gs) ds.length ds (by unfold clashN; rw [hq]; rfl)
  generalize needF (clashN (cls.map sideN) gs) ds.length ds = nd at *
  have cv : Cv (Int.ofNat N) (nd.map fun x => -x) := ⟨Dif.neg (List.Pairwise.sublist sub D.cv.1), fun x hx => by
    obtain ⟨z, hz, rfl⟩ := List.mem_map.1 hx
    have h := D.cv.2 z (sub.subset hz)
    refine ⟨lit_neg (l := nd) (fun x hx => (D.cv.2 x (sub.subset hx)).1) _ hx, by rw [Int.natAbs_neg]; exact h.2⟩⟩
  refine ⟨.inr (.inl rfl), fun l hl => by rw [List.mem_singleton] at hl; subst hl; exact cv, ?_, fun _ => ⟨cv, fun x hx => ?_, [], rfl⟩, fun h => (by cases h), fun h => by cases h⟩
  · unfold accF
    rw [List.map_map, show ((fun x : Int => -x) ∘ fun x => -x) = id by funext x; simp, List.map_id]
    unfold clashN at cl
    rw [if_neg (by simpa using cl)]
    rfl
  · obtain ⟨z, hz, rfl⟩ := List.mem_map.1 hx
    rw [Int.neg_neg]; exact sub.subset hz
/-- What is derived is of the variables. -/
theorem der_le {ds : List Int} (D : Dcs N cls gs ds) {z : Int} (h : Der cls (gs ++ ds) z) : (z.natAbs : Int) ≤ Int.ofNat N := by
  have _ := hN
  induction h with
  | base h =>
    rcases List.mem_append.1 h with h | h
    · exact (hg _ h).2
    · exact (D.cv.2 _ h).2
  | unit hl hx _ _ => exact ((hc _ hl).2 _ hx).2
/-- No clash, and nothing is open: the first model. -/
theorem found_spec {ds : List Int} (D : Dcs N cls gs ds) (hq : (fromN (cls.map sideN) (gs ++ ds)).2 = true) (hf : freeM N (fromN (cls.map sideN) (gs ++ ds)).1.1 (fromN (cls.map sideN) (gs ++ ds)).1.2 = 0) {left : Nat} :
    Spec N cls gs ds ⟨(fromN (cls.map sideN) (gs ++ ds)).1.1, (fromN (cls.map sideN) (gs ++ ds)).1.2, [], 0, left, []⟩ := by
  obtain ⟨C, T⟩ := node_calm hN hc hg D hq
  generalize (fromN (cls.map sideN) (gs ++ ds)).1.1 = y at *
  generalize (fromN (cls.map sideN) (gs ++ ds)).1.2 = m at *
  have full : ∀ i, i < N → y.testBit i = true ∨ m.testBit i = true := fun i hi => by
    have h : (freeM N y m).testBit i = false := by rw [hf]; exact Nat.zero_testBit i
    rw [freeM_bit, decide_eq_true hi, Bool.true_and, Bool.not_eq_false', Nat.testBit_or, Bool.or_eq_true] at h
    exact h
  have tr : ∀ x : Int, x ≠ 0 → trM y m x → isB y x = true := fun x hx h => by
    unfold isB
    rcases h with ⟨h1, h2⟩ | ⟨h1, h2⟩
    · rw [if_neg (by omega)]; exact h2
    · rw [if_pos h1]
      cases h3 : y.testBit (x.natAbs - 1) with
      | false => rfl
      | true => exact (C.con x (.inr ⟨h1, h2⟩) (.inl ⟨by omega, by rw [Int.natAbs_neg]; exact h3⟩)).elim
  have lits := Dcs.lit hg D
  refine ⟨.inl rfl, fun l hl => (by cases hl), rfl, fun h => (by cases h), fun _ => ⟨fun i => ?_, Nat.eq_of_testBit_eq fun i => ?_⟩, fun _ => ⟨fun x hx => tr x (lits x hx).1 (C.beg x hx), fun l hl => ?_, fun m' h1 h2 => .inl fun i hi => ?_⟩⟩
  · rw [Nat.testBit_or]
    rcases Nat.lt_or_ge i N with hi | hi
    · rw [decide_eq_true hi, Bool.or_eq_true]; exact full i hi
    · rw [decide_eq_false (by omega), Bool.or_eq_false_iff]
      constructor
      · cases h : y.testBit i with
        | false => rfl
        | true =>
          have := der_le hN hc hg D (T (Int.ofNat (i + 1)) (.inl ⟨by simp only [Int.ofNat_eq_natCast]; omega, by rw [show (Int.ofNat (i + 1)).natAbs - 1 = i by simp only [Int.ofNat_eq_natCast]; omega]; exact h⟩))
          simp only [Int.ofNat_eq_natCast] at this; omega
      · cases h : m.testBit i with
        | false => rfl
        | true =>
          have := der_le hN hc hg D (T (-Int.ofNat (i + 1)) (.inr ⟨by simp only [Int.ofNat_eq_natCast]; omega, by rw [show (-Int.ofNat (i + 1)).natAbs - 1 = i by simp only [Int.ofNat_eq_natCast]; omega]; exact h⟩))
          simp only [Int.ofNat_eq_natCast] at this; omega
  · rw [Nat.testBit_and, Nat.zero_testBit]
    cases h3 : y.testBit i with
    | false => rfl
    | true =>
      cases h : m.testBit i with
      | false => rfl
      | true => exact (C.con (Int.ofNat (i + 1)) (.inl ⟨by simp only [Int.ofNat_eq_natCast]; omega, by rw [show (Int.ofNat (i + 1)).natAbs - 1 = i by simp only [Int.ofNat_eq_natCast]; omega]; exact h3⟩) (.inr ⟨by simp only [Int.ofNat_eq_natCast]; omega, by rw [show (-Int.ofNat (i + 1)).natAbs - 1 = i by simp only [Int.ofNat_eq_natCast]; omega]; exact h⟩)).elim
  · rcases C.cl l hl with ⟨x, hx, h⟩ | ⟨x, hx, z, hz, _, h1, h2, _⟩
    · exact List.any_eq_true.2 ⟨x, hx, tr x (nz_cls hN hc hg l hl x hx) h⟩
    · exfalso
      obtain ⟨⟨n0, _⟩, hle⟩ := (hc l hl).2 x hx
      simp only [Int.ofNat_eq_natCast] at hle
      rcases full (x.natAbs - 1) (by omega) with h | h
      · rcases Int.lt_or_gt_of_ne n0 with hs | hs
        · exact h2 (.inl ⟨by omega, by rw [Int.natAbs_neg]; exact h⟩)
        · exact h1 (.inl ⟨by omega, h⟩)
      · rcases Int.lt_or_gt_of_ne n0 with hs | hs
        · exact h1 (.inr ⟨by omega, h⟩)
        · exact h2 (.inr ⟨by omega, by rw [Int.natAbs_neg]; exact h⟩)
  · have dt := fun {z : Int} (h : Der cls (gs ++ ds) z) => der_true (nz_cls hN hc hg) (fun x hx => (lits x hx).1) h2 h1 h
    rcases full i hi with h | h
    · have := dt (T (Int.ofNat (i + 1)) (.inl ⟨by simp only [Int.ofNat_eq_natCast]; omega, by rw [show (Int.ofNat (i + 1)).natAbs - 1 = i by simp only [Int.ofNat_eq_natCast]; omega]; exact h⟩))
      rw [isB_pos] at this
      rw [h, this]
    · have := dt (T (-Int.ofNat (i + 1)) (.inr ⟨by simp only [Int.ofNat_eq_natCast]; omega, by rw [show (-Int.ofNat (i + 1)).natAbs - 1 = i by simp only [Int.ofNat_eq_natCast]; omega]; exact h⟩))
      rw [isB_of_neg, Bool.not_eq_true'] at this
      rw [this]
      cases h3 : y.testBit i with
      | false => rfl
      | true => exact (C.con (Int.ofNat (i + 1)) (.inl ⟨by simp only [Int.ofNat_eq_natCast]; omega, by rw [show (Int.ofNat (i + 1)).natAbs - 1 = i by simp only [Int.ofNat_eq_natCast]; omega]; exact h3⟩) (.inr ⟨by simp only [Int.ofNat_eq_natCast]; omega, by rw [show (-Int.ofNat (i + 1)).natAbs - 1 = i by simp only [Int.ofNat_eq_natCast]; omega]; exact h⟩)).elim
/-- Two clauses of two branches are resolved. -/
theorem res_line {ds c1 c2 : List Int} {ls : List (List Int)} (D : Dcs N cls gs ds) {v : Int} (v1 : 1 ≤ v) (v2 : v ≤ N) (hv : ∀ x ∈ ds, (x.natAbs : Int) < v) (h1 : Cv (Int.ofNat N) c1) (h2 : Cv (Int.ofNat N) c2) (s1 : ∀ x ∈ c1, -x ∈ ds ++ [-v]) (s2 : ∀ x ∈ c2, -x ∈ ds ++ [v]) (m1 : v ∈ c1) (m2 : -v ∈ c2) (l1 : c1 ∈ ls) (l2 : c2 ∈ ls) (hls : ∀ l ∈ ls, Cv (Int.ofNat N) l) :
    Cv (Int.ofNat N) (resP c1 c2 v).1 ∧ (∀ x ∈ (resP c1 c2 v).1, -x ∈ ds) ∧ accF gs (cls ++ ls) [(resP c1 c2 v).1] 0 = none := by
  have a1 : ∀ x ∈ c1, x = v ∨ -x ∈ ds := fun x hx => by
    rcases List.mem_append.1 (s1 x hx) with h | h
    · exact .inr h
    · rw [List.mem_singleton] at h; exact .inl (by omega)
  have a2 : ∀ x ∈ c2, x = -v ∨ -x ∈ ds := fun x hx => by
    rcases List.mem_append.1 (s2 x hx) with h | h
    · exact .inr h
    · rw [List.mem_singleton] at h; exact .inl (by omega)
  have b30 : ∀ {l : List Int}, Cv (Int.ofNat N) l → clB 30 0 l = true := fun {l} h => clB_of h.1 (fun x hx => ⟨(h.2 x hx).1, by have := (h.2 x hx).2; simp only [Int.ofNat_eq_natCast] at this; omega⟩) fun x hx => by have := (h.2 x hx).1.1; omega
  rcases resP_spec (b30 h1) (b30 h2) v1 (by omega) m1 m2 with ⟨_, x, hx, e1, e2, e3⟩ | ⟨L, eL, _, dL, lL, mL⟩
  · exfalso
    rcases a1 x hx with h | h
    · exact e1 h
    · rcases a2 (-x) e3 with h' | h'
      · exact e1 (by omega)
      · rw [Int.neg_neg] at h'
        have hx0 := (h1.2 x hx).1.1
        exact dif_ne D.cv.1 h' h hx0
  · rw [eL]
    have sub : ∀ x ∈ L, -x ∈ ds := fun x hx => by
      obtain ⟨h, n1, n2⟩ := (mL x).1 hx
      rcases h with h | h
      · rcases a1 x h with h | h
        · exact absurd h n1
        · exact h
      · rcases a2 x h with h | h
        · exact absurd h n2
        · exact h
    have cv : Cv (Int.ofNat N) L := ⟨dL, fun x hx => ⟨lL x hx, by have := (D.cv.2 _ (sub x hx)).2; rwa [Int.natAbs_neg] at this⟩⟩
    refine ⟨cv, sub, ?_⟩
    have gd : Good (cls ++ ls) := fun l hl => by
      rcases List.mem_append.1 hl with h | h
      · exact good_of hc l h
      · exact good_of hls l h
    have lit : ∀ x ∈ gs ++ L.map fun x => -x, Lit x := fun x hx => by
      rcases List.mem_append.1 hx with h | h
      · exact (hg x h).1
      · exact lit_neg lL x h
    have neg : ∀ x ∈ L, Der (cls ++ ls) (gs ++ L.map fun x => -x) (-x) := fun x hx => .base (List.mem_append_right _ (List.mem_map.2 ⟨x, hx, rfl⟩))
    have n1 : ∀ x ∈ c1, x ≠ v → x ≠ -v := fun x hx e e2 => by
      rcases a1 x hx with h | h
      · exact e h
      · have := hv _ h; omega
    have n2 : ∀ x ∈ c2, x ≠ -v → x ≠ v := fun x hx e e2 => by
      rcases a2 x hx with h | h
      · exact e h
      · have := hv _ h; omega
    have dv : Der (cls ++ ls) (gs ++ L.map fun x => -x) v := .unit (List.mem_append_right _ l1) m1 fun x hx e => neg x ((mL x).2 ⟨.inl hx, e, n1 x hx e⟩)
    have hcl : Cl (cls ++ ls) (gs ++ L.map fun x => -x) := .inr ⟨c2, List.mem_append_right _ l2, fun x hx => by
      by_cases e : x = -v
      · subst e; rw [Int.neg_neg]; exact dv
      · exact neg x ((mL x).2 ⟨.inr hx, n2 x hx e, e⟩)⟩
    unfold accF
    rw [if_neg fun h => (calm_iff gd lit).1 h hcl]
    rfl
end
end Go.Proofs.YtfgfhplgnfbaaaaDoor
/- What a search finds: by induction over the tree. -/
namespace Go.Proofs.YtfgfhplgnfbaaaaDoor
open Go Go.Ev
section
variable {N : Nat} {cls : List (List Int)} {gs : List Int} (hN : N ≤ 30) (hc : ∀ l ∈ cls, Cv (Int.ofNat N) l) (hg : Lv (Int.ofNat N) gs)
include hN hc hg
omit hN hc hg in
theorem cv_nz {l : List Int} (h : Cv (Int.ofNat N) l) : ∀ x ∈ l, x ≠ 0 := fun x hx => (h.2 x hx).1.1
theorem search_spec : ∀ (d : Nat) {ds : List Int} {left : Nat}, Dcs N cls gs ds → N + 1 ≤ ds.length + d → Spec N cls gs ds (searchF N (cls.map sideN) gs d ds left) := by
  intro d
  induction d with
  | zero => intro ds left D hd; have := D.len; omega
  | succ d ih =>
    intro ds left D hd
    cases left with
    | zero => exact ⟨.inr (.inr rfl), fun l hl => (by cases hl), rfl, fun h => (by cases h), fun h => (by cases h), fun h => by cases h⟩
    | succ left =>
      unfold searchF
      split
      · rename_i hq; exact leaf_spec hN hc hg D hq
      · rename_i hq
        have hq : (fromN (cls.map sideN) (gs ++ ds)).2 = true := by simpa using hq
        split
        · rename_i hf; exact found_spec hN hc hg D hq hf
        · rename_i hf
          obtain ⟨hk, hw, hx⟩ := low_der hN hc hg D hq rfl hf
          have lits := Dcs.lit hg D
          generalize fromN (cls.map sideN) (gs ++ ds) = R at *
          obtain ⟨⟨y, m⟩, fq⟩ := R
          simp only at hk hw hx hf ⊢
          generalize lowF (freeM N y m) = k at *
          have Dn := Dcs.more hN hc hg D hk hw hx (x := -Int.ofNat (k + 1)) (by simp only [Int.ofNat_eq_natCast]; omega)
          have Dp := Dcs.more hN hc hg D hk hw hx (x := Int.ofNat (k + 1)) (by simp only [Int.ofNat_eq_natCast]; omega)
          have S1 := ih (left := left) Dn (by simp; omega)
          have S2 := ih (left := (searchF N (cls.map sideN) gs d (ds ++ [-Int.ofNat (k + 1)]) left).left) Dp (by simp; omega)
          generalize searchF N (cls.map sideN) gs d (ds ++ [-Int.ofNat (k + 1)]) left = s at *
          generalize searchF N (cls.map sideN) gs d (ds ++ [Int.ofNat (k + 1)]) s.left = t at *
          -- truths of a model, with the variable or without it
          have split_ : ∀ m', (∀ x ∈ gs ++ ds, isB m' x = true) → m'.testBit k = false → ∀ x ∈ gs ++ (ds ++ [-Int.ofNat (k + 1)]), isB m' x = true := fun m' h1 h2 x hx => by
            rcases List.mem_append.1 hx with h | h
            · exact h1 x (List.mem_append_left _ h)
            · rcases List.mem_append.1 h with h | h
              · exact h1 x (List.mem_append_right _ h)
              · rw [List.mem_singleton] at h; subst h; rw [isB_of_neg, h2]; rfl
          have split2 : ∀ m', (∀ x ∈ gs ++ ds, isB m' x = true) → m'.testBit k = true → ∀ x ∈ gs ++ (ds ++ [Int.ofNat (k + 1)]), isB m' x = true := fun m' h1 h2 x hx => by
            rcases List.mem_append.1 hx with h | h
            · exact h1 x (List.mem_append_left _ h)
            · rcases List.mem_append.1 h with h | h
              · exact h1 x (List.mem_append_right _ h)
              · rw [List.mem_singleton] at h; subst h; rw [isB_pos, h2]
          have back : ∀ {z : Int} {a : Nat}, (∀ x ∈ gs ++ (ds ++ [z]), isB a x = true) → ∀ x ∈ gs ++ ds, isB a x = true := fun {z a} h x hx => by
            rcases List.mem_append.1 hx with h' | h'
            · exact h x (List.mem_append_left _ h')
            · exact h x (List.mem_append_right _ (List.mem_append_left _ h'))
          split
          · rename_i he
            -- the first branch is enough
            refine ⟨S1.how, S1.good, S1.rup, fun h1 => ?_, S1.ful, fun h0 => ?_⟩
            · obtain ⟨c1, c2, c3⟩ := S1.clo h1
              refine ⟨c1, fun x hx => ?_, c3⟩
              have hv : Int.ofNat (k + 1) ∉ s.c := by
                rcases he with he | he
                · exact absurd h1 he
                · exact he
              rcases List.mem_append.1 (c2 x hx) with h | h
              · exact h
              · rw [List.mem_singleton] at h
                exact absurd (by rw [show Int.ofNat (k + 1) = x by omega]; exact hx) hv
            · obtain ⟨f1, f2, f3⟩ := S1.fnd h0
              refine ⟨back f1, f2, fun m' h1 h2 => ?_⟩
              cases hb : m'.testBit k with
              | false => exact f3 m' (split_ m' h1 hb) h2
              | true =>
                have yk : s.y.testBit k = false := by
                  have := f1 (-Int.ofNat (k + 1)) (List.mem_append_right _ (List.mem_append_right _ (by simp)))
                  rw [isB_of_neg] at this; simpa using this
                refine .inr ⟨k, hk, yk, hb, fun j hj => ?_⟩
                have nz := nz_cls hN hc hg
                have dy := fun {z : Int} (h : Der cls (gs ++ ds) z) => der_true nz (fun x hx => (lits x hx).1) f2 (back f1) h
                have dm := fun {z : Int} (h : Der cls (gs ++ ds) z) => der_true nz (fun x hx => (lits x hx).1) h2 h1 h
                rcases hw (Int.ofNat (j + 1)) (by simp only [Int.ofNat_eq_natCast]; omega) (by simp only [Int.ofNat_eq_natCast]; omega) with h | h
                · have a := dy h; have b := dm h
                  rw [isB_pos] at a b; rw [a, b]
                · have a := dy h; have b := dm h
                  rw [isB_of_neg, Bool.not_eq_true'] at a b; rw [a, b]
          · rename_i he
            have h1 : s.how = 1 := Decidable.byContradiction fun h => he (.inl h)
            have hv : Int.ofNat (k + 1) ∈ s.c := Decidable.byContradiction fun h => he (.inr h)
            obtain ⟨c1, c2, L1, c3⟩ := S1.clo h1
            have gcls := good_of hc
            have gl1 := good_of S1.good
            have gall : Good (cls ++ s.lines) := fun l hl => by
              rcases List.mem_append.1 hl with h | h
              · exact gcls l h
              · exact gl1 l h
            have glit : ∀ x ∈ gs, Lit x := fun x hx => (hg x hx).1
            have rup2 : accF gs cls (s.lines ++ t.lines) 0 = none := accF_append S1.rup (accF_mono (fun _ h => h) glit gcls gall (good_of S2.good) (fun l h => List.mem_append_left _ h) S2.rup)
            have good2 : ∀ l ∈ s.lines ++ t.lines, Cv (Int.ofNat N) l := fun l hl => by
              rcases List.mem_append.1 hl with h | h
              · exact S1.good l h
              · exact S2.good l h
            split
            · rename_i he2
              refine ⟨S2.how, good2, rup2, fun h2 => ?_, S2.ful, fun h0 => ?_⟩
              · obtain ⟨e1, e2, L2, e3⟩ := S2.clo h2
                refine ⟨e1, fun x hx => ?_, s.lines ++ L2, by show s.lines ++ t.lines = _; rw [e3]; simp⟩
                have hv : -Int.ofNat (k + 1) ∉ t.c := by
                  rcases he2 with he2 | he2
                  · exact absurd h2 he2
                  · exact he2
                rcases List.mem_append.1 (e2 x hx) with h | h
                · exact h
                · rw [List.mem_singleton] at h
                  exact absurd (by rw [show -Int.ofNat (k + 1) = x by omega]; exact hx) hv
              · obtain ⟨f1, f2, f3⟩ := S2.fnd h0
                refine ⟨back f1, f2, fun m' g1 g2 => ?_⟩
                cases hb : m'.testBit k with
                | true => exact f3 m' (split2 m' g1 hb) g2
                | false =>
                  exfalso
                  have tr := accF_true (fun x hx => ⟨glit x hx, g1 x (List.mem_append_left _ hx)⟩) gcls gl1 S1.rup g2 s.c (by rw [c3]; simp)
                  obtain ⟨x, hx, hxt⟩ := List.any_eq_true.1 tr
                  have h3 := split_ m' g1 hb (-x) (List.mem_append_right _ (c2 x hx))
                  rw [isB_neg (cv_nz c1 x hx), hxt] at h3
                  cases h3
            · rename_i he2
              have h2 : t.how = 1 := Decidable.byContradiction fun h => he2 (.inl h)
              have hv2 : -Int.ofNat (k + 1) ∈ t.c := Decidable.byContradiction fun h => he2 (.inr h)
              obtain ⟨e1, e2, L2, e3⟩ := S2.clo h2
              obtain ⟨r1, r2, r3⟩ := res_line hN hc hg D (v := Int.ofNat (k + 1)) (by simp only [Int.ofNat_eq_natCast]; omega) (by simp only [Int.ofNat_eq_natCast]; omega) (fun x h => by have := hx x h; simp only [Int.ofNat_eq_natCast]; omega) c1 e1 c2 e2 hv hv2 (ls := s.lines ++ t.lines) (by rw [c3]; simp) (by rw [e3]; simp) good2
              refine ⟨.inr (.inl rfl), fun l hl => ?_, accF_append rup2 r3, fun _ => ⟨r1, r2, _, rfl⟩, fun h => (by cases h), fun h => by cases h⟩
              rcases List.mem_append.1 hl with h | h
              · exact good2 l h
              · rw [List.mem_singleton] at h; subst h; exact r1
omit hN hc hg in
theorem pow_step {N n : Nat} (h : n + 1 ≤ N) : 2 ^ (N + 1 - n) = 2 * 2 ^ (N + 1 - (n + 1)) := by
  rw [show N + 1 - n = (N + 1 - (n + 1)) + 1 by omega, Nat.pow_succ]; omega
/-- A small tree is gone through. -/
theorem search_small : ∀ (d : Nat) {ds : List Int} {left : Nat}, Dcs N cls gs ds → N + 1 ≤ ds.length + d → 2 ^ (N + 1 - ds.length) - 1 ≤ left → (searchF N (cls.map sideN) gs d ds left).how ≠ 2 ∧ left ≤ (searchF N (cls.map sideN) gs d ds left).left + (2 ^ (N + 1 - ds.length) - 1) := by
  intro d
  induction d with
  | zero => intro ds left D hd; have := D.len; omega
  | succ d ih =>
    intro ds left D hd hl
    have hlen := D.len
    have two : 2 ^ 1 ≤ 2 ^ (N + 1 - ds.length) := Nat.pow_le_pow_right (by decide) (by omega)
    cases left with
    | zero => omega
    | succ left =>
      unfold searchF
      split
      · exact ⟨(by show (1 : Int) ≠ 2; decide), by simp only; omega⟩
      · rename_i hq
        have hq : (fromN (cls.map sideN) (gs ++ ds)).2 = true := by simpa using hq
        split
        · exact ⟨(by show (0 : Int) ≠ 2; decide), by simp only; omega⟩
        · rename_i hf
          obtain ⟨hk, hw, hx⟩ := low_der hN hc hg D hq rfl hf
          generalize fromN (cls.map sideN) (gs ++ ds) = R at *
          obtain ⟨⟨y, m⟩, fq⟩ := R
          simp only at hk hw hx hf ⊢
          generalize lowF (freeM N y m) = k at *
          have Dn := Dcs.more hN hc hg D hk hw hx (x := -Int.ofNat (k + 1)) (by simp only [Int.ofNat_eq_natCast]; omega)
          have Dp := Dcs.more hN hc hg D hk hw hx (x := Int.ofNat (k + 1)) (by simp only [Int.ofNat_eq_natCast]; omega)
          have dn := Dn.len
          simp only [List.length_append, List.length_singleton] at dn
          have ps := pow_step dn
          have S1 := ih (left := left) Dn (by simp; omega) (by simp only [List.length_append, List.length_singleton]; omega)
          have S2 := ih (left := (searchF N (cls.map sideN) gs d (ds ++ [-Int.ofNat (k + 1)]) left).left) Dp (by simp; omega)
          generalize searchF N (cls.map sideN) gs d (ds ++ [-Int.ofNat (k + 1)]) left = s at *
          generalize searchF N (cls.map sideN) gs d (ds ++ [Int.ofNat (k + 1)]) s.left = t at *
          simp only [List.length_append, List.length_singleton] at S1 S2
          have S2 := S2 (by omega)
          split
          · exact ⟨S1.1, by omega⟩
          · split
            · exact ⟨S2.1, by simp only; omega⟩
            · exact ⟨(by show (1 : Int) ≠ 2; decide), by simp only; omega⟩
end
end Go.Proofs.YtfgfhplgnfbaaaaDoor
/- What Model and Prove return: the first of all models, or a proof. -/
namespace Go.Proofs.YtfgfhplgnfbaaaaDoor
open Go Go.Ev
theorem filter_head {f : Nat → Nat} {p : Nat → Bool} : ∀ {n k : Nat}, k < n → p (f k) = true → (∀ j, j < k → p (f j) = false) → ∃ rest, ((List.range n).map f).filter p = f k :: rest := by
  intro n
  induction n with
  | zero => intro k hk; omega
  | succ n ih =>
    intro k hk hp hj
    rw [List.range_succ, List.map_append, List.filter_append]
    rcases Nat.lt_or_ge k n with h | h
    · obtain ⟨rest, e⟩ := ih h hp hj
      rw [e]; exact ⟨_, rfl⟩
    · obtain rfl : k = n := by omega
      have : ((List.range k).map f).filter p = [] := by
        rw [List.filter_eq_nil_iff]
        intro x hx
        obtain ⟨j, hj', rfl⟩ := List.mem_map.1 hx
        rw [hj j (List.mem_range.1 hj')]; decide
      rw [this]
      exact ⟨[], by simp [hp]⟩
theorem lt_of_bit {a b i : Nat} (ha : a.testBit i = false) (hb : b.testBit i = true) (h : ∀ j, i < j → a.testBit j = b.testBit j) : a < b := by
  have e : a / 2 ^ (i + 1) = b / 2 ^ (i + 1) := Nat.eq_of_testBit_eq fun j => by
    rw [Nat.testBit_div_two_pow, Nat.testBit_div_two_pow]; exact h _ (by omega)
  have ha' : a / 2 ^ i % 2 = 0 := by
    have := Nat.testBit_eq_decide_div_mod_eq (x := a) (i := i); rw [ha] at this
    have : ¬ a / 2 ^ i % 2 = 1 := by simpa using this.symm
    omega
  have hb' : b / 2 ^ i % 2 = 1 := by
    have := Nat.testBit_eq_decide_div_mod_eq (x := b) (i := i); rw [hb] at this
    simpa using this.symm
  rw [Nat.pow_succ, ← Nat.div_div_eq_div_mul, ← Nat.div_div_eq_div_mul] at e
  have h1 : a / 2 ^ i < b / 2 ^ i := by omega
  exact Nat.lt_of_not_le fun hle => by
    have := Nat.div_le_div_right (c := 2 ^ i) hle
    omega
/-- A clause's truth is that of its variables. -/
theorem isB_same {N a b : Nat} (h : ∀ i, i < N → a.testBit i = b.testBit i) {x : Int} (h0 : x ≠ 0) (hx : (x.natAbs : Int) ≤ Int.ofNat N) : isB a x = isB b x := by
  unfold isB
  simp only [Int.ofNat_eq_natCast] at hx
  rw [h (x.natAbs - 1) (by omega)]
theorem satM_same {N a b : Nat} {cls : List (List Int)} {gs : List Int} (hc : ∀ l ∈ cls, Cv (Int.ofNat N) l) (hg : Lv (Int.ofNat N) gs) (h : ∀ i, i < N → a.testBit i = b.testBit i) (hs : satM cls gs a = true) : satM cls gs b = true := by
  unfold satM at hs ⊢
  rw [Bool.and_eq_true, List.all_eq_true, List.all_eq_true] at hs ⊢
  refine ⟨fun x hx => ?_, fun l hl => ?_⟩
  · rw [← isB_same h (hg x hx).1.1 (hg x hx).2]; exact hs.1 x hx
  · obtain ⟨x, hx, hxt⟩ := List.any_eq_true.1 (hs.2 l hl)
    exact List.any_eq_true.2 ⟨x, hx, by rw [← isB_same h ((hc l hl).2 x hx).1.1 ((hc l hl).2 x hx).2]; exact hxt⟩
theorem modelsN_head {N y : Nat} {cls : List (List Int)} {gs : List Int} (hc : ∀ l ∈ cls, Cv (Int.ofNat N) l) (hg : Lv (Int.ofNat N) gs) (hy : satM cls gs y = true) (hf : ∀ m', satM cls gs m' = true → (∀ i, i < N → y.testBit i = m'.testBit i) ∨ LexLt N y m') :
    ∃ m rest, modelsN N cls gs = m :: rest ∧ ∀ i, i < N → m.testBit i = y.testBit i := by
  have hb : ∀ i, i < N → (bitsF N (bitsF N y N) N).testBit i = y.testBit i := fun i hi => by
    rw [bitsF_bit N _ N i hi, bitsF_bit N _ N _ (by omega), show N - 1 - (N - 1 - i) = i by omega]
  have hk := bitsF_lt N y N
  obtain ⟨rest, e⟩ := filter_head (f := fun k => bitsF N k N) (p := satM cls gs) hk (satM_same hc hg (fun i hi => (hb i hi).symm) hy) fun j hj => by
    cases hs : satM cls gs (bitsF N j N) with
    | false => rfl
    | true =>
      exfalso
      have hjN : j < 2 ^ N := Nat.lt_trans hj hk
      have high : ∀ {x : Nat}, x < 2 ^ N → ∀ i, N ≤ i → x.testBit i = false := fun {x} hx i hi => Nat.testBit_lt_two_pow (Nat.lt_of_lt_of_le hx (Nat.pow_le_pow_right (by decide) hi))
      rcases hf _ hs with h | ⟨i, hi, h1, h2, h3⟩
      · have : j = bitsF N y N := Nat.eq_of_testBit_eq fun i => by
          rcases Nat.lt_or_ge i N with hi | hi
          · have := h (N - 1 - i) (by omega)
            rw [bitsF_bit N _ N _ (by omega), show N - 1 - (N - 1 - i) = i by omega] at this
            rw [bitsF_bit N _ N _ hi, this]
          · rw [high hjN i hi, high hk i hi]
        omega
      · have hlt : bitsF N y N < j := by
          refine lt_of_bit (i := N - 1 - i) ?_ ?_ fun q hq => ?_
          · rw [bitsF_bit N _ N _ (by omega), show N - 1 - (N - 1 - i) = i by omega]; exact h1
          · rw [bitsF_bit N _ N _ hi] at h2; exact h2
          · rcases Nat.lt_or_ge q N with hqN | hqN
            · have := h3 (N - 1 - q) (by omega)
              rw [bitsF_bit N _ N _ (by omega), show N - 1 - (N - 1 - q) = q by omega] at this
              rw [bitsF_bit N _ N _ hqN, this]
            · rw [high hjN q hqN, high hk q hqN]
        omega
  exact ⟨_, rest, e, hb⟩
section
variable {N : Nat} {cls : List (List Int)} {gs : List Int} (hN : N ≤ 30) (hc : ∀ l ∈ cls, Cv (Int.ofNat N) l) (hg : Lv (Int.ofNat N) gs)
include hN hc hg
theorem search_lt : ∀ (d : Nat) {ds : List Int} {left : Nat}, Dcs N cls gs ds → (searchF N (cls.map sideN) gs d ds left).y < 2 ^ 30 ∧ (searchF N (cls.map sideN) gs d ds left).m < 2 ^ 30 := by
  have hss : ∀ p ∈ cls.map sideN, p.1 < 2 ^ 30 ∧ p.2 < 2 ^ 30 := fun p hp => by
    obtain ⟨l, hl, rfl⟩ := List.mem_map.1 hp
    exact sideF_lt (fun x hx => ((hc l hl).2 x hx).1) (by decide) (by decide)
  intro d
  induction d with
  | zero => intro ds left _; exact ⟨by show 0 < 2 ^ 30; decide, by show 0 < 2 ^ 30; decide⟩
  | succ d ih =>
    intro ds left D
    cases left with
    | zero => exact ⟨by show 0 < 2 ^ 30; decide, by show 0 < 2 ^ 30; decide⟩
    | succ left =>
      have lt := fromN_lt hss (Dcs.lit hg D)
      unfold searchF
      split
      · exact lt
      · rename_i hq
        split
        · exact lt
        · rename_i hf
          obtain ⟨p1, p2⟩ := (dec_ok hN hc hg).more ds D (by simpa using hq) hf
          simp only
          split
          · exact ih p1
          · split
            · exact ih p2
            · exact lt
/-- A small formula: the first of all models, or a proof. -/
theorem solve_small (h8 : N ≤ 8) : ((solF N cls gs).how = 0 ∧ (∀ i, ((solF N cls gs).y ||| (solF N cls gs).m).testBit i = decide (i < N)) ∧ (solF N cls gs).y &&& (solF N cls gs).m = 0 ∧ ∃ m rest, modelsN N cls gs = m :: rest ∧ ∀ i, i < N → m.testBit i = (solF N cls gs).y.testBit i) ∨
    ((solF N cls gs).how = 1 ∧ modelsN N cls gs = [] ∧ (∀ l ∈ (solF N cls gs).lines, Cv (Int.ofNat N) l) ∧ accF gs cls (solF N cls gs).lines 0 = none ∧ (solF N cls gs).lines.length ≤ 2000 ∧ ∃ L, (solF N cls gs).lines = L ++ [[]]) := by
  have S := search_spec hN hc hg (N + 1) (ds := []) (left := 2000) dcs_nil (by simp)
  have p9 : 2 ^ (N + 1) ≤ 2 ^ 9 := Nat.pow_le_pow_right (by decide) (by omega)
  have T := search_small hN hc hg (N + 1) (ds := []) (left := 2000) dcs_nil (by simp) (by simp only [List.length_nil, Nat.sub_zero]; omega)
  have K := searchF_ok (dec_ok hN hc hg) hN (N + 1) (ds := []) (left := 2000) dcs_nil
  unfold solF
  generalize searchF N (cls.map sideN) gs (N + 1) [] 2000 = s at *
  rcases S.how with h | h | h
  · left
    obtain ⟨f1, f2, f3⟩ := S.fnd h
    rw [List.append_nil] at f1 f3
    refine ⟨h, (S.ful h).1, (S.ful h).2, modelsN_head hc hg ?_ fun m' hm => ?_⟩
    · unfold satM; rw [Bool.and_eq_true, List.all_eq_true, List.all_eq_true]; exact ⟨f1, f2⟩
    · unfold satM at hm; rw [Bool.and_eq_true, List.all_eq_true, List.all_eq_true] at hm; exact f3 m' hm.1 hm.2
  · right
    obtain ⟨c1, c2, L, c3⟩ := S.clo h
    have hce : s.c = [] := by
      cases hs : s.c with
      | nil => rfl
      | cons x xs => have := c2 x (by rw [hs]; simp); cases this
    rw [hce] at c3
    exact ⟨h, sound (good_of hc) (good_of S.good) (fun x hx => (hg x hx).1) S.rup (by rw [c3]; simp) N, S.good, S.rup, by omega, L, c3⟩
  · exact absurd h T.1
end
end Go.Proofs.YtfgfhplgnfbaaaaDoor
/- Conditions of functions' code, printed by a program of ours. -/
namespace Go.Proofs.YtfgfhplgnfbaaaaDoor
open Go Go.Ev
set_option maxRecDepth 100000
set_option linter.unusedVariables false
/-! sward/swardlaw20.SatNames$1 -/
noncomputable def b18 : Code := (Tryd.f18.body).getD .skip
def lv18 : List (Nat × List Nat) := []
def T18 (O : CallF) (Q : Value → Hp → Prop) (x0 : Int) (b1 : Nat) (f1 : Nat) (b2 : Nat) (f2 : Nat) (h : Hp) : Prop :=
  ∃ a1' n2' c3', readAt h b1 f1 1 = some [(.slice a1' n2' c3')] ∧
  isNat (wrapF .i64 ((maxI x0 (wrapF .i64 (0 - x0))) - 1)) fun n4' =>
  isAddr a1' fun b5' f6' =>
  vreq (Nat.blt n4' n2')
  (∃ x7', readAt h b5' (f6' + (n4' * 1)) 1 = some [(.int .i64 x7')] ∧
  ∃ x8', readAt h b2 f2 1 = some [(.int .u8 x8')] ∧
  vreq (le0 (wrapF .i64 ((maxI x0 (wrapF .i64 (0 - x0))) - 1)))
  (vreq (inD 256 (shrF .u8 x8' (Int.toNat (wrapF .i64 ((maxI x0 (wrapF .i64 (0 - x0))) - 1)))))
  (vcond (!eqB (ltI x0 0) (eqI (landI (shrF .u8 x8' (Int.toNat (wrapF .i64 ((maxI x0 (wrapF .i64 (0 - x0))) - 1)))) 1) 1))
  (Q (.int .i64 (wrapF .i64 (0 - x7'))) h)
  (Q (.int .i64 x7') h))))
theorem rk18 {O Q} (x0 b1 f1 b2 f2) {h : Hp} (hO : O 18 [(.int .i64 x0), (.pointer (some ⟨b1, f1, none⟩)), (.pointer (some ⟨b2, f2, none⟩))] h = none) (hh : T18 O Q x0 b1 f1 b2 f2 h) : Ret Tryd.prog O 18 [(.int .i64 x0), (.pointer (some ⟨b1, f1, none⟩)), (.pointer (some ⟨b2, f2, none⟩))] h Q :=
  .of (c := b18) Tryd.func18 (by kernel_rfl) hO (V_ok (tb := lv18) (cuts := []) 500 (Eq.mp (by kernel_rfl) hh))
/-! sward/sat.Core -/
noncomputable def b25 : Code := (Tryd.f25.body).getD .skip
def lv25 : List (Nat × List Nat) := []
def T25 (O : CallF) (Q : Value → Hp → Prop) (x0_0 : Int) (a0_1 : Option Addr) (n0_1 : Nat) (c0_1 : Nat) (a1 : Option Addr) (n1 : Nat) (c1 : Nat) (h : Hp) : Prop :=
  let g1 : Hp := h.add (.cells [(.int .i64 x0_0), (.slice a0_1 n0_1 c0_1)] 30 .fix)
  let g2 : Hp := g1.add (.cells [(.slice a1 n1 c1)] 32 .fix)
  ∃ x3', ∃ a4' n5' c6', readAt g2 h.nx 0 2 = some [(.int .i64 x3'), (.slice a4' n5' c6')] ∧
  ∃ a7' n8' c9', readAt g2 g1.nx 0 1 = some [(.slice a7' n8' c9')] ∧
  ∃ x10', ∃ h11', EvC Tryd.prog O 78 [(.agg #[(.int .i64 x3'), (.slice a4' n5' c6')]), (.slice a7' n8' c9')] g2 (.int .i64 x10') h11' ∧
  vcond (!(eqI x10' 0))
  (Q (.tuple #[(.slice none 0 0), (.int .i64 x10')]) h11')
  (∃ a12' n13' c14', readAt h11' h.nx 1 1 = some [(.slice a12' n13' c14')] ∧
  ∃ a15' n16' c17', ∃ x18', ∃ h19', EvC Tryd.prog O 82 [(.int .i64 (Int.ofNat n13')), (.func (.func 83) #[] #[(.pointer (some ⟨h.nx, 0, none⟩)), (.pointer (some ⟨g1.nx, 0, none⟩))])] h11' (.tuple #[(.slice a15' n16' c17'), (.int .i64 x18')]) h19' ∧
  Q (.tuple #[(.slice a15' n16' c17'), (.int .i64 x18')]) h19')
theorem rk25 {O Q} (x0_0 a0_1 n0_1 c0_1 a1 n1 c1) {h : Hp} (hO : O 25 [(.agg #[(.int .i64 x0_0), (.slice a0_1 n0_1 c0_1)]), (.slice a1 n1 c1)] h = none) (hh : T25 O Q x0_0 a0_1 n0_1 c0_1 a1 n1 c1 h) : Ret Tryd.prog O 25 [(.agg #[(.int .i64 x0_0), (.slice a0_1 n0_1 c0_1)]), (.slice a1 n1 c1)] h Q :=
  .of (c := b25) Tryd.func25 (by kernel_rfl) hO (V_ok (tb := lv25) (cuts := []) 500 (Eq.mp (by kernel_rfl) hh))
/-! sward/sat.blamed -/
noncomputable def b82 : Code := (Tryd.f82.body).getD .skip
noncomputable def stk82_0 : List KI := [.code (sub [1, 1, 0, 1, 0] b82), .blk 0, .code (sub [1, 1, 1] b82)]
noncomputable def stk82_1 : List KI := [.code (sub [1, 1, 1, 1, 0, 1, 0] b82), .blk 3, .code (sub [1, 1, 1, 1, 1] b82)]
def lv82 : List (Nat × List Nat) := [(0, [0, 1, 4, 5, 6, 10, 11]), (3, [1, 4, 5, 6, 8])]
def I82_0 (O : CallF) (Q : Value → Hp → Prop) (x0 : Int) (g1 : Nat) (fi1 : Array Value) (ca1 : Array Value) (g1s : Nat) (fi1s : Array Value) (ca1s : Array Value) (a6 : Option Addr) (n6 : Nat) (c6 : Nat) (x11 : Int) (h : Hp) : Prop := RKL Tryd.prog O Tryd.f82 stk82_0 47 [0, 1, 4, 5, 6, 10, 11] [(.int .i64 x0), (.func (.func g1s) fi1s ca1s), (.slice none 0 0), (.int .i64 0), (.slice a6 n6 c6), (.int .i64 x0), (.int .i64 x11)] h Q
def I82_1 (O : CallF) (Q : Value → Hp → Prop) (x0 : Int) (g1 : Nat) (fi1 : Array Value) (ca1 : Array Value) (g1s : Nat) (fi1s : Array Value) (ca1s : Array Value) (a4 : Option Addr) (n4 : Nat) (c4 : Nat) (x5 : Int) (a6 : Option Addr) (n6 : Nat) (c6 : Nat) (x8 : Int) (h : Hp) : Prop := RKL Tryd.prog O Tryd.f82 stk82_1 47 [1, 4, 5, 6, 8] [(.func (.func g1s) fi1s ca1s), (.slice a4 n4 c4), (.int .i64 x5), (.slice a6 n6 c6), (.int .i64 x8)] h Q
def T82 (O : CallF) (Q : Value → Hp → Prop) (x0 : Int) (g1 : Nat) (fi1 : Array Value) (ca1 : Array Value) (h : Hp) : Prop :=
  I82_0 O Q x0 g1 fi1 ca1 g1 fi1 ca1 none 0 0 0 h
theorem rk82 {O Q} (x0 g1 fi1 ca1) {h : Hp} (hO : O 82 [(.int .i64 x0), (.func (.func g1) fi1 ca1)] h = none) (hh : T82 O Q x0 g1 fi1 ca1 h) : Ret Tryd.prog O 82 [(.int .i64 x0), (.func (.func g1) fi1 ca1)] h Q :=
  .of (c := b82) Tryd.func82 (by kernel_rfl) hO (V_ok (tb := lv82) (cuts := []) 500 (Eq.mp (by kernel_rfl) hh))
def T82_0 (O : CallF) (Q : Value → Hp → Prop) (x0 : Int) (g1 : Nat) (fi1 : Array Value) (ca1 : Array Value) (g1s : Nat) (fi1s : Array Value) (ca1s : Array Value) (a6 : Option Addr) (n6 : Nat) (c6 : Nat) (x11 : Int) (h : Hp) : Prop :=
  vcond (ltI x11 x0)
  (let g101 : Hp := h.add (.cells [(.int .i64 x11)] 3 .fix)
  ∃ a102' n103' c104' h105', appendV Tryd.prog g101 32 32 (.slice a6 n6 c6) (.slice (some ⟨h.nx, 0, none⟩) 1 1) = some (.slice a102' n103' c104', h105') ∧
  I82_0 O Q x0 g1 fi1 ca1 g1s fi1s ca1s a102' n103' c104' (wrapF .i64 (x11 + 1)) h105')
  (∃ x106', ∃ h107', EvC Tryd.prog O g1s (fi1s.toList ++ [(.slice a6 n6 c6)] ++ ca1s.toList) h (.int .i64 x106') h107' ∧
  vcond (eqI x106' 0)
  (Q (.tuple #[(.slice none 0 0), (.int .i64 5)]) h107')
  (vcond (eqI x106' 2)
  (Q (.tuple #[(.slice none 0 0), (.int .i64 8)]) h107')
  (I82_1 O Q x0 g1 fi1 ca1 g1s fi1s ca1s none 0 0 0 a6 n6 c6 (wrapF .i64 (x0 - 1)) h107')))
theorem I82_0.of {O Q} (x0 g1 fi1 ca1 g1s fi1s ca1s a6 n6 c6 x11) {h : Hp} (hh : T82_0 O Q x0 g1 fi1 ca1 g1s fi1s ca1s a6 n6 c6 x11 h) : I82_0 O Q x0 g1 fi1 ca1 g1s fi1s ca1s a6 n6 c6 x11 h :=
  RKL.of (tb := lv82) (cuts := []) 500 fun _ => Eq.mp (by kernel_rfl) hh
def T82_1 (O : CallF) (Q : Value → Hp → Prop) (x0 : Int) (g1 : Nat) (fi1 : Array Value) (ca1 : Array Value) (g1s : Nat) (fi1s : Array Value) (ca1s : Array Value) (a4 : Option Addr) (n4 : Nat) (c4 : Nat) (x5 : Int) (a6 : Option Addr) (n6 : Nat) (c6 : Nat) (x8 : Int) (h : Hp) : Prop :=
  vcond (!(ltI x8 0))
  (∃ a201' n202' c203', ∃ h204', EvC Tryd.prog O 60 [(.slice a6 n6 c6)] h (.slice a201' n202' c203') h204' ∧
  ∃ a205' n206' c207', ∃ h208', EvC Tryd.prog O 59 [(.slice a201' n202' c203'), (.int .i64 x8), (.int .i64 (wrapF .i64 (x8 + 1)))] h204' (.slice a205' n206' c207') h208' ∧
  ∃ x209', ∃ h210', EvC Tryd.prog O g1s (fi1s.toList ++ [(.slice a205' n206' c207')] ++ ca1s.toList) h208' (.int .i64 x209') h210' ∧
  vcond (eqI x209' 1)
  (I82_1 O Q x0 g1 fi1 ca1 g1s fi1s ca1s a4 n4 c4 x5 a205' n206' c207' (wrapF .i64 (x8 - 1)) h210')
  (vcond (eqI x209' 2)
  (Q (.tuple #[(.slice none 0 0), (.int .i64 8)]) h210')
  (I82_1 O Q x0 g1 fi1 ca1 g1s fi1s ca1s a4 n4 c4 x5 a6 n6 c6 (wrapF .i64 (x8 - 1)) h210')))
  (Q (.tuple #[(.slice a6 n6 c6), (.int .i64 0)]) h)
theorem I82_1.of {O Q} (x0 g1 fi1 ca1 g1s fi1s ca1s a4 n4 c4 x5 a6 n6 c6 x8) {h : Hp} (hh : T82_1 O Q x0 g1 fi1 ca1 g1s fi1s ca1s a4 n4 c4 x5 a6 n6 c6 x8 h) : I82_1 O Q x0 g1 fi1 ca1 g1s fi1s ca1s a4 n4 c4 x5 a6 n6 c6 x8 h :=
  RKL.of (tb := lv82) (cuts := []) 500 fun _ => Eq.mp (by kernel_rfl) hh
/-! sward/sat.Core$1 -/
noncomputable def b83 : Code := (Tryd.f83.body).getD .skip
noncomputable def stk83_0 : List KI := [.code (sub [1, 1, 0, 1, 0] b83), .blk 0, .code (sub [1, 1, 1] b83)]
def lv83 : List (Nat × List Nat) := [(0, [1, 2, 4, 5, 14, 15, 16])]
def I83_0 (O : CallF) (Q : Value → Hp → Prop) (a0 : Option Addr) (n0 : Nat) (c0 : Nat) (b1 : Nat) (f1 : Nat) (b2 : Nat) (f2 : Nat) (b5 : Nat) (f5 : Nat) (x16 : Int) (h : Hp) : Prop := RKL Tryd.prog O Tryd.f83 stk83_0 39 [1, 2, 4, 5, 14, 15, 16] [(.pointer (some ⟨b1, f1, none⟩)), (.pointer (some ⟨b2, f2, none⟩)), (.int .i64 0), (.pointer (some ⟨b5, f5, none⟩)), (.slice a0 n0 c0), (.int .i64 (Int.ofNat n0)), (.int .i64 x16)] h Q
def T83 (O : CallF) (Q : Value → Hp → Prop) (a0 : Option Addr) (n0 : Nat) (c0 : Nat) (b1 : Nat) (f1 : Nat) (b2 : Nat) (f2 : Nat) (h : Hp) : Prop :=
  ∃ x1', readAt h b1 (f1 + 0) 1 = some [(.int .i64 x1')] ∧
  let g2 : Hp := h.add (.cells [(.int .i64 0), (.slice none 0 0)] 30 .fix)
  vreq (canW g2 h.nx 0 [(.int .i64 x1'), (.slice none 0 0)])
  (let g3 : Hp := g2.wr h.nx 0 [(.int .i64 x1'), (.slice none 0 0)]
  I83_0 O Q a0 n0 c0 b1 f1 b2 f2 h.nx 0 0 g3)
theorem rk83 {O Q} (a0 n0 c0 b1 f1 b2 f2) {h : Hp} (hO : O 83 [(.slice a0 n0 c0), (.pointer (some ⟨b1, f1, none⟩)), (.pointer (some ⟨b2, f2, none⟩))] h = none) (hh : T83 O Q a0 n0 c0 b1 f1 b2 f2 h) : Ret Tryd.prog O 83 [(.slice a0 n0 c0), (.pointer (some ⟨b1, f1, none⟩)), (.pointer (some ⟨b2, f2, none⟩))] h Q :=
  .of (c := b83) Tryd.func83 (by kernel_rfl) hO (V_ok (tb := lv83) (cuts := []) 500 (Eq.mp (by kernel_rfl) hh))
def T83_0 (O : CallF) (Q : Value → Hp → Prop) (a0 : Option Addr) (n0 : Nat) (c0 : Nat) (b1 : Nat) (f1 : Nat) (b2 : Nat) (f2 : Nat) (b5 : Nat) (f5 : Nat) (x16 : Int) (h : Hp) : Prop :=
  vcond (ltI x16 (Int.ofNat n0))
  (isNat x16 fun n101' =>
  isAddr a0 fun b102' f103' =>
  vreq (Nat.blt n101' n0)
  (∃ x104', readAt h b102' (f103' + (n101' * 1)) 1 = some [(.int .i64 x104')] ∧
  let g105 : Hp := h.rsv 11
  ∃ a106' n107' c108', readAt g105 b5 (f5 + 1) 1 = some [(.slice a106' n107' c108')] ∧
  ∃ a109' n110' c111', readAt g105 b1 (f1 + 1) 1 = some [(.slice a109' n110' c111')] ∧
  isNat x104' fun n112' =>
  isAddr a109' fun b113' f114' =>
  vreq (Nat.blt n112' n110')
  (∃ a115' n116' c117', readAt g105 b113' (f114' + (n112' * 1)) 1 = some [(.slice a115' n116' c117')] ∧
  vreq (g105.free (h.nx + 7))
  (let g118 : Hp := g105.lay (h.nx + 7) (.cells [(.slice a115' n116' c117')] 32 .fix)
  ∃ a119' n120' c121' h122', appendV Tryd.prog (g118.grd []) 28 28 (.slice a106' n107' c108') (.slice (some ⟨(h.nx + 7), 0, none⟩) 1 1) = some (.slice a119' n120' c121', h122') ∧
  let g123 : Hp := h122'.rst g118
  vreq (canW (g123.grd []) b5 (f5 + 1) [(.slice a119' n120' c121')])
  (let g124 : Hp := (g123.grd []).wr b5 (f5 + 1) [(.slice a119' n120' c121')]
  let g125 : Hp := g124.rst g123
  I83_0 O Q a0 n0 c0 b1 f1 b2 f2 b5 f5 (wrapF .i64 (x16 + 1)) g125)))))
  (∃ x126', ∃ a127' n128' c129', readAt h b5 f5 2 = some [(.int .i64 x126'), (.slice a127' n128' c129')] ∧
  ∃ a130' n131' c132', readAt h b2 f2 1 = some [(.slice a130' n131' c132')] ∧
  ∃ x133', ∃ x134', ∃ a135' n136' c137', ∃ x138', ∃ h139', EvC Tryd.prog O 79 [(.agg #[(.int .i64 x126'), (.slice a127' n128' c129')]), (.slice a130' n131' c132')] h (.tuple #[(.agg #[(.int .u32 x133'), (.int .u32 x134')]), (.slice a135' n136' c137'), (.int .i64 x138')]) h139' ∧
  let g140 : Hp := h139'.add (.cells [(.int .u32 0), (.int .u32 0)] 102 .fix)
  vreq (canW g140 h139'.nx 0 [(.int .u32 x133'), (.int .u32 x134')])
  (let g141 : Hp := g140.wr h139'.nx 0 [(.int .u32 x133'), (.int .u32 x134')]
  Q (.int .i64 x138') g141))
theorem I83_0.of {O Q} (a0 n0 c0 b1 f1 b2 f2 b5 f5 x16) {h : Hp} (hh : T83_0 O Q a0 n0 c0 b1 f1 b2 f2 b5 f5 x16 h) : I83_0 O Q a0 n0 c0 b1 f1 b2 f2 b5 f5 x16 h :=
  RKL.of (tb := lv83) (cuts := []) 500 fun _ => Eq.mp (by kernel_rfl) hh
/-! slices.Reverse[[]int,int] -/
end Go.Proofs.YtfgfhplgnfbaaaaDoor
/- Forced: its walk. -/
namespace Go.Proofs.YtfgfhplgnfbaaaaDoor
open Go Go.Ev
end Go.Proofs.YtfgfhplgnfbaaaaDoor
/- Those to blame: the walk of Core and Blame. -/
namespace Go.Proofs.YtfgfhplgnfbaaaaDoor
open Go Go.Ev
/-- How a search with some of them ends is known. -/
def HaveOk (O : CallF) (g : Nat) (fi ca : Array Value) (h₀ : Hp) (n : Nat) (φ : List Int → Int) : Prop :=
  ∀ h, Kp h₀.nx h₀ h → ∀ a m c xs, IntsAt h a m xs → xs.Sublist ((List.range n).map Int.ofNat) → Ret Tryd.prog O g (fi.toList ++ [.slice a m c] ++ ca.toList) h fun v h' => v = .int .i64 (φ xs) ∧ Kp h.nx h h'
def blmF (φ : List Int → Int) : Nat → List Int → List Int × Int
  | 0, kept => (kept, 0)
  | i + 1, kept => if φ (kept.eraseIdx i) = 1 then blmF φ i (kept.eraseIdx i) else if φ (kept.eraseIdx i) = 2 then ([], 8) else blmF φ i kept
def blamedF (n : Nat) (φ : List Int → Int) : List Int × Int :=
  if φ ((List.range n).map Int.ofNat) = 0 then ([], 5) else if φ ((List.range n).map Int.ofNat) = 2 then ([], 8) else blmF φ n ((List.range n).map Int.ofNat)
def selC (cls : List (List Int)) (xs : List Int) : List (List Int) := xs.map fun i => cls.getD i.toNat []
theorem sub_mem {n : Nat} {xs : List Int} (s : xs.Sublist ((List.range n).map Int.ofNat)) : ∀ x ∈ xs, ∃ k, k < n ∧ x = Int.ofNat k := fun x hx => by
  obtain ⟨k, hk, e⟩ := List.mem_map.1 (s.subset hx)
  exact ⟨k, List.mem_range.1 hk, e.symm⟩
theorem sub_len {n : Nat} {xs : List Int} (s : xs.Sublist ((List.range n).map Int.ofNat)) : xs.length ≤ n := by
  have := s.length_le
  simpa using this
section
variable {O : CallF} (hO : Oth O)
include hO
theorem lp82_1 {h₀ : Hp} (ok : h₀.Ok) {N : Nat} (hN : N < 100000) {g : Nat} {fi ca : Array Value} {φ : List Int → Int} (H : HaveOk O g fi ca h₀ N φ) {a4 : Option Addr} {n4 c4 : Nat} {x5 x0 : Int} {r : List Int × Int} :
    ∀ (i : Nat) {kept : List Int} {x8 : Int} {h : Hp} {a6 : Option Addr} {n6 c6 : Nat}, x8 = Int.ofNat i - 1 → i ≤ kept.length → kept.Sublist ((List.range N).map Int.ofNat) → IntsAt h a6 n6 kept → Kp h₀.nx h₀ h → r = blmF φ i kept →
      I82_1 O (fun v h' => ∃ a n c, v = .tuple #[.slice a n c, .int .i64 r.2] ∧ IntsAt h' a n r.1 ∧ Kp h₀.nx h₀ h') x0 g fi ca g fi ca a4 n4 c4 x5 a6 n6 c6 x8 h := by
  intro i
  induction i with
  | zero =>
    intro kept x8 h a6 n6 c6 hx _ _ X kp hr
    subst hx
    refine I82_1.of (hh := ?_) ..
    unfold T82_1
    exact vcond_f rfl ⟨_, _, _, by rw [hr]; rfl, by rw [hr]; exact X, kp⟩
  | succ i ih =>
    intro kept x8 h a6 n6 c6 hx hi hs X kp hr
    obtain rfl : x8 = Int.ofNat i := by rw [hx]; simp only [Int.ofNat_eq_natCast]; omega
    have okh := ok.kp kp
    have hol := sub_len hs
    refine I82_1.of (hh := ?_) ..
    unfold T82_1
    refine vcond_t (by rw [show ltI (Int.ofNat i) 0 = false from rfl]; rfl) ?_
    refine (ct60 hO okh X (by omega)).s fun a3 n3 c3 h3 ⟨A3, K3⟩ => ?_
    have hne : kept.map (Value.int .i64) ≠ [] := fun e => by
      have : kept.length = 0 := by simpa using congrArg List.length e
      omega
    rcases A3 with (⟨_, _, _, e⟩ | ⟨o, rfl, rfl, q3, q4, q5, q6⟩) | ⟨e, _⟩
    · exact absurd e hne
    · obtain rfl : n3 = kept.length := by simpa using q3
      obtain ⟨v, h4, e4, rfl, Y, K4⟩ := ct59 hO (h := h3) (i := i) q6 q5 (GdLt.free (GdLt.kp okh.lt K3) q4) (by omega) (by omega)
      rw [wrap_succ (by omega)]
      have K34 : Kp h.nx h h4 := K3.trans (K4 h.nx q4 K3.nx)
      have kp4 : Kp h₀.nx h₀ h4 := kp.trans (K34.le kp.nx)
      have hl2 : (kept.eraseIdx i).length = kept.length - 1 := List.length_eraseIdx_of_lt (by omega)
      have hs2 : (kept.eraseIdx i).Sublist ((List.range N).map Int.ofNat) := (List.eraseIdx_sublist ..).trans hs
      refine ⟨_, _, _, h4, e4, ?_⟩
      obtain ⟨v, h5, e5, rfl, K5⟩ := H h4 kp4 _ _ unk _ Y hs2
      have kp5 := kp4.trans (K5.le kp4.nx)
      refine ⟨_, h5, e5, ?_⟩
      rw [wrap64 (by simp only [Int.ofNat_eq_natCast]; omega) (by simp only [Int.ofNat_eq_natCast]; omega)]
      have f5 := K5.ex (Nat.le_refl _)
      have f35 : Ft h h5 := Ft.tr (K34.ex (Nat.le_refl _)) f5
      unfold blmF at hr
      refine vcond_split (fun hc => ?_) fun hc => ?_
      · rw [if_pos (eq_of_t hc)] at hr
        rw [← hl2] at Y ⊢
        exact ih rfl (by omega) hs2 (Y.to h5) kp5 hr
      · rw [if_neg (ne_of_f hc)] at hr
        refine vcond_split (fun hd => ?_) fun hd => ?_
        · rw [if_pos (eq_of_t hd)] at hr
          exact ⟨_, _, _, by rw [hr], by rw [hr]; exact SlAt.nil .., kp5⟩
        · rw [if_neg (ne_of_f hd)] at hr
          exact ih rfl (by omega) hs (X.to h5) kp5 hr
    · exact absurd e hne
theorem lp82_0 {h₀ : Hp} (ok : h₀.Ok) {N : Nat} (hN : N < 100000) {g : Nat} {fi ca : Array Value} {φ : List Int → Int} (H : HaveOk O g fi ca h₀ N φ) :
    ∀ (d k : Nat), k + d = N → ∀ {h : Hp} {a6 : Option Addr} {n6 c6 : Nat}, Kp h₀.nx h₀ h → AccI 3 h h₀.nx a6 n6 c6 ((List.range k).map Int.ofNat) →
      I82_0 O (fun v h' => ∃ a n c, v = .tuple #[.slice a n c, .int .i64 (blamedF N φ).2] ∧ IntsAt h' a n (blamedF N φ).1 ∧ Kp h₀.nx h₀ h') (Int.ofNat N) g fi ca g fi ca a6 n6 c6 (Int.ofNat k) h := by
  intro d
  induction d with
  | zero =>
    intro k hk h a6 n6 c6 kp A
    obtain rfl : k = N := by omega
    refine I82_0.of (hh := ?_) ..
    unfold T82_0
    refine vcond_f (by rw [ltI_nat]; exact blt_f (by omega)) ?_
    obtain ⟨v, h1, e1, rfl, K1⟩ := H h kp _ _ c6 _ A.ints (List.Sublist.refl _)
    refine ⟨_, h1, e1, ?_⟩
    have kp1 := kp.trans (K1.le kp.nx)
    have f1 := K1.ex (Nat.le_refl _)
    have r : blamedF k φ = blamedF k φ := rfl
    conv at r => rhs; unfold blamedF
    refine vcond_split (fun hc => ?_) fun hc => ?_
    · rw [if_pos (eq_of_t hc)] at r
      exact ⟨_, _, _, by rw [r], by rw [r]; exact SlAt.nil .., kp1⟩
    · rw [if_neg (ne_of_f hc)] at r
      refine vcond_split (fun hd => ?_) fun hd => ?_
      · rw [if_pos (eq_of_t hd)] at r
        exact ⟨_, _, _, by rw [r], by rw [r]; exact SlAt.nil .., kp1⟩
      · rw [if_neg (ne_of_f hd)] at r
        exact lp82_1 hO ok hN H k (by rw [wrap64 (by simp only [Int.ofNat_eq_natCast]; omega) (by simp only [Int.ofNat_eq_natCast]; omega)]) (by simp) (List.Sublist.refl _) (A.ints.to h1) kp1 r
  | succ d ih =>
    intro k hk h a6 n6 c6 kp A
    refine I82_0.of (hh := ?_) ..
    unfold T82_0
    refine vcond_t (by rw [ltI_nat]; exact blt_t (by omega)) ?_
    intro g101
    rw [wrap_succ (by omega)]
    refine appI app32 A kp.nx (GdLt.kp ok.lt kp) (by simp; omega) fun a' n' c' h' A' _ ka => ?_
    exact ih (k + 1) (by omega) (kp.trans ka) (by rw [List.range_succ, List.map_append]; exact A')
theorem ct82 {h : Hp} (ok : h.Ok) {N : Nat} (hN : N < 100000) {g : Nat} {fi ca : Array Value} {φ : List Int → Int} (H : HaveOk O g fi ca h N φ) :
    Ret Tryd.prog O 82 [.int .i64 (Int.ofNat N), .func (.func g) fi ca] h fun v h' => ∃ a n c, v = .tuple #[.slice a n c, .int .i64 (blamedF N φ).2] ∧ IntsAt h' a n (blamedF N φ).1 ∧ Kp h.nx h h' := by
  refine rk82 _ _ _ _ (hO _ _ _ (by decide)) ?_
  unfold T82
  exact lp82_0 hO ok hN H N 0 (Nat.zero_add _) (.refl _ _) (AccI.nil ..)
theorem lp83 {h₀ : Hp} (ok : h₀.Ok) (ht : Tb h₀) {N : Nat} (hN : N ≤ 30) {cls : List (List Int)} {gs : List Int} (hc : ∀ l ∈ cls, Cv (Int.ofNat N) l) (hcl : cls.length < 10000) (hg : Lv (Int.ofNat N) gs) (hgl : gs.length < 1000)
    {b1 b2 : Nat} {aF aG : Option Addr} {nF cF nG cG : Nat} (hb1 : b1 < h₀.nx) (g1 : h₀.get b1 = some (.cells [.int .i64 (Int.ofNat N), .slice aF nF cF] 30 .fix)) (hb2 : b2 < h₀.nx) (g2 : h₀.get b2 = some (.cells [.slice aG nG cG] 32 .fix)) (F : IntssAt h₀ aF nF cls) (G : IntsAt h₀ aG nG gs)
    {a0 : Option Addr} {n0 c0 : Nat} {xs : List Int} (X : IntsAt h₀ a0 n0 xs) (s : xs.Sublist ((List.range cls.length).map Int.ofNat)) :
    ∀ (d k : Nat), k + d = xs.length → ∀ {h : Hp} {a : Option Addr} {n c : Nat}, Kp h₀.nx h₀ h → h₀.nx < h.nx → h.get h₀.nx = some (.cells [.int .i64 (Int.ofNat N), .slice a n c] 30 .fix) → LL h₀.nx (h₀.nx + 1) h a n c (selC cls (xs.take k)) →
      I83_0 O (fun v h' => v = .int .i64 (solF N (selC cls xs) gs).how ∧ Kp h₀.nx h₀ h') a0 n0 c0 b1 0 b2 0 h₀.nx 0 (Int.ofNat k) h := by
  have hxl := sub_len s
  have hn0 := X.1
  have hin := sub_mem s
  intro d
  induction d with
  | zero =>
    intro k hk h a n c kp hnx g3 A
    refine I83_0.of (hh := ?_) ..
    unfold T83_0
    have okh := ok.kp kp
    refine vcond_f (by rw [ltI_nat]; exact blt_f (by omega)) ⟨_, _, _, _, by rw [readAt_get g3 (by simp)]; rfl, _, _, _, read1 (i := 0) (by rw [kp.get _ hb2]; exact g2) rfl, ?_⟩
    rw [List.take_of_length_le (by omega)] at A
    have f := kp.ex (Nat.le_refl _)
    have hm : ∀ l ∈ selC cls xs, l ∈ cls := fun l hl => by
      obtain ⟨x, hx, rfl⟩ := List.mem_map.1 hl
      obtain ⟨j, hj, rfl⟩ := hin x hx
      show cls.getD j [] ∈ cls
      rw [List.getD_eq_getElem?_getD, List.getElem?_eq_getElem hj]
      exact List.getElem_mem hj
    have hc2 : ∀ l ∈ selC cls xs, Cv (Int.ofNat N) l := fun l hl => hc l (hm l hl)
    have lits : ∀ l ∈ selC cls xs, ∀ x ∈ l, Lit x := fun l hl x hx => ((hc2 l hl).2 x hx).1
    have llen : ∀ l ∈ selC cls xs, l.length < 1000000 := fun l hl => by
      rcases dif_len (N := N) (lo := 0) (hc2 l hl).1 (fun x hx => by obtain ⟨h1, h2⟩ := (hc2 l hl).2 x hx; have := h1.1; simp only [Int.ofNat_eq_natCast] at h2; omega) with h | h
      · omega
      · rw [h]; simp
    obtain ⟨v, h1, e1, al, nl, cl, rfl, _, K1⟩ := ct79 hO okh (ht.kp kp ht.1) A.intss (by unfold selC; rw [List.length_map]; omega) llen lits (G.to h) (by omega) (fun x hx => (hg x hx).1) hN (dec_ok hN hc2 hg) dcs_nil (c := c) (c1 := cG)
    refine ⟨_, _, _, _, _, _, h1, e1, ?_⟩
    intro g140
    have okh1 := okh.kp K1
    have gf : g140.guarded h1.nx = false := guarded_of fun q hq => by have := okh1.gd q hq; omega
    refine vreq_t (canW_t (get_add_same ..) (by decide) gf (by simp) rfl) ?_
    intro g141
    exact ⟨rfl, kp.trans ((K1.trans (((Kp.refl h1.nx h1).add (Nat.le_refl _) _).wr (Nat.le_refl _) _ _ |>.le K1.nx)).le kp.nx)⟩
  | succ d ih =>
    intro k hk h a n c kp hnx g3 A
    refine I83_0.of (hh := ?_) ..
    unfold T83_0
    have okh := ok.kp kp
    have f := kp.ex (Nat.le_refl _)
    have hkl : k < xs.length := by omega
    refine vcond_t (by rw [ltI_nat]; exact blt_t (by omega)) (isNat_i (IntsAt.rd (g := h₀) (h := h) X hkl ?_))
    obtain ⟨j, hj, ej⟩ := hin _ (List.getElem_mem hkl)
    rw [ej]
    intro g105
    have K5 : Kp h.nx h g105 := (Kp.refl _ _).rsv 11
    have kp5 := kp.trans (K5.le kp.nx)
    have f5 := kp5.ex (Nat.le_refl _)
    have g35 : g105.get h₀.nx = some (.cells [.int .i64 (Int.ofNat N), .slice a n c] 30 .fix) := g3
    refine ⟨_, _, _, read1 g35 (i := 0 + 1) rfl, _, _, _, read1 (i := 0 + 1) (by rw [kp5.get _ hb1]; exact g1) rfl, isNat_i (IntssAt.rd (g := h₀) (h := g105) F hj fun a' n' c' Y => ?_)⟩
    have okY : VOk h₀.nx (h₀.nx + 1) (.slice a' n' c') := fun b off m c e => by
      injection e with e _ _
      have := SlAt.lt Y b off e
      omega
    have nx5 : g105.nx = h.nx + 11 := rfl
    have gd5 : GdLt g105 (h₀.nx + 1) := fun q hq => by
      have : q ∈ h₀.gd := by rw [← kp.gd]; exact hq
      have := ok.gd q this; omega
    have hq : g105.get (h.nx + 7) = none := okh.fr _ (Nat.le_add_right _ _)
    have A5 : LL h₀.nx (h₀.nx + 1) g105 a n c (selC cls (xs.take k)) := A.to g105
    have nA := A.len
    have ltk : (selC cls (xs.take k)).length = k := by unfold selC; rw [List.length_map, List.length_take]; omega
    refine LL.appR (by omega) A5 (Y.to g105) okY (by omega) gd5 hq (by omega) (by omega) (fun i hi => by cases hi) (by omega) fun a2 c2 h2 A2 _ K2 => ?_
    intro g123
    have gN : g123.get h₀.nx = some (.cells [.int .i64 (Int.ofNat N), .slice a n c] 30 .fix) := by
      refine (K2.oth _ (by omega) (fun e => ?_) (by rw [g35]; simp)).trans g35
      obtain ⟨vs, E, _, _⟩ := A5
      have := (E.lt e).1
      omega
    have gu : (g123.grd []).guarded h₀.nx = false := guarded_of fun q hq => by
      have : q ∈ h₀.gd := by rw [← kp5.gd]; exact hq
      have := ok.gd q this; omega
    refine vreq_t (canW_t (h := g123.grd []) gN (by decide) gu (by simp) rfl) ?_
    intro g124 g125
    have w : g125.get h₀.nx = some (.cells [.int .i64 (Int.ofNat N), .slice a2 (n + 1) c2] 30 .fix) := (wr_get (h := g123.grd []) gN (by decide) gu (by simp) rfl).trans rfl
    have k3 : Kp h₀.nx h₀ g123 := kp5.trans (K2.kp.le (by omega))
    have k4 : Kp h₀.nx h₀ g125 := by
      have w : Kp h₀.nx h₀ g124 := (show Kp h₀.nx h₀ (g123.grd []) from ⟨k3.get, k3.nx, k3.gd, k3.fr⟩).wr (Nat.le_refl _) _ _
      exact ⟨w.get, w.nx, k3.gd, w.fr⟩
    have n5 : g125.nx = g123.nx := nx_wr ..
    have A3 : LL h₀.nx (h₀.nx + 1) g124 a2 (n + 1) c2 _ := (show LL h₀.nx (h₀.nx + 1) (g123.grd []) a2 (n + 1) c2 _ from A2.to _).wr (q := h₀.nx) (by omega) (by omega) (0 + 1) [.slice a2 (n + 1) c2]
    rw [wrap_succ (by omega)]
    have k2n : g105.nx ≤ g123.nx := K2.kp.nx
    refine ih (k + 1) (by omega) k4 (by rw [n5]; omega) w ?_
    have e2 : selC cls (xs.take (k + 1)) = selC cls (xs.take k) ++ [cls[j]] := by
      unfold selC
      rw [List.take_add_one, List.map_append, List.getElem?_eq_getElem hkl, ej]
      simp [List.getElem?_eq_getElem hj]
    rw [e2]
    exact A3.to g125
theorem ct83 {h : Hp} (ok : h.Ok) (ht : Tb h) {N : Nat} (hN : N ≤ 30) {cls : List (List Int)} {gs : List Int} (hc : ∀ l ∈ cls, Cv (Int.ofNat N) l) (hcl : cls.length < 10000) (hg : Lv (Int.ofNat N) gs) (hgl : gs.length < 1000)
    {b1 b2 : Nat} {aF aG : Option Addr} {nF cF nG cG : Nat} (hb1 : b1 < h.nx) (g1 : h.get b1 = some (.cells [.int .i64 (Int.ofNat N), .slice aF nF cF] 30 .fix)) (hb2 : b2 < h.nx) (g2 : h.get b2 = some (.cells [.slice aG nG cG] 32 .fix)) (F : IntssAt h aF nF cls) (G : IntsAt h aG nG gs)
    {a0 : Option Addr} {n0 c0 : Nat} {xs : List Int} (X : IntsAt h a0 n0 xs) (s : xs.Sublist ((List.range cls.length).map Int.ofNat)) :
    Ret Tryd.prog O 83 [.slice a0 n0 c0, .pointer (some ⟨b1, 0, none⟩), .pointer (some ⟨b2, 0, none⟩)] h fun v h' => v = .int .i64 (solF N (selC cls xs) gs).how ∧ Kp h.nx h h' := by
  refine rk83 _ _ _ _ _ _ _ (hO _ _ _ (by decide)) ?_
  unfold T83
  refine ⟨_, read1 g1 (i := 0 + 0) rfl, ?_⟩
  intro g2'
  have gf : g2'.guarded h.nx = false := guarded_of fun q hq => by have := ok.gd q hq; omega
  refine vreq_t (canW_t (get_add_same ..) (by decide) gf (by simp) rfl) ?_
  intro g3
  have w : g3.get h.nx = some (.cells [.int .i64 (Int.ofNat N), .slice none 0 0] 30 .fix) := (wr_get (get_add_same ..) (by decide) gf (by simp) rfl).trans rfl
  exact lp83 hO ok ht hN hc hcl hg hgl hb1 g1 hb2 g2 F G X s xs.length 0 (Nat.zero_add _) (((Kp.refl h.nx h).add (Nat.le_refl _) _).wr (Nat.le_refl _) _ _) (by show h.nx < g3.nx; rw [show g3.nx = h.nx + 1 from nx_wr ..]; omega) w (LL.nil ..)
end
end Go.Proofs.YtfgfhplgnfbaaaaDoor
/- What a call's arguments hold, as the evaluator's memory. -/
namespace Go.Ev
open Go
/-- Fields lie one behind the other. -/
def layOk (P : Program) : Nat → List Field → Nat → Bool
  | off, [], n => Nat.beq off n
  | off, f :: fs, n => Nat.beq f.offset off && layOk P (off + P.cellsOf f.type) fs n
/-- A type of truths, whole numbers, lists, structs and rows of these. -/
def Plain (P : Program) : Nat → TypeId → Bool
  | 0, _ => false
  | n + 1, t => match P.underlying t with
    | some .bool => true
    | some (.int _) => true
    | some (.slice e) => Plain P n e && !(Nat.beq (P.cellsOf e) 0)
    | some (.struct fs) => fs.toList.all (fun f => Plain P n f.type) && layOk P 0 fs.toList (P.cellsOf t)
    | some (.array m e) => Plain P n e && Nat.beq (m * P.cellsOf e) (P.cellsOf t)
    | _ => false
/-- Cells that read as some data, in the evaluator's memory. -/
def DE {H : Type} (P : Program) (h : Hp) : Nat → TypeId → List Value → DataW H → Prop
  | 0, _, _, _ => False
  | n + 1, t, cs, d => match P.underlying t, d with
    | some .bool, .lit (.bool b) => cs = [.bool b]
    | some (.int k), .lit (.int k' x) => k' = k ∧ cs = [.int k x] ∧ (Lit.int k x).wf = true
    | some (.slice _), .nil => cs = [.slice none 0 0]
    | some (.slice e), .slice elems _ => ∃ k cap c e', cs = [.slice (some ⟨k, 0, none⟩) elems.length cap] ∧ cap < unk ∧ elems.length ≤ cap ∧ k < h.nx ∧ h.get k = some (.cells c e' .ro) ∧ elems.length * P.cellsOf e ≤ c.length ∧
        ∀ i (hi : i < elems.length), DE P h n e ((c.drop (i * P.cellsOf e)).take (P.cellsOf e)) elems[i]
    | some (.struct fs), .agg parts => cs.length = P.cellsOf t ∧ parts.length = fs.size ∧ ∀ i (hi : i < parts.length) f, fs[i]? = some f → DE P h n f.type ((cs.drop f.offset).take (P.cellsOf f.type)) parts[i]
    | some (.array m e), .agg parts => cs.length = P.cellsOf t ∧ parts.length = m ∧ ∀ i (hi : i < parts.length), DE P h n e ((cs.drop (i * P.cellsOf e)).take (P.cellsOf e)) parts[i]
    | _, _ => False
/-- Memory with more in it, that none writes. -/
structure Ext1 (h : Hp) (ι : Inj) (h' : Hp) (ι' : Inj) : Prop where
  nx : h.nx ≤ h'.nx
  gd : h'.gd = h.gd
  get : ∀ o, o < h.nx → h'.get o = h.get o
  inj : ∀ o, o < h.nx → ι' o = ι o
theorem Ext1.refl (h : Hp) (ι : Inj) : Ext1 h ι h ι := ⟨Nat.le_refl _, rfl, fun _ _ => rfl, fun _ _ => rfl⟩
theorem Ext1.trans {h h' h'' : Hp} {ι ι' ι'' : Inj} (a : Ext1 h ι h' ι') (b : Ext1 h' ι' h'' ι'') : Ext1 h ι h'' ι'' :=
  ⟨Nat.le_trans a.nx b.nx, b.gd.trans a.gd, fun o ho => (b.get o (Nat.lt_of_lt_of_le ho a.nx)).trans (a.get o ho), fun o ho => (b.inj o (Nat.lt_of_lt_of_le ho a.nx)).trans (a.inj o ho)⟩
theorem DE.mono {H : Type} {P : Program} {h h' : Hp} (hn : h.nx ≤ h'.nx) (hg : ∀ o, o < h.nx → h'.get o = h.get o) : ∀ {n : Nat} {t : TypeId} {cs : List Value} {d : DataW H}, DE P h n t cs d → DE P h' n t cs d := by
  intro n
  induction n with
  | zero => intro t cs d h; exact h
  | succ n ih =>
    intro t cs d hd
    unfold DE at hd ⊢
    split at hd
    · exact hd
    · exact hd
    · exact hd
    · obtain ⟨k, cap, c, e', h1, h2, h3, h4, h5, h6, h7⟩ := hd
      exact ⟨k, cap, c, e', h1, h2, h3, Nat.lt_of_lt_of_le h4 hn, by rw [hg k h4]; exact h5, h6, fun i hi => ih (h7 i hi)⟩
    · exact ⟨hd.1, hd.2.1, fun i hi f hf => ih (hd.2.2 i hi f hf)⟩
    · exact ⟨hd.1, hd.2.1, fun i hi => ih (hd.2.2 i hi)⟩
    · exact hd
section
variable {H : Type} {enc : TypeId × Value → H} {P : Program} {W : World}
/-- What is ahead: memory that none writes, and an object in it. -/
structure Base (P : Program) (ι : Inj) (h : Hp) (W : World) : Prop where
  rh : RH P ι h W
  ro : ∀ o x, h.get o = some x → x.wr = false
  gd : h.gd = []
  some0 : ∃ x v, h.get 0 = some x ∧ ι 0 = some v ∧ 0 < h.nx ∧ ∃ c e, x = .cells c e .ro
/-- An object more. -/
theorem Base.push {ι : Inj} {h : Hp} (B : Base P ι h W) {c : List Value} {e : TypeId} {v : Vw} (h1 : c.all one = true) {c' : Array Value} {e' : TypeId} {fr : Nat × Nat} (hb : W.heap[v.blk]? = some (.cells c' e' fr)) (hc : ∀ (j : Nat) x, c[j]? = some x → ∃ y, c'[v.base + j]? = some y ∧ VR ι x y) :
    Base P (ι.set h.nx v) (h.add (.cells c e .ro)) W ∧ Ext1 h ι (h.add (.cells c e .ro)) (ι.set h.nx v) := by
  have hfresh : ι h.nx = none := B.rh.fresh _ (Nat.le_refl _)
  have mono := Inj.set_mono (v := v) hfresh
  have hE : Ext1 h ι (h.add (.cells c e .ro)) (ι.set h.nx v) := ⟨by rw [nx_add]; omega, rfl, fun o ho => get_add_ne (by omega), fun o ho => Inj.set_other _ _ _ (by omega)⟩
  have hget : ∀ o x, (h.add (.cells c e .ro)).get o = some x → (o = h.nx ∧ x = .cells c e .ro) ∨ h.get o = some x := fun o x ho => by
    rw [get_add] at ho
    split at ho
    · exact .inl ⟨‹_›, (Option.some.inj ho).symm⟩
    · exact .inr ho
  have hro : ∀ o x, (h.add (.cells c e .ro)).get o = some x → x.wr = false := fun o x ho => by
    rcases hget o x ho with ⟨_, rfl⟩ | ho
    · rfl
    · exact B.ro o x ho
  refine ⟨⟨⟨fun o x ho => ?_, fun o q x y vo vq _ ho hx => ?_, fun o ho => ?_, fun g hg => ?_, ?_⟩, hro, B.gd, ?_⟩, hE⟩
  · rcases hget o x ho with ⟨rfl, rfl⟩ | ho
    · refine ⟨by rw [nx_add]; omega, v, Inj.set_same .., h1, c', e', fr, hb, fun j x hx => ?_, fun h => absurd rfl h, fun h => by cases h⟩
      obtain ⟨y, hy, hv⟩ := hc j x hx
      exact ⟨y, hy, hv.mono mono⟩
    · obtain ⟨h2, u, hu, hor⟩ := B.rh.live o x ho
      exact ⟨by rw [nx_add]; omega, u, mono _ _ hu, hor.of_block mono rfl⟩
  · rw [hro o x ho] at hx; cases hx
  · rw [nx_add] at ho
    rw [Inj.set_other _ _ _ (by omega)]; exact B.rh.fresh o (by omega)
  · rw [Inj.set_other _ _ _ (by have := B.rh.gsize; omega)]; exact B.rh.glob g hg
  · rw [nx_add]; have := B.rh.gsize; omega
  · obtain ⟨x, u, a1, a2, a3, a4⟩ := B.some0
    exact ⟨x, u, by rw [get_add_ne (by omega)]; exact a1, by rw [Inj.set_other _ _ _ (by omega)]; exact a2, by rw [nx_add]; omega, a4⟩
/-- A whole part is built, whatever a part is built of. -/
def Builds (H : Type) (enc : TypeId × Value → H) (P : Program) (W : World) (n : Nat) (t : TypeId) : Prop := ∀ (cs : List Value) (d : DataW H) (ps : List MemPlace), DataW.trod enc P W 0 (fun _ => true) true n t cs = some (d, ps) →
  ∀ ι h, Base P ι h W → ∃ ι' h' ev, Ext1 h ι h' ι' ∧ Base P ι' h' W ∧ VRs ι' ev cs ∧ ev.all one = true ∧ DE P h' n t ev d
theorem VRs.mono1 {ι ι' : Inj} {h h' : Hp} (E : Ext1 h ι h' ι') (R : ∀ o, h.nx ≤ o → ι o = none) {a b : List Value} (hv : VRs ι a b) : VRs ι' a b := hv.mono fun o v hv => by
  have : o < h.nx := by
    rcases Nat.lt_or_ge o h.nx with hh | hh
    · exact hh
    · rw [R o hh] at hv; cases hv
  rw [E.inj o this]; exact hv
/-- Parts, one after the other. -/
theorem build_list {n : Nat} : ∀ (l : List (TypeId × List Value × DataW H)), (∀ p ∈ l, Builds H enc P W n p.1 ∧ ∃ ps, DataW.trod enc P W 0 (fun _ => true) true n p.1 p.2.1 = some (p.2.2, ps)) → ∀ ι h, Base P ι h W →
    ∃ ι' h', ∃ evs : List (List Value), Ext1 h ι h' ι' ∧ Base P ι' h' W ∧ evs.length = l.length ∧ VRs ι' evs.flatten (l.map (·.2.1)).flatten ∧ evs.flatten.all one = true ∧
      ∀ i (hi : i < l.length), ∃ ev, evs[i]? = some ev ∧ VRs ι' ev l[i].2.1 ∧ DE P h' n l[i].1 ev l[i].2.2 := by
  intro l
  induction l with
  | nil => intro _ ι h B; exact ⟨ι, h, [], .refl _ _, B, rfl, .nil _, rfl, fun i hi => absurd hi (Nat.not_lt_zero _)⟩
  | cons p l ih =>
    intro hl ι h B
    obtain ⟨hb, ps, hp⟩ := hl p (List.mem_cons_self ..)
    obtain ⟨ι1, h1, ev, E1, B1, V1, O1, D1⟩ := hb _ _ _ hp ι h B
    obtain ⟨ι2, h2, evs, E2, B2, L2, V2, O2, D2⟩ := ih (fun q hq => hl q (List.mem_cons_of_mem _ hq)) ι1 h1 B1
    have V1' := VRs.mono1 E2 B1.rh.fresh V1
    refine ⟨ι2, h2, ev :: evs, E1.trans E2, B2, by simp [L2], ?_, ?_, fun i hi => ?_⟩
    · rw [List.flatten_cons, List.map_cons, List.flatten_cons]; exact V1'.append V2
    · rw [List.flatten_cons, List.all_append, O1, O2]; rfl
    · cases i with
      | zero => exact ⟨ev, rfl, V1', D1.mono E2.nx E2.get⟩
      | succ i => exact D2 i (by simpa using hi)
theorem flat_row {l : List (List Value)} {w : Nat} (hw : ∀ x ∈ l, x.length = w) : l.flatten.length = l.length * w ∧ ∀ i x, l[i]? = some x → (l.flatten.drop (i * w)).take w = x := by
  induction l with
  | nil => exact ⟨by simp, fun i x h => by simp at h⟩
  | cons y l ih =>
    obtain ⟨h1, h2⟩ := ih fun x hx => hw x (List.mem_cons_of_mem _ hx)
    have hy := hw y (List.mem_cons_self ..)
    refine ⟨by rw [List.flatten_cons, List.length_append, h1, hy, List.length_cons, Nat.add_mul]; omega, fun i x hx => ?_⟩
    rw [List.flatten_cons]
    cases i with
    | zero =>
      simp at hx
      subst hx
      rw [Nat.zero_mul, List.drop_zero, ← hy, List.take_left]
    | succ i =>
      rw [List.drop_append, List.drop_of_length_le (by rw [hy, Nat.add_mul]; omega), List.nil_append, hy, show (i + 1) * w - w = i * w by rw [Nat.add_mul]; omega]
      exact h2 i x (by simpa using hx)
theorem build_int {n : Nat} {t : TypeId} {k : IntKind} (hu : P.underlying t = some (.int k)) : Builds H enc P W (n + 1) t := by
  intro cs d ps h ι hp B
  unfold DataW.trod at h
  rw [hu] at h
  rcases cs with _ | ⟨v, _ | ⟨w, r⟩⟩
  · cases h
  · cases v with
    | int k' x =>
      simp only at h
      split at h
      · rename_i hc
        injection h with h; injection h with h _
        subst h
        obtain ⟨rfl, hw⟩ := hc
        exact ⟨ι, hp, [.int k' x], .refl _ _, B, .of_flat rfl, rfl, by unfold DE; rw [hu]; exact ⟨rfl, rfl, hw⟩⟩
      · cases h
    | slice a len cap => cases a <;> cases len <;> cases cap <;> cases h
    | _ => cases h
  · cases v with
    | slice a len cap => cases a <;> cases len <;> cases cap <;> cases h
    | _ => cases h
end
end Go.Ev
/- A law's arguments, as the evaluator's memory; from its word to the kit's. -/
namespace Go.Ev
open Go Go.ChangeShapes Go.WideShapes Go.ChangeAt Go.RowKit
section
variable {H : Type} {enc : TypeId × Value → H} {P : Program} {W : World}
/-- Arguments that read as some data. -/
def DEs (P : Program) (h : Hp) : List TypeId → List Value → List (DataW H) → Prop
  | [], [], [] => True
  | t :: ts, v :: vs, d :: ds => ((∃ n, DE P h n t v.cells.toList d) ∧ (aggT P t = some true ∨ v.cells.toList = [v])) ∧ DEs P h ts vs ds
  | _, _, _ => False
theorem DEs.mono {h h' : Hp} (hn : h.nx ≤ h'.nx) (hg : ∀ o, o < h.nx → h'.get o = h.get o) : ∀ {ts : List TypeId} {vs : List Value} {ds : List (DataW H)}, DEs P h ts vs ds → DEs P h' ts vs ds
  | [], [], [], h => h
  | _ :: _, _ :: _, _ :: _, ⟨⟨⟨n, h1⟩, h3⟩, h2⟩ => ⟨⟨⟨n, h1.mono hn hg⟩, h3⟩, h2.mono hn hg⟩
/-- A value is one cell, or a struct's or a row's cells. -/
def Shaped1 (P : Program) (t : TypeId) (v : Value) : Prop := v.cells.toList = [v] ∨ (∃ cs, v = .agg cs) ∧ aggT P t = some true
theorem args_build : ∀ {ts : List TypeId} {vs : List Value} {ds : List (DataW H)} {p : List MemPlace}, DataW.TrodAll enc P W 0 (fun _ => true) true ts vs ds p → (∀ t ∈ ts, ∀ n, Builds H enc P W n t) → (∀ (i : Nat) t v, ts[i]? = some t → vs[i]? = some v → Shaped1 P t v) → ∀ ι h, Base P ι h W →
    ∃ ι' h' evs, Ext1 h ι h' ι' ∧ Base P ι' h' W ∧ VRs ι' evs vs ∧ DEs P h' ts evs ds
  | [], [], [], _, _, _, _, ι, h, B => ⟨ι, h, [], .refl _ _, B, .nil _, trivial⟩
  | t :: ts, v :: vs, d :: ds, _, ⟨p, q, ⟨n, h1⟩, h2, _⟩, hb, hs, ι, h, B => by
    obtain ⟨ι1, h3, ev, E1, B1, V1, O1, D1⟩ := hb t (List.mem_cons_self ..) n _ _ _ h1 ι h B
    obtain ⟨ι2, h4, evs, E2, B2, V2, D2⟩ := args_build h2 (fun t ht => hb t (List.mem_cons_of_mem _ ht)) (fun i t v a b => hs (i + 1) t v (by simpa using a) (by simpa using b)) ι1 h3 B1
    have V1' := VRs.mono1 E2 B1.rh.fresh V1
    rcases hs 0 t v rfl rfl with hc | ⟨⟨cs, rfl⟩, hag⟩
    · rw [hc] at V1'
      have hl : ev.length = 1 := by have := V1'.1; simpa using this.symm
      obtain ⟨x, rfl⟩ : ∃ x, ev = [x] := List.length_eq_one_iff.1 hl
      have hx : x.cells.toList = [x] := by
        have : one x = true := by simpa using O1
        cases x <;> first | rfl | cases this
      obtain ⟨y, c, e1, e2, _⟩ := V1'.head
      injection e1 with e1 _
      subst e1
      refine ⟨ι2, h4, x :: evs, E1.trans E2, B2, .cons e2 V2, ⟨⟨n, ?_⟩, .inr hx⟩, D2⟩
      rw [hx]; exact D1.mono E2.nx E2.get
    · refine ⟨ι2, h4, .agg ev.toArray :: evs, E1.trans E2, B2, .cons ?_ V2, ⟨⟨n, ?_⟩, .inl hag⟩, D2⟩
      · have V1'' : VRs ι2 ev.toArray.toList cs.toList := by rw [List.toList_toArray]; exact V1'
        obtain ⟨a1, a2⟩ := VRs.arr.1 V1''
        exact .agg a1 a2
      · show DE P h4 n t (ev.toArray).toList d
        simpa using D1.mono E2.nx E2.get
theorem shaped_of {r : Reach} {base n : Nat} {t : TypeId} {v : Value} (hp : Plain P n t = true) (h : Value.okWide P W r base t v) : Shaped1 P t v := by
  cases n with
  | zero => cases hp
  | succ n =>
    unfold Plain at hp
    unfold Value.okWide at h
    split at hp
    · rename_i hu
      rw [hu] at h
      unfold Cell.okWide Cell.ok at h
      rw [hu] at h
      cases v <;> first | exact .inl rfl | exact h.elim
    · rename_i hu
      rw [hu] at h
      unfold Cell.okWide Cell.ok at h
      rw [hu] at h
      cases v <;> first | exact .inl rfl | exact h.elim
    · rename_i hu
      rw [hu] at h
      unfold Cell.okWide Cell.ok at h
      rw [hu] at h
      cases v <;> first | exact .inl rfl | exact h.elim
    · rename_i hu
      rw [hu] at h
      obtain ⟨cs, rfl, _⟩ := h
      exact .inr ⟨⟨cs, rfl⟩, by unfold aggT; rw [hu]⟩
    · rename_i hu
      rw [hu] at h
      obtain ⟨cs, rfl, _⟩ := h
      exact .inr ⟨⟨cs, rfl⟩, by unfold aggT; rw [hu]⟩
    · cases hp
theorem DE_int {h : Hp} {n : Nat} {t : TypeId} {k : IntKind} (hu : P.underlying t = some (.int k)) {cs : List Value} {d : DataW H} (hd : DE P h n t cs d) : ∃ x, cs = [.int k x] ∧ (Lit.int k x).wf = true := by
  cases n with
  | zero => exact hd.elim
  | succ n =>
    unfold DE at hd
    rw [hu] at hd
    split at hd
    all_goals first | (rename_i heq; cases heq; done) | skip
    · rename_i k' k2 x heq
      injection heq with heq; injection heq with heq
      subst heq
      exact ⟨x, hd.2⟩
    all_goals first | exact hd.elim | skip
/-- What was there stays, but for what is new. -/
theorem post_of_old {f : Func} {s : ChangeSpec} {apart fresh handsOn again : Bool} {W W' : World} {args : Array Value} {v : Value} {ds gs : List (DataW H)} {before pa pv : List MemPlace}
    (hW : DataW.Whole enc P f.params.toList s.vars apart W args.toList ds gs before)
    (hres : ∀ (b : Nat) (sp : Nat → Bool) (hd : Bool), DataW.TrodAll enc P W' b sp hd f.resultTypes.toList (v.resultList f.resultTypes.size) (s.fn H (ds ++ gs)).results [])
    (hargs : ∀ sp : Nat → Bool, (∀ p ∈ before, sp p.block = true) → DataW.TrodAll enc P W' 0 sp true f.params.toList args.toList (s.fn H (ds ++ gs)).args pa)
    (hvars : ∀ sp : Nat → Bool, (∀ p ∈ before, sp p.block = true) → DataW.TrodVars enc P W' sp s.vars (s.fn H (ds ++ gs)).vars pv)
    (hps : before = pa ++ pv) (hk : W.keptBut W' (· ∈ before)) (hfz : ∀ a : Addr, a.block < W.heap.size → W'.frozen? a = W.frozen? a)
    (hok : ∀ (j : Nat) (t : TypeId) (r : Value), f.resultTypes[j]? = some t → (v.resultList f.resultTypes.size)[j]? = some r → Value.okWide P W' .any 0 t r) :
    s.post enc P f apart fresh handsOn again W args v W' := by
  have hold : ∀ p ∈ before, (fun b => decide (b < W.heap.size)) p.block = true := fun p hp => by simpa using hW.lt p hp
  have hlt := hW.lt
  refine ⟨ds, gs, before, [], pa, pv, hW, hres _ _ _, hargs _ hold, hvars _ hold, World.keptBut_mono (fun p hp => ⟨hp, ?_⟩) hk, fun _ => ?_⟩
  · rw [hps, List.mem_append] at hp
    exact Or.inr hp
  · obtain ⟨_, _, _, _, _, hz, hn⟩ := hW
    refine ⟨hok, _, _, ([] ++ pa) ++ pv, ⟨[] ++ pa, pv, trodAll_append (hargs _ (fun _ _ => rfl)) (hres _ _ _), hvars _ (fun _ _ => rfl), rfl, ?_, ?_⟩, ?_⟩
    · intro b off hp
      have hp2 : MemPlace.cell b off ∈ before := by rw [hps]; simpa using hp
      rw [hfz _ (hlt _ hp2)]
      exact hz b off hp2
    · intro ha
      have := hn ha
      rw [hps] at this
      simpa using this
    · intro p hp _
      rw [hps]
      simpa using hp
/-- Arguments read again as they did. -/
theorem again {ts : List TypeId} {vs : List Value} {ds : List (DataW H)} {p : List MemPlace} {W' : World} (K : Kids P (· < P.types.size)) (full : ∀ t e, t < P.types.size → P.underlying t = some (.slice e) → 0 < P.cellsOf e) (hts : ∀ t ∈ ts, t < P.types.size)
    (hA : DataW.TrodAll enc P W 0 (fun _ => true) true ts vs ds p) (hb : Below W.heap.size W W') (hlt : ∀ q ∈ p, q.block < W.heap.size) (sp : Nat → Bool) (hs : ∀ q ∈ p, sp q.block = true) : DataW.TrodAll enc P W' 0 sp true ts vs ds p := by
  have hA' := DataW.TrodAll.respare K full hts hA hs
  clear hA hs hts
  induction ts generalizing vs ds p with
  | nil => match vs, ds, hA' with
    | [], [], h => exact h
  | cons t ts ih => match vs, ds, hA' with
    | v :: vs, d :: ds, ⟨p1, p2, ⟨n, h1⟩, h2, e⟩ =>
      subst e
      exact ⟨p1, p2, ⟨n, DataW.trod_carry n _ _ _ h1 fun q hq => hb.same (hlt q (List.mem_append_left _ hq))⟩, ih (fun q hq => hlt q (List.mem_append_right _ hq)) h2, rfl⟩
end
end Go.Ev
/- A law's arguments, as the evaluator's memory: structs, rows, and lists of lists. -/
namespace Go.Ev
open Go Go.ChangeShapes Go.WideShapes Go.ChangeAt Go.RowKit
section
variable {H : Type} {enc : TypeId × Value → H} {P : Program} {W : World}
/-- Fields one behind the other are the whole. -/
theorem lay_flat {n : Nat} : ∀ (fs : List Field) (off : Nat), layOk P off fs n = true → ∀ (cs : List Value), cs.length = n → (fs.map fun f => (cs.drop f.offset).take (P.cellsOf f.type)).flatten = cs.drop off := by
  intro fs
  induction fs with
  | nil =>
    intro off h cs hc
    have : off = n := Nat.eq_of_beq_eq_true h
    rw [List.drop_of_length_le (by omega)]; rfl
  | cons f fs ih =>
    intro off h cs hc
    simp only [layOk, Bool.and_eq_true] at h
    have h1 : f.offset = off := Nat.eq_of_beq_eq_true h.1
    rw [List.map_cons, List.flatten_cons, ih _ h.2 cs hc, h1, ← List.drop_drop, List.take_append_drop]
theorem lay_part {n : Nat} : ∀ (fs : List Field) (off : Nat), layOk P off fs n = true → ∀ (evs : List (List Value)), evs.length = fs.length → (∀ (i : Nat) f ev, fs[i]? = some f → evs[i]? = some ev → ev.length = P.cellsOf f.type) →
    ∀ (i : Nat) f ev, fs[i]? = some f → evs[i]? = some ev → off ≤ f.offset ∧ (evs.flatten.drop (f.offset - off)).take (P.cellsOf f.type) = ev := by
  intro fs
  induction fs with
  | nil => intro off _ evs _ _ i f ev hf; simp at hf
  | cons g fs ih =>
    intro off h evs hl hlen i f ev hf he
    simp only [layOk, Bool.and_eq_true] at h
    have h1 : g.offset = off := Nat.eq_of_beq_eq_true h.1
    rcases evs with _ | ⟨e0, evs⟩
    · simp at hl
    have hl0 : e0.length = P.cellsOf g.type := hlen 0 g e0 rfl rfl
    cases i with
    | zero =>
      simp at hf he
      subst hf he
      refine ⟨by omega, ?_⟩
      rw [h1, Nat.sub_self, List.drop_zero, List.flatten_cons, ← hl0, List.take_left]
    | succ i =>
      obtain ⟨g1, g2⟩ := ih _ h.2 evs (by simpa using hl) (fun i f ev a b => hlen (i + 1) f ev (by simpa using a) (by simpa using b)) i f ev (by simpa using hf) (by simpa using he)
      refine ⟨by omega, ?_⟩
      rw [List.flatten_cons, List.drop_append, List.drop_of_length_le (by omega), List.nil_append, show f.offset - off - e0.length = f.offset - (off + P.cellsOf g.type) by omega]
      exact g2
theorem lay_fit {n : Nat} : ∀ (fs : List Field) (off : Nat), layOk P off fs n = true → off ≤ n ∧ ∀ f ∈ fs, f.offset + P.cellsOf f.type ≤ n := by
  intro fs
  induction fs with
  | nil => intro off h; exact ⟨Nat.le_of_eq (Nat.eq_of_beq_eq_true h), fun f hf => by cases hf⟩
  | cons g fs ih =>
    intro off h
    simp only [layOk, Bool.and_eq_true] at h
    have h1 : g.offset = off := Nat.eq_of_beq_eq_true h.1
    obtain ⟨a, b⟩ := ih _ h.2
    refine ⟨by omega, fun f hf => ?_⟩
    rcases List.mem_cons.1 hf with rfl | hf
    · omega
    · exact b f hf
theorem build_struct {n : Nat} {fs : Array Field} {t : TypeId} (he : ∀ f ∈ fs.toList, Builds H enc P W n f.type) (hlay : layOk P 0 fs.toList (P.cellsOf t) = true) (hu : P.underlying t = some (.struct fs)) : Builds H enc P W (n + 1) t := by
  intro cs d ps h ι hp B
  have h : (if cs.length = P.cellsOf t then (fs.toList.mapM fun f => DataW.trod enc P W 0 (fun _ => true) true n f.type ((cs.drop f.offset).take (P.cellsOf f.type))).map fun xs => (DataW.agg (xs.map (·.1)), xs.flatMap (·.2)) else none) = some (d, ps) := by
    unfold DataW.trod at h
    rw [hu] at h
    exact h
  split at h
  · rename_i hc
    obtain ⟨xs, h1, h2⟩ := Option.map_eq_some_iff.1 h
    injection h2 with h2 _
    subst h2
    have l1 := Lib.mapM_length h1
    let l : List (TypeId × List Value × DataW H) := (fs.toList.zip (xs.map (·.1))).map fun p => (p.1.type, (cs.drop p.1.offset).take (P.cellsOf p.1.type), p.2)
    have hll : l.length = fs.toList.length := by simp [l, l1]
    have lget : ∀ i (hi : i < l.length), ∃ f x, fs.toList[i]? = some f ∧ xs[i]? = some x ∧ l[i] = (f.type, (cs.drop f.offset).take (P.cellsOf f.type), x.1) ∧ DataW.trod enc P W 0 (fun _ => true) true n f.type ((cs.drop f.offset).take (P.cellsOf f.type)) = some x := by
      intro i hi
      have hi1 : i < fs.toList.length := by omega
      have hi2 : i < xs.length := by omega
      obtain ⟨b, e1, e2⟩ := Lib.mapM_at h1 i _ (List.getElem?_eq_getElem hi1)
      rw [List.getElem?_eq_getElem hi2] at e1
      obtain rfl := Option.some.inj e1
      exact ⟨_, _, List.getElem?_eq_getElem hi1, List.getElem?_eq_getElem hi2, by simp [l], e2⟩
    obtain ⟨ι1, h3, evs, E1, B1, L1, V1, O1, D1⟩ := build_list l (fun p hpm => by
      obtain ⟨i, hi, rfl⟩ := List.getElem_of_mem hpm
      obtain ⟨f, x, a1, a2, a3, a4⟩ := lget i hi
      rw [a3]
      exact ⟨he f (List.mem_of_getElem? a1), _, a4⟩) ι hp B
    have hcells : l.map (·.2.1) = fs.toList.map fun f => (cs.drop f.offset).take (P.cellsOf f.type) := by
      refine List.ext_getElem (by simp [hll]) fun i hi hi' => ?_
      have hi3 : i < l.length := by simpa using hi
      obtain ⟨f, x, a1, a2, a3, a4⟩ := lget i hi3
      have hi4 : i < fs.toList.length := by omega
      have hf : fs.toList[i] = f := by rw [List.getElem?_eq_getElem hi4] at a1; exact Option.some.inj a1
      simp only [List.getElem_map]
      rw [a3, hf]
    rw [hcells, lay_flat fs.toList 0 hlay cs hc, List.drop_zero] at V1
    refine ⟨ι1, h3, evs.flatten, E1, B1, V1, O1, ?_⟩
    unfold DE
    rw [hu]
    have hlen : ∀ (i : Nat) f ev, fs.toList[i]? = some f → evs[i]? = some ev → ev.length = P.cellsOf f.type := by
      intro i f ev hf hev
      have hi : i < l.length := by have := (List.getElem?_eq_some_iff.1 hf).1; omega
      obtain ⟨ev', e1, e2, _⟩ := D1 i hi
      rw [hev] at e1
      obtain rfl := Option.some.inj e1
      obtain ⟨f', x, a1, a2, a3, a4⟩ := lget i hi
      rw [hf] at a1
      obtain rfl := Option.some.inj a1
      rw [← e2.1, a3]
      have hfit := (lay_fit fs.toList 0 hlay).2 f (List.mem_of_getElem? hf)
      show ((cs.drop f.offset).take (P.cellsOf f.type)).length = _
      rw [List.length_take, List.length_drop]; omega
    refine ⟨by rw [← V1.1]; exact hc, by simp [l1], fun i hi f hf => ?_⟩
    have hi2 : i < l.length := by simp at hi; omega
    obtain ⟨ev, e1, e2, e3⟩ := D1 i hi2
    obtain ⟨f', x, a1, a2, a3, a4⟩ := lget i hi2
    have hf' : fs.toList[i]? = some f := by rw [Array.getElem?_toList]; exact hf
    rw [hf'] at a1
    obtain rfl := Option.some.inj a1
    have := (lay_part fs.toList 0 hlay evs (by omega) hlen i f ev hf' e1).2
    rw [Nat.sub_zero] at this
    rw [this]
    rw [a3] at e3
    have hx : (xs.map (·.1))[i]'(by simpa using hi) = x.1 := by
      have hi3 : i < xs.length := by simpa using hi
      rw [List.getElem?_eq_getElem hi3] at a2
      obtain rfl := Option.some.inj a2
      simp
    rw [hx]; exact e3
  · cases h
/-- The parts of a struct. -/
theorem DE_struct {h : Hp} {n : Nat} {t : TypeId} {fs : Array Field} (hu : P.underlying t = some (.struct fs)) {cs : List Value} {d : DataW H} (hd : DE P h (n + 1) t cs d) :
    cs.length = P.cellsOf t ∧ ∀ (i : Nat) (f : Field), fs[i]? = some f → ∃ d' : DataW H, DE P h n f.type ((cs.drop f.offset).take (P.cellsOf f.type)) d' := by
  unfold DE at hd
  rw [hu] at hd
  split at hd
  all_goals first | (rename_i heq; cases heq; done) | skip
  · rename_i fs' parts heq
    injection heq with heq; injection heq with heq
    subst heq
    obtain ⟨h1, h2, h3⟩ := hd
    refine ⟨h1, fun i f hf => ?_⟩
    have hi : i < parts.length := by rw [h2]; exact (Array.getElem?_eq_some_iff.1 hf).1
    exact ⟨_, h3 i hi f hf⟩
  all_goals first | exact hd.elim | skip
end
end Go.Ev
/- A law's arguments, as the evaluator's memory: rows. -/
namespace Go.Ev
open Go Go.ChangeShapes Go.WideShapes Go.ChangeAt Go.RowKit
section
variable {H : Type} {enc : TypeId × Value → H} {P : Program} {W : World}
theorem row_flat {w : Nat} : ∀ (m : Nat) (cs : List Value), cs.length = m * w → ((List.range m).map fun i => (cs.drop (i * w)).take w).flatten = cs := by
  intro m
  induction m with
  | zero => intro cs h; rw [Nat.zero_mul] at h; rw [List.length_eq_zero_iff.1 h]; rfl
  | succ m ih =>
    intro cs h
    have e : cs = cs.take (m * w) ++ cs.drop (m * w) := (List.take_append_drop ..).symm
    have hm : (cs.take (m * w)).length = m * w := by rw [List.length_take, h, Nat.add_mul]; omega
    rw [List.range_succ, List.map_append, List.flatten_append]
    have e1 : ((List.range m).map fun i => (cs.drop (i * w)).take w) = (List.range m).map fun i => ((cs.take (m * w)).drop (i * w)).take w := by
      refine List.map_congr_left fun i hi => ?_
      have hi := List.mem_range.1 hi
      have : (i + 1) * w ≤ m * w := Nat.mul_le_mul_right w hi
      rw [Nat.add_mul] at this
      rw [List.drop_take, List.take_take, Nat.min_eq_left (by omega)]
    rw [e1, ih _ hm]
    simp only [List.map_cons, List.map_nil, List.flatten_cons, List.flatten_nil, List.append_nil]
    rw [List.take_of_length_le (l := cs.drop (m * w)) (by rw [List.length_drop, h, Nat.add_mul]; omega)]
    exact List.take_append_drop ..
theorem build_array {n m : Nat} {e t : TypeId} (he : Builds H enc P W n e) (hsz : P.cellsOf t = m * P.cellsOf e) (hu : P.underlying t = some (.array m e)) : Builds H enc P W (n + 1) t := by
  intro cs d ps h ι hp B
  have h : (if cs.length = P.cellsOf t then ((List.range m).mapM fun i => DataW.trod enc P W 0 (fun _ => true) true n e ((cs.drop (i * P.cellsOf e)).take (P.cellsOf e))).map fun xs => (DataW.agg (xs.map (·.1)), xs.flatMap (·.2)) else none) = some (d, ps) := by
    unfold DataW.trod at h
    rw [hu] at h
    exact h
  split at h
  · rename_i hc
    obtain ⟨xs, h1, h2⟩ := Option.map_eq_some_iff.1 h
    injection h2 with h2 _
    subst h2
    have l1 := Lib.mapM_length h1
    rw [List.length_range] at l1
    let l : List (TypeId × List Value × DataW H) := (List.range m).map fun i => (e, (cs.drop (i * P.cellsOf e)).take (P.cellsOf e), ((xs.map (·.1))[i]?).getD .nil)
    have hll : l.length = m := by simp [l]
    have lget : ∀ i (hi : i < l.length), ∃ x, xs[i]? = some x ∧ l[i] = (e, (cs.drop (i * P.cellsOf e)).take (P.cellsOf e), x.1) ∧ DataW.trod enc P W 0 (fun _ => true) true n e ((cs.drop (i * P.cellsOf e)).take (P.cellsOf e)) = some x := by
      intro i hi
      have hi1 : i < m := by omega
      have hi2 : i < xs.length := by omega
      obtain ⟨b, e1, e2⟩ := Lib.mapM_at h1 i i (by simp [hi1])
      rw [List.getElem?_eq_getElem hi2] at e1
      obtain rfl := Option.some.inj e1
      exact ⟨_, List.getElem?_eq_getElem hi2, by simp [l, hi2], e2⟩
    obtain ⟨ι1, h3, evs, E1, B1, L1, V1, O1, D1⟩ := build_list l (fun p hpm => by
      obtain ⟨i, hi, rfl⟩ := List.getElem_of_mem hpm
      obtain ⟨x, a2, a3, a4⟩ := lget i hi
      rw [a3]
      exact ⟨he, _, a4⟩) ι hp B
    have hcells : l.map (·.2.1) = (List.range m).map fun i => (cs.drop (i * P.cellsOf e)).take (P.cellsOf e) := by simp [l]
    rw [hcells, row_flat m cs (by rw [hc, hsz])] at V1
    refine ⟨ι1, h3, evs.flatten, E1, B1, V1, O1, ?_⟩
    unfold DE
    rw [hu]
    have hw : ∀ x ∈ evs, x.length = P.cellsOf e := by
      intro x hx
      obtain ⟨i, hi, rfl⟩ := List.getElem_of_mem hx
      obtain ⟨ev, e1, e2, _⟩ := D1 i (by omega)
      rw [List.getElem?_eq_getElem hi] at e1
      obtain rfl := Option.some.inj e1
      obtain ⟨x, a2, a3, a4⟩ := lget i (by omega)
      rw [← e2.1, a3]
      have : (i + 1) * P.cellsOf e ≤ m * P.cellsOf e := Nat.mul_le_mul_right _ (by omega)
      rw [Nat.add_mul] at this
      show ((cs.drop (i * P.cellsOf e)).take (P.cellsOf e)).length = _
      rw [List.length_take, List.length_drop, hc, hsz]; omega
    refine ⟨by rw [← V1.1]; exact hc, by simp [l1], fun i hi => ?_⟩
    have hi2 : i < l.length := by simp at hi; omega
    obtain ⟨ev, e1, e2, e3⟩ := D1 i hi2
    obtain ⟨x, a2, a3, a4⟩ := lget i hi2
    rw [(flat_row hw).2 i ev e1]
    rw [a3] at e3
    have hx : (xs.map (·.1))[i]'(by simpa using hi) = x.1 := by
      have hi3 : i < xs.length := by simpa using hi
      rw [List.getElem?_eq_getElem hi3] at a2
      obtain rfl := Option.some.inj a2
      simp
    rw [hx]; exact e3
  · cases h
/-- Cells are whole numbers of a kind, each in its range. -/
def AllInt (k : IntKind) (cs : List Value) : Prop := ∀ v ∈ cs, ∃ x, v = .int k x ∧ (Lit.int k x).wf = true
theorem AllInt.list {k : IntKind} : ∀ {cs : List Value}, AllInt k cs → ∃ xs : List Int, cs = xs.map (Value.int k) ∧ ∀ x ∈ xs, (Lit.int k x).wf = true := by
  intro cs
  induction cs with
  | nil => intro _; exact ⟨[], rfl, fun x h => by cases h⟩
  | cons v cs ih =>
    intro h
    obtain ⟨x, rfl, hx⟩ := h v (List.mem_cons_self ..)
    obtain ⟨xs, rfl, hxs⟩ := ih fun w hw => h w (List.mem_cons_of_mem _ hw)
    exact ⟨x :: xs, rfl, fun y hy => by
      rcases List.mem_cons.1 hy with rfl | hy
      · exact hx
      · exact hxs y hy⟩
theorem DE_allInt {h : Hp} {n : Nat} {t : TypeId} {k : IntKind} (hu : P.underlying t = some (.int k)) {cs : List Value} {d : DataW H} (hd : DE P h n t cs d) : AllInt k cs := by
  obtain ⟨x, rfl, hx⟩ := DE_int hu hd
  intro v hv
  exact ⟨x, List.mem_singleton.1 hv, hx⟩
/-- A row's cells are those of its parts. -/
theorem DE_array {h : Hp} {n m : Nat} {t e : TypeId} (hu : P.underlying t = some (.array m e)) (hsz : P.cellsOf t = m * P.cellsOf e) {k : IntKind} (he : ∀ n cs (d : DataW H), DE P h n e cs d → AllInt k cs) {cs : List Value} {d : DataW H} (hd : DE P h n t cs d) : cs.length = P.cellsOf t ∧ AllInt k cs := by
  cases n with
  | zero => exact hd.elim
  | succ n =>
    unfold DE at hd
    rw [hu] at hd
    split at hd
    all_goals first | (rename_i heq; cases heq; done) | skip
    · rename_i m' e' parts heq
      injection heq with heq; injection heq with h1 h2
      subst h1 h2
      obtain ⟨h1, h2, h3⟩ := hd
      refine ⟨h1, fun v hv => ?_⟩
      obtain ⟨j, hj, rfl⟩ := List.getElem_of_mem hv
      have hw : 0 < P.cellsOf e := by
        rcases Nat.eq_zero_or_pos (P.cellsOf e) with h0 | h0
        · rw [h1, hsz, h0] at hj; omega
        · exact h0
      have hi : j / P.cellsOf e < parts.length := by
        rw [h2]
        exact Nat.div_lt_of_lt_mul (by rw [Nat.mul_comm, ← hsz, ← h1]; exact hj)
      refine he _ _ _ (h3 _ hi) _ ?_
      have hmod := Nat.mod_lt j hw
      have hdm := Nat.div_add_mod j (P.cellsOf e)
      refine List.mem_iff_getElem?.2 ⟨j % P.cellsOf e, ?_⟩
      rw [List.getElem?_take_of_lt hmod, List.getElem?_drop, Nat.mul_comm, hdm, List.getElem?_eq_getElem hj]
    all_goals first | exact hd.elim | skip
theorem wf_rng {k : IntKind} {x : Int} (h : (Lit.int k x).wf = true) : k.min ≤ x ∧ x ≤ k.max := by
  have h : (decide (k.min ≤ x) && decide (x ≤ k.max)) = true := h
  simpa using h
end
end Go.Ev
namespace Go.Proofs.YtfgfhplgnfbaaaaDoor
open Go.Ev
theorem works_ev : saysTrue (evCall Tryd.prog 1000 100 27 [] h0) = true := by kernel_rfl
end Go.Proofs.YtfgfhplgnfbaaaaDoor
/- Two writes into one row are one append and one write. -/
namespace Go.Ev
open Go
theorem sc_get {w : World} {b o : Nat} {vs : List Value} {c : Array Value} {e : TypeId} {fr : Nat × Nat} (hb : w.heap[b]? = some (.cells c e fr)) (hl : o + vs.length ≤ c.size) :
    ∃ c2, (w.setCells b o vs).heap[b]? = some (.cells c2 e fr) ∧ c2.size = c.size ∧ ∀ i, c2[i]? = if o ≤ i ∧ i < o + vs.length then vs[i - o]? else c[i]? := by
  obtain ⟨_, _, _, _, _, s6⟩ := setCells_facts b vs o w
  obtain ⟨c2, h1, h2, h3⟩ := s6 _ _ _ hb
  exact ⟨c2, h1, h2, h3 hl⟩
/-- In place: what stands from the place on is moved up, then the value is laid. -/
theorem ins_shift {w : World} {b p i n : Nat} {x : Value} {cs : List Value} {c : Array Value} {e : TypeId} {fr : Nat × Nat} (hb : w.heap[b]? = some (.cells c e fr)) (hn : cs.length = n) (hi : i ≤ n) (hl : p + n + 1 ≤ c.size) :
    ((w.drew.setCells b (p + (i + 1)) (cs.drop i)).setCells b (p + i) [x]).heap = ((w.setCells b (p + n) [x]).setCells b (p + i) (x :: cs.drop i)).heap := by
  have hdl : (cs.drop i).length = n - i := by rw [List.length_drop, hn]
  have hbd : w.drew.heap[b]? = some (.cells c e fr) := hb
  obtain ⟨c1, a1, a2, a3⟩ := sc_get (o := p + (i + 1)) (vs := cs.drop i) hbd (by omega)
  obtain ⟨c2, b1, b2, b3⟩ := sc_get (o := p + i) (vs := [x]) a1 (by rw [a2]; show p + i + 1 ≤ _; omega)
  obtain ⟨c3, d1, d2, d3⟩ := sc_get (o := p + n) (vs := [x]) hb (by show p + n + 1 ≤ _; omega)
  obtain ⟨c4, e1, e2, e3⟩ := sc_get (o := p + i) (vs := x :: cs.drop i) d1 (by rw [d2, List.length_cons]; omega)
  refine Array.ext_getElem? fun q => ?_
  by_cases hq : q = b
  · subst hq
    rw [b1, e1]
    have : c2 = c4 := by
      refine Array.ext_getElem? fun j => ?_
      rw [b3, e3, a3, d3]
      simp only [List.length_cons, List.length_nil, hdl]
      by_cases h1 : j < p + i
      · rw [if_neg (by omega), if_neg (by omega), if_neg (by omega), if_neg (by omega)]
      · by_cases h2 : j = p + i
        · subst h2
          rw [if_pos (by omega), if_pos (by omega), Nat.sub_self]; rfl
        · by_cases h3 : j < p + n + 1
          · rw [if_neg (by omega), if_pos (by omega), if_pos (by omega)]
            have : j - (p + i) = (j - (p + (i + 1))) + 1 := by omega
            rw [this, List.getElem?_cons_succ]
          · rw [if_neg (by omega), if_neg (by omega), if_neg (by omega), if_neg (by omega)]
    rw [this]
  · obtain ⟨_, _, _, _, s5, _⟩ := setCells_facts b [x] (p + i) (w.drew.setCells b (p + (i + 1)) (cs.drop i))
    obtain ⟨_, _, _, _, t5, _⟩ := setCells_facts b (cs.drop i) (p + (i + 1)) w.drew
    obtain ⟨_, _, _, _, u5, _⟩ := setCells_facts b (x :: cs.drop i) (p + i) (w.setCells b (p + n) [x])
    obtain ⟨_, _, _, _, v5, _⟩ := setCells_facts b [x] (p + n) w
    rw [s5 q hq, t5 q hq, u5 q hq, v5 q hq]; rfl
/-- At the end: written twice is written once. -/
theorem ins_end {w : World} {b p : Nat} {x : Value} {c : Array Value} {e : TypeId} {fr : Nat × Nat} (hb : w.heap[b]? = some (.cells c e fr)) (hl : p + 1 ≤ c.size) :
    (w.setCells b p [x]).heap = ((w.setCells b p [x]).setCells b p [x]).heap := by
  obtain ⟨c3, d1, d2, d3⟩ := sc_get (o := p) (vs := [x]) hb hl
  obtain ⟨c4, e1, _, e3⟩ := sc_get (o := p) (vs := [x]) d1 (by rw [d2]; exact hl)
  refine Array.ext_getElem? fun q => ?_
  by_cases hq : q = b
  · subst hq
    rw [d1, e1]
    have : c3 = c4 := by
      refine Array.ext_getElem? fun j => ?_
      rw [e3, d3]
      split
      · rfl
      · rfl
    rw [this]
  · obtain ⟨_, _, _, _, u5, _⟩ := setCells_facts b [x] p (w.setCells b p [x])
    rw [u5 q hq]
/-- A new row. -/
theorem ins_grow {w : World} {i n : Nat} {x : Value} {cs : List Value} {Z1 Z2 : Array Value} {e : TypeId} (hn : cs.length = n) (hi : i ≤ n) (hz : Z1.size = n + 1 - i) :
    (((w.alloc (.cells ((cs.take i).toArray ++ Z1 ++ Z2) e)).drew.setCells w.heap.size i [x]).drew.setCells w.heap.size (i + 1) (cs.drop i)).heap = ((w.drew.alloc (.cells ((cs ++ [x]).toArray ++ Z2) e)).setCells w.heap.size i (x :: cs.drop i)).heap := by
  have hdl : (cs.drop i).length = n - i := by rw [List.length_drop, hn]
  have htl : (cs.take i).length = i := by rw [List.length_take, hn]; omega
  have hA : (w.alloc (.cells ((cs.take i).toArray ++ Z1 ++ Z2) e)).drew.heap[w.heap.size]? = some (.cells ((cs.take i).toArray ++ Z1 ++ Z2) e (0, 0)) := by
    show (w.alloc _).heap[w.heap.size]? = _
    rw [alloc_get, if_pos rfl]
  have hB : (w.drew.alloc (.cells ((cs ++ [x]).toArray ++ Z2) e)).heap[w.heap.size]? = some (.cells ((cs ++ [x]).toArray ++ Z2) e (0, 0)) := by
    rw [alloc_get]; exact if_pos rfl
  have sA : ((cs.take i).toArray ++ Z1 ++ Z2).size = n + 1 + Z2.size := by simp only [Array.size_append, List.size_toArray, htl, hz]; omega
  have sB : ((cs ++ [x]).toArray ++ Z2).size = n + 1 + Z2.size := by simp only [Array.size_append, List.size_toArray, List.length_append, hn, List.length_cons, List.length_nil]
  obtain ⟨c1, a1, a2, a3⟩ := sc_get (o := i) (vs := [x]) hA (by rw [sA]; show i + 1 ≤ _; omega)
  have a1 : ((w.alloc (.cells ((cs.take i).toArray ++ Z1 ++ Z2) e)).drew.setCells w.heap.size i [x]).drew.heap[w.heap.size]? = some (.cells c1 e (0, 0)) := a1
  obtain ⟨c2, b1, b2, b3⟩ := sc_get (o := i + 1) (vs := cs.drop i) a1 (by rw [a2, sA]; omega)
  obtain ⟨c4, e1, e2, e3⟩ := sc_get (o := i) (vs := x :: cs.drop i) hB (by rw [sB, List.length_cons]; omega)
  refine Array.ext_getElem? fun q => ?_
  by_cases hq : q = w.heap.size
  · subst hq
    rw [b1, e1]
    have : c2 = c4 := by
      refine Array.ext_getElem? fun j => ?_
      rw [b3, e3, a3]
      simp only [List.length_cons, List.length_nil, hdl]
      by_cases h1 : j < i
      · rw [if_neg (by omega), if_neg (by omega), if_neg (by omega)]
        rw [Array.append_assoc, Array.getElem?_append, if_pos (by simp only [List.size_toArray, htl]; exact h1), Array.getElem?_append, if_pos (by simp only [List.size_toArray, List.length_append, hn]; omega)]
        simp only [List.getElem?_toArray]
        rw [List.getElem?_take, if_pos h1, List.getElem?_append_left (by omega)]
      · by_cases h2 : j = i
        · subst h2
          rw [if_neg (by omega), if_pos (by omega), if_pos (by omega), Nat.sub_self]; rfl
        · by_cases h3 : j < n + 1
          · rw [if_pos (by omega), if_pos (by omega)]
            have : j - i = (j - (i + 1)) + 1 := by omega
            rw [this, List.getElem?_cons_succ]
          · rw [if_neg (by omega), if_neg (by omega), if_neg (by omega)]
            rw [Array.getElem?_append, if_neg (by simp only [Array.size_append, List.size_toArray, htl, hz]; omega), Array.getElem?_append, if_neg (by simp only [List.size_toArray, List.length_append, hn, List.length_cons, List.length_nil]; omega)]
            simp only [Array.size_append, List.size_toArray, htl, hz, List.length_append, hn, List.length_cons, List.length_nil]
            congr 1; omega
    rw [this]
  · obtain ⟨_, _, _, _, s5, _⟩ := setCells_facts w.heap.size (cs.drop i) (i + 1) ((w.alloc (.cells ((cs.take i).toArray ++ Z1 ++ Z2) e)).drew.setCells w.heap.size i [x]).drew
    obtain ⟨_, _, _, _, t5, _⟩ := setCells_facts w.heap.size [x] i (w.alloc (.cells ((cs.take i).toArray ++ Z1 ++ Z2) e)).drew
    obtain ⟨_, _, _, _, u5, _⟩ := setCells_facts w.heap.size (x :: cs.drop i) i (w.drew.alloc (.cells ((cs ++ [x]).toArray ++ Z2) e))
    rw [s5 q hq, u5 q hq]
    show ((w.alloc _).drew.setCells w.heap.size i [x]).heap[q]? = _
    rw [t5 q hq]
    show (w.alloc _).heap[q]? = _
    rw [alloc_get, if_neg hq, alloc_get]
    exact (if_neg hq).symm
end Go.Ev
/- slices.Insert of one whole number, answered beforehand: an append and a write. -/
namespace Go.Ev
open Go
/-- One number is put into a list that grows, at a place: what the evaluator's memory is behind it. -/
noncomputable def insV (h : Hp) (args : List Value) : Option (Value × Hp) := match args with
  | [s, .int .i64 (.ofNat i), .slice (some ⟨v, 0, none⟩) 1 1] => match h.get v with
    | some (.cells [x] 3 .fix) => bif flat x then (match s with
      | .slice none 0 0 => bif Nat.beq i 0 then (appSome h 3 8 1 s [x] 1).bind fun r => (writeAt r.2 h.nx i [x]).map fun h' => (r.1, h') else none
      | .slice (some ⟨o, 0, none⟩) n c => match h.get o with
        | some (.cells old 3 .grow) => bif Nat.beq c unk && Nat.beq n old.length && Nat.ble i n && !(Nat.beq o v) then
            (appSome h 3 8 1 s [x] 1).bind fun r => (writeAt r.2 h.nx i (x :: old.drop i)).map fun h' => (r.1, h')
          else none
        | _ => none
      | _ => none) else none
    | _ => none
  | _ => none
/-- A list that grows, and is full, is appended to at a new number. -/
theorem ins_app {h : Hp} {o : Nat} {old : List Value} {x : Value} (hg : h.get o = some (.cells old 3 .grow)) : appSome h 3 8 1 (.slice (some ⟨o, 0, none⟩) old.length unk) [x] 1 = (appNew h 3 8 old [x] (old.length + 1)).bind fun r => (r.2.put o none).map fun h' => (r.1, h') := by
  have e1 : Nat.ble (0 + (old.length + 1) * 1) old.length = false := by rw [Bool.eq_false_iff]; intro hh; have := Nat.le_of_ble_eq_true hh; omega
  have e2 : Nat.beq (0 + old.length * 1) old.length = true := by rw [Nat.zero_add, Nat.mul_one]; exact Nat.beq_refl _
  show (match h.get o with
    | some (.cells c e' m) =>
      bif Nat.beq unk unk then
        bif Nat.beq 3 e' && isGrow m then
          bif Nat.ble (0 + (old.length + 1) * 1) c.length then (writeAt h o (0 + old.length * 1) [x]).map fun h' => (Value.slice (some ⟨o, 0, none⟩) (old.length + 1) unk, h')
          else bif Nat.beq (0 + old.length * 1) c.length then (appNew h 3 8 (c.drop 0) [x] (old.length + 1)).bind fun r => (r.2.put o none).map fun h' => (r.1, h')
          else none
        else none
      else bif Nat.ble (old.length + 1) unk then (writeAt h o (0 + old.length * 1) [x]).map fun h' => (Value.slice (some ⟨o, 0, none⟩) (old.length + 1) unk, h')
      else (readAt h o 0 (old.length * 1)).bind fun old' => appNew h 3 8 old' [x] (old.length + 1)
    | _ => none) = _
  rw [hg]
  simp only [Nat.beq_refl, cond_true, e1, cond_false, e2, List.drop_zero, isGrow, Bool.and_self]
end Go.Ev
/- The oracle for slices.Insert is sound. -/
namespace Go.Ev
open Go Go.Shelf Go.Proofs
/-- A world with the same memory, reached with other draws. -/
theorem Went.world {P : Program} {h h' : Hp} {ι ι' : Inj} {w wB wC : World} (g : Went P h ι w h' ι' wB) (hh : wC.heap = wB.heap) (h1 : wC.os = wB.os) (h2 : wC.tape = wB.tape) (h3 : wC.output = wB.output) : Went P h ι w h' ι' wC :=
  { g with
    rh := g.rh.world hh
    fr := ⟨h2.trans g.fr.tape, h1.trans g.fr.os, h3.trans g.fr.output, by rw [hh]; exact g.fr.size, fun b hb hall => by rw [hh]; exact g.fr.rest b hb hall⟩ }
/-- What is written is there already. -/
theorem ins_same {w : World} {b p : Nat} {x : Value} {c : Array Value} {e : TypeId} {fr : Nat × Nat} (hb : w.heap[b]? = some (.cells c e fr)) (hx : c[p]? = some x) : (w.setCells b p [x]).heap = w.heap := by
  have hl := (Array.getElem?_eq_some_iff.1 hx).1
  obtain ⟨c3, d1, _, d3⟩ := sc_get (o := p) (vs := [x]) hb (by show p + 1 ≤ _; omega)
  refine Array.ext_getElem? fun q => ?_
  by_cases hq : q = b
  · subst hq
    rw [d1, hb]
    have : c3 = c := by
      refine Array.ext_getElem? fun j => ?_
      rw [d3]
      split
      · rename_i h
        have : j = p := by simp only [List.length_cons, List.length_nil] at h; omega
        rw [this, Nat.sub_self, hx]; rfl
      · rfl
    rw [this]
  · obtain ⟨_, _, _, _, u5, _⟩ := setCells_facts b [x] p w
    exact u5 q hq
theorem slu_inv {ι : Inj} {o n b off c : Nat} (h : VR ι (.slice (some ⟨o, 0, none⟩) (n + 1) unk) (.slice (some ⟨b, off, none⟩) (n + 1) c)) : ∃ vw, ι o = some vw ∧ vw.blk = b ∧ vw.base + 0 = off := by
  cases h with
  | flat hf => simp [flat, flatN] at hf
  | slc _ hne => exact absurd rfl hne
  | slu hvw1 _ _ => exact ⟨_, hvw1, rfl, rfl⟩
/-- The word that is to be shown. -/
def InsQ (P : Program) (ι : Inj) (h : Hp) (w : World) (h' : Hp) (rv : Value) : Ending → World → Prop := fun e w' => ∃ ι' v', e = .returned v' ∧ Went P h ι w h' ι' w' ∧ VR ι' rv v'
section
variable {P : Program} {ρ : Ren} (L : Lays2.n21 P ρ) (t3 : ρ.t 3 = 3) {T : TypeId} (t22 : ρ.t 22 = T)
include L t3 t22
theorem ins_ty : ∃ i0, P.info? 3 = some i0 ∧ i0.zero = some (.int .i64 0) ∧ i0.size = 1 ∧ i0.bytes = 8 ∧ P.underlying T = some (.slice 3) := by
  have _ := t22
  obtain ⟨i0, a, b, c, d⟩ := info_parts L.i3
  rw [t3] at a
  have h := L.t22
  rw [t22, t3] at h
  exact ⟨i0, a, b, c, d, h⟩
/-- No room: a new row, whatever stood there. -/
theorem ins_new {ι : Inj} {h h1 h' : Hp} {w : World} (R : RH P ι h w) {s : Value} {base : Option Addr} {n c0 v i : Nat} {old old' : List Value} {x rv : Value} (hn : old.length = n) (hi : i ≤ n) (hfl : flat x = true) (hone : one x = true)
    (hnil : base = none → n = 0 ∧ c0 = 0) (hnc : n ≤ c0) (hroom : c0 < n + 1) (hbig : (n + 1) * 8 ≤ 140737488355328)
    (hold : VRs ι old old') (honeO : ∀ u ∈ old', u.oneCell' = true) (hcs : ∀ a, base = some a → ∀ (j : Nat) u, old'[j]? = some u → w.cell? (a.add j) = some u) (hpl : i < n → ∃ b off, base = some ⟨b, off, none⟩)
    (hv : h.get v = some (.cells [x] 3 .fix)) {x' : Value} (hx : VR ι (.slice (some ⟨v, 0, none⟩) 1 1) x')
    (hs : VR ι s (.slice base n c0)) (happ : appSome h 3 8 1 s [x] 1 = some (rv, h1)) (hrv : rv = .slice (some ⟨h.nx, 0, none⟩) (n + 1) unk) (hw : writeAt h1 h.nx i (x :: old.drop i) = some h') :
    Calls P (ρ.f 21) #[.slice base n c0, .int .i64 (i : Nat), x'] w (InsQ P ι h w h' rv) := by
  obtain ⟨i0, hi0, hz0, hsz, hby, ht⟩ := ins_ty L t3 t22
  have hol : old'.length = n := by rw [hold.1, hn]
  obtain ⟨_, vwv, hvwv, _, cv, ev, frv, hbv, hcv, hfrv, _⟩ := R.live v _ hv
  obtain rfl : frv = (0, 0) := hfrv (by decide)
  have ex : x' = .slice (some ⟨vwv.blk, vwv.base + 0, none⟩) 1 1 := by
    cases hx with
    | flat hf => simp [flat, flatN] at hf
    | slc hvw _ => rw [hvw] at hvwv; rw [Option.some.inj hvwv]
  subst ex
  have hvx : ∀ (j : Nat) u, [x][j]? = some u → w.cell? ⟨vwv.blk, vwv.base + 0 + j, none⟩ = some u := fun j u hj => by
    obtain ⟨y, hy, hvy⟩ := hcv j u hj
    have hj0 : j = 0 := by have := (List.getElem?_eq_some_iff.1 hj).1; simpa using this
    subst hj0
    injection hj with hj
    subst hj
    obtain rfl := VR.of_flat hfl hvy
    simpa [World.cell?, hbv] using hy
  have h1v : ∀ u ∈ [x], u.oneCell' = true := fun u hu => by rw [List.mem_singleton.1 hu, one_eq]; exact hone
  have S : Src P i0.size T (.slice (some ⟨vwv.blk, vwv.base + 0, none⟩) 1 1) 1 [x] w := by
    rw [hsz]
    exact Src.ofSlice w ht ⟨vwv.blk, vwv.base + 0, none⟩ 1 1 [x] rfl (fun j u hj => by rw [Addr.add_lit]; exact hvx j u hj) h1v
  have hA := AppSrc.ofSrc ht hi0 hz0 S
  have happ' : appSome h 3 i0.bytes i0.size s [x] 1 = some (rv, h1) := by rw [hsz, hby]; exact happ
  obtain ⟨ι1, v1, w1, hrun, W1, V1⟩ := appSome_sound R ht hi0 hz0 (by rw [hsz]; decide) (by rw [hsz]; rfl) (n := 1) (by decide) hs (.of_flat (by rw [List.all_cons, hfl]; rfl)) (by rw [List.all_cons, hone]; rfl) hA happ' 22
  have hfc : (Builtin.firstCells i0.size n (.slice base n c0)).run P w.drew = .ok old'.toArray w.drew := by
    rw [hsz]
    cases base with
    | none =>
      obtain ⟨rfl, rfl⟩ := hnil rfl
      rw [List.length_eq_zero_iff.1 hol]
      exact run_firstCells_none w.drew 1 0 0 0
    | some a => exact run_firstCells_some w.drew 1 n a n c0 old' (by omega) (fun j u hj => hcs a rfl j u hj)
  have hgr := hA.grow Nat.one_pos 22 base n c0 old' hfc hroom (by omega) (by rw [hby]; exact growslice_fits hroom hbig)
  rw [hgr] at hrun
  injection hrun with e7 e8
  subst e7 e8
  subst hrv
  generalize hG : grownCap w (n + 1) c0 3 = G at V1 W1 hgr
  have hblk : (w.drew.alloc (.cells ((old' ++ [x]).toArray ++ Builtin.zeroCells (Value.int .i64 0).cells (G - (n + 1))) 3)).heap[w.heap.size]? = some (.cells ((old' ++ [x]).toArray ++ Builtin.zeroCells (Value.int .i64 0).cells (G - (n + 1))) 3 (0, 0)) := by
    rw [alloc_get]; exact if_pos rfl
  obtain ⟨vw1, hvw1, eb, eo⟩ := slu_inv V1
  have hcs' : VRs ι1 (x :: old.drop i) (x :: old'.drop i) := .cons (.flat hfl) ((hold.drop i).mono (W1.mono R))
  have W2 := Went.write W1.rh hw hvw1 hcs'
  rw [eb, show vw1.base + i = i by omega] at W2
  have W := W1.trans W2
  have h63 : G ≤ 9223372036854775807 := by
    have := grownCap_le_maxLen w (n + 1) c0 3 (by unfold maxLen; omega)
    rw [hG] at this
    unfold maxLen at this
    omega
  have fin : ∀ wC : World, wC.heap = ((w.drew.alloc (.cells ((old' ++ [x]).toArray ++ Builtin.zeroCells (Value.int .i64 0).cells (G - (n + 1))) 3)).setCells w.heap.size i (x :: old'.drop i)).heap → wC.os = w.os → wC.tape = w.tape → wC.output = w.output →
      InsQ P ι h w h' (.slice (some ⟨h.nx, 0, none⟩) (n + 1) unk) (.returned (.slice (some ⟨w.heap.size, 0, none⟩) (n + 1) G)) wC := fun wC q1 q2 q3 q4 => by
    obtain ⟨_, s2, s3, s4, _, _⟩ := setCells_facts w.heap.size (x :: old'.drop i) i (w.drew.alloc (.cells ((old' ++ [x]).toArray ++ Builtin.zeroCells (Value.int .i64 0).cells (G - (n + 1))) 3))
    exact ⟨ι1, _, rfl, W.world q1 (q2.trans s3.symm) (q3.trans s2.symm) (q4.trans s4.symm), V1⟩
  by_cases hin : i < n
  · obtain ⟨b, off, rfl⟩ := hpl hin
    refine (Any2.slices_Insert_int_grow L b off n c0 i vwv.blk (vwv.base + 0) 1 1 old' [x] w hin Nat.one_pos hnc hroom hbig hol rfl (fun j u hj => by have := hcs _ rfl j u hj; rwa [Addr.add_lit] at this) hvx honeO h1v).mono fun e w' ⟨he, hw'⟩ => ?_
    rw [t3, hG] at he hw'
    subst he hw'
    have hh := ins_grow (w := w) (i := i) (n := n) (x := x) (cs := old') (Z1 := Builtin.zeroCells (Value.int .i64 0).cells (n + 1 - i)) (Z2 := Builtin.zeroCells (Value.int .i64 0).cells (G - (n + 1))) (e := 3) hol hi (by simp [Builtin.zeroCells, Value.cells])
    have f1 := setCells_facts w.heap.size [x] i (w.alloc (.cells ((old'.take i).toArray ++ Builtin.zeroCells (Value.int .i64 0).cells (n + 1 - i) ++ Builtin.zeroCells (Value.int .i64 0).cells (G - (n + 1))) 3)).drew
    have f2 := setCells_facts w.heap.size (old'.drop i) (i + 1) ((w.alloc (.cells ((old'.take i).toArray ++ Builtin.zeroCells (Value.int .i64 0).cells (n + 1 - i) ++ Builtin.zeroCells (Value.int .i64 0).cells (G - (n + 1))) 3)).drew.setCells w.heap.size i [x]).drew
    exact fin _ hh (f2.2.2.1.trans f1.2.2.1) (f2.2.1.trans f1.2.1) (f2.2.2.2.1.trans f1.2.2.2.1)
  · obtain rfl : i = n := by omega
    refine (Any2.slices_Insert_int_end_grow L base i c0 vwv.blk (vwv.base + 0) 1 1 old' [x] w Nat.one_pos hnc hroom hbig hol rfl (fun h => (hnil h).1) hcs hvx h1v).mono fun e w' ⟨he, hw'⟩ => ?_
    rw [t3, hG] at he hw'
    subst he hw'
    refine fin _ ?_ rfl rfl rfl
    rw [List.drop_of_length_le (Nat.le_of_eq hol)]
    refine (ins_same hblk ?_).symm
    rw [Array.getElem?_append, if_pos (by simp only [List.size_toArray, List.length_append, hol, List.length_cons, List.length_nil]; omega), List.getElem?_toArray, List.getElem?_append_right (Nat.le_of_eq hol), hol, Nat.sub_self]
    rfl
/-- Into a list that grows, and has numbers. -/
theorem ins_some {ι : Inj} {h h1 h' : Hp} {w : World} (R : RH P ι h w) {o v i n : Nat} {old : List Value} (hn : n = old.length) {x s' x' rv : Value} (ho : h.get o = some (.cells old 3 .grow)) (hv : h.get v = some (.cells [x] 3 .fix)) (hov : o ≠ v) (hfl : flat x = true) (hone : one x = true) (hi : i ≤ old.length)
    (happ : appSome h 3 8 1 (.slice (some ⟨o, 0, none⟩) old.length unk) [x] 1 = some (rv, h1)) (hw : writeAt h1 h.nx i (x :: old.drop i) = some h')
    (hs : VR ι (.slice (some ⟨o, 0, none⟩) n unk) s') (hx : VR ι (.slice (some ⟨v, 0, none⟩) 1 1) x') :
    Calls P (ρ.f 21) #[s', .int .i64 (i : Nat), x'] w (InsQ P ι h w h' rv) := by
  obtain ⟨i0, hi0, hz0, hsz, hby, ht⟩ := ins_ty L t3 t22
  have hs1 : VR ι (.slice (some ⟨o, 0, none⟩) old.length unk) s' := hn ▸ hs
  have hsrc : srcCells h 1 (.slice (some ⟨v, 0, none⟩) 1 1) = some ([x], 1) := by
    show (readAt h v 0 (1 * 1)).map _ = _
    unfold readAt
    rw [hv]
    rfl
  obtain ⟨xs', hxs, S⟩ := src_sound (w := w) R hx (.inl ⟨3, ht⟩) hsrc (by rw [List.all_cons, hone]; rfl) (fun _ _ _ h => by cases h) (fun hh => by rw [ht] at hh; cases hh)
  have S' : Src P i0.size T x' 1 xs' w := by rw [hsz]; exact S
  have hA := AppSrc.ofSrc ht hi0 hz0 S'
  have happ' : appSome h 3 i0.bytes i0.size (.slice (some ⟨o, 0, none⟩) old.length unk) [x] 1 = some (rv, h1) := by rw [hsz, hby]; exact happ
  obtain ⟨ι1, v1, w1, hrun, W1, V1⟩ := appSome_sound R ht hi0 hz0 (by rw [hsz]; decide) (by rw [hsz]; rfl) (n := 1) (by decide) hs1 hxs (by rw [List.all_cons, hone]; rfl) hA happ' 22
  have happ0 := happ
  rw [ins_app ho] at happ
  obtain ⟨⟨r1, h2⟩, hnew, hput⟩ := Option.bind_eq_some_iff.1 happ
  obtain ⟨h3, hp, e3⟩ := Option.map_eq_some_iff.1 hput
  injection e3 with e3 e4
  subst e3 e4
  unfold appNew at hnew
  obtain ⟨hbig, hnew⟩ := cond_some hnew
  injection hnew with hnew
  injection hnew with e5 e6
  subst e5 e6
  rw [Bool.and_eq_true] at hbig
  have hb1 := Nat.le_of_ble_eq_true hbig.1
  obtain ⟨_, vwo, hvwo, hco, c', e'', fr, hb, hcells, hfr, hgr⟩ := R.live o _ ho
  obtain rfl : fr = (0, 0) := hfr (by decide)
  obtain ⟨g1, g2, g3, g4, g5⟩ := hgr rfl
  have hesz : vwo.esz = 1 := by
    have : sz P 3 = some 1 := by unfold sz; rw [hi0]; exact congrArg some hsz
    rw [this] at g2; exact (Option.some.inj g2).symm
  obtain ⟨_, vwv, hvwv, _, cv, ev, frv, hbv, hcv, hfrv, _⟩ := R.live v _ hv
  obtain rfl : frv = (0, 0) := hfrv (by decide)
  have hne : vwv.blk ≠ vwo.blk := fun hh => R.apart o v _ _ vwo vwv hov ho rfl hv hvwo hvwv hh.symm
  have hread : readAt h o 0 (old.length * 1) = some old := by
    unfold readAt
    rw [ho]
    simp only [List.drop_zero, Nat.mul_one, List.take_length, Nat.beq_refl, cond_true]
  obtain ⟨a, c0', old', es', q1, q2, q3⟩ := slice_cells (w := w) R hs1 hread
  have hxx : xs' = [x] := by
    obtain ⟨y, c, rfl, hy, hc⟩ := hxs.head
    obtain rfl := VR.of_flat hfl hy
    have : c = [] := List.length_eq_zero_iff.1 hc.1
    rw [this]
  subst hxx
  cases hs with
  | flat hf => simp [flat, flatN] at hf
  | slc _ hne' => exact absurd rfl hne'
  | @slu _ _ _ c0 vw hvw hcc hll =>
    rw [hvw] at hvwo
    obtain rfl := Option.some.inj hvwo
    subst hn
    injection es' with ea _ ec
    injection ea with ea
    subst ea ec
    have hc63 : c0 ≤ 9223372036854775807 := by rw [hesz] at hcc g5; omega
    have h1o : ∀ u ∈ old', u.oneCell' = true := fun u hu => by rw [one_eq]; exact List.all_eq_true.1 (q1.one hco) u hu
    by_cases hroom : old.length + 1 ≤ c0
    · have hsp : ∀ j, j < old.length + 1 → (w.cell? ⟨vw.blk, vw.base + 0 + j, none⟩).isSome = true := fun j hj => by
        have : vw.base + 0 + j < c'.size := by rw [← g1]; rw [hesz] at hcc; omega
        have e : w.cell? ⟨vw.blk, vw.base + 0 + j, none⟩ = c'[vw.base + 0 + j]? := by simp [World.cell?, hb]
        rw [e, Array.getElem?_eq_getElem this]; rfl
      have hfz : ∀ j, w.frozen? ⟨vw.blk, j, none⟩ = false := fun j => by simp [World.frozen?, hb]
      have hr1 := hA.room 22 vw.blk (vw.base + 0) old.length c0 hroom (fun j hj => by
        have : j = 0 := by simpa using hj
        subst this
        rw [hsz, Nat.mul_one, Nat.add_zero]
        exact hsp _ (by omega)) (fun j hj => hfz _)
      rw [hr1] at hrun
      injection hrun with e7 e8
      subst e7 e8
      rw [hsz, Nat.mul_one] at W1
      obtain ⟨vw1, hvw1, eb, eo⟩ := slu_inv V1
      have hq3 : old'.length = old.length := by rw [q2, Nat.mul_one]
      have hcs' : VRs ι1 (x :: old.drop i) (x :: old'.drop i) := .cons (.flat hfl) ((q1.drop i).mono (W1.mono R))
      have W2 := Went.write W1.rh hw hvw1 hcs'
      rw [eb, show vw1.base + i = vw.base + 0 + i by omega] at W2
      have W := W1.trans W2
      have fin : ∀ wC : World, wC.heap = ((w.setCells vw.blk (vw.base + 0 + old.length) [x]).setCells vw.blk (vw.base + 0 + i) (x :: old'.drop i)).heap → wC.os = w.os → wC.tape = w.tape → wC.output = w.output →
          InsQ P ι h w h' (.slice (some ⟨h.nx, 0, none⟩) (old.length + 1) unk) (.returned (.slice (some ⟨vw.blk, vw.base + 0, none⟩) (old.length + 1) c0)) wC := fun wC q1 q2 q3 q4 => by
        obtain ⟨_, s2, s3, s4, _, _⟩ := setCells_facts vw.blk (x :: old'.drop i) (vw.base + 0 + i) (w.setCells vw.blk (vw.base + 0 + old.length) [x])
        obtain ⟨_, r2, r3, r4, _, _⟩ := setCells_facts vw.blk [x] (vw.base + 0 + old.length) w
        exact ⟨ι1, _, rfl, W.world q1 (q2.trans (s3.trans r3).symm) (q3.trans (s2.trans r2).symm) (q4.trans (s4.trans r4).symm), V1⟩
      have ex : x' = .slice (some ⟨vwv.blk, vwv.base + 0, none⟩) 1 1 := by
        cases hx with
        | flat hf => simp [flat, flatN] at hf
        | slc hvw _ => rw [hvw] at hvwv; rw [Option.some.inj hvwv]
      subst ex
      have hvx : ∀ (j : Nat) u, [x][j]? = some u → w.cell? ⟨vwv.blk, vwv.base + 0 + j, none⟩ = some u := fun j u hj => by
        obtain ⟨y, hy, hvy⟩ := hcv j u hj
        have hj0 : j = 0 := by have := (List.getElem?_eq_some_iff.1 hj).1; simpa using this
        subst hj0
        injection hj with hj
        subst hj
        obtain rfl := VR.of_flat hfl hvy
        simpa [World.cell?, hbv] using hy
      have h1v : ∀ u ∈ [x], u.oneCell' = true := fun u hu => by rw [List.mem_singleton.1 hu, one_eq]; exact hone
      have hcells' : ∀ (j : Nat) u, old'[j]? = some u → w.cell? ⟨vw.blk, vw.base + 0 + j, none⟩ = some u := fun j u hj => by
        obtain ⟨y, hy⟩ : ∃ y, old[j]? = some y := by
          have := (List.getElem?_eq_some_iff.1 hj).1
          exact ⟨_, List.getElem?_eq_getElem (by omega)⟩
        have := q3 j u hj
        rwa [Addr.add_lit] at this
      by_cases hin : i < old.length
      · refine (Any2.slices_Insert_int_shift L vw.blk (vw.base + 0) old.length c0 i vwv.blk (vwv.base + 0) 1 1 old' [x] w hin Nat.one_pos hroom hc63 hne hq3 rfl hcells' hsp (fun j _ => hfz _) hvx h1o h1v ev e'' cv.size c'.size (by simp [World.shape?, hbv]) (by simp [World.shape?, hb]) (by rw [← g1]; rw [hesz] at hcc; omega) (by simp [World.frozen?, hbv]) (by simp [World.frozen?, hbv])).mono fun e w' ⟨he, hw'⟩ => ?_
        subst he hw'
        have hh := ins_shift (w := w) (b := vw.blk) (p := vw.base + 0) (i := i) (n := old.length) (x := x) (cs := old') hb hq3 hi (by rw [← g1]; rw [hesz] at hcc; omega)
        obtain ⟨_, s2, s3, s4, _, _⟩ := setCells_facts vw.blk [x] (vw.base + 0 + i) (w.drew.setCells vw.blk (vw.base + 0 + (i + 1)) (old'.drop i))
        obtain ⟨_, r2, r3, r4, _, _⟩ := setCells_facts vw.blk (old'.drop i) (vw.base + 0 + (i + 1)) w.drew
        exact fin _ hh (s3.trans r3) (s2.trans r2) (s4.trans r4)
      · obtain rfl : i = old.length := by omega
        refine (Any2.slices_Insert_int_end_room L vw.blk (vw.base + 0) old.length c0 vwv.blk (vwv.base + 0) 1 1 [x] w Nat.one_pos hroom hc63 rfl (fun j hj => by rw [Nat.add_assoc]; exact hsp _ (by omega)) (fun j _ => hfz _) hvx h1v).mono fun e w' ⟨he, hw'⟩ => ?_
        subst he hw'
        obtain ⟨_, r2, r3, r4, _, _⟩ := setCells_facts vw.blk [x] (vw.base + 0 + old.length) w
        refine fin _ ?_ r3 r2 r4
        rw [List.drop_of_length_le (Nat.le_of_eq hq3)]
        exact ins_end hb (by rw [← g1]; rw [hesz] at hcc; omega)
    · exact ins_new L t3 t22 R rfl hi hfl hone (fun hh => by cases hh) hll (by omega) (by omega) q1 h1o (fun a ha j u hj => by injection ha with ha; subst ha; exact q3 j u hj) (fun _ => ⟨_, _, rfl⟩) hv hx (.slu hvw hcc hll) happ0 rfl hw
  | sl0 hvw hcc =>
    have h0 : old = [] := List.length_eq_zero_iff.1 hn.symm
    subst h0
    obtain rfl : i = 0 := by simpa using hi
    exact ins_new L t3 t22 R (n := 0) (c0 := 0) (old := []) (old' := []) rfl (Nat.le_refl _) hfl hone (fun hh => by cases hh) (Nat.le_refl _) (by omega) (by omega) (.nil ι) (fun u hu => by cases hu) (fun a ha j u hj => by simp at hj) (fun hh => absurd hh (by omega)) hv hx (.sl0 hvw hcc) happ0 rfl hw
/-- Into the list that is nil. -/
theorem ins_nil {ι : Inj} {h h1 h' : Hp} {w : World} (R : RH P ι h w) {v : Nat} {x s' x' rv : Value} (hv : h.get v = some (.cells [x] 3 .fix)) (hfl : flat x = true) (hone : one x = true)
    (happ : appSome h 3 8 1 (.slice none 0 0) [x] 1 = some (rv, h1)) (hw : writeAt h1 h.nx 0 [x] = some h')
    (hs : VR ι (.slice none 0 0) s') (hx : VR ι (.slice (some ⟨v, 0, none⟩) 1 1) x') :
    Calls P (ρ.f 21) #[s', .int .i64 (0 : Nat), x'] w (InsQ P ι h w h' rv) := by
  obtain rfl := VR.of_flat (by rfl) hs
  have happ0 := happ
  have hnew : appNew h 3 8 [] [x] 1 = some (rv, h1) := happ
  unfold appNew at hnew
  obtain ⟨_, hnew⟩ := cond_some hnew
  injection hnew with hnew
  injection hnew with e5 e6
  exact ins_new L t3 t22 R (n := 0) (c0 := 0) (old := []) (old' := []) rfl (Nat.le_refl _) hfl hone (fun _ => ⟨rfl, rfl⟩) (Nat.le_refl _) (by omega) (by omega) (.nil ι) (fun u hu => by cases hu) (fun a ha => by cases ha) (fun hh => absurd hh (by omega)) hv hx hs happ0 e5.symm hw
/-- The oracle's word is true. -/
theorem ins_sound {ι : Inj} {h h' : Hp} {w : World} (R : RH P ι h w) {args args' : List Value} {rv : Value} (he : insV h args = some (rv, h')) (ha : VRs ι args args') : Calls P (ρ.f 21) args'.toArray w (InsQ P ι h w h' rv) := by
  unfold insV at he
  split at he
  · rename_i s i v
    obtain ⟨s', l1, rfl, hs, u1⟩ := ha.head
    obtain ⟨i', l2, rfl, hi', u2⟩ := u1.head
    obtain ⟨x', l3, rfl, hx, u3⟩ := u2.head
    obtain rfl := u3.of_nil
    obtain rfl := VR.of_flat (by rfl) hi'
    split at he
    · rename_i x hv
      obtain ⟨hfl, he⟩ := cond_some he
      have hone : one x = true := by
        obtain ⟨_, _, _, h1, _⟩ := R.live v _ hv
        simpa using h1
      split at he
      · obtain ⟨h0, he⟩ := cond_some he
        obtain rfl := Nat.eq_of_beq_eq_true h0
        obtain ⟨⟨r1, h1⟩, happ, he⟩ := Option.bind_eq_some_iff.1 he
        obtain ⟨h2, hw, e⟩ := Option.map_eq_some_iff.1 he
        injection e with e1 e2
        subst e1 e2
        exact ins_nil L t3 t22 R hv hfl hone happ hw hs hx
      · rename_i _ o n c _
        split at he
        · rename_i old ho
          obtain ⟨hc, he⟩ := cond_some he
          simp only [Bool.and_eq_true, Bool.not_eq_true'] at hc
          obtain ⟨⟨⟨c1, c2⟩, c3⟩, c4⟩ := hc
          obtain rfl := Nat.eq_of_beq_eq_true c1
          have c2 := Nat.eq_of_beq_eq_true c2
          have c3 := Nat.le_of_ble_eq_true c3
          have c4 : o ≠ v := fun hh => by rw [hh, Nat.beq_refl] at c4; cases c4
          obtain ⟨⟨r1, h1⟩, happ, he⟩ := Option.bind_eq_some_iff.1 he
          obtain ⟨h2, hw, e⟩ := Option.map_eq_some_iff.1 he
          injection e with e1 e2
          subst e1 e2
          exact ins_some L t3 t22 R c2 ho hv c4 hfl hone (by omega) (by rw [← c2]; exact happ) hw hs hx
        · cases he
      · cases he
    · cases he
  · cases he
end
end Go.Ev
/- slices.Insert at the numbers of this program. -/
namespace Go.Proofs.YtfgfhplgnfbaaaaDoor
open Go Go.Shelf
def ren21 : Go.Shelf.Ren := ⟨fun | 21 => 17 | 27 => 72 | 28 => 73 | 35 => 114 | 39 => 126 | n => n, fun | 22 => 32 | 3 => 3 | 4 => 4 | 0 => 0 | n => n, fun | n => n⟩
theorem lays21 : Go.Proofs.Lays2.n21 Tryd.prog ren21 := {
  mixed := by kernel_rfl
  f21 := Tryd.func17.trans (congrArg some (by kernel_rfl))
  f27 := Tryd.func72.trans (congrArg some (by kernel_rfl))
  f28 := Tryd.func73.trans (congrArg some (by kernel_rfl))
  f35 := Tryd.func114.trans (congrArg some (by kernel_rfl))
  f39 := Tryd.func126.trans (congrArg some (by kernel_rfl))
  t0 := Tryd.underlying0
  a0 := Tryd.isAgg0
  z0 := Tryd.sizeOf0
  v0 := Tryd.zeroValue0
  t3 := Tryd.underlying3
  a3 := Tryd.isAgg3
  z3 := Tryd.sizeOf3
  v3 := Tryd.zeroValue3
  t4 := Tryd.underlying4
  a4 := Tryd.isAgg4
  z4 := Tryd.sizeOf4
  v4 := Tryd.zeroValue4
  t22 := Tryd.underlying32
  a22 := Tryd.isAgg32
  z22 := Tryd.sizeOf32
  v22 := Tryd.zeroValue32
  i3 := by kernel_rfl }
end Go.Proofs.YtfgfhplgnfbaaaaDoor
/- 'works' is answered beforehand. -/
namespace Go.Proofs.YtfgfhplgnfbaaaaDoor
open Go Go.Ev
theorem h0_get (o : Nat) (x : Ob) (h : h0.get o = some x) : o = 0 ∧ x = .cells tab 0 .ro := by
  have h : (Tr.set (Tr.full none 64) 0 (some (Ob.cells tab 0 .ro))).get none o = some x := h
  rw [Tr.get_set] at h
  split at h
  · split at h
    · exact ⟨‹_›, (Option.some.inj h).symm⟩
    · cases h
  · rw [Tr.get_full] at h; cases h
theorem tab_flat : tab.all flat = true := by kernel_rfl
theorem tab_one : tab.all one = true := by kernel_rfl
/-- 'works' is true, wherever the table stands. -/
theorem works_calls {h : Hp} (_ : 0 < h.nx) (hh : h.get 0 = some (.cells tab 0 .ro)) {iota : Inj} {w : World} (R : RH Tryd.prog iota h w) : Calls Tryd.prog 27 #[] w fun e w' => e = .returned (.bool true) ∧ Went Tryd.prog h iota w h iota w' := by
  have hev := works_ev
  cases hr : evCall Tryd.prog 1000 100 27 [] h0 with
  | none => rw [hr] at hev; cases hev
  | some r =>
    obtain ⟨v, h1⟩ := r
    rw [hr] at hev
    obtain rfl : v = .bool true := by
      cases v with
      | bool b => have : b = true := hev; rw [this]
      | _ => cases hev
    exact closed_call mixed noNum (fn := Tryd.f27) (by decide) Tryd.func27 (by kernel_rfl) hr rfl rfl (fun o x ho => ⟨tab, 0, (h0_get o x ho).2, tab_flat⟩) (fun o x ho => by
      obtain ⟨rfl, rfl⟩ := h0_get o x ho
      exact ⟨hh, Nat.zero_lt_one⟩) (by rw [gsz]; exact Nat.le_refl _) R
def isTab : List Value → List Value → Bool
  | [], [] => true
  | .int .u8 a :: l, .int .u8 b :: r => eqI a b && isTab l r
  | _, _ => false
theorem isTab_eq : ∀ (l r : List Value), isTab l r = true → l = r := by
  intro l
  induction l with
  | nil => intro r h; cases r with
    | nil => rfl
    | cons => simp [isTab] at h
  | cons a l ih =>
    intro r h
    unfold isTab at h
    split at h
    · rename_i h2; cases h2
    · rename_i x l2 y r2 h2
      injection h2 with e1 e2
      subst e1 e2
      rw [Bool.and_eq_true, eqI_eq] at h
      rw [ih _ h.2, (by simpa using h.1 : x = y)]
    · cases h
/-- The calls that are answered beforehand: 'works', and slices.Insert of one number. -/
noncomputable def Ow : CallF := fun f args h => bif Nat.beq f 27 then (match args, h.get 0 with
  | [], some (.cells l 0 .ro) => bif Nat.blt 0 h.nx && isTab l tab then some (.bool true, h) else none
  | _, _ => none) else bif Nat.beq f 17 then insV h args else none
set_option maxRecDepth 100000 in
theorem Ow_ok : COk Tryd.prog Ow := by
  intro f args h v h' hs iota w args' R ha rd o a next Q hn
  unfold Ow at hs
  cases hf : Nat.beq f 27 with
  | false =>
    rw [hf, cond_false] at hs
    obtain ⟨h17, hs⟩ := cond_some hs
    obtain rfl : f = 17 := Nat.eq_of_beq_eq_true h17
    rw [run_callFunc noNum Tryd.func17 (by kernel_rfl) args'.toArray w]
    refine ⟨fun _ => ⟨fun h => (by cases h), calls_rd ((ins_sound lays21 (rfl : ren21.t 3 = 3) (rfl : ren21.t 22 = 32) R hs ha).mono fun e w' ⟨iota', v', he, g, hv⟩ => ?_)⟩, fun l hl => ?_⟩
    · subst he
      exact hn iota' v' w' g hv
    · exact absurd hl (Nat.ne_of_lt (Nat.lt_of_lt_of_le (by decide : 17 < yB) (Nat.le_add_right yB l)))
  | true =>
    obtain rfl : f = 27 := Nat.eq_of_beq_eq_true hf
    rw [hf, cond_true] at hs
    split at hs
    · rename_i l hg
      obtain ⟨ht, h2⟩ := cond_some hs
      rw [Bool.and_eq_true] at ht
      injection h2 with h2
      injection h2 with e1 e2
      subst e1 e2
      obtain rfl := isTab_eq _ _ ht.2
      obtain rfl := List.length_eq_zero_iff.1 ha.1
      rw [run_callFunc noNum Tryd.func27 (by kernel_rfl) ([] : List Value).toArray w]
      refine ⟨fun _ => ⟨fun h => (by cases h), calls_rd ((works_calls (by simpa using ht.1) hg R).mono fun e w' ⟨he, g⟩ => ?_)⟩, fun l hl => ?_⟩
      · subst he
        exact hn iota _ w' g (.flat rfl)
      · exact absurd hl (Nat.ne_of_lt (Nat.lt_of_lt_of_le (by decide : 27 < yB) (Nat.le_add_right yB l)))
    · cases hs
theorem Ow_oth (f : FuncId) (args : List Value) (h : Hp) (hf : f ≠ 27 ∧ f ≠ 17) : Ow f args h = none := by
  unfold Ow
  have h1 : Nat.beq f 27 = false := by rw [Bool.eq_false_iff]; intro hh; exact hf.1 (Nat.eq_of_beq_eq_true hh)
  have h2 : Nat.beq f 17 = false := by rw [Bool.eq_false_iff]; intro hh; exact hf.2 (Nat.eq_of_beq_eq_true hh)
  rw [h1, h2]; rfl
theorem Ow_ins {h : Hp} {args : List Value} {v : Value} {h' : Hp} (e : insV h args = some (v, h')) : EvC Tryd.prog Ow 17 args h v h' := ⟨0, e⟩
theorem tab_self : isTab tab tab = true := by kernel_rfl
theorem Ow_works {h : Hp} (hn : 0 < h.nx) (hh : h.get 0 = some (.cells tab 0 .ro)) : EvC Tryd.prog Ow 27 [] h (.bool true) h := by
  refine ⟨0, ?_⟩
  show Ow 27 [] h = _
  unfold Ow
  show (match ([] : List Value), h.get 0 with
    | [], some (.cells l 0 .ro) => bif Nat.blt 0 h.nx && isTab l tab then some (Value.bool true, h) else none
    | _, _ => none) = _
  rw [hh]
  simp only [tab_self, show Nat.blt 0 h.nx = true by simpa using hn, Bool.and_self, cond_true]
end Go.Proofs.YtfgfhplgnfbaaaaDoor
/- From the evaluator's word on a law of layer 20 to the kit's. -/
namespace Go.Proofs.YtfgfhplgnfbaaaaDoor
open Go Go.Ev Go.ChangeShapes Go.WideShapes Go.ChangeAt Go.RowKit
theorem own : ownKnob Tryd.prog.godebug = none := by kernel_rfl
theorem gTab : Tryd.prog.globalNamed "math/bits.deBruijn32tab" = some 0 := by kernel_rfl
theorem gTabType : (Tryd.prog.globals[0]?).map (·.type) = some 156 := by kernel_rfl
theorem cellsArr : Tryd.prog.cellsOf 156 = 32 := by kernel_rfl
theorem cellsOne : Tryd.prog.cellsOf 5 = 1 := by kernel_rfl
def nums : List Int := [0,1,28,2,29,14,24,3,30,22,20,15,25,17,4,8,31,27,13,23,21,19,16,7,26,12,18,6,11,5,10,9]
set_option maxRecDepth 100000 in
theorem kids : Kids Tryd.prog (· < Tryd.prog.types.size) := kids_rows (by kernel_rfl) (by kernel_rfl)
set_option maxRecDepth 100000 in
theorem full : ∀ t e, t < Tryd.prog.types.size → Tryd.prog.underlying t = some (.slice e) → 0 < Tryd.prog.cellsOf e := slices_full_of _ (by kernel_rfl)
theorem tab_cells {W : World} (h : Lib.TabIs Tryd.prog W "math/bits.deBruijn32tab" .u8 nums) : ∀ j x, tab[j]? = some x → W.cell? ⟨0, j, none⟩ = some x := by
  intro j x hj
  have hjl : j < 32 := (List.getElem?_eq_some_iff.1 hj).1
  have hn : j < nums.length := hjl
  have := h.cell gTab j hn
  rw [this]
  have e : tab = nums.map fun x => Value.int .u8 x := rfl
  rw [e, List.getElem?_map, List.getElem?_eq_getElem hn] at hj
  rw [List.getD_eq_getElem?_getD, List.getElem?_eq_getElem hn]
  exact hj
/-- The names at the start: the one package-level variable. -/
def iota0 : Inj := fun o => if o = 0 then some ⟨0, 0, 0, 0⟩ else none
theorem start_RH {W : World} (ht : ∀ j x, tab[j]? = some x → W.cell? ⟨0, j, none⟩ = some x) : RH Tryd.prog iota0 h0 W := by
  have h00 := ht 0 _ rfl
  have hblk : ∃ c e fr, W.heap[0]? = some (.cells c e fr) := by
    cases hb : W.heap[0]? with
    | none => simp [World.cell?, hb] at h00
    | some y =>
      cases y with
      | cells c e fr => exact ⟨c, e, fr, rfl⟩
      | _ => simp [World.cell?, hb] at h00
  obtain ⟨c, e, fr, hb⟩ := hblk
  refine ⟨fun o x ho => ?_, fun o q x y vo vq _ ho hx => ?_, fun o ho => if_neg (by have : 1 ≤ o := ho; omega), fun g hg => ?_, by rw [gsz]; exact Nat.le_refl _⟩
  · obtain ⟨rfl, rfl⟩ := h0_get o x ho
    refine ⟨Nat.zero_lt_one, ⟨0, 0, 0, 0⟩, rfl, tab_one, c, e, fr, hb, fun j x hx => ?_, fun h => absurd rfl h, fun h => by cases h⟩
    have := ht j x hx
    refine ⟨x, ?_, .flat (all_get tab_flat hx)⟩
    simpa [World.cell?, hb] using this
  · obtain ⟨rfl, rfl⟩ := h0_get o x ho
    cases hx
  · rw [gsz] at hg
    obtain rfl : g = 0 := by omega
    exact ⟨0, 0, rfl⟩
set_option maxRecDepth 100000 in
theorem h0_tab : h0.get 0 = some (.cells tab 0 .ro) := by kernel_rfl
set_option maxRecDepth 100000 in
theorem start_base {W : World} (ht : ∀ j x, tab[j]? = some x → W.cell? ⟨0, j, none⟩ = some x) : Base Tryd.prog iota0 h0 W :=
  ⟨start_RH ht, fun o x ho => by obtain ⟨rfl, rfl⟩ := h0_get o x ho; rfl, rfl, ⟨_, ⟨0, 0, 0, 0⟩, h0_tab, rfl, Nat.zero_lt_one, tab, 0, rfl⟩⟩
set_option maxRecDepth 100000 in
/-- A law that the evaluator finds true, wherever its arguments lie, is true. -/
theorem law_calls {H : Type} {enc : TypeId × Value → H} {f : FuncId} {fn : Func} (hf : Tryd.prog.funcs[f]? = some fn) (hb : fn.body.isSome = true) (h27 : f ≠ 27 ∧ f ≠ 17) {W : World} (ht : ∀ j x, tab[j]? = some x → W.cell? ⟨0, j, none⟩ = some x)
    {ts : List TypeId} {args : Array Value} {ds : List (DataW H)} {p : List MemPlace} (hA : DataW.TrodAll enc Tryd.prog W 0 (fun _ => true) true ts args.toList ds p) (hbd : ∀ t ∈ ts, ∀ n, Builds H enc Tryd.prog W n t) (hs : ∀ (i : Nat) t v, ts[i]? = some t → args.toList[i]? = some v → Shaped1 Tryd.prog t v)
    (hR : ∀ (h : Hp) (evs : List Value), Tb h → h.Ok → h.gd = [] → DEs Tryd.prog h ts evs ds → Ret Tryd.prog Ow f evs h fun v _ => v = .bool true) (hlt : f < yB := by decide) :
    Calls Tryd.prog f args W fun e W' => e = .returned (.bool true) ∧ Below W.heap.size W W' := by
  obtain ⟨ι, h, evs, E, B, V, D⟩ := args_build hA hbd hs iota0 h0 (start_base ht)
  have hg : h.gd = [] := B.gd
  have htb : Tb h := ⟨Nat.lt_of_lt_of_le Nat.zero_lt_one E.nx, by rw [E.get 0 Nat.zero_lt_one]; exact h0_tab⟩
  have hfr : h.Fresh := fun o ho => by
    cases ho2 : h.get o with
    | none => rfl
    | some x => have := (B.rh.live o x ho2).1; omega
  obtain ⟨v, h', he, rfl⟩ := hR h evs htb ⟨fun q hq => (by rw [hg] at hq; cases hq), hfr⟩ hg D
  have := calls_of_EvC mixed noNum Ow_ok hlt hf hb (Ow_oth f evs h h27) he B.rh V
  have e : args.toList.toArray = args := by simp
  rw [e] at this
  refine this.mono fun e W' ⟨ι', v', h1, h2, h3⟩ => ?_
  obtain rfl := VR.of_flat rfl h3
  exact ⟨h1, h2.fr.os, h2.fr.tape, h2.fr.output, h2.fr.size, fun k hk => h2.fr.rest k hk fun o x _ ho hx => by rw [B.ro o x ho] at hx; cases hx⟩
/-- A world for the witness: the table holds what its initialiser lays. -/
noncomputable def laidWorld (os : Os) : World :=
  { World.holding Tryd.prog os ⟨#[], #[], []⟩ with heap := (World.holding Tryd.prog os ⟨#[], #[], []⟩).heap.modify 0 fun
      | .cells _ t frozen => .cells tab.toArray t frozen
      | o => o }
end Go.Proofs.YtfgfhplgnfbaaaaDoor
/- SatForms of layer 20 returns true, for every input: its law, by the contracts of what it calls. -/
namespace Go.Proofs.YtfgfhplgnfbaaaaDoor
open Go Go.Ev
theorem works_true {h : Hp} (ht : Tb h) : EvT Ow 27 [] h (.bool true) h := Ow_works ht.1 ht.2
/-! ### arguments -/
section
variable {H : Type} {enc : TypeId × Value → H} {W : World}
theorem build0 (t : TypeId) : Builds H enc Tryd.prog W 0 t := fun cs d ps h => by simp [DataW.trod] at h
end
end Go.Proofs.YtfgfhplgnfbaaaaDoor
/- Arguments by numbers: how they lie in memory. -/
namespace Go.Proofs.YtfgfhplgnfbaaaaDoor
open Go Go.Ev Go.ChangeShapes Go.WideShapes Go.ChangeAt Go.RowKit
theorem und5 : Tryd.prog.underlying 5 = some (.int .u8) := by kernel_rfl
theorem und22 : Tryd.prog.underlying 22 = some (.int .i8) := by kernel_rfl
theorem und23 : Tryd.prog.underlying 23 = some (.array 3 22) := by kernel_rfl
theorem und24 : Tryd.prog.underlying 24 = some (.array 14 23) := by kernel_rfl
theorem sz23 : Tryd.prog.cellsOf 23 = 3 * Tryd.prog.cellsOf 22 := by kernel_rfl
theorem sz24 : Tryd.prog.cellsOf 24 = 14 * Tryd.prog.cellsOf 23 := by kernel_rfl
theorem n24 : Tryd.prog.cellsOf 24 = 42 := by kernel_rfl
theorem agg5 : aggT Tryd.prog 5 ≠ some true := by unfold aggT; rw [und5]; simp
theorem agg22 : aggT Tryd.prog 22 ≠ some true := by unfold aggT; rw [und22]; simp
section
variable {H : Type} {enc : TypeId × Value → H} {W : World}
theorem bld5 : ∀ n, Builds H enc Tryd.prog W n 5
  | 0 => build0 5
  | _ + 1 => build_int und5
theorem bld22 : ∀ n, Builds H enc Tryd.prog W n 22
  | 0 => build0 22
  | _ + 1 => build_int und22
theorem bld23 : ∀ n, Builds H enc Tryd.prog W n 23
  | 0 => build0 23
  | n + 1 => build_array (bld22 n) sz23 und23
theorem bld24 : ∀ n, Builds H enc Tryd.prog W n 24
  | 0 => build0 24
  | n + 1 => build_array (bld23 n) sz24 und24
theorem agg_of_list {v : Value} {l : List Value} (h : v.cells.toList = l) (hl : l.length ≠ 1) : v = .agg l.toArray := by
  cases v with
  | agg cs =>
    have h : cs.toList = l := h
    obtain ⟨k⟩ := cs
    have h : k = l := h
    rw [h]
  | _ => exact absurd (by rw [← h]; rfl) hl
theorem byte_of {h : Hp} {n : Nat} {cs : List Value} {d : DataW H} (D : DE Tryd.prog h n 5 cs d) : ∃ x : Nat, cs = [.int .u8 (Int.ofNat x)] ∧ x < 256 := by
  obtain ⟨x, e, hx⟩ := DE_int und5 D
  have := wf_rng hx
  have m1 : IntKind.min .u8 = 0 := rfl
  have m2 : IntKind.max .u8 = 255 := rfl
  obtain ⟨n, rfl⟩ : ∃ n : Nat, x = Int.ofNat n := ⟨x.toNat, by simp only [Int.ofNat_eq_natCast]; omega⟩
  exact ⟨n, e, by simp only [Int.ofNat_eq_natCast] at *; omega⟩
theorem n26 : Tryd.prog.cellsOf 26 = 44 := by kernel_rfl
theorem n5 : Tryd.prog.cellsOf 5 = 1 := by kernel_rfl
set_option maxRecDepth 100000 in
theorem bld26 : ∀ n, Builds H enc Tryd.prog W n 26
  | 0 => build0 26
  | n + 1 => build_struct (fun f hf => by
      simp at hf
      rcases hf with rfl | rfl | rfl
      · exact bld5 n
      · exact bld5 n
      · exact bld24 n) (by kernel_rfl) Tryd.underlying26
theorem int22 {h : Hp} : ∀ n cs (d : DataW H), DE Tryd.prog h n 22 cs d → AllInt .i8 cs := fun _ _ _ D => DE_allInt und22 D
theorem int23 {h : Hp} : ∀ n cs (d : DataW H), DE Tryd.prog h n 23 cs d → AllInt .i8 cs := fun _ _ _ D => (DE_array und23 sz23 int22 D).2
theorem i8_rng {x : Int} (h : (Lit.int .i8 x).wf = true) : -128 ≤ x ∧ x < 128 := by
  have := wf_rng h
  have m1 : IntKind.min .i8 = -128 := rfl
  have m2 : IntKind.max .i8 = 127 := rfl
  omega
set_option maxRecDepth 100000 in
/-- A puzzle. -/
theorem puz_of {h : Hp} {n : Nat} {v : Value} {d : DataW H} (D : DE Tryd.prog h n 26 v.cells.toList d) : ∃ vars many cl, v = .agg (puzV vars many cl).toArray ∧ PuzOk vars many cl := by
  cases n with
  | zero => exact D.elim
  | succ n =>
    obtain ⟨hl, hf⟩ := DE_struct Tryd.underlying26 D
    rw [n26] at hl
    obtain ⟨d0, D0⟩ := hf 0 _ rfl
    obtain ⟨d1, D1⟩ := hf 1 _ rfl
    obtain ⟨d2, D2⟩ := hf 2 _ rfl
    obtain ⟨x, e0, hx⟩ := byte_of D0
    obtain ⟨y, e1, hy⟩ := byte_of D1
    obtain ⟨l2, a2⟩ := DE_array und24 sz24 int23 D2
    obtain ⟨cl, e2, hcl⟩ := a2.list
    have e0 : (v.cells.toList.drop 0).take 1 = [.int .u8 (Int.ofNat x)] := by rw [← n5]; exact e0
    have e1 : (v.cells.toList.drop 1).take 1 = [.int .u8 (Int.ofNat y)] := by rw [← n5]; exact e1
    have e2 : (v.cells.toList.drop 2).take 42 = cl.map (Value.int .i8) := by rw [← n24]; exact e2
    have e : v.cells.toList = puzV x y cl := by
      generalize v.cells.toList = cs at *
      rcases cs with _ | ⟨a, _ | ⟨b, r⟩⟩
      · simp at hl
      · simp at hl
      · simp at e0 e1 e2
        rw [List.take_of_length_le (by simp at hl; omega)] at e2
        rw [e0, e1, e2]; rfl
    have lcl : cl.length = 42 := by
      have := congrArg List.length e
      rw [hl] at this
      simp [puzV] at this; omega
    exact ⟨x, y, cl, agg_of_list e (by simp [puzV, lcl]), hx, hy, lcl, fun z hz => i8_rng (hcl z hz)⟩
theorem small_of {h : Hp} {n : Nat} {cs : List Value} {d : DataW H} (D : DE Tryd.prog h n 22 cs d) : ∃ x, cs = [.int .i8 x] ∧ -128 ≤ x ∧ x < 128 := by
  obtain ⟨x, e, hx⟩ := DE_int und22 D
  exact ⟨x, e, i8_rng hx⟩
end
end Go.Proofs.YtfgfhplgnfbaaaaDoor
/- SatResolved of layer 20: the law. -/
namespace Go.Proofs.YtfgfhplgnfbaaaaDoor
open Go Go.Ev
abbrev Yes : Value → Hp → Prop := fun v _ => v = .bool true
end Go.Proofs.YtfgfhplgnfbaaaaDoor
/- Conditions of functions' code, printed by a program of ours. -/
namespace Go.Proofs.YtfgfhplgnfbaaaaDoor
open Go Go.Ev
set_option maxRecDepth 100000
set_option linter.unusedVariables false
/-! sward/swardlaw20.SatProofs -/
noncomputable def b10 : Code := (Tryd.f10.body).getD .skip
end Go.Proofs.YtfgfhplgnfbaaaaDoor
/- SatProofs of layer 20: its law. -/
namespace Go.Proofs.YtfgfhplgnfbaaaaDoor
open Go Go.Ev
section
variable {v0 : Array Value} {x1 x2 : Int} {N : Nat} (hN : 1 ≤ N ∧ N ≤ 8) {cls : List (List Int)} {gs : List Int} {pf : List (List Int)} (hcl : cls.length ≤ 14) (hc : ∀ l ∈ cls, Cv (Int.ofNat N) l) (hg : Cv (Int.ofNat N) gs) (hp : ∀ l ∈ pf, Cv (Int.ofNat N) l) (hpl : pf.length ≤ 2000) (hr : accF gs cls pf 0 = none) {L : List (List Int)} (hL : pf = L ++ [[]])
  {hB : Hp} (ok : hB.Ok) (ht : Tb hB) {b7 : Nat} (hb7 : b7 < hB.nx) {aF a8 aP : Option Addr} {nF cF n8 c8 nP cP : Nat} (g7 : hB.get b7 = some (.cells [.int .i64 (Int.ofNat N), .slice aF nF cF] 30 .fix)) (F : IntssAt hB aF nF cls) (G : IntsAt hB a8 n8 gs) (PL : IntssAt hB aP nP pf)
include hN hcl hc hg hp hpl hr hL ok ht hb7 g7 F G PL
end
end Go.Proofs.YtfgfhplgnfbaaaaDoor
/- SatProofs of layer 20: its law, joined. -/
namespace Go.Proofs.YtfgfhplgnfbaaaaDoor
open Go Go.Ev
theorem cv_len {N : Nat} {l : List Int} (h : Cv (Int.ofNat N) l) : l.length ≤ N := by
  rcases dif_len (N := N) (lo := 0) h.1 (fun x hx => by obtain ⟨h1, h2⟩ := h.2 x hx; have := h1.1; simp only [Int.ofNat_eq_natCast] at h2; omega) with h | h
  · omega
  · rw [h]; simp
end Go.Proofs.YtfgfhplgnfbaaaaDoor
