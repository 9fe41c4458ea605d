/- Contracts of functions of layer 20: the base of a formula. -/
import Derived.Test.YtfgfhplgnfbaaaaDoorYD
import Derived.Test.YtfgfhplgnfbaaaaDoorYC
namespace Go.Proofs.YtfgfhplgnfbaaaaDoor
open Go Go.Ev
def uu (p : Nat × Nat) : List Value := [U p.1, U p.2]
theorem uu_len (p : Nat × Nat) : (uu p).length = 2 := rfl
theorem uu_one (p : Nat × Nat) : (uu p).all one = true := rfl
abbrev SidesAt2 := SlAt 2 (ECells uu)
/-- The cells of a base. -/
def baseC (vars : Int) (a : Option Addr) (n c : Nat) (a1 : Option Addr) (n1 c1 : Nat) (left : Int) (a2 : Option Addr) (n2 c2 : Nat) : List Value := [.int .i64 vars, .slice a n c, .slice a1 n1 c1, .int .i64 left, .slice a2 n2 c2]
section
variable {O : CallF} (hO : Oth O)
include hO
theorem lp76 {a a1 : Option Addr} {n c n1 c1 : Nat} {vars : Int} {h₀ : Hp} {cls : List (List Int)} (ok : h₀.Ok) (H : IntssAt h₀ a n cls) (hl : cls.length < 10000) (hll : ∀ l ∈ cls, l.length < 1000000) (hlit : ∀ l ∈ cls, ∀ x ∈ l, Lit x) {x0 : Int} {a0 : Option Addr} {n0 c0 : Nat} :
    ∀ (d k : Nat), k + d = cls.length → ∀ {h : Hp} {a6 : Option Addr} {n6 c6 : Nat}, Kp h₀.nx h₀ h → h₀.nx + 2 ≤ h.nx → h.get (h₀.nx + 1) = some (.cells (baseC vars a6 n6 c6 a1 n1 c1 2000 none 0 0) 128 .fix) → Acc h (h₀.nx + 2) 130 2 a6 n6 c6 (((cls.take k).map sideN).flatMap uu) → n6 = k →
      I76_0 O (fun v h' => ∃ a6 n6 c6, v = .pointer (some ⟨h₀.nx + 1, 0, none⟩) ∧ h'.get (h₀.nx + 1) = some (.cells (baseC vars a6 n6 c6 a1 n1 c1 2000 none 0 0) 128 .fix) ∧ h₀.nx + 1 < h'.nx ∧ Acc h' (h₀.nx + 2) 130 2 a6 n6 c6 ((cls.map sideN).flatMap uu) ∧ Kp h₀.nx h₀ h') x0 a0 n0 c0 a1 n1 c1 (h₀.nx + 1) 0 a n c (Int.ofNat n) (Int.ofNat k) h := by
  have hn := H.1
  intro d
  induction d with
  | zero =>
    intro k hk h a6 n6 c6 kp hnx gb A hn6
    refine I76_0.of _ _ _ _ _ _ _ _ _ _ _ _ _ _ ?_
    intros
    unfold T76_0
    refine vcond_f (by rw [ltI_nat]; exact blt_f (by omega)) ?_
    rw [List.take_of_length_le (by omega)] at A
    exact ⟨_, _, _, rfl, gb, by omega, A, kp⟩
  | succ d ih =>
    intro k hk h a6 n6 c6 kp hnx gb A hn6
    refine I76_0.of _ _ _ _ _ _ _ _ _ _ _ _ _ _ ?_
    intros
    unfold T76_0
    have H1 : IntssAt h a n cls := H.up EInts.up kp
    refine vcond_t (by rw [ltI_nat]; exact blt_t (by omega)) (isNat_of (H1.get (k := k) (by omega) fun b off a' n' c' h1 h2 hrd Y => vreq_t (blt_t (by omega)) ⟨_, _, _, hrd, ?_⟩))
    have okh : h.Ok := ok.kp kp
    have gb1 : (h.rsv 12).get (h₀.nx + 1) = _ := gb
    have okg : ((h.rsv 12).grd [h₀.nx + 1]).Ok := (okh.rsv 12).grd fun q hq => by
      obtain rfl := List.mem_singleton.1 hq; rw [nx_rsv]; omega
    have Y1 : IntsAt ((h.rsv 12).grd [h₀.nx + 1]) a' n' cls[k] := Y.keep (fun _ _ _ => rfl) (by rw [nx_grd, nx_rsv]; omega) fun _ _ h => h
    obtain ⟨v2, h2', e2, rfl, K2⟩ := ct107 hO (hlit _ (List.getElem_mem _)) (hll _ (List.getElem_mem _)) okg Y1 (c := c')
    refine ⟨_, _, _, read1 gb1 (i := 0 + 1) rfl, _, _, _, e2, ?_⟩
    have K2' : Kp (h.nx + 12) (h.rsv 12) (h2'.rst (h.rsv 12)) := (Kp.refl (h.nx + 12) (h.rsv 12)).rst K2
    have K2h : Kp (h.nx + 12) h (h2'.rst (h.rsv 12)) := (Kp.refl (h.nx + 12) h).rsv 12 |>.trans K2'
    refine vreq_t (free_t (by rw [K2h.get _ (by omega)]; exact okh.fr _ (by omega))) ?_
    generalize hg2 : h2'.rst (h.rsv 12) = g2 at *
    have hnx2 : h.nx + 12 ≤ g2.nx := K2'.nx
    have K3 : Kp h.nx h (g2.lay (h.nx + 7) (.cells (uu (sideN cls[k])) 130 .fix)) := (K2h.le (by omega)).lay (by omega) (by omega) _
    have A3 : Acc (g2.lay (h.nx + 7) (.cells (uu (sideN cls[k])) 130 .fix)) (h₀.nx + 2) 130 2 a6 n6 c6 (((cls.take k).map sideN).flatMap uu) := A.kp K3 (Nat.le_refl _)
    have gdh : GdLt (g2.lay (h.nx + 7) (.cells (uu (sideN cls[k])) 130 .fix)) (h₀.nx + 2) := fun q hq => by
      have : q ∈ h₀.gd := by rw [← kp.gd, ← K3.gd]; exact hq
      have := ok.gd q this; omega
    obtain ⟨a9, n9, c9, h4', e4, A4, hn9, k4⟩ := app_enc uu_len uu_one app126 A3 (by rw [nx_lay]; omega) gdh (t := h.nx + 7) (c2 := 1) (m := .fix) (e2 := 130) (x := sideN cls[k]) (by rw [get_lay, if_pos rfl]) (by omega) (by unfold big; omega)
    refine ⟨a9, n9, c9, h4', e4, ?_⟩
    have ab : ∀ off, a6 ≠ some ⟨h₀.nx + 1, off, none⟩ := fun off e => by have := A.fresh e; omega
    have gb4 : h4'.get (h₀.nx + 1) = some (.cells (baseC vars a6 n6 c6 a1 n1 c1 2000 none 0 0) 128 .fix) := by
      rw [k4.get _ (by rw [nx_lay]; omega) (ab 0), K3.get _ (by omega)]; exact gb
    have gb4' : ((h4'.rst (g2.lay (h.nx + 7) (.cells (uu (sideN cls[k])) 130 .fix))).grd []).get (h₀.nx + 1) = some (.cells (baseC vars a6 n6 c6 a1 n1 c1 2000 none 0 0) 128 .fix) := gb4
    have gu : ((h4'.rst (g2.lay (h.nx + 7) (.cells (uu (sideN cls[k])) 130 .fix))).grd []).guarded (h₀.nx + 1) = false := guarded_of fun q hq => by
      have : q ∈ h₀.gd := by rw [← kp.gd, ← K3.gd]; exact hq
      have := ok.gd q this; omega
    refine vreq_t (canW_t gb4' (by decide) gu (by simp [baseC]) rfl) ?_
    rw [wrap_succ (by omega)]
    have Kf : Kp h₀.nx h₀ ((((h4'.rst (g2.lay (h.nx + 7) (.cells (uu (sideN cls[k])) 130 .fix))).grd []).wr (h₀.nx + 1) (0 + 1) [.slice a9 n9 c9]).rst (h4'.rst (g2.lay (h.nx + 7) (.cells (uu (sideN cls[k])) 130 .fix)))) := by
      have K4 : Kp h₀.nx h₀ h4' := (kp.trans (K3.le (by omega))).trans ((k4.kp A3 (by rw [nx_lay]; omega)).le (by omega))
      refine ⟨fun o ho => ?_, ?_, ?_, fun f => ?_⟩
      · rw [get_rst, wr_get_ne _ _ _ _ (by omega)]; exact K4.get o ho
      · rw [nx_rst, nx_wr]; exact K4.nx
      · rw [gd_rst, gd_rst, gd_lay]
        have := (kp.trans (K3.le (by omega : h₀.nx ≤ h.nx))).gd
        rw [gd_lay] at this; exact this
      · exact (show Hp.Fresh (((h4'.rst (g2.lay (h.nx + 7) (.cells (uu (sideN cls[k])) 130 .fix))).grd []).wr (h₀.nx + 1) (0 + 1) [.slice a9 n9 c9]) from Hp.Fresh.wr (h := (h4'.rst (g2.lay (h.nx + 7) (.cells (uu (sideN cls[k])) 130 .fix))).grd []) (K4.fr f) _ _ _)
    have hnx4 : (g2.lay (h.nx + 7) (.cells (uu (sideN cls[k])) 130 .fix)).nx ≤ h4'.nx := k4.nx
    rw [nx_lay] at hnx4
    refine ih (k + 1) (by omega) (a6 := a9) (n6 := n9) (c6 := c9) Kf (by rw [nx_rst, nx_wr, nx_grd, nx_rst]; omega) (by rw [get_rst]; exact (wr_get gb4' (by decide) gu (by simp [baseC]) rfl).trans rfl) ?_ (by omega) ..
    have e1 : cls.take (k + 1) = cls.take k ++ [cls[k]] := List.take_succ_eq_append_getElem (by omega)
    rw [e1, List.map_append]
    refine A4.keep (fun o ho e => ?_) (by rw [nx_rst, nx_wr, nx_grd, nx_rst]; omega)
    rw [get_rst, wr_get_ne _ _ _ _ (by have := A4.fresh e; omega)]; rfl
/-- The base of a formula and given literals. -/
def RBase (h : Hp) (vars : Int) (cls : List (List Int)) (a1 : Option Addr) (n1 c1 : Nat) (v : Value) (h' : Hp) : Prop :=
  ∃ b a6 n6 c6, v = .pointer (some ⟨b, 0, none⟩) ∧ h.nx ≤ b ∧ b < h'.nx ∧ h'.get b = some (.cells (baseC vars a6 n6 c6 a1 n1 c1 2000 none 0 0) 128 .fix) ∧ Acc h' (b + 1) 130 2 a6 n6 c6 ((cls.map sideN).flatMap uu) ∧ Kp h.nx h h'
theorem ct76 {a a1 : Option Addr} {n c n1 c1 : Nat} {vars : Int} {h : Hp} {cls : List (List Int)} (ok : h.Ok) (H : IntssAt h a n cls) (hl : cls.length < 10000) (hll : ∀ l ∈ cls, l.length < 1000000) (hlit : ∀ l ∈ cls, ∀ x ∈ l, Lit x) :
    Ret Tryd.prog O 76 [Fm vars a n c, .slice a1 n1 c1] h (RBase h vars cls a1 n1 c1) := by
  refine rk76 _ _ _ _ _ _ _ (hO _ _ _ (by decide)) ?_
  unfold T76
  have hn := H.1
  have kp := fm_kp h vars a n c
  have g := fm_get h vars a n c
  have g' : ((h.add (.cells [.int .i64 vars, .slice a n c] 30 .fix)).add (.cells (baseC vars none 0 0 a1 n1 c1 2000 none 0 0) 128 .fix)).get h.nx = some (.cells [.int .i64 vars, .slice a n c] 30 .fix) := by
    rw [get_add_ne (by rw [nx_add]; omega)]; exact g
  refine ⟨_, read1 g rfl, _, _, _, read1 g' rfl, ?_⟩
  have := lp76 hO ok H hl hll hlit (a1 := a1) (n1 := n1) (c1 := c1) (vars := vars) (x0 := vars) (a0 := a) (n0 := n) (c0 := c) (c := c) cls.length 0 (by omega) (h := (h.add (.cells [.int .i64 vars, .slice a n c] 30 .fix)).add (.cells (baseC vars none 0 0 a1 n1 c1 2000 none 0 0) 128 .fix)) (a6 := none) (n6 := 0) (c6 := 0) (kp.add (by rw [nx_add]; omega) _) (by rw [nx_add, nx_add]; omega) (get_add_same ..) (by simpa using Acc.nil ..) rfl
  refine RKL.mono (this ..) ?_
  rintro v h' ⟨a6, n6, c6, rfl, e1, e2, e3, e4⟩
  exact ⟨h.nx + 1, a6, n6, c6, rfl, by omega, e2, e1, e3, e4⟩
end
end Go.Proofs.YtfgfhplgnfbaaaaDoor
/- Contract of sat.Resolve. -/
namespace Go.Proofs.YtfgfhplgnfbaaaaDoor
open Go Go.Ev
/-- The truths of two clauses' literals but those of a variable, and whether they clash. -/
def rsF (v : Int) : List Int → Nat → Nat → Bool → Nat × Nat × Bool
  | [], y, m, q => (y, m, q)
  | x :: xs, y, m, q => if x = v ∨ x = -v then rsF v xs y m q else rsF v xs (withN y m x).1 (withN y m x).2 (q && decide ((withN y m x).1 &&& (withN y m x).2 = 0))
/-- The answer from them. -/
def fin38 (t : Nat × Nat × Bool) : List Int × Int := match t.2.2 with
  | true => (litsN t.1 t.2.1, 0)
  | false => ([], 7)
def resP (xs ys : List Int) (v : Int) : List Int × Int :=
  if clB 30 0 xs = false ∨ clB 30 0 ys = false ∨ v < 1 ∨ 30 < v then ([], 2)
  else if ¬ v ∈ xs ∨ ¬ (-v) ∈ ys then ([], 7)
  else fin38 (rsF v (xs ++ ys) 0 0 true)
/-- A list and an error. -/
def RPair (h : Hp) (r : List Int × Int) (v : Value) (h' : Hp) : Prop := ∃ a n c, v = .tuple #[.slice a n c, .int .i64 r.2] ∧ IntsAt h' a n r.1 ∧ Kp h.nx h h'
theorem RPair.none {h h' : Hp} {e : Int} (k : Kp h.nx h h') : RPair h ([], e) (.tuple #[.slice none 0 0, .int .i64 e]) h' := ⟨_, _, _, rfl, SlAt.nil .., k⟩
theorem withN_lt {y m : Nat} {x : Int} (hx : Lit x) (hy : y < 2 ^ 30) (hm : m < 2 ^ 30) : (withN y m x).1 < 2 ^ 30 ∧ (withN y m x).2 < 2 ^ 30 := by
  unfold withN
  split
  · exact ⟨Nat.or_lt_two_pow hy (bitN_lt hx), hm⟩
  · exact ⟨hy, Nat.or_lt_two_pow hm (bitN_lt hx)⟩
theorem clB_lit {vars : Int} : ∀ {xs : List Int} {last : Int}, 0 ≤ last → clB vars last xs = true → ∀ x ∈ xs, Lit x ∧ varI x ≤ vars := by
  intro xs
  induction xs with
  | nil => intro last _ _ x hx; cases hx
  | cons z zs ih =>
    intro last hl h x hx
    simp only [clB] at h
    split at h
    · cases h
    · rename_i hz
      have h0 : 0 < varI z := by omega
      rcases List.mem_cons.1 hx with rfl | hx
      · refine ⟨?_, by omega⟩
        unfold varI at h0
        unfold Lit
        split at h0
        · omega
        · split at h0 <;> omega
      · exact ih (by omega) h x hx
end Go.Proofs.YtfgfhplgnfbaaaaDoor
/- Contracts of functions of layer 20: models are held against formulas, and counted. -/
namespace Go.Proofs.YtfgfhplgnfbaaaaDoor
open Go Go.Ev
theorem EInts.grd {h : Hp} {g : List Nat} {x : List Int} {vs : List Value} (H : EInts h x vs) : EInts (h.grd g) x vs :=
  let ⟨a, n, c, h1, h2⟩ := H
  ⟨a, n, c, h1, h2.keep (fun _ _ _ => rfl) (Nat.le_refl _) fun _ _ h => h⟩
theorem IntssAt.grd {h : Hp} {g : List Nat} {a : Option Addr} {n : Nat} {xs : List (List Int)} (H : IntssAt h a n xs) : IntssAt (h.grd g) a n xs := H.keep (fun _ _ _ => rfl) (Nat.le_refl _) fun _ _ h => EInts.grd h
theorem BoolsAt.get {h : Hp} {a : Option Addr} {n : Nat} {xs : List Bool} (H : BoolsAt h a n xs) {k : Nat} (hk : k < xs.length) {K : Nat → Nat → Prop}
    (hK : ∀ b off, a = some ⟨b, off, none⟩ → b < h.nx → readAt h b (off + k * 1) 1 = some [.bool xs[k]] → K b off) : isAddr a K :=
  SlAt.read H hk fun b off vs h1 h2 h3 h4 => hK b off h1 h2 (by rw [h3, show vs = _ from h4])
/-- Two masks in a list. -/
theorem Sides.get {h : Hp} {a : Option Addr} {n : Nat} {xs : List (Nat × Nat)} (H : SidesAt2 h a n xs) {k : Nat} (hk : k < xs.length) {K : Nat → Nat → Prop}
    (hK : ∀ b off, a = some ⟨b, off, none⟩ → b < h.nx → readAt h b (off + k * 2) 2 = some [U xs[k].1, U xs[k].2] → K b off) : isAddr a K :=
  SlAt.read H hk fun b off vs h1 h2 h3 h4 => hK b off h1 h2 (by rw [h3, show vs = _ from h4]; rfl)
section
variable {O : CallF} (hO : Oth O)
include hO
theorem formB_lit {vars : Int} {cls : List (List Int)} (h : formB vars cls = true) : vars ≤ 30 ∧ 0 ≤ vars ∧ cls.length ≤ 120 ∧ (∀ l ∈ cls, ∀ x ∈ l, Lit x) ∧ ∀ l ∈ cls, clB vars 0 l = true := by
  have _ := hO
  unfold formB at h
  simp only [Bool.and_eq_true, Bool.not_eq_true', decide_eq_false_iff_not, List.all_eq_true] at h
  obtain ⟨⟨⟨h1, h2⟩, h3⟩, h4⟩ := h
  exact ⟨by omega, by omega, by omega, fun l hl x hx => (clB_lit (by decide) (h4 l hl) x hx).1, h4⟩
theorem sides_lt {cls : List (List Int)} (h : ∀ l ∈ cls, ∀ x ∈ l, Lit x) : ∀ p ∈ cls.map sideN, p.1 < 2 ^ 30 ∧ p.2 < 2 ^ 30 := by
  have _ := hO
  intro p hp
  obtain ⟨l, hl, rfl⟩ := List.mem_map.1 hp
  exact sideF_lt (h l hl) (by decide) (by decide)
end
end Go.Proofs.YtfgfhplgnfbaaaaDoor
/- Contracts of functions of layer 20: how many bits; propagation by masks. -/
namespace Go.Proofs.YtfgfhplgnfbaaaaDoor
open Go Go.Ev
/-- The table of counts. -/
def popT : ByteArray := ByteArray.mk #[0, 1, 1, 2, 1, 2, 2, 3, 1, 2, 2, 3, 2, 3, 3, 4, 1, 2, 2, 3, 2, 3, 3, 4, 2, 3, 3, 4, 3, 4, 4, 5, 1, 2, 2, 3, 2, 3, 3, 4, 2, 3, 3, 4, 3, 4, 4, 5, 2, 3, 3, 4, 3, 4, 4, 5, 3, 4, 4, 5, 4, 5, 5, 6, 1, 2, 2, 3, 2, 3, 3, 4, 2, 3, 3, 4, 3, 4, 4, 5, 2, 3, 3, 4, 3, 4, 4, 5, 3, 4, 4, 5, 4, 5, 5, 6, 2, 3, 3, 4, 3, 4, 4, 5, 3, 4, 4, 5, 4, 5, 5, 6, 3, 4, 4, 5, 4, 5, 5, 6, 4, 5, 5, 6, 5, 6, 6, 7, 1, 2, 2, 3, 2, 3, 3, 4, 2, 3, 3, 4, 3, 4, 4, 5, 2, 3, 3, 4, 3, 4, 4, 5, 3, 4, 4, 5, 4, 5, 5, 6, 2, 3, 3, 4, 3, 4, 4, 5, 3, 4, 4, 5, 4, 5, 5, 6, 3, 4, 4, 5, 4, 5, 5, 6, 4, 5, 5, 6, 5, 6, 6, 7, 2, 3, 3, 4, 3, 4, 4, 5, 3, 4, 4, 5, 4, 5, 5, 6, 3, 4, 4, 5, 4, 5, 5, 6, 4, 5, 5, 6, 5, 6, 6, 7, 3, 4, 4, 5, 4, 5, 5, 6, 4, 5, 5, 6, 5, 6, 6, 7, 4, 5, 5, 6, 5, 6, 6, 7, 5, 6, 6, 7, 6, 7, 7, 8]
def pt (k : Nat) : Nat := (byteI popT k).toNat
theorem pt_byte : ∀ k, k < 256 → byteI popT k = Int.ofNat (pt k) ∧ pt k ≤ 8 ∧ (pt k = 0 → k = 0) ∧ (pt k = 1 → k = 1 ∨ k = 2 ∨ k = 4 ∨ k = 8 ∨ k = 16 ∨ k = 32 ∨ k = 64 ∨ k = 128) := by decide +kernel
theorem pt_zero : pt 0 = 0 := by decide +kernel
/-- How many bits a number has. -/
def popN (x : Nat) : Nat := pt (x / 16777216) + pt (x / 65536 % 256) + pt (x / 256 % 256) + pt (x % 256)
theorem fdiv_nat (x n : Nat) : Int.fdiv (Int.ofNat x) (Int.ofNat n) = Int.ofNat (x / n) := by
  have := Int.fdiv_eq_ediv_of_nonneg (Int.ofNat x) (Int.natCast_nonneg n)
  exact this.trans rfl
theorem shr_nat (x : Nat) : shrF .u32 (Int.ofNat x) 24 = Int.ofNat (x / 16777216) ∧ shrF .u32 (Int.ofNat x) 16 = Int.ofNat (x / 65536) ∧ shrF .u32 (Int.ofNat x) 8 = Int.ofNat (x / 256) := ⟨fdiv_nat x 16777216, fdiv_nat x 65536, fdiv_nat x 256⟩
theorem land255 (x : Nat) : landI (Int.ofNat x) 255 = Int.ofNat (x % 256) := by
  show Int.ofNat (x &&& 255) = _
  rw [show x &&& 255 = x % 256 from Nat.and_two_pow_sub_one_eq_mod x 8]
theorem wrap8 {a b : Nat} (h : a + b < 256) : wrapF .u8 (Int.ofNat a + Int.ofNat b) = Int.ofNat (a + b) := by
  show Int.ofNat ((a + b) % 256) = _
  rw [Nat.mod_eq_of_lt h]
theorem popN_zero {x : Nat} (hx : x < 2 ^ 32) : popN x = 0 ↔ x = 0 := by
  unfold popN
  constructor
  · intro h
    have h1 := (pt_byte (x / 16777216) (by omega)).2.2.1 (by omega)
    have h2 := (pt_byte (x / 65536 % 256) (by omega)).2.2.1 (by omega)
    have h3 := (pt_byte (x / 256 % 256) (by omega)).2.2.1 (by omega)
    have h4 := (pt_byte (x % 256) (by omega)).2.2.1 (by omega)
    omega
  · rintro rfl; simp [pt_zero]
theorem popN_one {x : Nat} (hx : x < 2 ^ 32) : popN x = 1 ↔ ∃ i, i < 32 ∧ x = 2 ^ i := by
  constructor
  · unfold popN
    intro h
    obtain ⟨_, _, a1, b1⟩ := pt_byte (x / 16777216) (by omega)
    obtain ⟨_, _, a2, b2⟩ := pt_byte (x / 65536 % 256) (by omega)
    obtain ⟨_, _, a3, b3⟩ := pt_byte (x / 256 % 256) (by omega)
    obtain ⟨_, _, a4, b4⟩ := pt_byte (x % 256) (by omega)
    have pw : ∀ (k s : Nat), (k = 1 ∨ k = 2 ∨ k = 4 ∨ k = 8 ∨ k = 16 ∨ k = 32 ∨ k = 64 ∨ k = 128) → ∃ i, i < 8 ∧ k * 2 ^ s = 2 ^ (i + s) := by
      intro k s hk
      rcases hk with rfl | rfl | rfl | rfl | rfl | rfl | rfl | rfl
      · exact ⟨0, by omega, by rw [Nat.pow_add]⟩
      · exact ⟨1, by omega, by rw [Nat.pow_add]⟩
      · exact ⟨2, by omega, by rw [Nat.pow_add]⟩
      · exact ⟨3, by omega, by rw [Nat.pow_add]⟩
      · exact ⟨4, by omega, by rw [Nat.pow_add]⟩
      · exact ⟨5, by omega, by rw [Nat.pow_add]⟩
      · exact ⟨6, by omega, by rw [Nat.pow_add]⟩
      · exact ⟨7, by omega, by rw [Nat.pow_add]⟩
    have cases4 : (pt (x / 16777216) = 1 ∧ pt (x / 65536 % 256) = 0 ∧ pt (x / 256 % 256) = 0 ∧ pt (x % 256) = 0) ∨ (pt (x / 16777216) = 0 ∧ pt (x / 65536 % 256) = 1 ∧ pt (x / 256 % 256) = 0 ∧ pt (x % 256) = 0) ∨ (pt (x / 16777216) = 0 ∧ pt (x / 65536 % 256) = 0 ∧ pt (x / 256 % 256) = 1 ∧ pt (x % 256) = 0) ∨ (pt (x / 16777216) = 0 ∧ pt (x / 65536 % 256) = 0 ∧ pt (x / 256 % 256) = 0 ∧ pt (x % 256) = 1) := by omega
    rcases cases4 with ⟨h1, h2, h3, h4⟩ | ⟨h1, h2, h3, h4⟩ | ⟨h1, h2, h3, h4⟩ | ⟨h1, h2, h3, h4⟩
    · obtain ⟨i, hi, e⟩ := pw _ 24 (b1 h1)
      have := a2 h2; have := a3 h3; have := a4 h4
      exact ⟨i + 24, by omega, by rw [← e]; omega⟩
    · obtain ⟨i, hi, e⟩ := pw _ 16 (b2 h2)
      have := a1 h1; have := a3 h3; have := a4 h4
      exact ⟨i + 16, by omega, by rw [← e]; omega⟩
    · obtain ⟨i, hi, e⟩ := pw _ 8 (b3 h3)
      have := a1 h1; have := a2 h2; have := a4 h4
      exact ⟨i + 8, by omega, by rw [← e]; omega⟩
    · obtain ⟨i, hi, e⟩ := pw _ 0 (b4 h4)
      have := a1 h1; have := a2 h2; have := a3 h3
      exact ⟨i, by omega, by rw [← Nat.add_zero i, ← e]; omega⟩
  · rintro ⟨i, hi, rfl⟩
    clear hx
    revert i
    decide +kernel
section
variable {O : CallF} (hO : Oth O)
include hO
theorem ct138 {x : Nat} (hx : x < 2 ^ 32) {h : Hp} : Ret Tryd.prog O 138 [U x] h fun v h' => v = .int .i64 (Int.ofNat (popN x)) ∧ Kp h.nx h h' := by
  refine rk138 _ (hO _ _ _ (by decide)) ?_
  unfold T138
  obtain ⟨s1, s2, s3⟩ := shr_nat x
  rw [s1, s2, s3, land255, land255, land255]
  obtain ⟨p1, q1, _⟩ := pt_byte (x / 16777216) (by omega)
  obtain ⟨p2, q2, _⟩ := pt_byte (x / 65536 % 256) (by omega)
  obtain ⟨p3, q3, _⟩ := pt_byte (x / 256 % 256) (by omega)
  obtain ⟨p4, q4, _⟩ := pt_byte (x % 256) (by omega)
  refine isNat_of (vreq_t (blt_t (by omega)) (vreq_t (inD_of (by omega)) (isNat_of (vreq_t (blt_t (by omega)) (vreq_t (inD_of (by omega)) (isNat_of (vreq_t (blt_t (by omega)) (vreq_t (inD_of (by omega)) (isNat_of (vreq_t (blt_t (by omega)) ⟨?_, (Kp.refl _ h).rsv 19⟩))))))))))
  show Value.int .i64 (wrapF .i64 (wrapF .u8 (wrapF .u8 (wrapF .u8 (byteI popT (x / 16777216) + byteI popT (x / 65536 % 256)) + byteI popT (x / 256 % 256)) + byteI popT (x % 256)))) = _
  rw [p1, p2, p3, p4, wrap8 (by omega), wrap8 (by omega), wrap8 (by omega), wrap64 (by simp only [Int.ofNat_eq_natCast]; omega) (by simp only [Int.ofNat_eq_natCast]; omega)]
  rfl
/-! ### spread -/
omit hO in
/-- The first clause that is not true, and clashes, or has one open literal: none: there is none; none in it: it clashes; else the masks with the literal. -/
def stepS (y m : Nat) : List (Nat × Nat) → Option (Option (Nat × Nat))
  | [] => none
  | c :: cs => if (c.1 &&& y) ||| (c.2 &&& m) = 0 then
      (if popN ((c.1 - (c.1 &&& m)) ||| (c.2 - (c.2 &&& y))) = 0 then some none
      else if popN ((c.1 - (c.1 &&& m)) ||| (c.2 - (c.2 &&& y))) = 1 then some (some (y ||| (c.1 - (c.1 &&& m)), m ||| (c.2 - (c.2 &&& y))))
      else stepS y m cs) else stepS y m cs
/-- Clauses propagate, so many times at most. -/
def spreadF (ss : List (Nat × Nat)) : Nat → Nat → Nat → (Nat × Nat) × Bool
  | 0, y, m => ((y, m), true)
  | d + 1, y, m => match stepS y m ss with
    | none => ((y, m), true)
    | some none => ((y, m), false)
    | some (some p) => spreadF ss d p.1 p.2
structure InvS (h₀ : Hp) (b3 b4 : Nat) (y m : Nat) (h : Hp) : Prop where
  kp : Kp h₀.nx h₀ h
  l3 : b3 < h.nx
  l4 : b4 < h.nx
  g3 : h.get b3 = some (.cells [U y, U m] 102 .fix)
  g4 : h.get b4 = some (.cells [U 0, U 0] 102 .fix)
omit hO in
theorem InvS.of {h₀ : Hp} {b3 b4 y m : Nat} {h h' : Hp} (I : InvS h₀ b3 b4 y m h) (k : Kp h.nx h h') : InvS h₀ b3 b4 y m h' :=
  ⟨I.kp.trans (k.le I.kp.nx), Nat.lt_of_lt_of_le I.l3 k.nx, Nat.lt_of_lt_of_le I.l4 k.nx, by rw [k.get _ I.l3]; exact I.g3, by rw [k.get _ I.l4]; exact I.g4⟩
theorem lp119_1 {b : Nat} {x1 x2 : Int} {h₀ : Hp} (ok : h₀.Ok) {a : Option Addr} {n c : Nat} {ss : List (Nat × Nat)} (H : SidesAt2 h₀ a n ss) (hl : ss.length < 1000000) (hss : ∀ p ∈ ss, p.1 < 2 ^ 30 ∧ p.2 < 2 ^ 30) {b3 b4 : Nat} (hb3 : h₀.nx ≤ b3) (hb4 : h₀.nx ≤ b4) (h34 : b3 ≠ b4) {y m : Nat} (hy : y < 2 ^ 30) (hm : m < 2 ^ 30) {r : (Nat × Nat) × Bool}
    (r0 : stepS y m ss = none → r = ((y, m), true)) (r1 : stepS y m ss = some none → r = ((y, m), false))
    (r2 : ∀ p, stepS y m ss = some (some p) → ∀ h, InvS h₀ b3 b4 p.1 p.2 h → I119_0 O (fun v h' => v = .tuple #[.agg #[U r.1.1, U r.1.2], .bool r.2] ∧ Kp h₀.nx h₀ h') b 0 x1 x2 b3 0 b4 0 false h) :
    ∀ (d k : Nat), k + d = ss.length → stepS y m (ss.drop k) = stepS y m ss → ∀ {h : Hp}, InvS h₀ b3 b4 y m h →
      I119_1 O (fun v h' => v = .tuple #[.agg #[U r.1.1, U r.1.2], .bool r.2] ∧ Kp h₀.nx h₀ h') b 0 x1 x2 b3 0 b4 0 false a n c (Int.ofNat n) (Int.ofNat k) h := by
  have hn := H.1
  have gfree : ∀ {h : Hp}, Kp h₀.nx h₀ h → ∀ o, h₀.nx ≤ o → h.guarded o = false := fun k o ho => guarded_of fun q hq => by
    rw [k.gd] at hq
    have := ok.gd q hq; omega
  have fin : ∀ {h : Hp}, InvS h₀ b3 b4 y m h → (canW h b4 0 [U y, U m] = true) ∧ (h.wr b4 0 [U y, U m]).get b4 = some (.cells [U y, U m] 102 .fix) ∧ Kp h₀.nx h₀ (h.wr b4 0 [U y, U m]) := fun I =>
    ⟨canW_t I.g4 (by decide) (gfree I.kp _ hb4) (by simp) rfl, wr_get I.g4 (by decide) (gfree I.kp _ hb4) (by simp) rfl, I.kp.wr hb4 _ _⟩
  intro d
  induction d with
  | zero =>
    intro k hk hs h I
    refine I119_1.of _ _ _ _ _ _ _ _ _ _ _ _ _ _ ?_
    intros
    unfold T119_1
    rw [List.drop_of_length_le (by omega)] at hs
    obtain rfl := r0 (by rw [← hs]; rfl)
    obtain ⟨f1, f2, f3⟩ := fin I
    exact vcond_f (by rw [ltI_nat]; exact blt_f (by omega)) ⟨_, _, readAt_get I.g3 (by simp), vreq_t f1 ⟨_, _, readAt_get f2 (by simp), rfl, f3⟩⟩
  | succ d ih =>
    intro k hk hs h I
    refine I119_1.of _ _ _ _ _ _ _ _ _ _ _ _ _ _ ?_
    intros
    unfold T119_1
    have H1 : SidesAt2 h a n ss := H.up (ECells.up uu) I.kp
    have hp := hss ss[k] (List.getElem_mem _)
    have e1 : ss.drop k = ss[k] :: ss.drop (k + 1) := List.drop_eq_getElem_cons (by omega)
    rw [e1] at hs
    simp only [stepS] at hs
    have okh := ok.kp I.kp
    have gn : (h.add (.cells [(.int .u32 0), (.int .u32 0)] 130 .fix)).get h.nx = _ := get_add_same ..
    have gu : (h.add (.cells [(.int .u32 0), (.int .u32 0)] 130 .fix)).guarded h.nx = false := guarded_of fun q hq => by have := okh.gd q hq; omega
    refine vcond_t (by rw [ltI_nat]; exact blt_t (by omega)) (isNat_of (Sides.get H1 (k := k) (by omega) fun b' off h1 h2 hrd => vreq_t (blt_t (by omega)) ⟨_, _, hrd, vreq_t (canW_t gn (by decide) gu (by simp) rfl) ?_⟩))
    have gw := wr_get gn (by decide) gu (off := 0) (vs := [U ss[k].1, U ss[k].2]) (by simp) rfl
    have kw : Kp h.nx h ((h.add (.cells [(.int .u32 0), (.int .u32 0)] 130 .fix)).wr h.nx 0 [U ss[k].1, U ss[k].2]) := ((Kp.refl _ h).add (Nat.le_refl _) _).wr (Nat.le_refl _) _ _
    have gw : ((h.add (.cells [(.int .u32 0), (.int .u32 0)] 130 .fix)).wr h.nx 0 [U ss[k].1, U ss[k].2]).get h.nx = some (.cells [U ss[k].1, U ss[k].2] 130 .fix) := gw
    have nw : h.nx < ((h.add (.cells [(.int .u32 0), (.int .u32 0)] 130 .fix)).wr h.nx 0 [U ss[k].1, U ss[k].2]).nx := by rw [nx_wr, nx_add]; omega
    generalize ss[k] = cc at hp hs gw kw nw ⊢
    generalize (h.add (.cells [(.int .u32 0), (.int .u32 0)] 130 .fix)).wr h.nx 0 [U cc.1, U cc.2] = hw at gw kw nw ⊢
    have Iw := I.of kw
    have I12 := I.of (kw.rsv 12)
    have g12 : (hw.rsv 12).get h.nx = some (.cells [U cc.1, U cc.2] 130 .fix) := gw
    have l1 : cc.1 &&& y ≤ cc.1 := Nat.and_le_left
    have l2 : cc.2 &&& m ≤ cc.2 := Nat.and_le_left
    have l3 : cc.1 - (cc.1 &&& m) ≤ cc.1 := Nat.sub_le _ _
    have l4 : cc.2 - (cc.2 &&& y) ≤ cc.2 := Nat.sub_le _ _
    refine ⟨_, read1 gw (i := 0) rfl, _, read1 Iw.g3 (i := 0 + 0) rfl, vreq_t (inD_of (by omega)) (vreq_t (inD_of (by omega)) ⟨_, read1 gw (i := 1) rfl, _, read1 Iw.g3 (i := 0 + 1) rfl, vreq_t (inD_of (by omega)) (vreq_t (inD_of (by omega)) (vreq_t (by rw [land_nat]; exact inD_of (by omega)) (vreq_t (by rw [land_nat]; exact inD_of (by omega)) ?_)))⟩)⟩
    rw [land_nat, land_nat, lor_nat, wrap_succ (by omega)]
    refine vcond_split (fun h3 => ?_) fun h3 => ?_
    · have h3 : ¬ ((cc.1 &&& y) ||| (cc.2 &&& m) = 0) := fun hh => by rw [hh] at h3; exact absurd h3 (by decide)
      rw [if_neg h3] at hs
      exact ih (k + 1) (by omega) hs Iw ..
    have h3 : (cc.1 &&& y) ||| (cc.2 &&& m) = 0 := by
      have h3 : eqI (Int.ofNat ((cc.1 &&& y) ||| (cc.2 &&& m))) 0 = true := by simpa using h3
      exact Int.ofNat.inj (eq_of_t h3)
    rw [if_pos h3] at hs
    refine ⟨_, read1 g12 (i := 0) rfl, _, read1 I12.g3 (i := 0 + 1) rfl, vreq_t (inD_of (by omega)) (vreq_t (inD_of (by omega)) ⟨_, read1 g12 (i := 1) rfl, _, read1 I12.g3 (i := 0 + 0) rfl, vreq_t (inD_of (by omega)) (vreq_t (inD_of (by omega)) (vreq_t (by rw [andn_nat]; exact inD_of (by omega)) (vreq_t (by rw [andn_nat]; exact inD_of (by omega)) ?_)))⟩)⟩
    rw [andn_nat, andn_nat, lor_nat]
    have hz : (cc.1 - (cc.1 &&& m)) ||| (cc.2 - (cc.2 &&& y)) < 2 ^ 30 := Nat.or_lt_two_pow (by omega) (by omega)
    obtain ⟨v, h5, e5, rfl, K5⟩ := ct138 hO (x := (cc.1 - (cc.1 &&& m)) ||| (cc.2 - (cc.2 &&& y))) (by omega) (h := hw.rsv 12)
    have I5 := I12.of K5
    refine ⟨_, _, e5, vcond_split (fun h6 => ?_) fun h6 => ?_⟩
    · have h6 : popN ((cc.1 - (cc.1 &&& m)) ||| (cc.2 - (cc.2 &&& y))) = 0 := Int.ofNat.inj (eq_of_t h6)
      rw [if_pos h6] at hs
      obtain rfl := r1 hs.symm
      obtain ⟨f1, f2, f3⟩ := fin I5
      exact ⟨_, _, readAt_get I5.g3 (by simp), vreq_t f1 ⟨_, _, readAt_get f2 (by simp), rfl, f3⟩⟩
    have h6 : ¬ popN ((cc.1 - (cc.1 &&& m)) ||| (cc.2 - (cc.2 &&& y))) = 0 := fun hh => ne_of_f h6 (by rw [hh]; rfl)
    rw [if_neg h6] at hs
    refine vcond_split (fun h7 => ?_) fun h7 => ?_
    · have h7 : popN ((cc.1 - (cc.1 &&& m)) ||| (cc.2 - (cc.2 &&& y))) = 1 := Int.ofNat.inj (eq_of_t h7)
      rw [if_pos h7] at hs
      have gu5 := gfree I5.kp b3 hb3
      have c1 := canW_t I5.g3 (by decide) gu5 (off := 0 + 0) (vs := [U (y ||| (cc.1 - (cc.1 &&& m)))]) (by simp) rfl
      have w1 := wr_get I5.g3 (by decide) gu5 (off := 0 + 0) (vs := [U (y ||| (cc.1 - (cc.1 &&& m)))]) (by simp) rfl
      have k6 := I5.kp.wr hb3 (0 + 0) [U (y ||| (cc.1 - (cc.1 &&& m)))]
      have w1 : (h5.wr b3 (0 + 0) [U (y ||| (cc.1 - (cc.1 &&& m)))]).get b3 = some (.cells [U (y ||| (cc.1 - (cc.1 &&& m))), U m] 102 .fix) := w1
      have gu6 := gfree k6 b3 hb3
      have c2 := canW_t w1 (by decide) gu6 (off := 0 + 1) (vs := [U (m ||| (cc.2 - (cc.2 &&& y)))]) (by simp) rfl
      have w2 := wr_get w1 (by decide) gu6 (off := 0 + 1) (vs := [U (m ||| (cc.2 - (cc.2 &&& y)))]) (by simp) rfl
      refine ⟨_, read1 I5.g3 (i := 0 + 0) rfl, vreq_t (inD_of (by omega)) (vreq_t (inD_of (by omega)) (vreq_t (by rw [lor_nat]; exact c1) ?_))⟩
      rw [lor_nat]
      refine ⟨_, read1 w1 (i := 0 + 1) rfl, vreq_t (inD_of (by omega)) (vreq_t (inD_of (by omega)) (vreq_t (by rw [lor_nat]; exact c2) ?_))⟩
      rw [lor_nat]
      exact r2 _ hs.symm _ ⟨k6.wr hb3 _ _, by rw [nx_wr, nx_wr]; exact I5.l3, by rw [nx_wr, nx_wr]; exact I5.l4, w2, by rw [wr_get_ne _ _ _ _ (Ne.symm h34), wr_get_ne _ _ _ _ (Ne.symm h34)]; exact I5.g4⟩ ..
    · have h7 : ¬ popN ((cc.1 - (cc.1 &&& m)) ||| (cc.2 - (cc.2 &&& y))) = 1 := fun hh => ne_of_f h7 (by rw [hh]; rfl)
      rw [if_neg h7] at hs
      exact ih (k + 1) (by omega) hs I5 ..
end
end Go.Proofs.YtfgfhplgnfbaaaaDoor
/- Contracts of functions of layer 20: models are counted, by masks. -/
namespace Go.Proofs.YtfgfhplgnfbaaaaDoor
open Go Go.Ev
end Go.Proofs.YtfgfhplgnfbaaaaDoor
/- Contracts of functions of layer 20's reference: models are held against formulas. -/
namespace Go.Proofs.YtfgfhplgnfbaaaaDoor
open Go Go.Ev
theorem varI_lit2 {x : Int} (h : Lit x) : varI x = x.natAbs := by
  unfold varI
  rw [if_neg (by have := h.2; omega)]
  split <;> omega
/-- A literal's truth. -/
def tvR (ts : List Int) (x : Int) : Int := if x < 0 then -(ts.getD (-x).toNat 0) else ts.getD x.toNat 0
def satR (ts : List Int) (l : List Int) : Bool := l.any fun x => decide (0 < tvR ts x)
section
variable {O : CallF} (hO : Oth O)
include hO
theorem ct118 {a : Option Addr} {n c : Nat} {ts : List Int} {h : Hp} (H : IntsAt h a n ts) (ht : ∀ t ∈ ts, -1 ≤ t ∧ t ≤ 1) {x : Int} (hx : Lit x) (hx2 : x.natAbs < ts.length) : EvT O 118 [.slice a n c, .int .i64 x] h (.int .i64 (tvR ts x)) h := by
  refine EvC.of_ret (rk118 _ _ _ _ (hO _ _ _ (by decide)) ?_)
  unfold T118 tvR
  have hn := H.1
  have hl := hx.2
  refine vcond_split (fun h1 => ?_) fun h1 => ?_
  · have h1 := lt_of_t h1
    have e : wrapF .i64 (0 - x) = Int.ofNat (-x).toNat := by rw [wrap64 (by omega) (by omega)]; simp only [Int.ofNat_eq_natCast]; omega
    rw [e, if_pos h1]
    refine isNat_of (H.get (k := (-x).toNat) (by omega) fun b off _ _ hr => vreq_t (blt_t (by omega)) ⟨_, hr, ?_, rfl⟩)
    have := ht _ (List.getElem_mem (by omega : (-x).toNat < ts.length))
    rw [wrap64 (by omega) (by omega), List.getD_eq_getElem?_getD, List.getElem?_eq_getElem (by omega)]
    congr 1
    show 0 - _ = -_
    simp
  · have h1 := not_lt_of_f h1
    have e : x = Int.ofNat x.toNat := by simp only [Int.ofNat_eq_natCast]; omega
    rw [if_neg h1]
    have key : isNat (Int.ofNat x.toNat) (fun n5' => isAddr a fun b6' f7' => vreq (Nat.blt n5' n) (∃ x8' : Int, readAt h b6' (f7' + (n5' * 1)) 1 = some [(.int .i64 x8')] ∧ (Value.int .i64 x8' = .int .i64 (ts.getD x.toNat 0) ∧ h = h))) :=
      isNat_of (H.get (k := x.toNat) (by omega) fun b off _ _ hr => vreq_t (blt_t (by omega)) ⟨_, hr, by rw [List.getD_eq_getElem?_getD, List.getElem?_eq_getElem (by omega)]; rfl, rfl⟩)
    rw [← e] at key
    exact key
theorem lp86 {a a1 : Option Addr} {n c n1 c1 : Nat} {ts l : List Int} {h : Hp} (H : IntsAt h a n ts) (ht : ∀ t ∈ ts, -1 ≤ t ∧ t ≤ 1) (L : IntsAt h a1 n1 l) (hll : l.length < 1000000) (hl : ∀ x ∈ l, Lit x ∧ x.natAbs < ts.length) {Q : Value → Hp → Prop} :
    ∀ (d k : Nat), k + d = l.length → ∀ (q : Bool), Q (.bool (satR ts (l.drop k))) h → I86_0 O Q a n c a1 n1 c1 q (Int.ofNat k) h := by
  have hn := L.1
  intro d
  induction d with
  | zero =>
    intro k hk q hQ
    refine I86_0.of _ _ _ _ _ _ _ _ ?_
    intros
    unfold T86_0
    refine vcond_f (by rw [ltI_nat]; exact blt_f (by omega)) ?_
    rw [List.drop_of_length_le (by omega)] at hQ
    exact hQ
  | succ d ih =>
    intro k hk q hQ
    refine I86_0.of _ _ _ _ _ _ _ _ ?_
    intros
    unfold T86_0
    have hx := hl l[k] (List.getElem_mem _)
    refine vcond_t (by rw [ltI_nat]; exact blt_t (by omega)) (isNat_of (L.get (k := k) (by omega) fun b off _ _ hr => vreq_t (blt_t (by omega)) ⟨_, hr, _, _, ct118 hO H ht hx.1 hx.2, ?_⟩))
    have e1 : l.drop k = l[k] :: l.drop (k + 1) := List.drop_eq_getElem_cons (by omega)
    rw [e1] at hQ
    unfold satR at hQ
    rw [List.any_cons] at hQ
    refine vcond_split (fun h3 => ?_) fun h3 => ?_
    · rw [decide_eq_true (lt_of_t h3), Bool.true_or] at hQ; exact hQ
    · rw [decide_eq_false (not_lt_of_f h3), Bool.false_or] at hQ
      rw [wrap_succ (by omega)]
      exact ih (k + 1) (by omega) _ hQ ..
theorem ct86 {a a1 : Option Addr} {n c n1 c1 : Nat} {ts l : List Int} {h : Hp} (H : IntsAt h a n ts) (ht : ∀ t ∈ ts, -1 ≤ t ∧ t ≤ 1) (L : IntsAt h a1 n1 l) (hll : l.length < 1000000) (hl : ∀ x ∈ l, Lit x ∧ x.natAbs < ts.length) : EvT O 86 [.slice a n c, .slice a1 n1 c1] h (.bool (satR ts l)) h := by
  refine EvC.of_ret (rk86 _ _ _ _ _ _ (hO _ _ _ (by decide)) ?_)
  unfold T86
  exact lp86 hO H ht L hll hl l.length 0 (by omega) false ⟨rfl, rfl⟩ ..
end
end Go.Proofs.YtfgfhplgnfbaaaaDoor
/- Contracts of functions of layer 20's reference: models are counted, one by one. -/
namespace Go.Proofs.YtfgfhplgnfbaaaaDoor
open Go Go.Ev
end Go.Proofs.YtfgfhplgnfbaaaaDoor
/- Contract of the reference's Resolve. -/
namespace Go.Proofs.YtfgfhplgnfbaaaaDoor
open Go Go.Ev
end Go.Proofs.YtfgfhplgnfbaaaaDoor
/- The plain law: both texts resolve alike. -/
namespace Go.Proofs.YtfgfhplgnfbaaaaDoor
open Go Go.Ev
theorem clB_gt {vars : Int} : ∀ {xs : List Int} {last : Int}, clB vars last xs = true → ∀ z ∈ xs, last < varI z := by
  intro xs
  induction xs with
  | nil => intro last _ z hz; cases hz
  | cons x xs ih =>
    intro last h z hz
    simp only [clB] at h
    split at h
    · cases h
    · rename_i hx
      rcases List.mem_cons.1 hz with rfl | hz
      · omega
      · have := ih h z hz; omega
/-! ### the masks -/
theorem bitN_test {x : Int} (h : Lit x) (i : Nat) : (bitN x).testBit i = decide (x = (i + 1 : Nat) ∨ x = -(i + 1 : Nat)) := by
  unfold bitN
  rw [Nat.testBit_two_pow]
  have := h.1
  congr 1
  refine propext ⟨fun e => ?_, fun e => ?_⟩ <;> omega
theorem withN_test {y m : Nat} {x : Int} (h : Lit x) (i : Nat) : (withN y m x).1.testBit i = (y.testBit i || decide (x = (i + 1 : Nat))) ∧ (withN y m x).2.testBit i = (m.testBit i || decide (x = -(i + 1 : Nat))) := by
  have hb := bitN_test h i
  unfold withN
  split
  · rename_i hp
    refine ⟨by simp only [Nat.testBit_or, hb]; congr 2; exact propext ⟨fun e => by omega, .inl⟩, ?_⟩
    have : ¬ (x = -(i + 1 : Nat)) := by omega
    rw [decide_eq_false this, Bool.or_false]
  · rename_i hp
    refine ⟨?_, by simp only [Nat.testBit_or, hb]; congr 2; exact propext ⟨fun e => by omega, .inr⟩⟩
    have : ¬ (x = (i + 1 : Nat)) := by have := h.1; omega
    rw [decide_eq_false this, Bool.or_false]
theorem and_zero_iff (y m : Nat) : y &&& m = 0 ↔ ∀ i, ¬ (y.testBit i = true ∧ m.testBit i = true) := by
  constructor
  · intro h i ⟨a, b⟩
    have := congrArg (fun z => z.testBit i) h
    simp [Nat.testBit_and, a, b] at this
  · intro h
    refine Nat.eq_of_testBit_eq fun i => ?_
    rw [Nat.testBit_and]
    have := h i
    cases a : y.testBit i <;> cases b : m.testBit i <;> simp_all
/-! ### the reference's loop -/
end Go.Proofs.YtfgfhplgnfbaaaaDoor
/- The plain law of formulas: a model's masks and its values say the same; so do the counts. -/
namespace Go.Proofs.YtfgfhplgnfbaaaaDoor
open Go Go.Ev
theorem add_or : ∀ (n x y : Nat), x < 2 ^ n → x &&& y = 0 → x + y = x ||| y := by
  intro n
  induction n with
  | zero => intro x y hx _; have : x = 0 := by simpa using hx
            subst this; simp
  | succ n ih =>
    intro x y hx h
    have hd := ih (x / 2) (y / 2) (by rw [Nat.pow_succ] at hx; omega) (by rw [← Nat.and_div_two, h])
    have h0 := Nat.testBit_and x y 0
    rw [h, Nat.zero_testBit] at h0
    have t := Nat.testBit_or x y 0
    rw [Nat.testBit_zero, Nat.testBit_zero] at h0
    rw [Nat.testBit_zero, Nat.testBit_zero, Nat.testBit_zero] at t
    have e := Nat.or_div_two (a := x) (b := y)
    have e2 : (x ||| y) % 2 = (x % 2 + y % 2) := by
      rcases Nat.mod_two_eq_zero_or_one x with a | a <;> rcases Nat.mod_two_eq_zero_or_one y with b | b <;> rcases Nat.mod_two_eq_zero_or_one (x ||| y) with c | c <;> rw [a, b] at h0 t <;> rw [c] at t <;> simp at h0 t <;> omega
    omega
theorem testBit_andn (a b i : Nat) : (a - (a &&& b)).testBit i = (a.testBit i && !b.testBit i) := by
  have h : (a ^^^ (a &&& b)) &&& (a &&& b) = 0 := Nat.eq_of_testBit_eq fun i => by
    simp only [Nat.testBit_and, Nat.testBit_xor, Nat.zero_testBit]
    cases a.testBit i <;> cases b.testBit i <;> rfl
  have h2 := add_or _ _ _ (Nat.lt_two_pow_self) h
  have h3 : (a ^^^ (a &&& b)) ||| (a &&& b) = a := Nat.eq_of_testBit_eq fun i => by
    simp only [Nat.testBit_and, Nat.testBit_xor, Nat.testBit_or]
    cases a.testBit i <;> cases b.testBit i <;> rfl
  have h4 : a - (a &&& b) = a ^^^ (a &&& b) := by omega
  rw [h4]
  simp only [Nat.testBit_and, Nat.testBit_xor]
  cases a.testBit i <;> cases b.testBit i <;> rfl
theorem sideF_test : ∀ {L : List Int} {y m : Nat}, (∀ x ∈ L, Lit x) → ∀ i : Nat,
    (sideF L y m).1.testBit i = (y.testBit i || decide (((i + 1 : Nat) : Int) ∈ L)) ∧ (sideF L y m).2.testBit i = (m.testBit i || decide (-((i + 1 : Nat) : Int) ∈ L)) := by
  intro L
  induction L with
  | nil => intro y m _ i; simp [sideF]
  | cons x L ih =>
    intro y m hl i
    obtain ⟨h1, h2⟩ := ih (y := (withN y m x).1) (m := (withN y m x).2) (fun z hz => hl z (List.mem_cons_of_mem _ hz)) i
    obtain ⟨w1, w2⟩ := withN_test (y := y) (m := m) (hl x (List.mem_cons_self ..)) i
    simp only [sideF]
    rw [h1, h2, w1, w2, Bool.or_assoc, Bool.or_assoc]
    refine ⟨?_, ?_⟩ <;> · congr 1; simp only [List.mem_cons]; rw [← Bool.decide_or]; congr 1; refine propext (or_congr ⟨fun e => e.symm, fun e => e.symm⟩ Iff.rfl)
theorem or_zero_iff (y m : Nat) : y ||| m = 0 ↔ ∀ i, y.testBit i = false ∧ m.testBit i = false := by
  constructor
  · intro h i
    have := congrArg (fun z => z.testBit i) h
    simpa [Nat.testBit_or] using this
  · intro h
    refine Nat.eq_of_testBit_eq fun i => ?_
    obtain ⟨a, b⟩ := h i
    rw [Nat.testBit_or, a, b, Nat.zero_testBit]; rfl
end Go.Proofs.YtfgfhplgnfbaaaaDoor
/- Contracts of functions of layer 20: propagation by masks, to its end; what is given, and asked. -/
namespace Go.Proofs.YtfgfhplgnfbaaaaDoor
open Go Go.Ev
/-- How many variables are open. -/
def freeN (z : Nat) : Nat := ((List.range 30).filter fun i => !z.testBit i).length
theorem freeN_le (z : Nat) : freeN z ≤ 30 := Nat.le_trans (List.length_filter_le _ _) (by simp)
theorem filter_lt {α : Type} {p q : α → Bool} {a : α} : ∀ {l : List α}, a ∈ l → p a = true → q a = false → (∀ x, q x = true → p x = true) → (l.filter q).length < (l.filter p).length := by
  intro l
  induction l with
  | nil => intro h; cases h
  | cons x l ih =>
    intro h hp hq hi
    have hle : (l.filter q).length ≤ (l.filter p).length := by
      clear ih h
      induction l with
      | nil => exact Nat.le_refl _
      | cons y l ih =>
        rw [List.filter_cons, List.filter_cons]
        cases hy : q y with
        | true => rw [hi y hy]; simpa using ih
        | false => cases p y <;> simp <;> omega
    rw [List.filter_cons, List.filter_cons]
    rcases List.mem_cons.1 h with rfl | h
    · rw [hp, hq]; simp; omega
    · have := ih h hp hq hi
      cases hy : q x with
      | true => rw [hi x hy]; simpa using this
      | false => cases p x <;> simp <;> omega
theorem freeN_lt {z i : Nat} (hi : i < 30) (h : z.testBit i = false) : freeN (z ||| 2 ^ i) < freeN z := by
  refine filter_lt (a := i) (List.mem_range.2 hi) (by rw [h]; rfl) (by rw [Nat.testBit_or, Nat.testBit_two_pow]; simp) fun x hx => ?_
  rw [Nat.testBit_or] at hx
  cases hz : z.testBit x with
  | true => rw [hz] at hx; simp at hx
  | false => rfl
theorem stepS_unit {y m : Nat} {p : Nat × Nat} (hy : y < 2 ^ 30) (hm : m < 2 ^ 30) : ∀ {ss : List (Nat × Nat)}, (∀ c ∈ ss, c.1 < 2 ^ 30 ∧ c.2 < 2 ^ 30) → stepS y m ss = some (some p) →
    ∃ c ∈ ss, (c.1 &&& y) ||| (c.2 &&& m) = 0 ∧ p = (y ||| (c.1 - (c.1 &&& m)), m ||| (c.2 - (c.2 &&& y))) ∧ ∃ i, i < 30 ∧ (c.1 - (c.1 &&& m)) ||| (c.2 - (c.2 &&& y)) = 2 ^ i := by
  intro ss
  induction ss with
  | nil => intro _ h; cases h
  | cons c ss ih =>
    intro hs h
    have hc := hs c (List.mem_cons_self ..)
    simp only [stepS] at h
    have next : stepS y m ss = some (some p) → ∃ c' ∈ c :: ss, (c'.1 &&& y) ||| (c'.2 &&& m) = 0 ∧ p = (y ||| (c'.1 - (c'.1 &&& m)), m ||| (c'.2 - (c'.2 &&& y))) ∧ ∃ i, i < 30 ∧ (c'.1 - (c'.1 &&& m)) ||| (c'.2 - (c'.2 &&& y)) = 2 ^ i := fun h => by
      obtain ⟨c', a, b⟩ := ih (fun c hc => hs c (List.mem_cons_of_mem _ hc)) h
      exact ⟨c', List.mem_cons_of_mem _ a, b⟩
    split at h
    · rename_i h0
      split at h
      · cases h
      · split at h
        · rename_i h1
          have hz : (c.1 - (c.1 &&& m)) ||| (c.2 - (c.2 &&& y)) < 2 ^ 30 := Nat.or_lt_two_pow (Nat.lt_of_le_of_lt (Nat.sub_le _ _) hc.1) (Nat.lt_of_le_of_lt (Nat.sub_le _ _) hc.2)
          obtain ⟨i, hi, e⟩ := (popN_one (Nat.lt_of_lt_of_le hz (by decide))).1 h1
          refine ⟨c, List.mem_cons_self .., h0, by injection h with h; injection h with h; exact h.symm, i, ?_, e⟩
          rw [e] at hz
          exact (Nat.pow_lt_pow_iff_right (by decide)).1 hz
        · exact next h
    · exact next h
theorem stepS_free {y m : Nat} {p : Nat × Nat} (hy : y < 2 ^ 30) (hm : m < 2 ^ 30) {ss : List (Nat × Nat)} (hs : ∀ c ∈ ss, c.1 < 2 ^ 30 ∧ c.2 < 2 ^ 30) (h : stepS y m ss = some (some p)) : freeN (p.1 ||| p.2) < freeN (y ||| m) ∧ p.1 < 2 ^ 30 ∧ p.2 < 2 ^ 30 := by
  obtain ⟨c, hc, h0, rfl, i, hi, e⟩ := stepS_unit hy hm hs h
  have hc := hs c hc
  refine ⟨?_, Nat.or_lt_two_pow hy (Nat.lt_of_le_of_lt (Nat.sub_le _ _) hc.1), Nat.or_lt_two_pow hm (Nat.lt_of_le_of_lt (Nat.sub_le _ _) hc.2)⟩
  have e2 : (y ||| (c.1 - (c.1 &&& m))) ||| (m ||| (c.2 - (c.2 &&& y))) = (y ||| m) ||| 2 ^ i := by
    rw [← e]
    refine Nat.eq_of_testBit_eq fun j => ?_
    simp only [Nat.testBit_or]
    cases y.testBit j <;> cases m.testBit j <;> cases (c.1 - (c.1 &&& m)).testBit j <;> rfl
  rw [e2]
  refine freeN_lt hi ?_
  have hb := congrArg (fun z => z.testBit i) e
  have hz := (or_zero_iff _ _).1 h0 i
  simp only [Nat.testBit_or, testBit_andn, Nat.testBit_two_pow_self] at hb
  simp only [Nat.testBit_and] at hz
  rw [Nat.testBit_or]
  cases h1 : y.testBit i <;> cases h2 : m.testBit i <;> cases h3 : c.1.testBit i <;> cases h4 : c.2.testBit i <;> simp_all
section
variable {O : CallF} (hO : Oth O)
include hO
theorem lp119_0 {b : Nat} {x1 x2 : Int} {h₀ : Hp} (ok : h₀.Ok) {vars left : Int} {a a1 a2 : Option Addr} {n c n1 c1 n2 c2 : Nat} (hb : h₀.get b = some (.cells (baseC vars a n c a1 n1 c1 left a2 n2 c2) 128 .fix)) (hbn : b < h₀.nx) {ss : List (Nat × Nat)} (H : SidesAt2 h₀ a n ss) (hl : ss.length < 1000000) (hss : ∀ p ∈ ss, p.1 < 2 ^ 30 ∧ p.2 < 2 ^ 30) {b3 b4 : Nat} (hb3 : h₀.nx ≤ b3) (hb4 : h₀.nx ≤ b4) (h34 : b3 ≠ b4) {r : (Nat × Nat) × Bool} :
    ∀ (d : Nat) {y m : Nat}, y < 2 ^ 30 → m < 2 ^ 30 → freeN (y ||| m) < d → r = spreadF ss d y m → ∀ {h : Hp}, InvS h₀ b3 b4 y m h →
      I119_0 O (fun v h' => v = .tuple #[.agg #[U r.1.1, U r.1.2], .bool r.2] ∧ Kp h₀.nx h₀ h') b 0 x1 x2 b3 0 b4 0 false h := by
  intro d
  induction d with
  | zero => intro y m _ _ h; omega
  | succ d ih =>
    intro y m hy hm hd hr h I
    refine I119_0.of _ _ _ _ _ _ _ _ _ ?_
    intros
    unfold T119_0
    refine ⟨_, _, _, read1 (by rw [I.kp.get _ hbn]; exact hb) (i := 0 + 1) rfl, ?_⟩
    simp only [spreadF] at hr
    refine lp119_1 hO ok H hl hss hb3 hb4 h34 hy hm (fun h0 => by rw [h0] at hr; exact hr) (fun h1 => by rw [h1] at hr; exact hr) (fun p h2 h' I' => ?_) ss.length 0 (by omega) rfl I ..
    rw [h2] at hr
    obtain ⟨f1, f2, f3⟩ := stepS_free hy hm hss h2
    exact ih f2 f3 (by omega) hr I'
theorem ct119 {b : Nat} {h : Hp} (ok : h.Ok) {vars left : Int} {a a1 a2 : Option Addr} {n c n1 c1 n2 c2 : Nat} (hb : h.get b = some (.cells (baseC vars a n c a1 n1 c1 left a2 n2 c2) 128 .fix)) (hbn : b < h.nx) {ss : List (Nat × Nat)} (H : SidesAt2 h a n ss) (hl : ss.length < 1000000) (hss : ∀ p ∈ ss, p.1 < 2 ^ 30 ∧ p.2 < 2 ^ 30) {y m : Nat} (hy : y < 2 ^ 30) (hm : m < 2 ^ 30) :
    Ret Tryd.prog O 119 [.pointer (some ⟨b, 0, none⟩), .agg #[U y, U m]] h fun v h' => v = .tuple #[.agg #[U (spreadF ss 31 y m).1.1, U (spreadF ss 31 y m).1.2], .bool (spreadF ss 31 y m).2] ∧ Kp h.nx h h' := by
  refine rk119 _ _ _ _ (hO _ _ _ (by decide)) ?_
  unfold T119
  have hf := freeN_le (y ||| m)
  refine lp119_0 hO ok hb hbn H hl hss (Nat.le_refl _) (show h.nx ≤ h.nx + 1 by omega) (show h.nx ≠ h.nx + 1 by omega) 31 hy hm (by omega) rfl ⟨((Kp.refl _ h).add (Nat.le_refl _) _).add (by rw [nx_add]; omega) _, show h.nx < h.nx + 1 + 1 by omega, show h.nx + 1 < h.nx + 1 + 1 by omega, ?_, get_add_same ..⟩ ..
  rw [get_add_ne (by rw [nx_add]; omega), get_add_same]
/-- Literals are made true, one after the other; false: one was false. -/
def layN : List Int → Nat → Nat → (Nat × Nat) × Bool
  | [], y, m => ((y, m), true)
  | x :: xs, y, m => if (withN y m x).1 &&& (withN y m x).2 = 0 then layN xs (withN y m x).1 (withN y m x).2 else (withN y m x, false)
/-- Propagation from truths and literals. -/
def fromR (ss : List (Nat × Nat)) (xs : List Int) (y m : Nat) : (Nat × Nat) × Bool := if (layN xs y m).2 = true then spreadF ss 31 (layN xs y m).1.1 (layN xs y m).1.2 else layN xs y m
def fromN (ss : List (Nat × Nat)) (xs : List Int) : (Nat × Nat) × Bool := fromR ss xs 0 0
omit hO in
theorem fromR_cons (ss : List (Nat × Nat)) (x : Int) (xs : List Int) (y m : Nat) : fromR ss (x :: xs) y m = if (withN y m x).1 &&& (withN y m x).2 = 0 then fromR ss xs (withN y m x).1 (withN y m x).2 else (withN y m x, false) := by
  unfold fromR
  simp only [layN]
  split
  · rfl
  · rfl
/-- The inner loop: a list's literals are made true. -/
theorem lp89_1 {b : Nat} {a1 : Option Addr} {n1 c1 : Nat} {h₀ : Hp} (ok : h₀.Ok) {b4 b6 b18 : Nat} (hb4 : h₀.nx ≤ b4) (hb6 : h₀.nx ≤ b6) (hb18 : h₀.nx ≤ b18) (h46 : b4 ≠ b6) (h418 : b4 ≠ b18) (h618 : b6 ≠ b18) {cells : List Value} {x20 : Int} {ss : List (Nat × Nat)} {xs rest : List Int} (hl : xs.length < 1000000) (hx : ∀ x ∈ xs, Lit x) {r : (Nat × Nat) × Bool} {a : Option Addr} {n c : Nat} (X : IntsAt h₀ a n xs)
    (next : ∀ y m h, y < 2 ^ 30 → m < 2 ^ 30 → InvS h₀ b6 b4 y m h → b18 < h.nx → h.get b18 = some (.cells cells 32 .fix) → r = fromR ss rest y m → I89_0 O (fun v h' => v = .tuple #[.agg #[U r.1.1, U r.1.2], .bool r.2] ∧ Kp h₀.nx h₀ h') b 0 a1 n1 c1 b4 0 false b6 0 (some ⟨b18, 0, none⟩) 2 2 (wrapF .i64 (x20 + 1)) h) :
    ∀ (d k : Nat), k + d = xs.length → ∀ {y m : Nat} {h : Hp}, y < 2 ^ 30 → m < 2 ^ 30 → InvS h₀ b6 b4 y m h → b18 < h.nx → h.get b18 = some (.cells cells 32 .fix) → r = fromR ss (xs.drop k ++ rest) y m →
      I89_1 O (fun v h' => v = .tuple #[.agg #[U r.1.1, U r.1.2], .bool r.2] ∧ Kp h₀.nx h₀ h') b 0 a1 n1 c1 b4 0 false b6 0 (some ⟨b18, 0, none⟩) 2 2 x20 a n c (Int.ofNat n) (Int.ofNat k) h := by
  have hn := X.1
  intro d
  induction d with
  | zero =>
    intro k hk y m h hy hm I l18 g18 hr
    refine I89_1.of _ _ _ _ _ _ _ _ _ _ _ _ _ _ _ _ _ _ _ ?_
    intros
    unfold T89_1
    rw [List.drop_of_length_le (by omega), List.nil_append] at hr
    exact vcond_f (by rw [ltI_nat]; exact blt_f (by omega)) (next y m h hy hm I l18 g18 hr ..)
  | succ d ih =>
    intro k hk y m h hy hm I l18 g18 hr
    refine I89_1.of _ _ _ _ _ _ _ _ _ _ _ _ _ _ _ _ _ _ _ ?_
    intros
    unfold T89_1
    have X1 : IntsAt h a n xs := X.up EInt.up I.kp
    have e1 : xs.drop k = xs[k] :: xs.drop (k + 1) := List.drop_eq_getElem_cons (by omega)
    have hxk := hx xs[k] (List.getElem_mem _)
    rw [e1, List.cons_append, fromR_cons] at hr
    refine vcond_t (by rw [ltI_nat]; exact blt_t (by omega)) (isNat_of (X1.get (k := k) (by omega) fun b' off h1 h2 hrd => vreq_t (blt_t (by omega)) ⟨_, hrd, ?_⟩))
    obtain ⟨w1, w2⟩ := withN_lt hxk hy hm
    obtain ⟨v, h5, e5, rfl, K5⟩ := ct104 hO hxk hy hm (ok.kp I.kp)
    have I5 := I.of K5
    have ok5 := ok.kp I5.kp
    have gn : (h5.add (.cells [(.int .u32 0), (.int .u32 0)] 102 .fix)).get h5.nx = _ := get_add_same ..
    have gu : (h5.add (.cells [(.int .u32 0), (.int .u32 0)] 102 .fix)).guarded h5.nx = false := guarded_of fun q hq => by have := ok5.gd q hq; omega
    refine ⟨_, _, readAt_get I.g3 (by simp), _, _, _, _, e5, vreq_t (canW_t gn (by decide) gu (by simp) rfl) ?_⟩
    have gw : ((h5.add (.cells [(.int .u32 0), (.int .u32 0)] 102 .fix)).wr h5.nx 0 [U (withN y m xs[k]).1, U (withN y m xs[k]).2]).get h5.nx = some (.cells [U (withN y m xs[k]).1, U (withN y m xs[k]).2] 102 .fix) := wr_get gn (by decide) gu (by simp) rfl
    have kw : Kp h5.nx h5 ((h5.add (.cells [(.int .u32 0), (.int .u32 0)] 102 .fix)).wr h5.nx 0 [U (withN y m xs[k]).1, U (withN y m xs[k]).2]) := ((Kp.refl _ h5).add (Nat.le_refl _) _).wr (Nat.le_refl _) _ _
    have kk := K5.trans (kw.le K5.nx)
    generalize (h5.add (.cells [(.int .u32 0), (.int .u32 0)] 102 .fix)).wr h5.nx 0 [U (withN y m xs[k]).1, U (withN y m xs[k]).2] = hw at gw kw kk ⊢
    have Iw := I.of kk
    have g18w : hw.get b18 = some (.cells cells 32 .fix) := by rw [kk.get _ l18]; exact g18
    have l18w : b18 < hw.nx := Nat.lt_of_lt_of_le l18 kk.nx
    have gfree : ∀ o, h₀.nx ≤ o → hw.guarded o = false := fun o ho => guarded_of fun q hq => by
      rw [Iw.kp.gd] at hq
      have := ok.gd q hq; omega
    refine vcond_split (fun h3 => ?_) fun h3 => ?_
    · have h3 : ¬ ((withN y m xs[k]).1 &&& (withN y m xs[k]).2 = 0) := by simpa using h3
      rw [if_neg h3] at hr
      subst hr
      refine ⟨_, _, readAt_get gw (by simp), vreq_t (canW_t Iw.g4 (by decide) (gfree _ hb4) (by simp) rfl) ⟨_, _, readAt_get (wr_get Iw.g4 (by decide) (gfree _ hb4) (by simp) rfl) (by simp [putAt]), ?_, Iw.kp.wr hb4 _ _⟩⟩
      rfl
    · have h3 : (withN y m xs[k]).1 &&& (withN y m xs[k]).2 = 0 := by simpa using h3
      rw [if_pos h3] at hr
      refine ⟨_, _, readAt_get gw (by simp), vreq_t (canW_t Iw.g3 (by decide) (gfree _ hb6) (by simp) rfl) ?_⟩
      rw [wrap_succ (by omega)]
      have w3 := wr_get Iw.g3 (by decide) (gfree _ hb6) (off := 0) (vs := [U (withN y m xs[k]).1, U (withN y m xs[k]).2]) (by simp) rfl
      exact ih (k + 1) (by omega) w1 w2 ⟨Iw.kp.wr hb6 _ _, by rw [nx_wr]; exact Iw.l3, by rw [nx_wr]; exact Iw.l4, w3, by rw [wr_get_ne _ _ _ _ h46]; exact Iw.g4⟩ (by rw [nx_wr]; exact l18w) (by rw [wr_get_ne _ _ _ _ (Ne.symm h618)]; exact g18w) hr ..
theorem ct89 {b : Nat} {h : Hp} (ok : h.Ok) {vars left : Int} {a a1 a2 : Option Addr} {n c n1 c1 n2 c2 : Nat} (hb : h.get b = some (.cells (baseC vars a n c a1 n1 c1 left a2 n2 c2) 128 .fix)) (hbn : b < h.nx) {ss : List (Nat × Nat)} (H : SidesAt2 h a n ss) (hl : ss.length < 1000000) (hss : ∀ p ∈ ss, p.1 < 2 ^ 30 ∧ p.2 < 2 ^ 30)
    {gs xs : List Int} (G : IntsAt h a1 n1 gs) (hgl : gs.length < 1000000) (hg : ∀ x ∈ gs, Lit x) {am : Option Addr} {nm cm : Nat} (X : IntsAt h am nm xs) (hxl : xs.length < 1000000) (hx : ∀ x ∈ xs, Lit x) :
    Ret Tryd.prog O 89 [.pointer (some ⟨b, 0, none⟩), .slice am nm cm] h fun v h' => v = .tuple #[.agg #[U (fromN ss (gs ++ xs)).1.1, U (fromN ss (gs ++ xs)).1.2], .bool (fromN ss (gs ++ xs)).2] ∧ Kp h.nx h h' := by
  refine rk89 _ _ _ _ _ (hO _ _ _ (by decide)) ?_
  unfold T89
  have k2 : Kp h.nx h ((h.add (.cells [(.int .u32 0), (.int .u32 0)] 102 .fix)).add (.cells [(.int .u32 0), (.int .u32 0)] 102 .fix)) := ((Kp.refl _ h).add (Nat.le_refl _) _).add (by rw [nx_add]; omega) _
  refine ⟨_, _, _, read1 (by rw [k2.get _ hbn]; exact hb) (i := 0 + 2) rfl, ?_⟩
  -- the end
  have fin : ∀ y m h', y < 2 ^ 30 → m < 2 ^ 30 → InvS h (h.nx + 1) h.nx y m h' → fromN ss (gs ++ xs) = fromR ss [] y m → I89_0 O (fun v h' => v = .tuple #[.agg #[U (fromN ss (gs ++ xs)).1.1, U (fromN ss (gs ++ xs)).1.2], .bool (fromN ss (gs ++ xs)).2] ∧ Kp h.nx h h') b 0 am nm cm h.nx 0 false (h.nx + 1) 0 (some ⟨h.nx + 2, 0, none⟩) 2 2 2 h' := by
    intro y m h' hy hm I hr
    refine I89_0.of _ _ _ _ _ _ _ _ _ _ _ _ _ _ ?_
    intros
    unfold T89_0
    have hr : fromN ss (gs ++ xs) = spreadF ss 31 y m := hr
    obtain ⟨v, h5, e5, rfl, K5⟩ := ct119 hO (ok.kp I.kp) (show h'.get b = _ by rw [I.kp.get _ hbn]; exact hb) (Nat.lt_of_lt_of_le hbn I.kp.nx) (H.up (ECells.up uu) I.kp) hl hss hy hm
    have I5 := I.of K5
    have gu : h5.guarded h.nx = false := guarded_of fun q hq => by
      rw [I5.kp.gd] at hq
      have := ok.gd q hq; omega
    refine vcond_f rfl ⟨_, _, readAt_get I.g3 (by simp), _, _, _, _, e5, vreq_t (canW_t I5.g4 (by decide) gu (by simp) rfl) ⟨_, _, readAt_get (wr_get I5.g4 (by decide) gu (by simp) rfl) (by simp [putAt]), ?_, I5.kp.wr (Nat.le_refl _) _ _⟩⟩
    rw [hr]
  -- what is asked
  have more : ∀ y m h', y < 2 ^ 30 → m < 2 ^ 30 → InvS h (h.nx + 1) h.nx y m h' → h.nx + 2 < h'.nx → h'.get (h.nx + 2) = some (.cells [.slice a1 n1 c1, .slice am nm cm] 32 .fix) → fromN ss (gs ++ xs) = fromR ss xs y m → I89_0 O (fun v h' => v = .tuple #[.agg #[U (fromN ss (gs ++ xs)).1.1, U (fromN ss (gs ++ xs)).1.2], .bool (fromN ss (gs ++ xs)).2] ∧ Kp h.nx h h') b 0 am nm cm h.nx 0 false (h.nx + 1) 0 (some ⟨h.nx + 2, 0, none⟩) 2 2 1 h' := by
    intro y m h' hy hm I l18 g18 hr
    refine I89_0.of _ _ _ _ _ _ _ _ _ _ _ _ _ _ ?_
    intros
    unfold T89_0
    refine vcond_t rfl (isNat_of (n := 1) (show vreq (Nat.blt 1 2) _ from vreq_t rfl ⟨_, _, _, read1 g18 (i := 0 + 1 * 1) rfl, ?_⟩))
    exact lp89_1 hO ok (Nat.le_refl _) (by omega) (by omega) (by omega) (by omega) (by omega) (rest := []) hxl hx X (fun y m h' hy hm I _ _ hr => fin y m h' hy hm I hr) xs.length 0 (by omega) hy hm I l18 g18 (by rw [List.drop_zero, List.append_nil]; exact hr) ..
  have I0 : InvS h (h.nx + 1) h.nx 0 0 (((h.add (.cells [(.int .u32 0), (.int .u32 0)] 102 .fix)).add (.cells [(.int .u32 0), (.int .u32 0)] 102 .fix)).add (.cells [.slice a1 n1 c1, .slice am nm cm] 32 .fix)) :=
    ⟨k2.add k2.nx _, show h.nx + 1 < h.nx + 1 + 1 + 1 by omega, show h.nx < h.nx + 1 + 1 + 1 by omega, by rw [get_add_ne (show h.nx + 1 ≠ h.nx + 1 + 1 by omega)]; exact get_add_same .., by rw [get_add_ne (show h.nx ≠ h.nx + 1 + 1 by omega), get_add_ne (show h.nx ≠ h.nx + 1 by omega)]; exact get_add_same ..⟩
  have g18 : (((h.add (.cells [(.int .u32 0), (.int .u32 0)] 102 .fix)).add (.cells [(.int .u32 0), (.int .u32 0)] 102 .fix)).add (.cells [.slice a1 n1 c1, .slice am nm cm] 32 .fix)).get (h.nx + 2) = some (.cells [.slice a1 n1 c1, .slice am nm cm] 32 .fix) := get_add_same ..
  refine I89_0.of _ _ _ _ _ _ _ _ _ _ _ _ _ _ ?_ ..
  intros
  unfold T89_0
  refine vcond_t rfl (isNat_of (n := 0) (show vreq (Nat.blt 0 2) _ from vreq_t rfl ⟨_, _, _, read1 g18 (i := 0 + 0 * 1) rfl, ?_⟩))
  exact lp89_1 hO ok (Nat.le_refl _) (by omega) (by omega) (by omega) (by omega) (by omega) (rest := xs) hgl hg G (fun y m h' hy hm I l g hr => more y m h' hy hm I l g hr) gs.length 0 (by omega) (y := 0) (m := 0) (by decide) (by decide) I0 (show h.nx + 2 < h.nx + 1 + 1 + 1 by omega) g18 rfl ..
/-- Does propagation clash? -/
theorem ct95 {b : Nat} {h : Hp} (ok : h.Ok) {vars left : Int} {a a1 a2 : Option Addr} {n c n1 c1 n2 c2 : Nat} (hb : h.get b = some (.cells (baseC vars a n c a1 n1 c1 left a2 n2 c2) 128 .fix)) (hbn : b < h.nx) {ss : List (Nat × Nat)} (H : SidesAt2 h a n ss) (hl : ss.length < 1000000) (hss : ∀ p ∈ ss, p.1 < 2 ^ 30 ∧ p.2 < 2 ^ 30)
    {gs xs : List Int} (G : IntsAt h a1 n1 gs) (hgl : gs.length < 1000000) (hg : ∀ x ∈ gs, Lit x) {am : Option Addr} {nm cm : Nat} (X : IntsAt h am nm xs) (hxl : xs.length < 1000000) (hx : ∀ x ∈ xs, Lit x) :
    Ret Tryd.prog O 95 [.pointer (some ⟨b, 0, none⟩), .slice am nm cm] h fun v h' => v = .bool (!(fromN ss (gs ++ xs)).2) ∧ Kp h.nx h h' := by
  refine rk95 _ _ _ _ _ (hO _ _ _ (by decide)) ?_
  unfold T95
  obtain ⟨v, h5, e5, rfl, K5⟩ := ct89 hO ok hb hbn H hl hss G hgl hg X hxl hx (cm := cm)
  have ok5 := ok.kp K5
  have gn : (h5.add (.cells [(.int .u32 0), (.int .u32 0)] 102 .fix)).get h5.nx = _ := get_add_same ..
  have gu : (h5.add (.cells [(.int .u32 0), (.int .u32 0)] 102 .fix)).guarded h5.nx = false := guarded_of fun q hq => by have := ok5.gd q hq; omega
  exact ⟨_, _, _, _, e5, vreq_t (canW_t gn (by decide) gu (by simp) rfl) ⟨rfl, (K5.add K5.nx _).wr K5.nx _ _⟩⟩
/-- Are a formula, and literals, as they should be? -/
def askB (vars : Int) (cls : List (List Int)) (gs : List Int) : Bool := formB vars cls && clB vars 0 gs
theorem ct78 {a a1 : Option Addr} {n c n1 c1 : Nat} {vars : Int} {h : Hp} {cls : List (List Int)} {gs : List Int} (H : IntssAt h a n cls) (hl : cls.length < 1000000) (hll : ∀ l ∈ cls, l.length < 1000000) (G : IntsAt h a1 n1 gs) (hgl : gs.length < 1000000) :
    Ret Tryd.prog O 78 [Fm vars a n c, .slice a1 n1 c1] h fun v h' => v = .int .i64 (if askB vars cls gs = true then 0 else 2) ∧ Kp h.nx h h' := by
  refine rk78 _ _ _ _ _ _ _ (hO _ _ _ (by decide)) ?_
  unfold T78
  have kp := fm_kp h vars a n c
  have g := fm_get h vars a n c
  obtain ⟨v1, h1, e1, rfl, K1⟩ := ct31 hO (c := c) (vars := vars) (H.up EInts.up kp) hl hll
  have k1 : Kp h.nx h h1 := kp.trans (K1.le kp.nx)
  have g1 : h1.get h.nx = some (.cells [.int .i64 vars, .slice a n c] 30 .fix) := by rw [K1.get _ (by rw [nx_add]; omega)]; exact g
  refine ⟨_, _, _, _, readAt_get g (by simp), _, _, e1, vcond_split (fun h2 => ?_) fun h2 => ?_⟩
  · have hf : formB vars cls = true := by
      cases hf : formB vars cls with
      | true => rfl
      | false => rw [hf] at h2; exact absurd (eq_of_t h2) (by decide)
    refine ⟨_, read1 g1 rfl, _, _, ct87 hO vars (G.up EInt.up k1) hgl (c := c1), vcond_split (fun h3 => ?_) fun h3 => ?_⟩
    · have h3 : clB vars 0 gs = false := by simpa using h3
      unfold askB; rw [hf, h3]; exact ⟨rfl, k1⟩
    · have h3 : clB vars 0 gs = true := by simpa using h3
      unfold askB; rw [hf, h3]; exact ⟨rfl, k1⟩
  · have hf : formB vars cls = false := by
      cases hf : formB vars cls with
      | false => rfl
      | true => rw [hf] at h2; exact absurd (eqI_t rfl) (by rw [if_pos rfl] at h2; rw [h2]; decide)
    unfold askB; rw [hf]; exact ⟨rfl, k1⟩
end
end Go.Proofs.YtfgfhplgnfbaaaaDoor
/- Contracts of functions of layer 20's reference: truths, laid and propagated. -/
namespace Go.Proofs.YtfgfhplgnfbaaaaDoor
open Go Go.Ev
/-- Truths in a row of their own. -/
def TsAt (h : Hp) (b : Nat) (ts : List Int) : Prop := b < h.nx ∧ h.get b = some (.cells (ts.map (Value.int .i64)) 3 .fix)
theorem TsAt.ints {h : Hp} {b : Nat} {ts : List Int} (T : TsAt h b ts) : IntsAt h (some ⟨b, 0, none⟩) ts.length ts :=
  ⟨rfl, .inr ⟨b, 0, _, _, _, rfl, T.1, T.2, by simp, fun i hi => by
    show ((ts.map (Value.int .i64)).drop (0 + i * 1)).take 1 = [.int .i64 ts[i]]
    rw [Nat.zero_add, Nat.mul_one, List.drop_eq_getElem_cons (by simpa using hi)]
    simp only [List.getElem_map, List.take_succ_cons, List.take_zero]⟩⟩
def TV (ts : List Int) : Prop := ∀ t ∈ ts, -1 ≤ t ∧ t ≤ 1
/-- A literal is made true; false: it was false. -/
def layR (ts : List Int) (x : Int) : List Int × Bool := if tvR ts x < 0 then (ts, false) else (ts.set x.natAbs (if x < 0 then -1 else 1), true)
theorem layR_len (ts : List Int) (x : Int) : (layR ts x).1.length = ts.length := by unfold layR; split <;> simp
theorem TV.lay {ts : List Int} (h : TV ts) (x : Int) : TV (layR ts x).1 := by
  unfold layR
  split
  · exact h
  · intro t ht
    rcases List.mem_or_eq_of_mem_set ht with ht | rfl
    · exact h t ht
    · split <;> omega
theorem putAt_set {ts : List Int} {k : Nat} {z : Int} (hk : k < ts.length) : putAt (ts.map (Value.int .i64)) k [.int .i64 z] = (ts.set k z).map (Value.int .i64) := by
  refine List.ext_getElem? fun i => ?_
  rw [putAt_get _ _ _ (by simp; omega)]
  simp only [List.getElem?_map, List.getElem?_set, List.length_singleton]
  by_cases h1 : k ≤ i ∧ i < k + 1
  · obtain rfl : i = k := by omega
    rw [if_pos h1, if_pos rfl, if_pos hk, Nat.sub_self]; rfl
  · rw [if_neg h1, if_neg (by omega)]
theorem readAt_kp {hb h : Hp} (K : Kp hb.nx hb h) {b : Nat} (hbb : b < hb.nx) (off n : Nat) : readAt h b off n = readAt hb b off n := by
  unfold readAt
  rw [K.get b hbb]
/-- How many literals are open, and the last of them. -/
def openR (ts : List Int) : List Int → Nat → Int → Nat × Int
  | [], n, z => (n, z)
  | x :: xs, n, z => if tvR ts x = 0 then openR ts xs (n + 1) x else openR ts xs n z
/-- A pass over the clauses: the truths, whether something became true, whether it clashes. -/
def stepR : List (List Int) → List Int → Bool → List Int × Bool × Bool
  | [], ts, more => (ts, more, false)
  | l :: ls, ts, more => if satR ts l = true then stepR ls ts more else
      if 1 < (openR ts l 0 0).1 then stepR ls ts more else
      if (openR ts l 0 0).1 = 0 then (ts, false, true) else stepR ls (layR ts (openR ts l 0 0).2).1 true
theorem openR_mem {ts : List Int} : ∀ {xs : List Int} {n : Nat} {z : Int}, n ≤ (openR ts xs n z).1 ∧ ((openR ts xs n z).1 = n ∨ (openR ts xs n z).2 ∈ xs) ∧ (openR ts xs n z).1 ≤ n + xs.length := by
  intro xs
  induction xs with
  | nil => intro n z; exact ⟨Nat.le_refl _, .inl rfl, Nat.le_refl _⟩
  | cons x xs ih =>
    intro n z
    simp only [openR, List.length_cons]
    split
    · obtain ⟨a, b, c⟩ := ih (n := n + 1) (z := x)
      refine ⟨by omega, ?_, by omega⟩
      rcases b with b | b
      · right
        have : (openR ts xs (n + 1) x).1 = n + 1 := b
        -- no later one is open
        clear ih
        have key : ∀ (xs : List Int) (n : Nat) (z : Int), (openR ts xs n z).1 = n → (openR ts xs n z).2 = z := by
          intro xs
          induction xs with
          | nil => intro n z _; rfl
          | cons x xs ih =>
            intro n z h
            simp only [openR] at h ⊢
            split
            · rename_i h0
              rw [if_pos h0] at h
              have mono : ∀ (xs : List Int) (n : Nat) (z : Int), n ≤ (openR ts xs n z).1 := by
                intro xs
                induction xs with
                | nil => intro n z; exact Nat.le_refl _
                | cons x xs ih =>
                  intro n z
                  simp only [openR]
                  split
                  · have := ih (n + 1) x; omega
                  · exact ih n z
              have := mono xs (n + 1) x
              omega
            · rename_i h0
              rw [if_neg h0] at h
              exact ih n z h
        rw [key xs (n + 1) x this]
        exact List.mem_cons_self ..
      · exact .inr (List.mem_cons_of_mem _ b)
    · obtain ⟨a, b, c⟩ := ih (n := n) (z := z)
      exact ⟨a, b.imp id (List.mem_cons_of_mem _), by omega⟩
section
variable {O : CallF} (hO : Oth O)
include hO
theorem ct98l {x : Int} (hx : Lit x) (h : Hp) : EvT O 98 [.int .i64 x] h (.int .i64 (Int.ofNat x.natAbs)) h := by
  have := ct98 hO x h
  rw [varI_lit2 hx] at this
  exact this
theorem ct121 {b : Nat} {ts : List Int} {h : Hp} {base c : Nat} (hb : base ≤ b) (ok : ∀ q ∈ h.gd, q < base) (T : TsAt h b ts) (tv : TV ts) {x : Int} (hx : Lit x) (hx2 : x.natAbs < ts.length) :
    Ret Tryd.prog O 121 [.slice (some ⟨b, 0, none⟩) ts.length c, .int .i64 x] h fun v h' => v = .bool (layR ts x).2 ∧ TsAt h' b (layR ts x).1 ∧ Kp base h h' := by
  refine rk121 _ _ _ _ (hO _ _ _ (by decide)) ?_
  unfold T121
  have hl := hx.2
  have gu : ∀ {h' : Hp}, h'.gd = h.gd → h'.guarded b = false := fun e => guarded_of fun q hq => by rw [e] at hq; have := ok q hq; omega
  refine ⟨_, _, ct118 hO T.ints tv hx hx2, vcond_split (fun h1 => ?_) fun h1 => ?_⟩
  · have h1 := lt_of_t h1
    unfold layR
    rw [if_pos h1]
    exact ⟨rfl, T, .refl _ _⟩
  · have h1 := not_lt_of_f h1
    have w1 := wr_get T.2 (by decide) (gu rfl) (off := 0 + x.natAbs * 1) (vs := [.int .i64 1]) (by simp; omega) rfl
    have cw := canW_t T.2 (by decide) (gu rfl) (off := 0 + x.natAbs * 1) (vs := [.int .i64 1]) (by simp; omega) rfl
    refine ⟨_, _, ct98l hO hx h, isNat_of (show isAddr (some ⟨b, 0, none⟩) _ from vreq_t (blt_t hx2) (vreq_t cw ?_))⟩
    rw [show 0 + x.natAbs * 1 = x.natAbs by omega, putAt_set hx2] at w1
    have e0 : 0 + x.natAbs * 1 = x.natAbs := by omega
    rw [e0]
    have k1 : Kp base h (h.wr b x.natAbs [.int .i64 1]) := (Kp.refl base h).wr hb _ _
    unfold layR
    rw [if_neg h1]
    refine vcond_split (fun h2 => ?_) fun h2 => ?_
    · have h2 := lt_of_t h2
      have e : wrapF .i64 (0 - x) = Int.ofNat x.natAbs := by rw [wrap64 (by omega) (by omega)]; simp only [Int.ofNat_eq_natCast]; omega
      rw [e]
      have w2 := wr_get w1 (by decide) (gu (gd_wr ..)) (off := 0 + x.natAbs * 1) (vs := [.int .i64 (-1)]) (by simp; omega) rfl
      have cw2 := canW_t w1 (by decide) (gu (gd_wr ..)) (off := 0 + x.natAbs * 1) (vs := [.int .i64 (-1)]) (by simp; omega) rfl
      refine isNat_of (show isAddr (some ⟨b, 0, none⟩) _ from vreq_t (blt_t hx2) (vreq_t cw2 ⟨rfl, ⟨by rw [nx_wr, nx_wr]; exact T.1, ?_⟩, k1.wr hb _ _⟩))
      rw [w2, e0, putAt_set (by simpa using hx2), if_pos h2]
      simp
    · have h2 := not_lt_of_f h2
      rw [if_neg h2]
      exact ⟨rfl, ⟨by rw [nx_wr]; exact T.1, w1⟩, k1⟩
/-- What a pass leaves. -/
def QStep (hb : Hp) (b : Nat) (R : List Int × Bool × Bool) (v : Value) (h' : Hp) : Prop := v = .tuple #[.bool R.2.1, .bool R.2.2] ∧ TsAt h' b R.1 ∧ Kp hb.nx hb h'
/-- The inner loop: a clause's literals are looked at. -/
theorem lp122_1 {hb : Hp} (ok : hb.Ok) {b N cN : Nat} (hbb : hb.nx ≤ b) {a : Option Addr} {n c : Nat} {l : List Int} (hll : l.length < 1000000) {ts : List Int} (hN : ts.length = N) (tv : TV ts) (hl : ∀ x ∈ l, Lit x ∧ x.natAbs < N) {more : Bool} {R : List Int × Bool × Bool} {x7 : Int} {a8 : Option Addr} {n8 c8 : Nat} (X : IntsAt hb a8 n8 l)
    (next : ∀ ts' more' h, TV ts' → ts'.length = N → TsAt h b ts' → Kp hb.nx hb h → (satR ts l = true ∨ 1 < (openR ts l 0 0).1 → ts' = ts ∧ more' = more) → (¬ (satR ts l = true ∨ 1 < (openR ts l 0 0).1) → (openR ts l 0 0).1 ≠ 0 ∧ ts' = (layR ts (openR ts l 0 0).2).1 ∧ more' = true) → I122_0 O (QStep hb b R) (some ⟨b, 0, none⟩) N cN a n c false false more' (wrapF .i64 (x7 + 1)) h)
    (clash : ¬ (satR ts l = true ∨ 1 < (openR ts l 0 0).1) → (openR ts l 0 0).1 = 0 → R = (ts, false, true)) :
    ∀ (d k : Nat), k + d = l.length → ∀ {cnt : Nat} {z : Int} {h : Hp}, cnt ≤ k → openR ts (l.drop k) cnt z = openR ts l 0 0 → TsAt h b ts → Kp hb.nx hb h →
      I122_1 O (QStep hb b R) (some ⟨b, 0, none⟩) N cN a n c false false more x7 a8 n8 c8 (Int.ofNat cnt) z (Int.ofNat k) h := by
  have hn := X.1
  subst hN
  intro d
  induction d with
  | zero =>
    intro k hk cnt z h hc he T K
    refine I122_1.of _ _ _ _ _ _ _ _ _ _ _ _ _ _ _ _ ?_
    intros
    unfold T122_1
    rw [List.drop_of_length_le (by omega)] at he
    have he : (cnt, z) = openR ts l 0 0 := he
    have X1 : IntsAt h a8 n8 l := X.up EInt.up K
    have mem := openR_mem (ts := ts) (xs := l) (n := 0) (z := 0)
    rw [← he] at next clash mem
    refine vcond_f (by rw [ltI_nat]; exact blt_f (by omega)) ⟨_, _, ct86 hO T.ints tv X1 hll hl, vcond_split (fun h1 => ?_) fun h1 => vcond_split (fun h2 => ?_) fun h2 => vcond_split (fun h3 => ?_) fun h3 => ?_⟩
    · exact next ts more h tv rfl T K (fun _ => ⟨rfl, rfl⟩) (fun hh => absurd (.inl h1) hh) ..
    · have h2 : 1 < cnt := by have := lt_of_t h2; simp only [Int.ofNat_eq_natCast] at this; omega
      exact next ts more h tv rfl T K (fun _ => ⟨rfl, rfl⟩) (fun hh => absurd (.inr h2) hh) ..
    · have h2 : ¬ 1 < cnt := by have := not_lt_of_f h2; simp only [Int.ofNat_eq_natCast] at this; omega
      have h3 : cnt = 0 := Int.ofNat.inj (eq_of_t h3)
      obtain rfl := clash (by rintro (hh | hh); · rw [h1] at hh; cases hh
                              · exact h2 hh) h3
      exact ⟨rfl, T, K⟩
    · have h2 : ¬ 1 < cnt := by have := not_lt_of_f h2; simp only [Int.ofNat_eq_natCast] at this; omega
      have h3 : cnt ≠ 0 := fun hh => ne_of_f h3 (by rw [hh]; rfl)
      have hz : z ∈ l := mem.2.1.resolve_left h3
      obtain ⟨v, h5, e5, rfl, T5, K5⟩ := ct121 hO (c := cN) hbb (fun q hq => by rw [K.gd] at hq; exact ok.gd q hq) T tv (hl z hz).1 (hl z hz).2
      have hns : ¬ (satR ts l = true ∨ 1 < cnt) := by
        rintro (hh | hh)
        · rw [h1] at hh; cases hh
        · exact h2 hh
      exact ⟨_, _, e5, next _ true h5 (tv.lay z) (layR_len ts z) T5 (K.trans K5) (fun hh => absurd hh hns) (fun _ => ⟨h3, rfl, rfl⟩) ..⟩
  | succ d ih =>
    intro k hk cnt z h hc he T K
    refine I122_1.of _ _ _ _ _ _ _ _ _ _ _ _ _ _ _ _ ?_
    intros
    unfold T122_1
    have X1 : IntsAt h a8 n8 l := X.up EInt.up K
    have e1 : l.drop k = l[k] :: l.drop (k + 1) := List.drop_eq_getElem_cons (by omega)
    rw [e1] at he
    simp only [openR] at he
    have hx := hl l[k] (List.getElem_mem _)
    refine vcond_t (by rw [ltI_nat]; exact blt_t (by omega)) (isNat_of (X1.get (k := k) (by omega) fun b' off _ _ hrd => vreq_t (blt_t (by omega)) ⟨_, hrd, _, _, ct118 hO T.ints tv hx.1 hx.2, vcond_split (fun h1 => ?_) fun h1 => ?_⟩))
    · rw [if_pos (eq_of_t h1)] at he
      refine isNat_of (X1.get (k := k) (by omega) fun b' off _ _ hrd => vreq_t (blt_t (by omega)) ⟨_, hrd, ?_⟩)
      rw [wrap_succ (by omega), wrap_succ (by omega)]
      exact ih (k + 1) (by omega) (by omega) he T K ..
    · rw [if_neg (ne_of_f h1)] at he
      rw [wrap_succ (by omega)]
      exact ih (k + 1) (by omega) (by omega) he T K ..
theorem lp122_0 {hb : Hp} (ok : hb.Ok) {b N cN : Nat} (hbb : hb.nx ≤ b) {a : Option Addr} {n c : Nat} {cls : List (List Int)} (H : IntssAt hb a n cls) (hl : cls.length < 1000000) (hll : ∀ l ∈ cls, l.length < 1000000) (hlit : ∀ l ∈ cls, ∀ x ∈ l, Lit x ∧ x.natAbs < N) {R : List Int × Bool × Bool} :
    ∀ (d k : Nat), k + d = cls.length → ∀ {ts : List Int} {more : Bool} {h : Hp}, TV ts → ts.length = N → TsAt h b ts → Kp hb.nx hb h → R = stepR (cls.drop k) ts more → I122_0 O (QStep hb b R) (some ⟨b, 0, none⟩) N cN a n c false false more (Int.ofNat k) h := by
  have hn := H.1
  intro d
  induction d with
  | zero =>
    intro k hk ts more h tv hN T K hr
    refine I122_0.of _ _ _ _ _ _ _ _ _ _ ?_
    intros
    unfold T122_0
    rw [List.drop_of_length_le (by omega)] at hr
    subst hr
    exact vcond_f (by rw [ltI_nat]; exact blt_f (by omega)) ⟨rfl, T, K⟩
  | succ d ih =>
    intro k hk ts more h tv hN T K hr
    refine I122_0.of _ _ _ _ _ _ _ _ _ _ ?_
    intros
    unfold T122_0
    have e1 : cls.drop k = cls[k] :: cls.drop (k + 1) := List.drop_eq_getElem_cons (by omega)
    rw [e1] at hr
    simp only [stepR] at hr
    have hm : cls[k] ∈ cls := List.getElem_mem _
    refine vcond_t (by rw [ltI_nat]; exact blt_t (by omega)) (isNat_of (H.get (k := k) (by omega) fun b' off a' n' c' _ hlt hrd Y => vreq_t (blt_t (by omega)) ⟨_, _, _, by rw [readAt_kp K hlt]; exact hrd, ?_⟩))
    refine lp122_1 hO ok hbb (hll _ hm) hN tv (hlit _ hm) Y (R := R) (fun ts' more' h' tv' hN' T' K' f1 f2 => ?_) (fun f1 f2 => ?_) cls[k].length 0 (by omega) (Nat.le_refl _) rfl T K ..
    · rw [wrap_succ (by omega)]
      refine ih (k + 1) (by omega) tv' hN' T' K' ?_
      by_cases hc : satR ts cls[k] = true ∨ 1 < (openR ts cls[k] 0 0).1
      · obtain ⟨rfl, rfl⟩ := f1 hc
        rcases hc with hc | hc
        · rw [if_pos hc] at hr; exact hr
        · by_cases h0 : satR ts' cls[k] = true
          · rw [if_pos h0] at hr; exact hr
          · rw [if_neg h0, if_pos hc] at hr; exact hr
      · obtain ⟨g1, rfl, rfl⟩ := f2 hc
        rw [if_neg (fun hh => hc (.inl hh)), if_neg (fun hh => hc (.inr hh)), if_neg g1] at hr
        exact hr
    · rw [if_neg (fun hh => f1 (.inl hh)), if_neg (fun hh => f1 (.inr hh)), if_pos f2] at hr
      exact hr
theorem ct122 {hb : Hp} (ok : hb.Ok) {b cN : Nat} (hbb : hb.nx ≤ b) {a : Option Addr} {n c : Nat} {cls : List (List Int)} (H : IntssAt hb a n cls) (hl : cls.length < 1000000) (hll : ∀ l ∈ cls, l.length < 1000000) {ts : List Int} (hlit : ∀ l ∈ cls, ∀ x ∈ l, Lit x ∧ x.natAbs < ts.length) {h : Hp} (tv : TV ts) (T : TsAt h b ts) (K : Kp hb.nx hb h) :
    Ret Tryd.prog O 122 [.slice (some ⟨b, 0, none⟩) ts.length cN, .slice a n c] h (QStep hb b (stepR cls ts false)) := by
  refine rk122 _ _ _ _ _ _ (hO _ _ _ (by decide)) ?_
  unfold T122
  exact lp122_0 hO ok hbb H hl hll hlit cls.length 0 (by omega) tv rfl T K rfl ..
end
end Go.Proofs.YtfgfhplgnfbaaaaDoor
/- Contracts of functions of layer 20's reference: propagation to its end. -/
namespace Go.Proofs.YtfgfhplgnfbaaaaDoor
open Go Go.Ev
def layRs : List Int → List Int → List Int × Bool
  | ts, [] => (ts, true)
  | ts, x :: xs => if (layR ts x).2 = true then layRs (layR ts x).1 xs else ((layR ts x).1, false)
def loopR (cls : List (List Int)) : Nat → List Int → List Int × Bool
  | 0, ts => (ts, true)
  | d + 1, ts => if (stepR cls ts false).2.1 = true then loopR cls d (stepR cls ts false).1 else ((stepR cls ts false).1, !(stepR cls ts false).2.2)
def endR (cls : List (List Int)) (r : List Int × Bool) : List Int × Bool := if r.2 = true then loopR cls 32 r.1 else ([], false)
/-- Propagation from literals: the truths, and whether it is calm. -/
def propR (vars : Nat) (cls : List (List Int)) (xs : List Int) : List Int × Bool := endR cls (layRs (List.replicate (vars + 1) 0) xs)
def zeros (ts : List Int) : Nat := (ts.filter (· == 0)).length
theorem zeros_set : ∀ {ts : List Int} {k : Nat} {z : Int} (hk : k < ts.length), ts[k] = 0 → z ≠ 0 → zeros (ts.set k z) < zeros ts := by
  intro ts
  induction ts with
  | nil => intro k z hk; simp at hk
  | cons t ts ih =>
    intro k z hk h0 hz
    unfold zeros
    cases k with
    | zero =>
      have h0 : t = 0 := h0
      subst h0
      have : (z == 0) = false := by simpa using hz
      simp [List.filter_cons, this]
    | succ k =>
      have := ih (k := k) (z := z) (by simpa using hk) h0 hz
      unfold zeros at this
      simp only [List.set_cons_succ, List.filter_cons]
      split <;> simp <;> omega
theorem openR_zero {ts : List Int} : ∀ {xs : List Int} {n : Nat} {z : Int}, (tvR ts z = 0 ∨ n = 0) → (openR ts xs n z).1 ≠ 0 → tvR ts (openR ts xs n z).2 = 0 := by
  intro xs
  induction xs with
  | nil => intro n z h h2; exact h.resolve_right h2
  | cons x xs ih =>
    intro n z h h2
    simp only [openR] at h2 ⊢
    split
    · rename_i h0
      rw [if_pos h0] at h2
      exact ih (.inl h0) h2
    · rename_i h0
      rw [if_neg h0] at h2
      exact ih h h2
theorem tvR_nat {ts : List Int} {x : Int} (hx : x.natAbs < ts.length) : tvR ts x = if x < 0 then -ts[x.natAbs] else ts[x.natAbs] := by
  unfold tvR
  split
  · rw [show (-x).toNat = x.natAbs by omega, List.getD_eq_getElem?_getD, List.getElem?_eq_getElem hx]; rfl
  · rw [show x.toNat = x.natAbs by omega, List.getD_eq_getElem?_getD, List.getElem?_eq_getElem hx]; rfl
theorem lay_zeros {ts : List Int} {x : Int} (hx : x.natAbs < ts.length) (h : tvR ts x = 0) : zeros (layR ts x).1 < zeros ts := by
  unfold layR
  rw [if_neg (by omega)]
  refine zeros_set hx ?_ (by split <;> omega)
  rw [tvR_nat hx] at h
  split at h <;> omega
theorem stepR_zeros {N : Nat} : ∀ {cls : List (List Int)} {ts : List Int} {more : Bool}, ts.length = N → (∀ l ∈ cls, ∀ x ∈ l, Lit x ∧ x.natAbs < N) → TV ts →
    (stepR cls ts more).1.length = N ∧ TV (stepR cls ts more).1 ∧ zeros (stepR cls ts more).1 ≤ zeros ts ∧ ((stepR cls ts more).2.1 = true → more = true ∨ zeros (stepR cls ts more).1 < zeros ts) ∧ ((stepR cls ts more).2.1 = true → (stepR cls ts more).2.2 = false) := by
  intro cls
  induction cls with
  | nil => intro ts more hN _ tv; exact ⟨hN, tv, Nat.le_refl _, fun h => .inl h, fun _ => rfl⟩
  | cons l cls ih =>
    intro ts more hN hl tv
    have hl' : ∀ l ∈ cls, ∀ x ∈ l, Lit x ∧ x.natAbs < N := fun l h => hl l (List.mem_cons_of_mem _ h)
    simp only [stepR]
    split
    · exact ih hN hl' tv
    · split
      · exact ih hN hl' tv
      · split
        · exact ⟨hN, tv, Nat.le_refl _, fun h => by simp at h, fun h => by simp at h⟩
        · rename_i h1 h2 h3
          have hz := openR_zero (ts := ts) (xs := l) (n := 0) (z := 0) (.inr rfl) h3
          have hm := (openR_mem (ts := ts) (xs := l) (n := 0) (z := 0)).2.1.resolve_left h3
          have hx := hl l (List.mem_cons_self ..) _ hm
          have hlt := lay_zeros (by rw [hN]; exact hx.2) hz
          obtain ⟨a, b, c, _, e⟩ := ih (ts := (layR ts (openR ts l 0 0).2).1) (more := true) (by rw [layR_len]; exact hN) hl' (tv.lay _)
          exact ⟨a, b, by omega, fun _ => .inr (by omega), e⟩
section
variable {O : CallF} (hO : Oth O)
include hO
/-- What propagation leaves. -/
def QProp (hb : Hp) (P : List Int × Bool) (v : Value) (h' : Hp) : Prop := ∃ a n c, v = .tuple #[.slice a n c, .bool P.2] ∧ Kp hb.nx hb h' ∧ (P.2 = true → ∃ b, a = some ⟨b, 0, none⟩ ∧ hb.nx ≤ b ∧ TsAt h' b P.1 ∧ n = P.1.length)
theorem lp92_1 {hb : Hp} (ok : hb.Ok) {b N cN : Nat} (hbb : hb.nx ≤ b) {a : Option Addr} {n c : Nat} {cls : List (List Int)} (H : IntssAt hb a n cls) (hl : cls.length < 1000000) (hll : ∀ l ∈ cls, l.length < 1000000) (hlit : ∀ l ∈ cls, ∀ x ∈ l, Lit x ∧ x.natAbs < N) {P : List Int × Bool} {x0 : Int} {a2 : Option Addr} {n2 c2 : Nat} :
    ∀ (d : Nat) {ts : List Int} {h : Hp}, zeros ts < d → TV ts → ts.length = N → TsAt h b ts → Kp hb.nx hb h → P = loopR cls d ts → I92_1 O (QProp hb P) x0 a n c a2 n2 c2 none 0 0 false (some ⟨b, 0, none⟩) N cN true false h := by
  intro d
  induction d with
  | zero => intro ts h h0; omega
  | succ d ih =>
    intro ts h hz tv hN T K hp
    subst hN
    refine I92_1.of _ _ _ _ _ _ _ _ _ _ _ _ _ _ _ _ ?_
    intros
    unfold T92_1
    obtain ⟨z1, z2, z3, z4, z5⟩ := stepR_zeros (more := false) rfl hlit tv
    obtain ⟨v, h5, e5, rfl, T5, K5⟩ := ct122 hO ok hbb H hl hll hlit tv T K (cN := cN) (c := c)
    refine vcond_t rfl (vcond_t rfl ⟨_, _, _, e5, ?_⟩)
    simp only [loopR] at hp
    have fin : (stepR cls ts false).2.1 = false → P = ((stepR cls ts false).1, !(stepR cls ts false).2.2) := fun h => by rw [h] at hp; exact hp
    cases hm : (stepR cls ts false).2.1 with
    | true =>
      rw [hm, if_pos rfl] at hp
      rw [z5 hm]
      have := (z4 hm).resolve_left (by decide)
      have hi := ih (ts := (stepR cls ts false).1) (by omega) z2 z1 T5 K5 hp
      exact hi ..
    | false =>
      obtain rfl := fin hm
      have hend : I92_1 O (QProp hb ((stepR cls ts false).1, !(stepR cls ts false).2.2)) x0 a n c a2 n2 c2 none 0 0 false (some ⟨b, 0, none⟩) ts.length cN false (stepR cls ts false).2.2 h5 := by
        refine I92_1.of _ _ _ _ _ _ _ _ _ _ _ _ _ _ _ _ ?_
        intros
        unfold T92_1
        exact vcond_f rfl ⟨_, _, _, rfl, K5, fun _ => ⟨b, rfl, hbb, T5, z1.symm⟩⟩
      exact hend ..
theorem lp92_0 {hb : Hp} (ok : hb.Ok) {b N cN : Nat} (hbb : hb.nx ≤ b) {a : Option Addr} {n c : Nat} {cls : List (List Int)} (H : IntssAt hb a n cls) (hl : cls.length < 1000000) (hll : ∀ l ∈ cls, l.length < 1000000) (hlit : ∀ l ∈ cls, ∀ x ∈ l, Lit x ∧ x.natAbs < N) (hN32 : N < 32) {P : List Int × Bool} {x0 : Int} {a2 : Option Addr} {n2 c2 : Nat} {xs : List Int} (X : IntsAt hb a2 n2 xs) (hxl : xs.length < 1000000) (hx : ∀ x ∈ xs, Lit x ∧ x.natAbs < N) :
    ∀ (d k : Nat), k + d = xs.length → ∀ {ts : List Int} {h : Hp}, TV ts → ts.length = N → TsAt h b ts → Kp hb.nx hb h → P = endR cls (layRs ts (xs.drop k)) →
      I92_0 O (QProp hb P) x0 a n c a2 n2 c2 none 0 0 false (some ⟨b, 0, none⟩) N cN (Int.ofNat k) h := by
  have hn := X.1
  intro d
  induction d with
  | zero =>
    intro k hk ts h tv hN T K hp
    refine I92_0.of _ _ _ _ _ _ _ _ _ _ _ _ _ _ _ ?_
    intros
    unfold T92_0
    rw [List.drop_of_length_le (by omega)] at hp
    have hz : zeros ts < 32 := Nat.lt_of_le_of_lt (List.length_filter_le _ _) (by omega)
    exact vcond_f (by rw [ltI_nat]; exact blt_f (by omega)) (lp92_1 hO ok hbb H hl hll hlit 32 hz tv hN T K hp ..)
  | succ d ih =>
    intro k hk ts h tv hN T K hp
    subst hN
    refine I92_0.of _ _ _ _ _ _ _ _ _ _ _ _ _ _ _ ?_
    intros
    unfold T92_0
    have e1 : xs.drop k = xs[k] :: xs.drop (k + 1) := List.drop_eq_getElem_cons (by omega)
    rw [e1] at hp
    simp only [layRs] at hp
    have hxk := hx xs[k] (List.getElem_mem _)
    obtain ⟨v, h5, e5, rfl, T5, K5⟩ := ct121 hO (c := cN) hbb (fun q hq => by rw [K.gd] at hq; exact ok.gd q hq) T tv hxk.1 hxk.2
    refine vcond_t (by rw [ltI_nat]; exact blt_t (by omega)) (isNat_of (X.get (k := k) (by omega) fun b' off _ hlt hrd => vreq_t (blt_t (by omega)) ⟨_, by rw [readAt_kp K hlt]; exact hrd, _, _, e5, vcond_split (fun h1 => ?_) fun h1 => ?_⟩))
    · have h1 : (layR ts xs[k]).2 = false := by simpa using h1
      rw [if_neg (by rw [h1]; decide)] at hp
      have hp : P = ([], false) := hp
      subst hp
      exact ⟨_, _, _, rfl, K.trans K5, fun h => by cases h⟩
    · have h1 : (layR ts xs[k]).2 = true := by simpa using h1
      rw [if_pos h1] at hp
      rw [wrap_succ (by omega)]
      exact ih (k + 1) (by omega) (tv.lay _) (layR_len ..) T5 (K.trans K5) hp ..
theorem ct92 {h : Hp} (ok : h.Ok) {a : Option Addr} {n c : Nat} {cls : List (List Int)} (H : IntssAt h a n cls) (hl : cls.length < 1000000) (hll : ∀ l ∈ cls, l.length < 1000000) {vars : Nat} (hv : vars ≤ 30) (hlit : ∀ l ∈ cls, ∀ x ∈ l, Lit x ∧ x.natAbs < vars + 1) {a2 : Option Addr} {n2 c2 : Nat} {xs : List Int} (X : IntsAt h a2 n2 xs) (hxl : xs.length < 1000000) (hx : ∀ x ∈ xs, Lit x ∧ x.natAbs < vars + 1) :
    Ret Tryd.prog O 92 [.int .i64 (Int.ofNat vars), .slice a n c, .slice a2 n2 c2] h (QProp h (propR vars cls xs)) := by
  refine rk92 _ _ _ _ _ _ _ (hO _ _ _ (by decide)) ?_
  unfold T92
  rw [wrap_succ (by omega)]
  refine isNat_of (isNat_of (vreq_t (ble_t (Nat.le_refl _)) (vreq_t (ble_t (by omega)) (vreq_t (blt_t (by unfold big; omega)) ?_))))
  have er : List.flatten (List.replicate (vars + 1) [Value.int .i64 0]) = (List.replicate (vars + 1) (0 : Int)).map (Value.int .i64) := by simp [List.replicate_succ]
  rw [er]
  refine lp92_0 hO ok (Nat.le_refl _) H hl hll hlit (by omega) X hxl hx xs.length 0 (by omega) (ts := List.replicate (vars + 1) 0) (fun t ht => ?_) (by simp) ⟨by rw [nx_add]; omega, get_add_same ..⟩ ((Kp.refl _ _).add (Nat.le_refl _) _) rfl ..
  obtain rfl := (List.mem_replicate.1 ht).2
  omega
end
end Go.Proofs.YtfgfhplgnfbaaaaDoor
/- The plain law of propagation: both ways to propagate end with the same literals, or both clash. -/
namespace Go.Proofs.YtfgfhplgnfbaaaaDoor
open Go Go.Ev
/-- What follows by unit clauses. -/
inductive Der (cls : List (List Int)) (xs : List Int) : Int → Prop
  | base {x : Int} : x ∈ xs → Der cls xs x
  | unit {l : List Int} {x : Int} : l ∈ cls → x ∈ l → (∀ y ∈ l, y ≠ x → Der cls xs (-y)) → Der cls xs x
def Cl (cls : List (List Int)) (xs : List Int) : Prop := (∃ x, Der cls xs x ∧ Der cls xs (-x)) ∨ ∃ l ∈ cls, ∀ y ∈ l, Der cls xs (-y)
structure Calm (cls : List (List Int)) (xs : List Int) (T : Int → Prop) : Prop where
  con : ∀ x, T x → T (-x) → False
  beg : ∀ x ∈ xs, T x
  cl : ∀ l ∈ cls, (∃ x ∈ l, T x) ∨ ∃ x ∈ l, ∃ z ∈ l, x ≠ z ∧ ¬ T x ∧ ¬ T (-x) ∧ ¬ T z ∧ ¬ T (-z)
theorem Calm.all {cls : List (List Int)} {xs : List Int} {T : Int → Prop} (C : Calm cls xs T) {x : Int} (h : Der cls xs x) : T x := by
  induction h with
  | base h => exact C.beg _ h
  | @unit l x hl hx _ ih =>
    rcases C.cl l hl with ⟨z, hz, hT⟩ | ⟨z, hz, w, hw, hne, h1, h2, h3, h4⟩
    · by_cases e : z = x
      · rw [← e]; exact hT
      · exact (C.con z hT (ih z hz e)).elim
    · by_cases e : z = x
      · have : w ≠ x := fun hh => hne (e.trans hh.symm)
        exact (h4 (ih w hw this)).elim
      · exact (h2 (ih z hz e)).elim
theorem Calm.not {cls : List (List Int)} {xs : List Int} {T : Int → Prop} (C : Calm cls xs T) : ¬ Cl cls xs := by
  rintro (⟨x, h1, h2⟩ | ⟨l, hl, h⟩)
  · exact C.con x (C.all h1) (C.all h2)
  · rcases C.cl l hl with ⟨z, hz, hT⟩ | ⟨z, hz, w, hw, hne, h1, h2, h3, h4⟩
    · exact C.con z hT (C.all (h z hz))
    · exact h2 (C.all (h z hz))
/-- A clause's variables differ. -/
def Dif (l : List Int) : Prop := l.Pairwise fun x z => x.natAbs < z.natAbs
theorem clB_dif {vars : Int} : ∀ {l : List Int} {last : Int}, 0 ≤ last → clB vars last l = true → Dif l := by
  intro l
  induction l with
  | nil => intro _ _ _; exact List.Pairwise.nil
  | cons x l ih =>
    intro last h0 h
    have hx := (clB_lit h0 h x (List.mem_cons_self ..)).1
    simp only [clB] at h
    split at h
    · cases h
    · have h1 : 0 ≤ varI x := by rw [varI_lit2 hx]; omega
      refine List.pairwise_cons.2 ⟨fun z hz => ?_, ih h1 h⟩
      have := clB_gt h z hz
      rw [varI_lit2 hx, varI_lit2 (clB_lit h1 h z hz).1] at this
      omega
theorem Dif.eq {l : List Int} (h : Dif l) {x z : Int} (hx : x ∈ l) (hz : z ∈ l) (e : x.natAbs = z.natAbs) : x = z := by
  induction l with
  | nil => cases hx
  | cons w l ih =>
    have hp := List.pairwise_cons.1 h
    rcases List.mem_cons.1 hx with e1 | hx1 <;> rcases List.mem_cons.1 hz with e2 | hz1
    · rw [e1, e2]
    · have := hp.1 z hz1; rw [← e1] at this; omega
    · have := hp.1 x hx1; rw [← e2] at this; omega
    · exact ih hp.2 hx1 hz1
/-! ### by masks -/
def trM (y m : Nat) (x : Int) : Prop := (0 < x ∧ y.testBit (x.natAbs - 1) = true) ∨ (x < 0 ∧ m.testBit (x.natAbs - 1) = true)
theorem trM_neg {y m : Nat} {x : Int} : trM y m (-x) ↔ (x < 0 ∧ y.testBit (x.natAbs - 1) = true) ∨ (0 < x ∧ m.testBit (x.natAbs - 1) = true) := by
  unfold trM
  rw [Int.natAbs_neg]
  constructor
  · rintro (⟨a, b⟩ | ⟨a, b⟩)
    · exact .inl ⟨by omega, b⟩
    · exact .inr ⟨by omega, b⟩
  · rintro (⟨a, b⟩ | ⟨a, b⟩)
    · exact .inl ⟨by omega, b⟩
    · exact .inr ⟨by omega, b⟩
theorem trM_with {y m : Nat} {x z : Int} (hx : Lit x) : trM (withN y m x).1 (withN y m x).2 z ↔ trM y m z ∨ z = x := by
  have hw := withN_test (y := y) (m := m) hx (z.natAbs - 1)
  unfold trM
  rw [hw.1, hw.2]
  simp only [Bool.or_eq_true, decide_eq_true_eq]
  have := hx.1
  constructor
  · rintro (⟨a, b | b⟩ | ⟨a, b | b⟩)
    · exact .inl (.inl ⟨a, b⟩)
    · exact .inr (by omega)
    · exact .inl (.inr ⟨a, b⟩)
    · exact .inr (by omega)
  · rintro ((⟨a, b⟩ | ⟨a, b⟩) | rfl)
    · exact .inl ⟨a, .inl b⟩
    · exact .inr ⟨a, .inl b⟩
    · rcases Int.lt_or_gt_of_ne this with h | h
      · exact .inr ⟨h, .inr (by omega)⟩
      · exact .inl ⟨h, .inr (by omega)⟩
theorem trM_con {y m : Nat} (h : y &&& m = 0) (x : Int) : trM y m x → trM y m (-x) → False := by
  intro h1 h2
  have := (and_zero_iff y m).1 h (x.natAbs - 1)
  rw [trM_neg] at h2
  rcases h1 with ⟨a, b⟩ | ⟨a, b⟩ <;> rcases h2 with ⟨c, d⟩ | ⟨c, d⟩
  · omega
  · exact this ⟨b, d⟩
  · exact this ⟨d, b⟩
  · omega
/-- A clause has a literal that is true. -/
theorem sat_mask {l : List Int} (hl : ∀ x ∈ l, Lit x) (y m : Nat) : (((sideN l).1 &&& y) ||| ((sideN l).2 &&& m) = 0) ↔ ∀ x ∈ l, ¬ trM y m x := by
  have hs := fun i => sideF_test (y := 0) (m := 0) hl i
  rw [or_zero_iff]
  simp only [Nat.testBit_and]
  unfold sideN
  simp only [fun i => (hs i).1, fun i => (hs i).2, Nat.zero_testBit, Bool.false_or, Bool.and_eq_false_iff, decide_eq_false_iff_not]
  constructor
  · rintro h x hx (⟨a, b⟩ | ⟨a, b⟩)
    · have := (h (x.natAbs - 1)).1
      rw [show ((x.natAbs - 1 + 1 : Nat) : Int) = x by omega] at this
      rcases this with h | h
      · exact h hx
      · rw [b] at h; cases h
    · have := (h (x.natAbs - 1)).2
      rw [show -((x.natAbs - 1 + 1 : Nat) : Int) = x by omega] at this
      rcases this with h | h
      · exact h hx
      · rw [b] at h; cases h
  · intro h i
    constructor
    · by_cases hx : ((i + 1 : Nat) : Int) ∈ l
      · right
        have := h _ hx
        cases hb : y.testBit i with
        | false => rfl
        | true => exact (this (.inl ⟨by omega, by rw [show ((i + 1 : Nat) : Int).natAbs - 1 = i by omega]; exact hb⟩)).elim
      · exact .inl hx
    · by_cases hx : -((i + 1 : Nat) : Int) ∈ l
      · right
        have := h _ hx
        cases hb : m.testBit i with
        | false => rfl
        | true => exact (this (.inr ⟨by omega, by rw [show (-((i + 1 : Nat) : Int)).natAbs - 1 = i by omega]; exact hb⟩)).elim
      · exact .inl hx
/-- The variables of a clause's literals that are not false. -/
theorem open_mask {l : List Int} (hl : ∀ x ∈ l, Lit x) (y m i : Nat) : (((sideN l).1 - ((sideN l).1 &&& m)) ||| ((sideN l).2 - ((sideN l).2 &&& y))).testBit i = true ↔ ∃ x ∈ l, x.natAbs = i + 1 ∧ ¬ trM y m (-x) := by
  have hs := sideF_test (y := 0) (m := 0) hl i
  rw [Nat.testBit_or, testBit_andn, testBit_andn]
  unfold sideN
  rw [hs.1, hs.2]
  simp only [Nat.zero_testBit, Bool.false_or, Bool.or_eq_true, Bool.and_eq_true, decide_eq_true_eq, Bool.not_eq_true']
  constructor
  · rintro (⟨a, b⟩ | ⟨a, b⟩)
    · refine ⟨_, a, by omega, fun h => ?_⟩
      rw [trM_neg] at h
      rcases h with ⟨h, _⟩ | ⟨_, h⟩
      · omega
      · rw [show ((i + 1 : Nat) : Int).natAbs - 1 = i by omega, b] at h; cases h
    · refine ⟨_, a, by omega, fun h => ?_⟩
      rw [trM_neg] at h
      rcases h with ⟨_, h⟩ | ⟨h, _⟩
      · rw [show (-((i + 1 : Nat) : Int)).natAbs - 1 = i by omega, b] at h; cases h
      · omega
  · rintro ⟨x, hx, e, hn⟩
    rw [trM_neg] at hn
    have h0 := (hl x hx).1
    rcases Int.lt_or_gt_of_ne h0 with h | h
    · right
      have hxe : x = -((i + 1 : Nat) : Int) := by omega
      refine ⟨by rw [← hxe]; exact hx, ?_⟩
      cases hb : y.testBit i with
      | false => rfl
      | true => exact (hn (.inl ⟨h, by rw [show x.natAbs - 1 = i by omega]; exact hb⟩)).elim
    · left
      have hxe : x = ((i + 1 : Nat) : Int) := by omega
      refine ⟨by rw [← hxe]; exact hx, ?_⟩
      cases hb : m.testBit i with
      | false => rfl
      | true => exact (hn (.inr ⟨h, by rw [show x.natAbs - 1 = i by omega]; exact hb⟩)).elim
section
variable {cls : List (List Int)} {xs : List Int}
theorem layN_ok : ∀ {ys : List Int} {y m : Nat}, (∀ x ∈ ys, Lit x ∧ x ∈ xs) → (∀ z, trM y m z → Der cls xs z) → y &&& m = 0 →
    ((layN ys y m).2 = true → (∀ z, trM (layN ys y m).1.1 (layN ys y m).1.2 z → Der cls xs z) ∧ (layN ys y m).1.1 &&& (layN ys y m).1.2 = 0 ∧ (∀ x ∈ ys, trM (layN ys y m).1.1 (layN ys y m).1.2 x) ∧ ∀ z, trM y m z → trM (layN ys y m).1.1 (layN ys y m).1.2 z) ∧
    ((layN ys y m).2 = false → ∃ x, Der cls xs x ∧ Der cls xs (-x)) := by
  intro ys
  induction ys with
  | nil => intro y m _ hs hc; exact ⟨fun _ => ⟨hs, hc, fun x hx => (by cases hx), fun z h => h⟩, fun h => by cases h⟩
  | cons x ys ih =>
    intro y m hl hs hc
    have hx := hl x (List.mem_cons_self ..)
    have hs' : ∀ z, trM (withN y m x).1 (withN y m x).2 z → Der cls xs z := fun z h => by
      rcases (trM_with hx.1).1 h with h | rfl
      · exact hs z h
      · exact .base hx.2
    simp only [layN]
    split
    · rename_i h0
      obtain ⟨a, b⟩ := ih (fun z hz => hl z (List.mem_cons_of_mem _ hz)) hs' h0
      refine ⟨fun h => ?_, b⟩
      obtain ⟨a1, a2, a3, a4⟩ := a h
      refine ⟨a1, a2, fun z hz => ?_, fun z hz => a4 z ((trM_with hx.1).2 (.inl hz))⟩
      rcases List.mem_cons.1 hz with rfl | hz
      · exact a4 z ((trM_with hx.1).2 (.inr rfl))
      · exact a3 z hz
    · rename_i h0
      refine ⟨fun h => (by cases h), fun _ => ?_⟩
      -- both contraries are true
      obtain ⟨i, hi⟩ := Classical.not_forall.1 (fun h => h0 ((and_zero_iff _ _).2 h))
      have hi := Classical.not_not.1 hi
      refine ⟨((i + 1 : Nat) : Int), hs' _ (.inl ⟨by omega, ?_⟩), hs' _ (.inr ⟨by omega, ?_⟩)⟩
      · rw [show ((i + 1 : Nat) : Int).natAbs - 1 = i by omega]; exact hi.1
      · rw [show (-((i + 1 : Nat) : Int)).natAbs - 1 = i by omega]; exact hi.2
theorem stepS_ok (hd : ∀ l ∈ cls, (∀ x ∈ l, Lit x) ∧ Dif l) {y m : Nat} (hs : ∀ z, trM y m z → Der cls xs z) (hc : y &&& m = 0) : ∀ {cs : List (List Int)}, (∀ l ∈ cs, l ∈ cls) →
    (stepS y m (cs.map sideN) = none → ∀ l ∈ cs, (∃ x ∈ l, trM y m x) ∨ ∃ x ∈ l, ∃ z ∈ l, x ≠ z ∧ ¬ trM y m x ∧ ¬ trM y m (-x) ∧ ¬ trM y m z ∧ ¬ trM y m (-z)) ∧
    (stepS y m (cs.map sideN) = some none → ∃ l ∈ cls, ∀ x ∈ l, Der cls xs (-x)) ∧
    (∀ p, stepS y m (cs.map sideN) = some (some p) → ∃ x, Lit x ∧ Der cls xs x ∧ ¬ trM y m (-x) ∧ p = withN y m x) := by
  intro cs
  induction cs with
  | nil => intro _; exact ⟨fun _ l hl => (by cases hl), fun h => (by cases h), fun p h => by cases h⟩
  | cons l cs ih =>
    intro hsub
    have hlc := hsub l (List.mem_cons_self ..)
    obtain ⟨hl, hdl⟩ := hd l hlc
    obtain ⟨i1, i2, i3⟩ := ih fun l h => hsub l (List.mem_cons_of_mem _ h)
    have hz := open_mask hl y m
    have hlt : ((sideN l).1 - ((sideN l).1 &&& m)) ||| ((sideN l).2 - ((sideN l).2 &&& y)) < 2 ^ 30 := by
      have := sideF_lt hl (y := 0) (m := 0) (by decide) (by decide)
      exact Nat.or_lt_two_pow (Nat.lt_of_le_of_lt (Nat.sub_le _ _) this.1) (Nat.lt_of_le_of_lt (Nat.sub_le _ _) this.2)
    rw [List.map_cons]
    simp only [stepS]
    by_cases h0 : ((sideN l).1 &&& y) ||| ((sideN l).2 &&& m) = 0
    · rw [if_pos h0]
      have hun := (sat_mask hl y m).1 h0
      by_cases h1 : popN (((sideN l).1 - ((sideN l).1 &&& m)) ||| ((sideN l).2 - ((sideN l).2 &&& y))) = 0
      · rw [if_pos h1]
        refine ⟨fun h => (by cases h), fun _ => ⟨l, hlc, fun x hx => hs _ ?_⟩, fun p h => by cases h⟩
        have hu := (popN_zero (by omega)).1 h1
        apply Classical.byContradiction
        intro hn
        have := (hz (x.natAbs - 1)).2 ⟨x, hx, by have := (hl x hx).1; omega, hn⟩
        rw [hu, Nat.zero_testBit] at this
        cases this
      · rw [if_neg h1]
        by_cases h2 : popN (((sideN l).1 - ((sideN l).1 &&& m)) ||| ((sideN l).2 - ((sideN l).2 &&& y))) = 1
        · rw [if_pos h2]
          refine ⟨fun h => (by cases h), fun h => (by cases h), fun p h => ?_⟩
          injection h with h; injection h with h
          obtain ⟨i, hi, e⟩ := (popN_one (by omega)).1 h2
          obtain ⟨x, hx, ex, hn⟩ := (hz i).1 (by rw [e, Nat.testBit_two_pow_self])
          refine ⟨x, hl x hx, .unit hlc hx (fun w hw hne => hs _ ?_), hn, ?_⟩
          · apply Classical.byContradiction
            intro hnw
            have := (hz (w.natAbs - 1)).2 ⟨w, hw, by have := (hl w hw).1; omega, hnw⟩
            rw [e, Nat.testBit_two_pow] at this
            have : i = w.natAbs - 1 := by simpa using this
            exact hne (hdl.eq hw hx (by have := (hl w hw).1; omega))
          · rw [← h]
            have hsp := fun j => sideF_test (y := 0) (m := 0) hl j
            have pj : ∀ j, ((sideN l).1 - ((sideN l).1 &&& m)).testBit j = true → j = i ∧ x = ((i + 1 : Nat) : Int) := fun j hj => by
              have h3 := congrArg (fun z => z.testBit j) e
              simp only [Nat.testBit_or, hj, Bool.true_or, Nat.testBit_two_pow] at h3
              have hji : i = j := by simpa using h3.symm
              subst hji
              refine ⟨rfl, ?_⟩
              rw [testBit_andn, Bool.and_eq_true] at hj
              have h4 := hj.1
              unfold sideN at h4
              rw [(hsp i).1, Nat.zero_testBit, Bool.false_or] at h4
              exact hdl.eq hx (of_decide_eq_true h4) (by omega)
            have mj : ∀ j, ((sideN l).2 - ((sideN l).2 &&& y)).testBit j = true → j = i ∧ x = -((i + 1 : Nat) : Int) := fun j hj => by
              have h3 := congrArg (fun z => z.testBit j) e
              simp only [Nat.testBit_or, hj, Bool.or_true, Nat.testBit_two_pow] at h3
              have hji : i = j := by simpa using h3.symm
              subst hji
              refine ⟨rfl, ?_⟩
              rw [testBit_andn, Bool.and_eq_true] at hj
              have h4 := hj.1
              unfold sideN at h4
              rw [(hsp i).2, Nat.zero_testBit, Bool.false_or] at h4
              exact hdl.eq hx (of_decide_eq_true h4) (by omega)
            have hb : bitN x = 2 ^ i := by unfold bitN; rw [ex, Nat.add_sub_cancel]
            unfold withN
            by_cases hp : 0 < x
            · have m0 : (sideN l).2 - ((sideN l).2 &&& y) = 0 := Nat.eq_of_testBit_eq fun j => by
                rw [Nat.zero_testBit]
                cases hj : ((sideN l).2 - ((sideN l).2 &&& y)).testBit j with
                | false => rfl
                | true => have := (mj j hj).2; omega
              rw [m0, Nat.or_zero] at e
              rw [if_pos hp, m0, e, hb, Nat.or_zero]
            · have p0 : (sideN l).1 - ((sideN l).1 &&& m) = 0 := Nat.eq_of_testBit_eq fun j => by
                rw [Nat.zero_testBit]
                cases hj : ((sideN l).1 - ((sideN l).1 &&& m)).testBit j with
                | false => rfl
                | true => have := (pj j hj).2; omega
              rw [p0, Nat.zero_or] at e
              rw [if_neg hp, p0, e, hb, Nat.or_zero]
        · rw [if_neg h2]
          refine ⟨fun h w hw => ?_, i2, i3⟩
          rcases List.mem_cons.1 hw with rfl | hw
          · right
            have hu : ((sideN w).1 - ((sideN w).1 &&& m)) ||| ((sideN w).2 - ((sideN w).2 &&& y)) ≠ 0 := fun hh => h1 ((popN_zero (by omega)).2 hh)
            obtain ⟨i, hi⟩ := Nat.exists_testBit_of_ne_zero hu
            obtain ⟨x, hx, ex, hnx⟩ := (hz i).1 hi
            have hex : ∃ j, j ≠ i ∧ (((sideN w).1 - ((sideN w).1 &&& m)) ||| ((sideN w).2 - ((sideN w).2 &&& y))).testBit j = true := by
              apply Classical.byContradiction
              intro hn
              have hi30 : i < 30 := by
                apply Classical.byContradiction
                intro hge
                rw [Nat.testBit_lt_two_pow (Nat.lt_of_lt_of_le hlt (Nat.pow_le_pow_right (by decide) (by omega)))] at hi
                cases hi
              refine h2 ((popN_one (by omega)).2 ⟨i, by omega, Nat.eq_of_testBit_eq fun j => ?_⟩)
              rw [Nat.testBit_two_pow]
              by_cases hji : i = j
              · subst hji; rw [hi]; simp
              · rw [decide_eq_false hji]
                cases hj : (((sideN w).1 - ((sideN w).1 &&& m)) ||| ((sideN w).2 - ((sideN w).2 &&& y))).testBit j with
                | false => rfl
                | true => exact (hn ⟨j, fun hh => hji hh.symm, hj⟩).elim
            obtain ⟨j, hji, hj⟩ := hex
            obtain ⟨z, hz2, ez, hnz⟩ := (hz j).1 hj
            exact ⟨x, hx, z, hz2, fun hh => hji (by rw [hh] at ex; omega), hun x hx, hnx, hun z hz2, hnz⟩
          · exact i1 h w hw
    · rw [if_neg h0]
      refine ⟨fun h w hw => ?_, i2, i3⟩
      rcases List.mem_cons.1 hw with rfl | hw
      · left
        apply Classical.byContradiction
        intro hn
        exact h0 ((sat_mask hl y m).2 fun x hx hT => hn ⟨x, hx, hT⟩)
      · exact i1 h w hw
end
end Go.Proofs.YtfgfhplgnfbaaaaDoor
/- The plain law of propagation, continued: to the end, both ways. -/
namespace Go.Proofs.YtfgfhplgnfbaaaaDoor
open Go Go.Ev
section
variable {cls : List (List Int)} {xs : List Int}
theorem with_con {y m : Nat} {x : Int} (hx : Lit x) (hc : y &&& m = 0) (hn : ¬ trM y m (-x)) : (withN y m x).1 &&& (withN y m x).2 = 0 := by
  refine (and_zero_iff _ _).2 fun i hi => ?_
  have h1 : trM (withN y m x).1 (withN y m x).2 ((i + 1 : Nat) : Int) := .inl ⟨by omega, by rw [show ((i + 1 : Nat) : Int).natAbs - 1 = i by omega]; exact hi.1⟩
  have h2 : trM (withN y m x).1 (withN y m x).2 (-((i + 1 : Nat) : Int)) := .inr ⟨by omega, by rw [show (-((i + 1 : Nat) : Int)).natAbs - 1 = i by omega]; exact hi.2⟩
  rcases (trM_with hx).1 h1 with h1 | h1 <;> rcases (trM_with hx).1 h2 with h2 | h2
  · exact trM_con hc _ h1 h2
  · rw [← h2, Int.neg_neg] at hn; exact hn h1
  · rw [← h1] at hn; exact hn h2
  · omega
theorem spreadF_ok (hd : ∀ l ∈ cls, (∀ x ∈ l, Lit x) ∧ Dif l) : ∀ (d : Nat) {y m : Nat}, y < 2 ^ 30 → m < 2 ^ 30 → freeN (y ||| m) < d → (∀ z, trM y m z → Der cls xs z) → y &&& m = 0 → (∀ x ∈ xs, trM y m x) →
    ((spreadF (cls.map sideN) d y m).2 = true → Calm cls xs (trM (spreadF (cls.map sideN) d y m).1.1 (spreadF (cls.map sideN) d y m).1.2) ∧ ∀ z, trM (spreadF (cls.map sideN) d y m).1.1 (spreadF (cls.map sideN) d y m).1.2 z → Der cls xs z) ∧ ((spreadF (cls.map sideN) d y m).2 = false → Cl cls xs) := by
  intro d
  induction d with
  | zero => intro y m _ _ h; omega
  | succ d ih =>
    intro y m hy hm hf hs hc hb
    have hss : ∀ c ∈ cls.map sideN, c.1 < 2 ^ 30 ∧ c.2 < 2 ^ 30 := fun c hc => by
      obtain ⟨l, hl, rfl⟩ := List.mem_map.1 hc
      exact sideF_lt (hd l hl).1 (by decide) (by decide)
    obtain ⟨s1, s2, s3⟩ := stepS_ok hd hs hc (cs := cls) fun _ h => h
    simp only [spreadF]
    cases hst : stepS y m (cls.map sideN) with
    | none => exact ⟨fun _ => ⟨⟨trM_con hc, hb, s1 hst⟩, hs⟩, fun h => by cases h⟩
    | some o =>
      cases o with
      | none => exact ⟨fun h => (by cases h), fun _ => .inr (s2 hst)⟩
      | some p =>
        obtain ⟨x, hx, hD, hn, rfl⟩ := s3 p hst
        obtain ⟨f1, f2, f3⟩ := stepS_free hy hm hss hst
        refine ih f2 f3 (by omega) (fun z hz => ?_) (with_con hx hc hn) fun z hz => (trM_with hx).2 (.inl (hb z hz))
        rcases (trM_with hx).1 hz with h | rfl
        · exact hs z h
        · exact hD
theorem layN_lt : ∀ {ys : List Int} {y m : Nat}, (∀ x ∈ ys, Lit x) → y < 2 ^ 30 → m < 2 ^ 30 → (layN ys y m).1.1 < 2 ^ 30 ∧ (layN ys y m).1.2 < 2 ^ 30 := by
  intro ys
  induction ys with
  | nil => intro y m _ hy hm; exact ⟨hy, hm⟩
  | cons x ys ih =>
    intro y m hl hy hm
    have w := withN_lt (hl x (List.mem_cons_self ..)) hy hm
    simp only [layN]
    split
    · exact ih (fun z hz => hl z (List.mem_cons_of_mem _ hz)) w.1 w.2
    · exact w
theorem fromN_ok (hd : ∀ l ∈ cls, (∀ x ∈ l, Lit x) ∧ Dif l) (hx : ∀ x ∈ xs, Lit x) :
    ((fromN (cls.map sideN) xs).2 = true → Calm cls xs (trM (fromN (cls.map sideN) xs).1.1 (fromN (cls.map sideN) xs).1.2) ∧ ∀ z, trM (fromN (cls.map sideN) xs).1.1 (fromN (cls.map sideN) xs).1.2 z → Der cls xs z) ∧ ((fromN (cls.map sideN) xs).2 = false → Cl cls xs) := by
  have z0 : ∀ z, ¬ trM 0 0 z := fun z h => by
    rcases h with ⟨_, h⟩ | ⟨_, h⟩ <;> simp at h
  obtain ⟨a, b⟩ := layN_ok (cls := cls) (xs := xs) (ys := xs) (y := 0) (m := 0) (fun x h => ⟨hx x h, h⟩) (fun z h => (z0 z h).elim) rfl
  have lt := layN_lt (ys := xs) (y := 0) (m := 0) hx (by decide) (by decide)
  unfold fromN fromR
  cases hl : (layN xs 0 0).2 with
  | false => exact ⟨fun h => (by rw [if_neg (by decide), hl] at h; cases h), fun _ => .inl (b hl)⟩
  | true =>
    obtain ⟨a1, a2, a3, _⟩ := a hl
    rw [if_pos rfl]
    have := freeN_le ((layN xs 0 0).1.1 ||| (layN xs 0 0).1.2)
    exact spreadF_ok hd 31 lt.1 lt.2 (by omega) a1 a2 a3
/-! ### by truths -/
def trT (ts : List Int) (x : Int) : Prop := x ≠ 0 ∧ 0 < tvR ts x
theorem tvR_neg {ts : List Int} {x : Int} (hx : x ≠ 0) : tvR ts (-x) = -(tvR ts x) := by
  unfold tvR
  rcases Int.lt_or_gt_of_ne hx with h | h
  · rw [if_neg (by omega), if_pos h, Int.neg_neg]
  · rw [if_pos (by omega), if_neg (by omega), Int.neg_neg]
theorem trT_con {ts : List Int} (x : Int) (h1 : trT ts x) (h2 : trT ts (-x)) : False := by
  have a := h1.2
  have b := h2.2
  rw [tvR_neg h1.1] at b
  omega
theorem trT_lay {ts : List Int} {x z : Int} (hx : Lit x) (hx2 : x.natAbs < ts.length) (hn : ¬ tvR ts x < 0) : trT (ts.set x.natAbs (if x < 0 then -1 else 1)) z ↔ trT ts z ∨ z = x := by
  have h0 := hx.1
  unfold trT
  by_cases hz : z = 0
  · subst hz
    constructor
    · intro h; exact absurd rfl h.1
    · rintro (h | h)
      · exact absurd rfl h.1
      · exact absurd h.symm h0
  by_cases e : z.natAbs = x.natAbs
  · have hz2 : z.natAbs < (ts.set x.natAbs (if x < 0 then -1 else 1)).length := by simpa [e] using hx2
    have hz3 : z.natAbs < ts.length := by omega
    have hg : (ts.set x.natAbs (if x < 0 then -1 else 1))[z.natAbs]'hz2 = if x < 0 then -1 else 1 := by
      rw [List.getElem_set]; rw [if_pos e.symm]
    rw [tvR_nat hz2, hg, tvR_nat hz3]
    rw [tvR_nat hx2] at hn
    have e2 : ts[z.natAbs] = ts[x.natAbs] := by congr 1
    rw [e2]
    constructor
    · intro h
      right
      rcases Int.natAbs_eq_natAbs_iff.1 e with h1 | h1
      · exact h1
      · have := h.2
        split at this <;> split at this <;> omega
    · rintro (⟨_, h⟩ | rfl)
      · refine ⟨hz, ?_⟩
        rcases Int.natAbs_eq_natAbs_iff.1 e with h1 | h1
        · subst h1; split <;> omega
        · split at h <;> split at hn <;> omega
      · refine ⟨hz, ?_⟩
        split <;> omega
  · have : tvR (ts.set x.natAbs (if x < 0 then -1 else 1)) z = tvR ts z := by
      unfold tvR
      split
      · rw [List.getD_eq_getElem?_getD, List.getD_eq_getElem?_getD, List.getElem?_set_ne (by omega)]
      · rw [List.getD_eq_getElem?_getD, List.getD_eq_getElem?_getD, List.getElem?_set_ne (by omega)]
    rw [this]
    constructor
    · exact .inl
    · rintro (h | rfl)
      · exact h
      · exact absurd rfl e
/-- The open literals. -/
theorem openR_eq {ts : List Int} : ∀ {l : List Int} {n : Nat} {z : Int}, openR ts l n z = (n + (l.filter (fun x => tvR ts x == 0)).length, (l.filter (fun x => tvR ts x == 0)).getLastD z) := by
  intro l
  induction l with
  | nil => intro n z; rfl
  | cons x l ih =>
    intro n z
    simp only [openR, List.filter_cons]
    by_cases h : tvR ts x = 0
    · rw [if_pos h, ih, show (tvR ts x == 0) = true by simpa using h, if_pos rfl, List.length_cons, List.getLastD_cons]
      congr 1; omega
    · rw [if_neg h, ih, show (tvR ts x == 0) = false by simpa using h, if_neg (by decide)]
theorem satR_trT {ts : List Int} {l : List Int} (hl : ∀ x ∈ l, Lit x) : satR ts l = true ↔ ∃ x ∈ l, trT ts x := by
  unfold satR
  rw [List.any_eq_true]
  constructor
  · rintro ⟨x, hx, h⟩; exact ⟨x, hx, (hl x hx).1, of_decide_eq_true h⟩
  · rintro ⟨x, hx, _, h⟩; exact ⟨x, hx, decide_eq_true h⟩
theorem layRs_ok {N : Nat} : ∀ {ys : List Int} {ts : List Int}, (∀ x ∈ ys, Lit x ∧ x.natAbs < N ∧ x ∈ xs) → ts.length = N → TV ts → (∀ z, trT ts z → Der cls xs z) →
    ((layRs ts ys).2 = true → (∀ z, trT (layRs ts ys).1 z → Der cls xs z) ∧ (∀ x ∈ ys, trT (layRs ts ys).1 x) ∧ (∀ z, trT ts z → trT (layRs ts ys).1 z) ∧ (layRs ts ys).1.length = N ∧ TV (layRs ts ys).1) ∧
    ((layRs ts ys).2 = false → ∃ x, Der cls xs x ∧ Der cls xs (-x)) := by
  intro ys
  induction ys with
  | nil => intro ts _ hN tv hs; exact ⟨fun _ => ⟨hs, fun x hx => (by cases hx), fun z h => h, hN, tv⟩, fun h => (by cases h)⟩
  | cons x ys ih =>
    intro ts hl hN tv hs
    have hx := hl x (List.mem_cons_self ..)
    simp only [layRs]
    by_cases hn : tvR ts x < 0
    · have e : layR ts x = (ts, false) := by unfold layR; rw [if_pos hn]
      rw [e, if_neg (by simp)]
      refine ⟨fun h => (by cases h), fun _ => ⟨x, .base hx.2.2, hs _ ⟨by have := hx.1.1; omega, ?_⟩⟩⟩
      rw [tvR_neg hx.1.1]; omega
    · have e : layR ts x = (ts.set x.natAbs (if x < 0 then -1 else 1), true) := by unfold layR; rw [if_neg hn]
      have hlay := fun z => trT_lay (z := z) hx.1 (by rw [hN]; exact hx.2.1) hn
      have ltv := tv.lay x
      have llen := layR_len ts x
      rw [e] at ltv llen
      rw [e, if_pos rfl]
      obtain ⟨a, b⟩ := ih (ts := ts.set x.natAbs (if x < 0 then -1 else 1)) (fun z hz => hl z (List.mem_cons_of_mem _ hz)) (llen.trans hN) ltv (fun z hz => by
        rcases (hlay z).1 hz with h | rfl
        · exact hs z h
        · exact .base hx.2.2)
      refine ⟨fun h => ?_, b⟩
      obtain ⟨a1, a2, a3, a4, a5⟩ := a h
      refine ⟨a1, fun z hz => ?_, fun z hz => a3 z ((hlay z).2 (.inl hz)), a4, a5⟩
      rcases List.mem_cons.1 hz with rfl | hz
      · exact a3 z ((hlay z).2 (.inr rfl))
      · exact a2 z hz
theorem stepR_ok {N : Nat} (hd : ∀ l ∈ cls, (∀ x ∈ l, Lit x ∧ x.natAbs < N) ∧ Dif l) : ∀ {cs : List (List Int)} {ts : List Int} {more : Bool}, (∀ l ∈ cs, l ∈ cls) → ts.length = N → (∀ z, trT ts z → Der cls xs z) →
    (∀ z, trT (stepR cs ts more).1 z → Der cls xs z) ∧ (∀ z, trT ts z → trT (stepR cs ts more).1 z) ∧ ((stepR cs ts more).2.2 = true → ∃ l ∈ cls, ∀ x ∈ l, Der cls xs (-x)) ∧
    ((stepR cs ts more).2.1 = false → (stepR cs ts more).2.2 = false → more = false ∧ (stepR cs ts more).1 = ts ∧ ∀ l ∈ cs, (∃ x ∈ l, trT ts x) ∨ ∃ x ∈ l, ∃ z ∈ l, x ≠ z ∧ ¬ trT ts x ∧ ¬ trT ts (-x) ∧ ¬ trT ts z ∧ ¬ trT ts (-z)) := by
  intro cs
  induction cs with
  | nil => intro ts more _ _ hs; exact ⟨hs, fun z h => h, fun h => (by cases h), fun h _ => ⟨h, rfl, fun l hl => (by cases hl)⟩⟩
  | cons l cs ih =>
    intro ts more hsub hN hs
    have hlc := hsub l (List.mem_cons_self ..)
    obtain ⟨hl, hdl⟩ := hd l hlc
    have hsub' : ∀ l ∈ cs, l ∈ cls := fun l h => hsub l (List.mem_cons_of_mem _ h)
    have hopen : ∀ x ∈ l, tvR ts x = 0 → ¬ trT ts x ∧ ¬ trT ts (-x) := fun x hx h0 => ⟨fun h => by have := h.2; omega, fun h => by have := h.2; rw [tvR_neg (hl x hx).1.1] at this; omega⟩
    have hfalse : ∀ x ∈ l, ¬ trT ts x → tvR ts x ≠ 0 → Der cls xs (-x) := fun x hx hn h0 => hs _ ⟨by have := (hl x hx).1.1; omega, by
      rw [tvR_neg (hl x hx).1.1]
      have : ¬ 0 < tvR ts x := fun h => hn ⟨(hl x hx).1.1, h⟩
      omega⟩
    have hF : ∀ x, x ∈ l.filter (fun x => tvR ts x == 0) ↔ x ∈ l ∧ tvR ts x = 0 := fun x => by rw [List.mem_filter]; simp
    have hFd : (l.filter (fun x => tvR ts x == 0)).Pairwise fun x z => x.natAbs < z.natAbs := hdl.sublist List.filter_sublist
    have hop := openR_eq (ts := ts) (l := l) (n := 0) (z := 0)
    rw [Nat.zero_add] at hop
    simp only [stepR]
    rw [hop]
    generalize l.filter (fun x => tvR ts x == 0) = F at hF hFd
    by_cases hsat : satR ts l = true
    · rw [if_pos hsat]
      obtain ⟨a, b, c, d⟩ := ih (more := more) hsub' hN hs
      refine ⟨a, b, c, fun h1 h2 => ?_⟩
      obtain ⟨d1, d2, d3⟩ := d h1 h2
      refine ⟨d1, d2, fun w hw => ?_⟩
      rcases List.mem_cons.1 hw with rfl | hw
      · exact .inl ((satR_trT fun x hx => (hl x hx).1).1 hsat)
      · exact d3 w hw
    · rw [if_neg hsat]
      have hun : ∀ x ∈ l, ¬ trT ts x := fun x hx h => hsat ((satR_trT fun x hx => (hl x hx).1).2 ⟨x, hx, h⟩)
      match F, hF, hFd with
      | [], hF, _ =>
        rw [if_neg (by simp), if_pos (show (([] : List Int).length, ([] : List Int).getLastD 0).1 = 0 from rfl)]
        refine ⟨hs, fun z h => h, fun _ => ⟨l, hlc, fun x hx => hfalse x hx (hun x hx) fun h0 => ?_⟩, fun _ h => (by cases h)⟩
        have := (hF x).2 ⟨hx, h0⟩
        cases this
      | [w], hF, _ =>
        rw [if_neg (by simp), if_neg (by simp)]
        have hw := (hF w).1 (List.mem_singleton.2 rfl)
        have hn : ¬ tvR ts w < 0 := by omega
        have e : layR ts w = (ts.set w.natAbs (if w < 0 then -1 else 1), true) := by unfold layR; rw [if_neg hn]
        have hlay := fun z => trT_lay (z := z) (hl w hw.1).1 (by rw [hN]; exact (hl w hw.1).2) hn
        have llen := layR_len ts w
        show (∀ z, trT (stepR cs (layR ts w).1 true).1 z → _) ∧ (∀ z, trT ts z → trT (stepR cs (layR ts w).1 true).1 z) ∧ ((stepR cs (layR ts w).1 true).2.2 = true → _) ∧ ((stepR cs (layR ts w).1 true).2.1 = false → (stepR cs (layR ts w).1 true).2.2 = false → _ ∧ (stepR cs (layR ts w).1 true).1 = ts ∧ _)
        rw [e] at llen ⊢
        obtain ⟨a, b, c, d⟩ := ih (ts := ts.set w.natAbs (if w < 0 then -1 else 1)) (more := true) hsub' (llen.trans hN) (fun z hz => by
          rcases (hlay z).1 hz with h | rfl
          · exact hs z h
          · refine .unit hlc hw.1 fun v hv hne => hfalse v hv (hun v hv) fun h0 => hne ?_
            exact List.mem_singleton.1 ((hF v).2 ⟨hv, h0⟩))
        refine ⟨a, fun z hz => b z ((hlay z).2 (.inl hz)), c, fun h1 h2 => ?_⟩
        have := (d h1 h2).1
        cases this
      | x :: z :: F, hF, hFd =>
        rw [if_pos (by simp)]
        obtain ⟨a, b, c, d⟩ := ih (more := more) hsub' hN hs
        refine ⟨a, b, c, fun h1 h2 => ?_⟩
        obtain ⟨d1, d2, d3⟩ := d h1 h2
        refine ⟨d1, d2, fun w hw => ?_⟩
        rcases List.mem_cons.1 hw with rfl | hw
        · right
          have hx := (hF x).1 (List.mem_cons_self ..)
          have hz := (hF z).1 (List.mem_cons_of_mem _ (List.mem_cons_self ..))
          have hne := (List.pairwise_cons.1 hFd).1 z (List.mem_cons_self ..)
          exact ⟨x, hx.1, z, hz.1, fun h => by subst h; omega, (hopen x hx.1 hx.2).1, (hopen x hx.1 hx.2).2, (hopen z hz.1 hz.2).1, (hopen z hz.1 hz.2).2⟩
        · exact d3 w hw
theorem loopR_ok {N : Nat} (hd : ∀ l ∈ cls, (∀ x ∈ l, Lit x ∧ x.natAbs < N) ∧ Dif l) : ∀ (d : Nat) {ts : List Int}, ts.length = N → TV ts → zeros ts < d → (∀ z, trT ts z → Der cls xs z) → (∀ x ∈ xs, trT ts x) →
    ((loopR cls d ts).2 = true → Calm cls xs (trT (loopR cls d ts).1) ∧ (∀ z, trT (loopR cls d ts).1 z → Der cls xs z) ∧ (loopR cls d ts).1.length = N ∧ TV (loopR cls d ts).1) ∧ ((loopR cls d ts).2 = false → Cl cls xs) := by
  intro d
  induction d with
  | zero => intro ts _ _ h; omega
  | succ d ih =>
    intro ts hN tv hz hs hb
    obtain ⟨a, b, c, e⟩ := stepR_ok hd (cs := cls) (ts := ts) (more := false) (fun _ h => h) hN hs
    obtain ⟨z1, z2, z3, z4, z5⟩ := stepR_zeros (N := N) (cls := cls) (ts := ts) (more := false) hN (fun l hl => (hd l hl).1) tv
    simp only [loopR]
    cases hm : (stepR cls ts false).2.1 with
    | true =>
      rw [if_pos rfl]
      have := (z4 hm).resolve_left (by decide)
      exact ih z1 z2 (by omega) a fun x hx => b x (hb x hx)
    | false =>
      rw [if_neg (by decide)]
      cases hc : (stepR cls ts false).2.2 with
      | true => exact ⟨fun h => (by cases h), fun _ => .inr (c hc)⟩
      | false =>
        obtain ⟨_, e2, e3⟩ := e hm hc
        rw [e2]
        exact ⟨fun _ => ⟨⟨trT_con, hb, e3⟩, hs, hN, tv⟩, fun h => (by cases h)⟩
theorem propR_ok {vars : Nat} (hv : vars ≤ 30) (hd : ∀ l ∈ cls, (∀ x ∈ l, Lit x ∧ x.natAbs < vars + 1) ∧ Dif l) (hx : ∀ x ∈ xs, Lit x ∧ x.natAbs < vars + 1) :
    ((propR vars cls xs).2 = true → Calm cls xs (trT (propR vars cls xs).1) ∧ (∀ z, trT (propR vars cls xs).1 z → Der cls xs z) ∧ (propR vars cls xs).1.length = vars + 1 ∧ TV (propR vars cls xs).1) ∧ ((propR vars cls xs).2 = false → Cl cls xs) := by
  have tv0 : TV (List.replicate (vars + 1) 0) := fun t ht => by obtain rfl := (List.mem_replicate.1 ht).2; omega
  have z0 : ∀ z, ¬ trT (List.replicate (vars + 1) 0) z := fun z h => by
    have h := h.2
    unfold tvR at h
    have g : ∀ i, (List.replicate (vars + 1) (0 : Int)).getD i 0 = 0 := fun i => by
      rw [List.getD_eq_getElem?_getD, List.getElem?_replicate]
      split <;> rfl
    rw [g, g] at h
    split at h <;> omega
  obtain ⟨a, b⟩ := layRs_ok (cls := cls) (xs := xs) (N := vars + 1) (ys := xs) (ts := List.replicate (vars + 1) 0) (fun x h => ⟨(hx x h).1, (hx x h).2, h⟩) (by simp) tv0 (fun z h => (z0 z h).elim)
  unfold propR endR
  cases hl : (layRs (List.replicate (vars + 1) 0) xs).2 with
  | false => rw [if_neg (by decide)]; exact ⟨fun h => (by cases h), fun _ => .inl (b hl)⟩
  | true =>
    obtain ⟨a1, a2, a3, a4, a5⟩ := a hl
    rw [if_pos rfl]
    exact loopR_ok hd 32 a4 a5 (Nat.lt_of_le_of_lt (List.length_filter_le _ _) (by omega)) a1 a2
/-- BOTH WAYS: they clash alike; if they are calm the same literals are true. -/
theorem prop_same {vars : Nat} (hv : vars ≤ 30) (hd : ∀ l ∈ cls, (∀ x ∈ l, Lit x ∧ x.natAbs < vars + 1) ∧ Dif l) (hx : ∀ x ∈ xs, Lit x ∧ x.natAbs < vars + 1) :
    (fromN (cls.map sideN) xs).2 = (propR vars cls xs).2 ∧ ((propR vars cls xs).2 = true → ∀ z, trM (fromN (cls.map sideN) xs).1.1 (fromN (cls.map sideN) xs).1.2 z ↔ trT (propR vars cls xs).1 z) := by
  obtain ⟨a, b⟩ := fromN_ok (cls := cls) (xs := xs) (fun l hl => ⟨fun x h => ((hd l hl).1 x h).1, (hd l hl).2⟩) fun x h => (hx x h).1
  obtain ⟨c, e⟩ := propR_ok hv hd hx
  cases h1 : (fromN (cls.map sideN) xs).2 with
  | false =>
    cases h2 : (propR vars cls xs).2 with
    | false => exact ⟨rfl, fun h => (by cases h)⟩
    | true => exact ((c h2).1.not (b h1)).elim
  | true =>
    cases h2 : (propR vars cls xs).2 with
    | false => exact ((a h1).1.not (e h2)).elim
    | true =>
      obtain ⟨a1, a2⟩ := a h1
      obtain ⟨c1, c2, _⟩ := c h2
      exact ⟨rfl, fun _ z => ⟨fun h => c1.all (a2 z h), fun h => a1.all (c2 z h)⟩⟩
end
end Go.Proofs.YtfgfhplgnfbaaaaDoor
/- Contracts of functions of layer 20's reference: contraries; the literals that are true. -/
namespace Go.Proofs.YtfgfhplgnfbaaaaDoor
open Go Go.Ev
def conI (l : List Int) (v : Nat) : List Int := (l.filter fun x => x.natAbs == v).map fun x => -x
/-- The contraries of literals, from some variable on, for so many variables. -/
def conO (l : List Int) : Nat → Nat → List Int
  | _, 0 => []
  | v, d + 1 => conI l v ++ conO l (v + 1) d
theorem filter_two {v w : Nat} (hvw : v < w) : ∀ {l : List Int}, Dif l → (l.filter fun x => x.natAbs == v) ++ (l.filter fun x => decide (v + 1 ≤ x.natAbs ∧ x.natAbs < w)) = l.filter fun x => decide (v ≤ x.natAbs ∧ x.natAbs < w) := by
  intro l
  induction l with
  | nil => intro _; rfl
  | cons x l ih =>
    intro h
    obtain ⟨hp, hl⟩ := List.pairwise_cons.1 h
    have ih := ih hl
    simp only [List.filter_cons]
    by_cases h1 : x.natAbs = v
    · rw [show (x.natAbs == v) = true by simpa using h1, if_pos rfl, decide_eq_false (by omega : ¬ (v + 1 ≤ x.natAbs ∧ x.natAbs < w)), if_neg (by decide), decide_eq_true (by omega : v ≤ x.natAbs ∧ x.natAbs < w), if_pos rfl, List.cons_append, ih]
    · rw [show (x.natAbs == v) = false by simpa using h1, if_neg (by decide)]
      by_cases h2 : v + 1 ≤ x.natAbs ∧ x.natAbs < w
      · rw [decide_eq_true h2, if_pos rfl, decide_eq_true (by omega : v ≤ x.natAbs ∧ x.natAbs < w), if_pos rfl]
        have e : (l.filter fun x => x.natAbs == v) = [] := by
          rw [List.filter_eq_nil_iff]
          intro z hz
          have := hp z hz
          simp; omega
        rw [e, List.nil_append] at ih ⊢
        rw [ih]
      · rw [decide_eq_false h2, if_neg (by decide), decide_eq_false (by omega : ¬ (v ≤ x.natAbs ∧ x.natAbs < w)), if_neg (by decide), ih]
theorem conO_filter {l : List Int} (h : Dif l) : ∀ (d v : Nat), conO l v d = (l.filter fun x => decide (v ≤ x.natAbs ∧ x.natAbs < v + d)).map fun x => -x := by
  intro d
  induction d with
  | zero =>
    intro v
    have e : (l.filter fun x => decide (v ≤ x.natAbs ∧ x.natAbs < v + 0)) = [] := by
      rw [List.filter_eq_nil_iff]
      intro z _
      simp
    rw [e]; rfl
  | succ d ih =>
    intro v
    rw [conO, ih, conI, ← List.map_append]
    have := filter_two (v := v) (w := v + 1 + d) (by omega) h
    rw [this, show v + 1 + d = v + (d + 1) by omega]
theorem conO_eq {l : List Int} (h : Dif l) (hl : ∀ x ∈ l, Lit x) : conO l 1 30 = l.map fun x => -x := by
  rw [conO_filter h, List.filter_eq_self.2 fun x hx => ?_]
  have := hl x hx
  have := this.1
  have := (hl x hx).2
  simp; omega
section
variable {O : CallF} (hO : Oth O)
include hO
theorem lp102_1 {h₀ : Hp} (ok : h₀.Ok) {a0 : Option Addr} {n0 c0 : Nat} {l : List Int} (X : IntsAt h₀ a0 n0 l) (hl : l.length < 100000) (hlit : ∀ x ∈ l, Lit x) {v : Nat} {tail : List Int} {R : List Int}
    (next : ∀ a n c out h, Kp h₀.nx h₀ h → AccI 3 h h₀.nx a n c out → out.length ≤ tail.length + l.length → R = out ++ conO l (v + 1) (30 - v) → I102_0 O (RInts h₀ R) a0 n0 c0 a n c (wrapF .i64 (Int.ofNat v + 1)) h) (ht : tail.length < 100000000) :
    ∀ (d k : Nat), k + d = l.length → ∀ {a : Option Addr} {n c : Nat} {out : List Int} {h : Hp}, Kp h₀.nx h₀ h → AccI 3 h h₀.nx a n c out → out.length ≤ tail.length + k → R = out ++ (((l.drop k).filter fun x => x.natAbs == v).map (fun x => -x) ++ conO l (v + 1) (30 - v)) →
      I102_1 O (RInts h₀ R) a0 n0 c0 a n c (Int.ofNat v) (Int.ofNat k) h := by
  have hn := X.1
  intro d
  induction d with
  | zero =>
    intro k hk a n c out h K A ho hr
    refine I102_1.of _ _ _ _ _ _ _ _ ?_
    intros
    unfold T102_1
    rw [List.drop_of_length_le (by omega)] at hr
    exact vcond_f (by rw [ltI_nat]; exact blt_f (by omega)) (next a n c out h K A (by omega) hr ..)
  | succ d ih =>
    intro k hk a n c out h K A ho hr
    refine I102_1.of _ _ _ _ _ _ _ _ ?_
    intros
    unfold T102_1
    have e1 : l.drop k = l[k] :: l.drop (k + 1) := List.drop_eq_getElem_cons (by omega)
    rw [e1, List.filter_cons] at hr
    have hx := hlit l[k] (List.getElem_mem _)
    refine vcond_t (by rw [ltI_nat]; exact blt_t (by omega)) (isNat_of (X.get (k := k) (by omega) fun b' off _ hlt hrd => vreq_t (blt_t (by omega)) ⟨_, by rw [readAt_kp K hlt]; exact hrd, _, _, ct98l hO hx h, vcond_split (fun h1 => ?_) fun h1 => ?_⟩))
    · have h1 : l[k].natAbs = v := Int.ofNat.inj (eq_of_t h1)
      rw [show (l[k].natAbs == v) = true by simpa using h1, if_pos rfl, List.map_cons] at hr
      have e2 : wrapF .i64 (0 - l[k]) = -l[k] := by have := hx.2; rw [wrap64 (by omega) (by omega)]; omega
      obtain ⟨a', n', c', h', p1, p2, p3⟩ := app_int app32 A K.nx (fun q hq => by rw [K.gd] at hq; exact ok.gd q hq) (by omega) (-l[k])
      refine isNat_of (X.get (k := k) (by omega) fun b' off _ hlt hrd => vreq_t (blt_t (by omega)) ⟨_, by rw [readAt_kp K hlt]; exact hrd, a', n', c', h', by rw [e2]; exact p1, ?_⟩)
      rw [wrap_succ (by omega)]
      exact ih (k + 1) (by omega) (K.trans (p3.kp A K.nx)) p2 (by simp; omega) (by rw [hr]; simp) ..
    · have h1 : l[k].natAbs ≠ v := fun hh => ne_of_f h1 (by rw [hh])
      rw [show (l[k].natAbs == v) = false by simpa using h1, if_neg (by decide)] at hr
      rw [wrap_succ (by omega)]
      exact ih (k + 1) (by omega) K A (by omega) hr ..
theorem lp102_0 {h₀ : Hp} (ok : h₀.Ok) {a0 : Option Addr} {n0 c0 : Nat} {l : List Int} (X : IntsAt h₀ a0 n0 l) (hl : l.length < 100000) (hlit : ∀ x ∈ l, Lit x) {R : List Int} :
    ∀ (d v : Nat), v + d = 31 → ∀ {a : Option Addr} {n c : Nat} {out : List Int} {h : Hp}, Kp h₀.nx h₀ h → AccI 3 h h₀.nx a n c out → out.length ≤ v * l.length → R = out ++ conO l v (31 - v) → I102_0 O (RInts h₀ R) a0 n0 c0 a n c (Int.ofNat v) h := by
  intro d
  induction d with
  | zero =>
    intro v hv a n c out h K A ho hr
    refine I102_0.of _ _ _ _ _ _ _ ?_
    intros
    unfold T102_0
    obtain rfl : v = 31 := by omega
    have hr : R = out := by simpa [conO] using hr
    subst hr
    exact vcond_f rfl ⟨a, n, c, rfl, A.ints, K, fun b off e => Acc.fresh A e⟩
  | succ d ih =>
    intro v hv a n c out h K A ho hr
    refine I102_0.of _ _ _ _ _ _ _ ?_
    intros
    unfold T102_0
    have e : 31 - v = (30 - v) + 1 := by omega
    rw [e] at hr
    have hr : R = out ++ (conI l v ++ conO l (v + 1) (30 - v)) := hr
    have hm : v * l.length ≤ 31 * l.length := Nat.mul_le_mul_right _ (by omega)
    refine vcond_t (by rw [ltI_f (by simp only [Int.ofNat_eq_natCast]; omega)]; rfl) (lp102_1 hO ok X hl hlit (v := v) (tail := out) (R := R) (fun a n c out' h K A ho' hr => ?_) (by omega) l.length 0 (by omega) K A (by omega) hr ..)
    rw [wrap_succ (by omega)]
    refine ih (v + 1) (by omega) K A (by rw [Nat.add_mul]; omega) ?_
    rw [show 31 - (v + 1) = 30 - v by omega]; exact hr
theorem ct102 {h : Hp} (ok : h.Ok) {a0 : Option Addr} {n0 c0 : Nat} {l : List Int} (X : IntsAt h a0 n0 l) (hl : l.length < 100000) (hlit : ∀ x ∈ l, Lit x) : Ret Tryd.prog O 102 [.slice a0 n0 c0] h (RInts h (conO l 1 30)) := by
  refine rk102 _ _ _ (hO _ _ _ (by decide)) ?_
  unfold T102
  exact lp102_0 hO ok X hl hlit 30 1 (by omega) (.refl _ _) (AccI.nil ..) (by simp) rfl ..
theorem ct91 {a a1 : Option Addr} {n c n1 c1 : Nat} {vars : Int} {h : Hp} {cls : List (List Int)} {gs : List Int} (H : IntssAt h a n cls) (hl : cls.length < 1000000) (hll : ∀ l ∈ cls, l.length < 1000000) (G : IntsAt h a1 n1 gs) (hgl : gs.length < 1000000) :
    Ret Tryd.prog O 91 [Fm vars a n c, .slice a1 n1 c1] h fun v h' => v = .int .i64 (if askB vars cls gs = true then 0 else 2) ∧ Kp h.nx h h' := by
  refine rk91 _ _ _ _ _ _ _ (hO _ _ _ (by decide)) ?_
  unfold T91
  have kp := fm_kp h vars a n c
  have g := fm_get h vars a n c
  obtain ⟨v1, h1, e1, rfl, K1⟩ := ct85 hO (c := c) (vars := vars) (H.up EInts.up kp) hl hll
  have k1 : Kp h.nx h h1 := kp.trans (K1.le kp.nx)
  have g1 : h1.get h.nx = some (.cells [.int .i64 vars, .slice a n c] 30 .fix) := by rw [K1.get _ (by rw [nx_add]; omega)]; exact g
  refine ⟨_, _, _, _, readAt_get g (by simp), _, _, e1, vcond_split (fun h2 => ?_) fun h2 => ?_⟩
  · have hf : formB vars cls = false := by simpa using h2
    unfold askB; rw [hf]; exact ⟨rfl, k1⟩
  · have hf : formB vars cls = true := by simpa using h2
    refine ⟨_, read1 g1 rfl, _, _, ct105 hO vars (G.up EInt.up k1) hgl (c := c1), vcond_split (fun h3 => ?_) fun h3 => ?_⟩
    · have h3 : clB vars 0 gs = false := by simpa using h3
      unfold askB; rw [hf, h3]; exact ⟨rfl, k1⟩
    · have h3 : clB vars 0 gs = true := by simpa using h3
      unfold askB; rw [hf, h3]; exact ⟨rfl, k1⟩
end
end Go.Proofs.YtfgfhplgnfbaaaaDoor
