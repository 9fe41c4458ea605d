/- Contract of layer 20: a proof is accepted, or not. -/
import Derived.Test.YtfgfhplgnfbaaaaDoorYE
import Derived.Test.YtfgfhplgnfbaaaaDoorYC
import Derived.Test.YtfgfhplgnfbaaaaDoorYD
import Derived.Test.YtfgfhplgnfbaaaaDoorProg
import Derived.KernelRfl
namespace Go.Proofs.YtfgfhplgnfbaaaaDoor
open Go Go.Ev
/-- The first line from which propagation of its contraries does not clash. -/
def accF (gs : List Int) : List (List Int) → List (List Int) → Nat → Option Nat
  | _, [], _ => none
  | cls, l :: ls, i => if (fromN (cls.map sideN) (gs ++ l.map fun x => -x)).2 = true then some i else accF gs (cls ++ [l]) ls (i + 1)
/-- The answer at a proof's end. -/
def endA (pf : List (List Int)) : Int × Int := if pf.length = 0 then (0, 5) else if 0 < (pf.getD (pf.length - 1) []).length then (0, 5) else (0, 0)
def outA (o : Option Nat) (e : Int × Int) : Int × Int := match o with
  | some i => (Int.ofNat i, 7)
  | none => e
/-- Is a proof accepted? The line, and the error. -/
def acceptP (vars : Int) (cls : List (List Int)) (gs : List Int) (pf : List (List Int)) : Int × Int :=
  if askB vars cls gs = false then (0, 2) else if pf.all (clB vars 0) = false then (0, 2) else if 2000 < pf.length then (0, 3) else outA (accF gs cls pf 0) (endA pf)
section
variable {O : CallF} (hO : Oth O)
include hO
theorem lp41_1 {a1 a2 : Option Addr} {n1 c1 n2 c2 : Nat} {vars : Int} {h₀ : Hp} {gs : List Int} {pf : List (List Int)} (ok : h₀.Ok) (G : IntsAt h₀ a1 n1 gs) (hgl : gs.length < 1000) (hg : ∀ x ∈ gs, Lit x) (F : IntssAt h₀ a2 n2 pf) (hfl : pf.length < 10000) (hfll : ∀ l ∈ pf, l.length < 50) (hflit : ∀ l ∈ pf, (∀ x ∈ l, Lit x) ∧ Dif l) {b : Nat} (hb : h₀.nx ≤ b) {x0 : Int} {a0 : Option Addr} {n0 c0 : Nat} {R : Int × Int} :
    ∀ (d k : Nat), k + d = pf.length → ∀ {cls : List (List Int)} {h : Hp} {a6 : Option Addr} {n6 c6 : Nat}, (∀ l ∈ cls, ∀ x ∈ l, Lit x) → cls.length < 10000 + k → Kp h₀.nx h₀ h → b < h.nx → h.get b = some (.cells (baseC vars a6 n6 c6 a1 n1 c1 2000 none 0 0) 128 .fix) → Acc h (b + 1) 130 2 a6 n6 c6 ((cls.map sideN).flatMap uu) → n6 = cls.length → R = outA (accF gs cls (pf.drop k) k) (endA pf) →
      I41_1 O (fun v h' => v = .tuple #[.int .i64 R.1, .int .i64 R.2] ∧ Kp h₀.nx h₀ h') x0 a0 n0 c0 a1 n1 c1 a2 n2 c2 0 0 (some ⟨b, 0, none⟩) (Int.ofNat k) h := by
  have hn := F.1
  intro d
  induction d with
  | zero =>
    intro k hk cls h a6 n6 c6 hcl hcn kp hnx gb A hn6 hr
    refine I41_1.of _ _ _ _ _ _ _ _ _ _ _ _ _ _ ?_
    intros
    unfold T41_1
    rw [List.drop_of_length_le (by omega)] at hr
    have hr : R = endA pf := hr
    subst hr
    unfold endA
    refine vcond_f (by rw [ltI_nat]; exact blt_f (by omega)) (vcond_split (fun h1 => ?_) fun h1 => ?_)
    · have h1 : n2 = 0 := Int.ofNat.inj (eq_of_t h1)
      rw [if_pos (by omega)]; exact ⟨rfl, kp⟩
    · have h1 : n2 ≠ 0 := fun hh => ne_of_f h1 (by rw [hh]; rfl)
      have e1 : wrapF .i64 (Int.ofNat n2 - 1) = Int.ofNat (pf.length - 1) := by rw [wrap64] <;> simp only [Int.ofNat_eq_natCast] <;> omega
      have hgd : pf.getD (pf.length - 1) [] = pf[pf.length - 1]'(by omega) := by rw [List.getD_eq_getElem?_getD, List.getElem?_eq_getElem (by omega)]; rfl
      rw [e1, if_neg (by omega), hgd]
      refine isNat_of (F.get (k := pf.length - 1) (by omega) fun b' off a' n' c' _ hlt hrd Y => vreq_t (blt_t (by omega)) ⟨_, _, _, by rw [readAt_kp kp hlt]; exact hrd, ?_⟩)
      have hy := Y.1
      refine vcond_split (fun h2 => ?_) fun h2 => ?_
      · have h2 := lt_of_t h2
        simp only [Int.ofNat_eq_natCast] at h2
        rw [if_pos (by omega)]; exact ⟨rfl, kp⟩
      · have h2 := not_lt_of_f h2
        simp only [Int.ofNat_eq_natCast] at h2
        rw [if_neg (by omega)]; exact ⟨rfl, kp⟩
  | succ d ih =>
    intro k hk cls h a6 n6 c6 hcl hcn kp hnx gb A hn6 hr
    refine I41_1.of _ _ _ _ _ _ _ _ _ _ _ _ _ _ ?_
    intros
    unfold T41_1
    have e0 : pf.drop k = pf[k] :: pf.drop (k + 1) := List.drop_eq_getElem_cons (by omega)
    rw [e0] at hr
    simp only [accF] at hr
    have hm : pf[k] ∈ pf := List.getElem_mem _
    obtain ⟨hlk, hdk⟩ := hflit _ hm
    have hlen := hfll _ hm
    refine vcond_t (by rw [ltI_nat]; exact blt_t (by omega)) (isNat_of (F.get (k := k) (by omega) fun b' off a' n' c' _ hlt hrd Y => vreq_t (blt_t (by omega)) ⟨_, _, _, by rw [readAt_kp kp hlt]; exact hrd, ?_⟩))
    obtain ⟨v1, g1, e1, q1, q2, q3, rfl, X1, KA, _⟩ := ct96 hO (ok.kp kp) (Y.up EInt.up kp) hlen hlk hdk (c0 := c')
    have kp1 := kp.trans (KA.le kp.nx)
    have gb1 : g1.get b = some (.cells (baseC vars a6 n6 c6 a1 n1 c1 2000 none 0 0) 128 .fix) := by rw [KA.get _ hnx]; exact gb
    have A1 : Acc g1 (b + 1) 130 2 a6 n6 c6 ((cls.map sideN).flatMap uu) := A.kp KA (Nat.le_refl _)
    have hnx1 : b < g1.nx := Nat.lt_of_lt_of_le hnx KA.nx
    obtain ⟨v2, g2, e2, rfl, KB⟩ := ct95 hO (ok.kp kp1) gb1 hnx1 (A1.slAt uu_len (by decide)) (by simp; omega) (sides_lt hO hcl) (G.up EInt.up kp1) (by omega) hg X1 (by simp; omega) (lit_neg hlk) (cm := q3)
    have kp2 := kp1.trans (KB.le kp1.nx)
    refine ⟨_, _, _, _, e1, _, _, e2, ?_⟩
    by_cases hcalm : (fromN (cls.map sideN) (gs ++ pf[k].map fun x => -x)).2 = true
    · rw [if_pos hcalm] at hr
      subst hr
      rw [hcalm]
      exact vcond_t rfl ⟨rfl, kp2⟩
    rw [if_neg hcalm] at hr
    have hcalm : (fromN (cls.map sideN) (gs ++ pf[k].map fun x => -x)).2 = false := by simpa using hcalm
    rw [hcalm]
    refine vcond_f rfl ?_
    have gb2 : g2.get b = some (.cells (baseC vars a6 n6 c6 a1 n1 c1 2000 none 0 0) 128 .fix) := by rw [KB.get _ hnx1]; exact gb1
    have A2 : Acc g2 (b + 1) 130 2 a6 n6 c6 ((cls.map sideN).flatMap uu) := A1.kp KB (Nat.le_refl _)
    have hnx2 : b < g2.nx := Nat.lt_of_lt_of_le hnx1 KB.nx
    have okh : g2.Ok := ok.kp kp2
    have gb3 : (g2.rsv 12).get b = _ := gb2
    have okg : ((g2.rsv 12).grd [b]).Ok := (okh.rsv 12).grd fun q hq => by
      obtain rfl := List.mem_singleton.1 hq; rw [nx_rsv]; omega
    have Y1 : IntsAt ((g2.rsv 12).grd [b]) a' n' pf[k] := (Y.up EInt.up kp2).keep (fun _ _ _ => rfl) (by rw [nx_grd, nx_rsv]; omega) fun _ _ h => h
    obtain ⟨v3, h2', e3, rfl, K2⟩ := ct107 hO hlk (by omega) okg Y1 (c := c')
    refine ⟨_, _, _, read1 gb3 (i := 0 + 1) rfl, _, _, _, e3, ?_⟩
    have K2' : Kp (g2.nx + 12) (g2.rsv 12) (h2'.rst (g2.rsv 12)) := (Kp.refl (g2.nx + 12) (g2.rsv 12)).rst K2
    have K2h : Kp (g2.nx + 12) g2 (h2'.rst (g2.rsv 12)) := (Kp.refl (g2.nx + 12) g2).rsv 12 |>.trans K2'
    refine vreq_t (free_t (by rw [K2h.get _ (by omega)]; exact okh.fr _ (by omega))) ?_
    generalize hg2 : h2'.rst (g2.rsv 12) = g3 at *
    have hnx3 : g2.nx + 12 ≤ g3.nx := K2'.nx
    have K3 : Kp g2.nx g2 (g3.lay (g2.nx + 7) (.cells (uu (sideN pf[k])) 130 .fix)) := (K2h.le (by omega)).lay (by omega) (by omega) _
    have A3 : Acc (g3.lay (g2.nx + 7) (.cells (uu (sideN pf[k])) 130 .fix)) (b + 1) 130 2 a6 n6 c6 ((cls.map sideN).flatMap uu) := A2.kp K3 (Nat.le_refl _)
    have gdh : GdLt (g3.lay (g2.nx + 7) (.cells (uu (sideN pf[k])) 130 .fix)) (b + 1) := fun q hq => by
      have : q ∈ h₀.gd := by rw [← kp2.gd, ← K3.gd]; exact hq
      have := ok.gd q this; omega
    obtain ⟨a9, n9, c9, h4', e4, A4, hn9, k4⟩ := app_enc uu_len uu_one app126 A3 (by rw [nx_lay]; omega) gdh (t := g2.nx + 7) (c2 := 1) (m := .fix) (e2 := 130) (x := sideN pf[k]) (by rw [get_lay, if_pos rfl]) (by omega) (by unfold big; omega)
    refine ⟨a9, n9, c9, h4', e4, ?_⟩
    have ab : ∀ off, a6 ≠ some ⟨b, off, none⟩ := fun off e => by have := A2.fresh e; omega
    have gb4 : h4'.get b = some (.cells (baseC vars a6 n6 c6 a1 n1 c1 2000 none 0 0) 128 .fix) := by
      rw [k4.get _ (by rw [nx_lay]; omega) (ab 0), K3.get _ (by omega)]; exact gb2
    have gb4' : ((h4'.rst (g3.lay (g2.nx + 7) (.cells (uu (sideN pf[k])) 130 .fix))).grd []).get b = some (.cells (baseC vars a6 n6 c6 a1 n1 c1 2000 none 0 0) 128 .fix) := gb4
    have gu : ((h4'.rst (g3.lay (g2.nx + 7) (.cells (uu (sideN pf[k])) 130 .fix))).grd []).guarded b = false := guarded_of fun q hq => by
      have : q ∈ h₀.gd := by rw [← kp2.gd, ← K3.gd]; exact hq
      have := ok.gd q this; omega
    refine vreq_t (canW_t gb4' (by decide) gu (by simp [baseC]) rfl) ?_
    rw [wrap_succ (by omega)]
    have Kf : Kp h₀.nx h₀ ((((h4'.rst (g3.lay (g2.nx + 7) (.cells (uu (sideN pf[k])) 130 .fix))).grd []).wr b (0 + 1) [.slice a9 n9 c9]).rst (h4'.rst (g3.lay (g2.nx + 7) (.cells (uu (sideN pf[k])) 130 .fix)))) := by
      have hk2 := kp2.nx
      have K4 : Kp h₀.nx h₀ h4' := (kp2.trans (K3.le hk2)).trans ((k4.kp A3 (by rw [nx_lay]; omega)).le (by omega))
      refine ⟨fun o ho => ?_, ?_, ?_, fun f => ?_⟩
      · rw [get_rst, wr_get_ne _ _ _ _ (by omega)]; exact K4.get o ho
      · rw [nx_rst, nx_wr]; exact K4.nx
      · rw [gd_rst, gd_rst, gd_lay]
        have := (kp2.trans (K3.le hk2)).gd
        rw [gd_lay] at this; exact this
      · exact (show Hp.Fresh (((h4'.rst (g3.lay (g2.nx + 7) (.cells (uu (sideN pf[k])) 130 .fix))).grd []).wr b (0 + 1) [.slice a9 n9 c9]) from Hp.Fresh.wr (h := (h4'.rst (g3.lay (g2.nx + 7) (.cells (uu (sideN pf[k])) 130 .fix))).grd []) (K4.fr f) _ _ _)
    have hnx4 : (g3.lay (g2.nx + 7) (.cells (uu (sideN pf[k])) 130 .fix)).nx ≤ h4'.nx := k4.nx
    rw [nx_lay] at hnx4
    refine ih (k + 1) (by omega) (cls := cls ++ [pf[k]]) (a6 := a9) (n6 := n9) (c6 := c9) (fun l hl => ?_) (by simp; omega) Kf (by rw [nx_rst, nx_wr, nx_grd, nx_rst]; omega) (by rw [get_rst]; exact (wr_get gb4' (by decide) gu (by simp [baseC]) rfl).trans rfl) ?_ (by simp; omega) hr ..
    · rcases List.mem_append.1 hl with hl | hl
      · exact hcl l hl
      · obtain rfl := List.mem_singleton.1 hl; exact hlk
    rw [List.map_append]
    refine A4.keep (fun o ho e => ?_) (by rw [nx_rst, nx_wr, nx_grd, nx_rst]; omega)
    rw [get_rst, wr_get_ne _ _ _ _ (by have := A4.fresh e; omega)]; rfl
theorem lp41_0 {a a1 a2 : Option Addr} {n c n1 c1 n2 c2 : Nat} {vars : Int} {h₀ : Hp} {cls : List (List Int)} {gs : List Int} {pf : List (List Int)} (ok : h₀.Ok) (H : IntssAt h₀ a n cls) (hll : ∀ l ∈ cls, l.length < 1000000) (hf : formB vars cls = true) (G : IntsAt h₀ a1 n1 gs) (hgl : gs.length < 1000) (hg : ∀ x ∈ gs, Lit x) (F : IntssAt h₀ a2 n2 pf) (hfl : pf.length < 10000) (hfll : ∀ l ∈ pf, l.length < 50) {x0 : Int} {a0 : Option Addr} {n0 c0 : Nat} {b : Nat} (hb : h₀.nx ≤ b) {R : Int × Int} :
    ∀ (d k : Nat), k + d = pf.length → ∀ {h : Hp}, Kp h₀.nx h₀ h → b < h.nx → h.get b = some (.cells [.int .i64 vars, .slice a n c] 30 .fix) → (∀ l ∈ pf.take k, clB vars 0 l = true) → R = (if (pf.drop k).all (clB vars 0) = false then (0, 2) else if 2000 < pf.length then (0, 3) else outA (accF gs cls pf 0) (endA pf)) →
      I41_0 O (fun v h' => v = .tuple #[.int .i64 R.1, .int .i64 R.2] ∧ Kp h₀.nx h₀ h') x0 a0 n0 c0 a1 n1 c1 a2 n2 c2 b 0 0 0 (Int.ofNat k) h := by
  have hn := F.1
  obtain ⟨f1, f2, f3, f4, f5⟩ := formB_lit hO hf
  intro d
  induction d with
  | zero =>
    intro k hk h kp hnx gb hc hr
    refine I41_0.of _ _ _ _ _ _ _ _ _ _ _ _ _ _ _ ?_
    intros
    unfold T41_0
    rw [List.drop_of_length_le (by omega), if_neg (by simp)] at hr
    rw [List.take_of_length_le (by omega)] at hc
    refine vcond_f (by rw [ltI_nat]; exact blt_f (by omega)) (vcond_split (fun h1 => ?_) fun h1 => ?_)
    · have h1 := lt_of_t h1
      simp only [Int.ofNat_eq_natCast] at h1
      rw [if_pos (by omega)] at hr
      subst hr; exact ⟨rfl, kp⟩
    · have h1 := not_lt_of_f h1
      simp only [Int.ofNat_eq_natCast] at h1
      rw [if_neg (by omega)] at hr
      obtain ⟨v1, h2, e2, b', a6, n6, c6, rfl, z1, z2, z3, z4, z5⟩ := ct76 hO (vars := vars) (ok.kp kp) (H.up EInts.up kp) (by omega) hll f4 (c := c) (a1 := a1) (n1 := n1) (c1 := c1)
      have k2 := kp.trans (z5.le kp.nx)
      have hn6 : n6 = cls.length := by have := (z4.slAt uu_len (by decide)).1; simpa using this
      refine ⟨_, _, _, _, readAt_get gb (by simp), _, _, e2, ?_⟩
      exact lp41_1 hO ok G hgl hg F hfl hfll (fun l hl => ⟨fun x hx => (clB_lit (by decide) (hc l hl) x hx).1, clB_dif (by decide) (hc l hl)⟩) (b := b') (Nat.le_trans kp.nx z1) pf.length 0 (by omega) f4 (by omega) k2 z2 z3 z4 hn6 hr ..
  | succ d ih =>
    intro k hk h kp hnx gb hc hr
    refine I41_0.of _ _ _ _ _ _ _ _ _ _ _ _ _ _ _ ?_
    intros
    unfold T41_0
    have e0 : pf.drop k = pf[k] :: pf.drop (k + 1) := List.drop_eq_getElem_cons (by omega)
    rw [e0, List.all_cons] at hr
    have hm : pf[k] ∈ pf := List.getElem_mem _
    have hlen := hfll _ hm
    refine vcond_t (by rw [ltI_nat]; exact blt_t (by omega)) (isNat_of (F.get (k := k) (by omega) fun b' off a' n' c' _ hlt hrd Y => vreq_t (blt_t (by omega)) ⟨_, _, _, by rw [readAt_kp kp hlt]; exact hrd, _, read1 gb (i := 0 + 0) rfl, _, _, ct87 hO vars (Y.up EInt.up kp) (by omega) (c := c'), vcond_split (fun h1 => ?_) fun h1 => ?_⟩))
    · have h1 : clB vars 0 pf[k] = false := by simpa using h1
      rw [h1, Bool.false_and, if_pos rfl] at hr
      subst hr; exact ⟨rfl, kp⟩
    · have h1 : clB vars 0 pf[k] = true := by simpa using h1
      rw [h1, Bool.true_and] at hr
      rw [wrap_succ (by omega)]
      refine ih (k + 1) (by omega) kp hnx gb (fun l hl => ?_) hr ..
      rw [List.take_succ_eq_append_getElem (by omega)] at hl
      rcases List.mem_append.1 hl with hl | hl
      · exact hc l hl
      · obtain rfl := List.mem_singleton.1 hl; exact h1
theorem ct41 {a a1 a2 : Option Addr} {n c n1 c1 n2 c2 : Nat} {vars : Int} {h : Hp} {cls : List (List Int)} {gs : List Int} {pf : List (List Int)} (ok : h.Ok) (H : IntssAt h a n cls) (hl : cls.length < 1000000) (hll : ∀ l ∈ cls, l.length < 1000000) (G : IntsAt h a1 n1 gs) (hgl : gs.length < 1000) (F : IntssAt h a2 n2 pf) (hfl : pf.length < 10000) (hfll : ∀ l ∈ pf, l.length < 50) :
    Ret Tryd.prog O 41 [Fm vars a n c, .slice a1 n1 c1, .slice a2 n2 c2] h fun v h' => v = .tuple #[.int .i64 (acceptP vars cls gs pf).1, .int .i64 (acceptP vars cls gs pf).2] ∧ Kp h.nx h h' := by
  refine rk41 _ _ _ _ _ _ _ _ _ _ (hO _ _ _ (by decide)) ?_
  unfold T41
  have kp := fm_kp h vars a n c
  have g := fm_get h vars a n c
  obtain ⟨v1, h1, e1, rfl, K1⟩ := ct78 hO (c := c) (vars := vars) (c1 := c1) (H.up EInts.up kp) hl hll (G.up EInt.up kp) (by omega)
  have k1 : Kp h.nx h h1 := kp.trans (K1.le kp.nx)
  have hn1 := K1.nx
  rw [nx_add] at hn1
  have g1 : h1.get h.nx = some (.cells [.int .i64 vars, .slice a n c] 30 .fix) := by rw [K1.get _ (by rw [nx_add]; omega)]; exact g
  unfold acceptP
  cases ha : askB vars cls gs with
  | false => exact ⟨_, _, _, _, readAt_get g (by simp), _, _, e1, vcond_t (by rw [ha]; decide) (by rw [ha, if_pos rfl]; exact ⟨rfl, k1⟩)⟩
  | true =>
    rw [if_neg (by decide)]
    rw [ha] at e1
    have hf : formB vars cls = true := by unfold askB at ha; exact (Bool.and_eq_true _ _ ▸ ha).1
    have hgc : clB vars 0 gs = true := by unfold askB at ha; exact (Bool.and_eq_true _ _ ▸ ha).2
    refine ⟨_, _, _, _, readAt_get g (by simp), _, _, e1, vcond_f (by decide) ?_⟩
    exact lp41_0 hO ok H hll hf G hgl (fun x hx => (clB_lit (by decide) hgc x hx).1) F hfl hfll (Nat.le_refl _) pf.length 0 (by omega) k1 (by omega) g1 (fun l hl => by simp at hl) rfl ..
end
end Go.Proofs.YtfgfhplgnfbaaaaDoor
/- Lists of lists: what is appended of them, and their first ones. -/
namespace Go.Proofs.YtfgfhplgnfbaaaaDoor
open Go Go.Ev
theorem SlAt.take {α : Type} {w : Nat} {R : Enc α} {h : Hp} {a : Option Addr} {n : Nat} {xs : List α} (H : SlAt w R h a n xs) (k : Nat) (hk : k ≤ xs.length) : SlAt w R h a k (xs.take k) := by
  refine ⟨by simp; omega, ?_⟩
  rcases H.2 with ⟨rfl, rfl⟩ | ⟨b, off, c, e, m, rfl, h2, h3, h4, h5⟩
  · exact .inl ⟨by simp, rfl⟩
  · refine .inr ⟨b, off, c, e, m, rfl, h2, h3, ?_, fun i hi => ?_⟩
    · have : (xs.take k).length * w ≤ xs.length * w := Nat.mul_le_mul_right _ (by simp; omega)
      omega
    · have hi2 : i < xs.length := by simp at hi; omega
      have := h5 i hi2
      rw [List.getElem_take]
      exact this
/-- What is appended of a list of lists. -/
theorem intss_src {h : Hp} {a2 : Option Addr} {n2 c2 : Nat} {ys : List (List Int)} (Y : IntssAt h a2 n2 ys) : ∃ vs : List Value, srcCells h 1 (.slice a2 n2 c2) = some (vs, n2) ∧ vs.length = ys.length ∧ ∀ i (hi : i < ys.length), ∃ v, vs[i]? = some v ∧ EInts h ys[i] [v] := by
  have hn2 := Y.1
  rcases Y.2 with ⟨rfl, rfl⟩ | ⟨b, off, cs, e', m, rfl, h2, h3, h4, h5⟩
  · subst hn2; exact ⟨[], rfl, rfl, fun i hi => by simp at hi⟩
  · refine ⟨(cs.drop off).take n2, src_get (by rw [Nat.mul_one, readAt_get h3 (by omega)]), by simp; omega, fun i hi => ?_⟩
    have h7 : EInts h ys[i] ((cs.drop (off + i * 1)).take 1) := h5 i hi
    rw [Nat.mul_one, List.drop_eq_getElem_cons (show off + i < cs.length by omega), List.take_succ_cons, List.take_zero] at h7
    refine ⟨cs[off + i], ?_, h7⟩
    rw [List.getElem?_take, if_pos (by omega), List.getElem?_drop, List.getElem?_eq_getElem (by omega)]
/-- Cells that hold lists. -/
def Lis (h : Hp) (vs : List Value) (xs : List (List Int)) : Prop := vs.length = xs.length ∧ ∀ i (hi : i < xs.length), ∃ v, vs[i]? = some v ∧ EInts h xs[i] [v]
theorem Lis.nil (h : Hp) : Lis h [] [] := ⟨rfl, fun i hi => by simp at hi⟩
theorem Lis.app {h : Hp} {vs ws : List Value} {xs ys : List (List Int)} (A : Lis h vs xs) (B : Lis h ws ys) : Lis h (vs ++ ws) (xs ++ ys) := by
  refine ⟨by simp [A.1, B.1], fun i hi => ?_⟩
  by_cases h1 : i < xs.length
  · obtain ⟨v, e1, e2⟩ := A.2 i h1
    exact ⟨v, by rw [List.getElem?_append_left (by rw [A.1]; exact h1)]; exact e1, by rw [List.getElem_append_left h1]; exact e2⟩
  · obtain ⟨v, e1, e2⟩ := B.2 (i - xs.length) (by simp at hi; omega)
    exact ⟨v, by rw [List.getElem?_append_right (by rw [A.1]; omega), A.1]; exact e1, by rw [List.getElem_append_right (by omega)]; exact e2⟩
theorem Lis.up {h h' : Hp} (K : Kp h.nx h h') {vs : List Value} {xs : List (List Int)} (A : Lis h vs xs) : Lis h' vs xs := ⟨A.1, fun i hi => by
  obtain ⟨v, e1, e2⟩ := A.2 i hi
  exact ⟨v, e1, EInts.up _ _ _ _ K e2⟩⟩
theorem Lis.one {h : Hp} {vs : List Value} {xs : List (List Int)} (A : Lis h vs xs) : vs.all one = true := by
  rw [List.all_eq_true]
  intro v hv
  obtain ⟨i, hi, rfl⟩ := List.getElem_of_mem hv
  obtain ⟨w, e1, a, n, c, e2, _⟩ := A.2 i (by rw [← A.1]; exact hi)
  rw [List.getElem?_eq_getElem hi] at e1
  obtain rfl := Option.some.inj e1
  injection e2 with e2 _
  rw [e2]; rfl
theorem AccE.intss {h : Hp} {base : Nat} {e : TypeId} {a : Option Addr} {n c : Nat} {vs : List Value} {xs : List (List Int)} (A : AccE h base e 1 a n c vs) (L : Lis h vs xs) : IntssAt h a n xs := by
  rcases A with (⟨rfl, rfl, rfl, h4⟩ | ⟨o, rfl, rfl, h3, h4, h5, h6⟩) | ⟨h1, h2, h3, o, h4, h5, h6, e2, m, h7⟩
  · have : xs = [] := List.length_eq_zero_iff.1 (by rw [← L.1, h4]; rfl)
    subst this; exact SlAt.nil ..
  · refine ⟨by rw [← L.1]; omega, .inr ⟨o, 0, _, _, _, rfl, h5, h6, by rw [← L.1]; omega, fun i hi => ?_⟩⟩
    obtain ⟨v, e1, e2⟩ := L.2 i hi
    have hv : i < vs.length := by rw [L.1]; exact hi
    rw [List.getElem?_eq_getElem hv] at e1
    have e1 := Option.some.inj e1
    show EInts h xs[i] ((vs.drop (0 + i * 1)).take 1)
    rw [Nat.zero_add, Nat.mul_one, List.drop_eq_getElem_cons hv, List.take_succ_cons, List.take_zero, e1]
    exact e2
  · have : xs = [] := List.length_eq_zero_iff.1 (by rw [← L.1, h1]; rfl)
    subst this h2 h4
    exact ⟨rfl, .inr ⟨o, 0, _, _, _, rfl, h6, h7, by simp, fun i hi => by simp at hi⟩⟩
end Go.Proofs.YtfgfhplgnfbaaaaDoor
/- Contracts of layer 20: all models of a formula; lists cloned. -/
namespace Go.Proofs.YtfgfhplgnfbaaaaDoor
open Go Go.Ev
theorem satM_step (cls : List (List Int)) (m k : Nat) (hk : k < cls.length) (q : Bool) : (q && (cls.drop k).all fun c => c.any (isB m)) = ((q && cls[k].any (isB m)) && (cls.drop (k + 1)).all fun c => c.any (isB m)) := by
  rw [List.drop_eq_getElem_cons hk, List.all_cons, Bool.and_assoc]
section
variable {O : CallF} (hO : Oth O)
include hO
/-- The end of the loop over clauses is told by what goes on from there. -/
theorem lp54c {h₀ hI : Hp} {x0 : Int} {a0 a1 a2 a7 : Option Addr} {n0 c0 n1 c1 n2 c2 n7 c7 : Nat} {cls : List (List Int)} (F : IntssAt h₀ a1 n1 cls) (hl : cls.length < 1000000) (hll : ∀ l ∈ cls, l.length < 1000000) (hlit : ∀ l ∈ cls, ∀ x ∈ l, Lit x) (kI : Kp h₀.nx h₀ hI) {b3 f3 m : Nat} (hm : m < 9223372036854775808) {x16 x17 : Int} {Q : Value → Hp → Prop} {r : Bool}
    (next : ∀ h1, Kp hI.nx hI h1 → RowAt hI.nx 3 .fix h1 [Int.ofNat m] → vcond r (∃ x, readAt h1 hI.nx 0 1 = some [.int .i64 x] ∧ ∃ a n c h', appendV Tryd.prog (h1.add (.cells [.int .i64 x] 3 .fix)) 32 32 (.slice a7 n7 c7) (.slice (some ⟨h1.nx, 0, none⟩) 1 1) = some (.slice a n c, h') ∧ I54_0 O Q x0 a0 n0 c0 a1 n1 c1 a2 n2 c2 b3 f3 a n c x16 (wrapF .i64 (x17 + 1)) h') (I54_0 O Q x0 a0 n0 c0 a1 n1 c1 a2 n2 c2 b3 f3 a7 n7 c7 x16 (wrapF .i64 (x17 + 1)) h1)) :
    ∀ (d k : Nat), k + d = cls.length → ∀ {h1 : Hp} {q : Bool}, Kp hI.nx hI h1 → RowAt hI.nx 3 .fix h1 [Int.ofNat m] → r = (q && (cls.drop k).all fun c => c.any (isB m)) →
      I54_2 O Q x0 a0 n0 c0 a1 n1 c1 a2 n2 c2 b3 f3 a7 n7 c7 hI.nx 0 q x16 x17 (Int.ofNat k) h1 := by
  have hn := F.1
  intro d
  induction d with
  | zero =>
    intro k hk h1 q kp R hr
    refine I54_2.of _ _ _ _ _ _ _ _ _ _ _ _ _ _ _ _ _ _ _ _ _ ?_
    unfold T54_2
    rw [List.drop_of_length_le (by omega)] at hr
    obtain rfl : r = q := by simpa using hr
    exact vcond_f (by rw [ltI_nat]; exact blt_f (by omega)) (next h1 kp R)
  | succ d ih =>
    intro k hk h1 q kp R hr
    refine I54_2.of _ _ _ _ _ _ _ _ _ _ _ _ _ _ _ _ _ _ _ _ _ ?_
    unfold T54_2
    have hkl : k < cls.length := by omega
    rw [satM_step _ _ _ hkl] at hr
    have f1 := (kI.trans (kp.le kI.nx)).ex (Nat.le_refl _)
    rw [wrap_succ (by omega)]
    refine vcond_t (by rw [ltI_nat]; exact blt_t (by omega)) (isNat_i (F.rd hkl fun a' n' c' Y => vcond_split (fun hq => ?_) fun hq => ?_))
    · subst hq
      have hm1 : cls[k] ∈ cls := List.getElem_mem _
      refine ⟨_, _, ct64 hO (Y.to h1) (hll _ hm1) (fun x hx => ct112 hO hm (hlit _ hm1 x hx) (R.rd (k := 0) (by simp) rfl)), ih (k + 1) (by omega) kp R (by rw [hr]; rfl)⟩
    · subst hq
      exact ih (k + 1) (by omega) kp R (by rw [hr]; rfl)
theorem lp54_1 {h₀ hI : Hp} (ok : h₀.Ok) {x0 : Int} {a0 a1 a2 a7 : Option Addr} {n0 c0 n1 c1 n2 c2 n7 c7 : Nat} {gs : List Int} (G : IntsAt h₀ a2 n2 gs) (hgl : gs.length < 1000000) (hg : ∀ x ∈ gs, Lit x) (kI : Kp h₀.nx h₀ hI) {b3 N kk : Nat} (hN : N ≤ 30) (hb : hI.get b3 = some (.cells [.int .i64 (Int.ofNat N), .slice a0 n0 c0] 30 .fix)) (hb3 : b3 < hI.nx) (hkk : kk < 2 ^ N) {x16 : Int} {Q : Value → Hp → Prop}
    (next : ∀ h1, Kp hI.nx hI h1 → RowAt hI.nx 3 .fix h1 [Int.ofNat (bitsF N kk N)] → I54_2 O Q x0 a0 n0 c0 a1 n1 c1 a2 n2 c2 b3 0 a7 n7 c7 hI.nx 0 (gs.all (isB (bitsF N kk N))) x16 (Int.ofNat kk) 0 h1) :
    ∀ (d v : Nat), v + d = N → ∀ {h1 : Hp}, Kp hI.nx hI h1 → RowAt hI.nx 3 .fix h1 [Int.ofNat (bitsF N kk v)] →
      I54_1 O Q x0 a0 n0 c0 a1 n1 c1 a2 n2 c2 b3 0 a7 n7 c7 (Int.ofNat kk) hI.nx 0 x16 (Int.ofNat kk) (Int.ofNat N) (Int.ofNat v) h1 := by
  have p30 : (2 : Nat) ^ N ≤ 2 ^ 30 := Nat.pow_le_pow_right (by decide) hN
  intro d
  induction d with
  | zero =>
    intro v hv h1 kp R
    refine I54_1.of _ _ _ _ _ _ _ _ _ _ _ _ _ _ _ _ _ _ _ _ _ _ ?_
    unfold T54_1
    obtain rfl : v = N := by omega
    have lt : bitsF v kk v < 9223372036854775808 := Nat.lt_of_lt_of_le (bitsF_lt v kk v) (Nat.le_trans p30 (by decide))
    have f1 := (kI.trans (kp.le kI.nx)).ex (Nat.le_refl _)
    refine vcond_f (by rw [ltI_nat]; exact blt_f (by omega)) ⟨_, _, ct64 hO (G.to h1) hgl (φ := fun x => !(isB (bitsF v kk v) x)) (fun x hx => ct111 hO lt (hg x hx) (R.rd (k := 0) (by simp) rfl)), ?_⟩
    have e : (!(gs.any fun x => !(isB (bitsF v kk v) x))) = gs.all (isB (bitsF v kk v)) := by
      rw [List.not_any_eq_all_not]; simp
    rw [e]
    exact next h1 kp R
  | succ d ih =>
    intro v hv h1 kp R
    refine I54_1.of _ _ _ _ _ _ _ _ _ _ _ _ _ _ _ _ _ _ _ _ _ _ ?_
    unfold T54_1
    have lt : bitsF N kk v < 2 ^ v := bitsF_lt N kk v
    have pv : (2 : Nat) ^ v ≤ 2 ^ 30 := Nat.pow_le_pow_right (by decide) (by omega)
    have f1 := kp.ex (Nat.le_refl _)
    refine vcond_t (by rw [ltI_nat]; exact blt_t (by omega)) ?_
    intro g201
    have e1 : wrapF .i64 (wrapF .i64 (Int.ofNat N - 1) - Int.ofNat v) = Int.ofNat (N - 1 - v) := by
      rw [wrap64 (n := Int.ofNat N - 1) (by simp only [Int.ofNat_eq_natCast]; omega) (by simp only [Int.ofNat_eq_natCast]; omega), wrap64 (by simp only [Int.ofNat_eq_natCast]; omega) (by simp only [Int.ofNat_eq_natCast]; omega)]
      simp only [Int.ofNat_eq_natCast]; omega
    refine ⟨_, R.rd (k := 0) (by simp) rfl, _, (readAt_ex (g := hI) hb3).trans (read1 hb (i := 0 + 0) rfl), ?_⟩
    rw [e1, wrap_succ (by omega), show (Int.ofNat (N - 1 - v)).toNat = N - 1 - v from rfl, show (Int.ofNat v).toNat = v from rfl, shr64 kk (k := N - 1 - v) (by omega), and_one]
    have lt2 : kk / 2 ^ (N - 1 - v) < 9223372036854775808 := Nat.lt_of_le_of_lt (Nat.div_le_self ..) (Nat.lt_of_lt_of_le hkk (Nat.le_trans p30 (by decide)))
    have lt3 : (kk / 2 ^ (N - 1 - v) % 2) * 2 ^ v ≤ 2 ^ v := by
      have := Nat.mod_lt (kk / 2 ^ (N - 1 - v)) (y := 2) (by decide)
      exact Nat.le_trans (Nat.mul_le_mul_right _ (show _ ≤ 1 by omega)) (by omega)
    rw [shl64 (by omega) (Nat.lt_of_le_of_lt (Nat.le_trans lt3 pv) (by decide))]
    have gu : (g201.grd []).guarded hI.nx = false := guarded_of fun q hq => by
      have : q ∈ h₀.gd := by rw [← kI.gd, ← kp.gd]; exact hq
      have := ok.gd q this; have := kI.nx; omega
    obtain ⟨w, R2⟩ := RowAt.wr (h := g201.grd []) ⟨Nat.lt_of_lt_of_le R.lt (Nat.le_add_right ..), R.get⟩ (by decide) gu (k := 0) (off := 0) (by simp) rfl (Int.ofNat (bitsF N kk v ||| (kk / 2 ^ (N - 1 - v) % 2) * 2 ^ v))
    refine vreq_t rfl (vreq_t (inD_of lt2) (vreq_t rfl (vreq_t (inD_of (Nat.lt_of_lt_of_le lt (Nat.le_trans pv (by decide)))) (vreq_t (inD_of (Nat.lt_of_le_of_lt (Nat.le_trans lt3 pv) (by decide))) (vreq_t w ?_)))))
    intro g204 g205
    have K1 : Kp hI.nx hI (g201.grd []) := (kp.rsv 13)
    have K2 : Kp hI.nx hI g204 := K1.wr (Nat.le_refl _) _ _
    exact ih (v + 1) (by omega) ⟨K2.get, K2.nx, kp.gd, K2.fr⟩ ⟨R2.lt, R2.get⟩
theorem lp54_0 {h₀ : Hp} (ok : h₀.Ok) {x0 : Int} {a0 a1 a2 : Option Addr} {n0 c0 n1 c1 n2 c2 : Nat} {cls : List (List Int)} {gs : List Int} (F : IntssAt h₀ a1 n1 cls) (hl : cls.length < 1000000) (hll : ∀ l ∈ cls, l.length < 1000000) (hlit : ∀ l ∈ cls, ∀ x ∈ l, Lit x) (G : IntsAt h₀ a2 n2 gs) (hgl : gs.length < 1000000) (hg : ∀ x ∈ gs, Lit x) {N : Nat} (hN : N ≤ 20) :
    ∀ (d k : Nat), k + d = 2 ^ N → ∀ {h : Hp} {a7 n7 c7} {acc : List Int}, Kp h₀.nx h₀ h → h.get h₀.nx = some (.cells [.int .i64 (Int.ofNat N), .slice a0 n0 c0] 30 .fix) → h₀.nx < h.nx → AccI 3 h (h₀.nx + 1) a7 n7 c7 acc → acc.length ≤ k → (acc ++ (((List.range' k d).map fun k => bitsF N k N).filter (satM cls gs)).map Int.ofNat) = (modelsN N cls gs).map Int.ofNat →
      I54_0 O (RInts h₀ ((modelsN N cls gs).map Int.ofNat)) x0 a0 n0 c0 a1 n1 c1 a2 n2 c2 h₀.nx 0 a7 n7 c7 (Int.ofNat (2 ^ N)) (Int.ofNat k) h := by
  have p20 : (2 : Nat) ^ N ≤ 2 ^ 20 := Nat.pow_le_pow_right (by decide) hN
  intro d
  induction d with
  | zero =>
    intro k hk h a7 n7 c7 acc kp hb hb2 A hal he
    refine I54_0.of _ _ _ _ _ _ _ _ _ _ _ _ _ _ _ _ _ ?_
    unfold T54_0
    have he : acc = (modelsN N cls gs).map Int.ofNat := by simpa using he
    subst he
    refine vcond_f (by rw [ltI_nat]; exact blt_f (by omega)) ⟨_, _, _, rfl, A.ints, kp, fun b off e => ?_⟩
    have := A.fresh e; omega
  | succ d ih =>
    intro k hk h a7 n7 c7 acc kp hb hb2 A hal he
    refine I54_0.of _ _ _ _ _ _ _ _ _ _ _ _ _ _ _ _ _ ?_
    unfold T54_0
    refine vcond_t (by rw [ltI_nat]; exact blt_t (by omega)) ?_
    intro g101
    have hnx := kp.nx
    have gu : g101.guarded h.nx = false := guarded_of fun q hq => by
      have : q ∈ h₀.gd := by rw [← kp.gd]; exact hq
      have := ok.gd q this; omega
    have R0 : RowAt h.nx 3 .fix g101 [0] := ⟨by show h.nx < h.nx + 1; omega, get_add_same ..⟩
    obtain ⟨w, R1⟩ := R0.wr (by decide) gu (k := 0) (off := 0) (by simp) rfl 0
    refine vreq_t w ?_
    intro g102
    have K1 : Kp h.nx h g102 := ((Kp.refl h.nx h).add (Nat.le_refl _) _).wr (Nat.le_refl _) _ _
    have f1 : Ft h g102 := K1.ex (Nat.le_refl _)
    refine ⟨_, (readAt_ex (g := h) (by omega)).trans (read1 hb (i := 0 + 0) rfl), ?_⟩
    rw [List.range'_succ, List.map_cons, List.filter_cons] at he
    have hkk : k < 2 ^ N := by omega
    have lt : bitsF N k N < 9223372036854775808 := Nat.lt_of_lt_of_le (bitsF_lt N k N) (Nat.le_trans p20 (by decide))
    refine lp54_1 hO ok G hgl hg kp (by omega) hb hb2 hkk (fun h1 k1 R => lp54c hO F hl hll hlit kp lt (r := satM cls gs (bitsF N k N)) (fun h2 k2 R2 => ?_) cls.length 0 (by omega) k1 R rfl) N 0 (by omega) K1 ⟨R1.lt, R1.get⟩
    have f2 : Ft h h2 := k2.ex (Nat.le_refl _)
    have A2 : AccI 3 h2 (h₀.nx + 1) a7 n7 c7 acc := Acc.to h2 A
    have kp2 := kp.trans (k2.le hnx)
    have hb' : h2.get h₀.nx = _ := (f2.get _ hb2).trans hb
    rw [wrap_succ (by omega)]
    refine vcond_split (fun hr => ?_) fun hr => ?_
    · rw [hr] at he
      have gd2 : GdLt h2 (h₀.nx + 1) := fun q hq => by have : q ∈ h₀.gd := by rw [← kp2.gd]; exact hq
                                                       have := ok.gd q this; omega
      refine ⟨_, R2.rd (k := 0) (by simp) rfl, appI app32 A2 (by have := k2.nx; omega) gd2 (by omega) fun a' n' c' h' A' _ kA => ih (k + 1) (by omega) (kp2.trans (kA.le (by omega))) ?_ (Nat.lt_of_lt_of_le (by have := k2.nx; omega) kA.nx) A' (by simp; omega) ?_⟩
      · rw [kA.get _ (by omega)]; exact hb'
      · simp only [if_true, List.map_cons] at he
        rw [List.append_assoc]; exact he
    · rw [hr] at he
      exact ih (k + 1) (by omega) kp2 hb' (by have := k2.nx; omega) A2 (by omega) (by simpa using he)
theorem ct54 {h : Hp} (ok : h.Ok) {a0 a1 a2 : Option Addr} {n0 c0 n1 c1 n2 c2 : Nat} {cls : List (List Int)} {gs : List Int} (F : IntssAt h a1 n1 cls) (hl : cls.length < 1000000) (hll : ∀ l ∈ cls, l.length < 1000000) (hlit : ∀ l ∈ cls, ∀ x ∈ l, Lit x) (G : IntsAt h a2 n2 gs) (hgl : gs.length < 1000000) (hg : ∀ x ∈ gs, Lit x) {N : Nat} (hN : N ≤ 20) :
    Ret Tryd.prog O 54 [.agg #[.int .i64 (Int.ofNat N), .slice a0 n0 c0], .slice a1 n1 c1, .slice a2 n2 c2] h (RInts h ((modelsN N cls gs).map Int.ofNat)) := by
  refine rk54 _ _ _ _ _ _ _ _ _ _ (hO _ _ _ (by decide)) ?_
  unfold T54
  intro g1
  refine ⟨_, read1 (get_add_same ..) (i := 0) rfl, vreq_t rfl ?_⟩
  have e : shlF .i64 1 (Int.ofNat N).toNat = Int.ofNat (2 ^ N) := by
    have p20 : (2 : Nat) ^ N ≤ 2 ^ 20 := Nat.pow_le_pow_right (by decide) hN
    have := shl64 (a := 1) (k := N) (by omega) (by rw [Nat.one_mul]; exact Nat.lt_of_le_of_lt p20 (by decide))
    rw [Nat.one_mul] at this; exact this
  rw [e]
  refine lp54_0 hO ok F hl hll hlit G hgl hg hN (2 ^ N) 0 (by omega) ((Kp.refl _ _).add (Nat.le_refl _) _) (get_add_same ..) (by show h.nx < h.nx + 1; omega) (AccI.nil ..) (by simp) ?_
  rw [modelsN, List.range_eq_range']; rfl
end
end Go.Proofs.YtfgfhplgnfbaaaaDoor
/- Contracts of layer 20: propagation once more, without the reference. -/
namespace Go.Proofs.YtfgfhplgnfbaaaaDoor
open Go Go.Ev
/-- A literal is true, by two sets of variables. -/
def trP (y n : Nat) (x : Int) : Prop := (0 < x ∧ y.testBit x.natAbs = true) ∨ (x < 0 ∧ n.testBit x.natAbs = true)
def tvP (y n : Nat) (x : Int) : Bool := if 0 < x then y.testBit x.natAbs else n.testBit x.natAbs
def unP (y n : Nat) (x : Int) : Bool := !(y ||| n).testBit x.natAbs
/-- What is open in a clause, and whether nothing is to be done with it. -/
def opF (y n : Nat) : List Int → Int → Bool → Int × Bool
  | [], o, d => (o, d)
  | x :: xs, o, d => if tvP y n x then opF y n xs o true else if unP y n x then opF y n xs x (d || o != 0) else opF y n xs o d
theorem tvP_iff {y n : Nat} {x : Int} (hx : x ≠ 0) : tvP y n x = true ↔ trP y n x := by
  unfold tvP trP
  by_cases h : 0 < x
  · rw [if_pos h]; constructor
    · exact fun e => .inl ⟨h, e⟩
    · rintro (⟨_, e⟩ | ⟨e, _⟩)
      · exact e
      · omega
  · rw [if_neg h]; constructor
    · exact fun e => .inr ⟨by omega, e⟩
    · rintro (⟨e, _⟩ | ⟨_, e⟩)
      · omega
      · exact e
theorem trP_neg {y n : Nat} {x : Int} : trP y n (-x) ↔ (x < 0 ∧ y.testBit x.natAbs = true) ∨ (0 < x ∧ n.testBit x.natAbs = true) := by
  unfold trP
  rw [Int.natAbs_neg]
  constructor <;> rintro (⟨a, b⟩ | ⟨a, b⟩)
  · exact .inl ⟨by omega, b⟩
  · exact .inr ⟨by omega, b⟩
  · exact .inl ⟨by omega, b⟩
  · exact .inr ⟨by omega, b⟩
theorem unP_iff {y n : Nat} {x : Int} (hx : x ≠ 0) : unP y n x = true ↔ ¬ trP y n x ∧ ¬ trP y n (-x) := by
  unfold unP
  rw [trP_neg, Nat.testBit_or]
  unfold trP
  have : 0 < x ∨ x < 0 := by omega
  cases y.testBit x.natAbs <;> cases n.testBit x.natAbs <;> simp <;> omega
/-- What the pass over a clause finds. -/
def OpOk (y n : Nat) (seen : List Int) (o : Int) (d : Bool) : Prop :=
  (d = true → (∃ x ∈ seen, trP y n x) ∨ ∃ x ∈ seen, ∃ z ∈ seen, x ≠ z ∧ ¬ trP y n x ∧ ¬ trP y n (-x) ∧ ¬ trP y n z ∧ ¬ trP y n (-z)) ∧
  (d = false → ∀ x ∈ seen, x ≠ o → trP y n (-x)) ∧ (o ≠ 0 → o ∈ seen ∧ ¬ trP y n o ∧ ¬ trP y n (-o))
theorem opF_ok {y n : Nat} : ∀ {xs seen : List Int} {o : Int} {d : Bool}, (∀ x ∈ seen ++ xs, Lit x) → Dif (seen ++ xs) → OpOk y n seen o d → OpOk y n (seen ++ xs) (opF y n xs o d).1 (opF y n xs o d).2 := by
  intro xs
  induction xs with
  | nil => intro seen o d _ _ h; rw [List.append_nil]; exact h
  | cons x xs ih =>
    intro seen o d hl hd h
    obtain ⟨h1, h2, h3⟩ := h
    have e : seen ++ x :: xs = (seen ++ [x]) ++ xs := by simp
    have hx0 : x ≠ 0 := (hl x (by simp)).1
    rw [e] at hl hd ⊢
    have sub : ∀ z ∈ seen, z ∈ seen ++ [x] := fun z hz => List.mem_append_left _ hz
    have hxm : x ∈ seen ++ [x] := List.mem_append_right _ (List.mem_singleton.2 rfl)
    have ne : ∀ z ∈ seen, z ≠ x := fun z hz e => by
      have := (List.pairwise_append.1 (List.pairwise_append.1 hd).1).2.2 z hz x (List.mem_singleton.2 rfl)
      subst e; omega
    simp only [opF]
    split
    · rename_i ht
      have ht := (tvP_iff hx0).1 ht
      exact ih hl hd ⟨fun _ => .inl ⟨x, hxm, ht⟩, fun e => (by cases e), fun ho => ⟨sub _ (h3 ho).1, (h3 ho).2⟩⟩
    · rename_i ht
      have ht : ¬ trP y n x := fun e => ht ((tvP_iff hx0).2 e)
      split
      · rename_i hu
        have hu := (unP_iff hx0).1 hu
        refine ih hl hd ⟨fun hd2 => ?_, fun hd2 z hz hzx => ?_, fun _ => ⟨hxm, hu⟩⟩
        · rw [Bool.or_eq_true] at hd2
          rcases hd2 with hd2 | hd2
          · rcases h1 hd2 with ⟨z, hz, hz2⟩ | ⟨z, hz, w, hw, r⟩
            · exact .inl ⟨z, sub z hz, hz2⟩
            · exact .inr ⟨z, sub z hz, w, sub w hw, r⟩
          · have ho : o ≠ 0 := by simpa using hd2
            obtain ⟨a, b, c⟩ := h3 ho
            exact .inr ⟨o, sub o a, x, hxm, ne o a, b, c, hu.1, hu.2⟩
        · rw [Bool.or_eq_false_iff] at hd2
          have ho : o = 0 := by simpa using hd2.2
          rcases List.mem_append.1 hz with hz | hz
          · refine h2 hd2.1 z hz fun e => ?_
            have := (hl z (by simp [hz])).1
            omega
          · exact absurd (List.mem_singleton.1 hz) hzx
      · rename_i hu
        have hneg : trP y n (-x) := by
          have : ¬ (¬ trP y n x ∧ ¬ trP y n (-x)) := fun e => hu ((unP_iff hx0).2 e)
          by_cases q : trP y n (-x)
          · exact q
          · exact absurd ⟨ht, q⟩ this
        refine ih hl hd ⟨fun hd2 => ?_, fun hd2 z hz hzo => ?_, fun ho => ⟨sub _ (h3 ho).1, (h3 ho).2⟩⟩
        · rcases h1 hd2 with ⟨z, hz, hz2⟩ | ⟨z, hz, w, hw, r⟩
          · exact .inl ⟨z, sub z hz, hz2⟩
          · exact .inr ⟨z, sub z hz, w, sub w hw, r⟩
        · rcases List.mem_append.1 hz with hz | hz
          · exact h2 hd2 z hz hzo
          · rw [List.mem_singleton.1 hz]; exact hneg
theorem trP_add {y n : Nat} {x z : Int} (hx : Lit x) : trP (if 0 < x then y ||| 2 ^ x.natAbs else y) (if 0 < x then n else n ||| 2 ^ x.natAbs) z ↔ trP y n z ∨ z = x := by
  have h0 := hx.1
  unfold trP
  by_cases h : 0 < x
  · simp only [if_pos h, Nat.testBit_or, Nat.testBit_two_pow, Bool.or_eq_true, decide_eq_true_eq]
    constructor
    · rintro (⟨a, b | b⟩ | b)
      · exact .inl (.inl ⟨a, b⟩)
      · exact .inr (by omega)
      · exact .inl (.inr b)
    · rintro ((⟨a, b⟩ | b) | rfl)
      · exact .inl ⟨a, .inl b⟩
      · exact .inr b
      · exact .inl ⟨h, .inr rfl⟩
  · simp only [if_neg h, Nat.testBit_or, Nat.testBit_two_pow, Bool.or_eq_true, decide_eq_true_eq]
    constructor
    · rintro (b | ⟨a, b | b⟩)
      · exact .inl (.inl b)
      · exact .inl (.inr ⟨a, b⟩)
      · exact .inr (by omega)
    · rintro ((b | ⟨a, b⟩) | rfl)
      · exact .inl b
      · exact .inr ⟨a, .inl b⟩
      · exact .inr ⟨by omega, .inr rfl⟩
def fr31 (z : Nat) : Nat := ((List.range 31).filter fun i => !z.testBit i).length
theorem fr31_lt {a b : Nat} (hb : b < 2 ^ 31) (h : ∀ i, a.testBit i = true → b.testBit i = true) (hne : b ≠ a) : fr31 b < fr31 a := by
  obtain ⟨i, hi⟩ : ∃ i, a.testBit i ≠ b.testBit i := by
    refine Classical.byContradiction fun hc => hne (Nat.eq_of_testBit_eq fun i => ?_)
    refine Classical.byContradiction fun hh => hc ⟨i, fun e => hh e.symm⟩
  have h1 : a.testBit i = false := by
    cases ha : a.testBit i with
    | false => rfl
    | true => rw [ha, h i ha] at hi; exact absurd rfl hi
  have h2 : b.testBit i = true := by
    cases hb' : b.testBit i with
    | true => rfl
    | false => rw [h1, hb'] at hi; exact absurd rfl hi
  have hi31 : i < 31 := by
    refine Classical.byContradiction fun hc => ?_
    have : b < 2 ^ i := Nat.lt_of_lt_of_le hb (Nat.pow_le_pow_right (by decide) (by omega))
    rw [Nat.testBit_lt_two_pow this] at h2; cases h2
  refine filter_lt (a := i) (List.mem_range.2 hi31) (by rw [h1]; rfl) (by rw [h2]; rfl) fun x hx => ?_
  cases ha : a.testBit x with
  | false => rfl
  | true => rw [h x ha] at hx; cases hx
theorem or31 {y : Nat} {x : Int} (hy : y < 2 ^ 31) (hx : Lit x) : y ||| 2 ^ x.natAbs < 2 ^ 31 := Nat.or_lt_two_pow hy (Nat.pow_lt_pow_right (by decide) (by have := hx.2; omega))
/-- What propagation returns. -/
def PshOk (cls : List (List Int)) (xs : List Int) (h : Hp) (v : Value) (h' : Hp) : Prop := h' = h ∧ ∃ (y n : Nat) (b : Bool), v = .tuple #[.int .i64 (Int.ofNat y), .int .i64 (Int.ofNat n), .bool b] ∧ y < 2 ^ 31 ∧ n < 2 ^ 31 ∧ (b = true → Calm cls xs (trP y n) ∧ ∀ z, trP y n z → z ≠ 0 → Der cls xs z) ∧ (b = false → y = 0 ∧ n = 0 ∧ Cl cls xs)
section
variable {O : CallF} (hO : Oth O)
include hO
theorem lp63_3 {h : Hp} {a0 a1 a48 : Option Addr} {n0 c0 n1 c1 n48 c48 y n : Nat} (hy : y < 2 ^ 31) (hn : n < 2 ^ 31) {q6 : Bool} {x9 x44 : Int} {l : List Int} (L : IntsAt h a48 n48 l) (hl : l.length < 1000000) (hlit : ∀ x ∈ l, Lit x) {Q : Value → Hp → Prop}
    (next : ∀ o d, opF y n l 0 false = (o, d) → vcond d (I63_2 O Q a0 n0 c0 a1 n1 c1 (Int.ofNat y) (Int.ofNat n) q6 x9 (wrapF .i64 (x44 + 1)) h) (vcond (ltI 0 o) (vreq (le0 o) (vreq (inD 9223372036854775808 (Int.ofNat y)) (vreq (inD 9223372036854775808 (shlF .i64 1 (Int.toNat o))) (I63_2 O Q a0 n0 c0 a1 n1 c1 (lorI (Int.ofNat y) (shlF .i64 1 (Int.toNat o))) (Int.ofNat n) q6 x9 (wrapF .i64 (x44 + 1)) h)))) (vcond (ltI o 0) (vreq (le0 (wrapF .i64 (0 - o))) (vreq (inD 9223372036854775808 (Int.ofNat n)) (vreq (inD 9223372036854775808 (shlF .i64 1 (Int.toNat (wrapF .i64 (0 - o))))) (I63_2 O Q a0 n0 c0 a1 n1 c1 (Int.ofNat y) (lorI (Int.ofNat n) (shlF .i64 1 (Int.toNat (wrapF .i64 (0 - o))))) q6 x9 (wrapF .i64 (x44 + 1)) h)))) (Q (.tuple #[.int .i64 0, .int .i64 0, .bool false]) h)))) :
    ∀ (d k : Nat), k + d = l.length → ∀ (o : Int) (q : Bool), opF y n (l.drop k) o q = opF y n l 0 false →
      I63_3 O Q a0 n0 c0 a1 n1 c1 (Int.ofNat y) (Int.ofNat n) q6 x9 o q x44 a48 n48 c48 (Int.ofNat n48) (Int.ofNat k) h := by
  have _ := hO
  have hn48 := L.1
  intro d
  induction d with
  | zero =>
    intro k hk o q he
    refine I63_3.of _ _ _ _ _ _ _ _ _ _ _ _ _ _ _ _ _ _ ?_
    unfold T63_3
    rw [List.drop_of_length_le (by omega)] at he
    exact vcond_f (by rw [ltI_nat]; exact blt_f (by omega)) (next o q he.symm)
  | succ d ih =>
    intro k hk o q he
    refine I63_3.of _ _ _ _ _ _ _ _ _ _ _ _ _ _ _ _ _ _ ?_
    unfold T63_3
    have hkl : k < l.length := by omega
    rw [List.drop_eq_getElem_cons hkl] at he
    simp only [opF] at he
    have hx := hlit _ (List.getElem_mem hkl)
    have hx1 := hx.1; have hx2 := hx.2
    refine vcond_t (by rw [ltI_nat]; exact blt_t (by omega)) (isNat_i (L.rd hkl ?_))
    generalize l[k] = x at *
    have em : maxI x (wrapF .i64 (0 - x)) = Int.ofNat x.natAbs := by
      rw [max_neg (by omega) (by omega)]; simp only [Int.ofNat_eq_natCast]; split <;> omega
    have yl : y < 9223372036854775808 := Nat.lt_trans hy (by decide)
    have nl : n < 9223372036854775808 := Nat.lt_trans hn (by decide)
    have ol : y ||| n < 9223372036854775808 := Nat.lt_trans (Nat.or_lt_two_pow hy hn) (by decide)
    have dl : ∀ m : Nat, m < 9223372036854775808 → inD 9223372036854775808 (Int.ofNat (m / 2 ^ x.natAbs)) = true := fun m hm => inD_of (Nat.lt_of_le_of_lt (Nat.div_le_self ..) hm)
    rw [em, show (Int.ofNat x.natAbs).toNat = x.natAbs from rfl, shr64 y (k := x.natAbs) (by omega), shr64 n (k := x.natAbs) (by omega), lor_nat, shr64 (y ||| n) (k := x.natAbs) (by omega), and_one, and_one, and_one, bit_eq, bit_eq, bit_eq, wrap_succ (by omega)]
    have b1 : ∀ b : Bool, eqI (Int.ofNat b.toNat) 1 = b := by decide
    have b0 : ∀ b : Bool, eqI (Int.ofNat b.toNat) 0 = !b := by decide
    simp only [b1, b0]
    have U : tvP y n x = false → vreq (inD 9223372036854775808 (Int.ofNat y)) (vreq (inD 9223372036854775808 (Int.ofNat n)) (vreq (le0 (Int.ofNat x.natAbs)) (vreq (inD 9223372036854775808 (Int.ofNat ((y ||| n) / 2 ^ x.natAbs))) (vcond (!(y ||| n).testBit x.natAbs) (vcond (!(eqI o 0)) (I63_3 O Q a0 n0 c0 a1 n1 c1 (Int.ofNat y) (Int.ofNat n) q6 x9 x true x44 a48 n48 c48 (Int.ofNat n48) (Int.ofNat (k + 1)) h) (I63_3 O Q a0 n0 c0 a1 n1 c1 (Int.ofNat y) (Int.ofNat n) q6 x9 x q x44 a48 n48 c48 (Int.ofNat n48) (Int.ofNat (k + 1)) h)) (I63_3 O Q a0 n0 c0 a1 n1 c1 (Int.ofNat y) (Int.ofNat n) q6 x9 o q x44 a48 n48 c48 (Int.ofNat n48) (Int.ofNat (k + 1)) h))))) := by
      intro ht
      rw [if_neg (by rw [ht]; decide)] at he
      refine vreq_t (inD_of yl) (vreq_t (inD_of nl) (vreq_t rfl (vreq_t (dl _ ol) (vcond_split (fun hu => vcond_split (fun ho => ?_) fun ho => ?_) fun hu => ?_))))
      · have ho : o ≠ 0 := ne_of_f (by simpa using ho)
        rw [if_pos (show unP y n x = true from hu), show (q || o != 0) = true by simp [ho]] at he
        exact ih (k + 1) (by omega) x true he
      · have ho : o = 0 := eq_of_t (by simpa using ho)
        rw [if_pos (show unP y n x = true from hu), show (q || o != 0) = q by simp [ho]] at he
        exact ih (k + 1) (by omega) x q he
      · rw [if_neg (by show ¬ unP y n x = true; unfold unP; rw [hu]; decide)] at he
        exact ih (k + 1) (by omega) o q he
    by_cases hp : 0 < x
    · refine vcond_t (ltI_t hp) (vreq_t rfl (vreq_t (dl _ yl) (vcond_split (fun ht => ?_) fun ht => ?_)))
      · rw [if_pos (show tvP y n x = true by unfold tvP; rw [if_pos hp]; exact ht)] at he
        exact ih (k + 1) (by omega) o true he
      · exact vcond_f (ltI_f (by omega)) (U (by unfold tvP; rw [if_pos hp]; exact ht))
    · refine vcond_f (ltI_f hp) (vcond_t (ltI_t (by omega)) (vreq_t rfl (vreq_t (dl _ nl) (vcond_split (fun ht => ?_) fun ht => ?_))))
      · rw [if_pos (show tvP y n x = true by unfold tvP; rw [if_neg hp]; exact ht)] at he
        exact ih (k + 1) (by omega) o true he
      · exact U (by unfold tvP; rw [if_neg hp]; exact ht)
/-- What is true is derived; what was given is true. -/
structure PInv (cls : List (List Int)) (xs : List Int) (y n : Nat) : Prop where
  ly : y < 2 ^ 31
  ln : n < 2 ^ 31
  der : ∀ z, trP y n z → z ≠ 0 → Der cls xs z
  beg : ∀ x ∈ xs, trP y n x
  z0 : y.testBit 0 = false ∧ n.testBit 0 = false
omit hO in
theorem PInv.add {cls : List (List Int)} {xs : List Int} {y n : Nat} (I : PInv cls xs y n) {x : Int} (hx : Lit x) (hD : Der cls xs x) : PInv cls xs (if 0 < x then y ||| 2 ^ x.natAbs else y) (if 0 < x then n else n ||| 2 ^ x.natAbs) :=
  ⟨by split; exact or31 I.ly hx; exact I.ly, by split; exact I.ln; exact or31 I.ln hx, fun z hz h0 => by
    rcases (trP_add hx).1 hz with h | rfl
    · exact I.der z h h0
    · exact hD, fun z hz => (trP_add hx).2 (.inl (I.beg z hz)), by
    have h0 : (2 ^ x.natAbs).testBit 0 = false := by rw [Nat.testBit_two_pow]; have := hx.1; simp; omega
    split
    · exact ⟨by rw [Nat.testBit_or, h0, I.z0.1]; rfl, I.z0.2⟩
    · exact ⟨I.z0.1, by rw [Nat.testBit_or, h0, I.z0.2]; rfl⟩⟩
omit hO in
theorem shl1 {x : Int} {m : Nat} (hm : Int.toNat (m : Int) = x.natAbs) (hx : Lit x) : shlF .i64 1 m = Int.ofNat (2 ^ x.natAbs) ∧ 2 ^ x.natAbs < 9223372036854775808 := by
  have e : m = x.natAbs := by simpa using hm
  subst e
  have := hx.2
  have p : (2 : Nat) ^ x.natAbs ≤ 2 ^ 30 := Nat.pow_le_pow_right (by decide) (by omega)
  have lt : 2 ^ x.natAbs < 9223372036854775808 := Nat.lt_of_le_of_lt p (by decide)
  have := shl64 (a := 1) (k := x.natAbs) (by omega) (by rw [Nat.one_mul]; exact lt)
  rw [Nat.one_mul] at this
  exact ⟨this, lt⟩
theorem lp63_2 {cls : List (List Int)} {xs : List Int} {h : Hp} {a0 a1 : Option Addr} {n0 c0 n1 c1 y0 m0 : Nat} {q6 : Bool} (F : IntssAt h a0 n0 cls) (hl : cls.length < 1000000) (hll : ∀ l ∈ cls, l.length < 1000000) (hd : ∀ l ∈ cls, (∀ x ∈ l, Lit x) ∧ Dif l) (hc : ∀ x, trP y0 m0 x → trP y0 m0 (-x) → False)
    (again : ∀ y n, PInv cls xs y n → fr31 (y ||| n) < fr31 (y0 ||| m0) → I63_1 O (PshOk cls xs h) a0 n0 c0 a1 n1 c1 (Int.ofNat y) (Int.ofNat n) q6 h) :
    ∀ (d k : Nat), k + d = cls.length → ∀ {y n : Nat}, PInv cls xs y n → ((y = y0 ∧ n = m0 ∧ ∀ l ∈ cls.take k, (∃ x ∈ l, trP y n x) ∨ ∃ x ∈ l, ∃ z ∈ l, x ≠ z ∧ ¬ trP y n x ∧ ¬ trP y n (-x) ∧ ¬ trP y n z ∧ ¬ trP y n (-z)) ∨ (fr31 (y ||| n) < fr31 (y0 ||| m0) ∧ ∀ i, (y0 ||| m0).testBit i = true → (y ||| n).testBit i = true)) →
      I63_2 O (PshOk cls xs h) a0 n0 c0 a1 n1 c1 (Int.ofNat y) (Int.ofNat n) q6 (Int.ofNat (y0 ||| m0)) (Int.ofNat k) h := by
  have hn := F.1
  intro d
  induction d with
  | zero =>
    intro k hk y n I hi
    refine I63_2.of _ _ _ _ _ _ _ _ _ _ _ ?_
    unfold T63_2
    have yl : y < 9223372036854775808 := Nat.lt_trans I.ly (by decide)
    have nl : n < 9223372036854775808 := Nat.lt_trans I.ln (by decide)
    refine vcond_f (by rw [ltI_nat]; exact blt_f (by omega)) (vreq_t (inD_of yl) (vreq_t (inD_of nl) ?_))
    rw [lor_nat]
    rcases hi with ⟨rfl, rfl, hg⟩ | ⟨hlt, _⟩
    · rw [List.take_of_length_le (by omega)] at hg
      exact vcond_t (eqI_t rfl) ⟨rfl, y, n, true, rfl, I.ly, I.ln, fun _ => ⟨⟨hc, I.beg, hg⟩, I.der⟩, fun e => (by cases e)⟩
    · refine vcond_f (eqI_f fun e => ?_) (again y n I hlt)
      have e : y ||| n = y0 ||| m0 := Int.ofNat.inj e
      rw [e] at hlt; omega
  | succ d ih =>
    intro k hk y n I hi
    refine I63_2.of _ _ _ _ _ _ _ _ _ _ _ ?_
    unfold T63_2
    have hkl : k < cls.length := by omega
    have hm : cls[k] ∈ cls := List.getElem_mem _
    obtain ⟨hlit, hdif⟩ := hd _ hm
    refine vcond_t (by rw [ltI_nat]; exact blt_t (by omega)) (isNat_i (F.rd hkl fun a' n' c' L => ?_))
    have hll' := hll _ hm
    refine lp63_3 hO I.ly I.ln L hll' hlit (fun o d ho => ?_) cls[k].length 0 (by omega) 0 false rfl
    have ok := opF_ok (y := y) (n := n) (xs := cls[k]) (seen := []) (o := 0) (d := false) (by simpa using hlit) (by simpa using hdif) ⟨fun e => (by cases e), fun _ x hx => (by cases hx), fun e => absurd rfl e⟩
    rw [ho, List.nil_append] at ok
    obtain ⟨k1, k2, k3⟩ := ok
    rw [wrap_succ (by omega)]
    have e1 : cls.take (k + 1) = cls.take k ++ [cls[k]] := List.take_succ_eq_append_getElem hkl
    have yl : y < 9223372036854775808 := Nat.lt_trans I.ly (by decide)
    have nl : n < 9223372036854775808 := Nat.lt_trans I.ln (by decide)
    -- a literal becomes true
    have add : d = false → o ≠ 0 → I63_2 O (PshOk cls xs h) a0 n0 c0 a1 n1 c1 (Int.ofNat (if 0 < o then y ||| 2 ^ o.natAbs else y)) (Int.ofNat (if 0 < o then n else n ||| 2 ^ o.natAbs)) q6 (Int.ofNat (y0 ||| m0)) (Int.ofNat (k + 1)) h := by
      intro hd0 ho0
      obtain ⟨om, u1, u2⟩ := k3 ho0
      have ol := hlit o om
      have hD : Der cls xs o := .unit hm om fun z hz hne => I.der _ (k2 hd0 z hz hne) (by have := (hlit z hz).1; omega)
      refine ih (k + 1) (by omega) (I.add ol hD) (.inr ?_)
      have eor : (if 0 < o then y ||| 2 ^ o.natAbs else y) ||| (if 0 < o then n else n ||| 2 ^ o.natAbs) = (y ||| n) ||| 2 ^ o.natAbs := by
        refine Nat.eq_of_testBit_eq fun i => ?_
        split <;> simp only [Nat.testBit_or] <;> cases y.testBit i <;> cases n.testBit i <;> cases (2 ^ o.natAbs).testBit i <;> rfl
      rw [eor]
      have hu : (y ||| n).testBit o.natAbs = false := by
        have := (unP_iff ol.1).2 ⟨u1, u2⟩
        unfold unP at this; simpa using this
      have lt : fr31 ((y ||| n) ||| 2 ^ o.natAbs) < fr31 (y ||| n) := by
        refine fr31_lt (or31 (Nat.or_lt_two_pow I.ly I.ln) ol) (fun i hi => by rw [Nat.testBit_or, hi]; rfl) fun e => ?_
        have : ((y ||| n) ||| 2 ^ o.natAbs).testBit o.natAbs = true := by rw [Nat.testBit_or, Nat.testBit_two_pow]; simp
        rw [e, hu] at this; cases this
      rcases hi with ⟨rfl, rfl, _⟩ | ⟨h1, h2⟩
      · exact ⟨lt, fun i hi => by rw [Nat.testBit_or, hi]; rfl⟩
      · exact ⟨by omega, fun i hi => by rw [Nat.testBit_or, h2 i hi]; rfl⟩
    refine vcond_split (fun hd0 => ?_) fun hd0 => vcond_split (fun hp => ?_) fun hp => vcond_split (fun hn0 => ?_) fun hn0 => ?_
    · refine ih (k + 1) (by omega) I (hi.imp (fun ⟨a, b, c⟩ => ⟨a, b, fun l hl => ?_⟩) id)
      rw [e1] at hl
      rcases List.mem_append.1 hl with hl | hl
      · exact c l hl
      · rw [List.mem_singleton.1 hl]; exact k1 hd0
    · have hp := lt_of_t hp
      have := add hd0 (by omega)
      rw [if_pos hp, if_pos hp] at this
      obtain ⟨s1, s2⟩ := shl1 (x := o) (m := Int.toNat o) (by omega) (hlit o (k3 (by omega)).1)
      rw [s1, lor_nat]
      obtain ⟨om, rfl⟩ : ∃ w : Nat, o = Int.ofNat w := ⟨o.toNat, by simp only [Int.ofNat_eq_natCast]; omega⟩
      exact vreq_t rfl (vreq_t (inD_of yl) (vreq_t (inD_of s2) this))
    · have hn0 := lt_of_t hn0
      have hp := not_lt_of_f hp
      have := add hd0 (by omega)
      rw [if_neg hp, if_neg hp] at this
      have ol := hlit o (k3 (by omega)).1
      have ol2 := ol.2
      have ew : wrapF .i64 (0 - o) = Int.ofNat o.natAbs := by rw [wrap64 (by omega) (by omega)]; simp only [Int.ofNat_eq_natCast]; omega
      rw [ew, show (Int.ofNat o.natAbs).toNat = o.natAbs from rfl]
      obtain ⟨s1, s2⟩ := shl1 (x := o) (m := o.natAbs) (by simp) ol
      rw [s1, lor_nat]
      exact vreq_t rfl (vreq_t (inD_of nl) (vreq_t (inD_of s2) this))
    · have hp := not_lt_of_f hp; have hn0 := not_lt_of_f hn0
      obtain rfl : o = 0 := by omega
      refine ⟨rfl, 0, 0, false, rfl, by decide, by decide, fun e => (by cases e), fun _ => ⟨rfl, rfl, .inr ⟨_, hm, fun z hz => I.der _ (k2 hd0 z hz (hlit z hz).1) (by have := (hlit z hz).1; omega)⟩⟩⟩
theorem lp63_1 {cls : List (List Int)} {xs : List Int} {h : Hp} {a0 a1 : Option Addr} {n0 c0 n1 c1 : Nat} {q6 : Bool} (F : IntssAt h a0 n0 cls) (hl : cls.length < 1000000) (hll : ∀ l ∈ cls, l.length < 1000000) (hd : ∀ l ∈ cls, (∀ x ∈ l, Lit x) ∧ Dif l) :
    ∀ (f : Nat) {y n : Nat}, fr31 (y ||| n) < f → PInv cls xs y n → I63_1 O (PshOk cls xs h) a0 n0 c0 a1 n1 c1 (Int.ofNat y) (Int.ofNat n) q6 h := by
  intro f
  induction f with
  | zero => intro y n hf; omega
  | succ f ih =>
    intro y n hf I
    refine I63_1.of _ _ _ _ _ _ _ _ _ ?_
    unfold T63_1
    have yl : y < 9223372036854775808 := Nat.lt_trans I.ly (by decide)
    have nl : n < 9223372036854775808 := Nat.lt_trans I.ln (by decide)
    rw [land_nat, lor_nat]
    refine vreq_t (inD_of yl) (vreq_t (inD_of nl) (vcond_split (fun hc => ?_) fun hc => ?_))
    · have hc : y &&& n ≠ 0 := fun e => ne_of_f (show eqI (Int.ofNat (y &&& n)) 0 = false by simpa using hc) (by rw [e]; rfl)
      obtain ⟨i, hi⟩ : ∃ i, (y &&& n).testBit i = true := by
        refine Classical.byContradiction fun hh => hc (Nat.eq_of_testBit_eq fun i => ?_)
        rw [Nat.zero_testBit]
        cases hb : (y &&& n).testBit i with
        | false => rfl
        | true => exact absurd ⟨i, hb⟩ hh
      rw [Nat.testBit_and, Bool.and_eq_true] at hi
      refine ⟨rfl, 0, 0, false, rfl, by decide, by decide, fun e => (by cases e), fun _ => ⟨rfl, rfl, ?_⟩⟩
      by_cases h0 : i = 0
      · subst h0; rw [I.z0.1] at hi; cases hi.1
      · refine .inl ⟨(i : Int), I.der _ (.inl ⟨by omega, by simpa using hi.1⟩) (by omega), I.der _ (.inr ⟨by omega, by simpa using hi.2⟩) (by omega)⟩
    · have hc : y &&& n = 0 := Int.ofNat.inj (eq_of_t (show eqI (Int.ofNat (y &&& n)) 0 = true by simpa using hc))
      have con : ∀ x, trP y n x → trP y n (-x) → False := by
        intro x h1 h2
        have : (y &&& n).testBit x.natAbs = false := by rw [hc, Nat.zero_testBit]
        rw [Nat.testBit_and] at this
        rw [trP_neg] at h2
        rcases h1 with ⟨a, b⟩ | ⟨a, b⟩ <;> rcases h2 with ⟨c, d⟩ | ⟨c, d⟩
        · omega
        · rw [b, d] at this; cases this
        · rw [b, d] at this; cases this
        · omega
      exact vreq_t (inD_of yl) (vreq_t (inD_of nl) (lp63_2 hO F hl hll hd con (fun y' n' I' hlt => ih (by omega) I') cls.length 0 (by omega) I (.inl ⟨rfl, rfl, fun l hl => by simp at hl⟩)))
theorem lp63_0 {cls : List (List Int)} {xs : List Int} {h : Hp} {a0 a1 : Option Addr} {n0 c0 n1 c1 : Nat} (F : IntssAt h a0 n0 cls) (hl : cls.length < 1000000) (hll : ∀ l ∈ cls, l.length < 1000000) (hd : ∀ l ∈ cls, (∀ x ∈ l, Lit x) ∧ Dif l) (X : IntsAt h a1 n1 xs) (hxl : xs.length < 1000000) (hx : ∀ x ∈ xs, Lit x) :
    ∀ (d k : Nat), k + d = xs.length → ∀ {y n : Nat}, PInv cls xs y n ∨ (y < 2 ^ 31 ∧ n < 2 ^ 31 ∧ (∀ z, trP y n z → z ≠ 0 → Der cls xs z) ∧ (∀ x ∈ xs.take k, trP y n x) ∧ y.testBit 0 = false ∧ n.testBit 0 = false) → I63_0 O (PshOk cls xs h) a0 n0 c0 a1 n1 c1 (Int.ofNat y) (Int.ofNat n) (Int.ofNat k) h := by
  have hn := X.1
  intro d
  induction d with
  | zero =>
    intro k hk y n I
    refine I63_0.of _ _ _ _ _ _ _ _ _ ?_
    unfold T63_0
    have I : PInv cls xs y n := by
      rcases I with I | ⟨a, b, c, d, e⟩
      · exact I
      · rw [List.take_of_length_le (by omega)] at d; exact ⟨a, b, c, d, e⟩
    exact vcond_f (by rw [ltI_nat]; exact blt_f (by omega)) (lp63_1 hO F hl hll hd (fr31 (y ||| n) + 1) (by omega) I)
  | succ d ih =>
    intro k hk y n I
    refine I63_0.of _ _ _ _ _ _ _ _ _ ?_
    unfold T63_0
    have hkl : k < xs.length := by omega
    have hxk := hx _ (List.getElem_mem hkl)
    have hx1 := hxk.1; have hx2 := hxk.2
    have hD : Der cls xs xs[k] := .base (List.getElem_mem hkl)
    have e1 : xs.take (k + 1) = xs.take k ++ [xs[k]] := List.take_succ_eq_append_getElem hkl
    have I : y < 2 ^ 31 ∧ n < 2 ^ 31 ∧ (∀ z, trP y n z → z ≠ 0 → Der cls xs z) ∧ (∀ x ∈ xs.take k, trP y n x) ∧ y.testBit 0 = false ∧ n.testBit 0 = false := by
      rcases I with I | I
      · exact ⟨I.ly, I.ln, I.der, fun x hx => I.beg x (List.mem_of_mem_take hx), I.z0⟩
      · exact I
    obtain ⟨ly, ln, ider, ibeg, iz⟩ := I
    have add : I63_0 O (PshOk cls xs h) a0 n0 c0 a1 n1 c1 (Int.ofNat (if 0 < xs[k] then y ||| 2 ^ xs[k].natAbs else y)) (Int.ofNat (if 0 < xs[k] then n else n ||| 2 ^ xs[k].natAbs)) (Int.ofNat (k + 1)) h := by
      refine ih (k + 1) (by omega) (.inr ?_)
      have h0 : (2 ^ xs[k].natAbs).testBit 0 = false := by rw [Nat.testBit_two_pow]; simp; omega
      refine ⟨by split; exact or31 ly hxk; exact ly, by split; exact ln; exact or31 ln hxk, fun z hz hz0 => ?_, fun z hz => ?_, ?_⟩
      · rcases (trP_add hxk).1 hz with h | rfl
        · exact ider z h hz0
        · exact hD
      · rw [e1] at hz
        rcases List.mem_append.1 hz with hz | hz
        · exact (trP_add hxk).2 (.inl (ibeg z hz))
        · exact (trP_add hxk).2 (.inr (List.mem_singleton.1 hz))
      · split
        · exact ⟨by rw [Nat.testBit_or, h0, iz.1]; rfl, iz.2⟩
        · exact ⟨iz.1, by rw [Nat.testBit_or, h0, iz.2]; rfl⟩
    have yl : y < 9223372036854775808 := Nat.lt_trans ly (by decide)
    have nl : n < 9223372036854775808 := Nat.lt_trans ln (by decide)
    rw [wrap_succ (by omega)]
    refine vcond_t (by rw [ltI_nat]; exact blt_t (by omega)) (isNat_i (X.rd hkl (vcond_split (fun hp => ?_) fun hp => ?_)))
    · have hp := lt_of_t hp
      rw [if_pos hp, if_pos hp] at add
      obtain ⟨s1, s2⟩ := shl1 (x := xs[k]) (m := Int.toNat xs[k]) (by omega) hxk
      rw [s1, lor_nat]
      have el : le0 xs[k] = true := by
        obtain ⟨w, hw⟩ : ∃ w : Nat, xs[k] = Int.ofNat w := ⟨xs[k].toNat, by simp only [Int.ofNat_eq_natCast]; omega⟩
        rw [hw]; rfl
      exact vreq_t el (vreq_t (inD_of yl) (vreq_t (inD_of s2) add))
    · have hp := not_lt_of_f hp
      rw [if_neg hp, if_neg hp] at add
      have ew : wrapF .i64 (0 - xs[k]) = Int.ofNat xs[k].natAbs := by rw [wrap64 (by omega) (by omega)]; simp only [Int.ofNat_eq_natCast]; omega
      rw [ew, show (Int.ofNat xs[k].natAbs).toNat = xs[k].natAbs from rfl]
      obtain ⟨s1, s2⟩ := shl1 (x := xs[k]) (m := xs[k].natAbs) (by simp) hxk
      rw [s1, lor_nat]
      exact vreq_t rfl (vreq_t (inD_of nl) (vreq_t (inD_of s2) add))
theorem ct63 {cls : List (List Int)} {xs : List Int} {h : Hp} {a0 a1 : Option Addr} {n0 c0 n1 c1 : Nat} (F : IntssAt h a0 n0 cls) (hl : cls.length < 1000000) (hll : ∀ l ∈ cls, l.length < 1000000) (hd : ∀ l ∈ cls, (∀ x ∈ l, Lit x) ∧ Dif l) (X : IntsAt h a1 n1 xs) (hxl : xs.length < 1000000) (hx : ∀ x ∈ xs, Lit x) :
    Ret Tryd.prog O 63 [.slice a0 n0 c0, .slice a1 n1 c1] h (PshOk cls xs h) := by
  refine rk63 _ _ _ _ _ _ (hO _ _ _ (by decide)) ?_
  unfold T63
  refine lp63_0 hO F hl hll hd X hxl hx xs.length 0 (by omega) (.inr ⟨by decide, by decide, fun z hz => ?_, fun x hx => by simp at hx, rfl, rfl⟩)
  rcases hz with ⟨_, h⟩ | ⟨_, h⟩ <;> simp at h
/-- A list of its own, with another one's elements. -/
def RCl (h : Hp) (xs : List Int) (a : Option Addr) (n c : Nat) (h' : Hp) : Prop := AccE h' h.nx 3 1 a n c (xs.map (Value.int .i64)) ∧ Kp h.nx h h'
theorem ct60 {h : Hp} (ok : h.Ok) {a0 : Option Addr} {n0 c0 : Nat} {xs : List Int} (X : IntsAt h a0 n0 xs) (hl : xs.length < 100000000) : Ret Tryd.prog O 60 [.slice a0 n0 c0] h fun v h' => ∃ a n c, v = .slice a n c ∧ RCl h xs a n c h' := by
  refine rk60 _ _ _ (hO _ _ _ (by decide)) ?_
  unfold T60
  cases a0 with
  | none =>
    have : xs = [] := by
      rcases X.2 with ⟨e, _⟩ | ⟨_, _, _, _, _, e, _⟩
      · exact e
      · cases e
    subst this
    exact ⟨_, _, _, rfl, .inl (Acc.nil ..), .refl _ _⟩
  | some q =>
    show let g1 : Hp := h.add (.cells [] 3 .fix); _
    intro g1
    have X1 : IntsAt g1 (some q) n0 xs := X.to _
    have Z : AccE g1 h.nx 3 1 (some ⟨h.nx, 0, none⟩) 0 0 [] := .inr ⟨rfl, rfl, rfl, h.nx, rfl, Nat.le_refl _, Nat.lt_succ_self _, _, _, get_add_same ..⟩
    have k1 : Kp h.nx h g1 := (Kp.refl _ _).add (Nat.le_refl _) _
    have src : srcCells g1 1 (.slice (some q) n0 c0) = some (xs.map (Value.int .i64), n0) := X1.src
    obtain ⟨a', n', c', h', e1, A, _, K⟩ := append_accE app32 Z (by show h.nx ≤ h.nx + 1; omega) (fun q hq => ok.gd q hq) ⟨_, _, _, rfl⟩ src (by rw [X.1]; simp) (by simp [one]) (by rw [X.1]; omega) (by rw [X.1]; unfold big; omega)
    exact ⟨a', n', c', h', e1, _, _, _, rfl, A, k1.trans (K.kpE Z (by show h.nx ≤ h.nx + 1; omega))⟩
/-- One is appended to a list of its own. -/
theorem appIE {e sT : TypeId} (T : AppT Tryd.prog sT e 1 8) {h : Hp} {base : Nat} {a : Option Addr} {n c : Nat} {xs : List Int} (A : AccE h base e 1 a n c (xs.map (Value.int .i64))) (hb : base ≤ h.nx) (hg : GdLt h base) (hn : n = xs.length) (hl : xs.length < 1000000000) {x : Int}
    {K : Option Addr → Nat → Nat → Hp → Prop} (next : ∀ a' c' h', AccE h' base e 1 a' (n + 1) c' ((xs ++ [x]).map (Value.int .i64)) → Kp base h h' → K a' (n + 1) c' h') :
    ∃ a' n' c' h', appendV Tryd.prog (h.add (.cells [.int .i64 x] e .fix)) sT sT (.slice a n c) (.slice (some ⟨h.nx, 0, none⟩) 1 1) = some (.slice a' n' c', h') ∧ K a' n' c' h' := by
  have _ := hO
  have A1 : AccE (h.add (.cells [.int .i64 x] e .fix)) base e 1 a n c (xs.map (Value.int .i64)) := A.keep (fun o ho _ => get_add_ne (by omega)) (by rw [nx_add]; omega)
  obtain ⟨a', n', c', h', e1, A', rfl, k⟩ := append_accE T A1 (by rw [nx_add]; omega) hg ⟨_, _, _, rfl⟩ (src_get (n := 1) (c := 1) (esz := 1) (off := 0) (read1 (i := 0) (v := .int .i64 x) (get_add_same ..) rfl)) rfl rfl (by omega) (by unfold big; omega)
  have k' : AppK h h' a := ⟨Nat.le_trans (by rw [nx_add]; omega) k.nx, k.gd, fun f => k.fr (f.add _), fun q hq hne => by rw [k.get q (by rw [nx_add]; omega) hne, get_add_ne (by omega)]⟩
  exact ⟨a', _, c', h', e1, next a' c' h' (by rw [List.map_append]; exact A') (k'.kpE A hb)⟩
omit hO in
theorem accE_ints {e : TypeId} {h : Hp} {base : Nat} {a : Option Addr} {n c : Nat} {xs : List Int} (H : AccE h base e 1 a n c (xs.map (Value.int .i64))) : IntsAt h a n xs := by
  rcases H with H | ⟨h1, h2, h3, o, h4, h5, h6, e2, m, h7⟩
  · exact AccI.ints H
  · have hx : xs = [] := by
      cases xs with
      | nil => rfl
      | cons x xs => cases h1
    subst hx h2 h4
    exact ⟨rfl, .inr ⟨o, 0, _, _, _, rfl, h6, h7, by simp, fun i hi => by simp at hi⟩⟩
theorem lp57 {cls : List (List Int)} {gs l : List Int} {h₀ : Hp} (ok : h₀.Ok) {a0 a1 a2 : Option Addr} {n0 c0 n1 c1 n2 c2 : Nat} (F : IntssAt h₀ a0 n0 cls) (hl : cls.length < 1000000) (hll : ∀ l ∈ cls, l.length < 1000000) (hd : ∀ l ∈ cls, (∀ x ∈ l, Lit x) ∧ Dif l) (hgl : gs.length < 1000) (hg : ∀ x ∈ gs, Lit x) (L : IntsAt h₀ a2 n2 l) (hln : l.length < 1000) (hlit : ∀ x ∈ l, Lit x) :
    ∀ (d k : Nat), k + d = l.length → ∀ {h : Hp} {a n c}, Kp h₀.nx h₀ h → AccE h h₀.nx 3 1 a n c ((gs ++ (l.take k).map fun x => -x).map (Value.int .i64)) → n = gs.length + k →
      I57_0 O (fun v h' => ∃ b : Bool, v = .bool b ∧ (b = true ↔ Cl cls (gs ++ l.map fun x => -x)) ∧ Kp h₀.nx h₀ h') a0 n0 c0 a1 n1 c1 a2 n2 c2 a n c (Int.ofNat k) h := by
  have hn := L.1
  intro d
  induction d with
  | zero =>
    intro k hk h a n c kp A hnn
    refine I57_0.of _ _ _ _ _ _ _ _ _ _ _ _ _ ?_
    unfold T57_0
    rw [List.take_of_length_le (by omega)] at A
    have := kp.ex (Nat.le_refl _)
    have lits : ∀ x ∈ gs ++ l.map (fun x => -x), Lit x := fun x hx => by
      rcases List.mem_append.1 hx with hx | hx
      · exact hg x hx
      · exact lit_neg hlit x hx
    obtain ⟨v, h', e, rfl, y, m, b, rfl, _, _, p1, p2⟩ := ct63 hO (F.to h) hl hll hd (accE_ints A) (by simp; omega) lits
    refine vcond_f (by rw [ltI_nat]; exact blt_f (by omega)) ⟨_, _, _, _, e, !b, rfl, ?_, kp⟩
    cases b with
    | true => exact ⟨fun e => (by cases e), fun hc => absurd hc ((p1 rfl).1.not)⟩
    | false => exact ⟨fun _ => (p2 rfl).2.2, fun _ => rfl⟩
  | succ d ih =>
    intro k hk h a n c kp A hnn
    refine I57_0.of _ _ _ _ _ _ _ _ _ _ _ _ _ ?_
    unfold T57_0
    have hkl : k < l.length := by omega
    have hx := hlit _ (List.getElem_mem hkl)
    have hx2 := hx.2
    have := kp.ex (Nat.le_refl _)
    refine vcond_t (by rw [ltI_nat]; exact blt_t (by omega)) (isNat_i (L.rd hkl ?_))
    rw [wrap_succ (by omega), show wrapF .i64 (0 - l[k]) = -l[k] by rw [wrap64 (by omega) (by omega)]; omega]
    refine appIE hO app32 A kp.nx (GdLt.kp ok.lt kp) (by simp; omega) (by simp; omega) fun a' c' h' A' kA => ih (k + 1) (by omega) (kp.trans kA) ?_ (by omega)
    rw [List.take_succ_eq_append_getElem hkl, List.map_append (l₁ := l.take k), ← List.append_assoc]; exact A'
theorem ct57 {cls : List (List Int)} {gs l : List Int} {h : Hp} (ok : h.Ok) {a0 a1 a2 : Option Addr} {n0 c0 n1 c1 n2 c2 : Nat} (F : IntssAt h a0 n0 cls) (hl : cls.length < 1000000) (hll : ∀ l ∈ cls, l.length < 1000000) (hd : ∀ l ∈ cls, (∀ x ∈ l, Lit x) ∧ Dif l) (G : IntsAt h a1 n1 gs) (hgl : gs.length < 1000) (hg : ∀ x ∈ gs, Lit x) (L : IntsAt h a2 n2 l) (hln : l.length < 1000) (hlit : ∀ x ∈ l, Lit x) :
    Ret Tryd.prog O 57 [.slice a0 n0 c0, .slice a1 n1 c1, .slice a2 n2 c2] h fun v h' => ∃ b : Bool, v = .bool b ∧ (b = true ↔ Cl cls (gs ++ l.map fun x => -x)) ∧ Kp h.nx h h' := by
  refine rk57 _ _ _ _ _ _ _ _ _ (hO _ _ _ (by decide)) ?_
  unfold T57
  refine (ct60 hO ok G (by omega)).s fun a n c h' ⟨A, k⟩ => ?_
  exact lp57 hO ok F hl hll hd hgl hg L hln hlit l.length 0 (by omega) k (by simpa using A) (by have := (accE_ints A).1; simpa using this)
end
end Go.Proofs.YtfgfhplgnfbaaaaDoor
/- Lists of lists that grow, their elements laid meanwhile. -/
namespace Go.Proofs.YtfgfhplgnfbaaaaDoor
open Go Go.Ev
/-- Where an element may lie: neither in what is written nor in the list that grows. -/
def VOk (lo base : Nat) (v : Value) : Prop := ∀ b off n c, v = .slice (some ⟨b, off, none⟩) n c → (b < lo ∨ base ≤ b) ∧ (b < base ∨ 0 < n)
def LL (lo base : Nat) (h : Hp) (a : Option Addr) (n c : Nat) (xss : List (List Int)) : Prop := ∃ vs, AccE h base 32 1 a n c vs ∧ Lis h vs xss ∧ ∀ v ∈ vs, VOk lo base v
theorem LL.nil (lo base : Nat) (h : Hp) : LL lo base h none 0 0 [] := ⟨[], .inl (Acc.nil ..), .nil h, fun _ h => by cases h⟩
theorem LL.intss {lo base : Nat} {h : Hp} {a : Option Addr} {n c : Nat} {xss : List (List Int)} (A : LL lo base h a n c xss) : IntssAt h a n xss := let ⟨_, A, L, _⟩ := A; AccE.intss A L
theorem LL.len {lo base : Nat} {h : Hp} {a : Option Addr} {n c : Nat} {xss : List (List Int)} (A : LL lo base h a n c xss) : n = xss.length := A.intss.1
theorem AccE.to {h : Hp} (h' : Hp) [k : Ft h h'] {base : Nat} {e : TypeId} {esz : Nat} {a : Option Addr} {n c : Nat} {xs : List Value} (H : AccE h base e esz a n c xs) : AccE h' base e esz a n c xs :=
  H.keep (fun o ho _ => k.get o ho) k.nx
theorem Lis.to {h : Hp} (h' : Hp) [k : Ft h h'] {vs : List Value} {xs : List (List Int)} (A : Lis h vs xs) : Lis h' vs xs := ⟨A.1, fun i hi => let ⟨v, h1, h2⟩ := A.2 i hi; ⟨v, h1, EUp.up _ _ _ _ k h2⟩⟩
theorem LL.to {lo base : Nat} {h : Hp} (h' : Hp) [k : Ft h h'] {a : Option Addr} {n c : Nat} {xss : List (List Int)} (A : LL lo base h a n c xss) : LL lo base h' a n c xss :=
  let ⟨vs, A, L, o⟩ := A; ⟨vs, AccE.to h' A, L.to h', o⟩
/-- Something else changes. -/
theorem ints_sub {h h' : Hp} {a : Option Addr} {n : Nat} {xs : List Int} (X : IntsAt h a n xs) (hk : ∀ b off, a = some ⟨b, off, none⟩ → b < h.nx → h'.get b = h.get b) (hn : h.nx ≤ h'.nx) : IntsAt h' a n xs := by
  refine ⟨X.1, X.2.imp id ?_⟩
  rintro ⟨b, off, c, e, m, h1, h2, h3, h4, h5⟩
  exact ⟨b, off, c, e, m, h1, Nat.lt_of_lt_of_le h2 hn, by rw [hk b off h1 h2]; exact h3, h4, h5⟩
theorem LL.wr {lo base : Nat} {h : Hp} {a : Option Addr} {n c : Nat} {xss : List (List Int)} (A : LL lo base h a n c xss) {q : Nat} (h1 : lo ≤ q) (h2 : q < base) (off : Nat) (ws : List Value) : LL lo base (h.wr q off ws) a n c xss := by
  obtain ⟨vs, A, L, o⟩ := A
  refine ⟨vs, A.keep (fun p _ hp => wr_get_ne _ _ _ _ (by have := (A.lt hp).1; omega)) (by rw [nx_wr]; omega), ⟨L.1, fun i hi => ?_⟩, o⟩
  obtain ⟨v, hv, a', n', c', e, X⟩ := L.2 i hi
  refine ⟨v, hv, a', n', c', e, ints_sub X (fun b off hb _ => wr_get_ne _ _ _ _ ?_) (by rw [nx_wr]; omega)⟩
  have := (o v (List.mem_of_getElem? hv) b off n' c' (by rw [← hb]; simpa using e)).1
  omega
/-- An element lies elsewhere than the list. -/
theorem LL.ne {h : Hp} {base : Nat} {a : Option Addr} {n c : Nat} {vs : List Value} {xss : List (List Int)} (A : AccE h base 32 1 a n c vs) (L : Lis h vs xss) {a1 : Option Addr} {n1 : Nat} {ys : List Int} (Y : IntsAt h a1 n1 ys) {b off : Nat} (hb : a1 = some ⟨b, off, none⟩) (hn : b < base ∨ 0 < n1) : a ≠ some ⟨b, 0, none⟩ := by
  intro e
  have hlt := A.lt e
  have hn : 0 < n1 := by omega
  rcases Y.2 with ⟨_, e2⟩ | ⟨b', off', cs, e', m', h1, h2, h3, h4, h5⟩
  · rw [hb] at e2; cases e2
  · rw [hb] at h1; injection h1 with h1; injection h1 with h1 h1'; subst h1 h1'
    have hy := Y.1
    have h6 : (cs.drop (off + 0 * 1)).take 1 = [.int .i64 ys[0]] := h5 0 (by omega)
    have hc : cs[off]? = some (.int .i64 ys[0]) := by
      rw [Nat.zero_mul, Nat.add_zero] at h6
      have : ((cs.drop off).take 1)[0]? = some (.int .i64 ys[0]) := by rw [h6]; rfl
      simpa using this
    have hvs : cs = vs ∨ cs = [] := by
      rcases A with (⟨q, _⟩ | ⟨o, q, _, _, _, _, hg⟩) | ⟨_, _, _, o, q, _, _, e2, m, hg⟩
      · rw [q] at e; cases e
      · rw [q] at e; injection e with e; injection e with e; subst e; rw [h3] at hg; injection hg with hg; injection hg with hg; exact .inl hg
      · rw [q] at e; injection e with e; injection e with e; subst e; rw [h3] at hg; injection hg with hg; injection hg with hg; exact .inr hg
    rcases hvs with rfl | rfl
    · have hl : off < xss.length := by
        have := (List.getElem?_eq_some_iff.1 hc).1
        rw [← L.1]; exact this
      obtain ⟨v, hv, a2, n2, c2, e2, _⟩ := L.2 off hl
      rw [hv] at hc
      injection hc with hc
      subst hc
      cases e2
    · simp at hc
/-- What is appended to lies at a new number: also a row of no elements. -/
theorem append_newE {P : Program} {sT e : TypeId} {esz bytes : Nat} (T : AppT P sT e esz bytes) {h : Hp} {base : Nat} {a : Option Addr} {n c : Nat} {xs : List Value} (H : AccE h base e esz a n c xs)
    {x : Value} {ys : List Value} {k : Nat} (hx : ∃ a n c, x = .slice a n c) (hs : srcCells h esz x = some (ys, k)) (h1 : ys.all one = true) (hkp : 0 < k) {a' : Option Addr} {n' c' : Nat} {h' : Hp} (e1 : appendV P h sT sT (.slice a n c) x = some (.slice a' n' c', h')) : a' = some ⟨h.nx, 0, none⟩ := by
  rcases H with H | ⟨rfl, rfl, rfl, o, rfl, h2, h3, e2, m, h4⟩
  · exact append_new T H hx hs h1 hkp e1
  · obtain ⟨hz, info, z, hi, hzz, hrun⟩ := T.run
    rw [hrun h _ x hx, hs] at e1
    have hk0 : Nat.beq k 0 = false := by rw [Bool.eq_false_iff]; intro hh; have := Nat.eq_of_beq_eq_true hh; omega
    simp only [Option.bind_some, h1, cond_true, hk0, cond_false] at e1
    unfold appSome at e1
    have e3 : Nat.beq 0 unk = false := by
      rw [Bool.eq_false_iff]; intro hh; have := Nat.eq_of_beq_eq_true hh; have : unk = 18446744073709551616 := rfl; omega
    have e4 : Nat.ble (0 + k) 0 = false := by
      rw [Bool.eq_false_iff]; intro hh; have : 0 + k ≤ 0 := by simpa using hh
      omega
    have e5 : readAt h o 0 (0 * esz) = some [] := by rw [Nat.zero_mul, readAt_get h4 (by simp)]; rfl
    simp only [h4, e3, e4, e5, cond_false, Option.bind_some] at e1
    unfold appNew at e1
    obtain ⟨_, e1⟩ := cond_some e1
    injection e1 with e1
    injection e1 with e1 _
    injection e1 with e1 _
    exact e1.symm
/-- What an append to a list of lists leaves. -/
structure LLK (lo base : Nat) (g h' : Hp) (a : Option Addr) : Prop where
  kp : Kp base g h'
  st : ∀ {a3 : Option Addr} {n3 c3 : Nat} {zs : List Int}, IntsAt g a3 n3 zs → VOk lo base (.slice a3 n3 c3) → IntsAt h' a3 n3 zs
  oth : ∀ q, q < g.nx → a ≠ some ⟨q, 0, none⟩ → g.get q ≠ none → h'.get q = g.get q
theorem accE_live {h : Hp} {base : Nat} {e : TypeId} {esz : Nat} {a : Option Addr} {n c : Nat} {xs : List Value} (A : AccE h base e esz a n c xs) {o : Nat} (ha : a = some ⟨o, 0, none⟩) : h.get o ≠ none := by
  rcases A with (⟨h0, _⟩ | ⟨p, h0, _, _, _, _, h6⟩) | ⟨_, _, _, p, h0, _, _, _, _, h6⟩
  · rw [h0] at ha; cases ha
  · rw [h0] at ha; injection ha with ha; injection ha with ha; subst ha; rw [h6]; simp
  · rw [h0] at ha; injection ha with ha; injection ha with ha; subst ha; rw [h6]; simp
theorem LL.appR {lo base : Nat} (hlo : lo ≤ base) {g : Hp} {a : Option Addr} {n c : Nat} {xss : List (List Int)} (A : LL lo base g a n c xss) {a1 : Option Addr} {n1 c1 : Nat} {ys : List Int} (Y : IntsAt g a1 n1 ys) (okY : VOk lo base (.slice a1 n1 c1)) (hb : base ≤ g.nx) (hg : GdLt g base)
    {q : Nat} (hq : g.get q = none) (hq2 : q < g.nx) (hqb : base ≤ q) {l : List Nat} (hl : ∀ i ∈ l, i < base) (hn : n < 10000000)
    {K : Option Addr → Nat → Nat → Hp → Prop} (next : ∀ a' c' h', LL lo base (h'.rst (g.lay q (.cells [.slice a1 n1 c1] 32 .fix))) a' (n + 1) c' (xss ++ [ys]) → (∀ p, a' = some ⟨p, 0, none⟩ → g.nx ≤ p) → LLK lo base g (h'.rst (g.lay q (.cells [.slice a1 n1 c1] 32 .fix))) a → K a' (n + 1) c' h') :
    vreq (g.free q) (let g2 := g.lay q (.cells [.slice a1 n1 c1] 32 .fix); ∃ a' n' c' h', appendV Tryd.prog (g2.grd l) 28 28 (.slice a n c) (.slice (some ⟨q, 0, none⟩) 1 1) = some (.slice a' n' c', h') ∧ K a' n' c' h') := by
  have _ := hlo
  obtain ⟨vs, A, L, o⟩ := A
  refine vreq_t (free_t hq) ?_
  intro g2
  have aq : a ≠ some ⟨q, 0, none⟩ := fun ha => by
    rcases A with (⟨h0, _⟩ | ⟨p, h0, _, _, _, _, h6⟩) | ⟨_, _, _, p, h0, _, _, _, _, h6⟩
    · rw [h0] at ha; cases ha
    · rw [h0] at ha; injection ha with ha; injection ha with ha; subst ha; rw [hq] at h6; cases h6
    · rw [h0] at ha; injection ha with ha; injection ha with ha; subst ha; rw [hq] at h6; cases h6
  have A2 : AccE (g2.grd l) base 32 1 a n c vs := A.keep (fun p _ hp => by
    show g2.get p = _
    rw [get_lay, if_neg (show p ≠ q from fun hh => aq (by rw [← hh]; exact hp))]) (Nat.le_refl _)
  have gl : GdLt (g2.grd l) base := fun i hi => (List.mem_append.1 hi).elim (hl i) (hg i)
  have src : (g2.grd l).get q = some (.cells [.slice a1 n1 c1] 32 .fix) := by show g2.get q = _; rw [get_lay, if_pos rfl]
  obtain ⟨a', n', c', h', e1, A', rfl, k⟩ := append_accE app28 A2 hb gl ⟨_, _, _, rfl⟩ (src_get (n := 1) (c := 1) (esz := 1) (off := 0) (read1 (i := 0) (v := .slice a1 n1 c1) src rfl)) rfl rfl (by omega) (by unfold big; omega)
  have k1 : AppK g2 (h'.rst g2) a := ⟨k.nx, rfl, k.fr, k.get⟩
  have k2 : Kp base g (h'.rst g2) := ((Kp.refl base g).lay hqb hq2 _).trans (k1.kpE A2 hb)
  -- what lies elsewhere stays
  have st : ∀ {a3 : Option Addr} {n3 c3 : Nat} {zs : List Int}, IntsAt g a3 n3 zs → VOk lo base (.slice a3 n3 c3) → IntsAt (h'.rst g2) a3 n3 zs := by
    intro a3 n3 c3 zs Z ok
    refine ints_sub Z (fun b off hb hlt => ?_) k2.nx
    have hne := LL.ne A L Z hb (ok b off n3 c3 (by rw [hb])).2
    have hbq : b ≠ q := by
      rintro rfl
      rcases Z.2 with ⟨_, e⟩ | ⟨b', off', cs, e', m', h1, h2, h3, _⟩
      · rw [hb] at e; cases e
      · rw [hb] at h1; injection h1 with h1; injection h1 with h1; subst h1; rw [hq] at h3; cases h3
    rw [k1.get b hlt hne, get_lay, if_neg hbq]
  have fr := append_newE app28 A2 ⟨_, _, _, rfl⟩ (src_get (n := 1) (c := 1) (esz := 1) (off := 0) (read1 (i := 0) (v := .slice a1 n1 c1) src rfl)) rfl Nat.one_pos e1
  refine ⟨a', _, c', h', e1, next a' c' h' ⟨vs ++ [.slice a1 n1 c1], AccE.keep (h := h') A' (fun _ _ _ => rfl) (Nat.le_refl _), Lis.app ⟨L.1, fun i hi => ?_⟩ ⟨rfl, fun i hi => ?_⟩, fun v hv => ?_⟩ (fun p hp => by rw [fr] at hp; injection hp with hp; injection hp with hp; exact Nat.le_of_eq hp) ⟨k2, st, fun p hp hne hl => by rw [k1.get p hp hne, get_lay, if_neg (fun hh => hl (by rw [hh]; exact hq))]⟩⟩
  · obtain ⟨v, hv, a3, n3, c3, e, X⟩ := L.2 i hi
    have e' : v = .slice a3 n3 c3 := by simpa using e
    exact ⟨v, hv, a3, n3, c3, e, st X (by rw [← e']; exact o v (List.mem_of_getElem? hv))⟩
  · have : i = 0 := by simpa using hi
    subst this
    exact ⟨_, rfl, a1, n1, c1, rfl, st Y okY⟩
  · rcases List.mem_append.1 hv with hv | hv
    · exact o v hv
    · obtain rfl := List.mem_singleton.1 hv; exact okY
/-- The same outside of a region. -/
theorem LL.app {lo base : Nat} (hlo : lo ≤ base) {g : Hp} {a : Option Addr} {n c : Nat} {xss : List (List Int)} (A : LL lo base g a n c xss) {a1 : Option Addr} {n1 c1 : Nat} {ys : List Int} (Y : IntsAt g a1 n1 ys) (okY : VOk lo base (.slice a1 n1 c1)) (hb : base ≤ g.nx) (hg : GdLt g base) (hf : g.Fresh) (hn : n < 10000000)
    {K : Option Addr → Nat → Nat → Hp → Prop} (next : ∀ a' c' h', LL lo base h' a' (n + 1) c' (xss ++ [ys]) → (∀ p, a' = some ⟨p, 0, none⟩ → g.nx ≤ p) → LLK lo base g h' a → K a' (n + 1) c' h') :
    ∃ a' n' c' h', appendV Tryd.prog (g.add (.cells [.slice a1 n1 c1] 32 .fix)) 28 28 (.slice a n c) (.slice (some ⟨g.nx, 0, none⟩) 1 1) = some (.slice a' n' c', h') ∧ K a' n' c' h' := by
  have _ := hlo
  obtain ⟨vs, A, L, o⟩ := A
  have A2 : AccE (g.add (.cells [.slice a1 n1 c1] 32 .fix)) base 32 1 a n c vs := AccE.to _ A
  obtain ⟨a', n', c', h', e1, A', rfl, k⟩ := append_accE app28 A2 (by rw [nx_add]; omega) hg ⟨_, _, _, rfl⟩ (src_get (n := 1) (c := 1) (esz := 1) (off := 0) (read1 (i := 0) (v := .slice a1 n1 c1) (get_add_same ..) rfl)) rfl rfl (by omega) (by unfold big; omega)
  have _ := hf
  have k2 : Kp base g h' := ((Kp.refl base g).add hb _).trans (k.kpE A2 (by rw [nx_add]; omega))
  have st : ∀ {a3 : Option Addr} {n3 c3 : Nat} {zs : List Int}, IntsAt g a3 n3 zs → VOk lo base (.slice a3 n3 c3) → IntsAt h' a3 n3 zs := by
    intro a3 n3 c3 zs Z ok
    refine ints_sub Z (fun b off hb hlt => ?_) k2.nx
    have hne := LL.ne A L Z hb (ok b off n3 c3 (by rw [hb])).2
    rw [k.get b (by rw [nx_add]; omega) hne, get_add_ne (by omega)]
  have fr := append_newE app28 A2 ⟨_, _, _, rfl⟩ (src_get (n := 1) (c := 1) (esz := 1) (off := 0) (read1 (i := 0) (v := .slice a1 n1 c1) (get_add_same ..) rfl)) rfl Nat.one_pos e1
  refine ⟨a', _, c', h', e1, next a' c' _ ⟨vs ++ [.slice a1 n1 c1], A', Lis.app ⟨L.1, fun i hi => ?_⟩ ⟨rfl, fun i hi => ?_⟩, fun v hv => ?_⟩ (fun p hp => by rw [fr] at hp; injection hp with hp; injection hp with hp; have : (g.add (.cells [.slice a1 n1 c1] 32 .fix)).nx = g.nx + 1 := rfl; omega) ⟨k2, st, fun p hp hne _ => by rw [k.get p (by rw [nx_add]; omega) hne, get_add_ne (by omega)]⟩⟩
  · obtain ⟨v, hv, a3, n3, c3, e, X⟩ := L.2 i hi
    have e' : v = .slice a3 n3 c3 := by simpa using e
    exact ⟨v, hv, a3, n3, c3, e, st X (by rw [← e']; exact o v (List.mem_of_getElem? hv))⟩
  · have : i = 0 := by simpa using hi
    subst this
    exact ⟨_, rfl, a1, n1, c1, rfl, st Y okY⟩
  · rcases List.mem_append.1 hv with hv | hv
    · exact o v hv
    · obtain rfl := List.mem_singleton.1 hv; exact okY
section
variable {O : CallF} (hO : Oth O)
include hO
theorem ct56 {h : Hp} (ok : h.Ok) {g0 : Hp} [f0 : Ft g0 h] {a0 : Option Addr} {n0 c0 : Nat} {xss : List (List Int)} (X : IntssAt g0 a0 n0 xss) (hl : xss.length < 10000) {B : Nat} (hB1 : g0.nx ≤ B) (hB2 : B ≤ h.nx) : Ret Tryd.prog O 56 [.slice a0 n0 c0] h fun v h' => ∃ a n c, v = .slice a n c ∧ LL g0.nx B h' a n c xss ∧ Kp h.nx h h' := by
  refine rk56 _ _ _ (hO _ _ _ (by decide)) ?_
  unfold T56
  cases a0 with
  | none =>
    have : xss = [] := by
      rcases X.2 with ⟨e, _⟩ | ⟨_, _, _, _, _, e, _⟩
      · exact e
      · cases e
    subst this
    exact ⟨_, _, _, rfl, .nil .., .refl _ _⟩
  | some q =>
    show let g1 : Hp := h.add (.cells [] 32 .fix); _
    intro g1
    have Z : AccE g1 h.nx 32 1 (some ⟨h.nx, 0, none⟩) 0 0 [] := .inr ⟨rfl, rfl, rfl, h.nx, rfl, Nat.le_refl _, Nat.lt_succ_self _, _, _, get_add_same ..⟩
    have k1 : Kp h.nx h g1 := (Kp.refl _ _).add (Nat.le_refl _) _
    have f1 : Ft g0 g1 := f0.tr (k1.ex (Nat.le_refl _))
    obtain ⟨vs, src, l1, l2⟩ := intss_src (c2 := c0) X
    have src1 : srcCells g1 1 (.slice (some q) n0 c0) = some (vs, n0) := by
      rw [← src]
      rcases X.2 with ⟨_, e⟩ | ⟨b, off, cs, e', m', h1, h2, _⟩
      · cases e
      · rw [h1]
        show (readAt g1 b off (n0 * 1)).map _ = (readAt g0 b off (n0 * 1)).map _
        rw [readAt_ex (g := g0) h2]
    have L : Lis g0 vs xss := ⟨l1, l2⟩
    obtain ⟨a', n', c', h', e1, A, _, K⟩ := append_accE app28 Z (by show h.nx ≤ h.nx + 1; omega) (fun q hq => ok.gd q hq) ⟨_, _, _, rfl⟩ src1 (by rw [l1, X.1]; omega) L.one (by rw [X.1]; omega) (by rw [X.1]; unfold big; omega)
    have k2 := k1.trans (K.kpE Z (by show h.nx ≤ h.nx + 1; omega))
    have f2 : Ft g0 h' := f0.tr (k2.ex (Nat.le_refl _))
    have A' : AccE h' B 32 1 a' n' c' ([] ++ vs) := by
      rcases A with (⟨a1, a2, a3, a4⟩ | ⟨o, a1, a2, a3, a4, a5, a6⟩) | ⟨a1, a2, a3, o, a4, a5, a6⟩
      · exact .inl (.inl ⟨a1, a2, a3, a4⟩)
      · exact .inl (.inr ⟨o, a1, a2, a3, Nat.le_trans hB2 a4, a5, a6⟩)
      · exact .inr ⟨a1, a2, a3, o, a4, Nat.le_trans hB2 a5, a6⟩
    refine ⟨a', n', c', h', e1, _, _, _, rfl, ⟨vs, A', L.to h', fun v hv b off n c e => ?_⟩, k2⟩
    obtain ⟨i, hi⟩ := List.mem_iff_getElem?.1 hv
    have hi2 : i < xss.length := by rw [← l1]; exact (List.getElem?_eq_some_iff.1 hi).1
    obtain ⟨w, hw, a3, n3, c3, e3, Y⟩ := L.2 i hi2
    rw [hi] at hw
    injection hw with hw
    have e3 : w = .slice a3 n3 c3 := by simpa using e3
    rw [← hw, e] at e3
    injection e3 with e3
    have : b < g0.nx := by
      rcases Y.2 with ⟨_, e⟩ | ⟨b', off', cs, e', m', h1, h2, _⟩
      · rw [← e3] at e; cases e
      · rw [← e3] at h1; injection h1 with h1; injection h1 with h1; omega
    exact ⟨.inl this, .inl (by omega)⟩
end
/-- Something is laid at a number that was free. -/
theorem ints_lay {h : Hp} {q : Nat} (hq : h.get q = none) (x : Ob) {a : Option Addr} {n : Nat} {xs : List Int} (X : IntsAt h a n xs) : IntsAt (h.lay q x) a n xs := by
  refine ⟨X.1, X.2.imp id ?_⟩
  rintro ⟨b, off, c, e, m, h1, h2, h3, h4, h5⟩
  exact ⟨b, off, c, e, m, h1, h2, by rw [get_lay, if_neg (fun hh => by rw [hh, hq] at h3; cases h3)]; exact h3, h4, h5⟩
theorem LL.lay {lo base : Nat} {h : Hp} {q : Nat} (hq : h.get q = none) (x : Ob) {a : Option Addr} {n c : Nat} {xss : List (List Int)} (A : LL lo base h a n c xss) : LL lo base (h.lay q x) a n c xss := by
  obtain ⟨vs, A, L, o⟩ := A
  refine ⟨vs, A.keep (fun p _ hp => by rw [get_lay, if_neg (fun hh => accE_live A hp (by rw [hh]; exact hq))]) (Nat.le_refl _), ⟨L.1, fun i hi => ?_⟩, o⟩
  obtain ⟨v, hv, a', n', c', e, X⟩ := L.2 i hi
  exact ⟨v, hv, a', n', c', e, ints_lay hq x X⟩
end Go.Proofs.YtfgfhplgnfbaaaaDoor
/- Conditions of functions' code, printed by a program of ours. -/
namespace Go.Proofs.YtfgfhplgnfbaaaaDoor
open Go Go.Ev
set_option maxRecDepth 100000
set_option linter.unusedVariables false
/-! sward/swardlaw20.alike -/
noncomputable def b49 : Code := (Tryd.f49.body).getD .skip
noncomputable def stk49_0 : List KI := [.code (sub [1, 1, 0, 1, 0] b49), .blk 0, .code (sub [1, 1, 1] b49)]
def lv49 : List (Nat × List Nat) := [(0, [0, 1, 4, 5])]
def I49_0 (O : CallF) (Q : Value → Hp → Prop) (a0 : Option Addr) (n0 : Nat) (c0 : Nat) (a1 : Option Addr) (n1 : Nat) (c1 : Nat) (q4 : Bool) (x5 : Int) (h : Hp) : Prop := RKL Tryd.prog O Tryd.f49 stk49_0 26 [0, 1, 4, 5] [(.slice a0 n0 c0), (.slice a1 n1 c1), (.bool q4), (.int .i64 x5)] h Q
def T49 (O : CallF) (Q : Value → Hp → Prop) (a0 : Option Addr) (n0 : Nat) (c0 : Nat) (a1 : Option Addr) (n1 : Nat) (c1 : Nat) (h : Hp) : Prop :=
  vcond (!(eqI (Int.ofNat n0) (Int.ofNat n1)))
  (Q (.bool false) h)
  (I49_0 O Q a0 n0 c0 a1 n1 c1 false 0 h)
theorem rk49 {O Q} (a0 n0 c0 a1 n1 c1) {h : Hp} (hO : O 49 [(.slice a0 n0 c0), (.slice a1 n1 c1)] h = none) (hh : T49 O Q a0 n0 c0 a1 n1 c1 h) : Ret Tryd.prog O 49 [(.slice a0 n0 c0), (.slice a1 n1 c1)] h Q :=
  .of (c := b49) Tryd.func49 (by kernel_rfl) hO (V_ok (tb := lv49) (cuts := []) 500 (Eq.mp (by kernel_rfl) hh))
def T49_0 (O : CallF) (Q : Value → Hp → Prop) (a0 : Option Addr) (n0 : Nat) (c0 : Nat) (a1 : Option Addr) (n1 : Nat) (c1 : Nat) (q4 : Bool) (x5 : Int) (h : Hp) : Prop :=
  vcond (ltI x5 (Int.ofNat n0))
  (let g101 : Hp := h.rsv 9
  isNat x5 fun n102' =>
  isAddr a0 fun b103' f104' =>
  vreq (Nat.blt n102' n0)
  (∃ q105', readAt g101 b103' (f104' + (n102' * 1)) 1 = some [(.bool q105')] ∧
  isNat x5 fun n106' =>
  isAddr a1 fun b107' f108' =>
  vreq (Nat.blt n106' n1)
  (∃ q109', readAt g101 b107' (f108' + (n106' * 1)) 1 = some [(.bool q109')] ∧
  vcond (!eqB q105' q109')
  (Q (.bool false) g101)
  (I49_0 O Q a0 n0 c0 a1 n1 c1 q4 (wrapF .i64 (x5 + 1)) g101))))
  (Q (.bool true) h)
theorem I49_0.of {O Q} (a0 n0 c0 a1 n1 c1 q4 x5) {h : Hp} (hh : T49_0 O Q a0 n0 c0 a1 n1 c1 q4 x5 h) : I49_0 O Q a0 n0 c0 a1 n1 c1 q4 x5 h :=
  RKL.of (tb := lv49) (cuts := []) 500 fun _ => Eq.mp (by kernel_rfl) hh
/-! slices.Delete[[]int,int] -/
noncomputable def b59 : Code := (Tryd.f59.body).getD .skip
def lv59 : List (Nat × List Nat) := []
def T59 (O : CallF) (Q : Value → Hp → Prop) (a0 : Option Addr) (n0 : Nat) (c0 : Nat) (x1 : Int) (x2 : Int) (h : Hp) : Prop :=
  ∃ a1' n2' c3', sliceV Tryd.prog h 32 (.slice a0 n0 c0) (some (.int .i64 x1)) (some (.int .i64 x2)) (some (.int .i64 (Int.ofNat n0))) = some (.slice a1' n2' c3') ∧
  vcond (eqI x1 x2)
  (Q (.slice a0 n0 c0) h)
  (let g4 : Hp := h.rsv 8
  ∃ a5' n6' c7', sliceV Tryd.prog g4 32 (.slice a0 n0 c0) none (some (.int .i64 x1)) none = some (.slice a5' n6' c7') ∧
  ∃ a8' n9' c10', sliceV Tryd.prog g4 32 (.slice a0 n0 c0) (some (.int .i64 x2)) none none = some (.slice a8' n9' c10') ∧
  ∃ a11' n12' c13' h14', appendV Tryd.prog (g4.grd []) 32 32 (.slice a5' n6' c7') (.slice a8' n9' c10') = some (.slice a11' n12' c13', h14') ∧
  let g15 : Hp := h14'.rst g4
  ∃ a16' n17' c18', sliceV Tryd.prog g15 32 (.slice a11' n12' c13') (some (.int .i64 (Int.ofNat n12'))) (some (.int .i64 (Int.ofNat n0))) none = some (.slice a16' n17' c18') ∧
  ∃ h19', clearV Tryd.prog g15 32 (.slice a16' n17' c18') = some (undef, h19') ∧
  Q (.slice a11' n12' c13') h19')
theorem rk59 {O Q} (a0 n0 c0 x1 x2) {h : Hp} (hO : O 59 [(.slice a0 n0 c0), (.int .i64 x1), (.int .i64 x2)] h = none) (hh : T59 O Q a0 n0 c0 x1 x2 h) : Ret Tryd.prog O 59 [(.slice a0 n0 c0), (.int .i64 x1), (.int .i64 x2)] h Q :=
  .of (c := b59) Tryd.func59 (by kernel_rfl) hO (V_ok (tb := lv59) (cuts := []) 500 (Eq.mp (by kernel_rfl) hh))
/-! sward/sat.needed -/
noncomputable def b97 : Code := (Tryd.f97.body).getD .skip
noncomputable def stk97_0 : List KI := [.code (sub [1, 1, 0, 1, 0] b97), .blk 0, .code (sub [1, 1, 1] b97)]
def lv97 : List (Nat × List Nat) := [(0, [1, 4, 5, 6])]
def I97_0 (O : CallF) (Q : Value → Hp → Prop) (a0 : Option Addr) (n0 : Nat) (c0 : Nat) (g1 : Nat) (fi1 : Array Value) (ca1 : Array Value) (g1s : Nat) (fi1s : Array Value) (ca1s : Array Value) (a5 : Option Addr) (n5 : Nat) (c5 : Nat) (x6 : Int) (h : Hp) : Prop := RKL Tryd.prog O Tryd.f97 stk97_0 28 [1, 4, 5, 6] [(.func (.func g1s) fi1s ca1s), (.slice none 0 0), (.slice a5 n5 c5), (.int .i64 x6)] h Q
def T97 (O : CallF) (Q : Value → Hp → Prop) (a0 : Option Addr) (n0 : Nat) (c0 : Nat) (g1 : Nat) (fi1 : Array Value) (ca1 : Array Value) (h : Hp) : Prop :=
  ∃ a1' n2' c3', ∃ h4', EvC Tryd.prog O 60 [(.slice a0 n0 c0)] h (.slice a1' n2' c3') h4' ∧
  I97_0 O Q a0 n0 c0 g1 fi1 ca1 g1 fi1 ca1 a1' n2' c3' (wrapF .i64 ((Int.ofNat n2') - 1)) h4'
theorem rk97 {O Q} (a0 n0 c0 g1 fi1 ca1) {h : Hp} (hO : O 97 [(.slice a0 n0 c0), (.func (.func g1) fi1 ca1)] h = none) (hh : T97 O Q a0 n0 c0 g1 fi1 ca1 h) : Ret Tryd.prog O 97 [(.slice a0 n0 c0), (.func (.func g1) fi1 ca1)] h Q :=
  .of (c := b97) Tryd.func97 (by kernel_rfl) hO (V_ok (tb := lv97) (cuts := []) 500 (Eq.mp (by kernel_rfl) hh))
def T97_0 (O : CallF) (Q : Value → Hp → Prop) (a0 : Option Addr) (n0 : Nat) (c0 : Nat) (g1 : Nat) (fi1 : Array Value) (ca1 : Array Value) (g1s : Nat) (fi1s : Array Value) (ca1s : Array Value) (a5 : Option Addr) (n5 : Nat) (c5 : Nat) (x6 : Int) (h : Hp) : Prop :=
  vcond (!(ltI x6 0))
  (∃ a101' n102' c103', ∃ h104', EvC Tryd.prog O 60 [(.slice a5 n5 c5)] h (.slice a101' n102' c103') h104' ∧
  ∃ a105' n106' c107', ∃ h108', EvC Tryd.prog O 59 [(.slice a101' n102' c103'), (.int .i64 x6), (.int .i64 (wrapF .i64 (x6 + 1)))] h104' (.slice a105' n106' c107') h108' ∧
  ∃ q109', ∃ h110', EvC Tryd.prog O g1s (fi1s.toList ++ [(.slice a105' n106' c107')] ++ ca1s.toList) h108' (.bool q109') h110' ∧
  vcond q109'
  (I97_0 O Q a0 n0 c0 g1 fi1 ca1 g1s fi1s ca1s a105' n106' c107' (wrapF .i64 (x6 - 1)) h110')
  (I97_0 O Q a0 n0 c0 g1 fi1 ca1 g1s fi1s ca1s a5 n5 c5 (wrapF .i64 (x6 - 1)) h110'))
  (Q (.slice a5 n5 c5) h)
theorem I97_0.of {O Q} (a0 n0 c0 g1 fi1 ca1 g1s fi1s ca1s a5 n5 c5 x6) {h : Hp} (hh : T97_0 O Q a0 n0 c0 g1 fi1 ca1 g1s fi1s ca1s a5 n5 c5 x6 h) : I97_0 O Q a0 n0 c0 g1 fi1 ca1 g1s fi1s ca1s a5 n5 c5 x6 h :=
  RKL.of (tb := lv97) (cuts := []) 500 fun _ => Eq.mp (by kernel_rfl) hh
/-! slices.Clip[[]int,int] -/
noncomputable def b110 : Code := (Tryd.f110.body).getD .skip
def lv110 : List (Nat × List Nat) := []
def T110 (O : CallF) (Q : Value → Hp → Prop) (a0 : Option Addr) (n0 : Nat) (c0 : Nat) (h : Hp) : Prop :=
  ∃ a1' n2' c3', sliceV Tryd.prog h 32 (.slice a0 n0 c0) none (some (.int .i64 (Int.ofNat n0))) (some (.int .i64 (Int.ofNat n0))) = some (.slice a1' n2' c3') ∧
  Q (.slice a1' n2' c3') h
theorem rk110 {O Q} (a0 n0 c0) {h : Hp} (hO : O 110 [(.slice a0 n0 c0)] h = none) (hh : T110 O Q a0 n0 c0 h) : Ret Tryd.prog O 110 [(.slice a0 n0 c0)] h Q :=
  .of (c := b110) Tryd.func110 (by kernel_rfl) hO (V_ok (tb := lv110) (cuts := []) 500 (Eq.mp (by kernel_rfl) hh))
/-! (*sward/sat.base).line -/
noncomputable def b137 : Code := (Tryd.f137.body).getD .skip
def lv137 : List (Nat × List Nat) := []
def T137 (O : CallF) (Q : Value → Hp → Prop) (b0 : Nat) (f0 : Nat) (a1 : Option Addr) (n1 : Nat) (c1 : Nat) (h : Hp) : Prop :=
  ∃ a1' n2' c3', readAt h b0 (f0 + 4) 1 = some [(.slice a1' n2' c3')] ∧
  let g4 : Hp := h.add (.cells [(.slice a1 n1 c1)] 32 .fix)
  ∃ a5' n6' c7' h8', appendV Tryd.prog g4 28 28 (.slice a1' n2' c3') (.slice (some ⟨h.nx, 0, none⟩) 1 1) = some (.slice a5' n6' c7', h8') ∧
  vreq (canW h8' b0 (f0 + 4) [(.slice a5' n6' c7')])
  (let g9 : Hp := h8'.wr b0 (f0 + 4) [(.slice a5' n6' c7')]
  Q (.slice a1 n1 c1) g9)
theorem rk137 {O Q} (b0 f0 a1 n1 c1) {h : Hp} (hO : O 137 [(.pointer (some ⟨b0, f0, none⟩)), (.slice a1 n1 c1)] h = none) (hh : T137 O Q b0 f0 a1 n1 c1 h) : Ret Tryd.prog O 137 [(.pointer (some ⟨b0, f0, none⟩)), (.slice a1 n1 c1)] h Q :=
  .of (c := b137) Tryd.func137 (by kernel_rfl) hO (V_ok (tb := lv137) (cuts := []) 500 (Eq.mp (by kernel_rfl) hh))
/-! (*sward/sat.base).search -/
noncomputable def b117 : Code := (Tryd.f117.body).getD .skip
noncomputable def stk117_0 : List KI := [.code (sub [1, 1, 1, 1, 1, 1, 1, 1, 1, 0, 1, 0] b117), .blk 0, .code (sub [1, 1, 1, 1, 1, 1, 1, 1, 1, 1] b117)]
def lv117 : List (Nat × List Nat) := [(0, [0, 1, 4, 5, 6, 7, 10, 11, 69, 70, 71])]
def I117_0 (O : CallF) (Q : Value → Hp → Prop) (b0 : Nat) (f0 : Nat) (a1 : Option Addr) (n1 : Nat) (c1 : Nat) (b4 : Nat) (f4 : Nat) (a5 : Option Addr) (n5 : Nat) (c5 : Nat) (x6 : Int) (b7 : Nat) (f7 : Nat) (x10 : Int) (a11 : Option Addr) (n11 : Nat) (c11 : Nat) (a69 : Option Addr) (n69 : Nat) (c69 : Nat) (x71 : Int) (h : Hp) : Prop := RKL Tryd.prog O Tryd.f117 stk117_0 118 [0, 1, 4, 5, 6, 7, 10, 11, 69, 70, 71] [(.pointer (some ⟨b0, f0, none⟩)), (.slice a1 n1 c1), (.pointer (some ⟨b4, f4, none⟩)), (.slice a5 n5 c5), (.int .i64 x6), (.pointer (some ⟨b7, f7, none⟩)), (.int .i64 x10), (.slice a11 n11 c11), (.slice a69 n69 c69), (.int .i64 2), (.int .i64 x71)] h Q
def T117 (O : CallF) (Q : Value → Hp → Prop) (b0 : Nat) (f0 : Nat) (a1 : Option Addr) (n1 : Nat) (c1 : Nat) (h : Hp) : Prop :=
  let g1 : Hp := h.add (.cells [(.int .u32 0), (.int .u32 0)] 102 .fix)
  ∃ x2', readAt g1 b0 (f0 + 3) 1 = some [(.int .i64 x2')] ∧
  vcond (eqI x2' 0)
  (vreq (canW g1 h.nx 0 [(.int .u32 0), (.int .u32 0)])
  (let g3 : Hp := g1.wr h.nx 0 [(.int .u32 0), (.int .u32 0)]
  ∃ x4', ∃ x5', readAt g3 h.nx 0 2 = some [(.int .u32 x4'), (.int .u32 x5')] ∧
  Q (.tuple #[(.agg #[(.int .u32 x4'), (.int .u32 x5')]), (.slice none 0 0), (.int .i64 2)]) g3))
  (∃ x6', readAt g1 b0 (f0 + 3) 1 = some [(.int .i64 x6')] ∧
  vreq (canW g1 b0 (f0 + 3) [(.int .i64 (wrapF .i64 (x6' - 1)))])
  (let g7 : Hp := g1.wr b0 (f0 + 3) [(.int .i64 (wrapF .i64 (x6' - 1)))]
  ∃ x8', ∃ x9', ∃ q10', ∃ h11', EvC Tryd.prog O 89 [(.pointer (some ⟨b0, f0, none⟩)), (.slice a1 n1 c1)] g7 (.tuple #[(.agg #[(.int .u32 x8'), (.int .u32 x9')]), (.bool q10')]) h11' ∧
  let g12 : Hp := h11'.add (.cells [(.int .u32 0), (.int .u32 0)] 102 .fix)
  vreq (canW g12 h11'.nx 0 [(.int .u32 x8'), (.int .u32 x9')])
  (let g13 : Hp := g12.wr h11'.nx 0 [(.int .u32 x8'), (.int .u32 x9')]
  vcond (!q10')
  (let g14 : Hp := g13.rsv 11
  ∃ x15', ∃ x16', readAt g14 h11'.nx 0 2 = some [(.int .u32 x15'), (.int .u32 x16')] ∧
  ∃ a17' n18' c19', ∃ h20', EvC Tryd.prog O 97 [(.slice a1 n1 c1), (.func (.func 95) #[(.pointer (some ⟨b0, f0, none⟩))] #[])] (g14.grd [h11'.nx]) (.slice a17' n18' c19') h20' ∧
  let g21 : Hp := h20'.rst g14
  ∃ a22' n23' c24', ∃ h25', EvC Tryd.prog O 96 [(.slice a17' n18' c19')] (g21.grd [h11'.nx]) (.slice a22' n23' c24') h25' ∧
  let g26 : Hp := h25'.rst g21
  ∃ a27' n28' c29', ∃ h30', EvC Tryd.prog O 137 [(.pointer (some ⟨b0, f0, none⟩)), (.slice a22' n23' c24')] (g26.grd [h11'.nx]) (.slice a27' n28' c29') h30' ∧
  let g31 : Hp := h30'.rst g26
  vreq (canW (g31.grd []) h.nx 0 [(.int .u32 x15'), (.int .u32 x16')])
  (let g32 : Hp := (g31.grd []).wr h.nx 0 [(.int .u32 x15'), (.int .u32 x16')]
  let g33 : Hp := g32.rst g31
  ∃ x34', ∃ x35', readAt g33 h.nx 0 2 = some [(.int .u32 x34'), (.int .u32 x35')] ∧
  Q (.tuple #[(.agg #[(.int .u32 x34'), (.int .u32 x35')]), (.slice a27' n28' c29'), (.int .i64 1)]) g33))
  (let g36 : Hp := g13.rsv 13
  ∃ x37', readAt g36 b0 (f0 + 0) 1 = some [(.int .i64 x37')] ∧
  vreq (le0 x37')
  (∃ x38', readAt g36 h11'.nx 0 1 = some [(.int .u32 x38')] ∧
  ∃ x39', readAt g36 h11'.nx 1 1 = some [(.int .u32 x39')] ∧
  vreq (inD 4294967296 x38')
  (vreq (inD 4294967296 x39')
  (vreq (inD 4294967296 (wrapF .u32 ((shlF .u32 1 (Int.toNat x37')) - 1)))
  (vreq (inD 4294967296 (lorI x38' x39'))
  (vcond (eqI (andnI (wrapF .u32 ((shlF .u32 1 (Int.toNat x37')) - 1)) (lorI x38' x39')) 0)
  (∃ x40', ∃ x41', readAt g36 h11'.nx 0 2 = some [(.int .u32 x40'), (.int .u32 x41')] ∧
  vreq (canW g36 h.nx 0 [(.int .u32 x40'), (.int .u32 x41')])
  (let g42 : Hp := g36.wr h.nx 0 [(.int .u32 x40'), (.int .u32 x41')]
  ∃ x43', ∃ x44', readAt g42 h.nx 0 2 = some [(.int .u32 x43'), (.int .u32 x44')] ∧
  Q (.tuple #[(.agg #[(.int .u32 x43'), (.int .u32 x44')]), (.slice none 0 0), (.int .i64 0)]) g42))
  (∃ x45', ∃ h46', EvC Tryd.prog O 120 [(.int .u32 (andnI (wrapF .u32 ((shlF .u32 1 (Int.toNat x37')) - 1)) (lorI x38' x39')))] g36 (.int .i64 x45') h46' ∧
  let g47 : Hp := h46'.add (.cells [(.int .i64 (wrapF .i64 (0 - (wrapF .i64 (x45' + 1))))), (.int .i64 (wrapF .i64 (x45' + 1)))] 3 .fix)
  I117_0 O Q b0 f0 a1 n1 c1 h.nx 0 none 0 0 0 h11'.nx 0 (wrapF .i64 (x45' + 1)) none 0 0 (some ⟨h46'.nx, 0, none⟩) 2 2 0 g47))))))))))
theorem rk117 {O Q} (b0 f0 a1 n1 c1) {h : Hp} (hO : O 117 [(.pointer (some ⟨b0, f0, none⟩)), (.slice a1 n1 c1)] h = none) (hh : T117 O Q b0 f0 a1 n1 c1 h) : Ret Tryd.prog O 117 [(.pointer (some ⟨b0, f0, none⟩)), (.slice a1 n1 c1)] h Q :=
  .of (c := b117) Tryd.func117 (by kernel_rfl) hO (V_ok (tb := lv117) (cuts := []) 500 (Eq.mp (by kernel_rfl) hh))
def T117_0 (O : CallF) (Q : Value → Hp → Prop) (b0 : Nat) (f0 : Nat) (a1 : Option Addr) (n1 : Nat) (c1 : Nat) (b4 : Nat) (f4 : Nat) (a5 : Option Addr) (n5 : Nat) (c5 : Nat) (x6 : Int) (b7 : Nat) (f7 : Nat) (x10 : Int) (a11 : Option Addr) (n11 : Nat) (c11 : Nat) (a69 : Option Addr) (n69 : Nat) (c69 : Nat) (x71 : Int) (h : Hp) : Prop :=
  vcond (ltI x71 2)
  (isNat x71 fun n101' =>
  isAddr a69 fun b102' f103' =>
  vreq (Nat.blt n101' n69)
  (∃ x104', readAt h b102' (f103' + (n101' * 1)) 1 = some [(.int .i64 x104')] ∧
  ∃ a105' n106' c107', ∃ h108', EvC Tryd.prog O 110 [(.slice a1 n1 c1)] h (.slice a105' n106' c107') h108' ∧
  let g109 : Hp := h108'.add (.cells [(.int .i64 x104')] 3 .fix)
  ∃ a110' n111' c112' h113', appendV Tryd.prog g109 32 32 (.slice a105' n106' c107') (.slice (some ⟨h108'.nx, 0, none⟩) 1 1) = some (.slice a110' n111' c112', h113') ∧
  ∃ x114', ∃ x115', ∃ a116' n117' c118', ∃ x119', ∃ h120', EvC Tryd.prog O 117 [(.pointer (some ⟨b0, f0, none⟩)), (.slice a110' n111' c112')] h113' (.tuple #[(.agg #[(.int .u32 x114'), (.int .u32 x115')]), (.slice a116' n117' c118'), (.int .i64 x119')]) h120' ∧
  let g121 : Hp := h120'.add (.cells [(.int .u32 0), (.int .u32 0)] 102 .fix)
  vreq (canW g121 h120'.nx 0 [(.int .u32 x114'), (.int .u32 x115')])
  (let g122 : Hp := g121.wr h120'.nx 0 [(.int .u32 x114'), (.int .u32 x115')]
  vcond (!(eqI x119' 1))
  (∃ x123', ∃ x124', readAt g122 h120'.nx 0 2 = some [(.int .u32 x123'), (.int .u32 x124')] ∧
  vreq (canW g122 b4 f4 [(.int .u32 x123'), (.int .u32 x124')])
  (let g125 : Hp := g122.wr b4 f4 [(.int .u32 x123'), (.int .u32 x124')]
  ∃ x126', ∃ x127', readAt g125 b4 f4 2 = some [(.int .u32 x126'), (.int .u32 x127')] ∧
  Q (.tuple #[(.agg #[(.int .u32 x126'), (.int .u32 x127')]), (.slice a116' n117' c118'), (.int .i64 x119')]) g125))
  (∃ q128', ∃ h129', EvC Tryd.prog O 62 [(.slice a116' n117' c118'), (.int .i64 (wrapF .i64 (0 - x104')))] g122 (.bool q128') h129' ∧
  vcond (!q128')
  (∃ x130', ∃ x131', readAt h129' h120'.nx 0 2 = some [(.int .u32 x130'), (.int .u32 x131')] ∧
  vreq (canW h129' b4 f4 [(.int .u32 x130'), (.int .u32 x131')])
  (let g132 : Hp := h129'.wr b4 f4 [(.int .u32 x130'), (.int .u32 x131')]
  ∃ x133', ∃ x134', readAt g132 b4 f4 2 = some [(.int .u32 x133'), (.int .u32 x134')] ∧
  Q (.tuple #[(.agg #[(.int .u32 x133'), (.int .u32 x134')]), (.slice a116' n117' c118'), (.int .i64 x119')]) g132))
  (let g135 : Hp := h129'.add (.cells [(.slice a116' n117' c118')] 32 .fix)
  ∃ a136' n137' c138' h139', appendV Tryd.prog g135 28 28 (.slice a11 n11 c11) (.slice (some ⟨h129'.nx, 0, none⟩) 1 1) = some (.slice a136' n137' c138', h139') ∧
  I117_0 O Q b0 f0 a1 n1 c1 b4 f4 a5 n5 c5 x6 b7 f7 x10 a136' n137' c138' a69 n69 c69 (wrapF .i64 (x71 + 1)) h139')))))
  (let g140 : Hp := h.rsv 13
  isAddr a11 fun b141' f142' =>
  vreq (Nat.blt 0 n11)
  (∃ a143' n144' c145', readAt g140 b141' (f142' + 0) 1 = some [(.slice a143' n144' c145')] ∧
  isAddr a11 fun b146' f147' =>
  vreq (Nat.blt 1 n11)
  (∃ a148' n149' c150', readAt g140 b146' (f147' + 1) 1 = some [(.slice a148' n149' c150')] ∧
  ∃ a151' n152' c153', ∃ x154', ∃ h155', EvC Tryd.prog O 38 [(.slice a143' n144' c145'), (.slice a148' n149' c150'), (.int .i64 x10)] (g140.grd []) (.tuple #[(.slice a151' n152' c153'), (.int .i64 x154')]) h155' ∧
  let g156 : Hp := h155'.rst g140
  let g157 : Hp := g156.rsv 7
  ∃ x158', ∃ x159', readAt g157 b7 f7 2 = some [(.int .u32 x158'), (.int .u32 x159')] ∧
  ∃ a160' n161' c162', ∃ h163', EvC Tryd.prog O 137 [(.pointer (some ⟨b0, f0, none⟩)), (.slice a151' n152' c153')] (g157.grd [b7]) (.slice a160' n161' c162') h163' ∧
  let g164 : Hp := h163'.rst g157
  vreq (canW (g164.grd []) b4 f4 [(.int .u32 x158'), (.int .u32 x159')])
  (let g165 : Hp := (g164.grd []).wr b4 f4 [(.int .u32 x158'), (.int .u32 x159')]
  let g166 : Hp := g165.rst g164
  ∃ x167', ∃ x168', readAt g166 b4 f4 2 = some [(.int .u32 x167'), (.int .u32 x168')] ∧
  Q (.tuple #[(.agg #[(.int .u32 x167'), (.int .u32 x168')]), (.slice a160' n161' c162'), (.int .i64 1)]) g166))))
theorem I117_0.of {O Q} (b0 f0 a1 n1 c1 b4 f4 a5 n5 c5 x6 b7 f7 x10 a11 n11 c11 a69 n69 c69 x71) {h : Hp} (hh : T117_0 O Q b0 f0 a1 n1 c1 b4 f4 a5 n5 c5 x6 b7 f7 x10 a11 n11 c11 a69 n69 c69 x71 h) : I117_0 O Q b0 f0 a1 n1 c1 b4 f4 a5 n5 c5 x6 b7 f7 x10 a11 n11 c11 a69 n69 c69 x71 h :=
  RKL.of (tb := lv117) (cuts := []) 500 fun _ => Eq.mp (by kernel_rfl) hh
/-! sward/sat.solve -/
noncomputable def b79 : Code := (Tryd.f79.body).getD .skip
def lv79 : List (Nat × List Nat) := []
def T79 (O : CallF) (Q : Value → Hp → Prop) (x0_0 : Int) (a0_1 : Option Addr) (n0_1 : Nat) (c0_1 : Nat) (a1 : Option Addr) (n1 : Nat) (c1 : Nat) (h : Hp) : Prop :=
  let g1 : Hp := h.add (.cells [(.int .i64 x0_0), (.slice a0_1 n0_1 c0_1)] 30 .fix)
  let g2 : Hp := g1.add (.cells [(.int .u32 0), (.int .u32 0)] 102 .fix)
  ∃ x3', ∃ a4' n5' c6', readAt g2 h.nx 0 2 = some [(.int .i64 x3'), (.slice a4' n5' c6')] ∧
  ∃ a7', ∃ h8', EvC Tryd.prog O 76 [(.agg #[(.int .i64 x3'), (.slice a4' n5' c6')]), (.slice a1 n1 c1)] g2 (.pointer a7') h8' ∧
  ∃ x9', ∃ x10', ∃ a11' n12' c13', ∃ x14', ∃ h15', EvC Tryd.prog O 117 [(.pointer a7'), (.slice none 0 0)] h8' (.tuple #[(.agg #[(.int .u32 x9'), (.int .u32 x10')]), (.slice a11' n12' c13'), (.int .i64 x14')]) h15' ∧
  let g16 : Hp := h15'.add (.cells [(.int .u32 0), (.int .u32 0)] 102 .fix)
  vreq (canW g16 h15'.nx 0 [(.int .u32 x9'), (.int .u32 x10')])
  (let g17 : Hp := g16.wr h15'.nx 0 [(.int .u32 x9'), (.int .u32 x10')]
  let g18 : Hp := g17.rsv 9
  ∃ x19', ∃ x20', readAt g18 h15'.nx 0 2 = some [(.int .u32 x19'), (.int .u32 x20')] ∧
  isAddr a7' fun b21' f22' =>
  ∃ a23' n24' c25', readAt g18 b21' (f22' + 4) 1 = some [(.slice a23' n24' c25')] ∧
  vreq (canW (g18.grd [b21']) g1.nx 0 [(.int .u32 x19'), (.int .u32 x20')])
  (let g26 : Hp := (g18.grd [b21']).wr g1.nx 0 [(.int .u32 x19'), (.int .u32 x20')]
  let g27 : Hp := g26.rst g18
  ∃ x28', ∃ x29', readAt g27 g1.nx 0 2 = some [(.int .u32 x28'), (.int .u32 x29')] ∧
  Q (.tuple #[(.agg #[(.int .u32 x28'), (.int .u32 x29')]), (.slice a23' n24' c25'), (.int .i64 x14')]) g27))
theorem rk79 {O Q} (x0_0 a0_1 n0_1 c0_1 a1 n1 c1) {h : Hp} (hO : O 79 [(.agg #[(.int .i64 x0_0), (.slice a0_1 n0_1 c0_1)]), (.slice a1 n1 c1)] h = none) (hh : T79 O Q x0_0 a0_1 n0_1 c0_1 a1 n1 c1 h) : Ret Tryd.prog O 79 [(.agg #[(.int .i64 x0_0), (.slice a0_1 n0_1 c0_1)]), (.slice a1 n1 c1)] h Q :=
  .of (c := b79) Tryd.func79 (by kernel_rfl) hO (V_ok (tb := lv79) (cuts := []) 500 (Eq.mp (by kernel_rfl) hh))
/-! sward/sat.errors -/
noncomputable def b80 : Code := (Tryd.f80.body).getD .skip
def lv80 : List (Nat × List Nat) := []
def T80 (O : CallF) (Q : Value → Hp → Prop) (x0 : Int) (h : Hp) : Prop :=
  vcond (eqI x0 1)
  (Q (.int .i64 5) h)
  (vcond (eqI x0 2)
  (Q (.int .i64 8) h)
  (Q (.int .i64 0) h))
theorem rk80 {O Q} (x0) {h : Hp} (hO : O 80 [(.int .i64 x0)] h = none) (hh : T80 O Q x0 h) : Ret Tryd.prog O 80 [(.int .i64 x0)] h Q :=
  .of (c := b80) Tryd.func80 (by kernel_rfl) hO (V_ok (tb := lv80) (cuts := []) 500 (Eq.mp (by kernel_rfl) hh))
/-! sward/sat.Model -/
noncomputable def b23 : Code := (Tryd.f23.body).getD .skip
noncomputable def stk23_0 : List KI := [.code (sub [1, 1, 1, 1, 1, 0, 1, 0] b23), .blk 0, .code (sub [1, 1, 1, 1, 1, 1] b23)]
def lv23 : List (Nat × List Nat) := [(0, [4, 5, 7, 10, 30, 31])]
def I23_0 (O : CallF) (Q : Value → Hp → Prop) (x0_0 : Int) (a0_1 : Option Addr) (n0_1 : Nat) (c0_1 : Nat) (a1 : Option Addr) (n1 : Nat) (c1 : Nat) (b7 : Nat) (f7 : Nat) (a10 : Option Addr) (n10 : Nat) (c10 : Nat) (x30 : Int) (x31 : Int) (h : Hp) : Prop := RKL Tryd.prog O Tryd.f23 stk23_0 44 [4, 5, 7, 10, 30, 31] [(.slice none 0 0), (.int .i64 0), (.pointer (some ⟨b7, f7, none⟩)), (.slice a10 n10 c10), (.int .i64 x30), (.int .i64 x31)] h Q
def T23 (O : CallF) (Q : Value → Hp → Prop) (x0_0 : Int) (a0_1 : Option Addr) (n0_1 : Nat) (c0_1 : Nat) (a1 : Option Addr) (n1 : Nat) (c1 : Nat) (h : Hp) : Prop :=
  let g1 : Hp := h.add (.cells [(.int .i64 x0_0), (.slice a0_1 n0_1 c0_1)] 30 .fix)
  ∃ x2', ∃ a3' n4' c5', readAt g1 h.nx 0 2 = some [(.int .i64 x2'), (.slice a3' n4' c5')] ∧
  ∃ x6', ∃ h7', EvC Tryd.prog O 78 [(.agg #[(.int .i64 x2'), (.slice a3' n4' c5')]), (.slice a1 n1 c1)] g1 (.int .i64 x6') h7' ∧
  vcond (!(eqI x6' 0))
  (Q (.tuple #[(.slice none 0 0), (.int .i64 x6')]) h7')
  (∃ x8', ∃ a9' n10' c11', readAt h7' h.nx 0 2 = some [(.int .i64 x8'), (.slice a9' n10' c11')] ∧
  ∃ x12', ∃ x13', ∃ a14' n15' c16', ∃ x17', ∃ h18', EvC Tryd.prog O 79 [(.agg #[(.int .i64 x8'), (.slice a9' n10' c11')]), (.slice a1 n1 c1)] h7' (.tuple #[(.agg #[(.int .u32 x12'), (.int .u32 x13')]), (.slice a14' n15' c16'), (.int .i64 x17')]) h18' ∧
  let g19 : Hp := h18'.add (.cells [(.int .u32 0), (.int .u32 0)] 102 .fix)
  vreq (canW g19 h18'.nx 0 [(.int .u32 x12'), (.int .u32 x13')])
  (let g20 : Hp := g19.wr h18'.nx 0 [(.int .u32 x12'), (.int .u32 x13')]
  vcond (!(eqI x17' 0))
  (∃ x21', ∃ h22', EvC Tryd.prog O 80 [(.int .i64 x17')] g20 (.int .i64 x21') h22' ∧
  Q (.tuple #[(.slice none 0 0), (.int .i64 x21')]) h22')
  (∃ x23', readAt g20 h.nx 0 1 = some [(.int .i64 x23')] ∧
  I23_0 O Q x0_0 a0_1 n0_1 c0_1 a1 n1 c1 h18'.nx 0 none 0 0 x23' 0 g20)))
theorem rk23 {O Q} (x0_0 a0_1 n0_1 c0_1 a1 n1 c1) {h : Hp} (hO : O 23 [(.agg #[(.int .i64 x0_0), (.slice a0_1 n0_1 c0_1)]), (.slice a1 n1 c1)] h = none) (hh : T23 O Q x0_0 a0_1 n0_1 c0_1 a1 n1 c1 h) : Ret Tryd.prog O 23 [(.agg #[(.int .i64 x0_0), (.slice a0_1 n0_1 c0_1)]), (.slice a1 n1 c1)] h Q :=
  .of (c := b23) Tryd.func23 (by kernel_rfl) hO (V_ok (tb := lv23) (cuts := []) 500 (Eq.mp (by kernel_rfl) hh))
def T23_0 (O : CallF) (Q : Value → Hp → Prop) (x0_0 : Int) (a0_1 : Option Addr) (n0_1 : Nat) (c0_1 : Nat) (a1 : Option Addr) (n1 : Nat) (c1 : Nat) (b7 : Nat) (f7 : Nat) (a10 : Option Addr) (n10 : Nat) (c10 : Nat) (x30 : Int) (x31 : Int) (h : Hp) : Prop :=
  vcond (ltI x31 x30)
  (∃ x101', ∃ x102', readAt h b7 f7 2 = some [(.int .u32 x101'), (.int .u32 x102')] ∧
  ∃ x103', ∃ h104', EvC Tryd.prog O 81 [(.agg #[(.int .u32 x101'), (.int .u32 x102')]), (.int .i64 (wrapF .i64 (x31 + 1)))] h (.int .i64 x103') h104' ∧
  let g105 : Hp := h104'.add (.cells [(.bool (eqI x103' 1))] 4 .fix)
  ∃ a106' n107' c108' h109', appendV Tryd.prog g105 40 40 (.slice a10 n10 c10) (.slice (some ⟨h104'.nx, 0, none⟩) 1 1) = some (.slice a106' n107' c108', h109') ∧
  I23_0 O Q x0_0 a0_1 n0_1 c0_1 a1 n1 c1 b7 f7 a106' n107' c108' x30 (wrapF .i64 (x31 + 1)) h109')
  (Q (.tuple #[(.slice a10 n10 c10), (.int .i64 0)]) h)
theorem I23_0.of {O Q} (x0_0 a0_1 n0_1 c0_1 a1 n1 c1 b7 f7 a10 n10 c10 x30 x31) {h : Hp} (hh : T23_0 O Q x0_0 a0_1 n0_1 c0_1 a1 n1 c1 b7 f7 a10 n10 c10 x30 x31 h) : I23_0 O Q x0_0 a0_1 n0_1 c0_1 a1 n1 c1 b7 f7 a10 n10 c10 x30 x31 h :=
  RKL.of (tb := lv23) (cuts := []) 500 fun _ => Eq.mp (by kernel_rfl) hh
/-! sward/sat.Prove -/
noncomputable def b24 : Code := (Tryd.f24.body).getD .skip
def lv24 : List (Nat × List Nat) := []
def T24 (O : CallF) (Q : Value → Hp → Prop) (x0_0 : Int) (a0_1 : Option Addr) (n0_1 : Nat) (c0_1 : Nat) (a1 : Option Addr) (n1 : Nat) (c1 : Nat) (h : Hp) : Prop :=
  let g1 : Hp := h.add (.cells [(.int .i64 x0_0), (.slice a0_1 n0_1 c0_1)] 30 .fix)
  ∃ x2', ∃ a3' n4' c5', readAt g1 h.nx 0 2 = some [(.int .i64 x2'), (.slice a3' n4' c5')] ∧
  ∃ x6', ∃ h7', EvC Tryd.prog O 78 [(.agg #[(.int .i64 x2'), (.slice a3' n4' c5')]), (.slice a1 n1 c1)] g1 (.int .i64 x6') h7' ∧
  vcond (!(eqI x6' 0))
  (Q (.tuple #[(.slice none 0 0), (.int .i64 x6')]) h7')
  (∃ x8', ∃ a9' n10' c11', readAt h7' h.nx 0 2 = some [(.int .i64 x8'), (.slice a9' n10' c11')] ∧
  ∃ x12', ∃ x13', ∃ a14' n15' c16', ∃ x17', ∃ h18', EvC Tryd.prog O 79 [(.agg #[(.int .i64 x8'), (.slice a9' n10' c11')]), (.slice a1 n1 c1)] h7' (.tuple #[(.agg #[(.int .u32 x12'), (.int .u32 x13')]), (.slice a14' n15' c16'), (.int .i64 x17')]) h18' ∧
  let g19 : Hp := h18'.add (.cells [(.int .u32 0), (.int .u32 0)] 102 .fix)
  vreq (canW g19 h18'.nx 0 [(.int .u32 x12'), (.int .u32 x13')])
  (let g20 : Hp := g19.wr h18'.nx 0 [(.int .u32 x12'), (.int .u32 x13')]
  vcond (eqI x17' 0)
  (Q (.tuple #[(.slice none 0 0), (.int .i64 5)]) g20)
  (vcond (eqI x17' 2)
  (Q (.tuple #[(.slice none 0 0), (.int .i64 8)]) g20)
  (Q (.tuple #[(.slice a14' n15' c16'), (.int .i64 0)]) g20))))
theorem rk24 {O Q} (x0_0 a0_1 n0_1 c0_1 a1 n1 c1) {h : Hp} (hO : O 24 [(.agg #[(.int .i64 x0_0), (.slice a0_1 n0_1 c0_1)]), (.slice a1 n1 c1)] h = none) (hh : T24 O Q x0_0 a0_1 n0_1 c0_1 a1 n1 c1 h) : Ret Tryd.prog O 24 [(.agg #[(.int .i64 x0_0), (.slice a0_1 n0_1 c0_1)]), (.slice a1 n1 c1)] h Q :=
  .of (c := b24) Tryd.func24 (by kernel_rfl) hO (V_ok (tb := lv24) (cuts := []) 500 (Eq.mp (by kernel_rfl) hh))
/-! sward/swardlaw20.SatProves -/
end Go.Proofs.YtfgfhplgnfbaaaaDoor
/- The walk of search: slices.Delete of one, what is needed. -/
namespace Go.Proofs.YtfgfhplgnfbaaaaDoor
open Go Go.Ev
theorem writeAt_some {h : Hp} {o off : Nat} {vs : List Value} (hc : canW h o off vs = true) : writeAt h o off vs = some (h.wr o off vs) := by
  unfold canW at hc; unfold Hp.wr
  cases hw : writeAt h o off vs with
  | none => rw [hw] at hc; cases hc
  | some h' => rfl
theorem seen_g {h : Hp} {o n : Nat} {cs : List Value} (H : h.get o = some (.cells cs 3 .grow)) : Ev.seen h 3 1 (.slice (some ⟨o, 0, none⟩) n unk) = some cs.length := by
  simp only [Ev.seen, Nat.beq_refl, cond_true, H]
  have e5 : Nat.blt 0 1 = true := rfl
  rw [e5]
  show some ((cs.length - 0) / 1) = _
  rw [Nat.sub_zero, Nat.div_one]
theorem sz3 : sz Tryd.prog 3 = some 1 := by kernel_rfl
/-- A part of a list that grows. -/
theorem slice_g {h : Hp} {o n l hh : Nat} {cs : List Value} (H : h.get o = some (.cells cs 3 .grow)) {lo hi : Option Value} (elo : boundL lo hh = some l) (ehi : boundH hi none cs.length n = some hh) :
    sliceV Tryd.prog h 32 (.slice (some ⟨o, 0, none⟩) n unk) lo hi none = some (.slice (some ⟨o, l, none⟩) (hh - l) unk) := by
  have e4 : bounds n cs.length lo hi none = some (l, hh, cs.length) := by
    unfold bounds boundM; simp only [Option.bind_some]; rw [ehi, Option.bind_some, elo]; rfl
  unfold sliceV
  rw [Tryd.underlying32]
  simp only [sz3, bind, Option.bind_some, seen_g H, e4]
  rw [Nat.beq_refl]; simp
theorem slice_m {h : Hp} {o n l hh m : Nat} {cs : List Value} (H : h.get o = some (.cells cs 3 .grow)) {lo hi mx : Option Value} (em : boundM mx cs.length = some m) (hx : ∃ v, mx = some v) (elo : boundL lo hh = some l) (ehi : boundH hi mx m n = some hh) (hm : m < unk) :
    ∃ off, sliceV Tryd.prog h 32 (.slice (some ⟨o, 0, none⟩) n unk) lo hi mx = some (.slice (some ⟨o, off, none⟩) (hh - l) (m - l)) ∧ (l = 0 → off = 0) := by
  obtain ⟨v, rfl⟩ := hx
  have e4 : bounds n cs.length lo hi (some v) = some (l, hh, m) := by
    unfold bounds; rw [em]; simp only [Option.bind_some]; rw [ehi, Option.bind_some, elo]; rfl
  refine ⟨bif Nat.beq m l then 0 else 0 + l * 1, ?_, fun hl => ?_⟩
  · unfold sliceV
    rw [Tryd.underlying32]
    simp only [sz3, bind, Option.bind_some, seen_g H, e4]
    rw [Nat.beq_refl, blt_t hm]; simp
  · subst hl
    cases Nat.beq m 0 <;> rfl
theorem bound_i {k m : Nat} (h : k ≤ m) : boundV (.int .i64 (Int.ofNat k)) m = some k := by
  unfold boundV; simp only; rw [ble_t h]; rfl
/-- What stands behind an address, cell by cell. -/
theorem ints_of_get {h : Hp} {o : Nat} {cs : List Value} {e : TypeId} {m : Md} {xs : List Int} (H : h.get o = some (.cells cs e m)) (ho : o < h.nx) (hl : xs.length ≤ cs.length) (hx : ∀ i (hi : i < xs.length), cs[i]? = some (.int .i64 xs[i])) : IntsAt h (some ⟨o, 0, none⟩) xs.length xs := by
  refine ⟨rfl, .inr ⟨o, 0, _, _, _, rfl, ho, H, by omega, fun i hi => ?_⟩⟩
  show (cs.drop (0 + i * 1)).take 1 = [.int .i64 xs[i]]
  have h1 := hx i hi
  obtain ⟨h2, h3⟩ := List.getElem?_eq_some_iff.1 h1
  rw [Nat.zero_add, Nat.mul_one, List.drop_eq_getElem_cons h2, h3]; rfl
theorem all_one (xs : List Int) : (xs.map (Value.int .i64)).all one = true := by
  rw [List.all_eq_true]; intro v hv; obtain ⟨x, _, rfl⟩ := List.mem_map.1 hv; rfl
section
variable {O : CallF} (hO : Oth O)
include hO
/-- One element is taken out of a list of its own. -/
theorem ct59 {h : Hp} {o i : Nat} {xs : List Int} (H : h.get o = some (.cells (xs.map (Value.int .i64)) 3 .grow)) (ho : o < h.nx) (hg : h.guarded o = false) (hi : i < xs.length) (hl : xs.length < 1000000) :
    Ret Tryd.prog O 59 [.slice (some ⟨o, 0, none⟩) xs.length unk, .int .i64 (Int.ofNat i), .int .i64 (Int.ofNat (i + 1))] h fun v h' => v = .slice (some ⟨o, 0, none⟩) (xs.length - 1) unk ∧ IntsAt h' (some ⟨o, 0, none⟩) (xs.length - 1) (xs.eraseIdx i) ∧ ∀ b, b ≤ o → b ≤ h.nx → Kp b h h' := by
  have hb : big = 4611686018427387904 := rfl
  have hu : unk = 18446744073709551616 := rfl
  refine rk59 _ _ _ _ _ (hO _ _ _ (by decide)) ?_
  unfold T59
  have hcl : (xs.map (Value.int .i64)).length = xs.length := List.length_map ..
  obtain ⟨off, e1, _⟩ := slice_m (n := xs.length) (l := i) (hh := i + 1) H (lo := some (.int .i64 (Int.ofNat i))) (hi := some (.int .i64 (Int.ofNat (i + 1)))) (mx := some (.int .i64 (Int.ofNat xs.length))) (bound_i (Nat.le_of_eq hcl.symm)) ⟨_, rfl⟩ (bound_i (by omega)) (bound_i (by omega)) (by omega)
  refine ⟨_, _, _, e1, vcond_f (eqI_f (by simp only [Int.ofNat_eq_natCast, ne_eq]; omega)) ?_⟩
  intro g4
  have H4 : g4.get o = some (.cells (xs.map (Value.int .i64)) 3 .grow) := H
  refine ⟨_, _, _, slice_g (l := 0) (hh := i) H4 rfl (bound_i (by rw [hcl]; omega)), _, _, _, slice_g (l := i + 1) (hh := xs.length) H4 (bound_i (by omega)) rfl, ?_⟩
  have T := (app32 : AppT Tryd.prog 32 3 1 8)
  obtain ⟨hz, info, z, hi', hzz, hrun⟩ := T.run
  have hrd : readAt (g4.grd []) o (i + 1) ((xs.length - (i + 1)) * 1) = some ((xs.drop (i + 1)).map (Value.int .i64)) := by
    rw [readAt_get (h := g4.grd []) H4 (by rw [hcl]; omega), ← List.map_drop, Nat.mul_one, List.take_of_length_le (by simp)]
  have hk4 : ∀ b, b ≤ o → b ≤ h.nx → Kp b h g4 := fun b _ _ => (Kp.refl _ _).rsv 8
  -- the part behind it is moved forward
  have main : ∃ h', appendV Tryd.prog (g4.grd []) 32 32 (.slice (some ⟨o, 0, none⟩) (i - 0) unk) (.slice (some ⟨o, i + 1, none⟩) (xs.length - (i + 1)) unk) = some (.slice (some ⟨o, 0, none⟩) (xs.length - 1) unk, h') ∧ ∃ cs, h'.get o = some (.cells cs 3 .grow) ∧ cs.length = xs.length ∧ (∀ k (hk : k < (xs.eraseIdx i).length), cs[k]? = some (.int .i64 (xs.eraseIdx i)[k])) ∧ h'.nx = g4.nx ∧ h'.gd = g4.gd ∧ ∀ b, b ≤ o → b ≤ h.nx → Kp b g4 h' := by
    rw [hrun _ _ _ ⟨_, _, _, rfl⟩, src_get hrd]
    simp only [Option.bind_some, show ((xs.drop (i + 1)).map (Value.int .i64)).all one = true from all_one _, cond_true]
    rcases Nat.lt_or_ge (i + 1) xs.length with hlt | hge
    · have hk0 : Nat.beq (xs.length - (i + 1)) 0 = false := by rw [Bool.eq_false_iff]; intro hh; have := Nat.eq_of_beq_eq_true hh; omega
      simp only [hk0, cond_false]
      have hH : (g4.grd []).get o = some (.cells (xs.map (Value.int .i64)) 3 .grow) := H4
      have hcw : canW (g4.grd []) o i ((xs.drop (i + 1)).map (Value.int .i64)) = true := canW_t hH (by decide) hg (by simp; omega) (all_one _)
      have hw := writeAt_some hcw
      refine ⟨(g4.grd []).wr o i ((xs.drop (i + 1)).map (Value.int .i64)), ?_, _, wr_get hH (by decide) hg (by simp; omega) (all_one _), by rw [putAt_length, hcl], fun k hk => ?_, by rw [nx_wr]; rfl, by rw [gd_wr]; rfl, fun b h1 h2 => ((Kp.refl b g4)).wr h1 _ _⟩
      · unfold appSome
        have e5 : Nat.beq unk unk = true := Nat.beq_refl _
        have e6 : Nat.beq 3 3 = true := rfl
        have e7 : Nat.ble (0 + (i - 0 + (xs.length - (i + 1))) * 1) (xs.map (Value.int .i64)).length = true := by rw [hcl]; exact ble_t (by omega)
        simp only [hH, e5, e6, e7, cond_true, isGrow, Bool.and_self]
        rw [show 0 + (i - 0) * 1 = i by omega, hw, show i - 0 + (xs.length - (i + 1)) = xs.length - 1 by omega]; rfl
      · rw [putAt_get _ _ _ (by simp; omega)]
        have hkl : k < xs.length - 1 := by rw [List.length_eraseIdx_of_lt hi] at hk; exact hk
        rw [List.getElem_eraseIdx]
        simp only [List.length_map, List.length_drop]
        by_cases h1 : k < i
        · rw [if_neg (by omega)]
          simp [h1, show k < xs.length by omega]
        · rw [if_pos (by omega)]
          simp [h1, List.getElem?_eq_getElem (show i + 1 + (k - i) < xs.length by omega), show i + 1 + (k - i) = k + 1 by omega]
    · have hin : i + 1 = xs.length := by omega
      have e8 : xs.length - (i + 1) = 0 := by omega
      rw [e8]
      refine ⟨g4.grd [], ?_, _, H4, hcl, fun k hk => ?_, rfl, rfl, fun b _ _ => Kp.refl b g4⟩
      · show (bif Nat.ble (i - 0) unk then _ else _) = _
        rw [ble_t (by omega), show i - 0 = xs.length - 1 by omega]; rfl
      · have hkl : k < xs.length - 1 := by rw [List.length_eraseIdx_of_lt hi] at hk; exact hk
        rw [List.getElem_eraseIdx]
        simp [show k < i by omega, show k < xs.length by omega]
  obtain ⟨h', e9, cs, hcs, hcl2, hcx, hnx, hgd, hk⟩ := main
  refine ⟨_, _, _, _, e9, ?_⟩
  intro g15
  have H15 : g15.get o = some (.cells cs 3 .grow) := hcs
  have hg15 : g15.guarded o = false := hg
  refine ⟨_, _, _, slice_g (l := xs.length - 1) (hh := xs.length) H15 (bound_i (by omega)) (bound_i (by rw [hcl2]; omega)), ?_⟩
  have hcw : canW g15 o (xs.length - 1) [.int .i64 0] = true := canW_t H15 (by decide) hg15 (by simp; omega) rfl
  have e10 : elemT Tryd.prog 32 = some 3 := by kernel_rfl
  have e11 : ((Tryd.prog.info? 3).bind fun info => info.zero) = some (.int .i64 0) := by kernel_rfl
  obtain ⟨info3, e12, e13⟩ := Option.bind_eq_some_iff.1 e11
  refine ⟨g15.wr o (xs.length - 1) [.int .i64 0], ?_, rfl, ?_, fun b h1 h2 => (hk4 b h1 h2).trans (Kp.wr (h' := g15) ⟨(hk b h1 h2).get, (hk b h1 h2).nx, rfl, (hk b h1 h2).fr⟩ h1 _ _)⟩
  · unfold clearV
    simp only [e10, Option.bind_some, e12, e13, show xs.length - (xs.length - 1) = 1 by omega]
    show (bif Nat.beq 1 0 then _ else bif [Value.int .i64 0].all _ then _ else _) = _
    have : Nat.beq 1 0 = false := rfl
    rw [this, cond_false, show ([Value.int .i64 0].all fun v => flat v && one v) = true from rfl, cond_true]
    show (writeAt g15 o (xs.length - 1) [.int .i64 0]).map _ = _
    rw [writeAt_some hcw]; rfl
  · have hel : (xs.eraseIdx i).length = xs.length - 1 := List.length_eraseIdx_of_lt hi
    have := ints_of_get (xs := xs.eraseIdx i) (wr_get H15 (by decide) hg15 (vs := [.int .i64 0]) (off := xs.length - 1) (by simp; omega) rfl) (by rw [nx_wr]; show o < h'.nx; rw [hnx]; show o < h.nx + 8; omega) (by rw [putAt_length]; omega) fun k hk => by
      rw [putAt_get _ _ _ (by simp; omega), if_neg (by omega)]; exact hcx k hk
    rw [hel] at this; exact this
end
/-- What is left of a list, from the last one on, without which a clash remains. -/
def needF (cl : List Int → Bool) : Nat → List Int → List Int
  | 0, out => out
  | i + 1, out => if cl (out.eraseIdx i) = true then needF cl i (out.eraseIdx i) else needF cl i out
def clashN (ss : List (Nat × Nat)) (gs l : List Int) : Bool := !(fromN ss (gs ++ l)).2
section
variable {O : CallF} (hO : Oth O)
include hO
theorem lp97 {b : Nat} {h₀ : Hp} (ok : h₀.Ok) {vars left : Int} {a a1 a2 : Option Addr} {n c n1 c1 n2 c2 : Nat} (hb : h₀.get b = some (.cells (baseC vars a n c a1 n1 c1 left a2 n2 c2) 128 .fix)) (hbn : b < h₀.nx) {ss : List (Nat × Nat)} (H : SidesAt2 h₀ a n ss) (hl : ss.length < 1000000) (hss : ∀ p ∈ ss, p.1 < 2 ^ 30 ∧ p.2 < 2 ^ 30)
    {gs : List Int} (G : IntsAt h₀ a1 n1 gs) (hgl : gs.length < 1000000) (hg : ∀ x ∈ gs, Lit x) {a0 : Option Addr} {n0 c0 : Nat} {r : List Int} :
    ∀ (i : Nat) {out : List Int} {x6 : Int} {h : Hp} {a5 : Option Addr} {n5 c5 : Nat}, x6 = Int.ofNat i - 1 → i ≤ out.length → out.length < 1000000 → (∀ x ∈ out, Lit x) → IntsAt h a5 n5 out → Kp h₀.nx h₀ h → r = needF (clashN ss gs) i out →
      I97_0 O (fun v h' => ∃ a' n' c', v = .slice a' n' c' ∧ IntsAt h' a' n' r ∧ Kp h₀.nx h₀ h') a0 n0 c0 95 #[.pointer (some ⟨b, 0, none⟩)] #[] 95 #[.pointer (some ⟨b, 0, none⟩)] #[] a5 n5 c5 x6 h := by
  intro i
  induction i with
  | zero =>
    intro out x6 h a5 n5 c5 hx _ _ _ X kp hr
    subst hx
    refine I97_0.of (hh := ?_) ..
    unfold T97_0
    exact vcond_f rfl ⟨_, _, _, rfl, by rw [hr]; exact X, kp⟩
  | succ i ih =>
    intro out x6 h a5 n5 c5 hx hi hol hlit X kp hr
    obtain rfl : x6 = Int.ofNat i := by rw [hx]; simp only [Int.ofNat_eq_natCast]; omega
    have okh := ok.kp kp
    have f0 := kp.ex (Nat.le_refl _)
    refine I97_0.of (hh := ?_) ..
    unfold T97_0
    refine vcond_t (by rw [show ltI (Int.ofNat i) 0 = false from rfl]; rfl) ?_
    refine (ct60 hO okh X (by omega)).s fun a3 n3 c3 h3 ⟨A3, K3⟩ => ?_
    have hne : out.map (Value.int .i64) ≠ [] := fun e => by
      have : out.length = 0 := by simpa using congrArg List.length e
      omega
    rcases A3 with (⟨_, _, _, e⟩ | ⟨o, rfl, rfl, q3, q4, q5, q6⟩) | ⟨e, _⟩
    · exact absurd e hne
    · obtain rfl : n3 = out.length := by simpa using q3
      obtain ⟨v, h4, e4, rfl, Y, K4⟩ := ct59 hO (h := h3) (i := i) q6 q5 (GdLt.free (GdLt.kp okh.lt K3) q4) (by omega) hol
      rw [wrap_succ (by omega)]
      have K34 : Kp h.nx h h4 := K3.trans (K4 h.nx q4 K3.nx)
      have kp4 : Kp h₀.nx h₀ h4 := kp.trans (K34.le kp.nx)
      have f4 := kp4.ex (Nat.le_refl _)
      have hl2 : (out.eraseIdx i).length = out.length - 1 := List.length_eraseIdx_of_lt (by omega)
      have hlit2 : ∀ x ∈ out.eraseIdx i, Lit x := fun x hx => hlit x (List.mem_of_mem_eraseIdx hx)
      refine ⟨_, _, _, h4, e4, ?_⟩
      obtain ⟨v, h5, e5, rfl, K5⟩ := ct95 hO (ok.kp kp4) (by rw [kp4.get _ hbn]; exact hb) (Nat.lt_of_lt_of_le hbn kp4.nx) (H.to h4) hl hss (G.to h4) hgl hg Y (cm := unk) (by omega) hlit2
      have kp5 := kp4.trans (K5.le kp4.nx)
      refine ⟨_, h5, e5, ?_⟩
      rw [wrap64 (by simp only [Int.ofNat_eq_natCast]; omega) (by simp only [Int.ofNat_eq_natCast]; omega)]
      have f5 := K5.ex (Nat.le_refl _)
      have f35 : Ft h h5 := Ft.tr (K34.ex (Nat.le_refl _)) f5
      unfold needF at hr
      unfold clashN at hr
      refine vcond_split (fun hc => ?_) fun hc => ?_
      · rw [if_pos hc] at hr
        rw [← hl2] at Y ⊢
        exact ih rfl (by omega) (by omega) hlit2 (Y.to h5) kp5 hr
      · rw [if_neg (by rw [hc]; decide)] at hr
        exact ih rfl (by omega) hol hlit (X.to h5) kp5 hr
    · exact absurd e hne
theorem ct97 {b : Nat} {h : Hp} (ok : h.Ok) {vars left : Int} {a a1 a2 : Option Addr} {n c n1 c1 n2 c2 : Nat} (hb : h.get b = some (.cells (baseC vars a n c a1 n1 c1 left a2 n2 c2) 128 .fix)) (hbn : b < h.nx) {ss : List (Nat × Nat)} (H : SidesAt2 h a n ss) (hl : ss.length < 1000000) (hss : ∀ p ∈ ss, p.1 < 2 ^ 30 ∧ p.2 < 2 ^ 30)
    {gs xs : List Int} (G : IntsAt h a1 n1 gs) (hgl : gs.length < 1000000) (hg : ∀ x ∈ gs, Lit x) {am : Option Addr} {nm cm : Nat} (X : IntsAt h am nm xs) (hxl : xs.length < 1000000) (hx : ∀ x ∈ xs, Lit x) :
    Ret Tryd.prog O 97 [.slice am nm cm, .func (.func 95) #[.pointer (some ⟨b, 0, none⟩)] #[]] h fun v h' => ∃ a' n' c', v = .slice a' n' c' ∧ IntsAt h' a' n' (needF (clashN ss gs) xs.length xs) ∧ Kp h.nx h h' := by
  refine rk97 _ _ _ _ _ _ (hO _ _ _ (by decide)) ?_
  unfold T97
  refine (ct60 hO ok X (by omega)).s fun a3 n3 c3 h3 ⟨A3, K3⟩ => ?_
  have hn3 : n3 = xs.length := (accE_ints A3).1
  exact lp97 hO ok hb hbn H hl hss G hgl hg xs.length (by rw [hn3, wrap64 (by simp only [Int.ofNat_eq_natCast]; omega) (by simp only [Int.ofNat_eq_natCast]; omega)]) (Nat.le_refl _) hxl hx (accE_ints A3) K3 rfl
end
end Go.Proofs.YtfgfhplgnfbaaaaDoor
/- Resolving, its result at a new place. -/
namespace Go.Proofs.YtfgfhplgnfbaaaaDoor
open Go Go.Ev
/-- A list at a new place, and an error. -/
def RPairF (h : Hp) (r : List Int × Int) (v : Value) (h' : Hp) : Prop := ∃ a n c, v = .tuple #[.slice a n c, .int .i64 r.2] ∧ IntsAt h' a n r.1 ∧ Kp h.nx h h' ∧ (∀ b off, a = some ⟨b, off, none⟩ → h.nx ≤ b) ∧ (a = none ∨ 0 < n)
theorem RPairF.none {h h' : Hp} {e : Int} (k : Kp h.nx h h') : RPairF h ([], e) (.tuple #[.slice none 0 0, .int .i64 e]) h' := ⟨_, _, _, rfl, SlAt.nil .., k, (fun _ _ e => by cases e), .inl rfl⟩
section
variable {O : CallF} (hO : Oth O)
include hO
omit hO in
theorem digits_nil {z : Nat} (hz : z < 2 ^ 30) (h : digits 30 z = []) : z = 0 := by
  rcases Nat.eq_zero_or_pos z with h0 | h0
  · exact h0
  · obtain ⟨k, j, rfl⟩ := low_split z h0
    have hk : k < 30 := by
      rcases Nat.lt_or_ge k 30 with h1 | h1
      · exact h1
      · have := Nat.pow_le_pow_right (n := 2) (by decide) h1; omega
    rw [digits_step hk] at h; cases h
/-- A list at a new place; of no elements: nowhere. -/
def RIntsE (h : Hp) (xs : List Int) (v : Value) (h' : Hp) : Prop := ∃ a n c, v = .slice a n c ∧ IntsAt h' a n xs ∧ Kp h.nx h h' ∧ (∀ b off, a = some ⟨b, off, none⟩ → h.nx ≤ b) ∧ (a = none ∨ 0 < n)
theorem ct90E {y m : Nat} (hy : y < 2 ^ 30) (hm : m < 2 ^ 30) {h : Hp} (hk : h.Ok) (ht : Tb h) : Ret Tryd.prog O 90 [.agg #[U y, U m]] h (RIntsE h (litsN y m)) := by
  cases hl : litsN y m with
  | nil =>
    have h0 : y ||| m = 0 := digits_nil (Nat.or_lt_two_pow hy hm) (by unfold litsN at hl; simpa using hl)
    refine rk90 _ _ (hO _ _ _ (by decide)) ?_
    unfold T90
    have g1 : (h.add (.cells [U y, U m] 102 .fix)).get h.nx = some (.cells [U y, U m] 102 .fix) := get_add_same ..
    refine ⟨_, read1 g1 rfl, _, read1 g1 rfl, vreq_t (inD_of (by omega)) (vreq_t (inD_of (by omega)) ?_)⟩
    rw [lor_nat, h0]
    refine I90_0.of _ _ _ _ _ _ _ _ ?_
    intros
    unfold T90_0
    exact vcond_f rfl ⟨_, _, _, rfl, SlAt.nil .., (Kp.refl _ _).add (Nat.le_refl _) _, (fun _ _ e => by cases e), .inl rfl⟩
  | cons x xs =>
    obtain ⟨v, h', e, a, n, c, rfl, X, K, F⟩ := ct90 hO hy hm hk ht
    exact ⟨_, h', e, a, n, c, rfl, by rw [← hl]; exact X, K, F, .inr (by rw [X.1, hl]; simp)⟩
theorem lp38F {a a' al : Option Addr} {n c n' c' nl cl : Nat} {v : Int} {h₀ : Hp} {b8 : Nat} {L : List Int} (hL : ∀ x ∈ L, Lit x) (hll : L.length < 1000000) (hv : 1 ≤ v ∧ v ≤ 30) (hb8 : h₀.nx ≤ b8) (ha : ∀ b off, al = some ⟨b, off, none⟩ → b ≠ b8) (ho : h₀.Ok) (ht : Tb h₀) {r : List Int × Int} :
    ∀ (d k : Nat), k + d = L.length → ∀ (y m : Nat) (q : Bool) {h : Hp}, y < 2 ^ 30 → m < 2 ^ 30 → IntsAt h al nl L → h.get b8 = some (.cells [U y, U m] 102 .fix) → b8 < h.nx → Kp h₀.nx h₀ h →
      r = fin38 (rsF v (L.drop k) y m q) → I38_0 O (RPairF h₀ r) a n c a' n' c' v b8 0 q al nl cl (Int.ofNat nl) (Int.ofNat k) h := by
  intro d
  induction d with
  | zero =>
    intro k hk y m q h hy hm H g8 hb kp hr
    have hn := H.1
    refine I38_0.of _ _ _ _ _ _ _ _ _ _ _ _ _ _ _ ?_
    intros
    unfold T38_0
    refine vcond_f (by rw [ltI_nat]; exact blt_f (by omega)) ?_
    rw [List.drop_of_length_le (by omega)] at hr
    simp only [rsF] at hr
    refine vcond_split (fun h1 => ?_) fun h1 => ?_
    · have h1 : q = false := by simpa using h1
      subst h1
      subst hr
      exact .none kp
    · have h1 : q = true := by simpa using h1
      subst h1
      subst hr
      obtain ⟨v', h', e1, a3, n3, c3, rfl, A, K, F, E⟩ := ct90E hO hy hm (ho.kp kp) (ht.kp kp ht.1)
      refine ⟨_, _, readAt_get g8 (by simp), _, _, _, _, e1, _, _, _, rfl, A, kp.trans (K.le kp.nx), (fun b off e => Nat.le_trans kp.nx (F b off e)), E⟩
  | succ d ih =>
    intro k hk y m q h hy hm H g8 hb kp hr
    have hn := H.1
    refine I38_0.of _ _ _ _ _ _ _ _ _ _ _ _ _ _ _ ?_
    intros
    unfold T38_0
    have e1 : L.drop k = L[k] :: L.drop (k + 1) := List.drop_eq_getElem_cons (by omega)
    rw [e1] at hr
    simp only [rsF] at hr
    have hlit := hL L[k] (List.getElem_mem _)
    refine vcond_t (by rw [ltI_nat]; exact blt_t (by omega)) (isNat_of (H.get (k := k) (by omega) fun b off h1 h2 hrd => vreq_t (blt_t (by omega)) ⟨_, hrd, ?_⟩))
    have hneg : wrapF .i64 (0 - v) = -v := by rw [wrap64] <;> omega
    rw [hneg, wrap_succ (by omega)]
    refine vcond_split (fun h3 => ?_) fun h3 => vcond_split (fun h4 => ?_) fun h4 => ?_
    · rw [if_pos (.inl (eq_of_t h3))] at hr
      exact ih (k + 1) (by omega) y m q hy hm H g8 hb kp hr ..
    · rw [if_pos (.inr (eq_of_t h4))] at hr
      exact ih (k + 1) (by omega) y m q hy hm H g8 hb kp hr ..
    · rw [if_neg (by rintro (h | h)
                     · exact ne_of_f h3 h
                     · exact ne_of_f h4 h)] at hr
      obtain ⟨v2, h2', e2, rfl, K2⟩ := ct104 hO hlit hy hm (ho.kp kp)
      obtain ⟨l1, l2⟩ := withN_lt hlit hy hm
      refine ⟨_, _, readAt_get g8 (by simp), _, _, _, _, e2, ?_⟩
      generalize (withN y m L[k]).1 = y1 at *
      generalize (withN y m L[k]).2 = m1 at *
      have ok2 : h2'.Ok := ho.kp (kp.trans (K2.le kp.nx))
      have gn : (h2'.add (.cells [(.int .u32 0), (.int .u32 0)] 102 .fix)).get h2'.nx = _ := get_add_same ..
      have gu : ∀ o, h₀.nx ≤ o → (h2'.add (.cells [(.int .u32 0), (.int .u32 0)] 102 .fix)).guarded o = false := fun o ho' => guarded_of fun q hq => by
        have : q ∈ h₀.gd := by have := (kp.trans (K2.le kp.nx)).gd; rw [← this]; exact hq
        have := ho.gd q this; omega
      have hnx2 : h₀.nx ≤ h2'.nx := Nat.le_trans kp.nx K2.nx
      refine vreq_t (canW_t gn (by decide) (gu _ hnx2) (by simp) rfl) ⟨_, _, readAt_get (wr_get gn (by decide) (gu _ hnx2) (by simp) rfl) (by simp [putAt]), ?_⟩
      have hb2 : b8 < h2'.nx := Nat.lt_of_lt_of_le hb K2.nx
      have g8' : ((h2'.add (.cells [(.int .u32 0), (.int .u32 0)] 102 .fix)).wr h2'.nx 0 [U y1, U m1]).get b8 = some (.cells [U y, U m] 102 .fix) := by
        rw [wr_get_ne _ _ _ _ (by omega), get_add_ne (by omega), K2.get _ hb]; exact g8
      have gu' : ((h2'.add (.cells [(.int .u32 0), (.int .u32 0)] 102 .fix)).wr h2'.nx 0 [U y1, U m1]).guarded b8 = false := by
        have := gu b8 hb8
        unfold Hp.guarded at *
        rw [gd_wr]; exact this
      have cw := canW_t g8' (by decide) gu' (off := 0) (vs := [U y1, U m1]) (by simp) rfl
      have next : ∀ q', r = fin38 (rsF v (L.drop (k + 1)) y1 m1 q') →
          I38_0 O (RPairF h₀ r) a n c a' n' c' v b8 0 q' al nl cl (Int.ofNat nl) (Int.ofNat (k + 1)) (((h2'.add (.cells [(.int .u32 0), (.int .u32 0)] 102 .fix)).wr h2'.nx 0 [U y1, U m1]).wr b8 0 [U y1, U m1]) := by
        intro q' hr'
        refine ih (k + 1) (by omega) y1 m1 q' l1 l2 ?_ (wr_get g8' (by decide) gu' (by simp) rfl) (by rw [nx_wr, nx_wr, nx_add]; omega) ?_ hr'
        · refine (H.up EInt.up K2).keep (fun b' off' hab => ?_) (by rw [nx_wr, nx_wr, nx_add]; omega) fun _ _ h => h
          have hne := ha b' off' hab
          rcases H.2 with ⟨_, h0⟩ | ⟨b3, off3, _, _, _, h0, hlt, _⟩
          · rw [h0] at hab; cases hab
          · rw [h0] at hab; injection hab with hab; injection hab with hab _
            have := K2.nx
            rw [wr_get_ne _ _ _ _ hne, wr_get_ne _ _ _ _ (by omega), get_add_ne (by omega)]
        · exact (((kp.trans (K2.le kp.nx)).add hnx2 _).wr hnx2 _ _).wr hb8 _ _
      refine vcond_split (fun h5 => ?_) fun h5 => ?_
      · subst h5
        exact vreq_t cw (next _ (by simpa using hr) ..)
      · subst h5
        exact vreq_t cw (next _ (by simpa using hr) ..)
theorem ct38F {a a' : Option Addr} {n c n' c' : Nat} {h : Hp} {xs ys : List Int} (v : Int) (H : IntsAt h a n xs) (H' : IntsAt h a' n' ys) (hl : xs.length < 1000) (hl' : ys.length < 1000) (ho : h.Ok) (ht : Tb h) : Ret Tryd.prog O 38 [.slice a n c, .slice a' n' c', .int .i64 v] h (RPairF h (resP xs ys v)) := by
  refine rk38 _ _ _ _ _ _ _ (hO _ _ _ (by decide)) ?_
  unfold T38 resP
  refine ⟨_, _, ct87 hO 30 H (by omega), vcond_split (fun h1 => ?_) fun h1 => ⟨_, _, ct87 hO 30 H' (by omega), vcond_split (fun h2 => ?_) fun h2 => vcond_split (fun h3 => ?_) fun h3 => vcond_split (fun h4 => ?_) fun h4 => ?_⟩⟩
  · rw [if_pos (.inl (by simpa using h1))]; exact .none (.refl _ _)
  · rw [if_pos (.inr (.inl (by simpa using h2)))]; exact .none (.refl _ _)
  · rw [if_pos (.inr (.inr (.inl (lt_of_t h3))))]; exact .none (.refl _ _)
  · rw [if_pos (.inr (.inr (.inr (lt_of_t h4))))]; exact .none (.refl _ _)
  · have h3 := not_lt_of_f h3
    have h4 := not_lt_of_f h4
    have hc1 : clB 30 0 xs = true := by simpa using h1
    have hc2 : clB 30 0 ys = true := by simpa using h2
    rw [if_neg (by rw [hc1, hc2]; simp; omega)]
    have hneg : wrapF .i64 (0 - v) = -v := by rw [wrap64] <;> omega
    rw [hneg]
    refine ⟨_, _, ct62 hO v H (by omega), vcond_split (fun h5 => ?_) fun h5 => ⟨_, _, ct62 hO (-v) H' (by omega), vcond_split (fun h6 => ?_) fun h6 => ?_⟩⟩
    · rw [if_pos (.inl (by simpa using h5))]; exact .none (.refl _ _)
    · rw [if_pos (.inr (by simpa using h6))]; exact .none (.refl _ _)
    · rw [if_neg (by simp at h5 h6; simp [h5, h6])]
      let h1' := h.add (.cells [U 0, U 0] 102 .fix)
      let h2' := h1'.add (.cells [(.slice a n c), (.slice a' n' c')] 32 .fix)
      have k1 : Kp h.nx h h2' := ((Kp.refl _ _).add (Nat.le_refl _) _).add (by rw [nx_add]; omega) _
      have I1 := H.up EInt.up k1
      have I2 := H'.up EInt.up k1
      have LL : IntssAt h2' (some ⟨h1'.nx, 0, none⟩) 2 [xs, ys] := by
        refine ⟨rfl, .inr ⟨h1'.nx, 0, _, _, _, rfl, by show h1'.nx < h1'.nx + 1; omega, get_add_same .., by simp, fun i hi => ?_⟩⟩
        match i, hi with
        | 0, _ => exact ⟨a, n, c, rfl, I1⟩
        | 1, _ => exact ⟨a', n', c', rfl, I2⟩
      obtain ⟨v', h3', e1, a3, n3, c3, rfl, A, K, F⟩ := ct103 hO LL (by simp) (by simp [lenSum]; omega) (ho.kp k1) (c := 2)
      refine ⟨_, _, _, _, e1, ?_⟩
      have hA : [xs, ys].flatten = xs ++ ys := by simp
      rw [hA] at A
      have hA1 := A.1
      rw [hA1]
      rw [hA1] at A
      have g8 : h2'.get h.nx = some (.cells [U 0, U 0] 102 .fix) := by
        show (h1'.add _).get h.nx = _
        rw [get_add_ne (by show h.nx ≠ h.nx + 1; omega)]
        exact get_add_same ..
      refine lp38F hO (L := xs ++ ys) (h₀ := h) (fun x hx => ?_) (by simp; omega) ⟨by omega, by omega⟩ (Nat.le_refl _) (fun b off e => ?_) ho ht (xs ++ ys).length 0 (by omega) 0 0 true (by decide) (by decide) A ?_ ?_ (k1.trans (K.le k1.nx)) rfl ..
      · rcases List.mem_append.1 hx with hx | hx
        · exact (clB_lit (by decide) hc1 x hx).1
        · exact (clB_lit (by decide) hc2 x hx).1
      · have := F b off e
        have : h2'.nx = h.nx + 2 := rfl
        omega
      · rw [K.get _ (by show h.nx < h.nx + 2; omega)]; exact g8
      · exact Nat.lt_of_lt_of_le (by show h.nx < h.nx + 2; omega) K.nx
end
end Go.Proofs.YtfgfhplgnfbaaaaDoor
/- The walk of search: the base while it is searched. -/
namespace Go.Proofs.YtfgfhplgnfbaaaaDoor
open Go Go.Ev
/-- It lies neither in the base nor in the list of lines. -/
def Aw (b : Nat) (a2 a : Option Addr) : Prop := ∀ q off, a = some ⟨q, off, none⟩ → q ≠ b ∧ a2 ≠ some ⟨q, 0, none⟩
theorem Aw.none (b : Nat) (a2 : Option Addr) : Aw b a2 none := fun _ _ e => by cases e
/-- The lines: each lies elsewhere. -/
def Ln (b : Nat) (h : Hp) (a : Option Addr) (n c : Nat) (xss : List (List Int)) : Prop :=
  ∃ vs, Acc h (b + 1) 32 1 a n c vs ∧ Lis h vs xss ∧ ∀ v ∈ vs, ∀ a1 n1 c1, v = .slice a1 n1 c1 → Aw b a a1 ∧ (a1 = none ∨ 0 < n1)
/-- From one memory to a later one: the base and the list of lines may change. -/
structure Nx (b : Nat) (a2 : Option Addr) (h : Hp) (a2' : Option Addr) (h' : Hp) : Prop where
  nx : h.nx ≤ h'.nx
  gd : h'.gd = h.gd
  fr : h.Fresh → h'.Fresh
  get : ∀ o, o < h.nx → o ≠ b → a2 ≠ some ⟨o, 0, none⟩ → h'.get o = h.get o
  nw : a2' = a2 ∨ ∀ q off, a2' = some ⟨q, off, none⟩ → h.nx ≤ q
theorem Nx.of {b : Nat} {a2 : Option Addr} {h h' : Hp} (k : Kp h.nx h h') : Nx b a2 h a2 h' := ⟨k.nx, k.gd, k.fr, fun o ho _ _ => k.get o ho, .inl rfl⟩
theorem Nx.refl (b : Nat) (a2 : Option Addr) (h : Hp) : Nx b a2 h a2 h := .of (.refl _ _)
theorem Nx.trans {b : Nat} {a2 a3 a4 : Option Addr} {h h' h'' : Hp} (k : Nx b a2 h a3 h') (l : Nx b a3 h' a4 h'') : Nx b a2 h a4 h'' := by
  refine ⟨Nat.le_trans k.nx l.nx, l.gd.trans k.gd, fun f => l.fr (k.fr f), fun o ho h1 h2 => ?_, ?_⟩
  · rw [l.get o (Nat.lt_of_lt_of_le ho k.nx) h1, k.get o ho h1 h2]
    rcases k.nw with rfl | e
    · exact h2
    · exact fun e2 => by have := e _ _ e2; omega
  · rcases l.nw with rfl | e
    · exact k.nw
    · exact .inr fun q off e2 => Nat.le_trans k.nx (e q off e2)
theorem Nx.aw {b : Nat} {a2 a3 : Option Addr} {h h' : Hp} (k : Nx b a2 h a3 h') {a : Option Addr} (ha : Aw b a2 a) (hn : ∀ q off, a = some ⟨q, off, none⟩ → q < h.nx) : Aw b a3 a := fun q off e => by
  refine ⟨(ha q off e).1, ?_⟩
  rcases k.nw with rfl | e2
  · exact (ha q off e).2
  · exact fun e3 => by have := e2 _ _ e3; have := hn q off e; omega
theorem SlAt.lt {α : Type} {w : Nat} {R : Enc α} {h : Hp} {a : Option Addr} {n : Nat} {xs : List α} (X : SlAt w R h a n xs) : ∀ q off, a = some ⟨q, off, none⟩ → q < h.nx := fun q off e => by
  rcases X.2 with ⟨_, e2⟩ | ⟨b, off', _, _, _, e2, h2, _⟩
  · rw [e2] at e; cases e
  · rw [e2] at e; injection e with e; injection e with e; omega
/-- What lies elsewhere stays. -/
theorem Nx.sl {α : Type} {w : Nat} {R : Enc α} {b : Nat} {a2 a3 : Option Addr} {h h' : Hp} (k : Nx b a2 h a3 h') (hR : ∀ x vs, R h x vs → R h' x vs) {a : Option Addr} {n : Nat} {xs : List α} (X : SlAt w R h a n xs) (ha : Aw b a2 a) : SlAt w R h' a n xs :=
  X.keep (fun q off e => k.get q (SlAt.lt X q off e) (ha q off e).1 (ha q off e).2) k.nx hR
theorem Nx.ints {b : Nat} {a2 a3 : Option Addr} {h h' : Hp} (k : Nx b a2 h a3 h') {a : Option Addr} {n : Nat} {xs : List Int} (X : IntsAt h a n xs) (ha : Aw b a2 a) : IntsAt h' a n xs := k.sl (fun _ _ h => h) X ha
/-- A base while it is searched. -/
structure Bs (b : Nat) (vars : Int) (a : Option Addr) (n c : Nat) (a1 : Option Addr) (n1 c1 : Nat) (ss : List (Nat × Nat)) (gs : List Int) (left : Int) (lines : List (List Int)) (a2 : Option Addr) (n2 c2 : Nat) (h : Hp) : Prop where
  ok : h.Ok
  tb : Tb h
  bn : b < h.nx
  get : h.get b = some (.cells (baseC vars a n c a1 n1 c1 left a2 n2 c2) 128 .fix)
  S : SidesAt2 h a n ss
  Sa : Aw b a2 a
  G : IntsAt h a1 n1 gs
  Ga : Aw b a2 a1
  L : Ln b h a2 n2 c2 lines
  ug : ∀ q ∈ h.gd, q ≠ b ∧ a2 ≠ some ⟨q, 0, none⟩
section
variable {b : Nat} {vars : Int} {a : Option Addr} {n c : Nat} {a1 : Option Addr} {n1 c1 : Nat} {ss : List (Nat × Nat)} {gs : List Int} {left : Int} {lines : List (List Int)} {a2 : Option Addr} {n2 c2 : Nat} {h h' : Hp}
theorem Ln.lt (L : Ln b h a2 n2 c2 lines) : ∀ q, a2 = some ⟨q, 0, none⟩ → b < q ∧ q < h.nx := fun q e => let ⟨_, A, _, _⟩ := L; A.lt e
theorem Bs.ub (B : Bs b vars a n c a1 n1 c1 ss gs left lines a2 n2 c2 h) : h.guarded b = false := guarded_of fun q hq => (B.ug q hq).1
theorem Bs.ul (B : Bs b vars a n c a1 n1 c1 ss gs left lines a2 n2 c2 h) : ∀ q, a2 = some ⟨q, 0, none⟩ → h.guarded q = false := fun q e => guarded_of fun p hp e2 => (B.ug p hp).2 (by rw [e2]; exact e)
theorem Bs.tb0 (B : Bs b vars a n c a1 n1 c1 ss gs left lines a2 n2 c2 h) : 0 ≠ b ∧ a2 ≠ some ⟨0, 0, none⟩ := by
  refine ⟨fun e => ?_, fun e => ?_⟩
  · have := B.tb.2; rw [e, B.get] at this; injection this with this; injection this with _ _ this; cases this
  · have := (B.L.lt 0 e).1; omega
/-- Something else is laid. -/
theorem Bs.kp (B : Bs b vars a n c a1 n1 c1 ss gs left lines a2 n2 c2 h) (k : Kp h.nx h h') : Bs b vars a n c a1 n1 c1 ss gs left lines a2 n2 c2 h' := by
  obtain ⟨vs, A, L, V⟩ := B.L
  exact ⟨B.ok.kp k, B.tb.kp k B.tb.1, Nat.lt_of_lt_of_le B.bn k.nx, by rw [k.get _ B.bn]; exact B.get, B.S.up (ECells.up uu) k, B.Sa, B.G.up EInt.up k, B.Ga, ⟨vs, A.keep (fun o ho _ => k.get o ho) k.nx, L.up k, V⟩, fun q hq => B.ug q (by rw [← k.gd]; exact hq)⟩
theorem Bs.grd (B : Bs b vars a n c a1 n1 c1 ss gs left lines a2 n2 c2 h) {l : List Nat} (hl : ∀ q ∈ l, q < h.nx ∧ q ≠ b ∧ a2 ≠ some ⟨q, 0, none⟩) : Bs b vars a n c a1 n1 c1 ss gs left lines a2 n2 c2 (h.grd l) := by
  obtain ⟨vs, A, L, V⟩ := B.L
  refine ⟨⟨fun q hq => ?_, B.ok.fr⟩, B.tb, B.bn, B.get, B.S.keep (fun _ _ _ => rfl) (Nat.le_refl _) fun _ _ h => h, B.Sa, B.G.keep (fun _ _ _ => rfl) (Nat.le_refl _) fun _ _ h => h, B.Ga, ⟨vs, A.keep (fun _ _ _ => rfl) (Nat.le_refl _), L, V⟩, fun q hq => ?_⟩
  · rcases List.mem_append.1 hq with hq | hq
    · exact (hl q hq).1
    · exact B.ok.gd q hq
  · rcases List.mem_append.1 hq with hq | hq
    · exact (hl q hq).2
    · exact B.ug q hq
theorem Nx.rst {a3 : Option Addr} {l : List Nat} (k : Nx b a2 (h.grd l) a3 h') : Nx b a2 h a3 (h'.rst h) := ⟨k.nx, rfl, k.fr, k.get, k.nw⟩
theorem Bs.rst {left0 left' : Int} {lines0 lines' : List (List Int)} {a3 : Option Addr} {n3 c3 : Nat} (B0 : Bs b vars a n c a1 n1 c1 ss gs left0 lines0 a2 n2 c2 h) (B : Bs b vars a n c a1 n1 c1 ss gs left' lines' a3 n3 c3 h') {l : List Nat} (k : Nx b a2 (h.grd l) a3 h') : Bs b vars a n c a1 n1 c1 ss gs left' lines' a3 n3 c3 (h'.rst h) := by
  obtain ⟨vs, A, L, V⟩ := B.L
  refine ⟨⟨fun q hq => Nat.lt_of_lt_of_le (B0.ok.gd q hq) k.nx, B.ok.fr⟩, B.tb, B.bn, B.get, B.S.keep (fun _ _ _ => rfl) (Nat.le_refl _) fun _ _ h => h, B.Sa, B.G.keep (fun _ _ _ => rfl) (Nat.le_refl _) fun _ _ h => h, B.Ga, ⟨vs, A.keep (fun _ _ _ => rfl) (Nat.le_refl _), L, V⟩, fun q hq => ⟨(B0.ug q hq).1, ?_⟩⟩
  rcases k.nw with rfl | e
  · exact (B0.ug q hq).2
  · exact fun e2 => by have := e _ _ e2; have := B0.ok.gd q hq; have : (h.grd l).nx = h.nx := rfl; omega
/-- Nodes are counted down. -/
theorem Bs.count (B : Bs b vars a n c a1 n1 c1 ss gs left lines a2 n2 c2 h) (l' : Int) : canW h b (0 + 3) [.int .i64 l'] = true ∧ Bs b vars a n c a1 n1 c1 ss gs l' lines a2 n2 c2 (h.wr b (0 + 3) [.int .i64 l']) ∧ Nx b a2 h a2 (h.wr b (0 + 3) [.int .i64 l']) := by
  have gw := wr_get B.get (by decide) B.ub (off := 0 + 3) (vs := [.int .i64 l']) (by simp [baseC]) rfl
  have ne : ∀ q, q ≠ b → (h.wr b (0 + 3) [.int .i64 l']).get q = h.get q := fun q hq => wr_get_ne _ _ _ _ hq
  have nx : (h.wr b (0 + 3) [.int .i64 l']).nx = h.nx := nx_wr ..
  have gd : (h.wr b (0 + 3) [.int .i64 l']).gd = h.gd := gd_wr ..
  have K : Nx b a2 h a2 (h.wr b (0 + 3) [.int .i64 l']) := ⟨Nat.le_of_eq nx.symm, gd, fun f => f.wr _ _ _, fun q _ hq _ => ne q hq, .inl rfl⟩
  obtain ⟨vs, A, L, V⟩ := B.L
  refine ⟨canW_t B.get (by decide) B.ub (by simp [baseC]) rfl, ⟨⟨fun q hq => by rw [gd] at hq; rw [nx]; exact B.ok.gd q hq, B.ok.fr.wr _ _ _⟩, ⟨by rw [nx]; exact B.tb.1, by rw [ne _ B.tb0.1]; exact B.tb.2⟩, by rw [nx]; exact B.bn, gw, K.sl (fun _ _ h => h) B.S B.Sa, B.Sa, K.ints B.G B.Ga, B.Ga, ⟨vs, A.keep (fun o _ e => ne o (by have := (A.lt e).1; omega)) (Nat.le_of_eq nx.symm), ⟨L.1, fun i hi => ?_⟩, V⟩, fun q hq => B.ug q (by rw [← gd]; exact hq)⟩, K⟩
  obtain ⟨v, hv, a', n', c', e, X⟩ := L.2 i hi
  exact ⟨v, hv, a', n', c', e, K.ints X (V v (List.mem_of_getElem? hv) a' n' c' (by simpa using e)).1⟩
/-- One list is appended: what is guarded must not be the list. -/
theorem append_f {P : Program} {sT e : TypeId} {bytes : Nat} (T : AppT P sT e 1 bytes) {h : Hp} {base : Nat} {a : Option Addr} {n c : Nat} {xs : List Value} (H : Acc h base e 1 a n c xs) (hb : base ≤ h.nx) (hg : ∀ q, a = some ⟨q, 0, none⟩ → h.guarded q = false)
    {x y : Value} (hx : ∃ a n c, x = .slice a n c) (hs : srcCells h 1 x = some ([y], 1)) (h1 : one y = true) (hB : (n + 1 + (n + 1)) * bytes ≤ 281474976710656) (hU : n + 1 < big) :
    ∃ h', appendV P h sT sT (.slice a n c) x = some (.slice (some ⟨h.nx, 0, none⟩) (n + 1) unk, h') ∧ Acc h' base e 1 (some ⟨h.nx, 0, none⟩) (n + 1) unk (xs ++ [y]) ∧ AppK h h' a := by
  obtain ⟨hz, info, z, hi, hzz, hrun⟩ := T.run
  rw [hrun h _ x hx, hs]
  simp only [Option.bind_some, List.all_cons, List.all_nil, h1, Bool.and_true, cond_true, show Nat.beq 1 0 = false from rfl, cond_false]
  have new : ∀ m old, m = n + 1 → appNew h e bytes old [y] m = some (.slice (some ⟨h.nx, 0, none⟩) m unk, h.add (.cells (old ++ [y]) e .grow)) := by
    rintro m old rfl
    unfold appNew
    rw [ble_t hB, blt_t hU]; rfl
  rcases H with ⟨rfl, rfl, rfl, rfl⟩ | ⟨o, rfl, rfl, h3, h4, h5, h6⟩
  · exact ⟨_, new 1 [] (by omega), .inr ⟨h.nx, rfl, rfl, by simp, hb, by rw [nx_add]; omega, get_add_same ..⟩, ⟨by rw [nx_add]; omega, rfl, fun f => f.add _, fun q hq _ => get_add_ne (by omega)⟩⟩
  · have hcap : Nat.beq unk unk = true := Nat.beq_refl _
    have hee : Nat.beq e e = true := Nat.beq_refl _
    have e1 : appSome h e bytes 1 (.slice (some ⟨o, 0, none⟩) n unk) [y] 1 = ((appNew h e bytes (xs.drop 0) [y] (n + 1)).bind fun r => (r.2.put o none).map fun h' => (r.1, h')) := by
      unfold appSome
      have : Nat.ble (0 + (n + 1) * 1) xs.length = false := by
        rw [Bool.eq_false_iff]; intro hh
        have hh : 0 + (n + 1) * 1 ≤ xs.length := by simpa using hh
        omega
      simp only [h6, hcap, hee, cond_true, isGrow, Bool.and_self, this, cond_false]
      rw [show Nat.beq (0 + n * 1) xs.length = true by rw [Nat.beq_eq]; omega]; rfl
    rw [e1, new _ _ rfl, Option.bind_some]
    have gf : (h.add (.cells (xs.drop 0 ++ [y]) e .grow)).guarded o = false := hg o rfl
    have hput : ∃ h', (h.add (.cells (xs.drop 0 ++ [y]) e .grow)).put o none = some h' := by
      unfold Hp.put; rw [gf]; exact ⟨_, rfl⟩
    obtain ⟨h', hp⟩ := hput
    obtain ⟨p1, p2, p3, p4⟩ := Hp.get_put hp
    have p4 : ∀ q, h'.get q = if q = o then none else (h.add (.cells (xs.drop 0 ++ [y]) e .grow)).get q := p4
    simp only [hp, Option.map_some]
    refine ⟨h', rfl, .inr ⟨h.nx, rfl, rfl, by simp; omega, hb, by rw [p1, nx_add]; omega, ?_⟩, ⟨by rw [p1, nx_add]; omega, p2, fun f q hq => ?_, fun q hq hne => ?_⟩⟩
    · rw [p4, if_neg (by omega), get_add_same]; simp
    · rw [p1] at hq
      rw [p4]
      split
      · rfl
      · exact (f.add _) q hq
    · rw [p4, if_neg (fun hh => hne (by rw [hh])), get_add_ne (by omega)]
/-- A line more: what is laid, and what is written into the base. -/
theorem Bs.line (B : Bs b vars a n c a1 n1 c1 ss gs left lines a2 n2 c2 h) (hl : lines.length < 1000000) {ac : Option Addr} {nc cc : Nat} {cl : List Int} (X : IntsAt h ac nc cl) (ha : Aw b a2 ac) (hne : ac = none ∨ 0 < nc) :
    ∃ h1, appendV Tryd.prog (h.add (.cells [.slice ac nc cc] 32 .fix)) 28 28 (.slice a2 n2 c2) (.slice (some ⟨h.nx, 0, none⟩) 1 1) = some (.slice (some ⟨h.nx + 1, 0, none⟩) (n2 + 1) unk, h1) ∧ canW h1 b (0 + 4) [.slice (some ⟨h.nx + 1, 0, none⟩) (n2 + 1) unk] = true ∧
      (let h' := h1.wr b (0 + 4) [.slice (some ⟨h.nx + 1, 0, none⟩) (n2 + 1) unk]; Bs b vars a n c a1 n1 c1 ss gs left (lines ++ [cl]) (some ⟨h.nx + 1, 0, none⟩) (n2 + 1) unk h' ∧ Nx b a2 h (some ⟨h.nx + 1, 0, none⟩) h' ∧ IntsAt h' ac nc cl ∧ Aw b (some ⟨h.nx + 1, 0, none⟩) ac) := by
  obtain ⟨vs, A, L, V⟩ := B.L
  have hn2 : n2 = lines.length := by
    have := L.1
    rcases A with ⟨_, h1, _, h4⟩ | ⟨_, _, _, h3, _⟩
    · rw [h4] at this; rw [h1]; exact this
    · omega
  have hb := B.bn
  have k0 : Kp h.nx h (h.add (.cells [.slice ac nc cc] 32 .fix)) := (Kp.refl _ _).add (Nat.le_refl _) _
  have B1 := B.kp k0
  have A1 : Acc (h.add (.cells [.slice ac nc cc] 32 .fix)) (b + 1) 32 1 a2 n2 c2 vs := A.keep (fun o ho _ => k0.get o ho) k0.nx
  have hnx1 : (h.add (.cells [.slice ac nc cc] 32 .fix)).nx = h.nx + 1 := nx_add ..
  obtain ⟨h1, e1, A2, K⟩ := append_f app28 A1 (by rw [hnx1]; omega) B1.ul ⟨_, _, _, rfl⟩ (src_get (n := 1) (c := 1) (esz := 1) (off := 0) (read1 (i := 0) (v := .slice ac nc cc) (get_add_same ..) rfl)) rfl (by omega) (by unfold big; omega)
  rw [hnx1] at e1 A2
  have hbk : h1.get b = some (.cells (baseC vars a n c a1 n1 c1 left a2 n2 c2) 128 .fix) := by
    rw [K.get b (by rw [hnx1]; omega) (fun e => by have := (B.L.lt b e).1; omega)]; exact B1.get
  have gd1 : h1.gd = h.gd := K.gd
  have ub1 : h1.guarded b = false := by have := B.ub; unfold Hp.guarded at *; rw [gd1]; exact this
  have hnx : h.nx + 1 < h1.nx := by
    rcases A2 with ⟨e, _⟩ | ⟨o, e, _, _, _, h5, _⟩
    · cases e
    · injection e with e; injection e with e; omega
  have gw := wr_get hbk (by decide) ub1 (off := 0 + 4) (vs := [.slice (some ⟨h.nx + 1, 0, none⟩) (n2 + 1) unk]) (by simp [baseC]) rfl
  refine ⟨h1, e1, canW_t hbk (by decide) ub1 (by simp [baseC]) rfl, ?_⟩
  intro h'
  have nx : h'.nx = h1.nx := nx_wr ..
  have gd : h'.gd = h1.gd := gd_wr ..
  have ne : ∀ q, q ≠ b → h'.get q = h1.get q := fun q hq => wr_get_ne _ _ _ _ hq
  have N : Nx b a2 h (some ⟨h.nx + 1, 0, none⟩) h' := by
    refine ⟨by rw [nx]; omega, by rw [gd, gd1], fun f => ((K.fr (f.add _))).wr _ _ _, fun q hq h1 h2 => ?_, .inr fun q off e => by injection e with e; injection e with e; omega⟩
    rw [ne q h1, K.get q (by rw [hnx1]; omega) h2, get_add_ne (by omega)]
  have aw : ∀ {x : Option Addr}, Aw b a2 x → (∀ q off, x = some ⟨q, off, none⟩ → q < h.nx) → Aw b (some ⟨h.nx + 1, 0, none⟩) x := fun ha hn => N.aw ha hn
  have fr : h'.Fresh := N.fr B.ok.fr
  have n2' : h1.get (h.nx + 1) = some (.cells (vs ++ [.slice ac nc cc]) 32 .grow) := by
    rcases A2 with ⟨e, _⟩ | ⟨o, e, _, _, _, h5, h6⟩
    · cases e
    · have e8 : h.nx + 1 = o := congrArg Addr.block (Option.some.inj e)
      rw [e8]
      exact h6
  have Xh : IntsAt h' ac nc cl := N.ints X ha
  refine ⟨⟨⟨fun q hq => by rw [gd, gd1] at hq; have := B.ok.gd q hq; rw [nx]; omega, fr⟩, ⟨by rw [nx]; omega, by rw [N.get 0 B.tb.1 B.tb0.1 B.tb0.2]; exact B.tb.2⟩, by rw [nx]; omega, gw, N.sl (fun _ _ h => h) B.S B.Sa, aw B.Sa (SlAt.lt B.S), N.ints B.G B.Ga, aw B.Ga (SlAt.lt B.G), ⟨vs ++ [.slice ac nc cc], .inr ⟨h.nx + 1, rfl, rfl, ?_, by omega, by rw [nx]; exact hnx, by rw [ne _ (by omega)]; exact n2'⟩, ?_, ?_⟩, fun q hq => ?_⟩, N, Xh, aw ha (SlAt.lt X)⟩
  · rcases A2 with ⟨e, _⟩ | ⟨o, e, _, h3, _⟩
    · cases e
    · exact h3
  · refine Lis.app ⟨L.1, fun i hi => ?_⟩ ⟨rfl, fun i hi => ?_⟩
    · obtain ⟨v, hv, a', n', c', e, X'⟩ := L.2 i hi
      exact ⟨v, hv, a', n', c', e, N.ints X' (V v (List.mem_of_getElem? hv) a' n' c' (by simpa using e)).1⟩
    · obtain rfl : i = 0 := by simp at hi; exact hi
      exact ⟨_, rfl, ac, nc, cc, rfl, Xh⟩
  · intro v hv a' n' c' e
    rcases List.mem_append.1 hv with hv | hv
    · obtain ⟨i, hi, rfl⟩ := List.getElem_of_mem hv
      obtain ⟨v', hv', a'', n'', c'', e', X'⟩ := L.2 i (by rw [← L.1]; exact hi)
      have e3 := V _ hv _ _ _ e
      have e4 : vs[i] = v' := Option.some.inj ((List.getElem?_eq_getElem hi).symm.trans hv')
      injection e' with e' _
      have e5 : Value.slice a' n' c' = .slice a'' n'' c'' := by rw [← e, ← e', e4]
      injection e5 with e5 _ _
      subst e5
      exact ⟨aw e3.1 (SlAt.lt X'), e3.2⟩
    · rw [List.mem_singleton] at hv
      rw [hv] at e; injection e with e e9 _; subst e e9
      exact ⟨aw ha (SlAt.lt X), hne⟩
  · rw [gd, gd1] at hq
    exact ⟨(B.ug q hq).1, fun e => by injection e with e; injection e with e; have := B.ok.gd q hq; omega⟩
end
end Go.Proofs.YtfgfhplgnfbaaaaDoor
/- The walk of search: what it computes; a line more; a decision more; how it returns. -/
namespace Go.Proofs.YtfgfhplgnfbaaaaDoor
open Go Go.Ev
theorem spreadF_lt {ss : List (Nat × Nat)} (hs : ∀ c ∈ ss, c.1 < 2 ^ 30 ∧ c.2 < 2 ^ 30) : ∀ (d : Nat) {y m : Nat}, y < 2 ^ 30 → m < 2 ^ 30 → (spreadF ss d y m).1.1 < 2 ^ 30 ∧ (spreadF ss d y m).1.2 < 2 ^ 30 := by
  intro d
  induction d with
  | zero => intro y m hy hm; exact ⟨hy, hm⟩
  | succ d ih =>
    intro y m hy hm
    unfold spreadF
    split
    · exact ⟨hy, hm⟩
    · exact ⟨hy, hm⟩
    · rename_i p e
      have := stepS_free hy hm hs e
      exact ih this.2.1 this.2.2
theorem layN_lt2 : ∀ {xs : List Int}, (∀ x ∈ xs, Lit x) → ∀ {y m : Nat}, y < 2 ^ 30 → m < 2 ^ 30 → (layN xs y m).1.1 < 2 ^ 30 ∧ (layN xs y m).1.2 < 2 ^ 30 := by
  intro xs
  induction xs with
  | nil => intro _ y m hy hm; exact ⟨hy, hm⟩
  | cons x xs ih =>
    intro hx y m hy hm
    have h1 := withN_lt (hx x (by simp)) hy hm
    unfold layN
    split
    · exact ih (fun x h => hx x (List.mem_cons_of_mem _ h)) h1.1 h1.2
    · exact h1
theorem fromN_lt {ss : List (Nat × Nat)} (hs : ∀ c ∈ ss, c.1 < 2 ^ 30 ∧ c.2 < 2 ^ 30) {xs : List Int} (hx : ∀ x ∈ xs, Lit x) : (fromN ss xs).1.1 < 2 ^ 30 ∧ (fromN ss xs).1.2 < 2 ^ 30 := by
  have h1 := layN_lt2 hx (y := 0) (m := 0) (by decide) (by decide)
  unfold fromN fromR
  split
  · exact spreadF_lt hs 31 h1.1 h1.2
  · exact h1
/-- The lowest digit. -/
def lowF (u : Nat) : Nat := (digits 30 u).head?.getD 0
/-- The variables that are open. -/
def freeM (n y m : Nat) : Nat := (2 ^ n - 1) - ((2 ^ n - 1) &&& (y ||| m))
/-- How a search ends: truths, a clause, the end, nodes left, lines. -/
structure Sr where
  y : Nat
  m : Nat
  c : List Int
  how : Int
  left : Nat
  lines : List (List Int)
def searchF (n : Nat) (ss : List (Nat × Nat)) (gs : List Int) : Nat → List Int → Nat → Sr
  | 0, _, left => ⟨0, 0, [], 2, left, []⟩
  | _ + 1, _, 0 => ⟨0, 0, [], 2, 0, []⟩
  | d + 1, ds, left + 1 =>
    if (fromN ss (gs ++ ds)).2 = false then
      ⟨(fromN ss (gs ++ ds)).1.1, (fromN ss (gs ++ ds)).1.2, (needF (clashN ss gs) ds.length ds).map fun x => -x, 1, left, [(needF (clashN ss gs) ds.length ds).map fun x => -x]⟩
    else if freeM n (fromN ss (gs ++ ds)).1.1 (fromN ss (gs ++ ds)).1.2 = 0 then ⟨(fromN ss (gs ++ ds)).1.1, (fromN ss (gs ++ ds)).1.2, [], 0, left, []⟩
    else
      let v : Int := Int.ofNat (lowF (freeM n (fromN ss (gs ++ ds)).1.1 (fromN ss (gs ++ ds)).1.2) + 1)
      let s := searchF n ss gs d (ds ++ [-v]) left
      if s.how ≠ 1 ∨ v ∉ s.c then s
      else
        let t := searchF n ss gs d (ds ++ [v]) s.left
        if t.how ≠ 1 ∨ -v ∉ t.c then ⟨t.y, t.m, t.c, t.how, t.left, s.lines ++ t.lines⟩
        else ⟨(fromN ss (gs ++ ds)).1.1, (fromN ss (gs ++ ds)).1.2, (resP s.c t.c v).1, 1, t.left, s.lines ++ t.lines ++ [(resP s.c t.c v).1]⟩
/-- A slice in what is written now. -/
theorem wr_ints {h : Hp} {o : Nat} {p q y m : Nat} (H : h.get o = some (.cells [U p, U q] 102 .fix)) (hw : (h.wr o 0 [U y, U m]).get o = some (.cells [U y, U m] 102 .fix)) {a : Option Addr} {n : Nat} {xs : List Int} (X : IntsAt h a n xs) : IntsAt (h.wr o 0 [U y, U m]) a n xs := by
  refine ⟨X.1, X.2.imp id ?_⟩
  rintro ⟨b, off, c, e, md, h1, h2, h3, h4, h5⟩
  by_cases hb : b = o
  · subst hb
    rw [H] at h3
    injection h3 with h3; injection h3 with h3 h31 h32
    subst h3
    cases xs with
    | nil => exact ⟨b, off, _, _, _, h1, by rw [nx_wr]; exact h2, hw, by simpa using h4, fun i hi => by simp at hi⟩
    | cons x xs =>
      have h6 : ([U p, U q].drop (off + 0 * 1)).take 1 = [.int .i64 x] := h5 0 (by simp)
      simp only [List.length_cons, List.length_nil] at h4
      match off, h4, h6 with
      | 0, _, h6 => cases h6
      | 1, _, h6 => cases h6
      | off + 2, h4, _ => omega
  · exact ⟨b, off, c, e, md, h1, by rw [nx_wr]; exact h2, by rw [wr_get_ne _ _ _ _ hb]; exact h3, h4, h5⟩
theorem rst_wr (g : Hp) (o off : Nat) (vs : List Value) : (g.wr o off vs).rst g = g.wr o off vs := by
  have h1 := gd_wr g o off vs
  generalize g.wr o off vs = w at *
  cases w; cases g
  simp only at h1
  subst h1
  rfl
section
variable {b : Nat} {vars : Int} {a : Option Addr} {n c : Nat} {a1 : Option Addr} {n1 c1 : Nat} {ss : List (Nat × Nat)} {gs : List Int} {left left' : Int} {lines lines' : List (List Int)} {a2 a3 : Option Addr} {n2 c2 n3 c3 : Nat} {h g : Hp}
/-- The truths that are returned are written. -/
theorem exit117 (B0 : Bs b vars a n c a1 n1 c1 ss gs left lines a2 n2 c2 h) (B : Bs b vars a n c a1 n1 c1 ss gs left' lines' a3 n3 c3 g) (N : Nx b a2 h a3 g) {p q y m : Nat} (H : g.get h.nx = some (.cells [U p, U q] 102 .fix)) {ac : Option Addr} {nc : Nat} {cl : List Int} (X : IntsAt g ac nc cl) :
    canW g h.nx 0 [U y, U m] = true ∧ readAt (g.wr h.nx 0 [U y, U m]) h.nx 0 2 = some [U y, U m] ∧ Bs b vars a n c a1 n1 c1 ss gs left' lines' a3 n3 c3 (g.wr h.nx 0 [U y, U m]) ∧ Nx b a2 h a3 (g.wr h.nx 0 [U y, U m]) ∧ IntsAt (g.wr h.nx 0 [U y, U m]) ac nc cl := by
  have gf : g.guarded h.nx = false := guarded_of fun q hq => by rw [N.gd] at hq; have := B0.ok.gd q hq; omega
  have hw := wr_get H (by decide) gf (off := 0) (vs := [U y, U m]) (by simp) rfl
  have hw : (g.wr h.nx 0 [U y, U m]).get h.nx = some (.cells [U y, U m] 102 .fix) := hw
  have nx : (g.wr h.nx 0 [U y, U m]).nx = g.nx := nx_wr ..
  have gd : (g.wr h.nx 0 [U y, U m]).gd = g.gd := gd_wr ..
  have ne : ∀ q, q ≠ h.nx → (g.wr h.nx 0 [U y, U m]).get q = g.get q := fun q hq => wr_get_ne _ _ _ _ hq
  have hb := B0.bn
  obtain ⟨vs, A, L, V⟩ := B.L
  have hl : ∀ q, a3 = some ⟨q, 0, none⟩ → q ≠ h.nx := fun q e eq => by
    rcases A with ⟨e2, _⟩ | ⟨o, e2, _, _, _, _, hg⟩
    · rw [e2] at e; cases e
    · have e3 : q = o := congrArg Addr.block (Option.some.inj (e.symm.trans e2))
      rw [← e3, eq, H] at hg
      injection hg with hg; injection hg with _ _ hg; cases hg
  have t0 := B0.tb.1
  refine ⟨canW_t H (by decide) gf (by simp) rfl, by rw [readAt_get hw (by simp)]; rfl, ⟨⟨fun q hq => by rw [gd] at hq; rw [nx]; exact B.ok.gd q hq, B.ok.fr.wr _ _ _⟩, ⟨by rw [nx]; exact B.tb.1, by rw [ne _ (by omega)]; exact B.tb.2⟩, by rw [nx]; exact B.bn, by rw [ne _ (by omega)]; exact B.get, ?_, B.Sa, wr_ints H hw B.G, B.Ga, ⟨vs, A.keep (fun o _ e => ne o (hl o e)) (Nat.le_of_eq nx.symm), ⟨L.1, fun i hi => ?_⟩, V⟩, fun q hq => B.ug q (by rw [← gd]; exact hq)⟩, ⟨by rw [nx]; exact N.nx, by rw [gd]; exact N.gd, fun f => (N.fr f).wr _ _ _, fun o ho h1 h2 => by rw [ne o (by omega)]; exact N.get o ho h1 h2, N.nw⟩, wr_ints H hw X⟩
  · exact B.S.keep (fun q off e => ne q (by have := SlAt.lt B0.S q off e; omega)) (Nat.le_of_eq nx.symm) fun _ _ h => h
  · obtain ⟨v, hv, a', n', c', e, X'⟩ := L.2 i hi
    exact ⟨v, hv, a', n', c', e, wr_ints H hw X'⟩
end
section
variable {O : CallF} (hO : Oth O)
include hO
variable {b : Nat} {vars : Int} {a : Option Addr} {n c : Nat} {a1 : Option Addr} {n1 c1 : Nat} {ss : List (Nat × Nat)} {gs : List Int} {left left' : Int} {lines lines' : List (List Int)} {a2 a3 : Option Addr} {n2 c2 n3 c3 : Nat} {h g : Hp}
theorem ct137 (B : Bs b vars a n c a1 n1 c1 ss gs left lines a2 n2 c2 h) (hl : lines.length < 1000000) {ac : Option Addr} {nc cc : Nat} {cl : List Int} (X : IntsAt h ac nc cl) (ha : Aw b a2 ac) (hne : ac = none ∨ 0 < nc) :
    Ret Tryd.prog O 137 [.pointer (some ⟨b, 0, none⟩), .slice ac nc cc] h fun v h' => v = .slice ac nc cc ∧ IntsAt h' ac nc cl ∧ ∃ a3 n3 c3, Bs b vars a n c a1 n1 c1 ss gs left (lines ++ [cl]) a3 n3 c3 h' ∧ Nx b a2 h a3 h' ∧ Aw b a3 ac := by
  refine rk137 _ _ _ _ _ (hO _ _ _ (by decide)) ?_
  unfold T137
  obtain ⟨h1, e1, e2, B', N, X', A'⟩ := B.line hl X ha hne (cc := cc)
  refine ⟨_, _, _, read1 B.get (i := 0 + 4) rfl, ?_⟩
  intro g4
  refine ⟨_, _, _, h1, e1, vreq_t e2 ?_⟩
  exact ⟨rfl, X', _, _, _, B', N, A'⟩
/-- A decision more. -/
theorem ct110 {base : Nat} {ad : Option Addr} {nd cd : Nat} {ds : List Int} (A : AccI 3 h base ad nd cd ds) (hl : ds.length < 1000) :
    ∃ cc, EvT O 110 [.slice ad nd cd] h (.slice ad nd cc) h ∧ ∀ x, ∃ h2, appendV Tryd.prog (h.add (.cells [.int .i64 x] 3 .fix)) 32 32 (.slice ad nd cc) (.slice (some ⟨h.nx, 0, none⟩) 1 1) = some (.slice (some ⟨h.nx + 1, 0, none⟩) (nd + 1) unk, h2) ∧ Kp h.nx h h2 ∧ AccI 3 h2 h.nx (some ⟨h.nx + 1, 0, none⟩) (nd + 1) unk (ds ++ [x]) := by
  have hb : big = 4611686018427387904 := rfl
  have hu : unk = 18446744073709551616 := rfl
  have hnx : ∀ x, (h.add (.cells [.int .i64 x] 3 .fix)).nx = h.nx + 1 := fun x => nx_add ..
  have k1 : ∀ x, Kp h.nx h (h.add (.cells [.int .i64 x] 3 .fix)) := fun x => (Kp.refl _ _).add (Nat.le_refl _) _
  have src : ∀ x, srcCells (h.add (.cells [.int .i64 x] 3 .fix)) 1 (.slice (some ⟨h.nx, 0, none⟩) 1 1) = some ([.int .i64 x], 1) := fun x => src_get (n := 1) (c := 1) (esz := 1) (off := 0) (read1 (i := 0) (v := .int .i64 x) (get_add_same ..) rfl)
  obtain ⟨hz, info, z, hi, hzz, hrun⟩ := (app32 : AppT Tryd.prog 32 3 1 8).run
  rcases A with ⟨rfl, rfl, rfl, h4⟩ | ⟨o, rfl, rfl, h3, h4, h5, h6⟩
  · have hds : ds = [] := by simpa using h4
    subst hds
    refine ⟨0, EvC.of_ret (rk110 _ _ _ (hO _ _ _ (by decide)) ?_), fun x => ?_⟩
    · unfold T110
      exact ⟨none, 0, 0, by unfold sliceV; rw [Tryd.underlying32]; simp only [sz3, bind, Option.bind_some]; rfl, rfl, rfl⟩
    · refine ⟨(h.add (.cells [.int .i64 x] 3 .fix)).add (.cells ([] ++ [.int .i64 x]) 3 .grow), ?_, (k1 x).add (by rw [hnx]; omega) _, .inr ⟨h.nx + 1, rfl, rfl, rfl, by omega, by rw [nx_add, hnx]; omega, ?_⟩⟩
      · rw [hrun _ _ _ ⟨_, _, _, rfl⟩, src x]
        rfl
      · rw [← hnx x]; exact get_add_same ..
  · have hn : nd = ds.length := by simpa using h3
    have hcl : (ds.map (Value.int .i64)).length = ds.length := List.length_map ..
    obtain ⟨off, e1, e2⟩ := slice_m (n := nd) (l := 0) (hh := nd) h6 (lo := none) (hi := some (.int .i64 (Int.ofNat nd))) (mx := some (.int .i64 (Int.ofNat nd))) (bound_i (by omega)) ⟨_, rfl⟩ rfl (bound_i (Nat.le_refl _)) (by omega)
    obtain rfl := e2 rfl
    refine ⟨nd, EvC.of_ret (rk110 _ _ _ (hO _ _ _ (by decide)) ?_), fun x => ?_⟩
    · unfold T110
      exact ⟨_, _, _, e1, rfl, rfl⟩
    · refine ⟨(h.add (.cells [.int .i64 x] 3 .fix)).add (.cells (ds.map (Value.int .i64) ++ [.int .i64 x]) 3 .grow), ?_, (k1 x).add (by rw [hnx]; omega) _, .inr ⟨h.nx + 1, rfl, rfl, by simp; omega, by omega, by rw [nx_add, hnx]; omega, ?_⟩⟩
      · rw [hrun _ _ _ ⟨_, _, _, rfl⟩, src x]
        simp only [Option.bind_some, show ([Value.int .i64 x].all one) = true from rfl, cond_true, show Nat.beq 1 0 = false from rfl, cond_false]
        have hg : (h.add (.cells [.int .i64 x] 3 .fix)).get o = some (.cells (ds.map (Value.int .i64)) 3 .grow) := by rw [get_add_ne (by omega)]; exact h6
        unfold appSome
        have b1 : Nat.beq nd unk = false := by rw [Bool.eq_false_iff]; intro hh; have := Nat.eq_of_beq_eq_true hh; omega
        have b2 : Nat.ble (nd + 1) nd = false := by rw [Bool.eq_false_iff]; intro hh; have hh : nd + 1 ≤ nd := (by simpa using hh); omega
        simp only [hg, b1, b2, cond_false]
        rw [readAt_get hg (by omega), List.drop_zero, Nat.mul_one, List.take_of_length_le (by omega), Option.bind_some]
        unfold appNew
        rw [ble_t (by omega), blt_t (by omega), hnx]
        rfl
      · rw [← hnx x, get_add_same, List.map_append]; rfl
theorem ct96E {h : Hp} (ok : h.Ok) {a0 : Option Addr} {n0 c0 : Nat} {l : List Int} (X : IntsAt h a0 n0 l) (hl : l.length < 50) (hlit : ∀ x ∈ l, Lit x) (hd : Dif l) : Ret Tryd.prog O 96 [.slice a0 n0 c0] h (RIntsE h (l.map fun x => -x)) := by
  cases l with
  | nil =>
    have hn : n0 = 0 := X.1
    refine rk96 _ _ _ (hO _ _ _ (by decide)) ?_
    unfold T96
    refine I96_0.of _ _ _ _ _ _ _ ?_
    intros
    unfold T96_0
    obtain ⟨v, h2, e2, rfl, K2⟩ := ct74 hO (SlAt.nil 1 EInt h) (l := []) (by simp) (by simp) List.Pairwise.nil (c0 := 0)
    exact vcond_f (by rw [hn]; rfl) ⟨_, e2, none, 0, 0, rfl, SlAt.nil .., K2, (fun _ _ e => by cases e), .inl rfl⟩
  | cons x xs =>
    obtain ⟨v, h', e, a, n, c, rfl, X', K, F⟩ := ct96 hO ok X hl hlit hd (c0 := c0)
    exact ⟨_, h', e, a, n, c, rfl, X', K, F, .inr (by rw [X'.1]; simp)⟩
end
end Go.Proofs.YtfgfhplgnfbaaaaDoor
/- The walk of search: one of the two branches. -/
namespace Go.Proofs.YtfgfhplgnfbaaaaDoor
open Go Go.Ev
theorem needF_sub (cl : List Int → Bool) : ∀ (i : Nat) (out : List Int), (needF cl i out).Sublist out := by
  intro i
  induction i with
  | zero => intro out; exact List.Sublist.refl _
  | succ i ih =>
    intro out
    unfold needF
    split
    · exact (ih _).trans (List.eraseIdx_sublist ..)
    · exact ih _
theorem litsN_len (y m : Nat) : (litsN y m).length ≤ 30 := by
  unfold litsN digits
  rw [List.length_map]
  exact Nat.le_trans (List.length_filter_le _ _) (by simp)
theorem resP_len (xs ys : List Int) (v : Int) : (resP xs ys v).1.length ≤ 30 := by
  unfold resP
  split
  · simp
  · split
    · simp
    · unfold fin38
      split
      · exact litsN_len _ _
      · simp
/-- Decisions that are proper. -/
structure Dec (N : Nat) (ss : List (Nat × Nat)) (gs : List Int) (Dc : List Int → Prop) : Prop where
  ok : ∀ ds, Dc ds → ds.length ≤ N ∧ (∀ x ∈ ds, Lit x) ∧ Dif ds
  more : ∀ ds, Dc ds → (fromN ss (gs ++ ds)).2 = true → freeM N (fromN ss (gs ++ ds)).1.1 (fromN ss (gs ++ ds)).1.2 ≠ 0 → Dc (ds ++ [-(Int.ofNat (lowF (freeM N (fromN ss (gs ++ ds)).1.1 (fromN ss (gs ++ ds)).1.2) + 1))]) ∧ Dc (ds ++ [Int.ofNat (lowF (freeM N (fromN ss (gs ++ ds)).1.1 (fromN ss (gs ++ ds)).1.2) + 1)])
theorem searchF_ok {N : Nat} {ss : List (Nat × Nat)} {gs : List Int} {Dc : List Int → Prop} (D : Dec N ss gs Dc) (hN : N ≤ 30) : ∀ (d : Nat) {ds : List Int} {left : Nat}, Dc ds → (searchF N ss gs d ds left).c.length < 1000 ∧ (searchF N ss gs d ds left).lines.length + (searchF N ss gs d ds left).left ≤ left := by
  intro d
  induction d with
  | zero => intro ds left _; exact ⟨by simp [searchF], by simp [searchF]⟩
  | succ d ih =>
    intro ds left hD
    cases left with
    | zero => exact ⟨by simp [searchF], by simp [searchF]⟩
    | succ left =>
      have hl := (D.ok ds hD).1
      have hs := (needF_sub (clashN ss gs) ds.length ds).length_le
      unfold searchF
      split
      · exact ⟨by simp; omega, by simp; omega⟩
      · rename_i h1
        split
        · exact ⟨by simp, by simp⟩
        · rename_i h2
          obtain ⟨p1, p2⟩ := D.more ds hD (by simpa using h1) h2
          have q1 := ih (left := left) p1
          have q2 := ih (left := (searchF N ss gs d (ds ++ [-(Int.ofNat (lowF (freeM N (fromN ss (gs ++ ds)).1.1 (fromN ss (gs ++ ds)).1.2) + 1))]) left).left) p2
          simp only
          split
          · exact ⟨q1.1, by omega⟩
          · split
            · exact ⟨q2.1, by simp only [List.length_append]; omega⟩
            · exact ⟨Nat.lt_of_le_of_lt (resP_len _ _ _) (by decide), by simp only [List.length_append, List.length_singleton]; omega⟩
section
variable {b : Nat} {vars : Int} {a : Option Addr} {n c : Nat} {a1 : Option Addr} {n1 c1 : Nat} {ss : List (Nat × Nat)} {gs : List Int} {left left' : Int} {lines lines' : List (List Int)} {a2 a3 : Option Addr} {n2 c2 n3 c3 : Nat} {h g g' : Hp}
theorem Bs.nefix (B : Bs b vars a n c a1 n1 c1 ss gs left lines a2 n2 c2 h) {o : Nat} {cs : List Value} {e : TypeId} (H : h.get o = some (.cells cs e .fix)) : a2 ≠ some ⟨o, 0, none⟩ := by
  obtain ⟨vs, A, _, _⟩ := B.L
  intro e1
  rcases A with ⟨e2, _⟩ | ⟨p, e2, _, _, _, _, hg⟩
  · rw [e2] at e1; cases e1
  · have e3 : o = p := congrArg Addr.block (Option.some.inj (e1.symm.trans e2))
    rw [← e3, H] at hg
    injection hg with hg; injection hg with _ _ hg; cases hg
/-- A list of slices goes: lists of numbers stay. -/
theorem ints_app {ab : Option Addr} {e : TypeId} (k : AppK g g' ab) (hab : ∀ o, ab = some ⟨o, 0, none⟩ → ∃ vs, g.get o = some (.cells vs e .grow) ∧ ∀ v ∈ vs, ∃ a n c, v = Value.slice a n c) {ac : Option Addr} {nc : Nat} {cl : List Int} (X : IntsAt g ac nc cl) (hne : ac = none ∨ 0 < nc) : IntsAt g' ac nc cl := by
  refine ⟨X.1, X.2.imp id ?_⟩
  rintro ⟨q, off, cs, e, m, h1, h2, h3, h4, h5⟩
  refine ⟨q, off, cs, e, m, h1, Nat.lt_of_lt_of_le h2 k.nx, ?_, h4, h5⟩
  by_cases hq : ab = some ⟨q, 0, none⟩
  · exfalso
    obtain ⟨vs, hg, hv⟩ := hab q hq
    rw [h3] at hg; injection hg with hg; injection hg with hg _ _; subst hg
    have hn : 0 < nc := by
      rcases hne with hne | hne
      · rw [hne] at h1; cases h1
      · exact hne
    have hx := X.1
    have h6 : (cs.drop (off + 0 * 1)).take 1 = [.int .i64 cl[0]] := h5 0 (by omega)
    rw [Nat.zero_mul, Nat.add_zero] at h6
    have h7 : cs[off]? = some (.int .i64 cl[0]) := by
      have : ((cs.drop off).take 1)[0]? = some (.int .i64 cl[0]) := by rw [h6]; rfl
      simpa using this
    obtain ⟨_, _, _, e9⟩ := hv _ (List.mem_of_getElem? h7)
    cases e9
  · rw [k.get q h2 hq]; exact h3
theorem Bs.app (B0 : Bs b vars a n c a1 n1 c1 ss gs left lines a2 n2 c2 h) (B : Bs b vars a n c a1 n1 c1 ss gs left' lines' a3 n3 c3 g) (N : Nx b a2 h a3 g) {ab : Option Addr} {e : TypeId} (k : AppK g g' ab)
    (hn : ∀ o, ab = some ⟨o, 0, none⟩ → h.nx ≤ o) (ha : Aw b a3 ab) (hab : ∀ o, ab = some ⟨o, 0, none⟩ → ∃ vs, g.get o = some (.cells vs e .grow) ∧ ∀ v ∈ vs, ∃ a n c, v = Value.slice a n c) :
    Bs b vars a n c a1 n1 c1 ss gs left' lines' a3 n3 c3 g' ∧ Nx b a2 h a3 g' := by
  have old : ∀ q, q < h.nx → g'.get q = g.get q := fun q hq => k.get q (Nat.lt_of_lt_of_le hq N.nx) fun e => by have := hn q e; omega
  obtain ⟨vs, A, L, V⟩ := B.L
  refine ⟨⟨⟨fun q hq => by rw [k.gd] at hq; exact Nat.lt_of_lt_of_le (B.ok.gd q hq) k.nx, k.fr B.ok.fr⟩, ⟨Nat.lt_of_lt_of_le B.tb.1 k.nx, by rw [old 0 B0.tb.1]; exact B.tb.2⟩, Nat.lt_of_lt_of_le B.bn k.nx, by rw [old b B0.bn]; exact B.get, B.S.keep (fun q off e => old q (SlAt.lt B0.S q off e)) k.nx fun _ _ h => h, B.Sa, B.G.keep (fun q off e => old q (SlAt.lt B0.G q off e)) k.nx fun _ _ h => h, B.Ga, ⟨vs, A.keep (fun o ho e => k.get o ho fun e2 => (ha o 0 e2).2 e) k.nx, ⟨L.1, fun i hi => ?_⟩, V⟩, fun q hq => B.ug q (by rw [← k.gd]; exact hq)⟩, ⟨Nat.le_trans N.nx k.nx, k.gd.trans N.gd, fun f => k.fr (N.fr f), fun o ho h1 h2 => by rw [old o ho]; exact N.get o ho h1 h2, N.nw⟩⟩
  obtain ⟨v, hv, a', n', c', e, X'⟩ := L.2 i hi
  exact ⟨v, hv, a', n', c', e, ints_app k hab X' (V v (List.mem_of_getElem? hv) a' n' c' (by simpa using e)).2⟩
/-- What a search leaves behind. -/
def SPost (b : Nat) (vars : Int) (a : Option Addr) (n c : Nat) (a1 : Option Addr) (n1 c1 : Nat) (ss : List (Nat × Nat)) (gs : List Int) (a2 : Option Addr) (h : Hp) (lines : List (List Int)) (r : Sr) : Value → Hp → Prop := fun v h' =>
  ∃ ac nc cc, v = .tuple #[.agg #[U r.y, U r.m], .slice ac nc cc, .int .i64 r.how] ∧ IntsAt h' ac nc r.c ∧ ∃ a3 n3 c3, Bs b vars a n c a1 n1 c1 ss gs (Int.ofNat r.left) (lines ++ r.lines) a3 n3 c3 h' ∧ Nx b a2 h a3 h' ∧ Aw b a3 ac
/-- A search of some depth does as it should. -/
def SOk (O : CallF) (b : Nat) (N : Nat) (a : Option Addr) (n c : Nat) (a1 : Option Addr) (n1 c1 : Nat) (ss : List (Nat × Nat)) (gs : List Int) (Dc : List Int → Prop) (d : Nat) : Prop :=
  ∀ {ds : List Int} {left : Nat} {lines : List (List Int)} {h : Hp} {a2 : Option Addr} {n2 c2 : Nat} {ad : Option Addr} {nd cd base : Nat}, Dc ds → N + 1 ≤ ds.length + d → lines.length + left ≤ 100000 →
    Bs b (Int.ofNat N) a n c a1 n1 c1 ss gs (Int.ofNat left) lines a2 n2 c2 h → AccI 3 h base ad nd cd ds → Aw b a2 ad →
    Ret Tryd.prog O 117 [.pointer (some ⟨b, 0, none⟩), .slice ad nd cd] h (SPost b (Int.ofNat N) a n c a1 n1 c1 ss gs a2 h lines (searchF N ss gs d ds left))
end
section
variable {O : CallF} (hO : Oth O)
include hO
theorem it117 {b N : Nat} {a : Option Addr} {n c : Nat} {a1 : Option Addr} {n1 c1 : Nat} {ss : List (Nat × Nat)} {gs : List Int} {Dc : List Int → Prop} (D : Dec N ss gs Dc) (hN : N ≤ 30) {d : Nat} (IH : SOk O b N a n c a1 n1 c1 ss gs Dc d)
    {left0 : Int} {left1 : Nat} {lines0 L : List (List Int)} {a2 a3 : Option Addr} {n2 c2 n3 c3 : Nat} {h g : Hp} (B0 : Bs b (Int.ofNat N) a n c a1 n1 c1 ss gs left0 lines0 a2 n2 c2 h) (B : Bs b (Int.ofNat N) a n c a1 n1 c1 ss gs (Int.ofNat left1) (lines0 ++ L) a3 n3 c3 g) (N0 : Nx b a2 h a3 g)
    (hll : (lines0 ++ L).length + left1 ≤ 100000) {p q : Nat} (H : g.get h.nx = some (.cells [U p, U q] 102 .fix)) (hRg : h.nx < g.nx) {ds : List Int} {ad : Option Addr} {nd cd base : Nat} (A : AccI 3 h base ad nd cd ds) (hda : Aw b a2 ad)
    {ol : Nat} {v0 v1 v : Int} {k : Nat} (hk : k < 2) (hol : ol < g.nx) (HL : g.get ol = some (.cells [.int .i64 v0, .int .i64 v1] 3 .fix)) {x : Int} (hx : [v0, v1][k]? = some x) (lx : Lit x) (hD : Dc (ds ++ [x])) (hd : N + 1 ≤ ds.length + 1 + d) (hdl : ds.length < 1000)
    {ab : Option Addr} {nb cb : Nat} {vs : List Value} (AB : Acc g 0 32 1 ab nb cb vs) (hab : Aw b a3 ab) (hbn : ∀ o, ab = some ⟨o, 0, none⟩ → h.nx < o) (hvs : ∀ v ∈ vs, ∃ a n c, v = Value.slice a n c) (hnb : nb ≤ 2) {t : Nat} {r s : Sr} (hs : s = searchF N ss gs d (ds ++ [x]) left1)
    (exitR : (s.how ≠ 1 ∨ -x ∉ s.c) → r = ⟨s.y, s.m, s.c, s.how, s.left, L ++ s.lines⟩)
    (next : s.how = 1 → -x ∈ s.c → ∀ (g' : Hp) (a4 : Option Addr) (n4 c4 : Nat) (ac : Option Addr) (nc cc : Nat) (o' : Nat), Bs b (Int.ofNat N) a n c a1 n1 c1 ss gs (Int.ofNat s.left) (lines0 ++ (L ++ s.lines)) a4 n4 c4 g' → Nx b a2 h a4 g' → g.nx ≤ g'.nx →
      (∀ o, o < g.nx → o ≠ b → a3 ≠ some ⟨o, 0, none⟩ → ab ≠ some ⟨o, 0, none⟩ → g'.get o = g.get o) → Acc g' 0 32 1 (some ⟨o', 0, none⟩) (nb + 1) unk (vs ++ [.slice ac nc cc]) → g.nx ≤ o' → Aw b a4 (some ⟨o', 0, none⟩) → IntsAt g' ac nc s.c → Aw b a4 ac →
      (∀ ax nx' xs, IntsAt g ax nx' xs → Aw b a3 ax → 0 < nx' → IntsAt g' ax nx' xs ∧ Aw b a4 ax) →
      I117_0 O (SPost b (Int.ofNat N) a n c a1 n1 c1 ss gs a2 h lines0 r) b 0 ad nd cd h.nx 0 none 0 0 0 t 0 v (some ⟨o', 0, none⟩) (nb + 1) unk (some ⟨ol, 0, none⟩) 2 2 (Int.ofNat (k + 1)) g') :
    I117_0 O (SPost b (Int.ofNat N) a n c a1 n1 c1 ss gs a2 h lines0 r) b 0 ad nd cd h.nx 0 none 0 0 0 t 0 v ab nb cb (some ⟨ol, 0, none⟩) 2 2 (Int.ofNat k) g := by
  refine I117_0.of (hh := ?_) ..
  unfold T117_0
  have LT : IntsAt g (some ⟨ol, 0, none⟩) 2 [v0, v1] := ints_of_get (xs := [v0, v1]) HL hol (by simp) fun i hi => by
    match i, hi with
    | 0, _ => rfl
    | 1, _ => rfl
  have hxk : [v0, v1][k]'(by simpa using hk) = x := (List.getElem?_eq_some_iff.1 hx).2
  have hx2 := lx.2
  refine vcond_t (by rw [show (2 : Int) = Int.ofNat 2 from rfl, ltI_nat]; exact blt_t hk) (isNat_i (LT.rd (k := k) (by simpa using hk) ?_))
  rw [hxk]
  have Ag : AccI 3 g base ad nd cd ds := A.keep (fun o ho e => N0.get o ho (hda o 0 e).1 (hda o 0 e).2) N0.nx
  obtain ⟨cc', e110, app⟩ := ct110 hO Ag hdl
  obtain ⟨h113, e113, K113, A113⟩ := app x
  refine ⟨_, _, _, g, e110, ?_⟩
  intro g109
  refine ⟨_, _, _, h113, e113, ?_⟩
  have hb := B.bn
  have aw1 : Aw b a3 (some ⟨g.nx + 1, 0, none⟩) := fun q off e => by
    injection e with e; injection e with e _
    refine ⟨by omega, fun e2 => ?_⟩
    have := (B.L.lt _ e2).2; omega
  obtain ⟨v, h120, e120, ax, nx', cx, rfl, X120, a4, n4, c4, B120, N120, A120⟩ := IH hD (by simp; omega) hll (B.kp K113) A113 aw1
  rw [← hs] at e120 X120 B120
  have sok := searchF_ok D hN d (left := left1) hD
  rw [← hs] at sok
  refine ⟨_, _, _, _, _, _, h120, e120, ?_⟩
  intro g121
  have B0gd : ∀ q ∈ h120.gd, q < h.nx := fun q hq => by
    rw [N120.gd, K113.gd, N0.gd] at hq; exact B0.ok.gd q hq
  have n120 : g.nx ≤ h120.nx := Nat.le_trans K113.nx N120.nx
  have gf : g121.guarded h120.nx = false := guarded_of fun q hq => by have := B0gd q hq; omega
  have gs121 : g121.get h120.nx = some (.cells [U 0, U 0] 102 .fix) := get_add_same ..
  refine vreq_t (canW_t gs121 (by decide) gf (by simp) rfl) ?_
  intro g122
  have K122 : Kp h120.nx h120 g122 := ((Kp.refl _ _).add (Nat.le_refl _) _).wr (Nat.le_refl _) _ _
  have B122 := B120.kp K122
  have H122 : g122.get h120.nx = some (.cells [U s.y, U s.m] 102 .fix) := wr_get gs121 (by decide) gf (by simp) rfl
  have keep : ∀ o, o < g.nx → o ≠ b → a3 ≠ some ⟨o, 0, none⟩ → g122.get o = g.get o := fun o ho h1 h2 => by
    rw [K122.get o (by omega), N120.get o (Nat.lt_of_lt_of_le ho K113.nx) h1 h2, K113.get o ho]
  have N122 : Nx b a3 g a4 g122 := ((Nx.of K113).trans N120).trans (.of K122)
  have NH : Nx b a2 h a4 g122 := N0.trans N122
  have hRb : h.nx ≠ b := by have := B0.bn; omega
  have HR : g122.get h.nx = some (.cells [U p, U q] 102 .fix) := by rw [keep _ hRg hRb (B.nefix H)]; exact H
  have X122 : IntsAt g122 ax nx' s.c := X120.up EInt.up K122
  rw [List.append_assoc] at B122
  have rd : readAt g122 h120.nx 0 2 = some [U s.y, U s.m] := by rw [readAt_get H122 (by simp)]; rfl
  obtain ⟨x1, x2, x3, x4, x5⟩ := exit117 B0 B122 NH HR (y := s.y) (m := s.m) X122
  refine vcond_split (fun h1 => ?_) fun h1 => ?_
  · have hr := exitR (.inl fun e => by rw [e] at h1; cases h1)
    refine ⟨_, _, rd, vreq_t x1 ?_⟩
    exact ⟨_, _, x2, by rw [hr]; exact ⟨_, _, _, rfl, x5, _, _, _, x3, x4, A120⟩⟩
  · have h1 : s.how = 1 := eq_of_t (by simpa using h1)
    rw [show wrapF .i64 (0 - x) = -x by rw [wrap64 (by omega) (by omega)]; omega]
    refine ⟨_, g122, ct62 hO (-x) X122 (by omega), ?_⟩
    refine vcond_split (fun h2 => ?_) fun h2 => ?_
    · have hr := exitR (.inr (by simpa using h2))
      refine ⟨_, _, rd, vreq_t x1 ?_⟩
      exact ⟨_, _, x2, by rw [hr]; exact ⟨_, _, _, rfl, x5, _, _, _, x3, x4, A120⟩⟩
    · have hmem : -x ∈ s.c := by simpa using h2
      have hpos : 0 < nx' := by rw [X122.1]; exact List.length_pos_of_mem hmem
      intro g135
      have K135 : Kp g122.nx g122 g135 := (Kp.refl _ _).add (Nat.le_refl _) _
      have g135nx : g135.nx = g122.nx + 1 := nx_add ..
      have B135 := B122.kp K135
      have abl : ∀ o, ab = some ⟨o, 0, none⟩ → o < g.nx := fun o e => (AB.lt e).2
      have g122nx : h120.nx + 1 = g122.nx := by rw [show g122.nx = g121.nx from nx_wr ..]; rfl
      have AB135 : Acc g135 0 32 1 ab nb cb vs := AB.keep (fun o ho e => by rw [K135.get o (by omega), keep o ho (hab o 0 e).1 (hab o 0 e).2]) (by omega)
      have gab : ∀ o, ab = some ⟨o, 0, none⟩ → g135.guarded o = false := fun o e => guarded_of fun q hq => by
        rw [K135.gd, K122.gd] at hq
        have := B0gd q hq; have := hbn o e; omega
      obtain ⟨h139, e139, A139, K139⟩ := append_f app28 AB135 (Nat.zero_le _) gab ⟨_, _, _, rfl⟩ (src_get (n := 1) (c := 1) (esz := 1) (off := 0) (read1 (i := 0) (v := .slice ax nx' cx) (get_add_same ..) rfl)) rfl (by omega) (by unfold big; omega)
      refine ⟨_, _, _, h139, e139, ?_⟩
      rw [wrap_succ (by omega)]
      have habg : ∀ o, ab = some ⟨o, 0, none⟩ → ∃ vs, g135.get o = some (.cells vs 32 .grow) ∧ ∀ v ∈ vs, ∃ a n c, v = Value.slice a n c := fun o e => by
        rcases AB135 with ⟨e2, _⟩ | ⟨p, e2, _, _, _, _, hg⟩
        · rw [e2] at e; cases e
        · have e3 : o = p := congrArg Addr.block (Option.some.inj (e.symm.trans e2))
          exact ⟨vs, by rw [e3]; exact hg, hvs⟩
      have hab4 : Aw b a4 ab := N122.aw hab fun q off e => by
        rcases AB with ⟨e2, _⟩ | ⟨p, e2, _, _, _, h5, _⟩
        · rw [e2] at e; cases e
        · have e3 : q = p := congrArg Addr.block (Option.some.inj (e.symm.trans e2))
          omega
      have NH135 : Nx b a2 h a4 g135 := NH.trans (.of K135)
      obtain ⟨Bf, Nf⟩ := Bs.app B0 B135 NH135 K139 (fun o e => Nat.le_of_lt (hbn o e)) hab4 habg
      have X135 : IntsAt g135 ax nx' s.c := X122.up EInt.up K135
      have awo : Aw b a4 (some ⟨g135.nx, 0, none⟩) := fun q off e => by
        injection e with e; injection e with e _
        have := B135.bn
        refine ⟨by omega, fun e2 => ?_⟩
        have := (B135.L.lt _ e2).2; omega
      have f139 := K139.nx
      refine next h1 hmem h139 a4 n4 c4 ax nx' cx g135.nx Bf Nf (by omega) (fun o ho u1 u2 u3 => ?_) A139 (by omega) awo (ints_app K139 habg X135 (.inr hpos)) A120 fun ay ny ys Y ya yp => ?_
      · rw [K139.get o (by omega) u3, K135.get o (by omega), keep o ho u1 u2]
      · have Y122 := N122.ints Y ya
        exact ⟨ints_app K139 habg (Y122.up EInt.up K135) (.inr yp), N122.aw ya (SlAt.lt Y)⟩
end
end Go.Proofs.YtfgfhplgnfbaaaaDoor
