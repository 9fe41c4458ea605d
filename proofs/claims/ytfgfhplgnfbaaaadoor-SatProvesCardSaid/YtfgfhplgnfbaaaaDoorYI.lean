/- SatProves: the reference's search. -/
import Derived.Test.YtfgfhplgnfbaaaaDoorYH
import Derived.Test.YtfgfhplgnfbaaaaDoorYF
namespace Go.Proofs.YtfgfhplgnfbaaaaDoor
set_option maxRecDepth 100000
open Go Go.Ev
section
variable {N : Nat} (hN : N ≤ 30) {cls : List (List Int)} (hc : ∀ l ∈ cls, Cv (Int.ofNat N) l) {gs : List Int} (hg : Lv (Int.ofNat N) gs)
include hN hc hg
theorem dcs_lt {ds : List Int} (D : Dcs N cls gs ds) : ∀ x ∈ gs ++ ds, Lit x ∧ x.natAbs < N + 1 := fun x hx => by
  have _ := hN; have _ := hc
  rcases List.mem_append.1 hx with h | h
  · have := hg x h; exact ⟨this.1, by have := this.2; simp only [Int.ofNat_eq_natCast] at this; omega⟩
  · have := D.cv.2 x h; exact ⟨this.1, by have := this.2; simp only [Int.ofNat_eq_natCast] at this; omega⟩
theorem cls_lt : ∀ l ∈ cls, (∀ x ∈ l, Lit x ∧ x.natAbs < N + 1) ∧ Dif l := fun l hl => by
  have _ := hN; have _ := hg
  exact ⟨fun x hx => by have := (hc l hl).2 x hx; exact ⟨this.1, by have := this.2; simp only [Int.ofNat_eq_natCast] at this; omega⟩, (hc l hl).1⟩
/-- The decisions below a node. -/
theorem child {ds : List Int} (D : Dcs N cls gs ds) (hq : (propR N cls (gs ++ ds)).2 = true) (ho : openV (propR N cls (gs ++ ds)).1 N 1 ≤ N) :
    Dcs N cls gs (ds ++ [-((openV (propR N cls (gs ++ ds)).1 N 1 : Nat) : Int)]) ∧ Dcs N cls gs (ds ++ [((openV (propR N cls (gs ++ ds)).1 N 1 : Nat) : Int)]) := by
  obtain ⟨pe, pt⟩ := prop_same (cls := cls) (xs := gs ++ ds) hN (cls_lt hN hc hg) (dcs_lt hN hc hg D)
  have hq2 : (fromN (cls.map sideN) (gs ++ ds)).2 = true := pe.trans hq
  have hb := bit_open (pt hq)
  generalize (propR N cls (gs ++ ds)).1 = ts at hb ho ⊢
  have hf : freeM N (fromN (cls.map sideN) (gs ++ ds)).1.1 (fromN (cls.map sideN) (gs ++ ds)).1.2 ≠ 0 := fun hf => by
    have hall : openV ts N 1 = 1 + N := openV_all N 1 fun i h1 h2 => by
      have h3 := freeM_bit (N := N) (y := (fromN (cls.map sideN) (gs ++ ds)).1.1) (m := (fromN (cls.map sideN) (gs ++ ds)).1.2) (i := i - 1)
      rw [hf, Nat.zero_testBit, hb, decide_eq_true (by omega), Bool.true_and, show i - 1 + 1 = i by omega] at h3
      have h4 : decide (ts.getD i 0 ≠ 0) = true := by simpa using h3.symm
      exact of_decide_eq_true h4
    omega
  obtain ⟨b1, b2⟩ := lowF_bit hf (freeM_lt hN)
  obtain ⟨k1, k2, k3⟩ := low_der hN hc hg D hq2 rfl hf
  have dc := (dec_ok hN hc hg).2 ds D hq2 hf
  generalize hk : lowF (freeM N (fromN (cls.map sideN) (gs ++ ds)).1.1 (fromN (cls.map sideN) (gs ++ ds)).1.2) = k at b1 b2 k1 k2 k3 dc
  have hopen : openV ts N 1 = k + 1 := openV_eq N 1 (by omega) (by omega) (fun i h1 h2 => by
      have h3 := b2 (i - 1) (by omega)
      rw [freeM_bit, hb, decide_eq_true (by omega), Bool.true_and, show i - 1 + 1 = i by omega] at h3
      have h4 : decide (ts.getD i 0 ≠ 0) = true := by simpa using h3
      exact of_decide_eq_true h4) (by
      rw [freeM_bit, hb, Bool.and_eq_true] at b1
      have h4 : decide (ts.getD (k + 1) 0 ≠ 0) = false := by simpa using b1.2
      have := of_decide_eq_false h4
      exact Classical.byContradiction fun h => this h)
  rw [hopen]
  exact dc
theorem refS_len : ∀ (d : Nat) {ds : List Int} {L : Int}, Dcs N cls gs ds → N + 1 ≤ ds.length + d → (refS N cls gs d ds L).model = [] ∨ (refS N cls gs d ds L).model.length = N + 1 := by
  intro d
  induction d with
  | zero => intro ds L D hd; have := D.len; omega
  | succ d ih =>
    intro ds L D hd
    rw [refS]
    split
    · exact .inl rfl
    split
    · exact .inl rfl
    rename_i hq
    have hq1 : (propR N cls (gs ++ ds)).2 = true := by simpa using hq
    split
    · exact .inr ((propR_ok hN (cls_lt hN hc hg) (dcs_lt hN hc hg D)).1 hq1).2.2.1
    rename_i ho
    obtain ⟨D1, D2⟩ := child hN hc hg D hq1 (by omega)
    dsimp only
    split
    · exact ih D1 (by rw [List.length_append]; simp; omega)
    · exact ih D2 (by rw [List.length_append]; simp; omega)
end
/-- What the reference's search returns. -/
def Q125 (g : Hp) (R : Rt) : Value → Hp → Prop := fun v h' => ∃ am nm cm al nl cl own, v = .agg #[.slice am nm cm, .int .i64 R.left, .slice al nl cl] ∧ nl = R.ln ∧ Know g h' [clo own (fun h => IntsAt h am nm R.model), lns al nl cl]
theorem Know.noLines {h0 g : Hp} {L : List Rs} (S : Know h0 g L) : Know h0 g (lns none 0 0 :: L) :=
  S.push (Kp.refl _ g) (lns.loc _ _ _) (.inl ⟨rfl, rfl, rfl⟩) fun b hb => by cases hb
theorem Know.noList {h0 g : Hp} {L : List Rs} (S : Know h0 g L) : Know h0 g (clo (fun _ => False) (fun h => IntsAt h none 0 []) :: L) :=
  S.push (Kp.refl _ g) (clo.loc _ _) (fun _ _ _ => SlAt.nil ..) fun b hb => hb.elim
theorem Know.rowLines {h0 g : Hp} {L : List Rs} (S : Know h0 g L) (i : Nat) {b : Nat} {v : Value} (hi : L[i]? = some (ob b (.cells [v] 32 .fix))) (h1 : one v = true) : Know h0 g (L.set i (lns (some ⟨b, 0, none⟩) 1 1)) :=
  S.upd i hi (Ch.refl _ g) (lns.loc _ _ _) (.inr ⟨b, [v], rfl, rfl, by rw [List.all_cons, h1]; rfl, (S.orng i hi).2, .inl ⟨rfl, S.obj i hi⟩⟩) fun q hq => .inl (by injection hq with hq; injection hq with hq; exact hq.symm)
section
variable {O : CallF} (hO : Oth O)
include hO
set_option maxHeartbeats 1000000 in
theorem ct125 {N : Nat} (hN : N ≤ 30) {cls : List (List Int)} (hcl : cls.length ≤ 120) (hc : ∀ l ∈ cls, Cv (Int.ofNat N) l) {gs : List Int} (hg : Lv (Int.ofNat N) gs) (hgl : gs.length ≤ 1000) :
    ∀ (d : Nat) {h : Hp} (_ : h.Ok) {aF aG a2 : Option Addr} {nF cF nG cG n2 c2 : Nat} {ds : List Int} {L : Int} (_ : IntssAt h aF nF cls) (_ : IntsAt h aG nG gs) (_ : IntsAt h a2 n2 ds) (_ : Dcs N cls gs ds) (_ : N + 1 ≤ ds.length + d) (_ : 0 ≤ L) (_ : L ≤ 2000),
      Ret Tryd.prog O 125 [Fm (Int.ofNat N) aF nF cF, .slice aG nG cG, .slice a2 n2 c2, .int .i64 L] h (Q125 h (refS N cls gs d ds L)) := by
  intro d
  induction d with
  | zero => intro h _ aF aG a2 nF cF nG cG n2 c2 ds L _ _ _ D hd; have := D.len; omega
  | succ d ih =>
    intro h ok aF aG a2 nF cF nG cG n2 c2 ds L F G X D hd hL0 hL
    have hdl := D.len
    have hn2 := X.1
    have hnG := G.1
    have llen : ∀ l ∈ cls, l.length < 1000000 := fun l hl => by have := cv_len (hc l hl); omega
    have i1v : ∀ (l : List Int), (iv l).all one = true := fun l => List.all_eq_true.2 fun y hy => by obtain ⟨_, _, rfl⟩ := List.mem_map.1 hy; rfl
    refine rk125 (hO := hO _ _ _ (by decide)) (hh := ?_) ..
    unfold T125
    rw [refS]
    intro g1
    have S : Know h g1 [_] := (Know.nil ok).add _
    intro g2
    have S : Know h g2 [_, _] := S.add _
    refine vcond_split (fun h1 => ?_) fun h1 => ?_
    · rw [if_pos (lt_of_t h1)]
      refine vreq_t (S.cw 0 rfl (by decide) rfl rfl) ?_
      intro g3
      have S : Know h g3 [_, _] := S.wr 0 rfl (by decide) rfl rfl
      have S2 : Know h g3 [_, _, _] := Know.noLines S
      have S2 : Know h g3 [_, _, _, _] := Know.noList S2
      exact ⟨_, _, _, _, _, _, _, S.rd 0 rfl rfl rfl, _, _, _, _, _, _, _, rfl, rfl, S2.sel [0, 1] (by decide) rfl⟩
    have h1 := not_lt_of_f h1
    rw [if_neg h1]
    have hlit : ∀ x ∈ ds, Lit x := fun x hx => (D.cv.2 x hx).1
    have f2 := S.ft
    obtain ⟨v, h14, e14, a11, n12, c13, rfl, _, k14, _⟩ := ct102 hO S.ok (X.to g2) (by omega) hlit (c0 := c2)
    refine ⟨_, _, _, _, e14, ?_⟩
    have S : Know h h14 [_, _] := S.call k14
    intro g15
    have S : Know h g15 [_, _, _] := S.add _
    intro g16
    have S : Know h g16 [_, _, _, _] := S.rsvK 15
    refine ⟨_, S.rd 3 rfl rfl rfl, _, _, _, S.rd 3 rfl rfl rfl, vreq_t (S.fre 0 rfl (by omega) (by omega) (by simp)) ?_⟩
    intro g21
    have S : Know h g21 [_, _, _, _, _] := S.lay 0 rfl (by omega) (by omega) (by simp) _
    have hlo := S.lo
    have n14 : h.nx + 2 ≤ h14.nx := by have := k14.nx; show h.nx + 2 ≤ _; exact this
    have n15 : g15.nx = h14.nx + 1 := rfl
    have n21 : g21.nx = h14.nx + 1 + 15 := rfl
    have S : Know h g21 [acc (h.nx + 1) 3 1 (some ⟨g15.nx + 4, 0, none⟩) 0 0 [], _, _, _, _] := S.acc0 0 rfl (h.nx + 1) (by omega) 3 1
    have f21 := S.ft
    obtain ⟨a22, n23, c24, h25, e25, en, S⟩ := S.appg 0 rfl (by omega) (by omega) app32' (l := [h.nx, h.nx]) (fun q hq => by simp at hq; omega) (x := .slice aG nG cG) (ys := iv gs) (k := nG) ⟨_, _, _, rfl⟩ (IntsAt.src (G.to g21)) (by rw [List.length_map]; omega) (i1v gs) (by omega) (by unfold big; omega)
    refine ⟨_, _, _, _, e25, ?_⟩
    intro g26
    have S : Know h g26 [acc (h.nx + 1) 3 1 a22 n23 c24 (iv gs), _, _, _, _] := S
    have f26 := S.ft
    have n26 : h.nx + 1 ≤ g26.nx := Nat.le_trans (by omega) (S.orng 2 rfl).2
    obtain ⟨a27, n28, c29, h30, e30, en2, S⟩ := S.appg 0 rfl (by omega) n26 app32' (l := [h.nx, h.nx]) (fun q hq => by simp at hq; omega) (x := .slice a2 n2 c2) (ys := iv ds) (k := n2) ⟨_, _, _, rfl⟩ (IntsAt.src (X.to g26)) (by rw [List.length_map]; omega) (i1v ds) (by omega) (by unfold big; omega)
    refine ⟨_, _, _, _, e30, ?_⟩
    intro g31
    have eapp : iv gs ++ iv ds = iv (gs ++ ds) := List.map_append.symm
    have S : Know h g31 [acc (h.nx + 1) 3 1 a27 n28 c29 (iv gs ++ iv ds), _, _, _, _] := S
    rw [eapp] at S
    have f31 : Ft h (g31.grd []) := S.ftg []
    have XX : IntsAt g31 a27 n28 (gs ++ ds) := AccE.ints (S.get 0 rfl)
    have hxx := dcs_lt hN hc hg D
    have hcd := cls_lt hN hc hg
    obtain ⟨v, h36, e36, a32, n33, c34, rfl, k36, hts⟩ := ct92 hO (h := g31.grd []) (S.okg (l := []) fun _ h => by cases h) (F.to _) (by omega) llen hN (fun l hl => (hcd l hl).1) XX (by rw [List.length_append]; omega) hxx (c := cF) (c2 := c29)
    refine ⟨_, _, _, _, _, e36, ?_⟩
    intro g37
    have S31 := S
    have S : Know h g37 [_, _, _, _, _] := S.callg (l := []) k36
    have eL : wrapF .i64 (L - 1) = L - 1 := wrap64 (by omega) (by omega)
    rw [eL]
    cases hq : (propR N cls (gs ++ ds)).2 with
    | false =>
      rw [if_pos rfl]
      refine vcond_t rfl (vreq_t (S.cw 3 rfl (by decide) rfl rfl) ?_)
      intro g38
      have S : Know h g38 [_, _, _, _, _] := S.wr 3 rfl (by decide) rfl rfl
      have S2 : Know h g38 [_, _, _, _, _] := Know.rowLines S 2 rfl rfl
      have S2 : Know h g38 [_, _, _, _, _, _] := Know.noList S2
      exact ⟨_, _, _, _, _, _, _, S.rd 3 rfl rfl rfl, _, _, _, _, _, _, _, rfl, rfl, S2.sel [0, 3] (by decide) rfl⟩
    | true =>
      rw [if_neg (by decide)]
      refine vcond_f rfl ?_
      obtain ⟨bT, ha32, hbT, hT, hn33⟩ := hts hq
      subst ha32
      obtain ⟨tv, tlen⟩ : TV (propR N cls (gs ++ ds)).1 ∧ (propR N cls (gs ++ ds)).1.length = N + 1 := by
        have := (propR_ok hN hcd hxx).1 hq
        exact ⟨this.2.2.2, this.2.2.1⟩
      have hchild := child hN hc hg D hq
      generalize (propR N cls (gs ++ ds)).1 = ts at hT hn33 tv tlen hchild ⊢
      subst hn33
      have k37 : Kp g31.nx g31 g37 := ⟨k36.get, k36.nx, rfl, fun f => k36.fr f⟩
      have S : Know h g37 [_, _, _, _, _, _] := Know.list S31 k37 (TsAt.ints (ts := ts) ⟨hT.1, hT.2⟩) fun b off e => by injection e with e; injection e with e; rw [← e]; exact hbT
      have S : Know h g37 [clo (fun o => ∃ off, (some ⟨bT, 0, none⟩ : Option Addr) = some ⟨o, off, none⟩) (fun h => IntsAt h (some ⟨bT, 0, none⟩) ts.length ts), ob h14.nx (.cells [.slice a11 n12 c13] 32 .fix), ob g1.nx (.cells [.slice none 0 0, .int .i64 0, .slice none 0 0] 143 .fix), ob h.nx (.cells [.int .i64 (Int.ofNat N), .slice aF nF cF] 30 .fix)] := S.sel [0, 3, 4, 5] (by decide) rfl
      clear S31
      obtain ⟨R, hR⟩ : ∃ R, R = (if N < openV ts N 1 then (⟨ts, L - 1, 0⟩ : Rt) else
        let v : Int := (openV ts N 1 : Nat)
        let one := refS N cls gs d (ds ++ [-v]) (L - 1)
        if one.left < 0 ∨ one.model ≠ [] then one
        else
          let two := refS N cls gs d (ds ++ [v]) one.left
          ⟨two.model, two.left, one.ln + two.ln + 1⟩) := ⟨_, rfl⟩
      have loop : ∀ (e v : Nat), v + e = N + 1 → 1 ≤ v → (∀ i, 1 ≤ i → i < v → ts.getD i 0 ≠ 0) → I125_0 O (Q125 h R) (Int.ofNat N) aF nF cF aG nG cG a2 n2 c2 L h.nx 0 g1.nx 0 (some ⟨h14.nx, 0, none⟩) 1 1 (some ⟨bT, 0, none⟩) ts.length c34 (Int.ofNat v) g37 := by
        intro e
        induction e with
        | zero =>
          intro v hv _ hall
          have hopen : openV ts N 1 = 1 + N := openV_all N 1 fun i a b => hall i a (by omega)
          rw [if_pos (by omega)] at hR
          subst hR
          refine I125_0.of (hh := ?_) ..
          unfold T125_0
          refine ⟨_, S.rd 3 rfl rfl rfl, vcond_f (by rw [ltI_nat, blt_t (by omega)]; rfl) ⟨_, S.rd 3 rfl rfl rfl, vcond_t (by rw [ltI_nat]; exact blt_t (by omega)) (vreq_t (S.cw 2 rfl (by decide) rfl rfl) ?_)⟩⟩
          rw [eL]
          intro g225
          have S : Know h g225 [_, _, _, _] := S.wr 2 rfl (by decide) rfl rfl
          have S2 : Know h g225 [_, _, _, _, _] := Know.noLines S
          exact ⟨_, _, _, _, _, _, _, S.rd 2 rfl rfl rfl, _, _, _, _, _, _, _, rfl, rfl, S2.sel [1, 0] (by decide) rfl⟩
        | succ e ihe =>
          intro v hv h1v hall
          refine I125_0.of (hh := ?_) ..
          unfold T125_0
          have hvl : v < ts.length := by omega
          have XT : IntsAt g37 (some ⟨bT, 0, none⟩) ts.length ts := clo.get (S.get 0 rfl)
          refine ⟨_, S.rd 3 rfl rfl rfl, vcond_t (by rw [ltI_nat, blt_f (by omega)]; rfl) (isNat_i (IntsAt.rd (g := g37) (h := g37) XT hvl (vcond_split (fun h2 => ?_) fun h2 => ?_)))⟩
          · rw [wrap_succ (by omega)]
            refine ihe (v + 1) (by omega) (by omega) fun i a b => ?_
            by_cases hi : i = v
            · subst hi
              rw [List.getD_eq_getElem?_getD, List.getElem?_eq_getElem hvl]
              have := ne_of_f (a := ts[i]) (b := 0) (by simpa using h2)
              exact this
            · exact hall i a (by omega)
          · have hz : ts.getD v 0 = 0 := by
              rw [List.getD_eq_getElem?_getD, List.getElem?_eq_getElem hvl]
              exact eq_of_t (by simpa using h2)
            have hopen : openV ts N 1 = v := openV_eq N 1 h1v (by omega) hall hz
            have hch := hchild (by omega)
            rw [hopen] at hch hR
            rw [if_neg (by omega)] at hR
            obtain ⟨D1, D2⟩ := hch
            dsimp only at hR
            have l1 : N + 1 ≤ (ds ++ [-(v : Int)]).length + d := by rw [List.length_append]; simp; omega
            have l2 : N + 1 ≤ (ds ++ [(v : Int)]).length + d := by rw [List.length_append]; simp; omega
            refine ⟨_, S.rd 3 rfl rfl rfl, vcond_f (by rw [ltI_nat]; exact blt_f (by omega)) ?_⟩
            intro g115
            have S : Know h g115 [_, _, _, _, _] := S.rsvK 11
            refine ⟨_, _, _, _, S.rd 4 rfl rfl rfl, ?_⟩
            have f115 : Ft h (g115.grd [h.nx]) := S.ftg _
            have lF := (S.orng 4 rfl).2
            obtain ⟨v1, h123, e123, a120, n121, c122, rfl, T⟩ := ct139 hO (S.okg (l := [h.nx]) fun q hq => by rw [List.mem_singleton.1 hq]; exact lF) (X.to _) (by omega) (wrapF .i64 (0 - Int.ofNat v)) (c0 := c2)
            have ev : wrapF .i64 (0 - Int.ofNat v) = -(v : Int) := by
              have : Int.ofNat v = (v : Int) := rfl
              rw [this, wrap64 (by omega) (by omega)]; omega
            rw [ev] at T
            refine ⟨_, _, _, _, e123, ?_⟩
            intro g124
            have S : Know h g124 [_, _, _, _, _, _] := S.compg T
            have f124 : Ft h (g124.grd []) := S.ftg []
            rw [eL]
            obtain ⟨v2, h132, e132, am1, nm1, cm1, al1, nl1, cl1, own1, rfl, en1, T⟩ := ih (h := g124.grd []) (S.okg (l := []) fun _ h => by cases h) (F.to _) (G.to _) (AccE.ints (S.get 0 rfl)) D1 l1 (L := L - 1) (by omega) (by omega) (cF := cF) (cG := cG) (c2 := c122)
            have rl1 := refS_left hN hc hg d (ds ++ [-(v : Int)]) (L - 1) (by omega)
            generalize refS N cls gs d (ds ++ [-(v : Int)]) (L - 1) = one at hR en1 T e132 rl1
            refine ⟨_, _, _, _, _, _, _, _, e132, ?_⟩
            intro g133
            have S : Know h g133 [clo own1 (fun h => IntsAt h am1 nm1 one.model), lns al1 nl1 cl1, _, _, _, _, _, _] := S.compg T
            refine vreq_t (S.fre 3 rfl (by omega) (by omega) (by simp)) ?_
            intro g134
            have S : Know h g134 [_, _, _, _, _, _, _, _, _] := S.lay 3 rfl (by omega) (by omega) (by simp) _
            refine vreq_t (S.cwg 0 rfl (fun _ h => by cases h) (by decide) rfl rfl) ?_
            intro g135 g136
            have S : Know h g136 [_, _, _, _, _, _, _, _, _] := S.wrg 0 rfl (l := []) (fun _ h => by cases h) (by decide) rfl rfl
            have hm1 : nm1 = one.model.length := (clo.get (S.get 1 rfl) : IntsAt g136 am1 nm1 one.model).1
            refine ⟨_, S.rd 0 rfl rfl rfl, vcond_split (fun h3 => ?_) fun h3 => ?_⟩
            · rw [if_pos (.inl (lt_of_t h3))] at hR
              subst hR
              refine ⟨_, _, _, _, _, _, _, S.rd 0 rfl rfl rfl, vreq_t (S.cw 7 rfl (by decide) rfl rfl) ?_⟩
              intro g145
              have S : Know h g145 [_, _, _, _, _, _, _, _, _] := S.wr 7 rfl (by decide) rfl rfl
              exact ⟨_, _, _, _, _, _, _, S.rd 7 rfl rfl rfl, _, _, _, _, _, _, _, rfl, en1, S.sel [1, 2] (by decide) rfl⟩
            have h3 := not_lt_of_f h3
            refine ⟨_, _, _, S.rd 0 rfl rfl rfl, vcond_split (fun h4 => ?_) fun h4 => ?_⟩
            · have h4 := lt_of_t h4
              have hne : one.model ≠ [] := fun hh => by
                rw [hm1, hh] at h4
                exact absurd h4 (by decide)
              rw [if_pos (.inr hne)] at hR
              subst hR
              refine ⟨_, _, _, _, _, _, _, S.rd 0 rfl rfl rfl, vreq_t (S.cw 7 rfl (by decide) rfl rfl) ?_⟩
              intro g163
              have S : Know h g163 [_, _, _, _, _, _, _, _, _] := S.wr 7 rfl (by decide) rfl rfl
              exact ⟨_, _, _, _, _, _, _, S.rd 7 rfl rfl rfl, _, _, _, _, _, _, _, rfl, en1, S.sel [1, 2] (by decide) rfl⟩
            have h4 := not_lt_of_f h4
            have hnil : one.model = [] := by
              have : nm1 = 0 := by simp only [Int.ofNat_eq_natCast] at h4; omega
              exact List.length_eq_zero_iff.1 (hm1.symm.trans this)
            rw [if_neg (by rintro (h | h); exact h3 h; exact h hnil)] at hR
            intro g171
            have S : Know h g171 [_, _, _, _, _, _, _, _, _, _] := S.rsvK 10
            refine ⟨_, _, _, _, S.rd 9 rfl rfl rfl, _, S.rd 1 rfl rfl rfl, ?_⟩
            have f171 : Ft h (g171.grd [g37.nx + 9, h.nx]) := S.ftg _
            have lF2 := (S.orng 9 rfl).2
            have lO := (S.orng 1 rfl).2
            have lO2 : g37.nx + 9 < g171.nx := lO
            obtain ⟨v3, h180, e180, a177, n178, c179, rfl, T⟩ := ct139 hO (S.okg (l := [g37.nx + 9, h.nx]) fun q hq => by simp at hq; omega) (X.to _) (by omega) (Int.ofNat v) (c0 := c2)
            refine ⟨_, _, _, _, e180, ?_⟩
            intro g181
            have S : Know h g181 [_, _, _, _, _, _, _, _, _, _, _] := S.compg T
            have f181 : Ft h (g181.grd []) := S.ftg []
            obtain ⟨v4, h189, e189, am2, nm2, cm2, al2, nl2, cl2, own2, rfl, en2', T⟩ := ih (h := g181.grd []) (S.okg (l := []) fun _ h => by cases h) (F.to _) (G.to _) (AccE.ints (S.get 0 rfl)) D2 l2 (L := one.left) (by omega) (by omega) (cF := cF) (cG := cG) (c2 := c179)
            have rl2 := refS_left hN hc hg d (ds ++ [(v : Int)]) one.left (by omega)
            generalize refS N cls gs d (ds ++ [(v : Int)]) one.left = two at hR en2' T e189 rl2
            refine ⟨_, _, _, _, _, _, _, _, e189, ?_⟩
            intro g190
            have S : Know h g190 [clo own2 (fun h => IntsAt h am2 nm2 two.model), lns al2 nl2 cl2, _, _, _, _, _, _, _, _, _, _, _] := S.compg T
            refine vreq_t (S.fre 3 rfl (by omega) (by omega) (by simp)) ?_
            intro g191
            have S : Know h g191 [_, _, _, _, _, _, _, _, _, _, _, _, _, _] := S.lay 3 rfl (by omega) (by omega) (by simp) _
            refine vreq_t (S.cwg 0 rfl (fun _ h => by cases h) (by decide) rfl rfl) ?_
            intro g192 g193
            have S : Know h g193 [_, _, _, _, _, _, _, _, _, _, _, _, _, _] := S.wrg 0 rfl (l := []) (fun _ h => by cases h) (by decide) rfl rfl
            refine ⟨_, _, _, S.rd 5 rfl rfl rfl, _, _, _, S.rd 0 rfl rfl rfl, ?_⟩
            obtain ⟨cs2, hs2, hc2, ho2⟩ := Lw.src (S.get 2 rfl)
            obtain ⟨a200, n201, c202, h203, e203, en3, S⟩ := Know.appL S 7 rfl ⟨_, _, _, rfl⟩ hs2 hc2 ho2 (by omega)
            have S : Know h h203 [_, _, _, _, _, _, _, _, _, _, _, _, _, _] := S
            refine ⟨_, _, _, _, e203, ?_⟩
            obtain ⟨a204, n205, c206, h207, e207, en4, S⟩ := Know.appL S 7 rfl (x := .slice (some ⟨h14.nx, 0, none⟩) 1 1) (ys := [.slice a11 n12 c13]) (k := 1) ⟨_, _, _, rfl⟩ (src_get (n := 1) (c := 1) (esz := 1) (off := 0) (S.rd 11 rfl rfl rfl)) rfl rfl (by omega)
            have S : Know h h207 [_, _, _, _, _, _, _, _, _, _, _, _, _, _] := S
            refine ⟨_, _, _, _, e207, vreq_t (S.cw 0 rfl (by decide) rfl rfl) ?_⟩
            intro g208
            have S : Know h g208 [_, _, _, _, _, _, _, _, _, _, _, _, _, _] := S.wr 0 rfl (by decide) rfl rfl
            refine ⟨_, _, _, _, _, _, _, S.rd 0 rfl rfl rfl, vreq_t (S.cw 12 rfl (by decide) rfl rfl) ?_⟩
            intro g216
            have S : Know h g216 [_, _, _, _, _, _, _, _, _, _, _, _, _, _] := S.wr 12 rfl (by decide) rfl rfl
            subst hR
            exact ⟨_, _, _, _, _, _, _, S.rd 12 rfl rfl rfl, _, _, _, _, _, _, _, rfl, by show n205 = one.ln + two.ln + 1; omega, S.sel [1, 7] (by decide) rfl⟩
      have := loop N 1 (by omega) (Nat.le_refl _) fun i a b => by omega
      rw [hR] at this
      exact this
end
end Go.Proofs.YtfgfhplgnfbaaaaDoor
/- Contract of layer 20's reference: a proof is accepted, or not. -/
namespace Go.Proofs.YtfgfhplgnfbaaaaDoor
open Go Go.Ev
section
variable {O : CallF} (hO : Oth O)
include hO
theorem lp42_1 {a a1 a2 : Option Addr} {n c n1 c1 n2 c2 : Nat} {vars : Nat} {hb : Hp} {cls : List (List Int)} {gs : List Int} {pf : List (List Int)} (ok : hb.Ok) (H : IntssAt hb a n cls) (hl : cls.length < 1000) (hll : ∀ l ∈ cls, l.length < 1000) (hv : vars ≤ 30) (hcl : ∀ l ∈ cls, clB vars 0 l = true) (G : IntsAt hb a1 n1 gs) (hgl : gs.length < 1000) (hg : clB vars 0 gs = true) (F : IntssAt hb a2 n2 pf) (hfl : pf.length < 10000) (hfll : ∀ l ∈ pf, l.length < 50) (hfc : ∀ l ∈ pf, clB vars 0 l = true) (hcut : ∀ (g : Hp) (k : Nat), Kp hb.nx hb g → k ≤ n2 → 0 < n2 → ∃ c', sliceV Tryd.prog g 28 (.slice a2 n2 c2) none (some (.int .i64 (Int.ofNat k))) none = some (.slice a2 k c'))
    {b3 : Nat} (hb3 : b3 < hb.nx) (gb : hb.get b3 = some (.cells [.int .i64 (Int.ofNat vars), .slice a n c] 30 .fix)) {x0 : Int} {a0 : Option Addr} {n0 c0 : Nat} {R : Int × Int} :
    ∀ (d k : Nat), k + d = pf.length → ∀ {h : Hp}, Kp hb.nx hb h → R = outA (accF gs (cls ++ pf.take k) (pf.drop k) k) (endA pf) →
      I42_1 O (fun v h' => v = .tuple #[.int .i64 R.1, .int .i64 R.2] ∧ Kp hb.nx hb h') x0 a0 n0 c0 a1 n1 c1 a2 n2 c2 b3 0 0 0 (Int.ofNat k) h := by
  have hn := F.1
  intro d
  induction d with
  | zero =>
    intro k hk h kp hr
    refine I42_1.of _ _ _ _ _ _ _ _ _ _ _ _ _ _ _ ?_
    intros
    unfold T42_1
    rw [List.drop_of_length_le (by omega)] at hr
    have hr : R = endA pf := hr
    subst hr
    unfold endA
    refine vcond_f (by rw [ltI_nat]; exact blt_f (by omega)) (vcond_split (fun h1 => ?_) fun h1 => ?_)
    · have h1 : n2 = 0 := Int.ofNat.inj (eq_of_t h1)
      rw [if_pos (by omega)]; exact ⟨rfl, kp⟩
    · have h1 : n2 ≠ 0 := fun hh => ne_of_f h1 (by rw [hh]; rfl)
      have e1 : wrapF .i64 (Int.ofNat n2 - 1) = Int.ofNat (pf.length - 1) := by rw [wrap64] <;> simp only [Int.ofNat_eq_natCast] <;> omega
      have hgd : pf.getD (pf.length - 1) [] = pf[pf.length - 1]'(by omega) := by rw [List.getD_eq_getElem?_getD, List.getElem?_eq_getElem (by omega)]; rfl
      rw [e1, if_neg (by omega), hgd]
      refine isNat_of (F.get (k := pf.length - 1) (by omega) fun b' off a' n' c' _ hlt hrd Y => vreq_t (blt_t (by omega)) ⟨_, _, _, by rw [readAt_kp kp hlt]; exact hrd, ?_⟩)
      have hy := Y.1
      refine vcond_split (fun h2 => ?_) fun h2 => ?_
      · have h2 := lt_of_t h2
        simp only [Int.ofNat_eq_natCast] at h2
        rw [if_pos (by omega)]; exact ⟨rfl, kp⟩
      · have h2 := not_lt_of_f h2
        simp only [Int.ofNat_eq_natCast] at h2
        rw [if_neg (by omega)]; exact ⟨rfl, kp⟩
  | succ d ih =>
    intro k hk h kp hr
    refine I42_1.of _ _ _ _ _ _ _ _ _ _ _ _ _ _ _ ?_
    intros
    unfold T42_1
    have e0 : pf.drop k = pf[k] :: pf.drop (k + 1) := List.drop_eq_getElem_cons (by omega)
    rw [e0] at hr
    simp only [accF] at hr
    have hm : pf[k] ∈ pf := List.getElem_mem _
    have hlen := hfll _ hm
    have hlk : ∀ x ∈ pf[k], Lit x := fun x hx => (clB_lit (by decide) (hfc _ hm) x hx).1
    have hdk : Dif pf[k] := clB_dif (by decide) (hfc _ hm)
    have gF : ∀ {x : Hp}, Kp hb.nx hb x → x.get b3 = some (.cells [.int .i64 (Int.ofNat vars), .slice a n c] 30 .fix) := fun K => by rw [K.get _ hb3]; exact gb
    have gd0 : ∀ {x : Hp}, Kp hb.nx hb x → ∀ g : List Nat, (∀ q ∈ g, q < hb.nx) → ∀ q ∈ g ++ x.gd, q < hb.nx := fun K g hg q hq => by
      rcases List.mem_append.1 hq with hq | hq
      · exact hg q hq
      · rw [K.gd] at hq; exact ok.gd q hq
    have F' := F
    rcases F.2 with ⟨h0, _⟩ | ⟨ba, offa, csa, ea, ma, rfl, hba, _⟩
    · have := congrArg List.length h0; simp at this; rw [h0] at hk; simp at hk
    have k9 : Kp hb.nx hb (h.rsv 9) := kp.rsv 9
    have hkn := kp.nx
    obtain ⟨cut, ecut⟩ := hcut (h.rsv 9) k k9 (by omega) (by omega)
    refine vcond_t (by rw [ltI_nat]; exact blt_t (by omega)) ⟨_, _, _, read1 (gF k9) (i := 0 + 1) rfl, _, _, _, ecut, vreq_t (free_t ((ok.kp kp).fr _ (by omega))) ?_⟩
    have kX1 : Kp hb.nx hb ((h.rsv 9).lay (h.nx + 0) (.cells [] 32 .fix)) := k9.lay (by omega) (by rw [nx_rsv]; omega) _
    have Z1 : AccE ((h.rsv 9).lay (h.nx + 0) (.cells [] 32 .fix)) hb.nx 32 1 (some ⟨h.nx + 0, 0, none⟩) 0 0 [] := .inr ⟨rfl, rfl, rfl, _, rfl, by omega, by rw [nx_lay, nx_rsv]; omega, _, _, by rw [get_lay, if_pos rfl]⟩
    generalize (h.rsv 9).lay (h.nx + 0) (.cells [] 32 .fix) = X1 at kX1 Z1 ⊢
    obtain ⟨p1, p2, p3, h210, ws1, e1, Z2, L1, en1, K2, N2, _⟩ := appE_intss (g := [ba]) (c1 := c) (Nat.le_refl hb.nx) kX1 Z1 kX1.nx (gd0 kX1 _ (fun q hq => by simp at hq; omega)) H (by omega)
    refine ⟨p1, p2, p3, h210, e1, ?_⟩
    have kX2 := kX1.trans K2
    have Z2' : AccE (h210.rst X1) hb.nx 32 1 p1 p2 p3 ([] ++ ws1) := Z2.keep (fun _ _ _ => rfl) (Nat.le_refl _)
    generalize h210.rst X1 = X2 at kX2 Z2' ⊢
    obtain ⟨q1, q2, q3, h214, ws2, e2, Z3, L2, en2, K3, N3, _⟩ := appE_intss (g := []) (c1 := cut) (Nat.le_refl hb.nx) kX2 Z2' kX2.nx (gd0 kX2 _ (fun q hq => by cases hq)) (SlAt.take F' k (by omega)) (by rw [en1, List.length_take]; omega)
    refine ⟨q1, q2, q3, h214, e2, ?_⟩
    have kX3 := kX2.trans K3
    have Z3' : AccE (h214.rst X2) hb.nx 32 1 q1 q2 q3 (([] ++ ws1) ++ ws2) := Z3.keep (fun _ _ _ => rfl) (Nat.le_refl _)
    generalize h214.rst X2 = X3 at kX3 Z3' ⊢
    have I3 : IntssAt X3 q1 q2 (cls ++ pf.take k) := AccE.intss Z3' ((L1.app L2).up kX3)
    have k4 : Kp hb.nx hb (X3.rsv 18) := kX3.rsv 18
    have hn3 := kX3.nx
    refine ⟨_, read1 (gF k4) (i := 0 + 0) rfl, isNat_of (IntssAt.get F' (k := k) (by omega) fun b' off a' n' c' hab hlt hrd Y => vreq_t (blt_t (by omega)) ⟨_, _, _, by rw [readAt_kp k4 hlt]; exact hrd, vreq_t (free_t ((ok.kp kX3).fr _ (by omega))) ?_⟩)⟩
    have hb' : b' = ba := (congrArg Addr.block (Option.some.inj hab)).symm
    have kX5 : Kp X3.nx X3 ((X3.rsv 18).lay (X3.nx + 3) (.cells [] 3 .fix)) := ((Kp.refl _ X3).rsv 18).lay (by omega) (by rw [nx_rsv]; omega) _
    have Z5 : AccE ((X3.rsv 18).lay (X3.nx + 3) (.cells [] 3 .fix)) X3.nx 3 1 (some ⟨X3.nx + 3, 0, none⟩) 0 0 (([] : List Int).map (Value.int .i64)) := .inr ⟨rfl, rfl, rfl, _, rfl, by omega, by rw [nx_lay, nx_rsv]; omega, _, _, by rw [get_lay, if_pos rfl]⟩
    generalize (X3.rsv 18).lay (X3.nx + 3) (.cells [] 3 .fix) = X5 at kX5 Z5 ⊢
    have up3 : ∀ {x : Hp}, Kp X3.nx X3 x → Kp hb.nx hb x := fun K => kX3.trans (K.le kX3.nx)
    have gd3 : ∀ {x : Hp}, Kp X3.nx X3 x → ∀ g : List Nat, (∀ q ∈ g, q < hb.nx) → ∀ q ∈ g ++ x.gd, q < X3.nx := fun K g hg q hq => Nat.lt_of_lt_of_le (gd0 (up3 K) g hg q hq) hn3
    obtain ⟨r1, r2, r3, h225, e3, Z6, K6, N6, _⟩ := appE_ints (g := [b', b3]) (c1 := c1) Z5 kX5.nx (gd3 kX5 _ (fun q hq => by simp at hq; omega)) (G.up EInt.up (up3 kX5)) (by simp; omega)
    refine ⟨r1, r2, r3, h225, e3, ?_⟩
    have kX6 := kX5.trans K6
    have Z6' : AccE (h225.rst X5) X3.nx 3 1 r1 r2 r3 (([] ++ gs).map (Value.int .i64)) := Z6.keep (fun _ _ _ => rfl) (Nat.le_refl _)
    generalize h225.rst X5 = X6 at kX6 Z6' ⊢
    have okg : (X6.grd [b3]).Ok := (ok.kp (up3 kX6)).grd fun q hq => by obtain rfl := List.mem_singleton.1 hq; have := (up3 kX6).nx; omega
    have Y6 : IntsAt (X6.grd [b3]) a' n' pf[k] := SlAt.keep (Y.up EInt.up (up3 kX6)) (fun _ _ _ => rfl) (Nat.le_refl _) fun _ _ h => h
    obtain ⟨v, h229, e4, s1, s2, s3, rfl, X7a, K7, _⟩ := ct102 hO okg Y6 (by omega) hlk (c0 := c')
    have kk7 : Kp X6.nx X6 (h229.rst X6) := (Kp.refl _ X6).rst (g := [b3]) K7
    have kX7 := kX6.trans (kk7.le kX6.nx)
    refine ⟨s1, s2, s3, _, e4, ?_⟩
    have Z7 : AccE (h229.rst X6) X3.nx 3 1 r1 r2 r3 (([] ++ gs).map (Value.int .i64)) := Z6'.keep (fun o ho _ => kk7.get o ho) kk7.nx
    have X7b : IntsAt (h229.rst X6) s1 s2 (conO pf[k] 1 30) := SlAt.keep X7a (fun _ _ _ => rfl) (Nat.le_refl _) fun _ _ h => h
    rw [conO_eq hdk hlk] at X7b
    generalize h229.rst X6 = X7 at kX7 Z7 X7b ⊢
    obtain ⟨t1, t2, t3, h233, e5, Z8, K8, N8, _⟩ := appE_ints (g := [b3]) (c1 := s3) Z7 kX7.nx (gd3 kX7 _ (fun q hq => by simp at hq; omega)) X7b (by simp; omega)
    refine ⟨t1, t2, t3, h233, e5, ?_⟩
    have kX8 := kX7.trans K8
    have Z8' : AccE (h233.rst X7) X3.nx 3 1 t1 t2 t3 ((([] ++ gs) ++ pf[k].map fun x => -x).map (Value.int .i64)) := Z8.keep (fun _ _ _ => rfl) (Nat.le_refl _)
    generalize h233.rst X7 = X8 at kX8 Z8' ⊢
    have I8 : IntssAt X8 q1 q2 (cls ++ pf.take k) := I3.up EInts.up kX8
    have B8 : IntsAt X8 t1 t2 (gs ++ pf[k].map fun x => -x) := AccE.ints Z8'
    have hall : ∀ l ∈ cls ++ pf.take k, clB vars 0 l = true := fun l hl => by
      rcases List.mem_append.1 hl with hl | hl
      · exact hcl l hl
      · exact hfc l (List.mem_of_mem_take hl)
    have hlv : ∀ {l : List Int}, clB vars 0 l = true → ∀ x ∈ l, Lit x ∧ x.natAbs < vars + 1 := fun {l} hl x hx => by
      have h1 := clB_lit (by decide) hl x hx
      have := varI_lit2 h1.1
      exact ⟨h1.1, by have := h1.2; omega⟩
    have hd : ∀ l ∈ cls ++ pf.take k, (∀ x ∈ l, Lit x ∧ x.natAbs < vars + 1) ∧ Dif l := fun l hl => ⟨hlv (hall l hl), clB_dif (by decide) (hall l hl)⟩
    have hxs : ∀ x ∈ gs ++ pf[k].map (fun x => -x), Lit x ∧ x.natAbs < vars + 1 := fun x hx => by
      rcases List.mem_append.1 hx with hx | hx
      · exact hlv hg x hx
      · obtain ⟨z, hz, rfl⟩ := List.mem_map.1 hx
        have := hlv (hfc _ hm) z hz
        exact ⟨lit_neg hlk _ hx, by rw [Int.natAbs_neg]; exact this.2⟩
    have hsame := (prop_same hv hd hxs).1
    obtain ⟨w, h238, e6, u1, u2, u3, rfl, K9, _⟩ := ct92 hO (h := X8.grd []) (ok.kp (up3 kX8)) I8 (by simp; omega) (fun l hl => by
      rcases List.mem_append.1 hl with hl | hl
      · have := hll l hl; omega
      · have := hfll l (List.mem_of_mem_take hl); omega) hv (fun l hl => (hd l hl).1) B8 (by simp; omega) hxs (c := q3) (c2 := t3)
    have kX9 : Kp hb.nx hb (h238.rst X8) := (up3 kX8).rst (g := []) (K9.le (up3 kX8).nx)
    refine ⟨_, _, _, _, _, e6, ?_⟩
    rw [← hsame]
    cases hq : (fromN ((cls ++ pf.take k).map sideN) (gs ++ pf[k].map fun x => -x)).2 with
    | true =>
      rw [hq, if_pos rfl] at hr
      subst hr
      exact ⟨rfl, kX9⟩
    | false =>
      rw [hq, if_neg (by decide)] at hr
      rw [wrap_succ (by omega)]
      have e1 : pf.take (k + 1) = pf.take k ++ [pf[k]] := List.take_succ_eq_append_getElem (by omega)
      have hi := ih (k + 1) (by omega) kX9 (by rw [e1, ← List.append_assoc]; exact hr)
      exact hi ..
theorem lp42_0 {a a1 a2 : Option Addr} {n c n1 c1 n2 c2 : Nat} {vars : Nat} {hb : Hp} {cls : List (List Int)} {gs : List Int} {pf : List (List Int)} (ok : hb.Ok) (H : IntssAt hb a n cls) (hl : cls.length < 1000) (hll : ∀ l ∈ cls, l.length < 1000) (hv : vars ≤ 30) (hcl : ∀ l ∈ cls, clB vars 0 l = true) (G : IntsAt hb a1 n1 gs) (hgl : gs.length < 1000) (hg : clB vars 0 gs = true) (F : IntssAt hb a2 n2 pf) (hfl : pf.length < 10000) (hfll : ∀ l ∈ pf, l.length < 50) (hcut : ∀ (g : Hp) (k : Nat), Kp hb.nx hb g → k ≤ n2 → 0 < n2 → ∃ c', sliceV Tryd.prog g 28 (.slice a2 n2 c2) none (some (.int .i64 (Int.ofNat k))) none = some (.slice a2 k c'))
    {b3 : Nat} (hb3 : b3 < hb.nx) (gb : hb.get b3 = some (.cells [.int .i64 (Int.ofNat vars), .slice a n c] 30 .fix)) {x0 : Int} {a0 : Option Addr} {n0 c0 : Nat} {R : Int × Int} :
    ∀ (d k : Nat), k + d = pf.length → ∀ {h : Hp}, Kp hb.nx hb h → (∀ l ∈ pf.take k, clB vars 0 l = true) → R = (if (pf.drop k).all (clB vars 0) = false then (0, 2) else if 2000 < pf.length then (0, 3) else outA (accF gs cls pf 0) (endA pf)) →
      I42_0 O (fun v h' => v = .tuple #[.int .i64 R.1, .int .i64 R.2] ∧ Kp hb.nx hb h') x0 a0 n0 c0 a1 n1 c1 a2 n2 c2 b3 0 0 0 (Int.ofNat k) h := by
  have hn := F.1
  intro d
  induction d with
  | zero =>
    intro k hk h kp hc hr
    refine I42_0.of _ _ _ _ _ _ _ _ _ _ _ _ _ _ _ ?_
    intros
    unfold T42_0
    rw [List.drop_of_length_le (by omega), if_neg (by simp)] at hr
    rw [List.take_of_length_le (by omega)] at hc
    refine vcond_f (by rw [ltI_nat]; exact blt_f (by omega)) (vcond_split (fun h1 => ?_) fun h1 => ?_)
    · have h1 := lt_of_t h1
      simp only [Int.ofNat_eq_natCast] at h1
      rw [if_pos (by omega)] at hr
      subst hr; exact ⟨rfl, kp⟩
    · have h1 := not_lt_of_f h1
      simp only [Int.ofNat_eq_natCast] at h1
      rw [if_neg (by omega)] at hr
      exact lp42_1 hO ok H hl hll hv hcl G hgl hg F hfl hfll hc hcut hb3 gb pf.length 0 (by omega) kp (by rw [List.take_zero, List.append_nil]; exact hr) ..
  | succ d ih =>
    intro k hk h kp hc hr
    refine I42_0.of _ _ _ _ _ _ _ _ _ _ _ _ _ _ _ ?_
    intros
    unfold T42_0
    have e0 : pf.drop k = pf[k] :: pf.drop (k + 1) := List.drop_eq_getElem_cons (by omega)
    rw [e0, List.all_cons] at hr
    have hm : pf[k] ∈ pf := List.getElem_mem _
    have hlen := hfll _ hm
    have k8 : Kp hb.nx hb (h.rsv 8) := kp.rsv 8
    have g8 : (h.rsv 8).get b3 = some (.cells [.int .i64 (Int.ofNat vars), .slice a n c] 30 .fix) := by rw [k8.get _ hb3]; exact gb
    refine vcond_t (by rw [ltI_nat]; exact blt_t (by omega)) (isNat_of (F.get (k := k) (by omega) fun b' off a' n' c' _ hlt hrd Y => vreq_t (blt_t (by omega)) ⟨_, _, _, by rw [readAt_kp k8 hlt]; exact hrd, _, read1 g8 (i := 0 + 0) rfl, _, _, ct105 hO (vars : Int) (h := (h.rsv 8).grd []) (SlAt.keep (Y.up EInt.up k8) (fun _ _ _ => rfl) (Nat.le_refl _) fun _ _ h => h) (by omega) (c := c'), vcond_split (fun h1 => ?_) fun h1 => ?_⟩))
    · have h1 : clB vars 0 pf[k] = false := by simpa using h1
      rw [h1, Bool.false_and, if_pos rfl] at hr
      subst hr; exact ⟨rfl, k8⟩
    · have h1 : clB vars 0 pf[k] = true := by simpa using h1
      rw [h1, Bool.true_and] at hr
      rw [wrap_succ (by omega)]
      have hi := ih (k + 1) (by omega) k8 (fun l hl => by
        rw [List.take_succ_eq_append_getElem (by omega)] at hl
        rcases List.mem_append.1 hl with hl | hl
        · exact hc l hl
        · obtain rfl := List.mem_singleton.1 hl; exact h1) hr
      exact hi ..
theorem ct42 {a a1 a2 : Option Addr} {n c n1 c1 n2 c2 : Nat} {vars : Int} {h : Hp} {cls : List (List Int)} {gs : List Int} {pf : List (List Int)} (ok : h.Ok) (H : IntssAt h a n cls) (hl : cls.length < 1000) (hll : ∀ l ∈ cls, l.length < 1000) (G : IntsAt h a1 n1 gs) (hgl : gs.length < 1000) (F : IntssAt h a2 n2 pf) (hfl : pf.length < 10000) (hfll : ∀ l ∈ pf, l.length < 50) (hcut : ∀ (g : Hp) (k : Nat), Kp h.nx h g → k ≤ n2 → 0 < n2 → ∃ c', sliceV Tryd.prog g 28 (.slice a2 n2 c2) none (some (.int .i64 (Int.ofNat k))) none = some (.slice a2 k c')) :
    Ret Tryd.prog O 42 [Fm vars a n c, .slice a1 n1 c1, .slice a2 n2 c2] h fun v h' => v = .tuple #[.int .i64 (acceptP vars cls gs pf).1, .int .i64 (acceptP vars cls gs pf).2] ∧ Kp h.nx h h' := by
  refine rk42 _ _ _ _ _ _ _ _ _ _ (hO _ _ _ (by decide)) ?_
  unfold T42
  have kp := fm_kp h vars a n c
  have g := fm_get h vars a n c
  obtain ⟨v1, h1, e1, rfl, K1⟩ := ct91 hO (c := c) (vars := vars) (c1 := c1) (H.up EInts.up kp) (by omega) (fun l h => by have := hll l h; omega) (G.up EInt.up kp) (by omega)
  have k1 : Kp h.nx h h1 := kp.trans (K1.le kp.nx)
  have hn1 := K1.nx
  rw [nx_add] at hn1
  have g1 : h1.get h.nx = some (.cells [.int .i64 vars, .slice a n c] 30 .fix) := by rw [K1.get _ (by rw [nx_add]; omega)]; exact g
  unfold acceptP
  cases ha : askB vars cls gs with
  | false => exact ⟨_, _, _, _, readAt_get g (by simp), _, _, e1, vcond_t (by rw [ha]; decide) (by rw [ha, if_pos rfl]; exact ⟨rfl, k1⟩)⟩
  | true =>
    rw [if_neg (by decide)]
    rw [ha] at e1
    have hf : formB vars cls = true := by unfold askB at ha; exact (Bool.and_eq_true _ _ ▸ ha).1
    have hgc : clB vars 0 gs = true := by unfold askB at ha; exact (Bool.and_eq_true _ _ ▸ ha).2
    obtain ⟨f1, f2, f3, f4, f5⟩ := formB_lit hO hf
    obtain ⟨m, rfl⟩ : ∃ m : Nat, vars = (m : Int) := ⟨vars.toNat, by omega⟩
    refine ⟨_, _, _, _, readAt_get g (by simp), _, _, e1, vcond_f (by decide) ?_⟩
    have := lp42_0 hO (ok.kp k1) (H.up EInts.up k1) hl hll (by omega) f5 (G.up EInt.up k1) hgl hgc (F.up EInts.up k1) hfl hfll (fun g k K hk h0 => hcut g k (k1.trans (K.le k1.nx)) hk h0) (b3 := h.nx) (by omega) g1 (x0 := (m : Int)) (a0 := a) (n0 := n) (c0 := c) (c1 := c1) (R := if pf.all (clB m 0) = false then (0, 2) else if 2000 < pf.length then (0, 3) else outA (accF gs cls pf 0) (endA pf)) pf.length 0 (by omega) (.refl _ _) (fun l hl => by simp at hl) rfl
    exact RKL.mono (this ..) fun v h' hh => ⟨hh.1, k1.trans (hh.2.le k1.nx)⟩
end
end Go.Proofs.YtfgfhplgnfbaaaaDoor
/- SatAccepts of layer 20 returns true, for every input: its law, by the contracts of what it calls. -/
namespace Go.Proofs.YtfgfhplgnfbaaaaDoor
open Go Go.Ev
end Go.Proofs.YtfgfhplgnfbaaaaDoor
/- SatProves: the reference's Prove; plain law. -/
namespace Go.Proofs.YtfgfhplgnfbaaaaDoor
set_option maxRecDepth 100000
open Go Go.Ev
theorem isAd {b f : Nat} {K : Nat → Nat → Prop} (h : K b f) : isAddr (some ⟨b, f, none⟩) K := h
/-- The error of the reference's solve. -/
def refE (vars : Int) (cls : List (List Int)) (gs : List Int) : Int :=
  if askB vars cls gs = false then 2
  else if (refS vars.toNat cls gs (vars.toNat + 1) [] 2000).left < 0 then 8
  else if (refS vars.toNat cls gs (vars.toNat + 1) [] 2000).model = [] then 5 else 0
def Q106 (h : Hp) (e : Int) : Value → Hp → Prop := fun v h' => ∃ a n c a' n' c', v = .tuple #[.slice a n c, .slice a' n' c', .int .i64 e] ∧ Kp h.nx h h'
section
variable {O : CallF} (hO : Oth O)
include hO
theorem lp106 {h0 : Hp} {x0 : Int} {a0 a1 : Option Addr} {n0 c0 n1 c1 : Nat} {b2 b8 bO N : Nat} {aF : Option Addr} {nF cF : Nat} {am al : Option Addr} {nm cm nl cl : Nat} {left : Int} {own : Nat → Prop} {model : List Int} (hm : model.length = N + 1) (hN : N ≤ 30) {Rr : List Rs} :
    ∀ (d v : Nat), v + 1 + d = N + 1 → ∀ {g : Hp} {cs : List Value}, cs.length = N → cs.all one = true → Know h0 g (ob bO (.cells cs 4 .fix) :: clo own (fun h => IntsAt h am nm model) :: ob b8 (.cells [.slice am nm cm, .int .i64 left, .slice al nl cl] 143 .fix) :: ob b2 (.cells [.int .i64 (Int.ofNat N), .slice aF nF cF] 30 .fix) :: Rr) →
      I106_0 O (Q106 h0 0) x0 a0 n0 c0 a1 n1 c1 b2 0 b8 0 (some ⟨bO, 0, none⟩) N N (Int.ofNat (v + 1)) g := by
  have _ := hO
  intro d
  induction d with
  | zero =>
    intro v hv g cs hl h1 S
    refine I106_0.of (hh := ?_) ..
    unfold T106_0
    exact ⟨_, S.rd 3 rfl rfl rfl, vcond_f (by rw [ltI_nat, blt_t (by omega)]; rfl) ⟨_, _, _, _, _, _, rfl, S.kp⟩⟩
  | succ d ih =>
    intro v hv g cs hl h1 S
    refine I106_0.of (hh := ?_) ..
    unfold T106_0
    have XM : IntsAt g am nm model := clo.get (S.get 1 rfl)
    refine ⟨_, S.rd 3 rfl rfl rfl, vcond_t (by rw [ltI_nat, blt_f (by omega)]; rfl) ⟨_, _, _, S.rd 2 rfl rfl rfl, isNat_i (IntsAt.rd (g := g) (h := g) XM (k := v + 1) (by omega) ?_)⟩⟩
    have e1 : wrapF .i64 (Int.ofNat (v + 1) - 1) = Int.ofNat v := by
      rw [wrap64 (by simp only [Int.ofNat_eq_natCast]; omega) (by simp only [Int.ofNat_eq_natCast]; omega)]
      simp only [Int.ofNat_eq_natCast]; omega
    rw [e1]
    refine isNat_i (isAd (vreq_t (blt_t (by omega)) (vreq_t (S.cw 0 rfl (by decide) (ble_t (by show 0 + v * 1 + 1 ≤ cs.length; omega)) rfl) ?_)))
    intro g112
    have S2 := S.wr 0 rfl (off := 0 + v * 1) (vs := [.bool (ltI 0 model[v + 1])]) (by decide) (ble_t (by show 0 + v * 1 + 1 ≤ cs.length; omega)) rfl
    rw [wrap_succ (by omega)]
    exact ih (v + 1) (by omega) (by rw [putAt_length]; exact hl) (putAt_one h1 rfl (by show 0 + v * 1 + 1 ≤ cs.length; omega)) S2
theorem ct106 {h : Hp} (ok : h.Ok) {vars : Int} {cls : List (List Int)} {gs : List Int} {a a1 : Option Addr} {n c n1 c1 : Nat} (H : IntssAt h a n cls) (hl : cls.length < 1000000) (hll : ∀ l ∈ cls, l.length < 1000000) (G : IntsAt h a1 n1 gs) (hgl : gs.length ≤ 1000) :
    Ret Tryd.prog O 106 [Fm vars a n c, .slice a1 n1 c1] h (Q106 h (refE vars cls gs)) := by
  refine rk106 (hO := hO _ _ _ (by decide)) (hh := ?_) ..
  unfold T106
  intro g1
  have S : Know h g1 [_] := (Know.nil ok).add _
  have f1 := S.ft
  obtain ⟨v1, h7, e7, rfl, k7⟩ := ct91 hO (H.to g1) hl hll (G.to g1) (by omega) (vars := vars) (c := c) (c1 := c1)
  refine ⟨_, _, _, _, S.rd 0 rfl rfl rfl, _, _, e7, ?_⟩
  have S : Know h h7 [_] := S.call k7
  have f7 := S.ft
  unfold refE
  cases ha : askB vars cls gs with
  | false =>
    exact vcond_t rfl ⟨none, 0, 0, none, 0, 0, rfl, S.kp⟩
  | true =>
    rw [if_neg (show ¬ (true = false) by decide)]
    obtain ⟨⟨v0, v30⟩, q1, q2, q3⟩ := form_bounds ha
    have ev : vars = Int.ofNat vars.toNat := by simp only [Int.ofNat_eq_natCast]; omega
    generalize vars.toNat = N at ev
    subst ev
    have hN : N ≤ 30 := by simp only [Int.ofNat_eq_natCast] at v30; omega
    have cvo : ∀ {l : List Int}, clB (Int.ofNat N) 0 l = true → Cv (Int.ofNat N) l := fun {l} hl => ⟨clB_dif (by decide) hl, fun x hx => by
      have h1 := clB_lit (by decide) hl x hx
      have h2 := varI_lit2 h1.1
      have h3 := h1.2
      exact ⟨h1.1, by omega⟩⟩
    have hc : ∀ l ∈ cls, Cv (Int.ofNat N) l := fun l hl => cvo (q2 l hl)
    have hg : Cv (Int.ofNat N) gs := cvo q3
    refine vcond_f rfl ⟨_, _, _, _, S.rd 0 rfl rfl rfl, ?_⟩
    obtain ⟨v2, h19, e19, am, nm, cm, al, nl, cl, own, rfl, en, T⟩ := ct125 hO hN q1 hc hg.2 hgl (N + 1) S.ok (H.to h7) (G.to h7) (SlAt.nil ..) dcs_nil (by simp) (L := 2000) (by omega) (by omega) (cF := c) (cG := c1) (c2 := 0)
    refine ⟨_, _, _, _, _, _, _, _, e19, ?_⟩
    have S : Know h h19 [_, _, _] := S.comp T
    intro g20
    have S : Know h g20 [_, _, _, _] := S.add _
    refine vreq_t (S.cw 0 rfl (by decide) rfl rfl) ?_
    intro g21
    have S : Know h g21 [_, _, _, _] := S.wr 0 rfl (by decide) rfl rfl
    have hml : (refS N cls gs (N + 1) [] 2000).model = [] ∨ (refS N cls gs (N + 1) [] 2000).model.length = N + 1 := refS_len hN hc hg.2 (N + 1) dcs_nil (by simp)
    generalize refS N cls gs (N + 1) [] 2000 = R at S en hml ⊢
    have XM : IntsAt g21 am nm R.model := clo.get (S.get 1 rfl)
    have hn := XM.1
    refine ⟨_, S.rd 0 rfl rfl rfl, vcond_split (fun h1 => ?_) fun h1 => ?_⟩
    · rw [if_pos (lt_of_t h1)]; exact ⟨_, _, _, _, _, _, rfl, S.kp⟩
    rw [if_neg (not_lt_of_f h1)]
    refine ⟨_, _, _, S.rd 0 rfl rfl rfl, vcond_split (fun h2 => ?_) fun h2 => ?_⟩
    · have h2 : nm = 0 := Int.ofNat.inj (eq_of_t h2)
      rw [if_pos (List.length_eq_zero_iff.1 (by omega))]
      intro g26
      have S : Know h g26 [_, _, _, _, _] := S.rsvK 5
      exact ⟨_, _, _, S.rd 1 rfl rfl rfl, _, _, _, _, _, _, rfl, S.kp⟩
    · have h2 : nm ≠ 0 := fun hh => ne_of_f h2 (by rw [hh]; rfl)
      have hne : R.model ≠ [] := fun hh => h2 (by rw [hn, hh]; rfl)
      rw [if_neg hne]
      have hlen : R.model.length = N + 1 := hml.resolve_left hne
      refine ⟨_, S.rd 3 rfl rfl rfl, isNat_i (isNat_i (vreq_t (ble_t (Nat.le_refl _)) (vreq_t (ble_t (by omega)) (vreq_t (blt_t (by unfold big; omega)) ?_))))⟩
      intro g33
      have S : Know h g33 [_, _, _, _, _] := S.add _
      have hfl : (List.flatten (List.replicate N [Value.bool false])).length = N := by simp
      have hf1 : (List.flatten (List.replicate N [Value.bool false])).all one = true := by
        rw [List.all_eq_true]; intro v hv; simp at hv; rw [hv.2]; rfl
      exact lp106 hO hlen hN N 0 (by omega) hfl hf1 (S.sel [0, 2, 1, 4] (by decide) rfl)
theorem ct40 {h : Hp} (ok : h.Ok) {vars : Int} {cls : List (List Int)} {gs : List Int} {a a1 : Option Addr} {n c n1 c1 : Nat} (H : IntssAt h a n cls) (hl : cls.length < 1000000) (hll : ∀ l ∈ cls, l.length < 1000000) (G : IntsAt h a1 n1 gs) (hgl : gs.length ≤ 1000) :
    Ret Tryd.prog O 40 [Fm vars a n c, .slice a1 n1 c1] h fun v h' => ∃ a n c, v = .tuple #[.slice a n c, .int .i64 (if refE vars cls gs = 0 then 5 else if refE vars cls gs = 5 then 0 else refE vars cls gs)] ∧ Kp h.nx h h' := by
  refine rk40 (hO := hO _ _ _ (by decide)) (hh := ?_) ..
  unfold T40
  intro g1
  have S : Know h g1 [_] := (Know.nil ok).add _
  have f1 := S.ft
  obtain ⟨v, h13, e13, a6, n7, c8, a9, n10, c11, rfl, k13⟩ := ct106 hO S.ok (H.to g1) hl hll (G.to g1) hgl (vars := vars) (c := c) (c1 := c1)
  refine ⟨_, _, _, _, S.rd 0 rfl rfl rfl, _, _, _, _, _, _, _, _, e13, ?_⟩
  have S : Know h h13 [_] := S.call k13
  refine vcond_split (fun h1 => ?_) fun h1 => ?_
  · rw [if_pos (eq_of_t h1)]; exact ⟨_, _, _, rfl, S.kp⟩
  · rw [if_neg (ne_of_f h1)]
    refine vcond_split (fun h2 => ?_) fun h2 => ?_
    · rw [if_neg (ne_of_f (by simpa using h2))]; exact ⟨_, _, _, rfl, S.kp⟩
    · rw [if_pos (eq_of_t (by simpa using h2))]; exact ⟨_, _, _, rfl, S.kp⟩
end
end Go.Proofs.YtfgfhplgnfbaaaaDoor
/- SatProves: its law. -/
namespace Go.Proofs.YtfgfhplgnfbaaaaDoor
set_option maxRecDepth 100000
open Go Go.Ev
theorem cv_of_clB {N : Nat} (hN : N ≤ 30) {l : List Int} (hl : clB (Int.ofNat N) 0 l = true) : Cv (Int.ofNat N) l := by
  have _ := hN
  exact ⟨clB_dif (by decide) hl, fun x hx => by
    have h1 := clB_lit (by decide) hl x hx
    have h2 := varI_lit2 h1.1
    have h3 := h1.2
    exact ⟨h1.1, by omega⟩⟩
/-- What the two sides answer. -/
theorem both {N : Nat} {cls : List (List Int)} {gs : List Int} (ha : askB (Int.ofNat N) cls gs = true) :
    ((solF N cls gs).how = 0 ∨ (solF N cls gs).how = 1 ∨ (solF N cls gs).how = 2) ∧
    ((refE (Int.ofNat N) cls gs = 8) ∨ ((solF N cls gs).how = 0 ∧ refE (Int.ofNat N) cls gs = 0) ∨ ((solF N cls gs).how = 1 ∧ refE (Int.ofNat N) cls gs = 5)) ∧
    ((solF N cls gs).how = 1 → acceptP (Int.ofNat N) cls gs (solF N cls gs).lines = (0, 0) ∧ (solF N cls gs).lines.length ≤ 2000 ∧ ∀ l ∈ (solF N cls gs).lines, l.length < 50) := by
  obtain ⟨⟨v0, v30⟩, q1, q2, q3⟩ := form_bounds ha
  have hN : N ≤ 30 := by simp only [Int.ofNat_eq_natCast] at v30; omega
  have hc : ∀ l ∈ cls, Cv (Int.ofNat N) l := fun l hl => cv_of_clB hN (q2 l hl)
  have hg : Cv (Int.ofNat N) gs := cv_of_clB hN q3
  have S := search_spec hN hc hg.2 (N + 1) (left := 2000) dcs_nil (by simp)
  have ll := search_lines hN hc hg.2 (N + 1) [] 2000
  refine ⟨S.how, ?_, fun h1 => ?_⟩
  · unfold refE
    rw [ha, if_neg (by decide), show (Int.ofNat N).toNat = N from rfl]
    by_cases hl : (refS N cls gs (N + 1) [] 2000).left < 0
    · rw [if_pos hl]; exact .inl rfl
    · rw [if_neg hl]
      obtain ⟨a, b, c⟩ := lock hN hc hg.2 (N + 1) (L := 2000) (Lc := 2000) dcs_nil (by simp) (by omega) (by omega)
      by_cases hm : (refS N cls gs (N + 1) [] 2000).model = []
      · rw [if_pos hm]
        rcases S.how with h | h | h
        · exact absurd hm (c.1 h)
        · exact .inr (.inr ⟨h, rfl⟩)
        · exact absurd h a
      · rw [if_neg hm]; exact .inr (.inl ⟨c.2 hm, rfl⟩)
  · obtain ⟨cv, hsub, L, eL⟩ := S.clo h1
    have ec : (searchF N (cls.map sideN) gs (N + 1) [] 2000).c = [] := by
      cases hcc : (searchF N (cls.map sideN) gs (N + 1) [] 2000).c with
      | nil => rfl
      | cons x l => have := hsub x (by rw [hcc]; simp); cases this
    rw [ec] at eL
    have hgood := S.good
    have hrup := S.rup
    show acceptP (Int.ofNat N) cls gs (searchF N (cls.map sideN) gs (N + 1) [] 2000).lines = (0, 0) ∧ (searchF N (cls.map sideN) gs (N + 1) [] 2000).lines.length ≤ 2000 ∧ ∀ l ∈ (searchF N (cls.map sideN) gs (N + 1) [] 2000).lines, l.length < 50
    generalize (searchF N (cls.map sideN) gs (N + 1) [] 2000).lines = pf at eL hgood hrup ll ⊢
    have hlen : pf.length ≤ 2000 := by omega
    refine ⟨?_, hlen, fun l hl => by have := cv_len (hgood l hl); omega⟩
    rw [acceptP_of (by simp only [Int.ofNat_eq_natCast]; omega) (by simp only [Int.ofNat_eq_natCast]; omega) q1 hc hg hgood hlen, hrup]
    unfold outA endA
    subst eL
    rw [if_neg (by simp), if_neg (by simp)]
theorem slice_gw {h : Hp} {al : Option Addr} {nl cl k : Nat} (w : Gw h al nl cl) (hk : k ≤ nl) (h0 : 0 < nl) : ∃ c', sliceV Tryd.prog h 28 (.slice al nl cl) none (some (.int .i64 (Int.ofNat k))) none = some (.slice al k c') := by
  rcases w with ⟨_, h2, _⟩ | ⟨o, vs, rfl, rfl, rfl, h4, h5⟩
  · omega
  · refine ⟨unk, ?_⟩
    have e3 : Ev.seen h 32 1 (.slice (some ⟨o, 0, none⟩) vs.length unk) = some vs.length := by
      simp only [Ev.seen, Nat.beq_refl, cond_true, h5]
      have e5 : Nat.blt 0 1 = true := rfl
      rw [e5]
      show some ((vs.length - 0) / 1) = _
      rw [Nat.sub_zero, Nat.div_one]
    have e4 : bounds vs.length vs.length none (some (.int .i64 (Int.ofNat k))) none = some (0, k, vs.length) := by
      unfold bounds boundM boundH boundL boundV
      simp only [Option.bind_some, Option.map_some]
      rw [ble_t hk]; rfl
    unfold sliceV
    rw [Tryd.underlying28]
    simp only [show sz Tryd.prog 32 = some 1 by kernel_rfl, bind, Option.bind_some, e3, e4]
    rw [Nat.beq_refl]; simp
section
variable {a a1 : Option Addr} {n c n1 c1 : Nat} {vars : Int} {hB : Hp} {cls : List (List Int)} {gs : List Int} (ok : hB.Ok) (ht : Tb hB) {b : Nat} (hb : b < hB.nx) (gb : hB.get b = some (.cells [.int .i64 vars, .slice a n c] 30 .fix)) (H : IntssAt hB a n cls) (hl : cls.length ≤ 150) (hll : ∀ l ∈ cls, l.length ≤ 40) (G : IntsAt hB a1 n1 gs) (hgl : gs.length ≤ 40)
include ok ht hb gb H hl hll G hgl
/-- The end of the law. -/
theorem lp7 {h : Hp} (kp : Kp hB.nx hB h) {al : Option Addr} {nl cl : Nat} {e g x0 : Int} {a0 : Option Addr} {n0 c0 : Nat} {pf : List (List Int)} (X : IntssAt h al nl pf) (w : Gw h al nl cl) (hpf : e ≠ 0 → pf = [])
    (heg : (g = 8 ∧ (e = 5 ∨ e = 0)) ∨ (g ≠ 8 ∧ e = g)) (hacc : e = 0 → acceptP vars cls gs pf = (0, 0) ∧ pf.length ≤ 2000 ∧ ∀ l ∈ pf, l.length < 50) :
    I7_0 Ow Yes x0 a0 n0 c0 a1 n1 c1 b 0 al nl cl e g h := by
  have hO : Oth Ow := Ow_oth
  have f := kp.ex (Nat.le_refl _)
  have gF : ∀ {x : Hp}, Kp h.nx h x → x.get b = some (.cells [.int .i64 vars, .slice a n c] 30 .fix) := fun K => by rw [(kp.trans (K.le kp.nx)).get _ hb]; exact gb
  have tb : ∀ {x : Hp}, Kp h.nx h x → Tb x := fun K => ht.kp (kp.trans (K.le kp.nx)) ht.1
  have z : Kp h.nx h h := .refl _ _
  have ok1 := ok.kp kp
  have acc : e = 0 → ∀ {Q : Hp → Prop}, (∀ x, Tb x → Q x) → ∃ x1, ∃ a2 n2 c2, readAt h b 0 2 = some [.int .i64 x1, .slice a2 n2 c2] ∧ ∃ x3, ∃ x4, ∃ h1, EvC Tryd.prog Ow 41 [.agg #[.int .i64 x1, .slice a2 n2 c2], .slice a1 n1 c1, .slice al nl cl] h (.tuple #[.int .i64 x3, .int .i64 x4]) h1 ∧
      ∃ x5, ∃ a6 n6 c6, readAt h1 b 0 2 = some [.int .i64 x5, .slice a6 n6 c6] ∧ ∃ x7, ∃ x8, ∃ h2, EvC Tryd.prog Ow 42 [.agg #[.int .i64 x5, .slice a6 n6 c6], .slice a1 n1 c1, .slice al nl cl] h1 (.tuple #[.int .i64 x7, .int .i64 x8]) h2 ∧
        vcond (eqI x3 0) (vcond (eqI x4 0) (vcond (eqI x8 0) (Q h2) (Yes (.bool false) h2)) (Yes (.bool false) h2)) (Yes (.bool false) h2) := by
    intro he Q hQ
    obtain ⟨hap, hpl, hpll⟩ := hacc he
    obtain ⟨v2, h2, e2, rfl, K2⟩ := ct41 hO (vars := vars) (c := c) (c1 := c1) (c2 := cl) ok1 (H.to h) (by omega) (fun l h => by have := hll l h; omega) (G.to h) (by omega) X (by omega) hpll
    rw [hap] at e2
    refine ⟨_, _, _, _, readAt_get (gF z) (by simp), _, _, _, e2, ?_⟩
    have f2 := (kp.trans (K2.le kp.nx)).ex (Nat.le_refl _)
    have f3 := K2.ex (Nat.le_refl _)
    obtain ⟨v3, h3, e3, rfl, K3⟩ := ct42 hO (vars := vars) (c := c) (c1 := c1) (c2 := cl) (ok1.kp K2) (H.to h2) (by omega) (fun l h => by have := hll l h; omega) (G.to h2) (by omega) (X.to h2) (by omega) hpll (fun g k K hk h0 => slice_gw (w.kp (K2.trans (K.le K2.nx))) hk h0)
    rw [hap] at e3
    exact ⟨_, _, _, _, readAt_get (gF K2) (by simp), _, _, _, e3, vcond_t rfl (vcond_t rfl (vcond_t rfl (hQ h3 (tb (K2.trans (K3.le K2.nx))))))⟩
  have wk : ∀ x, Tb x → ∃ q, ∃ h', EvC Tryd.prog Ow 27 [] x (.bool q) h' ∧ Yes (.bool q) h' := fun x t => ⟨_, _, works_true t, rfl⟩
  have hnl : e ≠ 0 → nl = 0 := fun h => by have := X.1; rw [hpf h] at this; exact this
  refine I7_0.of (hh := ?_) ..
  unfold T7_0
  rcases heg with ⟨h8, h5⟩ | ⟨h8, h5⟩
  · subst h8
    refine vcond_f rfl ?_
    rcases h5 with h5 | h5
    · refine vcond_t (by rw [h5]; rfl) (vcond_t rfl (vcond_t (eqI_t (by rw [hnl (by omega)]; rfl)) (vcond_f (by rw [h5]; rfl) (vcond_t rfl (vcond_t (eqI_t h5) (wk h (tb z)))))))
    · refine vcond_f (by rw [h5]; rfl) ?_
      exact acc h5 (Q := fun x => ∃ q, ∃ h', EvC Tryd.prog Ow 27 [] x (.bool q) h' ∧ Yes (.bool q) h') wk
  · refine vcond_t (by rw [eqI_f h8]; rfl) (vcond_f (by rw [eqI_t h5]; rfl) ?_)
    by_cases h0 : e = 0
    · refine vcond_f (by rw [eqI_t h0]; rfl) ?_
      exact acc h0 (Q := fun x => ∃ q, ∃ h', EvC Tryd.prog Ow 27 [] x (.bool q) h' ∧ Yes (.bool q) h') wk
    · exact vcond_t (by rw [eqI_f h0]; rfl) (vcond_t (by rw [eqI_f (by omega)]; rfl) (vcond_t (eqI_t (by rw [hnl h0]; rfl)) (vcond_t (eqI_t h5) (wk h (tb z)))))
end
theorem law7 {a a1 : Option Addr} {n c n1 c1 : Nat} {vars : Int} {h : Hp} {cls : List (List Int)} {gs : List Int} (ok : h.Ok) (ht : Tb h) (H : IntssAt h a n cls) (G : IntsAt h a1 n1 gs) :
    Ret Tryd.prog Ow 7 [Fm vars a n c, .slice a1 n1 c1] h Yes := by
  have hO : Oth Ow := Ow_oth
  refine rk7 (hO := hO _ _ _ (by decide)) (hh := ?_) ..
  unfold T7
  have n0 : 0 < h.nx := by have := ht.1; omega
  intro g1
  have S : Know h g1 [_] := (Know.nil ok).add _
  have f1 := S.ft
  obtain ⟨v1, h7, e7, rfl, k7⟩ := ct28 hO (c := c) (vars := vars) (a1 := a1) (n1 := n1) (c1 := c1) (H.to g1)
  refine ⟨_, _, _, _, S.rd 0 rfl rfl rfl, _, _, e7, ?_⟩
  have S : Know h h7 [_] := S.call k7
  refine vcond_split (fun _ => ⟨_, _, works_true (ht.kp S.kp n0), rfl⟩) fun hgr => ?_
  rw [Bool.or_eq_false_iff] at hgr
  obtain ⟨hl0, hll0⟩ := greatB_not hgr.1
  have hgl : n1 ≤ 40 := by have := of_decide_eq_false hgr.2; omega
  have hn1 := G.1
  have f7 := S.ft
  have D : askB vars cls gs = true → ∃ Dc, Dec vars.toNat (cls.map sideN) gs Dc ∧ Dc [] := fun ha => by
    obtain ⟨⟨v0, v30⟩, q1, q2, q3⟩ := form_bounds ha
    have ev : vars = Int.ofNat vars.toNat := by simp only [Int.ofNat_eq_natCast]; omega
    generalize vars.toNat = N at ev
    subst ev
    have hN : N ≤ 30 := by simp only [Int.ofNat_eq_natCast] at v30; omega
    exact ⟨_, dec_ok hN (fun l hl => cv_of_clB hN (q2 l hl)) (cv_of_clB hN q3).2, dcs_nil⟩
  have hlt : askB vars cls gs = true → (solF vars.toNat cls gs).y < 2 ^ 30 ∧ (solF vars.toNat cls gs).m < 2 ^ 30 := fun ha => by
    obtain ⟨⟨v0, v30⟩, q1, q2, q3⟩ := form_bounds ha
    have ev : vars = Int.ofNat vars.toNat := by simp only [Int.ofNat_eq_natCast]; omega
    generalize vars.toNat = N at ev
    subst ev
    have hN : N ≤ 30 := by simp only [Int.ofNat_eq_natCast] at v30; omega
    exact search_lt hN (fun l hl => cv_of_clB hN (q2 l hl)) (cv_of_clB hN q3).2 (N + 1) dcs_nil
  obtain ⟨v2, h18, e18, al, nl, cl, rfl, X18, w18, k18⟩ := ct24g hO S.ok (ht.kp S.kp n0) (H.to h7) (by omega) (fun l hl => by have := hll0 l hl; omega) (G.to h7) (by omega) D (c := c) (c1 := c1)
  refine ⟨_, _, _, _, S.rd 0 rfl rfl rfl, _, _, _, _, _, e18, ?_⟩
  have S : Know h h18 [_] := S.call k18
  have f18 := S.ft
  obtain ⟨v3, h27, e27, a23, n24, c25, rfl, k27⟩ := ct40 hO S.ok (H.to h18) (by omega) (fun l hl => by have := hll0 l hl; omega) (G.to h18) (by omega) (vars := vars) (c := c) (c1 := c1)
  refine ⟨_, _, _, _, S.rd 0 rfl rfl rfl, _, _, _, _, _, e27, ?_⟩
  have S : Know h h27 [_] := S.call k27
  have f27 := S.ft
  obtain ⟨v4, h36, e36, a32, n33, c34, rfl, _, k36⟩ := ct23 hO S.ok (ht.kp S.kp n0) (H.to h27) (by omega) (fun l hl => by have := hll0 l hl; omega) (G.to h27) (by omega) D hlt (c := c) (c1 := c1)
  refine ⟨_, _, _, _, S.rd 0 rfl rfl rfl, _, _, _, _, _, e36, ?_⟩
  have S : Know h h36 [_] := S.call k36
  have f36 := S.ft
  have k1836 : Kp h18.nx h18 h36 := k27.trans (k36.le k27.nx)
  haveI i1 : Ft h18 h36 := k1836.ex (Nat.le_refl _)
  have X : IntssAt h36 al nl (proveP vars cls gs).1 := X18.to h36
  have w : Gw h36 al nl cl := w18.kp k1836
  have hgs : gs.length ≤ 40 := by omega
  have go : ∀ {e g : Int}, e = (proveP vars cls gs).2 → g = (if refE vars cls gs = 0 then 5 else if refE vars cls gs = 5 then 0 else refE vars cls gs) → ¬ (g = 8 ∧ e = 8) → I7_0 Ow Yes vars a n c a1 n1 c1 h.nx 0 al nl cl e g h36 := by
    intro e g he hg hne
    have key : (e ≠ 0 → (proveP vars cls gs).1 = []) ∧ ((g = 8 ∧ (e = 5 ∨ e = 0)) ∨ (g ≠ 8 ∧ e = g)) ∧ (e = 0 → acceptP vars cls gs (proveP vars cls gs).1 = (0, 0) ∧ (proveP vars cls gs).1.length ≤ 2000 ∧ ∀ l ∈ (proveP vars cls gs).1, l.length < 50) := by
      cases ha : askB vars cls gs with
      | false =>
        have eP : proveP vars cls gs = ([], 2) := by unfold proveP; rw [ha, if_pos rfl]
        have eR : refE vars cls gs = 2 := by unfold refE; rw [ha, if_pos rfl]
        rw [eP] at he ⊢
        rw [eR] at hg
        have he : e = 2 := he
        have hg : g = 2 := hg
        exact ⟨fun _ => rfl, .inr ⟨by omega, by omega⟩, fun h => by omega⟩
      | true =>
        obtain ⟨⟨v0, v30⟩, q1, q2, q3⟩ := form_bounds ha
        obtain ⟨N, rfl⟩ : ∃ N : Nat, vars = Int.ofNat N := ⟨vars.toNat, by simp only [Int.ofNat_eq_natCast]; omega⟩
        obtain ⟨hh, hr, hacc⟩ := both ha
        have eP : proveP (Int.ofNat N) cls gs = if (solF N cls gs).how = 0 then ([], 5) else if (solF N cls gs).how = 2 then ([], 8) else ((solF N cls gs).lines, 0) := by unfold proveP; rw [ha, if_neg (by decide)]; rfl
        rcases hh with h0 | h0 | h0
        · rw [h0, if_pos rfl] at eP
          rw [eP] at he ⊢
          have he : e = 5 := he
          refine ⟨fun _ => rfl, ?_, fun h => by omega⟩
          rcases hr with hr | ⟨_, hr⟩ | ⟨h1, _⟩
          · rw [hr] at hg; exact .inl ⟨hg, .inl he⟩
          · rw [hr] at hg; have hg : g = 5 := hg; exact .inr ⟨by omega, by omega⟩
          · omega
        · rw [h0, if_neg (by decide), if_neg (by decide)] at eP
          rw [eP] at he ⊢
          have he : e = 0 := he
          refine ⟨fun h => absurd he h, ?_, fun _ => hacc h0⟩
          rcases hr with hr | ⟨h1, _⟩ | ⟨_, hr⟩
          · rw [hr] at hg; exact .inl ⟨hg, .inr he⟩
          · omega
          · rw [hr] at hg; have hg : g = 0 := hg; exact .inr ⟨by omega, by omega⟩
        · rw [h0, if_neg (by decide), if_pos rfl] at eP
          rw [eP] at he ⊢
          have he : e = 8 := he
          refine ⟨fun _ => rfl, ?_, fun h => by omega⟩
          rcases hr with hr | ⟨h1, _⟩ | ⟨h1, _⟩
          · rw [hr] at hg; exact absurd ⟨hg, he⟩ hne
          · omega
          · omega
    exact lp7 S.ok (ht.kp S.kp n0) (S.orng 0 rfl).2 (S.obj 0 rfl) (H.to h36) hl0 hll0 (G.to h36) hgs (.refl _ _) X w key.1 key.2.1 key.2.2
  -- what Model says beside it
  have hboth : ¬ ((modelP vars cls gs).2 = 5 ∧ (proveP vars cls gs).2 = 5) := by
    rintro ⟨hm, hp⟩
    unfold modelP at hm
    unfold proveP at hp
    cases ha : askB vars cls gs with
    | false => rw [ha, if_pos rfl] at hm; exact absurd hm (by decide)
    | true =>
      rw [ha, if_neg (by decide)] at hm hp
      by_cases h0 : (solF vars.toNat cls gs).how = 0
      · rw [if_pos h0] at hm; exact absurd (show (0 : Int) = 5 from hm) (by decide)
      · rw [if_neg h0] at hm hp
        by_cases h2 : (solF vars.toNat cls gs).how = 2
        · rw [if_pos h2] at hp; exact absurd hp (by decide)
        · rw [if_neg h2] at hp; exact absurd (show (0 : Int) = 5 from hp) (by decide)
  have hnil : (proveP vars cls gs).2 = 8 → nl = 0 := fun h8 => by
    have hx := X.1
    have : (proveP vars cls gs).1 = [] := by
      unfold proveP at h8 ⊢
      split
      · rfl
      split
      · rfl
      split
      · rfl
      · rename_i a1 a2 a3
        rw [if_neg a1, if_neg a2, if_neg a3] at h8; exact absurd (show (0 : Int) = 8 from h8) (by decide)
    rw [this] at hx; exact hx
  have rest : vcond (eqI (if refE vars cls gs = 0 then 5 else if refE vars cls gs = 5 then 0 else refE vars cls gs) 8) (vcond (eqI (proveP vars cls gs).2 8) (vcond (eqI (Int.ofNat nl) 0) (∃ q, ∃ h', EvC Tryd.prog Ow 27 [] h36 (.bool q) h' ∧ Yes (.bool q) h') (Yes (.bool false) h36)) (I7_0 Ow Yes vars a n c a1 n1 c1 h.nx 0 al nl cl (proveP vars cls gs).2 (if refE vars cls gs = 0 then 5 else if refE vars cls gs = 5 then 0 else refE vars cls gs) h36)) (I7_0 Ow Yes vars a n c a1 n1 c1 h.nx 0 al nl cl (proveP vars cls gs).2 (if refE vars cls gs = 0 then 5 else if refE vars cls gs = 5 then 0 else refE vars cls gs) h36) := by
    refine vcond_split (fun h1 => vcond_split (fun h2 => ?_) fun h2 => ?_) fun h1 => ?_
    · exact vcond_t (eqI_t (by rw [hnil (eq_of_t h2)]; rfl)) ⟨_, _, works_true (ht.kp S.kp n0), rfl⟩
    · exact go rfl rfl fun h => ne_of_f h2 h.2
    · exact go rfl rfl fun h => ne_of_f h1 h.1
  refine vcond_split (fun h1 => ?_) fun h1 => rest
  exact vcond_f (eqI_f fun h5 => hboth ⟨eq_of_t h1, h5⟩) rest
end Go.Proofs.YtfgfhplgnfbaaaaDoor
