/- SatProofs of layer 20: its law, joined. -/
import Derived.Test.YtfgfhplgnfbaaaaDoorYG
namespace Go.Proofs.YtfgfhplgnfbaaaaDoor
open Go Go.Ev
theorem cv_len {N : Nat} {l : List Int} (h : Cv (Int.ofNat N) l) : l.length ≤ N := by
  rcases dif_len (N := N) (lo := 0) h.1 (fun x hx => by obtain ⟨h1, h2⟩ := h.2 x hx; have := h1.1; simp only [Int.ofNat_eq_natCast] at h2; omega) with h | h
  · omega
  · rw [h]; simp
theorem tail10 {v0 : Array Value} {x1 x2 : Int} {N : Nat} (hN : 1 ≤ N ∧ N ≤ 8) {cls : List (List Int)} {gs : List Int} (hcl : cls.length ≤ 14) (hc : ∀ l ∈ cls, Cv (Int.ofNat N) l) (hg : Cv (Int.ofNat N) gs)
    {g : Hp} (ok : g.Ok) (ht : Tb g) {b7 : Nat} (hb7 : b7 < g.nx) {aF a8 : Option Addr} {nF cF n8 c8 : Nat} (g7 : g.get b7 = some (.cells [.int .i64 (Int.ofNat N), .slice aF nF cF] 30 .fix)) (F : IntssAt g aF nF cls) (G : IntsAt g a8 n8 gs) : Tail10 Ow Yes v0 x1 x2 b7 a8 n8 c8 g := by
  have hO : Oth Ow := Ow_oth
  have h30 : N ≤ 30 := by omega
  have lits : ∀ l ∈ cls, ∀ x ∈ l, Lit x := fun l hl x hx => ((hc l hl).2 x hx).1
  have glit : ∀ x ∈ gs, Lit x := fun x hx => (hg.2 x hx).1
  have glen := cv_len hg
  have llen : ∀ l ∈ cls, l.length < 1000000 := fun l hl => by have := cv_len (hc l hl); omega
  have ha : askB (Int.ofNat N) cls gs = true := ask_of (by simp only [Int.ofNat_eq_natCast]; omega) (by simp only [Int.ofNat_eq_natCast]; omega) (by omega) hc hg
  have D : askB (Int.ofNat N) cls gs = true → ∃ Dc, Dec (Int.ofNat N).toNat (cls.map sideN) gs Dc ∧ Dc [] := fun _ => ⟨_, dec_ok h30 hc hg.2, dcs_nil⟩
  have hlt : askB (Int.ofNat N) cls gs = true → (solF (Int.ofNat N).toNat cls gs).y < 2 ^ 30 ∧ (solF (Int.ofNat N).toNat cls gs).m < 2 ^ 30 := fun _ => search_lt h30 hc hg.2 (N + 1) dcs_nil
  unfold Tail10
  refine ⟨_, _, _, _, by rw [readAt_get g7 (by simp)]; rfl, _, _, _, read1 g7 (i := 1) rfl, ?_⟩
  refine ret_ri (ct54 hO ok F (by omega) llen lits G (by omega) glit (N := N) (by omega) (a0 := aF) (n0 := nF) (c0 := cF) (c1 := cF) (c2 := c8)) fun a90 n90 c90 h93 M K93 _ => ?_
  have f93 := K93.ex (Nat.le_refl _)
  have ok93 := ok.kp K93
  have ht93 := ht.kp K93 ht.1
  have g93 : h93.get b7 = some (.cells [.int .i64 (Int.ofNat N), .slice aF nF cF] 30 .fix) := by rw [K93.get _ hb7]; exact g7
  refine ⟨_, _, _, _, by rw [readAt_get g93 (by simp)]; rfl, ?_⟩
  obtain ⟨v102, h102, e102, am, nm, cm, rfl, M102, K102⟩ := ct23 hO ok93 ht93 (F.to h93) (by omega) llen (G.to h93) (by omega) D hlt (vars := Int.ofNat N) (c := cF) (c1 := c8)
  refine ⟨_, _, _, _, h102, e102, ?_⟩
  have k102 : Kp g.nx g h102 := K93.trans (K102.le K93.nx)
  have f102 := k102.ex (Nat.le_refl _)
  have ok102 := ok.kp k102
  have ht102 := ht.kp k102 ht.1
  have g102 : h102.get b7 = some (.cells [.int .i64 (Int.ofNat N), .slice aF nF cF] 30 .fix) := by rw [k102.get _ hb7]; exact g7
  refine ⟨_, _, _, _, by rw [readAt_get g102 (by simp)]; rfl, ?_⟩
  obtain ⟨v111, h111, e111, al, nl, cl, rfl, L111, K111⟩ := ct24 hO ok102 ht102 (F.to h102) (by omega) llen (G.to h102) (by omega) D (vars := Int.ofNat N) (c := cF) (c1 := c8)
  refine ⟨_, _, _, _, h111, e111, ?_⟩
  have k111 : Kp g.nx g h111 := k102.trans (K111.le k102.nx)
  have f111 := k111.ex (Nat.le_refl _)
  have ok111 := ok.kp k111
  have ht111 := ht.kp k111 ht.1
  have g111 : h111.get b7 = some (.cells [.int .i64 (Int.ofNat N), .slice aF nF cF] 30 .fix) := by rw [k111.get _ hb7]; exact g7
  have f1 := K102.ex (Nat.le_refl _)
  have f2 := K111.ex (Nat.le_refl _)
  have M93 : IntsAt h102 a90 n90 ((modelsN N cls gs).map Int.ofNat) := M.to h102
  have M111 : IntsAt h111 a90 n90 ((modelsN N cls gs).map Int.ofNat) := M93.to h111
  have B111 := M102.to h111
  have hn90 : n90 = (modelsN N cls gs).length := by rw [M.1, List.length_map]
  have hmb : ∀ m ∈ modelsN N cls gs, m < 9223372036854775808 := fun m hm => by
    obtain ⟨k, _, rfl⟩ := List.mem_map.1 (List.mem_filter.1 hm).1
    have := bitsF_lt N k N
    have : 2 ^ N ≤ 2 ^ 8 := Nat.pow_le_pow_right (by decide) hN.2
    omega
  rcases solve_small h30 hc hg.2 hN.2 with ⟨h0, m, rest, em, hm⟩ | ⟨h1, em, gl, rup, len, L, eL⟩
  · have mP : modelP (Int.ofNat N) cls gs = ((List.range N).map fun v => (solF N cls gs).y.testBit v, 0) := by
      unfold modelP
      rw [ha, if_neg (by decide)]
      show (if (solF N cls gs).how = 0 then _ else _) = _
      rw [if_pos h0]; rfl
    have pP : proveP (Int.ofNat N) cls gs = ([], 5) := by
      unfold proveP
      rw [ha, if_neg (by decide)]
      show (if (solF N cls gs).how = 0 then _ else _) = _
      rw [if_pos h0]
    have eqB : ((List.range N).map fun v => (solF N cls gs).y.testBit v) = (List.range N).map m.testBit := List.map_congr_left fun i hi => (hm i (List.mem_range.1 hi)).symm
    rw [mP] at B111
    rw [eqB] at B111
    rw [pP] at L111
    have nl0 : nl = 0 := L111.1
    rw [mP, pP]
    have hpos : 0 < n90 := by rw [hn90, em]; simp
    refine vcond_t (by rw [show (0 : Int) = Int.ofNat 0 from rfl, ltI_nat]; exact blt_t hpos) ?_
    intro g112
    have K112 : Kp h111.nx h111 g112 := (Kp.refl _ _).rsv 25
    have f112 := K112.ex (Nat.le_refl _)
    refine vcond_t rfl ?_
    have M2 : IntsAt h111 a90 n90 (Int.ofNat m :: rest.map Int.ofNat) := by have := M111; rw [em] at this; exact this
    refine SlAt.read (w := 1) M2 (k := 0) (by simp) fun b off vs hb hbn hr he => vreq_t (blt_t hpos) ⟨Int.ofNat m, ?_, ?_⟩
    · have he : vs = [.int .i64 (Int.ofNat m)] := he
      have : readAt g112 b (off + 0 * 1) 1 = some vs := by rw [readAt_ex (g := h111) hbn]; exact hr
      rw [he] at this
      exact this
    · have g112g : g112.get b7 = some (.cells [.int .i64 (Int.ofNat N), .slice aF nF cF] 30 .fix) := by rw [K112.get _ (by have := k111.nx; omega)]; exact g111
      refine ⟨_, read1 g112g (i := 0) rfl, ?_⟩
      have ok112 : (g112.grd []).Ok := ok111.kp K112
      obtain ⟨v62, h62, e62, a59, n60, c61, rfl, B62, K62⟩ := ct55 hO ok112 (m := m) (hmb m (by rw [em]; simp)) (N := N) h30
      refine ⟨_, _, _, h62, e62, ?_⟩
      intro g121
      have K62' : Kp g112.nx g112 g121 := Kp.rst (Kp.refl _ _) K62
      have K121 : Kp h111.nx h111 g121 := K112.trans (K62'.le K112.nx)
      have f121 := K121.ex (Nat.le_refl _)
      have X1 : BoolsAt (g121.grd []) am nm ((List.range N).map m.testBit) := (B111.to g121).keep (fun _ _ _ => rfl) (Nat.le_refl _) fun _ _ h => h
      have X2 : BoolsAt (g121.grd []) a59 n60 ((List.range N).map m.testBit) := B62.keep (fun _ _ _ => rfl) (Nat.le_refl _) fun _ _ h => h
      obtain ⟨v65, h65, e65, rfl, K65⟩ := ct49 hO X1 X2 (by simp; omega) (c0 := cm) (c1 := c61)
      refine ⟨_, h65, e65, ?_⟩
      intro g124
      refine vcond_t rfl (vcond_t rfl (vcond_t (by rw [nl0]; rfl) ?_))
      have K124 : Kp h111.nx h111 g124 := K121.trans (Kp.le (n := g121.nx) (show Kp g121.nx g121 g124 from Kp.rst (Kp.refl _ _) K65) K121.nx)
      have t124 : Tb (g124.grd []) := ht111.kp K124 ht111.1
      exact ⟨_, _, works_true t124, rfl⟩
  · have mP : modelP (Int.ofNat N) cls gs = ([], 5) := by
      unfold modelP
      rw [ha, if_neg (by decide)]
      show (if (solF N cls gs).how = 0 then _ else ([], if (solF N cls gs).how = 1 then _ else _)) = _
      rw [h1]; rfl
    have pP : proveP (Int.ofNat N) cls gs = ((solF N cls gs).lines, 0) := by
      unfold proveP
      rw [ha, if_neg (by decide)]
      show (if (solF N cls gs).how = 0 then _ else if (solF N cls gs).how = 2 then _ else _) = _
      rw [h1]; rfl
    rw [mP] at B111
    rw [pP] at L111
    have nm0 : nm = 0 := B111.1
    have nll := L111.1
    rw [mP, pP]
    have n0 : n90 = 0 := by rw [hn90, em]; rfl
    have llen : (solF N cls gs).lines.length = L.length + 1 := by rw [eL]; simp
    simp only at nll
    refine vcond_f (by rw [n0]; rfl) (vcond_f rfl (vcond_f (by rw [nm0]; rfl) (vcond_f rfl (vcond_f (eqI_f (by rw [nll, llen]; simp only [Int.ofNat_eq_natCast]; omega)) (vcond_f (ltI_f (by rw [nll]; simp only [Int.ofNat_eq_natCast]; omega)) ?_)))))
    rw [show wrapF .i64 (Int.ofNat nl - 1) = Int.ofNat L.length by rw [wrap64 (by simp only [Int.ofNat_eq_natCast]; omega) (by simp only [Int.ofNat_eq_natCast]; omega)]; simp only [Int.ofNat_eq_natCast]; omega]
    refine isNat_i (IntssAt.rd (h := h111) L111 (k := L.length) (by simp only; omega) fun aE nE cE XE => ?_)
    have hE : nE = 0 := by
      have h3 := XE.1
      have : (solF N cls gs).lines[L.length]'(by omega) = [] := by simp [eL]
      simp only at h3
      rw [this] at h3; exact h3
    refine vcond_f (by rw [hE]; rfl) ⟨_, _, _, read1 g111 (i := 1) rfl, ?_⟩
    have PL : IntssAt h111 al nl (solF N cls gs).lines := L111
    refine (ct56 hO ok111 (g0 := h111) (F.to h111) (by omega) (B := h111.nx) (Nat.le_refl _) (Nat.le_refl _) (c0 := cF)).s fun a6 n6 c6 h6 ⟨A6, k6⟩ => ?_
    exact lp10_0 hN hcl hc hg gl len rup eL ok111 ht111 (by have := k111.nx; omega) g111 (F.to h111) (G.to h111) PL (Q := Yes) (fun _ => rfl) _ 0 (Nat.zero_add _) k6 (by simpa using A6)
theorem law10 {vars many : Nat} {cl : List Int} (p : PuzOk vars many cl) {x1 x2 : Int} (h1 : -128 ≤ x1 ∧ x1 < 128) (h2 : -128 ≤ x2 ∧ x2 < 128) {h : Hp} (ok : h.Ok) (ht : Tb h) :
    Ret Tryd.prog Ow 10 [.agg (puzV vars many cl).toArray, .int .i8 x1, .int .i8 x2] h Yes := by
  have hO : Oth Ow := Ow_oth
  refine rk10 _ _ _ (Ow_oth _ _ _ (by decide)) ?_
  unfold T10
  have pv := p.v
  refine vreq_t (by simp [puzV, one]) ?_
  intro g1
  have e1 : g1.get h.nx = some (.cells (puzV vars many cl) 26 .fix) := get_add_same h _
  have k1 : Kp h.nx h g1 := (Kp.refl _ _).add (Nat.le_refl _) _
  have n1 : g1.nx = h.nx + 1 := rfl
  have pl : (puzV vars many cl).length = 44 := by simp [puzV, p.len]
  have rd : readAt g1 h.nx 0 44 = some (puzV vars many cl) := by rw [readAt_get e1 (by omega), List.drop_zero, ← pl, List.take_length]
  refine ⟨_, rd, ?_⟩
  obtain ⟨v7, h7, e7, a5, n5, c6, rfl, F7, k7⟩ := ct16 hO (ok.kp k1) p (x1 := 8) ⟨by decide, by decide⟩
  refine ⟨_, _, _, _, _, e7, ?_⟩
  have hmod : 0 ≤ (vars : Int).tmod 8 ∧ (vars : Int).tmod 8 < 8 := ⟨Int.tmod_nonneg _ (by omega), Int.tmod_lt_of_pos _ (by omega)⟩
  obtain ⟨N, hNe⟩ : ∃ N : Nat, 1 + (vars : Int).tmod 8 = Int.ofNat N := ⟨(1 + (vars : Int).tmod 8).toNat, by simp only [Int.ofNat_eq_natCast]; omega⟩
  rw [hNe] at e7 F7 ⊢
  have hN : 1 ≤ N ∧ N ≤ 8 := by simp only [Int.ofNat_eq_natCast] at hNe; omega
  have hNi : (1 : Int) ≤ Int.ofNat N ∧ Int.ofNat N ≤ 30 := by simp only [Int.ofNat_eq_natCast]; omega
  obtain ⟨cn, co⟩ := clsN_ok p (N := Int.ofNat N) hNi (many % 15)
  intro g8
  have kh7 := k1.trans (k7.le k1.nx)
  have ok7 := ok.kp kh7
  have ea : g8.get h7.nx = some (.cells [.int .i64 0, .slice none 0 0] 30 .fix) := get_add_same ..
  have gu : g8.guarded h7.nx = false := guarded_of fun q hq => by have := ok7.gd q hq; omega
  refine vreq_t (canW_t ea (by decide) gu (by simp) rfl) ?_
  intro g9 g10
  have w9 : g9.get h7.nx = some (.cells [.int .i64 (Int.ofNat N), .slice a5 n5 c6] 30 .fix) := (wr_get ea (by decide) gu (by simp) rfl).trans rfl
  have n9 : g9.nx = h7.nx + 1 := nx_wr ..
  have k10 : Kp h7.nx h7 g10 := (((Kp.refl h7.nx h7).add (Nat.le_refl _) _).wr (Nat.le_refl _) _ _).rsv 11
  have w10 : g10.get h7.nx = some (.cells [.int .i64 (Int.ofNat N), .slice a5 n5 c6] 30 .fix) := w9
  have n10 : g10.nx = g9.nx + 11 := rfl
  have kh10 := kh7.trans (k10.le kh7.nx)
  have ok10 := ok.kp kh10
  refine ⟨_, read1 w10 (i := 0) rfl, _, read1 w10 (i := 0) rfl, _, _, ct21 hO h1.1 h1.2 hNi.1 hNi.2 _, ?_⟩
  intro g15
  refine ⟨_, _, ct21 hO h2.1 h2.2 hNi.1 hNi.2 _, ?_⟩
  intro g18
  have e18 : g18 = g10 := rfl
  obtain ⟨l1, l1'⟩ := litP_ok h1.1 h1.2 hNi.1 hNi.2
  obtain ⟨l2, l2'⟩ := litP_ok h2.1 h2.2 hNi.1 hNi.2
  generalize litP x1 (Int.ofNat N) = y1 at *
  generalize litP x2 (Int.ofNat N) = y2 at *
  have fr : g18.get (g9.nx + 8) = none := by
    rw [e18]
    show g9.get (g9.nx + 8) = none
    have q : g9.Fresh := (ok7.fr.add _).wr _ _ _
    exact q _ (Nat.le_add_right _ _)
  refine vreq_t (free_t fr) ?_
  intro g19
  have k19 : Kp h7.nx h7 g19 := k10.lay (h' := g10) (by omega) (by omega) _
  have kh19 := kh7.trans (k19.le kh7.nx)
  have ok19 := ok.kp kh19
  have n19 : g19.nx = g10.nx := rfl
  have w19 : g19.get h7.nx = some (.cells [.int .i64 (Int.ofNat N), .slice a5 n5 c6] 30 .fix) := by
    show (g10.lay _ _).get _ = _
    rw [get_lay, if_neg (by omega)]; exact w10
  have w19b : g19.get (g9.nx + 8) = some (.cells [.int .i64 y1, .int .i64 y2] 3 .fix) := by
    show (g10.lay _ _).get _ = _
    rw [get_lay, if_pos rfl]
  have X19 : IntsAt (g19.grd []) (some ⟨g9.nx + 8, 0, none⟩) 2 [y1, y2] := ints_of_get (h := g19.grd []) (xs := [y1, y2]) w19b (by show g9.nx + 8 < g10.nx; omega) (by simp) fun i hi => by
    match i, hi with
    | 0, _ => rfl
    | 1, _ => rfl
  have ok19' : (g19.grd []).Ok := ok19
  refine (ct19 hO ok19' X19 (by simp) (fun x hx => by simp at hx; rcases hx with rfl | rfl <;> assumption) (c0 := 2)).s fun a20 n21 c22 h23 ⟨X23, K23, _, _⟩ => ?_
  intro g24
  have K24 : Kp g19.nx g19 g24 := Kp.rst (Kp.refl _ _) K23
  have k24 : Kp h7.nx h7 g24 := k19.trans (K24.le k19.nx)
  have kh24 := kh7.trans (k24.le kh7.nx)
  have ok24 := ok.kp kh24
  have ht24 := ht.kp kh24 ht.1
  have w24 : g24.get h7.nx = some (.cells [.int .i64 (Int.ofNat N), .slice a5 n5 c6] 30 .fix) := by rw [K24.get _ (by omega)]; exact w19
  have f24 := k24.ex (Nat.le_refl _)
  have X24 : IntsAt g24 a20 n21 (clauseN [y1, y2]) := X23.keep (fun _ _ _ => rfl) (Nat.le_refl _) fun _ _ h => h
  have hb : h7.nx < g24.nx := by have := K24.nx; have : g18.nx = g10.nx := rfl; omega
  have hc : ∀ l ∈ clsN (Int.ofNat N) cl (many % 15), Cv (Int.ofNat N) l := fun l hl => (co l hl).1
  refine vcond_split (fun _ => ?_) fun _ => ?_
  · exact tail10 hN (by omega) hc (gs := []) ⟨List.Pairwise.nil, fun _ h => by cases h⟩ ok24 ht24 hb w24 (F7.to g24) (SlAt.nil ..)
  · refine tail10 hN (by omega) hc (gs := clauseN [y1, y2]) ⟨clauseN_dif _, fun x hx => ?_⟩ ok24 ht24 hb w24 (F7.to g24) X24
    exact clauseN_mem (l := [y1, y2]) (P := fun x => Lit x ∧ (x.natAbs : Int) ≤ Int.ofNat N) (fun x hx => by
      simp at hx
      rcases hx with rfl | rfl
      · exact ⟨l1, by simp only [Int.ofNat_eq_natCast, Int.toNat_natCast] at *; omega⟩
      · exact ⟨l2, by simp only [Int.ofNat_eq_natCast, Int.toNat_natCast] at *; omega⟩) x hx
end Go.Proofs.YtfgfhplgnfbaaaaDoor
