/- Contracts: Cells and Reach, of the code and of the reference; the law's small functions. -/
import Derived.Test.YtngcjpkccnfjiaaGreatDoorYE
import Derived.Test.YtngcjpkccnfjiaaGreatDoorYD
import Derived.Lib.LaidTab
import Derived.WalkKit
import Derived.ProofKit
import Derived.OpenShut
import Derived.Deep.DeepHandedRow
import Derived.Test.YtngcjpkccnfjiaaGreatDoorCards
import Derived.Test.YtngcjpkccnfjiaaGreatDoorTie
namespace Go.Proofs.YtngcjpkccnfjiaaGreatDoor
set_option maxRecDepth 100000
open Go Go.Ev
theorem checkP_cells {W : List Int} {top : Int} {R : List Int} {l : List Nat} (h : checkP W top R = some l) : 1 ≤ W.length ∧ W.length ≤ 200 ∧ 1 ≤ top ∧ top ≤ W.length ∧ R.length ≤ 10 ∧ (W.drop top.toNat).any (· != 0) = false ∧ cellsG W top.toNat (top.toNat + 1) 1 = some l ∧ R.any (fun w => !(wordB (beginP W l) w)) = false ∧ l.all (okc W (beginP W l)) = true := by
  unfold checkP at h
  split at h
  · cases h
  · rename_i hn
    split at h
    · cases h
    · rename_i hz
      split at h
      · cases h
      · rename_i l' hc
        split at h
        · cases h
        · rename_i hr
          split at h
          · rename_i hk
            obtain rfl := Option.some.inj h
            have e1 : ¬ W.length < 1 := fun hh => hn (.inl hh)
            have e2 : ¬ 200 < W.length := fun hh => hn (.inr (.inl hh))
            have e3 : ¬ top < 1 := fun hh => hn (.inr (.inr (.inl hh)))
            have e4 : ¬ (W.length : Int) < top := fun hh => hn (.inr (.inr (.inr (.inl hh))))
            have e5 : ¬ 10 < R.length := fun hh => hn (.inr (.inr (.inr (.inr (.inr hh)))))
            exact ⟨by omega, by omega, by omega, by omega, by omega, by simpa using hz, hc, by simpa using hr, hk⟩
          · cases h
section
variable {O : CallF} (hO : Oth O) {g : Hp} (ok : g.Ok) {aw : Option Addr} {nw cw : Nat} {W : List Int} {top : Int} {ar : Option Addr} {nr cr : Nat} {R : List Int} (A : HA g aw nw cw W ar nr cr R)
include hO ok A
/-- 'Reach' of the reference. -/
theorem ct39 {res : List Nat} {f : Nat} (hres : ∀ l, formedR W top R = some l → reachO W 1 f 0 (withP 1 R []) = some res) : Ret Tryz.prog O 39 [.agg #[.slice aw nw cw, .int .i64 top, .slice ar nr cr]] g fun v h' => ∃ a n c, v = .tuple #[.slice a n c, .int .i64 (if (formedR W top R).isSome then 0 else 2)] ∧ IntsAt h' a n (((formedR W top R).map fun _ => res).getD [] |>.map Int.ofNat) ∧ Kp g.nx g h' := by
  refine rk39 _ _ _ _ _ _ _ (hO _ _ _ (by decide)) ?_
  unfold T39
  intro g1
  have k1 : Kp g.nx g g1 := (Kp.refl _ g).add (Nat.le_refl _) _
  haveI : Ft g g1 := k1.ex (Nat.le_refl _)
  have ok1 : g1.Ok := ok.add _
  obtain ⟨v, h', e, rfl, k⟩ := ct63 hO ok1 (A.to g1) (top := top)
  have s1 : g1.get g.nx = some (.cells [.slice aw nw cw, .int .i64 top, .slice ar nr cr] 24 .fix) := get_add_same ..
  refine ⟨_, _, _, _, _, _, _, rd3 s1, _, h', e, ?_⟩
  have kk : Kp g.nx g h' := k1.trans (k.le (Nat.le_succ _))
  cases hf : formedR W top R with
  | none => exact vcond_t rfl ⟨_, _, _, rfl, SlAt.nil .., kk⟩
  | some l =>
    obtain ⟨f1, f2, f3, f4, f5, f6, f7, f8, f9⟩ := formedR_cells hf
    haveI : Ft g h' := kk.ex (Nat.le_refl _)
    have s2 := (k.get _ (Nat.lt_succ_self _)).trans s1
    refine vcond_f rfl ⟨_, _, _, _, _, _, _, rd3 s2, _, _, _, read1 (i := 2) s2 rfl, ct70 hO (g0 := g) (ok1.kp k) A.sw A.w (by omega) (fr := 1) (A.sr.at_.to h') A.r (by omega) (hres l hf) fun a n c h2 A2 k2 => ?_⟩
    exact ⟨_, _, _, rfl, A2.ints, kk.trans (k2.le kk.nx)⟩
/-- 'Reach'. -/
theorem ct38 (tb : Tb g) {s : Mv} {rs ks : List Int} (hrun : ∀ l, checkP W top R = some l → runO W 1 R [] = some (s, rs, ks)) : Ret Tryz.prog O 38 [.agg #[.slice aw nw cw, .int .i64 top, .slice ar nr cr]] g fun v h' => ∃ a n c, v = .tuple #[.slice a n c, .int .i64 (if (checkP W top R).isSome then 0 else 2)] ∧ IntsAt h' a n (((checkP W top R).map fun _ => s.ord).getD [] |>.map Int.ofNat) ∧ Kp g.nx g h' := by
  refine rk38 _ _ _ _ _ _ _ (hO _ _ _ (by decide)) ?_
  unfold T38
  intro g1
  have k1 : Kp g.nx g g1 := (Kp.refl _ g).add (Nat.le_refl _) _
  haveI : Ft g g1 := k1.ex (Nat.le_refl _)
  have ok1 : g1.Ok := ok.add _
  have n0 : 0 < g.nx := by have := tb.1; omega
  obtain ⟨v, h', e, rfl, k⟩ := ct41 hO ok1 (A.to g1) (top := top) (tb.kp k1 n0)
  have s1 : g1.get g.nx = some (.cells [.slice aw nw cw, .int .i64 top, .slice ar nr cr] 24 .fix) := get_add_same ..
  refine ⟨_, _, _, _, _, _, _, rd3 s1, _, h', e, ?_⟩
  have kk : Kp g.nx g h' := k1.trans (k.le (Nat.le_succ _))
  cases hf : checkP W top R with
  | none => exact vcond_t rfl ⟨_, _, _, rfl, SlAt.nil .., kk⟩
  | some l =>
    obtain ⟨f1, f2, f3, f4, f5, f6, f7, f8, f9⟩ := checkP_cells hf
    haveI : Ft g h' := kk.ex (Nat.le_refl _)
    have s2 := (k.get _ (Nat.lt_succ_self _)).trans s1
    have ok' : h'.Ok := ok1.kp k
    obtain ⟨v, h2, e2, p, ao, no, co, ar', nr', cr', ak, nk, ck, rfl, P, pn, pf, m, Ar, Ak, d1, d2, d3, k2, ok2⟩ := ct62 hO ok' (A.sw.to h') A.w (by omega) (A.sr.at_.to h') A.r (by omega) (top := top) (SlAt.nil 1 EInt h' : IntsAt h' none 0 []) (fun x hx => by cases hx) (by decide) (cm := 0) (fr := 1) (by omega) (hrun l hf)
    refine vcond_f rfl ⟨_, _, _, _, _, _, _, rd3 s2, _, _, _, _, _, _, _, _, _, _, _, h2, e2, ?_⟩
    intro g30
    have o30 : g30.get h2.nx = some (.cells [.slice none 0 0, .int .i64 0, .slice none 0 0] 24 .fix) := get_add_same ..
    have u30 : g30.guarded h2.nx = false := ok2.lt.free (h := g30) (Nat.le_refl _)
    have l3 : 0 + [Value.slice (some ⟨p.oW, 0, none⟩) p.n p.n, .int .i64 (Int.ofNat s.top), .slice ar' nr' cr'].length ≤ [Value.slice none 0 0, .int .i64 0, .slice none 0 0].length := by show 3 ≤ 3; decide
    refine vreq_t (canW_t o30 (by decide) u30 l3 rfl) ?_
    intro g31
    have k31 : Kp h2.nx h2 g31 := ((Kp.refl _ h2).add (Nat.le_refl _) _).wr (Nat.le_refl _) _ _
    have m31 : MvAt p g31 s ao no co := m.kp P k31
    show ∃ a34 n35 c36, readAt g31 p.M (0 + 3) 1 = some [.slice a34 n35 c36] ∧ _
    refine ⟨_, _, _, m31.rd (i := 3) rfl, _, _, _, rfl, m31.A.ints, kk.trans ((k2.trans (k31.le k2.nx)).le kk.nx)⟩
/-- 'Cells'. -/
theorem ct36 (tb : Tb g) : Ret Tryz.prog O 36 [.agg #[.slice aw nw cw, .int .i64 top, .slice ar nr cr]] g fun v h' => ∃ a n c, v = .tuple #[.slice a n c, .int .i64 (if (checkP W top R).isSome then 0 else 2)] ∧ IntsAt h' a n (((checkP W top R).getD []).map Int.ofNat) ∧ Kp g.nx g h' := by
  refine rk36 _ _ _ _ _ _ _ (hO _ _ _ (by decide)) ?_
  unfold T36
  intro g1
  have k1 : Kp g.nx g g1 := (Kp.refl _ g).add (Nat.le_refl _) _
  haveI : Ft g g1 := k1.ex (Nat.le_refl _)
  have ok1 : g1.Ok := ok.add _
  have n0 : 0 < g.nx := by have := tb.1; omega
  obtain ⟨v, h', e, rfl, k⟩ := ct41 hO ok1 (A.to g1) (top := top) (tb.kp k1 n0)
  have s1 : g1.get g.nx = some (.cells [.slice aw nw cw, .int .i64 top, .slice ar nr cr] 24 .fix) := get_add_same ..
  refine ⟨_, _, _, _, _, _, _, rd3 s1, _, h', e, ?_⟩
  have kk : Kp g.nx g h' := k1.trans (k.le (Nat.le_succ _))
  cases hf : checkP W top R with
  | none => exact vcond_t rfl ⟨_, _, _, rfl, SlAt.nil .., kk⟩
  | some l =>
    obtain ⟨f1, f2, f3, f4, f5, f6, f7, f8, f9⟩ := checkP_cells hf
    obtain ⟨tp, rfl⟩ : ∃ m : Nat, top = Int.ofNat m := Int.eq_ofNat_of_zero_le (by omega)
    have f3 : 1 ≤ tp := Int.ofNat_le.1 f3
    have f4 : tp ≤ W.length := Int.ofNat_le.1 f4
    have hc : cellsG W tp (tp + 1) 1 = some l := f7
    have m1 : g.nx + 1 ≤ h'.nx := k.nx
    have s2 : h'.get g.nx = _ := (k.get _ (Nat.lt_succ_self _)).trans s1
    refine vcond_f rfl ?_
    intro g11
    have s11 : g11.get g.nx = _ := (get_add_ne (by omega)).trans s2
    have o11 : g11.get h'.nx = some (.cells [.slice none 0 0] 22 .fix) := get_add_same ..
    have n11 : g11.nx = h'.nx + 1 := rfl
    have k11 : Kp g.nx g g11 := kk.add kk.nx _
    refine ⟨_, _, _, read1 (i := 0) s11 rfl, _, read1 (i := 1) s11 rfl, ct105 hO fun u1 u2 u3 eu1 eu2 eu3 => vreq_t body138 ?_⟩
    have nu1 : u1.nx = h'.nx + 2 := by rw [eu1, nx_add, n11]
    have nu2 : u2.nx = h'.nx + 3 := by rw [eu2, nx_add, nu1]
    have nu3 : u3.nx = h'.nx + 4 := by rw [eu3, nx_add, nu2]
    have eu : Kp h'.nx h' u3 := by
      rw [eu3, eu2, eu1]
      exact ((((Kp.refl _ h').add (Nat.le_refl _) _).add (Nat.le_succ _) _).add (by rw [nx_add, nx_add]; omega) _).add (by rw [nx_add, nx_add, nx_add]; omega) _
    have vo : u3.get h'.nx = some (.cells [.slice none 0 0] 22 .fix) := by
      rw [eu3, get_add_ne (by omega), eu2, get_add_ne (by omega), eu1, get_add_ne (by omega)]; exact o11
    have vw : u3.get g11.nx = some (.cells [.slice aw nw cw] 22 .fix) := by
      rw [eu3, get_add_ne (by omega), eu2, get_add_ne (by omega), eu1]; exact get_add_same ..
    have vf : u3.get u1.nx = some (.cells [.int .i64 1] 3 .fix) := by
      rw [eu3, get_add_ne (by omega), eu2]; exact get_add_same ..
    have vt : u3.get u2.nx = some (.cells [.int .i64 (Int.ofNat tp)] 3 .fix) := by rw [eu3]; exact get_add_same ..
    have ku : Kp g.nx g u3 := kk.trans (eu.le kk.nx)
    have kgn := kk.nx
    have hln : ∀ (f p : Nat) (l : List Nat), cellsG W tp f p = some l → l.length + p ≤ tp := by
      intro f
      induction f with
      | zero => intro p l h; cases h
      | succ f ih =>
        intro p l h
        rcases cellsG_cons h with ⟨h1, _, _, l', rfl, h4⟩ | ⟨rfl, rfl⟩
        · have := ih _ _ h4
          simp only [List.length_cons]; omega
        · simp
    have hll := hln _ _ _ hc
    refine range138 hO (aw := aw) (nw := nw) (cw := cw) (h := u3) (Inv := fun r0 l' x => x.Ok ∧ Kp g.nx g x ∧ u3.nx < x.nx ∧ x.get u3.nx = some (.loop r0) ∧ (∀ o, o < u3.nx → o ≠ h'.nx → x.get o = u3.get o) ∧ ∃ a n c acc, x.get h'.nx = some (.cells [.slice a n c] 22 .fix) ∧ AccI 3 x (u3.nx + 1) a n c (acc.map Int.ofNat) ∧ acc ++ l' = l)
      (Brk := fun _ => False)
      A.w f4 (by omega) hc (read1 (i := 0) ((get_add_ne (by omega)).trans vf) rfl) ⟨(ok.kp ku).add _, ku.add ku.nx _, Nat.lt_succ_self _, get_add_same .., fun o ho _ => get_add_ne (by omega), none, 0, 0, [], (get_add_ne (by omega)).trans vo, AccI.nil .., rfl⟩ ?_ ?_ ?_ ?_ ?_
    · rintro l' x ⟨okx, kx, nx, gx, lo, _⟩
      haveI : Ft g x := kx.ex (Nat.le_refl _)
      exact ⟨okx, read1 (i := 0) ((lo _ (by omega) (by omega)).trans vt) rfl, read1 (i := 0) ((lo _ (by omega) (by omega)).trans vw) rfl, A.sw.to x⟩
    · rintro l' x x' ⟨okx, kx, nx, gx, lo, a, n, c, acc, o1, A1, ha⟩ k
      exact ⟨okx.kp k, kx.trans (k.le kx.nx), Nat.lt_of_lt_of_le nx k.nx, (k.get _ nx).trans gx, fun o ho hne => (k.get o (by omega)).trans (lo o ho hne), a, n, c, acc, (k.get _ (by omega)).trans o1, A1.keep (fun o ho _ => k.get o ho) k.nx, ha⟩
    · rintro p l' x a3 n3 c3 ⟨okx, kx, nx, gx, lo, a, n, c, acc, o1, A1, ha⟩ hpt hp0 hgd sp
      have gdx : GdLt x g.nx := ok.lt.kp kx
      refine rd36_0 (hO := hO _ _ _ yB_ne) (hg := gx) (hh := ?_) ..
      unfold TR36_0
      refine vbeg_t gx rfl (gdx.free ku.nx) fun x1 gx1 bx1 => ?_
      have b1 : Kp u3.nx x x1 := bx1.kp (Nat.le_refl _) nx
      have nx1 : x1.nx = x.nx := bx1.nx
      have kg1 : Kp g.nx g x1 := kx.trans (b1.le ku.nx)
      have ok1 : x1.Ok := okx.kp b1
      have A2 : AccI 3 x1 (u3.nx + 1) a n c (acc.map Int.ofNat) := A1.keep (fun o ho ha' => bx1.get o (by have := A1.fresh ha'; omega)) (by omega)
      have o2 : x1.get h'.nx = _ := (bx1.get _ (by omega)).trans o1
      refine ⟨_, _, _, read1 (i := 0) o2 rfl, ?_⟩
      intro g5
      have la : acc.length ≤ l.length := by rw [← ha]; simp
      refine appI2 AppT22 A2 (by omega) (fun q hq => by have := ok.lt.kp kg1 q hq; omega) (by simp; omega) fun a' n' c' h9 A9 k9 kB new => ?_
      have o9 : h9.get h'.nx = _ := (kB.get _ (by omega)).trans o2
      have kg9 : Kp g.nx g h9 := kg1.trans (kB.le (by omega))
      have gd9 : GdLt h9 g.nx := ok.lt.kp kg9
      obtain ⟨d1, w1⟩ := one_wr o9 (gd9.free kgn) (w := .slice a' n' c') rfl
      refine vreq_t d1 ?_
      intro g10
      have kg10 : Kp g.nx g g10 := kg9.wr kgn _ _
      have gl10 : g10.get u3.nx = _ := (wr_get_ne _ _ _ _ (by omega)).trans ((kB.get _ (Nat.lt_succ_self _)).trans gx1)
      have n10 : g10.nx = h9.nx := nx_wr ..
      have n9 : x1.nx ≤ h9.nx := k9.nx
      refine vout_n gl10 rfl rfl ((ok.lt.kp kg10).free ku.nx) fun x7 gl7 b7 => .inl ⟨rfl, ?_, ?_, by rw [b7.nx]; omega, gl7, fun o ho hne => ?_, a', n', c', acc ++ [p], ?_, ?_, by rw [← ha]; simp⟩
      · exact ((ok1.kp kB).wr _ _ _).kp (b7.kp (Nat.zero_le _) (by omega) : Kp 0 g10 x7)
      · exact kg10.trans (b7.kp ku.nx (by omega))
      · exact (b7.get o (by omega)).trans ((wr_get_ne _ _ _ _ hne).trans ((kB.get o (by omega)).trans ((bx1.get o (by omega)).trans (lo o ho hne))))
      · exact (b7.get _ (by omega)).trans w1
      · rw [List.map_append]
        exact A9.keep (fun o ho ha' => by
          have := A9.fresh ha'
          exact (b7.get o (by omega)).trans (wr_get_ne _ _ _ _ (by omega))) (by rw [b7.nx, n10]; exact Nat.le_refl _)
    · rintro x ⟨okx, kx, nx, gx, lo, a, n, c, acc, o1, A1, ha⟩
      refine vend_n gx (by show (0 : Nat) ≠ 1; decide) rfl ((ok.lt.kp kx).free ku.nx) fun bd => ?_
      have ha : acc = l := by simpa using ha
      subst ha
      refine ⟨_, _, _, read1 (i := 0) ((bd.get _ (by omega)).trans o1) rfl, _, _, _, rfl, ?_, kx.trans (bd.kp ku.nx nx)⟩
      have : AccI 3 (x.del u3.nx) (u3.nx + 1) a n c (acc.map Int.ofNat) := A1.keep (fun o ho ha' => bd.get o (by have := A1.fresh ha'; omega)) (by rw [bd.nx]; exact Nat.le_refl _)
      exact this.ints
    · rintro x ⟨⟩
end
end Go.Proofs.YtngcjpkccnfjiaaGreatDoor
/- Plain law: the code's check is the reference's. -/
namespace Go.Proofs.YtngcjpkccnfjiaaGreatDoor
open Go Go.Ev
theorem goodB_R {s k : Int} (h : goodB s k = true) : goodR s k = true := by
  unfold goodB at h
  unfold goodR
  split at h
  · rename_i hk
    have : s = 1 := by simpa using h
    subst hk this
    rfl
  · simp only [Bool.and_eq_true, decide_eq_true_eq] at h ⊢
    exact ⟨⟨h.1.1.2, h.1.2⟩, h.2⟩
theorem cellsG_R {W : List Int} {top : Nat} : ∀ {f p : Nat} {l : List Nat}, cellsG W top f p = some l → cellsR W top f p = some l := by
  intro f
  induction f with
  | zero => intro p l h; cases h
  | succ f ih =>
    intro p l h
    rcases cellsG_cons h with ⟨h1, h2, h3, l', rfl, h4⟩ | ⟨rfl, rfl⟩
    · unfold cellsR
      rw [if_pos h1, if_neg (fun hh => hh.elim (fun h => by omega) (fun h => by rw [goodB_R h3] at h; cases h)), ih h4]; rfl
    · unfold cellsR
      rw [if_neg (Nat.lt_irrefl _), if_pos rfl]
theorem cellsR_cons {W : List Int} {top : Nat} {f p : Nat} {l : List Nat} (h : cellsR W top (f + 1) p = some l) : (p < top ∧ 0 ≤ W.getD p 0 ∧ goodR (hdS (W.getD p 0)) (hdK (W.getD p 0)) = true ∧ ∃ l', l = p :: l' ∧ cellsR W top f (p + 1 + (hdS (W.getD p 0)).toNat) = some l') ∨ (p = top ∧ l = []) := by
  unfold cellsR at h
  split at h
  · split at h
    · cases h
    · rename_i h1 h2
      obtain ⟨l', h3, h4⟩ := Option.map_eq_some_iff.1 h
      exact .inl ⟨h1, by omega, by cases hg : goodR (hdS (W.getD p 0)) (hdK (W.getD p 0)) <;> simp_all, l', h4.symm, h3⟩
  · split at h
    · exact .inr ⟨‹_›, (Option.some.inj h).symm⟩
    · cases h
theorem fieldsW_length {W : List Int} {p : Nat} (h : p + 1 + (hdS (W.getD p 0)).toNat ≤ W.length) : (fieldsW W p).length = (hdS (W.getD p 0)).toNat := by
  unfold fieldsW
  rw [List.length_take, List.length_drop]
  omega
theorem cellsR_G {W : List Int} {top : Nat} (htop : top ≤ W.length) (L : List Nat) : ∀ {f p : Nat} {l : List Nat}, cellsR W top f p = some l → cellsOk W L l = true → cellsG W top f p = some l := by
  intro f
  induction f with
  | zero => intro p l h; cases h
  | succ f ih =>
    intro p l h hk
    rcases cellsR_cons h with ⟨h1, h2, h3, l', rfl, h4⟩ | ⟨rfl, rfl⟩
    · unfold cellsOk at hk
      rw [List.all_cons, Bool.and_eq_true] at hk
      have hle := (cellsR_mem h4).1
      have hfl := fieldsW_length (W := W) (p := p) (by omega)
      obtain ⟨s1, s2⟩ := cellsR_bnd (by omega) h3
      have g : goodB (hdS (W.getD p 0)) (hdK (W.getD p 0)) = true := by
        have hf := hk.1
        unfold fieldsR at hf
        split at hf
        · cases hf
        · rename_i hn
          unfold goodB
          split
          · rename_i hk4
            have : ¬ (fieldsW W p).length ≠ 1 := fun hh => hn (.inr (.inr (.inr ⟨hk4, hh⟩)))
            have : hdS (W.getD p 0) = 1 := by omega
            rw [this]; rfl
          · unfold goodR at h3
            simp only [Bool.and_eq_true, decide_eq_true_eq] at h3 ⊢
            exact ⟨⟨⟨s1, h3.1.1⟩, h3.1.2⟩, h3.2⟩
      unfold cellsG
      rw [if_pos h1, if_neg (fun hh => hh.elim (fun h => by omega) (fun h => by rw [g] at h; cases h)), ih h4 hk.2]; rfl
    · unfold cellsG
      rw [if_neg (Nat.lt_irrefl _), if_pos rfl]
theorem setAll_get (l : List Nat) : ∀ (B : List Bool) (i : Nat), i < B.length → ((setAll B l).getD i false = true ↔ i ∈ l ∨ B.getD i false = true) := by
  induction l with
  | nil => intro B i hi; simp [setAll]
  | cons x l ih =>
    intro B i hi
    show (setAll (B.set x true) l).getD i false = true ↔ _
    rw [ih _ _ (by simpa using hi)]
    have : (B.set x true).getD i false = if x = i then true else B.getD i false := by
      simp only [List.getD, List.getElem?_set]
      by_cases hx : x = i
      · subst hx; simp [hi]
      · simp [hx]
    rw [this]
    by_cases hx : x = i
    · subst hx; simp
    · rw [if_neg hx]
      simp only [List.mem_cons]
      constructor
      · rintro (h | h)
        · exact .inl (.inr h)
        · exact .inr h
      · rintro ((h | h) | h)
        · exact absurd h.symm hx
        · exact .inl h
        · exact .inr h
theorem begin_get {W : List Int} {l : List Nat} {i : Nat} (hi : i < W.length) : (beginP W l).getD i false = true ↔ i ∈ l := by
  unfold beginP
  rw [setAll_get _ _ _ (by simpa using hi)]
  simp [List.getD, hi]
theorem begin_length {W : List Int} {l : List Nat} : (beginP W l).length = W.length := by
  unfold beginP; rw [setAll_length]; simp
theorem word_RB {W : List Int} {l : List Nat} (hl : ∀ x ∈ l, x < W.length) (h1 : 1 ≤ W.length) (w : Int) : wordB (beginP W l) w = wordR l w := by
  unfold wordB wordR
  by_cases h2 : Int.tmod w 2 ≠ 0
  · rw [if_pos h2]
    rw [if_neg (fun hh => by subst hh; exact h2 rfl), if_pos h2]
  · rw [if_neg h2, if_neg h2]
    by_cases h0 : w < 0
    · rw [if_pos h0, if_neg (by omega)]
      symm
      rw [Bool.eq_false_iff, ne_eq, List.contains_iff_mem, List.mem_map]
      rintro ⟨a, _, ha⟩
      have h5 := Int.mul_tdiv_add_tmod w 2
      have h6 : Int.tmod w 2 = 0 := by simpa using h2
      have h3 : (0 : Int) ≤ Int.ofNat a := Int.natCast_nonneg a
      omega
    · rw [if_neg h0]
      obtain ⟨m, hm⟩ : ∃ m : Nat, Int.tdiv w 2 = Int.ofNat m := Int.eq_ofNat_of_zero_le (by rw [tdiv_eq, if_pos (by omega)]; omega)
      rw [hm, begin_length]
      have key : (l.map Int.ofNat).contains (Int.ofNat m) = decide (m ∈ l) := by
        rw [Bool.eq_iff_iff, List.contains_iff_mem, List.mem_map, decide_eq_true_eq]
        exact ⟨fun ⟨a, h, e⟩ => Int.ofNat_inj.1 e ▸ h, fun h => ⟨m, h, rfl⟩⟩
      rw [key]
      by_cases hw0 : w = 0
      · subst hw0
        have hm0 : m = 0 := (Int.ofNat_inj.1 (show Int.ofNat 0 = Int.ofNat m from hm)).symm
        subst hm0
        rw [if_neg (not_not_intro (by show (0 : Int) < W.length; omega)), if_pos rfl, if_pos rfl]
      · rw [if_neg hw0, if_neg hw0]
        by_cases hmn : m < W.length
        · rw [if_neg (by simpa using hmn)]
          show (beginP W l).getD m false = _
          rw [Bool.eq_iff_iff, begin_get hmn, decide_eq_true_eq]
        · rw [if_pos (by simpa using hmn)]
          symm
          rw [decide_eq_false_iff_not]
          exact fun hh => hmn (hl m hh)
theorem field_RB {W : List Int} {l : List Nat} (hl : ∀ x ∈ l, x < W.length) (h1 : 1 ≤ W.length) (k w : Int) : fieldB (beginP W l) k w = fieldR l k w := by
  unfold fieldB fieldR
  rw [word_RB hl h1]
theorem all_congr {α : Type} {p q : α → Bool} {l : List α} (h : ∀ x ∈ l, p x = q x) : l.all p = l.all q := by
  induction l with
  | nil => rfl
  | cons x l ih => rw [List.all_cons, List.all_cons, h x (List.mem_cons_self ..), ih fun y hy => h y (List.mem_cons_of_mem _ hy)]
theorem any_not {α : Type} (p : α → Bool) : ∀ (l : List α), l.any (fun w => !(p w)) = !(l.all p) := by
  intro l
  induction l with
  | nil => rfl
  | cons x l ih => rw [List.any_cons, List.all_cons, ih, Bool.not_and]
theorem formed_check (W : List Int) (top : Int) (R : List Int) : formedR W top R = checkP W top R := by
  unfold formedR checkP
  split
  · rfl
  · rename_i hn
    split
    · rfl
    · have h1 : 1 ≤ W.length := by have : ¬ W.length < 1 := fun hh => hn (.inl hh); omega
      have ht : top.toNat ≤ W.length := by
        have : ¬ (W.length : Int) < top := fun hh => hn (.inr (.inr (.inr (.inl hh))))
        omega
      generalize top.toNat = tp at ht
      cases hG : cellsG W tp (tp + 1) 1 with
      | some l =>
        have hR := cellsG_R hG
        rw [hR]
        simp only
        have hm := cellsR_mem hR
        have hl : ∀ x ∈ l, x < W.length := fun x hx => by have := hm.2 x hx; omega
        have e1 : R.any (fun w => !(wordB (beginP W l) w)) = !(R.all (wordR l)) := by
          have : (fun w => !(wordB (beginP W l) w)) = fun w => !(wordR l w) := by funext w; rw [word_RB hl h1]
          rw [this]
          exact any_not _ R
        have hgood : ∀ (f p : Nat) (l' : List Nat), cellsG W tp f p = some l' → ∀ x ∈ l', goodB (hdS (W.getD x 0)) (hdK (W.getD x 0)) = true := by
          intro f
          induction f with
          | zero => intro p l' h; cases h
          | succ f ih =>
            intro p l' h x hx
            rcases cellsG_cons h with ⟨_, _, h3, l2, rfl, h4⟩ | ⟨rfl, rfl⟩
            · rcases List.mem_cons.1 hx with rfl | hx
              · exact h3
              · exact ih _ _ h4 x hx
            · cases hx
        have e2 : l.all (okc W (beginP W l)) = cellsOk W l l := by
          unfold cellsOk
          refine all_congr fun x hx => ?_
          obtain ⟨m1, m2, m3, m4, m5⟩ := hm.2 x hx
          have hg := hgood _ _ _ hG x hx
          have hfl := fieldsW_length (W := W) (p := x) (by omega)
          unfold okc fieldsR
          rw [if_neg ?_]
          · exact all_congr fun w _ => field_RB hl h1 _ w
          · obtain ⟨s1, s2⟩ := hdS_bnd m3 hg
            unfold goodB at hg
            split at hg
            · rename_i hk
              have : hdS (W.getD x 0) = 1 := by simpa using hg
              rintro (h | h | h | ⟨_, h⟩) <;> omega
            · rename_i hk
              simp only [Bool.and_eq_true, decide_eq_true_eq] at hg
              rintro (h | h | h | ⟨h, _⟩)
              · omega
              · omega
              · omega
              · exact hk h
        rw [e1, e2]
        cases R.all (wordR l) <;> cases cellsOk W l l <;> rfl
      | none =>
        cases hR : cellsR W tp (tp + 1) 1 with
        | none => rfl
        | some l =>
          simp only
          cases hk : cellsOk W l l with
          | false => rfl
          | true => rw [cellsR_G ht l hR hk] at hG; cases hG
end Go.Proofs.YtngcjpkccnfjiaaGreatDoor
/- Plain law: moving cell by cell is laying what is reached. -/
namespace Go.Proofs.YtngcjpkccnfjiaaGreatDoor
open Go Go.Ev
def szW (W : List Int) (p : Nat) : Nat := 1 + (hdS (W.getD p 0)).toNat
def totalW (W : List Int) (o : List Nat) : Nat := (o.map (szW W)).sum
def posF (W : List Int) : Nat → List Nat → Nat → Nat
  | _, [], _ => 0
  | b, x :: xs, a => if x = a then b else posF W (b + szW W x) xs a
theorem posF_mem {W : List Int} : ∀ {o : List Nat} {b a : Nat}, a ∈ o → b ≤ posF W b o a := by
  intro o
  induction o with
  | nil => intro b a h; cases h
  | cons x xs ih =>
    intro b a h
    unfold posF
    split
    · exact Nat.le_refl _
    · rcases List.mem_cons.1 h with rfl | h
      · exact absurd rfl ‹_›
      · have := ih (b := b + szW W x) h; omega
theorem posF_not {W : List Int} : ∀ {o : List Nat} {b a : Nat}, a ∉ o → posF W b o a = 0 := by
  intro o
  induction o with
  | nil => intro b a _; rfl
  | cons x xs ih =>
    intro b a h
    unfold posF
    rw [if_neg (fun hh => h (by rw [hh]; exact List.mem_cons_self ..)), ih (fun hh => h (List.mem_cons_of_mem _ hh))]
theorem posF_app {W : List Int} : ∀ {o e : List Nat} {b a : Nat}, a ∈ o → posF W b (o ++ e) a = posF W b o a := by
  intro o
  induction o with
  | nil => intro e b a h; cases h
  | cons x xs ih =>
    intro e b a h
    show (if x = a then b else posF W (b + szW W x) (xs ++ e) a) = if x = a then b else posF W (b + szW W x) xs a
    split
    · rfl
    · rcases List.mem_cons.1 h with rfl | h
      · exact absurd rfl ‹_›
      · exact ih h
theorem posF_last {W : List Int} : ∀ {o : List Nat} {b a : Nat}, a ∉ o → posF W b (o ++ [a]) a = b + totalW W o := by
  intro o
  induction o with
  | nil => intro b a _; show (if a = a then b else _) = _; rw [if_pos rfl]; rfl
  | cons x xs ih =>
    intro b a h
    show (if x = a then b else posF W (b + szW W x) (xs ++ [a]) a) = _
    rw [if_neg (fun hh => h (by rw [hh]; exact List.mem_cons_self ..)), ih (fun hh => h (List.mem_cons_of_mem _ hh))]
    show _ = b + (szW W x + totalW W xs)
    omega
theorem totalW_app (W : List Int) (a b : List Nat) : totalW W (a ++ b) = totalW W a + totalW W b := by simp [totalW]
theorem totalW_erase {W : List Int} : ∀ {l : List Nat} {a : Nat}, a ∈ l → totalW W l = szW W a + totalW W (l.erase a) := by
  intro l
  induction l with
  | nil => intro a h; cases h
  | cons x l ih =>
    intro a h
    by_cases hx : x = a
    · subst hx; rw [List.erase_cons_head]; rfl
    · rw [List.erase_cons_tail (by simpa using hx)]
      have := ih (a := a) ((List.mem_cons.1 h).resolve_left (fun hh => hx hh.symm))
      show szW W x + totalW W l = szW W a + (szW W x + totalW W (l.erase a))
      omega
theorem totalW_sub {W : List Int} : ∀ {o l : List Nat}, o.Nodup → (∀ a ∈ o, a ∈ l) → totalW W o ≤ totalW W l := by
  intro o
  induction o with
  | nil => intro l _ _; exact Nat.zero_le _
  | cons x o ih =>
    intro l hn hs
    obtain ⟨h1, h2⟩ := List.nodup_cons.1 hn
    rw [totalW_erase (hs x (List.mem_cons_self ..))]
    have := ih (l := l.erase x) h2 fun a ha => (List.mem_erase_of_ne (fun hh => by subst hh; exact h1 ha)).2 (hs a (List.mem_cons_of_mem _ ha))
    show szW W x + totalW W o ≤ _
    omega
theorem length_total (W : List Int) (o : List Nat) : o.length ≤ totalW W o := by
  induction o with
  | nil => exact Nat.zero_le _
  | cons x o ih => show o.length + 1 ≤ szW W x + totalW W o; unfold szW; omega
/-- A word of a heap with some cells. -/
def Vw (l : List Nat) (w : Int) : Prop := Int.tmod w 2 ≠ 0 ∨ ∃ a : Nat, w = 2 * (a : Int) ∧ (a = 0 ∨ a ∈ l)
/-- A heap as defined, and what is collected of it: the cells from an address on. -/
structure Col (W : List Int) (fr tp : Nat) (l new : List Nat) : Prop where
  fr1 : 1 ≤ fr
  tpn : tp ≤ W.length
  cell : ∀ p ∈ l, 1 ≤ p ∧ p < tp ∧ 0 ≤ W.getD p 0 ∧ 0 ≤ hdS (W.getD p 0) ∧ hdS (W.getD p 0) ≤ 20 ∧ p + szW W p ≤ tp
  word : ∀ p ∈ l, refB (hdK (W.getD p 0)) = true → ∀ w ∈ fieldsW W p, Vw l w
  mem : ∀ p, p ∈ new ↔ p ∈ l ∧ fr ≤ p
  tot : fr + totalW W new ≤ tp
/-- What a word becomes. -/
def mvw (W : List Int) (fr : Nat) (o : List Nat) (w : Int) : Int := if Int.tmod w 2 ≠ 0 then w else if Int.tdiv w 2 < ((max fr 1 : Nat) : Int) then w else 2 * (posF W fr o (Int.tdiv w 2).toNat : Int)
/-- The state of a mover: what is live of the new words. -/
structure St (W : List Int) (fr : Nat) (new : List Nat) (s : Mv) (Y : List Int) : Prop where
  D : s.D = Y ++ List.replicate (W.length - s.top) 0
  lY : Y.length = s.top
  top : s.top = fr + totalW W s.ord
  nd : s.ord.Nodup
  sub : ∀ a ∈ s.ord, a ∈ new
  lT : s.T.length = W.length
  T : ∀ a, a < W.length → s.T.getD a 0 = posF W fr s.ord a
section
variable {W : List Int} {fr tp : Nat} {l new : List Nat} (C : Col W fr tp l new)
include C
theorem chunk_length {p : Nat} (hp : p ∈ l) : (chunkW W p).length = szW W p := by
  obtain ⟨h1, h2, h3, h4, h5, h6⟩ := C.cell p hp
  have := C.tpn
  unfold chunkW
  rw [List.length_take, List.length_drop]
  unfold szW at h6 ⊢
  omega
theorem Col.fit {s : Mv} {Y : List Int} (S : St W fr new s Y) : s.top ≤ tp := by
  have := totalW_sub (W := W) S.nd S.sub
  have := C.tot
  have := S.top
  omega
theorem putAt_zeros : ∀ (Y c : List Int) (z : Nat), c.length ≤ z → putAt (Y ++ List.replicate z 0) Y.length c = Y ++ c ++ List.replicate (z - c.length) 0 := by
  have _ := C
  intro Y
  induction Y with
  | nil =>
    intro c
    induction c with
    | nil =>
      intro z _
      show putAt (List.replicate z (0 : Int)) 0 [] = _
      cases z <;> rfl
    | cons x c ih =>
      intro z hz
      cases z with
      | zero => simp at hz
      | succ z =>
        show x :: putAt (List.replicate z 0) 0 c = _
        have := ih z (by simpa using hz)
        simp only [List.nil_append, List.length_nil] at this
        rw [this]
        simp
  | cons y Y ih =>
    intro c z hz
    show y :: putAt (Y ++ List.replicate z 0) Y.length c = _
    rw [ih c z hz]; rfl
/-- A word is moved. -/
theorem move_st {s : Mv} {Y : List Int} (S : St W fr new s Y) {w : Int} (hw : Vw l w) :
    ∃ s' ext, moveO W fr s w = some (s', mvw W fr s'.ord w) ∧ s'.ord = s.ord ++ ext ∧ withP fr [w] s.ord = s.ord ++ ext ∧ St W fr new s' (Y ++ ext.flatMap (chunkW W)) ∧ (Int.tmod w 2 = 0 → ((max fr 1 : Nat) : Int) ≤ Int.tdiv w 2 → (Int.tdiv w 2).toNat ∈ s'.ord) := by
  have same : ∀ {v : Int}, v = mvw W fr s.ord w → withP fr [w] s.ord = s.ord → (Int.tmod w 2 = 0 → ((max fr 1 : Nat) : Int) ≤ Int.tdiv w 2 → (Int.tdiv w 2).toNat ∈ s.ord) → moveO W fr s w = some (s, v) → ∃ s' ext, moveO W fr s w = some (s', mvw W fr s'.ord w) ∧ s'.ord = s.ord ++ ext ∧ withP fr [w] s.ord = s.ord ++ ext ∧ St W fr new s' (Y ++ ext.flatMap (chunkW W)) ∧ (Int.tmod w 2 = 0 → ((max fr 1 : Nat) : Int) ≤ Int.tdiv w 2 → (Int.tdiv w 2).toNat ∈ s'.ord) := fun {v} hv hwp hin hm => ⟨s, [], by rw [hm, hv], by simp, by rw [hwp]; simp, by simpa using S, hin⟩
  have hmax : ((max fr 1 : Nat) : Int) = (fr : Int) := by rw [Nat.max_eq_left C.fr1]
  by_cases h1 : Int.tmod w 2 ≠ 0
  · refine same (v := w) (by unfold mvw; rw [if_pos h1]) ?_ (fun h => absurd h h1) (by unfold moveO; rw [if_pos h1])
    unfold withP refd
    rw [if_pos h1, if_pos (by have := C.fr1; omega)]; rfl
  by_cases h2 : Int.tdiv w 2 < ((max fr 1 : Nat) : Int)
  · refine same (v := w) (by unfold mvw; rw [if_neg h1, if_pos h2]) ?_ (fun _ h => by omega) (by unfold moveO; rw [if_neg h1, if_pos h2])
    unfold withP refd
    rw [if_neg h1, if_pos h2]; rfl
  obtain ⟨a, rfl, ha⟩ : ∃ a : Nat, w = 2 * (a : Int) ∧ (a = 0 ∨ a ∈ l) := hw.resolve_left h1
  have hd : Int.tdiv (2 * (a : Int)) 2 = (a : Int) := by rw [tdiv_eq, if_pos (by omega)]; omega
  rw [hd] at h2
  have hfa : fr ≤ a := by omega
  have hfr := C.fr1
  have hal : a ∈ l := ha.resolve_left (by omega)
  obtain ⟨c1, c2, c3, c4, c5, c6⟩ := C.cell a hal
  have htn := C.tpn
  have haW : a < W.length := by omega
  have hTa := S.T a haW
  have hlT := S.lT
  have rd : refd (2 * (a : Int)) = (a : Int) := by unfold refd; rw [if_neg h1, hd]
  have mv : ∀ o, mvw W fr o (2 * (a : Int)) = 2 * (posF W fr o a : Int) := fun o => by
    unfold mvw
    rw [if_neg h1, hd, if_neg h2]; rfl
  have tn : (a : Int).toNat = a := rfl
  by_cases hin : a ∈ s.ord
  · have hpos := posF_mem (W := W) (b := fr) hin
    refine same (v := 2 * (posF W fr s.ord a : Int)) (mv _).symm ?_ (fun _ _ => by rw [hd, tn]; exact hin) ?_
    · unfold withP
      rw [rd, if_neg h2, if_pos (by rw [List.contains_iff_mem]; exact List.mem_map.2 ⟨a, hin, rfl⟩)]; rfl
    · unfold moveO
      rw [if_neg h1, hd, if_neg h2, tn, if_pos (by omega), if_pos (by rw [hTa]; omega), hTa]
  · have hT0 : s.T.getD a 0 = 0 := by rw [hTa]; exact posF_not hin
    have hnd : (s.ord ++ [a]).Nodup := by
      rw [List.nodup_append]
      exact ⟨S.nd, by simp, fun x hx y hy hxy => by rw [List.mem_singleton.1 hy] at hxy; exact hin (hxy ▸ hx)⟩
    have hsub : ∀ x ∈ s.ord ++ [a], x ∈ new := fun x hx => by
      rcases List.mem_append.1 hx with hx | hx
      · exact S.sub x hx
      · rw [List.mem_singleton.1 hx]; exact (C.mem a).2 ⟨hal, hfa⟩
    have htot := totalW_sub (W := W) hnd hsub
    rw [totalW_app] at htot
    have ht1 : totalW W [a] = szW W a := by simp [totalW]
    have hct := C.tot
    have hst := S.top
    have hlen := length_total W s.ord
    have hsz : szW W a = 1 + (hdS (W.getD a 0)).toNat := rfl
    have hDl : s.D.length = W.length := by
      rw [S.D, List.length_append, S.lY, List.length_replicate]
      have := C.fit S
      omega
    refine ⟨⟨s.T.set a s.top, s.ord ++ [a], putAt s.D s.top (chunkW W a), s.top + 1 + (hdS (W.getD a 0)).toNat⟩, [a], ?_, rfl, ?_, ?_, fun _ _ => by rw [hd, tn]; simp⟩
    · unfold moveO
      rw [if_neg h1, hd, if_neg h2, tn, if_pos (by omega), if_neg (by rw [hT0]; simp), if_pos ⟨haW, c4, c5, by omega, by omega, by omega, by omega⟩, mv]
      rw [posF_last hin, hst]
    · unfold withP
      rw [rd, if_neg h2, if_neg (by
        rw [List.contains_iff_mem]
        intro hh
        obtain ⟨x, hx, e⟩ := List.mem_map.1 hh
        exact hin (Int.ofNat_inj.1 e ▸ hx))]
      rfl
    · refine ⟨?_, ?_, ?_, hnd, hsub, by simpa using hlT, fun b hb => ?_⟩
      · show putAt s.D s.top (chunkW W a) = _
        have e0 : putAt s.D s.top (chunkW W a) = Y ++ chunkW W a ++ List.replicate (W.length - s.top - szW W a) 0 := by
          have := putAt_zeros C Y (chunkW W a) (W.length - s.top) (by rw [chunk_length C hal]; omega)
          rw [S.lY, ← S.D, chunk_length C hal] at this
          exact this
        rw [e0]
        show _ = Y ++ List.flatMap (chunkW W) [a] ++ List.replicate (W.length - (s.top + 1 + (hdS (W.getD a 0)).toNat)) 0
        have e1 : W.length - s.top - szW W a = W.length - (s.top + 1 + (hdS (W.getD a 0)).toNat) := by rw [hsz]; omega
        rw [e1]
        simp
      · show (Y ++ List.flatMap (chunkW W) [a]).length = s.top + 1 + (hdS (W.getD a 0)).toNat
        rw [List.length_append, S.lY]
        simp only [List.flatMap_cons, List.flatMap_nil, List.append_nil, chunk_length C hal, hsz]
        omega
      · show s.top + 1 + (hdS (W.getD a 0)).toNat = fr + totalW W (s.ord ++ [a])
        rw [totalW_app, ht1, hsz]; omega
      · show (s.T.set a s.top).getD b 0 = posF W fr (s.ord ++ [a]) b
        by_cases hba : a = b
        · subst hba
          rw [posF_last hin]
          simp only [List.getD, List.getElem?_set, if_true]
          rw [if_pos (by omega)]
          exact hst
        · have e : (s.T.set a s.top).getD b 0 = s.T.getD b 0 := by simp only [List.getD, List.getElem?_set, if_neg hba]
          rw [e, S.T b hb]
          by_cases hbo : b ∈ s.ord
          · rw [posF_app hbo]
          · rw [posF_not hbo, posF_not (by
              rw [List.mem_append, List.mem_singleton]
              rintro (h | h)
              · exact hbo h
              · exact hba h.symm)]
omit C in
theorem withP_cons (w : Int) (ws : List Int) (o : List Nat) : withP fr (w :: ws) o = withP fr ws (withP fr [w] o) := by
  show (if refd w < ((max fr 1 : Nat) : Int) then withP fr ws o else if (o.map Int.ofNat).contains (refd w) then withP fr ws o else withP fr ws (o ++ [(refd w).toNat])) = withP fr ws (if refd w < ((max fr 1 : Nat) : Int) then o else if (o.map Int.ofNat).contains (refd w) then o else o ++ [(refd w).toNat])
  split
  · rfl
  · split <;> rfl
/-- What a word refers to was moved. -/
def Tin (fr : Nat) (o : List Nat) (w : Int) : Prop := Int.tmod w 2 = 0 → ((max fr 1 : Nat) : Int) ≤ Int.tdiv w 2 → (Int.tdiv w 2).toNat ∈ o
omit C in
theorem Tin.app {o : List Nat} {w : Int} (t : Tin fr o w) (e : List Nat) : Tin fr (o ++ e) w := fun h1 h2 => List.mem_append.2 (.inl (t h1 h2))
omit C in
theorem mvw_app {o : List Nat} {w : Int} (t : Tin fr o w) (e : List Nat) : mvw W fr (o ++ e) w = mvw W fr o w := by
  unfold mvw
  split
  · rfl
  · rename_i h1
    split
    · rfl
    · rename_i h2
      rw [posF_app (t (by simpa using h1) (by omega))]
theorem moves_st : ∀ (ws : List Int) {s : Mv} {Y : List Int}, St W fr new s Y → (∀ w ∈ ws, Vw l w) → ∃ s' ext, movesO W fr ws s = some (s', ws.map (mvw W fr s'.ord)) ∧ s'.ord = s.ord ++ ext ∧ withP fr ws s.ord = s'.ord ∧ St W fr new s' (Y ++ ext.flatMap (chunkW W)) ∧ ∀ w ∈ ws, Tin fr s'.ord w := by
  intro ws
  induction ws with
  | nil => intro s Y S _; exact ⟨s, [], rfl, by simp, rfl, by simpa using S, fun w h => by cases h⟩
  | cons w ws ih =>
    intro s Y S hv
    obtain ⟨s1, e1, m1, o1, p1, S1, t1⟩ := move_st C S (hv w (List.mem_cons_self ..))
    obtain ⟨s2, e2, m2, o2, p2, S2, t2⟩ := ih S1 fun x hx => hv x (List.mem_cons_of_mem _ hx)
    refine ⟨s2, e1 ++ e2, ?_, by rw [o2, o1, List.append_assoc], ?_, by simpa using S2, fun x hx => ?_⟩
    · show (moveO W fr s w).bind _ = _
      rw [m1]
      show (movesO W fr ws s1).map _ = _
      rw [m2]
      show some (s2, mvw W fr s1.ord w :: _) = _
      rw [List.map_cons, o2, mvw_app t1]
    · rw [withP_cons, p1, ← o1, p2]
    · rcases List.mem_cons.1 hx with rfl | hx
      · rw [o2]; exact Tin.app t1 e2
      · exact t2 x hx
omit C in
theorem St.put {s : Mv} {Y : List Int} (S : St W fr new s Y) {i : Nat} (hi : i < Y.length) (v : Int) : St W fr new (s.put i v) (Y.set i v) := by
  refine ⟨?_, by rw [List.length_set]; exact S.lY, S.top, S.nd, S.sub, S.lT, S.T⟩
  show s.D.set i v = _
  rw [S.D, List.set_append_left _ _ hi]
  rfl
omit C in
theorem St.getD {s : Mv} {Y : List Int} (S : St W fr new s Y) {i : Nat} (hi : i < Y.length) : s.D.getD i 0 = Y.getD i 0 ∧ i < s.D.length := by
  rw [S.D]
  constructor
  · simp only [List.getD]
    rw [List.getElem?_append_left hi]
  · rw [List.length_append]; omega
/-- The fields of a cell that keeps are moved. -/
theorem chgIn_st : ∀ (todo X Z : List Int) {s : Mv}, St W fr new s (X ++ todo ++ Z) → (∀ w ∈ todo, Vw l w) → ∃ s' ext, chgIn (moveO W fr) todo.length X.length s = some s' ∧ s'.ord = s.ord ++ ext ∧ withP fr todo s.ord = s'.ord ∧ St W fr new s' (X ++ todo.map (mvw W fr s'.ord) ++ Z ++ ext.flatMap (chunkW W)) ∧ ∀ w ∈ todo, Tin fr s'.ord w := by
  intro todo
  induction todo with
  | nil => intro X Z s S _; exact ⟨s, [], rfl, by simp, rfl, by simpa using S, fun w h => by cases h⟩
  | cons w ws ih =>
    intro X Z s S hv
    have hX : X.length < (X ++ w :: ws ++ Z).length := by simp
    obtain ⟨g1, g2⟩ := S.getD hX
    have gw : (X ++ w :: ws ++ Z).getD X.length 0 = w := by simp [List.getD]
    obtain ⟨s1, e1, m1, o1, p1, S1, t1⟩ := move_st C S (hv w (List.mem_cons_self ..))
    have S2 := S1.put (i := X.length) (by rw [List.length_append]; omega) (mvw W fr s1.ord w)
    have eY : ((X ++ w :: ws ++ Z) ++ e1.flatMap (chunkW W)).set X.length (mvw W fr s1.ord w) = (X ++ [mvw W fr s1.ord w]) ++ ws ++ (Z ++ e1.flatMap (chunkW W)) := by
      simp [List.append_assoc]
    rw [eY] at S2
    obtain ⟨s3, e3, m3, o3, p3, S3, t3⟩ := ih (X ++ [mvw W fr s1.ord w]) (Z ++ e1.flatMap (chunkW W)) S2 fun x hx => hv x (List.mem_cons_of_mem _ hx)
    have o3' : s3.ord = s1.ord ++ e3 := o3
    refine ⟨s3, e1 ++ e3, ?_, by rw [o3', o1, List.append_assoc], ?_, ?_, fun x hx => ?_⟩
    · show (if X.length < s.D.length then (moveO W fr s (s.D.getD X.length 0)).bind fun r => chgIn (moveO W fr) ws.length (X.length + 1) (r.1.put X.length r.2) else none) = _
      rw [if_pos g2, g1, gw, m1]
      show chgIn (moveO W fr) ws.length (X.length + 1) _ = _
      rw [List.length_append] at m3
      exact m3
    · rw [withP_cons, p1, ← o1]
      exact p3
    · have : X ++ (w :: ws).map (mvw W fr s3.ord) ++ Z ++ (e1 ++ e3).flatMap (chunkW W) = X ++ [mvw W fr s1.ord w] ++ ws.map (mvw W fr s3.ord) ++ (Z ++ e1.flatMap (chunkW W)) ++ e3.flatMap (chunkW W) := by
        rw [List.map_cons, o3', mvw_app t1]
        simp [List.append_assoc]
      rw [this]; exact S3
    · rcases List.mem_cons.1 hx with rfl | hx
      · rw [o3']; exact Tin.app t1 e3
      · exact t3 x hx
theorem chunk_eq {p : Nat} (hp : p ∈ l) : chunkW W p = W.getD p 0 :: fieldsW W p := by
  obtain ⟨h1, h2, h3, h4, h5, h6⟩ := C.cell p hp
  have := C.tpn
  have hpW : p < W.length := by omega
  unfold chunkW fieldsW
  rw [List.drop_eq_getElem_cons hpW, Nat.add_comm 1, List.take_succ_cons]
  congr 1
  simp [List.getD, List.getElem?_eq_getElem hpW]
theorem fields_len {p : Nat} (hp : p ∈ l) : (fieldsW W p).length = (hdS (W.getD p 0)).toNat := by
  obtain ⟨h1, h2, h3, h4, h5, h6⟩ := C.cell p hp
  have := C.tpn
  refine fieldsW_length ?_
  unfold szW at h6; omega
theorem cellAt {p : Nat} (hp : p ∈ l) : CellAt W p := by
  obtain ⟨h1, h2, h3, h4, h5, h6⟩ := C.cell p hp
  have := C.tpn
  refine ⟨by omega, h3, h5, ?_⟩
  unfold szW at h6; omega
/-- A cell whose fields were moved. -/
def cellM (W : List Int) (fr : Nat) (o : List Nat) (p : Nat) : List Int := W.getD p 0 :: if keepB (hdK (W.getD p 0)) then (fieldsW W p).map (mvw W fr o) else fieldsW W p
theorem chg_st (hW : W.length ≤ 1000) : ∀ (f i : Nat) (done : List Int) {s : Mv}, St W fr new s (done ++ (s.ord.drop i).flatMap (chunkW W)) → i ≤ s.ord.length → W.length < f + i → ∃ s' ext, chgO keepB (moveO W fr) f done.length s = some s' ∧ reachO W fr f i s.ord = some s'.ord ∧ s'.ord = s.ord ++ ext ∧ St W fr new s' (done ++ (s'.ord.drop i).flatMap (cellM W fr s'.ord)) ∧ ∀ p ∈ s'.ord.drop i, keepB (hdK (W.getD p 0)) = true → ∀ w ∈ fieldsW W p, Tin fr s'.ord w := by
  intro f
  induction f with
  | zero =>
    intro i done s S hi hf
    have := length_total W s.ord
    have := C.fit S
    have := S.top
    have := C.tpn
    omega
  | succ f ih =>
    intro i done s S hi hf
    have htop : s.top = done.length + ((s.ord.drop i).flatMap (chunkW W)).length := by rw [← S.lY, List.length_append]
    have hlt := length_total W s.ord
    have hfit := C.fit S
    have hst := S.top
    have htn := C.tpn
    by_cases hil : i < s.ord.length
    · have hd := List.drop_eq_getElem_cons hil
      generalize hp : s.ord[i] = p at hd
      have hpo : p ∈ s.ord := hp ▸ List.getElem_mem hil
      have hpl : p ∈ l := ((C.mem p).1 (S.sub p hpo)).1
      obtain ⟨c1, c2, c3, c4, c5, c6⟩ := C.cell p hpl
      rw [hd, List.flatMap_cons, chunk_eq C hpl] at S htop
      have hdl : done.length < s.top := by rw [htop]; simp
      have hlen : done.length < (done ++ (W.getD p 0 :: fieldsW W p ++ (s.ord.drop (i + 1)).flatMap (chunkW W))).length := by simp
      obtain ⟨g1, g2⟩ := S.getD hlen
      have gw : (done ++ (W.getD p 0 :: fieldsW W p ++ (s.ord.drop (i + 1)).flatMap (chunkW W))).getD done.length 0 = W.getD p 0 := by simp [List.getD]
      rw [gw] at g1
      have fl := fields_len C hpl
      have gl : s.ord.getD i 0 = p := by simp [List.getD, List.getElem?_eq_getElem hil, hp]
      have hchg : chgO keepB (moveO W fr) (f + 1) done.length s = (if keepB (hdK (W.getD p 0)) then (chgIn (moveO W fr) (hdS (W.getD p 0)).toNat (done.length + 1) s).bind fun s' => chgO keepB (moveO W fr) f (done.length + 1 + (hdS (W.getD p 0)).toNat) s' else chgO keepB (moveO W fr) f (done.length + 1 + (hdS (W.getD p 0)).toNat) s) := by
        conv => lhs; unfold chgO
        rw [if_pos hdl, g1, if_pos ⟨g2, c4, c5⟩]
      have hrch : reachO W fr (f + 1) i s.ord = reachO W fr f (i + 1) (withP fr (strongP W p) s.ord) := by
        conv => lhs; unfold reachO
        rw [if_pos hil, gl, if_pos ⟨cellAt C hpl, by omega⟩]
      rw [hchg, hrch]
      cases hk : keepB (hdK (W.getD p 0)) with
      | true =>
        rw [if_pos rfl]
        have hs : strongP W p = fieldsW W p := by unfold strongP; rw [if_pos hk]
        rw [hs]
        have S1 : St W fr new s ((done ++ [W.getD p 0]) ++ fieldsW W p ++ (s.ord.drop (i + 1)).flatMap (chunkW W)) := by simpa [List.append_assoc] using S
        obtain ⟨s1, e1, m1, o1, p1, S2, t1⟩ := chgIn_st C (fieldsW W p) (done ++ [W.getD p 0]) ((s.ord.drop (i + 1)).flatMap (chunkW W)) S1 (C.word p hpl (by unfold refB; rw [hk]; rfl))
        have m1' : chgIn (moveO W fr) (hdS (W.getD p 0)).toNat (done.length + 1) s = some s1 := by
          rw [← fl]; simpa using m1
        rw [m1', p1]
        have d1 : s1.ord.drop (i + 1) = s.ord.drop (i + 1) ++ e1 := by rw [o1, List.drop_append_of_le_length (by omega)]
        have S3 : St W fr new s1 ((done ++ W.getD p 0 :: (fieldsW W p).map (mvw W fr s1.ord)) ++ (s1.ord.drop (i + 1)).flatMap (chunkW W)) := by
          rw [d1]
          simpa [List.append_assoc] using S2
        have hl1 : (done ++ W.getD p 0 :: (fieldsW W p).map (mvw W fr s1.ord)).length = done.length + 1 + (hdS (W.getD p 0)).toNat := by simp [fl]; omega
        obtain ⟨s4, e4, m4, r4, o4, S4, t4⟩ := ih (i + 1) _ S3 (by rw [o1, List.length_append]; omega) (by omega)
        rw [hl1] at m4
        have hti : ∀ w ∈ fieldsW W p, Tin fr s4.ord w := fun w hw => by rw [o4]; exact (t1 w hw).app e4
        have d4 : s4.ord.drop i = p :: s4.ord.drop (i + 1) := by
          have : i < s4.ord.length := by rw [o4, o1]; simp; omega
          rw [List.drop_eq_getElem_cons this]
          congr 1
          simp only [o4, o1]
          rw [List.getElem_append_left (by simp; omega), List.getElem_append_left hil, hp]
        refine ⟨s4, e1 ++ e4, m4, r4, by rw [o4, o1, List.append_assoc], ?_, fun q hq hkq w hw => ?_⟩
        · have em : (fieldsW W p).map (mvw W fr s4.ord) = (fieldsW W p).map (mvw W fr s1.ord) := List.map_congr_left fun w hw => by rw [o4, mvw_app (t1 w hw)]
          rw [d4, List.flatMap_cons]
          have : cellM W fr s4.ord p = W.getD p 0 :: (fieldsW W p).map (mvw W fr s1.ord) := by unfold cellM; rw [if_pos hk, em]
          rw [this]
          simpa [List.append_assoc] using S4
        · rw [d4] at hq
          rcases List.mem_cons.1 hq with rfl | hq
          · exact hti w hw
          · exact t4 q hq hkq w hw
      | false =>
        rw [if_neg Bool.false_ne_true]
        have hs : strongP W p = [] := by unfold strongP; rw [if_neg (by rw [hk]; exact Bool.false_ne_true)]
        rw [hs]
        have S3 : St W fr new s ((done ++ W.getD p 0 :: fieldsW W p) ++ (s.ord.drop (i + 1)).flatMap (chunkW W)) := by simpa [List.append_assoc] using S
        have hl1 : (done ++ W.getD p 0 :: fieldsW W p).length = done.length + 1 + (hdS (W.getD p 0)).toNat := by simp [fl]; omega
        obtain ⟨s4, e4, m4, r4, o4, S4, t4⟩ := ih (i + 1) _ S3 (by omega) (by omega)
        rw [hl1] at m4
        have d4 : s4.ord.drop i = p :: s4.ord.drop (i + 1) := by
          have : i < s4.ord.length := by rw [o4]; simp; omega
          rw [List.drop_eq_getElem_cons this]
          congr 1
          simp only [o4]
          rw [List.getElem_append_left hil, hp]
        refine ⟨s4, e4, m4, r4, o4, ?_, fun q hq hkq w hw => ?_⟩
        · rw [d4, List.flatMap_cons]
          have : cellM W fr s4.ord p = W.getD p 0 :: fieldsW W p := by unfold cellM; rw [if_neg (by rw [hk]; exact Bool.false_ne_true)]
          rw [this]
          simpa [List.append_assoc] using S4
        · rw [d4] at hq
          rcases List.mem_cons.1 hq with rfl | hq
          · rw [hk] at hkq; cases hkq
          · exact t4 q hq hkq w hw
    · have hd : s.ord.drop i = [] := List.drop_of_length_le (by omega)
      rw [hd] at S htop
      refine ⟨s, [], ?_, ?_, by simp, ?_, fun q hq => by rw [hd] at hq; cases hq⟩
      · unfold chgO
        rw [if_neg (by rw [htop]; simp)]
      · unfold reachO
        rw [if_neg hil]
      · rw [hd]; exact S
end
end Go.Proofs.YtngcjpkccnfjiaaGreatDoor
/- Plain law: a whole collection. -/
namespace Go.Proofs.YtngcjpkccnfjiaaGreatDoor
open Go Go.Ev
/-- A cell when all is moved. -/
def cellF (W : List Int) (fr : Nat) (o : List Nat) (p : Nat) : List Int := W.getD p 0 :: if refB (hdK (W.getD p 0)) then (fieldsW W p).map (mvw W fr o) else fieldsW W p
section
variable {W : List Int} {fr tp : Nat} {l new : List Nat} (C : Col W fr tp l new)
include C
theorem weak_st {s : Mv} {Y : List Int} (S : St W fr new s Y) {w : Int} (hw : Vw l w) : weakO W fr s w = some (s, mvw W fr s.ord w) := by
  unfold weakO mvw
  by_cases h1 : Int.tmod w 2 ≠ 0
  · rw [if_pos h1, if_pos h1]
  rw [if_neg h1, if_neg h1]
  by_cases h2 : Int.tdiv w 2 < ((max fr 1 : Nat) : Int)
  · rw [if_pos h2, if_pos h2]
  rw [if_neg h2, if_neg h2]
  obtain ⟨a, rfl, ha⟩ := hw.resolve_left h1
  have hd : Int.tdiv (2 * (a : Int)) 2 = (a : Int) := by rw [tdiv_eq, if_pos (by omega)]; omega
  rw [hd] at h2 ⊢
  have tn : (a : Int).toNat = a := rfl
  have hal : a ∈ l := ha.resolve_left (by omega)
  have := C.cell a hal
  have htn := C.tpn
  have hlT := S.lT
  rw [tn, if_pos (by omega), S.T a (by omega)]
theorem chgInW_st : ∀ (todo X Z : List Int) {s : Mv}, St W fr new s (X ++ todo ++ Z) → (∀ w ∈ todo, Vw l w) → ∃ s', chgIn (weakO W fr) todo.length X.length s = some s' ∧ s'.ord = s.ord ∧ St W fr new s' (X ++ todo.map (mvw W fr s.ord) ++ Z) := by
  intro todo
  induction todo with
  | nil => intro X Z s S _; exact ⟨s, rfl, rfl, by simpa using S⟩
  | cons w ws ih =>
    intro X Z s S hv
    have hX : X.length < (X ++ w :: ws ++ Z).length := by simp
    obtain ⟨g1, g2⟩ := S.getD hX
    have gw : (X ++ w :: ws ++ Z).getD X.length 0 = w := by simp [List.getD]
    have m1 := weak_st C S (hv w (List.mem_cons_self ..))
    have S2 := S.put hX (mvw W fr s.ord w)
    have eY : (X ++ w :: ws ++ Z).set X.length (mvw W fr s.ord w) = (X ++ [mvw W fr s.ord w]) ++ ws ++ Z := by
      simp [List.append_assoc]
    rw [eY] at S2
    obtain ⟨s3, m3, o3, S3⟩ := ih (X ++ [mvw W fr s.ord w]) Z S2 fun x hx => hv x (List.mem_cons_of_mem _ hx)
    refine ⟨s3, ?_, o3, ?_⟩
    · show (if X.length < s.D.length then (weakO W fr s (s.D.getD X.length 0)).bind fun r => chgIn (weakO W fr) ws.length (X.length + 1) (r.1.put X.length r.2) else none) = _
      rw [if_pos g2, g1, gw, m1]
      show chgIn (weakO W fr) ws.length (X.length + 1) _ = _
      rw [List.length_append] at m3
      exact m3
    · have e : (s.put X.length (mvw W fr s.ord w)).ord = s.ord := rfl
      rw [e] at S3
      simpa [List.append_assoc] using S3
theorem chgW_st : ∀ (rest : List Nat) (f : Nat) (done : List Int) {s : Mv}, (∀ p ∈ rest, p ∈ l) → St W fr new s (done ++ rest.flatMap (cellM W fr s.ord)) → rest.length < f → ∃ s', chgO (fun k => k == 5) (weakO W fr) f done.length s = some s' ∧ s'.ord = s.ord ∧ St W fr new s' (done ++ rest.flatMap (cellF W fr s.ord)) := by
  intro rest
  induction rest with
  | nil =>
    intro f done s _ S hf
    obtain ⟨f, rfl⟩ : ∃ g, f = g + 1 := ⟨f - 1, by simp at hf; omega⟩
    refine ⟨s, ?_, rfl, S⟩
    unfold chgO
    rw [if_neg (by rw [← S.lY]; simp)]
  | cons p rest ih =>
    intro f done s hl S hf
    obtain ⟨f, rfl⟩ : ∃ g, f = g + 1 := ⟨f - 1, by simp at hf; omega⟩
    have hpl := hl p (List.mem_cons_self ..)
    obtain ⟨c1, c2, c3, c4, c5, c6⟩ := C.cell p hpl
    have fl := fields_len C hpl
    have hcl : (cellM W fr s.ord p).length = 1 + (hdS (W.getD p 0)).toNat := by
      unfold cellM
      split <;> simp [fl] <;> omega
    rw [List.flatMap_cons] at S
    have htop : s.top = (done ++ (cellM W fr s.ord p ++ rest.flatMap (cellM W fr s.ord))).length := S.lY.symm
    have hdl : done.length < s.top := by rw [htop, List.length_append, List.length_append, hcl]; omega
    have hlen : done.length < (done ++ (cellM W fr s.ord p ++ rest.flatMap (cellM W fr s.ord))).length := by rw [← htop]; exact hdl
    obtain ⟨g1, g2⟩ := S.getD hlen
    have gw : (done ++ (cellM W fr s.ord p ++ rest.flatMap (cellM W fr s.ord))).getD done.length 0 = W.getD p 0 := by simp [List.getD, cellM]
    rw [gw] at g1
    have hchg : chgO (fun k => k == 5) (weakO W fr) (f + 1) done.length s = (if (hdK (W.getD p 0) == 5) then (chgIn (weakO W fr) (hdS (W.getD p 0)).toNat (done.length + 1) s).bind fun s' => chgO (fun k => k == 5) (weakO W fr) f (done.length + 1 + (hdS (W.getD p 0)).toNat) s' else chgO (fun k => k == 5) (weakO W fr) f (done.length + 1 + (hdS (W.getD p 0)).toNat) s) := by
      conv => lhs; unfold chgO
      rw [if_pos hdl, g1, if_pos ⟨g2, c4, c5⟩]
    rw [hchg]
    by_cases hk : hdK (W.getD p 0) = 5
    · have hkb : (hdK (W.getD p 0) == 5) = true := by rw [hk]; rfl
      have hkk : keepB (hdK (W.getD p 0)) = false := by rw [hk]; rfl
      have hrr : refB (hdK (W.getD p 0)) = true := by rw [hk]; rfl
      have eM : cellM W fr s.ord p = W.getD p 0 :: fieldsW W p := by unfold cellM; rw [if_neg (by rw [hkk]; exact Bool.false_ne_true)]
      have eF : cellF W fr s.ord p = W.getD p 0 :: (fieldsW W p).map (mvw W fr s.ord) := by unfold cellF; rw [if_pos hrr]
      rw [if_pos hkb]
      rw [eM] at S
      have S1 : St W fr new s ((done ++ [W.getD p 0]) ++ fieldsW W p ++ rest.flatMap (cellM W fr s.ord)) := by simpa [List.append_assoc] using S
      obtain ⟨s1, m1, o1, S2⟩ := chgInW_st C (fieldsW W p) (done ++ [W.getD p 0]) _ S1 (C.word p hpl hrr)
      have m1' : chgIn (weakO W fr) (hdS (W.getD p 0)).toNat (done.length + 1) s = some s1 := by
        rw [← fl]; simpa using m1
      have S3 : St W fr new s1 ((done ++ W.getD p 0 :: (fieldsW W p).map (mvw W fr s.ord)) ++ rest.flatMap (cellM W fr s1.ord)) := by
        rw [o1]; simpa [List.append_assoc] using S2
      have hl1 : (done ++ W.getD p 0 :: (fieldsW W p).map (mvw W fr s.ord)).length = done.length + 1 + (hdS (W.getD p 0)).toNat := by simp [fl]; omega
      obtain ⟨s4, m4, o4, S4⟩ := ih f _ (fun q hq => hl q (List.mem_cons_of_mem _ hq)) S3 (by simp at hf; omega)
      rw [hl1] at m4
      rw [m1']
      refine ⟨s4, m4, o4.trans o1, ?_⟩
      rw [List.flatMap_cons, eF]
      rw [o1] at S4
      simpa [List.append_assoc] using S4
    · have hkb : (hdK (W.getD p 0) == 5) = false := beq_eq_false_iff_ne.2 hk
      have eF : cellF W fr s.ord p = cellM W fr s.ord p := by
        unfold cellF cellM refB
        rw [hkb, Bool.or_false]
      rw [if_neg (by rw [hkb]; exact Bool.false_ne_true)]
      have S3 : St W fr new s ((done ++ cellM W fr s.ord p) ++ rest.flatMap (cellM W fr s.ord)) := by simpa [List.append_assoc] using S
      have hl1 : (done ++ cellM W fr s.ord p).length = done.length + 1 + (hdS (W.getD p 0)).toNat := by rw [List.length_append, hcl]; omega
      obtain ⟨s4, m4, o4, S4⟩ := ih f _ (fun q hq => hl q (List.mem_cons_of_mem _ hq)) S3 (by simp at hf; omega)
      rw [hl1] at m4
      refine ⟨s4, m4, o4, ?_⟩
      rw [List.flatMap_cons, eF]
      simpa [List.append_assoc] using S4
end
theorem cellsG_total {W : List Int} {top : Nat} : ∀ {f p : Nat} {l : List Nat}, cellsG W top f p = some l → p + totalW W l = top := by
  intro f
  induction f with
  | zero => intro p l h; cases h
  | succ f ih =>
    intro p l h
    rcases cellsG_cons h with ⟨h1, h2, h3, l', rfl, h4⟩ | ⟨rfl, rfl⟩
    · have := ih h4
      show p + (szW W p + totalW W l') = top
      unfold szW
      omega
    · rfl
theorem Vw.of {l : List Nat} {w : Int} (h : wordR l w = true) : Vw l w := by
  unfold wordR at h
  split at h
  · rename_i h0; subst h0; exact .inr ⟨0, rfl, .inl rfl⟩
  · split at h
    · exact .inl ‹_›
    · rename_i h1
      rw [List.contains_iff_mem] at h
      obtain ⟨a, ha, e⟩ := List.mem_map.1 h
      refine .inr ⟨a, ?_, .inr ha⟩
      have := Int.mul_tdiv_add_tmod w 2
      have h1 : Int.tmod w 2 = 0 := by simpa using h1
      rw [h1, ← e] at this
      have e2 : Int.ofNat a = (a : Int) := rfl
      omega
theorem col_of {W : List Int} {top : Int} {R : List Int} {l : List Nat} (h : checkP W top R = some l) : Col W 1 top.toNat l l ∧ ∀ w ∈ R, Vw l w := by
  obtain ⟨f1, f2, f3, f4, f5, f6, f7, f8, f9⟩ := checkP_cells h
  have hR := cellsG_R f7
  have hm := cellsR_mem hR
  have htn : top.toNat ≤ W.length := by omega
  have hl : ∀ x ∈ l, x < W.length := fun x hx => by have := hm.2 x hx; omega
  refine ⟨⟨Nat.le_refl _, htn, fun p hp => ?_, fun p hp hk w hw => ?_, fun p => ⟨fun hp => ⟨hp, (hm.2 p hp).1⟩, fun hp => hp.1⟩, Nat.le_of_eq (cellsG_total f7)⟩, fun w hw => ?_⟩
  · obtain ⟨m1, m2, m3, m4, m5⟩ := hm.2 p hp
    refine ⟨m1, m2, m3, ?_, m4, ?_⟩
    · unfold hdS; rw [tdiv_eq, if_pos m3]; omega
    · unfold szW; omega
  · have := List.all_eq_true.1 (List.all_eq_true.1 f9 p hp) w hw
    have hk2 : fieldB (beginP W l) (hdK (W.getD p 0)) w = wordB (beginP W l) w := by
      unfold fieldB
      unfold refB keepB at hk
      rw [if_neg (fun h3 => by rw [h3] at hk; cases hk), if_neg (fun h3 => by rw [h3] at hk; cases hk)]
    rw [hk2, word_RB hl f1] at this
    exact Vw.of this
  · have := List.any_eq_false.1 f8 w hw
    rw [word_RB hl f1] at this
    exact Vw.of (by simpa using this)
theorem start_st {W : List Int} {fr tp : Nat} {l new : List Nat} (C : Col W fr tp l new) (hfr : fr ≤ W.length) : St W fr new (startM W fr) (W.take fr) := by
  refine ⟨?_, by rw [List.length_take]; show min fr _ = fr; omega, rfl, List.nodup_nil, fun a h => (by cases h), (by show (List.replicate W.length 0).length = _; simp), fun a ha => ?_⟩
  rotate_left
  · show (List.replicate W.length 0).getD a 0 = 0
    simp [List.getD, ha]
  show putAt (List.replicate W.length (0 : Int)) 0 (W.take fr) = _
  have := putAt_zeros C [] (W.take fr) W.length (by rw [List.length_take]; omega)
  simp only [List.nil_append, List.length_nil] at this
  rw [this, List.length_take, Nat.min_eq_left hfr]
  rfl
/-- A whole heap is collected. -/
theorem run_all {W : List Int} {tp : Nat} {l : List Nat} (C : Col W 1 tp l l) (hW1 : 1 ≤ W.length) (hW : W.length ≤ 1000) {R more : List Int} (hR : ∀ w ∈ R, Vw l w) (hM : ∀ w ∈ more, Vw l w) :
    ∃ s, runO W 1 R more = some (s, R.map (mvw W 1 s.ord), more.map (mvw W 1 s.ord)) ∧ reachO W 1 (W.length + 2) 0 (withP 1 (R ++ more) []) = some s.ord ∧ St W 1 l s (W.take 1 ++ s.ord.flatMap (cellF W 1 s.ord)) := by
  have S0 := start_st C hW1
  obtain ⟨s1, e1, m1, o1, p1, S1, t1⟩ := moves_st C R S0 hR
  obtain ⟨s2, e2, m2, o2, p2, S2, t2⟩ := moves_st C more S1 hM
  have o1' : s1.ord = e1 := by rw [o1]; rfl
  have o2' : s2.ord = e1 ++ e2 := by rw [o2, o1']
  have S2' : St W 1 l s2 (W.take 1 ++ (s2.ord.drop 0).flatMap (chunkW W)) := by
    rw [List.drop_zero, o2']; simpa [List.append_assoc] using S2
  have d1 : (W.take 1).length = 1 := by rw [List.length_take]; omega
  obtain ⟨s3, e3, m3, r3, o3, S3, t3⟩ := chg_st C hW (W.length + 2) 0 (W.take 1) S2' (Nat.zero_le _) (by omega)
  rw [List.drop_zero] at S3
  rw [d1] at m3
  have hl3 : ∀ p ∈ s3.ord, p ∈ l := S3.sub
  have hlen := length_total W s3.ord
  have hfit := C.fit S3
  have htop := S3.top
  have htn := C.tpn
  obtain ⟨s4, m4, o4, S4⟩ := chgW_st C s3.ord (W.length + 2) (W.take 1) hl3 S3 (by omega)
  rw [d1] at m4
  have w12 : withP 1 (R ++ more) [] = s2.ord := by
    have app : ∀ (a b : List Int) (o : List Nat), withP 1 (a ++ b) o = withP 1 b (withP 1 a o) := by
      intro a
      induction a with
      | nil => intro b o; rfl
      | cons x a ih => intro b o; rw [List.cons_append, withP_cons, ih, ← withP_cons]
    rw [app, show withP 1 R [] = s1.ord from p1, p2]
  refine ⟨s4, ?_, by rw [w12, r3, o4], by rw [o4]; exact S4⟩
  unfold runO
  rw [m1]
  show (movesO W 1 more s1).bind _ = _
  rw [m2]
  show (chgO keepB (moveO W 1) (W.length + 2) 1 s2).bind _ = _
  rw [m3]
  show (chgO (fun k => k == 5) (weakO W 1) (W.length + 2) 1 s3).map _ = _
  rw [m4]
  show some (s4, R.map (mvw W 1 s1.ord), more.map (mvw W 1 s2.ord)) = _
  have a1 : R.map (mvw W 1 s1.ord) = R.map (mvw W 1 s4.ord) := List.map_congr_left fun w hw => by rw [o4, o3, o2, List.append_assoc, mvw_app (t1 w hw)]
  have a2 : more.map (mvw W 1 s2.ord) = more.map (mvw W 1 s4.ord) := List.map_congr_left fun w hw => by rw [o4, o3, mvw_app (t2 w hw)]
  rw [a1, a2]
end Go.Proofs.YtngcjpkccnfjiaaGreatDoor
/- CollectForms of layer 15: its law, by the contracts of what it calls. -/
namespace Go.Proofs.YtngcjpkccnfjiaaGreatDoor
set_option maxRecDepth 100000
open Go Go.Ev
theorem works_true {h : Hp} (ht : Tb h) : EvT Ow 14 [] h (.bool true) h := Ow_works ht.1 ht.2
abbrev Yes : Value → Hp → Prop := fun v _ => v = .bool true
section
variable {O : CallF} (hO : Oth O)
include hO
/-- 'same' of two lists that are one. -/
theorem ct40 {g : Hp} {a a1 : Option Addr} {n c n1 c1 : Nat} {xs : List Int} (X : IntsAt g a n xs) (Y : IntsAt g a1 n1 xs) (hl : xs.length < 1000000) : Ret Tryz.prog O 40 [.slice a n c, .slice a1 n1 c1] g fun v h' => v = .bool true ∧ Kp g.nx g h' := by
  have hx := X.1
  have hy := Y.1
  refine rk40 _ _ _ _ _ _ (hO _ _ _ (by decide)) ?_
  unfold T40
  refine vcond_f (by rw [hx, hy, eqI_t rfl]; rfl) ?_
  have lp : ∀ (d k : Nat) (h : Hp), k + d = xs.length → Kp g.nx g h → I40_0 O (fun v h' => v = .bool true ∧ Kp g.nx g h') a n c a1 n1 c1 false (Int.ofNat k) h := by
    intro d
    induction d with
    | zero =>
      intro k h hk kp
      refine I40_0.of _ _ _ _ _ _ _ _ ?_
      unfold T40_0
      exact vcond_f (by rw [ltI_nat]; exact blt_f (by omega)) ⟨rfl, kp⟩
    | succ d ih =>
      intro k h hk kp
      refine I40_0.of _ _ _ _ _ _ _ _ ?_
      unfold T40_0
      have hk' : k < xs.length := by omega
      refine vcond_t (by rw [ltI_nat]; exact blt_t (by omega)) ?_
      intro g101
      have kp1 : Kp g.nx g g101 := kp.rsv 9
      haveI : Ft g g101 := kp1.ex (Nat.le_refl _)
      refine isNat_i (X.rd hk' (isNat_i (Y.rd hk' (vcond_f (by rw [eqI_t rfl]; rfl) ?_))))
      rw [wrap_succ (by omega)]
      exact ih (k + 1) g101 (by omega) kp1
  exact lp xs.length 0 g (by omega) (Kp.refl _ _)
def largeB (W R : List Int) (n : Nat) : Bool := decide (250 < W.length) || decide (40 < R.length) || decide (40 < n)
theorem ct13 {g : Hp} {aw : Option Addr} {nw cw : Nat} {W : List Int} {top : Int} {ar : Option Addr} {nr cr : Nat} {R : List Int} (hw : nw = W.length) (hr : nr = R.length) (a : Option Addr) (n c : Nat) : Ret Tryz.prog O 13 [.agg #[.slice aw nw cw, .int .i64 top, .slice ar nr cr], .slice a n c] g fun v h' => v = .bool (largeB W R n) ∧ Kp g.nx g h' := by
  subst hw hr
  refine rk13 _ _ _ _ _ _ _ _ _ _ (hO _ _ _ (by decide)) ?_
  unfold T13
  intro g1
  have k1 : Kp g.nx g g1 := (Kp.refl _ g).add (Nat.le_refl _) _
  have s1 : g1.get g.nx = some (.cells [.slice aw W.length cw, .int .i64 top, .slice ar R.length cr] 24 .fix) := get_add_same ..
  unfold largeB
  refine ⟨_, _, _, read1 (i := 0) s1 rfl, vcond_split (fun h1 => ?_) fun h1 => ?_⟩
  · have h1 : 250 < W.length := Int.ofNat_lt.1 (lt_of_t h1)
    rw [decide_eq_true h1]; exact ⟨rfl, k1⟩
  have h1 : ¬ 250 < W.length := fun hh => not_lt_of_f h1 (Int.ofNat_lt.2 hh)
  rw [decide_eq_false h1, Bool.false_or]
  refine ⟨_, _, _, read1 (i := 2) s1 rfl, vcond_split (fun h2 => ?_) fun h2 => ?_⟩
  · have h2 : 40 < R.length := Int.ofNat_lt.1 (lt_of_t h2)
    rw [decide_eq_true h2]; exact ⟨rfl, k1⟩
  have h2 : ¬ 40 < R.length := fun hh => not_lt_of_f h2 (Int.ofNat_lt.2 hh)
  rw [decide_eq_false h2, Bool.false_or]
  refine ⟨?_, k1⟩
  congr 1
  rw [ltI_eq]
  have : ((40 : Int) < Int.ofNat n) = (40 < n) := propext Int.ofNat_lt
  simp only [this]
end
/-- What a collection comes to, if the heap is as defined. -/
theorem run_of (W : List Int) (top : Int) (R : List Int) : ∃ s rs ks, (∀ l, checkP W top R = some l → runO W 1 R [] = some (s, rs, ks)) ∧ (∀ l, formedR W top R = some l → reachO W 1 (W.length + 2) 0 (withP 1 R []) = some s.ord) ∧ (∀ l, checkP W top R = some l → s.ord.length ≤ 200) := by
  cases hc : checkP W top R with
  | none => exact ⟨startM W 1, [], [], fun l h => (by cases h), fun l h => (by rw [formed_check, hc] at h; cases h), fun l h => (by cases h)⟩
  | some l =>
    obtain ⟨f1, f2, _⟩ := checkP_cells hc
    obtain ⟨C, hR⟩ := col_of hc
    obtain ⟨s, h1, h2, h3⟩ := run_all C f1 (by omega) hR (more := []) (fun w h => by cases h)
    rw [List.append_nil] at h2
    refine ⟨s, _, _, fun l' _ => h1, fun l' _ => h2, fun _ _ => ?_⟩
    have := length_total W s.ord
    have := C.fit h3
    have := h3.top
    have := C.tpn
    omega
theorem law6 {h : Hp} {aw : Option Addr} {nw cw : Nat} {W : List Int} {top : Int} {ar : Option Addr} {nr cr : Nat} {R : List Int} (ok : h.Ok) (ht : Tb h) (A : HA h aw nw cw W ar nr cr R) :
    Ret Tryz.prog Ow 6 [.agg #[.slice aw nw cw, .int .i64 top, .slice ar nr cr]] h Yes := by
  have hO : Oth Ow := Ow_oth
  refine rk6 _ _ _ _ _ _ _ (hO _ _ _ (by decide)) ?_
  unfold T6
  intro g1
  have n0 : 0 < h.nx := by have := ht.1; omega
  have k1 : Kp h.nx h g1 := (Kp.refl _ h).add (Nat.le_refl _) _
  have n1 : h.nx < g1.nx := Nat.lt_succ_self _
  have s1 : g1.get h.nx = some (.cells [.slice aw nw cw, .int .i64 top, .slice ar nr cr] 24 .fix) := get_add_same ..
  have sF : ∀ {x : Hp}, Kp g1.nx g1 x → x.get h.nx = some (.cells [.slice aw nw cw, .int .i64 top, .slice ar nr cr] 24 .fix) := fun k => (k.get _ n1).trans s1
  have kF : ∀ {x : Hp}, Kp g1.nx g1 x → Kp h.nx h x := fun k => k1.trans (k.le (Nat.le_of_lt n1))
  have okF : ∀ {x : Hp}, Kp g1.nx g1 x → x.Ok := fun k => (ok.add _).kp k
  have tF : ∀ {x : Hp}, Kp g1.nx g1 x → Tb x := fun k => ht.kp (kF k) n0
  have AF : ∀ {x : Hp}, Kp g1.nx g1 x → HA x aw nw cw W ar nr cr R := fun {x} k => by
    haveI : Ft h x := (kF k).ex (Nat.le_refl _)
    exact A.to x
  obtain ⟨v, h10, e10, rfl, k10⟩ := ct13 hO (g := g1) (top := top) (aw := aw) (cw := cw) (ar := ar) (cr := cr) A.sw.at_.1 A.sr.at_.1 none 0 0
  refine ⟨_, _, _, _, _, _, _, rd3 s1, _, _, e10, vcond_split (fun hl => ⟨_, _, works_true (tF k10), rfl⟩) fun hl => ?_⟩
  have hlW : W.length ≤ 250 := by
    unfold largeB at hl
    simp only [Bool.or_eq_false_iff, decide_eq_false_iff_not] at hl
    omega
  obtain ⟨s, rs, ks, hrun, hres, hlen⟩ := run_of W top R
  obtain ⟨v, h24, e24, a20, n21, c22, rfl, X1, k24⟩ := ct36 hO (okF k10) (AF k10) (top := top) (tF k10)
  have K24 : Kp g1.nx g1 h24 := k10.trans (k24.le k10.nx)
  refine ⟨_, _, _, _, _, _, _, rd3 (sF k10), _, _, _, _, _, e24, ?_⟩
  obtain ⟨v, h36, e36, a32, n33, c34, rfl, X2, k36⟩ := ct37 hO (okF K24) (AF K24) (top := top)
  have K36 : Kp g1.nx g1 h36 := K24.trans (k36.le K24.nx)
  refine ⟨_, _, _, _, _, _, _, rd3 (sF K24), _, _, _, _, _, e36, ?_⟩
  obtain ⟨v, h48, e48, a44, n45, c46, rfl, X3, k48⟩ := ct38 hO (okF K36) (AF K36) (top := top) (tF K36) hrun
  have K48 : Kp g1.nx g1 h48 := K36.trans (k48.le K36.nx)
  refine ⟨_, _, _, _, _, _, _, rd3 (sF K36), _, _, _, _, _, e48, ?_⟩
  obtain ⟨v, h60, e60, a56, n57, c58, rfl, X4, k60⟩ := ct39 hO (okF K48) (AF K48) (top := top) hres
  have K60 : Kp g1.nx g1 h60 := K48.trans (k60.le K48.nx)
  refine ⟨_, _, _, _, _, _, _, rd3 (sF K48), _, _, _, _, _, e60, ?_⟩
  rw [formed_check] at X2 X4 ⊢
  have m24 := k24.nx
  have m36 := k36.nx
  have m48 := k48.nx
  have m60 := k60.nx
  intro g61
  have K61 : Kp g1.nx g1 g61 := K60.rsv 29
  haveI f1 : Ft h24 (g61.grd []) := ((k36.trans ((k48.trans ((k60.rsv 29).le m48)).le m36)).ex (Nat.le_refl _))
  haveI f2 : Ft h36 (g61.grd []) := ((k48.trans ((k60.rsv 29).le m48)).ex (Nat.le_refl _))
  haveI f3 : Ft h48 (g61.grd []) := ((k60.rsv 29).ex (Nat.le_refl _))
  haveI f4 : Ft h60 (g61.grd []) := ⟨fun _ _ => rfl, Nat.le_add_right ..⟩
  have len1 : ((checkP W top R).getD []).length ≤ 250 := by
    cases hc : checkP W top R with
    | none => simp
    | some l =>
      obtain ⟨C, _⟩ := col_of hc
      have := length_total W l
      have := C.tot
      have := C.tpn
      show l.length ≤ 250
      omega
  have len2 : (((checkP W top R).map fun _ => s.ord).getD []).length ≤ 250 := by
    cases hc : checkP W top R with
    | none => simp
    | some l => have := hlen l hc; show s.ord.length ≤ 250; omega
  obtain ⟨v, h63, e63, rfl, k63⟩ := ct40 hO (c := c22) (c1 := c34) (X1.to (g61.grd [])) (X2.to (g61.grd [])) (by simp only [List.length_map]; omega)
  refine ⟨_, _, e63, ?_⟩
  intro g64
  have K64 : Kp g1.nx g1 g64 := K61.rst (g := []) (k63.le K61.nx)
  have m63 : g61.nx ≤ h63.nx := k63.nx
  refine vcond_t rfl (vcond_t (eqI_t rfl) ?_)
  haveI f5 : Ft (g61.grd []) (g64.grd []) := ⟨fun o ho => k63.get o ho, m63⟩
  obtain ⟨v, h66, e66, rfl, k66⟩ := ct40 hO (c := c46) (c1 := c58) ((X3.to (g61.grd [])).to (g64.grd [])) ((X4.to (g61.grd [])).to (g64.grd [])) (by simp only [List.length_map]; omega)
  refine ⟨_, _, e66, ?_⟩
  intro g67
  have K67 : Kp g1.nx g1 g67 := K64.rst (g := []) (k66.le K64.nx)
  refine vcond_t rfl (vcond_t (eqI_t rfl) ?_)
  refine ⟨_, _, _, _, _, _, _, rd3 (sF K67), _, _, _, _, _, _, _, rd3 (sF K67), ?_⟩
  have okg : (g67.grd [h.nx]).Ok := (okF K67).grd fun q hq => by
    have := List.mem_singleton.1 hq
    have := K67.nx
    omega
  haveI fA : Ft h (g67.grd [h.nx]) := ⟨fun o ho => (kF K67).get o ho, (kF K67).nx⟩
  obtain ⟨v, h83, e83, rfl, k83⟩ := ct41 hO okg (A.to _) (top := top) ⟨(tF K67).1, (tF K67).2⟩
  refine ⟨_, _, e83, ?_⟩
  intro g84
  have K84 : Kp g1.nx g1 g84 := K67.rst (g := [h.nx]) (k83.le K67.nx)
  obtain ⟨v, h86, e86, rfl, k86⟩ := ct42 hO (g := g84.grd []) (okF K84) (AF K84) (top := top)
  refine ⟨_, _, e86, ?_⟩
  intro g87
  have K87 : Kp g1.nx g1 g87 := K84.rst (g := []) (k86.le K84.nx)
  rw [formed_check]
  refine vcond_t (eqI_t rfl) ⟨_, _, works_true (h := g87.grd []) ⟨(tF K87).1, (tF K87).2⟩, ?_⟩
  intro g90
  rfl
end Go.Proofs.YtngcjpkccnfjiaaGreatDoor
/- What a call's arguments hold, as the evaluator's memory. -/
namespace Go.Ev
open Go
/-- Fields lie one behind the other. -/
def layOk (P : Program) : Nat → List Field → Nat → Bool
  | off, [], n => Nat.beq off n
  | off, f :: fs, n => Nat.beq f.offset off && layOk P (off + P.cellsOf f.type) fs n
/-- A type of truths, whole numbers, lists, structs and rows of these. -/
def Plain (P : Program) : Nat → TypeId → Bool
  | 0, _ => false
  | n + 1, t => match P.underlying t with
    | some .bool => true
    | some (.int _) => true
    | some (.slice e) => Plain P n e && !(Nat.beq (P.cellsOf e) 0)
    | some (.struct fs) => fs.toList.all (fun f => Plain P n f.type) && layOk P 0 fs.toList (P.cellsOf t)
    | some (.array m e) => Plain P n e && Nat.beq (m * P.cellsOf e) (P.cellsOf t)
    | _ => false
/-- Cells that read as some data, in the evaluator's memory. -/
def DE {H : Type} (P : Program) (h : Hp) : Nat → TypeId → List Value → DataW H → Prop
  | 0, _, _, _ => False
  | n + 1, t, cs, d => match P.underlying t, d with
    | some .bool, .lit (.bool b) => cs = [.bool b]
    | some (.int k), .lit (.int k' x) => k' = k ∧ cs = [.int k x] ∧ (Lit.int k x).wf = true
    | some (.slice _), .nil => cs = [.slice none 0 0]
    | some (.slice e), .slice elems _ => ∃ k cap c e', cs = [.slice (some ⟨k, 0, none⟩) elems.length cap] ∧ cap < unk ∧ elems.length ≤ cap ∧ k < h.nx ∧ h.get k = some (.cells c e' .ro) ∧ elems.length * P.cellsOf e ≤ c.length ∧
        ∀ i (hi : i < elems.length), DE P h n e ((c.drop (i * P.cellsOf e)).take (P.cellsOf e)) elems[i]
    | some (.struct fs), .agg parts => cs.length = P.cellsOf t ∧ parts.length = fs.size ∧ ∀ i (hi : i < parts.length) f, fs[i]? = some f → DE P h n f.type ((cs.drop f.offset).take (P.cellsOf f.type)) parts[i]
    | some (.array m e), .agg parts => cs.length = P.cellsOf t ∧ parts.length = m ∧ ∀ i (hi : i < parts.length), DE P h n e ((cs.drop (i * P.cellsOf e)).take (P.cellsOf e)) parts[i]
    | _, _ => False
/-- Memory with more in it, that none writes. -/
structure Ext1 (h : Hp) (ι : Inj) (h' : Hp) (ι' : Inj) : Prop where
  nx : h.nx ≤ h'.nx
  gd : h'.gd = h.gd
  get : ∀ o, o < h.nx → h'.get o = h.get o
  inj : ∀ o, o < h.nx → ι' o = ι o
theorem Ext1.refl (h : Hp) (ι : Inj) : Ext1 h ι h ι := ⟨Nat.le_refl _, rfl, fun _ _ => rfl, fun _ _ => rfl⟩
theorem Ext1.trans {h h' h'' : Hp} {ι ι' ι'' : Inj} (a : Ext1 h ι h' ι') (b : Ext1 h' ι' h'' ι'') : Ext1 h ι h'' ι'' :=
  ⟨Nat.le_trans a.nx b.nx, b.gd.trans a.gd, fun o ho => (b.get o (Nat.lt_of_lt_of_le ho a.nx)).trans (a.get o ho), fun o ho => (b.inj o (Nat.lt_of_lt_of_le ho a.nx)).trans (a.inj o ho)⟩
theorem DE.mono {H : Type} {P : Program} {h h' : Hp} (hn : h.nx ≤ h'.nx) (hg : ∀ o, o < h.nx → h'.get o = h.get o) : ∀ {n : Nat} {t : TypeId} {cs : List Value} {d : DataW H}, DE P h n t cs d → DE P h' n t cs d := by
  intro n
  induction n with
  | zero => intro t cs d h; exact h
  | succ n ih =>
    intro t cs d hd
    unfold DE at hd ⊢
    split at hd
    · exact hd
    · exact hd
    · exact hd
    · obtain ⟨k, cap, c, e', h1, h2, h3, h4, h5, h6, h7⟩ := hd
      exact ⟨k, cap, c, e', h1, h2, h3, Nat.lt_of_lt_of_le h4 hn, by rw [hg k h4]; exact h5, h6, fun i hi => ih (h7 i hi)⟩
    · exact ⟨hd.1, hd.2.1, fun i hi f hf => ih (hd.2.2 i hi f hf)⟩
    · exact ⟨hd.1, hd.2.1, fun i hi => ih (hd.2.2 i hi)⟩
    · exact hd
section
variable {H : Type} {enc : TypeId × Value → H} {P : Program} {W : World}
/-- What is ahead: memory that none writes, and an object in it. -/
structure Base (P : Program) (ι : Inj) (h : Hp) (W : World) : Prop where
  rh : RH P ι h W
  ro : ∀ o x, h.get o = some x → x.wr = false
  gd : h.gd = []
  some0 : ∃ x v, h.get 0 = some x ∧ ι 0 = some v ∧ 0 < h.nx ∧ ∃ c e, x = .cells c e .ro
/-- An object more. -/
theorem Base.push {ι : Inj} {h : Hp} (B : Base P ι h W) {c : List Value} {e : TypeId} {v : Vw} (h1 : c.all one = true) {c' : Array Value} {e' : TypeId} {fr : Nat × Nat} (hb : W.heap[v.blk]? = some (.cells c' e' fr)) (hc : ∀ (j : Nat) x, c[j]? = some x → ∃ y, c'[v.base + j]? = some y ∧ VR ι x y) :
    Base P (ι.set h.nx v) (h.add (.cells c e .ro)) W ∧ Ext1 h ι (h.add (.cells c e .ro)) (ι.set h.nx v) := by
  have hfresh : ι h.nx = none := B.rh.fresh _ (Nat.le_refl _)
  have mono := Inj.set_mono (v := v) hfresh
  have hE : Ext1 h ι (h.add (.cells c e .ro)) (ι.set h.nx v) := ⟨by rw [nx_add]; omega, rfl, fun o ho => get_add_ne (by omega), fun o ho => Inj.set_other _ _ _ (by omega)⟩
  have hget : ∀ o x, (h.add (.cells c e .ro)).get o = some x → (o = h.nx ∧ x = .cells c e .ro) ∨ h.get o = some x := fun o x ho => by
    rw [get_add] at ho
    split at ho
    · exact .inl ⟨‹_›, (Option.some.inj ho).symm⟩
    · exact .inr ho
  have hro : ∀ o x, (h.add (.cells c e .ro)).get o = some x → x.wr = false := fun o x ho => by
    rcases hget o x ho with ⟨_, rfl⟩ | ho
    · rfl
    · exact B.ro o x ho
  refine ⟨⟨⟨fun o x ho => ?_, fun o q x y vo vq _ ho hx => ?_, fun o ho => ?_, fun g hg => ?_, ?_⟩, hro, B.gd, ?_⟩, hE⟩
  · rcases hget o x ho with ⟨rfl, rfl⟩ | ho
    · refine ⟨by rw [nx_add]; omega, v, Inj.set_same .., h1, c', e', fr, hb, fun j x hx => ?_, fun h => absurd rfl h, fun h => by cases h⟩
      obtain ⟨y, hy, hv⟩ := hc j x hx
      exact ⟨y, hy, hv.mono mono⟩
    · obtain ⟨h2, u, hu, hor⟩ := B.rh.live o x ho
      exact ⟨by rw [nx_add]; omega, u, mono _ _ hu, hor.of_block mono rfl⟩
  · rw [hro o x ho] at hx; cases hx
  · rw [nx_add] at ho
    rw [Inj.set_other _ _ _ (by omega)]; exact B.rh.fresh o (by omega)
  · rw [Inj.set_other _ _ _ (by have := B.rh.gsize; omega)]; exact B.rh.glob g hg
  · rw [nx_add]; have := B.rh.gsize; omega
  · obtain ⟨x, u, a1, a2, a3, a4⟩ := B.some0
    exact ⟨x, u, by rw [get_add_ne (by omega)]; exact a1, by rw [Inj.set_other _ _ _ (by omega)]; exact a2, by rw [nx_add]; omega, a4⟩
theorem cells_take {a : Addr} {n : Nat} {cs : List Value} (h : W.cells? 0 a n = some cs) : cs.length = n ∧ ∀ j, j < n → W.cell? (a.add j) = cs[j]? := by
  unfold World.cells? at h
  rw [if_pos (Nat.zero_le _)] at h
  have hl := Lib.mapM_length h
  rw [List.length_range] at hl
  refine ⟨hl, fun j hj => ?_⟩
  obtain ⟨b, h1, h2⟩ := Lib.mapM_at h j j (by simp [hj])
  rw [h1, h2]
/-- A whole part is built, whatever a part is built of. -/
def Builds (H : Type) (enc : TypeId × Value → H) (P : Program) (W : World) (n : Nat) (t : TypeId) : Prop := ∀ (cs : List Value) (d : DataW H) (ps : List MemPlace), DataW.trod enc P W 0 (fun _ => true) true n t cs = some (d, ps) →
  ∀ ι h, Base P ι h W → ∃ ι' h' ev, Ext1 h ι h' ι' ∧ Base P ι' h' W ∧ VRs ι' ev cs ∧ ev.all one = true ∧ DE P h' n t ev d
theorem VRs.mono1 {ι ι' : Inj} {h h' : Hp} (E : Ext1 h ι h' ι') (R : ∀ o, h.nx ≤ o → ι o = none) {a b : List Value} (hv : VRs ι a b) : VRs ι' a b := hv.mono fun o v hv => by
  have : o < h.nx := by
    rcases Nat.lt_or_ge o h.nx with hh | hh
    · exact hh
    · rw [R o hh] at hv; cases hv
  rw [E.inj o this]; exact hv
/-- Parts, one after the other. -/
theorem build_list {n : Nat} : ∀ (l : List (TypeId × List Value × DataW H)), (∀ p ∈ l, Builds H enc P W n p.1 ∧ ∃ ps, DataW.trod enc P W 0 (fun _ => true) true n p.1 p.2.1 = some (p.2.2, ps)) → ∀ ι h, Base P ι h W →
    ∃ ι' h', ∃ evs : List (List Value), Ext1 h ι h' ι' ∧ Base P ι' h' W ∧ evs.length = l.length ∧ VRs ι' evs.flatten (l.map (·.2.1)).flatten ∧ evs.flatten.all one = true ∧
      ∀ i (hi : i < l.length), ∃ ev, evs[i]? = some ev ∧ VRs ι' ev l[i].2.1 ∧ DE P h' n l[i].1 ev l[i].2.2 := by
  intro l
  induction l with
  | nil => intro _ ι h B; exact ⟨ι, h, [], .refl _ _, B, rfl, .nil _, rfl, fun i hi => absurd hi (Nat.not_lt_zero _)⟩
  | cons p l ih =>
    intro hl ι h B
    obtain ⟨hb, ps, hp⟩ := hl p (List.mem_cons_self ..)
    obtain ⟨ι1, h1, ev, E1, B1, V1, O1, D1⟩ := hb _ _ _ hp ι h B
    obtain ⟨ι2, h2, evs, E2, B2, L2, V2, O2, D2⟩ := ih (fun q hq => hl q (List.mem_cons_of_mem _ hq)) ι1 h1 B1
    have V1' := VRs.mono1 E2 B1.rh.fresh V1
    refine ⟨ι2, h2, ev :: evs, E1.trans E2, B2, by simp [L2], ?_, ?_, fun i hi => ?_⟩
    · rw [List.flatten_cons, List.map_cons, List.flatten_cons]; exact V1'.append V2
    · rw [List.flatten_cons, List.all_append, O1, O2]; rfl
    · cases i with
      | zero => exact ⟨ev, rfl, V1', D1.mono E2.nx E2.get⟩
      | succ i => exact D2 i (by simpa using hi)
theorem flat_row {l : List (List Value)} {w : Nat} (hw : ∀ x ∈ l, x.length = w) : l.flatten.length = l.length * w ∧ ∀ i x, l[i]? = some x → (l.flatten.drop (i * w)).take w = x := by
  induction l with
  | nil => exact ⟨by simp, fun i x h => by simp at h⟩
  | cons y l ih =>
    obtain ⟨h1, h2⟩ := ih fun x hx => hw x (List.mem_cons_of_mem _ hx)
    have hy := hw y (List.mem_cons_self ..)
    refine ⟨by rw [List.flatten_cons, List.length_append, h1, hy, List.length_cons, Nat.add_mul]; omega, fun i x hx => ?_⟩
    rw [List.flatten_cons]
    cases i with
    | zero =>
      simp at hx
      subst hx
      rw [Nat.zero_mul, List.drop_zero, ← hy, List.take_left]
    | succ i =>
      rw [List.drop_append, List.drop_of_length_le (by rw [hy, Nat.add_mul]; omega), List.nil_append, hy, show (i + 1) * w - w = i * w by rw [Nat.add_mul]; omega]
      exact h2 i x (by simpa using hx)
/-- What a slice reads as. -/
theorem trod_slice {n : Nat} {e t : TypeId} (hu : P.underlying t = some (.slice e)) {cs : List Value} {d : DataW H} {ps : List MemPlace} (h : DataW.trod enc P W 0 (fun _ => true) true (n + 1) t cs = some (d, ps)) :
    (cs = [.slice none 0 0] ∧ d = .nil) ∨ ∃ (a : Addr) (len cap : Nat) (elems rest : List (DataW H × List MemPlace)), cs = [.slice (some a) len cap] ∧ len ≤ cap ∧ cap ≤ maxLen ∧
      (List.range len).mapM (fun i => (W.cells? 0 (a.add (i * P.cellsOf e)) (P.cellsOf e)).bind (DataW.trod enc P W 0 (fun _ => true) true n e)) = some elems ∧
      (List.range (cap - len)).mapM (fun j => (W.cells? 0 (a.add ((len + j) * P.cellsOf e)) (P.cellsOf e)).bind (DataW.trod enc P W 0 (fun _ => true) true n e)) = some rest ∧ d = .slice (elems.map (·.1)) (rest.map (·.1)) := by
  unfold DataW.trod at h
  rw [hu] at h
  rcases cs with _ | ⟨v, _ | ⟨w, r⟩⟩
  · cases h
  · cases v with
    | slice a len cap =>
      rcases a with _ | a
      · rcases len with _ | len
        · rcases cap with _ | cap
          · injection h with h; injection h with h1 h2; exact .inl ⟨rfl, h1.symm⟩
          · cases h
        · cases h
      · right
        simp only at h
        split at h
        · rename_i hc
          obtain ⟨elems, h1, h2⟩ := Option.bind_eq_some_iff.1 h
          obtain ⟨rest, h3, h4⟩ := Option.map_eq_some_iff.1 h2
          injection h4 with h4 h5
          rw [if_pos trivial] at h3
          exact ⟨a, len, cap, elems, rest, rfl, hc.2.1, hc.2.2, h1, h3, h4.symm⟩
        · cases h
    | _ => cases h
  · cases v with
    | slice a len cap => cases a <;> cases len <;> cases cap <;> cases h
    | _ => cases h
theorem cell_block {a : Addr} {v : Value} (h : W.cell? a = some v) : ∃ c e fr, W.heap[a.block]? = some (.cells c e fr) ∧ a.spot = none ∧ c[a.off]? = some v := by
  unfold World.cell? at h
  split at h
  · rename_i c e fr hb
    split at h
    · cases h
    · rename_i hs
      exact ⟨c, e, fr, hb, by simpa using hs, h⟩
  · cases h
theorem add_add (a : Addr) (i j : Nat) : ((a.add i).add j).block = a.block ∧ ((a.add i).add j).off = a.off + i + j := by
  unfold Addr.add
  by_cases hi : i = 0
  · subst hi; by_cases hj : j = 0
    · subst hj; exact ⟨rfl, rfl⟩
    · simp [hj]
  · by_cases hj : j = 0
    · subst hj; simp [hi]
    · simp [hi, hj]
theorem build_slice {n : Nat} {e t : TypeId} (he : Builds H enc P W n e) (hs : P.cellsOf e ≠ 0) (hu : P.underlying t = some (.slice e)) : Builds H enc P W (n + 1) t := by
  intro cs d ps h ι hp B
  rcases trod_slice hu h with ⟨rfl, rfl⟩ | ⟨a, len, cap, elems, rest, rfl, hlc, hcap, h1, h2, rfl⟩
  · exact ⟨ι, hp, [.slice none 0 0], .refl _ _, B, .of_flat rfl, rfl, by unfold DE; rw [hu]⟩
  have hcl : cap < unk := by
    have : unk = 18446744073709551616 := rfl
    have : maxLen = 2 ^ 63 - 1 := rfl
    omega
  have hcu : cap ≠ unk := Nat.ne_of_lt hcl
  have l1 := Lib.mapM_length h1
  have l2 := Lib.mapM_length h2
  rw [List.length_range] at l1 l2
  -- the elements
  let cell (i : Nat) : List Value := (W.cells? 0 (a.add (i * P.cellsOf e)) (P.cellsOf e)).getD []
  have el : ∀ i (hi : i < len), W.cells? 0 (a.add (i * P.cellsOf e)) (P.cellsOf e) = some (cell i) ∧ DataW.trod enc P W 0 (fun _ => true) true n e (cell i) = some (elems[i]'(by omega)) := by
    intro i hi
    obtain ⟨b, e1, e2⟩ := Lib.mapM_at h1 i i (by simp [hi])
    obtain ⟨c, e3, e4⟩ := Option.bind_eq_some_iff.1 e2
    have hc : cell i = c := by show (W.cells? 0 _ _).getD [] = c; rw [e3]; rfl
    rw [hc]
    refine ⟨e3, ?_⟩
    rw [e4, ← e1, List.getElem?_eq_getElem]
  by_cases hcap0 : cap = 0
  · -- nothing at all
    subst hcap0
    obtain rfl : len = 0 := by omega
    obtain ⟨x, v, g1, g2, g3, c, e', rfl⟩ := B.some0
    have he0 : elems = [] := List.length_eq_zero_iff.1 l1
    subst he0
    refine ⟨ι, hp, [.slice (some ⟨0, 0, none⟩) 0 0], .refl _ _, B, .cons (.sl0 g2 (.inr rfl)) (.nil _), rfl, ?_⟩
    unfold DE
    rw [hu]
    have hm : ∃ c' e'', hp.get 0 = some (.cells c' e'' .ro) := by
      refine ⟨c, e', ?_⟩
      have := B.ro 0 _ g1
      rw [g1]
    obtain ⟨c', e'', hm⟩ := hm
    exact ⟨0, 0, c', e'', rfl, hcl, Nat.le_refl _, g3, hm, by simp, fun i hi => absurd hi (Nat.not_lt_zero _)⟩
  · -- the block
    have hblk : ∃ c' e' fr, W.heap[a.block]? = some (.cells c' e' fr) ∧ a.spot = none := by
      have first : ∃ c, W.cells? 0 a (P.cellsOf e) = some c := by
        rcases Nat.eq_zero_or_pos len with h0 | h0
        · obtain ⟨b, _, e2⟩ := Lib.mapM_at h2 0 0 (by rw [List.getElem?_eq_getElem (by simp; omega)]; simp)
          obtain ⟨c, e3, _⟩ := Option.bind_eq_some_iff.1 e2
          rw [h0, Nat.zero_add, Nat.zero_mul] at e3
          exact ⟨c, e3⟩
        · have := (el 0 h0).1
          rw [Nat.zero_mul] at this
          exact ⟨_, this⟩
      obtain ⟨c, hc⟩ := first
      obtain ⟨g1, g2⟩ := cells_take hc
      have := g2 0 (by omega)
      obtain ⟨v, hv⟩ : ∃ v, c[0]? = some v := ⟨c[0]'(by omega), List.getElem?_eq_getElem _⟩
      rw [hv] at this
      obtain ⟨c', e', fr, q1, q2, _⟩ := cell_block this
      exact ⟨c', e', fr, q1, q2⟩
    obtain ⟨c', e', fr, hb, hsp⟩ := hblk
    let l : List (TypeId × List Value × DataW H) := (List.range len).map fun i => (e, cell i, ((elems.map (·.1))[i]?).getD .nil)
    have hll : l.length = len := by simp [l]
    have lget : ∀ i (hi : i < l.length), l[i] = (e, cell i, (elems[i]'(by omega)).1) := by
      intro i hi
      have hi' : i < elems.length := by omega
      simp [l, hi']
    obtain ⟨ι1, h3, evs, E1, B1, L1, V1, O1, D1⟩ := build_list l (fun p hpm => by
      obtain ⟨i, hi, rfl⟩ := List.getElem_of_mem hpm
      rw [lget i hi]
      exact ⟨he, _, (el i (by omega)).2⟩) ι hp B
    have hw : ∀ x ∈ evs, x.length = P.cellsOf e := by
      intro x hx
      obtain ⟨i, hi, rfl⟩ := List.getElem_of_mem hx
      obtain ⟨ev, e1, e2, _⟩ := D1 i (by omega)
      rw [List.getElem?_eq_getElem hi] at e1
      obtain rfl := Option.some.inj e1
      rw [← e2.1, lget i (by omega)]
      exact (cells_take (el i (by omega)).1).1
    obtain ⟨f1, f2⟩ := flat_row hw
    obtain ⟨B2, E2⟩ := B1.push (c := evs.flatten) (e := e) (v := ⟨a.block, a.off, 0, 0⟩) O1 hb (fun j x hx => by
      have hj : j < evs.flatten.length := (List.getElem?_eq_some_iff.1 hx).1
      rw [f1, L1, hll] at hj
      have hlt : j / P.cellsOf e < len := Nat.div_lt_of_lt_mul (by rw [Nat.mul_comm]; exact hj)
      have hmod : j % P.cellsOf e < P.cellsOf e := Nat.mod_lt _ (by omega)
      have hdm : j = j / P.cellsOf e * P.cellsOf e + j % P.cellsOf e := by rw [Nat.mul_comm]; exact (Nat.div_add_mod j _).symm
      obtain ⟨ev, e1, e2, _⟩ := D1 (j / P.cellsOf e) (by omega)
      have e3 := f2 _ _ e1
      have hx' : ev[j % P.cellsOf e]? = some x := by
        rw [← e3, List.getElem?_take, if_pos hmod, List.getElem?_drop, ← hdm]; exact hx
      obtain ⟨y, hy, hv⟩ := e2.get hx'
      rw [lget _ (by omega)] at hy
      have hy : (cell (j / P.cellsOf e))[j % P.cellsOf e]? = some y := hy
      have := (cells_take (el _ hlt).1).2 _ hmod
      rw [hy] at this
      obtain ⟨c2, e2', fr2, q1, _, q3⟩ := cell_block this
      obtain ⟨p1, p2⟩ := add_add a (j / P.cellsOf e * P.cellsOf e) (j % P.cellsOf e)
      rw [p1] at q1
      rw [p2] at q3
      rw [hb] at q1
      injection q1 with q1
      injection q1 with q1 _ _
      subst q1
      exact ⟨y, by rw [show a.off + j = a.off + j / P.cellsOf e * P.cellsOf e + j % P.cellsOf e by omega]; exact q3, hv⟩)
    refine ⟨_, _, [.slice (some ⟨h3.nx, 0, none⟩) len cap], E1.trans E2, B2, .cons ?_ (.nil _), rfl, ?_⟩
    · have ha : a = ⟨a.block, a.off + 0, none⟩ := by cases a; simp at hsp; subst hsp; rfl
      rw [ha]
      exact .slc (w := ⟨a.block, a.off, 0, 0⟩) (Inj.set_same ..) hcu
    · unfold DE
      rw [hu]
      have hel : (elems.map (·.1)).length = len := by simp [l1]
      refine ⟨h3.nx, cap, evs.flatten, e, by rw [hel], hcl, by rw [hel]; exact hlc, by rw [nx_add]; omega, get_add_same .., Nat.le_of_eq (by rw [hel, f1, L1, hll]), fun i hi => ?_⟩
      rw [hel] at hi
      obtain ⟨ev, e1, _, e3⟩ := D1 i (by omega)
      rw [f2 i ev e1]
      rw [lget i (by omega)] at e3
      have : (elems.map (·.1))[i]'(by rw [hel]; exact hi) = (elems[i]'(by omega)).1 := by simp
      rw [this]
      exact e3.mono (by rw [nx_add]; omega) fun o ho => get_add_ne (by omega)
theorem build_int {n : Nat} {t : TypeId} {k : IntKind} (hu : P.underlying t = some (.int k)) : Builds H enc P W (n + 1) t := by
  intro cs d ps h ι hp B
  unfold DataW.trod at h
  rw [hu] at h
  rcases cs with _ | ⟨v, _ | ⟨w, r⟩⟩
  · cases h
  · cases v with
    | int k' x =>
      simp only at h
      split at h
      · rename_i hc
        injection h with h; injection h with h _
        subst h
        obtain ⟨rfl, hw⟩ := hc
        exact ⟨ι, hp, [.int k' x], .refl _ _, B, .of_flat rfl, rfl, by unfold DE; rw [hu]; exact ⟨rfl, rfl, hw⟩⟩
      · cases h
    | slice a len cap => cases a <;> cases len <;> cases cap <;> cases h
    | _ => cases h
  · cases v with
    | slice a len cap => cases a <;> cases len <;> cases cap <;> cases h
    | _ => cases h
end
end Go.Ev
/- A law's arguments, as the evaluator's memory; from its word to the kit's. -/
namespace Go.Ev
open Go Go.ChangeShapes Go.WideShapes Go.ChangeAt Go.RowKit
section
variable {H : Type} {enc : TypeId × Value → H} {P : Program} {W : World}
/-- Arguments that read as some data. -/
def DEs (P : Program) (h : Hp) : List TypeId → List Value → List (DataW H) → Prop
  | [], [], [] => True
  | t :: ts, v :: vs, d :: ds => ((∃ n, DE P h n t v.cells.toList d) ∧ (aggT P t = some true ∨ v.cells.toList = [v])) ∧ DEs P h ts vs ds
  | _, _, _ => False
theorem DEs.mono {h h' : Hp} (hn : h.nx ≤ h'.nx) (hg : ∀ o, o < h.nx → h'.get o = h.get o) : ∀ {ts : List TypeId} {vs : List Value} {ds : List (DataW H)}, DEs P h ts vs ds → DEs P h' ts vs ds
  | [], [], [], h => h
  | _ :: _, _ :: _, _ :: _, ⟨⟨⟨n, h1⟩, h3⟩, h2⟩ => ⟨⟨⟨n, h1.mono hn hg⟩, h3⟩, h2.mono hn hg⟩
/-- A value is one cell, or a struct's or a row's cells. -/
def Shaped1 (P : Program) (t : TypeId) (v : Value) : Prop := v.cells.toList = [v] ∨ (∃ cs, v = .agg cs) ∧ aggT P t = some true
theorem args_build : ∀ {ts : List TypeId} {vs : List Value} {ds : List (DataW H)} {p : List MemPlace}, DataW.TrodAll enc P W 0 (fun _ => true) true ts vs ds p → (∀ t ∈ ts, ∀ n, Builds H enc P W n t) → (∀ (i : Nat) t v, ts[i]? = some t → vs[i]? = some v → Shaped1 P t v) → ∀ ι h, Base P ι h W →
    ∃ ι' h' evs, Ext1 h ι h' ι' ∧ Base P ι' h' W ∧ VRs ι' evs vs ∧ DEs P h' ts evs ds
  | [], [], [], _, _, _, _, ι, h, B => ⟨ι, h, [], .refl _ _, B, .nil _, trivial⟩
  | t :: ts, v :: vs, d :: ds, _, ⟨p, q, ⟨n, h1⟩, h2, _⟩, hb, hs, ι, h, B => by
    obtain ⟨ι1, h3, ev, E1, B1, V1, O1, D1⟩ := hb t (List.mem_cons_self ..) n _ _ _ h1 ι h B
    obtain ⟨ι2, h4, evs, E2, B2, V2, D2⟩ := args_build h2 (fun t ht => hb t (List.mem_cons_of_mem _ ht)) (fun i t v a b => hs (i + 1) t v (by simpa using a) (by simpa using b)) ι1 h3 B1
    have V1' := VRs.mono1 E2 B1.rh.fresh V1
    rcases hs 0 t v rfl rfl with hc | ⟨⟨cs, rfl⟩, hag⟩
    · rw [hc] at V1'
      have hl : ev.length = 1 := by have := V1'.1; simpa using this.symm
      obtain ⟨x, rfl⟩ : ∃ x, ev = [x] := List.length_eq_one_iff.1 hl
      have hx : x.cells.toList = [x] := by
        have : one x = true := by simpa using O1
        cases x <;> first | rfl | cases this
      obtain ⟨y, c, e1, e2, _⟩ := V1'.head
      injection e1 with e1 _
      subst e1
      refine ⟨ι2, h4, x :: evs, E1.trans E2, B2, .cons e2 V2, ⟨⟨n, ?_⟩, .inr hx⟩, D2⟩
      rw [hx]; exact D1.mono E2.nx E2.get
    · refine ⟨ι2, h4, .agg ev.toArray :: evs, E1.trans E2, B2, .cons ?_ V2, ⟨⟨n, ?_⟩, .inl hag⟩, D2⟩
      · have V1'' : VRs ι2 ev.toArray.toList cs.toList := by rw [List.toList_toArray]; exact V1'
        obtain ⟨a1, a2⟩ := VRs.arr.1 V1''
        exact .agg a1 a2
      · show DE P h4 n t (ev.toArray).toList d
        simpa using D1.mono E2.nx E2.get
theorem shaped_of {r : Reach} {base n : Nat} {t : TypeId} {v : Value} (hp : Plain P n t = true) (h : Value.okWide P W r base t v) : Shaped1 P t v := by
  cases n with
  | zero => cases hp
  | succ n =>
    unfold Plain at hp
    unfold Value.okWide at h
    split at hp
    · rename_i hu
      rw [hu] at h
      unfold Cell.okWide Cell.ok at h
      rw [hu] at h
      cases v <;> first | exact .inl rfl | exact h.elim
    · rename_i hu
      rw [hu] at h
      unfold Cell.okWide Cell.ok at h
      rw [hu] at h
      cases v <;> first | exact .inl rfl | exact h.elim
    · rename_i hu
      rw [hu] at h
      unfold Cell.okWide Cell.ok at h
      rw [hu] at h
      cases v <;> first | exact .inl rfl | exact h.elim
    · rename_i hu
      rw [hu] at h
      obtain ⟨cs, rfl, _⟩ := h
      exact .inr ⟨⟨cs, rfl⟩, by unfold aggT; rw [hu]⟩
    · rename_i hu
      rw [hu] at h
      obtain ⟨cs, rfl, _⟩ := h
      exact .inr ⟨⟨cs, rfl⟩, by unfold aggT; rw [hu]⟩
    · cases hp
theorem DE_int {h : Hp} {n : Nat} {t : TypeId} {k : IntKind} (hu : P.underlying t = some (.int k)) {cs : List Value} {d : DataW H} (hd : DE P h n t cs d) : ∃ x, cs = [.int k x] ∧ (Lit.int k x).wf = true := by
  cases n with
  | zero => exact hd.elim
  | succ n =>
    unfold DE at hd
    rw [hu] at hd
    split at hd
    all_goals first | (rename_i heq; cases heq; done) | skip
    · rename_i k' k2 x heq
      injection heq with heq; injection heq with heq
      subst heq
      exact ⟨x, hd.2⟩
    all_goals first | exact hd.elim | skip
/-- What was there stays, but for what is new. -/
theorem post_of_old {f : Func} {s : ChangeSpec} {apart fresh handsOn again : Bool} {W W' : World} {args : Array Value} {v : Value} {ds gs : List (DataW H)} {before pa pv : List MemPlace}
    (hW : DataW.Whole enc P f.params.toList s.vars apart W args.toList ds gs before)
    (hres : ∀ (b : Nat) (sp : Nat → Bool) (hd : Bool), DataW.TrodAll enc P W' b sp hd f.resultTypes.toList (v.resultList f.resultTypes.size) (s.fn H (ds ++ gs)).results [])
    (hargs : ∀ sp : Nat → Bool, (∀ p ∈ before, sp p.block = true) → DataW.TrodAll enc P W' 0 sp true f.params.toList args.toList (s.fn H (ds ++ gs)).args pa)
    (hvars : ∀ sp : Nat → Bool, (∀ p ∈ before, sp p.block = true) → DataW.TrodVars enc P W' sp s.vars (s.fn H (ds ++ gs)).vars pv)
    (hps : before = pa ++ pv) (hk : W.keptBut W' (· ∈ before)) (hfz : ∀ a : Addr, a.block < W.heap.size → W'.frozen? a = W.frozen? a)
    (hok : ∀ (j : Nat) (t : TypeId) (r : Value), f.resultTypes[j]? = some t → (v.resultList f.resultTypes.size)[j]? = some r → Value.okWide P W' .any 0 t r) :
    s.post enc P f apart fresh handsOn again W args v W' := by
  have hold : ∀ p ∈ before, (fun b => decide (b < W.heap.size)) p.block = true := fun p hp => by simpa using hW.lt p hp
  have hlt := hW.lt
  refine ⟨ds, gs, before, [], pa, pv, hW, hres _ _ _, hargs _ hold, hvars _ hold, World.keptBut_mono (fun p hp => ⟨hp, ?_⟩) hk, fun _ => ?_⟩
  · rw [hps, List.mem_append] at hp
    exact Or.inr hp
  · obtain ⟨_, _, _, _, _, hz, hn⟩ := hW
    refine ⟨hok, _, _, ([] ++ pa) ++ pv, ⟨[] ++ pa, pv, trodAll_append (hargs _ (fun _ _ => rfl)) (hres _ _ _), hvars _ (fun _ _ => rfl), rfl, ?_, ?_⟩, ?_⟩
    · intro b off hp
      have hp2 : MemPlace.cell b off ∈ before := by rw [hps]; simpa using hp
      rw [hfz _ (hlt _ hp2)]
      exact hz b off hp2
    · intro ha
      have := hn ha
      rw [hps] at this
      simpa using this
    · intro p hp _
      rw [hps]
      simpa using hp
/-- Arguments read again as they did. -/
theorem again {ts : List TypeId} {vs : List Value} {ds : List (DataW H)} {p : List MemPlace} {W' : World} (K : Kids P (· < P.types.size)) (full : ∀ t e, t < P.types.size → P.underlying t = some (.slice e) → 0 < P.cellsOf e) (hts : ∀ t ∈ ts, t < P.types.size)
    (hA : DataW.TrodAll enc P W 0 (fun _ => true) true ts vs ds p) (hb : Below W.heap.size W W') (hlt : ∀ q ∈ p, q.block < W.heap.size) (sp : Nat → Bool) (hs : ∀ q ∈ p, sp q.block = true) : DataW.TrodAll enc P W' 0 sp true ts vs ds p := by
  have hA' := DataW.TrodAll.respare K full hts hA hs
  clear hA hs hts
  induction ts generalizing vs ds p with
  | nil => match vs, ds, hA' with
    | [], [], h => exact h
  | cons t ts ih => match vs, ds, hA' with
    | v :: vs, d :: ds, ⟨p1, p2, ⟨n, h1⟩, h2, e⟩ =>
      subst e
      exact ⟨p1, p2, ⟨n, DataW.trod_carry n _ _ _ h1 fun q hq => hb.same (hlt q (List.mem_append_left _ hq))⟩, ih (fun q hq => hlt q (List.mem_append_right _ hq)) h2, rfl⟩
end
end Go.Ev
/- A law's arguments, as the evaluator's memory: structs, rows, and lists of lists. -/
namespace Go.Ev
open Go Go.ChangeShapes Go.WideShapes Go.ChangeAt Go.RowKit
section
variable {H : Type} {enc : TypeId × Value → H} {P : Program} {W : World}
/-- Fields one behind the other are the whole. -/
theorem lay_flat {n : Nat} : ∀ (fs : List Field) (off : Nat), layOk P off fs n = true → ∀ (cs : List Value), cs.length = n → (fs.map fun f => (cs.drop f.offset).take (P.cellsOf f.type)).flatten = cs.drop off := by
  intro fs
  induction fs with
  | nil =>
    intro off h cs hc
    have : off = n := Nat.eq_of_beq_eq_true h
    rw [List.drop_of_length_le (by omega)]; rfl
  | cons f fs ih =>
    intro off h cs hc
    simp only [layOk, Bool.and_eq_true] at h
    have h1 : f.offset = off := Nat.eq_of_beq_eq_true h.1
    rw [List.map_cons, List.flatten_cons, ih _ h.2 cs hc, h1, ← List.drop_drop, List.take_append_drop]
theorem lay_part {n : Nat} : ∀ (fs : List Field) (off : Nat), layOk P off fs n = true → ∀ (evs : List (List Value)), evs.length = fs.length → (∀ (i : Nat) f ev, fs[i]? = some f → evs[i]? = some ev → ev.length = P.cellsOf f.type) →
    ∀ (i : Nat) f ev, fs[i]? = some f → evs[i]? = some ev → off ≤ f.offset ∧ (evs.flatten.drop (f.offset - off)).take (P.cellsOf f.type) = ev := by
  intro fs
  induction fs with
  | nil => intro off _ evs _ _ i f ev hf; simp at hf
  | cons g fs ih =>
    intro off h evs hl hlen i f ev hf he
    simp only [layOk, Bool.and_eq_true] at h
    have h1 : g.offset = off := Nat.eq_of_beq_eq_true h.1
    rcases evs with _ | ⟨e0, evs⟩
    · simp at hl
    have hl0 : e0.length = P.cellsOf g.type := hlen 0 g e0 rfl rfl
    cases i with
    | zero =>
      simp at hf he
      subst hf he
      refine ⟨by omega, ?_⟩
      rw [h1, Nat.sub_self, List.drop_zero, List.flatten_cons, ← hl0, List.take_left]
    | succ i =>
      obtain ⟨g1, g2⟩ := ih _ h.2 evs (by simpa using hl) (fun i f ev a b => hlen (i + 1) f ev (by simpa using a) (by simpa using b)) i f ev (by simpa using hf) (by simpa using he)
      refine ⟨by omega, ?_⟩
      rw [List.flatten_cons, List.drop_append, List.drop_of_length_le (by omega), List.nil_append, show f.offset - off - e0.length = f.offset - (off + P.cellsOf g.type) by omega]
      exact g2
theorem lay_fit {n : Nat} : ∀ (fs : List Field) (off : Nat), layOk P off fs n = true → off ≤ n ∧ ∀ f ∈ fs, f.offset + P.cellsOf f.type ≤ n := by
  intro fs
  induction fs with
  | nil => intro off h; exact ⟨Nat.le_of_eq (Nat.eq_of_beq_eq_true h), fun f hf => by cases hf⟩
  | cons g fs ih =>
    intro off h
    simp only [layOk, Bool.and_eq_true] at h
    have h1 : g.offset = off := Nat.eq_of_beq_eq_true h.1
    obtain ⟨a, b⟩ := ih _ h.2
    refine ⟨by omega, fun f hf => ?_⟩
    rcases List.mem_cons.1 hf with rfl | hf
    · omega
    · exact b f hf
theorem build_struct {n : Nat} {fs : Array Field} {t : TypeId} (he : ∀ f ∈ fs.toList, Builds H enc P W n f.type) (hlay : layOk P 0 fs.toList (P.cellsOf t) = true) (hu : P.underlying t = some (.struct fs)) : Builds H enc P W (n + 1) t := by
  intro cs d ps h ι hp B
  have h : (if cs.length = P.cellsOf t then (fs.toList.mapM fun f => DataW.trod enc P W 0 (fun _ => true) true n f.type ((cs.drop f.offset).take (P.cellsOf f.type))).map fun xs => (DataW.agg (xs.map (·.1)), xs.flatMap (·.2)) else none) = some (d, ps) := by
    unfold DataW.trod at h
    rw [hu] at h
    exact h
  split at h
  · rename_i hc
    obtain ⟨xs, h1, h2⟩ := Option.map_eq_some_iff.1 h
    injection h2 with h2 _
    subst h2
    have l1 := Lib.mapM_length h1
    let l : List (TypeId × List Value × DataW H) := (fs.toList.zip (xs.map (·.1))).map fun p => (p.1.type, (cs.drop p.1.offset).take (P.cellsOf p.1.type), p.2)
    have hll : l.length = fs.toList.length := by simp [l, l1]
    have lget : ∀ i (hi : i < l.length), ∃ f x, fs.toList[i]? = some f ∧ xs[i]? = some x ∧ l[i] = (f.type, (cs.drop f.offset).take (P.cellsOf f.type), x.1) ∧ DataW.trod enc P W 0 (fun _ => true) true n f.type ((cs.drop f.offset).take (P.cellsOf f.type)) = some x := by
      intro i hi
      have hi1 : i < fs.toList.length := by omega
      have hi2 : i < xs.length := by omega
      obtain ⟨b, e1, e2⟩ := Lib.mapM_at h1 i _ (List.getElem?_eq_getElem hi1)
      rw [List.getElem?_eq_getElem hi2] at e1
      obtain rfl := Option.some.inj e1
      exact ⟨_, _, List.getElem?_eq_getElem hi1, List.getElem?_eq_getElem hi2, by simp [l], e2⟩
    obtain ⟨ι1, h3, evs, E1, B1, L1, V1, O1, D1⟩ := build_list l (fun p hpm => by
      obtain ⟨i, hi, rfl⟩ := List.getElem_of_mem hpm
      obtain ⟨f, x, a1, a2, a3, a4⟩ := lget i hi
      rw [a3]
      exact ⟨he f (List.mem_of_getElem? a1), _, a4⟩) ι hp B
    have hcells : l.map (·.2.1) = fs.toList.map fun f => (cs.drop f.offset).take (P.cellsOf f.type) := by
      refine List.ext_getElem (by simp [hll]) fun i hi hi' => ?_
      have hi3 : i < l.length := by simpa using hi
      obtain ⟨f, x, a1, a2, a3, a4⟩ := lget i hi3
      have hi4 : i < fs.toList.length := by omega
      have hf : fs.toList[i] = f := by rw [List.getElem?_eq_getElem hi4] at a1; exact Option.some.inj a1
      simp only [List.getElem_map]
      rw [a3, hf]
    rw [hcells, lay_flat fs.toList 0 hlay cs hc, List.drop_zero] at V1
    refine ⟨ι1, h3, evs.flatten, E1, B1, V1, O1, ?_⟩
    unfold DE
    rw [hu]
    have hlen : ∀ (i : Nat) f ev, fs.toList[i]? = some f → evs[i]? = some ev → ev.length = P.cellsOf f.type := by
      intro i f ev hf hev
      have hi : i < l.length := by have := (List.getElem?_eq_some_iff.1 hf).1; omega
      obtain ⟨ev', e1, e2, _⟩ := D1 i hi
      rw [hev] at e1
      obtain rfl := Option.some.inj e1
      obtain ⟨f', x, a1, a2, a3, a4⟩ := lget i hi
      rw [hf] at a1
      obtain rfl := Option.some.inj a1
      rw [← e2.1, a3]
      have hfit := (lay_fit fs.toList 0 hlay).2 f (List.mem_of_getElem? hf)
      show ((cs.drop f.offset).take (P.cellsOf f.type)).length = _
      rw [List.length_take, List.length_drop]; omega
    refine ⟨by rw [← V1.1]; exact hc, by simp [l1], fun i hi f hf => ?_⟩
    have hi2 : i < l.length := by simp at hi; omega
    obtain ⟨ev, e1, e2, e3⟩ := D1 i hi2
    obtain ⟨f', x, a1, a2, a3, a4⟩ := lget i hi2
    have hf' : fs.toList[i]? = some f := by rw [Array.getElem?_toList]; exact hf
    rw [hf'] at a1
    obtain rfl := Option.some.inj a1
    have := (lay_part fs.toList 0 hlay evs (by omega) hlen i f ev hf' e1).2
    rw [Nat.sub_zero] at this
    rw [this]
    rw [a3] at e3
    have hx : (xs.map (·.1))[i]'(by simpa using hi) = x.1 := by
      have hi3 : i < xs.length := by simpa using hi
      rw [List.getElem?_eq_getElem hi3] at a2
      obtain rfl := Option.some.inj a2
      simp
    rw [hx]; exact e3
  · cases h
/-- The parts of a struct. -/
theorem DE_struct {h : Hp} {n : Nat} {t : TypeId} {fs : Array Field} (hu : P.underlying t = some (.struct fs)) {cs : List Value} {d : DataW H} (hd : DE P h (n + 1) t cs d) :
    cs.length = P.cellsOf t ∧ ∀ (i : Nat) (f : Field), fs[i]? = some f → ∃ d' : DataW H, DE P h n f.type ((cs.drop f.offset).take (P.cellsOf f.type)) d' := by
  unfold DE at hd
  rw [hu] at hd
  split at hd
  all_goals first | (rename_i heq; cases heq; done) | skip
  · rename_i fs' parts heq
    injection heq with heq; injection heq with heq
    subst heq
    obtain ⟨h1, h2, h3⟩ := hd
    refine ⟨h1, fun i f hf => ?_⟩
    have hi : i < parts.length := by rw [h2]; exact (Array.getElem?_eq_some_iff.1 hf).1
    exact ⟨_, h3 i hi f hf⟩
  all_goals first | exact hd.elim | skip
theorem two_of {cs : List Value} {x y : Value} (hl : cs.length = 2) (h1 : (cs.drop 0).take 1 = [x]) (h2 : (cs.drop 1).take 1 = [y]) : cs = [x, y] := by
  rcases cs with _ | ⟨a, _ | ⟨b, _ | ⟨c, r⟩⟩⟩
  · cases hl
  · cases hl
  · simp at h1 h2; rw [h1, h2]
  · simp at hl
end
end Go.Ev
/- From the evaluator's word on a law of layer 15 to the kit's; arguments. -/
namespace Go.Proofs.YtngcjpkccnfjiaaGreatDoor
open Go Go.Ev Go.ChangeShapes Go.WideShapes Go.ChangeAt Go.RowKit
theorem own : ownKnob Tryz.prog.godebug = none := by kernel_rfl
theorem gTab : Tryz.prog.globalNamed "sward/collect.truth" = some 0 := by kernel_rfl
theorem gTabType : (Tryz.prog.globals[0]?).map (·.type) = some 117 := by kernel_rfl
theorem cellsInt : Tryz.prog.cellsOf 3 = 1 := by kernel_rfl
theorem cellsKind : Tryz.prog.cellsOf 37 = 1 := by kernel_rfl
theorem cells117 : Tryz.prog.cellsOf 117 = 2 := by kernel_rfl
theorem cells22 : Tryz.prog.cellsOf 22 = 1 := by kernel_rfl
theorem cells24 : Tryz.prog.cellsOf 24 = 3 := by kernel_rfl
set_option maxRecDepth 100000 in
theorem kids : Kids Tryz.prog (· < Tryz.prog.types.size) := kids_rows (by kernel_rfl) (by kernel_rfl)
set_option maxRecDepth 100000 in
theorem full : ∀ t e, t < Tryz.prog.types.size → Tryz.prog.underlying t = some (.slice e) → 0 < Tryz.prog.cellsOf e := slices_full_of _ (by kernel_rfl)
set_option maxRecDepth 100000 in
/-- What the row tells of the one laid variable. -/
theorem truth_of {W : World} {x : DataW Unit} (hx : x = .agg [.lit (.int .i64 1), .lit (.int .i64 4)]) (h : laidMet Tryz.prog [("sward/collect.truth", x)] W) : W.var? Tryz.prog "sward/collect.truth" = some tab.toArray := by
  obtain ⟨ps, ⟨g', t', cs, fuel, p, q, hg', ht', hvar, hd, _, _⟩, _⟩ := h
  obtain rfl := Option.some.inj (gTab.symm.trans hg')
  obtain rfl := Option.some.inj (gTabType.symm.trans ht')
  rw [hvar]
  subst hx
  obtain ⟨y0, y1, n, hx, hl, h0, h1⟩ := trod_struct2 Tryz.underlying117 hd
  injection hx with hx _
  injection hx with hx
  injection hx with e0 hx
  injection hx with e1 _
  have h0 : DataW.trod _ Tryz.prog W _ _ _ n 3 ((cs.toList.drop 0).take (Tryz.prog.cellsOf 3)) = some y0 := h0
  have h1 : DataW.trod _ Tryz.prog W _ _ _ n 37 ((cs.toList.drop 1).take (Tryz.prog.cellsOf 37)) = some y1 := h1
  rw [cellsInt] at h0
  rw [cellsKind] at h1
  obtain ⟨z0, hc0, hy0, _⟩ := DataW.trod_int Tryz.underlying3 (x := y0) h0
  obtain ⟨z1, hc1, hy1, _⟩ := DataW.trod_int Tryz.underlying37 (x := y1) h1
  rw [hy0] at e0
  rw [hy1] at e1
  injection e0 with e0; injection e0 with _ e0
  injection e1 with e1; injection e1 with _ e1
  have := two_of (hl.trans cells117) hc0 hc1
  congr 1
  rw [← Array.toList_inj, this, ← e0, ← e1]
  rfl
theorem tab_cells {W : World} (h : W.var? Tryz.prog "sward/collect.truth" = some tab.toArray) : ∀ j x, tab[j]? = some x → W.cell? ⟨0, j, none⟩ = some x := by
  intro j x hj
  have := World.var?_cell gTab h j
  rw [this, ← hj]
  simp
/-- The names at the start: the package-level variables. -/
def iota0 : Inj := fun o => if o < 2 then some ⟨o, 0, 0, 0⟩ else none
theorem start_RH {W : World} (ht : ∀ j x, tab[j]? = some x → W.cell? ⟨0, j, none⟩ = some x) : RH Tryz.prog iota0 h0 W := by
  have h00 := ht 0 _ rfl
  have hblk : ∃ c e fr, W.heap[0]? = some (.cells c e fr) := by
    cases hb : W.heap[0]? with
    | none => simp [World.cell?, hb] at h00
    | some y =>
      cases y with
      | cells c e fr => exact ⟨c, e, fr, rfl⟩
      | _ => simp [World.cell?, hb] at h00
  obtain ⟨c, e, fr, hb⟩ := hblk
  refine ⟨fun o x ho => ?_, fun o q x y vo vq _ ho hx => ?_, fun o ho => if_neg (by have : 2 ≤ o := ho; omega), fun g hg => ?_, by rw [gsz]; exact Nat.le_refl _⟩
  · obtain ⟨rfl, rfl⟩ := h0_get o x ho
    refine ⟨Nat.zero_lt_two, ⟨0, 0, 0, 0⟩, rfl, tab_one, c, e, fr, hb, fun j x hx => ?_, fun h => absurd rfl h, fun h => by cases h⟩
    have := ht j x hx
    refine ⟨x, ?_, .flat (all_get tab_flat hx)⟩
    simpa [World.cell?, hb] using this
  · obtain ⟨rfl, rfl⟩ := h0_get o x ho
    cases hx
  · rw [gsz] at hg
    exact ⟨0, 0, if_pos hg⟩
set_option maxRecDepth 100000 in
theorem h0_tab : h0.get 0 = some (.cells tab 0 .ro) := by kernel_rfl
set_option maxRecDepth 100000 in
theorem start_base {W : World} (ht : ∀ j x, tab[j]? = some x → W.cell? ⟨0, j, none⟩ = some x) : Base Tryz.prog iota0 h0 W :=
  ⟨start_RH ht, fun o x ho => by obtain ⟨rfl, rfl⟩ := h0_get o x ho; rfl, rfl, ⟨_, ⟨0, 0, 0, 0⟩, h0_tab, rfl, Nat.zero_lt_two, tab, 0, rfl⟩⟩
set_option maxRecDepth 100000 in
/-- A law that the evaluator finds true, wherever its arguments lie, is true. -/
theorem law_calls {H : Type} {enc : TypeId × Value → H} {f : FuncId} {fn : Func} (hf : Tryz.prog.funcs[f]? = some fn) (hb : fn.body.isSome = true) (h14 : f ≠ 14) {W : World} (ht : ∀ j x, tab[j]? = some x → W.cell? ⟨0, j, none⟩ = some x)
    {ts : List TypeId} {args : Array Value} {ds : List (DataW H)} {p : List MemPlace} (hA : DataW.TrodAll enc Tryz.prog W 0 (fun _ => true) true ts args.toList ds p) (hbd : ∀ t ∈ ts, ∀ n, Builds H enc Tryz.prog W n t) (hs : ∀ (i : Nat) t v, ts[i]? = some t → args.toList[i]? = some v → Shaped1 Tryz.prog t v)
    (hR : ∀ (h : Hp) (evs : List Value), Tb h → h.Ok → h.gd = [] → DEs Tryz.prog h ts evs ds → Ret Tryz.prog Ow f evs h fun v _ => v = .bool true) (hlt : f < yB := by decide) :
    Calls Tryz.prog f args W fun e W' => e = .returned (.bool true) ∧ Below W.heap.size W W' := by
  obtain ⟨ι, h, evs, E, B, V, D⟩ := args_build hA hbd hs iota0 h0 (start_base ht)
  have hg : h.gd = [] := B.gd
  have htb : Tb h := ⟨Nat.lt_of_lt_of_le (by decide : 1 < 2) E.nx, by rw [E.get 0 Nat.zero_lt_two]; exact h0_tab⟩
  have hfr : h.Fresh := fun o ho => by
    cases ho2 : h.get o with
    | none => rfl
    | some x => have := (B.rh.live o x ho2).1; omega
  obtain ⟨v, h', he, rfl⟩ := hR h evs htb ⟨fun q hq => (by rw [hg] at hq; cases hq), hfr⟩ hg D
  have := calls_of_EvC mixed noNum Ow_ok hlt hf hb (Ow_oth f evs h h14) he B.rh V
  have e : args.toList.toArray = args := by simp
  rw [e] at this
  refine this.mono fun e W' ⟨ι', v', h1, h2, h3⟩ => ?_
  obtain rfl := VR.of_flat rfl h3
  exact ⟨h1, h2.fr.os, h2.fr.tape, h2.fr.output, h2.fr.size, fun k hk => h2.fr.rest k hk fun o x _ ho hx => by rw [B.ro o x ho] at hx; cases hx⟩
/-- A world for the witness: the variable holds what its initialiser lays. -/
noncomputable def laidWorld (os : Os) : World :=
  { World.holding Tryz.prog os ⟨#[], #[], []⟩ with heap := (World.holding Tryz.prog os ⟨#[], #[], []⟩).heap.modify 0 fun
      | .cells _ t frozen => .cells tab.toArray t frozen
      | o => o }
/-! ### arguments -/
section
variable {H : Type} {P : Program}
/-- A list of whole numbers of the machine. -/
theorem DE_ints2 {h : Hp} {n : Nat} {t e : TypeId} (hu : P.underlying t = some (.slice e)) (he : P.underlying e = some (.int .i64)) (hc : P.cellsOf e = 1) {cs : List Value} {d : DataW H} (hd : DE P h n t cs d) :
    ∃ a m c xs, cs = [.slice a m c] ∧ SI h a m c xs ∧ ∀ x ∈ xs, In64 x := by
  cases n with
  | zero => exact hd.elim
  | succ n =>
    unfold DE at hd
    rw [hu] at hd
    split at hd
    all_goals first | (rename_i heq; cases heq; done) | skip
    · exact ⟨none, 0, 0, [], hd, SI.fix (SlAt.nil ..) (Nat.le_refl _) (by decide) (fun _ => rfl), fun x hx => by cases hx⟩
    · rename_i e2 elems sp heq
      injection heq with heq; injection heq with heq
      subst heq
      obtain ⟨k, cap, c, e', h1, h2, h3, h4, h5, h6, h7⟩ := hd
      rw [hc] at h6
      have hx : ∀ i (hi : i < elems.length), ∃ x, (c.drop (i * 1)).take 1 = [.int .i64 x] ∧ (Lit.int .i64 x).wf = true := fun i hi => by
        have := h7 i hi
        rw [hc] at this
        obtain ⟨x, hx, hy⟩ := DE_int he this
        exact ⟨x, hx, hy⟩
      let xs : List Int := (List.range elems.length).map fun i => if hi : i < elems.length then (hx i hi).choose else 0
      have hl : xs.length = elems.length := by simp [xs]
      refine ⟨some ⟨k, 0, none⟩, elems.length, cap, xs, h1, SI.fix ⟨hl.symm, .inr ⟨k, 0, c, e', .ro, rfl, h4, h5, by rw [hl]; omega, fun i hi => ?_⟩⟩ h3 h2 (fun h => by cases h), fun x hx' => ?_⟩
      · rw [hl] at hi
        show (c.drop (0 + i * 1)).take 1 = [.int .i64 xs[i]]
        have : xs[i]'(by rw [hl]; exact hi) = (hx i hi).choose := by simp [xs, hi]
        rw [this, Nat.zero_add]
        exact (hx i hi).choose_spec.1
      · obtain ⟨i, hi, rfl⟩ := List.getElem_of_mem hx'
        rw [hl] at hi
        have : xs[i]'(by rw [hl]; exact hi) = (hx i hi).choose := by simp [xs, hi]
        rw [this]
        have h9 := (hx i hi).choose_spec.2
        generalize (hx i hi).choose = z at h9
        have h9 : (decide (IntKind.i64.min ≤ z) && decide (z ≤ IntKind.i64.max)) = true := h9
        simp only [Bool.and_eq_true, decide_eq_true_eq] at h9
        have m1 : IntKind.i64.min = -9223372036854775808 := rfl
        have m2 : IntKind.i64.max = 9223372036854775807 := rfl
        exact ⟨by omega, by omega⟩
    all_goals first | exact hd.elim | skip
end
section
variable {H : Type} {enc : TypeId × Value → H} {W : World}
theorem build0 (t : TypeId) : Builds H enc Tryz.prog W 0 t := fun cs d ps h => by simp [DataW.trod] at h
theorem bld3 : ∀ n, Builds H enc Tryz.prog W n 3
  | 0 => build0 3
  | _ + 1 => build_int Tryz.underlying3
theorem bld22 : ∀ n, Builds H enc Tryz.prog W n 22
  | 0 => build0 22
  | n + 1 => build_slice (bld3 n) (by rw [cellsInt]; decide) Tryz.underlying22
theorem bld24 : ∀ n, Builds H enc Tryz.prog W n 24
  | 0 => build0 24
  | n + 1 => build_struct (fun f hf => by
      simp at hf
      rcases hf with rfl | rfl | rfl
      · exact bld22 n
      · exact bld3 n
      · exact bld22 n) (by kernel_rfl) Tryz.underlying24
theorem agg_of_three {v x y z : Value} (h : v.cells.toList = [x, y, z]) : v = .agg #[x, y, z] := by
  cases v with
  | agg cs =>
    have h : cs.toList = [x, y, z] := h
    obtain ⟨l⟩ := cs
    have h : l = [x, y, z] := h
    rw [h]
  | _ => cases h
theorem three_of {cs : List Value} {x y z : Value} (hl : cs.length = 3) (h1 : (cs.drop 0).take 1 = [x]) (h2 : (cs.drop 1).take 1 = [y]) (h3 : (cs.drop 2).take 1 = [z]) : cs = [x, y, z] := by
  rcases cs with _ | ⟨a, _ | ⟨b, _ | ⟨c, _ | ⟨d, r⟩⟩⟩⟩
  · cases hl
  · cases hl
  · cases hl
  · simp at h1 h2 h3; rw [h1, h2, h3]
  · simp at hl
set_option maxRecDepth 100000 in
/-- A heap in memory. -/
theorem heap_of {h : Hp} {n : Nat} {v : Value} {d : DataW H} (D : DE Tryz.prog h n 24 v.cells.toList d) : ∃ aw nw cw W top ar nr cr R, v = .agg #[.slice aw nw cw, .int .i64 top, .slice ar nr cr] ∧ HA h aw nw cw W ar nr cr R := by
  cases n with
  | zero => exact D.elim
  | succ n =>
    obtain ⟨h1, h2⟩ := DE_struct Tryz.underlying24 D
    obtain ⟨d1, D1⟩ := h2 0 _ rfl
    obtain ⟨d2, D2⟩ := h2 1 _ rfl
    obtain ⟨d3, D3⟩ := h2 2 _ rfl
    have D1 : DE Tryz.prog h n 22 ((v.cells.toList.drop 0).take (Tryz.prog.cellsOf 22)) d1 := D1
    have D2 : DE Tryz.prog h n 3 ((v.cells.toList.drop 1).take (Tryz.prog.cellsOf 3)) d2 := D2
    have D3 : DE Tryz.prog h n 22 ((v.cells.toList.drop 2).take (Tryz.prog.cellsOf 22)) d3 := D3
    rw [cellsInt] at D2
    rw [cells22] at D1 D3
    obtain ⟨aw, nw, cw, W, z1, A1, r1⟩ := DE_ints2 Tryz.underlying22 Tryz.underlying3 cellsInt D1
    obtain ⟨x, z2, _⟩ := DE_int Tryz.underlying3 D2
    obtain ⟨ar, nr, cr, R, z3, A3, r3⟩ := DE_ints2 Tryz.underlying22 Tryz.underlying3 cellsInt D3
    exact ⟨aw, nw, cw, W, x, ar, nr, cr, R, agg_of_three (three_of (h1.trans cells24) z1 z2 z3), A1, A3, r1, r3⟩
end
end Go.Proofs.YtngcjpkccnfjiaaGreatDoor
