/- Regions that draw: the memory. -/
import Derived.Test.YtfgfhplgnfbaaaaDoorEvPlanB
namespace Go.Ev
open Go

theorem stepRead_heap {P : Program} {t : Fr} {o : Oper} {h h' : Hp} {v : Value} {ids : List Nat} (hs : stepRead P t o h = some (v, ids)) (hi : ∀ b ∈ ids, ∀ x, h.get b = some x → h'.get b = some x) : stepRead P t o h' = some (v, ids) := by
  obtain ⟨dst, op, ty, pos, af, gu⟩ := o
  cases op with
  | load s x =>
    simp only [stepRead] at hs ⊢
    obtain ⟨xv, hx, hs1⟩ := Option.bind_eq_some_iff.1 hs
    rw [hx]
    split at hs1
    · rename_i b off
      obtain ⟨ag, hag, hs2⟩ := Option.bind_eq_some_iff.1 hs1
      have key : ∀ {n l}, ids = [b] → readAt h b off n = some l → readAt h' b off n = some l := fun {n l} he hr => by
        obtain ⟨c, e, m, hg, _, _⟩ := readAt_some hr
        have := hi b (by rw [he]; simp) _ hg
        unfold readAt at hr ⊢
        rw [hg] at hr
        rw [this]
        exact hr
      simp only [Option.bind_eq_bind, Option.bind_some, hag] at hs2 ⊢
      cases ag with
      | true =>
        simp only [cond_true] at hs2 ⊢
        obtain ⟨n, hn, hs3⟩ := Option.bind_eq_some_iff.1 hs2
        obtain ⟨l, hl, hs4⟩ := Option.bind_eq_some_iff.1 hs3
        have he : ids = [b] := by injection hs4 with hs4; injection hs4 with _ h2; exact h2.symm
        rw [hn]
        simp only [Option.bind_some, key he hl]
        exact hs4
      | false =>
        simp only [cond_false] at hs2 ⊢
        obtain ⟨l, hl, hs4⟩ := Option.bind_eq_some_iff.1 hs2
        have he : ids = [b] := by injection hs4 with hs4; injection hs4 with _ h2; exact h2.symm
        simp only [key he hl, Option.bind_some]
        exact hs4
    · cases hs1
  | slice s x lo hi' mx =>
    simp only [stepRead] at hs ⊢
    obtain ⟨xv, hx, hs1⟩ := Option.bind_eq_some_iff.1 hs
    rw [hx]
    simp only [Option.bind_eq_bind, Option.bind_some] at hs1 ⊢
    split at hs1
    · exact hs1
    · obtain ⟨l, hl, hs2⟩ := Option.bind_eq_some_iff.1 hs1
      obtain ⟨m, hm, hs3⟩ := Option.bind_eq_some_iff.1 hs2
      obtain ⟨q, hq, hs4⟩ := Option.bind_eq_some_iff.1 hs3
      obtain ⟨r, hr, hs5⟩ := Option.bind_eq_some_iff.1 hs4
      have he : ids = blocksOf xv := by injection hs5 with hs5; injection hs5 with _ h2; exact h2.symm
      rw [hl]
      simp only [Option.bind_some, hm, hq]
      have : sliceV P h' s xv l m q = some r := by
        unfold sliceV at hr ⊢
        split at hr
        · rename_i e a len cap hu _
          obtain ⟨esz, hz, hr1⟩ := Option.bind_eq_some_iff.1 hr
          obtain ⟨vis, hvis, hr2⟩ := Option.bind_eq_some_iff.1 hr1
          have hv' : seen h' e esz (.slice a len cap) = some vis := by
            cases a with
            | none => exact hvis
            | some ad =>
              obtain ⟨b, off, vw⟩ := ad
              cases vw with
              | some _ => cases hvis
              | none =>
                simp only [seen] at hvis ⊢
                cases hc : Nat.beq cap unk with
                | false => rw [hc] at hvis; exact hvis
                | true =>
                  rw [hc, cond_true] at hvis
                  simp only [cond_true]
                  cases hg : h.get b with
                  | none => rw [hg] at hvis; cases hvis
                  | some y =>
                    rw [hg] at hvis
                    rw [hi b (by rw [he]; simp [blocksOf]) y hg]
                    exact hvis
          simp only [Option.bind_eq_bind, hz, Option.bind_some, hv']
          exact hr2
        · exact hr
        · cases hr
      rw [this]
      exact hs5
  | _ => cases hs

section
variable {P : Program} {cf : CallF} {ops : Array Oper} {pl : List Nat} {s0 : St} {qs : Nat → Rds × St} {ι0 ι : Inj} {w0 w : World} {L : Nat → Bool} {a : Act} {p0 : Nat} {H : Hp}
  (hp : PlanOk ops (masks ops.toList) pl)
  (h0 : qs 0 = ([], { s0 with h := { s0.h with nx := s0.h.nx + ops.size } }))
  (hq : ∀ (p i : Nat), pl[p]? = some i → ∃ o, ops[i]? = some o ∧ (qs (p + 1)).2.n = (qs p).2.n ∧ Did P cf ops (masks ops.toList) s0.h.nx i o (qs p) (qs (p + 1)))
  (R0 : RH P ι0 s0.h w0) (I : InvP P ops pl s0 qs ι0 w0 L a w p0 H ι)
include hp h0 hq R0 I

omit hp in
/-- Up to where it acted last: numbers, and what is not yet laid. -/
theorem z_run : ∀ r, r ≤ p0 → s0.h.nx + ops.size ≤ (qs r).2.h.nx ∧ (qs r).2.h.gd = s0.h.gd ∧ ∀ j y, (qs r).2.h.get (s0.h.nx + j) = some y → j < ops.size → ∃ r', r' < r ∧ pl[r']? = some j := by
  intro r
  induction r with
  | zero =>
    intro _
    rw [h0]
    refine ⟨Nat.le_refl _, rfl, fun j y hj _ => ?_⟩
    have := (R0.live _ y hj).1
    omega
  | succ r ih =>
    intro hr
    obtain ⟨i1, i2, i3⟩ := ih (by omega)
    have hlen := I.p0N
    obtain ⟨i, hi⟩ : ∃ i, pl[r]? = some i := ⟨_, List.getElem?_eq_getElem (show r < pl.length by omega)⟩
    obtain ⟨o, ho, _, hd⟩ := hq r i hi
    by_cases hk : kindOf o.op = .eff
    · have F := I.eff r i o (by omega) hi ho hk
      refine ⟨Nat.le_trans i1 F.nx, ?_, fun j y hj hjs => ?_⟩
      · cases hd with
        | skip _ _ hh _ => rw [hh]; exact i2
        | pure _ _ _ _ _ hh _ => rw [hh]; exact i2
        | read _ _ _ _ _ _ hh _ => rw [hh]; exact i2
        | mk _ hk' => rw [hk] at hk'; cases hk'
        | eff _ _ _ _ _ _ hh _ => rw [hh]; exact i2
      · obtain ⟨x, hx⟩ := F.born _ y (by omega) hj
        obtain ⟨r', h1, h2⟩ := i3 j x hx hjs
        exact ⟨r', by omega, h2⟩
    · obtain ⟨s1, s2, s3, s4⟩ := quiet_step hq hi ho (.inl hk)
      refine ⟨by rw [s3]; exact i1, s4.trans i2, fun j y hj hjs => ?_⟩
      rcases s1 _ y hj with hj | ⟨i', op, f, g1, g2, g3, g4, g5, g6⟩
      · obtain ⟨r', h1, h2⟩ := i3 j y hj hjs
        exact ⟨r', by omega, h2⟩
      · rw [hi] at g1
        obtain rfl := Option.some.inj g1
        obtain rfl : j = i := by omega
        exact ⟨r, by omega, hi⟩

variable {i p : Nat} {o : Oper} (hi : ops[i]? = some o) (hpi : pl[p]? = some i) (hLi : L i = false) (hr : ∀ k, ((masks ops.toList).getD i 0).testBit k = true → L k = true)
include hi hpi hLi hr

omit h0 R0 in
theorem no_eff (hsw : ∀ b, kindOf b.op = .eff → swapOk ops.toList b o = false) : ∀ r j b, p0 ≤ r → r < p → pl[r]? = some j → ops[j]? = some b → kindOf b.op ≠ .eff := by
  have _ := hq
  have _ := hLi
  intro r j b h1 h2 h3 h4 h5
  have := before_in hp hi hpi hr h2 h3 h4 (hsw b h5)
  have := (I.c1 r j b h3 h4 h5).1 this
  omega

omit h0 R0 in
/-- What lies there in the plan's own run lies there now. -/
theorem plan_sub (hle : p0 ≤ p) (hsw : ∀ b, kindOf b.op = .eff → swapOk ops.toList b o = false) (hsm : ∀ b, kindOf b.op = .mk → swapOk ops.toList b o = false) :
    (∀ b x, (qs p).2.h.get b = some x → H.get b = some x) ∧ (qs p).2.h.nx = H.nx := by
  obtain ⟨k, rfl⟩ := Nat.exists_eq_add_of_le hle
  have hlt : p0 + k < pl.length := (List.getElem?_eq_some_iff.1 hpi).1
  have hno := no_eff hp hq I hi hpi hLi hr hsw
  obtain ⟨q1, q2, q3, q4⟩ := quiet_run hq k (by omega) hno
  refine ⟨fun b x hb => ?_, by rw [q3, I.nx]⟩
  rcases q1 b x hb with hb | ⟨r, h1, h2, hl⟩
  · exact (I.cH b x).2 (.inl hb)
  · obtain ⟨j, op, f, g1, g2, g3, g4, g5, g6⟩ := hl
    exact (I.cH b x).2 (.inr ⟨r, j, h1, g1, before_in hp hi hpi hr h2 g1 g2 (hsm op g3), ⟨j, op, f, g1, g2, g3, g4, g5, g6⟩⟩)

omit h0 R0 in
/-- What is read has stayed. -/
theorem read_stays (hk : kindOf o.op = .read) {ids : List Nat} (hrd : (qs (p + 1)).1 = (i, ids) :: (qs p).1) (hh : (qs (p + 1)).2.h = (qs p).2.h) : ∀ b ∈ ids, ∀ x, (qs p).2.h.get b = some x → H.get b = some x := by
  have swe : ∀ b : Oper, kindOf b.op = .eff → swapOk ops.toList b o = false := fun b hb => by unfold swapOk; rw [hb, hk]; simp
  have swm : ∀ b : Oper, kindOf b.op = .mk → swapOk ops.toList b o = false := fun b hb => by unfold swapOk; rw [hb, hk]; simp
  intro b hb x hx
  rcases Nat.lt_or_ge p p0 with hlt | hge
  · have key : ∀ k, p + 1 + k ≤ p0 → (i, ids) ∈ (qs (p + 1 + k)).1 ∧ (qs (p + 1 + k)).2.h.get b = some x := by
      intro k
      induction k with
      | zero => intro _; exact ⟨by rw [Nat.add_zero, hrd]; simp, by rw [Nat.add_zero, hh]; exact hx⟩
      | succ k ih =>
        intro hle
        obtain ⟨k1, k2⟩ := ih (by omega)
        have hlen := I.p0N
        obtain ⟨j, hj⟩ : ∃ j, pl[p + 1 + k]? = some j := ⟨_, List.getElem?_eq_getElem (show p + 1 + k < pl.length by omega)⟩
        obtain ⟨q, hqj, _, hd⟩ := hq _ j hj
        refine ⟨?_, ?_⟩
        · show (i, ids) ∈ (qs (p + 1 + k + 1)).1
          cases hd with
          | skip _ _ _ h => rw [h]; exact k1
          | pure _ _ _ _ _ _ h => rw [h]; exact k1
          | read _ _ _ _ _ _ _ h => rw [h]; exact List.mem_cons_of_mem _ k1
          | mk _ _ _ _ _ _ _ h => rw [h]; exact k1
          | eff _ _ _ _ _ _ _ h => rw [h]; exact k1
        · show (qs (p + 1 + k + 1)).2.h.get b = some x
          by_cases he : kindOf q.op = .eff
          · refine (I.eff (p + 1 + k) j q (by omega) hj hqj he).grd b x k2 ?_
            have hLj : L j = true := (I.c1 _ j q hj hqj he).2 (by omega)
            have hnm : ((masks ops.toList).getD j 0).testBit i = false := by
              cases hm : ((masks ops.toList).getD j 0).testBit i with
              | false => rfl
              | true => rw [I.closed j (Array.getElem?_eq_some_iff.1 hqj).1 hLj i hm] at hLi; cases hLi
            refine List.any_eq_true.2 ⟨b, ?_, Nat.beq_refl b⟩
            unfold guardOf
            refine List.mem_append_left _ (List.mem_flatMap.2 ⟨(i, ids), List.mem_filter.2 ⟨k1, by show (!((masks ops.toList).getD j 0).testBit i) = true; rw [hnm]; rfl⟩, hb⟩)
          · exact (quiet_step hq hj hqj (.inl he)).2.1 b x k2
    obtain ⟨k, hk⟩ := Nat.exists_eq_add_of_le (show p + 1 ≤ p0 by omega)
    have := (key k (by omega)).2
    rw [← hk] at this
    exact (I.cH b x).2 (.inl this)
  · exact (plan_sub hp hq I hi hpi hLi hr hge swe swm).1 b x hx
end
end Go.Ev
