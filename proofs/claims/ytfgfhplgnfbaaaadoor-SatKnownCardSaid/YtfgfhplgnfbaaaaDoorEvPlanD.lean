/- Regions that draw: one operation, whenever its turn comes. -/
import Derived.Test.YtfgfhplgnfbaaaaDoorEvPlanC
namespace Go.Ev
open Go

theorem Went.w0 {P : Program} {n : Nat} {h h' : Hp} {ι ι' : Inj} {w w' : World} (g : Went P h ι w h' ι' w') (hn : n ≤ h.nx) : W0 P n h ι w h' ι' w' :=
  ⟨g.rh, g.fr, g.nx, g.gd, fun q x _ => g.grd q x, fun q y hq hy => g.born q y (Nat.lt_of_lt_of_le hq hn) hy, g.old⟩

theorem stepMk_fix {P : Program} {t : Fr} {o : Oper} {x : Ob} {f : Nat → Value} (hs : stepMk P t o = some (x, f)) : x.wr = true := by
  have key : ∀ {z : Option (Ob × (Nat → Value))}, z = some (x, f) → (∀ y g, z = some (y, g) → y.wr = true) → x.wr = true := fun h k => k _ _ h
  obtain ⟨dst, op, ty, pos, af, gu⟩ := o
  cases op with
  | alloc e =>
    simp only [stepMk, Option.bind_eq_bind, Option.bind_eq_some_iff] at hs
    obtain ⟨_, _, _, _, _, _, hs⟩ := hs
    injection hs with hs; injection hs with h1 _; subst h1; rfl
  | box e y =>
    simp only [stepMk, Option.bind_eq_bind, Option.bind_eq_some_iff] at hs
    obtain ⟨_, _, _, _, hs⟩ := hs
    injection hs with hs; injection hs with h1 _; subst h1; rfl
  | buildSlice s n ps =>
    simp only [stepMk, Option.bind_eq_bind, Option.bind_eq_some_iff] at hs
    obtain ⟨_, _, _, _, _, _, _, _, _, _, _, _, _, _, _, _, hs⟩ := hs
    injection hs with hs; injection hs with h1 _; subst h1; rfl
  | makeSlice s a b =>
    simp only [stepMk, Option.bind_eq_bind, Option.bind_eq_some_iff] at hs
    obtain ⟨_, _, _, _, _, _, _, _, _, _, hs⟩ := hs
    split at hs
    · obtain ⟨_, hs⟩ := cond_some hs
      injection hs with hs; injection hs with h1 _; subst h1; rfl
    · cases hs
  | _ => cases hs

section
variable {P : Program} {cf : CallF} {ops : Array Oper} {pl : List Nat} {s0 : St} {qs : Nat → Rds × St} {ι0 ι : Inj} {w0 w : World} {L : Nat → Bool} {a : Act} {p0 : Nat} {H : Hp}
  (hc : COk P cf)
  (hp : PlanOk ops (masks ops.toList) pl)
  (h0 : qs 0 = ([], { s0 with h := { s0.h with nx := s0.h.nx + ops.size } }))
  (hq : ∀ (p i : Nat), pl[p]? = some i → ∃ o, ops[i]? = some o ∧ (qs (p + 1)).2.n = (qs p).2.n ∧ Did P cf ops (masks ops.toList) s0.h.nx i o (qs p) (qs (p + 1)))
  (R0 : RH P ι0 s0.h w0) (hhas : ∀ d, d < s0.n → s0.t.has d = true) (hbig : ∀ d, s0.n ≤ d → slot s0.t d = undef) (I : InvP P ops pl s0 qs ι0 w0 L a w p0 H ι)
include hc hp h0 hq R0 hhas hbig I

/-- With one more. -/
def more (L : Nat → Bool) (i : Nat) : Nat → Bool := fun k => L k || Nat.beq k i
omit hc hp h0 hq R0 hhas hbig I in
theorem more_iff {L : Nat → Bool} {i k : Nat} : more L i k = true ↔ L k = true ∨ k = i := by
  unfold more
  rw [Bool.or_eq_true]
  exact or_congr Iff.rfl ⟨Nat.eq_of_beq_eq_true, fun h => by rw [h]; exact Nat.beq_refl i⟩

theorem inv_step {i : Nat} (hiN : i < ops.size) (hLi : L i = false) (hr : ∀ k, ((masks ops.toList).getD i 0).testBit k = true → L k = true) {Q : Exit → Act → World → Prop} :
    wpOp P ops Q i (fun a' w' => ∃ p0' H' ι', InvP P ops pl s0 qs ι0 w0 (more L i) a' w' p0' H' ι') a w := by
  obtain ⟨p, hpi⟩ := hp.full i hiN
  have hpl : p < pl.length := (List.getElem?_eq_some_iff.1 hpi).1
  obtain ⟨o, ho, hn, hd⟩ := hq p i hpi
  have cut := fun {d} => cut_at (d := d) hp I.closed ho hpi hLi hr
  have hnp : (qs p).2.n = s0.n := seq_n h0 hq p (by omega)
  have names : ∀ d ∈ namesOf ops.toList o, VR ι (slot (qs p).2.t d) (a.tmps.getD d undef) := fun d hd => I.slots d p (by omega) (cut hd)
  -- the slots that are looked at, and something for the others
  obtain ⟨u, hu⟩ := Classical.axiomOfChoice I.any
  have tdef : ∃ t : Fr, (∀ d ∈ namesOf ops.toList o, slot t d = slot (qs p).2.t d) ∧ RT ι t s0.n a := by
    classical
    let f : Nat → Value := fun d => if d < s0.n then (if d ∈ namesOf ops.toList o then slot (qs p).2.t d else u d) else undef
    have hf : ∀ d, slot (Tr.ofFn f (s0.n + 2)) d = f d := fun d => by
      by_cases hd : d < s0.n
      · exact Tr.get_ofFn _ _ _ _ (by have : s0.n + 2 < 2 ^ (s0.n + 2) := Nat.lt_two_pow_self; omega)
      · have : f d = undef := if_neg hd
        rw [this]
        exact Tr.get_ofFn_d _ _ _ _ this
    have hout : ∀ d, s0.n ≤ d → a.tmps.getD d undef = undef := fun d hd => by
      rw [Array.getD_eq_getD_getElem?, Array.getElem?_eq_none (by rw [I.size]; exact hd)]; rfl
    refine ⟨Tr.ofFn f (s0.n + 2), fun d hd => ?_, I.size, fun d => ?_, fun d hd => Tr.has_ofFn _ _ _ (by have : s0.n + 2 < 2 ^ (s0.n + 2) := Nat.lt_two_pow_self; omega)⟩
    · rw [hf]
      by_cases hdn : d < s0.n
      · simp only [f, if_pos hdn, if_pos hd]
      · simp only [f, if_neg hdn]
        have := names d hd
        rw [hout d (by omega)] at this
        exact this.undef_of.symm
    · rw [hf]
      by_cases hdn : d < s0.n
      · simp only [f, if_pos hdn]
        split
        · exact names d ‹_›
        · exact hu d
      · simp only [f, if_neg hdn]
        rw [hout d (by omega)]
        exact .flat rfl
  obtain ⟨t, ht, hrt⟩ := tdef
  have hops : ∀ x ∈ o.op.operands, opv P t x = opv P (qs p).2.t x := fun x hx => by
    cases x with
    | tmp d =>
      show some (slot t d) = some (slot (qs p).2.t d)
      rw [ht]
      unfold namesOf
      refine List.mem_append_left _ (List.mem_append_right _ (List.mem_filterMap.2 ⟨.tmp d, Array.mem_toList_iff.2 hx, rfl⟩))
    | _ => rfl
  have hwant : wantedF ops t o = wantedF ops (qs p).2.t o := by
    unfold wantedF
    cases hg : o.guard with
    | none => rfl
    | some q =>
      obtain ⟨j, b⟩ := q
      have : yieldedL ops t j = yieldedL ops (qs p).2.t j := by
        unfold yieldedL
        rw [nth_eq]
        cases hd : (ops.toList[j]?).bind (·.dst) with
        | none => rfl
        | some d =>
          have : d ∈ namesOf ops.toList o := by
            unfold namesOf
            rw [hg]
            exact List.mem_append_right _ (by simp only [hd]; simp)
          simp only [ht d this]
      simp only [this]
  -- the parts that are alike in all cases
  have closed' : ∀ k, k < ops.size → more L i k = true → ∀ m, ((masks ops.toList).getD k 0).testBit m = true → more L i m = true := fun k hk hm m hb => by
    rcases more_iff.1 hm with hm | rfl
    · exact more_iff.2 (.inl (I.closed k hk hm m hb))
    · exact more_iff.2 (.inl (hr m hb))
  have uniq : ∀ {r}, pl[r]? = some i → r = p := fun {r} hri => by
    have h1 := (List.getElem?_eq_some_iff.1 hri).1
    exact (List.getElem_inj hp.nodup (h₀ := h1) (h₁ := hpl)).1 ((List.getElem?_eq_some_iff.1 hri).2.trans (List.getElem?_eq_some_iff.1 hpi).2.symm)
  have slots' : ∀ {ι' : Inj} {v v' : Value}, (∀ o x, ι o = some x → ι' o = some x) → VR ι' v v' → (qs (p + 1)).2.t = (qs p).2.setT o.dst v →
      (a.put o.dst v').tmps.size = s0.n ∧ (∀ d, ∃ u, VR ι' u ((a.put o.dst v').tmps.getD d undef)) ∧ (∀ d q, q ≤ pl.length → (∀ r j b, pl[r]? = some j → ops[j]? = some b → b.dst = some d → (more L i j = true ↔ r < q)) → VR ι' (slot (qs q).2.t d) ((a.put o.dst v').tmps.getD d undef)) ∧ (a.put o.dst v').defers = [] := by
    intro ι' v v' hm hv hset
    have hsz : (a.put o.dst v').tmps.size = s0.n := by rw [← I.size]; cases o.dst <;> simp [Act.put]
    have hat : ∀ d, (o.dst = some d ∧ d < s0.n ∧ (a.put o.dst v').tmps.getD d undef = v') ∨ ((o.dst ≠ some d ∨ s0.n ≤ d) ∧ (a.put o.dst v').tmps.getD d undef = a.tmps.getD d undef) := fun d => by
      cases hod : o.dst with
      | none => exact .inr ⟨.inl (by simp), rfl⟩
      | some d0 =>
        by_cases hdd : d0 = d
        · subst hdd
          by_cases hlt : d0 < s0.n
          · left; refine ⟨rfl, hlt, ?_⟩
            simp [Act.put, Array.getD_eq_getD_getElem?, I.size, hlt]
          · right; refine ⟨.inr (Nat.le_of_not_lt hlt), ?_⟩
            simp [Act.put, Array.getD_eq_getD_getElem?, I.size, hlt]
        · right; refine ⟨.inl (by simpa using hdd), ?_⟩
          simp [Act.put, Array.getD_eq_getD_getElem?, hdd]
    refine ⟨hsz, fun d => ?_, fun d q hql hcut => ?_, by rw [put_defers]; exact I.dfr⟩
    · rcases hat d with ⟨_, _, he⟩ | ⟨_, he⟩
      · rw [he]; exact ⟨v, hv⟩
      · rw [he]; exact ⟨u d, (hu d).mono hm⟩
    · rcases hat d with ⟨hod, hlt, he⟩ | ⟨hod, he⟩
      · rw [he]
        have hpq : p < q := (hcut p i o hpi ho hod).1 (more_iff.2 (.inr rfl))
        have hdn : d ∈ namesOf ops.toList o := by
          unfold namesOf
          exact List.mem_append_left _ (List.mem_append_left _ (by simp [hod]))
        rw [seq_slot_to h0 hq (p := p + 1) (by omega) hql (.inl fun r j b h1 h2 h3 h4 h5 => ?_), hset, hod, slot_setT_same (by rw [hnp]; exact hlt) (seq_has h0 hq hhas p (by omega) d hlt)]
        · exact hv
        · have h6 := (hcut r j b h3 h4 h5).2 h2
          rcases more_iff.1 h6 with h7 | h7
          · have := (cut hdn r j b h3 h4 h5).1 h7
            omega
          · subst h7
            have := uniq h3
            omega
      · rw [he]
        by_cases hbg : s0.n ≤ d
        · have hout : a.tmps.getD d undef = undef := by rw [Array.getD_eq_getD_getElem?, Array.getElem?_eq_none (by rw [I.size]; exact hbg)]; rfl
          rw [hout, seq_slot_to h0 hq (p := 0) (by omega) hql (.inr hbg), h0]
          show VR ι' (slot s0.t d) undef
          rw [hbig d hbg]
          exact .flat rfl
        · refine (I.slots d q hql fun r j b h1 h2 h3 => ?_).mono hm
          rw [← hcut r j b h1 h2 h3, more_iff]
          refine ⟨.inl, fun h => h.resolve_right fun hji => ?_⟩
          subst hji
          rw [ho] at h2
          obtain rfl := Option.some.inj h2
          rcases hod with hod | hod
          · exact hod h3
          · omega
  -- the memory stays as it is
  have same : ∀ {v v' : Value}, kindOf o.op ≠ .eff → (∀ b x, ¬ Laid P ops pl s0.h.nx qs p b x) → VR ι v v' → (qs (p + 1)).2.t = (qs p).2.setT o.dst v → ∃ p0' H' ι', InvP P ops pl s0 qs ι0 w0 (more L i) (a.put o.dst v') w p0' H' ι' := by
    intro v v' hk hnl hv hset
    obtain ⟨z1, z2, z3, z4⟩ := slots' (fun _ _ h => h) hv hset
    refine ⟨p0, H, ι, I.p0N, closed', fun r j b h1 h2 h3 => ?_, fun r j b h1 h2 h3 h4 => more_iff.2 (.inl (I.c2 r j b h1 h2 h3 h4)), fun b x => ?_, I.nx, I.gd, I.eff, fun j hj hL => I.idn j hj (by
      cases hLj : L j with
      | false => rfl
      | true => rw [more_iff.2 (.inl hLj)] at hL; cases hL), I.ext, I.went, z1, z2, z3, z4⟩
    · rw [← I.c1 r j b h1 h2 h3, more_iff]
      refine ⟨fun h => h.resolve_right fun hji => ?_, .inl⟩
      subst hji
      rw [ho] at h2
      obtain rfl := Option.some.inj h2
      exact hk h3
    · rw [I.cH]
      refine or_congr Iff.rfl ⟨fun ⟨r, j, h1, h2, h3, h4⟩ => ⟨r, j, h1, h2, more_iff.2 (.inl h3), h4⟩, fun ⟨r, j, h1, h2, h3, h4⟩ => ?_⟩
      rcases more_iff.1 h3 with h5 | h5
      · exact ⟨r, j, h1, h2, h5, h4⟩
      · subst h5
        obtain rfl := uniq h2
        exact absurd h4 (hnl b x)
  have notLaid : (kindOf o.op ≠ .mk ∨ wantedF ops (qs p).2.t o = false) → ∀ b x, ¬ Laid P ops pl s0.h.nx qs p b x := by
    rintro hh b x ⟨j, op, f, g1, g2, g3, g4, g5, g6⟩
    rw [hpi] at g1
    obtain rfl := Option.some.inj g1
    rw [ho] at g2
    obtain rfl := Option.some.inj g2
    rcases hh with hh | hh
    · exact hh g3
    · rw [hh] at g4; cases g4
  -- an operation that acts
  have acts : kindOf o.op = .eff → ∀ {v v' : Value} {ι' : Inj} {h2 : Hp} {w' : World}, Went P { (qs p).2.h with gd := guardOf (masks ops.toList) i (qs p) } ι w h2 ι' w' → (qs (p + 1)).2.h = { h2 with gd := (qs p).2.h.gd } → VR ι' v v' → (qs (p + 1)).2.t = (qs p).2.setT o.dst v →
      ∃ p0' H' ι', InvP P ops pl s0 qs ι0 w0 (more L i) (a.put o.dst v') w' p0' H' ι' := by
    intro hk v v' ι' h2 w' g hh hv hset
    have hle : p0 ≤ p := by
      rcases Nat.lt_or_ge p p0 with h | h
      · rw [(I.c1 p i o hpi ho hk).2 h] at hLi; cases hLi
      · exact h
    have swe : ∀ b : Oper, kindOf b.op = .eff → swapOk ops.toList b o = false := fun b hb => by unfold swapOk; rw [hb, hk]; simp
    have swm : ∀ b : Oper, kindOf b.op = .mk → swapOk ops.toList b o = false := fun b hb => by unfold swapOk; rw [hb, hk]; simp
    obtain ⟨sub, nxe⟩ := plan_sub hp hq I ho hpi hLi hr hle swe swm
    have hno := no_eff hp hq I ho hpi hLi hr swe
    obtain ⟨k0, rfl⟩ := Nat.exists_eq_add_of_le hle
    obtain ⟨q1, q2, q3, q4⟩ := quiet_run hq k0 (by omega) hno
    obtain ⟨z1, z2, z3⟩ := z_run h0 hq R0 I p0 (Nat.le_refl _)
    have hgd : (qs (p0 + k0)).2.h.gd = s0.h.gd := q4.trans z2
    have hnx2 : (qs (p0 + k0 + 1)).2.h.nx = h2.nx := by rw [hh]
    have hget2 : ∀ b, (qs (p0 + k0 + 1)).2.h.get b = h2.get b := fun b => by rw [hh]; rfl
    have hnxg : (qs (p0 + k0)).2.h.nx ≤ h2.nx := g.nx
    -- what the others have laid, that the plan lays behind
    have zp : ∀ r b y, p0 + k0 < r → Laid P ops pl s0.h.nx qs r b y → (qs (p0 + k0)).2.h.get b = none ∧ h2.get b = none := by
      rintro r b y hrp ⟨j, op, f, k1, k2, k3, k4, k5, rfl⟩
      have hjs : j < ops.size := (Array.getElem?_eq_some_iff.1 k2).1
      have inj : ∀ {r1 r2 : Nat} {j : Nat}, pl[r1]? = some j → pl[r2]? = some j → r1 = r2 := fun {r1 r2 j} e1 e2 =>
        (List.getElem_inj hp.nodup (h₀ := (List.getElem?_eq_some_iff.1 e1).1) (h₁ := (List.getElem?_eq_some_iff.1 e2).1)).1 ((List.getElem?_eq_some_iff.1 e1).2.trans (List.getElem?_eq_some_iff.1 e2).2.symm)
      have h1 : (qs (p0 + k0)).2.h.get (s0.h.nx + j) = none := by
        cases hg : (qs (p0 + k0)).2.h.get (s0.h.nx + j) with
        | none => rfl
        | some y2 =>
          rcases q1 _ y2 hg with hg | ⟨r', m1, m2, j', op', f', e1, e2, e3, e4, e5, e6⟩
          · obtain ⟨r', m1, m2⟩ := z3 j y2 hg hjs
            have := inj m2 k1; omega
          · obtain rfl : j = j' := by omega
            have := inj e1 k1; omega
      refine ⟨h1, ?_⟩
      cases hg : h2.get (s0.h.nx + j) with
      | none => rfl
      | some y2 =>
        obtain ⟨x, hx⟩ := g.born _ y2 (by show s0.h.nx + j < (qs (p0 + k0)).2.h.nx; omega) hg
        have hx : (qs (p0 + k0)).2.h.get (s0.h.nx + j) = some x := hx
        rw [h1] at hx; cases hx
    classical
    let pend : Nat → Prop := fun b => ∃ r j y, p0 + k0 < r ∧ pl[r]? = some j ∧ L j = true ∧ Laid P ops pl s0.h.nx qs r b y
    let H' := mkHp (fun b => if pend b then H.get b else h2.get b) h2.nx s0.h.gd
    have hl2 : ∀ b x, h2.get b = some x → b < h2.nx := fun b x hb => (g.rh.live b x hb).1
    have hlH : ∀ b x, H.get b = some x → b < h2.nx := fun b x hb => by have := (I.went.rh.live b x hb).1; omega
    have getH : ∀ b, H'.get b = if pend b then H.get b else h2.get b := fun b => by
      rw [show H'.get b = _ from get_mkHp _ _ _ b]
      split
      · rfl
      · rename_i hb
        split
        · cases hg : H.get b with
          | none => rfl
          | some x => exact absurd (hlH b x hg) hb
        · cases hg : h2.get b with
          | none => rfl
          | some x => exact absurd (hl2 b x hg) hb
    have pnone : ∀ b, pend b → (qs (p0 + k0)).2.h.get b = none ∧ h2.get b = none := fun b ⟨r, j, y, h1, h2, h3, h4⟩ => zp r b y h1 h4
    have pin : ∀ b, pend b → ∃ y, H.get b = some y ∧ y.wr = true := fun b ⟨r, j, y, h1, h2, h3, h4⟩ => ⟨y, (I.cH b y).2 (.inr ⟨r, j, by omega, h2, h3, h4⟩), by
      obtain ⟨j', op, f, k1, k2, k3, k4, k5, k6⟩ := h4
      have := stepMk_fix k5
      exact this⟩
    have R1 : RH P ι { (qs (p0 + k0)).2.h with gd := guardOf (masks ops.toList) i (qs (p0 + k0)) } w := I.went.rh.sub sub (by rw [← nxe]; exact Nat.le_refl _)
    have gm : ∀ o v, ι o = some v → ι' o = some v := g.mono R1
    have pge : ∀ b, pend b → s0.h.nx ≤ b := fun b ⟨r, j, y, _, _, _, _, _, _, _, _, _, _, _, e⟩ => by omega
    have up : ∀ {o v}, ι' o = some v → ∀ y, H.get o = some y → ι o = some v := fun {o v} hv y hy => by
      obtain ⟨_, v2, hv2, _⟩ := I.went.rh.live o y hy
      rw [gm o v2 hv2] at hv
      rw [hv2]; exact hv
    have blk : ∀ o y v, H.get o = some y → ι o = some v → v.blk < w.heap.size := fun o y v hy hv => by
      obtain ⟨_, v2, hv2, hor⟩ := I.went.rh.live o y hy
      rw [hv] at hv2
      obtain rfl := Option.some.inj hv2
      exact hor.block
    have neP : ∀ {o b x}, pend b → (qs (p0 + k0)).2.h.get o = some x → o ≠ b := fun {o b x} hb hx he => by
      rw [he, (pnone b hb).1] at hx; cases hx
    obtain ⟨s1, s2, s3, s4⟩ := slots' gm hv hset
    refine ⟨p0 + k0 + 1, H', ι', by omega, closed', fun r j b e1 e2 e3 => ?_, fun r j b e1 e2 e3 e4 => ?_, fun b x => ?_, hnx2.symm, rfl, fun r j b e1 e2 e3 e4 => ?_, fun j hj hL => ?_, fun q hql => ?_, I.went.trans ⟨⟨fun b x hb => ?_, fun b q x y vb vq hne hb hx hq2 hvb hvq => ?_, g.rh.fresh, g.rh.glob, g.rh.gsize⟩, ⟨g.fr.tape, g.fr.os, g.fr.output, g.fr.size, fun b hb hall => g.fr.rest b hb fun o x v e1 e2 e3 => hall o x v (sub o x e1) e2 e3⟩, by rw [← nxe]; exact hnxg, I.gd.symm, fun q x hqn hqx hqg => ?_, fun q y hqn hqy => ?_, fun b x v hb hvb => ?_⟩, s1, s2, s3, s4⟩
    · rw [more_iff, I.c1 r j b e1 e2 e3]
      constructor
      · rintro (h | rfl)
        · omega
        · have := uniq e1; omega
      · intro h
        rcases Nat.lt_or_ge r p0 with h1 | h1
        · exact .inl h1
        · rcases Nat.lt_or_ge r (p0 + k0) with h2' | h2'
          · exact absurd e3 (hno r j b h1 h2' e1 e2)
          · have : r = p0 + k0 := by omega
            subst this
            rw [hpi] at e1
            exact .inr (Option.some.inj e1).symm
    · rcases Nat.lt_or_ge r (p0 + k0) with h2' | h2'
      · exact more_iff.2 (.inl (before_in hp ho hpi hr h2' e2 e3 (swm b e4)))
      · have : r = p0 + k0 := by omega
        subst this
        rw [hpi] at e2
        exact more_iff.2 (.inr (Option.some.inj e2).symm)
    · rw [getH]
      constructor
      · split
        · rename_i hpb
          intro hb
          right
          rcases (I.cH b x).1 hb with hb | ⟨r, j, e1, e2, e3, e4⟩
          · have := q2 b x hb
            rw [(pnone b hpb).1] at this; cases this
          · obtain ⟨r2, j2, y2, f1, f2, f3, f4⟩ := hpb
            have hj : j = j2 := by
              obtain ⟨_, _, _, a1, _, _, _, _, a2⟩ := e4
              obtain ⟨_, _, _, b1, _, _, _, _, b2⟩ := f4
              rw [e2] at a1; rw [f2] at b1
              have := Option.some.inj a1; have := Option.some.inj b1
              omega
            subst hj
            have hrr : r = r2 := (List.getElem_inj hp.nodup (h₀ := (List.getElem?_eq_some_iff.1 e2).1) (h₁ := (List.getElem?_eq_some_iff.1 f2).1)).1 ((List.getElem?_eq_some_iff.1 e2).2.trans (List.getElem?_eq_some_iff.1 f2).2.symm)
            exact ⟨r, j, by omega, e2, more_iff.2 (.inl e3), e4⟩
        · intro hb; left; rw [hget2]; exact hb
      · rintro (hb | ⟨r, j, e1, e2, e3, e4⟩)
        · rw [hget2] at hb
          rw [if_neg]
          · exact hb
          · intro hpb; rw [(pnone b hpb).2] at hb; cases hb
        · have hLj : L j = true := by
            rcases more_iff.1 e3 with h | rfl
            · exact h
            · have := uniq e2; omega
          rw [if_pos ⟨r, j, x, by omega, e2, hLj, e4⟩]
          exact (I.cH b x).2 (.inr ⟨r, j, by omega, e2, hLj, e4⟩)
    · rcases Nat.lt_or_ge r p0 with h1 | h1
      · exact I.eff r j b h1 e2 e3 e4
      · rcases Nat.lt_or_ge r (p0 + k0) with h2' | h2'
        · exact absurd e4 (hno r j b h1 h2' e2 e3)
        · have : r = p0 + k0 := by omega
          subst this
          rw [hpi] at e2
          obtain rfl := Option.some.inj e2
          exact ⟨fun o x hx hg2 => by rw [hget2]; exact g.grd o x hx hg2, fun o y hlt hy => by rw [hget2] at hy; exact g.born o y hlt hy, by rw [hnx2]; exact hnxg⟩
    · have hLj : L j = false := by
        cases hLj : L j with
        | false => rfl
        | true => rw [more_iff.2 (.inl hLj)] at hL; cases hL
      rw [g.ext _ (show s0.h.nx + j < (qs (p0 + k0)).2.h.nx by omega)]
      exact I.idn j hj hLj
    · rw [g.ext _ (show q < (qs (p0 + k0)).2.h.nx by omega)]
      exact I.ext q hql
    · rw [getH] at hb
      split at hb
      · rename_i hpb
        obtain ⟨hl, v2, hv2, hor⟩ := I.went.rh.live b x hb
        refine ⟨hlH b x hb, v2, gm _ _ hv2, hor.of_block gm (g.fr.rest _ hor.block fun o y v e1 e2 e3 => ?_)⟩
        exact I.went.rh.apart o b y x v v2 (neP hpb e1) (sub o y e1) e2 hb e3 hv2
      · exact g.rh.live b x hb
    · rw [getH] at hb hq2
      split at hb
      · rename_i hpb
        have hvb2 := up hvb x hb
        split at hq2
        · exact I.went.rh.apart b q x y vb vq hne hb hx hq2 hvb2 (up hvq y hq2)
        · rcases g.old q y vq hq2 hvq with ⟨q0, y0, v0, e1, e2, e3, e4⟩ | hge
          · rw [← e4]
            exact I.went.rh.apart b q0 x y0 vb v0 (Ne.symm (neP hpb e1)) hb hx (sub _ _ e1) hvb2 e3
          · have := blk b x vb hb hvb2; omega
      · split at hq2
        · rename_i hpq
          have hvq2 := up hvq y hq2
          rcases g.old b x vb hb hvb with ⟨q0, y0, v0, e1, e2, e3, e4⟩ | hge
          · rw [← e4]
            exact I.went.rh.apart q0 q y0 y v0 vq (neP hpq e1) (sub _ _ e1) (e2.trans hx) hq2 e3 hvq2
          · have := blk q y vq hq2 hvq2; omega
        · exact g.rh.apart b q x y vb vq hne hb hx hq2 hvb hvq
    · rw [getH, if_neg (fun hpq => by have := pge q hpq; omega)]
      have hq0 : (qs (p0 + k0)).2.h.get q = some x := by
        rcases (I.cH q x).1 hqx with h | ⟨r, j, e1, e2, e3, _, _, _, _, _, _, _, _, e⟩
        · exact q2 q x h
        · omega
      refine g.grd q x hq0 ?_
      have : s0.h.gd.any (Nat.beq q) = true := by have := hqg; unfold Hp.guarded at this; rw [I.gd] at this; exact this
      show (guardOf (masks ops.toList) i (qs (p0 + k0))).any (Nat.beq q) = true
      unfold guardOf
      rw [List.any_append, hgd, this, Bool.or_true]
    · rw [getH, if_neg (fun hpq => by have := pge q hpq; omega)] at hqy
      obtain ⟨x, hx⟩ := g.born q y (by show q < (qs (p0 + k0)).2.h.nx; omega) hqy
      exact ⟨x, sub q x hx⟩
    · rw [getH] at hb
      split at hb
      · exact .inl ⟨b, x, v, hb, rfl, up hvb x hb, rfl⟩
      · exact (g.old b x v hb hvb).imp (fun ⟨q, y, vq, e1, e2, e3, e4⟩ => ⟨q, y, vq, sub q y e1, e2, e3, e4⟩) id
  unfold wpOp
  rw [ho]
  simp only
  rw [wanted_sound hrt, hwant]
  have hpRH : p0 ≤ p → kindOf o.op = .eff → RH P ι { (qs p).2.h with gd := guardOf (masks ops.toList) i (qs p) } w := fun hle hk => by
    obtain ⟨q1, q2⟩ := plan_sub hp hq I ho hpi hLi hr hle (fun b hb => by unfold swapOk; rw [hb, hk]; simp) (fun b hb => by unfold swapOk; rw [hb, hk]; simp)
    exact I.went.rh.sub q1 (by rw [← q2]; exact Nat.le_refl _)
  have hle : kindOf o.op = .eff → p0 ≤ p := fun hk => by
    rcases Nat.lt_or_ge p p0 with h | h
    · rw [(I.c1 p i o hpi ho hk).2 h] at hLi; cases hLi
    · exact h
  cases hd with
  | skip hw hset hh hrd =>
    rw [hw]
    simp only [Bool.false_eq_true, if_false]
    by_cases hk : kindOf o.op = .eff
    · exact acts hk (.refl (hpRH (hle hk) hk)) (by rw [hh]) (.flat rfl) hset
    · exact same hk (notLaid (.inr hw)) (.flat rfl) hset
  | pure hw hk v hv hset hh hrd =>
    rw [hw]
    simp only [if_true]
    left
    rw [← stepPure_congr hk hops] at hv
    obtain ⟨v', g1, g2⟩ := stepPure_sound I.went.rh.glob hrt hk hv
    unfold Oper.wp
    rw [g2 w]
    exact same (by rw [hk]; decide) (notLaid (.inl (by rw [hk]; decide))) g1 hset
  | read hw hk v ids hv hset hh hrd =>
    rw [hw]
    simp only [if_true]
    left
    rw [← stepRead_congr hops hk] at hv
    have hv2 := stepRead_heap hv (read_stays hp hq I ho hpi hLi hr hk hrd hh)
    obtain ⟨v', g1, g2⟩ := stepRead_sound hrt I.went.rh hv2
    unfold Oper.wp
    rw [g2]
    exact same (by rw [hk]; decide) (notLaid (.inl (by rw [hk]; decide))) g1 hset
  | mk hw hk x f hv hset hh hrd =>
    rw [hw]
    simp only [if_true]
    left
    have hv0 := hv
    rw [← stepMk_congr hops hk] at hv
    obtain ⟨c, c', e, e', v', rfl, hone, hcc, g2, g3⟩ := stepMk_sound I.went.rh.glob hrt hv w
    unfold Oper.wp
    rw [g2]
    have hp0 : p0 ≤ p := by
      rcases Nat.lt_or_ge p p0 with h | h
      · rw [I.c2 p i o h hpi ho hk] at hLi; cases hLi
      · exact h
    have hidn := I.idn i hiN hLi
    obtain ⟨z1, z2, z3⟩ := z_run h0 hq R0 I p0 (Nat.le_refl _)
    have hidx : s0.h.nx + i < H.nx := by rw [I.nx]; omega
    let x : Ob := .cells c e .fix
    let H' := mkHp (fun q => if q = s0.h.nx + i then some x else H.get q) H.nx H.gd
    have getH : ∀ q, H'.get q = if q < H.nx then (if q = s0.h.nx + i then some x else H.get q) else none := get_mkHp _ _ _
    have notIn : H.get (s0.h.nx + i) = none := by
      cases hg : H.get (s0.h.nx + i) with
      | none => rfl
      | some y => obtain ⟨_, v, hv, _⟩ := I.went.rh.live _ y hg; rw [hidn] at hv; cases hv
    have inH : ∀ q y, H.get q = some y → H'.get q = some y := fun q y hqy => by
      rw [getH, if_pos (I.went.rh.live q y hqy).1, if_neg]
      · exact hqy
      · rintro rfl; rw [notIn] at hqy; cases hqy
    have hmono := Inj.set_mono (v := ⟨w.heap.size, 0, 0, 0⟩) hidn
    obtain ⟨l1, l2, l3⟩ := I.went.rh.lay (h' := H') (id := s0.h.nx + i) (x := x) (b := .cells c'.toArray e' (0, 0)) (v := ⟨w.heap.size, 0, 0, 0⟩) rfl hidn
      ⟨hone, _, e', (0, 0), by rw [alloc_get]; exact if_pos rfl, fun j y hj => by
        obtain ⟨y', hy, hyv⟩ := hcc.get hj
        exact ⟨y', by simpa using hy, hyv.mono hmono⟩, fun _ => rfl, fun hm => by cases hm⟩ (Nat.le_refl _) hidx (fun q y hqy => by
        rw [getH] at hqy
        split at hqy
        · split at hqy
          · exact .inl ⟨‹_›, (Option.some.inj hqy).symm⟩
          · exact .inr ⟨‹_›, hqy⟩
        · cases hqy)
    obtain ⟨s1, s2, s3, s4⟩ := slots' hmono (g3 (s0.h.nx + i) _ (Inj.set_same ..)) hset
    refine ⟨p0, H', _, I.p0N, closed', fun r j b h1 h2 h3 => ?_, fun r j b h1 h2 h3 h4 => more_iff.2 (.inl (I.c2 r j b h1 h2 h3 h4)), fun b y => ?_, I.nx, I.gd, I.eff, fun j hj hL => ?_, fun q hql => ?_, I.went.trans ⟨l1, l2, Nat.le_refl _, rfl, fun q y _ hqy _ => inH q y hqy, fun q y hq2 hqy => ?_, l3⟩, s1, s2, s3, s4⟩
    · rw [← I.c1 r j b h1 h2 h3, more_iff]
      refine ⟨fun h => h.resolve_right fun hji => ?_, .inl⟩
      subst hji
      rw [ho] at h2
      obtain rfl := Option.some.inj h2
      rw [hk] at h3; cases h3
    · constructor
      · intro hb
        rw [getH] at hb
        split at hb
        · split at hb
          · rename_i _ hbi
            obtain rfl := Option.some.inj hb
            exact .inr ⟨p, i, hp0, hpi, more_iff.2 (.inr rfl), i, o, f, hpi, ho, hk, hw, hv0, hbi⟩
          · exact ((I.cH b y).1 hb).imp id fun ⟨r, j, h1, h2, h3, h4⟩ => ⟨r, j, h1, h2, more_iff.2 (.inl h3), h4⟩
        · cases hb
      · rintro (hb | ⟨r, j, h1, h2, h3, h4⟩)
        · exact inH b y ((I.cH b y).2 (.inl hb))
        · rcases more_iff.1 h3 with h5 | h5
          · exact inH b y ((I.cH b y).2 (.inr ⟨r, j, h1, h2, h5, h4⟩))
          · subst h5
            obtain rfl := uniq h2
            obtain ⟨j', op, f', k1, k2, k3, k4, k5, k6⟩ := h4
            rw [hpi] at k1
            obtain rfl := Option.some.inj k1
            rw [ho] at k2
            obtain rfl := Option.some.inj k2
            rw [hv0] at k5
            injection k5 with k5
            injection k5 with k5 _
            subst k5
            rw [getH, k6, if_pos hidx, if_pos rfl]
    · have hLj : L j = false := by
        cases hLj : L j with
        | false => rfl
        | true => rw [more_iff.2 (.inl hLj)] at hL; cases hL
      have hji : j ≠ i := fun hji => by rw [more_iff.2 (.inr hji)] at hL; cases hL
      rw [Inj.set_other _ _ _ (by omega)]
      exact I.idn j hj hLj
    · rw [Inj.set_other _ _ _ (by omega)]
      exact I.ext q hql
    · rw [getH] at hqy
      split at hqy
      · rw [if_neg (by omega)] at hqy; exact ⟨y, hqy⟩
      · cases hqy
  | eff hw hk v h2 hv hset hh hrd =>
    rw [hw]
    simp only [if_true]
    left
    rw [← stepEff_congr hops] at hv
    exact stepEff_sound (hpRH (hle hk) hk) hrt hc hv fun ι' v' w' k1 k2 => acts hk k1 hh k2 hset
end
end Go.Ev
