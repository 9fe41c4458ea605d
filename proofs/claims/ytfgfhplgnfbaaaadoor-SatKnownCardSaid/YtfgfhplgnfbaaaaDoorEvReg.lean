/- Regions, whether they draw or not. -/
import Derived.Test.YtfgfhplgnfbaaaaDoorEvPlanD
namespace Go.Ev
open Go

section
variable {P : Program} {cf : CallF} {ops : Array Oper} {pl : List Nat} {s0 : St} {qs : Nat → Rds × St} {ι0 : Inj} {w0 : World}
  (hc : COk P cf)
  (hp : PlanOk ops (masks ops.toList) pl)
  (h0 : qs 0 = ([], { s0 with h := { s0.h with nx := s0.h.nx + ops.size } }))
  (hq : ∀ (p i : Nat), pl[p]? = some i → ∃ o, ops[i]? = some o ∧ (qs (p + 1)).2.n = (qs p).2.n ∧ Did P cf ops (masks ops.toList) s0.h.nx i o (qs p) (qs (p + 1)))
  (R0 : RH P ι0 s0.h w0) (hhas : ∀ d, d < s0.n → s0.t.has d = true) (hbig : ∀ d, s0.n ≤ d → slot s0.t d = undef)

include hp h0 hq R0 hhas in
/-- When all have been gone through. -/
theorem inv_end {L : Nat → Bool} {a : Act} {w : World} {p0 : Nat} {H : Hp} {ι : Inj} (I : InvP P ops pl s0 qs ι0 w0 L a w p0 H ι) (hall : ∀ k, k < ops.size → L k = true) :
    Went P s0.h ι0 w0 (qs pl.length).2.h ι w ∧ RT ι (qs pl.length).2.t (qs pl.length).2.n a ∧ (qs pl.length).2.n = s0.n ∧ a.defers = [] := by
  have _ := hp
  have hn := seq_n h0 hq pl.length (Nat.le_refl _)
  have hno : ∀ r i o, p0 ≤ r → r < pl.length → pl[r]? = some i → ops[i]? = some o → kindOf o.op ≠ .eff := fun r i o h1 h2 h3 h4 h5 => by
    have := (I.c1 r i o h3 h4 h5).1 (hall i (Array.getElem?_eq_some_iff.1 h4).1)
    omega
  obtain ⟨k, hk⟩ := Nat.exists_eq_add_of_le I.p0N
  obtain ⟨q1, q2, q3, q4⟩ := quiet_run hq k (by omega) (fun r i o h1 h2 => hno r i o h1 (by omega))
  rw [← hk] at q1 q2 q3 q4
  obtain ⟨z1, z2, z3⟩ := z_run h0 hq R0 I p0 (Nat.le_refl _)
  have sub : ∀ b x, (qs pl.length).2.h.get b = some x → H.get b = some x := fun b x hb => by
    rcases q1 b x hb with hb | ⟨r, h1, h2, h3⟩
    · exact (I.cH b x).2 (.inl hb)
    · obtain ⟨j, op, f, g1, g2, g3, g4, g5, g6⟩ := h3
      exact (I.cH b x).2 (.inr ⟨r, j, h1, g1, hall j (Array.getElem?_eq_some_iff.1 g2).1, ⟨j, op, f, g1, g2, g3, g4, g5, g6⟩⟩)
  have hnx : (qs pl.length).2.h.nx = H.nx := by rw [q3, I.nx]
  refine ⟨⟨I.ext, I.went.rh.sub sub (by rw [hnx]; exact Nat.le_refl _), I.went.fr, by rw [hnx]; exact I.went.nx, q4.trans z2, fun q x hqx hqg => ?_, fun q y hql hy => I.went.born q y hql (sub q y hy), fun b x v hb hv => I.went.old b x v (sub b x hb) hv⟩, ⟨by rw [hn]; exact I.size, fun d => I.slots d pl.length (Nat.le_refl _) fun r i o h1 h2 h3 => ?_, fun d hd => seq_has h0 hq hhas pl.length (Nat.le_refl _) d (by rw [← hn]; exact hd)⟩, hn, I.dfr⟩
  · have hql := (R0.live q x hqx).1
    rcases (I.cH q x).1 (I.went.grd q x hql hqx hqg) with h | ⟨r, j, e1, e2, e3, _, _, _, _, _, _, _, _, e⟩
    · exact q2 q x h
    · omega
  · exact ⟨fun _ => (List.getElem?_eq_some_iff.1 h1).1, fun _ => hall i (Array.getElem?_eq_some_iff.1 h2).1⟩

include hp in
theorem masks_in {L : Nat → Bool} (hcl : ∀ i, i < ops.size → L i = true → ∀ k, ((masks ops.toList).getD i 0).testBit k = true → L k = true) (hout : ∀ k, L k = true → k < ops.size) {i : Nat} {o : Oper} (hi : ops[i]? = some o)
    (he : ∀ e ∈ o.after.toList, Region.binds .any e = true → L e.on = true) : ∀ k, ((masks ops.toList).getD i 0).testBit k = true → L k = true := by
  have _ := hp
  intro k hk
  obtain ⟨e, h1, h2, h3⟩ := (masks_bit (by simpa using hi) k).1 hk
  rcases h3 with rfl | ⟨h3, h4⟩
  · exact he e h1 h2
  · exact hcl e.on (hout _ (he e h1 h2)) (he e h1 h2) k h4

theorem getD_more {listed : Array Bool} {n i : Nat} (hs : listed.size = n) (hi : i < n) : (fun k => (listed.setIfInBounds i true).getD k false) = more (fun k => listed.getD k false) i := by
  funext k
  unfold more
  simp only [Array.getD_eq_getD_getElem?, Array.getElem?_setIfInBounds]
  by_cases hk : i = k
  · subst hk
    simp [hs, hi]
  · have : Nat.beq k i = false := by rw [Bool.eq_false_iff]; intro h; exact hk (Nat.eq_of_beq_eq_true h).symm
    simp [hk, this]

include hc hp h0 hq R0 hhas hbig in
theorem any_sound {Q : Exit → Act → World → Prop} (hQ : ∀ ι' a' w', Went P s0.h ι0 w0 (qs pl.length).2.h ι' w' → RT ι' (qs pl.length).2.t (qs pl.length).2.n a' → (qs pl.length).2.n = s0.n → a'.defers = [] → Q .normal a' w') :
    ∀ (fuel : Nat) (listed : Array Bool) (a : Act) (w : World), listed.size = ops.size → ((List.range ops.size).filter fun k => !(listed.getD k false)).length ≤ fuel →
      (∃ p0 H ι, InvP P ops pl s0 qs ι0 w0 (fun k => listed.getD k false) a w p0 H ι) → wpAny P .any ops Q fuel listed a w := by
  intro fuel
  have hout : ∀ {listed : Array Bool}, listed.size = ops.size → ∀ k, listed.getD k false = true → k < ops.size := fun {listed} hs k hk => by
    rcases Nat.lt_or_ge k ops.size with h | h
    · exact h
    · rw [Array.getD_eq_getD_getElem?, Array.getElem?_eq_none (by omega)] at hk; cases hk
  have rdy : ∀ {listed : Array Bool} {i : Nat}, listed.size = ops.size → (i ∈ Region.ready .any ops listed ↔ ∃ o, ops[i]? = some o ∧ listed.getD i false = false ∧ ∀ e ∈ o.after.toList, Region.binds .any e = true → listed.getD e.on false = true) := fun {listed i} hs => by
    unfold Region.ready
    rw [List.mem_filter, List.mem_range]
    constructor
    · rintro ⟨h1, h2⟩
      rw [Bool.and_eq_true] at h2
      refine ⟨ops[i], Array.getElem?_eq_getElem h1, ?_, fun e he hb => ?_⟩
      · have := h2.1
        simpa [Array.getD_eq_getD_getElem?, hs, h1] using this
      · have := h2.2
        rw [Array.getElem?_eq_getElem h1] at this
        simp only [Option.map_some, Option.getD_some, Array.all_eq_true_iff_forall_mem] at this
        have := this e (Array.mem_toList_iff.1 he)
        rw [hb] at this
        simpa using this
    · rintro ⟨o, h1, h2, h3⟩
      have hlt := (Array.getElem?_eq_some_iff.1 h1).1
      refine ⟨hlt, ?_⟩
      rw [Bool.and_eq_true]
      refine ⟨by simpa [Array.getD_eq_getD_getElem?, hs, hlt] using h2, ?_⟩
      rw [h1]
      simp only [Option.map_some, Option.getD_some, Array.all_eq_true_iff_forall_mem]
      intro e he
      cases hb : Region.binds .any e with
      | false => rfl
      | true => simpa using h3 e (Array.mem_toList_iff.2 he) hb
  have done : ∀ {listed : Array Bool} {a w}, listed.size = ops.size → (∃ p0 H ι, InvP P ops pl s0 qs ι0 w0 (fun k => listed.getD k false) a w p0 H ι) → Region.ready .any ops listed = [] → Q .normal a w := by
    rintro listed a w hs ⟨p0, H, ι, I⟩ hr
    have all : ∀ (p : Nat) j, pl[p]? = some j → listed.getD j false = true := by
      intro p
      induction p using Nat.strongRecOn with
      | _ p ih =>
        intro j hj
        cases hL : listed.getD j false with
        | true => rfl
        | false =>
          obtain ⟨o, ho, _, _⟩ := hq p j hj
          have : j ∈ Region.ready .any ops listed := (rdy hs).2 ⟨o, ho, hL, fun e he hb => by
            obtain ⟨r, hr1, hr2⟩ := hp.lin p j hj e.on ((masks_bit (by simpa using ho) e.on).2 ⟨e, he, hb, .inl rfl⟩)
            exact ih r hr1 e.on hr2⟩
          rw [hr] at this; cases this
    obtain ⟨g1, g2, g3, g4⟩ := inv_end hp h0 hq R0 hhas I fun k hk => by
      obtain ⟨p, hpk⟩ := hp.full k hk
      exact all p k hpk
    exact hQ ι a w g1 g2 g3 g4
  induction fuel with
  | zero =>
    intro listed a w hs hf hI
    have hr : Region.ready .any ops listed = [] := by
      refine List.eq_nil_iff_forall_not_mem.2 fun i hi => ?_
      obtain ⟨o, h1, h2, _⟩ := (rdy hs).1 hi
      have : i ∈ ((List.range ops.size).filter fun k => !(listed.getD k false)) := List.mem_filter.2 ⟨List.mem_range.2 (Array.getElem?_eq_some_iff.1 h1).1, by rw [h2]; rfl⟩
      rw [List.length_eq_zero_iff.1 (Nat.le_zero.1 hf)] at this; cases this
    exact ⟨hr, done hs hI hr⟩
  | succ fuel ih =>
    intro listed a w hs hf hI
    refine ⟨done hs hI, fun i hi => ?_⟩
    obtain ⟨o, h1, h2, h3⟩ := (rdy hs).1 hi
    have hiN := (Array.getElem?_eq_some_iff.1 h1).1
    obtain ⟨p0, H, ι, I⟩ := hI
    have hmask := masks_in hp I.closed (hout hs) h1 h3
    refine wpOp_mono (fun a' w' hI' => ?_) (inv_step hc hp h0 hq R0 hhas hbig I hiN h2 hmask)
    refine ih _ a' w' (by simp [hs]) ?_ ?_
    · have hi' : i ∈ ((List.range ops.size).filter fun k => !(listed.getD k false)) := List.mem_filter.2 ⟨List.mem_range.2 hiN, by rw [h2]; rfl⟩
      have hfe : ((List.range ops.size).filter fun k => !((listed.setIfInBounds i true).getD k false)) = (((List.range ops.size).filter fun k => !(listed.getD k false)).filter fun k => !(Nat.beq k i)) := by
        rw [List.filter_filter]
        congr 1
        funext k
        rw [congrFun (getD_more hs hiN) k]
        unfold more
        rw [Bool.not_or, Bool.and_comm]
      rw [hfe]
      have := List.length_filter_lt_length_iff_exists.2 (⟨i, hi', by simp⟩ : ∃ x ∈ ((List.range ops.size).filter fun k => !(listed.getD k false)), ¬ ((fun k => !(Nat.beq k i)) x = true))
      omega
    · rw [getD_more hs hiN]; exact hI'
end

theorem reg_ok {P : Program} (hm : P.follows .mixedOrders = true) {cf : CallF} (hc : COk P cf) : RegOk P cf := by
  intro id ops draw s s' ι a w hs hr R hd Q hQ
  cases draw with
  | false =>
    exact wp_region_list (runOps_sound hc ops.toList hr R hd hs hQ)
  | true =>
    unfold runRegion at hs
    simp only [cond_true] at hs
    obtain ⟨hpl, hs⟩ := cond_some hs
    have hp := planOk_ok hpl
    obtain ⟨qs, h0, hq, he⟩ := runPlan_seq _ _ _ hs
    have hbig : ∀ d, s.n ≤ d → slot s.t d = undef := fun d hd => by
      have := hr.slots d
      rw [Array.getD_eq_getD_getElem?, Array.getElem?_eq_none (by rw [hr.size]; exact hd)] at this
      exact VR.undef_of this
    have hq' := fun p i h => planStep_did (hq p i h)
    refine wp_region_any hm (any_sound hc hp h0 hq' R hr.has hbig (fun ι' a' w' g1 g2 g3 g4 => hQ ι' a' w' (by rw [← he]; exact g1) (by rw [← he]; exact g2) (by rw [← he]; exact g3) g4) ops.size _ a _ (by simp) (Nat.le_trans (List.length_filter_le _ _) (by simp)) ?_)
    have hf : ∀ k, (Array.replicate ops.size false).getD k false = false := fun k => by
      rw [Array.getD_eq_getD_getElem?, Array.getElem?_replicate]
      split <;> rfl
    have hnx : (qs 0).2.h = { s.h with nx := s.h.nx + ops.size } := by rw [h0]
    refine ⟨0, { s.h with nx := s.h.nx + ops.size }, ι, Nat.zero_le _, fun i _ h => ?_, fun r i o _ _ _ => ?_, fun r i o h => absurd h (Nat.not_lt_zero _), fun b x => ?_, by rw [hnx], rfl, fun r i o h => absurd h (Nat.not_lt_zero _), fun i _ _ => R.fresh _ (Nat.le_add_right _ _), .refl _ _,
      ⟨(R.up (Nat.le_add_right _ _)).world rfl, ⟨rfl, rfl, rfl, Nat.le_refl _, fun _ _ _ => rfl⟩, Nat.le_add_right _ _, rfl, fun _ _ _ h _ => h, fun _ y _ h => ⟨y, h⟩, fun o x v h1 h2 => .inl ⟨o, x, v, h1, rfl, h2, rfl⟩⟩, hr.size, fun d => ⟨_, hr.slots d⟩, fun d p hpl hcut => ?_, hd⟩
    · rw [hf] at h; cases h
    · rw [hf]; exact ⟨fun h => (by cases h), fun h => absurd h (Nat.not_lt_zero _)⟩
    · rw [hnx]
      exact ⟨.inl, fun h => h.resolve_right fun ⟨r, i, _, _, h3, _⟩ => by rw [hf] at h3; cases h3⟩
    · rw [seq_slot_to h0 hq' (p := 0) (Nat.zero_le _) hpl (.inl fun r i o _ h2 h3 h4 h5 => by
        have := (hcut r i o h3 h4 h5).2 h2
        rw [hf] at this; cases this), h0]
      exact hr.slots d
end Go.Ev
