/- Regions that draw: whatever the order, the evaluator's plan is what comes of it. -/
import Derived.Test.YtfgfhplgnfbaaaaDoorEvPlanA
namespace Go.Ev
open Go

/-! ### memory, without a word on the names -/
structure W0 (P : Program) (n : Nat) (h : Hp) (ι : Inj) (w : World) (h' : Hp) (ι' : Inj) (w' : World) : Prop where
  rh : RH P ι' h' w'
  fr : Fr' h ι w w'
  nx : h.nx ≤ h'.nx
  gd : h'.gd = h.gd
  grd : ∀ q x, q < n → h.get q = some x → h.guarded q = true → h'.get q = some x
  born : ∀ q y, q < n → h'.get q = some y → ∃ x, h.get q = some x
  old : ∀ o x v, h'.get o = some x → ι' o = some v → (∃ q y vq, h.get q = some y ∧ y.wr = x.wr ∧ ι q = some vq ∧ vq.blk = v.blk) ∨ w.heap.size ≤ v.blk
theorem W0.trans {P : Program} {n : Nat} {h h' h'' : Hp} {ι ι' ι'' : Inj} {w w' w'' : World} (a : W0 P n h ι w h' ι' w') (b : W0 P n h' ι' w' h'' ι'' w'') : W0 P n h ι w h'' ι'' w'' where
  rh := b.rh
  fr := ⟨b.fr.tape.trans a.fr.tape, b.fr.os.trans a.fr.os, b.fr.output.trans a.fr.output, Nat.le_trans a.fr.size b.fr.size, fun k hk hall => by
    rw [b.fr.rest k (Nat.lt_of_lt_of_le hk a.fr.size) ?_]
    · exact a.fr.rest k hk hall
    · intro o x v ho hx hv
      rcases a.old o x v ho hv with ⟨q, y, vq, h1, h2, h3, h4⟩ | hge
      · rw [← h4]; exact hall q y vq h1 (h2.trans hx) h3
      · omega⟩
  nx := Nat.le_trans a.nx b.nx
  gd := b.gd.trans a.gd
  grd := fun q x hn hq hg => b.grd q x hn (a.grd q x hn hq hg) (by unfold Hp.guarded; rw [a.gd]; exact hg)
  born := fun q y hq hy => let ⟨x, hx⟩ := b.born q y hq hy; a.born q x hq hx
  old := fun o x v ho hv => by
    rcases b.old o x v ho hv with ⟨q, y, vq, h1, h2, h3, h4⟩ | hge
    · rcases a.old q y vq h1 h3 with ⟨r, z, vr, k1, k2, k3, k4⟩ | hge
      · exact .inl ⟨r, z, vr, k1, k2.trans h2, k3, k4.trans h4⟩
      · right; rw [← h4]; exact hge
    · right; exact Nat.le_trans a.fr.size hge

/-! ### the canonical run -/
theorem runPlan_seq {P : Program} {cf : CallF} {ops : Array Oper} {ms : List Nat} {n0 : Nat} : ∀ (l : List Nat) (q : Rds × St) (s' : St), runPlan P cf ops ms n0 l q = some s' →
    ∃ qs : Nat → Rds × St, qs 0 = q ∧ (∀ (p i : Nat), l[p]? = some i → planStep P cf ops ms n0 i (qs p) = some (qs (p + 1))) ∧ (qs l.length).2 = s' := by
  intro l
  induction l with
  | nil => intro q s' h; exact ⟨fun _ => q, rfl, fun p i hp => by simp at hp, Option.some.inj h⟩
  | cons x l ih =>
    intro q s' h
    obtain ⟨q1, h1, h2⟩ := Option.bind_eq_some_iff.1 (show (planStep P cf ops ms n0 x q).bind (runPlan P cf ops ms n0 l) = some s' from h)
    obtain ⟨qs, g1, g2, g3⟩ := ih q1 s' h2
    refine ⟨fun p => Nat.rec q (fun p _ => qs p) p, rfl, fun p i hp => ?_, g3⟩
    cases p with
    | zero =>
      simp at hp
      subst hp
      show planStep P cf ops ms n0 x q = some (qs 0)
      rw [g1]; exact h1
    | succ p => exact g2 p i (by simpa using hp)

/-- What a step of the plan did. -/
inductive Did (P : Program) (cf : CallF) (ops : Array Oper) (ms : List Nat) (n0 i : Nat) (o : Oper) (q q' : Rds × St) : Prop where
  | skip (hw : wantedF ops q.2.t o = false) (ht : q'.2.t = q.2.setT o.dst undef) (hh : q'.2.h = q.2.h) (hr : q'.1 = q.1)
  | pure (hw : wantedF ops q.2.t o = true) (hk : kindOf o.op = .pure_) (v : Value) (hv : stepPure P q.2.t o = some v) (ht : q'.2.t = q.2.setT o.dst v) (hh : q'.2.h = q.2.h) (hr : q'.1 = q.1)
  | read (hw : wantedF ops q.2.t o = true) (hk : kindOf o.op = .read) (v : Value) (ids : List Nat) (hv : stepRead P q.2.t o q.2.h = some (v, ids)) (ht : q'.2.t = q.2.setT o.dst v) (hh : q'.2.h = q.2.h) (hr : q'.1 = (i, ids) :: q.1)
  | mk (hw : wantedF ops q.2.t o = true) (hk : kindOf o.op = .mk) (x : Ob) (f : Nat → Value) (hv : stepMk P q.2.t o = some (x, f)) (ht : q'.2.t = q.2.setT o.dst (f (n0 + i))) (hh : q.2.h.addAt (n0 + i) x = some q'.2.h) (hr : q'.1 = q.1)
  | eff (hw : wantedF ops q.2.t o = true) (hk : kindOf o.op = .eff) (v : Value) (h2 : Hp) (hv : stepEff P cf q.2.t o { q.2.h with gd := (q.1.filter fun r => !((ms.getD i 0).testBit r.1)).flatMap (·.2) ++ q.2.h.gd } = some (v, h2)) (ht : q'.2.t = q.2.setT o.dst v) (hh : q'.2.h = { h2 with gd := q.2.h.gd }) (hr : q'.1 = q.1)

theorem planStep_did {P : Program} {cf : CallF} {ops : Array Oper} {ms : List Nat} {n0 i : Nat} {q q' : Rds × St} (h : planStep P cf ops ms n0 i q = some q') : ∃ o, ops[i]? = some o ∧ q'.2.n = q.2.n ∧ Did P cf ops ms n0 i o q q' := by
  unfold planStep at h
  obtain ⟨o, ho, h1⟩ := Option.bind_eq_some_iff.1 h
  rw [nth_eq, Array.getElem?_toList] at ho
  refine ⟨o, ho, ?_⟩
  cases hw : wantedF ops q.2.t o with
  | false =>
    rw [hw, cond_false] at h1
    obtain rfl := Option.some.inj h1
    exact ⟨rfl, .skip hw rfl rfl rfl⟩
  | true =>
    rw [hw, cond_true] at h1
    split at h1
    · obtain ⟨v, hv, rfl⟩ := Option.map_eq_some_iff.1 h1
      exact ⟨rfl, .pure hw ‹_› v hv rfl rfl rfl⟩
    · obtain ⟨⟨v, ids⟩, hv, rfl⟩ := Option.map_eq_some_iff.1 h1
      exact ⟨rfl, .read hw ‹_› v ids hv rfl rfl rfl⟩
    · obtain ⟨⟨x, f⟩, hv, h2⟩ := Option.bind_eq_some_iff.1 h1
      obtain ⟨h', hh, rfl⟩ := Option.map_eq_some_iff.1 h2
      exact ⟨rfl, .mk hw ‹_› x f hv rfl hh rfl⟩
    · obtain ⟨⟨v, h2⟩, hv, rfl⟩ := Option.map_eq_some_iff.1 h1
      exact ⟨rfl, .eff hw ‹_› v h2 hv rfl rfl rfl⟩

/-- What a plan is, in words. -/
structure PlanOk (ops : Array Oper) (ms pl : List Nat) : Prop where
  len : pl.length = ops.size
  nodup : pl.Nodup
  full : ∀ i, i < ops.size → ∃ p : Nat, pl[p]? = some i
  lin : ∀ (p i : Nat), pl[p]? = some i → ∀ k, (ms.getD i 0).testBit k = true → ∃ r, r < p ∧ pl[r]? = some k
  pairs : ∀ (p r i j : Nat) a b, p < r → pl[p]? = some i → pl[r]? = some j → ops[i]? = some a → ops[j]? = some b → (ms.getD j 0).testBit i = true ∨ swapOk ops.toList a b = true
theorem planOk_ok {ops : Array Oper} {pl : List Nat} (h : planOk ops.toList (masks ops.toList) pl = true) : PlanOk ops (masks ops.toList) pl := by
  unfold planOk at h
  simp only [Bool.and_eq_true] at h
  obtain ⟨⟨⟨h1, h2⟩, h3⟩, h4⟩ := h
  have hl : pl.length = ops.size := by rw [Nat.eq_of_beq_eq_true h1]; simp
  have h2 : ∀ x ∈ pl, x < ops.size := fun x hx => by simpa using List.all_eq_true.1 h2 x hx
  obtain ⟨l1, l2, l3⟩ := linearOk_spec pl 0 h3
  refine ⟨hl, l1, fun i hi => plan_full l1 h2 hl hi, fun p i hp k hk => (l3 p i hp k hk).resolve_left (by simp), fun p r i j a b hpr hp hr ha hb => pairsOk_spec pl h4 p r i j a b hpr hp hr (by simpa using ha) (by simpa using hb)⟩

/-- An object that the plan lays at a place. -/
def Laid (P : Program) (ops : Array Oper) (pl : List Nat) (n0 : Nat) (qs : Nat → Rds × St) (r o : Nat) (x : Ob) : Prop :=
  ∃ i op f, pl[r]? = some i ∧ ops[i]? = some op ∧ kindOf op.op = .mk ∧ wantedF ops (qs r).2.t op = true ∧ stepMk P (qs r).2.t op = some (x, f) ∧ o = n0 + i

def guardOf (ms : List Nat) (i : Nat) (q : Rds × St) : List Nat := (q.1.filter fun r => !((ms.getD i 0).testBit r.1)).flatMap (·.2) ++ q.2.h.gd

/-- What is known of an operation that acts, once it has been gone through. -/
structure EffF (ms : List Nat) (i : Nat) (q q' : Rds × St) : Prop where
  grd : ∀ o x, q.2.h.get o = some x → (guardOf ms i q).any (Nat.beq o) = true → q'.2.h.get o = some x
  born : ∀ o y, o < q.2.h.nx → q'.2.h.get o = some y → ∃ x, q.2.h.get o = some x
  nx : q.2.h.nx ≤ q'.2.h.nx

section
variable (P : Program) (cf : CallF) (ops : Array Oper) (pl : List Nat) (s0 : St) (qs : Nat → Rds × St) (ι0 : Inj) (w0 : World)

/-- The state of the region when some of its operations have been gone through. -/
structure InvP (L : Nat → Bool) (a : Act) (w : World) (p0 : Nat) (H : Hp) (ι : Inj) : Prop where
  p0N : p0 ≤ pl.length
  closed : ∀ i, i < ops.size → L i = true → ∀ k, ((masks ops.toList).getD i 0).testBit k = true → L k = true
  c1 : ∀ r i o, pl[r]? = some i → ops[i]? = some o → kindOf o.op = .eff → (L i = true ↔ r < p0)
  c2 : ∀ r i o, r < p0 → pl[r]? = some i → ops[i]? = some o → kindOf o.op = .mk → L i = true
  cH : ∀ o x, H.get o = some x ↔ ((qs p0).2.h.get o = some x ∨ ∃ r i, p0 ≤ r ∧ pl[r]? = some i ∧ L i = true ∧ Laid P ops pl s0.h.nx qs r o x)
  nx : H.nx = (qs p0).2.h.nx
  gd : H.gd = s0.h.gd
  eff : ∀ r i o, r < p0 → pl[r]? = some i → ops[i]? = some o → kindOf o.op = .eff → EffF (masks ops.toList) i (qs r) (qs (r + 1))
  idn : ∀ i, i < ops.size → L i = false → ι (s0.h.nx + i) = none
  ext : Ext s0.h.nx ι0 ι
  went : W0 P s0.h.nx s0.h ι0 w0 H ι w
  size : a.tmps.size = s0.n
  any : ∀ d, ∃ u, VR ι u (a.tmps.getD d undef)
  slots : ∀ d p, p ≤ pl.length → (∀ r i o, pl[r]? = some i → ops[i]? = some o → o.dst = some d → (L i = true ↔ r < p)) → VR ι (slot (qs p).2.t d) (a.tmps.getD d undef)
  dfr : a.defers = []
end

section
variable {P : Program} {cf : CallF} {ops : Array Oper} {pl : List Nat} {s0 : St} {qs : Nat → Rds × St} {ι0 : Inj} {w0 : World}
  (hp : PlanOk ops (masks ops.toList) pl)
  (h0 : qs 0 = ([], { s0 with h := { s0.h with nx := s0.h.nx + ops.size } }))
  (hq : ∀ (p i : Nat), pl[p]? = some i → ∃ o, ops[i]? = some o ∧ (qs (p + 1)).2.n = (qs p).2.n ∧ Did P cf ops (masks ops.toList) s0.h.nx i o (qs p) (qs (p + 1)))
  (R0 : RH P ι0 s0.h w0)

include hq in
/-- A step that does not act: its memory is the one before it, and what it laid. -/
theorem quiet_step {r i : Nat} {o : Oper} (hr : pl[r]? = some i) (ho : ops[i]? = some o) (hk : kindOf o.op ≠ .eff ∨ wantedF ops (qs r).2.t o = false) :
    (∀ b x, (qs (r + 1)).2.h.get b = some x → (qs r).2.h.get b = some x ∨ Laid P ops pl s0.h.nx qs r b x) ∧ (∀ b x, (qs r).2.h.get b = some x → (qs (r + 1)).2.h.get b = some x) ∧ (qs (r + 1)).2.h.nx = (qs r).2.h.nx ∧ (qs (r + 1)).2.h.gd = (qs r).2.h.gd := by
  obtain ⟨o', ho', _, hd⟩ := hq r i hr
  rw [ho] at ho'
  obtain rfl := Option.some.inj ho'
  cases hd with
  | skip _ _ hh _ => rw [hh]; exact ⟨fun _ _ h => .inl h, fun _ _ h => h, rfl, rfl⟩
  | pure _ _ _ _ _ hh _ => rw [hh]; exact ⟨fun _ _ h => .inl h, fun _ _ h => h, rfl, rfl⟩
  | read _ _ _ _ _ _ hh _ => rw [hh]; exact ⟨fun _ _ h => .inl h, fun _ _ h => h, rfl, rfl⟩
  | mk hw hk' x f hv _ hh _ =>
    obtain ⟨g1, g2, g3, g4⟩ := Hp.get_addAt hh
    refine ⟨fun b y hb => ?_, fun b y hb => ?_, g1, g2⟩
    · rw [g4] at hb
      split at hb
      · split at hb
        · obtain rfl := Option.some.inj hb
          exact .inr ⟨i, o, f, hr, ho, hk', hw, hv, ‹_›⟩
        · cases hb
      · exact .inl hb
    · rw [g4, if_neg]
      · exact hb
      · rintro rfl; rw [g3] at hb; cases hb
  | eff hw hk' => 
    rcases hk with hk | hk
    · exact absurd hk' hk
    · rw [hk] at hw; cases hw

include hq in
/-- From a place to a later one, with nothing that acts between. -/
theorem quiet_run {p0 : Nat} : ∀ (k : Nat), p0 + k ≤ pl.length → (∀ r i o, p0 ≤ r → r < p0 + k → pl[r]? = some i → ops[i]? = some o → kindOf o.op ≠ .eff) →
    (∀ b x, (qs (p0 + k)).2.h.get b = some x → (qs p0).2.h.get b = some x ∨ ∃ r, p0 ≤ r ∧ r < p0 + k ∧ Laid P ops pl s0.h.nx qs r b x) ∧ (∀ b x, (qs p0).2.h.get b = some x → (qs (p0 + k)).2.h.get b = some x) ∧ (qs (p0 + k)).2.h.nx = (qs p0).2.h.nx ∧ (qs (p0 + k)).2.h.gd = (qs p0).2.h.gd := by
  intro k
  induction k with
  | zero => intro _ _; exact ⟨fun _ _ h => .inl h, fun _ _ h => h, rfl, rfl⟩
  | succ k ih =>
    intro hl hno
    obtain ⟨i1, i2, i3, i4⟩ := ih (by omega) (fun r i o h1 h2 => hno r i o h1 (by omega))
    obtain ⟨i, hi⟩ : ∃ i, pl[p0 + k]? = some i := ⟨_, List.getElem?_eq_getElem (show p0 + k < pl.length by omega)⟩
    obtain ⟨o, ho, _, _⟩ := hq _ i hi
    obtain ⟨s1, s2, s3, s4⟩ := quiet_step hq hi ho (.inl (hno _ i o (by omega) (by omega) hi ho))
    refine ⟨fun b x hb => ?_, fun b x hb => s2 b x (i2 b x hb), s3.trans i3, s4.trans i4⟩
    rcases s1 b x hb with hb | hl
    · rcases i1 b x hb with hb | ⟨r, h1, h2, h3⟩
      · exact .inl hb
      · exact .inr ⟨r, h1, by omega, h3⟩
    · exact .inr ⟨p0 + k, by omega, by omega, hl⟩
end
end Go.Ev
