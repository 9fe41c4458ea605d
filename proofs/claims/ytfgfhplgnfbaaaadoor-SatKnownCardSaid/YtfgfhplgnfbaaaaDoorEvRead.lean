/- The evaluator's steps that read memory are the model's. -/
import Derived.Test.YtfgfhplgnfbaaaaDoorEvMem
namespace Go.Ev
open Go

theorem boundV_some {v : Value} {m i : Nat} (h : boundV v m = some i) : ∃ k, v = .int k (Int.ofNat i) ∧ i ≤ m := by
  unfold boundV at h
  split at h
  · rename_i k j
    obtain ⟨h1, h2⟩ := cond_some h
    obtain rfl := Option.some.inj h2
    exact ⟨k, rfl, Nat.le_of_ble_eq_true h1⟩
  · cases h
theorem run_bound {P : Program} {ι : Inj} {v v' : Value} {m i M : Nat} (h : boundV v m = some i) (hM : m ≤ M) (hv : VR ι v v') (code : BoundsCode) (w : World) : (Instr.sliceBound v' M code).run P w = .ok i w := by
  obtain ⟨k, rfl, hi⟩ := boundV_some h
  rw [hv.int_iff]
  have c : (0 : Int) ≤ Int.ofNat i ∧ Int.ofNat i ≤ (M : Int) := ⟨Int.natCast_nonneg _, by rw [Int.ofNat_eq_natCast]; omega⟩
  simp only [Instr.sliceBound, asIntOf, Sem.run_bind, Sem.run_pure, Result.andThen_ok, Sem.run_ite, if_pos c]
  rfl

/-- Values that may not be there. -/
def QR (ι : Inj) : Option Value → Option Value → Prop
  | none, none => True
  | some v, some v' => VR ι v v'
  | _, _ => False

theorem bounds_some {len vis : Nat} {lo hi mx : Option Value} {r : Nat × Nat × Nat} (h : bounds len vis lo hi mx = some r) : r.1 ≤ r.2.1 ∧ (hi = none → mx = none ∧ r.2.1 = len) ∧ (hi ≠ none → r.2.1 ≤ r.2.2) ∧ (mx = none → r.2.2 = vis) ∧ r.2.2 ≤ vis := by
  unfold bounds at h
  obtain ⟨m, hm, h⟩ := Option.bind_eq_some_iff.1 h
  obtain ⟨hh, hhh, h⟩ := Option.bind_eq_some_iff.1 h
  obtain ⟨l, hl, rfl⟩ := Option.map_eq_some_iff.1 h
  have e1 : (mx = none → m = vis) ∧ m ≤ vis := by
    cases mx with
    | none => obtain rfl := Option.some.inj hm; exact ⟨fun _ => rfl, Nat.le_refl _⟩
    | some v => exact ⟨(fun h => by cases h), (boundV_some hm).choose_spec.2⟩
  have e2 : (hi = none → mx = none ∧ hh = len) ∧ (hi ≠ none → hh ≤ m) := by
    cases hi with
    | none =>
      cases mx with
      | none => obtain rfl := Option.some.inj hhh; exact ⟨fun _ => ⟨rfl, rfl⟩, fun h => absurd rfl h⟩
      | some v => cases hhh
    | some v => exact ⟨fun h => (by cases h), fun _ => (boundV_some hhh).choose_spec.2⟩
  have e3 : l ≤ hh := by
    cases lo with
    | none => obtain rfl := Option.some.inj hl; exact Nat.zero_le _
    | some v => exact (boundV_some hl).choose_spec.2
  exact ⟨e3, e2.1, e2.2, e1.1, e1.2⟩
theorem run_bounds {P : Program} {ι : Inj} {len vis M : Nat} {lo hi mx lo' hi' mx' : Option Value} {r : Nat × Nat × Nat} (h : bounds len vis lo hi mx = some r) (hM : vis ≤ M) (h1 : QR ι lo lo') (h2 : QR ι hi hi') (h3 : QR ι mx mx') (isS : Bool) (w : World) :
    (Instr.sliceBounds isS len M lo' hi' mx').run P w = .ok (r.1, r.2.1, if mx.isSome then r.2.2 else M) w := by
  unfold bounds at h
  obtain ⟨m, hm, h⟩ := Option.bind_eq_some_iff.1 h
  obtain ⟨hh, hhh, h⟩ := Option.bind_eq_some_iff.1 h
  obtain ⟨l, hl, rfl⟩ := Option.map_eq_some_iff.1 h
  unfold Instr.sliceBounds
  have kl : ∀ code (K : Nat → Sem (Nat × Nat × Nat)), (match lo' with | some v => (do let l ← Instr.sliceBound v hh code; K l) | none => (do let l ← pure 0; K l)).run P w = (K l).run P w := by
    intro code K
    cases lo <;> cases lo' <;> first | exact h1.elim | skip
    · obtain rfl := Option.some.inj hl; rfl
    · simp only [Sem.run_bind, run_bound hl (Nat.le_refl _) h1, Result.andThen_ok]
  cases mx <;> cases mx' <;> first | exact h3.elim | skip
  · obtain rfl := Option.some.inj hm
    cases hi <;> cases hi' <;> first | exact h2.elim | skip
    · obtain rfl := Option.some.inj hhh
      simp only [Sem.run_bind, Sem.run_pure, Result.andThen_ok, Option.isSome_none, Bool.false_eq_true, if_false]
      exact kl _ _
    · simp only [Sem.run_bind, Sem.run_pure, Result.andThen_ok, run_bound hhh hM h2, Option.isSome_none, Bool.false_eq_true, if_false]
      exact kl _ _
  · have hm1 := run_bound (P := P) hm hM h3
    cases hi <;> cases hi' <;> first | exact h2.elim | skip
    · cases hhh
    · simp only [Sem.run_bind, Result.andThen_ok, hm1, run_bound hhh (Nat.le_refl _) h2, Option.isSome_some, if_true]
      exact kl _ _

section
variable {P : Program} {ι : Inj} {t : Fr} {n : Nat} {a : Act} {h : Hp} {w : World} (hr : RT ι t n a) (R : RH P ι h w)
include hr R

theorem opq_sound {q : Option Operand} {r : Option Value} (hq : opq P t q = some r) : QR ι r (q.map a.eval) := by
  cases q with
  | none => obtain rfl := Option.some.inj hq; trivial
  | some q =>
    obtain ⟨v, hv, rfl⟩ := Option.map_eq_some_iff.1 hq
    exact opv_sound R.glob hr hv

/-- A load. -/
theorem load_sound {ty : TypeId} {o off : Nat} {v : Value} {vw : Vw} (hv : ι o = some vw)
    (hl : ((aggT P ty).bind fun ag => bif ag then (sz P ty).bind fun n => (readAt h o off n).map fun l => Value.agg l.toArray else (readAt h o off 1).map fun l => l.headD undef) = some v) :
    ∃ v', VR ι v v' ∧ (loadVar ty ⟨vw.blk, vw.base + off, none⟩).run P w = .ok v' w := by
  have _ := hr
  obtain ⟨ag, hag, hl⟩ := Option.bind_eq_some_iff.1 hl
  unfold loadVar
  cases ag with
  | true =>
    obtain ⟨m, hm, hl⟩ := Option.bind_eq_some_iff.1 hl
    obtain ⟨l, hrd, rfl⟩ := Option.map_eq_some_iff.1 hl
    obtain ⟨l', h1, h2, h3, _⟩ := R.read hrd hv
    have k := VRs.arr (a := l.toArray) (a' := l'.toArray) (ι := ι) |>.1 (by simpa using h1)
    refine ⟨.agg l'.toArray, .agg k.1 k.2, ?_⟩
    have hc := run_loadCells_list (P := P) w ⟨vw.blk, vw.base + off, none⟩ l' (fun j x hx => by rw [add_none]; exact h2 j x hx)
    rw [h3] at hc
    simp only [Sem.run_bind, run_isAgg hag, Result.andThen_ok, if_true, run_size hm, hc]
    rfl
  | false =>
    simp only [cond_false] at hl
    obtain ⟨l, hrd, rfl⟩ := Option.map_eq_some_iff.1 hl
    obtain ⟨l', h1, h2, h3, _⟩ := R.read hrd hv
    obtain ⟨_, _, _, _, _, hl1⟩ := readAt_some hrd
    match l, hl1, h1 with
    | [x], _, h1 =>
      obtain ⟨y, c, rfl, hxy, _⟩ := h1.head
      refine ⟨y, hxy, ?_⟩
      have := h2 0 y rfl
      simp only [Sem.run_bind, run_isAgg hag, Result.andThen_ok, Bool.false_eq_true, if_false, run_load]
      rw [show vw.base + off = vw.base + off + 0 from rfl, this]

theorem sliceV_sound {ty : TypeId} {x x' v : Value} {lo hi mx lo' hi' mx' : Option Value} (hx : VR ι x x') (h1 : QR ι lo lo') (h2 : QR ι hi hi') (h3 : QR ι mx mx') (hv : sliceV P h ty x lo hi mx = some v) :
    ∃ v', VR ι v v' ∧ (Instr.sliceAt ty x' lo' hi' mx').run P w = .ok v' w := by
  have _ := hr
  unfold sliceV at hv
  split at hv
  · rename_i e q len cap hu
    obtain ⟨m, hm, hv0⟩ := Option.bind_eq_some_iff.1 hv
    clear hv
    obtain ⟨vis, hvis, hv1⟩ := Option.bind_eq_some_iff.1 hv0
    clear hv0
    obtain ⟨r, hb, hv⟩ := Option.bind_eq_some_iff.1 hv1
    clear hv1
    obtain ⟨b1, b2, b3, b4, b5⟩ := bounds_some hb
    -- what the model does
    have run : ∀ {q' : Option Addr} {M : Nat}, vis ≤ M → (Instr.sliceAt ty (.slice q' len M) lo' hi' mx').run P w =
        .ok (.slice (if (if mx.isSome then r.2.2 else M) = r.1 then q' else q'.map (·.add (r.1 * m))) (r.2.1 - r.1) ((if mx.isSome then r.2.2 else M) - r.1)) w := by
      intro q' M hM
      unfold Instr.sliceAt
      simp only [Sem.run_bind, run_underlying hu, Result.andThen_ok]
      unfold Instr.slice
      simp only [Sem.run_bind, run_underlying hu, Result.andThen_ok, run_bounds hb hM h1 h2 h3, run_size hm]
      rfl
    split at hv
    · -- nil
      obtain ⟨hc, hv⟩ := cond_some hv
      rw [Bool.and_eq_true] at hc
      obtain rfl := Nat.eq_of_beq_eq_true hc.1
      obtain rfl := Nat.eq_of_beq_eq_true hc.2
      obtain rfl := Option.some.inj hv
      obtain rfl : x' = .slice none 0 cap := by cases hx; rfl
      have hcap : cap = 0 := by simp only [seen] at hvis; exact Option.some.inj hvis
      subst hcap
      have e0 : r.2.2 = 0 := Nat.le_zero.1 b5
      have e1 : r.2.1 = 0 := by
        by_cases hn : hi = none
        · exact (b2 hn).2
        · have := b3 hn; omega
      have e2 : r.1 = 0 := by omega
      refine ⟨.slice none 0 0, .flat rfl, ?_⟩
      rw [run (q' := none) (M := 0) (Nat.le_refl _), e0, e1, e2]
      cases mx <;> rfl
    · rename_i o off
      -- unknown room, or known
      by_cases hk : (Nat.beq cap unk && mx.isNone) = true
      · rw [hk] at hv
        obtain rfl := Option.some.inj hv
        rw [Bool.and_eq_true] at hk
        have hcu : cap = unk := Nat.eq_of_beq_eq_true hk.1
        have hmx : mx = none := by cases mx with
          | none => rfl
          | some _ => cases hk.2
        subst hcu hmx
        obtain ⟨cs, hg, he, hvv⟩ : ∃ cs, h.get o = some (.cells cs e .grow) ∧ 0 < m ∧ vis = (cs.length - off) / m := by
          simp only [seen] at hvis
          rw [show Nat.beq unk unk = true from Nat.beq_refl unk, cond_true] at hvis
          split at hvis
          · rename_i cs e' hg
            obtain ⟨hc, hvi2⟩ := cond_some hvis
            rw [Bool.and_eq_true] at hc
            obtain rfl := Nat.eq_of_beq_eq_true hc.1
            exact ⟨cs, hg, by simpa using hc.2, (Option.some.inj hvi2).symm⟩
          · cases hvis
        obtain ⟨_, vw, hvw, _, c', e'', fr, hbl, _, _, hgr⟩ := R.live o _ hg
        obtain ⟨g1, g2, g3, g4⟩ := hgr rfl
        rw [hm] at g2
        obtain rfl := Option.some.inj g2
        have hmul : vis * vw.esz ≤ cs.length - off := by rw [hvv]; exact Nat.div_mul_le_self _ _
        cases hx with
        | flat hf => simp [flat, flatN] at hf
        | slc _ hne => exact absurd rfl hne
        | @slu _ _ _ c w1 hw1 hc hl =>
          rw [hvw] at hw1
          obtain rfl := Option.some.inj hw1
          have hvc : vis ≤ c := by
            rcases Nat.eq_zero_or_pos vis with h0 | h0
            · omega
            · have h5 : vis * vw.esz ≤ c * vw.esz := by
                have : 0 < vis * vw.esz := Nat.mul_pos h0 g3
                omega
              exact Nat.le_of_mul_le_mul_right h5 g3
          have hrc : r.2.1 ≤ c := by
            by_cases hn : hi = none
            · rw [(b2 hn).2]; exact hl
            · have := b3 hn; omega
          rw [run hvc]
          simp only [Option.isSome_none, Bool.false_eq_true, if_false]
          by_cases hcl : c = r.1
          · rw [if_pos hcl]
            have e1 : r.2.1 - r.1 = 0 := by omega
            have e2 : c - r.1 = 0 := by omega
            rw [e1, e2]
            refine ⟨_, .sl0 hvw (.inl ⟨rfl, ?_⟩), rfl⟩
            rw [← hc, hcl]; omega
          · rw [if_neg hcl]
            simp only [Option.map_some, add_none]
            refine ⟨_, ?_, rfl⟩
            have hcm : r.1 * vw.esz + (c - r.1) * vw.esz = c * vw.esz := by rw [← Nat.add_mul]; congr 1; omega
            have := VR.slu (off := off + r.1 * vw.esz) (len := r.2.1 - r.1) (c := c - r.1) hvw (by omega) (by omega)
            rw [show vw.base + (off + r.1 * vw.esz) = vw.base + off + r.1 * vw.esz by omega] at this
            exact this
        | @sl0 _ _ _ q0 _ hw1 hc =>
          rw [hvw] at hw1
          obtain rfl := Option.some.inj hw1
          have hc2 : vw.base + off = vw.fin := by
            rcases hc with ⟨_, h⟩ | h
            · exact h
            · exact absurd h (by decide)
          have hv0 : vis = 0 := by
            have : cs.length - off = 0 := by omega
            rw [hvv, this]; simp
          subst hv0
          have e0 : r.2.2 = 0 := Nat.le_zero.1 b5
          have e1 : r.2.1 = 0 := by
            by_cases hn : hi = none
            · exact (b2 hn).2
            · have := b3 hn; omega
          have e2 : r.1 = 0 := by omega
          rw [run (Nat.le_refl _), e1, e2]
          refine ⟨.slice (some q0) 0 0, .sl0 hvw (.inl ⟨rfl, by omega⟩), ?_⟩
          simp
      · have hk' : (Nat.beq cap unk && mx.isNone) = false := Bool.eq_false_iff.2 hk
        rw [hk'] at hv
        simp only [cond_false] at hv
        obtain ⟨hmu, hv⟩ := cond_some hv
        obtain rfl := Option.some.inj hv
        have hmu' : r.2.2 < unk := by simpa using hmu
        -- the abstract room is the room that the model has
        have fin : ∀ {vw : Vw} {M : Nat}, ι o = some vw → vis ≤ M → (mx = none → M = vis) → ∃ v', VR ι (.slice (some ⟨o, bif Nat.beq r.2.2 r.1 then off else off + r.1 * m, none⟩) (r.2.1 - r.1) (r.2.2 - r.1)) v' ∧ (Instr.sliceAt ty (.slice (some ⟨vw.blk, vw.base + off, none⟩) len M) lo' hi' mx').run P w = .ok v' w := by
          intro vw M hvw hM hMx
          rw [run hM]
          have em : (if mx.isSome = true then r.2.2 else M) = r.2.2 := by
            cases mx with
            | none => simp; rw [b4 rfl]; exact hMx rfl
            | some _ => rfl
          rw [em]
          refine ⟨_, ?_, rfl⟩
          have hne : r.2.2 - r.1 ≠ unk := by omega
          by_cases hml : r.2.2 = r.1
          · rw [if_pos hml, hml, show Nat.beq r.1 r.1 = true from Nat.beq_refl _]
            have := VR.slc (off := off) (len := r.2.1 - r.1) (cap := r.2.2 - r.1) hvw hne
            rw [hml] at this
            exact this
          · rw [if_neg hml, show Nat.beq r.2.2 r.1 = false from by rw [Bool.eq_false_iff]; intro hh; exact hml (Nat.eq_of_beq_eq_true hh)]
            simp only [Option.map_some, add_none, cond_false]
            have := VR.slc (off := off + r.1 * m) (len := r.2.1 - r.1) (cap := r.2.2 - r.1) hvw hne
            rwa [← Nat.add_assoc] at this
        have hseen : cap ≠ unk → vis = cap := by
          intro hne
          simp only [seen] at hvis
          rw [show Nat.beq cap unk = false from by rw [Bool.eq_false_iff]; intro hh; exact hne (Nat.eq_of_beq_eq_true hh), cond_false] at hvis
          exact (Option.some.inj hvis).symm
        have hmxs : cap = unk → mx ≠ none := by
          intro hcu hmx
          subst hcu hmx
          rw [show Nat.beq unk unk = true from Nat.beq_refl _] at hk'
          cases hk'
        -- no room at all
        have zero : ∀ {vw : Vw} {q : Addr}, ι o = some vw → vis = 0 → len = 0 → ∃ v', VR ι (.slice (some ⟨o, bif Nat.beq r.2.2 r.1 then off else off + r.1 * m, none⟩) (r.2.1 - r.1) (r.2.2 - r.1)) v' ∧ (Instr.sliceAt ty (.slice (some q) len 0) lo' hi' mx').run P w = .ok v' w := by
          intro vw q hvw hv0 hl0
          have e0 : r.2.2 = 0 := by omega
          have e1 : r.2.1 = 0 := by
            by_cases hn : hi = none
            · rw [(b2 hn).2]; exact hl0
            · have := b3 hn; omega
          have e2 : r.1 = 0 := by omega
          rw [run (by omega), e0, e1, e2]
          refine ⟨.slice (some q) 0 0, .sl0 hvw (.inr rfl), ?_⟩
          cases mx <;> simp
        cases hx with
        | flat hf => simp [flat, flatN] at hf
        | slc hw1 hne => exact fin hw1 (by rw [hseen hne]; exact Nat.le_refl _) (fun _ => (hseen hne).symm)
        | @slu _ _ _ c w1 hw1 hc hl =>
          obtain ⟨cs, hg, he, hvv⟩ : ∃ cs, h.get o = some (.cells cs e .grow) ∧ 0 < m ∧ vis = (cs.length - off) / m := by
            simp only [seen] at hvis
            rw [show Nat.beq unk unk = true from Nat.beq_refl unk, cond_true] at hvis
            split at hvis
            · rename_i cs e' hg
              obtain ⟨hc, hvi2⟩ := cond_some hvis
              rw [Bool.and_eq_true] at hc
              obtain rfl := Nat.eq_of_beq_eq_true hc.1
              exact ⟨cs, hg, by simpa using hc.2, (Option.some.inj hvi2).symm⟩
            · cases hvis
          obtain ⟨_, vw, hvw, _, c', e'', fr, hbl, _, _, hgr⟩ := R.live o _ hg
          obtain ⟨g1, g2, g3, g4⟩ := hgr rfl
          rw [hm] at g2
          obtain rfl := Option.some.inj g2
          rw [hvw] at hw1
          obtain rfl := Option.some.inj hw1
          have hmul : vis * vw.esz ≤ cs.length - off := by rw [hvv]; exact Nat.div_mul_le_self _ _
          have hvc : vis ≤ c := by
            rcases Nat.eq_zero_or_pos vis with h0 | h0
            · omega
            · have h5 : vis * vw.esz ≤ c * vw.esz := by
                have : 0 < vis * vw.esz := Nat.mul_pos h0 g3
                omega
              exact Nat.le_of_mul_le_mul_right h5 g3
          exact fin hvw hvc (fun hm => absurd hm (hmxs rfl))
        | @sl0 _ _ w1 q cap hw1 hc =>
          refine zero hw1 ?_ rfl
          rcases hc with ⟨rfl, hbf⟩ | rfl
          · simp only [seen] at hvis
            rw [show Nat.beq unk unk = true from Nat.beq_refl unk, cond_true] at hvis
            split at hvis
            · rename_i cs e' hg
              obtain ⟨_, hvi2⟩ := cond_some hvis
              obtain ⟨_, vw, hvw, _, c', e'', fr, hbl, _, _, hgr⟩ := R.live o _ hg
              obtain ⟨g1, g2, g3, g4⟩ := hgr rfl
              rw [hvw] at hw1
              obtain rfl := Option.some.inj hw1
              have : cs.length - off = 0 := by omega
              rw [← Option.some.inj hvi2, this]; simp
            · cases hvis
          · exact hseen (by decide)
    · cases hv
  · rename_i len e o off hu
    obtain ⟨m, hm, hv⟩ := Option.bind_eq_some_iff.1 hv
    obtain ⟨r, hb, hv⟩ := Option.bind_eq_some_iff.1 hv
    obtain ⟨b1, b2, b3, b4, b5⟩ := bounds_some hb
    obtain ⟨hmu, hv⟩ := cond_some hv
    obtain rfl := Option.some.inj hv
    have hmu' : r.2.2 < unk := by simpa using hmu
    cases hx with
    | flat hf => simp [flat, flatN] at hf
    | @ptr _ _ vw hvw =>
      have em : (if mx.isSome = true then r.2.2 else len) = r.2.2 := by
        cases mx with
        | none => simp; rw [b4 rfl]
        | some _ => rfl
      have hne : r.2.2 - r.1 ≠ unk := by omega
      have run : (Instr.sliceAt ty (.pointer (some ⟨vw.blk, vw.base + off, none⟩)) lo' hi' mx').run P w = .ok (.slice (some (if r.2.2 = r.1 then ⟨vw.blk, vw.base + off, none⟩ else (⟨vw.blk, vw.base + off, none⟩ : Addr).add (r.1 * m))) (r.2.1 - r.1) (r.2.2 - r.1)) w := by
        unfold Instr.sliceAt
        simp only [Sem.run_bind, run_underlying hu, Result.andThen_ok, Instr.sureAddr, Sem.run_pure, run_bounds hb (Nat.le_refl _) h1 h2 h3, run_size hm, em]
      rw [run]
      refine ⟨_, ?_, rfl⟩
      by_cases hml : r.2.2 = r.1
      · rw [if_pos hml, hml, show Nat.beq r.1 r.1 = true from Nat.beq_refl _]
        have := VR.slc (off := off) (len := r.2.1 - r.1) (cap := r.2.2 - r.1) hvw hne
        rw [hml] at this
        exact this
      · rw [if_neg hml, show Nat.beq r.2.2 r.1 = false from by rw [Bool.eq_false_iff]; intro hh; exact hml (Nat.eq_of_beq_eq_true hh), add_none]
        simp only [cond_false]
        have := VR.slc (off := off + r.1 * m) (len := r.2.1 - r.1) (cap := r.2.2 - r.1) hvw hne
        rwa [← Nat.add_assoc] at this
  · cases hv

theorem stepRead_sound {o : Oper} {v : Value} {ids : List Nat} (hs : stepRead P t o h = some (v, ids)) : ∃ v', VR ι v v' ∧ (execOp a.eval o).run P w = .ok (.value v') w := by
  obtain ⟨dst, op, ty, pos, af, gu⟩ := o
  cases op with
  | load t' x =>
    simp only [stepRead] at hs
    obtain ⟨xv, hx, hs⟩ := Option.bind_eq_some_iff.1 hs
    have hxv := opv_sound R.glob hr hx
    split at hs
    · rename_i b off
      generalize hex : a.eval x = ex at hxv
      cases hxv with
      | flat hf => simp [flat, flatN] at hf
      | @ptr _ _ vw hvw =>
        obtain ⟨v', h1, h2⟩ := load_sound hr R (ty := t') (off := off) (v := v) hvw (by
          obtain ⟨ag, hag, hs⟩ := Option.bind_eq_some_iff.1 hs
          rw [hag]
          cases ag with
          | true =>
            obtain ⟨m, hm, hs⟩ := Option.bind_eq_some_iff.1 hs
            obtain ⟨l, hl, hs⟩ := Option.bind_eq_some_iff.1 hs
            injection hs with hs
            injection hs with hs _
            subst hs
            simp [hm, hl]
          | false =>
            obtain ⟨l, hl, hs⟩ := Option.bind_eq_some_iff.1 hs
            injection hs with hs
            injection hs with hs _
            subst hs
            simp [hl])
        refine ⟨v', h1, ?_⟩
        simp only [execOp, Instr.loadAt]
        refine run_value ?_
        rw [hex]
        simp only [Instr.sureAddr, Sem.run_bind, Sem.run_pure, Result.andThen_ok, h2]
    · cases hs
  | slice t' x lo hi mx =>
    simp only [stepRead] at hs
    obtain ⟨xv, hx, hs⟩ := Option.bind_eq_some_iff.1 hs
    have hxv := opv_sound R.glob hr hx
    split at hs
    · obtain ⟨r, hf, he⟩ := Option.map_eq_some_iff.1 hs
      injection he with he _
      subst he
      obtain ⟨f1, f2⟩ := flatRun_sound R.glob hr (fun _ _ hh => by cases hh) hf
      exact ⟨_, .flat f1, f2 w⟩
    · obtain ⟨l, hl, hs⟩ := Option.bind_eq_some_iff.1 hs
      obtain ⟨m, hm, hs⟩ := Option.bind_eq_some_iff.1 hs
      obtain ⟨q, hq, hs⟩ := Option.bind_eq_some_iff.1 hs
      obtain ⟨r, hv, hs⟩ := Option.bind_eq_some_iff.1 hs
      injection hs with hs
      injection hs with hs _
      subst hs
      obtain ⟨v', h1, h2⟩ := sliceV_sound hr R hxv (opq_sound hr R hl) (opq_sound hr R hm) (opq_sound hr R hq) hv
      refine ⟨v', h1, ?_⟩
      simp only [execOp]
      exact run_value h2
  | _ => cases hs
end
end Go.Ev
