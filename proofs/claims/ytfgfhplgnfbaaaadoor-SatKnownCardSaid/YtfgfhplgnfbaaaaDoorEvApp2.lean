/- The evaluator's append is the model's: both arms. -/
import Derived.Test.YtfgfhplgnfbaaaaDoorEvApp
namespace Go.Ev
open Go

theorem isGrow_eq {m : Md} (h : isGrow m = true) : m = .grow := by cases m <;> first | rfl | cases h

section
variable {P : Program} {ι : Inj} {h h' : Hp} {w : World} (R : RH P ι h w)
include R

theorem appNew_sound {e : TypeId} {bytes esz m g : Nat} {old xs old' xs' : List Value} {z v : Value} (hsz : sz P e = some esz) (hpos : 0 < esz) (hz : z.cells.size = esz) (ho : VRs ι old old') (hx : VRs ι xs xs') (h1 : old.all Ev.one = true) (h2 : xs.all Ev.one = true)
    (hl : old.length + xs.length = m * esz) (hg : m ≤ g) (hv : appNew h e bytes old xs m = some (v, h')) :
    ∃ ι', Went P h ι w h' ι' (w.drew.alloc (.cells ((old' ++ xs').toArray ++ Builtin.zeroCells z.cells (g - m)) e)) ∧ VR ι' v (.slice (some ⟨w.heap.size, 0, none⟩) m g) ∧ (m + m) * bytes ≤ 281474976710656 ∧ m < unk ∧ ι' = ι.set h.nx ⟨w.heap.size, 0, g * esz, esz⟩ ∧ h' = h.add (.cells (old ++ xs) e .grow) := by
  unfold appNew at hv
  obtain ⟨hb, hv⟩ := cond_some hv
  rw [Bool.and_eq_true] at hb
  injection hv with hv
  injection hv with hv1 hv2
  subst hv1 hv2
  have hlen : ((old' ++ xs').toArray ++ Builtin.zeroCells z.cells (g - m)).size = g * esz := by
    simp only [Array.size_append, List.size_toArray, size_zeroCells, hz, List.length_append, ho.1, hx.1, hl]
    rw [← Nat.add_mul]; congr 1; omega
  refine ⟨ι.set h.nx ⟨w.heap.size, 0, g * esz, esz⟩, (Went.drew R).trans ?_, VR.slu (off := 0) (Inj.set_same ..) (by simp) hg, Nat.le_of_ble_eq_true hb.1, by simpa using hb.2, rfl, rfl⟩
  refine Went.add (R.world (w' := w.drew) rfl) rfl ⟨by rw [List.all_append, h1, h2]; rfl, _, e, (0, 0), by rw [alloc_get]; exact if_pos rfl, fun j x hj => ?_, fun _ => rfl, fun _ => ⟨hlen.symm, hsz, hpos, ?_⟩⟩
  · have hj' : j < (old' ++ xs').length := by
      have := (List.getElem?_eq_some_iff.1 hj).1
      simp [ho.1, hx.1] at this ⊢; omega
    refine ⟨(old' ++ xs')[j], ?_, ?_⟩
    · rw [Nat.zero_add, Array.getElem?_append, if_pos (by simpa using hj')]
      simp
    · refine VR.mono (Inj.set_mono (R.fresh _ (Nat.le_refl _))) ?_
      have hboth : VRs ι (old ++ xs) (old' ++ xs') := ⟨by simp [ho.1, hx.1], fun i u v hu hv => by
        rw [List.getElem?_append] at hu hv
        rw [ho.1] at hv
        split at hu
        · rename_i hi; rw [if_pos hi] at hv; exact ho.2 i u v hu hv
        · rename_i hi; rw [if_neg hi] at hv; exact hx.2 _ u v hu hv⟩
      exact hboth.2 j _ _ hj (List.getElem?_eq_getElem hj')
  · simp only [Nat.zero_add, List.length_append, hl]
    exact Nat.mul_le_mul_right _ hg

theorem appSome_sound {t tx e : TypeId} {i : TypeInfo} {z : Value} (_ht : P.underlying t = some (.slice e)) (hi : P.info? e = some i) (_hz : i.zero = some z) (hpos : i.size ≠ 0) (hzs : z.cells.size = i.size)
    {s s' x' v : Value} {xs xs' : List Value} {n : Nat} (hn : n ≠ 0) (hs : VR ι s s') (hxs : VRs ι xs xs') (hone : xs.all Ev.one = true) (hA : AppSrc P t tx e i z x' n xs' w)
    (hv : appSome h e i.bytes i.size s xs n = some (v, h')) (ty : TypeId) :
    ∃ ι' v' w', (Builtin.append_ #[t, tx] ty #[s', x']).run P w = .ok v' w' ∧ Went P h ι w h' ι' w' ∧ VR ι' v v' := by
  have hsz : sz P e = some i.size := by unfold sz; rw [hi]; rfl
  have hxl : xs.length = n * i.size := by rw [← hxs.1, hA.len]
  have hu : unk = 4611686018427387904 := rfl
  -- a new row
  have grow : ∀ {base : Option Addr} {len cap : Nat} {old old' : List Value}, VRs ι old old' → old.all Ev.one = true → old.length = len * i.size → (Builtin.firstCells i.size len (.slice base len cap)).run P w.drew = .ok old'.toArray w.drew → cap < len + n →
      ∀ {v h'}, appNew h e i.bytes old xs (len + n) = some (v, h') → ∃ ι' v' w', (Builtin.append_ #[t, tx] ty #[.slice base len cap, x']).run P w = .ok v' w' ∧ Went P h ι w h' ι' w' ∧ VR ι' v v' ∧ h' = h.add (.cells (old ++ xs) e .grow) := by
    intro base len cap old old' ho h1 hl hf hg v h' hnew
    obtain ⟨ι', g1, g2, g3, g4, _, g5⟩ := appNew_sound R (g := grownCap w (len + n) cap e) hsz (Nat.pos_of_ne_zero hpos) hzs ho hxs h1 hone (by rw [hl, hxl, Nat.add_mul]) (grownCap_ge w (len + n) cap e) hnew
    have hle := nextslicecap_le hg
    have hfit : Builtin.nextslicecap (len + n) cap * i.bytes ≤ 281474976710656 := Nat.le_trans (Nat.mul_le_mul_right _ hle) (by rw [Nat.two_mul]; exact g3)
    exact ⟨ι', _, _, hA.grow ty base len cap old' hf hg (by omega) hfit, g1, g2, g5⟩
  -- in place
  have place : ∀ {o off len cap c : Nat} {vw : Vw}, ι o = some vw → len + n ≤ c → ∀ {h'}, writeAt h o (off + len * i.size) xs = some h' → ∃ w', (Builtin.append_ #[t, tx] ty #[.slice (some ⟨vw.blk, vw.base + off, none⟩) len c, x']).run P w = .ok (.slice (some ⟨vw.blk, vw.base + off, none⟩) (len + n) c) w' ∧ Went P h ι w h' ι w' := by
    intro o off len cap c vw hvw hroom h' hw
    obtain ⟨r1, r2, r3, r4, r5, r6, r7, r8⟩ := R.write hw hvw hxs
    refine ⟨_, hA.room ty vw.blk (vw.base + off) len c hroom (fun j hj => ?_) (fun j hj => ?_), ?_⟩
    · have := r5 j hj; rwa [← Nat.add_assoc] at this
    · have := r6 j hj; rwa [← Nat.add_assoc] at this
    · have := Went.write R hw hvw hxs; rwa [← Nat.add_assoc] at this
  unfold appSome at hv
  split at hv
  · -- nil
    obtain rfl := hs.of_flat rfl
    obtain ⟨ι', v', w', g1, g2, g3, _⟩ := grow (base := none) (len := 0) (cap := 0) (old := []) (old' := []) (.nil ι) rfl (by simp) (run_firstCells_zero _ _ _ _) (by omega) (by rw [Nat.zero_add]; exact hv)
    exact ⟨ι', v', w', g1, g2, g3⟩
  · rename_i o off len cap
    split at hv
    · rename_i c e' m hg
      obtain ⟨_, vwo, hvwo, hbl⟩ := R.live o _ hg
      by_cases hc : Nat.beq cap unk = true
      · rw [hc, cond_true] at hv
        obtain ⟨hk, hvA⟩ := cond_some hv
        clear hv
        rw [Bool.and_eq_true] at hk
        obtain rfl := Nat.eq_of_beq_eq_true hk.1
        obtain rfl := isGrow_eq hk.2
        obtain rfl := Nat.eq_of_beq_eq_true hc
        clear hk hc
        obtain ⟨hco, c', e'', fr, hb, hcells, _, hgr⟩ := hbl
        obtain ⟨g1, g2, g3, g4⟩ := hgr rfl
        rw [hsz] at g2
        obtain g2 := Option.some.inj g2
        by_cases hr : Nat.ble (off + (len + n) * i.size) c.length = true
        · -- the cells are there
          rw [hr, cond_true] at hvA
          have hr := Nat.le_of_ble_eq_true hr
          obtain ⟨h1, hw, hh⟩ := Option.map_eq_some_iff.1 hvA
          injection hh with hh1 hh2
          subst hh1 hh2
          have hmul : 0 < (len + n) * i.size := Nat.mul_pos (by omega) (Nat.pos_of_ne_zero hpos)
          cases hs with
          | flat hf => simp [flat, flatN] at hf
          | slc _ hne => exact absurd rfl hne
          | @slu _ _ _ c0 vw hvw hcc hll =>
            rw [hvw] at hvwo
            obtain rfl := Option.some.inj hvwo
            have hroom : len + n ≤ c0 := by
              have : (len + n) * i.size ≤ c0 * i.size := by rw [← g2] at hcc; omega
              exact Nat.le_of_mul_le_mul_right this (Nat.pos_of_ne_zero hpos)
            obtain ⟨w', p1, p2⟩ := place (cap := 0) hvw hroom hw
            exact ⟨ι, _, w', p1, p2, .slu hvw hcc hroom⟩
          | sl0 hvw hcc =>
            rw [hvw] at hvwo
            obtain rfl := Option.some.inj hvwo
            rcases hcc with ⟨_, hcc⟩ | hcc
            · omega
            · exact absurd hcc (by decide)
        · rw [Bool.not_eq_true _ |>.mp hr, cond_false] at hvA
          obtain ⟨he, hvB⟩ := cond_some hvA
          have he := Nat.eq_of_beq_eq_true he
          obtain ⟨⟨v1, h1⟩, hnew, hvC⟩ := Option.bind_eq_some_iff.1 hvB
          obtain ⟨h2, hp, hh⟩ := Option.map_eq_some_iff.1 hvC
          clear hvA hvB hvC
          injection hh with hh1 hh2
          subst hh1 hh2
          have hdl : (c.drop off).length = len * i.size := by simp; omega
          have hdone : (c.drop off).all Ev.one = true := List.all_eq_true.2 fun x hx => List.all_eq_true.1 hco x (List.mem_of_mem_drop hx)
          have hread : readAt h o off (len * i.size) = some (c.drop off) := by
            unfold readAt
            rw [hg]
            have : (c.drop off).take (len * i.size) = c.drop off := List.take_of_length_le (by omega)
            simp only [this, hdl, show Nat.beq (len * i.size) (len * i.size) = true from Nat.beq_refl _, cond_true]
          -- the model's row is full
          have full : ∀ {c0 : Nat} {a : Addr}, s' = .slice (some a) len c0 → c0 < len + n → (∀ l', VRs ι (c.drop off) l' → True) → (∃ l', VRs ι (c.drop off) l' ∧ (Builtin.firstCells i.size len (.slice (some a) len c0)).run P w.drew = .ok l'.toArray w.drew) →
              ∃ ι' v' w', (Builtin.append_ #[t, tx] ty #[s', x']).run P w = .ok v' w' ∧ Went P h ι w h2 ι' w' ∧ VR ι' v1 v' := by
            intro c0 a hs' hg0 _ ⟨l', hl', hf⟩
            subst hs'
            obtain ⟨ι', v', w', k1, k2, k3, _⟩ := grow (base := some a) hl' hdone hdl hf hg0 hnew
            exact ⟨ι', v', w', k1, k2.trans (Went.drop k2.rh hp), k3⟩
          obtain ⟨a, c0, l', rfl, q1, q2, q3⟩ := slice_cells R hs hread
          have hf : (Builtin.firstCells i.size len (.slice (some a) len c0)).run P w.drew = .ok l'.toArray w.drew := run_firstCells_some w.drew i.size len a len c0 l' q2 (by simpa using q3)
          by_cases hroom : c0 < len + n
          · exact full rfl hroom (fun _ _ => trivial) ⟨l', q1, hf⟩
          · -- there is room behind what is known
            cases hs with
            | flat hff => exact Bool.noConfusion (show false = true from hff)
            | slc _ hne => exact absurd rfl hne
            | @slu _ _ _ _ vw hvw hcc hll =>
              rw [hvw] at hvwo
              obtain rfl := Option.some.inj hvwo
              unfold appNew at hnew
              obtain ⟨_, hnew⟩ := cond_some hnew
              injection hnew with hnew
              injection hnew with hn1 hn2
              subst hn1 hn2
              have hroom : len + n ≤ c0 := Nat.le_of_not_lt hroom
              have hmulr : (len + n) * i.size ≤ c0 * i.size := Nat.mul_le_mul_right _ hroom
              rw [Nat.add_mul] at hmulr
              obtain ⟨s1, s2, s3, s4, s5, s6⟩ := setCells_facts vw.blk xs' (vw.base + off + len * i.size) w
              obtain rfl : fr = (0, 0) := ‹Md.grow ≠ Md.ro → fr = (0, 0)› (by simp)
              obtain ⟨c2, t1, t2, t3⟩ := s6 _ _ _ hb
              have hsz2 : vw.base + off + len * i.size + xs'.length ≤ c'.size := by
                rw [hA.len, ← g1]; rw [← g2] at hcc; omega
              have t3 := t3 hsz2
              obtain ⟨p1, p2, p3, p4⟩ := Hp.get_put hp
              have hnx : h.get h.nx = none := by
                cases hh : h.get h.nx with
                | none => rfl
                | some y => exact absurd (R.live _ _ hh).1 (Nat.lt_irrefl _)
              have hon : o ≠ h.nx := fun hh => by rw [hh, hnx] at hg; cases hg
              have hget : ∀ q y, h2.get q = some y → (q = h.nx ∧ y = .cells (c.drop off ++ xs) e .grow) ∨ (q ≠ h.nx ∧ q ≠ o ∧ h.get q = some y) := fun q y hq => by
                rw [p4] at hq
                by_cases hqo : q = o
                · rw [if_pos hqo] at hq
                  split at hq <;> cases hq
                · rw [if_neg hqo, Hp.get_add] at hq
                  by_cases hqn : q = h.nx
                  · rw [if_pos hqn] at hq
                    split at hq
                    · exact .inl ⟨hqn, (Option.some.inj hq).symm⟩
                    · cases hq
                  · rw [if_neg hqn] at hq
                    exact .inr ⟨hqn, hqo, hq⟩
              have nx2 : h2.nx = h.nx + 1 := p1
              have live2 : ∀ q y u, q ≠ o → h.get q = some y → ι q = some u → u.blk ≠ vw.blk := fun q y u hqo hq hu => Ne.symm (R.apart o q _ y vw u (Ne.symm hqo) hg rfl hq hvw hu)
              refine ⟨ι.set h.nx ⟨vw.blk, vw.base + off, vw.fin, i.size⟩, _, _, hA.room ty vw.blk (vw.base + off) len c0 hroom (fun j hj => ?_) (fun j hj => ?_), ⟨fun q hq => Inj.set_other _ _ _ (by omega), ⟨fun q y hq => ?_, fun q r y z vq vr hne hq hy hr hvq hvr => ?_, fun q hq => ?_, fun g hgl => ?_, ?_⟩, ⟨s2, s3, s4, by rw [s1]; exact Nat.le_refl _, fun b hbl hall => ?_⟩, by omega, p2, fun q x hqx hgq => ?_, fun q y hq hy => ?_, fun q y u hq hu => ?_⟩, ?_⟩
              · have : vw.base + off + len * i.size + j < c'.size := by omega
                simp [World.cell?, hb, this]
              · simp [World.frozen?, hb]
              · rcases hget q y hq with ⟨rfl, rfl⟩ | ⟨hqn, hqo, hq⟩
                · refine ⟨by omega, _, Inj.set_same .., by rw [List.all_append, hdone, hone]; rfl, c2, e'', (0, 0), t1, fun j x hj => ?_, fun _ => rfl, fun _ => ⟨by rw [t2]; exact g1, hsz, Nat.pos_of_ne_zero hpos, ?_⟩⟩
                  · have mono : ∀ {a b : Value}, VR ι a b → VR (ι.set h.nx ⟨vw.blk, vw.base + off, vw.fin, i.size⟩) a b := fun hab => hab.mono (Inj.set_mono (R.fresh _ (Nat.le_refl _)))
                    rw [List.getElem?_append, hdl] at hj
                    rw [t3]
                    split at hj
                    · rename_i hjl
                      rw [if_neg (by simp only; omega)]
                      rw [List.getElem?_drop] at hj
                      obtain ⟨y, hy, hyv⟩ := hcells _ _ hj
                      exact ⟨y, by simp only; rw [Nat.add_assoc]; exact hy, mono hyv⟩
                    · rename_i hjl
                      have hjx := (List.getElem?_eq_some_iff.1 hj).1
                      rw [if_pos (by simp only; rw [hxs.1]; omega)]
                      obtain ⟨y, hy, hyv⟩ := hxs.get hj
                      exact ⟨y, by simp only; rw [show vw.base + off + j - (vw.base + off + len * i.size) = j - len * i.size by omega]; exact hy, mono hyv⟩
                  · simp only [List.length_append, hdl, hxl]
                    rw [← g2] at hcc; omega
                · obtain ⟨hl, u, hu, hor⟩ := R.live q y hq
                  exact ⟨by omega, u, by rw [Inj.set_other _ _ _ hqn]; exact hu, hor.of_block (Inj.set_mono (R.fresh _ (Nat.le_refl _))) (s5 _ (live2 q y u hqo hq hu))⟩
              · rcases hget q y hq with ⟨rfl, rfl⟩ | ⟨hqn, hqo, hq⟩
                · rcases hget r z hr with ⟨rfl, rfl⟩ | ⟨hrn, hro, hr⟩
                  · exact absurd rfl hne
                  · rw [Inj.set_same] at hvq
                    rw [Inj.set_other _ _ _ hrn] at hvr
                    obtain rfl := Option.some.inj hvq
                    exact Ne.symm (live2 r z vr hro hr hvr)
                · rw [Inj.set_other _ _ _ hqn] at hvq
                  rcases hget r z hr with ⟨rfl, rfl⟩ | ⟨hrn, hro, hr⟩
                  · rw [Inj.set_same] at hvr
                    obtain rfl := Option.some.inj hvr
                    exact live2 q y vq hqo hq hvq
                  · rw [Inj.set_other _ _ _ hrn] at hvr
                    exact R.apart q r y z vq vr hne hq hy hr hvq hvr
              · rw [Inj.set_other _ _ _ (by omega)]; exact R.fresh q (by omega)
              · obtain ⟨f, e, he⟩ := R.glob g hgl
                exact ⟨f, e, Inj.set_mono (R.fresh _ (Nat.le_refl _)) _ _ he⟩
              · have := R.gsize; omega
              · exact s5 b (Ne.symm (hall o _ vw hg rfl hvw))
              · have hql := (R.live q x hqx).1
                rw [p4, if_neg, Hp.get_add, if_neg (by omega)]
                · exact hqx
                rintro rfl
                have : h.guarded q = false := p3
                rw [this] at hgq; cases hgq
              · rcases hget q y hy with ⟨rfl, _⟩ | ⟨_, _, hq2⟩
                · omega
                · exact ⟨y, hq2⟩
              · rcases hget q y hq with ⟨rfl, rfl⟩ | ⟨hqn, hqo, hq⟩
                · rw [Inj.set_same] at hu
                  obtain rfl := Option.some.inj hu
                  exact .inl ⟨o, _, vw, hg, rfl, hvw, rfl⟩
                · rw [Inj.set_other _ _ _ hqn] at hu
                  exact .inl ⟨q, y, u, hq, rfl, hu, rfl⟩
              · have := VR.slu (ι := ι.set h.nx ⟨vw.blk, vw.base + off, vw.fin, i.size⟩) (off := 0) (len := len + n) (c := c0) (Inj.set_same ..) (by simp only [Nat.add_zero]; rw [← g2] at hcc; exact hcc) hroom
                exact this
            | sl0 hvw hcc => omega
      · rw [Bool.not_eq_true _ |>.mp hc, cond_false] at hv
        have hcu : cap ≠ unk := fun hh => hc (by rw [hh]; exact Nat.beq_refl _)
        by_cases hr : Nat.ble (len + n) cap = true
        · rw [hr, cond_true] at hv
          have hr := Nat.le_of_ble_eq_true hr
          obtain ⟨h1, hw, hh⟩ := Option.map_eq_some_iff.1 hv
          injection hh with hh1 hh2
          subst hh1 hh2
          cases hs with
          | flat hf => simp [flat, flatN] at hf
          | slc hvw hne =>
            obtain ⟨w', p1, p2⟩ := place (cap := 0) hvw hr hw
            exact ⟨ι, _, w', p1, p2, .slc hvw hne⟩
          | slu => exact absurd rfl hcu
          | sl0 hvw hcc => rcases hcc with ⟨h0, _⟩ | h0; exact absurd h0 hcu; omega
        · rw [Bool.not_eq_true _ |>.mp hr, cond_false] at hv
          have hr : ¬ (len + n ≤ cap) := fun hh => hr (Nat.ble_eq_true_of_le hh)
          obtain ⟨old, hold, hv⟩ := Option.bind_eq_some_iff.1 hv
          obtain ⟨a, c0, l', rfl, q1, q2, q3⟩ := slice_cells R hs hold
          have hc0 : c0 = cap ∨ c0 = 0 := by
            cases hs with
            | flat hf => simp [flat, flatN] at hf
            | slc => exact .inl rfl
            | slu => exact absurd rfl hcu
            | sl0 => exact .inr rfl
          have hf : (Builtin.firstCells i.size len (.slice (some a) len c0)).run P w.drew = .ok l'.toArray w.drew := run_firstCells_some w.drew i.size len a len c0 l' q2 (by simpa using q3)
          have hoo : old.all Ev.one = true := by
            obtain ⟨_, _, _, _, _, _, _, h4⟩ := (⟨0, 0, 0, 0, 0, 0, 0, (R.read hold hvwo).choose_spec.2.2.2⟩ : ∃ _ _ _ _ _ _ _ : Nat, old.all Ev.one = true)
            exact h4
          obtain ⟨ι', v', w', k1, k2, k3, _⟩ := grow (base := some a) q1 hoo (by rw [← q1.1, q2]) hf (by omega) hv
          exact ⟨ι', v', w', k1, k2, k3⟩
    · cases hv
  · cases hv
end
end Go.Ev
