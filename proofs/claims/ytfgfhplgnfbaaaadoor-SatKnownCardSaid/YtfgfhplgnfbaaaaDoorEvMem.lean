/- The evaluator's memory and the model's. -/
import Derived.Test.YtfgfhplgnfbaaaaDoorEvPure5
import Derived.Deep.AppendSrc
import Derived.Deep.MidRow
namespace Go.Ev
open Go

/-! ### cells that are stored -/
theorem one_eq (v : Value) : v.oneCell' = one v := by cases v <;> rfl
theorem setCell_heap_same {w : World} {b o : Nat} {v : Value} {c : Array Value} {e : TypeId} {fr : Nat × Nat} (h : w.heap[b]? = some (.cells c e fr)) :
    (w.setCell ⟨b, o, none⟩ v).heap[b]? = some (.cells (c.setIfInBounds o v) e fr) := by
  simp [World.setCell, Array.getElem?_modify, h]
theorem setCell_heap_other {w : World} {b o q : Nat} {v : Value} (h : q ≠ b) : (w.setCell ⟨b, o, none⟩ v).heap[q]? = w.heap[q]? := by
  simp [World.setCell, Array.getElem?_modify, Ne.symm h]
theorem setCells_facts (b : Nat) : ∀ (vs : List Value) (o : Nat) (w : World), (w.setCells b o vs).heap.size = w.heap.size ∧ (w.setCells b o vs).tape = w.tape ∧ (w.setCells b o vs).os = w.os ∧ (w.setCells b o vs).output = w.output ∧
    (∀ q, q ≠ b → (w.setCells b o vs).heap[q]? = w.heap[q]?) ∧
    ∀ c e fr, w.heap[b]? = some (.cells c e fr) → ∃ c', (w.setCells b o vs).heap[b]? = some (.cells c' e fr) ∧ c'.size = c.size ∧ (o + vs.length ≤ c.size → ∀ i, c'[i]? = if o ≤ i ∧ i < o + vs.length then vs[i - o]? else c[i]?) := by
  intro vs
  induction vs with
  | nil => intro o w; exact ⟨rfl, rfl, rfl, rfl, fun _ _ => rfl, fun c e fr h => ⟨c, h, rfl, fun _ i => by rw [if_neg (by simp)]⟩⟩
  | cons v vs ih =>
    intro o w
    obtain ⟨h1, h2, h3, h4, h5, h6⟩ := ih (o + 1) (w.setCell ⟨b, o, none⟩ v)
    refine ⟨by rw [World.setCells, h1]; simp [World.setCell], by rw [World.setCells, h2]; rfl, by rw [World.setCells, h3]; rfl, by rw [World.setCells, h4]; rfl, fun q hq => by rw [World.setCells, h5 q hq]; exact setCell_heap_other hq, fun c e fr h => ?_⟩
    obtain ⟨c', g1, g2, g3⟩ := h6 _ _ _ (setCell_heap_same (o := o) (v := v) h)
    refine ⟨c', by rw [World.setCells]; exact g1, by rw [g2]; simp, fun hl i => ?_⟩
    have hl' : o + (vs.length + 1) ≤ c.size := by simpa using hl
    rw [g3 (by simp; omega) i]
    by_cases h0 : i = o
    · subst h0
      rw [if_neg (by omega), if_pos ⟨Nat.le_refl _, by simp⟩, Nat.sub_self]
      simp [show i < c.size by omega]
    · by_cases hi : o + 1 ≤ i ∧ i < o + 1 + vs.length
      · rw [if_pos hi, if_pos ⟨by omega, by simp; omega⟩, show i - o = (i - (o + 1)) + 1 by omega]
        rfl
      · rw [if_neg hi, if_neg (by simp; omega)]
        simp [Ne.symm h0]

/-! ### the relation -/
def Ob.wr : Ob → Bool
  | .cells _ _ .ro => false
  | _ => true

def OR (P : Program) (ι : Inj) (v : Vw) (x : Ob) (w : World) : Prop := match x with
  | .cells c e m => c.all one = true ∧ ∃ c' e' fr, w.heap[v.blk]? = some (.cells c' e' fr) ∧ (∀ (j : Nat) x, c[j]? = some x → ∃ y, c'[v.base + j]? = some y ∧ VR ι x y) ∧
      (m ≠ .ro → fr = (0, 0)) ∧ (m = .grow → v.fin = c'.size ∧ sz P e = some v.esz ∧ 0 < v.esz ∧ v.base + c.length ≤ v.fin)
  | .siter s pos => v.base = 0 ∧ w.heap[v.blk]? = some (.stringIter s pos)

structure RH (P : Program) (ι : Inj) (h : Hp) (w : World) : Prop where
  live : ∀ o x, h.get o = some x → o < h.nx ∧ ∃ v, ι o = some v ∧ OR P ι v x w
  apart : ∀ o q x y vo vq, o ≠ q → h.get o = some x → x.wr = true → h.get q = some y → ι o = some vo → ι q = some vq → vo.blk ≠ vq.blk
  fresh : ∀ o, h.nx ≤ o → ι o = none
  glob : GR P ι
  gsize : P.globals.size ≤ h.nx

/-- What is not one's own is not touched. -/
structure Fr' (h : Hp) (ι : Inj) (w w' : World) : Prop where
  tape : w'.tape = w.tape
  os : w'.os = w.os
  output : w'.output = w.output
  size : w.heap.size ≤ w'.heap.size
  rest : ∀ b, b < w.heap.size → (∀ o x v, h.get o = some x → x.wr = true → ι o = some v → v.blk ≠ b) → w'.heap[b]? = w.heap[b]?

def Ext (n : Nat) (ι ι' : Inj) : Prop := ∀ o, o < n → ι' o = ι o
theorem Ext.refl (n : Nat) (ι : Inj) : Ext n ι ι := fun _ _ => rfl
theorem RH.mono_of {P : Program} {ι ι' : Inj} {h : Hp} {w : World} (R : RH P ι h w) (E : Ext h.nx ι ι') : ∀ o v, ι o = some v → ι' o = some v := fun o v ho => by
  rcases Nat.lt_or_ge o h.nx with hl | hl
  · rw [E o hl]; exact ho
  · rw [R.fresh o hl] at ho; cases ho

theorem OR.block {P : Program} {ι : Inj} {v : Vw} {x : Ob} {w : World} (h : OR P ι v x w) : v.blk < w.heap.size := by
  cases x with
  | cells c e m => obtain ⟨_, c', e', fr, hb, _⟩ := h; exact (Array.getElem?_eq_some_iff.1 hb).1
  | siter s pos => exact (Array.getElem?_eq_some_iff.1 h.2).1
theorem OR.of_block {P : Program} {ι ι' : Inj} (hm : ∀ o v, ι o = some v → ι' o = some v) {v : Vw} {x : Ob} {w w' : World} (h : OR P ι v x w) (hb : w'.heap[v.blk]? = w.heap[v.blk]?) : OR P ι' v x w' := by
  cases x with
  | cells c e m =>
    obtain ⟨ho, c', e', fr, h1, h2, h3⟩ := h
    exact ⟨ho, c', e', fr, by rw [hb]; exact h1, fun j x hx => let ⟨y, hy, hv⟩ := h2 j x hx; ⟨y, hy, hv.mono hm⟩, h3⟩
  | siter s pos => exact ⟨h.1, by rw [hb]; exact h.2⟩

theorem readAt_some {h : Hp} {o off n : Nat} {l : List Value} (hr : readAt h o off n = some l) : ∃ c e m, h.get o = some (.cells c e m) ∧ l = (c.drop off).take n ∧ l.length = n := by
  unfold readAt at hr
  split at hr
  · rename_i c e m hg
    obtain ⟨h1, h2⟩ := cond_some hr
    obtain rfl := Option.some.inj h2
    exact ⟨c, e, m, hg, rfl, Nat.eq_of_beq_eq_true h1⟩
  · cases hr

/-- What is read is there. -/
theorem RH.read {P : Program} {ι : Inj} {h : Hp} {w : World} (R : RH P ι h w) {o off n : Nat} {l : List Value} (hr : readAt h o off n = some l) {v : Vw} (hv : ι o = some v) :
    ∃ l', VRs ι l l' ∧ (∀ (j : Nat) x, l'[j]? = some x → w.cell? (⟨v.blk, v.base + off + j, none⟩ : Addr) = some x) ∧ l'.length = n ∧ l.all one = true := by
  obtain ⟨c, e, m, hg, rfl, hl⟩ := readAt_some hr
  obtain ⟨_, v', hv', ho, c', e', fr, hb, hc, _⟩ := R.live o _ hg
  rw [hv] at hv'
  obtain rfl := Option.some.inj hv'
  have hin : ∀ j, j < n → ∃ x y, ((c.drop off).take n)[j]? = some x ∧ c'[v.base + off + j]? = some y ∧ VR ι x y := by
    intro j hj
    have hx : ((c.drop off).take n)[j]? = some (((c.drop off).take n)[j]'(by omega)) := List.getElem?_eq_getElem _
    have hx2 := hx
    rw [List.getElem?_take, if_pos hj, List.getElem?_drop] at hx2
    obtain ⟨y, hy, hvy⟩ := hc _ _ hx2
    exact ⟨_, y, hx, by rw [Nat.add_assoc]; exact hy, hvy⟩
  refine ⟨(List.range n).map fun j => c'.getD (v.base + off + j) undef, ⟨by simp [hl], fun i x y hx hy => ?_⟩, fun j x hx => ?_, by simp, List.all_eq_true.2 fun x hx => List.all_eq_true.1 ho x (List.mem_of_mem_drop (List.mem_of_mem_take hx))⟩
  · rw [List.getElem?_map] at hy
    obtain ⟨k, hk, rfl⟩ := Option.map_eq_some_iff.1 hy
    have hi : i < n := by have := (List.getElem?_eq_some_iff.1 hx).1; omega
    rw [List.getElem?_range hi] at hk
    obtain rfl := Option.some.inj hk
    obtain ⟨x', y', h1, h2, h3⟩ := hin i hi
    rw [h1] at hx
    obtain rfl := Option.some.inj hx
    simpa [Array.getD_eq_getD_getElem?, h2] using h3
  · rw [List.getElem?_map] at hx
    obtain ⟨k, hk, rfl⟩ := Option.map_eq_some_iff.1 hx
    have hj : j < n := by
      rcases Nat.lt_or_ge j n with h | h
      · exact h
      · rw [List.getElem?_eq_none (by simpa using h)] at hk; cases hk
    rw [List.getElem?_range hj] at hk
    obtain rfl := Option.some.inj hk
    obtain ⟨x', y', h1, h2, h3⟩ := hin j hj
    simp [World.cell?, hb, Array.getD_eq_getD_getElem?, h2]

theorem writeAt_some {h h' : Hp} {o off : Nat} {vs : List Value} (hw : writeAt h o off vs = some h') : ∃ c e m, h.get o = some (.cells c e m) ∧ m ≠ .ro ∧ off + vs.length ≤ c.length ∧ vs.all one = true ∧ h.put o (some (.cells (putAt c off vs) e m)) = some h' := by
  unfold writeAt at hw
  split at hw
  · rename_i c e m hg
    have k : ∀ m, (bif Nat.ble (off + vs.length) c.length && vs.all one then h.put o (some (.cells (putAt c off vs) e m)) else none) = some h' → off + vs.length ≤ c.length ∧ vs.all one = true ∧ h.put o (some (.cells (putAt c off vs) e m)) = some h' := by
      intro m hw
      obtain ⟨h1, h2⟩ := cond_some hw
      rw [Bool.and_eq_true] at h1
      exact ⟨Nat.le_of_ble_eq_true h1.1, h1.2, h2⟩
    cases m with
    | ro => cases hw
    | fix => exact ⟨c, e, .fix, hg, by simp, k _ hw⟩
    | grow => exact ⟨c, e, .grow, hg, by simp, k _ hw⟩
  · cases hw
theorem putAt_one {c vs : List Value} {off : Nat} (hc : c.all one = true) (hv : vs.all one = true) (hl : off + vs.length ≤ c.length) : (putAt c off vs).all one = true :=
  List.all_eq_true.2 fun x hx => by
    obtain ⟨i, hi⟩ := List.getElem?_of_mem hx
    rw [putAt_get c off vs hl] at hi
    split at hi
    · exact all_get hv hi
    · exact all_get hc hi

/-- What is written. -/
theorem RH.write {P : Program} {ι : Inj} {h h' : Hp} {w : World} (R : RH P ι h w) {o off : Nat} {vs vs' : List Value} (hw : writeAt h o off vs = some h') {v : Vw} (hv : ι o = some v) (hvs : VRs ι vs vs') :
    RH P ι h' (w.setCells v.blk (v.base + off) vs') ∧ Fr' h ι w (w.setCells v.blk (v.base + off) vs') ∧ h'.nx = h.nx ∧ h'.gd = h.gd ∧
    (∀ j, j < vs'.length → (w.cell? ⟨v.blk, v.base + off + j, none⟩).isSome = true) ∧ (∀ j, j < vs'.length → w.frozen? ⟨v.blk, v.base + off + j, none⟩ = false) ∧ (∀ u ∈ vs', u.oneCell' = true) ∧
    (∀ q, h.guarded q = true → h'.get q = h.get q) := by
  obtain ⟨c, e, m, hg, hm, hl, hone, hp⟩ := writeAt_some hw
  obtain ⟨p1, p2, p3, p4⟩ := Hp.get_put hp
  obtain ⟨hlt, v', hv', ho, c', e', fr, hb, hc, hfr, hgr⟩ := R.live o _ hg
  rw [hv] at hv'
  obtain rfl := Option.some.inj hv'
  obtain rfl := hfr hm
  obtain ⟨s1, s2, s3, s4, s5, s6⟩ := setCells_facts v.blk vs' (v.base + off) w
  obtain ⟨c2, g1, g2, g3⟩ := s6 _ _ _ hb
  have hin : ∀ j, j < vs'.length → ∃ y, c'[v.base + (off + j)]? = some y := by
    intro j hj
    have hj' : off + j < c.length := by rw [hvs.1] at hj; omega
    obtain ⟨y, hy, _⟩ := hc (off + j) _ (List.getElem?_eq_getElem hj')
    exact ⟨y, hy⟩
  have hsz : v.base + off + vs'.length ≤ c'.size ∨ vs' = [] := by
    cases vs' with
    | nil => exact .inr rfl
    | cons u r =>
      obtain ⟨y, hy⟩ := hin r.length (by simp)
      have := (Array.getElem?_eq_some_iff.1 hy).1
      left; simp; omega
  have hget : ∀ i, c2[i]? = if v.base + off ≤ i ∧ i < v.base + off + vs'.length then vs'[i - (v.base + off)]? else c'[i]? := by
    rcases hsz with h | h
    · exact g3 h
    · subst h
      intro i
      rw [if_neg (by simp)]
      rw [World.setCells] at g1
      rw [hb] at g1
      injection g1 with g1
      injection g1 with g1
      rw [g1]
  refine ⟨⟨fun q x hq => ?_, fun q r x y vq vr hne hq hx hr h1 h2 => ?_, fun q hq => R.fresh q (by rw [← p1]; exact hq), R.glob, by rw [p1]; exact R.gsize⟩, ⟨s2, s3, s4, by rw [s1]; exact Nat.le_refl _, fun b hbl hall => ?_⟩, p1, p2, fun j hj => ?_, fun j hj => ?_, fun u hu => ?_, fun q hq => ?_⟩
  · rw [p4] at hq
    by_cases hqo : q = o
    · subst hqo
      rw [if_pos rfl] at hq
      split at hq
      · obtain rfl := Option.some.inj hq
        refine ⟨by rw [p1]; exact hlt, v, hv, putAt_one ho hone hl, c2, e', (0, 0), g1, fun j x hx => ?_, fun _ => rfl, fun hmg => ?_⟩
        · rw [putAt_get c off vs hl] at hx
          rw [hget]
          by_cases hj : off ≤ j ∧ j < off + vs.length
          · rw [if_pos hj] at hx
            rw [if_pos (by rw [hvs.1]; omega), show v.base + j - (v.base + off) = j - off by omega]
            exact hvs.get hx
          · rw [if_neg hj] at hx
            rw [if_neg (by rw [hvs.1]; omega)]
            exact hc j x hx
        · obtain ⟨k1, k2, k3, k4⟩ := hgr hmg
          exact ⟨by rw [g2]; exact k1, k2, k3, by rw [putAt_length]; exact k4⟩
      · cases hq
    · rw [if_neg hqo] at hq
      obtain ⟨hl2, vq, hvq, hor⟩ := R.live q x hq
      refine ⟨by rw [p1]; exact hl2, vq, hvq, hor.of_block (fun _ _ h => h) (s5 _ ?_)⟩
      exact Ne.symm (R.apart o q _ _ v vq (Ne.symm hqo) hg (by cases m <;> first | rfl | exact absurd rfl hm) hq hv hvq)
  · have old : ∀ {q x}, h'.get q = some x → ∃ x0, h.get q = some x0 ∧ x0.wr = x.wr := by
      intro q x hq
      rw [p4] at hq
      by_cases hqo : q = o
      · subst hqo
        rw [if_pos rfl] at hq
        split at hq
        · obtain rfl := Option.some.inj hq
          exact ⟨_, hg, by cases m <;> rfl⟩
        · cases hq
      · rw [if_neg hqo] at hq; exact ⟨x, hq, rfl⟩
    obtain ⟨x0, hx0, hw0⟩ := old hq
    obtain ⟨y0, hy0, _⟩ := old hr
    exact R.apart q r x0 y0 vq vr hne hx0 (by rw [hw0]; exact hx) hy0 h1 h2
  · exact s5 b (Ne.symm (hall o _ v hg (by cases m <;> first | rfl | exact absurd rfl hm) hv))
  · obtain ⟨y, hy⟩ := hin j hj
    simp [World.cell?, hb, show v.base + off + j = v.base + (off + j) by omega, hy]
  · simp [World.frozen?, hb]
  · rw [one_eq]
    exact List.all_eq_true.1 (hvs.one hone) u hu
  · rw [p4, if_neg]
    rintro rfl
    rw [p3] at hq; cases hq
end Go.Ev
