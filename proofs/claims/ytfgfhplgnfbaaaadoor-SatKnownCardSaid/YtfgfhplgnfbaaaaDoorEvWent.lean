/- How memory goes on. -/
import Derived.Test.YtfgfhplgnfbaaaaDoorEvMk
namespace Go.Ev
open Go

/-- From a memory to a later one, and the model's with them. -/
structure Went (P : Program) (h : Hp) (ι : Inj) (w : World) (h' : Hp) (ι' : Inj) (w' : World) : Prop where
  ext : Ext h.nx ι ι'
  rh : RH P ι' h' w'
  fr : Fr' h ι w w'
  nx : h.nx ≤ h'.nx
  gd : h'.gd = h.gd
  grd : ∀ q x, h.get q = some x → h.guarded q = true → h'.get q = some x
  born : ∀ q y, q < h.nx → h'.get q = some y → ∃ x, h.get q = some x
  old : ∀ o x v, h'.get o = some x → ι' o = some v → (∃ q y vq, h.get q = some y ∧ y.wr = x.wr ∧ ι q = some vq ∧ vq.blk = v.blk) ∨ w.heap.size ≤ v.blk

section
variable {P : Program} {h h' h'' : Hp} {ι ι' ι'' : Inj} {w w' w'' : World}

theorem Went.refl (R : RH P ι h w) : Went P h ι w h ι w :=
  ⟨.refl _ _, R, ⟨rfl, rfl, rfl, Nat.le_refl _, fun _ _ _ => rfl⟩, Nat.le_refl _, rfl, fun _ _ hq _ => hq, fun _ y _ hq => ⟨y, hq⟩, fun o x v ho hv => .inl ⟨o, x, v, ho, rfl, hv, rfl⟩⟩
theorem Went.mono (g : Went P h ι w h' ι' w') (R : RH P ι h w) : ∀ o v, ι o = some v → ι' o = some v := R.mono_of g.ext
theorem Went.trans (a : Went P h ι w h' ι' w') (b : Went P h' ι' w' h'' ι'' w'') : Went P h ι w h'' ι'' w'' where
  ext := fun o ho => (b.ext o (Nat.lt_of_lt_of_le ho a.nx)).trans (a.ext o ho)
  rh := b.rh
  fr := ⟨b.fr.tape.trans a.fr.tape, b.fr.os.trans a.fr.os, b.fr.output.trans a.fr.output, Nat.le_trans a.fr.size b.fr.size, fun k hk hall => by
    rw [b.fr.rest k (Nat.lt_of_lt_of_le hk a.fr.size) ?_]
    · exact a.fr.rest k hk hall
    · intro o x v ho hx hv
      rcases a.old o x v ho hv with ⟨q, y, vq, h1, h2, h3, h4⟩ | hge
      · rw [← h4]; exact hall q y vq h1 (h2.trans hx) h3
      · omega⟩
  nx := Nat.le_trans a.nx b.nx
  gd := b.gd.trans a.gd
  grd := fun q x hq hg => b.grd q x (a.grd q x hq hg) (by unfold Hp.guarded; rw [a.gd]; exact hg)
  born := fun q y hq hy => let ⟨x, hx⟩ := b.born q y (Nat.lt_of_lt_of_le hq a.nx) hy; a.born q x hq hx
  old := fun o x v ho hv => by
    rcases b.old o x v ho hv with ⟨q, y, vq, h1, h2, h3, h4⟩ | hge
    · rcases a.old q y vq h1 h3 with ⟨r, z, vr, k1, k2, k3, k4⟩ | hge
      · exact .inl ⟨r, z, vr, k1, k2.trans h2, k3, k4.trans h4⟩
      · right; rw [← h4]; exact hge
    · right; exact Nat.le_trans a.fr.size hge

/-- Objects are forgotten. -/
theorem RH.sub (R : RH P ι h w) (hs : ∀ o x, h'.get o = some x → h.get o = some x) (hn : h.nx ≤ h'.nx) : RH P ι h' w where
  live := fun o x ho => let ⟨a, b⟩ := R.live o x (hs o x ho); ⟨Nat.lt_of_lt_of_le a hn, b⟩
  apart := fun o q x y vo vq hne ho hx hq => R.apart o q x y vo vq hne (hs o x ho) hx (hs q y hq)
  fresh := fun o ho => R.fresh o (Nat.le_trans hn ho)
  glob := R.glob
  gsize := Nat.le_trans R.gsize hn
theorem Went.drop (R : RH P ι h w) {o : Nat} (hp : h.put o none = some h') : Went P h ι w h' ι w := by
  obtain ⟨p1, p2, p3, p4⟩ := Hp.get_put hp
  have hs : ∀ q y, h'.get q = some y → h.get q = some y := fun q y hq => by
    rw [p4] at hq
    split at hq
    · split at hq <;> cases hq
    · exact hq
  refine ⟨.refl _ _, R.sub hs (by rw [p1]; exact Nat.le_refl _), ⟨rfl, rfl, rfl, Nat.le_refl _, fun _ _ _ => rfl⟩, by rw [p1]; exact Nat.le_refl _, p2, fun q x hx hq => ?_, fun q y _ hy => ⟨y, hs q y hy⟩, fun q y v hq hv => .inl ⟨q, y, v, hs q y hq, rfl, hv, rfl⟩⟩
  rw [p4, if_neg]
  · exact hx
  rintro rfl
  rw [p3] at hq; cases hq
/-- The count goes up. -/
theorem RH.up (R : RH P ι h w) {n : Nat} (hn : h.nx ≤ n) : RH P ι { h with nx := n } w := R.sub (fun _ _ h => h) hn
theorem RH.world (R : RH P ι h w) (hh : w'.heap = w.heap) : RH P ι h w' where
  live := fun o x ho => let ⟨a, v, hv, ho⟩ := R.live o x ho; ⟨a, v, hv, ho.of_block (fun _ _ h => h) (by rw [hh])⟩
  apart := R.apart
  fresh := R.fresh
  glob := R.glob
  gsize := R.gsize
theorem Went.drew (R : RH P ι h w) : Went P h ι w h ι w.drew :=
  ⟨.refl _ _, R.world rfl, ⟨rfl, rfl, rfl, Nat.le_refl _, fun _ _ _ => rfl⟩, Nat.le_refl _, rfl, fun _ _ hq _ => hq, fun _ y _ hq => ⟨y, hq⟩, fun o x v ho hv => .inl ⟨o, x, v, ho, rfl, hv, rfl⟩⟩

/-- A name for a place. -/
def Inj.set (ι : Inj) (o : Nat) (v : Vw) : Inj := fun q => if q = o then some v else ι q
theorem Inj.set_same (ι : Inj) (o : Nat) (v : Vw) : ι.set o v o = some v := if_pos rfl
theorem Inj.set_other (ι : Inj) (o : Nat) (v : Vw) {q : Nat} (h : q ≠ o) : ι.set o v q = ι q := if_neg h
theorem Inj.set_mono {ι : Inj} {o : Nat} {v : Vw} (h : ι o = none) : ∀ q u, ι q = some u → ι.set o v q = some u := fun q u hq => by
  rw [Inj.set_other]
  · exact hq
  · rintro rfl; rw [h] at hq; cases hq

/-- A new object in a new block, under a number that is free. -/
theorem RH.lay (R : RH P ι h w) {id : Nat} {x : Ob} {b : Obj} {v : Vw} (hv : v.blk = w.heap.size) (hi : ι id = none) (hx : OR P (ι.set id v) v x (w.alloc b)) (hn : h.nx ≤ h'.nx) (hid : id < h'.nx)
    (hg : ∀ q y, h'.get q = some y → (q = id ∧ y = x) ∨ (q ≠ id ∧ h.get q = some y)) :
    RH P (ι.set id v) h' (w.alloc b) ∧ Fr' h ι w (w.alloc b) ∧ ∀ o y u, h'.get o = some y → (ι.set id v) o = some u → (∃ q z vq, h.get q = some z ∧ z.wr = y.wr ∧ ι q = some vq ∧ vq.blk = u.blk) ∨ w.heap.size ≤ u.blk := by
  have heap : ∀ k, k < w.heap.size → (w.alloc b).heap[k]? = w.heap[k]? := fun k hk => by rw [alloc_get, if_neg (by omega)]
  have blk : ∀ o y u, h.get o = some y → ι o = some u → u.blk < w.heap.size := fun o y u ho hu => by
    obtain ⟨_, u', hu', hor⟩ := R.live o y ho
    rw [hu] at hu'
    obtain rfl := Option.some.inj hu'
    exact hor.block
  refine ⟨⟨fun o y ho => ?_, fun o q y z vo vq hne ho hy hq hvo hvq => ?_, fun o ho => ?_, fun g hgl => ?_, Nat.le_trans R.gsize hn⟩, ⟨rfl, rfl, rfl, by show w.heap.size ≤ (w.heap.push b).size; rw [Array.size_push]; omega, fun k hk _ => heap k hk⟩, fun o y u ho hu => ?_⟩
  · rcases hg o y ho with ⟨rfl, rfl⟩ | ⟨hne, ho⟩
    · exact ⟨hid, v, Inj.set_same .., hx⟩
    · obtain ⟨hl, u, hu, hor⟩ := R.live o y ho
      exact ⟨Nat.lt_of_lt_of_le hl hn, u, by rw [Inj.set_other _ _ _ hne]; exact hu, hor.of_block (Inj.set_mono hi) (heap _ hor.block)⟩
  · rcases hg o y ho with ⟨rfl, rfl⟩ | ⟨hne1, ho⟩
    · rcases hg q z hq with ⟨rfl, rfl⟩ | ⟨hne2, hq⟩
      · exact absurd rfl hne
      · rw [Inj.set_same] at hvo
        rw [Inj.set_other _ _ _ hne2] at hvq
        obtain rfl := Option.some.inj hvo
        have := blk q z vq hq hvq
        omega
    · rw [Inj.set_other _ _ _ hne1] at hvo
      rcases hg q z hq with ⟨rfl, rfl⟩ | ⟨hne2, hq⟩
      · rw [Inj.set_same] at hvq
        obtain rfl := Option.some.inj hvq
        have := blk o y vo ho hvo
        omega
      · rw [Inj.set_other _ _ _ hne2] at hvq
        exact R.apart o q y z vo vq hne ho hy hq hvo hvq
  · rw [Inj.set_other _ _ _ (by omega)]; exact R.fresh o (Nat.le_trans hn ho)
  · obtain ⟨f, e, he⟩ := R.glob g hgl
    exact ⟨f, e, Inj.set_mono hi _ _ he⟩
  · rcases hg o y ho with ⟨rfl, rfl⟩ | ⟨hne, ho⟩
    · rw [Inj.set_same] at hu
      obtain rfl := Option.some.inj hu
      right; omega
    · rw [Inj.set_other _ _ _ hne] at hu
      exact .inl ⟨o, y, u, ho, rfl, hu, rfl⟩

theorem Went.add (R : RH P ι h w) {x : Ob} {b : Obj} {v : Vw} (hv : v.blk = w.heap.size) (hx : OR P (ι.set h.nx v) v x (w.alloc b)) : Went P h ι w (h.add x) (ι.set h.nx v) (w.alloc b) := by
  have hnone : h.get h.nx = none := by
    cases hh : h.get h.nx with
    | none => rfl
    | some y => exact absurd (R.live _ _ hh).1 (Nat.lt_irrefl _)
  obtain ⟨h1, h2, h3⟩ := R.lay (h' := h.add x) hv (R.fresh _ (Nat.le_refl _)) hx (by show h.nx ≤ h.nx + 1; omega) (by show h.nx < h.nx + 1; omega) (fun q y hq => by
    rw [Hp.get_add] at hq
    split at hq
    · split at hq
      · exact .inl ⟨‹_›, (Option.some.inj hq).symm⟩
      · cases hq
    · exact .inr ⟨‹_›, hq⟩)
  refine ⟨fun o ho => Inj.set_other _ _ _ (by omega), h1, h2, by show h.nx ≤ h.nx + 1; omega, rfl, fun q y hq _ => ?_, fun q y hq hy => ?_, h3⟩
  · have := (R.live q y hq).1
    rw [Hp.get_add, if_neg (by omega)]; exact hq
  · rw [Hp.get_add, if_neg (by omega)] at hy; exact ⟨y, hy⟩

/-- What is written. -/
theorem Went.write (R : RH P ι h w) {o off : Nat} {vs vs' : List Value} (hw : writeAt h o off vs = some h') {v : Vw} (hv : ι o = some v) (hvs : VRs ι vs vs') : Went P h ι w h' ι (w.setCells v.blk (v.base + off) vs') := by
  obtain ⟨c, e, m, hg, hm, hl, hone, hp⟩ := writeAt_some hw
  obtain ⟨p1, p2, p3, p4⟩ := Hp.get_put hp
  obtain ⟨h1, h2, h3, h4, h5, h6, h7, h8⟩ := R.write hw hv hvs
  refine ⟨.refl _ _, h1, h2, by rw [h3]; exact Nat.le_refl _, h4, fun q x hx hq => (h8 q hq).trans hx, fun q y _ hy => ?_, fun q y u hq hu => .inl ?_⟩
  · rw [p4] at hy
    by_cases hqo : q = o
    · exact ⟨_, by rw [hqo]; exact hg⟩
    · rw [if_neg hqo] at hy; exact ⟨y, hy⟩
  rw [p4] at hq
  by_cases hqo : q = o
  · subst hqo
    rw [if_pos rfl] at hq
    split at hq
    · obtain rfl := Option.some.inj hq
      exact ⟨q, _, u, hg, by cases m <;> rfl, hu, rfl⟩
    · cases hq
  · rw [if_neg hqo] at hq
    exact ⟨q, y, u, hq, rfl, hu, rfl⟩
end
end Go.Ev
