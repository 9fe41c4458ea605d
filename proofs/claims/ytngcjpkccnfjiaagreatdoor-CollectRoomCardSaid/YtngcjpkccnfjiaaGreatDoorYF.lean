/- What is known of a memory: who has which objects. A step of the code changes one's own alone. -/
import Derived.Test.YtngcjpkccnfjiaaGreatDoorYD
import Derived.Test.YtngcjpkccnfjiaaGreatDoorProg
import Derived.Test.YtngcjpkccnfjiaaGreatDoorYC
import Derived.KernelRfl
import Derived.Test.YtngcjpkccnfjiaaGreatDoorYE
namespace Go.Ev
open Go
/-- From one memory to a later one: of what there was some objects alone change. -/
structure Ch (S : Nat → Prop) (h h' : Hp) : Prop where
  get : ∀ o, o < h.nx → ¬ S o → h'.get o = h.get o
  nx : h.nx ≤ h'.nx
  gd : h'.gd = h.gd
  fr : h.Fresh → h'.Fresh
theorem Ch.kp {S : Nat → Prop} {h h' : Hp} (k : Kp h.nx h h') : Ch S h h' := ⟨fun o ho _ => k.get o ho, k.nx, k.gd, k.fr⟩
theorem Ch.refl (S : Nat → Prop) (h : Hp) : Ch S h h := ⟨fun _ _ _ => rfl, Nat.le_refl _, rfl, id⟩
theorem Ch.trans {S : Nat → Prop} {h h' h'' : Hp} (a : Ch S h h') (b : Ch S h' h'') : Ch S h h'' := ⟨fun o ho hS => (b.get o (Nat.lt_of_lt_of_le ho a.nx) hS).trans (a.get o ho hS), Nat.le_trans a.nx b.nx, b.gd.trans a.gd, fun f => b.fr (a.fr f)⟩
theorem Ch.low {S : Nat → Prop} {h h' : Hp} {n : Nat} (a : Ch S h h') (hn : n ≤ h.nx) (hs : ∀ o, S o → n ≤ o) : Kp n h h' := ⟨fun o ho => a.get o (by omega) (fun h => by have := hs o h; omega), a.nx, a.gd, a.fr⟩
theorem Ch.wr (h : Hp) (b off : Nat) (vs : List Value) : Ch (fun o => o = b) h (h.wr b off vs) := ⟨fun _ _ hne => wr_get_ne _ _ _ _ hne, by rw [nx_wr]; exact Nat.le_refl _, gd_wr .., fun f => f.wr _ _ _⟩
/-- Something that somebody has: objects, and what is so of them. -/
structure Rs where
  own : Nat → Prop
  P : Hp → Prop
/-- It speaks of its own objects alone. -/
def Rs.Loc (r : Rs) : Prop := ∀ h h' : Hp, h.nx ≤ h'.nx → (∀ b, r.own b → h'.get b = h.get b) → r.P h → r.P h'
/-- An object. -/
def ob (b : Nat) (x : Ob) : Rs := ⟨fun o => o = b, fun h => h.get b = some x⟩
theorem ob.loc (b : Nat) (x : Ob) : (ob b x).Loc := fun _ _ _ h e => (h b rfl).trans e
/-- A list that grows. -/
def acc (lo : Nat) (e : TypeId) (esz : Nat) (a : Option Addr) (n c : Nat) (xs : List Value) : Rs := ⟨fun o => a = some ⟨o, 0, none⟩, fun h => AccE h lo e esz a n c xs⟩
theorem acc.loc (lo : Nat) (e : TypeId) (esz : Nat) (a : Option Addr) (n c : Nat) (xs : List Value) : (acc lo e esz a n c xs).Loc := fun _ _ hn h A => A.keep (fun o _ ha => h o ha) hn
/-- Numbers that are laid aside. -/
def hole (lo k : Nat) (used : List Nat) : Rs := ⟨fun o => lo ≤ o ∧ o < lo + k ∧ o ∉ used, fun h => ∀ o, lo ≤ o → o < lo + k → o ∉ used → h.get o = none⟩
theorem hole.loc (lo k : Nat) (used : List Nat) : (hole lo k used).Loc := fun _ _ _ h e o h1 h2 h3 => (h o ⟨h1, h2, h3⟩).trans (e o h1 h2 h3)
/-- What is known of a memory that began as another one. -/
structure Know (h0 g : Hp) (L : List Rs) : Prop where
  ok : g.Ok
  kp : Kp h0.nx h0 g
  at_ : ∀ r ∈ L, r.Loc ∧ r.P g ∧ ∀ b, r.own b → h0.nx ≤ b ∧ b < g.nx
  dis : L.Pairwise (fun r s => ∀ b, r.own b → ¬ s.own b)
  ok0 : h0.Ok
section
variable {h0 g : Hp} {L : List Rs}
theorem Know.nil (ok : g.Ok) : Know g g [] := ⟨ok, Kp.refl _ _, fun _ h => (by cases h), .nil, ok⟩
theorem Know.ft (S : Know h0 g L) : Ft h0 g := S.kp.ex (Nat.le_refl _)
theorem Know.len (_ : Know h0 g L) {i : Nat} {r : Rs} (hi : L[i]? = some r) : i < L.length := (List.getElem?_eq_some_iff.1 hi).1
theorem Know.lo (S : Know h0 g L) : h0.nx ≤ g.nx := S.kp.nx
theorem Know.gl (S : Know h0 g L) : GdLt g h0.nx := fun q hq => by rw [S.kp.gd] at hq; exact S.ok0.gd q hq
theorem Know.get (S : Know h0 g L) (i : Nat) {r : Rs} (hi : L[i]? = some r) : r.P g := (S.at_ r (List.mem_of_getElem? hi)).2.1
theorem Know.obj (S : Know h0 g L) (i : Nat) {b : Nat} {x : Ob} (hi : L[i]? = some (ob b x)) : g.get b = some x := S.get i hi
theorem Know.rng (S : Know h0 g L) (i : Nat) {r : Rs} (hi : L[i]? = some r) : ∀ b, r.own b → h0.nx ≤ b ∧ b < g.nx := (S.at_ r (List.mem_of_getElem? hi)).2.2
theorem Know.orng (S : Know h0 g L) (i : Nat) {b : Nat} {x : Ob} (hi : L[i]? = some (ob b x)) : h0.nx ≤ b ∧ b < g.nx := S.rng i hi b rfl
theorem Know.arng (S : Know h0 g L) (i : Nat) {lo : Nat} {e : TypeId} {esz : Nat} {a : Option Addr} {n c : Nat} {xs : List Value} (hi : L[i]? = some (acc lo e esz a n c xs)) {o : Nat} (ha : a = some ⟨o, 0, none⟩) : h0.nx ≤ o ∧ o < g.nx := S.rng i hi o ha
theorem pw_get {α : Type} {R : α → α → Prop} (hs : ∀ a b, R a b → R b a) : ∀ {l : List α}, l.Pairwise R → ∀ {i j : Nat} {x y : α}, l[i]? = some x → l[j]? = some y → i ≠ j → R x y := by
  intro l
  induction l with
  | nil => intro _ i j x y h; cases h
  | cons a l ih =>
    intro hp i j x y hx hy hij
    obtain ⟨p1, p2⟩ := List.pairwise_cons.1 hp
    cases i with
    | zero =>
      cases j with
      | zero => exact absurd rfl hij
      | succ j => obtain rfl := Option.some.inj hx; exact p1 y (List.mem_of_getElem? (i := j) hy)
    | succ i =>
      cases j with
      | zero => obtain rfl := Option.some.inj hy; exact hs _ _ (p1 x (List.mem_of_getElem? (i := i) hx))
      | succ j => exact ih p2 (i := i) (j := j) hx hy (by omega)
theorem Know.sep (S : Know h0 g L) (i j : Nat) {r s : Rs} (hi : L[i]? = some r) (hj : L[j]? = some s) (hij : i ≠ j) : ∀ b, r.own b → ¬ s.own b :=
  pw_get (fun _ _ h b hb ha => h b ha hb) S.dis hi hj hij
theorem Know.ne (S : Know h0 g L) (i j : Nat) {b c : Nat} {x y : Ob} (hi : L[i]? = some (ob b x)) (hj : L[j]? = some (ob c y)) (hij : i ≠ j) : b ≠ c := fun h => S.sep i j hi hj hij b rfl h
/-- A new object. -/
theorem Know.add (S : Know h0 g L) (x : Ob) : Know h0 (g.add x) (ob g.nx x :: L) := by
  refine ⟨S.ok.add x, S.kp.add S.lo x, fun r hr => ?_, List.pairwise_cons.2 ⟨fun r hr b hb hrb => ?_, S.dis⟩, S.ok0⟩
  · rcases List.mem_cons.1 hr with rfl | hr
    · exact ⟨ob.loc _ _, get_add_same .., fun b hb => by cases hb; rw [nx_add]; have := S.lo; omega⟩
    · obtain ⟨h1, h2, h3⟩ := S.at_ r hr
      exact ⟨h1, h1 g _ (by rw [nx_add]; omega) (fun b hb => get_add_ne (by have := h3 b hb; omega)) h2, fun b hb => by rw [nx_add]; have := h3 b hb; omega⟩
  · have := (S.at_ r hr).2.2 b hrb
    cases hb; omega
/-- Memory goes on. -/
theorem Know.call (S : Know h0 g L) {g' : Hp} (k : Kp g.nx g g') : Know h0 g' L :=
  ⟨S.ok.kp k, S.kp.trans (k.le S.lo), fun r hr => let ⟨h1, h2, h3⟩ := S.at_ r hr; ⟨h1, h1 g g' k.nx (fun b hb => k.get b (h3 b hb).2) h2, fun b hb => by have := h3 b hb; have := k.nx; omega⟩, S.dis, S.ok0⟩
theorem Know.rsv (S : Know h0 g L) (k : Nat) : Know h0 (g.rsv k) L := S.call ((Kp.refl _ g).rsv k)
/-- Memory goes on while some must not be written. -/
theorem Know.callg (S : Know h0 g L) {l : List Nat} {h' : Hp} (k : Kp g.nx (g.grd l) h') : Know h0 (h'.rst g) L := S.call ⟨k.get, k.nx, rfl, fun f => k.fr f⟩
theorem Know.okg (S : Know h0 g L) {l : List Nat} (hl : ∀ q ∈ l, q < g.nx) : (g.grd l).Ok := S.ok.grd hl
theorem Know.ftg (S : Know h0 g L) (l : List Nat) : Ft h0 (g.grd l) := ⟨S.ft.get, S.ft.nx⟩
/-- One changes. -/
theorem Know.upd (S : Know h0 g L) (i : Nat) {r r' : Rs} (hi : L[i]? = some r) {g' : Hp} (k : Ch r.own g g') (hl : r'.Loc) (hP : r'.P g') (ho : ∀ b, r'.own b → r.own b ∨ (g.nx ≤ b ∧ b < g'.nx)) : Know h0 g' (L.set i r') := by
  have hr := S.rng i hi
  have hi' : i < L.length := (List.getElem?_eq_some_iff.1 hi).1
  have ho' : ∀ b, r'.own b → h0.nx ≤ b ∧ b < g'.nx := fun b hb => by
    rcases ho b hb with h | h
    · have := hr b h; have := k.nx; omega
    · have := S.lo; omega
  refine ⟨⟨fun q hq => by rw [k.gd] at hq; exact Nat.lt_of_lt_of_le (S.ok.gd q hq) k.nx, k.fr S.ok.fr⟩, S.kp.trans (k.low S.lo fun o h => (hr o h).1), fun s hs => ?_, ?_, S.ok0⟩
  · obtain ⟨j, hj⟩ := List.mem_iff_getElem?.1 hs
    by_cases hij : i = j
    · subst hij
      rw [List.getElem?_set_self hi'] at hj
      obtain rfl := Option.some.inj hj
      exact ⟨hl, hP, ho'⟩
    · rw [List.getElem?_set_ne hij] at hj
      obtain ⟨h1, h2, h3⟩ := S.at_ s (List.mem_of_getElem? hj)
      exact ⟨h1, h1 g g' k.nx (fun b hb => k.get b (h3 b hb).2 fun h => S.sep i j hi hj hij b h hb) h2, fun b hb => by have := h3 b hb; have := k.nx; omega⟩
  · rw [List.pairwise_iff_getElem]
    intro a b ha hb hab
    rw [List.length_set] at ha hb
    have key : ∀ j s, i ≠ j → L[j]? = some s → ∀ q, r'.own q → ¬ s.own q := fun j s hij hj q hq hs => by
      rcases ho q hq with h | h
      · exact S.sep i j hi hj hij q h hs
      · have := (S.at_ s (List.mem_of_getElem? hj)).2.2 q hs; omega
    rw [List.getElem_set, List.getElem_set]
    by_cases h1 : i = a
    · rw [if_pos h1, if_neg (by omega)]
      exact key b _ (by omega) (List.getElem?_eq_getElem hb)
    · rw [if_neg h1]
      by_cases h2 : i = b
      · rw [if_pos h2]
        exact fun q hq hs => key a _ h1 (List.getElem?_eq_getElem ha) q hs hq
      · rw [if_neg h2]
        exact List.pairwise_iff_getElem.1 S.dis a b ha hb hab
theorem Ch.rst {R : Nat → Prop} {l : List Nat} {h' : Hp} (k : Ch R (g.grd l) h') : Ch R g (h'.rst g) := ⟨k.get, k.nx, rfl, fun f => k.fr f⟩
/-- Something new. -/
theorem Know.push (S : Know h0 g L) {r' : Rs} {g' : Hp} (k : Kp g.nx g g') (hl : r'.Loc) (hP : r'.P g') (ho : ∀ b, r'.own b → g.nx ≤ b ∧ b < g'.nx) : Know h0 g' (r' :: L) := by
  have T := S.call k
  refine ⟨T.ok, T.kp, fun r hr => ?_, List.pairwise_cons.2 ⟨fun r hr b hb hrb => ?_, T.dis⟩, S.ok0⟩
  · rcases List.mem_cons.1 hr with rfl | hr
    · exact ⟨hl, hP, fun b hb => by have := ho b hb; have := S.lo; omega⟩
    · exact T.at_ r hr
  · have := (S.at_ r hr).2.2 b hrb
    have := ho b hb; omega
/-- What a call has made comes to what there was. -/
theorem Know.comp (S : Know h0 g L) {g' : Hp} {M : List Rs} (T : Know g g' M) : Know h0 g' (M ++ L) := by
  have U := S.call T.kp
  refine ⟨U.ok, U.kp, fun r hr => ?_, List.pairwise_append.2 ⟨T.dis, U.dis, fun r hr s hs b hb hsb => ?_⟩, S.ok0⟩
  · rcases List.mem_append.1 hr with hr | hr
    · obtain ⟨h1, h2, h3⟩ := T.at_ r hr
      exact ⟨h1, h2, fun b hb => by have := h3 b hb; have := S.lo; omega⟩
    · exact U.at_ r hr
  · have := (T.at_ r hr).2.2 b hb
    have := (S.at_ s hs).2.2 b hsb
    omega
/-- The same behind a call while some must not be written. -/
theorem Know.compg (S : Know h0 g L) {l : List Nat} {h' : Hp} {M : List Rs} (T : Know (g.grd l) h' M) : Know h0 (h'.rst g) (M ++ L) := by
  refine S.comp (g' := h'.rst g) ⟨S.ok.kp ⟨T.kp.get, T.kp.nx, rfl, T.kp.fr⟩, ⟨T.kp.get, T.kp.nx, rfl, T.kp.fr⟩, fun r hr => ?_, T.dis, S.ok⟩
  obtain ⟨h1, h2, h3⟩ := T.at_ r hr
  exact ⟨h1, h1 h' _ (Nat.le_refl _) (fun _ _ => rfl) h2, h3⟩
/-- Some are forgotten, or come in another order. -/
theorem Know.sel (S : Know h0 g L) (is : List Nat) (hn : is.Nodup) {M : List Rs} (hM : M = is.filterMap (fun i => L[i]?)) : Know h0 g M := by
  subst hM
  refine ⟨S.ok, S.kp, fun r hr => ?_, ?_, S.ok0⟩
  · obtain ⟨i, _, hi⟩ := List.mem_filterMap.1 hr
    exact S.at_ r (List.mem_of_getElem? hi)
  · rw [List.pairwise_filterMap]
    exact hn.imp fun {i j} hij r hr s hs => S.sep i j hr hs hij
/-- What is known of the second one of two. -/
theorem Know.sub (S : Know h0 g L) (M : List Rs) (h : M.Sublist L) : Know h0 g M := ⟨S.ok, S.kp, fun r hr => S.at_ r (h.subset hr), S.dis.sublist h, S.ok0⟩
/-- What is appended to lies at a new number: also a row of no elements. -/
theorem append_newE {P : Program} {sT e : TypeId} {esz bytes : Nat} (T : AppT P sT e esz bytes) {h : Hp} {base : Nat} {a : Option Addr} {n c : Nat} {xs : List Value} (H : AccE h base e esz a n c xs)
    {x : Value} {ys : List Value} {k : Nat} (hx : ∃ a n c, x = .slice a n c) (hs : srcCells h esz x = some (ys, k)) (h1 : ys.all one = true) (hkp : 0 < k) {a' : Option Addr} {n' c' : Nat} {h' : Hp} (e1 : appendV P h sT sT (.slice a n c) x = some (.slice a' n' c', h')) : a' = some ⟨h.nx, 0, none⟩ := by
  rcases H with H | ⟨rfl, rfl, rfl, o, rfl, h2, h3, e2, m, h4⟩
  · exact append_new T H hx hs h1 hkp e1
  · obtain ⟨hz, info, z, hi, hzz, hrun⟩ := T.run
    rw [hrun h _ x hx, hs] at e1
    have hk0 : Nat.beq k 0 = false := by rw [Bool.eq_false_iff]; intro hh; have := Nat.eq_of_beq_eq_true hh; omega
    simp only [Option.bind_some, h1, cond_true, hk0, cond_false] at e1
    unfold appSome at e1
    have e3 : Nat.beq 0 unk = false := by
      rw [Bool.eq_false_iff]; intro hh; have := Nat.eq_of_beq_eq_true hh; have : unk = 18446744073709551616 := rfl; omega
    have e4 : Nat.ble (0 + k) 0 = false := by
      rw [Bool.eq_false_iff]; intro hh; have : 0 + k ≤ 0 := by simpa using hh
      omega
    have e5 : readAt h o 0 (0 * esz) = some [] := by rw [Nat.zero_mul, readAt_get h4 (by simp)]; rfl
    simp only [h4, e3, e4, e5, cond_false, Option.bind_some] at e1
    unfold appNew at e1
    obtain ⟨_, e1⟩ := cond_some e1
    injection e1 with e1
    injection e1 with e1 _
    injection e1 with e1 _
    exact e1.symm
/-! ### steps -/
theorem Know.rd (S : Know h0 g L) (i : Nat) {b : Nat} {c : List Value} {e : TypeId} {m : Md} (hi : L[i]? = some (ob b (.cells c e m))) {off n : Nat} {r : List Value} (hr : (c.drop off).take n = r) (hl : Nat.ble (off + n) c.length = true) : readAt g b off n = some r := by
  rw [readAt_get (S.obj i hi) (Nat.le_of_ble_eq_true hl), hr]
theorem Know.rdg (S : Know h0 g L) (i : Nat) {b : Nat} {c : List Value} {e : TypeId} {m : Md} (hi : L[i]? = some (ob b (.cells c e m))) {l : List Nat} {off n : Nat} {r : List Value} (hr : (c.drop off).take n = r) (hl : Nat.ble (off + n) c.length = true) : readAt (g.grd l) b off n = some r := S.rd i hi hr hl
theorem Know.gdf (S : Know h0 g L) {b : Nat} (hb : h0.nx ≤ b) : g.guarded b = false := S.gl.free hb
theorem Know.gdfg (S : Know h0 g L) {b : Nat} {l : List Nat} (hb : h0.nx ≤ b) (hl : ∀ q ∈ l, q ≠ b) : (g.grd l).guarded b = false := guarded_of fun q hq => by
  rcases List.mem_append.1 hq with h | h
  · exact hl q h
  · have := S.gl q h; omega
theorem Know.cw (S : Know h0 g L) (i : Nat) {b : Nat} {c : List Value} {e : TypeId} {m : Md} (hi : L[i]? = some (ob b (.cells c e m))) {off : Nat} {vs : List Value} (hm : m ≠ .ro) (hl : Nat.ble (off + vs.length) c.length = true) (h1 : vs.all one = true) : canW g b off vs = true := canW_t (S.obj i hi) hm (S.gdf (S.orng i hi).1) (Nat.le_of_ble_eq_true hl) h1
theorem Know.wr (S : Know h0 g L) (i : Nat) {b : Nat} {c : List Value} {e : TypeId} {m : Md} (hi : L[i]? = some (ob b (.cells c e m))) {off : Nat} {vs : List Value} (hm : m ≠ .ro) (hl : Nat.ble (off + vs.length) c.length = true) (h1 : vs.all one = true) : Know h0 (g.wr b off vs) (L.set i (ob b (.cells (putAt c off vs) e m))) :=
  S.upd i hi (Ch.wr g b off vs) (ob.loc _ _) (wr_get (S.obj i hi) hm (S.gdf (S.orng i hi).1) (Nat.le_of_ble_eq_true hl) h1) fun _ h => .inl h
theorem Know.cwg (S : Know h0 g L) (i : Nat) {b : Nat} {c : List Value} {e : TypeId} {m : Md} (hi : L[i]? = some (ob b (.cells c e m))) {l : List Nat} (hg : ∀ q ∈ l, q ≠ b) {off : Nat} {vs : List Value} (hm : m ≠ .ro) (hl : Nat.ble (off + vs.length) c.length = true) (h1 : vs.all one = true) : canW (g.grd l) b off vs = true := canW_t (h := g.grd l) (S.obj i hi) hm (S.gdfg (S.orng i hi).1 hg) (Nat.le_of_ble_eq_true hl) h1
theorem Know.wrg (S : Know h0 g L) (i : Nat) {b : Nat} {c : List Value} {e : TypeId} {m : Md} (hi : L[i]? = some (ob b (.cells c e m))) {l : List Nat} (hg : ∀ q ∈ l, q ≠ b) {off : Nat} {vs : List Value} (hm : m ≠ .ro) (hl : Nat.ble (off + vs.length) c.length = true) (h1 : vs.all one = true) : Know h0 (((g.grd l).wr b off vs).rst g) (L.set i (ob b (.cells (putAt c off vs) e m))) :=
  S.upd i hi (Ch.wr (g.grd l) b off vs).rst (ob.loc _ _) (wr_get (h := g.grd l) (S.obj i hi) hm (S.gdfg (S.orng i hi).1 hg) (Nat.le_of_ble_eq_true hl) h1) fun _ h => .inl h
/-- Numbers are laid aside, and used later. -/
theorem Know.rsvK (S : Know h0 g L) (k : Nat) : Know h0 (g.rsv k) (hole g.nx k [] :: L) :=
  S.push ((Kp.refl _ g).rsv k) (hole.loc _ _ _) (fun o h1 _ _ => S.ok.fr o h1) fun b hb => ⟨hb.1, hb.2.1⟩
theorem Know.fre (S : Know h0 g L) (i : Nat) {lo k : Nat} {used : List Nat} (hi : L[i]? = some (hole lo k used)) {q : Nat} (h1 : lo ≤ q) (h2 : q < lo + k) (h3 : q ∉ used) : g.free q = true := free_t (S.get i hi q h1 h2 h3)
theorem Know.lay (S : Know h0 g L) (i : Nat) {lo k : Nat} {used : List Nat} (hi : L[i]? = some (hole lo k used)) {q : Nat} (h1 : lo ≤ q) (h2 : q < lo + k) (h3 : q ∉ used) (x : Ob) : Know h0 (g.lay q x) (ob q x :: L.set i (hole lo k (q :: used))) := by
  have hq := S.rng i hi q ⟨h1, h2, h3⟩
  have ge : ∀ o, o ≠ q → (g.lay q x).get o = g.get o := fun o ho => by rw [get_lay, if_neg ho]
  have S1 : Know h0 (g.lay q x) (L.set i (hole lo k (q :: used))) := S.upd i hi (g' := g.lay q x) ⟨fun o _ ho => ge o (fun h => ho (h ▸ ⟨h1, h2, h3⟩)), Nat.le_refl _, rfl, fun f => f.lay hq.2 x⟩ (hole.loc _ _ _) (fun o a b c => (ge o (fun h => c (h ▸ List.mem_cons_self ..))).trans (S.get i hi o a b (fun h => c (List.mem_cons_of_mem _ h)))) fun b hb => .inl ⟨hb.1, hb.2.1, fun h => hb.2.2 (List.mem_cons_of_mem _ h)⟩
  refine ⟨S1.ok, S1.kp, fun r hr => ?_, List.pairwise_cons.2 ⟨fun r hr b hb hrb => ?_, S1.dis⟩, S.ok0⟩
  · rcases List.mem_cons.1 hr with rfl | hr
    · exact ⟨ob.loc _ _, by show (g.lay q x).get q = _; rw [get_lay, if_pos rfl], fun b hb => by cases hb; exact hq⟩
    · exact S1.at_ r hr
  · obtain rfl : b = q := hb
    obtain ⟨j, hj⟩ := List.mem_iff_getElem?.1 hr
    by_cases hij : i = j
    · subst hij
      rw [List.getElem?_set_self (List.getElem?_eq_some_iff.1 hi).1] at hj
      obtain rfl := Option.some.inj hj
      exact hrb.2.2 (List.mem_cons_self ..)
    · rw [List.getElem?_set_ne hij] at hj
      exact S.sep i j hi hj hij b ⟨h1, h2, h3⟩ hrb
theorem rst_eq {h h' : Hp} (e : h'.gd = h.gd) : h'.rst h = h' := by
  cases h'; unfold Hp.rst; cases e; rfl
/-- An empty row is a list that may grow. -/
theorem Know.acc0 (S : Know h0 g L) (i : Nat) {b : Nat} {e' : TypeId} {m : Md} (hi : L[i]? = some (ob b (.cells [] e' m))) (lo : Nat) (hlo : lo ≤ b) (e : TypeId) (esz : Nat) : Know h0 g (L.set i (acc lo e esz (some ⟨b, 0, none⟩) 0 0 [])) :=
  S.upd i hi (Ch.refl _ g) (acc.loc _ _ _ _ _ _ _) (.inr ⟨rfl, rfl, rfl, b, rfl, hlo, (S.orng i hi).2, _, _, S.obj i hi⟩) fun q hq => .inl (by injection hq with hq; injection hq with hq; exact hq.symm)
/-- A list that has grown is an object. -/
theorem Know.accOb (S : Know h0 g L) (i : Nat) {lo : Nat} {e : TypeId} {esz : Nat} {a : Option Addr} {n c : Nat} {xs : List Value} (hi : L[i]? = some (acc lo e esz a n c xs)) (hx : xs ≠ []) : ∃ o, a = some ⟨o, 0, none⟩ ∧ c = unk ∧ n * esz = xs.length ∧ lo ≤ o ∧ Know h0 g (L.set i (ob o (.cells xs e .grow))) := by
  have A : AccE g lo e esz a n c xs := S.get i hi
  rcases A with (⟨_, _, _, h⟩ | ⟨o, rfl, h2, h3, h4, h5, h6⟩) | ⟨h, _⟩
  · exact absurd h hx
  · exact ⟨o, rfl, h2, h3, h4, S.upd i hi (Ch.refl _ g) (ob.loc _ _) h6 fun q hq => .inl (by cases hq; rfl)⟩
  · exact absurd h hx
/-- A new, empty list that is to grow. -/
theorem Know.accNil (S : Know h0 g L) (lo : Nat) (e : TypeId) (esz : Nat) : Know h0 g (acc lo e esz none 0 0 [] :: L) :=
  S.push (Kp.refl _ g) (acc.loc _ _ _ _ _ _ _) (.inl (Acc.nil ..)) fun b hb => by cases hb
/-- A list grows. -/
theorem Know.appg (S : Know h0 g L) (i : Nat) {lo : Nat} {e : TypeId} {esz : Nat} {a : Option Addr} {n c : Nat} {xs : List Value} (hi : L[i]? = some (acc lo e esz a n c xs)) (hlo : h0.nx ≤ lo) (hlo2 : lo ≤ g.nx) {P : Program} {sT : TypeId} {bytes : Nat} (T : AppT P sT e esz bytes) {l : List Nat} (hl : ∀ q ∈ l, q < lo)
    {x : Value} {ys : List Value} {k : Nat} (hx : ∃ a n c, x = .slice a n c) (hs : srcCells g esz x = some (ys, k)) (hk : ys.length = k * esz) (h1 : ys.all one = true) (hB : (n + k + (n + k)) * bytes ≤ 281474976710656) (hU : n + k < big) :
    ∃ a' n' c' h', appendV P (g.grd l) sT sT (.slice a n c) x = some (.slice a' n' c', h') ∧ n' = n + k ∧ Know h0 (h'.rst g) (L.set i (acc lo e esz a' n' c' (xs ++ ys))) := by
  have A : AccE (g.grd l) lo e esz a n c xs := S.get i hi
  have G : GdLt (g.grd l) lo := fun q hq => by
    rcases List.mem_append.1 hq with h | h
    · exact hl q h
    · have := S.gl q h; omega
  obtain ⟨a', n', c', h', e1, A', en, k'⟩ := append_accE T (h := g.grd l) A hlo2 G hx hs hk h1 hB hU
  refine ⟨a', n', c', h', e1, en, S.upd i hi (r' := acc lo e esz a' n' c' (xs ++ ys)) (g' := h'.rst g) ⟨fun o ho hne => k'.get o ho hne, k'.nx, rfl, fun f => k'.fr f⟩ (acc.loc _ _ _ _ _ _ _) (A'.keep (fun _ _ _ => rfl) (Nat.le_refl _)) fun b hb => ?_⟩
  rcases Nat.eq_zero_or_pos k with rfl | hkp
  · left
    show a = some ⟨b, 0, none⟩
    rw [← hb]
    obtain ⟨_, info, z, hi', hzz, hrun⟩ := T.run
    rw [hrun _ _ x hx, show srcCells (g.grd l) esz x = some (ys, 0) from hs] at e1
    simp only [Option.bind_some, h1, cond_true, Nat.beq_refl] at e1
    unfold appNone at e1
    split at e1
    · injection e1 with e1; injection e1 with e1 _; injection e1
    · obtain ⟨_, e1⟩ := cond_some e1
      injection e1 with e1; injection e1 with e1 _; injection e1
    · cases e1
  · have := append_newE T A hx hs h1 hkp e1
    have hb : a' = some ⟨b, 0, none⟩ := hb
    rw [this] at hb; injection hb with hb; injection hb with hb
    have := (A'.lt (by rw [this])).2
    exact .inr ⟨Nat.le_of_eq hb, by rw [← hb]; exact this⟩
/-- The same where nothing else is under way. -/
theorem Know.app (S : Know h0 g L) (i : Nat) {lo : Nat} {e : TypeId} {esz : Nat} {a : Option Addr} {n c : Nat} {xs : List Value} (hi : L[i]? = some (acc lo e esz a n c xs)) (hlo : h0.nx ≤ lo) (hlo2 : lo ≤ g.nx) {P : Program} {sT : TypeId} {bytes : Nat} (T : AppT P sT e esz bytes)
    {x : Value} {ys : List Value} {k : Nat} (hx : ∃ a n c, x = .slice a n c) (hs : srcCells g esz x = some (ys, k)) (hk : ys.length = k * esz) (h1 : ys.all one = true) (hB : (n + k + (n + k)) * bytes ≤ 281474976710656) (hU : n + k < big) :
    ∃ a' n' c' h', appendV P g sT sT (.slice a n c) x = some (.slice a' n' c', h') ∧ n' = n + k ∧ Know h0 h' (L.set i (acc lo e esz a' n' c' (xs ++ ys))) := by
  have A : AccE g lo e esz a n c xs := S.get i hi
  obtain ⟨a', n', c', h', e1, en, S'⟩ := S.appg (l := []) i hi hlo hlo2 T (fun _ h => by cases h) hx hs hk h1 hB hU
  obtain ⟨a2, n2, c2, h2, e2, _, _, k'⟩ := append_accE T A hlo2 (fun q hq => by have := S.gl q hq; omega) hx hs hk h1 hB hU
  have e1' : appendV P g sT sT (.slice a n c) x = some (.slice a' n' c', h') := e1
  rw [e1'] at e2
  have : h' = h2 := by injection e2 with e2; injection e2
  subst this
  rw [rst_eq k'.gd] at S'
  exact ⟨a', n', c', h', e1', en, S'⟩
end
end Go.Ev
/- Conditions of functions' code, printed by a program of ours. -/
namespace Go.Proofs.YtngcjpkccnfjiaaGreatDoor
open Go Go.Ev
set_option maxRecDepth 100000
set_option linter.unusedVariables false
/-! sward/collect.Alloc -/
noncomputable def b24 : Code := (Tryz.f24.body).getD .skip
noncomputable def stk24_0 : List KI := [.code (sub [1, 1, 1, 1, 0, 0] b24), .code (sub [1, 1, 1, 1, 0, 1] b24), .code (sub [1, 1, 1, 1, 1] b24)]
noncomputable def stk24_1 : List KI := [.code (sub [1, 1, 1, 1, 1, 1, 1, 1, 1, 1, 0] b24), .code (sub [1, 1, 1, 1, 1, 1, 1, 1, 1, 1, 1] b24)]
def lv24 : List (Nat × List Nat) := [(1000005, [2, 3, 4, 6, 7, 8, 10, 11]), (1000015, [4, 6, 7, 8, 13, 14])]
def I24_0 (O : CallF) (Q : Value → Hp → Prop) (a0_0 : Option Addr) (n0_0 : Nat) (c0_0 : Nat) (x0_1 : Int) (a0_2 : Option Addr) (n0_2 : Nat) (c0_2 : Nat) (x1 : Int) (a2 : Option Addr) (n2 : Nat) (c2 : Nat) (b3 : Nat) (f3 : Nat) (b4 : Nat) (f4 : Nat) (b6 : Nat) (f6 : Nat) (x10 : Int) (b11 : Nat) (f11 : Nat) (h : Hp) : Prop := RKL Tryz.prog O Tryz.f24 stk24_0 67 [2, 3, 4, 6, 7, 8, 10, 11] [(.slice a2 n2 c2), (.pointer (some ⟨b3, f3, none⟩)), (.pointer (some ⟨b4, f4, none⟩)), (.pointer (some ⟨b6, f6, none⟩)), (.int .i64 0), (.int .i64 0), (.int .i64 x10), (.pointer (some ⟨b11, f11, none⟩))] h Q
def I24_1 (O : CallF) (Q : Value → Hp → Prop) (a0_0 : Option Addr) (n0_0 : Nat) (c0_0 : Nat) (x0_1 : Int) (a0_2 : Option Addr) (n0_2 : Nat) (c0_2 : Nat) (x1 : Int) (a2 : Option Addr) (n2 : Nat) (c2 : Nat) (b4 : Nat) (f4 : Nat) (b6 : Nat) (f6 : Nat) (b13 : Nat) (f13 : Nat) (a14 : Option Addr) (n14 : Nat) (c14 : Nat) (h : Hp) : Prop := RKL Tryz.prog O Tryz.f24 stk24_1 67 [4, 6, 7, 8, 13, 14] [(.pointer (some ⟨b4, f4, none⟩)), (.pointer (some ⟨b6, f6, none⟩)), (.int .i64 0), (.int .i64 0), (.pointer (some ⟨b13, f13, none⟩)), (.slice a14 n14 c14)] h Q
def T24 (O : CallF) (Q : Value → Hp → Prop) (a0_0 : Option Addr) (n0_0 : Nat) (c0_0 : Nat) (x0_1 : Int) (a0_2 : Option Addr) (n0_2 : Nat) (c0_2 : Nat) (x1 : Int) (a2 : Option Addr) (n2 : Nat) (c2 : Nat) (h : Hp) : Prop :=
  let g1 : Hp := h.add (.cells [(.slice a0_0 n0_0 c0_0), (.int .i64 x0_1), (.slice a0_2 n0_2 c0_2)] 24 .fix)
  let g2 : Hp := g1.add (.cells [(.int .i64 x1)] 37 .fix)
  let g3 : Hp := g2.add (.cells [(.slice none 0 0), (.int .i64 0), (.slice none 0 0)] 24 .fix)
  ∃ a4' n5' c6', ∃ x7', ∃ a8' n9' c10', readAt g3 h.nx 0 3 = some [(.slice a4' n5' c6'), (.int .i64 x7'), (.slice a8' n9' c10')] ∧
  ∃ a11' n12' c13', ∃ x14', ∃ h15', EvC Tryz.prog O 65 [(.agg #[(.slice a4' n5' c6'), (.int .i64 x7'), (.slice a8' n9' c10')])] g3 (.tuple #[(.slice a11' n12' c13'), (.int .i64 x14')]) h15' ∧
  let g16 : Hp := h15'.add (.cells [(.slice none 0 0)] 102 .fix)
  vreq (canW g16 h15'.nx 0 [(.slice a11' n12' c13')])
  (let g17 : Hp := g16.wr h15'.nx 0 [(.slice a11' n12' c13')]
  ∃ x18', readAt g17 g1.nx 0 1 = some [(.int .i64 x18')] ∧
  let g19 : Hp := g17.add (.cells [(.int .i64 0), (.int .i64 0)] 117 .fix)
  vreq (canW g19 g17.nx 0 [(.int .i64 (Int.ofNat n2)), (.int .i64 x18')])
  (let g20 : Hp := g19.wr g17.nx 0 [(.int .i64 (Int.ofNat n2)), (.int .i64 x18')]
  vcond (eqI x14' 0)
  (∃ x21', ∃ x22', readAt g20 g17.nx 0 2 = some [(.int .i64 x21'), (.int .i64 x22')] ∧
  ∃ q23', ∃ h24', EvC Tryz.prog O 75 [(.agg #[(.int .i64 x21'), (.int .i64 x22')])] g20 (.bool q23') h24' ∧
  vcond (!q23')
  (I24_0 O Q a0_0 n0_0 c0_0 x0_1 a0_2 n0_2 c0_2 x1 a2 n2 c2 h.nx 0 g1.nx 0 g2.nx 0 2 g17.nx 0 h24')
  (∃ q25', ∃ h26', EvC Tryz.prog O 76 [(.slice a2 n2 c2), (.func (.func 77) #[] #[(.pointer (some ⟨h15'.nx, 0, none⟩)), (.pointer (some ⟨g1.nx, 0, none⟩))])] h24' (.bool q25') h26' ∧
  vcond q25'
  (I24_0 O Q a0_0 n0_0 c0_0 x0_1 a0_2 n0_2 c0_2 x1 a2 n2 c2 h.nx 0 g1.nx 0 g2.nx 0 2 g17.nx 0 h26')
  (I24_0 O Q a0_0 n0_0 c0_0 x0_1 a0_2 n0_2 c0_2 x1 a2 n2 c2 h.nx 0 g1.nx 0 g2.nx 0 x14' g17.nx 0 h26')))
  (I24_0 O Q a0_0 n0_0 c0_0 x0_1 a0_2 n0_2 c0_2 x1 a2 n2 c2 h.nx 0 g1.nx 0 g2.nx 0 x14' g17.nx 0 g20)))
theorem rk24 {O Q} (a0_0 n0_0 c0_0 x0_1 a0_2 n0_2 c0_2 x1 a2 n2 c2) {h : Hp} (hO : O 24 [(.agg #[(.slice a0_0 n0_0 c0_0), (.int .i64 x0_1), (.slice a0_2 n0_2 c0_2)]), (.int .i64 x1), (.slice a2 n2 c2)] h = none) (hh : T24 O Q a0_0 n0_0 c0_0 x0_1 a0_2 n0_2 c0_2 x1 a2 n2 c2 h) : Ret Tryz.prog O 24 [(.agg #[(.slice a0_0 n0_0 c0_0), (.int .i64 x0_1), (.slice a0_2 n0_2 c0_2)]), (.int .i64 x1), (.slice a2 n2 c2)] h Q :=
  .of (c := b24) Tryz.func24 (by kernel_rfl) hO (V_ok (tb := lv24) (cuts := [5, 15]) 500 (Eq.mp (by kernel_rfl) hh))
def T24_0 (O : CallF) (Q : Value → Hp → Prop) (a0_0 : Option Addr) (n0_0 : Nat) (c0_0 : Nat) (x0_1 : Int) (a0_2 : Option Addr) (n0_2 : Nat) (c0_2 : Nat) (x1 : Int) (a2 : Option Addr) (n2 : Nat) (c2 : Nat) (b3 : Nat) (f3 : Nat) (b4 : Nat) (f4 : Nat) (b6 : Nat) (f6 : Nat) (x10 : Int) (b11 : Nat) (f11 : Nat) (h : Hp) : Prop :=
  vcond (!(eqI x10 0))
  (vreq (canW h b6 f6 [(.slice none 0 0), (.int .i64 0), (.slice none 0 0)])
  (let g101 : Hp := h.wr b6 f6 [(.slice none 0 0), (.int .i64 0), (.slice none 0 0)]
  ∃ a102' n103' c104', ∃ x105', ∃ a106' n107' c108', readAt g101 b6 f6 3 = some [(.slice a102' n103' c104'), (.int .i64 x105'), (.slice a106' n107' c108')] ∧
  Q (.tuple #[(.agg #[(.slice a102' n103' c104'), (.int .i64 x105'), (.slice a106' n107' c108')]), (.int .i64 0), (.int .i64 x10)]) g101))
  (∃ x109', ∃ x110', readAt h b11 f11 2 = some [(.int .i64 x109'), (.int .i64 x110')] ∧
  ∃ q111', ∃ h112', EvC Tryz.prog O 79 [(.agg #[(.int .i64 x109'), (.int .i64 x110')])] h (.bool q111') h112' ∧
  vcond q111'
  (∃ a113' n114' c115', ∃ x116', ∃ a117' n118' c119', readAt h112' b3 f3 3 = some [(.slice a113' n114' c115'), (.int .i64 x116'), (.slice a117' n118' c119')] ∧
  ∃ a120' n121' c122', ∃ x123', ∃ a124' n125' c126', ∃ a127' n128' c129', ∃ q130', ∃ h131', EvC Tryz.prog O 80 [(.agg #[(.slice a113' n114' c115'), (.int .i64 x116'), (.slice a117' n118' c119')]), (.int .i64 (wrapF .i64 (1 + (Int.ofNat n2)))), (.slice a2 n2 c2)] h112' (.tuple #[(.agg #[(.slice a120' n121' c122'), (.int .i64 x123'), (.slice a124' n125' c126')]), (.slice a127' n128' c129'), (.bool q130')]) h131' ∧
  let g132 : Hp := h131'.add (.cells [(.slice none 0 0), (.int .i64 0), (.slice none 0 0)] 24 .fix)
  vreq (canW g132 h131'.nx 0 [(.slice a120' n121' c122'), (.int .i64 x123'), (.slice a124' n125' c126')])
  (let g133 : Hp := g132.wr h131'.nx 0 [(.slice a120' n121' c122'), (.int .i64 x123'), (.slice a124' n125' c126')]
  vcond (!q130')
  (vreq (canW g133 b6 f6 [(.slice none 0 0), (.int .i64 0), (.slice none 0 0)])
  (let g134 : Hp := g133.wr b6 f6 [(.slice none 0 0), (.int .i64 0), (.slice none 0 0)]
  ∃ a135' n136' c137', ∃ x138', ∃ a139' n140' c141', readAt g134 b6 f6 3 = some [(.slice a135' n136' c137'), (.int .i64 x138'), (.slice a139' n140' c141')] ∧
  Q (.tuple #[(.agg #[(.slice a135' n136' c137'), (.int .i64 x138'), (.slice a139' n140' c141')]), (.int .i64 0), (.int .i64 3)]) g134))
  (∃ x142', ∃ x143', readAt g133 b11 f11 2 = some [(.int .i64 x142'), (.int .i64 x143')] ∧
  ∃ q144', ∃ h145', EvC Tryz.prog O 79 [(.agg #[(.int .i64 x142'), (.int .i64 x143')])] g133 (.bool q144') h145' ∧
  vcond (!q144')
  (I24_1 O Q a0_0 n0_0 c0_0 x0_1 a0_2 n0_2 c0_2 x1 a2 n2 c2 b4 f4 b6 f6 h131'.nx 0 a2 n2 c2 h145')
  (I24_1 O Q a0_0 n0_0 c0_0 x0_1 a0_2 n0_2 c0_2 x1 a2 n2 c2 b4 f4 b6 f6 h131'.nx 0 a127' n128' c129' h145'))))
  (∃ a146' n147' c148', ∃ x149', ∃ a150' n151' c152', readAt h112' b3 f3 3 = some [(.slice a146' n147' c148'), (.int .i64 x149'), (.slice a150' n151' c152')] ∧
  ∃ a153' n154' c155', ∃ x156', ∃ a157' n158' c159', ∃ a160' n161' c162', ∃ q163', ∃ h164', EvC Tryz.prog O 80 [(.agg #[(.slice a146' n147' c148'), (.int .i64 x149'), (.slice a150' n151' c152')]), (.int .i64 (wrapF .i64 (1 + (Int.ofNat n2)))), (.slice none 0 0)] h112' (.tuple #[(.agg #[(.slice a153' n154' c155'), (.int .i64 x156'), (.slice a157' n158' c159')]), (.slice a160' n161' c162'), (.bool q163')]) h164' ∧
  let g165 : Hp := h164'.add (.cells [(.slice none 0 0), (.int .i64 0), (.slice none 0 0)] 24 .fix)
  vreq (canW g165 h164'.nx 0 [(.slice a153' n154' c155'), (.int .i64 x156'), (.slice a157' n158' c159')])
  (let g166 : Hp := g165.wr h164'.nx 0 [(.slice a153' n154' c155'), (.int .i64 x156'), (.slice a157' n158' c159')]
  vcond (!q163')
  (vreq (canW g166 b6 f6 [(.slice none 0 0), (.int .i64 0), (.slice none 0 0)])
  (let g167 : Hp := g166.wr b6 f6 [(.slice none 0 0), (.int .i64 0), (.slice none 0 0)]
  ∃ a168' n169' c170', ∃ x171', ∃ a172' n173' c174', readAt g167 b6 f6 3 = some [(.slice a168' n169' c170'), (.int .i64 x171'), (.slice a172' n173' c174')] ∧
  Q (.tuple #[(.agg #[(.slice a168' n169' c170'), (.int .i64 x171'), (.slice a172' n173' c174')]), (.int .i64 0), (.int .i64 3)]) g167))
  (∃ x175', ∃ x176', readAt g166 b11 f11 2 = some [(.int .i64 x175'), (.int .i64 x176')] ∧
  ∃ q177', ∃ h178', EvC Tryz.prog O 79 [(.agg #[(.int .i64 x175'), (.int .i64 x176')])] g166 (.bool q177') h178' ∧
  vcond (!q177')
  (I24_1 O Q a0_0 n0_0 c0_0 x0_1 a0_2 n0_2 c0_2 x1 a2 n2 c2 b4 f4 b6 f6 h164'.nx 0 a2 n2 c2 h178')
  (I24_1 O Q a0_0 n0_0 c0_0 x0_1 a0_2 n0_2 c0_2 x1 a2 n2 c2 b4 f4 b6 f6 h164'.nx 0 a160' n161' c162' h178')))))
theorem I24_0.of {O Q} (a0_0 n0_0 c0_0 x0_1 a0_2 n0_2 c0_2 x1 a2 n2 c2 b3 f3 b4 f4 b6 f6 x10 b11 f11) {h : Hp} (hh : T24_0 O Q a0_0 n0_0 c0_0 x0_1 a0_2 n0_2 c0_2 x1 a2 n2 c2 b3 f3 b4 f4 b6 f6 x10 b11 f11 h) : I24_0 O Q a0_0 n0_0 c0_0 x0_1 a0_2 n0_2 c0_2 x1 a2 n2 c2 b3 f3 b4 f4 b6 f6 x10 b11 f11 h :=
  RKL.of (tb := lv24) (cuts := [5, 15]) 500 fun _ => Eq.mp (by kernel_rfl) hh
def T24_1 (O : CallF) (Q : Value → Hp → Prop) (a0_0 : Option Addr) (n0_0 : Nat) (c0_0 : Nat) (x0_1 : Int) (a0_2 : Option Addr) (n0_2 : Nat) (c0_2 : Nat) (x1 : Int) (a2 : Option Addr) (n2 : Nat) (c2 : Nat) (b4 : Nat) (f4 : Nat) (b6 : Nat) (f6 : Nat) (b13 : Nat) (f13 : Nat) (a14 : Option Addr) (n14 : Nat) (c14 : Nat) (h : Hp) : Prop :=
  ∃ x201', readAt h b4 f4 1 = some [(.int .i64 x201')] ∧
  ∃ x202', ∃ h203', EvC Tryz.prog O 81 [(.pointer (some ⟨b13, f13, none⟩)), (.int .i64 x201'), (.slice a14 n14 c14)] h (.int .i64 x202') h203' ∧
  ∃ a204' n205' c206', ∃ x207', ∃ a208' n209' c210', readAt h203' b13 f13 3 = some [(.slice a204' n205' c206'), (.int .i64 x207'), (.slice a208' n209' c210')] ∧
  vreq (canW h203' b6 f6 [(.slice a204' n205' c206'), (.int .i64 x207'), (.slice a208' n209' c210')])
  (let g211 : Hp := h203'.wr b6 f6 [(.slice a204' n205' c206'), (.int .i64 x207'), (.slice a208' n209' c210')]
  ∃ a212' n213' c214', ∃ x215', ∃ a216' n217' c218', readAt g211 b6 f6 3 = some [(.slice a212' n213' c214'), (.int .i64 x215'), (.slice a216' n217' c218')] ∧
  Q (.tuple #[(.agg #[(.slice a212' n213' c214'), (.int .i64 x215'), (.slice a216' n217' c218')]), (.int .i64 x202'), (.int .i64 0)]) g211)
theorem I24_1.of {O Q} (a0_0 n0_0 c0_0 x0_1 a0_2 n0_2 c0_2 x1 a2 n2 c2 b4 f4 b6 f6 b13 f13 a14 n14 c14) {h : Hp} (hh : T24_1 O Q a0_0 n0_0 c0_0 x0_1 a0_2 n0_2 c0_2 x1 a2 n2 c2 b4 f4 b6 f6 b13 f13 a14 n14 c14 h) : I24_1 O Q a0_0 n0_0 c0_0 x0_1 a0_2 n0_2 c0_2 x1 a2 n2 c2 b4 f4 b6 f6 b13 f13 a14 n14 c14 h :=
  RKL.of (tb := lv24) (cuts := [5, 15]) 500 fun _ => Eq.mp (by kernel_rfl) hh
/-! sward/swardref15.Alloc -/
noncomputable def b25 : Code := (Tryz.f25.body).getD .skip
noncomputable def stk25_0 : List KI := [.code (sub [1, 1, 1, 1, 1, 0] b25), .code (sub [1, 1, 1, 1, 1, 1] b25)]
def I25_0 (O : CallF) (Q : Value → Hp → Prop) (a0_0 : Option Addr) (n0_0 : Nat) (c0_0 : Nat) (x0_1 : Int) (a0_2 : Option Addr) (n0_2 : Nat) (c0_2 : Nat) (x1 : Int) (a2 : Option Addr) (n2 : Nat) (c2 : Nat) (b3 : Nat) (f3 : Nat) (b6 : Nat) (f6 : Nat) (q11 : Bool) (h : Hp) : Prop := RKL Tryz.prog O Tryz.f25 stk25_0 67 [1, 2, 3, 6, 7, 8, 11] [(.int .i64 x1), (.slice a2 n2 c2), (.pointer (some ⟨b3, f3, none⟩)), (.pointer (some ⟨b6, f6, none⟩)), (.int .i64 0), (.int .i64 0), (.bool q11)] h Q
def T25 (O : CallF) (Q : Value → Hp → Prop) (a0_0 : Option Addr) (n0_0 : Nat) (c0_0 : Nat) (x0_1 : Int) (a0_2 : Option Addr) (n0_2 : Nat) (c0_2 : Nat) (x1 : Int) (a2 : Option Addr) (n2 : Nat) (c2 : Nat) (h : Hp) : Prop :=
  let g1 : Hp := h.add (.cells [(.slice a0_0 n0_0 c0_0), (.int .i64 x0_1), (.slice a0_2 n0_2 c0_2)] 24 .fix)
  let g2 : Hp := g1.add (.cells [(.slice none 0 0), (.int .i64 0), (.slice none 0 0)] 24 .fix)
  ∃ a3' n4' c5', ∃ x6', ∃ a7' n8' c9', readAt g2 h.nx 0 3 = some [(.slice a3' n4' c5'), (.int .i64 x6'), (.slice a7' n8' c9')] ∧
  ∃ a10' n11' c12', ∃ x13', ∃ h14', EvC Tryz.prog O 37 [(.agg #[(.slice a3' n4' c5'), (.int .i64 x6'), (.slice a7' n8' c9')])] g2 (.tuple #[(.slice a10' n11' c12'), (.int .i64 x13')]) h14' ∧
  vcond (eqI x13' 0)
  (∃ q15', ∃ h16', EvC Tryz.prog O 82 [(.slice a10' n11' c12'), (.int .i64 x1), (.slice a2 n2 c2)] h14' (.bool q15') h16' ∧
  vcond (!q15')
  (vreq (canW h16' g1.nx 0 [(.slice none 0 0), (.int .i64 0), (.slice none 0 0)])
  (let g17 : Hp := h16'.wr g1.nx 0 [(.slice none 0 0), (.int .i64 0), (.slice none 0 0)]
  ∃ a18' n19' c20', ∃ x21', ∃ a22' n23' c24', readAt g17 g1.nx 0 3 = some [(.slice a18' n19' c20'), (.int .i64 x21'), (.slice a22' n23' c24')] ∧
  Q (.tuple #[(.agg #[(.slice a18' n19' c20'), (.int .i64 x21'), (.slice a22' n23' c24')]), (.int .i64 0), (.int .i64 2)]) g17))
  (vcond (!(eqI x13' 0))
  (vreq (canW h16' g1.nx 0 [(.slice none 0 0), (.int .i64 0), (.slice none 0 0)])
  (let g25 : Hp := h16'.wr g1.nx 0 [(.slice none 0 0), (.int .i64 0), (.slice none 0 0)]
  ∃ a26' n27' c28', ∃ x29', ∃ a30' n31' c32', readAt g25 g1.nx 0 3 = some [(.slice a26' n27' c28'), (.int .i64 x29'), (.slice a30' n31' c32')] ∧
  Q (.tuple #[(.agg #[(.slice a26' n27' c28'), (.int .i64 x29'), (.slice a30' n31' c32')]), (.int .i64 0), (.int .i64 x13')]) g25))
  (vcond (eqI x1 3)
  (I25_0 O Q a0_0 n0_0 c0_0 x0_1 a0_2 n0_2 c0_2 x1 a2 n2 c2 h.nx 0 g1.nx 0 true h16')
  (I25_0 O Q a0_0 n0_0 c0_0 x0_1 a0_2 n0_2 c0_2 x1 a2 n2 c2 h.nx 0 g1.nx 0 (eqI x1 4) h16'))))
  (vcond (!(eqI x13' 0))
  (vreq (canW h14' g1.nx 0 [(.slice none 0 0), (.int .i64 0), (.slice none 0 0)])
  (let g33 : Hp := h14'.wr g1.nx 0 [(.slice none 0 0), (.int .i64 0), (.slice none 0 0)]
  ∃ a34' n35' c36', ∃ x37', ∃ a38' n39' c40', readAt g33 g1.nx 0 3 = some [(.slice a34' n35' c36'), (.int .i64 x37'), (.slice a38' n39' c40')] ∧
  Q (.tuple #[(.agg #[(.slice a34' n35' c36'), (.int .i64 x37'), (.slice a38' n39' c40')]), (.int .i64 0), (.int .i64 x13')]) g33))
  (vcond (eqI x1 3)
  (I25_0 O Q a0_0 n0_0 c0_0 x0_1 a0_2 n0_2 c0_2 x1 a2 n2 c2 h.nx 0 g1.nx 0 true h14')
  (I25_0 O Q a0_0 n0_0 c0_0 x0_1 a0_2 n0_2 c0_2 x1 a2 n2 c2 h.nx 0 g1.nx 0 (eqI x1 4) h14')))
/-! slices.Clone[[]int,int] -/
noncomputable def b46 : Code := (Tryz.f46.body).getD .skip
def lv46 : List (Nat × List Nat) := []
def T46 (O : CallF) (Q : Value → Hp → Prop) (a0 : Option Addr) (n0 : Nat) (c0 : Nat) (h : Hp) : Prop :=
  vnil a0
  (Q (.slice none 0 0) h)
  (let g1 : Hp := h.add (.cells [] 3 .fix)
  ∃ a2' n3' c4' h5', appendV Tryz.prog g1 22 22 (.slice (some ⟨h.nx, 0, none⟩) 0 0) (.slice a0 n0 c0) = some (.slice a2' n3' c4', h5') ∧
  Q (.slice a2' n3' c4') h5')
theorem rk46 {O Q} (a0 n0 c0) {h : Hp} (hO : O 46 [(.slice a0 n0 c0)] h = none) (hh : T46 O Q a0 n0 c0 h) : Ret Tryz.prog O 46 [(.slice a0 n0 c0)] h Q :=
  .of (c := b46) Tryz.func46 (by kernel_rfl) hO (V_ok (tb := lv46) (cuts := []) 500 (Eq.mp (by kernel_rfl) hh))
/-! sward/collect.Alloc$1 -/
noncomputable def b77 : Code := (Tryz.f77.body).getD .skip
def lv77 : List (Nat × List Nat) := []
def T77 (O : CallF) (Q : Value → Hp → Prop) (x0 : Int) (b1 : Nat) (f1 : Nat) (b2 : Nat) (f2 : Nat) (h : Hp) : Prop :=
  ∃ a1' n2' c3', readAt h b1 f1 1 = some [(.slice a1' n2' c3')] ∧
  ∃ x4', readAt h b2 f2 1 = some [(.int .i64 x4')] ∧
  ∃ q5', ∃ h6', EvC Tryz.prog O 78 [(.slice a1' n2' c3'), (.int .i64 x4'), (.int .i64 x0)] h (.bool q5') h6' ∧
  Q (.bool (!q5')) h6'
theorem rk77 {O Q} (x0 b1 f1 b2 f2) {h : Hp} (hO : O 77 [(.int .i64 x0), (.pointer (some ⟨b1, f1, none⟩)), (.pointer (some ⟨b2, f2, none⟩))] h = none) (hh : T77 O Q x0 b1 f1 b2 f2 h) : Ret Tryz.prog O 77 [(.int .i64 x0), (.pointer (some ⟨b1, f1, none⟩)), (.pointer (some ⟨b2, f2, none⟩))] h Q :=
  .of (c := b77) Tryz.func77 (by kernel_rfl) hO (V_ok (tb := lv77) (cuts := []) 500 (Eq.mp (by kernel_rfl) hh))
/-! sward/collect.room -/
noncomputable def b80 : Code := (Tryz.f80.body).getD .skip
def lv80 : List (Nat × List Nat) := []
def T80 (O : CallF) (Q : Value → Hp → Prop) (a0_0 : Option Addr) (n0_0 : Nat) (c0_0 : Nat) (x0_1 : Int) (a0_2 : Option Addr) (n0_2 : Nat) (c0_2 : Nat) (x1 : Int) (a2 : Option Addr) (n2 : Nat) (c2 : Nat) (h : Hp) : Prop :=
  let g1 : Hp := h.add (.cells [(.slice a0_0 n0_0 c0_0), (.int .i64 x0_1), (.slice a0_2 n0_2 c0_2)] 24 .fix)
  let g2 : Hp := g1.add (.cells [(.slice none 0 0), (.int .i64 0), (.slice none 0 0)] 24 .fix)
  ∃ x3', readAt g2 h.nx 1 1 = some [(.int .i64 x3')] ∧
  ∃ a4' n5' c6', readAt g2 h.nx 0 1 = some [(.slice a4' n5' c6')] ∧
  vcond (!(ltI (Int.ofNat n5') (wrapF .i64 (x3' + x1))))
  (∃ a7' n8' c9', ∃ x10', ∃ a11' n12' c13', readAt g2 h.nx 0 3 = some [(.slice a7' n8' c9'), (.int .i64 x10'), (.slice a11' n12' c13')] ∧
  ∃ a14' n15' c16', ∃ x17', ∃ a18' n19' c20', ∃ h21', EvC Tryz.prog O 87 [(.agg #[(.slice a7' n8' c9'), (.int .i64 x10'), (.slice a11' n12' c13')])] g2 (.agg #[(.slice a14' n15' c16'), (.int .i64 x17'), (.slice a18' n19' c20')]) h21' ∧
  vreq (canW h21' g1.nx 0 [(.slice a14' n15' c16'), (.int .i64 x17'), (.slice a18' n19' c20')])
  (let g22 : Hp := h21'.wr g1.nx 0 [(.slice a14' n15' c16'), (.int .i64 x17'), (.slice a18' n19' c20')]
  ∃ a23' n24' c25', ∃ x26', ∃ a27' n28' c29', readAt g22 g1.nx 0 3 = some [(.slice a23' n24' c25'), (.int .i64 x26'), (.slice a27' n28' c29')] ∧
  Q (.tuple #[(.agg #[(.slice a23' n24' c25'), (.int .i64 x26'), (.slice a27' n28' c29')]), (.slice a2 n2 c2), (.bool true)]) g22))
  (∃ a30' n31' c32', ∃ x33', ∃ a34' n35' c36', readAt g2 h.nx 0 3 = some [(.slice a30' n31' c32'), (.int .i64 x33'), (.slice a34' n35' c36')] ∧
  ∃ a37' n38' c39', ∃ x40', ∃ a41' n42' c43', ∃ a44' n45' c46', ∃ a47', ∃ h48', EvC Tryz.prog O 62 [(.agg #[(.slice a30' n31' c32'), (.int .i64 x33'), (.slice a34' n35' c36')]), (.int .i64 1), (.slice a2 n2 c2)] g2 (.tuple #[(.agg #[(.slice a37' n38' c39'), (.int .i64 x40'), (.slice a41' n42' c43')]), (.slice a44' n45' c46'), (.pointer a47')]) h48' ∧
  vreq (canW h48' h.nx 0 [(.slice a37' n38' c39'), (.int .i64 x40'), (.slice a41' n42' c43')])
  (let g49 : Hp := h48'.wr h.nx 0 [(.slice a37' n38' c39'), (.int .i64 x40'), (.slice a41' n42' c43')]
  let g50 : Hp := g49.rsv 13
  ∃ a51' n52' c53', ∃ x54', ∃ a55' n56' c57', readAt g50 h.nx 0 3 = some [(.slice a51' n52' c53'), (.int .i64 x54'), (.slice a55' n56' c57')] ∧
  ∃ x58', readAt g50 h.nx 1 1 = some [(.int .i64 x58')] ∧
  ∃ a59' n60' c61', readAt g50 h.nx 0 1 = some [(.slice a59' n60' c61')] ∧
  vreq (canW (g50.grd [h.nx, h.nx]) g1.nx 0 [(.slice a51' n52' c53'), (.int .i64 x54'), (.slice a55' n56' c57')])
  (let g62 : Hp := (g50.grd [h.nx, h.nx]).wr g1.nx 0 [(.slice a51' n52' c53'), (.int .i64 x54'), (.slice a55' n56' c57')]
  let g63 : Hp := g62.rst g50
  ∃ a64' n65' c66', ∃ x67', ∃ a68' n69' c70', readAt g63 g1.nx 0 3 = some [(.slice a64' n65' c66'), (.int .i64 x67'), (.slice a68' n69' c70')] ∧
  Q (.tuple #[(.agg #[(.slice a64' n65' c66'), (.int .i64 x67'), (.slice a68' n69' c70')]), (.slice a44' n45' c46'), (.bool (!(ltI (Int.ofNat n60') (wrapF .i64 (x58' + x1)))))]) g63)))
theorem rk80 {O Q} (a0_0 n0_0 c0_0 x0_1 a0_2 n0_2 c0_2 x1 a2 n2 c2) {h : Hp} (hO : O 80 [(.agg #[(.slice a0_0 n0_0 c0_0), (.int .i64 x0_1), (.slice a0_2 n0_2 c0_2)]), (.int .i64 x1), (.slice a2 n2 c2)] h = none) (hh : T80 O Q a0_0 n0_0 c0_0 x0_1 a0_2 n0_2 c0_2 x1 a2 n2 c2 h) : Ret Tryz.prog O 80 [(.agg #[(.slice a0_0 n0_0 c0_0), (.int .i64 x0_1), (.slice a0_2 n0_2 c0_2)]), (.int .i64 x1), (.slice a2 n2 c2)] h Q :=
  .of (c := b80) Tryz.func80 (by kernel_rfl) hO (V_ok (tb := lv80) (cuts := []) 500 (Eq.mp (by kernel_rfl) hh))
/-! sward/collect.lay -/
noncomputable def b81 : Code := (Tryz.f81.body).getD .skip
def lv81 : List (Nat × List Nat) := []
def T81 (O : CallF) (Q : Value → Hp → Prop) (b0 : Nat) (f0 : Nat) (x1 : Int) (a2 : Option Addr) (n2 : Nat) (c2 : Nat) (h : Hp) : Prop :=
  ∃ x1', readAt h b0 (f0 + 1) 1 = some [(.int .i64 x1')] ∧
  ∃ a2' n3' c4', readAt h b0 (f0 + 0) 1 = some [(.slice a2' n3' c4')] ∧
  isNat x1' fun n5' =>
  isAddr a2' fun b6' f7' =>
  vreq (Nat.blt n5' n3')
  (vreq (canW h b6' (f7' + (n5' * 1)) [(.int .i64 (wrapF .i64 ((wrapF .i64 (8 * (Int.ofNat n2))) + x1)))])
  (let g8 : Hp := h.wr b6' (f7' + (n5' * 1)) [(.int .i64 (wrapF .i64 ((wrapF .i64 (8 * (Int.ofNat n2))) + x1)))]
  let g9 : Hp := g8.rsv 18
  ∃ x10', readAt g9 b0 (f0 + 1) 1 = some [(.int .i64 x10')] ∧
  ∃ a11' n12' c13', readAt g9 b0 (f0 + 0) 1 = some [(.slice a11' n12' c13')] ∧
  ∃ a14' n15' c16', sliceV Tryz.prog g9 22 (.slice a11' n12' c13') (some (.int .i64 (wrapF .i64 (x1' + 1)))) none none = some (.slice a14' n15' c16') ∧
  ∃ x17' h18', copyV Tryz.prog (g9.grd [b0]) 22 (.slice a14' n15' c16') (.slice a2 n2 c2) = some (.int .i64 x17', h18') ∧
  let g19 : Hp := h18'.rst g9
  vreq (canW (g19.grd []) b0 (f0 + 1) [(.int .i64 (wrapF .i64 (x10' + (wrapF .i64 (1 + x17')))))])
  (let g20 : Hp := (g19.grd []).wr b0 (f0 + 1) [(.int .i64 (wrapF .i64 (x10' + (wrapF .i64 (1 + x17')))))]
  let g21 : Hp := g20.rst g19
  Q (.int .i64 (wrapF .i64 (2 * x1'))) g21)))
theorem rk81 {O Q} (b0 f0 x1 a2 n2 c2) {h : Hp} (hO : O 81 [(.pointer (some ⟨b0, f0, none⟩)), (.int .i64 x1), (.slice a2 n2 c2)] h = none) (hh : T81 O Q b0 f0 x1 a2 n2 c2 h) : Ret Tryz.prog O 81 [(.pointer (some ⟨b0, f0, none⟩)), (.int .i64 x1), (.slice a2 n2 c2)] h Q :=
  .of (c := b81) Tryz.func81 (by kernel_rfl) hO (V_ok (tb := lv81) (cuts := []) 500 (Eq.mp (by kernel_rfl) hh))
/-! sward/collect.clone -/
noncomputable def b87 : Code := (Tryz.f87.body).getD .skip
def lv87 : List (Nat × List Nat) := []
def T87 (O : CallF) (Q : Value → Hp → Prop) (a0_0 : Option Addr) (n0_0 : Nat) (c0_0 : Nat) (x0_1 : Int) (a0_2 : Option Addr) (n0_2 : Nat) (c0_2 : Nat) (h : Hp) : Prop :=
  let g1 : Hp := h.add (.cells [(.slice a0_0 n0_0 c0_0), (.int .i64 x0_1), (.slice a0_2 n0_2 c0_2)] 24 .fix)
  let g2 : Hp := g1.add (.cells [(.slice none 0 0), (.int .i64 0), (.slice none 0 0)] 24 .fix)
  let g3 : Hp := g2.rsv 10
  ∃ a4' n5' c6', readAt g3 h.nx 0 1 = some [(.slice a4' n5' c6')] ∧
  ∃ x7', readAt g3 h.nx 1 1 = some [(.int .i64 x7')] ∧
  ∃ a8' n9' c10', readAt g3 h.nx 2 1 = some [(.slice a8' n9' c10')] ∧
  ∃ a11' n12' c13', ∃ h14', EvC Tryz.prog O 46 [(.slice a4' n5' c6')] (g3.grd [h.nx, h.nx]) (.slice a11' n12' c13') h14' ∧
  let g15 : Hp := h14'.rst g3
  ∃ a16' n17' c18', ∃ h19', EvC Tryz.prog O 46 [(.slice a8' n9' c10')] (g15.grd [h.nx]) (.slice a16' n17' c18') h19' ∧
  let g20 : Hp := h19'.rst g15
  vreq (canW (g20.grd []) g1.nx 0 [(.slice a11' n12' c13'), (.int .i64 x7'), (.slice a16' n17' c18')])
  (let g21 : Hp := (g20.grd []).wr g1.nx 0 [(.slice a11' n12' c13'), (.int .i64 x7'), (.slice a16' n17' c18')]
  let g22 : Hp := g21.rst g20
  ∃ a23' n24' c25', ∃ x26', ∃ a27' n28' c29', readAt g22 g1.nx 0 3 = some [(.slice a23' n24' c25'), (.int .i64 x26'), (.slice a27' n28' c29')] ∧
  Q (.agg #[(.slice a23' n24' c25'), (.int .i64 x26'), (.slice a27' n28' c29')]) g22)
theorem rk87 {O Q} (a0_0 n0_0 c0_0 x0_1 a0_2 n0_2 c0_2) {h : Hp} (hO : O 87 [(.agg #[(.slice a0_0 n0_0 c0_0), (.int .i64 x0_1), (.slice a0_2 n0_2 c0_2)])] h = none) (hh : T87 O Q a0_0 n0_0 c0_0 x0_1 a0_2 n0_2 c0_2 h) : Ret Tryz.prog O 87 [(.agg #[(.slice a0_0 n0_0 c0_0), (.int .i64 x0_1), (.slice a0_2 n0_2 c0_2)])] h Q :=
  .of (c := b87) Tryz.func87 (by kernel_rfl) hO (V_ok (tb := lv87) (cuts := []) 500 (Eq.mp (by kernel_rfl) hh))
/-! sward/swardref15.copied -/
end Go.Proofs.YtngcjpkccnfjiaaGreatDoor
/- Contracts: a heap is copied, a cell is laid. -/
namespace Go.Proofs.YtngcjpkccnfjiaaGreatDoor
set_option maxRecDepth 100000
open Go Go.Ev
abbrev iv (xs : List Int) : List Value := xs.map (Value.int .i64)
theorem iv_one (xs : List Int) : (iv xs).all one = true := by rw [List.all_map]; exact List.all_eq_true.2 fun _ _ => rfl
theorem isAddr_i {b off : Nat} {K : Nat → Nat → Prop} (h : K b off) : isAddr (some ⟨b, off, none⟩) K := h
section
variable {O : CallF} (hO : Oth O)
include hO
/-- 'slices.Clone'. -/
theorem ct46 {g : Hp} (ok : g.Ok) {a : Option Addr} {n c : Nat} {xs : List Int} (X : IntsAt g a n xs) (hl : xs.length < 1000000) : Ret Tryz.prog O 46 [.slice a n c] g fun v h' => ∃ a' n' c', v = .slice a' n' c' ∧ Know g h' [acc g.nx 3 1 a' n' c' (iv xs)] := by
  refine rk46 (hO := hO _ _ _ (by decide)) (hh := ?_) ..
  unfold T46
  have hn := X.1
  cases a with
  | none =>
    have : xs = [] := by
      rcases X.2 with ⟨h, _⟩ | ⟨_, _, _, _, _, h, _⟩
      · exact h
      · cases h
    subst this
    exact ⟨_, _, _, rfl, (Know.nil ok).accNil g.nx 3 1⟩
  | some ad =>
    show let g1 : Hp := g.add (.cells [] 3 .fix)
      _
    intro g1
    have S : Know g g1 [_] := ((Know.nil ok).add _).acc0 0 rfl g.nx (Nat.le_refl _) 3 1
    haveI := S.ft
    obtain ⟨a', n', c', h', e, hn', S⟩ := S.app 0 rfl (Nat.le_refl _) S.lo AppT22 ⟨_, _, _, rfl⟩ (IntsAt.src (SlAt.to g1 X)) (by rw [List.length_map]; omega) (iv_one xs) (by omega) (by unfold big; omega)
    exact ⟨a', n', c', h', e, _, _, _, rfl, S⟩
/-- A heap in new memory. -/
def QCopy (g : Hp) (W : List Int) (top : Int) (R : List Int) : Value → Hp → Prop := fun v h' => ∃ oW ar nr cr lo, v = .agg #[.slice (some ⟨oW, 0, none⟩) W.length unk, .int .i64 top, .slice ar nr cr] ∧ g.nx ≤ lo ∧ Know g h' [ob oW (.cells (iv W) 3 .grow), acc lo 3 1 ar nr cr (iv R)]
theorem ct87 {g : Hp} (ok : g.Ok) {aw : Option Addr} {nw cw : Nat} {W : List Int} {top : Int} {ar : Option Addr} {nr cr : Nat} {R : List Int} (A : HA g aw nw cw W ar nr cr R) (hW : W ≠ []) (lW : W.length < 1000000) (lR : R.length < 1000000) :
    Ret Tryz.prog O 87 [.agg #[.slice aw nw cw, .int .i64 top, .slice ar nr cr]] g (QCopy g W top R) := by
  refine rk87 (hO := hO _ _ _ (by decide)) (hh := ?_) ..
  unfold T87
  intro g1 g2 g3
  have S : Know g g3 [_, _] := (((Know.nil ok).add _).add _).rsv 10
  have := S.lo
  have n3 : g3.nx = g.nx + 12 := rfl
  have n1 : g1.nx = g.nx + 1 := rfl
  haveI := S.ftg [g.nx, g.nx]
  obtain ⟨v, h14, e14, a1, m1, c1, rfl, T⟩ := ct46 hO (S.okg (l := [g.nx, g.nx]) (by intro q hq; have : q = g.nx := (by simpa using hq); omega)) (A.sw.at_.to (g3.grd [g.nx, g.nx])) lW (c := cw)
  refine ⟨_, _, _, S.rd 1 rfl rfl rfl, _, S.rd 1 rfl rfl rfl, _, _, _, S.rd 1 rfl rfl rfl, _, _, _, _, e14, ?_⟩
  intro g15
  have S : Know g g15 [_, _, _] := S.compg T
  have m15 : g3.nx ≤ g15.nx := T.kp.nx
  haveI := S.ftg [g.nx]
  obtain ⟨v, h19, e19, a2, m2, c2, rfl, T⟩ := ct46 hO (S.okg (l := [g.nx]) (by intro q hq; have : q = g.nx := (by simpa using hq); omega)) (A.sr.at_.to (g15.grd [g.nx])) lR (c := cr)
  refine ⟨_, _, _, _, e19, ?_⟩
  intro g20
  have S : Know g g20 [_, _, _, _] := S.compg T
  refine vreq_t (S.cwg 2 rfl (fun _ h => by cases h) (by decide) rfl rfl) ?_
  intro g21 g22
  have S : Know g g22 [_, _, _, _] := S.wrg 2 rfl (fun _ h => by cases h) (by decide) rfl rfl
  obtain ⟨o, rfl, rfl, hm, _, S⟩ := S.accOb 1 rfl (by simpa using hW)
  refine ⟨_, _, _, _, _, _, _, S.rd 2 rfl rfl rfl, o, _, _, _, _, ?_, ?_, S.sel [1, 0] (by decide) rfl⟩
  · rw [show W.length = m1 by simpa using hm.symm]
  · show g.nx ≤ g15.nx; omega
end
end Go.Proofs.YtngcjpkccnfjiaaGreatDoor
/- Contracts: a cell is laid, by the code and by the reference. -/
namespace Go.Proofs.YtngcjpkccnfjiaaGreatDoor
set_option maxRecDepth 100000
open Go Go.Ev
theorem iv_putAt : ∀ (ds xs : List Int) (k : Nat), iv (putAt ds k xs) = putAt (iv ds) k (iv xs) := by
  intro ds
  induction ds with
  | nil => intro xs k; cases k <;> cases xs <;> rfl
  | cons d ds ih =>
    intro xs k
    cases k with
    | zero => cases xs with
      | nil => rfl
      | cons x xs => show _ :: _ = _ :: _; rw [← ih]
    | succ k => show _ :: _ = _ :: _; rw [← ih]
theorem putAt_two {α : Type} : ∀ (ds xs : List α) (k : Nat) (x : α), putAt (putAt ds k [x]) (k + 1) xs = putAt ds k (x :: xs) := by
  intro ds
  induction ds with
  | nil => intro xs k x; cases k <;> cases xs <;> rfl
  | cons d ds ih =>
    intro xs k x
    cases k with
    | zero =>
      show x :: putAt (putAt ds 0 []) 0 xs = x :: putAt ds 0 xs
      rw [putAt_nil]
    | succ k => show d :: _ = d :: _; rw [ih]
/-- The words when a cell is laid. -/
def layP (W : List Int) (top : Nat) (k : Int) (xs : List Int) : List Int := putAt W top ((8 * (xs.length : Int) + k) :: xs)
theorem layP_length (W : List Int) (top : Nat) (k : Int) (xs : List Int) : (layP W top k xs).length = W.length := putAt_length ..
/-- The words of a heap that is one's own. -/
def CapOk (m : Md) (cw n : Nat) : Prop := (m = .fix ∧ cw = n) ∨ (m = .grow ∧ cw = unk)
theorem CapOk.ro {m : Md} {cw n : Nat} (c : CapOk m cw n) : m ≠ .ro := by rcases c with ⟨rfl, _⟩ | ⟨rfl, _⟩ <;> decide
theorem SI.own {h : Hp} {o cw : Nat} {m : Md} {W : List Int} (hg : h.get o = some (.cells (iv W) 3 m)) (ho : o < h.nx) (c : CapOk m cw W.length) (hl : W.length < 1000000) : SI h (some ⟨o, 0, none⟩) W.length cw W := by
  rcases c with ⟨rfl, rfl⟩ | ⟨rfl, rfl⟩
  · exact SI.cells hg ho rfl hl
  · exact SI.acc (base := 0) (.inr ⟨o, rfl, rfl, by simp, Nat.zero_le _, ho, hg⟩) (by omega)
theorem slice_lo {h : Hp} {o n c : Nat} {W : List Int} (s : SI h (some ⟨o, 0, none⟩) n c W) {l : Nat} (hl : l < n) : ∃ c', sliceV Tryz.prog h 22 (.slice (some ⟨o, 0, none⟩) n c) (some (.int .i64 (Int.ofNat l))) none none = some (.slice (some ⟨o, l, none⟩) (n - l) c') := by
  obtain ⟨vis, hs, hv, hvu, _⟩ := s.cap
  unfold sliceV
  rw [Tryz.underlying22]
  simp only [sz3, bind, Option.bind_some, hs, bounds_lo (vis := vis) (show l ≤ n by omega)]
  by_cases hc : c = unk
  · subst hc
    simp only [Nat.beq_refl, Option.isNone_none, Bool.and_self, cond_true]
    exact ⟨_, by rw [Nat.zero_add, Nat.mul_one]⟩
  · have hcb : Nat.beq c unk = false := by rw [Bool.eq_false_iff]; intro hh; exact hc (Nat.eq_of_beq_eq_true hh)
    simp only [hcb, Bool.false_and, cond_false]
    rw [blt_t hvu]
    have hlb : Nat.beq vis l = false := by rw [Bool.eq_false_iff]; intro hh; have := Nat.eq_of_beq_eq_true hh; omega
    simp only [hlb, cond_true, cond_false]
    exact ⟨_, by rw [Nat.zero_add, Nat.mul_one]⟩
section
variable {O : CallF} (hO : Oth O)
include hO
/-- 'lay'. -/
theorem ct81 {h0 h : Hp} {L : List Rs} (S : Know h0 h L) (i j : Nat) {b oW cw top : Nat} {ar : Option Addr} {nr cr : Nat} {W : List Int} {m : Md}
    (hi : L[i]? = some (ob b (.cells [.slice (some ⟨oW, 0, none⟩) W.length cw, .int .i64 (Int.ofNat top), .slice ar nr cr] 24 .fix))) (hj : L[j]? = some (ob oW (.cells (iv W) 3 m))) (hij : i ≠ j) (hc : CapOk m cw W.length)
    {a2 : Option Addr} {n2 c2 : Nat} {xs : List Int} (X : IntsAt h a2 n2 xs) (hx : ∀ o off, a2 = some ⟨o, off, none⟩ → o ≠ oW) (hfit : top + 1 + xs.length ≤ W.length) (lW : W.length < 1000000) {k : Int} (hk : 0 ≤ k ∧ k ≤ 10) :
    Ret Tryz.prog O 81 [.pointer (some ⟨b, 0, none⟩), .int .i64 k, .slice a2 n2 c2] h fun v h' => v = .int .i64 (2 * (top : Int)) ∧ Know h0 h' ((L.set j (ob oW (.cells (iv (layP W top k xs)) 3 m))).set i (ob b (.cells [.slice (some ⟨oW, 0, none⟩) W.length cw, .int .i64 (Int.ofNat (top + 1 + xs.length)), .slice ar nr cr] 24 .fix))) := by
  refine rk81 (hO := hO _ _ _ (by decide)) (hh := ?_) ..
  unfold T81
  have hn2 := X.1
  have lj := S.len hj
  have li := S.len hi
  have e1 : wrapF .i64 (wrapF .i64 (8 * Int.ofNat n2) + k) = 8 * (xs.length : Int) + k := by
    rw [wrap64 (n := 8 * Int.ofNat n2) (by rw [hn2]; show _ ≤ 8 * (xs.length : Int); omega) (by rw [hn2]; show 8 * (xs.length : Int) < _; omega), hn2]
    exact wrap64 (by show _ ≤ 8 * (xs.length : Int) + k; omega) (by show 8 * (xs.length : Int) + k < _; omega)
  rw [e1]
  refine ⟨_, S.rd i hi rfl rfl, _, _, _, S.rd i hi rfl rfl, isNat_i (isAddr_i (vreq_t (blt_t (by omega)) (vreq_t (S.cw j hj hc.ro (ble_t (by rw [List.length_map]; show 0 + top * 1 + 1 ≤ _; omega)) rfl) ?_)))⟩
  intro g8 g9
  have S8 : Know h0 g8 _ := S.wr j hj hc.ro (ble_t (by rw [List.length_map]; show 0 + top * 1 + 1 ≤ _; omega)) rfl
  have S9 : Know h0 g9 _ := S8.rsv 18
  rw [show 0 + top * 1 = top by omega, show [Value.int .i64 (8 * (xs.length : Int) + k)] = iv [8 * (xs.length : Int) + k] from rfl, ← iv_putAt] at S9
  generalize hW1 : putAt W top [8 * (xs.length : Int) + k] = W1 at S9
  have lW1 : W1.length = W.length := by rw [← hW1, putAt_length]
  have hj9 : (L.set j (ob oW (.cells (iv W1) 3 m)))[j]? = some (ob oW (.cells (iv W1) 3 m)) := by rw [List.getElem?_set_self lj]
  have hi9 : (L.set j (ob oW (.cells (iv W1) 3 m)))[i]? = some (ob b (.cells [.slice (some ⟨oW, 0, none⟩) W.length cw, .int .i64 (Int.ofNat top), .slice ar nr cr] 24 .fix)) := by rw [List.getElem?_set_ne (Ne.symm hij)]; exact hi
  have hget : g9.get oW = some (.cells (iv W1) 3 m) := S9.obj j hj9
  have s9 : SI g9 (some ⟨oW, 0, none⟩) W.length cw W1 := by
    rw [← lW1]
    exact SI.own hget (S9.orng j hj9).2 (by rw [lW1]; exact hc) (by omega)
  have X9 : IntsAt g9 a2 n2 xs := SlAt.keep X (fun o off ha => wr_get_ne _ _ _ _ (hx o off ha)) (by show h.nx ≤ g8.nx + 18; rw [show g8.nx = h.nx from nx_wr ..]; omega) (fun _ _ h => h)
  have hne : b ≠ oW := S.ne i j hi hj hij
  have etop : wrapF .i64 (Int.ofNat top + 1) = Int.ofNat (top + 1) := wrap_succ (by omega)
  rw [etop]
  have fin : ∀ (g18 : Hp), Know h0 (g18.rst g9) (L.set j (ob oW (.cells (iv (layP W top k xs)) 3 m))) → vreq (canW ((g18.rst g9).grd []) b 1 [.int .i64 (wrapF .i64 (Int.ofNat top + wrapF .i64 (1 + Int.ofNat xs.length)))])
      (Know h0 ((((g18.rst g9).grd []).wr b 1 [.int .i64 (wrapF .i64 (Int.ofNat top + wrapF .i64 (1 + Int.ofNat xs.length)))]).rst (g18.rst g9)) ((L.set j (ob oW (.cells (iv (layP W top k xs)) 3 m))).set i (ob b (.cells [.slice (some ⟨oW, 0, none⟩) W.length cw, .int .i64 (Int.ofNat (top + 1 + xs.length)), .slice ar nr cr] 24 .fix)))) := by
    intro g18 S18
    have hi18 : (L.set j (ob oW (.cells (iv (layP W top k xs)) 3 m)))[i]? = some (ob b (.cells [.slice (some ⟨oW, 0, none⟩) W.length cw, .int .i64 (Int.ofNat top), .slice ar nr cr] 24 .fix)) := by rw [List.getElem?_set_ne (Ne.symm hij)]; exact hi
    have e2 : wrapF .i64 (Int.ofNat top + wrapF .i64 (1 + Int.ofNat xs.length)) = Int.ofNat (top + 1 + xs.length) := by
      rw [wrap64 (n := 1 + Int.ofNat xs.length) (by show _ ≤ 1 + (xs.length : Int); omega) (by show 1 + (xs.length : Int) < _; omega)]
      rw [wrap64 (by show _ ≤ (top : Int) + (1 + (xs.length : Int)); omega) (by show (top : Int) + (1 + (xs.length : Int)) < _; omega)]
      show (top : Int) + (1 + (xs.length : Int)) = ((top + 1 + xs.length : Nat) : Int)
      omega
    rw [e2]
    exact vreq_t (S18.cwg i hi18 (fun _ h => by cases h) (by decide) rfl rfl) (S18.wrg i hi18 (fun _ h => by cases h) (by decide) rfl rfl)
  have e3 : wrapF .i64 (2 * Int.ofNat top) = 2 * (top : Int) := dbl64 (n := W.length) (by omega) lW
  by_cases hz : xs = []
  · subst hz
    obtain ⟨a14, c16, es, sp⟩ := s9.part (l := top + 1) (r := W.length) (by omega) (by omega) (lo := some (.int .i64 (Int.ofNat (top + 1)))) (hi := none) fun vis hv => bounds_lo (by omega)
    have hn0 : n2 = 0 := hn2
    have cz : ∃ h18, copyV Tryz.prog (g9.grd [b]) 22 (.slice a14 (W.length - (top + 1)) c16) (.slice a2 n2 c2) = some (.int .i64 (Int.ofNat 0), h18) ∧ h18 = g9.grd [b] := by
      refine ⟨_, ?_, rfl⟩
      unfold copyV
      rw [el22]
      simp only [Option.bind_some, sz3, lenV, hn0]
      rcases sp.at_.2 with ⟨_, rfl⟩ | ⟨b', off, _, _, _, rfl, _⟩
      · rfl
      · show (bif Nat.beq (Nat.min 0 _) 0 then _ else _) = _
        rw [show Nat.min 0 (W.length - (top + 1)) = 0 from Nat.zero_min _]; rfl
    obtain ⟨h18, ec, rfl⟩ := cz
    refine ⟨_, S9.rd i hi9 rfl rfl, _, _, _, S9.rd i hi9 rfl rfl, _, _, _, es, _, _, ec, ?_⟩
    have := fin (g9.grd [b]) (by
      rw [rst_grd]
      have : layP W top k [] = W1 := by rw [← hW1]; rfl
      rw [this]; exact S9)
    intro g19
    obtain ⟨q1, q2⟩ := (vreq_eq _ _).mp this
    exact vreq_t q1 ⟨by rw [e3], q2⟩
  · have hpos : 0 < xs.length := List.length_pos_iff.2 hz
    obtain ⟨c', es⟩ := slice_lo s9 (l := top + 1) (by omega)
    have gf : (g9.grd [b]).guarded oW = false := S9.gdfg (S9.orng j hj9).1 fun q hq => by rw [List.mem_singleton.1 hq]; exact hne
    obtain ⟨h18, ec, hg18, ho18, hn18, hgd18, hf18⟩ := copy_ints (h := g9.grd [b]) (o := oW) (off := top + 1) (n := W.length - (top + 1)) (m := n2) (c2 := c2) (c1 := c') hget hc.ro gf (by omega) X9
    have hmin : Nat.min n2 (W.length - (top + 1)) = xs.length := by rw [hn2]; exact Nat.min_eq_left (by omega)
    rw [hmin] at ec hg18
    rw [List.take_length] at hg18
    refine ⟨_, S9.rd i hi9 rfl rfl, _, _, _, S9.rd i hi9 rfl rfl, _, _, _, es, _, _, ec, ?_⟩
    have eL : putAt W1 (top + 1) xs = layP W top k xs := by rw [← hW1, putAt_two]; rfl
    rw [eL] at hg18
    have S18 : Know h0 (h18.rst g9) ((L.set j (ob oW (.cells (iv W1) 3 m))).set j (ob oW (.cells (iv (layP W top k xs)) 3 m))) :=
      S9.upd j hj9 (r' := ob oW (.cells (iv (layP W top k xs)) 3 m)) ⟨fun o _ ho => ho18 o ho, by show g9.nx ≤ h18.nx; rw [hn18]; exact Nat.le_refl _, rfl, fun f => hf18 f⟩ (ob.loc _ _) hg18 fun _ h => .inl h
    rw [List.set_set] at S18
    have := fin h18 S18
    intro g19
    obtain ⟨q1, q2⟩ := (vreq_eq _ _).mp this
    exact vreq_t q1 ⟨by rw [e3], q2⟩
end
end Go.Proofs.YtngcjpkccnfjiaaGreatDoor
/- Contracts: the reference's copied, laidDown. -/
namespace Go.Proofs.YtngcjpkccnfjiaaGreatDoor
set_option maxRecDepth 100000
open Go Go.Ev
end Go.Proofs.YtngcjpkccnfjiaaGreatDoor
/- Contracts: what runs and what is laid, as what one has; room, and the reference's roomy. -/
namespace Go.Proofs.YtngcjpkccnfjiaaGreatDoor
set_option maxRecDepth 100000
open Go Go.Ev
/-- A list that is read. -/
def slr (a : Option Addr) (n c : Nat) (xs : List Int) : Rs := ⟨fun o => ∃ off, a = some ⟨o, off, none⟩, fun h => SI h a n c xs⟩
theorem slr.loc (a : Option Addr) (n c : Nat) (xs : List Int) : (slr a n c xs).Loc := fun _ _ hn h s => s.upd (fun o off ha => h o ⟨off, ha⟩) hn
theorem SI.accE {h : Hp} {base : Nat} {a : Option Addr} {n c : Nat} {W : List Int} (s : AccE h base 3 1 a n c (iv W)) (hl : W.length < 1000000) : SI h a n c W := by
  rcases s with s | ⟨h1, h2, h3, o, h4, h5, h6, e2, m, h7⟩
  · exact SI.acc s (by omega)
  · have hx : W = [] := by
      cases W with
      | nil => rfl
      | cons x xs => cases h1
    subst hx h2 h3 h4
    exact SI.fix ⟨rfl, .inr ⟨o, 0, _, _, _, rfl, h6, h7, by simp, fun i hi => by simp at hi⟩⟩ (Nat.le_refl _) (by decide) (fun h => by cases h)
theorem AccE.off {h : Hp} {base : Nat} {e : TypeId} {esz : Nat} {a : Option Addr} {n c : Nat} {xs : List Value} (s : AccE h base e esz a n c xs) {o off : Nat} (ha : a = some ⟨o, off, none⟩) : off = 0 := by
  rcases s with (⟨h1, _⟩ | ⟨q, h1, _⟩) | ⟨_, _, _, q, h1, _⟩
  · rw [h1] at ha; cases ha
  · rw [h1] at ha; injection ha with ha; injection ha with _ ha; exact ha.symm
  · rw [h1] at ha; injection ha with ha; injection ha with _ ha; exact ha.symm
/-- What has grown is read from now on. -/
theorem Know.accSlr {h0 g : Hp} {L : List Rs} (S : Know h0 g L) (i : Nat) {lo : Nat} {a : Option Addr} {n c : Nat} {xs : List Int} (hi : L[i]? = some (acc lo 3 1 a n c (iv xs))) (hl : xs.length < 1000000) : Know h0 g (L.set i (slr a n c xs)) := by
  have A : AccE g lo 3 1 a n c (iv xs) := S.get i hi
  exact S.upd i hi (Ch.refl _ g) (slr.loc _ _ _ _) (SI.accE A hl) fun b ⟨off, hb⟩ => .inl (by have := AccE.off A hb; subst this; exact hb)
/-- What 'run' returns, as what one has. -/
theorem RunQ.know {g : Hp} {W : List Int} {fr : Nat} {s : Mv} {rs ks : List Int} {v : Value} {h : Hp} (okg : g.Ok) (q : RunQ g W fr s rs ks v h) : ∃ oW lo ar nr cr ak nk ck ptr, v = .tuple #[.agg #[.slice (some ⟨oW, 0, none⟩) W.length W.length, .int .i64 (Int.ofNat s.top), .slice ar nr cr], .slice ak nk ck, .pointer ptr] ∧ s.D.length = W.length ∧ g.nx ≤ lo ∧ Know g h [ob oW (.cells (iv s.D) 3 .fix), acc lo 3 1 ar nr cr (iv rs), acc lo 3 1 ak nk ck (iv ks)] := by
  obtain ⟨p, ao, no, co, ar', nr', cr', ak, nk, ck, rfl, P, pn, pf, m, Ar, Ak, d1, d2, d3, k2, ok2⟩ := q
  have := P.tM
  have := P.wM
  have hB := P.B
  have := P.oW
  have := P.M
  have := m.nx
  refine ⟨p.oW, p.B, _, _, _, _, _, _, _, by rw [pn], by rw [m.lD, pn], by omega, ⟨ok2, k2, fun r hr => ?_, ?_, okg⟩⟩
  · rcases List.mem_cons.1 hr with rfl | hr
    · exact ⟨ob.loc _ _, m.D, fun b hb => by cases hb; omega⟩
    · rcases List.mem_cons.1 hr with rfl | hr
      · exact ⟨acc.loc _ _ _ _ _ _ _, .inl Ar, fun b hb => by have := Ar.lt hb; omega⟩
      · obtain rfl := List.mem_singleton.1 hr
        exact ⟨acc.loc _ _ _ _ _ _ _, .inl Ak, fun b hb => by have := Ak.lt hb; omega⟩
  · refine List.pairwise_cons.2 ⟨fun r hr b hb hrb => ?_, List.pairwise_cons.2 ⟨fun r hr b hb hrb => ?_, List.pairwise_cons.2 ⟨fun r hr => (by cases hr), .nil⟩⟩⟩
    · cases hb
      rcases List.mem_cons.1 hr with rfl | hr
      · have := Ar.lt hrb; omega
      · obtain rfl := List.mem_singleton.1 hr
        have := Ak.lt hrb; omega
    · obtain rfl := List.mem_singleton.1 hr
      exact d3 b 0 0 hb hrb
section
variable {O : CallF} (hO : Oth O)
include hO
/-- What 'room' returns. -/
structure Room where
  W : List Int
  top : Nat
  R : List Int
  l : List Int
  is : Bool
def roomC (W : List Int) (top : Nat) (R l : List Int) (need : Nat) (s : Mv) : Room := if top + need ≤ W.length then ⟨W, top, R, l, true⟩ else ⟨s.D, s.top, R.map (mvw W 1 s.ord), l.map (mvw W 1 s.ord), decide (s.top + need ≤ W.length)⟩
def QRoom (g : Hp) (r : Room) : Value → Hp → Prop := fun v h' => ∃ oW cw m ar nr cr al nl cl, v = .tuple #[.agg #[.slice (some ⟨oW, 0, none⟩) r.W.length cw, .int .i64 (Int.ofNat r.top), .slice ar nr cr], .slice al nl cl, .bool r.is] ∧ CapOk m cw r.W.length ∧ Know g h' [ob oW (.cells (iv r.W) 3 m), slr ar nr cr r.R] ∧ IntsAt h' al nl r.l ∧ ∀ o off, al = some ⟨o, off, none⟩ → o ≠ oW
theorem ct80 {g : Hp} (ok : g.Ok) {aw : Option Addr} {nw cw : Nat} {W : List Int} {tp : Nat} {ar : Option Addr} {nr cr : Nat} {R : List Int} (A : HA g aw nw cw W ar nr cr R) (hW : W ≠ []) (lW : W.length ≤ 1000) (lR : R.length ≤ 1000) (ht : tp ≤ W.length) {a2 : Option Addr} {n2 c2 : Nat} {l : List Int} (X : IntsAt g a2 n2 l) (hX : ∀ x ∈ l, In64 x) (lX : l.length ≤ 1000) {need : Nat} (hneed : need ≤ 1000000) {s : Mv} (hrun : ¬ tp + need ≤ W.length → runO W 1 R l = some (s, R.map (mvw W 1 s.ord), l.map (mvw W 1 s.ord)) ∧ s.top ≤ 1000) :
    Ret Tryz.prog O 80 [.agg #[.slice aw nw cw, .int .i64 (Int.ofNat tp), .slice ar nr cr], .int .i64 (Int.ofNat need), .slice a2 n2 c2] g (QRoom g (roomC W tp R l need s)) := by
  refine rk80 (hO := hO _ _ _ (by decide)) (hh := ?_) ..
  unfold T80
  intro g1 g2
  have S : Know g g1 [_] := (Know.nil ok).add _
  have S : Know g g2 [_, _] := S.add _
  have n1 : g1.nx = g.nx + 1 := rfl
  have n2' : g2.nx = g.nx + 2 := rfl
  have hnw := A.sw.at_.1
  have esum : ∀ x : Nat, x ≤ 1000 → wrapF .i64 (Int.ofNat x + Int.ofNat need) = Int.ofNat (x + need) := fun x hx => wrap64 (n := ((x + need : Nat) : Int)) (by omega) (by omega)
  haveI := S.ft
  refine ⟨_, S.rd 1 rfl rfl rfl, _, _, _, S.rd 1 rfl rfl rfl, ?_⟩
  rw [esum tp (by omega), ltI_nat]
  unfold roomC
  by_cases hfit : tp + need ≤ W.length
  · rw [if_pos hfit]
    refine vcond_t (by rw [blt_f (by omega)]; rfl) ?_
    obtain ⟨v, h21, e21, oW, ar', nr', cr', lo, rfl, hlo, T⟩ := ct87 hO S.ok (A.to g2) hW (by omega) (by omega) (top := Int.ofNat tp)
    refine ⟨_, _, _, _, _, _, _, S.rd 1 rfl rfl rfl, _, _, _, _, _, _, _, _, e21, ?_⟩
    have S : Know g h21 [_, _, _, _] := S.comp T
    refine vreq_t (S.cw 2 rfl (by decide) rfl rfl) ?_
    intro g22
    have S : Know g g22 [_, _, _, _] := S.wr 2 rfl (by decide) rfl rfl
    have S : Know g g22 [_, _, _, _] := Know.accSlr S 1 rfl (by omega)
    haveI := S.ft
    refine ⟨_, _, _, _, _, _, _, S.rd 2 rfl rfl rfl, _, _, .grow, _, _, _, _, _, _, rfl, .inr ⟨rfl, rfl⟩, S.sel [0, 1] (by decide) rfl, X.to g22, fun o off ha => ?_⟩
    have h1 : o < g.nx := by
      rcases X.2 with ⟨_, e⟩ | ⟨b, off', _, _, _, e, h2, _⟩
      · rw [e] at ha; cases ha
      · rw [e] at ha; injection ha with ha; injection ha with ha; omega
    have := (S.orng 0 rfl).1
    omega
  · rw [if_neg hfit]
    obtain ⟨hrun, hst⟩ := hrun hfit
    refine vcond_f (by rw [blt_t (by omega)]; rfl) ?_
    obtain ⟨v, h48, e48, q⟩ := ct62 hO S.ok (A.sw.to g2) A.w (by omega) (A.sr.at_.to g2) A.r (by omega) (top := Int.ofNat tp) (cr := cr) (X.to g2) hX (by omega) (cm := c2) (fr := 1) (by have := List.length_pos_iff.2 hW; omega) hrun
    obtain ⟨oW, lo, ar', nr', cr', ak, nk, ck, ptr, rfl, lD, hlo, T⟩ := q.know S.ok
    refine ⟨_, _, _, _, _, _, _, S.rd 1 rfl rfl rfl, _, _, _, _, _, _, _, _, _, _, _, _, e48, ?_⟩
    have S : Know g h48 [_, _, _, _, _] := S.comp T
    refine vreq_t (S.cw 4 rfl (by decide) rfl rfl) ?_
    intro g49 g50
    have S : Know g g49 [_, _, _, _, _] := S.wr 4 rfl (by decide) rfl rfl
    have S : Know g g50 [_, _, _, _, _] := S.rsv 13
    have hgr : ∀ q ∈ [g.nx, g.nx], q ≠ g1.nx := fun q hq => by have : q = g.nx := (by simpa using hq); omega
    refine ⟨_, _, _, _, _, _, _, S.rd 4 rfl rfl rfl, _, S.rd 4 rfl rfl rfl, _, _, _, S.rd 4 rfl rfl rfl, vreq_t (S.cwg 3 rfl hgr (by decide) rfl rfl) ?_⟩
    intro g62 g63
    have S : Know g g63 [_, _, _, _, _] := S.wrg 3 rfl hgr (by decide) rfl rfl
    have S : Know g g63 [_, _, _, _, _] := Know.accSlr S 1 rfl (by rw [List.length_map]; omega)
    have hak : AccE g63 lo 3 1 ak nk ck (iv (l.map (mvw W 1 s.ord))) := S.get 2 rfl
    refine ⟨_, _, _, _, _, _, _, S.rd 3 rfl rfl rfl, oW, s.D.length, .fix, ar', nr', cr', ak, nk, ck, ?_, .inl ⟨rfl, rfl⟩, S.sel [0, 1] (by decide) rfl, AccE.ints hak, fun o off ha => ?_⟩
    · show Value.tuple #[.agg #[.slice (some ⟨oW, 0, none⟩) W.length W.length, _, _], _, _] = _
      rw [esum s.top hst, ltI_nat]
      have e1 : (!(Nat.blt W.length (s.top + need))) = decide (s.top + need ≤ W.length) := by
        by_cases h : s.top + need ≤ W.length
        · rw [blt_f (by omega), decide_eq_true h]; rfl
        · rw [blt_t (by omega), decide_eq_false h]; rfl
      rw [e1]
      show _ = Value.tuple #[.agg #[.slice (some ⟨oW, 0, none⟩) s.D.length s.D.length, _, _], _, _]
      rw [lD]
    · have := AccE.off hak ha
      subst this
      intro hh
      exact S.sep 2 0 rfl rfl (by decide) o ha hh
end
end Go.Proofs.YtngcjpkccnfjiaaGreatDoor
/- Contracts: the reference's roomy. -/
namespace Go.Proofs.YtngcjpkccnfjiaaGreatDoor
set_option maxRecDepth 100000
open Go Go.Ev
theorem Know.accLow {h0 g : Hp} {L : List Rs} (S : Know h0 g L) (i : Nat) {lo : Nat} {e : TypeId} {esz : Nat} {a : Option Addr} {n c : Nat} {xs : List Value} (hi : L[i]? = some (acc lo e esz a n c xs)) : Know h0 g (L.set i (acc h0.nx e esz a n c xs)) := by
  have A : AccE g lo e esz a n c xs := S.get i hi
  refine S.upd i hi (Ch.refl _ g) (acc.loc _ _ _ _ _ _ _) ?_ fun b hb => .inl hb
  rcases A with (A | ⟨o, h1, h2, h3, h4, h5, h6⟩) | ⟨h1, h2, h3, o, h4, h5, h6, h7⟩
  · exact .inl (.inl A)
  · exact .inl (.inr ⟨o, h1, h2, h3, (S.arng i hi h1).1, h5, h6⟩)
  · exact .inr ⟨h1, h2, h3, o, h4, (S.arng i hi h4).1, h6, h7⟩
end Go.Proofs.YtngcjpkccnfjiaaGreatDoor
/- Contracts: Alloc of the code. -/
namespace Go.Proofs.YtngcjpkccnfjiaaGreatDoor
set_option maxRecDepth 100000
open Go Go.Ev
theorem Know.nilS {h0 g : Hp} {L : List Rs} (S : Know h0 g L) : Know h0 g (slr none 0 0 [] :: L) :=
  S.push (Kp.refl _ g) (slr.loc _ _ _ _) (SI.fix (SlAt.nil ..) (Nat.le_refl _) (by decide) (fun _ => rfl)) fun b ⟨_, hb⟩ => by cases hb
theorem Know.obSlr {h0 g : Hp} {L : List Rs} (S : Know h0 g L) (i : Nat) {o cw : Nat} {m : Md} {W : List Int} (hi : L[i]? = some (ob o (.cells (iv W) 3 m))) (c : CapOk m cw W.length) (hl : W.length < 1000000) : Know h0 g (L.set i (slr (some ⟨o, 0, none⟩) W.length cw W)) :=
  S.upd i hi (Ch.refl _ g) (slr.loc _ _ _ _) (SI.own (S.obj i hi) (S.orng i hi).2 c hl) fun b ⟨off, hb⟩ => .inl (by injection hb with hb; injection hb with hb; exact hb.symm)
/-- A heap that is returned. -/
def HK (g : Hp) (o : Out) (u : Value) (h : Hp) : Prop := ∃ aw nw cw ar nr cr, u = .agg #[.slice aw nw cw, .int .i64 (Int.ofNat o.top), .slice ar nr cr] ∧ Know g h [slr aw nw cw o.W, slr ar nr cr o.R]
theorem HK.zero {h0 g : Hp} {L : List Rs} (S : Know h0 g L) (e : Int) : HK h0 ⟨[], 0, [], e⟩ (.agg #[.slice none 0 0, .int .i64 0, .slice none 0 0]) g :=
  ⟨_, _, _, _, _, _, rfl, (Know.nilS (Know.nilS S)).sel [0, 1] (by decide) rfl⟩
/-- A heap, a reference and an error. -/
def QA (g : Hp) (o : Out) (r : Int) : Value → Hp → Prop := fun v h => ∃ u, v = .tuple #[u, .int .i64 r, .int .i64 o.e] ∧ HK g o u h
/-- What 'Alloc' returns. -/
def allocO (c : Option (List Nat)) (W : List Int) (top : Nat) (R : List Int) (k : Int) (xs : List Int) (s : Mv) : Out × Int := match c with
  | none => (⟨[], 0, [], 2⟩, 0)
  | some l => if fieldsR l k xs = true then
      (if (roomC W top R (if refB k then xs else []) (1 + xs.length) s).is = true then (⟨layP (roomC W top R (if refB k then xs else []) (1 + xs.length) s).W (roomC W top R (if refB k then xs else []) (1 + xs.length) s).top k (if refB k then (roomC W top R (if refB k then xs else []) (1 + xs.length) s).l else xs), (roomC W top R (if refB k then xs else []) (1 + xs.length) s).top + 1 + xs.length, (roomC W top R (if refB k then xs else []) (1 + xs.length) s).R, 0⟩, 2 * ((roomC W top R (if refB k then xs else []) (1 + xs.length) s).top : Int))
      else (⟨[], 0, [], 3⟩, 0))
    else (⟨[], 0, [], 2⟩, 0)
theorem good_fields {W : List Int} {l : List Nat} (hl : ∀ x ∈ l, x < W.length) (h1 : 1 ≤ W.length) (k : Int) (xs : List Int) (_lx : xs.length < 1000000) : (goodB (Int.ofNat xs.length) k && !(xs.any fun x => !(fieldB (beginP W l) k x))) = fieldsR l k xs := by
  rw [any_not, Bool.not_not, all_congr fun x _ => field_RB hl h1 k x]
  unfold fieldsR goodB
  have e : (Int.ofNat xs.length == 1) = decide (xs.length = 1) := by
    rw [Bool.eq_iff_iff, beq_iff_eq, decide_eq_true_eq]
    show (xs.length : Int) = 1 ↔ _
    omega
  have e1 : decide ((0 : Int) ≤ Int.ofNat xs.length) = true := decide_eq_true (Int.natCast_nonneg _)
  have e2 : decide (Int.ofNat xs.length ≤ 20) = decide (xs.length ≤ 20) := by
    rw [Bool.eq_iff_iff, decide_eq_true_eq, decide_eq_true_eq]
    show (xs.length : Int) ≤ 20 ↔ _
    omega
  by_cases h4 : k = 4
  · rw [if_pos h4, e]
    by_cases hx : xs.length = 1
    · rw [if_neg (by omega), decide_eq_true hx, Bool.true_and]
    · rw [if_pos (by omega), decide_eq_false hx, Bool.false_and]
  · rw [if_neg h4, e1, e2]
    by_cases hc : k < 1 ∨ 5 < k ∨ 20 < xs.length
    · rw [if_pos (by omega)]
      have : (true && decide (xs.length ≤ 20) && decide (1 ≤ k) && decide (k ≤ 5)) = false := by
        rw [Bool.eq_false_iff]; intro h
        simp only [Bool.true_and, Bool.and_eq_true, decide_eq_true_eq] at h
        omega
      rw [this, Bool.false_and]
    · rw [if_neg (by omega)]
      have : (true && decide (xs.length ≤ 20) && decide (1 ≤ k) && decide (k ≤ 5)) = true := by
        simp only [Bool.true_and, Bool.and_eq_true, decide_eq_true_eq]
        omega
      rw [this, Bool.true_and]
section
variable {O : CallF} (hO : Oth O)
include hO
theorem ct77 {h : Hp} {a : Option Addr} {n c : Nat} {begin : List Bool} (B : BoolsAt h a n begin) {w k : Int} (hw : In64 w) {b1 b2 : Nat} (hb : readAt h b1 0 1 = some [.slice a n c]) (hb2 : readAt h b2 0 1 = some [.int .i64 k]) : EvT O 77 [.int .i64 w, .pointer (some ⟨b1, 0, none⟩), .pointer (some ⟨b2, 0, none⟩)] h (.bool (!(fieldB begin k w))) h := by
  refine evt hO (rk77 (hO := hO _ _ _ (by decide)) (hh := ?_) ..)
  unfold T77
  exact ⟨_, _, _, hb, _, hb2, _, _, ct78 hO B hw, rfl, rfl⟩
/-- The end: the cell is laid. -/
theorem lp24_1 {g h : Hp} {a0 : Option Addr} {n0 c0 : Nat} {x0 : Int} {a00 : Option Addr} {n00 c00 : Nat} {x1 : Int} {a2 : Option Addr} {n2 c2 : Nat} {b4 b6 b13 oW cw top : Nat} {k : Int} {W R : List Int} {ar : Option Addr} {nr cr : Nat} {m : Md} {v1 v2 v3 : Value}
    (S : Know g h [ob b13 (.cells [.slice (some ⟨oW, 0, none⟩) W.length cw, .int .i64 (Int.ofNat top), .slice ar nr cr] 24 .fix), ob oW (.cells (iv W) 3 m), slr ar nr cr R, ob b4 (.cells [.int .i64 k] 37 .fix), ob b6 (.cells [v1, v2, v3] 24 .fix)]) (hc : CapOk m cw W.length) {a14 : Option Addr} {n14 c14 : Nat} {xs : List Int} (X : IntsAt h a14 n14 xs) (hx : ∀ o off, a14 = some ⟨o, off, none⟩ → o ≠ oW) (hfit : top + 1 + xs.length ≤ W.length) (lW : W.length < 1000000) (hk : 0 ≤ k ∧ k ≤ 10) :
    I24_1 O (QA g ⟨layP W top k xs, top + 1 + xs.length, R, 0⟩ (2 * (top : Int))) a0 n0 c0 x0 a00 n00 c00 x1 a2 n2 c2 b4 0 b6 0 b13 0 a14 n14 c14 h := by
  refine I24_1.of (hh := ?_) ..
  unfold T24_1
  obtain ⟨v, h203, e203, rfl, S⟩ := ct81 hO S 0 1 rfl rfl (by decide) hc X hx hfit lW hk (c2 := c14)
  refine ⟨_, Know.rd (by assumption) 3 rfl rfl rfl, _, _, e203, ?_⟩
  have S : Know g h203 [_, _, _, _, _] := S
  refine ⟨_, _, _, _, _, _, _, S.rd 0 rfl rfl rfl, vreq_t (S.cw 4 rfl (by decide) rfl rfl) ?_⟩
  intro g211
  have S : Know g g211 [_, _, _, _, _] := S.wr 4 rfl (by decide) rfl rfl
  have S' : Know g g211 [_, _, _, _, _] := Know.obSlr S 1 rfl (cw := cw) (by rw [layP_length]; exact hc) (by rw [layP_length]; exact lW)
  rw [layP_length] at S'
  exact ⟨_, _, _, _, _, _, _, S.rd 4 rfl rfl rfl, _, rfl, _, _, _, _, _, _, rfl, S'.sel [1, 2] (by decide) rfl⟩
end
end Go.Proofs.YtngcjpkccnfjiaaGreatDoor
/- Contracts: Alloc of the code, the whole. -/
namespace Go.Proofs.YtngcjpkccnfjiaaGreatDoor
set_option maxRecDepth 100000
open Go Go.Ev
theorem room_fit {W : List Int} {top : Nat} {R l : List Int} {need : Nat} {s : Mv} (hs : ¬ top + need ≤ W.length → s.D.length = W.length) (his : (roomC W top R l need s).is = true) : (roomC W top R l need s).top + need ≤ (roomC W top R l need s).W.length ∧ (roomC W top R l need s).W.length = W.length ∧ (roomC W top R l need s).l.length = l.length := by
  by_cases h : top + need ≤ W.length
  · have e : roomC W top R l need s = ⟨W, top, R, l, true⟩ := by unfold roomC; rw [if_pos h]
    rw [e]; exact ⟨h, rfl, rfl⟩
  · have e : roomC W top R l need s = ⟨s.D, s.top, R.map (mvw W 1 s.ord), l.map (mvw W 1 s.ord), decide (s.top + need ≤ W.length)⟩ := by unfold roomC; rw [if_neg h]
    rw [e] at his ⊢
    have h1 : s.top + need ≤ W.length := of_decide_eq_true his
    exact ⟨by show s.top + need ≤ s.D.length; rw [hs h]; exact h1, hs h, by show (l.map _).length = _; rw [List.length_map]⟩
section
variable {O : CallF} (hO : Oth O)
include hO
theorem lp24_0e {g h : Hp} {L : List Rs} {a0 : Option Addr} {n0 c0 : Nat} {x0 : Int} {a00 : Option Addr} {n00 c00 : Nat} {x1 : Int} {a2 : Option Addr} {n2 c2 : Nat} {b3 b4 b6 b11 : Nat} {v1 v2 v3 : Value} (S : Know g h L) (i : Nat) (hi : L[i]? = some (ob b6 (.cells [v1, v2, v3] 24 .fix))) :
    I24_0 O (QA g ⟨[], 0, [], 2⟩ 0) a0 n0 c0 x0 a00 n00 c00 x1 a2 n2 c2 b3 0 b4 0 b6 0 2 b11 0 h := by
  have _ := hO
  refine I24_0.of (hh := ?_) ..
  unfold T24_0
  refine vcond_t rfl (vreq_t (S.cw i hi (by decide) rfl rfl) ?_)
  intro g101
  have S1 : Know g g101 _ := S.wr i hi (by decide) rfl rfl
  exact ⟨_, _, _, _, _, _, _, S1.rd i (List.getElem?_set_self (S.len hi)) rfl rfl, _, rfl, HK.zero S1 2⟩
theorem lp24_0s {g h : Hp} {a0 : Option Addr} {n0 c0 : Nat} {x0 : Int} {a00 : Option Addr} {n00 c00 : Nat} {a2 : Option Addr} {n2 c2 : Nat} {b3 b4 b6 b11 : Nat} {v1 v2 v3 : Value} {k : Int} {aw : Option Addr} {nw cw : Nat} {W : List Int} {tp : Nat} {ar : Option Addr} {nr cr : Nat} {R : List Int}
    (S : Know g h [ob b11 (.cells [.int .i64 (Int.ofNat n2), .int .i64 k] 117 .fix), ob b6 (.cells [v1, v2, v3] 24 .fix), ob b4 (.cells [.int .i64 k] 37 .fix), ob b3 (.cells [.slice aw nw cw, .int .i64 (Int.ofNat tp), .slice ar nr cr] 24 .fix)]) (A : HA g aw nw cw W ar nr cr R) (hW : W ≠ []) (lW : W.length ≤ 1000) (lR : R.length ≤ 1000) (ht : tp ≤ W.length) {xs : List Int} (X : IntsAt g a2 n2 xs) (hX : ∀ x ∈ xs, In64 x) (lX : xs.length ≤ 100) (hk : 0 ≤ k ∧ k ≤ 10)
    {s : Mv} (hrun : ¬ tp + (1 + xs.length) ≤ W.length → runO W 1 R (if refB k then xs else []) = some (s, R.map (mvw W 1 s.ord), (if refB k then xs else []).map (mvw W 1 s.ord)) ∧ s.top ≤ 1000 ∧ s.D.length = W.length) {r : Room} (hr : roomC W tp R (if refB k then xs else []) (1 + xs.length) s = r) :
    I24_0 O (QA g (if r.is = true then ⟨layP r.W r.top k (if refB k then r.l else xs), r.top + 1 + xs.length, r.R, 0⟩ else ⟨[], 0, [], 3⟩) (if r.is = true then 2 * (r.top : Int) else 0)) a0 n0 c0 x0 a00 n00 c00 k a2 n2 c2 b3 0 b4 0 b6 0 0 b11 0 h := by
  refine I24_0.of (hh := ?_) ..
  unfold T24_0
  have hn2 := X.1
  have eneed : wrapF .i64 (1 + Int.ofNat n2) = Int.ofNat (1 + xs.length) := by
    rw [hn2]; exact wrap64 (n := 1 + (xs.length : Int)) (by omega) (by omega)
  rw [eneed]
  refine vcond_f rfl ⟨_, _, S.rd 0 rfl rfl rfl, ct79 hO fun h112 k112 => ?_⟩
  have S : Know g h112 [_, _, _, _] := S.call k112
  haveI := S.ft
  have hro : (¬ tp + (1 + xs.length) ≤ W.length → s.D.length = W.length) := fun h => (hrun h).2.2
  cases hrf : refB k with
  | true =>
    rw [hrf, if_pos rfl] at hr hrun
    obtain ⟨v, h131, e131, q⟩ := ct80 hO S.ok (A.to h112) hW lW lR ht (X.to h112) hX (by omega) (need := 1 + xs.length) (by omega) (fun h => ⟨(hrun h).1, (hrun h).2.1⟩) (c2 := c2)
    rw [hr] at q
    obtain ⟨oW, cw', m, ar', nr', cr', al, nl, cl, rfl, hc, T, XL, hal⟩ := q
    refine vcond_t rfl ⟨_, _, _, _, _, _, _, S.rd 3 rfl rfl rfl, _, _, _, _, _, _, _, _, _, _, _, _, e131, ?_⟩
    have S : Know g h131 [_, _, _, _, _, _] := S.comp T
    intro g132
    have S : Know g g132 [_, _, _, _, _, _, _] := S.add _
    refine vreq_t (S.cw 0 rfl (by decide) rfl rfl) ?_
    intro g133
    have S : Know g g133 [_, _, _, _, _, _, _] := S.wr 0 rfl (by decide) rfl rfl
    cases his : r.is with
    | false =>
      refine vcond_t rfl (vreq_t (S.cw 4 rfl (by decide) rfl rfl) ?_)
      intro g134
      have S : Know g g134 [_, _, _, _, _, _, _] := S.wr 4 rfl (by decide) rfl rfl
      exact ⟨_, _, _, _, _, _, _, S.rd 4 rfl rfl rfl, _, rfl, HK.zero S 3⟩
    | true =>
      obtain ⟨f1, f2, f3⟩ := room_fit hro (by rw [hr]; exact his)
      rw [hr] at f1 f2 f3
      refine vcond_f rfl ⟨_, _, S.rd 3 rfl rfl rfl, ct79 hO fun h145 k145 => ?_⟩
      rw [hrf]
      refine vcond_f rfl ?_
      haveI : Ft h131 g133 := inferInstance
      haveI : Ft g133 h145 := k145.ex (Nat.le_refl _)
      have S : Know g h145 [_, _, _, _, _, _, _] := S.call k145
      have := lp24_1 hO (S.sel [0, 1, 2, 5, 4] (by decide) rfl) hc ((XL.to g133).to h145) hal (by omega) (by omega) hk (a0 := a0) (n0 := n0) (c0 := c0) (x0 := x0) (a00 := a00) (n00 := n00) (c00 := c00) (x1 := k) (a2 := a2) (n2 := n2) (c2 := c2) (c14 := cl)
      rw [f3] at this
      exact this
  | false =>
    rw [hrf, if_neg (by decide)] at hr hrun
    obtain ⟨v, h131, e131, q⟩ := ct80 hO S.ok (A.to h112) hW lW lR ht (SlAt.nil 1 EInt h112 : IntsAt h112 none 0 []) (fun x hx => by cases hx) (by decide) (need := 1 + xs.length) (by omega) (fun h => ⟨(hrun h).1, (hrun h).2.1⟩) (c2 := 0)
    rw [hr] at q
    obtain ⟨oW, cw', m, ar', nr', cr', al, nl, cl, rfl, hc, T, XL, hal⟩ := q
    refine vcond_f rfl ⟨_, _, _, _, _, _, _, S.rd 3 rfl rfl rfl, _, _, _, _, _, _, _, _, _, _, _, _, e131, ?_⟩
    have S : Know g h131 [_, _, _, _, _, _] := S.comp T
    intro g132
    have S : Know g g132 [_, _, _, _, _, _, _] := S.add _
    refine vreq_t (S.cw 0 rfl (by decide) rfl rfl) ?_
    intro g133
    have S : Know g g133 [_, _, _, _, _, _, _] := S.wr 0 rfl (by decide) rfl rfl
    cases his : r.is with
    | false =>
      refine vcond_t rfl (vreq_t (S.cw 4 rfl (by decide) rfl rfl) ?_)
      intro g134
      have S : Know g g134 [_, _, _, _, _, _, _] := S.wr 4 rfl (by decide) rfl rfl
      exact ⟨_, _, _, _, _, _, _, S.rd 4 rfl rfl rfl, _, rfl, HK.zero S 3⟩
    | true =>
      obtain ⟨f1, f2, f3⟩ := room_fit hro (by rw [hr]; exact his)
      rw [hr] at f1 f2 f3
      refine vcond_f rfl ⟨_, _, S.rd 3 rfl rfl rfl, ct79 hO fun h145 k145 => ?_⟩
      rw [hrf]
      refine vcond_t rfl ?_
      have S : Know g h145 [_, _, _, _, _, _, _] := S.call k145
      haveI := S.ft
      refine lp24_1 (xs := xs) hO (S.sel [0, 1, 2, 5, 4] (by decide) rfl) hc (X.to h145) (fun o off ha => ?_) (by omega) (by omega) hk
      have h1 : o < g.nx := by
        rcases X.2 with ⟨_, e⟩ | ⟨b, off', _, _, _, e, h2, _⟩
        · rw [e] at ha; cases ha
        · rw [e] at ha; injection ha with ha; injection ha with ha; omega
      have := (S.orng 1 rfl).1
      omega
/-- 'Alloc'. -/
theorem ct24 {g : Hp} (ok : g.Ok) {aw : Option Addr} {nw cw : Nat} {W : List Int} {top : Int} {ar : Option Addr} {nr cr : Nat} {R : List Int} (A : HA g aw nw cw W ar nr cr R) (tb : Tb g) {k : Int} {a2 : Option Addr} {n2 c2 : Nat} {xs : List Int} (X : IntsAt g a2 n2 xs) (hX : ∀ x ∈ xs, In64 x) (lX : xs.length ≤ 100)
    {s : Mv} (hrun : ∀ l, checkP W top R = some l → fieldsR l k xs = true → ¬ top.toNat + (1 + xs.length) ≤ W.length → runO W 1 R (if refB k then xs else []) = some (s, R.map (mvw W 1 s.ord), (if refB k then xs else []).map (mvw W 1 s.ord)) ∧ s.top ≤ 1000 ∧ s.D.length = W.length) :
    Ret Tryz.prog O 24 [.agg #[.slice aw nw cw, .int .i64 top, .slice ar nr cr], .int .i64 k, .slice a2 n2 c2] g (QA g (allocO (checkP W top R) W top.toNat R k xs s).1 (allocO (checkP W top R) W top.toNat R k xs s).2) := by
  refine rk24 (hO := hO _ _ _ (by decide)) (hh := ?_) ..
  unfold T24
  have n0 : 0 < g.nx := by have := tb.1; omega
  have hn2 := X.1
  intro g1 g2 g3
  have S : Know g g1 [_] := (Know.nil ok).add _
  have S : Know g g2 [_, _] := S.add _
  have S : Know g g3 [_, _, _] := S.add _
  haveI := S.ft
  obtain ⟨v, h15, e15, a11, n12, c13, x14, rfl, k15, hx⟩ := ct65 hO S.ok (A.sw.to g3) A.w (A.sr.at_.to g3) A.r (tb.kp S.kp n0) (top := top)
  refine ⟨_, _, _, _, _, _, _, S.rd 2 rfl rfl rfl, _, _, _, _, _, e15, ?_⟩
  have S : Know g h15 [_, _, _] := S.call k15
  intro g16
  have S : Know g g16 [_, _, _, _] := S.add _
  refine vreq_t (S.cw 0 rfl (by decide) rfl rfl) ?_
  intro g17
  have S : Know g g17 [_, _, _, _] := S.wr 0 rfl (by decide) rfl rfl
  refine ⟨_, S.rd 2 rfl rfl rfl, ?_⟩
  intro g19
  have S : Know g g19 [_, _, _, _, _] := S.add _
  refine vreq_t (S.cw 0 rfl (by decide) rfl rfl) ?_
  intro g20
  have S : Know g g20 [_, _, _, _, _] := S.wr 0 rfl (by decide) rfl rfl
  cases hf : checkP W top R with
  | none =>
    rw [hf] at hx
    have hx : x14 = 2 := hx
    subst hx
    exact vcond_f rfl (lp24_0e hO S 2 rfl)
  | some l =>
    rw [hf] at hx
    obtain ⟨hx, B⟩ := hx
    subst hx
    obtain ⟨f1, f2, f3, f4, f5, f6, f7, f8, f9⟩ := checkP_cells hf
    have hm := (cellsR_mem (cellsG_R f7)).2
    have hl : ∀ x ∈ l, x < W.length := fun x hx => by have := hm x hx; omega
    have hgf := good_fields hl f1 k xs (by omega)
    refine vcond_t rfl ⟨_, _, S.rd 0 rfl rfl rfl, ct75 hO (tb.kp S.kp n0) fun h24 k24 => ?_⟩
    haveI : Ft h15 g20 := inferInstance
    haveI : Ft g20 h24 := k24.ex (Nat.le_refl _)
    have S : Know g h24 [_, _, _, _, _] := S.call k24
    rw [hn2]
    cases hg : goodB (Int.ofNat xs.length) k with
    | false =>
      rw [hg, Bool.false_and] at hgf
      have e : allocO (some l) W top.toNat R k xs s = (⟨[], 0, [], 2⟩, 0) := by unfold allocO; exact if_neg (by rw [← hgf]; decide)
      rw [e]
      exact vcond_t rfl (lp24_0e hO S 2 rfl)
    | true =>
      rw [hg, Bool.true_and] at hgf
      have B24 : BoolsAt h24 a11 n12 (beginP W l) := (B.to g20).to h24
      haveI := S.ft
      refine vcond_f rfl ⟨xs.any fun x => !(fieldB (beginP W l) k x), h24, ?_, ?_⟩
      · have := ct76 hO (X.to h24) (by omega) (c := c2) (g1 := 77) (fi := #[]) (ca := #[.pointer (some ⟨h15.nx, 0, none⟩), .pointer (some ⟨g1.nx, 0, none⟩)]) (p := fun x => !(fieldB (beginP W l) k x)) fun x hx => ct77 hO B24 (hX x hx) (S.rd 1 rfl rfl rfl) (S.rd 3 rfl rfl rfl)
        rw [hn2] at this
        exact this
      cases hany : (xs.any fun x => !(fieldB (beginP W l) k x)) with
      | true =>
        rw [hany] at hgf
        have e : allocO (some l) W top.toNat R k xs s = (⟨[], 0, [], 2⟩, 0) := by unfold allocO; exact if_neg (by rw [← hgf]; decide)
        rw [e]
        exact vcond_t rfl (lp24_0e hO S 2 rfl)
      | false =>
        rw [hany] at hgf
        have hgf : fieldsR l k xs = true := hgf.symm
        have hk : 0 ≤ k ∧ k ≤ 10 := by
          unfold fieldsR at hgf
          split at hgf
          · cases hgf
          · omega
        obtain ⟨tp, rfl⟩ : ∃ m : Nat, top = Int.ofNat m := Int.eq_ofNat_of_zero_le (by omega)
        have e : allocO (some l) W (Int.ofNat tp).toNat R k xs s = ((if (roomC W tp R (if refB k then xs else []) (1 + xs.length) s).is = true then ⟨layP (roomC W tp R (if refB k then xs else []) (1 + xs.length) s).W (roomC W tp R (if refB k then xs else []) (1 + xs.length) s).top k (if refB k then (roomC W tp R (if refB k then xs else []) (1 + xs.length) s).l else xs), (roomC W tp R (if refB k then xs else []) (1 + xs.length) s).top + 1 + xs.length, (roomC W tp R (if refB k then xs else []) (1 + xs.length) s).R, 0⟩ else ⟨[], 0, [], 3⟩), (if (roomC W tp R (if refB k then xs else []) (1 + xs.length) s).is = true then 2 * ((roomC W tp R (if refB k then xs else []) (1 + xs.length) s).top : Int) else 0)) := by
          unfold allocO
          show (if fieldsR l k xs = true then _ else _) = _
          rw [if_pos hgf, show (Int.ofNat tp).toNat = tp from rfl]
          generalize roomC W tp R (if refB k = true then xs else []) (1 + xs.length) s = r
          cases r.is <;> rfl
        rw [e]
        refine vcond_f rfl ?_
        have Sx := S.sel [0, 2, 3, 4] (by decide) rfl
        have := lp24_0s hO Sx A (fun h => by rw [h] at f1; simp at f1) (by omega) (by omega) (Int.ofNat_le.1 f4) X hX lX hk (hrun l hf hgf) rfl (a0 := aw) (n0 := nw) (c0 := cw) (x0 := Int.ofNat tp) (a00 := ar) (n00 := nr) (c00 := cr) (c2 := c2)
        rw [hn2] at this
        exact this
end
end Go.Proofs.YtngcjpkccnfjiaaGreatDoor
/- Contracts: Alloc of the reference. -/
namespace Go.Proofs.YtngcjpkccnfjiaaGreatDoor
set_option maxRecDepth 100000
open Go Go.Ev
end Go.Proofs.YtngcjpkccnfjiaaGreatDoor
/- Contracts: within, Write, Look, of the code and of the reference. -/
namespace Go.Proofs.YtngcjpkccnfjiaaGreatDoor
set_option maxRecDepth 100000
open Go Go.Ev
/-- A cell's field. -/
structure FieldAt (W : List Int) (l : List Nat) (x n : Int) (m i : Nat) : Prop where
  ex : x = Int.ofNat m
  en : n = Int.ofNat i
  mem : m ∈ l
  lt : m < W.length
  sz : hdS (W.getD m 0) = Int.ofNat (hdS (W.getD m 0)).toNat
  il : i < (hdS (W.getD m 0)).toNat
  fit : m + 1 + i < W.length
  wr : wrapF .i64 (wrapF .i64 (x + 1) + n) = Int.ofNat (m + 1 + i)
theorem IntsAt.getD {h : Hp} {a : Option Addr} {n : Nat} {xs : List Int} {k : Nat} (hk : k < xs.length) : xs[k] = xs.getD k 0 := by simp [List.getD, List.getElem?_eq_getElem hk]
end Go.Proofs.YtngcjpkccnfjiaaGreatDoor
/- Contracts: Write, of the code and of the reference. -/
namespace Go.Proofs.YtngcjpkccnfjiaaGreatDoor
set_option maxRecDepth 100000
open Go Go.Ev
theorem putAt_one (W : List Int) (i : Nat) (w : Int) (hi : i < W.length) : putAt (iv W) (0 + i * 1) [.int .i64 w] = iv (W.set i w) := by
  rw [show 0 + i * 1 = i by omega]
  exact putAt_map (Value.int .i64) hi
end Go.Proofs.YtngcjpkccnfjiaaGreatDoor
/- Conditions of functions' code, printed by a program of ours. -/
namespace Go.Proofs.YtngcjpkccnfjiaaGreatDoor
open Go Go.Ev
set_option maxRecDepth 100000
set_option linter.unusedVariables false
/-! sward/swardlaw15.CollectRoom -/
noncomputable def b10 : Code := (Tryz.f10.body).getD .skip
noncomputable def stk10_0 : List KI := [.code (sub [1, 1, 1, 0, 1, 0] b10), .blk 0, .code (sub [1, 1, 1, 1] b10)]
noncomputable def stk10_1 : List KI := [.code (sub [1, 1, 1, 1, 1, 1, 0, 1, 0] b10), .blk 2, .code (sub [1, 1, 1, 1, 1, 1, 1] b10)]
def lv10 : List (Nat × List Nat) := [(0, [2, 6, 7, 8, 9, 10, 11, 37, 38, 39]), (2, [6, 7, 8, 9, 10, 11, 14, 15, 77, 78, 79])]
def I10_0 (O : CallF) (Q : Value → Hp → Prop) (v0 : Array Value) (x1_0 : Int) (x1_1 : Int) (x1_2 : Int) (x1_3 : Int) (x1_4 : Int) (x1_5 : Int) (x2 : Int) (b7 : Nat) (f7 : Nat) (a8 : Option Addr) (n8 : Nat) (c8 : Nat) (a9 : Option Addr) (n9 : Nat) (c9 : Nat) (a10 : Option Addr) (n10 : Nat) (c10 : Nat) (a11 : Option Addr) (n11 : Nat) (c11 : Nat) (a37 : Option Addr) (n37 : Nat) (c37 : Nat) (x38 : Int) (x39 : Int) (h : Hp) : Prop := RKL Tryz.prog O Tryz.f10 stk10_0 242 [2, 6, 7, 8, 9, 10, 11, 37, 38, 39] [(.int .u8 x2), (.bool false), (.pointer (some ⟨b7, f7, none⟩)), (.slice a8 n8 c8), (.slice a9 n9 c9), (.slice a10 n10 c10), (.slice a11 n11 c11), (.slice a37 n37 c37), (.int .i64 x38), (.int .i64 x39)] h Q
def I10_1 (O : CallF) (Q : Value → Hp → Prop) (v0 : Array Value) (x1_0 : Int) (x1_1 : Int) (x1_2 : Int) (x1_3 : Int) (x1_4 : Int) (x1_5 : Int) (x2 : Int) (b7 : Nat) (f7 : Nat) (a8 : Option Addr) (n8 : Nat) (c8 : Nat) (a9 : Option Addr) (n9 : Nat) (c9 : Nat) (a10 : Option Addr) (n10 : Nat) (c10 : Nat) (a11 : Option Addr) (n11 : Nat) (c11 : Nat) (x14 : Int) (a15 : Option Addr) (n15 : Nat) (c15 : Nat) (a77 : Option Addr) (n77 : Nat) (c77 : Nat) (x78 : Int) (x79 : Int) (h : Hp) : Prop := RKL Tryz.prog O Tryz.f10 stk10_1 242 [6, 7, 8, 9, 10, 11, 14, 15, 77, 78, 79] [(.bool false), (.pointer (some ⟨b7, f7, none⟩)), (.slice a8 n8 c8), (.slice a9 n9 c9), (.slice a10 n10 c10), (.slice a11 n11 c11), (.int .i64 x14), (.slice a15 n15 c15), (.slice a77 n77 c77), (.int .i64 x78), (.int .i64 x79)] h Q
def T10 (O : CallF) (Q : Value → Hp → Prop) (v0 : Array Value) (x1_0 : Int) (x1_1 : Int) (x1_2 : Int) (x1_3 : Int) (x1_4 : Int) (x1_5 : Int) (x2 : Int) (h : Hp) : Prop :=
  vreq (v0.toList.all one)
  (let g1 : Hp := h.add (.cells v0.toList 62 .fix)
  let g2 : Hp := g1.add (.cells [(.int .u8 x1_0), (.int .u8 x1_1), (.int .u8 x1_2), (.int .u8 x1_3), (.int .u8 x1_4), (.int .u8 x1_5)] 84 .fix)
  ∃ l3', readAt g2 h.nx 0 51 = some l3' ∧
  ∃ a4' n5' c6', ∃ x7', ∃ a8' n9' c10', ∃ a11' n12' c13', ∃ a14' n15' c16', ∃ a17' n18' c19', ∃ h20', EvC Tryz.prog O 43 [(.agg l3'.toArray)] g2 (.tuple #[(.agg #[(.slice a4' n5' c6'), (.int .i64 x7'), (.slice a8' n9' c10')]), (.slice a11' n12' c13'), (.slice a14' n15' c16'), (.slice a17' n18' c19')]) h20' ∧
  let g21 : Hp := h20'.add (.cells [(.slice none 0 0), (.int .i64 0), (.slice none 0 0)] 24 .fix)
  vreq (canW g21 h20'.nx 0 [(.slice a4' n5' c6'), (.int .i64 x7'), (.slice a8' n9' c10')])
  (let g22 : Hp := g21.wr h20'.nx 0 [(.slice a4' n5' c6'), (.int .i64 x7'), (.slice a8' n9' c10')]
  ∃ a23' n24' c25', sliceV Tryz.prog g22 84 (.pointer (some ⟨g1.nx, 0, none⟩)) none (some (.int .i64 (Int.tmod (wrapF .i64 x2) 7))) none = some (.slice a23' n24' c25') ∧
  I10_0 O Q v0 x1_0 x1_1 x1_2 x1_3 x1_4 x1_5 x2 h20'.nx 0 a11' n12' c13' a14' n15' c16' a17' n18' c19' none 0 0 a23' n24' c25' (Int.ofNat n24') 0 g22))
theorem rk10 {O Q} (v0 x1_0 x1_1 x1_2 x1_3 x1_4 x1_5 x2) {h : Hp} (hO : O 10 [(.agg v0), (.agg #[(.int .u8 x1_0), (.int .u8 x1_1), (.int .u8 x1_2), (.int .u8 x1_3), (.int .u8 x1_4), (.int .u8 x1_5)]), (.int .u8 x2)] h = none) (hh : T10 O Q v0 x1_0 x1_1 x1_2 x1_3 x1_4 x1_5 x2 h) : Ret Tryz.prog O 10 [(.agg v0), (.agg #[(.int .u8 x1_0), (.int .u8 x1_1), (.int .u8 x1_2), (.int .u8 x1_3), (.int .u8 x1_4), (.int .u8 x1_5)]), (.int .u8 x2)] h Q :=
  .of (c := b10) Tryz.func10 (by kernel_rfl) hO (V_ok (tb := lv10) (cuts := []) 500 (Eq.mp (by kernel_rfl) hh))
def T10_0 (O : CallF) (Q : Value → Hp → Prop) (v0 : Array Value) (x1_0 : Int) (x1_1 : Int) (x1_2 : Int) (x1_3 : Int) (x1_4 : Int) (x1_5 : Int) (x2 : Int) (b7 : Nat) (f7 : Nat) (a8 : Option Addr) (n8 : Nat) (c8 : Nat) (a9 : Option Addr) (n9 : Nat) (c9 : Nat) (a10 : Option Addr) (n10 : Nat) (c10 : Nat) (a11 : Option Addr) (n11 : Nat) (c11 : Nat) (a37 : Option Addr) (n37 : Nat) (c37 : Nat) (x38 : Int) (x39 : Int) (h : Hp) : Prop :=
  vcond (ltI x39 x38)
  (isNat x39 fun n101' =>
  isAddr a37 fun b102' f103' =>
  vreq (Nat.blt n101' n37)
  (∃ x104', readAt h b102' (f103' + (n101' * 1)) 1 = some [(.int .u8 x104')] ∧
  vcond (ltI 0 (Int.ofNat n8))
  (vcond (eqI (Int.tmod x104' 2) 1)
  (vreq (!(eqI (Int.ofNat n8) 0))
  (let g105 : Hp := h.add (.cells [(.int .i64 (Int.tmod (wrapF .i64 (Int.tdiv (wrapF .i64 x104') 2)) (Int.ofNat n8))), (.bool true)] 76 .fix)
  ∃ a106' n107' c108' h109', appendV Tryz.prog g105 64 64 (.slice a11 n11 c11) (.slice (some ⟨h.nx, 0, none⟩) 1 1) = some (.slice a106' n107' c108', h109') ∧
  I10_0 O Q v0 x1_0 x1_1 x1_2 x1_3 x1_4 x1_5 x2 b7 f7 a8 n8 c8 a9 n9 c9 a10 n10 c10 a106' n107' c108' a37 n37 c37 x38 (wrapF .i64 (x39 + 1)) h109'))
  (let g110 : Hp := h.add (.cells [(.int .i64 (wrapF .i64 ((wrapF .i64 (2 * (wrapF .i64 x104'))) + 1))), (.bool false)] 76 .fix)
  ∃ a111' n112' c113' h114', appendV Tryz.prog g110 64 64 (.slice a11 n11 c11) (.slice (some ⟨h.nx, 0, none⟩) 1 1) = some (.slice a111' n112' c113', h114') ∧
  I10_0 O Q v0 x1_0 x1_1 x1_2 x1_3 x1_4 x1_5 x2 b7 f7 a8 n8 c8 a9 n9 c9 a10 n10 c10 a111' n112' c113' a37 n37 c37 x38 (wrapF .i64 (x39 + 1)) h114'))
  (let g115 : Hp := h.add (.cells [(.int .i64 (wrapF .i64 ((wrapF .i64 (2 * (wrapF .i64 x104'))) + 1))), (.bool false)] 76 .fix)
  ∃ a116' n117' c118' h119', appendV Tryz.prog g115 64 64 (.slice a11 n11 c11) (.slice (some ⟨h.nx, 0, none⟩) 1 1) = some (.slice a116' n117' c118', h119') ∧
  I10_0 O Q v0 x1_0 x1_1 x1_2 x1_3 x1_4 x1_5 x2 b7 f7 a8 n8 c8 a9 n9 c9 a10 n10 c10 a116' n117' c118' a37 n37 c37 x38 (wrapF .i64 (x39 + 1)) h119')))
  (let g120 : Hp := h.add (.cells [(.int .i64 1), (.int .i64 2), (.int .i64 5)] 37 .fix)
  isNat (Int.tmod (wrapF .i64 (Int.tdiv (wrapF .i64 x2) 8)) 3) fun n121' =>
  vreq (Nat.blt n121' 3)
  (∃ x122', readAt g120 h.nx (0 + (n121' * 1)) 1 = some [(.int .i64 x122')] ∧
  I10_1 O Q v0 x1_0 x1_1 x1_2 x1_3 x1_4 x1_5 x2 b7 f7 a8 n8 c8 a9 n9 c9 a10 n10 c10 a11 n11 c11 x122' none 0 0 a11 n11 c11 (Int.ofNat n11) 0 g120))
theorem I10_0.of {O Q} (v0 x1_0 x1_1 x1_2 x1_3 x1_4 x1_5 x2 b7 f7 a8 n8 c8 a9 n9 c9 a10 n10 c10 a11 n11 c11 a37 n37 c37 x38 x39) {h : Hp} (hh : T10_0 O Q v0 x1_0 x1_1 x1_2 x1_3 x1_4 x1_5 x2 b7 f7 a8 n8 c8 a9 n9 c9 a10 n10 c10 a11 n11 c11 a37 n37 c37 x38 x39 h) : I10_0 O Q v0 x1_0 x1_1 x1_2 x1_3 x1_4 x1_5 x2 b7 f7 a8 n8 c8 a9 n9 c9 a10 n10 c10 a11 n11 c11 a37 n37 c37 x38 x39 h :=
  RKL.of (tb := lv10) (cuts := []) 500 fun _ => Eq.mp (by kernel_rfl) hh
def T10_1 (O : CallF) (Q : Value → Hp → Prop) (v0 : Array Value) (x1_0 : Int) (x1_1 : Int) (x1_2 : Int) (x1_3 : Int) (x1_4 : Int) (x1_5 : Int) (x2 : Int) (b7 : Nat) (f7 : Nat) (a8 : Option Addr) (n8 : Nat) (c8 : Nat) (a9 : Option Addr) (n9 : Nat) (c9 : Nat) (a10 : Option Addr) (n10 : Nat) (c10 : Nat) (a11 : Option Addr) (n11 : Nat) (c11 : Nat) (x14 : Int) (a15 : Option Addr) (n15 : Nat) (c15 : Nat) (a77 : Option Addr) (n77 : Nat) (c77 : Nat) (x78 : Int) (x79 : Int) (h : Hp) : Prop :=
  vcond (ltI x79 x78)
  (isNat x79 fun n201' =>
  isAddr a77 fun b202' f203' =>
  vreq (Nat.blt n201' n77)
  (∃ x204', ∃ q205', readAt h b202' (f203' + (n201' * 2)) 2 = some [(.int .i64 x204'), (.bool q205')] ∧
  let g206 : Hp := h.add (.cells [(.int .i64 0), (.bool false)] 76 .fix)
  vreq (canW g206 h.nx 0 [(.int .i64 x204'), (.bool q205')])
  (let g207 : Hp := g206.wr h.nx 0 [(.int .i64 x204'), (.bool q205')]
  ∃ q208', readAt g207 h.nx 1 1 = some [(.bool q208')] ∧
  vcond q208'
  (∃ x209', readAt g207 h.nx 0 1 = some [(.int .i64 x209')] ∧
  isNat x209' fun n210' =>
  isAddr a10 fun b211' f212' =>
  vreq (Nat.blt n210' n10)
  (∃ x213', readAt g207 b211' (f212' + (n210' * 1)) 1 = some [(.int .i64 x213')] ∧
  let g214 : Hp := g207.add (.cells [(.int .i64 (wrapF .i64 (2 * x213')))] 3 .fix)
  ∃ a215' n216' c217' h218', appendV Tryz.prog g214 22 22 (.slice a15 n15 c15) (.slice (some ⟨g207.nx, 0, none⟩) 1 1) = some (.slice a215' n216' c217', h218') ∧
  I10_1 O Q v0 x1_0 x1_1 x1_2 x1_3 x1_4 x1_5 x2 b7 f7 a8 n8 c8 a9 n9 c9 a10 n10 c10 a11 n11 c11 x14 a215' n216' c217' a77 n77 c77 x78 (wrapF .i64 (x79 + 1)) h218'))
  (∃ x219', readAt g207 h.nx 0 1 = some [(.int .i64 x219')] ∧
  let g220 : Hp := g207.add (.cells [(.int .i64 x219')] 3 .fix)
  ∃ a221' n222' c223' h224', appendV Tryz.prog g220 22 22 (.slice a15 n15 c15) (.slice (some ⟨g207.nx, 0, none⟩) 1 1) = some (.slice a221' n222' c223', h224') ∧
  I10_1 O Q v0 x1_0 x1_1 x1_2 x1_3 x1_4 x1_5 x2 b7 f7 a8 n8 c8 a9 n9 c9 a10 n10 c10 a11 n11 c11 x14 a221' n222' c223' a77 n77 c77 x78 (wrapF .i64 (x79 + 1)) h224'))))
  (∃ a225' n226' c227', ∃ x228', ∃ a229' n230' c231', readAt h b7 f7 3 = some [(.slice a225' n226' c227'), (.int .i64 x228'), (.slice a229' n230' c231')] ∧
  ∃ a232' n233' c234', ∃ x235', ∃ a236' n237' c238', ∃ x239', ∃ x240', ∃ h241', EvC Tryz.prog O 24 [(.agg #[(.slice a225' n226' c227'), (.int .i64 x228'), (.slice a229' n230' c231')]), (.int .i64 x14), (.slice a15 n15 c15)] h (.tuple #[(.agg #[(.slice a232' n233' c234'), (.int .i64 x235'), (.slice a236' n237' c238')]), (.int .i64 x239'), (.int .i64 x240')]) h241' ∧
  let g242 : Hp := h241'.add (.cells [(.slice none 0 0), (.int .i64 0), (.slice none 0 0)] 24 .fix)
  vreq (canW g242 h241'.nx 0 [(.slice a232' n233' c234'), (.int .i64 x235'), (.slice a236' n237' c238')])
  (let g243 : Hp := g242.wr h241'.nx 0 [(.slice a232' n233' c234'), (.int .i64 x235'), (.slice a236' n237' c238')]
  ∃ x244', readAt g243 b7 (f7 + 1) 1 = some [(.int .i64 x244')] ∧
  ∃ a245' n246' c247', readAt g243 b7 (f7 + 0) 1 = some [(.slice a245' n246' c247')] ∧
  vcond (!(ltI (Int.ofNat n246') (wrapF .i64 (x244' + (wrapF .i64 (1 + (Int.ofNat n11)))))))
  (let g248 : Hp := g243.rsv 12
  ∃ a249' n250' c251', readAt g248 b7 (f7 + 0) 1 = some [(.slice a249' n250' c251')] ∧
  ∃ x252', readAt g248 b7 (f7 + 1) 1 = some [(.int .i64 x252')] ∧
  ∃ a253' n254' c255', readAt g248 b7 (f7 + 2) 1 = some [(.slice a253' n254' c255')] ∧
  ∃ a256' n257' c258', ∃ h259', EvC Tryz.prog O 46 [(.slice a249' n250' c251')] (g248.grd [b7, b7]) (.slice a256' n257' c258') h259' ∧
  let g260 : Hp := h259'.rst g248
  vreq (g260.free (g243.nx + 10))
  (let g261 : Hp := g260.lay (g243.nx + 10) (.cells [(.slice none 0 0), (.int .i64 0), (.slice none 0 0)] 24 .fix)
  vreq (canW (g261.grd []) (g243.nx + 10) 0 [(.slice a256' n257' c258'), (.int .i64 (wrapF .i64 (x252' + (wrapF .i64 (1 + (Int.ofNat n11)))))), (.slice a253' n254' c255')])
  (let g262 : Hp := (g261.grd []).wr (g243.nx + 10) 0 [(.slice a256' n257' c258'), (.int .i64 (wrapF .i64 (x252' + (wrapF .i64 (1 + (Int.ofNat n11)))))), (.slice a253' n254' c255')]
  let g263 : Hp := g262.rst g261
  ∃ a264' n265' c266', readAt g263 (g243.nx + 10) 0 1 = some [(.slice a264' n265' c266')] ∧
  ∃ x267', readAt g263 b7 (f7 + 1) 1 = some [(.int .i64 x267')] ∧
  isNat x267' fun n268' =>
  isAddr a264' fun b269' f270' =>
  vreq (Nat.blt n268' n265')
  (vreq (canW g263 b269' (f270' + (n268' * 1)) [(.int .i64 (wrapF .i64 ((wrapF .i64 (8 * (Int.ofNat n11))) + x14)))])
  (let g271 : Hp := g263.wr b269' (f270' + (n268' * 1)) [(.int .i64 (wrapF .i64 ((wrapF .i64 (8 * (Int.ofNat n11))) + x14)))]
  ∃ a272' n273' c274', readAt g271 (g243.nx + 10) 0 1 = some [(.slice a272' n273' c274')] ∧
  ∃ x275', readAt g271 b7 (f7 + 1) 1 = some [(.int .i64 x275')] ∧
  ∃ a276' n277' c278', sliceV Tryz.prog g271 22 (.slice a272' n273' c274') (some (.int .i64 (wrapF .i64 (x275' + 1)))) none none = some (.slice a276' n277' c278') ∧
  ∃ x279' h280', copyV Tryz.prog g271 22 (.slice a276' n277' c278') (.slice a15 n15 c15) = some (.int .i64 x279', h280') ∧
  vcond (eqI x240' 0)
  (∃ x281', readAt h280' b7 (f7 + 1) 1 = some [(.int .i64 x281')] ∧
  vcond (eqI x239' (wrapF .i64 (2 * x281')))
  (∃ a282' n283' c284', ∃ x285', ∃ a286' n287' c288', readAt h280' h241'.nx 0 3 = some [(.slice a282' n283' c284'), (.int .i64 x285'), (.slice a286' n287' c288')] ∧
  ∃ a289' n290' c291', ∃ x292', ∃ a293' n294' c295', readAt h280' (g243.nx + 10) 0 3 = some [(.slice a289' n290' c291'), (.int .i64 x292'), (.slice a293' n294' c295')] ∧
  ∃ q296', ∃ h297', EvC Tryz.prog O 19 [(.agg #[(.slice a282' n283' c284'), (.int .i64 x285'), (.slice a286' n287' c288')]), (.agg #[(.slice a289' n290' c291'), (.int .i64 x292'), (.slice a293' n294' c295')])] h280' (.bool q296') h297' ∧
  vcond q296'
  (∃ q298', ∃ h299', EvC Tryz.prog O 14 [] h297' (.bool q298') h299' ∧
  Q (.bool q298') h299')
  (Q (.bool false) h297'))
  (Q (.bool false) h280'))
  (Q (.bool false) h280'))))))
  (∃ a300' n301' c302', ∃ h303', EvC Tryz.prog O 47 [(.slice a9 n9 c9)] g243 (.slice a300' n301' c302') h303' ∧
  ∃ a304' n305' c306' h307', appendV Tryz.prog h303' 64 64 (.slice a300' n301' c302') (.slice a11 n11 c11) = some (.slice a304' n305' c306', h307') ∧
  ∃ a308' n309' c310', ∃ h311', EvC Tryz.prog O 49 [(.slice a8 n8 c8), (.slice a304' n305' c306')] h307' (.slice a308' n309' c310') h311' ∧
  ∃ a312' n313' c314', ∃ h315', EvC Tryz.prog O 53 [(.slice a8 n8 c8), (.slice a308' n309' c310')] h311' (.slice a312' n313' c314') h315' ∧
  let g316 : Hp := h315'.add (.cells [(.int .i64 x14), (.slice a11 n11 c11)] 72 .fix)
  ∃ a317' n318' c319' h320', appendV Tryz.prog g316 63 63 (.slice a312' n313' c314') (.slice (some ⟨h315'.nx, 0, none⟩) 1 1) = some (.slice a317' n318' c319', h320') ∧
  let g321 : Hp := h320'.add (.cells [(.int .i64 (Int.ofNat n8))] 3 .fix)
  ∃ a322' n323' c324' h325', appendV Tryz.prog g321 22 22 (.slice a308' n309' c310') (.slice (some ⟨h320'.nx, 0, none⟩) 1 1) = some (.slice a322' n323' c324', h325') ∧
  ∃ a326' n327' c328', ∃ x329', ∃ a330' n331' c332', ∃ a333' n334' c335', ∃ h336', EvC Tryz.prog O 52 [(.slice a317' n318' c319'), (.slice a322' n323' c324'), (.slice a9 n9 c9), (.int .i64 0)] h325' (.tuple #[(.agg #[(.slice a326' n327' c328'), (.int .i64 x329'), (.slice a330' n331' c332')]), (.slice a333' n334' c335')]) h336' ∧
  let g337 : Hp := h336'.add (.cells [(.slice none 0 0), (.int .i64 0), (.slice none 0 0)] 24 .fix)
  vreq (canW g337 h336'.nx 0 [(.slice a326' n327' c328'), (.int .i64 x329'), (.slice a330' n331' c332')])
  (let g338 : Hp := g337.wr h336'.nx 0 [(.slice a326' n327' c328'), (.int .i64 x329'), (.slice a330' n331' c332')]
  ∃ a339' n340' c341', readAt g338 h336'.nx 0 1 = some [(.slice a339' n340' c341')] ∧
  ∃ a342' n343' c344', readAt g338 b7 (f7 + 0) 1 = some [(.slice a342' n343' c344')] ∧
  vcond (ltI (Int.ofNat n343') (Int.ofNat n340'))
  (vcond (eqI x240' 3)
  (vcond (eqI x239' 0)
  (∃ a345' n346' c347', readAt g338 h241'.nx 0 1 = some [(.slice a345' n346' c347')] ∧
  vcond (eqI (Int.ofNat n346') 0)
  (∃ q348', ∃ h349', EvC Tryz.prog O 14 [] g338 (.bool q348') h349' ∧
  Q (.bool q348') h349')
  (Q (.bool false) g338))
  (Q (.bool false) g338))
  (Q (.bool false) g338))
  (∃ a350' n351' c352', readAt g338 h336'.nx 0 1 = some [(.slice a350' n351' c352')] ∧
  ∃ a353' n354' c355', readAt g338 b7 (f7 + 0) 1 = some [(.slice a353' n354' c355')] ∧
  ∃ a356' n357' c358', readAt g338 h336'.nx 0 1 = some [(.slice a356' n357' c358')] ∧
  ∃ a359' n360' c361' h362', appendV Tryz.prog g338 22 3 (.slice a350' n351' c352') (.int .i64 (wrapF .i64 ((Int.ofNat n354') - (Int.ofNat n357')))) = some (.slice a359' n360' c361', h362') ∧
  vreq (canW h362' h336'.nx 0 [(.slice a359' n360' c361')])
  (let g363 : Hp := h362'.wr h336'.nx 0 [(.slice a359' n360' c361')]
  vcond (eqI x240' 0)
  (isAddr a333' fun b364' f365' =>
  vreq (Nat.blt n8 n334')
  (∃ x366', readAt g363 b364' (f365' + (n8 * 1)) 1 = some [(.int .i64 x366')] ∧
  vcond (eqI x239' (wrapF .i64 (2 * x366')))
  (∃ a367' n368' c369', ∃ x370', ∃ a371' n372' c373', readAt g363 h241'.nx 0 3 = some [(.slice a367' n368' c369'), (.int .i64 x370'), (.slice a371' n372' c373')] ∧
  ∃ a374' n375' c376', ∃ x377', ∃ a378' n379' c380', readAt g363 h336'.nx 0 3 = some [(.slice a374' n375' c376'), (.int .i64 x377'), (.slice a378' n379' c380')] ∧
  ∃ q381', ∃ h382', EvC Tryz.prog O 19 [(.agg #[(.slice a367' n368' c369'), (.int .i64 x370'), (.slice a371' n372' c373')]), (.agg #[(.slice a374' n375' c376'), (.int .i64 x377'), (.slice a378' n379' c380')])] g363 (.bool q381') h382' ∧
  vcond q381'
  (∃ q383', ∃ h384', EvC Tryz.prog O 14 [] h382' (.bool q383') h384' ∧
  Q (.bool q383') h384')
  (Q (.bool false) h382'))
  (Q (.bool false) g363)))
  (Q (.bool false) g363)))))))
theorem I10_1.of {O Q} (v0 x1_0 x1_1 x1_2 x1_3 x1_4 x1_5 x2 b7 f7 a8 n8 c8 a9 n9 c9 a10 n10 c10 a11 n11 c11 x14 a15 n15 c15 a77 n77 c77 x78 x79) {h : Hp} (hh : T10_1 O Q v0 x1_0 x1_1 x1_2 x1_3 x1_4 x1_5 x2 b7 f7 a8 n8 c8 a9 n9 c9 a10 n10 c10 a11 n11 c11 x14 a15 n15 c15 a77 n77 c77 x78 x79 h) : I10_1 O Q v0 x1_0 x1_1 x1_2 x1_3 x1_4 x1_5 x2 b7 f7 a8 n8 c8 a9 n9 c9 a10 n10 c10 a11 n11 c11 x14 a15 n15 c15 a77 n77 c77 x78 x79 h :=
  RKL.of (tb := lv10) (cuts := []) 500 fun _ => Eq.mp (by kernel_rfl) hh
/-! sward/swardlaw15.CollectKept -/
noncomputable def b11 : Code := (Tryz.f11.body).getD .skip
/-! (sward/swardlaw15.Pile).made -/
noncomputable def b43 : Code := (Tryz.f43.body).getD .skip
def lv43 : List (Nat × List Nat) := []
def T43 (O : CallF) (Q : Value → Hp → Prop) (v0 : Array Value) (h : Hp) : Prop :=
  vreq (v0.toList.all one)
  (let g1 : Hp := h.add (.cells v0.toList 62 .fix)
  let g2 : Hp := g1.add (.cells [(.slice none 0 0), (.int .i64 0), (.slice none 0 0)] 24 .fix)
  ∃ l3', readAt g2 h.nx 0 51 = some l3' ∧
  ∃ a4' n5' c6', ∃ a7' n8' c9', ∃ h10', EvC Tryz.prog O 106 [(.agg l3'.toArray)] g2 (.tuple #[(.slice a4' n5' c6'), (.slice a7' n8' c9')]) h10' ∧
  let g11 : Hp := h10'.rsv 16
  ∃ x12', readAt g11 h.nx 1 1 = some [(.int .u8 x12')] ∧
  ∃ a13' n14' c15', ∃ h16', EvC Tryz.prog O 51 [(.int .i64 (Int.ofNat n5'))] (g11.grd [h.nx]) (.slice a13' n14' c15') h16' ∧
  let g17 : Hp := h16'.rst g11
  ∃ a18' n19' c20', ∃ x21', ∃ a22' n23' c24', ∃ a25' n26' c27', ∃ h28', EvC Tryz.prog O 52 [(.slice a4' n5' c6'), (.slice a13' n14' c15'), (.slice a7' n8' c9'), (.int .i64 (Int.tmod (wrapF .i64 x12') 16))] (g17.grd []) (.tuple #[(.agg #[(.slice a18' n19' c20'), (.int .i64 x21'), (.slice a22' n23' c24')]), (.slice a25' n26' c27')]) h28' ∧
  let g29 : Hp := h28'.rst g17
  vreq (g29.free (h10'.nx + 13))
  (let g30 : Hp := g29.lay (h10'.nx + 13) (.cells [(.slice none 0 0), (.int .i64 0), (.slice none 0 0)] 24 .fix)
  vreq (canW (g30.grd []) (h10'.nx + 13) 0 [(.slice a18' n19' c20'), (.int .i64 x21'), (.slice a22' n23' c24')])
  (let g31 : Hp := (g30.grd []).wr (h10'.nx + 13) 0 [(.slice a18' n19' c20'), (.int .i64 x21'), (.slice a22' n23' c24')]
  let g32 : Hp := g31.rst g30
  ∃ a33' n34' c35', ∃ x36', ∃ a37' n38' c39', readAt g32 (h10'.nx + 13) 0 3 = some [(.slice a33' n34' c35'), (.int .i64 x36'), (.slice a37' n38' c39')] ∧
  vreq (canW g32 g1.nx 0 [(.slice a33' n34' c35'), (.int .i64 x36'), (.slice a37' n38' c39')])
  (let g40 : Hp := g32.wr g1.nx 0 [(.slice a33' n34' c35'), (.int .i64 x36'), (.slice a37' n38' c39')]
  ∃ a41' n42' c43', ∃ x44', ∃ a45' n46' c47', readAt g40 g1.nx 0 3 = some [(.slice a41' n42' c43'), (.int .i64 x44'), (.slice a45' n46' c47')] ∧
  Q (.tuple #[(.agg #[(.slice a41' n42' c43'), (.int .i64 x44'), (.slice a45' n46' c47')]), (.slice a4' n5' c6'), (.slice a7' n8' c9'), (.slice a25' n26' c27')]) g40))))
theorem rk43 {O Q} (v0) {h : Hp} (hO : O 43 [(.agg v0)] h = none) (hh : T43 O Q v0 h) : Ret Tryz.prog O 43 [(.agg v0)] h Q :=
  .of (c := b43) Tryz.func43 (by kernel_rfl) hO (V_ok (tb := lv43) (cuts := []) 500 (Eq.mp (by kernel_rfl) hh))
/-! slices.Clone[[]sward/swardlaw15.field,sward/swardlaw15.field] -/
noncomputable def b47 : Code := (Tryz.f47.body).getD .skip
def lv47 : List (Nat × List Nat) := []
def T47 (O : CallF) (Q : Value → Hp → Prop) (a0 : Option Addr) (n0 : Nat) (c0 : Nat) (h : Hp) : Prop :=
  vnil a0
  (Q (.slice none 0 0) h)
  (let g1 : Hp := h.add (.cells [] 76 .fix)
  ∃ a2' n3' c4' h5', appendV Tryz.prog g1 64 64 (.slice (some ⟨h.nx, 0, none⟩) 0 0) (.slice a0 n0 c0) = some (.slice a2' n3' c4', h5') ∧
  Q (.slice a2' n3' c4') h5')
theorem rk47 {O Q} (a0 n0 c0) {h : Hp} (hO : O 47 [(.slice a0 n0 c0)] h = none) (hh : T47 O Q a0 n0 c0 h) : Ret Tryz.prog O 47 [(.slice a0 n0 c0)] h Q :=
  .of (c := b47) Tryz.func47 (by kernel_rfl) hO (V_ok (tb := lv47) (cuts := []) 500 (Eq.mp (by kernel_rfl) hh))
/-! (sward/swardlaw15.cell).holds -/
noncomputable def b48 : Code := (Tryz.f48.body).getD .skip
def lv48 : List (Nat × List Nat) := []
def T48 (O : CallF) (Q : Value → Hp → Prop) (x0_0 : Int) (a0_1 : Option Addr) (n0_1 : Nat) (c0_1 : Nat) (h : Hp) : Prop :=
  let g1 : Hp := h.add (.cells [(.int .i64 x0_0), (.slice a0_1 n0_1 c0_1)] 72 .fix)
  ∃ x2', readAt g1 h.nx 0 1 = some [(.int .i64 x2')] ∧
  vcond (eqI x2' 1)
  (Q (.bool true) g1)
  (∃ x3', readAt g1 h.nx 0 1 = some [(.int .i64 x3')] ∧
  Q (.bool (eqI x3' 2)) g1)
theorem rk48 {O Q} (x0_0 a0_1 n0_1 c0_1) {h : Hp} (hO : O 48 [(.agg #[(.int .i64 x0_0), (.slice a0_1 n0_1 c0_1)])] h = none) (hh : T48 O Q x0_0 a0_1 n0_1 c0_1 h) : Ret Tryz.prog O 48 [(.agg #[(.int .i64 x0_0), (.slice a0_1 n0_1 c0_1)])] h Q :=
  .of (c := b48) Tryz.func48 (by kernel_rfl) hO (V_ok (tb := lv48) (cuts := []) 500 (Eq.mp (by kernel_rfl) hh))
/-! sward/swardlaw15.reached -/
noncomputable def b49 : Code := (Tryz.f49.body).getD .skip
noncomputable def stk49_0 : List KI := [.code (sub [1, 1, 1, 0, 1, 0] b49), .blk 0, .code (sub [1, 1, 1, 1] b49)]
noncomputable def stk49_1 : List KI := [.code (sub [1, 1, 1, 1, 0, 1, 0] b49), .blk 2, .code (sub [1, 1, 1, 1, 1] b49)]
noncomputable def stk49_2 : List KI := [.code (sub [1, 1, 1, 1, 0, 1, 0, 0, 1, 0, 0, 1, 1, 0, 1, 0] b49), .blk 4, .blk 3, .code (sub [1, 1, 1, 1, 0, 1, 0, 0, 1, 1] b49), .code (sub [1, 1, 1, 1, 0, 1, 0] b49), .blk 2, .code (sub [1, 1, 1, 1, 1] b49)]
def lv49 : List (Nat × List Nat) := [(0, [0, 4, 5, 6, 14, 15, 16]), (2, [0, 4, 5, 6, 9]), (4, [0, 4, 5, 6, 9, 40, 41, 42])]
def I49_0 (O : CallF) (Q : Value → Hp → Prop) (a0 : Option Addr) (n0 : Nat) (c0 : Nat) (a1 : Option Addr) (n1 : Nat) (c1 : Nat) (b5 : Nat) (f5 : Nat) (v6 : Value) (x16 : Int) (h : Hp) : Prop := RKL Tryz.prog O Tryz.f49 stk49_0 51 [0, 4, 5, 6, 14, 15, 16] [(.slice a0 n0 c0), (.slice none 0 0), (.pointer (some ⟨b5, f5, none⟩)), v6, (.slice a1 n1 c1), (.int .i64 (Int.ofNat n1)), (.int .i64 x16)] h Q
def I49_1 (O : CallF) (Q : Value → Hp → Prop) (a0 : Option Addr) (n0 : Nat) (c0 : Nat) (a1 : Option Addr) (n1 : Nat) (c1 : Nat) (b5 : Nat) (f5 : Nat) (v6 : Value) (x9 : Int) (h : Hp) : Prop := RKL Tryz.prog O Tryz.f49 stk49_1 51 [0, 4, 5, 6, 9] [(.slice a0 n0 c0), (.slice none 0 0), (.pointer (some ⟨b5, f5, none⟩)), v6, (.int .i64 x9)] h Q
def I49_2 (O : CallF) (Q : Value → Hp → Prop) (a0 : Option Addr) (n0 : Nat) (c0 : Nat) (a1 : Option Addr) (n1 : Nat) (c1 : Nat) (b5 : Nat) (f5 : Nat) (v6 : Value) (x9 : Int) (a40 : Option Addr) (n40 : Nat) (c40 : Nat) (x41 : Int) (x42 : Int) (h : Hp) : Prop := RKL Tryz.prog O Tryz.f49 stk49_2 51 [0, 4, 5, 6, 9, 40, 41, 42] [(.slice a0 n0 c0), (.slice none 0 0), (.pointer (some ⟨b5, f5, none⟩)), v6, (.int .i64 x9), (.slice a40 n40 c40), (.int .i64 x41), (.int .i64 x42)] h Q
def T49 (O : CallF) (Q : Value → Hp → Prop) (a0 : Option Addr) (n0 : Nat) (c0 : Nat) (a1 : Option Addr) (n1 : Nat) (c1 : Nat) (h : Hp) : Prop :=
  let g1 : Hp := h.add (.cells [(.slice none 0 0)] 22 .fix)
  I49_0 O Q a0 n0 c0 a1 n1 c1 h.nx 0 (.func (.func 108) #[] #[(.pointer (some ⟨h.nx, 0, none⟩))]) 0 g1
theorem rk49 {O Q} (a0 n0 c0 a1 n1 c1) {h : Hp} (hO : O 49 [(.slice a0 n0 c0), (.slice a1 n1 c1)] h = none) (hh : T49 O Q a0 n0 c0 a1 n1 c1 h) : Ret Tryz.prog O 49 [(.slice a0 n0 c0), (.slice a1 n1 c1)] h Q :=
  .of (c := b49) Tryz.func49 (by kernel_rfl) hO (V_ok (tb := lv49) (cuts := []) 500 (Eq.mp (by kernel_rfl) hh))
def T49_0 (O : CallF) (Q : Value → Hp → Prop) (a0 : Option Addr) (n0 : Nat) (c0 : Nat) (a1 : Option Addr) (n1 : Nat) (c1 : Nat) (b5 : Nat) (f5 : Nat) (v6 : Value) (x16 : Int) (h : Hp) : Prop :=
  vcond (ltI x16 (Int.ofNat n1))
  (isNat x16 fun n101' =>
  isAddr a1 fun b102' f103' =>
  vreq (Nat.blt n101' n1)
  (∃ x104', ∃ q105', readAt h b102' (f103' + (n101' * 2)) 2 = some [(.int .i64 x104'), (.bool q105')] ∧
  let g106 : Hp := h.add (.cells [(.int .i64 0), (.bool false)] 76 .fix)
  vreq (canW g106 h.nx 0 [(.int .i64 x104'), (.bool q105')])
  (let g107 : Hp := g106.wr h.nx 0 [(.int .i64 x104'), (.bool q105')]
  ∃ x108', ∃ q109', readAt g107 h.nx 0 2 = some [(.int .i64 x108'), (.bool q109')] ∧
  isFn v6 fun g110' r111' r112' =>
  ∃ h113', EvC Tryz.prog O g110' (r111' ++ [(.agg #[(.int .i64 x108'), (.bool q109')])] ++ r112') g107 undef h113' ∧
  I49_0 O Q a0 n0 c0 a1 n1 c1 b5 f5 v6 (wrapF .i64 (x16 + 1)) h113')))
  (I49_1 O Q a0 n0 c0 a1 n1 c1 b5 f5 v6 0 h)
theorem I49_0.of {O Q} (a0 n0 c0 a1 n1 c1 b5 f5 v6 x16) {h : Hp} (hh : T49_0 O Q a0 n0 c0 a1 n1 c1 b5 f5 v6 x16 h) : I49_0 O Q a0 n0 c0 a1 n1 c1 b5 f5 v6 x16 h :=
  RKL.of (tb := lv49) (cuts := []) 500 fun _ => Eq.mp (by kernel_rfl) hh
def T49_1 (O : CallF) (Q : Value → Hp → Prop) (a0 : Option Addr) (n0 : Nat) (c0 : Nat) (a1 : Option Addr) (n1 : Nat) (c1 : Nat) (b5 : Nat) (f5 : Nat) (v6 : Value) (x9 : Int) (h : Hp) : Prop :=
  ∃ a201' n202' c203', readAt h b5 f5 1 = some [(.slice a201' n202' c203')] ∧
  vcond (ltI x9 (Int.ofNat n202'))
  (∃ a204' n205' c206', readAt h b5 f5 1 = some [(.slice a204' n205' c206')] ∧
  isNat x9 fun n207' =>
  isAddr a204' fun b208' f209' =>
  vreq (Nat.blt n207' n205')
  (∃ x210', readAt h b208' (f209' + (n207' * 1)) 1 = some [(.int .i64 x210')] ∧
  isNat x210' fun n211' =>
  isAddr a0 fun b212' f213' =>
  vreq (Nat.blt n211' n0)
  (∃ x214', ∃ a215' n216' c217', readAt h b212' (f213' + (n211' * 2)) 2 = some [(.int .i64 x214'), (.slice a215' n216' c217')] ∧
  let g218 : Hp := h.add (.cells [(.int .i64 0), (.slice none 0 0)] 72 .fix)
  vreq (canW g218 h.nx 0 [(.int .i64 x214'), (.slice a215' n216' c217')])
  (let g219 : Hp := g218.wr h.nx 0 [(.int .i64 x214'), (.slice a215' n216' c217')]
  ∃ x220', ∃ a221' n222' c223', readAt g219 h.nx 0 2 = some [(.int .i64 x220'), (.slice a221' n222' c223')] ∧
  ∃ q224', ∃ h225', EvC Tryz.prog O 48 [(.agg #[(.int .i64 x220'), (.slice a221' n222' c223')])] g219 (.bool q224') h225' ∧
  vcond q224'
  (∃ a226' n227' c228', readAt h225' h.nx 1 1 = some [(.slice a226' n227' c228')] ∧
  I49_2 O Q a0 n0 c0 a1 n1 c1 b5 f5 v6 x9 a226' n227' c228' (Int.ofNat n227') 0 h225')
  (I49_1 O Q a0 n0 c0 a1 n1 c1 b5 f5 v6 (wrapF .i64 (x9 + 1)) h225')))))
  (∃ a229' n230' c231', readAt h b5 f5 1 = some [(.slice a229' n230' c231')] ∧
  Q (.slice a229' n230' c231') h)
theorem I49_1.of {O Q} (a0 n0 c0 a1 n1 c1 b5 f5 v6 x9) {h : Hp} (hh : T49_1 O Q a0 n0 c0 a1 n1 c1 b5 f5 v6 x9 h) : I49_1 O Q a0 n0 c0 a1 n1 c1 b5 f5 v6 x9 h :=
  RKL.of (tb := lv49) (cuts := []) 500 fun _ => Eq.mp (by kernel_rfl) hh
def T49_2 (O : CallF) (Q : Value → Hp → Prop) (a0 : Option Addr) (n0 : Nat) (c0 : Nat) (a1 : Option Addr) (n1 : Nat) (c1 : Nat) (b5 : Nat) (f5 : Nat) (v6 : Value) (x9 : Int) (a40 : Option Addr) (n40 : Nat) (c40 : Nat) (x41 : Int) (x42 : Int) (h : Hp) : Prop :=
  vcond (ltI x42 x41)
  (isNat x42 fun n301' =>
  isAddr a40 fun b302' f303' =>
  vreq (Nat.blt n301' n40)
  (∃ x304', ∃ q305', readAt h b302' (f303' + (n301' * 2)) 2 = some [(.int .i64 x304'), (.bool q305')] ∧
  let g306 : Hp := h.add (.cells [(.int .i64 0), (.bool false)] 76 .fix)
  vreq (canW g306 h.nx 0 [(.int .i64 x304'), (.bool q305')])
  (let g307 : Hp := g306.wr h.nx 0 [(.int .i64 x304'), (.bool q305')]
  ∃ x308', ∃ q309', readAt g307 h.nx 0 2 = some [(.int .i64 x308'), (.bool q309')] ∧
  isFn v6 fun g310' r311' r312' =>
  ∃ h313', EvC Tryz.prog O g310' (r311' ++ [(.agg #[(.int .i64 x308'), (.bool q309')])] ++ r312') g307 undef h313' ∧
  I49_2 O Q a0 n0 c0 a1 n1 c1 b5 f5 v6 x9 a40 n40 c40 x41 (wrapF .i64 (x42 + 1)) h313')))
  (I49_1 O Q a0 n0 c0 a1 n1 c1 b5 f5 v6 (wrapF .i64 (x9 + 1)) h)
theorem I49_2.of {O Q} (a0 n0 c0 a1 n1 c1 b5 f5 v6 x9 a40 n40 c40 x41 x42) {h : Hp} (hh : T49_2 O Q a0 n0 c0 a1 n1 c1 b5 f5 v6 x9 a40 n40 c40 x41 x42 h) : I49_2 O Q a0 n0 c0 a1 n1 c1 b5 f5 v6 x9 a40 n40 c40 x41 x42 h :=
  RKL.of (tb := lv49) (cuts := []) 500 fun _ => Eq.mp (by kernel_rfl) hh
/-! sward/swardlaw15.upTo -/
noncomputable def b51 : Code := (Tryz.f51.body).getD .skip
noncomputable def stk51_0 : List KI := [.code (sub [1, 1, 0, 1, 0] b51), .blk 0, .code (sub [1, 1, 1] b51)]
def lv51 : List (Nat × List Nat) := [(0, [2, 3, 5, 6])]
def I51_0 (O : CallF) (Q : Value → Hp → Prop) (x0 : Int) (a3 : Option Addr) (n3 : Nat) (c3 : Nat) (x6 : Int) (h : Hp) : Prop := RKL Tryz.prog O Tryz.f51 stk51_0 15 [2, 3, 5, 6] [(.slice none 0 0), (.slice a3 n3 c3), (.int .i64 x0), (.int .i64 x6)] h Q
def T51 (O : CallF) (Q : Value → Hp → Prop) (x0 : Int) (h : Hp) : Prop :=
  I51_0 O Q x0 none 0 0 0 h
theorem rk51 {O Q} (x0) {h : Hp} (hO : O 51 [(.int .i64 x0)] h = none) (hh : T51 O Q x0 h) : Ret Tryz.prog O 51 [(.int .i64 x0)] h Q :=
  .of (c := b51) Tryz.func51 (by kernel_rfl) hO (V_ok (tb := lv51) (cuts := []) 500 (Eq.mp (by kernel_rfl) hh))
def T51_0 (O : CallF) (Q : Value → Hp → Prop) (x0 : Int) (a3 : Option Addr) (n3 : Nat) (c3 : Nat) (x6 : Int) (h : Hp) : Prop :=
  vcond (ltI x6 x0)
  (let g101 : Hp := h.add (.cells [(.int .i64 x6)] 3 .fix)
  ∃ a102' n103' c104' h105', appendV Tryz.prog g101 22 22 (.slice a3 n3 c3) (.slice (some ⟨h.nx, 0, none⟩) 1 1) = some (.slice a102' n103' c104', h105') ∧
  I51_0 O Q x0 a102' n103' c104' (wrapF .i64 (x6 + 1)) h105')
  (Q (.slice a3 n3 c3) h)
theorem I51_0.of {O Q} (x0 a3 n3 c3 x6) {h : Hp} (hh : T51_0 O Q x0 a3 n3 c3 x6 h) : I51_0 O Q x0 a3 n3 c3 x6 h :=
  RKL.of (tb := lv51) (cuts := []) 500 fun _ => Eq.mp (by kernel_rfl) hh
/-! sward/swardlaw15.laid -/
noncomputable def b52 : Code := (Tryz.f52.body).getD .skip
noncomputable def stk52_0 : List KI := [.code (sub [1, 1, 1, 0, 1, 0] b52), .blk 0, .code (sub [1, 1, 1, 1] b52)]
noncomputable def stk52_1 : List KI := [.code (sub [1, 1, 1, 1, 1, 1, 0, 1, 0] b52), .blk 2, .code (sub [1, 1, 1, 1, 1, 1, 1] b52)]
noncomputable def stk52_2 : List KI := [.code (sub [1, 1, 1, 1, 1, 1, 0, 1, 0, 0, 1, 1, 0, 0, 1, 1, 1, 0] b52), .blk 4, .blk 3, .code (sub [1, 1, 1, 1, 1, 1, 0, 1, 0, 0, 1, 1, 1] b52), .code (sub [1, 1, 1, 1, 1, 1, 0, 1, 0] b52), .blk 2, .code (sub [1, 1, 1, 1, 1, 1, 1] b52)]
noncomputable def stk52_3 : List KI := [.code (sub [1, 1, 1, 1, 1, 1, 1, 0, 1, 0] b52), .blk 6, .code (sub [1, 1, 1, 1, 1, 1, 1, 1] b52)]
def lv52 : List (Nat × List Nat) := [(0, [0, 1, 2, 3, 8, 9, 10, 11, 26, 27, 28]), (2, [0, 2, 8, 9, 10, 11, 14, 56, 57, 58]), (4, [0, 2, 8, 9, 10, 11, 14, 16, 56, 57, 58, 86, 87, 88]), (6, [8, 9, 10, 11, 14, 108, 109, 110])]
def I52_0 (O : CallF) (Q : Value → Hp → Prop) (a0 : Option Addr) (n0 : Nat) (c0 : Nat) (a1 : Option Addr) (n1 : Nat) (c1 : Nat) (a2 : Option Addr) (n2 : Nat) (c2 : Nat) (x3 : Int) (b8 : Nat) (f8 : Nat) (b10 : Nat) (f10 : Nat) (b11 : Nat) (f11 : Nat) (x28 : Int) (h : Hp) : Prop := RKL Tryz.prog O Tryz.f52 stk52_0 125 [0, 1, 2, 3, 8, 9, 10, 11, 26, 27, 28] [(.slice a0 n0 c0), (.slice a1 n1 c1), (.slice a2 n2 c2), (.int .i64 x3), (.pointer (some ⟨b8, f8, none⟩)), (.slice none 0 0), (.pointer (some ⟨b10, f10, none⟩)), (.pointer (some ⟨b11, f11, none⟩)), (.slice a1 n1 c1), (.int .i64 (Int.ofNat n1)), (.int .i64 x28)] h Q
def I52_1 (O : CallF) (Q : Value → Hp → Prop) (a0 : Option Addr) (n0 : Nat) (c0 : Nat) (a1 : Option Addr) (n1 : Nat) (c1 : Nat) (a2 : Option Addr) (n2 : Nat) (c2 : Nat) (x3 : Int) (b8 : Nat) (f8 : Nat) (b10 : Nat) (f10 : Nat) (b11 : Nat) (f11 : Nat) (v14 : Value) (x58 : Int) (h : Hp) : Prop := RKL Tryz.prog O Tryz.f52 stk52_1 125 [0, 2, 8, 9, 10, 11, 14, 56, 57, 58] [(.slice a0 n0 c0), (.slice a2 n2 c2), (.pointer (some ⟨b8, f8, none⟩)), (.slice none 0 0), (.pointer (some ⟨b10, f10, none⟩)), (.pointer (some ⟨b11, f11, none⟩)), v14, (.slice a1 n1 c1), (.int .i64 (Int.ofNat n1)), (.int .i64 x58)] h Q
def I52_2 (O : CallF) (Q : Value → Hp → Prop) (a0 : Option Addr) (n0 : Nat) (c0 : Nat) (a1 : Option Addr) (n1 : Nat) (c1 : Nat) (a2 : Option Addr) (n2 : Nat) (c2 : Nat) (x3 : Int) (b8 : Nat) (f8 : Nat) (b10 : Nat) (f10 : Nat) (b11 : Nat) (f11 : Nat) (v14 : Value) (x16 : Int) (x58 : Int) (a86 : Option Addr) (n86 : Nat) (c86 : Nat) (x87 : Int) (x88 : Int) (h : Hp) : Prop := RKL Tryz.prog O Tryz.f52 stk52_2 125 [0, 2, 8, 9, 10, 11, 14, 16, 56, 57, 58, 86, 87, 88] [(.slice a0 n0 c0), (.slice a2 n2 c2), (.pointer (some ⟨b8, f8, none⟩)), (.slice none 0 0), (.pointer (some ⟨b10, f10, none⟩)), (.pointer (some ⟨b11, f11, none⟩)), v14, (.int .i64 x16), (.slice a1 n1 c1), (.int .i64 (Int.ofNat n1)), (.int .i64 x58), (.slice a86 n86 c86), (.int .i64 x87), (.int .i64 x88)] h Q
def I52_3 (O : CallF) (Q : Value → Hp → Prop) (a0 : Option Addr) (n0 : Nat) (c0 : Nat) (a1 : Option Addr) (n1 : Nat) (c1 : Nat) (a2 : Option Addr) (n2 : Nat) (c2 : Nat) (x3 : Int) (b8 : Nat) (f8 : Nat) (b10 : Nat) (f10 : Nat) (b11 : Nat) (f11 : Nat) (v14 : Value) (x110 : Int) (h : Hp) : Prop := RKL Tryz.prog O Tryz.f52 stk52_3 125 [8, 9, 10, 11, 14, 108, 109, 110] [(.pointer (some ⟨b8, f8, none⟩)), (.slice none 0 0), (.pointer (some ⟨b10, f10, none⟩)), (.pointer (some ⟨b11, f11, none⟩)), v14, (.slice a2 n2 c2), (.int .i64 (Int.ofNat n2)), (.int .i64 x110)] h Q
def T52 (O : CallF) (Q : Value → Hp → Prop) (a0 : Option Addr) (n0 : Nat) (c0 : Nat) (a1 : Option Addr) (n1 : Nat) (c1 : Nat) (a2 : Option Addr) (n2 : Nat) (c2 : Nat) (x3 : Int) (h : Hp) : Prop :=
  let g1 : Hp := h.add (.cells [(.slice none 0 0), (.int .i64 0), (.slice none 0 0)] 24 .fix)
  let g2 : Hp := g1.add (.cells [(.int .i64 (-1))] 3 .fix)
  ∃ a3' n4' c5', ∃ h6', EvC Tryz.prog O 111 [(.slice (some ⟨g1.nx, 0, none⟩) 1 1), (.int .i64 (Int.ofNat n0))] g2 (.slice a3' n4' c5') h6' ∧
  let g7 : Hp := h6'.add (.cells [(.slice none 0 0)] 22 .fix)
  vreq (canW g7 h6'.nx 0 [(.slice a3' n4' c5')])
  (let g8 : Hp := g7.wr h6'.nx 0 [(.slice a3' n4' c5')]
  let g9 : Hp := g8.add (.cells [(.slice none 0 0), (.int .i64 0), (.slice none 0 0)] 24 .fix)
  vreq (canW g9 g8.nx 0 [(.slice none 0 0), (.int .i64 1), (.slice none 0 0)])
  (let g10 : Hp := g9.wr g8.nx 0 [(.slice none 0 0), (.int .i64 1), (.slice none 0 0)]
  I52_0 O Q a0 n0 c0 a1 n1 c1 a2 n2 c2 x3 h.nx 0 h6'.nx 0 g8.nx 0 0 g10))
theorem rk52 {O Q} (a0 n0 c0 a1 n1 c1 a2 n2 c2 x3) {h : Hp} (hO : O 52 [(.slice a0 n0 c0), (.slice a1 n1 c1), (.slice a2 n2 c2), (.int .i64 x3)] h = none) (hh : T52 O Q a0 n0 c0 a1 n1 c1 a2 n2 c2 x3 h) : Ret Tryz.prog O 52 [(.slice a0 n0 c0), (.slice a1 n1 c1), (.slice a2 n2 c2), (.int .i64 x3)] h Q :=
  .of (c := b52) Tryz.func52 (by kernel_rfl) hO (V_ok (tb := lv52) (cuts := []) 500 (Eq.mp (by kernel_rfl) hh))
def T52_0 (O : CallF) (Q : Value → Hp → Prop) (a0 : Option Addr) (n0 : Nat) (c0 : Nat) (a1 : Option Addr) (n1 : Nat) (c1 : Nat) (a2 : Option Addr) (n2 : Nat) (c2 : Nat) (x3 : Int) (b8 : Nat) (f8 : Nat) (b10 : Nat) (f10 : Nat) (b11 : Nat) (f11 : Nat) (x28 : Int) (h : Hp) : Prop :=
  vcond (ltI x28 (Int.ofNat n1))
  (isNat x28 fun n101' =>
  isAddr a1 fun b102' f103' =>
  vreq (Nat.blt n101' n1)
  (∃ x104', readAt h b102' (f103' + (n101' * 1)) 1 = some [(.int .i64 x104')] ∧
  ∃ a105' n106' c107', readAt h b10 f10 1 = some [(.slice a105' n106' c107')] ∧
  ∃ x108', readAt h b11 (f11 + 1) 1 = some [(.int .i64 x108')] ∧
  isNat x104' fun n109' =>
  isAddr a105' fun b110' f111' =>
  vreq (Nat.blt n109' n106')
  (vreq (canW h b110' (f111' + (n109' * 1)) [(.int .i64 x108')])
  (let g112 : Hp := h.wr b110' (f111' + (n109' * 1)) [(.int .i64 x108')]
  let g113 : Hp := g112.rsv 12
  ∃ x114', readAt g113 b11 (f11 + 1) 1 = some [(.int .i64 x114')] ∧
  isNat x104' fun n115' =>
  isAddr a0 fun b116' f117' =>
  vreq (Nat.blt n115' n0)
  (∃ a118' n119' c120', readAt g113 b116' ((f117' + (n115' * 2)) + 1) 1 = some [(.slice a118' n119' c120')] ∧
  vreq (canW (g113.grd []) b11 (f11 + 1) [(.int .i64 (wrapF .i64 (x114' + (wrapF .i64 (1 + (Int.ofNat n119'))))))])
  (let g121 : Hp := (g113.grd []).wr b11 (f11 + 1) [(.int .i64 (wrapF .i64 (x114' + (wrapF .i64 (1 + (Int.ofNat n119'))))))]
  let g122 : Hp := g121.rst g113
  I52_0 O Q a0 n0 c0 a1 n1 c1 a2 n2 c2 x3 b8 f8 b10 f10 b11 f11 (wrapF .i64 (x28 + 1)) g122))))))
  (∃ x123', readAt h b11 (f11 + 1) 1 = some [(.int .i64 x123')] ∧
  isNat (wrapF .i64 (x123' + x3)) fun n124' =>
  isNat (wrapF .i64 (x123' + x3)) fun n125' =>
  vreq (Nat.ble n124' n125')
  (vreq (Nat.ble (n125' * 8) 281474976710656)
  (vreq (Nat.blt n125' big)
  (let g126 : Hp := h.add (.cells (List.flatten (List.replicate n125' [(.int .i64 0)])) 3 .fix)
  vreq (canW g126 b11 (f11 + 0) [(.slice (some ⟨h.nx, 0, none⟩) n124' n125')])
  (let g127 : Hp := g126.wr b11 (f11 + 0) [(.slice (some ⟨h.nx, 0, none⟩) n124' n125')]
  I52_1 O Q a0 n0 c0 a1 n1 c1 a2 n2 c2 x3 b8 f8 b10 f10 b11 f11 (.func (.func 112) #[] #[(.pointer (some ⟨b10, f10, none⟩))]) 0 g127)))))
theorem I52_0.of {O Q} (a0 n0 c0 a1 n1 c1 a2 n2 c2 x3 b8 f8 b10 f10 b11 f11 x28) {h : Hp} (hh : T52_0 O Q a0 n0 c0 a1 n1 c1 a2 n2 c2 x3 b8 f8 b10 f10 b11 f11 x28 h) : I52_0 O Q a0 n0 c0 a1 n1 c1 a2 n2 c2 x3 b8 f8 b10 f10 b11 f11 x28 h :=
  RKL.of (tb := lv52) (cuts := []) 500 fun _ => Eq.mp (by kernel_rfl) hh
def T52_1 (O : CallF) (Q : Value → Hp → Prop) (a0 : Option Addr) (n0 : Nat) (c0 : Nat) (a1 : Option Addr) (n1 : Nat) (c1 : Nat) (a2 : Option Addr) (n2 : Nat) (c2 : Nat) (x3 : Int) (b8 : Nat) (f8 : Nat) (b10 : Nat) (f10 : Nat) (b11 : Nat) (f11 : Nat) (v14 : Value) (x58 : Int) (h : Hp) : Prop :=
  vcond (ltI x58 (Int.ofNat n1))
  (isNat x58 fun n201' =>
  isAddr a1 fun b202' f203' =>
  vreq (Nat.blt n201' n1)
  (∃ x204', readAt h b202' (f203' + (n201' * 1)) 1 = some [(.int .i64 x204')] ∧
  let g205 : Hp := h.rsv 21
  ∃ a206' n207' c208', readAt g205 b11 (f11 + 0) 1 = some [(.slice a206' n207' c208')] ∧
  ∃ a209' n210' c211', readAt g205 b10 f10 1 = some [(.slice a209' n210' c211')] ∧
  isNat x204' fun n212' =>
  isAddr a209' fun b213' f214' =>
  vreq (Nat.blt n212' n210')
  (∃ x215', readAt g205 b213' (f214' + (n212' * 1)) 1 = some [(.int .i64 x215')] ∧
  isNat x204' fun n216' =>
  isAddr a0 fun b217' f218' =>
  vreq (Nat.blt n216' n0)
  (∃ a219' n220' c221', readAt g205 b217' ((f218' + (n216' * 2)) + 1) 1 = some [(.slice a219' n220' c221')] ∧
  isNat x204' fun n222' =>
  isAddr a0 fun b223' f224' =>
  vreq (Nat.blt n222' n0)
  (∃ x225', readAt g205 b223' ((f224' + (n222' * 2)) + 0) 1 = some [(.int .i64 x225')] ∧
  isNat x215' fun n226' =>
  isAddr a206' fun b227' f228' =>
  vreq (Nat.blt n226' n207')
  (vreq (canW (g205.grd []) b227' (f228' + (n226' * 1)) [(.int .i64 (wrapF .i64 ((wrapF .i64 (8 * (Int.ofNat n220'))) + x225')))])
  (let g229 : Hp := (g205.grd []).wr b227' (f228' + (n226' * 1)) [(.int .i64 (wrapF .i64 ((wrapF .i64 (8 * (Int.ofNat n220'))) + x225')))]
  let g230 : Hp := g229.rst g205
  isNat x204' fun n231' =>
  isAddr a0 fun b232' f233' =>
  vreq (Nat.blt n231' n0)
  (∃ a234' n235' c236', readAt g230 b232' ((f233' + (n231' * 2)) + 1) 1 = some [(.slice a234' n235' c236')] ∧
  I52_2 O Q a0 n0 c0 a1 n1 c1 a2 n2 c2 x3 b8 f8 b10 f10 b11 f11 v14 x204' x58 a234' n235' c236' (Int.ofNat n235') 0 g230))))))))
  (I52_3 O Q a0 n0 c0 a1 n1 c1 a2 n2 c2 x3 b8 f8 b10 f10 b11 f11 v14 0 h)
theorem I52_1.of {O Q} (a0 n0 c0 a1 n1 c1 a2 n2 c2 x3 b8 f8 b10 f10 b11 f11 v14 x58) {h : Hp} (hh : T52_1 O Q a0 n0 c0 a1 n1 c1 a2 n2 c2 x3 b8 f8 b10 f10 b11 f11 v14 x58 h) : I52_1 O Q a0 n0 c0 a1 n1 c1 a2 n2 c2 x3 b8 f8 b10 f10 b11 f11 v14 x58 h :=
  RKL.of (tb := lv52) (cuts := []) 500 fun _ => Eq.mp (by kernel_rfl) hh
def T52_2 (O : CallF) (Q : Value → Hp → Prop) (a0 : Option Addr) (n0 : Nat) (c0 : Nat) (a1 : Option Addr) (n1 : Nat) (c1 : Nat) (a2 : Option Addr) (n2 : Nat) (c2 : Nat) (x3 : Int) (b8 : Nat) (f8 : Nat) (b10 : Nat) (f10 : Nat) (b11 : Nat) (f11 : Nat) (v14 : Value) (x16 : Int) (x58 : Int) (a86 : Option Addr) (n86 : Nat) (c86 : Nat) (x87 : Int) (x88 : Int) (h : Hp) : Prop :=
  vcond (ltI x88 x87)
  (isNat x88 fun n301' =>
  isAddr a86 fun b302' f303' =>
  vreq (Nat.blt n301' n86)
  (∃ x304', ∃ q305', readAt h b302' (f303' + (n301' * 2)) 2 = some [(.int .i64 x304'), (.bool q305')] ∧
  let g306 : Hp := h.add (.cells [(.int .i64 0), (.bool false)] 76 .fix)
  vreq (canW g306 h.nx 0 [(.int .i64 x304'), (.bool q305')])
  (let g307 : Hp := g306.wr h.nx 0 [(.int .i64 x304'), (.bool q305')]
  let g308 : Hp := g307.rsv 14
  ∃ a309' n310' c311', readAt g308 b11 (f11 + 0) 1 = some [(.slice a309' n310' c311')] ∧
  ∃ a312' n313' c314', readAt g308 b10 f10 1 = some [(.slice a312' n313' c314')] ∧
  isNat x16 fun n315' =>
  isAddr a312' fun b316' f317' =>
  vreq (Nat.blt n315' n313')
  (∃ x318', readAt g308 b316' (f317' + (n315' * 1)) 1 = some [(.int .i64 x318')] ∧
  ∃ x319', ∃ q320', readAt g308 h.nx 0 2 = some [(.int .i64 x319'), (.bool q320')] ∧
  isFn v14 fun g321' r322' r323' =>
  ∃ x324', ∃ h325', EvC Tryz.prog O g321' (r322' ++ [(.agg #[(.int .i64 x319'), (.bool q320')])] ++ r323') (g308.grd [b316', b10, b11]) (.int .i64 x324') h325' ∧
  let g326 : Hp := h325'.rst g308
  isNat (wrapF .i64 ((wrapF .i64 (x318' + 1)) + x88)) fun n327' =>
  isAddr a309' fun b328' f329' =>
  vreq (Nat.blt n327' n310')
  (vreq (canW (g326.grd []) b328' (f329' + (n327' * 1)) [(.int .i64 x324')])
  (let g330 : Hp := (g326.grd []).wr b328' (f329' + (n327' * 1)) [(.int .i64 x324')]
  let g331 : Hp := g330.rst g326
  I52_2 O Q a0 n0 c0 a1 n1 c1 a2 n2 c2 x3 b8 f8 b10 f10 b11 f11 v14 x16 x58 a86 n86 c86 x87 (wrapF .i64 (x88 + 1)) g331))))))
  (I52_1 O Q a0 n0 c0 a1 n1 c1 a2 n2 c2 x3 b8 f8 b10 f10 b11 f11 v14 (wrapF .i64 (x58 + 1)) h)
theorem I52_2.of {O Q} (a0 n0 c0 a1 n1 c1 a2 n2 c2 x3 b8 f8 b10 f10 b11 f11 v14 x16 x58 a86 n86 c86 x87 x88) {h : Hp} (hh : T52_2 O Q a0 n0 c0 a1 n1 c1 a2 n2 c2 x3 b8 f8 b10 f10 b11 f11 v14 x16 x58 a86 n86 c86 x87 x88 h) : I52_2 O Q a0 n0 c0 a1 n1 c1 a2 n2 c2 x3 b8 f8 b10 f10 b11 f11 v14 x16 x58 a86 n86 c86 x87 x88 h :=
  RKL.of (tb := lv52) (cuts := []) 500 fun _ => Eq.mp (by kernel_rfl) hh
def T52_3 (O : CallF) (Q : Value → Hp → Prop) (a0 : Option Addr) (n0 : Nat) (c0 : Nat) (a1 : Option Addr) (n1 : Nat) (c1 : Nat) (a2 : Option Addr) (n2 : Nat) (c2 : Nat) (x3 : Int) (b8 : Nat) (f8 : Nat) (b10 : Nat) (f10 : Nat) (b11 : Nat) (f11 : Nat) (v14 : Value) (x110 : Int) (h : Hp) : Prop :=
  vcond (ltI x110 (Int.ofNat n2))
  (isNat x110 fun n401' =>
  isAddr a2 fun b402' f403' =>
  vreq (Nat.blt n401' n2)
  (∃ x404', ∃ q405', readAt h b402' (f403' + (n401' * 2)) 2 = some [(.int .i64 x404'), (.bool q405')] ∧
  let g406 : Hp := h.add (.cells [(.int .i64 0), (.bool false)] 76 .fix)
  vreq (canW g406 h.nx 0 [(.int .i64 x404'), (.bool q405')])
  (let g407 : Hp := g406.wr h.nx 0 [(.int .i64 x404'), (.bool q405')]
  let g408 : Hp := g407.rsv 9
  ∃ a409' n410' c411', readAt g408 b11 (f11 + 2) 1 = some [(.slice a409' n410' c411')] ∧
  ∃ x412', ∃ q413', readAt g408 h.nx 0 2 = some [(.int .i64 x412'), (.bool q413')] ∧
  isFn v14 fun g414' r415' r416' =>
  ∃ x417', ∃ h418', EvC Tryz.prog O g414' (r415' ++ [(.agg #[(.int .i64 x412'), (.bool q413')])] ++ r416') (g408.grd [b11]) (.int .i64 x417') h418' ∧
  let g419 : Hp := h418'.rst g408
  vreq (g419.free (g407.nx + 5))
  (let g420 : Hp := g419.lay (g407.nx + 5) (.cells [(.int .i64 x417')] 3 .fix)
  ∃ a421' n422' c423' h424', appendV Tryz.prog (g420.grd []) 22 22 (.slice a409' n410' c411') (.slice (some ⟨(g407.nx + 5), 0, none⟩) 1 1) = some (.slice a421' n422' c423', h424') ∧
  let g425 : Hp := h424'.rst g420
  vreq (canW (g425.grd []) b11 (f11 + 2) [(.slice a421' n422' c423')])
  (let g426 : Hp := (g425.grd []).wr b11 (f11 + 2) [(.slice a421' n422' c423')]
  let g427 : Hp := g426.rst g425
  I52_3 O Q a0 n0 c0 a1 n1 c1 a2 n2 c2 x3 b8 f8 b10 f10 b11 f11 v14 (wrapF .i64 (x110 + 1)) g427)))))
  (let g428 : Hp := h.rsv 4
  ∃ a429' n430' c431', ∃ x432', ∃ a433' n434' c435', readAt g428 b11 f11 3 = some [(.slice a429' n430' c431'), (.int .i64 x432'), (.slice a433' n434' c435')] ∧
  ∃ a436' n437' c438', readAt g428 b10 f10 1 = some [(.slice a436' n437' c438')] ∧
  vreq (canW (g428.grd [b10]) b8 f8 [(.slice a429' n430' c431'), (.int .i64 x432'), (.slice a433' n434' c435')])
  (let g439 : Hp := (g428.grd [b10]).wr b8 f8 [(.slice a429' n430' c431'), (.int .i64 x432'), (.slice a433' n434' c435')]
  let g440 : Hp := g439.rst g428
  ∃ a441' n442' c443', ∃ x444', ∃ a445' n446' c447', readAt g440 b8 f8 3 = some [(.slice a441' n442' c443'), (.int .i64 x444'), (.slice a445' n446' c447')] ∧
  Q (.tuple #[(.agg #[(.slice a441' n442' c443'), (.int .i64 x444'), (.slice a445' n446' c447')]), (.slice a436' n437' c438')]) g440))
theorem I52_3.of {O Q} (a0 n0 c0 a1 n1 c1 a2 n2 c2 x3 b8 f8 b10 f10 b11 f11 v14 x110) {h : Hp} (hh : T52_3 O Q a0 n0 c0 a1 n1 c1 a2 n2 c2 x3 b8 f8 b10 f10 b11 f11 v14 x110 h) : I52_3 O Q a0 n0 c0 a1 n1 c1 a2 n2 c2 x3 b8 f8 b10 f10 b11 f11 v14 x110 h :=
  RKL.of (tb := lv52) (cuts := []) 500 fun _ => Eq.mp (by kernel_rfl) hh
/-! sward/swardlaw15.pruned -/
noncomputable def b53 : Code := (Tryz.f53.body).getD .skip
noncomputable def stk53_0 : List KI := [.code (sub [1, 1, 0, 1, 0] b53), .blk 0, .code (sub [1, 1, 1] b53)]
noncomputable def stk53_1 : List KI := [.code (sub [1, 1, 0, 1, 0, 0, 1, 1, 0, 0, 1, 1, 0, 1, 0] b53), .blk 2, .code (sub [1, 1, 0, 1, 0, 0, 1, 1, 0, 0, 1, 1, 1] b53), .blk 1, .code (sub [1, 1, 0, 1, 0, 0, 1, 1, 1] b53), .code (sub [1, 1, 0, 1, 0] b53), .blk 0, .code (sub [1, 1, 1] b53)]
def lv53 : List (Nat × List Nat) := [(0, [1, 4, 5, 10, 11, 12]), (2, [1, 4, 5, 7, 10, 11, 12, 21, 22, 23])]
def I53_0 (O : CallF) (Q : Value → Hp → Prop) (a0 : Option Addr) (n0 : Nat) (c0 : Nat) (a1 : Option Addr) (n1 : Nat) (c1 : Nat) (a5 : Option Addr) (n5 : Nat) (c5 : Nat) (x12 : Int) (h : Hp) : Prop := RKL Tryz.prog O Tryz.f53 stk53_0 54 [1, 4, 5, 10, 11, 12] [(.slice a1 n1 c1), (.slice none 0 0), (.slice a5 n5 c5), (.slice a0 n0 c0), (.int .i64 (Int.ofNat n0)), (.int .i64 x12)] h Q
def I53_1 (O : CallF) (Q : Value → Hp → Prop) (a0 : Option Addr) (n0 : Nat) (c0 : Nat) (a1 : Option Addr) (n1 : Nat) (c1 : Nat) (a5 : Option Addr) (n5 : Nat) (c5 : Nat) (b7 : Nat) (f7 : Nat) (x12 : Int) (a21 : Option Addr) (n21 : Nat) (c21 : Nat) (x22 : Int) (x23 : Int) (h : Hp) : Prop := RKL Tryz.prog O Tryz.f53 stk53_1 54 [1, 4, 5, 7, 10, 11, 12, 21, 22, 23] [(.slice a1 n1 c1), (.slice none 0 0), (.slice a5 n5 c5), (.pointer (some ⟨b7, f7, none⟩)), (.slice a0 n0 c0), (.int .i64 (Int.ofNat n0)), (.int .i64 x12), (.slice a21 n21 c21), (.int .i64 x22), (.int .i64 x23)] h Q
def T53 (O : CallF) (Q : Value → Hp → Prop) (a0 : Option Addr) (n0 : Nat) (c0 : Nat) (a1 : Option Addr) (n1 : Nat) (c1 : Nat) (h : Hp) : Prop :=
  I53_0 O Q a0 n0 c0 a1 n1 c1 none 0 0 0 h
theorem rk53 {O Q} (a0 n0 c0 a1 n1 c1) {h : Hp} (hO : O 53 [(.slice a0 n0 c0), (.slice a1 n1 c1)] h = none) (hh : T53 O Q a0 n0 c0 a1 n1 c1 h) : Ret Tryz.prog O 53 [(.slice a0 n0 c0), (.slice a1 n1 c1)] h Q :=
  .of (c := b53) Tryz.func53 (by kernel_rfl) hO (V_ok (tb := lv53) (cuts := []) 500 (Eq.mp (by kernel_rfl) hh))
def T53_0 (O : CallF) (Q : Value → Hp → Prop) (a0 : Option Addr) (n0 : Nat) (c0 : Nat) (a1 : Option Addr) (n1 : Nat) (c1 : Nat) (a5 : Option Addr) (n5 : Nat) (c5 : Nat) (x12 : Int) (h : Hp) : Prop :=
  vcond (ltI x12 (Int.ofNat n0))
  (isNat x12 fun n101' =>
  isAddr a0 fun b102' f103' =>
  vreq (Nat.blt n101' n0)
  (∃ x104', ∃ a105' n106' c107', readAt h b102' (f103' + (n101' * 2)) 2 = some [(.int .i64 x104'), (.slice a105' n106' c107')] ∧
  let g108 : Hp := h.add (.cells [(.int .i64 0), (.slice none 0 0)] 72 .fix)
  vreq (canW g108 h.nx 0 [(.int .i64 x104'), (.slice a105' n106' c107')])
  (let g109 : Hp := g108.wr h.nx 0 [(.int .i64 x104'), (.slice a105' n106' c107')]
  ∃ a110' n111' c112', readAt g109 h.nx 1 1 = some [(.slice a110' n111' c112')] ∧
  ∃ a113' n114' c115', ∃ h116', EvC Tryz.prog O 47 [(.slice a110' n111' c112')] g109 (.slice a113' n114' c115') h116' ∧
  vreq (canW h116' h.nx 1 [(.slice a113' n114' c115')])
  (let g117 : Hp := h116'.wr h.nx 1 [(.slice a113' n114' c115')]
  ∃ a118' n119' c120', readAt g117 h.nx 1 1 = some [(.slice a118' n119' c120')] ∧
  I53_1 O Q a0 n0 c0 a1 n1 c1 a5 n5 c5 h.nx 0 x12 a118' n119' c120' (Int.ofNat n119') 0 g117))))
  (Q (.slice a5 n5 c5) h)
theorem I53_0.of {O Q} (a0 n0 c0 a1 n1 c1 a5 n5 c5 x12) {h : Hp} (hh : T53_0 O Q a0 n0 c0 a1 n1 c1 a5 n5 c5 x12 h) : I53_0 O Q a0 n0 c0 a1 n1 c1 a5 n5 c5 x12 h :=
  RKL.of (tb := lv53) (cuts := []) 500 fun _ => Eq.mp (by kernel_rfl) hh
def T53_1 (O : CallF) (Q : Value → Hp → Prop) (a0 : Option Addr) (n0 : Nat) (c0 : Nat) (a1 : Option Addr) (n1 : Nat) (c1 : Nat) (a5 : Option Addr) (n5 : Nat) (c5 : Nat) (b7 : Nat) (f7 : Nat) (x12 : Int) (a21 : Option Addr) (n21 : Nat) (c21 : Nat) (x22 : Int) (x23 : Int) (h : Hp) : Prop :=
  vcond (ltI x23 x22)
  (isNat x23 fun n201' =>
  isAddr a21 fun b202' f203' =>
  vreq (Nat.blt n201' n21)
  (∃ x204', ∃ q205', readAt h b202' (f203' + (n201' * 2)) 2 = some [(.int .i64 x204'), (.bool q205')] ∧
  let g206 : Hp := h.add (.cells [(.int .i64 0), (.bool false)] 76 .fix)
  vreq (canW g206 h.nx 0 [(.int .i64 x204'), (.bool q205')])
  (let g207 : Hp := g206.wr h.nx 0 [(.int .i64 x204'), (.bool q205')]
  ∃ q208', readAt g207 h.nx 1 1 = some [(.bool q208')] ∧
  vcond q208'
  (∃ x209', readAt g207 h.nx 0 1 = some [(.int .i64 x209')] ∧
  ∃ q210', ∃ h211', EvC Tryz.prog O 109 [(.slice a1 n1 c1), (.int .i64 x209')] g207 (.bool q210') h211' ∧
  vcond (!q210')
  (∃ x212', readAt h211' b7 (f7 + 0) 1 = some [(.int .i64 x212')] ∧
  vcond (eqI x212' 5)
  (∃ a213' n214' c215', readAt h211' b7 (f7 + 1) 1 = some [(.slice a213' n214' c215')] ∧
  isNat x23 fun n216' =>
  isAddr a213' fun b217' f218' =>
  vreq (Nat.blt n216' n214')
  (vreq (canW h211' b217' (f218' + (n216' * 2)) [(.int .i64 0), (.bool false)])
  (let g219 : Hp := h211'.wr b217' (f218' + (n216' * 2)) [(.int .i64 0), (.bool false)]
  I53_1 O Q a0 n0 c0 a1 n1 c1 a5 n5 c5 b7 f7 x12 a21 n21 c21 x22 (wrapF .i64 (x23 + 1)) g219)))
  (I53_1 O Q a0 n0 c0 a1 n1 c1 a5 n5 c5 b7 f7 x12 a21 n21 c21 x22 (wrapF .i64 (x23 + 1)) h211'))
  (I53_1 O Q a0 n0 c0 a1 n1 c1 a5 n5 c5 b7 f7 x12 a21 n21 c21 x22 (wrapF .i64 (x23 + 1)) h211'))
  (I53_1 O Q a0 n0 c0 a1 n1 c1 a5 n5 c5 b7 f7 x12 a21 n21 c21 x22 (wrapF .i64 (x23 + 1)) g207))))
  (∃ x220', ∃ a221' n222' c223', readAt h b7 f7 2 = some [(.int .i64 x220'), (.slice a221' n222' c223')] ∧
  let g224 : Hp := h.add (.cells [(.int .i64 x220'), (.slice a221' n222' c223')] 72 .fix)
  ∃ a225' n226' c227' h228', appendV Tryz.prog g224 63 63 (.slice a5 n5 c5) (.slice (some ⟨h.nx, 0, none⟩) 1 1) = some (.slice a225' n226' c227', h228') ∧
  I53_0 O Q a0 n0 c0 a1 n1 c1 a225' n226' c227' (wrapF .i64 (x12 + 1)) h228')
theorem I53_1.of {O Q} (a0 n0 c0 a1 n1 c1 a5 n5 c5 b7 f7 x12 a21 n21 c21 x22 x23) {h : Hp} (hh : T53_1 O Q a0 n0 c0 a1 n1 c1 a5 n5 c5 b7 f7 x12 a21 n21 c21 x22 x23 h) : I53_1 O Q a0 n0 c0 a1 n1 c1 a5 n5 c5 b7 f7 x12 a21 n21 c21 x22 x23 h :=
  RKL.of (tb := lv53) (cuts := []) 500 fun _ => Eq.mp (by kernel_rfl) hh
/-! (sward/swardlaw15.Pile).drawn -/
noncomputable def b106 : Code := (Tryz.f106.body).getD .skip
noncomputable def stk106_0 : List KI := [.code (sub [1, 1, 1, 1, 0, 1, 0] b106), .blk 0, .code (sub [1, 1, 1, 1, 1] b106)]
noncomputable def stk106_1 : List KI := [.code (sub [1, 1, 1, 1, 0, 1, 0, 0, 1, 1, 0, 0, 1, 1, 1, 1, 0, 1, 0] b106), .blk 2, .code (sub [1, 1, 1, 1, 0, 1, 0, 0, 1, 1, 0, 0, 1, 1, 1, 1, 1] b106), .blk 1, .code (sub [1, 1, 1, 1, 0, 1, 0, 0, 1, 1, 1] b106), .code (sub [1, 1, 1, 1, 0, 1, 0] b106), .blk 0, .code (sub [1, 1, 1, 1, 1] b106)]
noncomputable def stk106_2 : List KI := [.code (sub [1, 1, 1, 1, 1, 1, 0, 1, 0] b106), .blk 5, .code (sub [1, 1, 1, 1, 1, 1, 1] b106)]
def lv106 : List (Nat × List Nat) := [(0, [1, 2, 3, 5, 6, 20, 21]), (2, [1, 2, 3, 5, 6, 8, 20, 21, 46, 47, 48]), (5, [2, 3, 5, 6, 12, 97, 98, 99])]
def I106_0 (O : CallF) (Q : Value → Hp → Prop) (v0 : Array Value) (b1 : Nat) (f1 : Nat) (v5 : Value) (a6 : Option Addr) (n6 : Nat) (c6 : Nat) (x20 : Int) (x21 : Int) (h : Hp) : Prop := RKL Tryz.prog O Tryz.f106 stk106_0 112 [1, 2, 3, 5, 6, 20, 21] [(.pointer (some ⟨b1, f1, none⟩)), (.slice none 0 0), (.slice none 0 0), v5, (.slice a6 n6 c6), (.int .i64 x20), (.int .i64 x21)] h Q
def I106_1 (O : CallF) (Q : Value → Hp → Prop) (v0 : Array Value) (b1 : Nat) (f1 : Nat) (v5 : Value) (a6 : Option Addr) (n6 : Nat) (c6 : Nat) (b8 : Nat) (f8 : Nat) (x20 : Int) (x21 : Int) (a46 : Option Addr) (n46 : Nat) (c46 : Nat) (x47 : Int) (x48 : Int) (h : Hp) : Prop := RKL Tryz.prog O Tryz.f106 stk106_1 112 [1, 2, 3, 5, 6, 8, 20, 21, 46, 47, 48] [(.pointer (some ⟨b1, f1, none⟩)), (.slice none 0 0), (.slice none 0 0), v5, (.slice a6 n6 c6), (.pointer (some ⟨b8, f8, none⟩)), (.int .i64 x20), (.int .i64 x21), (.slice a46 n46 c46), (.int .i64 x47), (.int .i64 x48)] h Q
def I106_2 (O : CallF) (Q : Value → Hp → Prop) (v0 : Array Value) (v5 : Value) (a6 : Option Addr) (n6 : Nat) (c6 : Nat) (a12 : Option Addr) (n12 : Nat) (c12 : Nat) (a97 : Option Addr) (n97 : Nat) (c97 : Nat) (x98 : Int) (x99 : Int) (h : Hp) : Prop := RKL Tryz.prog O Tryz.f106 stk106_2 112 [2, 3, 5, 6, 12, 97, 98, 99] [(.slice none 0 0), (.slice none 0 0), v5, (.slice a6 n6 c6), (.slice a12 n12 c12), (.slice a97 n97 c97), (.int .i64 x98), (.int .i64 x99)] h Q
def T106 (O : CallF) (Q : Value → Hp → Prop) (v0 : Array Value) (h : Hp) : Prop :=
  vreq (v0.toList.all one)
  (let g1 : Hp := h.add (.cells v0.toList 62 .fix)
  ∃ x2', readAt g1 h.nx 0 1 = some [(.int .u8 x2')] ∧
  let g3 : Hp := g1.add (.cells [(.int .i64 0)] 3 .fix)
  vreq (canW g3 g1.nx 0 [(.int .i64 (Int.tmod (wrapF .i64 x2') 10))])
  (let g4 : Hp := g3.wr g1.nx 0 [(.int .i64 (Int.tmod (wrapF .i64 x2') 10))]
  ∃ x5', readAt g4 g1.nx 0 1 = some [(.int .i64 x5')] ∧
  I106_0 O Q v0 h.nx 0 (.func (.func 139) #[] #[(.pointer (some ⟨g1.nx, 0, none⟩))]) none 0 0 x5' 0 g4))
theorem rk106 {O Q} (v0) {h : Hp} (hO : O 106 [(.agg v0)] h = none) (hh : T106 O Q v0 h) : Ret Tryz.prog O 106 [(.agg v0)] h Q :=
  .of (c := b106) Tryz.func106 (by kernel_rfl) hO (V_ok (tb := lv106) (cuts := []) 500 (Eq.mp (by kernel_rfl) hh))
def T106_0 (O : CallF) (Q : Value → Hp → Prop) (v0 : Array Value) (b1 : Nat) (f1 : Nat) (v5 : Value) (a6 : Option Addr) (n6 : Nat) (c6 : Nat) (x20 : Int) (x21 : Int) (h : Hp) : Prop :=
  vcond (ltI x21 x20)
  (isNat x21 fun n101' =>
  vreq (Nat.blt n101' 9)
  (∃ x102', readAt h b1 ((f1 + 2) + (n101' * 1)) 1 = some [(.int .u8 x102')] ∧
  let g103 : Hp := h.add (.cells [(.int .i64 0), (.slice none 0 0)] 72 .fix)
  vreq (canW g103 h.nx 0 [(.int .i64 (wrapF .i64 (1 + (Int.tmod (wrapF .i64 x102') 5)))), (.slice none 0 0)])
  (let g104 : Hp := g103.wr h.nx 0 [(.int .i64 (wrapF .i64 (1 + (Int.tmod (wrapF .i64 x102') 5)))), (.slice none 0 0)]
  isNat x21 fun n105' =>
  vreq (Nat.blt n105' 9)
  (∃ x106', readAt g104 b1 ((f1 + 2) + (n105' * 1)) 1 = some [(.int .u8 x106')] ∧
  ∃ x107', readAt g104 h.nx 0 1 = some [(.int .i64 x107')] ∧
  vcond (eqI x107' 4)
  (isNat x21 fun n108' =>
  vreq (Nat.blt n108' 9)
  (∃ a109' n110' c111', sliceV Tryz.prog g104 59 (.pointer (some ⟨b1, ((f1 + 11) + (n108' * 4)), none⟩)) none (some (.int .i64 1)) none = some (.slice a109' n110' c111') ∧
  I106_1 O Q v0 b1 f1 v5 a6 n6 c6 h.nx 0 x20 x21 a109' n110' c111' (Int.ofNat n110') 0 g104))
  (isNat x21 fun n112' =>
  vreq (Nat.blt n112' 9)
  (∃ a113' n114' c115', sliceV Tryz.prog g104 59 (.pointer (some ⟨b1, ((f1 + 11) + (n112' * 4)), none⟩)) none (some (.int .i64 (Int.tmod (wrapF .i64 (Int.tdiv (wrapF .i64 x106') 8)) 5))) none = some (.slice a113' n114' c115') ∧
  I106_1 O Q v0 b1 f1 v5 a6 n6 c6 h.nx 0 x20 x21 a113' n114' c115' (Int.ofNat n114') 0 g104))))))
  (∃ x116', readAt h b1 (f1 + 0) 1 = some [(.int .u8 x116')] ∧
  ∃ a117' n118' c119', sliceV Tryz.prog h 59 (.pointer (some ⟨b1, (f1 + 47), none⟩)) none (some (.int .i64 (Int.tmod (wrapF .i64 (Int.tdiv (wrapF .i64 x116') 16)) 5))) none = some (.slice a117' n118' c119') ∧
  I106_2 O Q v0 v5 a6 n6 c6 none 0 0 a117' n118' c119' (Int.ofNat n118') 0 h)
theorem I106_0.of {O Q} (v0 b1 f1 v5 a6 n6 c6 x20 x21) {h : Hp} (hh : T106_0 O Q v0 b1 f1 v5 a6 n6 c6 x20 x21 h) : I106_0 O Q v0 b1 f1 v5 a6 n6 c6 x20 x21 h :=
  RKL.of (tb := lv106) (cuts := []) 500 fun _ => Eq.mp (by kernel_rfl) hh
def T106_1 (O : CallF) (Q : Value → Hp → Prop) (v0 : Array Value) (b1 : Nat) (f1 : Nat) (v5 : Value) (a6 : Option Addr) (n6 : Nat) (c6 : Nat) (b8 : Nat) (f8 : Nat) (x20 : Int) (x21 : Int) (a46 : Option Addr) (n46 : Nat) (c46 : Nat) (x47 : Int) (x48 : Int) (h : Hp) : Prop :=
  vcond (ltI x48 x47)
  (isNat x48 fun n201' =>
  isAddr a46 fun b202' f203' =>
  vreq (Nat.blt n201' n46)
  (∃ x204', readAt h b202' (f203' + (n201' * 1)) 1 = some [(.int .u8 x204')] ∧
  ∃ x205', readAt h b8 (f8 + 0) 1 = some [(.int .i64 x205')] ∧
  vcond (eqI x205' 3)
  (∃ a206' n207' c208', readAt h b8 (f8 + 1) 1 = some [(.slice a206' n207' c208')] ∧
  let g209 : Hp := h.add (.cells [(.int .i64 (wrapF .i64 (97 + (Int.tmod (wrapF .i64 x204') 26)))), (.bool false)] 76 .fix)
  ∃ a210' n211' c212' h213', appendV Tryz.prog g209 64 64 (.slice a206' n207' c208') (.slice (some ⟨h.nx, 0, none⟩) 1 1) = some (.slice a210' n211' c212', h213') ∧
  vreq (canW h213' b8 (f8 + 1) [(.slice a210' n211' c212')])
  (let g214 : Hp := h213'.wr b8 (f8 + 1) [(.slice a210' n211' c212')]
  I106_1 O Q v0 b1 f1 v5 a6 n6 c6 b8 f8 x20 x21 a46 n46 c46 x47 (wrapF .i64 (x48 + 1)) g214))
  (vcond (eqI x205' 4)
  (∃ a215' n216' c217', readAt h b8 (f8 + 1) 1 = some [(.slice a215' n216' c217')] ∧
  let g218 : Hp := h.add (.cells [(.int .i64 (Int.tmod (wrapF .i64 x204') 2)), (.bool false)] 76 .fix)
  ∃ a219' n220' c221' h222', appendV Tryz.prog g218 64 64 (.slice a215' n216' c217') (.slice (some ⟨h.nx, 0, none⟩) 1 1) = some (.slice a219' n220' c221', h222') ∧
  vreq (canW h222' b8 (f8 + 1) [(.slice a219' n220' c221')])
  (let g223 : Hp := h222'.wr b8 (f8 + 1) [(.slice a219' n220' c221')]
  I106_1 O Q v0 b1 f1 v5 a6 n6 c6 b8 f8 x20 x21 a46 n46 c46 x47 (wrapF .i64 (x48 + 1)) g223))
  (let g224 : Hp := h.rsv 9
  ∃ a225' n226' c227', readAt g224 b8 (f8 + 1) 1 = some [(.slice a225' n226' c227')] ∧
  isFn v5 fun g228' r229' r230' =>
  ∃ x231', ∃ q232', ∃ h233', EvC Tryz.prog O g228' (r229' ++ [(.int .u8 x204')] ++ r230') (g224.grd [b8]) (.agg #[(.int .i64 x231'), (.bool q232')]) h233' ∧
  let g234 : Hp := h233'.rst g224
  vreq (g234.free (h.nx + 5))
  (let g235 : Hp := g234.lay (h.nx + 5) (.cells [(.int .i64 x231'), (.bool q232')] 76 .fix)
  ∃ a236' n237' c238' h239', appendV Tryz.prog (g235.grd []) 64 64 (.slice a225' n226' c227') (.slice (some ⟨(h.nx + 5), 0, none⟩) 1 1) = some (.slice a236' n237' c238', h239') ∧
  let g240 : Hp := h239'.rst g235
  vreq (canW (g240.grd []) b8 (f8 + 1) [(.slice a236' n237' c238')])
  (let g241 : Hp := (g240.grd []).wr b8 (f8 + 1) [(.slice a236' n237' c238')]
  let g242 : Hp := g241.rst g240
  I106_1 O Q v0 b1 f1 v5 a6 n6 c6 b8 f8 x20 x21 a46 n46 c46 x47 (wrapF .i64 (x48 + 1)) g242))))))
  (∃ x243', ∃ a244' n245' c246', readAt h b8 f8 2 = some [(.int .i64 x243'), (.slice a244' n245' c246')] ∧
  let g247 : Hp := h.add (.cells [(.int .i64 x243'), (.slice a244' n245' c246')] 72 .fix)
  ∃ a248' n249' c250' h251', appendV Tryz.prog g247 63 63 (.slice a6 n6 c6) (.slice (some ⟨h.nx, 0, none⟩) 1 1) = some (.slice a248' n249' c250', h251') ∧
  I106_0 O Q v0 b1 f1 v5 a248' n249' c250' x20 (wrapF .i64 (x21 + 1)) h251')
theorem I106_1.of {O Q} (v0 b1 f1 v5 a6 n6 c6 b8 f8 x20 x21 a46 n46 c46 x47 x48) {h : Hp} (hh : T106_1 O Q v0 b1 f1 v5 a6 n6 c6 b8 f8 x20 x21 a46 n46 c46 x47 x48 h) : I106_1 O Q v0 b1 f1 v5 a6 n6 c6 b8 f8 x20 x21 a46 n46 c46 x47 x48 h :=
  RKL.of (tb := lv106) (cuts := []) 500 fun _ => Eq.mp (by kernel_rfl) hh
def T106_2 (O : CallF) (Q : Value → Hp → Prop) (v0 : Array Value) (v5 : Value) (a6 : Option Addr) (n6 : Nat) (c6 : Nat) (a12 : Option Addr) (n12 : Nat) (c12 : Nat) (a97 : Option Addr) (n97 : Nat) (c97 : Nat) (x98 : Int) (x99 : Int) (h : Hp) : Prop :=
  vcond (ltI x99 x98)
  (isNat x99 fun n301' =>
  isAddr a97 fun b302' f303' =>
  vreq (Nat.blt n301' n97)
  (∃ x304', readAt h b302' (f303' + (n301' * 1)) 1 = some [(.int .u8 x304')] ∧
  isFn v5 fun g305' r306' r307' =>
  ∃ x308', ∃ q309', ∃ h310', EvC Tryz.prog O g305' (r306' ++ [(.int .u8 x304')] ++ r307') h (.agg #[(.int .i64 x308'), (.bool q309')]) h310' ∧
  let g311 : Hp := h310'.add (.cells [(.int .i64 x308'), (.bool q309')] 76 .fix)
  ∃ a312' n313' c314' h315', appendV Tryz.prog g311 64 64 (.slice a12 n12 c12) (.slice (some ⟨h310'.nx, 0, none⟩) 1 1) = some (.slice a312' n313' c314', h315') ∧
  I106_2 O Q v0 v5 a6 n6 c6 a312' n313' c314' a97 n97 c97 x98 (wrapF .i64 (x99 + 1)) h315'))
  (Q (.tuple #[(.slice a6 n6 c6), (.slice a12 n12 c12)]) h)
theorem I106_2.of {O Q} (v0 v5 a6 n6 c6 a12 n12 c12 a97 n97 c97 x98 x99) {h : Hp} (hh : T106_2 O Q v0 v5 a6 n6 c6 a12 n12 c12 a97 n97 c97 x98 x99 h) : I106_2 O Q v0 v5 a6 n6 c6 a12 n12 c12 a97 n97 c97 x98 x99 h :=
  RKL.of (tb := lv106) (cuts := []) 500 fun _ => Eq.mp (by kernel_rfl) hh
/-! sward/swardlaw15.reached$1 -/
noncomputable def b108 : Code := (Tryz.f108.body).getD .skip
def lv108 : List (Nat × List Nat) := []
def T108 (O : CallF) (Q : Value → Hp → Prop) (x0_0 : Int) (q0_1 : Bool) (b1 : Nat) (f1 : Nat) (h : Hp) : Prop :=
  let g1 : Hp := h.add (.cells [(.int .i64 x0_0), (.bool q0_1)] 76 .fix)
  ∃ q2', readAt g1 h.nx 1 1 = some [(.bool q2')] ∧
  vcond q2'
  (∃ a3' n4' c5', readAt g1 b1 f1 1 = some [(.slice a3' n4' c5')] ∧
  ∃ x6', readAt g1 h.nx 0 1 = some [(.int .i64 x6')] ∧
  ∃ q7', ∃ h8', EvC Tryz.prog O 109 [(.slice a3' n4' c5'), (.int .i64 x6')] g1 (.bool q7') h8' ∧
  vcond (!q7')
  (∃ a9' n10' c11', readAt h8' b1 f1 1 = some [(.slice a9' n10' c11')] ∧
  ∃ x12', readAt h8' h.nx 0 1 = some [(.int .i64 x12')] ∧
  let g13 : Hp := h8'.add (.cells [(.int .i64 x12')] 3 .fix)
  ∃ a14' n15' c16' h17', appendV Tryz.prog g13 22 22 (.slice a9' n10' c11') (.slice (some ⟨h8'.nx, 0, none⟩) 1 1) = some (.slice a14' n15' c16', h17') ∧
  vreq (canW h17' b1 f1 [(.slice a14' n15' c16')])
  (let g18 : Hp := h17'.wr b1 f1 [(.slice a14' n15' c16')]
  Q undef g18))
  (Q undef h8'))
  (Q undef g1)
theorem rk108 {O Q} (x0_0 q0_1 b1 f1) {h : Hp} (hO : O 108 [(.agg #[(.int .i64 x0_0), (.bool q0_1)]), (.pointer (some ⟨b1, f1, none⟩))] h = none) (hh : T108 O Q x0_0 q0_1 b1 f1 h) : Ret Tryz.prog O 108 [(.agg #[(.int .i64 x0_0), (.bool q0_1)]), (.pointer (some ⟨b1, f1, none⟩))] h Q :=
  .of (c := b108) Tryz.func108 (by kernel_rfl) hO (V_ok (tb := lv108) (cuts := []) 500 (Eq.mp (by kernel_rfl) hh))
/-! slices.Contains[[]int,int] -/
noncomputable def b109 : Code := (Tryz.f109.body).getD .skip
def lv109 : List (Nat × List Nat) := []
def T109 (O : CallF) (Q : Value → Hp → Prop) (a0 : Option Addr) (n0 : Nat) (c0 : Nat) (x1 : Int) (h : Hp) : Prop :=
  ∃ x1', ∃ h2', EvC Tryz.prog O 142 [(.slice a0 n0 c0), (.int .i64 x1)] h (.int .i64 x1') h2' ∧
  Q (.bool (!(ltI x1' 0))) h2'
theorem rk109 {O Q} (a0 n0 c0 x1) {h : Hp} (hO : O 109 [(.slice a0 n0 c0), (.int .i64 x1)] h = none) (hh : T109 O Q a0 n0 c0 x1 h) : Ret Tryz.prog O 109 [(.slice a0 n0 c0), (.int .i64 x1)] h Q :=
  .of (c := b109) Tryz.func109 (by kernel_rfl) hO (V_ok (tb := lv109) (cuts := []) 500 (Eq.mp (by kernel_rfl) hh))
/-! slices.Repeat[[]int,int] -/
noncomputable def b111 : Code := (Tryz.f111.body).getD .skip
noncomputable def stk111_0 : List KI := [.code (sub [1, 1, 1, 1, 1, 1, 0, 0] b111), .blk 0, .code (sub [1, 1, 1, 1, 1, 1, 1] b111)]
def lv111 : List (Nat × List Nat) := [(0, [4, 7, 8])]
def I111_0 (O : CallF) (Q : Value → Hp → Prop) (a0 : Option Addr) (n0 : Nat) (c0 : Nat) (x1 : Int) (a7 : Option Addr) (n7 : Nat) (c7 : Nat) (x8 : Int) (h : Hp) : Prop := RKL Tryz.prog O Tryz.f111 stk111_0 48 [4, 7, 8] [(.slice none 0 0), (.slice a7 n7 c7), (.int .i64 x8)] h Q
def T111 (O : CallF) (Q : Value → Hp → Prop) (a0 : Option Addr) (n0 : Nat) (c0 : Nat) (x1 : Int) (h : Hp) : Prop :=
  vcond (ltI x1 0)
  (False)
  (∃ x1', ∃ x2', ∃ h3', EvC Tryz.prog O 143 [(.int .u64 (wrapF .u64 (Int.ofNat n0))), (.int .u64 (wrapF .u64 x1))] h (.tuple #[(.int .u64 x1'), (.int .u64 x2')]) h3' ∧
  vcond (ltI 0 x1')
  (False)
  (vcond (ltI 9223372036854775807 x2')
  (False)
  (isNat (wrapF .i64 x2') fun n4' =>
  isNat (wrapF .i64 x2') fun n5' =>
  vreq (Nat.ble n4' n5')
  (vreq (Nat.ble (n5' * 8) 281474976710656)
  (vreq (Nat.blt n5' big)
  (let g6 : Hp := h3'.add (.cells (List.flatten (List.replicate n5' [(.int .i64 0)])) 3 .fix)
  ∃ x7' h8', copyV Tryz.prog g6 22 (.slice (some ⟨h3'.nx, 0, none⟩) n4' n5') (.slice a0 n0 c0) = some (.int .i64 x7', h8') ∧
  I111_0 O Q a0 n0 c0 x1 (some ⟨h3'.nx, 0, none⟩) n4' n5' x7' h8'))))))
theorem rk111 {O Q} (a0 n0 c0 x1) {h : Hp} (hO : O 111 [(.slice a0 n0 c0), (.int .i64 x1)] h = none) (hh : T111 O Q a0 n0 c0 x1 h) : Ret Tryz.prog O 111 [(.slice a0 n0 c0), (.int .i64 x1)] h Q :=
  .of (c := b111) Tryz.func111 (by kernel_rfl) hO (V_ok (tb := lv111) (cuts := []) 500 (Eq.mp (by kernel_rfl) hh))
def T111_0 (O : CallF) (Q : Value → Hp → Prop) (a0 : Option Addr) (n0 : Nat) (c0 : Nat) (x1 : Int) (a7 : Option Addr) (n7 : Nat) (c7 : Nat) (x8 : Int) (h : Hp) : Prop :=
  vcond (ltI x8 (Int.ofNat n7))
  (let g101 : Hp := h.rsv 10
  ∃ a102' n103' c104', sliceV Tryz.prog g101 22 (.slice a7 n7 c7) (some (.int .i64 x8)) none none = some (.slice a102' n103' c104') ∧
  ∃ a105' n106' c107', sliceV Tryz.prog g101 22 (.slice a7 n7 c7) none (some (.int .i64 x8)) none = some (.slice a105' n106' c107') ∧
  ∃ x108' h109', copyV Tryz.prog (g101.grd []) 22 (.slice a102' n103' c104') (.slice a105' n106' c107') = some (.int .i64 x108', h109') ∧
  let g110 : Hp := h109'.rst g101
  I111_0 O Q a0 n0 c0 x1 a7 n7 c7 (wrapF .i64 (x8 + x108')) g110)
  (Q (.slice a7 n7 c7) h)
theorem I111_0.of {O Q} (a0 n0 c0 x1 a7 n7 c7 x8) {h : Hp} (hh : T111_0 O Q a0 n0 c0 x1 a7 n7 c7 x8 h) : I111_0 O Q a0 n0 c0 x1 a7 n7 c7 x8 h :=
  RKL.of (tb := lv111) (cuts := []) 500 fun _ => Eq.mp (by kernel_rfl) hh
/-! sward/swardlaw15.laid$1 -/
noncomputable def b112 : Code := (Tryz.f112.body).getD .skip
def lv112 : List (Nat × List Nat) := []
def T112 (O : CallF) (Q : Value → Hp → Prop) (x0_0 : Int) (q0_1 : Bool) (b1 : Nat) (f1 : Nat) (h : Hp) : Prop :=
  let g1 : Hp := h.add (.cells [(.int .i64 x0_0), (.bool q0_1)] 76 .fix)
  ∃ q2', readAt g1 h.nx 1 1 = some [(.bool q2')] ∧
  vcond q2'
  (∃ a3' n4' c5', readAt g1 b1 f1 1 = some [(.slice a3' n4' c5')] ∧
  ∃ x6', readAt g1 h.nx 0 1 = some [(.int .i64 x6')] ∧
  isNat x6' fun n7' =>
  isAddr a3' fun b8' f9' =>
  vreq (Nat.blt n7' n4')
  (∃ x10', readAt g1 b8' (f9' + (n7' * 1)) 1 = some [(.int .i64 x10')] ∧
  Q (.int .i64 (wrapF .i64 (2 * x10'))) g1))
  (∃ x11', readAt g1 h.nx 0 1 = some [(.int .i64 x11')] ∧
  Q (.int .i64 x11') g1)
theorem rk112 {O Q} (x0_0 q0_1 b1 f1) {h : Hp} (hO : O 112 [(.agg #[(.int .i64 x0_0), (.bool q0_1)]), (.pointer (some ⟨b1, f1, none⟩))] h = none) (hh : T112 O Q x0_0 q0_1 b1 f1 h) : Ret Tryz.prog O 112 [(.agg #[(.int .i64 x0_0), (.bool q0_1)]), (.pointer (some ⟨b1, f1, none⟩))] h Q :=
  .of (c := b112) Tryz.func112 (by kernel_rfl) hO (V_ok (tb := lv112) (cuts := []) 500 (Eq.mp (by kernel_rfl) hh))
/-! (sward/swardlaw15.Pile).drawn$1 -/
noncomputable def b139 : Code := (Tryz.f139.body).getD .skip
def lv139 : List (Nat × List Nat) := []
def T139 (O : CallF) (Q : Value → Hp → Prop) (x0 : Int) (b1 : Nat) (f1 : Nat) (h : Hp) : Prop :=
  let g1 : Hp := h.add (.cells [(.int .i64 0), (.bool false)] 76 .fix)
  ∃ x2', readAt g1 b1 f1 1 = some [(.int .i64 x2')] ∧
  vcond (eqI x2' 0)
  (vreq (canW g1 h.nx 0 [(.int .i64 (wrapF .i64 ((wrapF .i64 (2 * (wrapF .i64 ((wrapF .i64 x0) - 100)))) + 1))), (.bool false)])
  (let g3 : Hp := g1.wr h.nx 0 [(.int .i64 (wrapF .i64 ((wrapF .i64 (2 * (wrapF .i64 ((wrapF .i64 x0) - 100)))) + 1))), (.bool false)]
  ∃ x4', ∃ q5', readAt g3 h.nx 0 2 = some [(.int .i64 x4'), (.bool q5')] ∧
  Q (.agg #[(.int .i64 x4'), (.bool q5')]) g3))
  (vcond (eqI (Int.tmod x0 4) 0)
  (vreq (canW g1 h.nx 0 [(.int .i64 (wrapF .i64 ((wrapF .i64 (2 * (wrapF .i64 ((wrapF .i64 x0) - 100)))) + 1))), (.bool false)])
  (let g6 : Hp := g1.wr h.nx 0 [(.int .i64 (wrapF .i64 ((wrapF .i64 (2 * (wrapF .i64 ((wrapF .i64 x0) - 100)))) + 1))), (.bool false)]
  ∃ x7', ∃ q8', readAt g6 h.nx 0 2 = some [(.int .i64 x7'), (.bool q8')] ∧
  Q (.agg #[(.int .i64 x7'), (.bool q8')]) g6))
  (vcond (eqI (Int.tmod x0 16) 7)
  (vreq (canW g1 h.nx 0 [(.int .i64 0), (.bool false)])
  (let g9 : Hp := g1.wr h.nx 0 [(.int .i64 0), (.bool false)]
  ∃ x10', ∃ q11', readAt g9 h.nx 0 2 = some [(.int .i64 x10'), (.bool q11')] ∧
  Q (.agg #[(.int .i64 x10'), (.bool q11')]) g9))
  (∃ x12', readAt g1 b1 f1 1 = some [(.int .i64 x12')] ∧
  vreq (!(eqI x12' 0))
  (vreq (canW g1 h.nx 0 [(.int .i64 (Int.tmod (wrapF .i64 (Int.tdiv (wrapF .i64 x0) 4)) x12')), (.bool true)])
  (let g13 : Hp := g1.wr h.nx 0 [(.int .i64 (Int.tmod (wrapF .i64 (Int.tdiv (wrapF .i64 x0) 4)) x12')), (.bool true)]
  ∃ x14', ∃ q15', readAt g13 h.nx 0 2 = some [(.int .i64 x14'), (.bool q15')] ∧
  Q (.agg #[(.int .i64 x14'), (.bool q15')]) g13)))))
theorem rk139 {O Q} (x0 b1 f1) {h : Hp} (hO : O 139 [(.int .u8 x0), (.pointer (some ⟨b1, f1, none⟩))] h = none) (hh : T139 O Q x0 b1 f1 h) : Ret Tryz.prog O 139 [(.int .u8 x0), (.pointer (some ⟨b1, f1, none⟩))] h Q :=
  .of (c := b139) Tryz.func139 (by kernel_rfl) hO (V_ok (tb := lv139) (cuts := []) 500 (Eq.mp (by kernel_rfl) hh))
end Go.Proofs.YtngcjpkccnfjiaaGreatDoor
/- Conditions of functions' code, printed by a program of ours. -/
namespace Go.Proofs.YtngcjpkccnfjiaaGreatDoor
open Go Go.Ev
set_option maxRecDepth 100000
set_option linter.unusedVariables false
/-! slices.Index[[]int,int] -/
noncomputable def b142 : Code := (Tryz.f142.body).getD .skip
noncomputable def stk142_0 : List KI := [.code (sub [1, 0, 1, 0] b142), .blk 0, .code (sub [1, 1] b142)]
def lv142 : List (Nat × List Nat) := [(0, [0, 1, 4, 7, 8])]
def I142_0 (O : CallF) (Q : Value → Hp → Prop) (a0 : Option Addr) (n0 : Nat) (c0 : Nat) (x1 : Int) (x4 : Int) (x8 : Int) (h : Hp) : Prop := RKL Tryz.prog O Tryz.f142 stk142_0 19 [0, 1, 4, 7, 8] [(.slice a0 n0 c0), (.int .i64 x1), (.int .i64 x4), (.int .i64 (Int.ofNat n0)), (.int .i64 x8)] h Q
def T142 (O : CallF) (Q : Value → Hp → Prop) (a0 : Option Addr) (n0 : Nat) (c0 : Nat) (x1 : Int) (h : Hp) : Prop :=
  I142_0 O Q a0 n0 c0 x1 0 0 h
theorem rk142 {O Q} (a0 n0 c0 x1) {h : Hp} (hO : O 142 [(.slice a0 n0 c0), (.int .i64 x1)] h = none) (hh : T142 O Q a0 n0 c0 x1 h) : Ret Tryz.prog O 142 [(.slice a0 n0 c0), (.int .i64 x1)] h Q :=
  .of (c := b142) Tryz.func142 (by kernel_rfl) hO (V_ok (tb := lv142) (cuts := []) 500 (Eq.mp (by kernel_rfl) hh))
def T142_0 (O : CallF) (Q : Value → Hp → Prop) (a0 : Option Addr) (n0 : Nat) (c0 : Nat) (x1 : Int) (x4 : Int) (x8 : Int) (h : Hp) : Prop :=
  vcond (ltI x8 (Int.ofNat n0))
  (isNat x8 fun n101' =>
  isAddr a0 fun b102' f103' =>
  vreq (Nat.blt n101' n0)
  (∃ x104', readAt h b102' (f103' + (n101' * 1)) 1 = some [(.int .i64 x104')] ∧
  vcond (eqI x1 x104')
  (Q (.int .i64 x8) h)
  (I142_0 O Q a0 n0 c0 x1 x4 (wrapF .i64 (x8 + 1)) h)))
  (Q (.int .i64 (-1)) h)
theorem I142_0.of {O Q} (a0 n0 c0 x1 x4 x8) {h : Hp} (hh : T142_0 O Q a0 n0 c0 x1 x4 x8 h) : I142_0 O Q a0 n0 c0 x1 x4 x8 h :=
  RKL.of (tb := lv142) (cuts := []) 500 fun _ => Eq.mp (by kernel_rfl) hh
/-! math/bits.Mul -/
noncomputable def b143 : Code := (Tryz.f143.body).getD .skip
def lv143 : List (Nat × List Nat) := []
def T143 (O : CallF) (Q : Value → Hp → Prop) (x0 : Int) (x1 : Int) (h : Hp) : Prop :=
  ∃ x1', ∃ x2', ∃ h3', EvC Tryz.prog O 152 [(.int .u64 x0), (.int .u64 x1)] h (.tuple #[(.int .u64 x1'), (.int .u64 x2')]) h3' ∧
  Q (.tuple #[(.int .u64 x1'), (.int .u64 x2')]) h3'
theorem rk143 {O Q} (x0 x1) {h : Hp} (hO : O 143 [(.int .u64 x0), (.int .u64 x1)] h = none) (hh : T143 O Q x0 x1 h) : Ret Tryz.prog O 143 [(.int .u64 x0), (.int .u64 x1)] h Q :=
  .of (c := b143) Tryz.func143 (by kernel_rfl) hO (V_ok (tb := lv143) (cuts := []) 500 (Eq.mp (by kernel_rfl) hh))
/-! math/bits.Mul64 -/
noncomputable def b152 : Code := (Tryz.f152.body).getD .skip
def lv152 : List (Nat × List Nat) := []
def T152 (O : CallF) (Q : Value → Hp → Prop) (x0 : Int) (x1 : Int) (h : Hp) : Prop :=
  vreq (inD 18446744073709551616 x0)
  (vreq (inD 18446744073709551616 x1)
  (vreq (inD 18446744073709551616 (wrapF .u64 ((wrapF .u64 ((shrF .u64 x0 32) * (landI x1 4294967295))) + (shrF .u64 (wrapF .u64 ((landI x0 4294967295) * (landI x1 4294967295))) 32))))
  (Q (.tuple #[(.int .u64 (wrapF .u64 ((wrapF .u64 ((wrapF .u64 ((shrF .u64 x0 32) * (shrF .u64 x1 32))) + (shrF .u64 (wrapF .u64 ((wrapF .u64 ((shrF .u64 x0 32) * (landI x1 4294967295))) + (shrF .u64 (wrapF .u64 ((landI x0 4294967295) * (landI x1 4294967295))) 32))) 32))) + (shrF .u64 (wrapF .u64 ((landI (wrapF .u64 ((wrapF .u64 ((shrF .u64 x0 32) * (landI x1 4294967295))) + (shrF .u64 (wrapF .u64 ((landI x0 4294967295) * (landI x1 4294967295))) 32))) 4294967295) + (wrapF .u64 ((landI x0 4294967295) * (shrF .u64 x1 32))))) 32)))), (.int .u64 (wrapF .u64 (x0 * x1)))]) h)))
theorem rk152 {O Q} (x0 x1) {h : Hp} (hO : O 152 [(.int .u64 x0), (.int .u64 x1)] h = none) (hh : T152 O Q x0 x1 h) : Ret Tryz.prog O 152 [(.int .u64 x0), (.int .u64 x1)] h Q :=
  .of (c := b152) Tryz.func152 (by kernel_rfl) hO (V_ok (tb := lv152) (cuts := []) 500 (Eq.mp (by kernel_rfl) hh))
end Go.Proofs.YtngcjpkccnfjiaaGreatDoor
/- Contracts: cells by numbers: in memory; upTo, contains, what a field adds. -/
namespace Go.Proofs.YtngcjpkccnfjiaaGreatDoor
set_option maxRecDepth 100000
open Go Go.Ev
def fdE (f : Fd) : List Value := [.int .i64 f.n, .bool f.refs]
theorem fdE_len (f : Fd) : (fdE f).length = 2 := rfl
abbrev FdsAt := SlAt 2 (ECells fdE)
def ECl : Enc Cl := fun h c vs => ∃ a n cp, vs = [.int .i64 c.kind, .slice a n cp] ∧ FdsAt h a n c.fs
instance : EUp ECl := ⟨fun _ h' _ _ _ ⟨a, n, c, h1, h2⟩ => ⟨a, n, c, h1, h2.to h'⟩⟩
abbrev ClsAt := SlAt 2 ECl
theorem FdsAt.rd {g h : Hp} {a : Option Addr} {n : Nat} {xs : List Fd} (H : FdsAt g a n xs) [Ft g h] {k : Nat} (hk : k < xs.length) {K : Int → Bool → Prop} (next : K xs[k].n xs[k].refs) :
    isAddr a fun b off => vreq (Nat.blt k n) (∃ x, ∃ q, readAt h b (off + k * 2) 2 = some [.int .i64 x, .bool q] ∧ K x q) :=
  SlAt.read H hk fun _ _ _ _ hb hr e => vreq_t (blt_t (by rw [H.1]; exact hk)) ⟨_, _, by rw [readAt_ex (g := g) hb, hr, show _ = _ from e]; rfl, next⟩
theorem ClsAt.rd {g h : Hp} {a : Option Addr} {n : Nat} {xs : List Cl} (H : ClsAt g a n xs) [Ft g h] {k : Nat} (hk : k < xs.length) {K : Int → Option Addr → Nat → Nat → Prop} (next : ∀ a' n' c', FdsAt g a' n' xs[k].fs → K xs[k].kind a' n' c') :
    isAddr a fun b off => vreq (Nat.blt k n) (∃ x, ∃ a' n' c', readAt h b (off + k * 2) 2 = some [.int .i64 x, .slice a' n' c'] ∧ K x a' n' c') :=
  SlAt.read H hk fun _ _ _ _ hb hr ⟨a', n', c', e, F⟩ => vreq_t (blt_t (by rw [H.1]; exact hk)) ⟨_, a', n', c', by rw [readAt_ex (g := g) hb, hr, e], next _ _ _ F⟩
theorem readAt_two {h : Hp} {b off : Nat} {v w : Value} (hr : readAt h b off 2 = some [v, w]) : readAt h b (off + 0) 1 = some [v] ∧ readAt h b (off + 1) 1 = some [w] := by
  unfold readAt at hr ⊢
  split at hr
  · rename_i c e m hg
    obtain ⟨hb, hr⟩ := cond_some hr
    have hb := Nat.eq_of_beq_eq_true hb
    have hr := Option.some.inj hr
    rw [List.length_take, List.length_drop] at hb
    have h1 : off < c.length := by omega
    have h2 : off + 1 < c.length := by omega
    rw [List.drop_eq_getElem_cons h1, List.drop_eq_getElem_cons h2] at hr
    simp only [List.take_succ_cons, List.take_zero, List.cons.injEq, and_true] at hr
    have e0 : ((c.drop (off + 0)).take 1) = [v] := by
      rw [Nat.add_zero, List.drop_eq_getElem_cons h1, List.take_succ_cons, List.take_zero, hr.1]
    have e1 : ((c.drop (off + 1)).take 1) = [w] := by
      rw [List.drop_eq_getElem_cons h2, List.take_succ_cons, List.take_zero, hr.2]
    simp only [e0, e1]
    exact ⟨rfl, rfl⟩
  · cases hr
/-- A cell's list of fields alone is read. -/
theorem ClsAt.rdf {g h : Hp} {a : Option Addr} {n : Nat} {xs : List Cl} (H : ClsAt g a n xs) [Ft g h] {k : Nat} (hk : k < xs.length) {K : Option Addr → Nat → Nat → Prop} (next : ∀ a' n' c', FdsAt g a' n' xs[k].fs → K a' n' c') :
    isAddr a fun b off => vreq (Nat.blt k n) (∃ a' n' c', readAt h b ((off + k * 2) + 1) 1 = some [.slice a' n' c'] ∧ K a' n' c') :=
  SlAt.read H hk fun _ _ _ _ hb hr ⟨a', n', c', e, F⟩ => vreq_t (blt_t (by rw [H.1]; exact hk)) ⟨a', n', c', by rw [readAt_ex (g := g) hb]; rw [e] at hr; exact (readAt_two hr).2, next _ _ _ F⟩
theorem ClsAt.rdk {g h : Hp} {a : Option Addr} {n : Nat} {xs : List Cl} (H : ClsAt g a n xs) [Ft g h] {k : Nat} (hk : k < xs.length) {K : Int → Prop} (next : K xs[k].kind) :
    isAddr a fun b off => vreq (Nat.blt k n) (∃ x, readAt h b ((off + k * 2) + 0) 1 = some [.int .i64 x] ∧ K x) :=
  SlAt.read H hk fun _ _ _ _ hb hr ⟨a', n', c', e, F⟩ => vreq_t (blt_t (by rw [H.1]; exact hk)) ⟨_, by rw [readAt_ex (g := g) hb]; rw [e] at hr; exact (readAt_two hr).1, next⟩
theorem contains_ofNat (l : List Nat) (m : Nat) : (l.map Int.ofNat).contains (m : Int) = l.contains m := by
  rw [Bool.eq_iff_iff, List.contains_iff_mem, List.contains_iff_mem]
  constructor
  · intro h
    obtain ⟨a, ha, e⟩ := List.mem_map.1 h
    rw [← Int.ofNat_inj.1 e]; exact ha
  · intro h
    exact List.mem_map.2 ⟨m, h, rfl⟩
/-- A reference is a number of a cell. -/
def FdN (f : Fd) : Prop := f.refs = true → f.n = (f.n.toNat : Int)
section
variable {O : CallF} (hO : Oth O)
include hO
/-- 'upTo'. -/
theorem ct51 {g : Hp} (ok : g.Ok) {n : Nat} (hn : n < 1000000) : Ret Tryz.prog O 51 [.int .i64 (Int.ofNat n)] g fun v h' => ∃ a n' c, v = .slice a n' c ∧ Know g h' [acc g.nx 3 1 a n' c (iv ((List.range n).map Int.ofNat))] := by
  refine rk51 (hO := hO _ _ _ (by decide)) (hh := ?_) ..
  unfold T51
  have lp : ∀ (d k : Nat) (a : Option Addr) (m c : Nat) (h : Hp), k + d = n → Know g h [acc g.nx 3 1 a m c (iv ((List.range k).map Int.ofNat))] → I51_0 O (fun v h' => ∃ a n' c, v = .slice a n' c ∧ Know g h' [acc g.nx 3 1 a n' c (iv ((List.range n).map Int.ofNat))]) (Int.ofNat n) a m c (Int.ofNat k) h := by
    intro d
    induction d with
    | zero =>
      intro k a m c h hk S
      refine I51_0.of (hh := ?_) ..
      unfold T51_0
      refine vcond_f (by rw [ltI_nat]; exact blt_f (by omega)) ⟨_, _, _, rfl, ?_⟩
      have : k = n := by omega
      subst this; exact S
    | succ d ih =>
      intro k a m c h hk S
      refine I51_0.of (hh := ?_) ..
      unfold T51_0
      refine vcond_t (by rw [ltI_nat]; exact blt_t (by omega)) ?_
      intro g101
      have hm : m = k := by
        have A : AccE h g.nx 3 1 a m c _ := S.get 0 rfl
        have := (AccE.ints A).1
        simpa using this
      have S : Know g g101 [_, _] := S.add _
      obtain ⟨a', n', c', h', e, hn', S⟩ := S.app 1 rfl (Nat.le_refl _) S.lo AppT22 ⟨_, _, _, rfl⟩ (src_get (n := 1) (c := 1) (esz := 1) (off := 0) (S.rd 0 rfl (r := [.int .i64 (Int.ofNat k)]) rfl rfl)) rfl rfl (by omega) (by unfold big; omega)
      have S : Know g h' [_, _] := S
      refine ⟨_, _, _, _, e, ?_⟩
      rw [wrap_succ (by omega)]
      refine ih (k + 1) _ _ _ _ (by omega) ?_
      have := S.sel [1] (by decide) rfl
      rw [List.range_succ, List.map_append]
      unfold iv
      rw [List.map_append]
      exact this
  exact lp n 0 none 0 0 g (by omega) ((Know.nil ok).accNil g.nx 3 1)
/-- 'slices.Contains'. -/
theorem ct109 {h : Hp} {a : Option Addr} {n c : Nat} {xs : List Int} (X : IntsAt h a n xs) (hl : xs.length < 1000000) (x : Int) : EvT O 109 [.slice a n c, .int .i64 x] h (.bool (xs.contains x)) h := by
  have hn := X.1
  have lp : ∀ {Q : Value → Hp → Prop}, (∀ i : Int, 0 ≤ i → xs.contains x = true → Q (.int .i64 i) h) → (xs.contains x = false → Q (.int .i64 (-1)) h) → ∀ (d k : Nat), k + d = xs.length → (xs.take k).contains x = false → I142_0 O Q a n c x 0 (Int.ofNat k) h := by
    intro Q Qt Qf d
    induction d with
    | zero =>
      intro k hk hc
      refine I142_0.of (hh := ?_) ..
      unfold T142_0
      refine vcond_f (by rw [ltI_nat]; exact blt_f (by omega)) (Qf ?_)
      rwa [List.take_of_length_le (by omega)] at hc
    | succ d ih =>
      intro k hk hc
      have hk' : k < xs.length := by omega
      refine I142_0.of (hh := ?_) ..
      unfold T142_0
      refine vcond_t (by rw [ltI_nat]; exact blt_t (by omega)) (isNat_i (X.rd (k := k) hk' (vcond_split (fun h1 => ?_) fun h1 => ?_)))
      · refine Qt _ (Int.natCast_nonneg _) ?_
        rw [List.contains_iff_mem, eq_of_t h1]
        exact List.getElem_mem hk'
      · rw [wrap_succ (by omega)]
        refine ih (k + 1) (by omega) ?_
        rw [List.take_add_one, List.getElem?_eq_getElem hk', List.contains_eq_any_beq, List.any_append, ← List.contains_eq_any_beq, hc]
        have := ne_of_f h1
        simp; exact this
  have r : Ret Tryz.prog O 142 [.slice a n c, .int .i64 x] h fun v h' => ∃ i, v = .int .i64 i ∧ h' = h ∧ (!(ltI i 0)) = xs.contains x := by
    refine rk142 (hO := hO _ _ _ (by decide)) (hh := ?_) ..
    unfold T142
    exact lp (fun i hi hc => ⟨i, rfl, rfl, by rw [ltI_f (by omega), hc]; rfl⟩) (fun hc => ⟨_, rfl, rfl, by rw [hc]; rfl⟩) xs.length 0 (by omega) rfl
  refine evt hO (rk109 (hO := hO _ _ _ (by decide)) (hh := ?_) ..)
  unfold T109
  obtain ⟨v, h2, e, i, rfl, rfl, hi⟩ := r
  exact ⟨_, _, e, by rw [hi], rfl⟩
/-- 'holds'. -/
theorem ct48 {h : Hp} (ok : h.Ok) {k : Int} {a : Option Addr} {n c : Nat} : Ret Tryz.prog O 48 [.agg #[.int .i64 k, .slice a n c]] h fun v h' => v = .bool (keepB k) ∧ Kp h.nx h h' := by
  refine rk48 (hO := hO _ _ _ (by decide)) (hh := ?_) ..
  unfold T48
  intro g1
  have S : Know h g1 [_] := (Know.nil ok).add _
  refine ⟨_, S.rd 0 rfl rfl rfl, vcond_split (fun h1 => ?_) fun h1 => ?_⟩
  · rw [eq_of_t h1]; exact ⟨rfl, S.kp⟩
  · refine ⟨_, S.rd 0 rfl rfl rfl, ?_, S.kp⟩
    have h1 := ne_of_f h1
    unfold keepB
    rw [eqI_eq, show (k == 1) = false from by rw [beq_eq_false_iff_ne]; exact h1, Bool.false_or]
/-- What a field adds. -/
theorem ct108 {h0 h : Hp} {L : List Rs} (S : Know h0 h L) (i j : Nat) {b : Nat} {a : Option Addr} {n c : Nat} {l : List Nat} (hi : L[i]? = some (ob b (.cells [.slice a n c] 22 .fix))) (hj : L[j]? = some (acc h0.nx 3 1 a n c (iv (l.map Int.ofNat)))) (hij : i ≠ j) (hl : l.length < 100000) {f : Fd} (hf : FdN f) :
    Ret Tryz.prog O 108 [.agg #[.int .i64 f.n, .bool f.refs], .pointer (some ⟨b, 0, none⟩)] h fun v h' => v = undef ∧ ∃ a' n' c', Know h0 h' ((L.set j (acc h0.nx 3 1 a' n' c' (iv ((addC l f).map Int.ofNat)))).set i (ob b (.cells [.slice a' n' c'] 22 .fix))) := by
  refine rk108 (hO := hO _ _ _ (by decide)) (hh := ?_) ..
  unfold T108
  have lj := S.len hj
  have li := S.len hi
  have same : ∀ {h' : Hp}, Know h0 h' L → addC l f = l → ∃ a' n' c', Know h0 h' ((L.set j (acc h0.nx 3 1 a' n' c' (iv ((addC l f).map Int.ofNat)))).set i (ob b (.cells [.slice a' n' c'] 22 .fix))) := fun S e => by
    refine ⟨a, n, c, ?_⟩
    rw [e]
    have e1 : L.set j (acc h0.nx 3 1 a n c (iv (l.map Int.ofNat))) = L := by
      refine List.ext_getElem? fun k => ?_
      rw [List.getElem?_set]
      by_cases h : j = k
      · subst h; rw [if_pos rfl, if_pos lj, hj]
      · rw [if_neg h]
    have e2 : L.set i (ob b (.cells [.slice a n c] 22 .fix)) = L := by
      refine List.ext_getElem? fun k => ?_
      rw [List.getElem?_set]
      by_cases h : i = k
      · subst h; rw [if_pos rfl, if_pos li, hi]
      · rw [if_neg h]
    rw [e1, e2]; exact S
  intro g1
  have S1 : Know h0 g1 (_ :: L) := S.add _
  refine ⟨_, S1.rd 0 rfl rfl rfl, ?_⟩
  cases hr : f.refs with
  | false => exact vcond_f rfl ⟨rfl, same (S1.sub _ (List.sublist_cons_self ..)) (by unfold addC; rw [hr]; rfl)⟩
  | true =>
    have A1 : AccE g1 h0.nx 3 1 a n c (iv (l.map Int.ofNat)) := S1.get (j + 1) hj
    have hn : n = l.length := by simpa using (AccE.ints A1).1
    refine vcond_t rfl ⟨_, _, _, S1.rd (i + 1) hi rfl rfl, _, S1.rd 0 rfl rfl rfl, _, _, ct109 hO (AccE.ints A1) (by rw [List.length_map]; omega) f.n, ?_⟩
    rw [hf hr, contains_ofNat]
    cases hc : l.contains f.n.toNat with
    | true => exact vcond_f rfl ⟨rfl, same (S1.sub _ (List.sublist_cons_self ..)) (by unfold addC; rw [hr, hc]; rfl)⟩
    | false =>
      have e1 : addC l f = l ++ [f.n.toNat] := by unfold addC; rw [hr, hc]; rfl
      rw [e1]
      refine vcond_t rfl ⟨_, _, _, S1.rd (i + 1) hi rfl rfl, _, S1.rd 0 rfl rfl rfl, ?_⟩
      intro g13
      have S13 : Know h0 g13 (_ :: _ :: L) := S1.add _
      obtain ⟨a', n', c', h', e, hn', S⟩ := S13.app (j + 2) hj (Nat.le_refl _) S13.lo AppT22 ⟨_, _, _, rfl⟩ (src_get (n := 1) (c := 1) (esz := 1) (off := 0) (S13.rd 0 rfl (r := [.int .i64 f.n]) rfl rfl)) rfl rfl (by omega) (by unfold big; omega)
      rw [hf hr] at S
      have S : Know h0 h' (_ :: _ :: L.set j _) := S
      have hi2 : (L.set j (acc h0.nx 3 1 a' n' c' (iv (l.map Int.ofNat) ++ [.int .i64 (f.n.toNat : Int)])))[i]? = some (ob b (.cells [.slice a n c] 22 .fix)) := by rw [List.getElem?_set_ne (Ne.symm hij)]; exact hi
      refine ⟨_, _, _, _, e, vreq_t (S.cw (i + 2) hi2 (by decide) rfl rfl) ?_⟩
      intro g18
      have S : Know h0 g18 (_ :: _ :: (L.set j _).set i _) := S.wr (i + 2) hi2 (by decide) rfl rfl
      refine ⟨rfl, a', n', c', ?_⟩
      have := S.sub _ ((List.sublist_cons_self ..).trans (List.sublist_cons_self ..))
      have e2 : iv ((l ++ [f.n.toNat]).map Int.ofNat) = iv (l.map Int.ofNat) ++ [.int .i64 (f.n.toNat : Int)] := by
        unfold iv; rw [List.map_append, List.map_append]; rfl
      rw [e2]; exact this
end
end Go.Proofs.YtngcjpkccnfjiaaGreatDoor
