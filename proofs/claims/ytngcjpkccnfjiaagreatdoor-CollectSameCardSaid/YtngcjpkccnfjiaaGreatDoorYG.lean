/- Plain law: a heap that is laid from cells, in some order: what it is. -/
import Derived.Test.YtngcjpkccnfjiaaGreatDoorYF
import Derived.Test.YtngcjpkccnfjiaaGreatDoorYD
import Derived.Test.YtngcjpkccnfjiaaGreatDoorProg
import Derived.Test.YtngcjpkccnfjiaaGreatDoorYC
import Derived.KernelRfl
namespace Go.Proofs.YtngcjpkccnfjiaaGreatDoor
open Go Go.Ev
/-- A field by numbers: a number, or a reference to a cell. -/
structure Fd where
  n : Int
  refs : Bool
  deriving DecidableEq
/-- A cell by numbers. -/
structure Cl where
  kind : Int
  fs : List Fd
def Cl.no : Cl := ⟨0, []⟩
def clAt (L : List Cl) (i : Nat) : Cl := L.getD i Cl.no
def szC (L : List Cl) (i : Nat) : Nat := 1 + (clAt L i).fs.length
/-- Where things of some sizes lie, one after the other; 0 for others. -/
def posS (sz : Nat → Nat) : Nat → List Nat → Nat → Nat
  | _, [], _ => 0
  | b, x :: xs, a => if x = a then b else posS sz (b + sz x) xs a
def totS (sz : Nat → Nat) (o : List Nat) : Nat := (o.map sz).sum
def addrS (sz : Nat → Nat) : Nat → List Nat → List Nat
  | _, [] => []
  | b, x :: xs => b :: addrS sz (b + sz x) xs
theorem posF_S (W : List Int) : ∀ (o : List Nat) (b a : Nat), posF W b o a = posS (szW W) b o a := by
  intro o
  induction o with
  | nil => intro b a; rfl
  | cons x o ih => intro b a; show (if x = a then b else posF W (b + szW W x) o a) = if x = a then b else _; rw [ih]
theorem totS_app (sz : Nat → Nat) (a b : List Nat) : totS sz (a ++ b) = totS sz a + totS sz b := by simp [totS]
theorem totS_cons (sz : Nat → Nat) (a : Nat) (b : List Nat) : totS sz (a :: b) = sz a + totS sz b := rfl
theorem posS_app {sz : Nat → Nat} : ∀ {o e : List Nat} {b a : Nat}, a ∉ o → posS sz b (o ++ e) a = posS sz (b + totS sz o) e a := by
  intro o
  induction o with
  | nil => intro e b a _; rfl
  | cons x o ih =>
    intro e b a h
    show (if x = a then b else posS sz (b + sz x) (o ++ e) a) = _
    rw [if_neg (fun hh => h (by rw [hh]; exact List.mem_cons_self ..)), ih (fun hh => h (List.mem_cons_of_mem _ hh)), totS_cons, Nat.add_assoc]
theorem posS_at {sz : Nat → Nat} {o1 o2 : List Nat} {b a : Nat} (h : a ∉ o1) : posS sz b (o1 ++ a :: o2) a = b + totS sz o1 := by
  rw [posS_app h]; show (if a = a then _ else _) = _; rw [if_pos rfl]
theorem posS_not {sz : Nat → Nat} : ∀ {o : List Nat} {b a : Nat}, a ∉ o → posS sz b o a = 0 := by
  intro o
  induction o with
  | nil => intro b a _; rfl
  | cons x xs ih =>
    intro b a h
    unfold posS
    rw [if_neg (fun hh => h (by rw [hh]; exact List.mem_cons_self ..)), ih (fun hh => h (List.mem_cons_of_mem _ hh))]
theorem posS_ge {sz : Nat → Nat} : ∀ {o : List Nat} {b a : Nat}, a ∈ o → b ≤ posS sz b o a := by
  intro o
  induction o with
  | nil => intro b a h; cases h
  | cons x xs ih =>
    intro b a h
    unfold posS
    split
    · exact Nat.le_refl _
    · rcases List.mem_cons.1 h with rfl | h
      · exact absurd rfl ‹_›
      · have := ih (b := b + sz x) h; omega
theorem posS_lt {sz : Nat → Nat} : ∀ {o : List Nat} {b a : Nat}, a ∈ o → posS sz b o a + sz a ≤ b + totS sz o := by
  intro o
  induction o with
  | nil => intro b a h; cases h
  | cons x xs ih =>
    intro b a h
    unfold posS
    rw [totS_cons]
    split
    · rename_i e; subst e; omega
    · rcases List.mem_cons.1 h with rfl | h
      · exact absurd rfl ‹_›
      · have := ih (b := b + sz x) h; omega
theorem posS_inj {sz : Nat → Nat} (h1 : ∀ i, 0 < sz i) : ∀ {o : List Nat} {b a c : Nat}, a ∈ o → posS sz b o a = posS sz b o c → c ∈ o → a = c := by
  intro o
  induction o with
  | nil => intro b a c h; cases h
  | cons x xs ih =>
    intro b a c ha e hc
    unfold posS at e
    by_cases hxa : x = a
    · rw [if_pos hxa] at e
      by_cases hxc : x = c
      · rw [← hxa, hxc]
      · rw [if_neg hxc] at e
        have := posS_ge (sz := sz) (b := b + sz x) ((List.mem_cons.1 hc).resolve_left (fun h => hxc h.symm))
        have := h1 x; omega
    · rw [if_neg hxa] at e
      by_cases hxc : x = c
      · rw [if_pos hxc] at e
        have := posS_ge (sz := sz) (b := b + sz x) ((List.mem_cons.1 ha).resolve_left (fun h => hxa h.symm))
        have := h1 x; omega
      · rw [if_neg hxc] at e
        exact ih ((List.mem_cons.1 ha).resolve_left (fun h => hxa h.symm)) e ((List.mem_cons.1 hc).resolve_left (fun h => hxc h.symm))
theorem posS_congr {s1 s2 : Nat → Nat} : ∀ {o : List Nat} {b a : Nat}, (∀ i ∈ o, s1 i = s2 i) → posS s1 b o a = posS s2 b o a := by
  intro o
  induction o with
  | nil => intro b a _; rfl
  | cons x o ih =>
    intro b a h
    show (if x = a then b else posS s1 (b + s1 x) o a) = if x = a then b else posS s2 (b + s2 x) o a
    rw [h x (List.mem_cons_self ..), ih fun i hi => h i (List.mem_cons_of_mem _ hi)]
theorem totS_congr {s1 s2 : Nat → Nat} {o : List Nat} (h : ∀ i ∈ o, s1 i = s2 i) : totS s1 o = totS s2 o := by
  unfold totS; rw [List.map_congr_left h]
/-- Places of places. -/
theorem posS_map {sz : Nat → Nat} {f : Nat → Nat} : ∀ {o : List Nat} {b a : Nat}, (∀ i ∈ o, f i = f a → i = a) → posS sz b (o.map f) (f a) = posS (fun i => sz (f i)) b o a := by
  intro o
  induction o with
  | nil => intro b a _; rfl
  | cons x o ih =>
    intro b a h
    show (if f x = f a then b else posS sz (b + sz (f x)) (o.map f) (f a)) = if x = a then b else posS (fun i => sz (f i)) (b + sz (f x)) o a
    by_cases hx : x = a
    · rw [if_pos hx, if_pos (by rw [hx])]
    · rw [if_neg hx, if_neg (fun hh => hx (h x (List.mem_cons_self ..) hh)), ih fun i hi => h i (List.mem_cons_of_mem _ hi)]
theorem totS_map {sz : Nat → Nat} {f : Nat → Nat} {o : List Nat} : totS sz (o.map f) = totS (fun i => sz (f i)) o := by
  unfold totS; rw [List.map_map]; rfl
theorem addrS_map {sz : Nat → Nat} : ∀ {o : List Nat} {b : Nat}, o.Nodup → o.map (posS sz b o) = addrS sz b o := by
  intro o
  induction o with
  | nil => intro b _; rfl
  | cons x o ih =>
    intro b h
    obtain ⟨h1, h2⟩ := List.nodup_cons.1 h
    show (if x = x then b else _) :: o.map _ = b :: addrS sz (b + sz x) o
    rw [if_pos rfl, ← ih h2]
    congr 1
    refine List.map_congr_left fun i hi => ?_
    show (if x = i then b else _) = _
    rw [if_neg (fun hh => h1 (by rw [hh]; exact hi))]
def wd (at_ : Nat → Nat) (f : Fd) : Int := if f.refs then 2 * (at_ f.n.toNat : Int) else f.n
theorem wd_n {at_ : Nat → Nat} {f : Fd} (h : f.refs = false) : wd at_ f = f.n := by unfold wd; rw [h]; rfl
theorem wd_r {at_ : Nat → Nat} {f : Fd} (h : f.refs = true) : wd at_ f = 2 * (at_ f.n.toNat : Int) := by unfold wd; rw [h]; rfl
def hdC (c : Cl) : Int := 8 * (c.fs.length : Int) + c.kind
def cellC (L : List Cl) (at_ : Nat → Nat) (i : Nat) : List Int := hdC (clAt L i) :: (clAt L i).fs.map (wd at_)
theorem cellC_length (L : List Cl) (at_ : Nat → Nat) (i : Nat) : (cellC L at_ i).length = szC L i := by
  unfold cellC szC; rw [List.length_cons, List.length_map]; omega
theorem cells_length (L : List Cl) (at_ : Nat → Nat) : ∀ (o : List Nat), (o.flatMap (cellC L at_)).length = totS (szC L) o := by
  intro o
  induction o with
  | nil => rfl
  | cons x o ih => rw [List.flatMap_cons, List.length_append, cellC_length, ih, totS_cons]
def atC (L : List Cl) (o : List Nat) : Nat → Nat := posS (szC L) 1 o
def layT (L : List Cl) (o : List Nat) : Nat := 1 + totS (szC L) o
def layW (L : List Cl) (o : List Nat) (free : Nat) : List Int := 0 :: (o.flatMap (cellC L (atC L o)) ++ List.replicate free 0)
def layR (L : List Cl) (o : List Nat) (roots : List Fd) : List Int := roots.map (wd (atC L o))
theorem layW_length (L : List Cl) (o : List Nat) (free : Nat) : (layW L o free).length = layT L o + free := by
  unfold layW layT
  rw [List.length_cons, List.length_append, cells_length, List.length_replicate]; omega
theorem totS_len (L : List Cl) (o : List Nat) : o.length ≤ totS (szC L) o := by
  induction o with
  | nil => exact Nat.zero_le _
  | cons x o ih => rw [totS_cons, List.length_cons]; have : 0 < szC L x := (by unfold szC; omega); omega
theorem szC_pos (L : List Cl) (i : Nat) : 0 < szC L i := by unfold szC; omega
def FdOk (o : List Nat) (k : Int) (f : Fd) : Prop :=
  if k = 3 then f.refs = false ∧ letterB f.n = true else if k = 4 then f.refs = false ∧ (f.n = 0 ∨ f.n = 1) else
  (f.refs = true ∧ ∃ j ∈ o, f.n = (j : Int)) ∨ (f.refs = false ∧ (f.n = 0 ∨ (Int.tmod f.n 2 ≠ 0 ∧ -1999999999 ≤ f.n ∧ f.n ≤ 2000000001)))
structure Gr (L : List Cl) (o : List Nat) : Prop where
  nd : o.Nodup
  kind : ∀ i ∈ o, 1 ≤ (clAt L i).kind ∧ (clAt L i).kind ≤ 5
  size : ∀ i ∈ o, (clAt L i).fs.length ≤ 20
  truth : ∀ i ∈ o, (clAt L i).kind = 4 → (clAt L i).fs.length = 1
  fok : ∀ i ∈ o, ∀ f ∈ (clAt L i).fs, FdOk o (clAt L i).kind f
theorem hdC_S {c : Cl} (h1 : 1 ≤ c.kind) (h5 : c.kind ≤ 5) : hdS (hdC c) = (c.fs.length : Int) := by
  unfold hdS hdC; rw [tdiv_eq]; split <;> omega
theorem hdC_K {c : Cl} (h1 : 1 ≤ c.kind) (h5 : c.kind ≤ 5) : hdK (hdC c) = c.kind := by
  have e := Int.mul_tdiv_add_tmod (hdC c) 8
  have : Int.tdiv (hdC c) 8 = (c.fs.length : Int) := hdC_S h1 h5
  rw [this] at e
  unfold hdK
  have : hdC c = 8 * (c.fs.length : Int) + c.kind := rfl
  omega
section
variable {L : List Cl} {o : List Nat} {free : Nat} (G : Gr L o)
include G
/-- A cell of the heap. -/
theorem lay_split {i : Nat} (hi : i ∈ o) : ∃ pre post, layW L o free = pre ++ cellC L (atC L o) i ++ post ∧ pre.length = atC L o i := by
  obtain ⟨o1, o2, rfl⟩ := List.append_of_mem hi
  have hn : i ∉ o1 := fun h => by
    have := List.nodup_append.1 G.nd
    exact this.2.2 i h i (List.mem_cons_self ..) rfl
  refine ⟨0 :: o1.flatMap (cellC L (atC L (o1 ++ i :: o2))), o2.flatMap (cellC L (atC L (o1 ++ i :: o2))) ++ List.replicate free 0, ?_, ?_⟩
  · unfold layW
    rw [List.flatMap_append, List.flatMap_cons]
    simp only [List.append_assoc, List.cons_append]
  · rw [List.length_cons, cells_length]
    show _ = posS (szC L) 1 _ i
    rw [posS_at hn]; omega
theorem lay_head {i : Nat} (hi : i ∈ o) : (layW L o free).getD (atC L o i) 0 = hdC (clAt L i) := by
  obtain ⟨pre, post, e, l⟩ := lay_split (free := free) G hi
  rw [e, ← l, List.append_assoc]
  simp [cellC, List.getD]
theorem lay_size {i : Nat} (hi : i ∈ o) : szW (layW L o free) (atC L o i) = szC L i := by
  obtain ⟨h1, h2⟩ := G.kind i hi
  unfold szW szC
  rw [lay_head G hi, hdC_S h1 h2]; rfl
theorem lay_kind {i : Nat} (hi : i ∈ o) : hdK ((layW L o free).getD (atC L o i) 0) = (clAt L i).kind := by
  obtain ⟨h1, h2⟩ := G.kind i hi
  rw [lay_head G hi, hdC_K h1 h2]
theorem lay_fields {i : Nat} (hi : i ∈ o) : fieldsW (layW L o free) (atC L o i) = (clAt L i).fs.map (wd (atC L o)) := by
  obtain ⟨h1, h2⟩ := G.kind i hi
  obtain ⟨pre, post, e, l⟩ := lay_split (free := free) G hi
  unfold fieldsW
  rw [lay_head G hi, hdC_S h1 h2, e, ← l]
  have : pre ++ cellC L (atC L o) i ++ post = (pre ++ [hdC (clAt L i)]) ++ ((clAt L i).fs.map (wd (atC L o)) ++ post) := by simp [cellC]
  rw [this, List.drop_left' (by simp)]
  rw [List.take_left' (by simp)]
theorem lay_inj {i j : Nat} (hi : i ∈ o) (hj : j ∈ o) (e : atC L o i = atC L o j) : i = j := by
  have _ := G
  exact posS_inj (szC_pos L) hi e hj
theorem lay_pos {i : Nat} (hi : i ∈ o) : 1 ≤ atC L o i ∧ atC L o i + szC L i ≤ layT L o := by
  have _ := G
  exact ⟨posS_ge hi, posS_lt hi⟩
theorem lay_cellsR : ∀ (rest : List Nat) (f b : Nat) (pre post : List Int), (∀ i ∈ rest, i ∈ o) → layW L o free = pre ++ rest.flatMap (cellC L (atC L o)) ++ post → pre.length = b → b + totS (szC L) rest = layT L o → rest.length < f → cellsR (layW L o free) (layT L o) f b = some (addrS (szC L) b rest) := by
  intro rest
  induction rest with
  | nil =>
    intro f b pre post _ _ _ ht hf
    cases f with
    | zero => cases hf
    | succ f =>
      have : b = layT L o := by rw [← ht]; rfl
      unfold cellsR
      rw [if_neg (by omega), if_pos this]; rfl
  | cons i rest ih =>
    intro f b pre post hm e hl ht hf
    cases f with
    | zero => cases hf
    | succ f =>
      have hi := hm i (List.mem_cons_self ..)
      obtain ⟨h1, h2⟩ := G.kind i hi
      have h3 := G.size i hi
      rw [totS_cons] at ht
      have hs := szC_pos L i
      have hd : (layW L o free).getD b 0 = hdC (clAt L i) := by
        rw [e, ← hl, List.flatMap_cons]; simp [cellC, List.getD]
      unfold cellsR
      rw [if_pos (by omega), hd, hdC_S h1 h2, hdC_K h1 h2]
      rw [if_neg]
      · have e2 : b + 1 + ((clAt L i).fs.length : Int).toNat = b + szC L i := by unfold szC; omega
        rw [e2, ih f (b + szC L i) (pre ++ cellC L (atC L o) i) post (fun j hj => hm j (List.mem_cons_of_mem _ hj)) (by rw [e, List.flatMap_cons]; simp only [List.append_assoc]) (by rw [List.length_append, cellC_length, hl]) (by omega) (by simpa using hf)]
        rfl
      · intro hh
        rcases hh with hh | hh
        · unfold hdC at hh; omega
        · unfold goodR at hh
          simp only [Bool.and_eq_false_iff, decide_eq_false_iff_not] at hh
          omega
theorem lay_word {k : Int} {f : Fd} (hk : k ≠ 3) (hk4 : k ≠ 4) (hf : FdOk o k f) : wordR (o.map (atC L o)) (wd (atC L o) f) = true := by
  have _ := G
  unfold FdOk at hf
  rw [if_neg hk, if_neg hk4] at hf
  unfold wd
  rcases hf with ⟨h1, j, hj, e⟩ | ⟨h1, h2⟩
  · rw [if_pos h1, e]
    unfold wordR
    split
    · rfl
    · split
      · rename_i h2; exfalso; apply h2; rw [Int.mul_tmod_right]
      · rw [Int.mul_tdiv_cancel_left _ (by decide), List.contains_iff_mem]
        refine List.mem_map.2 ⟨atC L o j, List.mem_map.2 ⟨j, hj, rfl⟩, ?_⟩
        simp
  · rw [if_neg (by rw [h1]; decide)]
    unfold wordR
    split
    · rfl
    · rename_i h0
      rcases h2 with h2 | ⟨h2, h3, h4⟩
      · exact absurd h2 h0
      · rw [if_pos h2]
        simp only [Bool.and_eq_true, decide_eq_true_eq]
        exact ⟨h3, h4⟩
theorem lay_field {k : Int} {f : Fd} (hf : FdOk o k f) : fieldR (o.map (atC L o)) k (wd (atC L o) f) = true := by
  unfold fieldR
  by_cases h3 : k = 3
  · unfold FdOk at hf
    rw [if_pos h3] at hf ⊢
    unfold wd; rw [hf.1]; exact hf.2
  · by_cases h4 : k = 4
    · unfold FdOk at hf
      rw [if_neg h3, if_pos h4] at hf
      rw [if_neg h3, if_pos h4]
      unfold wd; rw [hf.1]
      rcases hf.2 with h | h <;> simp [h]
    · rw [if_neg h3, if_neg h4]
      exact lay_word G h3 h4 hf
/-- The heap is as defined, and has these cells. -/
theorem lay_check {roots : List Fd} (hr : ∀ f ∈ roots, FdOk o 1 f) (lr : roots.length ≤ 10) (hfit : layT L o + free ≤ 200) : checkP (layW L o free) (layT L o : Nat) (layR L o roots) = some (o.map (atC L o)) := by
  rw [← formed_check]
  unfold formedR
  have hl := layW_length L o free
  have hT : 1 ≤ layT L o := by unfold layT; omega
  have h0 : (layW L o free).getD 0 0 = 0 := rfl
  rw [if_neg (by rw [hl, h0]; unfold layR; rw [List.length_map]; omega)]
  have hd : (layW L o free).drop (layT L o) = List.replicate free 0 := by
    unfold layW layT
    rw [Nat.add_comm, List.drop_succ_cons, List.drop_left' (cells_length ..)]
  rw [Int.toNat_natCast, hd]
  rw [if_neg (by simp)]
  have hc := lay_cellsR (free := free) G o (layT L o + 1) 1 [0] (List.replicate free 0) (fun _ h => h) rfl rfl rfl (by have := totS_len L o; unfold layT; omega)
  rw [hc, ← addrS_map G.nd]
  show (if (cellsOk (layW L o free) (o.map (atC L o)) (o.map (atC L o)) && (layR L o roots).all (wordR (o.map (atC L o)))) = true then _ else _) = _
  rw [if_pos]
  · rfl
  rw [Bool.and_eq_true]
  constructor
  · unfold cellsOk
    rw [List.all_eq_true]
    intro p hp
    obtain ⟨i, hi, rfl⟩ := List.mem_map.1 hp
    rw [lay_kind G hi, lay_fields G hi]
    obtain ⟨h1, h2⟩ := G.kind i hi
    have h3 := G.size i hi
    unfold fieldsR
    rw [if_neg (by rw [List.length_map]; have := G.truth i hi; omega), List.all_eq_true]
    intro w hw
    obtain ⟨f, hf, rfl⟩ := List.mem_map.1 hw
    exact lay_field G (G.fok i hi f hf)
  · unfold layR
    rw [List.all_eq_true]
    intro w hw
    obtain ⟨f, hf, rfl⟩ := List.mem_map.1 hw
    exact lay_word G (by decide) (by decide) (hr f hf)
end
end Go.Proofs.YtngcjpkccnfjiaaGreatDoor
/- Plain law: a heap that is laid from cells is collected: it is laid from the cells that are reached. -/
namespace Go.Proofs.YtngcjpkccnfjiaaGreatDoor
open Go Go.Ev
/-- What a field adds to a list of cells. -/
def addC (l : List Nat) (f : Fd) : List Nat := if f.refs && !(l.contains f.n.toNat) then l ++ [f.n.toNat] else l
def withC (fs : List Fd) (l : List Nat) : List Nat := fs.foldl addC l
def strongC (L : List Cl) (i : Nat) : List Fd := if keepB (clAt L i).kind then (clAt L i).fs else []
/-- The cells that are reached, in the order of reach. -/
def reachC (L : List Cl) : Nat → Nat → List Nat → Option (List Nat)
  | 0, _, _ => none
  | f + 1, i, l => if i < l.length then reachC L f (i + 1) (withC (strongC L (l.getD i 0)) l) else some l
theorem withC_cons (f : Fd) (fs : List Fd) (l : List Nat) : withC (f :: fs) l = withC fs (addC l f) := rfl
theorem addC_nodup {l : List Nat} {f : Fd} (h : l.Nodup) : (addC l f).Nodup := by
  unfold addC
  split
  · rename_i hc
    rw [Bool.and_eq_true, Bool.not_eq_true', ← Bool.not_eq_true, List.contains_iff_mem] at hc
    rw [List.nodup_append]
    exact ⟨h, by simp, fun a ha b hb => by rw [List.mem_singleton.1 hb]; intro hh; exact hc.2 (hh ▸ ha)⟩
  · exact h
theorem addC_sub {o l : List Nat} {f : Fd} (h : ∀ i ∈ l, i ∈ o) (hf : f.refs = true → f.n.toNat ∈ o) : ∀ i ∈ addC l f, i ∈ o := by
  unfold addC
  split
  · rename_i hc
    rw [Bool.and_eq_true] at hc
    intro i hi
    rcases List.mem_append.1 hi with hi | hi
    · exact h i hi
    · rw [List.mem_singleton.1 hi]; exact hf hc.1
  · exact h
theorem withC_inv {o : List Nat} : ∀ {fs : List Fd} {l : List Nat}, l.Nodup → (∀ i ∈ l, i ∈ o) → (∀ f ∈ fs, f.refs = true → f.n.toNat ∈ o) → (withC fs l).Nodup ∧ ∀ i ∈ withC fs l, i ∈ o := by
  intro fs
  induction fs with
  | nil => intro l h1 h2 _; exact ⟨h1, h2⟩
  | cons f fs ih =>
    intro l h1 h2 h3
    rw [withC_cons]
    exact ih (addC_nodup h1) (addC_sub h2 (h3 f (List.mem_cons_self ..))) fun g hg => h3 g (List.mem_cons_of_mem _ hg)
theorem addC_mem (l : List Nat) (f : Fd) : (∀ i ∈ l, i ∈ addC l f) ∧ (f.refs = true → f.n.toNat ∈ addC l f) := by
  unfold addC
  split
  · exact ⟨fun i hi => List.mem_append.2 (.inl hi), fun _ => List.mem_append.2 (.inr (List.mem_singleton.2 rfl))⟩
  · rename_i hc
    refine ⟨fun i hi => hi, fun h => ?_⟩
    rw [h, Bool.true_and, Bool.not_eq_true', ← Bool.not_eq_true, List.contains_iff_mem] at hc
    exact Classical.not_not.1 hc
theorem withC_mem : ∀ (fs : List Fd) (l : List Nat), (∀ i ∈ l, i ∈ withC fs l) ∧ ∀ f ∈ fs, f.refs = true → f.n.toNat ∈ withC fs l := by
  intro fs
  induction fs with
  | nil => intro l; exact ⟨fun _ h => h, fun _ h => by cases h⟩
  | cons g fs ih =>
    intro l
    obtain ⟨a, b⟩ := ih (addC l g)
    obtain ⟨c, d⟩ := addC_mem l g
    refine ⟨fun i hi => a i (c i hi), fun f hf hr => ?_⟩
    rcases List.mem_cons.1 hf with rfl | hf
    · exact a _ (d hr)
    · exact b f hf hr
theorem withC_pre : ∀ (fs : List Fd) (l : List Nat), ∃ e, withC fs l = l ++ e := by
  intro fs
  induction fs with
  | nil => intro l; exact ⟨[], (List.append_nil l).symm⟩
  | cons f fs ih =>
    intro l
    rw [withC_cons]
    obtain ⟨e, he⟩ := ih (addC l f)
    rw [he]
    unfold addC
    split
    · exact ⟨[f.n.toNat] ++ e, by rw [List.append_assoc]⟩
    · exact ⟨e, rfl⟩
theorem nodup_len {o : List Nat} : ∀ {l : List Nat}, l.Nodup → (∀ i ∈ l, i ∈ o) → l.length ≤ o.length := fun {l} h1 h2 => by
  induction l generalizing o with
  | nil => exact Nat.zero_le _
  | cons x l ih =>
    obtain ⟨a, b⟩ := List.nodup_cons.1 h1
    have hx := h2 x (List.mem_cons_self ..)
    have := ih (o := o.erase x) b fun i hi => (List.mem_erase_of_ne (fun hh => by subst hh; exact a hi)).2 (h2 i (List.mem_cons_of_mem _ hi))
    rw [List.length_erase_of_mem hx] at this
    have : 0 < o.length := List.length_pos_of_mem hx
    rw [List.length_cons]; omega
/-- Everything that is reached is reached: the list is closed. -/
theorem reachC_some {L : List Cl} {o : List Nat} (hc : ∀ i ∈ o, ∀ f ∈ strongC L i, f.refs = true → f.n.toNat ∈ o) : ∀ (d f i : Nat) (l : List Nat), o.length + 1 ≤ d + i → d ≤ f → i ≤ l.length → l.Nodup → (∀ i ∈ l, i ∈ o) → (∀ k, k < i → ∀ f ∈ strongC L (l.getD k 0), f.refs = true → f.n.toNat ∈ l) →
    ∃ r e, reachC L f i l = some r ∧ r = l ++ e ∧ r.Nodup ∧ (∀ i ∈ r, i ∈ o) ∧ ∀ i ∈ r, ∀ f ∈ strongC L i, f.refs = true → f.n.toNat ∈ r := by
  intro d
  induction d with
  | zero =>
    intro f i l h1 _ h3 h4 h5 _
    have := nodup_len h4 h5
    omega
  | succ d ih =>
    intro f i l h1 h2 h3 h4 h5 h6
    cases f with
    | zero => omega
    | succ f =>
      unfold reachC
      by_cases hi : i < l.length
      · rw [if_pos hi]
        have hli : l.getD i 0 ∈ l := by rw [List.getD, List.getElem?_eq_getElem hi]; exact List.getElem_mem hi
        obtain ⟨a, b⟩ := withC_inv (fs := strongC L (l.getD i 0)) h4 h5 (hc _ (h5 _ hli))
        obtain ⟨e1, he1⟩ := withC_pre (strongC L (l.getD i 0)) l
        obtain ⟨m1, m2⟩ := withC_mem (strongC L (l.getD i 0)) l
        have hgd : ∀ k, k < l.length → (withC (strongC L (l.getD i 0)) l).getD k 0 = l.getD k 0 := fun k hk => by
          rw [he1, List.getD, List.getElem?_append_left hk]; rfl
        obtain ⟨r, e, r1, r2, r3⟩ := ih f (i + 1) _ (by omega) (by omega) (by rw [he1, List.length_append]; omega) a b (fun k hk g hg hr => by
          by_cases hki : k < i
          · rw [hgd k (by omega)] at hg
            exact m1 _ (h6 k hki g hg hr)
          · have : k = i := by omega
            subst this
            rw [hgd k hi] at hg
            exact m2 g hg hr)
        refine ⟨r, e1 ++ e, r1, by rw [r2, he1, List.append_assoc], r3⟩
      · rw [if_neg hi]
        refine ⟨l, [], rfl, (List.append_nil l).symm, h4, h5, fun j hj g hg hr => ?_⟩
        obtain ⟨k, hk, rfl⟩ := List.mem_iff_getElem.1 hj
        refine h6 k (by omega) g ?_ hr
        rw [List.getD, List.getElem?_eq_getElem hk]; exact hg
section
variable {L : List Cl} {o : List Nat} {free : Nat} (G : Gr L o)
include G
theorem FdOk.mem {k : Int} {f : Fd} (hf : FdOk o k f) (hr : f.refs = true) : f.n.toNat ∈ o ∧ f.n = (f.n.toNat : Int) := by
  have _ := G
  unfold FdOk at hf
  split at hf
  · rw [hf.1] at hr; cases hr
  · split at hf
    · rw [hf.1] at hr; cases hr
    · rcases hf with ⟨_, j, hj, e⟩ | ⟨h, _⟩
      · rw [e]; exact ⟨hj, rfl⟩
      · rw [h] at hr; cases hr
theorem lay_with {k : Int} (hk : k ≠ 3) (hk4 : k ≠ 4) : ∀ (fs : List Fd) (l : List Nat), (∀ f ∈ fs, FdOk o k f) → (∀ i ∈ l, i ∈ o) → withP 1 (fs.map (wd (atC L o))) (l.map (atC L o)) = (withC fs l).map (atC L o) := by
  intro fs
  induction fs with
  | nil => intro l _ _; rfl
  | cons f fs ih =>
    intro l hf hl
    have hf0 := hf f (List.mem_cons_self ..)
    have hfs : ∀ g ∈ fs, FdOk o k g := fun g hg => hf g (List.mem_cons_of_mem _ hg)
    rw [withC_cons, List.map_cons]
    unfold withP
    cases hr : f.refs with
    | false =>
      have e1 : addC l f = l := by unfold addC; rw [hr]; rfl
      rw [e1]
      have e2 : refd (wd (atC L o) f) = 0 := by
        unfold FdOk at hf0
        rw [if_neg hk, if_neg hk4] at hf0
        rw [wd_n hr]
        unfold refd
        rcases hf0 with ⟨h, _⟩ | ⟨_, h | ⟨h, _⟩⟩
        · rw [hr] at h; cases h
        · rw [h]; rfl
        · rw [if_pos h]
      rw [if_pos (by rw [e2]; decide)]
      exact ih l hfs hl
    | true =>
      obtain ⟨hm, he⟩ := FdOk.mem G hf0 hr
      have hp := lay_pos G hm
      have e2 : refd (wd (atC L o) f) = (atC L o f.n.toNat : Int) := by
        unfold wd refd
        rw [if_pos hr, if_neg (by rw [Int.mul_tmod_right]; decide), Int.mul_tdiv_cancel_left _ (by decide)]
      rw [e2, if_neg (by show ¬ ((atC L o f.n.toNat : Int) < 1); omega)]
      have hc : ((l.map (atC L o)).map Int.ofNat).contains (atC L o f.n.toNat : Int) = l.contains f.n.toNat := by
        rw [Bool.eq_iff_iff, List.contains_iff_mem, List.contains_iff_mem]
        constructor
        · intro h
          obtain ⟨a, ha, e⟩ := List.mem_map.1 h
          obtain ⟨j, hj, rfl⟩ := List.mem_map.1 ha
          have : atC L o j = atC L o f.n.toNat := Int.ofNat_inj.1 e
          rw [← lay_inj G (hl j hj) hm this]; exact hj
        · intro h
          exact List.mem_map.2 ⟨_, List.mem_map.2 ⟨_, h, rfl⟩, rfl⟩
      rw [hc]
      cases hq : l.contains f.n.toNat with
      | true =>
        have e1 : addC l f = l := by unfold addC; rw [hr, hq]; rfl
        rw [if_pos rfl, e1]
        exact ih l hfs hl
      | false =>
        have e1 : addC l f = l ++ [f.n.toNat] := by unfold addC; rw [hr, hq]; rfl
        rw [if_neg (by decide), e1]
        have e3 : l.map (atC L o) ++ [((atC L o f.n.toNat : Nat) : Int).toNat] = (l ++ [f.n.toNat]).map (atC L o) := by rw [List.map_append]; rfl
        rw [e3]
        exact ih _ hfs fun i hi => by
          rcases List.mem_append.1 hi with hi | hi
          · exact hl i hi
          · rw [List.mem_singleton.1 hi]; exact hm
theorem strong_ok {i : Nat} (hi : i ∈ o) : (∀ f ∈ strongC L i, FdOk o 1 f) ∧ strongP (layW L o free) (atC L o i) = (strongC L i).map (wd (atC L o)) := by
  unfold strongC strongP
  rw [lay_kind G hi, lay_fields G hi]
  cases hk : keepB (clAt L i).kind with
  | false => exact ⟨fun f hf => by simp at hf, by simp⟩
  | true =>
    rw [if_pos rfl, if_pos rfl]
    refine ⟨fun f hf => ?_, rfl⟩
    have := G.fok i hi f hf
    unfold FdOk at this ⊢
    unfold keepB at hk
    have h3 : (clAt L i).kind ≠ 3 := fun h => by rw [h] at hk; cases hk
    have h4 : (clAt L i).kind ≠ 4 := fun h => by rw [h] at hk; cases hk
    rw [if_neg h3, if_neg h4] at this
    rw [if_neg (by decide), if_neg (by decide)]
    exact this
theorem lay_cellAt {i : Nat} (hi : i ∈ o) : CellAt (layW L o free) (atC L o i) := by
  have hp := lay_pos G hi
  have hl := layW_length L o free
  obtain ⟨h1, h2⟩ := G.kind i hi
  have h3 := G.size i hi
  have hz : szC L i = 1 + (clAt L i).fs.length := rfl
  unfold CellAt
  rw [lay_head G hi, hdC_S h1 h2, hl]
  refine ⟨by omega, by unfold hdC; omega, by omega, by rw [Int.toNat_natCast]; omega⟩
theorem lay_reach (hfit : layT L o ≤ 1000) : ∀ (f i : Nat) (l : List Nat), l.Nodup → (∀ i ∈ l, i ∈ o) → reachO (layW L o free) 1 f i (l.map (atC L o)) = (reachC L f i l).map (fun r => r.map (atC L o)) := by
  intro f
  induction f with
  | zero => intro i l _ _; rfl
  | succ f ih =>
    intro i l hn hl
    unfold reachO reachC
    rw [List.length_map]
    by_cases hi : i < l.length
    · rw [if_pos hi, if_pos hi]
      have hli : l.getD i 0 ∈ l := by rw [List.getD, List.getElem?_eq_getElem hi]; exact List.getElem_mem hi
      have hg : (l.map (atC L o)).getD i 0 = atC L o (l.getD i 0) := by
        rw [List.getD, List.getElem?_map, List.getD, List.getElem?_eq_getElem hi]; rfl
      rw [hg]
      obtain ⟨s1, s2⟩ := strong_ok (free := free) G (hl _ hli)
      have hlen := nodup_len hn hl
      have := totS_len L o
      have ht : layT L o = 1 + totS (szC L) o := rfl
      rw [if_pos ⟨lay_cellAt G (hl _ hli), by omega⟩, s2, lay_with G (by decide) (by decide) _ _ s1 hl]
      obtain ⟨a, b⟩ := withC_inv (fs := strongC L (l.getD i 0)) hn hl fun f hf hr => (FdOk.mem G (s1 f hf) hr).1
      exact ih (i + 1) _ a b
    · rw [if_neg hi, if_neg hi]; rfl
theorem strong_closed : ∀ i ∈ o, ∀ f ∈ strongC L i, f.refs = true → f.n.toNat ∈ o := fun _ hi f hf hr => (FdOk.mem G ((strong_ok (free := 0) G hi).1 f hf) hr).1
end
/-- Cells without the references of weak cells to others. -/
def prunedF (kept : List Nat) (k : Int) (f : Fd) : Fd := if f.refs && !(kept.contains f.n.toNat) && k == 5 then ⟨0, false⟩ else f
def prunedC (kept : List Nat) (c : Cl) : Cl := ⟨c.kind, c.fs.map (prunedF kept c.kind)⟩
def prunedL (L : List Cl) (kept : List Nat) : List Cl := L.map (prunedC kept)
theorem pruned_at (L : List Cl) (kept : List Nat) (i : Nat) : clAt (prunedL L kept) i = prunedC kept (clAt L i) := by
  unfold clAt prunedL
  rw [List.getD, List.getElem?_map, List.getD]
  cases L[i]? <;> rfl
theorem pruned_sz (L : List Cl) (kept : List Nat) : szC (prunedL L kept) = szC L := by
  funext i
  unfold szC
  rw [pruned_at]
  show 1 + ((clAt L i).fs.map _).length = _
  rw [List.length_map]
theorem pruned_hd (kept : List Nat) (c : Cl) : hdC (prunedC kept c) = hdC c := by
  show 8 * (((c.fs.map _).length : Nat) : Int) + c.kind = _
  rw [List.length_map]; rfl
section
variable {L : List Cl} {o : List Nat} {free : Nat} (G : Gr L o) {kept : List Nat} (hs : ∀ i ∈ kept, i ∈ o)
include G hs
/-- Where a cell that is kept comes to lie. -/
theorem lay_posF {j : Nat} (hj : j ∈ o) : posF (layW L o free) 1 (kept.map (atC L o)) (atC L o j) = atC (prunedL L kept) kept j := by
  rw [posF_S, posS_map fun i hi e => lay_inj G (hs i hi) hj e]
  unfold atC
  rw [pruned_sz]
  exact posS_congr fun i hi => lay_size G (hs i hi)
theorem lay_totalW : 1 + totalW (layW L o free) (kept.map (atC L o)) = layT (prunedL L kept) kept := by
  show 1 + totS (szW _) (kept.map (atC L o)) = 1 + totS (szC (prunedL L kept)) kept
  rw [totS_map, pruned_sz]
  rw [totS_congr fun i hi => lay_size G (hs i hi)]
/-- What a word becomes. -/
theorem lay_mvw {k k' : Int} {f : Fd} (hk : k ≠ 3) (hk4 : k ≠ 4) (hf : FdOk o k f) : mvw (layW L o free) 1 (kept.map (atC L o)) (wd (atC L o) f) = wd (atC (prunedL L kept) kept) (prunedF kept k' f) := by
  cases hr : f.refs with
  | false =>
    have e1 : prunedF kept k' f = f := by unfold prunedF; rw [hr]; rfl
    rw [e1]
    unfold FdOk at hf
    rw [if_neg hk, if_neg hk4] at hf
    rw [wd_n hr, wd_n hr]
    unfold mvw
    rcases hf with ⟨h, _⟩ | ⟨_, h | ⟨h, _⟩⟩
    · rw [hr] at h; cases h
    · rw [h]; rfl
    · rw [if_pos h]
  | true =>
    obtain ⟨hm, he⟩ := FdOk.mem G hf hr
    have hp := lay_pos G hm
    have e0 : wd (atC L o) f = 2 * (atC L o f.n.toNat : Int) := by unfold wd; rw [if_pos hr]
    rw [e0]
    unfold mvw
    rw [if_neg (by rw [Int.mul_tmod_right]; decide), Int.mul_tdiv_cancel_left _ (by decide), if_neg (by show ¬ ((atC L o f.n.toNat : Int) < 1); omega), Int.toNat_natCast, lay_posF G hs hm]
    by_cases hc : (f.refs && !(kept.contains f.n.toNat) && k' == 5) = true
    · have e1 : prunedF kept k' f = ⟨0, false⟩ := by unfold prunedF; rw [if_pos hc]
      rw [e1]
      rw [Bool.and_eq_true, Bool.and_eq_true, Bool.not_eq_true', ← Bool.not_eq_true, List.contains_iff_mem] at hc
      have : atC (prunedL L kept) kept f.n.toNat = 0 := posS_not hc.1.2
      rw [this]; rfl
    · have e1 : prunedF kept k' f = f := by unfold prunedF; rw [if_neg hc]
      rw [e1]
      unfold wd; rw [if_pos hr]
theorem lay_cellF {i : Nat} (hi : i ∈ o) : cellF (layW L o free) 1 (kept.map (atC L o)) (atC L o i) = cellC (prunedL L kept) (atC (prunedL L kept) kept) i := by
  unfold cellF cellC
  rw [lay_kind G hi, lay_head G hi, lay_fields G hi, pruned_at, pruned_hd]
  congr 1
  show _ = ((clAt L i).fs.map (prunedF kept (clAt L i).kind)).map (wd _)
  rw [List.map_map]
  cases hk : refB (clAt L i).kind with
  | true =>
    rw [if_pos rfl, List.map_map]
    refine List.map_congr_left fun f hf => ?_
    have h3 : (clAt L i).kind ≠ 3 := fun h => by rw [h] at hk; cases hk
    have h4 : (clAt L i).kind ≠ 4 := fun h => by rw [h] at hk; cases hk
    exact lay_mvw G hs h3 h4 (G.fok i hi f hf)
  | false =>
    rw [if_neg (by decide), List.map_map]
    refine List.map_congr_left fun f hf => ?_
    have hf0 := G.fok i hi f hf
    have hr : f.refs = false := by
      have hkk := G.kind i hi
      unfold FdOk at hf0
      split at hf0
      · exact hf0.1
      · split at hf0
        · exact hf0.1
        · exfalso
          unfold refB keepB at hk
          simp at hk
          omega
    show wd _ f = wd _ (prunedF kept _ f)
    have e1 : prunedF kept (clAt L i).kind f = f := by unfold prunedF; rw [hr]; rfl
    rw [e1]
    unfold wd; rw [hr]; rfl
theorem lay_cellFs : ∀ (q : List Nat), (∀ i ∈ q, i ∈ o) → (q.map (atC L o)).flatMap (cellF (layW L o free) 1 (kept.map (atC L o))) = q.flatMap (cellC (prunedL L kept) (atC (prunedL L kept) kept)) := by
  intro q
  induction q with
  | nil => intro _; rfl
  | cons i q ih =>
    intro hq
    rw [List.map_cons, List.flatMap_cons, List.flatMap_cons, lay_cellF G hs (hq i (List.mem_cons_self ..)), ih fun j hj => hq j (List.mem_cons_of_mem _ hj)]
theorem lay_roots {roots : List Fd} (hr : ∀ f ∈ roots, FdOk o 1 f) : (layR L o roots).map (mvw (layW L o free) 1 (kept.map (atC L o))) = layR (prunedL L kept) kept roots := by
  unfold layR
  rw [List.map_map]
  refine List.map_congr_left fun f hf => ?_
  have := lay_mvw (free := free) (k' := 1) G hs (by decide) (by decide) (hr f hf)
  show mvw _ _ _ (wd _ f) = _
  rw [this]
  have e1 : prunedF kept 1 f = f := by unfold prunedF; rw [show ((1 : Int) == 5) = false from rfl, Bool.and_false]; rfl
  rw [e1]
end
/-- A heap that is laid is collected. -/
theorem lay_collect {L : List Cl} {o : List Nat} {free : Nat} (G : Gr L o) {roots more : List Fd} (hr : ∀ f ∈ roots, FdOk o 1 f) (hm : ∀ f ∈ more, FdOk o 1 f) (lr : roots.length ≤ 10) (hfit : layT L o + free ≤ 200) :
    ∃ kept s, (∀ f, o.length + 1 ≤ f → reachC L f 0 (withC (roots ++ more) []) = some kept) ∧ kept.Nodup ∧ (∀ i ∈ kept, i ∈ o) ∧ (∀ i ∈ kept, ∀ f ∈ strongC L i, f.refs = true → f.n.toNat ∈ kept) ∧ (∀ f ∈ roots ++ more, f.refs = true → f.n.toNat ∈ kept) ∧
      runO (layW L o free) 1 (layR L o roots) (layR L o more) = some (s, layR (prunedL L kept) kept roots, layR (prunedL L kept) kept more) ∧ s.ord = kept.map (atC L o) ∧ layT (prunedL L kept) kept ≤ layT L o ∧ s.top = layT (prunedL L kept) kept ∧ s.D = layW (prunedL L kept) kept (layT L o + free - layT (prunedL L kept) kept) ∧ ∀ i ∈ o, s.T.getD (atC L o i) 0 = atC (prunedL L kept) kept i := by
  have hW := layW_length L o free
  have hT : 1 ≤ layT L o := by unfold layT; omega
  have hcl := strong_closed G
  obtain ⟨w1, w2⟩ := withC_inv (o := o) (fs := roots ++ more) (l := []) List.nodup_nil (fun i h => by cases h) fun f hf hrf => by
    rcases List.mem_append.1 hf with hf | hf
    · exact (FdOk.mem G (hr f hf) hrf).1
    · exact (FdOk.mem G (hm f hf) hrf).1
  obtain ⟨kept, e, k1, k2, k3, k4, k5⟩ := reachC_some hcl (o.length + 1) (o.length + 1) 0 _ (by omega) (Nat.le_refl _) (Nat.zero_le _) w1 w2 fun k hk => by omega
  have hany : ∀ f, o.length + 1 ≤ f → reachC L f 0 (withC (roots ++ more) []) = some kept := fun f hf => by
    obtain ⟨kept', e', k1', k2', k3', k4', k5'⟩ := reachC_some hcl (o.length + 1) f 0 _ (by omega) hf (Nat.zero_le _) w1 w2 fun k hk => by omega
    have mono : ∀ (f i : Nat) (l r : List Nat), reachC L f i l = some r → reachC L (f + 1) i l = some r := by
      intro f
      induction f with
      | zero => intro i l r h; cases h
      | succ f ih =>
        intro i l r h
        unfold reachC at h ⊢
        split at h
        · rename_i hc; rw [if_pos hc]; exact ih _ _ _ h
        · rename_i hc; rw [if_neg hc]; exact h
    obtain ⟨d, rfl⟩ := Nat.exists_eq_add_of_le hf
    clear k1' k2' k3' k4' k5' hf
    induction d with
    | zero => exact k1
    | succ d ih => exact mono _ _ _ _ ih
  have hchk := lay_check G hr lr hfit
  obtain ⟨C, hR⟩ := col_of hchk
  rw [Int.toNat_natCast] at C
  have hVw : ∀ f, FdOk o 1 f → Vw (o.map (atC L o)) (wd (atC L o) f) := fun f hf => Vw.of (lay_word G (by decide) (by decide) hf)
  obtain ⟨s, h1, h2, h3⟩ := run_all C (by omega) (by omega) (R := layR L o roots) (more := layR L o more) (fun w hw => hR w hw) fun w hw => by
    obtain ⟨f, hf, rfl⟩ := List.mem_map.1 hw
    exact hVw f (hm f hf)
  have hord : s.ord = kept.map (atC L o) := by
    have e1 : layR L o roots ++ layR L o more = (roots ++ more).map (wd (atC L o)) := by unfold layR; rw [List.map_append]
    have e2 := lay_with G (k := 1) (by decide) (by decide) (roots ++ more) [] (fun f hf => by
      rcases List.mem_append.1 hf with hf | hf
      · exact hr f hf
      · exact hm f hf) (fun i h => by cases h)
    rw [e1, show ([] : List Nat) = ([] : List Nat).map (atC L o) from rfl, e2, lay_reach G (by omega) _ _ _ w1 w2, hany _ (by have := totS_len L o; unfold layT at hW; omega)] at h2
    exact (Option.some.inj h2).symm
  have hfit2 := C.fit h3
  have htop : s.top = layT (prunedL L kept) kept := by rw [h3.top, hord, lay_totalW G k4]
  refine ⟨kept, s, hany, k3, k4, k5, fun f hf hrf => ?_, ?_, hord, by omega, htop, ?_, fun i hi => ?_⟩
  · rw [k2]; exact List.mem_append.2 (.inl ((withC_mem (roots ++ more) []).2 f hf hrf))
  · rw [h1, hord, lay_roots G k4 hr, lay_roots G k4 hm]
  · rw [h3.D, hord, lay_cellFs G k4 kept k4, hW, htop]
    unfold layW
    rw [List.take_succ_cons]
    rfl
  · rw [h3.T _ (by have := lay_pos G hi; have := szC_pos L i; omega), hord, lay_posF G k4 hi]
end Go.Proofs.YtngcjpkccnfjiaaGreatDoor
/- What is known of a memory: who has which objects. A step of the code changes one's own alone. -/
namespace Go.Ev
open Go
/-- From one memory to a later one: of what there was some objects alone change. -/
structure Ch (S : Nat → Prop) (h h' : Hp) : Prop where
  get : ∀ o, o < h.nx → ¬ S o → h'.get o = h.get o
  nx : h.nx ≤ h'.nx
  gd : h'.gd = h.gd
  fr : h.Fresh → h'.Fresh
theorem Ch.refl (S : Nat → Prop) (h : Hp) : Ch S h h := ⟨fun _ _ _ => rfl, Nat.le_refl _, rfl, id⟩
theorem Ch.trans {S : Nat → Prop} {h h' h'' : Hp} (a : Ch S h h') (b : Ch S h' h'') : Ch S h h'' := ⟨fun o ho hS => (b.get o (Nat.lt_of_lt_of_le ho a.nx) hS).trans (a.get o ho hS), Nat.le_trans a.nx b.nx, b.gd.trans a.gd, fun f => b.fr (a.fr f)⟩
theorem Ch.low {S : Nat → Prop} {h h' : Hp} {n : Nat} (a : Ch S h h') (hn : n ≤ h.nx) (hs : ∀ o, S o → n ≤ o) : Kp n h h' := ⟨fun o ho => a.get o (by omega) (fun h => by have := hs o h; omega), a.nx, a.gd, a.fr⟩
theorem Ch.wr (h : Hp) (b off : Nat) (vs : List Value) : Ch (fun o => o = b) h (h.wr b off vs) := ⟨fun _ _ hne => wr_get_ne _ _ _ _ hne, by rw [nx_wr]; exact Nat.le_refl _, gd_wr .., fun f => f.wr _ _ _⟩
/-- Something that somebody has: objects, and what is so of them. -/
structure Rs where
  own : Nat → Prop
  P : Hp → Prop
/-- It speaks of its own objects alone. -/
def Rs.Loc (r : Rs) : Prop := ∀ h h' : Hp, h.nx ≤ h'.nx → (∀ b, r.own b → h'.get b = h.get b) → r.P h → r.P h'
/-- An object. -/
def ob (b : Nat) (x : Ob) : Rs := ⟨fun o => o = b, fun h => h.get b = some x⟩
theorem ob.loc (b : Nat) (x : Ob) : (ob b x).Loc := fun _ _ _ h e => (h b rfl).trans e
/-- A list that grows. -/
def acc (lo : Nat) (e : TypeId) (esz : Nat) (a : Option Addr) (n c : Nat) (xs : List Value) : Rs := ⟨fun o => a = some ⟨o, 0, none⟩, fun h => AccE h lo e esz a n c xs⟩
theorem acc.loc (lo : Nat) (e : TypeId) (esz : Nat) (a : Option Addr) (n c : Nat) (xs : List Value) : (acc lo e esz a n c xs).Loc := fun _ _ hn h A => A.keep (fun o _ ha => h o ha) hn
/-- Numbers that are laid aside. -/
def hole (lo k : Nat) (used : List Nat) : Rs := ⟨fun o => lo ≤ o ∧ o < lo + k ∧ o ∉ used, fun h => ∀ o, lo ≤ o → o < lo + k → o ∉ used → h.get o = none⟩
theorem hole.loc (lo k : Nat) (used : List Nat) : (hole lo k used).Loc := fun _ _ _ h e o h1 h2 h3 => (h o ⟨h1, h2, h3⟩).trans (e o h1 h2 h3)
/-- What is known of a memory that began as another one. -/
structure Know (h0 g : Hp) (L : List Rs) : Prop where
  ok : g.Ok
  kp : Kp h0.nx h0 g
  at_ : ∀ r ∈ L, r.Loc ∧ r.P g ∧ ∀ b, r.own b → h0.nx ≤ b ∧ b < g.nx
  dis : L.Pairwise (fun r s => ∀ b, r.own b → ¬ s.own b)
  ok0 : h0.Ok
section
variable {h0 g : Hp} {L : List Rs}
theorem Know.nil (ok : g.Ok) : Know g g [] := ⟨ok, Kp.refl _ _, fun _ h => (by cases h), .nil, ok⟩
theorem Know.ft (S : Know h0 g L) : Ft h0 g := S.kp.ex (Nat.le_refl _)
theorem Know.len (_ : Know h0 g L) {i : Nat} {r : Rs} (hi : L[i]? = some r) : i < L.length := (List.getElem?_eq_some_iff.1 hi).1
theorem Know.lo (S : Know h0 g L) : h0.nx ≤ g.nx := S.kp.nx
theorem Know.gl (S : Know h0 g L) : GdLt g h0.nx := fun q hq => by rw [S.kp.gd] at hq; exact S.ok0.gd q hq
theorem Know.get (S : Know h0 g L) (i : Nat) {r : Rs} (hi : L[i]? = some r) : r.P g := (S.at_ r (List.mem_of_getElem? hi)).2.1
theorem Know.obj (S : Know h0 g L) (i : Nat) {b : Nat} {x : Ob} (hi : L[i]? = some (ob b x)) : g.get b = some x := S.get i hi
theorem Know.rng (S : Know h0 g L) (i : Nat) {r : Rs} (hi : L[i]? = some r) : ∀ b, r.own b → h0.nx ≤ b ∧ b < g.nx := (S.at_ r (List.mem_of_getElem? hi)).2.2
theorem Know.orng (S : Know h0 g L) (i : Nat) {b : Nat} {x : Ob} (hi : L[i]? = some (ob b x)) : h0.nx ≤ b ∧ b < g.nx := S.rng i hi b rfl
theorem Know.arng (S : Know h0 g L) (i : Nat) {lo : Nat} {e : TypeId} {esz : Nat} {a : Option Addr} {n c : Nat} {xs : List Value} (hi : L[i]? = some (acc lo e esz a n c xs)) {o : Nat} (ha : a = some ⟨o, 0, none⟩) : h0.nx ≤ o ∧ o < g.nx := S.rng i hi o ha
theorem pw_get {α : Type} {R : α → α → Prop} (hs : ∀ a b, R a b → R b a) : ∀ {l : List α}, l.Pairwise R → ∀ {i j : Nat} {x y : α}, l[i]? = some x → l[j]? = some y → i ≠ j → R x y := by
  intro l
  induction l with
  | nil => intro _ i j x y h; cases h
  | cons a l ih =>
    intro hp i j x y hx hy hij
    obtain ⟨p1, p2⟩ := List.pairwise_cons.1 hp
    cases i with
    | zero =>
      cases j with
      | zero => exact absurd rfl hij
      | succ j => obtain rfl := Option.some.inj hx; exact p1 y (List.mem_of_getElem? (i := j) hy)
    | succ i =>
      cases j with
      | zero => obtain rfl := Option.some.inj hy; exact hs _ _ (p1 x (List.mem_of_getElem? (i := i) hx))
      | succ j => exact ih p2 (i := i) (j := j) hx hy (by omega)
theorem Know.sep (S : Know h0 g L) (i j : Nat) {r s : Rs} (hi : L[i]? = some r) (hj : L[j]? = some s) (hij : i ≠ j) : ∀ b, r.own b → ¬ s.own b :=
  pw_get (fun _ _ h b hb ha => h b ha hb) S.dis hi hj hij
theorem Know.ne (S : Know h0 g L) (i j : Nat) {b c : Nat} {x y : Ob} (hi : L[i]? = some (ob b x)) (hj : L[j]? = some (ob c y)) (hij : i ≠ j) : b ≠ c := fun h => S.sep i j hi hj hij b rfl h
/-- A new object. -/
theorem Know.add (S : Know h0 g L) (x : Ob) : Know h0 (g.add x) (ob g.nx x :: L) := by
  refine ⟨S.ok.add x, S.kp.add S.lo x, fun r hr => ?_, List.pairwise_cons.2 ⟨fun r hr b hb hrb => ?_, S.dis⟩, S.ok0⟩
  · rcases List.mem_cons.1 hr with rfl | hr
    · exact ⟨ob.loc _ _, get_add_same .., fun b hb => by cases hb; rw [nx_add]; have := S.lo; omega⟩
    · obtain ⟨h1, h2, h3⟩ := S.at_ r hr
      exact ⟨h1, h1 g _ (by rw [nx_add]; omega) (fun b hb => get_add_ne (by have := h3 b hb; omega)) h2, fun b hb => by rw [nx_add]; have := h3 b hb; omega⟩
  · have := (S.at_ r hr).2.2 b hrb
    cases hb; omega
/-- Memory goes on. -/
theorem Know.call (S : Know h0 g L) {g' : Hp} (k : Kp g.nx g g') : Know h0 g' L :=
  ⟨S.ok.kp k, S.kp.trans (k.le S.lo), fun r hr => let ⟨h1, h2, h3⟩ := S.at_ r hr; ⟨h1, h1 g g' k.nx (fun b hb => k.get b (h3 b hb).2) h2, fun b hb => by have := h3 b hb; have := k.nx; omega⟩, S.dis, S.ok0⟩
theorem Know.rsv (S : Know h0 g L) (k : Nat) : Know h0 (g.rsv k) L := S.call ((Kp.refl _ g).rsv k)
/-- Memory goes on while some must not be written. -/
theorem Know.callg (S : Know h0 g L) {l : List Nat} {h' : Hp} (k : Kp g.nx (g.grd l) h') : Know h0 (h'.rst g) L := S.call ⟨k.get, k.nx, rfl, fun f => k.fr f⟩
theorem Know.okg (S : Know h0 g L) {l : List Nat} (hl : ∀ q ∈ l, q < g.nx) : (g.grd l).Ok := S.ok.grd hl
/-- One changes. -/
theorem Know.upd (S : Know h0 g L) (i : Nat) {r r' : Rs} (hi : L[i]? = some r) {g' : Hp} (k : Ch r.own g g') (hl : r'.Loc) (hP : r'.P g') (ho : ∀ b, r'.own b → r.own b ∨ (g.nx ≤ b ∧ b < g'.nx)) : Know h0 g' (L.set i r') := by
  have hr := S.rng i hi
  have hi' : i < L.length := (List.getElem?_eq_some_iff.1 hi).1
  have ho' : ∀ b, r'.own b → h0.nx ≤ b ∧ b < g'.nx := fun b hb => by
    rcases ho b hb with h | h
    · have := hr b h; have := k.nx; omega
    · have := S.lo; omega
  refine ⟨⟨fun q hq => by rw [k.gd] at hq; exact Nat.lt_of_lt_of_le (S.ok.gd q hq) k.nx, k.fr S.ok.fr⟩, S.kp.trans (k.low S.lo fun o h => (hr o h).1), fun s hs => ?_, ?_, S.ok0⟩
  · obtain ⟨j, hj⟩ := List.mem_iff_getElem?.1 hs
    by_cases hij : i = j
    · subst hij
      rw [List.getElem?_set_self hi'] at hj
      obtain rfl := Option.some.inj hj
      exact ⟨hl, hP, ho'⟩
    · rw [List.getElem?_set_ne hij] at hj
      obtain ⟨h1, h2, h3⟩ := S.at_ s (List.mem_of_getElem? hj)
      exact ⟨h1, h1 g g' k.nx (fun b hb => k.get b (h3 b hb).2 fun h => S.sep i j hi hj hij b h hb) h2, fun b hb => by have := h3 b hb; have := k.nx; omega⟩
  · rw [List.pairwise_iff_getElem]
    intro a b ha hb hab
    rw [List.length_set] at ha hb
    have key : ∀ j s, i ≠ j → L[j]? = some s → ∀ q, r'.own q → ¬ s.own q := fun j s hij hj q hq hs => by
      rcases ho q hq with h | h
      · exact S.sep i j hi hj hij q h hs
      · have := (S.at_ s (List.mem_of_getElem? hj)).2.2 q hs; omega
    rw [List.getElem_set, List.getElem_set]
    by_cases h1 : i = a
    · rw [if_pos h1, if_neg (by omega)]
      exact key b _ (by omega) (List.getElem?_eq_getElem hb)
    · rw [if_neg h1]
      by_cases h2 : i = b
      · rw [if_pos h2]
        exact fun q hq hs => key a _ h1 (List.getElem?_eq_getElem ha) q hs hq
      · rw [if_neg h2]
        exact List.pairwise_iff_getElem.1 S.dis a b ha hb hab
theorem Ch.rst {R : Nat → Prop} {l : List Nat} {h' : Hp} (k : Ch R (g.grd l) h') : Ch R g (h'.rst g) := ⟨k.get, k.nx, rfl, fun f => k.fr f⟩
/-- Something new. -/
theorem Know.push (S : Know h0 g L) {r' : Rs} {g' : Hp} (k : Kp g.nx g g') (hl : r'.Loc) (hP : r'.P g') (ho : ∀ b, r'.own b → g.nx ≤ b ∧ b < g'.nx) : Know h0 g' (r' :: L) := by
  have T := S.call k
  refine ⟨T.ok, T.kp, fun r hr => ?_, List.pairwise_cons.2 ⟨fun r hr b hb hrb => ?_, T.dis⟩, S.ok0⟩
  · rcases List.mem_cons.1 hr with rfl | hr
    · exact ⟨hl, hP, fun b hb => by have := ho b hb; have := S.lo; omega⟩
    · exact T.at_ r hr
  · have := (S.at_ r hr).2.2 b hrb
    have := ho b hb; omega
/-- What a call has made comes to what there was. -/
theorem Know.comp (S : Know h0 g L) {g' : Hp} {M : List Rs} (T : Know g g' M) : Know h0 g' (M ++ L) := by
  have U := S.call T.kp
  refine ⟨U.ok, U.kp, fun r hr => ?_, List.pairwise_append.2 ⟨T.dis, U.dis, fun r hr s hs b hb hsb => ?_⟩, S.ok0⟩
  · rcases List.mem_append.1 hr with hr | hr
    · obtain ⟨h1, h2, h3⟩ := T.at_ r hr
      exact ⟨h1, h2, fun b hb => by have := h3 b hb; have := S.lo; omega⟩
    · exact U.at_ r hr
  · have := (T.at_ r hr).2.2 b hb
    have := (S.at_ s hs).2.2 b hsb
    omega
/-- The same behind a call while some must not be written. -/
theorem Know.compg (S : Know h0 g L) {l : List Nat} {h' : Hp} {M : List Rs} (T : Know (g.grd l) h' M) : Know h0 (h'.rst g) (M ++ L) := by
  refine S.comp (g' := h'.rst g) ⟨S.ok.kp ⟨T.kp.get, T.kp.nx, rfl, T.kp.fr⟩, ⟨T.kp.get, T.kp.nx, rfl, T.kp.fr⟩, fun r hr => ?_, T.dis, S.ok⟩
  obtain ⟨h1, h2, h3⟩ := T.at_ r hr
  exact ⟨h1, h1 h' _ (Nat.le_refl _) (fun _ _ => rfl) h2, h3⟩
/-- Some are forgotten, or come in another order. -/
theorem Know.sel (S : Know h0 g L) (is : List Nat) (hn : is.Nodup) {M : List Rs} (hM : M = is.filterMap (fun i => L[i]?)) : Know h0 g M := by
  subst hM
  refine ⟨S.ok, S.kp, fun r hr => ?_, ?_, S.ok0⟩
  · obtain ⟨i, _, hi⟩ := List.mem_filterMap.1 hr
    exact S.at_ r (List.mem_of_getElem? hi)
  · rw [List.pairwise_filterMap]
    exact hn.imp fun {i j} hij r hr s hs => S.sep i j hr hs hij
/-- What is known of the second one of two. -/
theorem Know.sub (S : Know h0 g L) (M : List Rs) (h : M.Sublist L) : Know h0 g M := ⟨S.ok, S.kp, fun r hr => S.at_ r (h.subset hr), S.dis.sublist h, S.ok0⟩
/-- What is appended to lies at a new number: also a row of no elements. -/
theorem append_newE {P : Program} {sT e : TypeId} {esz bytes : Nat} (T : AppT P sT e esz bytes) {h : Hp} {base : Nat} {a : Option Addr} {n c : Nat} {xs : List Value} (H : AccE h base e esz a n c xs)
    {x : Value} {ys : List Value} {k : Nat} (hx : ∃ a n c, x = .slice a n c) (hs : srcCells h esz x = some (ys, k)) (h1 : ys.all one = true) (hkp : 0 < k) {a' : Option Addr} {n' c' : Nat} {h' : Hp} (e1 : appendV P h sT sT (.slice a n c) x = some (.slice a' n' c', h')) : a' = some ⟨h.nx, 0, none⟩ := by
  rcases H with H | ⟨rfl, rfl, rfl, o, rfl, h2, h3, e2, m, h4⟩
  · exact append_new T H hx hs h1 hkp e1
  · obtain ⟨hz, info, z, hi, hzz, hrun⟩ := T.run
    rw [hrun h _ x hx, hs] at e1
    have hk0 : Nat.beq k 0 = false := by rw [Bool.eq_false_iff]; intro hh; have := Nat.eq_of_beq_eq_true hh; omega
    simp only [Option.bind_some, h1, cond_true, hk0, cond_false] at e1
    unfold appSome at e1
    have e3 : Nat.beq 0 unk = false := by
      rw [Bool.eq_false_iff]; intro hh; have := Nat.eq_of_beq_eq_true hh; have : unk = 18446744073709551616 := rfl; omega
    have e4 : Nat.ble (0 + k) 0 = false := by
      rw [Bool.eq_false_iff]; intro hh; have : 0 + k ≤ 0 := by simpa using hh
      omega
    have e5 : readAt h o 0 (0 * esz) = some [] := by rw [Nat.zero_mul, readAt_get h4 (by simp)]; rfl
    simp only [h4, e3, e4, e5, cond_false, Option.bind_some] at e1
    unfold appNew at e1
    obtain ⟨_, e1⟩ := cond_some e1
    injection e1 with e1
    injection e1 with e1 _
    injection e1 with e1 _
    exact e1.symm
/-! ### steps -/
theorem Know.rd (S : Know h0 g L) (i : Nat) {b : Nat} {c : List Value} {e : TypeId} {m : Md} (hi : L[i]? = some (ob b (.cells c e m))) {off n : Nat} {r : List Value} (hr : (c.drop off).take n = r) (hl : Nat.ble (off + n) c.length = true) : readAt g b off n = some r := by
  rw [readAt_get (S.obj i hi) (Nat.le_of_ble_eq_true hl), hr]
theorem Know.rdg (S : Know h0 g L) (i : Nat) {b : Nat} {c : List Value} {e : TypeId} {m : Md} (hi : L[i]? = some (ob b (.cells c e m))) {l : List Nat} {off n : Nat} {r : List Value} (hr : (c.drop off).take n = r) (hl : Nat.ble (off + n) c.length = true) : readAt (g.grd l) b off n = some r := S.rd i hi hr hl
theorem Know.gdf (S : Know h0 g L) {b : Nat} (hb : h0.nx ≤ b) : g.guarded b = false := S.gl.free hb
theorem Know.gdfg (S : Know h0 g L) {b : Nat} {l : List Nat} (hb : h0.nx ≤ b) (hl : ∀ q ∈ l, q ≠ b) : (g.grd l).guarded b = false := guarded_of fun q hq => by
  rcases List.mem_append.1 hq with h | h
  · exact hl q h
  · have := S.gl q h; omega
theorem Know.cw (S : Know h0 g L) (i : Nat) {b : Nat} {c : List Value} {e : TypeId} {m : Md} (hi : L[i]? = some (ob b (.cells c e m))) {off : Nat} {vs : List Value} (hm : m ≠ .ro) (hl : Nat.ble (off + vs.length) c.length = true) (h1 : vs.all one = true) : canW g b off vs = true := canW_t (S.obj i hi) hm (S.gdf (S.orng i hi).1) (Nat.le_of_ble_eq_true hl) h1
theorem Know.wr (S : Know h0 g L) (i : Nat) {b : Nat} {c : List Value} {e : TypeId} {m : Md} (hi : L[i]? = some (ob b (.cells c e m))) {off : Nat} {vs : List Value} (hm : m ≠ .ro) (hl : Nat.ble (off + vs.length) c.length = true) (h1 : vs.all one = true) : Know h0 (g.wr b off vs) (L.set i (ob b (.cells (putAt c off vs) e m))) :=
  S.upd i hi (Ch.wr g b off vs) (ob.loc _ _) (wr_get (S.obj i hi) hm (S.gdf (S.orng i hi).1) (Nat.le_of_ble_eq_true hl) h1) fun _ h => .inl h
theorem Know.cwg (S : Know h0 g L) (i : Nat) {b : Nat} {c : List Value} {e : TypeId} {m : Md} (hi : L[i]? = some (ob b (.cells c e m))) {l : List Nat} (hg : ∀ q ∈ l, q ≠ b) {off : Nat} {vs : List Value} (hm : m ≠ .ro) (hl : Nat.ble (off + vs.length) c.length = true) (h1 : vs.all one = true) : canW (g.grd l) b off vs = true := canW_t (h := g.grd l) (S.obj i hi) hm (S.gdfg (S.orng i hi).1 hg) (Nat.le_of_ble_eq_true hl) h1
theorem Know.wrg (S : Know h0 g L) (i : Nat) {b : Nat} {c : List Value} {e : TypeId} {m : Md} (hi : L[i]? = some (ob b (.cells c e m))) {l : List Nat} (hg : ∀ q ∈ l, q ≠ b) {off : Nat} {vs : List Value} (hm : m ≠ .ro) (hl : Nat.ble (off + vs.length) c.length = true) (h1 : vs.all one = true) : Know h0 (((g.grd l).wr b off vs).rst g) (L.set i (ob b (.cells (putAt c off vs) e m))) :=
  S.upd i hi (Ch.wr (g.grd l) b off vs).rst (ob.loc _ _) (wr_get (h := g.grd l) (S.obj i hi) hm (S.gdfg (S.orng i hi).1 hg) (Nat.le_of_ble_eq_true hl) h1) fun _ h => .inl h
/-- Numbers are laid aside, and used later. -/
theorem Know.rsvK (S : Know h0 g L) (k : Nat) : Know h0 (g.rsv k) (hole g.nx k [] :: L) :=
  S.push ((Kp.refl _ g).rsv k) (hole.loc _ _ _) (fun o h1 _ _ => S.ok.fr o h1) fun b hb => ⟨hb.1, hb.2.1⟩
theorem Know.fre (S : Know h0 g L) (i : Nat) {lo k : Nat} {used : List Nat} (hi : L[i]? = some (hole lo k used)) {q : Nat} (h1 : lo ≤ q) (h2 : q < lo + k) (h3 : q ∉ used) : g.free q = true := free_t (S.get i hi q h1 h2 h3)
theorem Know.lay (S : Know h0 g L) (i : Nat) {lo k : Nat} {used : List Nat} (hi : L[i]? = some (hole lo k used)) {q : Nat} (h1 : lo ≤ q) (h2 : q < lo + k) (h3 : q ∉ used) (x : Ob) : Know h0 (g.lay q x) (ob q x :: L.set i (hole lo k (q :: used))) := by
  have hq := S.rng i hi q ⟨h1, h2, h3⟩
  have ge : ∀ o, o ≠ q → (g.lay q x).get o = g.get o := fun o ho => by rw [get_lay, if_neg ho]
  have S1 : Know h0 (g.lay q x) (L.set i (hole lo k (q :: used))) := S.upd i hi (g' := g.lay q x) ⟨fun o _ ho => ge o (fun h => ho (h ▸ ⟨h1, h2, h3⟩)), Nat.le_refl _, rfl, fun f => f.lay hq.2 x⟩ (hole.loc _ _ _) (fun o a b c => (ge o (fun h => c (h ▸ List.mem_cons_self ..))).trans (S.get i hi o a b (fun h => c (List.mem_cons_of_mem _ h)))) fun b hb => .inl ⟨hb.1, hb.2.1, fun h => hb.2.2 (List.mem_cons_of_mem _ h)⟩
  refine ⟨S1.ok, S1.kp, fun r hr => ?_, List.pairwise_cons.2 ⟨fun r hr b hb hrb => ?_, S1.dis⟩, S.ok0⟩
  · rcases List.mem_cons.1 hr with rfl | hr
    · exact ⟨ob.loc _ _, by show (g.lay q x).get q = _; rw [get_lay, if_pos rfl], fun b hb => by cases hb; exact hq⟩
    · exact S1.at_ r hr
  · obtain rfl : b = q := hb
    obtain ⟨j, hj⟩ := List.mem_iff_getElem?.1 hr
    by_cases hij : i = j
    · subst hij
      rw [List.getElem?_set_self (List.getElem?_eq_some_iff.1 hi).1] at hj
      obtain rfl := Option.some.inj hj
      exact hrb.2.2 (List.mem_cons_self ..)
    · rw [List.getElem?_set_ne hij] at hj
      exact S.sep i j hi hj hij b ⟨h1, h2, h3⟩ hrb
theorem rst_eq {h h' : Hp} (e : h'.gd = h.gd) : h'.rst h = h' := by
  cases h'; unfold Hp.rst; cases e; rfl
/-- An empty row is a list that may grow. -/
theorem Know.acc0 (S : Know h0 g L) (i : Nat) {b : Nat} {e' : TypeId} {m : Md} (hi : L[i]? = some (ob b (.cells [] e' m))) (lo : Nat) (hlo : lo ≤ b) (e : TypeId) (esz : Nat) : Know h0 g (L.set i (acc lo e esz (some ⟨b, 0, none⟩) 0 0 [])) :=
  S.upd i hi (Ch.refl _ g) (acc.loc _ _ _ _ _ _ _) (.inr ⟨rfl, rfl, rfl, b, rfl, hlo, (S.orng i hi).2, _, _, S.obj i hi⟩) fun q hq => .inl (by injection hq with hq; injection hq with hq; exact hq.symm)
/-- A list that has grown is an object. -/
theorem Know.accOb (S : Know h0 g L) (i : Nat) {lo : Nat} {e : TypeId} {esz : Nat} {a : Option Addr} {n c : Nat} {xs : List Value} (hi : L[i]? = some (acc lo e esz a n c xs)) (hx : xs ≠ []) : ∃ o, a = some ⟨o, 0, none⟩ ∧ c = unk ∧ n * esz = xs.length ∧ lo ≤ o ∧ Know h0 g (L.set i (ob o (.cells xs e .grow))) := by
  have A : AccE g lo e esz a n c xs := S.get i hi
  rcases A with (⟨_, _, _, h⟩ | ⟨o, rfl, h2, h3, h4, h5, h6⟩) | ⟨h, _⟩
  · exact absurd h hx
  · exact ⟨o, rfl, h2, h3, h4, S.upd i hi (Ch.refl _ g) (ob.loc _ _) h6 fun q hq => .inl (by cases hq; rfl)⟩
  · exact absurd h hx
/-- A new, empty list that is to grow. -/
theorem Know.accNil (S : Know h0 g L) (lo : Nat) (e : TypeId) (esz : Nat) : Know h0 g (acc lo e esz none 0 0 [] :: L) :=
  S.push (Kp.refl _ g) (acc.loc _ _ _ _ _ _ _) (.inl (Acc.nil ..)) fun b hb => by cases hb
/-- A list grows. -/
theorem Know.appg (S : Know h0 g L) (i : Nat) {lo : Nat} {e : TypeId} {esz : Nat} {a : Option Addr} {n c : Nat} {xs : List Value} (hi : L[i]? = some (acc lo e esz a n c xs)) (hlo : h0.nx ≤ lo) (hlo2 : lo ≤ g.nx) {P : Program} {sT : TypeId} {bytes : Nat} (T : AppT P sT e esz bytes) {l : List Nat} (hl : ∀ q ∈ l, q < lo)
    {x : Value} {ys : List Value} {k : Nat} (hx : ∃ a n c, x = .slice a n c) (hs : srcCells g esz x = some (ys, k)) (hk : ys.length = k * esz) (h1 : ys.all one = true) (hB : (n + k + (n + k)) * bytes ≤ 281474976710656) (hU : n + k < big) :
    ∃ a' n' c' h', appendV P (g.grd l) sT sT (.slice a n c) x = some (.slice a' n' c', h') ∧ n' = n + k ∧ Know h0 (h'.rst g) (L.set i (acc lo e esz a' n' c' (xs ++ ys))) := by
  have A : AccE (g.grd l) lo e esz a n c xs := S.get i hi
  have G : GdLt (g.grd l) lo := fun q hq => by
    rcases List.mem_append.1 hq with h | h
    · exact hl q h
    · have := S.gl q h; omega
  obtain ⟨a', n', c', h', e1, A', en, k'⟩ := append_accE T (h := g.grd l) A hlo2 G hx hs hk h1 hB hU
  refine ⟨a', n', c', h', e1, en, S.upd i hi (r' := acc lo e esz a' n' c' (xs ++ ys)) (g' := h'.rst g) ⟨fun o ho hne => k'.get o ho hne, k'.nx, rfl, fun f => k'.fr f⟩ (acc.loc _ _ _ _ _ _ _) (A'.keep (fun _ _ _ => rfl) (Nat.le_refl _)) fun b hb => ?_⟩
  rcases Nat.eq_zero_or_pos k with rfl | hkp
  · left
    show a = some ⟨b, 0, none⟩
    rw [← hb]
    obtain ⟨_, info, z, hi', hzz, hrun⟩ := T.run
    rw [hrun _ _ x hx, show srcCells (g.grd l) esz x = some (ys, 0) from hs] at e1
    simp only [Option.bind_some, h1, cond_true, Nat.beq_refl] at e1
    unfold appNone at e1
    split at e1
    · injection e1 with e1; injection e1 with e1 _; injection e1
    · obtain ⟨_, e1⟩ := cond_some e1
      injection e1 with e1; injection e1 with e1 _; injection e1
    · cases e1
  · have := append_newE T A hx hs h1 hkp e1
    have hb : a' = some ⟨b, 0, none⟩ := hb
    rw [this] at hb; injection hb with hb; injection hb with hb
    have := (A'.lt (by rw [this])).2
    exact .inr ⟨Nat.le_of_eq hb, by rw [← hb]; exact this⟩
/-- The same where nothing else is under way. -/
theorem Know.app (S : Know h0 g L) (i : Nat) {lo : Nat} {e : TypeId} {esz : Nat} {a : Option Addr} {n c : Nat} {xs : List Value} (hi : L[i]? = some (acc lo e esz a n c xs)) (hlo : h0.nx ≤ lo) (hlo2 : lo ≤ g.nx) {P : Program} {sT : TypeId} {bytes : Nat} (T : AppT P sT e esz bytes)
    {x : Value} {ys : List Value} {k : Nat} (hx : ∃ a n c, x = .slice a n c) (hs : srcCells g esz x = some (ys, k)) (hk : ys.length = k * esz) (h1 : ys.all one = true) (hB : (n + k + (n + k)) * bytes ≤ 281474976710656) (hU : n + k < big) :
    ∃ a' n' c' h', appendV P g sT sT (.slice a n c) x = some (.slice a' n' c', h') ∧ n' = n + k ∧ Know h0 h' (L.set i (acc lo e esz a' n' c' (xs ++ ys))) := by
  have A : AccE g lo e esz a n c xs := S.get i hi
  obtain ⟨a', n', c', h', e1, en, S'⟩ := S.appg (l := []) i hi hlo hlo2 T (fun _ h => by cases h) hx hs hk h1 hB hU
  obtain ⟨a2, n2, c2, h2, e2, _, _, k'⟩ := append_accE T A hlo2 (fun q hq => by have := S.gl q hq; omega) hx hs hk h1 hB hU
  have e1' : appendV P g sT sT (.slice a n c) x = some (.slice a' n' c', h') := e1
  rw [e1'] at e2
  have : h' = h2 := by injection e2 with e2; injection e2
  subst this
  rw [rst_eq k'.gd] at S'
  exact ⟨a', n', c', h', e1', en, S'⟩
end
end Go.Ev
/- Conditions of functions' code, printed by a program of ours. -/
namespace Go.Proofs.YtngcjpkccnfjiaaGreatDoor
open Go Go.Ev
set_option maxRecDepth 100000
set_option linter.unusedVariables false
/-! sward/swardref15.Alloc -/
noncomputable def b25 : Code := (Tryz.f25.body).getD .skip
noncomputable def stk25_0 : List KI := [.code (sub [1, 1, 1, 1, 1, 0] b25), .code (sub [1, 1, 1, 1, 1, 1] b25)]
def I25_0 (O : CallF) (Q : Value → Hp → Prop) (a0_0 : Option Addr) (n0_0 : Nat) (c0_0 : Nat) (x0_1 : Int) (a0_2 : Option Addr) (n0_2 : Nat) (c0_2 : Nat) (x1 : Int) (a2 : Option Addr) (n2 : Nat) (c2 : Nat) (b3 : Nat) (f3 : Nat) (b6 : Nat) (f6 : Nat) (q11 : Bool) (h : Hp) : Prop := RKL Tryz.prog O Tryz.f25 stk25_0 67 [1, 2, 3, 6, 7, 8, 11] [(.int .i64 x1), (.slice a2 n2 c2), (.pointer (some ⟨b3, f3, none⟩)), (.pointer (some ⟨b6, f6, none⟩)), (.int .i64 0), (.int .i64 0), (.bool q11)] h Q
def T25 (O : CallF) (Q : Value → Hp → Prop) (a0_0 : Option Addr) (n0_0 : Nat) (c0_0 : Nat) (x0_1 : Int) (a0_2 : Option Addr) (n0_2 : Nat) (c0_2 : Nat) (x1 : Int) (a2 : Option Addr) (n2 : Nat) (c2 : Nat) (h : Hp) : Prop :=
  let g1 : Hp := h.add (.cells [(.slice a0_0 n0_0 c0_0), (.int .i64 x0_1), (.slice a0_2 n0_2 c0_2)] 24 .fix)
  let g2 : Hp := g1.add (.cells [(.slice none 0 0), (.int .i64 0), (.slice none 0 0)] 24 .fix)
  ∃ a3' n4' c5', ∃ x6', ∃ a7' n8' c9', readAt g2 h.nx 0 3 = some [(.slice a3' n4' c5'), (.int .i64 x6'), (.slice a7' n8' c9')] ∧
  ∃ a10' n11' c12', ∃ x13', ∃ h14', EvC Tryz.prog O 37 [(.agg #[(.slice a3' n4' c5'), (.int .i64 x6'), (.slice a7' n8' c9')])] g2 (.tuple #[(.slice a10' n11' c12'), (.int .i64 x13')]) h14' ∧
  vcond (eqI x13' 0)
  (∃ q15', ∃ h16', EvC Tryz.prog O 82 [(.slice a10' n11' c12'), (.int .i64 x1), (.slice a2 n2 c2)] h14' (.bool q15') h16' ∧
  vcond (!q15')
  (vreq (canW h16' g1.nx 0 [(.slice none 0 0), (.int .i64 0), (.slice none 0 0)])
  (let g17 : Hp := h16'.wr g1.nx 0 [(.slice none 0 0), (.int .i64 0), (.slice none 0 0)]
  ∃ a18' n19' c20', ∃ x21', ∃ a22' n23' c24', readAt g17 g1.nx 0 3 = some [(.slice a18' n19' c20'), (.int .i64 x21'), (.slice a22' n23' c24')] ∧
  Q (.tuple #[(.agg #[(.slice a18' n19' c20'), (.int .i64 x21'), (.slice a22' n23' c24')]), (.int .i64 0), (.int .i64 2)]) g17))
  (vcond (!(eqI x13' 0))
  (vreq (canW h16' g1.nx 0 [(.slice none 0 0), (.int .i64 0), (.slice none 0 0)])
  (let g25 : Hp := h16'.wr g1.nx 0 [(.slice none 0 0), (.int .i64 0), (.slice none 0 0)]
  ∃ a26' n27' c28', ∃ x29', ∃ a30' n31' c32', readAt g25 g1.nx 0 3 = some [(.slice a26' n27' c28'), (.int .i64 x29'), (.slice a30' n31' c32')] ∧
  Q (.tuple #[(.agg #[(.slice a26' n27' c28'), (.int .i64 x29'), (.slice a30' n31' c32')]), (.int .i64 0), (.int .i64 x13')]) g25))
  (vcond (eqI x1 3)
  (I25_0 O Q a0_0 n0_0 c0_0 x0_1 a0_2 n0_2 c0_2 x1 a2 n2 c2 h.nx 0 g1.nx 0 true h16')
  (I25_0 O Q a0_0 n0_0 c0_0 x0_1 a0_2 n0_2 c0_2 x1 a2 n2 c2 h.nx 0 g1.nx 0 (eqI x1 4) h16'))))
  (vcond (!(eqI x13' 0))
  (vreq (canW h14' g1.nx 0 [(.slice none 0 0), (.int .i64 0), (.slice none 0 0)])
  (let g33 : Hp := h14'.wr g1.nx 0 [(.slice none 0 0), (.int .i64 0), (.slice none 0 0)]
  ∃ a34' n35' c36', ∃ x37', ∃ a38' n39' c40', readAt g33 g1.nx 0 3 = some [(.slice a34' n35' c36'), (.int .i64 x37'), (.slice a38' n39' c40')] ∧
  Q (.tuple #[(.agg #[(.slice a34' n35' c36'), (.int .i64 x37'), (.slice a38' n39' c40')]), (.int .i64 0), (.int .i64 x13')]) g33))
  (vcond (eqI x1 3)
  (I25_0 O Q a0_0 n0_0 c0_0 x0_1 a0_2 n0_2 c0_2 x1 a2 n2 c2 h.nx 0 g1.nx 0 true h14')
  (I25_0 O Q a0_0 n0_0 c0_0 x0_1 a0_2 n0_2 c0_2 x1 a2 n2 c2 h.nx 0 g1.nx 0 (eqI x1 4) h14')))
/-! slices.Clone[[]int,int] -/
noncomputable def b46 : Code := (Tryz.f46.body).getD .skip
def lv46 : List (Nat × List Nat) := []
def T46 (O : CallF) (Q : Value → Hp → Prop) (a0 : Option Addr) (n0 : Nat) (c0 : Nat) (h : Hp) : Prop :=
  vnil a0
  (Q (.slice none 0 0) h)
  (let g1 : Hp := h.add (.cells [] 3 .fix)
  ∃ a2' n3' c4' h5', appendV Tryz.prog g1 22 22 (.slice (some ⟨h.nx, 0, none⟩) 0 0) (.slice a0 n0 c0) = some (.slice a2' n3' c4', h5') ∧
  Q (.slice a2' n3' c4') h5')
theorem rk46 {O Q} (a0 n0 c0) {h : Hp} (hO : O 46 [(.slice a0 n0 c0)] h = none) (hh : T46 O Q a0 n0 c0 h) : Ret Tryz.prog O 46 [(.slice a0 n0 c0)] h Q :=
  .of (c := b46) Tryz.func46 (by kernel_rfl) hO (V_ok (tb := lv46) (cuts := []) 500 (Eq.mp (by kernel_rfl) hh))
/-! sward/swardref15.copied -/
end Go.Proofs.YtngcjpkccnfjiaaGreatDoor
/- Contracts: a heap is copied, a cell is laid. -/
namespace Go.Proofs.YtngcjpkccnfjiaaGreatDoor
set_option maxRecDepth 100000
open Go Go.Ev
abbrev iv (xs : List Int) : List Value := xs.map (Value.int .i64)
theorem iv_one (xs : List Int) : (iv xs).all one = true := by rw [List.all_map]; exact List.all_eq_true.2 fun _ _ => rfl
theorem isAddr_i {b off : Nat} {K : Nat → Nat → Prop} (h : K b off) : isAddr (some ⟨b, off, none⟩) K := h
section
variable {O : CallF} (hO : Oth O)
include hO
/-- 'slices.Clone'. -/
theorem ct46 {g : Hp} (ok : g.Ok) {a : Option Addr} {n c : Nat} {xs : List Int} (X : IntsAt g a n xs) (hl : xs.length < 1000000) : Ret Tryz.prog O 46 [.slice a n c] g fun v h' => ∃ a' n' c', v = .slice a' n' c' ∧ Know g h' [acc g.nx 3 1 a' n' c' (iv xs)] := by
  refine rk46 (hO := hO _ _ _ (by decide)) (hh := ?_) ..
  unfold T46
  have hn := X.1
  cases a with
  | none =>
    have : xs = [] := by
      rcases X.2 with ⟨h, _⟩ | ⟨_, _, _, _, _, h, _⟩
      · exact h
      · cases h
    subst this
    exact ⟨_, _, _, rfl, (Know.nil ok).accNil g.nx 3 1⟩
  | some ad =>
    show let g1 : Hp := g.add (.cells [] 3 .fix)
      _
    intro g1
    have S : Know g g1 [_] := ((Know.nil ok).add _).acc0 0 rfl g.nx (Nat.le_refl _) 3 1
    haveI := S.ft
    obtain ⟨a', n', c', h', e, hn', S⟩ := S.app 0 rfl (Nat.le_refl _) S.lo AppT22 ⟨_, _, _, rfl⟩ (IntsAt.src (SlAt.to g1 X)) (by rw [List.length_map]; omega) (iv_one xs) (by omega) (by unfold big; omega)
    exact ⟨a', n', c', h', e, _, _, _, rfl, S⟩
end
end Go.Proofs.YtngcjpkccnfjiaaGreatDoor
/- Contracts: a cell is laid, by the code and by the reference. -/
namespace Go.Proofs.YtngcjpkccnfjiaaGreatDoor
set_option maxRecDepth 100000
open Go Go.Ev
theorem iv_putAt : ∀ (ds xs : List Int) (k : Nat), iv (putAt ds k xs) = putAt (iv ds) k (iv xs) := by
  intro ds
  induction ds with
  | nil => intro xs k; cases k <;> cases xs <;> rfl
  | cons d ds ih =>
    intro xs k
    cases k with
    | zero => cases xs with
      | nil => rfl
      | cons x xs => show _ :: _ = _ :: _; rw [← ih]
    | succ k => show _ :: _ = _ :: _; rw [← ih]
/-- The words of a heap that is one's own. -/
def CapOk (m : Md) (cw n : Nat) : Prop := (m = .fix ∧ cw = n) ∨ (m = .grow ∧ cw = unk)
theorem SI.own {h : Hp} {o cw : Nat} {m : Md} {W : List Int} (hg : h.get o = some (.cells (iv W) 3 m)) (ho : o < h.nx) (c : CapOk m cw W.length) (hl : W.length < 1000000) : SI h (some ⟨o, 0, none⟩) W.length cw W := by
  rcases c with ⟨rfl, rfl⟩ | ⟨rfl, rfl⟩
  · exact SI.cells hg ho rfl hl
  · exact SI.acc (base := 0) (.inr ⟨o, rfl, rfl, by simp, Nat.zero_le _, ho, hg⟩) (by omega)
theorem slice_lo {h : Hp} {o n c : Nat} {W : List Int} (s : SI h (some ⟨o, 0, none⟩) n c W) {l : Nat} (hl : l < n) : ∃ c', sliceV Tryz.prog h 22 (.slice (some ⟨o, 0, none⟩) n c) (some (.int .i64 (Int.ofNat l))) none none = some (.slice (some ⟨o, l, none⟩) (n - l) c') := by
  obtain ⟨vis, hs, hv, hvu, _⟩ := s.cap
  unfold sliceV
  rw [Tryz.underlying22]
  simp only [sz3, bind, Option.bind_some, hs, bounds_lo (vis := vis) (show l ≤ n by omega)]
  by_cases hc : c = unk
  · subst hc
    simp only [Nat.beq_refl, Option.isNone_none, Bool.and_self, cond_true]
    exact ⟨_, by rw [Nat.zero_add, Nat.mul_one]⟩
  · have hcb : Nat.beq c unk = false := by rw [Bool.eq_false_iff]; intro hh; exact hc (Nat.eq_of_beq_eq_true hh)
    simp only [hcb, Bool.false_and, cond_false]
    rw [blt_t hvu]
    have hlb : Nat.beq vis l = false := by rw [Bool.eq_false_iff]; intro hh; have := Nat.eq_of_beq_eq_true hh; omega
    simp only [hlb, cond_true, cond_false]
    exact ⟨_, by rw [Nat.zero_add, Nat.mul_one]⟩
end Go.Proofs.YtngcjpkccnfjiaaGreatDoor
/- Contracts: the reference's copied, laidDown. -/
namespace Go.Proofs.YtngcjpkccnfjiaaGreatDoor
set_option maxRecDepth 100000
open Go Go.Ev
end Go.Proofs.YtngcjpkccnfjiaaGreatDoor
/- Contracts: what runs and what is laid, as what one has; room, and the reference's roomy. -/
namespace Go.Proofs.YtngcjpkccnfjiaaGreatDoor
set_option maxRecDepth 100000
open Go Go.Ev
/-- A list that is read. -/
def slr (a : Option Addr) (n c : Nat) (xs : List Int) : Rs := ⟨fun o => ∃ off, a = some ⟨o, off, none⟩, fun h => SI h a n c xs⟩
theorem slr.loc (a : Option Addr) (n c : Nat) (xs : List Int) : (slr a n c xs).Loc := fun _ _ hn h s => s.upd (fun o off ha => h o ⟨off, ha⟩) hn
theorem SI.accE {h : Hp} {base : Nat} {a : Option Addr} {n c : Nat} {W : List Int} (s : AccE h base 3 1 a n c (iv W)) (hl : W.length < 1000000) : SI h a n c W := by
  rcases s with s | ⟨h1, h2, h3, o, h4, h5, h6, e2, m, h7⟩
  · exact SI.acc s (by omega)
  · have hx : W = [] := by
      cases W with
      | nil => rfl
      | cons x xs => cases h1
    subst hx h2 h3 h4
    exact SI.fix ⟨rfl, .inr ⟨o, 0, _, _, _, rfl, h6, h7, by simp, fun i hi => by simp at hi⟩⟩ (Nat.le_refl _) (by decide) (fun h => by cases h)
theorem AccE.off {h : Hp} {base : Nat} {e : TypeId} {esz : Nat} {a : Option Addr} {n c : Nat} {xs : List Value} (s : AccE h base e esz a n c xs) {o off : Nat} (ha : a = some ⟨o, off, none⟩) : off = 0 := by
  rcases s with (⟨h1, _⟩ | ⟨q, h1, _⟩) | ⟨_, _, _, q, h1, _⟩
  · rw [h1] at ha; cases ha
  · rw [h1] at ha; injection ha with ha; injection ha with _ ha; exact ha.symm
  · rw [h1] at ha; injection ha with ha; injection ha with _ ha; exact ha.symm
section
variable {O : CallF} (hO : Oth O)
include hO
/-- What 'room' returns. -/
structure Room where
  W : List Int
  top : Nat
  R : List Int
  l : List Int
  is : Bool
end
end Go.Proofs.YtngcjpkccnfjiaaGreatDoor
/- Contracts: the reference's roomy. -/
namespace Go.Proofs.YtngcjpkccnfjiaaGreatDoor
set_option maxRecDepth 100000
open Go Go.Ev
theorem Know.accLow {h0 g : Hp} {L : List Rs} (S : Know h0 g L) (i : Nat) {lo : Nat} {e : TypeId} {esz : Nat} {a : Option Addr} {n c : Nat} {xs : List Value} (hi : L[i]? = some (acc lo e esz a n c xs)) : Know h0 g (L.set i (acc h0.nx e esz a n c xs)) := by
  have A : AccE g lo e esz a n c xs := S.get i hi
  refine S.upd i hi (Ch.refl _ g) (acc.loc _ _ _ _ _ _ _) ?_ fun b hb => .inl hb
  rcases A with (A | ⟨o, h1, h2, h3, h4, h5, h6⟩) | ⟨h1, h2, h3, o, h4, h5, h6, h7⟩
  · exact .inl (.inl A)
  · exact .inl (.inr ⟨o, h1, h2, h3, (S.arng i hi h1).1, h5, h6⟩)
  · exact .inr ⟨h1, h2, h3, o, h4, (S.arng i hi h4).1, h6, h7⟩
end Go.Proofs.YtngcjpkccnfjiaaGreatDoor
/- Contracts: Alloc of the code. -/
namespace Go.Proofs.YtngcjpkccnfjiaaGreatDoor
set_option maxRecDepth 100000
open Go Go.Ev
theorem Know.nilS {h0 g : Hp} {L : List Rs} (S : Know h0 g L) : Know h0 g (slr none 0 0 [] :: L) :=
  S.push (Kp.refl _ g) (slr.loc _ _ _ _) (SI.fix (SlAt.nil ..) (Nat.le_refl _) (by decide) (fun _ => rfl)) fun b ⟨_, hb⟩ => by cases hb
/-- A heap that is returned. -/
def HK (g : Hp) (o : Out) (u : Value) (h : Hp) : Prop := ∃ aw nw cw ar nr cr, u = .agg #[.slice aw nw cw, .int .i64 (Int.ofNat o.top), .slice ar nr cr] ∧ Know g h [slr aw nw cw o.W, slr ar nr cr o.R]
theorem HK.zero {h0 g : Hp} {L : List Rs} (S : Know h0 g L) (e : Int) : HK h0 ⟨[], 0, [], e⟩ (.agg #[.slice none 0 0, .int .i64 0, .slice none 0 0]) g :=
  ⟨_, _, _, _, _, _, rfl, (Know.nilS (Know.nilS S)).sel [0, 1] (by decide) rfl⟩
end Go.Proofs.YtngcjpkccnfjiaaGreatDoor
/- Contracts: Alloc of the code, the whole. -/
namespace Go.Proofs.YtngcjpkccnfjiaaGreatDoor
set_option maxRecDepth 100000
open Go Go.Ev
end Go.Proofs.YtngcjpkccnfjiaaGreatDoor
/- Contracts: Alloc of the reference. -/
namespace Go.Proofs.YtngcjpkccnfjiaaGreatDoor
set_option maxRecDepth 100000
open Go Go.Ev
end Go.Proofs.YtngcjpkccnfjiaaGreatDoor
/- Contracts: within, Write, Look, of the code and of the reference. -/
namespace Go.Proofs.YtngcjpkccnfjiaaGreatDoor
set_option maxRecDepth 100000
open Go Go.Ev
/-- A cell's field. -/
structure FieldAt (W : List Int) (l : List Nat) (x n : Int) (m i : Nat) : Prop where
  ex : x = Int.ofNat m
  en : n = Int.ofNat i
  mem : m ∈ l
  lt : m < W.length
  sz : hdS (W.getD m 0) = Int.ofNat (hdS (W.getD m 0)).toNat
  il : i < (hdS (W.getD m 0)).toNat
  fit : m + 1 + i < W.length
  wr : wrapF .i64 (wrapF .i64 (x + 1) + n) = Int.ofNat (m + 1 + i)
theorem IntsAt.getD {h : Hp} {a : Option Addr} {n : Nat} {xs : List Int} {k : Nat} (hk : k < xs.length) : xs[k] = xs.getD k 0 := by simp [List.getD, List.getElem?_eq_getElem hk]
end Go.Proofs.YtngcjpkccnfjiaaGreatDoor
/- Contracts: Write, of the code and of the reference. -/
namespace Go.Proofs.YtngcjpkccnfjiaaGreatDoor
set_option maxRecDepth 100000
open Go Go.Ev
theorem putAt_one (W : List Int) (i : Nat) (w : Int) (hi : i < W.length) : putAt (iv W) (0 + i * 1) [.int .i64 w] = iv (W.set i w) := by
  rw [show 0 + i * 1 = i by omega]
  exact putAt_map (Value.int .i64) hi
end Go.Proofs.YtngcjpkccnfjiaaGreatDoor
/- Conditions of functions' code, printed by a program of ours. -/
namespace Go.Proofs.YtngcjpkccnfjiaaGreatDoor
open Go Go.Ev
set_option maxRecDepth 100000
set_option linter.unusedVariables false
/-! sward/swardlaw15.CollectRoom -/
noncomputable def b10 : Code := (Tryz.f10.body).getD .skip
/-! sward/swardlaw15.CollectKept -/
noncomputable def b11 : Code := (Tryz.f11.body).getD .skip
/-! sward/swardlaw15.CollectSame -/
noncomputable def b12 : Code := (Tryz.f12.body).getD .skip
noncomputable def stk12_0 : List KI := [.code (sub [1, 1, 1, 0, 1, 0] b12), .blk 0, .code (sub [1, 1, 1, 1] b12)]
def lv12 : List (Nat × List Nat) := [(0, [2, 4, 6, 7, 8, 9, 11, 35, 36])]
def I12_0 (O : CallF) (Q : Value → Hp → Prop) (v0 : Array Value) (v1 : Array Value) (x2 : Int) (b4 : Nat) (f4 : Nat) (b7 : Nat) (f7 : Nat) (a8 : Option Addr) (n8 : Nat) (c8 : Nat) (a9 : Option Addr) (n9 : Nat) (c9 : Nat) (a11 : Option Addr) (n11 : Nat) (c11 : Nat) (x35 : Int) (x36 : Int) (h : Hp) : Prop := RKL Tryz.prog O Tryz.f12 stk12_0 152 [2, 4, 6, 7, 8, 9, 11, 35, 36] [(.int .u8 x2), (.pointer (some ⟨b4, f4, none⟩)), (.bool false), (.pointer (some ⟨b7, f7, none⟩)), (.slice a8 n8 c8), (.slice a9 n9 c9), (.slice a11 n11 c11), (.int .i64 x35), (.int .i64 x36)] h Q
def T12 (O : CallF) (Q : Value → Hp → Prop) (v0 : Array Value) (v1 : Array Value) (x2 : Int) (h : Hp) : Prop :=
  vreq (v0.toList.all one)
  (let g1 : Hp := h.add (.cells v0.toList 62 .fix)
  vreq (v1.toList.all one)
  (let g2 : Hp := g1.add (.cells v1.toList 58 .fix)
  ∃ l3', readAt g2 h.nx 0 51 = some l3' ∧
  ∃ a4' n5' c6', ∃ x7', ∃ a8' n9' c10', ∃ a11' n12' c13', ∃ a14' n15' c16', ∃ a17' n18' c19', ∃ h20', EvC Tryz.prog O 43 [(.agg l3'.toArray)] g2 (.tuple #[(.agg #[(.slice a4' n5' c6'), (.int .i64 x7'), (.slice a8' n9' c10')]), (.slice a11' n12' c13'), (.slice a14' n15' c16'), (.slice a17' n18' c19')]) h20' ∧
  let g21 : Hp := h20'.add (.cells [(.slice none 0 0), (.int .i64 0), (.slice none 0 0)] 24 .fix)
  vreq (canW g21 h20'.nx 0 [(.slice a4' n5' c6'), (.int .i64 x7'), (.slice a8' n9' c10')])
  (let g22 : Hp := g21.wr h20'.nx 0 [(.slice a4' n5' c6'), (.int .i64 x7'), (.slice a8' n9' c10')]
  I12_0 O Q v0 v1 x2 g1.nx 0 h20'.nx 0 a11' n12' c13' a14' n15' c16' none 0 0 (Int.ofNat n12') 0 g22)))
theorem rk12 {O Q} (v0 v1 x2) {h : Hp} (hO : O 12 [(.agg v0), (.agg v1), (.int .u8 x2)] h = none) (hh : T12 O Q v0 v1 x2 h) : Ret Tryz.prog O 12 [(.agg v0), (.agg v1), (.int .u8 x2)] h Q :=
  .of (c := b12) Tryz.func12 (by kernel_rfl) hO (V_ok (tb := lv12) (cuts := []) 500 (Eq.mp (by kernel_rfl) hh))
def T12_0 (O : CallF) (Q : Value → Hp → Prop) (v0 : Array Value) (v1 : Array Value) (x2 : Int) (b4 : Nat) (f4 : Nat) (b7 : Nat) (f7 : Nat) (a8 : Option Addr) (n8 : Nat) (c8 : Nat) (a9 : Option Addr) (n9 : Nat) (c9 : Nat) (a11 : Option Addr) (n11 : Nat) (c11 : Nat) (x35 : Int) (x36 : Int) (h : Hp) : Prop :=
  vcond (ltI x36 x35)
  (isNat x36 fun n101' =>
  vreq (Nat.blt n101' 9)
  (∃ x102', readAt h b4 (f4 + (n101' * 1)) 1 = some [(.int .u8 x102')] ∧
  vreq (!(eqI (wrapF .i64 (x36 + 1)) 0))
  (let g103 : Hp := h.add (.cells [(.int .i64 x36)] 3 .fix)
  ∃ a104' n105' c106', ∃ h107', EvC Tryz.prog O 54 [(.slice a11 n11 c11), (.int .i64 (Int.tmod (wrapF .i64 x102') (wrapF .i64 (x36 + 1)))), (.slice (some ⟨h.nx, 0, none⟩) 1 1)] g103 (.slice a104' n105' c106') h107' ∧
  I12_0 O Q v0 v1 x2 b4 f4 b7 f7 a8 n8 c8 a9 n9 c9 a104' n105' c106' x35 (wrapF .i64 (x36 + 1)) h107')))
  (∃ a108' n109' c110', ∃ x111', ∃ a112' n113' c114', ∃ a115' n116' c117', ∃ h118', EvC Tryz.prog O 52 [(.slice a8 n8 c8), (.slice a11 n11 c11), (.slice a9 n9 c9), (.int .i64 (Int.tmod (wrapF .i64 x2) 8))] h (.tuple #[(.agg #[(.slice a108' n109' c110'), (.int .i64 x111'), (.slice a112' n113' c114')]), (.slice a115' n116' c117')]) h118' ∧
  let g119 : Hp := h118'.add (.cells [(.slice none 0 0), (.int .i64 0), (.slice none 0 0)] 24 .fix)
  vreq (canW g119 h118'.nx 0 [(.slice a108' n109' c110'), (.int .i64 x111'), (.slice a112' n113' c114')])
  (let g120 : Hp := g119.wr h118'.nx 0 [(.slice a108' n109' c110'), (.int .i64 x111'), (.slice a112' n113' c114')]
  ∃ a121' n122' c123', ∃ h124', EvC Tryz.prog O 49 [(.slice a8 n8 c8), (.slice a9 n9 c9)] g120 (.slice a121' n122' c123') h124' ∧
  ∃ a125' n126' c127', ∃ h128', EvC Tryz.prog O 53 [(.slice a8 n8 c8), (.slice a121' n122' c123')] h124' (.slice a125' n126' c127') h128' ∧
  ∃ a129' n130' c131', ∃ x132', ∃ a133' n134' c135', ∃ a136' n137' c138', ∃ h139', EvC Tryz.prog O 52 [(.slice a125' n126' c127'), (.slice a121' n122' c123'), (.slice a9 n9 c9), (.int .i64 (Int.tmod (wrapF .i64 x2) 8))] h128' (.tuple #[(.agg #[(.slice a129' n130' c131'), (.int .i64 x132'), (.slice a133' n134' c135')]), (.slice a136' n137' c138')]) h139' ∧
  let g140 : Hp := h139'.add (.cells [(.slice none 0 0), (.int .i64 0), (.slice none 0 0)] 24 .fix)
  vreq (canW g140 h139'.nx 0 [(.slice a129' n130' c131'), (.int .i64 x132'), (.slice a133' n134' c135')])
  (let g141 : Hp := g140.wr h139'.nx 0 [(.slice a129' n130' c131'), (.int .i64 x132'), (.slice a133' n134' c135')]
  ∃ a142' n143' c144', ∃ x145', ∃ a146' n147' c148', readAt g141 b7 f7 3 = some [(.slice a142' n143' c144'), (.int .i64 x145'), (.slice a146' n147' c148')] ∧
  ∃ a149' n150' c151', ∃ x152', ∃ a153' n154' c155', ∃ x156', ∃ h157', EvC Tryz.prog O 15 [(.agg #[(.slice a142' n143' c144'), (.int .i64 x145'), (.slice a146' n147' c148')])] g141 (.tuple #[(.agg #[(.slice a149' n150' c151'), (.int .i64 x152'), (.slice a153' n154' c155')]), (.int .i64 x156')]) h157' ∧
  let g158 : Hp := h157'.add (.cells [(.slice none 0 0), (.int .i64 0), (.slice none 0 0)] 24 .fix)
  vreq (canW g158 h157'.nx 0 [(.slice a149' n150' c151'), (.int .i64 x152'), (.slice a153' n154' c155')])
  (let g159 : Hp := g158.wr h157'.nx 0 [(.slice a149' n150' c151'), (.int .i64 x152'), (.slice a153' n154' c155')]
  ∃ a160' n161' c162', ∃ x163', ∃ a164' n165' c166', readAt g159 h157'.nx 0 3 = some [(.slice a160' n161' c162'), (.int .i64 x163'), (.slice a164' n165' c166')] ∧
  ∃ a167' n168' c169', ∃ x170', ∃ a171' n172' c173', ∃ x174', ∃ h175', EvC Tryz.prog O 15 [(.agg #[(.slice a160' n161' c162'), (.int .i64 x163'), (.slice a164' n165' c166')])] g159 (.tuple #[(.agg #[(.slice a167' n168' c169'), (.int .i64 x170'), (.slice a171' n172' c173')]), (.int .i64 x174')]) h175' ∧
  let g176 : Hp := h175'.add (.cells [(.slice none 0 0), (.int .i64 0), (.slice none 0 0)] 24 .fix)
  vreq (canW g176 h175'.nx 0 [(.slice a167' n168' c169'), (.int .i64 x170'), (.slice a171' n172' c173')])
  (let g177 : Hp := g176.wr h175'.nx 0 [(.slice a167' n168' c169'), (.int .i64 x170'), (.slice a171' n172' c173')]
  ∃ a178' n179' c180', ∃ x181', ∃ a182' n183' c184', readAt g177 b7 f7 3 = some [(.slice a178' n179' c180'), (.int .i64 x181'), (.slice a182' n183' c184')] ∧
  ∃ a185' n186' c187', ∃ x188', ∃ a189' n190' c191', readAt g177 h118'.nx 0 3 = some [(.slice a185' n186' c187'), (.int .i64 x188'), (.slice a189' n190' c191')] ∧
  ∃ q192', ∃ x193', ∃ h194', EvC Tryz.prog O 22 [(.agg #[(.slice a178' n179' c180'), (.int .i64 x181'), (.slice a182' n183' c184')]), (.agg #[(.slice a185' n186' c187'), (.int .i64 x188'), (.slice a189' n190' c191')])] g177 (.tuple #[(.bool q192'), (.int .i64 x193')]) h194' ∧
  ∃ a195' n196' c197', ∃ x198', ∃ a199' n200' c201', readAt h194' h139'.nx 0 3 = some [(.slice a195' n196' c197'), (.int .i64 x198'), (.slice a199' n200' c201')] ∧
  ∃ a202' n203' c204', ∃ x205', ∃ a206' n207' c208', readAt h194' b7 f7 3 = some [(.slice a202' n203' c204'), (.int .i64 x205'), (.slice a206' n207' c208')] ∧
  ∃ q209', ∃ x210', ∃ h211', EvC Tryz.prog O 22 [(.agg #[(.slice a195' n196' c197'), (.int .i64 x198'), (.slice a199' n200' c201')]), (.agg #[(.slice a202' n203' c204'), (.int .i64 x205'), (.slice a206' n207' c208')])] h194' (.tuple #[(.bool q209'), (.int .i64 x210')]) h211' ∧
  vcond (!(eqI x156' 0))
  (Q (.bool false) h211')
  (vcond (!(eqI x174' 0))
  (Q (.bool false) h211')
  (∃ a212' n213' c214', ∃ x215', ∃ a216' n217' c218', readAt h211' h157'.nx 0 3 = some [(.slice a212' n213' c214'), (.int .i64 x215'), (.slice a216' n217' c218')] ∧
  ∃ a219' n220' c221', ∃ x222', ∃ a223' n224' c225', readAt h211' h175'.nx 0 3 = some [(.slice a219' n220' c221'), (.int .i64 x222'), (.slice a223' n224' c225')] ∧
  ∃ q226', ∃ h227', EvC Tryz.prog O 19 [(.agg #[(.slice a212' n213' c214'), (.int .i64 x215'), (.slice a216' n217' c218')]), (.agg #[(.slice a219' n220' c221'), (.int .i64 x222'), (.slice a223' n224' c225')])] h211' (.bool q226') h227' ∧
  vcond (!q226')
  (Q (.bool false) h227')
  (vcond (!(eqI x193' 0))
  (Q (.bool false) h227')
  (vcond (!q192')
  (Q (.bool false) h227')
  (vcond (!(eqI x210' 0))
  (Q (.bool false) h227')
  (vcond (!q209')
  (Q (.bool false) h227')
  (∃ a228' n229' c230', ∃ x231', ∃ a232' n233' c234', readAt h227' h139'.nx 0 3 = some [(.slice a228' n229' c230'), (.int .i64 x231'), (.slice a232' n233' c234')] ∧
  let g235 : Hp := h227'.add (.cells [(.slice none 0 0), (.int .i64 0), (.slice none 0 0)] 24 .fix)
  vreq (canW g235 h227'.nx 0 [(.slice a228' n229' c230'), (.int .i64 x231'), (.slice a232' n233' c234')])
  (let g236 : Hp := g235.wr h227'.nx 0 [(.slice a228' n229' c230'), (.int .i64 x231'), (.slice a232' n233' c234')]
  ∃ a237' n238' c239', readAt g236 h139'.nx 2 1 = some [(.slice a237' n238' c239')] ∧
  ∃ a240' n241' c242', ∃ h243', EvC Tryz.prog O 46 [(.slice a237' n238' c239')] g236 (.slice a240' n241' c242') h243' ∧
  let g244 : Hp := h243'.add (.cells [(.int .i64 (wrapF .i64 ((wrapF .i64 (2 * (wrapF .i64 x2))) + 1)))] 3 .fix)
  ∃ a245' n246' c247' h248', appendV Tryz.prog g244 22 22 (.slice a240' n241' c242') (.slice (some ⟨h243'.nx, 0, none⟩) 1 1) = some (.slice a245' n246' c247', h248') ∧
  vreq (canW h248' h227'.nx 2 [(.slice a245' n246' c247')])
  (let g249 : Hp := h248'.wr h227'.nx 2 [(.slice a245' n246' c247')]
  ∃ a250' n251' c252', ∃ x253', ∃ a254' n255' c256', readAt g249 h227'.nx 0 3 = some [(.slice a250' n251' c252'), (.int .i64 x253'), (.slice a254' n255' c256')] ∧
  ∃ a257' n258' c259', ∃ x260', ∃ a261' n262' c263', readAt g249 b7 f7 3 = some [(.slice a257' n258' c259'), (.int .i64 x260'), (.slice a261' n262' c263')] ∧
  ∃ q264', ∃ x265', ∃ h266', EvC Tryz.prog O 22 [(.agg #[(.slice a250' n251' c252'), (.int .i64 x253'), (.slice a254' n255' c256')]), (.agg #[(.slice a257' n258' c259'), (.int .i64 x260'), (.slice a261' n262' c263')])] g249 (.tuple #[(.bool q264'), (.int .i64 x265')]) h266' ∧
  vcond (eqI x265' 0)
  (vcond (!q264')
  (∃ q267', ∃ h268', EvC Tryz.prog O 14 [] h266' (.bool q267') h268' ∧
  Q (.bool q267') h268')
  (Q (.bool false) h266'))
  (Q (.bool false) h266')))))))))))))))
theorem I12_0.of {O Q} (v0 v1 x2 b4 f4 b7 f7 a8 n8 c8 a9 n9 c9 a11 n11 c11 x35 x36) {h : Hp} (hh : T12_0 O Q v0 v1 x2 b4 f4 b7 f7 a8 n8 c8 a9 n9 c9 a11 n11 c11 x35 x36 h) : I12_0 O Q v0 v1 x2 b4 f4 b7 f7 a8 n8 c8 a9 n9 c9 a11 n11 c11 x35 x36 h :=
  RKL.of (tb := lv12) (cuts := []) 500 fun _ => Eq.mp (by kernel_rfl) hh
/-! (sward/swardlaw15.Pile).made -/
noncomputable def b43 : Code := (Tryz.f43.body).getD .skip
def lv43 : List (Nat × List Nat) := []
def T43 (O : CallF) (Q : Value → Hp → Prop) (v0 : Array Value) (h : Hp) : Prop :=
  vreq (v0.toList.all one)
  (let g1 : Hp := h.add (.cells v0.toList 62 .fix)
  let g2 : Hp := g1.add (.cells [(.slice none 0 0), (.int .i64 0), (.slice none 0 0)] 24 .fix)
  ∃ l3', readAt g2 h.nx 0 51 = some l3' ∧
  ∃ a4' n5' c6', ∃ a7' n8' c9', ∃ h10', EvC Tryz.prog O 106 [(.agg l3'.toArray)] g2 (.tuple #[(.slice a4' n5' c6'), (.slice a7' n8' c9')]) h10' ∧
  let g11 : Hp := h10'.rsv 16
  ∃ x12', readAt g11 h.nx 1 1 = some [(.int .u8 x12')] ∧
  ∃ a13' n14' c15', ∃ h16', EvC Tryz.prog O 51 [(.int .i64 (Int.ofNat n5'))] (g11.grd [h.nx]) (.slice a13' n14' c15') h16' ∧
  let g17 : Hp := h16'.rst g11
  ∃ a18' n19' c20', ∃ x21', ∃ a22' n23' c24', ∃ a25' n26' c27', ∃ h28', EvC Tryz.prog O 52 [(.slice a4' n5' c6'), (.slice a13' n14' c15'), (.slice a7' n8' c9'), (.int .i64 (Int.tmod (wrapF .i64 x12') 16))] (g17.grd []) (.tuple #[(.agg #[(.slice a18' n19' c20'), (.int .i64 x21'), (.slice a22' n23' c24')]), (.slice a25' n26' c27')]) h28' ∧
  let g29 : Hp := h28'.rst g17
  vreq (g29.free (h10'.nx + 13))
  (let g30 : Hp := g29.lay (h10'.nx + 13) (.cells [(.slice none 0 0), (.int .i64 0), (.slice none 0 0)] 24 .fix)
  vreq (canW (g30.grd []) (h10'.nx + 13) 0 [(.slice a18' n19' c20'), (.int .i64 x21'), (.slice a22' n23' c24')])
  (let g31 : Hp := (g30.grd []).wr (h10'.nx + 13) 0 [(.slice a18' n19' c20'), (.int .i64 x21'), (.slice a22' n23' c24')]
  let g32 : Hp := g31.rst g30
  ∃ a33' n34' c35', ∃ x36', ∃ a37' n38' c39', readAt g32 (h10'.nx + 13) 0 3 = some [(.slice a33' n34' c35'), (.int .i64 x36'), (.slice a37' n38' c39')] ∧
  vreq (canW g32 g1.nx 0 [(.slice a33' n34' c35'), (.int .i64 x36'), (.slice a37' n38' c39')])
  (let g40 : Hp := g32.wr g1.nx 0 [(.slice a33' n34' c35'), (.int .i64 x36'), (.slice a37' n38' c39')]
  ∃ a41' n42' c43', ∃ x44', ∃ a45' n46' c47', readAt g40 g1.nx 0 3 = some [(.slice a41' n42' c43'), (.int .i64 x44'), (.slice a45' n46' c47')] ∧
  Q (.tuple #[(.agg #[(.slice a41' n42' c43'), (.int .i64 x44'), (.slice a45' n46' c47')]), (.slice a4' n5' c6'), (.slice a7' n8' c9'), (.slice a25' n26' c27')]) g40))))
theorem rk43 {O Q} (v0) {h : Hp} (hO : O 43 [(.agg v0)] h = none) (hh : T43 O Q v0 h) : Ret Tryz.prog O 43 [(.agg v0)] h Q :=
  .of (c := b43) Tryz.func43 (by kernel_rfl) hO (V_ok (tb := lv43) (cuts := []) 500 (Eq.mp (by kernel_rfl) hh))
/-! slices.Clone[[]sward/swardlaw15.field,sward/swardlaw15.field] -/
noncomputable def b47 : Code := (Tryz.f47.body).getD .skip
def lv47 : List (Nat × List Nat) := []
def T47 (O : CallF) (Q : Value → Hp → Prop) (a0 : Option Addr) (n0 : Nat) (c0 : Nat) (h : Hp) : Prop :=
  vnil a0
  (Q (.slice none 0 0) h)
  (let g1 : Hp := h.add (.cells [] 76 .fix)
  ∃ a2' n3' c4' h5', appendV Tryz.prog g1 64 64 (.slice (some ⟨h.nx, 0, none⟩) 0 0) (.slice a0 n0 c0) = some (.slice a2' n3' c4', h5') ∧
  Q (.slice a2' n3' c4') h5')
theorem rk47 {O Q} (a0 n0 c0) {h : Hp} (hO : O 47 [(.slice a0 n0 c0)] h = none) (hh : T47 O Q a0 n0 c0 h) : Ret Tryz.prog O 47 [(.slice a0 n0 c0)] h Q :=
  .of (c := b47) Tryz.func47 (by kernel_rfl) hO (V_ok (tb := lv47) (cuts := []) 500 (Eq.mp (by kernel_rfl) hh))
/-! (sward/swardlaw15.cell).holds -/
noncomputable def b48 : Code := (Tryz.f48.body).getD .skip
def lv48 : List (Nat × List Nat) := []
def T48 (O : CallF) (Q : Value → Hp → Prop) (x0_0 : Int) (a0_1 : Option Addr) (n0_1 : Nat) (c0_1 : Nat) (h : Hp) : Prop :=
  let g1 : Hp := h.add (.cells [(.int .i64 x0_0), (.slice a0_1 n0_1 c0_1)] 72 .fix)
  ∃ x2', readAt g1 h.nx 0 1 = some [(.int .i64 x2')] ∧
  vcond (eqI x2' 1)
  (Q (.bool true) g1)
  (∃ x3', readAt g1 h.nx 0 1 = some [(.int .i64 x3')] ∧
  Q (.bool (eqI x3' 2)) g1)
theorem rk48 {O Q} (x0_0 a0_1 n0_1 c0_1) {h : Hp} (hO : O 48 [(.agg #[(.int .i64 x0_0), (.slice a0_1 n0_1 c0_1)])] h = none) (hh : T48 O Q x0_0 a0_1 n0_1 c0_1 h) : Ret Tryz.prog O 48 [(.agg #[(.int .i64 x0_0), (.slice a0_1 n0_1 c0_1)])] h Q :=
  .of (c := b48) Tryz.func48 (by kernel_rfl) hO (V_ok (tb := lv48) (cuts := []) 500 (Eq.mp (by kernel_rfl) hh))
/-! sward/swardlaw15.reached -/
noncomputable def b49 : Code := (Tryz.f49.body).getD .skip
noncomputable def stk49_0 : List KI := [.code (sub [1, 1, 1, 0, 1, 0] b49), .blk 0, .code (sub [1, 1, 1, 1] b49)]
noncomputable def stk49_1 : List KI := [.code (sub [1, 1, 1, 1, 0, 1, 0] b49), .blk 2, .code (sub [1, 1, 1, 1, 1] b49)]
noncomputable def stk49_2 : List KI := [.code (sub [1, 1, 1, 1, 0, 1, 0, 0, 1, 0, 0, 1, 1, 0, 1, 0] b49), .blk 4, .blk 3, .code (sub [1, 1, 1, 1, 0, 1, 0, 0, 1, 1] b49), .code (sub [1, 1, 1, 1, 0, 1, 0] b49), .blk 2, .code (sub [1, 1, 1, 1, 1] b49)]
def lv49 : List (Nat × List Nat) := [(0, [0, 4, 5, 6, 14, 15, 16]), (2, [0, 4, 5, 6, 9]), (4, [0, 4, 5, 6, 9, 40, 41, 42])]
def I49_0 (O : CallF) (Q : Value → Hp → Prop) (a0 : Option Addr) (n0 : Nat) (c0 : Nat) (a1 : Option Addr) (n1 : Nat) (c1 : Nat) (b5 : Nat) (f5 : Nat) (v6 : Value) (x16 : Int) (h : Hp) : Prop := RKL Tryz.prog O Tryz.f49 stk49_0 51 [0, 4, 5, 6, 14, 15, 16] [(.slice a0 n0 c0), (.slice none 0 0), (.pointer (some ⟨b5, f5, none⟩)), v6, (.slice a1 n1 c1), (.int .i64 (Int.ofNat n1)), (.int .i64 x16)] h Q
def I49_1 (O : CallF) (Q : Value → Hp → Prop) (a0 : Option Addr) (n0 : Nat) (c0 : Nat) (a1 : Option Addr) (n1 : Nat) (c1 : Nat) (b5 : Nat) (f5 : Nat) (v6 : Value) (x9 : Int) (h : Hp) : Prop := RKL Tryz.prog O Tryz.f49 stk49_1 51 [0, 4, 5, 6, 9] [(.slice a0 n0 c0), (.slice none 0 0), (.pointer (some ⟨b5, f5, none⟩)), v6, (.int .i64 x9)] h Q
def I49_2 (O : CallF) (Q : Value → Hp → Prop) (a0 : Option Addr) (n0 : Nat) (c0 : Nat) (a1 : Option Addr) (n1 : Nat) (c1 : Nat) (b5 : Nat) (f5 : Nat) (v6 : Value) (x9 : Int) (a40 : Option Addr) (n40 : Nat) (c40 : Nat) (x41 : Int) (x42 : Int) (h : Hp) : Prop := RKL Tryz.prog O Tryz.f49 stk49_2 51 [0, 4, 5, 6, 9, 40, 41, 42] [(.slice a0 n0 c0), (.slice none 0 0), (.pointer (some ⟨b5, f5, none⟩)), v6, (.int .i64 x9), (.slice a40 n40 c40), (.int .i64 x41), (.int .i64 x42)] h Q
def T49 (O : CallF) (Q : Value → Hp → Prop) (a0 : Option Addr) (n0 : Nat) (c0 : Nat) (a1 : Option Addr) (n1 : Nat) (c1 : Nat) (h : Hp) : Prop :=
  let g1 : Hp := h.add (.cells [(.slice none 0 0)] 22 .fix)
  I49_0 O Q a0 n0 c0 a1 n1 c1 h.nx 0 (.func (.func 108) #[] #[(.pointer (some ⟨h.nx, 0, none⟩))]) 0 g1
theorem rk49 {O Q} (a0 n0 c0 a1 n1 c1) {h : Hp} (hO : O 49 [(.slice a0 n0 c0), (.slice a1 n1 c1)] h = none) (hh : T49 O Q a0 n0 c0 a1 n1 c1 h) : Ret Tryz.prog O 49 [(.slice a0 n0 c0), (.slice a1 n1 c1)] h Q :=
  .of (c := b49) Tryz.func49 (by kernel_rfl) hO (V_ok (tb := lv49) (cuts := []) 500 (Eq.mp (by kernel_rfl) hh))
def T49_0 (O : CallF) (Q : Value → Hp → Prop) (a0 : Option Addr) (n0 : Nat) (c0 : Nat) (a1 : Option Addr) (n1 : Nat) (c1 : Nat) (b5 : Nat) (f5 : Nat) (v6 : Value) (x16 : Int) (h : Hp) : Prop :=
  vcond (ltI x16 (Int.ofNat n1))
  (isNat x16 fun n101' =>
  isAddr a1 fun b102' f103' =>
  vreq (Nat.blt n101' n1)
  (∃ x104', ∃ q105', readAt h b102' (f103' + (n101' * 2)) 2 = some [(.int .i64 x104'), (.bool q105')] ∧
  let g106 : Hp := h.add (.cells [(.int .i64 0), (.bool false)] 76 .fix)
  vreq (canW g106 h.nx 0 [(.int .i64 x104'), (.bool q105')])
  (let g107 : Hp := g106.wr h.nx 0 [(.int .i64 x104'), (.bool q105')]
  ∃ x108', ∃ q109', readAt g107 h.nx 0 2 = some [(.int .i64 x108'), (.bool q109')] ∧
  isFn v6 fun g110' r111' r112' =>
  ∃ h113', EvC Tryz.prog O g110' (r111' ++ [(.agg #[(.int .i64 x108'), (.bool q109')])] ++ r112') g107 undef h113' ∧
  I49_0 O Q a0 n0 c0 a1 n1 c1 b5 f5 v6 (wrapF .i64 (x16 + 1)) h113')))
  (I49_1 O Q a0 n0 c0 a1 n1 c1 b5 f5 v6 0 h)
theorem I49_0.of {O Q} (a0 n0 c0 a1 n1 c1 b5 f5 v6 x16) {h : Hp} (hh : T49_0 O Q a0 n0 c0 a1 n1 c1 b5 f5 v6 x16 h) : I49_0 O Q a0 n0 c0 a1 n1 c1 b5 f5 v6 x16 h :=
  RKL.of (tb := lv49) (cuts := []) 500 fun _ => Eq.mp (by kernel_rfl) hh
def T49_1 (O : CallF) (Q : Value → Hp → Prop) (a0 : Option Addr) (n0 : Nat) (c0 : Nat) (a1 : Option Addr) (n1 : Nat) (c1 : Nat) (b5 : Nat) (f5 : Nat) (v6 : Value) (x9 : Int) (h : Hp) : Prop :=
  ∃ a201' n202' c203', readAt h b5 f5 1 = some [(.slice a201' n202' c203')] ∧
  vcond (ltI x9 (Int.ofNat n202'))
  (∃ a204' n205' c206', readAt h b5 f5 1 = some [(.slice a204' n205' c206')] ∧
  isNat x9 fun n207' =>
  isAddr a204' fun b208' f209' =>
  vreq (Nat.blt n207' n205')
  (∃ x210', readAt h b208' (f209' + (n207' * 1)) 1 = some [(.int .i64 x210')] ∧
  isNat x210' fun n211' =>
  isAddr a0 fun b212' f213' =>
  vreq (Nat.blt n211' n0)
  (∃ x214', ∃ a215' n216' c217', readAt h b212' (f213' + (n211' * 2)) 2 = some [(.int .i64 x214'), (.slice a215' n216' c217')] ∧
  let g218 : Hp := h.add (.cells [(.int .i64 0), (.slice none 0 0)] 72 .fix)
  vreq (canW g218 h.nx 0 [(.int .i64 x214'), (.slice a215' n216' c217')])
  (let g219 : Hp := g218.wr h.nx 0 [(.int .i64 x214'), (.slice a215' n216' c217')]
  ∃ x220', ∃ a221' n222' c223', readAt g219 h.nx 0 2 = some [(.int .i64 x220'), (.slice a221' n222' c223')] ∧
  ∃ q224', ∃ h225', EvC Tryz.prog O 48 [(.agg #[(.int .i64 x220'), (.slice a221' n222' c223')])] g219 (.bool q224') h225' ∧
  vcond q224'
  (∃ a226' n227' c228', readAt h225' h.nx 1 1 = some [(.slice a226' n227' c228')] ∧
  I49_2 O Q a0 n0 c0 a1 n1 c1 b5 f5 v6 x9 a226' n227' c228' (Int.ofNat n227') 0 h225')
  (I49_1 O Q a0 n0 c0 a1 n1 c1 b5 f5 v6 (wrapF .i64 (x9 + 1)) h225')))))
  (∃ a229' n230' c231', readAt h b5 f5 1 = some [(.slice a229' n230' c231')] ∧
  Q (.slice a229' n230' c231') h)
theorem I49_1.of {O Q} (a0 n0 c0 a1 n1 c1 b5 f5 v6 x9) {h : Hp} (hh : T49_1 O Q a0 n0 c0 a1 n1 c1 b5 f5 v6 x9 h) : I49_1 O Q a0 n0 c0 a1 n1 c1 b5 f5 v6 x9 h :=
  RKL.of (tb := lv49) (cuts := []) 500 fun _ => Eq.mp (by kernel_rfl) hh
def T49_2 (O : CallF) (Q : Value → Hp → Prop) (a0 : Option Addr) (n0 : Nat) (c0 : Nat) (a1 : Option Addr) (n1 : Nat) (c1 : Nat) (b5 : Nat) (f5 : Nat) (v6 : Value) (x9 : Int) (a40 : Option Addr) (n40 : Nat) (c40 : Nat) (x41 : Int) (x42 : Int) (h : Hp) : Prop :=
  vcond (ltI x42 x41)
  (isNat x42 fun n301' =>
  isAddr a40 fun b302' f303' =>
  vreq (Nat.blt n301' n40)
  (∃ x304', ∃ q305', readAt h b302' (f303' + (n301' * 2)) 2 = some [(.int .i64 x304'), (.bool q305')] ∧
  let g306 : Hp := h.add (.cells [(.int .i64 0), (.bool false)] 76 .fix)
  vreq (canW g306 h.nx 0 [(.int .i64 x304'), (.bool q305')])
  (let g307 : Hp := g306.wr h.nx 0 [(.int .i64 x304'), (.bool q305')]
  ∃ x308', ∃ q309', readAt g307 h.nx 0 2 = some [(.int .i64 x308'), (.bool q309')] ∧
  isFn v6 fun g310' r311' r312' =>
  ∃ h313', EvC Tryz.prog O g310' (r311' ++ [(.agg #[(.int .i64 x308'), (.bool q309')])] ++ r312') g307 undef h313' ∧
  I49_2 O Q a0 n0 c0 a1 n1 c1 b5 f5 v6 x9 a40 n40 c40 x41 (wrapF .i64 (x42 + 1)) h313')))
  (I49_1 O Q a0 n0 c0 a1 n1 c1 b5 f5 v6 (wrapF .i64 (x9 + 1)) h)
theorem I49_2.of {O Q} (a0 n0 c0 a1 n1 c1 b5 f5 v6 x9 a40 n40 c40 x41 x42) {h : Hp} (hh : T49_2 O Q a0 n0 c0 a1 n1 c1 b5 f5 v6 x9 a40 n40 c40 x41 x42 h) : I49_2 O Q a0 n0 c0 a1 n1 c1 b5 f5 v6 x9 a40 n40 c40 x41 x42 h :=
  RKL.of (tb := lv49) (cuts := []) 500 fun _ => Eq.mp (by kernel_rfl) hh
/-! sward/swardlaw15.upTo -/
noncomputable def b51 : Code := (Tryz.f51.body).getD .skip
noncomputable def stk51_0 : List KI := [.code (sub [1, 1, 0, 1, 0] b51), .blk 0, .code (sub [1, 1, 1] b51)]
def lv51 : List (Nat × List Nat) := [(0, [2, 3, 5, 6])]
def I51_0 (O : CallF) (Q : Value → Hp → Prop) (x0 : Int) (a3 : Option Addr) (n3 : Nat) (c3 : Nat) (x6 : Int) (h : Hp) : Prop := RKL Tryz.prog O Tryz.f51 stk51_0 15 [2, 3, 5, 6] [(.slice none 0 0), (.slice a3 n3 c3), (.int .i64 x0), (.int .i64 x6)] h Q
def T51 (O : CallF) (Q : Value → Hp → Prop) (x0 : Int) (h : Hp) : Prop :=
  I51_0 O Q x0 none 0 0 0 h
theorem rk51 {O Q} (x0) {h : Hp} (hO : O 51 [(.int .i64 x0)] h = none) (hh : T51 O Q x0 h) : Ret Tryz.prog O 51 [(.int .i64 x0)] h Q :=
  .of (c := b51) Tryz.func51 (by kernel_rfl) hO (V_ok (tb := lv51) (cuts := []) 500 (Eq.mp (by kernel_rfl) hh))
def T51_0 (O : CallF) (Q : Value → Hp → Prop) (x0 : Int) (a3 : Option Addr) (n3 : Nat) (c3 : Nat) (x6 : Int) (h : Hp) : Prop :=
  vcond (ltI x6 x0)
  (let g101 : Hp := h.add (.cells [(.int .i64 x6)] 3 .fix)
  ∃ a102' n103' c104' h105', appendV Tryz.prog g101 22 22 (.slice a3 n3 c3) (.slice (some ⟨h.nx, 0, none⟩) 1 1) = some (.slice a102' n103' c104', h105') ∧
  I51_0 O Q x0 a102' n103' c104' (wrapF .i64 (x6 + 1)) h105')
  (Q (.slice a3 n3 c3) h)
theorem I51_0.of {O Q} (x0 a3 n3 c3 x6) {h : Hp} (hh : T51_0 O Q x0 a3 n3 c3 x6 h) : I51_0 O Q x0 a3 n3 c3 x6 h :=
  RKL.of (tb := lv51) (cuts := []) 500 fun _ => Eq.mp (by kernel_rfl) hh
/-! sward/swardlaw15.laid -/
noncomputable def b52 : Code := (Tryz.f52.body).getD .skip
noncomputable def stk52_0 : List KI := [.code (sub [1, 1, 1, 0, 1, 0] b52), .blk 0, .code (sub [1, 1, 1, 1] b52)]
noncomputable def stk52_1 : List KI := [.code (sub [1, 1, 1, 1, 1, 1, 0, 1, 0] b52), .blk 2, .code (sub [1, 1, 1, 1, 1, 1, 1] b52)]
noncomputable def stk52_2 : List KI := [.code (sub [1, 1, 1, 1, 1, 1, 0, 1, 0, 0, 1, 1, 0, 0, 1, 1, 1, 0] b52), .blk 4, .blk 3, .code (sub [1, 1, 1, 1, 1, 1, 0, 1, 0, 0, 1, 1, 1] b52), .code (sub [1, 1, 1, 1, 1, 1, 0, 1, 0] b52), .blk 2, .code (sub [1, 1, 1, 1, 1, 1, 1] b52)]
noncomputable def stk52_3 : List KI := [.code (sub [1, 1, 1, 1, 1, 1, 1, 0, 1, 0] b52), .blk 6, .code (sub [1, 1, 1, 1, 1, 1, 1, 1] b52)]
def lv52 : List (Nat × List Nat) := [(0, [0, 1, 2, 3, 8, 9, 10, 11, 26, 27, 28]), (2, [0, 2, 8, 9, 10, 11, 14, 56, 57, 58]), (4, [0, 2, 8, 9, 10, 11, 14, 16, 56, 57, 58, 86, 87, 88]), (6, [8, 9, 10, 11, 14, 108, 109, 110])]
def I52_0 (O : CallF) (Q : Value → Hp → Prop) (a0 : Option Addr) (n0 : Nat) (c0 : Nat) (a1 : Option Addr) (n1 : Nat) (c1 : Nat) (a2 : Option Addr) (n2 : Nat) (c2 : Nat) (x3 : Int) (b8 : Nat) (f8 : Nat) (b10 : Nat) (f10 : Nat) (b11 : Nat) (f11 : Nat) (x28 : Int) (h : Hp) : Prop := RKL Tryz.prog O Tryz.f52 stk52_0 125 [0, 1, 2, 3, 8, 9, 10, 11, 26, 27, 28] [(.slice a0 n0 c0), (.slice a1 n1 c1), (.slice a2 n2 c2), (.int .i64 x3), (.pointer (some ⟨b8, f8, none⟩)), (.slice none 0 0), (.pointer (some ⟨b10, f10, none⟩)), (.pointer (some ⟨b11, f11, none⟩)), (.slice a1 n1 c1), (.int .i64 (Int.ofNat n1)), (.int .i64 x28)] h Q
def I52_1 (O : CallF) (Q : Value → Hp → Prop) (a0 : Option Addr) (n0 : Nat) (c0 : Nat) (a1 : Option Addr) (n1 : Nat) (c1 : Nat) (a2 : Option Addr) (n2 : Nat) (c2 : Nat) (x3 : Int) (b8 : Nat) (f8 : Nat) (b10 : Nat) (f10 : Nat) (b11 : Nat) (f11 : Nat) (v14 : Value) (x58 : Int) (h : Hp) : Prop := RKL Tryz.prog O Tryz.f52 stk52_1 125 [0, 2, 8, 9, 10, 11, 14, 56, 57, 58] [(.slice a0 n0 c0), (.slice a2 n2 c2), (.pointer (some ⟨b8, f8, none⟩)), (.slice none 0 0), (.pointer (some ⟨b10, f10, none⟩)), (.pointer (some ⟨b11, f11, none⟩)), v14, (.slice a1 n1 c1), (.int .i64 (Int.ofNat n1)), (.int .i64 x58)] h Q
def I52_2 (O : CallF) (Q : Value → Hp → Prop) (a0 : Option Addr) (n0 : Nat) (c0 : Nat) (a1 : Option Addr) (n1 : Nat) (c1 : Nat) (a2 : Option Addr) (n2 : Nat) (c2 : Nat) (x3 : Int) (b8 : Nat) (f8 : Nat) (b10 : Nat) (f10 : Nat) (b11 : Nat) (f11 : Nat) (v14 : Value) (x16 : Int) (x58 : Int) (a86 : Option Addr) (n86 : Nat) (c86 : Nat) (x87 : Int) (x88 : Int) (h : Hp) : Prop := RKL Tryz.prog O Tryz.f52 stk52_2 125 [0, 2, 8, 9, 10, 11, 14, 16, 56, 57, 58, 86, 87, 88] [(.slice a0 n0 c0), (.slice a2 n2 c2), (.pointer (some ⟨b8, f8, none⟩)), (.slice none 0 0), (.pointer (some ⟨b10, f10, none⟩)), (.pointer (some ⟨b11, f11, none⟩)), v14, (.int .i64 x16), (.slice a1 n1 c1), (.int .i64 (Int.ofNat n1)), (.int .i64 x58), (.slice a86 n86 c86), (.int .i64 x87), (.int .i64 x88)] h Q
def I52_3 (O : CallF) (Q : Value → Hp → Prop) (a0 : Option Addr) (n0 : Nat) (c0 : Nat) (a1 : Option Addr) (n1 : Nat) (c1 : Nat) (a2 : Option Addr) (n2 : Nat) (c2 : Nat) (x3 : Int) (b8 : Nat) (f8 : Nat) (b10 : Nat) (f10 : Nat) (b11 : Nat) (f11 : Nat) (v14 : Value) (x110 : Int) (h : Hp) : Prop := RKL Tryz.prog O Tryz.f52 stk52_3 125 [8, 9, 10, 11, 14, 108, 109, 110] [(.pointer (some ⟨b8, f8, none⟩)), (.slice none 0 0), (.pointer (some ⟨b10, f10, none⟩)), (.pointer (some ⟨b11, f11, none⟩)), v14, (.slice a2 n2 c2), (.int .i64 (Int.ofNat n2)), (.int .i64 x110)] h Q
def T52 (O : CallF) (Q : Value → Hp → Prop) (a0 : Option Addr) (n0 : Nat) (c0 : Nat) (a1 : Option Addr) (n1 : Nat) (c1 : Nat) (a2 : Option Addr) (n2 : Nat) (c2 : Nat) (x3 : Int) (h : Hp) : Prop :=
  let g1 : Hp := h.add (.cells [(.slice none 0 0), (.int .i64 0), (.slice none 0 0)] 24 .fix)
  let g2 : Hp := g1.add (.cells [(.int .i64 (-1))] 3 .fix)
  ∃ a3' n4' c5', ∃ h6', EvC Tryz.prog O 111 [(.slice (some ⟨g1.nx, 0, none⟩) 1 1), (.int .i64 (Int.ofNat n0))] g2 (.slice a3' n4' c5') h6' ∧
  let g7 : Hp := h6'.add (.cells [(.slice none 0 0)] 22 .fix)
  vreq (canW g7 h6'.nx 0 [(.slice a3' n4' c5')])
  (let g8 : Hp := g7.wr h6'.nx 0 [(.slice a3' n4' c5')]
  let g9 : Hp := g8.add (.cells [(.slice none 0 0), (.int .i64 0), (.slice none 0 0)] 24 .fix)
  vreq (canW g9 g8.nx 0 [(.slice none 0 0), (.int .i64 1), (.slice none 0 0)])
  (let g10 : Hp := g9.wr g8.nx 0 [(.slice none 0 0), (.int .i64 1), (.slice none 0 0)]
  I52_0 O Q a0 n0 c0 a1 n1 c1 a2 n2 c2 x3 h.nx 0 h6'.nx 0 g8.nx 0 0 g10))
theorem rk52 {O Q} (a0 n0 c0 a1 n1 c1 a2 n2 c2 x3) {h : Hp} (hO : O 52 [(.slice a0 n0 c0), (.slice a1 n1 c1), (.slice a2 n2 c2), (.int .i64 x3)] h = none) (hh : T52 O Q a0 n0 c0 a1 n1 c1 a2 n2 c2 x3 h) : Ret Tryz.prog O 52 [(.slice a0 n0 c0), (.slice a1 n1 c1), (.slice a2 n2 c2), (.int .i64 x3)] h Q :=
  .of (c := b52) Tryz.func52 (by kernel_rfl) hO (V_ok (tb := lv52) (cuts := []) 500 (Eq.mp (by kernel_rfl) hh))
def T52_0 (O : CallF) (Q : Value → Hp → Prop) (a0 : Option Addr) (n0 : Nat) (c0 : Nat) (a1 : Option Addr) (n1 : Nat) (c1 : Nat) (a2 : Option Addr) (n2 : Nat) (c2 : Nat) (x3 : Int) (b8 : Nat) (f8 : Nat) (b10 : Nat) (f10 : Nat) (b11 : Nat) (f11 : Nat) (x28 : Int) (h : Hp) : Prop :=
  vcond (ltI x28 (Int.ofNat n1))
  (isNat x28 fun n101' =>
  isAddr a1 fun b102' f103' =>
  vreq (Nat.blt n101' n1)
  (∃ x104', readAt h b102' (f103' + (n101' * 1)) 1 = some [(.int .i64 x104')] ∧
  ∃ a105' n106' c107', readAt h b10 f10 1 = some [(.slice a105' n106' c107')] ∧
  ∃ x108', readAt h b11 (f11 + 1) 1 = some [(.int .i64 x108')] ∧
  isNat x104' fun n109' =>
  isAddr a105' fun b110' f111' =>
  vreq (Nat.blt n109' n106')
  (vreq (canW h b110' (f111' + (n109' * 1)) [(.int .i64 x108')])
  (let g112 : Hp := h.wr b110' (f111' + (n109' * 1)) [(.int .i64 x108')]
  let g113 : Hp := g112.rsv 12
  ∃ x114', readAt g113 b11 (f11 + 1) 1 = some [(.int .i64 x114')] ∧
  isNat x104' fun n115' =>
  isAddr a0 fun b116' f117' =>
  vreq (Nat.blt n115' n0)
  (∃ a118' n119' c120', readAt g113 b116' ((f117' + (n115' * 2)) + 1) 1 = some [(.slice a118' n119' c120')] ∧
  vreq (canW (g113.grd []) b11 (f11 + 1) [(.int .i64 (wrapF .i64 (x114' + (wrapF .i64 (1 + (Int.ofNat n119'))))))])
  (let g121 : Hp := (g113.grd []).wr b11 (f11 + 1) [(.int .i64 (wrapF .i64 (x114' + (wrapF .i64 (1 + (Int.ofNat n119'))))))]
  let g122 : Hp := g121.rst g113
  I52_0 O Q a0 n0 c0 a1 n1 c1 a2 n2 c2 x3 b8 f8 b10 f10 b11 f11 (wrapF .i64 (x28 + 1)) g122))))))
  (∃ x123', readAt h b11 (f11 + 1) 1 = some [(.int .i64 x123')] ∧
  isNat (wrapF .i64 (x123' + x3)) fun n124' =>
  isNat (wrapF .i64 (x123' + x3)) fun n125' =>
  vreq (Nat.ble n124' n125')
  (vreq (Nat.ble (n125' * 8) 281474976710656)
  (vreq (Nat.blt n125' big)
  (let g126 : Hp := h.add (.cells (List.flatten (List.replicate n125' [(.int .i64 0)])) 3 .fix)
  vreq (canW g126 b11 (f11 + 0) [(.slice (some ⟨h.nx, 0, none⟩) n124' n125')])
  (let g127 : Hp := g126.wr b11 (f11 + 0) [(.slice (some ⟨h.nx, 0, none⟩) n124' n125')]
  I52_1 O Q a0 n0 c0 a1 n1 c1 a2 n2 c2 x3 b8 f8 b10 f10 b11 f11 (.func (.func 112) #[] #[(.pointer (some ⟨b10, f10, none⟩))]) 0 g127)))))
theorem I52_0.of {O Q} (a0 n0 c0 a1 n1 c1 a2 n2 c2 x3 b8 f8 b10 f10 b11 f11 x28) {h : Hp} (hh : T52_0 O Q a0 n0 c0 a1 n1 c1 a2 n2 c2 x3 b8 f8 b10 f10 b11 f11 x28 h) : I52_0 O Q a0 n0 c0 a1 n1 c1 a2 n2 c2 x3 b8 f8 b10 f10 b11 f11 x28 h :=
  RKL.of (tb := lv52) (cuts := []) 500 fun _ => Eq.mp (by kernel_rfl) hh
def T52_1 (O : CallF) (Q : Value → Hp → Prop) (a0 : Option Addr) (n0 : Nat) (c0 : Nat) (a1 : Option Addr) (n1 : Nat) (c1 : Nat) (a2 : Option Addr) (n2 : Nat) (c2 : Nat) (x3 : Int) (b8 : Nat) (f8 : Nat) (b10 : Nat) (f10 : Nat) (b11 : Nat) (f11 : Nat) (v14 : Value) (x58 : Int) (h : Hp) : Prop :=
  vcond (ltI x58 (Int.ofNat n1))
  (isNat x58 fun n201' =>
  isAddr a1 fun b202' f203' =>
  vreq (Nat.blt n201' n1)
  (∃ x204', readAt h b202' (f203' + (n201' * 1)) 1 = some [(.int .i64 x204')] ∧
  let g205 : Hp := h.rsv 21
  ∃ a206' n207' c208', readAt g205 b11 (f11 + 0) 1 = some [(.slice a206' n207' c208')] ∧
  ∃ a209' n210' c211', readAt g205 b10 f10 1 = some [(.slice a209' n210' c211')] ∧
  isNat x204' fun n212' =>
  isAddr a209' fun b213' f214' =>
  vreq (Nat.blt n212' n210')
  (∃ x215', readAt g205 b213' (f214' + (n212' * 1)) 1 = some [(.int .i64 x215')] ∧
  isNat x204' fun n216' =>
  isAddr a0 fun b217' f218' =>
  vreq (Nat.blt n216' n0)
  (∃ a219' n220' c221', readAt g205 b217' ((f218' + (n216' * 2)) + 1) 1 = some [(.slice a219' n220' c221')] ∧
  isNat x204' fun n222' =>
  isAddr a0 fun b223' f224' =>
  vreq (Nat.blt n222' n0)
  (∃ x225', readAt g205 b223' ((f224' + (n222' * 2)) + 0) 1 = some [(.int .i64 x225')] ∧
  isNat x215' fun n226' =>
  isAddr a206' fun b227' f228' =>
  vreq (Nat.blt n226' n207')
  (vreq (canW (g205.grd []) b227' (f228' + (n226' * 1)) [(.int .i64 (wrapF .i64 ((wrapF .i64 (8 * (Int.ofNat n220'))) + x225')))])
  (let g229 : Hp := (g205.grd []).wr b227' (f228' + (n226' * 1)) [(.int .i64 (wrapF .i64 ((wrapF .i64 (8 * (Int.ofNat n220'))) + x225')))]
  let g230 : Hp := g229.rst g205
  isNat x204' fun n231' =>
  isAddr a0 fun b232' f233' =>
  vreq (Nat.blt n231' n0)
  (∃ a234' n235' c236', readAt g230 b232' ((f233' + (n231' * 2)) + 1) 1 = some [(.slice a234' n235' c236')] ∧
  I52_2 O Q a0 n0 c0 a1 n1 c1 a2 n2 c2 x3 b8 f8 b10 f10 b11 f11 v14 x204' x58 a234' n235' c236' (Int.ofNat n235') 0 g230))))))))
  (I52_3 O Q a0 n0 c0 a1 n1 c1 a2 n2 c2 x3 b8 f8 b10 f10 b11 f11 v14 0 h)
theorem I52_1.of {O Q} (a0 n0 c0 a1 n1 c1 a2 n2 c2 x3 b8 f8 b10 f10 b11 f11 v14 x58) {h : Hp} (hh : T52_1 O Q a0 n0 c0 a1 n1 c1 a2 n2 c2 x3 b8 f8 b10 f10 b11 f11 v14 x58 h) : I52_1 O Q a0 n0 c0 a1 n1 c1 a2 n2 c2 x3 b8 f8 b10 f10 b11 f11 v14 x58 h :=
  RKL.of (tb := lv52) (cuts := []) 500 fun _ => Eq.mp (by kernel_rfl) hh
def T52_2 (O : CallF) (Q : Value → Hp → Prop) (a0 : Option Addr) (n0 : Nat) (c0 : Nat) (a1 : Option Addr) (n1 : Nat) (c1 : Nat) (a2 : Option Addr) (n2 : Nat) (c2 : Nat) (x3 : Int) (b8 : Nat) (f8 : Nat) (b10 : Nat) (f10 : Nat) (b11 : Nat) (f11 : Nat) (v14 : Value) (x16 : Int) (x58 : Int) (a86 : Option Addr) (n86 : Nat) (c86 : Nat) (x87 : Int) (x88 : Int) (h : Hp) : Prop :=
  vcond (ltI x88 x87)
  (isNat x88 fun n301' =>
  isAddr a86 fun b302' f303' =>
  vreq (Nat.blt n301' n86)
  (∃ x304', ∃ q305', readAt h b302' (f303' + (n301' * 2)) 2 = some [(.int .i64 x304'), (.bool q305')] ∧
  let g306 : Hp := h.add (.cells [(.int .i64 0), (.bool false)] 76 .fix)
  vreq (canW g306 h.nx 0 [(.int .i64 x304'), (.bool q305')])
  (let g307 : Hp := g306.wr h.nx 0 [(.int .i64 x304'), (.bool q305')]
  let g308 : Hp := g307.rsv 14
  ∃ a309' n310' c311', readAt g308 b11 (f11 + 0) 1 = some [(.slice a309' n310' c311')] ∧
  ∃ a312' n313' c314', readAt g308 b10 f10 1 = some [(.slice a312' n313' c314')] ∧
  isNat x16 fun n315' =>
  isAddr a312' fun b316' f317' =>
  vreq (Nat.blt n315' n313')
  (∃ x318', readAt g308 b316' (f317' + (n315' * 1)) 1 = some [(.int .i64 x318')] ∧
  ∃ x319', ∃ q320', readAt g308 h.nx 0 2 = some [(.int .i64 x319'), (.bool q320')] ∧
  isFn v14 fun g321' r322' r323' =>
  ∃ x324', ∃ h325', EvC Tryz.prog O g321' (r322' ++ [(.agg #[(.int .i64 x319'), (.bool q320')])] ++ r323') (g308.grd [b316', b10, b11]) (.int .i64 x324') h325' ∧
  let g326 : Hp := h325'.rst g308
  isNat (wrapF .i64 ((wrapF .i64 (x318' + 1)) + x88)) fun n327' =>
  isAddr a309' fun b328' f329' =>
  vreq (Nat.blt n327' n310')
  (vreq (canW (g326.grd []) b328' (f329' + (n327' * 1)) [(.int .i64 x324')])
  (let g330 : Hp := (g326.grd []).wr b328' (f329' + (n327' * 1)) [(.int .i64 x324')]
  let g331 : Hp := g330.rst g326
  I52_2 O Q a0 n0 c0 a1 n1 c1 a2 n2 c2 x3 b8 f8 b10 f10 b11 f11 v14 x16 x58 a86 n86 c86 x87 (wrapF .i64 (x88 + 1)) g331))))))
  (I52_1 O Q a0 n0 c0 a1 n1 c1 a2 n2 c2 x3 b8 f8 b10 f10 b11 f11 v14 (wrapF .i64 (x58 + 1)) h)
theorem I52_2.of {O Q} (a0 n0 c0 a1 n1 c1 a2 n2 c2 x3 b8 f8 b10 f10 b11 f11 v14 x16 x58 a86 n86 c86 x87 x88) {h : Hp} (hh : T52_2 O Q a0 n0 c0 a1 n1 c1 a2 n2 c2 x3 b8 f8 b10 f10 b11 f11 v14 x16 x58 a86 n86 c86 x87 x88 h) : I52_2 O Q a0 n0 c0 a1 n1 c1 a2 n2 c2 x3 b8 f8 b10 f10 b11 f11 v14 x16 x58 a86 n86 c86 x87 x88 h :=
  RKL.of (tb := lv52) (cuts := []) 500 fun _ => Eq.mp (by kernel_rfl) hh
def T52_3 (O : CallF) (Q : Value → Hp → Prop) (a0 : Option Addr) (n0 : Nat) (c0 : Nat) (a1 : Option Addr) (n1 : Nat) (c1 : Nat) (a2 : Option Addr) (n2 : Nat) (c2 : Nat) (x3 : Int) (b8 : Nat) (f8 : Nat) (b10 : Nat) (f10 : Nat) (b11 : Nat) (f11 : Nat) (v14 : Value) (x110 : Int) (h : Hp) : Prop :=
  vcond (ltI x110 (Int.ofNat n2))
  (isNat x110 fun n401' =>
  isAddr a2 fun b402' f403' =>
  vreq (Nat.blt n401' n2)
  (∃ x404', ∃ q405', readAt h b402' (f403' + (n401' * 2)) 2 = some [(.int .i64 x404'), (.bool q405')] ∧
  let g406 : Hp := h.add (.cells [(.int .i64 0), (.bool false)] 76 .fix)
  vreq (canW g406 h.nx 0 [(.int .i64 x404'), (.bool q405')])
  (let g407 : Hp := g406.wr h.nx 0 [(.int .i64 x404'), (.bool q405')]
  let g408 : Hp := g407.rsv 9
  ∃ a409' n410' c411', readAt g408 b11 (f11 + 2) 1 = some [(.slice a409' n410' c411')] ∧
  ∃ x412', ∃ q413', readAt g408 h.nx 0 2 = some [(.int .i64 x412'), (.bool q413')] ∧
  isFn v14 fun g414' r415' r416' =>
  ∃ x417', ∃ h418', EvC Tryz.prog O g414' (r415' ++ [(.agg #[(.int .i64 x412'), (.bool q413')])] ++ r416') (g408.grd [b11]) (.int .i64 x417') h418' ∧
  let g419 : Hp := h418'.rst g408
  vreq (g419.free (g407.nx + 5))
  (let g420 : Hp := g419.lay (g407.nx + 5) (.cells [(.int .i64 x417')] 3 .fix)
  ∃ a421' n422' c423' h424', appendV Tryz.prog (g420.grd []) 22 22 (.slice a409' n410' c411') (.slice (some ⟨(g407.nx + 5), 0, none⟩) 1 1) = some (.slice a421' n422' c423', h424') ∧
  let g425 : Hp := h424'.rst g420
  vreq (canW (g425.grd []) b11 (f11 + 2) [(.slice a421' n422' c423')])
  (let g426 : Hp := (g425.grd []).wr b11 (f11 + 2) [(.slice a421' n422' c423')]
  let g427 : Hp := g426.rst g425
  I52_3 O Q a0 n0 c0 a1 n1 c1 a2 n2 c2 x3 b8 f8 b10 f10 b11 f11 v14 (wrapF .i64 (x110 + 1)) g427)))))
  (let g428 : Hp := h.rsv 4
  ∃ a429' n430' c431', ∃ x432', ∃ a433' n434' c435', readAt g428 b11 f11 3 = some [(.slice a429' n430' c431'), (.int .i64 x432'), (.slice a433' n434' c435')] ∧
  ∃ a436' n437' c438', readAt g428 b10 f10 1 = some [(.slice a436' n437' c438')] ∧
  vreq (canW (g428.grd [b10]) b8 f8 [(.slice a429' n430' c431'), (.int .i64 x432'), (.slice a433' n434' c435')])
  (let g439 : Hp := (g428.grd [b10]).wr b8 f8 [(.slice a429' n430' c431'), (.int .i64 x432'), (.slice a433' n434' c435')]
  let g440 : Hp := g439.rst g428
  ∃ a441' n442' c443', ∃ x444', ∃ a445' n446' c447', readAt g440 b8 f8 3 = some [(.slice a441' n442' c443'), (.int .i64 x444'), (.slice a445' n446' c447')] ∧
  Q (.tuple #[(.agg #[(.slice a441' n442' c443'), (.int .i64 x444'), (.slice a445' n446' c447')]), (.slice a436' n437' c438')]) g440))
theorem I52_3.of {O Q} (a0 n0 c0 a1 n1 c1 a2 n2 c2 x3 b8 f8 b10 f10 b11 f11 v14 x110) {h : Hp} (hh : T52_3 O Q a0 n0 c0 a1 n1 c1 a2 n2 c2 x3 b8 f8 b10 f10 b11 f11 v14 x110 h) : I52_3 O Q a0 n0 c0 a1 n1 c1 a2 n2 c2 x3 b8 f8 b10 f10 b11 f11 v14 x110 h :=
  RKL.of (tb := lv52) (cuts := []) 500 fun _ => Eq.mp (by kernel_rfl) hh
/-! sward/swardlaw15.pruned -/
noncomputable def b53 : Code := (Tryz.f53.body).getD .skip
noncomputable def stk53_0 : List KI := [.code (sub [1, 1, 0, 1, 0] b53), .blk 0, .code (sub [1, 1, 1] b53)]
noncomputable def stk53_1 : List KI := [.code (sub [1, 1, 0, 1, 0, 0, 1, 1, 0, 0, 1, 1, 0, 1, 0] b53), .blk 2, .code (sub [1, 1, 0, 1, 0, 0, 1, 1, 0, 0, 1, 1, 1] b53), .blk 1, .code (sub [1, 1, 0, 1, 0, 0, 1, 1, 1] b53), .code (sub [1, 1, 0, 1, 0] b53), .blk 0, .code (sub [1, 1, 1] b53)]
def lv53 : List (Nat × List Nat) := [(0, [1, 4, 5, 10, 11, 12]), (2, [1, 4, 5, 7, 10, 11, 12, 21, 22, 23])]
def I53_0 (O : CallF) (Q : Value → Hp → Prop) (a0 : Option Addr) (n0 : Nat) (c0 : Nat) (a1 : Option Addr) (n1 : Nat) (c1 : Nat) (a5 : Option Addr) (n5 : Nat) (c5 : Nat) (x12 : Int) (h : Hp) : Prop := RKL Tryz.prog O Tryz.f53 stk53_0 54 [1, 4, 5, 10, 11, 12] [(.slice a1 n1 c1), (.slice none 0 0), (.slice a5 n5 c5), (.slice a0 n0 c0), (.int .i64 (Int.ofNat n0)), (.int .i64 x12)] h Q
def I53_1 (O : CallF) (Q : Value → Hp → Prop) (a0 : Option Addr) (n0 : Nat) (c0 : Nat) (a1 : Option Addr) (n1 : Nat) (c1 : Nat) (a5 : Option Addr) (n5 : Nat) (c5 : Nat) (b7 : Nat) (f7 : Nat) (x12 : Int) (a21 : Option Addr) (n21 : Nat) (c21 : Nat) (x22 : Int) (x23 : Int) (h : Hp) : Prop := RKL Tryz.prog O Tryz.f53 stk53_1 54 [1, 4, 5, 7, 10, 11, 12, 21, 22, 23] [(.slice a1 n1 c1), (.slice none 0 0), (.slice a5 n5 c5), (.pointer (some ⟨b7, f7, none⟩)), (.slice a0 n0 c0), (.int .i64 (Int.ofNat n0)), (.int .i64 x12), (.slice a21 n21 c21), (.int .i64 x22), (.int .i64 x23)] h Q
def T53 (O : CallF) (Q : Value → Hp → Prop) (a0 : Option Addr) (n0 : Nat) (c0 : Nat) (a1 : Option Addr) (n1 : Nat) (c1 : Nat) (h : Hp) : Prop :=
  I53_0 O Q a0 n0 c0 a1 n1 c1 none 0 0 0 h
theorem rk53 {O Q} (a0 n0 c0 a1 n1 c1) {h : Hp} (hO : O 53 [(.slice a0 n0 c0), (.slice a1 n1 c1)] h = none) (hh : T53 O Q a0 n0 c0 a1 n1 c1 h) : Ret Tryz.prog O 53 [(.slice a0 n0 c0), (.slice a1 n1 c1)] h Q :=
  .of (c := b53) Tryz.func53 (by kernel_rfl) hO (V_ok (tb := lv53) (cuts := []) 500 (Eq.mp (by kernel_rfl) hh))
def T53_0 (O : CallF) (Q : Value → Hp → Prop) (a0 : Option Addr) (n0 : Nat) (c0 : Nat) (a1 : Option Addr) (n1 : Nat) (c1 : Nat) (a5 : Option Addr) (n5 : Nat) (c5 : Nat) (x12 : Int) (h : Hp) : Prop :=
  vcond (ltI x12 (Int.ofNat n0))
  (isNat x12 fun n101' =>
  isAddr a0 fun b102' f103' =>
  vreq (Nat.blt n101' n0)
  (∃ x104', ∃ a105' n106' c107', readAt h b102' (f103' + (n101' * 2)) 2 = some [(.int .i64 x104'), (.slice a105' n106' c107')] ∧
  let g108 : Hp := h.add (.cells [(.int .i64 0), (.slice none 0 0)] 72 .fix)
  vreq (canW g108 h.nx 0 [(.int .i64 x104'), (.slice a105' n106' c107')])
  (let g109 : Hp := g108.wr h.nx 0 [(.int .i64 x104'), (.slice a105' n106' c107')]
  ∃ a110' n111' c112', readAt g109 h.nx 1 1 = some [(.slice a110' n111' c112')] ∧
  ∃ a113' n114' c115', ∃ h116', EvC Tryz.prog O 47 [(.slice a110' n111' c112')] g109 (.slice a113' n114' c115') h116' ∧
  vreq (canW h116' h.nx 1 [(.slice a113' n114' c115')])
  (let g117 : Hp := h116'.wr h.nx 1 [(.slice a113' n114' c115')]
  ∃ a118' n119' c120', readAt g117 h.nx 1 1 = some [(.slice a118' n119' c120')] ∧
  I53_1 O Q a0 n0 c0 a1 n1 c1 a5 n5 c5 h.nx 0 x12 a118' n119' c120' (Int.ofNat n119') 0 g117))))
  (Q (.slice a5 n5 c5) h)
theorem I53_0.of {O Q} (a0 n0 c0 a1 n1 c1 a5 n5 c5 x12) {h : Hp} (hh : T53_0 O Q a0 n0 c0 a1 n1 c1 a5 n5 c5 x12 h) : I53_0 O Q a0 n0 c0 a1 n1 c1 a5 n5 c5 x12 h :=
  RKL.of (tb := lv53) (cuts := []) 500 fun _ => Eq.mp (by kernel_rfl) hh
def T53_1 (O : CallF) (Q : Value → Hp → Prop) (a0 : Option Addr) (n0 : Nat) (c0 : Nat) (a1 : Option Addr) (n1 : Nat) (c1 : Nat) (a5 : Option Addr) (n5 : Nat) (c5 : Nat) (b7 : Nat) (f7 : Nat) (x12 : Int) (a21 : Option Addr) (n21 : Nat) (c21 : Nat) (x22 : Int) (x23 : Int) (h : Hp) : Prop :=
  vcond (ltI x23 x22)
  (isNat x23 fun n201' =>
  isAddr a21 fun b202' f203' =>
  vreq (Nat.blt n201' n21)
  (∃ x204', ∃ q205', readAt h b202' (f203' + (n201' * 2)) 2 = some [(.int .i64 x204'), (.bool q205')] ∧
  let g206 : Hp := h.add (.cells [(.int .i64 0), (.bool false)] 76 .fix)
  vreq (canW g206 h.nx 0 [(.int .i64 x204'), (.bool q205')])
  (let g207 : Hp := g206.wr h.nx 0 [(.int .i64 x204'), (.bool q205')]
  ∃ q208', readAt g207 h.nx 1 1 = some [(.bool q208')] ∧
  vcond q208'
  (∃ x209', readAt g207 h.nx 0 1 = some [(.int .i64 x209')] ∧
  ∃ q210', ∃ h211', EvC Tryz.prog O 109 [(.slice a1 n1 c1), (.int .i64 x209')] g207 (.bool q210') h211' ∧
  vcond (!q210')
  (∃ x212', readAt h211' b7 (f7 + 0) 1 = some [(.int .i64 x212')] ∧
  vcond (eqI x212' 5)
  (∃ a213' n214' c215', readAt h211' b7 (f7 + 1) 1 = some [(.slice a213' n214' c215')] ∧
  isNat x23 fun n216' =>
  isAddr a213' fun b217' f218' =>
  vreq (Nat.blt n216' n214')
  (vreq (canW h211' b217' (f218' + (n216' * 2)) [(.int .i64 0), (.bool false)])
  (let g219 : Hp := h211'.wr b217' (f218' + (n216' * 2)) [(.int .i64 0), (.bool false)]
  I53_1 O Q a0 n0 c0 a1 n1 c1 a5 n5 c5 b7 f7 x12 a21 n21 c21 x22 (wrapF .i64 (x23 + 1)) g219)))
  (I53_1 O Q a0 n0 c0 a1 n1 c1 a5 n5 c5 b7 f7 x12 a21 n21 c21 x22 (wrapF .i64 (x23 + 1)) h211'))
  (I53_1 O Q a0 n0 c0 a1 n1 c1 a5 n5 c5 b7 f7 x12 a21 n21 c21 x22 (wrapF .i64 (x23 + 1)) h211'))
  (I53_1 O Q a0 n0 c0 a1 n1 c1 a5 n5 c5 b7 f7 x12 a21 n21 c21 x22 (wrapF .i64 (x23 + 1)) g207))))
  (∃ x220', ∃ a221' n222' c223', readAt h b7 f7 2 = some [(.int .i64 x220'), (.slice a221' n222' c223')] ∧
  let g224 : Hp := h.add (.cells [(.int .i64 x220'), (.slice a221' n222' c223')] 72 .fix)
  ∃ a225' n226' c227' h228', appendV Tryz.prog g224 63 63 (.slice a5 n5 c5) (.slice (some ⟨h.nx, 0, none⟩) 1 1) = some (.slice a225' n226' c227', h228') ∧
  I53_0 O Q a0 n0 c0 a1 n1 c1 a225' n226' c227' (wrapF .i64 (x12 + 1)) h228')
theorem I53_1.of {O Q} (a0 n0 c0 a1 n1 c1 a5 n5 c5 b7 f7 x12 a21 n21 c21 x22 x23) {h : Hp} (hh : T53_1 O Q a0 n0 c0 a1 n1 c1 a5 n5 c5 b7 f7 x12 a21 n21 c21 x22 x23 h) : I53_1 O Q a0 n0 c0 a1 n1 c1 a5 n5 c5 b7 f7 x12 a21 n21 c21 x22 x23 h :=
  RKL.of (tb := lv53) (cuts := []) 500 fun _ => Eq.mp (by kernel_rfl) hh
/-! (sward/swardlaw15.Pile).drawn -/
noncomputable def b106 : Code := (Tryz.f106.body).getD .skip
noncomputable def stk106_0 : List KI := [.code (sub [1, 1, 1, 1, 0, 1, 0] b106), .blk 0, .code (sub [1, 1, 1, 1, 1] b106)]
noncomputable def stk106_1 : List KI := [.code (sub [1, 1, 1, 1, 0, 1, 0, 0, 1, 1, 0, 0, 1, 1, 1, 1, 0, 1, 0] b106), .blk 2, .code (sub [1, 1, 1, 1, 0, 1, 0, 0, 1, 1, 0, 0, 1, 1, 1, 1, 1] b106), .blk 1, .code (sub [1, 1, 1, 1, 0, 1, 0, 0, 1, 1, 1] b106), .code (sub [1, 1, 1, 1, 0, 1, 0] b106), .blk 0, .code (sub [1, 1, 1, 1, 1] b106)]
noncomputable def stk106_2 : List KI := [.code (sub [1, 1, 1, 1, 1, 1, 0, 1, 0] b106), .blk 5, .code (sub [1, 1, 1, 1, 1, 1, 1] b106)]
def lv106 : List (Nat × List Nat) := [(0, [1, 2, 3, 5, 6, 20, 21]), (2, [1, 2, 3, 5, 6, 8, 20, 21, 46, 47, 48]), (5, [2, 3, 5, 6, 12, 97, 98, 99])]
def I106_0 (O : CallF) (Q : Value → Hp → Prop) (v0 : Array Value) (b1 : Nat) (f1 : Nat) (v5 : Value) (a6 : Option Addr) (n6 : Nat) (c6 : Nat) (x20 : Int) (x21 : Int) (h : Hp) : Prop := RKL Tryz.prog O Tryz.f106 stk106_0 112 [1, 2, 3, 5, 6, 20, 21] [(.pointer (some ⟨b1, f1, none⟩)), (.slice none 0 0), (.slice none 0 0), v5, (.slice a6 n6 c6), (.int .i64 x20), (.int .i64 x21)] h Q
def I106_1 (O : CallF) (Q : Value → Hp → Prop) (v0 : Array Value) (b1 : Nat) (f1 : Nat) (v5 : Value) (a6 : Option Addr) (n6 : Nat) (c6 : Nat) (b8 : Nat) (f8 : Nat) (x20 : Int) (x21 : Int) (a46 : Option Addr) (n46 : Nat) (c46 : Nat) (x47 : Int) (x48 : Int) (h : Hp) : Prop := RKL Tryz.prog O Tryz.f106 stk106_1 112 [1, 2, 3, 5, 6, 8, 20, 21, 46, 47, 48] [(.pointer (some ⟨b1, f1, none⟩)), (.slice none 0 0), (.slice none 0 0), v5, (.slice a6 n6 c6), (.pointer (some ⟨b8, f8, none⟩)), (.int .i64 x20), (.int .i64 x21), (.slice a46 n46 c46), (.int .i64 x47), (.int .i64 x48)] h Q
def I106_2 (O : CallF) (Q : Value → Hp → Prop) (v0 : Array Value) (v5 : Value) (a6 : Option Addr) (n6 : Nat) (c6 : Nat) (a12 : Option Addr) (n12 : Nat) (c12 : Nat) (a97 : Option Addr) (n97 : Nat) (c97 : Nat) (x98 : Int) (x99 : Int) (h : Hp) : Prop := RKL Tryz.prog O Tryz.f106 stk106_2 112 [2, 3, 5, 6, 12, 97, 98, 99] [(.slice none 0 0), (.slice none 0 0), v5, (.slice a6 n6 c6), (.slice a12 n12 c12), (.slice a97 n97 c97), (.int .i64 x98), (.int .i64 x99)] h Q
def T106 (O : CallF) (Q : Value → Hp → Prop) (v0 : Array Value) (h : Hp) : Prop :=
  vreq (v0.toList.all one)
  (let g1 : Hp := h.add (.cells v0.toList 62 .fix)
  ∃ x2', readAt g1 h.nx 0 1 = some [(.int .u8 x2')] ∧
  let g3 : Hp := g1.add (.cells [(.int .i64 0)] 3 .fix)
  vreq (canW g3 g1.nx 0 [(.int .i64 (Int.tmod (wrapF .i64 x2') 10))])
  (let g4 : Hp := g3.wr g1.nx 0 [(.int .i64 (Int.tmod (wrapF .i64 x2') 10))]
  ∃ x5', readAt g4 g1.nx 0 1 = some [(.int .i64 x5')] ∧
  I106_0 O Q v0 h.nx 0 (.func (.func 139) #[] #[(.pointer (some ⟨g1.nx, 0, none⟩))]) none 0 0 x5' 0 g4))
theorem rk106 {O Q} (v0) {h : Hp} (hO : O 106 [(.agg v0)] h = none) (hh : T106 O Q v0 h) : Ret Tryz.prog O 106 [(.agg v0)] h Q :=
  .of (c := b106) Tryz.func106 (by kernel_rfl) hO (V_ok (tb := lv106) (cuts := []) 500 (Eq.mp (by kernel_rfl) hh))
def T106_0 (O : CallF) (Q : Value → Hp → Prop) (v0 : Array Value) (b1 : Nat) (f1 : Nat) (v5 : Value) (a6 : Option Addr) (n6 : Nat) (c6 : Nat) (x20 : Int) (x21 : Int) (h : Hp) : Prop :=
  vcond (ltI x21 x20)
  (isNat x21 fun n101' =>
  vreq (Nat.blt n101' 9)
  (∃ x102', readAt h b1 ((f1 + 2) + (n101' * 1)) 1 = some [(.int .u8 x102')] ∧
  let g103 : Hp := h.add (.cells [(.int .i64 0), (.slice none 0 0)] 72 .fix)
  vreq (canW g103 h.nx 0 [(.int .i64 (wrapF .i64 (1 + (Int.tmod (wrapF .i64 x102') 5)))), (.slice none 0 0)])
  (let g104 : Hp := g103.wr h.nx 0 [(.int .i64 (wrapF .i64 (1 + (Int.tmod (wrapF .i64 x102') 5)))), (.slice none 0 0)]
  isNat x21 fun n105' =>
  vreq (Nat.blt n105' 9)
  (∃ x106', readAt g104 b1 ((f1 + 2) + (n105' * 1)) 1 = some [(.int .u8 x106')] ∧
  ∃ x107', readAt g104 h.nx 0 1 = some [(.int .i64 x107')] ∧
  vcond (eqI x107' 4)
  (isNat x21 fun n108' =>
  vreq (Nat.blt n108' 9)
  (∃ a109' n110' c111', sliceV Tryz.prog g104 59 (.pointer (some ⟨b1, ((f1 + 11) + (n108' * 4)), none⟩)) none (some (.int .i64 1)) none = some (.slice a109' n110' c111') ∧
  I106_1 O Q v0 b1 f1 v5 a6 n6 c6 h.nx 0 x20 x21 a109' n110' c111' (Int.ofNat n110') 0 g104))
  (isNat x21 fun n112' =>
  vreq (Nat.blt n112' 9)
  (∃ a113' n114' c115', sliceV Tryz.prog g104 59 (.pointer (some ⟨b1, ((f1 + 11) + (n112' * 4)), none⟩)) none (some (.int .i64 (Int.tmod (wrapF .i64 (Int.tdiv (wrapF .i64 x106') 8)) 5))) none = some (.slice a113' n114' c115') ∧
  I106_1 O Q v0 b1 f1 v5 a6 n6 c6 h.nx 0 x20 x21 a113' n114' c115' (Int.ofNat n114') 0 g104))))))
  (∃ x116', readAt h b1 (f1 + 0) 1 = some [(.int .u8 x116')] ∧
  ∃ a117' n118' c119', sliceV Tryz.prog h 59 (.pointer (some ⟨b1, (f1 + 47), none⟩)) none (some (.int .i64 (Int.tmod (wrapF .i64 (Int.tdiv (wrapF .i64 x116') 16)) 5))) none = some (.slice a117' n118' c119') ∧
  I106_2 O Q v0 v5 a6 n6 c6 none 0 0 a117' n118' c119' (Int.ofNat n118') 0 h)
theorem I106_0.of {O Q} (v0 b1 f1 v5 a6 n6 c6 x20 x21) {h : Hp} (hh : T106_0 O Q v0 b1 f1 v5 a6 n6 c6 x20 x21 h) : I106_0 O Q v0 b1 f1 v5 a6 n6 c6 x20 x21 h :=
  RKL.of (tb := lv106) (cuts := []) 500 fun _ => Eq.mp (by kernel_rfl) hh
def T106_1 (O : CallF) (Q : Value → Hp → Prop) (v0 : Array Value) (b1 : Nat) (f1 : Nat) (v5 : Value) (a6 : Option Addr) (n6 : Nat) (c6 : Nat) (b8 : Nat) (f8 : Nat) (x20 : Int) (x21 : Int) (a46 : Option Addr) (n46 : Nat) (c46 : Nat) (x47 : Int) (x48 : Int) (h : Hp) : Prop :=
  vcond (ltI x48 x47)
  (isNat x48 fun n201' =>
  isAddr a46 fun b202' f203' =>
  vreq (Nat.blt n201' n46)
  (∃ x204', readAt h b202' (f203' + (n201' * 1)) 1 = some [(.int .u8 x204')] ∧
  ∃ x205', readAt h b8 (f8 + 0) 1 = some [(.int .i64 x205')] ∧
  vcond (eqI x205' 3)
  (∃ a206' n207' c208', readAt h b8 (f8 + 1) 1 = some [(.slice a206' n207' c208')] ∧
  let g209 : Hp := h.add (.cells [(.int .i64 (wrapF .i64 (97 + (Int.tmod (wrapF .i64 x204') 26)))), (.bool false)] 76 .fix)
  ∃ a210' n211' c212' h213', appendV Tryz.prog g209 64 64 (.slice a206' n207' c208') (.slice (some ⟨h.nx, 0, none⟩) 1 1) = some (.slice a210' n211' c212', h213') ∧
  vreq (canW h213' b8 (f8 + 1) [(.slice a210' n211' c212')])
  (let g214 : Hp := h213'.wr b8 (f8 + 1) [(.slice a210' n211' c212')]
  I106_1 O Q v0 b1 f1 v5 a6 n6 c6 b8 f8 x20 x21 a46 n46 c46 x47 (wrapF .i64 (x48 + 1)) g214))
  (vcond (eqI x205' 4)
  (∃ a215' n216' c217', readAt h b8 (f8 + 1) 1 = some [(.slice a215' n216' c217')] ∧
  let g218 : Hp := h.add (.cells [(.int .i64 (Int.tmod (wrapF .i64 x204') 2)), (.bool false)] 76 .fix)
  ∃ a219' n220' c221' h222', appendV Tryz.prog g218 64 64 (.slice a215' n216' c217') (.slice (some ⟨h.nx, 0, none⟩) 1 1) = some (.slice a219' n220' c221', h222') ∧
  vreq (canW h222' b8 (f8 + 1) [(.slice a219' n220' c221')])
  (let g223 : Hp := h222'.wr b8 (f8 + 1) [(.slice a219' n220' c221')]
  I106_1 O Q v0 b1 f1 v5 a6 n6 c6 b8 f8 x20 x21 a46 n46 c46 x47 (wrapF .i64 (x48 + 1)) g223))
  (let g224 : Hp := h.rsv 9
  ∃ a225' n226' c227', readAt g224 b8 (f8 + 1) 1 = some [(.slice a225' n226' c227')] ∧
  isFn v5 fun g228' r229' r230' =>
  ∃ x231', ∃ q232', ∃ h233', EvC Tryz.prog O g228' (r229' ++ [(.int .u8 x204')] ++ r230') (g224.grd [b8]) (.agg #[(.int .i64 x231'), (.bool q232')]) h233' ∧
  let g234 : Hp := h233'.rst g224
  vreq (g234.free (h.nx + 5))
  (let g235 : Hp := g234.lay (h.nx + 5) (.cells [(.int .i64 x231'), (.bool q232')] 76 .fix)
  ∃ a236' n237' c238' h239', appendV Tryz.prog (g235.grd []) 64 64 (.slice a225' n226' c227') (.slice (some ⟨(h.nx + 5), 0, none⟩) 1 1) = some (.slice a236' n237' c238', h239') ∧
  let g240 : Hp := h239'.rst g235
  vreq (canW (g240.grd []) b8 (f8 + 1) [(.slice a236' n237' c238')])
  (let g241 : Hp := (g240.grd []).wr b8 (f8 + 1) [(.slice a236' n237' c238')]
  let g242 : Hp := g241.rst g240
  I106_1 O Q v0 b1 f1 v5 a6 n6 c6 b8 f8 x20 x21 a46 n46 c46 x47 (wrapF .i64 (x48 + 1)) g242))))))
  (∃ x243', ∃ a244' n245' c246', readAt h b8 f8 2 = some [(.int .i64 x243'), (.slice a244' n245' c246')] ∧
  let g247 : Hp := h.add (.cells [(.int .i64 x243'), (.slice a244' n245' c246')] 72 .fix)
  ∃ a248' n249' c250' h251', appendV Tryz.prog g247 63 63 (.slice a6 n6 c6) (.slice (some ⟨h.nx, 0, none⟩) 1 1) = some (.slice a248' n249' c250', h251') ∧
  I106_0 O Q v0 b1 f1 v5 a248' n249' c250' x20 (wrapF .i64 (x21 + 1)) h251')
theorem I106_1.of {O Q} (v0 b1 f1 v5 a6 n6 c6 b8 f8 x20 x21 a46 n46 c46 x47 x48) {h : Hp} (hh : T106_1 O Q v0 b1 f1 v5 a6 n6 c6 b8 f8 x20 x21 a46 n46 c46 x47 x48 h) : I106_1 O Q v0 b1 f1 v5 a6 n6 c6 b8 f8 x20 x21 a46 n46 c46 x47 x48 h :=
  RKL.of (tb := lv106) (cuts := []) 500 fun _ => Eq.mp (by kernel_rfl) hh
def T106_2 (O : CallF) (Q : Value → Hp → Prop) (v0 : Array Value) (v5 : Value) (a6 : Option Addr) (n6 : Nat) (c6 : Nat) (a12 : Option Addr) (n12 : Nat) (c12 : Nat) (a97 : Option Addr) (n97 : Nat) (c97 : Nat) (x98 : Int) (x99 : Int) (h : Hp) : Prop :=
  vcond (ltI x99 x98)
  (isNat x99 fun n301' =>
  isAddr a97 fun b302' f303' =>
  vreq (Nat.blt n301' n97)
  (∃ x304', readAt h b302' (f303' + (n301' * 1)) 1 = some [(.int .u8 x304')] ∧
  isFn v5 fun g305' r306' r307' =>
  ∃ x308', ∃ q309', ∃ h310', EvC Tryz.prog O g305' (r306' ++ [(.int .u8 x304')] ++ r307') h (.agg #[(.int .i64 x308'), (.bool q309')]) h310' ∧
  let g311 : Hp := h310'.add (.cells [(.int .i64 x308'), (.bool q309')] 76 .fix)
  ∃ a312' n313' c314' h315', appendV Tryz.prog g311 64 64 (.slice a12 n12 c12) (.slice (some ⟨h310'.nx, 0, none⟩) 1 1) = some (.slice a312' n313' c314', h315') ∧
  I106_2 O Q v0 v5 a6 n6 c6 a312' n313' c314' a97 n97 c97 x98 (wrapF .i64 (x99 + 1)) h315'))
  (Q (.tuple #[(.slice a6 n6 c6), (.slice a12 n12 c12)]) h)
theorem I106_2.of {O Q} (v0 v5 a6 n6 c6 a12 n12 c12 a97 n97 c97 x98 x99) {h : Hp} (hh : T106_2 O Q v0 v5 a6 n6 c6 a12 n12 c12 a97 n97 c97 x98 x99 h) : I106_2 O Q v0 v5 a6 n6 c6 a12 n12 c12 a97 n97 c97 x98 x99 h :=
  RKL.of (tb := lv106) (cuts := []) 500 fun _ => Eq.mp (by kernel_rfl) hh
/-! sward/swardlaw15.reached$1 -/
noncomputable def b108 : Code := (Tryz.f108.body).getD .skip
def lv108 : List (Nat × List Nat) := []
def T108 (O : CallF) (Q : Value → Hp → Prop) (x0_0 : Int) (q0_1 : Bool) (b1 : Nat) (f1 : Nat) (h : Hp) : Prop :=
  let g1 : Hp := h.add (.cells [(.int .i64 x0_0), (.bool q0_1)] 76 .fix)
  ∃ q2', readAt g1 h.nx 1 1 = some [(.bool q2')] ∧
  vcond q2'
  (∃ a3' n4' c5', readAt g1 b1 f1 1 = some [(.slice a3' n4' c5')] ∧
  ∃ x6', readAt g1 h.nx 0 1 = some [(.int .i64 x6')] ∧
  ∃ q7', ∃ h8', EvC Tryz.prog O 109 [(.slice a3' n4' c5'), (.int .i64 x6')] g1 (.bool q7') h8' ∧
  vcond (!q7')
  (∃ a9' n10' c11', readAt h8' b1 f1 1 = some [(.slice a9' n10' c11')] ∧
  ∃ x12', readAt h8' h.nx 0 1 = some [(.int .i64 x12')] ∧
  let g13 : Hp := h8'.add (.cells [(.int .i64 x12')] 3 .fix)
  ∃ a14' n15' c16' h17', appendV Tryz.prog g13 22 22 (.slice a9' n10' c11') (.slice (some ⟨h8'.nx, 0, none⟩) 1 1) = some (.slice a14' n15' c16', h17') ∧
  vreq (canW h17' b1 f1 [(.slice a14' n15' c16')])
  (let g18 : Hp := h17'.wr b1 f1 [(.slice a14' n15' c16')]
  Q undef g18))
  (Q undef h8'))
  (Q undef g1)
theorem rk108 {O Q} (x0_0 q0_1 b1 f1) {h : Hp} (hO : O 108 [(.agg #[(.int .i64 x0_0), (.bool q0_1)]), (.pointer (some ⟨b1, f1, none⟩))] h = none) (hh : T108 O Q x0_0 q0_1 b1 f1 h) : Ret Tryz.prog O 108 [(.agg #[(.int .i64 x0_0), (.bool q0_1)]), (.pointer (some ⟨b1, f1, none⟩))] h Q :=
  .of (c := b108) Tryz.func108 (by kernel_rfl) hO (V_ok (tb := lv108) (cuts := []) 500 (Eq.mp (by kernel_rfl) hh))
/-! slices.Contains[[]int,int] -/
noncomputable def b109 : Code := (Tryz.f109.body).getD .skip
def lv109 : List (Nat × List Nat) := []
def T109 (O : CallF) (Q : Value → Hp → Prop) (a0 : Option Addr) (n0 : Nat) (c0 : Nat) (x1 : Int) (h : Hp) : Prop :=
  ∃ x1', ∃ h2', EvC Tryz.prog O 142 [(.slice a0 n0 c0), (.int .i64 x1)] h (.int .i64 x1') h2' ∧
  Q (.bool (!(ltI x1' 0))) h2'
theorem rk109 {O Q} (a0 n0 c0 x1) {h : Hp} (hO : O 109 [(.slice a0 n0 c0), (.int .i64 x1)] h = none) (hh : T109 O Q a0 n0 c0 x1 h) : Ret Tryz.prog O 109 [(.slice a0 n0 c0), (.int .i64 x1)] h Q :=
  .of (c := b109) Tryz.func109 (by kernel_rfl) hO (V_ok (tb := lv109) (cuts := []) 500 (Eq.mp (by kernel_rfl) hh))
/-! slices.Repeat[[]int,int] -/
noncomputable def b111 : Code := (Tryz.f111.body).getD .skip
noncomputable def stk111_0 : List KI := [.code (sub [1, 1, 1, 1, 1, 1, 0, 0] b111), .blk 0, .code (sub [1, 1, 1, 1, 1, 1, 1] b111)]
def lv111 : List (Nat × List Nat) := [(0, [4, 7, 8])]
def I111_0 (O : CallF) (Q : Value → Hp → Prop) (a0 : Option Addr) (n0 : Nat) (c0 : Nat) (x1 : Int) (a7 : Option Addr) (n7 : Nat) (c7 : Nat) (x8 : Int) (h : Hp) : Prop := RKL Tryz.prog O Tryz.f111 stk111_0 48 [4, 7, 8] [(.slice none 0 0), (.slice a7 n7 c7), (.int .i64 x8)] h Q
def T111 (O : CallF) (Q : Value → Hp → Prop) (a0 : Option Addr) (n0 : Nat) (c0 : Nat) (x1 : Int) (h : Hp) : Prop :=
  vcond (ltI x1 0)
  (False)
  (∃ x1', ∃ x2', ∃ h3', EvC Tryz.prog O 143 [(.int .u64 (wrapF .u64 (Int.ofNat n0))), (.int .u64 (wrapF .u64 x1))] h (.tuple #[(.int .u64 x1'), (.int .u64 x2')]) h3' ∧
  vcond (ltI 0 x1')
  (False)
  (vcond (ltI 9223372036854775807 x2')
  (False)
  (isNat (wrapF .i64 x2') fun n4' =>
  isNat (wrapF .i64 x2') fun n5' =>
  vreq (Nat.ble n4' n5')
  (vreq (Nat.ble (n5' * 8) 281474976710656)
  (vreq (Nat.blt n5' big)
  (let g6 : Hp := h3'.add (.cells (List.flatten (List.replicate n5' [(.int .i64 0)])) 3 .fix)
  ∃ x7' h8', copyV Tryz.prog g6 22 (.slice (some ⟨h3'.nx, 0, none⟩) n4' n5') (.slice a0 n0 c0) = some (.int .i64 x7', h8') ∧
  I111_0 O Q a0 n0 c0 x1 (some ⟨h3'.nx, 0, none⟩) n4' n5' x7' h8'))))))
theorem rk111 {O Q} (a0 n0 c0 x1) {h : Hp} (hO : O 111 [(.slice a0 n0 c0), (.int .i64 x1)] h = none) (hh : T111 O Q a0 n0 c0 x1 h) : Ret Tryz.prog O 111 [(.slice a0 n0 c0), (.int .i64 x1)] h Q :=
  .of (c := b111) Tryz.func111 (by kernel_rfl) hO (V_ok (tb := lv111) (cuts := []) 500 (Eq.mp (by kernel_rfl) hh))
def T111_0 (O : CallF) (Q : Value → Hp → Prop) (a0 : Option Addr) (n0 : Nat) (c0 : Nat) (x1 : Int) (a7 : Option Addr) (n7 : Nat) (c7 : Nat) (x8 : Int) (h : Hp) : Prop :=
  vcond (ltI x8 (Int.ofNat n7))
  (let g101 : Hp := h.rsv 10
  ∃ a102' n103' c104', sliceV Tryz.prog g101 22 (.slice a7 n7 c7) (some (.int .i64 x8)) none none = some (.slice a102' n103' c104') ∧
  ∃ a105' n106' c107', sliceV Tryz.prog g101 22 (.slice a7 n7 c7) none (some (.int .i64 x8)) none = some (.slice a105' n106' c107') ∧
  ∃ x108' h109', copyV Tryz.prog (g101.grd []) 22 (.slice a102' n103' c104') (.slice a105' n106' c107') = some (.int .i64 x108', h109') ∧
  let g110 : Hp := h109'.rst g101
  I111_0 O Q a0 n0 c0 x1 a7 n7 c7 (wrapF .i64 (x8 + x108')) g110)
  (Q (.slice a7 n7 c7) h)
theorem I111_0.of {O Q} (a0 n0 c0 x1 a7 n7 c7 x8) {h : Hp} (hh : T111_0 O Q a0 n0 c0 x1 a7 n7 c7 x8 h) : I111_0 O Q a0 n0 c0 x1 a7 n7 c7 x8 h :=
  RKL.of (tb := lv111) (cuts := []) 500 fun _ => Eq.mp (by kernel_rfl) hh
/-! sward/swardlaw15.laid$1 -/
noncomputable def b112 : Code := (Tryz.f112.body).getD .skip
def lv112 : List (Nat × List Nat) := []
def T112 (O : CallF) (Q : Value → Hp → Prop) (x0_0 : Int) (q0_1 : Bool) (b1 : Nat) (f1 : Nat) (h : Hp) : Prop :=
  let g1 : Hp := h.add (.cells [(.int .i64 x0_0), (.bool q0_1)] 76 .fix)
  ∃ q2', readAt g1 h.nx 1 1 = some [(.bool q2')] ∧
  vcond q2'
  (∃ a3' n4' c5', readAt g1 b1 f1 1 = some [(.slice a3' n4' c5')] ∧
  ∃ x6', readAt g1 h.nx 0 1 = some [(.int .i64 x6')] ∧
  isNat x6' fun n7' =>
  isAddr a3' fun b8' f9' =>
  vreq (Nat.blt n7' n4')
  (∃ x10', readAt g1 b8' (f9' + (n7' * 1)) 1 = some [(.int .i64 x10')] ∧
  Q (.int .i64 (wrapF .i64 (2 * x10'))) g1))
  (∃ x11', readAt g1 h.nx 0 1 = some [(.int .i64 x11')] ∧
  Q (.int .i64 x11') g1)
theorem rk112 {O Q} (x0_0 q0_1 b1 f1) {h : Hp} (hO : O 112 [(.agg #[(.int .i64 x0_0), (.bool q0_1)]), (.pointer (some ⟨b1, f1, none⟩))] h = none) (hh : T112 O Q x0_0 q0_1 b1 f1 h) : Ret Tryz.prog O 112 [(.agg #[(.int .i64 x0_0), (.bool q0_1)]), (.pointer (some ⟨b1, f1, none⟩))] h Q :=
  .of (c := b112) Tryz.func112 (by kernel_rfl) hO (V_ok (tb := lv112) (cuts := []) 500 (Eq.mp (by kernel_rfl) hh))
/-! (sward/swardlaw15.Pile).drawn$1 -/
noncomputable def b139 : Code := (Tryz.f139.body).getD .skip
def lv139 : List (Nat × List Nat) := []
def T139 (O : CallF) (Q : Value → Hp → Prop) (x0 : Int) (b1 : Nat) (f1 : Nat) (h : Hp) : Prop :=
  let g1 : Hp := h.add (.cells [(.int .i64 0), (.bool false)] 76 .fix)
  ∃ x2', readAt g1 b1 f1 1 = some [(.int .i64 x2')] ∧
  vcond (eqI x2' 0)
  (vreq (canW g1 h.nx 0 [(.int .i64 (wrapF .i64 ((wrapF .i64 (2 * (wrapF .i64 ((wrapF .i64 x0) - 100)))) + 1))), (.bool false)])
  (let g3 : Hp := g1.wr h.nx 0 [(.int .i64 (wrapF .i64 ((wrapF .i64 (2 * (wrapF .i64 ((wrapF .i64 x0) - 100)))) + 1))), (.bool false)]
  ∃ x4', ∃ q5', readAt g3 h.nx 0 2 = some [(.int .i64 x4'), (.bool q5')] ∧
  Q (.agg #[(.int .i64 x4'), (.bool q5')]) g3))
  (vcond (eqI (Int.tmod x0 4) 0)
  (vreq (canW g1 h.nx 0 [(.int .i64 (wrapF .i64 ((wrapF .i64 (2 * (wrapF .i64 ((wrapF .i64 x0) - 100)))) + 1))), (.bool false)])
  (let g6 : Hp := g1.wr h.nx 0 [(.int .i64 (wrapF .i64 ((wrapF .i64 (2 * (wrapF .i64 ((wrapF .i64 x0) - 100)))) + 1))), (.bool false)]
  ∃ x7', ∃ q8', readAt g6 h.nx 0 2 = some [(.int .i64 x7'), (.bool q8')] ∧
  Q (.agg #[(.int .i64 x7'), (.bool q8')]) g6))
  (vcond (eqI (Int.tmod x0 16) 7)
  (vreq (canW g1 h.nx 0 [(.int .i64 0), (.bool false)])
  (let g9 : Hp := g1.wr h.nx 0 [(.int .i64 0), (.bool false)]
  ∃ x10', ∃ q11', readAt g9 h.nx 0 2 = some [(.int .i64 x10'), (.bool q11')] ∧
  Q (.agg #[(.int .i64 x10'), (.bool q11')]) g9))
  (∃ x12', readAt g1 b1 f1 1 = some [(.int .i64 x12')] ∧
  vreq (!(eqI x12' 0))
  (vreq (canW g1 h.nx 0 [(.int .i64 (Int.tmod (wrapF .i64 (Int.tdiv (wrapF .i64 x0) 4)) x12')), (.bool true)])
  (let g13 : Hp := g1.wr h.nx 0 [(.int .i64 (Int.tmod (wrapF .i64 (Int.tdiv (wrapF .i64 x0) 4)) x12')), (.bool true)]
  ∃ x14', ∃ q15', readAt g13 h.nx 0 2 = some [(.int .i64 x14'), (.bool q15')] ∧
  Q (.agg #[(.int .i64 x14'), (.bool q15')]) g13)))))
theorem rk139 {O Q} (x0 b1 f1) {h : Hp} (hO : O 139 [(.int .u8 x0), (.pointer (some ⟨b1, f1, none⟩))] h = none) (hh : T139 O Q x0 b1 f1 h) : Ret Tryz.prog O 139 [(.int .u8 x0), (.pointer (some ⟨b1, f1, none⟩))] h Q :=
  .of (c := b139) Tryz.func139 (by kernel_rfl) hO (V_ok (tb := lv139) (cuts := []) 500 (Eq.mp (by kernel_rfl) hh))
end Go.Proofs.YtngcjpkccnfjiaaGreatDoor
/- Conditions of functions' code, printed by a program of ours. -/
namespace Go.Proofs.YtngcjpkccnfjiaaGreatDoor
open Go Go.Ev
set_option maxRecDepth 100000
set_option linter.unusedVariables false
/-! slices.Index[[]int,int] -/
noncomputable def b142 : Code := (Tryz.f142.body).getD .skip
noncomputable def stk142_0 : List KI := [.code (sub [1, 0, 1, 0] b142), .blk 0, .code (sub [1, 1] b142)]
def lv142 : List (Nat × List Nat) := [(0, [0, 1, 4, 7, 8])]
def I142_0 (O : CallF) (Q : Value → Hp → Prop) (a0 : Option Addr) (n0 : Nat) (c0 : Nat) (x1 : Int) (x4 : Int) (x8 : Int) (h : Hp) : Prop := RKL Tryz.prog O Tryz.f142 stk142_0 19 [0, 1, 4, 7, 8] [(.slice a0 n0 c0), (.int .i64 x1), (.int .i64 x4), (.int .i64 (Int.ofNat n0)), (.int .i64 x8)] h Q
def T142 (O : CallF) (Q : Value → Hp → Prop) (a0 : Option Addr) (n0 : Nat) (c0 : Nat) (x1 : Int) (h : Hp) : Prop :=
  I142_0 O Q a0 n0 c0 x1 0 0 h
theorem rk142 {O Q} (a0 n0 c0 x1) {h : Hp} (hO : O 142 [(.slice a0 n0 c0), (.int .i64 x1)] h = none) (hh : T142 O Q a0 n0 c0 x1 h) : Ret Tryz.prog O 142 [(.slice a0 n0 c0), (.int .i64 x1)] h Q :=
  .of (c := b142) Tryz.func142 (by kernel_rfl) hO (V_ok (tb := lv142) (cuts := []) 500 (Eq.mp (by kernel_rfl) hh))
def T142_0 (O : CallF) (Q : Value → Hp → Prop) (a0 : Option Addr) (n0 : Nat) (c0 : Nat) (x1 : Int) (x4 : Int) (x8 : Int) (h : Hp) : Prop :=
  vcond (ltI x8 (Int.ofNat n0))
  (isNat x8 fun n101' =>
  isAddr a0 fun b102' f103' =>
  vreq (Nat.blt n101' n0)
  (∃ x104', readAt h b102' (f103' + (n101' * 1)) 1 = some [(.int .i64 x104')] ∧
  vcond (eqI x1 x104')
  (Q (.int .i64 x8) h)
  (I142_0 O Q a0 n0 c0 x1 x4 (wrapF .i64 (x8 + 1)) h)))
  (Q (.int .i64 (-1)) h)
theorem I142_0.of {O Q} (a0 n0 c0 x1 x4 x8) {h : Hp} (hh : T142_0 O Q a0 n0 c0 x1 x4 x8 h) : I142_0 O Q a0 n0 c0 x1 x4 x8 h :=
  RKL.of (tb := lv142) (cuts := []) 500 fun _ => Eq.mp (by kernel_rfl) hh
/-! math/bits.Mul -/
noncomputable def b143 : Code := (Tryz.f143.body).getD .skip
def lv143 : List (Nat × List Nat) := []
def T143 (O : CallF) (Q : Value → Hp → Prop) (x0 : Int) (x1 : Int) (h : Hp) : Prop :=
  ∃ x1', ∃ x2', ∃ h3', EvC Tryz.prog O 152 [(.int .u64 x0), (.int .u64 x1)] h (.tuple #[(.int .u64 x1'), (.int .u64 x2')]) h3' ∧
  Q (.tuple #[(.int .u64 x1'), (.int .u64 x2')]) h3'
theorem rk143 {O Q} (x0 x1) {h : Hp} (hO : O 143 [(.int .u64 x0), (.int .u64 x1)] h = none) (hh : T143 O Q x0 x1 h) : Ret Tryz.prog O 143 [(.int .u64 x0), (.int .u64 x1)] h Q :=
  .of (c := b143) Tryz.func143 (by kernel_rfl) hO (V_ok (tb := lv143) (cuts := []) 500 (Eq.mp (by kernel_rfl) hh))
/-! math/bits.Mul64 -/
noncomputable def b152 : Code := (Tryz.f152.body).getD .skip
def lv152 : List (Nat × List Nat) := []
def T152 (O : CallF) (Q : Value → Hp → Prop) (x0 : Int) (x1 : Int) (h : Hp) : Prop :=
  vreq (inD 18446744073709551616 x0)
  (vreq (inD 18446744073709551616 x1)
  (vreq (inD 18446744073709551616 (wrapF .u64 ((wrapF .u64 ((shrF .u64 x0 32) * (landI x1 4294967295))) + (shrF .u64 (wrapF .u64 ((landI x0 4294967295) * (landI x1 4294967295))) 32))))
  (Q (.tuple #[(.int .u64 (wrapF .u64 ((wrapF .u64 ((wrapF .u64 ((shrF .u64 x0 32) * (shrF .u64 x1 32))) + (shrF .u64 (wrapF .u64 ((wrapF .u64 ((shrF .u64 x0 32) * (landI x1 4294967295))) + (shrF .u64 (wrapF .u64 ((landI x0 4294967295) * (landI x1 4294967295))) 32))) 32))) + (shrF .u64 (wrapF .u64 ((landI (wrapF .u64 ((wrapF .u64 ((shrF .u64 x0 32) * (landI x1 4294967295))) + (shrF .u64 (wrapF .u64 ((landI x0 4294967295) * (landI x1 4294967295))) 32))) 4294967295) + (wrapF .u64 ((landI x0 4294967295) * (shrF .u64 x1 32))))) 32)))), (.int .u64 (wrapF .u64 (x0 * x1)))]) h)))
theorem rk152 {O Q} (x0 x1) {h : Hp} (hO : O 152 [(.int .u64 x0), (.int .u64 x1)] h = none) (hh : T152 O Q x0 x1 h) : Ret Tryz.prog O 152 [(.int .u64 x0), (.int .u64 x1)] h Q :=
  .of (c := b152) Tryz.func152 (by kernel_rfl) hO (V_ok (tb := lv152) (cuts := []) 500 (Eq.mp (by kernel_rfl) hh))
end Go.Proofs.YtngcjpkccnfjiaaGreatDoor
/- Contracts: cells by numbers: in memory; upTo, contains, what a field adds. -/
namespace Go.Proofs.YtngcjpkccnfjiaaGreatDoor
set_option maxRecDepth 100000
open Go Go.Ev
def fdE (f : Fd) : List Value := [.int .i64 f.n, .bool f.refs]
theorem fdE_len (f : Fd) : (fdE f).length = 2 := rfl
abbrev FdsAt := SlAt 2 (ECells fdE)
def ECl : Enc Cl := fun h c vs => ∃ a n cp, vs = [.int .i64 c.kind, .slice a n cp] ∧ FdsAt h a n c.fs
instance : EUp ECl := ⟨fun _ h' _ _ _ ⟨a, n, c, h1, h2⟩ => ⟨a, n, c, h1, h2.to h'⟩⟩
abbrev ClsAt := SlAt 2 ECl
theorem FdsAt.rd {g h : Hp} {a : Option Addr} {n : Nat} {xs : List Fd} (H : FdsAt g a n xs) [Ft g h] {k : Nat} (hk : k < xs.length) {K : Int → Bool → Prop} (next : K xs[k].n xs[k].refs) :
    isAddr a fun b off => vreq (Nat.blt k n) (∃ x, ∃ q, readAt h b (off + k * 2) 2 = some [.int .i64 x, .bool q] ∧ K x q) :=
  SlAt.read H hk fun _ _ _ _ hb hr e => vreq_t (blt_t (by rw [H.1]; exact hk)) ⟨_, _, by rw [readAt_ex (g := g) hb, hr, show _ = _ from e]; rfl, next⟩
theorem ClsAt.rd {g h : Hp} {a : Option Addr} {n : Nat} {xs : List Cl} (H : ClsAt g a n xs) [Ft g h] {k : Nat} (hk : k < xs.length) {K : Int → Option Addr → Nat → Nat → Prop} (next : ∀ a' n' c', FdsAt g a' n' xs[k].fs → K xs[k].kind a' n' c') :
    isAddr a fun b off => vreq (Nat.blt k n) (∃ x, ∃ a' n' c', readAt h b (off + k * 2) 2 = some [.int .i64 x, .slice a' n' c'] ∧ K x a' n' c') :=
  SlAt.read H hk fun _ _ _ _ hb hr ⟨a', n', c', e, F⟩ => vreq_t (blt_t (by rw [H.1]; exact hk)) ⟨_, a', n', c', by rw [readAt_ex (g := g) hb, hr, e], next _ _ _ F⟩
theorem readAt_two {h : Hp} {b off : Nat} {v w : Value} (hr : readAt h b off 2 = some [v, w]) : readAt h b (off + 0) 1 = some [v] ∧ readAt h b (off + 1) 1 = some [w] := by
  unfold readAt at hr ⊢
  split at hr
  · rename_i c e m hg
    obtain ⟨hb, hr⟩ := cond_some hr
    have hb := Nat.eq_of_beq_eq_true hb
    have hr := Option.some.inj hr
    rw [List.length_take, List.length_drop] at hb
    have h1 : off < c.length := by omega
    have h2 : off + 1 < c.length := by omega
    rw [List.drop_eq_getElem_cons h1, List.drop_eq_getElem_cons h2] at hr
    simp only [List.take_succ_cons, List.take_zero, List.cons.injEq, and_true] at hr
    have e0 : ((c.drop (off + 0)).take 1) = [v] := by
      rw [Nat.add_zero, List.drop_eq_getElem_cons h1, List.take_succ_cons, List.take_zero, hr.1]
    have e1 : ((c.drop (off + 1)).take 1) = [w] := by
      rw [List.drop_eq_getElem_cons h2, List.take_succ_cons, List.take_zero, hr.2]
    simp only [e0, e1]
    exact ⟨rfl, rfl⟩
  · cases hr
/-- A cell's list of fields alone is read. -/
theorem ClsAt.rdf {g h : Hp} {a : Option Addr} {n : Nat} {xs : List Cl} (H : ClsAt g a n xs) [Ft g h] {k : Nat} (hk : k < xs.length) {K : Option Addr → Nat → Nat → Prop} (next : ∀ a' n' c', FdsAt g a' n' xs[k].fs → K a' n' c') :
    isAddr a fun b off => vreq (Nat.blt k n) (∃ a' n' c', readAt h b ((off + k * 2) + 1) 1 = some [.slice a' n' c'] ∧ K a' n' c') :=
  SlAt.read H hk fun _ _ _ _ hb hr ⟨a', n', c', e, F⟩ => vreq_t (blt_t (by rw [H.1]; exact hk)) ⟨a', n', c', by rw [readAt_ex (g := g) hb]; rw [e] at hr; exact (readAt_two hr).2, next _ _ _ F⟩
theorem ClsAt.rdk {g h : Hp} {a : Option Addr} {n : Nat} {xs : List Cl} (H : ClsAt g a n xs) [Ft g h] {k : Nat} (hk : k < xs.length) {K : Int → Prop} (next : K xs[k].kind) :
    isAddr a fun b off => vreq (Nat.blt k n) (∃ x, readAt h b ((off + k * 2) + 0) 1 = some [.int .i64 x] ∧ K x) :=
  SlAt.read H hk fun _ _ _ _ hb hr ⟨a', n', c', e, F⟩ => vreq_t (blt_t (by rw [H.1]; exact hk)) ⟨_, by rw [readAt_ex (g := g) hb]; rw [e] at hr; exact (readAt_two hr).1, next⟩
theorem contains_ofNat (l : List Nat) (m : Nat) : (l.map Int.ofNat).contains (m : Int) = l.contains m := by
  rw [Bool.eq_iff_iff, List.contains_iff_mem, List.contains_iff_mem]
  constructor
  · intro h
    obtain ⟨a, ha, e⟩ := List.mem_map.1 h
    rw [← Int.ofNat_inj.1 e]; exact ha
  · intro h
    exact List.mem_map.2 ⟨m, h, rfl⟩
/-- A reference is a number of a cell. -/
def FdN (f : Fd) : Prop := f.refs = true → f.n = (f.n.toNat : Int)
section
variable {O : CallF} (hO : Oth O)
include hO
/-- 'upTo'. -/
theorem ct51 {g : Hp} (ok : g.Ok) {n : Nat} (hn : n < 1000000) : Ret Tryz.prog O 51 [.int .i64 (Int.ofNat n)] g fun v h' => ∃ a n' c, v = .slice a n' c ∧ Know g h' [acc g.nx 3 1 a n' c (iv ((List.range n).map Int.ofNat))] := by
  refine rk51 (hO := hO _ _ _ (by decide)) (hh := ?_) ..
  unfold T51
  have lp : ∀ (d k : Nat) (a : Option Addr) (m c : Nat) (h : Hp), k + d = n → Know g h [acc g.nx 3 1 a m c (iv ((List.range k).map Int.ofNat))] → I51_0 O (fun v h' => ∃ a n' c, v = .slice a n' c ∧ Know g h' [acc g.nx 3 1 a n' c (iv ((List.range n).map Int.ofNat))]) (Int.ofNat n) a m c (Int.ofNat k) h := by
    intro d
    induction d with
    | zero =>
      intro k a m c h hk S
      refine I51_0.of (hh := ?_) ..
      unfold T51_0
      refine vcond_f (by rw [ltI_nat]; exact blt_f (by omega)) ⟨_, _, _, rfl, ?_⟩
      have : k = n := by omega
      subst this; exact S
    | succ d ih =>
      intro k a m c h hk S
      refine I51_0.of (hh := ?_) ..
      unfold T51_0
      refine vcond_t (by rw [ltI_nat]; exact blt_t (by omega)) ?_
      intro g101
      have hm : m = k := by
        have A : AccE h g.nx 3 1 a m c _ := S.get 0 rfl
        have := (AccE.ints A).1
        simpa using this
      have S : Know g g101 [_, _] := S.add _
      obtain ⟨a', n', c', h', e, hn', S⟩ := S.app 1 rfl (Nat.le_refl _) S.lo AppT22 ⟨_, _, _, rfl⟩ (src_get (n := 1) (c := 1) (esz := 1) (off := 0) (S.rd 0 rfl (r := [.int .i64 (Int.ofNat k)]) rfl rfl)) rfl rfl (by omega) (by unfold big; omega)
      have S : Know g h' [_, _] := S
      refine ⟨_, _, _, _, e, ?_⟩
      rw [wrap_succ (by omega)]
      refine ih (k + 1) _ _ _ _ (by omega) ?_
      have := S.sel [1] (by decide) rfl
      rw [List.range_succ, List.map_append]
      unfold iv
      rw [List.map_append]
      exact this
  exact lp n 0 none 0 0 g (by omega) ((Know.nil ok).accNil g.nx 3 1)
/-- 'slices.Contains'. -/
theorem ct109 {h : Hp} {a : Option Addr} {n c : Nat} {xs : List Int} (X : IntsAt h a n xs) (hl : xs.length < 1000000) (x : Int) : EvT O 109 [.slice a n c, .int .i64 x] h (.bool (xs.contains x)) h := by
  have hn := X.1
  have lp : ∀ {Q : Value → Hp → Prop}, (∀ i : Int, 0 ≤ i → xs.contains x = true → Q (.int .i64 i) h) → (xs.contains x = false → Q (.int .i64 (-1)) h) → ∀ (d k : Nat), k + d = xs.length → (xs.take k).contains x = false → I142_0 O Q a n c x 0 (Int.ofNat k) h := by
    intro Q Qt Qf d
    induction d with
    | zero =>
      intro k hk hc
      refine I142_0.of (hh := ?_) ..
      unfold T142_0
      refine vcond_f (by rw [ltI_nat]; exact blt_f (by omega)) (Qf ?_)
      rwa [List.take_of_length_le (by omega)] at hc
    | succ d ih =>
      intro k hk hc
      have hk' : k < xs.length := by omega
      refine I142_0.of (hh := ?_) ..
      unfold T142_0
      refine vcond_t (by rw [ltI_nat]; exact blt_t (by omega)) (isNat_i (X.rd (k := k) hk' (vcond_split (fun h1 => ?_) fun h1 => ?_)))
      · refine Qt _ (Int.natCast_nonneg _) ?_
        rw [List.contains_iff_mem, eq_of_t h1]
        exact List.getElem_mem hk'
      · rw [wrap_succ (by omega)]
        refine ih (k + 1) (by omega) ?_
        rw [List.take_add_one, List.getElem?_eq_getElem hk', List.contains_eq_any_beq, List.any_append, ← List.contains_eq_any_beq, hc]
        have := ne_of_f h1
        simp; exact this
  have r : Ret Tryz.prog O 142 [.slice a n c, .int .i64 x] h fun v h' => ∃ i, v = .int .i64 i ∧ h' = h ∧ (!(ltI i 0)) = xs.contains x := by
    refine rk142 (hO := hO _ _ _ (by decide)) (hh := ?_) ..
    unfold T142
    exact lp (fun i hi hc => ⟨i, rfl, rfl, by rw [ltI_f (by omega), hc]; rfl⟩) (fun hc => ⟨_, rfl, rfl, by rw [hc]; rfl⟩) xs.length 0 (by omega) rfl
  refine evt hO (rk109 (hO := hO _ _ _ (by decide)) (hh := ?_) ..)
  unfold T109
  obtain ⟨v, h2, e, i, rfl, rfl, hi⟩ := r
  exact ⟨_, _, e, by rw [hi], rfl⟩
/-- 'holds'. -/
theorem ct48 {h : Hp} (ok : h.Ok) {k : Int} {a : Option Addr} {n c : Nat} : Ret Tryz.prog O 48 [.agg #[.int .i64 k, .slice a n c]] h fun v h' => v = .bool (keepB k) ∧ Kp h.nx h h' := by
  refine rk48 (hO := hO _ _ _ (by decide)) (hh := ?_) ..
  unfold T48
  intro g1
  have S : Know h g1 [_] := (Know.nil ok).add _
  refine ⟨_, S.rd 0 rfl rfl rfl, vcond_split (fun h1 => ?_) fun h1 => ?_⟩
  · rw [eq_of_t h1]; exact ⟨rfl, S.kp⟩
  · refine ⟨_, S.rd 0 rfl rfl rfl, ?_, S.kp⟩
    have h1 := ne_of_f h1
    unfold keepB
    rw [eqI_eq, show (k == 1) = false from by rw [beq_eq_false_iff_ne]; exact h1, Bool.false_or]
/-- What a field adds. -/
theorem ct108 {h0 h : Hp} {L : List Rs} (S : Know h0 h L) (i j : Nat) {b : Nat} {a : Option Addr} {n c : Nat} {l : List Nat} (hi : L[i]? = some (ob b (.cells [.slice a n c] 22 .fix))) (hj : L[j]? = some (acc h0.nx 3 1 a n c (iv (l.map Int.ofNat)))) (hij : i ≠ j) (hl : l.length < 100000) {f : Fd} (hf : FdN f) :
    Ret Tryz.prog O 108 [.agg #[.int .i64 f.n, .bool f.refs], .pointer (some ⟨b, 0, none⟩)] h fun v h' => v = undef ∧ ∃ a' n' c', Know h0 h' ((L.set j (acc h0.nx 3 1 a' n' c' (iv ((addC l f).map Int.ofNat)))).set i (ob b (.cells [.slice a' n' c'] 22 .fix))) := by
  refine rk108 (hO := hO _ _ _ (by decide)) (hh := ?_) ..
  unfold T108
  have lj := S.len hj
  have li := S.len hi
  have same : ∀ {h' : Hp}, Know h0 h' L → addC l f = l → ∃ a' n' c', Know h0 h' ((L.set j (acc h0.nx 3 1 a' n' c' (iv ((addC l f).map Int.ofNat)))).set i (ob b (.cells [.slice a' n' c'] 22 .fix))) := fun S e => by
    refine ⟨a, n, c, ?_⟩
    rw [e]
    have e1 : L.set j (acc h0.nx 3 1 a n c (iv (l.map Int.ofNat))) = L := by
      refine List.ext_getElem? fun k => ?_
      rw [List.getElem?_set]
      by_cases h : j = k
      · subst h; rw [if_pos rfl, if_pos lj, hj]
      · rw [if_neg h]
    have e2 : L.set i (ob b (.cells [.slice a n c] 22 .fix)) = L := by
      refine List.ext_getElem? fun k => ?_
      rw [List.getElem?_set]
      by_cases h : i = k
      · subst h; rw [if_pos rfl, if_pos li, hi]
      · rw [if_neg h]
    rw [e1, e2]; exact S
  intro g1
  have S1 : Know h0 g1 (_ :: L) := S.add _
  refine ⟨_, S1.rd 0 rfl rfl rfl, ?_⟩
  cases hr : f.refs with
  | false => exact vcond_f rfl ⟨rfl, same (S1.sub _ (List.sublist_cons_self ..)) (by unfold addC; rw [hr]; rfl)⟩
  | true =>
    have A1 : AccE g1 h0.nx 3 1 a n c (iv (l.map Int.ofNat)) := S1.get (j + 1) hj
    have hn : n = l.length := by simpa using (AccE.ints A1).1
    refine vcond_t rfl ⟨_, _, _, S1.rd (i + 1) hi rfl rfl, _, S1.rd 0 rfl rfl rfl, _, _, ct109 hO (AccE.ints A1) (by rw [List.length_map]; omega) f.n, ?_⟩
    rw [hf hr, contains_ofNat]
    cases hc : l.contains f.n.toNat with
    | true => exact vcond_f rfl ⟨rfl, same (S1.sub _ (List.sublist_cons_self ..)) (by unfold addC; rw [hr, hc]; rfl)⟩
    | false =>
      have e1 : addC l f = l ++ [f.n.toNat] := by unfold addC; rw [hr, hc]; rfl
      rw [e1]
      refine vcond_t rfl ⟨_, _, _, S1.rd (i + 1) hi rfl rfl, _, S1.rd 0 rfl rfl rfl, ?_⟩
      intro g13
      have S13 : Know h0 g13 (_ :: _ :: L) := S1.add _
      obtain ⟨a', n', c', h', e, hn', S⟩ := S13.app (j + 2) hj (Nat.le_refl _) S13.lo AppT22 ⟨_, _, _, rfl⟩ (src_get (n := 1) (c := 1) (esz := 1) (off := 0) (S13.rd 0 rfl (r := [.int .i64 f.n]) rfl rfl)) rfl rfl (by omega) (by unfold big; omega)
      rw [hf hr] at S
      have S : Know h0 h' (_ :: _ :: L.set j _) := S
      have hi2 : (L.set j (acc h0.nx 3 1 a' n' c' (iv (l.map Int.ofNat) ++ [.int .i64 (f.n.toNat : Int)])))[i]? = some (ob b (.cells [.slice a n c] 22 .fix)) := by rw [List.getElem?_set_ne (Ne.symm hij)]; exact hi
      refine ⟨_, _, _, _, e, vreq_t (S.cw (i + 2) hi2 (by decide) rfl rfl) ?_⟩
      intro g18
      have S : Know h0 g18 (_ :: _ :: (L.set j _).set i _) := S.wr (i + 2) hi2 (by decide) rfl rfl
      refine ⟨rfl, a', n', c', ?_⟩
      have := S.sub _ ((List.sublist_cons_self ..).trans (List.sublist_cons_self ..))
      have e2 : iv ((l ++ [f.n.toNat]).map Int.ofNat) = iv (l.map Int.ofNat) ++ [.int .i64 (f.n.toNat : Int)] := by
        unfold iv; rw [List.map_append, List.map_append]; rfl
      rw [e2]; exact this
end
end Go.Proofs.YtngcjpkccnfjiaaGreatDoor
/- Contracts: what is reached, by numbers of cells. -/
namespace Go.Proofs.YtngcjpkccnfjiaaGreatDoor
set_option maxRecDepth 100000
open Go Go.Ev
/-- Fields whose references are to cells. -/
def RefsIn (N : Nat) (fs : List Fd) : Prop := ∀ f ∈ fs, f.refs = true → f.n = (f.n.toNat : Int) ∧ f.n.toNat < N
theorem RefsIn.fd {N : Nat} {fs : List Fd} (h : RefsIn N fs) {f : Fd} (hf : f ∈ fs) : FdN f := fun hr => (h f hf hr).1
theorem addC_in {N : Nat} {l : List Nat} {f : Fd} (hn : l.Nodup) (hl : ∀ i ∈ l, i < N) (hf : f.refs = true → f.n.toNat < N) : (addC l f).Nodup ∧ ∀ i ∈ addC l f, i < N := by
  refine ⟨addC_nodup hn, fun i hi => ?_⟩
  have := addC_sub (o := List.range N) (f := f) (fun i hi => List.mem_range.2 (hl i hi)) (fun h => List.mem_range.2 (hf h)) i hi
  exact List.mem_range.1 this
theorem len_in {N : Nat} {l : List Nat} (hn : l.Nodup) (hl : ∀ i ∈ l, i < N) : l.length ≤ N := by
  have := nodup_len (o := List.range N) hn fun i hi => List.mem_range.2 (hl i hi)
  simpa using this
section
variable {O : CallF} (hO : Oth O)
include hO
theorem lp49_2 {g : Hp} {a0 : Option Addr} {n0 c0 : Nat} {a1 : Option Addr} {n1 c1 : Nat} {b5 : Nat} {x9 : Int} {N : Nat} (hN : N ≤ 1000) {fs : List Fd} (hfs : RefsIn N fs) (lfs : fs.length ≤ 1000) {Q : Value → Hp → Prop} {res : List Nat} {a40 : Option Addr} {n40 c40 : Nat} (F : FdsAt g a40 n40 fs)
    (next : ∀ (h : Hp) (a : Option Addr) (n c : Nat), Know g h [acc g.nx 3 1 a n c (iv (res.map Int.ofNat)), ob b5 (.cells [.slice a n c] 22 .fix)] → I49_1 O Q a0 n0 c0 a1 n1 c1 b5 0 (.func (.func 108) #[] #[.pointer (some ⟨b5, 0, none⟩)]) (wrapF .i64 (x9 + 1)) h) :
    ∀ (d k : Nat) (l : List Nat) (h : Hp) (a : Option Addr) (n c : Nat), k + d = fs.length → l.Nodup → (∀ i ∈ l, i < N) → withC (fs.drop k) l = res → Know g h [acc g.nx 3 1 a n c (iv (l.map Int.ofNat)), ob b5 (.cells [.slice a n c] 22 .fix)] →
      I49_2 O Q a0 n0 c0 a1 n1 c1 b5 0 (.func (.func 108) #[] #[.pointer (some ⟨b5, 0, none⟩)]) x9 a40 n40 c40 (Int.ofNat n40) (Int.ofNat k) h := by
  have hn40 := F.1
  intro d
  induction d with
  | zero =>
    intro k l h a n c hk hn hl hw S
    refine I49_2.of (hh := ?_) ..
    unfold T49_2
    refine vcond_f (by rw [ltI_nat]; exact blt_f (by omega)) ?_
    rw [List.drop_of_length_le (by omega)] at hw
    have hw : l = res := hw
    subst hw
    exact next h a n c S
  | succ d ih =>
    intro k l h a n c hk hn hl hw S
    have hk' : k < fs.length := by omega
    haveI := S.ft
    refine I49_2.of (hh := ?_) ..
    unfold T49_2
    refine vcond_t (by rw [ltI_nat]; exact blt_t (by omega)) (isNat_i (F.rd (k := k) hk' ?_))
    intro g306
    have S : Know g g306 [_, _, _] := S.add _
    refine vreq_t (S.cw 0 rfl (by decide) rfl rfl) ?_
    intro g307
    have S : Know g g307 [_, _, _] := S.wr 0 rfl (by decide) rfl rfl
    refine ⟨_, _, S.rd 0 rfl rfl rfl, ?_⟩
    have hm := List.getElem_mem hk'
    have lN := len_in hn hl
    obtain ⟨v, h313, e313, rfl, a', n', c', S2⟩ := ct108 hO S 2 1 rfl rfl (by decide) (by omega) (hfs.fd hm)
    refine ⟨_, e313, ?_⟩
    have S : Know g h313 [_, _, _] := S2
    have S : Know g h313 [_, _] := S.sub _ (List.sublist_cons_self ..)
    rw [wrap_succ (by omega)]
    obtain ⟨q1, q2⟩ := addC_in (f := fs[k]) hn hl fun hr => (hfs _ hm hr).2
    rw [List.drop_eq_getElem_cons hk', withC_cons] at hw
    exact ih (k + 1) _ h313 a' n' c' (by omega) q1 q2 hw S
theorem lp49_1 {g : Hp} {a0 : Option Addr} {n0 c0 : Nat} {a1 : Option Addr} {n1 c1 : Nat} {b5 : Nat} {L : List Cl} (C : ClsAt g a0 n0 L) (hN : L.length ≤ 1000) (hL : ∀ i, i < L.length → RefsIn L.length (clAt L i).fs ∧ (clAt L i).fs.length ≤ 1000) {Q : Value → Hp → Prop} {kept : List Nat}
    (next : ∀ (h : Hp) (a : Option Addr) (n c : Nat), Know g h [acc g.nx 3 1 a n c (iv (kept.map Int.ofNat)), ob b5 (.cells [.slice a n c] 22 .fix)] → Q (.slice a n c) h) :
    ∀ (f i : Nat) (l : List Nat) (h : Hp) (a : Option Addr) (n c : Nat), l.Nodup → (∀ i ∈ l, i < L.length) → i ≤ l.length → reachC L f i l = some kept → Know g h [acc g.nx 3 1 a n c (iv (l.map Int.ofNat)), ob b5 (.cells [.slice a n c] 22 .fix)] →
      I49_1 O Q a0 n0 c0 a1 n1 c1 b5 0 (.func (.func 108) #[] #[.pointer (some ⟨b5, 0, none⟩)]) (Int.ofNat i) h := by
  intro f
  induction f with
  | zero => intro i l h a n c _ _ _ hr; cases hr
  | succ f ih =>
    intro i l h a n c hn hl hil hr S
    have A : AccE h g.nx 3 1 a n c (iv (l.map Int.ofNat)) := S.get 0 rfl
    have hnl : n = l.length := by simpa using (AccE.ints A).1
    have lN := len_in hn hl
    haveI := S.ft
    refine I49_1.of (hh := ?_) ..
    unfold T49_1
    refine ⟨_, _, _, S.rd 1 rfl rfl rfl, ?_⟩
    unfold reachC at hr
    by_cases hi : i < l.length
    · rw [if_pos hi] at hr
      have hg : l.getD i 0 = l[i] := by simp [List.getD, List.getElem?_eq_getElem hi]
      rw [hg] at hr
      have hli := hl _ (List.getElem_mem hi)
      refine vcond_t (by rw [ltI_nat]; exact blt_t (by omega)) ⟨_, _, _, S.rd 1 rfl rfl rfl, isNat_i ((AccE.ints A).rd (k := i) (by rw [List.length_map]; exact hi) ?_)⟩
      rw [List.getElem_map]
      refine isNat_i (C.rd (k := l[i]) hli fun a' n' c' F => ?_)
      have hcl : L[l[i]] = clAt L l[i] := by simp [clAt, List.getD, List.getElem?_eq_getElem hli]
      rw [hcl] at F ⊢
      intro g218
      have S : Know g g218 [_, _, _] := S.add _
      refine vreq_t (S.cw 0 rfl (by decide) rfl rfl) ?_
      intro g219
      have S : Know g g219 [_, _, _] := S.wr 0 rfl (by decide) rfl rfl
      obtain ⟨v, h225, e225, rfl, k225⟩ := ct48 hO S.ok (k := (clAt L l[i]).kind) (a := a') (n := n') (c := c')
      refine ⟨_, _, _, _, S.rd 0 rfl rfl rfl, _, _, e225, ?_⟩
      have S : Know g h225 [_, _, _] := S.call k225
      obtain ⟨hF1, hF2⟩ := hL _ hli
      unfold strongC at hr
      cases hk : keepB (clAt L l[i]).kind with
      | true =>
        rw [hk, if_pos rfl] at hr
        refine vcond_t rfl ⟨_, _, _, S.rd 0 rfl rfl rfl, ?_⟩
        have S : Know g h225 [_, _] := S.sub _ (List.sublist_cons_self ..)
        obtain ⟨w1, w2⟩ := withC_inv (o := List.range L.length) (fs := (clAt L l[i]).fs) hn (fun i hi => List.mem_range.2 (hl i hi)) fun f hf hr => List.mem_range.2 (hF1 f hf hr).2
        obtain ⟨e, he⟩ := withC_pre (clAt L l[i]).fs l
        refine lp49_2 hO hN hF1 hF2 F (fun h2 a2 n2 c2 S2 => ?_) (clAt L l[i]).fs.length 0 l h225 a n c (by omega) hn hl rfl S
        rw [wrap_succ (by omega)]
        exact ih (i + 1) _ h2 a2 n2 c2 w1 (fun i hi => List.mem_range.1 (w2 i hi)) (by rw [he, List.length_append]; omega) hr S2
      | false =>
        rw [hk, if_neg (by decide)] at hr
        refine vcond_f rfl ?_
        have S : Know g h225 [_, _] := S.sub _ (List.sublist_cons_self ..)
        rw [wrap_succ (by omega)]
        exact ih (i + 1) l h225 a n c hn hl (by omega) hr S
    · rw [if_neg hi] at hr
      obtain rfl := Option.some.inj hr
      exact vcond_f (by rw [ltI_nat]; exact blt_f (by omega)) ⟨_, _, _, S.rd 1 rfl rfl rfl, next h a n c S⟩
/-- 'reached'. -/
theorem ct49 {g : Hp} (ok : g.Ok) {a0 : Option Addr} {n0 c0 : Nat} {a1 : Option Addr} {n1 c1 : Nat} {L : List Cl} (C : ClsAt g a0 n0 L) (hN : L.length ≤ 1000) (hL : ∀ i, i < L.length → RefsIn L.length (clAt L i).fs ∧ (clAt L i).fs.length ≤ 1000) {fs : List Fd} (F : FdsAt g a1 n1 fs) (hfs : RefsIn L.length fs) (lfs : fs.length ≤ 1000) {f : Nat} {kept : List Nat} (hk : reachC L f 0 (withC fs []) = some kept) :
    Ret Tryz.prog O 49 [.slice a0 n0 c0, .slice a1 n1 c1] g fun v h' => ∃ a n c, v = .slice a n c ∧ Know g h' [acc g.nx 3 1 a n c (iv (kept.map Int.ofNat))] := by
  refine rk49 (hO := hO _ _ _ (by decide)) (hh := ?_) ..
  unfold T49
  intro g1
  have S : Know g g1 [_] := (Know.nil ok).add _
  have S : Know g g1 [_, _] := S.accNil g.nx 3 1
  obtain ⟨w1, w2⟩ := withC_inv (o := List.range L.length) (fs := fs) (l := []) List.nodup_nil (fun i hi => by cases hi) fun f hf hr => List.mem_range.2 (hfs f hf hr).2
  have hn1 := F.1
  have lp : ∀ (d k : Nat) (l : List Nat) (h : Hp) (a : Option Addr) (n c : Nat), k + d = fs.length → l.Nodup → (∀ i ∈ l, i < L.length) → withC (fs.drop k) l = withC fs [] → Know g h [acc g.nx 3 1 a n c (iv (l.map Int.ofNat)), ob g.nx (.cells [.slice a n c] 22 .fix)] →
      I49_0 O (fun v h' => ∃ a n c, v = .slice a n c ∧ Know g h' [acc g.nx 3 1 a n c (iv (kept.map Int.ofNat))]) a0 n0 c0 a1 n1 c1 g.nx 0 (.func (.func 108) #[] #[.pointer (some ⟨g.nx, 0, none⟩)]) (Int.ofNat k) h := by
    intro d
    induction d with
    | zero =>
      intro k l h a n c hk2 hn hl hw S
      refine I49_0.of (hh := ?_) ..
      unfold T49_0
      refine vcond_f (by rw [ltI_nat]; exact blt_f (by omega)) ?_
      rw [List.drop_of_length_le (by omega)] at hw
      have hw : l = withC fs [] := hw
      subst hw
      exact lp49_1 hO C hN hL (kept := kept) (fun h a n c S => ⟨a, n, c, rfl, S.sel [0] (by decide) rfl⟩) f 0 _ h a n c hn hl (Nat.zero_le _) hk S
    | succ d ih =>
      intro k l h a n c hk2 hn hl hw S
      have hk' : k < fs.length := by omega
      haveI := S.ft
      refine I49_0.of (hh := ?_) ..
      unfold T49_0
      refine vcond_t (by rw [ltI_nat]; exact blt_t (by omega)) (isNat_i (F.rd (k := k) hk' ?_))
      intro g306
      have S : Know g g306 [_, _, _] := S.add _
      refine vreq_t (S.cw 0 rfl (by decide) rfl rfl) ?_
      intro g307
      have S : Know g g307 [_, _, _] := S.wr 0 rfl (by decide) rfl rfl
      refine ⟨_, _, S.rd 0 rfl rfl rfl, ?_⟩
      have hm := List.getElem_mem hk'
      have lN := len_in hn hl
      obtain ⟨v, h313, e313, rfl, a', n', c', S2⟩ := ct108 hO S 2 1 rfl rfl (by decide) (by omega) (hfs.fd hm)
      refine ⟨_, e313, ?_⟩
      have S : Know g h313 [_, _, _] := S2
      have S : Know g h313 [_, _] := S.sub _ (List.sublist_cons_self ..)
      rw [wrap_succ (by omega)]
      obtain ⟨q1, q2⟩ := addC_in (f := fs[k]) hn hl fun hr => (hfs _ hm hr).2
      rw [List.drop_eq_getElem_cons hk', withC_cons] at hw
      exact ih (k + 1) _ h313 a' n' c' (by omega) q1 q2 hw S
  exact lp fs.length 0 [] g1 none 0 0 (by omega) List.nodup_nil (fun i hi => by cases hi) rfl S
end
end Go.Proofs.YtngcjpkccnfjiaaGreatDoor
/- Cells by numbers: a list of cells that grows; what a pile's bytes say. -/
namespace Go.Ev
open Go
/-- What is so as long as some objects stay. -/
def clo (own : Nat → Prop) (F : Hp → Prop) : Rs := ⟨own, fun h => ∀ h' : Hp, h.nx ≤ h'.nx → (∀ b, own b → h'.get b = h.get b) → F h'⟩
theorem clo.loc (own : Nat → Prop) (F : Hp → Prop) : (clo own F).Loc := fun _ _ hn he hP h'' hn2 he2 => hP h'' (Nat.le_trans hn hn2) fun b hb => (he2 b hb).trans (he b hb)
theorem clo.get {own : Nat → Prop} {F : Hp → Prop} {h : Hp} (hP : (clo own F).P h) : F h := hP h (Nat.le_refl _) fun _ _ => rfl
theorem Know.merge {h0 g : Hp} {r s : Rs} {L : List Rs} (S : Know h0 g (r :: s :: L)) (F : Hp → Prop) (hF : ∀ h', r.P h' → s.P h' → F h') : Know h0 g (clo (fun o => r.own o ∨ s.own o) F :: L) := by
  obtain ⟨r1, r2, r3⟩ := S.at_ r (List.mem_cons_self ..)
  obtain ⟨s1, s2, s3⟩ := S.at_ s (List.mem_cons_of_mem _ (List.mem_cons_self ..))
  obtain ⟨d1, d2⟩ := List.pairwise_cons.1 S.dis
  obtain ⟨d3, d4⟩ := List.pairwise_cons.1 d2
  refine ⟨S.ok, S.kp, fun q hq => ?_, List.pairwise_cons.2 ⟨fun q hq b hb hqb => ?_, d4⟩, S.ok0⟩
  · rcases List.mem_cons.1 hq with rfl | hq
    · exact ⟨clo.loc _ _, fun h' hn he => hF h' (r1 g h' hn (fun b hb => he b (.inl hb)) r2) (s1 g h' hn (fun b hb => he b (.inr hb)) s2), fun b hb => hb.elim (r3 b) (s3 b)⟩
    · exact S.at_ q (List.mem_cons_of_mem _ (List.mem_cons_of_mem _ hq))
  · rcases hb with hb | hb
    · exact d1 q (List.mem_cons_of_mem _ hq) b hb hqb
    · exact d3 q hq b hb hqb
theorem AccE.slAt {α : Type} {enc : α → List Value} {w : Nat} (hw : ∀ x, (enc x).length = w) (hw0 : 0 < w) {h : Hp} {base : Nat} {e : TypeId} {a : Option Addr} {n c : Nat} {xs : List α} (H : AccE h base e w a n c (xs.flatMap enc)) : SlAt w (ECells enc) h a n xs := by
  rcases H with H | ⟨h1, h2, h3, o, h4, h5, h6, e2, m, h7⟩
  · exact H.slAt hw hw0
  · have hl := flatMap_length hw xs
    rw [h1] at hl
    have hx : xs = [] := by
      cases xs with
      | nil => rfl
      | cons x xs =>
        have : w ≤ (xs.length + 1) * w := Nat.le_mul_of_pos_left w (by omega)
        rw [List.length_nil, List.length_cons] at hl
        omega
    subst hx h2 h4
    exact ⟨rfl, .inr ⟨o, 0, _, _, _, rfl, h6, h7, by simp, fun i hi => by simp at hi⟩⟩
end Go.Ev
namespace Go.Proofs.YtngcjpkccnfjiaaGreatDoor
set_option maxRecDepth 100000
open Go Go.Ev
theorem app64 : AppT Tryz.prog 64 76 2 16 := ⟨Tryz.underlying64, by kernel_rfl⟩
theorem app63 : AppT Tryz.prog 63 72 2 32 := ⟨Tryz.underlying63, by kernel_rfl⟩
abbrev fvs (fs : List Fd) : List Value := fs.flatMap fdE
theorem fvs_one (fs : List Fd) : (fvs fs).all one = true := by
  induction fs with
  | nil => rfl
  | cons f fs ih =>
    show ((f :: fs).flatMap fdE).all one = true
    rw [List.flatMap_cons, List.all_append]
    exact (Bool.and_eq_true _ _).mpr ⟨rfl, ih⟩
/-- Values of cells. -/
def Nst (h : Hp) : List Value → List Cl → Prop
  | [], [] => True
  | v :: w :: vs, c :: L => (v = .int .i64 c.kind ∧ ∃ a n cp, w = .slice a n cp ∧ FdsAt h a n c.fs) ∧ Nst h vs L
  | _, _ => False
theorem Nst.snoc {h : Hp} : ∀ {vs : List Value} {L : List Cl}, Nst h vs L → ∀ {c : Cl} {a : Option Addr} {n cp : Nat}, FdsAt h a n c.fs → Nst h (vs ++ [.int .i64 c.kind, .slice a n cp]) (L ++ [c])
  | [], [], _, c, a, n, cp, F => ⟨⟨rfl, a, n, cp, rfl, F⟩, trivial⟩
  | v :: w :: vs, c :: L, H, c', a, n, cp, F => ⟨H.1, Nst.snoc H.2 F⟩
  | [], _ :: _, H, _, _, _, _, _ => H.elim
  | [_], _, H, _, _, _, _, _ => by cases ‹List Cl› <;> exact H.elim
  | _ :: _ :: _, [], H, _, _, _, _, _ => H.elim
theorem Nst.len {h : Hp} : ∀ {vs : List Value} {L : List Cl}, Nst h vs L → vs.length = L.length * 2
  | [], [], _ => rfl
  | v :: w :: vs, c :: L, H => by have := Nst.len H.2; simp; omega
  | [], _ :: _, H => H.elim
  | [_], _, H => by cases ‹List Cl› <;> exact H.elim
  | _ :: _ :: _, [], H => H.elim
theorem Nst.get {h : Hp} : ∀ {vs : List Value} {L : List Cl}, Nst h vs L → ∀ i (hi : i < L.length), ECl h L[i] ((vs.drop (i * 2)).take 2)
  | [], [], _, i, hi => by simp at hi
  | v :: w :: vs, c :: L, H, i, hi => by
    cases i with
    | zero =>
      obtain ⟨⟨rfl, a, n, cp, rfl, F⟩, _⟩ := H
      exact ⟨a, n, cp, rfl, F⟩
    | succ i =>
      have := Nst.get H.2 i (by simpa using hi)
      rw [show (i + 1) * 2 = i * 2 + 1 + 1 by omega, List.drop_succ_cons, List.drop_succ_cons]
      exact this
  | [], _ :: _, H, _, _ => H.elim
  | [_], _, H, _, _ => by cases ‹List Cl› <;> exact H.elim
  | _ :: _ :: _, [], H, _, _ => H.elim
theorem cls_of {h : Hp} {lo : Nat} {a : Option Addr} {n c : Nat} {vs : List Value} {L : List Cl} (A : AccE h lo 72 2 a n c vs) (N : Nst h vs L) : ClsAt h a n L := by
  have hl := N.len
  rcases A with (⟨rfl, rfl, _, rfl⟩ | ⟨o, rfl, _, h3, _, h5, h6⟩) | ⟨rfl, rfl, _, o, rfl, _, h6, e2, m, h7⟩
  · have : L = [] := by
      cases L with
      | nil => rfl
      | cons x L => simp at hl
    subst this; exact SlAt.nil ..
  · exact ⟨by omega, .inr ⟨o, 0, vs, 72, _, rfl, h5, h6, by omega, fun i hi => by rw [Nat.zero_add]; exact N.get i hi⟩⟩
  · have : L = [] := by
      cases L with
      | nil => rfl
      | cons x L => simp at hl
    subst this
    exact ⟨rfl, .inr ⟨o, 0, _, _, _, rfl, h6, h7, by simp, fun i hi => by simp at hi⟩⟩
theorem Nst.mono {h h' : Hp} (f : ∀ {a n fs}, FdsAt h a n fs → FdsAt h' a n fs) : ∀ {vs : List Value} {L : List Cl}, Nst h vs L → Nst h' vs L
  | [], [], _ => trivial
  | v :: w :: vs, c :: L, H => ⟨⟨H.1.1, let ⟨a, n, cp, e, F⟩ := H.1.2; ⟨a, n, cp, e, f F⟩⟩, Nst.mono f H.2⟩
  | [], _ :: _, H => H.elim
  | [_], _, H => by cases ‹List Cl› <;> exact H.elim
  | _ :: _ :: _, [], H => H.elim
/-! ### what the bytes of a pile say -/
abbrev bv (xs : List Nat) : List Value := xs.map fun x => Value.int .u8 (Int.ofNat x)
structure Bytes (v0 : Array Value) (xs : List Nat) : Prop where
  v : v0.toList = bv xs
  len : xs.length = 51
  lt : ∀ x ∈ xs, x < 256
def wordC (n x : Nat) : Fd := if n = 0 ∨ x % 4 = 0 then ⟨2 * ((x : Int) - 100) + 1, false⟩ else if x % 16 = 7 then ⟨0, false⟩ else ⟨((x / 4 % n : Nat) : Int), true⟩
def fdOf (k n x : Nat) : Fd := if k = 3 then ⟨((97 + x % 26 : Nat) : Int), false⟩ else if k = 4 then ⟨((x % 2 : Nat) : Int), false⟩ else wordC n x
def pKind (xs : List Nat) (i : Nat) : Nat := 1 + xs.getD (2 + i) 0 % 5
def pSize (xs : List Nat) (i : Nat) : Nat := if pKind xs i = 4 then 1 else xs.getD (2 + i) 0 / 8 % 5
def pMany (xs : List Nat) : Nat := xs.getD 0 0 % 10
def pCell (xs : List Nat) (i : Nat) : Cl := ⟨(pKind xs i : Int), ((xs.drop (11 + 4 * i)).take (pSize xs i)).map (fdOf (pKind xs i) (pMany xs))⟩
def drawnL (xs : List Nat) : List Cl := (List.range (pMany xs)).map (pCell xs)
def drawnR (xs : List Nat) : List Fd := ((xs.drop 47).take (xs.getD 0 0 / 16 % 5)).map (wordC (pMany xs))
theorem bv_one (xs : List Nat) : (bv xs).all one = true := by rw [List.all_map]; exact List.all_eq_true.2 fun _ _ => rfl
theorem bv_at {xs : List Nat} {i : Nat} (hi : i < xs.length) : ((bv xs).drop i).take 1 = [.int .u8 (Int.ofNat (xs.getD i 0))] := by
  rw [List.drop_eq_getElem_cons (by simpa using hi)]
  simp [List.getD, List.getElem?_eq_getElem hi]
theorem Bytes.b {v0 : Array Value} {xs : List Nat} (B : Bytes v0 xs) (i : Nat) : xs.getD i 0 < 256 := by
  rw [List.getD]
  cases h : xs[i]? with
  | none => show 0 < 256; decide
  | some x => exact B.lt x (List.mem_of_getElem? h)
theorem wrapN {n : Nat} (h : n < 9223372036854775808) : wrapF .i64 (Int.ofNat n) = Int.ofNat n := wrap64 (by have : Int.ofNat n = (n : Int) := rfl; omega) (by have : Int.ofNat n = (n : Int) := rfl; omega)
theorem wordC_n {n x : Nat} (h : n = 0 ∨ x % 4 = 0) : wordC n x = ⟨2 * ((x : Int) - 100) + 1, false⟩ := if_pos h
section
variable {O : CallF} (hO : Oth O)
include hO
theorem ct139 {h : Hp} (ok : h.Ok) {n x : Nat} (hx : x < 256) {b1 : Nat} (hb : readAt h b1 0 1 = some [.int .i64 (Int.ofNat n)]) (hb1 : b1 < h.nx) : Ret Tryz.prog O 139 [.int .u8 (Int.ofNat x), .pointer (some ⟨b1, 0, none⟩)] h fun v h' => v = .agg #[.int .i64 (wordC n x).n, .bool (wordC n x).refs] ∧ Kp h.nx h h' := by
  refine rk139 (hO := hO _ _ _ (by decide)) (hh := ?_) ..
  unfold T139
  have ex : wrapF .i64 (Int.ofNat x) = Int.ofNat x := wrapN (by omega)
  rw [ex]
  have e1 : wrapF .i64 (wrapF .i64 (2 * wrapF .i64 (Int.ofNat x - 100)) + 1) = 2 * ((x : Int) - 100) + 1 := by
    have : Int.ofNat x = (x : Int) := rfl
    rw [wrap64 (n := Int.ofNat x - 100) (by omega) (by omega), wrap64 (n := 2 * (Int.ofNat x - 100)) (by omega) (by omega), wrap64 (by omega) (by omega)]
    rfl
  rw [e1]
  intro g1
  have S : Know h g1 [_] := (Know.nil ok).add _
  have hb' : readAt g1 b1 0 1 = some [.int .i64 (Int.ofNat n)] := by
    haveI := S.ft
    rw [readAt_ex (g := h) hb1]; exact hb
  refine ⟨_, hb', vcond_split (fun h1 => ?_) fun h1 => ?_⟩
  · refine vreq_t (S.cw 0 rfl (by decide) rfl rfl) ?_
    intro g3
    have S : Know h g3 [_] := S.wr 0 rfl (by decide) rfl rfl
    have h1 : n = 0 := Int.ofNat_inj.1 (eq_of_t h1)
    rw [wordC_n (.inl h1)]
    exact ⟨_, _, S.rd 0 rfl rfl rfl, rfl, S.kp⟩
  have h1 : n ≠ 0 := fun h => ne_of_f h1 (by rw [h]; rfl)
  refine vcond_split (fun h2 => ?_) fun h2 => ?_
  · refine vreq_t (S.cw 0 rfl (by decide) rfl rfl) ?_
    intro g3
    have S : Know h g3 [_] := S.wr 0 rfl (by decide) rfl rfl
    have h2 : x % 4 = 0 := Int.ofNat_inj.1 (eq_of_t h2)
    rw [wordC_n (.inr h2)]
    exact ⟨_, _, S.rd 0 rfl rfl rfl, rfl, S.kp⟩
  have h2 : x % 4 ≠ 0 := fun h => ne_of_f h2 (by show Int.ofNat (x % 4) = 0; rw [h]; rfl)
  refine vcond_split (fun h3 => ?_) fun h3 => ?_
  · refine vreq_t (S.cw 0 rfl (by decide) rfl rfl) ?_
    intro g3
    have S : Know h g3 [_] := S.wr 0 rfl (by decide) rfl rfl
    have h3 : x % 16 = 7 := Int.ofNat_inj.1 (eq_of_t h3)
    have e : wordC n x = ⟨0, false⟩ := by unfold wordC; rw [if_neg (by omega), if_pos h3]
    rw [e]
    exact ⟨_, _, S.rd 0 rfl rfl rfl, rfl, S.kp⟩
  have h3 : x % 16 ≠ 7 := fun h => ne_of_f h3 (by show Int.ofNat (x % 16) = 7; rw [h]; rfl)
  have e : wordC n x = ⟨((x / 4 % n : Nat) : Int), true⟩ := by unfold wordC; rw [if_neg (by omega), if_neg h3]
  rw [e]
  have e2 : wrapF .i64 (Int.tdiv (Int.ofNat x) 4) = Int.ofNat (x / 4) := wrapN (n := x / 4) (by omega)
  rw [e2]
  refine ⟨_, hb', vreq_t (by rw [eqI_f (a := Int.ofNat n) (b := 0) (fun h => h1 (Int.ofNat_inj.1 h))]; rfl) (vreq_t (S.cw 0 rfl (by decide) rfl rfl) ?_)⟩
  intro g3
  have S : Know h g3 [_] := S.wr 0 rfl (by decide) rfl rfl
  exact ⟨_, _, S.rd 0 rfl rfl rfl, rfl, S.kp⟩
end
end Go.Proofs.YtngcjpkccnfjiaaGreatDoor
