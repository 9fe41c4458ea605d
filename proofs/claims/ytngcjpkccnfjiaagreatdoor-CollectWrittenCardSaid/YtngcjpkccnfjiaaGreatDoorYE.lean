/- Contracts of the reference: cells are laid. -/
import Derived.Test.YtngcjpkccnfjiaaGreatDoorYD
import Derived.Test.YtngcjpkccnfjiaaGreatDoorProg
import Derived.Test.YtngcjpkccnfjiaaGreatDoorYC
import Derived.KernelRfl
namespace Go.Proofs.YtngcjpkccnfjiaaGreatDoor
set_option maxRecDepth 100000
open Go Go.Ev
/-- From one memory to a later one: one object's cells alone change. -/
structure Wr (oD : Nat) (h h' : Hp) : Prop where
  get : ∀ o, o < h.nx → o ≠ oD → h'.get o = h.get o
  nx : h.nx ≤ h'.nx
  gd : h'.gd = h.gd
  fr : h.Fresh → h'.Fresh
theorem Wr.refl (oD : Nat) (h : Hp) : Wr oD h h := ⟨fun _ _ _ => rfl, Nat.le_refl _, rfl, id⟩
theorem Wr.trans {oD : Nat} {h h' h'' : Hp} (a : Wr oD h h') (b : Wr oD h' h'') : Wr oD h h'' := ⟨fun o ho hne => (b.get o (Nat.lt_of_lt_of_le ho a.nx) hne).trans (a.get o ho hne), Nat.le_trans a.nx b.nx, b.gd.trans a.gd, fun f => b.fr (a.fr f)⟩
theorem Wr.low {oD m : Nat} {h h' : Hp} (w : Wr oD h h') (hm : m ≤ oD) (hn : m ≤ h.nx) : Kp m h h' := ⟨fun o ho => w.get o (by omega) (by omega), w.nx, w.gd, w.fr⟩
theorem putAt_nil {α : Type} : ∀ (D : List α) (k : Nat), putAt D k [] = D := by
  intro D
  induction D with
  | nil => intro k; cases k <;> rfl
  | cons d D ih => intro k; cases k with
    | zero => rfl
    | succ k => show d :: putAt D k [] = _; rw [ih]
/-! ### 'laid' -/
/-- While cells are laid. -/
structure LaidI (gB : Hp) (b3 b9 oD n : Nat) (v1 v2 v3 : Value) (x : Int) (D : List Int) (ar : Option Addr) (nr cr : Nat) (h : Hp) : Prop where
  ok : h.Ok
  ft : Ft gB h
  gd : h.gd = gB.gd
  s3 : h.get b3 = some (.cells [v1, v2, v3] 24 .fix)
  cD : h.get oD = some (.cells (D.map (Value.int .i64)) 3 .fix)
  out : h.get b9 = some (.cells [.slice (some ⟨oD, 0, none⟩) n n, .int .i64 x, .slice ar nr cr] 24 .fix)
  lD : D.length = n
  b9 : b9 < h.nx
end Go.Proofs.YtngcjpkccnfjiaaGreatDoor
/- Contracts: Collect, of the reference and of the code. -/
namespace Go.Proofs.YtngcjpkccnfjiaaGreatDoor
set_option maxRecDepth 100000
open Go Go.Ev
/-- A heap that is returned. -/
def HO (g : Hp) (W : List Int) (top : Nat) (R : List Int) (v : Value) (h : Hp) : Prop := ∃ aw nw cw ar nr cr, v = .agg #[.slice aw nw cw, .int .i64 (Int.ofNat top), .slice ar nr cr] ∧ SI h aw nw cw W ∧ SI h ar nr cr R ∧ Kp g.nx g h ∧ h.Ok ∧ (∀ o off, aw = some ⟨o, off, none⟩ → g.nx ≤ o) ∧ ∀ o off, ar = some ⟨o, off, none⟩ → g.nx ≤ o
theorem SI.cells {h : Hp} {o n : Nat} {e : TypeId} {m : Md} {xs : List Int} (hg : h.get o = some (.cells (xs.map (Value.int .i64)) e m)) (ho : o < h.nx) (hn : n = xs.length) (hl : xs.length < 1000000) : SI h (some ⟨o, 0, none⟩) n n xs := by
  subst hn
  exact SI.fix (intsCells hg ho) (Nat.le_refl _) (by have : unk = 18446744073709551616 := rfl; omega) (fun h => by cases h)
theorem SI.upd {h h' : Hp} {a : Option Addr} {n c : Nat} {W : List Int} (s : SI h a n c W) (hk : ∀ o off, a = some ⟨o, off, none⟩ → h'.get o = h.get o) (hn : h.nx ≤ h'.nx) : SI h' a n c W := by
  obtain ⟨vis, e, q⟩ := s.cap
  refine ⟨s.at_.keep (fun b off hb => hk b off hb) hn (fun _ _ h => h), vis, ?_, q⟩
  rw [← e]
  cases a with
  | none => rfl
  | some ad =>
    obtain ⟨o, off, vw⟩ := ad
    cases vw with
    | some _ => rfl
    | none => simp only [Ev.seen]; rw [hk o off rfl]
section
variable {O : CallF} (hO : Oth O) {g : Hp} (ok : g.Ok) {aw : Option Addr} {nw cw : Nat} {W : List Int} {tp : Nat} {ar : Option Addr} {nr cr : Nat} {R : List Int} (A : HA g aw nw cw W ar nr cr R)
include hO ok A
omit hO ok A in
theorem HO.zero {g h : Hp} (k : Kp g.nx g h) (ok : h.Ok) : HO g [] 0 [] (.agg #[.slice none 0 0, .int .i64 (Int.ofNat 0), .slice none 0 0]) h := ⟨_, _, _, _, _, _, rfl, SI.fix (SlAt.nil ..) (Nat.le_refl _) (by decide) (fun _ => rfl), SI.fix (SlAt.nil ..) (Nat.le_refl _) (by decide) (fun _ => rfl), k, ok, fun _ _ h => (by cases h), fun _ _ h => (by cases h)⟩
end
end Go.Proofs.YtngcjpkccnfjiaaGreatDoor
/- Plain law: what the reference lays is what the code moves. -/
namespace Go.Proofs.YtngcjpkccnfjiaaGreatDoor
open Go Go.Ev
end Go.Proofs.YtngcjpkccnfjiaaGreatDoor
/- Plain law: a collection from an address. -/
namespace Go.Proofs.YtngcjpkccnfjiaaGreatDoor
open Go Go.Ev
end Go.Proofs.YtngcjpkccnfjiaaGreatDoor
/- Contracts: Minor of the code. -/
namespace Go.Proofs.YtngcjpkccnfjiaaGreatDoor
set_option maxRecDepth 100000
open Go Go.Ev
end Go.Proofs.YtngcjpkccnfjiaaGreatDoor
/- Contracts: Where of the code; equality of lists. -/
namespace Go.Proofs.YtngcjpkccnfjiaaGreatDoor
set_option maxRecDepth 100000
open Go Go.Ev
theorem mem_ofNat (l : List Nat) (m : Nat) : (l.map Int.ofNat).contains (Int.ofNat m) = decide (m ∈ l) := by
  rw [Bool.eq_iff_iff, List.contains_iff_mem, List.mem_map, decide_eq_true_eq]
  exact ⟨fun ⟨a, h, e⟩ => Int.ofNat_inj.1 e ▸ h, fun h => ⟨m, h, rfl⟩⟩
section
variable {O : CallF} (hO : Oth O)
include hO
/-- 'cell'. -/
theorem ct71 {h : Hp} {W : List Int} {l : List Nat} {a : Option Addr} {n c : Nat} (B : BoolsAt h a n (beginP W l)) (hl : ∀ x ∈ l, x < W.length) (x : Int) : EvT O 71 [.slice a n c, .int .i64 x] h (.bool ((l.map Int.ofNat).contains x)) h := by
  refine evt hO (rk71 _ _ _ _ (hO _ _ _ (by decide)) ?_)
  unfold T71
  have out : (∀ m : Nat, x = Int.ofNat m → m ∉ l) → (l.map Int.ofNat).contains x = false := fun hh => by
    rw [Bool.eq_false_iff, ne_eq, List.contains_iff_mem, List.mem_map]
    rintro ⟨a, ha, e⟩
    exact hh a e.symm ha
  have hn := B.1
  rw [begin_length] at hn
  refine vcond_split (fun h1 => ?_) fun h1 => ?_
  · have h1 := not_lt_of_f (nt_f h1)
    obtain ⟨m, rfl⟩ : ∃ m : Nat, x = Int.ofNat m := Int.eq_ofNat_of_zero_le (by omega)
    refine vcond_split (fun h2 => ?_) fun h2 => ?_
    · have h2 : m < W.length := by rw [hn] at h2; exact Int.ofNat_lt.1 (lt_of_t h2)
      have hmb : m < (beginP W l).length := by rw [begin_length]; exact h2
      refine isNat_i (B.rd hmb ⟨?_, rfl⟩)
      congr 1
      rw [mem_ofNat, Bool.eq_iff_iff, decide_eq_true_eq, ← begin_get h2]
      simp [List.getD, List.getElem?_eq_getElem hmb]
    · have h2 : ¬ m < W.length := fun hh => not_lt_of_f h2 (by rw [hn]; exact Int.ofNat_lt.2 hh)
      rw [out fun m' e hm => by obtain rfl := Int.ofNat_inj.1 e; exact h2 (hl m hm)]
      exact ⟨rfl, rfl⟩
  · have h1 := lt_of_t (nt_t h1)
    rw [out fun m' e hm => by have : (Int.ofNat m' : Int) = (m' : Int) := rfl; omega]
    exact ⟨rfl, rfl⟩
end
end Go.Proofs.YtngcjpkccnfjiaaGreatDoor
/- Contracts: Where of the reference; equality of lists. -/
namespace Go.Proofs.YtngcjpkccnfjiaaGreatDoor
set_option maxRecDepth 100000
open Go Go.Ev
end Go.Proofs.YtngcjpkccnfjiaaGreatDoor
/- Contracts: equality of lists; Same. -/
namespace Go.Proofs.YtngcjpkccnfjiaaGreatDoor
set_option maxRecDepth 100000
open Go Go.Ev
end Go.Proofs.YtngcjpkccnfjiaaGreatDoor
/- Contracts: Same. -/
namespace Go.Proofs.YtngcjpkccnfjiaaGreatDoor
set_option maxRecDepth 100000
open Go Go.Ev
/-- What 'Collect' comes to. -/
structure Out where
  W : List Int
  top : Nat
  R : List Int
  e : Int
end Go.Proofs.YtngcjpkccnfjiaaGreatDoor
/- Contracts: Same of the reference. -/
namespace Go.Proofs.YtngcjpkccnfjiaaGreatDoor
set_option maxRecDepth 100000
open Go Go.Ev
end Go.Proofs.YtngcjpkccnfjiaaGreatDoor
/- Plain law: a collection from an address, laid and moved. -/
namespace Go.Proofs.YtngcjpkccnfjiaaGreatDoor
open Go Go.Ev
end Go.Proofs.YtngcjpkccnfjiaaGreatDoor
/- Plain law: Where and Same. -/
namespace Go.Proofs.YtngcjpkccnfjiaaGreatDoor
open Go Go.Ev
end Go.Proofs.YtngcjpkccnfjiaaGreatDoor
/- Contracts: Minor of the reference. -/
namespace Go.Proofs.YtngcjpkccnfjiaaGreatDoor
set_option maxRecDepth 100000
open Go Go.Ev
theorem AccE.ints {e : TypeId} {h : Hp} {base : Nat} {a : Option Addr} {n c : Nat} {xs : List Int} (H : AccE h base e 1 a n c (xs.map (Value.int .i64))) : IntsAt h a n xs := by
  rcases H with H | ⟨h1, h2, h3, o, h4, h5, h6, e2, m, h7⟩
  · exact AccI.ints (e := e) (base := base) (c := c) H
  · have hx : xs = [] := by
      cases xs with
      | nil => rfl
      | cons x xs => cases h1
    subst hx h2 h4
    exact ⟨rfl, .inr ⟨o, 0, _, _, _, rfl, h6, h7, by simp, fun i hi => by simp at hi⟩⟩
end Go.Proofs.YtngcjpkccnfjiaaGreatDoor
/- Contracts: Minor of the reference. -/
namespace Go.Proofs.YtngcjpkccnfjiaaGreatDoor
set_option maxRecDepth 100000
open Go Go.Ev
end Go.Proofs.YtngcjpkccnfjiaaGreatDoor
/- Contracts: equal of heaps that are one. -/
namespace Go.Proofs.YtngcjpkccnfjiaaGreatDoor
set_option maxRecDepth 100000
open Go Go.Ev
section
variable {O : CallF} (hO : Oth O)
include hO
theorem ct19 {g : Hp} {a10 : Option Addr} {n11 c12 : Nat} {a14 : Option Addr} {n15 c16 : Nat} {W R : List Int} {t : Int} (S1 : IntsAt g a10 n11 W) (S2 : IntsAt g a14 n15 R) {a28 : Option Addr} {n29 c30 : Nat} {a32 : Option Addr} {n33 c34 : Nat} (S3 : IntsAt g a28 n29 W) (S4 : IntsAt g a32 n33 R) (bl : W.length < 1000000) (br : R.length < 1000000) :
    Ret Tryz.prog O 19 [.agg #[.slice a10 n11 c12, .int .i64 t, .slice a14 n15 c16], .agg #[.slice a28 n29 c30, .int .i64 t, .slice a32 n33 c34]] g fun v h' => v = .bool true ∧ Kp g.nx g h' := by
  refine rk19 (hO := hO _ _ _ (by decide)) (hh := ?_) ..
  unfold T19
  intro g1 g2
  have n1' : g1.nx = g.nx + 1 := rfl
  have n2 : g2.nx = g.nx + 2 := rfl
  have k2 : Kp g.nx g g2 := ((Kp.refl _ g).add (Nat.le_refl _) _).add (Nat.le_succ _) _
  have s0 : g2.get g.nx = some (.cells [.slice a10 n11 c12, .int .i64 t, .slice a14 n15 c16] 24 .fix) := (get_add_ne (show g.nx ≠ g1.nx by omega)).trans (get_add_same ..)
  have s1 : g2.get g1.nx = some (.cells [.slice a28 n29 c30, .int .i64 t, .slice a32 n33 c34] 24 .fix) := get_add_same ..
  haveI : Ft g g2 := k2.ex (Nat.le_refl _)
  obtain ⟨v, h10, e10, rfl, k10⟩ := ct40 hO (c := c12) (c1 := c30) (S1.to g2) (S3.to g2) bl
  have kg10 : Kp g.nx g h10 := k2.trans (k10.le (by omega))
  haveI : Ft g h10 := kg10.ex (Nat.le_refl _)
  have t0 := (k10.get g.nx (by omega)).trans s0
  have t1 := (k10.get g1.nx (by omega)).trans s1
  obtain ⟨v, h20, e20, rfl, k20⟩ := ct40 hO (c := c16) (c1 := c34) (S2.to h10) (S4.to h10) br
  refine ⟨_, _, _, read1 (i := 0) s0 rfl, _, _, _, read1 (i := 0) s1 rfl, _, _, e10, vcond_t rfl ⟨_, read1 (i := 1) t0 rfl, _, read1 (i := 1) t1 rfl, vcond_t (eqI_t rfl) ⟨_, _, _, read1 (i := 2) t0 rfl, _, _, _, read1 (i := 2) t1 rfl, _, _, e20, rfl, kg10.trans (k20.le kg10.nx)⟩⟩⟩
end
end Go.Proofs.YtngcjpkccnfjiaaGreatDoor
/- CollectMoves of layer 15: what is returned, by the code and by the reference. -/
namespace Go.Proofs.YtngcjpkccnfjiaaGreatDoor
set_option maxRecDepth 100000
open Go Go.Ev
end Go.Proofs.YtngcjpkccnfjiaaGreatDoor
/- Plain law: a heap that is laid from cells, in some order: what it is. -/
namespace Go.Proofs.YtngcjpkccnfjiaaGreatDoor
open Go Go.Ev
/-- A field by numbers: a number, or a reference to a cell. -/
structure Fd where
  n : Int
  refs : Bool
  deriving DecidableEq
/-- A cell by numbers. -/
structure Cl where
  kind : Int
  fs : List Fd
def Cl.no : Cl := ⟨0, []⟩
def clAt (L : List Cl) (i : Nat) : Cl := L.getD i Cl.no
def szC (L : List Cl) (i : Nat) : Nat := 1 + (clAt L i).fs.length
/-- Where things of some sizes lie, one after the other; 0 for others. -/
def posS (sz : Nat → Nat) : Nat → List Nat → Nat → Nat
  | _, [], _ => 0
  | b, x :: xs, a => if x = a then b else posS sz (b + sz x) xs a
def totS (sz : Nat → Nat) (o : List Nat) : Nat := (o.map sz).sum
def addrS (sz : Nat → Nat) : Nat → List Nat → List Nat
  | _, [] => []
  | b, x :: xs => b :: addrS sz (b + sz x) xs
theorem totS_app (sz : Nat → Nat) (a b : List Nat) : totS sz (a ++ b) = totS sz a + totS sz b := by simp [totS]
theorem totS_cons (sz : Nat → Nat) (a : Nat) (b : List Nat) : totS sz (a :: b) = sz a + totS sz b := rfl
theorem posS_app {sz : Nat → Nat} : ∀ {o e : List Nat} {b a : Nat}, a ∉ o → posS sz b (o ++ e) a = posS sz (b + totS sz o) e a := by
  intro o
  induction o with
  | nil => intro e b a _; rfl
  | cons x o ih =>
    intro e b a h
    show (if x = a then b else posS sz (b + sz x) (o ++ e) a) = _
    rw [if_neg (fun hh => h (by rw [hh]; exact List.mem_cons_self ..)), ih (fun hh => h (List.mem_cons_of_mem _ hh)), totS_cons, Nat.add_assoc]
theorem posS_at {sz : Nat → Nat} {o1 o2 : List Nat} {b a : Nat} (h : a ∉ o1) : posS sz b (o1 ++ a :: o2) a = b + totS sz o1 := by
  rw [posS_app h]; show (if a = a then _ else _) = _; rw [if_pos rfl]
theorem posS_ge {sz : Nat → Nat} : ∀ {o : List Nat} {b a : Nat}, a ∈ o → b ≤ posS sz b o a := by
  intro o
  induction o with
  | nil => intro b a h; cases h
  | cons x xs ih =>
    intro b a h
    unfold posS
    split
    · exact Nat.le_refl _
    · rcases List.mem_cons.1 h with rfl | h
      · exact absurd rfl ‹_›
      · have := ih (b := b + sz x) h; omega
theorem posS_lt {sz : Nat → Nat} : ∀ {o : List Nat} {b a : Nat}, a ∈ o → posS sz b o a + sz a ≤ b + totS sz o := by
  intro o
  induction o with
  | nil => intro b a h; cases h
  | cons x xs ih =>
    intro b a h
    unfold posS
    rw [totS_cons]
    split
    · rename_i e; subst e; omega
    · rcases List.mem_cons.1 h with rfl | h
      · exact absurd rfl ‹_›
      · have := ih (b := b + sz x) h; omega
theorem addrS_map {sz : Nat → Nat} : ∀ {o : List Nat} {b : Nat}, o.Nodup → o.map (posS sz b o) = addrS sz b o := by
  intro o
  induction o with
  | nil => intro b _; rfl
  | cons x o ih =>
    intro b h
    obtain ⟨h1, h2⟩ := List.nodup_cons.1 h
    show (if x = x then b else _) :: o.map _ = b :: addrS sz (b + sz x) o
    rw [if_pos rfl, ← ih h2]
    congr 1
    refine List.map_congr_left fun i hi => ?_
    show (if x = i then b else _) = _
    rw [if_neg (fun hh => h1 (by rw [hh]; exact hi))]
def wd (at_ : Nat → Nat) (f : Fd) : Int := if f.refs then 2 * (at_ f.n.toNat : Int) else f.n
theorem wd_n {at_ : Nat → Nat} {f : Fd} (h : f.refs = false) : wd at_ f = f.n := by unfold wd; rw [h]; rfl
theorem wd_r {at_ : Nat → Nat} {f : Fd} (h : f.refs = true) : wd at_ f = 2 * (at_ f.n.toNat : Int) := by unfold wd; rw [h]; rfl
def hdC (c : Cl) : Int := 8 * (c.fs.length : Int) + c.kind
def cellC (L : List Cl) (at_ : Nat → Nat) (i : Nat) : List Int := hdC (clAt L i) :: (clAt L i).fs.map (wd at_)
theorem cellC_length (L : List Cl) (at_ : Nat → Nat) (i : Nat) : (cellC L at_ i).length = szC L i := by
  unfold cellC szC; rw [List.length_cons, List.length_map]; omega
theorem cells_length (L : List Cl) (at_ : Nat → Nat) : ∀ (o : List Nat), (o.flatMap (cellC L at_)).length = totS (szC L) o := by
  intro o
  induction o with
  | nil => rfl
  | cons x o ih => rw [List.flatMap_cons, List.length_append, cellC_length, ih, totS_cons]
def atC (L : List Cl) (o : List Nat) : Nat → Nat := posS (szC L) 1 o
def layT (L : List Cl) (o : List Nat) : Nat := 1 + totS (szC L) o
def layW (L : List Cl) (o : List Nat) (free : Nat) : List Int := 0 :: (o.flatMap (cellC L (atC L o)) ++ List.replicate free 0)
def layR (L : List Cl) (o : List Nat) (roots : List Fd) : List Int := roots.map (wd (atC L o))
theorem layW_length (L : List Cl) (o : List Nat) (free : Nat) : (layW L o free).length = layT L o + free := by
  unfold layW layT
  rw [List.length_cons, List.length_append, cells_length, List.length_replicate]; omega
theorem totS_len (L : List Cl) (o : List Nat) : o.length ≤ totS (szC L) o := by
  induction o with
  | nil => exact Nat.zero_le _
  | cons x o ih => rw [totS_cons, List.length_cons]; have : 0 < szC L x := (by unfold szC; omega); omega
theorem szC_pos (L : List Cl) (i : Nat) : 0 < szC L i := by unfold szC; omega
def FdOk (o : List Nat) (k : Int) (f : Fd) : Prop :=
  if k = 3 then f.refs = false ∧ letterB f.n = true else if k = 4 then f.refs = false ∧ (f.n = 0 ∨ f.n = 1) else
  (f.refs = true ∧ ∃ j ∈ o, f.n = (j : Int)) ∨ (f.refs = false ∧ (f.n = 0 ∨ (Int.tmod f.n 2 ≠ 0 ∧ -1999999999 ≤ f.n ∧ f.n ≤ 2000000001)))
structure Gr (L : List Cl) (o : List Nat) : Prop where
  nd : o.Nodup
  kind : ∀ i ∈ o, 1 ≤ (clAt L i).kind ∧ (clAt L i).kind ≤ 5
  size : ∀ i ∈ o, (clAt L i).fs.length ≤ 20
  truth : ∀ i ∈ o, (clAt L i).kind = 4 → (clAt L i).fs.length = 1
  fok : ∀ i ∈ o, ∀ f ∈ (clAt L i).fs, FdOk o (clAt L i).kind f
theorem hdC_S {c : Cl} (h1 : 1 ≤ c.kind) (h5 : c.kind ≤ 5) : hdS (hdC c) = (c.fs.length : Int) := by
  unfold hdS hdC; rw [tdiv_eq]; split <;> omega
theorem hdC_K {c : Cl} (h1 : 1 ≤ c.kind) (h5 : c.kind ≤ 5) : hdK (hdC c) = c.kind := by
  have e := Int.mul_tdiv_add_tmod (hdC c) 8
  have : Int.tdiv (hdC c) 8 = (c.fs.length : Int) := hdC_S h1 h5
  rw [this] at e
  unfold hdK
  have : hdC c = 8 * (c.fs.length : Int) + c.kind := rfl
  omega
section
variable {L : List Cl} {o : List Nat} {free : Nat} (G : Gr L o)
include G
/-- A cell of the heap. -/
theorem lay_split {i : Nat} (hi : i ∈ o) : ∃ pre post, layW L o free = pre ++ cellC L (atC L o) i ++ post ∧ pre.length = atC L o i := by
  obtain ⟨o1, o2, rfl⟩ := List.append_of_mem hi
  have hn : i ∉ o1 := fun h => by
    have := List.nodup_append.1 G.nd
    exact this.2.2 i h i (List.mem_cons_self ..) rfl
  refine ⟨0 :: o1.flatMap (cellC L (atC L (o1 ++ i :: o2))), o2.flatMap (cellC L (atC L (o1 ++ i :: o2))) ++ List.replicate free 0, ?_, ?_⟩
  · unfold layW
    rw [List.flatMap_append, List.flatMap_cons]
    simp only [List.append_assoc, List.cons_append]
  · rw [List.length_cons, cells_length]
    show _ = posS (szC L) 1 _ i
    rw [posS_at hn]; omega
theorem lay_head {i : Nat} (hi : i ∈ o) : (layW L o free).getD (atC L o i) 0 = hdC (clAt L i) := by
  obtain ⟨pre, post, e, l⟩ := lay_split (free := free) G hi
  rw [e, ← l, List.append_assoc]
  simp [cellC, List.getD]
theorem lay_kind {i : Nat} (hi : i ∈ o) : hdK ((layW L o free).getD (atC L o i) 0) = (clAt L i).kind := by
  obtain ⟨h1, h2⟩ := G.kind i hi
  rw [lay_head G hi, hdC_K h1 h2]
theorem lay_fields {i : Nat} (hi : i ∈ o) : fieldsW (layW L o free) (atC L o i) = (clAt L i).fs.map (wd (atC L o)) := by
  obtain ⟨h1, h2⟩ := G.kind i hi
  obtain ⟨pre, post, e, l⟩ := lay_split (free := free) G hi
  unfold fieldsW
  rw [lay_head G hi, hdC_S h1 h2, e, ← l]
  have : pre ++ cellC L (atC L o) i ++ post = (pre ++ [hdC (clAt L i)]) ++ ((clAt L i).fs.map (wd (atC L o)) ++ post) := by simp [cellC]
  rw [this, List.drop_left' (by simp)]
  rw [List.take_left' (by simp)]
theorem lay_pos {i : Nat} (hi : i ∈ o) : 1 ≤ atC L o i ∧ atC L o i + szC L i ≤ layT L o := by
  have _ := G
  exact ⟨posS_ge hi, posS_lt hi⟩
theorem lay_cellsR : ∀ (rest : List Nat) (f b : Nat) (pre post : List Int), (∀ i ∈ rest, i ∈ o) → layW L o free = pre ++ rest.flatMap (cellC L (atC L o)) ++ post → pre.length = b → b + totS (szC L) rest = layT L o → rest.length < f → cellsR (layW L o free) (layT L o) f b = some (addrS (szC L) b rest) := by
  intro rest
  induction rest with
  | nil =>
    intro f b pre post _ _ _ ht hf
    cases f with
    | zero => cases hf
    | succ f =>
      have : b = layT L o := by rw [← ht]; rfl
      unfold cellsR
      rw [if_neg (by omega), if_pos this]; rfl
  | cons i rest ih =>
    intro f b pre post hm e hl ht hf
    cases f with
    | zero => cases hf
    | succ f =>
      have hi := hm i (List.mem_cons_self ..)
      obtain ⟨h1, h2⟩ := G.kind i hi
      have h3 := G.size i hi
      rw [totS_cons] at ht
      have hs := szC_pos L i
      have hd : (layW L o free).getD b 0 = hdC (clAt L i) := by
        rw [e, ← hl, List.flatMap_cons]; simp [cellC, List.getD]
      unfold cellsR
      rw [if_pos (by omega), hd, hdC_S h1 h2, hdC_K h1 h2]
      rw [if_neg]
      · have e2 : b + 1 + ((clAt L i).fs.length : Int).toNat = b + szC L i := by unfold szC; omega
        rw [e2, ih f (b + szC L i) (pre ++ cellC L (atC L o) i) post (fun j hj => hm j (List.mem_cons_of_mem _ hj)) (by rw [e, List.flatMap_cons]; simp only [List.append_assoc]) (by rw [List.length_append, cellC_length, hl]) (by omega) (by simpa using hf)]
        rfl
      · intro hh
        rcases hh with hh | hh
        · unfold hdC at hh; omega
        · unfold goodR at hh
          simp only [Bool.and_eq_false_iff, decide_eq_false_iff_not] at hh
          omega
theorem lay_word {k : Int} {f : Fd} (hk : k ≠ 3) (hk4 : k ≠ 4) (hf : FdOk o k f) : wordR (o.map (atC L o)) (wd (atC L o) f) = true := by
  have _ := G
  unfold FdOk at hf
  rw [if_neg hk, if_neg hk4] at hf
  unfold wd
  rcases hf with ⟨h1, j, hj, e⟩ | ⟨h1, h2⟩
  · rw [if_pos h1, e]
    unfold wordR
    split
    · rfl
    · split
      · rename_i h2; exfalso; apply h2; rw [Int.mul_tmod_right]
      · rw [Int.mul_tdiv_cancel_left _ (by decide), List.contains_iff_mem]
        refine List.mem_map.2 ⟨atC L o j, List.mem_map.2 ⟨j, hj, rfl⟩, ?_⟩
        simp
  · rw [if_neg (by rw [h1]; decide)]
    unfold wordR
    split
    · rfl
    · rename_i h0
      rcases h2 with h2 | ⟨h2, h3, h4⟩
      · exact absurd h2 h0
      · rw [if_pos h2]
        simp only [Bool.and_eq_true, decide_eq_true_eq]
        exact ⟨h3, h4⟩
theorem lay_field {k : Int} {f : Fd} (hf : FdOk o k f) : fieldR (o.map (atC L o)) k (wd (atC L o) f) = true := by
  unfold fieldR
  by_cases h3 : k = 3
  · unfold FdOk at hf
    rw [if_pos h3] at hf ⊢
    unfold wd; rw [hf.1]; exact hf.2
  · by_cases h4 : k = 4
    · unfold FdOk at hf
      rw [if_neg h3, if_pos h4] at hf
      rw [if_neg h3, if_pos h4]
      unfold wd; rw [hf.1]
      rcases hf.2 with h | h <;> simp [h]
    · rw [if_neg h3, if_neg h4]
      exact lay_word G h3 h4 hf
/-- The heap is as defined, and has these cells. -/
theorem lay_check {roots : List Fd} (hr : ∀ f ∈ roots, FdOk o 1 f) (lr : roots.length ≤ 10) (hfit : layT L o + free ≤ 200) : checkP (layW L o free) (layT L o : Nat) (layR L o roots) = some (o.map (atC L o)) := by
  rw [← formed_check]
  unfold formedR
  have hl := layW_length L o free
  have hT : 1 ≤ layT L o := by unfold layT; omega
  have h0 : (layW L o free).getD 0 0 = 0 := rfl
  rw [if_neg (by rw [hl, h0]; unfold layR; rw [List.length_map]; omega)]
  have hd : (layW L o free).drop (layT L o) = List.replicate free 0 := by
    unfold layW layT
    rw [Nat.add_comm, List.drop_succ_cons, List.drop_left' (cells_length ..)]
  rw [Int.toNat_natCast, hd]
  rw [if_neg (by simp)]
  have hc := lay_cellsR (free := free) G o (layT L o + 1) 1 [0] (List.replicate free 0) (fun _ h => h) rfl rfl rfl (by have := totS_len L o; unfold layT; omega)
  rw [hc, ← addrS_map G.nd]
  show (if (cellsOk (layW L o free) (o.map (atC L o)) (o.map (atC L o)) && (layR L o roots).all (wordR (o.map (atC L o)))) = true then _ else _) = _
  rw [if_pos]
  · rfl
  rw [Bool.and_eq_true]
  constructor
  · unfold cellsOk
    rw [List.all_eq_true]
    intro p hp
    obtain ⟨i, hi, rfl⟩ := List.mem_map.1 hp
    rw [lay_kind G hi, lay_fields G hi]
    obtain ⟨h1, h2⟩ := G.kind i hi
    have h3 := G.size i hi
    unfold fieldsR
    rw [if_neg (by rw [List.length_map]; have := G.truth i hi; omega), List.all_eq_true]
    intro w hw
    obtain ⟨f, hf, rfl⟩ := List.mem_map.1 hw
    exact lay_field G (G.fok i hi f hf)
  · unfold layR
    rw [List.all_eq_true]
    intro w hw
    obtain ⟨f, hf, rfl⟩ := List.mem_map.1 hw
    exact lay_word G (by decide) (by decide) (hr f hf)
end
end Go.Proofs.YtngcjpkccnfjiaaGreatDoor
/- Plain law: a heap that is laid from cells is collected: it is laid from the cells that are reached. -/
namespace Go.Proofs.YtngcjpkccnfjiaaGreatDoor
open Go Go.Ev
section
variable {L : List Cl} {o : List Nat} {free : Nat} (G : Gr L o)
include G
theorem FdOk.mem {k : Int} {f : Fd} (hf : FdOk o k f) (hr : f.refs = true) : f.n.toNat ∈ o ∧ f.n = (f.n.toNat : Int) := by
  have _ := G
  unfold FdOk at hf
  split at hf
  · rw [hf.1] at hr; cases hr
  · split at hf
    · rw [hf.1] at hr; cases hr
    · rcases hf with ⟨_, j, hj, e⟩ | ⟨h, _⟩
      · rw [e]; exact ⟨hj, rfl⟩
      · rw [h] at hr; cases hr
end
end Go.Proofs.YtngcjpkccnfjiaaGreatDoor
/- What is known of a memory: who has which objects. A step of the code changes one's own alone. -/
namespace Go.Ev
open Go
/-- From one memory to a later one: of what there was some objects alone change. -/
structure Ch (S : Nat → Prop) (h h' : Hp) : Prop where
  get : ∀ o, o < h.nx → ¬ S o → h'.get o = h.get o
  nx : h.nx ≤ h'.nx
  gd : h'.gd = h.gd
  fr : h.Fresh → h'.Fresh
theorem Ch.refl (S : Nat → Prop) (h : Hp) : Ch S h h := ⟨fun _ _ _ => rfl, Nat.le_refl _, rfl, id⟩
theorem Ch.trans {S : Nat → Prop} {h h' h'' : Hp} (a : Ch S h h') (b : Ch S h' h'') : Ch S h h'' := ⟨fun o ho hS => (b.get o (Nat.lt_of_lt_of_le ho a.nx) hS).trans (a.get o ho hS), Nat.le_trans a.nx b.nx, b.gd.trans a.gd, fun f => b.fr (a.fr f)⟩
theorem Ch.low {S : Nat → Prop} {h h' : Hp} {n : Nat} (a : Ch S h h') (hn : n ≤ h.nx) (hs : ∀ o, S o → n ≤ o) : Kp n h h' := ⟨fun o ho => a.get o (by omega) (fun h => by have := hs o h; omega), a.nx, a.gd, a.fr⟩
theorem Ch.wr (h : Hp) (b off : Nat) (vs : List Value) : Ch (fun o => o = b) h (h.wr b off vs) := ⟨fun _ _ hne => wr_get_ne _ _ _ _ hne, by rw [nx_wr]; exact Nat.le_refl _, gd_wr .., fun f => f.wr _ _ _⟩
/-- Something that somebody has: objects, and what is so of them. -/
structure Rs where
  own : Nat → Prop
  P : Hp → Prop
/-- It speaks of its own objects alone. -/
def Rs.Loc (r : Rs) : Prop := ∀ h h' : Hp, h.nx ≤ h'.nx → (∀ b, r.own b → h'.get b = h.get b) → r.P h → r.P h'
/-- An object. -/
def ob (b : Nat) (x : Ob) : Rs := ⟨fun o => o = b, fun h => h.get b = some x⟩
theorem ob.loc (b : Nat) (x : Ob) : (ob b x).Loc := fun _ _ _ h e => (h b rfl).trans e
/-- A list that grows. -/
def acc (lo : Nat) (e : TypeId) (esz : Nat) (a : Option Addr) (n c : Nat) (xs : List Value) : Rs := ⟨fun o => a = some ⟨o, 0, none⟩, fun h => AccE h lo e esz a n c xs⟩
theorem acc.loc (lo : Nat) (e : TypeId) (esz : Nat) (a : Option Addr) (n c : Nat) (xs : List Value) : (acc lo e esz a n c xs).Loc := fun _ _ hn h A => A.keep (fun o _ ha => h o ha) hn
/-- Numbers that are laid aside. -/
def hole (lo k : Nat) (used : List Nat) : Rs := ⟨fun o => lo ≤ o ∧ o < lo + k ∧ o ∉ used, fun h => ∀ o, lo ≤ o → o < lo + k → o ∉ used → h.get o = none⟩
theorem hole.loc (lo k : Nat) (used : List Nat) : (hole lo k used).Loc := fun _ _ _ h e o h1 h2 h3 => (h o ⟨h1, h2, h3⟩).trans (e o h1 h2 h3)
/-- What is known of a memory that began as another one. -/
structure Know (h0 g : Hp) (L : List Rs) : Prop where
  ok : g.Ok
  kp : Kp h0.nx h0 g
  at_ : ∀ r ∈ L, r.Loc ∧ r.P g ∧ ∀ b, r.own b → h0.nx ≤ b ∧ b < g.nx
  dis : L.Pairwise (fun r s => ∀ b, r.own b → ¬ s.own b)
  ok0 : h0.Ok
section
variable {h0 g : Hp} {L : List Rs}
theorem Know.nil (ok : g.Ok) : Know g g [] := ⟨ok, Kp.refl _ _, fun _ h => (by cases h), .nil, ok⟩
theorem Know.ft (S : Know h0 g L) : Ft h0 g := S.kp.ex (Nat.le_refl _)
theorem Know.len (_ : Know h0 g L) {i : Nat} {r : Rs} (hi : L[i]? = some r) : i < L.length := (List.getElem?_eq_some_iff.1 hi).1
theorem Know.lo (S : Know h0 g L) : h0.nx ≤ g.nx := S.kp.nx
theorem Know.gl (S : Know h0 g L) : GdLt g h0.nx := fun q hq => by rw [S.kp.gd] at hq; exact S.ok0.gd q hq
theorem Know.get (S : Know h0 g L) (i : Nat) {r : Rs} (hi : L[i]? = some r) : r.P g := (S.at_ r (List.mem_of_getElem? hi)).2.1
theorem Know.obj (S : Know h0 g L) (i : Nat) {b : Nat} {x : Ob} (hi : L[i]? = some (ob b x)) : g.get b = some x := S.get i hi
theorem Know.rng (S : Know h0 g L) (i : Nat) {r : Rs} (hi : L[i]? = some r) : ∀ b, r.own b → h0.nx ≤ b ∧ b < g.nx := (S.at_ r (List.mem_of_getElem? hi)).2.2
theorem Know.orng (S : Know h0 g L) (i : Nat) {b : Nat} {x : Ob} (hi : L[i]? = some (ob b x)) : h0.nx ≤ b ∧ b < g.nx := S.rng i hi b rfl
theorem Know.arng (S : Know h0 g L) (i : Nat) {lo : Nat} {e : TypeId} {esz : Nat} {a : Option Addr} {n c : Nat} {xs : List Value} (hi : L[i]? = some (acc lo e esz a n c xs)) {o : Nat} (ha : a = some ⟨o, 0, none⟩) : h0.nx ≤ o ∧ o < g.nx := S.rng i hi o ha
theorem pw_get {α : Type} {R : α → α → Prop} (hs : ∀ a b, R a b → R b a) : ∀ {l : List α}, l.Pairwise R → ∀ {i j : Nat} {x y : α}, l[i]? = some x → l[j]? = some y → i ≠ j → R x y := by
  intro l
  induction l with
  | nil => intro _ i j x y h; cases h
  | cons a l ih =>
    intro hp i j x y hx hy hij
    obtain ⟨p1, p2⟩ := List.pairwise_cons.1 hp
    cases i with
    | zero =>
      cases j with
      | zero => exact absurd rfl hij
      | succ j => obtain rfl := Option.some.inj hx; exact p1 y (List.mem_of_getElem? (i := j) hy)
    | succ i =>
      cases j with
      | zero => obtain rfl := Option.some.inj hy; exact hs _ _ (p1 x (List.mem_of_getElem? (i := i) hx))
      | succ j => exact ih p2 (i := i) (j := j) hx hy (by omega)
theorem Know.sep (S : Know h0 g L) (i j : Nat) {r s : Rs} (hi : L[i]? = some r) (hj : L[j]? = some s) (hij : i ≠ j) : ∀ b, r.own b → ¬ s.own b :=
  pw_get (fun _ _ h b hb ha => h b ha hb) S.dis hi hj hij
theorem Know.ne (S : Know h0 g L) (i j : Nat) {b c : Nat} {x y : Ob} (hi : L[i]? = some (ob b x)) (hj : L[j]? = some (ob c y)) (hij : i ≠ j) : b ≠ c := fun h => S.sep i j hi hj hij b rfl h
/-- A new object. -/
theorem Know.add (S : Know h0 g L) (x : Ob) : Know h0 (g.add x) (ob g.nx x :: L) := by
  refine ⟨S.ok.add x, S.kp.add S.lo x, fun r hr => ?_, List.pairwise_cons.2 ⟨fun r hr b hb hrb => ?_, S.dis⟩, S.ok0⟩
  · rcases List.mem_cons.1 hr with rfl | hr
    · exact ⟨ob.loc _ _, get_add_same .., fun b hb => by cases hb; rw [nx_add]; have := S.lo; omega⟩
    · obtain ⟨h1, h2, h3⟩ := S.at_ r hr
      exact ⟨h1, h1 g _ (by rw [nx_add]; omega) (fun b hb => get_add_ne (by have := h3 b hb; omega)) h2, fun b hb => by rw [nx_add]; have := h3 b hb; omega⟩
  · have := (S.at_ r hr).2.2 b hrb
    cases hb; omega
/-- Memory goes on. -/
theorem Know.call (S : Know h0 g L) {g' : Hp} (k : Kp g.nx g g') : Know h0 g' L :=
  ⟨S.ok.kp k, S.kp.trans (k.le S.lo), fun r hr => let ⟨h1, h2, h3⟩ := S.at_ r hr; ⟨h1, h1 g g' k.nx (fun b hb => k.get b (h3 b hb).2) h2, fun b hb => by have := h3 b hb; have := k.nx; omega⟩, S.dis, S.ok0⟩
theorem Know.rsv (S : Know h0 g L) (k : Nat) : Know h0 (g.rsv k) L := S.call ((Kp.refl _ g).rsv k)
/-- Memory goes on while some must not be written. -/
theorem Know.callg (S : Know h0 g L) {l : List Nat} {h' : Hp} (k : Kp g.nx (g.grd l) h') : Know h0 (h'.rst g) L := S.call ⟨k.get, k.nx, rfl, fun f => k.fr f⟩
theorem Know.okg (S : Know h0 g L) {l : List Nat} (hl : ∀ q ∈ l, q < g.nx) : (g.grd l).Ok := S.ok.grd hl
theorem Know.ftg (S : Know h0 g L) (l : List Nat) : Ft h0 (g.grd l) := ⟨S.ft.get, S.ft.nx⟩
/-- One changes. -/
theorem Know.upd (S : Know h0 g L) (i : Nat) {r r' : Rs} (hi : L[i]? = some r) {g' : Hp} (k : Ch r.own g g') (hl : r'.Loc) (hP : r'.P g') (ho : ∀ b, r'.own b → r.own b ∨ (g.nx ≤ b ∧ b < g'.nx)) : Know h0 g' (L.set i r') := by
  have hr := S.rng i hi
  have hi' : i < L.length := (List.getElem?_eq_some_iff.1 hi).1
  have ho' : ∀ b, r'.own b → h0.nx ≤ b ∧ b < g'.nx := fun b hb => by
    rcases ho b hb with h | h
    · have := hr b h; have := k.nx; omega
    · have := S.lo; omega
  refine ⟨⟨fun q hq => by rw [k.gd] at hq; exact Nat.lt_of_lt_of_le (S.ok.gd q hq) k.nx, k.fr S.ok.fr⟩, S.kp.trans (k.low S.lo fun o h => (hr o h).1), fun s hs => ?_, ?_, S.ok0⟩
  · obtain ⟨j, hj⟩ := List.mem_iff_getElem?.1 hs
    by_cases hij : i = j
    · subst hij
      rw [List.getElem?_set_self hi'] at hj
      obtain rfl := Option.some.inj hj
      exact ⟨hl, hP, ho'⟩
    · rw [List.getElem?_set_ne hij] at hj
      obtain ⟨h1, h2, h3⟩ := S.at_ s (List.mem_of_getElem? hj)
      exact ⟨h1, h1 g g' k.nx (fun b hb => k.get b (h3 b hb).2 fun h => S.sep i j hi hj hij b h hb) h2, fun b hb => by have := h3 b hb; have := k.nx; omega⟩
  · rw [List.pairwise_iff_getElem]
    intro a b ha hb hab
    rw [List.length_set] at ha hb
    have key : ∀ j s, i ≠ j → L[j]? = some s → ∀ q, r'.own q → ¬ s.own q := fun j s hij hj q hq hs => by
      rcases ho q hq with h | h
      · exact S.sep i j hi hj hij q h hs
      · have := (S.at_ s (List.mem_of_getElem? hj)).2.2 q hs; omega
    rw [List.getElem_set, List.getElem_set]
    by_cases h1 : i = a
    · rw [if_pos h1, if_neg (by omega)]
      exact key b _ (by omega) (List.getElem?_eq_getElem hb)
    · rw [if_neg h1]
      by_cases h2 : i = b
      · rw [if_pos h2]
        exact fun q hq hs => key a _ h1 (List.getElem?_eq_getElem ha) q hs hq
      · rw [if_neg h2]
        exact List.pairwise_iff_getElem.1 S.dis a b ha hb hab
theorem Ch.rst {R : Nat → Prop} {l : List Nat} {h' : Hp} (k : Ch R (g.grd l) h') : Ch R g (h'.rst g) := ⟨k.get, k.nx, rfl, fun f => k.fr f⟩
/-- Something new. -/
theorem Know.push (S : Know h0 g L) {r' : Rs} {g' : Hp} (k : Kp g.nx g g') (hl : r'.Loc) (hP : r'.P g') (ho : ∀ b, r'.own b → g.nx ≤ b ∧ b < g'.nx) : Know h0 g' (r' :: L) := by
  have T := S.call k
  refine ⟨T.ok, T.kp, fun r hr => ?_, List.pairwise_cons.2 ⟨fun r hr b hb hrb => ?_, T.dis⟩, S.ok0⟩
  · rcases List.mem_cons.1 hr with rfl | hr
    · exact ⟨hl, hP, fun b hb => by have := ho b hb; have := S.lo; omega⟩
    · exact T.at_ r hr
  · have := (S.at_ r hr).2.2 b hrb
    have := ho b hb; omega
/-- What a call has made comes to what there was. -/
theorem Know.comp (S : Know h0 g L) {g' : Hp} {M : List Rs} (T : Know g g' M) : Know h0 g' (M ++ L) := by
  have U := S.call T.kp
  refine ⟨U.ok, U.kp, fun r hr => ?_, List.pairwise_append.2 ⟨T.dis, U.dis, fun r hr s hs b hb hsb => ?_⟩, S.ok0⟩
  · rcases List.mem_append.1 hr with hr | hr
    · obtain ⟨h1, h2, h3⟩ := T.at_ r hr
      exact ⟨h1, h2, fun b hb => by have := h3 b hb; have := S.lo; omega⟩
    · exact U.at_ r hr
  · have := (T.at_ r hr).2.2 b hb
    have := (S.at_ s hs).2.2 b hsb
    omega
/-- The same behind a call while some must not be written. -/
theorem Know.compg (S : Know h0 g L) {l : List Nat} {h' : Hp} {M : List Rs} (T : Know (g.grd l) h' M) : Know h0 (h'.rst g) (M ++ L) := by
  refine S.comp (g' := h'.rst g) ⟨S.ok.kp ⟨T.kp.get, T.kp.nx, rfl, T.kp.fr⟩, ⟨T.kp.get, T.kp.nx, rfl, T.kp.fr⟩, fun r hr => ?_, T.dis, S.ok⟩
  obtain ⟨h1, h2, h3⟩ := T.at_ r hr
  exact ⟨h1, h1 h' _ (Nat.le_refl _) (fun _ _ => rfl) h2, h3⟩
/-- Some are forgotten, or come in another order. -/
theorem Know.sel (S : Know h0 g L) (is : List Nat) (hn : is.Nodup) {M : List Rs} (hM : M = is.filterMap (fun i => L[i]?)) : Know h0 g M := by
  subst hM
  refine ⟨S.ok, S.kp, fun r hr => ?_, ?_, S.ok0⟩
  · obtain ⟨i, _, hi⟩ := List.mem_filterMap.1 hr
    exact S.at_ r (List.mem_of_getElem? hi)
  · rw [List.pairwise_filterMap]
    exact hn.imp fun {i j} hij r hr s hs => S.sep i j hr hs hij
/-- What is known of the second one of two. -/
theorem Know.sub (S : Know h0 g L) (M : List Rs) (h : M.Sublist L) : Know h0 g M := ⟨S.ok, S.kp, fun r hr => S.at_ r (h.subset hr), S.dis.sublist h, S.ok0⟩
/-- What is appended to lies at a new number: also a row of no elements. -/
theorem append_newE {P : Program} {sT e : TypeId} {esz bytes : Nat} (T : AppT P sT e esz bytes) {h : Hp} {base : Nat} {a : Option Addr} {n c : Nat} {xs : List Value} (H : AccE h base e esz a n c xs)
    {x : Value} {ys : List Value} {k : Nat} (hx : ∃ a n c, x = .slice a n c) (hs : srcCells h esz x = some (ys, k)) (h1 : ys.all one = true) (hkp : 0 < k) {a' : Option Addr} {n' c' : Nat} {h' : Hp} (e1 : appendV P h sT sT (.slice a n c) x = some (.slice a' n' c', h')) : a' = some ⟨h.nx, 0, none⟩ := by
  rcases H with H | ⟨rfl, rfl, rfl, o, rfl, h2, h3, e2, m, h4⟩
  · exact append_new T H hx hs h1 hkp e1
  · obtain ⟨hz, info, z, hi, hzz, hrun⟩ := T.run
    rw [hrun h _ x hx, hs] at e1
    have hk0 : Nat.beq k 0 = false := by rw [Bool.eq_false_iff]; intro hh; have := Nat.eq_of_beq_eq_true hh; omega
    simp only [Option.bind_some, h1, cond_true, hk0, cond_false] at e1
    unfold appSome at e1
    have e3 : Nat.beq 0 unk = false := by
      rw [Bool.eq_false_iff]; intro hh; have := Nat.eq_of_beq_eq_true hh; have : unk = 18446744073709551616 := rfl; omega
    have e4 : Nat.ble (0 + k) 0 = false := by
      rw [Bool.eq_false_iff]; intro hh; have : 0 + k ≤ 0 := by simpa using hh
      omega
    have e5 : readAt h o 0 (0 * esz) = some [] := by rw [Nat.zero_mul, readAt_get h4 (by simp)]; rfl
    simp only [h4, e3, e4, e5, cond_false, Option.bind_some] at e1
    unfold appNew at e1
    obtain ⟨_, e1⟩ := cond_some e1
    injection e1 with e1
    injection e1 with e1 _
    injection e1 with e1 _
    exact e1.symm
/-! ### steps -/
theorem Know.rd (S : Know h0 g L) (i : Nat) {b : Nat} {c : List Value} {e : TypeId} {m : Md} (hi : L[i]? = some (ob b (.cells c e m))) {off n : Nat} {r : List Value} (hr : (c.drop off).take n = r) (hl : Nat.ble (off + n) c.length = true) : readAt g b off n = some r := by
  rw [readAt_get (S.obj i hi) (Nat.le_of_ble_eq_true hl), hr]
theorem Know.rdg (S : Know h0 g L) (i : Nat) {b : Nat} {c : List Value} {e : TypeId} {m : Md} (hi : L[i]? = some (ob b (.cells c e m))) {l : List Nat} {off n : Nat} {r : List Value} (hr : (c.drop off).take n = r) (hl : Nat.ble (off + n) c.length = true) : readAt (g.grd l) b off n = some r := S.rd i hi hr hl
theorem Know.gdf (S : Know h0 g L) {b : Nat} (hb : h0.nx ≤ b) : g.guarded b = false := S.gl.free hb
theorem Know.gdfg (S : Know h0 g L) {b : Nat} {l : List Nat} (hb : h0.nx ≤ b) (hl : ∀ q ∈ l, q ≠ b) : (g.grd l).guarded b = false := guarded_of fun q hq => by
  rcases List.mem_append.1 hq with h | h
  · exact hl q h
  · have := S.gl q h; omega
theorem Know.cw (S : Know h0 g L) (i : Nat) {b : Nat} {c : List Value} {e : TypeId} {m : Md} (hi : L[i]? = some (ob b (.cells c e m))) {off : Nat} {vs : List Value} (hm : m ≠ .ro) (hl : Nat.ble (off + vs.length) c.length = true) (h1 : vs.all one = true) : canW g b off vs = true := canW_t (S.obj i hi) hm (S.gdf (S.orng i hi).1) (Nat.le_of_ble_eq_true hl) h1
theorem Know.wr (S : Know h0 g L) (i : Nat) {b : Nat} {c : List Value} {e : TypeId} {m : Md} (hi : L[i]? = some (ob b (.cells c e m))) {off : Nat} {vs : List Value} (hm : m ≠ .ro) (hl : Nat.ble (off + vs.length) c.length = true) (h1 : vs.all one = true) : Know h0 (g.wr b off vs) (L.set i (ob b (.cells (putAt c off vs) e m))) :=
  S.upd i hi (Ch.wr g b off vs) (ob.loc _ _) (wr_get (S.obj i hi) hm (S.gdf (S.orng i hi).1) (Nat.le_of_ble_eq_true hl) h1) fun _ h => .inl h
theorem Know.cwg (S : Know h0 g L) (i : Nat) {b : Nat} {c : List Value} {e : TypeId} {m : Md} (hi : L[i]? = some (ob b (.cells c e m))) {l : List Nat} (hg : ∀ q ∈ l, q ≠ b) {off : Nat} {vs : List Value} (hm : m ≠ .ro) (hl : Nat.ble (off + vs.length) c.length = true) (h1 : vs.all one = true) : canW (g.grd l) b off vs = true := canW_t (h := g.grd l) (S.obj i hi) hm (S.gdfg (S.orng i hi).1 hg) (Nat.le_of_ble_eq_true hl) h1
theorem Know.wrg (S : Know h0 g L) (i : Nat) {b : Nat} {c : List Value} {e : TypeId} {m : Md} (hi : L[i]? = some (ob b (.cells c e m))) {l : List Nat} (hg : ∀ q ∈ l, q ≠ b) {off : Nat} {vs : List Value} (hm : m ≠ .ro) (hl : Nat.ble (off + vs.length) c.length = true) (h1 : vs.all one = true) : Know h0 (((g.grd l).wr b off vs).rst g) (L.set i (ob b (.cells (putAt c off vs) e m))) :=
  S.upd i hi (Ch.wr (g.grd l) b off vs).rst (ob.loc _ _) (wr_get (h := g.grd l) (S.obj i hi) hm (S.gdfg (S.orng i hi).1 hg) (Nat.le_of_ble_eq_true hl) h1) fun _ h => .inl h
/-- Numbers are laid aside, and used later. -/
theorem Know.rsvK (S : Know h0 g L) (k : Nat) : Know h0 (g.rsv k) (hole g.nx k [] :: L) :=
  S.push ((Kp.refl _ g).rsv k) (hole.loc _ _ _) (fun o h1 _ _ => S.ok.fr o h1) fun b hb => ⟨hb.1, hb.2.1⟩
theorem Know.fre (S : Know h0 g L) (i : Nat) {lo k : Nat} {used : List Nat} (hi : L[i]? = some (hole lo k used)) {q : Nat} (h1 : lo ≤ q) (h2 : q < lo + k) (h3 : q ∉ used) : g.free q = true := free_t (S.get i hi q h1 h2 h3)
theorem Know.lay (S : Know h0 g L) (i : Nat) {lo k : Nat} {used : List Nat} (hi : L[i]? = some (hole lo k used)) {q : Nat} (h1 : lo ≤ q) (h2 : q < lo + k) (h3 : q ∉ used) (x : Ob) : Know h0 (g.lay q x) (ob q x :: L.set i (hole lo k (q :: used))) := by
  have hq := S.rng i hi q ⟨h1, h2, h3⟩
  have ge : ∀ o, o ≠ q → (g.lay q x).get o = g.get o := fun o ho => by rw [get_lay, if_neg ho]
  have S1 : Know h0 (g.lay q x) (L.set i (hole lo k (q :: used))) := S.upd i hi (g' := g.lay q x) ⟨fun o _ ho => ge o (fun h => ho (h ▸ ⟨h1, h2, h3⟩)), Nat.le_refl _, rfl, fun f => f.lay hq.2 x⟩ (hole.loc _ _ _) (fun o a b c => (ge o (fun h => c (h ▸ List.mem_cons_self ..))).trans (S.get i hi o a b (fun h => c (List.mem_cons_of_mem _ h)))) fun b hb => .inl ⟨hb.1, hb.2.1, fun h => hb.2.2 (List.mem_cons_of_mem _ h)⟩
  refine ⟨S1.ok, S1.kp, fun r hr => ?_, List.pairwise_cons.2 ⟨fun r hr b hb hrb => ?_, S1.dis⟩, S.ok0⟩
  · rcases List.mem_cons.1 hr with rfl | hr
    · exact ⟨ob.loc _ _, by show (g.lay q x).get q = _; rw [get_lay, if_pos rfl], fun b hb => by cases hb; exact hq⟩
    · exact S1.at_ r hr
  · obtain rfl : b = q := hb
    obtain ⟨j, hj⟩ := List.mem_iff_getElem?.1 hr
    by_cases hij : i = j
    · subst hij
      rw [List.getElem?_set_self (List.getElem?_eq_some_iff.1 hi).1] at hj
      obtain rfl := Option.some.inj hj
      exact hrb.2.2 (List.mem_cons_self ..)
    · rw [List.getElem?_set_ne hij] at hj
      exact S.sep i j hi hj hij b ⟨h1, h2, h3⟩ hrb
theorem rst_eq {h h' : Hp} (e : h'.gd = h.gd) : h'.rst h = h' := by
  cases h'; unfold Hp.rst; cases e; rfl
/-- An empty row is a list that may grow. -/
theorem Know.acc0 (S : Know h0 g L) (i : Nat) {b : Nat} {e' : TypeId} {m : Md} (hi : L[i]? = some (ob b (.cells [] e' m))) (lo : Nat) (hlo : lo ≤ b) (e : TypeId) (esz : Nat) : Know h0 g (L.set i (acc lo e esz (some ⟨b, 0, none⟩) 0 0 [])) :=
  S.upd i hi (Ch.refl _ g) (acc.loc _ _ _ _ _ _ _) (.inr ⟨rfl, rfl, rfl, b, rfl, hlo, (S.orng i hi).2, _, _, S.obj i hi⟩) fun q hq => .inl (by injection hq with hq; injection hq with hq; exact hq.symm)
/-- A list that has grown is an object. -/
theorem Know.accOb (S : Know h0 g L) (i : Nat) {lo : Nat} {e : TypeId} {esz : Nat} {a : Option Addr} {n c : Nat} {xs : List Value} (hi : L[i]? = some (acc lo e esz a n c xs)) (hx : xs ≠ []) : ∃ o, a = some ⟨o, 0, none⟩ ∧ c = unk ∧ n * esz = xs.length ∧ lo ≤ o ∧ Know h0 g (L.set i (ob o (.cells xs e .grow))) := by
  have A : AccE g lo e esz a n c xs := S.get i hi
  rcases A with (⟨_, _, _, h⟩ | ⟨o, rfl, h2, h3, h4, h5, h6⟩) | ⟨h, _⟩
  · exact absurd h hx
  · exact ⟨o, rfl, h2, h3, h4, S.upd i hi (Ch.refl _ g) (ob.loc _ _) h6 fun q hq => .inl (by cases hq; rfl)⟩
  · exact absurd h hx
/-- A new, empty list that is to grow. -/
theorem Know.accNil (S : Know h0 g L) (lo : Nat) (e : TypeId) (esz : Nat) : Know h0 g (acc lo e esz none 0 0 [] :: L) :=
  S.push (Kp.refl _ g) (acc.loc _ _ _ _ _ _ _) (.inl (Acc.nil ..)) fun b hb => by cases hb
/-- A list grows. -/
theorem Know.appg (S : Know h0 g L) (i : Nat) {lo : Nat} {e : TypeId} {esz : Nat} {a : Option Addr} {n c : Nat} {xs : List Value} (hi : L[i]? = some (acc lo e esz a n c xs)) (hlo : h0.nx ≤ lo) (hlo2 : lo ≤ g.nx) {P : Program} {sT : TypeId} {bytes : Nat} (T : AppT P sT e esz bytes) {l : List Nat} (hl : ∀ q ∈ l, q < lo)
    {x : Value} {ys : List Value} {k : Nat} (hx : ∃ a n c, x = .slice a n c) (hs : srcCells g esz x = some (ys, k)) (hk : ys.length = k * esz) (h1 : ys.all one = true) (hB : (n + k + (n + k)) * bytes ≤ 281474976710656) (hU : n + k < big) :
    ∃ a' n' c' h', appendV P (g.grd l) sT sT (.slice a n c) x = some (.slice a' n' c', h') ∧ n' = n + k ∧ Know h0 (h'.rst g) (L.set i (acc lo e esz a' n' c' (xs ++ ys))) := by
  have A : AccE (g.grd l) lo e esz a n c xs := S.get i hi
  have G : GdLt (g.grd l) lo := fun q hq => by
    rcases List.mem_append.1 hq with h | h
    · exact hl q h
    · have := S.gl q h; omega
  obtain ⟨a', n', c', h', e1, A', en, k'⟩ := append_accE T (h := g.grd l) A hlo2 G hx hs hk h1 hB hU
  refine ⟨a', n', c', h', e1, en, S.upd i hi (r' := acc lo e esz a' n' c' (xs ++ ys)) (g' := h'.rst g) ⟨fun o ho hne => k'.get o ho hne, k'.nx, rfl, fun f => k'.fr f⟩ (acc.loc _ _ _ _ _ _ _) (A'.keep (fun _ _ _ => rfl) (Nat.le_refl _)) fun b hb => ?_⟩
  rcases Nat.eq_zero_or_pos k with rfl | hkp
  · left
    show a = some ⟨b, 0, none⟩
    rw [← hb]
    obtain ⟨_, info, z, hi', hzz, hrun⟩ := T.run
    rw [hrun _ _ x hx, show srcCells (g.grd l) esz x = some (ys, 0) from hs] at e1
    simp only [Option.bind_some, h1, cond_true, Nat.beq_refl] at e1
    unfold appNone at e1
    split at e1
    · injection e1 with e1; injection e1 with e1 _; injection e1
    · obtain ⟨_, e1⟩ := cond_some e1
      injection e1 with e1; injection e1 with e1 _; injection e1
    · cases e1
  · have := append_newE T A hx hs h1 hkp e1
    have hb : a' = some ⟨b, 0, none⟩ := hb
    rw [this] at hb; injection hb with hb; injection hb with hb
    have := (A'.lt (by rw [this])).2
    exact .inr ⟨Nat.le_of_eq hb, by rw [← hb]; exact this⟩
/-- The same where nothing else is under way. -/
theorem Know.app (S : Know h0 g L) (i : Nat) {lo : Nat} {e : TypeId} {esz : Nat} {a : Option Addr} {n c : Nat} {xs : List Value} (hi : L[i]? = some (acc lo e esz a n c xs)) (hlo : h0.nx ≤ lo) (hlo2 : lo ≤ g.nx) {P : Program} {sT : TypeId} {bytes : Nat} (T : AppT P sT e esz bytes)
    {x : Value} {ys : List Value} {k : Nat} (hx : ∃ a n c, x = .slice a n c) (hs : srcCells g esz x = some (ys, k)) (hk : ys.length = k * esz) (h1 : ys.all one = true) (hB : (n + k + (n + k)) * bytes ≤ 281474976710656) (hU : n + k < big) :
    ∃ a' n' c' h', appendV P g sT sT (.slice a n c) x = some (.slice a' n' c', h') ∧ n' = n + k ∧ Know h0 h' (L.set i (acc lo e esz a' n' c' (xs ++ ys))) := by
  have A : AccE g lo e esz a n c xs := S.get i hi
  obtain ⟨a', n', c', h', e1, en, S'⟩ := S.appg (l := []) i hi hlo hlo2 T (fun _ h => by cases h) hx hs hk h1 hB hU
  obtain ⟨a2, n2, c2, h2, e2, _, _, k'⟩ := append_accE T A hlo2 (fun q hq => by have := S.gl q hq; omega) hx hs hk h1 hB hU
  have e1' : appendV P g sT sT (.slice a n c) x = some (.slice a' n' c', h') := e1
  rw [e1'] at e2
  have : h' = h2 := by injection e2 with e2; injection e2
  subst this
  rw [rst_eq k'.gd] at S'
  exact ⟨a', n', c', h', e1', en, S'⟩
end
end Go.Ev
/- Conditions of functions' code, printed by a program of ours. -/
namespace Go.Proofs.YtngcjpkccnfjiaaGreatDoor
open Go Go.Ev
set_option maxRecDepth 100000
set_option linter.unusedVariables false
/-! sward/swardref15.Alloc -/
noncomputable def b25 : Code := (Tryz.f25.body).getD .skip
/-! sward/collect.Write -/
noncomputable def b26 : Code := (Tryz.f26.body).getD .skip
def lv26 : List (Nat × List Nat) := []
def T26 (O : CallF) (Q : Value → Hp → Prop) (a0_0 : Option Addr) (n0_0 : Nat) (c0_0 : Nat) (x0_1 : Int) (a0_2 : Option Addr) (n0_2 : Nat) (c0_2 : Nat) (x1 : Int) (x2 : Int) (x3 : Int) (h : Hp) : Prop :=
  let g1 : Hp := h.add (.cells [(.slice a0_0 n0_0 c0_0), (.int .i64 x0_1), (.slice a0_2 n0_2 c0_2)] 24 .fix)
  let g2 : Hp := g1.add (.cells [(.slice none 0 0), (.int .i64 0), (.slice none 0 0)] 24 .fix)
  ∃ a3' n4' c5', ∃ x6', ∃ a7' n8' c9', readAt g2 h.nx 0 3 = some [(.slice a3' n4' c5'), (.int .i64 x6'), (.slice a7' n8' c9')] ∧
  ∃ a10' n11' c12', ∃ x13', ∃ h14', EvC Tryz.prog O 85 [(.agg #[(.slice a3' n4' c5'), (.int .i64 x6'), (.slice a7' n8' c9')]), (.int .i64 x1), (.int .i64 x2)] g2 (.tuple #[(.slice a10' n11' c12'), (.int .i64 x13')]) h14' ∧
  vcond (eqI x13' 0)
  (∃ a15' n16' c17', readAt h14' h.nx 0 1 = some [(.slice a15' n16' c17')] ∧
  isNat x1 fun n18' =>
  isAddr a15' fun b19' f20' =>
  vreq (Nat.blt n18' n16')
  (∃ x21', readAt h14' b19' (f20' + (n18' * 1)) 1 = some [(.int .i64 x21')] ∧
  ∃ x22', ∃ x23', ∃ h24', EvC Tryz.prog O 86 [(.int .i64 x21')] h14' (.agg #[(.int .i64 x22'), (.int .i64 x23')]) h24' ∧
  ∃ q25', ∃ h26', EvC Tryz.prog O 78 [(.slice a10' n11' c12'), (.int .i64 x23'), (.int .i64 x3)] h24' (.bool q25') h26' ∧
  vcond (!q25')
  (vreq (canW h26' g1.nx 0 [(.slice none 0 0), (.int .i64 0), (.slice none 0 0)])
  (let g27 : Hp := h26'.wr g1.nx 0 [(.slice none 0 0), (.int .i64 0), (.slice none 0 0)]
  ∃ a28' n29' c30', ∃ x31', ∃ a32' n33' c34', readAt g27 g1.nx 0 3 = some [(.slice a28' n29' c30'), (.int .i64 x31'), (.slice a32' n33' c34')] ∧
  Q (.tuple #[(.agg #[(.slice a28' n29' c30'), (.int .i64 x31'), (.slice a32' n33' c34')]), (.int .i64 2)]) g27))
  (vcond (!(eqI x13' 0))
  (vreq (canW h26' g1.nx 0 [(.slice none 0 0), (.int .i64 0), (.slice none 0 0)])
  (let g35 : Hp := h26'.wr g1.nx 0 [(.slice none 0 0), (.int .i64 0), (.slice none 0 0)]
  ∃ a36' n37' c38', ∃ x39', ∃ a40' n41' c42', readAt g35 g1.nx 0 3 = some [(.slice a36' n37' c38'), (.int .i64 x39'), (.slice a40' n41' c42')] ∧
  Q (.tuple #[(.agg #[(.slice a36' n37' c38'), (.int .i64 x39'), (.slice a40' n41' c42')]), (.int .i64 x13')]) g35))
  (∃ a43' n44' c45', ∃ x46', ∃ a47' n48' c49', readAt h26' h.nx 0 3 = some [(.slice a43' n44' c45'), (.int .i64 x46'), (.slice a47' n48' c49')] ∧
  ∃ a50' n51' c52', ∃ x53', ∃ a54' n55' c56', ∃ h57', EvC Tryz.prog O 87 [(.agg #[(.slice a43' n44' c45'), (.int .i64 x46'), (.slice a47' n48' c49')])] h26' (.agg #[(.slice a50' n51' c52'), (.int .i64 x53'), (.slice a54' n55' c56')]) h57' ∧
  let g58 : Hp := h57'.add (.cells [(.slice none 0 0), (.int .i64 0), (.slice none 0 0)] 24 .fix)
  vreq (canW g58 h57'.nx 0 [(.slice a50' n51' c52'), (.int .i64 x53'), (.slice a54' n55' c56')])
  (let g59 : Hp := g58.wr h57'.nx 0 [(.slice a50' n51' c52'), (.int .i64 x53'), (.slice a54' n55' c56')]
  ∃ a60' n61' c62', readAt g59 h57'.nx 0 1 = some [(.slice a60' n61' c62')] ∧
  isNat (wrapF .i64 ((wrapF .i64 (x1 + 1)) + x2)) fun n63' =>
  isAddr a60' fun b64' f65' =>
  vreq (Nat.blt n63' n61')
  (vreq (canW g59 b64' (f65' + (n63' * 1)) [(.int .i64 x3)])
  (let g66 : Hp := g59.wr b64' (f65' + (n63' * 1)) [(.int .i64 x3)]
  ∃ a67' n68' c69', ∃ x70', ∃ a71' n72' c73', readAt g66 h57'.nx 0 3 = some [(.slice a67' n68' c69'), (.int .i64 x70'), (.slice a71' n72' c73')] ∧
  vreq (canW g66 g1.nx 0 [(.slice a67' n68' c69'), (.int .i64 x70'), (.slice a71' n72' c73')])
  (let g74 : Hp := g66.wr g1.nx 0 [(.slice a67' n68' c69'), (.int .i64 x70'), (.slice a71' n72' c73')]
  ∃ a75' n76' c77', ∃ x78', ∃ a79' n80' c81', readAt g74 g1.nx 0 3 = some [(.slice a75' n76' c77'), (.int .i64 x78'), (.slice a79' n80' c81')] ∧
  Q (.tuple #[(.agg #[(.slice a75' n76' c77'), (.int .i64 x78'), (.slice a79' n80' c81')]), (.int .i64 0)]) g74))))))))
  (vcond (!(eqI x13' 0))
  (vreq (canW h14' g1.nx 0 [(.slice none 0 0), (.int .i64 0), (.slice none 0 0)])
  (let g82 : Hp := h14'.wr g1.nx 0 [(.slice none 0 0), (.int .i64 0), (.slice none 0 0)]
  ∃ a83' n84' c85', ∃ x86', ∃ a87' n88' c89', readAt g82 g1.nx 0 3 = some [(.slice a83' n84' c85'), (.int .i64 x86'), (.slice a87' n88' c89')] ∧
  Q (.tuple #[(.agg #[(.slice a83' n84' c85'), (.int .i64 x86'), (.slice a87' n88' c89')]), (.int .i64 x13')]) g82))
  (∃ a90' n91' c92', ∃ x93', ∃ a94' n95' c96', readAt h14' h.nx 0 3 = some [(.slice a90' n91' c92'), (.int .i64 x93'), (.slice a94' n95' c96')] ∧
  ∃ a97' n98' c99', ∃ x100', ∃ a101' n102' c103', ∃ h104', EvC Tryz.prog O 87 [(.agg #[(.slice a90' n91' c92'), (.int .i64 x93'), (.slice a94' n95' c96')])] h14' (.agg #[(.slice a97' n98' c99'), (.int .i64 x100'), (.slice a101' n102' c103')]) h104' ∧
  let g105 : Hp := h104'.add (.cells [(.slice none 0 0), (.int .i64 0), (.slice none 0 0)] 24 .fix)
  vreq (canW g105 h104'.nx 0 [(.slice a97' n98' c99'), (.int .i64 x100'), (.slice a101' n102' c103')])
  (let g106 : Hp := g105.wr h104'.nx 0 [(.slice a97' n98' c99'), (.int .i64 x100'), (.slice a101' n102' c103')]
  ∃ a107' n108' c109', readAt g106 h104'.nx 0 1 = some [(.slice a107' n108' c109')] ∧
  isNat (wrapF .i64 ((wrapF .i64 (x1 + 1)) + x2)) fun n110' =>
  isAddr a107' fun b111' f112' =>
  vreq (Nat.blt n110' n108')
  (vreq (canW g106 b111' (f112' + (n110' * 1)) [(.int .i64 x3)])
  (let g113 : Hp := g106.wr b111' (f112' + (n110' * 1)) [(.int .i64 x3)]
  ∃ a114' n115' c116', ∃ x117', ∃ a118' n119' c120', readAt g113 h104'.nx 0 3 = some [(.slice a114' n115' c116'), (.int .i64 x117'), (.slice a118' n119' c120')] ∧
  vreq (canW g113 g1.nx 0 [(.slice a114' n115' c116'), (.int .i64 x117'), (.slice a118' n119' c120')])
  (let g121 : Hp := g113.wr g1.nx 0 [(.slice a114' n115' c116'), (.int .i64 x117'), (.slice a118' n119' c120')]
  ∃ a122' n123' c124', ∃ x125', ∃ a126' n127' c128', readAt g121 g1.nx 0 3 = some [(.slice a122' n123' c124'), (.int .i64 x125'), (.slice a126' n127' c128')] ∧
  Q (.tuple #[(.agg #[(.slice a122' n123' c124'), (.int .i64 x125'), (.slice a126' n127' c128')]), (.int .i64 0)]) g121))))))
theorem rk26 {O Q} (a0_0 n0_0 c0_0 x0_1 a0_2 n0_2 c0_2 x1 x2 x3) {h : Hp} (hO : O 26 [(.agg #[(.slice a0_0 n0_0 c0_0), (.int .i64 x0_1), (.slice a0_2 n0_2 c0_2)]), (.int .i64 x1), (.int .i64 x2), (.int .i64 x3)] h = none) (hh : T26 O Q a0_0 n0_0 c0_0 x0_1 a0_2 n0_2 c0_2 x1 x2 x3 h) : Ret Tryz.prog O 26 [(.agg #[(.slice a0_0 n0_0 c0_0), (.int .i64 x0_1), (.slice a0_2 n0_2 c0_2)]), (.int .i64 x1), (.int .i64 x2), (.int .i64 x3)] h Q :=
  .of (c := b26) Tryz.func26 (by kernel_rfl) hO (V_ok (tb := lv26) (cuts := []) 500 (Eq.mp (by kernel_rfl) hh))
/-! sward/collect.Look -/
noncomputable def b28 : Code := (Tryz.f28.body).getD .skip
def lv28 : List (Nat × List Nat) := []
def T28 (O : CallF) (Q : Value → Hp → Prop) (a0_0 : Option Addr) (n0_0 : Nat) (c0_0 : Nat) (x0_1 : Int) (a0_2 : Option Addr) (n0_2 : Nat) (c0_2 : Nat) (x1 : Int) (x2 : Int) (h : Hp) : Prop :=
  let g1 : Hp := h.add (.cells [(.slice a0_0 n0_0 c0_0), (.int .i64 x0_1), (.slice a0_2 n0_2 c0_2)] 24 .fix)
  ∃ a2' n3' c4', ∃ x5', ∃ a6' n7' c8', readAt g1 h.nx 0 3 = some [(.slice a2' n3' c4'), (.int .i64 x5'), (.slice a6' n7' c8')] ∧
  ∃ a9' n10' c11', ∃ x12', ∃ h13', EvC Tryz.prog O 85 [(.agg #[(.slice a2' n3' c4'), (.int .i64 x5'), (.slice a6' n7' c8')]), (.int .i64 x1), (.int .i64 x2)] g1 (.tuple #[(.slice a9' n10' c11'), (.int .i64 x12')]) h13' ∧
  vcond (!(eqI x12' 0))
  (Q (.tuple #[(.int .i64 0), (.int .i64 x12')]) h13')
  (∃ a14' n15' c16', readAt h13' h.nx 0 1 = some [(.slice a14' n15' c16')] ∧
  isNat (wrapF .i64 ((wrapF .i64 (x1 + 1)) + x2)) fun n17' =>
  isAddr a14' fun b18' f19' =>
  vreq (Nat.blt n17' n15')
  (∃ x20', readAt h13' b18' (f19' + (n17' * 1)) 1 = some [(.int .i64 x20')] ∧
  Q (.tuple #[(.int .i64 x20'), (.int .i64 0)]) h13'))
theorem rk28 {O Q} (a0_0 n0_0 c0_0 x0_1 a0_2 n0_2 c0_2 x1 x2) {h : Hp} (hO : O 28 [(.agg #[(.slice a0_0 n0_0 c0_0), (.int .i64 x0_1), (.slice a0_2 n0_2 c0_2)]), (.int .i64 x1), (.int .i64 x2)] h = none) (hh : T28 O Q a0_0 n0_0 c0_0 x0_1 a0_2 n0_2 c0_2 x1 x2 h) : Ret Tryz.prog O 28 [(.agg #[(.slice a0_0 n0_0 c0_0), (.int .i64 x0_1), (.slice a0_2 n0_2 c0_2)]), (.int .i64 x1), (.int .i64 x2)] h Q :=
  .of (c := b28) Tryz.func28 (by kernel_rfl) hO (V_ok (tb := lv28) (cuts := []) 500 (Eq.mp (by kernel_rfl) hh))
/-! slices.Clone[[]int,int] -/
noncomputable def b46 : Code := (Tryz.f46.body).getD .skip
def lv46 : List (Nat × List Nat) := []
def T46 (O : CallF) (Q : Value → Hp → Prop) (a0 : Option Addr) (n0 : Nat) (c0 : Nat) (h : Hp) : Prop :=
  vnil a0
  (Q (.slice none 0 0) h)
  (let g1 : Hp := h.add (.cells [] 3 .fix)
  ∃ a2' n3' c4' h5', appendV Tryz.prog g1 22 22 (.slice (some ⟨h.nx, 0, none⟩) 0 0) (.slice a0 n0 c0) = some (.slice a2' n3' c4', h5') ∧
  Q (.slice a2' n3' c4') h5')
theorem rk46 {O Q} (a0 n0 c0) {h : Hp} (hO : O 46 [(.slice a0 n0 c0)] h = none) (hh : T46 O Q a0 n0 c0 h) : Ret Tryz.prog O 46 [(.slice a0 n0 c0)] h Q :=
  .of (c := b46) Tryz.func46 (by kernel_rfl) hO (V_ok (tb := lv46) (cuts := []) 500 (Eq.mp (by kernel_rfl) hh))
/-! sward/collect.within -/
noncomputable def b85 : Code := (Tryz.f85.body).getD .skip
def lv85 : List (Nat × List Nat) := []
def T85 (O : CallF) (Q : Value → Hp → Prop) (a0_0 : Option Addr) (n0_0 : Nat) (c0_0 : Nat) (x0_1 : Int) (a0_2 : Option Addr) (n0_2 : Nat) (c0_2 : Nat) (x1 : Int) (x2 : Int) (h : Hp) : Prop :=
  let g1 : Hp := h.add (.cells [(.slice a0_0 n0_0 c0_0), (.int .i64 x0_1), (.slice a0_2 n0_2 c0_2)] 24 .fix)
  ∃ a2' n3' c4', ∃ x5', ∃ a6' n7' c8', readAt g1 h.nx 0 3 = some [(.slice a2' n3' c4'), (.int .i64 x5'), (.slice a6' n7' c8')] ∧
  ∃ a9' n10' c11', ∃ x12', ∃ h13', EvC Tryz.prog O 65 [(.agg #[(.slice a2' n3' c4'), (.int .i64 x5'), (.slice a6' n7' c8')])] g1 (.tuple #[(.slice a9' n10' c11'), (.int .i64 x12')]) h13' ∧
  vcond (eqI x12' 0)
  (∃ q14', ∃ h15', EvC Tryz.prog O 71 [(.slice a9' n10' c11'), (.int .i64 x1)] h13' (.bool q14') h15' ∧
  vcond (!q14')
  (Q (.tuple #[(.slice a9' n10' c11'), (.int .i64 2)]) h15')
  (vcond (ltI x2 0)
  (Q (.tuple #[(.slice a9' n10' c11'), (.int .i64 2)]) h15')
  (∃ a16' n17' c18', readAt h15' h.nx 0 1 = some [(.slice a16' n17' c18')] ∧
  isNat x1 fun n19' =>
  isAddr a16' fun b20' f21' =>
  vreq (Nat.blt n19' n17')
  (∃ x22', readAt h15' b20' (f21' + (n19' * 1)) 1 = some [(.int .i64 x22')] ∧
  ∃ x23', ∃ x24', ∃ h25', EvC Tryz.prog O 86 [(.int .i64 x22')] h15' (.agg #[(.int .i64 x23'), (.int .i64 x24')]) h25' ∧
  vcond (!(ltI x2 x23'))
  (Q (.tuple #[(.slice a9' n10' c11'), (.int .i64 2)]) h25')
  (Q (.tuple #[(.slice a9' n10' c11'), (.int .i64 x12')]) h25')))))
  (Q (.tuple #[(.slice a9' n10' c11'), (.int .i64 x12')]) h13')
theorem rk85 {O Q} (a0_0 n0_0 c0_0 x0_1 a0_2 n0_2 c0_2 x1 x2) {h : Hp} (hO : O 85 [(.agg #[(.slice a0_0 n0_0 c0_0), (.int .i64 x0_1), (.slice a0_2 n0_2 c0_2)]), (.int .i64 x1), (.int .i64 x2)] h = none) (hh : T85 O Q a0_0 n0_0 c0_0 x0_1 a0_2 n0_2 c0_2 x1 x2 h) : Ret Tryz.prog O 85 [(.agg #[(.slice a0_0 n0_0 c0_0), (.int .i64 x0_1), (.slice a0_2 n0_2 c0_2)]), (.int .i64 x1), (.int .i64 x2)] h Q :=
  .of (c := b85) Tryz.func85 (by kernel_rfl) hO (V_ok (tb := lv85) (cuts := []) 500 (Eq.mp (by kernel_rfl) hh))
/-! sward/collect.clone -/
noncomputable def b87 : Code := (Tryz.f87.body).getD .skip
def lv87 : List (Nat × List Nat) := []
def T87 (O : CallF) (Q : Value → Hp → Prop) (a0_0 : Option Addr) (n0_0 : Nat) (c0_0 : Nat) (x0_1 : Int) (a0_2 : Option Addr) (n0_2 : Nat) (c0_2 : Nat) (h : Hp) : Prop :=
  let g1 : Hp := h.add (.cells [(.slice a0_0 n0_0 c0_0), (.int .i64 x0_1), (.slice a0_2 n0_2 c0_2)] 24 .fix)
  let g2 : Hp := g1.add (.cells [(.slice none 0 0), (.int .i64 0), (.slice none 0 0)] 24 .fix)
  let g3 : Hp := g2.rsv 10
  ∃ a4' n5' c6', readAt g3 h.nx 0 1 = some [(.slice a4' n5' c6')] ∧
  ∃ x7', readAt g3 h.nx 1 1 = some [(.int .i64 x7')] ∧
  ∃ a8' n9' c10', readAt g3 h.nx 2 1 = some [(.slice a8' n9' c10')] ∧
  ∃ a11' n12' c13', ∃ h14', EvC Tryz.prog O 46 [(.slice a4' n5' c6')] (g3.grd [h.nx, h.nx]) (.slice a11' n12' c13') h14' ∧
  let g15 : Hp := h14'.rst g3
  ∃ a16' n17' c18', ∃ h19', EvC Tryz.prog O 46 [(.slice a8' n9' c10')] (g15.grd [h.nx]) (.slice a16' n17' c18') h19' ∧
  let g20 : Hp := h19'.rst g15
  vreq (canW (g20.grd []) g1.nx 0 [(.slice a11' n12' c13'), (.int .i64 x7'), (.slice a16' n17' c18')])
  (let g21 : Hp := (g20.grd []).wr g1.nx 0 [(.slice a11' n12' c13'), (.int .i64 x7'), (.slice a16' n17' c18')]
  let g22 : Hp := g21.rst g20
  ∃ a23' n24' c25', ∃ x26', ∃ a27' n28' c29', readAt g22 g1.nx 0 3 = some [(.slice a23' n24' c25'), (.int .i64 x26'), (.slice a27' n28' c29')] ∧
  Q (.agg #[(.slice a23' n24' c25'), (.int .i64 x26'), (.slice a27' n28' c29')]) g22)
theorem rk87 {O Q} (a0_0 n0_0 c0_0 x0_1 a0_2 n0_2 c0_2) {h : Hp} (hO : O 87 [(.agg #[(.slice a0_0 n0_0 c0_0), (.int .i64 x0_1), (.slice a0_2 n0_2 c0_2)])] h = none) (hh : T87 O Q a0_0 n0_0 c0_0 x0_1 a0_2 n0_2 c0_2 h) : Ret Tryz.prog O 87 [(.agg #[(.slice a0_0 n0_0 c0_0), (.int .i64 x0_1), (.slice a0_2 n0_2 c0_2)])] h Q :=
  .of (c := b87) Tryz.func87 (by kernel_rfl) hO (V_ok (tb := lv87) (cuts := []) 500 (Eq.mp (by kernel_rfl) hh))
/-! sward/swardref15.copied -/
end Go.Proofs.YtngcjpkccnfjiaaGreatDoor
/- Contracts: a heap is copied, a cell is laid. -/
namespace Go.Proofs.YtngcjpkccnfjiaaGreatDoor
set_option maxRecDepth 100000
open Go Go.Ev
abbrev iv (xs : List Int) : List Value := xs.map (Value.int .i64)
theorem iv_one (xs : List Int) : (iv xs).all one = true := by rw [List.all_map]; exact List.all_eq_true.2 fun _ _ => rfl
theorem isAddr_i {b off : Nat} {K : Nat → Nat → Prop} (h : K b off) : isAddr (some ⟨b, off, none⟩) K := h
section
variable {O : CallF} (hO : Oth O)
include hO
/-- 'slices.Clone'. -/
theorem ct46 {g : Hp} (ok : g.Ok) {a : Option Addr} {n c : Nat} {xs : List Int} (X : IntsAt g a n xs) (hl : xs.length < 1000000) : Ret Tryz.prog O 46 [.slice a n c] g fun v h' => ∃ a' n' c', v = .slice a' n' c' ∧ Know g h' [acc g.nx 3 1 a' n' c' (iv xs)] := by
  refine rk46 (hO := hO _ _ _ (by decide)) (hh := ?_) ..
  unfold T46
  have hn := X.1
  cases a with
  | none =>
    have : xs = [] := by
      rcases X.2 with ⟨h, _⟩ | ⟨_, _, _, _, _, h, _⟩
      · exact h
      · cases h
    subst this
    exact ⟨_, _, _, rfl, (Know.nil ok).accNil g.nx 3 1⟩
  | some ad =>
    show let g1 : Hp := g.add (.cells [] 3 .fix)
      _
    intro g1
    have S : Know g g1 [_] := ((Know.nil ok).add _).acc0 0 rfl g.nx (Nat.le_refl _) 3 1
    haveI := S.ft
    obtain ⟨a', n', c', h', e, hn', S⟩ := S.app 0 rfl (Nat.le_refl _) S.lo AppT22 ⟨_, _, _, rfl⟩ (IntsAt.src (SlAt.to g1 X)) (by rw [List.length_map]; omega) (iv_one xs) (by omega) (by unfold big; omega)
    exact ⟨a', n', c', h', e, _, _, _, rfl, S⟩
/-- A heap in new memory. -/
def QCopy (g : Hp) (W : List Int) (top : Int) (R : List Int) : Value → Hp → Prop := fun v h' => ∃ oW ar nr cr lo, v = .agg #[.slice (some ⟨oW, 0, none⟩) W.length unk, .int .i64 top, .slice ar nr cr] ∧ g.nx ≤ lo ∧ Know g h' [ob oW (.cells (iv W) 3 .grow), acc lo 3 1 ar nr cr (iv R)]
theorem ct87 {g : Hp} (ok : g.Ok) {aw : Option Addr} {nw cw : Nat} {W : List Int} {top : Int} {ar : Option Addr} {nr cr : Nat} {R : List Int} (A : HA g aw nw cw W ar nr cr R) (hW : W ≠ []) (lW : W.length < 1000000) (lR : R.length < 1000000) :
    Ret Tryz.prog O 87 [.agg #[.slice aw nw cw, .int .i64 top, .slice ar nr cr]] g (QCopy g W top R) := by
  refine rk87 (hO := hO _ _ _ (by decide)) (hh := ?_) ..
  unfold T87
  intro g1 g2 g3
  have S : Know g g3 [_, _] := (((Know.nil ok).add _).add _).rsv 10
  have := S.lo
  have n3 : g3.nx = g.nx + 12 := rfl
  have n1 : g1.nx = g.nx + 1 := rfl
  haveI := S.ftg [g.nx, g.nx]
  obtain ⟨v, h14, e14, a1, m1, c1, rfl, T⟩ := ct46 hO (S.okg (l := [g.nx, g.nx]) (by intro q hq; have : q = g.nx := (by simpa using hq); omega)) (A.sw.at_.to (g3.grd [g.nx, g.nx])) lW (c := cw)
  refine ⟨_, _, _, S.rd 1 rfl rfl rfl, _, S.rd 1 rfl rfl rfl, _, _, _, S.rd 1 rfl rfl rfl, _, _, _, _, e14, ?_⟩
  intro g15
  have S : Know g g15 [_, _, _] := S.compg T
  have m15 : g3.nx ≤ g15.nx := T.kp.nx
  haveI := S.ftg [g.nx]
  obtain ⟨v, h19, e19, a2, m2, c2, rfl, T⟩ := ct46 hO (S.okg (l := [g.nx]) (by intro q hq; have : q = g.nx := (by simpa using hq); omega)) (A.sr.at_.to (g15.grd [g.nx])) lR (c := cr)
  refine ⟨_, _, _, _, e19, ?_⟩
  intro g20
  have S : Know g g20 [_, _, _, _] := S.compg T
  refine vreq_t (S.cwg 2 rfl (fun _ h => by cases h) (by decide) rfl rfl) ?_
  intro g21 g22
  have S : Know g g22 [_, _, _, _] := S.wrg 2 rfl (fun _ h => by cases h) (by decide) rfl rfl
  obtain ⟨o, rfl, rfl, hm, _, S⟩ := S.accOb 1 rfl (by simpa using hW)
  refine ⟨_, _, _, _, _, _, _, S.rd 2 rfl rfl rfl, o, _, _, _, _, ?_, ?_, S.sel [1, 0] (by decide) rfl⟩
  · rw [show W.length = m1 by simpa using hm.symm]
  · show g.nx ≤ g15.nx; omega
end
end Go.Proofs.YtngcjpkccnfjiaaGreatDoor
/- Contracts: a cell is laid, by the code and by the reference. -/
namespace Go.Proofs.YtngcjpkccnfjiaaGreatDoor
set_option maxRecDepth 100000
open Go Go.Ev
theorem iv_putAt : ∀ (ds xs : List Int) (k : Nat), iv (putAt ds k xs) = putAt (iv ds) k (iv xs) := by
  intro ds
  induction ds with
  | nil => intro xs k; cases k <;> cases xs <;> rfl
  | cons d ds ih =>
    intro xs k
    cases k with
    | zero => cases xs with
      | nil => rfl
      | cons x xs => show _ :: _ = _ :: _; rw [← ih]
    | succ k => show _ :: _ = _ :: _; rw [← ih]
/-- The words of a heap that is one's own. -/
def CapOk (m : Md) (cw n : Nat) : Prop := (m = .fix ∧ cw = n) ∨ (m = .grow ∧ cw = unk)
theorem SI.own {h : Hp} {o cw : Nat} {m : Md} {W : List Int} (hg : h.get o = some (.cells (iv W) 3 m)) (ho : o < h.nx) (c : CapOk m cw W.length) (hl : W.length < 1000000) : SI h (some ⟨o, 0, none⟩) W.length cw W := by
  rcases c with ⟨rfl, rfl⟩ | ⟨rfl, rfl⟩
  · exact SI.cells hg ho rfl hl
  · exact SI.acc (base := 0) (.inr ⟨o, rfl, rfl, by simp, Nat.zero_le _, ho, hg⟩) (by omega)
theorem slice_lo {h : Hp} {o n c : Nat} {W : List Int} (s : SI h (some ⟨o, 0, none⟩) n c W) {l : Nat} (hl : l < n) : ∃ c', sliceV Tryz.prog h 22 (.slice (some ⟨o, 0, none⟩) n c) (some (.int .i64 (Int.ofNat l))) none none = some (.slice (some ⟨o, l, none⟩) (n - l) c') := by
  obtain ⟨vis, hs, hv, hvu, _⟩ := s.cap
  unfold sliceV
  rw [Tryz.underlying22]
  simp only [sz3, bind, Option.bind_some, hs, bounds_lo (vis := vis) (show l ≤ n by omega)]
  by_cases hc : c = unk
  · subst hc
    simp only [Nat.beq_refl, Option.isNone_none, Bool.and_self, cond_true]
    exact ⟨_, by rw [Nat.zero_add, Nat.mul_one]⟩
  · have hcb : Nat.beq c unk = false := by rw [Bool.eq_false_iff]; intro hh; exact hc (Nat.eq_of_beq_eq_true hh)
    simp only [hcb, Bool.false_and, cond_false]
    rw [blt_t hvu]
    have hlb : Nat.beq vis l = false := by rw [Bool.eq_false_iff]; intro hh; have := Nat.eq_of_beq_eq_true hh; omega
    simp only [hlb, cond_true, cond_false]
    exact ⟨_, by rw [Nat.zero_add, Nat.mul_one]⟩
end Go.Proofs.YtngcjpkccnfjiaaGreatDoor
/- Contracts: the reference's copied, laidDown. -/
namespace Go.Proofs.YtngcjpkccnfjiaaGreatDoor
set_option maxRecDepth 100000
open Go Go.Ev
end Go.Proofs.YtngcjpkccnfjiaaGreatDoor
/- Contracts: what runs and what is laid, as what one has; room, and the reference's roomy. -/
namespace Go.Proofs.YtngcjpkccnfjiaaGreatDoor
set_option maxRecDepth 100000
open Go Go.Ev
/-- A list that is read. -/
def slr (a : Option Addr) (n c : Nat) (xs : List Int) : Rs := ⟨fun o => ∃ off, a = some ⟨o, off, none⟩, fun h => SI h a n c xs⟩
theorem slr.loc (a : Option Addr) (n c : Nat) (xs : List Int) : (slr a n c xs).Loc := fun _ _ hn h s => s.upd (fun o off ha => h o ⟨off, ha⟩) hn
theorem SI.accE {h : Hp} {base : Nat} {a : Option Addr} {n c : Nat} {W : List Int} (s : AccE h base 3 1 a n c (iv W)) (hl : W.length < 1000000) : SI h a n c W := by
  rcases s with s | ⟨h1, h2, h3, o, h4, h5, h6, e2, m, h7⟩
  · exact SI.acc s (by omega)
  · have hx : W = [] := by
      cases W with
      | nil => rfl
      | cons x xs => cases h1
    subst hx h2 h3 h4
    exact SI.fix ⟨rfl, .inr ⟨o, 0, _, _, _, rfl, h6, h7, by simp, fun i hi => by simp at hi⟩⟩ (Nat.le_refl _) (by decide) (fun h => by cases h)
theorem AccE.off {h : Hp} {base : Nat} {e : TypeId} {esz : Nat} {a : Option Addr} {n c : Nat} {xs : List Value} (s : AccE h base e esz a n c xs) {o off : Nat} (ha : a = some ⟨o, off, none⟩) : off = 0 := by
  rcases s with (⟨h1, _⟩ | ⟨q, h1, _⟩) | ⟨_, _, _, q, h1, _⟩
  · rw [h1] at ha; cases ha
  · rw [h1] at ha; injection ha with ha; injection ha with _ ha; exact ha.symm
  · rw [h1] at ha; injection ha with ha; injection ha with _ ha; exact ha.symm
/-- What has grown is read from now on. -/
theorem Know.accSlr {h0 g : Hp} {L : List Rs} (S : Know h0 g L) (i : Nat) {lo : Nat} {a : Option Addr} {n c : Nat} {xs : List Int} (hi : L[i]? = some (acc lo 3 1 a n c (iv xs))) (hl : xs.length < 1000000) : Know h0 g (L.set i (slr a n c xs)) := by
  have A : AccE g lo 3 1 a n c (iv xs) := S.get i hi
  exact S.upd i hi (Ch.refl _ g) (slr.loc _ _ _ _) (SI.accE A hl) fun b ⟨off, hb⟩ => .inl (by have := AccE.off A hb; subst this; exact hb)
section
variable {O : CallF} (hO : Oth O)
include hO
/-- What 'room' returns. -/
structure Room where
  W : List Int
  top : Nat
  R : List Int
  l : List Int
  is : Bool
end
end Go.Proofs.YtngcjpkccnfjiaaGreatDoor
/- Contracts: the reference's roomy. -/
namespace Go.Proofs.YtngcjpkccnfjiaaGreatDoor
set_option maxRecDepth 100000
open Go Go.Ev
theorem Know.accLow {h0 g : Hp} {L : List Rs} (S : Know h0 g L) (i : Nat) {lo : Nat} {e : TypeId} {esz : Nat} {a : Option Addr} {n c : Nat} {xs : List Value} (hi : L[i]? = some (acc lo e esz a n c xs)) : Know h0 g (L.set i (acc h0.nx e esz a n c xs)) := by
  have A : AccE g lo e esz a n c xs := S.get i hi
  refine S.upd i hi (Ch.refl _ g) (acc.loc _ _ _ _ _ _ _) ?_ fun b hb => .inl hb
  rcases A with (A | ⟨o, h1, h2, h3, h4, h5, h6⟩) | ⟨h1, h2, h3, o, h4, h5, h6, h7⟩
  · exact .inl (.inl A)
  · exact .inl (.inr ⟨o, h1, h2, h3, (S.arng i hi h1).1, h5, h6⟩)
  · exact .inr ⟨h1, h2, h3, o, h4, (S.arng i hi h4).1, h6, h7⟩
end Go.Proofs.YtngcjpkccnfjiaaGreatDoor
/- Contracts: Alloc of the code. -/
namespace Go.Proofs.YtngcjpkccnfjiaaGreatDoor
set_option maxRecDepth 100000
open Go Go.Ev
theorem Know.nilS {h0 g : Hp} {L : List Rs} (S : Know h0 g L) : Know h0 g (slr none 0 0 [] :: L) :=
  S.push (Kp.refl _ g) (slr.loc _ _ _ _) (SI.fix (SlAt.nil ..) (Nat.le_refl _) (by decide) (fun _ => rfl)) fun b ⟨_, hb⟩ => by cases hb
theorem Know.obSlr {h0 g : Hp} {L : List Rs} (S : Know h0 g L) (i : Nat) {o cw : Nat} {m : Md} {W : List Int} (hi : L[i]? = some (ob o (.cells (iv W) 3 m))) (c : CapOk m cw W.length) (hl : W.length < 1000000) : Know h0 g (L.set i (slr (some ⟨o, 0, none⟩) W.length cw W)) :=
  S.upd i hi (Ch.refl _ g) (slr.loc _ _ _ _) (SI.own (S.obj i hi) (S.orng i hi).2 c hl) fun b ⟨off, hb⟩ => .inl (by injection hb with hb; injection hb with hb; exact hb.symm)
/-- A heap that is returned. -/
def HK (g : Hp) (o : Out) (u : Value) (h : Hp) : Prop := ∃ aw nw cw ar nr cr, u = .agg #[.slice aw nw cw, .int .i64 (Int.ofNat o.top), .slice ar nr cr] ∧ Know g h [slr aw nw cw o.W, slr ar nr cr o.R]
theorem HK.zero {h0 g : Hp} {L : List Rs} (S : Know h0 g L) (e : Int) : HK h0 ⟨[], 0, [], e⟩ (.agg #[.slice none 0 0, .int .i64 0, .slice none 0 0]) g :=
  ⟨_, _, _, _, _, _, rfl, (Know.nilS (Know.nilS S)).sel [0, 1] (by decide) rfl⟩
end Go.Proofs.YtngcjpkccnfjiaaGreatDoor
/- Contracts: Alloc of the code, the whole. -/
namespace Go.Proofs.YtngcjpkccnfjiaaGreatDoor
set_option maxRecDepth 100000
open Go Go.Ev
end Go.Proofs.YtngcjpkccnfjiaaGreatDoor
/- Contracts: Alloc of the reference. -/
namespace Go.Proofs.YtngcjpkccnfjiaaGreatDoor
set_option maxRecDepth 100000
open Go Go.Ev
end Go.Proofs.YtngcjpkccnfjiaaGreatDoor
/- Contracts: within, Write, Look, of the code and of the reference. -/
namespace Go.Proofs.YtngcjpkccnfjiaaGreatDoor
set_option maxRecDepth 100000
open Go Go.Ev
def withinB (W : List Int) (l : List Nat) (x n : Int) : Bool := (l.map Int.ofNat).contains x && (decide (0 ≤ n) && decide (n < hdS (W.getD x.toNat 0)))
def writeO (c : Option (List Nat)) (W : List Int) (top : Nat) (R : List Int) (x n w : Int) : Out := match c with
  | none => ⟨[], 0, [], 2⟩
  | some l => if (withinB W l x n && fieldR l (hdK (W.getD x.toNat 0)) w) = true then ⟨W.set (x.toNat + 1 + n.toNat) w, top, R, 0⟩ else ⟨[], 0, [], 2⟩
def lookO (c : Option (List Nat)) (W : List Int) (x n : Int) : Int × Int := match c with
  | none => (0, 2)
  | some l => if withinB W l x n = true then (W.getD (x.toNat + 1 + n.toNat) 0, 0) else (0, 2)
def QW (g : Hp) (o : Out) : Value → Hp → Prop := fun v h => ∃ u, v = .tuple #[u, .int .i64 o.e] ∧ HK g o u h
/-- A cell's field. -/
structure FieldAt (W : List Int) (l : List Nat) (x n : Int) (m i : Nat) : Prop where
  ex : x = Int.ofNat m
  en : n = Int.ofNat i
  mem : m ∈ l
  lt : m < W.length
  sz : hdS (W.getD m 0) = Int.ofNat (hdS (W.getD m 0)).toNat
  il : i < (hdS (W.getD m 0)).toNat
  fit : m + 1 + i < W.length
  wr : wrapF .i64 (wrapF .i64 (x + 1) + n) = Int.ofNat (m + 1 + i)
theorem field_at {W : List Int} {top : Int} {R : List Int} {l : List Nat} (hf : checkP W top R = some l) {x n : Int} (hw : withinB W l x n = true) : ∃ m i, FieldAt W l x n m i := by
  obtain ⟨f1, f2, f3, f4, f5, f6, f7, f8, f9⟩ := checkP_cells hf
  have hm := (cellsR_mem (cellsG_R f7)).2
  unfold withinB at hw
  rw [Bool.and_eq_true, Bool.and_eq_true, decide_eq_true_eq, decide_eq_true_eq, List.contains_iff_mem] at hw
  obtain ⟨hx, h0, hn⟩ := hw
  obtain ⟨m, hml, rfl⟩ := List.mem_map.1 hx
  obtain ⟨i, rfl⟩ := Int.eq_ofNat_of_zero_le h0
  obtain ⟨m1, m2, m3, m4, m5⟩ := hm m hml
  have hn : (i : Int) < hdS (W.getD m 0) := hn
  have e : wrapF .i64 (wrapF .i64 (Int.ofNat m + 1) + (i : Int)) = Int.ofNat (m + 1 + i) := by
    rw [wrap_succ (by omega)]
    rw [wrap64 (by show _ ≤ ((m + 1 : Nat) : Int) + (i : Int); omega) (by show ((m + 1 : Nat) : Int) + (i : Int) < _; omega)]
    rfl
  exact ⟨m, i, rfl, rfl, hml, by omega, (Int.toNat_of_nonneg (by omega)).symm, by omega, by omega, e⟩
theorem IntsAt.getD {h : Hp} {a : Option Addr} {n : Nat} {xs : List Int} {k : Nat} (hk : k < xs.length) : xs[k] = xs.getD k 0 := by simp [List.getD, List.getElem?_eq_getElem hk]
section
variable {O : CallF} (hO : Oth O) {g : Hp} (ok : g.Ok) {aw : Option Addr} {nw cw : Nat} {W : List Int} {top : Int} {ar : Option Addr} {nr cr : Nat} {R : List Int} (A : HA g aw nw cw W ar nr cr R)
include hO ok A
theorem ct85 (tb : Tb g) (x n : Int) : Ret Tryz.prog O 85 [.agg #[.slice aw nw cw, .int .i64 top, .slice ar nr cr], .int .i64 x, .int .i64 n] g fun v h' => ∃ a m c e, v = .tuple #[.slice a m c, .int .i64 e] ∧ Kp g.nx g h' ∧ match checkP W top R with
    | none => e = 2
    | some l => BoolsAt h' a m (beginP W l) ∧ e = if withinB W l x n then 0 else 2 := by
  refine rk85 (hO := hO _ _ _ (by decide)) (hh := ?_) ..
  unfold T85
  have n0 : 0 < g.nx := by have := tb.1; omega
  intro g1
  have S : Know g g1 [_] := (Know.nil ok).add _
  haveI := S.ft
  obtain ⟨v, h13, e13, a9, n10, c11, x12, rfl, k13, hx⟩ := ct65 hO S.ok (A.sw.to g1) A.w (A.sr.at_.to g1) A.r (tb.kp S.kp n0) (top := top)
  refine ⟨_, _, _, _, _, _, _, S.rd 0 rfl rfl rfl, _, _, _, _, _, e13, ?_⟩
  have S : Know g h13 [_] := S.call k13
  haveI := S.ft
  cases hf : checkP W top R with
  | none =>
    rw [hf] at hx
    have hx : x12 = 2 := hx
    subst hx
    exact vcond_f rfl ⟨_, _, _, _, rfl, S.kp, rfl⟩
  | some l =>
    rw [hf] at hx
    obtain ⟨hx, B⟩ := hx
    subst hx
    obtain ⟨f1, f2, f3, f4, f5, f6, f7, f8, f9⟩ := checkP_cells hf
    have hm := (cellsR_mem (cellsG_R f7)).2
    refine vcond_t rfl ⟨_, _, ct71 hO B (fun y hy => by have := hm y hy; omega) x, ?_⟩
    have hno : withinB W l x n = false → ∀ h' : Hp, Kp h13.nx h13 h' → ∃ a m c e, Value.tuple #[.slice a9 n10 c11, .int .i64 2] = .tuple #[.slice a m c, .int .i64 e] ∧ Kp g.nx g h' ∧ BoolsAt h' a m (beginP W l) ∧ e = if withinB W l x n then 0 else 2 := fun hw h' k => by
      haveI : Ft h13 h' := k.ex (Nat.le_refl _)
      exact ⟨_, _, _, _, rfl, (S.call k).kp, B.to h', by rw [hw]; rfl⟩
    cases hcx : (l.map Int.ofNat).contains x with
    | false => exact vcond_t rfl (hno (by unfold withinB; rw [hcx]; rfl) _ (Kp.refl _ _))
    | true =>
      refine vcond_f rfl (vcond_split (fun h1 => ?_) fun h1 => ?_)
      · exact hno (by unfold withinB; rw [decide_eq_false (show ¬ 0 ≤ n by have := lt_of_t h1; omega)]; simp) _ (Kp.refl _ _)
      · have h1 := not_lt_of_f h1
        have hc2 := hcx
        rw [List.contains_iff_mem] at hc2
        obtain ⟨m, hml, rfl⟩ := List.mem_map.1 hc2
        have := hm m hml
        have hmW : m < W.length := by omega
        refine ⟨_, _, _, S.rd 0 rfl rfl rfl, isNat_i (A.sw.at_.rd (k := m) hmW (ct86 hO S.ok (A.w _ (List.getElem_mem hmW)) fun h25 k25 => ?_))⟩
        haveI : Ft h13 h25 := k25.ex (Nat.le_refl _)
        rw [show W[m] = W.getD m 0 by simp [List.getD, List.getElem?_eq_getElem hmW]]
        have ew : withinB W l (Int.ofNat m) n = decide (n < hdS (W.getD m 0)) := by
          unfold withinB
          rw [hcx, decide_eq_true (show 0 ≤ n by omega)]
          rfl
        cases h2 : ltI n (hdS (W.getD m 0)) with
        | false => exact vcond_t rfl (hno (by rw [ew, decide_eq_false (not_lt_of_f h2)]) _ k25)
        | true => exact vcond_f rfl ⟨_, _, _, _, rfl, (S.call k25).kp, B.to h25, by rw [ew, decide_eq_true (lt_of_t h2)]; rfl⟩
/-- 'Look'. -/
theorem ct28 (tb : Tb g) (x n : Int) : Ret Tryz.prog O 28 [.agg #[.slice aw nw cw, .int .i64 top, .slice ar nr cr], .int .i64 x, .int .i64 n] g fun v h' => v = .tuple #[.int .i64 (lookO (checkP W top R) W x n).1, .int .i64 (lookO (checkP W top R) W x n).2] ∧ Kp g.nx g h' := by
  refine rk28 (hO := hO _ _ _ (by decide)) (hh := ?_) ..
  unfold T28
  have n0 : 0 < g.nx := by have := tb.1; omega
  intro g1
  have S : Know g g1 [_] := (Know.nil ok).add _
  haveI := S.ft
  obtain ⟨v, h13, e13, a9, n10, c11, x12, rfl, k13, hx⟩ := ct85 hO S.ok (A.to g1) (tb.kp S.kp n0) x n (top := top)
  refine ⟨_, _, _, _, _, _, _, S.rd 0 rfl rfl rfl, _, _, _, _, _, e13, ?_⟩
  have S : Know g h13 [_] := S.call k13
  haveI := S.ft
  cases hf : checkP W top R with
  | none =>
    rw [hf] at hx
    have hx : x12 = 2 := hx
    subst hx
    exact vcond_t rfl ⟨rfl, S.kp⟩
  | some l =>
    rw [hf] at hx
    obtain ⟨B, hx⟩ := hx
    cases hw : withinB W l x n with
    | false =>
      have e : lookO (some l) W x n = (0, 2) := if_neg (by rw [hw]; decide)
      rw [e]
      rw [hw] at hx
      have hx : x12 = 2 := hx
      subst hx
      exact vcond_t rfl ⟨rfl, S.kp⟩
    | true =>
      have e : lookO (some l) W x n = (W.getD (x.toNat + 1 + n.toNat) 0, 0) := if_pos hw
      rw [e]
      rw [hw] at hx
      have hx : x12 = 0 := hx
      subst hx
      obtain ⟨m, i, F⟩ := field_at hf hw
      obtain ⟨rfl, rfl, _, _, _, _, ft, wr⟩ := F
      rw [wr]
      refine vcond_f rfl ⟨_, _, _, S.rd 0 rfl rfl rfl, isNat_i (A.sw.at_.rd (k := m + 1 + i) ft ⟨?_, S.kp⟩)⟩
      rw [show W[m + 1 + i] = W.getD (m + 1 + i) 0 by simp [List.getD, List.getElem?_eq_getElem ft]]
      rfl
end
end Go.Proofs.YtngcjpkccnfjiaaGreatDoor
/- Contracts: Write, of the code and of the reference. -/
namespace Go.Proofs.YtngcjpkccnfjiaaGreatDoor
set_option maxRecDepth 100000
open Go Go.Ev
theorem putAt_one (W : List Int) (i : Nat) (w : Int) (hi : i < W.length) : putAt (iv W) (0 + i * 1) [.int .i64 w] = iv (W.set i w) := by
  rw [show 0 + i * 1 = i by omega]
  exact putAt_map (Value.int .i64) hi
section
variable {O : CallF} (hO : Oth O) {g : Hp} (ok : g.Ok) {aw : Option Addr} {nw cw : Nat} {W : List Int} {top : Int} {ar : Option Addr} {nr cr : Nat} {R : List Int} (A : HA g aw nw cw W ar nr cr R)
include hO ok A
/-- 'Write'. -/
theorem ct26 (tb : Tb g) (x n : Int) {w : Int} (hw64 : In64 w) : Ret Tryz.prog O 26 [.agg #[.slice aw nw cw, .int .i64 top, .slice ar nr cr], .int .i64 x, .int .i64 n, .int .i64 w] g (QW g (writeO (checkP W top R) W top.toNat R x n w)) := by
  refine rk26 (hO := hO _ _ _ (by decide)) (hh := ?_) ..
  unfold T26
  have n0 : 0 < g.nx := by have := tb.1; omega
  intro g1 g2
  have S : Know g g1 [_] := (Know.nil ok).add _
  have S : Know g g2 [_, _] := S.add _
  haveI := S.ft
  obtain ⟨v, h14, e14, a9, n10, c11, x12, rfl, k14, hx⟩ := ct85 hO S.ok (A.to g2) (tb.kp S.kp n0) x n (top := top)
  refine ⟨_, _, _, _, _, _, _, S.rd 1 rfl rfl rfl, _, _, _, _, _, e14, ?_⟩
  have S : Know g h14 [_, _] := S.call k14
  haveI := S.ft
  have bad : ∀ h : Hp, Know g h [ob g1.nx (.cells [.slice none 0 0, .int .i64 0, .slice none 0 0] 24 .fix), ob g.nx (.cells [.slice aw nw cw, .int .i64 top, .slice ar nr cr] 24 .fix)] → vreq (canW h g1.nx 0 [.slice none 0 0, .int .i64 0, .slice none 0 0]) (let g27 : Hp := h.wr g1.nx 0 [.slice none 0 0, .int .i64 0, .slice none 0 0]
      ∃ a28' n29' c30', ∃ x31', ∃ a32' n33' c34', readAt g27 g1.nx 0 3 = some [(.slice a28' n29' c30'), (.int .i64 x31'), (.slice a32' n33' c34')] ∧ QW g ⟨[], 0, [], 2⟩ (.tuple #[(.agg #[(.slice a28' n29' c30'), (.int .i64 x31'), (.slice a32' n33' c34')]), (.int .i64 2)]) g27) := by
    intro h S
    refine vreq_t (S.cw 0 rfl (by decide) rfl rfl) ?_
    intro g27
    have S : Know g g27 [_, _] := S.wr 0 rfl (by decide) rfl rfl
    exact ⟨_, _, _, _, _, _, _, S.rd 0 rfl rfl rfl, _, rfl, HK.zero S 2⟩
  cases hf : checkP W top R with
  | none =>
    rw [hf] at hx
    have hx : x12 = 2 := hx
    subst hx
    exact vcond_f rfl (vcond_t rfl (bad _ S))
  | some l =>
    rw [hf] at hx
    obtain ⟨B, hx⟩ := hx
    obtain ⟨f1, f2, f3, f4, f5, f6, f7, f8, f9⟩ := checkP_cells hf
    have hm := (cellsR_mem (cellsG_R f7)).2
    have hl : ∀ x ∈ l, x < W.length := fun x hx => by have := hm x hx; omega
    cases hw : withinB W l x n with
    | false =>
      have e : writeO (some l) W top.toNat R x n w = ⟨[], 0, [], 2⟩ := if_neg (by rw [hw, Bool.false_and]; decide)
      rw [e]
      rw [hw] at hx
      have hx : x12 = 2 := hx
      subst hx
      exact vcond_f rfl (vcond_t rfl (bad _ S))
    | true =>
      rw [hw] at hx
      have hx : x12 = 0 := hx
      subst hx
      obtain ⟨m, i, F⟩ := field_at hf hw
      obtain ⟨rfl, rfl, hml, mlt, _, _, ft, wr⟩ := F
      refine vcond_t rfl ⟨_, _, _, S.rd 1 rfl rfl rfl, isNat_i (A.sw.at_.rd (k := m) mlt (ct86 hO S.ok (A.w _ (List.getElem_mem mlt)) fun h24 k24 => ?_))⟩
      haveI : Ft h14 h24 := k24.ex (Nat.le_refl _)
      have S : Know g h24 [_, _] := S.call k24
      refine ⟨_, _, ct78 hO (B.to h24) hw64, ?_⟩
      rw [show W[m] = W.getD m 0 by simp [List.getD, List.getElem?_eq_getElem mlt], field_RB hl f1]
      cases hfl : fieldR l (hdK (W.getD m 0)) w with
      | false =>
        have e : writeO (some l) W top.toNat R (Int.ofNat m) (Int.ofNat i) w = ⟨[], 0, [], 2⟩ := if_neg (by rw [show (Int.ofNat m).toNat = m from rfl, hfl, Bool.and_false]; decide)
        rw [e]
        exact vcond_t rfl (bad _ S)
      | true =>
        have e : writeO (some l) W top.toNat R (Int.ofNat m) (Int.ofNat i) w = ⟨W.set (m + 1 + i) w, top.toNat, R, 0⟩ := if_pos (by rw [show (Int.ofNat m).toNat = m from rfl, hfl, hw]; rfl)
        rw [e]
        obtain ⟨tp, rfl⟩ : ∃ m : Nat, top = Int.ofNat m := Int.eq_ofNat_of_zero_le (by omega)
        haveI := S.ft
        obtain ⟨v, h57, e57, oW, ar', nr', cr', lo, rfl, hlo, T⟩ := ct87 hO S.ok (A.to h24) (fun h => by rw [h] at f1; simp at f1) (by omega) (by omega) (top := Int.ofNat tp)
        refine vcond_f rfl (vcond_f rfl ⟨_, _, _, _, _, _, _, S.rd 1 rfl rfl rfl, _, _, _, _, _, _, _, _, e57, ?_⟩)
        have S : Know g h57 [_, _, _, _] := S.comp T
        intro g58
        have S : Know g g58 [_, _, _, _, _] := S.add _
        refine vreq_t (S.cw 0 rfl (by decide) rfl rfl) ?_
        intro g59
        have S : Know g g59 [_, _, _, _, _] := S.wr 0 rfl (by decide) rfl rfl
        rw [wr]
        have hb : Nat.ble (0 + (m + 1 + i) * 1 + [Value.int .i64 w].length) (iv W).length = true := ble_t (by rw [List.length_map]; show 0 + (m + 1 + i) * 1 + 1 ≤ _; omega)
        refine ⟨_, _, _, S.rd 0 rfl rfl rfl, isNat_i (isAddr_i (vreq_t (blt_t ft) (vreq_t (S.cw 1 rfl (by decide) hb rfl) ?_)))⟩
        intro g66
        have S : Know g g66 [_, _, _, _, _] := S.wr 1 rfl (by decide) hb rfl
        rw [putAt_one W _ w ft] at S
        refine ⟨_, _, _, _, _, _, _, S.rd 0 rfl rfl rfl, vreq_t (S.cw 3 rfl (by decide) rfl rfl) ?_⟩
        intro g74
        have S : Know g g74 [_, _, _, _, _] := S.wr 3 rfl (by decide) rfl rfl
        have S' : Know g g74 [_, _, _, _, _] := Know.obSlr S 1 rfl (cw := unk) (.inr ⟨rfl, rfl⟩) (by rw [List.length_set]; omega)
        rw [List.length_set] at S'
        have S' : Know g g74 [_, _, _, _, _] := Know.accSlr S' 2 rfl (by omega)
        exact ⟨_, _, _, _, _, _, _, S.rd 3 rfl rfl rfl, _, rfl, _, _, _, _, _, _, rfl, S'.sel [1, 2] (by decide) rfl⟩
end
end Go.Proofs.YtngcjpkccnfjiaaGreatDoor
/- Conditions of functions' code, printed by a program of ours. -/
namespace Go.Proofs.YtngcjpkccnfjiaaGreatDoor
open Go Go.Ev
set_option maxRecDepth 100000
set_option linter.unusedVariables false
/-! sward/swardlaw15.CollectWritten -/
noncomputable def b8 : Code := (Tryz.f8.body).getD .skip
noncomputable def stk8_0 : List KI := [.code (sub [1, 1, 1, 1, 1, 1, 1, 0] b8), .code (sub [1, 1, 1, 1, 1, 1, 1, 1] b8)]
def lv8 : List (Nat × List Nat) := [(1000014, [8, 9, 10, 12, 15, 16, 17])]
def I8_0 (O : CallF) (Q : Value → Hp → Prop) (v0 : Array Value) (x1 : Int) (x2 : Int) (x3 : Int) (b9 : Nat) (f9 : Nat) (a10 : Option Addr) (n10 : Nat) (c10 : Nat) (a12 : Option Addr) (n12 : Nat) (c12 : Nat) (x15 : Int) (x16 : Int) (x17 : Int) (h : Hp) : Prop := RKL Tryz.prog O Tryz.f8 stk8_0 208 [8, 9, 10, 12, 15, 16, 17] [(.bool false), (.pointer (some ⟨b9, f9, none⟩)), (.slice a10 n10 c10), (.slice a12 n12 c12), (.int .i64 x15), (.int .i64 x16), (.int .i64 x17)] h Q
def T8 (O : CallF) (Q : Value → Hp → Prop) (v0 : Array Value) (x1 : Int) (x2 : Int) (x3 : Int) (h : Hp) : Prop :=
  vreq (v0.toList.all one)
  (let g1 : Hp := h.add (.cells v0.toList 62 .fix)
  ∃ l2', readAt g1 h.nx 0 51 = some l2' ∧
  ∃ a3' n4' c5', ∃ x6', ∃ a7' n8' c9', ∃ a10' n11' c12', ∃ a13' n14' c15', ∃ a16' n17' c18', ∃ h19', EvC Tryz.prog O 43 [(.agg l2'.toArray)] g1 (.tuple #[(.agg #[(.slice a3' n4' c5'), (.int .i64 x6'), (.slice a7' n8' c9')]), (.slice a10' n11' c12'), (.slice a13' n14' c15'), (.slice a16' n17' c18')]) h19' ∧
  let g20 : Hp := h19'.add (.cells [(.slice none 0 0), (.int .i64 0), (.slice none 0 0)] 24 .fix)
  vreq (canW g20 h19'.nx 0 [(.slice a3' n4' c5'), (.int .i64 x6'), (.slice a7' n8' c9')])
  (let g21 : Hp := g20.wr h19'.nx 0 [(.slice a3' n4' c5'), (.int .i64 x6'), (.slice a7' n8' c9')]
  vcond (eqI (Int.ofNat n11') 0)
  (∃ a22' n23' c24', ∃ x25', ∃ a26' n27' c28', readAt g21 h19'.nx 0 3 = some [(.slice a22' n23' c24'), (.int .i64 x25'), (.slice a26' n27' c28')] ∧
  ∃ x29', ∃ x30', ∃ h31', EvC Tryz.prog O 28 [(.agg #[(.slice a22' n23' c24'), (.int .i64 x25'), (.slice a26' n27' c28')]), (.int .i64 (wrapF .i64 x1)), (.int .i64 (wrapF .i64 x2))] g21 (.tuple #[(.int .i64 x29'), (.int .i64 x30')]) h31' ∧
  vcond (eqI x30' 2)
  (∃ q32', ∃ h33', EvC Tryz.prog O 14 [] h31' (.bool q32') h33' ∧
  Q (.bool q32') h33')
  (Q (.bool false) h31'))
  (vreq (!(eqI (Int.ofNat n11') 0))
  (isNat (Int.tmod (wrapF .i64 x1) (Int.ofNat n11')) fun n34' =>
  isAddr a10' fun b35' f36' =>
  vreq (Nat.blt n34' n11')
  (∃ a37' n38' c39', readAt g21 b35' ((f36' + (n34' * 2)) + 1) 1 = some [(.slice a37' n38' c39')] ∧
  vreq (!(eqI (wrapF .i64 ((Int.ofNat n38') + 1)) 0))
  (isNat (Int.tmod (wrapF .i64 x1) (Int.ofNat n11')) fun n40' =>
  isAddr a10' fun b41' f42' =>
  vreq (Nat.blt n40' n11')
  (∃ x43', readAt g21 b41' ((f42' + (n40' * 2)) + 0) 1 = some [(.int .i64 x43')] ∧
  vcond (eqI x43' 3)
  (I8_0 O Q v0 x1 x2 x3 h19'.nx 0 a10' n11' c12' a16' n17' c18' (Int.tmod (wrapF .i64 x1) (Int.ofNat n11')) (Int.tmod (wrapF .i64 x2) (wrapF .i64 ((Int.ofNat n38') + 1))) (wrapF .i64 (97 + (Int.tmod (wrapF .i64 x3) 26))) g21)
  (isNat (Int.tmod (wrapF .i64 x1) (Int.ofNat n11')) fun n44' =>
  isAddr a10' fun b45' f46' =>
  vreq (Nat.blt n44' n11')
  (∃ x47', readAt g21 b45' ((f46' + (n44' * 2)) + 0) 1 = some [(.int .i64 x47')] ∧
  vcond (eqI x47' 4)
  (I8_0 O Q v0 x1 x2 x3 h19'.nx 0 a10' n11' c12' a16' n17' c18' (Int.tmod (wrapF .i64 x1) (Int.ofNat n11')) (Int.tmod (wrapF .i64 x2) (wrapF .i64 ((Int.ofNat n38') + 1))) (Int.tmod (wrapF .i64 x3) 2) g21)
  (vcond (eqI (Int.tmod x3 2) 0)
  (vreq (!(eqI (Int.ofNat n11') 0))
  (isNat (Int.tmod (wrapF .i64 (Int.tdiv (wrapF .i64 x3) 2)) (Int.ofNat n11')) fun n48' =>
  isAddr a16' fun b49' f50' =>
  vreq (Nat.blt n48' n17')
  (∃ x51', readAt g21 b49' (f50' + (n48' * 1)) 1 = some [(.int .i64 x51')] ∧
  I8_0 O Q v0 x1 x2 x3 h19'.nx 0 a10' n11' c12' a16' n17' c18' (Int.tmod (wrapF .i64 x1) (Int.ofNat n11')) (Int.tmod (wrapF .i64 x2) (wrapF .i64 ((Int.ofNat n38') + 1))) (wrapF .i64 (2 * x51')) g21)))
  (I8_0 O Q v0 x1 x2 x3 h19'.nx 0 a10' n11' c12' a16' n17' c18' (Int.tmod (wrapF .i64 x1) (Int.ofNat n11')) (Int.tmod (wrapF .i64 x2) (wrapF .i64 ((Int.ofNat n38') + 1))) (wrapF .i64 ((wrapF .i64 (2 * (wrapF .i64 x3))) + 1)) g21)))))))))))
theorem rk8 {O Q} (v0 x1 x2 x3) {h : Hp} (hO : O 8 [(.agg v0), (.int .u8 x1), (.int .u8 x2), (.int .u8 x3)] h = none) (hh : T8 O Q v0 x1 x2 x3 h) : Ret Tryz.prog O 8 [(.agg v0), (.int .u8 x1), (.int .u8 x2), (.int .u8 x3)] h Q :=
  .of (c := b8) Tryz.func8 (by kernel_rfl) hO (V_ok (tb := lv8) (cuts := [14]) 500 (Eq.mp (by kernel_rfl) hh))
def T8_0 (O : CallF) (Q : Value → Hp → Prop) (v0 : Array Value) (x1 : Int) (x2 : Int) (x3 : Int) (b9 : Nat) (f9 : Nat) (a10 : Option Addr) (n10 : Nat) (c10 : Nat) (a12 : Option Addr) (n12 : Nat) (c12 : Nat) (x15 : Int) (x16 : Int) (x17 : Int) (h : Hp) : Prop :=
  let g101 : Hp := h.rsv 14
  ∃ a102' n103' c104', ∃ x105', ∃ a106' n107' c108', readAt g101 b9 f9 3 = some [(.slice a102' n103' c104'), (.int .i64 x105'), (.slice a106' n107' c108')] ∧
  isNat x15 fun n109' =>
  isAddr a12 fun b110' f111' =>
  vreq (Nat.blt n109' n12)
  (∃ x112', readAt g101 b110' (f111' + (n109' * 1)) 1 = some [(.int .i64 x112')] ∧
  ∃ a113' n114' c115', ∃ x116', ∃ a117' n118' c119', ∃ x120', ∃ h121', EvC Tryz.prog O 26 [(.agg #[(.slice a102' n103' c104'), (.int .i64 x105'), (.slice a106' n107' c108')]), (.int .i64 x112'), (.int .i64 x16), (.int .i64 x17)] (g101.grd []) (.tuple #[(.agg #[(.slice a113' n114' c115'), (.int .i64 x116'), (.slice a117' n118' c119')]), (.int .i64 x120')]) h121' ∧
  let g122 : Hp := h121'.rst g101
  vreq (g122.free (h.nx + 11))
  (let g123 : Hp := g122.lay (h.nx + 11) (.cells [(.slice none 0 0), (.int .i64 0), (.slice none 0 0)] 24 .fix)
  vreq (canW (g123.grd []) (h.nx + 11) 0 [(.slice a113' n114' c115'), (.int .i64 x116'), (.slice a117' n118' c119')])
  (let g124 : Hp := (g123.grd []).wr (h.nx + 11) 0 [(.slice a113' n114' c115'), (.int .i64 x116'), (.slice a117' n118' c119')]
  let g125 : Hp := g124.rst g123
  let g126 : Hp := g125.rsv 12
  ∃ a127' n128' c129', ∃ x130', ∃ a131' n132' c133', readAt g126 b9 f9 3 = some [(.slice a127' n128' c129'), (.int .i64 x130'), (.slice a131' n132' c133')] ∧
  isNat x15 fun n134' =>
  isAddr a12 fun b135' f136' =>
  vreq (Nat.blt n134' n12)
  (∃ x137', readAt g126 b135' (f136' + (n134' * 1)) 1 = some [(.int .i64 x137')] ∧
  ∃ x138', ∃ x139', ∃ h140', EvC Tryz.prog O 28 [(.agg #[(.slice a127' n128' c129'), (.int .i64 x130'), (.slice a131' n132' c133')]), (.int .i64 x137'), (.int .i64 x16)] (g126.grd []) (.tuple #[(.int .i64 x138'), (.int .i64 x139')]) h140' ∧
  let g141 : Hp := h140'.rst g126
  isNat x15 fun n142' =>
  isAddr a10 fun b143' f144' =>
  vreq (Nat.blt n142' n10)
  (∃ a145' n146' c147', readAt g141 b143' ((f144' + (n142' * 2)) + 1) 1 = some [(.slice a145' n146' c147')] ∧
  vcond (eqI x16 (Int.ofNat n146'))
  (vcond (eqI x120' 2)
  (vcond (eqI x139' 2)
  (∃ q148', ∃ h149', EvC Tryz.prog O 14 [] g141 (.bool q148') h149' ∧
  Q (.bool q148') h149')
  (Q (.bool false) g141))
  (Q (.bool false) g141))
  (let g150 : Hp := g141.rsv 10
  ∃ a151' n152' c153', readAt g150 b9 (f9 + 0) 1 = some [(.slice a151' n152' c153')] ∧
  ∃ x154', readAt g150 b9 (f9 + 1) 1 = some [(.int .i64 x154')] ∧
  ∃ a155' n156' c157', readAt g150 b9 (f9 + 2) 1 = some [(.slice a155' n156' c157')] ∧
  ∃ a158' n159' c160', ∃ h161', EvC Tryz.prog O 46 [(.slice a151' n152' c153')] (g150.grd [b9, b9]) (.slice a158' n159' c160') h161' ∧
  let g162 : Hp := h161'.rst g150
  vreq (g162.free (g141.nx + 8))
  (let g163 : Hp := g162.lay (g141.nx + 8) (.cells [(.slice none 0 0), (.int .i64 0), (.slice none 0 0)] 24 .fix)
  vreq (canW (g163.grd []) (g141.nx + 8) 0 [(.slice a158' n159' c160'), (.int .i64 x154'), (.slice a155' n156' c157')])
  (let g164 : Hp := (g163.grd []).wr (g141.nx + 8) 0 [(.slice a158' n159' c160'), (.int .i64 x154'), (.slice a155' n156' c157')]
  let g165 : Hp := g164.rst g163
  let g166 : Hp := g165.rsv 12
  ∃ a167' n168' c169', readAt g166 (g141.nx + 8) 0 1 = some [(.slice a167' n168' c169')] ∧
  isNat x15 fun n170' =>
  isAddr a12 fun b171' f172' =>
  vreq (Nat.blt n170' n12)
  (∃ x173', readAt g166 b171' (f172' + (n170' * 1)) 1 = some [(.int .i64 x173')] ∧
  isNat (wrapF .i64 ((wrapF .i64 (x173' + 1)) + x16)) fun n174' =>
  isAddr a167' fun b175' f176' =>
  vreq (Nat.blt n174' n168')
  (vreq (canW (g166.grd []) b175' (f176' + (n174' * 1)) [(.int .i64 x17)])
  (let g177 : Hp := (g166.grd []).wr b175' (f176' + (n174' * 1)) [(.int .i64 x17)]
  let g178 : Hp := g177.rst g166
  let g179 : Hp := g178.rsv 12
  ∃ a180' n181' c182', ∃ x183', ∃ a184' n185' c186', readAt g179 (h.nx + 11) 0 3 = some [(.slice a180' n181' c182'), (.int .i64 x183'), (.slice a184' n185' c186')] ∧
  isNat x15 fun n187' =>
  isAddr a12 fun b188' f189' =>
  vreq (Nat.blt n187' n12)
  (∃ x190', readAt g179 b188' (f189' + (n187' * 1)) 1 = some [(.int .i64 x190')] ∧
  ∃ x191', ∃ x192', ∃ h193', EvC Tryz.prog O 28 [(.agg #[(.slice a180' n181' c182'), (.int .i64 x183'), (.slice a184' n185' c186')]), (.int .i64 x190'), (.int .i64 x16)] (g179.grd []) (.tuple #[(.int .i64 x191'), (.int .i64 x192')]) h193' ∧
  let g194 : Hp := h193'.rst g179
  let g195 : Hp := g194.rsv 39
  vcond (eqI x120' 0)
  (∃ a196' n197' c198', ∃ x199', ∃ a200' n201' c202', readAt g195 (h.nx + 11) 0 3 = some [(.slice a196' n197' c198'), (.int .i64 x199'), (.slice a200' n201' c202')] ∧
  ∃ a203' n204' c205', ∃ x206', ∃ a207' n208' c209', readAt g195 (g141.nx + 8) 0 3 = some [(.slice a203' n204' c205'), (.int .i64 x206'), (.slice a207' n208' c209')] ∧
  ∃ q210', ∃ h211', EvC Tryz.prog O 19 [(.agg #[(.slice a196' n197' c198'), (.int .i64 x199'), (.slice a200' n201' c202')]), (.agg #[(.slice a203' n204' c205'), (.int .i64 x206'), (.slice a207' n208' c209')])] (g195.grd []) (.bool q210') h211' ∧
  let g212 : Hp := h211'.rst g195
  vcond q210'
  (vcond (eqI x139' 0)
  (∃ a213' n214' c215', readAt g212 b9 (f9 + 0) 1 = some [(.slice a213' n214' c215')] ∧
  isNat x15 fun n216' =>
  isAddr a12 fun b217' f218' =>
  vreq (Nat.blt n216' n12)
  (∃ x219', readAt g212 b217' (f218' + (n216' * 1)) 1 = some [(.int .i64 x219')] ∧
  isNat (wrapF .i64 ((wrapF .i64 (x219' + 1)) + x16)) fun n220' =>
  isAddr a213' fun b221' f222' =>
  vreq (Nat.blt n220' n214')
  (∃ x223', readAt g212 b221' (f222' + (n220' * 1)) 1 = some [(.int .i64 x223')] ∧
  vcond (eqI x138' x223')
  (vcond (eqI x192' 0)
  (vcond (eqI x191' x17)
  (∃ q224', ∃ h225', EvC Tryz.prog O 14 [] (g212.grd []) (.bool q224') h225' ∧
  let g226 : Hp := h225'.rst g212
  Q (.bool q224') g226)
  (Q (.bool false) g212))
  (Q (.bool false) g212))
  (Q (.bool false) g212))))
  (Q (.bool false) g212))
  (Q (.bool false) g212))
  (Q (.bool false) g195)))))))))))))
theorem I8_0.of {O Q} (v0 x1 x2 x3 b9 f9 a10 n10 c10 a12 n12 c12 x15 x16 x17) {h : Hp} (hh : T8_0 O Q v0 x1 x2 x3 b9 f9 a10 n10 c10 a12 n12 c12 x15 x16 x17 h) : I8_0 O Q v0 x1 x2 x3 b9 f9 a10 n10 c10 a12 n12 c12 x15 x16 x17 h :=
  RKL.of (tb := lv8) (cuts := [14]) 500 fun _ => Eq.mp (by kernel_rfl) hh
/-! sward/swardlaw15.CollectRoom -/
noncomputable def b10 : Code := (Tryz.f10.body).getD .skip
/-! sward/swardlaw15.CollectKept -/
noncomputable def b11 : Code := (Tryz.f11.body).getD .skip
/-! (sward/swardlaw15.Pile).made -/
noncomputable def b43 : Code := (Tryz.f43.body).getD .skip
def lv43 : List (Nat × List Nat) := []
def T43 (O : CallF) (Q : Value → Hp → Prop) (v0 : Array Value) (h : Hp) : Prop :=
  vreq (v0.toList.all one)
  (let g1 : Hp := h.add (.cells v0.toList 62 .fix)
  let g2 : Hp := g1.add (.cells [(.slice none 0 0), (.int .i64 0), (.slice none 0 0)] 24 .fix)
  ∃ l3', readAt g2 h.nx 0 51 = some l3' ∧
  ∃ a4' n5' c6', ∃ a7' n8' c9', ∃ h10', EvC Tryz.prog O 106 [(.agg l3'.toArray)] g2 (.tuple #[(.slice a4' n5' c6'), (.slice a7' n8' c9')]) h10' ∧
  let g11 : Hp := h10'.rsv 16
  ∃ x12', readAt g11 h.nx 1 1 = some [(.int .u8 x12')] ∧
  ∃ a13' n14' c15', ∃ h16', EvC Tryz.prog O 51 [(.int .i64 (Int.ofNat n5'))] (g11.grd [h.nx]) (.slice a13' n14' c15') h16' ∧
  let g17 : Hp := h16'.rst g11
  ∃ a18' n19' c20', ∃ x21', ∃ a22' n23' c24', ∃ a25' n26' c27', ∃ h28', EvC Tryz.prog O 52 [(.slice a4' n5' c6'), (.slice a13' n14' c15'), (.slice a7' n8' c9'), (.int .i64 (Int.tmod (wrapF .i64 x12') 16))] (g17.grd []) (.tuple #[(.agg #[(.slice a18' n19' c20'), (.int .i64 x21'), (.slice a22' n23' c24')]), (.slice a25' n26' c27')]) h28' ∧
  let g29 : Hp := h28'.rst g17
  vreq (g29.free (h10'.nx + 13))
  (let g30 : Hp := g29.lay (h10'.nx + 13) (.cells [(.slice none 0 0), (.int .i64 0), (.slice none 0 0)] 24 .fix)
  vreq (canW (g30.grd []) (h10'.nx + 13) 0 [(.slice a18' n19' c20'), (.int .i64 x21'), (.slice a22' n23' c24')])
  (let g31 : Hp := (g30.grd []).wr (h10'.nx + 13) 0 [(.slice a18' n19' c20'), (.int .i64 x21'), (.slice a22' n23' c24')]
  let g32 : Hp := g31.rst g30
  ∃ a33' n34' c35', ∃ x36', ∃ a37' n38' c39', readAt g32 (h10'.nx + 13) 0 3 = some [(.slice a33' n34' c35'), (.int .i64 x36'), (.slice a37' n38' c39')] ∧
  vreq (canW g32 g1.nx 0 [(.slice a33' n34' c35'), (.int .i64 x36'), (.slice a37' n38' c39')])
  (let g40 : Hp := g32.wr g1.nx 0 [(.slice a33' n34' c35'), (.int .i64 x36'), (.slice a37' n38' c39')]
  ∃ a41' n42' c43', ∃ x44', ∃ a45' n46' c47', readAt g40 g1.nx 0 3 = some [(.slice a41' n42' c43'), (.int .i64 x44'), (.slice a45' n46' c47')] ∧
  Q (.tuple #[(.agg #[(.slice a41' n42' c43'), (.int .i64 x44'), (.slice a45' n46' c47')]), (.slice a4' n5' c6'), (.slice a7' n8' c9'), (.slice a25' n26' c27')]) g40))))
theorem rk43 {O Q} (v0) {h : Hp} (hO : O 43 [(.agg v0)] h = none) (hh : T43 O Q v0 h) : Ret Tryz.prog O 43 [(.agg v0)] h Q :=
  .of (c := b43) Tryz.func43 (by kernel_rfl) hO (V_ok (tb := lv43) (cuts := []) 500 (Eq.mp (by kernel_rfl) hh))
/-! sward/swardlaw15.upTo -/
noncomputable def b51 : Code := (Tryz.f51.body).getD .skip
noncomputable def stk51_0 : List KI := [.code (sub [1, 1, 0, 1, 0] b51), .blk 0, .code (sub [1, 1, 1] b51)]
def lv51 : List (Nat × List Nat) := [(0, [2, 3, 5, 6])]
def I51_0 (O : CallF) (Q : Value → Hp → Prop) (x0 : Int) (a3 : Option Addr) (n3 : Nat) (c3 : Nat) (x6 : Int) (h : Hp) : Prop := RKL Tryz.prog O Tryz.f51 stk51_0 15 [2, 3, 5, 6] [(.slice none 0 0), (.slice a3 n3 c3), (.int .i64 x0), (.int .i64 x6)] h Q
def T51 (O : CallF) (Q : Value → Hp → Prop) (x0 : Int) (h : Hp) : Prop :=
  I51_0 O Q x0 none 0 0 0 h
theorem rk51 {O Q} (x0) {h : Hp} (hO : O 51 [(.int .i64 x0)] h = none) (hh : T51 O Q x0 h) : Ret Tryz.prog O 51 [(.int .i64 x0)] h Q :=
  .of (c := b51) Tryz.func51 (by kernel_rfl) hO (V_ok (tb := lv51) (cuts := []) 500 (Eq.mp (by kernel_rfl) hh))
def T51_0 (O : CallF) (Q : Value → Hp → Prop) (x0 : Int) (a3 : Option Addr) (n3 : Nat) (c3 : Nat) (x6 : Int) (h : Hp) : Prop :=
  vcond (ltI x6 x0)
  (let g101 : Hp := h.add (.cells [(.int .i64 x6)] 3 .fix)
  ∃ a102' n103' c104' h105', appendV Tryz.prog g101 22 22 (.slice a3 n3 c3) (.slice (some ⟨h.nx, 0, none⟩) 1 1) = some (.slice a102' n103' c104', h105') ∧
  I51_0 O Q x0 a102' n103' c104' (wrapF .i64 (x6 + 1)) h105')
  (Q (.slice a3 n3 c3) h)
theorem I51_0.of {O Q} (x0 a3 n3 c3 x6) {h : Hp} (hh : T51_0 O Q x0 a3 n3 c3 x6 h) : I51_0 O Q x0 a3 n3 c3 x6 h :=
  RKL.of (tb := lv51) (cuts := []) 500 fun _ => Eq.mp (by kernel_rfl) hh
/-! sward/swardlaw15.laid -/
noncomputable def b52 : Code := (Tryz.f52.body).getD .skip
noncomputable def stk52_0 : List KI := [.code (sub [1, 1, 1, 0, 1, 0] b52), .blk 0, .code (sub [1, 1, 1, 1] b52)]
noncomputable def stk52_1 : List KI := [.code (sub [1, 1, 1, 1, 1, 1, 0, 1, 0] b52), .blk 2, .code (sub [1, 1, 1, 1, 1, 1, 1] b52)]
noncomputable def stk52_2 : List KI := [.code (sub [1, 1, 1, 1, 1, 1, 0, 1, 0, 0, 1, 1, 0, 0, 1, 1, 1, 0] b52), .blk 4, .blk 3, .code (sub [1, 1, 1, 1, 1, 1, 0, 1, 0, 0, 1, 1, 1] b52), .code (sub [1, 1, 1, 1, 1, 1, 0, 1, 0] b52), .blk 2, .code (sub [1, 1, 1, 1, 1, 1, 1] b52)]
noncomputable def stk52_3 : List KI := [.code (sub [1, 1, 1, 1, 1, 1, 1, 0, 1, 0] b52), .blk 6, .code (sub [1, 1, 1, 1, 1, 1, 1, 1] b52)]
def lv52 : List (Nat × List Nat) := [(0, [0, 1, 2, 3, 8, 9, 10, 11, 26, 27, 28]), (2, [0, 2, 8, 9, 10, 11, 14, 56, 57, 58]), (4, [0, 2, 8, 9, 10, 11, 14, 16, 56, 57, 58, 86, 87, 88]), (6, [8, 9, 10, 11, 14, 108, 109, 110])]
def I52_0 (O : CallF) (Q : Value → Hp → Prop) (a0 : Option Addr) (n0 : Nat) (c0 : Nat) (a1 : Option Addr) (n1 : Nat) (c1 : Nat) (a2 : Option Addr) (n2 : Nat) (c2 : Nat) (x3 : Int) (b8 : Nat) (f8 : Nat) (b10 : Nat) (f10 : Nat) (b11 : Nat) (f11 : Nat) (x28 : Int) (h : Hp) : Prop := RKL Tryz.prog O Tryz.f52 stk52_0 125 [0, 1, 2, 3, 8, 9, 10, 11, 26, 27, 28] [(.slice a0 n0 c0), (.slice a1 n1 c1), (.slice a2 n2 c2), (.int .i64 x3), (.pointer (some ⟨b8, f8, none⟩)), (.slice none 0 0), (.pointer (some ⟨b10, f10, none⟩)), (.pointer (some ⟨b11, f11, none⟩)), (.slice a1 n1 c1), (.int .i64 (Int.ofNat n1)), (.int .i64 x28)] h Q
def I52_1 (O : CallF) (Q : Value → Hp → Prop) (a0 : Option Addr) (n0 : Nat) (c0 : Nat) (a1 : Option Addr) (n1 : Nat) (c1 : Nat) (a2 : Option Addr) (n2 : Nat) (c2 : Nat) (x3 : Int) (b8 : Nat) (f8 : Nat) (b10 : Nat) (f10 : Nat) (b11 : Nat) (f11 : Nat) (v14 : Value) (x58 : Int) (h : Hp) : Prop := RKL Tryz.prog O Tryz.f52 stk52_1 125 [0, 2, 8, 9, 10, 11, 14, 56, 57, 58] [(.slice a0 n0 c0), (.slice a2 n2 c2), (.pointer (some ⟨b8, f8, none⟩)), (.slice none 0 0), (.pointer (some ⟨b10, f10, none⟩)), (.pointer (some ⟨b11, f11, none⟩)), v14, (.slice a1 n1 c1), (.int .i64 (Int.ofNat n1)), (.int .i64 x58)] h Q
def I52_2 (O : CallF) (Q : Value → Hp → Prop) (a0 : Option Addr) (n0 : Nat) (c0 : Nat) (a1 : Option Addr) (n1 : Nat) (c1 : Nat) (a2 : Option Addr) (n2 : Nat) (c2 : Nat) (x3 : Int) (b8 : Nat) (f8 : Nat) (b10 : Nat) (f10 : Nat) (b11 : Nat) (f11 : Nat) (v14 : Value) (x16 : Int) (x58 : Int) (a86 : Option Addr) (n86 : Nat) (c86 : Nat) (x87 : Int) (x88 : Int) (h : Hp) : Prop := RKL Tryz.prog O Tryz.f52 stk52_2 125 [0, 2, 8, 9, 10, 11, 14, 16, 56, 57, 58, 86, 87, 88] [(.slice a0 n0 c0), (.slice a2 n2 c2), (.pointer (some ⟨b8, f8, none⟩)), (.slice none 0 0), (.pointer (some ⟨b10, f10, none⟩)), (.pointer (some ⟨b11, f11, none⟩)), v14, (.int .i64 x16), (.slice a1 n1 c1), (.int .i64 (Int.ofNat n1)), (.int .i64 x58), (.slice a86 n86 c86), (.int .i64 x87), (.int .i64 x88)] h Q
def I52_3 (O : CallF) (Q : Value → Hp → Prop) (a0 : Option Addr) (n0 : Nat) (c0 : Nat) (a1 : Option Addr) (n1 : Nat) (c1 : Nat) (a2 : Option Addr) (n2 : Nat) (c2 : Nat) (x3 : Int) (b8 : Nat) (f8 : Nat) (b10 : Nat) (f10 : Nat) (b11 : Nat) (f11 : Nat) (v14 : Value) (x110 : Int) (h : Hp) : Prop := RKL Tryz.prog O Tryz.f52 stk52_3 125 [8, 9, 10, 11, 14, 108, 109, 110] [(.pointer (some ⟨b8, f8, none⟩)), (.slice none 0 0), (.pointer (some ⟨b10, f10, none⟩)), (.pointer (some ⟨b11, f11, none⟩)), v14, (.slice a2 n2 c2), (.int .i64 (Int.ofNat n2)), (.int .i64 x110)] h Q
def T52 (O : CallF) (Q : Value → Hp → Prop) (a0 : Option Addr) (n0 : Nat) (c0 : Nat) (a1 : Option Addr) (n1 : Nat) (c1 : Nat) (a2 : Option Addr) (n2 : Nat) (c2 : Nat) (x3 : Int) (h : Hp) : Prop :=
  let g1 : Hp := h.add (.cells [(.slice none 0 0), (.int .i64 0), (.slice none 0 0)] 24 .fix)
  let g2 : Hp := g1.add (.cells [(.int .i64 (-1))] 3 .fix)
  ∃ a3' n4' c5', ∃ h6', EvC Tryz.prog O 111 [(.slice (some ⟨g1.nx, 0, none⟩) 1 1), (.int .i64 (Int.ofNat n0))] g2 (.slice a3' n4' c5') h6' ∧
  let g7 : Hp := h6'.add (.cells [(.slice none 0 0)] 22 .fix)
  vreq (canW g7 h6'.nx 0 [(.slice a3' n4' c5')])
  (let g8 : Hp := g7.wr h6'.nx 0 [(.slice a3' n4' c5')]
  let g9 : Hp := g8.add (.cells [(.slice none 0 0), (.int .i64 0), (.slice none 0 0)] 24 .fix)
  vreq (canW g9 g8.nx 0 [(.slice none 0 0), (.int .i64 1), (.slice none 0 0)])
  (let g10 : Hp := g9.wr g8.nx 0 [(.slice none 0 0), (.int .i64 1), (.slice none 0 0)]
  I52_0 O Q a0 n0 c0 a1 n1 c1 a2 n2 c2 x3 h.nx 0 h6'.nx 0 g8.nx 0 0 g10))
theorem rk52 {O Q} (a0 n0 c0 a1 n1 c1 a2 n2 c2 x3) {h : Hp} (hO : O 52 [(.slice a0 n0 c0), (.slice a1 n1 c1), (.slice a2 n2 c2), (.int .i64 x3)] h = none) (hh : T52 O Q a0 n0 c0 a1 n1 c1 a2 n2 c2 x3 h) : Ret Tryz.prog O 52 [(.slice a0 n0 c0), (.slice a1 n1 c1), (.slice a2 n2 c2), (.int .i64 x3)] h Q :=
  .of (c := b52) Tryz.func52 (by kernel_rfl) hO (V_ok (tb := lv52) (cuts := []) 500 (Eq.mp (by kernel_rfl) hh))
def T52_0 (O : CallF) (Q : Value → Hp → Prop) (a0 : Option Addr) (n0 : Nat) (c0 : Nat) (a1 : Option Addr) (n1 : Nat) (c1 : Nat) (a2 : Option Addr) (n2 : Nat) (c2 : Nat) (x3 : Int) (b8 : Nat) (f8 : Nat) (b10 : Nat) (f10 : Nat) (b11 : Nat) (f11 : Nat) (x28 : Int) (h : Hp) : Prop :=
  vcond (ltI x28 (Int.ofNat n1))
  (isNat x28 fun n101' =>
  isAddr a1 fun b102' f103' =>
  vreq (Nat.blt n101' n1)
  (∃ x104', readAt h b102' (f103' + (n101' * 1)) 1 = some [(.int .i64 x104')] ∧
  ∃ a105' n106' c107', readAt h b10 f10 1 = some [(.slice a105' n106' c107')] ∧
  ∃ x108', readAt h b11 (f11 + 1) 1 = some [(.int .i64 x108')] ∧
  isNat x104' fun n109' =>
  isAddr a105' fun b110' f111' =>
  vreq (Nat.blt n109' n106')
  (vreq (canW h b110' (f111' + (n109' * 1)) [(.int .i64 x108')])
  (let g112 : Hp := h.wr b110' (f111' + (n109' * 1)) [(.int .i64 x108')]
  let g113 : Hp := g112.rsv 12
  ∃ x114', readAt g113 b11 (f11 + 1) 1 = some [(.int .i64 x114')] ∧
  isNat x104' fun n115' =>
  isAddr a0 fun b116' f117' =>
  vreq (Nat.blt n115' n0)
  (∃ a118' n119' c120', readAt g113 b116' ((f117' + (n115' * 2)) + 1) 1 = some [(.slice a118' n119' c120')] ∧
  vreq (canW (g113.grd []) b11 (f11 + 1) [(.int .i64 (wrapF .i64 (x114' + (wrapF .i64 (1 + (Int.ofNat n119'))))))])
  (let g121 : Hp := (g113.grd []).wr b11 (f11 + 1) [(.int .i64 (wrapF .i64 (x114' + (wrapF .i64 (1 + (Int.ofNat n119'))))))]
  let g122 : Hp := g121.rst g113
  I52_0 O Q a0 n0 c0 a1 n1 c1 a2 n2 c2 x3 b8 f8 b10 f10 b11 f11 (wrapF .i64 (x28 + 1)) g122))))))
  (∃ x123', readAt h b11 (f11 + 1) 1 = some [(.int .i64 x123')] ∧
  isNat (wrapF .i64 (x123' + x3)) fun n124' =>
  isNat (wrapF .i64 (x123' + x3)) fun n125' =>
  vreq (Nat.ble n124' n125')
  (vreq (Nat.ble (n125' * 8) 281474976710656)
  (vreq (Nat.blt n125' big)
  (let g126 : Hp := h.add (.cells (List.flatten (List.replicate n125' [(.int .i64 0)])) 3 .fix)
  vreq (canW g126 b11 (f11 + 0) [(.slice (some ⟨h.nx, 0, none⟩) n124' n125')])
  (let g127 : Hp := g126.wr b11 (f11 + 0) [(.slice (some ⟨h.nx, 0, none⟩) n124' n125')]
  I52_1 O Q a0 n0 c0 a1 n1 c1 a2 n2 c2 x3 b8 f8 b10 f10 b11 f11 (.func (.func 112) #[] #[(.pointer (some ⟨b10, f10, none⟩))]) 0 g127)))))
theorem I52_0.of {O Q} (a0 n0 c0 a1 n1 c1 a2 n2 c2 x3 b8 f8 b10 f10 b11 f11 x28) {h : Hp} (hh : T52_0 O Q a0 n0 c0 a1 n1 c1 a2 n2 c2 x3 b8 f8 b10 f10 b11 f11 x28 h) : I52_0 O Q a0 n0 c0 a1 n1 c1 a2 n2 c2 x3 b8 f8 b10 f10 b11 f11 x28 h :=
  RKL.of (tb := lv52) (cuts := []) 500 fun _ => Eq.mp (by kernel_rfl) hh
def T52_1 (O : CallF) (Q : Value → Hp → Prop) (a0 : Option Addr) (n0 : Nat) (c0 : Nat) (a1 : Option Addr) (n1 : Nat) (c1 : Nat) (a2 : Option Addr) (n2 : Nat) (c2 : Nat) (x3 : Int) (b8 : Nat) (f8 : Nat) (b10 : Nat) (f10 : Nat) (b11 : Nat) (f11 : Nat) (v14 : Value) (x58 : Int) (h : Hp) : Prop :=
  vcond (ltI x58 (Int.ofNat n1))
  (isNat x58 fun n201' =>
  isAddr a1 fun b202' f203' =>
  vreq (Nat.blt n201' n1)
  (∃ x204', readAt h b202' (f203' + (n201' * 1)) 1 = some [(.int .i64 x204')] ∧
  let g205 : Hp := h.rsv 21
  ∃ a206' n207' c208', readAt g205 b11 (f11 + 0) 1 = some [(.slice a206' n207' c208')] ∧
  ∃ a209' n210' c211', readAt g205 b10 f10 1 = some [(.slice a209' n210' c211')] ∧
  isNat x204' fun n212' =>
  isAddr a209' fun b213' f214' =>
  vreq (Nat.blt n212' n210')
  (∃ x215', readAt g205 b213' (f214' + (n212' * 1)) 1 = some [(.int .i64 x215')] ∧
  isNat x204' fun n216' =>
  isAddr a0 fun b217' f218' =>
  vreq (Nat.blt n216' n0)
  (∃ a219' n220' c221', readAt g205 b217' ((f218' + (n216' * 2)) + 1) 1 = some [(.slice a219' n220' c221')] ∧
  isNat x204' fun n222' =>
  isAddr a0 fun b223' f224' =>
  vreq (Nat.blt n222' n0)
  (∃ x225', readAt g205 b223' ((f224' + (n222' * 2)) + 0) 1 = some [(.int .i64 x225')] ∧
  isNat x215' fun n226' =>
  isAddr a206' fun b227' f228' =>
  vreq (Nat.blt n226' n207')
  (vreq (canW (g205.grd []) b227' (f228' + (n226' * 1)) [(.int .i64 (wrapF .i64 ((wrapF .i64 (8 * (Int.ofNat n220'))) + x225')))])
  (let g229 : Hp := (g205.grd []).wr b227' (f228' + (n226' * 1)) [(.int .i64 (wrapF .i64 ((wrapF .i64 (8 * (Int.ofNat n220'))) + x225')))]
  let g230 : Hp := g229.rst g205
  isNat x204' fun n231' =>
  isAddr a0 fun b232' f233' =>
  vreq (Nat.blt n231' n0)
  (∃ a234' n235' c236', readAt g230 b232' ((f233' + (n231' * 2)) + 1) 1 = some [(.slice a234' n235' c236')] ∧
  I52_2 O Q a0 n0 c0 a1 n1 c1 a2 n2 c2 x3 b8 f8 b10 f10 b11 f11 v14 x204' x58 a234' n235' c236' (Int.ofNat n235') 0 g230))))))))
  (I52_3 O Q a0 n0 c0 a1 n1 c1 a2 n2 c2 x3 b8 f8 b10 f10 b11 f11 v14 0 h)
theorem I52_1.of {O Q} (a0 n0 c0 a1 n1 c1 a2 n2 c2 x3 b8 f8 b10 f10 b11 f11 v14 x58) {h : Hp} (hh : T52_1 O Q a0 n0 c0 a1 n1 c1 a2 n2 c2 x3 b8 f8 b10 f10 b11 f11 v14 x58 h) : I52_1 O Q a0 n0 c0 a1 n1 c1 a2 n2 c2 x3 b8 f8 b10 f10 b11 f11 v14 x58 h :=
  RKL.of (tb := lv52) (cuts := []) 500 fun _ => Eq.mp (by kernel_rfl) hh
def T52_2 (O : CallF) (Q : Value → Hp → Prop) (a0 : Option Addr) (n0 : Nat) (c0 : Nat) (a1 : Option Addr) (n1 : Nat) (c1 : Nat) (a2 : Option Addr) (n2 : Nat) (c2 : Nat) (x3 : Int) (b8 : Nat) (f8 : Nat) (b10 : Nat) (f10 : Nat) (b11 : Nat) (f11 : Nat) (v14 : Value) (x16 : Int) (x58 : Int) (a86 : Option Addr) (n86 : Nat) (c86 : Nat) (x87 : Int) (x88 : Int) (h : Hp) : Prop :=
  vcond (ltI x88 x87)
  (isNat x88 fun n301' =>
  isAddr a86 fun b302' f303' =>
  vreq (Nat.blt n301' n86)
  (∃ x304', ∃ q305', readAt h b302' (f303' + (n301' * 2)) 2 = some [(.int .i64 x304'), (.bool q305')] ∧
  let g306 : Hp := h.add (.cells [(.int .i64 0), (.bool false)] 76 .fix)
  vreq (canW g306 h.nx 0 [(.int .i64 x304'), (.bool q305')])
  (let g307 : Hp := g306.wr h.nx 0 [(.int .i64 x304'), (.bool q305')]
  let g308 : Hp := g307.rsv 14
  ∃ a309' n310' c311', readAt g308 b11 (f11 + 0) 1 = some [(.slice a309' n310' c311')] ∧
  ∃ a312' n313' c314', readAt g308 b10 f10 1 = some [(.slice a312' n313' c314')] ∧
  isNat x16 fun n315' =>
  isAddr a312' fun b316' f317' =>
  vreq (Nat.blt n315' n313')
  (∃ x318', readAt g308 b316' (f317' + (n315' * 1)) 1 = some [(.int .i64 x318')] ∧
  ∃ x319', ∃ q320', readAt g308 h.nx 0 2 = some [(.int .i64 x319'), (.bool q320')] ∧
  isFn v14 fun g321' r322' r323' =>
  ∃ x324', ∃ h325', EvC Tryz.prog O g321' (r322' ++ [(.agg #[(.int .i64 x319'), (.bool q320')])] ++ r323') (g308.grd [b316', b10, b11]) (.int .i64 x324') h325' ∧
  let g326 : Hp := h325'.rst g308
  isNat (wrapF .i64 ((wrapF .i64 (x318' + 1)) + x88)) fun n327' =>
  isAddr a309' fun b328' f329' =>
  vreq (Nat.blt n327' n310')
  (vreq (canW (g326.grd []) b328' (f329' + (n327' * 1)) [(.int .i64 x324')])
  (let g330 : Hp := (g326.grd []).wr b328' (f329' + (n327' * 1)) [(.int .i64 x324')]
  let g331 : Hp := g330.rst g326
  I52_2 O Q a0 n0 c0 a1 n1 c1 a2 n2 c2 x3 b8 f8 b10 f10 b11 f11 v14 x16 x58 a86 n86 c86 x87 (wrapF .i64 (x88 + 1)) g331))))))
  (I52_1 O Q a0 n0 c0 a1 n1 c1 a2 n2 c2 x3 b8 f8 b10 f10 b11 f11 v14 (wrapF .i64 (x58 + 1)) h)
theorem I52_2.of {O Q} (a0 n0 c0 a1 n1 c1 a2 n2 c2 x3 b8 f8 b10 f10 b11 f11 v14 x16 x58 a86 n86 c86 x87 x88) {h : Hp} (hh : T52_2 O Q a0 n0 c0 a1 n1 c1 a2 n2 c2 x3 b8 f8 b10 f10 b11 f11 v14 x16 x58 a86 n86 c86 x87 x88 h) : I52_2 O Q a0 n0 c0 a1 n1 c1 a2 n2 c2 x3 b8 f8 b10 f10 b11 f11 v14 x16 x58 a86 n86 c86 x87 x88 h :=
  RKL.of (tb := lv52) (cuts := []) 500 fun _ => Eq.mp (by kernel_rfl) hh
def T52_3 (O : CallF) (Q : Value → Hp → Prop) (a0 : Option Addr) (n0 : Nat) (c0 : Nat) (a1 : Option Addr) (n1 : Nat) (c1 : Nat) (a2 : Option Addr) (n2 : Nat) (c2 : Nat) (x3 : Int) (b8 : Nat) (f8 : Nat) (b10 : Nat) (f10 : Nat) (b11 : Nat) (f11 : Nat) (v14 : Value) (x110 : Int) (h : Hp) : Prop :=
  vcond (ltI x110 (Int.ofNat n2))
  (isNat x110 fun n401' =>
  isAddr a2 fun b402' f403' =>
  vreq (Nat.blt n401' n2)
  (∃ x404', ∃ q405', readAt h b402' (f403' + (n401' * 2)) 2 = some [(.int .i64 x404'), (.bool q405')] ∧
  let g406 : Hp := h.add (.cells [(.int .i64 0), (.bool false)] 76 .fix)
  vreq (canW g406 h.nx 0 [(.int .i64 x404'), (.bool q405')])
  (let g407 : Hp := g406.wr h.nx 0 [(.int .i64 x404'), (.bool q405')]
  let g408 : Hp := g407.rsv 9
  ∃ a409' n410' c411', readAt g408 b11 (f11 + 2) 1 = some [(.slice a409' n410' c411')] ∧
  ∃ x412', ∃ q413', readAt g408 h.nx 0 2 = some [(.int .i64 x412'), (.bool q413')] ∧
  isFn v14 fun g414' r415' r416' =>
  ∃ x417', ∃ h418', EvC Tryz.prog O g414' (r415' ++ [(.agg #[(.int .i64 x412'), (.bool q413')])] ++ r416') (g408.grd [b11]) (.int .i64 x417') h418' ∧
  let g419 : Hp := h418'.rst g408
  vreq (g419.free (g407.nx + 5))
  (let g420 : Hp := g419.lay (g407.nx + 5) (.cells [(.int .i64 x417')] 3 .fix)
  ∃ a421' n422' c423' h424', appendV Tryz.prog (g420.grd []) 22 22 (.slice a409' n410' c411') (.slice (some ⟨(g407.nx + 5), 0, none⟩) 1 1) = some (.slice a421' n422' c423', h424') ∧
  let g425 : Hp := h424'.rst g420
  vreq (canW (g425.grd []) b11 (f11 + 2) [(.slice a421' n422' c423')])
  (let g426 : Hp := (g425.grd []).wr b11 (f11 + 2) [(.slice a421' n422' c423')]
  let g427 : Hp := g426.rst g425
  I52_3 O Q a0 n0 c0 a1 n1 c1 a2 n2 c2 x3 b8 f8 b10 f10 b11 f11 v14 (wrapF .i64 (x110 + 1)) g427)))))
  (let g428 : Hp := h.rsv 4
  ∃ a429' n430' c431', ∃ x432', ∃ a433' n434' c435', readAt g428 b11 f11 3 = some [(.slice a429' n430' c431'), (.int .i64 x432'), (.slice a433' n434' c435')] ∧
  ∃ a436' n437' c438', readAt g428 b10 f10 1 = some [(.slice a436' n437' c438')] ∧
  vreq (canW (g428.grd [b10]) b8 f8 [(.slice a429' n430' c431'), (.int .i64 x432'), (.slice a433' n434' c435')])
  (let g439 : Hp := (g428.grd [b10]).wr b8 f8 [(.slice a429' n430' c431'), (.int .i64 x432'), (.slice a433' n434' c435')]
  let g440 : Hp := g439.rst g428
  ∃ a441' n442' c443', ∃ x444', ∃ a445' n446' c447', readAt g440 b8 f8 3 = some [(.slice a441' n442' c443'), (.int .i64 x444'), (.slice a445' n446' c447')] ∧
  Q (.tuple #[(.agg #[(.slice a441' n442' c443'), (.int .i64 x444'), (.slice a445' n446' c447')]), (.slice a436' n437' c438')]) g440))
theorem I52_3.of {O Q} (a0 n0 c0 a1 n1 c1 a2 n2 c2 x3 b8 f8 b10 f10 b11 f11 v14 x110) {h : Hp} (hh : T52_3 O Q a0 n0 c0 a1 n1 c1 a2 n2 c2 x3 b8 f8 b10 f10 b11 f11 v14 x110 h) : I52_3 O Q a0 n0 c0 a1 n1 c1 a2 n2 c2 x3 b8 f8 b10 f10 b11 f11 v14 x110 h :=
  RKL.of (tb := lv52) (cuts := []) 500 fun _ => Eq.mp (by kernel_rfl) hh
/-! (sward/swardlaw15.Pile).drawn -/
noncomputable def b106 : Code := (Tryz.f106.body).getD .skip
noncomputable def stk106_0 : List KI := [.code (sub [1, 1, 1, 1, 0, 1, 0] b106), .blk 0, .code (sub [1, 1, 1, 1, 1] b106)]
noncomputable def stk106_1 : List KI := [.code (sub [1, 1, 1, 1, 0, 1, 0, 0, 1, 1, 0, 0, 1, 1, 1, 1, 0, 1, 0] b106), .blk 2, .code (sub [1, 1, 1, 1, 0, 1, 0, 0, 1, 1, 0, 0, 1, 1, 1, 1, 1] b106), .blk 1, .code (sub [1, 1, 1, 1, 0, 1, 0, 0, 1, 1, 1] b106), .code (sub [1, 1, 1, 1, 0, 1, 0] b106), .blk 0, .code (sub [1, 1, 1, 1, 1] b106)]
noncomputable def stk106_2 : List KI := [.code (sub [1, 1, 1, 1, 1, 1, 0, 1, 0] b106), .blk 5, .code (sub [1, 1, 1, 1, 1, 1, 1] b106)]
def lv106 : List (Nat × List Nat) := [(0, [1, 2, 3, 5, 6, 20, 21]), (2, [1, 2, 3, 5, 6, 8, 20, 21, 46, 47, 48]), (5, [2, 3, 5, 6, 12, 97, 98, 99])]
def I106_0 (O : CallF) (Q : Value → Hp → Prop) (v0 : Array Value) (b1 : Nat) (f1 : Nat) (v5 : Value) (a6 : Option Addr) (n6 : Nat) (c6 : Nat) (x20 : Int) (x21 : Int) (h : Hp) : Prop := RKL Tryz.prog O Tryz.f106 stk106_0 112 [1, 2, 3, 5, 6, 20, 21] [(.pointer (some ⟨b1, f1, none⟩)), (.slice none 0 0), (.slice none 0 0), v5, (.slice a6 n6 c6), (.int .i64 x20), (.int .i64 x21)] h Q
def I106_1 (O : CallF) (Q : Value → Hp → Prop) (v0 : Array Value) (b1 : Nat) (f1 : Nat) (v5 : Value) (a6 : Option Addr) (n6 : Nat) (c6 : Nat) (b8 : Nat) (f8 : Nat) (x20 : Int) (x21 : Int) (a46 : Option Addr) (n46 : Nat) (c46 : Nat) (x47 : Int) (x48 : Int) (h : Hp) : Prop := RKL Tryz.prog O Tryz.f106 stk106_1 112 [1, 2, 3, 5, 6, 8, 20, 21, 46, 47, 48] [(.pointer (some ⟨b1, f1, none⟩)), (.slice none 0 0), (.slice none 0 0), v5, (.slice a6 n6 c6), (.pointer (some ⟨b8, f8, none⟩)), (.int .i64 x20), (.int .i64 x21), (.slice a46 n46 c46), (.int .i64 x47), (.int .i64 x48)] h Q
def I106_2 (O : CallF) (Q : Value → Hp → Prop) (v0 : Array Value) (v5 : Value) (a6 : Option Addr) (n6 : Nat) (c6 : Nat) (a12 : Option Addr) (n12 : Nat) (c12 : Nat) (a97 : Option Addr) (n97 : Nat) (c97 : Nat) (x98 : Int) (x99 : Int) (h : Hp) : Prop := RKL Tryz.prog O Tryz.f106 stk106_2 112 [2, 3, 5, 6, 12, 97, 98, 99] [(.slice none 0 0), (.slice none 0 0), v5, (.slice a6 n6 c6), (.slice a12 n12 c12), (.slice a97 n97 c97), (.int .i64 x98), (.int .i64 x99)] h Q
def T106 (O : CallF) (Q : Value → Hp → Prop) (v0 : Array Value) (h : Hp) : Prop :=
  vreq (v0.toList.all one)
  (let g1 : Hp := h.add (.cells v0.toList 62 .fix)
  ∃ x2', readAt g1 h.nx 0 1 = some [(.int .u8 x2')] ∧
  let g3 : Hp := g1.add (.cells [(.int .i64 0)] 3 .fix)
  vreq (canW g3 g1.nx 0 [(.int .i64 (Int.tmod (wrapF .i64 x2') 10))])
  (let g4 : Hp := g3.wr g1.nx 0 [(.int .i64 (Int.tmod (wrapF .i64 x2') 10))]
  ∃ x5', readAt g4 g1.nx 0 1 = some [(.int .i64 x5')] ∧
  I106_0 O Q v0 h.nx 0 (.func (.func 139) #[] #[(.pointer (some ⟨g1.nx, 0, none⟩))]) none 0 0 x5' 0 g4))
theorem rk106 {O Q} (v0) {h : Hp} (hO : O 106 [(.agg v0)] h = none) (hh : T106 O Q v0 h) : Ret Tryz.prog O 106 [(.agg v0)] h Q :=
  .of (c := b106) Tryz.func106 (by kernel_rfl) hO (V_ok (tb := lv106) (cuts := []) 500 (Eq.mp (by kernel_rfl) hh))
def T106_0 (O : CallF) (Q : Value → Hp → Prop) (v0 : Array Value) (b1 : Nat) (f1 : Nat) (v5 : Value) (a6 : Option Addr) (n6 : Nat) (c6 : Nat) (x20 : Int) (x21 : Int) (h : Hp) : Prop :=
  vcond (ltI x21 x20)
  (isNat x21 fun n101' =>
  vreq (Nat.blt n101' 9)
  (∃ x102', readAt h b1 ((f1 + 2) + (n101' * 1)) 1 = some [(.int .u8 x102')] ∧
  let g103 : Hp := h.add (.cells [(.int .i64 0), (.slice none 0 0)] 72 .fix)
  vreq (canW g103 h.nx 0 [(.int .i64 (wrapF .i64 (1 + (Int.tmod (wrapF .i64 x102') 5)))), (.slice none 0 0)])
  (let g104 : Hp := g103.wr h.nx 0 [(.int .i64 (wrapF .i64 (1 + (Int.tmod (wrapF .i64 x102') 5)))), (.slice none 0 0)]
  isNat x21 fun n105' =>
  vreq (Nat.blt n105' 9)
  (∃ x106', readAt g104 b1 ((f1 + 2) + (n105' * 1)) 1 = some [(.int .u8 x106')] ∧
  ∃ x107', readAt g104 h.nx 0 1 = some [(.int .i64 x107')] ∧
  vcond (eqI x107' 4)
  (isNat x21 fun n108' =>
  vreq (Nat.blt n108' 9)
  (∃ a109' n110' c111', sliceV Tryz.prog g104 59 (.pointer (some ⟨b1, ((f1 + 11) + (n108' * 4)), none⟩)) none (some (.int .i64 1)) none = some (.slice a109' n110' c111') ∧
  I106_1 O Q v0 b1 f1 v5 a6 n6 c6 h.nx 0 x20 x21 a109' n110' c111' (Int.ofNat n110') 0 g104))
  (isNat x21 fun n112' =>
  vreq (Nat.blt n112' 9)
  (∃ a113' n114' c115', sliceV Tryz.prog g104 59 (.pointer (some ⟨b1, ((f1 + 11) + (n112' * 4)), none⟩)) none (some (.int .i64 (Int.tmod (wrapF .i64 (Int.tdiv (wrapF .i64 x106') 8)) 5))) none = some (.slice a113' n114' c115') ∧
  I106_1 O Q v0 b1 f1 v5 a6 n6 c6 h.nx 0 x20 x21 a113' n114' c115' (Int.ofNat n114') 0 g104))))))
  (∃ x116', readAt h b1 (f1 + 0) 1 = some [(.int .u8 x116')] ∧
  ∃ a117' n118' c119', sliceV Tryz.prog h 59 (.pointer (some ⟨b1, (f1 + 47), none⟩)) none (some (.int .i64 (Int.tmod (wrapF .i64 (Int.tdiv (wrapF .i64 x116') 16)) 5))) none = some (.slice a117' n118' c119') ∧
  I106_2 O Q v0 v5 a6 n6 c6 none 0 0 a117' n118' c119' (Int.ofNat n118') 0 h)
theorem I106_0.of {O Q} (v0 b1 f1 v5 a6 n6 c6 x20 x21) {h : Hp} (hh : T106_0 O Q v0 b1 f1 v5 a6 n6 c6 x20 x21 h) : I106_0 O Q v0 b1 f1 v5 a6 n6 c6 x20 x21 h :=
  RKL.of (tb := lv106) (cuts := []) 500 fun _ => Eq.mp (by kernel_rfl) hh
def T106_1 (O : CallF) (Q : Value → Hp → Prop) (v0 : Array Value) (b1 : Nat) (f1 : Nat) (v5 : Value) (a6 : Option Addr) (n6 : Nat) (c6 : Nat) (b8 : Nat) (f8 : Nat) (x20 : Int) (x21 : Int) (a46 : Option Addr) (n46 : Nat) (c46 : Nat) (x47 : Int) (x48 : Int) (h : Hp) : Prop :=
  vcond (ltI x48 x47)
  (isNat x48 fun n201' =>
  isAddr a46 fun b202' f203' =>
  vreq (Nat.blt n201' n46)
  (∃ x204', readAt h b202' (f203' + (n201' * 1)) 1 = some [(.int .u8 x204')] ∧
  ∃ x205', readAt h b8 (f8 + 0) 1 = some [(.int .i64 x205')] ∧
  vcond (eqI x205' 3)
  (∃ a206' n207' c208', readAt h b8 (f8 + 1) 1 = some [(.slice a206' n207' c208')] ∧
  let g209 : Hp := h.add (.cells [(.int .i64 (wrapF .i64 (97 + (Int.tmod (wrapF .i64 x204') 26)))), (.bool false)] 76 .fix)
  ∃ a210' n211' c212' h213', appendV Tryz.prog g209 64 64 (.slice a206' n207' c208') (.slice (some ⟨h.nx, 0, none⟩) 1 1) = some (.slice a210' n211' c212', h213') ∧
  vreq (canW h213' b8 (f8 + 1) [(.slice a210' n211' c212')])
  (let g214 : Hp := h213'.wr b8 (f8 + 1) [(.slice a210' n211' c212')]
  I106_1 O Q v0 b1 f1 v5 a6 n6 c6 b8 f8 x20 x21 a46 n46 c46 x47 (wrapF .i64 (x48 + 1)) g214))
  (vcond (eqI x205' 4)
  (∃ a215' n216' c217', readAt h b8 (f8 + 1) 1 = some [(.slice a215' n216' c217')] ∧
  let g218 : Hp := h.add (.cells [(.int .i64 (Int.tmod (wrapF .i64 x204') 2)), (.bool false)] 76 .fix)
  ∃ a219' n220' c221' h222', appendV Tryz.prog g218 64 64 (.slice a215' n216' c217') (.slice (some ⟨h.nx, 0, none⟩) 1 1) = some (.slice a219' n220' c221', h222') ∧
  vreq (canW h222' b8 (f8 + 1) [(.slice a219' n220' c221')])
  (let g223 : Hp := h222'.wr b8 (f8 + 1) [(.slice a219' n220' c221')]
  I106_1 O Q v0 b1 f1 v5 a6 n6 c6 b8 f8 x20 x21 a46 n46 c46 x47 (wrapF .i64 (x48 + 1)) g223))
  (let g224 : Hp := h.rsv 9
  ∃ a225' n226' c227', readAt g224 b8 (f8 + 1) 1 = some [(.slice a225' n226' c227')] ∧
  isFn v5 fun g228' r229' r230' =>
  ∃ x231', ∃ q232', ∃ h233', EvC Tryz.prog O g228' (r229' ++ [(.int .u8 x204')] ++ r230') (g224.grd [b8]) (.agg #[(.int .i64 x231'), (.bool q232')]) h233' ∧
  let g234 : Hp := h233'.rst g224
  vreq (g234.free (h.nx + 5))
  (let g235 : Hp := g234.lay (h.nx + 5) (.cells [(.int .i64 x231'), (.bool q232')] 76 .fix)
  ∃ a236' n237' c238' h239', appendV Tryz.prog (g235.grd []) 64 64 (.slice a225' n226' c227') (.slice (some ⟨(h.nx + 5), 0, none⟩) 1 1) = some (.slice a236' n237' c238', h239') ∧
  let g240 : Hp := h239'.rst g235
  vreq (canW (g240.grd []) b8 (f8 + 1) [(.slice a236' n237' c238')])
  (let g241 : Hp := (g240.grd []).wr b8 (f8 + 1) [(.slice a236' n237' c238')]
  let g242 : Hp := g241.rst g240
  I106_1 O Q v0 b1 f1 v5 a6 n6 c6 b8 f8 x20 x21 a46 n46 c46 x47 (wrapF .i64 (x48 + 1)) g242))))))
  (∃ x243', ∃ a244' n245' c246', readAt h b8 f8 2 = some [(.int .i64 x243'), (.slice a244' n245' c246')] ∧
  let g247 : Hp := h.add (.cells [(.int .i64 x243'), (.slice a244' n245' c246')] 72 .fix)
  ∃ a248' n249' c250' h251', appendV Tryz.prog g247 63 63 (.slice a6 n6 c6) (.slice (some ⟨h.nx, 0, none⟩) 1 1) = some (.slice a248' n249' c250', h251') ∧
  I106_0 O Q v0 b1 f1 v5 a248' n249' c250' x20 (wrapF .i64 (x21 + 1)) h251')
theorem I106_1.of {O Q} (v0 b1 f1 v5 a6 n6 c6 b8 f8 x20 x21 a46 n46 c46 x47 x48) {h : Hp} (hh : T106_1 O Q v0 b1 f1 v5 a6 n6 c6 b8 f8 x20 x21 a46 n46 c46 x47 x48 h) : I106_1 O Q v0 b1 f1 v5 a6 n6 c6 b8 f8 x20 x21 a46 n46 c46 x47 x48 h :=
  RKL.of (tb := lv106) (cuts := []) 500 fun _ => Eq.mp (by kernel_rfl) hh
def T106_2 (O : CallF) (Q : Value → Hp → Prop) (v0 : Array Value) (v5 : Value) (a6 : Option Addr) (n6 : Nat) (c6 : Nat) (a12 : Option Addr) (n12 : Nat) (c12 : Nat) (a97 : Option Addr) (n97 : Nat) (c97 : Nat) (x98 : Int) (x99 : Int) (h : Hp) : Prop :=
  vcond (ltI x99 x98)
  (isNat x99 fun n301' =>
  isAddr a97 fun b302' f303' =>
  vreq (Nat.blt n301' n97)
  (∃ x304', readAt h b302' (f303' + (n301' * 1)) 1 = some [(.int .u8 x304')] ∧
  isFn v5 fun g305' r306' r307' =>
  ∃ x308', ∃ q309', ∃ h310', EvC Tryz.prog O g305' (r306' ++ [(.int .u8 x304')] ++ r307') h (.agg #[(.int .i64 x308'), (.bool q309')]) h310' ∧
  let g311 : Hp := h310'.add (.cells [(.int .i64 x308'), (.bool q309')] 76 .fix)
  ∃ a312' n313' c314' h315', appendV Tryz.prog g311 64 64 (.slice a12 n12 c12) (.slice (some ⟨h310'.nx, 0, none⟩) 1 1) = some (.slice a312' n313' c314', h315') ∧
  I106_2 O Q v0 v5 a6 n6 c6 a312' n313' c314' a97 n97 c97 x98 (wrapF .i64 (x99 + 1)) h315'))
  (Q (.tuple #[(.slice a6 n6 c6), (.slice a12 n12 c12)]) h)
theorem I106_2.of {O Q} (v0 v5 a6 n6 c6 a12 n12 c12 a97 n97 c97 x98 x99) {h : Hp} (hh : T106_2 O Q v0 v5 a6 n6 c6 a12 n12 c12 a97 n97 c97 x98 x99 h) : I106_2 O Q v0 v5 a6 n6 c6 a12 n12 c12 a97 n97 c97 x98 x99 h :=
  RKL.of (tb := lv106) (cuts := []) 500 fun _ => Eq.mp (by kernel_rfl) hh
/-! slices.Repeat[[]int,int] -/
noncomputable def b111 : Code := (Tryz.f111.body).getD .skip
noncomputable def stk111_0 : List KI := [.code (sub [1, 1, 1, 1, 1, 1, 0, 0] b111), .blk 0, .code (sub [1, 1, 1, 1, 1, 1, 1] b111)]
def lv111 : List (Nat × List Nat) := [(0, [4, 7, 8])]
def I111_0 (O : CallF) (Q : Value → Hp → Prop) (a0 : Option Addr) (n0 : Nat) (c0 : Nat) (x1 : Int) (a7 : Option Addr) (n7 : Nat) (c7 : Nat) (x8 : Int) (h : Hp) : Prop := RKL Tryz.prog O Tryz.f111 stk111_0 48 [4, 7, 8] [(.slice none 0 0), (.slice a7 n7 c7), (.int .i64 x8)] h Q
def T111 (O : CallF) (Q : Value → Hp → Prop) (a0 : Option Addr) (n0 : Nat) (c0 : Nat) (x1 : Int) (h : Hp) : Prop :=
  vcond (ltI x1 0)
  (False)
  (∃ x1', ∃ x2', ∃ h3', EvC Tryz.prog O 143 [(.int .u64 (wrapF .u64 (Int.ofNat n0))), (.int .u64 (wrapF .u64 x1))] h (.tuple #[(.int .u64 x1'), (.int .u64 x2')]) h3' ∧
  vcond (ltI 0 x1')
  (False)
  (vcond (ltI 9223372036854775807 x2')
  (False)
  (isNat (wrapF .i64 x2') fun n4' =>
  isNat (wrapF .i64 x2') fun n5' =>
  vreq (Nat.ble n4' n5')
  (vreq (Nat.ble (n5' * 8) 281474976710656)
  (vreq (Nat.blt n5' big)
  (let g6 : Hp := h3'.add (.cells (List.flatten (List.replicate n5' [(.int .i64 0)])) 3 .fix)
  ∃ x7' h8', copyV Tryz.prog g6 22 (.slice (some ⟨h3'.nx, 0, none⟩) n4' n5') (.slice a0 n0 c0) = some (.int .i64 x7', h8') ∧
  I111_0 O Q a0 n0 c0 x1 (some ⟨h3'.nx, 0, none⟩) n4' n5' x7' h8'))))))
theorem rk111 {O Q} (a0 n0 c0 x1) {h : Hp} (hO : O 111 [(.slice a0 n0 c0), (.int .i64 x1)] h = none) (hh : T111 O Q a0 n0 c0 x1 h) : Ret Tryz.prog O 111 [(.slice a0 n0 c0), (.int .i64 x1)] h Q :=
  .of (c := b111) Tryz.func111 (by kernel_rfl) hO (V_ok (tb := lv111) (cuts := []) 500 (Eq.mp (by kernel_rfl) hh))
def T111_0 (O : CallF) (Q : Value → Hp → Prop) (a0 : Option Addr) (n0 : Nat) (c0 : Nat) (x1 : Int) (a7 : Option Addr) (n7 : Nat) (c7 : Nat) (x8 : Int) (h : Hp) : Prop :=
  vcond (ltI x8 (Int.ofNat n7))
  (let g101 : Hp := h.rsv 10
  ∃ a102' n103' c104', sliceV Tryz.prog g101 22 (.slice a7 n7 c7) (some (.int .i64 x8)) none none = some (.slice a102' n103' c104') ∧
  ∃ a105' n106' c107', sliceV Tryz.prog g101 22 (.slice a7 n7 c7) none (some (.int .i64 x8)) none = some (.slice a105' n106' c107') ∧
  ∃ x108' h109', copyV Tryz.prog (g101.grd []) 22 (.slice a102' n103' c104') (.slice a105' n106' c107') = some (.int .i64 x108', h109') ∧
  let g110 : Hp := h109'.rst g101
  I111_0 O Q a0 n0 c0 x1 a7 n7 c7 (wrapF .i64 (x8 + x108')) g110)
  (Q (.slice a7 n7 c7) h)
theorem I111_0.of {O Q} (a0 n0 c0 x1 a7 n7 c7 x8) {h : Hp} (hh : T111_0 O Q a0 n0 c0 x1 a7 n7 c7 x8 h) : I111_0 O Q a0 n0 c0 x1 a7 n7 c7 x8 h :=
  RKL.of (tb := lv111) (cuts := []) 500 fun _ => Eq.mp (by kernel_rfl) hh
/-! sward/swardlaw15.laid$1 -/
noncomputable def b112 : Code := (Tryz.f112.body).getD .skip
def lv112 : List (Nat × List Nat) := []
def T112 (O : CallF) (Q : Value → Hp → Prop) (x0_0 : Int) (q0_1 : Bool) (b1 : Nat) (f1 : Nat) (h : Hp) : Prop :=
  let g1 : Hp := h.add (.cells [(.int .i64 x0_0), (.bool q0_1)] 76 .fix)
  ∃ q2', readAt g1 h.nx 1 1 = some [(.bool q2')] ∧
  vcond q2'
  (∃ a3' n4' c5', readAt g1 b1 f1 1 = some [(.slice a3' n4' c5')] ∧
  ∃ x6', readAt g1 h.nx 0 1 = some [(.int .i64 x6')] ∧
  isNat x6' fun n7' =>
  isAddr a3' fun b8' f9' =>
  vreq (Nat.blt n7' n4')
  (∃ x10', readAt g1 b8' (f9' + (n7' * 1)) 1 = some [(.int .i64 x10')] ∧
  Q (.int .i64 (wrapF .i64 (2 * x10'))) g1))
  (∃ x11', readAt g1 h.nx 0 1 = some [(.int .i64 x11')] ∧
  Q (.int .i64 x11') g1)
theorem rk112 {O Q} (x0_0 q0_1 b1 f1) {h : Hp} (hO : O 112 [(.agg #[(.int .i64 x0_0), (.bool q0_1)]), (.pointer (some ⟨b1, f1, none⟩))] h = none) (hh : T112 O Q x0_0 q0_1 b1 f1 h) : Ret Tryz.prog O 112 [(.agg #[(.int .i64 x0_0), (.bool q0_1)]), (.pointer (some ⟨b1, f1, none⟩))] h Q :=
  .of (c := b112) Tryz.func112 (by kernel_rfl) hO (V_ok (tb := lv112) (cuts := []) 500 (Eq.mp (by kernel_rfl) hh))
/-! (sward/swardlaw15.Pile).drawn$1 -/
noncomputable def b139 : Code := (Tryz.f139.body).getD .skip
def lv139 : List (Nat × List Nat) := []
def T139 (O : CallF) (Q : Value → Hp → Prop) (x0 : Int) (b1 : Nat) (f1 : Nat) (h : Hp) : Prop :=
  let g1 : Hp := h.add (.cells [(.int .i64 0), (.bool false)] 76 .fix)
  ∃ x2', readAt g1 b1 f1 1 = some [(.int .i64 x2')] ∧
  vcond (eqI x2' 0)
  (vreq (canW g1 h.nx 0 [(.int .i64 (wrapF .i64 ((wrapF .i64 (2 * (wrapF .i64 ((wrapF .i64 x0) - 100)))) + 1))), (.bool false)])
  (let g3 : Hp := g1.wr h.nx 0 [(.int .i64 (wrapF .i64 ((wrapF .i64 (2 * (wrapF .i64 ((wrapF .i64 x0) - 100)))) + 1))), (.bool false)]
  ∃ x4', ∃ q5', readAt g3 h.nx 0 2 = some [(.int .i64 x4'), (.bool q5')] ∧
  Q (.agg #[(.int .i64 x4'), (.bool q5')]) g3))
  (vcond (eqI (Int.tmod x0 4) 0)
  (vreq (canW g1 h.nx 0 [(.int .i64 (wrapF .i64 ((wrapF .i64 (2 * (wrapF .i64 ((wrapF .i64 x0) - 100)))) + 1))), (.bool false)])
  (let g6 : Hp := g1.wr h.nx 0 [(.int .i64 (wrapF .i64 ((wrapF .i64 (2 * (wrapF .i64 ((wrapF .i64 x0) - 100)))) + 1))), (.bool false)]
  ∃ x7', ∃ q8', readAt g6 h.nx 0 2 = some [(.int .i64 x7'), (.bool q8')] ∧
  Q (.agg #[(.int .i64 x7'), (.bool q8')]) g6))
  (vcond (eqI (Int.tmod x0 16) 7)
  (vreq (canW g1 h.nx 0 [(.int .i64 0), (.bool false)])
  (let g9 : Hp := g1.wr h.nx 0 [(.int .i64 0), (.bool false)]
  ∃ x10', ∃ q11', readAt g9 h.nx 0 2 = some [(.int .i64 x10'), (.bool q11')] ∧
  Q (.agg #[(.int .i64 x10'), (.bool q11')]) g9))
  (∃ x12', readAt g1 b1 f1 1 = some [(.int .i64 x12')] ∧
  vreq (!(eqI x12' 0))
  (vreq (canW g1 h.nx 0 [(.int .i64 (Int.tmod (wrapF .i64 (Int.tdiv (wrapF .i64 x0) 4)) x12')), (.bool true)])
  (let g13 : Hp := g1.wr h.nx 0 [(.int .i64 (Int.tmod (wrapF .i64 (Int.tdiv (wrapF .i64 x0) 4)) x12')), (.bool true)]
  ∃ x14', ∃ q15', readAt g13 h.nx 0 2 = some [(.int .i64 x14'), (.bool q15')] ∧
  Q (.agg #[(.int .i64 x14'), (.bool q15')]) g13)))))
theorem rk139 {O Q} (x0 b1 f1) {h : Hp} (hO : O 139 [(.int .u8 x0), (.pointer (some ⟨b1, f1, none⟩))] h = none) (hh : T139 O Q x0 b1 f1 h) : Ret Tryz.prog O 139 [(.int .u8 x0), (.pointer (some ⟨b1, f1, none⟩))] h Q :=
  .of (c := b139) Tryz.func139 (by kernel_rfl) hO (V_ok (tb := lv139) (cuts := []) 500 (Eq.mp (by kernel_rfl) hh))
end Go.Proofs.YtngcjpkccnfjiaaGreatDoor
/- Conditions of functions' code, printed by a program of ours. -/
namespace Go.Proofs.YtngcjpkccnfjiaaGreatDoor
open Go Go.Ev
set_option maxRecDepth 100000
set_option linter.unusedVariables false
/-! math/bits.Mul -/
noncomputable def b143 : Code := (Tryz.f143.body).getD .skip
def lv143 : List (Nat × List Nat) := []
def T143 (O : CallF) (Q : Value → Hp → Prop) (x0 : Int) (x1 : Int) (h : Hp) : Prop :=
  ∃ x1', ∃ x2', ∃ h3', EvC Tryz.prog O 152 [(.int .u64 x0), (.int .u64 x1)] h (.tuple #[(.int .u64 x1'), (.int .u64 x2')]) h3' ∧
  Q (.tuple #[(.int .u64 x1'), (.int .u64 x2')]) h3'
theorem rk143 {O Q} (x0 x1) {h : Hp} (hO : O 143 [(.int .u64 x0), (.int .u64 x1)] h = none) (hh : T143 O Q x0 x1 h) : Ret Tryz.prog O 143 [(.int .u64 x0), (.int .u64 x1)] h Q :=
  .of (c := b143) Tryz.func143 (by kernel_rfl) hO (V_ok (tb := lv143) (cuts := []) 500 (Eq.mp (by kernel_rfl) hh))
/-! math/bits.Mul64 -/
noncomputable def b152 : Code := (Tryz.f152.body).getD .skip
def lv152 : List (Nat × List Nat) := []
def T152 (O : CallF) (Q : Value → Hp → Prop) (x0 : Int) (x1 : Int) (h : Hp) : Prop :=
  vreq (inD 18446744073709551616 x0)
  (vreq (inD 18446744073709551616 x1)
  (vreq (inD 18446744073709551616 (wrapF .u64 ((wrapF .u64 ((shrF .u64 x0 32) * (landI x1 4294967295))) + (shrF .u64 (wrapF .u64 ((landI x0 4294967295) * (landI x1 4294967295))) 32))))
  (Q (.tuple #[(.int .u64 (wrapF .u64 ((wrapF .u64 ((wrapF .u64 ((shrF .u64 x0 32) * (shrF .u64 x1 32))) + (shrF .u64 (wrapF .u64 ((wrapF .u64 ((shrF .u64 x0 32) * (landI x1 4294967295))) + (shrF .u64 (wrapF .u64 ((landI x0 4294967295) * (landI x1 4294967295))) 32))) 32))) + (shrF .u64 (wrapF .u64 ((landI (wrapF .u64 ((wrapF .u64 ((shrF .u64 x0 32) * (landI x1 4294967295))) + (shrF .u64 (wrapF .u64 ((landI x0 4294967295) * (landI x1 4294967295))) 32))) 4294967295) + (wrapF .u64 ((landI x0 4294967295) * (shrF .u64 x1 32))))) 32)))), (.int .u64 (wrapF .u64 (x0 * x1)))]) h)))
theorem rk152 {O Q} (x0 x1) {h : Hp} (hO : O 152 [(.int .u64 x0), (.int .u64 x1)] h = none) (hh : T152 O Q x0 x1 h) : Ret Tryz.prog O 152 [(.int .u64 x0), (.int .u64 x1)] h Q :=
  .of (c := b152) Tryz.func152 (by kernel_rfl) hO (V_ok (tb := lv152) (cuts := []) 500 (Eq.mp (by kernel_rfl) hh))
end Go.Proofs.YtngcjpkccnfjiaaGreatDoor
/- Contracts: cells by numbers: in memory; upTo, contains, what a field adds. -/
namespace Go.Proofs.YtngcjpkccnfjiaaGreatDoor
set_option maxRecDepth 100000
open Go Go.Ev
def fdE (f : Fd) : List Value := [.int .i64 f.n, .bool f.refs]
theorem fdE_len (f : Fd) : (fdE f).length = 2 := rfl
abbrev FdsAt := SlAt 2 (ECells fdE)
def ECl : Enc Cl := fun h c vs => ∃ a n cp, vs = [.int .i64 c.kind, .slice a n cp] ∧ FdsAt h a n c.fs
instance : EUp ECl := ⟨fun _ h' _ _ _ ⟨a, n, c, h1, h2⟩ => ⟨a, n, c, h1, h2.to h'⟩⟩
abbrev ClsAt := SlAt 2 ECl
theorem FdsAt.rd {g h : Hp} {a : Option Addr} {n : Nat} {xs : List Fd} (H : FdsAt g a n xs) [Ft g h] {k : Nat} (hk : k < xs.length) {K : Int → Bool → Prop} (next : K xs[k].n xs[k].refs) :
    isAddr a fun b off => vreq (Nat.blt k n) (∃ x, ∃ q, readAt h b (off + k * 2) 2 = some [.int .i64 x, .bool q] ∧ K x q) :=
  SlAt.read H hk fun _ _ _ _ hb hr e => vreq_t (blt_t (by rw [H.1]; exact hk)) ⟨_, _, by rw [readAt_ex (g := g) hb, hr, show _ = _ from e]; rfl, next⟩
theorem ClsAt.rd {g h : Hp} {a : Option Addr} {n : Nat} {xs : List Cl} (H : ClsAt g a n xs) [Ft g h] {k : Nat} (hk : k < xs.length) {K : Int → Option Addr → Nat → Nat → Prop} (next : ∀ a' n' c', FdsAt g a' n' xs[k].fs → K xs[k].kind a' n' c') :
    isAddr a fun b off => vreq (Nat.blt k n) (∃ x, ∃ a' n' c', readAt h b (off + k * 2) 2 = some [.int .i64 x, .slice a' n' c'] ∧ K x a' n' c') :=
  SlAt.read H hk fun _ _ _ _ hb hr ⟨a', n', c', e, F⟩ => vreq_t (blt_t (by rw [H.1]; exact hk)) ⟨_, a', n', c', by rw [readAt_ex (g := g) hb, hr, e], next _ _ _ F⟩
theorem readAt_two {h : Hp} {b off : Nat} {v w : Value} (hr : readAt h b off 2 = some [v, w]) : readAt h b (off + 0) 1 = some [v] ∧ readAt h b (off + 1) 1 = some [w] := by
  unfold readAt at hr ⊢
  split at hr
  · rename_i c e m hg
    obtain ⟨hb, hr⟩ := cond_some hr
    have hb := Nat.eq_of_beq_eq_true hb
    have hr := Option.some.inj hr
    rw [List.length_take, List.length_drop] at hb
    have h1 : off < c.length := by omega
    have h2 : off + 1 < c.length := by omega
    rw [List.drop_eq_getElem_cons h1, List.drop_eq_getElem_cons h2] at hr
    simp only [List.take_succ_cons, List.take_zero, List.cons.injEq, and_true] at hr
    have e0 : ((c.drop (off + 0)).take 1) = [v] := by
      rw [Nat.add_zero, List.drop_eq_getElem_cons h1, List.take_succ_cons, List.take_zero, hr.1]
    have e1 : ((c.drop (off + 1)).take 1) = [w] := by
      rw [List.drop_eq_getElem_cons h2, List.take_succ_cons, List.take_zero, hr.2]
    simp only [e0, e1]
    exact ⟨rfl, rfl⟩
  · cases hr
/-- A cell's list of fields alone is read. -/
theorem ClsAt.rdf {g h : Hp} {a : Option Addr} {n : Nat} {xs : List Cl} (H : ClsAt g a n xs) [Ft g h] {k : Nat} (hk : k < xs.length) {K : Option Addr → Nat → Nat → Prop} (next : ∀ a' n' c', FdsAt g a' n' xs[k].fs → K a' n' c') :
    isAddr a fun b off => vreq (Nat.blt k n) (∃ a' n' c', readAt h b ((off + k * 2) + 1) 1 = some [.slice a' n' c'] ∧ K a' n' c') :=
  SlAt.read H hk fun _ _ _ _ hb hr ⟨a', n', c', e, F⟩ => vreq_t (blt_t (by rw [H.1]; exact hk)) ⟨a', n', c', by rw [readAt_ex (g := g) hb]; rw [e] at hr; exact (readAt_two hr).2, next _ _ _ F⟩
theorem ClsAt.rdk {g h : Hp} {a : Option Addr} {n : Nat} {xs : List Cl} (H : ClsAt g a n xs) [Ft g h] {k : Nat} (hk : k < xs.length) {K : Int → Prop} (next : K xs[k].kind) :
    isAddr a fun b off => vreq (Nat.blt k n) (∃ x, readAt h b ((off + k * 2) + 0) 1 = some [.int .i64 x] ∧ K x) :=
  SlAt.read H hk fun _ _ _ _ hb hr ⟨a', n', c', e, F⟩ => vreq_t (blt_t (by rw [H.1]; exact hk)) ⟨_, by rw [readAt_ex (g := g) hb]; rw [e] at hr; exact (readAt_two hr).1, next⟩
section
variable {O : CallF} (hO : Oth O)
include hO
/-- 'upTo'. -/
theorem ct51 {g : Hp} (ok : g.Ok) {n : Nat} (hn : n < 1000000) : Ret Tryz.prog O 51 [.int .i64 (Int.ofNat n)] g fun v h' => ∃ a n' c, v = .slice a n' c ∧ Know g h' [acc g.nx 3 1 a n' c (iv ((List.range n).map Int.ofNat))] := by
  refine rk51 (hO := hO _ _ _ (by decide)) (hh := ?_) ..
  unfold T51
  have lp : ∀ (d k : Nat) (a : Option Addr) (m c : Nat) (h : Hp), k + d = n → Know g h [acc g.nx 3 1 a m c (iv ((List.range k).map Int.ofNat))] → I51_0 O (fun v h' => ∃ a n' c, v = .slice a n' c ∧ Know g h' [acc g.nx 3 1 a n' c (iv ((List.range n).map Int.ofNat))]) (Int.ofNat n) a m c (Int.ofNat k) h := by
    intro d
    induction d with
    | zero =>
      intro k a m c h hk S
      refine I51_0.of (hh := ?_) ..
      unfold T51_0
      refine vcond_f (by rw [ltI_nat]; exact blt_f (by omega)) ⟨_, _, _, rfl, ?_⟩
      have : k = n := by omega
      subst this; exact S
    | succ d ih =>
      intro k a m c h hk S
      refine I51_0.of (hh := ?_) ..
      unfold T51_0
      refine vcond_t (by rw [ltI_nat]; exact blt_t (by omega)) ?_
      intro g101
      have hm : m = k := by
        have A : AccE h g.nx 3 1 a m c _ := S.get 0 rfl
        have := (AccE.ints A).1
        simpa using this
      have S : Know g g101 [_, _] := S.add _
      obtain ⟨a', n', c', h', e, hn', S⟩ := S.app 1 rfl (Nat.le_refl _) S.lo AppT22 ⟨_, _, _, rfl⟩ (src_get (n := 1) (c := 1) (esz := 1) (off := 0) (S.rd 0 rfl (r := [.int .i64 (Int.ofNat k)]) rfl rfl)) rfl rfl (by omega) (by unfold big; omega)
      have S : Know g h' [_, _] := S
      refine ⟨_, _, _, _, e, ?_⟩
      rw [wrap_succ (by omega)]
      refine ih (k + 1) _ _ _ _ (by omega) ?_
      have := S.sel [1] (by decide) rfl
      rw [List.range_succ, List.map_append]
      unfold iv
      rw [List.map_append]
      exact this
  exact lp n 0 none 0 0 g (by omega) ((Know.nil ok).accNil g.nx 3 1)
end
end Go.Proofs.YtngcjpkccnfjiaaGreatDoor
/- Contracts: what is reached, by numbers of cells. -/
namespace Go.Proofs.YtngcjpkccnfjiaaGreatDoor
set_option maxRecDepth 100000
open Go Go.Ev
end Go.Proofs.YtngcjpkccnfjiaaGreatDoor
/- Cells by numbers: a list of cells that grows; what a pile's bytes say. -/
namespace Go.Ev
open Go
/-- What is so as long as some objects stay. -/
def clo (own : Nat → Prop) (F : Hp → Prop) : Rs := ⟨own, fun h => ∀ h' : Hp, h.nx ≤ h'.nx → (∀ b, own b → h'.get b = h.get b) → F h'⟩
theorem clo.loc (own : Nat → Prop) (F : Hp → Prop) : (clo own F).Loc := fun _ _ hn he hP h'' hn2 he2 => hP h'' (Nat.le_trans hn hn2) fun b hb => (he2 b hb).trans (he b hb)
theorem clo.get {own : Nat → Prop} {F : Hp → Prop} {h : Hp} (hP : (clo own F).P h) : F h := hP h (Nat.le_refl _) fun _ _ => rfl
theorem Know.merge {h0 g : Hp} {r s : Rs} {L : List Rs} (S : Know h0 g (r :: s :: L)) (F : Hp → Prop) (hF : ∀ h', r.P h' → s.P h' → F h') : Know h0 g (clo (fun o => r.own o ∨ s.own o) F :: L) := by
  obtain ⟨r1, r2, r3⟩ := S.at_ r (List.mem_cons_self ..)
  obtain ⟨s1, s2, s3⟩ := S.at_ s (List.mem_cons_of_mem _ (List.mem_cons_self ..))
  obtain ⟨d1, d2⟩ := List.pairwise_cons.1 S.dis
  obtain ⟨d3, d4⟩ := List.pairwise_cons.1 d2
  refine ⟨S.ok, S.kp, fun q hq => ?_, List.pairwise_cons.2 ⟨fun q hq b hb hqb => ?_, d4⟩, S.ok0⟩
  · rcases List.mem_cons.1 hq with rfl | hq
    · exact ⟨clo.loc _ _, fun h' hn he => hF h' (r1 g h' hn (fun b hb => he b (.inl hb)) r2) (s1 g h' hn (fun b hb => he b (.inr hb)) s2), fun b hb => hb.elim (r3 b) (s3 b)⟩
    · exact S.at_ q (List.mem_cons_of_mem _ (List.mem_cons_of_mem _ hq))
  · rcases hb with hb | hb
    · exact d1 q (List.mem_cons_of_mem _ hq) b hb hqb
    · exact d3 q hq b hb hqb
theorem AccE.slAt {α : Type} {enc : α → List Value} {w : Nat} (hw : ∀ x, (enc x).length = w) (hw0 : 0 < w) {h : Hp} {base : Nat} {e : TypeId} {a : Option Addr} {n c : Nat} {xs : List α} (H : AccE h base e w a n c (xs.flatMap enc)) : SlAt w (ECells enc) h a n xs := by
  rcases H with H | ⟨h1, h2, h3, o, h4, h5, h6, e2, m, h7⟩
  · exact H.slAt hw hw0
  · have hl := flatMap_length hw xs
    rw [h1] at hl
    have hx : xs = [] := by
      cases xs with
      | nil => rfl
      | cons x xs =>
        have : w ≤ (xs.length + 1) * w := Nat.le_mul_of_pos_left w (by omega)
        rw [List.length_nil, List.length_cons] at hl
        omega
    subst hx h2 h4
    exact ⟨rfl, .inr ⟨o, 0, _, _, _, rfl, h6, h7, by simp, fun i hi => by simp at hi⟩⟩
end Go.Ev
namespace Go.Proofs.YtngcjpkccnfjiaaGreatDoor
set_option maxRecDepth 100000
open Go Go.Ev
theorem app64 : AppT Tryz.prog 64 76 2 16 := ⟨Tryz.underlying64, by kernel_rfl⟩
theorem app63 : AppT Tryz.prog 63 72 2 32 := ⟨Tryz.underlying63, by kernel_rfl⟩
abbrev fvs (fs : List Fd) : List Value := fs.flatMap fdE
/-- Values of cells. -/
def Nst (h : Hp) : List Value → List Cl → Prop
  | [], [] => True
  | v :: w :: vs, c :: L => (v = .int .i64 c.kind ∧ ∃ a n cp, w = .slice a n cp ∧ FdsAt h a n c.fs) ∧ Nst h vs L
  | _, _ => False
theorem Nst.snoc {h : Hp} : ∀ {vs : List Value} {L : List Cl}, Nst h vs L → ∀ {c : Cl} {a : Option Addr} {n cp : Nat}, FdsAt h a n c.fs → Nst h (vs ++ [.int .i64 c.kind, .slice a n cp]) (L ++ [c])
  | [], [], _, c, a, n, cp, F => ⟨⟨rfl, a, n, cp, rfl, F⟩, trivial⟩
  | v :: w :: vs, c :: L, H, c', a, n, cp, F => ⟨H.1, Nst.snoc H.2 F⟩
  | [], _ :: _, H, _, _, _, _, _ => H.elim
  | [_], _, H, _, _, _, _, _ => by cases ‹List Cl› <;> exact H.elim
  | _ :: _ :: _, [], H, _, _, _, _, _ => H.elim
theorem Nst.len {h : Hp} : ∀ {vs : List Value} {L : List Cl}, Nst h vs L → vs.length = L.length * 2
  | [], [], _ => rfl
  | v :: w :: vs, c :: L, H => by have := Nst.len H.2; simp; omega
  | [], _ :: _, H => H.elim
  | [_], _, H => by cases ‹List Cl› <;> exact H.elim
  | _ :: _ :: _, [], H => H.elim
theorem Nst.get {h : Hp} : ∀ {vs : List Value} {L : List Cl}, Nst h vs L → ∀ i (hi : i < L.length), ECl h L[i] ((vs.drop (i * 2)).take 2)
  | [], [], _, i, hi => by simp at hi
  | v :: w :: vs, c :: L, H, i, hi => by
    cases i with
    | zero =>
      obtain ⟨⟨rfl, a, n, cp, rfl, F⟩, _⟩ := H
      exact ⟨a, n, cp, rfl, F⟩
    | succ i =>
      have := Nst.get H.2 i (by simpa using hi)
      rw [show (i + 1) * 2 = i * 2 + 1 + 1 by omega, List.drop_succ_cons, List.drop_succ_cons]
      exact this
  | [], _ :: _, H, _, _ => H.elim
  | [_], _, H, _, _ => by cases ‹List Cl› <;> exact H.elim
  | _ :: _ :: _, [], H, _, _ => H.elim
theorem cls_of {h : Hp} {lo : Nat} {a : Option Addr} {n c : Nat} {vs : List Value} {L : List Cl} (A : AccE h lo 72 2 a n c vs) (N : Nst h vs L) : ClsAt h a n L := by
  have hl := N.len
  rcases A with (⟨rfl, rfl, _, rfl⟩ | ⟨o, rfl, _, h3, _, h5, h6⟩) | ⟨rfl, rfl, _, o, rfl, _, h6, e2, m, h7⟩
  · have : L = [] := by
      cases L with
      | nil => rfl
      | cons x L => simp at hl
    subst this; exact SlAt.nil ..
  · exact ⟨by omega, .inr ⟨o, 0, vs, 72, _, rfl, h5, h6, by omega, fun i hi => by rw [Nat.zero_add]; exact N.get i hi⟩⟩
  · have : L = [] := by
      cases L with
      | nil => rfl
      | cons x L => simp at hl
    subst this
    exact ⟨rfl, .inr ⟨o, 0, _, _, _, rfl, h6, h7, by simp, fun i hi => by simp at hi⟩⟩
theorem Nst.mono {h h' : Hp} (f : ∀ {a n fs}, FdsAt h a n fs → FdsAt h' a n fs) : ∀ {vs : List Value} {L : List Cl}, Nst h vs L → Nst h' vs L
  | [], [], _ => trivial
  | v :: w :: vs, c :: L, H => ⟨⟨H.1.1, let ⟨a, n, cp, e, F⟩ := H.1.2; ⟨a, n, cp, e, f F⟩⟩, Nst.mono f H.2⟩
  | [], _ :: _, H => H.elim
  | [_], _, H => by cases ‹List Cl› <;> exact H.elim
  | _ :: _ :: _, [], H => H.elim
/-! ### what the bytes of a pile say -/
abbrev bv (xs : List Nat) : List Value := xs.map fun x => Value.int .u8 (Int.ofNat x)
structure Bytes (v0 : Array Value) (xs : List Nat) : Prop where
  v : v0.toList = bv xs
  len : xs.length = 51
  lt : ∀ x ∈ xs, x < 256
def wordC (n x : Nat) : Fd := if n = 0 ∨ x % 4 = 0 then ⟨2 * ((x : Int) - 100) + 1, false⟩ else if x % 16 = 7 then ⟨0, false⟩ else ⟨((x / 4 % n : Nat) : Int), true⟩
def fdOf (k n x : Nat) : Fd := if k = 3 then ⟨((97 + x % 26 : Nat) : Int), false⟩ else if k = 4 then ⟨((x % 2 : Nat) : Int), false⟩ else wordC n x
def pKind (xs : List Nat) (i : Nat) : Nat := 1 + xs.getD (2 + i) 0 % 5
def pSize (xs : List Nat) (i : Nat) : Nat := if pKind xs i = 4 then 1 else xs.getD (2 + i) 0 / 8 % 5
def pMany (xs : List Nat) : Nat := xs.getD 0 0 % 10
def pCell (xs : List Nat) (i : Nat) : Cl := ⟨(pKind xs i : Int), ((xs.drop (11 + 4 * i)).take (pSize xs i)).map (fdOf (pKind xs i) (pMany xs))⟩
def drawnL (xs : List Nat) : List Cl := (List.range (pMany xs)).map (pCell xs)
def drawnR (xs : List Nat) : List Fd := ((xs.drop 47).take (xs.getD 0 0 / 16 % 5)).map (wordC (pMany xs))
theorem bv_one (xs : List Nat) : (bv xs).all one = true := by rw [List.all_map]; exact List.all_eq_true.2 fun _ _ => rfl
theorem bv_at {xs : List Nat} {i : Nat} (hi : i < xs.length) : ((bv xs).drop i).take 1 = [.int .u8 (Int.ofNat (xs.getD i 0))] := by
  rw [List.drop_eq_getElem_cons (by simpa using hi)]
  simp [List.getD, List.getElem?_eq_getElem hi]
theorem Bytes.b {v0 : Array Value} {xs : List Nat} (B : Bytes v0 xs) (i : Nat) : xs.getD i 0 < 256 := by
  rw [List.getD]
  cases h : xs[i]? with
  | none => show 0 < 256; decide
  | some x => exact B.lt x (List.mem_of_getElem? h)
theorem wrapN {n : Nat} (h : n < 9223372036854775808) : wrapF .i64 (Int.ofNat n) = Int.ofNat n := wrap64 (by have : Int.ofNat n = (n : Int) := rfl; omega) (by have : Int.ofNat n = (n : Int) := rfl; omega)
theorem wordC_n {n x : Nat} (h : n = 0 ∨ x % 4 = 0) : wordC n x = ⟨2 * ((x : Int) - 100) + 1, false⟩ := if_pos h
section
variable {O : CallF} (hO : Oth O)
include hO
theorem ct139 {h : Hp} (ok : h.Ok) {n x : Nat} (hx : x < 256) {b1 : Nat} (hb : readAt h b1 0 1 = some [.int .i64 (Int.ofNat n)]) (hb1 : b1 < h.nx) : Ret Tryz.prog O 139 [.int .u8 (Int.ofNat x), .pointer (some ⟨b1, 0, none⟩)] h fun v h' => v = .agg #[.int .i64 (wordC n x).n, .bool (wordC n x).refs] ∧ Kp h.nx h h' := by
  refine rk139 (hO := hO _ _ _ (by decide)) (hh := ?_) ..
  unfold T139
  have ex : wrapF .i64 (Int.ofNat x) = Int.ofNat x := wrapN (by omega)
  rw [ex]
  have e1 : wrapF .i64 (wrapF .i64 (2 * wrapF .i64 (Int.ofNat x - 100)) + 1) = 2 * ((x : Int) - 100) + 1 := by
    have : Int.ofNat x = (x : Int) := rfl
    rw [wrap64 (n := Int.ofNat x - 100) (by omega) (by omega), wrap64 (n := 2 * (Int.ofNat x - 100)) (by omega) (by omega), wrap64 (by omega) (by omega)]
    rfl
  rw [e1]
  intro g1
  have S : Know h g1 [_] := (Know.nil ok).add _
  have hb' : readAt g1 b1 0 1 = some [.int .i64 (Int.ofNat n)] := by
    haveI := S.ft
    rw [readAt_ex (g := h) hb1]; exact hb
  refine ⟨_, hb', vcond_split (fun h1 => ?_) fun h1 => ?_⟩
  · refine vreq_t (S.cw 0 rfl (by decide) rfl rfl) ?_
    intro g3
    have S : Know h g3 [_] := S.wr 0 rfl (by decide) rfl rfl
    have h1 : n = 0 := Int.ofNat_inj.1 (eq_of_t h1)
    rw [wordC_n (.inl h1)]
    exact ⟨_, _, S.rd 0 rfl rfl rfl, rfl, S.kp⟩
  have h1 : n ≠ 0 := fun h => ne_of_f h1 (by rw [h]; rfl)
  refine vcond_split (fun h2 => ?_) fun h2 => ?_
  · refine vreq_t (S.cw 0 rfl (by decide) rfl rfl) ?_
    intro g3
    have S : Know h g3 [_] := S.wr 0 rfl (by decide) rfl rfl
    have h2 : x % 4 = 0 := Int.ofNat_inj.1 (eq_of_t h2)
    rw [wordC_n (.inr h2)]
    exact ⟨_, _, S.rd 0 rfl rfl rfl, rfl, S.kp⟩
  have h2 : x % 4 ≠ 0 := fun h => ne_of_f h2 (by show Int.ofNat (x % 4) = 0; rw [h]; rfl)
  refine vcond_split (fun h3 => ?_) fun h3 => ?_
  · refine vreq_t (S.cw 0 rfl (by decide) rfl rfl) ?_
    intro g3
    have S : Know h g3 [_] := S.wr 0 rfl (by decide) rfl rfl
    have h3 : x % 16 = 7 := Int.ofNat_inj.1 (eq_of_t h3)
    have e : wordC n x = ⟨0, false⟩ := by unfold wordC; rw [if_neg (by omega), if_pos h3]
    rw [e]
    exact ⟨_, _, S.rd 0 rfl rfl rfl, rfl, S.kp⟩
  have h3 : x % 16 ≠ 7 := fun h => ne_of_f h3 (by show Int.ofNat (x % 16) = 7; rw [h]; rfl)
  have e : wordC n x = ⟨((x / 4 % n : Nat) : Int), true⟩ := by unfold wordC; rw [if_neg (by omega), if_neg h3]
  rw [e]
  have e2 : wrapF .i64 (Int.tdiv (Int.ofNat x) 4) = Int.ofNat (x / 4) := wrapN (n := x / 4) (by omega)
  rw [e2]
  refine ⟨_, hb', vreq_t (by rw [eqI_f (a := Int.ofNat n) (b := 0) (fun h => h1 (Int.ofNat_inj.1 h))]; rfl) (vreq_t (S.cw 0 rfl (by decide) rfl rfl) ?_)⟩
  intro g3
  have S : Know h g3 [_] := S.wr 0 rfl (by decide) rfl rfl
  exact ⟨_, _, S.rd 0 rfl rfl rfl, rfl, S.kp⟩
end
end Go.Proofs.YtngcjpkccnfjiaaGreatDoor
/- Contracts: what a pile's bytes say: drawn. -/
namespace Go.Proofs.YtngcjpkccnfjiaaGreatDoor
set_option maxRecDepth 100000
open Go Go.Ev
theorem slice_arr {h : Hp} {b off s : Nat} (hs : s < 4) : sliceV Tryz.prog h 59 (.pointer (some ⟨b, off, none⟩)) none (some (.int .i64 (Int.ofNat s))) none = some (.slice (some ⟨b, off, none⟩) s 4) := by
  unfold sliceV
  rw [Tryz.underlying59]
  have hz : sz Tryz.prog 5 = some 1 := by kernel_rfl
  simp only [hz, bind, Option.bind_some, bounds_hi (n := 4) (vis := 4) (show s ≤ 4 by omega)]
  rw [blt_t (by have : unk = 18446744073709551616 := rfl; omega)]
  simp
theorem slice_arr4 {h : Hp} {b off : Nat} : sliceV Tryz.prog h 59 (.pointer (some ⟨b, off, none⟩)) none (some (.int .i64 (Int.ofNat 4))) none = some (.slice (some ⟨b, off, none⟩) 4 4) := by
  unfold sliceV
  rw [Tryz.underlying59]
  have hz : sz Tryz.prog 5 = some 1 := by kernel_rfl
  simp only [hz, bind, Option.bind_some, bounds_hi (n := 4) (vis := 4) (show 4 ≤ 4 by omega)]
  rw [blt_t (by have : unk = 18446744073709551616 := rfl; omega)]
  simp
theorem slice_arr' {h : Hp} {b off s : Nat} (hs : s ≤ 4) : sliceV Tryz.prog h 59 (.pointer (some ⟨b, off, none⟩)) none (some (.int .i64 (Int.ofNat s))) none = some (.slice (some ⟨b, off, none⟩) s 4) := by
  rcases Nat.lt_or_ge s 4 with h | h
  · exact slice_arr h
  · have : s = 4 := by omega
    subst this; exact slice_arr4
section
variable {O : CallF} (hO : Oth O)
include hO
/-- The roots. -/
theorem lp106_2 {g : Hp} {v0 : Array Value} {xs : List Nat} (B : Bytes v0 xs) {b1 bn : Nat} {a6 : Option Addr} {n6 c6 : Nat} {R0 : Rs} {Q : Value → Hp → Prop} {s : Nat} (hs : s ≤ 4)
    (next : ∀ (h : Hp) (a : Option Addr) (n c : Nat), Know g h [acc g.nx 76 2 a n c (fvs (((xs.drop 47).take s).map (wordC (pMany xs)))), R0] → Q (.tuple #[.slice a6 n6 c6, .slice a n c]) h) :
    ∀ (d k : Nat) (h : Hp) (a : Option Addr) (n c : Nat), k + d = s → Know g h [acc g.nx 76 2 a n c (fvs (((xs.drop 47).take k).map (wordC (pMany xs)))), R0, ob bn (.cells [.int .i64 (Int.ofNat (pMany xs))] 3 .fix), ob b1 (.cells (bv xs) 62 .fix)] →
      I106_2 O Q v0 (.func (.func 139) #[] #[.pointer (some ⟨bn, 0, none⟩)]) a6 n6 c6 a n c (some ⟨b1, 47, none⟩) s 4 (Int.ofNat s) (Int.ofNat k) h := by
  have hlen := B.len
  intro d
  induction d with
  | zero =>
    intro k h a n c hk S
    refine I106_2.of (hh := ?_) ..
    unfold T106_2
    have : k = s := by omega
    subst this
    exact vcond_f (by rw [ltI_nat]; exact blt_f (by omega)) (next h a n c (S.sel [0, 1] (by decide) rfl))
  | succ d ih =>
    intro k h a n c hk S
    refine I106_2.of (hh := ?_) ..
    unfold T106_2
    have hb : Nat.ble (47 + k * 1 + 1) (bv xs).length = true := ble_t (by rw [List.length_map]; omega)
    have hr : ((bv xs).drop (47 + k * 1)).take 1 = [.int .u8 (Int.ofNat (xs.getD (47 + k * 1) 0))] := bv_at (by omega)
    obtain ⟨v, h310, e310, rfl, k310⟩ := ct139 hO S.ok (B.b (47 + k * 1)) (S.rd 2 rfl rfl rfl) (S.orng 2 rfl).2 (n := pMany xs)
    refine vcond_t (by rw [ltI_nat]; exact blt_t (by omega)) (isNat_i (isAddr_i (vreq_t (blt_t (by omega)) ⟨_, S.rd 3 rfl hr hb, _, _, _, e310, ?_⟩)))
    have S : Know g h310 [_, _, _, _] := S.call k310
    intro g311
    have S : Know g g311 [_, _, _, _, _] := S.add _
    have hn : n = k := by
      have A : AccE g311 g.nx 76 2 a n c _ := S.get 1 rfl
      have := (AccE.slAt fdE_len (by decide) A).1
      rw [List.length_map, List.length_take, List.length_drop] at this
      omega
    obtain ⟨a', n', c', h', e, hn', S⟩ := S.app 1 rfl (Nat.le_refl _) S.lo app64 ⟨_, _, _, rfl⟩ (src_get (n := 1) (c := 1) (esz := 2) (off := 0) (S.rd 0 rfl (r := [.int .i64 (wordC (pMany xs) (xs.getD (47 + k * 1) 0)).n, .bool (wordC (pMany xs) (xs.getD (47 + k * 1) 0)).refs]) rfl rfl)) rfl rfl (by omega) (by unfold big; omega)
    have S : Know g h' [_, _, _, _, _] := S
    refine ⟨_, _, _, _, e, ?_⟩
    rw [wrap_succ (by omega)]
    refine ih (k + 1) h' a' n' c' (by omega) ?_
    have S : Know g h' [_, _, _, _] := S.sel [1, 2, 3, 4] (by decide) rfl
    have e2 : fvs (((xs.drop 47).take (k + 1)).map (wordC (pMany xs))) = fvs (((xs.drop 47).take k).map (wordC (pMany xs))) ++ [.int .i64 (wordC (pMany xs) (xs.getD (47 + k * 1) 0)).n, .bool (wordC (pMany xs) (xs.getD (47 + k * 1) 0)).refs] := by
      have : (xs.drop 47)[k]? = some (xs.getD (47 + k * 1) 0) := by
        rw [List.getElem?_drop, Nat.mul_one, List.getD, List.getElem?_eq_getElem (by omega)]; rfl
      rw [List.take_add_one, this, List.map_append]
      unfold fvs
      rw [List.flatMap_append]
      rfl
    rw [e2]; exact S
/-- The fields of a cell. -/
theorem lp106_1 {g : Hp} {v0 : Array Value} {xs : List Nat} (B : Bytes v0 xs) {b1 bn b8 : Nat} {a6 : Option Addr} {n6 c6 : Nat} {R0 R1 : Rs} {Q : Value → Hp → Prop} {x20 x21 : Int} {off s kd : Nat} (hs : s ≤ 4) (hoff : off + 4 ≤ 51)
    (next : ∀ (h : Hp) (a : Option Addr) (n c : Nat), Know g h [ob b8 (.cells [.int .i64 (Int.ofNat kd), .slice a n c] 72 .fix), acc g.nx 76 2 a n c (fvs (((xs.drop off).take s).map (fdOf kd (pMany xs)))), R0, R1, ob bn (.cells [.int .i64 (Int.ofNat (pMany xs))] 3 .fix), ob b1 (.cells (bv xs) 62 .fix)] → I106_1 O Q v0 b1 0 (.func (.func 139) #[] #[.pointer (some ⟨bn, 0, none⟩)]) a6 n6 c6 b8 0 x20 x21 (some ⟨b1, off, none⟩) s 4 (Int.ofNat s) (Int.ofNat s) h) :
    ∀ (d k : Nat) (h : Hp) (a : Option Addr) (n c : Nat), k + d = s → Know g h [ob b8 (.cells [.int .i64 (Int.ofNat kd), .slice a n c] 72 .fix), acc g.nx 76 2 a n c (fvs (((xs.drop off).take k).map (fdOf kd (pMany xs)))), R0, R1, ob bn (.cells [.int .i64 (Int.ofNat (pMany xs))] 3 .fix), ob b1 (.cells (bv xs) 62 .fix)] →
      I106_1 O Q v0 b1 0 (.func (.func 139) #[] #[.pointer (some ⟨bn, 0, none⟩)]) a6 n6 c6 b8 0 x20 x21 (some ⟨b1, off, none⟩) s 4 (Int.ofNat s) (Int.ofNat k) h := by
  have hlen := B.len
  intro d
  induction d with
  | zero =>
    intro k h a n c hk S
    have : k = s := by omega
    subst this
    exact next h a n c S
  | succ d ih =>
    intro k h a n c hk S
    refine I106_1.of (hh := ?_) ..
    unfold T106_1
    have hb : Nat.ble (off + k * 1 + 1) (bv xs).length = true := ble_t (by rw [List.length_map]; omega)
    have hr : ((bv xs).drop (off + k * 1)).take 1 = [.int .u8 (Int.ofNat (xs.getD (off + k * 1) 0))] := bv_at (by omega)
    have hx := B.b (off + k * 1)
    have e2 : fvs (((xs.drop off).take (k + 1)).map (fdOf kd (pMany xs))) = fvs (((xs.drop off).take k).map (fdOf kd (pMany xs))) ++ [.int .i64 (fdOf kd (pMany xs) (xs.getD (off + k * 1) 0)).n, .bool (fdOf kd (pMany xs) (xs.getD (off + k * 1) 0)).refs] := by
      have : (xs.drop off)[k]? = some (xs.getD (off + k * 1) 0) := by
        rw [List.getElem?_drop, Nat.mul_one, List.getD, List.getElem?_eq_getElem (by omega)]; rfl
      rw [List.take_add_one, this, List.map_append]
      unfold fvs
      rw [List.flatMap_append]
      rfl
    have hn : n = k := by
      have A : AccE h g.nx 76 2 a n c _ := S.get 1 rfl
      have := (AccE.slAt fdE_len (by decide) A).1
      rw [List.length_map, List.length_take, List.length_drop] at this
      omega
    rw [wrap_succ (by omega)]
    refine vcond_t (by rw [ltI_nat]; exact blt_t (by omega)) (isNat_i (isAddr_i (vreq_t (blt_t (by omega)) ⟨_, S.rd 5 rfl hr hb, _, S.rd 0 rfl rfl rfl, ?_⟩)))
    rw [wrapN (show xs.getD (off + k * 1) 0 < 9223372036854775808 by omega)]
    refine vcond_split (fun h3 => ?_) fun h3 => ?_
    · have h3 : kd = 3 := Int.ofNat_inj.1 (eq_of_t h3)
      have ef : fdOf kd (pMany xs) (xs.getD (off + k * 1) 0) = ⟨((97 + xs.getD (off + k * 1) 0 % 26 : Nat) : Int), false⟩ := if_pos h3
      rw [ef] at e2
      have ew : wrapF .i64 (97 + Int.tmod (Int.ofNat (xs.getD (off + k * 1) 0)) 26) = Int.ofNat (97 + xs.getD (off + k * 1) 0 % 26) := by
        show wrapF .i64 (97 + Int.ofNat (xs.getD (off + k * 1) 0 % 26)) = _
        have : Int.ofNat (xs.getD (off + k * 1) 0 % 26) = ((xs.getD (off + k * 1) 0 % 26 : Nat) : Int) := rfl
        rw [this, wrap64 (by omega) (by omega)]
        show _ = ((97 + xs.getD (off + k * 1) 0 % 26 : Nat) : Int)
        omega
      rw [ew]
      refine ⟨_, _, _, S.rd 0 rfl rfl rfl, ?_⟩
      intro g209
      have S : Know g g209 [_, _, _, _, _, _, _] := S.add _
      obtain ⟨a', n', c', h', e, hn', S⟩ := S.app 2 rfl (Nat.le_refl _) S.lo app64 ⟨_, _, _, rfl⟩ (src_get (n := 1) (c := 1) (esz := 2) (off := 0) (S.rd 0 rfl (r := [.int .i64 (Int.ofNat (97 + xs.getD (off + k * 1) 0 % 26)), .bool false]) rfl rfl)) rfl rfl (by omega) (by unfold big; omega)
      have S : Know g h' [_, _, _, _, _, _, _] := S
      refine ⟨_, _, _, _, e, vreq_t (S.cw 1 rfl (by decide) rfl rfl) ?_⟩
      intro g214
      have S : Know g g214 [_, _, _, _, _, _, _] := S.wr 1 rfl (by decide) rfl rfl
      have S : Know g g214 [_, _, _, _, _, _] := S.sub _ (List.sublist_cons_self ..)
      exact ih (k + 1) g214 a' n' c' (by omega) (by rw [e2]; exact S)
    have h3 : kd ≠ 3 := fun h => ne_of_f h3 (by rw [h]; rfl)
    refine vcond_split (fun h4 => ?_) fun h4 => ?_
    · have h4 : kd = 4 := Int.ofNat_inj.1 (eq_of_t h4)
      have ef : fdOf kd (pMany xs) (xs.getD (off + k * 1) 0) = ⟨((xs.getD (off + k * 1) 0 % 2 : Nat) : Int), false⟩ := by unfold fdOf; rw [if_neg h3, if_pos h4]
      rw [ef] at e2
      refine ⟨_, _, _, S.rd 0 rfl rfl rfl, ?_⟩
      intro g209
      have S : Know g g209 [_, _, _, _, _, _, _] := S.add _
      obtain ⟨a', n', c', h', e, hn', S⟩ := S.app 2 rfl (Nat.le_refl _) S.lo app64 ⟨_, _, _, rfl⟩ (src_get (n := 1) (c := 1) (esz := 2) (off := 0) (S.rd 0 rfl (r := [.int .i64 (Int.ofNat (xs.getD (off + k * 1) 0 % 2)), .bool false]) rfl rfl)) rfl rfl (by omega) (by unfold big; omega)
      have S : Know g h' [_, _, _, _, _, _, _] := S
      refine ⟨_, _, _, _, e, vreq_t (S.cw 1 rfl (by decide) rfl rfl) ?_⟩
      intro g214
      have S : Know g g214 [_, _, _, _, _, _, _] := S.wr 1 rfl (by decide) rfl rfl
      have S : Know g g214 [_, _, _, _, _, _] := S.sub _ (List.sublist_cons_self ..)
      exact ih (k + 1) g214 a' n' c' (by omega) (by rw [e2]; exact S)
    have h4 : kd ≠ 4 := fun h => ne_of_f h4 (by rw [h]; rfl)
    have ef : fdOf kd (pMany xs) (xs.getD (off + k * 1) 0) = wordC (pMany xs) (xs.getD (off + k * 1) 0) := by unfold fdOf; rw [if_neg h3, if_neg h4]
    rw [ef] at e2
    intro g224
    have S : Know g g224 [_, _, _, _, _, _, _] := S.rsvK 9
    have n224 : g224.nx = h.nx + 9 := rfl
    have hb8 := S.orng 1 rfl
    have okg : (g224.grd [b8]).Ok := S.okg fun q hq => by rw [List.mem_singleton.1 hq]; exact hb8.2
    obtain ⟨v, h233, e233, rfl, k233⟩ := ct139 hO okg hx (S.rdg 5 rfl (l := [b8]) rfl rfl) (S.orng 5 rfl).2 (n := pMany xs)
    refine ⟨_, _, _, S.rd 1 rfl rfl rfl, _, _, _, e233, ?_⟩
    intro g234
    have S : Know g g234 [_, _, _, _, _, _, _] := S.callg k233
    refine vreq_t (S.fre 0 rfl (Nat.le_add_right ..) (by omega) (by simp)) ?_
    intro g235
    have S : Know g g235 [_, _, _, _, _, _, _, _] := S.lay 0 rfl (Nat.le_add_right ..) (by omega) (by simp) _
    obtain ⟨a', n', c', h', e, hn', S⟩ := S.appg (l := []) 3 rfl (Nat.le_refl _) S.lo app64 (fun _ h => by cases h) ⟨_, _, _, rfl⟩ (src_get (n := 1) (c := 1) (esz := 2) (off := 0) (S.rd 0 rfl (r := [.int .i64 (wordC (pMany xs) (xs.getD (off + k * 1) 0)).n, .bool (wordC (pMany xs) (xs.getD (off + k * 1) 0)).refs]) rfl rfl)) rfl rfl (by omega) (by unfold big; omega)
    refine ⟨_, _, _, _, e, ?_⟩
    intro g240
    have S : Know g g240 [_, _, _, _, _, _, _, _] := S
    refine vreq_t (S.cwg 2 rfl (fun _ h => by cases h) (by decide) rfl rfl) ?_
    intro g241 g242
    have S : Know g g242 [_, _, _, _, _, _, _, _] := S.wrg 2 rfl (fun _ h => by cases h) (by decide) rfl rfl
    have S : Know g g242 [_, _, _, _, _, _] := S.sel [2, 3, 4, 5, 6, 7] (by decide) rfl
    exact ih (k + 1) g242 a' n' c' (by omega) (by rw [e2]; exact S)
end
end Go.Proofs.YtngcjpkccnfjiaaGreatDoor
/- Contracts: drawn, the whole; Repeat. -/
namespace Go.Proofs.YtngcjpkccnfjiaaGreatDoor
set_option maxRecDepth 100000
open Go Go.Ev
theorem pKind_rng (xs : List Nat) (i : Nat) : 1 ≤ pKind xs i ∧ pKind xs i ≤ 5 := by unfold pKind; omega
theorem pSize_rng (xs : List Nat) (i : Nat) : pSize xs i ≤ 4 := by unfold pSize; split <;> omega
theorem pMany_rng (xs : List Nat) : pMany xs ≤ 9 := by unfold pMany; omega
/-- What 'drawn' returns. -/
def QDrawn (g : Hp) (xs : List Nat) : Value → Hp → Prop := fun v h' => ∃ a n c a' n' c' own, v = .tuple #[.slice a n c, .slice a' n' c'] ∧ Know g h' [clo own (fun h => ClsAt h a n (drawnL xs)), acc g.nx 76 2 a' n' c' (fvs (drawnR xs))]
section
variable {O : CallF} (hO : Oth O)
include hO
theorem lp106_0 {g : Hp} {v0 : Array Value} {xs : List Nat} (B : Bytes v0 xs) {b1 bn : Nat} :
    ∀ (d k : Nat) (h : Hp) (a : Option Addr) (n c : Nat) (vs : List Value) (own : Nat → Prop), k + d = pMany xs → Know g h [acc g.nx 72 2 a n c vs, clo own (fun h => Nst h vs ((List.range k).map (pCell xs))), ob bn (.cells [.int .i64 (Int.ofNat (pMany xs))] 3 .fix), ob b1 (.cells (bv xs) 62 .fix)] →
      I106_0 O (QDrawn g xs) v0 b1 0 (.func (.func 139) #[] #[.pointer (some ⟨bn, 0, none⟩)]) a n c (Int.ofNat (pMany xs)) (Int.ofNat k) h := by
  have hlen := B.len
  have hm := pMany_rng xs
  intro d
  induction d with
  | zero =>
    intro k h a n c vs own hk S
    have : k = pMany xs := by omega
    subst this
    refine I106_0.of (hh := ?_) ..
    unfold T106_0
    have hr : ((bv xs).drop 0).take 1 = [.int .u8 (Int.ofNat (xs.getD 0 0))] := bv_at (by omega)
    refine vcond_f (by rw [ltI_nat]; exact blt_f (by omega)) ⟨_, S.rd 3 rfl hr (ble_t (by rw [List.length_map]; omega)), ?_⟩
    have h0 := B.b 0
    rw [wrapN (show xs.getD 0 0 < 9223372036854775808 by omega), show Int.tdiv (Int.ofNat (xs.getD 0 0)) 16 = Int.ofNat (xs.getD 0 0 / 16) from rfl, wrapN (show xs.getD 0 0 / 16 < 9223372036854775808 by omega), show Int.tmod (Int.ofNat (xs.getD 0 0 / 16)) 5 = Int.ofNat (xs.getD 0 0 / 16 % 5) from rfl]
    refine ⟨_, _, _, slice_arr' (by omega), ?_⟩
    have S : Know g h [_, _, _] := S.merge (fun h => ClsAt h a n (drawnL xs)) fun h' A N => cls_of A (clo.get N)
    have S : Know g h [_, _, _, _] := S.accNil g.nx 76 2
    exact lp106_2 hO B (s := xs.getD 0 0 / 16 % 5) (by omega) (fun h2 a2 n2 c2 S2 => ⟨_, _, _, _, _, _, _, rfl, S2.sel [1, 0] (by decide) rfl⟩) (xs.getD 0 0 / 16 % 5) 0 h none 0 0 (by omega) S
  | succ d ih =>
    intro k h a n c vs own hk S
    refine I106_0.of (hh := ?_) ..
    unfold T106_0
    have hkk := B.b (2 + k * 1)
    have ek : xs.getD (0 + 2 + k * 1) 0 = xs.getD (2 + k) 0 := by rw [Nat.zero_add, Nat.mul_one]
    have hr : ((bv xs).drop (0 + 2 + k * 1)).take 1 = [.int .u8 (Int.ofNat (xs.getD (2 + k) 0))] := by rw [← ek]; exact bv_at (by omega)
    have hb : Nat.ble (0 + 2 + k * 1 + 1) (bv xs).length = true := ble_t (by rw [List.length_map]; omega)
    have hk1 : xs.getD (2 + k) 0 < 256 := B.b (2 + k)
    refine vcond_t (by rw [ltI_nat]; exact blt_t (by omega)) (isNat_i (vreq_t (blt_t (by omega)) ⟨_, S.rd 3 rfl hr hb, ?_⟩))
    have e1 : wrapF .i64 (1 + Int.tmod (wrapF .i64 (Int.ofNat (xs.getD (2 + k) 0))) 5) = Int.ofNat (pKind xs k) := by
      rw [wrapN (show xs.getD (2 + k) 0 < 9223372036854775808 by omega)]
      show wrapF .i64 (1 + ((xs.getD (2 + k) 0 % 5 : Nat) : Int)) = ((1 + xs.getD (2 + k) 0 % 5 : Nat) : Int)
      rw [wrap64 (by omega) (by omega)]; omega
    rw [e1]
    intro g103
    have S : Know g g103 [_, _, _, _, _] := S.add _
    refine vreq_t (S.cw 0 rfl (by decide) rfl rfl) ?_
    intro g104
    have S : Know g g104 [_, _, _, _, _] := S.wr 0 rfl (by decide) rfl rfl
    have S : Know g g104 [_, _, _, _, _, _] := S.accNil g.nx 76 2
    have S : Know g g104 [_, _, _, _, _, _] := S.sel [1, 0, 2, 3, 4, 5] (by decide) rfl
    have hpk := pKind_rng xs k
    have hps := pSize_rng xs k
    -- the fields
    have go : I106_1 O (QDrawn g xs) v0 b1 0 (.func (.func 139) #[] #[.pointer (some ⟨bn, 0, none⟩)]) a n c h.nx 0 (Int.ofNat (pMany xs)) (Int.ofNat k) (some ⟨b1, 11 + 4 * k, none⟩) (pSize xs k) 4 (Int.ofNat (pSize xs k)) 0 g104 := by
      refine lp106_1 hO B hps (by omega) (fun h2 a2 n2 c2 S => ?_) (pSize xs k) 0 g104 none 0 0 (by omega) S
      refine I106_1.of (hh := ?_) ..
      unfold T106_1
      refine vcond_f (by rw [ltI_nat]; exact blt_f (by omega)) ⟨_, _, _, _, S.rd 0 rfl rfl rfl, ?_⟩
      intro g247
      have S : Know g g247 [_, _, _, _, _, _, _] := S.add _
      have hn : n = k := by
        have A : AccE g247 g.nx 72 2 a n c vs := S.get 3 rfl
        have N : Nst g247 vs ((List.range k).map (pCell xs)) := clo.get (S.get 4 rfl)
        have := (cls_of A N).1
        simpa using this
      obtain ⟨a', n', c', h', e, hn', S⟩ := S.app 3 rfl (Nat.le_refl _) S.lo app63 ⟨_, _, _, rfl⟩ (src_get (n := 1) (c := 1) (esz := 2) (off := 0) (S.rd 0 rfl (r := [.int .i64 (Int.ofNat (pKind xs k)), .slice a2 n2 c2]) rfl rfl)) rfl rfl (by omega) (by unfold big; omega)
      have S : Know g h' [_, _, _, _, _, _, _] := S
      refine ⟨_, _, _, _, e, ?_⟩
      rw [wrap_succ (by omega)]
      have S : Know g h' [_, _, _, _, _] := S.sel [4, 2, 3, 5, 6] (by decide) rfl
      have S : Know g h' [_, _, _, _] := S.merge (fun h => Nst h (vs ++ [.int .i64 (Int.ofNat (pKind xs k)), .slice a2 n2 c2]) ((List.range (k + 1)).map (pCell xs))) fun h' N A => by
        rw [List.range_succ, List.map_append]
        exact (clo.get N).snoc (c := pCell xs k) (AccE.slAt fdE_len (by decide) A)
      exact ih (k + 1) h' a' n' c' _ _ (by omega) (S.sel [1, 0, 2, 3] (by decide) rfl)
    refine isNat_i (vreq_t (blt_t (by omega)) ⟨_, S.rd 5 rfl hr hb, _, S.rd 0 rfl rfl rfl, vcond_split (fun h4 => ?_) fun h4 => ?_⟩)
    · have h4 : pKind xs k = 4 := Int.ofNat_inj.1 (eq_of_t h4)
      have es : pSize xs k = 1 := if_pos h4
      rw [es] at go
      refine isNat_i (vreq_t (blt_t (by omega)) ⟨_, _, _, slice_arr' (s := 1) (by omega), ?_⟩)
      rw [show 0 + 11 + k * 4 = 11 + 4 * k by omega]
      exact go
    · have h4 : pKind xs k ≠ 4 := fun h => ne_of_f h4 (by rw [h]; rfl)
      have es : pSize xs k = xs.getD (2 + k) 0 / 8 % 5 := if_neg h4
      rw [es] at go
      rw [wrapN (show xs.getD (2 + k) 0 < 9223372036854775808 by omega), show Int.tdiv (Int.ofNat (xs.getD (2 + k) 0)) 8 = Int.ofNat (xs.getD (2 + k) 0 / 8) from rfl, wrapN (show xs.getD (2 + k) 0 / 8 < 9223372036854775808 by omega), show Int.tmod (Int.ofNat (xs.getD (2 + k) 0 / 8)) 5 = Int.ofNat (xs.getD (2 + k) 0 / 8 % 5) from rfl]
      refine isNat_i (vreq_t (blt_t (by omega)) ⟨_, _, _, slice_arr' (by omega), ?_⟩)
      rw [show 0 + 11 + k * 4 = 11 + 4 * k by omega]
      exact go
/-- 'drawn'. -/
theorem ct106 {g : Hp} (ok : g.Ok) {v0 : Array Value} {xs : List Nat} (B : Bytes v0 xs) : Ret Tryz.prog O 106 [.agg v0] g (QDrawn g xs) := by
  refine rk106 (hO := hO _ _ _ (by decide)) (hh := ?_) ..
  unfold T106
  have h0 := B.b 0
  have hlen := B.len
  refine vreq_t (by rw [B.v]; exact bv_one xs) ?_
  intro g1
  have S : Know g g1 [_] := (Know.nil ok).add _
  rw [B.v] at S
  have hr : ((bv xs).drop 0).take 1 = [.int .u8 (Int.ofNat (xs.getD 0 0))] := bv_at (by omega)
  refine ⟨_, S.rd 0 rfl hr (ble_t (by rw [List.length_map]; omega)), ?_⟩
  intro g3
  have S : Know g g3 [_, _] := S.add _
  rw [wrapN (show xs.getD 0 0 < 9223372036854775808 by omega), show Int.tmod (Int.ofNat (xs.getD 0 0)) 10 = Int.ofNat (pMany xs) from rfl]
  refine vreq_t (S.cw 0 rfl (by decide) rfl rfl) ?_
  intro g4
  have S : Know g g4 [_, _] := S.wr 0 rfl (by decide) rfl rfl
  refine ⟨_, S.rd 0 rfl rfl rfl, ?_⟩
  have S : Know g g4 [_, _, _] := S.push (r' := clo (fun _ => False) (fun h => Nst h [] ((List.range 0).map (pCell xs)))) (Kp.refl _ _) (clo.loc _ _) (fun _ _ _ => trivial) fun _ h => h.elim
  have S : Know g g4 [_, _, _, _] := S.accNil g.nx 72 2
  exact lp106_0 hO B (pMany xs) 0 g4 none 0 0 [] _ (by omega) S
end
end Go.Proofs.YtngcjpkccnfjiaaGreatDoor
/- Contracts: Repeat of one number. -/
namespace Go.Proofs.YtngcjpkccnfjiaaGreatDoor
set_option maxRecDepth 100000
open Go Go.Ev
theorem wrapU {n : Nat} (h : n < 18446744073709551616) : wrapF .u64 (Int.ofNat n) = Int.ofNat n := by
  rw [wrapF_eq, wrap_u64, Nat.mod_eq_of_lt h]
theorem shr0 {m : Nat} (h : m < 4294967296) : shrF .u64 (Int.ofNat m) 32 = Int.ofNat 0 := by
  show Int.fdiv (Int.ofNat m) 4294967296 = _
  rw [Int.fdiv_eq_ediv_of_nonneg _ (by decide)]
  show ((m : Int) / 4294967296) = 0
  omega
theorem land_small {m : Nat} (h : m < 4294967296) : landI (Int.ofNat m) 4294967295 = Int.ofNat m := by
  show Int.ofNat (Nat.land m 4294967295) = _
  congr 1
  have : m &&& (2 ^ 32 - 1) = m % 2 ^ 32 := Nat.and_two_pow_sub_one_eq_mod m 32
  show m &&& 4294967295 = m
  rw [show (4294967295 : Nat) = 2 ^ 32 - 1 from rfl, this]
  exact Nat.mod_eq_of_lt h
section
variable {O : CallF} (hO : Oth O)
include hO
theorem ct143 {m : Nat} (hm : m < 4294967296) (h : Hp) : EvT O 143 [.int .u64 (Int.ofNat 1), .int .u64 (Int.ofNat m)] h (.tuple #[.int .u64 (Int.ofNat 0), .int .u64 (Int.ofNat m)]) h := by
  have r : EvT O 152 [.int .u64 (Int.ofNat 1), .int .u64 (Int.ofNat m)] h (.tuple #[.int .u64 (Int.ofNat 0), .int .u64 (Int.ofNat m)]) h := by
    refine evt hO (rk152 (hO := hO _ _ _ (by decide)) (hh := ?_) ..)
    unfold T152
    have z : ∀ x : Int, Int.ofNat 0 * x = Int.ofNat 0 := fun x => Int.zero_mul x
    have z2 : ∀ x : Int, x * Int.ofNat 0 = Int.ofNat 0 := fun x => Int.mul_zero x
    have z3 : Int.ofNat 0 + Int.ofNat 0 = Int.ofNat 0 := rfl
    have o1 : Int.ofNat 1 * Int.ofNat m = Int.ofNat m := Int.one_mul _
    have w0 : wrapF .u64 (Int.ofNat 0) = Int.ofNat 0 := wrapU (by decide)
    have wm : wrapF .u64 (Int.ofNat m) = Int.ofNat m := wrapU (by omega)
    have s1 : shrF .u64 (Int.ofNat 1) 32 = Int.ofNat 0 := shr0 (by decide)
    have s0 : shrF .u64 (Int.ofNat 0) 32 = Int.ofNat 0 := shr0 (by decide)
    have sm : shrF .u64 (Int.ofNat m) 32 = Int.ofNat 0 := shr0 hm
    have l1 : landI (Int.ofNat 1) 4294967295 = Int.ofNat 1 := land_small (by decide)
    have lm : landI (Int.ofNat m) 4294967295 = Int.ofNat m := land_small hm
    have l0 : landI (Int.ofNat 0) 4294967295 = Int.ofNat 0 := land_small (by decide)
    rw [s1, sm, l1, lm, o1, wm, sm, z, z, w0, z3, w0, z2, w0, l0, z3, w0, s0, z3, w0, z3, w0]
    exact vreq_t rfl (vreq_t (blt_t (by omega)) (vreq_t rfl ⟨rfl, rfl⟩))
  refine evt hO (rk143 (hO := hO _ _ _ (by decide)) (hh := ?_) ..)
  unfold T143
  exact ⟨_, _, _, r, rfl, rfl⟩
theorem rep_step {v : Int} {m j : Nat} (hj : j ≤ m) : putAt (List.replicate j v ++ List.replicate (m - j) 0) j (List.replicate (Nat.min j (m - j)) v) = List.replicate (j + Nat.min j (m - j)) v ++ List.replicate (m - (j + Nat.min j (m - j))) 0 := by
  have _ := hO
  have hmin : Nat.min j (m - j) ≤ m - j := Nat.min_le_right ..
  generalize Nat.min j (m - j) = q at hmin
  refine List.ext_getElem? fun i => ?_
  rw [putAt_get _ _ _ (by simp; omega)]
  simp only [List.getElem?_append, List.getElem?_replicate, List.length_replicate]
  by_cases h1 : j ≤ i ∧ i < j + q
  · rw [if_pos h1, if_pos (by omega), if_pos (by omega), if_pos (by omega)]
  · rw [if_neg h1]
    by_cases h2 : i < j
    · rw [if_pos h2, if_pos h2, if_pos (by omega), if_pos (by omega)]
    · rw [if_neg h2, if_neg (show ¬ i < j + q by omega)]
      by_cases h3 : i - j < m - j
      · rw [if_pos h3, if_pos (by omega)]
      · rw [if_neg h3, if_neg (by omega)]
/-- 'slices.Repeat' of one number. -/
theorem ct111 {g : Hp} (ok : g.Ok) {a : Option Addr} {c : Nat} {v : Int} (X : IntsAt g a 1 [v]) {m : Nat} (hm : m < 1000000) : Ret Tryz.prog O 111 [.slice a 1 c, .int .i64 (Int.ofNat m)] g fun r h' => ∃ o, r = .slice (some ⟨o, 0, none⟩) m m ∧ Know g h' [ob o (.cells (iv (List.replicate m v)) 3 .fix)] := by
  refine rk111 (hO := hO _ _ _ (by decide)) (hh := ?_) ..
  unfold T111
  have w1 : wrapF .u64 (Int.ofNat 1) = Int.ofNat 1 := wrapU (by decide)
  have wm : wrapF .u64 (Int.ofNat m) = Int.ofNat m := wrapU (by omega)
  rw [w1, wm]
  have hu : unk = 18446744073709551616 := rfl
  refine vcond_f (ltI_f (by have : Int.ofNat m = (m : Int) := rfl; omega)) ⟨_, _, _, ct143 hO (by omega) g, vcond_f rfl (vcond_f (ltI_f (by have : Int.ofNat m = (m : Int) := rfl; omega)) ?_)⟩
  rw [wrapN (show m < 9223372036854775808 by omega)]
  refine isNat_i (isNat_i (vreq_t (ble_t (Nat.le_refl _)) (vreq_t (ble_t (by omega)) (vreq_t (blt_t (by unfold big; omega)) ?_))))
  intro g6
  have S : Know g g6 [_] := (Know.nil ok).add _
  have ez : List.flatten (List.replicate m [Value.int .i64 0]) = iv (List.replicate m 0) := by
    have : ∀ k, List.flatten (List.replicate k [Value.int .i64 0]) = iv (List.replicate k 0) := by
      intro k
      induction k with
      | zero => rfl
      | succ k ih => rw [List.replicate_succ, List.flatten_cons, ih, List.replicate_succ]; rfl
    exact this m
  rw [ez] at S
  haveI := S.ft
  have lp : ∀ (d j : Nat) (h : Hp), m - j ≤ d → j ≤ m → (1 ≤ j ∨ j = m) → Know g h [ob g.nx (.cells (iv (List.replicate j v ++ List.replicate (m - j) 0)) 3 .fix)] → I111_0 O (fun r h' => ∃ o, r = .slice (some ⟨o, 0, none⟩) m m ∧ Know g h' [ob o (.cells (iv (List.replicate m v)) 3 .fix)]) a 1 c (Int.ofNat m) (some ⟨g.nx, 0, none⟩) m m (Int.ofNat j) h := by
    intro d
    induction d with
    | zero =>
      intro j h hd hj _ S
      have : j = m := by omega
      subst this
      refine I111_0.of (hh := ?_) ..
      unfold T111_0
      refine vcond_f (by rw [ltI_nat]; exact blt_f (by omega)) ⟨_, rfl, ?_⟩
      rw [Nat.sub_self, List.replicate_zero, List.append_nil] at S
      exact S
    | succ d ih =>
      intro j h hd hj h1 S
      refine I111_0.of (hh := ?_) ..
      unfold T111_0
      by_cases hjm : j = m
      · subst hjm
        refine vcond_f (by rw [ltI_nat]; exact blt_f (by omega)) ⟨_, rfl, ?_⟩
        rw [Nat.sub_self, List.replicate_zero, List.append_nil] at S
        exact S
      · refine vcond_t (by rw [ltI_nat]; exact blt_t (by omega)) ?_
        intro g101
        have S : Know g g101 [_] := S.rsv 10
        have lW : (List.replicate j v ++ List.replicate (m - j) 0).length = m := by rw [List.length_append, List.length_replicate, List.length_replicate]; omega
        have hget := S.obj 0 rfl
        have si : SI g101 (some ⟨g.nx, 0, none⟩) m m (List.replicate j v ++ List.replicate (m - j) 0) := SI.cells hget (S.orng 0 rfl).2 lW.symm (by omega)
        obtain ⟨c1, es1⟩ := slice_lo si (l := j) (by omega)
        obtain ⟨a2, c2, es2, sp⟩ := si.part (l := 0) (r := j) (by omega) (by omega) (lo := none) (hi := some (.int .i64 (Int.ofNat j))) fun vis hv => bounds_hi (by omega)
        have et : ((List.replicate j v ++ List.replicate (m - j) 0).drop 0).take (j - 0) = List.replicate j v := by rw [List.drop_zero, List.take_left' (by rw [List.length_replicate]; omega)]
        rw [et] at sp
        have gf : (g101.grd []).guarded g.nx = false := S.gdfg (S.orng 0 rfl).1 fun q hq => by cases hq
        obtain ⟨h18, ec, hg18, ho18, hn18, hgd18, hf18⟩ := copy_ints (h := g101.grd []) (o := g.nx) (off := j) (n := m - j) (m := j - 0) (c2 := c2) (c1 := c1) hget (by decide) gf (by omega) sp.at_
        refine ⟨_, _, _, es1, _, _, _, es2, _, _, ec, ?_⟩
        intro g110
        have em : Nat.min (j - 0) (m - j) = Nat.min j (m - j) := by rw [Nat.sub_zero]
        rw [em] at hg18 ⊢
        have hmin : Nat.min j (m - j) ≤ m - j := Nat.min_le_right ..
        have hmin1 : 1 ≤ Nat.min j (m - j) := by
          rcases Nat.le_total j (m - j) with h | h
          · rw [show Nat.min j (m - j) = j from Nat.min_eq_left h]; omega
          · rw [show Nat.min j (m - j) = m - j from Nat.min_eq_right h]; omega
        have hminj : Nat.min j (m - j) ≤ j := Nat.min_le_left ..
        rw [List.take_replicate, show min (Nat.min j (m - j)) j = Nat.min j (m - j) from Nat.min_eq_left hminj, rep_step hO hj] at hg18
        have S : Know g g110 [ob g.nx (.cells (iv (List.replicate (j + Nat.min j (m - j)) v ++ List.replicate (m - (j + Nat.min j (m - j))) 0)) 3 .fix)] :=
          S.upd 0 rfl ⟨fun o _ ho => ho18 o ho, by show g101.nx ≤ h18.nx; rw [hn18]; exact Nat.le_refl _, rfl, fun f => hf18 f⟩ (ob.loc _ _) hg18 fun _ h => .inl h
        have ew : wrapF .i64 (Int.ofNat j + Int.ofNat (Nat.min j (m - j))) = Int.ofNat (j + Nat.min j (m - j)) := wrapN (n := j + Nat.min j (m - j)) (by omega)
        rw [ew]
        exact ih (j + Nat.min j (m - j)) g110 (by omega) (by omega) (by omega) S
  have hget := S.obj 0 rfl
  have gf : g6.guarded g.nx = false := S.gdf (S.orng 0 rfl).1
  obtain ⟨h18, ec, hg18, ho18, hn18, hgd18, hf18⟩ := copy_ints (h := g6) (o := g.nx) (off := 0) (n := m) (m := 1) (c2 := c) (c1 := m) hget (by decide) gf (by rw [List.length_replicate]; omega) (X.to g6)
  refine ⟨_, _, ec, ?_⟩
  have hmin1 : Nat.min 1 m ≤ 1 := Nat.min_le_left ..
  have hminm : Nat.min 1 m ≤ m := Nat.min_le_right ..
  have e0 : putAt (List.replicate m (0 : Int)) 0 ([v].take (Nat.min 1 m)) = List.replicate (Nat.min 1 m) v ++ List.replicate (m - Nat.min 1 m) 0 := by
    cases m with
    | zero => rfl
    | succ m =>
      rw [show Nat.min 1 (m + 1) = 1 from Nat.min_eq_left (by omega), List.replicate_succ]
      show v :: putAt (List.replicate m 0) 0 [] = v :: List.replicate (m + 1 - 1) 0
      rw [putAt_nil]; rfl
  rw [e0] at hg18
  have S : Know g h18 [ob g.nx (.cells (iv (List.replicate (Nat.min 1 m) v ++ List.replicate (m - Nat.min 1 m) 0)) 3 .fix)] :=
    S.upd 0 rfl ⟨fun o _ ho => ho18 o ho, by rw [hn18]; exact Nat.le_refl _, hgd18, fun f => hf18 f⟩ (ob.loc _ _) hg18 fun _ h => .inl h
  refine lp m (Nat.min 1 m) h18 (by omega) hminm ?_ S
  rcases Nat.eq_zero_or_pos m with rfl | h
  · exact .inr rfl
  · exact .inl (by rw [show Nat.min 1 m = 1 from Nat.min_eq_left h]; exact Nat.le_refl _)
end
end Go.Proofs.YtngcjpkccnfjiaaGreatDoor
